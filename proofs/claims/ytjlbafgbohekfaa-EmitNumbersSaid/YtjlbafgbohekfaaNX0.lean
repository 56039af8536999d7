/- Functions of the machine as plain functions that go on with what follows. -/
import Derived.Test.YtjlbafgbohekfaaNEnv
set_option linter.unusedSimpArgs false
set_option linter.unusedVariables false
set_option linter.unusedSectionVars false
namespace Go.Vm
noncomputable section
def y2lz (h : Heap) : OX :=
(yo h (.bool true))
def ya1 := KK0 y2lz
theorem y21o : T0 y1b9 [.t 4] ya1 := fun _ => by kernel_rfl
def yrx (c a b d : AV) (h : Heap) : OX :=
 W E 0 yms ⟨[(13, c), (96, a), (97, b), (98, d)], h⟩ ya1 (y6 4 ya1 xN) (finP [.t 4])
def yc4 := KK4 yrx 13 96 97 98
theorem ypp : T1 yms ya1 (y6 4 ya1 xN) [.t 4] yc4 := fun s => yu.trans (by kernel_rfl)
def y2fi (c b d e : AV) (h : Heap) : OX :=
ob (yb .add e (.int .i64 1)) fun a =>
(yrx c b d a h)
def y2kt := KK4 y2fi 13 96 97 98
theorem y21n : T1 y1gk yc4 (y6 4 ya1 xN) [.t 4] y2kt := fun _ => by kernel_rfl
def y2gu (c b k a : AV) (h : Heap) : OX :=
ob (y10 9 b a) fun e =>
ob (evLd true 9 e h) fun n =>
oh (newC 0 (some 9) zq0 h) fun d h1 =>
oh (evSt 9 d n h1) fun _ h2 =>
ob (y10 9 c a) fun m =>
ob (evLd true 9 m h2) fun j =>
ob (evLd true 9 d h2) fun i =>
oh (yc E (yd E) 0 none true 28 [j, i] h2) fun g h3 =>
ob (evUn .not g) fun l =>
cnd l
 ((yo h3 (.bool false)))
 ((y2fi c b k a h3))
def y2iy := KK4 y2gu 13 96 97 98
theorem y23d : T1 y1ff yc4 (y6 4 ya1 xN) [.t 4] y2iy := sq y21n fun _ => by kernel_rfl
def y1tx (c b d e a : AV) (h : Heap) : OX :=
cnd a
 ((y2gu c b d e h))
 ((y2lz h))
def y2np := KK5 y1tx 13 96 97 98 99
theorem y22v : T1 y1m9 yc4 (y6 4 ya1 xN) [.t 4] y2np := sq y23d fun _ => by kernel_rfl
def y1y1 (e d a b : AV) (h : Heap) : OX :=
ob (yb .lss b a) fun c =>
(y1tx e d a b c h)
def y2p3 := KK4 y1y1 13 96 97 98
theorem y1xz : T1 y1rn yc4 (y6 4 ya1 xN) [.t 4] y2p3 := sq y22v fun _ => by kernel_rfl
theorem yp4 (c a b d : AV) (h : Heap) : yrx c a b d h = (y1y1 c a b d h) :=
 y27.trans ((y1q _ _ _ (n' := yc4) (fun s => ypp s)).trans ((y1xz _).trans (by kernel_rfl)))
theorem y1z9 : T1 y1ph ya1 xN [.t 4] yc4 := fun s => y11.trans (ypp s)
def y2g2 (e c : AV) (h : Heap) : OX :=
ob (evFa 3 e) fun b =>
ob (evLd false 1 b h) fun a =>
ob (y17 1 a h) fun d =>
(yrx c a d (.int .i64 0) h)
def y264 := KK2 y2g2 5 13
theorem y1y5 : T1 y1rr ya1 xN [.t 4] y264 := sq y1z9 fun _ => by kernel_rfl
theorem y1xd : T0 y18j [.t 4] y264 := sq y21o y1y5
def y1nm (d m c p : AV) (h : Heap) : OX :=
ob (yb .neq m (.int .i64 0)) fun b =>
gb b false (some p) fun g =>
gb b false (evUn .not g) fun i =>
ob (yh b (.bool true) i) fun a =>
gb a false (some c) fun j =>
gb a false (y17 1 j h) fun n =>
gb a false (evFa 3 d) fun k =>
gb a false (evLd false 1 k h) fun e =>
gb a false (y17 1 e h) fun l =>
gb a false (yb .neq n l) fun r =>
ob (yh a (.bool true) r) fun o =>
cnd o
 ((yo h (.bool false)))
 ((y2g2 d c h))
def y2ad := KK4 y1nm 5 12 13 15
theorem y1ov : T0 yxe [.t 4] y2ad := sq y1xd fun _ => by kernel_rfl
def y1sl (i d e : AV) (h : Heap) : OX :=
ob (evLd true 8 d h) fun g =>
oh (yc E (yd E) 0 none true 232 [g] h) fun a h4 =>
ob (y2a 0 a) fun c =>
ob (y2a 1 a) fun j =>
ob (y2a 2 a) fun b =>
(y1nm i e c b h4)
def y2bb := KK3 y1sl 5 11 12
theorem y1r6 : T0 y14a [.t 4] y2bb := sq y1ov fun _ => by kernel_rfl
def yzg (c : AV) (h : Heap) : OX :=
ob (evLd true 5 c h) fun g =>
oh (yc E (yd E) 0 none true 231 [g] h) fun b h5 =>
ob (y2a 0 b) fun d =>
ob (y2a 1 b) fun e =>
oh (newC 0 (some 8) zq1 h5) fun a h6 =>
oh (evSt 8 a d h6) fun _ h7 =>
(y1sl c a e h7)
def y2dd := KK1 yzg 5
theorem y1d7 : T0 yz7 [.t 4] y2dd := sq y1r6 fun _ => by kernel_rfl
def y0w (a : AV) (h : Heap) : OX :=
ob (evFa 3 a) fun g =>
ob (evLd false 1 g h) fun b =>
ob (yq zq0 [(0, 1, (.int .i64 30)), (2, 1, (.int .i64 (-1)))]) fun c =>
oh (yl 0 (some 6) 9 1 zq0 [(0, c)] h) fun i h8 =>
oh (y1v 0 (some 7) 9 96 b i h8) fun e h9 =>
ob (evFa 3 a) fun d =>
oh (evSt 1 d e h9) fun _ h10 =>
(yzg a h10)
def y4c := KK1 y0w 5
theorem y1j7 : T0 y12q [.t 4] y4c := sq y1d7 fun _ => by kernel_rfl
def y9v (b e d c a : AV) (h : Heap) : OX :=
 W E 0 yjv ⟨[(5, b), (6, e), (44, d), (45, c), (46, a)], h⟩ y4c (y6 2 y4c xN) (finP [.t 4])
def y7p := KK5 y9v 5 6 44 45 46
theorem ymc : T1 yjv y4c (y6 2 y4c xN) [.t 4] y7p := fun s => yu.trans (by kernel_rfl)
def y1i4 (c g e d b : AV) (h : Heap) : OX :=
ob (yb .add b (.int .i64 1)) fun a =>
(y9v c g e d a h)
def y9y := KK5 y1i4 5 6 44 45 46
theorem y1gl : T1 y156 y7p (y6 2 y4c xN) [.t 4] y9y := fun _ => by kernel_rfl
def y1sp (a n e l k i : AV) (h : Heap) : OX :=
ob (evFa 3 a) fun g =>
ob (evLd false 1 g h) fun j =>
ob (yq zq0 [(0, 1, (.int .i64 3)), (1, 1, (.int .i64 1)), (7, 1, e)]) fun d =>
oh (yl 0 (some 4) 9 1 zq0 [(0, d)] h) fun b h11 =>
oh (y1v 0 (some 5) 9 96 j b h11) fun m h12 =>
ob (evFa 3 a) fun c =>
oh (evSt 1 c m h12) fun _ h13 =>
(y1i4 a n l k i h13)
def y2ah := KK6 y1sp 5 6 10 44 45 46
theorem y189 : T1 yyq y9y (y6 3 y9y (y6 2 y4c xN)) [.t 4] y2ah := fun _ => by kernel_rfl
def y1qp (e k a j g d : AV) (h : Heap) : OX :=
ob (y17 0 a h) fun i =>
ob (yb .add k i) fun b =>
ob (yb .gtr b (.int .i64 10000)) fun c =>
cnd c
 ((yo h (.bool true)))
 ((y1sp e b a j g d h))
def y2h8 := KK6 y1qp 5 6 10 44 45 46
theorem y1cr : T1 yzw y9y (y6 3 y9y (y6 2 y4c xN)) [.t 4] y2h8 := sq y189 fun _ => by kernel_rfl
def y1q7 (e i b g a : AV) (h : Heap) : OX :=
ob (y10 1 b a) fun c =>
ob (evLd false 1 c h) fun d =>
(y1qp e i d b g a h)
def yug := KK5 y1q7 5 6 44 45 46
theorem y1fn : T1 yxu y9y (y6 3 y9y (y6 2 y4c xN)) [.t 4] yug := sq y1cr fun _ => by kernel_rfl
theorem y1t3 : T1 yvu y9y (y6 2 y4c xN) [.t 4] yug := fun s => y11.trans (y1fn s)
theorem y19t : T1 yvi y7p (y6 2 y4c xN) [.t 4] yug := sq y1gl y1t3
def y0p (a g d c b e : AV) (h : Heap) : OX :=
cnd e
 ((y1q7 a g d c b h))
 ((y0w a h))
def y2d5 := KK6 y0p 5 6 44 45 46 47
theorem y17q : T1 yw2 y7p (y6 2 y4c xN) [.t 4] y2d5 := sq y19t fun _ => by kernel_rfl
def y0h (c g d b a : AV) (h : Heap) : OX :=
ob (yb .lss a b) fun e =>
(y0p c g d b a e h)
def y29a := KK5 y0h 5 6 44 45 46
theorem y1bl : T1 y11f y7p (y6 2 y4c xN) [.t 4] y29a := sq y17q fun _ => by kernel_rfl
theorem ylv (b e d c a : AV) (h : Heap) : y9v b e d c a h = (y0h b e d c a h) :=
 y27.trans ((y1q _ _ _ (n' := y7p) (fun s => ymc s)).trans ((y1bl _).trans (by kernel_rfl)))
theorem y1nw : T1 yw5 y4c xN [.t 4] y7p := fun s => y11.trans (ymc s)
def y13d (a b d : AV) (h : Heap) : OX :=
ob (y17 1 a h) fun c =>
(y9v b d a c (.int .i64 0) h)
def y5f := KK3 y13d 1 5 6
theorem y1lw : T1 y12g y4c xN [.t 4] y5f := sq y1nw fun _ => by kernel_rfl
theorem y17w : T0 yvx [.t 4] y5f := sq y1j7 y1lw
def ye8 (b e g a d c : AV) (h : Heap) : OX :=
 W E 0 yi4 ⟨[(1, b), (5, e), (6, g), (30, a), (31, d), (32, c)], h⟩ y5f (y6 0 y5f xN) (finP [.t 4])
def y81 := KK6 ye8 1 5 6 30 31 32
theorem ym9 : T1 yi4 y5f (y6 0 y5f xN) [.t 4] y81 := fun s => yu.trans (by kernel_rfl)
def y18m (b e i a d c : AV) (h : Heap) : OX :=
ob (yb .add c (.int .i64 1)) fun g =>
(ye8 b e i a d g h)
def y2aq := KK6 y18m 1 5 6 30 31 32
theorem y1pr : T1 ywn y81 (y6 0 y5f xN) [.t 4] y2aq := fun _ => by kernel_rfl
def y1mb (d a p b m c : AV) (h : Heap) : OX :=
ob (y10 1 b c) fun n =>
ob (evLd false 1 n h) fun o =>
ob (evFa 3 a) fun k =>
ob (evLd false 1 k h) fun g =>
ob (yq zq0 [(0, 1, (.int .i64 1)), (5, 1, o)]) fun e =>
oh (yl 0 (some 2) 9 1 zq0 [(0, e)] h) fun l h14 =>
oh (y1v 0 (some 3) 9 96 g l h14) fun i h15 =>
ob (evFa 3 a) fun j =>
oh (evSt 1 j i h15) fun _ h16 =>
(y18m d a p b m c h16)
def y28b := KK6 y1mb 1 5 6 30 31 32
theorem y1fx : T1 yzz y81 (y6 0 y5f xN) [.t 4] y28b := sq y1pr fun _ => by kernel_rfl
def y09 (a b c d i g e : AV) (h : Heap) : OX :=
cnd e
 ((y1mb a b c d i g h))
 ((y13d a b c h))
def y2aj := KK7 y09 1 5 6 30 31 32 33
theorem y1an : T1 y12l y81 (y6 0 y5f xN) [.t 4] y2aj := sq y1fx fun _ => by kernel_rfl
def yy6 (d g i c b a : AV) (h : Heap) : OX :=
ob (yb .lss a b) fun e =>
(y09 d g i c b a e h)
def y2em := KK6 yy6 1 5 6 30 31 32
theorem y1il : T1 ywg y81 (y6 0 y5f xN) [.t 4] y2em := sq y1an fun _ => by kernel_rfl
theorem ykx (b e g a d c : AV) (h : Heap) : ye8 b e g a d c h = (yy6 b e g a d c h) :=
 y27.trans ((y1q _ _ _ (n' := y81) (fun s => ym9 s)).trans ((y1il _).trans (by kernel_rfl)))
theorem y1t5 : T1 y131 y5f xN [.t 4] y81 := fun s => y11.trans (ym9 s)
def y1ht (a b d e : AV) (h : Heap) : OX :=
ob (y17 1 a h) fun c =>
(ye8 b d e a c (.int .i64 0) h)
def y1az := KK4 y1ht 0 1 5 6
theorem y1m1 : T1 yvk y5f xN [.t 4] y1az := sq y1t5 fun _ => by kernel_rfl
theorem y1bi : T0 y122 [.t 4] y1az := sq y17w y1m1
def y19b (b c a : AV) (h : Heap) : OX :=
(y1ht b c a (.int .i64 0) h)
def y289 := KK3 y19b 0 1 5
theorem y1iu : T0 y13g [.t 4] y289 := sq y1bi fun _ => by kernel_rfl
def y1lq (e c : AV) (h : Heap) : OX :=
oh (yl 0 (some 0) 1 2 [(.int .i64 0)] [(0, (.int .i64 2)), (1, (.int .i64 3))] h) fun d h17 =>
ob (yq zq2 [(0, 1, d)]) fun b =>
oh (newC 0 (some 1) zq2 h17) fun a h18 =>
oh (evSt 5 a b h18) fun _ h19 =>
(y19b e c a h19)
def y2f2 := KK2 y1lq 0 1
theorem y1mh : T0 y114 [.t 4] y2f2 := sq y1iu fun _ => by kernel_rfl
def y1ro (c b : AV) (h : Heap) : OX :=
ob (y17 1 c h) fun i =>
ob (yb .gtr i (.int .i64 100)) fun a =>
gb a false (some b) fun d =>
gb a false (y17 1 d h) fun j =>
gb a false (yb .gtr j (.int .i64 100)) fun e =>
ob (yh a (.bool true) e) fun g =>
cnd g
 ((yo h (.bool true)))
 ((y1lq c b h))
def y27x := KK2 y1ro 0 1
theorem y1aw : T0 y11p [.t 4] y27x := sq y1mh fun _ => by kernel_rfl
def y1qu (a c : AV) (h : Heap) : OX :=
oh (yc E (yd E) 0 none true 230 [] h) fun d h20 =>
ob (evUn .not d) fun b =>
cnd b
 ((yo h20 (.bool false)))
 ((y1ro a c h20))
def y2e2 := KK2 y1qu 0 1
theorem y1rb : T0 yyn [.t 4] y2e2 := sq y1aw fun _ => by kernel_rfl
def y12x (a b : AV) (h : Heap) : OX :=
(y1qu a b h)
def y2bx := KK2 y12x 0 1
theorem y1e6 : T0 y0s [.t 4] y2bx := sq y1rb fun _ => by kernel_rfl
@[simp] theorem y2pu : E.pure 229 = true := rfl
theorem y2t9 (a b : AV) : (yd E).p 229 [a, b] = y12x a b [⟨0, .dead⟩, ⟨0, .dead⟩, ⟨0, .dead⟩, ⟨0, .dead⟩, ⟨0, .dead⟩, ⟨0, .dead⟩, ⟨0, .dead⟩, ⟨0, .dead⟩, ⟨0, .dead⟩, ⟨0, .dead⟩] :=
 (y1r (cf := y2ir) (by kernel_rfl) rfl).trans ((y1e6 _).trans (by kernel_rfl))
def y2d0 (h : Heap) : OX :=
oh (yl 0 (some 0) 1 2 [(.int .i64 0)] [(0, (.int .i64 1)), (1, (.int .i64 1))] h) fun K h1 =>
oh (yl 0 (some 1) 1 2 [(.int .i64 0)] [(0, (.int .i64 1)), (1, (.int .i64 0))] h1) fun t h2 =>
ob (yq zq0 [(0, 1, (.int .i64 30)), (2, 1, (.int .i64 1))]) fun x =>
oh (yl 0 (some 2) 9 1 zq0 [(0, x)] h2) fun G h3 =>
ob (yq zq2 [(0, 1, K), (1, 1, t), (2, 1, (.int .i64 1)), (3, 1, G)]) fun o =>
oh (yc E (yd E) 0 none true 231 [o] h3) fun j h4 =>
ob (y2a 0 j) fun A =>
ob (y2a 1 j) fun y =>
oh (newC 0 (some 3) zq1 h4) fun c h5 =>
oh (evSt 8 c A h5) fun _ h6 =>
ob (evLd true 8 c h6) fun N =>
oh (yc E (yd E) 0 none true 233 [N, (.int .i64 0)] h6) fun i h7 =>
ob (y2a 0 i) fun u =>
ob (y2a 1 i) fun p =>
oh (newC 0 (some 4) zq0 h7) fun k h8 =>
oh (evSt 9 k u h8) fun _ h9 =>
ob (yq zq2 []) fun F =>
oh (yc E (yd E) 0 none true 231 [F] h9) fun l h10 =>
ob (y2a 0 l) fun r =>
ob (y2a 1 l) fun B =>
oh (newC 0 (some 5) zq1 h10) fun J h11 =>
oh (evSt 8 J r h11) fun _ h12 =>
ob (yb .eql y (.int .i64 0)) fun a =>
gb a true (evFa 6 c) fun L =>
gb a true (evLd false 1 L h12) fun m =>
gb a true (yb .eql m (.int .i64 2)) fun z =>
ob (yh a z (.bool false)) fun d =>
gb d true (evFa 5 c) fun O =>
gb d true (evLd false 1 O h12) fun C =>
gb d true (yb .eql C (.int .i64 3)) fun H =>
ob (yh d H (.bool false)) fun b =>
gb b true (evFa 0 k) fun D =>
gb b true (evLd false 1 D h12) fun v =>
gb b true (yb .eql v (.int .i64 4)) fun n =>
ob (yh b n (.bool false)) fun g =>
gb g true (some p) fun Q =>
gb g true (yb .gtr Q (.int .i64 0)) fun P =>
ob (yh g P (.bool false)) fun e =>
gb e true (some B) fun M =>
gb e true (yb .eql M (.int .i64 80)) fun I =>
ob (yh e I (.bool false)) fun w =>
(yo h12 w)
def y2lw := KK0 y2d0
theorem y1zh : T0 y1ib [.t 0] y2lw := fun _ => by kernel_rfl
@[simp] theorem y2qo : E.pure 230 = true := rfl
theorem y2ty : (yd E).p 230 [] = y2d0 [⟨0, .dead⟩, ⟨0, .dead⟩, ⟨0, .dead⟩, ⟨0, .dead⟩, ⟨0, .dead⟩, ⟨0, .dead⟩] :=
 (y1r (cf := y2p8) (by kernel_rfl) rfl).trans ((y1zh _).trans (by kernel_rfl))
def q5_1 (a e : AV) (h : Heap) : OX :=
ob (yp e) fun b =>
ob (evFa 0 b) fun d =>
ob (evLd true 8 d h) fun c =>
oh (evSt 8 a c h) fun _ h1 =>
(ob (evLd true 8 a h1) fun r0 =>
 yo h1 (.tup [r0, (.int .i64 0)]))
def yiw := KK2 q5_1 2 6
theorem y2ar : T0 y272 [.cell 2 true 8, .t 3] yiw := fun _ => by kernel_rfl
def y1e5 (b g c d a e : AV) (h : Heap) : OX :=
 W E 0 ytv ⟨[(2, b), (6, g), (13, c), (208, d), (209, a), (210, e)], h⟩ yiw (y6 10 yiw xN) (finP [.cell 2 true 8, .t 3])
def yip := KK6 y1e5 2 6 13 208 209 210
theorem yzx : T1 ytv yiw (y6 10 yiw xN) [.cell 2 true 8, .t 3] yip := fun s => yu.trans (by kernel_rfl)
def q5_3 (c i d e b g : AV) (h : Heap) : OX :=
ob (yb .add g (.int .i64 1)) fun a =>
(y1e5 c i d e b a h)
def y2su := KK6 q5_3 2 6 13 208 209 210
theorem y2dq : T1 y267 yip (y6 10 yiw xN) [.cell 2 true 8, .t 3] y2su := fun _ => by kernel_rfl
def q5_4 (w c b p v g : AV) (h : Heap) : OX :=
ob (y10 4 p g) fun L =>
ob (evLd true 4 L h) fun x =>
oh (newC 0 (some 13) zq3 h) fun a h2 =>
oh (evSt 4 a x h2) fun _ h3 =>
ob (yp c) fun H =>
ob (evFa 0 H) fun z =>
ob (evFa 1 z) fun m =>
ob (evLd false 1 m h3) fun d =>
ob (evFa 0 a) fun n =>
ob (evLd false 1 n h3) fun C =>
ob (y10 1 b C) fun o =>
ob (evLd false 1 o h3) fun A =>
ob (evFa 1 a) fun t =>
ob (evLd false 1 t h3) fun F =>
ob (y10 1 b F) fun k =>
ob (evLd false 1 k h3) fun I =>
ob (evFa 2 a) fun j =>
ob (evLd false 1 j h3) fun B =>
ob (y10 1 b B) fun e =>
ob (evLd false 1 e h3) fun u =>
ob (evFa 3 a) fun l =>
ob (evLd false 1 l h3) fun K =>
ob (yq zq3 [(0, 1, A), (1, 1, I), (2, 1, u), (3, 1, K)]) fun y =>
oh (yl 0 (some 14) 4 1 zq3 [(0, y)] h3) fun r h4 =>
oh (y1v 0 (some 15) 4 40 d r h4) fun G h5 =>
ob (yp c) fun D =>
ob (evFa 0 D) fun J =>
ob (evFa 1 J) fun i =>
oh (evSt 1 i G h5) fun _ h6 =>
okK (y1o [([], []), ([], []), ([], []), ([], []), ([], []), (ids1 m, []), ([], []), ([], []), (ids1 n, []), ([], []), (ids1 o, []), ([], []), ([], []), (ids1 t, []), ([], []), (ids1 k, []), ([], []), ([], []), (ids1 j, []), ([], []), (ids1 e, []), ([], []), (ids1 l, []), ([], []), ([], [0 + 14]), (ids1 r, ids1 d ++ [0 + 15]), ([], []), ([], []), ([], []), ([], ids1 i)] [(5, 24)]) <|
(q5_3 w c b p v g h6)
def y2sp := KK6 q5_4 2 6 13 208 209 210
theorem y2ds : T1 y25l yip (y6 10 yiw xN) [.cell 2 true 8, .t 3] y2sp := sq y2dq fun _ => by kernel_rfl
def q5_5 (a b e g c i d : AV) (h : Heap) : OX :=
cnd d
 ((q5_4 a b e g c i h))
 ((q5_1 a b h))
def y2s9 := KK7 q5_5 2 6 13 208 209 210 211
theorem y2dm : T1 y25m yip (y6 10 yiw xN) [.cell 2 true 8, .t 3] y2s9 := sq y2ds fun _ => by kernel_rfl
def q5_6 (d i e g a b : AV) (h : Heap) : OX :=
ob (yb .lss b a) fun c =>
(q5_5 d i e g a b c h)
def y2sn := KK6 q5_6 2 6 13 208 209 210
theorem y28x : T1 y25d yip (y6 10 yiw xN) [.cell 2 true 8, .t 3] y2sn := sq y2dm fun _ => by kernel_rfl
theorem yxd (b g c d a e : AV) (h : Heap) : y1e5 b g c d a e h = (q5_6 b g c d a e h) :=
 y27.trans ((y1q _ _ _ (n' := yip) (fun s => yzx s)).trans ((y28x _).trans (by kernel_rfl)))
theorem y29c : T1 y25b yiw xN [.cell 2 true 8, .t 3] yip := fun s => y11.trans (yzx s)
def q5_8 (b e i g : AV) (h : Heap) : OX :=
ob (evFa 4 b) fun d =>
ob (evLd false 1 d h) fun a =>
ob (y17 1 a h) fun c =>
(y1e5 e i g a c (.int .i64 0) h)
def yg7 := KK4 q5_8 1 2 6 13
theorem y2eq : T1 y26c yiw xN [.cell 2 true 8, .t 3] yg7 := sq y29c fun _ => by kernel_rfl
theorem y2b6 : T0 y276 [.cell 2 true 8, .t 3] yg7 := sq y2ar y2eq
def yqt (a b i c e d g : AV) (h : Heap) : OX :=
 W E 0 yod ⟨[(1, a), (2, b), (6, i), (13, c), (181, e), (182, d), (183, g)], h⟩ yg7 (y6 8 yg7 xN) (finP [.cell 2 true 8, .t 3])
def ycl := KK7 yqt 1 2 6 13 181 182 183
theorem yqf : T1 yod yg7 (y6 8 yg7 xN) [.cell 2 true 8, .t 3] ycl := fun s => yu.trans (by kernel_rfl)
def y2bp (a b j c g d i : AV) (h : Heap) : OX :=
ob (yb .add i (.int .i64 1)) fun e =>
(yqt a b j c g d e h)
def y2jg := KK7 y2bp 1 2 6 13 181 182 183
theorem y1uc : T1 y1oh ycl (y6 8 yg7 xN) [.cell 2 true 8, .t 3] y2jg := fun _ => by kernel_rfl
def y2bv (w m a c b i e : AV) (h : Heap) : OX :=
ob (y10 1 b e) fun l =>
ob (evLd false 1 l h) fun d =>
ob (yp a) fun z =>
ob (evFa 0 z) fun v =>
ob (evFa 0 v) fun r =>
ob (evLd false 1 r h) fun A =>
ob (yp a) fun t =>
ob (evFa 0 t) fun u =>
ob (evFa 0 u) fun g =>
ob (evLd false 1 g h) fun n =>
ob (y10 1 n d) fun x =>
ob (evLd false 1 x h) fun p =>
ob (y10 1 c p) fun j =>
ob (evLd false 1 j h) fun k =>
ob (y85 .u32 k) fun y =>
ob (y10 1 A d) fun o =>
oh (evSt 1 o y h) fun _ h7 =>
(y2bp w m a c b i e h7)
def y2mo := KK7 y2bv 1 2 6 13 181 182 183
theorem y1yr : T1 y1bv ycl (y6 8 yg7 xN) [.cell 2 true 8, .t 3] y2mo := sq y1uc fun _ => by kernel_rfl
def y247 (a b d c i e j g : AV) (h : Heap) : OX :=
cnd g
 ((y2bv a b d c i e j h))
 ((q5_8 a b d c h))
def y2nw := KK8 y247 1 2 6 13 181 182 183 184
theorem y21l : T1 y1qb ycl (y6 8 yg7 xN) [.cell 2 true 8, .t 3] y2nw := sq y1yr fun _ => by kernel_rfl
def y24g (c d j e i a b : AV) (h : Heap) : OX :=
ob (yb .lss b a) fun g =>
(y247 c d j e i a b g h)
def y2l2 := KK7 y24g 1 2 6 13 181 182 183
theorem y1vz : T1 y1fh ycl (y6 8 yg7 xN) [.cell 2 true 8, .t 3] y2l2 := sq y21l fun _ => by kernel_rfl
theorem yqy (a b i c e d g : AV) (h : Heap) : yqt a b i c e d g h = (y24g a b i c e d g h) :=
 y27.trans ((y1q _ _ _ (n' := ycl) (fun s => yqf s)).trans ((y1vz _).trans (by kernel_rfl)))
theorem y1yk : T1 y1d3 yg7 xN [.cell 2 true 8, .t 3] ycl := fun s => y11.trans (yqf s)
def y2ce (d e b g : AV) (h : Heap) : OX :=
ob (yp b) fun j =>
ob (evFa 10 j) fun c =>
ob (evLd false 1 c h) fun a =>
ob (y17 1 a h) fun i =>
(yqt d e b g a i (.int .i64 0) h)
def y25o := KK4 y2ce 1 2 6 13
theorem y1zn : T1 y198 yg7 xN [.cell 2 true 8, .t 3] y25o := sq y1yk fun _ => by kernel_rfl
theorem y1xi : T0 y1ak [.cell 2 true 8, .t 3] y25o := sq y2b6 y1zn
def y1le (a j c b : AV) (h : Heap) : OX :=
ob (evFa 3 a) fun o =>
ob (evLd false 1 o h) fun n =>
ob (y17 1 n h) fun e =>
ob (yp c) fun g =>
ob (evFa 0 g) fun k =>
ob (evFa 0 k) fun m =>
ob (evLd false 1 m h) fun l =>
ob (y17 1 l h) fun i =>
ob (y10 1 b e) fun d =>
oh (evSt 1 d i h) fun _ h8 =>
(y2ce a j c b h8)
def y2w := KK4 y1le 1 2 6 13
theorem y235 : T0 y19y [.cell 2 true 8, .t 3] y2w := sq y1xi fun _ => by kernel_rfl
def yda (a d j g e i c b : AV) (h : Heap) : OX :=
 W E 0 yn2 ⟨[(1, a), (2, d), (6, j), (12, g), (13, e), (94, i), (95, c), (96, b)], h⟩ y2w (y6 4 y2w xN) (finP [.cell 2 true 8, .t 3])
def ybw := KK8 yda 1 2 6 12 13 94 95 96
theorem yph : T1 yn2 y2w (y6 4 y2w xN) [.cell 2 true 8, .t 3] ybw := fun s => yu.trans (by kernel_rfl)
def y2ea (a d k i e j c b : AV) (h : Heap) : OX :=
ob (yb .add b (.int .i64 1)) fun g =>
(yda a d k i e j c g h)
def y3o := KK8 y2ea 1 2 6 12 13 94 95 96
theorem y1vu : T1 y1a9 ybw (y6 4 y2w xN) [.cell 2 true 8, .t 3] y3o := fun _ => by kernel_rfl
def y1d6 (b e a i g l j d c : AV) (h : Heap) : OX :=
ob (evLd true 9 l h) fun k =>
oh (yc E (yd E) 0 none false 238 [a, k] h) fun m h9 =>
(y2ea b e a i g j d c h9)
def yla := KK9 y1d6 1 2 6 12 13 15 94 95 96
theorem y1ug : T1 y1pu y3o (y6 5 y3o (y6 4 y2w xN)) [.cell 2 true 8, .t 3] yla := fun _ => by kernel_rfl
def y24k (u n a k o p b t v r : AV) (h : Heap) : OX :=
ob (yp a) fun w =>
ob (evFa 0 w) fun j =>
ob (evFa 2 j) fun c =>
ob (evLd false 1 c h) fun d =>
ob (evLd true 2 b h) fun l =>
oh (yl 0 (some 11) 2 1 [(.int .i64 0), .nils] [(0, l)] h) fun e h10 =>
oh (y1v 0 (some 12) 2 32 d e h10) fun i h11 =>
ob (yp a) fun m =>
ob (evFa 0 m) fun x =>
ob (evFa 2 x) fun g =>
oh (evSt 1 g i h11) fun _ h12 =>
okK (y1o [([], []), ([], []), ([], []), ([], []), ([], []), (ids1 c, []), (ids1 b, []), ([], [0 + 11]), (ids1 e, ids1 d ++ [0 + 12]), ([], []), ([], []), ([], []), ([], ids1 g)] [(5, 7)]) <|
(y1d6 u n a k o p t v r h12)
def yaa := KK10 y24k 1 2 6 12 13 15 16 94 95 96
theorem y22a : T1 y1op yla (y6 5 y3o (y6 4 y2w xN)) [.cell 2 true 8, .t 3] yaa := fun _ => by kernel_rfl
def ys3 (a g p k i o m b l d c n j e : AV) (h : Heap) : OX :=
 W E 0 yn7 ⟨[(1, a), (2, g), (6, p), (12, k), (13, i), (14, o), (15, m), (16, b), (94, l), (95, d), (96, c), (128, n), (129, j), (130, e)], h⟩ yaa (y6 6 yaa (y6 5 y3o (y6 4 y2w xN))) (finP [.cell 2 true 8, .t 3])
def yc0 := KK14 ys3 1 2 6 12 13 14 15 16 94 95 96 128 129 130
theorem yrw : T1 yn7 yaa (y6 6 yaa (y6 5 y3o (y6 4 y2w xN))) [.cell 2 true 8, .t 3] yc0 := fun s => yu.trans (by kernel_rfl)
def yul (a g r l i p n b m d c o j e : AV) (h : Heap) : OX :=
ob (yb .add e (.int .i64 1)) fun k =>
(ys3 a g r l i p n b m d c o j k h)
def y2l0 := KK14 yul 1 2 6 12 13 14 15 16 94 95 96 128 129 130
theorem y1w4 : T1 y1l3 yc0 (y6 6 yaa (y6 5 y3o (y6 4 y2w xN))) [.cell 2 true 8, .t 3] y2l0 := fun _ => by kernel_rfl
def y16k (i j p d k g m c o r n e l b : AV) (h : Heap) : OX :=
ob (y10 1 e b) fun w =>
ob (evLd false 1 w h) fun x =>
ob (yb .eql x (.int .i64 3)) fun a =>
gb a true (some d) fun C =>
gb a true (evLd true 5 i h) fun D =>
gb a true (some g) fun z =>
gb a true (some b) fun G =>
gh a true (yc E (yd E) 0 none true 88 [C, D, z, G] h) h fun t h13 =>
ob (yh a t (.bool false)) fun v =>
cnd v
 (ob (evFa 1 c) fun F =>
ob (evLd false 1 F h13) fun A =>
oh (yl 0 none 1 1 [(.int .i64 0)] [(0, b)] h13) fun y h14 =>
oh (y1v 0 none 1 8 A y h14) fun B h15 =>
ob (evFa 1 c) fun u =>
oh (evSt 1 u B h15) fun _ h16 =>
(yul i j p d k g m c o r n e l b h16))
 ((yul i j p d k g m c o r n e l b h13))
def y2o7 := KK14 y16k 1 2 6 12 13 14 15 16 94 95 96 128 129 130
theorem y22f : T1 y1be yc0 (y6 6 yaa (y6 5 y3o (y6 4 y2w xN))) [.cell 2 true 8, .t 3] y2o7 := sq y1w4 fun _ => by kernel_rfl
def yuk (a e l i g r k b j d c p o m n : AV) (h : Heap) : OX :=
cnd n
 ((y16k a e l i g r k b j d c p o m h))
 ((y24k a e l i g k b j d c h))
def y2nx := KK15 yuk 1 2 6 12 13 14 15 16 94 95 96 128 129 130 131
theorem y1x7 : T1 y1s1 yc0 (y6 6 yaa (y6 5 y3o (y6 4 y2w xN))) [.cell 2 true 8, .t 3] y2nx := sq y22f fun _ => by kernel_rfl
def ytp (c j r l k p n d m g e o b a : AV) (h : Heap) : OX :=
ob (yb .lss a b) fun i =>
(yuk c j r l k p n d m g e o b a i h)
def y2j9 := KK14 ytp 1 2 6 12 13 14 15 16 94 95 96 128 129 130
theorem y1yb : T1 y1bd yc0 (y6 6 yaa (y6 5 y3o (y6 4 y2w xN))) [.cell 2 true 8, .t 3] y2j9 := sq y1x7 fun _ => by kernel_rfl
theorem ys0 (a g p k i o m b l d c n j e : AV) (h : Heap) : ys3 a g p k i o m b l d c n j e h = (ytp a g p k i o m b l d c n j e h) :=
 y27.trans ((y1q _ _ _ (n' := yc0) (fun s => yrw s)).trans ((y1yb _).trans (by kernel_rfl)))
theorem y1to : T1 y1sk yaa (y6 5 y3o (y6 4 y2w xN)) [.cell 2 true 8, .t 3] yc0 := fun s => y11.trans (yrw s)
def y2ei (a g p k i o m c l e d : AV) (h : Heap) : OX :=
ob (evFa 0 a) fun n =>
ob (evLd false 1 n h) fun b =>
ob (y17 1 b h) fun j =>
(ys3 a g p k i o m c l e d b j (.int .i64 0) h)
def y26j := KK11 y2ei 1 2 6 12 13 14 15 16 94 95 96
theorem y1ze : T1 y1om yaa (y6 5 y3o (y6 4 y2w xN)) [.cell 2 true 8, .t 3] y26j := sq y1to fun _ => by kernel_rfl
theorem y1zk : T1 y1ke yla (y6 5 y3o (y6 4 y2w xN)) [.cell 2 true 8, .t 3] y26j := sq y22a y1ze
def y2f4 (d j p k b c m l g e : AV) (h : Heap) : OX :=
ob (y10 1 b c) fun n =>
ob (evLd false 1 n h) fun o =>
ob (yq [(.int .i64 0), .nils] [(0, 1, o)]) fun i =>
oh (newC 0 (some 10) [(.int .i64 0), .nils] h) fun a h17 =>
oh (evSt 2 a i h17) fun _ h18 =>
(y2ei d j p k b c m a l g e h18)
def y2ip := KK10 y2f4 1 2 6 12 13 14 15 94 95 96
theorem y1vd : T1 y17z yla (y6 5 y3o (y6 4 y2w xN)) [.cell 2 true 8, .t 3] y2ip := sq y1zk fun _ => by kernel_rfl
def y16a (a d k g e m j i c b l : AV) (h : Heap) : OX :=
cnd l
 ((y2f4 a d k g e m j i c b h))
 ((y1d6 a d k g e j i c b h))
def y2nn := KK11 y16a 1 2 6 12 13 14 15 94 95 96 121
theorem y1xt : T1 y1mr yla (y6 5 y3o (y6 4 y2w xN)) [.cell 2 true 8, .t 3] y2nn := fun s => (y1t (y1vd s) rfl).trans (by kernel_rfl)
def y16c (w k v g l m a t x o : AV) (h : Heap) : OX :=
ob (evFa 0 a) fun j =>
ob (evLd false 1 j h) fun p =>
ob (yb .eql p (.int .i64 20)) fun b =>
gb b false (evFa 0 a) fun e =>
gb b false (evLd false 1 e h) fun u =>
gb b false (yb .eql u (.int .i64 21)) fun d =>
ob (yh b (.bool true) d) fun c =>
gb c false (evLd true 9 a h) fun r =>
gh c false (yc E (yd E) 0 none true 17 [r] h) h fun n h19 =>
ob (yh c (.bool true) n) fun i =>
(y16a w k v g l m a t x o i h19)
def y25e := KK10 y16c 1 2 6 12 13 14 15 94 95 96
theorem y239 : T1 y1ko yla (y6 5 y3o (y6 4 y2w xN)) [.cell 2 true 8, .t 3] y25e := sq y1xt fun _ => by kernel_rfl
theorem y233 : T1 y1b3 y3o (y6 5 y3o (y6 4 y2w xN)) [.cell 2 true 8, .t 3] y25e := sq y1ug y239
def y2g9 (e l c n a b p o i g : AV) (h : Heap) : OX :=
ob (yp c) fun j =>
ob (evFa 0 j) fun t =>
ob (evFa 0 t) fun k =>
ob (evLd false 1 k h) fun m =>
ob (y17 1 m h) fun d =>
ob (y10 1 a b) fun r =>
oh (evSt 1 r d h) fun _ h20 =>
(y16c e l c n a b p o i g h20)
def y2p2 := KK10 y2g9 1 2 6 12 13 14 15 94 95 96
theorem y1x3 : T1 y1qw y3o (y6 5 y3o (y6 4 y2w xN)) [.cell 2 true 8, .t 3] y2p2 := sq y233 fun _ => by kernel_rfl
def y29k (d i m k j b g a : AV) (h : Heap) : OX :=
ob (y10 9 b a) fun e =>
ob (evLd true 9 e h) fun l =>
oh (newC 0 (some 9) zq0 h) fun c h21 =>
oh (evSt 9 c l h21) fun _ h22 =>
(y2g9 d i m k j a c b g a h22)
def y1pj := KK8 y29k 1 2 6 12 13 94 95 96
theorem y1uw : T1 y18g y3o (y6 5 y3o (y6 4 y2w xN)) [.cell 2 true 8, .t 3] y1pj := sq y1x3 fun _ => by kernel_rfl
theorem y20c : T1 y1mf y3o (y6 4 y2w xN) [.cell 2 true 8, .t 3] y1pj := fun s => y11.trans (y1uw s)
theorem y1tt : T1 y1gy ybw (y6 4 y2w xN) [.cell 2 true 8, .t 3] y1pj := sq y1vu y20c
def y1zq (a b d i c j g e k : AV) (h : Heap) : OX :=
cnd k
 ((y29k a b d i c j g e h))
 ((y1le a b d c h))
def y2kv := KK9 y1zq 1 2 6 12 13 94 95 96 97
theorem y1yw : T1 y1e4 ybw (y6 4 y2w xN) [.cell 2 true 8, .t 3] y2kv := sq y1tt fun _ => by kernel_rfl
def y1wr (c d k g e i b a : AV) (h : Heap) : OX :=
ob (yb .lss a b) fun j =>
(y1zq c d k g e i b a j h)
def y2o9 := KK8 y1wr 1 2 6 12 13 94 95 96
theorem y1x9 : T1 y196 ybw (y6 4 y2w xN) [.cell 2 true 8, .t 3] y2o9 := sq y1yw fun _ => by kernel_rfl
theorem yrk (a d j g e i c b : AV) (h : Heap) : yda a d j g e i c b h = (y1wr a d j g e i c b h) :=
 y27.trans ((y1q _ _ _ (n' := ybw) (fun s => yph s)).trans ((y1x9 _).trans (by kernel_rfl)))
theorem y20t : T1 y1gg y2w xN [.cell 2 true 8, .t 3] ybw := fun s => y11.trans (yph s)
def y2d1 (a d j g e : AV) (h : Heap) : OX :=
ob (evFa 3 a) fun i =>
ob (evLd false 1 i h) fun b =>
ob (y17 1 b h) fun c =>
(yda a d j g e b c (.int .i64 0) h)
def y27f := KK5 y2d1 1 2 6 12 13
theorem y1zl : T1 y1nb y2w xN [.cell 2 true 8, .t 3] y27f := sq y20t fun _ => by kernel_rfl
theorem y22r : T0 y1gn [.cell 2 true 8, .t 3] y27f := sq y235 y1zl
def y2g4 (b e k i : AV) (h : Heap) : OX :=
ob (evFa 3 b) fun d =>
ob (evLd false 1 d h) fun j =>
ob (y17 1 j h) fun c =>
ob (yb .add c (.int .i64 1)) fun a =>
oh (mkSC 0 (some 8) 1 8 [(.int .i64 0)] a a h) fun g h23 =>
(y2d1 b e k i g h23)
def y2k3 := KK4 y2g4 1 2 6 12
theorem y210 : T0 y1jb [.cell 2 true 8, .t 3] y2k3 := sq y22r fun _ => by kernel_rfl
def y205 (a d e : AV) (h : Heap) : OX :=
ob (evLd true 5 a h) fun b =>
oh (yc E (yd E) 0 none true 75 [b] h) fun c h24 =>
(y2g4 a d e c h24)
def y9u := KK3 y205 1 2 6
theorem y1zf : T0 y1lu [.cell 2 true 8, .t 3] y9u := sq y210 fun _ => by kernel_rfl
def ypc (b d g e a c : AV) (h : Heap) : OX :=
 W E 0 yor ⟨[(1, b), (2, d), (6, g), (72, e), (73, a), (74, c)], h⟩ y9u (y6 2 y9u xN) (finP [.cell 2 true 8, .t 3])
def ybz := KK6 ypc 1 2 6 72 73 74
theorem yrc : T1 yor y9u (y6 2 y9u xN) [.cell 2 true 8, .t 3] ybz := fun s => yu.trans (by kernel_rfl)
def y2fe (b e i g a c : AV) (h : Heap) : OX :=
ob (yb .add c (.int .i64 1)) fun d =>
(ypc b e i g a d h)
def y2o1 := KK6 y2fe 1 2 6 72 73 74
theorem y244 : T1 y1a6 ybz (y6 2 y9u xN) [.cell 2 true 8, .t 3] y2o1 := fun _ => by kernel_rfl
def y2a6 (k m d c e b : AV) (h : Heap) : OX :=
ob (y10 2 c b) fun n =>
ob (evLd true 2 n h) fun p =>
oh (newC 0 (some 7) [(.int .i64 0), (.int .i64 0)] h) fun a h25 =>
oh (evSt 2 a p h25) fun _ h26 =>
ob (evFa 0 a) fun i =>
ob (evLd false 1 i h26) fun l =>
ob (evFa 1 a) fun g =>
ob (evLd false 1 g h26) fun j =>
ob (yq zq0 [(0, 1, (.int .i64 4)), (1, 1, l), (2, 1, j)]) fun o =>
oh (yc E (yd E) 0 none false 238 [d, o] h26) fun r h27 =>
(y2fe k m d c e b h27)
def y2oq := KK6 y2a6 1 2 6 72 73 74
theorem y1v5 : T1 y1la ybz (y6 2 y9u xN) [.cell 2 true 8, .t 3] y2oq := sq y244 fun _ => by kernel_rfl
def y1xv (a b c g d e i : AV) (h : Heap) : OX :=
cnd i
 ((y2a6 a b c g d e h))
 ((y205 a b c h))
def y2m6 := KK7 y1xv 1 2 6 72 73 74 75
theorem y1yh : T1 y1tm ybz (y6 2 y9u xN) [.cell 2 true 8, .t 3] y2m6 := sq y1v5 fun _ => by kernel_rfl
def y22i (c d i e a b : AV) (h : Heap) : OX :=
ob (yb .lss b a) fun g =>
(y1xv c d i e a b g h)
def y2i3 := KK6 y22i 1 2 6 72 73 74
theorem y1xo : T1 y1df ybz (y6 2 y9u xN) [.cell 2 true 8, .t 3] y2i3 := sq y1yh fun _ => by kernel_rfl
theorem yqa (b d g e a c : AV) (h : Heap) : ypc b d g e a c h = (y22i b d g e a c h) :=
 y27.trans ((y1q _ _ _ (n' := ybz) (fun s => yrc s)).trans ((y1xo _).trans (by kernel_rfl)))
theorem y22s : T1 y1pd y9u xN [.cell 2 true 8, .t 3] ybz := fun s => y11.trans (yrc s)
def y2e3 (c d e a : AV) (h : Heap) : OX :=
ob (y17 1 a h) fun b =>
(ypc c d e a b (.int .i64 0) h)
def y25r := KK4 y2e3 1 2 6 7
theorem y1tw : T1 y1os y9u xN [.cell 2 true 8, .t 3] y25r := sq y22s fun _ => by kernel_rfl
theorem y23x : T0 y1eu [.cell 2 true 8, .t 3] y25r := sq y1zf y1tw
def y1yz (b d e i c : AV) (h : Heap) : OX :=
oh (yc E (yd E) 0 none true 237 [c, e] h) fun a h28 =>
ob (y2a 0 a) fun g =>
ob (y2a 1 a) fun j =>
(y2e3 b d i g h28)
def yau := KK5 y1yz 1 2 5 6 7
theorem y1vw : T0 y1a2 [.cell 2 true 8, .t 3] yau := sq y23x fun _ => by kernel_rfl
def yrb (a d g j b i e c : AV) (h : Heap) : OX :=
 W E 0 yom ⟨[(1, a), (2, d), (5, g), (6, j), (7, b), (52, i), (53, e), (54, c)], h⟩ yau (y6 0 yau xN) (finP [.cell 2 true 8, .t 3])
def yce := KK8 yrb 1 2 5 6 7 52 53 54
theorem yqv : T1 yom yau (y6 0 yau xN) [.cell 2 true 8, .t 3] yce := fun s => yu.trans (by kernel_rfl)
def y2gt (b e i k c j g d : AV) (h : Heap) : OX :=
ob (yb .add d (.int .i64 1)) fun a =>
(yrb b e i k c j g a h)
def y2mf := KK8 y2gt 1 2 5 6 7 52 53 54
theorem y24l : T1 y1dx yce (y6 0 yau xN) [.cell 2 true 8, .t 3] y2mf := fun _ => by kernel_rfl
def y29w (c g l o d b k a : AV) (h : Heap) : OX :=
ob (y10 1 b a) fun m =>
ob (evLd false 1 m h) fun i =>
ob (yq [(.int .i64 0), (.int .i64 0)] [(0, 1, i), (1, 1, a)]) fun e =>
oh (yl 0 (some 5) 2 1 [(.int .i64 0), (.int .i64 0)] [(0, e)] h) fun j h29 =>
oh (y1v 0 (some 6) 2 16 d j h29) fun n h30 =>
(y2gt c g l o n b k a h30)
def y2le := KK8 y29w 1 2 5 6 7 52 53 54
theorem y1v2 : T1 y1h6 yce (y6 0 yau xN) [.cell 2 true 8, .t 3] y2le := sq y24l fun _ => by kernel_rfl
def y22l (a c d e b k j i g : AV) (h : Heap) : OX :=
cnd g
 ((y29w a c d e b k j i h))
 ((y1yz a c d e b h))
def y2nl := KK9 y22l 1 2 5 6 7 52 53 54 55
theorem y236 : T1 y1jq yce (y6 0 yau xN) [.cell 2 true 8, .t 3] y2nl := sq y1v2 fun _ => by kernel_rfl
def y243 (d g i k e j b a : AV) (h : Heap) : OX :=
ob (yb .lss a b) fun c =>
(y22l d g i k e j b a c h)
def y2nq := KK8 y243 1 2 5 6 7 52 53 54
theorem y215 : T1 y1a8 yce (y6 0 yau xN) [.cell 2 true 8, .t 3] y2nq := sq y236 fun _ => by kernel_rfl
theorem yq0 (a d g j b i e c : AV) (h : Heap) : yrb a d g j b i e c h = (y243 a d g j b i e c h) :=
 y27.trans ((y1q _ _ _ (n' := yce) (fun s => yqv s)).trans ((y215 _).trans (by kernel_rfl)))
theorem y212 : T1 y1d5 yau xN [.cell 2 true 8, .t 3] yce := fun s => y11.trans (yqv s)
def y29s (a e i j d : AV) (h : Heap) : OX :=
ob (evFa 1 a) fun c =>
ob (evLd false 1 c h) fun b =>
ob (y17 1 b h) fun g =>
(yrb a e i j d b g (.int .i64 0) h)
def y25w := KK5 y29s 1 2 5 6 7
theorem y1xf : T1 y1j8 yau xN [.cell 2 true 8, .t 3] y25w := sq y212 fun _ => by kernel_rfl
theorem y1z4 : T0 y1ir [.cell 2 true 8, .t 3] y25w := sq y1vw y1xf
def y2ev (c b a d : AV) (h : Heap) : OX :=
(y29s c b a d AV.nils h)
def y2jb := KK4 y2ev 1 2 5 6
theorem y1u3 : T0 y17t [.cell 2 true 8, .t 3] y2jb := sq y1z4 fun _ => by kernel_rfl
def y2a7 (a g b : AV) (h : Heap) : OX :=
oh (mkmC 0 (some 2) h) fun d h31 =>
oh (mkmC 0 (some 3) h31) fun i h32 =>
ob (evFa 1 a) fun e =>
ob (evLd false 1 e h32) fun m =>
ob (y17 1 m h32) fun n =>
ob (evFa 2 a) fun o =>
ob (evLd false 1 o h32) fun p =>
ob (yb .add b (.int .i64 1)) fun j =>
ob (yq zq1 [(6, 1, n), (7, 1, p), (5, 1, j)]) fun c =>
ob (yq zq4 [(8, 1, d), (9, 1, i), (0, 8, c)]) fun l =>
oh (newC 0 (some 4) (cellsOf l) h32) fun k h33 =>
(y2ev a g b k h33)
def y2lr := KK3 y2a7 1 2 5
theorem y1yv : T0 y180 [.cell 2 true 8, .t 3] y2lr := sq y1u3 fun _ => by kernel_rfl
def y29d (c a b : AV) (h : Heap) : OX :=
ob (yb .geq b (.int .i64 250)) fun d =>
cnd d
 (ob (yq zq1 []) fun e =>
oh (evSt 8 a e h) fun _ h34 =>
(ob (evLd true 8 a h34) fun r0 =>
 yo h34 (.tup [r0, (.int .i64 81)])))
 ((y2a7 c a b h))
def y2ow := KK3 y29d 1 2 5
theorem y1zv : T0 y1o4 [.cell 2 true 8, .t 3] y2ow := sq y1yv fun _ => by kernel_rfl
def y2f9 (a e : AV) (h : Heap) : OX :=
ob (evFa 0 a) fun c =>
ob (evLd false 1 c h) fun b =>
ob (y17 1 b h) fun j =>
ob (evFa 1 a) fun g =>
ob (evLd false 1 g h) fun d =>
ob (y17 1 d h) fun i =>
ob (ycy true j i) fun k =>
(y29d a e k h)
def y2kr := KK2 y2f9 1 2
theorem y1yp : T0 y1j0 [.cell 2 true 8, .t 3] y2kr := sq y1zv fun _ => by kernel_rfl
def y20h (c a : AV) (h : Heap) : OX :=
ob (evLd true 5 c h) fun e =>
oh (yc E (yd E) 0 none true 8 [e] h) fun b h35 =>
ob (yb .neq b (.int .i64 0)) fun g =>
cnd g
 (ob (yq zq1 []) fun d =>
oh (evSt 8 a d h35) fun _ h36 =>
(ob (evLd true 8 a h36) fun r0 =>
 yo h36 (.tup [r0, b])))
 ((y2f9 c a h35))
def y2kl := KK2 y20h 1 2
theorem y1wk : T0 y1fo [.cell 2 true 8, .t 3] y2kl := sq y1yp fun _ => by kernel_rfl
def y207 (b : AV) (h : Heap) : OX :=
oh (newC 0 (some 0) (cellsOf b) h) fun c h37 =>
oh (newC 0 (some 1) zq1 h37) fun a h38 =>
(y20h c a h38)
def y2pd := KK1 y207 0
theorem y23f : T0 y1cs [.cell 2 true 8, .t 3] y2pd := sq y1wk fun _ => by kernel_rfl
@[simp] theorem y2qk : E.pure 231 = true := rfl
theorem x_q5 (a : AV) : (yd E).p 231 [a] = y207 a [⟨0, .dead⟩, ⟨0, .dead⟩, ⟨0, .dead⟩, ⟨0, .dead⟩, ⟨0, .dead⟩, ⟨0, .dead⟩, ⟨0, .dead⟩, ⟨0, .dead⟩, ⟨0, .dead⟩, ⟨0, .dead⟩, ⟨0, .dead⟩, ⟨0, .dead⟩, ⟨0, .dead⟩, ⟨0, .dead⟩, ⟨0, .dead⟩, ⟨0, .dead⟩] :=
 (y1r (cf := c_q5) (by kernel_rfl) rfl).trans ((y23f _).trans (by kernel_rfl))
def y20x (g j e a : AV) (h : Heap) : OX :=
oh (yl 0 (some 6) 1 1 [(.int .i64 0)] [(0, a)] h) fun b h1 =>
oh (y1v 0 (some 7) 1 8 e b h1) fun k h2 =>
ob (evFa 0 g) fun d =>
ob (evLd false 1 d h2) fun c =>
ob (y17 1 c h2) fun i =>
ob (yb .eql a i) fun l =>
okK (y1o [([], []), ([], []), ([], []), ([], [0 + 6]), (ids1 b, ids1 e ++ [0 + 7]), ([], []), ([], []), (ids1 d, []), (ids1 c, []), ([], []), ([], []), ([], []), ([], [])] [(3, 7), (4, 7), (3, 8), (4, 8)]) <|
(yo h2 (.tup [j, k, l]))
def yab := KK4 y20x 1 5 6 7
theorem y1wl : T0 y1kp [.t 2, .t 3, .t 4] yab := fun _ => by kernel_rfl
def yj0 (c a d b : AV) (h : Heap) : OX :=
 W E 0 yok ⟨[(1, c), (5, a), (6, d), (7, b)], h⟩ yab (y6 0 yab xN) (finP [.t 2, .t 3, .t 4])
def y5p := KK4 yj0 1 5 6 7
theorem yq2 : T1 yok yab (y6 0 yab xN) [.t 2, .t 3, .t 4] y5p := fun s => yu.trans (by kernel_rfl)
def y2ao (e k n a c g : AV) (h : Heap) : OX :=
ob (evLd true 9 c h) fun i =>
oh (yl 0 (some 2) 9 1 zq0 [(0, i)] h) fun m h3 =>
oh (y1v 0 (some 3) 9 96 k m h3) fun l h4 =>
oh (yl 0 (some 4) 1 1 [(.int .i64 0)] [(0, a)] h4) fun d h5 =>
oh (y1v 0 (some 5) 1 8 n d h5) fun b h6 =>
ob (yb .add a g) fun j =>
(yj0 e l b j h6)
def y2i6 := KK6 y2ao 1 5 6 7 8 9
theorem y1w2 : T1 y1nl y5p (y6 1 y5p (y6 0 yab xN)) [.t 2, .t 3, .t 4] y2i6 := fun _ => by kernel_rfl
def y2fn (c g i d b a : AV) (h : Heap) : OX :=
ob (yb .lss a (.int .i64 1)) fun e =>
cnd e
 ((yo h (.tup [AV.nils, AV.nils, (.bool false)])))
 ((y2ao c g i d b a h))
def y2l1 := KK6 y2fn 1 5 6 7 8 9
theorem y20m : T1 y1d1 y5p (y6 1 y5p (y6 0 yab xN)) [.t 2, .t 3, .t 4] y2l1 := sq y1w2 fun _ => by kernel_rfl
def y2ey (b i k c : AV) (h : Heap) : OX :=
ob (evLd true 8 b h) fun e =>
oh (yc E (yd E) 0 none true 233 [e, c] h) fun d h7 =>
ob (y2a 0 d) fun g =>
ob (y2a 1 d) fun j =>
oh (newC 0 (some 1) zq0 h7) fun a h8 =>
oh (evSt 9 a g h8) fun _ h9 =>
(y2fn b i k c a j h9)
def y250 := KK4 y2ey 1 5 6 7
theorem y23g : T1 y1de y5p (y6 1 y5p (y6 0 yab xN)) [.t 2, .t 3, .t 4] y250 := sq y20m fun _ => by kernel_rfl
theorem y1yu : T1 y1bs y5p (y6 0 yab xN) [.t 2, .t 3, .t 4] y250 := fun s => y11.trans (y23g s)
def y1xx (a c d b : AV) (h : Heap) : OX :=
ob (evFa 0 a) fun g =>
ob (evLd false 1 g h) fun i =>
ob (y17 1 i h) fun e =>
ob (yb .lss b e) fun j =>
cnd j
 ((y2ey a c d b h))
 ((y20x a c d b h))
def y2k7 := KK4 y1xx 1 5 6 7
theorem y1wz : T1 y1bq y5p (y6 0 yab xN) [.t 2, .t 3, .t 4] y2k7 := sq y1yu fun _ => by kernel_rfl
theorem ypi (c a d b : AV) (h : Heap) : yj0 c a d b h = (y1xx c a d b h) :=
 y27.trans ((y1q _ _ _ (n' := y5p) (fun s => yq2 s)).trans ((y1wz _).trans (by kernel_rfl)))
theorem y1xa : T1 y1ge yab xN [.t 2, .t 3, .t 4] y5p := fun s => y11.trans (yq2 s)
theorem y1xq : T0 y1er [.t 2, .t 3, .t 4] y5p := sq y1wl y1xa
def y25a (b a c : AV) (h : Heap) : OX :=
(yj0 b a c (.int .i64 0) h)
def y2h5 := KK3 y25a 1 5 6
theorem y1mu : T0 yvb [.t 2, .t 3, .t 4] y2h5 := sq y1xq fun _ => by kernel_rfl
def y186 (b a : AV) (h : Heap) : OX :=
(y25a b a AV.nils h)
def y2fc := KK2 y186 1 5
theorem y19d : T0 y13w [.t 2, .t 3, .t 4] y2fc := sq y1mu fun _ => by kernel_rfl
def y1nj (a : AV) (h : Heap) : OX :=
(y186 a AV.nils h)
def y2d6 := KK1 y1nj 1
theorem y1ju : T0 y06 [.t 2, .t 3, .t 4] y2d6 := sq y19d fun _ => by kernel_rfl
def y12y (a : AV) (h : Heap) : OX :=
oh (newC 0 (some 0) (cellsOf a) h) fun b h10 =>
(y1nj b h10)
def y2ez := KK1 y12y 0
theorem y1h5 : T0 y13e [.t 2, .t 3, .t 4] y2ez := sq y1ju fun _ => by kernel_rfl
@[simp] theorem y2qa : E.pure 232 = true := rfl
theorem y2tp (a : AV) : (yd E).p 232 [a] = y12y a [⟨0, .dead⟩, ⟨0, .dead⟩, ⟨0, .dead⟩, ⟨0, .dead⟩, ⟨0, .dead⟩, ⟨0, .dead⟩, ⟨0, .dead⟩, ⟨0, .dead⟩] :=
 (y1r (cf := y2nf) (by kernel_rfl) rfl).trans ((y1h5 _).trans (by kernel_rfl))
def ygx (X a7 : AV) (h : Heap) : OX :=
oh (newC 0 (some 0) (cellsOf X) h) fun a h1 =>
oh (newC 0 (some 1) (cellsOf a7) h1) fun b h2 =>
ob (evFa 0 a) fun U =>
ob (evLd false 1 U h2) fun a0 =>
ob (evFa 0 b) fun I =>
ob (evLd false 1 I h2) fun a3 =>
ob (yb .eql a0 a3) fun e =>
gb e true (evFa 1 a) fun M =>
gb e true (evLd false 1 M h2) fun o =>
gb e true (evFa 1 b) fun x =>
gb e true (evLd false 1 x h2) fun D =>
gb e true (yb .eql o D) fun B =>
ob (yh e B (.bool false)) fun d =>
gb d true (evFa 2 a) fun u =>
gb d true (evLd false 1 u h2) fun y =>
gb d true (evFa 2 b) fun r =>
gb d true (evLd false 1 r h2) fun O =>
gb d true (yb .eql y O) fun L =>
ob (yh d L (.bool false)) fun k =>
gb k true (evFa 3 a) fun F =>
gb k true (evLd false 1 F h2) fun Y =>
gb k true (evFa 3 b) fun t =>
gb k true (evLd false 1 t h2) fun m =>
gb k true (yb .eql Y m) fun a4 =>
ob (yh k a4 (.bool false)) fun c =>
gb c true (evFa 4 a) fun a9 =>
gb c true (evLd false 1 a9 h2) fun w =>
gb c true (evFa 4 b) fun b0 =>
gb c true (evLd false 1 b0 h2) fun G =>
gb c true (yb .eql w G) fun N =>
ob (yh c N (.bool false)) fun i =>
gb i true (evFa 5 a) fun J =>
gb i true (evLd false 1 J h2) fun z =>
gb i true (evFa 5 b) fun n =>
gb i true (evLd false 1 n h2) fun a8 =>
gb i true (yb .eql z a8) fun C =>
ob (yh i C (.bool false)) fun l =>
gb l true (evFa 6 a) fun p =>
gb l true (evLd false 1 p h2) fun Z =>
gb l true (evFa 6 b) fun a5 =>
gb l true (evLd false 1 a5 h2) fun P =>
gb l true (yb .eql Z P) fun A =>
ob (yh l A (.bool false)) fun g =>
gb g true (evFa 7 a) fun R =>
gb g true (evLd false 1 R h2) fun K =>
gb g true (evFa 7 b) fun H =>
gb g true (evLd false 1 H h2) fun Q =>
gb g true (yb .eql K Q) fun V =>
ob (yh g V (.bool false)) fun j =>
gb j true (evFa 8 a) fun a6 =>
gb j true (evLd false 1 a6 h2) fun b1 =>
gb j true (evFa 8 b) fun v =>
gb j true (evLd false 1 v h2) fun S =>
gh j true (yc E (yd E) 0 none true 11 [b1, S] h2) h2 fun a1 h3 =>
ob (yh j a1 (.bool false)) fun a2 =>
(yo h3 a2)
def y2hv := KK2 ygx 0 1
theorem y23c : T0 y18u [.t 4] y2hv := fun _ => by kernel_rfl
@[simp] theorem y2u8 : E.pure 28 = true := rfl
theorem y2t8 (a b : AV) : (yd E).p 28 [a, b] = ygx a b [⟨0, .dead⟩, ⟨0, .dead⟩] :=
 (y1r (cf := y2pc) (by kernel_rfl) rfl).trans ((y23c _).trans (by kernel_rfl))
def yst (h : Heap) : OX :=
(yo h (.bool true))
def ybs := KK0 yst
theorem y20i : T0 y1tn [.t 4] ybs := fun _ => by kernel_rfl
def ylq (b c a : AV) (h : Heap) : OX :=
 W E 0 ynw ⟨[(0, b), (1, c), (5, a)], h⟩ ybs (y6 0 ybs xN) (finP [.t 4])
def yet := KK3 ylq 0 1 5
theorem ypt : T1 ynw ybs (y6 0 ybs xN) [.t 4] yet := fun s => yu.trans (by kernel_rfl)
def ysr (b c a : AV) (h : Heap) : OX :=
ob (yb .add a (.int .i64 1)) fun d =>
(ylq b c d h)
def y2mt := KK3 ysr 0 1 5
theorem y1zj : T1 y1cx yet (y6 0 ybs xN) [.t 4] y2mt := fun _ => by kernel_rfl
def ytx (c b a : AV) (h : Heap) : OX :=
ob (y10 1 c a) fun g =>
ob (evLd false 1 g h) fun j =>
ob (y10 1 b a) fun i =>
ob (evLd false 1 i h) fun e =>
ob (yb .neq j e) fun d =>
cnd d
 ((yo h (.bool false)))
 ((ysr c b a h))
def y2ji := KK3 ytx 0 1 5
theorem y22p : T1 y1ct yet (y6 0 ybs xN) [.t 4] y2ji := sq y1zj fun _ => by kernel_rfl
def ytt (b c a : AV) (h : Heap) : OX :=
ob (y17 1 b h) fun d =>
ob (yb .lss a d) fun e =>
cnd e
 ((ytx b c a h))
 ((yst h))
def y2pj := KK3 ytt 0 1 5
theorem y1y3 : T1 y1pl yet (y6 0 ybs xN) [.t 4] y2pj := sq y22p fun _ => by kernel_rfl
theorem yp5 (b c a : AV) (h : Heap) : ylq b c a h = (ytt b c a h) :=
 y27.trans ((y1q _ _ _ (n' := yet) (fun s => ypt s)).trans ((y1y3 _).trans (by kernel_rfl)))
theorem y242 : T1 y1lz ybs xN [.t 4] yet := fun s => y11.trans (ypt s)
def ysm (a b : AV) (h : Heap) : OX :=
(ylq a b (.int .i64 0) h)
def y279 := KK2 ysm 0 1
theorem y214 : T1 y1eb ybs xN [.t 4] y279 := sq y242 fun _ => by kernel_rfl
theorem y1uq : T0 y19s [.t 4] y279 := sq y20i y214
def yuj (b a : AV) (h : Heap) : OX :=
ob (y17 1 b h) fun c =>
ob (y17 1 a h) fun d =>
ob (yb .neq c d) fun e =>
cnd e
 ((yo h (.bool false)))
 ((ysm b a h))
def y2i0 := KK2 yuj 0 1
theorem y218 : T0 y1dz [.t 4] y2i0 := sq y1uq fun _ => by kernel_rfl
def yjj (a b : AV) (h : Heap) : OX :=
(yuj a b h)
def y2at := KK2 yjj 0 1
theorem y19x : T0 yxk [.t 4] y2at := sq y218 fun _ => by kernel_rfl
@[simp] theorem y2tq : E.pure 11 = true := rfl
theorem y2sg (a b : AV) : (yd E).p 11 [a, b] = yjj a b [] :=
 (y1r (cf := y2ou) (by kernel_rfl) rfl).trans ((y19x _).trans (by kernel_rfl))
def q4_1 (a d b : AV) (h : Heap) : OX :=
ob (evLd true 9 d h) fun c =>
oh (evSt 9 a c h) fun _ h1 =>
(ob (evLd true 9 a h1) fun r0 =>
 yo h1 (.tup [r0, b]))
def ytw := KK3 q4_1 4 7 8
theorem y2dj : T0 y25q [.cell 4 true 9, .t 5] ytw := fun _ => by kernel_rfl
def q4_2 (e b a c : AV) (h : Heap) : OX :=
ob (yb .add a c) fun d =>
(q4_1 e b d h)
def yjx := KK4 q4_2 4 7 8 13
theorem y285 : T1 y255 ytw xN [.cell 4 true 9, .t 5] yjx := fun _ => by kernel_rfl
def y1ab (i b a e c d g : AV) (h : Heap) : OX :=
 W E 0 ysz ⟨[(4, i), (7, b), (8, a), (13, e), (130, c), (131, d), (132, g)], h⟩ yjx (y6 0 yjx xN) (finP [.cell 4 true 9, .t 5])
def yhg := KK7 y1ab 4 7 8 13 130 131 132
theorem y118 : T1 ysz yjx (y6 0 yjx xN) [.cell 4 true 9, .t 5] yhg := fun s => yu.trans (by kernel_rfl)
def q4_4 (i b a e c d g : AV) (h : Heap) : OX :=
ob (yb .add g (.int .i64 1)) fun j =>
(y1ab i b a e c d j h)
def y2u0 := KK7 q4_4 4 7 8 13 130 131 132
theorem y295 : T1 y25s yhg (y6 0 yjx xN) [.cell 4 true 9, .t 5] y2u0 := fun _ => by kernel_rfl
def q4_5 (n a d k b g c : AV) (h : Heap) : OX :=
ob (y10 1 b c) fun r =>
ob (evLd false 1 r h) fun l =>
ob (evFa 8 a) fun e =>
ob (evLd false 1 e h) fun o =>
ob (y85 .i64 l) fun j =>
oh (yl 0 (some 3) 1 1 [(.int .i64 0)] [(0, j)] h) fun m h2 =>
oh (y1v 0 (some 4) 1 8 o m h2) fun p h3 =>
ob (evFa 8 a) fun i =>
oh (evSt 1 i p h3) fun _ h4 =>
(q4_4 n a d k b g c h4)
def y2u1 := KK7 q4_5 4 7 8 13 130 131 132
theorem y2f8 : T1 y25i yhg (y6 0 yjx xN) [.cell 4 true 9, .t 5] y2u1 := sq y295 fun _ => by kernel_rfl
def q4_6 (d b a c e g i j : AV) (h : Heap) : OX :=
cnd j
 ((q4_5 d b a c e g i h))
 ((q4_2 d b a c h))
def y2s4 := KK8 q4_6 4 7 8 13 130 131 132 133
theorem y2fy : T1 y26f yhg (y6 0 yjx xN) [.cell 4 true 9, .t 5] y2s4 := sq y2f8 fun _ => by kernel_rfl
def q4_7 (i d c g e a b : AV) (h : Heap) : OX :=
ob (yb .lss b a) fun j =>
(q4_6 i d c g e a b j h)
def y2rv := KK7 q4_7 4 7 8 13 130 131 132
theorem y2fl : T1 y24n yhg (y6 0 yjx xN) [.cell 4 true 9, .t 5] y2rv := sq y2fy fun _ => by kernel_rfl
theorem y11k (i b a e c d g : AV) (h : Heap) : y1ab i b a e c d g h = (q4_7 i b a e c d g h) :=
 y27.trans ((y1q _ _ _ (n' := yhg) (fun s => y118 s)).trans ((y2fl _).trans (by kernel_rfl)))
theorem y2d9 : T1 y256 yjx xN [.cell 4 true 9, .t 5] yhg := fun s => y11.trans (y118 s)
def q4_9 (b k m i a d : AV) (h : Heap) : OX :=
ob (evFa 0 k) fun o =>
ob (evLd false 1 o h) fun g =>
ob (yb .add b a) fun n =>
ob (yb .add b a) fun e =>
ob (yb .add e d) fun l =>
ob (y79 1 g (some n) (some l)) fun c =>
ob (y17 1 c h) fun j =>
(y1ab m i a d c j (.int .i64 0) h)
def y2jh := KK6 q4_9 1 2 4 7 8 13
theorem y2dc : T1 y27j yjx xN [.cell 4 true 9, .t 5] y2jh := sq y2d9 fun _ => by kernel_rfl
theorem y1yc : T1 y1oz ytw xN [.cell 4 true 9, .t 5] y2jh := sq y285 y2dc
def y21i (c d a i b e : AV) (h : Heap) : OX :=
ob (evFa 0 d) fun k =>
ob (evLd false 1 k h) fun g =>
ob (y17 1 g h) fun j =>
ob (yb .sub j c) fun o =>
ob (yb .sub o b) fun l =>
ob (yb .gtr e l) fun n =>
cnd n
 (ob (yq zq0 []) fun m =>
oh (evSt 9 a m h) fun _ h5 =>
(ob (evLd true 9 a h5) fun r0 =>
 yo h5 (.tup [r0, (.int .i64 0)])))
 ((q4_9 c d a i b e h))
def y2nj := KK6 y21i 1 2 4 7 8 13
theorem y22j : T1 y1lj ytw xN [.cell 4 true 9, .t 5] y2nj := sq y1yc fun _ => by kernel_rfl
def y1z5 (c g k d a i : AV) (h : Heap) : OX :=
ob (y10 1 i (.int .i64 1)) fun e =>
ob (evLd false 1 e h) fun b =>
ob (y85 .i64 b) fun j =>
(y21i c g k d a j h)
def y2l7 := KK6 y1z5 1 2 4 7 8 12
theorem y21f : T1 y18e ytw xN [.cell 4 true 9, .t 5] y2l7 := sq y22j fun _ => by kernel_rfl
def y1gm (d e c b a g i : AV) (h : Heap) : OX :=
cnd i
 ((y1z5 d e c b a g h))
 ((q4_1 c b a h))
def y2ls := KK7 y1gm 1 2 4 7 8 12 105
theorem y21j : T1 y1ns ytw xN [.cell 4 true 9, .t 5] y2ls := fun s => (y1t (y21f s) rfl).trans (by kernel_rfl)
def y221 (c e i a b g : AV) (h : Heap) : OX :=
ob (evLd true 9 a h) fun d =>
oh (yc E (yd E) 0 none true 17 [d] h) fun j h6 =>
(y1gm c e i a b g j h6)
def y24q := KK6 y221 1 2 4 7 8 12
theorem y1zm : T1 y1du ytw xN [.cell 4 true 9, .t 5] y24q := sq y21j fun _ => by kernel_rfl
theorem y1ul : T0 y1or [.cell 4 true 9, .t 5] y24q := sq y2dj y1zm
def y2bu (i c a b e d : AV) (h : Heap) : OX :=
ob (evLd true 8 c h) fun j =>
oh (yc E (yd E) 0 none false 236 [j, b, d] h) fun g h7 =>
ob (evUn .not g) fun l =>
cnd l
 (ob (yq zq0 []) fun k =>
oh (evSt 9 a k h7) fun _ h8 =>
(ob (evLd true 9 a h8) fun r0 =>
 yo h8 (.tup [r0, (.int .i64 0)])))
 ((y221 i c a b e d h7))
def y2n3 := KK6 y2bu 1 2 4 7 8 12
theorem y1u0 : T0 y1kn [.cell 4 true 9, .t 5] y2n3 := sq y1ul fun _ => by kernel_rfl
def y16i (a c l e b : AV) (h : Heap) : OX :=
ob (evFa 0 c) fun d =>
ob (evLd false 1 d h) fun g =>
ob (yb .add a (.int .i64 1)) fun i =>
ob (yb .add a b) fun j =>
ob (y79 1 g (some i) (some j)) fun k =>
(y2bu a c l e b k h)
def y2m7 := KK5 y16i 1 2 4 7 8
theorem y1v0 : T0 y1m7 [.cell 4 true 9, .t 5] y2m7 := sq y1u0 fun _ => by kernel_rfl
def y15t (d e i a c g : AV) (h : Heap) : OX :=
ob (yb .geq g (.int .i64 0)) fun b =>
gb b false (evFa 0 a) fun l =>
gb b false (evLd false 1 l h) fun j =>
gb b false (yb .eql j (.int .i64 29)) fun m =>
ob (yh b (.bool true) m) fun n =>
cnd n
 (ob (evFa 3 a) fun k =>
oh (evSt 1 k g h) fun _ h9 =>
(y16i d e i a c h9))
 ((y16i d e i a c h))
def y2p9 := KK6 y15t 1 2 4 7 8 10
theorem y1xb : T0 y1d8 [.cell 4 true 9, .t 5] y2p9 := sq y1v0 fun _ => by kernel_rfl
def y15r (d g j a c e i : AV) (h : Heap) : OX :=
ob (yb .geq e (.int .i64 0)) fun b =>
gb b false (evFa 0 a) fun n =>
gb b false (evLd false 1 n h) fun o =>
gb b false (yb .eql o (.int .i64 30)) fun m =>
ob (yh b (.bool true) m) fun l =>
cnd l
 (ob (evFa 2 a) fun k =>
oh (evSt 1 k e h) fun _ h10 =>
(y15t d g j a c i h10))
 ((y15t d g j a c i h))
def y2nv := KK7 y15r 1 2 4 7 8 9 10
theorem y1un : T0 y1b4 [.cell 4 true 9, .t 5] y2nv := sq y1xb fun _ => by kernel_rfl
def y1w3 (d g j r a c e i : AV) (h : Heap) : OX :=
ob (yb .shr r (.int .u64 16)) fun o =>
oh (yc E (yd E) 0 none true 235 [o] h) fun k h11 =>
ob (yb .geq k (.int .i64 0)) fun b =>
gb b false (evLd true 9 a h11) fun p =>
gh b false (yc E (yd E) 0 none true 17 [p] h11) h11 fun m h12 =>
ob (yh b (.bool true) m) fun l =>
cnd l
 (ob (evFa 1 a) fun n =>
oh (evSt 1 n k h12) fun _ h13 =>
(y15r d g j a c e i h13))
 ((y15r d g j a c e i h12))
def y2pa := KK8 y1w3 1 2 4 6 7 8 9 10
theorem y217 : T0 y1m0 [.cell 4 true 9, .t 5] y2pa := sq y1un fun _ => by kernel_rfl
def y2de (c e i a d b : AV) (h : Heap) : OX :=
ob (yb .shr a (.int .u64 8)) fun j =>
oh (yc E (yd E) 0 none true 235 [j] h) fun g h14 =>
oh (yc E (yd E) 0 none true 235 [a] h14) fun k h15 =>
(y1w3 c e i a d b g k h15)
def y2hu := KK6 y2de 1 2 4 6 7 8
theorem y1w8 : T0 y18a [.cell 4 true 9, .t 5] y2hu := sq y217 fun _ => by kernel_rfl
def yq1 (i e c w d g : AV) (h : Heap) : OX :=
ob (evFa 0 d) fun o =>
ob (evLd false 1 o h) fun j =>
ob (yb .lss j (.int .i64 1)) fun b =>
gb b false (evFa 0 d) fun l =>
gb b false (evLd false 1 l h) fun z =>
gb b false (yb .gtr z (.int .i64 33)) fun y =>
ob (yh b (.bool true) y) fun a =>
gb a false (some g) fun x =>
gb a false (evFa 0 e) fun r =>
gb a false (evLd false 1 r h) fun k =>
gb a false (y17 1 k h) fun n =>
gb a false (some i) fun v =>
gb a false (yb .sub n v) fun u =>
gb a false (yb .gtr x u) fun p =>
ob (yh a (.bool true) p) fun m =>
cnd m
 (ob (yq zq0 []) fun t =>
oh (evSt 9 c t h) fun _ h16 =>
(ob (evLd true 9 c h16) fun r0 =>
 yo h16 (.tup [r0, (.int .i64 0)])))
 ((y2de i e c w d g h))
def y2po := KK6 yq1 1 2 4 6 7 8
theorem y20b : T0 y1bp [.cell 4 true 9, .t 5] y2po := sq y1w8 fun _ => by kernel_rfl
def y2fw (b d g k a : AV) (h : Heap) : OX :=
ob (evFa 0 a) fun j =>
ob (evLd false 1 j h) fun e =>
oh (yc E (yd E) 0 none true 234 [e] h) fun c h17 =>
ob (yb .add (.int .i64 1) c) fun i =>
(yq1 b d g k a i h17)
def y2ka := KK5 y2fw 1 2 4 6 7
theorem y1z6 : T0 y1a3 [.cell 4 true 9, .t 5] y2ka := sq y20b fun _ => by kernel_rfl
def y28p (c e j b : AV) (h : Heap) : OX :=
ob (yb .shr b (.int .u64 24)) fun g =>
ob (y85 .i64 g) fun d =>
ob (yq zq0 [(0, 1, d)]) fun i =>
oh (newC 0 (some 2) zq0 h) fun a h18 =>
oh (evSt 9 a i h18) fun _ h19 =>
(y2fw c e j b a h19)
def y2n9 := KK4 y28p 1 2 4 6
theorem y22o : T0 y1nd [.cell 4 true 9, .t 5] y2n9 := sq y1z6 fun _ => by kernel_rfl
def y2fa (a b g : AV) (h : Heap) : OX :=
ob (evFa 0 b) fun i =>
ob (evLd false 1 i h) fun e =>
ob (y10 1 e a) fun d =>
ob (evLd false 1 d h) fun c =>
(y28p a b g c h)
def y2lc := KK3 y2fa 1 2 4
theorem y20w : T0 y1pp [.cell 4 true 9, .t 5] y2lc := sq y22o fun _ => by kernel_rfl
def yts (b d c : AV) (h : Heap) : OX :=
ob (yb .lss b (.int .i64 0)) fun a =>
gb a false (some b) fun i =>
gb a false (evFa 0 d) fun m =>
gb a false (evLd false 1 m h) fun k =>
gb a false (y17 1 k h) fun j =>
gb a false (yb .geq i j) fun l =>
ob (yh a (.bool true) l) fun g =>
cnd g
 (ob (yq zq0 []) fun e =>
oh (evSt 9 c e h) fun _ h20 =>
(ob (evLd true 9 c h20) fun r0 =>
 yo h20 (.tup [r0, (.int .i64 0)])))
 ((y2fa b d c h))
def y2pm := KK3 yts 1 2 4
theorem y219 : T0 y1mz [.cell 4 true 9, .t 5] y2pm := sq y20w fun _ => by kernel_rfl
def y24m (c d : AV) (h : Heap) : OX :=
oh (newC 0 (some 0) (cellsOf c) h) fun b h21 =>
oh (newC 0 (some 1) zq0 h21) fun a h22 =>
(yts d b a h22)
def y2o6 := KK2 y24m 0 1
theorem y23s : T0 y1ey [.cell 4 true 9, .t 5] y2o6 := sq y219 fun _ => by kernel_rfl
@[simp] theorem y2q4 : E.pure 233 = true := rfl
theorem x_q4 (a b : AV) : (yd E).p 233 [a, b] = y24m a b [⟨0, .dead⟩, ⟨0, .dead⟩, ⟨0, .dead⟩, ⟨0, .dead⟩, ⟨0, .dead⟩] :=
 (y1r (cf := c_q4) (by kernel_rfl) rfl).trans ((y23s _).trans (by kernel_rfl))
def y2gh (h : Heap) : OX :=
(yo h (.int .i64 0))
def y9t := KK0 y2gh
theorem y1yo : T0 y1af [.t 2] y9t := fun _ => by kernel_rfl
def ylw (a c b e d : AV) (h : Heap) : OX :=
 W E 0 yoc ⟨[(1, a), (3, c), (136, b), (137, e), (138, d)], h⟩ y9t (y6 6 y9t xN) (finP [.t 2])
def yc6 := KK5 ylw 1 3 136 137 138
theorem yqj : T1 yoc y9t (y6 6 y9t xN) [.t 2] yc6 := fun s => yu.trans (by kernel_rfl)
def y2ci (a c b g d : AV) (h : Heap) : OX :=
ob (yb .add d (.int .i64 1)) fun e =>
(ylw a c b g e h)
def y2oe := KK5 y2ci 1 3 136 137 138
theorem y21e : T1 y1js yc6 (y6 6 y9t xN) [.t 2] y2oe := fun _ => by kernel_rfl
def yns (k i l L j : AV) (h : Heap) : OX :=
ob (y10 4 l j) fun C =>
ob (evLd true 4 C h) fun S =>
oh (newC 0 (some 2) zq3 h) fun b h1 =>
oh (evSt 4 b S h1) fun _ h2 =>
ob (evFa 0 b) fun r =>
ob (evLd false 1 r h2) fun w =>
ob (yb .lss w (.int .i64 0)) fun c =>
gb c false (evFa 0 b) fun t =>
gb c false (evLd false 1 t h2) fun y =>
gb c false (evFa 1 b) fun I =>
gb c false (evLd false 1 I h2) fun u =>
gb c false (yb .geq y u) fun P =>
ob (yh c (.bool true) P) fun d =>
gb d false (evFa 1 b) fun O =>
gb d false (evLd false 1 O h2) fun o =>
gb d false (some i) fun v =>
gb d false (yb .gtr o v) fun z =>
ob (yh d (.bool true) z) fun g =>
gb g false (evFa 2 b) fun m =>
gb g false (evLd false 1 m h2) fun A =>
gb g false (yb .lss A (.int .i64 0)) fun R =>
ob (yh g (.bool true) R) fun e =>
gb e false (evFa 2 b) fun G =>
gb e false (evLd false 1 G h2) fun B =>
gb e false (some i) fun D =>
gb e false (yb .geq B D) fun x =>
ob (yh e (.bool true) x) fun a =>
gb a false (evFa 3 k) fun H =>
gb a false (evLd false 1 H h2) fun M =>
gb a false (evFa 2 b) fun p =>
gb a false (evLd false 1 p h2) fun F =>
gb a false (y10 9 M F) fun J =>
gb a false (evFa 0 J) fun Q =>
gb a false (evLd false 1 Q h2) fun N =>
gb a false (yb .neq N (.int .i64 32)) fun n =>
ob (yh a (.bool true) n) fun K =>
cnd K
 ((yo h2 (.int .i64 80)))
 ((y2ci k i l L j h2))
def y2mu := KK5 yns 1 3 136 137 138
theorem y225 : T1 y1s0 yc6 (y6 6 y9t xN) [.t 2] y2mu := sq y21e fun _ => by kernel_rfl
def y1w9 (a c b g e d : AV) (h : Heap) : OX :=
cnd d
 ((yns a c b g e h))
 ((y2gh h))
def y2mi := KK6 y1w9 1 3 136 137 138 139
theorem y20u : T1 y1jp yc6 (y6 6 y9t xN) [.t 2] y2mi := sq y225 fun _ => by kernel_rfl
def y1za (c e d b a : AV) (h : Heap) : OX :=
ob (yb .lss a b) fun g =>
(y1w9 c e d b a g h)
def y2k9 := KK5 y1za 1 3 136 137 138
theorem y248 : T1 y1s5 yc6 (y6 6 y9t xN) [.t 2] y2k9 := sq y20u fun _ => by kernel_rfl
theorem yr8 (a c b e d : AV) (h : Heap) : ylw a c b e d h = (y1za a c b e d h) :=
 y27.trans ((y1q _ _ _ (n' := yc6) (fun s => yqj s)).trans ((y248 _).trans (by kernel_rfl)))
theorem y1ty : T1 y1o9 y9t xN [.t 2] yc6 := fun s => y11.trans (yqj s)
def y1rf (a c : AV) (h : Heap) : OX :=
ob (evFa 4 a) fun d =>
ob (evLd false 1 d h) fun b =>
ob (y17 1 b h) fun e =>
(ylw a c b e (.int .i64 0) h)
def y5q := KK2 y1rf 1 3
theorem y209 : T1 y1ik y9t xN [.t 2] y5q := sq y1ty fun _ => by kernel_rfl
theorem y1vs : T0 y1mj [.t 2] y5q := sq y1yo y209
def yf4 (a b c e d : AV) (h : Heap) : OX :=
 W E 0 yhf ⟨[(1, a), (3, b), (92, c), (93, e), (94, d)], h⟩ y5q (y6 4 y5q xN) (finP [.t 2])
def y8g := KK5 yf4 1 3 92 93 94
theorem ykk : T1 yhf y5q (y6 4 y5q xN) [.t 2] y8g := fun s => yu.trans (by kernel_rfl)
def y14p (a b c g d : AV) (h : Heap) : OX :=
ob (yb .add d (.int .i64 1)) fun e =>
(yf4 a b c g e h)
def yaw := KK5 y14p 1 3 92 93 94
theorem y1ng : T1 y12k y8g (y6 4 y5q xN) [.t 2] yaw := fun _ => by kernel_rfl
def ybk (g D i e m L I : AV) (h : Heap) : OX :=
ob (evFa 0 e) fun O =>
ob (evLd false 1 O h) fun N =>
ob (yb .eql N (.int .i64 32)) fun d =>
gb d true (some i) fun M =>
gb d true (yb .eql M (.int .i64 0)) fun k =>
gb d true (some k) fun b =>
gb b false (evFa 3 g) fun w =>
gb b false (evLd false 1 w h) fun G =>
gb b false (some i) fun B =>
gb b false (yb .sub B (.int .i64 1)) fun C =>
gb b false (y10 9 G C) fun n =>
gb b false (evLd true 9 n h) fun K =>
gh b false (yc E (yd E) 0 none true 24 [K] h) h fun j h3 =>
gb b false (evUn .not j) fun H =>
gb d true (yh b (.bool true) H) fun o =>
ob (yh d o (.bool false)) fun c =>
gb c false (evLd true 9 e h3) fun p =>
gh c false (yc E (yd E) 0 none true 22 [p] h3) h3 fun v h4 =>
gb c false (some v) fun a =>
gb a true (evFa 3 g) fun r =>
gb a true (evLd false 1 r h4) fun A =>
gb a true (evFa 6 e) fun l =>
gb a true (evLd false 1 l h4) fun J =>
gb a true (y10 9 A J) fun t =>
gb a true (evFa 0 t) fun y =>
gb a true (evLd false 1 y h4) fun x =>
gb a true (yb .eql x (.int .i64 32)) fun F =>
gb c false (yh a F (.bool false)) fun z =>
ob (yh c (.bool true) z) fun u =>
cnd u
 ((yo h4 (.int .i64 80)))
 ((y14p g D m L I h4))
def y2dt := KK7 ybk 1 3 8 9 92 93 94
theorem y1q3 : T1 y11h yaw (y6 5 yaw (y6 4 y5q xN)) [.t 2] y2dt := fun _ => by kernel_rfl
def yxx (a g c b i m j : AV) (h : Heap) : OX :=
ob (evLd true 5 a h) fun e =>
ob (evLd true 9 b h) fun k =>
oh (yc E (yd E) 0 none true 63 [e, k] h) fun d h5 =>
ob (evUn .not d) fun l =>
cnd l
 ((yo h5 (.int .i64 80)))
 ((ybk a g c b i m j h5))
def y2h9 := KK7 yxx 1 3 8 9 92 93 94
theorem y1f7 : T1 y139 yaw (y6 5 yaw (y6 4 y5q xN)) [.t 2] y2h9 := sq y1q3 fun _ => by kernel_rfl
def yql (d e c j a : AV) (h : Heap) : OX :=
ob (y10 9 c a) fun g =>
ob (evLd true 9 g h) fun i =>
oh (newC 0 (some 1) zq0 h) fun b h6 =>
oh (evSt 9 b i h6) fun _ h7 =>
(yxx d e a b c j a h7)
def yu0 := KK5 yql 1 3 92 93 94
theorem y19m : T1 y11n yaw (y6 5 yaw (y6 4 y5q xN)) [.t 2] yu0 := sq y1f7 fun _ => by kernel_rfl
theorem y1bz : T1 y13o yaw (y6 4 y5q xN) [.t 2] yu0 := fun s => y11.trans (y19m s)
theorem y1b5 : T1 y11r y8g (y6 4 y5q xN) [.t 2] yu0 := sq y1ng y1bz
def yx3 (a b d g e c : AV) (h : Heap) : OX :=
cnd c
 ((yql a b d g e h))
 ((y1rf a b h))
def y28u := KK6 yx3 1 3 92 93 94 95
theorem y1od : T1 y12j y8g (y6 4 y5q xN) [.t 2] y28u := sq y1b5 fun _ => by kernel_rfl
def yyx (c e g b a : AV) (h : Heap) : OX :=
ob (yb .lss a b) fun d =>
(yx3 c e g b a d h)
def y2c4 := KK5 yyx 1 3 92 93 94
theorem y1rs : T1 y0f y8g (y6 4 y5q xN) [.t 2] y2c4 := sq y1od fun _ => by kernel_rfl
theorem ykm (a b c e d : AV) (h : Heap) : yf4 a b c e d h = (yyx a b c e d h) :=
 y27.trans ((y1q _ _ _ (n' := y8g) (fun s => ykk s)).trans ((y1rs _).trans (by kernel_rfl)))
theorem y1ed : T1 y14g y5q xN [.t 2] y8g := fun s => y11.trans (ykk s)
def ypl (a d : AV) (h : Heap) : OX :=
ob (evFa 3 a) fun c =>
ob (evLd false 1 c h) fun b =>
ob (y17 1 b h) fun e =>
(yf4 a d b e (.int .i64 0) h)
def y5g := KK2 ypl 1 3
theorem y1pg : T1 y0x y5q xN [.t 2] y5g := sq y1ed fun _ => by kernel_rfl
theorem y1gq : T0 y12d [.t 2] y5g := sq y1vs y1pg
def yea (a c b d e : AV) (h : Heap) : OX :=
 W E 0 yiq ⟨[(1, a), (3, c), (62, b), (63, d), (64, e)], h⟩ y5g (y6 2 y5g xN) (finP [.t 2])
def y7w := KK5 yea 1 3 62 63 64
theorem ym3 : T1 yiq y5g (y6 2 y5g xN) [.t 2] y7w := fun s => yu.trans (by kernel_rfl)
def y1fw (a d b e g : AV) (h : Heap) : OX :=
ob (yb .add g (.int .i64 1)) fun c =>
(yea a d b e c h)
def y2fr := KK5 y1fw 1 3 62 63 64
theorem y1r2 : T1 y13m y7w (y6 2 y5g xN) [.t 2] y2fr := fun _ => by kernel_rfl
def yjk (g t i x c : AV) (h : Heap) : OX :=
ob (y10 1 i c) fun m =>
ob (evLd false 1 m h) fun e =>
ob (yb .lss e (.int .i64 0)) fun b =>
gb b false (some e) fun v =>
gb b false (evFa 0 g) fun j =>
gb b false (evLd false 1 j h) fun r =>
gb b false (y17 1 r h) fun A =>
gb b false (yb .geq v A) fun w =>
ob (yh b (.bool true) w) fun a =>
gb a false (evFa 1 g) fun p =>
gb a false (evLd false 1 p h) fun o =>
gb a false (some c) fun n =>
gb a false (y79 1 o none (some n)) fun k =>
gb a false (some e) fun z =>
gh a false (yc E (yd E) 0 none true 46 [k, z] h) h fun l h8 =>
ob (yh a (.bool true) l) fun d =>
gb d false (some c) fun y =>
gb d false (yb .gtr y (.int .i64 20)) fun u =>
ob (yh d (.bool true) u) fun B =>
cnd B
 ((yo h8 (.int .i64 80)))
 ((y1fw g t i x c h8))
def y2bi := KK5 yjk 1 3 62 63 64
theorem y1sf : T1 yym y7w (y6 2 y5g xN) [.t 2] y2bi := sq y1r2 fun _ => by kernel_rfl
def y151 (a b c d e g : AV) (h : Heap) : OX :=
cnd g
 ((yjk a b c d e h))
 ((ypl a b h))
def y27s := KK6 y151 1 3 62 63 64 65
theorem y1f5 : T1 yy0 y7w (y6 2 y5g xN) [.t 2] y27s := sq y1sf fun _ => by kernel_rfl
def y14t (c e d a b : AV) (h : Heap) : OX :=
ob (yb .lss b a) fun g =>
(y151 c e d a b g h)
def y2et := KK5 y14t 1 3 62 63 64
theorem y1s3 : T1 yx5 y7w (y6 2 y5g xN) [.t 2] y2et := sq y1f5 fun _ => by kernel_rfl
theorem ym1 (a c b d e : AV) (h : Heap) : yea a c b d e h = (y14t a c b d e h) :=
 y27.trans ((y1q _ _ _ (n' := y7w) (fun s => ym3 s)).trans ((y1s3 _).trans (by kernel_rfl)))
theorem y1dk : T1 y12u y5g xN [.t 2] y7w := fun s => y11.trans (ym3 s)
def yoy (a c : AV) (h : Heap) : OX :=
ob (evFa 1 a) fun e =>
ob (evLd false 1 e h) fun b =>
ob (y17 1 b h) fun d =>
(yea a c b d (.int .i64 0) h)
def y5m := KK2 yoy 1 3
theorem y1gb : T1 y13c y5g xN [.t 2] y5m := sq y1dk fun _ => by kernel_rfl
theorem y1oe : T0 yxg [.t 2] y5m := sq y1gq y1gb
def yef (b c a e d : AV) (h : Heap) : OX :=
 W E 0 yi5 ⟨[(1, b), (3, c), (48, a), (49, e), (50, d)], h⟩ y5m (y6 0 y5m xN) (finP [.t 2])
def y7x := KK5 yef 1 3 48 49 50
theorem yll : T1 yi5 y5m (y6 0 y5m xN) [.t 2] y7x := fun s => yu.trans (by kernel_rfl)
def y1sg (c d a g e : AV) (h : Heap) : OX :=
ob (yb .add e (.int .i64 1)) fun b =>
(yef c d a g b h)
def y2g0 := KK5 y1sg 1 3 48 49 50
theorem y1i6 : T1 yvq y7x (y6 0 y5m xN) [.t 2] y2g0 := fun _ => by kernel_rfl
def ysb (e g b j c : AV) (h : Heap) : OX :=
ob (y10 1 b c) fun k =>
ob (evLd false 1 k h) fun d =>
ob (yb .lss d (.int .i64 1)) fun a =>
gb a false (some d) fun l =>
gb a false (yb .gtr l (.int .i64 3)) fun m =>
ob (yh a (.bool true) m) fun i =>
cnd i
 ((yo h (.int .i64 80)))
 ((y1sg e g b j c h))
def y2dk := KK5 ysb 1 3 48 49 50
theorem y1ok : T1 y128 y7x (y6 0 y5m xN) [.t 2] y2dk := sq y1i6 fun _ => by kernel_rfl
def y12w (a b d g e c : AV) (h : Heap) : OX :=
cnd c
 ((ysb a b d g e h))
 ((yoy a b h))
def y2cq := KK6 y12w 1 3 48 49 50 51
theorem y1kg : T1 yyw y7x (y6 0 y5m xN) [.t 2] y2cq := sq y1ok fun _ => by kernel_rfl
def y14f (e g d b a : AV) (h : Heap) : OX :=
ob (yb .lss a b) fun c =>
(y12w e g d b a c h)
def y2cd := KK5 y14f 1 3 48 49 50
theorem y1eq : T1 yzk y7x (y6 0 y5m xN) [.t 2] y2cd := sq y1kg fun _ => by kernel_rfl
theorem ykd (b c a e d : AV) (h : Heap) : yef b c a e d h = (y14f b c a e d h) :=
 y27.trans ((y1q _ _ _ (n' := y7x) (fun s => yll s)).trans ((y1eq _).trans (by kernel_rfl)))
theorem y1cp : T1 y15k y5m xN [.t 2] y7x := fun s => y11.trans (yll s)
def ylp (b c : AV) (h : Heap) : OX :=
ob (evFa 0 b) fun e =>
ob (evLd false 1 e h) fun a =>
ob (y17 1 a h) fun d =>
(yef b c a d (.int .i64 0) h)
def y1gv := KK2 ylp 1 3
theorem y1pv : T1 y12n y5m xN [.t 2] y1gv := sq y1cp fun _ => by kernel_rfl
theorem y1h7 : T0 yv6 [.t 2] y1gv := sq y1oe y1pv
def ydj (c e : AV) (h : Heap) : OX :=
ob (yb .lss e (.int .i64 1)) fun i =>
gb i false (some e) fun o =>
gb i false (yb .gtr o (.int .i64 20000)) fun r =>
ob (yh i (.bool true) r) fun b =>
gb b false (evFa 0 c) fun z =>
gb b false (evLd false 1 z h) fun F =>
gb b false (y17 1 F h) fun n =>
gb b false (yb .gtr n (.int .i64 20000)) fun w =>
ob (yh b (.bool true) w) fun g =>
gb g false (evFa 2 c) fun k =>
gb g false (evLd false 1 k h) fun A =>
gb g false (yb .lss A (.int .i64 0)) fun j =>
ob (yh g (.bool true) j) fun d =>
gb d false (evFa 2 c) fun p =>
gb d false (evLd false 1 p h) fun C =>
gb d false (yb .gtr C (.int .i64 3)) fun x =>
ob (yh d (.bool true) x) fun a =>
gb a false (evFa 3 c) fun u =>
gb a false (evLd false 1 u h) fun y =>
gb a false (some e) fun t =>
gb a false (yb .sub t (.int .i64 1)) fun l =>
gb a false (y10 9 y l) fun B =>
gb a false (evLd true 9 B h) fun v =>
gh a false (yc E (yd E) 0 none true 24 [v] h) h fun G h9 =>
gb a false (evUn .not G) fun D =>
ob (yh a (.bool true) D) fun m =>
cnd m
 ((yo h9 (.int .i64 80)))
 ((ylp c e h9))
def y28c := KK2 ydj 1 3
theorem y1b8 : T0 yyh [.t 2] y28c := sq y1h7 fun _ => by kernel_rfl
def ycm (a : AV) (h : Heap) : OX :=
ob (evFa 3 a) fun b =>
ob (evLd false 1 b h) fun d =>
ob (y17 1 d h) fun c =>
(ydj a c h)
def y2df := KK1 ycm 1
theorem y1cy : T0 yv4 [.t 2] y2df := sq y1b8 fun _ => by kernel_rfl
def ybq (a : AV) (h : Heap) : OX :=
oh (newC 0 (some 0) (cellsOf a) h) fun b h10 =>
(ycm b h10)
def y2g1 := KK1 ybq 0
theorem y1n5 : T0 y144 [.t 2] y2g1 := sq y1cy fun _ => by kernel_rfl
@[simp] theorem y2ux : E.pure 8 = true := rfl
theorem y2u6 (a : AV) : (yd E).p 8 [a] = ybq a [⟨0, .dead⟩, ⟨0, .dead⟩, ⟨0, .dead⟩] :=
 (y1r (cf := y2jl) (by kernel_rfl) rfl).trans ((y1n5 _).trans (by kernel_rfl))
def y1c0 (a : AV) (h : Heap) : OX :=
ob (evLd false 1 a h) fun b =>
(yo h (.tup [b, (.int .i64 0)]))
def y4u := KK1 y1c0 14
theorem y21y : T0 y1l8 [.t 4, .t 5] y4u := fun _ => by kernel_rfl
def ys9 (a k b i e j c d g : AV) (h : Heap) : OX :=
 W E 0 yna ⟨[(1, a), (6, k), (7, b), (14, i), (15, e), (20, j), (113, c), (114, d), (115, g)], h⟩ y4u (y6 6 y4u xN) (finP [.t 4, .t 5])
def yc1 := KK9 ys9 1 6 7 14 15 20 113 114 115
theorem ypj : T1 yna y4u (y6 6 y4u xN) [.t 4, .t 5] yc1 := fun s => yu.trans (by kernel_rfl)
def y1ob (a l b j g k c e i : AV) (h : Heap) : OX :=
ob (yb .add i (.int .i64 1)) fun d =>
(ys9 a l b j g k c e d h)
def y7b := KK9 y1ob 1 6 7 14 15 20 113 114 115
theorem y23q : T1 y191 yc1 (y6 6 y4u xN) [.t 4, .t 5] y7b := fun _ => by kernel_rfl
def y1qi (e r g p a b l i k o : AV) (h : Heap) : OX :=
ob (evLd false 1 a h) fun m =>
ob (evFa 0 l) fun c =>
ob (evLd false 1 c h) fun d =>
oh (yl 0 (some 13) 1 1 [(.int .i64 0)] [(0, d)] h) fun n h1 =>
oh (y1v 0 (some 14) 1 8 m n h1) fun j h2 =>
oh (evSt 1 a j h2) fun _ h3 =>
oh (yyt E (yd E) 0 none true b [] h3) fun t h4 =>
(y1ob e r g p a b i k o h4)
def y1sa := KK10 y1qi 1 6 7 14 15 20 22 113 114 115
theorem y223 : T1 y1qc y7b (y6 7 y7b (y6 6 y4u xN)) [.t 4, .t 5] y1sa := fun _ => by kernel_rfl
def y1ym (a v b d u t : AV) (h : Heap) : Option Heap :=
ob (evFa 0 d) fun r =>
ob (evLd false 1 r h) fun l =>
ob (yb .eql t l) fun m =>
cnd m
 (ob (evLd false 1 v h) fun n =>
oh (y3w false [0] n u a h) fun _ h5 =>
ob (evLd false 1 b h5) fun e =>
ob (y30 false [0] (.int .i64 0) false e a h5) fun o =>
ob (yb .add o (.int .i64 1)) fun i =>
oh (y3w false [0] e a i h5) fun _ h6 =>
ob (evLd false 1 b h6) fun c =>
ob (evFa 0 d) fun k =>
ob (evLd false 1 k h6) fun g =>
ob (y30 false [0] (.int .i64 0) false c g h6) fun j =>
ob (yb .sub j (.int .i64 1)) fun p =>
oh (y3w false [0] c g p h6) fun _ h7 =>
(some (killAll 0 [] h7)))
 ((some (killAll 0 [] h)))
def y2o0 := KK6 y1ym 1 6 7 22 25 26
theorem y1v7 (s : St) : W E 0 y19i s (fun s3 => some (killAll 0 [] s3.h)) xN (fun _ => none) = y2o0 s :=
 by kernel_rfl
def y23l (b a c n l o d e g m : AV) (h : Heap) : OX :=
ob (evLd false 1 a h) fun j =>
orm j (fun q h8 =>
ob (y2a 0 (AV.tup [q.1, q.2])) fun i =>
ob (y2a 1 (AV.tup [q.1, q.2])) fun k =>
(y1ym b a c d i k h8)) h fun h9 =>
(y1qi b a c n l o d e g m h9)
def y26v := KK10 y23l 1 6 7 14 15 20 22 113 114 115
theorem y1yl : T1 y18r y1sa (y6 7 y7b (y6 6 y4u xN)) [.t 4, .t 5] y26v := fun s => (ypu (nk := y1sa) (fun s2 => y1v7 s2) (fun s => rfl)).trans (by kernel_rfl)
theorem y22z : T1 y17y y7b (y6 7 y7b (y6 6 y4u xN)) [.t 4, .t 5] y26v := sq y223 y1yl
def y2eg (b t d a m r c e j o : AV) (h : Heap) : OX :=
ob (evLd false 1 a h) fun n =>
ob (evFa 0 c) fun g =>
ob (evLd false 1 g h) fun i =>
ob (yq [(.int .i64 0), (.int .i64 0)] [(0, 1, b), (1, 1, i)]) fun k =>
oh (yl 0 (some 11) 2 1 [(.int .i64 0), (.int .i64 0)] [(0, k)] h) fun l h10 =>
oh (y1v 0 (some 12) 2 16 n l h10) fun p h11 =>
oh (evSt 1 a p h11) fun _ h12 =>
(y23l b t d a m r c e j o h12)
def y2jr := KK10 y2eg 1 6 7 14 15 20 22 113 114 115
theorem y1wg : T1 y1ea y7b (y6 7 y7b (y6 6 y4u xN)) [.t 4, .t 5] y2jr := sq y22z fun _ => by kernel_rfl
def y2gi (c a d l j m i e g k : AV) (h : Heap) : OX :=
ob (evLd false 1 a h) fun p =>
ob (evFa 0 i) fun r =>
ob (evLd false 1 r h) fun t =>
ob (y30 false [0] (.int .i64 0) true p t h) fun b =>
ob (y2a 0 b) fun u =>
ob (y2a 1 b) fun o =>
ob (evUn .not o) fun n =>
cnd n
 ((y1ob c a d l j m e g k h))
 ((y2eg c a d l j m i e g k h))
def y2lo := KK10 y2gi 1 6 7 14 15 20 22 113 114 115
theorem y20v : T1 y1ih y7b (y6 7 y7b (y6 6 y4u xN)) [.t 4, .t 5] y2lo := sq y1wg fun _ => by kernel_rfl
def y0y (d n e l k m a g c : AV) (h : Heap) : OX :=
ob (y10 2 a c) fun i =>
ob (evLd true 2 i h) fun j =>
oh (newC 0 (some 10) [(.int .i64 0), (.int .i64 0)] h) fun b h13 =>
oh (evSt 2 b j h13) fun _ h14 =>
(y2gi d n e l k m b a g c h14)
def yu2 := KK9 y0y 1 6 7 14 15 20 113 114 115
theorem y18k : T1 y12p y7b (y6 7 y7b (y6 6 y4u xN)) [.t 4, .t 5] yu2 := sq y20v fun _ => by kernel_rfl
theorem y1e0 : T1 yyd y7b (y6 6 y4u xN) [.t 4, .t 5] yu2 := fun s => y11.trans (y18k s)
theorem y1pk : T1 yzu yc1 (y6 6 y4u xN) [.t 4, .t 5] yu2 := sq y23q y1e0
def y12f (c l d a i k e g j b : AV) (h : Heap) : OX :=
cnd b
 ((y0y c l d a i k e g j h))
 ((y1c0 a h))
def y2g3 := KK10 y12f 1 6 7 14 15 20 113 114 115 116
theorem y1t6 : T1 ywa yc1 (y6 6 y4u xN) [.t 4, .t 5] y2g3 := sq y1pk fun _ => by kernel_rfl
def yv3 (d l e j i k g a b : AV) (h : Heap) : OX :=
ob (yb .lss b a) fun c =>
(y12f d l e j i k g a b c h)
def y2fb := KK9 yv3 1 6 7 14 15 20 113 114 115
theorem y1qv : T1 yyy yc1 (y6 6 y4u xN) [.t 4, .t 5] y2fb := sq y1t6 fun _ => by kernel_rfl
theorem ysg (a k b i e j c d g : AV) (h : Heap) : ys9 a k b i e j c d g h = (yv3 a k b i e j c d g h) :=
 y27.trans ((y1q _ _ _ (n' := yc1) (fun s => ypj s)).trans ((y1qv _).trans (by kernel_rfl)))
theorem y1hl : T1 yws y4u xN [.t 4, .t 5] yc1 := fun s => y11.trans (ypj s)
def y1fm (a b j c g e i : AV) (h : Heap) : OX :=
ob (y17 1 a h) fun d =>
(ys9 b j c g e i a d (.int .i64 0) h)
def y1t8 := KK7 y1fm 0 1 6 7 14 15 20
theorem y1br : T1 yzi y4u xN [.t 4, .t 5] y1t8 := sq y1hl fun _ => by kernel_rfl
theorem y1hs : T0 yve [.t 4, .t 5] y1t8 := sq y21y y1br
def y18p (g b i c e d a : AV) (h : Heap) : OX :=
oh (yyt E (yd E) 0 none true a [] h) fun j h15 =>
(y1fm g b i c e d a h15)
def y2gd := KK7 y18p 0 1 6 7 14 15 20
theorem y19q : T0 y15j [.t 4, .t 5] y2gd := sq y1hs fun _ => by kernel_rfl
def y15f (i g d a c b : AV) (h : Heap) : OX :=
ob (some (.fn 247 [b, d, c, a])) fun e =>
(y18p i g d a c b e h)
def y65 := KK6 y15f 0 1 6 7 14 15
theorem y1s8 : T0 yxz [.t 4, .t 5] y65 := sq y19q fun _ => by kernel_rfl
def yin (j b k c i e g d a : AV) (h : Heap) : OX :=
 W E 0 yjf ⟨[(0, j), (1, b), (6, k), (7, c), (14, i), (15, e), (77, g), (78, d), (79, a)], h⟩ y65 (y6 4 y65 xN) (finP [.t 4, .t 5])
def y7k := KK9 yin 0 1 6 7 14 15 77 78 79
theorem ykg : T1 yjf y65 (y6 4 y65 xN) [.t 4, .t 5] y7k := fun s => yu.trans (by kernel_rfl)
def yd4 (k b l c j e g d a : AV) (h : Heap) : OX :=
ob (yb .add a (.int .i64 1)) fun i =>
(yin k b l c j e g d i h)
def y2h4 := KK9 yd4 0 1 6 7 14 15 77 78 79
theorem y1et : T1 y13y y7k (y6 4 y65 xN) [.t 4, .t 5] y2h4 := fun _ => by kernel_rfl
def y11g (m n j g l d i k e : AV) (h : Heap) : OX :=
ob (y10 2 i e) fun w =>
ob (evLd true 2 w h) fun p =>
oh (newC 0 (some 7) [(.int .i64 0), (.int .i64 0)] h) fun b h16 =>
oh (evSt 2 b p h16) fun _ h17 =>
ob (evLd false 1 j h17) fun t =>
ob (evFa 0 b) fun u =>
ob (evLd false 1 u h17) fun B =>
ob (y30 false [0] (.int .i64 0) true t B h17) fun o =>
ob (y2a 0 o) fun C =>
ob (y2a 1 o) fun c =>
gb c true (some C) fun v =>
gb c true (evFa 0 b) fun H =>
gb c true (evLd false 1 H h17) fun D =>
gb c true (yb .neq v D) fun I =>
ob (yh c I (.bool false)) fun a =>
gb a true (evLd false 1 g h17) fun A =>
gb a true (evFa 0 b) fun y =>
gb a true (evLd false 1 y h17) fun F =>
gb a true (y30 false [0] (.int .i64 0) false A F h17) fun x =>
gb a true (yb .eql x (.int .i64 0)) fun G =>
ob (yh a G (.bool false)) fun J =>
cnd J
 (ob (evLd false 1 d h17) fun K =>
ob (evFa 0 b) fun M =>
ob (evLd false 1 M h17) fun z =>
oh (yl 0 (some 8) 1 1 [(.int .i64 0)] [(0, z)] h17) fun L h18 =>
oh (y1v 0 (some 9) 1 8 K L h18) fun r h19 =>
oh (evSt 1 d r h19) fun _ h20 =>
(yd4 m n j g l d i k e h20))
 ((yd4 m n j g l d i k e h17))
def y2bd := KK9 y11g 0 1 6 7 14 15 77 78 79
theorem y1b6 : T1 y11j y7k (y6 4 y65 xN) [.t 4, .t 5] y2bd := sq y1et fun _ => by kernel_rfl
def y03 (e a g b d c l k i j : AV) (h : Heap) : OX :=
cnd j
 ((y11g e a g b d c l k i h))
 ((y15f e a g b d c h))
def y2e6 := KK10 y03 0 1 6 7 14 15 77 78 79 80
theorem y1cd : T1 y153 y7k (y6 4 y65 xN) [.t 4, .t 5] y2e6 := sq y1b6 fun _ => by kernel_rfl
def yzj (k c l d j g i b a : AV) (h : Heap) : OX :=
ob (yb .lss a b) fun e =>
(y03 k c l d j g i b a e h)
def y2a4 := KK9 yzj 0 1 6 7 14 15 77 78 79
theorem y1eh : T1 ywr y7k (y6 4 y65 xN) [.t 4, .t 5] y2a4 := sq y1cd fun _ => by kernel_rfl
theorem ymo (j b k c i e g d a : AV) (h : Heap) : yin j b k c i e g d a h = (yzj j b k c i e g d a h) :=
 y27.trans ((y1q _ _ _ (n' := y7k) (fun s => ykg s)).trans ((y1eh _).trans (by kernel_rfl)))
theorem y1lh : T1 yzm y65 xN [.t 4, .t 5] y7k := fun s => y11.trans (ykg s)
def y155 (a b i c g e : AV) (h : Heap) : OX :=
ob (y17 1 a h) fun d =>
(yin a b i c g e a d (.int .i64 0) h)
def y1dl := KK6 y155 0 1 6 7 14 15
theorem y1th : T1 yw0 y65 xN [.t 4, .t 5] y1dl := sq y1lh fun _ => by kernel_rfl
theorem y1q2 : T0 y14j [.t 4, .t 5] y1dl := sq y1s8 y1th
def y26u (e a g b d : AV) (h : Heap) : OX :=
oh (newC 0 (some 6) [.nils] h) fun c h21 =>
(y155 e a g b d c h21)
def y2el := KK5 y26u 0 1 6 7 14
theorem y1r3 : T0 yzs [.t 4, .t 5] y2el := sq y1q2 fun _ => by kernel_rfl
def yrf (d a e b : AV) (h : Heap) : OX :=
oh (newC 0 (some 5) [.nils] h) fun c h22 =>
(y26u d a e b c h22)
def ysk := KK4 yrf 0 1 6 7
theorem y1lk : T0 y111 [.t 4, .t 5] ysk := sq y1r3 fun _ => by kernel_rfl
def yw7 (k d c a : AV) (h : Heap) : Option Heap :=
ob (yb .eql c a) fun j =>
cnd j
 (ob (evLd false 1 k h) fun e =>
oh (y7f false [0] e c h) fun _ h23 =>
(some (killAll 0 [] h23)))
 (ob (evLd false 1 d h) fun b =>
ob (y30 false [0] (.int .i64 0) false b a h) fun i =>
ob (yb .add i (.int .i64 1)) fun g =>
oh (y3w false [0] b a g h) fun _ h24 =>
(some (killAll 0 [] h24)))
def y2a5 := KK4 yw7 6 7 12 13
theorem y1p0 (s : St) : W E 0 yzn s (fun s3 => some (killAll 0 [] s3.h)) xN (fun _ => none) = y2a5 s :=
 by kernel_rfl
def ypk (g d a b : AV) (h : Heap) : OX :=
ob (evLd false 1 a h) fun i =>
orm i (fun q h25 =>
ob (y2a 0 (AV.tup [q.1, q.2])) fun c =>
ob (y2a 1 (AV.tup [q.1, q.2])) fun e =>
(yw7 a b c e h25)) h fun h26 =>
(yrf g d a b h26)
def y42 := KK4 ypk 0 1 6 7
theorem y1d9 : T1 y13l ysk xN [.t 4, .t 5] y42 := fun s => (ypu (nk := ysk) (fun s2 => y1p0 s2) (fun s => rfl)).trans (by kernel_rfl)
theorem y17x : T0 yz8 [.t 4, .t 5] y42 := sq y1lk y1d9
def yha (g c i d b a e : AV) (h : Heap) : OX :=
 W E 0 yhl ⟨[(0, g), (1, c), (6, i), (7, d), (29, b), (30, a), (31, e)], h⟩ y42 (y6 0 y42 xN) (finP [.t 4, .t 5])
def y7v := KK7 yha 0 1 6 7 29 30 31
theorem ykw : T1 yhl y42 (y6 0 y42 xN) [.t 4, .t 5] y7v := fun s => yu.trans (by kernel_rfl)
def yq5 (i d j e b a g : AV) (h : Heap) : OX :=
ob (yb .add g (.int .i64 1)) fun c =>
(yha i d j e b a c h)
def yal := KK7 yq5 0 1 6 7 29 30 31
theorem y1sr : T1 y13q y7v (y6 0 y42 xN) [.t 4, .t 5] yal := fun _ => by kernel_rfl
def yyr (o g b i a e c l : AV) (h : Heap) : OX :=
ob (evLd false 1 b h) fun d =>
ob (evFa 0 a) fun k =>
ob (evLd false 1 k h) fun m =>
ob (evFa 1 a) fun n =>
ob (evLd false 1 n h) fun j =>
oh (y3w false [0] d m j h) fun _ h27 =>
(yq5 o g b i e c l h27)
def y2h0 := KK8 yyr 0 1 6 7 9 29 30 31
theorem y1k3 : T1 y14r yal (y6 1 yal (y6 0 y42 xN)) [.t 4, .t 5] y2h0 := fun _ => by kernel_rfl
def y1tg (w d g o c y i l : AV) (h : Heap) : OX :=
ob (evLd false 1 g h) fun t =>
ob (evFa 0 c) fun p =>
ob (evLd false 1 p h) fun m =>
ob (y30 false [0] (.int .i64 0) true t m h) fun e =>
ob (y2a 0 e) fun B =>
ob (y2a 1 e) fun a =>
gb a false (evFa 0 c) fun A =>
gb a false (evLd false 1 A h) fun z =>
gb a false (some d) fun j =>
gb a false (yb .eql z j) fun x =>
ob (yh a (.bool true) x) fun b =>
gb b false (evFa 1 c) fun k =>
gb b false (evLd false 1 k h) fun n =>
gb b false (some d) fun v =>
gb b false (yb .eql n v) fun u =>
ob (yh b (.bool true) u) fun r =>
cnd r
 ((yo h (.tup [AV.nils, (.int .i64 1)])))
 ((yyr w d g o c y i l h))
def y2co := KK8 y1tg 0 1 6 7 9 29 30 31
theorem y1fy : T1 ywd yal (y6 1 yal (y6 0 y42 xN)) [.t 4, .t 5] y2co := sq y1k3 fun _ => by kernel_rfl
def y119 (k e l g a d c : AV) (h : Heap) : OX :=
ob (y10 2 a c) fun i =>
ob (evLd true 2 i h) fun j =>
oh (newC 0 (some 4) [(.int .i64 0), (.int .i64 0)] h) fun b h28 =>
oh (evSt 2 b j h28) fun _ h29 =>
(y1tg k e l g b a d c h29)
def ysw := KK7 y119 0 1 6 7 29 30 31
theorem y1ky : T1 y15b yal (y6 1 yal (y6 0 y42 xN)) [.t 4, .t 5] ysw := sq y1fy fun _ => by kernel_rfl
theorem y1lp : T1 yvo yal (y6 0 y42 xN) [.t 4, .t 5] ysw := fun s => y11.trans (y1ky s)
theorem y1qj : T1 ywi y7v (y6 0 y42 xN) [.t 4, .t 5] ysw := sq y1sr y1lp
def yx0 (c a d b g e j i : AV) (h : Heap) : OX :=
cnd i
 ((y119 c a d b g e j h))
 ((ypk c a d b h))
def y29q := KK8 yx0 0 1 6 7 29 30 31 32
theorem y1dh : T1 y14i y7v (y6 0 y42 xN) [.t 4, .t 5] y29q := sq y1qj fun _ => by kernel_rfl
def y14y (i d j e c a b : AV) (h : Heap) : OX :=
ob (yb .lss b a) fun g =>
(yx0 i d j e c a b g h)
def y2av := KK7 y14y 0 1 6 7 29 30 31
theorem y1bf : T1 y133 y7v (y6 0 y42 xN) [.t 4, .t 5] y2av := sq y1dh fun _ => by kernel_rfl
theorem ylh (g c i d b a e : AV) (h : Heap) : yha g c i d b a e h = (y14y g c i d b a e h) :=
 y27.trans ((y1q _ _ _ (n' := y7v) (fun s => ykw s)).trans ((y1bf _).trans (by kernel_rfl)))
theorem y1l1 : T1 y12s y42 xN [.t 4, .t 5] y7v := fun s => y11.trans (ykw s)
def ywe (a c e d : AV) (h : Heap) : OX :=
ob (y17 1 a h) fun b =>
(yha a c e d a b (.int .i64 0) h)
def y1so := KK4 ywe 0 1 6 7
theorem y1q8 : T1 yxw y42 xN [.t 4, .t 5] y1so := sq y1l1 fun _ => by kernel_rfl
theorem y1sb : T0 y0r [.t 4, .t 5] y1so := sq y17x y1q8
def y25k (d b e : AV) (h : Heap) : OX :=
oh (mkmC 0 (some 2) h) fun c h30 =>
oh (newC 0 (some 3) [.nilm] h30) fun a h31 =>
oh (evSt 1 a c h31) fun _ h32 =>
(ywe d b e a h32)
def y2az := KK3 y25k 0 1 6
theorem y1j4 : T0 y11a [.t 4, .t 5] y2az := sq y1sb fun _ => by kernel_rfl
def y27l (c d : AV) (h : Heap) : OX :=
oh (mkmC 0 (some 0) h) fun b h33 =>
oh (newC 0 (some 1) [.nilm] h33) fun a h34 =>
oh (evSt 1 a b h34) fun _ h35 =>
(y25k c d a h35)
def y2eo := KK2 y27l 0 1
theorem y1i1 : T0 y0i [.t 4, .t 5] y2eo := sq y1j4 fun _ => by kernel_rfl
def y1pt (a b : AV) (h : Heap) : OX :=
(y27l a b h)
def y2gs := KK2 y1pt 0 1
theorem y1pc : T0 y11o [.t 4, .t 5] y2gs := sq y1i1 fun _ => by kernel_rfl
@[simp] theorem y2q0 : E.pure 237 = true := rfl
theorem y2th (a b : AV) : (yd E).p 237 [a, b] = y1pt a b [⟨0, .dead⟩, ⟨0, .dead⟩, ⟨0, .dead⟩, ⟨0, .dead⟩, ⟨0, .dead⟩, ⟨0, .dead⟩, ⟨0, .dead⟩, ⟨0, .dead⟩, ⟨0, .dead⟩, ⟨0, .dead⟩, ⟨0, .dead⟩, ⟨0, .dead⟩, ⟨0, .dead⟩, ⟨0, .dead⟩, ⟨0, .dead⟩] :=
 (y1r (cf := y2pr) (by kernel_rfl) rfl).trans ((y1pc _).trans (by kernel_rfl))
def y174 (fb : Nat) (a b g : AV) (h : Heap) : Option (AV × Heap) :=
cnd g
 (ob (evFa 5 b) fun i =>
ob (evLd false 1 i h) fun e =>
oh (yc E (yd E) fb none false 243 [a, e] h) fun d h1 =>
oh (yc E (yd E) fb none false 242 [a, d] h1) fun j h2 =>
ob (evLd true 9 b h2) fun c =>
oh (yc E (yd E) fb none false 246 [a, c] h2) fun k h3 =>
(some ((.tup []), h3)))
 ((some ((.tup []), h)))
def y27a (fb : Nat) := KK3 (y174 fb) 0 3 88
theorem y226 (fb : Nat) (s : St) : W E fb y1q0 s (finI []) (y6 0 (finI []) xN) (finI []) = y27a fb s :=
 by kernel_rfl
def y22g (fb : Nat) (b a c : AV) (h : Heap) : Option (AV × Heap) :=
ob (yb .eql c (.int .i64 23)) fun e =>
cnd e
 ((y174 fb b a e h))
 (ob (yb .eql c (.int .i64 24)) fun d =>
cnd d
 ((y174 fb b a d h))
 (ob (yb .eql c (.int .i64 26)) fun g =>
(y174 fb b a g h)))
def y2io (fb : Nat) := KK3 (y22g fb) 0 3 25
theorem y1w5 (fb : Nat) (s : St) : W E fb y19c s (finI []) (y6 0 (finI []) xN) (finI []) = y2io fb s :=
 (y32 (k := (y27a fb)) (fun s => y226 fb s)).trans (by kernel_rfl)
def y1hc (fb : Nat) (a b j i : AV) (h : Heap) : Option (AV × Heap) :=
cnd i
 (ob (evFa 7 b) fun c =>
ob (evLd false 1 c h) fun d =>
oh (yc E (yd E) fb none false 244 [a, d] h) fun g h4 =>
oh (yc E (yd E) fb none false 242 [a, g] h4) fun k h5 =>
ob (evLd true 9 b h5) fun e =>
oh (yc E (yd E) fb none false 246 [a, e] h5) fun l h6 =>
(some ((.tup []), h6)))
 ((y22g fb a b j h))
def y27b (fb : Nat) := KK4 (y1hc fb) 0 3 25 77
theorem y1vg (fb : Nat) (s : St) : W E fb y1fk s (finI []) (y6 0 (finI []) xN) (finI []) = y27b fb s :=
 (y1t rfl (y1w5 fb s)).trans (by kernel_rfl)
def y1cz (fb : Nat) (d b a : AV) (h : Heap) : Option (AV × Heap) :=
ob (yb .eql a (.int .i64 25)) fun c =>
(y1hc fb d b a c h)
def y2mm (fb : Nat) := KK3 (y1cz fb) 0 3 25
theorem y1wx (fb : Nat) (s : St) : W E fb y1a0 s (finI []) (y6 0 (finI []) xN) (finI []) = y2mm fb s :=
 (y32 (k := (y27b fb)) (fun s => y1vg fb s)).trans (by kernel_rfl)
def ysl (fb : Nat) (b a i k : AV) (h : Heap) : Option (AV × Heap) :=
cnd k
 (ob (evFa 6 a) fun e =>
ob (evLd false 1 e h) fun j =>
oh (yc E (yd E) fb none false 245 [b, j] h) fun l h7 =>
ob (evFa 5 a) fun c =>
ob (evLd false 1 c h7) fun d =>
ob (y85 .u32 d) fun g =>
oh (yc E (yd E) fb none false 242 [b, g] h7) fun m h8 =>
(some ((.tup []), h8)))
 ((y1cz fb b a i h))
def y25p (fb : Nat) := KK4 (ysl fb) 0 3 25 65
theorem y1wv (fb : Nat) (s : St) : W E fb y1fe s (finI []) (y6 0 (finI []) xN) (finI []) = y25p fb s :=
 (y1t rfl (y1wx fb s)).trans (by kernel_rfl)
def y16q (fb : Nat) (d c a : AV) (h : Heap) : Option (AV × Heap) :=
ob (yb .eql a (.int .i64 28)) fun b =>
cnd b
 ((ysl fb d c a b h))
 (ob (yb .eql a (.int .i64 29)) fun e =>
(ysl fb d c a e h))
def y2p0 (fb : Nat) := KK3 (y16q fb) 0 3 25
theorem y1tr (fb : Nat) (s : St) : W E fb y1lc s (finI []) (y6 0 (finI []) xN) (finI []) = y2p0 fb s :=
 (y32 (k := (y25p fb)) (fun s => y1wv fb s)).trans (by kernel_rfl)
def yui (fb : Nat) (b a g d : AV) (h : Heap) : Option (AV × Heap) :=
cnd d
 (ob (evFa 6 a) fun c =>
ob (evLd false 1 c h) fun e =>
oh (yc E (yd E) fb none false 245 [b, e] h) fun i h9 =>
(some ((.tup []), h9)))
 ((y16q fb b a g h))
def y25x (fb : Nat) := KK4 (yui fb) 0 3 25 59
theorem y1uu (fb : Nat) (s : St) : W E fb y1r8 s (finI []) (y6 0 (finI []) xN) (finI []) = y25x fb s :=
 (y1t rfl (y1tr fb s)).trans (by kernel_rfl)
def ytm (fb : Nat) (d c a : AV) (h : Heap) : Option (AV × Heap) :=
ob (yb .eql a (.int .i64 27)) fun b =>
(yui fb d c a b h)
def y2ht (fb : Nat) := KK3 (ytm fb) 0 3 25
theorem y23n (fb : Nat) (s : St) : W E fb y1og s (finI []) (y6 0 (finI []) xN) (finI []) = y2ht fb s :=
 (y32 (k := (y25x fb)) (fun s => y1uu fb s)).trans (by kernel_rfl)
def ypg (fb : Nat) (b a i e : AV) (h : Heap) : Option (AV × Heap) :=
cnd e
 (ob (evFa 4 a) fun c =>
ob (evLd false 1 c h) fun d =>
oh (yc E (yd E) fb none true 240 [d] h) fun g h10 =>
oh (yc E (yd E) fb none false 242 [b, g] h10) fun j h11 =>
(some ((.tup []), h11)))
 ((ytm fb b a i h))
def y26a (fb : Nat) := KK4 (ypg fb) 0 3 25 52
theorem y23u (fb : Nat) (s : St) : W E fb y1qz s (finI []) (y6 0 (finI []) xN) (finI []) = y26a fb s :=
 (y1t rfl (y23n fb s)).trans (by kernel_rfl)
def yfc (fb : Nat) (c b a : AV) (h : Heap) : Option (AV × Heap) :=
ob (yb .eql a (.int .i64 14)) fun d =>
(ypg fb c b a d h)
def y2ex (fb : Nat) := KK3 (yfc fb) 0 3 25
theorem y1k0 (fb : Nat) (s : St) : W E fb yy8 s (finI []) (y6 0 (finI []) xN) (finI []) = y2ex fb s :=
 (y32 (k := (y26a fb)) (fun s => y23u fb s)).trans (by kernel_rfl)
def y91 (fb : Nat) (a b i d : AV) (h : Heap) : Option (AV × Heap) :=
cnd d
 (ob (evFa 7 b) fun c =>
ob (evLd false 1 c h) fun g =>
oh (yc E (yd E) fb none false 244 [a, g] h) fun e h12 =>
oh (yc E (yd E) fb none false 242 [a, e] h12) fun j h13 =>
(some ((.tup []), h13)))
 ((yfc fb a b i h))
def y1em (fb : Nat) := KK4 (y91 fb) 0 3 25 41
theorem y1qr (fb : Nat) (s : St) : W E fb y116 s (finI []) (y6 0 (finI []) xN) (finI []) = y1em fb s :=
 (y1t rfl (y1k0 fb s)).trans (by kernel_rfl)
def ydq (fb : Nat) (c b a : AV) (h : Heap) : Option (AV × Heap) :=
ob (yb .eql a (.int .i64 3)) fun e =>
cnd e
 ((y91 fb c b a e h))
 (ob (yb .eql a (.int .i64 12)) fun g =>
cnd g
 ((y91 fb c b a g h))
 (ob (yb .eql a (.int .i64 21)) fun d =>
cnd d
 ((y91 fb c b a d h))
 (ob (yb .eql a (.int .i64 22)) fun i =>
(y91 fb c b a i h))))
def y299 (fb : Nat) := KK3 (ydq fb) 0 3 25
theorem y1m4 (fb : Nat) (s : St) : W E fb y140 s (finI []) (y6 0 (finI []) xN) (finI []) = y299 fb s :=
 (y32 (k := (y1em fb)) (fun s => y1qr fb s)).trans (by kernel_rfl)
def y5c (fb : Nat) (a b i c : AV) (h : Heap) : Option (AV × Heap) :=
cnd c
 (ob (evFa 5 b) fun e =>
ob (evLd false 1 e h) fun g =>
oh (yc E (yd E) fb none false 243 [a, g] h) fun d h14 =>
oh (yc E (yd E) fb none false 242 [a, d] h14) fun j h15 =>
(some ((.tup []), h15)))
 ((ydq fb a b i h))
def y1au (fb : Nat) := KK4 (y5c fb) 0 3 25 26
theorem y1dm (fb : Nat) (s : St) : W E fb yy4 s (finI []) (y6 0 (finI []) xN) (finI []) = y1au fb s :=
 (y1t rfl (y1m4 fb s)).trans (by kernel_rfl)
def y4i (fb : Nat) (c b a : AV) (h : Heap) : Option (AV × Heap) :=
ob (yb .eql a (.int .i64 1)) fun g =>
cnd g
 ((y5c fb c b a g h))
 (ob (yb .eql a (.int .i64 5)) fun i =>
cnd i
 ((y5c fb c b a i h))
 (ob (yb .eql a (.int .i64 6)) fun e =>
cnd e
 ((y5c fb c b a e h))
 (ob (yb .eql a (.int .i64 16)) fun d =>
cnd d
 ((y5c fb c b a d h))
 (ob (yb .eql a (.int .i64 17)) fun l =>
cnd l
 ((y5c fb c b a l h))
 (ob (yb .eql a (.int .i64 18)) fun k =>
cnd k
 ((y5c fb c b a k h))
 (ob (yb .eql a (.int .i64 19)) fun j =>
cnd j
 ((y5c fb c b a j h))
 (ob (yb .eql a (.int .i64 20)) fun m =>
(y5c fb c b a m h))))))))
def ysy (fb : Nat) := KK3 (y4i fb) 0 3 25
theorem y1h8 (fb : Nat) (s : St) : W E fb y13p s (finI []) (y6 0 (finI []) xN) (finI []) = ysy fb s :=
 (y32 (k := (y1au fb)) (fun s => y1dm fb s)).trans (by kernel_rfl)
theorem y17u (fb : Nat) (s : St) : W E fb y149 s (finI []) xN (finI []) = ysy fb s :=
 y11.trans (y1h8 fb s)
def y197 (fb : Nat) (b a : AV) (h : Heap) : Option (AV × Heap) :=
ob (evFa 0 a) fun d =>
ob (evLd false 1 d h) fun c =>
(y4i fb b a c h)
def y1b1 (fb : Nat) := KK2 (y197 fb) 0 3
theorem y1bk (fb : Nat) (s : St) : W E fb yyi s (finI []) xN (finI []) = y1b1 fb s :=
 (y32 (k := (ysy fb)) (fun s => y17u fb s)).trans (by kernel_rfl)
def y1qx (fb : Nat) (k a : AV) (h : Heap) : Option (AV × Heap) :=
ob (evFa 0 a) fun j =>
ob (evLd false 1 j h) fun v =>
ob (y85 .u32 v) fun p =>
ob (yb .shl p (.int .u64 24)) fun w =>
ob (evLd true 9 a h) fun c =>
ofp (y8t E (yd E) fb none true 239 [c] h) fun f6 =>
oh (yc E (yd E) fb none true 239 [c] h) fun e h16 =>
ofp (y8t E (yd E) fb none true 240 [e] h16) fun f7 =>
oh (yc E (yd E) fb none true 240 [e] h16) fun t h17 =>
ob (yb .shl t (.int .u64 16)) fun m =>
ob (yb .or w m) fun o =>
ob (evLd true 9 a h17) fun i =>
ofp (y8t E (yd E) fb none true 241 [i, (.int .i64 0)] h17) fun f11 =>
oh (yc E (yd E) fb none true 241 [i, (.int .i64 0)] h17) fun g h18 =>
ofp (y8t E (yd E) fb none true 240 [g] h18) fun f12 =>
oh (yc E (yd E) fb none true 240 [g] h18) fun l h19 =>
ob (yb .shl l (.int .u64 8)) fun x =>
ob (yb .or o x) fun n =>
ob (evLd true 9 a h19) fun d =>
ofp (y8t E (yd E) fb none true 241 [d, (.int .i64 1)] h19) fun f16 =>
oh (yc E (yd E) fb none true 241 [d, (.int .i64 1)] h19) fun b h20 =>
ofp (y8t E (yd E) fb none true 240 [b] h20) fun f17 =>
oh (yc E (yd E) fb none true 240 [b] h20) fun u h21 =>
ob (yb .or n u) fun r =>
oh (yc E (yd E) fb none false 242 [k, r] h21) fun y h22 =>
okK (y1o [([], []), ([], []), (ids1 j, []), ([], []), ([], []), (ids1 a, []), f6, f7, ([], []), ([], []), (ids1 a, []), f11, f12, ([], []), ([], []), (ids1 a, []), f16, f17, ([], []), ([], [])] [(2, 6), (2, 7), (6, 10), (7, 10), (2, 11), (2, 12), (6, 15), (7, 15), (11, 15), (12, 15), (2, 16), (2, 17)]) <|
(y197 fb k a h22)
def y1n3 (fb : Nat) := KK2 (y1qx fb) 0 3
theorem y1ah (fb : Nat) (s : St) : W E fb y13v s (finI []) xN (finI []) = y1n3 fb s :=
 (y32 (k := (y1b1 fb)) (fun s => y1bk fb s)).trans (by kernel_rfl)
def y1jn (fb : Nat) (b c : AV) (h : Heap) : Option (AV × Heap) :=
oh (newC fb (some 0) (cellsOf c) h) fun a h23 =>
(y1qx fb b a h23)
def y2gb (fb : Nat) := KK2 (y1jn fb) 0 1
theorem y1mx (fb : Nat) (s : St) : W E fb y137 s (finI []) xN (finI []) = y2gb fb s :=
 (y32 (k := (y1n3 fb)) (fun s => y1ah fb s)).trans (by kernel_rfl)
@[simp] theorem y2qn : E.pure 238 = false := rfl
theorem y2rr (fb : Nat) (a b : AV) (h : Heap) : (yd E).i 238 [a, b] fb h = y1jn fb a b (if fb = h.length then h ++ yj 1 else h) :=
 (y63 (cf := y2nm) (by kernel_rfl) rfl).trans ((y1mx fb _).trans (by kernel_rfl))
def y1oy (a : AV) (h : Heap) : OX :=
(yo h a)
def y1p := KK1 y1oy 5
theorem y1tq : T0 y1hb [.t 2] y1p := fun _ => by kernel_rfl
def ydn (c b a d : AV) (h : Heap) : OX :=
 W E 0 ynu ⟨[(1, c), (3, b), (5, a), (6, d)], h⟩ y1p (y6 2 y1p xN) (finP [.t 2])
def yi := KK4 ydn 1 3 5 6
theorem ypb : T1 ynu y1p (y6 2 y1p xN) [.t 2] yi := fun s => yu.trans (by kernel_rfl)
def yhc (a c d e b : AV) (h : Heap) : OX :=
 W E 0 ynv ⟨[(1, a), (3, c), (5, d), (6, e), (7, b)], h⟩ yi (y6 4 yi (y6 3 yi (y6 2 y1p xN))) (finP [.t 2])
def yeo := KK5 yhc 1 3 5 6 7
theorem yr6 : T1 ynv yi (y6 4 yi (y6 3 yi (y6 2 y1p xN))) [.t 2] yeo := fun s => yu.trans (by kernel_rfl)
def y1yf (a c e g b : AV) (h : Heap) : OX :=
ob (yb .sub b (.int .i64 1)) fun d =>
(yhc a c e g d h)
def y24 := KK5 y1yf 1 3 5 6 7
theorem y20s : T1 y1ee yeo (y6 4 yi (y6 3 yi (y6 2 y1p xN))) [.t 2] y24 := fun _ => by kernel_rfl
def y173 (e j c p a m : AV) (h : Heap) : OX :=
ob (yp c) fun o =>
ob (evFa 0 o) fun g =>
ob (evLd false 1 g h) fun i =>
ob (y10 1 i a) fun k =>
ob (evLd false 1 k h) fun l =>
oh (yc E (yd E) 0 none false 84 [l, m] h) fun b h1 =>
gb b false (some p) fun d =>
ob (yh b (.bool true) d) fun n =>
(y1yf e j c n a h1)
def yaq := KK6 y173 1 3 5 6 7 12
theorem y231 : T1 y1hv y24 (y6 5 y24 (y6 4 yi (y6 3 yi (y6 2 y1p xN)))) [.t 2] yaq := fun _ => by kernel_rfl
def ysi (b d i k c e j g a : AV) (h : Heap) : OX :=
 W E 0 ynj ⟨[(1, b), (3, d), (5, i), (6, k), (7, c), (12, e), (157, j), (158, g), (159, a)], h⟩ yaq (y6 10 yaq (y6 5 y24 (y6 4 yi (y6 3 yi (y6 2 y1p xN))))) (finP [.t 2])
def yc2 := KK9 ysi 1 3 5 6 7 12 157 158 159
theorem yqp : T1 ynj yaq (y6 10 yaq (y6 5 y24 (y6 4 yi (y6 3 yi (y6 2 y1p xN))))) [.t 2] yc2 := fun s => yu.trans (by kernel_rfl)
def y2cw (b d j l c g k i a : AV) (h : Heap) : OX :=
ob (yb .add a (.int .i64 1)) fun e =>
(ysi b d j l c g k i e h)
def y2ib := KK9 y2cw 1 3 5 6 7 12 157 158 159
theorem y1uf : T1 y1qe yc2 (y6 10 yaq (y6 5 y24 (y6 4 yi (y6 3 yi (y6 2 y1p xN))))) [.t 2] y2ib := fun _ => by kernel_rfl
def y2bk (d g l m e b c k a : AV) (h : Heap) : OX :=
ob (y10 1 c a) fun j =>
ob (evLd false 1 j h) fun i =>
oh (yc E (yd E) 0 none false 86 [b, i] h) fun n h2 =>
(y2cw d g l m e b c k a h2)
def y2n2 := KK9 y2bk 1 3 5 6 7 12 157 158 159
theorem y1tu : T1 y1oa yc2 (y6 10 yaq (y6 5 y24 (y6 4 yi (y6 3 yi (y6 2 y1p xN))))) [.t 2] y2n2 := sq y1uf fun _ => by kernel_rfl
def y1x8 (a c e g b d l k i j : AV) (h : Heap) : OX :=
cnd j
 ((y2bk a c e g b d l k i h))
 ((y173 a c e g b d h))
def y2ik := KK10 y1x8 1 3 5 6 7 12 157 158 159 160
theorem y202 : T1 y1qs yc2 (y6 10 yaq (y6 5 y24 (y6 4 yi (y6 3 yi (y6 2 y1p xN))))) [.t 2] y2ik := sq y1tu fun _ => by kernel_rfl
def yys (d g j l e i k b a : AV) (h : Heap) : OX :=
ob (yb .lss a b) fun c =>
(y1x8 d g j l e i k b a c h)
def y2ak := KK9 yys 1 3 5 6 7 12 157 158 159
theorem y1t0 : T1 y0k yc2 (y6 10 yaq (y6 5 y24 (y6 4 yi (y6 3 yi (y6 2 y1p xN))))) [.t 2] y2ak := sq y202 fun _ => by kernel_rfl
theorem yrv (b d i k c e j g a : AV) (h : Heap) : ysi b d i k c e j g a h = (yys b d i k c e j g a h) :=
 y27.trans ((y1q _ _ _ (n' := yc2) (fun s => yqp s)).trans ((y1t0 _).trans (by kernel_rfl)))
theorem y18n : T1 yya yaq (y6 5 y24 (y6 4 yi (y6 3 yi (y6 2 y1p xN)))) [.t 2] yc2 := fun s => y11.trans (yqp s)
def y1kj (a g m n b j : AV) (h : Heap) : OX :=
ob (evFa 3 a) fun d =>
ob (evLd false 1 d h) fun i =>
ob (y10 9 i b) fun k =>
ob (evLd true 9 k h) fun e =>
oh (yc E (yd E) 0 none true 10 [e] h) fun c h3 =>
ob (y17 1 c h3) fun l =>
(ysi a g m n b j c l (.int .i64 0) h3)
def y1fq := KK6 y1kj 1 3 5 6 7 12
theorem y1hr : T1 yvt yaq (y6 5 y24 (y6 4 yi (y6 3 yi (y6 2 y1p xN)))) [.t 2] y1fq := sq y18n fun _ => by kernel_rfl
theorem y1kf : T1 ywv y24 (y6 5 y24 (y6 4 yi (y6 3 yi (y6 2 y1p xN)))) [.t 2] y1fq := sq y231 y1hr
def ykz (e g c m a b : AV) (h : Heap) : OX :=
ob (yp c) fun k =>
ob (evFa 2 k) fun i =>
ob (evLd false 1 i h) fun d =>
ob (y10 1 d a) fun l =>
ob (evLd false 1 l h) fun j =>
oh (yc E (yd E) 0 none false 84 [b, j] h) fun n h4 =>
(y1kj e g c m a b h4)
def y28l := KK6 ykz 1 3 5 6 7 12
theorem y1l0 : T1 ywm y24 (y6 5 y24 (y6 4 yi (y6 3 yi (y6 2 y1p xN)))) [.t 2] y28l := sq y1kf fun _ => by kernel_rfl
def yli (a e g i b c : AV) (h : Heap) : OX :=
ob (evFa 3 a) fun m =>
ob (evLd false 1 m h) fun n =>
ob (y10 9 n b) fun l =>
ob (evLd true 9 l h) fun j =>
oh (yc E (yd E) 0 none true 9 [j] h) fun d h5 =>
ob (yb .geq d (.int .i64 0)) fun k =>
cnd k
 (oh (yc E (yd E) 0 none false 85 [c, d] h5) fun o h6 =>
(ykz a e g i b c h6))
 ((ykz a e g i b c h5))
def y2eb := KK6 yli 1 3 5 6 7 12
theorem y1db : T1 y15g y24 (y6 5 y24 (y6 4 yi (y6 3 yi (y6 2 y1p xN)))) [.t 2] y2eb := sq y1l0 fun _ => by kernel_rfl
def y1lf (d g b m a : AV) (h : Heap) : OX :=
ob (yp b) fun l =>
ob (evFa 1 l) fun i =>
ob (evLd false 1 i h) fun c =>
ob (y10 1 c a) fun k =>
ob (evLd false 1 k h) fun e =>
oh (y1v 0 (some 2) 1 8 AV.nils e h) fun j h7 =>
(yli d g b m a j h7)
def y61 := KK5 y1lf 1 3 5 6 7
theorem y1pb : T1 yux y24 (y6 5 y24 (y6 4 yi (y6 3 yi (y6 2 y1p xN)))) [.t 2] y61 := sq y1db fun _ => by kernel_rfl
def yc8 (a c g j b i d e : AV) (h : Heap) : OX :=
 W E 0 yjo ⟨[(1, a), (3, c), (5, g), (6, j), (7, b), (102, i), (103, d), (104, e)], h⟩ y61 (y6 8 y61 (y6 5 y24 (y6 4 yi (y6 3 yi (y6 2 y1p xN))))) (finP [.t 2])
def y7z := KK8 yc8 1 3 5 6 7 102 103 104
theorem ymr : T1 yjo y61 (y6 8 y61 (y6 5 y24 (y6 4 yi (y6 3 yi (y6 2 y1p xN))))) [.t 2] y7z := fun s => yu.trans (by kernel_rfl)
def y1ll (a c g k b i d e : AV) (h : Heap) : OX :=
ob (yb .add e (.int .i64 1)) fun j =>
(yc8 a c g k b i d j h)
def y28z := KK8 y1ll 1 3 5 6 7 102 103 104
theorem y1c3 : T1 y13a y7z (y6 8 y61 (y6 5 y24 (y6 4 yi (y6 3 yi (y6 2 y1p xN))))) [.t 2] y28z := fun _ => by kernel_rfl
def y1sv (v p a u b c x d : AV) (h : Heap) : OX :=
ob (y10 1 c d) fun l =>
ob (evLd false 1 l h) fun w =>
ob (yp a) fun m =>
ob (evFa 2 m) fun k =>
ob (evLd false 1 k h) fun r =>
ob (y10 1 r b) fun o =>
ob (evLd false 1 o h) fun g =>
ob (yp a) fun e =>
ob (evFa 0 e) fun t =>
ob (evLd false 1 t h) fun i =>
ob (y10 1 i w) fun n =>
ob (evLd false 1 n h) fun j =>
oh (yc E (yd E) 0 none false 84 [g, j] h) fun y h8 =>
(y1ll v p a u b c x d h8)
def y2ay := KK8 y1sv 1 3 5 6 7 102 103 104
theorem y1k6 : T1 y120 y7z (y6 8 y61 (y6 5 y24 (y6 4 yi (y6 3 yi (y6 2 y1p xN))))) [.t 2] y2ay := sq y1c3 fun _ => by kernel_rfl
def yzf (a c d e b k g i j : AV) (h : Heap) : OX :=
cnd j
 ((y1sv a c d e b k g i h))
 ((y1lf a c d e b h))
def y28k := KK9 yzf 1 3 5 6 7 102 103 104 105
theorem y1qm : T1 yz9 y7z (y6 8 y61 (y6 5 y24 (y6 4 yi (y6 3 yi (y6 2 y1p xN))))) [.t 2] y28k := sq y1k6 fun _ => by kernel_rfl
def y12o (c e g k d j a b : AV) (h : Heap) : OX :=
ob (yb .lss b a) fun i =>
(yzf c e g k d j a b i h)
def y27t := KK8 y12o 1 3 5 6 7 102 103 104
theorem y1i9 : T1 yw1 y7z (y6 8 y61 (y6 5 y24 (y6 4 yi (y6 3 yi (y6 2 y1p xN))))) [.t 2] y27t := sq y1qm fun _ => by kernel_rfl
theorem ylu (a c g j b i d e : AV) (h : Heap) : yc8 a c g j b i d e h = (y12o a c g j b i d e h) :=
 y27.trans ((y1q _ _ _ (n' := y7z) (fun s => ymr s)).trans ((y1i9 _).trans (by kernel_rfl)))
theorem y1bo : T1 y135 y61 (y6 5 y24 (y6 4 yi (y6 3 yi (y6 2 y1p xN)))) [.t 2] y7z := fun s => y11.trans (ymr s)
def y1iy (a d g j b : AV) (h : Heap) : OX :=
ob (evLd true 5 a h) fun i =>
oh (yc E (yd E) 0 none true 79 [i, b] h) fun c h9 =>
ob (y17 1 c h9) fun e =>
(yc8 a d g j b c e (.int .i64 0) h9)
def y5n := KK5 y1iy 1 3 5 6 7
theorem y1qk : T1 y121 y61 (y6 5 y24 (y6 4 yi (y6 3 yi (y6 2 y1p xN)))) [.t 2] y5n := sq y1bo fun _ => by kernel_rfl
theorem y19p : T1 yz5 y24 (y6 5 y24 (y6 4 yi (y6 3 yi (y6 2 y1p xN)))) [.t 2] y5n := sq y1pb y1qk
def yc5 (b e i j c g a d : AV) (h : Heap) : OX :=
 W E 0 ygz ⟨[(1, b), (3, e), (5, i), (6, j), (7, c), (78, g), (79, a), (80, d)], h⟩ y5n (y6 6 y5n (y6 5 y24 (y6 4 yi (y6 3 yi (y6 2 y1p xN))))) (finP [.t 2])
def y8d := KK8 yc5 1 3 5 6 7 78 79 80
theorem ym4 : T1 ygz y5n (y6 6 y5n (y6 5 y24 (y6 4 yi (y6 3 yi (y6 2 y1p xN))))) [.t 2] y8d := fun s => yu.trans (by kernel_rfl)
def y1jf (b g j k c i a d : AV) (h : Heap) : OX :=
ob (yb .add d (.int .i64 1)) fun e =>
(yc5 b g j k c i a e h)
def y2f1 := KK8 y1jf 1 3 5 6 7 78 79 80
theorem y1lx : T1 y11v y8d (y6 6 y5n (y6 5 y24 (y6 4 yi (y6 3 yi (y6 2 y1p xN))))) [.t 2] y2f1 := fun _ => by kernel_rfl
def y1s2 (u n a t d b k c : AV) (h : Heap) : OX :=
ob (y10 1 b c) fun e =>
ob (evLd false 1 e h) fun w =>
ob (yp a) fun g =>
ob (evFa 1 g) fun l =>
ob (evLd false 1 l h) fun v =>
ob (y10 1 v d) fun x =>
ob (evLd false 1 x h) fun j =>
ob (yp a) fun i =>
ob (evFa 0 i) fun r =>
ob (evLd false 1 r h) fun o =>
ob (y10 1 o w) fun m =>
ob (evLd false 1 m h) fun p =>
oh (yc E (yd E) 0 none false 84 [j, p] h) fun y h10 =>
(y1jf u n a t d b k c h10)
def y2gz := KK8 y1s2 1 3 5 6 7 78 79 80
theorem y1n4 : T1 y0n y8d (y6 6 y5n (y6 5 y24 (y6 4 yi (y6 3 yi (y6 2 y1p xN))))) [.t 2] y2gz := sq y1lx fun _ => by kernel_rfl
def y15a (a c d e b k i j g : AV) (h : Heap) : OX :=
cnd g
 ((y1s2 a c d e b k i j h))
 ((y1iy a c d e b h))
def y2h1 := KK9 y15a 1 3 5 6 7 78 79 80 81
theorem y1hf : T1 y0b y8d (y6 6 y5n (y6 5 y24 (y6 4 yi (y6 3 yi (y6 2 y1p xN))))) [.t 2] y2h1 := sq y1n4 fun _ => by kernel_rfl
def y0t (d g j k e i a b : AV) (h : Heap) : OX :=
ob (yb .lss b a) fun c =>
(y15a d g j k e i a b c h)
def y2d8 := KK8 y0t 1 3 5 6 7 78 79 80
theorem y187 : T1 y04 y8d (y6 6 y5n (y6 5 y24 (y6 4 yi (y6 3 yi (y6 2 y1p xN))))) [.t 2] y2d8 := sq y1hf fun _ => by kernel_rfl
theorem ylj (b e i j c g a d : AV) (h : Heap) : yc5 b e i j c g a d h = (y0t b e i j c g a d h) :=
 y27.trans ((y1q _ _ _ (n' := y8d) (fun s => ym4 s)).trans ((y187 _).trans (by kernel_rfl)))
theorem y1rj : T1 y0v y5n (y6 5 y24 (y6 4 yi (y6 3 yi (y6 2 y1p xN)))) [.t 2] y8d := fun s => y11.trans (ym4 s)
def y1j3 (a e i j b : AV) (h : Heap) : OX :=
ob (evLd true 5 a h) fun g =>
oh (yc E (yd E) 0 none true 81 [g, b] h) fun c h11 =>
ob (y17 1 c h11) fun d =>
(yc5 a e i j b c d (.int .i64 0) h11)
def yoe := KK5 y1j3 1 3 5 6 7
theorem y1mm : T1 yzc y5n (y6 5 y24 (y6 4 yi (y6 3 yi (y6 2 y1p xN)))) [.t 2] yoe := sq y1rj fun _ => by kernel_rfl
theorem y1o2 : T1 y14l y24 (y6 5 y24 (y6 4 yi (y6 3 yi (y6 2 y1p xN)))) [.t 2] yoe := sq y19p y1mm
theorem y1c2 : T1 yv7 y24 (y6 4 yi (y6 3 yi (y6 2 y1p xN))) [.t 2] yoe := fun s => y11.trans (y1o2 s)
theorem y1lr : T1 y0z yeo (y6 4 yi (y6 3 yi (y6 2 y1p xN))) [.t 2] yoe := sq y20s y1c2
def ywl (a c d e b : AV) (h : Heap) : OX :=
ob (yb .geq b (.int .i64 0)) fun g =>
cnd g
 ((y1j3 a c d e b h))
 ((ydn a c d e h))
def y2as := KK5 ywl 1 3 5 6 7
theorem y1pm : T1 y11m yeo (y6 4 yi (y6 3 yi (y6 2 y1p xN))) [.t 2] y2as := sq y1lr fun _ => by kernel_rfl
theorem ypr (a c d e b : AV) (h : Heap) : yhc a c d e b h = (ywl a c d e b h) :=
 y27.trans ((y1q _ _ _ (n' := yeo) (fun s => yr6 s)).trans ((y1pm _).trans (by kernel_rfl)))
theorem y1t2 : T1 y11w yi (y6 3 yi (y6 2 y1p xN)) [.t 2] yeo := fun s => y11.trans (yr6 s)
def y18y (b a d e : AV) (h : Heap) : OX :=
ob (yb .sub a (.int .i64 1)) fun c =>
(yhc b a d e c h)
def y29l := KK4 y18y 1 3 5 6
theorem y1j2 : T1 y14k yi (y6 3 yi (y6 2 y1p xN)) [.t 2] y29l := sq y1t2 fun _ => by kernel_rfl
def y1is (c b a : AV) (h : Heap) : OX :=
(y18y c b a (.bool false) h)
def y1fl := KK3 y1is 1 3 5
theorem y1g5 : T1 yyp yi (y6 3 yi (y6 2 y1p xN)) [.t 2] y1fl := sq y1j2 fun _ => by kernel_rfl
theorem y1s7 : T1 y01 yi (y6 2 y1p xN) [.t 2] y1fl := fun s => y11.trans (y1g5 s)
def yz2 (c b a d : AV) (h : Heap) : OX :=
cnd d
 ((y1is c b a h))
 ((y1oy a h))
def y2fu := KK4 yz2 1 3 5 6
theorem y1mc : T1 yvd yi (y6 2 y1p xN) [.t 2] y2fu := sq y1s7 fun _ => by kernel_rfl
theorem yrn (c b a d : AV) (h : Heap) : ydn c b a d h = (yz2 c b a d h) :=
 y27.trans ((y1q _ _ _ (n' := yi) (fun s => ypb s)).trans ((y1mc _).trans (by kernel_rfl)))
theorem y1sx : T1 y146 y1p xN [.t 2] yi := fun s => y11.trans (ypb s)
def y134 (c b a : AV) (h : Heap) : OX :=
(ydn c b a (.bool true) h)
def y5e := KK3 y134 1 3 5
theorem y1as : T1 y12h y1p xN [.t 2] y5e := sq y1sx fun _ => by kernel_rfl
theorem y1j6 : T0 yv9 [.t 2] y5e := sq y1tq y1as
def yjd (b c g a e d : AV) (h : Heap) : OX :=
 W E 0 yi9 ⟨[(1, b), (3, c), (4, g), (5, a), (32, e), (33, d)], h⟩ y5e (y6 0 y5e xN) (finP [.t 2])
def y8c := KK6 yjd 1 3 4 5 32 33
theorem ylm : T1 yi9 y5e (y6 0 y5e xN) [.t 2] y8c := fun s => yu.trans (by kernel_rfl)
def yld (b c i a e d : AV) (h : Heap) : OX :=
ob (yb .add d (.int .i64 1)) fun g =>
(yjd b c i a e g h)
def y29m := KK6 yld 1 3 4 5 32 33
theorem y1dv : T1 yzb y8c (y6 0 y5e xN) [.t 2] y29m := fun _ => by kernel_rfl
def ykt (F z a b G u : AV) (h : Heap) : OX :=
ob (yp b) fun y =>
ob (evFa 0 y) fun e =>
ob (evLd false 1 e (h ++ yj 9)) fun c =>
oh (mkSC h.length (some 0) 1 8 [(.int .u64 0)] a a (h ++ yj 9)) fun v h12 =>
oh (yl h.length (some 1) 1 1 [.nils] [(0, v)] h12) fun p h13 =>
oh (y1v h.length (some 2) 1 24 c p h13) fun H h14 =>
ob (yp b) fun C =>
ob (evFa 1 C) fun n =>
ob (evLd false 1 n h14) fun g =>
oh (mkSC h.length (some 3) 1 8 [(.int .u64 0)] a a h14) fun x h15 =>
oh (yl h.length (some 4) 1 1 [.nils] [(0, x)] h15) fun k h16 =>
oh (y1v h.length (some 5) 1 24 g k h16) fun B h17 =>
ob (yp b) fun w =>
ob (evFa 2 w) fun i =>
ob (evLd false 1 i h17) fun l =>
oh (mkSC h.length (some 6) 1 8 [(.int .u64 0)] a a h17) fun A h18 =>
oh (yl h.length (some 7) 1 1 [.nils] [(0, A)] h18) fun o h19 =>
oh (y1v h.length (some 8) 1 24 l o h19) fun I h20 =>
ob (yp b) fun t =>
ob (evFa 0 t) fun j =>
oh (evSt 1 j H h20) fun _ h21 =>
ob (yp b) fun D =>
ob (evFa 1 D) fun m =>
oh (evSt 1 m B h21) fun _ h22 =>
ob (yp b) fun r =>
ob (evFa 2 r) fun d =>
oh (evSt 1 d I h22) fun _ h23 =>
okK (y1o [([], []), ([], []), ([], []), ([], []), ([], []), ([], []), (ids1 e, []), ([], []), ([], [h.length + 0]), ([], [h.length + 1]), (ids1 p, ids1 c ++ [h.length + 2]), ([], []), ([], []), ([], []), (ids1 n, []), ([], []), ([], [h.length + 3]), ([], [h.length + 4]), (ids1 k, ids1 g ++ [h.length + 5]), ([], []), ([], []), ([], []), (ids1 i, []), ([], []), ([], [h.length + 6]), ([], [h.length + 7]), (ids1 o, ids1 l ++ [h.length + 8]), ([], []), ([], []), ([], ids1 j), ([], []), ([], []), ([], ids1 m), ([], []), ([], []), ([], ids1 d)] [(6, 8), (6, 9), (8, 14), (9, 14), (10, 14), (6, 16), (8, 16), (9, 16), (10, 16), (14, 16), (6, 17), (8, 17), (9, 17), (10, 17), (14, 17), (8, 22), (9, 22), (10, 22), (16, 22), (17, 22), (18, 22), (6, 24), (8, 24), (9, 24), (10, 24), (14, 24), (16, 24), (17, 24), (18, 24), (22, 24), (6, 25), (8, 25), (9, 25), (10, 25), (14, 25), (16, 25), (17, 25), (18, 25), (22, 25)]) <|
(yld F z a b G u h23)
def y2db := KK6 ykt 1 3 4 5 32 33
theorem y1gr : T1 yxl y8c (y6 0 y5e xN) [.t 2] y2db := sq y1dv fun _ => by kernel_rfl
def yow (b c i a e d g : AV) (h : Heap) : OX :=
cnd g
 ((ykt b c i a e d h))
 ((y134 b c a h))
def y2gy := KK7 yow 1 3 4 5 32 33 34
theorem y1c9 : T1 yv1 y8c (y6 0 y5e xN) [.t 2] y2gy := sq y1gr fun _ => by kernel_rfl
def yqi (d e i c b a : AV) (h : Heap) : OX :=
ob (yb .lss a b) fun g =>
(yow d e i c b a g h)
def y2ag := KK6 yqi 1 3 4 5 32 33
theorem y1sm : T1 yxn y8c (y6 0 y5e xN) [.t 2] y2ag := sq y1c9 fun _ => by kernel_rfl
theorem yep (b c g a e d : AV) (h : Heap) : yjd b c g a e d h = (yqi b c g a e d h) :=
 y27.trans ((y1q _ _ _ (n' := y8c) (fun s => ylm s)).trans ((y1sm _).trans (by kernel_rfl)))
theorem y1bm : T1 yxa y5e xN [.t 2] y8c := fun s => y11.trans (ylm s)
def y1pi (d a b c : AV) (h : Heap) : OX :=
(yjd d a b c a (.int .i64 0) h)
def y1jz := KK4 y1pi 1 3 4 5
theorem y1pe : T1 yz6 y5e xN [.t 2] y1jz := sq y1bm fun _ => by kernel_rfl
theorem y1mo : T0 yza [.t 2] y1jz := sq y1j6 y1pe
def y1r5 (a g j : AV) (h : Heap) : OX :=
ob (evFa 0 a) fun d =>
ob (evLd false 1 d h) fun e =>
ob (y17 1 e h) fun c =>
ob (yq zq5 [(3, 1, c)]) fun b =>
oh (newC 0 (some 1) (cellsOf b) h) fun i h24 =>
(y1pi a g j i h24)
def y2b8 := KK3 y1r5 1 3 4
theorem y1hq : T0 y157 [.t 2] y2b8 := sq y1mo fun _ => by kernel_rfl
def y193 (a : AV) (h : Heap) : OX :=
ob (evFa 3 a) fun e =>
ob (evLd false 1 e h) fun k =>
ob (y17 1 k h) fun g =>
ob (evFa 0 a) fun d =>
ob (evLd false 1 d h) fun i =>
ob (y17 1 i h) fun c =>
ob (yb .quo c (.int .i64 64)) fun b =>
ob (yb .add b (.int .i64 1)) fun j =>
(y1r5 a g j h)
def y2dw := KK1 y193 1
theorem y1fv : T0 yw9 [.t 2] y2dw := sq y1hq fun _ => by kernel_rfl
def y1f3 (a : AV) (h : Heap) : OX :=
ob (evLd true 5 a h) fun d =>
oh (yc E (yd E) 0 none true 8 [d] h) fun b h25 =>
ob (yb .neq b (.int .i64 0)) fun c =>
cnd c
 ((yo h25 AV.nilp))
 ((y193 a h25))
def y28m := KK1 y1f3 1
theorem y1l6 : T0 y00 [.t 2] y28m := sq y1fv fun _ => by kernel_rfl
def y1fr (a : AV) (h : Heap) : OX :=
oh (newC 0 (some 0) (cellsOf a) h) fun b h26 =>
(y1f3 b h26)
def y2aa := KK1 y1fr 0
theorem y1jg : T0 yw3 [.t 2] y2aa := sq y1l6 fun _ => by kernel_rfl
@[simp] theorem y2sq : E.pure 75 = true := rfl
theorem y2rp (a : AV) : (yd E).p 75 [a] = y1fr a [⟨0, .dead⟩, ⟨0, .dead⟩, ⟨0, .dead⟩] :=
 (y1r (cf := y2kb) (by kernel_rfl) rfl).trans ((y1jg _).trans (by kernel_rfl))
def y2gp (k : AV) (h : Heap) : OX :=
oh (newC 0 (some 0) (cellsOf k) h) fun b h1 =>
ob (evFa 0 b) fun g =>
ob (evLd false 1 g h1) fun j =>
ob (yb .geq j (.int .i64 23)) fun a =>
gb a true (evFa 0 b) fun d =>
gb a true (evLd false 1 d h1) fun c =>
gb a true (yb .leq c (.int .i64 26)) fun e =>
ob (yh a e (.bool false)) fun i =>
(yo h1 i)
def y2on := KK1 y2gp 0
theorem y1uz : T0 y1lo [.t 2] y2on := fun _ => by kernel_rfl
@[simp] theorem yua : E.pure 17 = true := rfl
theorem y2rk (a : AV) : (yd E).p 17 [a] = y2gp a [⟨0, .dead⟩] :=
 (y1r (cf := y2k5) (by kernel_rfl) rfl).trans ((y1uz _).trans (by kernel_rfl))
def ytb (c d e w : AV) (h : Heap) : OX :=
ob (yp c) fun j =>
ob (evFa 2 j) fun B =>
ob (evLd false 1 B h) fun n =>
oh (yc E (yd E) 0 none true 82 [c, n, d, e] h) fun a h1 =>
gb a false (some c) fun k =>
gb a false (some c) fun g =>
gb a false (yp g) fun C =>
gb a false (evFa 1 C) fun m =>
gb a false (evLd false 1 m h1) fun F =>
gb a false (some d) fun D =>
gb a false (some e) fun i =>
gh a false (yc E (yd E) 0 none true 82 [k, F, D, i] h1) h1 fun A h2 =>
gb a false (some A) fun b =>
gb b true (evFa 3 w) fun t =>
gb b true (evLd false 1 t h2) fun l =>
gb b true (some d) fun p =>
gb b true (y10 9 l p) fun x =>
gb b true (evLd true 9 x h2) fun v =>
gh b true (yc E (yd E) 0 none true 9 [v] h2) h2 fun r h3 =>
gb b true (some e) fun o =>
gb b true (yb .neq r o) fun u =>
gb a false (yh b u (.bool false)) fun y =>
ob (yh a (.bool true) y) fun z =>
(yo h3 z)
def y2nc := KK4 ytb 0 2 3 5
theorem y1zw : T0 y1dc [.t 8] y2nc := fun _ => by kernel_rfl
def ytr (e c v g : AV) (h : Heap) : OX :=
ob (yfq 0 false e AV.nilp) fun d =>
gb d false (some c) fun l =>
gb d false (yb .lss l (.int .i64 0)) fun r =>
ob (yh d (.bool true) r) fun b =>
gb b false (some c) fun j =>
gb b false (evFa 3 g) fun y =>
gb b false (evLd false 1 y h) fun o =>
gb b false (y17 1 o h) fun t =>
gb b false (yb .geq j t) fun m =>
ob (yh b (.bool true) m) fun a =>
gb a false (some c) fun z =>
gb a false (some e) fun n =>
gb a false (yp n) fun u =>
gb a false (evFa 1 u) fun w =>
gb a false (evLd false 1 w h) fun p =>
gb a false (y17 1 p h) fun k =>
gb a false (yb .geq z k) fun x =>
ob (yh a (.bool true) x) fun i =>
cnd i
 ((yo h (.bool false)))
 ((ytb e c v g h))
def y2od := KK4 ytr 0 2 3 5
theorem y23i : T0 y1jt [.t 8] y2od := sq y1zw fun _ => by kernel_rfl
def ytj (e a c b : AV) (h : Heap) : OX :=
oh (newC 0 (some 0) (cellsOf a) h) fun d h4 =>
(ytr e c b d h4)
def y2lf := KK4 ytj 0 1 2 3
theorem y24f : T0 y1po [.t 8] y2lf := sq y23i fun _ => by kernel_rfl
@[simp] theorem y2s2 : E.pure 88 = true := rfl
theorem y2sk (c d b a : AV) : (yd E).p 88 [c, d, b, a] = ytj c d b a [⟨0, .dead⟩] :=
 (y1r (cf := y2ov) (by kernel_rfl) rfl).trans ((y24f _).trans (by kernel_rfl))
def y1mk (h : Heap) : OX :=
(yo h (.int .i64 0))
def y9r := KK0 y1mk
theorem y1xy : T0 y1sh [.t 2] y9r := fun _ => by kernel_rfl
def ykb (a : AV) (h : Heap) : OX :=
cnd a
 ((yo h (.int .i64 2)))
 ((y1mk h))
def y2lx := KK1 ykb 19
theorem y20l : T1 y1sj y9r (y6 0 y9r xN) [.t 2] y2lx := fun _ => by kernel_rfl
def y1na (a : AV) (h : Heap) : OX :=
ob (yb .eql a (.int .i64 28)) fun g =>
cnd g
 ((ykb g h))
 (ob (yb .eql a (.int .i64 29)) fun d =>
cnd d
 ((ykb d h))
 (ob (yb .eql a (.int .i64 23)) fun c =>
cnd c
 ((ykb c h))
 (ob (yb .eql a (.int .i64 24)) fun e =>
cnd e
 ((ykb e h))
 (ob (yb .eql a (.int .i64 25)) fun b =>
cnd b
 ((ykb b h))
 (ob (yb .eql a (.int .i64 26)) fun i =>
(ykb i h))))))
def y2m3 := KK1 y1na 3
theorem y1ub : T1 y1dd y9r (y6 0 y9r xN) [.t 2] y2m3 := sq y20l fun _ => by kernel_rfl
def y9n (b a : AV) (h : Heap) : OX :=
cnd a
 ((yo h (.int .i64 1)))
 ((y1na b h))
def y2n8 := KK2 y9n 3 4
theorem y1zy : T1 y1f0 y9r (y6 0 y9r xN) [.t 2] y2n8 := fun s => (y1t rfl (y1ub s)).trans (by kernel_rfl)
def y19z (a : AV) (h : Heap) : OX :=
ob (yb .eql a (.int .i64 1)) fun n =>
cnd n
 ((y9n a n h))
 (ob (yb .eql a (.int .i64 3)) fun p =>
cnd p
 ((y9n a p h))
 (ob (yb .eql a (.int .i64 5)) fun c =>
cnd c
 ((y9n a c h))
 (ob (yb .eql a (.int .i64 6)) fun b =>
cnd b
 ((y9n a b h))
 (ob (yb .eql a (.int .i64 12)) fun d =>
cnd d
 ((y9n a d h))
 (ob (yb .eql a (.int .i64 14)) fun k =>
cnd k
 ((y9n a k h))
 (ob (yb .eql a (.int .i64 16)) fun i =>
cnd i
 ((y9n a i h))
 (ob (yb .eql a (.int .i64 17)) fun j =>
cnd j
 ((y9n a j h))
 (ob (yb .eql a (.int .i64 18)) fun g =>
cnd g
 ((y9n a g h))
 (ob (yb .eql a (.int .i64 19)) fun o =>
cnd o
 ((y9n a o h))
 (ob (yb .eql a (.int .i64 20)) fun l =>
cnd l
 ((y9n a l h))
 (ob (yb .eql a (.int .i64 21)) fun e =>
cnd e
 ((y9n a e h))
 (ob (yb .eql a (.int .i64 22)) fun m =>
cnd m
 ((y9n a m h))
 (ob (yb .eql a (.int .i64 27)) fun r =>
(y9n a r h))))))))))))))
def y24u := KK1 y19z 3
theorem y1ts : T1 y1rh y9r (y6 0 y9r xN) [.t 2] y24u := sq y1zy fun _ => by kernel_rfl
theorem y203 : T1 y1t4 y9r xN [.t 2] y24u := fun s => y11.trans (y1ts s)
def y1qg (a : AV) (h : Heap) : OX :=
(y19z a h)
def y26l := KK1 y1qg 0
theorem y230 : T1 y1k4 y9r xN [.t 2] y26l := sq y203 fun _ => by kernel_rfl
theorem y20o : T0 y1p9 [.t 2] y26l := sq y1xy y230
def y1ic (a : AV) (h : Heap) : OX :=
(y1qg a h)
def y2iz := KK1 y1ic 0
theorem y1vr : T0 y1c1 [.t 2] y2iz := sq y20o fun _ => by kernel_rfl
@[simp] theorem y2pz : E.pure 234 = true := rfl
theorem y2sx (a : AV) : (yd E).p 234 [a] = y1ic a [] :=
 (y1r (cf := y2j3) (by kernel_rfl) rfl).trans ((y1vr _).trans (by kernel_rfl))
def q7_1 (b : AV) (h : Heap) : OX :=
ob (yb .and b (.int .u32 255)) fun c =>
ob (y85 .i64 c) fun a =>
(yo h a)
def y2ta := KK1 q7_1 0
theorem y2e0 : T0 y27g [.t 2] y2ta := fun _ => by kernel_rfl
def q7_2 (a : AV) (h : Heap) : OX :=
ob (yb .and a (.int .u32 255)) fun b =>
ob (yb .eql b (.int .u32 255)) fun c =>
cnd c
 ((yo h (.int .i64 (-1))))
 ((q7_1 a h))
def y2s3 := KK1 q7_2 0
theorem y28g : T0 y26s [.t 2] y2s3 := sq y2e0 fun _ => by kernel_rfl
def q7_3 (a : AV) (h : Heap) : OX :=
(q7_2 a h)
def y2rw := KK1 q7_3 0
theorem y2b9 : T0 y265 [.t 2] y2rw := sq y28g fun _ => by kernel_rfl
@[simp] theorem y2ps : E.pure 235 = true := rfl
theorem x_q7 (a : AV) : (yd E).p 235 [a] = q7_3 a [] :=
 (y1r (cf := c_q7) (by kernel_rfl) rfl).trans ((y2b9 _).trans (by kernel_rfl))
def yim (fb : Nat) (h : Heap) : Option (AV × Heap) :=
(some ((.bool true), h))
def y2y (fb : Nat) := KK0 (yim fb)
theorem y1yn (fb : Nat) (s : St) : W E fb y1s9 s (finI [.t 6]) xN (finI [.t 6]) = y2y fb s :=
 by kernel_rfl
def y2e1 (fb : Nat) (b d c : AV) (h : Heap) : Option (AV × Heap) :=
ob (evFa 4 d) fun j =>
ob (evLd false 1 j h) fun i =>
ob (y10 1 i c) fun k =>
ob (evLd false 1 k h) fun a =>
ob (yp b) fun g =>
ob (evFa 7 g) fun e =>
oh (evSt 1 e a h) fun _ h1 =>
(yim fb h1)
def y25v (fb : Nat) := KK3 (y2e1 fb) 1 3 7
theorem y1zs (fb : Nat) (s : St) : W E fb y1sq s (y2y fb) (y6 0 (y2y fb) xN) (finI [.t 6]) = y25v fb s :=
 by kernel_rfl
def y1rq (fb : Nat) (c b a : AV) (h : Heap) : Option (AV × Heap) :=
ob (evFa 4 b) fun d =>
ob (evLd false 1 d h) fun g =>
ob (y17 1 g h) fun e =>
ob (yb .geq a e) fun i =>
cnd i
 ((some ((.bool false), h)))
 ((y2e1 fb c b a h))
def y2mn (fb : Nat) := KK3 (y1rq fb) 1 3 7
theorem y21r (fb : Nat) (s : St) : W E fb y1nv s (y2y fb) (y6 0 (y2y fb) xN) (finI [.t 6]) = y2mn fb s :=
 (y32 (k := (y25v fb)) (fun s => y1zs fb s)).trans (by kernel_rfl)
def y2c0 (fb : Nat) (c g d : AV) (h : Heap) : Option (AV × Heap) :=
ob (evFa 3 g) fun k =>
ob (evLd false 1 k h) fun j =>
ob (y10 1 j d) fun e =>
ob (evLd false 1 e h) fun b =>
ob (yp c) fun a =>
ob (evFa 5 a) fun i =>
oh (evSt 1 i b h) fun _ h2 =>
(yim fb h2)
def y25u (fb : Nat) := KK3 (y2c0 fb) 1 3 7
theorem y249 (fb : Nat) (s : St) : W E fb y1kx s (y2y fb) (y6 0 (y2y fb) xN) (finI [.t 6]) = y25u fb s :=
 by kernel_rfl
def y1r9 (fb : Nat) (c b a : AV) (h : Heap) : Option (AV × Heap) :=
ob (evFa 3 b) fun i =>
ob (evLd false 1 i h) fun e =>
ob (y17 1 e h) fun d =>
ob (yb .geq a d) fun g =>
cnd g
 ((some ((.bool false), h)))
 ((y2c0 fb c b a h))
def y2l4 (fb : Nat) := KK3 (y1r9 fb) 1 3 7
theorem y22q (fb : Nat) (s : St) : W E fb y1n7 s (y2y fb) (y6 0 (y2y fb) xN) (finI [.t 6]) = y2l4 fb s :=
 (y32 (k := (y25u fb)) (fun s => y249 fb s)).trans (by kernel_rfl)
def y195 (fb : Nat) (a g e b m : AV) (h : Heap) : Option (AV × Heap) :=
cnd m
 (ob (y10 1 g (.int .i64 1)) fun n =>
ob (evLd false 1 n h) fun i =>
ob (y85 .i64 i) fun j =>
ob (yp a) fun c =>
ob (evFa 6 c) fun d =>
oh (evSt 1 d b h) fun _ h3 =>
ob (yp a) fun l =>
ob (evFa 5 l) fun k =>
oh (evSt 1 k j h3) fun _ h4 =>
(yim fb h4))
 ((y1r9 fb a e b h))
def y277 (fb : Nat) := KK5 (y195 fb) 1 2 3 7 63
theorem y1xl (fb : Nat) (s : St) : W E fb y1b0 s (y2y fb) (y6 0 (y2y fb) xN) (finI [.t 6]) = y277 fb s :=
 (y1t rfl (y22q fb s)).trans (by kernel_rfl)
def y1u6 (fb : Nat) (a e d c b : AV) (h : Heap) : Option (AV × Heap) :=
ob (yb .eql b (.int .i64 28)) fun g =>
cnd g
 ((y195 fb a e d c g h))
 (ob (yb .eql b (.int .i64 29)) fun i =>
(y195 fb a e d c i h))
def y2j2 (fb : Nat) := KK5 (y1u6 fb) 1 2 3 7 18
theorem y1w6 (fb : Nat) (s : St) : W E fb y1jl s (y2y fb) (y6 0 (y2y fb) xN) (finI [.t 6]) = y2j2 fb s :=
 (y32 (k := (y277 fb)) (fun s => y1xl fb s)).trans (by kernel_rfl)
def y1k5 (fb : Nat) (a g e b c i : AV) (h : Heap) : Option (AV × Heap) :=
cnd i
 (ob (yp a) fun j =>
ob (evFa 6 j) fun d =>
oh (evSt 1 d b h) fun _ h5 =>
(yim fb h5))
 ((y1u6 fb a g e b c h))
def y24s (fb : Nat) := KK6 (y1k5 fb) 1 2 3 7 18 57
theorem y227 (fb : Nat) (s : St) : W E fb y1qo s (y2y fb) (y6 0 (y2y fb) xN) (finI [.t 6]) = y24s fb s :=
 (y1t rfl (y1w6 fb s)).trans (by kernel_rfl)
def y1bt (fb : Nat) (b e d c a : AV) (h : Heap) : Option (AV × Heap) :=
ob (yb .eql a (.int .i64 27)) fun g =>
(y1k5 fb b e d c a g h)
def y2nr (fb : Nat) := KK5 (y1bt fb) 1 2 3 7 18
theorem y1yy (fb : Nat) (s : St) : W E fb y1ay s (y2y fb) (y6 0 (y2y fb) xN) (finI [.t 6]) = y2nr fb s :=
 (y32 (k := (y24s fb)) (fun s => y227 fb s)).trans (by kernel_rfl)
def yl0 (fb : Nat) (a i g b e d : AV) (h : Heap) : Option (AV × Heap) :=
cnd d
 (ob (yp a) fun c =>
ob (evFa 4 c) fun j =>
oh (evSt 1 j b h) fun _ h6 =>
(yim fb h6))
 ((y1bt fb a i g b e h))
def y1ot (fb : Nat) := KK6 (yl0 fb) 1 2 3 7 18 51
theorem y1ld (fb : Nat) (s : St) : W E fb yuz s (y2y fb) (y6 0 (y2y fb) xN) (finI [.t 6]) = y1ot fb s :=
 (y1t rfl (y1yy fb s)).trans (by kernel_rfl)
def ylc (fb : Nat) (b e d c a : AV) (h : Heap) : Option (AV × Heap) :=
ob (yb .eql a (.int .i64 14)) fun g =>
(yl0 fb b e d c a g h)
def y29b (fb : Nat) := KK5 (ylc fb) 1 2 3 7 18
theorem y18s (fb : Nat) (s : St) : W E fb y13t s (y2y fb) (y6 0 (y2y fb) xN) (finI [.t 6]) = y29b fb s :=
 (y32 (k := (y1ot fb)) (fun s => y1ld fb s)).trans (by kernel_rfl)
def y9w (fb : Nat) (a e c b d g : AV) (h : Heap) : Option (AV × Heap) :=
cnd g
 ((y1rq fb a c b h))
 ((ylc fb a e c b d h))
def y1py (fb : Nat) := KK6 (y9w fb) 1 2 3 7 18 32
theorem y1cv (fb : Nat) (s : St) : W E fb y14e s (y2y fb) (y6 0 (y2y fb) xN) (finI [.t 6]) = y1py fb s :=
 (y1t (y21r fb s) (y18s fb s)).trans (by kernel_rfl)
def yg0 (fb : Nat) (b e d c a : AV) (h : Heap) : Option (AV × Heap) :=
ob (yb .eql a (.int .i64 3)) fun g =>
cnd g
 ((y9w fb b e d c a g h))
 (ob (yb .eql a (.int .i64 12)) fun j =>
cnd j
 ((y9w fb b e d c a j h))
 (ob (yb .eql a (.int .i64 21)) fun k =>
cnd k
 ((y9w fb b e d c a k h))
 (ob (yb .eql a (.int .i64 22)) fun i =>
cnd i
 ((y9w fb b e d c a i h))
 (ob (yb .eql a (.int .i64 25)) fun l =>
(y9w fb b e d c a l h)))))
def yuo (fb : Nat) := KK5 (yg0 fb) 1 2 3 7 18
theorem y19r (fb : Nat) (s : St) : W E fb y15c s (y2y fb) (y6 0 (y2y fb) xN) (finI [.t 6]) = yuo fb s :=
 (y32 (k := (y1py fb)) (fun s => y1cv fb s)).trans (by kernel_rfl)
theorem y1dy (fb : Nat) (s : St) : W E fb y0e s (y2y fb) xN (finI [.t 6]) = yuo fb s :=
 y11.trans (y19r fb s)
def y1gc (fb : Nat) (a g e c : AV) (h : Heap) : Option (AV × Heap) :=
ob (yp a) fun b =>
ob (evFa 0 b) fun i =>
ob (evLd false 1 i h) fun d =>
(yg0 fb a g e c d h)
def yu3 (fb : Nat) := KK4 (y1gc fb) 1 2 3 7
theorem y1fu (fb : Nat) (s : St) : W E fb y13i s (y2y fb) xN (finI [.t 6]) = yu3 fb s :=
 (y32 (k := (yuo fb)) (fun s => y1dy fb s)).trans (by kernel_rfl)
theorem y1s6 (fb : Nat) (s : St) : W E fb y13s s (finI [.t 6]) xN (finI [.t 6]) = yu3 fb s :=
 (y32 (k := (y2y fb)) (fun s => y1yn fb s)).trans (y1fu fb s)
def y1ms (fb : Nat) (b a c : AV) (h : Heap) : Option (AV × Heap) :=
ob (y10 1 a (.int .i64 0)) fun e =>
ob (evLd false 1 e h) fun d =>
ob (y85 .i64 d) fun g =>
(y1gc fb b a c g h)
def y1p6 (fb : Nat) := KK3 (y1ms fb) 1 2 3
theorem y1es (fb : Nat) (s : St) : W E fb yv0 s (finI [.t 6]) xN (finI [.t 6]) = y1p6 fb s :=
 (y32 (k := (yu3 fb)) (fun s => y1s6 fb s)).trans (by kernel_rfl)
def ypa (fb : Nat) (b a d : AV) (h : Heap) : Option (AV × Heap) :=
ob (y17 1 a h) fun c =>
ob (yb .eql c (.int .i64 0)) fun e =>
cnd e
 ((some ((.bool true), h)))
 ((y1ms fb b a d h))
def y1ft (fb : Nat) := KK3 (ypa fb) 1 2 3
theorem y1sc (fb : Nat) (s : St) : W E fb yyv s (finI [.t 6]) xN (finI [.t 6]) = y1ft fb s :=
 (y32 (k := (y1p6 fb)) (fun s => y1es fb s)).trans (by kernel_rfl)
def y17s (fb : Nat) (c d b : AV) (h : Heap) : Option (AV × Heap) :=
oh (newC fb (some 0) (cellsOf c) h) fun a h7 =>
(ypa fb d b a h7)
def y2b3 (fb : Nat) := KK3 (y17s fb) 0 1 2
theorem y1fg (fb : Nat) (s : St) : W E fb y13b s (finI [.t 6]) xN (finI [.t 6]) = y2b3 fb s :=
 (y32 (k := (y1ft fb)) (fun s => y1sc fb s)).trans (by kernel_rfl)
@[simp] theorem y2q9 : E.pure 236 = false := rfl
theorem y2tv (fb : Nat) (b c a : AV) (h : Heap) : (yd E).i 236 [b, c, a] fb h = y17s fb b c a (if fb = h.length then h ++ yj 1 else h) :=
 (y63 (cf := y2jf) (by kernel_rfl) rfl).trans ((y1fg fb _).trans (by kernel_rfl))
def y29o (o : AV) (h : Heap) : OX :=
oh (newC 0 (some 0) (cellsOf o) h) fun c h1 =>
ob (evFa 0 c) fun i =>
ob (evLd false 1 i h1) fun m =>
ob (yb .eql m (.int .i64 27)) fun a =>
gb a false (evFa 0 c) fun e =>
gb a false (evLd false 1 e h1) fun d =>
gb a false (yb .eql d (.int .i64 30)) fun g =>
ob (yh a (.bool true) g) fun b =>
gb b false (evFa 0 c) fun k =>
gb b false (evLd false 1 k h1) fun j =>
gb b false (yb .eql j (.int .i64 31)) fun n =>
ob (yh b (.bool true) n) fun l =>
(yo h1 l)
def y2ih := KK1 y29o 0
theorem y1ww : T0 y1px [.t 2] y2ih := fun _ => by kernel_rfl
@[simp] theorem y2sm : E.pure 24 = true := rfl
theorem y2sf (a : AV) : (yd E).p 24 [a] = y29o a [⟨0, .dead⟩] :=
 (y1r (cf := y2lj) (by kernel_rfl) rfl).trans ((y1ww _).trans (by kernel_rfl))
def yx1 (b c : AV) (h : Heap) : OX :=
oh (yc E (yd E) 0 none true 45 [b, c] h) fun d h1 =>
ob (yb .geq d (.int .i64 0)) fun a =>
(yo h1 a)
def y2do := KK2 yx1 0 1
theorem y1kd : T0 ywy [.t 4] y2do := fun _ => by kernel_rfl
@[simp] theorem y2rj : E.pure 46 = true := rfl
theorem y2om (a b : AV) : (yd E).p 46 [a, b] = yx1 a b [] :=
 (y1r (cf := y25c) (by kernel_rfl) rfl).trans ((y1kd _).trans (by kernel_rfl))
end
end Go.Vm
