/- Functions of the machine as plain functions that go on with what follows. -/
import Derived.Test.YtjlbafgbohekfaaNEnv
set_option linter.unusedSimpArgs false
set_option linter.unusedVariables false
set_option linter.unusedSectionVars false
namespace Go.Vm
noncomputable section
def y18h (i c : AV) (h : Heap) : OX :=
ob (evLd true 9 c h) fun t =>
oh (yc E (yd E) 0 none true 22 [t] h) fun n h1 =>
ob (evUn .not n) fun b =>
gb b false (evFa 6 c) fun e =>
gb b false (evLd false 1 e h1) fun r =>
gb b false (yb .geq r (.int .i64 0)) fun o =>
gb b false (some o) fun a =>
gb a true (evFa 6 c) fun u =>
gb a true (evLd false 1 u h1) fun k =>
gb a true (evFa 3 i) fun p =>
gb a true (evLd false 1 p h1) fun m =>
gb a true (y17 1 m h1) fun g =>
gb a true (yb .lss k g) fun j =>
gb b false (yh a j (.bool false)) fun d =>
ob (yh b (.bool true) d) fun l =>
(yo h1 l)
def y2l8 := KK2 y18h 2 3
theorem y1z0 : T0 y1k8 [.t 4] y2l8 := fun _ => by kernel_rfl
def y9o (d a : AV) (h : Heap) : OX :=
ob (evFa 0 a) fun c7 =>
ob (evLd false 1 c7 h) fun i =>
ob (yb .eql i (.int .i64 1)) fun m =>
cnd m
 (ob (evFa 0 d) fun Z =>
ob (evLd false 1 Z h) fun I =>
ob (evFa 1 a) fun a9 =>
ob (evLd false 1 a9 h) fun a3 =>
ob (y10 1 I a3) fun a5 =>
ob (evLd false 1 a5 h) fun r =>
ob (yb .neq r (.int .i64 3)) fun b =>
gb b true (evFa 0 d) fun b0 =>
gb b true (evLd false 1 b0 h) fun w =>
gb b true (evFa 1 a) fun b1 =>
gb b true (evLd false 1 b1 h) fun a2 =>
gb b true (y10 1 w a2) fun A =>
gb b true (evLd false 1 A h) fun F =>
gb b true (yb .eql F (.int .i64 2)) fun D =>
gb b true (some D) fun e =>
gb e false (evFa 5 a) fun a1 =>
gb e false (evLd false 1 a1 h) fun p =>
gb e false (evFa 5 a) fun b5 =>
gb e false (evLd false 1 b5 h) fun B =>
gb e false (y85 .i32 B) fun Q =>
gb e false (y85 .i64 Q) fun N =>
gb e false (yb .eql p N) fun a8 =>
gb b true (yh e (.bool true) a8) fun R =>
ob (yh b R (.bool false)) fun C =>
(yo h C))
 (ob (yb .eql i (.int .i64 4)) fun S =>
cnd S
 (ob (evFa 0 d) fun b9 =>
ob (evLd false 1 b9 h) fun b7 =>
ob (evFa 1 a) fun b2 =>
ob (evLd false 1 b2 h) fun c2 =>
ob (y10 1 b7 c2) fun U =>
ob (evLd false 1 U h) fun c8 =>
ob (evFa 0 d) fun t =>
ob (evLd false 1 t h) fun G =>
ob (evFa 2 a) fun c3 =>
ob (evLd false 1 c3 h) fun V =>
ob (y10 1 G V) fun u =>
ob (evLd false 1 u h) fun K =>
ob (yb .eql c8 K) fun a7 =>
(yo h a7))
 (ob (yb .eql i (.int .i64 7)) fun c4 =>
cnd c4
 (ob (evFa 0 d) fun X =>
ob (evLd false 1 X h) fun a4 =>
ob (evFa 2 a) fun c1 =>
ob (evLd false 1 c1 h) fun n =>
ob (y10 1 a4 n) fun z =>
ob (evLd false 1 z h) fun L =>
ob (yb .neq L (.int .i64 3)) fun H =>
(yo h H))
 (ob (yb .eql i (.int .i64 30)) fun j =>
cnd j
 (ob (evFa 2 a) fun M =>
ob (evLd false 1 M h) fun c6 =>
ob (yb .eql c6 (.int .i64 (-1))) fun b8 =>
ob (evFa 2 d) fun J =>
ob (evLd false 1 J h) fun Y =>
ob (yb .eql Y (.int .i64 0)) fun P =>
ob (y1y7 false b8 P) fun g =>
gb g true (evFa 2 a) fun O =>
gb g true (evLd false 1 O h) fun b6 =>
gb g true (yb .eql b6 (.int .i64 (-1))) fun a6 =>
gb g true (some a6) fun c =>
gb c false (evFa 0 d) fun o =>
gb c false (evLd false 1 o h) fun a0 =>
gb c false (evFa 2 a) fun b3 =>
gb c false (evLd false 1 b3 h) fun c5 =>
gb c false (y10 1 a0 c5) fun c0 =>
gb c false (evLd false 1 c0 h) fun k =>
gb c false (evFa 2 d) fun b4 =>
gb c false (evLd false 1 b4 h) fun x =>
gb c false (yb .eql k x) fun l =>
gb g true (yh c (.bool true) l) fun y =>
ob (yh g y (.bool false)) fun v =>
(yo h v))
 ((y18h d a h)))))
def y5z := KK2 y9o 2 3
theorem y1wi : T0 y1o5 [.t 4] y5z := sq y1z0 fun _ => by kernel_rfl
def yjw (b a c d e : AV) (h : Heap) : OX :=
 W E 0 yoj ⟨[(2, b), (3, a), (63, c), (64, d), (65, e)], h⟩ y5z (y6 2 y5z xN) (finP [.t 4])
def ycd := KK5 yjw 2 3 63 64 65
theorem yp9 : T1 yoj y5z (y6 2 y5z xN) [.t 4] ycd := fun s => yu.trans (by kernel_rfl)
def y1rd (c a d e g : AV) (h : Heap) : OX :=
ob (yb .add g (.int .i64 1)) fun b =>
(yjw c a d e b h)
def yfe := KK5 y1rd 2 3 63 64 65
theorem y22m : T1 y1k1 ycd (y6 2 y5z xN) [.t 4] yfe := fun _ => by kernel_rfl
def yh9 (g j t i D J K : AV) (h : Heap) : OX :=
ob (yb .lss i (.int .i64 0)) fun d =>
gb d false (some i) fun B =>
gb d false (evFa 0 g) fun F =>
gb d false (evLd false 1 F h) fun m =>
gb d false (y17 1 m h) fun w =>
gb d false (yb .geq B w) fun p =>
ob (yh d (.bool true) p) fun a =>
gb a false (some t) fun N =>
gb a false (yb .eql N (.int .i64 0)) fun l =>
gb a false (some l) fun c =>
gb c true (evFa 0 j) fun x =>
gb c true (evLd false 1 x h) fun L =>
gb c true (yb .eql L (.int .i64 24)) fun z =>
gb c true (some z) fun e =>
gb e false (evFa 0 j) fun u =>
gb e false (evLd false 1 u h) fun k =>
gb e false (yb .eql k (.int .i64 25)) fun n =>
gb c true (yh e (.bool true) n) fun I =>
gb a false (yh c I (.bool false)) fun A =>
gb a false (some A) fun b =>
gb b true (evFa 0 g) fun y =>
gb b true (evLd false 1 y h) fun C =>
gb b true (some i) fun v =>
gb b true (y10 1 C v) fun r =>
gb b true (evLd false 1 r h) fun G =>
gb b true (yb .neq G (.int .i64 3)) fun o =>
gb a false (yh b o (.bool false)) fun H =>
ob (yh a (.bool true) H) fun M =>
cnd M
 ((yo h (.bool false)))
 ((y1rd g j D J K h))
def y2hw := KK7 yh9 2 3 9 10 63 64 65
theorem y1ux : T1 y17p yfe (y6 3 yfe (y6 2 y5z xN)) [.t 4] y2hw := fun _ => by kernel_rfl
def y185 (b a d i j k l : AV) (h : Heap) : OX :=
ob (evLd true 9 a h) fun c =>
oh (yc E (yd E) 0 none true 17 [c] h) fun e h2 =>
ob (evUn .not e) fun g =>
cnd g
 ((y9o b a h2))
 ((yh9 b a d i j k l h2))
def y2pg := KK7 y185 2 3 9 10 63 64 65
theorem y1z2 : T1 y1mn yfe (y6 3 yfe (y6 2 y5z xN)) [.t 4] y2pg := sq y1ux fun _ => by kernel_rfl
def y1mi (e c b i a : AV) (h : Heap) : OX :=
ob (y10 1 b a) fun g =>
ob (evLd false 1 g h) fun d =>
(y185 e c a d b i a h)
def y1hj := KK5 y1mi 2 3 63 64 65
theorem y1vc : T1 y1qq yfe (y6 3 yfe (y6 2 y5z xN)) [.t 4] y1hj := sq y1z2 fun _ => by kernel_rfl
theorem y1zt : T1 y1re yfe (y6 2 y5z xN) [.t 4] y1hj := fun s => y11.trans (y1vc s)
theorem y20e : T1 y1ss ycd (y6 2 y5z xN) [.t 4] y1hj := sq y22m y1zt
def yhn (b a d e g c : AV) (h : Heap) : OX :=
cnd c
 ((y1mi b a d e g h))
 ((y9o b a h))
def y29g := KK6 yhn 2 3 63 64 65 66
theorem y1hi : T1 y13k ycd (y6 2 y5z xN) [.t 4] y29g := sq y20e fun _ => by kernel_rfl
def yis (e d g a b : AV) (h : Heap) : OX :=
ob (yb .lss b a) fun c =>
(yhn e d g a b c h)
def y2gc := KK5 yis 2 3 63 64 65
theorem y1l9 : T1 yxy ycd (y6 2 y5z xN) [.t 4] y2gc := sq y1hi fun _ => by kernel_rfl
theorem yih (b a c d e : AV) (h : Heap) : yjw b a c d e h = (yis b a c d e h) :=
 y27.trans ((y1q _ _ _ (n' := ycd) (fun s => yp9 s)).trans ((y1l9 _).trans (by kernel_rfl)))
theorem y1hn : T1 yvv y5z xN [.t 4] ycd := fun s => y11.trans (yp9 s)
def yqe (d a : AV) (h : Heap) : OX :=
ob (evFa 8 a) fun c =>
ob (evLd false 1 c h) fun b =>
ob (y17 1 b h) fun e =>
(yjw d a b e (.int .i64 0) h)
def y3y := KK2 yqe 2 3
theorem y1ps : T1 y0m y5z xN [.t 4] y3y := sq y1hn fun _ => by kernel_rfl
theorem y1f1 : T0 y13h [.t 4] y3y := sq y1wi y1ps
def ycb (c b d e a : AV) (h : Heap) : OX :=
 W E 0 yie ⟨[(2, c), (3, b), (5, d), (26, e), (27, a)], h⟩ y3y (y6 0 y3y xN) (finP [.t 4])
def y88 := KK5 ycb 2 3 5 26 27
theorem ymp : T1 yie y3y (y6 0 y3y xN) [.t 4] y88 := fun s => yu.trans (by kernel_rfl)
def ypo (c b d e a : AV) (h : Heap) : OX :=
ob (yb .add a (.int .i64 1)) fun g =>
(ycb c b d e g h)
def yag := KK5 ypo 2 3 5 26 27
theorem y1ex : T1 y12b y88 (y6 0 y3y xN) [.t 4] yag := fun _ => by kernel_rfl
def yhh (d u e i g C l : AV) (h : Heap) : OX :=
ob (yb .lss g (.int .i64 0)) fun c =>
gb c false (some g) fun o =>
gb c false (evFa 0 d) fun t =>
gb c false (evLd false 1 t h) fun m =>
gb c false (y17 1 m h) fun j =>
gb c false (yb .geq o j) fun H =>
ob (yh c (.bool true) H) fun b =>
gb b false (some i) fun I =>
gb b false (ynp 4 1 e I) fun k =>
gb b false (evLd false 1 k h) fun D =>
gb b false (yb .gtr D (.int .i64 0)) fun F =>
gb b false (some F) fun a =>
gb a true (evFa 0 d) fun n =>
gb a true (evLd false 1 n h) fun r =>
gb a true (some g) fun z =>
gb a true (y10 1 r z) fun y =>
gb a true (evLd false 1 y h) fun v =>
gb a true (some i) fun p =>
gb a true (ynp 4 1 e p) fun x =>
gb a true (evLd false 1 x h) fun A =>
gb a true (yb .neq v A) fun B =>
gb b false (yh a B (.bool false)) fun w =>
ob (yh b (.bool true) w) fun G =>
cnd G
 ((yo h (.bool false)))
 ((ypo d u e C l h))
def y29y := KK7 yhh 2 3 5 7 8 26 27
theorem y1do : T1 y13r yag (y6 1 yag (y6 0 y3y xN)) [.t 4] y29y := fun _ => by kernel_rfl
def ye0 (e d a c i g b : AV) (h : Heap) : OX :=
ob (ynp 4 1 a c) fun k =>
ob (evLd false 1 k h) fun j =>
ob (yb .lss j (.int .i64 0)) fun l =>
cnd l
 ((ypo e d a g b h))
 ((yhh e d a c i g b h))
def y2bm := KK7 ye0 2 3 5 7 8 26 27
theorem y1m2 : T1 y11c yag (y6 1 yag (y6 0 y3y xN)) [.t 4] y2bm := sq y1do fun _ => by kernel_rfl
def y1c4 (e d g b a : AV) (h : Heap) : OX :=
ob (yn3 false 4 1 b a) fun c =>
(ye0 e d g a c b a h)
def yth := KK5 y1c4 2 3 5 26 27
theorem y1fz : T1 y141 yag (y6 1 yag (y6 0 y3y xN)) [.t 4] yth := sq y1m2 fun _ => by kernel_rfl
theorem y1tk : T1 yzt yag (y6 0 y3y xN) [.t 4] yth := fun s => y11.trans (y1fz s)
theorem y18q : T1 y150 y88 (y6 0 y3y xN) [.t 4] yth := sq y1ex y1tk
def y14q (b a e g c d : AV) (h : Heap) : OX :=
cnd d
 ((y1c4 b a e g c h))
 ((yqe b a h))
def y2bl := KK6 y14q 2 3 5 26 27 28
theorem y1e8 : T1 yvl y88 (y6 0 y3y xN) [.t 4] y2bl := sq y18q fun _ => by kernel_rfl
def yz3 (d c e g a : AV) (h : Heap) : OX :=
ob (yb .lss a (.int .i64 4)) fun b =>
(y14q d c e g a b h)
def y2c9 := KK5 yz3 2 3 5 26 27
theorem y18c : T1 y13z y88 (y6 0 y3y xN) [.t 4] y2c9 := sq y1e8 fun _ => by kernel_rfl
theorem ylz (c b d e a : AV) (h : Heap) : ycb c b d e a h = (yz3 c b d e a h) :=
 y27.trans ((y1q _ _ _ (n' := y88) (fun s => ymp s)).trans ((y18c _).trans (by kernel_rfl)))
theorem y1fb : T1 y117 y3y xN [.t 4] y88 := fun s => y11.trans (ymp s)
def y1ia (e a k : AV) (h : Heap) : OX :=
ob (evFa 1 a) fun d =>
ob (evLd false 1 d h) fun g =>
ob (evFa 2 a) fun n =>
ob (evLd false 1 n h) fun j =>
ob (evFa 3 a) fun i =>
ob (evLd false 1 i h) fun l =>
ob (evFa 4 a) fun c =>
ob (evLd false 1 c h) fun b =>
ob (yq zq6 [(0, 1, g), (1, 1, j), (2, 1, l), (3, 1, b)]) fun m =>
(ycb e a k m (.int .i64 0) h)
def y1ga := KK3 y1ia 2 3 5
theorem y1h9 : T1 ywk y3y xN [.t 4] y1ga := sq y1fb fun _ => by kernel_rfl
theorem y1e7 : T0 ywt [.t 4] y1ga := sq y1f1 y1h9
def y0j (b a d e : AV) (h : Heap) : OX :=
ob (evUn .not e) fun c =>
cnd c
 ((yo h (.bool false)))
 ((y1ia b a d h))
def y2dr := KK4 y0j 2 3 5 6
theorem y1no : T0 ywz [.t 4] y2dr := sq y1e7 fun _ => by kernel_rfl
def ywj (d a : AV) (h : Heap) : OX :=
ob (evLd true 9 a h) fun e =>
oh (yc E (yd E) 0 none true 47 [e] h) fun b h3 =>
ob (y2a 0 b) fun i =>
ob (y2a 1 b) fun g =>
oh (newC 0 (some 2) zq6 h3) fun c h4 =>
oh (evSt 4 c i h4) fun _ h5 =>
(y0j d a c g h5)
def y28w := KK2 ywj 2 3
theorem y1l4 : T0 yxj [.t 4] y28w := sq y1no fun _ => by kernel_rfl
def yp8 (c d : AV) (h : Heap) : OX :=
oh (newC 0 (some 0) (cellsOf c) h) fun b h6 =>
oh (newC 0 (some 1) (cellsOf d) h6) fun a h7 =>
(ywj b a h7)
def y2dh := KK2 yp8 0 1
theorem y1nn : T0 y14c [.t 4] y2dh := sq y1l4 fun _ => by kernel_rfl
@[simp] theorem y2rx : E.pure 63 = true := rfl
theorem y2t7 (a b : AV) : (yd E).p 63 [a, b] = yp8 a b [⟨0, .dead⟩, ⟨0, .dead⟩, ⟨0, .dead⟩] :=
 (y1r (cf := y2kz) (by kernel_rfl) rfl).trans ((y1nn _).trans (by kernel_rfl))
def y2h3 (o : AV) (h : Heap) : OX :=
oh (newC 0 (some 0) (cellsOf o) h) fun c h1 =>
ob (evFa 0 c) fun i =>
ob (evLd false 1 i h1) fun m =>
ob (yb .eql m (.int .i64 27)) fun a =>
gb a false (evFa 0 c) fun e =>
gb a false (evLd false 1 e h1) fun d =>
gb a false (yb .eql d (.int .i64 28)) fun g =>
ob (yh a (.bool true) g) fun b =>
gb b false (evFa 0 c) fun k =>
gb b false (evLd false 1 k h1) fun j =>
gb b false (yb .eql j (.int .i64 29)) fun n =>
ob (yh b (.bool true) n) fun l =>
(yo h1 l)
def y2ny := KK1 y2h3 0
theorem y1vx : T0 y1gh [.t 2] y2ny := fun _ => by kernel_rfl
@[simp] theorem y2t6 : E.pure 22 = true := rfl
theorem y2tr (a : AV) : (yd E).p 22 [a] = y2h3 a [⟨0, .dead⟩] :=
 (y1r (cf := y2kn) (by kernel_rfl) rfl).trans ((y1vx _).trans (by kernel_rfl))
def yfh (fb : Nat) (c d b a : AV) (h : Heap) : Option (AV × Heap) :=
 W E fb yob ⟨[(0, c), (1, d), (2, b), (3, a)], h⟩ (finI []) (y6 0 (finI []) xN) (finI [])
def yig (fb : Nat) := KK4 (yfh fb) 0 1 2 3
theorem ys4 (fb : Nat) (s : St) : W E fb yob s (finI []) (y6 0 (finI []) xN) (finI []) = yig fb s := yu.trans (by kernel_rfl)
def y1vp (fb : Nat) (a c d e : AV) (h : Heap) : Option (AV × Heap) :=
ob (evLd false 1 a h) fun y =>
ob (y10 1 y (.int .i64 0)) fun m =>
ob (evLd false 1 m h) fun g =>
ob (evLd false 1 a h) fun v =>
ob (y79 1 v (some (.int .i64 1)) none) fun t =>
oh (evSt 1 a t h) fun _ h1 =>
ob (evLd false 1 c h1) fun l =>
ob (y30 false [0] (.int .i64 0) false l g h1) fun b =>
ob (evLd false 1 d h1) fun p =>
ob (yq [(.int .i64 0), (.int .i64 0)] [(0, 1, g), (1, 1, b)]) fun x =>
oh (yl fb (some 0) 2 1 [(.int .i64 0), (.int .i64 0)] [(0, x)] h1) fun F h2 =>
oh (y1v fb (some 1) 2 16 p F h2) fun n h3 =>
oh (evSt 1 d n h3) fun _ h4 =>
ob (evLd false 1 c h4) fun w =>
oh (y7f false [0] w g h4) fun _ h5 =>
ob (evLd false 1 e h5) fun i =>
ob (y30 false [0] (.int .i64 0) false i b h5) fun A =>
ob (yb .sub A (.int .i64 1)) fun k =>
oh (y3w false [0] i b k h5) fun _ h6 =>
ob (evLd false 1 e h6) fun u =>
ob (y30 false [0] (.int .i64 0) false u b h6) fun o =>
ob (yb .eql o (.int .i64 0)) fun C =>
cnd C
 (ob (evLd false 1 c h6) fun z =>
ob (y30 false [0] (.int .i64 0) true z b h6) fun j =>
ob (y2a 0 j) fun H =>
ob (y2a 1 j) fun r =>
cnd r
 (ob (evLd false 1 a h6) fun B =>
oh (yl fb (some 2) 1 1 [(.int .i64 0)] [(0, b)] h6) fun G h7 =>
oh (y1v fb (some 3) 1 8 B G h7) fun D h8 =>
oh (evSt 1 a D h8) fun _ h9 =>
(yfh fb a c d e h9))
 ((yfh fb a c d e h6)))
 ((yfh fb a c d e h6))
def y26b (fb : Nat) := KK4 (y1vp fb) 0 1 2 3
theorem y1uh (fb : Nat) (s : St) : W E fb y1el s (yig fb) (y6 0 (finI []) xN) (finI []) = y26b fb s :=
 by kernel_rfl
def y2ed (fb : Nat) (a c g e : AV) (h : Heap) : Option (AV × Heap) :=
ob (evLd false 1 a h) fun b =>
ob (y17 1 b h) fun d =>
ob (yb .gtr d (.int .i64 0)) fun i =>
cnd i
 ((y1vp fb a c g e h))
 ((some ((.tup []), h)))
def y2i2 (fb : Nat) := KK4 (y2ed fb) 0 1 2 3
theorem y1xm (fb : Nat) (s : St) : W E fb y18z s (yig fb) (y6 0 (finI []) xN) (finI []) = y2i2 fb s :=
 (y32 (k := (y26b fb)) (fun s => y1uh fb s)).trans (by kernel_rfl)
theorem y1gd (fb : Nat) (c d b a : AV) (h : Heap) : yfh fb c d b a h = (y2ed fb c d b a h) :=
 y27.trans ((y1q _ _ _ (n' := (yig fb)) (fun s => ys4 fb s)).trans ((y1xm fb _).trans (by kernel_rfl)))
theorem y1up (fb : Nat) (s : St) : W E fb y1qd s (finI []) xN (finI []) = yig fb s :=
 y11.trans (ys4 fb s)
@[simp] theorem y2qq : E.pure 247 = false := rfl
theorem y2rc (fb : Nat) (c d b a : AV) (h : Heap) : (yd E).i 247 [c, d, b, a] fb h = yfh fb c d b a (if fb = h.length then h ++ yj 4 else h) :=
 (y63 (cf := y2m5) (by kernel_rfl) rfl).trans ((y1up fb _).trans (by kernel_rfl))
def y2a3 (fb : Nat) (a c : AV) (h : Heap) : Option (AV × Heap) :=
ob (yp a) fun m =>
ob (evFa 0 m) fun d =>
ob (evFa 0 d) fun b =>
ob (evLd false 1 b h) fun e =>
oh (yl fb (some 0) 1 1 [(.int .u32 0)] [(0, c)] h) fun i h1 =>
oh (y1v fb (some 1) 1 4 e i h1) fun j h2 =>
ob (yp a) fun g =>
ob (evFa 0 g) fun l =>
ob (evFa 0 l) fun k =>
oh (evSt 1 k j h2) fun _ h3 =>
(some ((.tup []), h3))
def y2lv (fb : Nat) := KK2 (y2a3 fb) 0 1
theorem y22e (fb : Nat) (s : St) : W E fb y1bu s (finI []) xN (finI []) = y2lv fb s :=
 by kernel_rfl
@[simp] theorem y2qg : E.pure 242 = false := rfl
theorem y2s6 (fb : Nat) (a b : AV) (h : Heap) : (yd E).i 242 [a, b] fb h = y2a3 fb a b (if fb = h.length then h ++ yj 2 else h) :=
 (y63 (cf := y2hy) (by kernel_rfl) rfl).trans ((y22e fb _).trans (by kernel_rfl))
def y1v8 (a : AV) (h : Heap) : OX :=
ob (y85 .u32 a) fun b =>
(yo h b)
def y2p4 := KK1 y1v8 0
theorem y21u : T0 y1b7 [.t 2] y2p4 := fun _ => by kernel_rfl
def y21c (a : AV) (h : Heap) : OX :=
ob (yb .lss a (.int .i64 0)) fun b =>
cnd b
 ((yo h (.int .u32 255)))
 ((y1v8 a h))
def y2kk := KK1 y21c 0
theorem y21s : T0 y1im [.t 2] y2kk := sq y21u fun _ => by kernel_rfl
def y1wm (a : AV) (h : Heap) : OX :=
(y21c a h)
def y2ly := KK1 y1wm 0
theorem y22c : T0 y1jr [.t 2] y2ly := sq y21s fun _ => by kernel_rfl
@[simp] theorem y2q6 : E.pure 240 = true := rfl
theorem y2ru (a : AV) : (yd E).p 240 [a] = y1wm a [] :=
 (y1r (cf := y2j4) (by kernel_rfl) rfl).trans ((y22c _).trans (by kernel_rfl))
def y2bt (c : AV) (h : Heap) : OX :=
oh (newC 0 (some 0) (cellsOf c) h) fun d h1 =>
ob (evLd true 9 d h1) fun b =>
oh (yc E (yd E) 0 none true 9 [b] h1) fun a h2 =>
(yo h2 a)
def y2k8 := KK1 y2bt 0
theorem y24c : T0 y1pw [.t 2] y2k8 := fun _ => by kernel_rfl
@[simp] theorem y2q7 : E.pure 239 = true := rfl
theorem y2sc (a : AV) : (yd E).p 239 [a] = y2bt a [⟨0, .dead⟩] :=
 (y1r (cf := y2jn) (by kernel_rfl) rfl).trans ((y24c _).trans (by kernel_rfl))
def y1u1 (h : Heap) : OX :=
(yo h (.int .i64 (-1)))
def y2km := KK0 y1u1
theorem y1xh : T0 y18t [.t 4] y2km := fun _ => by kernel_rfl
def y1qh (b d : AV) (h : Heap) : OX :=
ob (evLd true 9 d h) fun p =>
oh (yc E (yd E) 0 none true 10 [p] h) fun c h1 =>
ob (evLd true 9 d h1) fun e =>
oh (yc E (yd E) 0 none true 17 [e] h1) fun g h2 =>
ob (evUn .not g) fun a =>
gb a true (some b) fun l =>
gb a true (some c) fun j =>
gb a true (y17 1 j h2) fun n =>
gb a true (yb .lss l n) fun m =>
ob (yh a m (.bool false)) fun i =>
cnd i
 (ob (y10 1 c b) fun k =>
ob (evLd false 1 k h2) fun o =>
(yo h2 o))
 ((y1u1 h2))
def y2kh := KK2 y1qh 1 2
theorem y224 : T0 y1hw [.t 4] y2kh := sq y1xh fun _ => by kernel_rfl
def y170 (b c : AV) (h : Heap) : OX :=
oh (newC 0 (some 0) (cellsOf b) h) fun a h3 =>
(y1qh c a h3)
def y2nu := KK2 y170 0 1
theorem y20r : T0 y1t7 [.t 4] y2nu := sq y224 fun _ => by kernel_rfl
@[simp] theorem y2qc : E.pure 241 = true := rfl
theorem y2u4 (a b : AV) : (yd E).p 241 [a, b] = y170 a b [⟨0, .dead⟩] :=
 (y1r (cf := y2ig) (by kernel_rfl) rfl).trans ((y20r _).trans (by kernel_rfl))
def q9_1 (fb : Nat) (a : AV) (h : Heap) : Option (AV × Heap) :=
ob (y85 .u32 a) fun b =>
(some (b, h))
def y2oa (fb : Nat) := KK1 (q9_1 fb) 5
theorem y29j (fb : Nat) (s : St) : W E fb y24t s (finI [.t 4]) xN (finI [.t 4]) = y2oa fb s :=
 by kernel_rfl
def q9_2 (fb : Nat) (a b u w : AV) (h : Heap) : Option (AV × Heap) :=
ob (evUn .not w) fun y =>
cnd y
 (ob (yp a) fun j =>
ob (evFa 0 j) fun e =>
ob (evFa 3 e) fun t =>
ob (evLd false 1 t h) fun r =>
ob (y17 1 r h) fun c =>
ob (yp a) fun m =>
ob (evFa 8 m) fun v =>
ob (evLd false 1 v h) fun g =>
oh (y3w false [0] g b c h) fun _ h1 =>
ob (yp a) fun x =>
ob (evFa 0 x) fun i =>
ob (evFa 3 i) fun z =>
ob (evLd false 1 z h1) fun n =>
oh (yl fb (some 0) 1 1 [(.int .i64 0)] [(0, b)] h1) fun p h2 =>
oh (y1v fb (some 1) 1 8 n p h2) fun l h3 =>
ob (yp a) fun o =>
ob (evFa 0 o) fun k =>
ob (evFa 3 k) fun d =>
oh (evSt 1 d l h3) fun _ h4 =>
(q9_1 fb c h4))
 ((q9_1 fb u h))
def y2ks (fb : Nat) := KK4 (q9_2 fb) 0 1 5 6
theorem y28s (fb : Nat) (s : St) : W E fb y24r s (finI [.t 4]) xN (finI [.t 4]) = y2ks fb s :=
 (y32 (k := (y2oa fb)) (fun s => y29j fb s)).trans (by kernel_rfl)
def q9_3 (fb : Nat) (c a : AV) (h : Heap) : Option (AV × Heap) :=
ob (yp c) fun d =>
ob (evFa 8 d) fun g =>
ob (evLd false 1 g h) fun e =>
ob (y30 false [0] (.int .i64 0) true e a h) fun b =>
ob (y2a 0 b) fun j =>
ob (y2a 1 b) fun i =>
(q9_2 fb c a j i h)
def y2ij (fb : Nat) := KK2 (q9_3 fb) 0 1
theorem y2by (fb : Nat) (s : St) : W E fb y253 s (finI [.t 4]) xN (finI [.t 4]) = y2ij fb s :=
 (y32 (k := (y2ks fb)) (fun s => y28s fb s)).trans (by kernel_rfl)
def q9_4 (fb : Nat) (a b : AV) (h : Heap) : Option (AV × Heap) :=
(q9_3 fb a b h)
def y2rh (fb : Nat) := KK2 (q9_4 fb) 0 1
theorem y2er (fb : Nat) (s : St) : W E fb y273 s (finI [.t 4]) xN (finI [.t 4]) = y2rh fb s :=
 (y32 (k := (y2ij fb)) (fun s => y2by fb s)).trans (by kernel_rfl)
@[simp] theorem y2py : E.pure 243 = false := rfl
theorem x_q9 (fb : Nat) (a b : AV) (h : Heap) : (yd E).i 243 [a, b] fb h = q9_4 fb a b (if fb = h.length then h ++ yj 2 else h) :=
 (y63 (cf := c_q9) (by kernel_rfl) rfl).trans ((y2er fb _).trans (by kernel_rfl))
def y1mp (fb : Nat) (a : AV) (h : Heap) : Option (AV × Heap) :=
ob (y85 .u32 a) fun b =>
(some (b, h))
def y271 (fb : Nat) := KK1 (y1mp fb) 5
theorem y1y0 (fb : Nat) (s : St) : W E fb y1ec s (finI [.t 4]) xN (finI [.t 4]) = y271 fb s :=
 by kernel_rfl
def y1y9 (fb : Nat) (a b u w : AV) (h : Heap) : Option (AV × Heap) :=
ob (evUn .not w) fun y =>
cnd y
 (ob (yp a) fun j =>
ob (evFa 0 j) fun e =>
ob (evFa 4 e) fun t =>
ob (evLd false 1 t h) fun r =>
ob (y17 1 r h) fun c =>
ob (yp a) fun m =>
ob (evFa 9 m) fun v =>
ob (evLd false 1 v h) fun g =>
oh (y3w false [2] g b c h) fun _ h1 =>
ob (yp a) fun x =>
ob (evFa 0 x) fun i =>
ob (evFa 4 i) fun z =>
ob (evLd false 1 z h1) fun n =>
oh (yl fb (some 0) 1 1 [(.str [])] [(0, b)] h1) fun p h2 =>
oh (y1v fb (some 1) 1 16 n p h2) fun l h3 =>
ob (yp a) fun o =>
ob (evFa 0 o) fun k =>
ob (evFa 4 k) fun d =>
oh (evSt 1 d l h3) fun _ h4 =>
(y1mp fb c h4))
 ((y1mp fb u h))
def y26e (fb : Nat) := KK4 (y1y9 fb) 0 1 5 6
theorem y1vf (fb : Nat) (s : St) : W E fb y1kr s (finI [.t 4]) xN (finI [.t 4]) = y26e fb s :=
 (y32 (k := (y271 fb)) (fun s => y1y0 fb s)).trans (by kernel_rfl)
def y1xe (fb : Nat) (c a : AV) (h : Heap) : Option (AV × Heap) :=
ob (yp c) fun d =>
ob (evFa 9 d) fun g =>
ob (evLd false 1 g h) fun e =>
ob (y30 false [2] (.int .i64 0) true e a h) fun b =>
ob (y2a 0 b) fun j =>
ob (y2a 1 b) fun i =>
(y1y9 fb c a j i h)
def y262 (fb : Nat) := KK2 (y1xe fb) 0 1
theorem y1vq (fb : Nat) (s : St) : W E fb y1iq s (finI [.t 4]) xN (finI [.t 4]) = y262 fb s :=
 (y32 (k := (y26e fb)) (fun s => y1vf fb s)).trans (by kernel_rfl)
def y208 (fb : Nat) (a b : AV) (h : Heap) : Option (AV × Heap) :=
(y1xe fb a b h)
def y2mz (fb : Nat) := KK2 (y208 fb) 0 1
theorem y1yj (fb : Nat) (s : St) : W E fb y1e2 s (finI [.t 4]) xN (finI [.t 4]) = y2mz fb s :=
 (y32 (k := (y262 fb)) (fun s => y1vq fb s)).trans (by kernel_rfl)
@[simp] theorem y2pv : E.pure 244 = false := rfl
theorem y2r2 (fb : Nat) (a b : AV) (h : Heap) : (yd E).i 244 [a, b] fb h = y208 fb a b (if fb = h.length then h ++ yj 2 else h) :=
 (y63 (cf := y2jw) (by kernel_rfl) rfl).trans ((y1yj fb _).trans (by kernel_rfl))
def y2am (fb : Nat) (a j : AV) (h : Heap) : Option (AV × Heap) :=
ob (yp a) fun r =>
ob (evFa 10 r) fun c =>
ob (evLd false 1 c h) fun b =>
ob (yp a) fun n =>
ob (evFa 0 n) fun l =>
ob (evFa 0 l) fun g =>
ob (evLd false 1 g h) fun e =>
ob (y17 1 e h) fun p =>
oh (yl fb (some 0) 1 1 [(.int .i64 0)] [(0, p)] h) fun i h1 =>
oh (y1v fb (some 1) 1 8 b i h1) fun k h2 =>
ob (yp a) fun o =>
ob (evFa 10 o) fun d =>
oh (evSt 1 d k h2) fun _ h3 =>
okK (y1o [([], []), ([], []), ([], []), ([], []), (ids1 c, []), ([], []), ([], []), ([], []), ([], []), (ids1 g, []), (ids1 e, []), ([], [fb + 0]), (ids1 i, ids1 b ++ [fb + 1]), ([], []), ([], []), ([], ids1 d)] [(4, 11)]) <|
ob (y85 .u32 j) fun m =>
oh (yc E (yd E) fb none false 242 [a, m] h3) fun t h4 =>
(some ((.tup []), h4))
def y2pe (fb : Nat) := KK2 (y2am fb) 0 1
theorem y1wy (fb : Nat) (s : St) : W E fb y1hm s (finI []) xN (finI []) = y2pe fb s :=
 by kernel_rfl
@[simp] theorem y2qe : E.pure 245 = false := rfl
theorem y2t2 (fb : Nat) (a b : AV) (h : Heap) : (yd E).i 245 [a, b] fb h = y2am fb a b (if fb = h.length then h ++ yj 2 else h) :=
 (y63 (cf := y2ld) (by kernel_rfl) rfl).trans ((y1wy fb _).trans (by kernel_rfl))
def y1m8 (fb : Nat) (b c a d : AV) (h : Heap) : Option (AV × Heap) :=
 W E fb yt7 ⟨[(0, b), (13, c), (14, a), (15, d)], h⟩ (finI []) (y6 0 (finI []) xN) (finI [])
def yfy (fb : Nat) := KK4 (y1m8 fb) 0 13 14 15
theorem yxv (fb : Nat) (s : St) : W E fb yt7 s (finI []) (y6 0 (finI []) xN) (finI []) = yfy fb s := yu.trans (by kernel_rfl)
def q8_2 (fb : Nat) (e b a c : AV) (h : Heap) : Option (AV × Heap) :=
ob (yb .add c (.int .i64 1)) fun d =>
(y1m8 fb e b a d h)
def y2o3 (fb : Nat) := KK4 (q8_2 fb) 0 13 14 15
theorem y2fv (fb : Nat) (s : St) : W E fb y25y s (yfy fb) (y6 0 (finI []) xN) (finI []) = y2o3 fb s :=
 by kernel_rfl
def q8_3 (fb : Nat) (c a i b : AV) (h : Heap) : Option (AV × Heap) :=
ob (y10 1 a b) fun g =>
ob (evLd false 1 g h) fun d =>
oh (yc E (yd E) fb none true 240 [d] h) fun e h1 =>
oh (yc E (yd E) fb none false 242 [c, e] h1) fun j h2 =>
(q8_2 fb c a i b h2)
def y2m4 (fb : Nat) := KK4 (q8_3 fb) 0 13 14 15
theorem y2bn (fb : Nat) (s : St) : W E fb y266 s (yfy fb) (y6 0 (finI []) xN) (finI []) = y2m4 fb s :=
 (y32 (k := (y2o3 fb)) (fun s => y2fv fb s)).trans (by kernel_rfl)
def q8_4 (fb : Nat) (e b d c a : AV) (h : Heap) : Option (AV × Heap) :=
cnd a
 ((q8_3 fb e b d c h))
 ((some ((.tup []), h)))
def y2md (fb : Nat) := KK5 (q8_4 fb) 0 13 14 15 16
theorem y2ab (fb : Nat) (s : St) : W E fb y26r s (yfy fb) (y6 0 (finI []) xN) (finI []) = y2md fb s :=
 (y32 (k := (y2m4 fb)) (fun s => y2bn fb s)).trans (by kernel_rfl)
def q8_5 (fb : Nat) (e d b a : AV) (h : Heap) : Option (AV × Heap) :=
ob (yb .lss a b) fun c =>
(q8_4 fb e d b a c h)
def y2tc (fb : Nat) := KK4 (q8_5 fb) 0 13 14 15
theorem y2ej (fb : Nat) (s : St) : W E fb y24o s (yfy fb) (y6 0 (finI []) xN) (finI []) = y2tc fb s :=
 (y32 (k := (y2md fb)) (fun s => y2ab fb s)).trans (by kernel_rfl)
theorem y12a (fb : Nat) (b c a d : AV) (h : Heap) : y1m8 fb b c a d h = (q8_5 fb b c a d h) :=
 y27.trans ((y1q _ _ _ (n' := (yfy fb)) (fun s => yxv fb s)).trans ((y2ej fb _).trans (by kernel_rfl)))
theorem y28i (fb : Nat) (s : St) : W E fb y27o s (finI []) xN (finI []) = yfy fb s :=
 y11.trans (yxv fb s)
def q8_7 (fb : Nat) (e b : AV) (h : Heap) : Option (AV × Heap) :=
ob (evFa 8 b) fun c =>
ob (evLd false 1 c h) fun a =>
ob (y17 1 a h) fun d =>
(y1m8 fb e a d (.int .i64 0) h)
def y2kd (fb : Nat) := KK2 (q8_7 fb) 0 3
theorem y2e5 (fb : Nat) (s : St) : W E fb y252 s (finI []) xN (finI []) = y2kd fb s :=
 (y32 (k := (yfy fb)) (fun s => y28i fb s)).trans (by kernel_rfl)
def q8_8 (fb : Nat) (b a : AV) (h : Heap) : Option (AV × Heap) :=
ob (evFa 8 a) fun d =>
ob (evLd false 1 d h) fun c =>
ob (y17 1 c h) fun e =>
ob (y85 .u32 e) fun g =>
oh (yc E (yd E) fb none false 242 [b, g] h) fun i h3 =>
(q8_7 fb b a h3)
def y2ic (fb : Nat) := KK2 (q8_8 fb) 0 3
theorem y2br (fb : Nat) (s : St) : W E fb y27n s (finI []) xN (finI []) = y2ic fb s :=
 (y32 (k := (y2kd fb)) (fun s => y2e5 fb s)).trans (by kernel_rfl)
def q8_9 (fb : Nat) (b c : AV) (h : Heap) : Option (AV × Heap) :=
oh (newC fb (some 0) (cellsOf c) h) fun a h4 =>
(q8_8 fb b a h4)
def y2ud (fb : Nat) := KK2 (q8_9 fb) 0 1
theorem y2g8 (fb : Nat) (s : St) : W E fb y27e s (finI []) xN (finI []) = y2ud fb s :=
 (y32 (k := (y2ic fb)) (fun s => y2br fb s)).trans (by kernel_rfl)
@[simp] theorem y2px : E.pure 246 = false := rfl
theorem x_q8 (fb : Nat) (a b : AV) (h : Heap) : (yd E).i 246 [a, b] fb h = q8_9 fb a b (if fb = h.length then h ++ yj 1 else h) :=
 (y63 (cf := c_q8) (by kernel_rfl) rfl).trans ((y2g8 fb _).trans (by kernel_rfl))
def yk5 (a : AV) (h : Heap) : OX :=
(yo h a)
def y2mh := KK1 yk5 6
theorem y1wt : T0 y1cu [.t 4] y2mh := fun _ => by kernel_rfl
def yk1 (b c : AV) (h : Heap) : OX :=
ob (evLd true 9 b h) fun d =>
oh (yc E (yd E) 0 none true 22 [d] h) fun a h1 =>
gb a true (some c) fun m =>
gb a true (evFa 6 b) fun j =>
gb a true (evLd false 1 j h1) fun o =>
gh a true (yc E (yd E) 0 none true 46 [m, o] h1) h1 fun p h2 =>
gb a true (evUn .not p) fun l =>
ob (yh a l (.bool false)) fun g =>
cnd g
 (ob (evFa 6 b) fun e =>
ob (evLd false 1 e h2) fun n =>
oh (yl 0 (some 4) 1 1 [(.int .i64 0)] [(0, n)] h2) fun i h3 =>
oh (y1v 0 (some 5) 1 8 c i h3) fun k h4 =>
(yk5 k h4))
 ((yk5 c h2))
def y2lt := KK2 yk1 5 6
theorem y1u8 : T0 y19n [.t 4] y2lt := sq y1wt fun _ => by kernel_rfl
def yk4 (c a b : AV) (h : Heap) : OX :=
ob (evLd true 9 a h) fun i =>
oh (yc E (yd E) 0 none true 24 [i] h) fun g h5 =>
ob (evUn .not g) fun j =>
cnd j
 (ob (yb .add c (.int .i64 1)) fun k =>
oh (yl 0 (some 2) 1 1 [(.int .i64 0)] [(0, k)] h5) fun d h6 =>
oh (y1v 0 (some 3) 1 8 b d h6) fun e h7 =>
(yk1 a e h7))
 ((yk1 a b h5))
def y2jm := KK3 yk4 1 5 6
theorem y1uj : T0 y1am [.t 4] y2jm := sq y1u8 fun _ => by kernel_rfl
def y1of (b a : AV) (h : Heap) : OX :=
(yk4 b a AV.nils h)
def y2oh := KK2 y1of 1 5
theorem y1ur : T0 y18o [.t 4] y2oh := sq y1uj fun _ => by kernel_rfl
def y1ri (a d : AV) (h : Heap) : OX :=
ob (evFa 3 d) fun c =>
ob (evLd false 1 c h) fun g =>
ob (y10 9 g a) fun e =>
ob (evLd true 9 e h) fun i =>
oh (newC 0 (some 1) zq0 h) fun b h8 =>
oh (evSt 9 b i h8) fun _ h9 =>
(y1of a b h9)
def y2p5 := KK2 y1ri 1 2
theorem y22h : T0 y1co [.t 4] y2p5 := sq y1ur fun _ => by kernel_rfl
def y1ew (b c : AV) (h : Heap) : OX :=
ob (yb .lss b (.int .i64 0)) fun a =>
gb a false (some b) fun i =>
gb a false (evFa 3 c) fun e =>
gb a false (evLd false 1 e h) fun g =>
gb a false (y17 1 g h) fun d =>
gb a false (yb .geq i d) fun k =>
ob (yh a (.bool true) k) fun j =>
cnd j
 ((yo h AV.nils))
 ((y1ri b c h))
def y2jo := KK2 y1ew 1 2
theorem y21g : T0 y1hd [.t 4] y2jo := sq y22h fun _ => by kernel_rfl
def y17c (b c : AV) (h : Heap) : OX :=
oh (newC 0 (some 0) (cellsOf b) h) fun a h10 =>
(y1ew c a h10)
def y2o4 := KK2 y17c 0 1
theorem y20a : T0 y1ix [.t 4] y2o4 := sq y21g fun _ => by kernel_rfl
@[simp] theorem y2rm : E.pure 81 = true := rfl
theorem y2s8 (a b : AV) : (yd E).p 81 [a, b] = y17c a b [⟨0, .dead⟩, ⟨0, .dead⟩, ⟨0, .dead⟩, ⟨0, .dead⟩, ⟨0, .dead⟩, ⟨0, .dead⟩] :=
 (y1r (cf := y2kc) (by kernel_rfl) rfl).trans ((y20a _).trans (by kernel_rfl))
def y2bf (fb : Nat) (a : AV) (h : Heap) : Option (AV × Heap) :=
(some (a, h))
def y8p (fb : Nat) := KK1 (y2bf fb) 5
theorem y23m (fb : Nat) (s : St) : W E fb y1bc s (finI [.t 4]) xN (finI [.t 4]) = y8p fb s :=
 by kernel_rfl
def yqc (fb : Nat) (e d a b c : AV) (h : Heap) : Option (AV × Heap) :=
 W E fb ynx ⟨[(0, e), (5, d), (8, a), (9, b), (10, c)], h⟩ (y8p fb) (y6 0 (y8p fb) xN) (finI [.t 4])
def yaf (fb : Nat) := KK5 (yqc fb) 0 5 8 9 10
theorem yrt (fb : Nat) (s : St) : W E fb ynx s (y8p fb) (y6 0 (y8p fb) xN) (finI [.t 4]) = yaf fb s := yu.trans (by kernel_rfl)
def y20k (fb : Nat) (g e a b d : AV) (h : Heap) : Option (AV × Heap) :=
ob (yb .add d (.int .i64 1)) fun c =>
(yqc fb g e a b c h)
def y257 (fb : Nat) := KK5 (y20k fb) 0 5 8 9 10
theorem y228 (fb : Nat) (s : St) : W E fb y19k s (yaf fb) (y6 0 (y8p fb) xN) (finI [.t 4]) = y257 fb s :=
 by kernel_rfl
def y1tv (fb : Nat) (c a e m b : AV) (h : Heap) : Option (AV × Heap) :=
ob (y10 1 e b) fun o =>
ob (evLd false 1 o h) fun d =>
gb a false (some d) fun v =>
gb a false (some c) fun l =>
gb a false (some b) fun p =>
gb a false (y10 1 l p) fun j =>
gb a false (evLd false 1 j h) fun u =>
gb a false (yb .andNot v u) fun t =>
gb a false (yb .neq t (.int .u64 0)) fun w =>
ob (yh a (.bool true) w) fun k =>
ob (y10 1 c b) fun n =>
ob (evLd false 1 n h) fun i =>
ob (yb .or i d) fun g =>
ob (y10 1 c b) fun r =>
oh (evSt 1 r g h) fun _ h1 =>
(y20k fb c k e m b h1)
def y259 (fb : Nat) := KK5 (y1tv fb) 0 5 8 9 10
theorem y20y (fb : Nat) (s : St) : W E fb y1iv s (yaf fb) (y6 0 (y8p fb) xN) (finI [.t 4]) = y259 fb s :=
 (y32 (k := (y257 fb)) (fun s => y228 fb s)).trans (by kernel_rfl)
def y1mw (fb : Nat) (g a b c e d : AV) (h : Heap) : Option (AV × Heap) :=
cnd d
 ((y1tv fb g a b c e h))
 ((y2bf fb a h))
def y27i (fb : Nat) := KK6 (y1mw fb) 0 5 8 9 10 11
theorem y1u2 (fb : Nat) (s : St) : W E fb y1ap s (yaf fb) (y6 0 (y8p fb) xN) (finI [.t 4]) = y27i fb s :=
 (y32 (k := (y259 fb)) (fun s => y20y fb s)).trans (by kernel_rfl)
def y194 (fb : Nat) (g e c a b : AV) (h : Heap) : Option (AV × Heap) :=
ob (yb .lss b a) fun d =>
(y1mw fb g e c a b d h)
def y2mc (fb : Nat) := KK5 (y194 fb) 0 5 8 9 10
theorem y1wd (fb : Nat) (s : St) : W E fb y1eo s (yaf fb) (y6 0 (y8p fb) xN) (finI [.t 4]) = y2mc fb s :=
 (y32 (k := (y27i fb)) (fun s => y1u2 fb s)).trans (by kernel_rfl)
theorem yqo (fb : Nat) (e d a b c : AV) (h : Heap) : yqc fb e d a b c h = (y194 fb e d a b c h) :=
 y27.trans ((y1q _ _ _ (n' := (yaf fb)) (fun s => yrt fb s)).trans ((y1wd fb _).trans (by kernel_rfl)))
theorem y1ya (fb : Nat) (s : St) : W E fb y1ad s (y8p fb) xN (finI [.t 4]) = yaf fb s :=
 y11.trans (yrt fb s)
def y28r (fb : Nat) (d a b : AV) (h : Heap) : Option (AV × Heap) :=
ob (y17 1 a h) fun c =>
(yqc fb d b a c (.int .i64 0) h)
def y1ly (fb : Nat) := KK3 (y28r fb) 0 1 5
theorem y23b (fb : Nat) (s : St) : W E fb y1gx s (y8p fb) xN (finI [.t 4]) = y1ly fb s :=
 (y32 (k := (yaf fb)) (fun s => y1ya fb s)).trans (by kernel_rfl)
theorem y22d (fb : Nat) (s : St) : W E fb y19f s (finI [.t 4]) xN (finI [.t 4]) = y1ly fb s :=
 (y32 (k := (y8p fb)) (fun s => y23m fb s)).trans (y23b fb s)
def y1cn (fb : Nat) (a b : AV) (h : Heap) : Option (AV × Heap) :=
(y28r fb a b (.bool false) h)
def y1ka (fb : Nat) := KK2 (y1cn fb) 0 1
theorem y1i8 (fb : Nat) (s : St) : W E fb yz1 s (finI [.t 4]) xN (finI [.t 4]) = y1ka fb s :=
 (y32 (k := (y1ly fb)) (fun s => y22d fb s)).trans (by kernel_rfl)
def y1gu (fb : Nat) (a b : AV) (h : Heap) : Option (AV × Heap) :=
(y1cn fb a b h)
def y286 (fb : Nat) := KK2 (y1gu fb) 0 1
theorem y1fp (fb : Nat) (s : St) : W E fb yxc s (finI [.t 4]) xN (finI [.t 4]) = y286 fb s :=
 (y32 (k := (y1ka fb)) (fun s => y1i8 fb s)).trans (by kernel_rfl)
@[simp] theorem y2td : E.pure 84 = false := rfl
theorem y2tw (fb : Nat) (a b : AV) (h : Heap) : (yd E).i 84 [a, b] fb h = y1gu fb a b (if fb = h.length then h ++ yj 0 else h) :=
 (y63 (cf := y2mx) (by kernel_rfl) rfl).trans ((y1fp fb _).trans (by kernel_rfl))
def y1qt (a : AV) (h : Heap) : OX :=
(yo h a)
def y5r := KK1 y1qt 5
theorem y1u4 : T0 y1fc [.t 4] y5r := fun _ => by kernel_rfl
def ys8 (c e b d a : AV) (h : Heap) : OX :=
 W E 0 yot ⟨[(1, c), (5, e), (27, b), (28, d), (29, a)], h⟩ y5r (y6 0 y5r xN) (finP [.t 4])
def yci := KK5 ys8 1 5 27 28 29
theorem yqs : T1 yot y5r (y6 0 y5r xN) [.t 4] yci := fun s => yu.trans (by kernel_rfl)
def y161 (c g b d a : AV) (h : Heap) : OX :=
ob (yb .add a (.int .i64 1)) fun e =>
(ys8 c g b d e h)
def ybh := KK5 y161 1 5 27 28 29
theorem y245 : T1 y1m5 yci (y6 0 y5r xN) [.t 4] ybh := fun _ => by kernel_rfl
def y16z (g a i d e c : AV) (h : Heap) : OX :=
ob (evFa 3 i) fun k =>
ob (evLd false 1 k h) fun j =>
ob (yb .eql j (AV.str [])) fun b =>
cnd b
 ((y1qt a h))
 ((y161 g a d e c h))
def y2pk := KK6 y16z 1 5 7 27 28 29
theorem y1zp : T1 y1by ybh (y6 1 ybh (y6 0 y5r xN)) [.t 4] y2pk := fun _ => by kernel_rfl
def y1x1 (g b a d e c : AV) (h : Heap) : OX :=
ob (evFa 2 a) fun o =>
ob (evLd false 1 o h) fun m =>
oh (yc E (yd E) 0 none true 46 [b, m] h) fun l h1 =>
ob (evUn .not l) fun p =>
cnd p
 (ob (evFa 2 a) fun k =>
ob (evLd false 1 k h1) fun j =>
oh (yl 0 (some 2) 1 1 [(.int .i64 0)] [(0, j)] h1) fun i h2 =>
oh (y1v 0 (some 3) 1 8 b i h2) fun n h3 =>
(y16z g n a d e c h3))
 ((y16z g b a d e c h1))
def y2nb := KK6 y1x1 1 5 7 27 28 29
theorem y23r : T1 y1cb ybh (y6 1 ybh (y6 0 y5r xN)) [.t 4] y2nb := sq y1zp fun _ => by kernel_rfl
def yuv (b i c e g d : AV) (h : Heap) : OX :=
ob (evFa 0 c) fun n =>
ob (evLd false 1 n h) fun p =>
ob (yb .lss b p) fun a =>
gb a false (some b) fun o =>
gb a false (evFa 1 c) fun j =>
gb a false (evLd false 1 j h) fun m =>
gb a false (yb .geq o m) fun k =>
ob (yh a (.bool true) k) fun l =>
cnd l
 ((y161 b i e g d h))
 ((y1x1 b i c e g d h))
def y2n1 := KK6 yuv 1 5 7 27 28 29
theorem y1xw : T1 y1gw ybh (y6 1 ybh (y6 0 y5r xN)) [.t 4] y2n1 := sq y23r fun _ => by kernel_rfl
def y2cm (d j b e a : AV) (h : Heap) : OX :=
ob (y10 4 b a) fun i =>
ob (evLd true 4 i h) fun g =>
oh (newC 0 (some 1) zq3 h) fun c h4 =>
oh (evSt 4 c g h4) fun _ h5 =>
(yuv d j c b e a h5)
def y1e1 := KK5 y2cm 1 5 27 28 29
theorem y1uv : T1 y1d0 ybh (y6 1 ybh (y6 0 y5r xN)) [.t 4] y1e1 := sq y1xw fun _ => by kernel_rfl
theorem y206 : T1 y1ei ybh (y6 0 y5r xN) [.t 4] y1e1 := fun s => y11.trans (y1uv s)
theorem y1v3 : T1 y1aa yci (y6 0 y5r xN) [.t 4] y1e1 := sq y245 y206
def y12v (e a d g c b : AV) (h : Heap) : OX :=
cnd b
 ((y2cm e a d g c h))
 ((y1qt a h))
def y2c5 := KK6 y12v 1 5 27 28 29 30
theorem y1f2 : T1 y0d yci (y6 0 y5r xN) [.t 4] y2c5 := sq y1v3 fun _ => by kernel_rfl
def yqm (e g d b a : AV) (h : Heap) : OX :=
ob (yb .lss a b) fun c =>
(y12v e g d b a c h)
def y2gn := KK5 yqm 1 5 27 28 29
theorem y1av : T1 ywc yci (y6 0 y5r xN) [.t 4] y2gn := sq y1f2 fun _ => by kernel_rfl
theorem yrg (c e b d a : AV) (h : Heap) : ys8 c e b d a h = (yqm c e b d a h) :=
 y27.trans ((y1q _ _ _ (n' := yci) (fun s => yqs s)).trans ((y1av _).trans (by kernel_rfl)))
theorem y1rg : T1 y123 y5r xN [.t 4] yci := fun s => y11.trans (yqs s)
def y1a7 (b d e : AV) (h : Heap) : OX :=
ob (evFa 4 d) fun g =>
ob (evLd false 1 g h) fun a =>
ob (y17 1 a h) fun c =>
(ys8 b e a c (.int .i64 0) h)
def y1ep := KK3 y1a7 1 2 5
theorem y19j : T1 yvc y5r xN [.t 4] y1ep := sq y1rg fun _ => by kernel_rfl
theorem y1ra : T0 y11d [.t 4] y1ep := sq y1u4 y19j
def y1hp (b a : AV) (h : Heap) : OX :=
(y1a7 b a AV.nils h)
def y2al := KK2 y1hp 1 2
theorem y1di : T0 yyc [.t 4] y2al := sq y1ra fun _ => by kernel_rfl
def yls (c d : AV) (h : Heap) : OX :=
ob (yb .lss c (.int .i64 0)) fun b =>
gb b false (some c) fun l =>
gb b false (evFa 3 d) fun n =>
gb b false (evLd false 1 n h) fun k =>
gb b false (y17 1 k h) fun t =>
gb b false (yb .geq l t) fun r =>
ob (yh b (.bool true) r) fun a =>
gb a false (evFa 3 d) fun g =>
gb a false (evLd false 1 g h) fun m =>
gb a false (some c) fun u =>
gb a false (y10 9 m u) fun p =>
gb a false (evLd true 9 p h) fun o =>
gh a false (yc E (yd E) 0 none true 18 [o] h) h fun i h6 =>
gb a false (evUn .not i) fun j =>
ob (yh a (.bool true) j) fun e =>
cnd e
 ((yo h6 AV.nils))
 ((y1hp c d h6))
def y2gx := KK2 yls 1 2
theorem y1t1 : T0 yy3 [.t 4] y2gx := sq y1di fun _ => by kernel_rfl
def ykp (b c : AV) (h : Heap) : OX :=
oh (newC 0 (some 0) (cellsOf b) h) fun a h7 =>
(yls c a h7)
def y282 := KK2 ykp 0 1
theorem y1rv : T0 yxs [.t 4] y282 := sq y1t1 fun _ => by kernel_rfl
@[simp] theorem y2rd : E.pure 79 = true := rfl
theorem y2qt (a b : AV) : (yd E).p 79 [a, b] = ykp a b [⟨0, .dead⟩, ⟨0, .dead⟩, ⟨0, .dead⟩, ⟨0, .dead⟩] :=
 (y1r (cf := y2j7) (by kernel_rfl) rfl).trans ((y1rv _).trans (by kernel_rfl))
def y1ho (h : Heap) : OX :=
(yo h (.int .i64 (-1)))
def y2la := KK0 y1ho
theorem y1ua : T0 y17v [.t 2] y2la := fun _ => by kernel_rfl
def y19w (a : AV) (h : Heap) : OX :=
ob (evLd true 9 a h) fun c =>
oh (yc E (yd E) 0 none true 17 [c] h) fun d h1 =>
cnd d
 (ob (evFa 1 a) fun b =>
ob (evLd false 1 b h1) fun e =>
(yo h1 e))
 ((y1ho h1))
def yjq := KK1 y19w 1
theorem y23a : T0 y1m6 [.t 2] yjq := sq y1ua fun _ => by kernel_rfl
def y9m (a b : AV) (h : Heap) : OX :=
cnd b
 (ob (evFa 1 a) fun d =>
ob (evLd false 1 d h) fun c =>
(yo h c))
 ((y19w a h))
def y2ok := KK2 y9m 1 5
theorem y240 : T1 y1dw yjq (y6 0 yjq xN) [.t 2] y2ok := fun _ => by kernel_rfl
def y1sw (a b : AV) (h : Heap) : OX :=
ob (yb .eql b (.int .i64 1)) fun r =>
cnd r
 ((y9m a r h))
 (ob (yb .eql b (.int .i64 2)) fun d =>
cnd d
 ((y9m a d h))
 (ob (yb .eql b (.int .i64 3)) fun c =>
cnd c
 ((y9m a c h))
 (ob (yb .eql b (.int .i64 4)) fun e =>
cnd e
 ((y9m a e h))
 (ob (yb .eql b (.int .i64 5)) fun m =>
cnd m
 ((y9m a m h))
 (ob (yb .eql b (.int .i64 6)) fun k =>
cnd k
 ((y9m a k h))
 (ob (yb .eql b (.int .i64 13)) fun l =>
cnd l
 ((y9m a l h))
 (ob (yb .eql b (.int .i64 15)) fun j =>
cnd j
 ((y9m a j h))
 (ob (yb .eql b (.int .i64 16)) fun p =>
cnd p
 ((y9m a p h))
 (ob (yb .eql b (.int .i64 18)) fun n =>
cnd n
 ((y9m a n h))
 (ob (yb .eql b (.int .i64 20)) fun g =>
cnd g
 ((y9m a g h))
 (ob (yb .eql b (.int .i64 21)) fun o =>
cnd o
 ((y9m a o h))
 (ob (yb .eql b (.int .i64 22)) fun i =>
cnd i
 ((y9m a i h))
 (ob (yb .eql b (.int .i64 32)) fun t =>
(y9m a t h))))))))))))))
def y26o := KK2 y1sw 1 4
theorem y1xg : T1 y1pa yjq (y6 0 yjq xN) [.t 2] y26o := sq y240 fun _ => by kernel_rfl
theorem y1wa : T1 y1ox yjq xN [.t 2] y26o := fun s => y11.trans (y1xg s)
def y19g (a : AV) (h : Heap) : OX :=
ob (evFa 0 a) fun c =>
ob (evLd false 1 c h) fun b =>
(y1sw a b h)
def y26q := KK1 y19g 1
theorem y1u5 : T1 y1p1 yjq xN [.t 2] y26q := sq y1wa fun _ => by kernel_rfl
theorem y1x2 : T0 y1su [.t 2] y26q := sq y23a y1u5
def y1kz (a : AV) (h : Heap) : OX :=
oh (newC 0 (some 0) (cellsOf a) h) fun b h2 =>
(y19g b h2)
def y2mv := KK1 y1kz 0
theorem y1ve : T0 y1gz [.t 2] y2mv := sq y1x2 fun _ => by kernel_rfl
@[simp] theorem y2ur : E.pure 9 = true := rfl
theorem y2sd (a : AV) : (yd E).p 9 [a] = y1kz a [⟨0, .dead⟩] :=
 (y1r (cf := y2me) (by kernel_rfl) rfl).trans ((y1ve _).trans (by kernel_rfl))
def y23v (fb : Nat) (b a : AV) (h : Heap) : Option (AV × Heap) :=
ob (yb .quo a (.int .i64 64)) fun c =>
ob (y10 1 b c) fun e =>
ob (evLd false 1 e h) fun d =>
ob (yb .rem a (.int .i64 64)) fun k =>
ob (yb .shl (.int .u64 1) k) fun i =>
ob (yb .andNot d i) fun j =>
ob (y10 1 b c) fun g =>
oh (evSt 1 g j h) fun _ h1 =>
(some ((.tup []), h1))
def y2li (fb : Nat) := KK2 (y23v fb) 0 1
theorem y1wf (fb : Nat) (s : St) : W E fb y1dn s (finI []) xN (finI []) = y2li fb s :=
 by kernel_rfl
@[simp] theorem y2uc : E.pure 85 = false := rfl
theorem y2tl (fb : Nat) (a b : AV) (h : Heap) : (yd E).i 85 [a, b] fb h = y23v fb a b (if fb = h.length then h ++ yj 0 else h) :=
 (y63 (cf := y2pn) (by kernel_rfl) rfl).trans ((y1wf fb _).trans (by kernel_rfl))
def ybx (h : Heap) : OX :=
(yo h AV.nils)
def y35 := KK0 ybx
theorem y21v : T0 y1ce [.t 2] y35 := fun _ => by kernel_rfl
def yco (a : AV) (h : Heap) : OX :=
ob (evFa 2 a) fun e =>
ob (evLd false 1 e h) fun d =>
ob (evFa 3 a) fun b =>
ob (evLd false 1 b h) fun g =>
oh (yl 0 (some 6) 1 2 [(.int .i64 0)] [(0, d), (1, g)] h) fun c h1 =>
(yo h1 c)
def y2i5 := KK1 yco 1
theorem y21q : T1 y1tc y35 (y6 0 y35 xN) [.t 2] y2i5 := fun _ => by kernel_rfl
def ydx (a : AV) (h : Heap) : OX :=
ob (evFa 3 a) fun g =>
ob (evLd false 1 g h) fun e =>
ob (yb .lss e (.int .i64 0)) fun c =>
cnd c
 (ob (evFa 2 a) fun b =>
ob (evLd false 1 b h) fun d =>
oh (yl 0 (some 5) 1 1 [(.int .i64 0)] [(0, d)] h) fun i h2 =>
(yo h2 i))
 ((yco a h))
def y2ki := KK1 ydx 1
theorem y222 : T1 y1o1 y35 (y6 0 y35 xN) [.t 2] y2ki := sq y21q fun _ => by kernel_rfl
def ydu (a j g : AV) (h : Heap) : OX :=
cnd g
 ((ydx a h))
 (ob (yb .eql j (.int .i64 30)) fun k =>
cnd k
 (ob (evFa 2 a) fun l =>
ob (evLd false 1 l h) fun c =>
ob (yb .geq c (.int .i64 0)) fun d =>
cnd d
 (ob (evFa 2 a) fun i =>
ob (evLd false 1 i h) fun e =>
oh (yl 0 (some 7) 1 1 [(.int .i64 0)] [(0, e)] h) fun b h3 =>
(yo h3 b))
 ((ybx h)))
 ((ybx h)))
def y2na := KK3 ydu 1 4 50
theorem y20f : T1 y1en y35 (y6 0 y35 xN) [.t 2] y2na := fun s => (y1t (y222 s) rfl).trans (by kernel_rfl)
def yd7 (c a : AV) (h : Heap) : OX :=
ob (yb .eql a (.int .i64 29)) fun b =>
(ydu c a b h)
def y2ob := KK2 yd7 1 4
theorem y1uy : T1 y1h2 y35 (y6 0 y35 xN) [.t 2] y2ob := sq y20f fun _ => by kernel_rfl
def ya3 (a e d : AV) (h : Heap) : OX :=
cnd d
 (ob (evFa 8 a) fun g =>
ob (evLd false 1 g h) fun b =>
oh (yc E (yd E) 0 (some 4) false 39 [b] h) fun c h4 =>
(yo h4 c))
 ((yd7 a e h))
def y2ms := KK3 ya3 1 4 42
theorem y1v6 : T1 y1l7 y35 (y6 0 y35 xN) [.t 2] y2ms := fun s => (y1t rfl (y1uy s)).trans (by kernel_rfl)
def ydy (b a : AV) (h : Heap) : OX :=
ob (yb .eql a (.int .i64 23)) fun c =>
cnd c
 ((ya3 b a c h))
 (ob (yb .eql a (.int .i64 24)) fun d =>
cnd d
 ((ya3 b a d h))
 (ob (yb .eql a (.int .i64 25)) fun e =>
cnd e
 ((ya3 b a e h))
 (ob (yb .eql a (.int .i64 26)) fun g =>
(ya3 b a g h))))
def y2oi := KK2 ydy 1 4
theorem y1yx : T1 y1rw y35 (y6 0 y35 xN) [.t 2] y2oi := sq y1v6 fun _ => by kernel_rfl
def ydh (a j e : AV) (h : Heap) : OX :=
cnd e
 (ob (evFa 2 a) fun l =>
ob (evLd false 1 l h) fun g =>
ob (evFa 3 a) fun c =>
ob (evLd false 1 c h) fun k =>
ob (evFa 4 a) fun b =>
ob (evLd false 1 b h) fun i =>
oh (yl 0 (some 3) 1 3 [(.int .i64 0)] [(0, g), (1, k), (2, i)] h) fun d h5 =>
(yo h5 d))
 ((ydy a j h))
def y2ml := KK3 ydh 1 4 33
theorem y1we : T1 y1fj y35 (y6 0 y35 xN) [.t 2] y2ml := fun s => (y1t rfl (y1yx s)).trans (by kernel_rfl)
def yd1 (b a : AV) (h : Heap) : OX :=
ob (yb .eql a (.int .i64 14)) fun c =>
(ydh b a c h)
def y2ii := KK2 yd1 1 4
theorem y20d : T1 y1i2 y35 (y6 0 y35 xN) [.t 2] y2ii := sq y1we fun _ => by kernel_rfl
def y4n (a j i : AV) (h : Heap) : OX :=
cnd i
 (ob (evFa 2 a) fun d =>
ob (evLd false 1 d h) fun c =>
ob (evFa 3 a) fun b =>
ob (evLd false 1 b h) fun g =>
oh (yl 0 (some 2) 1 2 [(.int .i64 0)] [(0, c), (1, g)] h) fun e h6 =>
(yo h6 e))
 ((yd1 a j h))
def y2f0 := KK3 y4n 1 4 21
theorem y1kc : T1 yzv y35 (y6 0 y35 xN) [.t 2] y2f0 := fun s => (y1t rfl (y20d s)).trans (by kernel_rfl)
def y6u (b a : AV) (h : Heap) : OX :=
ob (yb .eql a (.int .i64 5)) fun d =>
cnd d
 ((y4n b a d h))
 (ob (yb .eql a (.int .i64 9)) fun e =>
cnd e
 ((y4n b a e h))
 (ob (yb .eql a (.int .i64 11)) fun c =>
cnd c
 ((y4n b a c h))
 (ob (yb .eql a (.int .i64 13)) fun i =>
cnd i
 ((y4n b a i h))
 (ob (yb .eql a (.int .i64 17)) fun g =>
cnd g
 ((y4n b a g h))
 (ob (yb .eql a (.int .i64 28)) fun j =>
(y4n b a j h))))))
def y2gg := KK2 y6u 1 4
theorem y1ja : T1 y12r y35 (y6 0 y35 xN) [.t 2] y2gg := sq y1kc fun _ => by kernel_rfl
def y3e (a e b : AV) (h : Heap) : OX :=
cnd b
 (ob (evFa 2 a) fun c =>
ob (evLd false 1 c h) fun d =>
oh (yl 0 (some 1) 1 1 [(.int .i64 0)] [(0, d)] h) fun g h7 =>
(yo h7 g))
 ((y6u a e h))
def y2du := KK3 y3e 1 4 5
theorem y1j9 : T1 y11e y35 (y6 0 y35 xN) [.t 2] y2du := fun s => (y1t rfl (y1ja s)).trans (by kernel_rfl)
def y6o (b a : AV) (h : Heap) : OX :=
ob (yb .eql a (.int .i64 4)) fun o =>
cnd o
 ((y3e b a o h))
 (ob (yb .eql a (.int .i64 6)) fun d =>
cnd d
 ((y3e b a d h))
 (ob (yb .eql a (.int .i64 7)) fun c =>
cnd c
 ((y3e b a c h))
 (ob (yb .eql a (.int .i64 8)) fun e =>
cnd e
 ((y3e b a e h))
 (ob (yb .eql a (.int .i64 10)) fun l =>
cnd l
 ((y3e b a l h))
 (ob (yb .eql a (.int .i64 12)) fun j =>
cnd j
 ((y3e b a j h))
 (ob (yb .eql a (.int .i64 15)) fun k =>
cnd k
 ((y3e b a k h))
 (ob (yb .eql a (.int .i64 16)) fun i =>
cnd i
 ((y3e b a i h))
 (ob (yb .eql a (.int .i64 19)) fun n =>
cnd n
 ((y3e b a n h))
 (ob (yb .eql a (.int .i64 21)) fun m =>
cnd m
 ((y3e b a m h))
 (ob (yb .eql a (.int .i64 22)) fun g =>
cnd g
 ((y3e b a g h))
 (ob (yb .eql a (.int .i64 31)) fun p =>
(y3e b a p h))))))))))))
def y1cg := KK2 y6o 1 4
theorem y1ek : T1 y15h y35 (y6 0 y35 xN) [.t 2] y1cg := sq y1j9 fun _ => by kernel_rfl
theorem y1hh : T1 yxr y35 xN [.t 2] y1cg := fun s => y11.trans (y1ek s)
def y6r (a : AV) (h : Heap) : OX :=
ob (evFa 0 a) fun c =>
ob (evLd false 1 c h) fun b =>
(y6o a b h)
def y1it := KK1 y6r 1
theorem y1n1 : T1 y142 y35 xN [.t 2] y1it := sq y1hh fun _ => by kernel_rfl
theorem y1pn : T0 yvm [.t 2] y1it := sq y21v y1n1
def y6q (a : AV) (h : Heap) : OX :=
oh (newC 0 (some 0) (cellsOf a) h) fun b h8 =>
(y6r b h8)
def y29v := KK1 y6q 0
theorem y1ln : T0 y14m [.t 2] y29v := sq y1pn fun _ => by kernel_rfl
@[simp] theorem y2qy : E.pure 10 = true := rfl
theorem yuw (a : AV) : (yd E).p 10 [a] = y6q a [⟨0, .dead⟩, ⟨0, .dead⟩, ⟨0, .dead⟩, ⟨0, .dead⟩, ⟨0, .dead⟩, ⟨0, .dead⟩, ⟨0, .dead⟩, ⟨0, .dead⟩] :=
 (y1r (cf := y2mw) (by kernel_rfl) rfl).trans ((y1ln _).trans (by kernel_rfl))
def y21t (fb : Nat) (b a : AV) (h : Heap) : Option (AV × Heap) :=
ob (yb .quo a (.int .i64 64)) fun c =>
ob (y10 1 b c) fun e =>
ob (evLd false 1 e h) fun d =>
ob (yb .rem a (.int .i64 64)) fun k =>
ob (yb .shl (.int .u64 1) k) fun i =>
ob (yb .or d i) fun j =>
ob (y10 1 b c) fun g =>
oh (evSt 1 g j h) fun _ h1 =>
(some ((.tup []), h1))
def y2pf (fb : Nat) := KK2 (y21t fb) 0 1
theorem y1xk (fb : Nat) (s : St) : W E fb y1q1 s (finI []) xN (finI []) = y2pf fb s :=
 by kernel_rfl
@[simp] theorem y2tz : E.pure 86 = false := rfl
theorem y2sb (fb : Nat) (a b : AV) (h : Heap) : (yd E).i 86 [a, b] fb h = y21t fb a b (if fb = h.length then h ++ yj 0 else h) :=
 (y63 (cf := y2iv) (by kernel_rfl) rfl).trans ((y1xk fb _).trans (by kernel_rfl))
def yt4 (j k e i : AV) (h : Heap) : OX :=
ob (yfq 0 true j AV.nilp) fun g =>
gb g true (some e) fun o =>
gb g true (yb .geq o (.int .i64 0)) fun t =>
ob (yh g t (.bool false)) fun c =>
gb c true (some e) fun m =>
gb c true (some k) fun G =>
gb c true (y17 1 G h) fun r =>
gb c true (yb .lss m r) fun u =>
ob (yh c u (.bool false)) fun d =>
gb d true (some i) fun B =>
gb d true (yb .geq B (.int .i64 0)) fun I =>
ob (yh d I (.bool false)) fun a =>
gb a true (some i) fun D =>
gb a true (some j) fun p =>
gb a true (yp p) fun n =>
gb a true (evFa 3 n) fun F =>
gb a true (evLd false 1 F h) fun l =>
gb a true (yb .lss D l) fun w =>
ob (yh a w (.bool false)) fun b =>
gb b true (some k) fun H =>
gb b true (some e) fun y =>
gb b true (y10 1 H y) fun C =>
gb b true (evLd false 1 C h) fun A =>
gb b true (some i) fun x =>
gh b true (yc E (yd E) 0 none true 83 [A, x] h) h fun z h1 =>
ob (yh b z (.bool false)) fun v =>
(yo h1 v)
def y2is := KK4 yt4 0 1 2 3
theorem y24i : T0 y1bj [.t 8] y2is := fun _ => by kernel_rfl
@[simp] theorem y2sa : E.pure 82 = true := rfl
theorem y2s1 (c d b a : AV) : (yd E).p 82 [c, d, b, a] = yt4 c d b a [] :=
 (y1r (cf := y2j1) (by kernel_rfl) rfl).trans ((y24i _).trans (by kernel_rfl))
def ymk (h : Heap) : OX :=
(yo h (.int .i64 (-1)))
def y6k := KK0 ymk
theorem y1bx : T0 y127 [.t 4] y6k := fun _ => by kernel_rfl
def yhs (b c d a : AV) (h : Heap) : OX :=
 W E 0 yio ⟨[(0, b), (1, c), (7, d), (8, a)], h⟩ y6k (y6 0 y6k xN) (finP [.t 4])
def y7t := KK4 yhs 0 1 7 8
theorem ykn : T1 yio y6k (y6 0 y6k xN) [.t 4] y7t := fun s => yu.trans (by kernel_rfl)
def ykq (e b d a : AV) (h : Heap) : OX :=
ob (yb .add a (.int .i64 1)) fun c =>
(yhs e b d c h)
def y2ew := KK4 ykq 0 1 7 8
theorem y1o6 : T1 y129 y7t (y6 0 y6k xN) [.t 4] y2ew := fun _ => by kernel_rfl
def yl8 (c b d a : AV) (h : Heap) : OX :=
ob (y10 1 c a) fun i =>
ob (evLd false 1 i h) fun g =>
ob (yb .eql b g) fun e =>
cnd e
 ((yo h a))
 ((ykq c b d a h))
def y2ai := KK4 yl8 0 1 7 8
theorem y1je : T1 y126 y7t (y6 0 y6k xN) [.t 4] y2ai := sq y1o6 fun _ => by kernel_rfl
def yl9 (e b c a d : AV) (h : Heap) : OX :=
cnd d
 ((yl8 e b c a h))
 ((ymk h))
def y2f7 := KK5 yl9 0 1 7 8 9
theorem y1ch : T1 yxo y7t (y6 0 y6k xN) [.t 4] y2f7 := sq y1je fun _ => by kernel_rfl
def yly (e c b a : AV) (h : Heap) : OX :=
ob (yb .lss a b) fun d =>
(yl9 e c b a d h)
def y2e4 := KK4 yly 0 1 7 8
theorem y1iw : T1 y11x y7t (y6 0 y6k xN) [.t 4] y2e4 := sq y1ch fun _ => by kernel_rfl
theorem ykr (b c d a : AV) (h : Heap) : yhs b c d a h = (yly b c d a h) :=
 y27.trans ((y1q _ _ _ (n' := y7t) (fun s => ykn s)).trans ((y1iw _).trans (by kernel_rfl)))
theorem y1kv : T1 yxt y6k xN [.t 4] y7t := fun s => y11.trans (ykn s)
def ykf (a b : AV) (h : Heap) : OX :=
ob (y17 1 a h) fun c =>
(yhs a b c (.int .i64 0) h)
def y1a5 := KK2 ykf 0 1
theorem y1nu : T1 yy9 y6k xN [.t 4] y1a5 := sq y1kv fun _ => by kernel_rfl
theorem y1ti : T0 yy1 [.t 4] y1a5 := sq y1bx y1nu
def yf0 (a b : AV) (h : Heap) : OX :=
(ykf a b h)
def y23e := KK2 yf0 0 1
theorem y16d : T0 yrl [.t 4] y23e := sq y1ti fun _ => by kernel_rfl
@[simp] theorem y2sh : E.pure 45 = true := rfl
theorem y2lu (a b : AV) : (yd E).p 45 [a, b] = yf0 a b [] :=
 (y1r (cf := y258) (by kernel_rfl) rfl).trans ((y16d _).trans (by kernel_rfl))
def yg1 (c b : AV) (h : Heap) : OX :=
ob (evLd true 9 c h) fun e =>
oh (yc E (yd E) 0 none true 51 [e] h) fun a h1 =>
ob (y2a 0 a) fun d =>
ob (y2a 1 a) fun g =>
oh (evSt 4 b d h1) fun _ h2 =>
(ob (evLd true 4 b h2) fun r0 =>
 yo h2 (.tup [r0, g]))
def yw := KK2 yg1 1 2
theorem y237 : T0 y1ku [.cell 2 true 4, .t 3] yw := fun _ => by kernel_rfl
def yei (d a c : AV) (h : Heap) : OX :=
cnd c
 (ob (yq zq6 [(0, 1, (.int .i64 (-1))), (1, 1, (.int .i64 (-1))), (2, 1, (.int .i64 (-1))), (3, 1, (.int .i64 (-1)))]) fun b =>
oh (evSt 4 a b h) fun _ h3 =>
(ob (evLd true 4 a h3) fun r0 =>
 yo h3 (.tup [r0, (.bool true)])))
 ((yg1 d a h))
def y2n4 := KK3 yei 1 2 134
theorem y21b : T1 y1tl yw (y6 0 yw xN) [.cell 2 true 4, .t 3] y2n4 := fun _ => by kernel_rfl
def yg3 (a b d : AV) (h : Heap) : OX :=
ob (yb .eql d (.int .i64 27)) fun c =>
cnd c
 ((yei a b c h))
 (ob (yb .eql d (.int .i64 33)) fun e =>
(yei a b e h))
def y2pi := KK3 yg3 1 2 11
theorem y1yt : T1 y1cj yw (y6 0 yw xN) [.cell 2 true 4, .t 3] y2pi := sq y21b fun _ => by kernel_rfl
def yg9 (c b j g : AV) (h : Heap) : OX :=
cnd g
 (ob (yq zq6 [(0, 1, (.int .i64 (-1))), (1, 1, (.int .i64 1)), (2, 1, (.int .i64 1)), (3, 1, (.int .i64 (-1)))]) fun n =>
ob (evFa 5 c) fun e =>
ob (evLd false 1 e h) fun l =>
ob (yb .geq l (.int .i64 0)) fun a =>
ofp (fgd a true (some ([], []))) fun f5 =>
gb a true (evFa 5 c) fun d =>
ofp (fgd a true (some (ids1 d, []))) fun f6 =>
gb a true (evLd false 1 d h) fun i =>
ofp (fgd a true (some ([], []))) fun f7 =>
gb a true (yb .leq i (.int .i64 5)) fun k =>
ob (yh a k (.bool false)) fun m =>
oh (evSt 4 b n h) fun _ h4 =>
okK (y1o [([], []), ([], []), (ids1 e, []), ([], []), ([], []), f5, f6, f7, ([], []), ([], ids1 b), ([], [])] [(6, 9)]) <|
(ob (evLd true 4 b h4) fun r0 =>
 yo h4 (.tup [r0, m])))
 ((yg3 c b j h))
def y2kw := KK4 yg9 1 2 11 123
theorem y1zd : T1 y1g4 yw (y6 0 yw xN) [.cell 2 true 4, .t 3] y2kw := fun s => (y1t rfl (y1yt s)).trans (by kernel_rfl)
def yg5 (d c a : AV) (h : Heap) : OX :=
ob (yb .eql a (.int .i64 28)) fun b =>
(yg9 d c a b h)
def y2ku := KK3 yg5 1 2 11
theorem y1zb : T1 y1kb yw (y6 0 yw xN) [.cell 2 true 4, .t 3] y2ku := sq y1zd fun _ => by kernel_rfl
def yga (b a d e : AV) (h : Heap) : OX :=
cnd e
 (ob (yq zq6 [(0, 1, (.int .i64 3)), (1, 1, (.int .i64 1)), (2, 1, (.int .i64 (-1))), (3, 1, (.int .i64 (-1)))]) fun c =>
ob (evFa 7 b) fun j =>
ob (evLd false 1 j h) fun g =>
oh (yc E (yd E) 0 none true 37 [g] h) fun i h5 =>
oh (evSt 4 a c h5) fun _ h6 =>
(ob (evLd true 4 a h6) fun r0 =>
 yo h6 (.tup [r0, i])))
 ((yg5 b a d h))
def y2pq := KK4 yga 1 2 11 117
theorem y1uk : T1 y1ao yw (y6 0 yw xN) [.cell 2 true 4, .t 3] y2pq := fun s => (y1t rfl (y1zb s)).trans (by kernel_rfl)
def yg2 (d c a : AV) (h : Heap) : OX :=
ob (yb .eql a (.int .i64 21)) fun b =>
(yga d c a b h)
def y2ln := KK3 yg2 1 2 11
theorem y1wn : T1 y1hy yw (y6 0 yw xN) [.cell 2 true 4, .t 3] y2ln := sq y1uk fun _ => by kernel_rfl
def ygd (c a e d : AV) (h : Heap) : OX :=
cnd d
 (ob (yq zq6 [(0, 1, (.int .i64 (-1))), (1, 1, (.int .i64 0)), (2, 1, (.int .i64 (-1))), (3, 1, (.int .i64 (-1)))]) fun b =>
oh (evSt 4 a b h) fun _ h7 =>
(ob (evLd true 4 a h7) fun r0 =>
 yo h7 (.tup [r0, (.bool true)])))
 ((yg2 c a e h))
def y2kj := KK4 ygd 1 2 11 114
theorem y220 : T1 y1qa yw (y6 0 yw xN) [.cell 2 true 4, .t 3] y2kj := fun s => (y1t rfl (y1wn s)).trans (by kernel_rfl)
def ygb (d c a : AV) (h : Heap) : OX :=
ob (yb .eql a (.int .i64 19)) fun b =>
(ygd d c a b h)
def y2p1 := KK3 ygb 1 2 11
theorem y1v4 : T1 y1c5 yw (y6 0 yw xN) [.cell 2 true 4, .t 3] y2p1 := sq y220 fun _ => by kernel_rfl
def y8r (b a j g : AV) (h : Heap) : OX :=
cnd g
 (ob (yq zq6 [(0, 1, (.int .i64 (-1))), (1, 1, (.int .i64 3)), (2, 1, (.int .i64 0)), (3, 1, (.int .i64 (-1)))]) fun d =>
ob (evFa 5 b) fun c =>
ob (evLd false 1 c h) fun e =>
ob (yb .geq e (.int .i64 0)) fun i =>
oh (evSt 4 a d h) fun _ h8 =>
okK (y1o [([], []), ([], []), (ids1 c, []), ([], []), ([], ids1 a), ([], [])] [(2, 4)]) <|
(ob (evLd true 4 a h8) fun r0 =>
 yo h8 (.tup [r0, i])))
 ((ygb b a j h))
def y2b1 := KK4 y8r 1 2 11 108
theorem y1ji : T1 y15e yw (y6 0 yw xN) [.cell 2 true 4, .t 3] y2b1 := fun s => (y1t rfl (y1v4 s)).trans (by kernel_rfl)
def y95 (d b a : AV) (h : Heap) : OX :=
ob (yb .eql a (.int .i64 17)) fun c =>
(y8r d b a c h)
def y2b0 := KK3 y95 1 2 11
theorem y1da : T1 ywo yw (y6 0 yw xN) [.cell 2 true 4, .t 3] y2b0 := sq y1ji fun _ => by kernel_rfl
def y8m (b a i j : AV) (h : Heap) : OX :=
cnd j
 (ob (yq zq6 [(0, 1, (.int .i64 0)), (1, 1, (.int .i64 3)), (2, 1, (.int .i64 (-1))), (3, 1, (.int .i64 (-1)))]) fun e =>
ob (evFa 5 b) fun c =>
ob (evLd false 1 c h) fun g =>
ob (yb .geq g (.int .i64 0)) fun d =>
oh (evSt 4 a e h) fun _ h9 =>
okK (y1o [([], []), ([], []), (ids1 c, []), ([], []), ([], ids1 a), ([], [])] [(2, 4)]) <|
(ob (evLd true 4 a h9) fun r0 =>
 yo h9 (.tup [r0, d])))
 ((y95 b a i h))
def y27u := KK4 y8m 1 2 11 102
theorem y1g1 : T1 y11b yw (y6 0 yw xN) [.cell 2 true 4, .t 3] y27u := fun s => (y1t rfl (y1da s)).trans (by kernel_rfl)
def y9l (d c a : AV) (h : Heap) : OX :=
ob (yb .eql a (.int .i64 16)) fun b =>
(y8m d c a b h)
def y2ac := KK3 y9l 1 2 11
theorem y1s4 : T1 y0q yw (y6 0 yw xN) [.cell 2 true 4, .t 3] y2ac := sq y1g1 fun _ => by kernel_rfl
def y8j (d a e c : AV) (h : Heap) : OX :=
cnd c
 (ob (yq zq6 [(0, 1, (.int .i64 1)), (1, 1, (.int .i64 3)), (2, 1, (.int .i64 (-1))), (3, 1, (.int .i64 (-1)))]) fun b =>
oh (evSt 4 a b h) fun _ h10 =>
(ob (evLd true 4 a h10) fun r0 =>
 yo h10 (.tup [r0, (.bool true)])))
 ((y9l d a e h))
def y2g7 := KK4 y8j 1 2 11 99
theorem y1rp : T1 yw6 yw (y6 0 yw xN) [.cell 2 true 4, .t 3] y2g7 := fun s => (y1t rfl (y1s4 s)).trans (by kernel_rfl)
def y90 (d c a : AV) (h : Heap) : OX :=
ob (yb .eql a (.int .i64 15)) fun b =>
(y8j d c a b h)
def y2bs := KK3 y90 1 2 11
theorem y1ar : T1 yuy yw (y6 0 yw xN) [.cell 2 true 4, .t 3] y2bs := sq y1rp fun _ => by kernel_rfl
def y9d (b a d c : AV) (h : Heap) : OX :=
cnd c
 (ob (yq zq6 [(0, 1, (.int .i64 (-1))), (1, 1, (.int .i64 3)), (2, 1, (.int .i64 1)), (3, 1, (.int .i64 0))]) fun e =>
oh (evSt 4 a e h) fun _ h11 =>
(ob (evLd true 4 a h11) fun r0 =>
 yo h11 (.tup [r0, (.bool true)])))
 ((y90 b a d h))
def y2ba := KK4 y9d 1 2 11 96
theorem y1o8 : T1 y11i yw (y6 0 yw xN) [.cell 2 true 4, .t 3] y2ba := fun s => (y1t rfl (y1ar s)).trans (by kernel_rfl)
def y9i (d c a : AV) (h : Heap) : OX :=
ob (yb .eql a (.int .i64 14)) fun b =>
(y9d d c a b h)
def y28a := KK3 y9i 1 2 11
theorem y1bw : T1 y138 yw (y6 0 yw xN) [.cell 2 true 4, .t 3] y28a := sq y1o8 fun _ => by kernel_rfl
def y9c (b a d e : AV) (h : Heap) : OX :=
cnd e
 (ob (yq zq6 [(0, 1, (.int .i64 0)), (1, 1, (.int .i64 3)), (2, 1, (.int .i64 1)), (3, 1, (.int .i64 (-1)))]) fun c =>
oh (evSt 4 a c h) fun _ h12 =>
(ob (evLd true 4 a h12) fun r0 =>
 yo h12 (.tup [r0, (.bool true)])))
 ((y9i b a d h))
def y2c6 := KK4 y9c 1 2 11 93
theorem y1nq : T1 y11y yw (y6 0 yw xN) [.cell 2 true 4, .t 3] y2c6 := fun s => (y1t rfl (y1bw s)).trans (by kernel_rfl)
def y8w (d c a : AV) (h : Heap) : OX :=
ob (yb .eql a (.int .i64 13)) fun b =>
(y9c d c a b h)
def y2gl := KK3 y8w 1 2 11
theorem y1ma : T1 y124 yw (y6 0 yw xN) [.cell 2 true 4, .t 3] y2gl := sq y1nq fun _ => by kernel_rfl
def y9e (b a e c : AV) (h : Heap) : OX :=
cnd c
 (ob (yq zq6 [(0, 1, (.int .i64 (-1))), (1, 1, (.int .i64 3)), (2, 1, (.int .i64 3)), (3, 1, (.int .i64 (-1)))]) fun d =>
oh (evSt 4 a d h) fun _ h13 =>
(ob (evLd true 4 a h13) fun r0 =>
 yo h13 (.tup [r0, (.bool true)])))
 ((y8w b a e h))
def y28n := KK4 y9e 1 2 11 90
theorem y1ry : T1 y14n yw (y6 0 yw xN) [.cell 2 true 4, .t 3] y28n := fun s => (y1t rfl (y1ma s)).trans (by kernel_rfl)
def y8x (d c a : AV) (h : Heap) : OX :=
ob (yb .eql a (.int .i64 11)) fun b =>
(y9e d c a b h)
def y29z := KK3 y8x 1 2 11
theorem y1g2 : T1 ywf yw (y6 0 yw xN) [.cell 2 true 4, .t 3] y29z := sq y1ry fun _ => by kernel_rfl
def y96 (b a d c : AV) (h : Heap) : OX :=
cnd c
 (ob (yq zq6 [(0, 1, (.int .i64 (-1))), (1, 1, (.int .i64 1)), (2, 1, (.int .i64 (-1))), (3, 1, (.int .i64 (-1)))]) fun e =>
oh (evSt 4 a e h) fun _ h14 =>
(ob (evLd true 4 a h14) fun r0 =>
 yo h14 (.tup [r0, (.bool true)])))
 ((y8x b a d h))
def y2go := KK4 y96 1 2 11 87
theorem y1ef : T1 yw4 yw (y6 0 yw xN) [.cell 2 true 4, .t 3] y2go := fun s => (y1t rfl (y1g2 s)).trans (by kernel_rfl)
def y92 (d c a : AV) (h : Heap) : OX :=
ob (yb .eql a (.int .i64 10)) fun b =>
(y96 d c a b h)
def y2b2 := KK3 y92 1 2 11
theorem y1oi : T1 yxh yw (y6 0 yw xN) [.cell 2 true 4, .t 3] y2b2 := sq y1ef fun _ => by kernel_rfl
def y8u (b a e d : AV) (h : Heap) : OX :=
cnd d
 (ob (yq zq6 [(0, 1, (.int .i64 (-1))), (1, 1, (.int .i64 3)), (2, 1, (.int .i64 1)), (3, 1, (.int .i64 (-1)))]) fun c =>
oh (evSt 4 a c h) fun _ h15 =>
(ob (evLd true 4 a h15) fun r0 =>
 yo h15 (.tup [r0, (.bool true)])))
 ((y92 b a e h))
def y2ee := KK4 y8u 1 2 11 84
theorem y1ni : T1 y14u yw (y6 0 yw xN) [.cell 2 true 4, .t 3] y2ee := fun s => (y1t rfl (y1oi s)).trans (by kernel_rfl)
def y9h (d c a : AV) (h : Heap) : OX :=
ob (yb .eql a (.int .i64 9)) fun b =>
(y8u d c a b h)
def y2cr := KK3 y9h 1 2 11
theorem y1aj : T1 yzo yw (y6 0 yw xN) [.cell 2 true 4, .t 3] y2cr := sq y1ni fun _ => by kernel_rfl
def y9a (b a i g : AV) (h : Heap) : OX :=
cnd g
 (ob (yq zq6 [(0, 1, (.int .i64 1)), (1, 1, (.int .i64 3)), (2, 1, (.int .i64 (-1))), (3, 1, (.int .i64 (-1)))]) fun e =>
ob (evFa 7 b) fun c =>
ob (evLd false 1 c h) fun d =>
oh (yc E (yd E) 0 none true 37 [d] h) fun j h16 =>
oh (evSt 4 a e h16) fun _ h17 =>
(ob (evLd true 4 a h17) fun r0 =>
 yo h17 (.tup [r0, j])))
 ((y9h b a i h))
def y2bz := KK4 y9a 1 2 11 78
theorem y1ac : T1 yvr yw (y6 0 yw xN) [.cell 2 true 4, .t 3] y2bz := fun s => (y1t rfl (y1aj s)).trans (by kernel_rfl)
def y9b (d c a : AV) (h : Heap) : OX :=
ob (yb .eql a (.int .i64 22)) fun b =>
(y9a d c a b h)
def y2b5 := KK3 y9b 1 2 11
theorem y19u : T1 yvy yw (y6 0 yw xN) [.cell 2 true 4, .t 3] y2b5 := sq y1ac fun _ => by kernel_rfl
def y98 (b a d e : AV) (h : Heap) : OX :=
cnd e
 (ob (yq zq6 [(0, 1, (.int .i64 (-1))), (1, 1, (.int .i64 3)), (2, 1, (.int .i64 (-1))), (3, 1, (.int .i64 (-1)))]) fun c =>
ob (evFa 7 b) fun i =>
ob (evLd false 1 i h) fun g =>
oh (yc E (yd E) 0 none true 37 [g] h) fun j h18 =>
oh (evSt 4 a c h18) fun _ h19 =>
(ob (evLd true 4 a h19) fun r0 =>
 yo h19 (.tup [r0, j])))
 ((y9b b a d h))
def y2d3 := KK4 y98 1 2 11 72
theorem y1q9 : T1 y15d yw (y6 0 yw xN) [.cell 2 true 4, .t 3] y2d3 := fun s => (y1t rfl (y19u s)).trans (by kernel_rfl)
def y8z (d c a : AV) (h : Heap) : OX :=
ob (yb .eql a (.int .i64 12)) fun b =>
(y98 d c a b h)
def y2es := KK3 y8z 1 2 11
theorem y1j5 : T1 y148 yw (y6 0 yw xN) [.cell 2 true 4, .t 3] y2es := sq y1q9 fun _ => by kernel_rfl
def y7h (b a d e : AV) (h : Heap) : OX :=
cnd e
 (ob (yq zq6 [(0, 1, (.int .i64 (-1))), (1, 1, (.int .i64 3)), (2, 1, (.int .i64 (-1))), (3, 1, (.int .i64 (-1)))]) fun c =>
oh (evSt 4 a c h) fun _ h20 =>
(ob (evLd true 4 a h20) fun r0 =>
 yo h20 (.tup [r0, (.bool true)])))
 ((y8z b a d h))
def y298 := KK4 y7h 1 2 11 68
theorem y1lv : T1 y0a yw (y6 0 yw xN) [.cell 2 true 4, .t 3] y298 := fun s => (y1t rfl (y1j5 s)).trans (by kernel_rfl)
def y94 (b d a : AV) (h : Heap) : OX :=
ob (yb .eql a (.int .i64 8)) fun c =>
cnd c
 ((y7h b d a c h))
 (ob (yb .eql a (.int .i64 31)) fun e =>
(y7h b d a e h))
def y29e := KK3 y94 1 2 11
theorem y1f4 : T1 yxi yw (y6 0 yw xN) [.cell 2 true 4, .t 3] y29e := sq y1lv fun _ => by kernel_rfl
def y9g (c a d b : AV) (h : Heap) : OX :=
cnd b
 (ob (yq zq6 [(0, 1, (.int .i64 (-1))), (1, 1, (.int .i64 0)), (2, 1, (.int .i64 (-1))), (3, 1, (.int .i64 (-1)))]) fun e =>
oh (evSt 4 a e h) fun _ h21 =>
(ob (evLd true 4 a h21) fun r0 =>
 yo h21 (.tup [r0, (.bool true)])))
 ((y94 c a d h))
def y2ef := KK4 y9g 1 2 11 65
theorem y1q5 : T1 y02 yw (y6 0 yw xN) [.cell 2 true 4, .t 3] y2ef := fun s => (y1t rfl (y1f4 s)).trans (by kernel_rfl)
def y9j (d c a : AV) (h : Heap) : OX :=
ob (yb .eql a (.int .i64 7)) fun b =>
(y9g d c a b h)
def y2fs := KK3 y9j 1 2 11
theorem y1rk : T1 yzr yw (y6 0 yw xN) [.cell 2 true 4, .t 3] y2fs := sq y1q5 fun _ => by kernel_rfl
def y99 (d b l r : AV) (h : Heap) : OX :=
cnd r
 (ob (evFa 5 d) fun m =>
ob (evLd false 1 m h) fun i =>
oh (yc E (yd E) 0 none true 50 [i] h) fun c h22 =>
ob (y2a 0 c) fun e =>
ob (y2a 1 c) fun k =>
ob (y2a 2 c) fun g =>
ob (yq zq6 [(0, 1, g), (1, 1, e), (2, 1, (.int .i64 (-1))), (3, 1, (.int .i64 (-1)))]) fun o =>
ob (yb .neq e (.int .i64 0)) fun a =>
gb a true (some k) fun j =>
gb a true (yb .eql j (.int .i64 0)) fun n =>
ob (yh a n (.bool false)) fun p =>
oh (evSt 4 b o h22) fun _ h23 =>
(ob (evLd true 4 b h23) fun r0 =>
 yo h23 (.tup [r0, p])))
 ((y9j d b l h))
def y2cj := KK4 y99 1 2 11 47
theorem y1ki : T1 y132 yw (y6 0 yw xN) [.cell 2 true 4, .t 3] y2cj := fun s => (y1t rfl (y1rk s)).trans (by kernel_rfl)
def y8l (d c a : AV) (h : Heap) : OX :=
ob (yb .eql a (.int .i64 6)) fun b =>
(y99 d c a b h)
def y291 := KK3 y8l 1 2 11
theorem y1ej : T1 yyo yw (y6 0 yw xN) [.cell 2 true 4, .t 3] y291 := sq y1ki fun _ => by kernel_rfl
def y97 (a c t o : AV) (h : Heap) : OX :=
cnd o
 (ob (evFa 5 a) fun g =>
ob (evLd false 1 g h) fun u =>
oh (yc E (yd E) 0 none true 50 [u] h) fun b h24 =>
ob (y2a 0 b) fun m =>
ob (y2a 1 b) fun e =>
ob (y2a 2 b) fun k =>
ob (yq zq6 [(0, 1, k), (1, 1, m), (2, 1, e), (3, 1, (.int .i64 (-1)))]) fun r =>
ob (evFa 5 a) fun n =>
ob (evLd false 1 n h24) fun p =>
ob (evFa 5 a) fun l =>
ob (evLd false 1 l h24) fun i =>
ob (yb .eql p i) fun d =>
gb d true (some e) fun w =>
gb d true (yb .neq w (.int .i64 0)) fun v =>
ob (yh d v (.bool false)) fun j =>
oh (evSt 4 c r h24) fun _ h25 =>
(ob (evLd true 4 c h25) fun r0 =>
 yo h25 (.tup [r0, j])))
 ((y8l a c t h))
def y28y := KK4 y97 1 2 11 25
theorem y1if : T1 y11l yw (y6 0 yw xN) [.cell 2 true 4, .t 3] y28y := fun s => (y1t rfl (y1ej s)).trans (by kernel_rfl)
def y8k (c b a : AV) (h : Heap) : OX :=
ob (yb .eql a (.int .i64 5)) fun d =>
(y97 c b a d h)
def y2fg := KK3 y8k 1 2 11
theorem y1qy : T1 y125 yw (y6 0 yw xN) [.cell 2 true 4, .t 3] y2fg := sq y1if fun _ => by kernel_rfl
def y8i (c a e d : AV) (h : Heap) : OX :=
cnd d
 (ob (yq zq6 [(0, 1, (.int .i64 0)), (1, 1, (.int .i64 0)), (2, 1, (.int .i64 (-1))), (3, 1, (.int .i64 (-1)))]) fun b =>
oh (evSt 4 a b h) fun _ h26 =>
(ob (evLd true 4 a h26) fun r0 =>
 yo h26 (.tup [r0, (.bool true)])))
 ((y8k c a e h))
def y2cu := KK4 y8i 1 2 11 22
theorem y18f : T1 yxb yw (y6 0 yw xN) [.cell 2 true 4, .t 3] y2cu := fun s => (y1t rfl (y1qy s)).trans (by kernel_rfl)
def y93 (d c a : AV) (h : Heap) : OX :=
ob (yb .eql a (.int .i64 4)) fun b =>
(y8i d c a b h)
def y28e := KK3 y93 1 2 11
theorem y1md : T1 y08 yw (y6 0 yw xN) [.cell 2 true 4, .t 3] y28e := sq y18f fun _ => by kernel_rfl
def y6d (b a d c : AV) (h : Heap) : OX :=
cnd c
 (ob (yq zq6 [(0, 1, (.int .i64 3)), (1, 1, (.int .i64 (-1))), (2, 1, (.int .i64 (-1))), (3, 1, (.int .i64 (-1)))]) fun e =>
oh (evSt 4 a e h) fun _ h27 =>
(ob (evLd true 4 a h27) fun r0 =>
 yo h27 (.tup [r0, (.bool true)])))
 ((y93 b a d h))
def y2bc := KK4 y6d 1 2 11 16
theorem y1sy : T1 yx6 yw (y6 0 yw xN) [.cell 2 true 4, .t 3] y2bc := fun s => (y1t rfl (y1md s)).trans (by kernel_rfl)
def y9f (b c a : AV) (h : Heap) : OX :=
ob (yb .eql a (.int .i64 2)) fun g =>
cnd g
 ((y6d b c a g h))
 (ob (yb .eql a (.int .i64 3)) fun d =>
cnd d
 ((y6d b c a d h))
 (ob (yb .eql a (.int .i64 20)) fun e =>
cnd e
 ((y6d b c a e h))
 (ob (yb .eql a (.int .i64 32)) fun i =>
(y6d b c a i h))))
def y2b4 := KK3 y9f 1 2 11
theorem y1my : T1 yvn yw (y6 0 yw xN) [.cell 2 true 4, .t 3] y2b4 := sq y1sy fun _ => by kernel_rfl
def y73 (b a c d : AV) (h : Heap) : OX :=
cnd d
 (ob (yq zq6 [(0, 1, (.int .i64 0)), (1, 1, (.int .i64 (-1))), (2, 1, (.int .i64 (-1))), (3, 1, (.int .i64 (-1)))]) fun e =>
oh (evSt 4 a e h) fun _ h28 =>
(ob (evLd true 4 a h28) fun r0 =>
 yo h28 (.tup [r0, (.bool true)])))
 ((y9f b a c h))
def y2gq := KK4 y73 1 2 11 12
theorem y1go : T1 yyb yw (y6 0 yw xN) [.cell 2 true 4, .t 3] y2gq := fun s => (y1t rfl (y1my s)).trans (by kernel_rfl)
def y9k (b c a : AV) (h : Heap) : OX :=
ob (yb .eql a (.int .i64 1)) fun d =>
cnd d
 ((y73 b c a d h))
 (ob (yb .eql a (.int .i64 18)) fun e =>
(y73 b c a e h))
def y1nx := KK3 y9k 1 2 11
theorem y1oo : T1 y136 yw (y6 0 yw xN) [.cell 2 true 4, .t 3] y1nx := sq y1go fun _ => by kernel_rfl
theorem y1gp : T1 yyu yw xN [.cell 2 true 4, .t 3] y1nx := fun s => y11.trans (y1oo s)
def y8s (a d : AV) (h : Heap) : OX :=
ob (evFa 0 a) fun c =>
ob (evLd false 1 c h) fun b =>
(y9k a d b h)
def y1tj := KK2 y8s 1 2
theorem y1fa : T1 yzl yw xN [.cell 2 true 4, .t 3] y1tj := sq y1gp fun _ => by kernel_rfl
theorem y188 : T0 y0l [.cell 2 true 4, .t 3] y1tj := sq y237 y1fa
def y8q (b : AV) (h : Heap) : OX :=
oh (newC 0 (some 0) (cellsOf b) h) fun c h29 =>
oh (newC 0 (some 1) zq6 h29) fun a h30 =>
(y8s c a h30)
def y2c1 := KK1 y8q 0
theorem y1mv : T0 y14z [.cell 2 true 4, .t 3] y2c1 := sq y188 fun _ => by kernel_rfl
@[simp] theorem y2rt : E.pure 47 = true := rfl
theorem y1ba (a : AV) : (yd E).p 47 [a] = y8q a [⟨0, .dead⟩, ⟨0, .dead⟩] :=
 (y1r (cf := y2mg) (by kernel_rfl) rfl).trans ((y1mv _).trans (by kernel_rfl))
def y1h0 (x : AV) (h : Heap) : OX :=
oh (newC 0 (some 0) (cellsOf x) h) fun a h1 =>
ob (evFa 0 a) fun v =>
ob (evLd false 1 v h1) fun k =>
ob (yb .geq k (.int .i64 7)) fun e =>
gb e true (evFa 0 a) fun u =>
gb e true (evLd false 1 u h1) fun y =>
gb e true (yb .leq y (.int .i64 12)) fun n =>
ob (yh e n (.bool false)) fun c =>
gb c false (evFa 0 a) fun j =>
gb c false (evLd false 1 j h1) fun p =>
gb c false (yb .eql p (.int .i64 20)) fun t =>
ob (yh c (.bool true) t) fun d =>
gb d false (evFa 0 a) fun A =>
gb d false (evLd false 1 A h1) fun m =>
gb d false (yb .eql m (.int .i64 21)) fun r =>
ob (yh d (.bool true) r) fun b =>
gb b false (evFa 0 a) fun w =>
gb b false (evLd false 1 w h1) fun B =>
gb b false (yb .eql B (.int .i64 31)) fun l =>
ob (yh b (.bool true) l) fun g =>
gb g false (evLd true 9 a h1) fun o =>
gh g false (yc E (yd E) 0 none true 17 [o] h1) h1 fun i h2 =>
ob (yh g (.bool true) i) fun z =>
(yo h2 z)
def y2ox := KK1 y1h0 0
theorem y1vo : T0 y1tb [.t 2] y2ox := fun _ => by kernel_rfl
@[simp] theorem y2tb : E.pure 18 = true := rfl
theorem y2s7 (a : AV) : (yd E).p 18 [a] = y1h0 a [⟨0, .dead⟩] :=
 (y1r (cf := y2oo) (by kernel_rfl) rfl).trans ((y1vo _).trans (by kernel_rfl))
def yx4 (b : AV) (h : Heap) : OX :=
oh (yl 0 (some 0) 1 0 [(.int .i64 0)] [] h) fun a h1 =>
oh (y1v 0 (some 1) 1 8 a b h1) fun c h2 =>
(yo h2 c)
def y2au := KK1 yx4 0
theorem y1bn : T0 ywx [.t 2] y2au := fun _ => by kernel_rfl
def y13u (a : AV) (h : Heap) : OX :=
ob (yfq 1 false a AV.nils) fun b =>
cnd b
 ((yo h AV.nils))
 ((yx4 a h))
def y2gf := KK1 y13u 0
theorem y1cq : T0 yy5 [.t 2] y2gf := sq y1bn fun _ => by kernel_rfl
def y0g (a : AV) (h : Heap) : OX :=
(y13u a h)
def y27q := KK1 y0g 0
theorem y1f8 : T0 yy7 [.t 2] y27q := sq y1cq fun _ => by kernel_rfl
@[simp] theorem y2ri : E.pure 39 = true := rfl
theorem y2of (a : AV) : (yd E).p 39 [a] = y0g a [⟨0, .dead⟩, ⟨0, .dead⟩] :=
 (y1r (cf := y26n) (by kernel_rfl) rfl).trans ((y1f8 _).trans (by kernel_rfl))
def y29u (k a : AV) (h : Heap) : OX :=
ob (yb .quo a (.int .i64 64)) fun c =>
ob (y10 1 k c) fun b =>
ob (evLd false 1 b h) fun d =>
ob (yb .rem a (.int .i64 64)) fun g =>
ob (yb .shr d g) fun i =>
ob (yb .and i (.int .u64 1)) fun e =>
ob (yb .eql e (.int .u64 1)) fun j =>
(yo h j)
def y2je := KK2 y29u 0 1
theorem y1y4 : T0 y1g3 [.t 4] y2je := fun _ => by kernel_rfl
@[simp] theorem y2s5 : E.pure 83 = true := rfl
theorem y2r4 (a b : AV) : (yd E).p 83 [a, b] = y29u a b [] :=
 (y1r (cf := y2l5) (by kernel_rfl) rfl).trans ((y1y4 _).trans (by kernel_rfl))
def y28t (h : Heap) : OX :=
(yo h (.tup [(.int .i64 0), (.int .i64 0), (.int .i64 0)]))
def y3t := KK0 y28t
theorem y1z7 : T0 y1nz [.t 2, .t 3, .t 4] y3t := fun _ => by kernel_rfl
def y166 (a d : AV) (h : Heap) : OX :=
cnd d
 ((yo h (.tup [(.int .i64 1), (.int .i64 0), (.int .i64 1)])))
 (ob (yb .eql a (.int .i64 117)) fun b =>
cnd b
 ((yo h (.tup [(.int .i64 2), (.int .i64 0), (.int .i64 2)])))
 (ob (yb .eql a (.int .i64 133)) fun c =>
cnd c
 ((yo h (.tup [(.int .i64 1), (.int .i64 0), (.int .i64 2)])))
 (ob (yb .eql a (.int .i64 136)) fun e =>
cnd e
 ((yo h (.tup [(.int .i64 2), (.int .i64 0), (.int .i64 1)])))
 ((y28t h)))))
def y2hx := KK2 y166 5 33
theorem y1xc : T1 y1oq y3t (y6 0 y3t xN) [.t 2, .t 3, .t 4] y2hx := fun _ => by kernel_rfl
def y27z (a : AV) (h : Heap) : OX :=
ob (yb .eql a (.int .i64 116)) fun c =>
cnd c
 ((y166 a c h))
 (ob (yb .eql a (.int .i64 145)) fun d =>
cnd d
 ((y166 a d h))
 (ob (yb .eql a (.int .i64 146)) fun b =>
cnd b
 ((y166 a b h))
 (ob (yb .eql a (.int .i64 147)) fun e =>
(y166 a e h))))
def y2nt := KK1 y27z 5
theorem y1wb : T1 y18x y3t (y6 0 y3t xN) [.t 2, .t 3, .t 4] y2nt := sq y1xc fun _ => by kernel_rfl
def y2fm (a b : AV) (h : Heap) : OX :=
cnd b
 ((yo h (.tup [(.int .i64 2), (.int .i64 2), (.int .i64 1)])))
 ((y27z a h))
def y2l3 := KK2 y2fm 5 31
theorem y1wc : T1 y1c8 y3t (y6 0 y3t xN) [.t 2, .t 3, .t 4] y2l3 := fun s => (y1t rfl (y1wb s)).trans (by kernel_rfl)
def y2c2 (a : AV) (h : Heap) : OX :=
ob (yb .eql a (.int .i64 148)) fun b =>
(y2fm a b h)
def y2lp := KK1 y2c2 5
theorem y1ui : T1 y184 y3t (y6 0 y3t xN) [.t 2, .t 3, .t 4] y2lp := sq y1wc fun _ => by kernel_rfl
def y1d2 (a b : AV) (h : Heap) : OX :=
cnd b
 ((yo h (.tup [(.int .i64 2), (.int .i64 1), (.int .i64 2)])))
 ((y2c2 a h))
def y2or := KK2 y1d2 5 27
theorem y1tp : T1 y1lg y3t (y6 0 y3t xN) [.t 2, .t 3, .t 4] y2or := fun s => (y1t rfl (y1ui s)).trans (by kernel_rfl)
def y2e7 (a : AV) (h : Heap) : OX :=
ob (yb .eql a (.int .i64 121)) fun c =>
cnd c
 ((y1d2 a c h))
 (ob (yb .eql a (.int .i64 123)) fun b =>
cnd b
 ((y1d2 a b h))
 (ob (yb .eql a (.int .i64 125)) fun d =>
(y1d2 a d h)))
def y2pl := KK1 y2e7 5
theorem y200 : T1 y1ie y3t (y6 0 y3t xN) [.t 2, .t 3, .t 4] y2pl := sq y1tp fun _ => by kernel_rfl
def yk8 (a b : AV) (h : Heap) : OX :=
cnd b
 ((yo h (.tup [(.int .i64 2), (.int .i64 2), (.int .i64 2)])))
 ((y2e7 a h))
def y2id := KK2 yk8 5 18
theorem y232 : T1 y1rt y3t (y6 0 y3t xN) [.t 2, .t 3, .t 4] y2id := fun s => (y1t rfl (y200 s)).trans (by kernel_rfl)
def y2ga (a : AV) (h : Heap) : OX :=
ob (yb .eql a (.int .i64 97)) fun e =>
cnd e
 ((yk8 a e h))
 (ob (yb .eql a (.int .i64 101)) fun j =>
cnd j
 ((yk8 a j h))
 (ob (yb .eql a (.int .i64 105)) fun g =>
cnd g
 ((yk8 a g h))
 (ob (yb .eql a (.int .i64 109)) fun d =>
cnd d
 ((yk8 a d h))
 (ob (yb .eql a (.int .i64 113)) fun i =>
cnd i
 ((yk8 a i h))
 (ob (yb .eql a (.int .i64 127)) fun c =>
cnd c
 ((yk8 a c h))
 (ob (yb .eql a (.int .i64 129)) fun b =>
cnd b
 ((yk8 a b h))
 (ob (yb .eql a (.int .i64 131)) fun k =>
(yk8 a k h))))))))
def y2j5 := KK1 y2ga 5
theorem y1us : T1 y1jk y3t (y6 0 y3t xN) [.t 2, .t 3, .t 4] y2j5 := sq y232 fun _ => by kernel_rfl
def y7d (a b : AV) (h : Heap) : OX :=
cnd b
 ((yo h (.tup [(.int .i64 1), (.int .i64 1), (.int .i64 1)])))
 ((y2ga a h))
def y27v := KK2 y7d 5 6
theorem y1jm : T1 ywq y3t (y6 0 y3t xN) [.t 2, .t 3, .t 4] y27v := fun s => (y1t rfl (y1us s)).trans (by kernel_rfl)
def y1q4 (a : AV) (h : Heap) : OX :=
ob (yb .eql a (.int .i64 96)) fun c =>
cnd c
 ((y7d a c h))
 (ob (yb .eql a (.int .i64 100)) fun b =>
cnd b
 ((y7d a b h))
 (ob (yb .eql a (.int .i64 104)) fun d =>
cnd d
 ((y7d a d h))
 (ob (yb .eql a (.int .i64 108)) fun k =>
cnd k
 ((y7d a k h))
 (ob (yb .eql a (.int .i64 112)) fun i =>
cnd i
 ((y7d a i h))
 (ob (yb .eql a (.int .i64 120)) fun j =>
cnd j
 ((y7d a j h))
 (ob (yb .eql a (.int .i64 122)) fun g =>
cnd g
 ((y7d a g h))
 (ob (yb .eql a (.int .i64 124)) fun m =>
cnd m
 ((y7d a m h))
 (ob (yb .eql a (.int .i64 126)) fun l =>
cnd l
 ((y7d a l h))
 (ob (yb .eql a (.int .i64 128)) fun e =>
cnd e
 ((y7d a e h))
 (ob (yb .eql a (.int .i64 130)) fun n =>
(y7d a n h)))))))))))
def y1p2 := KK1 y1q4 5
theorem y1r4 : T1 yvw y3t (y6 0 y3t xN) [.t 2, .t 3, .t 4] y1p2 := sq y1jm fun _ => by kernel_rfl
theorem y1i0 : T1 y158 y3t xN [.t 2, .t 3, .t 4] y1p2 := fun s => y11.trans (y1r4 s)
def y1lb (a : AV) (h : Heap) : OX :=
(y1q4 a h)
def y1iz := KK1 y1lb 0
theorem y18v : T1 y11z y3t xN [.t 2, .t 3, .t 4] y1iz := sq y1i0 fun _ => by kernel_rfl
theorem y1kl : T0 y11u [.t 2, .t 3, .t 4] y1iz := sq y1z7 y18v
def y1jw (a : AV) (h : Heap) : OX :=
(y1lb a h)
def y2a8 := KK1 y1jw 0
theorem y1g6 : T0 y143 [.t 2, .t 3, .t 4] y2a8 := sq y1kl fun _ => by kernel_rfl
@[simp] theorem y2u9 : E.pure 50 = true := rfl
theorem y2t4 (a : AV) : (yd E).p 50 [a] = y1jw a [] :=
 (y1r (cf := y2jt) (by kernel_rfl) rfl).trans ((y1g6 _).trans (by kernel_rfl))
def q2_1 (b : AV) (h : Heap) : OX :=
ob (yb .neq b (AV.str [])) fun a =>
gb a true (some b) fun j =>
gh a true (yc E (yd E) 0 none true 44 [j] h) h fun d h1 =>
gb a true (some b) fun c =>
gb a true (y17 0 c h1) fun e =>
gb a true (yb .eql d e) fun i =>
ob (yh a i (.bool false)) fun g =>
(yo h1 g)
def y2rs := KK1 q2_1 0
theorem y2ca : T0 y24v [.t 2] y2rs := fun _ => by kernel_rfl
@[simp] theorem y2ts : E.pure 37 = true := rfl
theorem x_q2 (a : AV) : (yd E).p 37 [a] = q2_1 a [] :=
 (y1r (cf := c_q2) (by kernel_rfl) rfl).trans ((y2ca _).trans (by kernel_rfl))
def yte (a : AV) (h : Heap) : OX :=
ob (yq zq6 []) fun b =>
oh (evSt 4 a b h) fun _ h1 =>
(ob (evLd true 4 a h1) fun r0 =>
 yo h1 (.tup [r0, (.bool false)]))
def y2i := KK1 yte 2
theorem y21p : T0 y1n9 [.cell 2 true 4, .t 3] y2i := fun _ => by kernel_rfl
def yqq (c b l : AV) (h : Heap) : OX :=
ob (yq zq6 [(0, 1, (.int .i64 (-1))), (1, 1, (.int .i64 3)), (2, 1, l), (3, 1, (.int .i64 (-1)))]) fun g =>
ob (evFa 5 c) fun e =>
ob (evLd false 1 e h) fun i =>
ob (yb .eql i (.int .i64 0)) fun a =>
ofp (fgd a false (some ([], []))) fun f6 =>
gb a false (evFa 5 c) fun d =>
ofp (fgd a false (some (ids1 d, []))) fun f7 =>
gb a false (evLd false 1 d h) fun k =>
ofp (fgd a false (some ([], []))) fun f8 =>
gb a false (yb .eql k (.int .i64 1)) fun m =>
ob (yh a (.bool true) m) fun j =>
oh (evSt 4 b g h) fun _ h2 =>
okK (y1o [([], []), ([], []), ([], []), (ids1 e, []), ([], []), ([], []), f6, f7, f8, ([], []), ([], ids1 b), ([], [])] [(7, 10)]) <|
(ob (evLd true 4 b h2) fun r0 =>
 yo h2 (.tup [r0, j]))
def y2ne := KK3 yqq 1 2 4
theorem y1yg : T1 y1gj y2i (y6 0 y2i xN) [.cell 2 true 4, .t 3] y2ne := fun _ => by kernel_rfl
def yu8 (a b e : AV) (h : Heap) : OX :=
ob (evFa 3 a) fun d =>
ob (evLd false 1 d h) fun c =>
ob (yb .neq c (.int .i64 (-1))) fun g =>
cnd g
 ((yqq a b (.int .i64 3) h))
 ((yqq a b e h))
def y2mr := KK3 yu8 1 2 4
theorem y20n : T1 y19e y2i (y6 0 y2i xN) [.cell 2 true 4, .t 3] y2mr := sq y1yg fun _ => by kernel_rfl
def yun (b a : AV) (h : Heap) : OX :=
(yu8 b a (.int .i64 (-1)) h)
def y2jp := KK2 yun 1 2
theorem y21a : T1 y1oj y2i (y6 0 y2i xN) [.cell 2 true 4, .t 3] y2jp := sq y20n fun _ => by kernel_rfl
def ypz (a b : AV) (h : Heap) : OX :=
ob (yq zq6 [(0, 1, (.int .i64 (-1))), (1, 1, b), (2, 1, (.int .i64 (-1))), (3, 1, (.int .i64 (-1)))]) fun c =>
oh (evSt 4 a c h) fun _ h3 =>
(ob (evLd true 4 a h3) fun r0 =>
 yo h3 (.tup [r0, (.bool true)]))
def y2oj := KK2 ypz 2 5
theorem y1y6 : T1 y1bb y2i (y6 0 y2i xN) [.cell 2 true 4, .t 3] y2oj := fun _ => by kernel_rfl
def yuq (d a g : AV) (h : Heap) : OX :=
ob (evFa 2 d) fun c =>
ob (evLd false 1 c h) fun e =>
ob (yb .neq e (.int .i64 (-1))) fun b =>
cnd b
 ((ypz a (.int .i64 0) h))
 ((ypz a g h))
def y2pp := KK3 yuq 1 2 5
theorem y201 : T1 y1mt y2i (y6 0 y2i xN) [.cell 2 true 4, .t 3] y2pp := sq y1y6 fun _ => by kernel_rfl
def ysu (b a : AV) (h : Heap) : OX :=
(yuq b a (.int .i64 (-1)) h)
def y2ie := KK2 ysu 1 2
theorem y1z3 : T1 y1ci y2i (y6 0 y2i xN) [.cell 2 true 4, .t 3] y2ie := sq y201 fun _ => by kernel_rfl
def ys1 (d i A : AV) (h : Heap) : OX :=
ob (evFa 0 d) fun p =>
ob (evLd false 1 p h) fun n =>
ob (yb .eql n (.int .i64 23)) fun g =>
gb g false (evFa 0 d) fun I =>
gb g false (evLd false 1 I h) fun H =>
gb g false (yb .eql H (.int .i64 26)) fun o =>
ob (yh g (.bool true) o) fun e =>
gb e false (evFa 8 d) fun x =>
gb e false (evLd false 1 x h) fun r =>
gb e false (y17 1 r h) fun u =>
gb e false (yb .gtr u (.int .i64 0)) fun z =>
ob (yh e (.bool true) z) fun a =>
ob (yq zq6 [(0, 1, A), (1, 1, (.int .i64 (-1))), (2, 1, (.int .i64 (-1))), (3, 1, (.int .i64 (-1)))]) fun t =>
ofp (fgd a true (some ([], []))) fun f4 =>
gb a true (evFa 5 d) fun m =>
ofp (fgd a true (some (ids1 m, []))) fun f5 =>
gb a true (evLd false 1 m h) fun w =>
ofp (fgd a true (some ([], []))) fun f6 =>
gb a true (yb .geq w (.int .i64 0)) fun F =>
ofp (fgd a true (some ([], []))) fun f7 =>
gb a true (some F) fun c =>
ofp (fgd c false (some ([], []))) fun f8 =>
gb c false (evFa 0 d) fun k =>
ofp (fgd c false (some (ids1 k, []))) fun f9 =>
gb c false (evLd false 1 k h) fun y =>
ofp (fgd c false (some ([], []))) fun f10 =>
gb c false (yb .eql y (.int .i64 25)) fun B =>
ofp (fgd a true (some ([], []))) fun f11 =>
gb a true (yh c (.bool true) B) fun C =>
ob (yh a C (.bool false)) fun b =>
ofp (fgd b true (some ([], []))) fun f14 =>
gb b true (evFa 8 d) fun l =>
ofp (fgd b true (some (ids1 l, []))) fun f15 =>
gb b true (evLd false 1 l h) fun j =>
ofp (fgd b true (some (ids1 j, []))) fun f16 =>
gb b true (y17 1 j h) fun D =>
ofp (fgd b true (some ([], []))) fun f17 =>
gb b true (yb .leq D (.int .i64 21)) fun G =>
ob (yh b G (.bool false)) fun v =>
oh (evSt 4 i t h) fun _ h4 =>
okK (y1o [([], []), ([], []), ([], []), ([], []), f4, f5, f6, f7, f8, f9, f10, f11, ([], []), ([], []), f14, f15, f16, f17, ([], []), ([], ids1 i), ([], [])] [(15, 19), (16, 19)]) <|
(ob (evLd true 4 i h4) fun r0 =>
 yo h4 (.tup [r0, v]))
def y2lg := KK3 ys1 1 2 6
theorem y23o : T1 y1hk y2i (y6 0 y2i xN) [.cell 2 true 4, .t 3] y2lg := fun _ => by kernel_rfl
def yu6 (a b g : AV) (h : Heap) : OX :=
ob (evFa 1 a) fun d =>
ob (evLd false 1 d h) fun e =>
ob (yb .neq e (.int .i64 (-1))) fun c =>
cnd c
 ((ys1 a b (.int .i64 0) h))
 ((ys1 a b g h))
def y2nz := KK3 yu6 1 2 6
theorem y1vb : T1 y1h1 y2i (y6 0 y2i xN) [.cell 2 true 4, .t 3] y2nz := sq y23o fun _ => by kernel_rfl
def yiv (b a : AV) (h : Heap) : OX :=
(yu6 b a (.int .i64 (-1)) h)
def y2dp := KK2 yiv 1 2
theorem y1rz : T1 yv8 y2i (y6 0 y2i xN) [.cell 2 true 4, .t 3] y2dp := sq y1vb fun _ => by kernel_rfl
def ybr (c a b : AV) (h : Heap) : OX :=
cnd b
 ((yiv c a h))
 ((yte a h))
def y284 := KK3 ybr 1 2 32
theorem y1ij : T1 y14x y2i (y6 0 y2i xN) [.cell 2 true 4, .t 3] y284 := fun s => (y1t (y1rz s) rfl).trans (by kernel_rfl)
def yj6 (a c b : AV) (h : Heap) : OX :=
ob (yb .eql b (.int .i64 23)) fun d =>
cnd d
 ((ybr a c d h))
 (ob (yb .eql b (.int .i64 24)) fun e =>
cnd e
 ((ybr a c e h))
 (ob (yb .eql b (.int .i64 25)) fun g =>
cnd g
 ((ybr a c g h))
 (ob (yb .eql b (.int .i64 26)) fun i =>
(ybr a c i h))))
def y2bq := KK3 yj6 1 2 9
theorem y1aq : T1 yvs y2i (y6 0 y2i xN) [.cell 2 true 4, .t 3] y2bq := sq y1ij fun _ => by kernel_rfl
def yjh (b a c d : AV) (h : Heap) : OX :=
cnd d
 ((ysu b a h))
 ((yj6 b a c h))
def y297 := KK4 yjh 1 2 9 25
theorem y1ha : T1 y130 y2i (y6 0 y2i xN) [.cell 2 true 4, .t 3] y297 := fun s => (y1t (y1z3 s) (y1aq s)).trans (by kernel_rfl)
def yh4 (c b a : AV) (h : Heap) : OX :=
ob (yb .eql a (.int .i64 30)) fun d =>
(yjh c b a d h)
def y2cn := KK3 yh4 1 2 9
theorem y1kt : T1 y14d y2i (y6 0 y2i xN) [.cell 2 true 4, .t 3] y2cn := sq y1ha fun _ => by kernel_rfl
def yhx (b a c d : AV) (h : Heap) : OX :=
cnd d
 ((yun b a h))
 ((yh4 b a c h))
def y2a1 := KK4 yhx 1 2 9 10
theorem y1gi : T1 y0u y2i (y6 0 y2i xN) [.cell 2 true 4, .t 3] y2a1 := fun s => (y1t (y21a s) (y1kt s)).trans (by kernel_rfl)
def yhz (d c a : AV) (h : Heap) : OX :=
ob (yb .eql a (.int .i64 29)) fun b =>
(yhx d c a b h)
def y1f9 := KK3 yhz 1 2 9
theorem y1jd : T1 y147 y2i (y6 0 y2i xN) [.cell 2 true 4, .t 3] y1f9 := sq y1gi fun _ => by kernel_rfl
theorem y1km : T1 yz0 y2i xN [.cell 2 true 4, .t 3] y1f9 := fun s => y11.trans (y1jd s)
def yi3 (a d : AV) (h : Heap) : OX :=
ob (evFa 0 a) fun c =>
ob (evLd false 1 c h) fun b =>
(yhz a d b h)
def y1rm := KK2 yi3 1 2
theorem y1p7 : T1 yx7 y2i xN [.cell 2 true 4, .t 3] y1rm := sq y1km fun _ => by kernel_rfl
theorem y1cc : T0 y14h [.cell 2 true 4, .t 3] y1rm := sq y21p y1p7
def yi7 (b : AV) (h : Heap) : OX :=
oh (newC 0 (some 0) (cellsOf b) h) fun c h5 =>
oh (newC 0 (some 1) zq6 h5) fun a h6 =>
(yi3 c a h6)
def y2d7 := KK1 yi7 0
theorem y1dj : T0 y112 [.cell 2 true 4, .t 3] y2d7 := sq y1cc fun _ => by kernel_rfl
@[simp] theorem y2tu : E.pure 51 = true := rfl
theorem y1x4 (a : AV) : (yd E).p 51 [a] = yi7 a [⟨0, .dead⟩, ⟨0, .dead⟩] :=
 (y1r (cf := y2im) (by kernel_rfl) rfl).trans ((y1dj _).trans (by kernel_rfl))
def q3_1 (h : Heap) : OX :=
(yo h (.int .i64 0))
def y3i := KK0 q3_1
theorem y28h : T0 y26i [.t 2] y3i := fun _ => by kernel_rfl
def y1dq (c b a : AV) (h : Heap) : OX :=
 W E 0 ysn ⟨[(0, c), (3, b), (4, a)], h⟩ y3i (y6 3 y3i (y6 2 y3i xN)) (finP [.t 2])
def ym6 := KK3 y1dq 0 3 4
theorem y0c : T1 ysn y3i (y6 3 y3i (y6 2 y3i xN)) [.t 2] ym6 := fun s => yu.trans (by kernel_rfl)
def q3_3 (c b a : AV) (h : Heap) : OX :=
ob (yb .add a (.int .i64 1)) fun d =>
(y1dq c b d h)
def yk6 := KK3 q3_3 0 3 4
theorem y2da : T1 y251 ym6 (y6 3 y3i (y6 2 y3i xN)) [.t 2] yk6 := fun _ => by kernel_rfl
def q3_4 (h : Heap) : OX :=
(yo h (.int .i64 0))
def y2tx := KK0 q3_4
theorem y2cl : T1 y26t yk6 (y6 4 yk6 (y6 3 y3i (y6 2 y3i xN))) [.t 2] y2tx := fun _ => by kernel_rfl
def q3_5 (i c a : AV) (h : Heap) : OX :=
ob (yb .add c (.int .i64 1)) fun e =>
ob (y1io i (some e) (some a)) fun b =>
oh (yc E (yd E) 0 none true 60 [b, (.bool false)] h) fun g h1 =>
cnd g
 (ob (yb .add a (.int .i64 1)) fun d =>
(yo h1 d))
 ((q3_4 h1))
def y2sy := KK3 q3_5 0 3 4
theorem y2ge : T1 y275 yk6 (y6 4 yk6 (y6 3 y3i (y6 2 y3i xN))) [.t 2] y2sy := sq y2cl fun _ => by kernel_rfl
def q3_6 (c b a d : AV) (h : Heap) : OX :=
cnd d
 ((q3_5 c b a h))
 ((q3_3 c b a h))
def y2qw := KK4 q3_6 0 3 4 46
theorem y288 : T1 y25g yk6 (y6 4 yk6 (y6 3 y3i (y6 2 y3i xN))) [.t 2] y2qw := fun s => (y1t (y2ge s) rfl).trans (by kernel_rfl)
def q3_7 (b c a : AV) (h : Heap) : OX :=
ob (yaz b a) fun e =>
ob (yb .eql e (.int .u8 59)) fun d =>
(q3_6 b c a d h)
def y2eh := KK3 q3_7 0 3 4
theorem y2h7 : T1 y26x yk6 (y6 4 yk6 (y6 3 y3i (y6 2 y3i xN))) [.t 2] y2eh := sq y288 fun _ => by kernel_rfl
theorem y29f : T1 y26h yk6 (y6 3 y3i (y6 2 y3i xN)) [.t 2] y2eh := fun s => y11.trans (y2h7 s)
theorem y2gw : T1 y25n ym6 (y6 3 y3i (y6 2 y3i xN)) [.t 2] y2eh := sq y2da y29f
def y16g (b d a : AV) (h : Heap) : OX :=
ob (y17 0 b h) fun c =>
ob (yb .lss a c) fun e =>
cnd e
 ((q3_7 b d a h))
 ((q3_1 h))
def y2i7 := KK3 y16g 0 3 4
theorem y21m : T1 y1ae ym6 (y6 3 y3i (y6 2 y3i xN)) [.t 2] y2i7 := sq y2gw fun _ => by kernel_rfl
theorem yz4 (c b a : AV) (h : Heap) : y1dq c b a h = (y16g c b a h) :=
 y27.trans ((y1q _ _ _ (n' := ym6) (fun s => y0c s)).trans ((y21m _).trans (by kernel_rfl)))
theorem y1zr : T1 y1sd y3i (y6 2 y3i xN) [.t 2] ym6 := fun s => y11.trans (y0c s)
def y283 (b a : AV) (h : Heap) : OX :=
ob (yb .add a (.int .i64 1)) fun c =>
(y1dq b a c h)
def y2iq := KK2 y283 0 3
theorem y1wh : T1 y1ta y3i (y6 2 y3i xN) [.t 2] y2iq := sq y1zr fun _ => by kernel_rfl
def y1xu (c a b : AV) (h : Heap) : OX :=
cnd b
 ((y283 c a h))
 ((q3_1 h))
def y2k1 := KK3 y1xu 0 3 33
theorem y20j : T1 y19a y3i (y6 2 y3i xN) [.t 2] y2k1 := fun s => (y1t (y1wh s) rfl).trans (by kernel_rfl)
def y23p (b a c : AV) (h : Heap) : OX :=
ob (yb .eql c (.int .u8 76)) fun d =>
(y1xu b a d h)
def y2m1 := KK3 y23p 0 3 27
theorem y1z8 : T1 y1nh y3i (y6 2 y3i xN) [.t 2] y2m1 := sq y20j fun _ => by kernel_rfl
def ytl (e a b c : AV) (h : Heap) : OX :=
cnd c
 (ob (yb .add a (.int .i64 1)) fun d =>
(yo h d))
 ((y23p e a b h))
def y2iw := KK4 ytl 0 3 27 28
theorem y1xj : T1 y1si y3i (y6 2 y3i xN) [.t 2] y2iw := fun s => (y1t rfl (y1z8 s)).trans (by kernel_rfl)
def y17b (d c a : AV) (h : Heap) : OX :=
ob (yb .eql a (.int .u8 73)) fun b =>
cnd b
 ((ytl d c a b h))
 (ob (yb .eql a (.int .u8 74)) fun e =>
(ytl d c a e h))
def y254 := KK3 y17b 0 3 27
theorem y1w0 : T1 y1in y3i (y6 2 y3i xN) [.t 2] y254 := sq y1xj fun _ => by kernel_rfl
theorem y1y8 : T1 y1nc y3i xN [.t 2] y254 := fun s => y11.trans (y1w0 s)
def y16p (b a : AV) (h : Heap) : OX :=
ob (yaz b a) fun c =>
(y17b b a c h)
def y26k := KK2 y16p 0 3
theorem y229 : T1 y1nk y3i xN [.t 2] y26k := sq y1y8 fun _ => by kernel_rfl
theorem y22n : T0 y1k9 [.t 2] y26k := sq y28h y229
def yk2 (c b : AV) (h : Heap) : OX :=
ob (yb .gtr b (.int .i64 8)) fun a =>
gb a false (some b) fun j =>
gb a false (some c) fun g =>
gb a false (y17 0 g h) fun e =>
gb a false (yb .eql j e) fun i =>
ob (yh a (.bool true) i) fun d =>
cnd d
 ((yo h (.int .i64 0)))
 ((y16p c b h))
def yfb := KK2 yk2 0 3
theorem y1vk : T0 y1nr [.t 2] yfb := sq y22n fun _ => by kernel_rfl
def ys6 (b a : AV) (h : Heap) : OX :=
 W E 0 yng ⟨[(0, b), (3, a)], h⟩ yfb (y6 0 yfb xN) (finP [.t 2])
def yec := KK2 ys6 0 3
theorem yrd : T1 yng yfb (y6 0 yfb xN) [.t 2] yec := fun s => yu.trans (by kernel_rfl)
def y2cy (b a : AV) (h : Heap) : OX :=
ob (yb .add a (.int .i64 1)) fun c =>
(ys6 b c h)
def y2o8 := KK2 y2cy 0 3
theorem y1yd : T1 y1p4 yec (y6 0 yfb xN) [.t 2] y2o8 := fun _ => by kernel_rfl
def y1fi (c b : AV) (h : Heap) : OX :=
ob (y17 0 c h) fun d =>
ob (yb .lss b d) fun a =>
gb a true (some c) fun j =>
gb a true (some b) fun g =>
gb a true (yaz j g) fun i =>
gb a true (yb .eql i (.int .u8 91)) fun e =>
ob (yh a e (.bool false)) fun k =>
cnd k
 ((y2cy c b h))
 ((yk2 c b h))
def y2ng := KK2 y1fi 0 3
theorem y23y : T1 y1mg yec (y6 0 yfb xN) [.t 2] y2ng := sq y1yd fun _ => by kernel_rfl
theorem yre (b a : AV) (h : Heap) : ys6 b a h = (y1fi b a h) :=
 y27.trans ((y1q _ _ _ (n' := yec) (fun s => yrd s)).trans ((y23y _).trans (by kernel_rfl)))
theorem y246 : T1 y1gs yfb xN [.t 2] yec := fun s => y11.trans (yrd s)
theorem y21d : T0 y1h3 [.t 2] yec := sq y1vk y246
def y2bo (a : AV) (h : Heap) : OX :=
(ys6 a (.int .i64 0) h)
def y2p7 := KK1 y2bo 0
theorem y238 : T0 y1ru [.t 2] y2p7 := sq y21d fun _ => by kernel_rfl
def y292 (a : AV) (h : Heap) : OX :=
(y2bo a h)
def y2lk := KK1 y292 0
theorem y1u9 : T0 y1jx [.t 2] y2lk := sq y238 fun _ => by kernel_rfl
@[simp] theorem y2ry : E.pure 44 = true := rfl
theorem x_q3 (a : AV) : (yd E).p 44 [a] = y292 a [] :=
 (y1r (cf := c_q3) (by kernel_rfl) rfl).trans ((y1u9 _).trans (by kernel_rfl))
def q1_1 (h : Heap) : OX :=
(yo h (.bool true))
def yjn := KK0 q1_1
theorem y2gm : T0 y25f [.t 4] yjn := fun _ => by kernel_rfl
def y1jo (c a d b : AV) (h : Heap) : OX :=
 W E 0 ytk ⟨[(1, c), (17, a), (18, d), (19, b)], h⟩ yjn (y6 0 yjn xN) (finP [.t 4])
def yjp := KK4 y1jo 1 17 18 19
theorem ywu : T1 ytk yjn (y6 0 yjn xN) [.t 4] yjp := fun s => yu.trans (by kernel_rfl)
def q1_3 (a e b d : AV) (h : Heap) : OX :=
ob (yb .add d (.int .i64 1)) fun c =>
(y1jo a e b c h)
def y2rn := KK4 q1_3 1 17 18 19
theorem y281 : T1 y27k yjp (y6 0 yjn xN) [.t 4] y2rn := fun _ => by kernel_rfl
def q1_4 (p r z o : AV) (h : Heap) : OX :=
ob (y10 1 r o) fun O =>
ob (evLd false 1 O h) fun a =>
ob (yb .geq a (.int .u8 97)) fun g =>
gb g true (some a) fun R =>
gb g true (yb .leq R (.int .u8 122)) fun A =>
ob (yh g A (.bool false)) fun b =>
gb b false (some a) fun t =>
gb b false (yb .geq t (.int .u8 65)) fun G =>
gb b false (some G) fun m =>
gb m true (some a) fun C =>
gb m true (yb .leq C (.int .u8 90)) fun Z =>
gb b false (yh m Z (.bool false)) fun J =>
ob (yh b (.bool true) J) fun c =>
gb c false (some a) fun H =>
gb c false (yb .geq H (.int .u8 48)) fun M =>
gb c false (some M) fun i =>
gb i true (some a) fun u =>
gb i true (yb .leq u (.int .u8 57)) fun Y =>
gb c false (yh i Y (.bool false)) fun I =>
ob (yh c (.bool true) I) fun n =>
gb n false (some a) fun w =>
gb n false (yb .eql w (.int .u8 95)) fun S =>
ob (yh n (.bool true) S) fun l =>
gb l false (some a) fun D =>
gb l false (yb .eql D (.int .u8 36)) fun L =>
ob (yh l (.bool true) L) fun j =>
gb j false (some a) fun N =>
gb j false (yb .eql N (.int .u8 47)) fun K =>
ob (yh j (.bool true) K) fun P =>
ob (evUn .not P) fun d =>
gb d true (some p) fun X =>
gb d true (some X) fun e =>
gb e true (some a) fun B =>
gb e true (yb .eql B (.int .u8 60)) fun Q =>
gb e true (some Q) fun k =>
gb k false (some a) fun U =>
gb k false (yb .eql U (.int .u8 62)) fun y =>
gb e true (yh k (.bool true) y) fun x =>
gb d true (yh e x (.bool false)) fun F =>
gb d true (evUn .not F) fun v =>
ob (yh d v (.bool false)) fun V =>
cnd V
 ((yo h (.bool false)))
 ((q1_3 p r z o h))
def y2t3 := KK4 q1_4 1 17 18 19
theorem y290 : T1 y26y yjp (y6 0 yjn xN) [.t 4] y2t3 := sq y281 fun _ => by kernel_rfl
def q1_5 (a d b c e : AV) (h : Heap) : OX :=
cnd e
 ((q1_4 a d b c h))
 ((q1_1 h))
def y2t1 := KK5 q1_5 1 17 18 19 20
theorem y2a2 : T1 y25h yjp (y6 0 yjn xN) [.t 4] y2t1 := sq y290 fun _ => by kernel_rfl
def q1_6 (c d a b : AV) (h : Heap) : OX :=
ob (yb .lss b a) fun e =>
(q1_5 c d a b e h)
def y2si := KK4 q1_6 1 17 18 19
theorem y2ap : T1 y24y yjp (y6 0 yjn xN) [.t 4] y2si := sq y2a2 fun _ => by kernel_rfl
theorem y11q (c a d b : AV) (h : Heap) : y1jo c a d b h = (q1_6 c a d b h) :=
 y27.trans ((y1q _ _ _ (n' := yjp) (fun s => ywu s)).trans ((y2ap _).trans (by kernel_rfl)))
theorem y2dv : T1 y25z yjn xN [.t 4] yjp := fun s => y11.trans (ywu s)
def q1_8 (b d : AV) (h : Heap) : OX :=
oh (s2bC 0 (some 0) b h) fun a h1 =>
ob (y17 1 a h1) fun c =>
(y1jo d a c (.int .i64 0) h1)
def y2jv := KK2 q1_8 0 1
theorem y29t : T1 y274 yjn xN [.t 4] y2jv := sq y2dv fun _ => by kernel_rfl
theorem y2bh : T0 y260 [.t 4] y2jv := sq y2gm y29t
def y1qn (b c : AV) (h : Heap) : OX :=
ob (y17 0 b h) fun d =>
ob (yb .lss d (.int .i64 1)) fun a =>
gb a false (some b) fun g =>
gb a false (y17 0 g h) fun e =>
gb a false (yb .gtr e (.int .i64 60)) fun j =>
ob (yh a (.bool true) j) fun i =>
cnd i
 ((yo h (.bool false)))
 ((q1_8 b c h))
def y2oc := KK2 y1qn 0 1
theorem y23h : T0 y1c6 [.t 4] y2oc := sq y2bh fun _ => by kernel_rfl
def y1n6 (a b : AV) (h : Heap) : OX :=
(y1qn a b h)
def y2kq := KK2 y1n6 0 1
theorem y241 : T0 y1n0 [.t 4] y2kq := sq y23h fun _ => by kernel_rfl
@[simp] theorem y2so : E.pure 60 = true := rfl
theorem x_q1 (a b : AV) : (yd E).p 60 [a, b] = y1n6 a b [⟨0, .dead⟩] :=
 (y1r (cf := c_q1) (by kernel_rfl) rfl).trans ((y241 _).trans (by kernel_rfl))
end
end Go.Vm
