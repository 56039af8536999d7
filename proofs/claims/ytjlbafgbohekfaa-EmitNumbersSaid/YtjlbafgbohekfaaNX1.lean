/- Functions of the machine as plain functions that go on with what follows. -/
import Derived.Test.YtjlbafgbohekfaaNEnv
set_option linter.unusedSimpArgs false
set_option linter.unusedVariables false
set_option linter.unusedSectionVars false
namespace Go.Vm
noncomputable section
def y1gs (u c : AV) (h : Heap) : OX :=
ob (evLd true 9 c h) fun t =>
oh (yc E (yd E) 0 none true 22 [t] h) fun d h1 =>
ob (evUn .not d) fun b =>
gb b false (evFa 6 c) fun o =>
gb b false (evLd false 1 o h1) fun r =>
gb b false (yb .geq r (.int .i64 0)) fun i =>
gb b false (some i) fun a =>
gb a true (evFa 6 c) fun e =>
gb a true (evLd false 1 e h1) fun n =>
gb a true (evFa 3 u) fun j =>
gb a true (evLd false 1 j h1) fun k =>
gb a true (y17 1 k h1) fun l =>
gb a true (yb .lss n l) fun m =>
gb b false (yh a m (.bool false)) fun g =>
ob (yh b (.bool true) g) fun p =>
(yo h1 p)
def y2hw := KK2 y1gs 2 3
theorem y1wh : T0 y1lr [.t 4] y2hw := fun _ => by kernel_rfl
def y9o (d a : AV) (h : Heap) : OX :=
ob (evFa 0 a) fun b6 =>
ob (evLd false 1 b6 h) fun i =>
ob (yb .eql i (.int .i64 1)) fun N =>
cnd N
 (ob (evFa 0 d) fun z =>
ob (evLd false 1 z h) fun a3 =>
ob (evFa 1 a) fun a1 =>
ob (evLd false 1 a1 h) fun X =>
ob (y10 1 a3 X) fun R =>
ob (evLd false 1 R h) fun b8 =>
ob (yb .neq b8 (.int .i64 3)) fun b =>
gb b true (evFa 0 d) fun F =>
gb b true (evLd false 1 F h) fun c8 =>
gb b true (evFa 1 a) fun t =>
gb b true (evLd false 1 t h) fun Y =>
gb b true (y10 1 c8 Y) fun L =>
gb b true (evLd false 1 L h) fun B =>
gb b true (yb .eql B (.int .i64 2)) fun v =>
gb b true (some v) fun e =>
gb e false (evFa 5 a) fun a5 =>
gb e false (evLd false 1 a5 h) fun c6 =>
gb e false (evFa 5 a) fun j =>
gb e false (evLd false 1 j h) fun a2 =>
gb e false (y80 .i32 a2) fun n =>
gb e false (y80 .i64 n) fun o =>
gb e false (yb .eql c6 o) fun Z =>
gb b true (yh e (.bool true) Z) fun U =>
ob (yh b U (.bool false)) fun r =>
(yo h r))
 (ob (yb .eql i (.int .i64 4)) fun c1 =>
cnd c1
 (ob (evFa 0 d) fun S =>
ob (evLd false 1 S h) fun b1 =>
ob (evFa 1 a) fun y =>
ob (evLd false 1 y h) fun c0 =>
ob (y10 1 b1 c0) fun a0 =>
ob (evLd false 1 a0 h) fun c2 =>
ob (evFa 0 d) fun u =>
ob (evLd false 1 u h) fun b3 =>
ob (evFa 2 a) fun a7 =>
ob (evLd false 1 a7 h) fun A =>
ob (y10 1 b3 A) fun M =>
ob (evLd false 1 M h) fun c5 =>
ob (yb .eql c2 c5) fun V =>
(yo h V))
 (ob (yb .eql i (.int .i64 7)) fun m =>
cnd m
 (ob (evFa 0 d) fun O =>
ob (evLd false 1 O h) fun I =>
ob (evFa 2 a) fun b4 =>
ob (evLd false 1 b4 h) fun a8 =>
ob (y10 1 I a8) fun b9 =>
ob (evLd false 1 b9 h) fun a4 =>
ob (yb .neq a4 (.int .i64 3)) fun w =>
(yo h w))
 (ob (yb .eql i (.int .i64 30)) fun k =>
cnd k
 (ob (evFa 2 a) fun a9 =>
ob (evLd false 1 a9 h) fun a6 =>
ob (yb .eql a6 (.int .i64 (-1))) fun P =>
ob (evFa 2 d) fun b7 =>
ob (evLd false 1 b7 h) fun G =>
ob (yb .eql G (.int .i64 0)) fun Q =>
ob (y1uj false P Q) fun g =>
gb g true (evFa 2 a) fun J =>
gb g true (evLd false 1 J h) fun b0 =>
gb g true (yb .eql b0 (.int .i64 (-1))) fun c3 =>
gb g true (some c3) fun c =>
gb c false (evFa 0 d) fun b5 =>
gb c false (evLd false 1 b5 h) fun H =>
gb c false (evFa 2 a) fun p =>
gb c false (evLd false 1 p h) fun K =>
gb c false (y10 1 H K) fun b2 =>
gb c false (evLd false 1 b2 h) fun x =>
gb c false (evFa 2 d) fun C =>
gb c false (evLd false 1 C h) fun c4 =>
gb c false (yb .eql x c4) fun D =>
gb g true (yh c (.bool true) D) fun c7 =>
ob (yh g c7 (.bool false)) fun l =>
(yo h l))
 ((y1gs d a h)))))
def y6h := KK2 y9o 2 3
theorem y1xm : T0 y1ct [.t 4] y6h := sq y1wh fun _ => by kernel_rfl
def yjc (e a c b d : AV) (h : Heap) : OX :=
 W E 0 yo4 ⟨[(2, e), (3, a), (63, c), (64, b), (65, d)], h⟩ y6h (y6 2 y6h xN) (finP [.t 4])
def ybw := KK5 yjc 2 3 63 64 65
theorem ys2 : T1 yo4 y6h (y6 2 y6h xN) [.t 4] ybw := fun s => yu.trans (by kernel_rfl)
def y1pi (g a c b e : AV) (h : Heap) : OX :=
ob (yb .add e (.int .i64 1)) fun d =>
(yjc g a c b d h)
def yfl := KK5 y1pi 2 3 63 64 65
theorem y1z7 : T1 y1nr ybw (y6 2 y6h xN) [.t 4] yfl := fun _ => by kernel_rfl
def yiq (i g K j k J m : AV) (h : Heap) : OX :=
ob (yb .lss j (.int .i64 0)) fun d =>
gb d false (some j) fun y =>
gb d false (evFa 0 i) fun G =>
gb d false (evLd false 1 G h) fun l =>
gb d false (y17 1 l h) fun F =>
gb d false (yb .geq y F) fun M =>
ob (yh d (.bool true) M) fun a =>
gb a false (some K) fun t =>
gb a false (yb .eql t (.int .i64 0)) fun z =>
gb a false (some z) fun c =>
gb c true (evFa 0 g) fun I =>
gb c true (evLd false 1 I h) fun A =>
gb c true (yb .eql A (.int .i64 24)) fun n =>
gb c true (some n) fun e =>
gb e false (evFa 0 g) fun r =>
gb e false (evLd false 1 r h) fun o =>
gb e false (yb .eql o (.int .i64 25)) fun v =>
gb c true (yh e (.bool true) v) fun p =>
gb a false (yh c p (.bool false)) fun L =>
gb a false (some L) fun b =>
gb b true (evFa 0 i) fun D =>
gb b true (evLd false 1 D h) fun B =>
gb b true (some j) fun N =>
gb b true (y10 1 B N) fun x =>
gb b true (evLd false 1 x h) fun C =>
gb b true (yb .neq C (.int .i64 3)) fun u =>
gb a false (yh b u (.bool false)) fun w =>
ob (yh a (.bool true) w) fun H =>
cnd H
 ((yo h (.bool false)))
 ((y1pi i g k J m h))
def y2le := KK7 yiq 2 3 9 10 63 64 65
theorem y22q : T1 y1sw yfl (y6 3 yfl (y6 2 y6h xN)) [.t 4] y2le := fun _ => by kernel_rfl
def y18n (b a g j i e l : AV) (h : Heap) : OX :=
ob (evLd true 9 a h) fun k =>
oh (yc E (yd E) 0 none true 17 [k] h) fun c h2 =>
ob (evUn .not c) fun d =>
cnd d
 ((y9o b a h2))
 ((yiq b a g j i e l h2))
def y2no := KK7 y18n 2 3 9 10 63 64 65
theorem y1ug : T1 y1ma yfl (y6 3 yfl (y6 2 y6h xN)) [.t 4] y2no := sq y22q fun _ => by kernel_rfl
def y1d8 (i d b e a : AV) (h : Heap) : OX :=
ob (y10 1 b a) fun g =>
ob (evLd false 1 g h) fun c =>
(y18n i d a c b e a h)
def y1rq := KK5 y1d8 2 3 63 64 65
theorem y22r : T1 y1ls yfl (y6 3 yfl (y6 2 y6h xN)) [.t 4] y1rq := sq y1ug fun _ => by kernel_rfl
theorem y234 : T1 y17z yfl (y6 2 y6h xN) [.t 4] y1rq := fun s => y11.trans (y22r s)
theorem y1vb : T1 y1qe ybw (y6 2 y6h xN) [.t 4] y1rq := sq y1z7 y234
def yhm (b a e d g c : AV) (h : Heap) : OX :=
cnd c
 ((y1d8 b a e d g h))
 ((y9o b a h))
def y2b4 := KK6 yhm 2 3 63 64 65 66
theorem y18q : T1 y13w ybw (y6 2 y6h xN) [.t 4] y2b4 := sq y1vb fun _ => by kernel_rfl
def yj2 (g d e a b : AV) (h : Heap) : OX :=
ob (yb .lss b a) fun c =>
(yhm g d e a b c h)
def y2er := KK5 yj2 2 3 63 64 65
theorem y1iz : T1 yxg ybw (y6 2 y6h xN) [.t 4] y2er := sq y18q fun _ => by kernel_rfl
theorem yj9 (e a c b d : AV) (h : Heap) : yjc e a c b d h = (yj2 e a c b d h) :=
 y27.trans ((y1q _ _ _ (n' := ybw) (fun s => ys2 s)).trans ((y1iz _).trans (by kernel_rfl)))
theorem y1gc : T1 y14e y6h xN [.t 4] ybw := fun s => y11.trans (ys2 s)
def yrr (e a : AV) (h : Heap) : OX :=
ob (evFa 8 a) fun d =>
ob (evLd false 1 d h) fun b =>
ob (y17 1 b h) fun c =>
(yjc e a b c (.int .i64 0) h)
def y40 := KK2 yrr 2 3
theorem y1m2 : T1 y14n y6h xN [.t 4] y40 := sq y1gc fun _ => by kernel_rfl
theorem y19q : T0 yws [.t 4] y40 := sq y1xm y1m2
def ycd (a b d c e : AV) (h : Heap) : OX :=
 W E 0 yjr ⟨[(2, a), (3, b), (5, d), (26, c), (27, e)], h⟩ y40 (y6 0 y40 xN) (finP [.t 4])
def y86 := KK5 ycd 2 3 5 26 27
theorem ykq : T1 yjr y40 (y6 0 y40 xN) [.t 4] y86 := fun s => yu.trans (by kernel_rfl)
def ypo (a b e c g : AV) (h : Heap) : OX :=
ob (yb .add g (.int .i64 1)) fun d =>
(ycd a b e c d h)
def yau := KK5 ypo 2 3 5 26 27
theorem y17r : T1 yxj y86 (y6 0 y40 xN) [.t 4] yau := fun _ => by kernel_rfl
def yju (e o d i g r v : AV) (h : Heap) : OX :=
ob (yb .lss g (.int .i64 0)) fun c =>
gb c false (some g) fun n =>
gb c false (evFa 0 e) fun z =>
gb c false (evLd false 1 z h) fun m =>
gb c false (y17 1 m h) fun y =>
gb c false (yb .geq n y) fun x =>
ob (yh c (.bool true) x) fun b =>
gb b false (some i) fun t =>
gb b false (yn8 4 1 d t) fun F =>
gb b false (evLd false 1 F h) fun I =>
gb b false (yb .gtr I (.int .i64 0)) fun u =>
gb b false (some u) fun a =>
gb a true (evFa 0 e) fun H =>
gb a true (evLd false 1 H h) fun k =>
gb a true (some g) fun D =>
gb a true (y10 1 k D) fun B =>
gb a true (evLd false 1 B h) fun G =>
gb a true (some i) fun A =>
gb a true (yn8 4 1 d A) fun C =>
gb a true (evLd false 1 C h) fun w =>
gb a true (yb .neq G w) fun p =>
gb b false (yh a p (.bool false)) fun l =>
ob (yh b (.bool true) l) fun j =>
cnd j
 ((yo h (.bool false)))
 ((ypo e o d r v h))
def y2f1 := KK7 yju 2 3 5 7 8 26 27
theorem y1qi : T1 yzw yau (y6 1 yau (y6 0 y40 xN)) [.t 4] y2f1 := fun _ => by kernel_rfl
def ydf (g b a d i c e : AV) (h : Heap) : OX :=
ob (yn8 4 1 a d) fun k =>
ob (evLd false 1 k h) fun l =>
ob (yb .lss l (.int .i64 0)) fun j =>
cnd j
 ((ypo g b a c e h))
 ((yju g b a d i c e h))
def y2gc := KK7 ydf 2 3 5 7 8 26 27
theorem y1g4 : T1 yxu yau (y6 1 yau (y6 0 y40 xN)) [.t 4] y2gc := sq y1qi fun _ => by kernel_rfl
def y1mz (c d g b a : AV) (h : Heap) : OX :=
ob (yo9 false 4 1 b a) fun e =>
(ydf c d g a e b a h)
def ytz := KK5 y1mz 2 3 5 26 27
theorem y1n3 : T1 yx0 yau (y6 1 yau (y6 0 y40 xN)) [.t 4] ytz := sq y1g4 fun _ => by kernel_rfl
theorem y1dr : T1 yz0 yau (y6 0 y40 xN) [.t 4] ytz := fun s => y11.trans (y1n3 s)
theorem y1fb : T1 yy1 y86 (y6 0 y40 xN) [.t 4] ytz := sq y17r y1dr
def yxm (a b e d g c : AV) (h : Heap) : OX :=
cnd c
 ((y1mz a b e d g h))
 ((yrr a b h))
def y2b6 := KK6 yxm 2 3 5 26 27 28
theorem y1tm : T1 yzp y86 (y6 0 y40 xN) [.t 4] y2b6 := sq y1fb fun _ => by kernel_rfl
def y12w (b c g e a : AV) (h : Heap) : OX :=
ob (yb .lss a (.int .i64 4)) fun d =>
(yxm b c g e a d h)
def y2dk := KK5 y12w 2 3 5 26 27
theorem y1ft : T1 yxo y86 (y6 0 y40 xN) [.t 4] y2dk := sq y1tm fun _ => by kernel_rfl
theorem ykr (a b d c e : AV) (h : Heap) : ycd a b d c e h = (y12w a b d c e h) :=
 y27.trans ((y1q _ _ _ (n' := y86) (fun s => ykq s)).trans ((y1ft _).trans (by kernel_rfl)))
theorem y1sj : T1 yxi y40 xN [.t 4] y86 := fun s => y11.trans (ykq s)
def y1qu (n a k : AV) (h : Heap) : OX :=
ob (evFa 1 a) fun g =>
ob (evLd false 1 g h) fun j =>
ob (evFa 2 a) fun l =>
ob (evLd false 1 l h) fun i =>
ob (evFa 3 a) fun m =>
ob (evLd false 1 m h) fun c =>
ob (evFa 4 a) fun d =>
ob (evLd false 1 d h) fun b =>
ob (yq zq6 [(0, 1, j), (1, 1, i), (2, 1, c), (3, 1, b)]) fun e =>
(ycd n a k e (.int .i64 0) h)
def y1hf := KK3 y1qu 2 3 5
theorem y1rg : T1 y140 y40 xN [.t 4] y1hf := sq y1sj fun _ => by kernel_rfl
theorem y1lc : T0 yzl [.t 4] y1hf := sq y19q y1rg
def y146 (e a c d : AV) (h : Heap) : OX :=
ob (evUn .not d) fun b =>
cnd b
 ((yo h (.bool false)))
 ((y1qu e a c h))
def y2f5 := KK4 y146 2 3 5 6
theorem y1ei : T0 y11r [.t 4] y2f5 := sq y1lc fun _ => by kernel_rfl
def yyb (d a : AV) (h : Heap) : OX :=
ob (evLd true 9 a h) fun i =>
oh (yc E (yd E) 0 none true 47 [i] h) fun c h3 =>
ob (y29 0 c) fun g =>
ob (y29 1 c) fun e =>
oh (newC 0 (some 2) zq6 h3) fun b h4 =>
oh (evSt 4 b g h4) fun _ h5 =>
(y146 d a b e h5)
def y2cd := KK2 yyb 2 3
theorem y17t : T0 y12t [.t 4] y2cd := sq y1ei fun _ => by kernel_rfl
def ypw (a c : AV) (h : Heap) : OX :=
oh (newC 0 (some 0) (cellsOf a) h) fun b h6 =>
oh (newC 0 (some 1) (cellsOf c) h6) fun d h7 =>
(yyb b d h7)
def y2ak := KK2 ypw 0 1
theorem y1sp : T0 yvn [.t 4] y2ak := sq y17t fun _ => by kernel_rfl
@[simp] theorem y2rq : E.pure 63 = true := rfl
theorem y2rw (a b : AV) : (yd E).p 63 [a, b] = ypw a b [⟨0, .dead⟩, ⟨0, .dead⟩, ⟨0, .dead⟩] :=
 (y1r (cf := y2mg) (by kernel_rfl) rfl).trans ((y1sp _).trans (by kernel_rfl))
def y2cj (d : AV) (h : Heap) : OX :=
oh (newC 0 (some 0) (cellsOf d) h) fun c h1 =>
ob (evFa 0 c) fun e =>
ob (evLd false 1 e h1) fun k =>
ob (yb .eql k (.int .i64 27)) fun b =>
gb b false (evFa 0 c) fun m =>
gb b false (evLd false 1 m h1) fun j =>
gb b false (yb .eql j (.int .i64 28)) fun i =>
ob (yh b (.bool true) i) fun a =>
gb a false (evFa 0 c) fun o =>
gb a false (evLd false 1 o h1) fun n =>
gb a false (yb .eql n (.int .i64 29)) fun l =>
ob (yh a (.bool true) l) fun g =>
(yo h1 g)
def y2im := KK1 y2cj 0
theorem y20x : T0 y1i2 [.t 2] y2im := fun _ => by kernel_rfl
@[simp] theorem y2s5 : E.pure 22 = true := rfl
theorem y2sb (a : AV) : (yd E).p 22 [a] = y2cj a [⟨0, .dead⟩] :=
 (y1r (cf := y2kb) (by kernel_rfl) rfl).trans ((y20x _).trans (by kernel_rfl))
def yfd (fb : Nat) (a c b d : AV) (h : Heap) : Option (AV × Heap) :=
 W E fb yon ⟨[(0, a), (1, c), (2, b), (3, d)], h⟩ (finI []) (y6 0 (finI []) xN) (finI [])
def yiu (fb : Nat) := KK4 (yfd fb) 0 1 2 3
theorem yq3 (fb : Nat) (s : St) : W E fb yon s (finI []) (y6 0 (finI []) xN) (finI []) = yiu fb s := yu.trans (by kernel_rfl)
def y23j (fb : Nat) (a b e d : AV) (h : Heap) : Option (AV × Heap) :=
ob (evLd false 1 a h) fun C =>
ob (y10 1 C (.int .i64 0)) fun z =>
ob (evLd false 1 z h) fun g =>
ob (evLd false 1 a h) fun l =>
ob (y75 1 l (some (.int .i64 1)) none) fun B =>
oh (evSt 1 a B h) fun _ h1 =>
ob (evLd false 1 b h1) fun G =>
ob (y2z false [0] (.int .i64 0) false G g h1) fun c =>
ob (evLd false 1 e h1) fun D =>
ob (yq [(.int .i64 0), (.int .i64 0)] [(0, 1, g), (1, 1, c)]) fun o =>
oh (yl fb (some 0) 2 1 [(.int .i64 0), (.int .i64 0)] [(0, o)] h1) fun u h2 =>
oh (y1v fb (some 1) 2 16 D u h2) fun w h3 =>
oh (evSt 1 e w h3) fun _ h4 =>
ob (evLd false 1 b h4) fun k =>
oh (y7c false [0] k g h4) fun _ h5 =>
ob (evLd false 1 d h5) fun j =>
ob (y2z false [0] (.int .i64 0) false j c h5) fun v =>
ob (yb .sub v (.int .i64 1)) fun n =>
oh (y3x false [0] j c n h5) fun _ h6 =>
ob (evLd false 1 d h6) fun m =>
ob (y2z false [0] (.int .i64 0) false m c h6) fun r =>
ob (yb .eql r (.int .i64 0)) fun x =>
cnd x
 (ob (evLd false 1 b h6) fun p =>
ob (y2z false [0] (.int .i64 0) true p c h6) fun i =>
ob (y29 0 i) fun H =>
ob (y29 1 i) fun t =>
cnd t
 (ob (evLd false 1 a h6) fun A =>
oh (yl fb (some 2) 1 1 [(.int .i64 0)] [(0, c)] h6) fun F h7 =>
oh (y1v fb (some 3) 1 8 A F h7) fun y h8 =>
oh (evSt 1 a y h8) fun _ h9 =>
(yfd fb a b e d h9))
 ((yfd fb a b e d h6)))
 ((yfd fb a b e d h6))
def y25l (fb : Nat) := KK4 (y23j fb) 0 1 2 3
theorem y217 (fb : Nat) (s : St) : W E fb y1s2 s (yiu fb) (y6 0 (finI []) xN) (finI []) = y25l fb s :=
 by kernel_rfl
def y27t (fb : Nat) (a e i b : AV) (h : Heap) : Option (AV × Heap) :=
ob (evLd false 1 a h) fun d =>
ob (y17 1 d h) fun c =>
ob (yb .gtr c (.int .i64 0)) fun g =>
cnd g
 ((y23j fb a e i b h))
 ((some ((.tup []), h)))
def y2o0 (fb : Nat) := KK4 (y27t fb) 0 1 2 3
theorem y1z6 (fb : Nat) (s : St) : W E fb y1sk s (yiu fb) (y6 0 (finI []) xN) (finI []) = y2o0 fb s :=
 (y32 (k := (y25l fb)) (fun s => y217 fb s)).trans (by kernel_rfl)
theorem y1r6 (fb : Nat) (a c b d : AV) (h : Heap) : yfd fb a c b d h = (y27t fb a c b d h) :=
 y27.trans ((y1q _ _ _ (n' := (yiu fb)) (fun s => yq3 fb s)).trans ((y1z6 fb _).trans (by kernel_rfl)))
theorem y24c (fb : Nat) (s : St) : W E fb y1q3 s (finI []) xN (finI []) = yiu fb s :=
 y11.trans (yq3 fb s)
@[simp] theorem y2q7 : E.pure 247 = false := rfl
theorem y2sf (fb : Nat) (a c b d : AV) (h : Heap) : (yd E).i 247 [a, c, b, d] fb h = yfd fb a c b d (if fb = h.length then h ++ yj 4 else h) :=
 (y6b (cf := y2ph) (by kernel_rfl) rfl).trans ((y24c fb _).trans (by kernel_rfl))
def y2dq (fb : Nat) (a g : AV) (h : Heap) : Option (AV × Heap) :=
ob (yp a) fun l =>
ob (evFa 0 l) fun j =>
ob (evFa 0 j) fun e =>
ob (evLd false 1 e h) fun d =>
oh (yl fb (some 0) 1 1 [(.int .u32 0)] [(0, g)] h) fun b h1 =>
oh (y1v fb (some 1) 1 4 d b h1) fun m h2 =>
ob (yp a) fun k =>
ob (evFa 0 k) fun i =>
ob (evFa 0 i) fun c =>
oh (evSt 1 c m h2) fun _ h3 =>
(some ((.tup []), h3))
def y2k8 (fb : Nat) := KK2 (y2dq fb) 0 1
theorem y1ur (fb : Nat) (s : St) : W E fb y196 s (finI []) xN (finI []) = y2k8 fb s :=
 by kernel_rfl
@[simp] theorem y2qq : E.pure 242 = false := rfl
theorem y2ue (fb : Nat) (a b : AV) (h : Heap) : (yd E).i 242 [a, b] fb h = y2dq fb a b (if fb = h.length then h ++ yj 2 else h) :=
 (y6b (cf := y2kq) (by kernel_rfl) rfl).trans ((y1ur fb _).trans (by kernel_rfl))
def y1z2 (a : AV) (h : Heap) : OX :=
ob (y80 .u32 a) fun b =>
(yo h b)
def y2ll := KK1 y1z2 0
theorem y1y6 : T0 y1h2 [.t 2] y2ll := fun _ => by kernel_rfl
def y239 (a : AV) (h : Heap) : OX :=
ob (yb .lss a (.int .i64 0)) fun b =>
cnd b
 ((yo h (.int .u32 255)))
 ((y1z2 a h))
def y2or := KK1 y239 0
theorem y1y1 : T0 y1a2 [.t 2] y2or := sq y1y6 fun _ => by kernel_rfl
def y1vi (a : AV) (h : Heap) : OX :=
(y239 a h)
def y2i3 := KK1 y1vi 0
theorem y1xa : T0 y1ec [.t 2] y2i3 := sq y1y1 fun _ => by kernel_rfl
@[simp] theorem y2pw : E.pure 240 = true := rfl
theorem y2sj (a : AV) : (yd E).p 240 [a] = y1vi a [] :=
 (y1r (cf := y2pm) (by kernel_rfl) rfl).trans ((y1xa _).trans (by kernel_rfl))
def y284 (a : AV) (h : Heap) : OX :=
oh (newC 0 (some 0) (cellsOf a) h) fun c h1 =>
ob (evLd true 9 c h1) fun d =>
oh (yc E (yd E) 0 none true 9 [d] h1) fun b h2 =>
(yo h2 b)
def y2k4 := KK1 y284 0
theorem y1u3 : T0 y1gl [.t 2] y2k4 := fun _ => by kernel_rfl
@[simp] theorem y2ql : E.pure 239 = true := rfl
theorem y2u0 (a : AV) : (yd E).p 239 [a] = y284 a [⟨0, .dead⟩] :=
 (y1r (cf := y2pk) (by kernel_rfl) rfl).trans ((y1u3 _).trans (by kernel_rfl))
def y1y2 (h : Heap) : OX :=
(yo h (.int .i64 (-1)))
def y2jv := KK0 y1y2
theorem y23q : T0 y1j8 [.t 4] y2jv := fun _ => by kernel_rfl
def y1g7 (b d : AV) (h : Heap) : OX :=
ob (evLd true 9 d h) fun p =>
oh (yc E (yd E) 0 none true 10 [p] h) fun c h1 =>
ob (evLd true 9 d h1) fun j =>
oh (yc E (yd E) 0 none true 17 [j] h1) fun i h2 =>
ob (evUn .not i) fun a =>
gb a true (some b) fun e =>
gb a true (some c) fun o =>
gb a true (y17 1 o h2) fun k =>
gb a true (yb .lss e k) fun g =>
ob (yh a g (.bool false)) fun l =>
cnd l
 (ob (y10 1 c b) fun m =>
ob (evLd false 1 m h2) fun n =>
(yo h2 n))
 ((y1y2 h2))
def y2kd := KK2 y1g7 1 2
theorem y21r : T0 y1pr [.t 4] y2kd := sq y23q fun _ => by kernel_rfl
def y178 (a c : AV) (h : Heap) : OX :=
oh (newC 0 (some 0) (cellsOf a) h) fun b h3 =>
(y1g7 c b h3)
def y2jd := KK2 y178 0 1
theorem y23x : T0 y1j1 [.t 4] y2jd := sq y21r fun _ => by kernel_rfl
@[simp] theorem y2qa : E.pure 241 = true := rfl
theorem y2re (a b : AV) : (yd E).p 241 [a, b] = y178 a b [⟨0, .dead⟩] :=
 (y1r (cf := y2i6) (by kernel_rfl) rfl).trans ((y23x _).trans (by kernel_rfl))
def q9_1 (fb : Nat) (b : AV) (h : Heap) : Option (AV × Heap) :=
ob (y80 .u32 b) fun a =>
(some (a, h))
def y2n9 (fb : Nat) := KK1 (q9_1 fb) 5
theorem y2co (fb : Nat) (s : St) : W E fb y251 s (finI [.t 4]) xN (finI [.t 4]) = y2n9 fb s :=
 by kernel_rfl
def q9_2 (fb : Nat) (a b g o : AV) (h : Heap) : Option (AV × Heap) :=
ob (evUn .not o) fun l =>
cnd l
 (ob (yp a) fun y =>
ob (evFa 0 y) fun x =>
ob (evFa 3 x) fun u =>
ob (evLd false 1 u h) fun e =>
ob (y17 1 e h) fun c =>
ob (yp a) fun d =>
ob (evFa 8 d) fun m =>
ob (evLd false 1 m h) fun r =>
oh (y3x false [0] r b c h) fun _ h1 =>
ob (yp a) fun v =>
ob (evFa 0 v) fun i =>
ob (evFa 3 i) fun n =>
ob (evLd false 1 n h1) fun z =>
oh (yl fb (some 0) 1 1 [(.int .i64 0)] [(0, b)] h1) fun p h2 =>
oh (y1v fb (some 1) 1 8 z p h2) fun k h3 =>
ob (yp a) fun w =>
ob (evFa 0 w) fun j =>
ob (evFa 3 j) fun t =>
oh (evSt 1 t k h3) fun _ h4 =>
(q9_1 fb c h4))
 ((q9_1 fb g h))
def y2m9 (fb : Nat) := KK4 (q9_2 fb) 0 1 5 6
theorem y2d4 (fb : Nat) (s : St) : W E fb y26y s (finI [.t 4]) xN (finI [.t 4]) = y2m9 fb s :=
 (y32 (k := (y2n9 fb)) (fun s => y2co fb s)).trans (by kernel_rfl)
def q9_3 (fb : Nat) (a b : AV) (h : Heap) : Option (AV × Heap) :=
ob (yp a) fun g =>
ob (evFa 8 g) fun j =>
ob (evLd false 1 j h) fun d =>
ob (y2z false [0] (.int .i64 0) true d b h) fun c =>
ob (y29 0 c) fun i =>
ob (y29 1 c) fun e =>
(q9_2 fb a b i e h)
def y2nk (fb : Nat) := KK2 (q9_3 fb) 0 1
theorem y2ft (fb : Nat) (s : St) : W E fb y27c s (finI [.t 4]) xN (finI [.t 4]) = y2nk fb s :=
 (y32 (k := (y2m9 fb)) (fun s => y2d4 fb s)).trans (by kernel_rfl)
def q9_4 (fb : Nat) (a b : AV) (h : Heap) : Option (AV × Heap) :=
(q9_3 fb a b h)
def y2rm (fb : Nat) := KK2 (q9_4 fb) 0 1
theorem y2c5 (fb : Nat) (s : St) : W E fb y273 s (finI [.t 4]) xN (finI [.t 4]) = y2rm fb s :=
 (y32 (k := (y2nk fb)) (fun s => y2ft fb s)).trans (by kernel_rfl)
@[simp] theorem y2qd : E.pure 243 = false := rfl
theorem x_q9 (fb : Nat) (a b : AV) (h : Heap) : (yd E).i 243 [a, b] fb h = q9_4 fb a b (if fb = h.length then h ++ yj 2 else h) :=
 (y6b (cf := c_q9) (by kernel_rfl) rfl).trans ((y2c5 fb _).trans (by kernel_rfl))
def y1mn (fb : Nat) (b : AV) (h : Heap) : Option (AV × Heap) :=
ob (y80 .u32 b) fun a =>
(some (a, h))
def y27d (fb : Nat) := KK1 (y1mn fb) 5
theorem y21s (fb : Nat) (s : St) : W E fb y1k1 s (finI [.t 4]) xN (finI [.t 4]) = y27d fb s :=
 by kernel_rfl
def y22d (fb : Nat) (a b g o : AV) (h : Heap) : Option (AV × Heap) :=
ob (evUn .not o) fun l =>
cnd l
 (ob (yp a) fun y =>
ob (evFa 0 y) fun x =>
ob (evFa 4 x) fun u =>
ob (evLd false 1 u h) fun e =>
ob (y17 1 e h) fun c =>
ob (yp a) fun d =>
ob (evFa 9 d) fun m =>
ob (evLd false 1 m h) fun r =>
oh (y3x false [2] r b c h) fun _ h1 =>
ob (yp a) fun v =>
ob (evFa 0 v) fun i =>
ob (evFa 4 i) fun n =>
ob (evLd false 1 n h1) fun z =>
oh (yl fb (some 0) 1 1 [(.str [])] [(0, b)] h1) fun p h2 =>
oh (y1v fb (some 1) 1 16 z p h2) fun k h3 =>
ob (yp a) fun w =>
ob (evFa 0 w) fun j =>
ob (evFa 4 j) fun t =>
oh (evSt 1 t k h3) fun _ h4 =>
(y1mn fb c h4))
 ((y1mn fb g h))
def y24z (fb : Nat) := KK4 (y22d fb) 0 1 5 6
theorem y22p (fb : Nat) (s : St) : W E fb y1o3 s (finI [.t 4]) xN (finI [.t 4]) = y24z fb s :=
 (y32 (k := (y27d fb)) (fun s => y21s fb s)).trans (by kernel_rfl)
def y21o (fb : Nat) (a b : AV) (h : Heap) : Option (AV × Heap) :=
ob (yp a) fun g =>
ob (evFa 9 g) fun j =>
ob (evLd false 1 j h) fun d =>
ob (y2z false [2] (.int .i64 0) true d b h) fun c =>
ob (y29 0 c) fun i =>
ob (y29 1 c) fun e =>
(y22d fb a b i e h)
def y271 (fb : Nat) := KK2 (y21o fb) 0 1
theorem y1uv (fb : Nat) (s : St) : W E fb y1f0 s (finI [.t 4]) xN (finI [.t 4]) = y271 fb s :=
 (y32 (k := (y24z fb)) (fun s => y22p fb s)).trans (by kernel_rfl)
def y1v0 (fb : Nat) (a b : AV) (h : Heap) : Option (AV × Heap) :=
(y21o fb a b h)
def y2iw (fb : Nat) := KK2 (y1v0 fb) 0 1
theorem y227 (fb : Nat) (s : St) : W E fb y1l5 s (finI [.t 4]) xN (finI [.t 4]) = y2iw fb s :=
 (y32 (k := (y271 fb)) (fun s => y1uv fb s)).trans (by kernel_rfl)
@[simp] theorem y2qk : E.pure 244 = false := rfl
theorem y2tb (fb : Nat) (a b : AV) (h : Heap) : (yd E).i 244 [a, b] fb h = y1v0 fb a b (if fb = h.length then h ++ yj 2 else h) :=
 (y6b (cf := y2k3) (by kernel_rfl) rfl).trans ((y227 fb _).trans (by kernel_rfl))
def y2b5 (fb : Nat) (a l : AV) (h : Heap) : Option (AV × Heap) :=
ob (yp a) fun r =>
ob (evFa 10 r) fun e =>
ob (evLd false 1 e h) fun c =>
ob (yp a) fun o =>
ob (evFa 0 o) fun j =>
ob (evFa 0 j) fun i =>
ob (evLd false 1 i h) fun g =>
ob (y17 1 g h) fun m =>
oh (yl fb (some 0) 1 1 [(.int .i64 0)] [(0, m)] h) fun b h1 =>
oh (y1v fb (some 1) 1 8 c b h1) fun n h2 =>
ob (yp a) fun k =>
ob (evFa 10 k) fun d =>
oh (evSt 1 d n h2) fun _ h3 =>
okK (y1o [([], []), ([], []), ([], []), ([], []), (ids1 e, []), ([], []), ([], []), ([], []), ([], []), (ids1 i, []), (ids1 g, []), ([], [fb + 0]), (ids1 b, ids1 c ++ [fb + 1]), ([], []), ([], []), ([], ids1 d)] [(4, 11)]) <|
ob (y80 .u32 l) fun p =>
oh (yc E (yd E) fb none false 242 [a, p] h3) fun t h4 =>
(some ((.tup []), h4))
def y2ox (fb : Nat) := KK2 (y2b5 fb) 0 1
theorem y20v (fb : Nat) (s : St) : W E fb y18c s (finI []) xN (finI []) = y2ox fb s :=
 by kernel_rfl
@[simp] theorem y2qh : E.pure 245 = false := rfl
theorem y2qw (fb : Nat) (a b : AV) (h : Heap) : (yd E).i 245 [a, b] fb h = y2b5 fb a b (if fb = h.length then h ++ yj 2 else h) :=
 (y6b (cf := y2p5) (by kernel_rfl) rfl).trans ((y20v fb _).trans (by kernel_rfl))
def y1au (fb : Nat) (a b d c : AV) (h : Heap) : Option (AV × Heap) :=
 W E fb ysz ⟨[(0, a), (13, b), (14, d), (15, c)], h⟩ (finI []) (y6 0 (finI []) xN) (finI [])
def yft (fb : Nat) := KK4 (y1au fb) 0 13 14 15
theorem y11u (fb : Nat) (s : St) : W E fb ysz s (finI []) (y6 0 (finI []) xN) (finI []) = yft fb s := yu.trans (by kernel_rfl)
def q8_2 (fb : Nat) (b e d c : AV) (h : Heap) : Option (AV × Heap) :=
ob (yb .add c (.int .i64 1)) fun a =>
(y1au fb b e d a h)
def y2po (fb : Nat) := KK4 (q8_2 fb) 0 13 14 15
theorem y2ek (fb : Nat) (s : St) : W E fb y24v s (yft fb) (y6 0 (finI []) xN) (finI []) = y2po fb s :=
 by kernel_rfl
def q8_3 (fb : Nat) (a c e b : AV) (h : Heap) : Option (AV × Heap) :=
ob (y10 1 c b) fun d =>
ob (evLd false 1 d h) fun g =>
oh (yc E (yd E) fb none true 240 [g] h) fun i h1 =>
oh (yc E (yd E) fb none false 242 [a, i] h1) fun j h2 =>
(q8_2 fb a c e b h2)
def y2n0 (fb : Nat) := KK4 (q8_3 fb) 0 13 14 15
theorem y2g2 (fb : Nat) (s : St) : W E fb y274 s (yft fb) (y6 0 (finI []) xN) (finI []) = y2n0 fb s :=
 (y32 (k := (y2po fb)) (fun s => y2ek fb s)).trans (by kernel_rfl)
def q8_4 (fb : Nat) (a d c b e : AV) (h : Heap) : Option (AV × Heap) :=
cnd e
 ((q8_3 fb a d c b h))
 ((some ((.tup []), h)))
def y2lw (fb : Nat) := KK5 (q8_4 fb) 0 13 14 15 16
theorem y29m (fb : Nat) (s : St) : W E fb y27n s (yft fb) (y6 0 (finI []) xN) (finI []) = y2lw fb s :=
 (y32 (k := (y2n0 fb)) (fun s => y2g2 fb s)).trans (by kernel_rfl)
def q8_5 (fb : Nat) (c d b a : AV) (h : Heap) : Option (AV × Heap) :=
ob (yb .lss a b) fun e =>
(q8_4 fb c d b a e h)
def y2su (fb : Nat) := KK4 (q8_5 fb) 0 13 14 15
theorem y29n (fb : Nat) (s : St) : W E fb y26l s (yft fb) (y6 0 (finI []) xN) (finI []) = y2su fb s :=
 (y32 (k := (y2lw fb)) (fun s => y29m fb s)).trans (by kernel_rfl)
theorem y130 (fb : Nat) (a b d c : AV) (h : Heap) : y1au fb a b d c h = (q8_5 fb a b d c h) :=
 y27.trans ((y1q _ _ _ (n' := (yft fb)) (fun s => y11u fb s)).trans ((y29n fb _).trans (by kernel_rfl)))
theorem y2b2 (fb : Nat) (s : St) : W E fb y26u s (finI []) xN (finI []) = yft fb s :=
 y11.trans (y11u fb s)
def q8_7 (fb : Nat) (b c : AV) (h : Heap) : Option (AV × Heap) :=
ob (evFa 8 c) fun e =>
ob (evLd false 1 e h) fun a =>
ob (y17 1 a h) fun d =>
(y1au fb b a d (.int .i64 0) h)
def y2ka (fb : Nat) := KK2 (q8_7 fb) 0 3
theorem y2f2 (fb : Nat) (s : St) : W E fb y258 s (finI []) xN (finI []) = y2ka fb s :=
 (y32 (k := (yft fb)) (fun s => y2b2 fb s)).trans (by kernel_rfl)
def q8_8 (fb : Nat) (a b : AV) (h : Heap) : Option (AV × Heap) :=
ob (evFa 8 b) fun g =>
ob (evLd false 1 g h) fun d =>
ob (y17 1 d h) fun c =>
ob (y80 .u32 c) fun e =>
oh (yc E (yd E) fb none false 242 [a, e] h) fun i h3 =>
(q8_7 fb a b h3)
def y2m2 (fb : Nat) := KK2 (q8_8 fb) 0 3
theorem y2c9 (fb : Nat) (s : St) : W E fb y263 s (finI []) xN (finI []) = y2m2 fb s :=
 (y32 (k := (y2ka fb)) (fun s => y2f2 fb s)).trans (by kernel_rfl)
def q8_9 (fb : Nat) (a b : AV) (h : Heap) : Option (AV × Heap) :=
oh (newC fb (some 0) (cellsOf b) h) fun c h4 =>
(q8_8 fb a c h4)
def y2r5 (fb : Nat) := KK2 (q8_9 fb) 0 1
theorem y2bu (fb : Nat) (s : St) : W E fb y25q s (finI []) xN (finI []) = y2r5 fb s :=
 (y32 (k := (y2m2 fb)) (fun s => y2c9 fb s)).trans (by kernel_rfl)
@[simp] theorem y2py : E.pure 246 = false := rfl
theorem x_q8 (fb : Nat) (a b : AV) (h : Heap) : (yd E).i 246 [a, b] fb h = q8_9 fb a b (if fb = h.length then h ++ yj 1 else h) :=
 (y6b (cf := c_q8) (by kernel_rfl) rfl).trans ((y2bu fb _).trans (by kernel_rfl))
def yk2 (a : AV) (h : Heap) : OX :=
(yo h a)
def y2mw := KK1 yk2 6
theorem y1xf : T0 y1g6 [.t 4] y2mw := fun _ => by kernel_rfl
def yka (b c : AV) (h : Heap) : OX :=
ob (evLd true 9 b h) fun g =>
oh (yc E (yd E) 0 none true 22 [g] h) fun a h1 =>
gb a true (some c) fun l =>
gb a true (evFa 6 b) fun e =>
gb a true (evLd false 1 e h1) fun k =>
gh a true (yc E (yd E) 0 none true 46 [l, k] h1) h1 fun p h2 =>
gb a true (evUn .not p) fun n =>
ob (yh a n (.bool false)) fun o =>
cnd o
 (ob (evFa 6 b) fun m =>
ob (evLd false 1 m h2) fun j =>
oh (yl 0 (some 4) 1 1 [(.int .i64 0)] [(0, j)] h2) fun i h3 =>
oh (y1v 0 (some 5) 1 8 c i h3) fun d h4 =>
(yk2 d h4))
 ((yk2 c h2))
def y2mr := KK2 yka 5 6
theorem y21z : T0 y1oo [.t 4] y2mr := sq y1xf fun _ => by kernel_rfl
def yk7 (d a b : AV) (h : Heap) : OX :=
ob (evLd true 9 a h) fun i =>
oh (yc E (yd E) 0 none true 24 [i] h) fun j h5 =>
ob (evUn .not j) fun c =>
cnd c
 (ob (yb .add d (.int .i64 1)) fun g =>
oh (yl 0 (some 2) 1 1 [(.int .i64 0)] [(0, g)] h5) fun k h6 =>
oh (y1v 0 (some 3) 1 8 b k h6) fun e h7 =>
(yka a e h7))
 ((yka a b h5))
def y2ky := KK3 yk7 1 5 6
theorem y1yb : T0 y19k [.t 4] y2ky := sq y21z fun _ => by kernel_rfl
def y1cn (a b : AV) (h : Heap) : OX :=
(yk7 a b AV.nils h)
def y2ke := KK2 y1cn 1 5
theorem y20d : T0 y1i7 [.t 4] y2ke := sq y1yb fun _ => by kernel_rfl
def y1bd (a i : AV) (h : Heap) : OX :=
ob (evFa 3 i) fun g =>
ob (evLd false 1 g h) fun c =>
ob (y10 9 c a) fun d =>
ob (evLd true 9 d h) fun e =>
oh (newC 0 (some 1) zq0 h) fun b h8 =>
oh (evSt 9 b e h8) fun _ h9 =>
(y1cn a b h9)
def y2lh := KK2 y1bd 1 2
theorem y1zr : T0 y19u [.t 4] y2lh := sq y20d fun _ => by kernel_rfl
def y1ka (b c : AV) (h : Heap) : OX :=
ob (yb .lss b (.int .i64 0)) fun a =>
gb a false (some b) fun j =>
gb a false (evFa 3 c) fun e =>
gb a false (evLd false 1 e h) fun d =>
gb a false (y17 1 d h) fun k =>
gb a false (yb .geq j k) fun i =>
ob (yh a (.bool true) i) fun g =>
cnd g
 ((yo h AV.nils))
 ((y1bd b c h))
def y2ib := KK2 y1ka 1 2
theorem y1ud : T0 y1lv [.t 4] y2ib := sq y1zr fun _ => by kernel_rfl
def y17h (a c : AV) (h : Heap) : OX :=
oh (newC 0 (some 0) (cellsOf a) h) fun b h10 =>
(y1ka c b h10)
def y2m5 := KK2 y17h 0 1
theorem y1uz : T0 y1ps [.t 4] y2m5 := sq y1ud fun _ => by kernel_rfl
@[simp] theorem y2t1 : E.pure 81 = true := rfl
theorem y2ty (a b : AV) : (yd E).p 81 [a, b] = y17h a b [⟨0, .dead⟩, ⟨0, .dead⟩, ⟨0, .dead⟩, ⟨0, .dead⟩, ⟨0, .dead⟩, ⟨0, .dead⟩] :=
 (y1r (cf := y2mj) (by kernel_rfl) rfl).trans ((y1uz _).trans (by kernel_rfl))
def y2a8 (fb : Nat) (a : AV) (h : Heap) : Option (AV × Heap) :=
(some (a, h))
def y8j (fb : Nat) := KK1 (y2a8 fb) 5
theorem y1vg (fb : Nat) (s : St) : W E fb y1sf s (finI [.t 4]) xN (finI [.t 4]) = y8j fb s :=
 by kernel_rfl
def yp4 (fb : Nat) (a e c b d : AV) (h : Heap) : Option (AV × Heap) :=
 W E fb yn2 ⟨[(0, a), (5, e), (8, c), (9, b), (10, d)], h⟩ (y8j fb) (y6 0 (y8j fb) xN) (finI [.t 4])
def yay (fb : Nat) := KK5 (yp4 fb) 0 5 8 9 10
theorem yse (fb : Nat) (s : St) : W E fb yn2 s (y8j fb) (y6 0 (y8j fb) xN) (finI [.t 4]) = yay fb s := yu.trans (by kernel_rfl)
def y20h (fb : Nat) (a g c b d : AV) (h : Heap) : Option (AV × Heap) :=
ob (yb .add d (.int .i64 1)) fun e =>
(yp4 fb a g c b e h)
def y24n (fb : Nat) := KK5 (y20h fb) 0 5 8 9 10
theorem y1x8 (fb : Nat) (s : St) : W E fb y1c4 s (yay fb) (y6 0 (y8j fb) xN) (finI [.t 4]) = y24n fb s :=
 by kernel_rfl
def y1vl (fb : Nat) (c a e v b : AV) (h : Heap) : Option (AV × Heap) :=
ob (y10 1 e b) fun p =>
ob (evLd false 1 p h) fun d =>
gb a false (some d) fun m =>
gb a false (some c) fun o =>
gb a false (some b) fun w =>
gb a false (y10 1 o w) fun u =>
gb a false (evLd false 1 u h) fun t =>
gb a false (yb .andNot m t) fun k =>
gb a false (yb .neq k (.int .u64 0)) fun l =>
ob (yh a (.bool true) l) fun n =>
ob (y10 1 c b) fun r =>
ob (evLd false 1 r h) fun g =>
ob (yb .or g d) fun j =>
ob (y10 1 c b) fun i =>
oh (evSt 1 i j h) fun _ h1 =>
(y20h fb c n e v b h1)
def y25h (fb : Nat) := KK5 (y1vl fb) 0 5 8 9 10
theorem y1zq (fb : Nat) (s : St) : W E fb y1rz s (yay fb) (y6 0 (y8j fb) xN) (finI [.t 4]) = y25h fb s :=
 (y32 (k := (y24n fb)) (fun s => y1x8 fb s)).trans (by kernel_rfl)
def y1kx (fb : Nat) (c a e d g b : AV) (h : Heap) : Option (AV × Heap) :=
cnd b
 ((y1vl fb c a e d g h))
 ((y2a8 fb a h))
def y278 (fb : Nat) := KK6 (y1kx fb) 0 5 8 9 10 11
theorem y206 (fb : Nat) (s : St) : W E fb y1hx s (yay fb) (y6 0 (y8j fb) xN) (finI [.t 4]) = y278 fb s :=
 (y32 (k := (y25h fb)) (fun s => y1zq fb s)).trans (by kernel_rfl)
def y1l1 (fb : Nat) (d g e a b : AV) (h : Heap) : Option (AV × Heap) :=
ob (yb .lss b a) fun c =>
(y1kx fb d g e a b c h)
def y2ny (fb : Nat) := KK5 (y1l1 fb) 0 5 8 9 10
theorem y23m (fb : Nat) (s : St) : W E fb y1nl s (yay fb) (y6 0 (y8j fb) xN) (finI [.t 4]) = y2ny fb s :=
 (y32 (k := (y278 fb)) (fun s => y206 fb s)).trans (by kernel_rfl)
theorem yrq (fb : Nat) (a e c b d : AV) (h : Heap) : yp4 fb a e c b d h = (y1l1 fb a e c b d h) :=
 y27.trans ((y1q _ _ _ (n' := (yay fb)) (fun s => yse fb s)).trans ((y23m fb _).trans (by kernel_rfl)))
theorem y20r (fb : Nat) (s : St) : W E fb y18d s (y8j fb) xN (finI [.t 4]) = yay fb s :=
 y11.trans (yse fb s)
def y29g (fb : Nat) (b a d : AV) (h : Heap) : Option (AV × Heap) :=
ob (y17 1 a h) fun c =>
(yp4 fb b d a c (.int .i64 0) h)
def y1dh (fb : Nat) := KK3 (y29g fb) 0 1 5
theorem y215 (fb : Nat) (s : St) : W E fb y1d9 s (y8j fb) xN (finI [.t 4]) = y1dh fb s :=
 (y32 (k := (yay fb)) (fun s => y20r fb s)).trans (by kernel_rfl)
theorem y1wr (fb : Nat) (s : St) : W E fb y1qw s (finI [.t 4]) xN (finI [.t 4]) = y1dh fb s :=
 (y32 (k := (y8j fb)) (fun s => y1vg fb s)).trans (y215 fb s)
def y1hw (fb : Nat) (a b : AV) (h : Heap) : Option (AV × Heap) :=
(y29g fb a b (.bool false) h)
def y1bo (fb : Nat) := KK2 (y1hw fb) 0 1
theorem y1kw (fb : Nat) (s : St) : W E fb yyh s (finI [.t 4]) xN (finI [.t 4]) = y1bo fb s :=
 (y32 (k := (y1dh fb)) (fun s => y1wr fb s)).trans (by kernel_rfl)
def y1be (fb : Nat) (a b : AV) (h : Heap) : Option (AV × Heap) :=
(y1hw fb a b h)
def y2aq (fb : Nat) := KK2 (y1be fb) 0 1
theorem y1cw (fb : Nat) (s : St) : W E fb yyz s (finI [.t 4]) xN (finI [.t 4]) = y2aq fb s :=
 (y32 (k := (y1bo fb)) (fun s => y1kw fb s)).trans (by kernel_rfl)
@[simp] theorem y2r7 : E.pure 84 = false := rfl
theorem y2qx (fb : Nat) (a b : AV) (h : Heap) : (yd E).i 84 [a, b] fb h = y1be fb a b (if fb = h.length then h ++ yj 0 else h) :=
 (y6b (cf := y2i0) (by kernel_rfl) rfl).trans ((y1cw fb _).trans (by kernel_rfl))
def y1bh (a : AV) (h : Heap) : OX :=
(yo h a)
def y5r := KK1 y1bh 5
theorem y1zf : T0 y1bi [.t 4] y5r := fun _ => by kernel_rfl
def ypl (b d e c a : AV) (h : Heap) : OX :=
 W E 0 yos ⟨[(1, b), (5, d), (27, e), (28, c), (29, a)], h⟩ y5r (y6 0 y5r xN) (finP [.t 4])
def ybz := KK5 ypl 1 5 27 28 29
theorem yri : T1 yos y5r (y6 0 y5r xN) [.t 4] ybz := fun s => yu.trans (by kernel_rfl)
def y16u (b e g c a : AV) (h : Heap) : OX :=
ob (yb .add a (.int .i64 1)) fun d =>
(ypl b e g c d h)
def ybs := KK5 y16u 1 5 27 28 29
theorem y233 : T1 y1nt ybz (y6 0 y5r xN) [.t 4] ybs := fun _ => by kernel_rfl
def y167 (d a i k e c : AV) (h : Heap) : OX :=
ob (evFa 3 i) fun g =>
ob (evLd false 1 g h) fun j =>
ob (yb .eql j (AV.str [])) fun b =>
cnd b
 ((y1bh a h))
 ((y16u d a k e c h))
def y2nf := KK6 y167 1 5 7 27 28 29
theorem y1xw : T1 y1av ybs (y6 1 ybs (y6 0 y5r xN)) [.t 4] y2nf := fun _ => by kernel_rfl
def y1vr (d b a g e c : AV) (h : Heap) : OX :=
ob (evFa 2 a) fun m =>
ob (evLd false 1 m h) fun l =>
oh (yc E (yd E) 0 none true 46 [b, l] h) fun n h1 =>
ob (evUn .not n) fun p =>
cnd p
 (ob (evFa 2 a) fun i =>
ob (evLd false 1 i h1) fun o =>
oh (yl 0 (some 2) 1 1 [(.int .i64 0)] [(0, o)] h1) fun k h2 =>
oh (y1v 0 (some 3) 1 8 b k h2) fun j h3 =>
(y167 d j a g e c h3))
 ((y167 d b a g e c h1))
def y2j4 := KK6 y1vr 1 5 7 27 28 29
theorem y1xo : T1 y1ep ybs (y6 1 ybs (y6 0 y5r xN)) [.t 4] y2j4 := sq y1xw fun _ => by kernel_rfl
def ytt (b g c i e d : AV) (h : Heap) : OX :=
ob (evFa 0 c) fun n =>
ob (evLd false 1 n h) fun j =>
ob (yb .lss b j) fun a =>
gb a false (some b) fun l =>
gb a false (evFa 1 c) fun o =>
gb a false (evLd false 1 o h) fun p =>
gb a false (yb .geq l p) fun m =>
ob (yh a (.bool true) m) fun k =>
cnd k
 ((y16u b g i e d h))
 ((y1vr b g c i e d h))
def y2lu := KK6 ytt 1 5 7 27 28 29
theorem y23p : T1 y1hj ybs (y6 1 ybs (y6 0 y5r xN)) [.t 4] y2lu := sq y1xo fun _ => by kernel_rfl
def y293 (d j c e a : AV) (h : Heap) : OX :=
ob (y10 4 c a) fun g =>
ob (evLd true 4 g h) fun i =>
oh (newC 0 (some 1) zq3 h) fun b h4 =>
oh (evSt 4 b i h4) fun _ h5 =>
(ytt d j b c e a h5)
def y1i4 := KK5 y293 1 5 27 28 29
theorem y1yg : T1 y1ew ybs (y6 1 ybs (y6 0 y5r xN)) [.t 4] y1i4 := sq y23p fun _ => by kernel_rfl
theorem y1zz : T1 y1hm ybs (y6 0 y5r xN) [.t 4] y1i4 := fun s => y11.trans (y1yg s)
theorem y21k : T1 y1et ybz (y6 0 y5r xN) [.t 4] y1i4 := sq y233 y1zz
def y0u (c a g d b e : AV) (h : Heap) : OX :=
cnd e
 ((y293 c a g d b h))
 ((y1bh a h))
def y29j := KK6 y0u 1 5 27 28 29 30
theorem y1mh : T1 ywl ybz (y6 0 y5r xN) [.t 4] y29j := sq y21k fun _ => by kernel_rfl
def yqr (c e g b a : AV) (h : Heap) : OX :=
ob (yb .lss a b) fun d =>
(y0u c e g b a d h)
def y2c0 := KK5 yqr 1 5 27 28 29
theorem y1ra : T1 ywj ybz (y6 0 y5r xN) [.t 4] y2c0 := sq y1mh fun _ => by kernel_rfl
theorem yrm (b d e c a : AV) (h : Heap) : ypl b d e c a h = (yqr b d e c a h) :=
 y27.trans ((y1q _ _ _ (n' := ybz) (fun s => yri s)).trans ((y1ra _).trans (by kernel_rfl)))
theorem y1b9 : T1 y14h y5r xN [.t 4] ybz := fun s => y11.trans (yri s)
def y1dj (c b g : AV) (h : Heap) : OX :=
ob (evFa 4 b) fun e =>
ob (evLd false 1 e h) fun a =>
ob (y17 1 a h) fun d =>
(ypl c g a d (.int .i64 0) h)
def y1l3 := KK3 y1dj 1 2 5
theorem y17x : T1 y12p y5r xN [.t 4] y1l3 := sq y1b9 fun _ => by kernel_rfl
theorem y18m : T0 y15h [.t 4] y1l3 := sq y1zf y17x
def y1qg (b a : AV) (h : Heap) : OX :=
(y1dj b a AV.nils h)
def y2b9 := KK2 y1qg 1 2
theorem y1lj : T0 yxp [.t 4] y2b9 := sq y18m fun _ => by kernel_rfl
def ymb (c d : AV) (h : Heap) : OX :=
ob (yb .lss c (.int .i64 0)) fun b =>
gb b false (some c) fun g =>
gb b false (evFa 3 d) fun u =>
gb b false (evLd false 1 u h) fun t =>
gb b false (y17 1 t h) fun k =>
gb b false (yb .geq g k) fun j =>
ob (yh b (.bool true) j) fun a =>
gb a false (evFa 3 d) fun m =>
gb a false (evLd false 1 m h) fun o =>
gb a false (some c) fun r =>
gb a false (y10 9 o r) fun n =>
gb a false (evLd true 9 n h) fun p =>
gh a false (yc E (yd E) 0 none true 18 [p] h) h fun i h6 =>
gb a false (evUn .not i) fun l =>
ob (yh a (.bool true) l) fun e =>
cnd e
 ((yo h6 AV.nils))
 ((y1qg c d h6))
def y287 := KK2 ymb 1 2
theorem y19b : T0 yv1 [.t 4] y287 := sq y1lj fun _ => by kernel_rfl
def yl1 (a c : AV) (h : Heap) : OX :=
oh (newC 0 (some 0) (cellsOf a) h) fun b h7 =>
(ymb c b h7)
def y2eq := KK2 yl1 0 1
theorem y1tn : T0 y12s [.t 4] y2eq := sq y19b fun _ => by kernel_rfl
@[simp] theorem y2ri : E.pure 79 = true := rfl
theorem y2rg (a b : AV) : (yd E).p 79 [a, b] = yl1 a b [⟨0, .dead⟩, ⟨0, .dead⟩, ⟨0, .dead⟩, ⟨0, .dead⟩] :=
 (y1r (cf := y2nu) (by kernel_rfl) rfl).trans ((y1tn _).trans (by kernel_rfl))
def y1o1 (h : Heap) : OX :=
(yo h (.int .i64 (-1)))
def y2hs := KK0 y1o1
theorem y1wm : T0 y1su [.t 2] y2hs := fun _ => by kernel_rfl
def y199 (a : AV) (h : Heap) : OX :=
ob (evLd true 9 a h) fun e =>
oh (yc E (yd E) 0 none true 17 [e] h) fun c h1 =>
cnd c
 (ob (evFa 1 a) fun d =>
ob (evLd false 1 d h1) fun b =>
(yo h1 b))
 ((y1o1 h1))
def yim := KK1 y199 1
theorem y1xr : T0 y1cm [.t 2] yim := sq y1wm fun _ => by kernel_rfl
def y9m (a d : AV) (h : Heap) : OX :=
cnd d
 (ob (evFa 1 a) fun c =>
ob (evLd false 1 c h) fun b =>
(yo h b))
 ((y199 a h))
def y2lt := KK2 y9m 1 5
theorem y22j : T1 y1lp yim (y6 0 yim xN) [.t 2] y2lt := fun _ => by kernel_rfl
def y1pz (a b : AV) (h : Heap) : OX :=
ob (yb .eql b (.int .i64 1)) fun p =>
cnd p
 ((y9m a p h))
 (ob (yb .eql b (.int .i64 2)) fun m =>
cnd m
 ((y9m a m h))
 (ob (yb .eql b (.int .i64 3)) fun i =>
cnd i
 ((y9m a i h))
 (ob (yb .eql b (.int .i64 4)) fun g =>
cnd g
 ((y9m a g h))
 (ob (yb .eql b (.int .i64 5)) fun k =>
cnd k
 ((y9m a k h))
 (ob (yb .eql b (.int .i64 6)) fun c =>
cnd c
 ((y9m a c h))
 (ob (yb .eql b (.int .i64 13)) fun r =>
cnd r
 ((y9m a r h))
 (ob (yb .eql b (.int .i64 15)) fun o =>
cnd o
 ((y9m a o h))
 (ob (yb .eql b (.int .i64 16)) fun j =>
cnd j
 ((y9m a j h))
 (ob (yb .eql b (.int .i64 18)) fun e =>
cnd e
 ((y9m a e h))
 (ob (yb .eql b (.int .i64 20)) fun l =>
cnd l
 ((y9m a l h))
 (ob (yb .eql b (.int .i64 21)) fun d =>
cnd d
 ((y9m a d h))
 (ob (yb .eql b (.int .i64 22)) fun n =>
cnd n
 ((y9m a n h))
 (ob (yb .eql b (.int .i64 32)) fun t =>
(y9m a t h))))))))))))))
def y27b := KK2 y1pz 1 4
theorem y1z4 : T1 y1bu yim (y6 0 yim xN) [.t 2] y27b := sq y22j fun _ => by kernel_rfl
theorem y230 : T1 y1b2 yim xN [.t 2] y27b := fun s => y11.trans (y1z4 s)
def y1q0 (a : AV) (h : Heap) : OX :=
ob (evFa 0 a) fun b =>
ob (evLd false 1 b h) fun c =>
(y1pz a c h)
def y26j := KK1 y1q0 1
theorem y23a : T1 y1c0 yim xN [.t 2] y26j := sq y230 fun _ => by kernel_rfl
theorem y1xn : T0 y1o2 [.t 2] y26j := sq y1xr y23a
def y1nx (a : AV) (h : Heap) : OX :=
oh (newC 0 (some 0) (cellsOf a) h) fun b h2 =>
(y1q0 b h2)
def y2k5 := KK1 y1nx 0
theorem y1zd : T0 y1q9 [.t 2] y2k5 := sq y1xn fun _ => by kernel_rfl
@[simp] theorem y2uj : E.pure 9 = true := rfl
theorem y2rv (a : AV) : (yd E).p 9 [a] = y1nx a [⟨0, .dead⟩] :=
 (y1r (cf := y2me) (by kernel_rfl) rfl).trans ((y1zd _).trans (by kernel_rfl))
def y1uh (fb : Nat) (a b : AV) (h : Heap) : Option (AV × Heap) :=
ob (yb .quo b (.int .i64 64)) fun c =>
ob (y10 1 a c) fun i =>
ob (evLd false 1 i h) fun e =>
ob (yb .rem b (.int .i64 64)) fun g =>
ob (yb .shl (.int .u64 1) g) fun d =>
ob (yb .andNot e d) fun k =>
ob (y10 1 a c) fun j =>
oh (evSt 1 j k h) fun _ h1 =>
(some ((.tup []), h1))
def y2nc (fb : Nat) := KK2 (y1uh fb) 0 1
theorem y1zm (fb : Nat) (s : St) : W E fb y1a0 s (finI []) xN (finI []) = y2nc fb s :=
 by kernel_rfl
@[simp] theorem y2t0 : E.pure 85 = false := rfl
theorem y2rr (fb : Nat) (a b : AV) (h : Heap) : (yd E).i 85 [a, b] fb h = y1uh fb a b (if fb = h.length then h ++ yj 0 else h) :=
 (y6b (cf := y2ly) (by kernel_rfl) rfl).trans ((y1zm fb _).trans (by kernel_rfl))
def ycb (h : Heap) : OX :=
(yo h AV.nils)
def y33 := KK0 ycb
theorem y1un : T0 y18s [.t 2] y33 := fun _ => by kernel_rfl
def yd3 (a : AV) (h : Heap) : OX :=
ob (evFa 2 a) fun b =>
ob (evLd false 1 b h) fun e =>
ob (evFa 3 a) fun c =>
ob (evLd false 1 c h) fun d =>
oh (yl 0 (some 6) 1 2 [(.int .i64 0)] [(0, e), (1, d)] h) fun g h1 =>
(yo h1 g)
def y2mp := KK1 yd3 1
theorem y1wn : T1 y1k7 y33 (y6 0 y33 xN) [.t 2] y2mp := fun _ => by kernel_rfl
def yct (a : AV) (h : Heap) : OX :=
ob (evFa 3 a) fun g =>
ob (evLd false 1 g h) fun d =>
ob (yb .lss d (.int .i64 0)) fun i =>
cnd i
 (ob (evFa 2 a) fun c =>
ob (evLd false 1 c h) fun e =>
oh (yl 0 (some 5) 1 1 [(.int .i64 0)] [(0, e)] h) fun b h2 =>
(yo h2 b))
 ((yd3 a h))
def y2p2 := KK1 yct 1
theorem y1zu : T1 y1b1 y33 (y6 0 y33 xN) [.t 2] y2p2 := sq y1wn fun _ => by kernel_rfl
def ydz (a g l : AV) (h : Heap) : OX :=
cnd l
 ((yct a h))
 (ob (yb .eql g (.int .i64 30)) fun d =>
cnd d
 (ob (evFa 2 a) fun e =>
ob (evLd false 1 e h) fun b =>
ob (yb .geq b (.int .i64 0)) fun j =>
cnd j
 (ob (evFa 2 a) fun k =>
ob (evLd false 1 k h) fun c =>
oh (yl 0 (some 7) 1 1 [(.int .i64 0)] [(0, c)] h) fun i h3 =>
(yo h3 i))
 ((ycb h)))
 ((ycb h)))
def y2mb := KK3 ydz 1 4 50
theorem y24i : T1 y1m4 y33 (y6 0 y33 xN) [.t 2] y2mb := fun s => (y1s (y1zu s) rfl).trans (by kernel_rfl)
def ycm (c a : AV) (h : Heap) : OX :=
ob (yb .eql a (.int .i64 29)) fun b =>
(ydz c a b h)
def y2kt := KK2 ycm 1 4
theorem y1u1 : T1 y1rw y33 (y6 0 y33 xN) [.t 2] y2kt := sq y24i fun _ => by kernel_rfl
def ya9 (a d b : AV) (h : Heap) : OX :=
cnd b
 (ob (evFa 8 a) fun g =>
ob (evLd false 1 g h) fun e =>
oh (yc E (yd E) 0 (some 4) false 39 [e] h) fun c h4 =>
(yo h4 c))
 ((ycm a d h))
def y2je := KK3 ya9 1 4 42
theorem y213 : T1 y1aa y33 (y6 0 y33 xN) [.t 2] y2je := fun s => (y1s rfl (y1u1 s)).trans (by kernel_rfl)
def ye6 (b a : AV) (h : Heap) : OX :=
ob (yb .eql a (.int .i64 23)) fun c =>
cnd c
 ((ya9 b a c h))
 (ob (yb .eql a (.int .i64 24)) fun e =>
cnd e
 ((ya9 b a e h))
 (ob (yb .eql a (.int .i64 25)) fun d =>
cnd d
 ((ya9 b a d h))
 (ob (yb .eql a (.int .i64 26)) fun g =>
(ya9 b a g h))))
def y2oy := KK2 ye6 1 4
theorem y1v1 : T1 y1fz y33 (y6 0 y33 xN) [.t 2] y2oy := sq y213 fun _ => by kernel_rfl
def ye5 (a d j : AV) (h : Heap) : OX :=
cnd j
 (ob (evFa 2 a) fun l =>
ob (evLd false 1 l h) fun i =>
ob (evFa 3 a) fun k =>
ob (evLd false 1 k h) fun b =>
ob (evFa 4 a) fun g =>
ob (evLd false 1 g h) fun e =>
oh (yl 0 (some 3) 1 3 [(.int .i64 0)] [(0, i), (1, b), (2, e)] h) fun c h5 =>
(yo h5 c))
 ((ye6 a d h))
def y2i2 := KK3 ye5 1 4 33
theorem y21h : T1 y1pa y33 (y6 0 y33 xN) [.t 2] y2i2 := fun s => (y1s rfl (y1v1 s)).trans (by kernel_rfl)
def ydt (c a : AV) (h : Heap) : OX :=
ob (yb .eql a (.int .i64 14)) fun b =>
(ye5 c a b h)
def y2k7 := KK2 ydt 1 4
theorem y1yz : T1 y1nf y33 (y6 0 y33 xN) [.t 2] y2k7 := sq y21h fun _ => by kernel_rfl
def y4o (a d e : AV) (h : Heap) : OX :=
cnd e
 (ob (evFa 2 a) fun c =>
ob (evLd false 1 c h) fun b =>
ob (evFa 3 a) fun i =>
ob (evLd false 1 i h) fun g =>
oh (yl 0 (some 2) 1 2 [(.int .i64 0)] [(0, b), (1, g)] h) fun j h6 =>
(yo h6 j))
 ((ydt a d h))
def y2et := KK3 y4o 1 4 21
theorem y1kq : T1 y13s y33 (y6 0 y33 xN) [.t 2] y2et := fun s => (y1s rfl (y1yz s)).trans (by kernel_rfl)
def y6y (b a : AV) (h : Heap) : OX :=
ob (yb .eql a (.int .i64 5)) fun i =>
cnd i
 ((y4o b a i h))
 (ob (yb .eql a (.int .i64 9)) fun d =>
cnd d
 ((y4o b a d h))
 (ob (yb .eql a (.int .i64 11)) fun e =>
cnd e
 ((y4o b a e h))
 (ob (yb .eql a (.int .i64 13)) fun c =>
cnd c
 ((y4o b a c h))
 (ob (yb .eql a (.int .i64 17)) fun g =>
cnd g
 ((y4o b a g h))
 (ob (yb .eql a (.int .i64 28)) fun j =>
(y4o b a j h))))))
def y2ao := KK2 y6y 1 4
theorem y1rr : T1 y12h y33 (y6 0 y33 xN) [.t 2] y2ao := sq y1kq fun _ => by kernel_rfl
def y3f (a b e : AV) (h : Heap) : OX :=
cnd e
 (ob (evFa 2 a) fun c =>
ob (evLd false 1 c h) fun d =>
oh (yl 0 (some 1) 1 1 [(.int .i64 0)] [(0, d)] h) fun g h7 =>
(yo h7 g))
 ((y6y a b h))
def y2cg := KK3 y3f 1 4 5
theorem y17s : T1 y14d y33 (y6 0 y33 xN) [.t 2] y2cg := fun s => (y1s rfl (y1rr s)).trans (by kernel_rfl)
def y6t (b a : AV) (h : Heap) : OX :=
ob (yb .eql a (.int .i64 4)) fun n =>
cnd n
 ((y3f b a n h))
 (ob (yb .eql a (.int .i64 6)) fun l =>
cnd l
 ((y3f b a l h))
 (ob (yb .eql a (.int .i64 7)) fun g =>
cnd g
 ((y3f b a g h))
 (ob (yb .eql a (.int .i64 8)) fun e =>
cnd e
 ((y3f b a e h))
 (ob (yb .eql a (.int .i64 10)) fun j =>
cnd j
 ((y3f b a j h))
 (ob (yb .eql a (.int .i64 12)) fun c =>
cnd c
 ((y3f b a c h))
 (ob (yb .eql a (.int .i64 15)) fun o =>
cnd o
 ((y3f b a o h))
 (ob (yb .eql a (.int .i64 16)) fun m =>
cnd m
 ((y3f b a m h))
 (ob (yb .eql a (.int .i64 19)) fun i =>
cnd i
 ((y3f b a i h))
 (ob (yb .eql a (.int .i64 21)) fun d =>
cnd d
 ((y3f b a d h))
 (ob (yb .eql a (.int .i64 22)) fun k =>
cnd k
 ((y3f b a k h))
 (ob (yb .eql a (.int .i64 31)) fun p =>
(y3f b a p h))))))))))))
def y1d2 := KK2 y6t 1 4
theorem y19y : T1 y11w y33 (y6 0 y33 xN) [.t 2] y1d2 := sq y17s fun _ => by kernel_rfl
theorem y1ml : T1 y124 y33 xN [.t 2] y1d2 := fun s => y11.trans (y19y s)
def y6n (a : AV) (h : Heap) : OX :=
ob (evFa 0 a) fun b =>
ob (evLd false 1 b h) fun c =>
(y6t a c h)
def y1cj := KK1 y6n 1
theorem y1fq : T1 y116 y33 xN [.t 2] y1cj := sq y1ml fun _ => by kernel_rfl
theorem y1om : T0 yv2 [.t 2] y1cj := sq y1un y1fq
def y6v (a : AV) (h : Heap) : OX :=
oh (newC 0 (some 0) (cellsOf a) h) fun b h8 =>
(y6n b h8)
def y2g6 := KK1 y6v 0
theorem y1j4 : T0 ywb [.t 2] y2g6 := sq y1om fun _ => by kernel_rfl
@[simp] theorem y2s0 : E.pure 10 = true := rfl
theorem ysk (a : AV) : (yd E).p 10 [a] = y6v a [⟨0, .dead⟩, ⟨0, .dead⟩, ⟨0, .dead⟩, ⟨0, .dead⟩, ⟨0, .dead⟩, ⟨0, .dead⟩, ⟨0, .dead⟩, ⟨0, .dead⟩] :=
 (y1r (cf := y2is) (by kernel_rfl) rfl).trans ((y1j4 _).trans (by kernel_rfl))
def y23k (fb : Nat) (a b : AV) (h : Heap) : Option (AV × Heap) :=
ob (yb .quo b (.int .i64 64)) fun c =>
ob (y10 1 a c) fun i =>
ob (evLd false 1 i h) fun e =>
ob (yb .rem b (.int .i64 64)) fun g =>
ob (yb .shl (.int .u64 1) g) fun d =>
ob (yb .or e d) fun k =>
ob (y10 1 a c) fun j =>
oh (evSt 1 j k h) fun _ h1 =>
(some ((.tup []), h1))
def y2iy (fb : Nat) := KK2 (y23k fb) 0 1
theorem y1w5 (fb : Nat) (s : St) : W E fb y1tl s (finI []) xN (finI []) = y2iy fb s :=
 by kernel_rfl
@[simp] theorem y2rb : E.pure 86 = false := rfl
theorem y2tv (fb : Nat) (a b : AV) (h : Heap) : (yd E).i 86 [a, b] fb h = y23k fb a b (if fb = h.length then h ++ yj 0 else h) :=
 (y6b (cf := y2jh) (by kernel_rfl) rfl).trans ((y1w5 fb _).trans (by kernel_rfl))
def yus (j k e d : AV) (h : Heap) : OX :=
ob (yg0 0 true j AV.nilp) fun i =>
gb i true (some e) fun C =>
gb i true (yb .geq C (.int .i64 0)) fun A =>
ob (yh i A (.bool false)) fun c =>
gb c true (some e) fun H =>
gb c true (some k) fun v =>
gb c true (y17 1 v h) fun y =>
gb c true (yb .lss H y) fun G =>
ob (yh c G (.bool false)) fun g =>
gb g true (some d) fun o =>
gb g true (yb .geq o (.int .i64 0)) fun u =>
ob (yh g u (.bool false)) fun a =>
gb a true (some d) fun x =>
gb a true (some j) fun D =>
gb a true (yp D) fun l =>
gb a true (evFa 3 l) fun w =>
gb a true (evLd false 1 w h) fun n =>
gb a true (yb .lss x n) fun m =>
ob (yh a m (.bool false)) fun b =>
gb b true (some k) fun z =>
gb b true (some e) fun I =>
gb b true (y10 1 z I) fun p =>
gb b true (evLd false 1 p h) fun B =>
gb b true (some d) fun t =>
gh b true (yc E (yd E) 0 none true 83 [B, t] h) h fun F h1 =>
ob (yh b F (.bool false)) fun r =>
(yo h1 r)
def y2jr := KK4 yus 0 1 2 3
theorem y1yt : T0 y1ej [.t 8] y2jr := fun _ => by kernel_rfl
@[simp] theorem y2rs : E.pure 82 = true := rfl
theorem y2qu (a c b d : AV) : (yd E).p 82 [a, c, b, d] = yus a c b d [] :=
 (y1r (cf := y2kw) (by kernel_rfl) rfl).trans ((y1yt _).trans (by kernel_rfl))
def yl6 (h : Heap) : OX :=
(yo h (.int .i64 (-1)))
def y6k := KK0 yl6
theorem y1le : T0 yxh [.t 4] y6k := fun _ => by kernel_rfl
def yid (a d c b : AV) (h : Heap) : OX :=
 W E 0 yj8 ⟨[(0, a), (1, d), (7, c), (8, b)], h⟩ y6k (y6 0 y6k xN) (finP [.t 4])
def y89 := KK4 yid 0 1 7 8
theorem yku : T1 yj8 y6k (y6 0 y6k xN) [.t 4] y89 := fun s => yu.trans (by kernel_rfl)
def ykf (a c e b : AV) (h : Heap) : OX :=
ob (yb .add b (.int .i64 1)) fun d =>
(yid a c e d h)
def y2a5 := KK4 ykf 0 1 7 8
theorem y1pu : T1 y0t y89 (y6 0 y6k xN) [.t 4] y2a5 := fun _ => by kernel_rfl
def yld (b c g a : AV) (h : Heap) : OX :=
ob (y10 1 b a) fun e =>
ob (evLd false 1 e h) fun d =>
ob (yb .eql c d) fun i =>
cnd i
 ((yo h a))
 ((ykf b c g a h))
def y28c := KK4 yld 0 1 7 8
theorem y1ci : T1 yxc y89 (y6 0 y6k xN) [.t 4] y28c := sq y1pu fun _ => by kernel_rfl
def ymg (a d e c b : AV) (h : Heap) : OX :=
cnd b
 ((yld a d e c h))
 ((yl6 h))
def y2gn := KK5 ymg 0 1 7 8 9
theorem y1fe : T1 ywi y89 (y6 0 y6k xN) [.t 4] y2gn := sq y1ci fun _ => by kernel_rfl
def ymc (c e b a : AV) (h : Heap) : OX :=
ob (yb .lss a b) fun d =>
(ymg c e b a d h)
def y2dl := KK4 ymc 0 1 7 8
theorem y1n0 : T1 yzn y89 (y6 0 y6k xN) [.t 4] y2dl := sq y1fe fun _ => by kernel_rfl
theorem yle (a d c b : AV) (h : Heap) : yid a d c b h = (ymc a d c b h) :=
 y27.trans ((y1q _ _ _ (n' := y89) (fun s => yku s)).trans ((y1n0 _).trans (by kernel_rfl)))
theorem y1ot : T1 y12b y6k xN [.t 4] y89 := fun s => y11.trans (yku s)
def yla (a c : AV) (h : Heap) : OX :=
ob (y17 1 a h) fun b =>
(yid a c b (.int .i64 0) h)
def y1ti := KK2 yla 0 1
theorem y1kt : T1 yxe y6k xN [.t 4] y1ti := sq y1ot fun _ => by kernel_rfl
theorem y1el : T0 y11v [.t 4] y1ti := sq y1le y1kt
def yf3 (a b : AV) (h : Heap) : OX :=
(yla a b h)
def y22e := KK2 yf3 0 1
theorem y15u : T0 ys0 [.t 4] y22e := sq y1el fun _ => by kernel_rfl
@[simp] theorem y2uc : E.pure 45 = true := rfl
theorem y2nz (a b : AV) : (yd E).p 45 [a, b] = yf3 a b [] :=
 (y1r (cf := y276) (by kernel_rfl) rfl).trans ((y15u _).trans (by kernel_rfl))
def ygd (d b : AV) (h : Heap) : OX :=
ob (evLd true 9 d h) fun g =>
oh (yc E (yd E) 0 none true 51 [g] h) fun a h1 =>
ob (y29 0 a) fun c =>
ob (y29 1 a) fun e =>
oh (evSt 4 b c h1) fun _ h2 =>
(ob (evLd true 4 b h2) fun r0 =>
 yo h2 (.tup [r0, e]))
def yw := KK2 ygd 1 2
theorem y236 : T0 y1d5 [.cell 2 true 4, .t 3] yw := fun _ => by kernel_rfl
def yeg (d a c : AV) (h : Heap) : OX :=
cnd c
 (ob (yq zq6 [(0, 1, (.int .i64 (-1))), (1, 1, (.int .i64 (-1))), (2, 1, (.int .i64 (-1))), (3, 1, (.int .i64 (-1)))]) fun b =>
oh (evSt 4 a b h) fun _ h3 =>
(ob (evLd true 4 a h3) fun r0 =>
 yo h3 (.tup [r0, (.bool true)])))
 ((ygd d a h))
def y2n4 := KK3 yeg 1 2 134
theorem y1ty : T1 y1rj yw (y6 0 yw xN) [.cell 2 true 4, .t 3] y2n4 := fun _ => by kernel_rfl
def yg5 (c d a : AV) (h : Heap) : OX :=
ob (yb .eql a (.int .i64 27)) fun b =>
cnd b
 ((yeg c d b h))
 (ob (yb .eql a (.int .i64 33)) fun e =>
(yeg c d e h))
def y2pc := KK3 yg5 1 2 11
theorem y1zo : T1 y1ii yw (y6 0 yw xN) [.cell 2 true 4, .t 3] y2pc := sq y1ty fun _ => by kernel_rfl
def yg6 (c b j m : AV) (h : Heap) : OX :=
cnd m
 (ob (yq zq6 [(0, 1, (.int .i64 (-1))), (1, 1, (.int .i64 1)), (2, 1, (.int .i64 1)), (3, 1, (.int .i64 (-1)))]) fun l =>
ob (evFa 5 c) fun e =>
ob (evLd false 1 e h) fun g =>
ob (yb .geq g (.int .i64 0)) fun a =>
ofp (fgd a true (some ([], []))) fun f5 =>
gb a true (evFa 5 c) fun d =>
ofp (fgd a true (some (ids1 d, []))) fun f6 =>
gb a true (evLd false 1 d h) fun i =>
ofp (fgd a true (some ([], []))) fun f7 =>
gb a true (yb .leq i (.int .i64 5)) fun n =>
ob (yh a n (.bool false)) fun k =>
oh (evSt 4 b l h) fun _ h4 =>
okK (y1o [([], []), ([], []), (ids1 e, []), ([], []), ([], []), f5, f6, f7, ([], []), ([], ids1 b), ([], [])] [(6, 9)]) <|
(ob (evLd true 4 b h4) fun r0 =>
 yo h4 (.tup [r0, k])))
 ((yg5 c b j h))
def y2lk := KK4 yg6 1 2 11 123
theorem y1zv : T1 y1fo yw (y6 0 yw xN) [.cell 2 true 4, .t 3] y2lk := fun s => (y1s rfl (y1zo s)).trans (by kernel_rfl)
def yg8 (d c a : AV) (h : Heap) : OX :=
ob (yb .eql a (.int .i64 28)) fun b =>
(yg6 d c a b h)
def y2ou := KK3 yg8 1 2 11
theorem y1wy : T1 y1d4 yw (y6 0 yw xN) [.cell 2 true 4, .t 3] y2ou := sq y1zv fun _ => by kernel_rfl
def yg1 (b a g e : AV) (h : Heap) : OX :=
cnd e
 (ob (yq zq6 [(0, 1, (.int .i64 3)), (1, 1, (.int .i64 1)), (2, 1, (.int .i64 (-1))), (3, 1, (.int .i64 (-1)))]) fun j =>
ob (evFa 7 b) fun c =>
ob (evLd false 1 c h) fun i =>
oh (yc E (yd E) 0 none true 37 [i] h) fun d h5 =>
oh (evSt 4 a j h5) fun _ h6 =>
(ob (evLd true 4 a h6) fun r0 =>
 yo h6 (.tup [r0, d])))
 ((yg8 b a g h))
def y2ld := KK4 yg1 1 2 11 117
theorem y21f : T1 y1qo yw (y6 0 yw xN) [.cell 2 true 4, .t 3] y2ld := fun s => (y1s rfl (y1wy s)).trans (by kernel_rfl)
def yg9 (d c a : AV) (h : Heap) : OX :=
ob (yb .eql a (.int .i64 21)) fun b =>
(yg1 d c a b h)
def y2lf := KK3 yg9 1 2 11
theorem y23i : T1 y1k5 yw (y6 0 yw xN) [.cell 2 true 4, .t 3] y2lf := sq y21f fun _ => by kernel_rfl
def yg3 (e a c d : AV) (h : Heap) : OX :=
cnd d
 (ob (yq zq6 [(0, 1, (.int .i64 (-1))), (1, 1, (.int .i64 0)), (2, 1, (.int .i64 (-1))), (3, 1, (.int .i64 (-1)))]) fun b =>
oh (evSt 4 a b h) fun _ h7 =>
(ob (evLd true 4 a h7) fun r0 =>
 yo h7 (.tup [r0, (.bool true)])))
 ((yg9 e a c h))
def y2ov := KK4 yg3 1 2 11 114
theorem y1tw : T1 y189 yw (y6 0 yw xN) [.cell 2 true 4, .t 3] y2ov := fun s => (y1s rfl (y23i s)).trans (by kernel_rfl)
def yg2 (d c a : AV) (h : Heap) : OX :=
ob (yb .eql a (.int .i64 19)) fun b =>
(yg3 d c a b h)
def y2j2 := KK3 yg2 1 2 11
theorem y1zw : T1 y1li yw (y6 0 yw xN) [.cell 2 true 4, .t 3] y2j2 := sq y1tw fun _ => by kernel_rfl
def y97 (c a d g : AV) (h : Heap) : OX :=
cnd g
 (ob (yq zq6 [(0, 1, (.int .i64 (-1))), (1, 1, (.int .i64 3)), (2, 1, (.int .i64 0)), (3, 1, (.int .i64 (-1)))]) fun e =>
ob (evFa 5 c) fun b =>
ob (evLd false 1 b h) fun i =>
ob (yb .geq i (.int .i64 0)) fun j =>
oh (evSt 4 a e h) fun _ h8 =>
okK (y1o [([], []), ([], []), (ids1 b, []), ([], []), ([], ids1 a), ([], [])] [(2, 4)]) <|
(ob (evLd true 4 a h8) fun r0 =>
 yo h8 (.tup [r0, j])))
 ((yg2 c a d h))
def y27u := KK4 y97 1 2 11 108
theorem y1c6 : T1 y02 yw (y6 0 yw xN) [.cell 2 true 4, .t 3] y27u := fun s => (y1s rfl (y1zw s)).trans (by kernel_rfl)
def y8o (d c a : AV) (h : Heap) : OX :=
ob (yb .eql a (.int .i64 17)) fun b =>
(y97 d c a b h)
def y2h0 := KK3 y8o 1 2 11
theorem y1gi : T1 y0z yw (y6 0 yw xN) [.cell 2 true 4, .t 3] y2h0 := sq y1c6 fun _ => by kernel_rfl
def y98 (c a d g : AV) (h : Heap) : OX :=
cnd g
 (ob (yq zq6 [(0, 1, (.int .i64 0)), (1, 1, (.int .i64 3)), (2, 1, (.int .i64 (-1))), (3, 1, (.int .i64 (-1)))]) fun e =>
ob (evFa 5 c) fun b =>
ob (evLd false 1 b h) fun i =>
ob (yb .geq i (.int .i64 0)) fun j =>
oh (evSt 4 a e h) fun _ h9 =>
okK (y1o [([], []), ([], []), (ids1 b, []), ([], []), ([], ids1 a), ([], [])] [(2, 4)]) <|
(ob (evLd true 4 a h9) fun r0 =>
 yo h9 (.tup [r0, j])))
 ((y8o c a d h))
def y2fz := KK4 y98 1 2 11 102
theorem y1hp : T1 y13y yw (y6 0 yw xN) [.cell 2 true 4, .t 3] y2fz := fun s => (y1s rfl (y1gi s)).trans (by kernel_rfl)
def y9a (d c a : AV) (h : Heap) : OX :=
ob (yb .eql a (.int .i64 16)) fun b =>
(y98 d c a b h)
def y2fn := KK3 y9a 1 2 11
theorem y1bf : T1 y110 yw (y6 0 yw xN) [.cell 2 true 4, .t 3] y2fn := sq y1hp fun _ => by kernel_rfl
def y9k (d a b e : AV) (h : Heap) : OX :=
cnd e
 (ob (yq zq6 [(0, 1, (.int .i64 1)), (1, 1, (.int .i64 3)), (2, 1, (.int .i64 (-1))), (3, 1, (.int .i64 (-1)))]) fun c =>
oh (evSt 4 a c h) fun _ h10 =>
(ob (evLd true 4 a h10) fun r0 =>
 yo h10 (.tup [r0, (.bool true)])))
 ((y9a d a b h))
def y2f3 := KK4 y9k 1 2 11 99
theorem y1i9 : T1 ywy yw (y6 0 yw xN) [.cell 2 true 4, .t 3] y2f3 := fun s => (y1s rfl (y1bf s)).trans (by kernel_rfl)
def y9e (d c a : AV) (h : Heap) : OX :=
ob (yb .eql a (.int .i64 15)) fun b =>
(y9k d c a b h)
def y2ax := KK3 y9e 1 2 11
theorem y1na : T1 yyl yw (y6 0 yw xN) [.cell 2 true 4, .t 3] y2ax := sq y1i9 fun _ => by kernel_rfl
def y91 (c a b d : AV) (h : Heap) : OX :=
cnd d
 (ob (yq zq6 [(0, 1, (.int .i64 (-1))), (1, 1, (.int .i64 3)), (2, 1, (.int .i64 1)), (3, 1, (.int .i64 0))]) fun e =>
oh (evSt 4 a e h) fun _ h11 =>
(ob (evLd true 4 a h11) fun r0 =>
 yo h11 (.tup [r0, (.bool true)])))
 ((y9e c a b h))
def y2cc := KK4 y91 1 2 11 96
theorem y1aj : T1 yy3 yw (y6 0 yw xN) [.cell 2 true 4, .t 3] y2cc := fun s => (y1s rfl (y1na s)).trans (by kernel_rfl)
def y9l (d c a : AV) (h : Heap) : OX :=
ob (yb .eql a (.int .i64 14)) fun b =>
(y91 d c a b h)
def y2dr := KK3 y9l 1 2 11
theorem y1f9 : T1 y11g yw (y6 0 yw xN) [.cell 2 true 4, .t 3] y2dr := sq y1aj fun _ => by kernel_rfl
def y99 (d a c b : AV) (h : Heap) : OX :=
cnd b
 (ob (yq zq6 [(0, 1, (.int .i64 0)), (1, 1, (.int .i64 3)), (2, 1, (.int .i64 1)), (3, 1, (.int .i64 (-1)))]) fun e =>
oh (evSt 4 a e h) fun _ h12 =>
(ob (evLd true 4 a h12) fun r0 =>
 yo h12 (.tup [r0, (.bool true)])))
 ((y9l d a c h))
def y2bw := KK4 y99 1 2 11 93
theorem y18y : T1 y155 yw (y6 0 yw xN) [.cell 2 true 4, .t 3] y2bw := fun s => (y1s rfl (y1f9 s)).trans (by kernel_rfl)
def y8k (d c a : AV) (h : Heap) : OX :=
ob (yb .eql a (.int .i64 13)) fun b =>
(y99 d c a b h)
def y2fc := KK3 y8k 1 2 11
theorem y1s9 : T1 yvm yw (y6 0 yw xN) [.cell 2 true 4, .t 3] y2fc := sq y18y fun _ => by kernel_rfl
def y96 (d a b c : AV) (h : Heap) : OX :=
cnd c
 (ob (yq zq6 [(0, 1, (.int .i64 (-1))), (1, 1, (.int .i64 3)), (2, 1, (.int .i64 3)), (3, 1, (.int .i64 (-1)))]) fun e =>
oh (evSt 4 a e h) fun _ h13 =>
(ob (evLd true 4 a h13) fun r0 =>
 yo h13 (.tup [r0, (.bool true)])))
 ((y8k d a b h))
def y29h := KK4 y96 1 2 11 90
theorem y1dp : T1 y15a yw (y6 0 yw xN) [.cell 2 true 4, .t 3] y29h := fun s => (y1s rfl (y1s9 s)).trans (by kernel_rfl)
def y8v (d c a : AV) (h : Heap) : OX :=
ob (yb .eql a (.int .i64 11)) fun b =>
(y96 d c a b h)
def y280 := KK3 y8v 1 2 11
theorem y1l7 : T1 y13t yw (y6 0 yw xN) [.cell 2 true 4, .t 3] y280 := sq y1dp fun _ => by kernel_rfl
def y8y (d a b c : AV) (h : Heap) : OX :=
cnd c
 (ob (yq zq6 [(0, 1, (.int .i64 (-1))), (1, 1, (.int .i64 1)), (2, 1, (.int .i64 (-1))), (3, 1, (.int .i64 (-1)))]) fun e =>
oh (evSt 4 a e h) fun _ h14 =>
(ob (evLd true 4 a h14) fun r0 =>
 yo h14 (.tup [r0, (.bool true)])))
 ((y8v d a b h))
def y2fs := KK4 y8y 1 2 11 87
theorem y1p6 : T1 y11q yw (y6 0 yw xN) [.cell 2 true 4, .t 3] y2fs := fun s => (y1s rfl (y1l7 s)).trans (by kernel_rfl)
def y8m (d c a : AV) (h : Heap) : OX :=
ob (yb .eql a (.int .i64 10)) fun b =>
(y8y d c a b h)
def y29u := KK3 y8m 1 2 11
theorem y1d6 : T1 y11i yw (y6 0 yw xN) [.cell 2 true 4, .t 3] y29u := sq y1p6 fun _ => by kernel_rfl
def y9j (e a b d : AV) (h : Heap) : OX :=
cnd d
 (ob (yq zq6 [(0, 1, (.int .i64 (-1))), (1, 1, (.int .i64 3)), (2, 1, (.int .i64 1)), (3, 1, (.int .i64 (-1)))]) fun c =>
oh (evSt 4 a c h) fun _ h15 =>
(ob (evLd true 4 a h15) fun r0 =>
 yo h15 (.tup [r0, (.bool true)])))
 ((y8m e a b h))
def y2en := KK4 y9j 1 2 11 84
theorem y1ef : T1 y0b yw (y6 0 yw xN) [.cell 2 true 4, .t 3] y2en := fun s => (y1s rfl (y1d6 s)).trans (by kernel_rfl)
def y8s (d c a : AV) (h : Heap) : OX :=
ob (yb .eql a (.int .i64 9)) fun b =>
(y9j d c a b h)
def y2c2 := KK3 y8s 1 2 11
theorem y1dq : T1 y150 yw (y6 0 yw xN) [.cell 2 true 4, .t 3] y2c2 := sq y1ef fun _ => by kernel_rfl
def y8u (b a c i : AV) (h : Heap) : OX :=
cnd i
 (ob (yq zq6 [(0, 1, (.int .i64 1)), (1, 1, (.int .i64 3)), (2, 1, (.int .i64 (-1))), (3, 1, (.int .i64 (-1)))]) fun j =>
ob (evFa 7 b) fun e =>
ob (evLd false 1 e h) fun g =>
oh (yc E (yd E) 0 none true 37 [g] h) fun d h16 =>
oh (evSt 4 a j h16) fun _ h17 =>
(ob (evLd true 4 a h17) fun r0 =>
 yo h17 (.tup [r0, d])))
 ((y8s b a c h))
def y2bs := KK4 y8u 1 2 11 78
theorem y1qn : T1 y15d yw (y6 0 yw xN) [.cell 2 true 4, .t 3] y2bs := fun s => (y1s rfl (y1dq s)).trans (by kernel_rfl)
def y8x (d c a : AV) (h : Heap) : OX :=
ob (yb .eql a (.int .i64 22)) fun b =>
(y8u d c a b h)
def y2gx := KK3 y8x 1 2 11
theorem y1e4 : T1 y144 yw (y6 0 yw xN) [.cell 2 true 4, .t 3] y2gx := sq y1qn fun _ => by kernel_rfl
def y9f (b a d g : AV) (h : Heap) : OX :=
cnd g
 (ob (yq zq6 [(0, 1, (.int .i64 (-1))), (1, 1, (.int .i64 3)), (2, 1, (.int .i64 (-1))), (3, 1, (.int .i64 (-1)))]) fun j =>
ob (evFa 7 b) fun i =>
ob (evLd false 1 i h) fun e =>
oh (yc E (yd E) 0 none true 37 [e] h) fun c h18 =>
oh (evSt 4 a j h18) fun _ h19 =>
(ob (evLd true 4 a h19) fun r0 =>
 yo h19 (.tup [r0, c])))
 ((y8x b a d h))
def y2dp := KK4 y9f 1 2 11 72
theorem y1mr : T1 y123 yw (y6 0 yw xN) [.cell 2 true 4, .t 3] y2dp := fun s => (y1s rfl (y1e4 s)).trans (by kernel_rfl)
def y9i (d c a : AV) (h : Heap) : OX :=
ob (yb .eql a (.int .i64 12)) fun b =>
(y9f d c a b h)
def y28i := KK3 y9i 1 2 11
theorem y1q1 : T1 yww yw (y6 0 yw xN) [.cell 2 true 4, .t 3] y28i := sq y1mr fun _ => by kernel_rfl
def y73 (d a c e : AV) (h : Heap) : OX :=
cnd e
 (ob (yq zq6 [(0, 1, (.int .i64 (-1))), (1, 1, (.int .i64 3)), (2, 1, (.int .i64 (-1))), (3, 1, (.int .i64 (-1)))]) fun b =>
oh (evSt 4 a b h) fun _ h20 =>
(ob (evLd true 4 a h20) fun r0 =>
 yo h20 (.tup [r0, (.bool true)])))
 ((y9i d a c h))
def y2dx := KK4 y73 1 2 11 68
theorem y1ey : T1 y117 yw (y6 0 yw xN) [.cell 2 true 4, .t 3] y2dx := fun s => (y1s rfl (y1q1 s)).trans (by kernel_rfl)
def y8q (c d a : AV) (h : Heap) : OX :=
ob (yb .eql a (.int .i64 8)) fun b =>
cnd b
 ((y73 c d a b h))
 (ob (yb .eql a (.int .i64 31)) fun e =>
(y73 c d a e h))
def y28l := KK3 y8q 1 2 11
theorem y1gq : T1 y0r yw (y6 0 yw xN) [.cell 2 true 4, .t 3] y28l := sq y1ey fun _ => by kernel_rfl
def y95 (c a b e : AV) (h : Heap) : OX :=
cnd e
 (ob (yq zq6 [(0, 1, (.int .i64 (-1))), (1, 1, (.int .i64 0)), (2, 1, (.int .i64 (-1))), (3, 1, (.int .i64 (-1)))]) fun d =>
oh (evSt 4 a d h) fun _ h21 =>
(ob (evLd true 4 a h21) fun r0 =>
 yo h21 (.tup [r0, (.bool true)])))
 ((y8q c a b h))
def y2bd := KK4 y95 1 2 11 65
theorem y1km : T1 y11d yw (y6 0 yw xN) [.cell 2 true 4, .t 3] y2bd := fun s => (y1s rfl (y1gq s)).trans (by kernel_rfl)
def y8t (d c a : AV) (h : Heap) : OX :=
ob (yb .eql a (.int .i64 7)) fun b =>
(y95 d c a b h)
def y2ay := KK3 y8t 1 2 11
theorem y1tj : T1 yzz yw (y6 0 yw xN) [.cell 2 true 4, .t 3] y2ay := sq y1km fun _ => by kernel_rfl
def y9g (d c i r : AV) (h : Heap) : OX :=
cnd r
 (ob (evFa 5 d) fun p =>
ob (evLd false 1 p h) fun m =>
oh (yc E (yd E) 0 none true 50 [m] h) fun b h22 =>
ob (y29 0 b) fun e =>
ob (y29 1 b) fun o =>
ob (y29 2 b) fun g =>
ob (yq zq6 [(0, 1, g), (1, 1, e), (2, 1, (.int .i64 (-1))), (3, 1, (.int .i64 (-1)))]) fun k =>
ob (yb .neq e (.int .i64 0)) fun a =>
gb a true (some o) fun n =>
gb a true (yb .eql n (.int .i64 0)) fun l =>
ob (yh a l (.bool false)) fun j =>
oh (evSt 4 c k h22) fun _ h23 =>
(ob (evLd true 4 c h23) fun r0 =>
 yo h23 (.tup [r0, j])))
 ((y8t d c i h))
def y296 := KK4 y9g 1 2 11 47
theorem y17v : T1 yzx yw (y6 0 yw xN) [.cell 2 true 4, .t 3] y296 := fun s => (y1s rfl (y1tj s)).trans (by kernel_rfl)
def y9b (d c a : AV) (h : Heap) : OX :=
ob (yb .eql a (.int .i64 6)) fun b =>
(y9g d c a b h)
def y2ap := KK3 y9b 1 2 11
theorem y1nk : T1 yvg yw (y6 0 yw xN) [.cell 2 true 4, .t 3] y2ap := sq y17v fun _ => by kernel_rfl
def y8z (a c u g : AV) (h : Heap) : OX :=
cnd g
 (ob (evFa 5 a) fun i =>
ob (evLd false 1 i h) fun n =>
oh (yc E (yd E) 0 none true 50 [n] h) fun b h24 =>
ob (y29 0 b) fun j =>
ob (y29 1 b) fun e =>
ob (y29 2 b) fun k =>
ob (yq zq6 [(0, 1, k), (1, 1, j), (2, 1, e), (3, 1, (.int .i64 (-1)))]) fun p =>
ob (evFa 5 a) fun m =>
ob (evLd false 1 m h24) fun t =>
ob (evFa 5 a) fun l =>
ob (evLd false 1 l h24) fun r =>
ob (yb .eql t r) fun d =>
gb d true (some e) fun v =>
gb d true (yb .neq v (.int .i64 0)) fun o =>
ob (yh d o (.bool false)) fun w =>
oh (evSt 4 c p h24) fun _ h25 =>
(ob (evLd true 4 c h25) fun r0 =>
 yo h25 (.tup [r0, w])))
 ((y9b a c u h))
def y2gz := KK4 y8z 1 2 11 25
theorem y1s7 : T1 yz2 yw (y6 0 yw xN) [.cell 2 true 4, .t 3] y2gz := fun s => (y1s rfl (y1nk s)).trans (by kernel_rfl)
def y9h (d c a : AV) (h : Heap) : OX :=
ob (yb .eql a (.int .i64 5)) fun b =>
(y8z d c a b h)
def y2am := KK3 y9h 1 2 11
theorem y1cu : T1 ywp yw (y6 0 yw xN) [.cell 2 true 4, .t 3] y2am := sq y1s7 fun _ => by kernel_rfl
def y94 (c a b e : AV) (h : Heap) : OX :=
cnd e
 (ob (yq zq6 [(0, 1, (.int .i64 0)), (1, 1, (.int .i64 0)), (2, 1, (.int .i64 (-1))), (3, 1, (.int .i64 (-1)))]) fun d =>
oh (evSt 4 a d h) fun _ h26 =>
(ob (evLd true 4 a h26) fun r0 =>
 yo h26 (.tup [r0, (.bool true)])))
 ((y9h c a b h))
def y2fv := KK4 y94 1 2 11 22
theorem y1l0 : T1 yvp yw (y6 0 yw xN) [.cell 2 true 4, .t 3] y2fv := fun s => (y1s rfl (y1cu s)).trans (by kernel_rfl)
def y9d (d c a : AV) (h : Heap) : OX :=
ob (yb .eql a (.int .i64 4)) fun b =>
(y94 d c a b h)
def y28y := KK3 y9d 1 2 11
theorem y1ah : T1 y08 yw (y6 0 yw xN) [.cell 2 true 4, .t 3] y28y := sq y1l0 fun _ => by kernel_rfl
def y62 (c a b e : AV) (h : Heap) : OX :=
cnd e
 (ob (yq zq6 [(0, 1, (.int .i64 3)), (1, 1, (.int .i64 (-1))), (2, 1, (.int .i64 (-1))), (3, 1, (.int .i64 (-1)))]) fun d =>
oh (evSt 4 a d h) fun _ h27 =>
(ob (evLd true 4 a h27) fun r0 =>
 yo h27 (.tup [r0, (.bool true)])))
 ((y9d c a b h))
def y2g7 := KK4 y62 1 2 11 16
theorem y1cr : T1 yzu yw (y6 0 yw xN) [.cell 2 true 4, .t 3] y2g7 := fun s => (y1s rfl (y1ah s)).trans (by kernel_rfl)
def y8r (b c a : AV) (h : Heap) : OX :=
ob (yb .eql a (.int .i64 2)) fun d =>
cnd d
 ((y62 b c a d h))
 (ob (yb .eql a (.int .i64 3)) fun e =>
cnd e
 ((y62 b c a e h))
 (ob (yb .eql a (.int .i64 20)) fun g =>
cnd g
 ((y62 b c a g h))
 (ob (yb .eql a (.int .i64 32)) fun i =>
(y62 b c a i h))))
def y285 := KK3 y8r 1 2 11
theorem y1g0 : T1 y12e yw (y6 0 yw xN) [.cell 2 true 4, .t 3] y285 := sq y1cr fun _ => by kernel_rfl
def y78 (d a b e : AV) (h : Heap) : OX :=
cnd e
 (ob (yq zq6 [(0, 1, (.int .i64 0)), (1, 1, (.int .i64 (-1))), (2, 1, (.int .i64 (-1))), (3, 1, (.int .i64 (-1)))]) fun c =>
oh (evSt 4 a c h) fun _ h28 =>
(ob (evLd true 4 a h28) fun r0 =>
 yo h28 (.tup [r0, (.bool true)])))
 ((y8r d a b h))
def y2g0 := KK4 y78 1 2 11 12
theorem y1lo : T1 y119 yw (y6 0 yw xN) [.cell 2 true 4, .t 3] y2g0 := fun s => (y1s rfl (y1g0 s)).trans (by kernel_rfl)
def y8n (b d a : AV) (h : Heap) : OX :=
ob (yb .eql a (.int .i64 1)) fun c =>
cnd c
 ((y78 b d a c h))
 (ob (yb .eql a (.int .i64 18)) fun e =>
(y78 b d a e h))
def y1oz := KK3 y8n 1 2 11
theorem y1o0 : T1 y0f yw (y6 0 yw xN) [.cell 2 true 4, .t 3] y1oz := sq y1lo fun _ => by kernel_rfl
theorem y1b6 : T1 yy0 yw xN [.cell 2 true 4, .t 3] y1oz := fun s => y11.trans (y1o0 s)
def y9c (a c : AV) (h : Heap) : OX :=
ob (evFa 0 a) fun b =>
ob (evLd false 1 b h) fun d =>
(y8n a c d h)
def y1tk := KK2 y9c 1 2
theorem y1mv : T1 yy4 yw xN [.cell 2 true 4, .t 3] y1tk := sq y1b6 fun _ => by kernel_rfl
theorem y1jn : T0 y113 [.cell 2 true 4, .t 3] y1tk := sq y236 y1mv
def y8w (a : AV) (h : Heap) : OX :=
oh (newC 0 (some 0) (cellsOf a) h) fun c h29 =>
oh (newC 0 (some 1) zq6 h29) fun b h30 =>
(y9c c b h30)
def y2cs := KK1 y8w 0
theorem y1k3 : T0 yvy [.cell 2 true 4, .t 3] y2cs := sq y1jn fun _ => by kernel_rfl
@[simp] theorem y2s9 : E.pure 47 = true := rfl
theorem y1cb (a : AV) : (yd E).p 47 [a] = y8w a [⟨0, .dead⟩, ⟨0, .dead⟩] :=
 (y1r (cf := y2pf) (by kernel_rfl) rfl).trans ((y1k3 _).trans (by kernel_rfl))
def y1pl (i : AV) (h : Heap) : OX :=
oh (newC 0 (some 0) (cellsOf i) h) fun a h1 =>
ob (evFa 0 a) fun o =>
ob (evLd false 1 o h1) fun y =>
ob (yb .geq y (.int .i64 7)) fun b =>
gb b true (evFa 0 a) fun l =>
gb b true (evLd false 1 l h1) fun A =>
gb b true (yb .leq A (.int .i64 12)) fun z =>
ob (yh b z (.bool false)) fun e =>
gb e false (evFa 0 a) fun w =>
gb e false (evLd false 1 w h1) fun v =>
gb e false (yb .eql v (.int .i64 20)) fun j =>
ob (yh e (.bool true) j) fun c =>
gb c false (evFa 0 a) fun p =>
gb c false (evLd false 1 p h1) fun u =>
gb c false (yb .eql u (.int .i64 21)) fun B =>
ob (yh c (.bool true) B) fun d =>
gb d false (evFa 0 a) fun m =>
gb d false (evLd false 1 m h1) fun n =>
gb d false (yb .eql n (.int .i64 31)) fun t =>
ob (yh d (.bool true) t) fun g =>
gb g false (evLd true 9 a h1) fun x =>
gh g false (yc E (yd E) 0 none true 17 [x] h1) h1 fun k h2 =>
ob (yh g (.bool true) k) fun r =>
(yo h2 r)
def y2lm := KK1 y1pl 0
theorem y201 : T0 y1p4 [.t 2] y2lm := fun _ => by kernel_rfl
@[simp] theorem y2sg : E.pure 18 = true := rfl
theorem y2tr (a : AV) : (yd E).p 18 [a] = y1pl a [⟨0, .dead⟩] :=
 (y1r (cf := y2p9) (by kernel_rfl) rfl).trans ((y201 _).trans (by kernel_rfl))
def y156 (a : AV) (h : Heap) : OX :=
oh (yl 0 (some 0) 1 0 [(.int .i64 0)] [] h) fun c h1 =>
oh (y1v 0 (some 1) 1 8 c a h1) fun b h2 =>
(yo h2 b)
def y2ds := KK1 y156 0
theorem y1gh : T0 y0p [.t 2] y2ds := fun _ => by kernel_rfl
def yx4 (a : AV) (h : Heap) : OX :=
ob (yg0 1 false a AV.nils) fun b =>
cnd b
 ((yo h AV.nils))
 ((y156 a h))
def y27v := KK1 yx4 0
theorem y1p7 : T0 y0a [.t 2] y27v := sq y1gh fun _ => by kernel_rfl
def y01 (a : AV) (h : Heap) : OX :=
(yx4 a h)
def y2c6 := KK1 y01 0
theorem y190 : T0 y13h [.t 2] y2c6 := sq y1p7 fun _ => by kernel_rfl
@[simp] theorem y2t8 : E.pure 39 = true := rfl
theorem y2j3 (a : AV) : (yd E).p 39 [a] = y01 a [⟨0, .dead⟩, ⟨0, .dead⟩] :=
 (y1r (cf := y254) (by kernel_rfl) rfl).trans ((y190 _).trans (by kernel_rfl))
def y29y (c a : AV) (h : Heap) : OX :=
ob (yb .quo a (.int .i64 64)) fun i =>
ob (y10 1 c i) fun e =>
ob (evLd false 1 e h) fun d =>
ob (yb .rem a (.int .i64 64)) fun b =>
ob (yb .shr d b) fun k =>
ob (yb .and k (.int .u64 1)) fun j =>
ob (yb .eql j (.int .u64 1)) fun g =>
(yo h g)
def y2id := KK2 y29y 0 1
theorem y1w6 : T0 y1ai [.t 4] y2id := fun _ => by kernel_rfl
@[simp] theorem y2sh : E.pure 83 = true := rfl
theorem y2tp (a b : AV) : (yd E).p 83 [a, b] = y29y a b [] :=
 (y1r (cf := y2jq) (by kernel_rfl) rfl).trans ((y1w6 _).trans (by kernel_rfl))
def y2bt (h : Heap) : OX :=
(yo h (.tup [(.int .i64 0), (.int .i64 0), (.int .i64 0)]))
def y3n := KK0 y2bt
theorem y1y8 : T0 y1n2 [.t 2, .t 3, .t 4] y3n := fun _ => by kernel_rfl
def y162 (a e : AV) (h : Heap) : OX :=
cnd e
 ((yo h (.tup [(.int .i64 1), (.int .i64 0), (.int .i64 1)])))
 (ob (yb .eql a (.int .i64 117)) fun d =>
cnd d
 ((yo h (.tup [(.int .i64 2), (.int .i64 0), (.int .i64 2)])))
 (ob (yb .eql a (.int .i64 133)) fun c =>
cnd c
 ((yo h (.tup [(.int .i64 1), (.int .i64 0), (.int .i64 2)])))
 (ob (yb .eql a (.int .i64 136)) fun b =>
cnd b
 ((yo h (.tup [(.int .i64 2), (.int .i64 0), (.int .i64 1)])))
 ((y2bt h)))))
def y2l1 := KK2 y162 5 33
theorem y221 : T1 y1hg y3n (y6 0 y3n xN) [.t 2, .t 3, .t 4] y2l1 := fun _ => by kernel_rfl
def y2fq (a : AV) (h : Heap) : OX :=
ob (yb .eql a (.int .i64 116)) fun b =>
cnd b
 ((y162 a b h))
 (ob (yb .eql a (.int .i64 145)) fun d =>
cnd d
 ((y162 a d h))
 (ob (yb .eql a (.int .i64 146)) fun c =>
cnd c
 ((y162 a c h))
 (ob (yb .eql a (.int .i64 147)) fun e =>
(y162 a e h))))
def y2nx := KK1 y2fq 5
theorem y1tv : T1 y1gv y3n (y6 0 y3n xN) [.t 2, .t 3, .t 4] y2nx := sq y221 fun _ => by kernel_rfl
def y288 (b a : AV) (h : Heap) : OX :=
cnd a
 ((yo h (.tup [(.int .i64 2), (.int .i64 2), (.int .i64 1)])))
 ((y2fq b h))
def y2o1 := KK2 y288 5 31
theorem y24b : T1 y1sy y3n (y6 0 y3n xN) [.t 2, .t 3, .t 4] y2o1 := fun s => (y1s rfl (y1tv s)).trans (by kernel_rfl)
def y28k (a : AV) (h : Heap) : OX :=
ob (yb .eql a (.int .i64 148)) fun b =>
(y288 a b h)
def y2oe := KK1 y28k 5
theorem y22v : T1 y1a1 y3n (y6 0 y3n xN) [.t 2, .t 3, .t 4] y2oe := sq y24b fun _ => by kernel_rfl
def y1l4 (b a : AV) (h : Heap) : OX :=
cnd a
 ((yo h (.tup [(.int .i64 2), (.int .i64 1), (.int .i64 2)])))
 ((y28k b h))
def y2n8 := KK2 y1l4 5 27
theorem y24a : T1 y1ev y3n (y6 0 y3n xN) [.t 2, .t 3, .t 4] y2n8 := fun s => (y1s rfl (y22v s)).trans (by kernel_rfl)
def y2a4 (a : AV) (h : Heap) : OX :=
ob (yb .eql a (.int .i64 121)) fun b =>
cnd b
 ((y1l4 a b h))
 (ob (yb .eql a (.int .i64 123)) fun c =>
cnd c
 ((y1l4 a c h))
 (ob (yb .eql a (.int .i64 125)) fun d =>
(y1l4 a d h)))
def y2nn := KK1 y2a4 5
theorem y216 : T1 y1jz y3n (y6 0 y3n xN) [.t 2, .t 3, .t 4] y2nn := sq y24a fun _ => by kernel_rfl
def yjy (b a : AV) (h : Heap) : OX :=
cnd a
 ((yo h (.tup [(.int .i64 2), (.int .i64 2), (.int .i64 2)])))
 ((y2a4 b h))
def y2kn := KK2 yjy 5 18
theorem y23v : T1 y1da y3n (y6 0 y3n xN) [.t 2, .t 3, .t 4] y2kn := fun s => (y1s rfl (y216 s)).trans (by kernel_rfl)
def y2es (a : AV) (h : Heap) : OX :=
ob (yb .eql a (.int .i64 97)) fun i =>
cnd i
 ((yjy a i h))
 (ob (yb .eql a (.int .i64 101)) fun j =>
cnd j
 ((yjy a j h))
 (ob (yb .eql a (.int .i64 105)) fun e =>
cnd e
 ((yjy a e h))
 (ob (yb .eql a (.int .i64 109)) fun g =>
cnd g
 ((yjy a g h))
 (ob (yb .eql a (.int .i64 113)) fun c =>
cnd c
 ((yjy a c h))
 (ob (yb .eql a (.int .i64 127)) fun d =>
cnd d
 ((yjy a d h))
 (ob (yb .eql a (.int .i64 129)) fun b =>
cnd b
 ((yjy a b h))
 (ob (yb .eql a (.int .i64 131)) fun k =>
(yjy a k h))))))))
def y2pl := KK1 y2es 5
theorem y1y9 : T1 y1mg y3n (y6 0 y3n xN) [.t 2, .t 3, .t 4] y2pl := sq y23v fun _ => by kernel_rfl
def y7h (b a : AV) (h : Heap) : OX :=
cnd a
 ((yo h (.tup [(.int .i64 1), (.int .i64 1), (.int .i64 1)])))
 ((y2es b h))
def y2a2 := KK2 y7h 5 6
theorem y1r7 : T1 y14w y3n (y6 0 y3n xN) [.t 2, .t 3, .t 4] y2a2 := fun s => (y1s rfl (y1y9 s)).trans (by kernel_rfl)
def y1p5 (a : AV) (h : Heap) : OX :=
ob (yb .eql a (.int .i64 96)) fun j =>
cnd j
 ((y7h a j h))
 (ob (yb .eql a (.int .i64 100)) fun e =>
cnd e
 ((y7h a e h))
 (ob (yb .eql a (.int .i64 104)) fun d =>
cnd d
 ((y7h a d h))
 (ob (yb .eql a (.int .i64 108)) fun i =>
cnd i
 ((y7h a i h))
 (ob (yb .eql a (.int .i64 112)) fun b =>
cnd b
 ((y7h a b h))
 (ob (yb .eql a (.int .i64 120)) fun m =>
cnd m
 ((y7h a m h))
 (ob (yb .eql a (.int .i64 122)) fun k =>
cnd k
 ((y7h a k h))
 (ob (yb .eql a (.int .i64 124)) fun g =>
cnd g
 ((y7h a g h))
 (ob (yb .eql a (.int .i64 126)) fun c =>
cnd c
 ((y7h a c h))
 (ob (yb .eql a (.int .i64 128)) fun l =>
cnd l
 ((y7h a l h))
 (ob (yb .eql a (.int .i64 130)) fun n =>
(y7h a n h)))))))))))
def y1ow := KK1 y1p5 5
theorem y19p : T1 y12m y3n (y6 0 y3n xN) [.t 2, .t 3, .t 4] y1ow := sq y1r7 fun _ => by kernel_rfl
theorem y1os : T1 y13b y3n xN [.t 2, .t 3, .t 4] y1ow := fun s => y11.trans (y19p s)
def y1ky (a : AV) (h : Heap) : OX :=
(y1p5 a h)
def y191 := KK1 y1ky 0
theorem y1rl : T1 yzc y3n xN [.t 2, .t 3, .t 4] y191 := sq y1os fun _ => by kernel_rfl
theorem y1s6 : T0 y14g [.t 2, .t 3, .t 4] y191 := sq y1y8 y1rl
def y1rt (a : AV) (h : Heap) : OX :=
(y1ky a h)
def y283 := KK1 y1rt 0
theorem y1h4 : T0 y11a [.t 2, .t 3, .t 4] y283 := sq y1s6 fun _ => by kernel_rfl
@[simp] theorem y2sr : E.pure 50 = true := rfl
theorem y2r2 (a : AV) : (yd E).p 50 [a] = y1rt a [] :=
 (y1r (cf := y2lc) (by kernel_rfl) rfl).trans ((y1h4 _).trans (by kernel_rfl))
def q2_1 (b : AV) (h : Heap) : OX :=
ob (yb .neq b (AV.str [])) fun a =>
gb a true (some b) fun j =>
gh a true (yc E (yd E) 0 none true 44 [j] h) h fun i h1 =>
gb a true (some b) fun e =>
gb a true (y17 0 e h1) fun d =>
gb a true (yb .eql i d) fun g =>
ob (yh a g (.bool false)) fun c =>
(yo h1 c)
def y2s4 := KK1 q2_1 0
theorem y2fa : T0 y25y [.t 2] y2s4 := fun _ => by kernel_rfl
@[simp] theorem y2r4 : E.pure 37 = true := rfl
theorem x_q2 (a : AV) : (yd E).p 37 [a] = q2_1 a [] :=
 (y1r (cf := c_q2) (by kernel_rfl) rfl).trans ((y2fa _).trans (by kernel_rfl))
def ysp (a : AV) (h : Heap) : OX :=
ob (yq zq6 []) fun b =>
oh (evSt 4 a b h) fun _ h1 =>
(ob (evLd true 4 a h1) fun r0 =>
 yo h1 (.tup [r0, (.bool false)]))
def y2h := KK1 ysp 2
theorem y1x4 : T0 y1f6 [.cell 2 true 4, .t 3] y2h := fun _ => by kernel_rfl
def ysa (d b j : AV) (h : Heap) : OX :=
ob (yq zq6 [(0, 1, (.int .i64 (-1))), (1, 1, (.int .i64 3)), (2, 1, j), (3, 1, (.int .i64 (-1)))]) fun m =>
ob (evFa 5 d) fun c =>
ob (evLd false 1 c h) fun k =>
ob (yb .eql k (.int .i64 0)) fun a =>
ofp (fgd a false (some ([], []))) fun f6 =>
gb a false (evFa 5 d) fun e =>
ofp (fgd a false (some (ids1 e, []))) fun f7 =>
gb a false (evLd false 1 e h) fun l =>
ofp (fgd a false (some ([], []))) fun f8 =>
gb a false (yb .eql l (.int .i64 1)) fun g =>
ob (yh a (.bool true) g) fun i =>
oh (evSt 4 b m h) fun _ h2 =>
okK (y1o [([], []), ([], []), ([], []), (ids1 c, []), ([], []), ([], []), f6, f7, f8, ([], []), ([], ids1 b), ([], [])] [(7, 10)]) <|
(ob (evLd true 4 b h2) fun r0 =>
 yo h2 (.tup [r0, i]))
def y2n2 := KK3 ysa 1 2 4
theorem y249 : T1 y1f4 y2h (y6 0 y2h xN) [.cell 2 true 4, .t 3] y2n2 := fun _ => by kernel_rfl
def yte (a b d : AV) (h : Heap) : OX :=
ob (evFa 3 a) fun g =>
ob (evLd false 1 g h) fun e =>
ob (yb .neq e (.int .i64 (-1))) fun c =>
cnd c
 ((ysa a b (.int .i64 3) h))
 ((ysa a b d h))
def y2ii := KK3 yte 1 2 4
theorem y1w3 : T1 y1h9 y2h (y6 0 y2h xN) [.cell 2 true 4, .t 3] y2ii := sq y249 fun _ => by kernel_rfl
def yti (b a : AV) (h : Heap) : OX :=
(yte b a (.int .i64 (-1)) h)
def y2m3 := KK2 yti 1 2
theorem y1ub : T1 y1jo y2h (y6 0 y2h xN) [.cell 2 true 4, .t 3] y2m3 := sq y1w3 fun _ => by kernel_rfl
def ysf (a c : AV) (h : Heap) : OX :=
ob (yq zq6 [(0, 1, (.int .i64 (-1))), (1, 1, c), (2, 1, (.int .i64 (-1))), (3, 1, (.int .i64 (-1)))]) fun b =>
oh (evSt 4 a b h) fun _ h3 =>
(ob (evLd true 4 a h3) fun r0 =>
 yo h3 (.tup [r0, (.bool true)]))
def y2o6 := KK2 ysf 2 5
theorem y1um : T1 y1kp y2h (y6 0 y2h xN) [.cell 2 true 4, .t 3] y2o6 := fun _ => by kernel_rfl
def ytl (c a e : AV) (h : Heap) : OX :=
ob (evFa 2 c) fun g =>
ob (evLd false 1 g h) fun d =>
ob (yb .neq d (.int .i64 (-1))) fun b =>
cnd b
 ((ysf a (.int .i64 0) h))
 ((ysf a e h))
def y2ns := KK3 ytl 1 2 5
theorem y1xz : T1 y1hq y2h (y6 0 y2h xN) [.cell 2 true 4, .t 3] y2ns := sq y1um fun _ => by kernel_rfl
def yub (b a : AV) (h : Heap) : OX :=
(ytl b a (.int .i64 (-1)) h)
def y2oq := KK2 yub 1 2
theorem y1wa : T1 y1ny y2h (y6 0 y2h xN) [.cell 2 true 4, .t 3] y2oq := sq y1xz fun _ => by kernel_rfl
def yp0 (d i z : AV) (h : Heap) : OX :=
ob (evFa 0 d) fun v =>
ob (evLd false 1 v h) fun B =>
ob (yb .eql B (.int .i64 23)) fun g =>
gb g false (evFa 0 d) fun G =>
gb g false (evLd false 1 G h) fun y =>
gb g false (yb .eql y (.int .i64 26)) fun H =>
ob (yh g (.bool true) H) fun e =>
gb e false (evFa 8 d) fun x =>
gb e false (evLd false 1 x h) fun I =>
gb e false (y17 1 I h) fun r =>
gb e false (yb .gtr r (.int .i64 0)) fun F =>
ob (yh e (.bool true) F) fun a =>
ob (yq zq6 [(0, 1, z), (1, 1, (.int .i64 (-1))), (2, 1, (.int .i64 (-1))), (3, 1, (.int .i64 (-1)))]) fun C =>
ofp (fgd a true (some ([], []))) fun f4 =>
gb a true (evFa 5 d) fun k =>
ofp (fgd a true (some (ids1 k, []))) fun f5 =>
gb a true (evLd false 1 k h) fun t =>
ofp (fgd a true (some ([], []))) fun f6 =>
gb a true (yb .geq t (.int .i64 0)) fun p =>
ofp (fgd a true (some ([], []))) fun f7 =>
gb a true (some p) fun c =>
ofp (fgd c false (some ([], []))) fun f8 =>
gb c false (evFa 0 d) fun l =>
ofp (fgd c false (some (ids1 l, []))) fun f9 =>
gb c false (evLd false 1 l h) fun o =>
ofp (fgd c false (some ([], []))) fun f10 =>
gb c false (yb .eql o (.int .i64 25)) fun D =>
ofp (fgd a true (some ([], []))) fun f11 =>
gb a true (yh c (.bool true) D) fun w =>
ob (yh a w (.bool false)) fun b =>
ofp (fgd b true (some ([], []))) fun f14 =>
gb b true (evFa 8 d) fun m =>
ofp (fgd b true (some (ids1 m, []))) fun f15 =>
gb b true (evLd false 1 m h) fun j =>
ofp (fgd b true (some (ids1 j, []))) fun f16 =>
gb b true (y17 1 j h) fun u =>
ofp (fgd b true (some ([], []))) fun f17 =>
gb b true (yb .leq u (.int .i64 21)) fun A =>
ob (yh b A (.bool false)) fun n =>
oh (evSt 4 i C h) fun _ h4 =>
okK (y1o [([], []), ([], []), ([], []), ([], []), f4, f5, f6, f7, f8, f9, f10, f11, ([], []), ([], []), f14, f15, f16, f17, ([], []), ([], ids1 i), ([], [])] [(15, 19), (16, 19)]) <|
(ob (evLd true 4 i h4) fun r0 =>
 yo h4 (.tup [r0, n]))
def y2n1 := KK3 yp0 1 2 6
theorem y1ya : T1 y1mk y2h (y6 0 y2h xN) [.cell 2 true 4, .t 3] y2n1 := fun _ => by kernel_rfl
def yu1 (a b e : AV) (h : Heap) : OX :=
ob (evFa 1 a) fun g =>
ob (evLd false 1 g h) fun c =>
ob (yb .neq c (.int .i64 (-1))) fun d =>
cnd d
 ((yp0 a b (.int .i64 0) h))
 ((yp0 a b e h))
def y2jl := KK3 yu1 1 2 6
theorem y20k : T1 y1lu y2h (y6 0 y2h xN) [.cell 2 true 4, .t 3] y2jl := sq y1ya fun _ => by kernel_rfl
def ygz (b a : AV) (h : Heap) : OX :=
(yu1 b a (.int .i64 (-1)) h)
def y2fe := KK2 ygz 1 2
theorem y1ie : T1 ywa y2h (y6 0 y2h xN) [.cell 2 true 4, .t 3] y2fe := sq y20k fun _ => by kernel_rfl
def ybu (c a b : AV) (h : Heap) : OX :=
cnd b
 ((ygz c a h))
 ((ysp a h))
def y2bv := KK3 ybu 1 2 32
theorem y1r9 : T1 y126 y2h (y6 0 y2h xN) [.cell 2 true 4, .t 3] y2bv := fun s => (y1s (y1ie s) rfl).trans (by kernel_rfl)
def yjo (b c a : AV) (h : Heap) : OX :=
ob (yb .eql a (.int .i64 23)) fun g =>
cnd g
 ((ybu b c g h))
 (ob (yb .eql a (.int .i64 24)) fun e =>
cnd e
 ((ybu b c e h))
 (ob (yb .eql a (.int .i64 25)) fun d =>
cnd d
 ((ybu b c d h))
 (ob (yb .eql a (.int .i64 26)) fun i =>
(ybu b c i h))))
def y294 := KK3 yjo 1 2 9
theorem y1a4 : T1 y13q y2h (y6 0 y2h xN) [.cell 2 true 4, .t 3] y294 := sq y1r9 fun _ => by kernel_rfl
def yht (b a c d : AV) (h : Heap) : OX :=
cnd d
 ((yub b a h))
 ((yjo b a c h))
def y2de := KK4 yht 1 2 9 25
theorem y1l6 : T1 yys y2h (y6 0 y2h xN) [.cell 2 true 4, .t 3] y2de := fun s => (y1s (y1wa s) (y1a4 s)).trans (by kernel_rfl)
def yip (d c a : AV) (h : Heap) : OX :=
ob (yb .eql a (.int .i64 30)) fun b =>
(yht d c a b h)
def y2b8 := KK3 yip 1 2 9
theorem y1cl : T1 yzg y2h (y6 0 y2h xN) [.cell 2 true 4, .t 3] y2b8 := sq y1l6 fun _ => by kernel_rfl
def yjl (b a d c : AV) (h : Heap) : OX :=
cnd c
 ((yti b a h))
 ((yip b a d h))
def y2cl := KK4 yjl 1 2 9 10
theorem y1b8 : T1 y13c y2h (y6 0 y2h xN) [.cell 2 true 4, .t 3] y2cl := fun s => (y1s (y1ub s) (y1cl s)).trans (by kernel_rfl)
def yjd (c b a : AV) (h : Heap) : OX :=
ob (yb .eql a (.int .i64 29)) fun d =>
(yjl c b a d h)
def y1kr := KK3 yjd 1 2 9
theorem y1iw : T1 y0g y2h (y6 0 y2h xN) [.cell 2 true 4, .t 3] y1kr := sq y1b8 fun _ => by kernel_rfl
theorem y1t8 : T1 yvd y2h xN [.cell 2 true 4, .t 3] y1kr := fun s => y11.trans (y1iw s)
def yhk (a d : AV) (h : Heap) : OX :=
ob (evFa 0 a) fun b =>
ob (evLd false 1 b h) fun c =>
(yjd a d c h)
def y1i3 := KK2 yhk 1 2
theorem y19a : T1 y118 y2h xN [.cell 2 true 4, .t 3] y1i3 := sq y1t8 fun _ => by kernel_rfl
theorem y1jw : T0 y15b [.cell 2 true 4, .t 3] y1i3 := sq y1x4 y19a
def yje (a : AV) (h : Heap) : OX :=
oh (newC 0 (some 0) (cellsOf a) h) fun c h5 =>
oh (newC 0 (some 1) zq6 h5) fun b h6 =>
(yhk c b h6)
def y2f0 := KK1 yje 0
theorem y1cq : T0 y11n [.cell 2 true 4, .t 3] y2f0 := sq y1jw fun _ => by kernel_rfl
@[simp] theorem y2r1 : E.pure 51 = true := rfl
theorem y208 (a : AV) : (yd E).p 51 [a] = yje a [⟨0, .dead⟩, ⟨0, .dead⟩] :=
 (y1r (cf := y2pd) (by kernel_rfl) rfl).trans ((y1cq _).trans (by kernel_rfl))
def q3_1 (h : Heap) : OX :=
(yo h (.int .i64 0))
def y3i := KK0 q3_1
theorem y2h3 : T0 y27k [.t 2] y3i := fun _ => by kernel_rfl
def y1bv (a c b : AV) (h : Heap) : OX :=
 W E 0 yur ⟨[(0, a), (3, c), (4, b)], h⟩ y3i (y6 3 y3i (y6 2 y3i xN)) (finP [.t 2])
def yl3 := KK3 y1bv 0 3 4
theorem y13f : T1 yur y3i (y6 3 y3i (y6 2 y3i xN)) [.t 2] yl3 := fun s => yu.trans (by kernel_rfl)
def q3_3 (a d c : AV) (h : Heap) : OX :=
ob (yb .add c (.int .i64 1)) fun b =>
(y1bv a d b h)
def yk5 := KK3 q3_3 0 3 4
theorem y29f : T1 y25f yl3 (y6 3 y3i (y6 2 y3i xN)) [.t 2] yk5 := fun _ => by kernel_rfl
def q3_4 (h : Heap) : OX :=
(yo h (.int .i64 0))
def y2rl := KK0 q3_4
theorem y2af : T1 y250 yk5 (y6 4 yk5 (y6 3 y3i (y6 2 y3i xN))) [.t 2] y2rl := fun _ => by kernel_rfl
def q3_5 (c d a : AV) (h : Heap) : OX :=
ob (yb .add d (.int .i64 1)) fun b =>
ob (y1pk c (some b) (some a)) fun g =>
oh (yc E (yd E) 0 none true 60 [g, (.bool false)] h) fun e h1 =>
cnd e
 (ob (yb .add a (.int .i64 1)) fun i =>
(yo h1 i))
 ((q3_4 h1))
def y2rt := KK3 q3_5 0 3 4
theorem y2fh : T1 y256 yk5 (y6 4 yk5 (y6 3 y3i (y6 2 y3i xN))) [.t 2] y2rt := sq y2af fun _ => by kernel_rfl
def q3_6 (a c b d : AV) (h : Heap) : OX :=
cnd d
 ((q3_5 a c b h))
 ((q3_3 a c b h))
def y2s1 := KK4 q3_6 0 3 4 46
theorem y2bg : T1 y25u yk5 (y6 4 yk5 (y6 3 y3i (y6 2 y3i xN))) [.t 2] y2s1 := fun s => (y1s (y2fh s) rfl).trans (by kernel_rfl)
def q3_7 (a c b : AV) (h : Heap) : OX :=
ob (yav a b) fun d =>
ob (yb .eql d (.int .u8 59)) fun e =>
(q3_6 a c b e h)
def y2gd := KK3 q3_7 0 3 4
theorem y2ch : T1 y27o yk5 (y6 4 yk5 (y6 3 y3i (y6 2 y3i xN))) [.t 2] y2gd := sq y2bg fun _ => by kernel_rfl
theorem y2c8 : T1 y255 yk5 (y6 3 y3i (y6 2 y3i xN)) [.t 2] y2gd := fun s => y11.trans (y2ch s)
theorem y2ec : T1 y25i yl3 (y6 3 y3i (y6 2 y3i xN)) [.t 2] y2gd := sq y29f y2c8
def y171 (a c b : AV) (h : Heap) : OX :=
ob (y17 0 a h) fun d =>
ob (yb .lss b d) fun e =>
cnd e
 ((q3_7 a c b h))
 ((q3_1 h))
def y2j9 := KK3 y171 0 3 4
theorem y23n : T1 y1jr yl3 (y6 3 y3i (y6 2 y3i xN)) [.t 2] y2j9 := sq y2ec fun _ => by kernel_rfl
theorem y13a (a c b : AV) (h : Heap) : y1bv a c b h = (y171 a c b h) :=
 y27.trans ((y1q _ _ _ (n' := yl3) (fun s => y13f s)).trans ((y23n _).trans (by kernel_rfl)))
theorem y225 : T1 y1rf y3i (y6 2 y3i xN) [.t 2] yl3 := fun s => y11.trans (y13f s)
def y2e0 (b a : AV) (h : Heap) : OX :=
ob (yb .add a (.int .i64 1)) fun c =>
(y1bv b a c h)
def y2nt := KK2 y2e0 0 3
theorem y20o : T1 y188 y3i (y6 2 y3i xN) [.t 2] y2nt := sq y225 fun _ => by kernel_rfl
def y1ve (a c b : AV) (h : Heap) : OX :=
cnd b
 ((y2e0 a c h))
 ((q3_1 h))
def y2op := KK3 y1ve 0 3 33
theorem y1zi : T1 y181 y3i (y6 2 y3i xN) [.t 2] y2op := fun s => (y1s (y20o s) rfl).trans (by kernel_rfl)
def y1xd (a d c : AV) (h : Heap) : OX :=
ob (yb .eql c (.int .u8 76)) fun b =>
(y1ve a d b h)
def y2kf := KK3 y1xd 0 3 27
theorem y1y7 : T1 y1sx y3i (y6 2 y3i xN) [.t 2] y2kf := sq y1zi fun _ => by kernel_rfl
def ysr (b a e c : AV) (h : Heap) : OX :=
cnd c
 (ob (yb .add a (.int .i64 1)) fun d =>
(yo h d))
 ((y1xd b a e h))
def y2jb := KK4 ysr 0 3 27 28
theorem y1wt : T1 y17u y3i (y6 2 y3i xN) [.t 2] y2jb := fun s => (y1s rfl (y1y7 s)).trans (by kernel_rfl)
def y17c (b c a : AV) (h : Heap) : OX :=
ob (yb .eql a (.int .u8 73)) fun d =>
cnd d
 ((ysr b c a d h))
 (ob (yb .eql a (.int .u8 74)) fun e =>
(ysr b c a e h))
def y27f := KK3 y17c 0 3 27
theorem y1ul : T1 y1im y3i (y6 2 y3i xN) [.t 2] y27f := sq y1wt fun _ => by kernel_rfl
theorem y1u6 : T1 y1sm y3i xN [.t 2] y27f := fun s => y11.trans (y1ul s)
def y15r (a b : AV) (h : Heap) : OX :=
ob (yav a b) fun c =>
(y17c a b c h)
def y253 := KK2 y15r 0 3
theorem y1vo : T1 y1m5 y3i xN [.t 2] y253 := sq y1u6 fun _ => by kernel_rfl
theorem y20z : T0 y1n1 [.t 2] y253 := sq y2h3 y1vo
def yk3 (c b : AV) (h : Heap) : OX :=
ob (yb .gtr b (.int .i64 8)) fun a =>
gb a false (some b) fun j =>
gb a false (some c) fun g =>
gb a false (y17 0 g h) fun i =>
gb a false (yb .eql j i) fun d =>
ob (yh a (.bool true) d) fun e =>
cnd e
 ((yo h (.int .i64 0)))
 ((y15r c b h))
def yff := KK2 yk3 0 3
theorem y243 : T0 y1ax [.t 2] yff := sq y20z fun _ => by kernel_rfl
def yrl (a b : AV) (h : Heap) : OX :=
 W E 0 yo5 ⟨[(0, a), (3, b)], h⟩ yff (y6 0 yff xN) (finP [.t 2])
def yeb := KK2 yrl 0 3
theorem yqz : T1 yo5 yff (y6 0 yff xN) [.t 2] yeb := fun s => yu.trans (by kernel_rfl)
def y2dt (a c : AV) (h : Heap) : OX :=
ob (yb .add c (.int .i64 1)) fun b =>
(yrl a b h)
def y2mh := KK2 y2dt 0 3
theorem y222 : T1 y1ja yeb (y6 0 yff xN) [.t 2] y2mh := fun _ => by kernel_rfl
def y1ni (b c : AV) (h : Heap) : OX :=
ob (y17 0 b h) fun i =>
ob (yb .lss c i) fun a =>
gb a true (some b) fun g =>
gb a true (some c) fun d =>
gb a true (yav g d) fun k =>
gb a true (yb .eql k (.int .u8 91)) fun j =>
ob (yh a j (.bool false)) fun e =>
cnd e
 ((y2dt b c h))
 ((yk3 b c h))
def y2of := KK2 y1ni 0 3
theorem y1uu : T1 y1ov yeb (y6 0 yff xN) [.t 2] y2of := sq y222 fun _ => by kernel_rfl
theorem yp3 (a b : AV) (h : Heap) : yrl a b h = (y1ni a b h) :=
 y27.trans ((y1q _ _ _ (n' := yeb) (fun s => yqz s)).trans ((y1uu _).trans (by kernel_rfl)))
theorem y21m : T1 y19z yff xN [.t 2] yeb := fun s => y11.trans (yqz s)
theorem y1z8 : T0 y1rx [.t 2] yeb := sq y243 y21m
def y2cz (a : AV) (h : Heap) : OX :=
(yrl a (.int .i64 0) h)
def y2o3 := KK1 y2cz 0
theorem y231 : T0 y1nw [.t 2] y2o3 := sq y1z8 fun _ => by kernel_rfl
def y29b (a : AV) (h : Heap) : OX :=
(y2cz a h)
def y2m7 := KK1 y29b 0
theorem y1tp : T0 y1sn [.t 2] y2m7 := sq y231 fun _ => by kernel_rfl
@[simp] theorem y2r8 : E.pure 44 = true := rfl
theorem x_q3 (a : AV) : (yd E).p 44 [a] = y29b a [] :=
 (y1r (cf := c_q3) (by kernel_rfl) rfl).trans ((y1tp _).trans (by kernel_rfl))
def q1_1 (h : Heap) : OX :=
(yo h (.bool true))
def yhz := KK0 q1_1
theorem y2cf : T0 y264 [.t 4] yhz := fun _ => by kernel_rfl
def y1s1 (d a c b : AV) (h : Heap) : OX :=
 W E 0 yu9 ⟨[(1, d), (17, a), (18, c), (19, b)], h⟩ yhz (y6 0 yhz xN) (finP [.t 4])
def yh5 := KK4 y1s1 1 17 18 19
theorem y12r : T1 yu9 yhz (y6 0 yhz xN) [.t 4] yh5 := fun s => yu.trans (by kernel_rfl)
def q1_3 (c b d e : AV) (h : Heap) : OX :=
ob (yb .add e (.int .i64 1)) fun a =>
(y1s1 c b d a h)
def y2ra := KK4 q1_3 1 17 18 19
theorem y2el : T1 y275 yh5 (y6 0 yhz xN) [.t 4] y2ra := fun _ => by kernel_rfl
def q1_4 (o p G r : AV) (h : Heap) : OX :=
ob (y10 1 p r) fun L =>
ob (evLd false 1 L h) fun a =>
ob (yb .geq a (.int .u8 97)) fun i =>
gb i true (some a) fun F =>
gb i true (yb .leq F (.int .u8 122)) fun I =>
ob (yh i I (.bool false)) fun b =>
gb b false (some a) fun x =>
gb b false (yb .geq x (.int .u8 65)) fun w =>
gb b false (some w) fun k =>
gb k true (some a) fun z =>
gb k true (yb .leq z (.int .u8 90)) fun H =>
gb b false (yh k H (.bool false)) fun Y =>
ob (yh b (.bool true) Y) fun d =>
gb d false (some a) fun D =>
gb d false (yb .geq D (.int .u8 48)) fun M =>
gb d false (some M) fun g =>
gb g true (some a) fun K =>
gb g true (yb .leq K (.int .u8 57)) fun J =>
gb d false (yh g J (.bool false)) fun P =>
ob (yh d (.bool true) P) fun n =>
gb n false (some a) fun U =>
gb n false (yb .eql U (.int .u8 95)) fun Z =>
ob (yh n (.bool true) Z) fun j =>
gb j false (some a) fun X =>
gb j false (yb .eql X (.int .u8 36)) fun y =>
ob (yh j (.bool true) y) fun m =>
gb m false (some a) fun V =>
gb m false (yb .eql V (.int .u8 47)) fun Q =>
ob (yh m (.bool true) Q) fun R =>
ob (evUn .not R) fun e =>
gb e true (some o) fun v =>
gb e true (some v) fun c =>
gb c true (some a) fun N =>
gb c true (yb .eql N (.int .u8 60)) fun u =>
gb c true (some u) fun l =>
gb l false (some a) fun B =>
gb l false (yb .eql B (.int .u8 62)) fun t =>
gb c true (yh l (.bool true) t) fun S =>
gb e true (yh c S (.bool false)) fun O =>
gb e true (evUn .not O) fun C =>
ob (yh e C (.bool false)) fun A =>
cnd A
 ((yo h (.bool false)))
 ((q1_3 o p G r h))
def y2r0 := KK4 q1_4 1 17 18 19
theorem y2ar : T1 y270 yh5 (y6 0 yhz xN) [.t 4] y2r0 := sq y2el fun _ => by kernel_rfl
def q1_5 (b a c d e : AV) (h : Heap) : OX :=
cnd e
 ((q1_4 b a c d h))
 ((q1_1 h))
def y2tw := KK5 q1_5 1 17 18 19 20
theorem y2ez : T1 y27j yh5 (y6 0 yhz xN) [.t 4] y2tw := sq y2ar fun _ => by kernel_rfl
def q1_6 (d c a b : AV) (h : Heap) : OX :=
ob (yb .lss b a) fun e =>
(q1_5 d c a b e h)
def y2rf := KK4 q1_6 1 17 18 19
theorem y28w : T1 y266 yh5 (y6 0 yhz xN) [.t 4] y2rf := sq y2ez fun _ => by kernel_rfl
theorem yxk (d a c b : AV) (h : Heap) : y1s1 d a c b h = (q1_6 d a c b h) :=
 y27.trans ((y1q _ _ _ (n' := yh5) (fun s => y12r s)).trans ((y28w _).trans (by kernel_rfl)))
theorem y2ev : T1 y25r yhz xN [.t 4] yh5 := fun s => y11.trans (y12r s)
def q1_8 (b d : AV) (h : Heap) : OX :=
oh (s2bC 0 (some 0) b h) fun a h1 =>
ob (y17 1 a h1) fun c =>
(y1s1 d a c (.int .i64 0) h1)
def y2mz := KK2 q1_8 0 1
theorem y2go : T1 y24w yhz xN [.t 4] y2mz := sq y2ev fun _ => by kernel_rfl
theorem y2cq : T0 y269 [.t 4] y2mz := sq y2cf y2go
def y1mc (b e : AV) (h : Heap) : OX :=
ob (y17 0 b h) fun d =>
ob (yb .lss d (.int .i64 1)) fun a =>
gb a false (some b) fun j =>
gb a false (y17 0 j h) fun i =>
gb a false (yb .gtr i (.int .i64 60)) fun g =>
ob (yh a (.bool true) g) fun c =>
cnd c
 ((yo h (.bool false)))
 ((q1_8 b e h))
def y2pp := KK2 y1mc 0 1
theorem y242 : T0 y1dl [.t 4] y2pp := sq y2cq fun _ => by kernel_rfl
def y19d (a b : AV) (h : Heap) : OX :=
(y1mc a b h)
def y2nq := KK2 y19d 0 1
theorem y20u : T0 y18a [.t 4] y2nq := sq y242 fun _ => by kernel_rfl
@[simp] theorem y2s8 : E.pure 60 = true := rfl
theorem x_q1 (a b : AV) : (yd E).p 60 [a, b] = y19d a b [⟨0, .dead⟩] :=
 (y1r (cf := c_q1) (by kernel_rfl) rfl).trans ((y20u _).trans (by kernel_rfl))
end
end Go.Vm
