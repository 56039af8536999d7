/- Functions of the machine as plain functions that go on with what follows. -/
import Derived.Test.YtgbajicpokolcaaDEnv
set_option linter.unusedSimpArgs false
set_option linter.unusedVariables false
set_option linter.unusedSectionVars false
namespace Go.Vm
noncomputable section
def y13z (c a : AV) (h : Heap) : OX :=
ob (evLd true 5 c h) fun d =>
ob (evLd true 5 a h) fun e =>
oh (y5 E (y7 E) 0 none true 14 [d, e] h) fun b h1 =>
(yd h1 b)
def y7g (s : St) : OX := y13z (s 1) (s 4) s.h
theorem y157 : T0 ywm [.t 2] y7g := fun _ => by kernel_rfl
def yji (c d a e b : AV) (h : Heap) : OX :=
  W E 0 ygw ⟨[(1, c), (3, d), (4, a), (98, e), (99, b)], h⟩ y7g (y1 8 y7g xN) (finP [.t 2])
def y8e (s : St) : OX := yji (s 1) (s 3) (s 4) (s 98) (s 99) s.h
theorem yiw : T1 ygw y7g (y1 8 y7g xN) [.t 2] y8e := fun s => yj.trans (by kernel_rfl)
def y1bm (d e a g b : AV) (h : Heap) : OX :=
ob (y3 .add b (.int .i64 1)) fun c =>
(yji d e a g c h)
def y1h2 (s : St) : OX := y1bm (s 1) (s 3) (s 4) (s 98) (s 99) s.h
theorem y16m : T1 yyt y8e (y1 8 y7g xN) [.t 2] y1h2 := fun _ => by kernel_rfl
def y19t (e b c j a : AV) (h : Heap) : OX :=
ob (evFa 1 b) fun i =>
ob (evLd false 1 i h) fun g =>
ob (yu 1 g a) fun d =>
oh (evSt 1 d (.int .i64 (-9)) h) fun _ h2 =>
(y1bm e b c j a h2)
def y1ej (s : St) : OX := y19t (s 1) (s 3) (s 4) (s 98) (s 99) s.h
theorem y15s : T1 yvo y8e (y1 8 y7g xN) [.t 2] y1ej := sq y16m fun _ => by kernel_rfl
def y173 (b d a g c e : AV) (h : Heap) : OX :=
cnd e
 ((y19t b d a g c h))
 ((y13z b a h))
def y1hc (s : St) : OX := y173 (s 1) (s 3) (s 4) (s 98) (s 99) (s 100) s.h
theorem y14q : T1 yzi y8e (y1 8 y7g xN) [.t 2] y1hc := sq y15s fun _ => by kernel_rfl
def y162 (d e c b a : AV) (h : Heap) : OX :=
ob (y3 .lss a b) fun g =>
(y173 d e c b a g h)
def y1gh (s : St) : OX := y162 (s 1) (s 3) (s 4) (s 98) (s 99) s.h
theorem y14j : T1 yvw y8e (y1 8 y7g xN) [.t 2] y1gh := sq y14q fun _ => by kernel_rfl
theorem yj7 (c d a e b : AV) (h : Heap) : yji c d a e b h = (y162 c d a e b h) :=
  y28.trans ((y1m _ _ _ (n' := y8e) (fun s => yiw s)).trans ((y14j _).trans (by kernel_rfl)))
theorem y15j : T1 ytw y7g xN [.t 2] y8e := fun s => yy.trans (yiw s)
def y14n (c a b : AV) (h : Heap) : OX :=
ob (evFa 1 a) fun d =>
ob (evLd false 1 d h) fun e =>
ob (yz 1 e h) fun g =>
(yji c a b g (.int .i64 0) h)
def y6h (s : St) : OX := y14n (s 1) (s 3) (s 4) s.h
theorem y14p : T1 y12a y7g xN [.t 2] y6h := sq y15j fun _ => by kernel_rfl
theorem y158 : T0 yyx [.t 2] y6h := sq y157 y14p
def ydb (c d a e b : AV) (h : Heap) : OX :=
  W E 0 yd4 ⟨[(1, c), (3, d), (4, a), (86, e), (87, b)], h⟩ y6h (y1 6 y6h xN) (finP [.t 2])
def y52 (s : St) : OX := ydb (s 1) (s 3) (s 4) (s 86) (s 87) s.h
theorem ygh : T1 yd4 y6h (y1 6 y6h xN) [.t 2] y52 := fun s => yj.trans (by kernel_rfl)
def ywj (d e a g c : AV) (h : Heap) : OX :=
ob (y3 .add c (.int .i64 1)) fun b =>
(ydb d e a g b h)
def y1db (s : St) : OX := ywj (s 1) (s 3) (s 4) (s 86) (s 87) s.h
theorem yxu : T1 ypv y52 (y1 6 y6h xN) [.t 2] y1db := fun _ => by kernel_rfl
def yux (e b c k a : AV) (h : Heap) : OX :=
ob (evFa 4 b) fun i =>
ob (evLd false 1 i h) fun g =>
ob (yu 4 g a) fun j =>
ob (evFa 2 j) fun d =>
oh (evSt 1 d (.int .i64 (-9)) h) fun _ h3 =>
(ywj e b c k a h3)
def y1a6 (s : St) : OX := yux (s 1) (s 3) (s 4) (s 86) (s 87) s.h
theorem yyq : T1 yom y52 (y1 6 y6h xN) [.t 2] y1a6 := sq yxu fun _ => by kernel_rfl
def yp8 (b c a g e d : AV) (h : Heap) : OX :=
cnd d
 ((yux b c a g e h))
 ((y14n b c a h))
def y18g (s : St) : OX := yp8 (s 1) (s 3) (s 4) (s 86) (s 87) (s 88) s.h
theorem y13i : T1 yn6 y52 (y1 6 y6h xN) [.t 2] y18g := sq yyq fun _ => by kernel_rfl
def yo0 (e g c b a : AV) (h : Heap) : OX :=
ob (y3 .lss a b) fun d =>
(yp8 e g c b a d h)
def y199 (s : St) : OX := yo0 (s 1) (s 3) (s 4) (s 86) (s 87) s.h
theorem y110 : T1 yoi y52 (y1 6 y6h xN) [.t 2] y199 := sq y13i fun _ => by kernel_rfl
theorem yfi (c d a e b : AV) (h : Heap) : ydb c d a e b h = (yo0 c d a e b h) :=
  y28.trans ((y1m _ _ _ (n' := y52) (fun s => ygh s)).trans ((y110 _).trans (by kernel_rfl)))
theorem yyg : T1 ymx y6h xN [.t 2] y52 := fun s => yy.trans (ygh s)
def yqm (c a b : AV) (h : Heap) : OX :=
ob (evFa 4 a) fun d =>
ob (evLd false 1 d h) fun e =>
ob (yz 1 e h) fun g =>
(ydb c a b g (.int .i64 0) h)
def y3c (s : St) : OX := yqm (s 1) (s 3) (s 4) s.h
theorem yz5 : T1 ypz y6h xN [.t 2] y3c := sq yyg fun _ => by kernel_rfl
theorem y0t : T0 ymu [.t 2] y3c := sq y158 yz5
def ycm (b c a e d : AV) (h : Heap) : OX :=
  W E 0 yda ⟨[(1, b), (3, c), (4, a), (75, e), (76, d)], h⟩ y3c (y1 4 y3c xN) (finP [.t 2])
def y55 (s : St) : OX := ycm (s 1) (s 3) (s 4) (s 75) (s 76) s.h
theorem yf4 : T1 yda y3c (y1 4 y3c xN) [.t 2] y55 := fun s => yj.trans (by kernel_rfl)
def yvs (b c a g e : AV) (h : Heap) : OX :=
ob (y3 .add e (.int .i64 1)) fun d =>
(ycm b c a g d h)
def y1bd (s : St) : OX := yvs (s 1) (s 3) (s 4) (s 75) (s 76) s.h
theorem y12z : T1 yqn y55 (y1 4 y3c xN) [.t 2] y1bd := fun _ => by kernel_rfl
def yvk (e a c g b : AV) (h : Heap) : OX :=
ob (evFa 0 a) fun i =>
ob (evLd false 1 i h) fun j =>
ob (yu 1 j b) fun d =>
oh (evSt 1 d (.int .i64 9) h) fun _ h4 =>
(yvs e a c g b h4)
def y1b6 (s : St) : OX := yvk (s 1) (s 3) (s 4) (s 75) (s 76) s.h
theorem yv9 : T1 yrm y55 (y1 4 y3c xN) [.t 2] y1b6 := sq y12z fun _ => by kernel_rfl
def ymy (b c a g e d : AV) (h : Heap) : OX :=
cnd d
 ((yvk b c a g e h))
 ((yqm b c a h))
def y19a (s : St) : OX := ymy (s 1) (s 3) (s 4) (s 75) (s 76) (s 77) s.h
theorem yud : T1 yno y55 (y1 4 y3c xN) [.t 2] y19a := sq yv9 fun _ => by kernel_rfl
def ynf (e g c b a : AV) (h : Heap) : OX :=
ob (y3 .lss a b) fun d =>
(ymy e g c b a d h)
def y1b5 (s : St) : OX := ynf (s 1) (s 3) (s 4) (s 75) (s 76) s.h
theorem y133 : T1 yr9 y55 (y1 4 y3c xN) [.t 2] y1b5 := sq yud fun _ => by kernel_rfl
theorem yfz (b c a e d : AV) (h : Heap) : ycm b c a e d h = (ynf b c a e d h) :=
  y28.trans ((y1m _ _ _ (n' := y55) (fun s => yf4 s)).trans ((y133 _).trans (by kernel_rfl)))
theorem y12t : T1 yqu y3c xN [.t 2] y55 := fun s => yy.trans (yf4 s)
def yql (d a b : AV) (h : Heap) : OX :=
ob (evFa 0 a) fun c =>
ob (evLd false 1 c h) fun e =>
ob (yz 1 e h) fun g =>
(ycm d a b g (.int .i64 0) h)
def y1c (s : St) : OX := yql (s 1) (s 3) (s 4) s.h
theorem ytf : T1 ym1 y3c xN [.t 2] y1c := sq y12t fun _ => by kernel_rfl
theorem yv5 : T0 yq4 [.t 2] y1c := sq y0t ytf
def yc1 (b d a c e : AV) (h : Heap) : OX :=
  W E 0 ycb ⟨[(1, b), (3, d), (4, a), (39, c), (40, e)], h⟩ y1c (y1 0 y1c xN) (finP [.t 2])
def y5n (s : St) : OX := yc1 (s 1) (s 3) (s 4) (s 39) (s 40) s.h
theorem yfa : T1 ycb y1c (y1 0 y1c xN) [.t 2] y5n := fun s => yj.trans (by kernel_rfl)
def yra (c e a d g : AV) (h : Heap) : OX :=
ob (y3 .add g (.int .i64 1)) fun b =>
(yc1 c e a d b h)
def y1a (s : St) : OX := yra (s 1) (s 3) (s 4) (s 39) (s 40) s.h
theorem y07 : T1 ymm y5n (y1 0 y1c xN) [.t 2] y1a := fun _ => by kernel_rfl
def yd3 (c e a j d g b i : AV) (h : Heap) : OX :=
  W E 0 ycf ⟨[(1, c), (3, e), (4, a), (5, j), (39, d), (40, g), (59, b), (60, i)], h⟩ y1a (y1 2 y1a (y1 1 y1a (y1 0 y1c xN))) (finP [.t 2])
def y5p (s : St) : OX := yd3 (s 1) (s 3) (s 4) (s 5) (s 39) (s 40) (s 59) (s 60) s.h
theorem ygl : T1 ycf y1a (y1 2 y1a (y1 1 y1a (y1 0 y1c xN))) [.t 2] y5p := fun s => yj.trans (by kernel_rfl)
def yxm (c e a k d g b i : AV) (h : Heap) : OX :=
ob (y3 .add i (.int .i64 1)) fun j =>
(yd3 c e a k d g b j h)
def y1dk (s : St) : OX := yxm (s 1) (s 3) (s 4) (s 5) (s 39) (s 40) (s 59) (s 60) s.h
theorem y120 : T1 ym5 y5p (y1 2 y1a (y1 1 y1a (y1 0 y1c xN))) [.t 2] y1dk := fun _ => by kernel_rfl
def ywh (i a d c j l e b : AV) (h : Heap) : OX :=
ob (evFa 3 a) fun k =>
ob (evLd false 1 k h) fun o =>
ob (yu 9 o c) fun m =>
ob (evFa 8 m) fun n =>
ob (evLd false 1 n h) fun p =>
ob (yu 1 p b) fun g =>
oh (evSt 1 g (.int .i64 (-9)) h) fun _ h5 =>
(yxm i a d c j l e b h5)
def y1bw (s : St) : OX := ywh (s 1) (s 3) (s 4) (s 5) (s 39) (s 40) (s 59) (s 60) s.h
theorem y128 : T1 yoy y5p (y1 2 y1a (y1 1 y1a (y1 0 y1c xN))) [.t 2] y1bw := sq y120 fun _ => by kernel_rfl
def ymq (b d a k c e g j i : AV) (h : Heap) : OX :=
cnd i
 ((ywh b d a k c e g j h))
 ((yra b d a c e h))
def y1a7 (s : St) : OX := ymq (s 1) (s 3) (s 4) (s 5) (s 39) (s 40) (s 59) (s 60) (s 61) s.h
theorem y132 : T1 ynm y5p (y1 2 y1a (y1 1 y1a (y1 0 y1c xN))) [.t 2] y1a7 := sq y128 fun _ => by kernel_rfl
def ymj (d i c k e j a b : AV) (h : Heap) : OX :=
ob (y3 .lss b a) fun g =>
(ymq d i c k e j a b g h)
def y19s (s : St) : OX := ymj (s 1) (s 3) (s 4) (s 5) (s 39) (s 40) (s 59) (s 60) s.h
theorem yvy : T1 yl6 y5p (y1 2 y1a (y1 1 y1a (y1 0 y1c xN))) [.t 2] y19s := sq y132 fun _ => by kernel_rfl
theorem yes (c e a j d g b i : AV) (h : Heap) : yd3 c e a j d g b i h = (ymj c e a j d g b i h) :=
  y28.trans ((y1m _ _ _ (n' := y5p) (fun s => ygl s)).trans ((yvy _).trans (by kernel_rfl)))
theorem yw5 : T1 ylk y1a (y1 1 y1a (y1 0 y1c xN)) [.t 2] y5p := fun s => yy.trans (ygl s)
def yy4 (g a c b i k : AV) (h : Heap) : OX :=
ob (evFa 3 a) fun e =>
ob (evLd false 1 e h) fun j =>
ob (yu 9 j b) fun n =>
ob (evFa 8 n) fun l =>
ob (evLd false 1 l h) fun m =>
ob (yz 1 m h) fun d =>
(yd3 g a c b i k d (.int .i64 0) h)
def y1cc (s : St) : OX := yy4 (s 1) (s 3) (s 4) (s 5) (s 39) (s 40) s.h
theorem yy3 : T1 yor y1a (y1 1 y1a (y1 0 y1c xN)) [.t 2] y1cc := sq yw5 fun _ => by kernel_rfl
def yvm (k a i b l m : AV) (h : Heap) : OX :=
ob (evFa 3 a) fun e =>
ob (evLd false 1 e h) fun p =>
ob (evFa 3 a) fun c =>
ob (evLd false 1 c h) fun o =>
ob (yu 9 p b) fun n =>
ob (evFa 0 n) fun g =>
oh (evSt 1 g (.int .i64 99) h) fun _ h6 =>
ob (yu 9 o b) fun j =>
ob (evFa 5 j) fun d =>
oh (evSt 1 d (.int .i64 99) h6) fun _ h7 =>
okK (yi [([], []), (ids1 e, []), ([], []), ([], []), (ids1 c, []), ([], []), ([], []), ([], []), ([], ids1 g), ([], []), ([], []), ([], ids1 d)] [(4, 8)]) <|
(yy4 k a i b l m h7)
def y1d3 (s : St) : OX := yvm (s 1) (s 3) (s 4) (s 5) (s 39) (s 40) s.h
theorem yy0 : T1 ylu y1a (y1 1 y1a (y1 0 y1c xN)) [.t 2] y1d3 := sq yy3 fun _ => by kernel_rfl
def y0g (c e b d a : AV) (h : Heap) : OX :=
(yvm c e b a d a h)
def yke (s : St) : OX := y0g (s 1) (s 3) (s 4) (s 39) (s 40) s.h
theorem y11i : T1 yqc y1a (y1 1 y1a (y1 0 y1c xN)) [.t 2] yke := sq yy0 fun _ => by kernel_rfl
theorem yzq : T1 ynk y1a (y1 0 y1c xN) [.t 2] yke := fun s => yy.trans (y11i s)
theorem yvn : T1 yos y5n (y1 0 y1c xN) [.t 2] yke := sq y07 yzq
def ynl (b c a d e g : AV) (h : Heap) : OX :=
cnd g
 ((y0g b c a d e h))
 ((yql b c a h))
def y1dt (s : St) : OX := ynl (s 1) (s 3) (s 4) (s 39) (s 40) (s 41) s.h
theorem yz0 : T1 ylg y5n (y1 0 y1c xN) [.t 2] y1dt := sq yvn fun _ => by kernel_rfl
def yo3 (d e c a b : AV) (h : Heap) : OX :=
ob (y3 .lss b a) fun g =>
(ynl d e c a b g h)
def y1au (s : St) : OX := yo3 (s 1) (s 3) (s 4) (s 39) (s 40) s.h
theorem yte : T1 yl8 y5n (y1 0 y1c xN) [.t 2] y1au := sq yz0 fun _ => by kernel_rfl
theorem yfb (b d a c e : AV) (h : Heap) : yc1 b d a c e h = (yo3 b d a c e h) :=
  y28.trans ((y1m _ _ _ (n' := y5n) (fun s => yfa s)).trans ((yte _).trans (by kernel_rfl)))
theorem yzc : T1 yqg y1c xN [.t 2] y5n := fun s => yy.trans (yfa s)
def y13o (c a b : AV) (h : Heap) : OX :=
ob (evFa 3 a) fun g =>
ob (evLd false 1 g h) fun e =>
ob (yz 1 e h) fun d =>
(yc1 c a b d (.int .i64 0) h)
def y11k (s : St) : OX := y13o (s 1) (s 3) (s 4) s.h
theorem ytv : T1 yl9 y1c xN [.t 2] y11k := sq yzc fun _ => by kernel_rfl
theorem y0y : T0 ypp [.t 2] y11k := sq yv5 ytv
def y13d (b c j : AV) (h : Heap) : OX :=
ob (evLd true 5 b h) fun e =>
ob (evLd true 5 c h) fun g =>
ofp (y51 E (y7 E) 0 none true 14 [e, g] h) fun f2 =>
oh (y5 E (y7 E) 0 none true 14 [e, g] h) fun m h8 =>
ob (evUn .not m) fun a =>
ofp (fgd a false (some (ids1 b, []))) fun f5 =>
gb a false (evLd true 5 b h8) fun d =>
ofp (fgd a false (y51 E (y7 E) 0 none true 8 [d] h8)) fun f6 =>
gh a false (y5 E (y7 E) 0 none true 8 [d] h8) h8 fun l h9 =>
ofp (fgd a false (some (ids1 c, []))) fun f7 =>
gb a false (evLd true 5 c h9) fun i =>
ofp (fgd a false (y51 E (y7 E) 0 none true 8 [i] h9)) fun f8 =>
gh a false (y5 E (y7 E) 0 none true 8 [i] h9) h9 fun n h10 =>
ofp (fgd a false (some ([], []))) fun f9 =>
gb a false (y3 .neq l n) fun o =>
ob (yb a (.bool true) o) fun k =>
okK (yi [(ids1 b, []), (ids1 c, []), f2, ([], []), ([], []), f5, f6, f7, f8, f9, ([], [])] [(6, 7)]) <|
cnd k
 ((yd h10 (.bool false)))
 ((y13o b c j h10))
def y1d2 (s : St) : OX := y13d (s 1) (s 3) (s 4) s.h
theorem yw6 : T0 yqo [.t 2] y1d2 := sq y0y fun _ => by kernel_rfl
def yv0 (c b : AV) (h : Heap) : OX :=
ob (evLd true 5 b h) fun e =>
oh (y5 E (y7 E) 0 none true 13 [e] h) fun d h11 =>
oh (newC 0 (some 9) [.nils, .nils, (.int .i64 0), .nils, .nils] h11) fun a h12 =>
oh (evSt 5 a d h12) fun _ h13 =>
(y13d c b a h13)
def y18j (s : St) : OX := yv0 (s 1) (s 3) s.h
theorem yu0 : T0 yls [.t 2] y18j := sq yw6 fun _ => by kernel_rfl
def yu1 (a : AV) (h : Heap) : OX :=
ob (evLd true 5 a h) fun d =>
oh (y5 E (y7 E) 0 (some 1) true 13 [d] h) fun c h14 =>
oh (newC 0 (some 8) [.nils, .nils, (.int .i64 0), .nils, .nils] h14) fun b h15 =>
oh (evSt 5 b c h15) fun _ h16 =>
(yv0 a b h16)
def y1ar (s : St) : OX := yu1 (s 1) s.h
theorem yv1 : T0 yrl [.t 2] y1ar := sq yu0 fun _ => by kernel_rfl
def y12y (b : AV) (h : Heap) : OX :=
ob (evFa 3 b) fun e =>
ob (evLd false 1 e h) fun j =>
ob (yz 1 j h) fun k =>
ob (y3 .gtr k (.int .i64 30000)) fun a =>
gb a false (evFa 0 b) fun d =>
gb a false (evLd false 1 d h) fun g =>
gb a false (yz 1 g h) fun l =>
gb a false (y3 .gtr l (.int .i64 30000)) fun i =>
ob (yb a (.bool true) i) fun c =>
cnd c
 ((yd h (.bool true)))
 ((yu1 b h))
def y1cu (s : St) : OX := y12y (s 1) s.h
theorem y138 : T0 yol [.t 2] y1cu := sq yv1 fun _ => by kernel_rfl
def yxf (a : AV) (h : Heap) : OX :=
oh (y5 E (y7 E) 0 none true 4 [] h) fun c h17 =>
ob (evUn .not c) fun b =>
cnd b
 ((yd h17 (.bool false)))
 ((y12y a h17))
def y1cv (s : St) : OX := yxf (s 1) s.h
theorem yzl : T0 yn3 [.t 2] y1cv := sq y138 fun _ => by kernel_rfl
def ytq (a : AV) (h : Heap) : OX :=
oh (newC 0 (some 0) (cellsOf a) h) fun b h18 =>
(yxf b h18)
def y1c0 (s : St) : OX := ytq (s 0) s.h
theorem y13c : T0 ynt [.t 2] y1c0 := sq yzl fun _ => by kernel_rfl
@[simp] theorem y1ik : E.pure 71 = true := rfl
theorem y1i6 (a : AV) : (y7 E).p 71 [a] = ytq a [⟨0, .dead⟩, ⟨0, .dead⟩, ⟨0, .dead⟩, ⟨0, .dead⟩, ⟨0, .dead⟩, ⟨0, .dead⟩, ⟨0, .dead⟩, ⟨0, .dead⟩, ⟨0, .dead⟩, ⟨0, .dead⟩] :=
  (y1n (cf := y1fi) (by kernel_rfl) rfl).trans ((y13c _).trans (by kernel_rfl))
@[simp] theorem y1kp : E.pure 4 = true := rfl
@[simp] theorem y1jj : E.pure 13 = true := rfl
def y3j (fb : Nat) (a c : AV) (h : Heap) : Option (AV × Heap) :=
ob (evLd true 5 c h) fun b =>
oh (evSt 5 a b h) fun _ h1 =>
(ob (evLd true 5 a h1) fun r0 =>
  some (r0, h1))
def yp (fb : Nat) (s : St) : Option (AV × Heap) := y3j fb (s 2) (s 3) s.h
theorem ybm (fb : Nat) (s : St) : W E fb y08 s (finI [.cell 2 true 5]) xN (finI [.cell 2 true 5]) = yp fb s :=
  by kernel_rfl
def y2a (fb : Nat) (c d b a : AV) (h : Heap) : Option (AV × Heap) :=
  W E fb ygv ⟨[(2, c), (3, d), (22, b), (23, a)], h⟩ (yp fb) (y1 0 (yp fb) xN) (finI [.cell 2 true 5])
def y12 (fb : Nat) (s : St) : Option (AV × Heap) := y2a fb (s 2) (s 3) (s 22) (s 23) s.h
theorem y4r (fb : Nat) (s : St) : W E fb ygv s (yp fb) (y1 0 (yp fb) xN) (finI [.cell 2 true 5]) = y12 fb s := yj.trans (by kernel_rfl)
def y5c (fb : Nat) (a b d c : AV) (h : Heap) : Option (AV × Heap) :=
ob (y3 .add c (.int .i64 1)) fun e =>
(y2a fb a b d e h)
def y85 (fb : Nat) (s : St) : Option (AV × Heap) := y5c fb (s 2) (s 3) (s 22) (s 23) s.h
theorem yba (fb : Nat) (s : St) : W E fb y123 s (y12 fb) (y1 0 (yp fb) xN) (finI [.cell 2 true 5]) = y85 fb s :=
  by kernel_rfl
def y5q (fb : Nat) (k a m b : AV) (h : Heap) : Option (AV × Heap) :=
ob (evFa 3 a) fun e =>
ob (evLd false 1 e (h ++ yh 1)) fun n =>
ob (evFa 3 a) fun c =>
ob (evLd false 1 c (h ++ yh 1)) fun p =>
ob (yu 9 p b) fun l =>
ob (evFa 8 l) fun i =>
ob (evLd false 1 i (h ++ yh 1)) fun g =>
ofp (y51 E (y7 E) h.length (some 0) false 39 [g] (h ++ yh 1)) fun f9 =>
oh (y5 E (y7 E) h.length (some 0) false 39 [g] (h ++ yh 1)) fun o h2 =>
ob (yu 9 n b) fun j =>
ob (evFa 8 j) fun d =>
oh (evSt 1 d o h2) fun _ h3 =>
okK (yi [([], []), (ids1 e, []), ([], []), ([], []), (ids1 c, []), ([], []), ([], []), ([], []), (ids1 i, []), f9, ([], []), ([], []), ([], ids1 d)] [(1, 9)]) <|
(y5c fb k a m b h3)
def y87 (fb : Nat) (s : St) : Option (AV × Heap) := y5q fb (s 2) (s 3) (s 22) (s 23) s.h
theorem ybe (fb : Nat) (s : St) : W E fb yw2 s (y12 fb) (y1 0 (yp fb) xN) (finI [.cell 2 true 5]) = y87 fb s :=
  (yj3 (k := (y85 fb)) (fun s => yba fb s)).trans (by kernel_rfl)
def y3m (fb : Nat) (a b d c e : AV) (h : Heap) : Option (AV × Heap) :=
cnd e
 ((y5q fb a b d c h))
 ((y3j fb a b h))
def y8b (fb : Nat) (s : St) : Option (AV × Heap) := y3m fb (s 2) (s 3) (s 22) (s 23) (s 24) s.h
theorem ybg (fb : Nat) (s : St) : W E fb y12w s (y12 fb) (y1 0 (yp fb) xN) (finI [.cell 2 true 5]) = y8b fb s :=
  (yj3 (k := (y87 fb)) (fun s => ybe fb s)).trans (by kernel_rfl)
def y3i (fb : Nat) (c d b a : AV) (h : Heap) : Option (AV × Heap) :=
ob (y3 .lss a b) fun e =>
(y3m fb c d b a e h)
def yel (fb : Nat) (s : St) : Option (AV × Heap) := y3i fb (s 2) (s 3) (s 22) (s 23) s.h
theorem ybb (fb : Nat) (s : St) : W E fb yzu s (y12 fb) (y1 0 (yp fb) xN) (finI [.cell 2 true 5]) = yel fb s :=
  (yj3 (k := (y8b fb)) (fun s => ybg fb s)).trans (by kernel_rfl)
theorem y4v (fb : Nat) (c d b a : AV) (h : Heap) : y2a fb c d b a h = (y3i fb c d b a h) :=
  y28.trans ((y1m _ _ _ (n' := (y12 fb)) (fun s => y4r fb s)).trans ((ybb fb _).trans (by kernel_rfl)))
theorem ybh (fb : Nat) (s : St) : W E fb ywd s (yp fb) xN (finI [.cell 2 true 5]) = y12 fb s :=
  yy.trans (y4r fb s)
def y59 (fb : Nat) (d a : AV) (h : Heap) : Option (AV × Heap) :=
ob (evFa 3 a) fun c =>
ob (evLd false 1 c h) fun b =>
ob (yz 1 b h) fun e =>
(y2a fb d a e (.int .i64 0) h)
def y4d (fb : Nat) (s : St) : Option (AV × Heap) := y59 fb (s 2) (s 3) s.h
theorem yb9 (fb : Nat) (s : St) : W E fb yw1 s (yp fb) xN (finI [.cell 2 true 5]) = y4d fb s :=
  (yj3 (k := (y12 fb)) (fun s => ybh fb s)).trans (by kernel_rfl)
theorem ybj (fb : Nat) (s : St) : W E fb yzz s (finI [.cell 2 true 5]) xN (finI [.cell 2 true 5]) = y4d fb s :=
  (yj3 (k := (yp fb)) (fun s => ybm fb s)).trans (yb9 fb s)
def y4c (fb : Nat) (a p : AV) (h : Heap) : Option (AV × Heap) :=
ob (evFa 0 a) fun m =>
ob (evLd false 1 m h) fun i =>
ofp (y51 E (y7 E) fb (some 2) false 39 [i] h) fun f2 =>
oh (y5 E (y7 E) fb (some 2) false 39 [i] h) fun t h4 =>
ob (evFa 1 a) fun e =>
ob (evLd false 1 e h4) fun l =>
ofp (y51 E (y7 E) fb (some 3) false 39 [l] h4) fun f5 =>
oh (y5 E (y7 E) fb (some 3) false 39 [l] h4) fun u h5 =>
ob (evFa 2 a) fun c =>
ob (evLd false 1 c h5) fun o =>
ob (evFa 3 a) fun k =>
ob (evLd false 1 k h5) fun d =>
ofp (y51 E (y7 E) fb (some 4) false 40 [d] h5) fun f10 =>
oh (y5 E (y7 E) fb (some 4) false 40 [d] h5) fun n h6 =>
ob (evFa 4 a) fun g =>
ob (evLd false 1 g h6) fun j =>
ofp (y51 E (y7 E) fb (some 5) false 41 [j] h6) fun f13 =>
oh (y5 E (y7 E) fb (some 5) false 41 [j] h6) fun r h7 =>
ob (yt [.nils, .nils, (.int .i64 0), .nils, .nils] [(0, 1, t), (1, 1, u), (2, 1, o), (3, 1, n), (4, 1, r)]) fun v =>
oh (newC fb (some 6) [.nils, .nils, (.int .i64 0), .nils, .nils] h7) fun b h8 =>
oh (evSt 5 b v h8) fun _ h9 =>
okK (yi [([], []), (ids1 m, []), f2, ([], []), (ids1 e, []), f5, ([], []), (ids1 c, []), ([], []), (ids1 k, []), f10, ([], []), (ids1 g, []), f13, ([], []), ([], [fb + 6]), ([], ids1 b)] [(2, 4), (2, 7), (5, 7), (2, 9), (5, 9), (7, 10), (2, 12), (5, 12), (10, 12), (7, 13), (1, 15), (2, 15), (4, 15), (5, 15), (7, 15), (9, 15), (10, 15), (12, 15), (13, 15)]) <|
(y59 fb p b h9)
def y7f (fb : Nat) (s : St) : Option (AV × Heap) := y4c fb (s 1) (s 2) s.h
theorem yae (fb : Nat) (s : St) : W E fb yq9 s (finI [.cell 2 true 5]) xN (finI [.cell 2 true 5]) = y7f fb s :=
  (yj3 (k := (y4d fb)) (fun s => ybj fb s)).trans (by kernel_rfl)
def y2b (fb : Nat) (a : AV) (h : Heap) : Option (AV × Heap) :=
oh (newC fb (some 0) (cellsOf a) h) fun b h10 =>
oh (newC fb (some 1) [.nils, .nils, (.int .i64 0), .nils, .nils] h10) fun c h11 =>
(y4c fb b c h11)
def ycv (fb : Nat) (s : St) : Option (AV × Heap) := y2b fb (s 0) s.h
theorem ya2 (fb : Nat) (s : St) : W E fb yn5 s (finI [.cell 2 true 5]) xN (finI [.cell 2 true 5]) = ycv fb s :=
  (yj3 (k := (y7f fb)) (fun s => yae fb s)).trans (by kernel_rfl)
theorem y9k (fb : Nat) (a : AV) (h : Heap) : (y7 E).i 13 [a] fb h = y2b fb a (if fb = h.length then h ++ yh 7 else h) :=
  (y1dm (cf := y1ez) (by kernel_rfl) rfl).trans ((ya2 fb _).trans (by kernel_rfl))
def yzw (h : Heap) : OX :=
(yd h (.bool true))
def y4e (s : St) : OX := yzw s.h
theorem y0h : T0 yr4 [.t 4] y4e := fun _ => by kernel_rfl
def ych (b c a : AV) (h : Heap) : OX :=
  W E 0 ycs ⟨[(2, b), (3, c), (6, a)], h⟩ y4e (y1 2 y4e xN) (finP [.t 4])
def y7u (s : St) : OX := ych (s 2) (s 3) (s 6) s.h
theorem yfv : T1 ycs y4e (y1 2 y4e xN) [.t 4] y7u := fun s => yj.trans (by kernel_rfl)
def yr1 (b c a : AV) (h : Heap) : OX :=
ob (y3 .add a (.int .i64 1)) fun d =>
(ych b c d h)
def y1aq (s : St) : OX := yr1 (s 2) (s 3) (s 6) s.h
theorem ytp : T1 yn7 y7u (y1 2 y4e xN) [.t 4] y1aq := fun _ => by kernel_rfl
def ylx (b c a : AV) (h : Heap) : OX :=
ob (evFa 4 b) fun d =>
ob (evLd false 1 d h) fun g =>
ob (yu 4 g a) fun m =>
ob (evLd true 4 m h) fun l =>
ob (evFa 4 c) fun i =>
ob (evLd false 1 i h) fun j =>
ob (yu 4 j a) fun n =>
ob (evLd true 4 n h) fun e =>
ob (yvc true [0, 0, 0, 2] l e) fun k =>
cnd k
 ((yd h (.bool false)))
 ((yr1 b c a h))
def y1bs (s : St) : OX := ylx (s 2) (s 3) (s 6) s.h
theorem y0r : T1 yoo y7u (y1 2 y4e xN) [.t 4] y1bs := sq ytp fun _ => by kernel_rfl
def yjh (b d a : AV) (h : Heap) : OX :=
ob (evFa 4 b) fun e =>
ob (evLd false 1 e h) fun g =>
ob (yz 1 g h) fun i =>
ob (y3 .lss a i) fun c =>
cnd c
 ((ylx b d a h))
 ((yzw h))
def y1av (s : St) : OX := yjh (s 2) (s 3) (s 6) s.h
theorem yxg : T1 yq6 y7u (y1 2 y4e xN) [.t 4] y1av := sq y0r fun _ => by kernel_rfl
theorem yff (b c a : AV) (h : Heap) : ych b c a h = (yjh b c a h) :=
  y28.trans ((y1m _ _ _ (n' := y7u) (fun s => yfv s)).trans ((yxg _).trans (by kernel_rfl)))
theorem y0j : T1 yma y4e xN [.t 4] y7u := fun s => yy.trans (yfv s)
def y12d (a b : AV) (h : Heap) : OX :=
(ych a b (.int .i64 0) h)
def y3v (s : St) : OX := y12d (s 2) (s 3) s.h
theorem yvu : T1 yqe y4e xN [.t 4] y3v := sq y0j fun _ => by kernel_rfl
theorem yu6 : T0 yr7 [.t 4] y3v := sq y0h yvu
def ycw (a c b : AV) (h : Heap) : OX :=
  W E 0 yde ⟨[(2, a), (3, c), (5, b)], h⟩ y3v (y1 0 y3v xN) (finP [.t 4])
def y7w (s : St) : OX := ycw (s 2) (s 3) (s 5) s.h
theorem yez : T1 yde y3v (y1 0 y3v xN) [.t 4] y7w := fun s => yj.trans (by kernel_rfl)
def yku (a d c : AV) (h : Heap) : OX :=
ob (y3 .add c (.int .i64 1)) fun b =>
(ycw a d b h)
def y15p (s : St) : OX := yku (s 2) (s 3) (s 5) s.h
theorem ysw : T1 yhz y7w (y1 0 y3v xN) [.t 4] y15p := fun _ => by kernel_rfl
def yh5 (b c a : AV) (h : Heap) : OX :=
ob (evFa 3 b) fun g =>
ob (evLd false 1 g h) fun i =>
ob (yu 9 i a) fun o =>
ob (evLd true 9 o h) fun l =>
ob (evFa 3 c) fun k =>
ob (evLd false 1 k h) fun d =>
ob (yu 9 d a) fun j =>
ob (evLd true 9 j h) fun e =>
oh (y5 E (y7 E) 0 none true 28 [l, e] h) fun m h1 =>
ob (evUn .not m) fun n =>
cnd n
 ((yd h1 (.bool false)))
 ((yku b c a h1))
def y144 (s : St) : OX := yh5 (s 2) (s 3) (s 5) s.h
theorem ys5 : T1 yi7 y7w (y1 0 y3v xN) [.t 4] y144 := sq ysw fun _ => by kernel_rfl
def ycc (a b c : AV) (h : Heap) : OX :=
ob (evFa 3 a) fun g =>
ob (evLd false 1 g h) fun d =>
ob (yz 1 d h) fun e =>
ob (y3 .lss c e) fun i =>
cnd i
 ((yh5 a b c h))
 ((y12d a b h))
def y16z (s : St) : OX := ycc (s 2) (s 3) (s 5) s.h
theorem yt1 : T1 yiy y7w (y1 0 y3v xN) [.t 4] y16z := sq ys5 fun _ => by kernel_rfl
theorem ygn (a c b : AV) (h : Heap) : ycw a c b h = (ycc a c b h) :=
  y28.trans ((y1m _ _ _ (n' := y7w) (fun s => yez s)).trans ((yt1 _).trans (by kernel_rfl)))
theorem yrv : T1 yic y3v xN [.t 4] y7w := fun s => yy.trans (yez s)
def yjp (a b : AV) (h : Heap) : OX :=
(ycw a b (.int .i64 0) h)
def yr6 (s : St) : OX := yjp (s 2) (s 3) s.h
theorem ytc : T1 yjb y3v xN [.t 4] yr6 := sq yrv fun _ => by kernel_rfl
theorem ysu : T0 yjl [.t 4] yr6 := sq yu6 ytc
def y6u (d e : AV) (h : Heap) : OX :=
ob (evFa 0 d) fun w =>
ob (evLd false 1 w h) fun z =>
ob (evFa 0 e) fun G =>
ob (evLd false 1 G h) fun p =>
oh (y5 E (y7 E) 0 none true 11 [z, p] h) fun i h2 =>
ob (evUn .not i) fun c =>
gb c false (evFa 1 d) fun o =>
gb c false (evLd false 1 o h2) fun t =>
gb c false (evFa 1 e) fun j =>
gb c false (evLd false 1 j h2) fun r =>
gh c false (y5 E (y7 E) 0 none true 11 [t, r] h2) h2 fun k h3 =>
gb c false (evUn .not k) fun L =>
ob (yb c (.bool true) L) fun g =>
gb g false (evFa 2 d) fun v =>
gb g false (evLd false 1 v h3) fun D =>
gb g false (evFa 2 e) fun x =>
gb g false (evLd false 1 x h3) fun A =>
gb g false (y3 .neq D A) fun F =>
ob (yb g (.bool true) F) fun a =>
gb a false (evFa 3 d) fun l =>
gb a false (evLd false 1 l h3) fun N =>
gb a false (yz 1 N h3) fun m =>
gb a false (evFa 3 e) fun B =>
gb a false (evLd false 1 B h3) fun P =>
gb a false (yz 1 P h3) fun n =>
gb a false (y3 .neq m n) fun y =>
ob (yb a (.bool true) y) fun b =>
gb b false (evFa 4 d) fun I =>
gb b false (evLd false 1 I h3) fun O =>
gb b false (yz 1 O h3) fun C =>
gb b false (evFa 4 e) fun H =>
gb b false (evLd false 1 H h3) fun J =>
gb b false (yz 1 J h3) fun K =>
gb b false (y3 .neq C K) fun M =>
ob (yb b (.bool true) M) fun u =>
cnd u
 ((yd h3 (.bool false)))
 ((yjp d e h3))
def y16i (s : St) : OX := y6u (s 2) (s 3) s.h
theorem yrz : T0 yin [.t 4] y16i := sq ysu fun _ => by kernel_rfl
def y6w (a b : AV) (h : Heap) : OX :=
oh (newC 0 (some 0) (cellsOf a) h) fun c h4 =>
oh (newC 0 (some 1) (cellsOf b) h4) fun d h5 =>
(y6u c d h5)
def y178 (s : St) : OX := y6w (s 0) (s 1) s.h
theorem ysy : T0 yhw [.t 4] y178 := sq yrz fun _ => by kernel_rfl
@[simp] theorem y1k0 : E.pure 14 = true := rfl
theorem y1f0 (a b : AV) : (y7 E).p 14 [a, b] = y6w a b [⟨0, .dead⟩, ⟨0, .dead⟩] :=
  (y1n (cf := y17n) (by kernel_rfl) rfl).trans ((ysy _).trans (by kernel_rfl))
def y1bx (h : Heap) : OX :=
(yd h (.int .i64 0))
def y7e (s : St) : OX := y1bx s.h
theorem y16b : T0 ywr [.t 2] y7e := fun _ => by kernel_rfl
def yfo (c d a b e : AV) (h : Heap) : OX :=
  W E 0 yh1 ⟨[(1, c), (3, d), (136, a), (137, b), (138, e)], h⟩ y7e (y1 6 y7e xN) (finP [.t 2])
def y8d (s : St) : OX := yfo (s 1) (s 3) (s 136) (s 137) (s 138) s.h
theorem yhx : T1 yh1 y7e (y1 6 y7e xN) [.t 2] y8d := fun s => yj.trans (by kernel_rfl)
def y1dq (d e a b g : AV) (h : Heap) : OX :=
ob (y3 .add g (.int .i64 1)) fun c =>
(yfo d e a b c h)
def y1fy (s : St) : OX := y1dq (s 1) (s 3) (s 136) (s 137) (s 138) s.h
theorem y14m : T1 yyz y8d (y1 6 y7e xN) [.t 2] y1fy := fun _ => by kernel_rfl
def yhj (k i j n l : AV) (h : Heap) : OX :=
ob (yu 4 j l) fun p =>
ob (evLd true 4 p h) fun t =>
oh (newC 0 (some 2) [(.int .i64 0), (.int .i64 0), (.int .i64 0), (.str [])] h) fun b h1 =>
oh (evSt 4 b t h1) fun _ h2 =>
ob (evFa 0 b) fun r =>
ob (evLd false 1 r h2) fun v =>
ob (y3 .lss v (.int .i64 0)) fun c =>
gb c false (evFa 0 b) fun G =>
gb c false (evLd false 1 G h2) fun Q =>
gb c false (evFa 1 b) fun B =>
gb c false (evLd false 1 B h2) fun D =>
gb c false (y3 .geq Q D) fun y =>
ob (yb c (.bool true) y) fun d =>
gb d false (evFa 1 b) fun A =>
gb d false (evLd false 1 A h2) fun N =>
gb d false (some i) fun z =>
gb d false (y3 .gtr N z) fun C =>
ob (yb d (.bool true) C) fun g =>
gb g false (evFa 2 b) fun m =>
gb g false (evLd false 1 m h2) fun K =>
gb g false (y3 .lss K (.int .i64 0)) fun I =>
ob (yb g (.bool true) I) fun e =>
gb e false (evFa 2 b) fun H =>
gb e false (evLd false 1 H h2) fun P =>
gb e false (some i) fun w =>
gb e false (y3 .geq P w) fun x =>
ob (yb e (.bool true) x) fun a =>
gb a false (evFa 3 k) fun u =>
gb a false (evLd false 1 u h2) fun O =>
gb a false (evFa 2 b) fun o =>
gb a false (evLd false 1 o h2) fun F =>
gb a false (yu 9 O F) fun R =>
gb a false (evFa 0 R) fun L =>
gb a false (evLd false 1 L h2) fun M =>
gb a false (y3 .neq M (.int .i64 32)) fun S =>
ob (yb a (.bool true) S) fun J =>
cnd J
 ((yd h2 (.int .i64 80)))
 ((y1dq k i j n l h2))
def y1hi (s : St) : OX := yhj (s 1) (s 3) (s 136) (s 137) (s 138) s.h
theorem y16w : T1 y12e y8d (y1 6 y7e xN) [.t 2] y1hi := sq y14m fun _ => by kernel_rfl
def y16e (c d a b g e : AV) (h : Heap) : OX :=
cnd e
 ((yhj c d a b g h))
 ((y1bx h))
def y1ge (s : St) : OX := y16e (s 1) (s 3) (s 136) (s 137) (s 138) (s 139) s.h
theorem y172 : T1 y00 y8d (y1 6 y7e xN) [.t 2] y1ge := sq y16w fun _ => by kernel_rfl
def y168 (d e c a b : AV) (h : Heap) : OX :=
ob (y3 .lss b a) fun g =>
(y16e d e c a b g h)
def y1g0 (s : St) : OX := y168 (s 1) (s 3) (s 136) (s 137) (s 138) s.h
theorem y14r : T1 ywq y8d (y1 6 y7e xN) [.t 2] y1g0 := sq y172 fun _ => by kernel_rfl
theorem yi0 (c d a b e : AV) (h : Heap) : yfo c d a b e h = (y168 c d a b e h) :=
  y28.trans ((y1m _ _ _ (n' := y8d) (fun s => yhx s)).trans ((y14r _).trans (by kernel_rfl)))
theorem y16k : T1 y0u y7e xN [.t 2] y8d := fun s => yy.trans (yhx s)
def yul (b e : AV) (h : Heap) : OX :=
ob (evFa 4 b) fun d =>
ob (evLd false 1 d h) fun a =>
ob (yz 1 a h) fun c =>
(yfo b e a c (.int .i64 0) h)
def y3f (s : St) : OX := yul (s 1) (s 3) s.h
theorem y16h : T1 y12i y7e xN [.t 2] y3f := sq y16k fun _ => by kernel_rfl
theorem y160 : T0 yxt [.t 2] y3f := sq y16b y16h
def y9s (b c d e a : AV) (h : Heap) : OX :=
  W E 0 ydr ⟨[(1, b), (3, c), (92, d), (93, e), (94, a)], h⟩ y3f (y1 4 y3f xN) (finP [.t 2])
def y5e (s : St) : OX := y9s (s 1) (s 3) (s 92) (s 93) (s 94) s.h
theorem yf8 : T1 ydr y3f (y1 4 y3f xN) [.t 2] y5e := fun s => yj.trans (by kernel_rfl)
def yqs (c d e g b : AV) (h : Heap) : OX :=
ob (y3 .add b (.int .i64 1)) fun a =>
(y9s c d e g a h)
def y6z (s : St) : OX := yqs (s 1) (s 3) (s 92) (s 93) (s 94) s.h
theorem yuu : T1 ypu y5e (y1 4 y3f xN) [.t 2] y6z := fun _ => by kernel_rfl
def y7x (e r i g v N z : AV) (h : Heap) : OX :=
ob (evFa 0 g) fun H =>
ob (evLd false 1 H h) fun B =>
ob (y3 .eql B (.int .i64 32)) fun d =>
gb d true (some i) fun j =>
gb d true (y3 .eql j (.int .i64 0)) fun p =>
gb d true (some p) fun a =>
gb a false (evFa 3 e) fun w =>
gb a false (evLd false 1 w h) fun n =>
gb a false (some i) fun I =>
gb a false (y3 .sub I (.int .i64 1)) fun L =>
gb a false (yu 9 n L) fun O =>
gb a false (evLd true 9 O h) fun C =>
gh a false (y5 E (y7 E) 0 none true 24 [C] h) h fun D h3 =>
gb a false (evUn .not D) fun G =>
gb d true (yb a (.bool true) G) fun K =>
ob (yb d K (.bool false)) fun c =>
gb c false (evLd true 9 g h3) fun l =>
gh c false (y5 E (y7 E) 0 none true 22 [l] h3) h3 fun M h4 =>
gb c false (some M) fun b =>
gb b true (evFa 3 e) fun m =>
gb b true (evLd false 1 m h4) fun A =>
gb b true (evFa 6 g) fun k =>
gb b true (evLd false 1 k h4) fun J =>
gb b true (yu 9 A J) fun u =>
gb b true (evFa 0 u) fun x =>
gb b true (evLd false 1 x h4) fun t =>
gb b true (y3 .eql t (.int .i64 32)) fun o =>
gb c false (yb b o (.bool false)) fun F =>
ob (yb c (.bool true) F) fun y =>
cnd y
 ((yd h4 (.int .i64 80)))
 ((yqs e r v N z h4))
def y1dl (s : St) : OX := y7x (s 1) (s 3) (s 8) (s 9) (s 92) (s 93) (s 94) s.h
theorem yzf : T1 yq0 y6z (y1 5 y6z (y1 4 y3f xN)) [.t 2] y1dl := fun _ => by kernel_rfl
def yoj (a i d b j m e : AV) (h : Heap) : OX :=
ob (evLd true 5 a h) fun c =>
ob (evLd true 9 b h) fun k =>
oh (y5 E (y7 E) 0 none true 63 [c, k] h) fun l h5 =>
ob (evUn .not l) fun g =>
cnd g
 ((yd h5 (.int .i64 80)))
 ((y7x a i d b j m e h5))
def y1a2 (s : St) : OX := yoj (s 1) (s 3) (s 8) (s 9) (s 92) (s 93) (s 94) s.h
theorem yws : T1 yrd y6z (y1 5 y6z (y1 4 y3f xN)) [.t 2] y1a2 := sq yzf fun _ => by kernel_rfl
def yiu (d e b j a : AV) (h : Heap) : OX :=
ob (yu 9 b a) fun g =>
ob (evLd true 9 g h) fun i =>
oh (newC 0 (some 1) [(.int .i64 0), (.int .i64 0), (.int .i64 0), (.int .i64 0), (.int .i64 0), (.int .i64 0), (.int .i64 0), (.str []), .nils] h) fun c h6 =>
oh (evSt 9 c i h6) fun _ h7 =>
(yoj d e a c b j a h7)
def yjy (s : St) : OX := yiu (s 1) (s 3) (s 92) (s 93) (s 94) s.h
theorem yx7 : T1 yon y6z (y1 5 y6z (y1 4 y3f xN)) [.t 2] yjy := sq yws fun _ => by kernel_rfl
theorem y11e : T1 yq5 y6z (y1 4 y3f xN) [.t 2] yjy := fun s => yy.trans (yx7 s)
theorem y12r : T1 ylc y5e (y1 4 y3f xN) [.t 2] yjy := sq yuu y11e
def yrk (a b e g d c : AV) (h : Heap) : OX :=
cnd c
 ((yiu a b e g d h))
 ((yul a b h))
def y1b7 (s : St) : OX := yrk (s 1) (s 3) (s 92) (s 93) (s 94) (s 95) s.h
theorem y0x : T1 yp6 y5e (y1 4 y3f xN) [.t 2] y1b7 := sq y12r fun _ => by kernel_rfl
def ylo (d e g b a : AV) (h : Heap) : OX :=
ob (y3 .lss a b) fun c =>
(yrk d e g b a c h)
def y1c3 (s : St) : OX := ylo (s 1) (s 3) (s 92) (s 93) (s 94) s.h
theorem yz8 : T1 yne y5e (y1 4 y3f xN) [.t 2] y1c3 := sq y0x fun _ => by kernel_rfl
theorem yfg (b c d e a : AV) (h : Heap) : y9s b c d e a h = (ylo b c d e a h) :=
  y28.trans ((y1m _ _ _ (n' := y5e) (fun s => yf8 s)).trans ((yz8 _).trans (by kernel_rfl)))
theorem y113 : T1 ypl y3f xN [.t 2] y5e := fun s => yy.trans (yf8 s)
def yig (a d : AV) (h : Heap) : OX :=
ob (evFa 3 a) fun c =>
ob (evLd false 1 c h) fun b =>
ob (yz 1 b h) fun e =>
(y9s a d b e (.int .i64 0) h)
def y36 (s : St) : OX := yig (s 1) (s 3) s.h
theorem yy5 : T1 ypy y3f xN [.t 2] y36 := sq y113 fun _ => by kernel_rfl
theorem y116 : T0 ynu [.t 2] y36 := sq y160 yy5
def ya5 (b d a c e : AV) (h : Heap) : OX :=
  W E 0 ydv ⟨[(1, b), (3, d), (62, a), (63, c), (64, e)], h⟩ y36 (y1 2 y36 xN) (finP [.t 2])
def y5r (s : St) : OX := ya5 (s 1) (s 3) (s 62) (s 63) (s 64) s.h
theorem yfk : T1 ydv y36 (y1 2 y36 xN) [.t 2] y5r := fun s => yj.trans (by kernel_rfl)
def yus (b d a c g : AV) (h : Heap) : OX :=
ob (y3 .add g (.int .i64 1)) fun e =>
(ya5 b d a c e h)
def y19l (s : St) : OX := yus (s 1) (s 3) (s 62) (s 63) (s 64) s.h
theorem yza : T1 ymh y5r (y1 2 y36 xN) [.t 2] y19l := fun _ => by kernel_rfl
def yca (e o i l c : AV) (h : Heap) : OX :=
ob (yu 1 i c) fun p =>
ob (evLd false 1 p h) fun g =>
ob (y3 .lss g (.int .i64 0)) fun b =>
gb b false (some g) fun r =>
gb b false (evFa 0 e) fun n =>
gb b false (evLd false 1 n h) fun A =>
gb b false (yz 1 A h) fun B =>
gb b false (y3 .geq r B) fun m =>
ob (yb b (.bool true) m) fun a =>
gb a false (evFa 1 e) fun u =>
gb a false (evLd false 1 u h) fun v =>
gb a false (some c) fun x =>
gb a false (ygm 1 v none (some x)) fun k =>
gb a false (some g) fun z =>
gh a false (y5 E (y7 E) 0 none true 46 [k, z] h) h fun y h8 =>
ob (yb a (.bool true) y) fun d =>
gb d false (some c) fun j =>
gb d false (y3 .gtr j (.int .i64 20)) fun t =>
ob (yb d (.bool true) t) fun w =>
cnd w
 ((yd h8 (.int .i64 80)))
 ((yus e o i l c h8))
def y1c2 (s : St) : OX := yca (s 1) (s 3) (s 62) (s 63) (s 64) s.h
theorem y11u : T1 ypi y5r (y1 2 y36 xN) [.t 2] y1c2 := sq yza fun _ => by kernel_rfl
def yp3 (a b c e g d : AV) (h : Heap) : OX :=
cnd d
 ((yca a b c e g h))
 ((yig a b h))
def y1b2 (s : St) : OX := yp3 (s 1) (s 3) (s 62) (s 63) (s 64) (s 65) s.h
theorem y13m : T1 yob y5r (y1 2 y36 xN) [.t 2] y1b2 := sq y11u fun _ => by kernel_rfl
def ynq (e g c a b : AV) (h : Heap) : OX :=
ob (y3 .lss b a) fun d =>
(yp3 e g c a b d h)
def y1cz (s : St) : OX := ynq (s 1) (s 3) (s 62) (s 63) (s 64) s.h
theorem yvz : T1 yr2 y5r (y1 2 y36 xN) [.t 2] y1cz := sq y13m fun _ => by kernel_rfl
theorem yeu (b d a c e : AV) (h : Heap) : ya5 b d a c e h = (ynq b d a c e h) :=
  y28.trans ((y1m _ _ _ (n' := y5r) (fun s => yfk s)).trans ((yvz _).trans (by kernel_rfl)))
theorem yuk : T1 yqk y36 xN [.t 2] y5r := fun s => yy.trans (yfk s)
def yj0 (b d : AV) (h : Heap) : OX :=
ob (evFa 1 b) fun c =>
ob (evLd false 1 c h) fun a =>
ob (yz 1 a h) fun e =>
(ya5 b d a e (.int .i64 0) h)
def y38 (s : St) : OX := yj0 (s 1) (s 3) s.h
theorem y114 : T1 yqx y36 xN [.t 2] y38 := sq yuk fun _ => by kernel_rfl
theorem y0m : T0 yri [.t 2] y38 := sq y116 y114
def ya6 (b c a d e : AV) (h : Heap) : OX :=
  W E 0 ycp ⟨[(1, b), (3, c), (48, a), (49, d), (50, e)], h⟩ y38 (y1 0 y38 xN) (finP [.t 2])
def y53 (s : St) : OX := ya6 (s 1) (s 3) (s 48) (s 49) (s 50) s.h
theorem yf9 : T1 ycp y38 (y1 0 y38 xN) [.t 2] y53 := fun s => yj.trans (by kernel_rfl)
def y11r (b c a e g : AV) (h : Heap) : OX :=
ob (y3 .add g (.int .i64 1)) fun d =>
(ya6 b c a e d h)
def y19p (s : St) : OX := y11r (s 1) (s 3) (s 48) (s 49) (s 50) s.h
theorem yyv : T1 yro y53 (y1 0 y38 xN) [.t 2] y19p := fun _ => by kernel_rfl
def yht (g i c l d : AV) (h : Heap) : OX :=
ob (yu 1 c d) fun m =>
ob (evLd false 1 m h) fun b =>
ob (y3 .lss b (.int .i64 1)) fun a =>
gb a false (some b) fun k =>
gb a false (y3 .gtr k (.int .i64 3)) fun j =>
ob (yb a (.bool true) j) fun e =>
cnd e
 ((yd h (.int .i64 80)))
 ((y11r g i c l d h))
def y195 (s : St) : OX := yht (s 1) (s 3) (s 48) (s 49) (s 50) s.h
theorem yvb : T1 yrf y53 (y1 0 y38 xN) [.t 2] y195 := sq yyv fun _ => by kernel_rfl
def yqz (a b c e g d : AV) (h : Heap) : OX :=
cnd d
 ((yht a b c e g h))
 ((yj0 a b h))
def y19u (s : St) : OX := yqz (s 1) (s 3) (s 48) (s 49) (s 50) (s 51) s.h
theorem yx2 : T1 yns y53 (y1 0 y38 xN) [.t 2] y19u := sq yvb fun _ => by kernel_rfl
def ync (e g c a b : AV) (h : Heap) : OX :=
ob (y3 .lss b a) fun d =>
(yqz e g c a b d h)
def y1cn (s : St) : OX := ync (s 1) (s 3) (s 48) (s 49) (s 50) s.h
theorem y0q : T1 yqj y53 (y1 0 y38 xN) [.t 2] y1cn := sq yx2 fun _ => by kernel_rfl
theorem yf5 (b c a d e : AV) (h : Heap) : ya6 b c a d e h = (ync b c a d e h) :=
  y28.trans ((y1m _ _ _ (n' := y53) (fun s => yf9 s)).trans ((y0q _).trans (by kernel_rfl)))
theorem y137 : T1 yp9 y38 xN [.t 2] y53 := fun s => yy.trans (yf9 s)
def yfc (b c : AV) (h : Heap) : OX :=
ob (evFa 0 b) fun e =>
ob (evLd false 1 e h) fun a =>
ob (yz 1 a h) fun d =>
(ya6 b c a d (.int .i64 0) h)
def yu2 (s : St) : OX := yfc (s 1) (s 3) s.h
theorem yyj : T1 ymt y38 xN [.t 2] yu2 := sq y137 fun _ => by kernel_rfl
theorem yzo : T0 yq8 [.t 2] yu2 := sq y0m yyj
def y8t (c e : AV) (h : Heap) : OX :=
ob (y3 .lss e (.int .i64 1)) fun i =>
gb i false (some e) fun j =>
gb i false (y3 .gtr j (.int .i64 20000)) fun A =>
ob (yb i (.bool true) A) fun b =>
gb b false (evFa 0 c) fun o =>
gb b false (evLd false 1 o h) fun v =>
gb b false (yz 1 v h) fun p =>
gb b false (y3 .gtr p (.int .i64 20000)) fun t =>
ob (yb b (.bool true) t) fun g =>
gb g false (evFa 2 c) fun l =>
gb g false (evLd false 1 l h) fun k =>
gb g false (y3 .lss k (.int .i64 0)) fun C =>
ob (yb g (.bool true) C) fun d =>
gb d false (evFa 2 c) fun G =>
gb d false (evLd false 1 G h) fun m =>
gb d false (y3 .gtr m (.int .i64 3)) fun r =>
ob (yb d (.bool true) r) fun a =>
gb a false (evFa 3 c) fun x =>
gb a false (evLd false 1 x h) fun F =>
gb a false (some e) fun u =>
gb a false (y3 .sub u (.int .i64 1)) fun w =>
gb a false (yu 9 F w) fun y =>
gb a false (evLd true 9 y h) fun z =>
gh a false (y5 E (y7 E) 0 none true 24 [z] h) h fun B h9 =>
gb a false (evUn .not B) fun n =>
ob (yb a (.bool true) n) fun D =>
cnd D
 ((yd h9 (.int .i64 80)))
 ((yfc c e h9))
def y1a4 (s : St) : OX := y8t (s 1) (s 3) s.h
theorem yy9 : T0 yo1 [.t 2] y1a4 := sq yzo fun _ => by kernel_rfl
def y9c (a : AV) (h : Heap) : OX :=
ob (evFa 3 a) fun c =>
ob (evLd false 1 c h) fun b =>
ob (yz 1 b h) fun d =>
(y8t a d h)
def y19q (s : St) : OX := y9c (s 1) s.h
theorem y125 : T0 ymc [.t 2] y19q := sq yy9 fun _ => by kernel_rfl
def y84 (a : AV) (h : Heap) : OX :=
oh (newC 0 (some 0) (cellsOf a) h) fun b h10 =>
(y9c b h10)
def y1bp (s : St) : OX := y84 (s 0) s.h
theorem yzn : T0 ylm [.t 2] y1bp := sq y125 fun _ => by kernel_rfl
@[simp] theorem y1kn : E.pure 8 = true := rfl
theorem y1ii (a : AV) : (y7 E).p 8 [a] = y84 a [⟨0, .dead⟩, ⟨0, .dead⟩, ⟨0, .dead⟩] :=
  (y1n (cf := y1gu) (by kernel_rfl) rfl).trans ((yzn _).trans (by kernel_rfl))
@[simp] theorem y1ie : E.pure 10 = true := rfl
@[simp] theorem y1kk : E.pure 9 = true := rfl
def yrn (a : AV) (h : Heap) : OX :=
oh (y7b 0 (some 0) 1 0 [(.int .i64 0)] [] h) fun c h1 =>
oh (y95 0 (some 1) 1 8 c a h1) fun b h2 =>
(yd h2 b)
def y191 (s : St) : OX := yrn (s 0) s.h
theorem y129 : T0 ylt [.t 2] y191 := fun _ => by kernel_rfl
def ynh (a : AV) (h : Heap) : OX :=
ob (ygd 1 false a AV.nils) fun b =>
cnd b
 ((yd h AV.nils))
 ((yrn a h))
def y18h (s : St) : OX := ynh (s 0) s.h
theorem yy2 : T0 ylb [.t 2] y18h := sq y129 fun _ => by kernel_rfl
def yqa (a : AV) (h : Heap) : OX :=
(ynh a h)
def y18s (s : St) : OX := yqa (s 0) s.h
theorem yut : T0 yqr [.t 2] y18s := sq yy2 fun _ => by kernel_rfl
@[simp] theorem y1ip : E.pure 39 = true := rfl
theorem y1fp (a : AV) : (y7 E).p 39 [a] = yqa a [⟨0, .dead⟩, ⟨0, .dead⟩] :=
  (y1n (cf := y17m) (by kernel_rfl) rfl).trans ((yut _).trans (by kernel_rfl))
def yn1 (a : AV) (h : Heap) : OX :=
oh (y7b 0 (some 0) 9 0 [(.int .i64 0), (.int .i64 0), (.int .i64 0), (.int .i64 0), (.int .i64 0), (.int .i64 0), (.int .i64 0), (.str []), .nils] [] h) fun c h1 =>
oh (y95 0 (some 1) 9 96 c a h1) fun b h2 =>
(yd h2 b)
def y1d8 (s : St) : OX := yn1 (s 0) s.h
theorem ytn : T0 yqh [.t 2] y1d8 := fun _ => by kernel_rfl
def ypc (a : AV) (h : Heap) : OX :=
ob (ygd 1 false a AV.nils) fun b =>
cnd b
 ((yd h AV.nils))
 ((yn1 a h))
def y1c5 (s : St) : OX := ypc (s 0) s.h
theorem yww : T0 yo5 [.t 2] y1c5 := sq ytn fun _ => by kernel_rfl
def ypx (a : AV) (h : Heap) : OX :=
(ypc a h)
def y19e (s : St) : OX := ypx (s 0) s.h
theorem y13s : T0 yle [.t 2] y19e := sq yww fun _ => by kernel_rfl
@[simp] theorem y1jw : E.pure 40 = true := rfl
theorem y1es (a : AV) : (y7 E).p 40 [a] = ypx a [⟨0, .dead⟩, ⟨0, .dead⟩] :=
  (y1n (cf := y17d) (by kernel_rfl) rfl).trans ((y13s _).trans (by kernel_rfl))
def yf6 (a : AV) (h : Heap) : OX :=
oh (y7b 0 (some 0) 4 0 [(.int .i64 0), (.int .i64 0), (.int .i64 0), (.str [])] [] h) fun c h1 =>
oh (y95 0 (some 1) 4 40 c a h1) fun b h2 =>
(yd h2 b)
def y1bg (s : St) : OX := yf6 (s 0) s.h
theorem y12c : T0 ym4 [.t 2] y1bg := fun _ => by kernel_rfl
def yg3 (a : AV) (h : Heap) : OX :=
ob (ygd 1 false a AV.nils) fun b =>
cnd b
 ((yd h AV.nils))
 ((yf6 a h))
def y1ap (s : St) : OX := yg3 (s 0) s.h
theorem yx5 : T0 yp1 [.t 2] y1ap := sq y12c fun _ => by kernel_rfl
def yf2 (a : AV) (h : Heap) : OX :=
(yg3 a h)
def y196 (s : St) : OX := yf2 (s 0) s.h
theorem ywi : T0 ypa [.t 2] y196 := sq yx5 fun _ => by kernel_rfl
@[simp] theorem y1ih : E.pure 41 = true := rfl
theorem y17l (a : AV) : (y7 E).p 41 [a] = yf2 a [⟨0, .dead⟩, ⟨0, .dead⟩] :=
  (y1n (cf := y17i) (by kernel_rfl) rfl).trans ((ywi _).trans (by kernel_rfl))
def ycz (h : Heap) : OX :=
(yd h (.bool true))
def y4g (s : St) : OX := ycz s.h
theorem yym : T0 ypb [.t 4] y4g := fun _ => by kernel_rfl
def yag (a b c : AV) (h : Heap) : OX :=
  W E 0 yeg ⟨[(0, a), (1, b), (5, c)], h⟩ y4g (y1 0 y4g xN) (finP [.t 4])
def y7s (s : St) : OX := yag (s 0) (s 1) (s 5) s.h
theorem yew : T1 yeg y4g (y1 0 y4g xN) [.t 4] y7s := fun s => yj.trans (by kernel_rfl)
def yec (a b d : AV) (h : Heap) : OX :=
ob (y3 .add d (.int .i64 1)) fun c =>
(yag a b c h)
def y19j (s : St) : OX := yec (s 0) (s 1) (s 5) s.h
theorem yub : T1 yly y7s (y1 0 y4g xN) [.t 4] y19j := fun _ => by kernel_rfl
def yd6 (c b a : AV) (h : Heap) : OX :=
ob (yu 1 c a) fun j =>
ob (evLd false 1 j h) fun d =>
ob (yu 1 b a) fun g =>
ob (evLd false 1 g h) fun i =>
ob (y3 .neq d i) fun e =>
cnd e
 ((yd h (.bool false)))
 ((yec c b a h))
def y1an (s : St) : OX := yd6 (s 0) (s 1) (s 5) s.h
theorem yya : T1 ylw y7s (y1 0 y4g xN) [.t 4] y1an := sq yub fun _ => by kernel_rfl
def yce (a c b : AV) (h : Heap) : OX :=
ob (yz 1 a h) fun d =>
ob (y3 .lss b d) fun e =>
cnd e
 ((yd6 a c b h))
 ((ycz h))
def y1d1 (s : St) : OX := yce (s 0) (s 1) (s 5) s.h
theorem y0e : T1 yn0 y7s (y1 0 y4g xN) [.t 4] y1d1 := sq yya fun _ => by kernel_rfl
theorem ygc (a b c : AV) (h : Heap) : yag a b c h = (yce a b c h) :=
  y28.trans ((y1m _ _ _ (n' := y7s) (fun s => yew s)).trans ((y0e _).trans (by kernel_rfl)))
theorem ywg : T1 yoe y4g xN [.t 4] y7s := fun s => yy.trans (yew s)
def yci (a b : AV) (h : Heap) : OX :=
(yag a b (.int .i64 0) h)
def yvh (s : St) : OX := yci (s 0) (s 1) s.h
theorem yzp : T1 ym3 y4g xN [.t 4] yvh := sq ywg fun _ => by kernel_rfl
theorem yuc : T0 ypj [.t 4] yvh := sq yym yzp
def ydf (b a : AV) (h : Heap) : OX :=
ob (yz 1 b h) fun c =>
ob (yz 1 a h) fun d =>
ob (y3 .neq c d) fun e =>
cnd e
 ((yd h (.bool false)))
 ((yci b a h))
def y1ch (s : St) : OX := ydf (s 0) (s 1) s.h
theorem yu7 : T0 yqv [.t 4] y1ch := sq yuc fun _ => by kernel_rfl
def y8r (a b : AV) (h : Heap) : OX :=
(ydf a b h)
def y15x (s : St) : OX := y8r (s 0) (s 1) s.h
theorem yt9 : T0 yjk [.t 4] y15x := sq yu7 fun _ => by kernel_rfl
@[simp] theorem y1ic : E.pure 11 = true := rfl
theorem y1gd (a b : AV) : (y7 E).p 11 [a, b] = y8r a b [] :=
  (y1n (cf := y17j) (by kernel_rfl) rfl).trans ((yt9 _).trans (by kernel_rfl))
def y73 (H O : AV) (h : Heap) : OX :=
oh (newC 0 (some 0) (cellsOf H) h) fun a h1 =>
oh (newC 0 (some 1) (cellsOf O) h1) fun b h2 =>
ob (evFa 0 a) fun Y =>
ob (evLd false 1 Y h2) fun a6 =>
ob (evFa 0 b) fun J =>
ob (evLd false 1 J h2) fun L =>
ob (y3 .eql a6 L) fun i =>
gb i true (evFa 1 a) fun n =>
gb i true (evLd false 1 n h2) fun p =>
gb i true (evFa 1 b) fun v =>
gb i true (evLd false 1 v h2) fun B =>
gb i true (y3 .eql p B) fun D =>
ob (yb i D (.bool false)) fun c =>
gb c true (evFa 2 a) fun r =>
gb c true (evLd false 1 r h2) fun a2 =>
gb c true (evFa 2 b) fun N =>
gb c true (evLd false 1 N h2) fun m =>
gb c true (y3 .eql a2 m) fun I =>
ob (yb c I (.bool false)) fun g =>
gb g true (evFa 3 a) fun Q =>
gb g true (evLd false 1 Q h2) fun V =>
gb g true (evFa 3 b) fun A =>
gb g true (evLd false 1 A h2) fun y =>
gb g true (y3 .eql V y) fun t =>
ob (yb g t (.bool false)) fun k =>
gb k true (evFa 4 a) fun R =>
gb k true (evLd false 1 R h2) fun b1 =>
gb k true (evFa 4 b) fun z =>
gb k true (evLd false 1 z h2) fun K =>
gb k true (y3 .eql b1 K) fun G =>
ob (yb k G (.bool false)) fun l =>
gb l true (evFa 5 a) fun a7 =>
gb l true (evLd false 1 a7 h2) fun S =>
gb l true (evFa 5 b) fun X =>
gb l true (evLd false 1 X h2) fun a1 =>
gb l true (y3 .eql S a1) fun a0 =>
ob (yb l a0 (.bool false)) fun j =>
gb j true (evFa 6 a) fun a5 =>
gb j true (evLd false 1 a5 h2) fun C =>
gb j true (evFa 6 b) fun M =>
gb j true (evLd false 1 M h2) fun Z =>
gb j true (y3 .eql C Z) fun a3 =>
ob (yb j a3 (.bool false)) fun e =>
gb e true (evFa 7 a) fun F =>
gb e true (evLd false 1 F h2) fun a8 =>
gb e true (evFa 7 b) fun P =>
gb e true (evLd false 1 P h2) fun a4 =>
gb e true (y3 .eql a8 a4) fun a9 =>
ob (yb e a9 (.bool false)) fun d =>
gb d true (evFa 8 a) fun U =>
gb d true (evLd false 1 U h2) fun w =>
gb d true (evFa 8 b) fun o =>
gb d true (evLd false 1 o h2) fun x =>
gh d true (y5 E (y7 E) 0 none true 11 [w, x] h2) h2 fun b0 h3 =>
ob (yb d b0 (.bool false)) fun u =>
(yd h3 u)
def y19y (s : St) : OX := y73 (s 0) (s 1) s.h
theorem yu8 : T0 yod [.t 4] y19y := fun _ => by kernel_rfl
@[simp] theorem y1i2 : E.pure 28 = true := rfl
theorem y1eo (a b : AV) : (y7 E).p 28 [a, b] = y73 a b [⟨0, .dead⟩, ⟨0, .dead⟩] :=
  (y1n (cf := y17c) (by kernel_rfl) rfl).trans ((yu8 _).trans (by kernel_rfl))
def y1dj (m : AV) (h : Heap) : OX :=
oh (newC 0 (some 0) (cellsOf m) h) fun c h1 =>
ob (evFa 0 c) fun l =>
ob (evLd false 1 l h1) fun d =>
ob (y3 .eql d (.int .i64 27)) fun a =>
gb a false (evFa 0 c) fun n =>
gb a false (evLd false 1 n h1) fun i =>
gb a false (y3 .eql i (.int .i64 30)) fun o =>
ob (yb a (.bool true) o) fun b =>
gb b false (evFa 0 c) fun j =>
gb b false (evLd false 1 j h1) fun k =>
gb b false (y3 .eql k (.int .i64 31)) fun e =>
ob (yb b (.bool true) e) fun g =>
(yd h1 g)
def y1h3 (s : St) : OX := y1dj (s 0) s.h
theorem y14e : T0 yth [.t 2] y1h3 := fun _ => by kernel_rfl
@[simp] theorem y1ju : E.pure 24 = true := rfl
theorem y1j1 (a : AV) : (y7 E).p 24 [a] = y1dj a [⟨0, .dead⟩] :=
  (y1n (cf := y1f9) (by kernel_rfl) rfl).trans ((y14e _).trans (by kernel_rfl))
def yrq (a b : AV) (h : Heap) : OX :=
oh (y5 E (y7 E) 0 none true 45 [a, b] h) fun d h1 =>
ob (y3 .geq d (.int .i64 0)) fun c =>
(yd h1 c)
def y194 (s : St) : OX := yrq (s 0) (s 1) s.h
theorem yyh : T0 yla [.t 4] y194 := fun _ => by kernel_rfl
@[simp] theorem y1iy : E.pure 46 = true := rfl
theorem y1et (a b : AV) : (y7 E).p 46 [a, b] = yrq a b [] :=
  (y1n (cf := y17o) (by kernel_rfl) rfl).trans ((yyh _).trans (by kernel_rfl))
def ytg (k c : AV) (h : Heap) : OX :=
ob (evLd true 9 c h) fun u =>
oh (y5 E (y7 E) 0 none true 22 [u] h) fun m h1 =>
ob (evUn .not m) fun b =>
gb b false (evFa 6 c) fun i =>
gb b false (evLd false 1 i h1) fun o =>
gb b false (y3 .geq o (.int .i64 0)) fun t =>
gb b false (some t) fun a =>
gb a true (evFa 6 c) fun d =>
gb a true (evLd false 1 d h1) fun e =>
gb a true (evFa 3 k) fun p =>
gb a true (evLd false 1 p h1) fun j =>
gb a true (yz 1 j h1) fun g =>
gb a true (y3 .lss e g) fun r =>
gb b false (yb a r (.bool false)) fun l =>
ob (yb b (.bool true) l) fun n =>
(yd h1 n)
def y1gl (s : St) : OX := ytg (s 2) (s 3) s.h
theorem y161 : T0 yzy [.t 4] y1gl := fun _ => by kernel_rfl
def y6s (d a : AV) (h : Heap) : OX :=
ob (evFa 0 a) fun w =>
ob (evLd false 1 w h) fun i =>
ob (y3 .eql i (.int .i64 1)) fun D =>
cnd D
 (ob (evFa 0 d) fun X =>
ob (evLd false 1 X h) fun M =>
ob (evFa 1 a) fun x =>
ob (evLd false 1 x h) fun b7 =>
ob (yu 1 M b7) fun c4 =>
ob (evLd false 1 c4 h) fun c7 =>
ob (y3 .neq c7 (.int .i64 3)) fun b =>
gb b true (evFa 0 d) fun b4 =>
gb b true (evLd false 1 b4 h) fun c2 =>
gb b true (evFa 1 a) fun v =>
gb b true (evLd false 1 v h) fun a3 =>
gb b true (yu 1 c2 a3) fun r =>
gb b true (evLd false 1 r h) fun c5 =>
gb b true (y3 .eql c5 (.int .i64 2)) fun c6 =>
gb b true (some c6) fun e =>
gb e false (evFa 5 a) fun a2 =>
gb e false (evLd false 1 a2 h) fun n =>
gb e false (evFa 5 a) fun b8 =>
gb e false (evLd false 1 b8 h) fun H =>
gb e false (y127 .i32 H) fun O =>
gb e false (y127 .i64 O) fun F =>
gb e false (y3 .eql n F) fun z =>
gb b true (yb e (.bool true) z) fun b1 =>
ob (yb b b1 (.bool false)) fun S =>
(yd h S))
 (ob (y3 .eql i (.int .i64 4)) fun B =>
cnd B
 (ob (evFa 0 d) fun y =>
ob (evLd false 1 y h) fun k =>
ob (evFa 1 a) fun a6 =>
ob (evLd false 1 a6 h) fun b5 =>
ob (yu 1 k b5) fun m =>
ob (evLd false 1 m h) fun p =>
ob (evFa 0 d) fun o =>
ob (evLd false 1 o h) fun t =>
ob (evFa 2 a) fun V =>
ob (evLd false 1 V h) fun L =>
ob (yu 1 t L) fun U =>
ob (evLd false 1 U h) fun b3 =>
ob (y3 .eql p b3) fun J =>
(yd h J))
 (ob (y3 .eql i (.int .i64 7)) fun C =>
cnd C
 (ob (evFa 0 d) fun a9 =>
ob (evLd false 1 a9 h) fun b6 =>
ob (evFa 2 a) fun G =>
ob (evLd false 1 G h) fun b0 =>
ob (yu 1 b6 b0) fun I =>
ob (evLd false 1 I h) fun P =>
ob (y3 .neq P (.int .i64 3)) fun a4 =>
(yd h a4))
 (ob (y3 .eql i (.int .i64 30)) fun j =>
cnd j
 (ob (evFa 2 a) fun a5 =>
ob (evLd false 1 a5 h) fun a0 =>
ob (y3 .eql a0 (.int .i64 (-1))) fun Z =>
ob (evFa 2 d) fun N =>
ob (evLd false 1 N h) fun Y =>
ob (y3 .eql Y (.int .i64 0)) fun b2 =>
ob (y16a false Z b2) fun g =>
gb g true (evFa 2 a) fun c8 =>
gb g true (evLd false 1 c8 h) fun c1 =>
gb g true (y3 .eql c1 (.int .i64 (-1))) fun u =>
gb g true (some u) fun c =>
gb c false (evFa 0 d) fun l =>
gb c false (evLd false 1 l h) fun Q =>
gb c false (evFa 2 a) fun b9 =>
gb c false (evLd false 1 b9 h) fun a7 =>
gb c false (yu 1 Q a7) fun a8 =>
gb c false (evLd false 1 a8 h) fun c0 =>
gb c false (evFa 2 d) fun a1 =>
gb c false (evLd false 1 a1 h) fun A =>
gb c false (y3 .eql c0 A) fun R =>
gb g true (yb c (.bool true) R) fun c3 =>
ob (yb g c3 (.bool false)) fun K =>
(yd h K))
 ((ytg d a h)))))
def y3y (s : St) : OX := y6s (s 2) (s 3) s.h
theorem y146 : T0 y06 [.t 4] y3y := sq y161 fun _ => by kernel_rfl
def yd0 (b d c e a : AV) (h : Heap) : OX :=
  W E 0 yhk ⟨[(2, b), (3, d), (63, c), (64, e), (65, a)], h⟩ y3y (y1 2 y3y xN) (finP [.t 4])
def y8g (s : St) : OX := yd0 (s 2) (s 3) (s 63) (s 64) (s 65) s.h
theorem yj8 : T1 yhk y3y (y1 2 y3y xN) [.t 4] y8g := fun s => yj.trans (by kernel_rfl)
def yyo (b d c g a : AV) (h : Heap) : OX :=
ob (y3 .add a (.int .i64 1)) fun e =>
(yd0 b d c g e h)
def yb7 (s : St) : OX := yyo (s 2) (s 3) (s 63) (s 64) (s 65) s.h
theorem y14z : T1 yxo y8g (y1 2 y3y xN) [.t 4] yb7 := fun _ => by kernel_rfl
def ydw (i j D g n L l : AV) (h : Heap) : OX :=
ob (y3 .lss g (.int .i64 0)) fun d =>
gb d false (some g) fun o =>
gb d false (evFa 0 i) fun r =>
gb d false (evLd false 1 r h) fun m =>
gb d false (yz 1 m h) fun G =>
gb d false (y3 .geq o G) fun H =>
ob (yb d (.bool true) H) fun b =>
gb b false (some D) fun K =>
gb b false (y3 .eql K (.int .i64 0)) fun I =>
gb b false (some I) fun c =>
gb c true (evFa 0 j) fun x =>
gb c true (evLd false 1 x h) fun k =>
gb c true (y3 .eql k (.int .i64 24)) fun z =>
gb c true (some z) fun e =>
gb e false (evFa 0 j) fun C =>
gb e false (evLd false 1 C h) fun B =>
gb e false (y3 .eql B (.int .i64 25)) fun v =>
gb c true (yb e (.bool true) v) fun N =>
gb b false (yb c N (.bool false)) fun A =>
gb b false (some A) fun a =>
gb a true (evFa 0 i) fun t =>
gb a true (evLd false 1 t h) fun w =>
gb a true (some g) fun p =>
gb a true (yu 1 w p) fun y =>
gb a true (evLd false 1 y h) fun M =>
gb a true (y3 .neq M (.int .i64 3)) fun F =>
gb b false (yb a F (.bool false)) fun u =>
ob (yb b (.bool true) u) fun J =>
cnd J
 ((yd h (.bool false)))
 ((yyo i j n L l h))
def y1fc (s : St) : OX := ydw (s 2) (s 3) (s 9) (s 10) (s 63) (s 64) (s 65) s.h
theorem y15n : T1 y12b yb7 (y1 3 yb7 (y1 2 y3y xN)) [.t 4] y1fc := fun _ => by kernel_rfl
def y13l (b a k l g j e : AV) (h : Heap) : OX :=
ob (evLd true 9 a h) fun d =>
oh (y5 E (y7 E) 0 none true 17 [d] h) fun i h2 =>
ob (evUn .not i) fun c =>
cnd c
 ((y6s b a h2))
 ((ydw b a k l g j e h2))
def y1fz (s : St) : OX := y13l (s 2) (s 3) (s 9) (s 10) (s 63) (s 64) (s 65) s.h
theorem y17a : T1 y09 yb7 (y1 3 yb7 (y1 2 y3y xN)) [.t 4] y1fz := sq y15n fun _ => by kernel_rfl
def y124 (d e b g a : AV) (h : Heap) : OX :=
ob (yu 1 b a) fun i =>
ob (evLd false 1 i h) fun c =>
(y13l d e a c b g a h)
def yu5 (s : St) : OX := y124 (s 2) (s 3) (s 63) (s 64) (s 65) s.h
theorem y142 : T1 y0n yb7 (y1 3 yb7 (y1 2 y3y xN)) [.t 4] yu5 := sq y17a fun _ => by kernel_rfl
theorem y150 : T1 ywb yb7 (y1 2 y3y xN) [.t 4] yu5 := fun s => yy.trans (y142 s)
theorem y15o : T1 ytx y8g (y1 2 y3y xN) [.t 4] yu5 := sq y14z y150
def ycu (a b d g c e : AV) (h : Heap) : OX :=
cnd e
 ((y124 a b d g c h))
 ((y6s a b h))
def y1cb (s : St) : OX := ycu (s 2) (s 3) (s 63) (s 64) (s 65) (s 66) s.h
theorem y0c : T1 yo6 y8g (y1 2 y3y xN) [.t 4] y1cb := sq y15o fun _ => by kernel_rfl
def ye5 (c e d b a : AV) (h : Heap) : OX :=
ob (y3 .lss a b) fun g =>
(ycu c e d b a g h)
def y1bz (s : St) : OX := ye5 (s 2) (s 3) (s 63) (s 64) (s 65) s.h
theorem yx3 : T1 yln y8g (y1 2 y3y xN) [.t 4] y1bz := sq y0c fun _ => by kernel_rfl
theorem ydz (b d c e a : AV) (h : Heap) : yd0 b d c e a h = (ye5 b d c e a h) :=
  y28.trans ((y1m _ _ _ (n' := y8g) (fun s => yj8 s)).trans ((yx3 _).trans (by kernel_rfl)))
theorem yx4 : T1 ynz y3y xN [.t 4] y8g := fun s => yy.trans (yj8 s)
def yhr (d b : AV) (h : Heap) : OX :=
ob (evFa 8 b) fun c =>
ob (evLd false 1 c h) fun a =>
ob (yz 1 a h) fun e =>
(yd0 d b a e (.int .i64 0) h)
def y24 (s : St) : OX := yhr (s 2) (s 3) s.h
theorem y0s : T1 yrr y3y xN [.t 4] y24 := sq yx4 fun _ => by kernel_rfl
theorem yvj : T0 ylv [.t 4] y24 := sq y146 y0s
def y8c (a b e c d : AV) (h : Heap) : OX :=
  W E 0 ydq ⟨[(2, a), (3, b), (5, e), (26, c), (27, d)], h⟩ y24 (y1 0 y24 xN) (finP [.t 4])
def y58 (s : St) : OX := y8c (s 2) (s 3) (s 5) (s 26) (s 27) s.h
theorem yfh : T1 ydq y24 (y1 0 y24 xN) [.t 4] y58 := fun s => yj.trans (by kernel_rfl)
def yid (a c g d e : AV) (h : Heap) : OX :=
ob (y3 .add e (.int .i64 1)) fun b =>
(y8c a c g d b h)
def y7d (s : St) : OX := yid (s 2) (s 3) (s 5) (s 26) (s 27) s.h
theorem y0i : T1 yrj y58 (y1 0 y24 xN) [.t 4] y7d := fun _ => by kernel_rfl
def ydy (d t g i e y n : AV) (h : Heap) : OX :=
ob (y3 .lss e (.int .i64 0)) fun c =>
gb c false (some e) fun A =>
gb c false (evFa 0 d) fun G =>
gb c false (evLd false 1 G h) fun w =>
gb c false (yz 1 w h) fun z =>
gb c false (y3 .geq A z) fun B =>
ob (yb c (.bool true) B) fun b =>
gb b false (some i) fun r =>
gb b false (ygx 4 1 g r) fun F =>
gb b false (evLd false 1 F h) fun m =>
gb b false (y3 .gtr m (.int .i64 0)) fun u =>
gb b false (some u) fun a =>
gb a true (evFa 0 d) fun D =>
gb a true (evLd false 1 D h) fun p =>
gb a true (some e) fun l =>
gb a true (yu 1 p l) fun o =>
gb a true (evLd false 1 o h) fun H =>
gb a true (some i) fun v =>
gb a true (ygx 4 1 g v) fun C =>
gb a true (evLd false 1 C h) fun I =>
gb a true (y3 .neq H I) fun k =>
gb b false (yb a k (.bool false)) fun j =>
ob (yb b (.bool true) j) fun x =>
cnd x
 ((yd h (.bool false)))
 ((yid d t g y n h))
def y1ao (s : St) : OX := ydy (s 2) (s 3) (s 5) (s 7) (s 8) (s 26) (s 27) s.h
theorem y11a : T1 yq1 y7d (y1 1 y7d (y1 0 y24 xN)) [.t 4] y1ao := fun _ => by kernel_rfl
def y94 (b c a d i e g : AV) (h : Heap) : OX :=
ob (ygx 4 1 a d) fun j =>
ob (evLd false 1 j h) fun l =>
ob (y3 .lss l (.int .i64 0)) fun k =>
cnd k
 ((yid b c a e g h))
 ((ydy b c a d i e g h))
def y1do (s : St) : OX := y94 (s 2) (s 3) (s 5) (s 7) (s 8) (s 26) (s 27) s.h
theorem yzb : T1 yo4 y7d (y1 1 y7d (y1 0 y24 xN)) [.t 4] y1do := sq y11a fun _ => by kernel_rfl
def yuw (c d e b a : AV) (h : Heap) : OX :=
ob (yh2 false 4 1 b a) fun g =>
(y94 c d e a g b a h)
def yl3 (s : St) : OX := yuw (s 2) (s 3) (s 5) (s 26) (s 27) s.h
theorem yum : T1 yoc y7d (y1 1 y7d (y1 0 y24 xN)) [.t 4] yl3 := sq yzb fun _ => by kernel_rfl
theorem ytt : T1 yr5 y7d (y1 0 y24 xN) [.t 4] yl3 := fun s => yy.trans (yum s)
theorem y0o : T1 ylj y58 (y1 0 y24 xN) [.t 4] yl3 := sq y0i ytt
def ym7 (a b g c e d : AV) (h : Heap) : OX :=
cnd d
 ((yuw a b g c e h))
 ((yhr a b h))
def y1c9 (s : St) : OX := ym7 (s 2) (s 3) (s 5) (s 26) (s 27) (s 28) s.h
theorem yz3 : T1 yph y58 (y1 0 y24 xN) [.t 4] y1c9 := sq y0o fun _ => by kernel_rfl
def ymv (b c g d a : AV) (h : Heap) : OX :=
ob (y3 .lss a (.int .i64 4)) fun e =>
(ym7 b c g d a e h)
def y1co (s : St) : OX := ymv (s 2) (s 3) (s 5) (s 26) (s 27) s.h
theorem ywt : T1 ym2 y58 (y1 0 y24 xN) [.t 4] y1co := sq yz3 fun _ => by kernel_rfl
theorem yg1 (a b e c d : AV) (h : Heap) : y8c a b e c d h = (ymv a b e c d h) :=
  y28.trans ((y1m _ _ _ (n' := y58) (fun s => yfh s)).trans ((ywt _).trans (by kernel_rfl)))
theorem yzg : T1 yp5 y24 xN [.t 4] y58 := fun s => yy.trans (yfh s)
def y12v (d a m : AV) (h : Heap) : OX :=
ob (evFa 1 a) fun c =>
ob (evLd false 1 c h) fun n =>
ob (evFa 2 a) fun e =>
ob (evLd false 1 e h) fun b =>
ob (evFa 3 a) fun j =>
ob (evLd false 1 j h) fun i =>
ob (evFa 4 a) fun k =>
ob (evLd false 1 k h) fun g =>
ob (yt [(.int .i64 0), (.int .i64 0), (.int .i64 0), (.int .i64 0)] [(0, 1, n), (1, 1, b), (2, 1, i), (3, 1, g)]) fun l =>
(y8c d a m l (.int .i64 0) h)
def yz1 (s : St) : OX := y12v (s 2) (s 3) (s 5) s.h
theorem yxw : T1 you y24 xN [.t 4] yz1 := sq yzg fun _ => by kernel_rfl
theorem yts : T0 yr3 [.t 4] yz1 := sq yvj yxw
def yny (c d e b : AV) (h : Heap) : OX :=
ob (evUn .not b) fun a =>
cnd a
 ((yd h (.bool false)))
 ((y12v c d e h))
def y1af (s : St) : OX := yny (s 2) (s 3) (s 5) (s 6) s.h
theorem ytd : T0 ypf [.t 4] y1af := sq yts fun _ => by kernel_rfl
def yp0 (g b : AV) (h : Heap) : OX :=
ob (evLd true 9 b h) fun e =>
oh (y5 E (y7 E) 0 none true 47 [e] h) fun a h3 =>
ob (y9v 0 a) fun i =>
ob (y9v 1 a) fun d =>
oh (newC 0 (some 2) [(.int .i64 0), (.int .i64 0), (.int .i64 0), (.int .i64 0)] h3) fun c h4 =>
oh (evSt 4 c i h4) fun _ h5 =>
(yny g b c d h5)
def y1dh (s : St) : OX := yp0 (s 2) (s 3) s.h
theorem y13a : T0 yqy [.t 4] y1dh := sq ytd fun _ => by kernel_rfl
def yi9 (a b : AV) (h : Heap) : OX :=
oh (newC 0 (some 0) (cellsOf a) h) fun c h6 =>
oh (newC 0 (some 1) (cellsOf b) h6) fun d h7 =>
(yp0 c d h7)
def y1aw (s : St) : OX := yi9 (s 0) (s 1) s.h
theorem yuy : T0 yqq [.t 4] y1aw := sq y13a fun _ => by kernel_rfl
@[simp] theorem y1jv : E.pure 63 = true := rfl
theorem y1jq (a b : AV) : (y7 E).p 63 [a, b] = yi9 a b [⟨0, .dead⟩, ⟨0, .dead⟩, ⟨0, .dead⟩] :=
  (y1n (cf := y1gy) (by kernel_rfl) rfl).trans ((yuy _).trans (by kernel_rfl))
def y1ab (m : AV) (h : Heap) : OX :=
oh (newC 0 (some 0) (cellsOf m) h) fun c h1 =>
ob (evFa 0 c) fun l =>
ob (evLd false 1 l h1) fun d =>
ob (y3 .eql d (.int .i64 27)) fun a =>
gb a false (evFa 0 c) fun n =>
gb a false (evLd false 1 n h1) fun i =>
gb a false (y3 .eql i (.int .i64 28)) fun o =>
ob (yb a (.bool true) o) fun b =>
gb b false (evFa 0 c) fun j =>
gb b false (evLd false 1 j h1) fun k =>
gb b false (y3 .eql k (.int .i64 29)) fun e =>
ob (yb b (.bool true) e) fun g =>
(yd h1 g)
def y1fk (s : St) : OX := y1ab (s 0) s.h
theorem y165 : T0 y01 [.t 2] y1fk := fun _ => by kernel_rfl
@[simp] theorem y1jk : E.pure 22 = true := rfl
theorem y1j3 (a : AV) : (y7 E).p 22 [a] = y1ab a [⟨0, .dead⟩] :=
  (y1n (cf := y1gw) (by kernel_rfl) rfl).trans ((y165 _).trans (by kernel_rfl))
def y1al (g : AV) (h : Heap) : OX :=
oh (newC 0 (some 0) (cellsOf g) h) fun b h1 =>
ob (evFa 0 b) fun e =>
ob (evLd false 1 e h1) fun c =>
ob (y3 .geq c (.int .i64 23)) fun a =>
gb a true (evFa 0 b) fun i =>
gb a true (evLd false 1 i h1) fun d =>
gb a true (y3 .leq d (.int .i64 26)) fun j =>
ob (yb a j (.bool false)) fun k =>
(yd h1 k)
def y1gc (s : St) : OX := y1al (s 0) s.h
theorem y15a : T0 y11t [.t 2] y1gc := fun _ => by kernel_rfl
@[simp] theorem yk8 : E.pure 17 = true := rfl
theorem y1k4 (a : AV) : (y7 E).p 17 [a] = y1al a [⟨0, .dead⟩] :=
  (y1n (cf := y1fh) (by kernel_rfl) rfl).trans ((y15a _).trans (by kernel_rfl))
def yg6 (h : Heap) : OX :=
(yd h (.int .i64 (-1)))
def y3s (s : St) : OX := yg6 s.h
theorem y131 : T0 ylp [.t 4] y3s := fun _ => by kernel_rfl
def ye3 (a b d c : AV) (h : Heap) : OX :=
  W E 0 ye0 ⟨[(0, a), (1, b), (7, d), (8, c)], h⟩ y3s (y1 0 y3s xN) (finP [.t 4])
def y57 (s : St) : OX := ye3 (s 0) (s 1) (s 7) (s 8) s.h
theorem ygi : T1 ye0 y3s (y1 0 y3s xN) [.t 4] y57 := fun s => yj.trans (by kernel_rfl)
def yg5 (d c e a : AV) (h : Heap) : OX :=
ob (y3 .add a (.int .i64 1)) fun b =>
(ye3 d c e b h)
def y1dd (s : St) : OX := yg5 (s 0) (s 1) (s 7) (s 8) s.h
theorem y12m : T1 yn2 y57 (y1 0 y3s xN) [.t 4] y1dd := fun _ => by kernel_rfl
def yet (c b g a : AV) (h : Heap) : OX :=
ob (yu 1 c a) fun i =>
ob (evLd false 1 i h) fun d =>
ob (y3 .eql b d) fun e =>
cnd e
 ((yd h a))
 ((yg5 c b g a h))
def y1ah (s : St) : OX := yet (s 0) (s 1) (s 7) (s 8) s.h
theorem y13g : T1 ypo y57 (y1 0 y3s xN) [.t 4] y1ah := sq y12m fun _ => by kernel_rfl
def yf1 (c b d a e : AV) (h : Heap) : OX :=
cnd e
 ((yet c b d a h))
 ((yg6 h))
def y1as (s : St) : OX := yf1 (s 0) (s 1) (s 7) (s 8) (s 9) s.h
theorem yx8 : T1 yl5 y57 (y1 0 y3s xN) [.t 4] y1as := sq y13g fun _ => by kernel_rfl
def ygk (d c b a : AV) (h : Heap) : OX :=
ob (y3 .lss a b) fun e =>
(yf1 d c b a e h)
def y1bk (s : St) : OX := ygk (s 0) (s 1) (s 7) (s 8) s.h
theorem yyb : T1 ymn y57 (y1 0 y3s xN) [.t 4] y1bk := sq yx8 fun _ => by kernel_rfl
theorem yfp (a b d c : AV) (h : Heap) : ye3 a b d c h = (ygk a b d c h) :=
  y28.trans ((y1m _ _ _ (n' := y57) (fun s => ygi s)).trans ((yyb _).trans (by kernel_rfl)))
theorem yuz : T1 yqt y3s xN [.t 4] y57 := fun s => yy.trans (ygi s)
def yf7 (a b : AV) (h : Heap) : OX :=
ob (yz 1 a h) fun c =>
(ye3 a b c (.int .i64 0) h)
def ytr (s : St) : OX := yf7 (s 0) (s 1) s.h
theorem yvv : T1 yqw y3s xN [.t 4] ytr := sq yuz fun _ => by kernel_rfl
theorem y119 : T0 yni [.t 4] ytr := sq y131 yvv
def ya7 (a b : AV) (h : Heap) : OX :=
(yf7 a b h)
def y16l (s : St) : OX := ya7 (s 0) (s 1) s.h
theorem ysa : T0 yii [.t 4] y16l := sq y119 fun _ => by kernel_rfl
@[simp] theorem y1ja : E.pure 45 = true := rfl
theorem y1ey (a b : AV) : (y7 E).p 45 [a, b] = ya7 a b [] :=
  (y1n (cf := y17w) (by kernel_rfl) rfl).trans ((ysa _).trans (by kernel_rfl))
def ybc (c a : AV) (h : Heap) : OX :=
ob (evLd true 9 c h) fun e =>
oh (y5 E (y7 E) 0 none true 51 [e] h) fun b h1 =>
ob (y9v 0 b) fun d =>
ob (y9v 1 b) fun g =>
oh (evSt 4 a d h1) fun _ h2 =>
(ob (evLd true 4 a h2) fun r0 =>
  yd h2 (.tup [r0, g]))
def y9 (s : St) : OX := ybc (s 1) (s 2) s.h
theorem y163 : T0 ywn [.cell 2 true 4, .t 3] y9 := fun _ => by kernel_rfl
def yab (b a d : AV) (h : Heap) : OX :=
cnd d
 (ob (yt [(.int .i64 0), (.int .i64 0), (.int .i64 0), (.int .i64 0)] [(0, 1, (.int .i64 (-1))), (1, 1, (.int .i64 (-1))), (2, 1, (.int .i64 (-1))), (3, 1, (.int .i64 (-1)))]) fun c =>
oh (evSt 4 a c h) fun _ h3 =>
(ob (evLd true 4 a h3) fun r0 =>
  yd h3 (.tup [r0, (.bool true)])))
 ((ybc b a h))
def y1g3 (s : St) : OX := yab (s 1) (s 2) (s 134) s.h
theorem y13u : T1 y0p y9 (y1 0 y9 xN) [.cell 2 true 4, .t 3] y1g3 := fun _ => by kernel_rfl
def ybo (c d a : AV) (h : Heap) : OX :=
ob (y3 .eql a (.int .i64 27)) fun b =>
cnd b
 ((yab c d b h))
 (ob (y3 .eql a (.int .i64 33)) fun e =>
(yab c d e h))
def y1em (s : St) : OX := ybo (s 1) (s 2) (s 11) s.h
theorem y15h : T1 y135 y9 (y1 0 y9 xN) [.cell 2 true 4, .t 3] y1em := sq y13u fun _ => by kernel_rfl
def ybn (c b i n : AV) (h : Heap) : OX :=
cnd n
 (ob (yt [(.int .i64 0), (.int .i64 0), (.int .i64 0), (.int .i64 0)] [(0, 1, (.int .i64 (-1))), (1, 1, (.int .i64 1)), (2, 1, (.int .i64 1)), (3, 1, (.int .i64 (-1)))]) fun l =>
ob (evFa 5 c) fun d =>
ob (evLd false 1 d h) fun m =>
ob (y3 .geq m (.int .i64 0)) fun a =>
ofp (fgd a true (some ([], []))) fun f5 =>
gb a true (evFa 5 c) fun e =>
ofp (fgd a true (some (ids1 e, []))) fun f6 =>
gb a true (evLd false 1 e h) fun k =>
ofp (fgd a true (some ([], []))) fun f7 =>
gb a true (y3 .leq k (.int .i64 5)) fun g =>
ob (yb a g (.bool false)) fun j =>
oh (evSt 4 b l h) fun _ h4 =>
okK (yi [([], []), ([], []), (ids1 d, []), ([], []), ([], []), f5, f6, f7, ([], []), ([], ids1 b), ([], [])] [(6, 9)]) <|
(ob (evLd true 4 b h4) fun r0 =>
  yd h4 (.tup [r0, j])))
 ((ybo c b i h))
def y1ga (s : St) : OX := ybn (s 1) (s 2) (s 11) (s 123) s.h
theorem y14v : T1 yx9 y9 (y1 0 y9 xN) [.cell 2 true 4, .t 3] y1ga := fun s => (y1e rfl (y15h s)).trans (by kernel_rfl)
def yb8 (c d a : AV) (h : Heap) : OX :=
ob (y3 .eql a (.int .i64 28)) fun b =>
(ybn c d a b h)
def y1hk (s : St) : OX := yb8 (s 1) (s 2) (s 11) s.h
theorem y176 : T1 ywu y9 (y1 0 y9 xN) [.cell 2 true 4, .t 3] y1hk := sq y14v fun _ => by kernel_rfl
def ybi (b a c e : AV) (h : Heap) : OX :=
cnd e
 (ob (yt [(.int .i64 0), (.int .i64 0), (.int .i64 0), (.int .i64 0)] [(0, 1, (.int .i64 3)), (1, 1, (.int .i64 1)), (2, 1, (.int .i64 (-1))), (3, 1, (.int .i64 (-1)))]) fun d =>
ob (evFa 7 b) fun g =>
ob (evLd false 1 g h) fun j =>
oh (y5 E (y7 E) 0 none true 37 [j] h) fun i h5 =>
oh (evSt 4 a d h5) fun _ h6 =>
(ob (evLd true 4 a h6) fun r0 =>
  yd h6 (.tup [r0, i])))
 ((yb8 b a c h))
def y1fe (s : St) : OX := ybi (s 1) (s 2) (s 11) (s 117) s.h
theorem y14c : T1 yzt y9 (y1 0 y9 xN) [.cell 2 true 4, .t 3] y1fe := fun s => (y1e rfl (y176 s)).trans (by kernel_rfl)
def ybp (b c a : AV) (h : Heap) : OX :=
ob (y3 .eql a (.int .i64 21)) fun d =>
(ybi b c a d h)
def y1fg (s : St) : OX := ybp (s 1) (s 2) (s 11) s.h
theorem y14k : T1 yzv y9 (y1 0 y9 xN) [.cell 2 true 4, .t 3] y1fg := sq y14c fun _ => by kernel_rfl
def ybk (c a b d : AV) (h : Heap) : OX :=
cnd d
 (ob (yt [(.int .i64 0), (.int .i64 0), (.int .i64 0), (.int .i64 0)] [(0, 1, (.int .i64 (-1))), (1, 1, (.int .i64 0)), (2, 1, (.int .i64 (-1))), (3, 1, (.int .i64 (-1)))]) fun e =>
oh (evSt 4 a e h) fun _ h7 =>
(ob (evLd true 4 a h7) fun r0 =>
  yd h7 (.tup [r0, (.bool true)])))
 ((ybp c a b h))
def y1h7 (s : St) : OX := ybk (s 1) (s 2) (s 11) (s 114) s.h
theorem y174 : T1 yw3 y9 (y1 0 y9 xN) [.cell 2 true 4, .t 3] y1h7 := fun s => (y1e rfl (y14k s)).trans (by kernel_rfl)
def ybf (b c a : AV) (h : Heap) : OX :=
ob (y3 .eql a (.int .i64 19)) fun d =>
(ybk b c a d h)
def y1eq (s : St) : OX := ybf (s 1) (s 2) (s 11) s.h
theorem y16n : T1 yv2 y9 (y1 0 y9 xN) [.cell 2 true 4, .t 3] y1eq := sq y174 fun _ => by kernel_rfl
def y62 (c a d e : AV) (h : Heap) : OX :=
cnd e
 (ob (yt [(.int .i64 0), (.int .i64 0), (.int .i64 0), (.int .i64 0)] [(0, 1, (.int .i64 (-1))), (1, 1, (.int .i64 3)), (2, 1, (.int .i64 0)), (3, 1, (.int .i64 (-1)))]) fun j =>
ob (evFa 5 c) fun b =>
ob (evLd false 1 b h) fun g =>
ob (y3 .geq g (.int .i64 0)) fun i =>
oh (evSt 4 a j h) fun _ h8 =>
okK (yi [([], []), ([], []), (ids1 b, []), ([], []), ([], ids1 a), ([], [])] [(2, 4)]) <|
(ob (evLd true 4 a h8) fun r0 =>
  yd h8 (.tup [r0, i])))
 ((ybf c a d h))
def y18m (s : St) : OX := y62 (s 1) (s 2) (s 11) (s 108) s.h
theorem y11d : T1 yqb y9 (y1 0 y9 xN) [.cell 2 true 4, .t 3] y18m := fun s => (y1e rfl (y16n s)).trans (by kernel_rfl)
def y66 (b c a : AV) (h : Heap) : OX :=
ob (y3 .eql a (.int .i64 17)) fun d =>
(y62 b c a d h)
def y1bc (s : St) : OX := y66 (s 1) (s 2) (s 11) s.h
theorem y117 : T1 ynr y9 (y1 0 y9 xN) [.cell 2 true 4, .t 3] y1bc := sq y11d fun _ => by kernel_rfl
def y65 (c a d i : AV) (h : Heap) : OX :=
cnd i
 (ob (yt [(.int .i64 0), (.int .i64 0), (.int .i64 0), (.int .i64 0)] [(0, 1, (.int .i64 0)), (1, 1, (.int .i64 3)), (2, 1, (.int .i64 (-1))), (3, 1, (.int .i64 (-1)))]) fun j =>
ob (evFa 5 c) fun b =>
ob (evLd false 1 b h) fun e =>
ob (y3 .geq e (.int .i64 0)) fun g =>
oh (evSt 4 a j h) fun _ h9 =>
okK (yi [([], []), ([], []), (ids1 b, []), ([], []), ([], ids1 a), ([], [])] [(2, 4)]) <|
(ob (evLd true 4 a h9) fun r0 =>
  yd h9 (.tup [r0, g])))
 ((y66 c a d h))
def y18y (s : St) : OX := y65 (s 1) (s 2) (s 11) (s 102) s.h
theorem y12o : T1 yqd y9 (y1 0 y9 xN) [.cell 2 true 4, .t 3] y18y := fun s => (y1e rfl (y117 s)).trans (by kernel_rfl)
def y6d (b c a : AV) (h : Heap) : OX :=
ob (y3 .eql a (.int .i64 16)) fun d =>
(y65 b c a d h)
def y1d7 (s : St) : OX := y6d (s 1) (s 2) (s 11) s.h
theorem ytz : T1 yqf y9 (y1 0 y9 xN) [.cell 2 true 4, .t 3] y1d7 := sq y12o fun _ => by kernel_rfl
def y6c (d a c b : AV) (h : Heap) : OX :=
cnd b
 (ob (yt [(.int .i64 0), (.int .i64 0), (.int .i64 0), (.int .i64 0)] [(0, 1, (.int .i64 1)), (1, 1, (.int .i64 3)), (2, 1, (.int .i64 (-1))), (3, 1, (.int .i64 (-1)))]) fun e =>
oh (evSt 4 a e h) fun _ h10 =>
(ob (evLd true 4 a h10) fun r0 =>
  yd h10 (.tup [r0, (.bool true)])))
 ((y6d d a c h))
def y1d9 (s : St) : OX := y6c (s 1) (s 2) (s 11) (s 99) s.h
theorem yvq : T1 yp2 y9 (y1 0 y9 xN) [.cell 2 true 4, .t 3] y1d9 := fun s => (y1e rfl (ytz s)).trans (by kernel_rfl)
def y5s (b c a : AV) (h : Heap) : OX :=
ob (y3 .eql a (.int .i64 15)) fun d =>
(y6c b c a d h)
def y1d5 (s : St) : OX := y5s (s 1) (s 2) (s 11) s.h
theorem yxi : T1 ynb y9 (y1 0 y9 xN) [.cell 2 true 4, .t 3] y1d5 := sq yvq fun _ => by kernel_rfl
def y6b (c a b d : AV) (h : Heap) : OX :=
cnd d
 (ob (yt [(.int .i64 0), (.int .i64 0), (.int .i64 0), (.int .i64 0)] [(0, 1, (.int .i64 (-1))), (1, 1, (.int .i64 3)), (2, 1, (.int .i64 1)), (3, 1, (.int .i64 0))]) fun e =>
oh (evSt 4 a e h) fun _ h11 =>
(ob (evLd true 4 a h11) fun r0 =>
  yd h11 (.tup [r0, (.bool true)])))
 ((y5s c a b h))
def y18l (s : St) : OX := y6b (s 1) (s 2) (s 11) (s 96) s.h
theorem yyu : T1 ypg y9 (y1 0 y9 xN) [.cell 2 true 4, .t 3] y18l := fun s => (y1e rfl (yxi s)).trans (by kernel_rfl)
def y6k (b c a : AV) (h : Heap) : OX :=
ob (y3 .eql a (.int .i64 14)) fun d =>
(y6b b c a d h)
def y18q (s : St) : OX := y6k (s 1) (s 2) (s 11) s.h
theorem yz6 : T1 ymb y9 (y1 0 y9 xN) [.cell 2 true 4, .t 3] y18q := sq yyu fun _ => by kernel_rfl
def y6m (d a b e : AV) (h : Heap) : OX :=
cnd e
 (ob (yt [(.int .i64 0), (.int .i64 0), (.int .i64 0), (.int .i64 0)] [(0, 1, (.int .i64 0)), (1, 1, (.int .i64 3)), (2, 1, (.int .i64 1)), (3, 1, (.int .i64 (-1)))]) fun c =>
oh (evSt 4 a c h) fun _ h12 =>
(ob (evLd true 4 a h12) fun r0 =>
  yd h12 (.tup [r0, (.bool true)])))
 ((y6k d a b h))
def y19w (s : St) : OX := y6m (s 1) (s 2) (s 11) (s 93) s.h
theorem y12s : T1 yo2 y9 (y1 0 y9 xN) [.cell 2 true 4, .t 3] y19w := fun s => (y1e rfl (yz6 s)).trans (by kernel_rfl)
def y6p (c d a : AV) (h : Heap) : OX :=
ob (y3 .eql a (.int .i64 13)) fun b =>
(y6m c d a b h)
def y1c7 (s : St) : OX := y6p (s 1) (s 2) (s 11) s.h
theorem yvt : T1 yqi y9 (y1 0 y9 xN) [.cell 2 true 4, .t 3] y1c7 := sq y12s fun _ => by kernel_rfl
def y64 (c a b d : AV) (h : Heap) : OX :=
cnd d
 (ob (yt [(.int .i64 0), (.int .i64 0), (.int .i64 0), (.int .i64 0)] [(0, 1, (.int .i64 (-1))), (1, 1, (.int .i64 3)), (2, 1, (.int .i64 3)), (3, 1, (.int .i64 (-1)))]) fun e =>
oh (evSt 4 a e h) fun _ h13 =>
(ob (evLd true 4 a h13) fun r0 =>
  yd h13 (.tup [r0, (.bool true)])))
 ((y6p c a b h))
def y1b1 (s : St) : OX := y64 (s 1) (s 2) (s 11) (s 90) s.h
theorem yxb : T1 yl7 y9 (y1 0 y9 xN) [.cell 2 true 4, .t 3] y1b1 := fun s => (y1e rfl (yvt s)).trans (by kernel_rfl)
def y5v (c d a : AV) (h : Heap) : OX :=
ob (y3 .eql a (.int .i64 11)) fun b =>
(y64 c d a b h)
def y18o (s : St) : OX := y5v (s 1) (s 2) (s 11) s.h
theorem y11s : T1 yr0 y9 (y1 0 y9 xN) [.cell 2 true 4, .t 3] y18o := sq yxb fun _ => by kernel_rfl
def y6f (e a c d : AV) (h : Heap) : OX :=
cnd d
 (ob (yt [(.int .i64 0), (.int .i64 0), (.int .i64 0), (.int .i64 0)] [(0, 1, (.int .i64 (-1))), (1, 1, (.int .i64 1)), (2, 1, (.int .i64 (-1))), (3, 1, (.int .i64 (-1)))]) fun b =>
oh (evSt 4 a b h) fun _ h14 =>
(ob (evLd true 4 a h14) fun r0 =>
  yd h14 (.tup [r0, (.bool true)])))
 ((y5v e a c h))
def y1bl (s : St) : OX := y6f (s 1) (s 2) (s 11) (s 87) s.h
theorem ywx : T1 yow y9 (y1 0 y9 xN) [.cell 2 true 4, .t 3] y1bl := fun s => (y1e rfl (y11s s)).trans (by kernel_rfl)
def y6e (b c a : AV) (h : Heap) : OX :=
ob (y3 .eql a (.int .i64 10)) fun d =>
(y6f b c a d h)
def y1df (s : St) : OX := y6e (s 1) (s 2) (s 11) s.h
theorem y12l : T1 yo7 y9 (y1 0 y9 xN) [.cell 2 true 4, .t 3] y1df := sq ywx fun _ => by kernel_rfl
def y60 (c a b d : AV) (h : Heap) : OX :=
cnd d
 (ob (yt [(.int .i64 0), (.int .i64 0), (.int .i64 0), (.int .i64 0)] [(0, 1, (.int .i64 (-1))), (1, 1, (.int .i64 3)), (2, 1, (.int .i64 1)), (3, 1, (.int .i64 (-1)))]) fun e =>
oh (evSt 4 a e h) fun _ h15 =>
(ob (evLd true 4 a h15) fun r0 =>
  yd h15 (.tup [r0, (.bool true)])))
 ((y6e c a b h))
def y18v (s : St) : OX := y60 (s 1) (s 2) (s 11) (s 84) s.h
theorem yyi : T1 ymz y9 (y1 0 y9 xN) [.cell 2 true 4, .t 3] y18v := fun s => (y1e rfl (y12l s)).trans (by kernel_rfl)
def y61 (c d a : AV) (h : Heap) : OX :=
ob (y3 .eql a (.int .i64 9)) fun b =>
(y60 c d a b h)
def y1bt (s : St) : OX := y61 (s 1) (s 2) (s 11) s.h
theorem yw0 : T1 ypt y9 (y1 0 y9 xN) [.cell 2 true 4, .t 3] y1bt := sq yyi fun _ => by kernel_rfl
def y5y (b a c e : AV) (h : Heap) : OX :=
cnd e
 (ob (yt [(.int .i64 0), (.int .i64 0), (.int .i64 0), (.int .i64 0)] [(0, 1, (.int .i64 1)), (1, 1, (.int .i64 3)), (2, 1, (.int .i64 (-1))), (3, 1, (.int .i64 (-1)))]) fun j =>
ob (evFa 7 b) fun d =>
ob (evLd false 1 d h) fun g =>
oh (y5 E (y7 E) 0 none true 37 [g] h) fun i h16 =>
oh (evSt 4 a j h16) fun _ h17 =>
(ob (evLd true 4 a h17) fun r0 =>
  yd h17 (.tup [r0, i])))
 ((y61 b a c h))
def y192 (s : St) : OX := y5y (s 1) (s 2) (s 11) (s 78) s.h
theorem yuq : T1 ynj y9 (y1 0 y9 xN) [.cell 2 true 4, .t 3] y192 := fun s => (y1e rfl (yw0 s)).trans (by kernel_rfl)
def y6j (b c a : AV) (h : Heap) : OX :=
ob (y3 .eql a (.int .i64 22)) fun d =>
(y5y b c a d h)
def y1cj (s : St) : OX := y6j (s 1) (s 2) (s 11) s.h
theorem yv4 : T1 ype y9 (y1 0 y9 xN) [.cell 2 true 4, .t 3] y1cj := sq yuq fun _ => by kernel_rfl
def y6l (b a d c : AV) (h : Heap) : OX :=
cnd c
 (ob (yt [(.int .i64 0), (.int .i64 0), (.int .i64 0), (.int .i64 0)] [(0, 1, (.int .i64 (-1))), (1, 1, (.int .i64 3)), (2, 1, (.int .i64 (-1))), (3, 1, (.int .i64 (-1)))]) fun i =>
ob (evFa 7 b) fun j =>
ob (evLd false 1 j h) fun g =>
oh (y5 E (y7 E) 0 none true 37 [g] h) fun e h18 =>
oh (evSt 4 a i h18) fun _ h19 =>
(ob (evLd true 4 a h19) fun r0 =>
  yd h19 (.tup [r0, e])))
 ((y6j b a d h))
def y1at (s : St) : OX := y6l (s 1) (s 2) (s 11) (s 72) s.h
theorem yva : T1 ym0 y9 (y1 0 y9 xN) [.cell 2 true 4, .t 3] y1at := fun s => (y1e rfl (yv4 s)).trans (by kernel_rfl)
def y67 (b c a : AV) (h : Heap) : OX :=
ob (y3 .eql a (.int .i64 12)) fun d =>
(y6l b c a d h)
def y1ay (s : St) : OX := y67 (s 1) (s 2) (s 11) s.h
theorem y12x : T1 yp7 y9 (y1 0 y9 xN) [.cell 2 true 4, .t 3] y1ay := sq yva fun _ => by kernel_rfl
def y4t (c a b e : AV) (h : Heap) : OX :=
cnd e
 (ob (yt [(.int .i64 0), (.int .i64 0), (.int .i64 0), (.int .i64 0)] [(0, 1, (.int .i64 (-1))), (1, 1, (.int .i64 3)), (2, 1, (.int .i64 (-1))), (3, 1, (.int .i64 (-1)))]) fun d =>
oh (evSt 4 a d h) fun _ h20 =>
(ob (evLd true 4 a h20) fun r0 =>
  yd h20 (.tup [r0, (.bool true)])))
 ((y67 c a b h))
def y1a1 (s : St) : OX := y4t (s 1) (s 2) (s 11) (s 68) s.h
theorem yzs : T1 ymo y9 (y1 0 y9 xN) [.cell 2 true 4, .t 3] y1a1 := fun s => (y1e rfl (y12x s)).trans (by kernel_rfl)
def y6r (c d a : AV) (h : Heap) : OX :=
ob (y3 .eql a (.int .i64 8)) fun b =>
cnd b
 ((y4t c d a b h))
 (ob (y3 .eql a (.int .i64 31)) fun e =>
(y4t c d a e h))
def y1d0 (s : St) : OX := y6r (s 1) (s 2) (s 11) s.h
theorem yxa : T1 ynw y9 (y1 0 y9 xN) [.cell 2 true 4, .t 3] y1d0 := sq yzs fun _ => by kernel_rfl
def y6q (d a b c : AV) (h : Heap) : OX :=
cnd c
 (ob (yt [(.int .i64 0), (.int .i64 0), (.int .i64 0), (.int .i64 0)] [(0, 1, (.int .i64 (-1))), (1, 1, (.int .i64 0)), (2, 1, (.int .i64 (-1))), (3, 1, (.int .i64 (-1)))]) fun e =>
oh (evSt 4 a e h) fun _ h21 =>
(ob (evLd true 4 a h21) fun r0 =>
  yd h21 (.tup [r0, (.bool true)])))
 ((y6r d a b h))
def y18t (s : St) : OX := y6q (s 1) (s 2) (s 11) (s 65) s.h
theorem yxy : T1 yo8 y9 (y1 0 y9 xN) [.cell 2 true 4, .t 3] y18t := fun s => (y1e rfl (yxa s)).trans (by kernel_rfl)
def y6n (c d a : AV) (h : Heap) : OX :=
ob (y3 .eql a (.int .i64 7)) fun b =>
(y6q c d a b h)
def y1b3 (s : St) : OX := y6n (s 1) (s 2) (s 11) s.h
theorem y139 : T1 ymr y9 (y1 0 y9 xN) [.cell 2 true 4, .t 3] y1b3 := sq yxy fun _ => by kernel_rfl
def y5t (e a g o : AV) (h : Heap) : OX :=
cnd o
 (ob (evFa 5 e) fun r =>
ob (evLd false 1 r h) fun j =>
oh (y5 E (y7 E) 0 none true 50 [j] h) fun c h22 =>
ob (y9v 0 c) fun d =>
ob (y9v 1 c) fun k =>
ob (y9v 2 c) fun l =>
ob (yt [(.int .i64 0), (.int .i64 0), (.int .i64 0), (.int .i64 0)] [(0, 1, l), (1, 1, d), (2, 1, (.int .i64 (-1))), (3, 1, (.int .i64 (-1)))]) fun m =>
ob (y3 .neq d (.int .i64 0)) fun b =>
gb b true (some k) fun i =>
gb b true (y3 .eql i (.int .i64 0)) fun n =>
ob (yb b n (.bool false)) fun p =>
oh (evSt 4 a m h22) fun _ h23 =>
(ob (evLd true 4 a h23) fun r0 =>
  yd h23 (.tup [r0, p])))
 ((y6n e a g h))
def y1bj (s : St) : OX := y5t (s 1) (s 2) (s 11) (s 47) s.h
theorem y13r : T1 yq3 y9 (y1 0 y9 xN) [.cell 2 true 4, .t 3] y1bj := fun s => (y1e rfl (y139 s)).trans (by kernel_rfl)
def y63 (c d a : AV) (h : Heap) : OX :=
ob (y3 .eql a (.int .i64 6)) fun b =>
(y5t c d a b h)
def y1a9 (s : St) : OX := y63 (s 1) (s 2) (s 11) s.h
theorem y13f : T1 yog y9 (y1 0 y9 xN) [.cell 2 true 4, .t 3] y1a9 := sq y13r fun _ => by kernel_rfl
def y5u (a b g m : AV) (h : Heap) : OX :=
cnd m
 (ob (evFa 5 a) fun k =>
ob (evLd false 1 k h) fun i =>
oh (y5 E (y7 E) 0 none true 50 [i] h) fun d h24 =>
ob (y9v 0 d) fun j =>
ob (y9v 1 d) fun e =>
ob (y9v 2 d) fun v =>
ob (yt [(.int .i64 0), (.int .i64 0), (.int .i64 0), (.int .i64 0)] [(0, 1, v), (1, 1, j), (2, 1, e), (3, 1, (.int .i64 (-1)))]) fun w =>
ob (evFa 5 a) fun p =>
ob (evLd false 1 p h24) fun u =>
ob (evFa 5 a) fun n =>
ob (evLd false 1 n h24) fun o =>
ob (y3 .eql u o) fun c =>
gb c true (some e) fun r =>
gb c true (y3 .neq r (.int .i64 0)) fun l =>
ob (yb c l (.bool false)) fun t =>
oh (evSt 4 b w h24) fun _ h25 =>
(ob (evLd true 4 b h25) fun r0 =>
  yd h25 (.tup [r0, t])))
 ((y63 a b g h))
def y1ce (s : St) : OX := y5u (s 1) (s 2) (s 11) (s 25) s.h
theorem yzj : T1 yop y9 (y1 0 y9 xN) [.cell 2 true 4, .t 3] y1ce := fun s => (y1e rfl (y13f s)).trans (by kernel_rfl)
def y69 (b c a : AV) (h : Heap) : OX :=
ob (y3 .eql a (.int .i64 5)) fun d =>
(y5u b c a d h)
def y1bf (s : St) : OX := y69 (s 1) (s 2) (s 11) s.h
theorem y136 : T1 ynp y9 (y1 0 y9 xN) [.cell 2 true 4, .t 3] y1bf := sq yzj fun _ => by kernel_rfl
def y6i (c a b d : AV) (h : Heap) : OX :=
cnd d
 (ob (yt [(.int .i64 0), (.int .i64 0), (.int .i64 0), (.int .i64 0)] [(0, 1, (.int .i64 0)), (1, 1, (.int .i64 0)), (2, 1, (.int .i64 (-1))), (3, 1, (.int .i64 (-1)))]) fun e =>
oh (evSt 4 a e h) fun _ h26 =>
(ob (evLd true 4 a h26) fun r0 =>
  yd h26 (.tup [r0, (.bool true)])))
 ((y69 c a b h))
def y1cl (s : St) : OX := y6i (s 1) (s 2) (s 11) (s 22) s.h
theorem yu9 : T1 yn9 y9 (y1 0 y9 xN) [.cell 2 true 4, .t 3] y1cl := fun s => (y1e rfl (y136 s)).trans (by kernel_rfl)
def y6o (c d a : AV) (h : Heap) : OX :=
ob (y3 .eql a (.int .i64 4)) fun b =>
(y6i c d a b h)
def y1ag (s : St) : OX := y6o (s 1) (s 2) (s 11) s.h
theorem y12g : T1 ypw y9 (y1 0 y9 xN) [.cell 2 true 4, .t 3] y1ag := sq yu9 fun _ => by kernel_rfl
def y42 (e a c d : AV) (h : Heap) : OX :=
cnd d
 (ob (yt [(.int .i64 0), (.int .i64 0), (.int .i64 0), (.int .i64 0)] [(0, 1, (.int .i64 3)), (1, 1, (.int .i64 (-1))), (2, 1, (.int .i64 (-1))), (3, 1, (.int .i64 (-1)))]) fun b =>
oh (evSt 4 a b h) fun _ h27 =>
(ob (evLd true 4 a h27) fun r0 =>
  yd h27 (.tup [r0, (.bool true)])))
 ((y6o e a c h))
def y18z (s : St) : OX := y42 (s 1) (s 2) (s 11) (s 16) s.h
theorem yu3 : T1 yms y9 (y1 0 y9 xN) [.cell 2 true 4, .t 3] y18z := fun s => (y1e rfl (y12g s)).trans (by kernel_rfl)
def y5z (b c a : AV) (h : Heap) : OX :=
ob (y3 .eql a (.int .i64 2)) fun d =>
cnd d
 ((y42 b c a d h))
 (ob (y3 .eql a (.int .i64 3)) fun e =>
cnd e
 ((y42 b c a e h))
 (ob (y3 .eql a (.int .i64 20)) fun g =>
cnd g
 ((y42 b c a g h))
 (ob (y3 .eql a (.int .i64 32)) fun i =>
(y42 b c a i h))))
def y1ct (s : St) : OX := y5z (s 1) (s 2) (s 11) s.h
theorem yxp : T1 ypn y9 (y1 0 y9 xN) [.cell 2 true 4, .t 3] y1ct := sq yu3 fun _ => by kernel_rfl
def y4m (e a b d : AV) (h : Heap) : OX :=
cnd d
 (ob (yt [(.int .i64 0), (.int .i64 0), (.int .i64 0), (.int .i64 0)] [(0, 1, (.int .i64 0)), (1, 1, (.int .i64 (-1))), (2, 1, (.int .i64 (-1))), (3, 1, (.int .i64 (-1)))]) fun c =>
oh (evSt 4 a c h) fun _ h28 =>
(ob (evLd true 4 a h28) fun r0 =>
  yd h28 (.tup [r0, (.bool true)])))
 ((y5z e a b h))
def y1b9 (s : St) : OX := y4m (s 1) (s 2) (s 11) (s 12) s.h
theorem y11p : T1 yps y9 (y1 0 y9 xN) [.cell 2 true 4, .t 3] y1b9 := fun s => (y1e rfl (yxp s)).trans (by kernel_rfl)
def y5w (b c a : AV) (h : Heap) : OX :=
ob (y3 .eql a (.int .i64 1)) fun d =>
cnd d
 ((y4m b c a d h))
 (ob (y3 .eql a (.int .i64 18)) fun e =>
(y4m b c a e h))
def yy6 (s : St) : OX := y5w (s 1) (s 2) (s 11) s.h
theorem yvx : T1 yox y9 (y1 0 y9 xN) [.cell 2 true 4, .t 3] yy6 := sq y11p fun _ => by kernel_rfl
theorem yuv : T1 ynn y9 xN [.cell 2 true 4, .t 3] yy6 := fun s => yy.trans (yvx s)
def y68 (a c : AV) (h : Heap) : OX :=
ob (evFa 0 a) fun d =>
ob (evLd false 1 d h) fun b =>
(y5w a c b h)
def yxc (s : St) : OX := y68 (s 1) (s 2) s.h
theorem yyr : T1 yn4 y9 xN [.cell 2 true 4, .t 3] yxc := sq yuv fun _ => by kernel_rfl
theorem yue : T0 yoq [.cell 2 true 4, .t 3] yxc := sq y163 yyr
def y5x (a : AV) (h : Heap) : OX :=
oh (newC 0 (some 0) (cellsOf a) h) fun b h29 =>
oh (newC 0 (some 1) [(.int .i64 0), (.int .i64 0), (.int .i64 0), (.int .i64 0)] h29) fun c h30 =>
(y68 b c h30)
def y1br (s : St) : OX := y5x (s 0) s.h
theorem yzd : T0 yrc [.cell 2 true 4, .t 3] y1br := sq yue fun _ => by kernel_rfl
@[simp] theorem y1jg : E.pure 47 = true := rfl
theorem yx0 (a : AV) : (y7 E).p 47 [a] = y5x a [⟨0, .dead⟩, ⟨0, .dead⟩] :=
  (y1n (cf := y1g4) (by kernel_rfl) rfl).trans ((yzd _).trans (by kernel_rfl))
def y19x (h : Heap) : OX :=
(yd h (.tup [(.int .i64 0), (.int .i64 0), (.int .i64 0)]))
def y20 (s : St) : OX := y19x s.h
theorem y15m : T0 y12n [.t 2, .t 3, .t 4] y20 := fun _ => by kernel_rfl
def ys4 (a d : AV) (h : Heap) : OX :=
cnd d
 ((yd h (.tup [(.int .i64 1), (.int .i64 0), (.int .i64 1)])))
 (ob (y3 .eql a (.int .i64 117)) fun b =>
cnd b
 ((yd h (.tup [(.int .i64 2), (.int .i64 0), (.int .i64 2)])))
 (ob (y3 .eql a (.int .i64 133)) fun c =>
cnd c
 ((yd h (.tup [(.int .i64 1), (.int .i64 0), (.int .i64 2)])))
 (ob (y3 .eql a (.int .i64 136)) fun e =>
cnd e
 ((yd h (.tup [(.int .i64 2), (.int .i64 0), (.int .i64 1)])))
 ((y19x h)))))
def y1he (s : St) : OX := ys4 (s 5) (s 33) s.h
theorem y175 : T1 yyf y20 (y1 0 y20 xN) [.t 2, .t 3, .t 4] y1he := fun _ => by kernel_rfl
def y19f (a : AV) (h : Heap) : OX :=
ob (y3 .eql a (.int .i64 116)) fun c =>
cnd c
 ((ys4 a c h))
 (ob (y3 .eql a (.int .i64 145)) fun d =>
cnd d
 ((ys4 a d h))
 (ob (y3 .eql a (.int .i64 146)) fun b =>
cnd b
 ((ys4 a b h))
 (ob (y3 .eql a (.int .i64 147)) fun e =>
(ys4 a e h))))
def y1eu (s : St) : OX := y19f (s 5) s.h
theorem y15d : T1 yup y20 (y1 0 y20 xN) [.t 2, .t 3, .t 4] y1eu := sq y175 fun _ => by kernel_rfl
def y1di (b a : AV) (h : Heap) : OX :=
cnd a
 ((yd h (.tup [(.int .i64 2), (.int .i64 2), (.int .i64 1)])))
 ((y19f b h))
def y1en (s : St) : OX := y1di (s 5) (s 31) s.h
theorem y143 : T1 yug y20 (y1 0 y20 xN) [.t 2, .t 3, .t 4] y1en := fun s => (y1e rfl (y15d s)).trans (by kernel_rfl)
def y19n (a : AV) (h : Heap) : OX :=
ob (y3 .eql a (.int .i64 148)) fun b =>
(y1di a b h)
def y1g7 (s : St) : OX := y19n (s 5) s.h
theorem y15i : T1 y11n y20 (y1 0 y20 xN) [.t 2, .t 3, .t 4] y1g7 := sq y143 fun _ => by kernel_rfl
def yze (b a : AV) (h : Heap) : OX :=
cnd a
 ((yd h (.tup [(.int .i64 2), (.int .i64 1), (.int .i64 2)])))
 ((y19n b h))
def y1f6 (s : St) : OX := yze (s 5) (s 27) s.h
theorem y15b : T1 yz2 y20 (y1 0 y20 xN) [.t 2, .t 3, .t 4] y1f6 := fun s => (y1e rfl (y15i s)).trans (by kernel_rfl)
def y19k (a : AV) (h : Heap) : OX :=
ob (y3 .eql a (.int .i64 121)) fun c =>
cnd c
 ((yze a c h))
 (ob (y3 .eql a (.int .i64 123)) fun b =>
cnd b
 ((yze a b h))
 (ob (y3 .eql a (.int .i64 125)) fun d =>
(yze a d h)))
def y1gf (s : St) : OX := y19k (s 5) s.h
theorem y14d : T1 yz7 y20 (y1 0 y20 xN) [.t 2, .t 3, .t 4] y1gf := sq y15b fun _ => by kernel_rfl
def yej (b a : AV) (h : Heap) : OX :=
cnd a
 ((yd h (.tup [(.int .i64 2), (.int .i64 2), (.int .i64 2)])))
 ((y19k b h))
def y1gt (s : St) : OX := yej (s 5) (s 18) s.h
theorem y13x : T1 yzr y20 (y1 0 y20 xN) [.t 2, .t 3, .t 4] y1gt := fun s => (y1e rfl (y14d s)).trans (by kernel_rfl)
def y1ci (a : AV) (h : Heap) : OX :=
ob (y3 .eql a (.int .i64 97)) fun j =>
cnd j
 ((yej a j h))
 (ob (y3 .eql a (.int .i64 101)) fun c =>
cnd c
 ((yej a c h))
 (ob (y3 .eql a (.int .i64 105)) fun b =>
cnd b
 ((yej a b h))
 (ob (y3 .eql a (.int .i64 109)) fun g =>
cnd g
 ((yej a g h))
 (ob (y3 .eql a (.int .i64 113)) fun e =>
cnd e
 ((yej a e h))
 (ob (y3 .eql a (.int .i64 127)) fun i =>
cnd i
 ((yej a i h))
 (ob (y3 .eql a (.int .i64 129)) fun d =>
cnd d
 ((yej a d h))
 (ob (y3 .eql a (.int .i64 131)) fun k =>
(yej a k h))))))))
def y1gs (s : St) : OX := y1ci (s 5) s.h
theorem y177 : T1 yye y20 (y1 0 y20 xN) [.t 2, .t 3, .t 4] y1gs := sq y13x fun _ => by kernel_rfl
def y4s (b a : AV) (h : Heap) : OX :=
cnd a
 ((yd h (.tup [(.int .i64 1), (.int .i64 1), (.int .i64 1)])))
 ((y1ci b h))
def y1ca (s : St) : OX := y4s (s 5) (s 6) s.h
theorem ytj : T1 yrs y20 (y1 0 y20 xN) [.t 2, .t 3, .t 4] y1ca := fun s => (y1e rfl (y177 s)).trans (by kernel_rfl)
def yvp (a : AV) (h : Heap) : OX :=
ob (y3 .eql a (.int .i64 96)) fun k =>
cnd k
 ((y4s a k h))
 (ob (y3 .eql a (.int .i64 100)) fun e =>
cnd e
 ((y4s a e h))
 (ob (y3 .eql a (.int .i64 104)) fun l =>
cnd l
 ((y4s a l h))
 (ob (y3 .eql a (.int .i64 108)) fun m =>
cnd m
 ((y4s a m h))
 (ob (y3 .eql a (.int .i64 112)) fun b =>
cnd b
 ((y4s a b h))
 (ob (y3 .eql a (.int .i64 120)) fun g =>
cnd g
 ((y4s a g h))
 (ob (y3 .eql a (.int .i64 122)) fun j =>
cnd j
 ((y4s a j h))
 (ob (y3 .eql a (.int .i64 124)) fun c =>
cnd c
 ((y4s a c h))
 (ob (y3 .eql a (.int .i64 126)) fun d =>
cnd d
 ((y4s a d h))
 (ob (y3 .eql a (.int .i64 128)) fun i =>
cnd i
 ((y4s a i h))
 (ob (y3 .eql a (.int .i64 130)) fun n =>
(y4s a n h)))))))))))
def y13p (s : St) : OX := yvp (s 5) s.h
theorem yyk : T1 ym6 y20 (y1 0 y20 xN) [.t 2, .t 3, .t 4] y13p := sq ytj fun _ => by kernel_rfl
theorem ytu : T1 ym8 y20 xN [.t 2, .t 3, .t 4] y13p := fun s => yy.trans (yyk s)
def y11w (a : AV) (h : Heap) : OX :=
(yvp a h)
def y11c (s : St) : OX := y11w (s 0) s.h
theorem yw9 : T1 ymd y20 xN [.t 2, .t 3, .t 4] y11c := sq ytu fun _ => by kernel_rfl
theorem ywc : T0 yme [.t 2, .t 3, .t 4] y11c := sq y15m yw9
def yx6 (a : AV) (h : Heap) : OX :=
(y11w a h)
def y1c6 (s : St) : OX := yx6 (s 0) s.h
theorem y12j : T0 yr8 [.t 2, .t 3, .t 4] y1c6 := sq ywc fun _ => by kernel_rfl
@[simp] theorem y1ka : E.pure 50 = true := rfl
theorem y1in (a : AV) : (y7 E).p 50 [a] = yx6 a [] :=
  (y1n (cf := y1h4) (by kernel_rfl) rfl).trans ((y12j _).trans (by kernel_rfl))
def q8_1 (b : AV) (h : Heap) : OX :=
ob (y3 .neq b (AV.str [])) fun a =>
gb a true (some b) fun e =>
gh a true (y5 E (y7 E) 0 none true 44 [e] h) h fun g h1 =>
gb a true (some b) fun d =>
gb a true (yz 0 d h1) fun i =>
gb a true (y3 .eql g i) fun j =>
ob (yb a j (.bool false)) fun c =>
(yd h1 c)
def y1ij (s : St) : OX := q8_1 (s 0) s.h
theorem y19r : T0 y17x [.t 2] y1ij := fun _ => by kernel_rfl
@[simp] theorem y1kb : E.pure 37 = true := rfl
theorem x_q8 (a : AV) : (y7 E).p 37 [a] = q8_1 a [] :=
  (y1n (cf := c_q8) (by kernel_rfl) rfl).trans ((y19r _).trans (by kernel_rfl))
def yjq (a : AV) (h : Heap) : OX :=
ob (yt [(.int .i64 0), (.int .i64 0), (.int .i64 0), (.int .i64 0)] []) fun b =>
oh (evSt 4 a b h) fun _ h1 =>
(ob (evLd true 4 a h1) fun r0 =>
  yd h1 (.tup [r0, (.bool false)]))
def y18 (s : St) : OX := yjq (s 2) s.h
theorem y14s : T0 y11y [.cell 2 true 4, .t 3] y18 := fun _ => by kernel_rfl
def yhq (e b g : AV) (h : Heap) : OX :=
ob (yt [(.int .i64 0), (.int .i64 0), (.int .i64 0), (.int .i64 0)] [(0, 1, (.int .i64 (-1))), (1, 1, (.int .i64 3)), (2, 1, g), (3, 1, (.int .i64 (-1)))]) fun i =>
ob (evFa 5 e) fun d =>
ob (evLd false 1 d h) fun j =>
ob (y3 .eql j (.int .i64 0)) fun a =>
ofp (fgd a false (some ([], []))) fun f6 =>
gb a false (evFa 5 e) fun c =>
ofp (fgd a false (some (ids1 c, []))) fun f7 =>
gb a false (evLd false 1 c h) fun l =>
ofp (fgd a false (some ([], []))) fun f8 =>
gb a false (y3 .eql l (.int .i64 1)) fun k =>
ob (yb a (.bool true) k) fun m =>
oh (evSt 4 b i h) fun _ h2 =>
okK (yi [([], []), ([], []), ([], []), (ids1 d, []), ([], []), ([], []), f6, f7, f8, ([], []), ([], ids1 b), ([], [])] [(7, 10)]) <|
(ob (evLd true 4 b h2) fun r0 =>
  yd h2 (.tup [r0, m]))
def y1g5 (s : St) : OX := yhq (s 1) (s 2) (s 4) s.h
theorem y14a : T1 y11q y18 (y1 0 y18 xN) [.cell 2 true 4, .t 3] y1g5 := fun _ => by kernel_rfl
def ykl (a b c : AV) (h : Heap) : OX :=
ob (evFa 3 a) fun d =>
ob (evLd false 1 d h) fun e =>
ob (y3 .neq e (.int .i64 (-1))) fun g =>
cnd g
 ((yhq a b (.int .i64 3) h))
 ((yhq a b c h))
def y1fd (s : St) : OX := ykl (s 1) (s 2) (s 4) s.h
theorem y156 : T1 yua y18 (y1 0 y18 xN) [.cell 2 true 4, .t 3] y1fd := sq y14a fun _ => by kernel_rfl
def yki (a b : AV) (h : Heap) : OX :=
(ykl a b (.int .i64 (-1)) h)
def y1fu (s : St) : OX := yki (s 1) (s 2) s.h
theorem y159 : T1 y12q y18 (y1 0 y18 xN) [.cell 2 true 4, .t 3] y1fu := sq y156 fun _ => by kernel_rfl
def yhu (a c : AV) (h : Heap) : OX :=
ob (yt [(.int .i64 0), (.int .i64 0), (.int .i64 0), (.int .i64 0)] [(0, 1, (.int .i64 (-1))), (1, 1, c), (2, 1, (.int .i64 (-1))), (3, 1, (.int .i64 (-1)))]) fun b =>
oh (evSt 4 a b h) fun _ h3 =>
(ob (evLd true 4 a h3) fun r0 =>
  yd h3 (.tup [r0, (.bool true)]))
def y1fr (s : St) : OX := yhu (s 2) (s 5) s.h
theorem y15g : T1 y130 y18 (y1 0 y18 xN) [.cell 2 true 4, .t 3] y1fr := fun _ => by kernel_rfl
def yky (b a g : AV) (h : Heap) : OX :=
ob (evFa 2 b) fun e =>
ob (evLd false 1 e h) fun d =>
ob (y3 .neq d (.int .i64 (-1))) fun c =>
cnd c
 ((yhu a (.int .i64 0) h))
 ((yhu a g h))
def y1gx (s : St) : OX := yky (s 1) (s 2) (s 5) s.h
theorem y179 : T1 yu4 y18 (y1 0 y18 xN) [.cell 2 true 4, .t 3] y1gx := sq y15g fun _ => by kernel_rfl
def ykp (a b : AV) (h : Heap) : OX :=
(yky a b (.int .i64 (-1)) h)
def y1fs (s : St) : OX := ykp (s 1) (s 2) s.h
theorem y16x : T1 yyw y18 (y1 0 y18 xN) [.cell 2 true 4, .t 3] y1fs := sq y179 fun _ => by kernel_rfl
def yie (d i G : AV) (h : Heap) : OX :=
ob (evFa 0 d) fun y =>
ob (evLd false 1 y h) fun B =>
ob (y3 .eql B (.int .i64 23)) fun g =>
gb g false (evFa 0 d) fun C =>
gb g false (evLd false 1 C h) fun v =>
gb g false (y3 .eql v (.int .i64 26)) fun F =>
ob (yb g (.bool true) F) fun e =>
gb e false (evFa 8 d) fun A =>
gb e false (evLd false 1 A h) fun D =>
gb e false (yz 1 D h) fun u =>
gb e false (y3 .gtr u (.int .i64 0)) fun r =>
ob (yb e (.bool true) r) fun a =>
ob (yt [(.int .i64 0), (.int .i64 0), (.int .i64 0), (.int .i64 0)] [(0, 1, G), (1, 1, (.int .i64 (-1))), (2, 1, (.int .i64 (-1))), (3, 1, (.int .i64 (-1)))]) fun x =>
ofp (fgd a true (some ([], []))) fun f4 =>
gb a true (evFa 5 d) fun k =>
ofp (fgd a true (some (ids1 k, []))) fun f5 =>
gb a true (evLd false 1 k h) fun n =>
ofp (fgd a true (some ([], []))) fun f6 =>
gb a true (y3 .geq n (.int .i64 0)) fun z =>
ofp (fgd a true (some ([], []))) fun f7 =>
gb a true (some z) fun c =>
ofp (fgd c false (some ([], []))) fun f8 =>
gb c false (evFa 0 d) fun j =>
ofp (fgd c false (some (ids1 j, []))) fun f9 =>
gb c false (evLd false 1 j h) fun p =>
ofp (fgd c false (some ([], []))) fun f10 =>
gb c false (y3 .eql p (.int .i64 25)) fun I =>
ofp (fgd a true (some ([], []))) fun f11 =>
gb a true (yb c (.bool true) I) fun o =>
ob (yb a o (.bool false)) fun b =>
ofp (fgd b true (some ([], []))) fun f14 =>
gb b true (evFa 8 d) fun m =>
ofp (fgd b true (some (ids1 m, []))) fun f15 =>
gb b true (evLd false 1 m h) fun l =>
ofp (fgd b true (some (ids1 l, []))) fun f16 =>
gb b true (yz 1 l h) fun t =>
ofp (fgd b true (some ([], []))) fun f17 =>
gb b true (y3 .leq t (.int .i64 21)) fun H =>
ob (yb b H (.bool false)) fun w =>
oh (evSt 4 i x h) fun _ h4 =>
okK (yi [([], []), ([], []), ([], []), ([], []), f4, f5, f6, f7, f8, f9, f10, f11, ([], []), ([], []), f14, f15, f16, f17, ([], []), ([], ids1 i), ([], [])] [(15, 19), (16, 19)]) <|
(ob (evLd true 4 i h4) fun r0 =>
  yd h4 (.tup [r0, w]))
def y1ev (s : St) : OX := yie (s 1) (s 2) (s 6) s.h
theorem y153 : T1 y12f y18 (y1 0 y18 xN) [.cell 2 true 4, .t 3] y1ev := fun _ => by kernel_rfl
def ykv (a b c : AV) (h : Heap) : OX :=
ob (evFa 1 a) fun g =>
ob (evLd false 1 g h) fun e =>
ob (y3 .neq e (.int .i64 (-1))) fun d =>
cnd d
 ((yie a b (.int .i64 0) h))
 ((yie a b c h))
def y1fb (s : St) : OX := ykv (s 1) (s 2) (s 6) s.h
theorem y16v : T1 yzm y18 (y1 0 y18 xN) [.cell 2 true 4, .t 3] y1fb := sq y153 fun _ => by kernel_rfl
def yds (a b : AV) (h : Heap) : OX :=
(ykv a b (.int .i64 (-1)) h)
def y19h (s : St) : OX := yds (s 1) (s 2) s.h
theorem ywf : T1 ylf y18 (y1 0 y18 xN) [.cell 2 true 4, .t 3] y19h := sq y16v fun _ => by kernel_rfl
def y8a (b a c : AV) (h : Heap) : OX :=
cnd c
 ((yds b a h))
 ((yjq a h))
def y190 (s : St) : OX := y8a (s 1) (s 2) (s 32) s.h
theorem yxx : T1 yov y18 (y1 0 y18 xN) [.cell 2 true 4, .t 3] y190 := fun s => (y1e (ywf s) rfl).trans (by kernel_rfl)
def yc4 (a b c : AV) (h : Heap) : OX :=
ob (y3 .eql c (.int .i64 23)) fun e =>
cnd e
 ((y8a a b e h))
 (ob (y3 .eql c (.int .i64 24)) fun d =>
cnd d
 ((y8a a b d h))
 (ob (y3 .eql c (.int .i64 25)) fun g =>
cnd g
 ((y8a a b g h))
 (ob (y3 .eql c (.int .i64 26)) fun i =>
(y8a a b i h))))
def y18r (s : St) : OX := yc4 (s 1) (s 2) (s 9) s.h
theorem yto : T1 ynd y18 (y1 0 y18 xN) [.cell 2 true 4, .t 3] y18r := sq yxx fun _ => by kernel_rfl
def ye8 (a b d c : AV) (h : Heap) : OX :=
cnd c
 ((ykp a b h))
 ((yc4 a b d h))
def y18p (s : St) : OX := ye8 (s 1) (s 2) (s 9) (s 25) s.h
theorem ywk : T1 yp4 y18 (y1 0 y18 xN) [.cell 2 true 4, .t 3] y18p := fun s => (y1e (y16x s) (yto s)).trans (by kernel_rfl)
def ycq (b d a : AV) (h : Heap) : OX :=
ob (y3 .eql a (.int .i64 30)) fun c =>
(ye8 b d a c h)
def y1cp (s : St) : OX := ycq (s 1) (s 2) (s 9) s.h
theorem yx1 : T1 yq2 y18 (y1 0 y18 xN) [.cell 2 true 4, .t 3] y1cp := sq ywk fun _ => by kernel_rfl
def ycd (a b d c : AV) (h : Heap) : OX :=
cnd c
 ((yki a b h))
 ((ycq a b d h))
def y1dr (s : St) : OX := ycd (s 1) (s 2) (s 9) (s 10) s.h
theorem yxk : T1 ymk y18 (y1 0 y18 xN) [.cell 2 true 4, .t 3] y1dr := fun s => (y1e (y159 s) (yx1 s)).trans (by kernel_rfl)
def ydn (b d a : AV) (h : Heap) : OX :=
ob (y3 .eql a (.int .i64 29)) fun c =>
(ycd b d a c h)
def y13k (s : St) : OX := ydn (s 1) (s 2) (s 9) s.h
theorem yz9 : T1 yna y18 (y1 0 y18 xN) [.cell 2 true 4, .t 3] y13k := sq yxk fun _ => by kernel_rfl
theorem yxd : T1 yrg y18 xN [.cell 2 true 4, .t 3] y13k := fun s => yy.trans (yz9 s)
def yc9 (a b : AV) (h : Heap) : OX :=
ob (evFa 0 a) fun c =>
ob (evLd false 1 c h) fun d =>
(ydn a b d h)
def yuh (s : St) : OX := yc9 (s 1) (s 2) s.h
theorem y11g : T1 ymf y18 xN [.cell 2 true 4, .t 3] yuh := sq yxd fun _ => by kernel_rfl
theorem y12k : T0 yqp [.cell 2 true 4, .t 3] yuh := sq y14s y11g
def ydu (a : AV) (h : Heap) : OX :=
oh (newC 0 (some 0) (cellsOf a) h) fun b h5 =>
oh (newC 0 (some 1) [(.int .i64 0), (.int .i64 0), (.int .i64 0), (.int .i64 0)] h5) fun c h6 =>
(yc9 b c h6)
def y1de (s : St) : OX := ydu (s 0) s.h
theorem yuo : T0 ymp [.cell 2 true 4, .t 3] y1de := sq y12k fun _ => by kernel_rfl
@[simp] theorem y1jd : E.pure 51 = true := rfl
theorem y13t (a : AV) : (y7 E).p 51 [a] = ydu a [⟨0, .dead⟩, ⟨0, .dead⟩] :=
  (y1n (cf := y1h8) (by kernel_rfl) rfl).trans ((yuo _).trans (by kernel_rfl))
def q9_1 (h : Heap) : OX :=
(yd h (.int .i64 0))
def y1v (s : St) : OX := q9_1 s.h
theorem y19i : T0 y17p [.t 2] y1v := fun _ => by kernel_rfl
def y0d (a c b : AV) (h : Heap) : OX :=
  W E 0 yks ⟨[(0, a), (3, c), (4, b)], h⟩ y1v (y1 3 y1v (y1 2 y1v xN)) (finP [.t 2])
def yfq (s : St) : OX := y0d (s 0) (s 3) (s 4) s.h
theorem ymg : T1 yks y1v (y1 3 y1v (y1 2 y1v xN)) [.t 2] yfq := fun s => yj.trans (by kernel_rfl)
def q9_3 (a d c : AV) (h : Heap) : OX :=
ob (y3 .add c (.int .i64 1)) fun b =>
(y0d a d b h)
def yem (s : St) : OX := q9_3 (s 0) (s 3) (s 4) s.h
theorem y1d4 : T1 y18c yfq (y1 3 y1v (y1 2 y1v xN)) [.t 2] yem := fun _ => by kernel_rfl
def q9_4 (h : Heap) : OX :=
(yd h (.int .i64 0))
def y1js (s : St) : OX := q9_4 s.h
theorem y19b : T1 y17f yem (y1 4 yem (y1 3 y1v (y1 2 y1v xN))) [.t 2] y1js := fun _ => by kernel_rfl
def q9_5 (e d a : AV) (h : Heap) : OX :=
ob (y3 .add d (.int .i64 1)) fun g =>
ob (y13q e (some g) (some a)) fun b =>
oh (y5 E (y7 E) 0 none true 60 [b, (.bool false)] h) fun i h1 =>
cnd i
 (ob (y3 .add a (.int .i64 1)) fun c =>
(yd h1 c))
 ((q9_4 h1))
def y1ib (s : St) : OX := q9_5 (s 0) (s 3) (s 4) s.h
theorem y1cy : T1 y17q yem (y1 4 yem (y1 3 y1v (y1 2 y1v xN))) [.t 2] y1ib := sq y19b fun _ => by kernel_rfl
def q9_6 (a c b d : AV) (h : Heap) : OX :=
cnd d
 ((q9_5 a c b h))
 ((q9_3 a c b h))
def y1i3 (s : St) : OX := q9_6 (s 0) (s 3) (s 4) (s 46) s.h
theorem y18u : T1 y182 yem (y1 4 yem (y1 3 y1v (y1 2 y1v xN))) [.t 2] y1i3 := fun s => (y1e (y1cy s) rfl).trans (by kernel_rfl)
def q9_7 (b e a : AV) (h : Heap) : OX :=
ob (y76 b a) fun d =>
ob (y3 .eql d (.int .u8 59)) fun c =>
(q9_6 b e a c h)
def y1bh (s : St) : OX := q9_7 (s 0) (s 3) (s 4) s.h
theorem y1cg : T1 y180 yem (y1 4 yem (y1 3 y1v (y1 2 y1v xN))) [.t 2] y1bh := sq y18u fun _ => by kernel_rfl
theorem y19c : T1 y17r yem (y1 3 y1v (y1 2 y1v xN)) [.t 2] y1bh := fun s => yy.trans (y1cg s)
theorem y1cs : T1 y17y yfq (y1 3 y1v (y1 2 y1v xN)) [.t 2] y1bh := sq y1d4 y19c
def yrw (b d a : AV) (h : Heap) : OX :=
ob (yz 0 b h) fun c =>
ob (y3 .lss a c) fun e =>
cnd e
 ((q9_7 b d a h))
 ((q9_1 h))
def y1gv (s : St) : OX := yrw (s 0) (s 3) (s 4) s.h
theorem y152 : T1 y0z yfq (y1 3 y1v (y1 2 y1v xN)) [.t 2] y1gv := sq y1cs fun _ => by kernel_rfl
theorem yo9 (a c b : AV) (h : Heap) : y0d a c b h = (yrw a c b h) :=
  y28.trans ((y1m _ _ _ (n' := yfq) (fun s => ymg s)).trans ((y152 _).trans (by kernel_rfl)))
theorem y16p : T1 yvr y1v (y1 2 y1v xN) [.t 2] yfq := fun s => yy.trans (ymg s)
def y18i (b a : AV) (h : Heap) : OX :=
ob (y3 .add a (.int .i64 1)) fun c =>
(y0d b a c h)
def y1hd (s : St) : OX := y18i (s 0) (s 3) s.h
theorem y14w : T1 y13e y1v (y1 2 y1v xN) [.t 2] y1hd := sq y16p fun _ => by kernel_rfl
def y16s (a c b : AV) (h : Heap) : OX :=
cnd b
 ((y18i a c h))
 ((q9_1 h))
def y1h1 (s : St) : OX := y16s (s 0) (s 3) (s 33) s.h
theorem y167 : T1 y0w y1v (y1 2 y1v xN) [.t 2] y1h1 := fun s => (y1e (y14w s) rfl).trans (by kernel_rfl)
def y145 (a d b : AV) (h : Heap) : OX :=
ob (y3 .eql b (.int .u8 76)) fun c =>
(y16s a d c h)
def y1fm (s : St) : OX := y145 (s 0) (s 3) (s 27) s.h
theorem y170 : T1 yyl y1v (y1 2 y1v xN) [.t 2] y1fm := sq y167 fun _ => by kernel_rfl
def ykz (c a e d : AV) (h : Heap) : OX :=
cnd d
 (ob (y3 .add a (.int .i64 1)) fun b =>
(yd h b))
 ((y145 c a e h))
def y1h9 (s : St) : OX := ykz (s 0) (s 3) (s 27) (s 28) s.h
theorem y16f : T1 yti y1v (y1 2 y1v xN) [.t 2] y1h9 := fun s => (y1e rfl (y170 s)).trans (by kernel_rfl)
def yst (d c a : AV) (h : Heap) : OX :=
ob (y3 .eql a (.int .u8 73)) fun b =>
cnd b
 ((ykz d c a b h))
 (ob (y3 .eql a (.int .u8 74)) fun e =>
(ykz d c a e h))
def y17z (s : St) : OX := yst (s 0) (s 3) (s 27) s.h
theorem y151 : T1 yun y1v (y1 2 y1v xN) [.t 2] y17z := sq y16f fun _ => by kernel_rfl
theorem y141 : T1 y11z y1v xN [.t 2] y17z := fun s => yy.trans (y151 s)
def ysv (a b : AV) (h : Heap) : OX :=
ob (y76 a b) fun c =>
(yst a b c h)
def y17t (s : St) : OX := ysv (s 0) (s 3) s.h
theorem y15r : T1 yvf y1v xN [.t 2] y17t := sq y141 fun _ => by kernel_rfl
theorem y15z : T0 yw7 [.t 2] y17t := sq y19i y15r
def yer (c b : AV) (h : Heap) : OX :=
ob (y3 .gtr b (.int .i64 8)) fun a =>
gb a false (some b) fun e =>
gb a false (some c) fun d =>
gb a false (yz 0 d h) fun g =>
gb a false (y3 .eql e g) fun i =>
ob (yb a (.bool true) i) fun j =>
cnd j
 ((yd h (.int .i64 0)))
 ((ysv c b h))
def yak (s : St) : OX := yer (s 0) (s 3) s.h
theorem y164 : T0 yw8 [.t 2] yak := sq y15z fun _ => by kernel_rfl
def yij (a b : AV) (h : Heap) : OX :=
  W E 0 yh0 ⟨[(0, a), (3, b)], h⟩ yak (y1 0 yak xN) (finP [.t 2])
def ya9 (s : St) : OX := yij (s 0) (s 3) s.h
theorem yja : T1 yh0 yak (y1 0 yak xN) [.t 2] ya9 := fun s => yj.trans (by kernel_rfl)
def y19g (a c : AV) (h : Heap) : OX :=
ob (y3 .add c (.int .i64 1)) fun b =>
(yij a b h)
def y1g2 (s : St) : OX := y19g (s 0) (s 3) s.h
theorem y16y : T1 yxs ya9 (y1 0 yak xN) [.t 2] y1g2 := fun _ => by kernel_rfl
def ywe (c b : AV) (h : Heap) : OX :=
ob (yz 0 c h) fun j =>
ob (y3 .lss b j) fun a =>
gb a true (some c) fun k =>
gb a true (some b) fun d =>
gb a true (y76 k d) fun g =>
gb a true (y3 .eql g (.int .u8 91)) fun i =>
ob (yb a i (.bool false)) fun e =>
cnd e
 ((y19g c b h))
 ((yer c b h))
def y1hb (s : St) : OX := ywe (s 0) (s 3) s.h
theorem y16u : T1 yw4 ya9 (y1 0 yak xN) [.t 2] y1hb := sq y16y fun _ => by kernel_rfl
theorem yio (a b : AV) (h : Heap) : yij a b h = (ywe a b h) :=
  y28.trans ((y1m _ _ _ (n' := ya9) (fun s => yja s)).trans ((y16u _).trans (by kernel_rfl)))
theorem y14u : T1 yvd yak xN [.t 2] ya9 := fun s => yy.trans (yja s)
theorem y15y : T0 yxl [.t 2] ya9 := sq y164 y14u
def y1dg (a : AV) (h : Heap) : OX :=
(yij a (.int .i64 0) h)
def y1fn (s : St) : OX := y1dg (s 0) s.h
theorem y16j : T0 yxv [.t 2] y1fn := sq y15y fun _ => by kernel_rfl
def y18x (a : AV) (h : Heap) : OX :=
(y1dg a h)
def y1fv (s : St) : OX := y18x (s 0) s.h
theorem y15v : T0 y0k [.t 2] y1fv := sq y16j fun _ => by kernel_rfl
@[simp] theorem y1iu : E.pure 44 = true := rfl
theorem x_q9 (a : AV) : (y7 E).p 44 [a] = y18x a [] :=
  (y1n (cf := c_q9) (by kernel_rfl) rfl).trans ((y15v _).trans (by kernel_rfl))
def q7_1 (h : Heap) : OX :=
(yd h (.bool true))
def yc6 (s : St) : OX := q7_1 s.h
theorem y1c1 : T0 y18f [.t 4] yc6 := fun _ => by kernel_rfl
def yxe (b d a c : AV) (h : Heap) : OX :=
  W E 0 yjr ⟨[(1, b), (17, d), (18, a), (19, c)], h⟩ yc6 (y1 0 yc6 xN) (finP [.t 4])
def yeh (s : St) : OX := yxe (s 1) (s 17) (s 18) (s 19) s.h
theorem ylz : T1 yjr yc6 (y1 0 yc6 xN) [.t 4] yeh := fun s => yj.trans (by kernel_rfl)
def q7_3 (c a b e : AV) (h : Heap) : OX :=
ob (y3 .add e (.int .i64 1)) fun d =>
(yxe c a b d h)
def y1i9 (s : St) : OX := q7_3 (s 1) (s 17) (s 18) (s 19) s.h
theorem y1c8 : T1 y17e yeh (y1 0 yc6 xN) [.t 4] y1i9 := fun _ => by kernel_rfl
def q7_4 (p o w r : AV) (h : Heap) : OX :=
ob (yu 1 o r) fun t =>
ob (evLd false 1 t h) fun a =>
ob (y3 .geq a (.int .u8 97)) fun i =>
gb i true (some a) fun K =>
gb i true (y3 .leq K (.int .u8 122)) fun A =>
ob (yb i A (.bool false)) fun d =>
gb d false (some a) fun P =>
gb d false (y3 .geq P (.int .u8 65)) fun y =>
gb d false (some y) fun k =>
gb k true (some a) fun Y =>
gb k true (y3 .leq Y (.int .u8 90)) fun z =>
gb d false (yb k z (.bool false)) fun G =>
ob (yb d (.bool true) G) fun e =>
gb e false (some a) fun M =>
gb e false (y3 .geq M (.int .u8 48)) fun V =>
gb e false (some V) fun l =>
gb l true (some a) fun L =>
gb l true (y3 .leq L (.int .u8 57)) fun N =>
gb e false (yb l N (.bool false)) fun O =>
ob (yb e (.bool true) O) fun m =>
gb m false (some a) fun U =>
gb m false (y3 .eql U (.int .u8 95)) fun B =>
ob (yb m (.bool true) B) fun j =>
gb j false (some a) fun Q =>
gb j false (y3 .eql Q (.int .u8 36)) fun D =>
ob (yb j (.bool true) D) fun g =>
gb g false (some a) fun X =>
gb g false (y3 .eql X (.int .u8 47)) fun H =>
ob (yb g (.bool true) H) fun R =>
ob (evUn .not R) fun c =>
gb c true (some p) fun J =>
gb c true (some J) fun b =>
gb b true (some a) fun u =>
gb b true (y3 .eql u (.int .u8 60)) fun x =>
gb b true (some x) fun n =>
gb n false (some a) fun v =>
gb n false (y3 .eql v (.int .u8 62)) fun I =>
gb b true (yb n (.bool true) I) fun F =>
gb c true (yb b F (.bool false)) fun Z =>
gb c true (evUn .not Z) fun S =>
ob (yb c S (.bool false)) fun C =>
cnd C
 ((yd h (.bool false)))
 ((q7_3 p o w r h))
def y1ia (s : St) : OX := q7_4 (s 1) (s 17) (s 18) (s 19) s.h
theorem y1dn : T1 y17k yeh (y1 0 yc6 xN) [.t 4] y1ia := sq y1c8 fun _ => by kernel_rfl
def q7_5 (c a b e d : AV) (h : Heap) : OX :=
cnd d
 ((q7_4 c a b e h))
 ((q7_1 h))
def y1jf (s : St) : OX := q7_5 (s 1) (s 17) (s 18) (s 19) (s 20) s.h
theorem y1a5 : T1 y187 yeh (y1 0 yc6 xN) [.t 4] y1jf := sq y1dn fun _ => by kernel_rfl
def q7_6 (d c a b : AV) (h : Heap) : OX :=
ob (y3 .lss b a) fun e =>
(q7_5 d c a b e h)
def y1j8 (s : St) : OX := q7_6 (s 1) (s 17) (s 18) (s 19) s.h
theorem y1dv : T1 y189 yeh (y1 0 yc6 xN) [.t 4] y1j8 := sq y1a5 fun _ => by kernel_rfl
theorem yoh (b d a c : AV) (h : Heap) : yxe b d a c h = (q7_6 b d a c h) :=
  y28.trans ((y1m _ _ _ (n' := yeh) (fun s => ylz s)).trans ((y1dv _).trans (by kernel_rfl)))
theorem y1a3 : T1 y17g yc6 xN [.t 4] yeh := fun s => yy.trans (ylz s)
def q7_8 (b d : AV) (h : Heap) : OX :=
oh (s2bC 0 (some 0) b h) fun a h1 =>
ob (yz 1 a h1) fun c =>
(yxe d a c (.int .i64 0) h1)
def y1f4 (s : St) : OX := q7_8 (s 0) (s 1) s.h
theorem y1cq : T1 y18b yc6 xN [.t 4] y1f4 := sq y1a3 fun _ => by kernel_rfl
theorem y1ak : T0 y188 [.t 4] y1f4 := sq y1c1 y1cq
def yxz (b g : AV) (h : Heap) : OX :=
ob (yz 0 b h) fun j =>
ob (y3 .lss j (.int .i64 1)) fun a =>
gb a false (some b) fun e =>
gb a false (yz 0 e h) fun i =>
gb a false (y3 .gtr i (.int .i64 60)) fun c =>
ob (yb a (.bool true) c) fun d =>
cnd d
 ((yd h (.bool false)))
 ((q7_8 b g h))
def y1gz (s : St) : OX := yxz (s 0) (s 1) s.h
theorem y15q : T0 yv7 [.t 4] y1gz := sq y1ak fun _ => by kernel_rfl
def ywv (a b : AV) (h : Heap) : OX :=
(yxz a b h)
def y1f3 (s : St) : OX := ywv (s 0) (s 1) s.h
theorem y13y : T0 y11f [.t 4] y1f3 := sq y15q fun _ => by kernel_rfl
@[simp] theorem y1k8 : E.pure 60 = true := rfl
theorem x_q7 (a b : AV) : (y7 E).p 60 [a, b] = ywv a b [⟨0, .dead⟩] :=
  (y1n (cf := c_q7) (by kernel_rfl) rfl).trans ((y13y _).trans (by kernel_rfl))
end
end Go.Vm
