/- Functions of the machine as plain functions that go on with what follows. -/
import Derived.Test.YtgbajicpokolcaaGEnv
set_option linter.unusedSimpArgs false
set_option linter.unusedVariables false
set_option linter.unusedSectionVars false
namespace Go.Vm
noncomputable section
def y1y4 (e d : AV) (h : Heap) : OX :=
ob (evLd true 5 d h) fun r =>
oh (y9 E (yb E) 0 none true 29 [r] h) fun i h1 =>
ob (y8 .eql i (.int .i64 0)) fun a =>
gb a true (evFa 3 d) fun j =>
gb a true (evLd false 1 j h1) fun x =>
gb a true (y11 1 x h1) fun m =>
gb a true (evFa 3 e) fun w =>
gb a true (evLd false 1 w h1) fun n =>
gb a true (y11 1 n h1) fun g =>
gb a true (y8 .eql m g) fun u =>
ob (yd a u (.bool false)) fun b =>
gb b true (evLd true 5 e h1) fun k =>
gh b true (y9 E (yb E) 0 none true 77 [k] h1) h1 fun y h2 =>
gb b true (evUn .not y) fun o =>
gb b true (some o) fun c =>
gb c false (evLd true 5 d h2) fun t =>
gh c false (y9 E (yb E) 0 none true 77 [t] h2) h2 fun p h3 =>
gb b true (yd c (.bool true) p) fun v =>
ob (yd b v (.bool false)) fun l =>
(yf h3 l)
def y2kh (s : St) : OX := y1y4 (s 1) (s 3) s.h
theorem y1z7 : T0 y1et [.t 2] y2kh := fun _ => by kernel_rfl
def y19k (a b : AV) (h : Heap) : OX :=
ob (evLd true 5 a h) fun g =>
oh (y9 E (yb E) 0 none true 29 [g] h) fun i h4 =>
ob (y8 .neq i (.int .i64 0)) fun d =>
cnd d
 (ob (evLd true 5 a h4) fun c =>
ob (evLd true 5 b h4) fun j =>
oh (y9 E (yb E) 0 none true 14 [c, j] h4) fun e h5 =>
(yf h5 e))
 ((y1y4 a b h4))
def y2kt (s : St) : OX := y19k (s 1) (s 3) s.h
theorem y22l : T0 y1vl [.t 2] y2kt := sq y1z7 fun _ => by kernel_rfl
def y1ma (b : AV) (h : Heap) : OX :=
ob (evLd true 5 b h) fun d =>
oh (y9 E (yb E) 0 none true 166 [d] h) fun c h6 =>
oh (newC 0 (some 1) [.nils, .nils, (.int .i64 0), .nils, .nils] h6) fun a h7 =>
oh (evSt 5 a c h7) fun _ h8 =>
(y19k b a h8)
def y2jv (s : St) : OX := y1ma (s 1) s.h
theorem y24u : T0 y1sa [.t 2] y2jv := sq y22l fun _ => by kernel_rfl
def y1av (c : AV) (h : Heap) : OX :=
ob (evFa 3 c) fun d =>
ob (evLd false 1 d h) fun e =>
ob (y11 1 e h) fun g =>
ob (y8 .gtr g (.int .i64 400)) fun a =>
gb a false (evFa 0 c) fun i =>
gb a false (evLd false 1 i h) fun m =>
gb a false (y11 1 m h) fun j =>
gb a false (y8 .gtr j (.int .i64 100)) fun o =>
ob (yd a (.bool true) o) fun b =>
gb b false (evFa 4 c) fun n =>
gb b false (evLd false 1 n h) fun l =>
gb b false (y11 1 l h) fun k =>
gb b false (y8 .gtr k (.int .i64 50)) fun p =>
ob (yd b (.bool true) p) fun r =>
cnd r
 ((yf h (.bool true)))
 ((y1ma c h))
def y2hj (s : St) : OX := y1av (s 1) s.h
theorem y248 : T0 y1mg [.t 2] y2hj := sq y24u fun _ => by kernel_rfl
def y1c0 (c : AV) (h : Heap) : OX :=
oh (y9 E (yb E) 0 none true 165 [] h) fun b h9 =>
ob (evUn .not b) fun a =>
cnd a
 ((yf h9 (.bool false)))
 ((y1av c h9))
def y2hd (s : St) : OX := y1c0 (s 1) s.h
theorem y1zg : T0 y1rv [.t 2] y2hd := sq y248 fun _ => by kernel_rfl
def yvv (a : AV) (h : Heap) : OX :=
oh (newC 0 (some 0) (cellsOf a) h) fun b h10 =>
(y1c0 b h10)
def y2jy (s : St) : OX := yvv (s 0) s.h
theorem y23w : T0 y1fo [.t 2] y2jy := sq y1zg fun _ => by kernel_rfl
@[simp] theorem y2nk : E.pure 162 = true := rfl
theorem y2pp (a : AV) : (yb E).p 162 [a] = yvv a [⟨0, .dead⟩, ⟨0, .dead⟩] :=
  (y15 (cf := y2jr) (by kernel_rfl) rfl).trans ((y23w _).trans (by kernel_rfl))
def y1r7 (a c : AV) (h : Heap) : OX :=
ob (evLd true 5 c h) fun b =>
oh (evSt 5 a b h) fun _ h1 =>
(ob (evLd true 5 a h1) fun r0 =>
  yf h1 r0)
def yag (s : St) : OX := y1r7 (s 2) (s 3) s.h
theorem y228 : T0 y1sd [.cell 2 true 5] yag := fun _ => by kernel_rfl
def yrf (d b a c : AV) (h : Heap) : OX :=
  W E 0 yoo ⟨[(2, d), (3, b), (22, a), (23, c)], h⟩ yag (y5 0 yag xN) (finP [.cell 2 true 5])
def yde (s : St) : OX := yrf (s 2) (s 3) (s 22) (s 23) s.h
theorem yq4 : T1 yoo yag (y5 0 yag xN) [.cell 2 true 5] yde := fun s => yj.trans (by kernel_rfl)
def y2b1 (b c d e : AV) (h : Heap) : OX :=
ob (y8 .add e (.int .i64 1)) fun a =>
(yrf b c d a h)
def y2l3 (s : St) : OX := y2b1 (s 2) (s 3) (s 22) (s 23) s.h
theorem y21b : T1 y1w6 yde (y5 0 yag xN) [.cell 2 true 5] y2l3 := fun _ => by kernel_rfl
def y281 (o a p b : AV) (h : Heap) : OX :=
ob (evFa 3 a) fun c =>
ob (evLd false 1 c h) fun j =>
ob (evFa 3 a) fun g =>
ob (evLd false 1 g h) fun k =>
ob (yw 9 k b) fun l =>
ob (evFa 8 l) fun d =>
ob (evLd false 1 d h) fun i =>
ofp (y4h E (yb E) 0 none true 39 [i] h) fun f9 =>
oh (y9 E (yb E) 0 none true 39 [i] h) fun n h2 =>
ob (yw 9 j b) fun m =>
ob (evFa 8 m) fun e =>
oh (evSt 1 e n h2) fun _ h3 =>
okK (yg [([], []), (ids1 c, []), ([], []), ([], []), (ids1 g, []), ([], []), ([], []), ([], []), (ids1 d, []), f9, ([], []), ([], []), ([], ids1 e)] [(1, 9)]) <|
(y2b1 o a p b h3)
def y2ll (s : St) : OX := y281 (s 2) (s 3) (s 22) (s 23) s.h
theorem y1xu : T1 y1du yde (y5 0 yag xN) [.cell 2 true 5] y2ll := sq y21b fun _ => by kernel_rfl
def y22i (a b d e c : AV) (h : Heap) : OX :=
cnd c
 ((y281 a b d e h))
 ((y1r7 a b h))
def y2l6 (s : St) : OX := y22i (s 2) (s 3) (s 22) (s 23) (s 24) s.h
theorem y20n : T1 y1p6 yde (y5 0 yag xN) [.cell 2 true 5] y2l6 := sq y1xu fun _ => by kernel_rfl
def y21c (c d a b : AV) (h : Heap) : OX :=
ob (y8 .lss b a) fun e =>
(y22i c d a b e h)
def y2gu (s : St) : OX := y21c (s 2) (s 3) (s 22) (s 23) s.h
theorem y23u : T1 y1pv yde (y5 0 yag xN) [.cell 2 true 5] y2gu := sq y20n fun _ => by kernel_rfl
theorem yqm (d b a c : AV) (h : Heap) : yrf d b a c h = (y21c d b a c h) :=
  y28.trans ((y1c _ _ _ (n' := yde) (fun s => yq4 s)).trans ((y23u _).trans (by kernel_rfl)))
theorem y25a : T1 y1qt yag xN [.cell 2 true 5] yde := fun s => yy.trans (yq4 s)
def y1sh (b a : AV) (h : Heap) : OX :=
ob (evFa 3 a) fun d =>
ob (evLd false 1 d h) fun e =>
ob (y11 1 e h) fun c =>
(yrf b a c (.int .i64 0) h)
def y267 (s : St) : OX := y1sh (s 2) (s 3) s.h
theorem y25e : T1 y1rp yag xN [.cell 2 true 5] y267 := sq y25a fun _ => by kernel_rfl
theorem y1yk : T0 y1u9 [.cell 2 true 5] y267 := sq y228 y25e
def yup (a o : AV) (h : Heap) : OX :=
ob (evFa 0 a) fun k =>
ob (evLd false 1 k h) fun c =>
ofp (y4h E (yb E) 0 (some 2) false 39 [c] h) fun f2 =>
oh (y9 E (yb E) 0 (some 2) false 39 [c] h) fun n h4 =>
ob (evFa 1 a) fun d =>
ob (evLd false 1 d h4) fun i =>
ofp (y4h E (yb E) 0 (some 3) false 39 [i] h4) fun f5 =>
oh (y9 E (yb E) 0 (some 3) false 39 [i] h4) fun p h5 =>
ob (evFa 2 a) fun e =>
ob (evLd false 1 e h5) fun u =>
ob (evFa 3 a) fun j =>
ob (evLd false 1 j h5) fun l =>
ofp (y4h E (yb E) 0 (some 4) false 40 [l] h5) fun f10 =>
oh (y9 E (yb E) 0 (some 4) false 40 [l] h5) fun v h6 =>
ob (evFa 4 a) fun g =>
ob (evLd false 1 g h6) fun m =>
ofp (y4h E (yb E) 0 (some 5) false 41 [m] h6) fun f13 =>
oh (y9 E (yb E) 0 (some 5) false 41 [m] h6) fun t h7 =>
ob (y10 [.nils, .nils, (.int .i64 0), .nils, .nils] [(0, 1, n), (1, 1, p), (2, 1, u), (3, 1, v), (4, 1, t)]) fun r =>
oh (newC 0 (some 6) [.nils, .nils, (.int .i64 0), .nils, .nils] h7) fun b h8 =>
oh (evSt 5 b r h8) fun _ h9 =>
okK (yg [([], []), (ids1 k, []), f2, ([], []), (ids1 d, []), f5, ([], []), (ids1 e, []), ([], []), (ids1 j, []), f10, ([], []), (ids1 g, []), f13, ([], []), ([], [0 + 6]), ([], ids1 b)] [(2, 4), (2, 7), (5, 7), (2, 9), (5, 9), (7, 10), (2, 12), (5, 12), (10, 12), (7, 13), (1, 15), (2, 15), (4, 15), (5, 15), (7, 15), (9, 15), (10, 15), (12, 15), (13, 15)]) <|
(y1sh o b h9)
def y29d (s : St) : OX := yup (s 1) (s 2) s.h
theorem y1dr : T0 y13k [.cell 2 true 5] y29d := sq y1yk fun _ => by kernel_rfl
def y13d (a : AV) (h : Heap) : OX :=
oh (newC 0 (some 0) (cellsOf a) h) fun c h10 =>
oh (newC 0 (some 1) [.nils, .nils, (.int .i64 0), .nils, .nils] h10) fun b h11 =>
(yup c b h11)
def y2du (s : St) : OX := y13d (s 0) s.h
theorem y1q4 : T0 y111 [.cell 2 true 5] y2du := sq y1dr fun _ => by kernel_rfl
@[simp] theorem y2op : E.pure 13 = true := rfl
theorem y2nq (a : AV) : (yb E).p 13 [a] = y13d a [⟨0, .dead⟩, ⟨0, .dead⟩, ⟨0, .dead⟩, ⟨0, .dead⟩, ⟨0, .dead⟩, ⟨0, .dead⟩, ⟨0, .dead⟩] :=
  (y15 (cf := y2j9) (by kernel_rfl) rfl).trans ((y1q4 _).trans (by kernel_rfl))
def y1o1 (h : Heap) : OX :=
(yf h (.bool true))
def y7d (s : St) : OX := y1o1 s.h
theorem y1vy : T0 y15m [.t 4] y7d := fun _ => by kernel_rfl
def yl2 (c b a : AV) (h : Heap) : OX :=
  W E 0 ykh ⟨[(2, c), (3, b), (6, a)], h⟩ y7d (y5 2 y7d xN) (finP [.t 4])
def yc0 (s : St) : OX := yl2 (s 2) (s 3) (s 6) s.h
theorem yny : T1 ykh y7d (y5 2 y7d xN) [.t 4] yc0 := fun s => yj.trans (by kernel_rfl)
def y156 (d c a : AV) (h : Heap) : OX :=
ob (y8 .add a (.int .i64 1)) fun b =>
(yl2 d c b h)
def y2ft (s : St) : OX := y156 (s 2) (s 3) (s 6) s.h
theorem y1wh : T1 y182 yc0 (y5 2 y7d xN) [.t 4] y2ft := fun _ => by kernel_rfl
def y16t (b c a : AV) (h : Heap) : OX :=
ob (evFa 4 b) fun d =>
ob (evLd false 1 d h) fun n =>
ob (yw 4 n a) fun e =>
ob (evLd true 4 e h) fun g =>
ob (evFa 4 c) fun m =>
ob (evLd false 1 m h) fun k =>
ob (yw 4 k a) fun j =>
ob (evLd true 4 j h) fun l =>
ob (y1s3 true [0, 0, 0, 2] g l) fun i =>
cnd i
 ((yf h (.bool false)))
 ((y156 b c a h))
def y2fj (s : St) : OX := y16t (s 2) (s 3) (s 6) s.h
theorem y1h4 : T1 y175 yc0 (y5 2 y7d xN) [.t 4] y2fj := sq y1wh fun _ => by kernel_rfl
def ysn (b g a : AV) (h : Heap) : OX :=
ob (evFa 4 b) fun i =>
ob (evLd false 1 i h) fun e =>
ob (y11 1 e h) fun c =>
ob (y8 .lss a c) fun d =>
cnd d
 ((y16t b g a h))
 ((y1o1 h))
def y2a3 (s : St) : OX := ysn (s 2) (s 3) (s 6) s.h
theorem y1gf : T1 y138 yc0 (y5 2 y7d xN) [.t 4] y2a3 := sq y1h4 fun _ => by kernel_rfl
theorem ylj (c b a : AV) (h : Heap) : yl2 c b a h = (ysn c b a h) :=
  y28.trans ((y1c _ _ _ (n' := yc0) (fun s => yny s)).trans ((y1gf _).trans (by kernel_rfl)))
theorem y1jp : T1 y12l y7d xN [.t 4] yc0 := fun s => yy.trans (yny s)
def y1ql (b a : AV) (h : Heap) : OX :=
(yl2 b a (.int .i64 0) h)
def y6k (s : St) : OX := y1ql (s 2) (s 3) s.h
theorem y1jv : T1 yzn y7d xN [.t 4] y6k := sq y1jp fun _ => by kernel_rfl
theorem y1mw : T0 yyk [.t 4] y6k := sq y1vy y1jv
def yl3 (c b a : AV) (h : Heap) : OX :=
  W E 0 yj1 ⟨[(2, c), (3, b), (5, a)], h⟩ y6k (y5 0 y6k xN) (finP [.t 4])
def yc2 (s : St) : OX := yl3 (s 2) (s 3) (s 5) s.h
theorem yo1 : T1 yj1 y6k (y5 0 y6k xN) [.t 4] yc2 := fun s => yj.trans (by kernel_rfl)
def yuz (d b a : AV) (h : Heap) : OX :=
ob (y8 .add a (.int .i64 1)) fun c =>
(yl3 d b c h)
def y1xx (s : St) : OX := yuz (s 2) (s 3) (s 5) s.h
theorem y1a7 : T1 yuf yc2 (y5 0 y6k xN) [.t 4] y1xx := fun _ => by kernel_rfl
def ypw (b c a : AV) (h : Heap) : OX :=
ob (evFa 3 b) fun i =>
ob (evLd false 1 i h) fun o =>
ob (yw 9 o a) fun e =>
ob (evLd true 9 e h) fun j =>
ob (evFa 3 c) fun n =>
ob (evLd false 1 n h) fun k =>
ob (yw 9 k a) fun l =>
ob (evLd true 9 l h) fun d =>
oh (y9 E (yb E) 0 none true 28 [j, d] h) fun g h1 =>
ob (evUn .not g) fun m =>
cnd m
 ((yf h1 (.bool false)))
 ((yuz b c a h1))
def y23k (s : St) : OX := ypw (s 2) (s 3) (s 5) s.h
theorem y1aw : T1 yrp yc2 (y5 0 y6k xN) [.t 4] y23k := sq y1a7 fun _ => by kernel_rfl
def yi0 (a b c : AV) (h : Heap) : OX :=
ob (evFa 3 a) fun d =>
ob (evLd false 1 d h) fun g =>
ob (y11 1 g h) fun e =>
ob (y8 .lss c e) fun i =>
cnd i
 ((ypw a b c h))
 ((y1ql a b h))
def y1x1 (s : St) : OX := yi0 (s 2) (s 3) (s 5) s.h
theorem y1bz : T1 yun yc2 (y5 0 y6k xN) [.t 4] y1x1 := sq y1aw fun _ => by kernel_rfl
theorem ylu (c b a : AV) (h : Heap) : yl3 c b a h = (yi0 c b a h) :=
  y28.trans ((y1c _ _ _ (n' := yc2) (fun s => yo1 s)).trans ((y1bz _).trans (by kernel_rfl)))
theorem y1az : T1 yst y6k xN [.t 4] yc2 := fun s => yy.trans (yo1 s)
def yvp (b a : AV) (h : Heap) : OX :=
(yl3 b a (.int .i64 0) h)
def y13m (s : St) : OX := yvp (s 2) (s 3) s.h
theorem y19z : T1 ysw y6k xN [.t 4] y13m := sq y1az fun _ => by kernel_rfl
theorem y18t : T0 yr6 [.t 4] y13m := sq y1mw y19z
def yak (g d : AV) (h : Heap) : OX :=
ob (evFa 0 g) fun G =>
ob (evLd false 1 G h) fun t =>
ob (evFa 0 d) fun m =>
ob (evLd false 1 m h) fun C =>
oh (y9 E (yb E) 0 none true 11 [t, C] h) fun j h2 =>
ob (evUn .not j) fun c =>
gb c false (evFa 1 g) fun x =>
gb c false (evLd false 1 x h2) fun w =>
gb c false (evFa 1 d) fun l =>
gb c false (evLd false 1 l h2) fun F =>
gh c false (y9 E (yb E) 0 none true 11 [w, F] h2) h2 fun M h3 =>
gb c false (evUn .not M) fun n =>
ob (yd c (.bool true) n) fun e =>
gb e false (evFa 2 g) fun N =>
gb e false (evLd false 1 N h3) fun O =>
gb e false (evFa 2 d) fun v =>
gb e false (evLd false 1 v h3) fun L =>
gb e false (y8 .neq O L) fun H =>
ob (yd e (.bool true) H) fun a =>
gb a false (evFa 3 g) fun y =>
gb a false (evLd false 1 y h3) fun I =>
gb a false (y11 1 I h3) fun o =>
gb a false (evFa 3 d) fun B =>
gb a false (evLd false 1 B h3) fun K =>
gb a false (y11 1 K h3) fun p =>
gb a false (y8 .neq o p) fun k =>
ob (yd a (.bool true) k) fun b =>
gb b false (evFa 4 g) fun A =>
gb b false (evLd false 1 A h3) fun i =>
gb b false (y11 1 i h3) fun J =>
gb b false (evFa 4 d) fun u =>
gb b false (evLd false 1 u h3) fun z =>
gb b false (y11 1 z h3) fun r =>
gb b false (y8 .neq J r) fun P =>
ob (yd b (.bool true) P) fun D =>
cnd D
 ((yf h3 (.bool false)))
 ((yvp g d h3))
def y1z2 (s : St) : OX := yak (s 2) (s 3) s.h
theorem y18z : T0 yso [.t 4] y1z2 := sq y18t fun _ => by kernel_rfl
def yb7 (b d : AV) (h : Heap) : OX :=
oh (newC 0 (some 0) (cellsOf b) h) fun c h4 =>
oh (newC 0 (some 1) (cellsOf d) h4) fun a h5 =>
(yak c a h5)
def y1xl (s : St) : OX := yb7 (s 0) (s 1) s.h
theorem y18y : T0 yqa [.t 4] y1xl := sq y18z fun _ => by kernel_rfl
@[simp] theorem y2qa : E.pure 14 = true := rfl
theorem y2lr (a b : AV) : (yb E).p 14 [a, b] = yb7 a b [⟨0, .dead⟩, ⟨0, .dead⟩] :=
  (y15 (cf := y27m) (by kernel_rfl) rfl).trans ((y18y _).trans (by kernel_rfl))
def y2at (h : Heap) : OX :=
(yf h (.int .i64 0))
def yax (s : St) : OX := y2at s.h
theorem y208 : T0 y1dz [.t 2] yax := fun _ => by kernel_rfl
def yn6 (c d b e a : AV) (h : Heap) : OX :=
  W E 0 yp5 ⟨[(1, c), (3, d), (136, b), (137, e), (138, a)], h⟩ yax (y5 6 yax xN) (finP [.t 2])
def yd9 (s : St) : OX := yn6 (s 1) (s 3) (s 136) (s 137) (s 138) s.h
theorem ys5 : T1 yp5 yax (y5 6 yax xN) [.t 2] yd9 := fun s => yj.trans (by kernel_rfl)
def y28s (d e c g b : AV) (h : Heap) : OX :=
ob (y8 .add b (.int .i64 1)) fun a =>
(yn6 d e c g a h)
def y2mr (s : St) : OX := y28s (s 1) (s 3) (s 136) (s 137) (s 138) s.h
theorem y20z : T1 y1sg yd9 (y5 6 yax xN) [.t 2] y2mr := fun _ => by kernel_rfl
def yp9 (l i k M j : AV) (h : Heap) : OX :=
ob (yw 4 k j) fun o =>
ob (evLd true 4 o h) fun D =>
oh (newC 0 (some 2) [(.int .i64 0), (.int .i64 0), (.int .i64 0), (.str [])] h) fun b h1 =>
oh (evSt 4 b D h1) fun _ h2 =>
ob (evFa 0 b) fun L =>
ob (evLd false 1 L h2) fun w =>
ob (y8 .lss w (.int .i64 0)) fun c =>
gb c false (evFa 0 b) fun z =>
gb c false (evLd false 1 z h2) fun G =>
gb c false (evFa 1 b) fun A =>
gb c false (evLd false 1 A h2) fun m =>
gb c false (y8 .geq G m) fun I =>
ob (yd c (.bool true) I) fun d =>
gb d false (evFa 1 b) fun H =>
gb d false (evLd false 1 H h2) fun J =>
gb d false (some i) fun R =>
gb d false (y8 .gtr J R) fun p =>
ob (yd d (.bool true) p) fun g =>
gb g false (evFa 2 b) fun S =>
gb g false (evLd false 1 S h2) fun r =>
gb g false (y8 .lss r (.int .i64 0)) fun B =>
ob (yd g (.bool true) B) fun e =>
gb e false (evFa 2 b) fun O =>
gb e false (evLd false 1 O h2) fun n =>
gb e false (some i) fun F =>
gb e false (y8 .geq n F) fun P =>
ob (yd e (.bool true) P) fun a =>
gb a false (evFa 3 l) fun Q =>
gb a false (evLd false 1 Q h2) fun v =>
gb a false (evFa 2 b) fun K =>
gb a false (evLd false 1 K h2) fun t =>
gb a false (yw 9 v t) fun C =>
gb a false (evFa 0 C) fun u =>
gb a false (evLd false 1 u h2) fun y =>
gb a false (y8 .neq y (.int .i64 32)) fun x =>
ob (yd a (.bool true) x) fun N =>
cnd N
 ((yf h2 (.int .i64 80)))
 ((y28s l i k M j h2))
def y2jp (s : St) : OX := yp9 (s 1) (s 3) (s 136) (s 137) (s 138) s.h
theorem y1zp : T1 y1qm yd9 (y5 6 yax xN) [.t 2] y2jp := sq y20z fun _ => by kernel_rfl
def y24j (d e c g b a : AV) (h : Heap) : OX :=
cnd a
 ((yp9 d e c g b h))
 ((y2at h))
def y2m4 (s : St) : OX := y24j (s 1) (s 3) (s 136) (s 137) (s 138) (s 139) s.h
theorem y1xy : T1 y1fq yd9 (y5 6 yax xN) [.t 2] y2m4 := sq y1zp fun _ => by kernel_rfl
def y22u (e g d b a : AV) (h : Heap) : OX :=
ob (y8 .lss a b) fun c =>
(y24j e g d b a c h)
def y2i4 (s : St) : OX := y22u (s 1) (s 3) (s 136) (s 137) (s 138) s.h
theorem y22h : T1 y1uz yd9 (y5 6 yax xN) [.t 2] y2i4 := sq y1xy fun _ => by kernel_rfl
theorem yqc (c d b e a : AV) (h : Heap) : yn6 c d b e a h = (y22u c d b e a h) :=
  y28.trans ((y1c _ _ _ (n' := yd9) (fun s => ys5 s)).trans ((y22h _).trans (by kernel_rfl)))
theorem y21u : T1 y1s4 yax xN [.t 2] yd9 := fun s => yy.trans (ys5 s)
def y1cv (b d : AV) (h : Heap) : OX :=
ob (evFa 4 b) fun c =>
ob (evLd false 1 c h) fun a =>
ob (y11 1 a h) fun e =>
(yn6 b d a e (.int .i64 0) h)
def y5x (s : St) : OX := y1cv (s 1) (s 3) s.h
theorem y20u : T1 y1ey yax xN [.t 2] y5x := sq y21u fun _ => by kernel_rfl
theorem y20x : T0 y1l1 [.t 2] y5x := sq y208 y20u
def yfl (b c e a d : AV) (h : Heap) : OX :=
  W E 0 yi2 ⟨[(1, b), (3, c), (92, e), (93, a), (94, d)], h⟩ y5x (y5 4 y5x xN) (finP [.t 2])
def y8c (s : St) : OX := yfl (s 1) (s 3) (s 92) (s 93) (s 94) s.h
theorem yn2 : T1 yi2 y5x (y5 4 y5x xN) [.t 2] y8c := fun s => yj.trans (by kernel_rfl)
def y18q (c d g b e : AV) (h : Heap) : OX :=
ob (y8 .add e (.int .i64 1)) fun a =>
(yfl c d g b a h)
def yap (s : St) : OX := y18q (s 1) (s 3) (s 92) (s 93) (s 94) s.h
theorem y1hn : T1 y13z y8c (y5 4 y5x xN) [.t 2] yap := fun _ => by kernel_rfl
def ycb (g A i e H x w : AV) (h : Heap) : OX :=
ob (evFa 0 e) fun N =>
ob (evLd false 1 N h) fun r =>
ob (y8 .eql r (.int .i64 32)) fun c =>
gb c true (some i) fun O =>
gb c true (y8 .eql O (.int .i64 0)) fun L =>
gb c true (some L) fun a =>
gb a false (evFa 3 g) fun C =>
gb a false (evLd false 1 C h) fun l =>
gb a false (some i) fun k =>
gb a false (y8 .sub k (.int .i64 1)) fun J =>
gb a false (yw 9 l J) fun I =>
gb a false (evLd true 9 I h) fun t =>
gh a false (y9 E (yb E) 0 none true 24 [t] h) h fun z h3 =>
gb a false (evUn .not z) fun v =>
gb c true (yd a (.bool true) v) fun j =>
ob (yd c j (.bool false)) fun d =>
gb d false (evLd true 9 e h3) fun K =>
gh d false (y9 E (yb E) 0 none true 22 [K] h3) h3 fun y h4 =>
gb d false (some y) fun b =>
gb b true (evFa 3 g) fun D =>
gb b true (evLd false 1 D h4) fun o =>
gb b true (evFa 6 e) fun u =>
gb b true (evLd false 1 u h4) fun n =>
gb b true (yw 9 o n) fun M =>
gb b true (evFa 0 M) fun m =>
gb b true (evLd false 1 m h4) fun G =>
gb b true (y8 .eql G (.int .i64 32)) fun F =>
gb d false (yd b F (.bool false)) fun B =>
ob (yd d (.bool true) B) fun p =>
cnd p
 ((yf h4 (.int .i64 80)))
 ((y18q g A H x w h4))
def y28g (s : St) : OX := ycb (s 1) (s 3) (s 8) (s 9) (s 92) (s 93) (s 94) s.h
theorem y1hb : T1 y17i yap (y5 5 yap (y5 4 y5x xN)) [.t 2] y28g := fun _ => by kernel_rfl
def yxw (a i d b m g l : AV) (h : Heap) : OX :=
ob (evLd true 5 a h) fun j =>
ob (evLd true 9 b h) fun k =>
oh (y9 E (yb E) 0 none true 63 [j, k] h) fun c h5 =>
ob (evUn .not c) fun e =>
cnd e
 ((yf h5 (.int .i64 80)))
 ((ycb a i d b m g l h5))
def y28k (s : St) : OX := yxw (s 1) (s 3) (s 8) (s 9) (s 92) (s 93) (s 94) s.h
theorem y1nx : T1 y02 yap (y5 5 yap (y5 4 y5x xN)) [.t 2] y28k := sq y1hb fun _ => by kernel_rfl
def yub (g j c e a : AV) (h : Heap) : OX :=
ob (yw 9 c a) fun i =>
ob (evLd true 9 i h) fun d =>
oh (newC 0 (some 1) [(.int .i64 0), (.int .i64 0), (.int .i64 0), (.int .i64 0), (.int .i64 0), (.int .i64 0), (.int .i64 0), (.str []), .nils] h) fun b h6 =>
oh (evSt 9 b d h6) fun _ h7 =>
(yxw g j a b c e a h7)
def ywk (s : St) : OX := yub (s 1) (s 3) (s 92) (s 93) (s 94) s.h
theorem y1t9 : T1 y173 yap (y5 5 yap (y5 4 y5x xN)) [.t 2] ywk := sq y1nx fun _ => by kernel_rfl
theorem y1hz : T1 yx5 yap (y5 4 y5x xN) [.t 2] ywk := fun s => yy.trans (y1t9 s)
theorem y1fz : T1 y16r y8c (y5 4 y5x xN) [.t 2] ywk := sq y1hn y1hz
def y186 (a b g d e c : AV) (h : Heap) : OX :=
cnd c
 ((yub a b g d e h))
 ((y1cv a b h))
def y2ek (s : St) : OX := y186 (s 1) (s 3) (s 92) (s 93) (s 94) (s 95) s.h
theorem y1jr : T1 y183 y8c (y5 4 y5x xN) [.t 2] y2ek := sq y1fz fun _ => by kernel_rfl
def y0f (d e g a b : AV) (h : Heap) : OX :=
ob (y8 .lss b a) fun c =>
(y186 d e g a b c h)
def y2fa (s : St) : OX := y0f (s 1) (s 3) (s 92) (s 93) (s 94) s.h
theorem y1me : T1 yzc y8c (y5 4 y5x xN) [.t 2] y2fa := sq y1jr fun _ => by kernel_rfl
theorem yma (b c e a d : AV) (h : Heap) : yfl b c e a d h = (y0f b c e a d h) :=
  y28.trans ((y1c _ _ _ (n' := y8c) (fun s => yn2 s)).trans ((y1me _).trans (by kernel_rfl)))
theorem y1us : T1 y0i y5x xN [.t 2] y8c := fun s => yy.trans (yn2 s)
def yts (a e : AV) (h : Heap) : OX :=
ob (evFa 3 a) fun d =>
ob (evLd false 1 d h) fun b =>
ob (y11 1 b h) fun c =>
(yfl a e b c (.int .i64 0) h)
def y5w (s : St) : OX := yts (s 1) (s 3) s.h
theorem y1pt : T1 y127 y5x xN [.t 2] y5w := sq y1us fun _ => by kernel_rfl
theorem y1hr : T0 y149 [.t 2] y5w := sq y20x y1pt
def yfq (c d a b e : AV) (h : Heap) : OX :=
  W E 0 yjw ⟨[(1, c), (3, d), (62, a), (63, b), (64, e)], h⟩ y5w (y5 2 y5w xN) (finP [.t 2])
def y8v (s : St) : OX := yfq (s 1) (s 3) (s 62) (s 63) (s 64) s.h
theorem ynf : T1 yjw y5w (y5 2 y5w xN) [.t 2] y8v := fun s => yj.trans (by kernel_rfl)
def y1i0 (c d a b e : AV) (h : Heap) : OX :=
ob (y8 .add e (.int .i64 1)) fun g =>
(yfq c d a b g h)
def y2ax (s : St) : OX := y1i0 (s 1) (s 3) (s 62) (s 63) (s 64) s.h
theorem y1ri : T1 yxk y8v (y5 2 y5w xN) [.t 2] y2ax := fun _ => by kernel_rfl
def yib (g x i u c : AV) (h : Heap) : OX :=
ob (yw 1 i c) fun y =>
ob (evLd false 1 y h) fun e =>
ob (y8 .lss e (.int .i64 0)) fun b =>
gb b false (some e) fun A =>
gb b false (evFa 0 g) fun m =>
gb b false (evLd false 1 m h) fun n =>
gb b false (y11 1 n h) fun j =>
gb b false (y8 .geq A j) fun p =>
ob (yd b (.bool true) p) fun a =>
gb a false (evFa 1 g) fun o =>
gb a false (evLd false 1 o h) fun r =>
gb a false (some c) fun z =>
gb a false (ybc 1 r none (some z)) fun k =>
gb a false (some e) fun w =>
gh a false (y9 E (yb E) 0 none true 46 [k, w] h) h fun v h8 =>
ob (yd a (.bool true) v) fun d =>
gb d false (some c) fun t =>
gb d false (y8 .gtr t (.int .i64 20)) fun l =>
ob (yd d (.bool true) l) fun B =>
cnd B
 ((yf h8 (.int .i64 80)))
 ((y1i0 g x i u c h8))
def y29z (s : St) : OX := yib (s 1) (s 3) (s 62) (s 63) (s 64) s.h
theorem y1tk : T1 y11r y8v (y5 2 y5w xN) [.t 2] y29z := sq y1ri fun _ => by kernel_rfl
def y17b (a b c d g e : AV) (h : Heap) : OX :=
cnd e
 ((yib a b c d g h))
 ((yts a b h))
def y2c7 (s : St) : OX := y17b (s 1) (s 3) (s 62) (s 63) (s 64) (s 65) s.h
theorem y1o0 : T1 y17o y8v (y5 2 y5w xN) [.t 2] y2c7 := sq y1tk fun _ => by kernel_rfl
def y11h (d e c a b : AV) (h : Heap) : OX :=
ob (y8 .lss b a) fun g =>
(y17b d e c a b g h)
def y2e3 (s : St) : OX := y11h (s 1) (s 3) (s 62) (s 63) (s 64) s.h
theorem y1vi : T1 yz8 y8v (y5 2 y5w xN) [.t 2] y2e3 := sq y1o0 fun _ => by kernel_rfl
theorem ym4 (c d a b e : AV) (h : Heap) : yfq c d a b e h = (y11h c d a b e h) :=
  y28.trans ((y1c _ _ _ (n' := y8v) (fun s => ynf s)).trans ((y1vi _).trans (by kernel_rfl)))
theorem y1ju : T1 y143 y5w xN [.t 2] y8v := fun s => yy.trans (ynf s)
def ysh (b e : AV) (h : Heap) : OX :=
ob (evFa 1 b) fun d =>
ob (evLd false 1 d h) fun a =>
ob (y11 1 a h) fun c =>
(yfq b e a c (.int .i64 0) h)
def y5t (s : St) : OX := ysh (s 1) (s 3) s.h
theorem y1sw : T1 y15i y5w xN [.t 2] y5t := sq y1ju fun _ => by kernel_rfl
theorem y1wa : T0 y11g [.t 2] y5t := sq y1hr y1sw
def yf9 (b c d a e : AV) (h : Heap) : OX :=
  W E 0 yjg ⟨[(1, b), (3, c), (48, d), (49, a), (50, e)], h⟩ y5t (y5 0 y5t xN) (finP [.t 2])
def y8p (s : St) : OX := yf9 (s 1) (s 3) (s 48) (s 49) (s 50) s.h
theorem ymy : T1 yjg y5t (y5 0 y5t xN) [.t 2] y8p := fun s => yj.trans (by kernel_rfl)
def y1ub (c d e b g : AV) (h : Heap) : OX :=
ob (y8 .add g (.int .i64 1)) fun a =>
(yf9 c d e b a h)
def y2dn (s : St) : OX := y1ub (s 1) (s 3) (s 48) (s 49) (s 50) s.h
theorem y1sx : T1 y16s y8p (y5 0 y5t xN) [.t 2] y2dn := fun _ => by kernel_rfl
def yrq (g j c e d : AV) (h : Heap) : OX :=
ob (yw 1 c d) fun k =>
ob (evLd false 1 k h) fun b =>
ob (y8 .lss b (.int .i64 1)) fun a =>
gb a false (some b) fun i =>
gb a false (y8 .gtr i (.int .i64 3)) fun m =>
ob (yd a (.bool true) m) fun l =>
cnd l
 ((yf h (.int .i64 80)))
 ((y1ub g j c e d h))
def y2ds (s : St) : OX := yrq (s 1) (s 3) (s 48) (s 49) (s 50) s.h
theorem y1un : T1 y0j y8p (y5 0 y5t xN) [.t 2] y2ds := sq y1sx fun _ => by kernel_rfl
def y17e (a b e c g d : AV) (h : Heap) : OX :=
cnd d
 ((yrq a b e c g h))
 ((ysh a b h))
def y2f7 (s : St) : OX := y17e (s 1) (s 3) (s 48) (s 49) (s 50) (s 51) s.h
theorem y1f8 : T1 y13f y8p (y5 0 y5t xN) [.t 2] y2f7 := sq y1un fun _ => by kernel_rfl
def y16v (c d g a b : AV) (h : Heap) : OX :=
ob (y8 .lss b a) fun e =>
(y17e c d g a b e h)
def y2f0 (s : St) : OX := y16v (s 1) (s 3) (s 48) (s 49) (s 50) s.h
theorem y1gl : T1 y15z y8p (y5 0 y5t xN) [.t 2] y2f0 := sq y1f8 fun _ => by kernel_rfl
theorem yn4 (b c d a e : AV) (h : Heap) : yf9 b c d a e h = (y16v b c d a e h) :=
  y28.trans ((y1c _ _ _ (n' := y8p) (fun s => ymy s)).trans ((y1gl _).trans (by kernel_rfl)))
theorem y1n3 : T1 y17q y5t xN [.t 2] y8p := fun s => yy.trans (ymy s)
def yly (a e : AV) (h : Heap) : OX :=
ob (evFa 0 a) fun c =>
ob (evLd false 1 c h) fun b =>
ob (y11 1 b h) fun d =>
(yf9 a e b d (.int .i64 0) h)
def y1gy (s : St) : OX := yly (s 1) (s 3) s.h
theorem y1ec : T1 y114 y5t xN [.t 2] y1gy := sq y1n3 fun _ => by kernel_rfl
theorem y1ua : T0 y147 [.t 2] y1gy := sq y1wa y1ec
def ye6 (b e : AV) (h : Heap) : OX :=
ob (y8 .lss e (.int .i64 1)) fun i =>
gb i false (some e) fun C =>
gb i false (y8 .gtr C (.int .i64 20000)) fun k =>
ob (yd i (.bool true) k) fun c =>
gb c false (evFa 0 b) fun t =>
gb c false (evLd false 1 t h) fun F =>
gb c false (y11 1 F h) fun p =>
gb c false (y8 .gtr p (.int .i64 20000)) fun B =>
ob (yd c (.bool true) B) fun g =>
gb g false (evFa 2 b) fun l =>
gb g false (evLd false 1 l h) fun r =>
gb g false (y8 .lss r (.int .i64 0)) fun y =>
ob (yd g (.bool true) y) fun d =>
gb d false (evFa 2 b) fun A =>
gb d false (evLd false 1 A h) fun m =>
gb d false (y8 .gtr m (.int .i64 3)) fun D =>
ob (yd d (.bool true) D) fun a =>
gb a false (evFa 3 b) fun w =>
gb a false (evLd false 1 w h) fun j =>
gb a false (some e) fun z =>
gb a false (y8 .sub z (.int .i64 1)) fun o =>
gb a false (yw 9 j o) fun v =>
gb a false (evLd true 9 v h) fun n =>
gh a false (y9 E (yb E) 0 none true 24 [n] h) h fun G h9 =>
gb a false (evUn .not G) fun x =>
ob (yd a (.bool true) x) fun u =>
cnd u
 ((yf h9 (.int .i64 80)))
 ((yly b e h9))
def y2fx (s : St) : OX := ye6 (s 1) (s 3) s.h
theorem y1lv : T0 y11b [.t 2] y2fx := sq y1ua fun _ => by kernel_rfl
def ydp (a : AV) (h : Heap) : OX :=
ob (evFa 3 a) fun d =>
ob (evLd false 1 d h) fun b =>
ob (y11 1 b h) fun c =>
(ye6 a c h)
def y29j (s : St) : OX := ydp (s 1) s.h
theorem y1ko : T0 yzv [.t 2] y29j := sq y1lv fun _ => by kernel_rfl
def ycm (a : AV) (h : Heap) : OX :=
oh (newC 0 (some 0) (cellsOf a) h) fun b h10 =>
(ydp b h10)
def y2e9 (s : St) : OX := ycm (s 0) s.h
theorem y1ip : T0 y04 [.t 2] y2e9 := sq y1ko fun _ => by kernel_rfl
@[simp] theorem y2rd : E.pure 8 = true := rfl
theorem y2r1 (a : AV) : (yb E).p 8 [a] = ycm a [⟨0, .dead⟩, ⟨0, .dead⟩, ⟨0, .dead⟩] :=
  (y15 (cf := y2ls) (by kernel_rfl) rfl).trans ((y1ip _).trans (by kernel_rfl))
def y2eq (h : Heap) : OX :=
oh (y12 0 (some 0) 1 2 [(.int .i64 0)] [(0, (.int .i64 1)), (1, (.int .i64 3))] h) fun C h1 =>
oh (y12 0 (some 1) 1 1 [(.int .i64 0)] [(0, (.int .i64 1))] h1) fun u h2 =>
ob (y10 [(.int .i64 0), (.int .i64 0), (.int .i64 0), (.int .i64 0), (.int .i64 0), (.int .i64 0), (.int .i64 0), (.str []), .nils] [(0, 1, (.int .i64 8)), (2, 1, (.int .i64 1))]) fun G =>
ob (y10 [(.int .i64 0), (.int .i64 0), (.int .i64 0), (.int .i64 0), (.int .i64 0), (.int .i64 0), (.int .i64 0), (.str []), .nils] [(0, 1, (.int .i64 15)), (1, 1, (.int .i64 0)), (2, 1, (.int .i64 1))]) fun p =>
ob (y10 [(.int .i64 0), (.int .i64 0), (.int .i64 0), (.int .i64 0), (.int .i64 0), (.int .i64 0), (.int .i64 0), (.str []), .nils] [(0, 1, (.int .i64 8)), (2, 1, (.int .i64 1))]) fun d =>
ob (y10 [(.int .i64 0), (.int .i64 0), (.int .i64 0), (.int .i64 0), (.int .i64 0), (.int .i64 0), (.int .i64 0), (.str []), .nils] [(0, 1, (.int .i64 30)), (2, 1, (.int .i64 (-1)))]) fun z =>
oh (y12 0 (some 2) 9 4 [(.int .i64 0), (.int .i64 0), (.int .i64 0), (.int .i64 0), (.int .i64 0), (.int .i64 0), (.int .i64 0), (.str []), .nils] [(0, G), (1, p), (2, d), (3, z)] h2) fun m h3 =>
ob (y10 [.nils, .nils, (.int .i64 0), .nils, .nils] [(0, 1, C), (1, 1, u), (3, 1, m)]) fun i =>
oh (y9 E (yb E) 0 none true 166 [i] h3) fun v h4 =>
oh (newC 0 (some 3) [.nils, .nils, (.int .i64 0), .nils, .nils] h4) fun c h5 =>
oh (evSt 5 c v h5) fun _ h6 =>
ob (evFa 3 c) fun e =>
ob (evLd false 1 e h6) fun k =>
ob (y11 1 k h6) fun n =>
ob (y8 .eql n (.int .i64 4)) fun a =>
gb a true (evFa 3 c) fun g =>
gb a true (evLd false 1 g h6) fun w =>
gb a true (yw 9 w (.int .i64 0)) fun F =>
gb a true (evFa 0 F) fun j =>
gb a true (evLd false 1 j h6) fun x =>
gb a true (y8 .eql x (.int .i64 8)) fun y =>
ob (yd a y (.bool false)) fun b =>
gb b true (evFa 3 c) fun o =>
gb b true (evLd false 1 o h6) fun D =>
gb b true (yw 9 D (.int .i64 2)) fun A =>
gb b true (evFa 0 A) fun t =>
gb b true (evLd false 1 t h6) fun l =>
gb b true (y8 .eql l (.int .i64 33)) fun r =>
ob (yd b r (.bool false)) fun B =>
(yf h6 B)
def y2lu (s : St) : OX := y2eq s.h
theorem y21a : T0 y1ti [.t 0] y2lu := fun _ => by kernel_rfl
@[simp] theorem y2n2 : E.pure 165 = true := rfl
theorem y2po : (yb E).p 165 [] = y2eq [⟨0, .dead⟩, ⟨0, .dead⟩, ⟨0, .dead⟩, ⟨0, .dead⟩] :=
  (y15 (cf := y2ht) (by kernel_rfl) rfl).trans ((y21a _).trans (by kernel_rfl))
def y1eg (c a : AV) (h : Heap) : OX :=
ob (evLd true 5 c h) fun b =>
oh (evSt 5 a b h) fun _ h1 =>
(ob (evLd true 5 a h1) fun r0 =>
  yf h1 r0)
def yai (s : St) : OX := y1eg (s 1) (s 2) s.h
theorem y25g : T0 y1oj [.cell 2 true 5] yai := fun _ => by kernel_rfl
def ylp (c b d a g e : AV) (h : Heap) : OX :=
  W E 0 ype ⟨[(1, c), (2, b), (3, d), (85, a), (86, g), (87, e)], h⟩ yai (y5 6 yai xN) (finP [.cell 2 true 5])
def yd6 (s : St) : OX := ylp (s 1) (s 2) (s 3) (s 85) (s 86) (s 87) s.h
theorem ys2 : T1 ype yai (y5 6 yai xN) [.cell 2 true 5] yd6 := fun s => yj.trans (by kernel_rfl)
def y1va (d c e a i g : AV) (h : Heap) : OX :=
ob (y8 .add g (.int .i64 1)) fun b =>
(ylp d c e a i b h)
def y2k9 (s : St) : OX := y1va (s 1) (s 2) (s 3) (s 85) (s 86) (s 87) s.h
theorem y1zl : T1 y1if yd6 (y5 6 yai xN) [.cell 2 true 5] y2k9 := fun _ => by kernel_rfl
def yva (g l d e i b : AV) (h : Heap) : OX :=
ob (yw 9 e b) fun v =>
ob (evLd true 9 v h) fun z =>
oh (newC 0 (some 15) [(.int .i64 0), (.int .i64 0), (.int .i64 0), (.int .i64 0), (.int .i64 0), (.int .i64 0), (.int .i64 0), (.str []), .nils] h) fun j h2 =>
oh (evSt 9 j z h2) fun _ h3 =>
ob (evLd true 9 j h3) fun y =>
oh (y9 E (yb E) 0 none true 169 [y] h3) fun m h4 =>
ob (y3z 0 m) fun t =>
ob (y3z 1 m) fun c =>
oh (newC 0 (some 16) [(.int .i64 0), (.int .i64 0), (.int .i64 0)] h4) fun k h5 =>
oh (evSt 3 k t h5) fun _ h6 =>
gb c true (evLd false 1 d h6) fun B =>
gb c true (some b) fun r =>
gb c true (yw 1 B r) fun n =>
gb c true (evLd false 1 n h6) fun u =>
gb c true (y4s 2 true u AV.nilm) fun J =>
ob (yd c J (.bool false)) fun a =>
gb a true (evLd false 1 d h6) fun I =>
gb a true (some b) fun w =>
gb a true (yw 1 I w) fun G =>
gb a true (evLd false 1 G h6) fun H =>
gb a true (evLd true 3 k h6) fun C =>
gb a true (y6q true [0, 0, 0] (.bool false) false H C h6) fun o =>
ob (yd a o (.bool false)) fun p =>
cnd p
 (ob (evFa 3 g) fun F =>
ob (evLd false 1 F h6) fun D =>
ob (y10 [(.int .i64 0), (.int .i64 0), (.int .i64 0), (.int .i64 0), (.int .i64 0), (.int .i64 0), (.int .i64 0), (.str []), .nils] [(0, 1, (.int .i64 33))]) fun A =>
ob (yw 9 D b) fun x =>
oh (evSt 9 x A h6) fun _ h7 =>
(y1va g l d e i b h7))
 ((y1va g l d e i b h6))
def y2m2 (s : St) : OX := yva (s 1) (s 2) (s 3) (s 85) (s 86) (s 87) s.h
theorem y1yt : T1 y1i9 yd6 (y5 6 yai xN) [.cell 2 true 5] y2m2 := sq y1zl fun _ => by kernel_rfl
def y240 (b a e c i g d : AV) (h : Heap) : OX :=
cnd d
 ((yva b a e c i g h))
 ((y1eg b a h))
def y2mk (s : St) : OX := y240 (s 1) (s 2) (s 3) (s 85) (s 86) (s 87) (s 88) s.h
theorem y1xt : T1 y1jk yd6 (y5 6 yai xN) [.cell 2 true 5] y2mk := sq y1yt fun _ => by kernel_rfl
def y1wn (e d i c b a : AV) (h : Heap) : OX :=
ob (y8 .lss a b) fun g =>
(y240 e d i c b a g h)
def y2jz (s : St) : OX := y1wn (s 1) (s 2) (s 3) (s 85) (s 86) (s 87) s.h
theorem y1zy : T1 y1wc yd6 (y5 6 yai xN) [.cell 2 true 5] y2jz := sq y1xt fun _ => by kernel_rfl
theorem yqh (c b d a g e : AV) (h : Heap) : ylp c b d a g e h = (y1wn c b d a g e h) :=
  y28.trans ((y1c _ _ _ (n' := yd6) (fun s => ys2 s)).trans ((y1zy _).trans (by kernel_rfl)))
theorem y22c : T1 y1jm yai xN [.cell 2 true 5] yd6 := fun s => yy.trans (ys2 s)
def y225 (b d e : AV) (h : Heap) : OX :=
ob (evFa 3 b) fun c =>
ob (evLd false 1 c h) fun a =>
ob (y11 1 a h) fun g =>
(ylp b d e a g (.int .i64 0) h)
def y32 (s : St) : OX := y225 (s 1) (s 2) (s 3) s.h
theorem y23v : T1 y1id yai xN [.cell 2 true 5] y32 := sq y22c fun _ => by kernel_rfl
theorem y22o : T0 y1m0 [.cell 2 true 5] y32 := sq y25g y23v
def yd8 (b a c e d : AV) (h : Heap) : OX :=
  W E 0 yhq ⟨[(1, b), (2, a), (3, c), (4, e), (5, d)], h⟩ y32 (y5 0 y32 xN) (finP [.cell 2 true 5])
def y14 (s : St) : OX := yd8 (s 1) (s 2) (s 3) (s 4) (s 5) s.h
theorem ymk : T1 yhq y32 (y5 0 y32 xN) [.cell 2 true 5] y14 := fun s => yj.trans (by kernel_rfl)
def yk9 (d c g j i e k a b : AV) (h : Heap) : OX :=
  W E 0 yic ⟨[(1, d), (2, c), (3, g), (4, j), (5, i), (9, e), (73, k), (74, a), (75, b)], h⟩ y14 (y5 4 y14 (y5 1 y14 (y5 0 y32 xN))) (finP [.cell 2 true 5])
def y8h (s : St) : OX := yk9 (s 1) (s 2) (s 3) (s 4) (s 5) (s 9) (s 73) (s 74) (s 75) s.h
theorem yme : T1 yic y14 (y5 4 y14 (y5 1 y14 (y5 0 y32 xN))) [.cell 2 true 5] y8h := fun s => yj.trans (by kernel_rfl)
def y1ia (d c i k j e l a b : AV) (h : Heap) : OX :=
ob (y8 .add b (.int .i64 1)) fun g =>
(yk9 d c i k j e l a g h)
def y2bd (s : St) : OX := y1ia (s 1) (s 2) (s 3) (s 4) (s 5) (s 9) (s 73) (s 74) (s 75) s.h
theorem y1j1 : T1 y0z y8h (y5 4 y14 (y5 1 y14 (y5 0 y32 xN))) [.cell 2 true 5] y2bd := fun _ => by kernel_rfl
def y1dy (i g j l c b d e a : AV) (h : Heap) : OX :=
ob (yw 1 d a) fun m =>
ob (evLd false 1 m h) fun k =>
oh (ymc E (yb E) 0 none true c [k, b] h) fun n h8 =>
(y1ia i g j l c b d e a h8)
def y2ew (s : St) : OX := y1dy (s 1) (s 2) (s 3) (s 4) (s 5) (s 9) (s 73) (s 74) (s 75) s.h
theorem y1te : T1 yyv y8h (y5 4 y14 (y5 1 y14 (y5 0 y32 xN))) [.cell 2 true 5] y2ew := sq y1j1 fun _ => by kernel_rfl
def yx6 (b a c e d j l g i k : AV) (h : Heap) : OX :=
cnd k
 ((y1dy b a c e d j l g i h))
 ((yd8 b a c e d h))
def y2al (s : St) : OX := yx6 (s 1) (s 2) (s 3) (s 4) (s 5) (s 9) (s 73) (s 74) (s 75) (s 76) s.h
theorem y1jb : T1 y15r y8h (y5 4 y14 (y5 1 y14 (y5 0 y32 xN))) [.cell 2 true 5] y2al := sq y1te fun _ => by kernel_rfl
def yx4 (d c i k j e l a b : AV) (h : Heap) : OX :=
ob (y8 .lss b a) fun g =>
(yx6 d c i k j e l a b g h)
def y2a1 (s : St) : OX := yx4 (s 1) (s 2) (s 3) (s 4) (s 5) (s 9) (s 73) (s 74) (s 75) s.h
theorem y1ly : T1 y12u y8h (y5 4 y14 (y5 1 y14 (y5 0 y32 xN))) [.cell 2 true 5] y2a1 := sq y1jb fun _ => by kernel_rfl
theorem yn5 (d c g j i e k a b : AV) (h : Heap) : yk9 d c g j i e k a b h = (yx4 d c g j i e k a b h) :=
  y28.trans ((y1c _ _ _ (n' := y8h) (fun s => yme s)).trans ((y1ly _).trans (by kernel_rfl)))
theorem y1p3 : T1 y16i y14 (y5 1 y14 (y5 0 y32 xN)) [.cell 2 true 5] y8h := fun s => yy.trans (yme s)
def y1r3 (a e i l j c g : AV) (h : Heap) : OX :=
ob (evLd true 5 a h) fun k =>
oh (y9 E (yb E) 0 none true 81 [k, c] h) fun b h9 =>
ob (y11 1 b h9) fun d =>
(yk9 a e i l j g b d (.int .i64 0) h9)
def y2av (s : St) : OX := y1r3 (s 1) (s 2) (s 3) (s 4) (s 5) (s 6) (s 9) s.h
theorem y1vj : T1 y05 y14 (y5 1 y14 (y5 0 y32 xN)) [.cell 2 true 5] y2av := sq y1p3 fun _ => by kernel_rfl
def y17n (b i c o n a : AV) (h : Heap) : OX :=
ob (evLd false 1 c h) fun k =>
ob (yw 1 k a) fun g =>
ob (evLd false 1 g h) fun m =>
ob (evFa 3 b) fun l =>
ob (evLd false 1 l h) fun p =>
ob (yw 9 p a) fun d =>
ob (evLd true 9 d h) fun j =>
oh (y9 E (yb E) 0 none true 168 [m, j] h) fun e h10 =>
(y1r3 b i c o n a e h10)
def y6h (s : St) : OX := y17n (s 1) (s 2) (s 3) (s 4) (s 5) (s 6) s.h
theorem y1em : T1 yxq y14 (y5 1 y14 (y5 0 y32 xN)) [.cell 2 true 5] y6h := sq y1vj fun _ => by kernel_rfl
def yii (e d g k i a b j c : AV) (h : Heap) : OX :=
  W E 0 yjp ⟨[(1, e), (2, d), (3, g), (4, k), (5, i), (6, a), (47, b), (48, j), (49, c)], h⟩ y6h (y5 2 y6h (y5 1 y14 (y5 0 y32 xN))) (finP [.cell 2 true 5])
def y8u (s : St) : OX := yii (s 1) (s 2) (s 3) (s 4) (s 5) (s 6) (s 47) (s 48) (s 49) s.h
theorem yni : T1 yjp y6h (y5 2 y6h (y5 1 y14 (y5 0 y32 xN))) [.cell 2 true 5] y8u := fun s => yj.trans (by kernel_rfl)
def y1iw (g e i l j a c k d : AV) (h : Heap) : OX :=
ob (y8 .add d (.int .i64 1)) fun b =>
(yii g e i l j a c k b h)
def y2ab (s : St) : OX := y1iw (s 1) (s 2) (s 3) (s 4) (s 5) (s 6) (s 47) (s 48) (s 49) s.h
theorem y1tv : T1 y16f y8u (y5 2 y6h (y5 1 y14 (y5 0 y32 xN))) [.cell 2 true 5] y2ab := fun _ => by kernel_rfl
def y1lt (j i d o e a b n c : AV) (h : Heap) : OX :=
ob (yw 1 b c) fun m =>
ob (evLd false 1 m h) fun l =>
ob (evLd false 1 d h) fun p =>
ob (yw 1 p a) fun k =>
ob (evLd false 1 k h) fun g =>
oh (ymc E (yb E) 0 none true e [l, g] h) fun r h11 =>
(y1iw j i d o e a b n c h11)
def y2ef (s : St) : OX := y1lt (s 1) (s 2) (s 3) (s 4) (s 5) (s 6) (s 47) (s 48) (s 49) s.h
theorem y1rn : T1 y145 y8u (y5 2 y6h (y5 1 y14 (y5 0 y32 xN))) [.cell 2 true 5] y2ef := sq y1tv fun _ => by kernel_rfl
def y15y (c b d g e a i k j l : AV) (h : Heap) : OX :=
cnd l
 ((y1lt c b d g e a i k j h))
 ((y17n c b d g e a h))
def y2bk (s : St) : OX := y15y (s 1) (s 2) (s 3) (s 4) (s 5) (s 6) (s 47) (s 48) (s 49) (s 50) s.h
theorem y1ve : T1 y11a y8u (y5 2 y6h (y5 1 y14 (y5 0 y32 xN))) [.cell 2 true 5] y2bk := sq y1rn fun _ => by kernel_rfl
def y12s (g e i k j c d b a : AV) (h : Heap) : OX :=
ob (y8 .lss a b) fun l =>
(y15y g e i k j c d b a l h)
def y2bz (s : St) : OX := y12s (s 1) (s 2) (s 3) (s 4) (s 5) (s 6) (s 47) (s 48) (s 49) s.h
theorem y1fm : T1 yyp y8u (y5 2 y6h (y5 1 y14 (y5 0 y32 xN))) [.cell 2 true 5] y2bz := sq y1ve fun _ => by kernel_rfl
theorem ymw (e d g k i a b j c : AV) (h : Heap) : yii e d g k i a b j c h = (y12s e d g k i a b j c h) :=
  y28.trans ((y1c _ _ _ (n' := y8u) (fun s => yni s)).trans ((y1fm _).trans (by kernel_rfl)))
theorem y1pl : T1 y13c y6h (y5 1 y14 (y5 0 y32 xN)) [.cell 2 true 5] y8u := fun s => yy.trans (yni s)
def y1np (c d e k i a : AV) (h : Heap) : OX :=
ob (evLd true 5 c h) fun g =>
oh (y9 E (yb E) 0 none true 79 [g, a] h) fun b h12 =>
ob (y11 1 b h12) fun j =>
(yii c d e k i a b j (.int .i64 0) h12)
def y1vc (s : St) : OX := y1np (s 1) (s 2) (s 3) (s 4) (s 5) (s 6) s.h
theorem y1mo : T1 y16n y6h (y5 1 y14 (y5 0 y32 xN)) [.cell 2 true 5] y1vc := sq y1pl fun _ => by kernel_rfl
theorem y1kj : T1 y11x y14 (y5 1 y14 (y5 0 y32 xN)) [.cell 2 true 5] y1vc := sq y1em y1mo
def y1cy (j i k a l b : AV) (h : Heap) : OX :=
ob (evLd false 1 a h) fun g =>
ob (evLd false 1 a h) fun e =>
ob (y11 1 e h) fun c =>
ob (y8 .sub c (.int .i64 1)) fun d =>
ob (ybc 1 g none (some d)) fun m =>
oh (evSt 1 a m h) fun _ h13 =>
(y1np j i k a l b h13)
def y2d1 (s : St) : OX := y1cy (s 1) (s 2) (s 3) (s 4) (s 5) (s 6) s.h
theorem y1v1 : T1 yzo y14 (y5 1 y14 (y5 0 y32 xN)) [.cell 2 true 5] y2d1 := sq y1kj fun _ => by kernel_rfl
def y1hv (i g k a l : AV) (h : Heap) : OX :=
ob (evLd false 1 a h) fun m =>
ob (evLd false 1 a h) fun e =>
ob (y11 1 e h) fun c =>
ob (y8 .sub c (.int .i64 1)) fun j =>
ob (yw 1 m j) fun d =>
ob (evLd false 1 d h) fun b =>
(y1cy i g k a l b h)
def y1m8 (s : St) : OX := y1hv (s 1) (s 2) (s 3) (s 4) (s 5) s.h
theorem y1ng : T1 yy3 y14 (y5 1 y14 (y5 0 y32 xN)) [.cell 2 true 5] y1m8 := sq y1v1 fun _ => by kernel_rfl
theorem y1u1 : T1 yx7 y14 (y5 0 y32 xN) [.cell 2 true 5] y1m8 := fun s => yy.trans (y1ng s)
def yrm (b a c d j : AV) (h : Heap) : OX :=
ob (evLd false 1 d h) fun i =>
ob (y11 1 i h) fun e =>
ob (y8 .gtr e (.int .i64 0)) fun g =>
cnd g
 ((y1hv b a c d j h))
 ((y225 b a c h))
def y29y (s : St) : OX := yrm (s 1) (s 2) (s 3) (s 4) (s 5) s.h
theorem y1s0 : T1 yyx y14 (y5 0 y32 xN) [.cell 2 true 5] y29y := sq y1u1 fun _ => by kernel_rfl
theorem yf7 (b a c e d : AV) (h : Heap) : yd8 b a c e d h = (yrm b a c e d h) :=
  y28.trans ((y1c _ _ _ (n' := y14) (fun s => ymk s)).trans ((y1s0 _).trans (by kernel_rfl)))
theorem y1l6 : T1 yy8 y32 xN [.cell 2 true 5] y14 := fun s => yy.trans (ymk s)
theorem y1g8 : T0 y14u [.cell 2 true 5] y14 := sq y22o y1l6
def y1k5 (e d a b : AV) (h : Heap) : OX :=
ob (some (.fn 167 [a, b])) fun c =>
(yd8 e d a b c h)
def y2dg (s : St) : OX := y1k5 (s 1) (s 2) (s 3) (s 4) s.h
theorem y1jj : T0 y14t [.cell 2 true 5] y2dg := sq y1g8 fun _ => by kernel_rfl
def y1qy (c b d : AV) (h : Heap) : OX :=
oh (y12 0 (some 13) 1 1 [(.int .i64 0)] [(0, (.int .i64 0))] h) fun e h14 =>
oh (newC 0 (some 14) [.nils] h14) fun a h15 =>
oh (evSt 1 a e h15) fun _ h16 =>
(y1k5 c b d a h16)
def y28c (s : St) : OX := y1qy (s 1) (s 2) (s 3) s.h
theorem y1tw : T0 y12k [.cell 2 true 5] y28c := sq y1jj fun _ => by kernel_rfl
def y1oo (e d a : AV) (h : Heap) : OX :=
ob (evLd false 1 a h) fun c =>
oh (mkmC 0 (some 12) h) fun b h17 =>
ob (yw 1 c (.int .i64 0)) fun g =>
oh (evSt 1 g b h17) fun _ h18 =>
(y1qy e d a h18)
def y283 (s : St) : OX := y1oo (s 1) (s 2) (s 3) s.h
theorem y1o5 : T0 y12o [.cell 2 true 5] y283 := sq y1tw fun _ => by kernel_rfl
def y18k (a d : AV) (h : Heap) : OX :=
ob (evFa 3 a) fun g =>
ob (evLd false 1 g h) fun i =>
ob (y11 1 i h) fun c =>
oh (mkSC 0 (some 10) 1 8 [.nilm] c c h) fun e h19 =>
oh (newC 0 (some 11) [.nils] h19) fun b h20 =>
oh (evSt 1 b e h20) fun _ h21 =>
(y1oo a d b h21)
def y2bo (s : St) : OX := y18k (s 1) (s 2) s.h
theorem y1ii : T0 yz7 [.cell 2 true 5] y2bo := sq y1o5 fun _ => by kernel_rfl
def yuq (b a : AV) (h : Heap) : OX :=
ob (evLd true 5 b h) fun d =>
oh (y9 E (yb E) 0 none true 8 [d] h) fun c h22 =>
ob (y8 .neq c (.int .i64 0)) fun e =>
cnd e
 (ob (evLd true 5 b h22) fun g =>
oh (evSt 5 a g h22) fun _ h23 =>
(ob (evLd true 5 a h23) fun r0 =>
  yf h23 r0))
 ((y18k b a h22))
def y29b (s : St) : OX := yuq (s 1) (s 2) s.h
theorem y1ns : T0 y16z [.cell 2 true 5] y29b := sq y1ii fun _ => by kernel_rfl
def y1vp (a b : AV) (h : Heap) : OX :=
ob (evLd true 5 a h) fun d =>
oh (y9 E (yb E) 0 (some 2) false 13 [d] h) fun c h24 =>
oh (evSt 5 a c h24) fun _ h25 =>
(yuq a b h25)
def y2fb (s : St) : OX := y1vp (s 1) (s 2) s.h
theorem y1e6 : T0 y13e [.cell 2 true 5] y2fb := sq y1ns fun _ => by kernel_rfl
def y16o (a : AV) (h : Heap) : OX :=
oh (newC 0 (some 0) (cellsOf a) h) fun c h26 =>
oh (newC 0 (some 1) [.nils, .nils, (.int .i64 0), .nils, .nils] h26) fun b h27 =>
(y1vp c b h27)
def y2a7 (s : St) : OX := y16o (s 0) s.h
theorem y1l2 : T0 y0s [.cell 2 true 5] y2a7 := sq y1e6 fun _ => by kernel_rfl
@[simp] theorem y2n5 : E.pure 166 = true := rfl
theorem y2nu (a : AV) : (yb E).p 166 [a] = y16o a [⟨0, .dead⟩, ⟨0, .dead⟩, ⟨0, .dead⟩, ⟨0, .dead⟩, ⟨0, .dead⟩, ⟨0, .dead⟩, ⟨0, .dead⟩, ⟨0, .dead⟩, ⟨0, .dead⟩, ⟨0, .dead⟩, ⟨0, .dead⟩, ⟨0, .dead⟩, ⟨0, .dead⟩, ⟨0, .dead⟩, ⟨0, .dead⟩, ⟨0, .dead⟩, ⟨0, .dead⟩] :=
  (y15 (cf := y2iz) (by kernel_rfl) rfl).trans ((y1l2 _).trans (by kernel_rfl))
def yif (h : Heap) : OX :=
(yf h (.int .i64 0))
def y77 (s : St) : OX := yif s.h
theorem y1ul : T0 yyn [.t 2] y77 := fun _ => by kernel_rfl
def yf3 (c b a : AV) (h : Heap) : OX :=
  W E 0 ykd ⟨[(1, c), (3, b), (8, a)], h⟩ y77 (y5 6 y77 xN) (finP [.t 2])
def ybs (s : St) : OX := yf3 (s 1) (s 3) (s 8) s.h
theorem ynm : T1 ykd y77 (y5 6 y77 xN) [.t 2] ybs := fun s => yj.trans (by kernel_rfl)
def yks (d b a : AV) (h : Heap) : OX :=
ob (y8 .add a (.int .i64 1)) fun c =>
(yf3 d b c h)
def y2fs (s : St) : OX := yks (s 1) (s 3) (s 8) s.h
theorem y1p7 : T1 y12y ybs (y5 6 y77 xN) [.t 2] y2fs := fun _ => by kernel_rfl
def y7o (g j i : AV) (h : Heap) : OX :=
ob (evFa 4 g) fun p =>
ob (evLd false 1 p h) fun K =>
ob (yw 4 K i) fun P =>
ob (evLd true 4 P h) fun r =>
oh (newC 0 (some 2) [(.int .i64 0), (.int .i64 0), (.int .i64 0), (.str [])] h) fun b h1 =>
oh (evSt 4 b r h1) fun _ h2 =>
ob (evFa 0 b) fun z =>
ob (evLd false 1 z h2) fun M =>
ob (y8 .lss M (.int .i64 0)) fun c =>
gb c false (evFa 0 b) fun m =>
gb c false (evLd false 1 m h2) fun D =>
gb c false (evFa 1 b) fun N =>
gb c false (evLd false 1 N h2) fun x =>
gb c false (y8 .geq D x) fun n =>
ob (yd c (.bool true) n) fun e =>
gb e false (evFa 1 b) fun I =>
gb e false (evLd false 1 I h2) fun u =>
gb e false (some j) fun A =>
gb e false (y8 .gtr u A) fun w =>
ob (yd e (.bool true) w) fun d =>
gb d false (evLd true 5 g h2) fun J =>
gb d false (evFa 2 b) fun k =>
gb d false (evLd false 1 k h2) fun O =>
gh d false (y9 E (yb E) 0 none true 49 [J, O] h2) h2 fun l h3 =>
gb d false (evUn .not l) fun t =>
ob (yd d (.bool true) t) fun a =>
gb a false (evFa 3 g) fun C =>
gb a false (evLd false 1 C h3) fun L =>
gb a false (evFa 2 b) fun y =>
gb a false (evLd false 1 y h3) fun H =>
gb a false (yw 9 L H) fun B =>
gb a false (evFa 0 B) fun F =>
gb a false (evLd false 1 F h3) fun G =>
gb a false (y8 .neq G (.int .i64 32)) fun o =>
ob (yd a (.bool true) o) fun v =>
cnd v
 ((yf h3 (.int .i64 80)))
 ((yks g j i h3))
def y2ae (s : St) : OX := y7o (s 1) (s 3) (s 8) s.h
theorem y1iz : T1 y16k ybs (y5 6 y77 xN) [.t 2] y2ae := sq y1p7 fun _ => by kernel_rfl
def y6y (b g a : AV) (h : Heap) : OX :=
ob (evFa 4 b) fun e =>
ob (evLd false 1 e h) fun i =>
ob (y11 1 i h) fun c =>
ob (y8 .lss a c) fun d =>
cnd d
 ((y7o b g a h))
 ((yif h))
def y290 (s : St) : OX := y6y (s 1) (s 3) (s 8) s.h
theorem y1uj : T1 y18d ybs (y5 6 y77 xN) [.t 2] y290 := sq y1iz fun _ => by kernel_rfl
theorem yms (c b a : AV) (h : Heap) : yf3 c b a h = (y6y c b a h) :=
  y28.trans ((y1c _ _ _ (n' := ybs) (fun s => ynm s)).trans ((y1uj _).trans (by kernel_rfl)))
theorem y1nu : T1 y17w y77 xN [.t 2] ybs := fun s => yy.trans (ynm s)
def ygw (b a : AV) (h : Heap) : OX :=
(yf3 b a (.int .i64 0) h)
def y6n (s : St) : OX := ygw (s 1) (s 3) s.h
theorem y1kp : T1 y14c y77 xN [.t 2] y6n := sq y1nu fun _ => by kernel_rfl
theorem y1ix : T0 yya [.t 2] y6n := sq y1ul y1kp
def yfy (c b a : AV) (h : Heap) : OX :=
  W E 0 yir ⟨[(1, c), (3, b), (6, a)], h⟩ y6n (y5 4 y6n xN) (finP [.t 2])
def yc4 (s : St) : OX := yfy (s 1) (s 3) (s 6) s.h
theorem ymp : T1 yir y6n (y5 4 y6n xN) [.t 2] yc4 := fun s => yj.trans (by kernel_rfl)
def yb2 (d c a : AV) (h : Heap) : OX :=
ob (y8 .add a (.int .i64 1)) fun b =>
(yfy d c b h)
def y24s (s : St) : OX := yb2 (s 1) (s 3) (s 6) s.h
theorem y19p : T1 yug yc4 (y5 4 y6n xN) [.t 2] y24s := fun _ => by kernel_rfl
def y4r (g I j : AV) (h : Heap) : OX :=
ob (evFa 3 g) fun r =>
ob (evLd false 1 r h) fun X =>
ob (yw 9 X j) fun Q =>
ob (evLd true 9 Q h) fun V =>
oh (newC 0 (some 1) [(.int .i64 0), (.int .i64 0), (.int .i64 0), (.int .i64 0), (.int .i64 0), (.int .i64 0), (.int .i64 0), (.str []), .nils] h) fun i h4 =>
oh (evSt 9 i V h4) fun _ h5 =>
ob (evLd true 5 g h5) fun K =>
ob (evLd true 9 i h5) fun l =>
oh (y9 E (yb E) 0 none true 64 [K, l] h5) fun k h6 =>
ob (evUn .not k) fun d =>
gb d false (evFa 0 i) fun A =>
gb d false (evLd false 1 A h6) fun H =>
gb d false (y8 .eql H (.int .i64 32)) fun D =>
gb d false (some D) fun e =>
gb e true (some j) fun S =>
gb e true (y8 .eql S (.int .i64 0)) fun Z =>
gb e true (some Z) fun a =>
gb a false (evFa 3 g) fun F =>
gb a false (evLd false 1 F h6) fun Y =>
gb a false (some j) fun L =>
gb a false (y8 .sub L (.int .i64 1)) fun u =>
gb a false (yw 9 Y u) fun B =>
gb a false (evFa 0 B) fun p =>
gb a false (evLd false 1 p h6) fun U =>
gh a false (y9 E (yb E) 0 none true 25 [U] h6) h6 fun n h7 =>
gb a false (evUn .not n) fun N =>
gb e true (yd a (.bool true) N) fun M =>
gb d false (yd e M (.bool false)) fun J =>
ob (yd d (.bool true) J) fun c =>
gb c false (evFa 0 i) fun o =>
gb c false (evLd false 1 o h7) fun x =>
gh c false (y9 E (yb E) 0 none true 23 [x] h7) h7 fun P h8 =>
gb c false (some P) fun b =>
gb b true (evFa 3 g) fun m =>
gb b true (evLd false 1 m h8) fun t =>
gb b true (evFa 6 i) fun C =>
gb b true (evLd false 1 C h8) fun O =>
gb b true (yw 9 t O) fun w =>
gb b true (evFa 0 w) fun R =>
gb b true (evLd false 1 R h8) fun v =>
gb b true (y8 .eql v (.int .i64 32)) fun y =>
gb c false (yd b y (.bool false)) fun G =>
ob (yd c (.bool true) G) fun z =>
cnd z
 ((yf h8 (.int .i64 80)))
 ((yb2 g I j h8))
def y22g (s : St) : OX := y4r (s 1) (s 3) (s 6) s.h
theorem y19m : T1 ysp yc4 (y5 4 y6n xN) [.t 2] y22g := sq y19p fun _ => by kernel_rfl
def yao (c a b : AV) (h : Heap) : OX :=
ob (y8 .lss b a) fun d =>
cnd d
 ((y4r c a b h))
 ((ygw c a h))
def y22j (s : St) : OX := yao (s 1) (s 3) (s 6) s.h
theorem y1am : T1 yql yc4 (y5 4 y6n xN) [.t 2] y22j := sq y19m fun _ => by kernel_rfl
theorem yob (c b a : AV) (h : Heap) : yfy c b a h = (yao c b a h) :=
  y28.trans ((y1c _ _ _ (n' := yc4) (fun s => ymp s)).trans ((y1am _).trans (by kernel_rfl)))
theorem y18r : T1 yr9 y6n xN [.t 2] yc4 := fun s => yy.trans (ymp s)
def yam (b a : AV) (h : Heap) : OX :=
(yfy b a (.int .i64 0) h)
def y4q (s : St) : OX := yam (s 1) (s 3) s.h
theorem y1ci : T1 yrx y6n xN [.t 2] y4q := sq y18r fun _ => by kernel_rfl
theorem y1bw : T0 ytv [.t 2] y4q := sq y1ix y1ci
def ybq (c b a : AV) (h : Heap) : OX :=
  W E 0 yfh ⟨[(1, c), (3, b), (5, a)], h⟩ y4q (y5 2 y4q xN) (finP [.t 2])
def y7k (s : St) : OX := ybq (s 1) (s 3) (s 5) s.h
theorem yjx : T1 yfh y4q (y5 2 y4q xN) [.t 2] y7k := fun s => yj.trans (by kernel_rfl)
def yd7 (d c a : AV) (h : Heap) : OX :=
ob (y8 .add a (.int .i64 1)) fun b =>
(ybq d c b h)
def y25c (s : St) : OX := yd7 (s 1) (s 3) (s 5) s.h
theorem y1bk : T1 yt0 y7k (y5 2 y4q xN) [.t 2] y25c := fun _ => by kernel_rfl
def y8w (b p c : AV) (h : Heap) : OX :=
ob (evLd true 5 b h) fun j =>
ob (evFa 1 b) fun v =>
ob (evLd false 1 v h) fun e =>
ob (yw 1 e c) fun m =>
ob (evLd false 1 m h) fun d =>
oh (y9 E (yb E) 0 none true 48 [j, d] h) fun g h9 =>
ob (y8 .eql g (.int .i64 0)) fun a =>
gb a false (evFa 1 b) fun x =>
gb a false (evLd false 1 x h9) fun k =>
gb a false (some c) fun n =>
gb a false (yw 1 k n) fun u =>
gb a false (evLd false 1 u h9) fun l =>
gb a false (evFa 1 b) fun y =>
gb a false (evLd false 1 y h9) fun i =>
gb a false (some c) fun t =>
gb a false (ybc 1 i none (some t)) fun o =>
gh a false (y9 E (yb E) 0 none true 42 [l, o] h9) h9 fun w h10 =>
ob (yd a (.bool true) w) fun r =>
cnd r
 ((yf h10 (.int .i64 80)))
 ((yd7 b p c h10))
def y23i (s : St) : OX := y8w (s 1) (s 3) (s 5) s.h
theorem y199 : T1 ytn y7k (y5 2 y4q xN) [.t 2] y23i := sq y1bk fun _ => by kernel_rfl
def y7g (a b c : AV) (h : Heap) : OX :=
ob (evFa 1 a) fun e =>
ob (evLd false 1 e h) fun d =>
ob (y11 1 d h) fun g =>
ob (y8 .lss c g) fun i =>
cnd i
 ((y8w a b c h))
 ((yam a b h))
def y1ya (s : St) : OX := y7g (s 1) (s 3) (s 5) s.h
theorem y1ch : T1 yum y7k (y5 2 y4q xN) [.t 2] y1ya := sq y199 fun _ => by kernel_rfl
theorem yi1 (c b a : AV) (h : Heap) : ybq c b a h = (y7g c b a h) :=
  y28.trans ((y1c _ _ _ (n' := y7k) (fun s => yjx s)).trans ((y1ch _).trans (by kernel_rfl)))
theorem y1cj : T1 ysy y4q xN [.t 2] y7k := fun s => yy.trans (yjx s)
def yb3 (b a : AV) (h : Heap) : OX :=
(ybq b a (.int .i64 0) h)
def y4u (s : St) : OX := yb3 (s 1) (s 3) s.h
theorem y1a6 : T1 ys6 y4q xN [.t 2] y4u := sq y1cj fun _ => by kernel_rfl
theorem y1al : T0 ysi [.t 2] y4u := sq y1bw y1a6
def yc1 (c a b : AV) (h : Heap) : OX :=
  W E 0 yex ⟨[(1, c), (3, a), (4, b)], h⟩ y4u (y5 0 y4u xN) (finP [.t 2])
def y7z (s : St) : OX := yc1 (s 1) (s 3) (s 4) s.h
theorem yih : T1 yex y4u (y5 0 y4u xN) [.t 2] y7z := fun s => yj.trans (by kernel_rfl)
def yd1 (d b c : AV) (h : Heap) : OX :=
ob (y8 .add c (.int .i64 1)) fun a =>
(yc1 d b a h)
def y1ym (s : St) : OX := yd1 (s 1) (s 3) (s 4) s.h
theorem y19j : T1 ytw y7z (y5 0 y4u xN) [.t 2] y1ym := fun _ => by kernel_rfl
def y8f (b m c : AV) (h : Heap) : OX :=
ob (evFa 0 b) fun o =>
ob (evLd false 1 o h) fun i =>
ob (yw 1 i c) fun d =>
ob (evLd false 1 d h) fun j =>
ob (y8 .lss j (.int .i64 1)) fun a =>
gb a false (evFa 0 b) fun r =>
gb a false (evLd false 1 r h) fun n =>
gb a false (some c) fun e =>
gb a false (yw 1 n e) fun l =>
gb a false (evLd false 1 l h) fun g =>
gb a false (y8 .gtr g (.int .i64 3)) fun p =>
ob (yd a (.bool true) p) fun k =>
cnd k
 ((yf h (.int .i64 80)))
 ((yd1 b m c h))
def y222 (s : St) : OX := y8f (s 1) (s 3) (s 4) s.h
theorem y1bx : T1 ytd y7z (y5 0 y4u xN) [.t 2] y222 := sq y19j fun _ => by kernel_rfl
def y7e (a b c : AV) (h : Heap) : OX :=
ob (evFa 0 a) fun e =>
ob (evLd false 1 e h) fun g =>
ob (y11 1 g h) fun i =>
ob (y8 .lss c i) fun d =>
cnd d
 ((y8f a b c h))
 ((yb3 a b h))
def y1za (s : St) : OX := y7e (s 1) (s 3) (s 4) s.h
theorem y195 : T1 yuj y7z (y5 0 y4u xN) [.t 2] y1za := sq y1bx fun _ => by kernel_rfl
theorem yhz (c a b : AV) (h : Heap) : yc1 c a b h = (y7e c a b h) :=
  y28.trans ((y1c _ _ _ (n' := y7z) (fun s => yih s)).trans ((y195 _).trans (by kernel_rfl)))
theorem y196 : T1 yry y4u xN [.t 2] y7z := fun s => yy.trans (yih s)
def yg2 (b a : AV) (h : Heap) : OX :=
(yc1 b a (.int .i64 0) h)
def y161 (s : St) : OX := yg2 (s 1) (s 3) s.h
theorem y1a3 : T1 yse y4u xN [.t 2] y161 := sq y196 fun _ => by kernel_rfl
theorem y19y : T0 yrb [.t 2] y161 := sq y1al y1a3
def y4z (b g : AV) (h : Heap) : OX :=
ob (y8 .eql g (.int .i64 0)) fun j =>
gb j false (some g) fun l =>
gb j false (y8 .gtr l (.int .i64 20000)) fun A =>
ob (yd j (.bool true) A) fun d =>
gb d false (evFa 0 b) fun B =>
gb d false (evLd false 1 B h) fun D =>
gb d false (y11 1 D h) fun K =>
gb d false (y8 .gtr K (.int .i64 20000)) fun L =>
ob (yd d (.bool true) L) fun c =>
gb c false (evFa 1 b) fun F =>
gb c false (evLd false 1 F h) fun w =>
gb c false (y11 1 w h) fun n =>
gb c false (y8 .gtr n (.int .i64 21)) fun r =>
ob (yd c (.bool true) r) fun i =>
gb i false (evFa 2 b) fun y =>
gb i false (evLd false 1 y h) fun I =>
gb i false (y8 .lss I (.int .i64 0)) fun o =>
ob (yd i (.bool true) o) fun e =>
gb e false (evFa 2 b) fun J =>
gb e false (evLd false 1 J h) fun x =>
gb e false (y8 .gtr x (.int .i64 3)) fun k =>
ob (yd e (.bool true) k) fun a =>
gb a false (evFa 3 b) fun v =>
gb a false (evLd false 1 v h) fun p =>
gb a false (some g) fun M =>
gb a false (y8 .sub M (.int .i64 1)) fun z =>
gb a false (yw 9 p z) fun t =>
gb a false (evFa 0 t) fun G =>
gb a false (evLd false 1 G h) fun C =>
gh a false (y9 E (yb E) 0 none true 25 [C] h) h fun H h11 =>
gb a false (evUn .not H) fun u =>
ob (yd a (.bool true) u) fun m =>
cnd m
 ((yf h11 (.int .i64 80)))
 ((yg2 b g h11))
def y24d (s : St) : OX := y4z (s 1) (s 3) s.h
theorem y19w : T0 ytp [.t 2] y24d := sq y19y fun _ => by kernel_rfl
def y4p (a : AV) (h : Heap) : OX :=
ob (evFa 3 a) fun c =>
ob (evLd false 1 c h) fun b =>
ob (y11 1 b h) fun d =>
(y4z a d h)
def y1ww (s : St) : OX := y4p (s 1) s.h
theorem y1a2 : T0 yt9 [.t 2] y1ww := sq y19w fun _ => by kernel_rfl
def y4d (a : AV) (h : Heap) : OX :=
oh (newC 0 (some 0) (cellsOf a) h) fun b h12 =>
(y4p b h12)
def y254 (s : St) : OX := y4d (s 0) s.h
theorem y1ar : T0 ysg [.t 2] y254 := sq y1a2 fun _ => by kernel_rfl
@[simp] theorem y2p1 : E.pure 29 = true := rfl
theorem y2ks (a : AV) : (yb E).p 29 [a] = y4d a [⟨0, .dead⟩, ⟨0, .dead⟩, ⟨0, .dead⟩] :=
  (y15 (cf := y27s) (by kernel_rfl) rfl).trans ((y1ar _).trans (by kernel_rfl))
def y2bp (h : Heap) : OX :=
(yf h (.bool true))
def y44 (s : St) : OX := y2bp s.h
theorem y21l : T0 y1sy [.t 2] y44 := fun _ => by kernel_rfl
def ylo (b a d c : AV) (h : Heap) : OX :=
  W E 0 ypn ⟨[(3, b), (104, a), (105, d), (106, c)], h⟩ y44 (y5 8 y44 xN) (finP [.t 2])
def yd4 (s : St) : OX := ylo (s 3) (s 104) (s 105) (s 106) s.h
theorem yuo : T1 ypn y44 (y5 8 y44 xN) [.t 2] yd4 := fun s => yj.trans (by kernel_rfl)
def y1pu (d a e c : AV) (h : Heap) : OX :=
ob (y8 .add c (.int .i64 1)) fun b =>
(ylo d a e b h)
def y3x (s : St) : OX := y1pu (s 3) (s 104) (s 105) (s 106) s.h
theorem y1x5 : T1 y1ds yd4 (y5 8 y44 xN) [.t 2] y3x := fun _ => by kernel_rfl
def yqw (d g b e c a j i : AV) (h : Heap) : OX :=
  W E 0 ypp ⟨[(3, d), (15, g), (104, b), (105, e), (106, c), (112, a), (113, j), (114, i)], h⟩ y3x (y5 10 y3x (y5 9 y3x (y5 8 y44 xN))) (finP [.t 2])
def ydh (s : St) : OX := yqw (s 3) (s 15) (s 104) (s 105) (s 106) (s 112) (s 113) (s 114) s.h
theorem ysz : T1 ypp y3x (y5 10 y3x (y5 9 y3x (y5 8 y44 xN))) [.t 2] ydh := fun s => yj.trans (by kernel_rfl)
def y1xf (d g b e c a k j : AV) (h : Heap) : OX :=
ob (y8 .add j (.int .i64 1)) fun i =>
(yqw d g b e c a k i h)
def y2j4 (s : St) : OX := y1xf (s 3) (s 15) (s 104) (s 105) (s 106) (s 112) (s 113) (s 114) s.h
theorem y21r : T1 y1p2 ydh (y5 10 y3x (y5 9 y3x (y5 8 y44 xN))) [.t 2] y2j4 := fun _ => by kernel_rfl
def y1vs (c b l j y d v e : AV) (h : Heap) : OX :=
ob (yw 1 d e) fun o =>
ob (evLd false 1 o h) fun n =>
ob (yw 1 c b) fun z =>
ob (evLd false 1 z h) fun w =>
ob (y4s 1 true w AV.nils) fun a =>
gb a true (some c) fun r =>
gb a true (some b) fun k =>
gb a true (yw 1 r k) fun m =>
gb a true (evLd false 1 m h) fun i =>
gb a true (some n) fun x =>
gb a true (yw 1 i x) fun g =>
gb a true (evLd false 1 g h) fun u =>
gb a true (evUn .not u) fun t =>
ob (yd a t (.bool false)) fun p =>
cnd p
 ((yf h (.bool false)))
 ((y1xf c b l j y d v e h))
def y2lv (s : St) : OX := y1vs (s 3) (s 15) (s 104) (s 105) (s 106) (s 112) (s 113) (s 114) s.h
theorem y20v : T1 y1vu ydh (y5 10 y3x (y5 9 y3x (y5 8 y44 xN))) [.t 2] y2lv := sq y21r fun _ => by kernel_rfl
def y1bo (c g a d b e k j i : AV) (h : Heap) : OX :=
cnd i
 ((y1vs c g a d b e k j h))
 ((y1pu c a d b h))
def y2hq (s : St) : OX := y1bo (s 3) (s 15) (s 104) (s 105) (s 106) (s 112) (s 113) (s 114) (s 115) s.h
theorem y1yo : T1 y1dc ydh (y5 10 y3x (y5 9 y3x (y5 8 y44 xN))) [.t 2] y2hq := sq y20v fun _ => by kernel_rfl
def y1ab (g j d i e c b a : AV) (h : Heap) : OX :=
ob (y8 .lss a b) fun k =>
(y1bo g j d i e c b a k h)
def y2he (s : St) : OX := y1ab (s 3) (s 15) (s 104) (s 105) (s 106) (s 112) (s 113) (s 114) s.h
theorem y1yq : T1 y1ld ydh (y5 10 y3x (y5 9 y3x (y5 8 y44 xN))) [.t 2] y2he := sq y1yo fun _ => by kernel_rfl
theorem ytc (d g b e c a j i : AV) (h : Heap) : yqw d g b e c a j i h = (y1ab d g b e c a j i h) :=
  y28.trans ((y1c _ _ _ (n' := ydh) (fun s => ysz s)).trans ((y1yq _).trans (by kernel_rfl)))
theorem y252 : T1 y1mp y3x (y5 9 y3x (y5 8 y44 xN)) [.t 2] ydh := fun s => yy.trans (ysz s)
def y1sn (g j d b e i : AV) (h : Heap) : OX :=
ob (evLd true 9 d h) fun c =>
oh (y9 E (yb E) 0 none true 10 [c] h) fun a h1 =>
ob (y11 1 a h1) fun k =>
(yqw g j b e i a k (.int .i64 0) h1)
def y2eh (s : St) : OX := y1sn (s 3) (s 15) (s 16) (s 104) (s 105) (s 106) s.h
theorem y1er : T1 y11u y3x (y5 9 y3x (y5 8 y44 xN)) [.t 2] y2eh := sq y252 fun _ => by kernel_rfl
def y1hi (e b g a : AV) (h : Heap) : OX :=
ob (yw 9 b a) fun d =>
ob (evLd true 9 d h) fun i =>
oh (newC 0 (some 5) [(.int .i64 0), (.int .i64 0), (.int .i64 0), (.int .i64 0), (.int .i64 0), (.int .i64 0), (.int .i64 0), (.str []), .nils] h) fun c h2 =>
oh (evSt 9 c i h2) fun _ h3 =>
(y1sn e a c b g a h3)
def ywi (s : St) : OX := y1hi (s 3) (s 104) (s 105) (s 106) s.h
theorem y1ka : T1 y13j y3x (y5 9 y3x (y5 8 y44 xN)) [.t 2] ywi := sq y1er fun _ => by kernel_rfl
theorem y1w0 : T1 y13g y3x (y5 8 y44 xN) [.t 2] ywi := fun s => yy.trans (y1ka s)
theorem y1tl : T1 y15v yd4 (y5 8 y44 xN) [.t 2] ywi := sq y1x5 y1w0
def y12v (c a d b e : AV) (h : Heap) : OX :=
cnd e
 ((y1hi c a d b h))
 ((y2bp h))
def y2bi (s : St) : OX := y12v (s 3) (s 104) (s 105) (s 106) (s 107) s.h
theorem y1rr : T1 y15b yd4 (y5 8 y44 xN) [.t 2] y2bi := sq y1tl fun _ => by kernel_rfl
def y11w (d c b a : AV) (h : Heap) : OX :=
ob (y8 .lss a b) fun e =>
(y12v d c b a e h)
def y295 (s : St) : OX := y11w (s 3) (s 104) (s 105) (s 106) s.h
theorem y1ow : T1 yyw yd4 (y5 8 y44 xN) [.t 2] y295 := sq y1rr fun _ => by kernel_rfl
theorem ytt (b a d c : AV) (h : Heap) : ylo b a d c h = (y11w b a d c h) :=
  y28.trans ((y1c _ _ _ (n' := yd4) (fun s => yuo s)).trans ((y1ow _).trans (by kernel_rfl)))
theorem y1hk : T1 y15x y44 xN [.t 2] yd4 := fun s => yy.trans (yuo s)
def yu6 (b d : AV) (h : Heap) : OX :=
ob (evFa 3 b) fun e =>
ob (evLd false 1 e h) fun a =>
ob (y11 1 a h) fun c =>
(ylo d a c (.int .i64 0) h)
def y21 (s : St) : OX := yu6 (s 1) (s 3) s.h
theorem y1cs : T1 yzi y44 xN [.t 2] y21 := sq y1hk fun _ => by kernel_rfl
theorem y1kf : T0 y12i [.t 2] y21 := sq y21l y1cs
def yfs (c a b : AV) (h : Heap) : OX :=
  W E 0 ykc ⟨[(1, c), (3, a), (7, b)], h⟩ y21 (y5 2 y21 xN) (finP [.t 2])
def yz (s : St) : OX := yfs (s 1) (s 3) (s 7) s.h
theorem yo2 : T1 ykc y21 (y5 2 y21 xN) [.t 2] yz := fun s => yj.trans (by kernel_rfl)
def yd5 (d g a e c i b : AV) (h : Heap) : OX :=
  W E 0 yit ⟨[(1, d), (3, g), (7, a), (9, e), (91, c), (92, i), (93, b)], h⟩ yz (y5 6 yz (y5 3 yz (y5 2 y21 xN))) (finP [.t 2])
def y8r (s : St) : OX := yd5 (s 1) (s 3) (s 7) (s 9) (s 91) (s 92) (s 93) s.h
theorem ync : T1 yit yz (y5 6 yz (y5 3 yz (y5 2 y21 xN))) [.t 2] y8r := fun s => yj.trans (by kernel_rfl)
def y1or (e i a g d j c : AV) (h : Heap) : OX :=
ob (y8 .add c (.int .i64 1)) fun b =>
(yd5 e i a g d j b h)
def y28x (s : St) : OX := y1or (s 1) (s 3) (s 7) (s 9) (s 91) (s 92) (s 93) s.h
theorem y1fe : T1 y181 y8r (y5 6 yz (y5 3 yz (y5 2 y21 xN))) [.t 2] y28x := fun _ => by kernel_rfl
def y1na (j d g c b l a : AV) (h : Heap) : OX :=
ob (yw 1 b a) fun i =>
ob (evLd false 1 i h) fun k =>
oh (y9 E (yb E) 0 none false 80 [d, k, c, g] h) fun e h4 =>
(y1or j d e c b l a h4)
def y2fl (s : St) : OX := y1na (s 1) (s 3) (s 7) (s 9) (s 91) (s 92) (s 93) s.h
theorem y1i7 : T1 y12h y8r (y5 6 yz (y5 3 yz (y5 2 y21 xN))) [.t 2] y2fl := sq y1fe fun _ => by kernel_rfl
def y14v (b c a g e j d i : AV) (h : Heap) : OX :=
cnd i
 ((y1na b c a g e j d h))
 ((yfs b c a h))
def y2be (s : St) : OX := y14v (s 1) (s 3) (s 7) (s 9) (s 91) (s 92) (s 93) (s 94) s.h
theorem y1lo : T1 y13b y8r (y5 6 yz (y5 3 yz (y5 2 y21 xN))) [.t 2] y2be := sq y1i7 fun _ => by kernel_rfl
def yzw (e i c g d b a : AV) (h : Heap) : OX :=
ob (y8 .lss a b) fun j =>
(y14v e i c g d b a j h)
def y28q (s : St) : OX := yzw (s 1) (s 3) (s 7) (s 9) (s 91) (s 92) (s 93) s.h
theorem y1ll : T1 y16d y8r (y5 6 yz (y5 3 yz (y5 2 y21 xN))) [.t 2] y28q := sq y1lo fun _ => by kernel_rfl
theorem yoc (d g a e c i b : AV) (h : Heap) : yd5 d g a e c i b h = (yzw d g a e c i b h) :=
  y28.trans ((y1c _ _ _ (n' := y8r) (fun s => ync s)).trans ((y1ll _).trans (by kernel_rfl)))
theorem y1nj : T1 y12r yz (y5 3 yz (y5 2 y21 xN)) [.t 2] y8r := fun s => yy.trans (ync s)
def ynb (a i c e g : AV) (h : Heap) : OX :=
ob (evLd true 5 a h) fun d =>
oh (y9 E (yb E) 0 none true 81 [d, e] h) fun b h5 =>
ob (y11 1 b h5) fun j =>
(yd5 a i c g b j (.int .i64 0) h5)
def y28f (s : St) : OX := ynb (s 1) (s 3) (s 7) (s 8) (s 9) s.h
theorem y1n4 : T1 y13h yz (y5 3 yz (y5 2 y21 xN)) [.t 2] y28f := sq y1nj fun _ => by kernel_rfl
def yoa (b g d a c : AV) (h : Heap) : OX :=
ob (evFa 3 b) fun m =>
ob (evLd false 1 m h) fun j =>
ob (yw 9 j a) fun n =>
ob (evLd true 9 n h) fun k =>
oh (y9 E (yb E) 0 none true 9 [k] h) fun e h6 =>
ob (y8 .geq e (.int .i64 0)) fun i =>
cnd i
 (ob (yw 1 c e) fun l =>
oh (evSt 1 l (.bool true) h6) fun _ h7 =>
(ynb b g d a c h7))
 ((ynb b g d a c h6))
def y6g (s : St) : OX := yoa (s 1) (s 3) (s 7) (s 8) (s 9) s.h
theorem y1gq : T1 y11k yz (y5 3 yz (y5 2 y21 xN)) [.t 2] y6g := sq y1n4 fun _ => by kernel_rfl
def yft (d g b c e j i a : AV) (h : Heap) : OX :=
  W E 0 yip ⟨[(1, d), (3, g), (7, b), (8, c), (9, e), (66, j), (67, i), (68, a)], h⟩ y6g (y5 4 y6g (y5 3 yz (y5 2 y21 xN))) (finP [.t 2])
def y8x (s : St) : OX := yft (s 1) (s 3) (s 7) (s 8) (s 9) (s 66) (s 67) (s 68) s.h
theorem yo0 : T1 yip y6g (y5 4 y6g (y5 3 yz (y5 2 y21 xN))) [.t 2] y8x := fun s => yj.trans (by kernel_rfl)
def y1e3 (d g b c e k i a : AV) (h : Heap) : OX :=
ob (y8 .add a (.int .i64 1)) fun j =>
(yft d g b c e k i j h)
def y2a0 (s : St) : OX := y1e3 (s 1) (s 3) (s 7) (s 8) (s 9) (s 66) (s 67) (s 68) s.h
theorem y1ta : T1 y0o y8x (y5 4 y6g (y5 3 yz (y5 2 y21 xN))) [.t 2] y2a0 := fun _ => by kernel_rfl
def y1rx (j c e i b d l a : AV) (h : Heap) : OX :=
ob (yw 1 d a) fun g =>
ob (evLd false 1 g h) fun m =>
oh (y9 E (yb E) 0 none false 80 [c, m, b, e] h) fun k h8 =>
(y1e3 j c k i b d l a h8)
def y2bh (s : St) : OX := y1rx (s 1) (s 3) (s 7) (s 8) (s 9) (s 66) (s 67) (s 68) s.h
theorem y1r1 : T1 y169 y8x (y5 4 y6g (y5 3 yz (y5 2 y21 xN))) [.t 2] y2bh := sq y1ta fun _ => by kernel_rfl
def y17x (c e a b d k j g i : AV) (h : Heap) : OX :=
cnd i
 ((y1rx c e a b d k j g h))
 ((yoa c e a b d h))
def y2ak (s : St) : OX := y17x (s 1) (s 3) (s 7) (s 8) (s 9) (s 66) (s 67) (s 68) (s 69) s.h
theorem y1k6 : T1 y137 y8x (y5 4 y6g (y5 3 yz (y5 2 y21 xN))) [.t 2] y2ak := sq y1r1 fun _ => by kernel_rfl
def y15o (e j c d i k b a : AV) (h : Heap) : OX :=
ob (y8 .lss a b) fun g =>
(y17x e j c d i k b a g h)
def y2cj (s : St) : OX := y15o (s 1) (s 3) (s 7) (s 8) (s 9) (s 66) (s 67) (s 68) s.h
theorem y1gm : T1 y13v y8x (y5 4 y6g (y5 3 yz (y5 2 y21 xN))) [.t 2] y2cj := sq y1k6 fun _ => by kernel_rfl
theorem ylv (d g b c e j i a : AV) (h : Heap) : yft d g b c e j i a h = (y15o d g b c e j i a h) :=
  y28.trans ((y1c _ _ _ (n' := y8x) (fun s => yo0 s)).trans ((y1gm _).trans (by kernel_rfl)))
theorem y1nr : T1 y18i y6g (y5 3 yz (y5 2 y21 xN)) [.t 2] y8x := fun s => yy.trans (yo0 s)
def y1sk (b g d a e : AV) (h : Heap) : OX :=
ob (evLd true 5 b h) fun j =>
oh (y9 E (yb E) 0 none true 79 [j, a] h) fun c h9 =>
ob (y11 1 c h9) fun i =>
(yft b g d a e c i (.int .i64 0) h9)
def y1v6 (s : St) : OX := y1sk (s 1) (s 3) (s 7) (s 8) (s 9) s.h
theorem y1ux : T1 y14q y6g (y5 3 yz (y5 2 y21 xN)) [.t 2] y1v6 := sq y1nr fun _ => by kernel_rfl
theorem y1cr : T1 y15p yz (y5 3 yz (y5 2 y21 xN)) [.t 2] y1v6 := sq y1gq y1ux
def y162 (g b d a : AV) (h : Heap) : OX :=
ob (yw 1 b a) fun i =>
ob (evLd false 1 i h) fun c =>
oh (y9 E (yb E) 0 (some 4) false 78 [c] h) fun e h10 =>
(y1sk g b d a e h10)
def y28v (s : St) : OX := y162 (s 1) (s 3) (s 7) (s 8) s.h
theorem y1t2 : T1 y16j yz (y5 3 yz (y5 2 y21 xN)) [.t 2] y28v := sq y1cr fun _ => by kernel_rfl
def y1jl (d g a c : AV) (h : Heap) : OX :=
ob (y11 1 a h) fun b =>
ob (y8 .sub b (.int .i64 1)) fun e =>
ob (ybc 1 a none (some e)) fun i =>
(y162 d g i c h)
def y2d7 (s : St) : OX := y1jl (s 1) (s 3) (s 7) (s 8) s.h
theorem y1op : T1 y159 yz (y5 3 yz (y5 2 y21 xN)) [.t 2] y2d7 := sq y1t2 fun _ => by kernel_rfl
def y1le (c d a : AV) (h : Heap) : OX :=
ob (y11 1 a h) fun i =>
ob (y8 .sub i (.int .i64 1)) fun g =>
ob (yw 1 a g) fun e =>
ob (evLd false 1 e h) fun b =>
(y1jl c d a b h)
def y1u7 (s : St) : OX := y1le (s 1) (s 3) (s 7) s.h
theorem y1fg : T1 y170 yz (y5 3 yz (y5 2 y21 xN)) [.t 2] y1u7 := sq y1op fun _ => by kernel_rfl
theorem y1ry : T1 y125 yz (y5 2 y21 xN) [.t 2] y1u7 := fun s => yy.trans (y1fg s)
def yss (b c a : AV) (h : Heap) : OX :=
ob (y11 1 a h) fun e =>
ob (y8 .gtr e (.int .i64 0)) fun d =>
cnd d
 ((y1le b c a h))
 ((yu6 b c h))
def y2b4 (s : St) : OX := yss (s 1) (s 3) (s 7) s.h
theorem y1df : T1 y17a yz (y5 2 y21 xN) [.t 2] y2b4 := sq y1ry fun _ => by kernel_rfl
theorem y1bm (c a b : AV) (h : Heap) : yfs c a b h = (yss c a b h) :=
  y28.trans ((y1c _ _ _ (n' := yz) (fun s => yo2 s)).trans ((y1df _).trans (by kernel_rfl)))
theorem y1h2 : T1 y167 y21 xN [.t 2] yz := fun s => yy.trans (yo2 s)
theorem y1vr : T0 y122 [.t 2] yz := sq y1kf y1h2
def y1kx (c a d b : AV) (h : Heap) : OX :=
ob (yw 1 a (.int .i64 0)) fun e =>
oh (evSt 1 e d h) fun _ h11 =>
(yfs c a b h11)
def y2a4 (s : St) : OX := y1kx (s 1) (s 3) (s 4) (s 7) s.h
theorem y1to : T0 y14s [.t 2] y2a4 := sq y1vr fun _ => by kernel_rfl
def y11n (d b c : AV) (h : Heap) : OX :=
oh (y12 0 (some 3) 1 1 [(.int .i64 0)] [(0, (.int .i64 0))] h) fun a h12 =>
(y1kx d b c a h12)
def y6r (s : St) : OX := y11n (s 1) (s 3) (s 4) s.h
theorem y1ht : T0 y12q [.t 2] y6r := sq y1to fun _ => by kernel_rfl
def yie (b d g e a c : AV) (h : Heap) : OX :=
  W E 0 yil ⟨[(1, b), (3, d), (4, g), (31, e), (32, a), (33, c)], h⟩ y6r (y5 0 y6r xN) (finP [.t 2])
def y8e (s : St) : OX := yie (s 1) (s 3) (s 4) (s 31) (s 32) (s 33) s.h
theorem ymm : T1 yil y6r (y5 0 y6r xN) [.t 2] y8e := fun s => yj.trans (by kernel_rfl)
def y1gb (c e i g a d : AV) (h : Heap) : OX :=
ob (y8 .add d (.int .i64 1)) fun b =>
(yie c e i g a b h)
def y2fw (s : St) : OX := y1gb (s 1) (s 3) (s 4) (s 31) (s 32) (s 33) s.h
theorem y1e2 : T1 y13s y8e (y5 0 y6r xN) [.t 2] y2fw := fun _ => by kernel_rfl
def y1tr (i j c b g a : AV) (h : Heap) : OX :=
ob (yw 1 b a) fun k =>
ob (evLd false 1 k h) fun e =>
ob (yw 1 c e) fun d =>
oh (evSt 1 d (.bool true) h) fun _ h13 =>
(y1gb i j c b g a h13)
def y2d5 (s : St) : OX := y1tr (s 1) (s 3) (s 4) (s 31) (s 32) (s 33) s.h
theorem y1dp : T1 y15n y8e (y5 0 y6r xN) [.t 2] y2d5 := sq y1e2 fun _ => by kernel_rfl
def y00 (a b c g d e i : AV) (h : Heap) : OX :=
cnd i
 ((y1tr a b c g d e h))
 ((y11n a b c h))
def y2ep (s : St) : OX := y00 (s 1) (s 3) (s 4) (s 31) (s 32) (s 33) (s 34) s.h
theorem y1ui : T1 yzh y8e (y5 0 y6r xN) [.t 2] y2ep := sq y1dp fun _ => by kernel_rfl
def yz3 (c d g e a b : AV) (h : Heap) : OX :=
ob (y8 .lss b a) fun i =>
(y00 c d g e a b i h)
def y2br (s : St) : OX := yz3 (s 1) (s 3) (s 4) (s 31) (s 32) (s 33) s.h
theorem y1f2 : T1 y0b y8e (y5 0 y6r xN) [.t 2] y2br := sq y1ui fun _ => by kernel_rfl
theorem yn1 (b d g e a c : AV) (h : Heap) : yie b d g e a c h = (yz3 b d g e a c h) :=
  y28.trans ((y1c _ _ _ (n' := y8e) (fun s => ymm s)).trans ((y1f2 _).trans (by kernel_rfl)))
theorem y1pj : T1 y12c y6r xN [.t 2] y8e := fun s => yy.trans (ymm s)
def y1hq (a e g : AV) (h : Heap) : OX :=
ob (evFa 1 a) fun c =>
ob (evLd false 1 c h) fun b =>
ob (y11 1 b h) fun d =>
(yie a e g b d (.int .i64 0) h)
def y1ou (s : St) : OX := y1hq (s 1) (s 3) (s 4) s.h
theorem y1ja : T1 y0y y6r xN [.t 2] y1ou := sq y1pj fun _ => by kernel_rfl
theorem y1ev : T0 y185 [.t 2] y1ou := sq y1ht y1ja
def y1dd (a g : AV) (h : Heap) : OX :=
ob (evFa 0 a) fun d =>
ob (evLd false 1 d h) fun c =>
ob (y11 1 c h) fun b =>
oh (mkSC 0 (some 2) 1 1 [(.bool false)] b b h) fun e h14 =>
(y1hq a g e h14)
def y2do (s : St) : OX := y1dd (s 1) (s 3) s.h
theorem y1u0 : T0 yz9 [.t 2] y2do := sq y1ev fun _ => by kernel_rfl
def y1n1 (a : AV) (h : Heap) : OX :=
ob (evFa 3 a) fun d =>
ob (evLd false 1 d h) fun e =>
ob (y11 1 e h) fun b =>
oh (mkSC 0 (some 1) 1 24 [.nils] b b h) fun c h15 =>
(y1dd a c h15)
def y2di (s : St) : OX := y1n1 (s 1) s.h
theorem y1ni : T0 y15a [.t 2] y2di := sq y1u0 fun _ => by kernel_rfl
def y09 (a : AV) (h : Heap) : OX :=
ob (evLd true 5 a h) fun b =>
oh (y9 E (yb E) 0 none true 8 [b] h) fun c h16 =>
ob (y8 .neq c (.int .i64 0)) fun d =>
cnd d
 ((yf h16 (.bool false)))
 ((y1n1 a h16))
def y2db (s : St) : OX := y09 (s 1) s.h
theorem y1g0 : T0 yzq [.t 2] y2db := sq y1ni fun _ => by kernel_rfl
def y163 (a : AV) (h : Heap) : OX :=
oh (newC 0 (some 0) (cellsOf a) h) fun b h17 =>
(y09 b h17)
def y2c2 (s : St) : OX := y163 (s 0) s.h
theorem y1vk : T0 yz1 [.t 2] y2c2 := sq y1g0 fun _ => by kernel_rfl
@[simp] theorem y2no : E.pure 77 = true := rfl
theorem y2qz (a : AV) : (yb E).p 77 [a] = y163 a [⟨0, .dead⟩, ⟨0, .dead⟩, ⟨0, .dead⟩, ⟨0, .dead⟩, ⟨0, .dead⟩, ⟨0, .dead⟩] :=
  (y15 (cf := y2mv) (by kernel_rfl) rfl).trans ((y1vk _).trans (by kernel_rfl))
def yd3 (h : Heap) : OX :=
(yf h AV.nils)
def y37 (s : St) : OX := yd3 s.h
theorem y21p : T0 y1e5 [.t 2] y37 := fun _ => by kernel_rfl
def ydw (a : AV) (h : Heap) : OX :=
ob (evFa 2 a) fun g =>
ob (evLd false 1 g h) fun e =>
ob (evFa 3 a) fun c =>
ob (evLd false 1 c h) fun d =>
oh (y12 0 (some 6) 1 2 [(.int .i64 0)] [(0, e), (1, d)] h) fun b h1 =>
(yf h1 b)
def y2im (s : St) : OX := ydw (s 1) s.h
theorem y1xh : T1 y1hu y37 (y5 0 y37 xN) [.t 2] y2im := fun _ => by kernel_rfl
def ydm (a : AV) (h : Heap) : OX :=
ob (evFa 3 a) fun e =>
ob (evLd false 1 e h) fun c =>
ob (y8 .lss c (.int .i64 0)) fun g =>
cnd g
 (ob (evFa 2 a) fun i =>
ob (evLd false 1 i h) fun b =>
oh (y12 0 (some 5) 1 1 [(.int .i64 0)] [(0, b)] h) fun d h2 =>
(yf h2 d))
 ((ydw a h))
def y2lb (s : St) : OX := ydm (s 1) s.h
theorem y23a : T1 y1m5 y37 (y5 0 y37 xN) [.t 2] y2lb := sq y1xh fun _ => by kernel_rfl
def ye4 (a j k : AV) (h : Heap) : OX :=
cnd k
 ((ydm a h))
 (ob (y8 .eql j (.int .i64 30)) fun i =>
cnd i
 (ob (evFa 2 a) fun e =>
ob (evLd false 1 e h) fun l =>
ob (y8 .geq l (.int .i64 0)) fun g =>
cnd g
 (ob (evFa 2 a) fun b =>
ob (evLd false 1 b h) fun d =>
oh (y12 0 (some 7) 1 1 [(.int .i64 0)] [(0, d)] h) fun c h3 =>
(yf h3 c))
 ((yd3 h)))
 ((yd3 h)))
def y2mb (s : St) : OX := ye4 (s 1) (s 4) (s 50) s.h
theorem y231 : T1 y1s1 y37 (y5 0 y37 xN) [.t 2] y2mb := fun s => (y1b (y23a s) rfl).trans (by kernel_rfl)
def ydo (c a : AV) (h : Heap) : OX :=
ob (y8 .eql a (.int .i64 29)) fun b =>
(ye4 c a b h)
def y2lp (s : St) : OX := ydo (s 1) (s 4) s.h
theorem y1zx : T1 y1wi y37 (y5 0 y37 xN) [.t 2] y2lp := sq y231 fun _ => by kernel_rfl
def yar (a g b : AV) (h : Heap) : OX :=
cnd b
 (ob (evFa 8 a) fun c =>
ob (evLd false 1 c h) fun e =>
oh (y9 E (yb E) 0 (some 4) false 39 [e] h) fun d h4 =>
(yf h4 d))
 ((ydo a g h))
def y2kb (s : St) : OX := yar (s 1) (s 4) (s 42) s.h
theorem y22r : T1 y1k9 y37 (y5 0 y37 xN) [.t 2] y2kb := fun s => (y1b rfl (y1zx s)).trans (by kernel_rfl)
def ydt (b a : AV) (h : Heap) : OX :=
ob (y8 .eql a (.int .i64 23)) fun c =>
cnd c
 ((yar b a c h))
 (ob (y8 .eql a (.int .i64 24)) fun e =>
cnd e
 ((yar b a e h))
 (ob (y8 .eql a (.int .i64 25)) fun d =>
cnd d
 ((yar b a d h))
 (ob (y8 .eql a (.int .i64 26)) fun g =>
(yar b a g h))))
def y2li (s : St) : OX := ydt (s 1) (s 4) s.h
theorem y22v : T1 y1ff y37 (y5 0 y37 xN) [.t 2] y2li := sq y22r fun _ => by kernel_rfl
def yeq (a l i : AV) (h : Heap) : OX :=
cnd i
 (ob (evFa 2 a) fun k =>
ob (evLd false 1 k h) fun c =>
ob (evFa 3 a) fun j =>
ob (evLd false 1 j h) fun d =>
ob (evFa 4 a) fun b =>
ob (evLd false 1 b h) fun g =>
oh (y12 0 (some 3) 1 3 [(.int .i64 0)] [(0, c), (1, d), (2, g)] h) fun e h5 =>
(yf h5 e))
 ((ydt a l h))
def y2ip (s : St) : OX := yeq (s 1) (s 4) (s 33) s.h
theorem y1xk : T1 y1kn y37 (y5 0 y37 xN) [.t 2] y2ip := fun s => (y1b rfl (y22v s)).trans (by kernel_rfl)
def ye8 (c a : AV) (h : Heap) : OX :=
ob (y8 .eql a (.int .i64 14)) fun b =>
(yeq c a b h)
def y2mf (s : St) : OX := ye8 (s 1) (s 4) s.h
theorem y1z8 : T1 y1rs y37 (y5 0 y37 xN) [.t 2] y2mf := sq y1xk fun _ => by kernel_rfl
def y4x (a i j : AV) (h : Heap) : OX :=
cnd j
 (ob (evFa 2 a) fun g =>
ob (evLd false 1 g h) fun d =>
ob (evFa 3 a) fun b =>
ob (evLd false 1 b h) fun e =>
oh (y12 0 (some 2) 1 2 [(.int .i64 0)] [(0, d), (1, e)] h) fun c h6 =>
(yf h6 c))
 ((ye8 a i h))
def y28u (s : St) : OX := y4x (s 1) (s 4) (s 21) s.h
theorem y1d8 : T1 yy6 y37 (y5 0 y37 xN) [.t 2] y28u := fun s => (y1b rfl (y1z8 s)).trans (by kernel_rfl)
def y72 (b a : AV) (h : Heap) : OX :=
ob (y8 .eql a (.int .i64 5)) fun g =>
cnd g
 ((y4x b a g h))
 (ob (y8 .eql a (.int .i64 9)) fun i =>
cnd i
 ((y4x b a i h))
 (ob (y8 .eql a (.int .i64 11)) fun d =>
cnd d
 ((y4x b a d h))
 (ob (y8 .eql a (.int .i64 13)) fun e =>
cnd e
 ((y4x b a e h))
 (ob (y8 .eql a (.int .i64 17)) fun c =>
cnd c
 ((y4x b a c h))
 (ob (y8 .eql a (.int .i64 28)) fun j =>
(y4x b a j h))))))
def y2df (s : St) : OX := y72 (s 1) (s 4) s.h
theorem y1e1 : T1 y18c y37 (y5 0 y37 xN) [.t 2] y2df := sq y1d8 fun _ => by kernel_rfl
def y3h (a g d : AV) (h : Heap) : OX :=
cnd d
 (ob (evFa 2 a) fun c =>
ob (evLd false 1 c h) fun b =>
oh (y12 0 (some 1) 1 1 [(.int .i64 0)] [(0, b)] h) fun e h7 =>
(yf h7 e))
 ((y72 a g h))
def y2fi (s : St) : OX := y3h (s 1) (s 4) (s 5) s.h
theorem y1gn : T1 y14g y37 (y5 0 y37 xN) [.t 2] y2fi := fun s => (y1b rfl (y1e1 s)).trans (by kernel_rfl)
def y70 (b a : AV) (h : Heap) : OX :=
ob (y8 .eql a (.int .i64 4)) fun c =>
cnd c
 ((y3h b a c h))
 (ob (y8 .eql a (.int .i64 6)) fun d =>
cnd d
 ((y3h b a d h))
 (ob (y8 .eql a (.int .i64 7)) fun e =>
cnd e
 ((y3h b a e h))
 (ob (y8 .eql a (.int .i64 8)) fun k =>
cnd k
 ((y3h b a k h))
 (ob (y8 .eql a (.int .i64 10)) fun l =>
cnd l
 ((y3h b a l h))
 (ob (y8 .eql a (.int .i64 12)) fun g =>
cnd g
 ((y3h b a g h))
 (ob (y8 .eql a (.int .i64 15)) fun m =>
cnd m
 ((y3h b a m h))
 (ob (y8 .eql a (.int .i64 16)) fun j =>
cnd j
 ((y3h b a j h))
 (ob (y8 .eql a (.int .i64 19)) fun o =>
cnd o
 ((y3h b a o h))
 (ob (y8 .eql a (.int .i64 21)) fun n =>
cnd n
 ((y3h b a n h))
 (ob (y8 .eql a (.int .i64 22)) fun i =>
cnd i
 ((y3h b a i h))
 (ob (y8 .eql a (.int .i64 31)) fun p =>
(y3h b a p h))))))))))))
def y1fp (s : St) : OX := y70 (s 1) (s 4) s.h
theorem y1f3 : T1 yyg y37 (y5 0 y37 xN) [.t 2] y1fp := sq y1gn fun _ => by kernel_rfl
theorem y1pk : T1 y12p y37 xN [.t 2] y1fp := fun s => yy.trans (y1f3 s)
def y6z (a : AV) (h : Heap) : OX :=
ob (evFa 0 a) fun b =>
ob (evLd false 1 b h) fun c =>
(y70 a c h)
def y1ih (s : St) : OX := y6z (s 1) s.h
theorem y1sc : T1 yy1 y37 xN [.t 2] y1ih := sq y1pk fun _ => by kernel_rfl
theorem y1gv : T0 y15e [.t 2] y1ih := sq y21p y1sc
def y74 (a : AV) (h : Heap) : OX :=
oh (newC 0 (some 0) (cellsOf a) h) fun b h8 =>
(y6z b h8)
def y2ex (s : St) : OX := y74 (s 0) s.h
theorem y1fk : T0 y18g [.t 2] y2ex := sq y1gv fun _ => by kernel_rfl
@[simp] theorem y2pv : E.pure 10 = true := rfl
theorem yuy (a : AV) : (yb E).p 10 [a] = y74 a [⟨0, .dead⟩, ⟨0, .dead⟩, ⟨0, .dead⟩, ⟨0, .dead⟩, ⟨0, .dead⟩, ⟨0, .dead⟩, ⟨0, .dead⟩, ⟨0, .dead⟩] :=
  (y15 (cf := y2k0) (by kernel_rfl) rfl).trans ((y1fk _).trans (by kernel_rfl))
def y1jf (h : Heap) : OX :=
(yf h (.int .i64 (-1)))
def y2hl (s : St) : OX := y1jf s.h
theorem y1zf : T0 y1lx [.t 2] y2hl := fun _ => by kernel_rfl
def y1lh (a : AV) (h : Heap) : OX :=
ob (evLd true 9 a h) fun d =>
oh (y9 E (yb E) 0 none true 17 [d] h) fun e h1 =>
cnd e
 (ob (evFa 1 a) fun b =>
ob (evLd false 1 b h1) fun c =>
(yf h1 c))
 ((y1jf h1))
def yk4 (s : St) : OX := y1lh (s 1) s.h
theorem y23q : T0 y1r9 [.t 2] yk4 := sq y1zf fun _ => by kernel_rfl
def ya9 (a b : AV) (h : Heap) : OX :=
cnd b
 (ob (evFa 1 a) fun c =>
ob (evLd false 1 c h) fun d =>
(yf h d))
 ((y1lh a h))
def y2lx (s : St) : OX := ya9 (s 1) (s 5) s.h
theorem y20q : T1 y1o6 yk4 (y5 0 yk4 xN) [.t 2] y2lx := fun _ => by kernel_rfl
def y1uh (a b : AV) (h : Heap) : OX :=
ob (y8 .eql b (.int .i64 1)) fun c =>
cnd c
 ((ya9 a c h))
 (ob (y8 .eql b (.int .i64 2)) fun d =>
cnd d
 ((ya9 a d h))
 (ob (y8 .eql b (.int .i64 3)) fun e =>
cnd e
 ((ya9 a e h))
 (ob (y8 .eql b (.int .i64 4)) fun k =>
cnd k
 ((ya9 a k h))
 (ob (y8 .eql b (.int .i64 5)) fun l =>
cnd l
 ((ya9 a l h))
 (ob (y8 .eql b (.int .i64 6)) fun g =>
cnd g
 ((ya9 a g h))
 (ob (y8 .eql b (.int .i64 13)) fun n =>
cnd n
 ((ya9 a n h))
 (ob (y8 .eql b (.int .i64 15)) fun j =>
cnd j
 ((ya9 a j h))
 (ob (y8 .eql b (.int .i64 16)) fun r =>
cnd r
 ((ya9 a r h))
 (ob (y8 .eql b (.int .i64 18)) fun o =>
cnd o
 ((ya9 a o h))
 (ob (y8 .eql b (.int .i64 20)) fun i =>
cnd i
 ((ya9 a i h))
 (ob (y8 .eql b (.int .i64 21)) fun p =>
cnd p
 ((ya9 a p h))
 (ob (y8 .eql b (.int .i64 22)) fun m =>
cnd m
 ((ya9 a m h))
 (ob (y8 .eql b (.int .i64 32)) fun t =>
(ya9 a t h))))))))))))))
def y27d (s : St) : OX := y1uh (s 1) (s 4) s.h
theorem y24p : T1 y1ks yk4 (y5 0 yk4 xN) [.t 2] y27d := sq y20q fun _ => by kernel_rfl
theorem y251 : T1 y1nl yk4 xN [.t 2] y27d := fun s => yy.trans (y24p s)
def y1ei (a : AV) (h : Heap) : OX :=
ob (evFa 0 a) fun b =>
ob (evLd false 1 b h) fun c =>
(y1uh a c h)
def y25x (s : St) : OX := y1ei (s 1) s.h
theorem y1yg : T1 y1hd yk4 xN [.t 2] y25x := sq y251 fun _ => by kernel_rfl
theorem y1ye : T0 y1nz [.t 2] y25x := sq y23q y1yg
def y1r2 (a : AV) (h : Heap) : OX :=
oh (newC 0 (some 0) (cellsOf a) h) fun b h2 =>
(y1ei b h2)
def y2hx (s : St) : OX := y1r2 (s 0) s.h
theorem y23h : T0 y1q5 [.t 2] y2hx := sq y1ye fun _ => by kernel_rfl
@[simp] theorem y2rm : E.pure 9 = true := rfl
theorem y2o0 (a : AV) : (yb E).p 9 [a] = y1r2 a [⟨0, .dead⟩] :=
  (y15 (cf := y2j1) (by kernel_rfl) rfl).trans ((y23h _).trans (by kernel_rfl))
def y17f (a : AV) (h : Heap) : OX :=
oh (y12 0 (some 0) 1 0 [(.int .i64 0)] [] h) fun c h1 =>
oh (y41 0 (some 1) 1 8 c a h1) fun b h2 =>
(yf h2 b)
def y28r (s : St) : OX := y17f (s 0) s.h
theorem y1kw : T0 yyd [.t 2] y28r := fun _ => by kernel_rfl
def yx1 (a : AV) (h : Heap) : OX :=
ob (y4s 1 false a AV.nils) fun b =>
cnd b
 ((yf h AV.nils))
 ((y17f a h))
def y29g (s : St) : OX := yx1 (s 0) s.h
theorem y1h6 : T0 y174 [.t 2] y29g := sq y1kw fun _ => by kernel_rfl
def y11j (a : AV) (h : Heap) : OX :=
(yx1 a h)
def y2e8 (s : St) : OX := y11j (s 0) s.h
theorem y1qr : T0 y15j [.t 2] y2e8 := sq y1h6 fun _ => by kernel_rfl
@[simp] theorem y2nt : E.pure 39 = true := rfl
theorem y2lf (a : AV) : (yb E).p 39 [a] = y11j a [⟨0, .dead⟩, ⟨0, .dead⟩] :=
  (y15 (cf := y26q) (by kernel_rfl) rfl).trans ((y1qr _).trans (by kernel_rfl))
def y16b (a : AV) (h : Heap) : OX :=
oh (y12 0 (some 0) 9 0 [(.int .i64 0), (.int .i64 0), (.int .i64 0), (.int .i64 0), (.int .i64 0), (.int .i64 0), (.int .i64 0), (.str []), .nils] [] h) fun c h1 =>
oh (y41 0 (some 1) 9 96 c a h1) fun b h2 =>
(yf h2 b)
def y2e2 (s : St) : OX := y16b (s 0) s.h
theorem y1sz : T0 y17z [.t 2] y2e2 := fun _ => by kernel_rfl
def y144 (a : AV) (h : Heap) : OX :=
ob (y4s 1 false a AV.nils) fun b =>
cnd b
 ((yf h AV.nils))
 ((y16b a h))
def y2a9 (s : St) : OX := y144 (s 0) s.h
theorem y1ur : T0 y14j [.t 2] y2a9 := sq y1sz fun _ => by kernel_rfl
def y18a (a : AV) (h : Heap) : OX :=
(y144 a h)
def y2bs (s : St) : OX := y18a (s 0) s.h
theorem y1j4 : T0 y17s [.t 2] y2bs := sq y1ur fun _ => by kernel_rfl
@[simp] theorem y2od : E.pure 40 = true := rfl
theorem y2gr (a : AV) : (yb E).p 40 [a] = y18a a [⟨0, .dead⟩, ⟨0, .dead⟩] :=
  (y15 (cf := y27p) (by kernel_rfl) rfl).trans ((y1j4 _).trans (by kernel_rfl))
def y18f (a : AV) (h : Heap) : OX :=
oh (y12 0 (some 0) 4 0 [(.int .i64 0), (.int .i64 0), (.int .i64 0), (.str [])] [] h) fun c h1 =>
oh (y41 0 (some 1) 4 40 c a h1) fun b h2 =>
(yf h2 b)
def y2cx (s : St) : OX := y18f (s 0) s.h
theorem y1fr : T0 y17h [.t 2] y2cx := fun _ => by kernel_rfl
def y13q (a : AV) (h : Heap) : OX :=
ob (y4s 1 false a AV.nils) fun b =>
cnd b
 ((yf h AV.nils))
 ((y18f a h))
def y2b0 (s : St) : OX := y13q (s 0) s.h
theorem y1so : T0 yyo [.t 2] y2b0 := sq y1fr fun _ => by kernel_rfl
def yzf (a : AV) (h : Heap) : OX :=
(y13q a h)
def y29w (s : St) : OX := yzf (s 0) s.h
theorem y1d0 : T0 yy9 [.t 2] y29w := sq y1so fun _ => by kernel_rfl
@[simp] theorem y2qv : E.pure 41 = true := rfl
theorem y2k3 (a : AV) : (yb E).p 41 [a] = yzf a [⟨0, .dead⟩, ⟨0, .dead⟩] :=
  (y15 (cf := y26o) (by kernel_rfl) rfl).trans ((y1d0 _).trans (by kernel_rfl))
def ykq (h : Heap) : OX :=
(yf h (.bool true))
def y7c (s : St) : OX := ykq s.h
theorem y1uy : T0 y16y [.t 4] y7c := fun _ => by kernel_rfl
def yg6 (b c a : AV) (h : Heap) : OX :=
  W E 0 yjk ⟨[(0, b), (1, c), (5, a)], h⟩ y7c (y5 0 y7c xN) (finP [.t 4])
def yc5 (s : St) : OX := yg6 (s 0) (s 1) (s 5) s.h
theorem ymb : T1 yjk y7c (y5 0 y7c xN) [.t 4] yc5 := fun s => yj.trans (by kernel_rfl)
def yk6 (b d a : AV) (h : Heap) : OX :=
ob (y8 .add a (.int .i64 1)) fun c =>
(yg6 b d c h)
def y2f6 (s : St) : OX := yk6 (s 0) (s 1) (s 5) s.h
theorem y1ln : T1 yz0 yc5 (y5 0 y7c xN) [.t 4] y2f6 := fun _ => by kernel_rfl
def yjy (b c a : AV) (h : Heap) : OX :=
ob (yw 1 b a) fun d =>
ob (evLd false 1 d h) fun j =>
ob (yw 1 c a) fun i =>
ob (evLd false 1 i h) fun e =>
ob (y8 .neq j e) fun g =>
cnd g
 ((yf h (.bool false)))
 ((yk6 b c a h))
def y2dz (s : St) : OX := yjy (s 0) (s 1) (s 5) s.h
theorem y1v4 : T1 y12z yc5 (y5 0 y7c xN) [.t 4] y2dz := sq y1ln fun _ => by kernel_rfl
def yid (a c b : AV) (h : Heap) : OX :=
ob (y11 1 a h) fun d =>
ob (y8 .lss b d) fun e =>
cnd e
 ((yjy a c b h))
 ((ykq h))
def y2cb (s : St) : OX := yid (s 0) (s 1) (s 5) s.h
theorem y1d1 : T1 y12e yc5 (y5 0 y7c xN) [.t 4] y2cb := sq y1v4 fun _ => by kernel_rfl
theorem ylz (b c a : AV) (h : Heap) : yg6 b c a h = (yid b c a h) :=
  y28.trans ((y1c _ _ _ (n' := yc5) (fun s => ymb s)).trans ((y1d1 _).trans (by kernel_rfl)))
theorem y1u6 : T1 y16m y7c xN [.t 4] yc5 := fun s => yy.trans (ymb s)
def yiv (a b : AV) (h : Heap) : OX :=
(yg6 a b (.int .i64 0) h)
def y1e7 (s : St) : OX := yiv (s 0) (s 1) s.h
theorem y1ov : T1 y0m y7c xN [.t 4] y1e7 := sq y1u6 fun _ => by kernel_rfl
theorem y1di : T0 yzd [.t 4] y1e7 := sq y1uy y1ov
def ykj (a b : AV) (h : Heap) : OX :=
ob (y11 1 a h) fun c =>
ob (y11 1 b h) fun d =>
ob (y8 .neq c d) fun e =>
cnd e
 ((yf h (.bool false)))
 ((yiv a b h))
def y2g0 (s : St) : OX := ykj (s 0) (s 1) s.h
theorem y1nc : T0 y0v [.t 4] y2g0 := sq y1di fun _ => by kernel_rfl
def ycw (a b : AV) (h : Heap) : OX :=
(ykj a b h)
def y229 (s : St) : OX := ycw (s 0) (s 1) s.h
theorem y18s : T0 yrg [.t 4] y229 := sq y1nc fun _ => by kernel_rfl
@[simp] theorem y2ou : E.pure 11 = true := rfl
theorem y2m3 (a b : AV) : (yb E).p 11 [a, b] = ycw a b [] :=
  (y15 (cf := y268) (by kernel_rfl) rfl).trans ((y18s _).trans (by kernel_rfl))
def yb9 (z U : AV) (h : Heap) : OX :=
oh (newC 0 (some 0) (cellsOf z) h) fun b h1 =>
oh (newC 0 (some 1) (cellsOf U) h1) fun a h2 =>
ob (evFa 0 b) fun I =>
ob (evLd false 1 I h2) fun m =>
ob (evFa 0 a) fun a2 =>
ob (evLd false 1 a2 h2) fun B =>
ob (y8 .eql m B) fun d =>
gb d true (evFa 1 b) fun p =>
gb d true (evLd false 1 p h2) fun v =>
gb d true (evFa 1 a) fun D =>
gb d true (evLd false 1 D h2) fun K =>
gb d true (y8 .eql v K) fun H =>
ob (yd d H (.bool false)) fun c =>
gb c true (evFa 2 b) fun b0 =>
gb c true (evLd false 1 b0 h2) fun u =>
gb c true (evFa 2 a) fun Y =>
gb c true (evLd false 1 Y h2) fun a0 =>
gb c true (y8 .eql u a0) fun b1 =>
ob (yd c b1 (.bool false)) fun k =>
gb k true (evFa 3 b) fun a9 =>
gb k true (evLd false 1 a9 h2) fun a3 =>
gb k true (evFa 3 a) fun P =>
gb k true (evLd false 1 P h2) fun w =>
gb k true (y8 .eql a3 w) fun L =>
ob (yd k L (.bool false)) fun i =>
gb i true (evFa 4 b) fun S =>
gb i true (evLd false 1 S h2) fun a8 =>
gb i true (evFa 4 a) fun x =>
gb i true (evLd false 1 x h2) fun r =>
gb i true (y8 .eql a8 r) fun Q =>
ob (yd i Q (.bool false)) fun j =>
gb j true (evFa 5 b) fun o =>
gb j true (evLd false 1 o h2) fun a6 =>
gb j true (evFa 5 a) fun C =>
gb j true (evLd false 1 C h2) fun O =>
gb j true (y8 .eql a6 O) fun y =>
ob (yd j y (.bool false)) fun l =>
gb l true (evFa 6 b) fun M =>
gb l true (evLd false 1 M h2) fun a5 =>
gb l true (evFa 6 a) fun Z =>
gb l true (evLd false 1 Z h2) fun a7 =>
gb l true (y8 .eql a5 a7) fun N =>
ob (yd l N (.bool false)) fun e =>
gb e true (evFa 7 b) fun t =>
gb e true (evLd false 1 t h2) fun J =>
gb e true (evFa 7 a) fun a1 =>
gb e true (evLd false 1 a1 h2) fun A =>
gb e true (y8 .eql J A) fun F =>
ob (yd e F (.bool false)) fun g =>
gb g true (evFa 8 b) fun a4 =>
gb g true (evLd false 1 a4 h2) fun G =>
gb g true (evFa 8 a) fun n =>
gb g true (evLd false 1 n h2) fun R =>
gh g true (y9 E (yb E) 0 none true 11 [G, R] h2) h2 fun X h3 =>
ob (yd g X (.bool false)) fun V =>
(yf h3 V)
def y2g6 (s : St) : OX := yb9 (s 0) (s 1) s.h
theorem y1p4 : T0 y14d [.t 4] y2g6 := fun _ => by kernel_rfl
@[simp] theorem y2oh : E.pure 28 = true := rfl
theorem y2k5 (a b : AV) : (yb E).p 28 [a, b] = yb9 a b [⟨0, .dead⟩, ⟨0, .dead⟩] :=
  (y15 (cf := y25p) (by kernel_rfl) rfl).trans ((y1p4 _).trans (by kernel_rfl))
def y2b9 (d : AV) (h : Heap) : OX :=
oh (newC 0 (some 0) (cellsOf d) h) fun c h1 =>
ob (evFa 0 c) fun k =>
ob (evLd false 1 k h1) fun o =>
ob (y8 .eql o (.int .i64 27)) fun b =>
gb b false (evFa 0 c) fun e =>
gb b false (evLd false 1 e h1) fun g =>
gb b false (y8 .eql g (.int .i64 30)) fun j =>
ob (yd b (.bool true) j) fun a =>
gb a false (evFa 0 c) fun l =>
gb a false (evLd false 1 l h1) fun i =>
gb a false (y8 .eql i (.int .i64 31)) fun n =>
ob (yd a (.bool true) n) fun m =>
(yf h1 m)
def y2j3 (s : St) : OX := y2b9 (s 0) s.h
theorem y21v : T0 y1jz [.t 2] y2j3 := fun _ => by kernel_rfl
@[simp] theorem y2ps : E.pure 24 = true := rfl
theorem y2pi (a : AV) : (yb E).p 24 [a] = y2b9 a [⟨0, .dead⟩] :=
  (y15 (cf := y2ki) (by kernel_rfl) rfl).trans ((y21v _).trans (by kernel_rfl))
def yx3 (b d : AV) (h : Heap) : OX :=
oh (y9 E (yb E) 0 none true 45 [b, d] h) fun c h1 =>
ob (y8 .geq c (.int .i64 0)) fun a =>
(yf h1 a)
def y287 (s : St) : OX := yx3 (s 0) (s 1) s.h
theorem y1fl : T0 y11e [.t 4] y287 := fun _ => by kernel_rfl
@[simp] theorem y2oo : E.pure 46 = true := rfl
theorem y2iy (a b : AV) : (yb E).p 46 [a, b] = yx3 a b [] :=
  (y15 (cf := y26x) (by kernel_rfl) rfl).trans ((y1fl _).trans (by kernel_rfl))
def y1wl (o c : AV) (h : Heap) : OX :=
ob (evLd true 9 c h) fun p =>
oh (y9 E (yb E) 0 none true 22 [p] h) fun k h1 =>
ob (evUn .not k) fun b =>
gb b false (evFa 6 c) fun t =>
gb b false (evLd false 1 t h1) fun r =>
gb b false (y8 .geq r (.int .i64 0)) fun l =>
gb b false (some l) fun a =>
gb a true (evFa 6 c) fun m =>
gb a true (evLd false 1 m h1) fun u =>
gb a true (evFa 3 o) fun e =>
gb a true (evLd false 1 e h1) fun d =>
gb a true (y11 1 d h1) fun g =>
gb a true (y8 .lss u g) fun i =>
gb b false (yd a i (.bool false)) fun j =>
ob (yd b (.bool true) j) fun n =>
(yf h1 n)
def y2jd (s : St) : OX := y1wl (s 2) (s 3) s.h
theorem y1z3 : T0 y1qu [.t 4] y2jd := fun _ => by kernel_rfl
def yab (d a : AV) (h : Heap) : OX :=
ob (evFa 0 a) fun x =>
ob (evLd false 1 x h) fun i =>
ob (y8 .eql i (.int .i64 1)) fun b7 =>
cnd b7
 (ob (evFa 0 d) fun c1 =>
ob (evLd false 1 c1 h) fun a4 =>
ob (evFa 1 a) fun l =>
ob (evLd false 1 l h) fun k =>
ob (yw 1 a4 k) fun b1 =>
ob (evLd false 1 b1 h) fun a9 =>
ob (y8 .neq a9 (.int .i64 3)) fun c =>
gb c true (evFa 0 d) fun X =>
gb c true (evLd false 1 X h) fun j =>
gb c true (evFa 1 a) fun b9 =>
gb c true (evLd false 1 b9 h) fun c8 =>
gb c true (yw 1 j c8) fun b5 =>
gb c true (evLd false 1 b5 h) fun Y =>
gb c true (y8 .eql Y (.int .i64 2)) fun c5 =>
gb c true (some c5) fun e =>
gb e false (evFa 5 a) fun z =>
gb e false (evLd false 1 z h) fun Q =>
gb e false (evFa 5 a) fun v =>
gb e false (evLd false 1 v h) fun c0 =>
gb e false (y191 .i32 c0) fun p =>
gb e false (y191 .i64 p) fun a6 =>
gb e false (y8 .eql Q a6) fun a5 =>
gb c true (yd e (.bool true) a5) fun a3 =>
ob (yd c a3 (.bool false)) fun B =>
(yf h B))
 (ob (y8 .eql i (.int .i64 4)) fun t =>
cnd t
 (ob (evFa 0 d) fun K =>
ob (evLd false 1 K h) fun b2 =>
ob (evFa 1 a) fun u =>
ob (evLd false 1 u h) fun o =>
ob (yw 1 b2 o) fun y =>
ob (evLd false 1 y h) fun U =>
ob (evFa 0 d) fun a7 =>
ob (evLd false 1 a7 h) fun J =>
ob (evFa 2 a) fun b8 =>
ob (evLd false 1 b8 h) fun C =>
ob (yw 1 J C) fun O =>
ob (evLd false 1 O h) fun Z =>
ob (y8 .eql U Z) fun P =>
(yf h P))
 (ob (y8 .eql i (.int .i64 7)) fun a1 =>
cnd a1
 (ob (evFa 0 d) fun a8 =>
ob (evLd false 1 a8 h) fun V =>
ob (evFa 2 a) fun a0 =>
ob (evLd false 1 a0 h) fun a2 =>
ob (yw 1 V a2) fun c6 =>
ob (evLd false 1 c6 h) fun D =>
ob (y8 .neq D (.int .i64 3)) fun b3 =>
(yf h b3))
 (ob (y8 .eql i (.int .i64 30)) fun c7 =>
cnd c7
 (ob (evFa 2 a) fun F =>
ob (evLd false 1 F h) fun R =>
ob (y8 .eql R (.int .i64 (-1))) fun c2 =>
ob (evFa 2 d) fun w =>
ob (evLd false 1 w h) fun b6 =>
ob (y8 .eql b6 (.int .i64 0)) fun n =>
ob (y242 false c2 n) fun g =>
gb g true (evFa 2 a) fun M =>
gb g true (evLd false 1 M h) fun A =>
gb g true (y8 .eql A (.int .i64 (-1))) fun c3 =>
gb g true (some c3) fun b =>
gb b false (evFa 0 d) fun b0 =>
gb b false (evLd false 1 b0 h) fun H =>
gb b false (evFa 2 a) fun S =>
gb b false (evLd false 1 S h) fun I =>
gb b false (yw 1 H I) fun N =>
gb b false (evLd false 1 N h) fun L =>
gb b false (evFa 2 d) fun b4 =>
gb b false (evLd false 1 b4 h) fun m =>
gb b false (y8 .eql L m) fun c4 =>
gb g true (yd b (.bool true) c4) fun r =>
ob (yd g r (.bool false)) fun G =>
(yf h G))
 ((y1wl d a h)))))
def y69 (s : St) : OX := yab (s 2) (s 3) s.h
theorem y20j : T0 y1j6 [.t 4] y69 := sq y1z3 fun _ => by kernel_rfl
def yjh (b c a e d : AV) (h : Heap) : OX :=
  W E 0 yp8 ⟨[(2, b), (3, c), (63, a), (64, e), (65, d)], h⟩ y69 (y5 2 y69 xN) (finP [.t 4])
def ycy (s : St) : OX := yjh (s 2) (s 3) (s 63) (s 64) (s 65) s.h
theorem ytf : T1 yp8 y69 (y5 2 y69 xN) [.t 4] ycy := fun s => yj.trans (by kernel_rfl)
def y1wm (c d b g e : AV) (h : Heap) : OX :=
ob (y8 .add e (.int .i64 1)) fun a =>
(yjh c d b g a h)
def ygb (s : St) : OX := y1wm (s 2) (s 3) (s 63) (s 64) (s 65) s.h
theorem y233 : T1 y1mu ycy (y5 2 y69 xN) [.t 4] ygb := fun _ => by kernel_rfl
def yho (j g l i y G F : AV) (h : Heap) : OX :=
ob (y8 .lss i (.int .i64 0)) fun d =>
gb d false (some i) fun u =>
gb d false (evFa 0 j) fun p =>
gb d false (evLd false 1 p h) fun M =>
gb d false (y11 1 M h) fun r =>
gb d false (y8 .geq u r) fun v =>
ob (yd d (.bool true) v) fun b =>
gb b false (some l) fun D =>
gb b false (y8 .eql D (.int .i64 0)) fun A =>
gb b false (some A) fun c =>
gb c true (evFa 0 g) fun o =>
gb c true (evLd false 1 o h) fun x =>
gb c true (y8 .eql x (.int .i64 24)) fun n =>
gb c true (some n) fun e =>
gb e false (evFa 0 g) fun w =>
gb e false (evLd false 1 w h) fun B =>
gb e false (y8 .eql B (.int .i64 25)) fun J =>
gb c true (yd e (.bool true) J) fun z =>
gb b false (yd c z (.bool false)) fun N =>
gb b false (some N) fun a =>
gb a true (evFa 0 j) fun H =>
gb a true (evLd false 1 H h) fun C =>
gb a true (some i) fun K =>
gb a true (yw 1 C K) fun I =>
gb a true (evLd false 1 I h) fun m =>
gb a true (y8 .neq m (.int .i64 3)) fun k =>
gb b false (yd a k (.bool false)) fun t =>
ob (yd b (.bool true) t) fun L =>
cnd L
 ((yf h (.bool false)))
 ((y1wm j g y G F h))
def y2ho (s : St) : OX := yho (s 2) (s 3) (s 9) (s 10) (s 63) (s 64) (s 65) s.h
theorem y1y1 : T1 y1qb ygb (y5 3 ygb (y5 2 y69 xN)) [.t 4] y2ho := fun _ => by kernel_rfl
def y1hg (b a g i d k j : AV) (h : Heap) : OX :=
ob (evLd true 9 a h) fun c =>
oh (y9 E (yb E) 0 none true 17 [c] h) fun l h2 =>
ob (evUn .not l) fun e =>
cnd e
 ((yab b a h2))
 ((yho b a g i d k j h2))
def y2lz (s : St) : OX := y1hg (s 2) (s 3) (s 9) (s 10) (s 63) (s 64) (s 65) s.h
theorem y1xv : T1 y1ex ygb (y5 3 ygb (y5 2 y69 xN)) [.t 4] y2lz := sq y1y1 fun _ => by kernel_rfl
def y1k1 (d g b i a : AV) (h : Heap) : OX :=
ob (yw 1 b a) fun c =>
ob (evLd false 1 c h) fun e =>
(y1hg d g a e b i a h)
def y1oc (s : St) : OX := y1k1 (s 2) (s 3) (s 63) (s 64) (s 65) s.h
theorem y22s : T1 y1m7 ygb (y5 3 ygb (y5 2 y69 xN)) [.t 4] y1oc := sq y1xv fun _ => by kernel_rfl
theorem y20f : T1 y1gx ygb (y5 2 y69 xN) [.t 4] y1oc := fun s => yy.trans (y22s s)
theorem y21n : T1 y1p9 ycy (y5 2 y69 xN) [.t 4] y1oc := sq y233 y20f
def yl1 (a b c e d g : AV) (h : Heap) : OX :=
cnd g
 ((y1k1 a b c e d h))
 ((yab a b h))
def y2eg (s : St) : OX := yl1 (s 2) (s 3) (s 63) (s 64) (s 65) (s 66) s.h
theorem y1se : T1 y140 ycy (y5 2 y69 xN) [.t 4] y2eg := sq y21n fun _ => by kernel_rfl
def yj5 (d e c b a : AV) (h : Heap) : OX :=
ob (y8 .lss a b) fun g =>
(yl1 d e c b a g h)
def y285 (s : St) : OX := yj5 (s 2) (s 3) (s 63) (s 64) (s 65) s.h
theorem y1tf : T1 y120 ycy (y5 2 y69 xN) [.t 4] y285 := sq y1se fun _ => by kernel_rfl
theorem yix (b c a e d : AV) (h : Heap) : yjh b c a e d h = (yj5 b c a e d h) :=
  y28.trans ((y1c _ _ _ (n' := ycy) (fun s => ytf s)).trans ((y1tf _).trans (by kernel_rfl)))
theorem y1i5 : T1 y168 y69 xN [.t 4] ycy := fun s => yy.trans (ytf s)
def ytg (d b : AV) (h : Heap) : OX :=
ob (evFa 8 b) fun c =>
ob (evLd false 1 c h) fun a =>
ob (y11 1 a h) fun e =>
(yjh d b a e (.int .i64 0) h)
def y40 (s : St) : OX := ytg (s 2) (s 3) s.h
theorem y1d7 : T1 yyt y69 xN [.t 4] y40 := sq y1i5 fun _ => by kernel_rfl
theorem y1lu : T0 yzu [.t 4] y40 := sq y20j y1d7
def yd0 (c d e b a : AV) (h : Heap) : OX :=
  W E 0 yj2 ⟨[(2, c), (3, d), (5, e), (26, b), (27, a)], h⟩ y40 (y5 0 y40 xN) (finP [.t 4])
def y8b (s : St) : OX := yd0 (s 2) (s 3) (s 5) (s 26) (s 27) s.h
theorem yn0 : T1 yj2 y40 (y5 0 y40 xN) [.t 4] y8b := fun s => yj.trans (by kernel_rfl)
def yra (c d g b a : AV) (h : Heap) : OX :=
ob (y8 .add a (.int .i64 1)) fun e =>
(yd0 c d g b e h)
def yb0 (s : St) : OX := yra (s 2) (s 3) (s 5) (s 26) (s 27) s.h
theorem y1w4 : T1 y178 y8b (y5 0 y40 xN) [.t 4] yb0 := fun _ => by kernel_rfl
def yhx (g x e i d F v : AV) (h : Heap) : OX :=
ob (y8 .lss d (.int .i64 0)) fun c =>
gb c false (some d) fun w =>
gb c false (evFa 0 g) fun j =>
gb c false (evLd false 1 j h) fun I =>
gb c false (y11 1 I h) fun n =>
gb c false (y8 .geq w n) fun u =>
ob (yd c (.bool true) u) fun b =>
gb b false (some i) fun y =>
gb b false (yog 4 1 e y) fun r =>
gb b false (evLd false 1 r h) fun H =>
gb b false (y8 .gtr H (.int .i64 0)) fun C =>
gb b false (some C) fun a =>
gb a true (evFa 0 g) fun t =>
gb a true (evLd false 1 t h) fun l =>
gb a true (some d) fun z =>
gb a true (yw 1 l z) fun k =>
gb a true (evLd false 1 k h) fun p =>
gb a true (some i) fun D =>
gb a true (yog 4 1 e D) fun m =>
gb a true (evLd false 1 m h) fun o =>
gb a true (y8 .neq p o) fun A =>
gb b false (yd a A (.bool false)) fun B =>
ob (yd b (.bool true) B) fun G =>
cnd G
 ((yf h (.bool false)))
 ((yra g x e F v h))
def y2dt (s : St) : OX := yhx (s 2) (s 3) (s 5) (s 7) (s 8) (s 26) (s 27) s.h
theorem y1my : T1 y177 yb0 (y5 1 yb0 (y5 0 y40 xN)) [.t 4] y2dt := fun _ => by kernel_rfl
def yec (e g a b j c d : AV) (h : Heap) : OX :=
ob (yog 4 1 a b) fun i =>
ob (evLd false 1 i h) fun k =>
ob (y8 .lss k (.int .i64 0)) fun l =>
cnd l
 ((yra e g a c d h))
 ((yhx e g a b j c d h))
def y2bf (s : St) : OX := yec (s 2) (s 3) (s 5) (s 7) (s 8) (s 26) (s 27) s.h
theorem y1fh : T1 y165 yb0 (y5 1 yb0 (y5 0 y40 xN)) [.t 4] y2bf := sq y1my fun _ => by kernel_rfl
def y1jg (d e g b a : AV) (h : Heap) : OX :=
ob (yor false 4 1 b a) fun c =>
(yec d e g a c b a h)
def yvk (s : St) : OX := y1jg (s 2) (s 3) (s 5) (s 26) (s 27) s.h
theorem y1kz : T1 y0h yb0 (y5 1 yb0 (y5 0 y40 xN)) [.t 4] yvk := sq y1fh fun _ => by kernel_rfl
theorem y1nk : T1 yzk yb0 (y5 0 y40 xN) [.t 4] yvk := fun s => yy.trans (y1kz s)
theorem y1rl : T1 y0d y8b (y5 0 y40 xN) [.t 4] yvk := sq y1w4 y1nk
def y153 (a b e d c g : AV) (h : Heap) : OX :=
cnd g
 ((y1jg a b e d c h))
 ((ytg a b h))
def y2cs (s : St) : OX := y153 (s 2) (s 3) (s 5) (s 26) (s 27) (s 28) s.h
theorem y1lm : T1 y15k y8b (y5 0 y40 xN) [.t 4] y2cs := sq y1rl fun _ => by kernel_rfl
def yy7 (c d e b a : AV) (h : Heap) : OX :=
ob (y8 .lss a (.int .i64 4)) fun g =>
(y153 c d e b a g h)
def y2ez (s : St) : OX := yy7 (s 2) (s 3) (s 5) (s 26) (s 27) s.h
theorem y1ox : T1 y13x y8b (y5 0 y40 xN) [.t 4] y2ez := sq y1lm fun _ => by kernel_rfl
theorem ynn (c d e b a : AV) (h : Heap) : yd0 c d e b a h = (yy7 c d e b a h) :=
  y28.trans ((y1c _ _ _ (n' := y8b) (fun s => yn0 s)).trans ((y1ox _).trans (by kernel_rfl)))
theorem y1jw : T1 yzt y40 xN [.t 4] y8b := fun s => yy.trans (yn0 s)
def y1kr (d a k : AV) (h : Heap) : OX :=
ob (evFa 1 a) fun i =>
ob (evLd false 1 i h) fun e =>
ob (evFa 2 a) fun m =>
ob (evLd false 1 m h) fun n =>
ob (evFa 3 a) fun c =>
ob (evLd false 1 c h) fun l =>
ob (evFa 4 a) fun g =>
ob (evLd false 1 g h) fun j =>
ob (y10 [(.int .i64 0), (.int .i64 0), (.int .i64 0), (.int .i64 0)] [(0, 1, e), (1, 1, n), (2, 1, l), (3, 1, j)]) fun b =>
(yd0 d a k b (.int .i64 0) h)
def y1hp (s : St) : OX := y1kr (s 2) (s 3) (s 5) s.h
theorem y1r0 : T1 yyy y40 xN [.t 4] y1hp := sq y1jw fun _ => by kernel_rfl
theorem y1j9 : T0 y16x [.t 4] y1hp := sq y1lu y1r0
def yx2 (b c e a : AV) (h : Heap) : OX :=
ob (evUn .not a) fun d =>
cnd d
 ((yf h (.bool false)))
 ((y1kr b c e h))
def y2fq (s : St) : OX := yx2 (s 2) (s 3) (s 5) (s 6) s.h
theorem y1ke : T0 y0t [.t 4] y2fq := sq y1j9 fun _ => by kernel_rfl
def yxp (d c : AV) (h : Heap) : OX :=
ob (evLd true 9 c h) fun e =>
oh (y9 E (yb E) 0 none true 47 [e] h) fun b h3 =>
ob (y3z 0 b) fun i =>
ob (y3z 1 b) fun g =>
oh (newC 0 (some 2) [(.int .i64 0), (.int .i64 0), (.int .i64 0), (.int .i64 0)] h3) fun a h4 =>
oh (evSt 4 a i h4) fun _ h5 =>
(yx2 d c a g h5)
def y28d (s : St) : OX := yxp (s 2) (s 3) s.h
theorem y1j0 : T0 y11i [.t 4] y28d := sq y1ke fun _ => by kernel_rfl
def yq6 (b d : AV) (h : Heap) : OX :=
oh (newC 0 (some 0) (cellsOf b) h) fun c h6 =>
oh (newC 0 (some 1) (cellsOf d) h6) fun a h7 =>
(yxp c a h7)
def y27w (s : St) : OX := yq6 (s 0) (s 1) s.h
theorem y1h8 : T0 y14a [.t 4] y27w := sq y1j0 fun _ => by kernel_rfl
@[simp] theorem y2pf : E.pure 63 = true := rfl
theorem y2px (a b : AV) : (yb E).p 63 [a, b] = yq6 a b [⟨0, .dead⟩, ⟨0, .dead⟩, ⟨0, .dead⟩] :=
  (y15 (cf := y2ib) (by kernel_rfl) rfl).trans ((y1h8 _).trans (by kernel_rfl))
def y27u (d : AV) (h : Heap) : OX :=
oh (newC 0 (some 0) (cellsOf d) h) fun c h1 =>
ob (evFa 0 c) fun k =>
ob (evLd false 1 k h1) fun o =>
ob (y8 .eql o (.int .i64 27)) fun b =>
gb b false (evFa 0 c) fun e =>
gb b false (evLd false 1 e h1) fun g =>
gb b false (y8 .eql g (.int .i64 28)) fun j =>
ob (yd b (.bool true) j) fun a =>
gb a false (evFa 0 c) fun l =>
gb a false (evLd false 1 l h1) fun i =>
gb a false (y8 .eql i (.int .i64 29)) fun n =>
ob (yd a (.bool true) n) fun m =>
(yf h1 m)
def y2ln (s : St) : OX := y27u (s 0) s.h
theorem y220 : T0 y1i1 [.t 2] y2ln := fun _ => by kernel_rfl
@[simp] theorem y2oj : E.pure 22 = true := rfl
theorem y2qo (a : AV) : (yb E).p 22 [a] = y27u a [⟨0, .dead⟩] :=
  (y15 (cf := y2jn) (by kernel_rfl) rfl).trans ((y220 _).trans (by kernel_rfl))
def y1re (fb : Nat) (c a : AV) (h : Heap) : Option (AV × Heap) :=
ob (evLd false 1 a h) fun e =>
oh (y12 fb (some 0) 1 1 [(.int .i64 0)] [(0, c)] h) fun d h1 =>
oh (y41 fb (some 1) 1 8 e d h1) fun b h2 =>
oh (evSt 1 a b h2) fun _ h3 =>
(some ((.tup []), h3))
def y87 (fb : Nat) (s : St) : Option (AV × Heap) := y1re fb (s 0) (s 3) s.h
theorem y21j (fb : Nat) (s : St) : W E fb y1up s (finI []) xN (finI []) = y87 fb s :=
  by kernel_rfl
def y2cd (fb : Nat) (a c d b : AV) (h : Heap) : Option (AV × Heap) :=
ob (evLd false 1 c h) fun g =>
ob (yw 1 g a) fun e =>
oh (evSt 1 e b h) fun _ h4 =>
(y1re fb a d h4)
def y26n (fb : Nat) (s : St) : Option (AV × Heap) := y2cd fb (s 0) (s 2) (s 3) (s 6) s.h
theorem y1y5 (fb : Nat) (s : St) : W E fb y1vw s (y87 fb) (y5 0 (y87 fb) xN) (finI []) = y26n fb s :=
  by kernel_rfl
def y2eu (fb : Nat) (b c e a : AV) (h : Heap) : Option (AV × Heap) :=
ob (y11 2 a h) fun k =>
ob (evLd false 1 c h) fun i =>
ob (yw 1 i b) fun j =>
ob (evLd false 1 j h) fun g =>
ob (y11 2 g h) fun d =>
ob (y8 .eql k d) fun l =>
cnd l
 ((some ((.tup []), h)))
 ((y2cd fb b c e a h))
def y25k (fb : Nat) (s : St) : Option (AV × Heap) := y2eu fb (s 0) (s 2) (s 3) (s 6) s.h
theorem y1z1 (fb : Nat) (s : St) : W E fb y1qe s (y87 fb) (y5 0 (y87 fb) xN) (finI []) = y25k fb s :=
  (yej (k := (y26n fb)) (fun s => y1y5 fb s)).trans (by kernel_rfl)
def y2cn (fb : Nat) (a d b g : AV) (h : Heap) : Option (AV × Heap) :=
ob (evLd false 1 b h) fun c =>
ob (yw 1 c a) fun e =>
ob (evLd false 1 e h) fun i =>
oh (y9 E (yb E) fb none true 170 [i, d] h) fun j h5 =>
(y2eu fb a b g j h5)
def y2ju (fb : Nat) (s : St) : Option (AV × Heap) := y2cn fb (s 0) (s 1) (s 2) (s 3) s.h
theorem y23j (fb : Nat) (s : St) : W E fb y1mx s (y87 fb) (y5 0 (y87 fb) xN) (finI []) = y2ju fb s :=
  (yej (k := (y25k fb)) (fun s => y1z1 fb s)).trans (by kernel_rfl)
def y24t (fb : Nat) (a c b d g : AV) (h : Heap) : Option (AV × Heap) :=
cnd g
 (ob (evLd false 1 b h) fun i =>
ofp (y4h E (yb E) fb none true 161 [c] h) fun f3 =>
oh (y9 E (yb E) fb none true 161 [c] h) fun j h6 =>
ob (yw 1 i a) fun e =>
oh (evSt 1 e j h6) fun _ h7 =>
okK (yg [(ids1 b, []), ([], []), ([], []), f3, ([], []), ([], ids1 e)] [(0, 3)]) <|
(y1re fb a d h7))
 ((y2cn fb a c b d h))
def y26d (fb : Nat) (s : St) : Option (AV × Heap) := y24t fb (s 0) (s 1) (s 2) (s 3) (s 25) s.h
theorem y22m (fb : Nat) (s : St) : W E fb y1lk s (y87 fb) (y5 0 (y87 fb) xN) (finI []) = y26d fb s :=
  (y1b rfl (y23j fb s)).trans (by kernel_rfl)
def y257 (fb : Nat) (a g b i : AV) (h : Heap) : Option (AV × Heap) :=
ob (evLd false 1 b h) fun c =>
ob (yw 1 c a) fun j =>
ob (evLd false 1 j h) fun e =>
ob (y4s 2 false e AV.nilm) fun d =>
(y24t fb a g b i d h)
def y1dl (fb : Nat) (s : St) : Option (AV × Heap) := y257 fb (s 0) (s 1) (s 2) (s 3) s.h
theorem y1yi (fb : Nat) (s : St) : W E fb y1h7 s (y87 fb) (y5 0 (y87 fb) xN) (finI []) = y1dl fb s :=
  (yej (k := (y26d fb)) (fun s => y22m fb s)).trans (by kernel_rfl)
theorem y24v (fb : Nat) (s : St) : W E fb y1n2 s (y87 fb) xN (finI []) = y1dl fb s :=
  yy.trans (y1yi fb s)
theorem y1yc (fb : Nat) (s : St) : W E fb y1d5 s (finI []) xN (finI []) = y1dl fb s :=
  (yej (k := (y87 fb)) (fun s => y21j fb s)).trans (y24v fb s)
@[simp] theorem y2nb : E.pure 167 = false := rfl
theorem y2qr (fb : Nat) (b d c a : AV) (h : Heap) : (yb E).i 167 [b, d, c, a] fb h = y257 fb b d c a (if fb = h.length then h ++ yv 2 else h) :=
  (y1fi (cf := y2kr) (by kernel_rfl) rfl).trans ((y1yc fb _).trans (by kernel_rfl))
def y21m (a : AV) (h : Heap) : OX :=
(yf h a)
def y1ik (s : St) : OX := y21m (s 5) s.h
theorem y226 : T0 y1pw [.t 4] y1ik := fun _ => by kernel_rfl
def y25f (c g a : AV) (h : Heap) : Option Heap :=
ob (evLd true 3 a h) fun e =>
ob (y6q true [0, 0, 0] (.bool false) false c e h) fun b =>
cnd b
 (ob (evLd true 3 a h) fun d =>
oh (y66 true [0, 0, 0] g d (.bool true) h) fun _ h1 =>
(some (killAll 0 [1] h1)))
 ((some (killAll 0 [1] h)))
def y2h6 (s : St) : Option Heap := y25f (s 1) (s 5) (s 6) s.h
theorem y206 (s : St) : W E 0 y1m1 s (fun s3 => some (killAll 0 [1] s3.h)) xN (fun _ => none) = y2h6 s :=
  by kernel_rfl
def y298 (c d b : AV) (h : Heap) : OX :=
orm c (fun q h2 =>
ob (y3z 0 (AV.tup [q.1, q.2])) fun e =>
oh (newC 0 (some 1) [(.int .i64 0), (.int .i64 0), (.int .i64 0)] h2) fun a h4 =>
oh (evSt 3 a e h4) fun _ h5 =>
(y25f d b a h5)) h fun h3 =>
(y21m b h3)
def y27h (s : St) : OX := y298 (s 0) (s 1) (s 5) s.h
theorem y24y : T1 y1u2 y1ik xN [.t 4] y27h := fun s => (yik (nk := y1ik) (fun s2 => y206 s2) (fun _ => rfl)).trans (by kernel_rfl)
theorem y24a : T0 y1ph [.t 4] y27h := sq y226 y24y
def y2ci (a c : AV) (h : Heap) : OX :=
oh (mkmC 0 (some 0) h) fun b h6 =>
(y298 a c b h6)
def y2hv (s : St) : OX := y2ci (s 0) (s 1) s.h
theorem y20l : T0 y1dv [.t 4] y2hv := sq y24a fun _ => by kernel_rfl
def y2c8 (a b : AV) (h : Heap) : OX :=
(y2ci a b h)
def y2ly (s : St) : OX := y2c8 (s 0) (s 1) s.h
theorem y237 : T0 y1ib [.t 4] y2ly := sq y20l fun _ => by kernel_rfl
@[simp] theorem y2nh : E.pure 170 = true := rfl
theorem y2q3 (a b : AV) : (yb E).p 170 [a, b] = y2c8 a b [⟨0, .dead⟩, ⟨0, .dead⟩] :=
  (y15 (cf := y2l0) (by kernel_rfl) rfl).trans ((y237 _).trans (by kernel_rfl))
def y1t1 (a : AV) (h : Heap) : OX :=
(yf h a)
def y5y (s : St) : OX := y1t1 (s 5) s.h
theorem y1z9 : T0 y1hj [.t 4] y5y := fun _ => by kernel_rfl
def yur (c d a e b : AV) (h : Heap) : OX :=
  W E 0 yps ⟨[(1, c), (5, d), (27, a), (28, e), (29, b)], h⟩ y5y (y5 0 y5y xN) (finP [.t 4])
def ycx (s : St) : OX := yur (s 1) (s 5) (s 27) (s 28) (s 29) s.h
theorem yrt : T1 yps y5y (y5 0 y5y xN) [.t 4] ycx := fun s => yj.trans (by kernel_rfl)
def y1co (d e a g c : AV) (h : Heap) : OX :=
ob (y8 .add c (.int .i64 1)) fun b =>
(yur d e a g b h)
def ycn (s : St) : OX := y1co (s 1) (s 5) (s 27) (s 28) (s 29) s.h
theorem y224 : T1 y1vz ycx (y5 0 y5y xN) [.t 4] ycn := fun _ => by kernel_rfl
def y1a4 (g a b c j e : AV) (h : Heap) : OX :=
ob (evFa 3 b) fun d =>
ob (evLd false 1 d h) fun i =>
ob (y8 .eql i (AV.str [])) fun k =>
cnd k
 ((y1t1 a h))
 ((y1co g a c j e h))
def y2iw (s : St) : OX := y1a4 (s 1) (s 5) (s 7) (s 27) (s 28) (s 29) s.h
theorem y1zc : T1 y1pe ycn (y5 1 ycn (y5 0 y5y xN)) [.t 4] y2iw := fun _ => by kernel_rfl
def y25b (e b a c g d : AV) (h : Heap) : OX :=
ob (evFa 2 a) fun p =>
ob (evLd false 1 p h) fun k =>
oh (y9 E (yb E) 0 none true 46 [b, k] h) fun m h1 =>
ob (evUn .not m) fun i =>
cnd i
 (ob (evFa 2 a) fun j =>
ob (evLd false 1 j h1) fun o =>
oh (y12 0 (some 2) 1 1 [(.int .i64 0)] [(0, o)] h1) fun n h2 =>
oh (y41 0 (some 3) 1 8 b n h2) fun l h3 =>
(y1a4 e l a c g d h3))
 ((y1a4 e b a c g d h1))
def y2k1 (s : St) : OX := y25b (s 1) (s 5) (s 7) (s 27) (s 28) (s 29) s.h
theorem y24w : T1 y1r4 ycn (y5 1 ycn (y5 0 y5y xN)) [.t 4] y2k1 := sq y1zc fun _ => by kernel_rfl
def ywx (b g c d i e : AV) (h : Heap) : OX :=
ob (evFa 0 c) fun p =>
ob (evLd false 1 p h) fun n =>
ob (y8 .lss b n) fun a =>
gb a false (some b) fun l =>
gb a false (evFa 1 c) fun k =>
gb a false (evLd false 1 k h) fun o =>
gb a false (y8 .geq l o) fun m =>
ob (yd a (.bool true) m) fun j =>
cnd j
 ((y1co b g d i e h))
 ((y25b b g c d i e h))
def y2j8 (s : St) : OX := ywx (s 1) (s 5) (s 7) (s 27) (s 28) (s 29) s.h
theorem y204 : T1 y1n8 ycn (y5 1 ycn (y5 0 y5y xN)) [.t 4] y2j8 := sq y24w fun _ => by kernel_rfl
def y2ct (e g a i c : AV) (h : Heap) : OX :=
ob (yw 4 a c) fun j =>
ob (evLd true 4 j h) fun d =>
oh (newC 0 (some 1) [(.int .i64 0), (.int .i64 0), (.int .i64 0), (.str [])] h) fun b h4 =>
oh (evSt 4 b d h4) fun _ h5 =>
(ywx e g b a i c h5)
def y1d6 (s : St) : OX := y2ct (s 1) (s 5) (s 27) (s 28) (s 29) s.h
theorem y24c : T1 y1q6 ycn (y5 1 ycn (y5 0 y5y xN)) [.t 4] y1d6 := sq y204 fun _ => by kernel_rfl
theorem y1ze : T1 y1tt ycn (y5 0 y5y xN) [.t 4] y1d6 := fun s => yy.trans (y24c s)
theorem y1zr : T1 y1hl ycx (y5 0 y5y xN) [.t 4] y1d6 := sq y224 y1ze
def yyj (e a b g d c : AV) (h : Heap) : OX :=
cnd c
 ((y2ct e a b g d h))
 ((y1t1 a h))
def y2cv (s : St) : OX := yyj (s 1) (s 5) (s 27) (s 28) (s 29) (s 30) s.h
theorem y1w8 : T1 yye ycx (y5 0 y5y xN) [.t 4] y2cv := sq y1zr fun _ => by kernel_rfl
def yrk (e g c b a : AV) (h : Heap) : OX :=
ob (y8 .lss a b) fun d =>
(yyj e g c b a d h)
def y2a8 (s : St) : OX := yrk (s 1) (s 5) (s 27) (s 28) (s 29) s.h
theorem y1ep : T1 y12j ycx (y5 0 y5y xN) [.t 4] y2a8 := sq y1w8 fun _ => by kernel_rfl
theorem yq7 (c d a e b : AV) (h : Heap) : yur c d a e b h = (yrk c d a e b h) :=
  y28.trans ((y1c _ _ _ (n' := ycx) (fun s => yrt s)).trans ((y1ep _).trans (by kernel_rfl)))
theorem y1pf : T1 y128 y5y xN [.t 4] ycx := fun s => yy.trans (yrt s)
def y1q1 (d c e : AV) (h : Heap) : OX :=
ob (evFa 4 c) fun b =>
ob (evLd false 1 b h) fun a =>
ob (y11 1 a h) fun g =>
(yur d e a g (.int .i64 0) h)
def y1s2 (s : St) : OX := y1q1 (s 1) (s 2) (s 5) s.h
theorem y1hm : T1 y139 y5y xN [.t 4] y1s2 := sq y1pf fun _ => by kernel_rfl
theorem y1pm : T0 yxa [.t 4] y1s2 := sq y1z9 y1hm
def y1mz (b a : AV) (h : Heap) : OX :=
(y1q1 b a AV.nils h)
def y2fz (s : St) : OX := y1mz (s 1) (s 2) s.h
theorem y1nt : T0 yxz [.t 4] y2fz := sq y1pm fun _ => by kernel_rfl
def yls (c d : AV) (h : Heap) : OX :=
ob (y8 .lss c (.int .i64 0)) fun b =>
gb b false (some c) fun g =>
gb b false (evFa 3 d) fun m =>
gb b false (evLd false 1 m h) fun i =>
gb b false (y11 1 i h) fun p =>
gb b false (y8 .geq g p) fun n =>
ob (yd b (.bool true) n) fun a =>
gb a false (evFa 3 d) fun l =>
gb a false (evLd false 1 l h) fun j =>
gb a false (some c) fun t =>
gb a false (yw 9 j t) fun u =>
gb a false (evLd true 9 u h) fun e =>
gh a false (y9 E (yb E) 0 none true 18 [e] h) h fun o h6 =>
gb a false (evUn .not o) fun k =>
ob (yd a (.bool true) k) fun r =>
cnd r
 ((yf h6 AV.nils))
 ((y1mz c d h6))
def y2aq (s : St) : OX := yls (s 1) (s 2) s.h
theorem y1pg : T0 yzs [.t 4] y2aq := sq y1nt fun _ => by kernel_rfl
def ym6 (a c : AV) (h : Heap) : OX :=
oh (newC 0 (some 0) (cellsOf a) h) fun b h7 =>
(yls c b h7)
def y2f9 (s : St) : OX := ym6 (s 0) (s 1) s.h
theorem y1sr : T0 y135 [.t 4] y2f9 := sq y1pg fun _ => by kernel_rfl
@[simp] theorem y2r4 : E.pure 79 = true := rfl
theorem y2qk (a b : AV) : (yb E).p 79 [a, b] = ym6 a b [⟨0, .dead⟩, ⟨0, .dead⟩, ⟨0, .dead⟩, ⟨0, .dead⟩] :=
  (y15 (cf := y2lq) (by kernel_rfl) rfl).trans ((y1sr _).trans (by kernel_rfl))
def yr1 (a : AV) (h : Heap) : OX :=
(yf h a)
def y75 (s : St) : OX := yr1 (s 5) s.h
theorem y1xa : T0 y1uf [.t 4] y75 := fun _ => by kernel_rfl
def y1wv (j m g b : AV) (h : Heap) : Option Heap :=
ob (evFa 1 b) fun l =>
ob (evLd false 1 l h) fun k =>
ob (evFa 2 j) fun t =>
ob (evLd false 1 t h) fun n =>
ob (y8 .eql k n) fun a =>
gb a true (evFa 2 b) fun c =>
gb a true (evLd false 1 c h) fun p =>
gb a true (y8 .eql p (.int .i64 (-1))) fun d =>
ob (yd a d (.bool false)) fun r =>
cnd r
 (ob (evFa 0 b) fun e =>
ob (evLd false 1 e h) fun i =>
ob (y10 [(.int .i64 0), (.int .i64 0), (.int .i64 0)] [(0, 1, i), (1, 1, g), (2, 1, (.int .i64 (-1)))]) fun o =>
oh (y66 true [0, 0, 0] m o (.bool true) h) fun _ h1 =>
(some (killAll 0 [4] h1)))
 ((some (killAll 0 [4] h)))
def y2hb (s : St) : Option Heap := y1wv (s 3) (s 5) (s 8) (s 10) s.h
theorem y1zv (s : St) : W E 0 y1sv s (fun s3 => some (killAll 0 [4] s3.h)) xN (fun _ => none) = y2hb s :=
  by kernel_rfl
def y2ff (c g b e : AV) (h : Heap) : OX :=
orm c (fun q h2 =>
ob (y3z 0 (AV.tup [q.1, q.2])) fun d =>
oh (newC 0 (some 4) [(.int .i64 0), (.int .i64 0), (.int .i64 0)] h2) fun a h4 =>
oh (evSt 3 a d h4) fun _ h5 =>
(y1wv g b e a h5)) h fun h3 =>
(yr1 b h3)
def y2gy (s : St) : OX := y2ff (s 0) (s 3) (s 5) (s 8) s.h
theorem y1xd : T1 y1wd y75 (y5 2 y75 xN) [.t 4] y2gy := fun s => (yik (nk := y75) (fun s2 => y1zv s2) (fun _ => rfl)).trans (by kernel_rfl)
def yq5 (a b c : AV) (h : Heap) : OX :=
cnd c
 (ob (y10 [(.int .i64 0), (.int .i64 0), (.int .i64 0)] [(0, 1, (.int .i64 8)), (1, 1, b), (2, 1, (.int .i64 (-1)))]) fun d =>
oh (y66 true [0, 0, 0] a d (.bool true) h) fun _ h6 =>
(yr1 a h6))
 ((yr1 a h))
def y2mj (s : St) : OX := yq5 (s 5) (s 8) (s 79) s.h
theorem y238 : T1 y1mh y75 (y5 2 y75 xN) [.t 4] y2mj := fun _ => by kernel_rfl
def y23f (b a c : AV) (h : Heap) : OX :=
ob (y8 .eql c (.int .i64 20)) fun e =>
cnd e
 ((yq5 b a e h))
 (ob (y8 .eql c (.int .i64 21)) fun g =>
cnd g
 ((yq5 b a g h))
 (ob (y8 .eql c (.int .i64 3)) fun d =>
cnd d
 ((yq5 b a d h))
 (ob (y8 .eql c (.int .i64 32)) fun i =>
(yq5 b a i h))))
def y2ld (s : St) : OX := y23f (s 5) (s 8) (s 55) s.h
theorem y1wu : T1 y1ol y75 (y5 2 y75 xN) [.t 4] y2ld := sq y238 fun _ => by kernel_rfl
def y20m (c e b a g d : AV) (h : Heap) : OX :=
cnd d
 ((y2ff c e b a h))
 ((y23f b a g h))
def y2lj (s : St) : OX := y20m (s 0) (s 3) (s 5) (s 8) (s 55) (s 56) s.h
theorem y23g : T1 y1mv y75 (y5 2 y75 xN) [.t 4] y2lj := fun s => (y1b (y1xd s) (y1wu s)).trans (by kernel_rfl)
def y1we (b e g c a : AV) (h : Heap) : OX :=
ob (y8 .eql a (.int .i64 4)) fun d =>
(y20m b e g c a d h)
def y27g (s : St) : OX := y1we (s 0) (s 3) (s 5) (s 8) (s 55) s.h
theorem y1zk : T1 y1iv y75 (y5 2 y75 xN) [.t 4] y27g := sq y23g fun _ => by kernel_rfl
theorem y1yy : T1 y1mc y75 xN [.t 4] y27g := fun s => yy.trans (y1zk s)
def y22w (b a d c : AV) (h : Heap) : OX :=
ob (evFa 0 a) fun e =>
ob (evLd false 1 e h) fun g =>
(y1we b a d c g h)
def y11d (s : St) : OX := y22w (s 0) (s 3) (s 5) (s 8) s.h
theorem y1xc : T1 y1mi y75 xN [.t 4] y11d := sq y1yy fun _ => by kernel_rfl
theorem y1h3 : T0 yz2 [.t 4] y11d := sq y1xa y1xc
def y17m (k c b : AV) (h : Heap) : Option Heap :=
ob (evFa 1 b) fun d =>
ob (evLd false 1 d h) fun e =>
ob (y8 .eql e c) fun a =>
gb a false (evFa 2 b) fun g =>
gb a false (evLd false 1 g h) fun m =>
gb a false (some c) fun j =>
gb a false (y8 .eql m j) fun n =>
ob (yd a (.bool true) n) fun l =>
cnd l
 (ob (evLd true 3 b h) fun i =>
oh (ycf true [0, 0, 0] k i h) fun _ h7 =>
(some (killAll 0 [3] h7)))
 ((some (killAll 0 [3] h)))
def y288 (s : St) : Option Heap := y17m (s 5) (s 8) (s 9) s.h
theorem y1lp (s : St) : W E 0 y14w s (fun s3 => some (killAll 0 [3] s3.h)) xN (fun _ => none) = y288 s :=
  by kernel_rfl
def y113 (a g d b : AV) (h : Heap) : OX :=
orm a (fun q h8 =>
ob (y3z 0 (AV.tup [q.1, q.2])) fun e =>
oh (newC 0 (some 3) [(.int .i64 0), (.int .i64 0), (.int .i64 0)] h8) fun c h10 =>
oh (evSt 3 c e h10) fun _ h11 =>
(y17m d b c h11)) h fun h9 =>
(y22w a g d b h9)
def y1pz (s : St) : OX := y113 (s 0) (s 3) (s 5) (s 8) s.h
theorem y1ic : T1 y115 y11d xN [.t 4] y1pz := fun s => (yik (nk := y11d) (fun s2 => y1lp s2) (fun _ => rfl)).trans (by kernel_rfl)
theorem y1f9 : T0 yxd [.t 4] y1pz := sq y1h3 y1ic
def y1pq (e b d c : AV) (h : Heap) : OX :=
ob (evFa 0 b) fun g =>
ob (evLd false 1 g h) fun i =>
ob (y8 .eql i (.int .i64 4)) fun a =>
gb a true (evFa 2 b) fun j =>
gb a true (evLd false 1 j h) fun m =>
gb a true (some c) fun k =>
gb a true (y8 .eql m k) fun l =>
ob (yd a l (.bool false)) fun n =>
cnd n
 ((yf h d))
 ((y113 e b d c h))
def y2by (s : St) : OX := y1pq (s 0) (s 3) (s 5) (s 8) s.h
theorem y1hx : T0 y15q [.t 4] y2by := sq y1f9 fun _ => by kernel_rfl
def y12d (c d b a : AV) (h : Heap) : OX :=
ob (y8 .lss a (.int .i64 0)) fun e =>
cnd e
 ((yf h b))
 ((y1pq c d b a h))
def y2c3 (s : St) : OX := y12d (s 0) (s 3) (s 5) (s 8) s.h
theorem y1m2 : T0 y13p [.t 4] y2c3 := sq y1hx fun _ => by kernel_rfl
def yu0 (b a c : AV) (h : Heap) : OX :=
ob (evLd true 9 a h) fun e =>
oh (y9 E (yb E) 0 none true 9 [e] h) fun d h12 =>
(y12d b a c d h12)
def y2dj (s : St) : OX := yu0 (s 0) (s 3) (s 5) s.h
theorem y1lz : T0 yxu [.t 4] y2dj := sq y1m2 fun _ => by kernel_rfl
def y1jn (d a b : AV) (h : Heap) : OX :=
ob (evLd true 9 a h) fun j =>
oh (y9 E (yb E) 0 none true 169 [j] h) fun e h13 =>
ob (y3z 0 e) fun g =>
ob (y3z 1 e) fun i =>
oh (newC 0 (some 2) [(.int .i64 0), (.int .i64 0), (.int .i64 0)] h13) fun c h14 =>
oh (evSt 3 c g h14) fun _ h15 =>
cnd i
 (ob (evLd true 3 c h15) fun k =>
oh (y66 true [0, 0, 0] b k (.bool true) h15) fun _ h16 =>
(yu0 d a b h16))
 ((yu0 d a b h15))
def y2cp (s : St) : OX := y1jn (s 0) (s 3) (s 5) s.h
theorem y1ms : T0 yzz [.t 4] y2cp := sq y1lz fun _ => by kernel_rfl
def y1kl (a b : AV) (h : Heap) : OX :=
oh (y9 E (yb E) 0 (some 1) false 161 [a] h) fun c h17 =>
(y1jn a b c h17)
def y2dp (s : St) : OX := y1kl (s 0) (s 3) s.h
theorem y1e8 : T0 yyh [.t 4] y2dp := sq y1ms fun _ => by kernel_rfl
def y1tj (b c : AV) (h : Heap) : OX :=
oh (newC 0 (some 0) (cellsOf c) h) fun a h18 =>
(y1kl b a h18)
def y2a5 (s : St) : OX := y1tj (s 0) (s 1) s.h
theorem y1ra : T0 y155 [.t 4] y2a5 := sq y1e8 fun _ => by kernel_rfl
@[simp] theorem y2nj : E.pure 168 = true := rfl
theorem y2q9 (a b : AV) : (yb E).p 168 [a, b] = y1tj a b [⟨0, .dead⟩, ⟨0, .dead⟩, ⟨0, .dead⟩, ⟨0, .dead⟩, ⟨0, .dead⟩] :=
  (y15 (cf := y2hy) (by kernel_rfl) rfl).trans ((y1ra _).trans (by kernel_rfl))
def yla (a : AV) (h : Heap) : OX :=
(yf h a)
def y2mo (s : St) : OX := yla (s 6) s.h
theorem y1y7 : T0 y1io [.t 4] y2mo := fun _ => by kernel_rfl
def ylh (c b : AV) (h : Heap) : OX :=
ob (evLd true 9 c h) fun o =>
oh (y9 E (yb E) 0 none true 22 [o] h) fun a h1 =>
gb a true (some b) fun i =>
gb a true (evFa 6 c) fun m =>
gb a true (evLd false 1 m h1) fun p =>
gh a true (y9 E (yb E) 0 none true 46 [i, p] h1) h1 fun k h2 =>
gb a true (evUn .not k) fun g =>
ob (yd a g (.bool false)) fun n =>
cnd n
 (ob (evFa 6 c) fun e =>
ob (evLd false 1 e h2) fun l =>
oh (y12 0 (some 4) 1 1 [(.int .i64 0)] [(0, l)] h2) fun j h3 =>
oh (y41 0 (some 5) 1 8 b j h3) fun d h4 =>
(yla d h4))
 ((yla b h2))
def y2ie (s : St) : OX := ylh (s 5) (s 6) s.h
theorem y250 : T0 y1sm [.t 4] y2ie := sq y1y7 fun _ => by kernel_rfl
def ylb (g a b : AV) (h : Heap) : OX :=
ob (evLd true 9 a h) fun k =>
oh (y9 E (yb E) 0 none true 24 [k] h) fun j h5 =>
ob (evUn .not j) fun i =>
cnd i
 (ob (y8 .add g (.int .i64 1)) fun d =>
oh (y12 0 (some 2) 1 1 [(.int .i64 0)] [(0, d)] h5) fun c h6 =>
oh (y41 0 (some 3) 1 8 b c h6) fun e h7 =>
(ylh a e h7))
 ((ylh a b h5))
def y2id (s : St) : OX := ylb (s 1) (s 5) (s 6) s.h
theorem y24e : T0 y1dt [.t 4] y2id := sq y250 fun _ => by kernel_rfl
def y1vm (b a : AV) (h : Heap) : OX :=
(ylb b a AV.nils h)
def y2gq (s : St) : OX := y1vm (s 1) (s 5) s.h
theorem y24z : T0 y1l3 [.t 4] y2gq := sq y24e fun _ => by kernel_rfl
def y1of (a d : AV) (h : Heap) : OX :=
ob (evFa 3 d) fun c =>
ob (evLd false 1 c h) fun g =>
ob (yw 9 g a) fun e =>
ob (evLd true 9 e h) fun i =>
oh (newC 0 (some 1) [(.int .i64 0), (.int .i64 0), (.int .i64 0), (.int .i64 0), (.int .i64 0), (.int .i64 0), (.int .i64 0), (.str []), .nils] h) fun b h8 =>
oh (evSt 9 b i h8) fun _ h9 =>
(y1vm a b h9)
def y2j5 (s : St) : OX := y1of (s 1) (s 2) s.h
theorem y1xs : T0 y1mr [.t 4] y2j5 := sq y24z fun _ => by kernel_rfl
def y1h1 (b c : AV) (h : Heap) : OX :=
ob (y8 .lss b (.int .i64 0)) fun a =>
gb a false (some b) fun g =>
gb a false (evFa 3 c) fun d =>
gb a false (evLd false 1 d h) fun i =>
gb a false (y11 1 i h) fun e =>
gb a false (y8 .geq g e) fun k =>
ob (yd a (.bool true) k) fun j =>
cnd j
 ((yf h AV.nils))
 ((y1of b c h))
def y2jm (s : St) : OX := y1h1 (s 1) (s 2) s.h
theorem y232 : T0 y1fj [.t 4] y2jm := sq y1xs fun _ => by kernel_rfl
def y1b2 (a c : AV) (h : Heap) : OX :=
oh (newC 0 (some 0) (cellsOf a) h) fun b h10 =>
(y1h1 c b h10)
def y2ic (s : St) : OX := y1b2 (s 0) (s 1) s.h
theorem y23m : T0 y1ty [.t 4] y2ic := sq y232 fun _ => by kernel_rfl
@[simp] theorem y2np : E.pure 81 = true := rfl
theorem y2p5 (a b : AV) : (yb E).p 81 [a, b] = y1b2 a b [⟨0, .dead⟩, ⟨0, .dead⟩, ⟨0, .dead⟩, ⟨0, .dead⟩, ⟨0, .dead⟩, ⟨0, .dead⟩] :=
  (y15 (cf := y2hf) (by kernel_rfl) rfl).trans ((y23m _).trans (by kernel_rfl))
def y2dr (a : AV) (h : Heap) : OX :=
ob (y10 [(.int .i64 0), (.int .i64 0), (.int .i64 0)] []) fun b =>
oh (evSt 3 a b h) fun _ h1 =>
(ob (evLd true 3 a h1) fun r0 =>
  yf h1 (.tup [r0, (.bool false)]))
def yj6 (s : St) : OX := y2dr (s 2) s.h
theorem y1yu : T0 y1qi [.cell 2 true 3, .t 3] yj6 := fun _ => by kernel_rfl
def yv9 (b a o c : AV) (h : Heap) : OX :=
cnd c
 (ob (evFa 0 b) fun l =>
ob (evLd false 1 l h) fun g =>
ob (evFa 2 b) fun n =>
ob (evLd false 1 n h) fun j =>
ob (y10 [(.int .i64 0), (.int .i64 0), (.int .i64 0)] [(0, 1, g), (1, 1, j), (2, 1, (.int .i64 (-1)))]) fun r =>
oh (evSt 3 a r h) fun _ h2 =>
(ob (evLd true 3 a h2) fun r0 =>
  yf h2 (.tup [r0, (.bool true)])))
 (ob (y8 .eql o (.int .i64 9)) fun i =>
cnd i
 (ob (evFa 0 b) fun p =>
ob (evLd false 1 p h) fun m =>
ob (evFa 2 b) fun k =>
ob (evLd false 1 k h) fun t =>
ob (evFa 3 b) fun u =>
ob (evLd false 1 u h) fun e =>
ob (y10 [(.int .i64 0), (.int .i64 0), (.int .i64 0)] [(0, 1, m), (1, 1, t), (2, 1, e)]) fun d =>
oh (evSt 3 a d h) fun _ h3 =>
(ob (evLd true 3 a h3) fun r0 =>
  yf h3 (.tup [r0, (.bool true)])))
 ((y2dr a h)))
def y2i1 (s : St) : OX := yv9 (s 1) (s 2) (s 5) (s 6) s.h
theorem y22e : T1 y1k4 yj6 (y5 0 yj6 xN) [.cell 2 true 3, .t 3] y2i1 := fun _ => by kernel_rfl
def y23b (c b a : AV) (h : Heap) : OX :=
ob (y8 .eql a (.int .i64 7)) fun d =>
cnd d
 ((yv9 c b a d h))
 (ob (y8 .eql a (.int .i64 8)) fun e =>
cnd e
 ((yv9 c b a e h))
 (ob (y8 .eql a (.int .i64 10)) fun g =>
(yv9 c b a g h)))
def y26s (s : St) : OX := y23b (s 1) (s 2) (s 5) s.h
theorem y1yj : T1 y1os yj6 (y5 0 yj6 xN) [.cell 2 true 3, .t 3] y26s := sq y22e fun _ => by kernel_rfl
theorem y1zd : T1 y1jh yj6 xN [.cell 2 true 3, .t 3] y26s := fun s => yy.trans (y1yj s)
def y23s (a c : AV) (h : Heap) : OX :=
ob (evFa 0 a) fun d =>
ob (evLd false 1 d h) fun b =>
(y23b a c b h)
def y25o (s : St) : OX := y23s (s 1) (s 2) s.h
theorem y21h : T1 y1ne yj6 xN [.cell 2 true 3, .t 3] y25o := sq y1zd fun _ => by kernel_rfl
theorem y24n : T0 y1l5 [.cell 2 true 3, .t 3] y25o := sq y1yu y21h
def y1x8 (a : AV) (h : Heap) : OX :=
oh (newC 0 (some 0) (cellsOf a) h) fun c h4 =>
oh (newC 0 (some 1) [(.int .i64 0), (.int .i64 0), (.int .i64 0)] h4) fun b h5 =>
(y23s c b h5)
def y2h5 (s : St) : OX := y1x8 (s 0) s.h
theorem y1z0 : T0 y1ho [.cell 2 true 3, .t 3] y2h5 := sq y24n fun _ => by kernel_rfl
@[simp] theorem y2n9 : E.pure 169 = true := rfl
theorem y2pg (a : AV) : (yb E).p 169 [a] = y1x8 a [⟨0, .dead⟩, ⟨0, .dead⟩] :=
  (y15 (cf := y2h2) (by kernel_rfl) rfl).trans ((y1z0 _).trans (by kernel_rfl))
def y1eq (a : AV) (h : Heap) : OX :=
oh (y12 0 (some 0) 1 3 [(.int .i64 0)] [(0, (.int .i64 27)), (1, (.int .i64 30)), (2, (.int .i64 31))] h) fun b h1 =>
oh (y9 E (yb E) 0 none true 42 [a, b] h1) fun c h2 =>
(yf h2 c)
def y28h (s : St) : OX := y1eq (s 0) s.h
theorem y1tn : T0 y11m [.t 2] y28h := fun _ => by kernel_rfl
@[simp] theorem y2pz : E.pure 25 = true := rfl
theorem y2jg (a : AV) : (yb E).p 25 [a] = y1eq a [⟨0, .dead⟩] :=
  (y15 (cf := y272) (by kernel_rfl) rfl).trans ((y1tn _).trans (by kernel_rfl))
def yq9 (b a : AV) (h : Heap) : OX :=
ob (evFa 0 a) fun g =>
ob (evLd false 1 g h) fun e =>
ob (yw 1 e b) fun d =>
ob (evLd false 1 d h) fun c =>
(yf h c)
def y2c0 (s : St) : OX := yq9 (s 1) (s 2) s.h
theorem y1rw : T0 y146 [.t 4] y2c0 := fun _ => by kernel_rfl
def yty (b c : AV) (h : Heap) : OX :=
ob (y8 .lss b (.int .i64 0)) fun a =>
gb a false (some b) fun d =>
gb a false (evFa 0 c) fun g =>
gb a false (evLd false 1 g h) fun j =>
gb a false (y11 1 j h) fun e =>
gb a false (y8 .geq d e) fun k =>
ob (yd a (.bool true) k) fun i =>
cnd i
 ((yf h (.int .i64 0)))
 ((yq9 b c h))
def y28z (s : St) : OX := yty (s 1) (s 2) s.h
theorem y1d3 : T0 y12g [.t 4] y28z := sq y1rw fun _ => by kernel_rfl
def yqz (a c : AV) (h : Heap) : OX :=
oh (newC 0 (some 0) (cellsOf a) h) fun b h1 =>
(yty c b h1)
def y29n (s : St) : OX := yqz (s 0) (s 1) s.h
theorem y1nf : T0 y126 [.t 4] y29n := sq y1d3 fun _ => by kernel_rfl
@[simp] theorem y2nz : E.pure 48 = true := rfl
theorem y2gx (a b : AV) : (yb E).p 48 [a, b] = yqz a b [⟨0, .dead⟩] :=
  (y15 (cf := y25v) (by kernel_rfl) rfl).trans ((y1nf _).trans (by kernel_rfl))
def ymg (h : Heap) : OX :=
(yf h (.bool false))
def y7b (s : St) : OX := ymg s.h
theorem y1td : T0 y133 [.t 4] y7b := fun _ => by kernel_rfl
def yjd (b c a : AV) (h : Heap) : OX :=
  W E 0 yht ⟨[(0, b), (1, c), (5, a)], h⟩ y7b (y5 0 y7b xN) (finP [.t 4])
def ybw (s : St) : OX := yjd (s 0) (s 1) (s 5) s.h
theorem yo6 : T1 yht y7b (y5 0 y7b xN) [.t 4] ybw := fun s => yj.trans (by kernel_rfl)
def yn9 (c d a : AV) (h : Heap) : OX :=
ob (y8 .add a (.int .i64 1)) fun b =>
(yjd c d b h)
def y2cy (s : St) : OX := yn9 (s 0) (s 1) (s 5) s.h
theorem y1n5 : T1 y12b ybw (y5 0 y7b xN) [.t 4] y2cy := fun _ => by kernel_rfl
def ynx (a b c : AV) (h : Heap) : OX :=
ob (yw 1 b c) fun g =>
ob (evLd false 1 g h) fun d =>
ob (y8 .eql d a) fun e =>
cnd e
 ((yf h (.bool true)))
 ((yn9 a b c h))
def y2bj (s : St) : OX := ynx (s 0) (s 1) (s 5) s.h
theorem y1s8 : T1 yzr ybw (y5 0 y7b xN) [.t 4] y2bj := sq y1n5 fun _ => by kernel_rfl
def yng (c a b : AV) (h : Heap) : OX :=
ob (y11 1 a h) fun d =>
ob (y8 .lss b d) fun e =>
cnd e
 ((ynx c a b h))
 ((ymg h))
def y2fu (s : St) : OX := yng (s 0) (s 1) (s 5) s.h
theorem y1sj : T1 y17t ybw (y5 0 y7b xN) [.t 4] y2fu := sq y1s8 fun _ => by kernel_rfl
theorem ymn (b c a : AV) (h : Heap) : yjd b c a h = (yng b c a h) :=
  y28.trans ((y1c _ _ _ (n' := ybw) (fun s => yo6 s)).trans ((y1sj _).trans (by kernel_rfl)))
theorem y1gt : T1 yzx y7b xN [.t 4] ybw := fun s => yy.trans (yo6 s)
def ynw (a b : AV) (h : Heap) : OX :=
(yjd a b (.int .i64 0) h)
def y1tg (s : St) : OX := ynw (s 0) (s 1) s.h
theorem y1wk : T1 y150 y7b xN [.t 4] y1tg := sq y1gt fun _ => by kernel_rfl
theorem y1hs : T0 y13n [.t 4] y1tg := sq y1td y1wk
def yn7 (a b : AV) (h : Heap) : OX :=
(ynw a b h)
def y2d6 (s : St) : OX := yn7 (s 0) (s 1) s.h
theorem y1lf : T0 y14p [.t 4] y2d6 := sq y1hs fun _ => by kernel_rfl
@[simp] theorem y2ow : E.pure 42 = true := rfl
theorem y2me (a b : AV) : (yb E).p 42 [a, b] = yn7 a b [] :=
  (y15 (cf := y26k) (by kernel_rfl) rfl).trans ((y1lf _).trans (by kernel_rfl))
end
end Go.Vm
