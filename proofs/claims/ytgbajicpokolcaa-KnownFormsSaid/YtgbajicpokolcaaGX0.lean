/- Functions of the machine as plain functions that go on with what follows. -/
import Derived.Test.YtgbajicpokolcaaGEnv
set_option linter.unusedSimpArgs false
set_option linter.unusedVariables false
set_option linter.unusedSectionVars false
namespace Go.Vm
noncomputable section
def y24g (e c : AV) (h : Heap) : OX :=
ob (evLd true 5 c h) fun n =>
oh (y9 E (yb E) 0 none true 29 [n] h) fun u h1 =>
ob (y8 .eql u (.int .i64 0)) fun a =>
gb a true (evFa 3 c) fun y =>
gb a true (evLd false 1 y h1) fun w =>
gb a true (y10 1 w h1) fun o =>
gb a true (evFa 3 e) fun x =>
gb a true (evLd false 1 x h1) fun l =>
gb a true (y10 1 l h1) fun v =>
gb a true (y8 .eql o v) fun p =>
ob (yd a p (.bool false)) fun b =>
gb b true (evLd true 5 e h1) fun i =>
gh b true (y9 E (yb E) 0 none true 77 [i] h1) h1 fun m h2 =>
gb b true (evUn .not m) fun j =>
gb b true (some j) fun d =>
gb d false (evLd true 5 c h2) fun g =>
gh d false (y9 E (yb E) 0 none true 77 [g] h2) h2 fun r h3 =>
gb b true (yd d (.bool true) r) fun k =>
ob (yd b k (.bool false)) fun t =>
(yf h3 t)
def y2hc (s : St) : OX := y24g (s 1) (s 3) s.h
theorem y226 : T0 y1rs [.t 2] y2hc := fun _ => by kernel_rfl
def y1bx (a b : AV) (h : Heap) : OX :=
ob (evLd true 5 a h) fun g =>
oh (y9 E (yb E) 0 none true 29 [g] h) fun d h4 =>
ob (y8 .neq d (.int .i64 0)) fun j =>
cnd j
 (ob (evLd true 5 a h4) fun e =>
ob (evLd true 5 b h4) fun c =>
oh (y9 E (yb E) 0 none true 14 [e, c] h4) fun i h5 =>
(yf h5 i))
 ((y24g a b h4))
def y2hh (s : St) : OX := y1bx (s 1) (s 3) s.h
theorem y1zi : T0 y1mr [.t 2] y2hh := sq y226 fun _ => by kernel_rfl
def y1p3 (b : AV) (h : Heap) : OX :=
ob (evLd true 5 b h) fun c =>
oh (y9 E (yb E) 0 none true 166 [c] h) fun d h6 =>
oh (newC 0 (some 1) [.nils, .nils, (.int .i64 0), .nils, .nils] h6) fun a h7 =>
oh (evSt 5 a d h7) fun _ h8 =>
(y1bx b a h8)
def y2jl (s : St) : OX := y1p3 (s 1) s.h
theorem y240 : T0 y1kb [.t 2] y2jl := sq y1zi fun _ => by kernel_rfl
def y1bf (c : AV) (h : Heap) : OX :=
ob (evFa 3 c) fun n =>
ob (evLd false 1 n h) fun l =>
ob (y10 1 l h) fun r =>
ob (y8 .gtr r (.int .i64 400)) fun a =>
gb a false (evFa 0 c) fun g =>
gb a false (evLd false 1 g h) fun k =>
gb a false (y10 1 k h) fun i =>
gb a false (y8 .gtr i (.int .i64 100)) fun d =>
ob (yd a (.bool true) d) fun b =>
gb b false (evFa 4 c) fun p =>
gb b false (evLd false 1 p h) fun e =>
gb b false (y10 1 e h) fun o =>
gb b false (y8 .gtr o (.int .i64 50)) fun j =>
ob (yd b (.bool true) j) fun m =>
cnd m
 ((yf h (.bool true)))
 ((y1p3 c h))
def y2hx (s : St) : OX := y1bf (s 1) s.h
theorem y22b : T0 y1vc [.t 2] y2hx := sq y240 fun _ => by kernel_rfl
def y1an (b : AV) (h : Heap) : OX :=
oh (y9 E (yb E) 0 none true 165 [] h) fun c h9 =>
ob (evUn .not c) fun a =>
cnd a
 ((yf h9 (.bool false)))
 ((y1bf b h9))
def y2i9 (s : St) : OX := y1an (s 1) s.h
theorem y239 : T0 y1mp [.t 2] y2i9 := sq y22b fun _ => by kernel_rfl
def yvf (a : AV) (h : Heap) : OX :=
oh (newC 0 (some 0) (cellsOf a) h) fun b h10 =>
(y1an b h10)
def y2mj (s : St) : OX := yvf (s 0) s.h
theorem y1x9 : T0 y1vu [.t 2] y2mj := sq y239 fun _ => by kernel_rfl
@[simp] theorem y2nm : E.pure 162 = true := rfl
theorem y2px (a : AV) : (yb E).p 162 [a] = yvf a [⟨0, .dead⟩, ⟨0, .dead⟩] :=
  (y15 (cf := y2iu) (by kernel_rfl) rfl).trans ((y1x9 _).trans (by kernel_rfl))
def y1ko (a c : AV) (h : Heap) : OX :=
ob (evLd true 5 c h) fun b =>
oh (evSt 5 a b h) fun _ h1 =>
(ob (evLd true 5 a h1) fun r0 =>
  yf h1 r0)
def yar (s : St) : OX := y1ko (s 2) (s 3) s.h
theorem y20o : T0 y1k4 [.cell 2 true 5] yar := fun _ => by kernel_rfl
def yqx (a c b d : AV) (h : Heap) : OX :=
  W E 0 ypm ⟨[(2, a), (3, c), (22, b), (23, d)], h⟩ yar (y5 0 yar xN) (finP [.cell 2 true 5])
def ycr (s : St) : OX := yqx (s 2) (s 3) (s 22) (s 23) s.h
theorem ysi : T1 ypm yar (y5 0 yar xN) [.cell 2 true 5] ycr := fun s => yj.trans (by kernel_rfl)
def y2ew (a b e c : AV) (h : Heap) : OX :=
ob (y8 .add c (.int .i64 1)) fun d =>
(yqx a b e d h)
def y2gz (s : St) : OX := y2ew (s 2) (s 3) (s 22) (s 23) s.h
theorem y212 : T1 y1k8 ycr (y5 0 yar xN) [.cell 2 true 5] y2gz := fun _ => by kernel_rfl
def y2g6 (k a p b : AV) (h : Heap) : OX :=
ob (evFa 3 a) fun i =>
ob (evLd false 1 i h) fun o =>
ob (evFa 3 a) fun g =>
ob (evLd false 1 g h) fun j =>
ob (yw 9 j b) fun n =>
ob (evFa 8 n) fun e =>
ob (evLd false 1 e h) fun d =>
ofp (y4l E (yb E) 0 none true 39 [d] h) fun f9 =>
oh (y9 E (yb E) 0 none true 39 [d] h) fun l h2 =>
ob (yw 9 o b) fun m =>
ob (evFa 8 m) fun c =>
oh (evSt 1 c l h2) fun _ h3 =>
okK (yg [([], []), (ids1 i, []), ([], []), ([], []), (ids1 g, []), ([], []), ([], []), ([], []), (ids1 e, []), f9, ([], []), ([], []), ([], ids1 c)] [(1, 9)]) <|
(y2ew k a p b h3)
def y2kc (s : St) : OX := y2g6 (s 2) (s 3) (s 22) (s 23) s.h
theorem y1zg : T1 y1sf ycr (y5 0 yar xN) [.cell 2 true 5] y2kc := sq y212 fun _ => by kernel_rfl
def y25d (a b e c d : AV) (h : Heap) : OX :=
cnd d
 ((y2g6 a b e c h))
 ((y1ko a b h))
def y2j5 (s : St) : OX := y25d (s 2) (s 3) (s 22) (s 23) (s 24) s.h
theorem y228 : T1 y1p7 ycr (y5 0 yar xN) [.cell 2 true 5] y2j5 := sq y1zg fun _ => by kernel_rfl
def y23p (c d b a : AV) (h : Heap) : OX :=
ob (y8 .lss a b) fun e =>
(y25d c d b a e h)
def y2j1 (s : St) : OX := y23p (s 2) (s 3) (s 22) (s 23) s.h
theorem y1ys : T1 y1j5 ycr (y5 0 yar xN) [.cell 2 true 5] y2j1 := sq y228 fun _ => by kernel_rfl
theorem yuo (a c b d : AV) (h : Heap) : yqx a c b d h = (y23p a c b d h) :=
  y28.trans ((y1c _ _ _ (n' := ycr) (fun s => ysi s)).trans ((y1ys _).trans (by kernel_rfl)))
theorem y24k : T1 y1pa yar xN [.cell 2 true 5] ycr := fun s => yy.trans (ysi s)
def y1lh (b a : AV) (h : Heap) : OX :=
ob (evFa 3 a) fun c =>
ob (evLd false 1 c h) fun d =>
ob (y10 1 d h) fun e =>
(yqx b a e (.int .i64 0) h)
def y25x (s : St) : OX := y1lh (s 2) (s 3) s.h
theorem y22n : T1 y1lk yar xN [.cell 2 true 5] y25x := sq y24k fun _ => by kernel_rfl
theorem y1xw : T0 y1r4 [.cell 2 true 5] y25x := sq y20o y22n
def yu7 (a o : AV) (h : Heap) : OX :=
ob (evFa 0 a) fun e =>
ob (evLd false 1 e h) fun k =>
ofp (y4l E (yb E) 0 (some 2) false 39 [k] h) fun f2 =>
oh (y9 E (yb E) 0 (some 2) false 39 [k] h) fun r h4 =>
ob (evFa 1 a) fun m =>
ob (evLd false 1 m h4) fun j =>
ofp (y4l E (yb E) 0 (some 3) false 39 [j] h4) fun f5 =>
oh (y9 E (yb E) 0 (some 3) false 39 [j] h4) fun t h5 =>
ob (evFa 2 a) fun g =>
ob (evLd false 1 g h5) fun p =>
ob (evFa 3 a) fun i =>
ob (evLd false 1 i h5) fun c =>
ofp (y4l E (yb E) 0 (some 4) false 40 [c] h5) fun f10 =>
oh (y9 E (yb E) 0 (some 4) false 40 [c] h5) fun u h6 =>
ob (evFa 4 a) fun d =>
ob (evLd false 1 d h6) fun l =>
ofp (y4l E (yb E) 0 (some 5) false 41 [l] h6) fun f13 =>
oh (y9 E (yb E) 0 (some 5) false 41 [l] h6) fun n h7 =>
ob (y13 [.nils, .nils, (.int .i64 0), .nils, .nils] [(0, 1, r), (1, 1, t), (2, 1, p), (3, 1, u), (4, 1, n)]) fun v =>
oh (newC 0 (some 6) [.nils, .nils, (.int .i64 0), .nils, .nils] h7) fun b h8 =>
oh (evSt 5 b v h8) fun _ h9 =>
okK (yg [([], []), (ids1 e, []), f2, ([], []), (ids1 m, []), f5, ([], []), (ids1 g, []), ([], []), (ids1 i, []), f10, ([], []), (ids1 d, []), f13, ([], []), ([], [0 + 6]), ([], ids1 b)] [(2, 4), (2, 7), (5, 7), (2, 9), (5, 9), (7, 10), (2, 12), (5, 12), (10, 12), (7, 13), (1, 15), (2, 15), (4, 15), (5, 15), (7, 15), (9, 15), (10, 15), (12, 15), (13, 15)]) <|
(y1lh o b h9)
def y2fa (s : St) : OX := yu7 (s 1) (s 2) s.h
theorem y1hr : T0 y131 [.cell 2 true 5] y2fa := sq y1xw fun _ => by kernel_rfl
def yyu (a : AV) (h : Heap) : OX :=
oh (newC 0 (some 0) (cellsOf a) h) fun c h10 =>
oh (newC 0 (some 1) [.nils, .nils, (.int .i64 0), .nils, .nils] h10) fun b h11 =>
(yu7 c b h11)
def y2ar (s : St) : OX := yyu (s 0) s.h
theorem y1sb : T0 yxm [.cell 2 true 5] y2ar := sq y1hr fun _ => by kernel_rfl
@[simp] theorem y2o3 : E.pure 13 = true := rfl
theorem y2np (a : AV) : (yb E).p 13 [a] = yyu a [⟨0, .dead⟩, ⟨0, .dead⟩, ⟨0, .dead⟩, ⟨0, .dead⟩, ⟨0, .dead⟩, ⟨0, .dead⟩, ⟨0, .dead⟩] :=
  (y15 (cf := y2h9) (by kernel_rfl) rfl).trans ((y1sb _).trans (by kernel_rfl))
def y1v8 (h : Heap) : OX :=
(yf h (.bool true))
def y7f (s : St) : OX := y1v8 s.h
theorem y1n3 : T0 y13c [.t 4] y7f := fun _ => by kernel_rfl
def yip (a b c : AV) (h : Heap) : OX :=
  W E 0 ykg ⟨[(2, a), (3, b), (6, c)], h⟩ y7f (y5 2 y7f xN) (finP [.t 4])
def yc2 (s : St) : OX := yip (s 2) (s 3) (s 6) s.h
theorem ymc : T1 ykg y7f (y5 2 y7f xN) [.t 4] yc2 := fun s => yj.trans (by kernel_rfl)
def y160 (a c d : AV) (h : Heap) : OX :=
ob (y8 .add d (.int .i64 1)) fun b =>
(yip a c b h)
def y2e0 (s : St) : OX := y160 (s 2) (s 3) (s 6) s.h
theorem y1vp : T1 yzt yc2 (y5 2 y7f xN) [.t 4] y2e0 := fun _ => by kernel_rfl
def y09 (b c a : AV) (h : Heap) : OX :=
ob (evFa 4 b) fun g =>
ob (evLd false 1 g h) fun m =>
ob (yw 4 m a) fun i =>
ob (evLd true 4 i h) fun k =>
ob (evFa 4 c) fun d =>
ob (evLd false 1 d h) fun j =>
ob (yw 4 j a) fun e =>
ob (evLd true 4 e h) fun n =>
ob (y1fs true [0, 0, 0, 2] k n) fun l =>
cnd l
 ((yf h (.bool false)))
 ((y160 b c a h))
def y2ef (s : St) : OX := y09 (s 2) (s 3) (s 6) s.h
theorem y1dc : T1 y149 yc2 (y5 2 y7f xN) [.t 4] y2ef := sq y1vp fun _ => by kernel_rfl
def yte (a c b : AV) (h : Heap) : OX :=
ob (evFa 4 a) fun d =>
ob (evLd false 1 d h) fun e =>
ob (y10 1 e h) fun g =>
ob (y8 .lss b g) fun i =>
cnd i
 ((y09 a c b h))
 ((y1v8 h))
def y2c5 (s : St) : OX := yte (s 2) (s 3) (s 6) s.h
theorem y1hq : T1 y12h yc2 (y5 2 y7f xN) [.t 4] y2c5 := sq y1dc fun _ => by kernel_rfl
theorem ym4 (a b c : AV) (h : Heap) : yip a b c h = (yte a b c h) :=
  y28.trans ((y1c _ _ _ (n' := yc2) (fun s => ymc s)).trans ((y1hq _).trans (by kernel_rfl)))
theorem y1s8 : T1 y00 y7f xN [.t 4] yc2 := fun s => yy.trans (ymc s)
def y1up (a b : AV) (h : Heap) : OX :=
(yip a b (.int .i64 0) h)
def y6h (s : St) : OX := y1up (s 2) (s 3) s.h
theorem y1vf : T1 y01 y7f xN [.t 4] y6h := sq y1s8 fun _ => by kernel_rfl
theorem y1mo : T0 y144 [.t 4] y6h := sq y1n3 y1vf
def yit (a b c : AV) (h : Heap) : OX :=
  W E 0 yi0 ⟨[(2, a), (3, b), (5, c)], h⟩ y6h (y5 0 y6h xN) (finP [.t 4])
def yc3 (s : St) : OX := yit (s 2) (s 3) (s 5) s.h
theorem ymv : T1 yi0 y6h (y5 0 y6h xN) [.t 4] yc3 := fun s => yj.trans (by kernel_rfl)
def yvo (a b d : AV) (h : Heap) : OX :=
ob (y8 .add d (.int .i64 1)) fun c =>
(yit a b c h)
def y25a (s : St) : OX := yvo (s 2) (s 3) (s 5) s.h
theorem y1a8 : T1 yqj yc3 (y5 0 y6h xN) [.t 4] y25a := fun _ => by kernel_rfl
def you (b c a : AV) (h : Heap) : OX :=
ob (evFa 3 b) fun g =>
ob (evLd false 1 g h) fun k =>
ob (yw 9 k a) fun d =>
ob (evLd true 9 d h) fun i =>
ob (evFa 3 c) fun o =>
ob (evLd false 1 o h) fun l =>
ob (yw 9 l a) fun m =>
ob (evLd true 9 m h) fun j =>
oh (y9 E (yb E) 0 none true 28 [i, j] h) fun n h1 =>
ob (evUn .not n) fun e =>
cnd e
 ((yf h1 (.bool false)))
 ((yvo b c a h1))
def y224 (s : St) : OX := you (s 2) (s 3) (s 5) s.h
theorem y1bj : T1 ytp yc3 (y5 0 y6h xN) [.t 4] y224 := sq y1a8 fun _ => by kernel_rfl
def yij (a c b : AV) (h : Heap) : OX :=
ob (evFa 3 a) fun d =>
ob (evLd false 1 d h) fun g =>
ob (y10 1 g h) fun i =>
ob (y8 .lss b i) fun e =>
cnd e
 ((you a c b h))
 ((y1up a c h))
def y222 (s : St) : OX := yij (s 2) (s 3) (s 5) s.h
theorem y1ar : T1 yqw yc3 (y5 0 y6h xN) [.t 4] y222 := sq y1bj fun _ => by kernel_rfl
theorem ynq (a b c : AV) (h : Heap) : yit a b c h = (yij a b c h) :=
  y28.trans ((y1c _ _ _ (n' := yc3) (fun s => ymv s)).trans ((y1ar _).trans (by kernel_rfl)))
theorem y1b3 : T1 ys6 y6h xN [.t 4] yc3 := fun s => yy.trans (ymv s)
def ywk (a b : AV) (h : Heap) : OX :=
(yit a b (.int .i64 0) h)
def yyi (s : St) : OX := ywk (s 2) (s 3) s.h
theorem y1ai : T1 yty y6h xN [.t 4] yyi := sq y1b3 fun _ => by kernel_rfl
theorem y1cm : T0 ytw [.t 4] yyi := sq y1mo y1ai
def ybg (d e : AV) (h : Heap) : OX :=
ob (evFa 0 d) fun l =>
ob (evLd false 1 l h) fun t =>
ob (evFa 0 e) fun z =>
ob (evLd false 1 z h) fun m =>
oh (y9 E (yb E) 0 none true 11 [t, m] h) fun y h2 =>
ob (evUn .not y) fun c =>
gb c false (evFa 1 d) fun D =>
gb c false (evLd false 1 D h2) fun M =>
gb c false (evFa 1 e) fun G =>
gb c false (evLd false 1 G h2) fun r =>
gh c false (y9 E (yb E) 0 none true 11 [M, r] h2) h2 fun v h3 =>
gb c false (evUn .not v) fun H =>
ob (yd c (.bool true) H) fun g =>
gb g false (evFa 2 d) fun I =>
gb g false (evLd false 1 I h3) fun k =>
gb g false (evFa 2 e) fun P =>
gb g false (evLd false 1 P h3) fun F =>
gb g false (y8 .neq k F) fun C =>
ob (yd g (.bool true) C) fun b =>
gb b false (evFa 3 d) fun B =>
gb b false (evLd false 1 B h3) fun w =>
gb b false (y10 1 w h3) fun J =>
gb b false (evFa 3 e) fun N =>
gb b false (evLd false 1 N h3) fun u =>
gb b false (y10 1 u h3) fun O =>
gb b false (y8 .neq J O) fun L =>
ob (yd b (.bool true) L) fun a =>
gb a false (evFa 4 d) fun n =>
gb a false (evLd false 1 n h3) fun K =>
gb a false (y10 1 K h3) fun A =>
gb a false (evFa 4 e) fun x =>
gb a false (evLd false 1 x h3) fun o =>
gb a false (y10 1 o h3) fun i =>
gb a false (y8 .neq A i) fun p =>
ob (yd a (.bool true) p) fun j =>
cnd j
 ((yf h3 (.bool false)))
 ((ywk d e h3))
def y257 (s : St) : OX := ybg (s 2) (s 3) s.h
theorem y1at : T0 yt0 [.t 4] y257 := sq y1cm fun _ => by kernel_rfl
def yb7 (a c : AV) (h : Heap) : OX :=
oh (newC 0 (some 0) (cellsOf a) h) fun b h4 =>
oh (newC 0 (some 1) (cellsOf c) h4) fun d h5 =>
(ybg b d h5)
def y1wz (s : St) : OX := yb7 (s 0) (s 1) s.h
theorem y1bm : T0 yqb [.t 4] y1wz := sq y1at fun _ => by kernel_rfl
@[simp] theorem y2qn : E.pure 14 = true := rfl
theorem y2kp (a b : AV) : (yb E).p 14 [a, b] = yb7 a b [⟨0, .dead⟩, ⟨0, .dead⟩] :=
  (y15 (cf := y26z) (by kernel_rfl) rfl).trans ((y1bm _).trans (by kernel_rfl))
def y2g2 (h : Heap) : OX :=
(yf h (.int .i64 0))
def yac (s : St) : OX := y2g2 s.h
theorem y20x : T0 y1m1 [.t 2] yac := fun _ => by kernel_rfl
def yo5 (e a d b c : AV) (h : Heap) : OX :=
  W E 0 ypu ⟨[(1, e), (3, a), (136, d), (137, b), (138, c)], h⟩ yac (y5 6 yac xN) (finP [.t 2])
def ycy (s : St) : OX := yo5 (s 1) (s 3) (s 136) (s 137) (s 138) s.h
theorem ysn : T1 ypu yac (y5 6 yac xN) [.t 2] ycy := fun s => yj.trans (by kernel_rfl)
def y2al (g a e b d : AV) (h : Heap) : OX :=
ob (y8 .add d (.int .i64 1)) fun c =>
(yo5 g a e b c h)
def y2h5 (s : St) : OX := y2al (s 1) (s 3) (s 136) (s 137) (s 138) s.h
theorem y1zj : T1 y1md ycy (y5 6 yac xN) [.t 2] y2h5 := fun _ => by kernel_rfl
def ypv (k i j P l : AV) (h : Heap) : OX :=
ob (yw 4 j l) fun v =>
ob (evLd true 4 v h) fun I =>
oh (newC 0 (some 2) [(.int .i64 0), (.int .i64 0), (.int .i64 0), (.str [])] h) fun b h1 =>
oh (evSt 4 b I h1) fun _ h2 =>
ob (evFa 0 b) fun B =>
ob (evLd false 1 B h2) fun L =>
ob (y8 .lss L (.int .i64 0)) fun c =>
gb c false (evFa 0 b) fun N =>
gb c false (evLd false 1 N h2) fun S =>
gb c false (evFa 1 b) fun x =>
gb c false (evLd false 1 x h2) fun F =>
gb c false (y8 .geq S F) fun G =>
ob (yd c (.bool true) G) fun e =>
gb e false (evFa 1 b) fun D =>
gb e false (evLd false 1 D h2) fun o =>
gb e false (some i) fun y =>
gb e false (y8 .gtr o y) fun K =>
ob (yd e (.bool true) K) fun g =>
gb g false (evFa 2 b) fun m =>
gb g false (evLd false 1 m h2) fun H =>
gb g false (y8 .lss H (.int .i64 0)) fun Q =>
ob (yd g (.bool true) Q) fun d =>
gb d false (evFa 2 b) fun t =>
gb d false (evLd false 1 t h2) fun n =>
gb d false (some i) fun A =>
gb d false (y8 .geq n A) fun J =>
ob (yd d (.bool true) J) fun a =>
gb a false (evFa 3 k) fun C =>
gb a false (evLd false 1 C h2) fun O =>
gb a false (evFa 2 b) fun p =>
gb a false (evLd false 1 p h2) fun w =>
gb a false (yw 9 O w) fun r =>
gb a false (evFa 0 r) fun R =>
gb a false (evLd false 1 R h2) fun z =>
gb a false (y8 .neq z (.int .i64 32)) fun u =>
ob (yd a (.bool true) u) fun M =>
cnd M
 ((yf h2 (.int .i64 80)))
 ((y2al k i j P l h2))
def y2me (s : St) : OX := ypv (s 1) (s 3) (s 136) (s 137) (s 138) s.h
theorem y1yu : T1 y1qr ycy (y5 6 yac xN) [.t 2] y2me := sq y1zj fun _ => by kernel_rfl
def y1xq (g b e c d a : AV) (h : Heap) : OX :=
cnd a
 ((ypv g b e c d h))
 ((y2g2 h))
def y2kq (s : St) : OX := y1xq (s 1) (s 3) (s 136) (s 137) (s 138) (s 139) s.h
theorem y1wn : T1 y1ow ycy (y5 6 yac xN) [.t 2] y2kq := sq y1yu fun _ => by kernel_rfl
def y248 (g d e a b : AV) (h : Heap) : OX :=
ob (y8 .lss b a) fun c =>
(y1xq g d e a b c h)
def y2mr (s : St) : OX := y248 (s 1) (s 3) (s 136) (s 137) (s 138) s.h
theorem y1x8 : T1 y1wd ycy (y5 6 yac xN) [.t 2] y2mr := sq y1wn fun _ => by kernel_rfl
theorem ys3 (e a d b c : AV) (h : Heap) : yo5 e a d b c h = (y248 e a d b c h) :=
  y28.trans ((y1c _ _ _ (n' := ycy) (fun s => ysn s)).trans ((y1x8 _).trans (by kernel_rfl)))
theorem y22k : T1 y1um yac xN [.t 2] ycy := fun s => yy.trans (ysn s)
def y1f8 (b d : AV) (h : Heap) : OX :=
ob (evFa 4 b) fun c =>
ob (evLd false 1 c h) fun a =>
ob (y10 1 a h) fun e =>
(yo5 b d a e (.int .i64 0) h)
def y5x (s : St) : OX := y1f8 (s 1) (s 3) s.h
theorem y234 : T1 y1sd yac xN [.t 2] y5x := sq y22k fun _ => by kernel_rfl
theorem y24y : T0 y1hl [.t 2] y5x := sq y20x y234
def yf5 (e b a d c : AV) (h : Heap) : OX :=
  W E 0 yih ⟨[(1, e), (3, b), (92, a), (93, d), (94, c)], h⟩ y5x (y5 4 y5x xN) (finP [.t 2])
def y94 (s : St) : OX := yf5 (s 1) (s 3) (s 92) (s 93) (s 94) s.h
theorem ynp : T1 yih y5x (y5 4 y5x xN) [.t 2] y94 := fun s => yj.trans (by kernel_rfl)
def y11g (g c b e d : AV) (h : Heap) : OX :=
ob (y8 .add d (.int .i64 1)) fun a =>
(yf5 g c b e a h)
def yag (s : St) : OX := y11g (s 1) (s 3) (s 92) (s 93) (s 94) s.h
theorem y1rx : T1 yzc y94 (y5 4 y5x xN) [.t 2] yag := fun _ => by kernel_rfl
def ycb (g m i e J A v : AV) (h : Heap) : OX :=
ob (evFa 0 e) fun N =>
ob (evLd false 1 N h) fun K =>
ob (y8 .eql K (.int .i64 32)) fun d =>
gb d true (some i) fun t =>
gb d true (y8 .eql t (.int .i64 0)) fun w =>
gb d true (some w) fun b =>
gb b false (evFa 3 g) fun I =>
gb b false (evLd false 1 I h) fun G =>
gb b false (some i) fun D =>
gb b false (y8 .sub D (.int .i64 1)) fun M =>
gb b false (yw 9 G M) fun x =>
gb b false (evLd true 9 x h) fun C =>
gh b false (y9 E (yb E) 0 none true 24 [C] h) h fun o h3 =>
gb b false (evUn .not o) fun r =>
gb d true (yd b (.bool true) r) fun p =>
ob (yd d p (.bool false)) fun c =>
gb c false (evLd true 9 e h3) fun B =>
gh c false (y9 E (yb E) 0 none true 22 [B] h3) h3 fun O h4 =>
gb c false (some O) fun a =>
gb a true (evFa 3 g) fun j =>
gb a true (evLd false 1 j h4) fun n =>
gb a true (evFa 6 e) fun H =>
gb a true (evLd false 1 H h4) fun z =>
gb a true (yw 9 n z) fun u =>
gb a true (evFa 0 u) fun L =>
gb a true (evLd false 1 L h4) fun F =>
gb a true (y8 .eql F (.int .i64 32)) fun k =>
gb c false (yd a k (.bool false)) fun l =>
ob (yd c (.bool true) l) fun y =>
cnd y
 ((yf h4 (.int .i64 80)))
 ((y11g g m J A v h4))
def y2f4 (s : St) : OX := ycb (s 1) (s 3) (s 8) (s 9) (s 92) (s 93) (s 94) s.h
theorem y1k0 : T1 y12c yag (y5 5 yag (y5 4 y5x xN)) [.t 2] y2f4 := fun _ => by kernel_rfl
def y18a (b d k a c e g : AV) (h : Heap) : OX :=
ob (evLd true 5 b h) fun m =>
ob (evLd true 9 a h) fun l =>
oh (y9 E (yb E) 0 none true 63 [m, l] h) fun j h5 =>
ob (evUn .not j) fun i =>
cnd i
 ((yf h5 (.int .i64 80)))
 ((ycb b d k a c e g h5))
def y28w (s : St) : OX := y18a (s 1) (s 3) (s 8) (s 9) (s 92) (s 93) (s 94) s.h
theorem y1jb : T1 yyr yag (y5 5 yag (y5 4 y5x xN)) [.t 2] y28w := sq y1k0 fun _ => by kernel_rfl
def yqi (j g b i a : AV) (h : Heap) : OX :=
ob (yw 9 b a) fun d =>
ob (evLd true 9 d h) fun e =>
oh (newC 0 (some 1) [(.int .i64 0), (.int .i64 0), (.int .i64 0), (.int .i64 0), (.int .i64 0), (.int .i64 0), (.int .i64 0), (.str []), .nils] h) fun c h6 =>
oh (evSt 9 c e h6) fun _ h7 =>
(y18a j g a c b i a h7)
def ywd (s : St) : OX := yqi (s 1) (s 3) (s 92) (s 93) (s 94) s.h
theorem y1qa : T1 y0f yag (y5 5 yag (y5 4 y5x xN)) [.t 2] ywd := sq y1jb fun _ => by kernel_rfl
theorem y1ft : T1 y12m yag (y5 4 y5x xN) [.t 2] ywd := fun s => yy.trans (y1qa s)
theorem y1nw : T1 y17q y94 (y5 4 y5x xN) [.t 2] ywd := sq y1rx y1ft
def yzj (b a c e d g : AV) (h : Heap) : OX :=
cnd g
 ((yqi b a c e d h))
 ((y1f8 b a h))
def y2fu (s : St) : OX := yzj (s 1) (s 3) (s 92) (s 93) (s 94) (s 95) s.h
theorem y1my : T1 y15l y94 (y5 4 y5x xN) [.t 2] y2fu := sq y1nw fun _ => by kernel_rfl
def y14b (g d c b a : AV) (h : Heap) : OX :=
ob (y8 .lss a b) fun e =>
(yzj g d c b a e h)
def y2ca (s : St) : OX := y14b (s 1) (s 3) (s 92) (s 93) (s 94) s.h
theorem y1r7 : T1 y156 y94 (y5 4 y5x xN) [.t 2] y2ca := sq y1my fun _ => by kernel_rfl
theorem ynx (e b a d c : AV) (h : Heap) : yf5 e b a d c h = (y14b e b a d c h) :=
  y28.trans ((y1c _ _ _ (n' := y94) (fun s => ynp s)).trans ((y1r7 _).trans (by kernel_rfl)))
theorem y1t8 : T1 y186 y5x xN [.t 2] y94 := fun s => yy.trans (ynp s)
def yt3 (b d : AV) (h : Heap) : OX :=
ob (evFa 3 b) fun c =>
ob (evLd false 1 c h) fun a =>
ob (y10 1 a h) fun e =>
(yf5 b d a e (.int .i64 0) h)
def y5v (s : St) : OX := yt3 (s 1) (s 3) s.h
theorem y1op : T1 y17w y5x xN [.t 2] y5v := sq y1t8 fun _ => by kernel_rfl
theorem y1k3 : T0 y11t [.t 2] y5v := sq y24y y1op
def yfo (e c b d a : AV) (h : Heap) : OX :=
  W E 0 yi7 ⟨[(1, e), (3, c), (62, b), (63, d), (64, a)], h⟩ y5v (y5 2 y5v xN) (finP [.t 2])
def y8x (s : St) : OX := yfo (s 1) (s 3) (s 62) (s 63) (s 64) s.h
theorem ymy : T1 yi7 y5v (y5 2 y5v xN) [.t 2] y8x := fun s => yj.trans (by kernel_rfl)
def y1dt (g c b e a : AV) (h : Heap) : OX :=
ob (y8 .add a (.int .i64 1)) fun d =>
(yfo g c b e d h)
def y2fs (s : St) : OX := y1dt (s 1) (s 3) (s 62) (s 63) (s 64) s.h
theorem y1o6 : T1 y17o y8x (y5 2 y5v xN) [.t 2] y2fs := fun _ => by kernel_rfl
def yir (g k i n c : AV) (h : Heap) : OX :=
ob (yw 1 i c) fun l =>
ob (evLd false 1 l h) fun e =>
ob (y8 .lss e (.int .i64 0)) fun b =>
gb b false (some e) fun u =>
gb b false (evFa 0 g) fun x =>
gb b false (evLd false 1 x h) fun A =>
gb b false (y10 1 A h) fun z =>
gb b false (y8 .geq u z) fun w =>
ob (yd b (.bool true) w) fun a =>
gb a false (evFa 1 g) fun o =>
gb a false (evLd false 1 o h) fun r =>
gb a false (some c) fun p =>
gb a false (ybi 1 r none (some p)) fun m =>
gb a false (some e) fun t =>
gh a false (y9 E (yb E) 0 none true 46 [m, t] h) h fun v h8 =>
ob (yd a (.bool true) v) fun d =>
gb d false (some c) fun y =>
gb d false (y8 .gtr y (.int .i64 20)) fun B =>
ob (yd d (.bool true) B) fun j =>
cnd j
 ((yf h8 (.int .i64 80)))
 ((y1dt g k i n c h8))
def y2a9 (s : St) : OX := yir (s 1) (s 3) (s 62) (s 63) (s 64) s.h
theorem y1pg : T1 yyd y8x (y5 2 y5v xN) [.t 2] y2a9 := sq y1o6 fun _ => by kernel_rfl
def y16g (b a d g c e : AV) (h : Heap) : OX :=
cnd e
 ((yir b a d g c h))
 ((yt3 b a h))
def y289 (s : St) : OX := y16g (s 1) (s 3) (s 62) (s 63) (s 64) (s 65) s.h
theorem y1h1 : T1 y0u y8x (y5 2 y5v xN) [.t 2] y289 := sq y1pg fun _ => by kernel_rfl
def y16l (g d c b a : AV) (h : Heap) : OX :=
ob (y8 .lss a b) fun e =>
(y16g g d c b a e h)
def y2b9 (s : St) : OX := y16l (s 1) (s 3) (s 62) (s 63) (s 64) s.h
theorem y1h4 : T1 y12u y8x (y5 2 y5v xN) [.t 2] y2b9 := sq y1h1 fun _ => by kernel_rfl
theorem ylt (e c b d a : AV) (h : Heap) : yfo e c b d a h = (y16l e c b d a h) :=
  y28.trans ((y1c _ _ _ (n' := y8x) (fun s => ymy s)).trans ((y1h4 _).trans (by kernel_rfl)))
theorem y1ik : T1 y17v y5v xN [.t 2] y8x := fun s => yy.trans (ymy s)
def ys2 (b c : AV) (h : Heap) : OX :=
ob (evFa 1 b) fun d =>
ob (evLd false 1 d h) fun a =>
ob (y10 1 a h) fun e =>
(yfo b c a e (.int .i64 0) h)
def y5q (s : St) : OX := ys2 (s 1) (s 3) s.h
theorem y1h6 : T1 yzm y5v xN [.t 2] y5q := sq y1ik fun _ => by kernel_rfl
theorem y1d6 : T0 y175 [.t 2] y5q := sq y1k3 y1h6
def yg1 (e b c d a : AV) (h : Heap) : OX :=
  W E 0 yj9 ⟨[(1, e), (3, b), (48, c), (49, d), (50, a)], h⟩ y5q (y5 0 y5q xN) (finP [.t 2])
def y8g (s : St) : OX := yg1 (s 1) (s 3) (s 48) (s 49) (s 50) s.h
theorem ym7 : T1 yj9 y5q (y5 0 y5q xN) [.t 2] y8g := fun s => yj.trans (by kernel_rfl)
def y1iq (g c d e b : AV) (h : Heap) : OX :=
ob (y8 .add b (.int .i64 1)) fun a =>
(yg1 g c d e a h)
def y2cd (s : St) : OX := y1iq (s 1) (s 3) (s 48) (s 49) (s 50) s.h
theorem y1dy : T1 y14y y8g (y5 0 y5q xN) [.t 2] y2cd := fun _ => by kernel_rfl
def yq8 (m i d j c : AV) (h : Heap) : OX :=
ob (yw 1 d c) fun l =>
ob (evLd false 1 l h) fun b =>
ob (y8 .lss b (.int .i64 1)) fun a =>
gb a false (some b) fun e =>
gb a false (y8 .gtr e (.int .i64 3)) fun k =>
ob (yd a (.bool true) k) fun g =>
cnd g
 ((yf h (.int .i64 80)))
 ((y1iq m i d j c h))
def y2bz (s : St) : OX := yq8 (s 1) (s 3) (s 48) (s 49) (s 50) s.h
theorem y1du : T1 y183 y8g (y5 0 y5q xN) [.t 2] y2bz := sq y1dy fun _ => by kernel_rfl
def y16x (b a e g d c : AV) (h : Heap) : OX :=
cnd c
 ((yq8 b a e g d h))
 ((ys2 b a h))
def y2ec (s : St) : OX := y16x (s 1) (s 3) (s 48) (s 49) (s 50) (s 51) s.h
theorem y1nk : T1 yyx y8g (y5 0 y5q xN) [.t 2] y2ec := sq y1du fun _ => by kernel_rfl
def y12j (g d e b a : AV) (h : Heap) : OX :=
ob (y8 .lss a b) fun c =>
(y16x g d e b a c h)
def y2bs (s : St) : OX := y12j (s 1) (s 3) (s 48) (s 49) (s 50) s.h
theorem y1ge : T1 yxf y8g (y5 0 y5q xN) [.t 2] y2bs := sq y1nk fun _ => by kernel_rfl
theorem yo3 (e b c d a : AV) (h : Heap) : yg1 e b c d a h = (y12j e b c d a h) :=
  y28.trans ((y1c _ _ _ (n' := y8g) (fun s => ym7 s)).trans ((y1ge _).trans (by kernel_rfl)))
theorem y1p9 : T1 y11b y5q xN [.t 2] y8g := fun s => yy.trans (ym7 s)
def ylm (b d : AV) (h : Heap) : OX :=
ob (evFa 0 b) fun c =>
ob (evLd false 1 c h) fun a =>
ob (y10 1 a h) fun e =>
(yg1 b d a e (.int .i64 0) h)
def y1or (s : St) : OX := ylm (s 1) (s 3) s.h
theorem y1ol : T1 y161 y5q xN [.t 2] y1or := sq y1p9 fun _ => by kernel_rfl
theorem y1tk : T0 y15f [.t 2] y1or := sq y1d6 y1ol
def yer (c d : AV) (h : Heap) : OX :=
ob (y8 .lss d (.int .i64 1)) fun i =>
gb i false (some d) fun r =>
gb i false (y8 .gtr r (.int .i64 20000)) fun z =>
ob (yd i (.bool true) z) fun b =>
gb b false (evFa 0 c) fun A =>
gb b false (evLd false 1 A h) fun l =>
gb b false (y10 1 l h) fun G =>
gb b false (y8 .gtr G (.int .i64 20000)) fun y =>
ob (yd b (.bool true) y) fun e =>
gb e false (evFa 2 c) fun x =>
gb e false (evLd false 1 x h) fun w =>
gb e false (y8 .lss w (.int .i64 0)) fun t =>
ob (yd e (.bool true) t) fun g =>
gb g false (evFa 2 c) fun p =>
gb g false (evLd false 1 p h) fun F =>
gb g false (y8 .gtr F (.int .i64 3)) fun D =>
ob (yd g (.bool true) D) fun a =>
gb a false (evFa 3 c) fun n =>
gb a false (evLd false 1 n h) fun C =>
gb a false (some d) fun v =>
gb a false (y8 .sub v (.int .i64 1)) fun u =>
gb a false (yw 9 C u) fun m =>
gb a false (evLd true 9 m h) fun j =>
gh a false (y9 E (yb E) 0 none true 24 [j] h) h fun o h9 =>
gb a false (evUn .not o) fun k =>
ob (yd a (.bool true) k) fun B =>
cnd B
 ((yf h9 (.int .i64 80)))
 ((ylm c d h9))
def y2bm (s : St) : OX := yer (s 1) (s 3) s.h
theorem y1cv : T0 y110 [.t 2] y2bm := sq y1tk fun _ => by kernel_rfl
def yeg (a : AV) (h : Heap) : OX :=
ob (evFa 3 a) fun d =>
ob (evLd false 1 d h) fun b =>
ob (y10 1 b h) fun c =>
(yer a c h)
def y2e8 (s : St) : OX := yeg (s 1) s.h
theorem y1gz : T0 yxh [.t 2] y2e8 := sq y1cv fun _ => by kernel_rfl
def yco (a : AV) (h : Heap) : OX :=
oh (newC 0 (some 0) (cellsOf a) h) fun b h10 =>
(yeg b h10)
def y2db (s : St) : OX := yco (s 0) s.h
theorem y1g1 : T0 y18f [.t 2] y2db := sq y1gz fun _ => by kernel_rfl
@[simp] theorem y2r7 : E.pure 8 = true := rfl
theorem y2q8 (a : AV) : (yb E).p 8 [a] = yco a [⟨0, .dead⟩, ⟨0, .dead⟩, ⟨0, .dead⟩] :=
  (y15 (cf := y2kl) (by kernel_rfl) rfl).trans ((y1g1 _).trans (by kernel_rfl))
def y2cb (h : Heap) : OX :=
oh (y12 0 (some 0) 1 2 [(.int .i64 0)] [(0, (.int .i64 1)), (1, (.int .i64 3))] h) fun e h1 =>
oh (y12 0 (some 1) 1 1 [(.int .i64 0)] [(0, (.int .i64 1))] h1) fun g h2 =>
ob (y13 [(.int .i64 0), (.int .i64 0), (.int .i64 0), (.int .i64 0), (.int .i64 0), (.int .i64 0), (.int .i64 0), (.str []), .nils] [(0, 1, (.int .i64 8)), (2, 1, (.int .i64 1))]) fun G =>
ob (y13 [(.int .i64 0), (.int .i64 0), (.int .i64 0), (.int .i64 0), (.int .i64 0), (.int .i64 0), (.int .i64 0), (.str []), .nils] [(0, 1, (.int .i64 15)), (1, 1, (.int .i64 0)), (2, 1, (.int .i64 1))]) fun d =>
ob (y13 [(.int .i64 0), (.int .i64 0), (.int .i64 0), (.int .i64 0), (.int .i64 0), (.int .i64 0), (.int .i64 0), (.str []), .nils] [(0, 1, (.int .i64 8)), (2, 1, (.int .i64 1))]) fun k =>
ob (y13 [(.int .i64 0), (.int .i64 0), (.int .i64 0), (.int .i64 0), (.int .i64 0), (.int .i64 0), (.int .i64 0), (.str []), .nils] [(0, 1, (.int .i64 30)), (2, 1, (.int .i64 (-1)))]) fun i =>
oh (y12 0 (some 2) 9 4 [(.int .i64 0), (.int .i64 0), (.int .i64 0), (.int .i64 0), (.int .i64 0), (.int .i64 0), (.int .i64 0), (.str []), .nils] [(0, G), (1, d), (2, k), (3, i)] h2) fun m h3 =>
ob (y13 [.nils, .nils, (.int .i64 0), .nils, .nils] [(0, 1, e), (1, 1, g), (3, 1, m)]) fun r =>
oh (y9 E (yb E) 0 none true 166 [r] h3) fun j h4 =>
oh (newC 0 (some 3) [.nils, .nils, (.int .i64 0), .nils, .nils] h4) fun c h5 =>
oh (evSt 5 c j h5) fun _ h6 =>
ob (evFa 3 c) fun p =>
ob (evLd false 1 p h6) fun A =>
ob (y10 1 A h6) fun y =>
ob (y8 .eql y (.int .i64 4)) fun a =>
gb a true (evFa 3 c) fun x =>
gb a true (evLd false 1 x h6) fun l =>
gb a true (yw 9 l (.int .i64 0)) fun n =>
gb a true (evFa 0 n) fun C =>
gb a true (evLd false 1 C h6) fun z =>
gb a true (y8 .eql z (.int .i64 8)) fun B =>
ob (yd a B (.bool false)) fun b =>
gb b true (evFa 3 c) fun F =>
gb b true (evLd false 1 F h6) fun w =>
gb b true (yw 9 w (.int .i64 2)) fun u =>
gb b true (evFa 0 u) fun D =>
gb b true (evLd false 1 D h6) fun v =>
gb b true (y8 .eql v (.int .i64 33)) fun t =>
ob (yd b t (.bool false)) fun o =>
(yf h6 o)
def y2hn (s : St) : OX := y2cb s.h
theorem y20s : T0 y1tr [.t 0] y2hn := fun _ => by kernel_rfl
@[simp] theorem y2my : E.pure 165 = true := rfl
theorem y2o1 : (yb E).p 165 [] = y2cb [⟨0, .dead⟩, ⟨0, .dead⟩, ⟨0, .dead⟩, ⟨0, .dead⟩] :=
  (y15 (cf := y2ii) (by kernel_rfl) rfl).trans ((y20s _).trans (by kernel_rfl))
def y1qu (c a : AV) (h : Heap) : OX :=
ob (evLd true 5 c h) fun b =>
oh (evSt 5 a b h) fun _ h1 =>
(ob (evLd true 5 a h1) fun r0 =>
  yf h1 r0)
def yap (s : St) : OX := y1qu (s 1) (s 2) s.h
theorem y1z9 : T0 y1e0 [.cell 2 true 5] yap := fun _ => by kernel_rfl
def yna (g b c d e a : AV) (h : Heap) : OX :=
  W E 0 yp9 ⟨[(1, g), (2, b), (3, c), (85, d), (86, e), (87, a)], h⟩ yap (y5 6 yap xN) (finP [.cell 2 true 5])
def ydc (s : St) : OX := yna (s 1) (s 2) (s 3) (s 85) (s 86) (s 87) s.h
theorem ytx : T1 yp9 yap (y5 6 yap xN) [.cell 2 true 5] ydc := fun s => yj.trans (by kernel_rfl)
def y1l5 (i b c e g a : AV) (h : Heap) : OX :=
ob (y8 .add a (.int .i64 1)) fun d =>
(yna i b c e g d h)
def y2k0 (s : St) : OX := y1l5 (s 1) (s 2) (s 3) (s 85) (s 86) (s 87) s.h
theorem y1wt : T1 y1ic ydc (y5 6 yap xN) [.cell 2 true 5] y2k0 := fun _ => by kernel_rfl
def yvb (g i d e j c : AV) (h : Heap) : OX :=
ob (yw 9 e c) fun u =>
ob (evLd true 9 u h) fun x =>
oh (newC 0 (some 15) [(.int .i64 0), (.int .i64 0), (.int .i64 0), (.int .i64 0), (.int .i64 0), (.int .i64 0), (.int .i64 0), (.str []), .nils] h) fun m h2 =>
oh (evSt 9 m x h2) fun _ h3 =>
ob (evLd true 9 m h3) fun z =>
oh (y9 E (yb E) 0 none true 169 [z] h3) fun k h4 =>
ob (y40 0 k) fun F =>
ob (y40 1 k) fun b =>
oh (newC 0 (some 16) [(.int .i64 0), (.int .i64 0), (.int .i64 0)] h4) fun l h5 =>
oh (evSt 3 l F h5) fun _ h6 =>
gb b true (evLd false 1 d h6) fun J =>
gb b true (some c) fun v =>
gb b true (yw 1 J v) fun w =>
gb b true (evLd false 1 w h6) fun r =>
gb b true (y4q 2 true r AV.nilm) fun I =>
ob (yd b I (.bool false)) fun a =>
gb a true (evLd false 1 d h6) fun A =>
gb a true (some c) fun p =>
gb a true (yw 1 A p) fun t =>
gb a true (evLd false 1 t h6) fun H =>
gb a true (evLd true 3 l h6) fun D =>
gb a true (y6r true [0, 0, 0] (.bool false) false H D h6) fun C =>
ob (yd a C (.bool false)) fun B =>
cnd B
 (ob (evFa 3 g) fun G =>
ob (evLd false 1 G h6) fun y =>
ob (y13 [(.int .i64 0), (.int .i64 0), (.int .i64 0), (.int .i64 0), (.int .i64 0), (.int .i64 0), (.int .i64 0), (.str []), .nils] [(0, 1, (.int .i64 33))]) fun n =>
ob (yw 9 y c) fun o =>
oh (evSt 9 o n h6) fun _ h7 =>
(y1l5 g i d e j c h7))
 ((y1l5 g i d e j c h6))
def y2if (s : St) : OX := yvb (s 1) (s 2) (s 3) (s 85) (s 86) (s 87) s.h
theorem y1ya : T1 y1gf ydc (y5 6 yap xN) [.cell 2 true 5] y2if := sq y1wt fun _ => by kernel_rfl
def y1y6 (b a d g i c e : AV) (h : Heap) : OX :=
cnd e
 ((yvb b a d g i c h))
 ((y1qu b a h))
def y2l0 (s : St) : OX := y1y6 (s 1) (s 2) (s 3) (s 85) (s 86) (s 87) (s 88) s.h
theorem y23y : T1 y1nr ydc (y5 6 yap xN) [.cell 2 true 5] y2l0 := sq y1ya fun _ => by kernel_rfl
def y24c (i c d g b a : AV) (h : Heap) : OX :=
ob (y8 .lss a b) fun e =>
(y1y6 i c d g b a e h)
def y2m2 (s : St) : OX := y24c (s 1) (s 2) (s 3) (s 85) (s 86) (s 87) s.h
theorem y1x0 : T1 y1j0 ydc (y5 6 yap xN) [.cell 2 true 5] y2m2 := sq y23y fun _ => by kernel_rfl
theorem ytv (g b c d e a : AV) (h : Heap) : yna g b c d e a h = (y24c g b c d e a h) :=
  y28.trans ((y1c _ _ _ (n' := ydc) (fun s => ytx s)).trans ((y1x0 _).trans (by kernel_rfl)))
theorem y1zs : T1 y1ls yap xN [.cell 2 true 5] ydc := fun s => yy.trans (ytx s)
def y20y (b c e : AV) (h : Heap) : OX :=
ob (evFa 3 b) fun d =>
ob (evLd false 1 d h) fun a =>
ob (y10 1 a h) fun g =>
(yna b c e a g (.int .i64 0) h)
def y31 (s : St) : OX := y20y (s 1) (s 2) (s 3) s.h
theorem y24o : T1 y1fh yap xN [.cell 2 true 5] y31 := sq y1zs fun _ => by kernel_rfl
theorem y202 : T0 y1ka [.cell 2 true 5] y31 := sq y1z9 y24o
def yd2 (d b c e a : AV) (h : Heap) : OX :=
  W E 0 yhu ⟨[(1, d), (2, b), (3, c), (4, e), (5, a)], h⟩ y31 (y5 0 y31 xN) (finP [.cell 2 true 5])
def y14 (s : St) : OX := yd2 (s 1) (s 2) (s 3) (s 4) (s 5) s.h
theorem yof : T1 yhu y31 (y5 0 y31 xN) [.cell 2 true 5] y14 := fun s => yj.trans (by kernel_rfl)
def yie (j b e k a c i d g : AV) (h : Heap) : OX :=
  W E 0 yif ⟨[(1, j), (2, b), (3, e), (4, k), (5, a), (9, c), (73, i), (74, d), (75, g)], h⟩ y14 (y5 4 y14 (y5 1 y14 (y5 0 y31 xN))) (finP [.cell 2 true 5])
def y8f (s : St) : OX := yie (s 1) (s 2) (s 3) (s 4) (s 5) (s 9) (s 73) (s 74) (s 75) s.h
theorem ymi : T1 yif y14 (y5 4 y14 (y5 1 y14 (y5 0 y31 xN))) [.cell 2 true 5] y8f := fun s => yj.trans (by kernel_rfl)
def y1pj (k b g l a d j e i : AV) (h : Heap) : OX :=
ob (y8 .add i (.int .i64 1)) fun c =>
(yie k b g l a d j e c h)
def y29r (s : St) : OX := y1pj (s 1) (s 2) (s 3) (s 4) (s 5) (s 9) (s 73) (s 74) (s 75) s.h
theorem y1jr : T1 yy2 y8f (y5 4 y14 (y5 1 y14 (y5 0 y31 xN))) [.cell 2 true 5] y29r := fun _ => by kernel_rfl
def y1hx (l g j m a b d i c : AV) (h : Heap) : OX :=
ob (yw 1 d c) fun e =>
ob (evLd false 1 e h) fun k =>
oh (ymf E (yb E) 0 none true a [k, b] h) fun n h8 =>
(y1pj l g j m a b d i c h8)
def y2e4 (s : St) : OX := y1hx (s 1) (s 2) (s 3) (s 4) (s 5) (s 9) (s 73) (s 74) (s 75) s.h
theorem y1j7 : T1 y0n y8f (y5 4 y14 (y5 1 y14 (y5 0 y31 xN))) [.cell 2 true 5] y2e4 := sq y1jr fun _ => by kernel_rfl
def y125 (d b c e a g l i j k : AV) (h : Heap) : OX :=
cnd k
 ((y1hx d b c e a g l i j h))
 ((yd2 d b c e a h))
def y28i (s : St) : OX := y125 (s 1) (s 2) (s 3) (s 4) (s 5) (s 9) (s 73) (s 74) (s 75) (s 76) s.h
theorem y1q0 : T1 y17t y8f (y5 4 y14 (y5 1 y14 (y5 0 y31 xN))) [.cell 2 true 5] y28i := sq y1j7 fun _ => by kernel_rfl
def y14x (k d g l c e j a b : AV) (h : Heap) : OX :=
ob (y8 .lss b a) fun i =>
(y125 k d g l c e j a b i h)
def y2f7 (s : St) : OX := y14x (s 1) (s 2) (s 3) (s 4) (s 5) (s 9) (s 73) (s 74) (s 75) s.h
theorem y1pr : T1 yzs y8f (y5 4 y14 (y5 1 y14 (y5 0 y31 xN))) [.cell 2 true 5] y2f7 := sq y1q0 fun _ => by kernel_rfl
theorem ynh (j b e k a c i d g : AV) (h : Heap) : yie j b e k a c i d g h = (y14x j b e k a c i d g h) :=
  y28.trans ((y1c _ _ _ (n' := y8f) (fun s => ymi s)).trans ((y1pr _).trans (by kernel_rfl)))
theorem y1e1 : T1 y18p y14 (y5 1 y14 (y5 0 y31 xN)) [.cell 2 true 5] y8f := fun s => yy.trans (ymi s)
def y1fo (b d i l c j e : AV) (h : Heap) : OX :=
ob (evLd true 5 b h) fun k =>
oh (y9 E (yb E) 0 none true 81 [k, j] h) fun a h9 =>
ob (y10 1 a h9) fun g =>
(yie b d i l c e a g (.int .i64 0) h9)
def y2ct (s : St) : OX := y1fo (s 1) (s 2) (s 3) (s 4) (s 5) (s 6) (s 9) s.h
theorem y1mz : T1 y17y y14 (y5 1 y14 (y5 0 y31 xN)) [.cell 2 true 5] y2ct := sq y1e1 fun _ => by kernel_rfl
def yya (c g b p e a : AV) (h : Heap) : OX :=
ob (evLd false 1 b h) fun k =>
ob (yw 1 k a) fun n =>
ob (evLd false 1 n h) fun d =>
ob (evFa 3 c) fun l =>
ob (evLd false 1 l h) fun m =>
ob (yw 9 m a) fun o =>
ob (evLd true 9 o h) fun j =>
oh (y9 E (yb E) 0 none true 168 [d, j] h) fun i h10 =>
(y1fo c g b p e a i h10)
def y6g (s : St) : OX := yya (s 1) (s 2) (s 3) (s 4) (s 5) (s 6) s.h
theorem y1jf : T1 y179 y14 (y5 1 y14 (y5 0 y31 xN)) [.cell 2 true 5] y6g := sq y1mz fun _ => by kernel_rfl
def ykc (j c d k b i a e g : AV) (h : Heap) : OX :=
  W E 0 yjm ⟨[(1, j), (2, c), (3, d), (4, k), (5, b), (6, i), (47, a), (48, e), (49, g)], h⟩ y6g (y5 2 y6g (y5 1 y14 (y5 0 y31 xN))) (finP [.cell 2 true 5])
def y8i (s : St) : OX := ykc (s 1) (s 2) (s 3) (s 4) (s 5) (s 6) (s 47) (s 48) (s 49) s.h
theorem ymm : T1 yjm y6g (y5 2 y6g (y5 1 y14 (y5 0 y31 xN))) [.cell 2 true 5] y8i := fun s => yj.trans (by kernel_rfl)
def y1nx (k d e l c j a g i : AV) (h : Heap) : OX :=
ob (y8 .add i (.int .i64 1)) fun b =>
(ykc k d e l c j a g b h)
def y293 (s : St) : OX := y1nx (s 1) (s 2) (s 3) (s 4) (s 5) (s 6) (s 47) (s 48) (s 49) s.h
theorem y1rp : T1 y14o y8i (y5 2 y6g (y5 1 y14 (y5 0 y31 xN))) [.cell 2 true 5] y293 := fun _ => by kernel_rfl
def y1vs (o j c p b e a l d : AV) (h : Heap) : OX :=
ob (yw 1 a d) fun g =>
ob (evLd false 1 g h) fun n =>
ob (evLd false 1 c h) fun k =>
ob (yw 1 k e) fun i =>
ob (evLd false 1 i h) fun m =>
oh (ymf E (yb E) 0 none true b [n, m] h) fun r h11 =>
(y1nx o j c p b e a l d h11)
def y2cl (s : St) : OX := y1vs (s 1) (s 2) (s 3) (s 4) (s 5) (s 6) (s 47) (s 48) (s 49) s.h
theorem y1wc : T1 y176 y8i (y5 2 y6g (y5 1 y14 (y5 0 y31 xN))) [.cell 2 true 5] y2cl := sq y1rp fun _ => by kernel_rfl
def yyy (e b c g a d i k l j : AV) (h : Heap) : OX :=
cnd j
 ((y1vs e b c g a d i k l h))
 ((yya e b c g a d h))
def y2ap (s : St) : OX := yyy (s 1) (s 2) (s 3) (s 4) (s 5) (s 6) (s 47) (s 48) (s 49) (s 50) s.h
theorem y1dz : T1 y158 y8i (y5 2 y6g (y5 1 y14 (y5 0 y31 xN))) [.cell 2 true 5] y2ap := sq y1wc fun _ => by kernel_rfl
def yy5 (k e i l d j c a b : AV) (h : Heap) : OX :=
ob (y8 .lss b a) fun g =>
(yyy k e i l d j c a b g h)
def y28h (s : St) : OX := yy5 (s 1) (s 2) (s 3) (s 4) (s 5) (s 6) (s 47) (s 48) (s 49) s.h
theorem y1i8 : T1 yzr y8i (y5 2 y6g (y5 1 y14 (y5 0 y31 xN))) [.cell 2 true 5] y28h := sq y1dz fun _ => by kernel_rfl
theorem ynb (j c d k b i a e g : AV) (h : Heap) : ykc j c d k b i a e g h = (yy5 j c d k b i a e g h) :=
  y28.trans ((y1c _ _ _ (n' := y8i) (fun s => ymm s)).trans ((y1i8 _).trans (by kernel_rfl)))
theorem y1w7 : T1 y11n y6g (y5 1 y14 (y5 0 y31 xN)) [.cell 2 true 5] y8i := fun s => yy.trans (ymm s)
def y1hw (c e i k d b : AV) (h : Heap) : OX :=
ob (evLd true 5 c h) fun g =>
oh (y9 E (yb E) 0 none true 79 [g, b] h) fun a h12 =>
ob (y10 1 a h12) fun j =>
(ykc c e i k d b a j (.int .i64 0) h12)
def y1uo (s : St) : OX := y1hw (s 1) (s 2) (s 3) (s 4) (s 5) (s 6) s.h
theorem y1fz : T1 y139 y6g (y5 1 y14 (y5 0 y31 xN)) [.cell 2 true 5] y1uo := sq y1w7 fun _ => by kernel_rfl
theorem y1ry : T1 yzz y14 (y5 1 y14 (y5 0 y31 xN)) [.cell 2 true 5] y1uo := sq y1jf y1fz
def y1oz (m d g a c k : AV) (h : Heap) : OX :=
ob (evLd false 1 a h) fun i =>
ob (evLd false 1 a h) fun b =>
ob (y10 1 b h) fun j =>
ob (y8 .sub j (.int .i64 1)) fun e =>
ob (ybi 1 i none (some e)) fun l =>
oh (evSt 1 a l h) fun _ h13 =>
(y1hw m d g a c k h13)
def y29w (s : St) : OX := y1oz (s 1) (s 2) (s 3) (s 4) (s 5) (s 6) s.h
theorem y1iy : T1 y16u y14 (y5 1 y14 (y5 0 y31 xN)) [.cell 2 true 5] y29w := sq y1ry fun _ => by kernel_rfl
def y1nh (m d g a c : AV) (h : Heap) : OX :=
ob (evLd false 1 a h) fun k =>
ob (evLd false 1 a h) fun e =>
ob (y10 1 e h) fun i =>
ob (y8 .sub i (.int .i64 1)) fun j =>
ob (yw 1 k j) fun l =>
ob (evLd false 1 l h) fun b =>
(y1oz m d g a c b h)
def y1ox (s : St) : OX := y1nh (s 1) (s 2) (s 3) (s 4) (s 5) s.h
theorem y1q2 : T1 y16v y14 (y5 1 y14 (y5 0 y31 xN)) [.cell 2 true 5] y1ox := sq y1iy fun _ => by kernel_rfl
theorem y1g2 : T1 y18g y14 (y5 0 y31 xN) [.cell 2 true 5] y1ox := fun s => yy.trans (y1q2 s)
def yr0 (c a b d g : AV) (h : Heap) : OX :=
ob (evLd false 1 d h) fun e =>
ob (y10 1 e h) fun i =>
ob (y8 .gtr i (.int .i64 0)) fun j =>
cnd j
 ((y1nh c a b d g h))
 ((y20y c a b h))
def y2b8 (s : St) : OX := yr0 (s 1) (s 2) (s 3) (s 4) (s 5) s.h
theorem y1oe : T1 yyn y14 (y5 0 y31 xN) [.cell 2 true 5] y2b8 := sq y1g2 fun _ => by kernel_rfl
theorem yex (d b c e a : AV) (h : Heap) : yd2 d b c e a h = (yr0 d b c e a h) :=
  y28.trans ((y1c _ _ _ (n' := y14) (fun s => yof s)).trans ((y1oe _).trans (by kernel_rfl)))
theorem y1pu : T1 yyj y31 xN [.cell 2 true 5] y14 := fun s => yy.trans (yof s)
theorem y1v0 : T0 y14n [.cell 2 true 5] y14 := sq y202 y1pu
def y1p8 (e d a b : AV) (h : Heap) : OX :=
ob (some (.fn 167 [a, b])) fun c =>
(yd2 e d a b c h)
def y296 (s : St) : OX := y1p8 (s 1) (s 2) (s 3) (s 4) s.h
theorem y1hz : T0 y16i [.cell 2 true 5] y296 := sq y1v0 fun _ => by kernel_rfl
def y1gv (e b c : AV) (h : Heap) : OX :=
oh (y12 0 (some 13) 1 1 [(.int .i64 0)] [(0, (.int .i64 0))] h) fun d h14 =>
oh (newC 0 (some 14) [.nils] h14) fun a h15 =>
oh (evSt 1 a d h15) fun _ h16 =>
(y1p8 e b c a h16)
def y2ci (s : St) : OX := y1gv (s 1) (s 2) (s 3) s.h
theorem y1qj : T0 yz8 [.cell 2 true 5] y2ci := sq y1hz fun _ => by kernel_rfl
def y1pi (e c a : AV) (h : Heap) : OX :=
ob (evLd false 1 a h) fun g =>
oh (mkmC 0 (some 12) h) fun d h17 =>
ob (yw 1 g (.int .i64 0)) fun b =>
oh (evSt 1 b d h17) fun _ h18 =>
(y1gv e c a h18)
def y2ad (s : St) : OX := y1pi (s 1) (s 2) (s 3) s.h
theorem y1ss : T0 y18l [.cell 2 true 5] y2ad := sq y1qj fun _ => by kernel_rfl
def yxb (c e : AV) (h : Heap) : OX :=
ob (evFa 3 c) fun i =>
ob (evLd false 1 i h) fun g =>
ob (y10 1 g h) fun b =>
oh (mkSC 0 (some 10) 1 8 [.nilm] b b h) fun d h19 =>
oh (newC 0 (some 11) [.nils] h19) fun a h20 =>
oh (evSt 1 a d h20) fun _ h21 =>
(y1pi c e a h21)
def y2cn (s : St) : OX := yxb (s 1) (s 2) s.h
theorem y1tq : T0 y12l [.cell 2 true 5] y2cn := sq y1ss fun _ => by kernel_rfl
def yu9 (b a : AV) (h : Heap) : OX :=
ob (evLd true 5 b h) fun c =>
oh (y9 E (yb E) 0 none true 8 [c] h) fun g h22 =>
ob (y8 .neq g (.int .i64 0)) fun d =>
cnd d
 (ob (evLd true 5 b h22) fun e =>
oh (evSt 5 a e h22) fun _ h23 =>
(ob (evLd true 5 a h23) fun r0 =>
  yf h23 r0))
 ((yxb b a h22))
def y2e5 (s : St) : OX := yu9 (s 1) (s 2) s.h
theorem y1p5 : T0 y128 [.cell 2 true 5] y2e5 := sq y1tq fun _ => by kernel_rfl
def y1qe (a b : AV) (h : Heap) : OX :=
ob (evLd true 5 a h) fun c =>
oh (y9 E (yb E) 0 (some 2) false 13 [c] h) fun d h24 =>
oh (evSt 5 a d h24) fun _ h25 =>
(yu9 a b h25)
def y2fz (s : St) : OX := y1qe (s 1) (s 2) s.h
theorem y1dj : T0 yx6 [.cell 2 true 5] y2fz := sq y1p5 fun _ => by kernel_rfl
def y182 (a : AV) (h : Heap) : OX :=
oh (newC 0 (some 0) (cellsOf a) h) fun c h26 =>
oh (newC 0 (some 1) [.nils, .nils, (.int .i64 0), .nils, .nils] h26) fun b h27 =>
(y1qe c b h27)
def y28d (s : St) : OX := y182 (s 0) s.h
theorem y1rh : T0 y14t [.cell 2 true 5] y28d := sq y1dj fun _ => by kernel_rfl
@[simp] theorem y2n5 : E.pure 166 = true := rfl
theorem y2ns (a : AV) : (yb E).p 166 [a] = y182 a [⟨0, .dead⟩, ⟨0, .dead⟩, ⟨0, .dead⟩, ⟨0, .dead⟩, ⟨0, .dead⟩, ⟨0, .dead⟩, ⟨0, .dead⟩, ⟨0, .dead⟩, ⟨0, .dead⟩, ⟨0, .dead⟩, ⟨0, .dead⟩, ⟨0, .dead⟩, ⟨0, .dead⟩, ⟨0, .dead⟩, ⟨0, .dead⟩, ⟨0, .dead⟩, ⟨0, .dead⟩] :=
  (y15 (cf := y2kf) (by kernel_rfl) rfl).trans ((y1rh _).trans (by kernel_rfl))
def ykn (h : Heap) : OX :=
(yf h (.int .i64 0))
def y7g (s : St) : OX := ykn s.h
theorem y1nj : T0 yz5 [.t 2] y7g := fun _ => by kernel_rfl
def yf1 (c b a : AV) (h : Heap) : OX :=
  W E 0 yhp ⟨[(1, c), (3, b), (8, a)], h⟩ y7g (y5 6 y7g xN) (finP [.t 2])
def ybo (s : St) : OX := yf1 (s 1) (s 3) (s 8) s.h
theorem yln : T1 yhp y7g (y5 6 y7g xN) [.t 2] ybo := fun s => yj.trans (by kernel_rfl)
def yjz (d c b : AV) (h : Heap) : OX :=
ob (y8 .add b (.int .i64 1)) fun a =>
(yf1 d c a h)
def y281 (s : St) : OX := yjz (s 1) (s 3) (s 8) s.h
theorem y1vw : T1 y03 ybo (y5 6 y7g xN) [.t 2] y281 := fun _ => by kernel_rfl
def y7t (g i j : AV) (h : Heap) : OX :=
ob (evFa 4 g) fun D =>
ob (evLd false 1 D h) fun N =>
ob (yw 4 N j) fun k =>
ob (evLd true 4 k h) fun B =>
oh (newC 0 (some 2) [(.int .i64 0), (.int .i64 0), (.int .i64 0), (.str [])] h) fun b h1 =>
oh (evSt 4 b B h1) fun _ h2 =>
ob (evFa 0 b) fun L =>
ob (evLd false 1 L h2) fun G =>
ob (y8 .lss G (.int .i64 0)) fun d =>
gb d false (evFa 0 b) fun m =>
gb d false (evLd false 1 m h2) fun z =>
gb d false (evFa 1 b) fun C =>
gb d false (evLd false 1 C h2) fun K =>
gb d false (y8 .geq z K) fun t =>
ob (yd d (.bool true) t) fun e =>
gb e false (evFa 1 b) fun p =>
gb e false (evLd false 1 p h2) fun x =>
gb e false (some i) fun r =>
gb e false (y8 .gtr x r) fun P =>
ob (yd e (.bool true) P) fun c =>
gb c false (evLd true 5 g h2) fun F =>
gb c false (evFa 2 b) fun M =>
gb c false (evLd false 1 M h2) fun v =>
gh c false (y9 E (yb E) 0 none true 49 [F, v] h2) h2 fun u h3 =>
gb c false (evUn .not u) fun n =>
ob (yd c (.bool true) n) fun a =>
gb a false (evFa 3 g) fun A =>
gb a false (evLd false 1 A h3) fun y =>
gb a false (evFa 2 b) fun O =>
gb a false (evLd false 1 O h3) fun I =>
gb a false (yw 9 y I) fun J =>
gb a false (evFa 0 J) fun H =>
gb a false (evLd false 1 H h3) fun l =>
gb a false (y8 .neq l (.int .i64 32)) fun w =>
ob (yd a (.bool true) w) fun o =>
cnd o
 ((yf h3 (.int .i64 80)))
 ((yjz g i j h3))
def y28o (s : St) : OX := y7t (s 1) (s 3) (s 8) s.h
theorem y1g3 : T1 y11q ybo (y5 6 y7g xN) [.t 2] y28o := sq y1vw fun _ => by kernel_rfl
def y71 (b i a : AV) (h : Heap) : OX :=
ob (evFa 4 b) fun g =>
ob (evLd false 1 g h) fun d =>
ob (y10 1 d h) fun e =>
ob (y8 .lss a e) fun c =>
cnd c
 ((y7t b i a h))
 ((ykn h))
def y2fx (s : St) : OX := y71 (s 1) (s 3) (s 8) s.h
theorem y1sg : T1 y18k ybo (y5 6 y7g xN) [.t 2] y2fx := sq y1g3 fun _ => by kernel_rfl
theorem ylu (c b a : AV) (h : Heap) : yf1 c b a h = (y71 c b a h) :=
  y28.trans ((y1c _ _ _ (n' := ybo) (fun s => yln s)).trans ((y1sg _).trans (by kernel_rfl)))
theorem y1mw : T1 y12o y7g xN [.t 2] ybo := fun s => yy.trans (yln s)
def ygf (b a : AV) (h : Heap) : OX :=
(yf1 b a (.int .i64 0) h)
def y6o (s : St) : OX := ygf (s 1) (s 3) s.h
theorem y1fv : T1 y17z y7g xN [.t 2] y6o := sq y1mw fun _ => by kernel_rfl
theorem y1i7 : T0 yz2 [.t 2] y6o := sq y1nj y1fv
def yf8 (c b a : AV) (h : Heap) : OX :=
  W E 0 yk2 ⟨[(1, c), (3, b), (6, a)], h⟩ y6o (y5 4 y6o xN) (finP [.t 2])
def ybw (s : St) : OX := yf8 (s 1) (s 3) (s 6) s.h
theorem yme : T1 yk2 y6o (y5 4 y6o xN) [.t 2] ybw := fun s => yj.trans (by kernel_rfl)
def ybf (d c a : AV) (h : Heap) : OX :=
ob (y8 .add a (.int .i64 1)) fun b =>
(yf8 d c b h)
def y21p (s : St) : OX := ybf (s 1) (s 3) (s 6) s.h
theorem y19n : T1 yu6 ybw (y5 4 y6o xN) [.t 2] y21p := fun _ => by kernel_rfl
def y4z (i p j : AV) (h : Heap) : OX :=
ob (evFa 3 i) fun V =>
ob (evLd false 1 V h) fun L =>
ob (yw 9 L j) fun z =>
ob (evLd true 9 z h) fun Y =>
oh (newC 0 (some 1) [(.int .i64 0), (.int .i64 0), (.int .i64 0), (.int .i64 0), (.int .i64 0), (.int .i64 0), (.int .i64 0), (.str []), .nils] h) fun e h4 =>
oh (evSt 9 e Y h4) fun _ h5 =>
ob (evLd true 5 i h5) fun P =>
ob (evLd true 9 e h5) fun N =>
oh (y9 E (yb E) 0 none true 64 [P, N] h5) fun K h6 =>
ob (evUn .not K) fun d =>
gb d false (evFa 0 e) fun I =>
gb d false (evLd false 1 I h6) fun t =>
gb d false (y8 .eql t (.int .i64 32)) fun v =>
gb d false (some v) fun g =>
gb g true (some j) fun U =>
gb g true (y8 .eql U (.int .i64 0)) fun D =>
gb g true (some D) fun a =>
gb a false (evFa 3 i) fun Z =>
gb a false (evLd false 1 Z h6) fun C =>
gb a false (some j) fun k =>
gb a false (y8 .sub k (.int .i64 1)) fun r =>
gb a false (yw 9 C r) fun O =>
gb a false (evFa 0 O) fun G =>
gb a false (evLd false 1 G h6) fun x =>
gh a false (y9 E (yb E) 0 none true 25 [x] h6) h6 fun X h7 =>
gb a false (evUn .not X) fun M =>
gb g true (yd a (.bool true) M) fun l =>
gb d false (yd g l (.bool false)) fun o =>
ob (yd d (.bool true) o) fun c =>
gb c false (evFa 0 e) fun m =>
gb c false (evLd false 1 m h7) fun A =>
gh c false (y9 E (yb E) 0 none true 23 [A] h7) h7 fun S h8 =>
gb c false (some S) fun b =>
gb b true (evFa 3 i) fun R =>
gb b true (evLd false 1 R h8) fun u =>
gb b true (evFa 6 e) fun F =>
gb b true (evLd false 1 F h8) fun B =>
gb b true (yw 9 u B) fun J =>
gb b true (evFa 0 J) fun n =>
gb b true (evLd false 1 n h8) fun H =>
gb b true (y8 .eql H (.int .i64 32)) fun Q =>
gb c false (yd b Q (.bool false)) fun w =>
ob (yd c (.bool true) w) fun y =>
cnd y
 ((yf h8 (.int .i64 80)))
 ((ybf i p j h8))
def y1ze (s : St) : OX := y4z (s 1) (s 3) (s 6) s.h
theorem y194 : T1 ytf ybw (y5 4 y6o xN) [.t 2] y1ze := sq y19n fun _ => by kernel_rfl
def yal (c a b : AV) (h : Heap) : OX :=
ob (y8 .lss b a) fun d =>
cnd d
 ((y4z c a b h))
 ((ygf c a h))
def y1xe (s : St) : OX := yal (s 1) (s 3) (s 6) s.h
theorem y192 : T1 yr8 ybw (y5 4 y6o xN) [.t 2] y1xe := sq y194 fun _ => by kernel_rfl
theorem ymg (c b a : AV) (h : Heap) : yf8 c b a h = (yal c b a h) :=
  y28.trans ((y1c _ _ _ (n' := ybw) (fun s => yme s)).trans ((y192 _).trans (by kernel_rfl)))
theorem y18r : T1 yse y6o xN [.t 2] ybw := fun s => yy.trans (yme s)
def yb9 (b a : AV) (h : Heap) : OX :=
(yf8 b a (.int .i64 0) h)
def y4o (s : St) : OX := yb9 (s 1) (s 3) s.h
theorem y19x : T1 ys8 y6o xN [.t 2] y4o := sq y18r fun _ => by kernel_rfl
theorem y1cf : T0 yst [.t 2] y4o := sq y1i7 y19x
def ybx (b a c : AV) (h : Heap) : OX :=
  W E 0 yfs ⟨[(1, b), (3, a), (5, c)], h⟩ y4o (y5 2 y4o xN) (finP [.t 2])
def y86 (s : St) : OX := ybx (s 1) (s 3) (s 5) s.h
theorem yji : T1 yfs y4o (y5 2 y4o xN) [.t 2] y86 := fun s => yj.trans (by kernel_rfl)
def yct (c b d : AV) (h : Heap) : OX :=
ob (y8 .add d (.int .i64 1)) fun a =>
(ybx c b a h)
def y1wu (s : St) : OX := yct (s 1) (s 3) (s 5) s.h
theorem y1cn : T1 ys1 y86 (y5 2 y4o xN) [.t 2] y1wu := fun _ => by kernel_rfl
def y8z (b i c : AV) (h : Heap) : OX :=
ob (evLd true 5 b h) fun r =>
ob (evFa 1 b) fun p =>
ob (evLd false 1 p h) fun l =>
ob (yw 1 l c) fun u =>
ob (evLd false 1 u h) fun k =>
oh (y9 E (yb E) 0 none true 48 [r, k] h) fun m h9 =>
ob (y8 .eql m (.int .i64 0)) fun a =>
gb a false (evFa 1 b) fun g =>
gb a false (evLd false 1 g h9) fun o =>
gb a false (some c) fun t =>
gb a false (yw 1 o t) fun w =>
gb a false (evLd false 1 w h9) fun v =>
gb a false (evFa 1 b) fun n =>
gb a false (evLd false 1 n h9) fun x =>
gb a false (some c) fun j =>
gb a false (ybi 1 x none (some j)) fun d =>
gh a false (y9 E (yb E) 0 none true 42 [v, d] h9) h9 fun e h10 =>
ob (yd a (.bool true) e) fun y =>
cnd y
 ((yf h10 (.int .i64 80)))
 ((yct b i c h10))
def y229 (s : St) : OX := y8z (s 1) (s 3) (s 5) s.h
theorem y196 : T1 yt6 y86 (y5 2 y4o xN) [.t 2] y229 := sq y1cn fun _ => by kernel_rfl
def y76 (a c b : AV) (h : Heap) : OX :=
ob (evFa 1 a) fun g =>
ob (evLd false 1 g h) fun e =>
ob (y10 1 e h) fun i =>
ob (y8 .lss b i) fun d =>
cnd d
 ((y8z a c b h))
 ((yb9 a c h))
def y1zp (s : St) : OX := y76 (s 1) (s 3) (s 5) s.h
theorem y19m : T1 ysu y86 (y5 2 y4o xN) [.t 2] y1zp := sq y196 fun _ => by kernel_rfl
theorem yiv (b a c : AV) (h : Heap) : ybx b a c h = (y76 b a c h) :=
  y28.trans ((y1c _ _ _ (n' := y86) (fun s => yji s)).trans ((y19m _).trans (by kernel_rfl)))
theorem y1a0 : T1 ytu y4o xN [.t 2] y86 := fun s => yy.trans (yji s)
def ybe (b a : AV) (h : Heap) : OX :=
(ybx b a (.int .i64 0) h)
def y4s (s : St) : OX := ybe (s 1) (s 3) s.h
theorem y18w : T1 ytb y4o xN [.t 2] y4s := sq y1a0 fun _ => by kernel_rfl
theorem y18z : T0 yr1 [.t 2] y4s := sq y1cf y18w
def yc5 (b a c : AV) (h : Heap) : OX :=
  W E 0 yfy ⟨[(1, b), (3, a), (4, c)], h⟩ y4s (y5 0 y4s xN) (finP [.t 2])
def y82 (s : St) : OX := yc5 (s 1) (s 3) (s 4) s.h
theorem yka : T1 yfy y4s (y5 0 y4s xN) [.t 2] y82 := fun s => yj.trans (by kernel_rfl)
def ycv (c b d : AV) (h : Heap) : OX :=
ob (y8 .add d (.int .i64 1)) fun a =>
(yc5 c b a h)
def y1zw (s : St) : OX := ycv (s 1) (s 3) (s 4) s.h
theorem y1bk : T1 yss y82 (y5 0 y4s xN) [.t 2] y1zw := fun _ => by kernel_rfl
def y8a (b j c : AV) (h : Heap) : OX :=
ob (evFa 0 b) fun i =>
ob (evLd false 1 i h) fun r =>
ob (yw 1 r c) fun d =>
ob (evLd false 1 d h) fun o =>
ob (y8 .lss o (.int .i64 1)) fun a =>
gb a false (evFa 0 b) fun m =>
gb a false (evLd false 1 m h) fun n =>
gb a false (some c) fun p =>
gb a false (yw 1 n p) fun k =>
gb a false (evLd false 1 k h) fun g =>
gb a false (y8 .gtr g (.int .i64 3)) fun l =>
ob (yd a (.bool true) l) fun e =>
cnd e
 ((yf h (.int .i64 80)))
 ((ycv b j c h))
def y221 (s : St) : OX := y8a (s 1) (s 3) (s 4) s.h
theorem y19j : T1 yur y82 (y5 0 y4s xN) [.t 2] y221 := sq y1bk fun _ => by kernel_rfl
def y7b (a b c : AV) (h : Heap) : OX :=
ob (evFa 0 a) fun e =>
ob (evLd false 1 e h) fun g =>
ob (y10 1 g h) fun i =>
ob (y8 .lss c i) fun d =>
cnd d
 ((y8a a b c h))
 ((ybe a b h))
def y1yd (s : St) : OX := y7b (s 1) (s 3) (s 4) s.h
theorem y1aj : T1 yt1 y82 (y5 0 y4s xN) [.t 2] y1yd := sq y19j fun _ => by kernel_rfl
theorem yj7 (b a c : AV) (h : Heap) : yc5 b a c h = (y7b b a c h) :=
  y28.trans ((y1c _ _ _ (n' := y82) (fun s => yka s)).trans ((y1aj _).trans (by kernel_rfl)))
theorem y1bt : T1 yrl y4s xN [.t 2] y82 := fun s => yy.trans (yka s)
def yfv (b a : AV) (h : Heap) : OX :=
(yc5 b a (.int .i64 0) h)
def y0g (s : St) : OX := yfv (s 1) (s 3) s.h
theorem y193 : T1 ytn y4s xN [.t 2] y0g := sq y1bt fun _ => by kernel_rfl
theorem y1bc : T0 yth [.t 2] y0g := sq y18z y193
def y4u (b e : AV) (h : Heap) : OX :=
ob (y8 .eql e (.int .i64 0)) fun j =>
gb j false (some e) fun A =>
gb j false (y8 .gtr A (.int .i64 20000)) fun u =>
ob (yd j (.bool true) u) fun c =>
gb c false (evFa 0 b) fun B =>
gb c false (evLd false 1 B h) fun D =>
gb c false (y10 1 D h) fun G =>
gb c false (y8 .gtr G (.int .i64 20000)) fun n =>
ob (yd c (.bool true) n) fun d =>
gb d false (evFa 1 b) fun y =>
gb d false (evLd false 1 y h) fun F =>
gb d false (y10 1 F h) fun z =>
gb d false (y8 .gtr z (.int .i64 21)) fun x =>
ob (yd d (.bool true) x) fun g =>
gb g false (evFa 2 b) fun L =>
gb g false (evLd false 1 L h) fun v =>
gb g false (y8 .lss v (.int .i64 0)) fun M =>
ob (yd g (.bool true) M) fun i =>
gb i false (evFa 2 b) fun K =>
gb i false (evLd false 1 K h) fun r =>
gb i false (y8 .gtr r (.int .i64 3)) fun I =>
ob (yd i (.bool true) I) fun a =>
gb a false (evFa 3 b) fun o =>
gb a false (evLd false 1 o h) fun l =>
gb a false (some e) fun t =>
gb a false (y8 .sub t (.int .i64 1)) fun m =>
gb a false (yw 9 l m) fun H =>
gb a false (evFa 0 H) fun k =>
gb a false (evLd false 1 k h) fun w =>
gh a false (y9 E (yb E) 0 none true 25 [w] h) h fun p h11 =>
gb a false (evUn .not p) fun C =>
ob (yd a (.bool true) C) fun J =>
cnd J
 ((yf h11 (.int .i64 80)))
 ((yfv b e h11))
def y24i (s : St) : OX := y4u (s 1) (s 3) s.h
theorem y1a7 : T0 yuc [.t 2] y24i := sq y1bc fun _ => by kernel_rfl
def y4w (a : AV) (h : Heap) : OX :=
ob (evFa 3 a) fun c =>
ob (evLd false 1 c h) fun b =>
ob (y10 1 b h) fun d =>
(y4u a d h)
def y22z (s : St) : OX := y4w (s 1) s.h
theorem y19q : T0 yrz [.t 2] y22z := sq y1a7 fun _ => by kernel_rfl
def y4g (a : AV) (h : Heap) : OX :=
oh (newC 0 (some 0) (cellsOf a) h) fun b h12 =>
(y4w b h12)
def y20n (s : St) : OX := y4g (s 0) s.h
theorem y199 : T0 yu1 [.t 2] y20n := sq y19q fun _ => by kernel_rfl
@[simp] theorem y2pq : E.pure 29 = true := rfl
theorem y2jt (a : AV) : (yb E).p 29 [a] = y4g a [⟨0, .dead⟩, ⟨0, .dead⟩, ⟨0, .dead⟩] :=
  (y15 (cf := y25n) (by kernel_rfl) rfl).trans ((y199 _).trans (by kernel_rfl))
def y291 (h : Heap) : OX :=
(yf h (.bool true))
def y43 (s : St) : OX := y291 s.h
theorem y220 : T0 y1pn [.t 2] y43 := fun _ => by kernel_rfl
def ymo (c a b d : AV) (h : Heap) : OX :=
  W E 0 yon ⟨[(3, c), (104, a), (105, b), (106, d)], h⟩ y43 (y5 8 y43 xN) (finP [.t 2])
def yde (s : St) : OX := ymo (s 3) (s 104) (s 105) (s 106) s.h
theorem yqn : T1 yon y43 (y5 8 y43 xN) [.t 2] yde := fun s => yj.trans (by kernel_rfl)
def y1mm (c b d e : AV) (h : Heap) : OX :=
ob (y8 .add e (.int .i64 1)) fun a =>
(ymo c b d a h)
def y3x (s : St) : OX := y1mm (s 3) (s 104) (s 105) (s 106) s.h
theorem y1z3 : T1 y1t4 yde (y5 8 y43 xN) [.t 2] y3x := fun _ => by kernel_rfl
def ytg (c d b g i j e a : AV) (h : Heap) : OX :=
  W E 0 ypa ⟨[(3, c), (15, d), (104, b), (105, g), (106, i), (112, j), (113, e), (114, a)], h⟩ y3x (y5 10 y3x (y5 9 y3x (y5 8 y43 xN))) (finP [.t 2])
def ydd (s : St) : OX := ytg (s 3) (s 15) (s 104) (s 105) (s 106) (s 112) (s 113) (s 114) s.h
theorem yrr : T1 ypa y3x (y5 10 y3x (y5 9 y3x (y5 8 y43 xN))) [.t 2] ydd := fun s => yj.trans (by kernel_rfl)
def y20e (d e b i j k g a : AV) (h : Heap) : OX :=
ob (y8 .add a (.int .i64 1)) fun c =>
(ytg d e b i j k g c h)
def y2hu (s : St) : OX := y20e (s 3) (s 15) (s 104) (s 105) (s 106) (s 112) (s 113) (s 114) s.h
theorem y241 : T1 y1ty ydd (y5 10 y3x (y5 9 y3x (y5 8 y43 xN))) [.t 2] y2hu := fun _ => by kernel_rfl
def y1mq (b c v w r e y d : AV) (h : Heap) : OX :=
ob (yw 1 e d) fun l =>
ob (evLd false 1 l h) fun m =>
ob (yw 1 b c) fun n =>
ob (evLd false 1 n h) fun p =>
ob (y4q 1 true p AV.nils) fun a =>
gb a true (some b) fun g =>
gb a true (some c) fun k =>
gb a true (yw 1 g k) fun u =>
gb a true (evLd false 1 u h) fun o =>
gb a true (some m) fun z =>
gb a true (yw 1 o z) fun x =>
gb a true (evLd false 1 x h) fun t =>
gb a true (evUn .not t) fun i =>
ob (yd a i (.bool false)) fun j =>
cnd j
 ((yf h (.bool false)))
 ((y20e b c v w r e y d h))
def y2kv (s : St) : OX := y1mq (s 3) (s 15) (s 104) (s 105) (s 106) (s 112) (s 113) (s 114) s.h
theorem y20w : T1 y1vi ydd (y5 10 y3x (y5 9 y3x (y5 8 y43 xN))) [.t 2] y2kv := sq y241 fun _ => by kernel_rfl
def y19g (b g a c d k j e i : AV) (h : Heap) : OX :=
cnd i
 ((y1mq b g a c d k j e h))
 ((y1mm b a c d h))
def y2mv (s : St) : OX := y19g (s 3) (s 15) (s 104) (s 105) (s 106) (s 112) (s 113) (s 114) (s 115) s.h
theorem y1y9 : T1 y1jv ydd (y5 10 y3x (y5 9 y3x (y5 8 y43 xN))) [.t 2] y2mv := sq y20w fun _ => by kernel_rfl
def y1a3 (d e c i j k b a : AV) (h : Heap) : OX :=
ob (y8 .lss a b) fun g =>
(y19g d e c i j k b a g h)
def y2jh (s : St) : OX := y1a3 (s 3) (s 15) (s 104) (s 105) (s 106) (s 112) (s 113) (s 114) s.h
theorem y24r : T1 y1vv ydd (y5 10 y3x (y5 9 y3x (y5 8 y43 xN))) [.t 2] y2jh := sq y1y9 fun _ => by kernel_rfl
theorem yrv (c d b g i j e a : AV) (h : Heap) : ytg c d b g i j e a h = (y1a3 c d b g i j e a h) :=
  y28.trans ((y1c _ _ _ (n' := ydd) (fun s => yrr s)).trans ((y24r _).trans (by kernel_rfl)))
theorem y1yv : T1 y1w5 y3x (y5 9 y3x (y5 8 y43 xN)) [.t 2] ydd := fun s => yy.trans (yrr s)
def y1j4 (d e b c i j : AV) (h : Heap) : OX :=
ob (evLd true 9 b h) fun k =>
oh (y9 E (yb E) 0 none true 10 [k] h) fun a h1 =>
ob (y10 1 a h1) fun g =>
(ytg d e c i j a g (.int .i64 0) h1)
def y2fp (s : St) : OX := y1j4 (s 3) (s 15) (s 16) (s 104) (s 105) (s 106) s.h
theorem y1i9 : T1 y17u y3x (y5 9 y3x (y5 8 y43 xN)) [.t 2] y2fp := sq y1yv fun _ => by kernel_rfl
def y1w2 (e c g a : AV) (h : Heap) : OX :=
ob (yw 9 c a) fun i =>
ob (evLd true 9 i h) fun d =>
oh (newC 0 (some 5) [(.int .i64 0), (.int .i64 0), (.int .i64 0), (.int .i64 0), (.int .i64 0), (.int .i64 0), (.int .i64 0), (.str []), .nils] h) fun b h2 =>
oh (evSt 9 b d h2) fun _ h3 =>
(y1j4 e a b c g a h3)
def ywm (s : St) : OX := y1w2 (s 3) (s 104) (s 105) (s 106) s.h
theorem y1qz : T1 y16h y3x (y5 9 y3x (y5 8 y43 xN)) [.t 2] ywm := sq y1i9 fun _ => by kernel_rfl
theorem y1gl : T1 yxn y3x (y5 8 y43 xN) [.t 2] ywm := fun s => yy.trans (y1qz s)
theorem y1ru : T1 yzn yde (y5 8 y43 xN) [.t 2] ywm := sq y1z3 y1gl
def y178 (c b d e a : AV) (h : Heap) : OX :=
cnd a
 ((y1w2 c b d e h))
 ((y291 h))
def y29i (s : St) : OX := y178 (s 3) (s 104) (s 105) (s 106) (s 107) s.h
theorem y1nv : T1 y15w yde (y5 8 y43 xN) [.t 2] y29i := sq y1ru fun _ => by kernel_rfl
def y18h (e d a b : AV) (h : Heap) : OX :=
ob (y8 .lss b a) fun c =>
(y178 e d a b c h)
def y295 (s : St) : OX := y18h (s 3) (s 104) (s 105) (s 106) s.h
theorem y1s5 : T1 y17a yde (y5 8 y43 xN) [.t 2] y295 := sq y1nv fun _ => by kernel_rfl
theorem yrj (c a b d : AV) (h : Heap) : ymo c a b d h = (y18h c a b d h) :=
  y28.trans ((y1c _ _ _ (n' := yde) (fun s => yqn s)).trans ((y1s5 _).trans (by kernel_rfl)))
theorem y1og : T1 y0p y43 xN [.t 2] yde := fun s => yy.trans (yqn s)
def ys5 (e b : AV) (h : Heap) : OX :=
ob (evFa 3 e) fun d =>
ob (evLd false 1 d h) fun a =>
ob (y10 1 a h) fun c =>
(ymo b a c (.int .i64 0) h)
def y1x (s : St) : OX := ys5 (s 1) (s 3) s.h
theorem y1ej : T1 yx9 y43 xN [.t 2] y1x := sq y1og fun _ => by kernel_rfl
theorem y1hh : T0 y13l [.t 2] y1x := sq y220 y1ej
def yey (c b a : AV) (h : Heap) : OX :=
  W E 0 yjr ⟨[(1, c), (3, b), (7, a)], h⟩ y1x (y5 2 y1x xN) (finP [.t 2])
def yz (s : St) : OX := yey (s 1) (s 3) (s 7) s.h
theorem ym1 : T1 yjr y1x (y5 2 y1x xN) [.t 2] yz := fun s => yj.trans (by kernel_rfl)
def ycw (i d g c a b e : AV) (h : Heap) : OX :=
  W E 0 yhw ⟨[(1, i), (3, d), (7, g), (9, c), (91, a), (92, b), (93, e)], h⟩ yz (y5 6 yz (y5 3 yz (y5 2 y1x xN))) (finP [.t 2])
def y8n (s : St) : OX := ycw (s 1) (s 3) (s 7) (s 9) (s 91) (s 92) (s 93) s.h
theorem ynf : T1 yhw yz (y5 6 yz (y5 3 yz (y5 2 y1x xN))) [.t 2] y8n := fun s => yj.trans (by kernel_rfl)
def y1tv (j d i c a b e : AV) (h : Heap) : OX :=
ob (y8 .add e (.int .i64 1)) fun g =>
(ycw j d i c a b g h)
def y2g1 (s : St) : OX := y1tv (s 1) (s 3) (s 7) (s 9) (s 91) (s 92) (s 93) s.h
theorem y1vk : T1 y17i y8n (y5 6 yz (y5 3 yz (y5 2 y1x xN))) [.t 2] y2g1 := fun _ => by kernel_rfl
def y1v3 (k c i b a e d : AV) (h : Heap) : OX :=
ob (yw 1 a d) fun j =>
ob (evLd false 1 j h) fun g =>
oh (y9 E (yb E) 0 none false 80 [c, g, b, i] h) fun l h4 =>
(y1tv k c l b a e d h4)
def y2cy (s : St) : OX := y1v3 (s 1) (s 3) (s 7) (s 9) (s 91) (s 92) (s 93) s.h
theorem y1p4 : T1 y167 y8n (y5 6 yz (y5 3 yz (y5 2 y1x xN))) [.t 2] y2cy := sq y1vk fun _ => by kernel_rfl
def y18c (c a b g d e i j : AV) (h : Heap) : OX :=
cnd j
 ((y1v3 c a b g d e i h))
 ((yey c a b h))
def y2bg (s : St) : OX := y18c (s 1) (s 3) (s 7) (s 9) (s 91) (s 92) (s 93) (s 94) s.h
theorem y1eo : T1 y143 y8n (y5 6 yz (y5 3 yz (y5 2 y1x xN))) [.t 2] y2bg := sq y1p4 fun _ => by kernel_rfl
def y12i (j e i d c a b : AV) (h : Heap) : OX :=
ob (y8 .lss b a) fun g =>
(y18c j e i d c a b g h)
def y28p (s : St) : OX := y12i (s 1) (s 3) (s 7) (s 9) (s 91) (s 92) (s 93) s.h
theorem y1nt : T1 y11i y8n (y5 6 yz (y5 3 yz (y5 2 y1x xN))) [.t 2] y28p := sq y1eo fun _ => by kernel_rfl
theorem ylw (i d g c a b e : AV) (h : Heap) : ycw i d g c a b e h = (y12i i d g c a b e h) :=
  y28.trans ((y1c _ _ _ (n' := y8n) (fun s => ynf s)).trans ((y1nt _).trans (by kernel_rfl)))
theorem y1n0 : T1 y15i yz (y5 3 yz (y5 2 y1x xN)) [.t 2] y8n := fun s => yy.trans (ynf s)
def ymp (b g i j d : AV) (h : Heap) : OX :=
ob (evLd true 5 b h) fun e =>
oh (y9 E (yb E) 0 none true 81 [e, j] h) fun a h5 =>
ob (y10 1 a h5) fun c =>
(ycw b g i d a c (.int .i64 0) h5)
def y2ev (s : St) : OX := ymp (s 1) (s 3) (s 7) (s 8) (s 9) s.h
theorem y1qy : T1 y17n yz (y5 3 yz (y5 2 y1x xN)) [.t 2] y2ev := sq y1n0 fun _ => by kernel_rfl
def yo7 (c e g b a : AV) (h : Heap) : OX :=
ob (evFa 3 c) fun l =>
ob (evLd false 1 l h) fun i =>
ob (yw 9 i b) fun n =>
ob (evLd true 9 n h) fun m =>
oh (y9 E (yb E) 0 none true 9 [m] h) fun d h6 =>
ob (y8 .geq d (.int .i64 0)) fun k =>
cnd k
 (ob (yw 1 a d) fun j =>
oh (evSt 1 j (.bool true) h6) fun _ h7 =>
(ymp c e g b a h7))
 ((ymp c e g b a h6))
def y6a (s : St) : OX := yo7 (s 1) (s 3) (s 7) (s 8) (s 9) s.h
theorem y1sr : T1 y15k yz (y5 3 yz (y5 2 y1x xN)) [.t 2] y6a := sq y1qy fun _ => by kernel_rfl
def yfm (j b c i a d e g : AV) (h : Heap) : OX :=
  W E 0 yiy ⟨[(1, j), (3, b), (7, c), (8, i), (9, a), (66, d), (67, e), (68, g)], h⟩ y6a (y5 4 y6a (y5 3 yz (y5 2 y1x xN))) (finP [.t 2])
def y8c (s : St) : OX := yfm (s 1) (s 3) (s 7) (s 8) (s 9) (s 66) (s 67) (s 68) s.h
theorem yn5 : T1 yiy y6a (y5 4 y6a (y5 3 yz (y5 2 y1x xN))) [.t 2] y8c := fun s => yj.trans (by kernel_rfl)
def y1t7 (k c d j b e g i : AV) (h : Heap) : OX :=
ob (y8 .add i (.int .i64 1)) fun a =>
(yfm k c d j b e g a h)
def y2ab (s : St) : OX := y1t7 (s 1) (s 3) (s 7) (s 8) (s 9) (s 66) (s 67) (s 68) s.h
theorem y1un : T1 y17x y8c (y5 4 y6a (y5 3 yz (y5 2 y1x xN))) [.t 2] y2ab := fun _ => by kernel_rfl
def y1mv (m b g l a c j d : AV) (h : Heap) : OX :=
ob (yw 1 c d) fun e =>
ob (evLd false 1 e h) fun k =>
oh (y9 E (yb E) 0 none false 80 [b, k, a, g] h) fun i h8 =>
(y1t7 m b i l a c j d h8)
def y2f5 (s : St) : OX := y1mv (s 1) (s 3) (s 7) (s 8) (s 9) (s 66) (s 67) (s 68) s.h
theorem y1sk : T1 yxc y8c (y5 4 y6a (y5 3 yz (y5 2 y1x xN))) [.t 2] y2f5 := sq y1un fun _ => by kernel_rfl
def y16n (e b c d a g i j k : AV) (h : Heap) : OX :=
cnd k
 ((y1mv e b c d a g i j h))
 ((yo7 e b c d a h))
def y2dx (s : St) : OX := y16n (s 1) (s 3) (s 7) (s 8) (s 9) (s 66) (s 67) (s 68) (s 69) s.h
theorem y1fd : T1 y14q y8c (y5 4 y6a (y5 3 yz (y5 2 y1x xN))) [.t 2] y2dx := sq y1sk fun _ => by kernel_rfl
def y148 (j d e i c g a b : AV) (h : Heap) : OX :=
ob (y8 .lss b a) fun k =>
(y16n j d e i c g a b k h)
def y2de (s : St) : OX := y148 (s 1) (s 3) (s 7) (s 8) (s 9) (s 66) (s 67) (s 68) s.h
theorem y1wf : T1 yzu y8c (y5 4 y6a (y5 3 yz (y5 2 y1x xN))) [.t 2] y2de := sq y1fd fun _ => by kernel_rfl
theorem ylo (j b c i a d e g : AV) (h : Heap) : yfm j b c i a d e g h = (y148 j b c i a d e g h) :=
  y28.trans ((y1c _ _ _ (n' := y8c) (fun s => yn5 s)).trans ((y1wf _).trans (by kernel_rfl)))
theorem y1kx : T1 yzf y6a (y5 3 yz (y5 2 y1x xN)) [.t 2] y8c := fun s => yy.trans (yn5 s)
def y1cw (c g i b e : AV) (h : Heap) : OX :=
ob (evLd true 5 c h) fun d =>
oh (y9 E (yb E) 0 none true 79 [d, b] h) fun a h9 =>
ob (y10 1 a h9) fun j =>
(yfm c g i b e a j (.int .i64 0) h9)
def y1uq (s : St) : OX := y1cw (s 1) (s 3) (s 7) (s 8) (s 9) s.h
theorem y1e3 : T1 y11v y6a (y5 3 yz (y5 2 y1x xN)) [.t 2] y1uq := sq y1kx fun _ => by kernel_rfl
theorem y1sq : T1 y141 yz (y5 3 yz (y5 2 y1x xN)) [.t 2] y1uq := sq y1sr y1e3
def y17l (i a e b : AV) (h : Heap) : OX :=
ob (yw 1 a b) fun d =>
ob (evLd false 1 d h) fun c =>
oh (y9 E (yb E) 0 (some 4) false 78 [c] h) fun g h10 =>
(y1cw i a e b g h10)
def y29z (s : St) : OX := y17l (s 1) (s 3) (s 7) (s 8) s.h
theorem y1on : T1 y0e yz (y5 3 yz (y5 2 y1x xN)) [.t 2] y29z := sq y1sq fun _ => by kernel_rfl
def y1ee (i d a g : AV) (h : Heap) : OX :=
ob (y10 1 a h) fun b =>
ob (y8 .sub b (.int .i64 1)) fun c =>
ob (ybi 1 a none (some c)) fun e =>
(y17l i d e g h)
def y2e1 (s : St) : OX := y1ee (s 1) (s 3) (s 7) (s 8) s.h
theorem y1j3 : T1 y15s yz (y5 3 yz (y5 2 y1x xN)) [.t 2] y2e1 := sq y1on fun _ => by kernel_rfl
def y1oy (i e a : AV) (h : Heap) : OX :=
ob (y10 1 a h) fun d =>
ob (y8 .sub d (.int .i64 1)) fun c =>
ob (yw 1 a c) fun g =>
ob (evLd false 1 g h) fun b =>
(y1ee i e a b h)
def y1nz (s : St) : OX := y1oy (s 1) (s 3) (s 7) s.h
theorem y1t3 : T1 y138 yz (y5 3 yz (y5 2 y1x xN)) [.t 2] y1nz := sq y1j3 fun _ => by kernel_rfl
theorem y1sm : T1 y17d yz (y5 2 y1x xN) [.t 2] y1nz := fun s => yy.trans (y1t3 s)
def yrd (c a b : AV) (h : Heap) : OX :=
ob (y10 1 b h) fun d =>
ob (y8 .gtr d (.int .i64 0)) fun e =>
cnd e
 ((y1oy c a b h))
 ((ys5 c a h))
def y2dt (s : St) : OX := yrd (s 1) (s 3) (s 7) s.h
theorem y1dh : T1 yzh yz (y5 2 y1x xN) [.t 2] y2dt := sq y1sm fun _ => by kernel_rfl
theorem y1b1 (c b a : AV) (h : Heap) : yey c b a h = (yrd c b a h) :=
  y28.trans ((y1c _ _ _ (n' := yz) (fun s => ym1 s)).trans ((y1dh _).trans (by kernel_rfl)))
theorem y1dg : T1 y0l y1x xN [.t 2] yz := fun s => yy.trans (ym1 s)
theorem y1mb : T0 y07 [.t 2] yz := sq y1hh y1dg
def y1mg (d a e b : AV) (h : Heap) : OX :=
ob (yw 1 a (.int .i64 0)) fun c =>
oh (evSt 1 c e h) fun _ h11 =>
(yey d a b h11)
def y2bt (s : St) : OX := y1mg (s 1) (s 3) (s 4) (s 7) s.h
theorem y1ua : T0 y11p [.t 2] y2bt := sq y1mb fun _ => by kernel_rfl
def y13f (c b d : AV) (h : Heap) : OX :=
oh (y12 0 (some 3) 1 1 [(.int .i64 0)] [(0, (.int .i64 0))] h) fun a h12 =>
(y1mg c b d a h12)
def y6c (s : St) : OX := y13f (s 1) (s 3) (s 4) s.h
theorem y1ds : T0 yzw [.t 2] y6c := sq y1ua fun _ => by kernel_rfl
def yk8 (e b g a c d : AV) (h : Heap) : OX :=
  W E 0 ykw ⟨[(1, e), (3, b), (4, g), (31, a), (32, c), (33, d)], h⟩ y6c (y5 0 y6c xN) (finP [.t 2])
def y8m (s : St) : OX := yk8 (s 1) (s 3) (s 4) (s 31) (s 32) (s 33) s.h
theorem ymx : T1 ykw y6c (y5 0 y6c xN) [.t 2] y8m := fun s => yj.trans (by kernel_rfl)
def y1jt (g b i a d e : AV) (h : Heap) : OX :=
ob (y8 .add e (.int .i64 1)) fun c =>
(yk8 g b i a d c h)
def y29x (s : St) : OX := y1jt (s 1) (s 3) (s 4) (s 31) (s 32) (s 33) s.h
theorem y1lv : T1 yy8 y8m (y5 0 y6c xN) [.t 2] y29x := fun _ => by kernel_rfl
def y1g4 (k g c a j b : AV) (h : Heap) : OX :=
ob (yw 1 a b) fun e =>
ob (evLd false 1 e h) fun i =>
ob (yw 1 c i) fun d =>
oh (evSt 1 d (.bool true) h) fun _ h13 =>
(y1jt k g c a j b h13)
def y2en (s : St) : OX := y1g4 (s 1) (s 3) (s 4) (s 31) (s 32) (s 33) s.h
theorem y1rn : T1 y113 y8m (y5 0 y6c xN) [.t 2] y2en := sq y1lv fun _ => by kernel_rfl
def yx4 (b a c d e i g : AV) (h : Heap) : OX :=
cnd g
 ((y1g4 b a c d e i h))
 ((y13f b a c h))
def y2be (s : St) : OX := yx4 (s 1) (s 3) (s 4) (s 31) (s 32) (s 33) (s 34) s.h
theorem y1mu : T1 y0x y8m (y5 0 y6c xN) [.t 2] y2be := sq y1rn fun _ => by kernel_rfl
def y177 (g d i c a b : AV) (h : Heap) : OX :=
ob (y8 .lss b a) fun e =>
(yx4 g d i c a b e h)
def y286 (s : St) : OX := y177 (s 1) (s 3) (s 4) (s 31) (s 32) (s 33) s.h
theorem y1ed : T1 y122 y8m (y5 0 y6c xN) [.t 2] y286 := sq y1mu fun _ => by kernel_rfl
theorem yo8 (e b g a c d : AV) (h : Heap) : yk8 e b g a c d h = (y177 e b g a c d h) :=
  y28.trans ((y1c _ _ _ (n' := y8m) (fun s => ymx s)).trans ((y1ed _).trans (by kernel_rfl)))
theorem y1qc : T1 yy4 y6c xN [.t 2] y8m := fun s => yy.trans (ymx s)
def y1hs (b d g : AV) (h : Heap) : OX :=
ob (evFa 1 b) fun c =>
ob (evLd false 1 c h) fun a =>
ob (y10 1 a h) fun e =>
(yk8 b d g a e (.int .i64 0) h)
def y1r3 (s : St) : OX := y1hs (s 1) (s 3) (s 4) s.h
theorem y1uz : T1 y188 y6c xN [.t 2] y1r3 := sq y1qc fun _ => by kernel_rfl
theorem y1vh : T0 y13h [.t 2] y1r3 := sq y1ds y1uz
def y1ki (b c : AV) (h : Heap) : OX :=
ob (evFa 0 b) fun g =>
ob (evLd false 1 g h) fun d =>
ob (y10 1 d h) fun a =>
oh (mkSC 0 (some 2) 1 1 [(.bool false)] a a h) fun e h14 =>
(y1hs b c e h14)
def y29e (s : St) : OX := y1ki (s 1) (s 3) s.h
theorem y1d3 : T0 yxi [.t 2] y29e := sq y1vh fun _ => by kernel_rfl
def y1wg (b : AV) (h : Heap) : OX :=
ob (evFa 3 b) fun e =>
ob (evLd false 1 e h) fun d =>
ob (y10 1 d h) fun a =>
oh (mkSC 0 (some 1) 1 24 [.nils] a a h) fun c h15 =>
(y1ki b c h15)
def y28x (s : St) : OX := y1wg (s 1) s.h
theorem y1id : T0 y13m [.t 2] y28x := sq y1d3 fun _ => by kernel_rfl
def y13q (a : AV) (h : Heap) : OX :=
ob (evLd true 5 a h) fun d =>
oh (y9 E (yb E) 0 none true 8 [d] h) fun b h16 =>
ob (y8 .neq b (.int .i64 0)) fun c =>
cnd c
 ((yf h16 (.bool false)))
 ((y1wg a h16))
def y2fr (s : St) : OX := y13q (s 1) s.h
theorem y1jn : T0 y159 [.t 2] y2fr := sq y1id fun _ => by kernel_rfl
def y18n (a : AV) (h : Heap) : OX :=
oh (newC 0 (some 0) (cellsOf a) h) fun b h17 =>
(y13q b h17)
def y2bd (s : St) : OX := y18n (s 0) s.h
theorem y1sl : T0 y140 [.t 2] y2bd := sq y1jn fun _ => by kernel_rfl
@[simp] theorem y2q1 : E.pure 77 = true := rfl
theorem y2o4 (a : AV) : (yb E).p 77 [a] = y18n a [⟨0, .dead⟩, ⟨0, .dead⟩, ⟨0, .dead⟩, ⟨0, .dead⟩, ⟨0, .dead⟩, ⟨0, .dead⟩] :=
  (y15 (cf := y2in) (by kernel_rfl) rfl).trans ((y1sl _).trans (by kernel_rfl))
def yd8 (h : Heap) : OX :=
(yf h AV.nils)
def y36 (s : St) : OX := yd8 s.h
theorem y1xz : T0 y1i3 [.t 2] y36 := fun _ => by kernel_rfl
def ydk (a : AV) (h : Heap) : OX :=
ob (evFa 2 a) fun e =>
ob (evLd false 1 e h) fun c =>
ob (evFa 3 a) fun g =>
ob (evLd false 1 g h) fun d =>
oh (y12 0 (some 6) 1 2 [(.int .i64 0)] [(0, c), (1, d)] h) fun b h1 =>
(yf h1 b)
def y2lc (s : St) : OX := ydk (s 1) s.h
theorem y22w : T1 y1g7 y36 (y5 0 y36 xN) [.t 2] y2lc := fun _ => by kernel_rfl
def yeq (a : AV) (h : Heap) : OX :=
ob (evFa 3 a) fun i =>
ob (evLd false 1 i h) fun c =>
ob (y8 .lss c (.int .i64 0)) fun e =>
cnd e
 (ob (evFa 2 a) fun g =>
ob (evLd false 1 g h) fun b =>
oh (y12 0 (some 5) 1 1 [(.int .i64 0)] [(0, b)] h) fun d h2 =>
(yf h2 d))
 ((ydk a h))
def y2mq (s : St) : OX := yeq (s 1) s.h
theorem y1xv : T1 y1ex y36 (y5 0 y36 xN) [.t 2] y2mq := sq y22w fun _ => by kernel_rfl
def yeh (a l c : AV) (h : Heap) : OX :=
cnd c
 ((yeq a h))
 (ob (y8 .eql l (.int .i64 30)) fun b =>
cnd b
 (ob (evFa 2 a) fun g =>
ob (evLd false 1 g h) fun i =>
ob (y8 .geq i (.int .i64 0)) fun j =>
cnd j
 (ob (evFa 2 a) fun k =>
ob (evLd false 1 k h) fun e =>
oh (y12 0 (some 7) 1 1 [(.int .i64 0)] [(0, e)] h) fun d h3 =>
(yf h3 d))
 ((yd8 h)))
 ((yd8 h)))
def y2je (s : St) : OX := yeh (s 1) (s 4) (s 50) s.h
theorem y24a : T1 y1ot y36 (y5 0 y36 xN) [.t 2] y2je := fun s => (y1b (y1xv s) rfl).trans (by kernel_rfl)
def yeo (c a : AV) (h : Heap) : OX :=
ob (y8 .eql a (.int .i64 29)) fun b =>
(yeh c a b h)
def y2gw (s : St) : OX := yeo (s 1) (s 4) s.h
theorem y1xc : T1 y1u1 y36 (y5 0 y36 xN) [.t 2] y2gw := sq y24a fun _ => by kernel_rfl
def ybb (a g d : AV) (h : Heap) : OX :=
cnd d
 (ob (evFa 8 a) fun b =>
ob (evLd false 1 b h) fun c =>
oh (y9 E (yb E) 0 (some 4) false 39 [c] h) fun e h4 =>
(yf h4 e))
 ((yeo a g h))
def y2lu (s : St) : OX := ybb (s 1) (s 4) (s 42) s.h
theorem y23e : T1 y1gh y36 (y5 0 y36 xN) [.t 2] y2lu := fun s => (y1b rfl (y1xc s)).trans (by kernel_rfl)
def ye1 (b a : AV) (h : Heap) : OX :=
ob (y8 .eql a (.int .i64 23)) fun c =>
cnd c
 ((ybb b a c h))
 (ob (y8 .eql a (.int .i64 24)) fun e =>
cnd e
 ((ybb b a e h))
 (ob (y8 .eql a (.int .i64 25)) fun d =>
cnd d
 ((ybb b a d h))
 (ob (y8 .eql a (.int .i64 26)) fun g =>
(ybb b a g h))))
def y2m8 (s : St) : OX := ye1 (s 1) (s 4) s.h
theorem y23k : T1 y1la y36 (y5 0 y36 xN) [.t 2] y2m8 := sq y23e fun _ => by kernel_rfl
def yef (a l k : AV) (h : Heap) : OX :=
cnd k
 (ob (evFa 2 a) fun d =>
ob (evLd false 1 d h) fun e =>
ob (evFa 3 a) fun i =>
ob (evLd false 1 i h) fun j =>
ob (evFa 4 a) fun b =>
ob (evLd false 1 b h) fun g =>
oh (y12 0 (some 3) 1 3 [(.int .i64 0)] [(0, e), (1, j), (2, g)] h) fun c h5 =>
(yf h5 c))
 ((ye1 a l h))
def y2jz (s : St) : OX := yef (s 1) (s 4) (s 33) s.h
theorem y20q : T1 y1rj y36 (y5 0 y36 xN) [.t 2] y2jz := fun s => (y1b rfl (y23k s)).trans (by kernel_rfl)
def ye5 (c a : AV) (h : Heap) : OX :=
ob (y8 .eql a (.int .i64 14)) fun b =>
(yef c a b h)
def y2mp (s : St) : OX := ye5 (s 1) (s 4) s.h
theorem y254 : T1 y1oh y36 (y5 0 y36 xN) [.t 2] y2mp := sq y20q fun _ => by kernel_rfl
def y4x (a j g : AV) (h : Heap) : OX :=
cnd g
 (ob (evFa 2 a) fun b =>
ob (evLd false 1 b h) fun i =>
ob (evFa 3 a) fun d =>
ob (evLd false 1 d h) fun c =>
oh (y12 0 (some 2) 1 2 [(.int .i64 0)] [(0, i), (1, c)] h) fun e h6 =>
(yf h6 e))
 ((ye5 a j h))
def y29k (s : St) : OX := y4x (s 1) (s 4) (s 21) s.h
theorem y1pm : T1 y02 y36 (y5 0 y36 xN) [.t 2] y29k := fun s => (y1b rfl (y254 s)).trans (by kernel_rfl)
def y6s (b a : AV) (h : Heap) : OX :=
ob (y8 .eql a (.int .i64 5)) fun i =>
cnd i
 ((y4x b a i h))
 (ob (y8 .eql a (.int .i64 9)) fun e =>
cnd e
 ((y4x b a e h))
 (ob (y8 .eql a (.int .i64 11)) fun g =>
cnd g
 ((y4x b a g h))
 (ob (y8 .eql a (.int .i64 13)) fun d =>
cnd d
 ((y4x b a d h))
 (ob (y8 .eql a (.int .i64 17)) fun c =>
cnd c
 ((y4x b a c h))
 (ob (y8 .eql a (.int .i64 28)) fun j =>
(y4x b a j h))))))
def y2av (s : St) : OX := y6s (s 1) (s 4) s.h
theorem y1fy : T1 y0b y36 (y5 0 y36 xN) [.t 2] y2av := sq y1pm fun _ => by kernel_rfl
def y3f (a g c : AV) (h : Heap) : OX :=
cnd c
 (ob (evFa 2 a) fun b =>
ob (evLd false 1 b h) fun e =>
oh (y12 0 (some 1) 1 1 [(.int .i64 0)] [(0, e)] h) fun d h7 =>
(yf h7 d))
 ((y6s a g h))
def y2a6 (s : St) : OX := y3f (s 1) (s 4) (s 5) s.h
theorem y1vm : T1 yzq y36 (y5 0 y36 xN) [.t 2] y2a6 := fun s => (y1b rfl (y1fy s)).trans (by kernel_rfl)
def y74 (b a : AV) (h : Heap) : OX :=
ob (y8 .eql a (.int .i64 4)) fun n =>
cnd n
 ((y3f b a n h))
 (ob (y8 .eql a (.int .i64 6)) fun k =>
cnd k
 ((y3f b a k h))
 (ob (y8 .eql a (.int .i64 7)) fun o =>
cnd o
 ((y3f b a o h))
 (ob (y8 .eql a (.int .i64 8)) fun i =>
cnd i
 ((y3f b a i h))
 (ob (y8 .eql a (.int .i64 10)) fun l =>
cnd l
 ((y3f b a l h))
 (ob (y8 .eql a (.int .i64 12)) fun e =>
cnd e
 ((y3f b a e h))
 (ob (y8 .eql a (.int .i64 15)) fun j =>
cnd j
 ((y3f b a j h))
 (ob (y8 .eql a (.int .i64 16)) fun g =>
cnd g
 ((y3f b a g h))
 (ob (y8 .eql a (.int .i64 19)) fun c =>
cnd c
 ((y3f b a c h))
 (ob (y8 .eql a (.int .i64 21)) fun m =>
cnd m
 ((y3f b a m h))
 (ob (y8 .eql a (.int .i64 22)) fun d =>
cnd d
 ((y3f b a d h))
 (ob (y8 .eql a (.int .i64 31)) fun p =>
(y3f b a p h))))))))))))
def y1py (s : St) : OX := y74 (s 1) (s 4) s.h
theorem y1df : T1 y15j y36 (y5 0 y36 xN) [.t 2] y1py := sq y1vm fun _ => by kernel_rfl
theorem y1w6 : T1 y14d y36 xN [.t 2] y1py := fun s => yy.trans (y1df s)
def y6z (a : AV) (h : Heap) : OX :=
ob (evFa 0 a) fun b =>
ob (evLd false 1 b h) fun c =>
(y74 a c h)
def y1pf (s : St) : OX := y6z (s 1) s.h
theorem y1oi : T1 y189 y36 xN [.t 2] y1pf := sq y1w6 fun _ => by kernel_rfl
theorem y1gc : T0 y14c [.t 2] y1pf := sq y1xz y1oi
def y6v (a : AV) (h : Heap) : OX :=
oh (newC 0 (some 0) (cellsOf a) h) fun b h8 =>
(y6z b h8)
def y2ed (s : St) : OX := y6v (s 0) s.h
theorem y1wk : T0 y13g [.t 2] y2ed := sq y1gc fun _ => by kernel_rfl
@[simp] theorem y2qs : E.pure 10 = true := rfl
theorem yvy (a : AV) : (yb E).p 10 [a] = y6v a [⟨0, .dead⟩, ⟨0, .dead⟩, ⟨0, .dead⟩, ⟨0, .dead⟩, ⟨0, .dead⟩, ⟨0, .dead⟩, ⟨0, .dead⟩, ⟨0, .dead⟩] :=
  (y15 (cf := y2is) (by kernel_rfl) rfl).trans ((y1wk _).trans (by kernel_rfl))
def y1ni (h : Heap) : OX :=
(yf h (.int .i64 (-1)))
def y2ky (s : St) : OX := y1ni s.h
theorem y21z : T0 y1em [.t 2] y2ky := fun _ => by kernel_rfl
def y1gt (a : AV) (h : Heap) : OX :=
ob (evLd true 9 a h) fun e =>
oh (y9 E (yb E) 0 none true 17 [e] h) fun c h1 =>
cnd c
 (ob (evFa 1 a) fun d =>
ob (evLd false 1 d h1) fun b =>
(yf h1 b))
 ((y1ni h1))
def yhx (s : St) : OX := y1gt (s 1) s.h
theorem y253 : T0 y1fr [.t 2] yhx := sq y21z fun _ => by kernel_rfl
def ya9 (a d : AV) (h : Heap) : OX :=
cnd d
 (ob (evFa 1 a) fun b =>
ob (evLd false 1 b h) fun c =>
(yf h c))
 ((y1gt a h))
def y2iv (s : St) : OX := ya9 (s 1) (s 5) s.h
theorem y24m : T1 y1pe yhx (y5 0 yhx xN) [.t 2] y2iv := fun _ => by kernel_rfl
def y1ta (a b : AV) (h : Heap) : OX :=
ob (y8 .eql b (.int .i64 1)) fun o =>
cnd o
 ((ya9 a o h))
 (ob (y8 .eql b (.int .i64 2)) fun l =>
cnd l
 ((ya9 a l h))
 (ob (y8 .eql b (.int .i64 3)) fun r =>
cnd r
 ((ya9 a r h))
 (ob (y8 .eql b (.int .i64 4)) fun j =>
cnd j
 ((ya9 a j h))
 (ob (y8 .eql b (.int .i64 5)) fun m =>
cnd m
 ((ya9 a m h))
 (ob (y8 .eql b (.int .i64 6)) fun g =>
cnd g
 ((ya9 a g h))
 (ob (y8 .eql b (.int .i64 13)) fun k =>
cnd k
 ((ya9 a k h))
 (ob (y8 .eql b (.int .i64 15)) fun i =>
cnd i
 ((ya9 a i h))
 (ob (y8 .eql b (.int .i64 16)) fun c =>
cnd c
 ((ya9 a c h))
 (ob (y8 .eql b (.int .i64 18)) fun n =>
cnd n
 ((ya9 a n h))
 (ob (y8 .eql b (.int .i64 20)) fun e =>
cnd e
 ((ya9 a e h))
 (ob (y8 .eql b (.int .i64 21)) fun p =>
cnd p
 ((ya9 a p h))
 (ob (y8 .eql b (.int .i64 22)) fun d =>
cnd d
 ((ya9 a d h))
 (ob (y8 .eql b (.int .i64 32)) fun t =>
(ya9 a t h))))))))))))))
def y26o (s : St) : OX := y1ta (s 1) (s 4) s.h
theorem y245 : T1 y1kj yhx (y5 0 yhx xN) [.t 2] y26o := sq y24m fun _ => by kernel_rfl
theorem y205 : T1 y1hj yhx xN [.t 2] y26o := fun s => yy.trans (y245 s)
def y1ou (a : AV) (h : Heap) : OX :=
ob (evFa 0 a) fun b =>
ob (evLd false 1 b h) fun c =>
(y1ta a c h)
def y26k (s : St) : OX := y1ou (s 1) s.h
theorem y1yz : T1 y1vg yhx xN [.t 2] y26k := sq y205 fun _ => by kernel_rfl
theorem y21n : T0 y1h2 [.t 2] y26k := sq y253 y1yz
def y1lq (a : AV) (h : Heap) : OX :=
oh (newC 0 (some 0) (cellsOf a) h) fun b h2 =>
(y1ou b h2)
def y2lw (s : St) : OX := y1lq (s 0) s.h
theorem y21e : T0 y1pb [.t 2] y2lw := sq y21n fun _ => by kernel_rfl
@[simp] theorem y2rl : E.pure 9 = true := rfl
theorem y2po (a : AV) : (yb E).p 9 [a] = y1lq a [⟨0, .dead⟩] :=
  (y15 (cf := y2mb) (by kernel_rfl) rfl).trans ((y21e _).trans (by kernel_rfl))
def y16f (a : AV) (h : Heap) : OX :=
oh (y12 0 (some 0) 1 0 [(.int .i64 0)] [] h) fun c h1 =>
oh (y3y 0 (some 1) 1 8 c a h1) fun b h2 =>
(yf h2 b)
def y29u (s : St) : OX := y16f (s 0) s.h
theorem y1sv : T0 y11s [.t 2] y29u := fun _ => by kernel_rfl
def yy9 (a : AV) (h : Heap) : OX :=
ob (y4q 1 false a AV.nils) fun b =>
cnd b
 ((yf h AV.nils))
 ((y16f a h))
def y28y (s : St) : OX := yy9 (s 0) s.h
theorem y1kq : T0 y0w [.t 2] y28y := sq y1sv fun _ => by kernel_rfl
def y18q (a : AV) (h : Heap) : OX :=
(yy9 a h)
def y2ak (s : St) : OX := y18q (s 0) s.h
theorem y1uc : T0 y11d [.t 2] y2ak := sq y1kq fun _ => by kernel_rfl
@[simp] theorem y2pv : E.pure 39 = true := rfl
theorem y2h1 (a : AV) : (yb E).p 39 [a] = y18q a [⟨0, .dead⟩, ⟨0, .dead⟩] :=
  (y15 (cf := y26r) (by kernel_rfl) rfl).trans ((y1uc _).trans (by kernel_rfl))
def y12f (a : AV) (h : Heap) : OX :=
oh (y12 0 (some 0) 9 0 [(.int .i64 0), (.int .i64 0), (.int .i64 0), (.int .i64 0), (.int .i64 0), (.int .i64 0), (.int .i64 0), (.str []), .nils] [] h) fun c h1 =>
oh (y3y 0 (some 1) 9 96 c a h1) fun b h2 =>
(yf h2 b)
def y29d (s : St) : OX := y12f (s 0) s.h
theorem y1nq : T0 y16e [.t 2] y29d := fun _ => by kernel_rfl
def y14z (a : AV) (h : Heap) : OX :=
ob (y4q 1 false a AV.nils) fun b =>
cnd b
 ((yf h AV.nils))
 ((y12f a h))
def y2b7 (s : St) : OX := y14z (s 0) s.h
theorem y1o5 : T0 y06 [.t 2] y2b7 := sq y1nq fun _ => by kernel_rfl
def y0z (a : AV) (h : Heap) : OX :=
(y14z a h)
def y2aa (s : St) : OX := y0z (s 0) s.h
theorem y1ts : T0 y12x [.t 2] y2aa := sq y1o5 fun _ => by kernel_rfl
@[simp] theorem y2pc : E.pure 40 = true := rfl
theorem y2l7 (a : AV) : (yb E).p 40 [a] = y0z a [⟨0, .dead⟩, ⟨0, .dead⟩] :=
  (y15 (cf := y26c) (by kernel_rfl) rfl).trans ((y1ts _).trans (by kernel_rfl))
def y14h (a : AV) (h : Heap) : OX :=
oh (y12 0 (some 0) 4 0 [(.int .i64 0), (.int .i64 0), (.int .i64 0), (.str [])] [] h) fun c h1 =>
oh (y3y 0 (some 1) 4 40 c a h1) fun b h2 =>
(yf h2 b)
def y27u (s : St) : OX := y14h (s 0) s.h
theorem y1jm : T0 y17c [.t 2] y27u := fun _ => by kernel_rfl
def yzp (a : AV) (h : Heap) : OX :=
ob (y4q 1 false a AV.nils) fun b =>
cnd b
 ((yf h AV.nils))
 ((y14h a h))
def y2eu (s : St) : OX := yzp (s 0) s.h
theorem y1uk : T0 y112 [.t 2] y2eu := sq y1jm fun _ => by kernel_rfl
def y168 (a : AV) (h : Heap) : OX :=
(yzp a h)
def y2er (s : St) : OX := y168 (s 0) s.h
theorem y1rr : T0 y130 [.t 2] y2er := sq y1uk fun _ => by kernel_rfl
@[simp] theorem y2ol : E.pure 41 = true := rfl
theorem y2i3 (a : AV) : (yb E).p 41 [a] = y168 a [⟨0, .dead⟩, ⟨0, .dead⟩] :=
  (y15 (cf := y26h) (by kernel_rfl) rfl).trans ((y1rr _).trans (by kernel_rfl))
def yjn (h : Heap) : OX :=
(yf h (.bool true))
def y7a (s : St) : OX := yjn s.h
theorem y1gg : T0 y180 [.t 4] y7a := fun _ => by kernel_rfl
def yfp (a b c : AV) (h : Heap) : OX :=
  W E 0 ykt ⟨[(0, a), (1, b), (5, c)], h⟩ y7a (y5 0 y7a xN) (finP [.t 4])
def ybr (s : St) : OX := yfp (s 0) (s 1) (s 5) s.h
theorem ylv : T1 ykt y7a (y5 0 y7a xN) [.t 4] ybr := fun s => yj.trans (by kernel_rfl)
def yl2 (a c d : AV) (h : Heap) : OX :=
ob (y8 .add d (.int .i64 1)) fun b =>
(yfp a c b h)
def y2el (s : St) : OX := yl2 (s 0) (s 1) (s 5) s.h
theorem y1s4 : T1 yy0 ybr (y5 0 y7a xN) [.t 4] y2el := fun _ => by kernel_rfl
def ykd (b c a : AV) (h : Heap) : OX :=
ob (yw 1 b a) fun i =>
ob (evLd false 1 i h) fun e =>
ob (yw 1 c a) fun g =>
ob (evLd false 1 g h) fun j =>
ob (y8 .neq e j) fun d =>
cnd d
 ((yf h (.bool false)))
 ((yl2 b c a h))
def y2dr (s : St) : OX := ykd (s 0) (s 1) (s 5) s.h
theorem y1np : T1 yz0 ybr (y5 0 y7a xN) [.t 4] y2dr := sq y1s4 fun _ => by kernel_rfl
def yj8 (b e a : AV) (h : Heap) : OX :=
ob (y10 1 b h) fun d =>
ob (y8 .lss a d) fun c =>
cnd c
 ((ykd b e a h))
 ((yjn h))
def y27z (s : St) : OX := yj8 (s 0) (s 1) (s 5) s.h
theorem y1v5 : T1 yyt ybr (y5 0 y7a xN) [.t 4] y27z := sq y1np fun _ => by kernel_rfl
theorem yn7 (a b c : AV) (h : Heap) : yfp a b c h = (yj8 a b c h) :=
  y28.trans ((y1c _ _ _ (n' := ybr) (fun s => ylv s)).trans ((y1v5 _).trans (by kernel_rfl)))
theorem y1sa : T1 yy1 y7a xN [.t 4] ybr := fun s => yy.trans (ylv s)
def yje (a b : AV) (h : Heap) : OX :=
(yfp a b (.int .i64 0) h)
def y1ll (s : St) : OX := yje (s 0) (s 1) s.h
theorem y1dd : T1 yzk y7a xN [.t 4] y1ll := sq y1sa fun _ => by kernel_rfl
theorem y1u8 : T0 y0a [.t 4] y1ll := sq y1gg y1dd
def yju (a b : AV) (h : Heap) : OX :=
ob (y10 1 a h) fun d =>
ob (y10 1 b h) fun c =>
ob (y8 .neq d c) fun e =>
cnd e
 ((yf h (.bool false)))
 ((yje a b h))
def y284 (s : St) : OX := yju (s 0) (s 1) s.h
theorem y1p1 : T0 y12g [.t 4] y284 := sq y1u8 fun _ => by kernel_rfl
def ycx (a b : AV) (h : Heap) : OX :=
(yju a b h)
def y1yh (s : St) : OX := ycx (s 0) (s 1) s.h
theorem y1bp : T0 ysm [.t 4] y1yh := sq y1p1 fun _ => by kernel_rfl
@[simp] theorem y2p8 : E.pure 11 = true := rfl
theorem y2l4 (a b : AV) : (yb E).p 11 [a, b] = ycx a b [] :=
  (y15 (cf := y260) (by kernel_rfl) rfl).trans ((y1bp _).trans (by kernel_rfl))
def yau (Z a4 : AV) (h : Heap) : OX :=
oh (newC 0 (some 0) (cellsOf Z) h) fun a h1 =>
oh (newC 0 (some 1) (cellsOf a4) h1) fun b h2 =>
ob (evFa 0 a) fun n =>
ob (evLd false 1 n h2) fun v =>
ob (evFa 0 b) fun p =>
ob (evLd false 1 p h2) fun x =>
ob (y8 .eql v x) fun g =>
gb g true (evFa 1 a) fun B =>
gb g true (evLd false 1 B h2) fun V =>
gb g true (evFa 1 b) fun R =>
gb g true (evLd false 1 R h2) fun M =>
gb g true (y8 .eql V M) fun a9 =>
ob (yd g a9 (.bool false)) fun i =>
gb i true (evFa 2 a) fun z =>
gb i true (evLd false 1 z h2) fun a1 =>
gb i true (evFa 2 b) fun S =>
gb i true (evLd false 1 S h2) fun a0 =>
gb i true (y8 .eql a1 a0) fun a3 =>
ob (yd i a3 (.bool false)) fun c =>
gb c true (evFa 3 a) fun N =>
gb c true (evLd false 1 N h2) fun J =>
gb c true (evFa 3 b) fun a2 =>
gb c true (evLd false 1 a2 h2) fun K =>
gb c true (y8 .eql J K) fun I =>
ob (yd c I (.bool false)) fun e =>
gb e true (evFa 4 a) fun b0 =>
gb e true (evLd false 1 b0 h2) fun y =>
gb e true (evFa 4 b) fun b1 =>
gb e true (evLd false 1 b1 h2) fun a8 =>
gb e true (y8 .eql y a8) fun F =>
ob (yd e F (.bool false)) fun k =>
gb k true (evFa 5 a) fun a7 =>
gb k true (evLd false 1 a7 h2) fun G =>
gb k true (evFa 5 b) fun A =>
gb k true (evLd false 1 A h2) fun r =>
gb k true (y8 .eql G r) fun o =>
ob (yd k o (.bool false)) fun d =>
gb d true (evFa 6 a) fun a6 =>
gb d true (evLd false 1 a6 h2) fun m =>
gb d true (evFa 6 b) fun H =>
gb d true (evLd false 1 H h2) fun t =>
gb d true (y8 .eql m t) fun U =>
ob (yd d U (.bool false)) fun j =>
gb j true (evFa 7 a) fun O =>
gb j true (evLd false 1 O h2) fun C =>
gb j true (evFa 7 b) fun D =>
gb j true (evLd false 1 D h2) fun L =>
gb j true (y8 .eql C L) fun P =>
ob (yd j P (.bool false)) fun l =>
gb l true (evFa 8 a) fun a5 =>
gb l true (evLd false 1 a5 h2) fun Y =>
gb l true (evFa 8 b) fun Q =>
gb l true (evLd false 1 Q h2) fun w =>
gh l true (y9 E (yb E) 0 none true 11 [Y, w] h2) h2 fun X h3 =>
ob (yd l X (.bool false)) fun u =>
(yf h3 u)
def y2a7 (s : St) : OX := yau (s 0) (s 1) s.h
theorem y1l2 : T0 yyl [.t 4] y2a7 := fun _ => by kernel_rfl
@[simp] theorem y2o5 : E.pure 28 = true := rfl
theorem y2h0 (a b : AV) : (yb E).p 28 [a, b] = yau a b [⟨0, .dead⟩, ⟨0, .dead⟩] :=
  (y15 (cf := y27o) (by kernel_rfl) rfl).trans ((y1l2 _).trans (by kernel_rfl))
def y2cc (k : AV) (h : Heap) : OX :=
oh (newC 0 (some 0) (cellsOf k) h) fun c h1 =>
ob (evFa 0 c) fun j =>
ob (evLd false 1 j h1) fun o =>
ob (y8 .eql o (.int .i64 27)) fun a =>
gb a false (evFa 0 c) fun l =>
gb a false (evLd false 1 l h1) fun n =>
gb a false (y8 .eql n (.int .i64 30)) fun g =>
ob (yd a (.bool true) g) fun b =>
gb b false (evFa 0 c) fun i =>
gb b false (evLd false 1 i h1) fun e =>
gb b false (y8 .eql e (.int .i64 31)) fun d =>
ob (yd b (.bool true) d) fun m =>
(yf h1 m)
def y2iz (s : St) : OX := y2cc (s 0) s.h
theorem y227 : T0 y1do [.t 2] y2iz := fun _ => by kernel_rfl
@[simp] theorem y2p4 : E.pure 24 = true := rfl
theorem y2qr (a : AV) : (yb E).p 24 [a] = y2cc a [⟨0, .dead⟩] :=
  (y15 (cf := y2hs) (by kernel_rfl) rfl).trans ((y227 _).trans (by kernel_rfl))
def yz1 (a d : AV) (h : Heap) : OX :=
oh (y9 E (yb E) 0 none true 45 [a, d] h) fun b h1 =>
ob (y8 .geq b (.int .i64 0)) fun c =>
(yf h1 c)
def y28c (s : St) : OX := yz1 (s 0) (s 1) s.h
theorem y1el : T0 y16d [.t 4] y28c := fun _ => by kernel_rfl
@[simp] theorem y2os : E.pure 46 = true := rfl
theorem y2m6 (a b : AV) : (yb E).p 46 [a, b] = yz1 a b [] :=
  (y15 (cf := y26x) (by kernel_rfl) rfl).trans ((y1el _).trans (by kernel_rfl))
def y1fj (j c : AV) (h : Heap) : OX :=
ob (evLd true 9 c h) fun i =>
oh (y9 E (yb E) 0 none true 22 [i] h) fun t h1 =>
ob (evUn .not t) fun b =>
gb b false (evFa 6 c) fun p =>
gb b false (evLd false 1 p h1) fun e =>
gb b false (y8 .geq e (.int .i64 0)) fun k =>
gb b false (some k) fun a =>
gb a true (evFa 6 c) fun d =>
gb a true (evLd false 1 d h1) fun g =>
gb a true (evFa 3 j) fun l =>
gb a true (evLd false 1 l h1) fun r =>
gb a true (y10 1 r h1) fun m =>
gb a true (y8 .lss g m) fun u =>
gb b false (yd a u (.bool false)) fun n =>
ob (yd b (.bool true) n) fun o =>
(yf h1 o)
def y2j7 (s : St) : OX := y1fj (s 2) (s 3) s.h
theorem y251 : T0 y1lj [.t 4] y2j7 := fun _ => by kernel_rfl
def yaa (d a : AV) (h : Heap) : OX :=
ob (evFa 0 a) fun c2 =>
ob (evLd false 1 c2 h) fun i =>
ob (y8 .eql i (.int .i64 1)) fun J =>
cnd J
 (ob (evFa 0 d) fun c6 =>
ob (evLd false 1 c6 h) fun b1 =>
ob (evFa 1 a) fun a9 =>
ob (evLd false 1 a9 h) fun a6 =>
ob (yw 1 b1 a6) fun c5 =>
ob (evLd false 1 c5 h) fun S =>
ob (y8 .neq S (.int .i64 3)) fun b =>
gb b true (evFa 0 d) fun D =>
gb b true (evLd false 1 D h) fun z =>
gb b true (evFa 1 a) fun b8 =>
gb b true (evLd false 1 b8 h) fun X =>
gb b true (yw 1 z X) fun a1 =>
gb b true (evLd false 1 a1 h) fun c8 =>
gb b true (y8 .eql c8 (.int .i64 2)) fun Q =>
gb b true (some Q) fun e =>
gb e false (evFa 5 a) fun t =>
gb e false (evLd false 1 t h) fun b0 =>
gb e false (evFa 5 a) fun a0 =>
gb e false (evLd false 1 a0 h) fun H =>
gb e false (y19h .i32 H) fun c3 =>
gb e false (y19h .i64 c3) fun a8 =>
gb e false (y8 .eql b0 a8) fun k =>
gb b true (yd e (.bool true) k) fun m =>
ob (yd b m (.bool false)) fun Y =>
(yf h Y))
 (ob (y8 .eql i (.int .i64 4)) fun l =>
cnd l
 (ob (evFa 0 d) fun M =>
ob (evLd false 1 M h) fun b7 =>
ob (evFa 1 a) fun c0 =>
ob (evLd false 1 c0 h) fun b5 =>
ob (yw 1 b7 b5) fun A =>
ob (evLd false 1 A h) fun Z =>
ob (evFa 0 d) fun N =>
ob (evLd false 1 N h) fun a4 =>
ob (evFa 2 a) fun n =>
ob (evLd false 1 n h) fun a2 =>
ob (yw 1 a4 a2) fun b2 =>
ob (evLd false 1 b2 h) fun G =>
ob (y8 .eql Z G) fun I =>
(yf h I))
 (ob (y8 .eql i (.int .i64 7)) fun U =>
cnd U
 (ob (evFa 0 d) fun b3 =>
ob (evLd false 1 b3 h) fun b4 =>
ob (evFa 2 a) fun R =>
ob (evLd false 1 R h) fun o =>
ob (yw 1 b4 o) fun K =>
ob (evLd false 1 K h) fun a3 =>
ob (y8 .neq a3 (.int .i64 3)) fun c4 =>
(yf h c4))
 (ob (y8 .eql i (.int .i64 30)) fun j =>
cnd j
 (ob (evFa 2 a) fun V =>
ob (evLd false 1 V h) fun b9 =>
ob (y8 .eql b9 (.int .i64 (-1))) fun a7 =>
ob (evFa 2 d) fun O =>
ob (evLd false 1 O h) fun w =>
ob (y8 .eql w (.int .i64 0)) fun p =>
ob (y1xu false a7 p) fun g =>
gb g true (evFa 2 a) fun b6 =>
gb g true (evLd false 1 b6 h) fun y =>
gb g true (y8 .eql y (.int .i64 (-1))) fun P =>
gb g true (some P) fun c =>
gb c false (evFa 0 d) fun u =>
gb c false (evLd false 1 u h) fun F =>
gb c false (evFa 2 a) fun v =>
gb c false (evLd false 1 v h) fun c7 =>
gb c false (yw 1 F c7) fun L =>
gb c false (evLd false 1 L h) fun x =>
gb c false (evFa 2 d) fun a5 =>
gb c false (evLd false 1 a5 h) fun c1 =>
gb c false (y8 .eql x c1) fun C =>
gb g true (yd c (.bool true) C) fun B =>
ob (yd g B (.bool false)) fun r =>
(yf h r))
 ((y1fj d a h)))))
def y6k (s : St) : OX := yaa (s 2) (s 3) s.h
theorem y20m : T0 y1s1 [.t 4] y6k := sq y251 fun _ => by kernel_rfl
def ykx (b c e a d : AV) (h : Heap) : OX :=
  W E 0 yp4 ⟨[(2, b), (3, c), (63, e), (64, a), (65, d)], h⟩ y6k (y5 2 y6k xN) (finP [.t 4])
def ydf (s : St) : OX := ykx (s 2) (s 3) (s 63) (s 64) (s 65) s.h
theorem yto : T1 yp4 y6k (y5 2 y6k xN) [.t 4] ydf := fun s => yj.trans (by kernel_rfl)
def y1qk (b d g a e : AV) (h : Heap) : OX :=
ob (y8 .add e (.int .i64 1)) fun c =>
(ykx b d g a c h)
def ygm (s : St) : OX := y1qk (s 2) (s 3) (s 63) (s 64) (s 65) s.h
theorem y207 : T1 y1h5 ydf (y5 2 y6k xN) [.t 4] ygm := fun _ => by kernel_rfl
def yiw (g i t j o B n : AV) (h : Heap) : OX :=
ob (y8 .lss j (.int .i64 0)) fun d =>
gb d false (some j) fun H =>
gb d false (evFa 0 g) fun I =>
gb d false (evLd false 1 I h) fun w =>
gb d false (y10 1 w h) fun r =>
gb d false (y8 .geq H r) fun A =>
ob (yd d (.bool true) A) fun a =>
gb a false (some t) fun D =>
gb a false (y8 .eql D (.int .i64 0)) fun F =>
gb a false (some F) fun c =>
gb c true (evFa 0 i) fun p =>
gb c true (evLd false 1 p h) fun J =>
gb c true (y8 .eql J (.int .i64 24)) fun L =>
gb c true (some L) fun e =>
gb e false (evFa 0 i) fun x =>
gb e false (evLd false 1 x h) fun C =>
gb e false (y8 .eql C (.int .i64 25)) fun K =>
gb c true (yd e (.bool true) K) fun G =>
gb a false (yd c G (.bool false)) fun v =>
gb a false (some v) fun b =>
gb b true (evFa 0 g) fun m =>
gb b true (evLd false 1 m h) fun k =>
gb b true (some j) fun l =>
gb b true (yw 1 k l) fun N =>
gb b true (evLd false 1 N h) fun y =>
gb b true (y8 .neq y (.int .i64 3)) fun z =>
gb a false (yd b z (.bool false)) fun u =>
ob (yd a (.bool true) u) fun M =>
cnd M
 ((yf h (.bool false)))
 ((y1qk g i o B n h))
def y2j2 (s : St) : OX := yiw (s 2) (s 3) (s 9) (s 10) (s 63) (s 64) (s 65) s.h
theorem y21q : T1 y1ne ygm (y5 3 ygm (y5 2 y6k xN)) [.t 4] y2j2 := fun _ => by kernel_rfl
def y1f3 (b a e i k c j : AV) (h : Heap) : OX :=
ob (evLd true 9 a h) fun l =>
oh (y9 E (yb E) 0 none true 17 [l] h) fun g h2 =>
ob (evUn .not g) fun d =>
cnd d
 ((yaa b a h2))
 ((yiw b a e i k c j h2))
def y2mx (s : St) : OX := y1f3 (s 2) (s 3) (s 9) (s 10) (s 63) (s 64) (s 65) s.h
theorem y24l : T1 y1lc ygm (y5 3 ygm (y5 2 y6k xN)) [.t 4] y2mx := sq y21q fun _ => by kernel_rfl
def y1tf (d e b c a : AV) (h : Heap) : OX :=
ob (yw 1 b a) fun g =>
ob (evLd false 1 g h) fun i =>
(y1f3 d e a i b c a h)
def y1ff (s : St) : OX := y1tf (s 2) (s 3) (s 63) (s 64) (s 65) s.h
theorem y214 : T1 y1rk ygm (y5 3 ygm (y5 2 y6k xN)) [.t 4] y1ff := sq y24l fun _ => by kernel_rfl
theorem y23r : T1 y1su ygm (y5 2 y6k xN) [.t 4] y1ff := fun s => yy.trans (y214 s)
theorem y1xg : T1 y1qp ydf (y5 2 y6k xN) [.t 4] y1ff := sq y207 y23r
def yjx (a b g c d e : AV) (h : Heap) : OX :=
cnd e
 ((y1tf a b g c d h))
 ((yaa a b h))
def y2c6 (s : St) : OX := yjx (s 2) (s 3) (s 63) (s 64) (s 65) (s 66) s.h
theorem y1jo : T1 y11w ydf (y5 2 y6k xN) [.t 4] y2c6 := sq y1xg fun _ => by kernel_rfl
def yjb (c d g a b : AV) (h : Heap) : OX :=
ob (y8 .lss b a) fun e =>
(yjx c d g a b e h)
def y298 (s : St) : OX := yjb (s 2) (s 3) (s 63) (s 64) (s 65) s.h
theorem y1u5 : T1 yzg ydf (y5 2 y6k xN) [.t 4] y298 := sq y1jo fun _ => by kernel_rfl
theorem yja (b c e a d : AV) (h : Heap) : ykx b c e a d h = (yjb b c e a d h) :=
  y28.trans ((y1c _ _ _ (n' := ydf) (fun s => yto s)).trans ((y1u5 _).trans (by kernel_rfl)))
theorem y1j6 : T1 yz7 y6k xN [.t 4] ydf := fun s => yy.trans (yto s)
def yqt (e a : AV) (h : Heap) : OX :=
ob (evFa 8 a) fun d =>
ob (evLd false 1 d h) fun b =>
ob (y10 1 b h) fun c =>
(ykx e a b c (.int .i64 0) h)
def y3z (s : St) : OX := yqt (s 2) (s 3) s.h
theorem y1fa : T1 yxq y6k xN [.t 4] y3z := sq y1j6 fun _ => by kernel_rfl
theorem y1fc : T0 y14a [.t 4] y3z := sq y20m y1fa
def yd5 (b c a e d : AV) (h : Heap) : OX :=
  W E 0 yhv ⟨[(2, b), (3, c), (5, a), (26, e), (27, d)], h⟩ y3z (y5 0 y3z xN) (finP [.t 4])
def y92 (s : St) : OX := yd5 (s 2) (s 3) (s 5) (s 26) (s 27) s.h
theorem ym3 : T1 yhv y3z (y5 0 y3z xN) [.t 4] y92 := fun s => yj.trans (by kernel_rfl)
def ysh (b c a g e : AV) (h : Heap) : OX :=
ob (y8 .add e (.int .i64 1)) fun d =>
(yd5 b c a g d h)
def yah (s : St) : OX := ysh (s 2) (s 3) (s 5) (s 26) (s 27) s.h
theorem y1n1 : T1 yzi y92 (y5 0 y3z xN) [.t 4] yah := fun _ => by kernel_rfl
def yho (e l d i g w B : AV) (h : Heap) : OX :=
ob (y8 .lss g (.int .i64 0)) fun c =>
gb c false (some g) fun o =>
gb c false (evFa 0 e) fun G =>
gb c false (evLd false 1 G h) fun u =>
gb c false (y10 1 u h) fun p =>
gb c false (y8 .geq o p) fun n =>
ob (yd c (.bool true) n) fun b =>
gb b false (some i) fun k =>
gb b false (yov 4 1 d k) fun F =>
gb b false (evLd false 1 F h) fun j =>
gb b false (y8 .gtr j (.int .i64 0)) fun v =>
gb b false (some v) fun a =>
gb a true (evFa 0 e) fun A =>
gb a true (evLd false 1 A h) fun H =>
gb a true (some g) fun C =>
gb a true (yw 1 H C) fun y =>
gb a true (evLd false 1 y h) fun r =>
gb a true (some i) fun t =>
gb a true (yov 4 1 d t) fun x =>
gb a true (evLd false 1 x h) fun z =>
gb a true (y8 .neq r z) fun I =>
gb b false (yd a I (.bool false)) fun m =>
ob (yd b (.bool true) m) fun D =>
cnd D
 ((yf h (.bool false)))
 ((ysh e l d w B h))
def y2a5 (s : St) : OX := yho (s 2) (s 3) (s 5) (s 7) (s 8) (s 26) (s 27) s.h
theorem y1it : T1 y14p yah (y5 1 yah (y5 0 y3z xN)) [.t 4] y2a5 := fun _ => by kernel_rfl
def yed (b c a d k g e : AV) (h : Heap) : OX :=
ob (yov 4 1 a d) fun i =>
ob (evLd false 1 i h) fun l =>
ob (y8 .lss l (.int .i64 0)) fun j =>
cnd j
 ((ysh b c a g e h))
 ((yho b c a d k g e h))
def y2eg (s : St) : OX := yed (s 2) (s 3) (s 5) (s 7) (s 8) (s 26) (s 27) s.h
theorem y1rz : T1 yyp yah (y5 1 yah (y5 0 y3z xN)) [.t 4] y2eg := sq y1it fun _ => by kernel_rfl
def y1ev (e g d b a : AV) (h : Heap) : OX :=
ob (yp1 false 4 1 b a) fun c =>
(yed e g d a c b a h)
def yv6 (s : St) : OX := y1ev (s 2) (s 3) (s 5) (s 26) (s 27) s.h
theorem y1ub : T1 y12n yah (y5 1 yah (y5 0 y3z xN)) [.t 4] yv6 := sq y1rz fun _ => by kernel_rfl
theorem y1go : T1 y15v yah (y5 0 y3z xN) [.t 4] yv6 := fun s => yy.trans (y1ub s)
theorem y1o8 : T1 y170 y92 (y5 0 y3z xN) [.t 4] yv6 := sq y1n1 y1go
def y12z (a b d g e c : AV) (h : Heap) : OX :=
cnd c
 ((y1ev a b d g e h))
 ((yqt a b h))
def y2df (s : St) : OX := y12z (s 2) (s 3) (s 5) (s 26) (s 27) (s 28) s.h
theorem y1io : T1 y11f y92 (y5 0 y3z xN) [.t 4] y2df := sq y1o8 fun _ => by kernel_rfl
def y15t (d e c g a : AV) (h : Heap) : OX :=
ob (y8 .lss a (.int .i64 4)) fun b =>
(y12z d e c g a b h)
def y28g (s : St) : OX := y15t (s 2) (s 3) (s 5) (s 26) (s 27) s.h
theorem y1ob : T1 yze y92 (y5 0 y3z xN) [.t 4] y28g := sq y1io fun _ => by kernel_rfl
theorem ymd (b c a e d : AV) (h : Heap) : yd5 b c a e d h = (y15t b c a e d h) :=
  y28.trans ((y1c _ _ _ (n' := y92) (fun s => ym3 s)).trans ((y1ob _).trans (by kernel_rfl)))
theorem y1sh : T1 yxz y3z xN [.t 4] y92 := fun s => yy.trans (ym3 s)
def y1eb (e a d : AV) (h : Heap) : OX :=
ob (evFa 1 a) fun c =>
ob (evLd false 1 c h) fun k =>
ob (evFa 2 a) fun g =>
ob (evLd false 1 g h) fun j =>
ob (evFa 3 a) fun m =>
ob (evLd false 1 m h) fun i =>
ob (evFa 4 a) fun l =>
ob (evLd false 1 l h) fun b =>
ob (y13 [(.int .i64 0), (.int .i64 0), (.int .i64 0), (.int .i64 0)] [(0, 1, k), (1, 1, j), (2, 1, i), (3, 1, b)]) fun n =>
(yd5 e a d n (.int .i64 0) h)
def y1f9 (s : St) : OX := y1eb (s 2) (s 3) (s 5) s.h
theorem y1gq : T1 y12a y3z xN [.t 4] y1f9 := sq y1sh fun _ => by kernel_rfl
theorem y1ii : T0 y165 [.t 4] y1f9 := sq y1fc y1gq
def y146 (b c a d : AV) (h : Heap) : OX :=
ob (evUn .not d) fun e =>
cnd e
 ((yf h (.bool false)))
 ((y1eb b c a h))
def y2dv (s : St) : OX := y146 (s 2) (s 3) (s 5) (s 6) s.h
theorem y1is : T0 y13p [.t 4] y2dv := sq y1ii fun _ => by kernel_rfl
def y14k (e c : AV) (h : Heap) : OX :=
ob (evLd true 9 c h) fun g =>
oh (y9 E (yb E) 0 none true 47 [g] h) fun b h3 =>
ob (y40 0 b) fun d =>
ob (y40 1 b) fun i =>
oh (newC 0 (some 2) [(.int .i64 0), (.int .i64 0), (.int .i64 0), (.int .i64 0)] h3) fun a h4 =>
oh (evSt 4 a d h4) fun _ h5 =>
(y146 e c a i h5)
def y2af (s : St) : OX := y14k (s 2) (s 3) s.h
theorem y1oj : T0 y12p [.t 4] y2af := sq y1is fun _ => by kernel_rfl
def yra (a c : AV) (h : Heap) : OX :=
oh (newC 0 (some 0) (cellsOf a) h) fun b h6 =>
oh (newC 0 (some 1) (cellsOf c) h6) fun d h7 =>
(y14k b d h7)
def y29y (s : St) : OX := yra (s 0) (s 1) s.h
theorem y1t9 : T0 y0d [.t 4] y29y := sq y1oj fun _ => by kernel_rfl
@[simp] theorem y2ou : E.pure 63 = true := rfl
theorem y2q3 (a b : AV) : (yb E).p 63 [a, b] = yra a b [⟨0, .dead⟩, ⟨0, .dead⟩, ⟨0, .dead⟩] :=
  (y15 (cf := y2iw) (by kernel_rfl) rfl).trans ((y1t9 _).trans (by kernel_rfl))
def y2dh (k : AV) (h : Heap) : OX :=
oh (newC 0 (some 0) (cellsOf k) h) fun c h1 =>
ob (evFa 0 c) fun j =>
ob (evLd false 1 j h1) fun o =>
ob (y8 .eql o (.int .i64 27)) fun a =>
gb a false (evFa 0 c) fun l =>
gb a false (evLd false 1 l h1) fun n =>
gb a false (y8 .eql n (.int .i64 28)) fun g =>
ob (yd a (.bool true) g) fun b =>
gb b false (evFa 0 c) fun i =>
gb b false (evLd false 1 i h1) fun e =>
gb b false (y8 .eql e (.int .i64 29)) fun d =>
ob (yd b (.bool true) d) fun m =>
(yf h1 m)
def y2jc (s : St) : OX := y2dh (s 0) s.h
theorem y255 : T0 y1nl [.t 2] y2jc := fun _ => by kernel_rfl
@[simp] theorem y2pe : E.pure 22 = true := rfl
theorem y2oi (a : AV) : (yb E).p 22 [a] = y2dh a [⟨0, .dead⟩] :=
  (y15 (cf := y2hi) (by kernel_rfl) rfl).trans ((y255 _).trans (by kernel_rfl))
def y1u0 (fb : Nat) (d a : AV) (h : Heap) : Option (AV × Heap) :=
ob (evLd false 1 a h) fun c =>
oh (y12 fb (some 0) 1 1 [(.int .i64 0)] [(0, d)] h) fun e h1 =>
oh (y3y fb (some 1) 1 8 c e h1) fun b h2 =>
oh (evSt 1 a b h2) fun _ h3 =>
(some ((.tup []), h3))
def y87 (fb : Nat) (s : St) : Option (AV × Heap) := y1u0 fb (s 0) (s 3) s.h
theorem y1zy (fb : Nat) (s : St) : W E fb y1qf s (finI []) xN (finI []) = y87 fb s :=
  by kernel_rfl
def y2b6 (fb : Nat) (a b c e : AV) (h : Heap) : Option (AV × Heap) :=
ob (evLd false 1 b h) fun d =>
ob (yw 1 d a) fun g =>
oh (evSt 1 g e h) fun _ h4 =>
(y1u0 fb a c h4)
def y26m (fb : Nat) (s : St) : Option (AV × Heap) := y2b6 fb (s 0) (s 2) (s 3) (s 6) s.h
theorem y21i (fb : Nat) (s : St) : W E fb y1mt s (y87 fb) (y5 0 (y87 fb) xN) (finI []) = y26m fb s :=
  by kernel_rfl
def y2c7 (fb : Nat) (b a i c : AV) (h : Heap) : Option (AV × Heap) :=
ob (y10 2 c h) fun d =>
ob (evLd false 1 a h) fun j =>
ob (yw 1 j b) fun l =>
ob (evLd false 1 l h) fun e =>
ob (y10 2 e h) fun k =>
ob (y8 .eql d k) fun g =>
cnd g
 ((some ((.tup []), h)))
 ((y2b6 fb b a i c h))
def y268 (fb : Nat) (s : St) : Option (AV × Heap) := y2c7 fb (s 0) (s 2) (s 3) (s 6) s.h
theorem y1zn (fb : Nat) (s : St) : W E fb y1dq s (y87 fb) (y5 0 (y87 fb) xN) (finI []) = y268 fb s :=
  (yek (k := (y26m fb)) (fun s => y21i fb s)).trans (by kernel_rfl)
def y2fg (fb : Nat) (b j a e : AV) (h : Heap) : Option (AV × Heap) :=
ob (evLd false 1 a h) fun g =>
ob (yw 1 g b) fun c =>
ob (evLd false 1 c h) fun i =>
oh (y9 E (yb E) fb none true 170 [i, j] h) fun d h5 =>
(y2c7 fb b a e d h5)
def y2kk (fb : Nat) (s : St) : Option (AV × Heap) := y2fg fb (s 0) (s 1) (s 2) (s 3) s.h
theorem y238 (fb : Nat) (s : St) : W E fb y1qb s (y87 fb) (y5 0 (y87 fb) xN) (finI []) = y2kk fb s :=
  (yek (k := (y268 fb)) (fun s => y1zn fb s)).trans (by kernel_rfl)
def y22v (fb : Nat) (b c a e g : AV) (h : Heap) : Option (AV × Heap) :=
cnd g
 (ob (evLd false 1 a h) fun i =>
ofp (y4l E (yb E) fb none true 161 [c] h) fun f3 =>
oh (y9 E (yb E) fb none true 161 [c] h) fun j h6 =>
ob (yw 1 i b) fun d =>
oh (evSt 1 d j h6) fun _ h7 =>
okK (yg [(ids1 a, []), ([], []), ([], []), f3, ([], []), ([], ids1 d)] [(0, 3)]) <|
(y1u0 fb b e h7))
 ((y2fg fb b c a e h))
def y265 (fb : Nat) (s : St) : Option (AV × Heap) := y22v fb (s 0) (s 1) (s 2) (s 3) (s 25) s.h
theorem y1xp (fb : Nat) (s : St) : W E fb y1da s (y87 fb) (y5 0 (y87 fb) xN) (finI []) = y265 fb s :=
  (y1b rfl (y238 fb s)).trans (by kernel_rfl)
def y24j (fb : Nat) (b i a e : AV) (h : Heap) : Option (AV × Heap) :=
ob (evLd false 1 a h) fun j =>
ob (yw 1 j b) fun c =>
ob (evLd false 1 c h) fun g =>
ob (y4q 2 false g AV.nilm) fun d =>
(y22v fb b i a e d h)
def y1u6 (fb : Nat) (s : St) : Option (AV × Heap) := y24j fb (s 0) (s 1) (s 2) (s 3) s.h
theorem y1yy (fb : Nat) (s : St) : W E fb y1n6 s (y87 fb) (y5 0 (y87 fb) xN) (finI []) = y1u6 fb s :=
  (yek (k := (y265 fb)) (fun s => y1xp fb s)).trans (by kernel_rfl)
theorem y1zk (fb : Nat) (s : St) : W E fb y1jc s (y87 fb) xN (finI []) = y1u6 fb s :=
  yy.trans (y1yy fb s)
theorem y1zq (fb : Nat) (s : St) : W E fb y1oa s (finI []) xN (finI []) = y1u6 fb s :=
  (yek (k := (y87 fb)) (fun s => y1zy fb s)).trans (y1zk fb s)
@[simp] theorem y2n9 : E.pure 167 = false := rfl
theorem y2p1 (fb : Nat) (a c b d : AV) (h : Heap) : (yb E).i 167 [a, c, b, d] fb h = y24j fb a c b d (if fb = h.length then h ++ yv 2 else h) :=
  (y1l0 (cf := y2ic) (by kernel_rfl) rfl).trans ((y1zq fb _).trans (by kernel_rfl))
def y20u (a : AV) (h : Heap) : OX :=
(yf h a)
def y1qv (s : St) : OX := y20u (s 5) s.h
theorem y243 : T0 y1j8 [.t 4] y1qv := fun _ => by kernel_rfl
def y22o (g d a : AV) (h : Heap) : Option Heap :=
ob (evLd true 3 a h) fun e =>
ob (y6r true [0, 0, 0] (.bool false) false g e h) fun c =>
cnd c
 (ob (evLd true 3 a h) fun b =>
oh (y6f true [0, 0, 0] d b (.bool true) h) fun _ h1 =>
(some (killAll 0 [1] h1)))
 ((some (killAll 0 [1] h)))
def y2h3 (s : St) : Option Heap := y22o (s 1) (s 5) (s 6) s.h
theorem y1x4 (s : St) : W E 0 y1jk s (fun s3 => some (killAll 0 [1] s3.h)) xN (fun _ => none) = y2h3 s :=
  by kernel_rfl
def y2fv (d e a : AV) (h : Heap) : OX :=
orm d (fun q h2 =>
ob (y40 0 (AV.tup [q.1, q.2])) fun c =>
oh (newC 0 (some 1) [(.int .i64 0), (.int .i64 0), (.int .i64 0)] h2) fun b h4 =>
oh (evSt 3 b c h4) fun _ h5 =>
(y22o e a b h5)) h fun h3 =>
(y20u a h3)
def y27q (s : St) : OX := y2fv (s 0) (s 1) (s 5) s.h
theorem y23q : T1 y1mi y1qv xN [.t 4] y27q := fun s => (yko (nk := y1qv) (fun s2 => y1x4 s2) (fun _ => rfl)).trans (by kernel_rfl)
theorem y21o : T0 y1ga [.t 4] y27q := sq y243 y23q
def y2dz (a c : AV) (h : Heap) : OX :=
oh (mkmC 0 (some 0) h) fun b h6 =>
(y2fv a c b h6)
def y2ih (s : St) : OX := y2dz (s 0) (s 1) s.h
theorem y231 : T0 y1iw [.t 4] y2ih := sq y21o fun _ => by kernel_rfl
def y2eq (a b : AV) (h : Heap) : OX :=
(y2dz a b h)
def y2ld (s : St) : OX := y2eq (s 0) (s 1) s.h
theorem y1ym : T0 y1we [.t 4] y2ld := sq y231 fun _ => by kernel_rfl
@[simp] theorem y2nn : E.pure 170 = true := rfl
theorem y2p2 (a b : AV) : (yb E).p 170 [a, b] = y2eq a b [⟨0, .dead⟩, ⟨0, .dead⟩] :=
  (y15 (cf := y2ho) (by kernel_rfl) rfl).trans ((y1ym _).trans (by kernel_rfl))
def y1mj (a : AV) (h : Heap) : OX :=
(yf h a)
def y5y (s : St) : OX := y1mj (s 5) s.h
theorem y235 : T0 y1vj [.t 4] y5y := fun _ => by kernel_rfl
def ytz (e b c a d : AV) (h : Heap) : OX :=
  W E 0 yoo ⟨[(1, e), (5, b), (27, c), (28, a), (29, d)], h⟩ y5y (y5 0 y5y xN) (finP [.t 4])
def yd3 (s : St) : OX := ytz (s 1) (s 5) (s 27) (s 28) (s 29) s.h
theorem yrf : T1 yoo y5y (y5 0 y5y xN) [.t 4] yd3 := fun s => yj.trans (by kernel_rfl)
def y1ch (g c d a e : AV) (h : Heap) : OX :=
ob (y8 .add e (.int .i64 1)) fun b =>
(ytz g c d a b h)
def ycf (s : St) : OX := y1ch (s 1) (s 5) (s 27) (s 28) (s 29) s.h
theorem y259 : T1 y1lu yd3 (y5 0 y5y xN) [.t 4] ycf := fun _ => by kernel_rfl
def y1a4 (k a g i b j : AV) (h : Heap) : OX :=
ob (evFa 3 g) fun c =>
ob (evLd false 1 c h) fun d =>
ob (y8 .eql d (AV.str [])) fun e =>
cnd e
 ((y1mj a h))
 ((y1ch k a i b j h))
def y2im (s : St) : OX := y1a4 (s 1) (s 5) (s 7) (s 27) (s 28) (s 29) s.h
theorem y1zv : T1 y1v2 ycf (y5 1 ycf (y5 0 y5y xN)) [.t 4] y2im := fun _ => by kernel_rfl
def y22m (g b a d c e : AV) (h : Heap) : OX :=
ob (evFa 2 a) fun o =>
ob (evLd false 1 o h) fun m =>
oh (y9 E (yb E) 0 none true 46 [b, m] h) fun i h1 =>
ob (evUn .not i) fun j =>
cnd j
 (ob (evFa 2 a) fun n =>
ob (evLd false 1 n h1) fun l =>
oh (y12 0 (some 2) 1 1 [(.int .i64 0)] [(0, l)] h1) fun k h2 =>
oh (y3y 0 (some 3) 1 8 b k h2) fun p h3 =>
(y1a4 g p a d c e h3))
 ((y1a4 g b a d c e h1))
def y2kj (s : St) : OX := y22m (s 1) (s 5) (s 7) (s 27) (s 28) (s 29) s.h
theorem y22y : T1 y1qo ycf (y5 1 ycf (y5 0 y5y xN)) [.t 4] y2kj := sq y1zv fun _ => by kernel_rfl
def yvu (b e c g d i : AV) (h : Heap) : OX :=
ob (evFa 0 c) fun n =>
ob (evLd false 1 n h) fun l =>
ob (y8 .lss b l) fun a =>
gb a false (some b) fun o =>
gb a false (evFa 1 c) fun j =>
gb a false (evLd false 1 j h) fun m =>
gb a false (y8 .geq o m) fun k =>
ob (yd a (.bool true) k) fun p =>
cnd p
 ((y1ch b e g d i h))
 ((y22m b e c g d i h))
def y2jk (s : St) : OX := yvu (s 1) (s 5) (s 7) (s 27) (s 28) (s 29) s.h
theorem y1z4 : T1 y1tc ycf (y5 1 ycf (y5 0 y5y xN)) [.t 4] y2jk := sq y22y fun _ => by kernel_rfl
def y2do (j g b d c : AV) (h : Heap) : OX :=
ob (yw 4 b c) fun e =>
ob (evLd true 4 e h) fun i =>
oh (newC 0 (some 1) [(.int .i64 0), (.int .i64 0), (.int .i64 0), (.str [])] h) fun a h4 =>
oh (evSt 4 a i h4) fun _ h5 =>
(yvu j g a b d c h5)
def y1d0 (s : St) : OX := y2do (s 1) (s 5) (s 27) (s 28) (s 29) s.h
theorem y21m : T1 y1nb ycf (y5 1 ycf (y5 0 y5y xN)) [.t 4] y1d0 := sq y1z4 fun _ => by kernel_rfl
theorem y22e : T1 y1qg ycf (y5 0 y5y xN) [.t 4] y1d0 := fun s => yy.trans (y21m s)
theorem y1x3 : T1 y1hu yd3 (y5 0 y5y xN) [.t 4] y1d0 := sq y259 y22e
def y12d (g a d b e c : AV) (h : Heap) : OX :=
cnd c
 ((y2do g a d b e h))
 ((y1mj a h))
def y28n (s : St) : OX := y12d (s 1) (s 5) (s 27) (s 28) (s 29) (s 30) s.h
theorem y1wh : T1 y14w yd3 (y5 0 y5y xN) [.t 4] y28n := sq y1x3 fun _ => by kernel_rfl
def yq4 (g d e a b : AV) (h : Heap) : OX :=
ob (y8 .lss b a) fun c =>
(y12d g d e a b c h)
def y2ba (s : St) : OX := yq4 (s 1) (s 5) (s 27) (s 28) (s 29) s.h
theorem y1v9 : T1 ywy yd3 (y5 0 y5y xN) [.t 4] y2ba := sq y1wh fun _ => by kernel_rfl
theorem yr2 (e b c a d : AV) (h : Heap) : ytz e b c a d h = (yq4 e b c a d h) :=
  y28.trans ((y1c _ _ _ (n' := yd3) (fun s => yrf s)).trans ((y1v9 _).trans (by kernel_rfl)))
theorem y1tn : T1 y11z y5y xN [.t 4] yd3 := fun s => yy.trans (yrf s)
def y1qt (e d c : AV) (h : Heap) : OX :=
ob (evFa 4 d) fun g =>
ob (evLd false 1 g h) fun a =>
ob (y10 1 a h) fun b =>
(ytz e c a b (.int .i64 0) h)
def y1qi (s : St) : OX := y1qt (s 1) (s 2) (s 5) s.h
theorem y1vq : T1 y142 y5y xN [.t 4] y1qi := sq y1tn fun _ => by kernel_rfl
theorem y1wl : T0 y17f [.t 4] y1qi := sq y235 y1vq
def y1ix (b a : AV) (h : Heap) : OX :=
(y1qt b a AV.nils h)
def y2f8 (s : St) : OX := y1ix (s 1) (s 2) s.h
theorem y1om : T0 y155 [.t 4] y2f8 := sq y1wl fun _ => by kernel_rfl
def ylz (c d : AV) (h : Heap) : OX :=
ob (y8 .lss c (.int .i64 0)) fun b =>
gb b false (some c) fun j =>
gb b false (evFa 3 d) fun l =>
gb b false (evLd false 1 l h) fun k =>
gb b false (y10 1 k h) fun e =>
gb b false (y8 .geq j e) fun o =>
ob (yd b (.bool true) o) fun a =>
gb a false (evFa 3 d) fun i =>
gb a false (evLd false 1 i h) fun r =>
gb a false (some c) fun m =>
gb a false (yw 9 r m) fun p =>
gb a false (evLd true 9 p h) fun u =>
gh a false (y9 E (yb E) 0 none true 18 [u] h) h fun n h6 =>
gb a false (evUn .not n) fun t =>
ob (yd a (.bool true) t) fun g =>
cnd g
 ((yf h6 AV.nils))
 ((y1ix c d h6))
def y29g (s : St) : OX := ylz (s 1) (s 2) s.h
theorem y1m7 : T0 yzd [.t 4] y29g := sq y1om fun _ => by kernel_rfl
def yob (a c : AV) (h : Heap) : OX :=
oh (newC 0 (some 0) (cellsOf a) h) fun b h7 =>
(ylz c b h7)
def y28z (s : St) : OX := yob (s 0) (s 1) s.h
theorem y1ie : T0 yy3 [.t 4] y28z := sq y1m7 fun _ => by kernel_rfl
@[simp] theorem y2q5 : E.pure 79 = true := rfl
theorem y2o7 (a b : AV) : (yb E).p 79 [a, b] = yob a b [⟨0, .dead⟩, ⟨0, .dead⟩, ⟨0, .dead⟩, ⟨0, .dead⟩] :=
  (y15 (cf := y2ie) (by kernel_rfl) rfl).trans ((y1ie _).trans (by kernel_rfl))
def yup (a : AV) (h : Heap) : OX :=
(yf h a)
def y6x (s : St) : OX := yup (s 5) s.h
theorem y1y3 : T0 y1sx [.t 4] y6x := fun _ => by kernel_rfl
def y1xr (j d t b : AV) (h : Heap) : Option Heap :=
ob (evFa 1 b) fun c =>
ob (evLd false 1 c h) fun m =>
ob (evFa 2 j) fun o =>
ob (evLd false 1 o h) fun p =>
ob (y8 .eql m p) fun a =>
gb a true (evFa 2 b) fun g =>
gb a true (evLd false 1 g h) fun r =>
gb a true (y8 .eql r (.int .i64 (-1))) fun e =>
ob (yd a e (.bool false)) fun k =>
cnd k
 (ob (evFa 0 b) fun i =>
ob (evLd false 1 i h) fun n =>
ob (y13 [(.int .i64 0), (.int .i64 0), (.int .i64 0)] [(0, 1, n), (1, 1, t), (2, 1, (.int .i64 (-1)))]) fun l =>
oh (y6f true [0, 0, 0] d l (.bool true) h) fun _ h1 =>
(some (killAll 0 [4] h1)))
 ((some (killAll 0 [4] h)))
def y2gt (s : St) : Option Heap := y1xr (s 3) (s 5) (s 8) (s 10) s.h
theorem y1y2 (s : St) : W E 0 y1lm s (fun s3 => some (killAll 0 [4] s3.h)) xN (fun _ => none) = y2gt s :=
  by kernel_rfl
def y2b1 (d c a g : AV) (h : Heap) : OX :=
orm d (fun q h2 =>
ob (y40 0 (AV.tup [q.1, q.2])) fun e =>
oh (newC 0 (some 4) [(.int .i64 0), (.int .i64 0), (.int .i64 0)] h2) fun b h4 =>
oh (evSt 3 b e h4) fun _ h5 =>
(y1xr c a g b h5)) h fun h3 =>
(yup a h3)
def y2lv (s : St) : OX := y2b1 (s 0) (s 3) (s 5) (s 8) s.h
theorem y1x7 : T1 y1gs y6x (y5 2 y6x xN) [.t 4] y2lv := fun s => (yko (nk := y6x) (fun s2 => y1y2 s2) (fun _ => rfl)).trans (by kernel_rfl)
def ysy (a c b : AV) (h : Heap) : OX :=
cnd b
 (ob (y13 [(.int .i64 0), (.int .i64 0), (.int .i64 0)] [(0, 1, (.int .i64 8)), (1, 1, c), (2, 1, (.int .i64 (-1)))]) fun d =>
oh (y6f true [0, 0, 0] a d (.bool true) h) fun _ h6 =>
(yup a h6))
 ((yup a h))
def y2jp (s : St) : OX := ysy (s 5) (s 8) (s 79) s.h
theorem y23v : T1 y1mf y6x (y5 2 y6x xN) [.t 4] y2jp := fun _ => by kernel_rfl
def y219 (a c b : AV) (h : Heap) : OX :=
ob (y8 .eql b (.int .i64 20)) fun d =>
cnd d
 ((ysy a c d h))
 (ob (y8 .eql b (.int .i64 21)) fun g =>
cnd g
 ((ysy a c g h))
 (ob (y8 .eql b (.int .i64 3)) fun e =>
cnd e
 ((ysy a c e h))
 (ob (y8 .eql b (.int .i64 32)) fun i =>
(ysy a c i h))))
def y2gs (s : St) : OX := y219 (s 5) (s 8) (s 55) s.h
theorem y25i : T1 y1li y6x (y5 2 y6x xN) [.t 4] y2gs := sq y23v fun _ => by kernel_rfl
def y21x (g e a b d c : AV) (h : Heap) : OX :=
cnd c
 ((y2b1 g e a b h))
 ((y219 a b d h))
def y2mn (s : St) : OX := y21x (s 0) (s 3) (s 5) (s 8) (s 55) (s 56) s.h
theorem y21f : T1 y1r8 y6x (y5 2 y6x xN) [.t 4] y2mn := fun s => (y1b (y1x7 s) (y25i s)).trans (by kernel_rfl)
def y1ip (e d c g a : AV) (h : Heap) : OX :=
ob (y8 .eql a (.int .i64 4)) fun b =>
(y21x e d c g a b h)
def y26y (s : St) : OX := y1ip (s 0) (s 3) (s 5) (s 8) (s 55) s.h
theorem y22r : T1 y1s2 y6x (y5 2 y6x xN) [.t 4] y26y := sq y21f fun _ => by kernel_rfl
theorem y21a : T1 y1nf y6x xN [.t 4] y26y := fun s => yy.trans (y22r s)
def y1xd (e a b g : AV) (h : Heap) : OX :=
ob (evFa 0 a) fun c =>
ob (evLd false 1 c h) fun d =>
(y1ip e a b g d h)
def yyv (s : St) : OX := y1xd (s 0) (s 3) (s 5) (s 8) s.h
theorem y210 : T1 y1hy y6x xN [.t 4] yyv := sq y21a fun _ => by kernel_rfl
theorem y1tt : T0 y15a [.t 4] yyv := sq y1y3 y210
def y13w (i c b : AV) (h : Heap) : Option Heap :=
ob (evFa 1 b) fun m =>
ob (evLd false 1 m h) fun k =>
ob (y8 .eql k c) fun a =>
gb a false (evFa 2 b) fun d =>
gb a false (evLd false 1 d h) fun l =>
gb a false (some c) fun n =>
gb a false (y8 .eql l n) fun j =>
ob (yd a (.bool true) j) fun g =>
cnd g
 (ob (evLd true 3 b h) fun e =>
oh (ycl true [0, 0, 0] i e h) fun _ h7 =>
(some (killAll 0 [3] h7)))
 ((some (killAll 0 [3] h)))
def y2c2 (s : St) : Option Heap := y13w (s 5) (s 8) (s 9) s.h
theorem y1es (s : St) : W E 0 y11y s (fun s3 => some (killAll 0 [3] s3.h)) xN (fun _ => none) = y2c2 s :=
  by kernel_rfl
def y17p (c g a d : AV) (h : Heap) : OX :=
orm c (fun q h8 =>
ob (y40 0 (AV.tup [q.1, q.2])) fun e =>
oh (newC 0 (some 3) [(.int .i64 0), (.int .i64 0), (.int .i64 0)] h8) fun b h10 =>
oh (evSt 3 b e h10) fun _ h11 =>
(y13w a d b h11)) h fun h9 =>
(y1xd c g a d h9)
def y1e4 (s : St) : OX := y17p (s 0) (s 3) (s 5) (s 8) s.h
theorem y1di : T1 y147 yyv xN [.t 4] y1e4 := fun s => (yko (nk := yyv) (fun s2 => y1es s2) (fun _ => rfl)).trans (by kernel_rfl)
theorem y1o2 : T0 y13z [.t 4] y1e4 := sq y1tt y1di
def y1kr (i b c d : AV) (h : Heap) : OX :=
ob (evFa 0 b) fun n =>
ob (evLd false 1 n h) fun l =>
ob (y8 .eql l (.int .i64 4)) fun a =>
gb a true (evFa 2 b) fun g =>
gb a true (evLd false 1 g h) fun e =>
gb a true (some d) fun j =>
gb a true (y8 .eql e j) fun m =>
ob (yd a m (.bool false)) fun k =>
cnd k
 ((yf h c))
 ((y17p i b c d h))
def y2ej (s : St) : OX := y1kr (s 0) (s 3) (s 5) (s 8) s.h
theorem y1d7 : T0 yzb [.t 4] y2ej := sq y1o2 fun _ => by kernel_rfl
def y12r (d c a b : AV) (h : Heap) : OX :=
ob (y8 .lss b (.int .i64 0)) fun e =>
cnd e
 ((yf h a))
 ((y1kr d c a b h))
def y2ao (s : St) : OX := y12r (s 0) (s 3) (s 5) (s 8) s.h
theorem y1eu : T0 y17b [.t 4] y2ao := sq y1d7 fun _ => by kernel_rfl
def yrh (c a b : AV) (h : Heap) : OX :=
ob (evLd true 9 a h) fun d =>
oh (y9 E (yb E) 0 none true 9 [d] h) fun e h12 =>
(y12r c a b e h12)
def y2dd (s : St) : OX := yrh (s 0) (s 3) (s 5) s.h
theorem y1rm : T0 y15d [.t 4] y2dd := sq y1eu fun _ => by kernel_rfl
def y1kn (c b a : AV) (h : Heap) : OX :=
ob (evLd true 9 b h) fun g =>
oh (y9 E (yb E) 0 none true 169 [g] h) fun d h13 =>
ob (y40 0 d) fun i =>
ob (y40 1 d) fun k =>
oh (newC 0 (some 2) [(.int .i64 0), (.int .i64 0), (.int .i64 0)] h13) fun e h14 =>
oh (evSt 3 e i h14) fun _ h15 =>
cnd k
 (ob (evLd true 3 e h15) fun j =>
oh (y6f true [0, 0, 0] a j (.bool true) h15) fun _ h16 =>
(yrh c b a h16))
 ((yrh c b a h15))
def y2cg (s : St) : OX := y1kn (s 0) (s 3) (s 5) s.h
theorem y1le : T0 y18b [.t 4] y2cg := sq y1rm fun _ => by kernel_rfl
def y1d4 (a c : AV) (h : Heap) : OX :=
oh (y9 E (yb E) 0 (some 1) false 161 [a] h) fun b h17 =>
(y1kn a c b h17)
def y2ah (s : St) : OX := y1d4 (s 0) (s 3) s.h
theorem y1ep : T0 y15z [.t 4] y2ah := sq y1le fun _ => by kernel_rfl
def y1me (a c : AV) (h : Heap) : OX :=
oh (newC 0 (some 0) (cellsOf c) h) fun b h18 =>
(y1d4 a b h18)
def y2dm (s : St) : OX := y1me (s 0) (s 1) s.h
theorem y1uh : T0 y16b [.t 4] y2dm := sq y1ep fun _ => by kernel_rfl
@[simp] theorem y2n1 : E.pure 168 = true := rfl
theorem y2pp (a b : AV) : (yb E).p 168 [a, b] = y1me a b [⟨0, .dead⟩, ⟨0, .dead⟩, ⟨0, .dead⟩, ⟨0, .dead⟩, ⟨0, .dead⟩] :=
  (y15 (cf := y2j6) (by kernel_rfl) rfl).trans ((y1uh _).trans (by kernel_rfl))
def yl9 (a : AV) (h : Heap) : OX :=
(yf h a)
def y2lm (s : St) : OX := yl9 (s 6) s.h
theorem y23h : T0 y1vb [.t 4] y2lm := fun _ => by kernel_rfl
def ylg (b c : AV) (h : Heap) : OX :=
ob (evLd true 9 b h) fun p =>
oh (y9 E (yb E) 0 none true 22 [p] h) fun a h1 =>
gb a true (some c) fun m =>
gb a true (evFa 6 b) fun o =>
gb a true (evLd false 1 o h1) fun n =>
gh a true (y9 E (yb E) 0 none true 46 [m, n] h1) h1 fun g h2 =>
gb a true (evUn .not g) fun i =>
ob (yd a i (.bool false)) fun k =>
cnd k
 (ob (evFa 6 b) fun d =>
ob (evLd false 1 d h2) fun j =>
oh (y12 0 (some 4) 1 1 [(.int .i64 0)] [(0, j)] h2) fun e h3 =>
oh (y3y 0 (some 5) 1 8 c e h3) fun l h4 =>
(yl9 l h4))
 ((yl9 c h2))
def y2hv (s : St) : OX := ylg (s 5) (s 6) s.h
theorem y1x6 : T0 y1rv [.t 4] y2hv := sq y23h fun _ => by kernel_rfl
def yl6 (j a b : AV) (h : Heap) : OX :=
ob (evLd true 9 a h) fun e =>
oh (y9 E (yb E) 0 none true 24 [e] h) fun i h5 =>
ob (evUn .not i) fun d =>
cnd d
 (ob (y8 .add j (.int .i64 1)) fun k =>
oh (y12 0 (some 2) 1 1 [(.int .i64 0)] [(0, k)] h5) fun g h6 =>
oh (y3y 0 (some 3) 1 8 b g h6) fun c h7 =>
(ylg a c h7))
 ((ylg a b h5))
def y2gx (s : St) : OX := yl6 (s 1) (s 5) (s 6) s.h
theorem y21r : T0 y1os [.t 4] y2gx := sq y1x6 fun _ => by kernel_rfl
def y1kv (a b : AV) (h : Heap) : OX :=
(yl6 a b AV.nils h)
def y2l9 (s : St) : OX := y1kv (s 1) (s 5) s.h
theorem y1wq : T0 y1g8 [.t 4] y2l9 := sq y21r fun _ => by kernel_rfl
def y1s0 (b e : AV) (h : Heap) : OX :=
ob (evFa 3 e) fun d =>
ob (evLd false 1 d h) fun c =>
ob (yw 9 c b) fun i =>
ob (evLd true 9 i h) fun g =>
oh (newC 0 (some 1) [(.int .i64 0), (.int .i64 0), (.int .i64 0), (.int .i64 0), (.int .i64 0), (.int .i64 0), (.int .i64 0), (.str []), .nils] h) fun a h8 =>
oh (evSt 9 a g h8) fun _ h9 =>
(y1kv b a h9)
def y2gv (s : St) : OX := y1s0 (s 1) (s 2) s.h
theorem y203 : T0 y1wj [.t 4] y2gv := sq y1wq fun _ => by kernel_rfl
def y1e2 (b c : AV) (h : Heap) : OX :=
ob (y8 .lss b (.int .i64 0)) fun a =>
gb a false (some b) fun j =>
gb a false (evFa 3 c) fun e =>
gb a false (evLd false 1 e h) fun i =>
gb a false (y10 1 i h) fun g =>
gb a false (y8 .geq j g) fun d =>
ob (yd a (.bool true) d) fun k =>
cnd k
 ((yf h AV.nils))
 ((y1s0 b c h))
def y2k7 (s : St) : OX := y1e2 (s 1) (s 2) s.h
theorem y225 : T0 y1pt [.t 4] y2k7 := sq y203 fun _ => by kernel_rfl
def y19l (a c : AV) (h : Heap) : OX :=
oh (newC 0 (some 0) (cellsOf a) h) fun b h10 =>
(y1e2 c b h10)
def y2l3 (s : St) : OX := y19l (s 0) (s 1) s.h
theorem y1zz : T0 y1f7 [.t 4] y2l3 := sq y225 fun _ => by kernel_rfl
@[simp] theorem y2oc : E.pure 81 = true := rfl
theorem y2qm (a b : AV) : (yb E).p 81 [a, b] = y19l a b [⟨0, .dead⟩, ⟨0, .dead⟩, ⟨0, .dead⟩, ⟨0, .dead⟩, ⟨0, .dead⟩, ⟨0, .dead⟩] :=
  (y15 (cf := y2jr) (by kernel_rfl) rfl).trans ((y1zz _).trans (by kernel_rfl))
def y2fn (a : AV) (h : Heap) : OX :=
ob (y13 [(.int .i64 0), (.int .i64 0), (.int .i64 0)] []) fun b =>
oh (evSt 3 a b h) fun _ h1 =>
(ob (evLd true 3 a h1) fun r0 =>
  yf h1 (.tup [r0, (.bool false)]))
def yjq (s : St) : OX := y2fn (s 2) s.h
theorem y247 : T0 y1o3 [.cell 2 true 3, .t 3] yjq := fun _ => by kernel_rfl
def ywt (b a g p : AV) (h : Heap) : OX :=
cnd p
 (ob (evFa 0 b) fun n =>
ob (evLd false 1 n h) fun i =>
ob (evFa 2 b) fun k =>
ob (evLd false 1 k h) fun j =>
ob (y13 [(.int .i64 0), (.int .i64 0), (.int .i64 0)] [(0, 1, i), (1, 1, j), (2, 1, (.int .i64 (-1)))]) fun c =>
oh (evSt 3 a c h) fun _ h2 =>
(ob (evLd true 3 a h2) fun r0 =>
  yf h2 (.tup [r0, (.bool true)])))
 (ob (y8 .eql g (.int .i64 9)) fun e =>
cnd e
 (ob (evFa 0 b) fun t =>
ob (evLd false 1 t h) fun d =>
ob (evFa 2 b) fun r =>
ob (evLd false 1 r h) fun l =>
ob (evFa 3 b) fun o =>
ob (evLd false 1 o h) fun u =>
ob (y13 [(.int .i64 0), (.int .i64 0), (.int .i64 0)] [(0, 1, d), (1, 1, l), (2, 1, u)]) fun m =>
oh (evSt 3 a m h) fun _ h3 =>
(ob (evLd true 3 a h3) fun r0 =>
  yf h3 (.tup [r0, (.bool true)])))
 ((y2fn a h)))
def y2m9 (s : St) : OX := ywt (s 1) (s 2) (s 5) (s 6) s.h
theorem y1xb : T1 y1s3 yjq (y5 0 yjq xN) [.cell 2 true 3, .t 3] y2m9 := fun _ => by kernel_rfl
def y1zl (c b a : AV) (h : Heap) : OX :=
ob (y8 .eql a (.int .i64 7)) fun d =>
cnd d
 ((ywt c b a d h))
 (ob (y8 .eql a (.int .i64 8)) fun e =>
cnd e
 ((ywt c b a e h))
 (ob (y8 .eql a (.int .i64 10)) fun g =>
(ywt c b a g h)))
def y27s (s : St) : OX := y1zl (s 1) (s 2) (s 5) s.h
theorem y1zt : T1 y1ph yjq (y5 0 yjq xN) [.cell 2 true 3, .t 3] y27s := sq y1xb fun _ => by kernel_rfl
theorem y206 : T1 y1ue yjq xN [.cell 2 true 3, .t 3] y27s := fun s => yy.trans (y1zt s)
def y1y1 (a b : AV) (h : Heap) : OX :=
ob (evFa 0 a) fun d =>
ob (evLd false 1 d h) fun c =>
(y1zl a b c h)
def y26d (s : St) : OX := y1y1 (s 1) (s 2) s.h
theorem y21w : T1 y1po yjq xN [.cell 2 true 3, .t 3] y26d := sq y206 fun _ => by kernel_rfl
theorem y20g : T0 y1m4 [.cell 2 true 3, .t 3] y26d := sq y247 y21w
def y1y8 (a : AV) (h : Heap) : OX :=
oh (newC 0 (some 0) (cellsOf a) h) fun c h4 =>
oh (newC 0 (some 1) [(.int .i64 0), (.int .i64 0), (.int .i64 0)] h4) fun b h5 =>
(y1y1 c b h5)
def y2l2 (s : St) : OX := y1y8 (s 0) s.h
theorem y23a : T0 y1d1 [.cell 2 true 3, .t 3] y2l2 := sq y20g fun _ => by kernel_rfl
@[simp] theorem y2ng : E.pure 169 = true := rfl
theorem y2qt (a : AV) : (yb E).p 169 [a] = y1y8 a [⟨0, .dead⟩, ⟨0, .dead⟩] :=
  (y15 (cf := y2l8) (by kernel_rfl) rfl).trans ((y23a _).trans (by kernel_rfl))
def y1dk (a : AV) (h : Heap) : OX :=
oh (y12 0 (some 0) 1 3 [(.int .i64 0)] [(0, (.int .i64 27)), (1, (.int .i64 30)), (2, (.int .i64 31))] h) fun c h1 =>
oh (y9 E (yb E) 0 none true 42 [a, c] h1) fun b h2 =>
(yf h2 b)
def y2ex (s : St) : OX := y1dk (s 0) s.h
theorem y1wb : T0 yyq [.t 2] y2ex := fun _ => by kernel_rfl
@[simp] theorem y2qj : E.pure 25 = true := rfl
theorem y2jb (a : AV) : (yb E).p 25 [a] = y1dk a [⟨0, .dead⟩] :=
  (y15 (cf := y25v) (by kernel_rfl) rfl).trans ((y1wb _).trans (by kernel_rfl))
def yrq (g c : AV) (h : Heap) : OX :=
ob (evFa 0 c) fun a =>
ob (evLd false 1 a h) fun d =>
ob (yw 1 d g) fun e =>
ob (evLd false 1 e h) fun b =>
(yf h b)
def y2as (s : St) : OX := yrq (s 1) (s 2) s.h
theorem y1mk : T0 y13j [.t 4] y2as := fun _ => by kernel_rfl
def ysz (b c : AV) (h : Heap) : OX :=
ob (y8 .lss b (.int .i64 0)) fun a =>
gb a false (some b) fun k =>
gb a false (evFa 0 c) fun g =>
gb a false (evLd false 1 g h) fun j =>
gb a false (y10 1 j h) fun d =>
gb a false (y8 .geq k d) fun i =>
ob (yd a (.bool true) i) fun e =>
cnd e
 ((yf h (.int .i64 0)))
 ((yrq b c h))
def y2bq (s : St) : OX := ysz (s 1) (s 2) s.h
theorem y1ur : T0 y16p [.t 4] y2bq := sq y1mk fun _ => by kernel_rfl
def ysj (a c : AV) (h : Heap) : OX :=
oh (newC 0 (some 0) (cellsOf a) h) fun b h1 =>
(ysz c b h1)
def y290 (s : St) : OX := ysj (s 0) (s 1) s.h
theorem y1l3 : T0 y13v [.t 4] y290 := sq y1ur fun _ => by kernel_rfl
@[simp] theorem y2o2 : E.pure 48 = true := rfl
theorem y2kd (a b : AV) : (yb E).p 48 [a, b] = ysj a b [⟨0, .dead⟩] :=
  (y15 (cf := y26v) (by kernel_rfl) rfl).trans ((y1l3 _).trans (by kernel_rfl))
def ylj (h : Heap) : OX :=
(yf h (.bool false))
def y7d (s : St) : OX := ylj s.h
theorem y1kc : T0 y153 [.t 4] y7d := fun _ => by kernel_rfl
def yjp (a b c : AV) (h : Heap) : OX :=
  W E 0 yjw ⟨[(0, a), (1, b), (5, c)], h⟩ y7d (y5 0 y7d xN) (finP [.t 4])
def ybn (s : St) : OX := yjp (s 0) (s 1) (s 5) s.h
theorem ymq : T1 yjw y7d (y5 0 y7d xN) [.t 4] ybn := fun s => yj.trans (by kernel_rfl)
def ynu (a c d : AV) (h : Heap) : OX :=
ob (y8 .add d (.int .i64 1)) fun b =>
(yjp a c b h)
def y2c8 (s : St) : OX := ynu (s 0) (s 1) (s 5) s.h
theorem y1i1 : T1 yxd ybn (y5 0 y7d xN) [.t 4] y2c8 := fun _ => by kernel_rfl
def ylk (b c a : AV) (h : Heap) : OX :=
ob (yw 1 c a) fun d =>
ob (evLd false 1 d h) fun e =>
ob (y8 .eql e b) fun g =>
cnd g
 ((yf h (.bool true)))
 ((ynu b c a h))
def y29l (s : St) : OX := ylk (s 0) (s 1) (s 5) s.h
theorem y1nd : T1 y145 ybn (y5 0 y7d xN) [.t 4] y29l := sq y1i1 fun _ => by kernel_rfl
def yno (d b a : AV) (h : Heap) : OX :=
ob (y10 1 b h) fun e =>
ob (y8 .lss a e) fun c =>
cnd c
 ((ylk d b a h))
 ((ylj h))
def y2a2 (s : St) : OX := yno (s 0) (s 1) (s 5) s.h
theorem y1h9 : T1 y124 ybn (y5 0 y7d xN) [.t 4] y2a2 := sq y1nd fun _ => by kernel_rfl
theorem yn6 (a b c : AV) (h : Heap) : yjp a b c h = (yno a b c h) :=
  y28.trans ((y1c _ _ _ (n' := ybn) (fun s => ymq s)).trans ((y1h9 _).trans (by kernel_rfl)))
theorem y1k1 : T1 y14m y7d xN [.t 4] ybn := fun s => yy.trans (ymq s)
def ymr (a b : AV) (h : Heap) : OX :=
(yjp a b (.int .i64 0) h)
def y1t0 (s : St) : OX := ymr (s 0) (s 1) s.h
theorem y1gw : T1 y166 y7d xN [.t 4] y1t0 := sq y1k1 fun _ => by kernel_rfl
theorem y1pc : T0 y119 [.t 4] y1t0 := sq y1kc y1gw
def yn1 (a b : AV) (h : Heap) : OX :=
(ymr a b h)
def y2fc (s : St) : OX := yn1 (s 0) (s 1) s.h
theorem y1u9 : T0 y16j [.t 4] y2fc := sq y1pc fun _ => by kernel_rfl
@[simp] theorem y2pu : E.pure 42 = true := rfl
theorem y2hr (a b : AV) : (yb E).p 42 [a, b] = yn1 a b [] :=
  (y15 (cf := y26j) (by kernel_rfl) rfl).trans ((y1u9 _).trans (by kernel_rfl))
end
end Go.Vm
