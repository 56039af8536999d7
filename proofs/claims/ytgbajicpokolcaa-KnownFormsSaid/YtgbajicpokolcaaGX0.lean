/- Functions of the machine as plain functions that go on with what follows. -/
import Derived.Test.YtgbajicpokolcaaGEnv
set_option linter.unusedSimpArgs false
set_option linter.unusedVariables false
set_option linter.unusedSectionVars false
namespace Go.Vm
noncomputable section
def y1xf (e c : AV) (h : Heap) : OX :=
ob (evLd true 5 c h) fun g =>
oh (y9 E (yb E) 0 none true 29 [g] h) fun p h1 =>
ob (y8 .eql p (.int .i64 0)) fun a =>
gb a true (evFa 3 c) fun o =>
gb a true (evLd false 1 o h1) fun n =>
gb a true (y13 1 n h1) fun i =>
gb a true (evFa 3 e) fun y =>
gb a true (evLd false 1 y h1) fun u =>
gb a true (y13 1 u h1) fun v =>
gb a true (y8 .eql i v) fun m =>
ob (yd a m (.bool false)) fun b =>
gb b true (evLd true 5 e h1) fun w =>
gh b true (y9 E (yb E) 0 none true 77 [w] h1) h1 fun j h2 =>
gb b true (evUn .not j) fun t =>
gb b true (some t) fun d =>
gb d false (evLd true 5 c h2) fun k =>
gh d false (y9 E (yb E) 0 none true 77 [k] h2) h2 fun x h3 =>
gb b true (yd d (.bool true) x) fun l =>
ob (yd b l (.bool false)) fun r =>
(yf h3 r)
def y2j8 (s : St) : OX := y1xf (s 1) (s 3) s.h
theorem y21n : T0 y1cz [.t 2] y2j8 := fun _ => by kernel_rfl
def y1be (a b : AV) (h : Heap) : OX :=
ob (evLd true 5 a h) fun g =>
oh (y9 E (yb E) 0 none true 29 [g] h) fun e h4 =>
ob (y8 .neq e (.int .i64 0)) fun c =>
cnd c
 (ob (evLd true 5 a h4) fun d =>
ob (evLd true 5 b h4) fun i =>
oh (y9 E (yb E) 0 none true 14 [d, i] h4) fun j h5 =>
(yf h5 j))
 ((y1xf a b h4))
def y2i2 (s : St) : OX := y1be (s 1) (s 3) s.h
theorem y23p : T0 y1gh [.t 2] y2i2 := sq y21n fun _ => by kernel_rfl
def y1l3 (a : AV) (h : Heap) : OX :=
ob (evLd true 5 a h) fun c =>
oh (y9 E (yb E) 0 none true 166 [c] h) fun d h6 =>
oh (newC 0 (some 1) [.nils, .nils, (.int .i64 0), .nils, .nils] h6) fun b h7 =>
oh (evSt 5 b d h7) fun _ h8 =>
(y1be a b h8)
def y2jd (s : St) : OX := y1l3 (s 1) s.h
theorem y1yu : T0 y1n7 [.t 2] y2jd := sq y23p fun _ => by kernel_rfl
def y1bn (c : AV) (h : Heap) : OX :=
ob (evFa 3 c) fun g =>
ob (evLd false 1 g h) fun l =>
ob (y13 1 l h) fun i =>
ob (y8 .gtr i (.int .i64 400)) fun b =>
gb b false (evFa 0 c) fun d =>
gb b false (evLd false 1 d h) fun n =>
gb b false (y13 1 n h) fun k =>
gb b false (y8 .gtr k (.int .i64 100)) fun r =>
ob (yd b (.bool true) r) fun a =>
gb a false (evFa 4 c) fun m =>
gb a false (evLd false 1 m h) fun o =>
gb a false (y13 1 o h) fun p =>
gb a false (y8 .gtr p (.int .i64 50)) fun e =>
ob (yd a (.bool true) e) fun j =>
cnd j
 ((yf h (.bool true)))
 ((y1l3 c h))
def y2hl (s : St) : OX := y1bn (s 1) s.h
theorem y1y1 : T0 y1q3 [.t 2] y2hl := sq y1yu fun _ => by kernel_rfl
def y195 (a : AV) (h : Heap) : OX :=
oh (y9 E (yb E) 0 none true 165 [] h) fun b h9 =>
ob (evUn .not b) fun c =>
cnd c
 ((yf h9 (.bool false)))
 ((y1bn a h9))
def y2it (s : St) : OX := y195 (s 1) s.h
theorem y23t : T0 y1jl [.t 2] y2it := sq y1y1 fun _ => by kernel_rfl
def yv4 (b : AV) (h : Heap) : OX :=
oh (newC 0 (some 0) (cellsOf b) h) fun a h10 =>
(y195 a h10)
def y2ln (s : St) : OX := yv4 (s 0) s.h
theorem y206 : T0 y1fe [.t 2] y2ln := sq y23t fun _ => by kernel_rfl
@[simp] theorem y2nd : E.pure 162 = true := rfl
theorem y2q1 (a : AV) : (yb E).p 162 [a] = yv4 a [⟨0, .dead⟩, ⟨0, .dead⟩] :=
  (y15 (cf := y2l1) (by kernel_rfl) rfl).trans ((y206 _).trans (by kernel_rfl))
def y1js (a b : AV) (h : Heap) : OX :=
ob (evLd true 5 b h) fun c =>
oh (evSt 5 a c h) fun _ h1 =>
(ob (evLd true 5 a h1) fun r0 =>
  yf h1 r0)
def yb9 (s : St) : OX := y1js (s 2) (s 3) s.h
theorem y1y6 : T0 y1iw [.cell 2 true 5] yb9 := fun _ => by kernel_rfl
def yqj (d a b c : AV) (h : Heap) : OX :=
  W E 0 yok ⟨[(2, d), (3, a), (22, b), (23, c)], h⟩ yb9 (y5 0 yb9 xN) (finP [.cell 2 true 5])
def ydg (s : St) : OX := yqj (s 2) (s 3) (s 22) (s 23) s.h
theorem yrl : T1 yok yb9 (y5 0 yb9 xN) [.cell 2 true 5] ydg := fun s => yj.trans (by kernel_rfl)
def y2di (d a c b : AV) (h : Heap) : OX :=
ob (y8 .add b (.int .i64 1)) fun e =>
(yqj d a c e h)
def y2gq (s : St) : OX := y2di (s 2) (s 3) (s 22) (s 23) s.h
theorem y211 : T1 y1k5 ydg (y5 0 yb9 xN) [.cell 2 true 5] y2gq := fun _ => by kernel_rfl
def y2e3 (p a o b : AV) (h : Heap) : OX :=
ob (evFa 3 a) fun c =>
ob (evLd false 1 c h) fun m =>
ob (evFa 3 a) fun g =>
ob (evLd false 1 g h) fun k =>
ob (yw 9 k b) fun j =>
ob (evFa 8 j) fun i =>
ob (evLd false 1 i h) fun d =>
ofp (y4i E (yb E) 0 none true 39 [d] h) fun f9 =>
oh (y9 E (yb E) 0 none true 39 [d] h) fun n h2 =>
ob (yw 9 m b) fun l =>
ob (evFa 8 l) fun e =>
oh (evSt 1 e n h2) fun _ h3 =>
okK (yg [([], []), (ids1 c, []), ([], []), ([], []), (ids1 g, []), ([], []), ([], []), ([], []), (ids1 i, []), f9, ([], []), ([], []), ([], ids1 e)] [(1, 9)]) <|
(y2di p a o b h3)
def y2im (s : St) : OX := y2e3 (s 2) (s 3) (s 22) (s 23) s.h
theorem y1yi : T1 y1ms ydg (y5 0 yb9 xN) [.cell 2 true 5] y2im := sq y211 fun _ => by kernel_rfl
def y22v (b a d c e : AV) (h : Heap) : OX :=
cnd e
 ((y2e3 b a d c h))
 ((y1js b a h))
def y2lx (s : St) : OX := y22v (s 2) (s 3) (s 22) (s 23) (s 24) s.h
theorem y23q : T1 y1m1 ydg (y5 0 yb9 xN) [.cell 2 true 5] y2lx := sq y1yi fun _ => by kernel_rfl
def y1xr (e c b a : AV) (h : Heap) : OX :=
ob (y8 .lss a b) fun d =>
(y22v e c b a d h)
def y2iu (s : St) : OX := y1xr (s 2) (s 3) (s 22) (s 23) s.h
theorem y1y3 : T1 y1w3 ydg (y5 0 yb9 xN) [.cell 2 true 5] y2iu := sq y23q fun _ => by kernel_rfl
theorem ytk (d a b c : AV) (h : Heap) : yqj d a b c h = (y1xr d a b c h) :=
  y28.trans ((y1c _ _ _ (n' := ydg) (fun s => yrl s)).trans ((y1y3 _).trans (by kernel_rfl)))
theorem y1wp : T1 y1sv yb9 xN [.cell 2 true 5] ydg := fun s => yy.trans (yrl s)
def y1cv (e a : AV) (h : Heap) : OX :=
ob (evFa 3 a) fun b =>
ob (evLd false 1 b h) fun c =>
ob (y13 1 c h) fun d =>
(yqj e a d (.int .i64 0) h)
def y266 (s : St) : OX := y1cv (s 2) (s 3) s.h
theorem y20c : T1 y1ox yb9 xN [.cell 2 true 5] y266 := sq y1wp fun _ => by kernel_rfl
theorem y1xg : T0 y1o7 [.cell 2 true 5] y266 := sq y1y6 y20c
def ysm (a v : AV) (h : Heap) : OX :=
ob (evFa 0 a) fun m =>
ob (evLd false 1 m h) fun d =>
ofp (y4i E (yb E) 0 (some 2) false 39 [d] h) fun f2 =>
oh (y9 E (yb E) 0 (some 2) false 39 [d] h) fun o h4 =>
ob (evFa 1 a) fun e =>
ob (evLd false 1 e h4) fun l =>
ofp (y4i E (yb E) 0 (some 3) false 39 [l] h4) fun f5 =>
oh (y9 E (yb E) 0 (some 3) false 39 [l] h4) fun n h5 =>
ob (evFa 2 a) fun c =>
ob (evLd false 1 c h5) fun r =>
ob (evFa 3 a) fun g =>
ob (evLd false 1 g h5) fun k =>
ofp (y4i E (yb E) 0 (some 4) false 40 [k] h5) fun f10 =>
oh (y9 E (yb E) 0 (some 4) false 40 [k] h5) fun p h6 =>
ob (evFa 4 a) fun i =>
ob (evLd false 1 i h6) fun j =>
ofp (y4i E (yb E) 0 (some 5) false 41 [j] h6) fun f13 =>
oh (y9 E (yb E) 0 (some 5) false 41 [j] h6) fun t h7 =>
ob (y11 [.nils, .nils, (.int .i64 0), .nils, .nils] [(0, 1, o), (1, 1, n), (2, 1, r), (3, 1, p), (4, 1, t)]) fun u =>
oh (newC 0 (some 6) [.nils, .nils, (.int .i64 0), .nils, .nils] h7) fun b h8 =>
oh (evSt 5 b u h8) fun _ h9 =>
okK (yg [([], []), (ids1 m, []), f2, ([], []), (ids1 e, []), f5, ([], []), (ids1 c, []), ([], []), (ids1 g, []), f10, ([], []), (ids1 i, []), f13, ([], []), ([], [0 + 6]), ([], ids1 b)] [(2, 4), (2, 7), (5, 7), (2, 9), (5, 9), (7, 10), (2, 12), (5, 12), (10, 12), (7, 13), (1, 15), (2, 15), (4, 15), (5, 15), (7, 15), (9, 15), (10, 15), (12, 15), (13, 15)]) <|
(y1cv v b h9)
def y2b7 (s : St) : OX := ysm (s 1) (s 2) s.h
theorem y1rp : T0 yx0 [.cell 2 true 5] y2b7 := sq y1xg fun _ => by kernel_rfl
def y12p (b : AV) (h : Heap) : OX :=
oh (newC 0 (some 0) (cellsOf b) h) fun a h10 =>
oh (newC 0 (some 1) [.nils, .nils, (.int .i64 0), .nils, .nils] h10) fun c h11 =>
(ysm a c h11)
def y29w (s : St) : OX := y12p (s 0) s.h
theorem y1sm : T0 y13w [.cell 2 true 5] y29w := sq y1rp fun _ => by kernel_rfl
@[simp] theorem y2qf : E.pure 13 = true := rfl
theorem y2pv (a : AV) : (yb E).p 13 [a] = y12p a [⟨0, .dead⟩, ⟨0, .dead⟩, ⟨0, .dead⟩, ⟨0, .dead⟩, ⟨0, .dead⟩, ⟨0, .dead⟩, ⟨0, .dead⟩] :=
  (y15 (cf := y2j9) (by kernel_rfl) rfl).trans ((y1sm _).trans (by kernel_rfl))
def y1u9 (h : Heap) : OX :=
(yf h (.bool true))
def y7h (s : St) : OX := y1u9 s.h
theorem y1er : T0 y15w [.t 4] y7h := fun _ => by kernel_rfl
def yjw (c a b : AV) (h : Heap) : OX :=
  W E 0 yj2 ⟨[(2, c), (3, a), (6, b)], h⟩ y7h (y5 2 y7h xN) (finP [.t 4])
def ybt (s : St) : OX := yjw (s 2) (s 3) (s 6) s.h
theorem ynj : T1 yj2 y7h (y5 2 y7h xN) [.t 4] ybt := fun s => yj.trans (by kernel_rfl)
def y111 (d b c : AV) (h : Heap) : OX :=
ob (y8 .add c (.int .i64 1)) fun a =>
(yjw d b a h)
def y2c4 (s : St) : OX := y111 (s 2) (s 3) (s 6) s.h
theorem y1rq : T1 y12b ybt (y5 2 y7h xN) [.t 4] y2c4 := fun _ => by kernel_rfl
def yy4 (c b a : AV) (h : Heap) : OX :=
ob (evFa 4 c) fun m =>
ob (evLd false 1 m h) fun n =>
ob (yw 4 n a) fun d =>
ob (evLd true 4 d h) fun k =>
ob (evFa 4 b) fun i =>
ob (evLd false 1 i h) fun l =>
ob (yw 4 l a) fun g =>
ob (evLd true 4 g h) fun e =>
ob (y1j6 true [0, 0, 0, 2] k e) fun j =>
cnd j
 ((yf h (.bool false)))
 ((y111 c b a h))
def y2ci (s : St) : OX := yy4 (s 2) (s 3) (s 6) s.h
theorem y1qb : T1 y11h ybt (y5 2 y7h xN) [.t 4] y2ci := sq y1rq fun _ => by kernel_rfl
def ytl (b e a : AV) (h : Heap) : OX :=
ob (evFa 4 b) fun d =>
ob (evLd false 1 d h) fun c =>
ob (y13 1 c h) fun i =>
ob (y8 .lss a i) fun g =>
cnd g
 ((yy4 b e a h))
 ((y1u9 h))
def y2ca (s : St) : OX := ytl (s 2) (s 3) (s 6) s.h
theorem y1ou : T1 y15y ybt (y5 2 y7h xN) [.t 4] y2ca := sq y1qb fun _ => by kernel_rfl
theorem ylm (c a b : AV) (h : Heap) : yjw c a b h = (ytl c a b h) :=
  y28.trans ((y1c _ _ _ (n' := ybt) (fun s => ynj s)).trans ((y1ou _).trans (by kernel_rfl)))
theorem y1i5 : T1 y153 y7h xN [.t 4] ybt := fun s => yy.trans (ynj s)
def y1h8 (b a : AV) (h : Heap) : OX :=
(yjw b a (.int .i64 0) h)
def y6o (s : St) : OX := y1h8 (s 2) (s 3) s.h
theorem y1s3 : T1 y0m y7h xN [.t 4] y6o := sq y1i5 fun _ => by kernel_rfl
theorem y1tt : T0 y162 [.t 4] y6o := sq y1er y1s3
def yi0 (c b a : AV) (h : Heap) : OX :=
  W E 0 yl3 ⟨[(2, c), (3, b), (5, a)], h⟩ y6o (y5 0 y6o xN) (finP [.t 4])
def yc1 (s : St) : OX := yi0 (s 2) (s 3) (s 5) s.h
theorem ymz : T1 yl3 y6o (y5 0 y6o xN) [.t 4] yc1 := fun s => yj.trans (by kernel_rfl)
def yve (d b a : AV) (h : Heap) : OX :=
ob (y8 .add a (.int .i64 1)) fun c =>
(yi0 d b c h)
def y1x2 (s : St) : OX := yve (s 2) (s 3) (s 5) s.h
theorem y1c7 : T1 yst yc1 (y5 0 y6o xN) [.t 4] y1x2 := fun _ => by kernel_rfl
def yoi (c b a : AV) (h : Heap) : OX :=
ob (evFa 3 c) fun g =>
ob (evLd false 1 g h) fun k =>
ob (yw 9 k a) fun n =>
ob (evLd true 9 n h) fun j =>
ob (evFa 3 b) fun m =>
ob (evLd false 1 m h) fun i =>
ob (yw 9 i a) fun e =>
ob (evLd true 9 e h) fun o =>
oh (y9 E (yb E) 0 none true 28 [j, o] h) fun d h1 =>
ob (evUn .not d) fun l =>
cnd l
 ((yf h1 (.bool false)))
 ((yve c b a h1))
def y20u (s : St) : OX := yoi (s 2) (s 3) (s 5) s.h
theorem y1cf : T1 ysn yc1 (y5 0 y6o xN) [.t 4] y20u := sq y1c7 fun _ => by kernel_rfl
def yi4 (a b c : AV) (h : Heap) : OX :=
ob (evFa 3 a) fun i =>
ob (evLd false 1 i h) fun g =>
ob (y13 1 g h) fun d =>
ob (y8 .lss c d) fun e =>
cnd e
 ((yoi a b c h))
 ((y1h8 a b h))
def y24g (s : St) : OX := yi4 (s 2) (s 3) (s 5) s.h
theorem y1ax : T1 ytz yc1 (y5 0 y6o xN) [.t 4] y24g := sq y1cf fun _ => by kernel_rfl
theorem ync (c b a : AV) (h : Heap) : yi0 c b a h = (yi4 c b a h) :=
  y28.trans ((y1c _ _ _ (n' := yc1) (fun s => ymz s)).trans ((y1ax _).trans (by kernel_rfl)))
theorem y1c5 : T1 yr4 y6o xN [.t 4] yc1 := fun s => yy.trans (ymz s)
def yw0 (b a : AV) (h : Heap) : OX :=
(yi0 b a (.int .i64 0) h)
def y18o (s : St) : OX := yw0 (s 2) (s 3) s.h
theorem y1ci : T1 yt9 y6o xN [.t 4] y18o := sq y1c5 fun _ => by kernel_rfl
theorem y1b9 : T0 yus [.t 4] y18o := sq y1tt y1ci
def ybh (g d : AV) (h : Heap) : OX :=
ob (evFa 0 g) fun k =>
ob (evLd false 1 k h) fun O =>
ob (evFa 0 d) fun H =>
ob (evLd false 1 H h) fun j =>
oh (y9 E (yb E) 0 none true 11 [O, j] h) fun J h2 =>
ob (evUn .not J) fun c =>
gb c false (evFa 1 g) fun r =>
gb c false (evLd false 1 r h2) fun K =>
gb c false (evFa 1 d) fun w =>
gb c false (evLd false 1 w h2) fun m =>
gh c false (y9 E (yb E) 0 none true 11 [K, m] h2) h2 fun z h3 =>
gb c false (evUn .not z) fun F =>
ob (yd c (.bool true) F) fun e =>
gb e false (evFa 2 g) fun N =>
gb e false (evLd false 1 N h3) fun n =>
gb e false (evFa 2 d) fun p =>
gb e false (evLd false 1 p h3) fun y =>
gb e false (y8 .neq n y) fun A =>
ob (yd e (.bool true) A) fun b =>
gb b false (evFa 3 g) fun P =>
gb b false (evLd false 1 P h3) fun l =>
gb b false (y13 1 l h3) fun C =>
gb b false (evFa 3 d) fun t =>
gb b false (evLd false 1 t h3) fun G =>
gb b false (y13 1 G h3) fun B =>
gb b false (y8 .neq C B) fun x =>
ob (yd b (.bool true) x) fun a =>
gb a false (evFa 4 g) fun I =>
gb a false (evLd false 1 I h3) fun L =>
gb a false (y13 1 L h3) fun v =>
gb a false (evFa 4 d) fun i =>
gb a false (evLd false 1 i h3) fun u =>
gb a false (y13 1 u h3) fun M =>
gb a false (y8 .neq v M) fun o =>
ob (yd a (.bool true) o) fun D =>
cnd D
 ((yf h3 (.bool false)))
 ((yw0 g d h3))
def y23f (s : St) : OX := ybh (s 2) (s 3) s.h
theorem y1ba : T0 ytb [.t 4] y23f := sq y1b9 fun _ => by kernel_rfl
def yat (b a : AV) (h : Heap) : OX :=
oh (newC 0 (some 0) (cellsOf b) h) fun d h4 =>
oh (newC 0 (some 1) (cellsOf a) h4) fun c h5 =>
(ybh d c h5)
def y1zr (s : St) : OX := yat (s 0) (s 1) s.h
theorem y1br : T0 yrz [.t 4] y1zr := sq y1ba fun _ => by kernel_rfl
@[simp] theorem y2oa : E.pure 14 = true := rfl
theorem y2io (b a : AV) : (yb E).p 14 [b, a] = yat b a [⟨0, .dead⟩, ⟨0, .dead⟩] :=
  (y15 (cf := y27i) (by kernel_rfl) rfl).trans ((y1br _).trans (by kernel_rfl))
def y2bh (h : Heap) : OX :=
(yf h (.int .i64 0))
def ybb (s : St) : OX := y2bh s.h
theorem y200 : T0 y1du [.t 2] ybb := fun _ => by kernel_rfl
def yma (d a b e c : AV) (h : Heap) : OX :=
  W E 0 ypr ⟨[(1, d), (3, a), (136, b), (137, e), (138, c)], h⟩ ybb (y5 6 ybb xN) (finP [.t 2])
def yd0 (s : St) : OX := yma (s 1) (s 3) (s 136) (s 137) (s 138) s.h
theorem ys9 : T1 ypr ybb (y5 6 ybb xN) [.t 2] yd0 := fun s => yj.trans (by kernel_rfl)
def y2b6 (e a b g c : AV) (h : Heap) : OX :=
ob (y8 .add c (.int .i64 1)) fun d =>
(yma e a b g d h)
def y2mp (s : St) : OX := y2b6 (s 1) (s 3) (s 136) (s 137) (s 138) s.h
theorem y1z6 : T1 y1fs yd0 (y5 6 ybb xN) [.t 2] y2mp := fun _ => by kernel_rfl
def yoj (l i j D k : AV) (h : Heap) : OX :=
ob (yw 4 j k) fun o =>
ob (evLd true 4 o h) fun B =>
oh (newC 0 (some 2) [(.int .i64 0), (.int .i64 0), (.int .i64 0), (.str [])] h) fun b h1 =>
oh (evSt 4 b B h1) fun _ h2 =>
ob (evFa 0 b) fun Q =>
ob (evLd false 1 Q h2) fun N =>
ob (y8 .lss N (.int .i64 0)) fun c =>
gb c false (evFa 0 b) fun P =>
gb c false (evLd false 1 P h2) fun M =>
gb c false (evFa 1 b) fun J =>
gb c false (evLd false 1 J h2) fun t =>
gb c false (y8 .geq M t) fun I =>
ob (yd c (.bool true) I) fun e =>
gb e false (evFa 1 b) fun O =>
gb e false (evLd false 1 O h2) fun n =>
gb e false (some i) fun S =>
gb e false (y8 .gtr n S) fun u =>
ob (yd e (.bool true) u) fun g =>
gb g false (evFa 2 b) fun y =>
gb g false (evLd false 1 y h2) fun z =>
gb g false (y8 .lss z (.int .i64 0)) fun C =>
ob (yd g (.bool true) C) fun d =>
gb d false (evFa 2 b) fun K =>
gb d false (evLd false 1 K h2) fun v =>
gb d false (some i) fun R =>
gb d false (y8 .geq v R) fun r =>
ob (yd d (.bool true) r) fun a =>
gb a false (evFa 3 l) fun L =>
gb a false (evLd false 1 L h2) fun H =>
gb a false (evFa 2 b) fun A =>
gb a false (evLd false 1 A h2) fun F =>
gb a false (yw 9 H F) fun p =>
gb a false (evFa 0 p) fun m =>
gb a false (evLd false 1 m h2) fun G =>
gb a false (y8 .neq G (.int .i64 32)) fun w =>
ob (yd a (.bool true) w) fun x =>
cnd x
 ((yf h2 (.int .i64 80)))
 ((y2b6 l i j D k h2))
def y2hm (s : St) : OX := yoj (s 1) (s 3) (s 136) (s 137) (s 138) s.h
theorem y23e : T1 y1pa yd0 (y5 6 ybb xN) [.t 2] y2hm := sq y1z6 fun _ => by kernel_rfl
def y22d (d a b g c e : AV) (h : Heap) : OX :=
cnd e
 ((yoj d a b g c h))
 ((y2bh h))
def y2mg (s : St) : OX := y22d (s 1) (s 3) (s 136) (s 137) (s 138) (s 139) s.h
theorem y1xv : T1 y1dx yd0 (y5 6 ybb xN) [.t 2] y2mg := sq y23e fun _ => by kernel_rfl
def y24j (e c d b a : AV) (h : Heap) : OX :=
ob (y8 .lss a b) fun g =>
(y22d e c d b a g h)
def y2i8 (s : St) : OX := y24j (s 1) (s 3) (s 136) (s 137) (s 138) s.h
theorem y24b : T1 y1g1 yd0 (y5 6 ybb xN) [.t 2] y2i8 := sq y1xv fun _ => by kernel_rfl
theorem yub (d a b e c : AV) (h : Heap) : yma d a b e c h = (y24j d a b e c h) :=
  y28.trans ((y1c _ _ _ (n' := yd0) (fun s => ys9 s)).trans ((y24b _).trans (by kernel_rfl)))
theorem y22n : T1 y1sf ybb xN [.t 2] yd0 := fun s => yy.trans (ys9 s)
def y1i7 (b c : AV) (h : Heap) : OX :=
ob (evFa 4 b) fun d =>
ob (evLd false 1 d h) fun a =>
ob (y13 1 a h) fun e =>
(yma b c a e (.int .i64 0) h)
def y5x (s : St) : OX := y1i7 (s 1) (s 3) s.h
theorem y25j : T1 y1re ybb xN [.t 2] y5x := sq y22n fun _ => by kernel_rfl
theorem y1yh : T0 y1nh [.t 2] y5x := sq y200 y25j
def yfh (c b d a e : AV) (h : Heap) : OX :=
  W E 0 yhu ⟨[(1, c), (3, b), (92, d), (93, a), (94, e)], h⟩ y5x (y5 4 y5x xN) (finP [.t 2])
def y8o (s : St) : OX := yfh (s 1) (s 3) (s 92) (s 93) (s 94) s.h
theorem ymg : T1 yhu y5x (y5 4 y5x xN) [.t 2] y8o := fun s => yj.trans (by kernel_rfl)
def y12l (c b d a g : AV) (h : Heap) : OX :=
ob (y8 .add g (.int .i64 1)) fun e =>
(yfh c b d a e h)
def yak (s : St) : OX := y12l (s 1) (s 3) (s 92) (s 93) (s 94) s.h
theorem y1jc : T1 y172 y8o (y5 4 y5x xN) [.t 2] yak := fun _ => by kernel_rfl
def ycm (e l i g n D o : AV) (h : Heap) : OX :=
ob (evFa 0 g) fun j =>
ob (evLd false 1 j h) fun K =>
ob (y8 .eql K (.int .i64 32)) fun d =>
gb d true (some i) fun z =>
gb d true (y8 .eql z (.int .i64 0)) fun v =>
gb d true (some v) fun b =>
gb b false (evFa 3 e) fun J =>
gb b false (evLd false 1 J h) fun F =>
gb b false (some i) fun m =>
gb b false (y8 .sub m (.int .i64 1)) fun p =>
gb b false (yw 9 F p) fun u =>
gb b false (evLd true 9 u h) fun r =>
gh b false (y9 E (yb E) 0 none true 24 [r] h) h fun N h3 =>
gb b false (evUn .not N) fun x =>
gb d true (yd b (.bool true) x) fun H =>
ob (yd d H (.bool false)) fun c =>
gb c false (evLd true 9 g h3) fun w =>
gh c false (y9 E (yb E) 0 none true 22 [w] h3) h3 fun I h4 =>
gb c false (some I) fun a =>
gb a true (evFa 3 e) fun t =>
gb a true (evLd false 1 t h4) fun M =>
gb a true (evFa 6 g) fun C =>
gb a true (evLd false 1 C h4) fun O =>
gb a true (yw 9 M O) fun L =>
gb a true (evFa 0 L) fun B =>
gb a true (evLd false 1 B h4) fun y =>
gb a true (y8 .eql y (.int .i64 32)) fun G =>
gb c false (yd a G (.bool false)) fun k =>
ob (yd c (.bool true) k) fun A =>
cnd A
 ((yf h4 (.int .i64 80)))
 ((y12l e l n D o h4))
def y28i (s : St) : OX := ycm (s 1) (s 3) (s 8) (s 9) (s 92) (s 93) (s 94) s.h
theorem y1k8 : T1 y0i yak (y5 5 yak (y5 4 y5x xN)) [.t 2] y28i := fun _ => by kernel_rfl
def y0y (a e c b k d m : AV) (h : Heap) : OX :=
ob (evLd true 5 a h) fun g =>
ob (evLd true 9 b h) fun j =>
oh (y9 E (yb E) 0 none true 63 [g, j] h) fun l h5 =>
ob (evUn .not l) fun i =>
cnd i
 ((yf h5 (.int .i64 80)))
 ((ycm a e c b k d m h5))
def y286 (s : St) : OX := y0y (s 1) (s 3) (s 8) (s 9) (s 92) (s 93) (s 94) s.h
theorem y1vw : T1 y134 yak (y5 5 yak (y5 4 y5x xN)) [.t 2] y286 := sq y1k8 fun _ => by kernel_rfl
def yt1 (i e c d a : AV) (h : Heap) : OX :=
ob (yw 9 c a) fun j =>
ob (evLd true 9 j h) fun g =>
oh (newC 0 (some 1) [(.int .i64 0), (.int .i64 0), (.int .i64 0), (.int .i64 0), (.int .i64 0), (.int .i64 0), (.int .i64 0), (.str []), .nils] h) fun b h6 =>
oh (evSt 9 b g h6) fun _ h7 =>
(y0y i e a b c d a h7)
def ywh (s : St) : OX := yt1 (s 1) (s 3) (s 92) (s 93) (s 94) s.h
theorem y1vj : T1 yz0 yak (y5 5 yak (y5 4 y5x xN)) [.t 2] ywh := sq y1vw fun _ => by kernel_rfl
theorem y1j0 : T1 y0v yak (y5 4 y5x xN) [.t 2] ywh := fun s => yy.trans (y1vj s)
theorem y1ud : T1 y11e y8o (y5 4 y5x xN) [.t 2] ywh := sq y1jc y1j0
def y116 (b a d c g e : AV) (h : Heap) : OX :=
cnd e
 ((yt1 b a d c g h))
 ((y1i7 b a h))
def y2ds (s : St) : OX := y116 (s 1) (s 3) (s 92) (s 93) (s 94) (s 95) s.h
theorem y1kr : T1 y188 y8o (y5 4 y5x xN) [.t 2] y2ds := sq y1ud fun _ => by kernel_rfl
def y14u (d c e a b : AV) (h : Heap) : OX :=
ob (y8 .lss b a) fun g =>
(y116 d c e a b g h)
def y2da (s : St) : OX := y14u (s 1) (s 3) (s 92) (s 93) (s 94) s.h
theorem y1mz : T1 y161 y8o (y5 4 y5x xN) [.t 2] y2da := sq y1kr fun _ => by kernel_rfl
theorem ynv (c b d a e : AV) (h : Heap) : yfh c b d a e h = (y14u c b d a e h) :=
  y28.trans ((y1c _ _ _ (n' := y8o) (fun s => ymg s)).trans ((y1mz _).trans (by kernel_rfl)))
theorem y1rm : T1 y16p y5x xN [.t 2] y8o := fun s => yy.trans (ymg s)
def yud (a d : AV) (h : Heap) : OX :=
ob (evFa 3 a) fun e =>
ob (evLd false 1 e h) fun b =>
ob (y13 1 b h) fun c =>
(yfh a d b c (.int .i64 0) h)
def y5s (s : St) : OX := yud (s 1) (s 3) s.h
theorem y1ee : T1 yyq y5x xN [.t 2] y5s := sq y1rm fun _ => by kernel_rfl
theorem y1qy : T0 yxn [.t 2] y5s := sq y1yh y1ee
def yf7 (d b e a c : AV) (h : Heap) : OX :=
  W E 0 yht ⟨[(1, d), (3, b), (62, e), (63, a), (64, c)], h⟩ y5s (y5 2 y5s xN) (finP [.t 2])
def y92 (s : St) : OX := yf7 (s 1) (s 3) (s 62) (s 63) (s 64) s.h
theorem ymp : T1 yht y5s (y5 2 y5s xN) [.t 2] y92 := fun s => yj.trans (by kernel_rfl)
def y1q5 (e c g b d : AV) (h : Heap) : OX :=
ob (y8 .add d (.int .i64 1)) fun a =>
(yf7 e c g b a h)
def y2f7 (s : St) : OX := y1q5 (s 1) (s 3) (s 62) (s 63) (s 64) s.h
theorem y1og : T1 yyj y92 (y5 2 y5s xN) [.t 2] y2f7 := fun _ => by kernel_rfl
def yje (e m i u c : AV) (h : Heap) : OX :=
ob (yw 1 i c) fun k =>
ob (evLd false 1 k h) fun d =>
ob (y8 .lss d (.int .i64 0)) fun b =>
gb b false (some d) fun B =>
gb b false (evFa 0 e) fun p =>
gb b false (evLd false 1 p h) fun x =>
gb b false (y13 1 x h) fun r =>
gb b false (y8 .geq B r) fun A =>
ob (yd b (.bool true) A) fun a =>
gb a false (evFa 1 e) fun z =>
gb a false (evLd false 1 z h) fun t =>
gb a false (some c) fun v =>
gb a false (yas 1 t none (some v)) fun n =>
gb a false (some d) fun w =>
gh a false (y9 E (yb E) 0 none true 46 [n, w] h) h fun o h8 =>
ob (yd a (.bool true) o) fun g =>
gb g false (some c) fun y =>
gb g false (y8 .gtr y (.int .i64 20)) fun j =>
ob (yd g (.bool true) j) fun l =>
cnd l
 ((yf h8 (.int .i64 80)))
 ((y1q5 e m i u c h8))
def y2bu (s : St) : OX := yje (s 1) (s 3) (s 62) (s 63) (s 64) s.h
theorem y1ut : T1 y12f y92 (y5 2 y5s xN) [.t 2] y2bu := sq y1og fun _ => by kernel_rfl
def y115 (b a g c d e : AV) (h : Heap) : OX :=
cnd e
 ((yje b a g c d h))
 ((yud b a h))
def y2cr (s : St) : OX := y115 (s 1) (s 3) (s 62) (s 63) (s 64) (s 65) s.h
theorem y1wb : T1 y14i y92 (y5 2 y5s xN) [.t 2] y2cr := sq y1ut fun _ => by kernel_rfl
def y15n (e c g a b : AV) (h : Heap) : OX :=
ob (y8 .lss b a) fun d =>
(y115 e c g a b d h)
def y28f (s : St) : OX := y15n (s 1) (s 3) (s 62) (s 63) (s 64) s.h
theorem y1n4 : T1 y18p y92 (y5 2 y5s xN) [.t 2] y28f := sq y1wb fun _ => by kernel_rfl
theorem yn3 (d b e a c : AV) (h : Heap) : yf7 d b e a c h = (y15n d b e a c h) :=
  y28.trans ((y1c _ _ _ (n' := y92) (fun s => ymp s)).trans ((y1n4 _).trans (by kernel_rfl)))
theorem y1kk : T1 yxz y5s xN [.t 2] y92 := fun s => yy.trans (ymp s)
def yqy (a e : AV) (h : Heap) : OX :=
ob (evFa 1 a) fun d =>
ob (evLd false 1 d h) fun b =>
ob (y13 1 b h) fun c =>
(yf7 a e b c (.int .i64 0) h)
def y5u (s : St) : OX := yqy (s 1) (s 3) s.h
theorem y1ui : T1 yyn y5s xN [.t 2] y5u := sq y1kk fun _ => by kernel_rfl
theorem y1nn : T0 yxx [.t 2] y5u := sq y1qy y1ui
def yf4 (e b d a c : AV) (h : Heap) : OX :=
  W E 0 yi1 ⟨[(1, e), (3, b), (48, d), (49, a), (50, c)], h⟩ y5u (y5 0 y5u xN) (finP [.t 2])
def y8j (s : St) : OX := yf4 (s 1) (s 3) (s 48) (s 49) (s 50) s.h
theorem ymo : T1 yi1 y5u (y5 0 y5u xN) [.t 2] y8j := fun s => yj.trans (by kernel_rfl)
def y1pi (g c e b d : AV) (h : Heap) : OX :=
ob (y8 .add d (.int .i64 1)) fun a =>
(yf4 g c e b a h)
def y2do (s : St) : OX := y1pi (s 1) (s 3) (s 48) (s 49) (s 50) s.h
theorem y1k0 : T1 yxd y8j (y5 0 y5u xN) [.t 2] y2do := fun _ => by kernel_rfl
def yte (m i d e c : AV) (h : Heap) : OX :=
ob (yw 1 d c) fun l =>
ob (evLd false 1 l h) fun b =>
ob (y8 .lss b (.int .i64 1)) fun a =>
gb a false (some b) fun j =>
gb a false (y8 .gtr j (.int .i64 3)) fun k =>
ob (yd a (.bool true) k) fun g =>
cnd g
 ((yf h (.int .i64 80)))
 ((y1pi m i d e c h))
def y2cq (s : St) : OX := yte (s 1) (s 3) (s 48) (s 49) (s 50) s.h
theorem y1wc : T1 y15l y8j (y5 0 y5u xN) [.t 2] y2cq := sq y1k0 fun _ => by kernel_rfl
def y16u (b a g c e d : AV) (h : Heap) : OX :=
cnd d
 ((yte b a g c e h))
 ((yqy b a h))
def y2e1 (s : St) : OX := y16u (s 1) (s 3) (s 48) (s 49) (s 50) (s 51) s.h
theorem y1sl : T1 y12v y8j (y5 0 y5u xN) [.t 2] y2e1 := sq y1wc fun _ => by kernel_rfl
def y13e (g d e a b : AV) (h : Heap) : OX :=
ob (y8 .lss b a) fun c =>
(y16u g d e a b c h)
def y2ee (s : St) : OX := y13e (s 1) (s 3) (s 48) (s 49) (s 50) s.h
theorem y1se : T1 y14l y8j (y5 0 y5u xN) [.t 2] y2ee := sq y1sl fun _ => by kernel_rfl
theorem yo9 (e b d a c : AV) (h : Heap) : yf4 e b d a c h = (y13e e b d a c h) :=
  y28.trans ((y1c _ _ _ (n' := y8j) (fun s => ymo s)).trans ((y1se _).trans (by kernel_rfl)))
theorem y1nb : T1 y16n y5u xN [.t 2] y8j := fun s => yy.trans (ymo s)
def ynw (b d : AV) (h : Heap) : OX :=
ob (evFa 0 b) fun e =>
ob (evLd false 1 e h) fun a =>
ob (y13 1 a h) fun c =>
(yf4 b d a c (.int .i64 0) h)
def y1d4 (s : St) : OX := ynw (s 1) (s 3) s.h
theorem y1go : T1 y17h y5u xN [.t 2] y1d4 := sq y1nb fun _ => by kernel_rfl
theorem y1qk : T0 y16t [.t 2] y1d4 := sq y1nn y1go
def yeg (c d : AV) (h : Heap) : OX :=
ob (y8 .lss d (.int .i64 1)) fun i =>
gb i false (some d) fun u =>
gb i false (y8 .gtr u (.int .i64 20000)) fun z =>
ob (yd i (.bool true) z) fun b =>
gb b false (evFa 0 c) fun F =>
gb b false (evLd false 1 F h) fun l =>
gb b false (y13 1 l h) fun n =>
gb b false (y8 .gtr n (.int .i64 20000)) fun t =>
ob (yd b (.bool true) t) fun e =>
gb e false (evFa 2 c) fun y =>
gb e false (evLd false 1 y h) fun G =>
gb e false (y8 .lss G (.int .i64 0)) fun k =>
ob (yd e (.bool true) k) fun g =>
gb g false (evFa 2 c) fun A =>
gb g false (evLd false 1 A h) fun v =>
gb g false (y8 .gtr v (.int .i64 3)) fun r =>
ob (yd g (.bool true) r) fun a =>
gb a false (evFa 3 c) fun B =>
gb a false (evLd false 1 B h) fun C =>
gb a false (some d) fun p =>
gb a false (y8 .sub p (.int .i64 1)) fun j =>
gb a false (yw 9 C j) fun o =>
gb a false (evLd true 9 o h) fun D =>
gh a false (y9 E (yb E) 0 none true 24 [D] h) h fun m h9 =>
gb a false (evUn .not m) fun x =>
ob (yd a (.bool true) x) fun w =>
cnd w
 ((yf h9 (.int .i64 80)))
 ((ynw c d h9))
def y284 (s : St) : OX := yeg (s 1) (s 3) s.h
theorem y1w7 : T0 yz5 [.t 2] y284 := sq y1qk fun _ => by kernel_rfl
def ydn (a : AV) (h : Heap) : OX :=
ob (evFa 3 a) fun c =>
ob (evLd false 1 c h) fun b =>
ob (y13 1 b h) fun d =>
(yeg a d h)
def y2el (s : St) : OX := ydn (s 1) s.h
theorem y1ug : T0 yzq [.t 2] y2el := sq y1w7 fun _ => by kernel_rfl
def yco (b : AV) (h : Heap) : OX :=
oh (newC 0 (some 0) (cellsOf b) h) fun a h10 =>
(ydn a h10)
def y2ft (s : St) : OX := yco (s 0) s.h
theorem y1lw : T0 y15k [.t 2] y2ft := sq y1ug fun _ => by kernel_rfl
@[simp] theorem y2rn : E.pure 8 = true := rfl
theorem y2qv (a : AV) : (yb E).p 8 [a] = yco a [⟨0, .dead⟩, ⟨0, .dead⟩, ⟨0, .dead⟩] :=
  (y15 (cf := y2i5) (by kernel_rfl) rfl).trans ((y1lw _).trans (by kernel_rfl))
def y28k (h : Heap) : OX :=
oh (y10 0 (some 0) 1 2 [(.int .i64 0)] [(0, (.int .i64 1)), (1, (.int .i64 3))] h) fun G h1 =>
oh (y10 0 (some 1) 1 1 [(.int .i64 0)] [(0, (.int .i64 1))] h1) fun j h2 =>
ob (y11 [(.int .i64 0), (.int .i64 0), (.int .i64 0), (.int .i64 0), (.int .i64 0), (.int .i64 0), (.int .i64 0), (.str []), .nils] [(0, 1, (.int .i64 8)), (2, 1, (.int .i64 1))]) fun r =>
ob (y11 [(.int .i64 0), (.int .i64 0), (.int .i64 0), (.int .i64 0), (.int .i64 0), (.int .i64 0), (.int .i64 0), (.str []), .nils] [(0, 1, (.int .i64 15)), (1, 1, (.int .i64 0)), (2, 1, (.int .i64 1))]) fun t =>
ob (y11 [(.int .i64 0), (.int .i64 0), (.int .i64 0), (.int .i64 0), (.int .i64 0), (.int .i64 0), (.int .i64 0), (.str []), .nils] [(0, 1, (.int .i64 8)), (2, 1, (.int .i64 1))]) fun d =>
ob (y11 [(.int .i64 0), (.int .i64 0), (.int .i64 0), (.int .i64 0), (.int .i64 0), (.int .i64 0), (.int .i64 0), (.str []), .nils] [(0, 1, (.int .i64 30)), (2, 1, (.int .i64 (-1)))]) fun i =>
oh (y10 0 (some 2) 9 4 [(.int .i64 0), (.int .i64 0), (.int .i64 0), (.int .i64 0), (.int .i64 0), (.int .i64 0), (.int .i64 0), (.str []), .nils] [(0, r), (1, t), (2, d), (3, i)] h2) fun D h3 =>
ob (y11 [.nils, .nils, (.int .i64 0), .nils, .nils] [(0, 1, G), (1, 1, j), (3, 1, D)]) fun B =>
oh (y9 E (yb E) 0 none true 166 [B] h3) fun g h4 =>
oh (newC 0 (some 3) [.nils, .nils, (.int .i64 0), .nils, .nils] h4) fun c h5 =>
oh (evSt 5 c g h5) fun _ h6 =>
ob (evFa 3 c) fun C =>
ob (evLd false 1 C h6) fun y =>
ob (y13 1 y h6) fun w =>
ob (y8 .eql w (.int .i64 4)) fun a =>
gb a true (evFa 3 c) fun n =>
gb a true (evLd false 1 n h6) fun k =>
gb a true (yw 9 k (.int .i64 0)) fun p =>
gb a true (evFa 0 p) fun A =>
gb a true (evLd false 1 A h6) fun u =>
gb a true (y8 .eql u (.int .i64 8)) fun e =>
ob (yd a e (.bool false)) fun b =>
gb b true (evFa 3 c) fun m =>
gb b true (evLd false 1 m h6) fun o =>
gb b true (yw 9 o (.int .i64 2)) fun v =>
gb b true (evFa 0 v) fun x =>
gb b true (evLd false 1 x h6) fun z =>
gb b true (y8 .eql z (.int .i64 33)) fun F =>
ob (yd b F (.bool false)) fun l =>
(yf h6 l)
def y2ku (s : St) : OX := y28k s.h
theorem y24s : T0 y1l9 [.t 0] y2ku := fun _ => by kernel_rfl
@[simp] theorem y2ng : E.pure 165 = true := rfl
theorem y2p9 : (yb E).p 165 [] = y28k [⟨0, .dead⟩, ⟨0, .dead⟩, ⟨0, .dead⟩, ⟨0, .dead⟩] :=
  (y15 (cf := y2kq) (by kernel_rfl) rfl).trans ((y24s _).trans (by kernel_rfl))
def y1kc (b a : AV) (h : Heap) : OX :=
ob (evLd true 5 b h) fun c =>
oh (evSt 5 a c h) fun _ h1 =>
(ob (evLd true 5 a h1) fun r0 =>
  yf h1 r0)
def yb7 (s : St) : OX := y1kc (s 1) (s 2) s.h
theorem y1x1 : T0 y1fi [.cell 2 true 5] yb7 := fun _ => by kernel_rfl
def ylp (d g a e c b : AV) (h : Heap) : OX :=
  W E 0 ype ⟨[(1, d), (2, g), (3, a), (85, e), (86, c), (87, b)], h⟩ yb7 (y5 6 yb7 xN) (finP [.cell 2 true 5])
def yd4 (s : St) : OX := ylp (s 1) (s 2) (s 3) (s 85) (s 86) (s 87) s.h
theorem yrd : T1 ype yb7 (y5 6 yb7 xN) [.cell 2 true 5] yd4 := fun s => yj.trans (by kernel_rfl)
def y1lj (e i a g c b : AV) (h : Heap) : OX :=
ob (y8 .add b (.int .i64 1)) fun d =>
(ylp e i a g c d h)
def y2jg (s : St) : OX := y1lj (s 1) (s 2) (s 3) (s 85) (s 86) (s 87) s.h
theorem y22o : T1 y1ny yd4 (y5 6 yb7 xN) [.cell 2 true 5] y2jg := fun _ => by kernel_rfl
def yww (e m d g i b : AV) (h : Heap) : OX :=
ob (yw 9 g b) fun B =>
ob (evLd true 9 B h) fun y =>
oh (newC 0 (some 15) [(.int .i64 0), (.int .i64 0), (.int .i64 0), (.int .i64 0), (.int .i64 0), (.int .i64 0), (.int .i64 0), (.str []), .nils] h) fun l h2 =>
oh (evSt 9 l y h2) fun _ h3 =>
ob (evLd true 9 l h3) fun C =>
oh (y9 E (yb E) 0 none true 169 [C] h3) fun k h4 =>
ob (y3z 0 k) fun J =>
ob (y3z 1 k) fun c =>
oh (newC 0 (some 16) [(.int .i64 0), (.int .i64 0), (.int .i64 0)] h4) fun j h5 =>
oh (evSt 3 j J h5) fun _ h6 =>
gb c true (evLd false 1 d h6) fun o =>
gb c true (some b) fun r =>
gb c true (yw 1 o r) fun G =>
gb c true (evLd false 1 G h6) fun F =>
gb c true (y4w 2 true F AV.nilm) fun n =>
ob (yd c n (.bool false)) fun a =>
gb a true (evLd false 1 d h6) fun z =>
gb a true (some b) fun A =>
gb a true (yw 1 z A) fun w =>
gb a true (evLd false 1 w h6) fun v =>
gb a true (evLd true 3 j h6) fun H =>
gb a true (y6q true [0, 0, 0] (.bool false) false v H h6) fun D =>
ob (yd a D (.bool false)) fun p =>
cnd p
 (ob (evFa 3 e) fun t =>
ob (evLd false 1 t h6) fun u =>
ob (y11 [(.int .i64 0), (.int .i64 0), (.int .i64 0), (.int .i64 0), (.int .i64 0), (.int .i64 0), (.int .i64 0), (.str []), .nils] [(0, 1, (.int .i64 33))]) fun I =>
ob (yw 9 u b) fun x =>
oh (evSt 9 x I h6) fun _ h7 =>
(y1lj e m d g i b h7))
 ((y1lj e m d g i b h6))
def y2m2 (s : St) : OX := yww (s 1) (s 2) (s 3) (s 85) (s 86) (s 87) s.h
theorem y1zv : T1 y1lz yd4 (y5 6 yb7 xN) [.cell 2 true 5] y2m2 := sq y22o fun _ => by kernel_rfl
def y256 (a b d i g e c : AV) (h : Heap) : OX :=
cnd c
 ((yww a b d i g e h))
 ((y1kc a b h))
def y2jk (s : St) : OX := y256 (s 1) (s 2) (s 3) (s 85) (s 86) (s 87) (s 88) s.h
theorem y1y5 : T1 y1hp yd4 (y5 6 yb7 xN) [.cell 2 true 5] y2jk := sq y1zv fun _ => by kernel_rfl
def y23u (e i d g b a : AV) (h : Heap) : OX :=
ob (y8 .lss a b) fun c =>
(y256 e i d g b a c h)
def y2m6 (s : St) : OX := y23u (s 1) (s 2) (s 3) (s 85) (s 86) (s 87) s.h
theorem y25a : T1 y1dd yd4 (y5 6 yb7 xN) [.cell 2 true 5] y2m6 := sq y1y5 fun _ => by kernel_rfl
theorem ytf (d g a e c b : AV) (h : Heap) : ylp d g a e c b h = (y23u d g a e c b h) :=
  y28.trans ((y1c _ _ _ (n' := yd4) (fun s => yrd s)).trans ((y25a _).trans (by kernel_rfl)))
theorem y24i : T1 y1u4 yb7 xN [.cell 2 true 5] yd4 := fun s => yy.trans (yrd s)
def y25f (a g c : AV) (h : Heap) : OX :=
ob (evFa 3 a) fun d =>
ob (evLd false 1 d h) fun b =>
ob (y13 1 b h) fun e =>
(ylp a g c b e (.int .i64 0) h)
def y32 (s : St) : OX := y25f (s 1) (s 2) (s 3) s.h
theorem y1wy : T1 y1i0 yb7 xN [.cell 2 true 5] y32 := sq y24i fun _ => by kernel_rfl
theorem y21m : T0 y1wk [.cell 2 true 5] y32 := sq y1x1 y1wy
def yd7 (b e a c d : AV) (h : Heap) : OX :=
  W E 0 yl2 ⟨[(1, b), (2, e), (3, a), (4, c), (5, d)], h⟩ y32 (y5 0 y32 xN) (finP [.cell 2 true 5])
def y14 (s : St) : OX := yd7 (s 1) (s 2) (s 3) (s 4) (s 5) s.h
theorem ynh : T1 yl2 y32 (y5 0 y32 xN) [.cell 2 true 5] y14 := fun s => yj.trans (by kernel_rfl)
def ykn (d k c e j i b g a : AV) (h : Heap) : OX :=
  W E 0 yk1 ⟨[(1, d), (2, k), (3, c), (4, e), (5, j), (9, i), (73, b), (74, g), (75, a)], h⟩ y14 (y5 4 y14 (y5 1 y14 (y5 0 y32 xN))) (finP [.cell 2 true 5])
def y8n (s : St) : OX := ykn (s 1) (s 2) (s 3) (s 4) (s 5) (s 9) (s 73) (s 74) (s 75) s.h
theorem ym3 : T1 yk1 y14 (y5 4 y14 (y5 1 y14 (y5 0 y32 xN))) [.cell 2 true 5] y8n := fun s => yj.trans (by kernel_rfl)
def y1j1 (d l c g k j b i a : AV) (h : Heap) : OX :=
ob (y8 .add a (.int .i64 1)) fun e =>
(ykn d l c g k j b i e h)
def y28p (s : St) : OX := y1j1 (s 1) (s 2) (s 3) (s 4) (s 5) (s 9) (s 73) (s 74) (s 75) s.h
theorem y1op : T1 y14f y8n (y5 4 y14 (y5 1 y14 (y5 0 y32 xN))) [.cell 2 true 5] y28p := fun _ => by kernel_rfl
def y1np (j m e k d c b l a : AV) (h : Heap) : OX :=
ob (yw 1 b a) fun g =>
ob (evLd false 1 g h) fun i =>
oh (ymb E (yb E) 0 none true d [i, c] h) fun n h8 =>
(y1j1 j m e k d c b l a h8)
def y2g4 (s : St) : OX := y1np (s 1) (s 2) (s 3) (s 4) (s 5) (s 9) (s 73) (s 74) (s 75) s.h
theorem y1rw : T1 yy8 y8n (y5 4 y14 (y5 1 y14 (y5 0 y32 xN))) [.cell 2 true 5] y2g4 := sq y1op fun _ => by kernel_rfl
def yy3 (b e a c d l i k g j : AV) (h : Heap) : OX :=
cnd j
 ((y1np b e a c d l i k g h))
 ((yd7 b e a c d h))
def y28t (s : St) : OX := yy3 (s 1) (s 2) (s 3) (s 4) (s 5) (s 9) (s 73) (s 74) (s 75) (s 76) s.h
theorem y1gq : T1 y16w y8n (y5 4 y14 (y5 1 y14 (y5 0 y32 xN))) [.cell 2 true 5] y28t := sq y1rw fun _ => by kernel_rfl
def yy1 (g l d i k j c b a : AV) (h : Heap) : OX :=
ob (y8 .lss a b) fun e =>
(yy3 g l d i k j c b a e h)
def y29m (s : St) : OX := yy1 (s 1) (s 2) (s 3) (s 4) (s 5) (s 9) (s 73) (s 74) (s 75) s.h
theorem y1i8 : T1 y17m y8n (y5 4 y14 (y5 1 y14 (y5 0 y32 xN))) [.cell 2 true 5] y29m := sq y1gq fun _ => by kernel_rfl
theorem ynm (d k c e j i b g a : AV) (h : Heap) : ykn d k c e j i b g a h = (yy1 d k c e j i b g a h) :=
  y28.trans ((y1c _ _ _ (n' := y8n) (fun s => ym3 s)).trans ((y1i8 _).trans (by kernel_rfl)))
theorem y1ec : T1 y14d y14 (y5 1 y14 (y5 0 y32 xN)) [.cell 2 true 5] y8n := fun s => yy.trans (ym3 s)
def y1u6 (b l d g k c j : AV) (h : Heap) : OX :=
ob (evLd true 5 b h) fun e =>
oh (y9 E (yb E) 0 none true 81 [e, c] h) fun a h9 =>
ob (y13 1 a h9) fun i =>
(ykn b l d g k j a i (.int .i64 0) h9)
def y2es (s : St) : OX := y1u6 (s 1) (s 2) (s 3) (s 4) (s 5) (s 6) (s 9) s.h
theorem y1l2 : T1 y11j y14 (y5 1 y14 (y5 0 y32 xN)) [.cell 2 true 5] y2es := sq y1ec fun _ => by kernel_rfl
def y14x (c p b m o a : AV) (h : Heap) : OX :=
ob (evLd false 1 b h) fun e =>
ob (yw 1 e a) fun d =>
ob (evLd false 1 d h) fun j =>
ob (evFa 3 c) fun k =>
ob (evLd false 1 k h) fun g =>
ob (yw 9 g a) fun n =>
ob (evLd true 9 n h) fun l =>
oh (y9 E (yb E) 0 none true 168 [j, l] h) fun i h10 =>
(y1u6 c p b m o a i h10)
def y6b (s : St) : OX := y14x (s 1) (s 2) (s 3) (s 4) (s 5) (s 6) s.h
theorem y1uc : T1 yxv y14 (y5 1 y14 (y5 0 y32 xN)) [.cell 2 true 5] y6b := sq y1l2 fun _ => by kernel_rfl
def yiz (g k c i j b e d a : AV) (h : Heap) : OX :=
  W E 0 yjl ⟨[(1, g), (2, k), (3, c), (4, i), (5, j), (6, b), (47, e), (48, d), (49, a)], h⟩ y6b (y5 2 y6b (y5 1 y14 (y5 0 y32 xN))) (finP [.cell 2 true 5])
def y8h (s : St) : OX := yiz (s 1) (s 2) (s 3) (s 4) (s 5) (s 6) (s 47) (s 48) (s 49) s.h
theorem ynq : T1 yjl y6b (y5 2 y6b (y5 1 y14 (y5 0 y32 xN))) [.cell 2 true 5] y8h := fun s => yj.trans (by kernel_rfl)
def y1ek (i l d j k c g e b : AV) (h : Heap) : OX :=
ob (y8 .add b (.int .i64 1)) fun a =>
(yiz i l d j k c g e a h)
def y2bp (s : St) : OX := y1ek (s 1) (s 2) (s 3) (s 4) (s 5) (s 6) (s 47) (s 48) (s 49) s.h
theorem y1d5 : T1 yyl y8h (y5 2 y6b (y5 1 y14 (y5 0 y32 xN))) [.cell 2 true 5] y2bp := fun _ => by kernel_rfl
def y1vz (n p c o e b d k a : AV) (h : Heap) : OX :=
ob (yw 1 d a) fun i =>
ob (evLd false 1 i h) fun m =>
ob (evLd false 1 c h) fun g =>
ob (yw 1 g b) fun j =>
ob (evLd false 1 j h) fun l =>
oh (ymb E (yb E) 0 none true e [m, l] h) fun r h11 =>
(y1ek n p c o e b d k a h11)
def y2am (s : St) : OX := y1vz (s 1) (s 2) (s 3) (s 4) (s 5) (s 6) (s 47) (s 48) (s 49) s.h
theorem y1cy : T1 y04 y8h (y5 2 y6b (y5 1 y14 (y5 0 y32 xN))) [.cell 2 true 5] y2am := sq y1d5 fun _ => by kernel_rfl
def y15s (c g b d e a l k i j : AV) (h : Heap) : OX :=
cnd j
 ((y1vz c g b d e a l k i h))
 ((y14x c g b d e a h))
def y2eq (s : St) : OX := y15s (s 1) (s 2) (s 3) (s 4) (s 5) (s 6) (s 47) (s 48) (s 49) (s 50) s.h
theorem y1j3 : T1 y18l y8h (y5 2 y6b (y5 1 y14 (y5 0 y32 xN))) [.cell 2 true 5] y2eq := sq y1cy fun _ => by kernel_rfl
def y16f (i l d j k c g b a : AV) (h : Heap) : OX :=
ob (y8 .lss a b) fun e =>
(y15s i l d j k c g b a e h)
def y2bw (s : St) : OX := y16f (s 1) (s 2) (s 3) (s 4) (s 5) (s 6) (s 47) (s 48) (s 49) s.h
theorem y1ko : T1 y13t y8h (y5 2 y6b (y5 1 y14 (y5 0 y32 xN))) [.cell 2 true 5] y2bw := sq y1j3 fun _ => by kernel_rfl
theorem ynr (g k c i j b e d a : AV) (h : Heap) : yiz g k c i j b e d a h = (y16f g k c i j b e d a h) :=
  y28.trans ((y1c _ _ _ (n' := y8h) (fun s => ynq s)).trans ((y1ko _).trans (by kernel_rfl)))
theorem y1fg : T1 y09 y6b (y5 1 y14 (y5 0 y32 xN)) [.cell 2 true 5] y8h := fun s => yy.trans (ynq s)
def y1sy (c k d i j a : AV) (h : Heap) : OX :=
ob (evLd true 5 c h) fun g =>
oh (y9 E (yb E) 0 none true 79 [g, a] h) fun b h12 =>
ob (y13 1 b h12) fun e =>
(yiz c k d i j a b e (.int .i64 0) h12)
def y1kd (s : St) : OX := y1sy (s 1) (s 2) (s 3) (s 4) (s 5) (s 6) s.h
theorem y1h7 : T1 y11z y6b (y5 1 y14 (y5 0 y32 xN)) [.cell 2 true 5] y1kd := sq y1fg fun _ => by kernel_rfl
theorem y1t7 : T1 y17g y14 (y5 1 y14 (y5 0 y32 xN)) [.cell 2 true 5] y1kd := sq y1uc y1h7
def y1n9 (k m g a l c : AV) (h : Heap) : OX :=
ob (evLd false 1 a h) fun e =>
ob (evLd false 1 a h) fun b =>
ob (y13 1 b h) fun d =>
ob (y8 .sub d (.int .i64 1)) fun j =>
ob (yas 1 e none (some j)) fun i =>
oh (evSt 1 a i h) fun _ h13 =>
(y1sy k m g a l c h13)
def y2az (s : St) : OX := y1n9 (s 1) (s 2) (s 3) (s 4) (s 5) (s 6) s.h
theorem y1lv : T1 y01 y14 (y5 1 y14 (y5 0 y32 xN)) [.cell 2 true 5] y2az := sq y1t7 fun _ => by kernel_rfl
def y1km (k m e a l : AV) (h : Heap) : OX :=
ob (evLd false 1 a h) fun c =>
ob (evLd false 1 a h) fun i =>
ob (y13 1 i h) fun d =>
ob (y8 .sub d (.int .i64 1)) fun j =>
ob (yw 1 c j) fun b =>
ob (evLd false 1 b h) fun g =>
(y1n9 k m e a l g h)
def y1e0 (s : St) : OX := y1km (s 1) (s 2) (s 3) (s 4) (s 5) s.h
theorem y1if : T1 y145 y14 (y5 1 y14 (y5 0 y32 xN)) [.cell 2 true 5] y1e0 := sq y1lv fun _ => by kernel_rfl
theorem y1pz : T1 y0w y14 (y5 0 y32 xN) [.cell 2 true 5] y1e0 := fun s => yy.trans (y1if s)
def yu4 (b d a c j : AV) (h : Heap) : OX :=
ob (evLd false 1 c h) fun g =>
ob (y13 1 g h) fun e =>
ob (y8 .gtr e (.int .i64 0)) fun i =>
cnd i
 ((y1km b d a c j h))
 ((y25f b d a h))
def y2cs (s : St) : OX := yu4 (s 1) (s 2) (s 3) (s 4) (s 5) s.h
theorem y1i6 : T1 y15b y14 (y5 0 y32 xN) [.cell 2 true 5] y2cs := sq y1pz fun _ => by kernel_rfl
theorem yfe (b e a c d : AV) (h : Heap) : yd7 b e a c d h = (yu4 b e a c d h) :=
  y28.trans ((y1c _ _ _ (n' := y14) (fun s => ynh s)).trans ((y1i6 _).trans (by kernel_rfl)))
theorem y1hi : T1 yz4 y32 xN [.cell 2 true 5] y14 := fun s => yy.trans (ynh s)
theorem y1s6 : T0 y12n [.cell 2 true 5] y14 := sq y21m y1hi
def y1jy (d e a b : AV) (h : Heap) : OX :=
ob (some (.fn 167 [a, b])) fun c =>
(yd7 d e a b c h)
def y29f (s : St) : OX := y1jy (s 1) (s 2) (s 3) (s 4) s.h
theorem y1jq : T0 y11x [.cell 2 true 5] y29f := sq y1s6 fun _ => by kernel_rfl
def y1cs (c e b : AV) (h : Heap) : OX :=
oh (y10 0 (some 13) 1 1 [(.int .i64 0)] [(0, (.int .i64 0))] h) fun d h14 =>
oh (newC 0 (some 14) [.nils] h14) fun a h15 =>
oh (evSt 1 a d h15) fun _ h16 =>
(y1jy c e b a h16)
def y2bf (s : St) : OX := y1cs (s 1) (s 2) (s 3) s.h
theorem y1mu : T0 y180 [.cell 2 true 5] y2bf := sq y1jq fun _ => by kernel_rfl
def y1kq (e g a : AV) (h : Heap) : OX :=
ob (evLd false 1 a h) fun b =>
oh (mkmC 0 (some 12) h) fun c h17 =>
ob (yw 1 b (.int .i64 0)) fun d =>
oh (evSt 1 d c h17) fun _ h18 =>
(y1cs e g a h18)
def y29c (s : St) : OX := y1kq (s 1) (s 2) (s 3) s.h
theorem y1en : T0 y17z [.cell 2 true 5] y29c := sq y1mu fun _ => by kernel_rfl
def yzf (c i : AV) (h : Heap) : OX :=
ob (evFa 3 c) fun g =>
ob (evLd false 1 g h) fun d =>
ob (y13 1 d h) fun b =>
oh (mkSC 0 (some 10) 1 8 [.nilm] b b h) fun e h19 =>
oh (newC 0 (some 11) [.nils] h19) fun a h20 =>
oh (evSt 1 a e h20) fun _ h21 =>
(y1kq c i a h21)
def y2db (s : St) : OX := yzf (s 1) (s 2) s.h
theorem y1j7 : T0 yxf [.cell 2 true 5] y2db := sq y1en fun _ => by kernel_rfl
def ysv (a b : AV) (h : Heap) : OX :=
ob (evLd true 5 a h) fun e =>
oh (y9 E (yb E) 0 none true 8 [e] h) fun g h22 =>
ob (y8 .neq g (.int .i64 0)) fun c =>
cnd c
 (ob (evLd true 5 a h22) fun d =>
oh (evSt 5 b d h22) fun _ h23 =>
(ob (evLd true 5 b h23) fun r0 =>
  yf h23 r0))
 ((yzf a b h22))
def y287 (s : St) : OX := ysv (s 1) (s 2) s.h
theorem y1oo : T0 y18q [.cell 2 true 5] y287 := sq y1j7 fun _ => by kernel_rfl
def y1cx (a d : AV) (h : Heap) : OX :=
ob (evLd true 5 a h) fun c =>
oh (y9 E (yb E) 0 (some 2) false 13 [c] h) fun b h24 =>
oh (evSt 5 a b h24) fun _ h25 =>
(ysv a d h25)
def y2cc (s : St) : OX := y1cx (s 1) (s 2) s.h
theorem y1p0 : T0 y170 [.cell 2 true 5] y2cc := sq y1oo fun _ => by kernel_rfl
def y137 (b : AV) (h : Heap) : OX :=
oh (newC 0 (some 0) (cellsOf b) h) fun a h26 =>
oh (newC 0 (some 1) [.nils, .nils, (.int .i64 0), .nils, .nils] h26) fun c h27 =>
(y1cx a c h27)
def y2ev (s : St) : OX := y137 (s 0) s.h
theorem y1io : T0 y06 [.cell 2 true 5] y2ev := sq y1p0 fun _ => by kernel_rfl
@[simp] theorem y2ni : E.pure 166 = true := rfl
theorem y2pt (a : AV) : (yb E).p 166 [a] = y137 a [⟨0, .dead⟩, ⟨0, .dead⟩, ⟨0, .dead⟩, ⟨0, .dead⟩, ⟨0, .dead⟩, ⟨0, .dead⟩, ⟨0, .dead⟩, ⟨0, .dead⟩, ⟨0, .dead⟩, ⟨0, .dead⟩, ⟨0, .dead⟩, ⟨0, .dead⟩, ⟨0, .dead⟩, ⟨0, .dead⟩, ⟨0, .dead⟩, ⟨0, .dead⟩, ⟨0, .dead⟩] :=
  (y15 (cf := y2hn) (by kernel_rfl) rfl).trans ((y1io _).trans (by kernel_rfl))
def yjg (h : Heap) : OX :=
(yf h (.int .i64 0))
def y79 (s : St) : OX := yjg s.h
theorem y1rb : T0 y178 [.t 2] y79 := fun _ => by kernel_rfl
def yfc (a b c : AV) (h : Heap) : OX :=
  W E 0 yky ⟨[(1, a), (3, b), (8, c)], h⟩ y79 (y5 6 y79 xN) (finP [.t 2])
def yc0 (s : St) : OX := yfc (s 1) (s 3) (s 8) s.h
theorem ylk : T1 yky y79 (y5 6 y79 xN) [.t 2] yc0 := fun s => yj.trans (by kernel_rfl)
def ykj (a b c : AV) (h : Heap) : OX :=
ob (y8 .add c (.int .i64 1)) fun d =>
(yfc a b d h)
def y2c8 (s : St) : OX := ykj (s 1) (s 3) (s 8) s.h
theorem y1vo : T1 y18m yc0 (y5 6 y79 xN) [.t 2] y2c8 := fun _ => by kernel_rfl
def y7u (g i j : AV) (h : Heap) : OX :=
ob (evFa 4 g) fun n =>
ob (evLd false 1 n h) fun N =>
ob (yw 4 N j) fun x =>
ob (evLd true 4 x h) fun z =>
oh (newC 0 (some 2) [(.int .i64 0), (.int .i64 0), (.int .i64 0), (.str [])] h) fun b h1 =>
oh (evSt 4 b z h1) fun _ h2 =>
ob (evFa 0 b) fun B =>
ob (evLd false 1 B h2) fun r =>
ob (y8 .lss r (.int .i64 0)) fun d =>
gb d false (evFa 0 b) fun p =>
gb d false (evLd false 1 p h2) fun P =>
gb d false (evFa 1 b) fun m =>
gb d false (evLd false 1 m h2) fun H =>
gb d false (y8 .geq P H) fun u =>
ob (yd d (.bool true) u) fun e =>
gb e false (evFa 1 b) fun A =>
gb e false (evLd false 1 A h2) fun D =>
gb e false (some i) fun l =>
gb e false (y8 .gtr D l) fun k =>
ob (yd e (.bool true) k) fun c =>
gb c false (evLd true 5 g h2) fun w =>
gb c false (evFa 2 b) fun J =>
gb c false (evLd false 1 J h2) fun C =>
gh c false (y9 E (yb E) 0 none true 49 [w, C] h2) h2 fun G h3 =>
gb c false (evUn .not G) fun O =>
ob (yd c (.bool true) O) fun a =>
gb a false (evFa 3 g) fun v =>
gb a false (evLd false 1 v h3) fun I =>
gb a false (evFa 2 b) fun L =>
gb a false (evLd false 1 L h3) fun t =>
gb a false (yw 9 I t) fun F =>
gb a false (evFa 0 F) fun y =>
gb a false (evLd false 1 y h3) fun o =>
gb a false (y8 .neq o (.int .i64 32)) fun K =>
ob (yd a (.bool true) K) fun M =>
cnd M
 ((yf h3 (.int .i64 80)))
 ((ykj g i j h3))
def y2bl (s : St) : OX := y7u (s 1) (s 3) (s 8) s.h
theorem y1nm : T1 y0o yc0 (y5 6 y79 xN) [.t 2] y2bl := sq y1vo fun _ => by kernel_rfl
def y6x (b e a : AV) (h : Heap) : OX :=
ob (evFa 4 b) fun d =>
ob (evLd false 1 d h) fun g =>
ob (y13 1 g h) fun c =>
ob (y8 .lss a c) fun i =>
cnd i
 ((y7u b e a h))
 ((yjg h))
def y2dz (s : St) : OX := y6x (s 1) (s 3) (s 8) s.h
theorem y1ta : T1 yx9 yc0 (y5 6 y79 xN) [.t 2] y2dz := sq y1nm fun _ => by kernel_rfl
theorem ym6 (a b c : AV) (h : Heap) : yfc a b c h = (y6x a b c h) :=
  y28.trans ((y1c _ _ _ (n' := yc0) (fun s => ylk s)).trans ((y1ta _).trans (by kernel_rfl)))
theorem y1lq : T1 yyf y79 xN [.t 2] yc0 := fun s => yy.trans (ylk s)
def ygr (a b : AV) (h : Heap) : OX :=
(yfc a b (.int .i64 0) h)
def y6r (s : St) : OX := ygr (s 1) (s 3) s.h
theorem y1g8 : T1 y14g y79 xN [.t 2] y6r := sq y1lq fun _ => by kernel_rfl
theorem y1gl : T0 y126 [.t 2] y6r := sq y1rb y1g8
def yg2 (a b c : AV) (h : Heap) : OX :=
  W E 0 yjp ⟨[(1, a), (3, b), (6, c)], h⟩ y6r (y5 4 y6r xN) (finP [.t 2])
def yc3 (s : St) : OX := yg2 (s 1) (s 3) (s 6) s.h
theorem ynk : T1 yjp y6r (y5 4 y6r xN) [.t 2] yc3 := fun s => yj.trans (by kernel_rfl)
def yao (a c d : AV) (h : Heap) : OX :=
ob (y8 .add d (.int .i64 1)) fun b =>
(yg2 a c b h)
def y243 (s : St) : OX := yao (s 1) (s 3) (s 6) s.h
theorem y19c : T1 ys2 yc3 (y5 4 y6r xN) [.t 2] y243 := fun _ => by kernel_rfl
def y4q (i n j : AV) (h : Heap) : OX :=
ob (evFa 3 i) fun I =>
ob (evLd false 1 I h) fun z =>
ob (yw 9 z j) fun w =>
ob (evLd true 9 w h) fun v =>
oh (newC 0 (some 1) [(.int .i64 0), (.int .i64 0), (.int .i64 0), (.int .i64 0), (.int .i64 0), (.int .i64 0), (.int .i64 0), (.str []), .nils] h) fun e h4 =>
oh (evSt 9 e v h4) fun _ h5 =>
ob (evLd true 5 i h5) fun R =>
ob (evLd true 9 e h5) fun K =>
oh (y9 E (yb E) 0 none true 64 [R, K] h5) fun p h6 =>
ob (evUn .not p) fun c =>
gb c false (evFa 0 e) fun t =>
gb c false (evLd false 1 t h6) fun Y =>
gb c false (y8 .eql Y (.int .i64 32)) fun x =>
gb c false (some x) fun g =>
gb g true (some j) fun m =>
gb g true (y8 .eql m (.int .i64 0)) fun X =>
gb g true (some X) fun a =>
gb a false (evFa 3 i) fun P =>
gb a false (evLd false 1 P h6) fun k =>
gb a false (some j) fun u =>
gb a false (y8 .sub u (.int .i64 1)) fun V =>
gb a false (yw 9 k V) fun H =>
gb a false (evFa 0 H) fun Z =>
gb a false (evLd false 1 Z h6) fun S =>
gh a false (y9 E (yb E) 0 none true 25 [S] h6) h6 fun D h7 =>
gb a false (evUn .not D) fun A =>
gb g true (yd a (.bool true) A) fun L =>
gb c false (yd g L (.bool false)) fun l =>
ob (yd c (.bool true) l) fun d =>
gb d false (evFa 0 e) fun M =>
gb d false (evLd false 1 M h7) fun y =>
gh d false (y9 E (yb E) 0 none true 23 [y] h7) h7 fun F h8 =>
gb d false (some F) fun b =>
gb b true (evFa 3 i) fun B =>
gb b true (evLd false 1 B h8) fun o =>
gb b true (evFa 6 e) fun C =>
gb b true (evLd false 1 C h8) fun U =>
gb b true (yw 9 o U) fun O =>
gb b true (evFa 0 O) fun G =>
gb b true (evLd false 1 G h8) fun r =>
gb b true (y8 .eql r (.int .i64 32)) fun Q =>
gb d false (yd b Q (.bool false)) fun N =>
ob (yd d (.bool true) N) fun J =>
cnd J
 ((yf h8 (.int .i64 80)))
 ((yao i n j h8))
def y1xd (s : St) : OX := y4q (s 1) (s 3) (s 6) s.h
theorem y19f : T1 ytr yc3 (y5 4 y6r xN) [.t 2] y1xd := sq y19c fun _ => by kernel_rfl
def ybf (b a c : AV) (h : Heap) : OX :=
ob (y8 .lss c a) fun d =>
cnd d
 ((y4q b a c h))
 ((ygr b a h))
def y1wx (s : St) : OX := ybf (s 1) (s 3) (s 6) s.h
theorem y19m : T1 yt4 yc3 (y5 4 y6r xN) [.t 2] y1wx := sq y19f fun _ => by kernel_rfl
theorem yod (a b c : AV) (h : Heap) : yg2 a b c h = (ybf a b c h) :=
  y28.trans ((y1c _ _ _ (n' := yc3) (fun s => ynk s)).trans ((y19m _).trans (by kernel_rfl)))
theorem y1an : T1 ysw y6r xN [.t 2] yc3 := fun s => yy.trans (ynk s)
def yai (a b : AV) (h : Heap) : OX :=
(yg2 a b (.int .i64 0) h)
def y4u (s : St) : OX := yai (s 1) (s 3) s.h
theorem y1b5 : T1 ytt y6r xN [.t 2] y4u := sq y1an fun _ => by kernel_rfl
theorem y19t : T0 yup [.t 2] y4u := sq y1gl y1b5
def ybs (a b c : AV) (h : Heap) : OX :=
  W E 0 yew ⟨[(1, a), (3, b), (5, c)], h⟩ y4u (y5 2 y4u xN) (finP [.t 2])
def y84 (s : St) : OX := ybs (s 1) (s 3) (s 5) s.h
theorem yjx : T1 yew y4u (y5 2 y4u xN) [.t 2] y84 := fun s => yj.trans (by kernel_rfl)
def ydc (a c d : AV) (h : Heap) : OX :=
ob (y8 .add d (.int .i64 1)) fun b =>
(ybs a c b h)
def y22h (s : St) : OX := ydc (s 1) (s 3) (s 5) s.h
theorem y1c0 : T1 yq8 y84 (y5 2 y4u xN) [.t 2] y22h := fun _ => by kernel_rfl
def y8b (b e c : AV) (h : Heap) : OX :=
ob (evLd true 5 b h) fun n =>
ob (evFa 1 b) fun r =>
ob (evLd false 1 r h) fun i =>
ob (yw 1 i c) fun j =>
ob (evLd false 1 j h) fun y =>
oh (y9 E (yb E) 0 none true 48 [n, y] h) fun k h9 =>
ob (y8 .eql k (.int .i64 0)) fun a =>
gb a false (evFa 1 b) fun d =>
gb a false (evLd false 1 d h9) fun p =>
gb a false (some c) fun o =>
gb a false (yw 1 p o) fun l =>
gb a false (evLd false 1 l h9) fun t =>
gb a false (evFa 1 b) fun m =>
gb a false (evLd false 1 m h9) fun x =>
gb a false (some c) fun w =>
gb a false (yas 1 x none (some w)) fun v =>
gh a false (y9 E (yb E) 0 none true 42 [t, v] h9) h9 fun u h10 =>
ob (yd a (.bool true) u) fun g =>
cnd g
 ((yf h10 (.int .i64 80)))
 ((ydc b e c h10))
def y22y (s : St) : OX := y8b (s 1) (s 3) (s 5) s.h
theorem y1cb : T1 ytp y84 (y5 2 y4u xN) [.t 2] y22y := sq y1c0 fun _ => by kernel_rfl
def y76 (a b c : AV) (h : Heap) : OX :=
ob (evFa 1 a) fun i =>
ob (evLd false 1 i h) fun d =>
ob (y13 1 d h) fun g =>
ob (y8 .lss c g) fun e =>
cnd e
 ((y8b a b c h))
 ((yai a b h))
def y24m (s : St) : OX := y76 (s 1) (s 3) (s 5) s.h
theorem y19y : T1 yqq y84 (y5 2 y4u xN) [.t 2] y24m := sq y1cb fun _ => by kernel_rfl
theorem ykx (a b c : AV) (h : Heap) : ybs a b c h = (y76 a b c h) :=
  y28.trans ((y1c _ _ _ (n' := y84) (fun s => yjx s)).trans ((y19y _).trans (by kernel_rfl)))
theorem y19p : T1 yt3 y4u xN [.t 2] y84 := fun s => yy.trans (yjx s)
def yb4 (a b : AV) (h : Heap) : OX :=
(ybs a b (.int .i64 0) h)
def y4p (s : St) : OX := yb4 (s 1) (s 3) s.h
theorem y1aq : T1 ysc y4u xN [.t 2] y4p := sq y19p fun _ => by kernel_rfl
theorem y191 : T0 yuj [.t 2] y4p := sq y19t y1aq
def ybp (a c b : AV) (h : Heap) : OX :=
  W E 0 yf3 ⟨[(1, a), (3, c), (4, b)], h⟩ y4p (y5 0 y4p xN) (finP [.t 2])
def y7q (s : St) : OX := ybp (s 1) (s 3) (s 4) s.h
theorem yku : T1 yf3 y4p (y5 0 y4p xN) [.t 2] y7q := fun s => yj.trans (by kernel_rfl)
def ycy (a c b : AV) (h : Heap) : OX :=
ob (y8 .add b (.int .i64 1)) fun d =>
(ybp a c d h)
def y21v (s : St) : OX := ycy (s 1) (s 3) (s 4) s.h
theorem y1cq : T1 yqd y7q (y5 0 y4p xN) [.t 2] y21v := fun _ => by kernel_rfl
def y8c (b j c : AV) (h : Heap) : OX :=
ob (evFa 0 b) fun i =>
ob (evLd false 1 i h) fun d =>
ob (yw 1 d c) fun m =>
ob (evLd false 1 m h) fun g =>
ob (y8 .lss g (.int .i64 1)) fun a =>
gb a false (evFa 0 b) fun k =>
gb a false (evLd false 1 k h) fun e =>
gb a false (some c) fun r =>
gb a false (yw 1 e r) fun o =>
gb a false (evLd false 1 o h) fun n =>
gb a false (y8 .gtr n (.int .i64 3)) fun l =>
ob (yd a (.bool true) l) fun p =>
cnd p
 ((yf h (.int .i64 80)))
 ((ycy b j c h))
def y1zg (s : St) : OX := y8c (s 1) (s 3) (s 4) s.h
theorem y1a7 : T1 ytu y7q (y5 0 y4p xN) [.t 2] y1zg := sq y1cq fun _ => by kernel_rfl
def y7a (a b c : AV) (h : Heap) : OX :=
ob (evFa 0 a) fun e =>
ob (evLd false 1 e h) fun g =>
ob (y13 1 g h) fun d =>
ob (y8 .lss c d) fun i =>
cnd i
 ((y8c a b c h))
 ((yb4 a b h))
def y1x8 (s : St) : OX := y7a (s 1) (s 3) (s 4) s.h
theorem y1ag : T1 ysy y7q (y5 0 y4p xN) [.t 2] y1x8 := sq y1a7 fun _ => by kernel_rfl
theorem ykl (a c b : AV) (h : Heap) : ybp a c b h = (y7a a c b h) :=
  y28.trans ((y1c _ _ _ (n' := y7q) (fun s => yku s)).trans ((y1ag _).trans (by kernel_rfl)))
theorem y1bi : T1 yqo y4p xN [.t 2] y7q := fun s => yy.trans (yku s)
def yfx (a b : AV) (h : Heap) : OX :=
(ybp a b (.int .i64 0) h)
def y149 (s : St) : OX := yfx (s 1) (s 3) s.h
theorem y1b3 : T1 ysr y4p xN [.t 2] y149 := sq y1bi fun _ => by kernel_rfl
theorem y19g : T0 ysa [.t 2] y149 := sq y191 y1b3
def y4y (b g : AV) (h : Heap) : OX :=
ob (y8 .eql g (.int .i64 0)) fun j =>
gb j false (some g) fun v =>
gb j false (y8 .gtr v (.int .i64 20000)) fun l =>
ob (yd j (.bool true) l) fun d =>
gb d false (evFa 0 b) fun w =>
gb d false (evLd false 1 w h) fun k =>
gb d false (y13 1 k h) fun K =>
gb d false (y8 .gtr K (.int .i64 20000)) fun m =>
ob (yd d (.bool true) m) fun c =>
gb c false (evFa 1 b) fun x =>
gb c false (evLd false 1 x h) fun z =>
gb c false (y13 1 z h) fun D =>
gb c false (y8 .gtr D (.int .i64 21)) fun L =>
ob (yd c (.bool true) L) fun e =>
gb e false (evFa 2 b) fun r =>
gb e false (evLd false 1 r h) fun F =>
gb e false (y8 .lss F (.int .i64 0)) fun y =>
ob (yd e (.bool true) y) fun i =>
gb i false (evFa 2 b) fun M =>
gb i false (evLd false 1 M h) fun G =>
gb i false (y8 .gtr G (.int .i64 3)) fun H =>
ob (yd i (.bool true) H) fun a =>
gb a false (evFa 3 b) fun t =>
gb a false (evLd false 1 t h) fun I =>
gb a false (some g) fun n =>
gb a false (y8 .sub n (.int .i64 1)) fun C =>
gb a false (yw 9 I C) fun B =>
gb a false (evFa 0 B) fun o =>
gb a false (evLd false 1 o h) fun J =>
gh a false (y9 E (yb E) 0 none true 25 [J] h) h fun p h11 =>
gb a false (evUn .not p) fun A =>
ob (yd a (.bool true) A) fun u =>
cnd u
 ((yf h11 (.int .i64 80)))
 ((yfx b g h11))
def y1y4 (s : St) : OX := y4y (s 1) (s 3) s.h
theorem y1b4 : T0 yra [.t 2] y1y4 := sq y19g fun _ => by kernel_rfl
def y4s (a : AV) (h : Heap) : OX :=
ob (evFa 3 a) fun b =>
ob (evLd false 1 b h) fun d =>
ob (y13 1 d h) fun c =>
(y4y a c h)
def y209 (s : St) : OX := y4s (s 1) s.h
theorem y1bu : T0 yuf [.t 2] y209 := sq y1b4 fun _ => by kernel_rfl
def y4e (b : AV) (h : Heap) : OX :=
oh (newC 0 (some 0) (cellsOf b) h) fun a h12 =>
(y4s a h12)
def y1wn (s : St) : OX := y4e (s 0) s.h
theorem y19u : T0 ysp [.t 2] y1wn := sq y1bu fun _ => by kernel_rfl
@[simp] theorem y2qk : E.pure 29 = true := rfl
theorem y2hr (a : AV) : (yb E).p 29 [a] = y4e a [⟨0, .dead⟩, ⟨0, .dead⟩, ⟨0, .dead⟩] :=
  (y15 (cf := y26u) (by kernel_rfl) rfl).trans ((y19u _).trans (by kernel_rfl))
def y2g3 (h : Heap) : OX :=
(yf h (.bool true))
def y46 (s : St) : OX := y2g3 s.h
theorem y1xl : T0 y1v1 [.t 2] y46 := fun _ => by kernel_rfl
def ymr (c b a d : AV) (h : Heap) : OX :=
  W E 0 yon ⟨[(3, c), (104, b), (105, a), (106, d)], h⟩ y46 (y5 8 y46 xN) (finP [.t 2])
def ydh (s : St) : OX := ymr (s 3) (s 104) (s 105) (s 106) s.h
theorem yr9 : T1 yon y46 (y5 8 y46 xN) [.t 2] ydh := fun s => yj.trans (by kernel_rfl)
def y1g0 (c b a d : AV) (h : Heap) : OX :=
ob (y8 .add d (.int .i64 1)) fun e =>
(ymr c b a e h)
def y3x (s : St) : OX := y1g0 (s 3) (s 104) (s 105) (s 106) s.h
theorem y21u : T1 y1e2 ydh (y5 8 y46 xN) [.t 2] y3x := fun _ => by kernel_rfl
def ys6 (e g d c i j a b : AV) (h : Heap) : OX :=
  W E 0 yoz ⟨[(3, e), (15, g), (104, d), (105, c), (106, i), (112, j), (113, a), (114, b)], h⟩ y3x (y5 10 y3x (y5 9 y3x (y5 8 y46 xN))) (finP [.t 2])
def ycx (s : St) : OX := ys6 (s 3) (s 15) (s 104) (s 105) (s 106) (s 112) (s 113) (s 114) s.h
theorem yuh : T1 yoz y3x (y5 10 y3x (y5 9 y3x (y5 8 y46 xN))) [.t 2] ycx := fun s => yj.trans (by kernel_rfl)
def y20i (e g d c i j a b : AV) (h : Heap) : OX :=
ob (y8 .add b (.int .i64 1)) fun k =>
(ys6 e g d c i j a k h)
def y2il (s : St) : OX := y20i (s 3) (s 15) (s 104) (s 105) (s 106) (s 112) (s 113) (s 114) s.h
theorem y217 : T1 y1df ycx (y5 10 y3x (y5 9 y3x (y5 8 y46 xN))) [.t 2] y2il := fun _ => by kernel_rfl
def y1ks (b c v r m d i e : AV) (h : Heap) : OX :=
ob (yw 1 d e) fun y =>
ob (evLd false 1 y h) fun l =>
ob (yw 1 b c) fun x =>
ob (evLd false 1 x h) fun k =>
ob (y4w 1 true k AV.nils) fun a =>
gb a true (some b) fun j =>
gb a true (some c) fun w =>
gb a true (yw 1 j w) fun p =>
gb a true (evLd false 1 p h) fun z =>
gb a true (some l) fun u =>
gb a true (yw 1 z u) fun o =>
gb a true (evLd false 1 o h) fun n =>
gb a true (evUn .not n) fun t =>
ob (yd a t (.bool false)) fun g =>
cnd g
 ((yf h (.bool false)))
 ((y20i b c v r m d i e h))
def y2h1 (s : St) : OX := y1ks (s 3) (s 15) (s 104) (s 105) (s 106) (s 112) (s 113) (s 114) s.h
theorem y1zk : T1 y1vb ycx (y5 10 y3x (y5 9 y3x (y5 8 y46 xN))) [.t 2] y2h1 := sq y217 fun _ => by kernel_rfl
def y1ao (c j b a d k e i g : AV) (h : Heap) : OX :=
cnd g
 ((y1ks c j b a d k e i h))
 ((y1g0 c b a d h))
def y2hw (s : St) : OX := y1ao (s 3) (s 15) (s 104) (s 105) (s 106) (s 112) (s 113) (s 114) (s 115) s.h
theorem y1zb : T1 y1kj ycx (y5 10 y3x (y5 9 y3x (y5 8 y46 xN))) [.t 2] y2hw := sq y1zk fun _ => by kernel_rfl
def y18r (g i e d j k a b : AV) (h : Heap) : OX :=
ob (y8 .lss b a) fun c =>
(y1ao g i e d j k a b c h)
def y2mh (s : St) : OX := y18r (s 3) (s 15) (s 104) (s 105) (s 106) (s 112) (s 113) (s 114) s.h
theorem y24c : T1 y1fl ycx (y5 10 y3x (y5 9 y3x (y5 8 y46 xN))) [.t 2] y2mh := sq y1zb fun _ => by kernel_rfl
theorem yso (e g d c i j a b : AV) (h : Heap) : ys6 e g d c i j a b h = (y18r e g d c i j a b h) :=
  y28.trans ((y1c _ _ _ (n' := ycx) (fun s => yuh s)).trans ((y24c _).trans (by kernel_rfl)))
theorem y23s : T1 y1tc y3x (y5 9 y3x (y5 8 y46 xN)) [.t 2] ycx := fun s => yy.trans (yuh s)
def y1d1 (e i j d c k : AV) (h : Heap) : OX :=
ob (evLd true 9 j h) fun g =>
oh (y9 E (yb E) 0 none true 10 [g] h) fun a h1 =>
ob (y13 1 a h1) fun b =>
(ys6 e i d c k a b (.int .i64 0) h1)
def y2f1 (s : St) : OX := y1d1 (s 3) (s 15) (s 16) (s 104) (s 105) (s 106) s.h
theorem y1ha : T1 y15r y3x (y5 9 y3x (y5 8 y46 xN)) [.t 2] y2f1 := sq y23s fun _ => by kernel_rfl
def y1no (g b e a : AV) (h : Heap) : OX :=
ob (yw 9 b a) fun d =>
ob (evLd true 9 d h) fun i =>
oh (newC 0 (some 5) [(.int .i64 0), (.int .i64 0), (.int .i64 0), (.int .i64 0), (.int .i64 0), (.int .i64 0), (.int .i64 0), (.str []), .nils] h) fun c h2 =>
oh (evSt 9 c i h2) fun _ h3 =>
(y1d1 g a c b e a h3)
def ywr (s : St) : OX := y1no (s 3) (s 104) (s 105) (s 106) s.h
theorem y1hs : T1 y17c y3x (y5 9 y3x (y5 8 y46 xN)) [.t 2] ywr := sq y1ha fun _ => by kernel_rfl
theorem y1hr : T1 yyu y3x (y5 8 y46 xN) [.t 2] ywr := fun s => yy.trans (y1hs s)
theorem y1sh : T1 y17t ydh (y5 8 y46 xN) [.t 2] ywr := sq y21u y1hr
def yxg (c b a d e : AV) (h : Heap) : OX :=
cnd e
 ((y1no c b a d h))
 ((y2g3 h))
def y2cv (s : St) : OX := yxg (s 3) (s 104) (s 105) (s 106) (s 107) s.h
theorem y1e7 : T1 y17n ydh (y5 8 y46 xN) [.t 2] y2cv := sq y1sh fun _ => by kernel_rfl
def yyt (d c a b : AV) (h : Heap) : OX :=
ob (y8 .lss b a) fun e =>
(yxg d c a b e h)
def y2dn (s : St) : OX := yyt (s 3) (s 104) (s 105) (s 106) s.h
theorem y1hq : T1 y14h ydh (y5 8 y46 xN) [.t 2] y2dn := sq y1e7 fun _ => by kernel_rfl
theorem yqc (c b a d : AV) (h : Heap) : ymr c b a d h = (yyt c b a d h) :=
  y28.trans ((y1c _ _ _ (n' := ydh) (fun s => yr9 s)).trans ((y1hq _).trans (by kernel_rfl)))
theorem y1nj : T1 yyv y46 xN [.t 2] ydh := fun s => yy.trans (yr9 s)
def ys5 (e d : AV) (h : Heap) : OX :=
ob (evFa 3 e) fun b =>
ob (evLd false 1 b h) fun a =>
ob (y13 1 a h) fun c =>
(ymr d a c (.int .i64 0) h)
def y1t (s : St) : OX := ys5 (s 1) (s 3) s.h
theorem y1fb : T1 y14v y46 xN [.t 2] y1t := sq y1nj fun _ => by kernel_rfl
theorem y1gi : T0 y169 [.t 2] y1t := sq y1xl y1fb
def yfd (a c b : AV) (h : Heap) : OX :=
  W E 0 yk8 ⟨[(1, a), (3, c), (7, b)], h⟩ y1t (y5 2 y1t xN) (finP [.t 2])
def yz (s : St) : OX := yfd (s 1) (s 3) (s 7) s.h
theorem yme : T1 yk8 y1t (y5 2 y1t xN) [.t 2] yz := fun s => yj.trans (by kernel_rfl)
def ydb (e c b i d g a : AV) (h : Heap) : OX :=
  W E 0 yj4 ⟨[(1, e), (3, c), (7, b), (9, i), (91, d), (92, g), (93, a)], h⟩ yz (y5 6 yz (y5 3 yz (y5 2 y1t xN))) (finP [.t 2])
def y8y (s : St) : OX := ydb (s 1) (s 3) (s 7) (s 9) (s 91) (s 92) (s 93) s.h
theorem yln : T1 yj4 yz (y5 6 yz (y5 3 yz (y5 2 y1t xN))) [.t 2] y8y := fun s => yj.trans (by kernel_rfl)
def y1fd (g c b j e i a : AV) (h : Heap) : OX :=
ob (y8 .add a (.int .i64 1)) fun d =>
(ydb g c b j e i d h)
def y2et (s : St) : OX := y1fd (s 1) (s 3) (s 7) (s 9) (s 91) (s 92) (s 93) s.h
theorem y1pv : T1 yx2 y8y (y5 6 yz (y5 3 yz (y5 2 y1t xN))) [.t 2] y2et := fun _ => by kernel_rfl
def y1de (j b g d c k a : AV) (h : Heap) : OX :=
ob (yw 1 c a) fun l =>
ob (evLd false 1 l h) fun i =>
oh (y9 E (yb E) 0 none false 80 [b, i, d, g] h) fun e h4 =>
(y1fd j b e d c k a h4)
def y2co (s : St) : OX := y1de (s 1) (s 3) (s 7) (s 9) (s 91) (s 92) (s 93) s.h
theorem y1dv : T1 yzr y8y (y5 6 yz (y5 3 yz (y5 2 y1t xN))) [.t 2] y2co := sq y1pv fun _ => by kernel_rfl
def yzl (c b a i e g d j : AV) (h : Heap) : OX :=
cnd j
 ((y1de c b a i e g d h))
 ((yfd c b a h))
def y2d1 (s : St) : OX := yzl (s 1) (s 3) (s 7) (s 9) (s 91) (s 92) (s 93) (s 94) s.h
theorem y1q6 : T1 y152 y8y (y5 6 yz (y5 3 yz (y5 2 y1t xN))) [.t 2] y2d1 := sq y1dv fun _ => by kernel_rfl
def y13p (g d c i e b a : AV) (h : Heap) : OX :=
ob (y8 .lss a b) fun j =>
(yzl g d c i e b a j h)
def y2eb (s : St) : OX := y13p (s 1) (s 3) (s 7) (s 9) (s 91) (s 92) (s 93) s.h
theorem y1ep : T1 y11l y8y (y5 6 yz (y5 3 yz (y5 2 y1t xN))) [.t 2] y2eb := sq y1q6 fun _ => by kernel_rfl
theorem yn7 (e c b i d g a : AV) (h : Heap) : ydb e c b i d g a h = (y13p e c b i d g a h) :=
  y28.trans ((y1c _ _ _ (n' := y8y) (fun s => yln s)).trans ((y1ep _).trans (by kernel_rfl)))
theorem y1fr : T1 y15t yz (y5 3 yz (y5 2 y1t xN)) [.t 2] y8y := fun s => yy.trans (yln s)
def yno (b g e d j : AV) (h : Heap) : OX :=
ob (evLd true 5 b h) fun c =>
oh (y9 E (yb E) 0 none true 81 [c, d] h) fun a h5 =>
ob (y13 1 a h5) fun i =>
(ydb b g e j a i (.int .i64 0) h5)
def y2ch (s : St) : OX := yno (s 1) (s 3) (s 7) (s 8) (s 9) s.h
theorem y1th : T1 yx8 yz (y5 3 yz (y5 2 y1t xN)) [.t 2] y2ch := sq y1fr fun _ => by kernel_rfl
def yn5 (b e d a c : AV) (h : Heap) : OX :=
ob (evFa 3 b) fun m =>
ob (evLd false 1 m h) fun k =>
ob (yw 9 k a) fun j =>
ob (evLd true 9 j h) fun l =>
oh (y9 E (yb E) 0 none true 9 [l] h) fun g h6 =>
ob (y8 .geq g (.int .i64 0)) fun n =>
cnd n
 (ob (yw 1 c g) fun i =>
oh (evSt 1 i (.bool true) h6) fun _ h7 =>
(yno b e d a c h7))
 ((yno b e d a c h6))
def y6f (s : St) : OX := yn5 (s 1) (s 3) (s 7) (s 8) (s 9) s.h
theorem y1vk : T1 y16i yz (y5 3 yz (y5 2 y1t xN)) [.t 2] y6f := sq y1th fun _ => by kernel_rfl
def yfs (g d c b j e a i : AV) (h : Heap) : OX :=
  W E 0 ykk ⟨[(1, g), (3, d), (7, c), (8, b), (9, j), (66, e), (67, a), (68, i)], h⟩ y6f (y5 4 y6f (y5 3 yz (y5 2 y1t xN))) (finP [.t 2])
def y8s (s : St) : OX := yfs (s 1) (s 3) (s 7) (s 8) (s 9) (s 66) (s 67) (s 68) s.h
theorem yml : T1 ykk y6f (y5 4 y6f (y5 3 yz (y5 2 y1t xN))) [.t 2] y8s := fun s => yj.trans (by kernel_rfl)
def y1jo (i d c b k e a j : AV) (h : Heap) : OX :=
ob (y8 .add j (.int .i64 1)) fun g =>
(yfs i d c b k e a g h)
def y2d5 (s : St) : OX := y1jo (s 1) (s 3) (s 7) (s 8) (s 9) (s 66) (s 67) (s 68) s.h
theorem y1ge : T1 y14o y8s (y5 4 y6f (y5 3 yz (y5 2 y1t xN))) [.t 2] y2d5 := fun _ => by kernel_rfl
def y1vu (m a i g d b e c : AV) (h : Heap) : OX :=
ob (yw 1 b c) fun k =>
ob (evLd false 1 k h) fun j =>
oh (y9 E (yb E) 0 none false 80 [a, j, d, i] h) fun l h8 =>
(y1jo m a l g d b e c h8)
def y2f4 (s : St) : OX := y1vu (s 1) (s 3) (s 7) (s 8) (s 9) (s 66) (s 67) (s 68) s.h
theorem y1lx : T1 y0s y8s (y5 4 y6f (y5 3 yz (y5 2 y1t xN))) [.t 2] y2f4 := sq y1ge fun _ => by kernel_rfl
def y11q (d c b a e i g k j : AV) (h : Heap) : OX :=
cnd j
 ((y1vu d c b a e i g k h))
 ((yn5 d c b a e h))
def y2fv (s : St) : OX := y11q (s 1) (s 3) (s 7) (s 8) (s 9) (s 66) (s 67) (s 68) (s 69) s.h
theorem y1sp : T1 yxa y8s (y5 4 y6f (y5 3 yz (y5 2 y1t xN))) [.t 2] y2fv := sq y1lx fun _ => by kernel_rfl
def y114 (j e d c k g a b : AV) (h : Heap) : OX :=
ob (y8 .lss b a) fun i =>
(y11q j e d c k g a b i h)
def y2ed (s : St) : OX := y114 (s 1) (s 3) (s 7) (s 8) (s 9) (s 66) (s 67) (s 68) s.h
theorem y1k7 : T1 y142 y8s (y5 4 y6f (y5 3 yz (y5 2 y1t xN))) [.t 2] y2ed := sq y1sp fun _ => by kernel_rfl
theorem yms (g d c b j e a i : AV) (h : Heap) : yfs g d c b j e a i h = (y114 g d c b j e a i h) :=
  y28.trans ((y1c _ _ _ (n' := y8s) (fun s => yml s)).trans ((y1k7 _).trans (by kernel_rfl)))
theorem y1oc : T1 yyo y6f (y5 3 yz (y5 2 y1t xN)) [.t 2] y8s := fun s => yy.trans (yml s)
def y1qt (c g e a j : AV) (h : Heap) : OX :=
ob (evLd true 5 c h) fun i =>
oh (y9 E (yb E) 0 none true 79 [i, a] h) fun b h9 =>
ob (y13 1 b h9) fun d =>
(yfs c g e a j b d (.int .i64 0) h9)
def y1gm (s : St) : OX := y1qt (s 1) (s 3) (s 7) (s 8) (s 9) s.h
theorem y1h0 : T1 y13m y6f (y5 3 yz (y5 2 y1t xN)) [.t 2] y1gm := sq y1oc fun _ => by kernel_rfl
theorem y1un : T1 y13b yz (y5 3 yz (y5 2 y1t xN)) [.t 2] y1gm := sq y1vk y1h0
def y175 (g b e a : AV) (h : Heap) : OX :=
ob (yw 1 b a) fun d =>
ob (evLd false 1 d h) fun i =>
oh (y9 E (yb E) 0 (some 4) false 78 [i] h) fun c h10 =>
(y1qt g b e a c h10)
def y2a8 (s : St) : OX := y175 (s 1) (s 3) (s 7) (s 8) s.h
theorem y1ct : T1 y165 yz (y5 3 yz (y5 2 y1t xN)) [.t 2] y2a8 := sq y1un fun _ => by kernel_rfl
def y1r2 (i c a b : AV) (h : Heap) : OX :=
ob (y13 1 a h) fun g =>
ob (y8 .sub g (.int .i64 1)) fun d =>
ob (yas 1 a none (some d)) fun e =>
(y175 i c e b h)
def y2e2 (s : St) : OX := y1r2 (s 1) (s 3) (s 7) (s 8) s.h
theorem y1is : T1 y05 yz (y5 3 yz (y5 2 y1t xN)) [.t 2] y2e2 := sq y1ct fun _ => by kernel_rfl
def y1rl (i d a : AV) (h : Heap) : OX :=
ob (y13 1 a h) fun e =>
ob (y8 .sub e (.int .i64 1)) fun b =>
ob (yw 1 a b) fun g =>
ob (evLd false 1 g h) fun c =>
(y1r2 i d a c h)
def y1k9 (s : St) : OX := y1rl (s 1) (s 3) (s 7) s.h
theorem y1m2 : T1 y18a yz (y5 3 yz (y5 2 y1t xN)) [.t 2] y1k9 := sq y1is fun _ => by kernel_rfl
theorem y1oj : T1 y119 yz (y5 2 y1t xN) [.t 2] y1k9 := fun s => yy.trans (y1m2 s)
def ysu (c b a : AV) (h : Heap) : OX :=
ob (y13 1 a h) fun d =>
ob (y8 .gtr d (.int .i64 0)) fun e =>
cnd e
 ((y1rl c b a h))
 ((ys5 c b h))
def y2fw (s : St) : OX := ysu (s 1) (s 3) (s 7) s.h
theorem y1ff : T1 y136 yz (y5 2 y1t xN) [.t 2] y2fw := sq y1oj fun _ => by kernel_rfl
theorem y1a0 (a c b : AV) (h : Heap) : yfd a c b h = (ysu a c b h) :=
  y28.trans ((y1c _ _ _ (n' := yz) (fun s => yme s)).trans ((y1ff _).trans (by kernel_rfl)))
theorem y1ds : T1 yxk y1t xN [.t 2] yz := fun s => yy.trans (yme s)
theorem y1fp : T0 y12x [.t 2] yz := sq y1gi y1ds
def y1vq (d a e b : AV) (h : Heap) : OX :=
ob (yw 1 a (.int .i64 0)) fun c =>
oh (evSt 1 c e h) fun _ h11 =>
(yfd d a b h11)
def y2ct (s : St) : OX := y1vq (s 1) (s 3) (s 4) (s 7) s.h
theorem y1l8 : T0 y117 [.t 2] y2ct := sq y1fp fun _ => by kernel_rfl
def yyb (a d c : AV) (h : Heap) : OX :=
oh (y10 0 (some 3) 1 1 [(.int .i64 0)] [(0, (.int .i64 0))] h) fun b h12 =>
(y1vq a d c b h12)
def y6j (s : St) : OX := yyb (s 1) (s 3) (s 4) s.h
theorem y1hm : T0 y16c [.t 2] y6j := sq y1l8 fun _ => by kernel_rfl
def yjm (d c e b a g : AV) (h : Heap) : OX :=
  W E 0 yil ⟨[(1, d), (3, c), (4, e), (31, b), (32, a), (33, g)], h⟩ y6j (y5 0 y6j xN) (finP [.t 2])
def y8l (s : St) : OX := yjm (s 1) (s 3) (s 4) (s 31) (s 32) (s 33) s.h
theorem ynl : T1 yil y6j (y5 0 y6j xN) [.t 2] y8l := fun s => yj.trans (by kernel_rfl)
def y1e5 (e d g b a i : AV) (h : Heap) : OX :=
ob (y8 .add i (.int .i64 1)) fun c =>
(yjm e d g b a c h)
def y28w (s : St) : OX := y1e5 (s 1) (s 3) (s 4) (s 31) (s 32) (s 33) s.h
theorem y1r9 : T1 y18h y8l (y5 0 y6j xN) [.t 2] y28w := fun _ => by kernel_rfl
def y1s5 (k g b a d c : AV) (h : Heap) : OX :=
ob (yw 1 a c) fun j =>
ob (evLd false 1 j h) fun e =>
ob (yw 1 b e) fun i =>
oh (evSt 1 i (.bool true) h) fun _ h13 =>
(y1e5 k g b a d c h13)
def y2fd (s : St) : OX := y1s5 (s 1) (s 3) (s 4) (s 31) (s 32) (s 33) s.h
theorem y1ku : T1 yzx y8l (y5 0 y6j xN) [.t 2] y2fd := sq y1r9 fun _ => by kernel_rfl
def yxy (b a c g e i d : AV) (h : Heap) : OX :=
cnd d
 ((y1s5 b a c g e i h))
 ((yyb b a c h))
def y296 (s : St) : OX := yxy (s 1) (s 3) (s 4) (s 31) (s 32) (s 33) (s 34) s.h
theorem y1e8 : T1 y13o y8l (y5 0 y6j xN) [.t 2] y296 := sq y1ku fun _ => by kernel_rfl
def y17a (g e i d a b : AV) (h : Heap) : OX :=
ob (y8 .lss b a) fun c =>
(yxy g e i d a b c h)
def y27t (s : St) : OX := y17a (s 1) (s 3) (s 4) (s 31) (s 32) (s 33) s.h
theorem y1hg : T1 yz8 y8l (y5 0 y6j xN) [.t 2] y27t := sq y1e8 fun _ => by kernel_rfl
theorem ynt (d c e b a g : AV) (h : Heap) : yjm d c e b a g h = (y17a d c e b a g h) :=
  y28.trans ((y1c _ _ _ (n' := y8l) (fun s => ynl s)).trans ((y1hg _).trans (by kernel_rfl)))
theorem y1mc : T1 y17i y6j xN [.t 2] y8l := fun s => yy.trans (ynl s)
def y1ma (b e g : AV) (h : Heap) : OX :=
ob (evFa 1 b) fun d =>
ob (evLd false 1 d h) fun a =>
ob (y13 1 a h) fun c =>
(yjm b e g a c (.int .i64 0) h)
def y1pp (s : St) : OX := y1ma (s 1) (s 3) (s 4) s.h
theorem y1oi : T1 y0p y6j xN [.t 2] y1pp := sq y1mc fun _ => by kernel_rfl
theorem y1q8 : T0 y14p [.t 2] y1pp := sq y1hm y1oi
def y1f0 (b d : AV) (h : Heap) : OX :=
ob (evFa 0 b) fun c =>
ob (evLd false 1 c h) fun e =>
ob (y13 1 e h) fun a =>
oh (mkSC 0 (some 2) 1 1 [(.bool false)] a a h) fun g h14 =>
(y1ma b d g h14)
def y2ep (s : St) : OX := y1f0 (s 1) (s 3) s.h
theorem y1qi : T0 y14n [.t 2] y2ep := sq y1q8 fun _ => by kernel_rfl
def y1nw (b : AV) (h : Heap) : OX :=
ob (evFa 3 b) fun e =>
ob (evLd false 1 e h) fun c =>
ob (y13 1 c h) fun a =>
oh (mkSC 0 (some 1) 1 24 [.nils] a a h) fun d h15 =>
(y1f0 b d h15)
def y2ao (s : St) : OX := y1nw (s 1) s.h
theorem y1oz : T0 yxw [.t 2] y2ao := sq y1qi fun _ => by kernel_rfl
def yzd (a : AV) (h : Heap) : OX :=
ob (evLd true 5 a h) fun c =>
oh (y9 E (yb E) 0 none true 8 [c] h) fun b h16 =>
ob (y8 .neq b (.int .i64 0)) fun d =>
cnd d
 ((yf h16 (.bool false)))
 ((y1nw a h16))
def y2ai (s : St) : OX := yzd (s 1) s.h
theorem y1o2 : T0 y129 [.t 2] y2ai := sq y1oz fun _ => by kernel_rfl
def y0u (b : AV) (h : Heap) : OX :=
oh (newC 0 (some 0) (cellsOf b) h) fun a h17 =>
(yzd a h17)
def y2ag (s : St) : OX := y0u (s 0) s.h
theorem y1f7 : T0 y14t [.t 2] y2ag := sq y1o2 fun _ => by kernel_rfl
@[simp] theorem y2pn : E.pure 77 = true := rfl
theorem y2pb (a : AV) : (yb E).p 77 [a] = y0u a [⟨0, .dead⟩, ⟨0, .dead⟩, ⟨0, .dead⟩, ⟨0, .dead⟩, ⟨0, .dead⟩, ⟨0, .dead⟩] :=
  (y15 (cf := y2lu) (by kernel_rfl) rfl).trans ((y1f7 _).trans (by kernel_rfl))
def yd3 (h : Heap) : OX :=
(yf h AV.nils)
def y39 (s : St) : OX := yd3 s.h
theorem y23n : T0 y1e6 [.t 2] y39 := fun _ => by kernel_rfl
def ye5 (a : AV) (h : Heap) : OX :=
ob (evFa 2 a) fun e =>
ob (evLd false 1 e h) fun d =>
ob (evFa 3 a) fun b =>
ob (evLd false 1 b h) fun c =>
oh (y10 0 (some 6) 1 2 [(.int .i64 0)] [(0, d), (1, c)] h) fun g h1 =>
(yf h1 g)
def y2hi (s : St) : OX := ye5 (s 1) s.h
theorem y22r : T1 y1i1 y39 (y5 0 y39 xN) [.t 2] y2hi := fun _ => by kernel_rfl
def yeh (a : AV) (h : Heap) : OX :=
ob (evFa 3 a) fun g =>
ob (evLd false 1 g h) fun c =>
ob (y8 .lss c (.int .i64 0)) fun e =>
cnd e
 (ob (evFa 2 a) fun b =>
ob (evLd false 1 b h) fun i =>
oh (y10 0 (some 5) 1 1 [(.int .i64 0)] [(0, i)] h) fun d h2 =>
(yf h2 d))
 ((ye5 a h))
def y2lp (s : St) : OX := yeh (s 1) s.h
theorem y1yb : T1 y1li y39 (y5 0 y39 xN) [.t 2] y2lp := sq y22r fun _ => by kernel_rfl
def yep (a k c : AV) (h : Heap) : OX :=
cnd c
 ((yeh a h))
 (ob (y8 .eql k (.int .i64 30)) fun g =>
cnd g
 (ob (evFa 2 a) fun i =>
ob (evLd false 1 i h) fun d =>
ob (y8 .geq d (.int .i64 0)) fun b =>
cnd b
 (ob (evFa 2 a) fun l =>
ob (evLd false 1 l h) fun j =>
oh (y10 0 (some 7) 1 1 [(.int .i64 0)] [(0, j)] h) fun e h3 =>
(yf h3 e))
 ((yd3 h)))
 ((yd3 h)))
def y2ke (s : St) : OX := yep (s 1) (s 4) (s 50) s.h
theorem y23z : T1 y1so y39 (y5 0 y39 xN) [.t 2] y2ke := fun s => (y1b (y1yb s) rfl).trans (by kernel_rfl)
def ydt (b a : AV) (h : Heap) : OX :=
ob (y8 .eql a (.int .i64 29)) fun c =>
(yep b a c h)
def y2l3 (s : St) : OX := ydt (s 1) (s 4) s.h
theorem y1yv : T1 y1dr y39 (y5 0 y39 xN) [.t 2] y2l3 := sq y23z fun _ => by kernel_rfl
def yav (a g c : AV) (h : Heap) : OX :=
cnd c
 (ob (evFa 8 a) fun e =>
ob (evLd false 1 e h) fun d =>
oh (y9 E (yb E) 0 (some 4) false 39 [d] h) fun b h4 =>
(yf h4 b))
 ((ydt a g h))
def y2j5 (s : St) : OX := yav (s 1) (s 4) (s 42) s.h
theorem y22i : T1 y1ej y39 (y5 0 y39 xN) [.t 2] y2j5 := fun s => (y1b rfl (y1yv s)).trans (by kernel_rfl)
def yeu (b a : AV) (h : Heap) : OX :=
ob (y8 .eql a (.int .i64 23)) fun d =>
cnd d
 ((yav b a d h))
 (ob (y8 .eql a (.int .i64 24)) fun c =>
cnd c
 ((yav b a c h))
 (ob (y8 .eql a (.int .i64 25)) fun e =>
cnd e
 ((yav b a e h))
 (ob (y8 .eql a (.int .i64 26)) fun g =>
(yav b a g h))))
def y2kp (s : St) : OX := yeu (s 1) (s 4) s.h
theorem y1zq : T1 y1gp y39 (y5 0 y39 xN) [.t 2] y2kp := sq y22i fun _ => by kernel_rfl
def ydl (a i j : AV) (h : Heap) : OX :=
cnd j
 (ob (evFa 2 a) fun g =>
ob (evLd false 1 g h) fun c =>
ob (evFa 3 a) fun l =>
ob (evLd false 1 l h) fun k =>
ob (evFa 4 a) fun e =>
ob (evLd false 1 e h) fun d =>
oh (y10 0 (some 3) 1 3 [(.int .i64 0)] [(0, c), (1, k), (2, d)] h) fun b h5 =>
(yf h5 b))
 ((yeu a i h))
def y2ka (s : St) : OX := ydl (s 1) (s 4) (s 33) s.h
theorem y21i : T1 y1sj y39 (y5 0 y39 xN) [.t 2] y2ka := fun s => (y1b rfl (y1zq s)).trans (by kernel_rfl)
def yes (b a : AV) (h : Heap) : OX :=
ob (y8 .eql a (.int .i64 14)) fun c =>
(ydl b a c h)
def y2ja (s : St) : OX := yes (s 1) (s 4) s.h
theorem y22w : T1 y1u5 y39 (y5 0 y39 xN) [.t 2] y2ja := sq y21i fun _ => by kernel_rfl
def y4t (a j b : AV) (h : Heap) : OX :=
cnd b
 (ob (evFa 2 a) fun g =>
ob (evLd false 1 g h) fun i =>
ob (evFa 3 a) fun e =>
ob (evLd false 1 e h) fun d =>
oh (y10 0 (some 2) 1 2 [(.int .i64 0)] [(0, i), (1, d)] h) fun c h6 =>
(yf h6 c))
 ((yes a j h))
def y29d (s : St) : OX := y4t (s 1) (s 4) (s 21) s.h
theorem y1o1 : T1 y130 y39 (y5 0 y39 xN) [.t 2] y29d := fun s => (y1b rfl (y22w s)).trans (by kernel_rfl)
def y74 (b a : AV) (h : Heap) : OX :=
ob (y8 .eql a (.int .i64 5)) fun g =>
cnd g
 ((y4t b a g h))
 (ob (y8 .eql a (.int .i64 9)) fun d =>
cnd d
 ((y4t b a d h))
 (ob (y8 .eql a (.int .i64 11)) fun i =>
cnd i
 ((y4t b a i h))
 (ob (y8 .eql a (.int .i64 13)) fun e =>
cnd e
 ((y4t b a e h))
 (ob (y8 .eql a (.int .i64 17)) fun c =>
cnd c
 ((y4t b a c h))
 (ob (y8 .eql a (.int .i64 28)) fun j =>
(y4t b a j h))))))
def y2au (s : St) : OX := y74 (s 1) (s 4) s.h
theorem y1ng : T1 yya y39 (y5 0 y39 xN) [.t 2] y2au := sq y1o1 fun _ => by kernel_rfl
def y3j (a e g : AV) (h : Heap) : OX :=
cnd g
 (ob (evFa 2 a) fun d =>
ob (evLd false 1 d h) fun c =>
oh (y10 0 (some 1) 1 1 [(.int .i64 0)] [(0, c)] h) fun b h7 =>
(yf h7 b))
 ((y74 a e h))
def y27v (s : St) : OX := y3j (s 1) (s 4) (s 5) s.h
theorem y1t4 : T1 y16m y39 (y5 0 y39 xN) [.t 2] y27v := fun s => (y1b rfl (y1ng s)).trans (by kernel_rfl)
def y6z (b a : AV) (h : Heap) : OX :=
ob (y8 .eql a (.int .i64 4)) fun d =>
cnd d
 ((y3j b a d h))
 (ob (y8 .eql a (.int .i64 6)) fun i =>
cnd i
 ((y3j b a i h))
 (ob (y8 .eql a (.int .i64 7)) fun e =>
cnd e
 ((y3j b a e h))
 (ob (y8 .eql a (.int .i64 8)) fun o =>
cnd o
 ((y3j b a o h))
 (ob (y8 .eql a (.int .i64 10)) fun g =>
cnd g
 ((y3j b a g h))
 (ob (y8 .eql a (.int .i64 12)) fun c =>
cnd c
 ((y3j b a c h))
 (ob (y8 .eql a (.int .i64 15)) fun m =>
cnd m
 ((y3j b a m h))
 (ob (y8 .eql a (.int .i64 16)) fun j =>
cnd j
 ((y3j b a j h))
 (ob (y8 .eql a (.int .i64 19)) fun n =>
cnd n
 ((y3j b a n h))
 (ob (y8 .eql a (.int .i64 21)) fun k =>
cnd k
 ((y3j b a k h))
 (ob (y8 .eql a (.int .i64 22)) fun l =>
cnd l
 ((y3j b a l h))
 (ob (y8 .eql a (.int .i64 31)) fun p =>
(y3j b a p h))))))))))))
def y1qu (s : St) : OX := y6z (s 1) (s 4) s.h
theorem y1uw : T1 yx3 y39 (y5 0 y39 xN) [.t 2] y1qu := sq y1t4 fun _ => by kernel_rfl
theorem y1t6 : T1 y150 y39 xN [.t 2] y1qu := fun s => yy.trans (y1uw s)
def y6v (a : AV) (h : Heap) : OX :=
ob (evFa 0 a) fun c =>
ob (evLd false 1 c h) fun b =>
(y6z a b h)
def y1o9 (s : St) : OX := y6v (s 1) s.h
theorem y1he : T1 y160 y39 xN [.t 2] y1o9 := sq y1t6 fun _ => by kernel_rfl
theorem y1gf : T0 y17f [.t 2] y1o9 := sq y23n y1he
def y75 (b : AV) (h : Heap) : OX :=
oh (newC 0 (some 0) (cellsOf b) h) fun a h8 =>
(y6v a h8)
def y2fj (s : St) : OX := y75 (s 0) s.h
theorem y1mm : T0 y11r [.t 2] y2fj := sq y1gf fun _ => by kernel_rfl
@[simp] theorem y2qa : E.pure 10 = true := rfl
theorem yvz (a : AV) : (yb E).p 10 [a] = y75 a [⟨0, .dead⟩, ⟨0, .dead⟩, ⟨0, .dead⟩, ⟨0, .dead⟩, ⟨0, .dead⟩, ⟨0, .dead⟩, ⟨0, .dead⟩, ⟨0, .dead⟩] :=
  (y15 (cf := y2hz) (by kernel_rfl) rfl).trans ((y1mm _).trans (by kernel_rfl))
def y1l7 (h : Heap) : OX :=
(yf h (.int .i64 (-1)))
def y2h0 (s : St) : OX := y1l7 s.h
theorem y21c : T0 y1jg [.t 2] y2h0 := fun _ => by kernel_rfl
def y1jr (a : AV) (h : Heap) : OX :=
ob (evLd true 9 a h) fun d =>
oh (y9 E (yb E) 0 none true 17 [d] h) fun b h1 =>
cnd b
 (ob (evFa 1 a) fun e =>
ob (evLd false 1 e h1) fun c =>
(yf h1 c))
 ((y1l7 h1))
def yif (s : St) : OX := y1jr (s 1) s.h
theorem y1x5 : T0 y1vd [.t 2] yif := sq y21c fun _ => by kernel_rfl
def ya9 (a d : AV) (h : Heap) : OX :=
cnd d
 (ob (evFa 1 a) fun b =>
ob (evLd false 1 b h) fun c =>
(yf h c))
 ((y1jr a h))
def y2k6 (s : St) : OX := ya9 (s 1) (s 5) s.h
theorem y218 : T1 y1mk yif (y5 0 yif xN) [.t 2] y2k6 := fun _ => by kernel_rfl
def y1v5 (a b : AV) (h : Heap) : OX :=
ob (y8 .eql b (.int .i64 1)) fun d =>
cnd d
 ((ya9 a d h))
 (ob (y8 .eql b (.int .i64 2)) fun i =>
cnd i
 ((ya9 a i h))
 (ob (y8 .eql b (.int .i64 3)) fun e =>
cnd e
 ((ya9 a e h))
 (ob (y8 .eql b (.int .i64 4)) fun r =>
cnd r
 ((ya9 a r h))
 (ob (y8 .eql b (.int .i64 5)) fun g =>
cnd g
 ((ya9 a g h))
 (ob (y8 .eql b (.int .i64 6)) fun c =>
cnd c
 ((ya9 a c h))
 (ob (y8 .eql b (.int .i64 13)) fun n =>
cnd n
 ((ya9 a n h))
 (ob (y8 .eql b (.int .i64 15)) fun j =>
cnd j
 ((ya9 a j h))
 (ob (y8 .eql b (.int .i64 16)) fun p =>
cnd p
 ((ya9 a p h))
 (ob (y8 .eql b (.int .i64 18)) fun k =>
cnd k
 ((ya9 a k h))
 (ob (y8 .eql b (.int .i64 20)) fun l =>
cnd l
 ((ya9 a l h))
 (ob (y8 .eql b (.int .i64 21)) fun m =>
cnd m
 ((ya9 a m h))
 (ob (y8 .eql b (.int .i64 22)) fun o =>
cnd o
 ((ya9 a o h))
 (ob (y8 .eql b (.int .i64 32)) fun t =>
(ya9 a t h))))))))))))))
def y265 (s : St) : OX := y1v5 (s 1) (s 4) s.h
theorem y1xb : T1 y1hc yif (y5 0 yif xN) [.t 2] y265 := sq y218 fun _ => by kernel_rfl
theorem y21a : T1 y1ih yif xN [.t 2] y265 := fun s => yy.trans (y1xb s)
def y1nv (a : AV) (h : Heap) : OX :=
ob (evFa 0 a) fun c =>
ob (evLd false 1 c h) fun b =>
(y1v5 a b h)
def y26j (s : St) : OX := y1nv (s 1) s.h
theorem y24t : T1 y1v7 yif xN [.t 2] y26j := sq y21a fun _ => by kernel_rfl
theorem y249 : T0 y1hu [.t 2] y26j := sq y1x5 y24t
def y1uk (b : AV) (h : Heap) : OX :=
oh (newC 0 (some 0) (cellsOf b) h) fun a h2 =>
(y1nv a h2)
def y2j6 (s : St) : OX := y1uk (s 0) s.h
theorem y22c : T0 y1ry [.t 2] y2j6 := sq y249 fun _ => by kernel_rfl
@[simp] theorem y2rk : E.pure 9 = true := rfl
theorem y2oq (a : AV) : (yb E).p 9 [a] = y1uk a [⟨0, .dead⟩] :=
  (y15 (cf := y2m4) (by kernel_rfl) rfl).trans ((y22c _).trans (by kernel_rfl))
def y15c (c : AV) (h : Heap) : OX :=
oh (y10 0 (some 0) 1 0 [(.int .i64 0)] [] h) fun a h1 =>
oh (y41 0 (some 1) 1 8 a c h1) fun b h2 =>
(yf h2 b)
def y2aj (s : St) : OX := y15c (s 0) s.h
theorem y1q7 : T0 y17s [.t 2] y2aj := fun _ => by kernel_rfl
def y0n (a : AV) (h : Heap) : OX :=
ob (y4w 1 false a AV.nils) fun b =>
cnd b
 ((yf h AV.nils))
 ((y15c a h))
def y2dr (s : St) : OX := y0n (s 0) s.h
theorem y1t1 : T0 y15f [.t 2] y2dr := sq y1q7 fun _ => by kernel_rfl
def y12i (a : AV) (h : Heap) : OX :=
(y0n a h)
def y2ea (s : St) : OX := y12i (s 0) s.h
theorem y1vn : T0 y179 [.t 2] y2ea := sq y1t1 fun _ => by kernel_rfl
@[simp] theorem y2ps : E.pure 39 = true := rfl
theorem y2h5 (a : AV) : (yb E).p 39 [a] = y12i a [⟨0, .dead⟩, ⟨0, .dead⟩] :=
  (y15 (cf := y27d) (by kernel_rfl) rfl).trans ((y1vn _).trans (by kernel_rfl))
def yz1 (c : AV) (h : Heap) : OX :=
oh (y10 0 (some 0) 9 0 [(.int .i64 0), (.int .i64 0), (.int .i64 0), (.int .i64 0), (.int .i64 0), (.int .i64 0), (.int .i64 0), (.str []), .nils] [] h) fun a h1 =>
oh (y41 0 (some 1) 9 96 a c h1) fun b h2 =>
(yf h2 b)
def y27y (s : St) : OX := yz1 (s 0) s.h
theorem y1w2 : T0 y12c [.t 2] y27y := fun _ => by kernel_rfl
def y16s (a : AV) (h : Heap) : OX :=
ob (y4w 1 false a AV.nils) fun b =>
cnd b
 ((yf h AV.nils))
 ((yz1 a h))
def y2g0 (s : St) : OX := y16s (s 0) s.h
theorem y1ts : T0 yyy [.t 2] y2g0 := sq y1w2 fun _ => by kernel_rfl
def yxc (a : AV) (h : Heap) : OX :=
(y16s a h)
def y2df (s : St) : OX := yxc (s 0) s.h
theorem y1kp : T0 y14j [.t 2] y2df := sq y1ts fun _ => by kernel_rfl
@[simp] theorem y2pj : E.pure 40 = true := rfl
theorem y2l8 (a : AV) : (yb E).p 40 [a] = yxc a [⟨0, .dead⟩, ⟨0, .dead⟩] :=
  (y15 (cf := y25y) (by kernel_rfl) rfl).trans ((y1kp _).trans (by kernel_rfl))
def yzt (c : AV) (h : Heap) : OX :=
oh (y10 0 (some 0) 4 0 [(.int .i64 0), (.int .i64 0), (.int .i64 0), (.str [])] [] h) fun a h1 =>
oh (y41 0 (some 1) 4 40 a c h1) fun b h2 =>
(yf h2 b)
def y2fr (s : St) : OX := yzt (s 0) s.h
theorem y1id : T0 yyc [.t 2] y2fr := fun _ => by kernel_rfl
def y16y (a : AV) (h : Heap) : OX :=
ob (y4w 1 false a AV.nils) fun b =>
cnd b
 ((yf h AV.nils))
 ((yzt a h))
def y2e5 (s : St) : OX := y16y (s 0) s.h
theorem y1sq : T0 yxp [.t 2] y2e5 := sq y1id fun _ => by kernel_rfl
def y16q (a : AV) (h : Heap) : OX :=
(y16y a h)
def y2fq (s : St) : OX := y16q (s 0) s.h
theorem y1m8 : T0 y15d [.t 2] y2fq := sq y1sq fun _ => by kernel_rfl
@[simp] theorem y2qz : E.pure 41 = true := rfl
theorem y2kr (a : AV) : (yb E).p 41 [a] = y16q a [⟨0, .dead⟩, ⟨0, .dead⟩] :=
  (y15 (cf := y273) (by kernel_rfl) rfl).trans ((y1m8 _).trans (by kernel_rfl))
def yjv (h : Heap) : OX :=
(yf h (.bool true))
def y77 (s : St) : OX := yjv s.h
theorem y1qj : T0 y15j [.t 4] y77 := fun _ => by kernel_rfl
def yfu (b a c : AV) (h : Heap) : OX :=
  W E 0 yi6 ⟨[(0, b), (1, a), (5, c)], h⟩ y77 (y5 0 y77 xN) (finP [.t 4])
def ybz (s : St) : OX := yfu (s 0) (s 1) (s 5) s.h
theorem ynn : T1 yi6 y77 (y5 0 y77 xN) [.t 4] ybz := fun s => yj.trans (by kernel_rfl)
def yih (b a c : AV) (h : Heap) : OX :=
ob (y8 .add c (.int .i64 1)) fun d =>
(yfu b a d h)
def y28s (s : St) : OX := yih (s 0) (s 1) (s 5) s.h
theorem y1u7 : T1 y0d ybz (y5 0 y77 xN) [.t 4] y28s := fun _ => by kernel_rfl
def yhq (b c a : AV) (h : Heap) : OX :=
ob (yw 1 b a) fun j =>
ob (evLd false 1 j h) fun d =>
ob (yw 1 c a) fun e =>
ob (evLd false 1 e h) fun i =>
ob (y8 .neq d i) fun g =>
cnd g
 ((yf h (.bool false)))
 ((yih b c a h))
def y2cz (s : St) : OX := yhq (s 0) (s 1) (s 5) s.h
theorem y1i4 : T1 y17p ybz (y5 0 y77 xN) [.t 4] y2cz := sq y1u7 fun _ => by kernel_rfl
def yhw (a d b : AV) (h : Heap) : OX :=
ob (y13 1 a h) fun c =>
ob (y8 .lss b c) fun e =>
cnd e
 ((yhq a d b h))
 ((yjv h))
def y2fn (s : St) : OX := yhw (s 0) (s 1) (s 5) s.h
theorem y1jv : T1 y13f ybz (y5 0 y77 xN) [.t 4] y2fn := sq y1i4 fun _ => by kernel_rfl
theorem ylr (b a c : AV) (h : Heap) : yfu b a c h = (yhw b a c h) :=
  y28.trans ((y1c _ _ _ (n' := ybz) (fun s => ynn s)).trans ((y1jv _).trans (by kernel_rfl)))
theorem y1uz : T1 yzn y77 xN [.t 4] ybz := fun s => yy.trans (ynn s)
def yjd (b a : AV) (h : Heap) : OX :=
(yfu b a (.int .i64 0) h)
def y1px (s : St) : OX := yjd (s 0) (s 1) s.h
theorem y1nl : T1 y166 y77 xN [.t 4] y1px := sq y1uz fun _ => by kernel_rfl
theorem y1si : T0 yyg [.t 4] y1px := sq y1qj y1nl
def yl0 (a b : AV) (h : Heap) : OX :=
ob (y13 1 a h) fun d =>
ob (y13 1 b h) fun e =>
ob (y8 .neq d e) fun c =>
cnd c
 ((yf h (.bool false)))
 ((yjd a b h))
def y2aa (s : St) : OX := yl0 (s 0) (s 1) s.h
theorem y1qr : T0 y141 [.t 4] y2aa := sq y1si fun _ => by kernel_rfl
def ycw (b a : AV) (h : Heap) : OX :=
(yl0 b a h)
def y1y9 (s : St) : OX := ycw (s 0) (s 1) s.h
theorem y1c8 : T0 yqb [.t 4] y1y9 := sq y1qr fun _ => by kernel_rfl
@[simp] theorem y2r3 : E.pure 11 = true := rfl
theorem y2k7 (b a : AV) : (yb E).p 11 [b, a] = ycw b a [] :=
  (y15 (cf := y26b) (by kernel_rfl) rfl).trans ((y1c8 _).trans (by kernel_rfl))
def ybc (a2 r : AV) (h : Heap) : OX :=
oh (newC 0 (some 0) (cellsOf a2) h) fun b h1 =>
oh (newC 0 (some 1) (cellsOf r) h1) fun a h2 =>
ob (evFa 0 b) fun I =>
ob (evLd false 1 I h2) fun n =>
ob (evFa 0 a) fun t =>
ob (evLd false 1 t h2) fun b0 =>
ob (y8 .eql n b0) fun j =>
gb j true (evFa 1 b) fun Z =>
gb j true (evLd false 1 Z h2) fun U =>
gb j true (evFa 1 a) fun O =>
gb j true (evLd false 1 O h2) fun y =>
gb j true (y8 .eql U y) fun a4 =>
ob (yd j a4 (.bool false)) fun i =>
gb i true (evFa 2 b) fun H =>
gb i true (evLd false 1 H h2) fun X =>
gb i true (evFa 2 a) fun K =>
gb i true (evLd false 1 K h2) fun o =>
gb i true (y8 .eql X o) fun a9 =>
ob (yd i a9 (.bool false)) fun d =>
gb d true (evFa 3 b) fun F =>
gb d true (evLd false 1 F h2) fun L =>
gb d true (evFa 3 a) fun P =>
gb d true (evLd false 1 P h2) fun V =>
gb d true (y8 .eql L V) fun b1 =>
ob (yd d b1 (.bool false)) fun c =>
gb c true (evFa 4 b) fun z =>
gb c true (evLd false 1 z h2) fun Y =>
gb c true (evFa 4 a) fun M =>
gb c true (evLd false 1 M h2) fun D =>
gb c true (y8 .eql Y D) fun u =>
ob (yd c u (.bool false)) fun l =>
gb l true (evFa 5 b) fun a5 =>
gb l true (evLd false 1 a5 h2) fun B =>
gb l true (evFa 5 a) fun m =>
gb l true (evLd false 1 m h2) fun A =>
gb l true (y8 .eql B A) fun a6 =>
ob (yd l a6 (.bool false)) fun e =>
gb e true (evFa 6 b) fun R =>
gb e true (evLd false 1 R h2) fun v =>
gb e true (evFa 6 a) fun a7 =>
gb e true (evLd false 1 a7 h2) fun x =>
gb e true (y8 .eql v x) fun Q =>
ob (yd e Q (.bool false)) fun g =>
gb g true (evFa 7 b) fun a3 =>
gb g true (evLd false 1 a3 h2) fun a8 =>
gb g true (evFa 7 a) fun a0 =>
gb g true (evLd false 1 a0 h2) fun w =>
gb g true (y8 .eql a8 w) fun C =>
ob (yd g C (.bool false)) fun k =>
gb k true (evFa 8 b) fun a1 =>
gb k true (evLd false 1 a1 h2) fun p =>
gb k true (evFa 8 a) fun J =>
gb k true (evLd false 1 J h2) fun N =>
gh k true (y9 E (yb E) 0 none true 11 [p, N] h2) h2 fun S h3 =>
ob (yd k S (.bool false)) fun G =>
(yf h3 G)
def y297 (s : St) : OX := ybc (s 0) (s 1) s.h
theorem y1h9 : T0 yy0 [.t 4] y297 := fun _ => by kernel_rfl
@[simp] theorem y2qd : E.pure 28 = true := rfl
theorem y2h3 (b a : AV) : (yb E).p 28 [b, a] = ybc b a [⟨0, .dead⟩, ⟨0, .dead⟩] :=
  (y15 (cf := y260) (by kernel_rfl) rfl).trans ((y1h9 _).trans (by kernel_rfl))
def y2a9 (d : AV) (h : Heap) : OX :=
oh (newC 0 (some 0) (cellsOf d) h) fun c h1 =>
ob (evFa 0 c) fun i =>
ob (evLd false 1 i h1) fun m =>
ob (y8 .eql m (.int .i64 27)) fun b =>
gb b false (evFa 0 c) fun g =>
gb b false (evLd false 1 g h1) fun e =>
gb b false (y8 .eql e (.int .i64 30)) fun o =>
ob (yd b (.bool true) o) fun a =>
gb a false (evFa 0 c) fun l =>
gb a false (evLd false 1 l h1) fun j =>
gb a false (y8 .eql j (.int .i64 31)) fun n =>
ob (yd a (.bool true) n) fun k =>
(yf h1 k)
def y2ko (s : St) : OX := y2a9 (s 0) s.h
theorem y1yl : T0 y1ez [.t 2] y2ko := fun _ => by kernel_rfl
@[simp] theorem y2pk : E.pure 24 = true := rfl
theorem y2q0 (a : AV) : (yb E).p 24 [a] = y2a9 a [⟨0, .dead⟩] :=
  (y15 (cf := y2mm) (by kernel_rfl) rfl).trans ((y1yl _).trans (by kernel_rfl))
def y189 (c a : AV) (h : Heap) : OX :=
oh (y9 E (yb E) 0 none true 45 [c, a] h) fun b h1 =>
ob (y8 .geq b (.int .i64 0)) fun d =>
(yf h1 d)
def y27z (s : St) : OX := y189 (s 0) (s 1) s.h
theorem y1md : T0 y17j [.t 4] y27z := fun _ => by kernel_rfl
@[simp] theorem y2oz : E.pure 46 = true := rfl
theorem y2i6 (b a : AV) : (yb E).p 46 [b, a] = y189 b a [] :=
  (y15 (cf := y27g) (by kernel_rfl) rfl).trans ((y1md _).trans (by kernel_rfl))
def y1v3 (u c : AV) (h : Heap) : OX :=
ob (evLd true 9 c h) fun t =>
oh (y9 E (yb E) 0 none true 22 [t] h) fun m h1 =>
ob (evUn .not m) fun b =>
gb b false (evFa 6 c) fun d =>
gb b false (evLd false 1 d h1) fun e =>
gb b false (y8 .geq e (.int .i64 0)) fun i =>
gb b false (some i) fun a =>
gb a true (evFa 6 c) fun g =>
gb a true (evLd false 1 g h1) fun r =>
gb a true (evFa 3 u) fun j =>
gb a true (evLd false 1 j h1) fun p =>
gb a true (y13 1 p h1) fun o =>
gb a true (y8 .lss r o) fun l =>
gb b false (yd a l (.bool false)) fun n =>
ob (yd b (.bool true) n) fun k =>
(yf h1 k)
def y2j2 (s : St) : OX := y1v3 (s 2) (s 3) s.h
theorem y21g : T0 y1f1 [.t 4] y2j2 := fun _ => by kernel_rfl
def yab (d a : AV) (h : Heap) : OX :=
ob (evFa 0 a) fun a3 =>
ob (evLd false 1 a3 h) fun i =>
ob (y8 .eql i (.int .i64 1)) fun B =>
cnd B
 (ob (evFa 0 d) fun y =>
ob (evLd false 1 y h) fun c0 =>
ob (evFa 1 a) fun a5 =>
ob (evLd false 1 a5 h) fun r =>
ob (yw 1 c0 r) fun v =>
ob (evLd false 1 v h) fun x =>
ob (y8 .neq x (.int .i64 3)) fun b =>
gb b true (evFa 0 d) fun D =>
gb b true (evLd false 1 D h) fun b0 =>
gb b true (evFa 1 a) fun l =>
gb b true (evLd false 1 l h) fun c6 =>
gb b true (yw 1 b0 c6) fun C =>
gb b true (evLd false 1 C h) fun b8 =>
gb b true (y8 .eql b8 (.int .i64 2)) fun j =>
gb b true (some j) fun e =>
gb e false (evFa 5 a) fun c5 =>
gb e false (evLd false 1 c5 h) fun V =>
gb e false (evFa 5 a) fun c7 =>
gb e false (evLd false 1 c7 h) fun c1 =>
gb e false (y1ah .i32 c1) fun Q =>
gb e false (y1ah .i64 Q) fun H =>
gb e false (y8 .eql V H) fun a7 =>
gb b true (yd e (.bool true) a7) fun k =>
ob (yd b k (.bool false)) fun N =>
(yf h N))
 (ob (y8 .eql i (.int .i64 4)) fun b2 =>
cnd b2
 (ob (evFa 0 d) fun G =>
ob (evLd false 1 G h) fun S =>
ob (evFa 1 a) fun I =>
ob (evLd false 1 I h) fun O =>
ob (yw 1 S O) fun o =>
ob (evLd false 1 o h) fun P =>
ob (evFa 0 d) fun c4 =>
ob (evLd false 1 c4 h) fun b6 =>
ob (evFa 2 a) fun U =>
ob (evLd false 1 U h) fun t =>
ob (yw 1 b6 t) fun b9 =>
ob (evLd false 1 b9 h) fun b4 =>
ob (y8 .eql P b4) fun a4 =>
(yf h a4))
 (ob (y8 .eql i (.int .i64 7)) fun a2 =>
cnd a2
 (ob (evFa 0 d) fun a6 =>
ob (evLd false 1 a6 h) fun Y =>
ob (evFa 2 a) fun b7 =>
ob (evLd false 1 b7 h) fun n =>
ob (yw 1 Y n) fun c8 =>
ob (evLd false 1 c8 h) fun u =>
ob (y8 .neq u (.int .i64 3)) fun c2 =>
(yf h c2))
 (ob (y8 .eql i (.int .i64 30)) fun J =>
cnd J
 (ob (evFa 2 a) fun L =>
ob (evLd false 1 L h) fun R =>
ob (y8 .eql R (.int .i64 (-1))) fun w =>
ob (evFa 2 d) fun b5 =>
ob (evLd false 1 b5 h) fun a8 =>
ob (y8 .eql a8 (.int .i64 0)) fun z =>
ob (y1xi false w z) fun g =>
gb g true (evFa 2 a) fun a9 =>
gb g true (evLd false 1 a9 h) fun A =>
gb g true (y8 .eql A (.int .i64 (-1))) fun b1 =>
gb g true (some b1) fun c =>
gb c false (evFa 0 d) fun M =>
gb c false (evLd false 1 M h) fun X =>
gb c false (evFa 2 a) fun p =>
gb c false (evLd false 1 p h) fun m =>
gb c false (yw 1 X m) fun Z =>
gb c false (evLd false 1 Z h) fun F =>
gb c false (evFa 2 d) fun K =>
gb c false (evLd false 1 K h) fun b3 =>
gb c false (y8 .eql F b3) fun a0 =>
gb g true (yd c (.bool true) a0) fun a1 =>
ob (yd g a1 (.bool false)) fun c3 =>
(yf h c3))
 ((y1v3 d a h)))))
def y67 (s : St) : OX := yab (s 2) (s 3) s.h
theorem y23j : T0 y1dm [.t 4] y67 := sq y21g fun _ => by kernel_rfl
def yik (e b a c d : AV) (h : Heap) : OX :=
  W E 0 yom ⟨[(2, e), (3, b), (63, a), (64, c), (65, d)], h⟩ y67 (y5 2 y67 xN) (finP [.t 4])
def yd6 (s : St) : OX := yik (s 2) (s 3) (s 63) (s 64) (s 65) s.h
theorem yu8 : T1 yom y67 (y5 2 y67 xN) [.t 4] yd6 := fun s => yj.trans (by kernel_rfl)
def y1ln (g c a d e : AV) (h : Heap) : OX :=
ob (y8 .add e (.int .i64 1)) fun b =>
(yik g c a d b h)
def yge (s : St) : OX := y1ln (s 2) (s 3) (s 63) (s 64) (s 65) s.h
theorem y219 : T1 y1iz yd6 (y5 2 y67 xN) [.t 4] yge := fun _ => by kernel_rfl
def yiq (j i I g z D x : AV) (h : Heap) : OX :=
ob (y8 .lss g (.int .i64 0)) fun c =>
gb c false (some g) fun N =>
gb c false (evFa 0 j) fun B =>
gb c false (evLd false 1 B h) fun p =>
gb c false (y13 1 p h) fun M =>
gb c false (y8 .geq N M) fun v =>
ob (yd c (.bool true) v) fun a =>
gb a false (some I) fun G =>
gb a false (y8 .eql G (.int .i64 0)) fun n =>
gb a false (some n) fun d =>
gb d true (evFa 0 i) fun o =>
gb d true (evLd false 1 o h) fun K =>
gb d true (y8 .eql K (.int .i64 24)) fun k =>
gb d true (some k) fun e =>
gb e false (evFa 0 i) fun y =>
gb e false (evLd false 1 y h) fun w =>
gb e false (y8 .eql w (.int .i64 25)) fun r =>
gb d true (yd e (.bool true) r) fun A =>
gb a false (yd d A (.bool false)) fun t =>
gb a false (some t) fun b =>
gb b true (evFa 0 j) fun L =>
gb b true (evLd false 1 L h) fun J =>
gb b true (some g) fun F =>
gb b true (yw 1 J F) fun m =>
gb b true (evLd false 1 m h) fun u =>
gb b true (y8 .neq u (.int .i64 3)) fun H =>
gb a false (yd b H (.bool false)) fun C =>
ob (yd a (.bool true) C) fun l =>
cnd l
 ((yf h (.bool false)))
 ((y1ln j i z D x h))
def y2i1 (s : St) : OX := yiq (s 2) (s 3) (s 9) (s 10) (s 63) (s 64) (s 65) s.h
theorem y23l : T1 y1gz yge (y5 3 yge (y5 2 y67 xN)) [.t 4] y2i1 := fun _ => by kernel_rfl
def y1mp (b a l d c i j : AV) (h : Heap) : OX :=
ob (evLd true 9 a h) fun g =>
oh (y9 E (yb E) 0 none true 17 [g] h) fun e h2 =>
ob (evUn .not e) fun k =>
cnd k
 ((yab b a h2))
 ((yiq b a l d c i j h2))
def y2hp (s : St) : OX := y1mp (s 2) (s 3) (s 9) (s 10) (s 63) (s 64) (s 65) s.h
theorem y1zl : T1 y1ga yge (y5 3 yge (y5 2 y67 xN)) [.t 4] y2hp := sq y23l fun _ => by kernel_rfl
def y1lu (i c b d a : AV) (h : Heap) : OX :=
ob (yw 1 b a) fun g =>
ob (evLd false 1 g h) fun e =>
(y1mp i c a e b d a h)
def y1o3 (s : St) : OX := y1lu (s 2) (s 3) (s 63) (s 64) (s 65) s.h
theorem y253 : T1 y1ss yge (y5 3 yge (y5 2 y67 xN)) [.t 4] y1o3 := sq y1zl fun _ => by kernel_rfl
theorem y23a : T1 y1jj yge (y5 2 y67 xN) [.t 4] y1o3 := fun s => yy.trans (y253 s)
theorem y22z : T1 y1ht yd6 (y5 2 y67 xN) [.t 4] y1o3 := sq y219 y23a
def yiv (b a c e g d : AV) (h : Heap) : OX :=
cnd d
 ((y1lu b a c e g h))
 ((yab b a h))
def y2bj (s : St) : OX := yiv (s 2) (s 3) (s 63) (s 64) (s 65) (s 66) s.h
theorem y1pj : T1 y168 yd6 (y5 2 y67 xN) [.t 4] y2bj := sq y22z fun _ => by kernel_rfl
def yj8 (g d c a b : AV) (h : Heap) : OX :=
ob (y8 .lss b a) fun e =>
(yiv g d c a b e h)
def y28z (s : St) : OX := yj8 (s 2) (s 3) (s 63) (s 64) (s 65) s.h
theorem y1gv : T1 yzi yd6 (y5 2 y67 xN) [.t 4] y28z := sq y1pj fun _ => by kernel_rfl
theorem yi9 (e b a c d : AV) (h : Heap) : yik e b a c d h = (yj8 e b a c d h) :=
  y28.trans ((y1c _ _ _ (n' := yd6) (fun s => yu8 s)).trans ((y1gv _).trans (by kernel_rfl)))
theorem y1g5 : T1 y123 y67 xN [.t 4] yd6 := fun s => yy.trans (yu8 s)
def yr7 (e b : AV) (h : Heap) : OX :=
ob (evFa 8 b) fun d =>
ob (evLd false 1 d h) fun a =>
ob (y13 1 a h) fun c =>
(yik e b a c (.int .i64 0) h)
def y3y (s : St) : OX := yr7 (s 2) (s 3) s.h
theorem y1v6 : T1 yze y67 xN [.t 4] y3y := sq y1g5 fun _ => by kernel_rfl
theorem y1nu : T0 yy5 [.t 4] y3y := sq y23j y1v6
def yd8 (e b d a c : AV) (h : Heap) : OX :=
  W E 0 yl4 ⟨[(2, e), (3, b), (5, d), (26, a), (27, c)], h⟩ y3y (y5 0 y3y xN) (finP [.t 4])
def y8k (s : St) : OX := yd8 (s 2) (s 3) (s 5) (s 26) (s 27) s.h
theorem ynx : T1 yl4 y3y (y5 0 y3y xN) [.t 4] y8k := fun s => yj.trans (by kernel_rfl)
def yss (g c e a d : AV) (h : Heap) : OX :=
ob (y8 .add d (.int .i64 1)) fun b =>
(yd8 g c e a b h)
def yb0 (s : St) : OX := yss (s 2) (s 3) (s 5) (s 26) (s 27) s.h
theorem y1py : T1 y16j y8k (y5 0 y3y xN) [.t 4] yb0 := fun _ => by kernel_rfl
def yjy (g k d i e r t : AV) (h : Heap) : OX :=
ob (y8 .lss e (.int .i64 0)) fun c =>
gb c false (some e) fun y =>
gb c false (evFa 0 g) fun D =>
gb c false (evLd false 1 D h) fun o =>
gb c false (y13 1 o h) fun j =>
gb c false (y8 .geq y j) fun m =>
ob (yd c (.bool true) m) fun b =>
gb b false (some i) fun w =>
gb b false (yog 4 1 d w) fun v =>
gb b false (evLd false 1 v h) fun l =>
gb b false (y8 .gtr l (.int .i64 0)) fun F =>
gb b false (some F) fun a =>
gb a true (evFa 0 g) fun u =>
gb a true (evLd false 1 u h) fun n =>
gb a true (some e) fun x =>
gb a true (yw 1 n x) fun B =>
gb a true (evLd false 1 B h) fun G =>
gb a true (some i) fun A =>
gb a true (yog 4 1 d A) fun I =>
gb a true (evLd false 1 I h) fun p =>
gb a true (y8 .neq G p) fun H =>
gb b false (yd a H (.bool false)) fun C =>
ob (yd b (.bool true) C) fun z =>
cnd z
 ((yf h (.bool false)))
 ((yss g k d r t h))
def y28c (s : St) : OX := yjy (s 2) (s 3) (s 5) (s 7) (s 8) (s 26) (s 27) s.h
theorem y1pb : T1 y12s yb0 (y5 1 yb0 (y5 0 y3y xN)) [.t 4] y28c := fun _ => by kernel_rfl
def ye2 (g d a c j b e : AV) (h : Heap) : OX :=
ob (yog 4 1 a c) fun k =>
ob (evLd false 1 k h) fun l =>
ob (y8 .lss l (.int .i64 0)) fun i =>
cnd i
 ((yss g d a b e h))
 ((yjy g d a c j b e h))
def y2cl (s : St) : OX := ye2 (s 2) (s 3) (s 5) (s 7) (s 8) (s 26) (s 27) s.h
theorem y1uu : T1 y13k yb0 (y5 1 yb0 (y5 0 y3y xN)) [.t 4] y2cl := sq y1pb fun _ => by kernel_rfl
def y1ne (g d e b a : AV) (h : Heap) : OX :=
ob (ypc false 4 1 b a) fun c =>
(ye2 g d e a c b a h)
def yw7 (s : St) : OX := y1ne (s 2) (s 3) (s 5) (s 26) (s 27) s.h
theorem y1l0 : T1 y15v yb0 (y5 1 yb0 (y5 0 y3y xN)) [.t 4] yw7 := sq y1uu fun _ => by kernel_rfl
theorem y1ra : T1 y0f yb0 (y5 0 y3y xN) [.t 4] yw7 := fun s => yy.trans (y1l0 s)
theorem y1q4 : T1 yzj y8k (y5 0 y3y xN) [.t 4] yw7 := sq y1py y1ra
def y14z (b a g c d e : AV) (h : Heap) : OX :=
cnd e
 ((y1ne b a g c d h))
 ((yr7 b a h))
def y2ap (s : St) : OX := y14z (s 2) (s 3) (s 5) (s 26) (s 27) (s 28) s.h
theorem y1ie : T1 y11i y8k (y5 0 y3y xN) [.t 4] y2ap := sq y1q4 fun _ => by kernel_rfl
def y16e (g c e b a : AV) (h : Heap) : OX :=
ob (y8 .lss a (.int .i64 4)) fun d =>
(y14z g c e b a d h)
def y2a4 (s : St) : OX := y16e (s 2) (s 3) (s 5) (s 26) (s 27) s.h
theorem y1gr : T1 yyr y8k (y5 0 y3y xN) [.t 4] y2a4 := sq y1ie fun _ => by kernel_rfl
theorem ymx (e b d a c : AV) (h : Heap) : yd8 e b d a c h = (y16e e b d a c h) :=
  y28.trans ((y1c _ _ _ (n' := y8k) (fun s => ynx s)).trans ((y1gr _).trans (by kernel_rfl)))
theorem y1rz : T1 y15h y3y xN [.t 4] y8k := fun s => yy.trans (ynx s)
def y1pf (n a l : AV) (h : Heap) : OX :=
ob (evFa 1 a) fun k =>
ob (evLd false 1 k h) fun m =>
ob (evFa 2 a) fun b =>
ob (evLd false 1 b h) fun d =>
ob (evFa 3 a) fun i =>
ob (evLd false 1 i h) fun e =>
ob (evFa 4 a) fun j =>
ob (evLd false 1 j h) fun g =>
ob (y11 [(.int .i64 0), (.int .i64 0), (.int .i64 0), (.int .i64 0)] [(0, 1, m), (1, 1, d), (2, 1, e), (3, 1, g)]) fun c =>
(yd8 n a l c (.int .i64 0) h)
def y1tw (s : St) : OX := y1pf (s 2) (s 3) (s 5) s.h
theorem y1lf : T1 yyh y3y xN [.t 4] y1tw := sq y1rz fun _ => by kernel_rfl
theorem y1g9 : T0 y13z [.t 4] y1tw := sq y1nu y1lf
def y16o (e b d a : AV) (h : Heap) : OX :=
ob (evUn .not a) fun c =>
cnd c
 ((yf h (.bool false)))
 ((y1pf e b d h))
def y27x (s : St) : OX := y16o (s 2) (s 3) (s 5) (s 6) s.h
theorem y1d7 : T0 y11d [.t 4] y27x := sq y1g9 fun _ => by kernel_rfl
def y155 (i b : AV) (h : Heap) : OX :=
ob (evLd true 9 b h) fun e =>
oh (y9 E (yb E) 0 none true 47 [e] h) fun a h3 =>
ob (y3z 0 a) fun g =>
ob (y3z 1 a) fun d =>
oh (newC 0 (some 2) [(.int .i64 0), (.int .i64 0), (.int .i64 0), (.int .i64 0)] h3) fun c h4 =>
oh (evSt 4 c g h4) fun _ h5 =>
(y16o i b c d h5)
def y2aw (s : St) : OX := y155 (s 2) (s 3) s.h
theorem y1u8 : T0 y17e [.t 4] y2aw := sq y1d7 fun _ => by kernel_rfl
def yq3 (b a : AV) (h : Heap) : OX :=
oh (newC 0 (some 0) (cellsOf b) h) fun d h6 =>
oh (newC 0 (some 1) (cellsOf a) h6) fun c h7 =>
(y155 d c h7)
def y2fu (s : St) : OX := yq3 (s 0) (s 1) s.h
theorem y1r4 : T0 y18i [.t 4] y2fu := sq y1u8 fun _ => by kernel_rfl
@[simp] theorem y2np : E.pure 63 = true := rfl
theorem y2nu (b a : AV) : (yb E).p 63 [b, a] = yq3 b a [⟨0, .dead⟩, ⟨0, .dead⟩, ⟨0, .dead⟩] :=
  (y15 (cf := y2m7) (by kernel_rfl) rfl).trans ((y1r4 _).trans (by kernel_rfl))
def y2by (d : AV) (h : Heap) : OX :=
oh (newC 0 (some 0) (cellsOf d) h) fun c h1 =>
ob (evFa 0 c) fun i =>
ob (evLd false 1 i h1) fun m =>
ob (y8 .eql m (.int .i64 27)) fun b =>
gb b false (evFa 0 c) fun g =>
gb b false (evLd false 1 g h1) fun e =>
gb b false (y8 .eql e (.int .i64 28)) fun o =>
ob (yd b (.bool true) o) fun a =>
gb a false (evFa 0 c) fun l =>
gb a false (evLd false 1 l h1) fun j =>
gb a false (y8 .eql j (.int .i64 29)) fun n =>
ob (yd a (.bool true) n) fun k =>
(yf h1 k)
def y2ij (s : St) : OX := y2by (s 0) s.h
theorem y1xu : T0 y1s8 [.t 2] y2ij := fun _ => by kernel_rfl
@[simp] theorem y2oe : E.pure 22 = true := rfl
theorem y2qx (a : AV) : (yb E).p 22 [a] = y2by a [⟨0, .dead⟩] :=
  (y15 (cf := y2mt) (by kernel_rfl) rfl).trans ((y1xu _).trans (by kernel_rfl))
def y1d0 (fb : Nat) (b a : AV) (h : Heap) : Option (AV × Heap) :=
ob (evLd false 1 a h) fun c =>
oh (y10 fb (some 0) 1 1 [(.int .i64 0)] [(0, b)] h) fun e h1 =>
oh (y41 fb (some 1) 1 8 c e h1) fun d h2 =>
oh (evSt 1 a d h2) fun _ h3 =>
(some ((.tup []), h3))
def y83 (fb : Nat) (s : St) : Option (AV × Heap) := y1d0 fb (s 0) (s 3) s.h
theorem y1xh (fb : Nat) (s : St) : W E fb y1mw s (finI []) xN (finI []) = y83 fb s :=
  by kernel_rfl
def y2b4 (fb : Nat) (a g d b : AV) (h : Heap) : Option (AV × Heap) :=
ob (evLd false 1 g h) fun c =>
ob (yw 1 c a) fun e =>
oh (evSt 1 e b h) fun _ h4 =>
(y1d0 fb a d h4)
def y264 (fb : Nat) (s : St) : Option (AV × Heap) := y2b4 fb (s 0) (s 2) (s 3) (s 6) s.h
theorem y1wq (fb : Nat) (s : St) : W E fb y1rr s (y83 fb) (y5 0 (y83 fb) xN) (finI []) = y264 fb s :=
  by kernel_rfl
def y2b8 (fb : Nat) (a c e b : AV) (h : Heap) : Option (AV × Heap) :=
ob (y13 2 b h) fun l =>
ob (evLd false 1 c h) fun g =>
ob (yw 1 g a) fun i =>
ob (evLd false 1 i h) fun j =>
ob (y13 2 j h) fun k =>
ob (y8 .eql l k) fun d =>
cnd d
 ((some ((.tup []), h)))
 ((y2b4 fb a c e b h))
def y25t (fb : Nat) (s : St) : Option (AV × Heap) := y2b8 fb (s 0) (s 2) (s 3) (s 6) s.h
theorem y1xs (fb : Nat) (s : St) : W E fb y1dy s (y83 fb) (y5 0 (y83 fb) xN) (finI []) = y25t fb s :=
  (yeq (k := (y264 fb)) (fun s => y1wq fb s)).trans (by kernel_rfl)
def y2cb (fb : Nat) (a i b e : AV) (h : Heap) : Option (AV × Heap) :=
ob (evLd false 1 b h) fun d =>
ob (yw 1 d a) fun j =>
ob (evLd false 1 j h) fun c =>
oh (y9 E (yb E) fb none true 170 [c, i] h) fun g h5 =>
(y2b8 fb a b e g h5)
def y2kl (fb : Nat) (s : St) : Option (AV × Heap) := y2cb fb (s 0) (s 1) (s 2) (s 3) s.h
theorem y1xk (fb : Nat) (s : St) : W E fb y1hl s (y83 fb) (y5 0 (y83 fb) xN) (finI []) = y2kl fb s :=
  (yeq (k := (y25t fb)) (fun s => y1xs fb s)).trans (by kernel_rfl)
def y20r (fb : Nat) (a b c d j : AV) (h : Heap) : Option (AV × Heap) :=
cnd j
 (ob (evLd false 1 c h) fun i =>
ofp (y4i E (yb E) fb none true 161 [b] h) fun f3 =>
oh (y9 E (yb E) fb none true 161 [b] h) fun g h6 =>
ob (yw 1 i a) fun e =>
oh (evSt 1 e g h6) fun _ h7 =>
okK (yg [(ids1 c, []), ([], []), ([], []), f3, ([], []), ([], ids1 e)] [(0, 3)]) <|
(y1d0 fb a d h7))
 ((y2cb fb a b c d h))
def y26x (fb : Nat) (s : St) : Option (AV × Heap) := y20r fb (s 0) (s 1) (s 2) (s 3) (s 25) s.h
theorem y1wt (fb : Nat) (s : St) : W E fb y1tk s (y83 fb) (y5 0 (y83 fb) xN) (finI []) = y26x fb s :=
  (y1b rfl (y1xk fb s)).trans (by kernel_rfl)
def y1wz (fb : Nat) (a i b e : AV) (h : Heap) : Option (AV × Heap) :=
ob (evLd false 1 b h) fun c =>
ob (yw 1 c a) fun g =>
ob (evLd false 1 g h) fun j =>
ob (y4w 2 false j AV.nilm) fun d =>
(y20r fb a i b e d h)
def y1r7 (fb : Nat) (s : St) : Option (AV × Heap) := y1wz fb (s 0) (s 1) (s 2) (s 3) s.h
theorem y1zf (fb : Nat) (s : St) : W E fb y1s9 s (y83 fb) (y5 0 (y83 fb) xN) (finI []) = y1r7 fb s :=
  (yeq (k := (y26x fb)) (fun s => y1wt fb s)).trans (by kernel_rfl)
theorem y223 (fb : Nat) (s : St) : W E fb y1t3 s (y83 fb) xN (finI []) = y1r7 fb s :=
  yy.trans (y1zf fb s)
theorem y1z5 (fb : Nat) (s : St) : W E fb y1d9 s (finI []) xN (finI []) = y1r7 fb s :=
  (yeq (k := (y83 fb)) (fun s => y1xh fb s)).trans (y223 fb s)
@[simp] theorem y2nj : E.pure 167 = false := rfl
theorem y2p1 (fb : Nat) (b a d c : AV) (h : Heap) : (yb E).i 167 [b, a, d, c] fb h = y1wz fb b a d c (if fb = h.length then h ++ yv 2 else h) :=
  (y1n0 (cf := y2mn) (by kernel_rfl) rfl).trans ((y1z5 fb _).trans (by kernel_rfl))
def y22j (a : AV) (h : Heap) : OX :=
(yf h a)
def y1pl (s : St) : OX := y22j (s 5) s.h
theorem y23d : T0 y1rk [.t 4] y1pl := fun _ => by kernel_rfl
def y1yo (e g a : AV) (h : Heap) : Option Heap :=
ob (evLd true 3 a h) fun b =>
ob (y6q true [0, 0, 0] (.bool false) false e b h) fun c =>
cnd c
 (ob (evLd true 3 a h) fun d =>
oh (y69 true [0, 0, 0] g d (.bool true) h) fun _ h1 =>
(some (killAll 0 [1] h1)))
 ((some (killAll 0 [1] h)))
def y2h6 (s : St) : Option Heap := y1yo (s 1) (s 5) (s 6) s.h
theorem y1xx (s : St) : W E 0 y1f6 s (fun s3 => some (killAll 0 [1] s3.h)) xN (fun _ => none) = y2h6 s :=
  by kernel_rfl
def y2af (c e b : AV) (h : Heap) : OX :=
orm c (fun q h2 =>
ob (y3z 0 (AV.tup [q.1, q.2])) fun d =>
oh (newC 0 (some 1) [(.int .i64 0), (.int .i64 0), (.int .i64 0)] h2) fun a h4 =>
oh (evSt 3 a d h4) fun _ h5 =>
(y1yo e b a h5)) h fun h3 =>
(y22j b h3)
def y274 (s : St) : OX := y2af (s 0) (s 1) (s 5) s.h
theorem y22l : T1 y1po y1pl xN [.t 4] y274 := fun s => (ykw (nk := y1pl) (fun s2 => y1xx s2) (fun _ => rfl)).trans (by kernel_rfl)
theorem y20g : T0 y1up [.t 4] y274 := sq y23d y22l
def y2bc (c a : AV) (h : Heap) : OX :=
oh (mkmC 0 (some 0) h) fun b h6 =>
(y2af c a b h6)
def y2l0 (s : St) : OX := y2bc (s 0) (s 1) s.h
theorem y1xo : T0 y1um [.t 4] y2l0 := sq y20g fun _ => by kernel_rfl
def y2eh (b a : AV) (h : Heap) : OX :=
(y2bc b a h)
def y2la (s : St) : OX := y2eh (s 0) (s 1) s.h
theorem y242 : T0 y1w6 [.t 4] y2la := sq y1xo fun _ => by kernel_rfl
@[simp] theorem y2mz : E.pure 170 = true := rfl
theorem y2nx (b a : AV) : (yb E).p 170 [b, a] = y2eh b a [⟨0, .dead⟩, ⟨0, .dead⟩] :=
  (y15 (cf := y2k5) (by kernel_rfl) rfl).trans ((y242 _).trans (by kernel_rfl))
def y1jm (a : AV) (h : Heap) : OX :=
(yf h a)
def y5y (s : St) : OX := y1jm (s 5) s.h
theorem y1ze : T0 y1ur [.t 4] y5y := fun _ => by kernel_rfl
def yrk (c e a b d : AV) (h : Heap) : OX :=
  W E 0 ypo ⟨[(1, c), (5, e), (27, a), (28, b), (29, d)], h⟩ y5y (y5 0 y5y xN) (finP [.t 4])
def yd1 (s : St) : OX := yrk (s 1) (s 5) (s 27) (s 28) (s 29) s.h
theorem ysx : T1 ypo y5y (y5 0 y5y xN) [.t 4] yd1 := fun s => yj.trans (by kernel_rfl)
def y1af (c g a b d : AV) (h : Heap) : OX :=
ob (y8 .add d (.int .i64 1)) fun e =>
(yrk c g a b e h)
def ycg (s : St) : OX := y1af (s 1) (s 5) (s 27) (s 28) (s 29) s.h
theorem y222 : T1 y1vf yd1 (y5 0 y5y xN) [.t 4] ycg := fun _ => by kernel_rfl
def y1bt (j a d e i k : AV) (h : Heap) : OX :=
ob (evFa 3 d) fun c =>
ob (evLd false 1 c h) fun g =>
ob (y8 .eql g (AV.str [])) fun b =>
cnd b
 ((y1jm a h))
 ((y1af j a e i k h))
def y2ks (s : St) : OX := y1bt (s 1) (s 5) (s 7) (s 27) (s 28) (s 29) s.h
theorem y221 : T1 y1p2 ycg (y5 1 ycg (y5 0 y5y xN)) [.t 4] y2ks := fun _ => by kernel_rfl
def y22a (e b a c d g : AV) (h : Heap) : OX :=
ob (evFa 2 a) fun l =>
ob (evLd false 1 l h) fun n =>
oh (y9 E (yb E) 0 none true 46 [b, n] h) fun m h1 =>
ob (evUn .not m) fun o =>
cnd o
 (ob (evFa 2 a) fun i =>
ob (evLd false 1 i h1) fun k =>
oh (y10 0 (some 2) 1 1 [(.int .i64 0)] [(0, k)] h1) fun j h2 =>
oh (y41 0 (some 3) 1 8 b j h2) fun p h3 =>
(y1bt e p a c d g h3))
 ((y1bt e b a c d g h1))
def y2k3 (s : St) : OX := y22a (s 1) (s 5) (s 7) (s 27) (s 28) (s 29) s.h
theorem y21l : T1 y1pk ycg (y5 1 ycg (y5 0 y5y xN)) [.t 4] y2k3 := sq y221 fun _ => by kernel_rfl
def yuy (b i c d e g : AV) (h : Heap) : OX :=
ob (evFa 0 c) fun k =>
ob (evLd false 1 k h) fun o =>
ob (y8 .lss b o) fun a =>
gb a false (some b) fun p =>
gb a false (evFa 1 c) fun n =>
gb a false (evLd false 1 n h) fun m =>
gb a false (y8 .geq p m) fun j =>
ob (yd a (.bool true) j) fun l =>
cnd l
 ((y1af b i d e g h))
 ((y22a b i c d e g h))
def y2mi (s : St) : OX := yuy (s 1) (s 5) (s 7) (s 27) (s 28) (s 29) s.h
theorem y21y : T1 y1jk ycg (y5 1 ycg (y5 0 y5y xN)) [.t 4] y2mi := sq y21l fun _ => by kernel_rfl
def y29i (i j b g c : AV) (h : Heap) : OX :=
ob (yw 4 b c) fun e =>
ob (evLd true 4 e h) fun d =>
oh (newC 0 (some 1) [(.int .i64 0), (.int .i64 0), (.int .i64 0), (.str [])] h) fun a h4 =>
oh (evSt 4 a d h4) fun _ h5 =>
(yuy i j a b g c h5)
def y1ei (s : St) : OX := y29i (s 1) (s 5) (s 27) (s 28) (s 29) s.h
theorem y1xw : T1 y1qf ycg (y5 1 ycg (y5 0 y5y xN)) [.t 4] y1ei := sq y21y fun _ => by kernel_rfl
theorem y20v : T1 y1f4 ycg (y5 0 y5y xN) [.t 4] y1ei := fun s => yy.trans (y1xw s)
theorem y241 : T1 y1oa yd1 (y5 0 y5y xN) [.t 4] y1ei := sq y222 y20v
def yxm (e a c d g b : AV) (h : Heap) : OX :=
cnd b
 ((y29i e a c d g h))
 ((y1jm a h))
def y29z (s : St) : OX := yxm (s 1) (s 5) (s 27) (s 28) (s 29) (s 30) s.h
theorem y1e4 : T1 y0r yd1 (y5 0 y5y xN) [.t 4] y29z := sq y241 fun _ => by kernel_rfl
def yui (e g d a b : AV) (h : Heap) : OX :=
ob (y8 .lss b a) fun c =>
(yxm e g d a b c h)
def y294 (s : St) : OX := yui (s 1) (s 5) (s 27) (s 28) (s 29) s.h
theorem y1tf : T1 y18j yd1 (y5 0 y5y xN) [.t 4] y294 := sq y1e4 fun _ => by kernel_rfl
theorem yto (c e a b d : AV) (h : Heap) : yrk c e a b d h = (yui c e a b d h) :=
  y28.trans ((y1c _ _ _ (n' := yd1) (fun s => ysx s)).trans ((y1tf _).trans (by kernel_rfl)))
theorem y1nf : T1 y0l y5y xN [.t 4] yd1 := fun s => yy.trans (ysx s)
def y1j8 (d g e : AV) (h : Heap) : OX :=
ob (evFa 4 g) fun b =>
ob (evLd false 1 b h) fun a =>
ob (y13 1 a h) fun c =>
(yrk d e a c (.int .i64 0) h)
def y1wj (s : St) : OX := y1j8 (s 1) (s 2) (s 5) s.h
theorem y1gk : T1 y02 y5y xN [.t 4] y1wj := sq y1nf fun _ => by kernel_rfl
theorem y1l5 : T0 y138 [.t 4] y1wj := sq y1ze y1gk
def y1q9 (a b : AV) (h : Heap) : OX :=
(y1j8 a b AV.nils h)
def y2c6 (s : St) : OX := y1q9 (s 1) (s 2) s.h
theorem y1fm : T0 y14b [.t 4] y2c6 := sq y1l5 fun _ => by kernel_rfl
def yoe (c d : AV) (h : Heap) : OX :=
ob (y8 .lss c (.int .i64 0)) fun b =>
gb b false (some c) fun e =>
gb b false (evFa 3 d) fun n =>
gb b false (evLd false 1 n h) fun j =>
gb b false (y13 1 j h) fun u =>
gb b false (y8 .geq e u) fun k =>
ob (yd b (.bool true) k) fun a =>
gb a false (evFa 3 d) fun r =>
gb a false (evLd false 1 r h) fun t =>
gb a false (some c) fun g =>
gb a false (yw 9 t g) fun i =>
gb a false (evLd true 9 i h) fun o =>
gh a false (y9 E (yb E) 0 none true 18 [o] h) h fun l h6 =>
gb a false (evUn .not l) fun p =>
ob (yd a (.bool true) p) fun m =>
cnd m
 ((yf h6 AV.nils))
 ((y1q9 c d h6))
def y2an (s : St) : OX := yoe (s 1) (s 2) s.h
theorem y1ld : T0 y16r [.t 4] y2an := sq y1fm fun _ => by kernel_rfl
def yly (b a : AV) (h : Heap) : OX :=
oh (newC 0 (some 0) (cellsOf b) h) fun c h7 =>
(yoe a c h7)
def y2d6 (s : St) : OX := yly (s 0) (s 1) s.h
theorem y1mg : T0 yzu [.t 4] y2d6 := sq y1ld fun _ => by kernel_rfl
@[simp] theorem y2nt : E.pure 79 = true := rfl
theorem y2ou (b a : AV) : (yb E).p 79 [b, a] = yly b a [⟨0, .dead⟩, ⟨0, .dead⟩, ⟨0, .dead⟩, ⟨0, .dead⟩] :=
  (y15 (cf := y2jb) (by kernel_rfl) rfl).trans ((y1mg _).trans (by kernel_rfl))
def ysb (a : AV) (h : Heap) : OX :=
(yf h a)
def y6s (s : St) : OX := ysb (s 5) s.h
theorem y1z8 : T0 y1s2 [.t 4] y6s := fun _ => by kernel_rfl
def y20b (g p e b : AV) (h : Heap) : Option Heap :=
ob (evFa 1 b) fun l =>
ob (evLd false 1 l h) fun m =>
ob (evFa 2 g) fun i =>
ob (evLd false 1 i h) fun d =>
ob (y8 .eql m d) fun a =>
gb a true (evFa 2 b) fun k =>
gb a true (evLd false 1 k h) fun j =>
gb a true (y8 .eql j (.int .i64 (-1))) fun r =>
ob (yd a r (.bool false)) fun t =>
cnd t
 (ob (evFa 0 b) fun c =>
ob (evLd false 1 c h) fun n =>
ob (y11 [(.int .i64 0), (.int .i64 0), (.int .i64 0)] [(0, 1, n), (1, 1, e), (2, 1, (.int .i64 (-1)))]) fun o =>
oh (y69 true [0, 0, 0] p o (.bool true) h) fun _ h1 =>
(some (killAll 0 [4] h1)))
 ((some (killAll 0 [4] h)))
def y2li (s : St) : Option Heap := y20b (s 3) (s 5) (s 8) (s 10) s.h
theorem y25c (s : St) : W E 0 y1nq s (fun s3 => some (killAll 0 [4] s3.h)) xN (fun _ => none) = y2li s :=
  by kernel_rfl
def y2a0 (d g b e : AV) (h : Heap) : OX :=
orm d (fun q h2 =>
ob (y3z 0 (AV.tup [q.1, q.2])) fun c =>
oh (newC 0 (some 4) [(.int .i64 0), (.int .i64 0), (.int .i64 0)] h2) fun a h4 =>
oh (evSt 3 a c h4) fun _ h5 =>
(y20b g b e a h5)) h fun h3 =>
(ysb b h3)
def y2ls (s : St) : OX := y2a0 (s 0) (s 3) (s 5) (s 8) s.h
theorem y23b : T1 y1pq y6s (y5 2 y6s xN) [.t 4] y2ls := fun s => (ykw (nk := y6s) (fun s2 => y25c s2) (fun _ => rfl)).trans (by kernel_rfl)
def yum (a c d : AV) (h : Heap) : OX :=
cnd d
 (ob (y11 [(.int .i64 0), (.int .i64 0), (.int .i64 0)] [(0, 1, (.int .i64 8)), (1, 1, c), (2, 1, (.int .i64 (-1)))]) fun b =>
oh (y69 true [0, 0, 0] a b (.bool true) h) fun _ h6 =>
(ysb a h6))
 ((ysb a h))
def y2j4 (s : St) : OX := yum (s 5) (s 8) (s 79) s.h
theorem y23w : T1 y1vl y6s (y5 2 y6s xN) [.t 4] y2j4 := fun _ => by kernel_rfl
def y21f (c b a : AV) (h : Heap) : OX :=
ob (y8 .eql a (.int .i64 20)) fun e =>
cnd e
 ((yum c b e h))
 (ob (y8 .eql a (.int .i64 21)) fun d =>
cnd d
 ((yum c b d h))
 (ob (y8 .eql a (.int .i64 3)) fun g =>
cnd g
 ((yum c b g h))
 (ob (y8 .eql a (.int .i64 32)) fun i =>
(yum c b i h))))
def y2h4 (s : St) : OX := y21f (s 5) (s 8) (s 55) s.h
theorem y1yy : T1 y1sw y6s (y5 2 y6s xN) [.t 4] y2h4 := sq y23w fun _ => by kernel_rfl
def y1yc (d e b a c g : AV) (h : Heap) : OX :=
cnd g
 ((y2a0 d e b a h))
 ((y21f b a c h))
def y2kv (s : St) : OX := y1yc (s 0) (s 3) (s 5) (s 8) (s 55) (s 56) s.h
theorem y24p : T1 y1ed y6s (y5 2 y6s xN) [.t 4] y2kv := fun s => (y1b (y23b s) (y1yy s)).trans (by kernel_rfl)
def y1fy (b d g c a : AV) (h : Heap) : OX :=
ob (y8 .eql a (.int .i64 4)) fun e =>
(y1yc b d g c a e h)
def y26v (s : St) : OX := y1fy (s 0) (s 3) (s 5) (s 8) (s 55) s.h
theorem y259 : T1 y1kf y6s (y5 2 y6s xN) [.t 4] y26v := sq y24p fun _ => by kernel_rfl
theorem y1yp : T1 y1r5 y6s xN [.t 4] y26v := fun s => yy.trans (y259 s)
def y1z2 (c a g d : AV) (h : Heap) : OX :=
ob (evFa 0 a) fun e =>
ob (evLd false 1 e h) fun b =>
(y1fy c a g d b h)
def y15q (s : St) : OX := y1z2 (s 0) (s 3) (s 5) (s 8) s.h
theorem y1wu : T1 y1ub y6s xN [.t 4] y15q := sq y1yp fun _ => by kernel_rfl
theorem y1gd : T0 y131 [.t 4] y15q := sq y1z8 y1wu
def y185 (n c b : AV) (h : Heap) : Option Heap :=
ob (evFa 1 b) fun e =>
ob (evLd false 1 e h) fun k =>
ob (y8 .eql k c) fun a =>
gb a false (evFa 2 b) fun m =>
gb a false (evLd false 1 m h) fun l =>
gb a false (some c) fun d =>
gb a false (y8 .eql l d) fun j =>
ob (yd a (.bool true) j) fun g =>
cnd g
 (ob (evLd true 3 b h) fun i =>
oh (ych true [0, 0, 0] n i h) fun _ h7 =>
(some (killAll 0 [3] h7)))
 ((some (killAll 0 [3] h)))
def y285 (s : St) : Option Heap := y185 (s 5) (s 8) (s 9) s.h
theorem y1p3 (s : St) : W E 0 y18k s (fun s3 => some (killAll 0 [3] s3.h)) xN (fun _ => none) = y285 s :=
  by kernel_rfl
def y17v (a g c b : AV) (h : Heap) : OX :=
orm a (fun q h8 =>
ob (y3z 0 (AV.tup [q.1, q.2])) fun e =>
oh (newC 0 (some 3) [(.int .i64 0), (.int .i64 0), (.int .i64 0)] h8) fun d h10 =>
oh (evSt 3 d e h10) fun _ h11 =>
(y185 c b d h11)) h fun h9 =>
(y1z2 a g c b h9)
def y1gy (s : St) : OX := y17v (s 0) (s 3) (s 5) (s 8) s.h
theorem y1ot : T1 y15i y15q xN [.t 4] y1gy := fun s => (ykw (nk := y15q) (fun s2 => y1p3 s2) (fun _ => rfl)).trans (by kernel_rfl)
theorem y1mt : T0 y18d [.t 4] y1gy := sq y1gd y1ot
def y1q2 (i b d c : AV) (h : Heap) : OX :=
ob (evFa 0 b) fun e =>
ob (evLd false 1 e h) fun m =>
ob (y8 .eql m (.int .i64 4)) fun a =>
gb a true (evFa 2 b) fun l =>
gb a true (evLd false 1 l h) fun k =>
gb a true (some c) fun j =>
gb a true (y8 .eql k j) fun n =>
ob (yd a n (.bool false)) fun g =>
cnd g
 ((yf h d))
 ((y17v i b d c h))
def y29o (s : St) : OX := y1q2 (s 0) (s 3) (s 5) (s 8) s.h
theorem y1rd : T0 y17w [.t 4] y29o := sq y1mt fun _ => by kernel_rfl
def y12g (c d b a : AV) (h : Heap) : OX :=
ob (y8 .lss a (.int .i64 0)) fun e =>
cnd e
 ((yf h b))
 ((y1q2 c d b a h))
def y2d4 (s : St) : OX := y12g (s 0) (s 3) (s 5) (s 8) s.h
theorem y1iy : T0 y11k [.t 4] y2d4 := sq y1rd fun _ => by kernel_rfl
def yrx (b a e : AV) (h : Heap) : OX :=
ob (evLd true 9 a h) fun c =>
oh (y9 E (yb E) 0 none true 9 [c] h) fun d h12 =>
(y12g b a e d h12)
def y2b9 (s : St) : OX := yrx (s 0) (s 3) (s 5) s.h
theorem y1in : T0 y113 [.t 4] y2b9 := sq y1iy fun _ => by kernel_rfl
def y1qc (c a b : AV) (h : Heap) : OX :=
ob (evLd true 9 a h) fun k =>
oh (y9 E (yb E) 0 none true 169 [k] h) fun e h13 =>
ob (y3z 0 e) fun i =>
ob (y3z 1 e) fun j =>
oh (newC 0 (some 2) [(.int .i64 0), (.int .i64 0), (.int .i64 0)] h13) fun d h14 =>
oh (evSt 3 d i h14) fun _ h15 =>
cnd j
 (ob (evLd true 3 d h15) fun g =>
oh (y69 true [0, 0, 0] b g (.bool true) h15) fun _ h16 =>
(yrx c a b h16))
 ((yrx c a b h15))
def y2bo (s : St) : OX := y1qc (s 0) (s 3) (s 5) s.h
theorem y1ex : T0 y163 [.t 4] y2bo := sq y1in fun _ => by kernel_rfl
def y1qo (a b : AV) (h : Heap) : OX :=
oh (y9 E (yb E) 0 (some 1) false 161 [a] h) fun c h17 =>
(y1qc a b c h17)
def y2g1 (s : St) : OX := y1qo (s 0) (s 3) s.h
theorem y1wh : T0 y187 [.t 4] y2g1 := sq y1ex fun _ => by kernel_rfl
def y1w0 (b a : AV) (h : Heap) : OX :=
oh (newC 0 (some 0) (cellsOf a) h) fun c h18 =>
(y1qo b c h18)
def y28h (s : St) : OX := y1w0 (s 0) (s 1) s.h
theorem y1g4 : T0 yxs [.t 4] y28h := sq y1wh fun _ => by kernel_rfl
@[simp] theorem y2nm : E.pure 168 = true := rfl
theorem y2ov (b a : AV) : (yb E).p 168 [b, a] = y1w0 b a [⟨0, .dead⟩, ⟨0, .dead⟩, ⟨0, .dead⟩, ⟨0, .dead⟩, ⟨0, .dead⟩] :=
  (y15 (cf := y2ih) (by kernel_rfl) rfl).trans ((y1g4 _).trans (by kernel_rfl))
def ylf (a : AV) (h : Heap) : OX :=
(yf h a)
def y2ld (s : St) : OX := ylf (s 6) s.h
theorem y1ym : T0 y1sr [.t 4] y2ld := fun _ => by kernel_rfl
def ylh (c b : AV) (h : Heap) : OX :=
ob (evLd true 9 c h) fun n =>
oh (y9 E (yb E) 0 none true 22 [n] h) fun a h1 =>
gb a true (some b) fun g =>
gb a true (evFa 6 c) fun o =>
gb a true (evLd false 1 o h1) fun e =>
gh a true (y9 E (yb E) 0 none true 46 [g, e] h1) h1 fun m h2 =>
gb a true (evUn .not m) fun j =>
ob (yd a j (.bool false)) fun p =>
cnd p
 (ob (evFa 6 c) fun l =>
ob (evLd false 1 l h2) fun k =>
oh (y10 0 (some 4) 1 1 [(.int .i64 0)] [(0, k)] h2) fun d h3 =>
oh (y41 0 (some 5) 1 8 b d h3) fun i h4 =>
(ylf i h4))
 ((ylf b h2))
def y2mu (s : St) : OX := ylh (s 5) (s 6) s.h
theorem y22x : T0 y1o0 [.t 4] y2mu := sq y1ym fun _ => by kernel_rfl
def yld (k a b : AV) (h : Heap) : OX :=
ob (evLd true 9 a h) fun d =>
oh (y9 E (yb E) 0 none true 24 [d] h) fun i h5 =>
ob (evUn .not i) fun g =>
cnd g
 (ob (y8 .add k (.int .i64 1)) fun c =>
oh (y10 0 (some 2) 1 1 [(.int .i64 0)] [(0, c)] h5) fun e h6 =>
oh (y41 0 (some 3) 1 8 b e h6) fun j h7 =>
(ylh a j h7))
 ((ylh a b h5))
def y2i4 (s : St) : OX := yld (s 1) (s 5) (s 6) s.h
theorem y1y7 : T0 y1p4 [.t 4] y2i4 := sq y22x fun _ => by kernel_rfl
def y1ls (a b : AV) (h : Heap) : OX :=
(yld a b AV.nils h)
def y2km (s : St) : OX := y1ls (s 1) (s 5) s.h
theorem y1z0 : T0 y1fk [.t 4] y2km := sq y1y7 fun _ => by kernel_rfl
def y1eg (a i : AV) (h : Heap) : OX :=
ob (evFa 3 i) fun e =>
ob (evLd false 1 e h) fun d =>
ob (yw 9 d a) fun g =>
ob (evLd true 9 g h) fun c =>
oh (newC 0 (some 1) [(.int .i64 0), (.int .i64 0), (.int .i64 0), (.int .i64 0), (.int .i64 0), (.int .i64 0), (.int .i64 0), (.str []), .nils] h) fun b h8 =>
oh (evSt 9 b c h8) fun _ h9 =>
(y1ls a b h9)
def y2gu (s : St) : OX := y1eg (s 1) (s 2) s.h
theorem y23k : T0 y1uy [.t 4] y2gu := sq y1z0 fun _ => by kernel_rfl
def y1pw (b c : AV) (h : Heap) : OX :=
ob (y8 .lss b (.int .i64 0)) fun a =>
gb a false (some b) fun e =>
gb a false (evFa 3 c) fun d =>
gb a false (evLd false 1 d h) fun j =>
gb a false (y13 1 j h) fun g =>
gb a false (y8 .geq e g) fun k =>
ob (yd a (.bool true) k) fun i =>
cnd i
 ((yf h AV.nils))
 ((y1eg b c h))
def y2kj (s : St) : OX := y1pw (s 1) (s 2) s.h
theorem y1z4 : T0 y1p9 [.t 4] y2kj := sq y23k fun _ => by kernel_rfl
def y19q (b a : AV) (h : Heap) : OX :=
oh (newC 0 (some 0) (cellsOf b) h) fun c h10 =>
(y1pw a c h10)
def y2mw (s : St) : OX := y19q (s 0) (s 1) s.h
theorem y20d : T0 y1o4 [.t 4] y2mw := sq y1z4 fun _ => by kernel_rfl
@[simp] theorem y2q2 : E.pure 81 = true := rfl
theorem y2qj (b a : AV) : (yb E).p 81 [b, a] = y19q b a [⟨0, .dead⟩, ⟨0, .dead⟩, ⟨0, .dead⟩, ⟨0, .dead⟩, ⟨0, .dead⟩, ⟨0, .dead⟩] :=
  (y15 (cf := y2hu) (by kernel_rfl) rfl).trans ((y20d _).trans (by kernel_rfl))
def y29r (a : AV) (h : Heap) : OX :=
ob (y11 [(.int .i64 0), (.int .i64 0), (.int .i64 0)] []) fun b =>
oh (evSt 3 a b h) fun _ h1 =>
(ob (evLd true 3 a h1) fun r0 =>
  yf h1 (.tup [r0, (.bool false)]))
def ykf (s : St) : OX := y29r (s 2) s.h
theorem y20p : T0 y1ip [.cell 2 true 3, .t 3] ykf := fun _ => by kernel_rfl
def ywo (a b u e : AV) (h : Heap) : OX :=
cnd e
 (ob (evFa 0 a) fun i =>
ob (evLd false 1 i h) fun c =>
ob (evFa 2 a) fun n =>
ob (evLd false 1 n h) fun j =>
ob (y11 [(.int .i64 0), (.int .i64 0), (.int .i64 0)] [(0, 1, c), (1, 1, j), (2, 1, (.int .i64 (-1)))]) fun t =>
oh (evSt 3 b t h) fun _ h2 =>
(ob (evLd true 3 b h2) fun r0 =>
  yf h2 (.tup [r0, (.bool true)])))
 (ob (y8 .eql u (.int .i64 9)) fun l =>
cnd l
 (ob (evFa 0 a) fun k =>
ob (evLd false 1 k h) fun p =>
ob (evFa 2 a) fun r =>
ob (evLd false 1 r h) fun d =>
ob (evFa 3 a) fun g =>
ob (evLd false 1 g h) fun o =>
ob (y11 [(.int .i64 0), (.int .i64 0), (.int .i64 0)] [(0, 1, p), (1, 1, d), (2, 1, o)]) fun m =>
oh (evSt 3 b m h) fun _ h3 =>
(ob (evLd true 3 b h3) fun r0 =>
  yf h3 (.tup [r0, (.bool true)])))
 ((y29r b h)))
def y2hq (s : St) : OX := ywo (s 1) (s 2) (s 5) (s 6) s.h
theorem y21x : T1 y1uq ykf (y5 0 ykf xN) [.cell 2 true 3, .t 3] y2hq := fun _ => by kernel_rfl
def y24e (b c a : AV) (h : Heap) : OX :=
ob (y8 .eql a (.int .i64 7)) fun e =>
cnd e
 ((ywo b c a e h))
 (ob (y8 .eql a (.int .i64 8)) fun d =>
cnd d
 ((ywo b c a d h))
 (ob (y8 .eql a (.int .i64 10)) fun g =>
(ywo b c a g h)))
def y268 (s : St) : OX := y24e (s 1) (s 2) (s 5) s.h
theorem y20w : T1 y1fu ykf (y5 0 ykf xN) [.cell 2 true 3, .t 3] y268 := sq y21x fun _ => by kernel_rfl
theorem y21p : T1 y1w9 ykf xN [.cell 2 true 3, .t 3] y268 := fun s => yy.trans (y20w s)
def y20o (a d : AV) (h : Heap) : OX :=
ob (evFa 0 a) fun b =>
ob (evLd false 1 b h) fun c =>
(y24e a d c h)
def y27n (s : St) : OX := y20o (s 1) (s 2) s.h
theorem y1x7 : T1 y1jb ykf xN [.cell 2 true 3, .t 3] y27n := sq y21p fun _ => by kernel_rfl
theorem y1xy : T0 y1qz [.cell 2 true 3, .t 3] y27n := sq y20p y1x7
def y1zi (b : AV) (h : Heap) : OX :=
oh (newC 0 (some 0) (cellsOf b) h) fun a h4 =>
oh (newC 0 (some 1) [(.int .i64 0), (.int .i64 0), (.int .i64 0)] h4) fun c h5 =>
(y20o a c h5)
def y2ii (s : St) : OX := y1zi (s 0) s.h
theorem y20y : T0 y1k1 [.cell 2 true 3, .t 3] y2ii := sq y1xy fun _ => by kernel_rfl
@[simp] theorem y2nh : E.pure 169 = true := rfl
theorem y2qu (a : AV) : (yb E).p 169 [a] = y1zi a [⟨0, .dead⟩, ⟨0, .dead⟩] :=
  (y15 (cf := y2gw) (by kernel_rfl) rfl).trans ((y20y _).trans (by kernel_rfl))
def y1pe (b : AV) (h : Heap) : OX :=
oh (y10 0 (some 0) 1 3 [(.int .i64 0)] [(0, (.int .i64 27)), (1, (.int .i64 30)), (2, (.int .i64 31))] h) fun a h1 =>
oh (y9 E (yb E) 0 none true 42 [b, a] h1) fun c h2 =>
(yf h2 c)
def y27u (s : St) : OX := y1pe (s 0) s.h
theorem y1qd : T0 y132 [.t 2] y27u := fun _ => by kernel_rfl
@[simp] theorem y2qn : E.pure 25 = true := rfl
theorem y2mv (a : AV) : (yb E).p 25 [a] = y1pe a [⟨0, .dead⟩] :=
  (y15 (cf := y26g) (by kernel_rfl) rfl).trans ((y1qd _).trans (by kernel_rfl))
def ys8 (d g : AV) (h : Heap) : OX :=
ob (evFa 0 g) fun e =>
ob (evLd false 1 e h) fun a =>
ob (yw 1 a d) fun b =>
ob (evLd false 1 b h) fun c =>
(yf h c)
def y2cp (s : St) : OX := ys8 (s 1) (s 2) s.h
theorem y1wd : T0 yxu [.t 4] y2cp := fun _ => by kernel_rfl
def yqt (b c : AV) (h : Heap) : OX :=
ob (y8 .lss b (.int .i64 0)) fun a =>
gb a false (some b) fun e =>
gb a false (evFa 0 c) fun k =>
gb a false (evLd false 1 k h) fun g =>
gb a false (y13 1 g h) fun d =>
gb a false (y8 .geq e d) fun j =>
ob (yd a (.bool true) j) fun i =>
cnd i
 ((yf h (.int .i64 0)))
 ((ys8 b c h))
def y2g6 (s : St) : OX := yqt (s 1) (s 2) s.h
theorem y1ft : T0 y15o [.t 4] y2g6 := sq y1wd fun _ => by kernel_rfl
def ysj (b a : AV) (h : Heap) : OX :=
oh (newC 0 (some 0) (cellsOf b) h) fun c h1 =>
(yqt a c h1)
def y29v (s : St) : OX := ysj (s 0) (s 1) s.h
theorem y1w5 : T0 y14m [.t 4] y29v := sq y1ft fun _ => by kernel_rfl
@[simp] theorem y2ns : E.pure 48 = true := rfl
theorem y2mf (b a : AV) : (yb E).p 48 [b, a] = ysj b a [⟨0, .dead⟩] :=
  (y15 (cf := y27q) (by kernel_rfl) rfl).trans ((y1w5 _).trans (by kernel_rfl))
def yn6 (h : Heap) : OX :=
(yf h (.bool false))
def y7i (s : St) : OX := yn6 s.h
theorem y1i2 : T0 yym [.t 4] y7i := fun _ => by kernel_rfl
def yho (b a c : AV) (h : Heap) : OX :=
  W E 0 yiw ⟨[(0, b), (1, a), (5, c)], h⟩ y7i (y5 0 y7i xN) (finP [.t 4])
def ybu (s : St) : OX := yho (s 0) (s 1) (s 5) s.h
theorem yo2 : T1 yiw y7i (y5 0 y7i xN) [.t 4] ybu := fun s => yj.trans (by kernel_rfl)
def ynp (c a d : AV) (h : Heap) : OX :=
ob (y8 .add d (.int .i64 1)) fun b =>
(yho c a b h)
def y2bb (s : St) : OX := ynp (s 0) (s 1) (s 5) s.h
theorem y1n2 : T1 y173 ybu (y5 0 y7i xN) [.t 4] y2bb := fun _ => by kernel_rfl
def ymq (a b c : AV) (h : Heap) : OX :=
ob (yw 1 b c) fun g =>
ob (evLd false 1 g h) fun d =>
ob (y8 .eql d a) fun e =>
cnd e
 ((yf h (.bool true)))
 ((ynp a b c h))
def y2e9 (s : St) : OX := ymq (s 0) (s 1) (s 5) s.h
theorem y1ok : T1 yxh ybu (y5 0 y7i xN) [.t 4] y2e9 := sq y1n2 fun _ => by kernel_rfl
def yny (c a b : AV) (h : Heap) : OX :=
ob (y13 1 a h) fun d =>
ob (y8 .lss b d) fun e =>
cnd e
 ((ymq c a b h))
 ((yn6 h))
def y2f6 (s : St) : OX := yny (s 0) (s 1) (s 5) s.h
theorem y1e3 : T1 ywz ybu (y5 0 y7i xN) [.t 4] y2f6 := sq y1ok fun _ => by kernel_rfl
theorem ynd (b a c : AV) (h : Heap) : yho b a c h = (yny b a c h) :=
  y28.trans ((y1c _ _ _ (n' := ybu) (fun s => yo2 s)).trans ((y1e3 _).trans (by kernel_rfl)))
theorem y1uh : T1 y16z y7i xN [.t 4] ybu := fun s => yy.trans (yo2 s)
def ymu (b a : AV) (h : Heap) : OX :=
(yho b a (.int .i64 0) h)
def y1p7 (s : St) : OX := ymu (s 0) (s 1) s.h
theorem y1qe : T1 y15u y7i xN [.t 4] y1p7 := sq y1uh fun _ => by kernel_rfl
theorem y1vy : T0 y14r [.t 4] y1p7 := sq y1i2 y1qe
def yo4 (b a : AV) (h : Heap) : OX :=
(ymu b a h)
def y2cf (s : St) : OX := yo4 (s 0) (s 1) s.h
theorem y1ql : T0 yy7 [.t 4] y2cf := sq y1vy fun _ => by kernel_rfl
@[simp] theorem y2no : E.pure 42 = true := rfl
theorem y2jf (b a : AV) : (yb E).p 42 [b, a] = yo4 b a [] :=
  (y15 (cf := y276) (by kernel_rfl) rfl).trans ((y1ql _).trans (by kernel_rfl))
end
end Go.Vm
