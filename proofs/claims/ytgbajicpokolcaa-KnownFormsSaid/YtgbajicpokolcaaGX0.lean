/- Functions of the machine as plain functions that go on with what follows. -/
import Derived.Test.YtgbajicpokolcaaGEnv
set_option linter.unusedSimpArgs false
set_option linter.unusedVariables false
set_option linter.unusedSectionVars false
namespace Go.Vm
noncomputable section
def y22n (e c : AV) (h : Heap) : OX :=
ob (evLd true 5 c h) fun t =>
oh (y9 E (yb E) 0 none true 29 [t] h) fun u h1 =>
ob (y8 .eql u (.int .i64 0)) fun a =>
gb a true (evFa 3 c) fun o =>
gb a true (evLd false 1 o h1) fun p =>
gb a true (y13 1 p h1) fun g =>
gb a true (evFa 3 e) fun r =>
gb a true (evLd false 1 r h1) fun i =>
gb a true (y13 1 i h1) fun k =>
gb a true (y8 .eql g k) fun v =>
ob (yd a v (.bool false)) fun b =>
gb b true (evLd true 5 e h1) fun l =>
gh b true (y9 E (yb E) 0 none true 77 [l] h1) h1 fun j h2 =>
gb b true (evUn .not j) fun x =>
gb b true (some x) fun d =>
gb d false (evLd true 5 c h2) fun w =>
gh d false (y9 E (yb E) 0 none true 77 [w] h2) h2 fun m h3 =>
gb b true (yd d (.bool true) m) fun y =>
ob (yd b y (.bool false)) fun n =>
(yf h3 n)
def y2m6 (s : St) : OX := y22n (s 1) (s 3) s.h
theorem y229 : T0 y1ga [.t 2] y2m6 := fun _ => by kernel_rfl
def y1bh (a b : AV) (h : Heap) : OX :=
ob (evLd true 5 a h) fun i =>
oh (y9 E (yb E) 0 none true 29 [i] h) fun d h4 =>
ob (y8 .neq d (.int .i64 0)) fun g =>
cnd g
 (ob (evLd true 5 a h4) fun j =>
ob (evLd true 5 b h4) fun c =>
oh (y9 E (yb E) 0 none true 14 [j, c] h4) fun e h5 =>
(yf h5 e))
 ((y22n a b h4))
def y2hw (s : St) : OX := y1bh (s 1) (s 3) s.h
theorem y1yh : T0 y1oj [.t 2] y2hw := sq y229 fun _ => by kernel_rfl
def y1n7 (a : AV) (h : Heap) : OX :=
ob (evLd true 5 a h) fun d =>
oh (y9 E (yb E) 0 none true 166 [d] h) fun c h6 =>
oh (newC 0 (some 1) [.nils, .nils, (.int .i64 0), .nils, .nils] h6) fun b h7 =>
oh (evSt 5 b c h7) fun _ h8 =>
(y1bh a b h8)
def y2jx (s : St) : OX := y1n7 (s 1) s.h
theorem y1ws : T0 y1r0 [.t 2] y2jx := sq y1yh fun _ => by kernel_rfl
def y199 (c : AV) (h : Heap) : OX :=
ob (evFa 3 c) fun p =>
ob (evLd false 1 p h) fun o =>
ob (y13 1 o h) fun r =>
ob (y8 .gtr r (.int .i64 400)) fun b =>
gb b false (evFa 0 c) fun k =>
gb b false (evLd false 1 k h) fun n =>
gb b false (y13 1 n h) fun d =>
gb b false (y8 .gtr d (.int .i64 100)) fun l =>
ob (yd b (.bool true) l) fun a =>
gb a false (evFa 4 c) fun g =>
gb a false (evLd false 1 g h) fun m =>
gb a false (y13 1 m h) fun i =>
gb a false (y8 .gtr i (.int .i64 50)) fun j =>
ob (yd a (.bool true) j) fun e =>
cnd e
 ((yf h (.bool true)))
 ((y1n7 c h))
def y2iw (s : St) : OX := y199 (s 1) s.h
theorem y233 : T0 y1nz [.t 2] y2iw := sq y1ws fun _ => by kernel_rfl
def y1ad (a : AV) (h : Heap) : OX :=
oh (y9 E (yb E) 0 none true 165 [] h) fun c h9 =>
ob (evUn .not c) fun b =>
cnd b
 ((yf h9 (.bool false)))
 ((y199 a h9))
def y2l3 (s : St) : OX := y1ad (s 1) s.h
theorem y23k : T0 y1ll [.t 2] y2l3 := sq y233 fun _ => by kernel_rfl
def ywp (b : AV) (h : Heap) : OX :=
oh (newC 0 (some 0) (cellsOf b) h) fun a h10 =>
(y1ad a h10)
def y2mk (s : St) : OX := ywp (s 0) s.h
theorem y24r : T0 y1rl [.t 2] y2mk := sq y23k fun _ => by kernel_rfl
@[simp] theorem y2nc : E.pure 162 = true := rfl
theorem y2o8 (a : AV) : (yb E).p 162 [a] = ywp a [⟨0, .dead⟩, ⟨0, .dead⟩] :=
  (y15 (cf := y2ml) (by kernel_rfl) rfl).trans ((y24r _).trans (by kernel_rfl))
def y1rr (a c : AV) (h : Heap) : OX :=
ob (evLd true 5 c h) fun b =>
oh (evSt 5 a b h) fun _ h1 =>
(ob (evLd true 5 a h1) fun r0 =>
  yf h1 r0)
def ybh (s : St) : OX := y1rr (s 2) (s 3) s.h
theorem y1x6 : T0 y1ve [.cell 2 true 5] ybh := fun _ => by kernel_rfl
def yqn (a b c d : AV) (h : Heap) : OX :=
  W E 0 ypd ⟨[(2, a), (3, b), (22, c), (23, d)], h⟩ ybh (y5 0 ybh xN) (finP [.cell 2 true 5])
def ycx (s : St) : OX := yqn (s 2) (s 3) (s 22) (s 23) s.h
theorem ys9 : T1 ypd ybh (y5 0 ybh xN) [.cell 2 true 5] ycx := fun s => yj.trans (by kernel_rfl)
def y2bv (e c d b : AV) (h : Heap) : OX :=
ob (y8 .add b (.int .i64 1)) fun a =>
(yqn e c d a h)
def y2ko (s : St) : OX := y2bv (s 2) (s 3) (s 22) (s 23) s.h
theorem y23c : T1 y1t4 ycx (y5 0 ybh xN) [.cell 2 true 5] y2ko := fun _ => by kernel_rfl
def y2f8 (n b m a : AV) (h : Heap) : OX :=
ob (evFa 3 b) fun e =>
ob (evLd false 1 e h) fun p =>
ob (evFa 3 b) fun d =>
ob (evLd false 1 d h) fun o =>
ob (yx 9 o a) fun k =>
ob (evFa 8 k) fun g =>
ob (evLd false 1 g h) fun c =>
ofp (y4k E (yb E) 0 none true 39 [c] h) fun f9 =>
oh (y9 E (yb E) 0 none true 39 [c] h) fun l h2 =>
ob (yx 9 p a) fun j =>
ob (evFa 8 j) fun i =>
oh (evSt 1 i l h2) fun _ h3 =>
okK (yg [([], []), (ids1 e, []), ([], []), ([], []), (ids1 d, []), ([], []), ([], []), ([], []), (ids1 g, []), f9, ([], []), ([], []), ([], ids1 i)] [(1, 9)]) <|
(y2bv n b m a h3)
def y2kb (s : St) : OX := y2f8 (s 2) (s 3) (s 22) (s 23) s.h
theorem y20u : T1 y1mw ycx (y5 0 ybh xN) [.cell 2 true 5] y2kb := sq y23c fun _ => by kernel_rfl
def y228 (b a d c e : AV) (h : Heap) : OX :=
cnd e
 ((y2f8 b a d c h))
 ((y1rr b a h))
def y2lk (s : St) : OX := y228 (s 2) (s 3) (s 22) (s 23) (s 24) s.h
theorem y219 : T1 y1fv ycx (y5 0 ybh xN) [.cell 2 true 5] y2lk := sq y20u fun _ => by kernel_rfl
def y24g (d c b a : AV) (h : Heap) : OX :=
ob (y8 .lss a b) fun e =>
(y228 d c b a e h)
def y2k8 (s : St) : OX := y24g (s 2) (s 3) (s 22) (s 23) s.h
theorem y230 : T1 y1vf ycx (y5 0 ybh xN) [.cell 2 true 5] y2k8 := sq y219 fun _ => by kernel_rfl
theorem yrw (a b c d : AV) (h : Heap) : yqn a b c d h = (y24g a b c d h) :=
  y28.trans ((y1c _ _ _ (n' := ycx) (fun s => ys9 s)).trans ((y230 _).trans (by kernel_rfl)))
theorem y21p : T1 y1q9 ybh xN [.cell 2 true 5] ycx := fun s => yy.trans (ys9 s)
def y1s2 (e a : AV) (h : Heap) : OX :=
ob (evFa 3 a) fun c =>
ob (evLd false 1 c h) fun b =>
ob (y13 1 b h) fun d =>
(yqn e a d (.int .i64 0) h)
def y269 (s : St) : OX := y1s2 (s 2) (s 3) s.h
theorem y24b : T1 y1qw ybh xN [.cell 2 true 5] y269 := sq y21p fun _ => by kernel_rfl
theorem y257 : T0 y1nm [.cell 2 true 5] y269 := sq y1x6 y24b
def yt5 (a v : AV) (h : Heap) : OX :=
ob (evFa 0 a) fun m =>
ob (evLd false 1 m h) fun k =>
ofp (y4k E (yb E) 0 (some 2) false 39 [k] h) fun f2 =>
oh (y9 E (yb E) 0 (some 2) false 39 [k] h) fun u h4 =>
ob (evFa 1 a) fun l =>
ob (evLd false 1 l h4) fun g =>
ofp (y4k E (yb E) 0 (some 3) false 39 [g] h4) fun f5 =>
oh (y9 E (yb E) 0 (some 3) false 39 [g] h4) fun n h5 =>
ob (evFa 2 a) fun i =>
ob (evLd false 1 i h5) fun t =>
ob (evFa 3 a) fun c =>
ob (evLd false 1 c h5) fun j =>
ofp (y4k E (yb E) 0 (some 4) false 40 [j] h5) fun f10 =>
oh (y9 E (yb E) 0 (some 4) false 40 [j] h5) fun o h6 =>
ob (evFa 4 a) fun e =>
ob (evLd false 1 e h6) fun d =>
ofp (y4k E (yb E) 0 (some 5) false 41 [d] h6) fun f13 =>
oh (y9 E (yb E) 0 (some 5) false 41 [d] h6) fun r h7 =>
ob (y10 [.nils, .nils, (.int .i64 0), .nils, .nils] [(0, 1, u), (1, 1, n), (2, 1, t), (3, 1, o), (4, 1, r)]) fun p =>
oh (newC 0 (some 6) [.nils, .nils, (.int .i64 0), .nils, .nils] h7) fun b h8 =>
oh (evSt 5 b p h8) fun _ h9 =>
okK (yg [([], []), (ids1 m, []), f2, ([], []), (ids1 l, []), f5, ([], []), (ids1 i, []), ([], []), (ids1 c, []), f10, ([], []), (ids1 e, []), f13, ([], []), ([], [0 + 6]), ([], ids1 b)] [(2, 4), (2, 7), (5, 7), (2, 9), (5, 9), (7, 10), (2, 12), (5, 12), (10, 12), (7, 13), (1, 15), (2, 15), (4, 15), (5, 15), (7, 15), (9, 15), (10, 15), (12, 15), (13, 15)]) <|
(y1s2 v b h9)
def y2ei (s : St) : OX := yt5 (s 1) (s 2) s.h
theorem y1hx : T0 y13o [.cell 2 true 5] y2ei := sq y257 fun _ => by kernel_rfl
def y12k (c : AV) (h : Heap) : OX :=
oh (newC 0 (some 0) (cellsOf c) h) fun b h10 =>
oh (newC 0 (some 1) [.nils, .nils, (.int .i64 0), .nils, .nils] h10) fun a h11 =>
(yt5 b a h11)
def y2f2 (s : St) : OX := y12k (s 0) s.h
theorem y1s8 : T0 y16p [.cell 2 true 5] y2f2 := sq y1hx fun _ => by kernel_rfl
@[simp] theorem y2p8 : E.pure 13 = true := rfl
theorem y2p6 (a : AV) : (yb E).p 13 [a] = y12k a [⟨0, .dead⟩, ⟨0, .dead⟩, ⟨0, .dead⟩, ⟨0, .dead⟩, ⟨0, .dead⟩, ⟨0, .dead⟩, ⟨0, .dead⟩] :=
  (y15 (cf := y2i5) (by kernel_rfl) rfl).trans ((y1s8 _).trans (by kernel_rfl))
def y1qz (h : Heap) : OX :=
(yf h (.bool true))
def y7f (s : St) : OX := y1qz s.h
theorem y1t1 : T0 y169 [.t 4] y7f := fun _ => by kernel_rfl
def yji (a c b : AV) (h : Heap) : OX :=
  W E 0 ykk ⟨[(2, a), (3, c), (6, b)], h⟩ y7f (y5 2 y7f xN) (finP [.t 4])
def ybs (s : St) : OX := yji (s 2) (s 3) (s 6) s.h
theorem yn7 : T1 ykk y7f (y5 2 y7f xN) [.t 4] ybs := fun s => yj.trans (by kernel_rfl)
def y125 (a c b : AV) (h : Heap) : OX :=
ob (y8 .add b (.int .i64 1)) fun d =>
(yji a c d h)
def y2ba (s : St) : OX := y125 (s 2) (s 3) (s 6) s.h
theorem y1le : T1 y112 ybs (y5 2 y7f xN) [.t 4] y2ba := fun _ => by kernel_rfl
def yys (c b a : AV) (h : Heap) : OX :=
ob (evFa 4 c) fun k =>
ob (evLd false 1 k h) fun j =>
ob (yx 4 j a) fun n =>
ob (evLd true 4 n h) fun m =>
ob (evFa 4 b) fun d =>
ob (evLd false 1 d h) fun g =>
ob (yx 4 g a) fun e =>
ob (evLd true 4 e h) fun i =>
ob (y1w6 true [0, 0, 0, 2] m i) fun l =>
cnd l
 ((yf h (.bool false)))
 ((y125 c b a h))
def y2ff (s : St) : OX := yys (s 2) (s 3) (s 6) s.h
theorem y1cu : T1 y12z ybs (y5 2 y7f xN) [.t 4] y2ff := sq y1le fun _ => by kernel_rfl
def yt0 (a i b : AV) (h : Heap) : OX :=
ob (evFa 4 a) fun d =>
ob (evLd false 1 d h) fun c =>
ob (y13 1 c h) fun g =>
ob (y8 .lss b g) fun e =>
cnd e
 ((yys a i b h))
 ((y1qz h))
def y2cv (s : St) : OX := yt0 (s 2) (s 3) (s 6) s.h
theorem y1eq : T1 y09 ybs (y5 2 y7f xN) [.t 4] y2cv := sq y1cu fun _ => by kernel_rfl
theorem ynb (a c b : AV) (h : Heap) : yji a c b h = (yt0 a c b h) :=
  y28.trans ((y1c _ _ _ (n' := ybs) (fun s => yn7 s)).trans ((y1eq _).trans (by kernel_rfl)))
theorem y1di : T1 y18d y7f xN [.t 4] ybs := fun s => yy.trans (yn7 s)
def y1n6 (a b : AV) (h : Heap) : OX :=
(yji a b (.int .i64 0) h)
def y6m (s : St) : OX := y1n6 (s 2) (s 3) s.h
theorem y1vy : T1 y0y y7f xN [.t 4] y6m := sq y1di fun _ => by kernel_rfl
theorem y1dz : T0 y16z [.t 4] y6m := sq y1t1 y1vy
def yjo (a b c : AV) (h : Heap) : OX :=
  W E 0 yi7 ⟨[(2, a), (3, b), (5, c)], h⟩ y6m (y5 0 y6m xN) (finP [.t 4])
def ybp (s : St) : OX := yjo (s 2) (s 3) (s 5) s.h
theorem ylw : T1 yi7 y6m (y5 0 y6m xN) [.t 4] ybp := fun s => yj.trans (by kernel_rfl)
def yw8 (a b d : AV) (h : Heap) : OX :=
ob (y8 .add d (.int .i64 1)) fun c =>
(yjo a b c h)
def y23w (s : St) : OX := yw8 (s 2) (s 3) (s 5) s.h
theorem y1bn : T1 ysc ybp (y5 0 y6m xN) [.t 4] y23w := fun _ => by kernel_rfl
def yps (c b a : AV) (h : Heap) : OX :=
ob (evFa 3 c) fun e =>
ob (evLd false 1 e h) fun n =>
ob (yx 9 n a) fun k =>
ob (evLd true 9 k h) fun i =>
ob (evFa 3 b) fun g =>
ob (evLd false 1 g h) fun l =>
ob (yx 9 l a) fun j =>
ob (evLd true 9 j h) fun o =>
oh (y9 E (yb E) 0 none true 28 [i, o] h) fun m h1 =>
ob (evUn .not m) fun d =>
cnd d
 ((yf h1 (.bool false)))
 ((yw8 c b a h1))
def y224 (s : St) : OX := yps (s 2) (s 3) (s 5) s.h
theorem y1b8 : T1 ytf ybp (y5 0 y6m xN) [.t 4] y224 := sq y1bn fun _ => by kernel_rfl
def yip (a b c : AV) (h : Heap) : OX :=
ob (evFa 3 a) fun e =>
ob (evLd false 1 e h) fun i =>
ob (y13 1 i h) fun g =>
ob (y8 .lss c g) fun d =>
cnd d
 ((yps a b c h))
 ((y1n6 a b h))
def y1zw (s : St) : OX := yip (s 2) (s 3) (s 5) s.h
theorem y19z : T1 ytq ybp (y5 0 y6m xN) [.t 4] y1zw := sq y1b8 fun _ => by kernel_rfl
theorem yna (a b c : AV) (h : Heap) : yjo a b c h = (yip a b c h) :=
  y28.trans ((y1c _ _ _ (n' := ybp) (fun s => ylw s)).trans ((y19z _).trans (by kernel_rfl)))
theorem y1ai : T1 yry y6m xN [.t 4] ybp := fun s => yy.trans (ylw s)
def ywm (a b : AV) (h : Heap) : OX :=
(yjo a b (.int .i64 0) h)
def yzg (s : St) : OX := ywm (s 2) (s 3) s.h
theorem y1aa : T1 yq8 y6m xN [.t 4] yzg := sq y1ai fun _ => by kernel_rfl
theorem y1cm : T0 yra [.t 4] yzg := sq y1dz y1aa
def yal (g e : AV) (h : Heap) : OX :=
ob (evFa 0 g) fun w =>
ob (evLd false 1 w h) fun r =>
ob (evFa 0 e) fun u =>
ob (evLd false 1 u h) fun y =>
oh (y9 E (yb E) 0 none true 11 [r, y] h) fun v h2 =>
ob (evUn .not v) fun c =>
gb c false (evFa 1 g) fun x =>
gb c false (evLd false 1 x h2) fun L =>
gb c false (evFa 1 e) fun z =>
gb c false (evLd false 1 z h2) fun M =>
gh c false (y9 E (yb E) 0 none true 11 [L, M] h2) h2 fun D h3 =>
gb c false (evUn .not D) fun l =>
ob (yd c (.bool true) l) fun d =>
gb d false (evFa 2 g) fun H =>
gb d false (evLd false 1 H h3) fun C =>
gb d false (evFa 2 e) fun P =>
gb d false (evLd false 1 P h3) fun k =>
gb d false (y8 .neq C k) fun o =>
ob (yd d (.bool true) o) fun b =>
gb b false (evFa 3 g) fun n =>
gb b false (evLd false 1 n h3) fun J =>
gb b false (y13 1 J h3) fun K =>
gb b false (evFa 3 e) fun m =>
gb b false (evLd false 1 m h3) fun G =>
gb b false (y13 1 G h3) fun B =>
gb b false (y8 .neq K B) fun F =>
ob (yd b (.bool true) F) fun a =>
gb a false (evFa 4 g) fun i =>
gb a false (evLd false 1 i h3) fun p =>
gb a false (y13 1 p h3) fun N =>
gb a false (evFa 4 e) fun A =>
gb a false (evLd false 1 A h3) fun I =>
gb a false (y13 1 I h3) fun t =>
gb a false (y8 .neq N t) fun j =>
ob (yd a (.bool true) j) fun O =>
cnd O
 ((yf h3 (.bool false)))
 ((ywm g e h3))
def y22m (s : St) : OX := yal (s 2) (s 3) s.h
theorem y1b9 : T0 yrt [.t 4] y22m := sq y1cm fun _ => by kernel_rfl
def yap (c b : AV) (h : Heap) : OX :=
oh (newC 0 (some 0) (cellsOf c) h) fun a h4 =>
oh (newC 0 (some 1) (cellsOf b) h4) fun d h5 =>
(yal a d h5)
def y20y (s : St) : OX := yap (s 0) (s 1) s.h
theorem y18v : T0 yqa [.t 4] y20y := sq y1b9 fun _ => by kernel_rfl
@[simp] theorem y2qg : E.pure 14 = true := rfl
theorem y2j8 (b a : AV) : (yb E).p 14 [b, a] = yap b a [⟨0, .dead⟩, ⟨0, .dead⟩] :=
  (y15 (cf := y27a) (by kernel_rfl) rfl).trans ((y18v _).trans (by kernel_rfl))
def y29d (h : Heap) : OX :=
(yf h (.int .i64 0))
def yb7 (s : St) : OX := y29d s.h
theorem y1zj : T0 y1wk [.t 2] yb7 := fun _ => by kernel_rfl
def yni (b c a e d : AV) (h : Heap) : OX :=
  W E 0 yos ⟨[(1, b), (3, c), (136, a), (137, e), (138, d)], h⟩ yb7 (y5 6 yb7 xN) (finP [.t 2])
def ycs (s : St) : OX := yni (s 1) (s 3) (s 136) (s 137) (s 138) s.h
theorem yq4 : T1 yos yb7 (y5 6 yb7 xN) [.t 2] ycs := fun s => yj.trans (by kernel_rfl)
def y28m (b d a g e : AV) (h : Heap) : OX :=
ob (y8 .add e (.int .i64 1)) fun c =>
(yni b d a g c h)
def y2jz (s : St) : OX := y28m (s 1) (s 3) (s 136) (s 137) (s 138) s.h
theorem y22k : T1 y1gn ycs (y5 6 yb7 xN) [.t 2] y2jz := fun _ => by kernel_rfl
def ypx (l i j Q k : AV) (h : Heap) : OX :=
ob (yx 4 j k) fun n =>
ob (evLd true 4 n h) fun t =>
oh (newC 0 (some 2) [(.int .i64 0), (.int .i64 0), (.int .i64 0), (.str [])] h) fun b h1 =>
oh (evSt 4 b t h1) fun _ h2 =>
ob (evFa 0 b) fun J =>
ob (evLd false 1 J h2) fun P =>
ob (y8 .lss P (.int .i64 0)) fun c =>
gb c false (evFa 0 b) fun v =>
gb c false (evLd false 1 v h2) fun K =>
gb c false (evFa 1 b) fun r =>
gb c false (evLd false 1 r h2) fun N =>
gb c false (y8 .geq K N) fun H =>
ob (yd c (.bool true) H) fun d =>
gb d false (evFa 1 b) fun F =>
gb d false (evLd false 1 F h2) fun A =>
gb d false (some i) fun G =>
gb d false (y8 .gtr A G) fun p =>
ob (yd d (.bool true) p) fun g =>
gb g false (evFa 2 b) fun y =>
gb g false (evLd false 1 y h2) fun S =>
gb g false (y8 .lss S (.int .i64 0)) fun B =>
ob (yd g (.bool true) B) fun e =>
gb e false (evFa 2 b) fun u =>
gb e false (evLd false 1 u h2) fun I =>
gb e false (some i) fun z =>
gb e false (y8 .geq I z) fun R =>
ob (yd e (.bool true) R) fun a =>
gb a false (evFa 3 l) fun D =>
gb a false (evLd false 1 D h2) fun o =>
gb a false (evFa 2 b) fun M =>
gb a false (evLd false 1 M h2) fun x =>
gb a false (yx 9 o x) fun C =>
gb a false (evFa 0 C) fun O =>
gb a false (evLd false 1 O h2) fun m =>
gb a false (y8 .neq m (.int .i64 32)) fun w =>
ob (yd a (.bool true) w) fun L =>
cnd L
 ((yf h2 (.int .i64 80)))
 ((y28m l i j Q k h2))
def y2lj (s : St) : OX := ypx (s 1) (s 3) (s 136) (s 137) (s 138) s.h
theorem y250 : T1 y1rp ycs (y5 6 yb7 xN) [.t 2] y2lj := sq y22k fun _ => by kernel_rfl
def y21j (b d a g e c : AV) (h : Heap) : OX :=
cnd c
 ((ypx b d a g e h))
 ((y29d h))
def y2hu (s : St) : OX := y21j (s 1) (s 3) (s 136) (s 137) (s 138) (s 139) s.h
theorem y234 : T1 y1db ycs (y5 6 yb7 xN) [.t 2] y2hu := sq y250 fun _ => by kernel_rfl
def y21c (d g c b a : AV) (h : Heap) : OX :=
ob (y8 .lss a b) fun e =>
(y21j d g c b a e h)
def y2gx (s : St) : OX := y21c (s 1) (s 3) (s 136) (s 137) (s 138) s.h
theorem y20f : T1 y1sv ycs (y5 6 yb7 xN) [.t 2] y2gx := sq y234 fun _ => by kernel_rfl
theorem yq0 (b c a e d : AV) (h : Heap) : yni b c a e d h = (y21c b c a e d h) :=
  y28.trans ((y1c _ _ _ (n' := ycs) (fun s => yq4 s)).trans ((y20f _).trans (by kernel_rfl)))
theorem y1zr : T1 y1vl yb7 xN [.t 2] ycs := fun s => yy.trans (yq4 s)
def y1t0 (b c : AV) (h : Heap) : OX :=
ob (evFa 4 b) fun d =>
ob (evLd false 1 d h) fun a =>
ob (y13 1 a h) fun e =>
(yni b c a e (.int .i64 0) h)
def y5x (s : St) : OX := y1t0 (s 1) (s 3) s.h
theorem y212 : T1 y1kw yb7 xN [.t 2] y5x := sq y1zr fun _ => by kernel_rfl
theorem y22f : T0 y1up [.t 2] y5x := sq y1zj y212
def yf8 (a c d b e : AV) (h : Heap) : OX :=
  W E 0 yho ⟨[(1, a), (3, c), (92, d), (93, b), (94, e)], h⟩ y5x (y5 4 y5x xN) (finP [.t 2])
def y8h (s : St) : OX := yf8 (s 1) (s 3) (s 92) (s 93) (s 94) s.h
theorem ymg : T1 yho y5x (y5 4 y5x xN) [.t 2] y8h := fun s => yj.trans (by kernel_rfl)
def y11o (a d e b g : AV) (h : Heap) : OX :=
ob (y8 .add g (.int .i64 1)) fun c =>
(yf8 a d e b c h)
def yar (s : St) : OX := y11o (s 1) (s 3) (s 92) (s 93) (s 94) s.h
theorem y1pt : T1 yyu y8h (y5 4 y5x xN) [.t 2] yar := fun _ => by kernel_rfl
def yca (g k i e l r n : AV) (h : Heap) : OX :=
ob (evFa 0 e) fun M =>
ob (evLd false 1 M h) fun y =>
ob (y8 .eql y (.int .i64 32)) fun c =>
gb c true (some i) fun x =>
gb c true (y8 .eql x (.int .i64 0)) fun N =>
gb c true (some N) fun b =>
gb b false (evFa 3 g) fun O =>
gb b false (evLd false 1 O h) fun t =>
gb b false (some i) fun z =>
gb b false (y8 .sub z (.int .i64 1)) fun I =>
gb b false (yx 9 t I) fun m =>
gb b false (evLd true 9 m h) fun D =>
gh b false (y9 E (yb E) 0 none true 24 [D] h) h fun F h3 =>
gb b false (evUn .not F) fun p =>
gb c true (yd b (.bool true) p) fun v =>
ob (yd c v (.bool false)) fun d =>
gb d false (evLd true 9 e h3) fun L =>
gh d false (y9 E (yb E) 0 none true 22 [L] h3) h3 fun K h4 =>
gb d false (some K) fun a =>
gb a true (evFa 3 g) fun C =>
gb a true (evLd false 1 C h4) fun B =>
gb a true (evFa 6 e) fun H =>
gb a true (evLd false 1 H h4) fun j =>
gb a true (yx 9 B j) fun o =>
gb a true (evFa 0 o) fun G =>
gb a true (evLd false 1 G h4) fun A =>
gb a true (y8 .eql A (.int .i64 32)) fun J =>
gb d false (yd a J (.bool false)) fun w =>
ob (yd d (.bool true) w) fun u =>
cnd u
 ((yf h4 (.int .i64 80)))
 ((y11o g k l r n h4))
def y2c1 (s : St) : OX := yca (s 1) (s 3) (s 8) (s 9) (s 92) (s 93) (s 94) s.h
theorem y1w7 : T1 y18o yar (y5 5 yar (y5 4 y5x xN)) [.t 2] y2c1 := fun _ => by kernel_rfl
def yyk (a i m b k c l : AV) (h : Heap) : OX :=
ob (evLd true 5 a h) fun g =>
ob (evLd true 9 b h) fun j =>
oh (y9 E (yb E) 0 none true 63 [g, j] h) fun e h5 =>
ob (evUn .not e) fun d =>
cnd d
 ((yf h5 (.int .i64 80)))
 ((yca a i m b k c l h5))
def y2d9 (s : St) : OX := yyk (s 1) (s 3) (s 8) (s 9) (s 92) (s 93) (s 94) s.h
theorem y1ji : T1 y187 yar (y5 5 yar (y5 4 y5x xN)) [.t 2] y2d9 := sq y1w7 fun _ => by kernel_rfl
def ytw (d g c e a : AV) (h : Heap) : OX :=
ob (yx 9 c a) fun j =>
ob (evLd true 9 j h) fun i =>
oh (newC 0 (some 1) [(.int .i64 0), (.int .i64 0), (.int .i64 0), (.int .i64 0), (.int .i64 0), (.int .i64 0), (.int .i64 0), (.str []), .nils] h) fun b h6 =>
oh (evSt 9 b i h6) fun _ h7 =>
(yyk d g a b c e a h7)
def ywj (s : St) : OX := ytw (s 1) (s 3) (s 92) (s 93) (s 94) s.h
theorem y1p6 : T1 y12m yar (y5 5 yar (y5 4 y5x xN)) [.t 2] ywj := sq y1ji fun _ => by kernel_rfl
theorem y1d7 : T1 y168 yar (y5 4 y5x xN) [.t 2] ywj := fun s => yy.trans (y1p6 s)
theorem y1md : T1 y08 y8h (y5 4 y5x xN) [.t 2] ywj := sq y1pt y1d7
def yxi (a b e c g d : AV) (h : Heap) : OX :=
cnd d
 ((ytw a b e c g h))
 ((y1t0 a b h))
def y2bz (s : St) : OX := yxi (s 1) (s 3) (s 92) (s 93) (s 94) (s 95) s.h
theorem y1jo : T1 y13k y8h (y5 4 y5x xN) [.t 2] y2bz := sq y1md fun _ => by kernel_rfl
def y17n (c e g a b : AV) (h : Heap) : OX :=
ob (y8 .lss b a) fun d =>
(yxi c e g a b d h)
def y2dh (s : St) : OX := y17n (s 1) (s 3) (s 92) (s 93) (s 94) s.h
theorem y1hf : T1 yxv y8h (y5 4 y5x xN) [.t 2] y2dh := sq y1jo fun _ => by kernel_rfl
theorem yml (a c d b e : AV) (h : Heap) : yf8 a c d b e h = (y17n a c d b e h) :=
  y28.trans ((y1c _ _ _ (n' := y8h) (fun s => ymg s)).trans ((y1hf _).trans (by kernel_rfl)))
theorem y1sw : T1 y13j y5x xN [.t 2] y8h := fun s => yy.trans (ymg s)
def ytr (a e : AV) (h : Heap) : OX :=
ob (evFa 3 a) fun d =>
ob (evLd false 1 d h) fun b =>
ob (y13 1 b h) fun c =>
(yf8 a e b c (.int .i64 0) h)
def y5p (s : St) : OX := ytr (s 1) (s 3) s.h
theorem y1eb : T1 yyy y5x xN [.t 2] y5p := sq y1sw fun _ => by kernel_rfl
theorem y1i4 : T0 y166 [.t 2] y5p := sq y22f y1eb
def yf5 (b d e c a : AV) (h : Heap) : OX :=
  W E 0 yhw ⟨[(1, b), (3, d), (62, e), (63, c), (64, a)], h⟩ y5p (y5 2 y5p xN) (finP [.t 2])
def y8w (s : St) : OX := yf5 (s 1) (s 3) (s 62) (s 63) (s 64) s.h
theorem ynd : T1 yhw y5p (y5 2 y5p xN) [.t 2] y8w := fun s => yj.trans (by kernel_rfl)
def y1n3 (b e g d a : AV) (h : Heap) : OX :=
ob (y8 .add a (.int .i64 1)) fun c =>
(yf5 b e g d c h)
def y2c9 (s : St) : OX := y1n3 (s 1) (s 3) (s 62) (s 63) (s 64) s.h
theorem y1vd : T1 yyg y8w (y5 2 y5p xN) [.t 2] y2c9 := fun _ => by kernel_rfl
def yku (e m i p c : AV) (h : Heap) : OX :=
ob (yx 1 i c) fun y =>
ob (evLd false 1 y h) fun g =>
ob (y8 .lss g (.int .i64 0)) fun b =>
gb b false (some g) fun k =>
gb b false (evFa 0 e) fun v =>
gb b false (evLd false 1 v h) fun r =>
gb b false (y13 1 r h) fun A =>
gb b false (y8 .geq k A) fun x =>
ob (yd b (.bool true) x) fun a =>
gb a false (evFa 1 e) fun o =>
gb a false (evLd false 1 o h) fun n =>
gb a false (some c) fun u =>
gb a false (yag 1 n none (some u)) fun l =>
gb a false (some g) fun t =>
gh a false (y9 E (yb E) 0 none true 46 [l, t] h) h fun w h8 =>
ob (yd a (.bool true) w) fun d =>
gb d false (some c) fun B =>
gb d false (y8 .gtr B (.int .i64 20)) fun z =>
ob (yd d (.bool true) z) fun j =>
cnd j
 ((yf h8 (.int .i64 80)))
 ((y1n3 e m i p c h8))
def y2e8 (s : St) : OX := yku (s 1) (s 3) (s 62) (s 63) (s 64) s.h
theorem y1ho : T1 y134 y8w (y5 2 y5p xN) [.t 2] y2e8 := sq y1vd fun _ => by kernel_rfl
def yzo (a b g d c e : AV) (h : Heap) : OX :=
cnd e
 ((yku a b g d c h))
 ((ytr a b h))
def y2bt (s : St) : OX := yzo (s 1) (s 3) (s 62) (s 63) (s 64) (s 65) s.h
theorem y1j8 : T1 yz5 y8w (y5 2 y5p xN) [.t 2] y2bt := sq y1ho fun _ => by kernel_rfl
def y128 (c d g b a : AV) (h : Heap) : OX :=
ob (y8 .lss a b) fun e =>
(yzo c d g b a e h)
def y2e6 (s : St) : OX := y128 (s 1) (s 3) (s 62) (s 63) (s 64) s.h
theorem y1sg : T1 y16x y8w (y5 2 y5p xN) [.t 2] y2e6 := sq y1j8 fun _ => by kernel_rfl
theorem yod (b d e c a : AV) (h : Heap) : yf5 b d e c a h = (y128 b d e c a h) :=
  y28.trans ((y1c _ _ _ (n' := y8w) (fun s => ynd s)).trans ((y1sg _).trans (by kernel_rfl)))
theorem y1gg : T1 y11t y5p xN [.t 2] y8w := fun s => yy.trans (ynd s)
def yq2 (a e : AV) (h : Heap) : OX :=
ob (evFa 1 a) fun d =>
ob (evLd false 1 d h) fun b =>
ob (y13 1 b h) fun c =>
(yf5 a e b c (.int .i64 0) h)
def y5q (s : St) : OX := yq2 (s 1) (s 3) s.h
theorem y1jb : T1 y17i y5p xN [.t 2] y5q := sq y1gg fun _ => by kernel_rfl
theorem y1pl : T0 y15m [.t 2] y5q := sq y1i4 y1jb
def yfe (a d e c b : AV) (h : Heap) : OX :=
  W E 0 yil ⟨[(1, a), (3, d), (48, e), (49, c), (50, b)], h⟩ y5q (y5 0 y5q xN) (finP [.t 2])
def y8o (s : St) : OX := yfe (s 1) (s 3) (s 48) (s 49) (s 50) s.h
theorem yn2 : T1 yil y5q (y5 0 y5q xN) [.t 2] y8o := fun s => yj.trans (by kernel_rfl)
def y1nv (a e g d b : AV) (h : Heap) : OX :=
ob (y8 .add b (.int .i64 1)) fun c =>
(yfe a e g d c h)
def y2b6 (s : St) : OX := y1nv (s 1) (s 3) (s 48) (s 49) (s 50) s.h
theorem y1dh : T1 y110 y8o (y5 0 y5q xN) [.t 2] y2b6 := fun _ => by kernel_rfl
def yti (e l d j c : AV) (h : Heap) : OX :=
ob (yx 1 d c) fun m =>
ob (evLd false 1 m h) fun b =>
ob (y8 .lss b (.int .i64 1)) fun a =>
gb a false (some b) fun i =>
gb a false (y8 .gtr i (.int .i64 3)) fun g =>
ob (yd a (.bool true) g) fun k =>
cnd k
 ((yf h (.int .i64 80)))
 ((y1nv e l d j c h))
def y2dv (s : St) : OX := yti (s 1) (s 3) (s 48) (s 49) (s 50) s.h
theorem y1h9 : T1 y17f y8o (y5 0 y5q xN) [.t 2] y2dv := sq y1dh fun _ => by kernel_rfl
def y11f (a b g e c d : AV) (h : Heap) : OX :=
cnd d
 ((yti a b g e c h))
 ((yq2 a b h))
def y2de (s : St) : OX := y11f (s 1) (s 3) (s 48) (s 49) (s 50) (s 51) s.h
theorem y1u5 : T1 y17j y8o (y5 0 y5q xN) [.t 2] y2de := sq y1h9 fun _ => by kernel_rfl
def y11a (c e g b a : AV) (h : Heap) : OX :=
ob (y8 .lss a b) fun d =>
(y11f c e g b a d h)
def y2a8 (s : St) : OX := y11a (s 1) (s 3) (s 48) (s 49) (s 50) s.h
theorem y1wc : T1 yzi y8o (y5 0 y5q xN) [.t 2] y2a8 := sq y1u5 fun _ => by kernel_rfl
theorem ylq (a d e c b : AV) (h : Heap) : yfe a d e c b h = (y11a a d e c b h) :=
  y28.trans ((y1c _ _ _ (n' := y8o) (fun s => yn2 s)).trans ((y1wc _).trans (by kernel_rfl)))
theorem y1rv : T1 y151 y5q xN [.t 2] y8o := fun s => yy.trans (yn2 s)
def ymi (a e : AV) (h : Heap) : OX :=
ob (evFa 0 a) fun c =>
ob (evLd false 1 c h) fun b =>
ob (y13 1 b h) fun d =>
(yfe a e b d (.int .i64 0) h)
def y1ig (s : St) : OX := ymi (s 1) (s 3) s.h
theorem y1oi : T1 y13s y5q xN [.t 2] y1ig := sq y1rv fun _ => by kernel_rfl
theorem y1t9 : T0 yxn [.t 2] y1ig := sq y1pl y1oi
def yeq (c d : AV) (h : Heap) : OX :=
ob (y8 .lss d (.int .i64 1)) fun i =>
gb i false (some d) fun x =>
gb i false (y8 .gtr x (.int .i64 20000)) fun m =>
ob (yd i (.bool true) m) fun b =>
gb b false (evFa 0 c) fun A =>
gb b false (evLd false 1 A h) fun w =>
gb b false (y13 1 w h) fun G =>
gb b false (y8 .gtr G (.int .i64 20000)) fun l =>
ob (yd b (.bool true) l) fun e =>
gb e false (evFa 2 c) fun p =>
gb e false (evLd false 1 p h) fun n =>
gb e false (y8 .lss n (.int .i64 0)) fun C =>
ob (yd e (.bool true) C) fun g =>
gb g false (evFa 2 c) fun z =>
gb g false (evLd false 1 z h) fun v =>
gb g false (y8 .gtr v (.int .i64 3)) fun y =>
ob (yd g (.bool true) y) fun a =>
gb a false (evFa 3 c) fun j =>
gb a false (evLd false 1 j h) fun o =>
gb a false (some d) fun D =>
gb a false (y8 .sub D (.int .i64 1)) fun u =>
gb a false (yx 9 o u) fun B =>
gb a false (evLd true 9 B h) fun r =>
gh a false (y9 E (yb E) 0 none true 24 [r] h) h fun k h9 =>
gb a false (evUn .not k) fun F =>
ob (yd a (.bool true) F) fun t =>
cnd t
 ((yf h9 (.int .i64 80)))
 ((ymi c d h9))
def y2ep (s : St) : OX := yeq (s 1) (s 3) s.h
theorem y1tp : T0 y12x [.t 2] y2ep := sq y1t9 fun _ => by kernel_rfl
def ydn (a : AV) (h : Heap) : OX :=
ob (evFa 3 a) fun c =>
ob (evLd false 1 c h) fun b =>
ob (y13 1 b h) fun d =>
(yeq a d h)
def y27t (s : St) : OX := ydn (s 1) s.h
theorem y1el : T0 yze [.t 2] y27t := sq y1tp fun _ => by kernel_rfl
def yc8 (b : AV) (h : Heap) : OX :=
oh (newC 0 (some 0) (cellsOf b) h) fun a h10 =>
(ydn a h10)
def y2bf (s : St) : OX := yc8 (s 0) s.h
theorem y1rc : T0 y181 [.t 2] y2bf := sq y1el fun _ => by kernel_rfl
@[simp] theorem y2rc : E.pure 8 = true := rfl
theorem y2qv (a : AV) : (yb E).p 8 [a] = yc8 a [⟨0, .dead⟩, ⟨0, .dead⟩, ⟨0, .dead⟩] :=
  (y15 (cf := y2ia) (by kernel_rfl) rfl).trans ((y1rc _).trans (by kernel_rfl))
def y2co (h : Heap) : OX :=
oh (y12 0 (some 0) 1 2 [(.int .i64 0)] [(0, (.int .i64 1)), (1, (.int .i64 3))] h) fun F h1 =>
oh (y12 0 (some 1) 1 1 [(.int .i64 0)] [(0, (.int .i64 1))] h1) fun k h2 =>
ob (y10 [(.int .i64 0), (.int .i64 0), (.int .i64 0), (.int .i64 0), (.int .i64 0), (.int .i64 0), (.int .i64 0), (.str []), .nils] [(0, 1, (.int .i64 8)), (2, 1, (.int .i64 1))]) fun D =>
ob (y10 [(.int .i64 0), (.int .i64 0), (.int .i64 0), (.int .i64 0), (.int .i64 0), (.int .i64 0), (.int .i64 0), (.str []), .nils] [(0, 1, (.int .i64 15)), (1, 1, (.int .i64 0)), (2, 1, (.int .i64 1))]) fun A =>
ob (y10 [(.int .i64 0), (.int .i64 0), (.int .i64 0), (.int .i64 0), (.int .i64 0), (.int .i64 0), (.int .i64 0), (.str []), .nils] [(0, 1, (.int .i64 8)), (2, 1, (.int .i64 1))]) fun y =>
ob (y10 [(.int .i64 0), (.int .i64 0), (.int .i64 0), (.int .i64 0), (.int .i64 0), (.int .i64 0), (.int .i64 0), (.str []), .nils] [(0, 1, (.int .i64 30)), (2, 1, (.int .i64 (-1)))]) fun r =>
oh (y12 0 (some 2) 9 4 [(.int .i64 0), (.int .i64 0), (.int .i64 0), (.int .i64 0), (.int .i64 0), (.int .i64 0), (.int .i64 0), (.str []), .nils] [(0, D), (1, A), (2, y), (3, r)] h2) fun m h3 =>
ob (y10 [.nils, .nils, (.int .i64 0), .nils, .nils] [(0, 1, F), (1, 1, k), (3, 1, m)]) fun o =>
oh (y9 E (yb E) 0 none true 166 [o] h3) fun t h4 =>
oh (newC 0 (some 3) [.nils, .nils, (.int .i64 0), .nils, .nils] h4) fun c h5 =>
oh (evSt 5 c t h5) fun _ h6 =>
ob (evFa 3 c) fun p =>
ob (evLd false 1 p h6) fun z =>
ob (y13 1 z h6) fun d =>
ob (y8 .eql d (.int .i64 4)) fun a =>
gb a true (evFa 3 c) fun v =>
gb a true (evLd false 1 v h6) fun C =>
gb a true (yx 9 C (.int .i64 0)) fun w =>
gb a true (evFa 0 w) fun i =>
gb a true (evLd false 1 i h6) fun g =>
gb a true (y8 .eql g (.int .i64 8)) fun u =>
ob (yd a u (.bool false)) fun b =>
gb b true (evFa 3 c) fun G =>
gb b true (evLd false 1 G h6) fun e =>
gb b true (yx 9 e (.int .i64 2)) fun l =>
gb b true (evFa 0 l) fun x =>
gb b true (evLd false 1 x h6) fun n =>
gb b true (y8 .eql n (.int .i64 33)) fun j =>
ob (yd b j (.bool false)) fun B =>
(yf h6 B)
def y2jm (s : St) : OX := y2co s.h
theorem y21u : T0 y1p5 [.t 0] y2jm := fun _ => by kernel_rfl
@[simp] theorem y2n6 : E.pure 165 = true := rfl
theorem y2pb : (yb E).p 165 [] = y2co [⟨0, .dead⟩, ⟨0, .dead⟩, ⟨0, .dead⟩, ⟨0, .dead⟩] :=
  (y15 (cf := y2lt) (by kernel_rfl) rfl).trans ((y21u _).trans (by kernel_rfl))
def y1je (b a : AV) (h : Heap) : OX :=
ob (evLd true 5 b h) fun c =>
oh (evSt 5 a c h) fun _ h1 =>
(ob (evLd true 5 a h1) fun r0 =>
  yf h1 r0)
def ybd (s : St) : OX := y1je (s 1) (s 2) s.h
theorem y210 : T0 y1lh [.cell 2 true 5] ybd := fun _ => by kernel_rfl
def ylv (a d b e c g : AV) (h : Heap) : OX :=
  W E 0 ypk ⟨[(1, a), (2, d), (3, b), (85, e), (86, c), (87, g)], h⟩ ybd (y5 6 ybd xN) (finP [.cell 2 true 5])
def yd0 (s : St) : OX := ylv (s 1) (s 2) (s 3) (s 85) (s 86) (s 87) s.h
theorem yun : T1 ypk ybd (y5 6 ybd xN) [.cell 2 true 5] yd0 := fun s => yj.trans (by kernel_rfl)
def y1mi (a e c g d i : AV) (h : Heap) : OX :=
ob (y8 .add i (.int .i64 1)) fun b =>
(ylv a e c g d b h)
def y2jc (s : St) : OX := y1mi (s 1) (s 2) (s 3) (s 85) (s 86) (s 87) s.h
theorem y241 : T1 y1go yd0 (y5 6 ybd xN) [.cell 2 true 5] y2jc := fun _ => by kernel_rfl
def yvl (g m d e j c : AV) (h : Heap) : OX :=
ob (yx 9 e c) fun x =>
ob (evLd true 9 x h) fun D =>
oh (newC 0 (some 15) [(.int .i64 0), (.int .i64 0), (.int .i64 0), (.int .i64 0), (.int .i64 0), (.int .i64 0), (.int .i64 0), (.str []), .nils] h) fun i h2 =>
oh (evSt 9 i D h2) fun _ h3 =>
ob (evLd true 9 i h3) fun t =>
oh (y9 E (yb E) 0 none true 169 [t] h3) fun k h4 =>
ob (y3z 0 k) fun z =>
ob (y3z 1 k) fun b =>
oh (newC 0 (some 16) [(.int .i64 0), (.int .i64 0), (.int .i64 0)] h4) fun l h5 =>
oh (evSt 3 l z h5) fun _ h6 =>
gb b true (evLd false 1 d h6) fun A =>
gb b true (some c) fun o =>
gb b true (yx 1 A o) fun w =>
gb b true (evLd false 1 w h6) fun F =>
gb b true (y4q 2 true F AV.nilm) fun I =>
ob (yd b I (.bool false)) fun a =>
gb a true (evLd false 1 d h6) fun v =>
gb a true (some c) fun y =>
gb a true (yx 1 v y) fun J =>
gb a true (evLd false 1 J h6) fun C =>
gb a true (evLd true 3 l h6) fun n =>
gb a true (y66 true [0, 0, 0] (.bool false) false C n h6) fun u =>
ob (yd a u (.bool false)) fun B =>
cnd B
 (ob (evFa 3 g) fun H =>
ob (evLd false 1 H h6) fun p =>
ob (y10 [(.int .i64 0), (.int .i64 0), (.int .i64 0), (.int .i64 0), (.int .i64 0), (.int .i64 0), (.int .i64 0), (.str []), .nils] [(0, 1, (.int .i64 33))]) fun G =>
ob (yx 9 p c) fun r =>
oh (evSt 9 r G h6) fun _ h7 =>
(y1mi g m d e j c h7))
 ((y1mi g m d e j c h6))
def y2ma (s : St) : OX := yvl (s 1) (s 2) (s 3) (s 85) (s 86) (s 87) s.h
theorem y20a : T1 y1gs yd0 (y5 6 ybd xN) [.cell 2 true 5] y2ma := sq y241 fun _ => by kernel_rfl
def y1xb (a b d g e i c : AV) (h : Heap) : OX :=
cnd c
 ((yvl a b d g e i h))
 ((y1je a b h))
def y2h0 (s : St) : OX := y1xb (s 1) (s 2) (s 3) (s 85) (s 86) (s 87) (s 88) s.h
theorem y222 : T1 y1if yd0 (y5 6 ybd xN) [.cell 2 true 5] y2h0 := sq y20a fun _ => by kernel_rfl
def y22x (c g e i a b : AV) (h : Heap) : OX :=
ob (y8 .lss b a) fun d =>
(y1xb c g e i a b d h)
def y2kk (s : St) : OX := y22x (s 1) (s 2) (s 3) (s 85) (s 86) (s 87) s.h
theorem y23v : T1 y1q3 yd0 (y5 6 ybd xN) [.cell 2 true 5] y2kk := sq y222 fun _ => by kernel_rfl
theorem yuj (a d b e c g : AV) (h : Heap) : ylv a d b e c g h = (y22x a d b e c g h) :=
  y28.trans ((y1c _ _ _ (n' := yd0) (fun s => yun s)).trans ((y23v _).trans (by kernel_rfl)))
theorem y23r : T1 y1e6 ybd xN [.cell 2 true 5] yd0 := fun s => yy.trans (yun s)
def y1yy (a g d : AV) (h : Heap) : OX :=
ob (evFa 3 a) fun c =>
ob (evLd false 1 c h) fun b =>
ob (y13 1 b h) fun e =>
(ylv a g d b e (.int .i64 0) h)
def y32 (s : St) : OX := y1yy (s 1) (s 2) (s 3) s.h
theorem y20z : T1 y1jh ybd xN [.cell 2 true 5] y32 := sq y23r fun _ => by kernel_rfl
theorem y256 : T0 y1wf [.cell 2 true 5] y32 := sq y210 y20z
def yda (a d c b e : AV) (h : Heap) : OX :=
  W E 0 yk9 ⟨[(1, a), (2, d), (3, c), (4, b), (5, e)], h⟩ y32 (y5 0 y32 xN) (finP [.cell 2 true 5])
def y14 (s : St) : OX := yda (s 1) (s 2) (s 3) (s 4) (s 5) s.h
theorem yob : T1 yk9 y32 (y5 0 y32 xN) [.cell 2 true 5] y14 := fun s => yj.trans (by kernel_rfl)
def yj3 (a j g e k c b d i : AV) (h : Heap) : OX :=
  W E 0 yk6 ⟨[(1, a), (2, j), (3, g), (4, e), (5, k), (9, c), (73, b), (74, d), (75, i)], h⟩ y14 (y5 4 y14 (y5 1 y14 (y5 0 y32 xN))) (finP [.cell 2 true 5])
def y90 (s : St) : OX := yj3 (s 1) (s 2) (s 3) (s 4) (s 5) (s 9) (s 73) (s 74) (s 75) s.h
theorem ym8 : T1 yk6 y14 (y5 4 y14 (y5 1 y14 (y5 0 y32 xN))) [.cell 2 true 5] y90 := fun s => yj.trans (by kernel_rfl)
def y1hd (b k i g l d c e j : AV) (h : Heap) : OX :=
ob (y8 .add j (.int .i64 1)) fun a =>
(yj3 b k i g l d c e a h)
def y2dt (s : St) : OX := y1hd (s 1) (s 2) (s 3) (s 4) (s 5) (s 9) (s 73) (s 74) (s 75) s.h
theorem y1gb : T1 yx2 y90 (y5 4 y14 (y5 1 y14 (y5 0 y32 xN))) [.cell 2 true 5] y2dt := fun _ => by kernel_rfl
def y1o0 (i m l k d b a j c : AV) (h : Heap) : OX :=
ob (yx 1 a c) fun e =>
ob (evLd false 1 e h) fun g =>
oh (ymw E (yb E) 0 none true d [g, b] h) fun n h8 =>
(y1hd i m l k d b a j c h8)
def y2fq (s : St) : OX := y1o0 (s 1) (s 2) (s 3) (s 4) (s 5) (s 9) (s 73) (s 74) (s 75) s.h
theorem y1u6 : T1 yz4 y90 (y5 4 y14 (y5 1 y14 (y5 0 y32 xN))) [.cell 2 true 5] y2fq := sq y1gb fun _ => by kernel_rfl
def y16j (a d c b e i g j l k : AV) (h : Heap) : OX :=
cnd k
 ((y1o0 a d c b e i g j l h))
 ((yda a d c b e h))
def y2bj (s : St) : OX := y16j (s 1) (s 2) (s 3) (s 4) (s 5) (s 9) (s 73) (s 74) (s 75) (s 76) s.h
theorem y1cz : T1 yzk y90 (y5 4 y14 (y5 1 y14 (y5 0 y32 xN))) [.cell 2 true 5] y2bj := sq y1u6 fun _ => by kernel_rfl
def y15w (c k j i l e d a b : AV) (h : Heap) : OX :=
ob (y8 .lss b a) fun g =>
(y16j c k j i l e d a b g h)
def y2eu (s : St) : OX := y15w (s 1) (s 2) (s 3) (s 4) (s 5) (s 9) (s 73) (s 74) (s 75) s.h
theorem y1ug : T1 yyo y90 (y5 4 y14 (y5 1 y14 (y5 0 y32 xN))) [.cell 2 true 5] y2eu := sq y1cz fun _ => by kernel_rfl
theorem ynz (a j g e k c b d i : AV) (h : Heap) : yj3 a j g e k c b d i h = (y15w a j g e k c b d i h) :=
  y28.trans ((y1c _ _ _ (n' := y90) (fun s => ym8 s)).trans ((y1ug _).trans (by kernel_rfl)))
theorem y1da : T1 y11l y14 (y5 1 y14 (y5 0 y32 xN)) [.cell 2 true 5] y90 := fun s => yy.trans (ym8 s)
def y1dn (a j i g l k d : AV) (h : Heap) : OX :=
ob (evLd true 5 a h) fun c =>
oh (y9 E (yb E) 0 none true 81 [c, k] h) fun b h9 =>
ob (y13 1 b h9) fun e =>
(yj3 a j i g l d b e (.int .i64 0) h9)
def y2bs (s : St) : OX := y1dn (s 1) (s 2) (s 3) (s 4) (s 5) (s 6) (s 9) s.h
theorem y1h2 : T1 y172 y14 (y5 1 y14 (y5 0 y32 xN)) [.cell 2 true 5] y2bs := sq y1da fun _ => by kernel_rfl
def y14f (b o c m p a : AV) (h : Heap) : OX :=
ob (evLd false 1 c h) fun j =>
ob (yx 1 j a) fun i =>
ob (evLd false 1 i h) fun d =>
ob (evFa 3 b) fun n =>
ob (evLd false 1 n h) fun e =>
ob (yx 9 e a) fun k =>
ob (evLd true 9 k h) fun l =>
oh (y9 E (yb E) 0 none true 168 [d, l] h) fun g h10 =>
(y1dn b o c m p a g h10)
def y6b (s : St) : OX := y14f (s 1) (s 2) (s 3) (s 4) (s 5) (s 6) s.h
theorem y1o7 : T1 y12g y14 (y5 1 y14 (y5 0 y32 xN)) [.cell 2 true 5] y6b := sq y1h2 fun _ => by kernel_rfl
def yjx (a g e d k i b j c : AV) (h : Heap) : OX :=
  W E 0 yia ⟨[(1, a), (2, g), (3, e), (4, d), (5, k), (6, i), (47, b), (48, j), (49, c)], h⟩ y6b (y5 2 y6b (y5 1 y14 (y5 0 y32 xN))) (finP [.cell 2 true 5])
def y8i (s : St) : OX := yjx (s 1) (s 2) (s 3) (s 4) (s 5) (s 6) (s 47) (s 48) (s 49) s.h
theorem yno : T1 yia y6b (y5 2 y6b (y5 1 y14 (y5 0 y32 xN))) [.cell 2 true 5] y8i := fun s => yj.trans (by kernel_rfl)
def y1ts (a i g e l j c k d : AV) (h : Heap) : OX :=
ob (y8 .add d (.int .i64 1)) fun b =>
(yjx a i g e l j c k b h)
def y28z (s : St) : OX := y1ts (s 1) (s 2) (s 3) (s 4) (s 5) (s 6) (s 47) (s 48) (s 49) s.h
theorem y1gp : T1 yzn y8i (y5 2 y6b (y5 1 y14 (y5 0 y32 xN))) [.cell 2 true 5] y28z := fun _ => by kernel_rfl
def y1m2 (i o c m e d a p b : AV) (h : Heap) : OX :=
ob (yx 1 a b) fun k =>
ob (evLd false 1 k h) fun g =>
ob (evLd false 1 c h) fun n =>
ob (yx 1 n d) fun l =>
ob (evLd false 1 l h) fun j =>
oh (ymw E (yb E) 0 none true e [g, j] h) fun r h11 =>
(y1ts i o c m e d a p b h11)
def y2fv (s : St) : OX := y1m2 (s 1) (s 2) (s 3) (s 4) (s 5) (s 6) (s 47) (s 48) (s 49) s.h
theorem y1pn : T1 y115 y8i (y5 2 y6b (y5 1 y14 (y5 0 y32 xN))) [.cell 2 true 5] y2fv := sq y1gp fun _ => by kernel_rfl
def y0b (a d c b g e j l k i : AV) (h : Heap) : OX :=
cnd i
 ((y1m2 a d c b g e j l k h))
 ((y14f a d c b g e h))
def y2af (s : St) : OX := y0b (s 1) (s 2) (s 3) (s 4) (s 5) (s 6) (s 47) (s 48) (s 49) (s 50) s.h
theorem y1ha : T1 y11r y8i (y5 2 y6b (y5 1 y14 (y5 0 y32 xN))) [.cell 2 true 5] y2af := sq y1pn fun _ => by kernel_rfl
def y16h (c j i g l k e b a : AV) (h : Heap) : OX :=
ob (y8 .lss a b) fun d =>
(y0b c j i g l k e b a d h)
def y2aq (s : St) : OX := y16h (s 1) (s 2) (s 3) (s 4) (s 5) (s 6) (s 47) (s 48) (s 49) s.h
theorem y1pm : T1 y136 y8i (y5 2 y6b (y5 1 y14 (y5 0 y32 xN))) [.cell 2 true 5] y2aq := sq y1ha fun _ => by kernel_rfl
theorem yly (a g e d k i b j c : AV) (h : Heap) : yjx a g e d k i b j c h = (y16h a g e d k i b j c h) :=
  y28.trans ((y1c _ _ _ (n' := y8i) (fun s => yno s)).trans ((y1pm _).trans (by kernel_rfl)))
theorem y1v6 : T1 y13l y6b (y5 1 y14 (y5 0 y32 xN)) [.cell 2 true 5] y8i := fun s => yy.trans (yno s)
def y1i8 (a i g e k c : AV) (h : Heap) : OX :=
ob (evLd true 5 a h) fun d =>
oh (y9 E (yb E) 0 none true 79 [d, c] h) fun b h12 =>
ob (y13 1 b h12) fun j =>
(yjx a i g e k c b j (.int .i64 0) h12)
def y1ln (s : St) : OX := y1i8 (s 1) (s 2) (s 3) (s 4) (s 5) (s 6) s.h
theorem y1n1 : T1 y11y y6b (y5 1 y14 (y5 0 y32 xN)) [.cell 2 true 5] y1ln := sq y1v6 fun _ => by kernel_rfl
theorem y1qe : T1 y17z y14 (y5 1 y14 (y5 0 y32 xN)) [.cell 2 true 5] y1ln := sq y1o7 y1n1
def y1k1 (b k i a m l : AV) (h : Heap) : OX :=
ob (evLd false 1 a h) fun e =>
ob (evLd false 1 a h) fun g =>
ob (y13 1 g h) fun j =>
ob (y8 .sub j (.int .i64 1)) fun c =>
ob (yag 1 e none (some c)) fun d =>
oh (evSt 1 a d h) fun _ h13 =>
(y1i8 b k i a m l h13)
def y2eb (s : St) : OX := y1k1 (s 1) (s 2) (s 3) (s 4) (s 5) (s 6) s.h
theorem y1qs : T1 yyp y14 (y5 1 y14 (y5 0 y32 xN)) [.cell 2 true 5] y2eb := sq y1qe fun _ => by kernel_rfl
def y1k2 (d k g a m : AV) (h : Heap) : OX :=
ob (evLd false 1 a h) fun e =>
ob (evLd false 1 a h) fun i =>
ob (y13 1 i h) fun b =>
ob (y8 .sub b (.int .i64 1)) fun j =>
ob (yx 1 e j) fun c =>
ob (evLd false 1 c h) fun l =>
(y1k1 d k g a m l h)
def y1f4 (s : St) : OX := y1k2 (s 1) (s 2) (s 3) (s 4) (s 5) s.h
theorem y1si : T1 y11i y14 (y5 1 y14 (y5 0 y32 xN)) [.cell 2 true 5] y1f4 := sq y1qs fun _ => by kernel_rfl
theorem y1tv : T1 y11h y14 (y5 0 y32 xN) [.cell 2 true 5] y1f4 := fun s => yy.trans (y1si s)
def yuc (a d c b j : AV) (h : Heap) : OX :=
ob (evLd false 1 b h) fun e =>
ob (y13 1 e h) fun g =>
ob (y8 .gtr g (.int .i64 0)) fun i =>
cnd i
 ((y1k2 a d c b j h))
 ((y1yy a d c h))
def y29j (s : St) : OX := yuc (s 1) (s 2) (s 3) (s 4) (s 5) s.h
theorem y1li : T1 y13z y14 (y5 0 y32 xN) [.cell 2 true 5] y29j := sq y1tv fun _ => by kernel_rfl
theorem yg3 (a d c b e : AV) (h : Heap) : yda a d c b e h = (yuc a d c b e h) :=
  y28.trans ((y1c _ _ _ (n' := y14) (fun s => yob s)).trans ((y1li _).trans (by kernel_rfl)))
theorem y1gr : T1 yz0 y32 xN [.cell 2 true 5] y14 := fun s => yy.trans (yob s)
theorem y1er : T0 y16o [.cell 2 true 5] y14 := sq y256 y1gr
def y1ef (c d b a : AV) (h : Heap) : OX :=
ob (some (.fn 167 [b, a])) fun e =>
(yda c d b a e h)
def y2cz (s : St) : OX := y1ef (s 1) (s 2) (s 3) (s 4) s.h
theorem y1mz : T0 yz1 [.cell 2 true 5] y2cz := sq y1er fun _ => by kernel_rfl
def y1ps (b e d : AV) (h : Heap) : OX :=
oh (y12 0 (some 13) 1 1 [(.int .i64 0)] [(0, (.int .i64 0))] h) fun c h14 =>
oh (newC 0 (some 14) [.nils] h14) fun a h15 =>
oh (evSt 1 a c h15) fun _ h16 =>
(y1ef b e d a h16)
def y2bm (s : St) : OX := y1ps (s 1) (s 2) (s 3) s.h
theorem y1lq : T0 y15u [.cell 2 true 5] y2bm := sq y1mz fun _ => by kernel_rfl
def y1uh (c e a : AV) (h : Heap) : OX :=
ob (evLd false 1 a h) fun d =>
oh (mkmC 0 (some 12) h) fun g h17 =>
ob (yx 1 d (.int .i64 0)) fun b =>
oh (evSt 1 b g h17) fun _ h18 =>
(y1ps c e a h18)
def y289 (s : St) : OX := y1uh (s 1) (s 2) (s 3) s.h
theorem y1w8 : T0 y121 [.cell 2 true 5] y289 := sq y1lq fun _ => by kernel_rfl
def y12r (a i : AV) (h : Heap) : OX :=
ob (evFa 3 a) fun g =>
ob (evLd false 1 g h) fun e =>
ob (y13 1 e h) fun c =>
oh (mkSC 0 (some 10) 1 8 [.nilm] c c h) fun d h19 =>
oh (newC 0 (some 11) [.nils] h19) fun b h20 =>
oh (evSt 1 b d h20) fun _ h21 =>
(y1uh a i b h21)
def y2fx (s : St) : OX := y12r (s 1) (s 2) s.h
theorem y1u7 : T0 y14c [.cell 2 true 5] y2fx := sq y1w8 fun _ => by kernel_rfl
def yt7 (a b : AV) (h : Heap) : OX :=
ob (evLd true 5 a h) fun g =>
oh (y9 E (yb E) 0 none true 8 [g] h) fun e h22 =>
ob (y8 .neq e (.int .i64 0)) fun d =>
cnd d
 (ob (evLd true 5 a h22) fun c =>
oh (evSt 5 b c h22) fun _ h23 =>
(ob (evLd true 5 b h23) fun r0 =>
  yf h23 r0))
 ((y12r a b h22))
def y28h (s : St) : OX := yt7 (s 1) (s 2) s.h
theorem y1tz : T0 yxf [.cell 2 true 5] y28h := sq y1u7 fun _ => by kernel_rfl
def y1cy (a b : AV) (h : Heap) : OX :=
ob (evLd true 5 a h) fun d =>
oh (y9 E (yb E) 0 (some 2) false 13 [d] h) fun c h24 =>
oh (evSt 5 a c h24) fun _ h25 =>
(yt7 a b h25)
def y2ah (s : St) : OX := y1cy (s 1) (s 2) s.h
theorem y1v0 : T0 y0l [.cell 2 true 5] y2ah := sq y1tz fun _ => by kernel_rfl
def y12c (c : AV) (h : Heap) : OX :=
oh (newC 0 (some 0) (cellsOf c) h) fun b h26 =>
oh (newC 0 (some 1) [.nils, .nils, (.int .i64 0), .nils, .nils] h26) fun a h27 =>
(y1cy b a h27)
def y2fz (s : St) : OX := y12c (s 0) s.h
theorem y1fq : T0 y12s [.cell 2 true 5] y2fz := sq y1v0 fun _ => by kernel_rfl
@[simp] theorem y2nf : E.pure 166 = true := rfl
theorem y2qt (a : AV) : (yb E).p 166 [a] = y12c a [⟨0, .dead⟩, ⟨0, .dead⟩, ⟨0, .dead⟩, ⟨0, .dead⟩, ⟨0, .dead⟩, ⟨0, .dead⟩, ⟨0, .dead⟩, ⟨0, .dead⟩, ⟨0, .dead⟩, ⟨0, .dead⟩, ⟨0, .dead⟩, ⟨0, .dead⟩, ⟨0, .dead⟩, ⟨0, .dead⟩, ⟨0, .dead⟩, ⟨0, .dead⟩, ⟨0, .dead⟩] :=
  (y15 (cf := y2jt) (by kernel_rfl) rfl).trans ((y1fq _).trans (by kernel_rfl))
def yki (h : Heap) : OX :=
(yf h (.int .i64 0))
def y7i (s : St) : OX := yki s.h
theorem y1ic : T0 yzs [.t 2] y7i := fun _ => by kernel_rfl
def yfz (a b c : AV) (h : Heap) : OX :=
  W E 0 ykh ⟨[(1, a), (3, b), (8, c)], h⟩ y7i (y5 6 y7i xN) (finP [.t 2])
def ybx (s : St) : OX := yfz (s 1) (s 3) (s 8) s.h
theorem ymh : T1 ykh y7i (y5 6 y7i xN) [.t 2] ybx := fun s => yj.trans (by kernel_rfl)
def yjb (b c d : AV) (h : Heap) : OX :=
ob (y8 .add d (.int .i64 1)) fun a =>
(yfz b c a h)
def y2fl (s : St) : OX := yjb (s 1) (s 3) (s 8) s.h
theorem y1mh : T1 y15d ybx (y5 6 y7i xN) [.t 2] y2fl := fun _ => by kernel_rfl
def y7u (g i j : AV) (h : Heap) : OX :=
ob (evFa 4 g) fun l =>
ob (evLd false 1 l h) fun J =>
ob (yx 4 J j) fun w =>
ob (evLd true 4 w h) fun P =>
oh (newC 0 (some 2) [(.int .i64 0), (.int .i64 0), (.int .i64 0), (.str [])] h) fun b h1 =>
oh (evSt 4 b P h1) fun _ h2 =>
ob (evFa 0 b) fun D =>
ob (evLd false 1 D h2) fun z =>
ob (y8 .lss z (.int .i64 0)) fun d =>
gb d false (evFa 0 b) fun G =>
gb d false (evLd false 1 G h2) fun x =>
gb d false (evFa 1 b) fun O =>
gb d false (evLd false 1 O h2) fun C =>
gb d false (y8 .geq x C) fun m =>
ob (yd d (.bool true) m) fun e =>
gb e false (evFa 1 b) fun I =>
gb e false (evLd false 1 I h2) fun t =>
gb e false (some i) fun F =>
gb e false (y8 .gtr t F) fun L =>
ob (yd e (.bool true) L) fun c =>
gb c false (evLd true 5 g h2) fun H =>
gb c false (evFa 2 b) fun n =>
gb c false (evLd false 1 n h2) fun k =>
gh c false (y9 E (yb E) 0 none true 49 [H, k] h2) h2 fun y h3 =>
gb c false (evUn .not y) fun B =>
ob (yd c (.bool true) B) fun a =>
gb a false (evFa 3 g) fun M =>
gb a false (evLd false 1 M h3) fun N =>
gb a false (evFa 2 b) fun u =>
gb a false (evLd false 1 u h3) fun A =>
gb a false (yx 9 N A) fun v =>
gb a false (evFa 0 v) fun r =>
gb a false (evLd false 1 r h3) fun o =>
gb a false (y8 .neq o (.int .i64 32)) fun K =>
ob (yd a (.bool true) K) fun p =>
cnd p
 ((yf h3 (.int .i64 80)))
 ((yjb g i j h3))
def y2g3 (s : St) : OX := y7u (s 1) (s 3) (s 8) s.h
theorem y1ml : T1 y0e ybx (y5 6 y7i xN) [.t 2] y2g3 := sq y1mh fun _ => by kernel_rfl
def y6w (a e b : AV) (h : Heap) : OX :=
ob (evFa 4 a) fun i =>
ob (evLd false 1 i h) fun g =>
ob (y13 1 g h) fun c =>
ob (y8 .lss b c) fun d =>
cnd d
 ((y7u a e b h))
 ((yki h))
def y2do (s : St) : OX := y6w (s 1) (s 3) (s 8) s.h
theorem y1s3 : T1 y15a ybx (y5 6 y7i xN) [.t 2] y2do := sq y1ml fun _ => by kernel_rfl
theorem ym7 (a b c : AV) (h : Heap) : yfz a b c h = (y6w a b c h) :=
  y28.trans ((y1c _ _ _ (n' := ybx) (fun s => ymh s)).trans ((y1s3 _).trans (by kernel_rfl)))
theorem y1hc : T1 y148 y7i xN [.t 2] ybx := fun s => yy.trans (ymh s)
def ygb (a b : AV) (h : Heap) : OX :=
(yfz a b (.int .i64 0) h)
def y69 (s : St) : OX := ygb (s 1) (s 3) s.h
theorem y1lo : T1 yzw y7i xN [.t 2] y69 := sq y1hc fun _ => by kernel_rfl
theorem y1sb : T0 y130 [.t 2] y69 := sq y1ic y1lo
def yg2 (b c a : AV) (h : Heap) : OX :=
  W E 0 ykv ⟨[(1, b), (3, c), (6, a)], h⟩ y69 (y5 4 y69 xN) (finP [.t 2])
def ybu (s : St) : OX := yg2 (s 1) (s 3) (s 6) s.h
theorem ymo : T1 ykv y69 (y5 4 y69 xN) [.t 2] ybu := fun s => yj.trans (by kernel_rfl)
def yb6 (c d b : AV) (h : Heap) : OX :=
ob (y8 .add b (.int .i64 1)) fun a =>
(yg2 c d a h)
def y1z2 (s : St) : OX := yb6 (s 1) (s 3) (s 6) s.h
theorem y1ck : T1 yrn ybu (y5 4 y69 xN) [.t 2] y1z2 := fun _ => by kernel_rfl
def y4t (i t j : AV) (h : Heap) : OX :=
ob (evFa 3 i) fun r =>
ob (evLd false 1 r h) fun X =>
ob (yx 9 X j) fun Y =>
ob (evLd true 9 Y h) fun I =>
oh (newC 0 (some 1) [(.int .i64 0), (.int .i64 0), (.int .i64 0), (.int .i64 0), (.int .i64 0), (.int .i64 0), (.int .i64 0), (.str []), .nils] h) fun g h4 =>
oh (evSt 9 g I h4) fun _ h5 =>
ob (evLd true 5 i h5) fun Z =>
ob (evLd true 9 g h5) fun z =>
oh (y9 E (yb E) 0 none true 64 [Z, z] h5) fun F h6 =>
ob (evUn .not F) fun d =>
gb d false (evFa 0 g) fun M =>
gb d false (evLd false 1 M h6) fun N =>
gb d false (y8 .eql N (.int .i64 32)) fun y =>
gb d false (some y) fun e =>
gb e true (some j) fun C =>
gb e true (y8 .eql C (.int .i64 0)) fun u =>
gb e true (some u) fun a =>
gb a false (evFa 3 i) fun U =>
gb a false (evLd false 1 U h6) fun o =>
gb a false (some j) fun K =>
gb a false (y8 .sub K (.int .i64 1)) fun J =>
gb a false (yx 9 o J) fun Q =>
gb a false (evFa 0 Q) fun m =>
gb a false (evLd false 1 m h6) fun x =>
gh a false (y9 E (yb E) 0 none true 25 [x] h6) h6 fun P h7 =>
gb a false (evUn .not P) fun G =>
gb e true (yd a (.bool true) G) fun S =>
gb d false (yd e S (.bool false)) fun A =>
ob (yd d (.bool true) A) fun c =>
gb c false (evFa 0 g) fun v =>
gb c false (evLd false 1 v h7) fun k =>
gh c false (y9 E (yb E) 0 none true 23 [k] h7) h7 fun B h8 =>
gb c false (some B) fun b =>
gb b true (evFa 3 i) fun R =>
gb b true (evLd false 1 R h8) fun l =>
gb b true (evFa 6 g) fun p =>
gb b true (evLd false 1 p h8) fun H =>
gb b true (yx 9 l H) fun V =>
gb b true (evFa 0 V) fun O =>
gb b true (evLd false 1 O h8) fun D =>
gb b true (y8 .eql D (.int .i64 32)) fun w =>
gb c false (yd b w (.bool false)) fun L =>
ob (yd c (.bool true) L) fun n =>
cnd n
 ((yf h8 (.int .i64 80)))
 ((yb6 i t j h8))
def y20s (s : St) : OX := y4t (s 1) (s 3) (s 6) s.h
theorem y1bf : T1 ys6 ybu (y5 4 y69 xN) [.t 2] y20s := sq y1ck fun _ => by kernel_rfl
def yaf (c a b : AV) (h : Heap) : OX :=
ob (y8 .lss b a) fun d =>
cnd d
 ((y4t c a b h))
 ((ygb c a h))
def y25i (s : St) : OX := yaf (s 1) (s 3) (s 6) s.h
theorem y1a9 : T1 yto ybu (y5 4 y69 xN) [.t 2] y25i := sq y1bf fun _ => by kernel_rfl
theorem ynh (b c a : AV) (h : Heap) : yg2 b c a h = (yaf b c a h) :=
  y28.trans ((y1c _ _ _ (n' := ybu) (fun s => ymo s)).trans ((y1a9 _).trans (by kernel_rfl)))
theorem y1a4 : T1 yt6 y69 xN [.t 2] ybu := fun s => yy.trans (ymo s)
def yb0 (a b : AV) (h : Heap) : OX :=
(yg2 a b (.int .i64 0) h)
def y4z (s : St) : OX := yb0 (s 1) (s 3) s.h
theorem y18x : T1 yrh y69 xN [.t 2] y4z := sq y1a4 fun _ => by kernel_rfl
theorem y1a3 : T0 yql [.t 2] y4z := sq y1sb y18x
def yc1 (a b c : AV) (h : Heap) : OX :=
  W E 0 yfk ⟨[(1, a), (3, b), (5, c)], h⟩ y4z (y5 2 y4z xN) (finP [.t 2])
def y80 (s : St) : OX := yc1 (s 1) (s 3) (s 5) s.h
theorem ykj : T1 yfk y4z (y5 2 y4z xN) [.t 2] y80 := fun s => yj.trans (by kernel_rfl)
def yd6 (b c d : AV) (h : Heap) : OX :=
ob (y8 .add d (.int .i64 1)) fun a =>
(yc1 b c a h)
def y20r (s : St) : OX := yd6 (s 1) (s 3) (s 5) s.h
theorem y1by : T1 ytt y80 (y5 2 y4z xN) [.t 2] y20r := fun _ => by kernel_rfl
def y8b (b g c : AV) (h : Heap) : OX :=
ob (evLd true 5 b h) fun l =>
ob (evFa 1 b) fun p =>
ob (evLd false 1 p h) fun e =>
ob (yx 1 e c) fun v =>
ob (evLd false 1 v h) fun o =>
oh (y9 E (yb E) 0 none true 48 [l, o] h) fun i h9 =>
ob (y8 .eql i (.int .i64 0)) fun a =>
gb a false (evFa 1 b) fun d =>
gb a false (evLd false 1 d h9) fun r =>
gb a false (some c) fun x =>
gb a false (yx 1 r x) fun k =>
gb a false (evLd false 1 k h9) fun m =>
gb a false (evFa 1 b) fun j =>
gb a false (evLd false 1 j h9) fun t =>
gb a false (some c) fun n =>
gb a false (yag 1 t none (some n)) fun w =>
gh a false (y9 E (yb E) 0 none true 42 [m, w] h9) h9 fun y h10 =>
ob (yd a (.bool true) y) fun u =>
cnd u
 ((yf h10 (.int .i64 80)))
 ((yd6 b g c h10))
def y20b (s : St) : OX := y8b (s 1) (s 3) (s 5) s.h
theorem y19b : T1 ysf y80 (y5 2 y4z xN) [.t 2] y20b := sq y1by fun _ => by kernel_rfl
def y78 (a b c : AV) (h : Heap) : OX :=
ob (evFa 1 a) fun e =>
ob (evLd false 1 e h) fun i =>
ob (y13 1 i h) fun g =>
ob (y8 .lss c g) fun d =>
cnd d
 ((y8b a b c h))
 ((yb0 a b h))
def y1zg (s : St) : OX := y78 (s 1) (s 3) (s 5) s.h
theorem y19k : T1 yu2 y80 (y5 2 y4z xN) [.t 2] y1zg := sq y19b fun _ => by kernel_rfl
theorem yjv (a b c : AV) (h : Heap) : yc1 a b c h = (y78 a b c h) :=
  y28.trans ((y1c _ _ _ (n' := y80) (fun s => ykj s)).trans ((y19k _).trans (by kernel_rfl)))
theorem y1b1 : T1 ytp y4z xN [.t 2] y80 := fun s => yy.trans (ykj s)
def yb4 (a b : AV) (h : Heap) : OX :=
(yc1 a b (.int .i64 0) h)
def y4w (s : St) : OX := yb4 (s 1) (s 3) s.h
theorem y1c2 : T1 yu1 y4z xN [.t 2] y4w := sq y1b1 fun _ => by kernel_rfl
theorem y19o : T0 yug [.t 2] y4w := sq y1a3 y1c2
def yc4 (a b c : AV) (h : Heap) : OX :=
  W E 0 yf2 ⟨[(1, a), (3, b), (4, c)], h⟩ y4w (y5 0 y4w xN) (finP [.t 2])
def y85 (s : St) : OX := yc4 (s 1) (s 3) (s 4) s.h
theorem yjd : T1 yf2 y4w (y5 0 y4w xN) [.t 2] y85 := fun s => yj.trans (by kernel_rfl)
def ycr (a b d : AV) (h : Heap) : OX :=
ob (y8 .add d (.int .i64 1)) fun c =>
(yc4 a b c h)
def y1y9 (s : St) : OX := ycr (s 1) (s 3) (s 4) s.h
theorem y18y : T1 yt9 y85 (y5 0 y4w xN) [.t 2] y1y9 := fun _ => by kernel_rfl
def y8l (b p c : AV) (h : Heap) : OX :=
ob (evFa 0 b) fun o =>
ob (evLd false 1 o h) fun k =>
ob (yx 1 k c) fun r =>
ob (evLd false 1 r h) fun l =>
ob (y8 .lss l (.int .i64 1)) fun a =>
gb a false (evFa 0 b) fun e =>
gb a false (evLd false 1 e h) fun d =>
gb a false (some c) fun m =>
gb a false (yx 1 d m) fun n =>
gb a false (evLd false 1 n h) fun g =>
gb a false (y8 .gtr g (.int .i64 3)) fun i =>
ob (yd a (.bool true) i) fun j =>
cnd j
 ((yf h (.int .i64 80)))
 ((ycr b p c h))
def y24u (s : St) : OX := y8l (s 1) (s 3) (s 4) s.h
theorem y19f : T1 ysv y85 (y5 0 y4w xN) [.t 2] y24u := sq y18y fun _ => by kernel_rfl
def y7b (a c b : AV) (h : Heap) : OX :=
ob (evFa 0 a) fun d =>
ob (evLd false 1 d h) fun i =>
ob (y13 1 i h) fun g =>
ob (y8 .lss b g) fun e =>
cnd e
 ((y8l a c b h))
 ((yb4 a c h))
def y22v (s : St) : OX := y7b (s 1) (s 3) (s 4) s.h
theorem y1ap : T1 yso y85 (y5 0 y4w xN) [.t 2] y22v := sq y19f fun _ => by kernel_rfl
theorem yif (a b c : AV) (h : Heap) : yc4 a b c h = (y7b a b c h) :=
  y28.trans ((y1c _ _ _ (n' := y85) (fun s => yjd s)).trans ((y1ap _).trans (by kernel_rfl)))
theorem y19a : T1 yqz y4w xN [.t 2] y85 := fun s => yy.trans (yjd s)
def yfd (a b : AV) (h : Heap) : OX :=
(yc4 a b (.int .i64 0) h)
def y15x (s : St) : OX := yfd (s 1) (s 3) s.h
theorem y19u : T1 ysj y4w xN [.t 2] y15x := sq y19a fun _ => by kernel_rfl
theorem y1c5 : T0 yqf [.t 2] y15x := sq y19o y19u
def y4s (b e : AV) (h : Heap) : OX :=
ob (y8 .eql e (.int .i64 0)) fun j =>
gb j false (some e) fun z =>
gb j false (y8 .gtr z (.int .i64 20000)) fun J =>
ob (yd j (.bool true) J) fun c =>
gb c false (evFa 0 b) fun m =>
gb c false (evLd false 1 m h) fun y =>
gb c false (y13 1 y h) fun G =>
gb c false (y8 .gtr G (.int .i64 20000)) fun C =>
ob (yd c (.bool true) C) fun d =>
gb d false (evFa 1 b) fun r =>
gb d false (evLd false 1 r h) fun I =>
gb d false (y13 1 I h) fun u =>
gb d false (y8 .gtr u (.int .i64 21)) fun p =>
ob (yd d (.bool true) p) fun i =>
gb i false (evFa 2 b) fun n =>
gb i false (evLd false 1 n h) fun D =>
gb i false (y8 .lss D (.int .i64 0)) fun B =>
ob (yd i (.bool true) B) fun g =>
gb g false (evFa 2 b) fun F =>
gb g false (evLd false 1 F h) fun k =>
gb g false (y8 .gtr k (.int .i64 3)) fun t =>
ob (yd g (.bool true) t) fun a =>
gb a false (evFa 3 b) fun H =>
gb a false (evLd false 1 H h) fun v =>
gb a false (some e) fun l =>
gb a false (y8 .sub l (.int .i64 1)) fun L =>
gb a false (yx 9 v L) fun x =>
gb a false (evFa 0 x) fun K =>
gb a false (evLd false 1 K h) fun w =>
gh a false (y9 E (yb E) 0 none true 25 [w] h) h fun M h11 =>
gb a false (evUn .not M) fun A =>
ob (yd a (.bool true) A) fun o =>
cnd o
 ((yf h11 (.int .i64 80)))
 ((yfd b e h11))
def y254 (s : St) : OX := y4s (s 1) (s 3) s.h
theorem y1bo : T0 yue [.t 2] y254 := sq y1c5 fun _ => by kernel_rfl
def y4x (a : AV) (h : Heap) : OX :=
ob (evFa 3 a) fun b =>
ob (evLd false 1 b h) fun d =>
ob (y13 1 d h) fun c =>
(y4s a c h)
def y239 (s : St) : OX := y4x (s 1) s.h
theorem y1a2 : T0 ysl [.t 2] y239 := sq y1bo fun _ => by kernel_rfl
def y4e (b : AV) (h : Heap) : OX :=
oh (newC 0 (some 0) (cellsOf b) h) fun a h12 =>
(y4x a h12)
def y23m (s : St) : OX := y4e (s 0) s.h
theorem y1ak : T0 yqr [.t 2] y23m := sq y1a2 fun _ => by kernel_rfl
@[simp] theorem y2nt : E.pure 29 = true := rfl
theorem y2hl (a : AV) : (yb E).p 29 [a] = y4e a [⟨0, .dead⟩, ⟨0, .dead⟩, ⟨0, .dead⟩] :=
  (y15 (cf := y25u) (by kernel_rfl) rfl).trans ((y1ak _).trans (by kernel_rfl))
def y29a (h : Heap) : OX :=
(yf h (.bool true))
def y45 (s : St) : OX := y29a s.h
theorem y22h : T0 y1so [.t 2] y45 := fun _ => by kernel_rfl
def ylj (c a b d : AV) (h : Heap) : OX :=
  W E 0 yow ⟨[(3, c), (104, a), (105, b), (106, d)], h⟩ y45 (y5 8 y45 xN) (finP [.t 2])
def yde (s : St) : OX := ylj (s 3) (s 104) (s 105) (s 106) s.h
theorem yum : T1 yow y45 (y5 8 y45 xN) [.t 2] yde := fun s => yj.trans (by kernel_rfl)
def y1is (d b c e : AV) (h : Heap) : OX :=
ob (y8 .add e (.int .i64 1)) fun a =>
(ylj d b c a h)
def y3x (s : St) : OX := y1is (s 3) (s 104) (s 105) (s 106) s.h
theorem y24c : T1 y1ub yde (y5 8 y45 xN) [.t 2] y3x := fun _ => by kernel_rfl
def yts (g a c d i e b j : AV) (h : Heap) : OX :=
  W E 0 yp4 ⟨[(3, g), (15, a), (104, c), (105, d), (106, i), (112, e), (113, b), (114, j)], h⟩ y3x (y5 10 y3x (y5 9 y3x (y5 8 y45 xN))) (finP [.t 2])
def yd2 (s : St) : OX := yts (s 3) (s 15) (s 104) (s 105) (s 106) (s 112) (s 113) (s 114) s.h
theorem yqu : T1 yp4 y3x (y5 10 y3x (y5 9 y3x (y5 8 y45 xN))) [.t 2] yd2 := fun s => yj.trans (by kernel_rfl)
def y231 (i a d e j g c k : AV) (h : Heap) : OX :=
ob (y8 .add k (.int .i64 1)) fun b =>
(yts i a d e j g c b h)
def y2ms (s : St) : OX := y231 (s 3) (s 15) (s 104) (s 105) (s 106) (s 112) (s 113) (s 114) s.h
theorem y24f : T1 y1i6 yd2 (y5 10 y3x (y5 9 y3x (y5 8 y45 xN))) [.t 2] y2ms := fun _ => by kernel_rfl
def y1id (b c o i z e x d : AV) (h : Heap) : OX :=
ob (yx 1 e d) fun u =>
ob (evLd false 1 u h) fun m =>
ob (yx 1 b c) fun j =>
ob (evLd false 1 j h) fun k =>
ob (y4q 1 true k AV.nils) fun a =>
gb a true (some b) fun t =>
gb a true (some c) fun r =>
gb a true (yx 1 t r) fun w =>
gb a true (evLd false 1 w h) fun g =>
gb a true (some m) fun l =>
gb a true (yx 1 g l) fun v =>
gb a true (evLd false 1 v h) fun p =>
gb a true (evUn .not p) fun y =>
ob (yd a y (.bool false)) fun n =>
cnd n
 ((yf h (.bool false)))
 ((y231 b c o i z e x d h))
def y2kt (s : St) : OX := y1id (s 3) (s 15) (s 104) (s 105) (s 106) (s 112) (s 113) (s 114) s.h
theorem y1yb : T1 y1ih yd2 (y5 10 y3x (y5 9 y3x (y5 8 y45 xN))) [.t 2] y2kt := sq y24f fun _ => by kernel_rfl
def y1ch (c g a b d j i k e : AV) (h : Heap) : OX :=
cnd e
 ((y1id c g a b d j i k h))
 ((y1is c a b d h))
def y2lv (s : St) : OX := y1ch (s 3) (s 15) (s 104) (s 105) (s 106) (s 112) (s 113) (s 114) (s 115) s.h
theorem y22s : T1 y1fo yd2 (y5 10 y3x (y5 9 y3x (y5 8 y45 xN))) [.t 2] y2lv := sq y1yb fun _ => by kernel_rfl
def y1as (j d e g k i a b : AV) (h : Heap) : OX :=
ob (y8 .lss b a) fun c =>
(y1ch j d e g k i a b c h)
def y2kv (s : St) : OX := y1as (s 3) (s 15) (s 104) (s 105) (s 106) (s 112) (s 113) (s 114) s.h
theorem y23b : T1 y1ht yd2 (y5 10 y3x (y5 9 y3x (y5 8 y45 xN))) [.t 2] y2kv := sq y22s fun _ => by kernel_rfl
theorem ysb (g a c d i e b j : AV) (h : Heap) : yts g a c d i e b j h = (y1as g a c d i e b j h) :=
  y28.trans ((y1c _ _ _ (n' := yd2) (fun s => yqu s)).trans ((y23b _).trans (by kernel_rfl)))
theorem y1yf : T1 y1lr y3x (y5 9 y3x (y5 8 y45 xN)) [.t 2] yd2 := fun s => yy.trans (yqu s)
def y1na (j b d g i k : AV) (h : Heap) : OX :=
ob (evLd true 9 d h) fun c =>
oh (y9 E (yb E) 0 none true 10 [c] h) fun a h1 =>
ob (y13 1 a h1) fun e =>
(yts j b g i k a e (.int .i64 0) h1)
def y2d2 (s : St) : OX := y1na (s 3) (s 15) (s 16) (s 104) (s 105) (s 106) s.h
theorem y1gf : T1 y12e y3x (y5 9 y3x (y5 8 y45 xN)) [.t 2] y2d2 := sq y1yf fun _ => by kernel_rfl
def y1jm (e c d a : AV) (h : Heap) : OX :=
ob (yx 9 c a) fun g =>
ob (evLd true 9 g h) fun i =>
oh (newC 0 (some 5) [(.int .i64 0), (.int .i64 0), (.int .i64 0), (.int .i64 0), (.int .i64 0), (.int .i64 0), (.int .i64 0), (.str []), .nils] h) fun b h2 =>
oh (evSt 9 b i h2) fun _ h3 =>
(y1na e a b c d a h3)
def yvq (s : St) : OX := y1jm (s 3) (s 104) (s 105) (s 106) s.h
theorem y1eh : T1 y133 y3x (y5 9 y3x (y5 8 y45 xN)) [.t 2] yvq := sq y1gf fun _ => by kernel_rfl
theorem y1i1 : T1 yx9 y3x (y5 8 y45 xN) [.t 2] yvq := fun s => yy.trans (y1eh s)
theorem y1tw : T1 yyj yde (y5 8 y45 xN) [.t 2] yvq := sq y24c y1i1
def y122 (d b c e a : AV) (h : Heap) : OX :=
cnd a
 ((y1jm d b c e h))
 ((y29a h))
def y2b1 (s : St) : OX := y122 (s 3) (s 104) (s 105) (s 106) (s 107) s.h
theorem y1ur : T1 yyb yde (y5 8 y45 xN) [.t 2] y2b1 := sq y1tw fun _ => by kernel_rfl
def yxb (e d a b : AV) (h : Heap) : OX :=
ob (y8 .lss b a) fun c =>
(y122 e d a b c h)
def y2e4 (s : St) : OX := yxb (s 3) (s 104) (s 105) (s 106) s.h
theorem y1e4 : T1 y114 yde (y5 8 y45 xN) [.t 2] y2e4 := sq y1ur fun _ => by kernel_rfl
theorem yrr (c a b d : AV) (h : Heap) : ylj c a b d h = (yxb c a b d h) :=
  y28.trans ((y1c _ _ _ (n' := yde) (fun s => yum s)).trans ((y1e4 _).trans (by kernel_rfl)))
theorem y1vj : T1 y0c y45 xN [.t 2] yde := fun s => yy.trans (yum s)
def yrv (b d : AV) (h : Heap) : OX :=
ob (evFa 3 b) fun e =>
ob (evLd false 1 e h) fun a =>
ob (y13 1 a h) fun c =>
(ylj d a c (.int .i64 0) h)
def y20 (s : St) : OX := yrv (s 1) (s 3) s.h
theorem y1ee : T1 y175 y45 xN [.t 2] y20 := sq y1vj fun _ => by kernel_rfl
theorem y1l6 : T0 y178 [.t 2] y20 := sq y22h y1ee
def yfv (a b c : AV) (h : Heap) : OX :=
  W E 0 yib ⟨[(1, a), (3, b), (7, c)], h⟩ y20 (y5 2 y20 xN) (finP [.t 2])
def yz (s : St) : OX := yfv (s 1) (s 3) (s 7) s.h
theorem yo5 : T1 yib y20 (y5 2 y20 xN) [.t 2] yz := fun s => yj.trans (by kernel_rfl)
def ycy (a e g d b i c : AV) (h : Heap) : OX :=
  W E 0 ykb ⟨[(1, a), (3, e), (7, g), (9, d), (91, b), (92, i), (93, c)], h⟩ yz (y5 6 yz (y5 3 yz (y5 2 y20 xN))) (finP [.t 2])
def y8k (s : St) : OX := ycy (s 1) (s 3) (s 7) (s 9) (s 91) (s 92) (s 93) s.h
theorem yns : T1 ykb yz (y5 6 yz (y5 3 yz (y5 2 y20 xN))) [.t 2] y8k := fun s => yj.trans (by kernel_rfl)
def y1po (a g i e b j c : AV) (h : Heap) : OX :=
ob (y8 .add c (.int .i64 1)) fun d =>
(ycy a g i e b j d h)
def y2cw (s : St) : OX := y1po (s 1) (s 3) (s 7) (s 9) (s 91) (s 92) (s 93) s.h
theorem y1oq : T1 y132 y8k (y5 6 yz (y5 3 yz (y5 2 y20 xN))) [.t 2] y2cw := fun _ => by kernel_rfl
def y1ms (e d j c a l b : AV) (h : Heap) : OX :=
ob (yx 1 a b) fun i =>
ob (evLd false 1 i h) fun k =>
oh (y9 E (yb E) 0 none false 80 [d, k, c, j] h) fun g h4 =>
(y1po e d g c a l b h4)
def y28q (s : St) : OX := y1ms (s 1) (s 3) (s 7) (s 9) (s 91) (s 92) (s 93) s.h
theorem y1lp : T1 y12w y8k (y5 6 yz (y5 3 yz (y5 2 y20 xN))) [.t 2] y28q := sq y1oq fun _ => by kernel_rfl
def y16m (a b c g d i e j : AV) (h : Heap) : OX :=
cnd j
 ((y1ms a b c g d i e h))
 ((yfv a b c h))
def y2ar (s : St) : OX := y16m (s 1) (s 3) (s 7) (s 9) (s 91) (s 92) (s 93) (s 94) s.h
theorem y1r8 : T1 y14q y8k (y5 6 yz (y5 3 yz (y5 2 y20 xN))) [.t 2] y2ar := sq y1lp fun _ => by kernel_rfl
def yz8 (c g i e d b a : AV) (h : Heap) : OX :=
ob (y8 .lss a b) fun j =>
(y16m c g i e d b a j h)
def y2ad (s : St) : OX := yz8 (s 1) (s 3) (s 7) (s 9) (s 91) (s 92) (s 93) s.h
theorem y1v4 : T1 y11u y8k (y5 6 yz (y5 3 yz (y5 2 y20 xN))) [.t 2] y2ad := sq y1r8 fun _ => by kernel_rfl
theorem ylu (a e g d b i c : AV) (h : Heap) : ycy a e g d b i c h = (yz8 a e g d b i c h) :=
  y28.trans ((y1c _ _ _ (n' := y8k) (fun s => yns s)).trans ((y1v4 _).trans (by kernel_rfl)))
theorem y1dm : T1 y11v yz (y5 3 yz (y5 2 y20 xN)) [.t 2] y8k := fun s => yy.trans (yns s)
def ynk (a e g j d : AV) (h : Heap) : OX :=
ob (evLd true 5 a h) fun c =>
oh (y9 E (yb E) 0 none true 81 [c, j] h) fun b h5 =>
ob (y13 1 b h5) fun i =>
(ycy a e g d b i (.int .i64 0) h5)
def y28t (s : St) : OX := ynk (s 1) (s 3) (s 7) (s 8) (s 9) s.h
theorem y1ok : T1 yxh yz (y5 3 yz (y5 2 y20 xN)) [.t 2] y28t := sq y1dm fun _ => by kernel_rfl
def ymm (a e g c b : AV) (h : Heap) : OX :=
ob (evFa 3 a) fun i =>
ob (evLd false 1 i h) fun l =>
ob (yx 9 l c) fun j =>
ob (evLd true 9 j h) fun k =>
oh (y9 E (yb E) 0 none true 9 [k] h) fun d h6 =>
ob (y8 .geq d (.int .i64 0)) fun n =>
cnd n
 (ob (yx 1 b d) fun m =>
oh (evSt 1 m (.bool true) h6) fun _ h7 =>
(ynk a e g c b h7))
 ((ynk a e g c b h6))
def y6k (s : St) : OX := ymm (s 1) (s 3) (s 7) (s 8) (s 9) s.h
theorem y1qg : T1 y189 yz (y5 3 yz (y5 2 y20 xN)) [.t 2] y6k := sq y1ok fun _ => by kernel_rfl
def yew (b g i j d c a e : AV) (h : Heap) : OX :=
  W E 0 yjy ⟨[(1, b), (3, g), (7, i), (8, j), (9, d), (66, c), (67, a), (68, e)], h⟩ y6k (y5 4 y6k (y5 3 yz (y5 2 y20 xN))) (finP [.t 2])
def y8z (s : St) : OX := yew (s 1) (s 3) (s 7) (s 8) (s 9) (s 66) (s 67) (s 68) s.h
theorem yng : T1 yjy y6k (y5 4 y6k (y5 3 yz (y5 2 y20 xN))) [.t 2] y8z := fun s => yj.trans (by kernel_rfl)
def y1r9 (c i j k e d a g : AV) (h : Heap) : OX :=
ob (y8 .add g (.int .i64 1)) fun b =>
(yew c i j k e d a b h)
def y2g6 (s : St) : OX := y1r9 (s 1) (s 3) (s 7) (s 8) (s 9) (s 66) (s 67) (s 68) s.h
theorem y1jq : T1 y16r y8z (y5 4 y6k (y5 3 yz (y5 2 y20 xN))) [.t 2] y2g6 := fun _ => by kernel_rfl
def y1l2 (g d l m b a e c : AV) (h : Heap) : OX :=
ob (yx 1 a c) fun i =>
ob (evLd false 1 i h) fun j =>
oh (y9 E (yb E) 0 none false 80 [d, j, b, l] h) fun k h8 =>
(y1r9 g d k m b a e c h8)
def y2f5 (s : St) : OX := y1l2 (s 1) (s 3) (s 7) (s 8) (s 9) (s 66) (s 67) (s 68) s.h
theorem y1m0 : T1 y157 y8z (y5 4 y6k (y5 3 yz (y5 2 y20 xN))) [.t 2] y2f5 := sq y1jq fun _ => by kernel_rfl
def yxj (a c d e b i g k j : AV) (h : Heap) : OX :=
cnd j
 ((y1l2 a c d e b i g k h))
 ((ymm a c d e b h))
def y283 (s : St) : OX := yxj (s 1) (s 3) (s 7) (s 8) (s 9) (s 66) (s 67) (s 68) (s 69) s.h
theorem y1d4 : T1 y16s y8z (y5 4 y6k (y5 3 yz (y5 2 y20 xN))) [.t 2] y283 := sq y1m0 fun _ => by kernel_rfl
def y173 (c i j k e d a b : AV) (h : Heap) : OX :=
ob (y8 .lss b a) fun g =>
(yxj c i j k e d a b g h)
def y2ew (s : St) : OX := y173 (s 1) (s 3) (s 7) (s 8) (s 9) (s 66) (s 67) (s 68) s.h
theorem y1h5 : T1 y17x y8z (y5 4 y6k (y5 3 yz (y5 2 y20 xN))) [.t 2] y2ew := sq y1d4 fun _ => by kernel_rfl
theorem ymu (b g i j d c a e : AV) (h : Heap) : yew b g i j d c a e h = (y173 b g i j d c a e h) :=
  y28.trans ((y1c _ _ _ (n' := y8z) (fun s => yng s)).trans ((y1h5 _).trans (by kernel_rfl)))
theorem y1ix : T1 y18f y6k (y5 3 yz (y5 2 y20 xN)) [.t 2] y8z := fun s => yy.trans (yng s)
def y1j0 (a i j c g : AV) (h : Heap) : OX :=
ob (evLd true 5 a h) fun e =>
oh (y9 E (yb E) 0 none true 79 [e, c] h) fun b h9 =>
ob (y13 1 b h9) fun d =>
(yew a i j c g b d (.int .i64 0) h9)
def y1pe (s : St) : OX := y1j0 (s 1) (s 3) (s 7) (s 8) (s 9) s.h
theorem y1ox : T1 yzc y6k (y5 3 yz (y5 2 y20 xN)) [.t 2] y1pe := sq y1ix fun _ => by kernel_rfl
theorem y1mx : T1 y16v yz (y5 3 yz (y5 2 y20 xN)) [.t 2] y1pe := sq y1qg y1ox
def y0v (c a g b : AV) (h : Heap) : OX :=
ob (yx 1 a b) fun e =>
ob (evLd false 1 e h) fun i =>
oh (y9 E (yb E) 0 (some 4) false 78 [i] h) fun d h10 =>
(y1j0 c a g b d h10)
def y2eg (s : St) : OX := y0v (s 1) (s 3) (s 7) (s 8) s.h
theorem y1u4 : T1 y126 yz (y5 3 yz (y5 2 y20 xN)) [.t 2] y2eg := sq y1mx fun _ => by kernel_rfl
def y1d1 (b g a i : AV) (h : Heap) : OX :=
ob (y13 1 a h) fun e =>
ob (y8 .sub e (.int .i64 1)) fun d =>
ob (yag 1 a none (some d)) fun c =>
(y0v b g c i h)
def y2c5 (s : St) : OX := y1d1 (s 1) (s 3) (s 7) (s 8) s.h
theorem y1gi : T1 yy8 yz (y5 3 yz (y5 2 y20 xN)) [.t 2] y2c5 := sq y1u4 fun _ => by kernel_rfl
def y1gl (b g a : AV) (h : Heap) : OX :=
ob (y13 1 a h) fun d =>
ob (y8 .sub d (.int .i64 1)) fun e =>
ob (yx 1 a e) fun i =>
ob (evLd false 1 i h) fun c =>
(y1d1 b g a c h)
def y1v2 (s : St) : OX := y1gl (s 1) (s 3) (s 7) s.h
theorem y1k0 : T1 yyh yz (y5 3 yz (y5 2 y20 xN)) [.t 2] y1v2 := sq y1gi fun _ => by kernel_rfl
theorem y1h1 : T1 y171 yz (y5 2 y20 xN) [.t 2] y1v2 := fun s => yy.trans (y1k0 s)
def ytx (a b c : AV) (h : Heap) : OX :=
ob (y13 1 c h) fun d =>
ob (y8 .gtr d (.int .i64 0)) fun e =>
cnd e
 ((y1gl a b c h))
 ((yrv a b h))
def y2a6 (s : St) : OX := ytx (s 1) (s 3) (s 7) s.h
theorem y1r2 : T1 yyl yz (y5 2 y20 xN) [.t 2] y2a6 := sq y1h1 fun _ => by kernel_rfl
theorem y1cq (a b c : AV) (h : Heap) : yfv a b c h = (ytx a b c h) :=
  y28.trans ((y1c _ _ _ (n' := yz) (fun s => yo5 s)).trans ((y1r2 _).trans (by kernel_rfl)))
theorem y1io : T1 yy7 y20 xN [.t 2] yz := fun s => yy.trans (yo5 s)
theorem y1ew : T0 y18c [.t 2] yz := sq y1l6 y1io
def y1u8 (c a d e : AV) (h : Heap) : OX :=
ob (yx 1 a (.int .i64 0)) fun b =>
oh (evSt 1 b d h) fun _ h11 =>
(yfv c a e h11)
def y2ez (s : St) : OX := y1u8 (s 1) (s 3) (s 4) (s 7) s.h
theorem y1wg : T0 y12t [.t 2] y2ez := sq y1ew fun _ => by kernel_rfl
def y14p (b c d : AV) (h : Heap) : OX :=
oh (y12 0 (some 3) 1 1 [(.int .i64 0)] [(0, (.int .i64 0))] h) fun a h12 =>
(y1u8 b c d a h12)
def y6l (s : St) : OX := y14p (s 1) (s 3) (s 4) s.h
theorem y1p7 : T0 y13v [.t 2] y6l := sq y1wg fun _ => by kernel_rfl
def yk3 (a e d b c g : AV) (h : Heap) : OX :=
  W E 0 yiy ⟨[(1, a), (3, e), (4, d), (31, b), (32, c), (33, g)], h⟩ y6l (y5 0 y6l xN) (finP [.t 2])
def y8v (s : St) : OX := yk3 (s 1) (s 3) (s 4) (s 31) (s 32) (s 33) s.h
theorem ymx : T1 yiy y6l (y5 0 y6l xN) [.t 2] y8v := fun s => yj.trans (by kernel_rfl)
def y1gz (a g e b d i : AV) (h : Heap) : OX :=
ob (y8 .add i (.int .i64 1)) fun c =>
(yk3 a g e b d c h)
def y29l (s : St) : OX := y1gz (s 1) (s 3) (s 4) (s 31) (s 32) (s 33) s.h
theorem y1kp : T1 yxp y8v (y5 0 y6l xN) [.t 2] y29l := fun _ => by kernel_rfl
def y1v5 (e i b a g c : AV) (h : Heap) : OX :=
ob (yx 1 a c) fun j =>
ob (evLd false 1 j h) fun d =>
ob (yx 1 b d) fun k =>
oh (evSt 1 k (.bool true) h) fun _ h13 =>
(y1gz e i b a g c h13)
def y2f0 (s : St) : OX := y1v5 (s 1) (s 3) (s 4) (s 31) (s 32) (s 33) s.h
theorem y1sk : T1 y113 y8v (y5 0 y6l xN) [.t 2] y2f0 := sq y1kp fun _ => by kernel_rfl
def yya (a c b d e i g : AV) (h : Heap) : OX :=
cnd g
 ((y1v5 a c b d e i h))
 ((y14p a c b h))
def y2bc (s : St) : OX := yya (s 1) (s 3) (s 4) (s 31) (s 32) (s 33) (s 34) s.h
theorem y1tx : T1 yzy y8v (y5 0 y6l xN) [.t 2] y2bc := sq y1sk fun _ => by kernel_rfl
def yye (c i g d a b : AV) (h : Heap) : OX :=
ob (y8 .lss b a) fun e =>
(yya c i g d a b e h)
def y2fi (s : St) : OX := yye (s 1) (s 3) (s 4) (s 31) (s 32) (s 33) s.h
theorem y1q5 : T1 y13q y8v (y5 0 y6l xN) [.t 2] y2fi := sq y1tx fun _ => by kernel_rfl
theorem ynr (a e d b c g : AV) (h : Heap) : yk3 a e d b c g h = (yye a e d b c g h) :=
  y28.trans ((y1c _ _ _ (n' := y8v) (fun s => ymx s)).trans ((y1q5 _).trans (by kernel_rfl)))
theorem y1kd : T1 y0g y6l xN [.t 2] y8v := fun s => yy.trans (ymx s)
def y1ns (a e d : AV) (h : Heap) : OX :=
ob (evFa 1 a) fun g =>
ob (evLd false 1 g h) fun b =>
ob (y13 1 b h) fun c =>
(yk3 a e d b c (.int .i64 0) h)
def y1od (s : St) : OX := y1ns (s 1) (s 3) (s 4) s.h
theorem y1j6 : T1 y13y y6l xN [.t 2] y1od := sq y1kd fun _ => by kernel_rfl
theorem y1w9 : T0 y167 [.t 2] y1od := sq y1p7 y1j6
def y1k9 (b d : AV) (h : Heap) : OX :=
ob (evFa 0 b) fun e =>
ob (evLd false 1 e h) fun g =>
ob (y13 1 g h) fun a =>
oh (mkSC 0 (some 2) 1 1 [(.bool false)] a a h) fun c h14 =>
(y1ns b d c h14)
def y2bu (s : St) : OX := y1k9 (s 1) (s 3) s.h
theorem y1nn : T0 y11g [.t 2] y2bu := sq y1w9 fun _ => by kernel_rfl
def y1vb (a : AV) (h : Heap) : OX :=
ob (evFa 3 a) fun e =>
ob (evLd false 1 e h) fun d =>
ob (y13 1 d h) fun b =>
oh (mkSC 0 (some 1) 1 24 [.nils] b b h) fun c h15 =>
(y1k9 a c h15)
def y2eq (s : St) : OX := y1vb (s 1) s.h
theorem y1wj : T0 y14i [.t 2] y2eq := sq y1nn fun _ => by kernel_rfl
def y11d (a : AV) (h : Heap) : OX :=
ob (evLd true 5 a h) fun c =>
oh (y9 E (yb E) 0 none true 8 [c] h) fun b h16 =>
ob (y8 .neq b (.int .i64 0)) fun d =>
cnd d
 ((yf h16 (.bool false)))
 ((y1vb a h16))
def y2bw (s : St) : OX := y11d (s 1) s.h
theorem y1st : T0 yyz [.t 2] y2bw := sq y1wj fun _ => by kernel_rfl
def yz6 (b : AV) (h : Heap) : OX :=
oh (newC 0 (some 0) (cellsOf b) h) fun a h17 =>
(y11d a h17)
def y2a4 (s : St) : OX := yz6 (s 0) s.h
theorem y1nq : T0 y162 [.t 2] y2a4 := sq y1st fun _ => by kernel_rfl
@[simp] theorem y2pg : E.pure 77 = true := rfl
theorem y2oj (a : AV) : (yb E).p 77 [a] = yz6 a [⟨0, .dead⟩, ⟨0, .dead⟩, ⟨0, .dead⟩, ⟨0, .dead⟩, ⟨0, .dead⟩, ⟨0, .dead⟩] :=
  (y15 (cf := y2he) (by kernel_rfl) rfl).trans ((y1nq _).trans (by kernel_rfl))
def ycz (h : Heap) : OX :=
(yf h AV.nils)
def y37 (s : St) : OX := ycz s.h
theorem y202 : T0 y1oa [.t 2] y37 := fun _ => by kernel_rfl
def ydk (a : AV) (h : Heap) : OX :=
ob (evFa 2 a) fun b =>
ob (evLd false 1 b h) fun e =>
ob (evFa 3 a) fun c =>
ob (evLd false 1 c h) fun d =>
oh (y12 0 (some 6) 1 2 [(.int .i64 0)] [(0, e), (1, d)] h) fun g h1 =>
(yf h1 g)
def y2hn (s : St) : OX := ydk (s 1) s.h
theorem y1yi : T1 y1sc y37 (y5 0 y37 xN) [.t 2] y2hn := fun _ => by kernel_rfl
def ye9 (a : AV) (h : Heap) : OX :=
ob (evFa 3 a) fun e =>
ob (evLd false 1 e h) fun b =>
ob (y8 .lss b (.int .i64 0)) fun i =>
cnd i
 (ob (evFa 2 a) fun g =>
ob (evLd false 1 g h) fun d =>
oh (y12 0 (some 5) 1 1 [(.int .i64 0)] [(0, d)] h) fun c h2 =>
(yf h2 c))
 ((ydk a h))
def y2hy (s : St) : OX := ye9 (s 1) s.h
theorem y213 : T1 y1oh y37 (y5 0 y37 xN) [.t 2] y2hy := sq y1yi fun _ => by kernel_rfl
def yds (a k g : AV) (h : Heap) : OX :=
cnd g
 ((ye9 a h))
 (ob (y8 .eql k (.int .i64 30)) fun c =>
cnd c
 (ob (evFa 2 a) fun l =>
ob (evLd false 1 l h) fun d =>
ob (y8 .geq d (.int .i64 0)) fun b =>
cnd b
 (ob (evFa 2 a) fun j =>
ob (evLd false 1 j h) fun i =>
oh (y12 0 (some 7) 1 1 [(.int .i64 0)] [(0, i)] h) fun e h3 =>
(yf h3 e))
 ((ycz h)))
 ((ycz h)))
def y2lb (s : St) : OX := yds (s 1) (s 4) (s 50) s.h
theorem y1wv : T1 y1r3 y37 (y5 0 y37 xN) [.t 2] y2lb := fun s => (y1b (y213 s) rfl).trans (by kernel_rfl)
def yec (b a : AV) (h : Heap) : OX :=
ob (y8 .eql a (.int .i64 29)) fun c =>
(yds b a c h)
def y2kh (s : St) : OX := yec (s 1) (s 4) s.h
theorem y22p : T1 y1tk y37 (y5 0 y37 xN) [.t 2] y2kh := sq y1wv fun _ => by kernel_rfl
def yao (a d e : AV) (h : Heap) : OX :=
cnd e
 (ob (evFa 8 a) fun b =>
ob (evLd false 1 b h) fun g =>
oh (y9 E (yb E) 0 (some 4) false 39 [g] h) fun c h4 =>
(yf h4 c))
 ((yec a d h))
def y2i3 (s : St) : OX := yao (s 1) (s 4) (s 42) s.h
theorem y1y7 : T1 y1uj y37 (y5 0 y37 xN) [.t 2] y2i3 := fun s => (y1b rfl (y22p s)).trans (by kernel_rfl)
def ydj (b a : AV) (h : Heap) : OX :=
ob (y8 .eql a (.int .i64 23)) fun d =>
cnd d
 ((yao b a d h))
 (ob (y8 .eql a (.int .i64 24)) fun c =>
cnd c
 ((yao b a c h))
 (ob (y8 .eql a (.int .i64 25)) fun e =>
cnd e
 ((yao b a e h))
 (ob (y8 .eql a (.int .i64 26)) fun g =>
(yao b a g h))))
def y2ib (s : St) : OX := ydj (s 1) (s 4) s.h
theorem y1y0 : T1 y1qq y37 (y5 0 y37 xN) [.t 2] y2ib := sq y1y7 fun _ => by kernel_rfl
def ydy (a j i : AV) (h : Heap) : OX :=
cnd i
 (ob (evFa 2 a) fun g =>
ob (evLd false 1 g h) fun b =>
ob (evFa 3 a) fun k =>
ob (evLd false 1 k h) fun c =>
ob (evFa 4 a) fun l =>
ob (evLd false 1 l h) fun d =>
oh (y12 0 (some 3) 1 3 [(.int .i64 0)] [(0, b), (1, c), (2, d)] h) fun e h5 =>
(yf h5 e))
 ((ydj a j h))
def y2i2 (s : St) : OX := ydy (s 1) (s 4) (s 33) s.h
theorem y1zd : T1 y1mu y37 (y5 0 y37 xN) [.t 2] y2i2 := fun s => (y1b rfl (y1y0 s)).trans (by kernel_rfl)
def ye8 (b a : AV) (h : Heap) : OX :=
ob (y8 .eql a (.int .i64 14)) fun c =>
(ydy b a c h)
def y2m0 (s : St) : OX := ye8 (s 1) (s 4) s.h
theorem y1yu : T1 y1qj y37 (y5 0 y37 xN) [.t 2] y2m0 := sq y1zd fun _ => by kernel_rfl
def y4y (a i d : AV) (h : Heap) : OX :=
cnd d
 (ob (evFa 2 a) fun b =>
ob (evLd false 1 b h) fun g =>
ob (evFa 3 a) fun j =>
ob (evLd false 1 j h) fun c =>
oh (y12 0 (some 2) 1 2 [(.int .i64 0)] [(0, g), (1, c)] h) fun e h6 =>
(yf h6 e))
 ((ye8 a i h))
def y2ch (s : St) : OX := y4y (s 1) (s 4) (s 21) s.h
theorem y1nu : T1 y11m y37 (y5 0 y37 xN) [.t 2] y2ch := fun s => (y1b rfl (y1yu s)).trans (by kernel_rfl)
def y6z (b a : AV) (h : Heap) : OX :=
ob (y8 .eql a (.int .i64 5)) fun e =>
cnd e
 ((y4y b a e h))
 (ob (y8 .eql a (.int .i64 9)) fun d =>
cnd d
 ((y4y b a d h))
 (ob (y8 .eql a (.int .i64 11)) fun i =>
cnd i
 ((y4y b a i h))
 (ob (y8 .eql a (.int .i64 13)) fun c =>
cnd c
 ((y4y b a c h))
 (ob (y8 .eql a (.int .i64 17)) fun g =>
cnd g
 ((y4y b a g h))
 (ob (y8 .eql a (.int .i64 28)) fun j =>
(y4y b a j h))))))
def y2dc (s : St) : OX := y6z (s 1) (s 4) s.h
theorem y1fz : T1 y11s y37 (y5 0 y37 xN) [.t 2] y2dc := sq y1nu fun _ => by kernel_rfl
def y3g (a e g : AV) (h : Heap) : OX :=
cnd g
 (ob (evFa 2 a) fun d =>
ob (evLd false 1 d h) fun c =>
oh (y12 0 (some 1) 1 1 [(.int .i64 0)] [(0, c)] h) fun b h7 =>
(yf h7 b))
 ((y6z a e h))
def y29y (s : St) : OX := y3g (s 1) (s 4) (s 5) s.h
theorem y1pf : T1 y13e y37 (y5 0 y37 xN) [.t 2] y29y := fun s => (y1b rfl (y1fz s)).trans (by kernel_rfl)
def y6s (b a : AV) (h : Heap) : OX :=
ob (y8 .eql a (.int .i64 4)) fun n =>
cnd n
 ((y3g b a n h))
 (ob (y8 .eql a (.int .i64 6)) fun m =>
cnd m
 ((y3g b a m h))
 (ob (y8 .eql a (.int .i64 7)) fun o =>
cnd o
 ((y3g b a o h))
 (ob (y8 .eql a (.int .i64 8)) fun i =>
cnd i
 ((y3g b a i h))
 (ob (y8 .eql a (.int .i64 10)) fun c =>
cnd c
 ((y3g b a c h))
 (ob (y8 .eql a (.int .i64 12)) fun j =>
cnd j
 ((y3g b a j h))
 (ob (y8 .eql a (.int .i64 15)) fun l =>
cnd l
 ((y3g b a l h))
 (ob (y8 .eql a (.int .i64 16)) fun d =>
cnd d
 ((y3g b a d h))
 (ob (y8 .eql a (.int .i64 19)) fun k =>
cnd k
 ((y3g b a k h))
 (ob (y8 .eql a (.int .i64 21)) fun e =>
cnd e
 ((y3g b a e h))
 (ob (y8 .eql a (.int .i64 22)) fun g =>
cnd g
 ((y3g b a g h))
 (ob (y8 .eql a (.int .i64 31)) fun p =>
(y3g b a p h))))))))))))
def y1mm (s : St) : OX := y6s (s 1) (s 4) s.h
theorem y1qv : T1 y18m y37 (y5 0 y37 xN) [.t 2] y1mm := sq y1pf fun _ => by kernel_rfl
theorem y1v9 : T1 yy0 y37 xN [.t 2] y1mm := fun s => yy.trans (y1qv s)
def y73 (a : AV) (h : Heap) : OX :=
ob (evFa 0 a) fun b =>
ob (evLd false 1 b h) fun c =>
(y6s a c h)
def y1gt (s : St) : OX := y73 (s 1) s.h
theorem y1ty : T1 y18j y37 xN [.t 2] y1gt := sq y1v9 fun _ => by kernel_rfl
theorem y1cx : T0 y143 [.t 2] y1gt := sq y202 y1ty
def y6v (b : AV) (h : Heap) : OX :=
oh (newC 0 (some 0) (cellsOf b) h) fun a h8 =>
(y73 a h8)
def y285 (s : St) : OX := y6v (s 0) s.h
theorem y1j4 : T0 yxq [.t 2] y285 := sq y1cx fun _ => by kernel_rfl
@[simp] theorem y2ov : E.pure 10 = true := rfl
theorem ywe (a : AV) : (yb E).p 10 [a] = y6v a [⟨0, .dead⟩, ⟨0, .dead⟩, ⟨0, .dead⟩, ⟨0, .dead⟩, ⟨0, .dead⟩, ⟨0, .dead⟩, ⟨0, .dead⟩, ⟨0, .dead⟩] :=
  (y15 (cf := y2l4) (by kernel_rfl) rfl).trans ((y1j4 _).trans (by kernel_rfl))
def y1im (h : Heap) : OX :=
(yf h (.int .i64 (-1)))
def y2ji (s : St) : OX := y1im s.h
theorem y1z5 : T0 y1mb [.t 2] y2ji := fun _ => by kernel_rfl
def y1o5 (a : AV) (h : Heap) : OX :=
ob (evLd true 9 a h) fun d =>
oh (y9 E (yb E) 0 none true 17 [d] h) fun c h1 =>
cnd c
 (ob (evFa 1 a) fun e =>
ob (evLd false 1 e h1) fun b =>
(yf h1 b))
 ((y1im h1))
def yiw (s : St) : OX := y1o5 (s 1) s.h
theorem y223 : T0 y1u2 [.t 2] yiw := sq y1z5 fun _ => by kernel_rfl
def ya9 (a d : AV) (h : Heap) : OX :=
cnd d
 (ob (evFa 1 a) fun b =>
ob (evLd false 1 b h) fun c =>
(yf h c))
 ((y1o5 a h))
def y2hj (s : St) : OX := ya9 (s 1) (s 5) s.h
theorem y1wx : T1 y1qp yiw (y5 0 yiw xN) [.t 2] y2hj := fun _ => by kernel_rfl
def y1f5 (a b : AV) (h : Heap) : OX :=
ob (y8 .eql b (.int .i64 1)) fun p =>
cnd p
 ((ya9 a p h))
 (ob (y8 .eql b (.int .i64 2)) fun o =>
cnd o
 ((ya9 a o h))
 (ob (y8 .eql b (.int .i64 3)) fun r =>
cnd r
 ((ya9 a r h))
 (ob (y8 .eql b (.int .i64 4)) fun j =>
cnd j
 ((ya9 a j h))
 (ob (y8 .eql b (.int .i64 5)) fun c =>
cnd c
 ((ya9 a c h))
 (ob (y8 .eql b (.int .i64 6)) fun k =>
cnd k
 ((ya9 a k h))
 (ob (y8 .eql b (.int .i64 13)) fun n =>
cnd n
 ((ya9 a n h))
 (ob (y8 .eql b (.int .i64 15)) fun d =>
cnd d
 ((ya9 a d h))
 (ob (y8 .eql b (.int .i64 16)) fun l =>
cnd l
 ((ya9 a l h))
 (ob (y8 .eql b (.int .i64 18)) fun e =>
cnd e
 ((ya9 a e h))
 (ob (y8 .eql b (.int .i64 20)) fun i =>
cnd i
 ((ya9 a i h))
 (ob (y8 .eql b (.int .i64 21)) fun g =>
cnd g
 ((ya9 a g h))
 (ob (y8 .eql b (.int .i64 22)) fun m =>
cnd m
 ((ya9 a m h))
 (ob (y8 .eql b (.int .i64 32)) fun t =>
(ya9 a t h))))))))))))))
def y25y (s : St) : OX := y1f5 (s 1) (s 4) s.h
theorem y1yg : T1 y1lm yiw (y5 0 yiw xN) [.t 2] y25y := sq y1wx fun _ => by kernel_rfl
theorem y1x4 : T1 y1tg yiw xN [.t 2] y25y := fun s => yy.trans (y1yg s)
def y1dp (a : AV) (h : Heap) : OX :=
ob (evFa 0 a) fun b =>
ob (evLd false 1 b h) fun c =>
(y1f5 a c h)
def y25v (s : St) : OX := y1dp (s 1) s.h
theorem y24l : T1 y1vc yiw xN [.t 2] y25v := sq y1x4 fun _ => by kernel_rfl
theorem y1xr : T0 y1f8 [.t 2] y25v := sq y223 y24l
def y1u3 (b : AV) (h : Heap) : OX :=
oh (newC 0 (some 0) (cellsOf b) h) fun a h2 =>
(y1dp a h2)
def y2mw (s : St) : OX := y1u3 (s 0) s.h
theorem y23o : T0 y1l1 [.t 2] y2mw := sq y1xr fun _ => by kernel_rfl
@[simp] theorem y2ro : E.pure 9 = true := rfl
theorem y2ot (a : AV) : (yb E).p 9 [a] = y1u3 a [⟨0, .dead⟩] :=
  (y15 (cf := y2hb) (by kernel_rfl) rfl).trans ((y23o _).trans (by kernel_rfl))
def y16t (a : AV) (h : Heap) : OX :=
oh (y12 0 (some 0) 1 0 [(.int .i64 0)] [] h) fun c h1 =>
oh (y41 0 (some 1) 1 8 c a h1) fun b h2 =>
(yf h2 b)
def y28e (s : St) : OX := y16t (s 0) s.h
theorem y1tq : T0 y14w [.t 2] y28e := fun _ => by kernel_rfl
def y0p (a : AV) (h : Heap) : OX :=
ob (y4q 1 false a AV.nils) fun b =>
cnd b
 ((yf h AV.nils))
 ((y16t a h))
def y2fc (s : St) : OX := y0p (s 0) s.h
theorem y1e2 : T0 y17v [.t 2] y2fc := sq y1tq fun _ => by kernel_rfl
def y16a (a : AV) (h : Heap) : OX :=
(y0p a h)
def y2at (s : St) : OX := y16a (s 0) s.h
theorem y1qi : T0 y184 [.t 2] y2at := sq y1e2 fun _ => by kernel_rfl
@[simp] theorem y2o2 : E.pure 39 = true := rfl
theorem y2hg (a : AV) : (yb E).p 39 [a] = y16a a [⟨0, .dead⟩, ⟨0, .dead⟩] :=
  (y15 (cf := y25p) (by kernel_rfl) rfl).trans ((y1qi _).trans (by kernel_rfl))
def y12p (a : AV) (h : Heap) : OX :=
oh (y12 0 (some 0) 9 0 [(.int .i64 0), (.int .i64 0), (.int .i64 0), (.int .i64 0), (.int .i64 0), (.int .i64 0), (.int .i64 0), (.str []), .nils] [] h) fun c h1 =>
oh (y41 0 (some 1) 9 96 c a h1) fun b h2 =>
(yf h2 b)
def y27x (s : St) : OX := y12p (s 0) s.h
theorem y1q7 : T0 y177 [.t 2] y27x := fun _ => by kernel_rfl
def y13a (a : AV) (h : Heap) : OX :=
ob (y4q 1 false a AV.nils) fun b =>
cnd b
 ((yf h AV.nils))
 ((y12p a h))
def y293 (s : St) : OX := y13a (s 0) s.h
theorem y1qc : T0 y0n [.t 2] y293 := sq y1q7 fun _ => by kernel_rfl
def y17a (a : AV) (h : Heap) : OX :=
(y13a a h)
def y28o (s : St) : OX := y17a (s 0) s.h
theorem y1uv : T0 y17u [.t 2] y28o := sq y1qc fun _ => by kernel_rfl
@[simp] theorem y2pk : E.pure 40 = true := rfl
theorem y2mt (a : AV) : (yb E).p 40 [a] = y17a a [⟨0, .dead⟩, ⟨0, .dead⟩] :=
  (y15 (cf := y25w) (by kernel_rfl) rfl).trans ((y1uv _).trans (by kernel_rfl))
def y14u (a : AV) (h : Heap) : OX :=
oh (y12 0 (some 0) 4 0 [(.int .i64 0), (.int .i64 0), (.int .i64 0), (.str [])] [] h) fun c h1 =>
oh (y41 0 (some 1) 4 40 c a h1) fun b h2 =>
(yf h2 b)
def y28l (s : St) : OX := y14u (s 0) s.h
theorem y1ec : T0 y11k [.t 2] y28l := fun _ => by kernel_rfl
def y18g (a : AV) (h : Heap) : OX :=
ob (y4q 1 false a AV.nils) fun b =>
cnd b
 ((yf h AV.nils))
 ((y14u a h))
def y2b3 (s : St) : OX := y18g (s 0) s.h
theorem y1qd : T0 y0k [.t 2] y2b3 := sq y1ec fun _ => by kernel_rfl
def y141 (a : AV) (h : Heap) : OX :=
(y18g a h)
def y2a7 (s : St) : OX := y141 (s 0) s.h
theorem y1n4 : T0 y17r [.t 2] y2a7 := sq y1qd fun _ => by kernel_rfl
@[simp] theorem y2ox : E.pure 41 = true := rfl
theorem y2jw (a : AV) : (yb E).p 41 [a] = y141 a [⟨0, .dead⟩, ⟨0, .dead⟩] :=
  (y15 (cf := y277) (by kernel_rfl) rfl).trans ((y1n4 _).trans (by kernel_rfl))
def yi6 (h : Heap) : OX :=
(yf h (.bool true))
def y77 (s : St) : OX := yi6 s.h
theorem y1cs : T0 yz9 [.t 4] y77 := fun _ => by kernel_rfl
def yfx (b a c : AV) (h : Heap) : OX :=
  W E 0 yj4 ⟨[(0, b), (1, a), (5, c)], h⟩ y77 (y5 0 y77 xN) (finP [.t 4])
def ybn (s : St) : OX := yfx (s 0) (s 1) (s 5) s.h
theorem yma : T1 yj4 y77 (y5 0 y77 xN) [.t 4] ybn := fun s => yj.trans (by kernel_rfl)
def yhq (c b d : AV) (h : Heap) : OX :=
ob (y8 .add d (.int .i64 1)) fun a =>
(yfx c b a h)
def y2g0 (s : St) : OX := yhq (s 0) (s 1) (s 5) s.h
theorem y1nx : T1 y18n ybn (y5 0 y77 xN) [.t 4] y2g0 := fun _ => by kernel_rfl
def yig (c b a : AV) (h : Heap) : OX :=
ob (yx 1 c a) fun g =>
ob (evLd false 1 g h) fun e =>
ob (yx 1 b a) fun i =>
ob (evLd false 1 i h) fun j =>
ob (y8 .neq e j) fun d =>
cnd d
 ((yf h (.bool false)))
 ((yhq c b a h))
def y2fn (s : St) : OX := yig (s 0) (s 1) (s 5) s.h
theorem y1rj : T1 y165 ybn (y5 0 y77 xN) [.t 4] y2fn := sq y1nx fun _ => by kernel_rfl
def yk1 (a d b : AV) (h : Heap) : OX :=
ob (y13 1 a h) fun c =>
ob (y8 .lss b c) fun e =>
cnd e
 ((yig a d b h))
 ((yi6 h))
def y2ac (s : St) : OX := yk1 (s 0) (s 1) (s 5) s.h
theorem y1w4 : T1 y11w ybn (y5 0 y77 xN) [.t 4] y2ac := sq y1rj fun _ => by kernel_rfl
theorem yll (b a c : AV) (h : Heap) : yfx b a c h = (yk1 b a c h) :=
  y28.trans ((y1c _ _ _ (n' := ybn) (fun s => yma s)).trans ((y1w4 _).trans (by kernel_rfl)))
theorem y1m6 : T1 y15z y77 xN [.t 4] ybn := fun s => yy.trans (yma s)
def yko (b a : AV) (h : Heap) : OX :=
(yfx b a (.int .i64 0) h)
def y1mg (s : St) : OX := yko (s 0) (s 1) s.h
theorem y1gk : T1 y14k y77 xN [.t 4] y1mg := sq y1m6 fun _ => by kernel_rfl
theorem y1ob : T0 yxa [.t 4] y1mg := sq y1cs y1gk
def yjk (b a : AV) (h : Heap) : OX :=
ob (y13 1 b h) fun e =>
ob (y13 1 a h) fun d =>
ob (y8 .neq e d) fun c =>
cnd c
 ((yf h (.bool false)))
 ((yko b a h))
def y2bn (s : St) : OX := yjk (s 0) (s 1) s.h
theorem y1ua : T0 yyn [.t 4] y2bn := sq y1ob fun _ => by kernel_rfl
def yd5 (b a : AV) (h : Heap) : OX :=
(yjk b a h)
def y242 (s : St) : OX := yd5 (s 0) (s 1) s.h
theorem y1bp : T0 ys2 [.t 4] y242 := sq y1ua fun _ => by kernel_rfl
@[simp] theorem y2p4 : E.pure 11 = true := rfl
theorem y2ie (b a : AV) : (yb E).p 11 [b, a] = yd5 b a [] :=
  (y15 (cf := y25o) (by kernel_rfl) rfl).trans ((y1bp _).trans (by kernel_rfl))
def ybb (Q L : AV) (h : Heap) : OX :=
oh (newC 0 (some 0) (cellsOf Q) h) fun b h1 =>
oh (newC 0 (some 1) (cellsOf L) h1) fun a h2 =>
ob (evFa 0 b) fun a5 =>
ob (evLd false 1 a5 h2) fun a2 =>
ob (evFa 0 a) fun H =>
ob (evLd false 1 H h2) fun z =>
ob (y8 .eql a2 z) fun g =>
gb g true (evFa 1 b) fun D =>
gb g true (evLd false 1 D h2) fun a3 =>
gb g true (evFa 1 a) fun n =>
gb g true (evLd false 1 n h2) fun J =>
gb g true (y8 .eql a3 J) fun a6 =>
ob (yd g a6 (.bool false)) fun i =>
gb i true (evFa 2 b) fun U =>
gb i true (evLd false 1 U h2) fun t =>
gb i true (evFa 2 a) fun r =>
gb i true (evLd false 1 r h2) fun M =>
gb i true (y8 .eql t M) fun Y =>
ob (yd i Y (.bool false)) fun j =>
gb j true (evFa 3 b) fun p =>
gb j true (evLd false 1 p h2) fun w =>
gb j true (evFa 3 a) fun a0 =>
gb j true (evLd false 1 a0 h2) fun A =>
gb j true (y8 .eql w A) fun v =>
ob (yd j v (.bool false)) fun l =>
gb l true (evFa 4 b) fun u =>
gb l true (evLd false 1 u h2) fun X =>
gb l true (evFa 4 a) fun R =>
gb l true (evLd false 1 R h2) fun V =>
gb l true (y8 .eql X V) fun m =>
ob (yd l m (.bool false)) fun k =>
gb k true (evFa 5 b) fun y =>
gb k true (evLd false 1 y h2) fun a8 =>
gb k true (evFa 5 a) fun N =>
gb k true (evLd false 1 N h2) fun Z =>
gb k true (y8 .eql a8 Z) fun B =>
ob (yd k B (.bool false)) fun c =>
gb c true (evFa 6 b) fun K =>
gb c true (evLd false 1 K h2) fun a9 =>
gb c true (evFa 6 a) fun I =>
gb c true (evLd false 1 I h2) fun b0 =>
gb c true (y8 .eql a9 b0) fun O =>
ob (yd c O (.bool false)) fun d =>
gb d true (evFa 7 b) fun a7 =>
gb d true (evLd false 1 a7 h2) fun a4 =>
gb d true (evFa 7 a) fun b1 =>
gb d true (evLd false 1 b1 h2) fun F =>
gb d true (y8 .eql a4 F) fun S =>
ob (yd d S (.bool false)) fun e =>
gb e true (evFa 8 b) fun P =>
gb e true (evLd false 1 P h2) fun G =>
gb e true (evFa 8 a) fun x =>
gb e true (evLd false 1 x h2) fun C =>
gh e true (y9 E (yb E) 0 none true 11 [G, C] h2) h2 fun o h3 =>
ob (yd e o (.bool false)) fun a1 =>
(yf h3 a1)
def y2cu (s : St) : OX := ybb (s 0) (s 1) s.h
theorem y1tr : T0 ywz [.t 4] y2cu := fun _ => by kernel_rfl
@[simp] theorem y2pr : E.pure 28 = true := rfl
theorem y2if (b a : AV) : (yb E).p 28 [b, a] = ybb b a [⟨0, .dead⟩, ⟨0, .dead⟩] :=
  (y15 (cf := y263) (by kernel_rfl) rfl).trans ((y1tr _).trans (by kernel_rfl))
def y2c6 (g : AV) (h : Heap) : OX :=
oh (newC 0 (some 0) (cellsOf g) h) fun c h1 =>
ob (evFa 0 c) fun l =>
ob (evLd false 1 l h1) fun k =>
ob (y8 .eql k (.int .i64 27)) fun b =>
gb b false (evFa 0 c) fun m =>
gb b false (evLd false 1 m h1) fun o =>
gb b false (y8 .eql o (.int .i64 30)) fun i =>
ob (yd b (.bool true) i) fun a =>
gb a false (evFa 0 c) fun n =>
gb a false (evLd false 1 n h1) fun d =>
gb a false (y8 .eql d (.int .i64 31)) fun j =>
ob (yd a (.bool true) j) fun e =>
(yf h1 e)
def y2i9 (s : St) : OX := y2c6 (s 0) s.h
theorem y1yk : T0 y1fx [.t 2] y2i9 := fun _ => by kernel_rfl
@[simp] theorem y2o0 : E.pure 24 = true := rfl
theorem y2q0 (a : AV) : (yb E).p 24 [a] = y2c6 a [⟨0, .dead⟩] :=
  (y15 (cf := y2h4) (by kernel_rfl) rfl).trans ((y1yk _).trans (by kernel_rfl))
def yyq (b a : AV) (h : Heap) : OX :=
oh (y9 E (yb E) 0 none true 45 [b, a] h) fun c h1 =>
ob (y8 .geq c (.int .i64 0)) fun d =>
(yf h1 d)
def y2b5 (s : St) : OX := yyq (s 0) (s 1) s.h
theorem y1s1 : T0 yzj [.t 4] y2b5 := fun _ => by kernel_rfl
@[simp] theorem y2on : E.pure 46 = true := rfl
theorem y2jk (b a : AV) : (yb E).p 46 [b, a] = yyq b a [] :=
  (y15 (cf := y27s) (by kernel_rfl) rfl).trans ((y1s1 _).trans (by kernel_rfl))
def y1ow (r c : AV) (h : Heap) : OX :=
ob (evLd true 9 c h) fun o =>
oh (y9 E (yb E) 0 none true 22 [o] h) fun m h1 =>
ob (evUn .not m) fun b =>
gb b false (evFa 6 c) fun j =>
gb b false (evLd false 1 j h1) fun t =>
gb b false (y8 .geq t (.int .i64 0)) fun i =>
gb b false (some i) fun a =>
gb a true (evFa 6 c) fun k =>
gb a true (evLd false 1 k h1) fun l =>
gb a true (evFa 3 r) fun d =>
gb a true (evLd false 1 d h1) fun e =>
gb a true (y13 1 e h1) fun u =>
gb a true (y8 .lss l u) fun p =>
gb b false (yd a p (.bool false)) fun n =>
ob (yd b (.bool true) n) fun g =>
(yf h1 g)
def y2hr (s : St) : OX := y1ow (s 2) (s 3) s.h
theorem y1x8 : T0 y1va [.t 4] y2hr := fun _ => by kernel_rfl
def yaa (d a : AV) (h : Heap) : OX :=
ob (evFa 0 a) fun w =>
ob (evLd false 1 w h) fun i =>
ob (y8 .eql i (.int .i64 1)) fun c7 =>
cnd c7
 (ob (evFa 0 d) fun b1 =>
ob (evLd false 1 b1 h) fun c8 =>
ob (evFa 1 a) fun I =>
ob (evLd false 1 I h) fun a5 =>
ob (yx 1 c8 a5) fun c1 =>
ob (evLd false 1 c1 h) fun D =>
ob (y8 .neq D (.int .i64 3)) fun c =>
gb c true (evFa 0 d) fun H =>
gb c true (evLd false 1 H h) fun M =>
gb c true (evFa 1 a) fun a0 =>
gb c true (evLd false 1 a0 h) fun x =>
gb c true (yx 1 M x) fun A =>
gb c true (evLd false 1 A h) fun c5 =>
gb c true (y8 .eql c5 (.int .i64 2)) fun r =>
gb c true (some r) fun e =>
gb e false (evFa 5 a) fun b2 =>
gb e false (evLd false 1 b2 h) fun b8 =>
gb e false (evFa 5 a) fun n =>
gb e false (evLd false 1 n h) fun G =>
gb e false (y19g .i32 G) fun b7 =>
gb e false (y19g .i64 b7) fun a6 =>
gb e false (y8 .eql b8 a6) fun c2 =>
gb c true (yd e (.bool true) c2) fun S =>
ob (yd c S (.bool false)) fun J =>
(yf h J))
 (ob (y8 .eql i (.int .i64 4)) fun C =>
cnd C
 (ob (evFa 0 d) fun k =>
ob (evLd false 1 k h) fun Y =>
ob (evFa 1 a) fun B =>
ob (evLd false 1 B h) fun b9 =>
ob (yx 1 Y b9) fun l =>
ob (evLd false 1 l h) fun v =>
ob (evFa 0 d) fun b0 =>
ob (evLd false 1 b0 h) fun c4 =>
ob (evFa 2 a) fun b6 =>
ob (evLd false 1 b6 h) fun a4 =>
ob (yx 1 c4 a4) fun F =>
ob (evLd false 1 F h) fun b3 =>
ob (y8 .eql v b3) fun p =>
(yf h p))
 (ob (y8 .eql i (.int .i64 7)) fun a8 =>
cnd a8
 (ob (evFa 0 d) fun O =>
ob (evLd false 1 O h) fun Z =>
ob (evFa 2 a) fun a3 =>
ob (evLd false 1 a3 h) fun R =>
ob (yx 1 Z R) fun a7 =>
ob (evLd false 1 a7 h) fun o =>
ob (y8 .neq o (.int .i64 3)) fun c0 =>
(yf h c0))
 (ob (y8 .eql i (.int .i64 30)) fun N =>
cnd N
 (ob (evFa 2 a) fun z =>
ob (evLd false 1 z h) fun X =>
ob (y8 .eql X (.int .i64 (-1))) fun Q =>
ob (evFa 2 d) fun c6 =>
ob (evLd false 1 c6 h) fun y =>
ob (y8 .eql y (.int .i64 0)) fun a9 =>
ob (y247 false Q a9) fun g =>
gb g true (evFa 2 a) fun V =>
gb g true (evLd false 1 V h) fun t =>
gb g true (y8 .eql t (.int .i64 (-1))) fun a2 =>
gb g true (some a2) fun b =>
gb b false (evFa 0 d) fun b5 =>
gb b false (evLd false 1 b5 h) fun L =>
gb b false (evFa 2 a) fun a1 =>
gb b false (evLd false 1 a1 h) fun c3 =>
gb b false (yx 1 L c3) fun j =>
gb b false (evLd false 1 j h) fun K =>
gb b false (evFa 2 d) fun b4 =>
gb b false (evLd false 1 b4 h) fun u =>
gb b false (y8 .eql K u) fun m =>
gb g true (yd b (.bool true) m) fun P =>
ob (yd g P (.bool false)) fun U =>
(yf h U))
 ((y1ow d a h)))))
def y67 (s : St) : OX := yaa (s 2) (s 3) s.h
theorem y1ym : T0 y1s4 [.t 4] y67 := sq y1x8 fun _ => by kernel_rfl
def yhv (e d b a c : AV) (h : Heap) : OX :=
  W E 0 yoz ⟨[(2, e), (3, d), (63, b), (64, a), (65, c)], h⟩ y67 (y5 2 y67 xN) (finP [.t 4])
def ydc (s : St) : OX := yhv (s 2) (s 3) (s 63) (s 64) (s 65) s.h
theorem yt4 : T1 yoz y67 (y5 2 y67 xN) [.t 4] ydc := fun s => yj.trans (by kernel_rfl)
def y1la (g e b a d : AV) (h : Heap) : OX :=
ob (y8 .add d (.int .i64 1)) fun c =>
(yhv g e b a c h)
def ygs (s : St) : OX := y1la (s 2) (s 3) (s 63) (s 64) (s 65) s.h
theorem y1x2 : T1 y1g0 ydc (y5 2 y67 xN) [.t 4] ygs := fun _ => by kernel_rfl
def yi2 (j g u i v k G : AV) (h : Heap) : OX :=
ob (y8 .lss i (.int .i64 0)) fun c =>
gb c false (some i) fun F =>
gb c false (evFa 0 j) fun x =>
gb c false (evLd false 1 x h) fun H =>
gb c false (y13 1 H h) fun t =>
gb c false (y8 .geq F t) fun p =>
ob (yd c (.bool true) p) fun a =>
gb a false (some u) fun y =>
gb a false (y8 .eql y (.int .i64 0)) fun C =>
gb a false (some C) fun d =>
gb d true (evFa 0 g) fun m =>
gb d true (evLd false 1 m h) fun N =>
gb d true (y8 .eql N (.int .i64 24)) fun K =>
gb d true (some K) fun e =>
gb e false (evFa 0 g) fun A =>
gb e false (evLd false 1 A h) fun I =>
gb e false (y8 .eql I (.int .i64 25)) fun n =>
gb d true (yd e (.bool true) n) fun r =>
gb a false (yd d r (.bool false)) fun o =>
gb a false (some o) fun b =>
gb b true (evFa 0 j) fun w =>
gb b true (evLd false 1 w h) fun D =>
gb b true (some i) fun L =>
gb b true (yx 1 D L) fun B =>
gb b true (evLd false 1 B h) fun l =>
gb b true (y8 .neq l (.int .i64 3)) fun z =>
gb a false (yd b z (.bool false)) fun J =>
ob (yd a (.bool true) J) fun M =>
cnd M
 ((yf h (.bool false)))
 ((y1la j g v k G h))
def y2m8 (s : St) : OX := yi2 (s 2) (s 3) (s 9) (s 10) (s 63) (s 64) (s 65) s.h
theorem y24q : T1 y1vv ygs (y5 3 ygs (y5 2 y67 xN)) [.t 4] y2m8 := fun _ => by kernel_rfl
def y1s5 (b a j c k d l : AV) (h : Heap) : OX :=
ob (evLd true 9 a h) fun e =>
oh (y9 E (yb E) 0 none true 17 [e] h) fun g h2 =>
ob (evUn .not g) fun i =>
cnd i
 ((yaa b a h2))
 ((yi2 b a j c k d l h2))
def y2k7 (s : St) : OX := y1s5 (s 2) (s 3) (s 9) (s 10) (s 63) (s 64) (s 65) s.h
theorem y1ww : T1 y1ra ygs (y5 3 ygs (y5 2 y67 xN)) [.t 4] y2k7 := sq y24q fun _ => by kernel_rfl
def y1s0 (i g b c a : AV) (h : Heap) : OX :=
ob (yx 1 b a) fun d =>
ob (evLd false 1 d h) fun e =>
(y1s5 i g a e b c a h)
def y1mj (s : St) : OX := y1s0 (s 2) (s 3) (s 63) (s 64) (s 65) s.h
theorem y23p : T1 y1e9 ygs (y5 3 ygs (y5 2 y67 xN)) [.t 4] y1mj := sq y1ww fun _ => by kernel_rfl
theorem y206 : T1 y1pv ygs (y5 2 y67 xN) [.t 4] y1mj := fun s => yy.trans (y23p s)
theorem y227 : T1 y1rx ydc (y5 2 y67 xN) [.t 4] y1mj := sq y1x2 y206
def yjm (b a e c g d : AV) (h : Heap) : OX :=
cnd d
 ((y1s0 b a e c g h))
 ((yaa b a h))
def y2bo (s : St) : OX := yjm (s 2) (s 3) (s 63) (s 64) (s 65) (s 66) s.h
theorem y1ni : T1 yzq ydc (y5 2 y67 xN) [.t 4] y2bo := sq y227 fun _ => by kernel_rfl
def yj0 (g e d a b : AV) (h : Heap) : OX :=
ob (y8 .lss b a) fun c =>
(yjm g e d a b c h)
def y29n (s : St) : OX := yj0 (s 2) (s 3) (s 63) (s 64) (s 65) s.h
theorem y1p2 : T1 y156 ydc (y5 2 y67 xN) [.t 4] y29n := sq y1ni fun _ => by kernel_rfl
theorem yjp (e d b a c : AV) (h : Heap) : yhv e d b a c h = (yj0 e d b a c h) :=
  y28.trans ((y1c _ _ _ (n' := ydc) (fun s => yt4 s)).trans ((y1p2 _).trans (by kernel_rfl)))
theorem y1ju : T1 y12b y67 xN [.t 4] ydc := fun s => yy.trans (yt4 s)
def yqm (d b : AV) (h : Heap) : OX :=
ob (evFa 8 b) fun e =>
ob (evLd false 1 e h) fun a =>
ob (y13 1 a h) fun c =>
(yhv d b a c (.int .i64 0) h)
def y3y (s : St) : OX := yqm (s 2) (s 3) s.h
theorem y1ky : T1 y12i y67 xN [.t 4] y3y := sq y1ju fun _ => by kernel_rfl
theorem y1gd : T0 y0d [.t 4] y3y := sq y1ym y1ky
def yd1 (c a d b e : AV) (h : Heap) : OX :=
  W E 0 yk7 ⟨[(2, c), (3, a), (5, d), (26, b), (27, e)], h⟩ y3y (y5 0 y3y xN) (finP [.t 4])
def y8u (s : St) : OX := yd1 (s 2) (s 3) (s 5) (s 26) (s 27) s.h
theorem ynl : T1 yk7 y3y (y5 0 y3y xN) [.t 4] y8u := fun s => yj.trans (by kernel_rfl)
def yu0 (d b e c g : AV) (h : Heap) : OX :=
ob (y8 .add g (.int .i64 1)) fun a =>
(yd1 d b e c a h)
def yat (s : St) : OX := yu0 (s 2) (s 3) (s 5) (s 26) (s 27) s.h
theorem y1dd : T1 yxc y8u (y5 0 y3y xN) [.t 4] yat := fun _ => by kernel_rfl
def yih (g l e i d m B : AV) (h : Heap) : OX :=
ob (y8 .lss d (.int .i64 0)) fun c =>
gb c false (some d) fun j =>
gb c false (evFa 0 g) fun n =>
gb c false (evLd false 1 n h) fun F =>
gb c false (y13 1 F h) fun v =>
gb c false (y8 .geq j v) fun A =>
ob (yd c (.bool true) A) fun b =>
gb b false (some i) fun H =>
gb b false (yp8 4 1 e H) fun t =>
gb b false (evLd false 1 t h) fun G =>
gb b false (y8 .gtr G (.int .i64 0)) fun r =>
gb b false (some r) fun a =>
gb a true (evFa 0 g) fun w =>
gb a true (evLd false 1 w h) fun k =>
gb a true (some d) fun u =>
gb a true (yx 1 k u) fun D =>
gb a true (evLd false 1 D h) fun C =>
gb a true (some i) fun I =>
gb a true (yp8 4 1 e I) fun p =>
gb a true (evLd false 1 p h) fun y =>
gb a true (y8 .neq C y) fun o =>
gb b false (yd a o (.bool false)) fun z =>
ob (yd b (.bool true) z) fun x =>
cnd x
 ((yf h (.bool false)))
 ((yu0 g l e m B h))
def y2dq (s : St) : OX := yih (s 2) (s 3) (s 5) (s 7) (s 8) (s 26) (s 27) s.h
theorem y1r4 : T1 y0j yat (y5 1 yat (y5 0 y3y xN)) [.t 4] y2dq := fun _ => by kernel_rfl
def ye5 (g c a d l e b : AV) (h : Heap) : OX :=
ob (yp8 4 1 a d) fun i =>
ob (evLd false 1 i h) fun k =>
ob (y8 .lss k (.int .i64 0)) fun j =>
cnd j
 ((yu0 g c a e b h))
 ((yih g c a d l e b h))
def y2cg (s : St) : OX := ye5 (s 2) (s 3) (s 5) (s 7) (s 8) (s 26) (s 27) s.h
theorem y1q0 : T1 y160 yat (y5 1 yat (y5 0 y3y xN)) [.t 4] y2cg := sq y1r4 fun _ => by kernel_rfl
def y1re (d c g b a : AV) (h : Heap) : OX :=
ob (yok false 4 1 b a) fun e =>
(ye5 d c g a e b a h)
def ywr (s : St) : OX := y1re (s 2) (s 3) (s 5) (s 26) (s 27) s.h
theorem y1ls : T1 y17w yat (y5 1 yat (y5 0 y3y xN)) [.t 4] ywr := sq y1q0 fun _ => by kernel_rfl
theorem y1h4 : T1 y118 yat (y5 0 y3y xN) [.t 4] ywr := fun s => yy.trans (y1ls s)
theorem y1v7 : T1 y18b y8u (y5 0 y3y xN) [.t 4] ywr := sq y1dd y1h4
def y14t (b a e d g c : AV) (h : Heap) : OX :=
cnd c
 ((y1re b a e d g h))
 ((yqm b a h))
def y2fw (s : St) : OX := y14t (s 2) (s 3) (s 5) (s 26) (s 27) (s 28) s.h
theorem y1kc : T1 y13d y8u (y5 0 y3y xN) [.t 4] y2fw := sq y1v7 fun _ => by kernel_rfl
def y16c (e c g d a : AV) (h : Heap) : OX :=
ob (y8 .lss a (.int .i64 4)) fun b =>
(y14t e c g d a b h)
def y2a9 (s : St) : OX := y16c (s 2) (s 3) (s 5) (s 26) (s 27) s.h
theorem y1e1 : T1 yxg y8u (y5 0 y3y xN) [.t 4] y2a9 := sq y1kc fun _ => by kernel_rfl
theorem ym3 (c a d b e : AV) (h : Heap) : yd1 c a d b e h = (y16c c a d b e h) :=
  y28.trans ((y1c _ _ _ (n' := y8u) (fun s => ynl s)).trans ((y1e1 _).trans (by kernel_rfl)))
theorem y1fd : T1 y15f y3y xN [.t 4] y8u := fun s => yy.trans (ynl s)
def y1ql (l a n : AV) (h : Heap) : OX :=
ob (evFa 1 a) fun i =>
ob (evLd false 1 i h) fun e =>
ob (evFa 2 a) fun d =>
ob (evLd false 1 d h) fun b =>
ob (evFa 3 a) fun k =>
ob (evLd false 1 k h) fun g =>
ob (evFa 4 a) fun m =>
ob (evLd false 1 m h) fun c =>
ob (y10 [(.int .i64 0), (.int .i64 0), (.int .i64 0), (.int .i64 0)] [(0, 1, e), (1, 1, b), (2, 1, g), (3, 1, c)]) fun j =>
(yd1 l a n j (.int .i64 0) h)
def y1to (s : St) : OX := y1ql (s 2) (s 3) (s 5) s.h
theorem y1vw : T1 y17c y3y xN [.t 4] y1to := sq y1fd fun _ => by kernel_rfl
theorem y1ma : T0 y16y [.t 4] y1to := sq y1gd y1vw
def y15i (c b e d : AV) (h : Heap) : OX :=
ob (evUn .not d) fun a =>
cnd a
 ((yf h (.bool false)))
 ((y1ql c b e h))
def y298 (s : St) : OX := y15i (s 2) (s 3) (s 5) (s 6) s.h
theorem y1vo : T0 y17o [.t 4] y298 := sq y1ma fun _ => by kernel_rfl
def y0x (g b : AV) (h : Heap) : OX :=
ob (evLd true 9 b h) fun i =>
oh (y9 E (yb E) 0 none true 47 [i] h) fun a h3 =>
ob (y3z 0 a) fun e =>
ob (y3z 1 a) fun d =>
oh (newC 0 (some 2) [(.int .i64 0), (.int .i64 0), (.int .i64 0), (.int .i64 0)] h3) fun c h4 =>
oh (evSt 4 c e h4) fun _ h5 =>
(y15i g b c d h5)
def y28g (s : St) : OX := y0x (s 2) (s 3) s.h
theorem y1g7 : T0 y12f [.t 4] y28g := sq y1vo fun _ => by kernel_rfl
def ysa (c b : AV) (h : Heap) : OX :=
oh (newC 0 (some 0) (cellsOf c) h) fun a h6 =>
oh (newC 0 (some 1) (cellsOf b) h6) fun d h7 =>
(y0x a d h7)
def y297 (s : St) : OX := ysa (s 0) (s 1) s.h
theorem y1v3 : T0 y16e [.t 4] y297 := sq y1g7 fun _ => by kernel_rfl
@[simp] theorem y2pe : E.pure 63 = true := rfl
theorem y2po (b a : AV) : (yb E).p 63 [b, a] = ysa b a [⟨0, .dead⟩, ⟨0, .dead⟩, ⟨0, .dead⟩] :=
  (y15 (cf := y2ih) (by kernel_rfl) rfl).trans ((y1v3 _).trans (by kernel_rfl))
def y2ex (g : AV) (h : Heap) : OX :=
oh (newC 0 (some 0) (cellsOf g) h) fun c h1 =>
ob (evFa 0 c) fun l =>
ob (evLd false 1 l h1) fun k =>
ob (y8 .eql k (.int .i64 27)) fun b =>
gb b false (evFa 0 c) fun m =>
gb b false (evLd false 1 m h1) fun o =>
gb b false (y8 .eql o (.int .i64 28)) fun i =>
ob (yd b (.bool true) i) fun a =>
gb a false (evFa 0 c) fun n =>
gb a false (evLd false 1 n h1) fun d =>
gb a false (y8 .eql d (.int .i64 29)) fun j =>
ob (yd a (.bool true) j) fun e =>
(yf h1 e)
def y2ku (s : St) : OX := y2ex (s 0) s.h
theorem y1wq : T0 y1n8 [.t 2] y2ku := fun _ => by kernel_rfl
@[simp] theorem y2p2 : E.pure 22 = true := rfl
theorem y2qc (a : AV) : (yb E).p 22 [a] = y2ex a [⟨0, .dead⟩] :=
  (y15 (cf := y2gs) (by kernel_rfl) rfl).trans ((y1wq _).trans (by kernel_rfl))
def y1sj (fb : Nat) (d a : AV) (h : Heap) : Option (AV × Heap) :=
ob (evLd false 1 a h) fun b =>
oh (y12 fb (some 0) 1 1 [(.int .i64 0)] [(0, d)] h) fun c h1 =>
oh (y41 fb (some 1) 1 8 b c h1) fun e h2 =>
oh (evSt 1 a e h2) fun _ h3 =>
(some ((.tup []), h3))
def y7y (fb : Nat) (s : St) : Option (AV × Heap) := y1sj fb (s 0) (s 3) s.h
theorem y252 (fb : Nat) (s : St) : W E fb y1vt s (finI []) xN (finI []) = y7y fb s :=
  by kernel_rfl
def y2bd (fb : Nat) (a d c e : AV) (h : Heap) : Option (AV × Heap) :=
ob (evLd false 1 d h) fun b =>
ob (yx 1 b a) fun g =>
oh (evSt 1 g e h) fun _ h4 =>
(y1sj fb a c h4)
def y26c (fb : Nat) (s : St) : Option (AV × Heap) := y2bd fb (s 0) (s 2) (s 3) (s 6) s.h
theorem y1xy (fb : Nat) (s : St) : W E fb y1dk s (y7y fb) (y5 0 (y7y fb) xN) (finI []) = y26c fb s :=
  by kernel_rfl
def y2ek (fb : Nat) (a b k c : AV) (h : Heap) : Option (AV × Heap) :=
ob (y13 2 c h) fun l =>
ob (evLd false 1 b h) fun d =>
ob (yx 1 d a) fun e =>
ob (evLd false 1 e h) fun j =>
ob (y13 2 j h) fun g =>
ob (y8 .eql l g) fun i =>
cnd i
 ((some ((.tup []), h)))
 ((y2bd fb a b k c h))
def y266 (fb : Nat) (s : St) : Option (AV × Heap) := y2ek fb (s 0) (s 2) (s 3) (s 6) s.h
theorem y1y4 (fb : Nat) (s : St) : W E fb y1rm s (y7y fb) (y5 0 (y7y fb) xN) (finI []) = y266 fb s :=
  (ye1 (k := (y26c fb)) (fun s => y1xy fb s)).trans (by kernel_rfl)
def y2ds (fb : Nat) (a d b g : AV) (h : Heap) : Option (AV × Heap) :=
ob (evLd false 1 b h) fun i =>
ob (yx 1 i a) fun e =>
ob (evLd false 1 e h) fun c =>
oh (y9 E (yb E) fb none true 170 [c, d] h) fun j h5 =>
(y2ek fb a b g j h5)
def y2l6 (fb : Nat) (s : St) : Option (AV × Heap) := y2ds fb (s 0) (s 1) (s 2) (s 3) s.h
theorem y23g (fb : Nat) (s : St) : W E fb y1i9 s (y7y fb) (y5 0 (y7y fb) xN) (finI []) = y2l6 fb s :=
  (ye1 (k := (y266 fb)) (fun s => y1y4 fb s)).trans (by kernel_rfl)
def y1xw (fb : Nat) (b a c e i : AV) (h : Heap) : Option (AV × Heap) :=
cnd i
 (ob (evLd false 1 c h) fun g =>
ofp (y4k E (yb E) fb none true 161 [a] h) fun f3 =>
oh (y9 E (yb E) fb none true 161 [a] h) fun j h6 =>
ob (yx 1 g b) fun d =>
oh (evSt 1 d j h6) fun _ h7 =>
okK (yg [(ids1 c, []), ([], []), ([], []), f3, ([], []), ([], ids1 d)] [(0, 3)]) <|
(y1sj fb b e h7))
 ((y2ds fb b a c e h))
def y26q (fb : Nat) (s : St) : Option (AV × Heap) := y1xw fb (s 0) (s 1) (s 2) (s 3) (s 25) s.h
theorem y22e (fb : Nat) (s : St) : W E fb y1r1 s (y7y fb) (y5 0 (y7y fb) xN) (finI []) = y26q fb s :=
  (y1b rfl (y23g fb s)).trans (by kernel_rfl)
def y20e (fb : Nat) (a d b g : AV) (h : Heap) : Option (AV × Heap) :=
ob (evLd false 1 b h) fun i =>
ob (yx 1 i a) fun c =>
ob (evLd false 1 c h) fun e =>
ob (y4q 2 false e AV.nilm) fun j =>
(y1xw fb a d b g j h)
def y1qn (fb : Nat) (s : St) : Option (AV × Heap) := y20e fb (s 0) (s 1) (s 2) (s 3) s.h
theorem y20v (fb : Nat) (s : St) : W E fb y1tm s (y7y fb) (y5 0 (y7y fb) xN) (finI []) = y1qn fb s :=
  (ye1 (k := (y26q fb)) (fun s => y22e fb s)).trans (by kernel_rfl)
theorem y1y2 (fb : Nat) (s : St) : W E fb y1l4 s (y7y fb) xN (finI []) = y1qn fb s :=
  yy.trans (y20v fb s)
theorem y1zh (fb : Nat) (s : St) : W E fb y1nk s (finI []) xN (finI []) = y1qn fb s :=
  (ye1 (k := (y7y fb)) (fun s => y252 fb s)).trans (y1y2 fb s)
@[simp] theorem y2ng : E.pure 167 = false := rfl
theorem y2or (fb : Nat) (c b a d : AV) (h : Heap) : (yb E).i 167 [c, b, a, d] fb h = y20e fb c b a d (if fb = h.length then h ++ yv 2 else h) :=
  (y1ot (cf := y2j5) (by kernel_rfl) rfl).trans ((y1zh fb _).trans (by kernel_rfl))
def y1z9 (a : AV) (h : Heap) : OX :=
(yf h a)
def y1t8 (s : St) : OX := y1z9 (s 5) s.h
theorem y251 : T0 y1q6 [.t 4] y1t8 := fun _ => by kernel_rfl
def y244 (b g a : AV) (h : Heap) : Option Heap :=
ob (evLd true 3 a h) fun c =>
ob (y66 true [0, 0, 0] (.bool false) false b c h) fun d =>
cnd d
 (ob (evLd true 3 a h) fun e =>
oh (y6c true [0, 0, 0] g e (.bool true) h) fun _ h1 =>
(some (killAll 0 [1] h1)))
 ((some (killAll 0 [1] h)))
def y2hd (s : St) : Option Heap := y244 (s 1) (s 5) (s 6) s.h
theorem y23j (s : St) : W E 0 y1fw s (fun s3 => some (killAll 0 [1] s3.h)) xN (fun _ => none) = y2hd s :=
  by kernel_rfl
def y2ao (e d b : AV) (h : Heap) : OX :=
orm e (fun q h2 =>
ob (y3z 0 (AV.tup [q.1, q.2])) fun c =>
oh (newC 0 (some 1) [(.int .i64 0), (.int .i64 0), (.int .i64 0)] h2) fun a h4 =>
oh (evSt 3 a c h4) fun _ h5 =>
(y244 d b a h5)) h fun h3 =>
(y1z9 b h3)
def y25x (s : St) : OX := y2ao (s 0) (s 1) (s 5) s.h
theorem y217 : T1 y1i7 y1t8 xN [.t 4] y25x := fun s => (yjj (nk := y1t8) (fun s2 => y23j s2) (fun _ => rfl)).trans (by kernel_rfl)
theorem y22c : T0 y1s6 [.t 4] y25x := sq y251 y217
def y2cs (b a : AV) (h : Heap) : OX :=
oh (mkmC 0 (some 0) h) fun c h6 =>
(y2ao b a c h6)
def y2gy (s : St) : OX := y2cs (s 0) (s 1) s.h
theorem y208 : T0 y1ds [.t 4] y2gy := sq y22c fun _ => by kernel_rfl
def y2bx (b a : AV) (h : Heap) : OX :=
(y2cs b a h)
def y2kj (s : St) : OX := y2bx (s 0) (s 1) s.h
theorem y204 : T0 y1lt [.t 4] y2kj := sq y208 fun _ => by kernel_rfl
@[simp] theorem y2n1 : E.pure 170 = true := rfl
theorem y2p7 (b a : AV) : (yb E).p 170 [b, a] = y2bx b a [⟨0, .dead⟩, ⟨0, .dead⟩] :=
  (y15 (cf := y2jo) (by kernel_rfl) rfl).trans ((y204 _).trans (by kernel_rfl))
def y1o1 (a : AV) (h : Heap) : OX :=
(yf h a)
def y5y (s : St) : OX := y1o1 (s 5) s.h
theorem y1wz : T0 y1rb [.t 4] y5y := fun _ => by kernel_rfl
def yse (b e d a c : AV) (h : Heap) : OX :=
  W E 0 yp2 ⟨[(1, b), (5, e), (27, d), (28, a), (29, c)], h⟩ y5y (y5 0 y5y xN) (finP [.t 4])
def ydh (s : St) : OX := yse (s 1) (s 5) (s 27) (s 28) (s 29) s.h
theorem ysh : T1 yp2 y5y (y5 0 y5y xN) [.t 4] ydh := fun s => yj.trans (by kernel_rfl)
def y19w (b g e a d : AV) (h : Heap) : OX :=
ob (y8 .add d (.int .i64 1)) fun c =>
(yse b g e a c h)
def ycj (s : St) : OX := y19w (s 1) (s 5) (s 27) (s 28) (s 29) s.h
theorem y1zi : T1 y1gq ydh (y5 0 y5y xN) [.t 4] ycj := fun _ => by kernel_rfl
def y1bx (c a g i b e : AV) (h : Heap) : OX :=
ob (evFa 3 g) fun d =>
ob (evLd false 1 d h) fun k =>
ob (y8 .eql k (AV.str [])) fun j =>
cnd j
 ((y1o1 a h))
 ((y19w c a i b e h))
def y2jb (s : St) : OX := y1bx (s 1) (s 5) (s 7) (s 27) (s 28) (s 29) s.h
theorem y1yt : T1 y1u9 ycj (y5 1 ycj (y5 0 y5y xN)) [.t 4] y2jb := fun _ => by kernel_rfl
def y1wt (d b a g c e : AV) (h : Heap) : OX :=
ob (evFa 2 a) fun k =>
ob (evLd false 1 k h) fun o =>
oh (y9 E (yb E) 0 none true 46 [b, o] h) fun i h1 =>
ob (evUn .not i) fun n =>
cnd n
 (ob (evFa 2 a) fun p =>
ob (evLd false 1 p h1) fun l =>
oh (y12 0 (some 2) 1 1 [(.int .i64 0)] [(0, l)] h1) fun m h2 =>
oh (y41 0 (some 3) 1 8 b m h2) fun j h3 =>
(y1bx d j a g c e h3))
 ((y1bx d b a g c e h1))
def y2ii (s : St) : OX := y1wt (s 1) (s 5) (s 7) (s 27) (s 28) (s 29) s.h
theorem y245 : T1 y1hg ycj (y5 1 ycj (y5 0 y5y xN)) [.t 4] y2ii := sq y1yt fun _ => by kernel_rfl
def ywa (b i c g d e : AV) (h : Heap) : OX :=
ob (evFa 0 c) fun m =>
ob (evLd false 1 m h) fun n =>
ob (y8 .lss b n) fun a =>
gb a false (some b) fun j =>
gb a false (evFa 1 c) fun p =>
gb a false (evLd false 1 p h) fun k =>
gb a false (y8 .geq j k) fun l =>
ob (yd a (.bool true) l) fun o =>
cnd o
 ((y19w b i g d e h))
 ((y1wt b i c g d e h))
def y2il (s : St) : OX := ywa (s 1) (s 5) (s 7) (s 27) (s 28) (s 29) s.h
theorem y21n : T1 y1ou ycj (y5 1 ycj (y5 0 y5y xN)) [.t 4] y2il := sq y245 fun _ => by kernel_rfl
def y2cq (e j c d a : AV) (h : Heap) : OX :=
ob (yx 4 c a) fun g =>
ob (evLd true 4 g h) fun i =>
oh (newC 0 (some 1) [(.int .i64 0), (.int .i64 0), (.int .i64 0), (.str [])] h) fun b h4 =>
oh (evSt 4 b i h4) fun _ h5 =>
(ywa e j b c d a h5)
def y1hq (s : St) : OX := y2cq (s 1) (s 5) (s 27) (s 28) (s 29) s.h
theorem y22g : T1 y1tl ycj (y5 1 ycj (y5 0 y5y xN)) [.t 4] y1hq := sq y21n fun _ => by kernel_rfl
theorem y23q : T1 y1uo ycj (y5 0 y5y xN) [.t 4] y1hq := fun s => yy.trans (y22g s)
theorem y24y : T1 y1rz ydh (y5 0 y5y xN) [.t 4] y1hq := sq y1zi y23q
def yzl (c a e b d g : AV) (h : Heap) : OX :=
cnd g
 ((y2cq c a e b d h))
 ((y1o1 a h))
def y2ab (s : St) : OX := yzl (s 1) (s 5) (s 27) (s 28) (s 29) (s 30) s.h
theorem y1sr : T1 y13f ydh (y5 0 y5y xN) [.t 4] y2ab := sq y24y fun _ => by kernel_rfl
def yuh (c g d a b : AV) (h : Heap) : OX :=
ob (y8 .lss b a) fun e =>
(yzl c g d a b e h)
def y2fy (s : St) : OX := yuh (s 1) (s 5) (s 27) (s 28) (s 29) s.h
theorem y1k8 : T1 y11p ydh (y5 0 y5y xN) [.t 4] y2fy := sq y1sr fun _ => by kernel_rfl
theorem yrf (b e d a c : AV) (h : Heap) : yse b e d a c h = (yuh b e d a c h) :=
  y28.trans ((y1c _ _ _ (n' := ydh) (fun s => ysh s)).trans ((y1k8 _).trans (by kernel_rfl)))
theorem y1ng : T1 y01 y5y xN [.t 4] ydh := fun s => yy.trans (ysh s)
def y1t5 (c e g : AV) (h : Heap) : OX :=
ob (evFa 4 e) fun d =>
ob (evLd false 1 d h) fun a =>
ob (y13 1 a h) fun b =>
(yse c g a b (.int .i64 0) h)
def y1hn (s : St) : OX := y1t5 (s 1) (s 2) (s 5) s.h
theorem y1tn : T1 y11e y5y xN [.t 4] y1hn := sq y1ng fun _ => by kernel_rfl
theorem y1uk : T0 y13t [.t 4] y1hn := sq y1wz y1tn
def y1ui (b a : AV) (h : Heap) : OX :=
(y1t5 b a AV.nils h)
def y28k (s : St) : OX := y1ui (s 1) (s 2) s.h
theorem y1ta : T0 y18l [.t 4] y28k := sq y1uk fun _ => by kernel_rfl
def ym1 (c d : AV) (h : Heap) : OX :=
ob (y8 .lss c (.int .i64 0)) fun b =>
gb b false (some c) fun m =>
gb b false (evFa 3 d) fun u =>
gb b false (evLd false 1 u h) fun e =>
gb b false (y13 1 e h) fun n =>
gb b false (y8 .geq m n) fun g =>
ob (yd b (.bool true) g) fun a =>
gb a false (evFa 3 d) fun o =>
gb a false (evLd false 1 o h) fun k =>
gb a false (some c) fun l =>
gb a false (yx 9 k l) fun i =>
gb a false (evLd true 9 i h) fun r =>
gh a false (y9 E (yb E) 0 none true 18 [r] h) h fun p h6 =>
gb a false (evUn .not p) fun t =>
ob (yd a (.bool true) t) fun j =>
cnd j
 ((yf h6 AV.nils))
 ((y1ui c d h6))
def y2en (s : St) : OX := ym1 (s 1) (s 2) s.h
theorem y1gj : T0 y18e [.t 4] y2en := sq y1ta fun _ => by kernel_rfl
def yo3 (c b : AV) (h : Heap) : OX :=
oh (newC 0 (some 0) (cellsOf c) h) fun a h7 =>
(ym1 b a h7)
def y2dg (s : St) : OX := yo3 (s 0) (s 1) s.h
theorem y1o6 : T0 y18q [.t 4] y2dg := sq y1gj fun _ => by kernel_rfl
@[simp] theorem y2qm : E.pure 79 = true := rfl
theorem y2pu (b a : AV) : (yb E).p 79 [b, a] = yo3 b a [⟨0, .dead⟩, ⟨0, .dead⟩, ⟨0, .dead⟩, ⟨0, .dead⟩] :=
  (y15 (cf := y2mu) (by kernel_rfl) rfl).trans ((y1o6 _).trans (by kernel_rfl))
def ytc (a : AV) (h : Heap) : OX :=
(yf h a)
def y74 (s : St) : OX := ytc (s 5) s.h
theorem y1ya : T0 y1em [.t 4] y74 := fun _ => by kernel_rfl
def y20w (n t r b : AV) (h : Heap) : Option Heap :=
ob (evFa 1 b) fun d =>
ob (evLd false 1 d h) fun o =>
ob (evFa 2 n) fun g =>
ob (evLd false 1 g h) fun c =>
ob (y8 .eql o c) fun a =>
gb a true (evFa 2 b) fun i =>
gb a true (evLd false 1 i h) fun j =>
gb a true (y8 .eql j (.int .i64 (-1))) fun k =>
ob (yd a k (.bool false)) fun l =>
cnd l
 (ob (evFa 0 b) fun p =>
ob (evLd false 1 p h) fun m =>
ob (y10 [(.int .i64 0), (.int .i64 0), (.int .i64 0)] [(0, 1, m), (1, 1, r), (2, 1, (.int .i64 (-1)))]) fun e =>
oh (y6c true [0, 0, 0] t e (.bool true) h) fun _ h1 =>
(some (killAll 0 [4] h1)))
 ((some (killAll 0 [4] h)))
def y2gw (s : St) : Option Heap := y20w (s 3) (s 5) (s 8) (s 10) s.h
theorem y1zk (s : St) : W E 0 y1sh s (fun s3 => some (killAll 0 [4] s3.h)) xN (fun _ => none) = y2gw s :=
  by kernel_rfl
def y2cb (c e b g : AV) (h : Heap) : OX :=
orm c (fun q h2 =>
ob (y3z 0 (AV.tup [q.1, q.2])) fun d =>
oh (newC 0 (some 4) [(.int .i64 0), (.int .i64 0), (.int .i64 0)] h2) fun a h4 =>
oh (evSt 3 a d h4) fun _ h5 =>
(y20w e b g a h5)) h fun h3 =>
(ytc b h3)
def y2jy (s : St) : OX := y2cb (s 0) (s 3) (s 5) (s 8) s.h
theorem y207 : T1 y1e8 y74 (y5 2 y74 xN) [.t 4] y2jy := fun s => (yjj (nk := y74) (fun s2 => y1zk s2) (fun _ => rfl)).trans (by kernel_rfl)
def yq5 (a c b : AV) (h : Heap) : OX :=
cnd b
 (ob (y10 [(.int .i64 0), (.int .i64 0), (.int .i64 0)] [(0, 1, (.int .i64 8)), (1, 1, c), (2, 1, (.int .i64 (-1)))]) fun d =>
oh (y6c true [0, 0, 0] a d (.bool true) h) fun _ h6 =>
(ytc a h6))
 ((ytc a h))
def y2gu (s : St) : OX := yq5 (s 5) (s 8) (s 79) s.h
theorem y216 : T1 y1pi y74 (y5 2 y74 xN) [.t 4] y2gu := fun _ => by kernel_rfl
def y1y6 (c b a : AV) (h : Heap) : OX :=
ob (y8 .eql a (.int .i64 20)) fun d =>
cnd d
 ((yq5 c b d h))
 (ob (y8 .eql a (.int .i64 21)) fun e =>
cnd e
 ((yq5 c b e h))
 (ob (y8 .eql a (.int .i64 3)) fun g =>
cnd g
 ((yq5 c b g h))
 (ob (y8 .eql a (.int .i64 32)) fun i =>
(yq5 c b i h))))
def y2k1 (s : St) : OX := y1y6 (s 5) (s 8) (s 55) s.h
theorem y246 : T1 y1mk y74 (y5 2 y74 xN) [.t 4] y2k1 := sq y216 fun _ => by kernel_rfl
def y1xi (c e b a g d : AV) (h : Heap) : OX :=
cnd d
 ((y2cb c e b a h))
 ((y1y6 b a g h))
def y2i1 (s : St) : OX := y1xi (s 0) (s 3) (s 5) (s 8) (s 55) (s 56) s.h
theorem y1xl : T1 y1mp y74 (y5 2 y74 xN) [.t 4] y2i1 := fun s => (y1b (y207 s) (y246 s)).trans (by kernel_rfl)
def y1jl (b d g e a : AV) (h : Heap) : OX :=
ob (y8 .eql a (.int .i64 4)) fun c =>
(y1xi b d g e a c h)
def y27g (s : St) : OX := y1jl (s 0) (s 3) (s 5) (s 8) (s 55) s.h
theorem y221 : T1 y1eg y74 (y5 2 y74 xN) [.t 4] y27g := sq y1xl fun _ => by kernel_rfl
theorem y1z7 : T1 y1k6 y74 xN [.t 4] y27g := fun s => yy.trans (y221 s)
def y20t (b a g c : AV) (h : Heap) : OX :=
ob (evFa 0 a) fun e =>
ob (evLd false 1 e h) fun d =>
(y1jl b a g c d h)
def yy2 (s : St) : OX := y20t (s 0) (s 3) (s 5) (s 8) s.h
theorem y21x : T1 y1h3 y74 xN [.t 4] yy2 := sq y1z7 fun _ => by kernel_rfl
theorem y1dl : T0 yzd [.t 4] yy2 := sq y1ya y21x
def y14a (n c b : AV) (h : Heap) : Option Heap :=
ob (evFa 1 b) fun l =>
ob (evLd false 1 l h) fun d =>
ob (y8 .eql d c) fun a =>
gb a false (evFa 2 b) fun j =>
gb a false (evLd false 1 j h) fun m =>
gb a false (some c) fun k =>
gb a false (y8 .eql m k) fun g =>
ob (yd a (.bool true) g) fun i =>
cnd i
 (ob (evLd true 3 b h) fun e =>
oh (ycg true [0, 0, 0] n e h) fun _ h7 =>
(some (killAll 0 [3] h7)))
 ((some (killAll 0 [3] h)))
def y282 (s : St) : Option Heap := y14a (s 5) (s 8) (s 9) s.h
theorem y1lw (s : St) : W E 0 yzz s (fun s3 => some (killAll 0 [3] s3.h)) xN (fun _ => none) = y282 s :=
  by kernel_rfl
def y183 (a g d c : AV) (h : Heap) : OX :=
orm a (fun q h8 =>
ob (y3z 0 (AV.tup [q.1, q.2])) fun e =>
oh (newC 0 (some 3) [(.int .i64 0), (.int .i64 0), (.int .i64 0)] h8) fun b h10 =>
oh (evSt 3 b e h10) fun _ h11 =>
(y14a d c b h11)) h fun h9 =>
(y20t a g d c h9)
def y1kr (s : St) : OX := y183 (s 0) (s 3) (s 5) (s 8) s.h
theorem y1hu : T1 yyw yy2 xN [.t 4] y1kr := fun s => (yjj (nk := yy2) (fun s2 => y1lw s2) (fun _ => rfl)).trans (by kernel_rfl)
theorem y1oc : T0 yza [.t 4] y1kr := sq y1dl y1hu
def y1kz (g b d c : AV) (h : Heap) : OX :=
ob (evFa 0 b) fun m =>
ob (evLd false 1 m h) fun k =>
ob (y8 .eql k (.int .i64 4)) fun a =>
gb a true (evFa 2 b) fun n =>
gb a true (evLd false 1 n h) fun e =>
gb a true (some c) fun i =>
gb a true (y8 .eql e i) fun l =>
ob (yd a l (.bool false)) fun j =>
cnd j
 ((yf h d))
 ((y183 g b d c h))
def y292 (s : St) : OX := y1kz (s 0) (s 3) (s 5) (s 8) s.h
theorem y1hp : T0 y17q [.t 4] y292 := sq y1oc fun _ => by kernel_rfl
def y149 (c d b a : AV) (h : Heap) : OX :=
ob (y8 .lss a (.int .i64 0)) fun e =>
cnd e
 ((yf h b))
 ((y1kz c d b a h))
def y2e9 (s : St) : OX := y149 (s 0) (s 3) (s 5) (s 8) s.h
theorem y1sq : T0 y15j [.t 4] y2e9 := sq y1hp fun _ => by kernel_rfl
def ysx (c a e : AV) (h : Heap) : OX :=
ob (evLd true 9 a h) fun b =>
oh (y9 E (yb E) 0 none true 9 [b] h) fun d h12 =>
(y149 c a e d h12)
def y2a2 (s : St) : OX := ysx (s 0) (s 3) (s 5) s.h
theorem y1ud : T0 y12n [.t 4] y2a2 := sq y1sq fun _ => by kernel_rfl
def y1w0 (d a b : AV) (h : Heap) : OX :=
ob (evLd true 9 a h) fun k =>
oh (y9 E (yb E) 0 none true 169 [k] h) fun c h13 =>
ob (y3z 0 c) fun i =>
ob (y3z 1 c) fun g =>
oh (newC 0 (some 2) [(.int .i64 0), (.int .i64 0), (.int .i64 0)] h13) fun e h14 =>
oh (evSt 3 e i h14) fun _ h15 =>
cnd g
 (ob (evLd true 3 e h15) fun j =>
oh (y6c true [0, 0, 0] b j (.bool true) h15) fun _ h16 =>
(ysx d a b h16))
 ((ysx d a b h15))
def y2ce (s : St) : OX := y1w0 (s 0) (s 3) (s 5) s.h
theorem y1l5 : T0 yyx [.t 4] y2ce := sq y1ud fun _ => by kernel_rfl
def y1rk (a b : AV) (h : Heap) : OX :=
oh (y9 E (yb E) 0 (some 1) false 161 [a] h) fun c h17 =>
(y1w0 a b c h17)
def y288 (s : St) : OX := y1rk (s 0) (s 3) s.h
theorem y1hi : T0 y0a [.t 4] y288 := sq y1l5 fun _ => by kernel_rfl
def y1og (b a : AV) (h : Heap) : OX :=
oh (newC 0 (some 0) (cellsOf a) h) fun c h18 =>
(y1rk b c h18)
def y2bh (s : St) : OX := y1og (s 0) (s 1) s.h
theorem y1rh : T0 yyi [.t 4] y2bh := sq y1hi fun _ => by kernel_rfl
@[simp] theorem y2n2 : E.pure 168 = true := rfl
theorem y2p1 (b a : AV) : (yb E).p 168 [b, a] = y1og b a [⟨0, .dead⟩, ⟨0, .dead⟩, ⟨0, .dead⟩, ⟨0, .dead⟩, ⟨0, .dead⟩] :=
  (y15 (cf := y2ll) (by kernel_rfl) rfl).trans ((y1rh _).trans (by kernel_rfl))
def yl7 (a : AV) (h : Heap) : OX :=
(yf h a)
def y2ju (s : St) : OX := yl7 (s 6) s.h
theorem y22o : T0 y1dj [.t 4] y2ju := fun _ => by kernel_rfl
def ylc (c b : AV) (h : Heap) : OX :=
ob (evLd true 9 c h) fun k =>
oh (y9 E (yb E) 0 none true 22 [k] h) fun a h1 =>
gb a true (some b) fun i =>
gb a true (evFa 6 c) fun m =>
gb a true (evLd false 1 m h1) fun j =>
gh a true (y9 E (yb E) 0 none true 46 [i, j] h1) h1 fun l h2 =>
gb a true (evUn .not l) fun d =>
ob (yd a d (.bool false)) fun n =>
cnd n
 (ob (evFa 6 c) fun p =>
ob (evLd false 1 p h2) fun e =>
oh (y12 0 (some 4) 1 1 [(.int .i64 0)] [(0, e)] h2) fun g h3 =>
oh (y41 0 (some 5) 1 8 b g h3) fun o h4 =>
(yl7 o h4))
 ((yl7 b h2))
def y2jh (s : St) : OX := ylc (s 5) (s 6) s.h
theorem y21h : T0 y1o3 [.t 4] y2jh := sq y22o fun _ => by kernel_rfl
def ylb (d a b : AV) (h : Heap) : OX :=
ob (evLd true 9 a h) fun e =>
oh (y9 E (yb E) 0 none true 24 [e] h) fun i h5 =>
ob (evUn .not i) fun g =>
cnd g
 (ob (y8 .add d (.int .i64 1)) fun j =>
oh (y12 0 (some 2) 1 1 [(.int .i64 0)] [(0, j)] h5) fun k h6 =>
oh (y41 0 (some 3) 1 8 b k h6) fun c h7 =>
(ylc a c h7))
 ((ylc a b h5))
def y2kp (s : St) : OX := ylb (s 1) (s 5) (s 6) s.h
theorem y23x : T0 y1o2 [.t 4] y2kp := sq y21h fun _ => by kernel_rfl
def y1gu (a b : AV) (h : Heap) : OX :=
(ylb a b AV.nils h)
def y2km (s : St) : OX := y1gu (s 1) (s 5) s.h
theorem y1y1 : T0 y1ul [.t 4] y2km := sq y23x fun _ => by kernel_rfl
def y1m7 (a i : AV) (h : Heap) : OX :=
ob (evFa 3 i) fun d =>
ob (evLd false 1 d h) fun c =>
ob (yx 9 c a) fun g =>
ob (evLd true 9 g h) fun e =>
oh (newC 0 (some 1) [(.int .i64 0), (.int .i64 0), (.int .i64 0), (.int .i64 0), (.int .i64 0), (.int .i64 0), (.int .i64 0), (.str []), .nils] h) fun b h8 =>
oh (evSt 9 b e h8) fun _ h9 =>
(y1gu a b h9)
def y2jv (s : St) : OX := y1m7 (s 1) (s 2) s.h
theorem y215 : T0 y1pj [.t 4] y2jv := sq y1y1 fun _ => by kernel_rfl
def y1fr (b c : AV) (h : Heap) : OX :=
ob (y8 .lss b (.int .i64 0)) fun a =>
gb a false (some b) fun d =>
gb a false (evFa 3 c) fun i =>
gb a false (evLd false 1 i h) fun k =>
gb a false (y13 1 k h) fun e =>
gb a false (y8 .geq d e) fun j =>
ob (yd a (.bool true) j) fun g =>
cnd g
 ((yf h AV.nils))
 ((y1m7 b c h))
def y2i6 (s : St) : OX := y1fr (s 1) (s 2) s.h
theorem y24z : T0 y1wh [.t 4] y2i6 := sq y215 fun _ => by kernel_rfl
def y1bu (c b : AV) (h : Heap) : OX :=
oh (newC 0 (some 0) (cellsOf c) h) fun a h10 =>
(y1fr b a h10)
def y2h5 (s : St) : OX := y1bu (s 0) (s 1) s.h
theorem y23z : T0 y1um [.t 4] y2h5 := sq y24z fun _ => by kernel_rfl
@[simp] theorem y2r5 : E.pure 81 = true := rfl
theorem y2pm (b a : AV) : (yb E).p 81 [b, a] = y1bu b a [⟨0, .dead⟩, ⟨0, .dead⟩, ⟨0, .dead⟩, ⟨0, .dead⟩, ⟨0, .dead⟩, ⟨0, .dead⟩] :=
  (y15 (cf := y2jp) (by kernel_rfl) rfl).trans ((y23z _).trans (by kernel_rfl))
def y2c4 (a : AV) (h : Heap) : OX :=
ob (y10 [(.int .i64 0), (.int .i64 0), (.int .i64 0)] []) fun b =>
oh (evSt 3 a b h) fun _ h1 =>
(ob (evLd true 3 a h1) fun r0 =>
  yf h1 (.tup [r0, (.bool false)]))
def yjc (s : St) : OX := y2c4 (s 2) s.h
theorem y225 : T0 y1te [.cell 2 true 3, .t 3] yjc := fun _ => by kernel_rfl
def yvu (a b u r : AV) (h : Heap) : OX :=
cnd r
 (ob (evFa 0 a) fun c =>
ob (evLd false 1 c h) fun l =>
ob (evFa 2 a) fun t =>
ob (evLd false 1 t h) fun d =>
ob (y10 [(.int .i64 0), (.int .i64 0), (.int .i64 0)] [(0, 1, l), (1, 1, d), (2, 1, (.int .i64 (-1)))]) fun m =>
oh (evSt 3 b m h) fun _ h2 =>
(ob (evLd true 3 b h2) fun r0 =>
  yf h2 (.tup [r0, (.bool true)])))
 (ob (y8 .eql u (.int .i64 9)) fun i =>
cnd i
 (ob (evFa 0 a) fun g =>
ob (evLd false 1 g h) fun n =>
ob (evFa 2 a) fun k =>
ob (evLd false 1 k h) fun j =>
ob (evFa 3 a) fun e =>
ob (evLd false 1 e h) fun p =>
ob (y10 [(.int .i64 0), (.int .i64 0), (.int .i64 0)] [(0, 1, n), (1, 1, j), (2, 1, p)]) fun o =>
oh (evSt 3 b o h) fun _ h3 =>
(ob (evLd true 3 b h3) fun r0 =>
  yf h3 (.tup [r0, (.bool true)])))
 ((y2c4 b h)))
def y2j6 (s : St) : OX := yvu (s 1) (s 2) (s 5) (s 6) s.h
theorem y1x7 : T1 y1j9 yjc (y5 0 yjc xN) [.cell 2 true 3, .t 3] y2j6 := fun _ => by kernel_rfl
def y249 (b c a : AV) (h : Heap) : OX :=
ob (y8 .eql a (.int .i64 7)) fun d =>
cnd d
 ((yvu b c a d h))
 (ob (y8 .eql a (.int .i64 8)) fun e =>
cnd e
 ((yvu b c a e h))
 (ob (y8 .eql a (.int .i64 10)) fun g =>
(yvu b c a g h)))
def y27o (s : St) : OX := y249 (s 1) (s 2) (s 5) s.h
theorem y20q : T1 y1sp yjc (y5 0 yjc xN) [.cell 2 true 3, .t 3] y27o := sq y1x7 fun _ => by kernel_rfl
theorem y1xj : T1 y1sl yjc xN [.cell 2 true 3, .t 3] y27o := fun s => yy.trans (y20q s)
def y1xp (a b : AV) (h : Heap) : OX :=
ob (evFa 0 a) fun d =>
ob (evLd false 1 d h) fun c =>
(y249 a b c h)
def y26o (s : St) : OX := y1xp (s 1) (s 2) s.h
theorem y1zy : T1 y1fk yjc xN [.cell 2 true 3, .t 3] y26o := sq y1xj fun _ => by kernel_rfl
theorem y1z3 : T0 y1of [.cell 2 true 3, .t 3] y26o := sq y225 y1zy
def y22y (c : AV) (h : Heap) : OX :=
oh (newC 0 (some 0) (cellsOf c) h) fun b h4 =>
oh (newC 0 (some 1) [(.int .i64 0), (.int .i64 0), (.int .i64 0)] h4) fun a h5 =>
(y1xp b a h5)
def y2ho (s : St) : OX := y22y (s 0) s.h
theorem y1yl : T0 y1jx [.cell 2 true 3, .t 3] y2ho := sq y1z3 fun _ => by kernel_rfl
@[simp] theorem y2n3 : E.pure 169 = true := rfl
theorem y2qs (a : AV) : (yb E).p 169 [a] = y22y a [⟨0, .dead⟩, ⟨0, .dead⟩] :=
  (y15 (cf := y2l2) (by kernel_rfl) rfl).trans ((y1yl _).trans (by kernel_rfl))
def y1ol (b : AV) (h : Heap) : OX :=
oh (y12 0 (some 0) 1 3 [(.int .i64 0)] [(0, (.int .i64 27)), (1, (.int .i64 30)), (2, (.int .i64 31))] h) fun a h1 =>
oh (y9 E (yb E) 0 none true 42 [b, a] h1) fun c h2 =>
(yf h2 c)
def y2ed (s : St) : OX := y1ol (s 0) s.h
theorem y1n0 : T0 y14b [.t 2] y2ed := fun _ => by kernel_rfl
@[simp] theorem y2qp : E.pure 25 = true := rfl
theorem y2m5 (a : AV) : (yb E).p 25 [a] = y1ol a [⟨0, .dead⟩] :=
  (y15 (cf := y27q) (by kernel_rfl) rfl).trans ((y1n0 _).trans (by kernel_rfl))
def ytz (a e : AV) (h : Heap) : OX :=
ob (evFa 0 e) fun g =>
ob (evLd false 1 g h) fun b =>
ob (yx 1 b a) fun c =>
ob (evLd false 1 c h) fun d =>
(yf h d)
def y2ax (s : St) : OX := ytz (s 1) (s 2) s.h
theorem y1vr : T0 yzb [.t 4] y2ax := fun _ => by kernel_rfl
def ysp (b c : AV) (h : Heap) : OX :=
ob (y8 .lss b (.int .i64 0)) fun a =>
gb a false (some b) fun k =>
gb a false (evFa 0 c) fun g =>
gb a false (evLd false 1 g h) fun d =>
gb a false (y13 1 d h) fun i =>
gb a false (y8 .geq k i) fun j =>
ob (yd a (.bool true) j) fun e =>
cnd e
 ((yf h (.int .i64 0)))
 ((ytz b c h))
def y29z (s : St) : OX := ysp (s 1) (s 2) s.h
theorem y1qa : T0 y11x [.t 4] y29z := sq y1vr fun _ => by kernel_rfl
def yrc (c b : AV) (h : Heap) : OX :=
oh (newC 0 (some 0) (cellsOf c) h) fun a h1 =>
(ysp b a h1)
def y29w (s : St) : OX := yrc (s 0) (s 1) s.h
theorem y1ri : T0 y14j [.t 4] y29w := sq y1qa fun _ => by kernel_rfl
@[simp] theorem y2ow : E.pure 48 = true := rfl
theorem y2jg (b a : AV) : (yb E).p 48 [b, a] = yrc b a [⟨0, .dead⟩] :=
  (y15 (cf := y27h) (by kernel_rfl) rfl).trans ((y1ri _).trans (by kernel_rfl))
def ylz (h : Heap) : OX :=
(yf h (.bool false))
def y7h (s : St) : OX := ylz s.h
theorem y1eu : T0 yyv [.t 4] y7h := fun _ => by kernel_rfl
def yke (b a c : AV) (h : Heap) : OX :=
  W E 0 yiq ⟨[(0, b), (1, a), (5, c)], h⟩ y7h (y5 0 y7h xN) (finP [.t 4])
def ybo (s : St) : OX := yke (s 0) (s 1) (s 5) s.h
theorem ylk : T1 yiq y7h (y5 0 y7h xN) [.t 4] ybo := fun s => yj.trans (by kernel_rfl)
def ymy (c b d : AV) (h : Heap) : OX :=
ob (y8 .add d (.int .i64 1)) fun a =>
(yke c b a h)
def y2cr (s : St) : OX := ymy (s 0) (s 1) (s 5) s.h
theorem y1vn : T1 y15p ybo (y5 0 y7h xN) [.t 4] y2cr := fun _ => by kernel_rfl
def ylp (b a c : AV) (h : Heap) : OX :=
ob (yx 1 a c) fun g =>
ob (evLd false 1 g h) fun d =>
ob (y8 .eql d b) fun e =>
cnd e
 ((yf h (.bool true)))
 ((ymy b a c h))
def y2bq (s : St) : OX := ylp (s 0) (s 1) (s 5) s.h
theorem y1nw : T1 y123 ybo (y5 0 y7h xN) [.t 4] y2bq := sq y1vn fun _ => by kernel_rfl
def ylx (c a b : AV) (h : Heap) : OX :=
ob (y13 1 a h) fun e =>
ob (y8 .lss b e) fun d =>
cnd d
 ((ylp c a b h))
 ((ylz h))
def y29b (s : St) : OX := ylx (s 0) (s 1) (s 5) s.h
theorem y1r6 : T1 y139 ybo (y5 0 y7h xN) [.t 4] y29b := sq y1nw fun _ => by kernel_rfl
theorem yo4 (b a c : AV) (h : Heap) : yke b a c h = (ylx b a c h) :=
  y28.trans ((y1c _ _ _ (n' := ybo) (fun s => ylk s)).trans ((y1r6 _).trans (by kernel_rfl)))
theorem y1j1 : T1 y154 y7h xN [.t 4] ybo := fun s => yy.trans (ylk s)
def ymz (b a : AV) (h : Heap) : OX :=
(yke b a (.int .i64 0) h)
def y1qy (s : St) : OX := ymz (s 0) (s 1) s.h
theorem y1vh : T1 y15t y7h xN [.t 4] y1qy := sq y1j1 fun _ => by kernel_rfl
theorem y1pq : T0 y14m [.t 4] y1qy := sq y1eu y1vh
def ynp (b a : AV) (h : Heap) : OX :=
(ymz b a h)
def y2cd (s : St) : OX := ynp (s 0) (s 1) s.h
theorem y1jy : T0 y15n [.t 4] y2cd := sq y1pq fun _ => by kernel_rfl
@[simp] theorem y2py : E.pure 42 = true := rfl
theorem y2i8 (b a : AV) : (yb E).p 42 [b, a] = ynp b a [] :=
  (y15 (cf := y26x) (by kernel_rfl) rfl).trans ((y1jy _).trans (by kernel_rfl))
end
end Go.Vm
