/- Functions of the machine as plain functions that go on with what follows. -/
import Derived.Test.YtgbajicpokolcaaHEnv
set_option linter.unusedSimpArgs false
set_option linter.unusedVariables false
set_option linter.unusedSectionVars false
namespace Go.Vm
noncomputable section
def y2jq (b : AV) (h : Heap) : OX :=
ob (evLd true 5 b h) fun d =>
ofp (y2m E (y8 E) 0 none true 171 [d] h) fun f1 =>
oh (y7 E (y8 E) 0 none true 171 [d] h) fun k h1 =>
ob (evUn .not k) fun a =>
ofp (fgd a false (some (ids1 b, []))) fun f4 =>
gb a false (evLd true 5 b h1) fun e =>
ofp (fgd a false (some (ids1 b, []))) fun f5 =>
gb a false (evLd true 5 b h1) fun g =>
ofp (fgd a false (y2m E (y8 E) 0 none true 166 [g] h1)) fun f6 =>
gh a false (y7 E (y8 E) 0 none true 166 [g] h1) h1 fun c h2 =>
ofp (fgd a false (y2m E (y8 E) 0 none true 172 [e, c] h2)) fun f7 =>
gh a false (y7 E (y8 E) 0 none true 172 [e, c] h2) h2 fun j h3 =>
ob (yb a (.bool true) j) fun i =>
okK (ye [(ids1 b, []), f1, ([], []), ([], []), f4, f5, f6, f7, ([], []), ([], [])] [(4, 6)]) <|
(yd h3 i)
def y2q8 (s : St) : OX := y2jq (s 1) s.h
theorem y22u : T0 y1k3 [.t 2] y2q8 := fun _ => by kernel_rfl
def y2io (c : AV) (h : Heap) : OX :=
oh (y7 E (y8 E) 0 none true 165 [] h) fun b h4 =>
ob (evUn .not b) fun a =>
cnd a
 ((yd h4 (.bool false)))
 ((y2jq c h4))
def y2om (s : St) : OX := y2io (s 1) s.h
theorem y287 : T0 y1z7 [.t 2] y2om := sq y22u fun _ => by kernel_rfl
def y2gy (a : AV) (h : Heap) : OX :=
oh (newC 0 (some 0) (cellsOf a) h) fun b h5 =>
(y2io b h5)
def y2mm (s : St) : OX := y2gy (s 0) s.h
theorem y21i : T0 y1y2 [.t 2] y2mm := sq y287 fun _ => by kernel_rfl
@[simp] theorem y2qm : E.pure 163 = true := rfl
theorem y2v1 (a : AV) : (y8 E).p 163 [a] = y2gy a [⟨0, .dead⟩] :=
  (yr (cf := y2pa) (by kernel_rfl) rfl).trans ((y21i _).trans (by kernel_rfl))
def y1un (a c : AV) (h : Heap) : OX :=
ob (evLd true 5 c h) fun b =>
oh (evSt 5 a b h) fun _ h1 =>
(ob (evLd true 5 a h1) fun r0 =>
  yd h1 r0)
def yax (s : St) : OX := y1un (s 2) (s 3) s.h
theorem y22g : T0 y1x8 [.cell 2 true 5] yax := fun _ => by kernel_rfl
def yte (c d a b : AV) (h : Heap) : OX :=
  W E 0 yqn ⟨[(2, c), (3, d), (22, a), (23, b)], h⟩ yax (y4 0 yax xN) (finP [.cell 2 true 5])
def yd0 (s : St) : OX := yte (s 2) (s 3) (s 22) (s 23) s.h
theorem ysj : T1 yqn yax (y4 0 yax xN) [.cell 2 true 5] yd0 := fun s => yf.trans (by kernel_rfl)
def y2fm (c d b e : AV) (h : Heap) : OX :=
ob (y6 .add e (.int .i64 1)) fun a =>
(yte c d b a h)
def y2p7 (s : St) : OX := y2fm (s 2) (s 3) (s 22) (s 23) s.h
theorem y21u : T1 y1p3 yd0 (y4 0 yax xN) [.cell 2 true 5] y2p7 := fun _ => by kernel_rfl
def y2fw (l a k b : AV) (h : Heap) : OX :=
ob (evFa 3 a) fun g =>
ob (evLd false 1 g h) fun m =>
ob (evFa 3 a) fun d =>
ob (evLd false 1 d h) fun j =>
ob (yn 9 j b) fun p =>
ob (evFa 8 p) fun i =>
ob (evLd false 1 i h) fun e =>
ofp (y2m E (y8 E) 0 none true 39 [e] h) fun f9 =>
oh (y7 E (y8 E) 0 none true 39 [e] h) fun n h2 =>
ob (yn 9 m b) fun o =>
ob (evFa 8 o) fun c =>
oh (evSt 1 c n h2) fun _ h3 =>
okK (ye [([], []), (ids1 g, []), ([], []), ([], []), (ids1 d, []), ([], []), ([], []), ([], []), (ids1 i, []), f9, ([], []), ([], []), ([], ids1 c)] [(1, 9)]) <|
(y2fm l a k b h3)
def y2kv (s : St) : OX := y2fw (s 2) (s 3) (s 22) (s 23) s.h
theorem y27w : T1 y1ki yd0 (y4 0 yax xN) [.cell 2 true 5] y2kv := sq y21u fun _ => by kernel_rfl
def y23y (a b c e d : AV) (h : Heap) : OX :=
cnd d
 ((y2fw a b c e h))
 ((y1un a b h))
def y2pq (s : St) : OX := y23y (s 2) (s 3) (s 22) (s 23) (s 24) s.h
theorem y23s : T1 y1im yd0 (y4 0 yax xN) [.cell 2 true 5] y2pq := sq y27w fun _ => by kernel_rfl
def y20z (c d a b : AV) (h : Heap) : OX :=
ob (y6 .lss b a) fun e =>
(y23y c d a b e h)
def y2pw (s : St) : OX := y20z (s 2) (s 3) (s 22) (s 23) s.h
theorem y289 : T1 y1qu yd0 (y4 0 yax xN) [.cell 2 true 5] y2pw := sq y23s fun _ => by kernel_rfl
theorem yvc (c d a b : AV) (h : Heap) : yte c d a b h = (y20z c d a b h) :=
  y1o.trans ((y14 _ _ _ (n' := yd0) (fun s => ysj s)).trans ((y289 _).trans (by kernel_rfl)))
theorem y25c : T1 y1kb yax xN [.cell 2 true 5] yd0 := fun s => yq.trans (ysj s)
def y1wk (c a : AV) (h : Heap) : OX :=
ob (evFa 3 a) fun e =>
ob (evLd false 1 e h) fun d =>
ob (yv 1 d h) fun b =>
(yte c a b (.int .i64 0) h)
def y2am (s : St) : OX := y1wk (s 2) (s 3) s.h
theorem y290 : T1 y1of yax xN [.cell 2 true 5] y2am := sq y25c fun _ => by kernel_rfl
theorem y255 : T0 y1pt [.cell 2 true 5] y2am := sq y22g y290
def ytz (a o : AV) (h : Heap) : OX :=
ob (evFa 0 a) fun i =>
ob (evLd false 1 i h) fun m =>
ofp (y2m E (y8 E) 0 (some 2) false 39 [m] h) fun f2 =>
oh (y7 E (y8 E) 0 (some 2) false 39 [m] h) fun r h4 =>
ob (evFa 1 a) fun e =>
ob (evLd false 1 e h4) fun j =>
ofp (y2m E (y8 E) 0 (some 3) false 39 [j] h4) fun f5 =>
oh (y7 E (y8 E) 0 (some 3) false 39 [j] h4) fun v h5 =>
ob (evFa 2 a) fun d =>
ob (evLd false 1 d h5) fun p =>
ob (evFa 3 a) fun k =>
ob (evLd false 1 k h5) fun l =>
ofp (y2m E (y8 E) 0 (some 4) false 40 [l] h5) fun f10 =>
oh (y7 E (y8 E) 0 (some 4) false 40 [l] h5) fun t h6 =>
ob (evFa 4 a) fun g =>
ob (evLd false 1 g h6) fun c =>
ofp (y2m E (y8 E) 0 (some 5) false 41 [c] h6) fun f13 =>
oh (y7 E (y8 E) 0 (some 5) false 41 [c] h6) fun n h7 =>
ob (yx [.nils, .nils, (.int .i64 0), .nils, .nils] [(0, 1, r), (1, 1, v), (2, 1, p), (3, 1, t), (4, 1, n)]) fun u =>
oh (newC 0 (some 6) [.nils, .nils, (.int .i64 0), .nils, .nils] h7) fun b h8 =>
oh (evSt 5 b u h8) fun _ h9 =>
okK (ye [([], []), (ids1 i, []), f2, ([], []), (ids1 e, []), f5, ([], []), (ids1 d, []), ([], []), (ids1 k, []), f10, ([], []), (ids1 g, []), f13, ([], []), ([], [0 + 6]), ([], ids1 b)] [(2, 4), (2, 7), (5, 7), (2, 9), (5, 9), (7, 10), (2, 12), (5, 12), (10, 12), (7, 13), (1, 15), (2, 15), (4, 15), (5, 15), (7, 15), (9, 15), (10, 15), (12, 15), (13, 15)]) <|
(y1wk o b h9)
def y2bv (s : St) : OX := ytz (s 1) (s 2) s.h
theorem y1mi : T0 y148 [.cell 2 true 5] y2bv := sq y255 fun _ => by kernel_rfl
def y14p (a : AV) (h : Heap) : OX :=
oh (newC 0 (some 0) (cellsOf a) h) fun c h10 =>
oh (newC 0 (some 1) [.nils, .nils, (.int .i64 0), .nils, .nils] h10) fun b h11 =>
(ytz c b h11)
def y2fx (s : St) : OX := y14p (s 0) s.h
theorem y1ko : T0 y14a [.cell 2 true 5] y2fx := sq y1mi fun _ => by kernel_rfl
@[simp] theorem y2u7 : E.pure 13 = true := rfl
theorem y2s5 (a : AV) : (y8 E).p 13 [a] = y14p a [⟨0, .dead⟩, ⟨0, .dead⟩, ⟨0, .dead⟩, ⟨0, .dead⟩, ⟨0, .dead⟩, ⟨0, .dead⟩, ⟨0, .dead⟩] :=
  (yr (cf := y2lh) (by kernel_rfl) rfl).trans ((y1ko _).trans (by kernel_rfl))
def y1i2 (h : Heap) : OX :=
(yd h (.bool true))
def y77 (s : St) : OX := y1i2 s.h
theorem y1qx : T0 y1bk [.t 4] y77 := fun _ => by kernel_rfl
def yln (b c a : AV) (h : Heap) : OX :=
  W E 0 yhx ⟨[(2, b), (3, c), (6, a)], h⟩ y77 (y4 2 y77 xN) (finP [.t 4])
def ybk (s : St) : OX := yln (s 2) (s 3) (s 6) s.h
theorem yn9 : T1 yhx y77 (y4 2 y77 xN) [.t 4] ybk := fun s => yf.trans (by kernel_rfl)
def y141 (c d a : AV) (h : Heap) : OX :=
ob (y6 .add a (.int .i64 1)) fun b =>
(yln c d b h)
def y2h2 (s : St) : OX := y141 (s 2) (s 3) (s 6) s.h
theorem y1rp : T1 y19x ybk (y4 2 y77 xN) [.t 4] y2h2 := fun _ => by kernel_rfl
def y152 (b c a : AV) (h : Heap) : OX :=
ob (evFa 4 b) fun m =>
ob (evLd false 1 m h) fun g =>
ob (yn 4 g a) fun i =>
ob (evLd true 4 i h) fun d =>
ob (evFa 4 c) fun e =>
ob (evLd false 1 e h) fun n =>
ob (yn 4 n a) fun l =>
ob (evLd true 4 l h) fun j =>
ob (y1lc true [0, 0, 0, 2] d j) fun k =>
cnd k
 ((yd h (.bool false)))
 ((y141 b c a h))
def y2j0 (s : St) : OX := y152 (s 2) (s 3) (s 6) s.h
theorem y1i8 : T1 y199 ybk (y4 2 y77 xN) [.t 4] y2j0 := sq y1rp fun _ => by kernel_rfl
def ys8 (a g b : AV) (h : Heap) : OX :=
ob (evFa 4 a) fun d =>
ob (evLd false 1 d h) fun c =>
ob (yv 1 c h) fun e =>
ob (y6 .lss b e) fun i =>
cnd i
 ((y152 a g b h))
 ((y1i2 h))
def y2hg (s : St) : OX := ys8 (s 2) (s 3) (s 6) s.h
theorem y1jo : T1 y11a ybk (y4 2 y77 xN) [.t 4] y2hg := sq y1i8 fun _ => by kernel_rfl
theorem yn0 (b c a : AV) (h : Heap) : yln b c a h = (ys8 b c a h) :=
  y1o.trans ((y14 _ _ _ (n' := ybk) (fun s => yn9 s)).trans ((y1jo _).trans (by kernel_rfl)))
theorem y1pl : T1 y175 y77 xN [.t 4] ybk := fun s => yq.trans (yn9 s)
def y1vo (a b : AV) (h : Heap) : OX :=
(yln a b (.int .i64 0) h)
def y62 (s : St) : OX := y1vo (s 2) (s 3) s.h
theorem y1ri : T1 y16x y77 xN [.t 4] y62 := sq y1pl fun _ => by kernel_rfl
theorem y1w1 : T0 y17d [.t 4] y62 := sq y1qx y1ri
def yi9 (b c a : AV) (h : Heap) : OX :=
  W E 0 ykh ⟨[(2, b), (3, c), (5, a)], h⟩ y62 (y4 0 y62 xN) (finP [.t 4])
def ybx (s : St) : OX := yi9 (s 2) (s 3) (s 5) s.h
theorem ymi : T1 ykh y62 (y4 0 y62 xN) [.t 4] ybx := fun s => yf.trans (by kernel_rfl)
def y0e (b c a : AV) (h : Heap) : OX :=
ob (y6 .add a (.int .i64 1)) fun d =>
(yi9 b c d h)
def y21b (s : St) : OX := y0e (s 2) (s 3) (s 5) s.h
theorem y1fk : T1 ywf ybx (y4 0 y62 xN) [.t 4] y21b := fun _ => by kernel_rfl
def yqs (b c a : AV) (h : Heap) : OX :=
ob (evFa 3 b) fun i =>
ob (evLd false 1 i h) fun e =>
ob (yn 9 e a) fun g =>
ob (evLd true 9 g h) fun j =>
ob (evFa 3 c) fun o =>
ob (evLd false 1 o h) fun l =>
ob (yn 9 l a) fun n =>
ob (evLd true 9 n h) fun m =>
oh (y7 E (y8 E) 0 none true 28 [j, m] h) fun k h1 =>
ob (evUn .not k) fun d =>
cnd d
 ((yd h1 (.bool false)))
 ((y0e b c a h1))
def y216 (s : St) : OX := yqs (s 2) (s 3) (s 5) s.h
theorem y1cp : T1 ywj ybx (y4 0 y62 xN) [.t 4] y216 := sq y1fk fun _ => by kernel_rfl
def yjp (a c b : AV) (h : Heap) : OX :=
ob (evFa 3 a) fun e =>
ob (evLd false 1 e h) fun g =>
ob (yv 1 g h) fun i =>
ob (y6 .lss b i) fun d =>
cnd d
 ((yqs a c b h))
 ((y1vo a c h))
def y23h (s : St) : OX := yjp (s 2) (s 3) (s 5) s.h
theorem y1he : T1 ys2 ybx (y4 0 y62 xN) [.t 4] y23h := sq y1cp fun _ => by kernel_rfl
theorem yn4 (b c a : AV) (h : Heap) : yi9 b c a h = (yjp b c a h) :=
  y1o.trans ((y14 _ _ _ (n' := ybx) (fun s => ymi s)).trans ((y1he _).trans (by kernel_rfl)))
theorem y1do : T1 yuv y62 xN [.t 4] ybx := fun s => yq.trans (ymi s)
def yya (a b : AV) (h : Heap) : OX :=
(yi9 a b (.int .i64 0) h)
def y16l (s : St) : OX := yya (s 2) (s 3) s.h
theorem y1ej : T1 yt7 y62 xN [.t 4] y16l := sq y1do fun _ => by kernel_rfl
theorem y1de : T0 yxe [.t 4] y16l := sq y1w1 y1ej
def yac (d e : AV) (h : Heap) : OX :=
ob (evFa 0 d) fun m =>
ob (evLd false 1 m h) fun j =>
ob (evFa 0 e) fun p =>
ob (evLd false 1 p h) fun z =>
oh (y7 E (y8 E) 0 none true 11 [j, z] h) fun K h2 =>
ob (evUn .not K) fun c =>
gb c false (evFa 1 d) fun v =>
gb c false (evLd false 1 v h2) fun H =>
gb c false (evFa 1 e) fun B =>
gb c false (evLd false 1 B h2) fun x =>
gh c false (y7 E (y8 E) 0 none true 11 [H, x] h2) h2 fun A h3 =>
gb c false (evUn .not A) fun n =>
ob (yb c (.bool true) n) fun g =>
gb g false (evFa 2 d) fun D =>
gb g false (evLd false 1 D h3) fun P =>
gb g false (evFa 2 e) fun F =>
gb g false (evLd false 1 F h3) fun r =>
gb g false (y6 .neq P r) fun o =>
ob (yb g (.bool true) o) fun b =>
gb b false (evFa 3 d) fun t =>
gb b false (evLd false 1 t h3) fun y =>
gb b false (yv 1 y h3) fun I =>
gb b false (evFa 3 e) fun G =>
gb b false (evLd false 1 G h3) fun J =>
gb b false (yv 1 J h3) fun u =>
gb b false (y6 .neq I u) fun N =>
ob (yb b (.bool true) N) fun a =>
gb a false (evFa 4 d) fun C =>
gb a false (evLd false 1 C h3) fun k =>
gb a false (yv 1 k h3) fun l =>
gb a false (evFa 4 e) fun O =>
gb a false (evLd false 1 O h3) fun L =>
gb a false (yv 1 L h3) fun M =>
gb a false (y6 .neq l M) fun w =>
ob (yb a (.bool true) w) fun i =>
cnd i
 ((yd h3 (.bool false)))
 ((yya d e h3))
def y27i (s : St) : OX := yac (s 2) (s 3) s.h
theorem y1gm : T0 yts [.t 4] y27i := sq y1de fun _ => by kernel_rfl
def yag (a d : AV) (h : Heap) : OX :=
oh (newC 0 (some 0) (cellsOf a) h) fun b h4 =>
oh (newC 0 (some 1) (cellsOf d) h4) fun c h5 =>
(yac b c h5)
def y258 (s : St) : OX := yag (s 0) (s 1) s.h
theorem y1hn : T0 ysy [.t 4] y258 := sq y1gm fun _ => by kernel_rfl
@[simp] theorem y2s8 : E.pure 14 = true := rfl
theorem y2ol (a b : AV) : (y8 E).p 14 [a, b] = yag a b [⟨0, .dead⟩, ⟨0, .dead⟩] :=
  (yr (cf := y2au) (by kernel_rfl) rfl).trans ((y1hn _).trans (by kernel_rfl))
def y2em (h : Heap) : OX :=
(yd h (.int .i64 0))
def yaj (s : St) : OX := y2em s.h
theorem y227 : T0 y1kf [.t 2] yaj := fun _ => by kernel_rfl
def yn5 (d c b a e : AV) (h : Heap) : OX :=
  W E 0 yqy ⟨[(1, d), (3, c), (136, b), (137, a), (138, e)], h⟩ yaj (y4 6 yaj xN) (finP [.t 2])
def ydf (s : St) : OX := yn5 (s 1) (s 3) (s 136) (s 137) (s 138) s.h
theorem yvd : T1 yqy yaj (y4 6 yaj xN) [.t 2] ydf := fun s => yf.trans (by kernel_rfl)
def y2ck (d c b a g : AV) (h : Heap) : OX :=
ob (y6 .add g (.int .i64 1)) fun e =>
(yn5 d c b a e h)
def y2nb (s : St) : OX := y2ck (s 1) (s 3) (s 136) (s 137) (s 138) s.h
theorem y211 : T1 y1st ydf (y4 6 yaj xN) [.t 2] y2nb := fun _ => by kernel_rfl
def yqu (k i j P l : AV) (h : Heap) : OX :=
ob (yn 4 j l) fun F =>
ob (evLd true 4 F h) fun v =>
oh (newC 0 (some 2) [(.int .i64 0), (.int .i64 0), (.int .i64 0), (.str [])] h) fun b h1 =>
oh (evSt 4 b v h1) fun _ h2 =>
ob (evFa 0 b) fun n =>
ob (evLd false 1 n h2) fun G =>
ob (y6 .lss G (.int .i64 0)) fun c =>
gb c false (evFa 0 b) fun w =>
gb c false (evLd false 1 w h2) fun z =>
gb c false (evFa 1 b) fun m =>
gb c false (evLd false 1 m h2) fun x =>
gb c false (y6 .geq z x) fun K =>
ob (yb c (.bool true) K) fun e =>
gb e false (evFa 1 b) fun R =>
gb e false (evLd false 1 R h2) fun A =>
gb e false (some i) fun J =>
gb e false (y6 .gtr A J) fun C =>
ob (yb e (.bool true) C) fun g =>
gb g false (evFa 2 b) fun M =>
gb g false (evLd false 1 M h2) fun O =>
gb g false (y6 .lss O (.int .i64 0)) fun S =>
ob (yb g (.bool true) S) fun d =>
gb d false (evFa 2 b) fun N =>
gb d false (evLd false 1 N h2) fun y =>
gb d false (some i) fun D =>
gb d false (y6 .geq y D) fun u =>
ob (yb d (.bool true) u) fun a =>
gb a false (evFa 3 k) fun B =>
gb a false (evLd false 1 B h2) fun Q =>
gb a false (evFa 2 b) fun L =>
gb a false (evLd false 1 L h2) fun p =>
gb a false (yn 9 Q p) fun H =>
gb a false (evFa 0 H) fun o =>
gb a false (evLd false 1 o h2) fun r =>
gb a false (y6 .neq r (.int .i64 32)) fun t =>
ob (yb a (.bool true) t) fun I =>
cnd I
 ((yd h2 (.int .i64 80)))
 ((y2ck k i j P l h2))
def y2nt (s : St) : OX := yqu (s 1) (s 3) (s 136) (s 137) (s 138) s.h
theorem y22e : T1 y1yf ydf (y4 6 yaj xN) [.t 2] y2nt := sq y211 fun _ => by kernel_rfl
def y24s (e d c a g b : AV) (h : Heap) : OX :=
cnd b
 ((yqu e d c a g h))
 ((y2em h))
def y2qa (s : St) : OX := y24s (s 1) (s 3) (s 136) (s 137) (s 138) (s 139) s.h
theorem y26w : T1 y1ns ydf (y4 6 yaj xN) [.t 2] y2qa := sq y22e fun _ => by kernel_rfl
def y20j (g e d a b : AV) (h : Heap) : OX :=
ob (y6 .lss b a) fun c =>
(y24s g e d a b c h)
def y2m2 (s : St) : OX := y20j (s 1) (s 3) (s 136) (s 137) (s 138) s.h
theorem y247 : T1 y1m5 ydf (y4 6 yaj xN) [.t 2] y2m2 := sq y26w fun _ => by kernel_rfl
theorem ysh (d c b a e : AV) (h : Heap) : yn5 d c b a e h = (y20j d c b a e h) :=
  y1o.trans ((y14 _ _ _ (n' := ydf) (fun s => yvd s)).trans ((y247 _).trans (by kernel_rfl)))
theorem y22i : T1 y1rs yaj xN [.t 2] ydf := fun s => yq.trans (yvd s)
def y1t9 (b e : AV) (h : Heap) : OX :=
ob (evFa 4 b) fun d =>
ob (evLd false 1 d h) fun a =>
ob (yv 1 a h) fun c =>
(yn5 b e a c (.int .i64 0) h)
def y5w (s : St) : OX := y1t9 (s 1) (s 3) s.h
theorem y26y : T1 y1jp yaj xN [.t 2] y5w := sq y22i fun _ => by kernel_rfl
theorem y28k : T0 y1wi [.t 2] y5w := sq y227 y26y
def yfq (d c b a e : AV) (h : Heap) : OX :=
  W E 0 yi3 ⟨[(1, d), (3, c), (92, b), (93, a), (94, e)], h⟩ y5w (y4 4 y5w xN) (finP [.t 2])
def y8l (s : St) : OX := yfq (s 1) (s 3) (s 92) (s 93) (s 94) s.h
theorem yo3 : T1 yi3 y5w (y4 4 y5w xN) [.t 2] y8l := fun s => yf.trans (by kernel_rfl)
def y19y (e d c a g : AV) (h : Heap) : OX :=
ob (y6 .add g (.int .i64 1)) fun b =>
(yfq e d c a b h)
def yb0 (s : St) : OX := y19y (s 1) (s 3) (s 92) (s 93) (s 94) s.h
theorem y1sq : T1 y14b y8l (y4 4 y5w xN) [.t 2] yb0 := fun _ => by kernel_rfl
def ycq (g A i e w L K : AV) (h : Heap) : OX :=
ob (evFa 0 e) fun H =>
ob (evLd false 1 H h) fun N =>
ob (y6 .eql N (.int .i64 32)) fun d =>
gb d true (some i) fun M =>
gb d true (y6 .eql M (.int .i64 0)) fun j =>
gb d true (some j) fun a =>
gb a false (evFa 3 g) fun y =>
gb a false (evLd false 1 y h) fun r =>
gb a false (some i) fun t =>
gb a false (y6 .sub t (.int .i64 1)) fun B =>
gb a false (yn 9 r B) fun m =>
gb a false (evLd true 9 m h) fun G =>
gh a false (y7 E (y8 E) 0 none true 24 [G] h) h fun k h3 =>
gb a false (evUn .not k) fun v =>
gb d true (yb a (.bool true) v) fun n =>
ob (yb d n (.bool false)) fun c =>
gb c false (evLd true 9 e h3) fun z =>
gh c false (y7 E (y8 E) 0 none true 22 [z] h3) h3 fun o h4 =>
gb c false (some o) fun b =>
gb b true (evFa 3 g) fun l =>
gb b true (evLd false 1 l h4) fun u =>
gb b true (evFa 6 e) fun F =>
gb b true (evLd false 1 F h4) fun I =>
gb b true (yn 9 u I) fun p =>
gb b true (evFa 0 p) fun J =>
gb b true (evLd false 1 J h4) fun x =>
gb b true (y6 .eql x (.int .i64 32)) fun O =>
gb c false (yb b O (.bool false)) fun C =>
ob (yb c (.bool true) C) fun D =>
cnd D
 ((yd h4 (.int .i64 80)))
 ((y19y g A w L K h4))
def y2jz (s : St) : OX := ycq (s 1) (s 3) (s 8) (s 9) (s 92) (s 93) (s 94) s.h
theorem y1x1 : T1 y12z yb0 (y4 5 yb0 (y4 4 y5w xN)) [.t 2] y2jz := fun _ => by kernel_rfl
def y18a (b l e a j c m : AV) (h : Heap) : OX :=
ob (evLd true 5 b h) fun d =>
ob (evLd true 9 a h) fun k =>
oh (y7 E (y8 E) 0 none true 63 [d, k] h) fun i h5 =>
ob (evUn .not i) fun g =>
cnd g
 ((yd h5 (.int .i64 80)))
 ((ycq b l e a j c m h5))
def y2g7 (s : St) : OX := y18a (s 1) (s 3) (s 8) (s 9) (s 92) (s 93) (s 94) s.h
theorem y1oq : T1 y15k yb0 (y4 5 yb0 (y4 4 y5w xN)) [.t 2] y2g7 := sq y1x1 fun _ => by kernel_rfl
def yx5 (j i c d a : AV) (h : Heap) : OX :=
ob (yn 9 c a) fun g =>
ob (evLd true 9 g h) fun e =>
oh (newC 0 (some 1) [(.int .i64 0), (.int .i64 0), (.int .i64 0), (.int .i64 0), (.int .i64 0), (.int .i64 0), (.int .i64 0), (.str []), .nils] h) fun b h6 =>
oh (evSt 9 b e h6) fun _ h7 =>
(y18a j i a b c d a h7)
def yzw (s : St) : OX := yx5 (s 1) (s 3) (s 92) (s 93) (s 94) s.h
theorem y1j8 : T1 y19p yb0 (y4 5 yb0 (y4 4 y5w xN)) [.t 2] yzw := sq y1oq fun _ => by kernel_rfl
theorem y1xj : T1 y185 yb0 (y4 4 y5w xN) [.t 2] yzw := fun s => yq.trans (y1j8 s)
theorem y1li : T1 y14r y8l (y4 4 y5w xN) [.t 2] yzw := sq y1sq y1xj
def y19h (b a d c g e : AV) (h : Heap) : OX :=
cnd e
 ((yx5 b a d c g h))
 ((y1t9 b a h))
def y2cx (s : St) : OX := y19h (s 1) (s 3) (s 92) (s 93) (s 94) (s 95) s.h
theorem y1po : T1 y146 y8l (y4 4 y5w xN) [.t 2] y2cx := sq y1li fun _ => by kernel_rfl
def y15g (g e c a b : AV) (h : Heap) : OX :=
ob (y6 .lss b a) fun d =>
(y19h g e c a b d h)
def y2cz (s : St) : OX := y15g (s 1) (s 3) (s 92) (s 93) (s 94) s.h
theorem y1km : T1 y12a y8l (y4 4 y5w xN) [.t 2] y2cz := sq y1po fun _ => by kernel_rfl
theorem yod (d c b a e : AV) (h : Heap) : yfq d c b a e h = (y15g d c b a e h) :=
  y1o.trans ((y14 _ _ _ (n' := y8l) (fun s => yo3 s)).trans ((y1km _).trans (by kernel_rfl)))
theorem y1zy : T1 y158 y5w xN [.t 2] y8l := fun s => yq.trans (yo3 s)
def yuq (b e : AV) (h : Heap) : OX :=
ob (evFa 3 b) fun d =>
ob (evLd false 1 d h) fun a =>
ob (yv 1 a h) fun c =>
(yfq b e a c (.int .i64 0) h)
def y5t (s : St) : OX := yuq (s 1) (s 3) s.h
theorem y1wf : T1 y19z y5w xN [.t 2] y5t := sq y1zy fun _ => by kernel_rfl
theorem y1x7 : T0 y1bn [.t 2] y5t := sq y28k y1wf
def yfg (e d c b a : AV) (h : Heap) : OX :=
  W E 0 yhu ⟨[(1, e), (3, d), (62, c), (63, b), (64, a)], h⟩ y5t (y4 2 y5t xN) (finP [.t 2])
def y8j (s : St) : OX := yfg (s 1) (s 3) (s 62) (s 63) (s 64) s.h
theorem yoz : T1 yhu y5t (y4 2 y5t xN) [.t 2] y8j := fun s => yf.trans (by kernel_rfl)
def y1z8 (g e d c a : AV) (h : Heap) : OX :=
ob (y6 .add a (.int .i64 1)) fun b =>
(yfg g e d c b h)
def y2hm (s : St) : OX := y1z8 (s 1) (s 3) (s 62) (s 63) (s 64) s.h
theorem y1sf : T1 y0v y8j (y4 2 y5t xN) [.t 2] y2hm := fun _ => by kernel_rfl
def yia (g o i u c : AV) (h : Heap) : OX :=
ob (yn 1 i c) fun j =>
ob (evLd false 1 j h) fun d =>
ob (y6 .lss d (.int .i64 0)) fun b =>
gb b false (some d) fun A =>
gb b false (evFa 0 g) fun x =>
gb b false (evLd false 1 x h) fun p =>
gb b false (yv 1 p h) fun y =>
gb b false (y6 .geq A y) fun r =>
ob (yb b (.bool true) r) fun a =>
gb a false (evFa 1 g) fun k =>
gb a false (evLd false 1 k h) fun w =>
gb a false (some c) fun z =>
gb a false (yc8 1 w none (some z)) fun n =>
gb a false (some d) fun m =>
gh a false (y7 E (y8 E) 0 none true 46 [n, m] h) h fun v h8 =>
ob (yb a (.bool true) v) fun e =>
gb e false (some c) fun l =>
gb e false (y6 .gtr l (.int .i64 20)) fun t =>
ob (yb e (.bool true) t) fun B =>
cnd B
 ((yd h8 (.int .i64 80)))
 ((y1z8 g o i u c h8))
def y2dp (s : St) : OX := yia (s 1) (s 3) (s 62) (s 63) (s 64) s.h
theorem y1ii : T1 y15t y8j (y4 2 y5t xN) [.t 2] y2dp := sq y1sf fun _ => by kernel_rfl
def y13h (b a g e c d : AV) (h : Heap) : OX :=
cnd d
 ((yia b a g e c h))
 ((yuq b a h))
def y2dk (s : St) : OX := y13h (s 1) (s 3) (s 62) (s 63) (s 64) (s 65) s.h
theorem y1tq : T1 y17n y8j (y4 2 y5t xN) [.t 2] y2dk := sq y1ii fun _ => by kernel_rfl
def y198 (g e d b a : AV) (h : Heap) : OX :=
ob (y6 .lss a b) fun c =>
(y13h g e d b a c h)
def y2hd (s : St) : OX := y198 (s 1) (s 3) (s 62) (s 63) (s 64) s.h
theorem y1w3 : T1 y11v y8j (y4 2 y5t xN) [.t 2] y2hd := sq y1tq fun _ => by kernel_rfl
theorem yoo (e d c b a : AV) (h : Heap) : yfg e d c b a h = (y198 e d c b a h) :=
  y1o.trans ((y14 _ _ _ (n' := y8j) (fun s => yoz s)).trans ((y1w3 _).trans (by kernel_rfl)))
theorem y1j9 : T1 y17a y5t xN [.t 2] y8j := fun s => yq.trans (yoz s)
def ywv (b d : AV) (h : Heap) : OX :=
ob (evFa 1 b) fun e =>
ob (evLd false 1 e h) fun a =>
ob (yv 1 a h) fun c =>
(yfg b d a c (.int .i64 0) h)
def y5m (s : St) : OX := ywv (s 1) (s 3) s.h
theorem y1hx : T1 y12s y5t xN [.t 2] y5m := sq y1j9 fun _ => by kernel_rfl
theorem y1m6 : T0 y16m [.t 2] y5m := sq y1x7 y1hx
def yeu (c b a e d : AV) (h : Heap) : OX :=
  W E 0 yka ⟨[(1, c), (3, b), (48, a), (49, e), (50, d)], h⟩ y5m (y4 0 y5m xN) (finP [.t 2])
def y8i (s : St) : OX := yeu (s 1) (s 3) (s 48) (s 49) (s 50) s.h
theorem yni : T1 yka y5m (y4 0 y5m xN) [.t 2] y8i := fun s => yf.trans (by kernel_rfl)
def y1lr (c b a g e : AV) (h : Heap) : OX :=
ob (y6 .add e (.int .i64 1)) fun d =>
(yeu c b a g d h)
def y2ge (s : St) : OX := y1lr (s 1) (s 3) (s 48) (s 49) (s 50) s.h
theorem y1iy : T1 y13b y8i (y4 0 y5m xN) [.t 2] y2ge := fun _ => by kernel_rfl
def yxw (j i b l d : AV) (h : Heap) : OX :=
ob (yn 1 b d) fun m =>
ob (evLd false 1 m h) fun c =>
ob (y6 .lss c (.int .i64 1)) fun a =>
gb a false (some c) fun e =>
gb a false (y6 .gtr e (.int .i64 3)) fun k =>
ob (yb a (.bool true) k) fun g =>
cnd g
 ((yd h (.int .i64 80)))
 ((y1lr j i b l d h))
def y2c9 (s : St) : OX := yxw (s 1) (s 3) (s 48) (s 49) (s 50) s.h
theorem y1yr : T1 y18p y8i (y4 0 y5m xN) [.t 2] y2c9 := sq y1iy fun _ => by kernel_rfl
def y14n (b a c e d g : AV) (h : Heap) : OX :=
cnd g
 ((yxw b a c e d h))
 ((ywv b a h))
def y2fd (s : St) : OX := y14n (s 1) (s 3) (s 48) (s 49) (s 50) (s 51) s.h
theorem y1zk : T1 y16b y8i (y4 0 y5m xN) [.t 2] y2fd := sq y1yr fun _ => by kernel_rfl
def y16h (e d c b a : AV) (h : Heap) : OX :=
ob (y6 .lss a b) fun g =>
(y14n e d c b a g h)
def y2ic (s : St) : OX := y16h (s 1) (s 3) (s 48) (s 49) (s 50) s.h
theorem y1lk : T1 y14w y8i (y4 0 y5m xN) [.t 2] y2ic := sq y1zk fun _ => by kernel_rfl
theorem ypa (c b a e d : AV) (h : Heap) : yeu c b a e d h = (y16h c b a e d h) :=
  y1o.trans ((y14 _ _ _ (n' := y8i) (fun s => yni s)).trans ((y1lk _).trans (by kernel_rfl)))
theorem y1xq : T1 y1c5 y5m xN [.t 2] y8i := fun s => yq.trans (yni s)
def ypf (a c : AV) (h : Heap) : OX :=
ob (evFa 0 a) fun d =>
ob (evLd false 1 d h) fun b =>
ob (yv 1 b h) fun e =>
(yeu a c b e (.int .i64 0) h)
def y1nq (s : St) : OX := ypf (s 1) (s 3) s.h
theorem y1lp : T1 y194 y5m xN [.t 2] y1nq := sq y1xq fun _ => by kernel_rfl
theorem y1pz : T0 y13m [.t 2] y1nq := sq y1m6 y1lp
def ydy (c e : AV) (h : Heap) : OX :=
ob (y6 .lss e (.int .i64 1)) fun i =>
gb i false (some e) fun w =>
gb i false (y6 .gtr w (.int .i64 20000)) fun n =>
ob (yb i (.bool true) n) fun b =>
gb b false (evFa 0 c) fun y =>
gb b false (evLd false 1 y h) fun G =>
gb b false (yv 1 G h) fun z =>
gb b false (y6 .gtr z (.int .i64 20000)) fun r =>
ob (yb b (.bool true) r) fun d =>
gb d false (evFa 2 c) fun o =>
gb d false (evLd false 1 o h) fun p =>
gb d false (y6 .lss p (.int .i64 0)) fun v =>
ob (yb d (.bool true) v) fun g =>
gb g false (evFa 2 c) fun A =>
gb g false (evLd false 1 A h) fun t =>
gb g false (y6 .gtr t (.int .i64 3)) fun D =>
ob (yb g (.bool true) D) fun a =>
gb a false (evFa 3 c) fun x =>
gb a false (evLd false 1 x h) fun k =>
gb a false (some e) fun l =>
gb a false (y6 .sub l (.int .i64 1)) fun F =>
gb a false (yn 9 k F) fun B =>
gb a false (evLd true 9 B h) fun C =>
gh a false (y7 E (y8 E) 0 none true 24 [C] h) h fun u h9 =>
gb a false (evUn .not u) fun j =>
ob (yb a (.bool true) j) fun m =>
cnd m
 ((yd h9 (.int .i64 80)))
 ((ypf c e h9))
def y2bn (s : St) : OX := ydy (s 1) (s 3) s.h
theorem y1um : T0 y16e [.t 2] y2bn := sq y1pz fun _ => by kernel_rfl
def yel (a : AV) (h : Heap) : OX :=
ob (evFa 3 a) fun c =>
ob (evLd false 1 c h) fun b =>
ob (yv 1 b h) fun d =>
(ydy a d h)
def y2bt (s : St) : OX := yel (s 1) s.h
theorem y1t1 : T0 y17w [.t 2] y2bt := sq y1um fun _ => by kernel_rfl
def ycc (a : AV) (h : Heap) : OX :=
oh (newC 0 (some 0) (cellsOf a) h) fun b h10 =>
(yel b h10)
def y2f7 (s : St) : OX := ycc (s 0) s.h
theorem y1xx : T0 y14o [.t 2] y2f7 := sq y1t1 fun _ => by kernel_rfl
@[simp] theorem y2vo : E.pure 8 = true := rfl
theorem y2sv (a : AV) : (y8 E).p 8 [a] = ycc a [⟨0, .dead⟩, ⟨0, .dead⟩, ⟨0, .dead⟩] :=
  (yr (cf := y2l5) (by kernel_rfl) rfl).trans ((y1xx _).trans (by kernel_rfl))
def y2ey (h : Heap) : OX :=
oh (y10 0 (some 0) 1 2 [(.int .i64 0)] [(0, (.int .i64 1)), (1, (.int .i64 3))] h) fun m h1 =>
oh (y10 0 (some 1) 1 1 [(.int .i64 0)] [(0, (.int .i64 1))] h1) fun r h2 =>
ob (yx [(.int .i64 0), (.int .i64 0), (.int .i64 0), (.int .i64 0), (.int .i64 0), (.int .i64 0), (.int .i64 0), (.str []), .nils] [(0, 1, (.int .i64 8)), (2, 1, (.int .i64 1))]) fun C =>
ob (yx [(.int .i64 0), (.int .i64 0), (.int .i64 0), (.int .i64 0), (.int .i64 0), (.int .i64 0), (.int .i64 0), (.str []), .nils] [(0, 1, (.int .i64 15)), (1, 1, (.int .i64 0)), (2, 1, (.int .i64 1))]) fun k =>
ob (yx [(.int .i64 0), (.int .i64 0), (.int .i64 0), (.int .i64 0), (.int .i64 0), (.int .i64 0), (.int .i64 0), (.str []), .nils] [(0, 1, (.int .i64 8)), (2, 1, (.int .i64 1))]) fun v =>
ob (yx [(.int .i64 0), (.int .i64 0), (.int .i64 0), (.int .i64 0), (.int .i64 0), (.int .i64 0), (.int .i64 0), (.str []), .nils] [(0, 1, (.int .i64 30)), (2, 1, (.int .i64 (-1)))]) fun e =>
oh (y10 0 (some 2) 9 4 [(.int .i64 0), (.int .i64 0), (.int .i64 0), (.int .i64 0), (.int .i64 0), (.int .i64 0), (.int .i64 0), (.str []), .nils] [(0, C), (1, k), (2, v), (3, e)] h2) fun d h3 =>
ob (yx [.nils, .nils, (.int .i64 0), .nils, .nils] [(0, 1, m), (1, 1, r), (3, 1, d)]) fun l =>
oh (y7 E (y8 E) 0 none true 166 [l] h3) fun x h4 =>
oh (newC 0 (some 3) [.nils, .nils, (.int .i64 0), .nils, .nils] h4) fun c h5 =>
oh (evSt 5 c x h5) fun _ h6 =>
ob (evFa 3 c) fun D =>
ob (evLd false 1 D h6) fun u =>
ob (yv 1 u h6) fun G =>
ob (y6 .eql G (.int .i64 4)) fun a =>
gb a true (evFa 3 c) fun z =>
gb a true (evLd false 1 z h6) fun t =>
gb a true (yn 9 t (.int .i64 0)) fun y =>
gb a true (evFa 0 y) fun g =>
gb a true (evLd false 1 g h6) fun A =>
gb a true (y6 .eql A (.int .i64 8)) fun p =>
ob (yb a p (.bool false)) fun b =>
gb b true (evFa 3 c) fun B =>
gb b true (evLd false 1 B h6) fun n =>
gb b true (yn 9 n (.int .i64 2)) fun i =>
gb b true (evFa 0 i) fun F =>
gb b true (evLd false 1 F h6) fun j =>
gb b true (y6 .eql j (.int .i64 33)) fun o =>
ob (yb b o (.bool false)) fun w =>
(yd h6 w)
def y2nf (s : St) : OX := y2ey s.h
theorem y24d : T0 y1ka [.t 0] y2nf := fun _ => by kernel_rfl
@[simp] theorem y2r5 : E.pure 165 = true := rfl
theorem y2ts : (y8 E).p 165 [] = y2ey [⟨0, .dead⟩, ⟨0, .dead⟩, ⟨0, .dead⟩, ⟨0, .dead⟩] :=
  (yr (cf := y2oj) (by kernel_rfl) rfl).trans ((y24d _).trans (by kernel_rfl))
def y1ia (c a : AV) (h : Heap) : OX :=
ob (evLd true 5 c h) fun b =>
oh (evSt 5 a b h) fun _ h1 =>
(ob (evLd true 5 a h1) fun r0 =>
  yd h1 r0)
def yb9 (s : St) : OX := y1ia (s 1) (s 2) s.h
theorem y252 : T0 y1kz [.cell 2 true 5] yb9 := fun _ => by kernel_rfl
def yn7 (d a c g e b : AV) (h : Heap) : OX :=
  W E 0 yqb ⟨[(1, d), (2, a), (3, c), (85, g), (86, e), (87, b)], h⟩ yb9 (y4 6 yb9 xN) (finP [.cell 2 true 5])
def ydc (s : St) : OX := yn7 (s 1) (s 2) (s 3) (s 85) (s 86) (s 87) s.h
theorem yxq : T1 yqb yb9 (y4 6 yb9 xN) [.cell 2 true 5] ydc := fun s => yf.trans (by kernel_rfl)
def y1i9 (e b d i g c : AV) (h : Heap) : OX :=
ob (y6 .add c (.int .i64 1)) fun a =>
(yn7 e b d i g a h)
def y2ou (s : St) : OX := y1i9 (s 1) (s 2) (s 3) (s 85) (s 86) (s 87) s.h
theorem y26v : T1 y1zt ydc (y4 6 yb9 xN) [.cell 2 true 5] y2ou := fun _ => by kernel_rfl
def y0c (g j d e i b : AV) (h : Heap) : OX :=
ob (yn 9 e b) fun H =>
ob (evLd true 9 H h) fun I =>
oh (newC 0 (some 15) [(.int .i64 0), (.int .i64 0), (.int .i64 0), (.int .i64 0), (.int .i64 0), (.int .i64 0), (.int .i64 0), (.str []), .nils] h) fun m h2 =>
oh (evSt 9 m I h2) fun _ h3 =>
ob (evLd true 9 m h3) fun F =>
oh (y7 E (y8 E) 0 none true 169 [F] h3) fun l h4 =>
ob (y3x 0 l) fun r =>
ob (y3x 1 l) fun c =>
oh (newC 0 (some 16) [(.int .i64 0), (.int .i64 0), (.int .i64 0)] h4) fun k h5 =>
oh (evSt 3 k r h5) fun _ h6 =>
gb c true (evLd false 1 d h6) fun B =>
gb c true (some b) fun J =>
gb c true (yn 1 B J) fun v =>
gb c true (evLd false 1 v h6) fun C =>
gb c true (y9g 2 true C AV.nilm) fun A =>
ob (yb c A (.bool false)) fun a =>
gb a true (evLd false 1 d h6) fun D =>
gb a true (some b) fun G =>
gb a true (yn 1 D G) fun n =>
gb a true (evLd false 1 n h6) fun z =>
gb a true (evLd true 3 k h6) fun x =>
gb a true (y6a true [0, 0, 0] (.bool false) false z x h6) fun t =>
ob (yb a t (.bool false)) fun u =>
cnd u
 (ob (evFa 3 g) fun y =>
ob (evLd false 1 y h6) fun p =>
ob (yx [(.int .i64 0), (.int .i64 0), (.int .i64 0), (.int .i64 0), (.int .i64 0), (.int .i64 0), (.int .i64 0), (.str []), .nils] [(0, 1, (.int .i64 33))]) fun o =>
ob (yn 9 p b) fun w =>
oh (evSt 9 w o h6) fun _ h7 =>
(y1i9 g j d e i b h7))
 ((y1i9 g j d e i b h6))
def y2lt (s : St) : OX := y0c (s 1) (s 2) (s 3) (s 85) (s 86) (s 87) s.h
theorem y257 : T1 y1vk ydc (y4 6 yb9 xN) [.cell 2 true 5] y2lt := sq y26v fun _ => by kernel_rfl
def y288 (b a e i g d c : AV) (h : Heap) : OX :=
cnd c
 ((y0c b a e i g d h))
 ((y1ia b a h))
def y2o6 (s : St) : OX := y288 (s 1) (s 2) (s 3) (s 85) (s 86) (s 87) (s 88) s.h
theorem y27y : T1 y1kr ydc (y4 6 yb9 xN) [.cell 2 true 5] y2o6 := sq y257 fun _ => by kernel_rfl
def y27x (g d e i b a : AV) (h : Heap) : OX :=
ob (y6 .lss a b) fun c =>
(y288 g d e i b a c h)
def y2ni (s : St) : OX := y27x (s 1) (s 2) (s 3) (s 85) (s 86) (s 87) s.h
theorem y262 : T1 y1z2 ydc (y4 6 yb9 xN) [.cell 2 true 5] y2ni := sq y27y fun _ => by kernel_rfl
theorem yv6 (d a c g e b : AV) (h : Heap) : yn7 d a c g e b h = (y27x d a c g e b h) :=
  y1o.trans ((y14 _ _ _ (n' := ydc) (fun s => yxq s)).trans ((y262 _).trans (by kernel_rfl)))
theorem y221 : T1 y1l6 yb9 xN [.cell 2 true 5] ydc := fun s => yq.trans (yxq s)
def y20x (a c e : AV) (h : Heap) : OX :=
ob (evFa 3 a) fun d =>
ob (evLd false 1 d h) fun b =>
ob (yv 1 b h) fun g =>
(yn7 a c e b g (.int .i64 0) h)
def y36 (s : St) : OX := y20x (s 1) (s 2) (s 3) s.h
theorem y26p : T1 y1qm yb9 xN [.cell 2 true 5] y36 := sq y221 fun _ => by kernel_rfl
theorem y215 : T0 y1yq [.cell 2 true 5] y36 := sq y252 y26p
def ycu (d b c e a : AV) (h : Heap) : OX :=
  W E 0 yj8 ⟨[(1, d), (2, b), (3, c), (4, e), (5, a)], h⟩ y36 (y4 0 y36 xN) (finP [.cell 2 true 5])
def yz (s : St) : OX := ycu (s 1) (s 2) (s 3) (s 4) (s 5) s.h
theorem yo1 : T1 yj8 y36 (y4 0 y36 xN) [.cell 2 true 5] yz := fun s => yf.trans (by kernel_rfl)
def yi2 (i e g j b d a k c : AV) (h : Heap) : OX :=
  W E 0 yjb ⟨[(1, i), (2, e), (3, g), (4, j), (5, b), (9, d), (73, a), (74, k), (75, c)], h⟩ yz (y4 4 yz (y4 1 yz (y4 0 y36 xN))) (finP [.cell 2 true 5])
def y8p (s : St) : OX := yi2 (s 1) (s 2) (s 3) (s 4) (s 5) (s 9) (s 73) (s 74) (s 75) s.h
theorem yn8 : T1 yjb yz (y4 4 yz (y4 1 yz (y4 0 y36 xN))) [.cell 2 true 5] y8p := fun s => yf.trans (by kernel_rfl)
def y1pp (j g i k c e b l d : AV) (h : Heap) : OX :=
ob (y6 .add d (.int .i64 1)) fun a =>
(yi2 j g i k c e b l a h)
def y2e8 (s : St) : OX := y1pp (s 1) (s 2) (s 3) (s 4) (s 5) (s 9) (s 73) (s 74) (s 75) s.h
theorem y1sm : T1 y0t y8p (y4 4 yz (y4 1 yz (y4 0 y36 xN))) [.cell 2 true 5] y2e8 := fun _ => by kernel_rfl
def y1tk (k i j l b d a m c : AV) (h : Heap) : OX :=
ob (yn 1 a c) fun g =>
ob (evLd false 1 g h) fun e =>
oh (ymh E (y8 E) 0 none true b [e, d] h) fun n h8 =>
(y1pp k i j l b d a m c h8)
def y2gs (s : St) : OX := y1tk (s 1) (s 2) (s 3) (s 4) (s 5) (s 9) (s 73) (s 74) (s 75) s.h
theorem y1mt : T1 y174 y8p (y4 4 yz (y4 1 yz (y4 0 y36 xN))) [.cell 2 true 5] y2gs := sq y1sm fun _ => by kernel_rfl
def y12i (d b c e a k i l j g : AV) (h : Heap) : OX :=
cnd g
 ((y1tk d b c e a k i l j h))
 ((ycu d b c e a h))
def y2fl (s : St) : OX := y12i (s 1) (s 2) (s 3) (s 4) (s 5) (s 9) (s 73) (s 74) (s 75) (s 76) s.h
theorem y1hw : T1 y1au y8p (y4 4 yz (y4 1 yz (y4 0 y36 xN))) [.cell 2 true 5] y2fl := sq y1mt fun _ => by kernel_rfl
def y19u (k i j l e g d b a : AV) (h : Heap) : OX :=
ob (y6 .lss a b) fun c =>
(y12i k i j l e g d b a c h)
def y2g5 (s : St) : OX := y19u (s 1) (s 2) (s 3) (s 4) (s 5) (s 9) (s 73) (s 74) (s 75) s.h
theorem y1x5 : T1 y118 y8p (y4 4 yz (y4 1 yz (y4 0 y36 xN))) [.cell 2 true 5] y2g5 := sq y1hw fun _ => by kernel_rfl
theorem yo5 (i e g j b d a k c : AV) (h : Heap) : yi2 i e g j b d a k c h = (y19u i e g j b d a k c h) :=
  y1o.trans ((y14 _ _ _ (n' := y8p) (fun s => yn8 s)).trans ((y1x5 _).trans (by kernel_rfl)))
theorem y1qq : T1 y115 yz (y4 1 yz (y4 0 y36 xN)) [.cell 2 true 5] y8p := fun s => yq.trans (yn8 s)
def y1uc (b e g j c i d : AV) (h : Heap) : OX :=
ob (evLd true 5 b h) fun k =>
oh (y7 E (y8 E) 0 none true 81 [k, i] h) fun a h9 =>
ob (yv 1 a h9) fun l =>
(yi2 b e g j c d a l (.int .i64 0) h9)
def y2do (s : St) : OX := y1uc (s 1) (s 2) (s 3) (s 4) (s 5) (s 6) (s 9) s.h
theorem y1w8 : T1 y0q yz (y4 1 yz (y4 0 y36 xN)) [.cell 2 true 5] y2do := sq y1qq fun _ => by kernel_rfl
def y1b5 (c l b n j a : AV) (h : Heap) : OX :=
ob (evLd false 1 b h) fun o =>
ob (yn 1 o a) fun k =>
ob (evLd false 1 k h) fun d =>
ob (evFa 3 c) fun g =>
ob (evLd false 1 g h) fun e =>
ob (yn 9 e a) fun m =>
ob (evLd true 9 m h) fun p =>
oh (y7 E (y8 E) 0 none true 168 [d, p] h) fun i h10 =>
(y1uc c l b n j a i h10)
def y6k (s : St) : OX := y1b5 (s 1) (s 2) (s 3) (s 4) (s 5) (s 6) s.h
theorem y1jt : T1 y126 yz (y4 1 yz (y4 0 y36 xN)) [.cell 2 true 5] y6k := sq y1w8 fun _ => by kernel_rfl
def yij (e b d i a g c j k : AV) (h : Heap) : OX :=
  W E 0 yip ⟨[(1, e), (2, b), (3, d), (4, i), (5, a), (6, g), (47, c), (48, j), (49, k)], h⟩ y6k (y4 2 y6k (y4 1 yz (y4 0 y36 xN))) (finP [.cell 2 true 5])
def y8n (s : St) : OX := yij (s 1) (s 2) (s 3) (s 4) (s 5) (s 6) (s 47) (s 48) (s 49) s.h
theorem yo4 : T1 yip y6k (y4 2 y6k (y4 1 yz (y4 0 y36 xN))) [.cell 2 true 5] y8n := fun s => yf.trans (by kernel_rfl)
def y1y0 (e b d j a i c k l : AV) (h : Heap) : OX :=
ob (y6 .add l (.int .i64 1)) fun g =>
(yij e b d j a i c k g h)
def y2e1 (s : St) : OX := y1y0 (s 1) (s 2) (s 3) (s 4) (s 5) (s 6) (s 47) (s 48) (s 49) s.h
theorem y1nn : T1 y187 y8n (y4 2 y6k (y4 1 yz (y4 0 y36 xN))) [.cell 2 true 5] y2e1 := fun _ => by kernel_rfl
def y1jd (l j c n a d b o e : AV) (h : Heap) : OX :=
ob (yn 1 b e) fun p =>
ob (evLd false 1 p h) fun k =>
ob (evLd false 1 c h) fun g =>
ob (yn 1 g d) fun i =>
ob (evLd false 1 i h) fun m =>
oh (ymh E (y8 E) 0 none true a [k, m] h) fun r h11 =>
(y1y0 l j c n a d b o e h11)
def y2iu (s : St) : OX := y1jd (s 1) (s 2) (s 3) (s 4) (s 5) (s 6) (s 47) (s 48) (s 49) s.h
theorem y1u5 : T1 y110 y8n (y4 2 y6k (y4 1 yz (y4 0 y36 xN))) [.cell 2 true 5] y2iu := sq y1nn fun _ => by kernel_rfl
def y1ab (d b c g a e j k l i : AV) (h : Heap) : OX :=
cnd i
 ((y1jd d b c g a e j k l h))
 ((y1b5 d b c g a e h))
def y2dl (s : St) : OX := y1ab (s 1) (s 2) (s 3) (s 4) (s 5) (s 6) (s 47) (s 48) (s 49) (s 50) s.h
theorem y1v3 : T1 y15r y8n (y4 2 y6k (y4 1 yz (y4 0 y36 xN))) [.cell 2 true 5] y2dl := sq y1u5 fun _ => by kernel_rfl
def y142 (j e i l d k g a b : AV) (h : Heap) : OX :=
ob (y6 .lss b a) fun c =>
(y1ab j e i l d k g a b c h)
def y2h5 (s : St) : OX := y142 (s 1) (s 2) (s 3) (s 4) (s 5) (s 6) (s 47) (s 48) (s 49) s.h
theorem y1ts : T1 y1c9 y8n (y4 2 y6k (y4 1 yz (y4 0 y36 xN))) [.cell 2 true 5] y2h5 := sq y1v3 fun _ => by kernel_rfl
theorem yom (e b d i a g c j k : AV) (h : Heap) : yij e b d i a g c j k h = (y142 e b d i a g c j k h) :=
  y1o.trans ((y14 _ _ _ (n' := y8n) (fun s => yo4 s)).trans ((y1ts _).trans (by kernel_rfl)))
theorem y1wg : T1 y11j y6k (y4 1 yz (y4 0 y36 xN)) [.cell 2 true 5] y8n := fun s => yq.trans (yo4 s)
def y1uh (b g i j e c : AV) (h : Heap) : OX :=
ob (evLd true 5 b h) fun d =>
oh (y7 E (y8 E) 0 none true 79 [d, c] h) fun a h12 =>
ob (yv 1 a h12) fun k =>
(yij b g i j e c a k (.int .i64 0) h12)
def y1mm (s : St) : OX := y1uh (s 1) (s 2) (s 3) (s 4) (s 5) (s 6) s.h
theorem y1wo : T1 y13e y6k (y4 1 yz (y4 0 y36 xN)) [.cell 2 true 5] y1mm := sq y1wg fun _ => by kernel_rfl
theorem y1ik : T1 y1b0 yz (y4 1 yz (y4 0 y36 xN)) [.cell 2 true 5] y1mm := sq y1jt y1wo
def y1vq (j g i a c l : AV) (h : Heap) : OX :=
ob (evLd false 1 a h) fun d =>
ob (evLd false 1 a h) fun m =>
ob (yv 1 m h) fun b =>
ob (y6 .sub b (.int .i64 1)) fun e =>
ob (yc8 1 d none (some e)) fun k =>
oh (evSt 1 a k h) fun _ h13 =>
(y1uh j g i a c l h13)
def y2k0 (s : St) : OX := y1vq (s 1) (s 2) (s 3) (s 4) (s 5) (s 6) s.h
theorem y1if : T1 y182 yz (y4 1 yz (y4 0 y36 xN)) [.cell 2 true 5] y2k0 := sq y1ik fun _ => by kernel_rfl
def y1j1 (l g k a d : AV) (h : Heap) : OX :=
ob (evLd false 1 a h) fun j =>
ob (evLd false 1 a h) fun i =>
ob (yv 1 i h) fun m =>
ob (y6 .sub m (.int .i64 1)) fun b =>
ob (yn 1 j b) fun c =>
ob (evLd false 1 c h) fun e =>
(y1vq l g k a d e h)
def y1r6 (s : St) : OX := y1j1 (s 1) (s 2) (s 3) (s 4) (s 5) s.h
theorem y1q4 : T1 y12m yz (y4 1 yz (y4 0 y36 xN)) [.cell 2 true 5] y1r6 := sq y1if fun _ => by kernel_rfl
theorem y1z1 : T1 y13d yz (y4 0 y36 xN) [.cell 2 true 5] y1r6 := fun s => yq.trans (y1q4 s)
def yty (c a b d e : AV) (h : Heap) : OX :=
ob (evLd false 1 d h) fun g =>
ob (yv 1 g h) fun i =>
ob (y6 .gtr i (.int .i64 0)) fun j =>
cnd j
 ((y1j1 c a b d e h))
 ((y20x c a b h))
def y2dx (s : St) : OX := yty (s 1) (s 2) (s 3) (s 4) (s 5) s.h
theorem y1n5 : T1 y0p yz (y4 0 y36 xN) [.cell 2 true 5] y2dx := sq y1z1 fun _ => by kernel_rfl
theorem yfy (d b c e a : AV) (h : Heap) : ycu d b c e a h = (yty d b c e a h) :=
  y1o.trans ((y14 _ _ _ (n' := yz) (fun s => yo1 s)).trans ((y1n5 _).trans (by kernel_rfl)))
theorem y1k6 : T1 y18f y36 xN [.cell 2 true 5] yz := fun s => yq.trans (yo1 s)
theorem y1tj : T0 y16t [.cell 2 true 5] yz := sq y215 y1k6
def y1yd (d c b a : AV) (h : Heap) : OX :=
ob (some (.fn 167 [b, a])) fun e =>
(ycu d c b a e h)
def y2dc (s : St) : OX := y1yd (s 1) (s 2) (s 3) (s 4) s.h
theorem y1kt : T0 y14v [.cell 2 true 5] y2dc := sq y1tj fun _ => by kernel_rfl
def y1mc (e c d : AV) (h : Heap) : OX :=
oh (y10 0 (some 13) 1 1 [(.int .i64 0)] [(0, (.int .i64 0))] h) fun b h14 =>
oh (newC 0 (some 14) [.nils] h14) fun a h15 =>
oh (evSt 1 a b h15) fun _ h16 =>
(y1yd e c d a h16)
def y2f8 (s : St) : OX := y1mc (s 1) (s 2) (s 3) s.h
theorem y1tz : T0 y111 [.cell 2 true 5] y2f8 := sq y1kt fun _ => by kernel_rfl
def y1wn (d c a : AV) (h : Heap) : OX :=
ob (evLd false 1 a h) fun e =>
oh (mkmC 0 (some 12) h) fun b h17 =>
ob (yn 1 e (.int .i64 0)) fun g =>
oh (evSt 1 g b h17) fun _ h18 =>
(y1mc d c a h18)
def y2dm (s : St) : OX := y1wn (s 1) (s 2) (s 3) s.h
theorem y1vs : T0 y14k [.cell 2 true 5] y2dm := sq y1tz fun _ => by kernel_rfl
def y11q (b e : AV) (h : Heap) : OX :=
ob (evFa 3 b) fun d =>
ob (evLd false 1 d h) fun i =>
ob (yv 1 i h) fun c =>
oh (mkSC 0 (some 10) 1 8 [.nilm] c c h) fun g h19 =>
oh (newC 0 (some 11) [.nils] h19) fun a h20 =>
oh (evSt 1 a g h20) fun _ h21 =>
(y1wn b e a h21)
def y2bk (s : St) : OX := y11q (s 1) (s 2) s.h
theorem y1js : T0 y176 [.cell 2 true 5] y2bk := sq y1vs fun _ => by kernel_rfl
def yxc (b a : AV) (h : Heap) : OX :=
ob (evLd true 5 b h) fun c =>
oh (y7 E (y8 E) 0 none true 8 [c] h) fun g h22 =>
ob (y6 .neq g (.int .i64 0)) fun d =>
cnd d
 (ob (evLd true 5 b h22) fun e =>
oh (evSt 5 a e h22) fun _ h23 =>
(ob (evLd true 5 a h23) fun r0 =>
  yd h23 r0))
 ((y11q b a h22))
def y2ip (s : St) : OX := yxc (s 1) (s 2) s.h
theorem y1rn : T0 y1b2 [.cell 2 true 5] y2ip := sq y1js fun _ => by kernel_rfl
def y1wz (a d : AV) (h : Heap) : OX :=
ob (evLd true 5 a h) fun b =>
oh (y7 E (y8 E) 0 (some 2) false 13 [b] h) fun c h24 =>
oh (evSt 5 a c h24) fun _ h25 =>
(yxc a d h25)
def y2i5 (s : St) : OX := y1wz (s 1) (s 2) s.h
theorem y1l0 : T0 y16u [.cell 2 true 5] y2i5 := sq y1rn fun _ => by kernel_rfl
def y11b (a : AV) (h : Heap) : OX :=
oh (newC 0 (some 0) (cellsOf a) h) fun c h26 =>
oh (newC 0 (some 1) [.nils, .nils, (.int .i64 0), .nils, .nils] h26) fun b h27 =>
(y1wz c b h27)
def y2ce (s : St) : OX := y11b (s 0) s.h
theorem y1s5 : T0 y117 [.cell 2 true 5] y2ce := sq y1l0 fun _ => by kernel_rfl
@[simp] theorem y2ra : E.pure 166 = true := rfl
theorem y2sp (a : AV) : (y8 E).p 166 [a] = y11b a [⟨0, .dead⟩, ⟨0, .dead⟩, ⟨0, .dead⟩, ⟨0, .dead⟩, ⟨0, .dead⟩, ⟨0, .dead⟩, ⟨0, .dead⟩, ⟨0, .dead⟩, ⟨0, .dead⟩, ⟨0, .dead⟩, ⟨0, .dead⟩, ⟨0, .dead⟩, ⟨0, .dead⟩, ⟨0, .dead⟩, ⟨0, .dead⟩, ⟨0, .dead⟩, ⟨0, .dead⟩] :=
  (yr (cf := y2o7) (by kernel_rfl) rfl).trans ((y1s5 _).trans (by kernel_rfl))
def y2i9 (i : AV) (h : Heap) : OX :=
oh (newC 0 (some 0) (cellsOf i) h) fun d h1 =>
ob (evFa 3 d) fun m =>
ob (evLd false 1 m h1) fun v =>
ob (yv 1 v h1) fun g =>
ob (y6 .leq g (.int .i64 90)) fun b =>
gb b true (evFa 0 d) fun e =>
gb b true (evLd false 1 e h1) fun j =>
gb b true (yv 1 j h1) fun o =>
gb b true (y6 .leq o (.int .i64 20)) fun w =>
ob (yb b w (.bool false)) fun a =>
gb a true (evFa 4 d) fun l =>
gb a true (evLd false 1 l h1) fun u =>
gb a true (yv 1 u h1) fun p =>
gb a true (y6 .leq p (.int .i64 12)) fun n =>
ob (yb a n (.bool false)) fun c =>
gb c true (evLd true 5 d h1) fun t =>
gh c true (y7 E (y8 E) 0 none true 29 [t] h1) h1 fun k h2 =>
gb c true (y6 .eql k (.int .i64 0)) fun r =>
ob (yb c r (.bool false)) fun x =>
(yd h2 x)
def y2p6 (s : St) : OX := y2i9 (s 0) s.h
theorem y26q : T0 y1wm [.t 2] y2p6 := fun _ => by kernel_rfl
@[simp] theorem y2qn : E.pure 171 = true := rfl
theorem y2ue (a : AV) : (y8 E).p 171 [a] = y2i9 a [⟨0, .dead⟩] :=
  (yr (cf := y2n6) (by kernel_rfl) rfl).trans ((y26q _).trans (by kernel_rfl))
def yth (b d : AV) (h : Heap) : OX :=
ob (evLd true 5 b h) fun a =>
ob (evLd true 5 d h) fun e =>
oh (y7 E (y8 E) 0 none true 14 [a, e] h) fun c h1 =>
(yd h1 c)
def y3w (s : St) : OX := yth (s 2) (s 7) s.h
theorem y1ks : T0 y16v [.t 4] y3w := fun _ => by kernel_rfl
def yev (c d b g e a : AV) (h : Heap) : OX :=
  W E 0 yl1 ⟨[(2, c), (3, d), (5, b), (6, g), (7, e), (8, a)], h⟩ y3w (y4 0 y3w xN) (finP [.t 4])
def yc3 (s : St) : OX := yev (s 2) (s 3) (s 5) (s 6) (s 7) (s 8) s.h
theorem ypi : T1 yl1 y3w (y4 0 y3w xN) [.t 4] yc3 := fun s => yf.trans (by kernel_rfl)
def ygs (c d b g e a : AV) (h : Heap) : OX :=
ob (y6 .add a (.int .i64 1)) fun i =>
(yev c d b g e i h)
def y5o (s : St) : OX := ygs (s 2) (s 3) (s 5) (s 6) (s 7) (s 8) s.h
theorem y1om : T1 y0w yc3 (y4 0 y3w xN) [.t 4] y5o := fun _ => by kernel_rfl
def yne (d e c g b a k n : AV) (h : Heap) : OX :=
cnd n
 (ob (evFa 3 b) fun j =>
ob (evLd false 1 j h) fun i =>
ob (evLd true 9 k h) fun m =>
ob (yn 9 i a) fun l =>
oh (evSt 9 l m h) fun _ h2 =>
(ygs d e c g b a h2))
 ((ygs d e c g b a h))
def y2gj (s : St) : OX := yne (s 2) (s 3) (s 5) (s 6) (s 7) (s 8) (s 9) (s 10) s.h
theorem y1zi : T1 y121 y5o (y4 1 y5o (y4 0 y3w xN)) [.t 4] y2gj := fun _ => by kernel_rfl
def y1i4 (e r d g t b m i : AV) (h : Heap) : OX :=
ob (yn 1 g b) fun p =>
ob (evLd false 1 p h) fun a =>
gb a true (evLd true 5 e h) fun k =>
gb a true (some d) fun j =>
gb a true (some b) fun l =>
gh a true (y7 E (y8 E) 0 none true 174 [k, j, l] h) h fun v h3 =>
ob (yb a v (.bool false)) fun c =>
gb c true (some i) fun u =>
gb c true (evUn .not u) fun o =>
ob (yb c o (.bool false)) fun n =>
cnd n
 ((yd h3 (.bool false)))
 ((yne e r d g t b m i h3))
def y2d7 (s : St) : OX := y1i4 (s 2) (s 3) (s 5) (s 6) (s 7) (s 8) (s 9) (s 10) s.h
theorem y1ne : T1 y156 y5o (y4 1 y5o (y4 0 y3w xN)) [.t 4] y2d7 := sq y1zi fun _ => by kernel_rfl
def y1xk (g b c m k a e : AV) (h : Heap) : OX :=
ob (evFa 3 b) fun d =>
ob (evLd false 1 d h) fun l =>
ob (yn 9 l a) fun i =>
ob (evFa 0 i) fun j =>
ob (evLd false 1 j h) fun n =>
ob (y6 .eql n (.int .i64 33)) fun o =>
(y1i4 g b c m k a e o h)
def y2jk (s : St) : OX := y1xk (s 2) (s 3) (s 5) (s 6) (s 7) (s 8) (s 9) s.h
theorem y1kl : T1 y19c y5o (y4 1 y5o (y4 0 y3w xN)) [.t 4] y2jk := sq y1ne fun _ => by kernel_rfl
def y1bl (d e b i g a c : AV) (h : Heap) : OX :=
ob (evFa 0 c) fun k =>
ob (evLd false 1 k h) fun l =>
oh (y7 E (y8 E) 0 none true 173 [l] h) fun m h4 =>
ob (evUn .not m) fun j =>
cnd j
 ((ygs d e b i g a h4))
 ((y1xk d e b i g a c h4))
def y2dg (s : St) : OX := y1bl (s 2) (s 3) (s 5) (s 6) (s 7) (s 8) (s 9) s.h
theorem y1or : T1 y1by y5o (y4 1 y5o (y4 0 y3w xN)) [.t 4] y2dg := sq y1kl fun _ => by kernel_rfl
def y1vc (c k e m l a : AV) (h : Heap) : OX :=
ob (evFa 3 c) fun j =>
ob (evLd false 1 j h) fun i =>
ob (yn 9 i a) fun d =>
ob (evLd true 9 d h) fun g =>
oh (newC 0 (some 4) [(.int .i64 0), (.int .i64 0), (.int .i64 0), (.int .i64 0), (.int .i64 0), (.int .i64 0), (.int .i64 0), (.str []), .nils] h) fun b h5 =>
oh (evSt 9 b g h5) fun _ h6 =>
(y1bl c k e m l a b h6)
def yyg (s : St) : OX := y1vc (s 2) (s 3) (s 5) (s 6) (s 7) (s 8) s.h
theorem y1mh : T1 y11t y5o (y4 1 y5o (y4 0 y3w xN)) [.t 4] yyg := sq y1or fun _ => by kernel_rfl
theorem y1nf : T1 y13r y5o (y4 0 y3w xN) [.t 4] yyg := fun s => yq.trans (y1mh s)
theorem y1gd : T1 ysx yc3 (y4 0 y3w xN) [.t 4] yyg := sq y1om y1nf
def yr0 (a i d j c b : AV) (h : Heap) : OX :=
ob (evFa 3 a) fun l =>
ob (evLd false 1 l h) fun e =>
ob (yv 1 e h) fun k =>
ob (y6 .lss b k) fun g =>
cnd g
 ((y1vc a i d j c b h))
 ((yth a c h))
def y220 (s : St) : OX := yr0 (s 2) (s 3) (s 5) (s 6) (s 7) (s 8) s.h
theorem y1ds : T1 yt6 yc3 (y4 0 y3w xN) [.t 4] y220 := sq y1gd fun _ => by kernel_rfl
theorem yo2 (c d b g e a : AV) (h : Heap) : yev c d b g e a h = (yr0 c d b g e a h) :=
  y1o.trans ((y14 _ _ _ (n' := yc3) (fun s => ypi s)).trans ((y1ds _).trans (by kernel_rfl)))
theorem y1h1 : T1 yx7 y3w xN [.t 4] yc3 := fun s => yq.trans (ypi s)
def yz1 (b c a e d : AV) (h : Heap) : OX :=
(yev b c a e d (.int .i64 0) h)
def y17f (s : St) : OX := yz1 (s 2) (s 3) (s 5) (s 6) (s 7) s.h
theorem y1cx : T1 yvq y3w xN [.t 4] y17f := sq y1h1 fun _ => by kernel_rfl
theorem y1hg : T0 ywl [.t 4] y17f := sq y1ks y1cx
def y0h (d a c i b : AV) (h : Heap) : OX :=
ob (evFa 3 a) fun k =>
ob (evLd false 1 k h) fun g =>
oh (y3a 0 (some 3) 9 96 AV.nils g h) fun e h7 =>
ob (evFa 3 b) fun j =>
oh (evSt 1 j e h7) fun _ h8 =>
(yz1 d a c i b h8)
def y256 (s : St) : OX := y0h (s 2) (s 3) (s 5) (s 6) (s 7) s.h
theorem y1ek : T0 yu7 [.t 4] y256 := sq y1hg fun _ => by kernel_rfl
def y0b (e a c g : AV) (h : Heap) : OX :=
ob (evLd true 5 a h) fun d =>
oh (newC 0 (some 2) [.nils, .nils, (.int .i64 0), .nils, .nils] h) fun b h9 =>
oh (evSt 5 b d h9) fun _ h10 =>
(y0h e a c g b h10)
def y213 (s : St) : OX := y0b (s 2) (s 3) (s 5) (s 6) s.h
theorem y1dk : T0 yu2 [.t 4] y213 := sq y1ek fun _ => by kernel_rfl
def yze (a e b : AV) (h : Heap) : OX :=
ob (evLd true 5 a h) fun c =>
oh (y7 E (y8 E) 0 none true 104 [c] h) fun d h11 =>
(y0b a e b d h11)
def y22x (s : St) : OX := yze (s 2) (s 3) (s 5) s.h
theorem y1db : T0 yw3 [.t 4] y22x := sq y1dk fun _ => by kernel_rfl
def y0g (a d : AV) (h : Heap) : OX :=
ob (evLd true 5 a h) fun b =>
oh (y7 E (y8 E) 0 none true 106 [b] h) fun c h12 =>
(yze a d c h12)
def y25k (s : St) : OX := y0g (s 2) (s 3) s.h
theorem y1d8 : T0 ytx [.t 4] y25k := sq y1db fun _ => by kernel_rfl
def y00 (a b : AV) (h : Heap) : OX :=
ob (evFa 3 a) fun d =>
ob (evLd false 1 d h) fun k =>
ob (yv 1 k h) fun g =>
ob (evFa 3 b) fun i =>
ob (evLd false 1 i h) fun j =>
ob (yv 1 j h) fun e =>
ob (y6 .neq g e) fun c =>
cnd c
 ((yd h (.bool false)))
 ((y0g a b h))
def y27z (s : St) : OX := y00 (s 2) (s 3) s.h
theorem y1ha : T0 ysz [.t 4] y27z := sq y1d8 fun _ => by kernel_rfl
def yzl (a d : AV) (h : Heap) : OX :=
oh (newC 0 (some 0) (cellsOf a) h) fun b h13 =>
oh (newC 0 (some 1) (cellsOf d) h13) fun c h14 =>
(y00 b c h14)
def y25h (s : St) : OX := yzl (s 0) (s 1) s.h
theorem y1ef : T0 yrt [.t 4] y25h := sq y1ha fun _ => by kernel_rfl
@[simp] theorem y2qt : E.pure 172 = true := rfl
theorem y2ml (a b : AV) : (y8 E).p 172 [a, b] = yzl a b [⟨0, .dead⟩, ⟨0, .dead⟩, ⟨0, .dead⟩, ⟨0, .dead⟩, ⟨0, .dead⟩] :=
  (yr (cf := y2aa) (by kernel_rfl) rfl).trans ((y1ef _).trans (by kernel_rfl))
def yky (h : Heap) : OX :=
(yd h (.int .i64 0))
def y79 (s : St) : OX := yky s.h
theorem y1vj : T0 y1bv [.t 2] y79 := fun _ => by kernel_rfl
def yfn (c b a : AV) (h : Heap) : OX :=
  W E 0 yib ⟨[(1, c), (3, b), (8, a)], h⟩ y79 (y4 6 y79 xN) (finP [.t 2])
def ybw (s : St) : OX := yfn (s 1) (s 3) (s 8) s.h
theorem yoq : T1 yib y79 (y4 6 y79 xN) [.t 2] ybw := fun s => yf.trans (by kernel_rfl)
def yjt (d c a : AV) (h : Heap) : OX :=
ob (y6 .add a (.int .i64 1)) fun b =>
(yfn d c b h)
def y2hb (s : St) : OX := yjt (s 1) (s 3) (s 8) s.h
theorem y1t4 : T1 y1c0 ybw (y4 6 y79 xN) [.t 2] y2hb := fun _ => by kernel_rfl
def y8e (g j i : AV) (h : Heap) : OX :=
ob (evFa 4 g) fun u =>
ob (evLd false 1 u h) fun o =>
ob (yn 4 o i) fun H =>
ob (evLd true 4 H h) fun I =>
oh (newC 0 (some 2) [(.int .i64 0), (.int .i64 0), (.int .i64 0), (.str [])] h) fun b h1 =>
oh (evSt 4 b I h1) fun _ h2 =>
ob (evFa 0 b) fun O =>
ob (evLd false 1 O h2) fun m =>
ob (y6 .lss m (.int .i64 0)) fun d =>
gb d false (evFa 0 b) fun t =>
gb d false (evLd false 1 t h2) fun w =>
gb d false (evFa 1 b) fun p =>
gb d false (evLd false 1 p h2) fun D =>
gb d false (y6 .geq w D) fun x =>
ob (yb d (.bool true) x) fun e =>
gb e false (evFa 1 b) fun G =>
gb e false (evLd false 1 G h2) fun n =>
gb e false (some j) fun y =>
gb e false (y6 .gtr n y) fun l =>
ob (yb e (.bool true) l) fun c =>
gb c false (evLd true 5 g h2) fun A =>
gb c false (evFa 2 b) fun K =>
gb c false (evLd false 1 K h2) fun P =>
gh c false (y7 E (y8 E) 0 none true 49 [A, P] h2) h2 fun N h3 =>
gb c false (evUn .not N) fun M =>
ob (yb c (.bool true) M) fun a =>
gb a false (evFa 3 g) fun J =>
gb a false (evLd false 1 J h3) fun v =>
gb a false (evFa 2 b) fun k =>
gb a false (evLd false 1 k h3) fun C =>
gb a false (yn 9 v C) fun L =>
gb a false (evFa 0 L) fun r =>
gb a false (evLd false 1 r h3) fun B =>
gb a false (y6 .neq B (.int .i64 32)) fun F =>
ob (yb a (.bool true) F) fun z =>
cnd z
 ((yd h3 (.int .i64 80)))
 ((yjt g j i h3))
def y2j5 (s : St) : OX := y8e (s 1) (s 3) (s 8) s.h
theorem y1y4 : T1 y15c ybw (y4 6 y79 xN) [.t 2] y2j5 := sq y1t4 fun _ => by kernel_rfl
def y6v (b e a : AV) (h : Heap) : OX :=
ob (evFa 4 b) fun d =>
ob (evLd false 1 d h) fun c =>
ob (yv 1 c h) fun i =>
ob (y6 .lss a i) fun g =>
cnd g
 ((y8e b e a h))
 ((yky h))
def y2bx (s : St) : OX := y6v (s 1) (s 3) (s 8) s.h
theorem y1lf : T1 y135 ybw (y4 6 y79 xN) [.t 2] y2bx := sq y1y4 fun _ => by kernel_rfl
theorem yng (c b a : AV) (h : Heap) : yfn c b a h = (y6v c b a h) :=
  y1o.trans ((y14 _ _ _ (n' := ybw) (fun s => yoq s)).trans ((y1lf _).trans (by kernel_rfl)))
theorem y1il : T1 y0u y79 xN [.t 2] ybw := fun s => yq.trans (yoq s)
def ygy (b a : AV) (h : Heap) : OX :=
(yfn b a (.int .i64 0) h)
def y6d (s : St) : OX := ygy (s 1) (s 3) s.h
theorem y1x4 : T1 y193 y79 xN [.t 2] y6d := sq y1il fun _ => by kernel_rfl
theorem y1ze : T0 y11k [.t 2] y6d := sq y1vj y1x4
def yey (c b a : AV) (h : Heap) : OX :=
  W E 0 yi4 ⟨[(1, c), (3, b), (6, a)], h⟩ y6d (y4 4 y6d xN) (finP [.t 2])
def ybz (s : St) : OX := yey (s 1) (s 3) (s 6) s.h
theorem ymn : T1 yi4 y6d (y4 4 y6d xN) [.t 2] ybz := fun s => yf.trans (by kernel_rfl)
def yah (d c a : AV) (h : Heap) : OX :=
ob (y6 .add a (.int .i64 1)) fun b =>
(yey d c b h)
def y22c (s : St) : OX := yah (s 1) (s 3) (s 6) s.h
theorem y1hq : T1 yx9 ybz (y4 4 y6d xN) [.t 2] y22c := fun _ => by kernel_rfl
def y4w (i I j : AV) (h : Heap) : OX :=
ob (evFa 3 i) fun V =>
ob (evLd false 1 V h) fun U =>
ob (yn 9 U j) fun l =>
ob (evLd true 9 l h) fun K =>
oh (newC 0 (some 1) [(.int .i64 0), (.int .i64 0), (.int .i64 0), (.int .i64 0), (.int .i64 0), (.int .i64 0), (.int .i64 0), (.str []), .nils] h) fun g h4 =>
oh (evSt 9 g K h4) fun _ h5 =>
ob (evLd true 5 i h5) fun G =>
ob (evLd true 9 g h5) fun y =>
oh (y7 E (y8 E) 0 none true 64 [G, y] h5) fun A h6 =>
ob (evUn .not A) fun c =>
gb c false (evFa 0 g) fun Q =>
gb c false (evLd false 1 Q h6) fun n =>
gb c false (y6 .eql n (.int .i64 32)) fun D =>
gb c false (some D) fun e =>
gb e true (some j) fun M =>
gb e true (y6 .eql M (.int .i64 0)) fun F =>
gb e true (some F) fun a =>
gb a false (evFa 3 i) fun u =>
gb a false (evLd false 1 u h6) fun N =>
gb a false (some j) fun o =>
gb a false (y6 .sub o (.int .i64 1)) fun C =>
gb a false (yn 9 N C) fun P =>
gb a false (evFa 0 P) fun R =>
gb a false (evLd false 1 R h6) fun v =>
gh a false (y7 E (y8 E) 0 none true 25 [v] h6) h6 fun S h7 =>
gb a false (evUn .not S) fun H =>
gb e true (yb a (.bool true) H) fun Z =>
gb c false (yb e Z (.bool false)) fun L =>
ob (yb c (.bool true) L) fun d =>
gb d false (evFa 0 g) fun Y =>
gb d false (evLd false 1 Y h7) fun p =>
gh d false (y7 E (y8 E) 0 none true 23 [p] h7) h7 fun X h8 =>
gb d false (some X) fun b =>
gb b true (evFa 3 i) fun r =>
gb b true (evLd false 1 r h8) fun J =>
gb b true (evFa 6 g) fun w =>
gb b true (evLd false 1 w h8) fun m =>
gb b true (yn 9 J m) fun O =>
gb b true (evFa 0 O) fun z =>
gb b true (evLd false 1 z h8) fun t =>
gb b true (y6 .eql t (.int .i64 32)) fun x =>
gb d false (yb b x (.bool false)) fun B =>
ob (yb d (.bool true) B) fun k =>
cnd k
 ((yd h8 (.int .i64 80)))
 ((yah i I j h8))
def y27v (s : St) : OX := y4w (s 1) (s 3) (s 6) s.h
theorem y1gf : T1 yvz ybz (y4 4 y6d xN) [.t 2] y27v := sq y1hq fun _ => by kernel_rfl
def yb7 (c a b : AV) (h : Heap) : OX :=
ob (y6 .lss b a) fun d =>
cnd d
 ((y4w c a b h))
 ((ygy c a h))
def y20w (s : St) : OX := yb7 (s 1) (s 3) (s 6) s.h
theorem y1gw : T1 yvw ybz (y4 4 y6d xN) [.t 2] y20w := sq y1gf fun _ => by kernel_rfl
theorem yow (c b a : AV) (h : Heap) : yey c b a h = (yb7 c b a h) :=
  y1o.trans ((y14 _ _ _ (n' := ybz) (fun s => ymn s)).trans ((y1gw _).trans (by kernel_rfl)))
theorem y1d3 : T1 yv0 y6d xN [.t 2] ybz := fun s => yq.trans (ymn s)
def yau (b a : AV) (h : Heap) : OX :=
(yey b a (.int .i64 0) h)
def y4r (s : St) : OX := yau (s 1) (s 3) s.h
theorem y1cw : T1 yxu y6d xN [.t 2] y4r := sq y1d3 fun _ => by kernel_rfl
theorem y1dh : T0 ysl [.t 2] y4r := sq y1ze y1cw
def ybh (c b a : AV) (h : Heap) : OX :=
  W E 0 yg0 ⟨[(1, c), (3, b), (5, a)], h⟩ y4r (y4 2 y4r xN) (finP [.t 2])
def y80 (s : St) : OX := ybh (s 1) (s 3) (s 5) s.h
theorem yle : T1 yg0 y4r (y4 2 y4r xN) [.t 2] y80 := fun s => yf.trans (by kernel_rfl)
def yd7 (d c a : AV) (h : Heap) : OX :=
ob (y6 .add a (.int .i64 1)) fun b =>
(ybh d c b h)
def y24b (s : St) : OX := yd7 (s 1) (s 3) (s 5) s.h
theorem y1eo : T1 yt1 y80 (y4 2 y4r xN) [.t 2] y24b := fun _ => by kernel_rfl
def y8s (b k c : AV) (h : Heap) : OX :=
ob (evLd true 5 b h) fun o =>
ob (evFa 1 b) fun x =>
ob (evLd false 1 x h) fun i =>
ob (yn 1 i c) fun n =>
ob (evLd false 1 n h) fun r =>
oh (y7 E (y8 E) 0 none true 48 [o, r] h) fun e h9 =>
ob (y6 .eql e (.int .i64 0)) fun a =>
gb a false (evFa 1 b) fun y =>
gb a false (evLd false 1 y h9) fun v =>
gb a false (some c) fun w =>
gb a false (yn 1 v w) fun j =>
gb a false (evLd false 1 j h9) fun t =>
gb a false (evFa 1 b) fun p =>
gb a false (evLd false 1 p h9) fun d =>
gb a false (some c) fun g =>
gb a false (yc8 1 d none (some g)) fun m =>
gh a false (y7 E (y8 E) 0 none true 42 [t, m] h9) h9 fun u h10 =>
ob (yb a (.bool true) u) fun l =>
cnd l
 ((yd h10 (.int .i64 80)))
 ((yd7 b k c h10))
def y20t (s : St) : OX := y8s (s 1) (s 3) (s 5) s.h
theorem y1fb : T1 yxb y80 (y4 2 y4r xN) [.t 2] y20t := sq y1eo fun _ => by kernel_rfl
def y7a (a c b : AV) (h : Heap) : OX :=
ob (evFa 1 a) fun i =>
ob (evLd false 1 i h) fun g =>
ob (yv 1 g h) fun d =>
ob (y6 .lss b d) fun e =>
cnd e
 ((y8s a c b h))
 ((yau a c h))
def y26x (s : St) : OX := y7a (s 1) (s 3) (s 5) s.h
theorem y1fm : T1 yt9 y80 (y4 2 y4r xN) [.t 2] y26x := sq y1fb fun _ => by kernel_rfl
theorem ykd (c b a : AV) (h : Heap) : ybh c b a h = (y7a c b a h) :=
  y1o.trans ((y14 _ _ _ (n' := y80) (fun s => yle s)).trans ((y1fm _).trans (by kernel_rfl)))
theorem y1f9 : T1 ysn y4r xN [.t 2] y80 := fun s => yq.trans (yle s)
def yar (b a : AV) (h : Heap) : OX :=
(ybh b a (.int .i64 0) h)
def y4o (s : St) : OX := yar (s 1) (s 3) s.h
theorem y1f4 : T1 yv9 y4r xN [.t 2] y4o := sq y1f9 fun _ => by kernel_rfl
theorem y1f5 : T0 ys1 [.t 2] y4o := sq y1dh y1f4
def ybd (c b a : AV) (h : Heap) : OX :=
  W E 0 yfd ⟨[(1, c), (3, b), (4, a)], h⟩ y4o (y4 0 y4o xN) (finP [.t 2])
def y8a (s : St) : OX := ybd (s 1) (s 3) (s 4) s.h
theorem yl6 : T1 yfd y4o (y4 0 y4o xN) [.t 2] y8a := fun s => yf.trans (by kernel_rfl)
def yde (d c b : AV) (h : Heap) : OX :=
ob (y6 .add b (.int .i64 1)) fun a =>
(ybd d c a h)
def y270 (s : St) : OX := yde (s 1) (s 3) (s 4) s.h
theorem y1ff : T1 yvv y8a (y4 0 y4o xN) [.t 2] y270 := fun _ => by kernel_rfl
def y8m (b o c : AV) (h : Heap) : OX :=
ob (evFa 0 b) fun j =>
ob (evLd false 1 j h) fun n =>
ob (yn 1 n c) fun k =>
ob (evLd false 1 k h) fun i =>
ob (y6 .lss i (.int .i64 1)) fun a =>
gb a false (evFa 0 b) fun d =>
gb a false (evLd false 1 d h) fun e =>
gb a false (some c) fun m =>
gb a false (yn 1 e m) fun r =>
gb a false (evLd false 1 r h) fun g =>
gb a false (y6 .gtr g (.int .i64 3)) fun p =>
ob (yb a (.bool true) p) fun l =>
cnd l
 ((yd h (.int .i64 80)))
 ((yde b o c h))
def y20p (s : St) : OX := y8m (s 1) (s 3) (s 4) s.h
theorem y1fe : T1 ywi y8a (y4 0 y4o xN) [.t 2] y20p := sq y1ff fun _ => by kernel_rfl
def y7i (a b c : AV) (h : Heap) : OX :=
ob (evFa 0 a) fun g =>
ob (evLd false 1 g h) fun d =>
ob (yv 1 d h) fun i =>
ob (y6 .lss c i) fun e =>
cnd e
 ((y8m a b c h))
 ((yar a b h))
def y25a (s : St) : OX := y7i (s 1) (s 3) (s 4) s.h
theorem y1h8 : T1 ywt y8a (y4 0 y4o xN) [.t 2] y25a := sq y1fe fun _ => by kernel_rfl
theorem yj1 (c b a : AV) (h : Heap) : ybd c b a h = (y7i c b a h) :=
  y1o.trans ((y14 _ _ _ (n' := y8a) (fun s => yl6 s)).trans ((y1h8 _).trans (by kernel_rfl)))
theorem y1dz : T1 ysw y4o xN [.t 2] y8a := fun s => yq.trans (yl6 s)
def yg4 (b a : AV) (h : Heap) : OX :=
(ybd b a (.int .i64 0) h)
def y157 (s : St) : OX := yg4 (s 1) (s 3) s.h
theorem y1gl : T1 yw9 y4o xN [.t 2] y157 := sq y1dz fun _ => by kernel_rfl
theorem y1fq : T0 yri [.t 2] y157 := sq y1f5 y1gl
def y4u (b e : AV) (h : Heap) : OX :=
ob (y6 .eql e (.int .i64 0)) fun j =>
gb j false (some e) fun y =>
gb j false (y6 .gtr y (.int .i64 20000)) fun v =>
ob (yb j (.bool true) v) fun c =>
gb c false (evFa 0 b) fun B =>
gb c false (evLd false 1 B h) fun t =>
gb c false (yv 1 t h) fun A =>
gb c false (y6 .gtr A (.int .i64 20000)) fun L =>
ob (yb c (.bool true) L) fun d =>
gb d false (evFa 1 b) fun n =>
gb d false (evLd false 1 n h) fun J =>
gb d false (yv 1 J h) fun o =>
gb d false (y6 .gtr o (.int .i64 21)) fun p =>
ob (yb d (.bool true) p) fun g =>
gb g false (evFa 2 b) fun D =>
gb g false (evLd false 1 D h) fun G =>
gb g false (y6 .lss G (.int .i64 0)) fun r =>
ob (yb g (.bool true) r) fun i =>
gb i false (evFa 2 b) fun x =>
gb i false (evLd false 1 x h) fun z =>
gb i false (y6 .gtr z (.int .i64 3)) fun l =>
ob (yb i (.bool true) l) fun a =>
gb a false (evFa 3 b) fun H =>
gb a false (evLd false 1 H h) fun I =>
gb a false (some e) fun u =>
gb a false (y6 .sub u (.int .i64 1)) fun k =>
gb a false (yn 9 I k) fun m =>
gb a false (evFa 0 m) fun C =>
gb a false (evLd false 1 C h) fun F =>
gh a false (y7 E (y8 E) 0 none true 25 [F] h) h fun w h11 =>
gb a false (evUn .not w) fun K =>
ob (yb a (.bool true) K) fun M =>
cnd M
 ((yd h11 (.int .i64 80)))
 ((yg4 b e h11))
def y242 (s : St) : OX := y4u (s 1) (s 3) s.h
theorem y1fz : T0 ys4 [.t 2] y242 := sq y1fq fun _ => by kernel_rfl
def y4n (a : AV) (h : Heap) : OX :=
ob (evFa 3 a) fun d =>
ob (evLd false 1 d h) fun b =>
ob (yv 1 b h) fun c =>
(y4u a c h)
def y22j (s : St) : OX := y4n (s 1) s.h
theorem y1f7 : T0 yvr [.t 2] y22j := sq y1fz fun _ => by kernel_rfl
def y4a (a : AV) (h : Heap) : OX :=
oh (newC 0 (some 0) (cellsOf a) h) fun b h12 =>
(y4n b h12)
def y28u (s : St) : OX := y4a (s 0) s.h
theorem y1ez : T0 ywx [.t 2] y28u := sq y1f7 fun _ => by kernel_rfl
@[simp] theorem y2tn : E.pure 29 = true := rfl
theorem y2pr (a : AV) : (y8 E).p 29 [a] = y4a a [⟨0, .dead⟩, ⟨0, .dead⟩, ⟨0, .dead⟩] :=
  (yr (cf := y2ap) (by kernel_rfl) rfl).trans ((y1ez _).trans (by kernel_rfl))
def y1og (h : Heap) : OX :=
(yd h (.int .i64 (-1)))
def y2kq (s : St) : OX := y1og s.h
theorem y24j : T0 y1mf [.t 2] y2kq := fun _ => by kernel_rfl
def y1i3 (a : AV) (h : Heap) : OX :=
ob (evLd true 9 a h) fun c =>
oh (y7 E (y8 E) 0 none true 17 [c] h) fun e h1 =>
cnd e
 (ob (evFa 1 a) fun d =>
ob (evLd false 1 d h1) fun b =>
(yd h1 b))
 ((y1og h1))
def yk0 (s : St) : OX := y1i3 (s 1) s.h
theorem y25d : T0 y1ue [.t 2] yk0 := sq y24j fun _ => by kernel_rfl
def ya8 (a c : AV) (h : Heap) : OX :=
cnd c
 (ob (evFa 1 a) fun d =>
ob (evLd false 1 d h) fun b =>
(yd h b))
 ((y1i3 a h))
def y2qc (s : St) : OX := ya8 (s 1) (s 5) s.h
theorem y21r : T1 y1px yk0 (y4 0 yk0 xN) [.t 2] y2qc := fun _ => by kernel_rfl
def y1za (a b : AV) (h : Heap) : OX :=
ob (y6 .eql b (.int .i64 1)) fun p =>
cnd p
 ((ya8 a p h))
 (ob (y6 .eql b (.int .i64 2)) fun n =>
cnd n
 ((ya8 a n h))
 (ob (y6 .eql b (.int .i64 3)) fun g =>
cnd g
 ((ya8 a g h))
 (ob (y6 .eql b (.int .i64 4)) fun j =>
cnd j
 ((ya8 a j h))
 (ob (y6 .eql b (.int .i64 5)) fun r =>
cnd r
 ((ya8 a r h))
 (ob (y6 .eql b (.int .i64 6)) fun d =>
cnd d
 ((ya8 a d h))
 (ob (y6 .eql b (.int .i64 13)) fun l =>
cnd l
 ((ya8 a l h))
 (ob (y6 .eql b (.int .i64 15)) fun k =>
cnd k
 ((ya8 a k h))
 (ob (y6 .eql b (.int .i64 16)) fun m =>
cnd m
 ((ya8 a m h))
 (ob (y6 .eql b (.int .i64 18)) fun o =>
cnd o
 ((ya8 a o h))
 (ob (y6 .eql b (.int .i64 20)) fun i =>
cnd i
 ((ya8 a i h))
 (ob (y6 .eql b (.int .i64 21)) fun c =>
cnd c
 ((ya8 a c h))
 (ob (y6 .eql b (.int .i64 22)) fun e =>
cnd e
 ((ya8 a e h))
 (ob (y6 .eql b (.int .i64 32)) fun t =>
(ya8 a t h))))))))))))))
def y2az (s : St) : OX := y1za (s 1) (s 4) s.h
theorem y226 : T1 y1j2 yk0 (y4 0 yk0 xN) [.t 2] y2az := sq y21r fun _ => by kernel_rfl
theorem y25e : T1 y1tl yk0 xN [.t 2] y2az := fun s => yq.trans (y226 s)
def y1uf (a : AV) (h : Heap) : OX :=
ob (evFa 0 a) fun c =>
ob (evLd false 1 c h) fun b =>
(y1za a b h)
def y2as (s : St) : OX := y1uf (s 1) s.h
theorem y233 : T1 y1pe yk0 xN [.t 2] y2as := sq y25e fun _ => by kernel_rfl
theorem y254 : T0 y1wt [.t 2] y2as := sq y25d y233
def y1i0 (a : AV) (h : Heap) : OX :=
oh (newC 0 (some 0) (cellsOf a) h) fun b h2 =>
(y1uf b h2)
def y2ld (s : St) : OX := y1i0 (s 0) s.h
theorem y271 : T0 y1ig [.t 2] y2ld := sq y254 fun _ => by kernel_rfl
@[simp] theorem y2vd : E.pure 9 = true := rfl
theorem y2ua (a : AV) : (y8 E).p 9 [a] = y1i0 a [⟨0, .dead⟩] :=
  (yr (cf := y2n1) (by kernel_rfl) rfl).trans ((y271 _).trans (by kernel_rfl))
def y1bg (b : AV) (h : Heap) : OX :=
oh (y10 0 (some 0) 1 0 [(.int .i64 0)] [] h) fun a h1 =>
oh (y3a 0 (some 1) 1 8 a b h1) fun c h2 =>
(yd h2 c)
def y2jy (s : St) : OX := y1bg (s 0) s.h
theorem y1k2 : T0 y18w [.t 2] y2jy := fun _ => by kernel_rfl
def y16c (a : AV) (h : Heap) : OX :=
ob (y9g 1 false a AV.nils) fun b =>
cnd b
 ((yd h AV.nils))
 ((y1bg a h))
def y2c5 (s : St) : OX := y16c (s 0) s.h
theorem y1zc : T0 y13s [.t 2] y2c5 := sq y1k2 fun _ => by kernel_rfl
def y15j (a : AV) (h : Heap) : OX :=
(y16c a h)
def y2d6 (s : St) : OX := y15j (s 0) s.h
theorem y1rj : T0 y18j [.t 2] y2d6 := sq y1zc fun _ => by kernel_rfl
@[simp] theorem y2to : E.pure 39 = true := rfl
theorem y2oz (a : AV) : (y8 E).p 39 [a] = y15j a [⟨0, .dead⟩, ⟨0, .dead⟩] :=
  (yr (cf := y29z) (by kernel_rfl) rfl).trans ((y1rj _).trans (by kernel_rfl))
def y18s (b : AV) (h : Heap) : OX :=
oh (y10 0 (some 0) 9 0 [(.int .i64 0), (.int .i64 0), (.int .i64 0), (.int .i64 0), (.int .i64 0), (.int .i64 0), (.int .i64 0), (.str []), .nils] [] h) fun a h1 =>
oh (y3a 0 (some 1) 9 96 a b h1) fun c h2 =>
(yd h2 c)
def y2h3 (s : St) : OX := y18s (s 0) s.h
theorem y1ss : T0 y11d [.t 2] y2h3 := fun _ => by kernel_rfl
def y129 (a : AV) (h : Heap) : OX :=
ob (y9g 1 false a AV.nils) fun b =>
cnd b
 ((yd h AV.nils))
 ((y18s a h))
def y2ga (s : St) : OX := y129 (s 0) s.h
theorem y1lo : T0 y1ar [.t 2] y2ga := sq y1ss fun _ => by kernel_rfl
def y180 (a : AV) (h : Heap) : OX :=
(y129 a h)
def y2ef (s : St) : OX := y180 (s 0) s.h
theorem y1p6 : T0 y19t [.t 2] y2ef := sq y1lo fun _ => by kernel_rfl
@[simp] theorem y2tm : E.pure 40 = true := rfl
theorem y2ky (a : AV) : (y8 E).p 40 [a] = y180 a [⟨0, .dead⟩, ⟨0, .dead⟩] :=
  (yr (cf := y2b3) (by kernel_rfl) rfl).trans ((y1p6 _).trans (by kernel_rfl))
def y1bi (b : AV) (h : Heap) : OX :=
oh (y10 0 (some 0) 4 0 [(.int .i64 0), (.int .i64 0), (.int .i64 0), (.str [])] [] h) fun a h1 =>
oh (y3a 0 (some 1) 4 40 a b h1) fun c h2 =>
(yd h2 c)
def y2ib (s : St) : OX := y1bi (s 0) s.h
theorem y1ky : T0 y15d [.t 2] y2ib := fun _ => by kernel_rfl
def y19n (a : AV) (h : Heap) : OX :=
ob (y9g 1 false a AV.nils) fun b =>
cnd b
 ((yd h AV.nils))
 ((y1bi a h))
def y2dz (s : St) : OX := y19n (s 0) s.h
theorem y20g : T0 y16i [.t 2] y2dz := sq y1ky fun _ => by kernel_rfl
def y13a (a : AV) (h : Heap) : OX :=
(y19n a h)
def y2jo (s : St) : OX := y13a (s 0) s.h
theorem y1lv : T0 y18o [.t 2] y2jo := sq y20g fun _ => by kernel_rfl
@[simp] theorem y2ui : E.pure 41 = true := rfl
theorem y2l1 (a : AV) : (y8 E).p 41 [a] = y13a a [⟨0, .dead⟩, ⟨0, .dead⟩] :=
  (yr (cf := y2a9) (by kernel_rfl) rfl).trans ((y1lv _).trans (by kernel_rfl))
def yir (h : Heap) : OX :=
(yd h (.bool true))
def y76 (s : St) : OX := yir s.h
theorem y1xs : T0 y14c [.t 4] y76 := fun _ => by kernel_rfl
def yf5 (b c a : AV) (h : Heap) : OX :=
  W E 0 yiz ⟨[(0, b), (1, c), (5, a)], h⟩ y76 (y4 0 y76 xN) (finP [.t 4])
def ybr (s : St) : OX := yf5 (s 0) (s 1) (s 5) s.h
theorem ymw : T1 yiz y76 (y4 0 y76 xN) [.t 4] ybr := fun s => yf.trans (by kernel_rfl)
def yjw (c d b : AV) (h : Heap) : OX :=
ob (y6 .add b (.int .i64 1)) fun a =>
(yf5 c d a h)
def y2f2 (s : St) : OX := yjw (s 0) (s 1) (s 5) s.h
theorem y1zp : T1 y11e ybr (y4 0 y76 xN) [.t 4] y2f2 := fun _ => by kernel_rfl
def ylj (b c a : AV) (h : Heap) : OX :=
ob (yn 1 b a) fun g =>
ob (evLd false 1 g h) fun e =>
ob (yn 1 c a) fun j =>
ob (evLd false 1 j h) fun i =>
ob (y6 .neq e i) fun d =>
cnd d
 ((yd h (.bool false)))
 ((yjw b c a h))
def y2j1 (s : St) : OX := ylj (s 0) (s 1) (s 5) s.h
theorem y1m0 : T1 y15n ybr (y4 0 y76 xN) [.t 4] y2j1 := sq y1zp fun _ => by kernel_rfl
def yjc (b e a : AV) (h : Heap) : OX :=
ob (yv 1 b h) fun c =>
ob (y6 .lss a c) fun d =>
cnd d
 ((ylj b e a h))
 ((yir h))
def y2eo (s : St) : OX := yjc (s 0) (s 1) (s 5) s.h
theorem y1qb : T1 y0o ybr (y4 0 y76 xN) [.t 4] y2eo := sq y1m0 fun _ => by kernel_rfl
theorem yoc (b c a : AV) (h : Heap) : yf5 b c a h = (yjc b c a h) :=
  y1o.trans ((y14 _ _ _ (n' := ybr) (fun s => ymw s)).trans ((y1qb _).trans (by kernel_rfl)))
theorem y1y5 : T1 y15w y76 xN [.t 4] ybr := fun s => yq.trans (ymw s)
def yjd (a b : AV) (h : Heap) : OX :=
(yf5 a b (.int .i64 0) h)
def y1tp (s : St) : OX := yjd (s 0) (s 1) s.h
theorem y1rd : T1 y1ah y76 xN [.t 4] y1tp := sq y1y5 fun _ => by kernel_rfl
theorem y1o9 : T0 y14m [.t 4] y1tp := sq y1xs y1rd
def yio (a b : AV) (h : Heap) : OX :=
ob (yv 1 a h) fun d =>
ob (yv 1 b h) fun c =>
ob (y6 .neq d c) fun e =>
cnd e
 ((yd h (.bool false)))
 ((yjd a b h))
def y2hi (s : St) : OX := yio (s 0) (s 1) s.h
theorem y1tu : T0 y1bs [.t 4] y2hi := sq y1o9 fun _ => by kernel_rfl
def ycv (a b : AV) (h : Heap) : OX :=
(yio a b h)
def y24r (s : St) : OX := ycv (s 0) (s 1) s.h
theorem y1g6 : T0 yus [.t 4] y24r := sq y1tu fun _ => by kernel_rfl
@[simp] theorem y2v4 : E.pure 11 = true := rfl
theorem y2m1 (a b : AV) : (y8 E).p 11 [a, b] = ycv a b [] :=
  (yr (cf := y2b8) (by kernel_rfl) rfl).trans ((y1g6 _).trans (by kernel_rfl))
def yb3 (C b0 : AV) (h : Heap) : OX :=
oh (newC 0 (some 0) (cellsOf C) h) fun a h1 =>
oh (newC 0 (some 1) (cellsOf b0) h1) fun b h2 =>
ob (evFa 0 a) fun B =>
ob (evLd false 1 B h2) fun K =>
ob (evFa 0 b) fun v =>
ob (evLd false 1 v h2) fun n =>
ob (y6 .eql K n) fun c =>
gb c true (evFa 1 a) fun a0 =>
gb c true (evLd false 1 a0 h2) fun J =>
gb c true (evFa 1 b) fun a7 =>
gb c true (evLd false 1 a7 h2) fun H =>
gb c true (y6 .eql J H) fun X =>
ob (yb c X (.bool false)) fun j =>
gb j true (evFa 2 a) fun N =>
gb j true (evLd false 1 N h2) fun w =>
gb j true (evFa 2 b) fun S =>
gb j true (evLd false 1 S h2) fun G =>
gb j true (y6 .eql w G) fun R =>
ob (yb j R (.bool false)) fun k =>
gb k true (evFa 3 a) fun D =>
gb k true (evLd false 1 D h2) fun y =>
gb k true (evFa 3 b) fun a5 =>
gb k true (evLd false 1 a5 h2) fun z =>
gb k true (y6 .eql y z) fun F =>
ob (yb k F (.bool false)) fun e =>
gb e true (evFa 4 a) fun V =>
gb e true (evLd false 1 V h2) fun Z =>
gb e true (evFa 4 b) fun I =>
gb e true (evLd false 1 I h2) fun a8 =>
gb e true (y6 .eql Z a8) fun x =>
ob (yb e x (.bool false)) fun i =>
gb i true (evFa 5 a) fun p =>
gb i true (evLd false 1 p h2) fun r =>
gb i true (evFa 5 b) fun b1 =>
gb i true (evLd false 1 b1 h2) fun a1 =>
gb i true (y6 .eql r a1) fun a4 =>
ob (yb i a4 (.bool false)) fun d =>
gb d true (evFa 6 a) fun t =>
gb d true (evLd false 1 t h2) fun U =>
gb d true (evFa 6 b) fun Y =>
gb d true (evLd false 1 Y h2) fun M =>
gb d true (y6 .eql U M) fun o =>
ob (yb d o (.bool false)) fun l =>
gb l true (evFa 7 a) fun A =>
gb l true (evLd false 1 A h2) fun a2 =>
gb l true (evFa 7 b) fun P =>
gb l true (evLd false 1 P h2) fun m =>
gb l true (y6 .eql a2 m) fun u =>
ob (yb l u (.bool false)) fun g =>
gb g true (evFa 8 a) fun a9 =>
gb g true (evLd false 1 a9 h2) fun L =>
gb g true (evFa 8 b) fun a6 =>
gb g true (evLd false 1 a6 h2) fun Q =>
gh g true (y7 E (y8 E) 0 none true 11 [L, Q] h2) h2 fun O h3 =>
ob (yb g O (.bool false)) fun a3 =>
(yd h3 a3)
def y2ec (s : St) : OX := yb3 (s 0) (s 1) s.h
theorem y1yi : T0 y17y [.t 4] y2ec := fun _ => by kernel_rfl
@[simp] theorem y2um : E.pure 28 = true := rfl
theorem y2pi (a b : AV) : (y8 E).p 28 [a, b] = yb3 a b [⟨0, .dead⟩, ⟨0, .dead⟩] :=
  (yr (cf := y29d) (by kernel_rfl) rfl).trans ((y1yi _).trans (by kernel_rfl))
def y2gc (e : AV) (h : Heap) : OX :=
oh (newC 0 (some 0) (cellsOf e) h) fun c h1 =>
ob (evFa 0 c) fun l =>
ob (evLd false 1 l h1) fun o =>
ob (y6 .eql o (.int .i64 27)) fun a =>
gb a false (evFa 0 c) fun m =>
gb a false (evLd false 1 m h1) fun d =>
gb a false (y6 .eql d (.int .i64 30)) fun g =>
ob (yb a (.bool true) g) fun b =>
gb b false (evFa 0 c) fun n =>
gb b false (evLd false 1 n h1) fun i =>
gb b false (y6 .eql i (.int .i64 31)) fun j =>
ob (yb b (.bool true) j) fun k =>
(yd h1 k)
def y2mi (s : St) : OX := y2gc (s 0) s.h
theorem y20l : T0 y1sp [.t 2] y2mi := fun _ => by kernel_rfl
@[simp] theorem y2tf : E.pure 24 = true := rfl
theorem y2t3 (a : AV) : (y8 E).p 24 [a] = y2gc a [⟨0, .dead⟩] :=
  (yr (cf := y2pj) (by kernel_rfl) rfl).trans ((y20l _).trans (by kernel_rfl))
def y150 (b d : AV) (h : Heap) : OX :=
oh (y7 E (y8 E) 0 none true 45 [b, d] h) fun c h1 =>
ob (y6 .geq c (.int .i64 0)) fun a =>
(yd h1 a)
def y2h4 (s : St) : OX := y150 (s 0) (s 1) s.h
theorem y1w4 : T0 y17g [.t 4] y2h4 := fun _ => by kernel_rfl
@[simp] theorem y2ti : E.pure 46 = true := rfl
theorem y2li (a b : AV) : (y8 E).p 46 [a, b] = y150 a b [] :=
  (yr (cf := y2b2) (by kernel_rfl) rfl).trans ((y1w4 _).trans (by kernel_rfl))
def y1xd (m c : AV) (h : Heap) : OX :=
ob (evLd true 9 c h) fun o =>
oh (y7 E (y8 E) 0 none true 22 [o] h) fun t h1 =>
ob (evUn .not t) fun b =>
gb b false (evFa 6 c) fun e =>
gb b false (evLd false 1 e h1) fun j =>
gb b false (y6 .geq j (.int .i64 0)) fun k =>
gb b false (some k) fun a =>
gb a true (evFa 6 c) fun d =>
gb a true (evLd false 1 d h1) fun l =>
gb a true (evFa 3 m) fun r =>
gb a true (evLd false 1 r h1) fun n =>
gb a true (yv 1 n h1) fun i =>
gb a true (y6 .lss l i) fun p =>
gb b false (yb a p (.bool false)) fun g =>
ob (yb b (.bool true) g) fun u =>
(yd h1 u)
def y2og (s : St) : OX := y1xd (s 2) (s 3) s.h
theorem y24p : T0 y1je [.t 4] y2og := fun _ => by kernel_rfl
def ya7 (d a : AV) (h : Heap) : OX :=
ob (evFa 0 a) fun b8 =>
ob (evLd false 1 b8 h) fun i =>
ob (y6 .eql i (.int .i64 1)) fun k =>
cnd k
 (ob (evFa 0 d) fun c4 =>
ob (evLd false 1 c4 h) fun P =>
ob (evFa 1 a) fun D =>
ob (evLd false 1 D h) fun H =>
ob (yn 1 P H) fun V =>
ob (evLd false 1 V h) fun o =>
ob (y6 .neq o (.int .i64 3)) fun b =>
gb b true (evFa 0 d) fun M =>
gb b true (evLd false 1 M h) fun r =>
gb b true (evFa 1 a) fun a0 =>
gb b true (evLd false 1 a0 h) fun O =>
gb b true (yn 1 r O) fun R =>
gb b true (evLd false 1 R h) fun z =>
gb b true (y6 .eql z (.int .i64 2)) fun a1 =>
gb b true (some a1) fun e =>
gb e false (evFa 5 a) fun L =>
gb e false (evLd false 1 L h) fun a5 =>
gb e false (evFa 5 a) fun a7 =>
gb e false (evLd false 1 a7 h) fun A =>
gb e false (y1dr .i32 A) fun b2 =>
gb e false (y1dr .i64 b2) fun Q =>
gb e false (y6 .eql a5 Q) fun c6 =>
gb b true (yb e (.bool true) c6) fun X =>
ob (yb b X (.bool false)) fun Y =>
(yd h Y))
 (ob (y6 .eql i (.int .i64 4)) fun c0 =>
cnd c0
 (ob (evFa 0 d) fun n =>
ob (evLd false 1 n h) fun b9 =>
ob (evFa 1 a) fun c7 =>
ob (evLd false 1 c7 h) fun p =>
ob (yn 1 b9 p) fun S =>
ob (evLd false 1 S h) fun B =>
ob (evFa 0 d) fun l =>
ob (evLd false 1 l h) fun Z =>
ob (evFa 2 a) fun G =>
ob (evLd false 1 G h) fun t =>
ob (yn 1 Z t) fun C =>
ob (evLd false 1 C h) fun I =>
ob (y6 .eql B I) fun j =>
(yd h j))
 (ob (y6 .eql i (.int .i64 7)) fun a9 =>
cnd a9
 (ob (evFa 0 d) fun a4 =>
ob (evLd false 1 a4 h) fun b6 =>
ob (evFa 2 a) fun c3 =>
ob (evLd false 1 c3 h) fun J =>
ob (yn 1 b6 J) fun a6 =>
ob (evLd false 1 a6 h) fun N =>
ob (y6 .neq N (.int .i64 3)) fun v =>
(yd h v))
 (ob (y6 .eql i (.int .i64 30)) fun b3 =>
cnd b3
 (ob (evFa 2 a) fun b5 =>
ob (evLd false 1 b5 h) fun c5 =>
ob (y6 .eql c5 (.int .i64 (-1))) fun u =>
ob (evFa 2 d) fun a8 =>
ob (evLd false 1 a8 h) fun b4 =>
ob (y6 .eql b4 (.int .i64 0)) fun F =>
ob (y28o false u F) fun g =>
gb g true (evFa 2 a) fun b0 =>
gb g true (evLd false 1 b0 h) fun U =>
gb g true (y6 .eql U (.int .i64 (-1))) fun K =>
gb g true (some K) fun c =>
gb c false (evFa 0 d) fun b1 =>
gb c false (evLd false 1 b1 h) fun w =>
gb c false (evFa 2 a) fun a2 =>
gb c false (evLd false 1 a2 h) fun m =>
gb c false (yn 1 w m) fun x =>
gb c false (evLd false 1 x h) fun y =>
gb c false (evFa 2 d) fun a3 =>
gb c false (evLd false 1 a3 h) fun b7 =>
gb c false (y6 .eql y b7) fun c8 =>
gb g true (yb c (.bool true) c8) fun c2 =>
ob (yb g c2 (.bool false)) fun c1 =>
(yd h c1))
 ((y1xd d a h)))))
def y6p (s : St) : OX := ya7 (s 2) (s 3) s.h
theorem y26b : T0 y1tg [.t 4] y6p := sq y24p fun _ => by kernel_rfl
def yk9 (d e c a b : AV) (h : Heap) : OX :=
  W E 0 ypo ⟨[(2, d), (3, e), (63, c), (64, a), (65, b)], h⟩ y6p (y4 2 y6p xN) (finP [.t 4])
def ydi (s : St) : OX := yk9 (s 2) (s 3) (s 63) (s 64) (s 65) s.h
theorem yui : T1 ypo y6p (y4 2 y6p xN) [.t 4] ydi := fun s => yf.trans (by kernel_rfl)
def y1j4 (d g c a b : AV) (h : Heap) : OX :=
ob (y6 .add b (.int .i64 1)) fun e =>
(yk9 d g c a e h)
def ygv (s : St) : OX := y1j4 (s 2) (s 3) (s 63) (s 64) (s 65) s.h
theorem y22m : T1 y1ni ydi (y4 2 y6p xN) [.t 4] ygv := fun _ => by kernel_rfl
def ykf (g i t j D w K : AV) (h : Heap) : OX :=
ob (y6 .lss j (.int .i64 0)) fun c =>
gb c false (some j) fun x =>
gb c false (evFa 0 g) fun k =>
gb c false (evLd false 1 k h) fun n =>
gb c false (yv 1 n h) fun l =>
gb c false (y6 .geq x l) fun G =>
ob (yb c (.bool true) G) fun b =>
gb b false (some t) fun r =>
gb b false (y6 .eql r (.int .i64 0)) fun F =>
gb b false (some F) fun d =>
gb d true (evFa 0 i) fun o =>
gb d true (evLd false 1 o h) fun m =>
gb d true (y6 .eql m (.int .i64 24)) fun y =>
gb d true (some y) fun e =>
gb e false (evFa 0 i) fun L =>
gb e false (evLd false 1 L h) fun M =>
gb e false (y6 .eql M (.int .i64 25)) fun v =>
gb d true (yb e (.bool true) v) fun I =>
gb b false (yb d I (.bool false)) fun H =>
gb b false (some H) fun a =>
gb a true (evFa 0 g) fun p =>
gb a true (evLd false 1 p h) fun B =>
gb a true (some j) fun J =>
gb a true (yn 1 B J) fun A =>
gb a true (evLd false 1 A h) fun N =>
gb a true (y6 .neq N (.int .i64 3)) fun u =>
gb b false (yb a u (.bool false)) fun C =>
ob (yb b (.bool true) C) fun z =>
cnd z
 ((yd h (.bool false)))
 ((y1j4 g i D w K h))
def y2mt (s : St) : OX := ykf (s 2) (s 3) (s 9) (s 10) (s 63) (s 64) (s 65) s.h
theorem y21s : T1 y207 ygv (y4 3 ygv (y4 2 y6p xN)) [.t 4] y2mt := fun _ => by kernel_rfl
def y1oc (b a i l g c d : AV) (h : Heap) : OX :=
ob (evLd true 9 a h) fun e =>
oh (y7 E (y8 E) 0 none true 17 [e] h) fun k h2 =>
ob (evUn .not k) fun j =>
cnd j
 ((ya7 b a h2))
 ((ykf b a i l g c d h2))
def y2lv (s : St) : OX := y1oc (s 2) (s 3) (s 9) (s 10) (s 63) (s 64) (s 65) s.h
theorem y21x : T1 y1td ygv (y4 3 ygv (y4 2 y6p xN)) [.t 4] y2lv := sq y21s fun _ => by kernel_rfl
def y1rl (d g b c a : AV) (h : Heap) : OX :=
ob (yn 1 b a) fun e =>
ob (evLd false 1 e h) fun i =>
(y1oc d g a i b c a h)
def y1t5 (s : St) : OX := y1rl (s 2) (s 3) (s 63) (s 64) (s 65) s.h
theorem y24x : T1 y1xu ygv (y4 3 ygv (y4 2 y6p xN)) [.t 4] y1t5 := sq y21x fun _ => by kernel_rfl
theorem y23e : T1 y1s9 ygv (y4 2 y6p xN) [.t 4] y1t5 := fun s => yq.trans (y24x s)
theorem y293 : T1 y1xe ydi (y4 2 y6p xN) [.t 4] y1t5 := sq y22m y23e
def yis (a b g c e d : AV) (h : Heap) : OX :=
cnd d
 ((y1rl a b g c e h))
 ((ya7 a b h))
def y2f6 (s : St) : OX := yis (s 2) (s 3) (s 63) (s 64) (s 65) (s 66) s.h
theorem y1sv : T1 y1b1 ydi (y4 2 y6p xN) [.t 4] y2f6 := sq y293 fun _ => by kernel_rfl
def yjl (e g d a b : AV) (h : Heap) : OX :=
ob (y6 .lss b a) fun c =>
(yis e g d a b c h)
def y2cu (s : St) : OX := yjl (s 2) (s 3) (s 63) (s 64) (s 65) s.h
theorem y1s3 : T1 y173 ydi (y4 2 y6p xN) [.t 4] y2cu := sq y1sv fun _ => by kernel_rfl
theorem ykm (d e c a b : AV) (h : Heap) : yk9 d e c a b h = (yjl d e c a b h) :=
  y1o.trans ((y14 _ _ _ (n' := ydi) (fun s => yui s)).trans ((y1s3 _).trans (by kernel_rfl)))
theorem y1oe : T1 y1b6 y6p xN [.t 4] ydi := fun s => yq.trans (yui s)
def yw4 (d b : AV) (h : Heap) : OX :=
ob (evFa 8 b) fun e =>
ob (evLd false 1 e h) fun a =>
ob (yv 1 a h) fun c =>
(yk9 d b a c (.int .i64 0) h)
def y3z (s : St) : OX := yw4 (s 2) (s 3) s.h
theorem y1v8 : T1 y11g y6p xN [.t 4] y3z := sq y1oe fun _ => by kernel_rfl
theorem y1t6 : T0 y1a1 [.t 4] y3z := sq y26b y1v8
def yd8 (c d a e b : AV) (h : Heap) : OX :=
  W E 0 ykg ⟨[(2, c), (3, d), (5, a), (26, e), (27, b)], h⟩ y3z (y4 0 y3z xN) (finP [.t 4])
def y8q (s : St) : OX := yd8 (s 2) (s 3) (s 5) (s 26) (s 27) s.h
theorem yml : T1 ykg y3z (y4 0 y3z xN) [.t 4] y8q := fun s => yf.trans (by kernel_rfl)
def yxx (c d a e b : AV) (h : Heap) : OX :=
ob (y6 .add b (.int .i64 1)) fun g =>
(yd8 c d a e g h)
def yak (s : St) : OX := yxx (s 2) (s 3) (s 5) (s 26) (s 27) s.h
theorem y1zw : T1 y14s y8q (y4 0 y3z xN) [.t 4] yak := fun _ => by kernel_rfl
def yj7 (g u e i d r D : AV) (h : Heap) : OX :=
ob (y6 .lss d (.int .i64 0)) fun c =>
gb c false (some d) fun x =>
gb c false (evFa 0 g) fun m =>
gb c false (evLd false 1 m h) fun n =>
gb c false (yv 1 n h) fun H =>
gb c false (y6 .geq x H) fun B =>
ob (yb c (.bool true) B) fun b =>
gb b false (some i) fun j =>
gb b false (yqr 4 1 e j) fun o =>
gb b false (evLd false 1 o h) fun z =>
gb b false (y6 .gtr z (.int .i64 0)) fun A =>
gb b false (some A) fun a =>
gb a true (evFa 0 g) fun l =>
gb a true (evLd false 1 l h) fun I =>
gb a true (some d) fun F =>
gb a true (yn 1 I F) fun t =>
gb a true (evLd false 1 t h) fun C =>
gb a true (some i) fun w =>
gb a true (yqr 4 1 e w) fun k =>
gb a true (evLd false 1 k h) fun p =>
gb a true (y6 .neq C p) fun v =>
gb b false (yb a v (.bool false)) fun y =>
ob (yb b (.bool true) y) fun G =>
cnd G
 ((yd h (.bool false)))
 ((yxx g u e r D h))
def y2co (s : St) : OX := yj7 (s 2) (s 3) (s 5) (s 7) (s 8) (s 26) (s 27) s.h
theorem y1q7 : T1 y15a yak (y4 1 yak (y4 0 y3z xN)) [.t 4] y2co := fun _ => by kernel_rfl
def ydj (b d a e i g c : AV) (h : Heap) : OX :=
ob (yqr 4 1 a e) fun k =>
ob (evLd false 1 k h) fun l =>
ob (y6 .lss l (.int .i64 0)) fun j =>
cnd j
 ((yxx b d a g c h))
 ((yj7 b d a e i g c h))
def y2ja (s : St) : OX := ydj (s 2) (s 3) (s 5) (s 7) (s 8) (s 26) (s 27) s.h
theorem y1pk : T1 y1bp yak (y4 1 yak (y4 0 y3z xN)) [.t 4] y2ja := sq y1q7 fun _ => by kernel_rfl
def y1m2 (e g d b a : AV) (h : Heap) : OX :=
ob (yq0 false 4 1 b a) fun c =>
(ydj e g d a c b a h)
def yzs (s : St) : OX := y1m2 (s 2) (s 3) (s 5) (s 26) (s 27) s.h
theorem y1y9 : T1 y19r yak (y4 1 yak (y4 0 y3z xN)) [.t 4] yzs := sq y1pk fun _ => by kernel_rfl
theorem y1r9 : T1 y1av yak (y4 0 y3z xN) [.t 4] yzs := fun s => yq.trans (y1y9 s)
theorem y1pb : T1 y11r y8q (y4 0 y3z xN) [.t 4] yzs := sq y1zw y1r9
def y144 (a b c e d g : AV) (h : Heap) : OX :=
cnd g
 ((y1m2 a b c e d h))
 ((yw4 a b h))
def y2ch (s : St) : OX := y144 (s 2) (s 3) (s 5) (s 26) (s 27) (s 28) s.h
theorem y1ux : T1 y19f y8q (y4 0 y3z xN) [.t 4] y2ch := sq y1pb fun _ => by kernel_rfl
def y17o (c d b e a : AV) (h : Heap) : OX :=
ob (y6 .lss a (.int .i64 4)) fun g =>
(y144 c d b e a g h)
def y2h1 (s : St) : OX := y17o (s 2) (s 3) (s 5) (s 26) (s 27) s.h
theorem y1rg : T1 y139 y8q (y4 0 y3z xN) [.t 4] y2h1 := sq y1ux fun _ => by kernel_rfl
theorem ynb (c d a e b : AV) (h : Heap) : yd8 c d a e b h = (y17o c d a e b h) :=
  y1o.trans ((y14 _ _ _ (n' := y8q) (fun s => yml s)).trans ((y1rg _).trans (by kernel_rfl)))
theorem y1o1 : T1 y13w y3z xN [.t 4] y8q := fun s => yq.trans (yml s)
def y1jh (d a c : AV) (h : Heap) : OX :=
ob (evFa 1 a) fun b =>
ob (evLd false 1 b h) fun k =>
ob (evFa 2 a) fun i =>
ob (evLd false 1 i h) fun j =>
ob (evFa 3 a) fun e =>
ob (evLd false 1 e h) fun n =>
ob (evFa 4 a) fun l =>
ob (evLd false 1 l h) fun g =>
ob (yx [(.int .i64 0), (.int .i64 0), (.int .i64 0), (.int .i64 0)] [(0, 1, k), (1, 1, j), (2, 1, n), (3, 1, g)]) fun m =>
(yd8 d a c m (.int .i64 0) h)
def y1ix (s : St) : OX := y1jh (s 2) (s 3) (s 5) s.h
theorem y1pn : T1 y160 y3z xN [.t 4] y1ix := sq y1o1 fun _ => by kernel_rfl
theorem y1vm : T0 y13o [.t 4] y1ix := sq y1t6 y1pn
def y13q (b d a c : AV) (h : Heap) : OX :=
ob (evUn .not c) fun e =>
cnd e
 ((yd h (.bool false)))
 ((y1jh b d a h))
def y2dj (s : St) : OX := y13q (s 2) (s 3) (s 5) (s 6) s.h
theorem y1pd : T0 y1br [.t 4] y2dj := sq y1vm fun _ => by kernel_rfl
def y195 (d c : AV) (h : Heap) : OX :=
ob (evLd true 9 c h) fun i =>
oh (y7 E (y8 E) 0 none true 47 [i] h) fun b h3 =>
ob (y3x 0 b) fun e =>
ob (y3x 1 b) fun g =>
oh (newC 0 (some 2) [(.int .i64 0), (.int .i64 0), (.int .i64 0), (.int .i64 0)] h3) fun a h4 =>
oh (evSt 4 a e h4) fun _ h5 =>
(y13q d c a g h5)
def y2ep (s : St) : OX := y195 (s 2) (s 3) s.h
theorem y1k1 : T0 y0y [.t 4] y2ep := sq y1pd fun _ => by kernel_rfl
def yuh (a d : AV) (h : Heap) : OX :=
oh (newC 0 (some 0) (cellsOf a) h) fun b h6 =>
oh (newC 0 (some 1) (cellsOf d) h6) fun c h7 =>
(y195 b c h7)
def y2gh (s : St) : OX := yuh (s 0) (s 1) s.h
theorem y1rm : T0 y1af [.t 4] y2gh := sq y1k1 fun _ => by kernel_rfl
@[simp] theorem y2tj : E.pure 63 = true := rfl
theorem y2sx (a b : AV) : (y8 E).p 63 [a, b] = yuh a b [⟨0, .dead⟩, ⟨0, .dead⟩, ⟨0, .dead⟩] :=
  (yr (cf := y2ox) (by kernel_rfl) rfl).trans ((y1rm _).trans (by kernel_rfl))
def y2ih (e : AV) (h : Heap) : OX :=
oh (newC 0 (some 0) (cellsOf e) h) fun c h1 =>
ob (evFa 0 c) fun l =>
ob (evLd false 1 l h1) fun o =>
ob (y6 .eql o (.int .i64 27)) fun a =>
gb a false (evFa 0 c) fun m =>
gb a false (evLd false 1 m h1) fun d =>
gb a false (y6 .eql d (.int .i64 28)) fun g =>
ob (yb a (.bool true) g) fun b =>
gb b false (evFa 0 c) fun n =>
gb b false (evLd false 1 n h1) fun i =>
gb b false (y6 .eql i (.int .i64 29)) fun j =>
ob (yb b (.bool true) j) fun k =>
(yd h1 k)
def y2q0 (s : St) : OX := y2ih (s 0) s.h
theorem y235 : T0 y1py [.t 2] y2q0 := fun _ => by kernel_rfl
@[simp] theorem y2v9 : E.pure 22 = true := rfl
theorem y2u2 (a : AV) : (y8 E).p 22 [a] = y2ih a [⟨0, .dead⟩] :=
  (yr (cf := y2no) (by kernel_rfl) rfl).trans ((y235 _).trans (by kernel_rfl))
def y1vp (fb : Nat) (d a : AV) (h : Heap) : Option (AV × Heap) :=
ob (evLd false 1 a h) fun e =>
oh (y10 fb (some 0) 1 1 [(.int .i64 0)] [(0, d)] h) fun b h1 =>
oh (y3a fb (some 1) 1 8 e b h1) fun c h2 =>
oh (evSt 1 a c h2) fun _ h3 =>
(some ((.tup []), h3))
def y7u (fb : Nat) (s : St) : Option (AV × Heap) := y1vp fb (s 0) (s 3) s.h
theorem y222 (fb : Nat) (s : St) : W E fb y1k5 s (finI []) xN (finI []) = y7u fb s :=
  by kernel_rfl
def y2jn (fb : Nat) (a b d g : AV) (h : Heap) : Option (AV × Heap) :=
ob (evLd false 1 b h) fun c =>
ob (yn 1 c a) fun e =>
oh (evSt 1 e g h) fun _ h4 =>
(y1vp fb a d h4)
def y2b5 (fb : Nat) (s : St) : Option (AV × Heap) := y2jn fb (s 0) (s 2) (s 3) (s 6) s.h
theorem y21v (fb : Nat) (s : St) : W E fb y1v6 s (y7u fb) (y4 0 (y7u fb) xN) (finI []) = y2b5 fb s :=
  by kernel_rfl
def y2hk (fb : Nat) (a b k c : AV) (h : Heap) : Option (AV × Heap) :=
ob (yv 2 c h) fun i =>
ob (evLd false 1 b h) fun j =>
ob (yn 1 j a) fun d =>
ob (evLd false 1 d h) fun e =>
ob (yv 2 e h) fun l =>
ob (y6 .eql i l) fun g =>
cnd g
 ((some ((.tup []), h)))
 ((y2jn fb a b k c h))
def y2b0 (fb : Nat) (s : St) : Option (AV × Heap) := y2hk fb (s 0) (s 2) (s 3) (s 6) s.h
theorem y28m (fb : Nat) (s : St) : W E fb y1wv s (y7u fb) (y4 0 (y7u fb) xN) (finI []) = y2b0 fb s :=
  (y1s4 (k := (y2b5 fb)) (fun s => y21v fb s)).trans (by kernel_rfl)
def y2ij (fb : Nat) (a g b e : AV) (h : Heap) : Option (AV × Heap) :=
ob (evLd false 1 b h) fun d =>
ob (yn 1 d a) fun c =>
ob (evLd false 1 c h) fun j =>
oh (y7 E (y8 E) fb none true 170 [j, g] h) fun i h5 =>
(y2hk fb a b e i h5)
def y2n8 (fb : Nat) (s : St) : Option (AV × Heap) := y2ij fb (s 0) (s 1) (s 2) (s 3) s.h
theorem y223 (fb : Nat) (s : St) : W E fb y1z4 s (y7u fb) (y4 0 (y7u fb) xN) (finI []) = y2n8 fb s :=
  (y1s4 (k := (y2b0 fb)) (fun s => y28m fb s)).trans (by kernel_rfl)
def y210 (fb : Nat) (a c b e g : AV) (h : Heap) : Option (AV × Heap) :=
cnd g
 (ob (evLd false 1 b h) fun j =>
ofp (y2m E (y8 E) fb none true 161 [c] h) fun f3 =>
oh (y7 E (y8 E) fb none true 161 [c] h) fun i h6 =>
ob (yn 1 j a) fun d =>
oh (evSt 1 d i h6) fun _ h7 =>
okK (ye [(ids1 b, []), ([], []), ([], []), f3, ([], []), ([], ids1 d)] [(0, 3)]) <|
(y1vp fb a e h7))
 ((y2ij fb a c b e h))
def y2b9 (fb : Nat) (s : St) : Option (AV × Heap) := y210 fb (s 0) (s 1) (s 2) (s 3) (s 25) s.h
theorem y21y (fb : Nat) (s : St) : W E fb y1xr s (y7u fb) (y4 0 (y7u fb) xN) (finI []) = y2b9 fb s :=
  (y1e rfl (y223 fb s)).trans (by kernel_rfl)
def y25l (fb : Nat) (a g b e : AV) (h : Heap) : Option (AV × Heap) :=
ob (evLd false 1 b h) fun i =>
ob (yn 1 i a) fun j =>
ob (evLd false 1 j h) fun d =>
ob (y9g 2 false d AV.nilm) fun c =>
(y210 fb a g b e c h)
def y20e (fb : Nat) (s : St) : Option (AV × Heap) := y25l fb (s 0) (s 1) (s 2) (s 3) s.h
theorem y27u (fb : Nat) (s : St) : W E fb y1rc s (y7u fb) (y4 0 (y7u fb) xN) (finI []) = y20e fb s :=
  (y1s4 (k := (y2b9 fb)) (fun s => y21y fb s)).trans (by kernel_rfl)
theorem y28a (fb : Nat) (s : St) : W E fb y201 s (y7u fb) xN (finI []) = y20e fb s :=
  yq.trans (y27u fb s)
theorem y259 (fb : Nat) (s : St) : W E fb y1tw s (finI []) xN (finI []) = y20e fb s :=
  (y1s4 (k := (y7u fb)) (fun s => y222 fb s)).trans (y28a fb s)
@[simp] theorem y2qu : E.pure 167 = false := rfl
theorem y2ux (fb : Nat) (a d b c : AV) (h : Heap) : (y8 E).i 167 [a, d, b, c] fb h = y25l fb a d b c (if fb = h.length then h ++ y17 2 else h) :=
  (y2i0 (cf := y2pp) (by kernel_rfl) rfl).trans ((y259 fb _).trans (by kernel_rfl))
def y22q (a : AV) (h : Heap) : OX :=
(yd h a)
def y1ib (s : St) : OX := y22q (s 5) s.h
theorem y21n : T0 y1lt [.t 4] y1ib := fun _ => by kernel_rfl
def y28r (g d a : AV) (h : Heap) : Option Heap :=
ob (evLd true 3 a h) fun e =>
ob (y6a true [0, 0, 0] (.bool false) false g e h) fun c =>
cnd c
 (ob (evLd true 3 a h) fun b =>
oh (y6l true [0, 0, 0] d b (.bool true) h) fun _ h1 =>
(some (killAll 0 [1] h1)))
 ((some (killAll 0 [1] h)))
def y2ms (s : St) : Option Heap := y28r (s 1) (s 5) (s 6) s.h
theorem y281 (s : St) : W E 0 y1x0 s (fun s3 => some (killAll 0 [1] s3.h)) xN (fun _ => none) = y2ms s :=
  by kernel_rfl
def y2fr (c e a : AV) (h : Heap) : OX :=
orm c (fun q h2 =>
ob (y3x 0 (AV.tup [q.1, q.2])) fun d =>
oh (newC 0 (some 1) [(.int .i64 0), (.int .i64 0), (.int .i64 0)] h2) fun b h4 =>
oh (evSt 3 b d h4) fun _ h5 =>
(y28r e a b h5)) h fun h3 =>
(y22q a h3)
def y2bb (s : St) : OX := y2fr (s 0) (s 1) (s 5) s.h
theorem y22s : T1 y1pw y1ib xN [.t 4] y2bb := fun s => (yi5 (nk := y1ib) (fun s2 => y281 s2) (fun _ => rfl)).trans (by kernel_rfl)
theorem y22t : T0 y1lz [.t 4] y2bb := sq y21n y22s
def y2it (a c : AV) (h : Heap) : OX :=
oh (mkmC 0 (some 0) h) fun b h6 =>
(y2fr a c b h6)
def y2q2 (s : St) : OX := y2it (s 0) (s 1) s.h
theorem y28n : T0 y1sh [.t 4] y2q2 := sq y22t fun _ => by kernel_rfl
def y2hq (a b : AV) (h : Heap) : OX :=
(y2it a b h)
def y2q7 (s : St) : OX := y2hq (s 0) (s 1) s.h
theorem y25n : T0 y1ql [.t 4] y2q7 := sq y28n fun _ => by kernel_rfl
@[simp] theorem y2r2 : E.pure 170 = true := rfl
theorem y2sc (a b : AV) : (y8 E).p 170 [a, b] = y2hq a b [⟨0, .dead⟩, ⟨0, .dead⟩] :=
  (yr (cf := y2oo) (by kernel_rfl) rfl).trans ((y25n _).trans (by kernel_rfl))
def y1o3 (a : AV) (h : Heap) : OX :=
(yd h a)
def y5v (s : St) : OX := y1o3 (s 5) s.h
theorem y26u : T0 y1sc [.t 4] y5v := fun _ => by kernel_rfl
def yru (d a c e b : AV) (h : Heap) : OX :=
  W E 0 yq2 ⟨[(1, d), (5, a), (27, c), (28, e), (29, b)], h⟩ y5v (y4 0 y5v xN) (finP [.t 4])
def ydh (s : St) : OX := yru (s 1) (s 5) (s 27) (s 28) (s 29) s.h
theorem yv1 : T1 yq2 y5v (y4 0 y5v xN) [.t 4] ydh := fun s => yf.trans (by kernel_rfl)
def y1eq (e b d g c : AV) (h : Heap) : OX :=
ob (y6 .add c (.int .i64 1)) fun a =>
(yru e b d g a h)
def ycm (s : St) : OX := y1eq (s 1) (s 5) (s 27) (s 28) (s 29) s.h
theorem y22l : T1 y1n2 ydh (y4 0 y5v xN) [.t 4] ycm := fun _ => by kernel_rfl
def y1dl (j a i g k e : AV) (h : Heap) : OX :=
ob (evFa 3 i) fun c =>
ob (evLd false 1 c h) fun b =>
ob (y6 .eql b (AV.str [])) fun d =>
cnd d
 ((y1o3 a h))
 ((y1eq j a g k e h))
def y2lo (s : St) : OX := y1dl (s 1) (s 5) (s 7) (s 27) (s 28) (s 29) s.h
theorem y23u : T1 y1ok ycm (y4 1 ycm (y4 0 y5v xN)) [.t 4] y2lo := fun _ => by kernel_rfl
def y21j (e b a d g c : AV) (h : Heap) : OX :=
ob (evFa 2 a) fun n =>
ob (evLd false 1 n h) fun i =>
oh (y7 E (y8 E) 0 none true 46 [b, i] h) fun k h1 =>
ob (evUn .not k) fun l =>
cnd l
 (ob (evFa 2 a) fun o =>
ob (evLd false 1 o h1) fun j =>
oh (y10 0 (some 2) 1 1 [(.int .i64 0)] [(0, j)] h1) fun p h2 =>
oh (y3a 0 (some 3) 1 8 b p h2) fun m h3 =>
(y1dl e m a d g c h3))
 ((y1dl e b a d g c h1))
def y2p3 (s : St) : OX := y21j (s 1) (s 5) (s 7) (s 27) (s 28) (s 29) s.h
theorem y279 : T1 y1vb ycm (y4 1 ycm (y4 0 y5v xN)) [.t 4] y2p3 := sq y23u fun _ => by kernel_rfl
def yyp (b d c g i e : AV) (h : Heap) : OX :=
ob (evFa 0 c) fun p =>
ob (evLd false 1 p h) fun o =>
ob (y6 .lss b o) fun a =>
gb a false (some b) fun k =>
gb a false (evFa 1 c) fun l =>
gb a false (evLd false 1 l h) fun m =>
gb a false (y6 .geq k m) fun n =>
ob (yb a (.bool true) n) fun j =>
cnd j
 ((y1eq b d g i e h))
 ((y21j b d c g i e h))
def y2pc (s : St) : OX := yyp (s 1) (s 5) (s 7) (s 27) (s 28) (s 29) s.h
theorem y27a : T1 y1pv ycm (y4 1 ycm (y4 0 y5v xN)) [.t 4] y2pc := sq y279 fun _ => by kernel_rfl
def y2eu (e d b j a : AV) (h : Heap) : OX :=
ob (yn 4 b a) fun i =>
ob (evLd true 4 i h) fun g =>
oh (newC 0 (some 1) [(.int .i64 0), (.int .i64 0), (.int .i64 0), (.str [])] h) fun c h4 =>
oh (evSt 4 c g h4) fun _ h5 =>
(yyp e d c b j a h5)
def y1s6 (s : St) : OX := y2eu (s 1) (s 5) (s 27) (s 28) (s 29) s.h
theorem y28v : T1 y1kn ycm (y4 1 ycm (y4 0 y5v xN)) [.t 4] y1s6 := sq y27a fun _ => by kernel_rfl
theorem y24a : T1 y1mp ycm (y4 0 y5v xN) [.t 4] y1s6 := fun s => yq.trans (y28v s)
theorem y25z : T1 y1mr ydh (y4 0 y5v xN) [.t 4] y1s6 := sq y22l y24a
def y12k (d a c g b e : AV) (h : Heap) : OX :=
cnd e
 ((y2eu d a c g b h))
 ((y1o3 a h))
def y2dn (s : St) : OX := y12k (s 1) (s 5) (s 27) (s 28) (s 29) (s 30) s.h
theorem y1on : T1 y17u ydh (y4 0 y5v xN) [.t 4] y2dn := sq y25z fun _ => by kernel_rfl
def ys6 (e c d b a : AV) (h : Heap) : OX :=
ob (y6 .lss a b) fun g =>
(y12k e c d b a g h)
def y2gn (s : St) : OX := ys6 (s 1) (s 5) (s 27) (s 28) (s 29) s.h
theorem y1mx : T1 y1a0 ydh (y4 0 y5v xN) [.t 4] y2gn := sq y1on fun _ => by kernel_rfl
theorem yvf (d a c e b : AV) (h : Heap) : yru d a c e b h = (ys6 d a c e b h) :=
  y1o.trans ((y14 _ _ _ (n' := ydh) (fun s => yv1 s)).trans ((y1mx _).trans (by kernel_rfl)))
theorem y1rv : T1 y13l y5v xN [.t 4] ydh := fun s => yq.trans (yv1 s)
def y1n3 (d c b : AV) (h : Heap) : OX :=
ob (evFa 4 c) fun e =>
ob (evLd false 1 e h) fun a =>
ob (yv 1 a h) fun g =>
(yru d b a g (.int .i64 0) h)
def y1yh (s : St) : OX := y1n3 (s 1) (s 2) (s 5) s.h
theorem y1xh : T1 y12r y5v xN [.t 4] y1yh := sq y1rv fun _ => by kernel_rfl
theorem y1pg : T0 y184 [.t 4] y1yh := sq y26u y1xh
def y1uk (b a : AV) (h : Heap) : OX :=
(y1n3 b a AV.nils h)
def y2ft (s : St) : OX := y1uk (s 1) (s 2) s.h
theorem y1z5 : T0 y1c7 [.t 4] y2ft := sq y1pg fun _ => by kernel_rfl
def ymk (c d : AV) (h : Heap) : OX :=
ob (y6 .lss c (.int .i64 0)) fun b =>
gb b false (some c) fun e =>
gb b false (evFa 3 d) fun r =>
gb b false (evLd false 1 r h) fun k =>
gb b false (yv 1 k h) fun m =>
gb b false (y6 .geq e m) fun n =>
ob (yb b (.bool true) n) fun a =>
gb a false (evFa 3 d) fun g =>
gb a false (evLd false 1 g h) fun o =>
gb a false (some c) fun l =>
gb a false (yn 9 o l) fun p =>
gb a false (evLd true 9 p h) fun i =>
gh a false (y7 E (y8 E) 0 none true 18 [i] h) h fun u h6 =>
gb a false (evUn .not u) fun t =>
ob (yb a (.bool true) t) fun j =>
cnd j
 ((yd h6 AV.nils))
 ((y1uk c d h6))
def y2g6 (s : St) : OX := ymk (s 1) (s 2) s.h
theorem y1oz : T0 y1cb [.t 4] y2g6 := sq y1z5 fun _ => by kernel_rfl
def ync (a c : AV) (h : Heap) : OX :=
oh (newC 0 (some 0) (cellsOf a) h) fun b h7 =>
(ymk c b h7)
def y2jr (s : St) : OX := ync (s 0) (s 1) s.h
theorem y1us : T0 y149 [.t 4] y2jr := sq y1oz fun _ => by kernel_rfl
@[simp] theorem y2rj : E.pure 79 = true := rfl
theorem y2ro (a b : AV) : (y8 E).p 79 [a, b] = ync a b [⟨0, .dead⟩, ⟨0, .dead⟩, ⟨0, .dead⟩, ⟨0, .dead⟩] :=
  (yr (cf := y2nh) (by kernel_rfl) rfl).trans ((y1us _).trans (by kernel_rfl))
def ysk (a : AV) (h : Heap) : OX :=
(yd h a)
def y71 (s : St) : OX := ysk (s 5) s.h
theorem y268 : T0 y1q1 [.t 4] y71 := fun _ => by kernel_rfl
def y21d (p m k b : AV) (h : Heap) : Option Heap :=
ob (evFa 1 b) fun c =>
ob (evLd false 1 c h) fun g =>
ob (evFa 2 p) fun d =>
ob (evLd false 1 d h) fun e =>
ob (y6 .eql g e) fun a =>
gb a true (evFa 2 b) fun j =>
gb a true (evLd false 1 j h) fun t =>
gb a true (y6 .eql t (.int .i64 (-1))) fun o =>
ob (yb a o (.bool false)) fun l =>
cnd l
 (ob (evFa 0 b) fun n =>
ob (evLd false 1 n h) fun i =>
ob (yx [(.int .i64 0), (.int .i64 0), (.int .i64 0)] [(0, 1, i), (1, 1, k), (2, 1, (.int .i64 (-1)))]) fun r =>
oh (y6l true [0, 0, 0] m r (.bool true) h) fun _ h1 =>
(some (killAll 0 [4] h1)))
 ((some (killAll 0 [4] h)))
def y2oe (s : St) : Option Heap := y21d (s 3) (s 5) (s 8) (s 10) s.h
theorem y20o (s : St) : W E 0 y1vr s (fun s3 => some (killAll 0 [4] s3.h)) xN (fun _ => none) = y2oe s :=
  by kernel_rfl
def y2d2 (e g a c : AV) (h : Heap) : OX :=
orm e (fun q h2 =>
ob (y3x 0 (AV.tup [q.1, q.2])) fun d =>
oh (newC 0 (some 4) [(.int .i64 0), (.int .i64 0), (.int .i64 0)] h2) fun b h4 =>
oh (evSt 3 b d h4) fun _ h5 =>
(y21d g a c b h5)) h fun h3 =>
(ysk a h3)
def y2qb (s : St) : OX := y2d2 (s 0) (s 3) (s 5) (s 8) s.h
theorem y21e : T1 y1xt y71 (y4 2 y71 xN) [.t 4] y2qb := fun s => (yi5 (nk := y71) (fun s2 => y20o s2) (fun _ => rfl)).trans (by kernel_rfl)
def ywq (a d b : AV) (h : Heap) : OX :=
cnd b
 (ob (yx [(.int .i64 0), (.int .i64 0), (.int .i64 0)] [(0, 1, (.int .i64 8)), (1, 1, d), (2, 1, (.int .i64 (-1)))]) fun c =>
oh (y6l true [0, 0, 0] a c (.bool true) h) fun _ h6 =>
(ysk a h6))
 ((ysk a h))
def y2o1 (s : St) : OX := ywq (s 5) (s 8) (s 79) s.h
theorem y28y : T1 y1sd y71 (y4 2 y71 xN) [.t 4] y2o1 := fun _ => by kernel_rfl
def y27s (c b a : AV) (h : Heap) : OX :=
ob (y6 .eql a (.int .i64 20)) fun g =>
cnd g
 ((ywq c b g h))
 (ob (y6 .eql a (.int .i64 21)) fun d =>
cnd d
 ((ywq c b d h))
 (ob (y6 .eql a (.int .i64 3)) fun e =>
cnd e
 ((ywq c b e h))
 (ob (y6 .eql a (.int .i64 32)) fun i =>
(ywq c b i h))))
def y2lm (s : St) : OX := y27s (s 5) (s 8) (s 55) s.h
theorem y26g : T1 y1up y71 (y4 2 y71 xN) [.t 4] y2lm := sq y28y fun _ => by kernel_rfl
def y284 (e g b a d c : AV) (h : Heap) : OX :=
cnd c
 ((y2d2 e g b a h))
 ((y27s b a d h))
def y2mn (s : St) : OX := y284 (s 0) (s 3) (s 5) (s 8) (s 55) (s 56) s.h
theorem y23q : T1 y1qn y71 (y4 2 y71 xN) [.t 4] y2mn := fun s => (y1e (y21e s) (y26g s)).trans (by kernel_rfl)
def y1t0 (d g c b a : AV) (h : Heap) : OX :=
ob (y6 .eql a (.int .i64 4)) fun e =>
(y284 d g c b a e h)
def y2al (s : St) : OX := y1t0 (s 0) (s 3) (s 5) (s 8) (s 55) s.h
theorem y25x : T1 y1p1 y71 (y4 2 y71 xN) [.t 4] y2al := sq y23q fun _ => by kernel_rfl
theorem y22k : T1 y1xg y71 xN [.t 4] y2al := fun s => yq.trans (y25x s)
def y24i (g a e d : AV) (h : Heap) : OX :=
ob (evFa 0 a) fun b =>
ob (evLd false 1 b h) fun c =>
(y1t0 g a e d c h)
def y19b (s : St) : OX := y24i (s 0) (s 3) (s 5) (s 8) s.h
theorem y20m : T1 y1s0 y71 xN [.t 4] y19b := sq y22k fun _ => by kernel_rfl
theorem y1to : T0 y1ay [.t 4] y19b := sq y268 y20m
def y1ad (i c b : AV) (h : Heap) : Option Heap :=
ob (evFa 1 b) fun d =>
ob (evLd false 1 d h) fun j =>
ob (y6 .eql j c) fun a =>
gb a false (evFa 2 b) fun k =>
gb a false (evLd false 1 k h) fun l =>
gb a false (some c) fun m =>
gb a false (y6 .eql l m) fun g =>
ob (yb a (.bool true) g) fun n =>
cnd n
 (ob (evLd true 3 b h) fun e =>
oh (yce true [0, 0, 0] i e h) fun _ h7 =>
(some (killAll 0 [3] h7)))
 ((some (killAll 0 [3] h)))
def y2ca (s : St) : Option Heap := y1ad (s 5) (s 8) (s 9) s.h
theorem y1ny (s : St) : W E 0 y15y s (fun s3 => some (killAll 0 [3] s3.h)) xN (fun _ => none) = y2ca s :=
  by kernel_rfl
def y18n (c e b a : AV) (h : Heap) : OX :=
orm c (fun q h8 =>
ob (y3x 0 (AV.tup [q.1, q.2])) fun g =>
oh (newC 0 (some 3) [(.int .i64 0), (.int .i64 0), (.int .i64 0)] h8) fun d h10 =>
oh (evSt 3 d g h10) fun _ h11 =>
(y1ad b a d h11)) h fun h9 =>
(y24i c e b a h9)
def y1n6 (s : St) : OX := y18n (s 0) (s 3) (s 5) (s 8) s.h
theorem y1r7 : T1 y11o y19b xN [.t 4] y1n6 := fun s => (yi5 (nk := y19b) (fun s2 => y1ny s2) (fun _ => rfl)).trans (by kernel_rfl)
theorem y1vd : T0 y119 [.t 4] y1n6 := sq y1to y1r7
def y1io (g b d c : AV) (h : Heap) : OX :=
ob (evFa 0 b) fun m =>
ob (evLd false 1 m h) fun i =>
ob (y6 .eql i (.int .i64 4)) fun a =>
gb a true (evFa 2 b) fun e =>
gb a true (evLd false 1 e h) fun j =>
gb a true (some c) fun l =>
gb a true (y6 .eql j l) fun n =>
ob (yb a n (.bool false)) fun k =>
cnd k
 ((yd h d))
 ((y18n g b d c h))
def y2ie (s : St) : OX := y1io (s 0) (s 3) (s 5) (s 8) s.h
theorem y1q8 : T0 y17j [.t 4] y2ie := sq y1vd fun _ => by kernel_rfl
def y11s (c d b a : AV) (h : Heap) : OX :=
ob (y6 .lss a (.int .i64 0)) fun e =>
cnd e
 ((yd h b))
 ((y1io c d b a h))
def y2ei (s : St) : OX := y11s (s 0) (s 3) (s 5) (s 8) s.h
theorem y1hz : T0 y13y [.t 4] y2ei := sq y1q8 fun _ => by kernel_rfl
def yrz (c a b : AV) (h : Heap) : OX :=
ob (evLd true 9 a h) fun e =>
oh (y7 E (y8 E) 0 none true 9 [e] h) fun d h12 =>
(y11s c a b d h12)
def y2h8 (s : St) : OX := yrz (s 0) (s 3) (s 5) s.h
theorem y1n9 : T0 y18v [.t 4] y2h8 := sq y1hz fun _ => by kernel_rfl
def y1op (c b a : AV) (h : Heap) : OX :=
ob (evLd true 9 b h) fun k =>
oh (y7 E (y8 E) 0 none true 169 [k] h) fun e h13 =>
ob (y3x 0 e) fun i =>
ob (y3x 1 e) fun g =>
oh (newC 0 (some 2) [(.int .i64 0), (.int .i64 0), (.int .i64 0)] h13) fun d h14 =>
oh (evSt 3 d i h14) fun _ h15 =>
cnd g
 (ob (evLd true 3 d h15) fun j =>
oh (y6l true [0, 0, 0] a j (.bool true) h15) fun _ h16 =>
(yrz c b a h16))
 ((yrz c b a h15))
def y2cc (s : St) : OX := y1op (s 0) (s 3) (s 5) s.h
theorem y1ip : T0 y11y [.t 4] y2cc := sq y1n9 fun _ => by kernel_rfl
def y1sx (a c : AV) (h : Heap) : OX :=
oh (y7 E (y8 E) 0 (some 1) false 161 [a] h) fun b h17 =>
(y1op a c b h17)
def y2e5 (s : St) : OX := y1sx (s 0) (s 3) s.h
theorem y1uy : T0 y17t [.t 4] y2e5 := sq y1ip fun _ => by kernel_rfl
def y1ym (a c : AV) (h : Heap) : OX :=
oh (newC 0 (some 0) (cellsOf c) h) fun b h18 =>
(y1sx a b h18)
def y2gq (s : St) : OX := y1ym (s 0) (s 1) s.h
theorem y1iv : T0 y16f [.t 4] y2gq := sq y1uy fun _ => by kernel_rfl
@[simp] theorem y2qq : E.pure 168 = true := rfl
theorem y2sd (a b : AV) : (y8 E).p 168 [a, b] = y1ym a b [⟨0, .dead⟩, ⟨0, .dead⟩, ⟨0, .dead⟩, ⟨0, .dead⟩, ⟨0, .dead⟩] :=
  (yr (cf := y2lu) (by kernel_rfl) rfl).trans ((y1iv _).trans (by kernel_rfl))
def ym1 (a : AV) (h : Heap) : OX :=
(yd h a)
def y2mj (s : St) : OX := ym1 (s 6) s.h
theorem y28t : T0 y1ui [.t 4] y2mj := fun _ => by kernel_rfl
def ym2 (b c : AV) (h : Heap) : OX :=
ob (evLd true 9 b h) fun j =>
oh (y7 E (y8 E) 0 none true 22 [j] h) fun a h1 =>
gb a true (some c) fun n =>
gb a true (evFa 6 b) fun p =>
gb a true (evLd false 1 p h1) fun l =>
gh a true (y7 E (y8 E) 0 none true 46 [n, l] h1) h1 fun k h2 =>
gb a true (evUn .not k) fun m =>
ob (yb a m (.bool false)) fun e =>
cnd e
 (ob (evFa 6 b) fun g =>
ob (evLd false 1 g h2) fun i =>
oh (y10 0 (some 4) 1 1 [(.int .i64 0)] [(0, i)] h2) fun o h3 =>
oh (y3a 0 (some 5) 1 8 c o h3) fun d h4 =>
(ym1 d h4))
 ((ym1 c h2))
def y2q5 (s : St) : OX := ym2 (s 5) (s 6) s.h
theorem y23r : T0 y1nd [.t 4] y2q5 := sq y28t fun _ => by kernel_rfl
def ylw (g a b : AV) (h : Heap) : OX :=
ob (evLd true 9 a h) fun e =>
oh (y7 E (y8 E) 0 none true 24 [e] h) fun c h5 =>
ob (evUn .not c) fun k =>
cnd k
 (ob (y6 .add g (.int .i64 1)) fun i =>
oh (y10 0 (some 2) 1 1 [(.int .i64 0)] [(0, i)] h5) fun d h6 =>
oh (y3a 0 (some 3) 1 8 b d h6) fun j h7 =>
(ym2 a j h7))
 ((ym2 a b h5))
def y2oy (s : St) : OX := ylw (s 1) (s 5) (s 6) s.h
theorem y23v : T0 y1m9 [.t 4] y2oy := sq y23r fun _ => by kernel_rfl
def y20h (b a : AV) (h : Heap) : OX :=
(ylw b a AV.nils h)
def y2ln (s : St) : OX := y20h (s 1) (s 5) s.h
theorem y25f : T0 y1r1 [.t 4] y2ln := sq y23v fun _ => by kernel_rfl
def y1ma (b d : AV) (h : Heap) : OX :=
ob (evFa 3 d) fun c =>
ob (evLd false 1 c h) fun i =>
ob (yn 9 i b) fun g =>
ob (evLd true 9 g h) fun e =>
oh (newC 0 (some 1) [(.int .i64 0), (.int .i64 0), (.int .i64 0), (.int .i64 0), (.int .i64 0), (.int .i64 0), (.int .i64 0), (.str []), .nils] h) fun a h8 =>
oh (evSt 9 a e h8) fun _ h9 =>
(y20h b a h9)
def y2l7 (s : St) : OX := y1ma (s 1) (s 2) s.h
theorem y25m : T0 y1wd [.t 4] y2l7 := sq y25f fun _ => by kernel_rfl
def y1tv (b c : AV) (h : Heap) : OX :=
ob (y6 .lss b (.int .i64 0)) fun a =>
gb a false (some b) fun k =>
gb a false (evFa 3 c) fun d =>
gb a false (evLd false 1 d h) fun j =>
gb a false (yv 1 j h) fun e =>
gb a false (y6 .geq k e) fun g =>
ob (yb a (.bool true) g) fun i =>
cnd i
 ((yd h AV.nils))
 ((y1ma b c h))
def y2qh (s : St) : OX := y1tv (s 1) (s 2) s.h
theorem y241 : T0 y1m4 [.t 4] y2qh := sq y25m fun _ => by kernel_rfl
def y1hp (a c : AV) (h : Heap) : OX :=
oh (newC 0 (some 0) (cellsOf a) h) fun b h10 =>
(y1tv c b h10)
def y2nw (s : St) : OX := y1hp (s 0) (s 1) s.h
theorem y22b : T0 y1i5 [.t 4] y2nw := sq y241 fun _ => by kernel_rfl
@[simp] theorem y2s1 : E.pure 81 = true := rfl
theorem y2us (a b : AV) : (y8 E).p 81 [a, b] = y1hp a b [⟨0, .dead⟩, ⟨0, .dead⟩, ⟨0, .dead⟩, ⟨0, .dead⟩, ⟨0, .dead⟩, ⟨0, .dead⟩] :=
  (yr (cf := y2op) (by kernel_rfl) rfl).trans ((y22b _).trans (by kernel_rfl))
def y2g0 (a : AV) (h : Heap) : OX :=
ob (yx [(.int .i64 0), (.int .i64 0), (.int .i64 0)] []) fun b =>
oh (evSt 3 a b h) fun _ h1 =>
(ob (evLd true 3 a h1) fun r0 =>
  yd h1 (.tup [r0, (.bool false)]))
def yko (s : St) : OX := y2g0 (s 2) s.h
theorem y27n : T0 y1qy [.cell 2 true 3, .t 3] yko := fun _ => by kernel_rfl
def yyz (b a i r : AV) (h : Heap) : OX :=
cnd r
 (ob (evFa 0 b) fun u =>
ob (evLd false 1 u h) fun d =>
ob (evFa 2 b) fun m =>
ob (evLd false 1 m h) fun k =>
ob (yx [(.int .i64 0), (.int .i64 0), (.int .i64 0)] [(0, 1, d), (1, 1, k), (2, 1, (.int .i64 (-1)))]) fun n =>
oh (evSt 3 a n h) fun _ h2 =>
(ob (evLd true 3 a h2) fun r0 =>
  yd h2 (.tup [r0, (.bool true)])))
 (ob (y6 .eql i (.int .i64 9)) fun g =>
cnd g
 (ob (evFa 0 b) fun c =>
ob (evLd false 1 c h) fun e =>
ob (evFa 2 b) fun o =>
ob (evLd false 1 o h) fun l =>
ob (evFa 3 b) fun p =>
ob (evLd false 1 p h) fun j =>
ob (yx [(.int .i64 0), (.int .i64 0), (.int .i64 0)] [(0, 1, e), (1, 1, l), (2, 1, j)]) fun t =>
oh (evSt 3 a t h) fun _ h3 =>
(ob (evLd true 3 a h3) fun r0 =>
  yd h3 (.tup [r0, (.bool true)])))
 ((y2g0 a h)))
def y2ob (s : St) : OX := yyz (s 1) (s 2) (s 5) (s 6) s.h
theorem y239 : T1 y1l4 yko (y4 0 yko xN) [.cell 2 true 3, .t 3] y2ob := fun _ => by kernel_rfl
def y20r (c b a : AV) (h : Heap) : OX :=
ob (y6 .eql a (.int .i64 7)) fun e =>
cnd e
 ((yyz c b a e h))
 (ob (y6 .eql a (.int .i64 8)) fun d =>
cnd d
 ((yyz c b a d h))
 (ob (y6 .eql a (.int .i64 10)) fun g =>
(yyz c b a g h)))
def y29t (s : St) : OX := y20r (s 1) (s 2) (s 5) s.h
theorem y28c : T1 y1nv yko (y4 0 yko xN) [.cell 2 true 3, .t 3] y29t := sq y239 fun _ => by kernel_rfl
theorem y28s : T1 y1id yko xN [.cell 2 true 3, .t 3] y29t := fun s => yq.trans (y28c s)
def y267 (a d : AV) (h : Heap) : OX :=
ob (evFa 0 a) fun c =>
ob (evLd false 1 c h) fun b =>
(y20r a d b h)
def y2ar (s : St) : OX := y267 (s 1) (s 2) s.h
theorem y272 : T1 y1oo yko xN [.cell 2 true 3, .t 3] y2ar := sq y28s fun _ => by kernel_rfl
theorem y26o : T0 y1ve [.cell 2 true 3, .t 3] y2ar := sq y27n y272
def y26s (a : AV) (h : Heap) : OX :=
oh (newC 0 (some 0) (cellsOf a) h) fun c h4 =>
oh (newC 0 (some 1) [(.int .i64 0), (.int .i64 0), (.int .i64 0)] h4) fun b h5 =>
(y267 c b h5)
def y2nz (s : St) : OX := y26s (s 0) s.h
theorem y23i : T0 y1nj [.cell 2 true 3, .t 3] y2nz := sq y26o fun _ => by kernel_rfl
@[simp] theorem y2r3 : E.pure 169 = true := rfl
theorem y2rz (a : AV) : (y8 E).p 169 [a] = y26s a [⟨0, .dead⟩, ⟨0, .dead⟩] :=
  (yr (cf := y2ly) (by kernel_rfl) rfl).trans ((y23i _).trans (by kernel_rfl))
def y1rr (a : AV) (h : Heap) : OX :=
(yd h a)
def y1t (s : St) : OX := y1rr (s 3) s.h
theorem y1q0 : T0 y18c [.t 2] y1t := fun _ => by kernel_rfl
def yjs (c b a : AV) (h : Heap) : OX :=
  W E 0 yi0 ⟨[(1, c), (3, b), (4, a)], h⟩ y1t (y4 0 y1t xN) (finP [.t 2])
def ybf (s : St) : OX := yjs (s 1) (s 3) (s 4) s.h
theorem ymd : T1 yi0 y1t (y4 0 y1t xN) [.t 2] ybf := fun s => yf.trans (by kernel_rfl)
def yv3 (d c b : AV) (h : Heap) : OX :=
ob (y6 .add b (.int .i64 1)) fun a =>
(yjs d c a h)
def y2a (s : St) : OX := yv3 (s 1) (s 3) (s 4) s.h
theorem y1ox : T1 y164 ybf (y4 0 y1t xN) [.t 2] y2a := fun _ => by kernel_rfl
def yiy (c b a e : AV) (h : Heap) : OX :=
cnd e
 (oh (y10 0 (some 1) 1 1 [(.int .i64 0)] [(0, a)] h) fun d h1 =>
oh (y3a 0 (some 2) 1 8 b d h1) fun g h2 =>
(yv3 c g a h2))
 ((yv3 c b a h))
def y7g (s : St) : OX := yiy (s 1) (s 3) (s 4) (s 5) s.h
theorem y1mz : T1 y133 y2a (y4 1 y2a (y4 0 y1t xN)) [.t 2] y7g := fun _ => by kernel_rfl
def yld (d c e b a : AV) (h : Heap) : OX :=
  W E 0 yim ⟨[(1, d), (3, c), (4, e), (5, b), (8, a)], h⟩ y7g (y4 4 y7g (y4 1 y2a (y4 0 y1t xN))) (finP [.t 2])
def ybp (s : St) : OX := yld (s 1) (s 3) (s 4) (s 5) (s 8) s.h
theorem yoh : T1 yim y7g (y4 4 y7g (y4 1 y2a (y4 0 y1t xN))) [.t 2] ybp := fun s => yf.trans (by kernel_rfl)
def yx4 (d c e b a : AV) (h : Heap) : OX :=
ob (y6 .add a (.int .i64 1)) fun g =>
(yld d c e b g h)
def y2bz (s : St) : OX := yx4 (s 1) (s 3) (s 4) (s 5) (s 8) s.h
theorem y1yc : T1 y0z ybp (y4 4 y7g (y4 1 y2a (y4 0 y1t xN))) [.t 2] y2bz := fun _ => by kernel_rfl
def yur (e p d c : AV) (h : Heap) : OX :=
ob (evFa 4 e) fun G =>
ob (evLd false 1 G h) fun B =>
ob (yn 4 B c) fun C =>
ob (evFa 0 C) fun r =>
ob (evLd false 1 r h) fun g =>
ob (y6 .eql g d) fun a =>
gb a false (evFa 4 e) fun F =>
gb a false (evLd false 1 F h) fun n =>
gb a false (some c) fun m =>
gb a false (yn 4 n m) fun w =>
gb a false (evFa 1 w) fun y =>
gb a false (evLd false 1 y h) fun k =>
gb a false (some d) fun i =>
gb a false (y6 .eql k i) fun t =>
ob (yb a (.bool true) t) fun b =>
gb b false (evFa 4 e) fun D =>
gb b false (evLd false 1 D h) fun o =>
gb b false (some c) fun z =>
gb b false (yn 4 o z) fun x =>
gb b false (evFa 2 x) fun j =>
gb b false (evLd false 1 j h) fun l =>
gb b false (some d) fun v =>
gb b false (y6 .eql l v) fun A =>
ob (yb b (.bool true) A) fun u =>
(yx4 e p d u c h)
def y2g8 (s : St) : OX := yur (s 1) (s 3) (s 4) (s 8) s.h
theorem y1i7 : T1 y12e ybp (y4 4 y7g (y4 1 y2a (y4 0 y1t xN))) [.t 2] y2g8 := sq y1yc fun _ => by kernel_rfl
def yhy (b e g d c : AV) (h : Heap) : OX :=
ob (evFa 4 b) fun l =>
ob (evLd false 1 l h) fun k =>
ob (yv 1 k h) fun i =>
ob (y6 .lss c i) fun a =>
gb a true (some d) fun j =>
gb a true (evUn .not j) fun m =>
ob (yb a m (.bool false)) fun n =>
cnd n
 ((yur b e g c h))
 ((yiy b e g d h))
def y2ia (s : St) : OX := yhy (s 1) (s 3) (s 4) (s 5) (s 8) s.h
theorem y1t2 : T1 y1aq ybp (y4 4 y7g (y4 1 y2a (y4 0 y1t xN))) [.t 2] y2ia := sq y1i7 fun _ => by kernel_rfl
theorem yn6 (d c e b a : AV) (h : Heap) : yld d c e b a h = (yhy d c e b a h) :=
  y1o.trans ((y14 _ _ _ (n' := ybp) (fun s => yoh s)).trans ((y1t2 _).trans (by kernel_rfl)))
theorem y1wr : T1 y19a y7g (y4 1 y2a (y4 0 y1t xN)) [.t 2] ybp := fun s => yq.trans (yoh s)
def ypx (d c b a : AV) (h : Heap) : OX :=
(yld d c b a (.int .i64 0) h)
def y4m (s : St) : OX := ypx (s 1) (s 3) (s 4) (s 5) s.h
theorem y1fu : T1 ytp y7g (y4 1 y2a (y4 0 y1t xN)) [.t 2] y4m := sq y1wr fun _ => by kernel_rfl
theorem y1dt : T1 yxp y2a (y4 1 y2a (y4 0 y1t xN)) [.t 2] y4m := sq y1mz y1fu
def yeg (d c e a b : AV) (h : Heap) : OX :=
  W E 0 yfh ⟨[(1, d), (3, c), (4, e), (5, a), (7, b)], h⟩ y4m (y4 2 y4m (y4 1 y2a (y4 0 y1t xN))) (finP [.t 2])
def y8f (s : St) : OX := yeg (s 1) (s 3) (s 4) (s 5) (s 7) s.h
theorem yl4 : T1 yfh y4m (y4 2 y4m (y4 1 y2a (y4 0 y1t xN))) [.t 2] y8f := fun s => yf.trans (by kernel_rfl)
def yr1 (e d g a c : AV) (h : Heap) : OX :=
ob (y6 .add c (.int .i64 1)) fun b =>
(yeg e d g a b h)
def y27b (s : St) : OX := yr1 (s 1) (s 3) (s 4) (s 5) (s 7) s.h
theorem y1g1 : T1 yxz y8f (y4 2 y4m (y4 1 y2a (y4 0 y1t xN))) [.t 2] y27b := fun _ => by kernel_rfl
def ypt (c k d b : AV) (h : Heap) : OX :=
ob (evFa 3 c) fun l =>
ob (evLd false 1 l h) fun e =>
ob (yn 9 e b) fun r =>
ob (evFa 0 r) fun t =>
ob (evLd false 1 t h) fun n =>
oh (y7 E (y8 E) 0 none true 23 [n] h) fun a h3 =>
gb a true (evFa 3 c) fun w =>
gb a true (evLd false 1 w h3) fun j =>
gb a true (some b) fun u =>
gb a true (yn 9 j u) fun o =>
gb a true (evFa 6 o) fun g =>
gb a true (evLd false 1 g h3) fun i =>
gb a true (some d) fun m =>
gb a true (y6 .eql i m) fun p =>
ob (yb a p (.bool false)) fun v =>
(yr1 c k d v b h3)
def y26t (s : St) : OX := ypt (s 1) (s 3) (s 4) (s 7) s.h
theorem y1cg : T1 ywn y8f (y4 2 y4m (y4 1 y2a (y4 0 y1t xN))) [.t 2] y26t := sq y1g1 fun _ => by kernel_rfl
def yfu (b e g c d : AV) (h : Heap) : OX :=
ob (evFa 3 b) fun m =>
ob (evLd false 1 m h) fun l =>
ob (yv 1 l h) fun i =>
ob (y6 .lss d i) fun a =>
gb a true (some c) fun j =>
gb a true (evUn .not j) fun k =>
ob (yb a k (.bool false)) fun n =>
cnd n
 ((ypt b e g d h))
 ((ypx b e g c h))
def y280 (s : St) : OX := yfu (s 1) (s 3) (s 4) (s 5) (s 7) s.h
theorem y1ex : T1 yxt y8f (y4 2 y4m (y4 1 y2a (y4 0 y1t xN))) [.t 2] y280 := sq y1cg fun _ => by kernel_rfl
theorem yjz (d c e a b : AV) (h : Heap) : yeg d c e a b h = (yfu d c e a b h) :=
  y1o.trans ((y14 _ _ _ (n' := y8f) (fun s => yl4 s)).trans ((y1ex _).trans (by kernel_rfl)))
theorem y1fo : T1 yxi y4m (y4 1 y2a (y4 0 y1t xN)) [.t 2] y8f := fun s => yq.trans (yl4 s)
def yf0 (d c b a : AV) (h : Heap) : OX :=
(yeg d c b a (.int .i64 0) h)
def y13u (s : St) : OX := yf0 (s 1) (s 3) (s 4) (s 5) s.h
theorem y1gz : T1 ytj y4m (y4 1 y2a (y4 0 y1t xN)) [.t 2] y13u := sq y1fo fun _ => by kernel_rfl
theorem y1cs : T1 yso y2a (y4 1 y2a (y4 0 y1t xN)) [.t 2] y13u := sq y1dt y1gz
def yq6 (b e a i : AV) (h : Heap) : OX :=
ob (y6 .gtr a (.int .i64 0)) fun o =>
cnd o
 (ob (evFa 3 b) fun m =>
ob (evLd false 1 m h) fun n =>
ob (y6 .sub a (.int .i64 1)) fun r =>
ob (yn 9 n r) fun j =>
ob (evFa 0 j) fun k =>
ob (evLd false 1 k h) fun d =>
oh (y7 E (y8 E) 0 none true 23 [d] h) fun c h4 =>
gb c false (some d) fun g =>
gh c false (y7 E (y8 E) 0 none true 25 [g] h4) h4 fun l h5 =>
ob (yb c (.bool true) l) fun p =>
(yf0 b e a p h5))
 ((yf0 b e a i h))
def y26i (s : St) : OX := yq6 (s 1) (s 3) (s 4) (s 5) s.h
theorem y1h9 : T1 yu9 y2a (y4 1 y2a (y4 0 y1t xN)) [.t 2] y26i := sq y1cs fun _ => by kernel_rfl
def yqj (d c a : AV) (h : Heap) : OX :=
ob (y6 .eql a (.int .i64 0)) fun b =>
(yq6 d c a b h)
def yq7 (s : St) : OX := yqj (s 1) (s 3) (s 4) s.h
theorem y1g3 : T1 yvu y2a (y4 1 y2a (y4 0 y1t xN)) [.t 2] yq7 := sq y1h9 fun _ => by kernel_rfl
theorem y1d6 : T1 yto y2a (y4 0 y1t xN) [.t 2] yq7 := fun s => yq.trans (y1g3 s)
theorem y1eu : T1 yti ybf (y4 0 y1t xN) [.t 2] yq7 := sq y1ox y1d6
def yda (b a c : AV) (h : Heap) : OX :=
ob (evFa 3 b) fun i =>
ob (evLd false 1 i h) fun d =>
ob (yv 1 d h) fun g =>
ob (y6 .lss c g) fun e =>
cnd e
 ((yqj b a c h))
 ((y1rr a h))
def y28d (s : St) : OX := yda (s 1) (s 3) (s 4) s.h
theorem y1d0 : T1 ytd ybf (y4 0 y1t xN) [.t 2] y28d := sq y1eu fun _ => by kernel_rfl
theorem ym5 (c b a : AV) (h : Heap) : yjs c b a h = (yda c b a h) :=
  y1o.trans ((y14 _ _ _ (n' := ybf) (fun s => ymd s)).trans ((y1d0 _).trans (by kernel_rfl)))
theorem y1gq : T1 yxr y1t xN [.t 2] ybf := fun s => yq.trans (ymd s)
def yzp (b a : AV) (h : Heap) : OX :=
(yjs b a (.int .i64 0) h)
def y15m (s : St) : OX := yzp (s 1) (s 3) s.h
theorem y1cu : T1 yww y1t xN [.t 2] y15m := sq y1gq fun _ => by kernel_rfl
theorem y1hl : T0 yt0 [.t 2] y15m := sq y1q0 y1cu
def yz7 (a : AV) (h : Heap) : OX :=
(yzp a AV.nils h)
def y27m (s : St) : OX := yz7 (s 1) s.h
theorem y1hd : T0 ytf [.t 2] y27m := sq y1hl fun _ => by kernel_rfl
def yz3 (a : AV) (h : Heap) : OX :=
oh (newC 0 (some 0) (cellsOf a) h) fun b h6 =>
(yz7 b h6)
def y27c (s : St) : OX := yz3 (s 0) s.h
theorem y1dd : T0 yxs [.t 2] y27c := sq y1hd fun _ => by kernel_rfl
@[simp] theorem y2r9 : E.pure 106 = true := rfl
theorem y2mv (a : AV) : (y8 E).p 106 [a] = yz3 a [⟨0, .dead⟩, ⟨0, .dead⟩, ⟨0, .dead⟩] :=
  (yr (cf := y2a1) (by kernel_rfl) rfl).trans ((y1dd _).trans (by kernel_rfl))
def y1ww (a : AV) (h : Heap) : OX :=
(yd h a)
def y28 (s : St) : OX := y1ww (s 3) s.h
theorem y1su : T0 y134 [.t 2] y28 := fun _ => by kernel_rfl
def yf3 (c b a : AV) (h : Heap) : OX :=
  W E 0 yk2 ⟨[(1, c), (3, b), (4, a)], h⟩ y28 (y4 0 y28 xN) (finP [.t 2])
def yw (s : St) : OX := yf3 (s 1) (s 3) (s 4) s.h
theorem yny : T1 yk2 y28 (y4 0 y28 xN) [.t 2] yw := fun s => yf.trans (by kernel_rfl)
def yj2 (d c b a : AV) (h : Heap) : OX :=
  W E 0 yk8 ⟨[(1, d), (3, c), (4, b), (5, a)], h⟩ yw (y4 2 yw (y4 1 yw (y4 0 y28 xN))) (finP [.t 2])
def ybn (s : St) : OX := yj2 (s 1) (s 3) (s 4) (s 5) s.h
theorem yna : T1 yk8 yw (y4 2 yw (y4 1 yw (y4 0 y28 xN))) [.t 2] ybn := fun s => yf.trans (by kernel_rfl)
def ymm (c b d a : AV) (h : Heap) : OX :=
ob (y6 .add a (.int .i64 1)) fun e =>
(yj2 c b d e h)
def y33 (s : St) : OX := ymm (s 1) (s 3) (s 4) (s 5) s.h
theorem y203 : T1 y13g ybn (y4 2 yw (y4 1 yw (y4 0 y28 xN))) [.t 2] y33 := fun _ => by kernel_rfl
def yl7 (c b g a e d : AV) (h : Heap) : OX :=
  W E 0 ykn ⟨[(1, c), (3, b), (4, g), (5, a), (6, e), (7, d)], h⟩ y33 (y4 4 y33 (y4 3 y33 (y4 2 yw (y4 1 yw (y4 0 y28 xN))))) (finP [.t 2])
def ybl (s : St) : OX := yl7 (s 1) (s 3) (s 4) (s 5) (s 6) (s 7) s.h
theorem ype : T1 ykn y33 (y4 4 y33 (y4 3 y33 (y4 2 yw (y4 1 yw (y4 0 y28 xN))))) [.t 2] ybl := fun s => yf.trans (by kernel_rfl)
def ygj (d c i b g e : AV) (h : Heap) : OX :=
ob (y6 .add e (.int .i64 1)) fun a =>
(yl7 d c i b g a h)
def y2cv (s : St) : OX := ygj (s 1) (s 3) (s 4) (s 5) (s 6) (s 7) s.h
theorem y1vw : T1 y17k ybl (y4 4 y33 (y4 3 y33 (y4 2 yw (y4 1 yw (y4 0 y28 xN))))) [.t 2] y2cv := fun _ => by kernel_rfl
def ynz (i e A g d c : AV) (h : Heap) : OX :=
ob (yn 1 d c) fun m =>
ob (evLd false 1 m h) fun r =>
ob (y6 .geq r (.int .i64 0)) fun b =>
gb b true (some d) fun t =>
gb b true (some c) fun j =>
gb b true (yn 1 t j) fun n =>
gb b true (evLd false 1 n h) fun z =>
gb b true (some e) fun B =>
gb b true (yv 1 B h) fun v =>
gb b true (y6 .lss z v) fun H =>
ob (yb b H (.bool false)) fun a =>
gb a true (some e) fun p =>
gb a true (some d) fun C =>
gb a true (some c) fun x =>
gb a true (yn 1 C x) fun l =>
gb a true (evLd false 1 l h) fun o =>
gb a true (yn 1 p o) fun w =>
gb a true (evLd false 1 w h) fun y =>
gb a true (evUn .not y) fun G =>
ob (yb a G (.bool false)) fun u =>
cnd u
 (ob (yn 1 d c) fun D =>
ob (evLd false 1 D h) fun F =>
ob (yn 1 e F) fun k =>
oh (evSt 1 k (.bool true) h) fun _ h1 =>
(ygj i e (.bool true) g d c h1))
 ((ygj i e A g d c h))
def y2c6 (s : St) : OX := ynz (s 1) (s 3) (s 4) (s 5) (s 6) (s 7) s.h
theorem y1oa : T1 y15z ybl (y4 4 y33 (y4 3 y33 (y4 2 yw (y4 1 yw (y4 0 y28 xN))))) [.t 2] y2c6 := sq y1vw fun _ => by kernel_rfl
def ygo (c b g a e d : AV) (h : Heap) : OX :=
ob (yv 1 e h) fun j =>
ob (y6 .lss d j) fun i =>
cnd i
 ((ynz c b g a e d h))
 ((ymm c b g a h))
def y2je (s : St) : OX := ygo (s 1) (s 3) (s 4) (s 5) (s 6) (s 7) s.h
theorem y1mn : T1 y155 ybl (y4 4 y33 (y4 3 y33 (y4 2 yw (y4 1 yw (y4 0 y28 xN))))) [.t 2] y2je := sq y1oa fun _ => by kernel_rfl
theorem yp0 (c b g a e d : AV) (h : Heap) : yl7 c b g a e d h = (ygo c b g a e d h) :=
  y1o.trans ((y14 _ _ _ (n' := ybl) (fun s => ype s)).trans ((y1mn _).trans (by kernel_rfl)))
theorem y1tt : T1 y17x y33 (y4 3 y33 (y4 2 yw (y4 1 yw (y4 0 y28 xN)))) [.t 2] ybl := fun s => yq.trans (ype s)
def yzj (c b e a d : AV) (h : Heap) : OX :=
(yl7 c b e a d (.int .i64 0) h)
def y27k (s : St) : OX := yzj (s 1) (s 3) (s 4) (s 5) (s 6) s.h
theorem y1gx : T1 yrj y33 (y4 3 y33 (y4 2 yw (y4 1 yw (y4 0 y28 xN)))) [.t 2] y27k := sq y1tt fun _ => by kernel_rfl
def ypm (b e g a : AV) (h : Heap) : OX :=
ob (evLd true 5 b h) fun c =>
oh (y7 E (y8 E) 0 none true 105 [c, a] h) fun d h2 =>
(yzj b e g a d h2)
def y249 (s : St) : OX := ypm (s 1) (s 3) (s 4) (s 5) s.h
theorem y1h7 : T1 yvk y33 (y4 3 y33 (y4 2 yw (y4 1 yw (y4 0 y28 xN)))) [.t 2] y249 := sq y1gx fun _ => by kernel_rfl
def yrd (d b c a : AV) (h : Heap) : OX :=
ob (yn 1 b a) fun g =>
ob (evLd false 1 g h) fun e =>
ob (evUn .not e) fun i =>
cnd i
 ((ymm d b c a h))
 ((ypm d b c a h))
def yr8 (s : St) : OX := yrd (s 1) (s 3) (s 4) (s 5) s.h
theorem y1hf : T1 yry y33 (y4 3 y33 (y4 2 yw (y4 1 yw (y4 0 y28 xN)))) [.t 2] yr8 := sq y1h7 fun _ => by kernel_rfl
theorem y1g5 : T1 ysf y33 (y4 2 yw (y4 1 yw (y4 0 y28 xN))) [.t 2] yr8 := fun s => yq.trans (y1hf s)
theorem y1cl : T1 yro ybn (y4 2 yw (y4 1 yw (y4 0 y28 xN))) [.t 2] yr8 := sq y203 y1g5
def yez (c a d b : AV) (h : Heap) : OX :=
ob (yv 1 a h) fun e =>
ob (y6 .lss b e) fun g =>
cnd g
 ((yrd c a d b h))
 ((yf3 c a d h))
def y24l (s : St) : OX := yez (s 1) (s 3) (s 4) (s 5) s.h
theorem y1ck : T1 yx1 ybn (y4 2 yw (y4 1 yw (y4 0 y28 xN))) [.t 2] y24l := sq y1cl fun _ => by kernel_rfl
theorem you (d c b a : AV) (h : Heap) : yj2 d c b a h = (yez d c b a h) :=
  y1o.trans ((y14 _ _ _ (n' := ybn) (fun s => yna s)).trans ((y1ck _).trans (by kernel_rfl)))
theorem y1dw : T1 yvl yw (y4 1 yw (y4 0 y28 xN)) [.t 2] ybn := fun s => yq.trans (yna s)
def yye (c b a : AV) (h : Heap) : OX :=
(yj2 c b a (.int .i64 0) h)
def y20s (s : St) : OX := yye (s 1) (s 3) (s 4) s.h
theorem y1g2 : T1 yu4 yw (y4 1 yw (y4 0 y28 xN)) [.t 2] y20s := sq y1dw fun _ => by kernel_rfl
def y0k (b a : AV) (h : Heap) : OX :=
(yye b a (.bool false) h)
def y1bo (s : St) : OX := y0k (s 1) (s 3) s.h
theorem y1fh : T1 yu6 yw (y4 1 yw (y4 0 y28 xN)) [.t 2] y1bo := sq y1g2 fun _ => by kernel_rfl
theorem y1fp : T1 yxo yw (y4 0 y28 xN) [.t 2] y1bo := fun s => yq.trans (y1fh s)
def yq3 (c a b : AV) (h : Heap) : OX :=
cnd b
 ((y0k c a h))
 ((y1ww a h))
def y214 (s : St) : OX := yq3 (s 1) (s 3) (s 4) s.h
theorem y1dx : T1 yrk yw (y4 0 y28 xN) [.t 2] y214 := sq y1fp fun _ => by kernel_rfl
theorem yok (c b a : AV) (h : Heap) : yf3 c b a h = (yq3 c b a h) :=
  y1o.trans ((y14 _ _ _ (n' := yw) (fun s => yny s)).trans ((y1dx _).trans (by kernel_rfl)))
theorem y1hs : T1 yvm y28 xN [.t 2] yw := fun s => yq.trans (yny s)
def yj6 (b a : AV) (h : Heap) : OX :=
(yf3 b a (.bool true) h)
def y19s (s : St) : OX := yj6 (s 1) (s 3) s.h
theorem y1gh : T1 ytu y28 xN [.t 2] y19s := sq y1hs fun _ => by kernel_rfl
theorem y1ea : T0 yrr [.t 2] y19s := sq y1su y1gh
def yja (b a : AV) (h : Heap) : OX :=
ob (yv 1 a h) fun d =>
ob (y6 .gtr d (.int .i64 0)) fun e =>
cnd e
 (ob (yn 1 a (.int .i64 0)) fun c =>
oh (evSt 1 c (.bool true) h) fun _ h3 =>
(yj6 b a h3))
 ((yj6 b a h))
def y24t (s : St) : OX := yja (s 1) (s 3) s.h
theorem y1fg : T0 yw5 [.t 2] y24t := sq y1ea fun _ => by kernel_rfl
def ypz (a : AV) (h : Heap) : OX :=
ob (evFa 3 a) fun d =>
ob (evLd false 1 d h) fun e =>
ob (yv 1 e h) fun b =>
oh (mkSC 0 (some 1) 1 1 [(.bool false)] b b h) fun c h4 =>
(yja a c h4)
def y27t (s : St) : OX := ypz (s 1) s.h
theorem y1e3 : T0 ywb [.t 2] y27t := sq y1fg fun _ => by kernel_rfl
def yi1 (a : AV) (h : Heap) : OX :=
oh (newC 0 (some 0) (cellsOf a) h) fun b h5 =>
(ypz b h5)
def y26c (s : St) : OX := yi1 (s 0) s.h
theorem y1da : T0 yun [.t 2] y26c := sq y1e3 fun _ => by kernel_rfl
@[simp] theorem y2qk : E.pure 104 = true := rfl
theorem y2nc (a : AV) : (y8 E).p 104 [a] = yi1 a [⟨0, .dead⟩, ⟨0, .dead⟩] :=
  (yr (cf := y2a7) (by kernel_rfl) rfl).trans ((y1da _).trans (by kernel_rfl))
def y1w2 (b : AV) (h : Heap) : OX :=
ob (y6 .geq b (.int .i64 7)) fun a =>
gb a true (some b) fun e =>
gb a true (y6 .leq e (.int .i64 10)) fun d =>
ob (yb a d (.bool false)) fun c =>
(yd h c)
def y2js (s : St) : OX := y1w2 (s 0) s.h
theorem y1wx : T0 y16d [.t 2] y2js := fun _ => by kernel_rfl
@[simp] theorem y2rg : E.pure 173 = true := rfl
theorem y2ph (a : AV) : (y8 E).p 173 [a] = y1w2 a [] :=
  (yr (cf := y2a6) (by kernel_rfl) rfl).trans ((y1wx _).trans (by kernel_rfl))
def y2ai (h : Heap) : OX :=
(yd h (.bool false))
def y32 (s : St) : OX := y2ai s.h
theorem y205 : T0 y12v [.t 6] y32 := fun _ => by kernel_rfl
def yhv (d c b a : AV) (h : Heap) : OX :=
  W E 0 ylh ⟨[(1, d), (3, c), (7, b), (8, a)], h⟩ y32 (y4 0 y32 xN) (finP [.t 6])
def yby (s : St) : OX := yhv (s 1) (s 3) (s 7) (s 8) s.h
theorem yo9 : T1 ylh y32 (y4 0 y32 xN) [.t 6] yby := fun s => yf.trans (by kernel_rfl)
def y183 (e d c a : AV) (h : Heap) : OX :=
ob (y6 .sub a (.int .i64 1)) fun b =>
(yhv e d c b h)
def y3s (s : St) : OX := y183 (s 1) (s 3) (s 7) (s 8) s.h
theorem y1se : T1 y19v yby (y4 0 y32 xN) [.t 6] y3s := fun _ => by kernel_rfl
def y200 (z k d g o : AV) (h : Heap) : OX :=
ob (evLd true 9 o h) fun w =>
oh (y7 E (y8 E) 0 none true 16 [w] h) fun e h1 =>
ob (y6 .geq e (.int .i64 0)) fun a =>
gb a true (some e) fun u =>
gb a true (evFa 2 d) fun n =>
gb a true (evLd false 1 n h1) fun A =>
gb a true (y6 .eql u A) fun B =>
gb a true (some B) fun b =>
gb b false (evFa 0 d) fun j =>
gb b false (evLd false 1 j h1) fun v =>
gb b false (y6 .eql v (.int .i64 9)) fun p =>
gb b false (some p) fun c =>
gb c true (some e) fun i =>
gb c true (evFa 3 d) fun m =>
gb c true (evLd false 1 m h1) fun t =>
gb c true (y6 .eql i t) fun y =>
gb b false (yb c y (.bool false)) fun l =>
gb a true (yb b (.bool true) l) fun x =>
ob (yb a x (.bool false)) fun r =>
cnd r
 ((yd h1 (.bool false)))
 ((y183 z k d g h1))
def y2hc (s : St) : OX := y200 (s 1) (s 3) (s 7) (s 8) (s 10) s.h
theorem y1vu : T1 y1a2 y3s (y4 1 y3s (y4 0 y32 xN)) [.t 6] y2hc := fun _ => by kernel_rfl
def y1o7 (i g a d b : AV) (h : Heap) : OX :=
ob (evLd true 9 a h) fun e =>
ob (evLd true 9 b h) fun j =>
oh (y7 E (y8 E) 0 none true 175 [e, j] h) fun c h2 =>
cnd c
 ((yd h2 (.bool true)))
 ((y200 i g a d b h2))
def y2da (s : St) : OX := y1o7 (s 1) (s 3) (s 7) (s 8) (s 10) s.h
theorem y1lh : T1 y178 y3s (y4 1 y3s (y4 0 y32 xN)) [.t 6] y2da := sq y1vu fun _ => by kernel_rfl
def y17z (l b k a : AV) (h : Heap) : OX :=
ob (evFa 3 b) fun j =>
ob (evLd false 1 j h) fun i =>
ob (y6 .sub a (.int .i64 1)) fun d =>
ob (yn 9 i d) fun e =>
ob (evLd true 9 e h) fun g =>
oh (newC 0 (some 2) [(.int .i64 0), (.int .i64 0), (.int .i64 0), (.int .i64 0), (.int .i64 0), (.int .i64 0), (.int .i64 0), (.str []), .nils] h) fun c h3 =>
oh (evSt 9 c g h3) fun _ h4 =>
(y1o7 l b k a c h4)
def y7b (s : St) : OX := y17z (s 1) (s 3) (s 7) (s 8) s.h
theorem y1o6 : T1 y12o y3s (y4 1 y3s (y4 0 y32 xN)) [.t 6] y7b := sq y1lh fun _ => by kernel_rfl
def ykp (e d c a b : AV) (h : Heap) : OX :=
  W E 0 yj0 ⟨[(1, e), (3, d), (7, c), (8, a), (9, b)], h⟩ y7b (y4 2 y7b (y4 1 y3s (y4 0 y32 xN))) (finP [.t 6])
def yc4 (s : St) : OX := ykp (s 1) (s 3) (s 7) (s 8) (s 9) s.h
theorem ymy : T1 yj0 y7b (y4 2 y7b (y4 1 y3s (y4 0 y32 xN))) [.t 6] yc4 := fun s => yf.trans (by kernel_rfl)
def y1y1 (g e d a b : AV) (h : Heap) : OX :=
ob (y6 .add b (.int .i64 1)) fun c =>
(ykp g e d a c h)
def y2c7 (s : St) : OX := y1y1 (s 1) (s 3) (s 7) (s 8) (s 9) s.h
theorem y1r2 : T1 y19d yc4 (y4 2 y7b (y4 1 y3s (y4 0 y32 xN))) [.t 6] y2c7 := fun _ => by kernel_rfl
def y1kc (c g e a b : AV) (h : Heap) : OX :=
ob (yn 1 c b) fun i =>
ob (evLd false 1 i h) fun d =>
ob (y6 .eql d a) fun j =>
cnd j
 ((yd h (.bool false)))
 ((y1y1 c g e a b h))
def y2d5 (s : St) : OX := y1kc (s 1) (s 3) (s 7) (s 8) (s 9) s.h
theorem y1n7 : T1 y1ag yc4 (y4 2 y7b (y4 1 y3s (y4 0 y32 xN))) [.t 6] y2d5 := sq y1r2 fun _ => by kernel_rfl
def yqw (a e d b c : AV) (h : Heap) : OX :=
ob (yv 1 a h) fun i =>
ob (y6 .lss c i) fun g =>
cnd g
 ((y1kc a e d b c h))
 ((y17z a e d b h))
def y273 (s : St) : OX := yqw (s 1) (s 3) (s 7) (s 8) (s 9) s.h
theorem y1gu : T1 ytw yc4 (y4 2 y7b (y4 1 y3s (y4 0 y32 xN))) [.t 6] y273 := sq y1n7 fun _ => by kernel_rfl
theorem yov (e d c a b : AV) (h : Heap) : ykp e d c a b h = (yqw e d c a b h) :=
  y1o.trans ((y14 _ _ _ (n' := yc4) (fun s => ymy s)).trans ((y1gu _).trans (by kernel_rfl)))
theorem y1e7 : T1 yw8 y7b (y4 1 y3s (y4 0 y32 xN)) [.t 6] yc4 := fun s => yq.trans (ymy s)
def y02 (d c b a : AV) (h : Heap) : OX :=
(ykp d c b a (.int .i64 0) h)
def yhh (s : St) : OX := y02 (s 1) (s 3) (s 7) (s 8) s.h
theorem y1gv : T1 ytn y7b (y4 1 y3s (y4 0 y32 xN)) [.t 6] yhh := sq y1e7 fun _ => by kernel_rfl
theorem y1h2 : T1 yv8 y3s (y4 1 y3s (y4 0 y32 xN)) [.t 6] yhh := sq y1o6 y1gv
theorem y1ec : T1 yxk y3s (y4 0 y32 xN) [.t 6] yhh := fun s => yq.trans (y1h2 s)
theorem y1er : T1 yxf yby (y4 0 y32 xN) [.t 6] yhh := sq y1se y1ec
def ypw (e d b a : AV) (h : Heap) : OX :=
ob (y6 .gtr a (.int .i64 0)) fun c =>
cnd c
 ((y02 e d b a h))
 ((y2ai h))
def y23m (s : St) : OX := ypw (s 1) (s 3) (s 7) (s 8) s.h
theorem y1cj : T1 yvg yby (y4 0 y32 xN) [.t 6] y23m := sq y1er fun _ => by kernel_rfl
theorem ynn (d c b a : AV) (h : Heap) : yhv d c b a h = (ypw d c b a h) :=
  y1o.trans ((y14 _ _ _ (n' := yby) (fun s => yo9 s)).trans ((y1cj _).trans (by kernel_rfl)))
theorem y1ev : T1 yrm y32 xN [.t 6] yby := fun s => yq.trans (yo9 s)
def yy2 (d b c a : AV) (h : Heap) : OX :=
(yhv d c a b h)
def y123 (s : St) : OX := yy2 (s 1) (s 2) (s 3) (s 7) s.h
theorem y1g9 : T1 yvj y32 xN [.t 6] y123 := sq y1ev fun _ => by kernel_rfl
theorem y1go : T0 yub [.t 6] y123 := sq y205 y1g9
def yzn (i a b : AV) (h : Heap) : OX :=
ob (evFa 3 b) fun j =>
ob (evLd false 1 j h) fun e =>
ob (yn 9 e a) fun g =>
ob (evLd true 9 g h) fun d =>
oh (newC 0 (some 1) [(.int .i64 0), (.int .i64 0), (.int .i64 0), (.int .i64 0), (.int .i64 0), (.int .i64 0), (.int .i64 0), (.str []), .nils] h) fun c h5 =>
oh (evSt 9 c d h5) fun _ h6 =>
(yy2 i a b c h6)
def y248 (s : St) : OX := yzn (s 1) (s 2) (s 3) s.h
theorem y1gc : T0 ysp [.t 6] y248 := sq y1go fun _ => by kernel_rfl
def y0f (a d b : AV) (h : Heap) : OX :=
oh (newC 0 (some 0) (cellsOf a) h) fun c h7 =>
(yzn d b c h7)
def y28f (s : St) : OX := y0f (s 0) (s 1) (s 2) s.h
theorem y1cn : T0 ytv [.t 6] y28f := sq y1gc fun _ => by kernel_rfl
@[simp] theorem y2qy : E.pure 174 = true := rfl
theorem y2nu (a c b : AV) : (y8 E).p 174 [a, c, b] = y0f a c b [⟨0, .dead⟩, ⟨0, .dead⟩, ⟨0, .dead⟩] :=
  (yr (cf := y2ae) (by kernel_rfl) rfl).trans ((y1cn _).trans (by kernel_rfl))
def y1wq (b : AV) (h : Heap) : OX :=
oh (y10 0 (some 0) 1 3 [(.int .i64 0)] [(0, (.int .i64 27)), (1, (.int .i64 30)), (2, (.int .i64 31))] h) fun c h1 =>
oh (y7 E (y8 E) 0 none true 42 [b, c] h1) fun a h2 =>
(yd h2 a)
def y2d9 (s : St) : OX := y1wq (s 0) s.h
theorem y1mw : T0 y1cc [.t 2] y2d9 := fun _ => by kernel_rfl
@[simp] theorem y2td : E.pure 25 = true := rfl
theorem y2nj (a : AV) : (y8 E).p 25 [a] = y1wq a [⟨0, .dead⟩] :=
  (yr (cf := y29w) (by kernel_rfl) rfl).trans ((y1mw _).trans (by kernel_rfl))
def yw1 (e b : AV) (h : Heap) : OX :=
ob (evFa 0 b) fun c =>
ob (evLd false 1 c h) fun d =>
ob (yn 1 d e) fun g =>
ob (evLd false 1 g h) fun a =>
(yd h a)
def y2iq (s : St) : OX := yw1 (s 1) (s 2) s.h
theorem y209 : T0 y1am [.t 4] y2iq := fun _ => by kernel_rfl
def yv4 (b c : AV) (h : Heap) : OX :=
ob (y6 .lss b (.int .i64 0)) fun a =>
gb a false (some b) fun e =>
gb a false (evFa 0 c) fun g =>
gb a false (evLd false 1 g h) fun k =>
gb a false (yv 1 k h) fun d =>
gb a false (y6 .geq e d) fun j =>
ob (yb a (.bool true) j) fun i =>
cnd i
 ((yd h (.int .i64 0)))
 ((yw1 b c h))
def y2cn (s : St) : OX := yv4 (s 1) (s 2) s.h
theorem y1w7 : T0 y1aw [.t 4] y2cn := sq y209 fun _ => by kernel_rfl
def yrn (a c : AV) (h : Heap) : OX :=
oh (newC 0 (some 0) (cellsOf a) h) fun b h1 =>
(yv4 c b h1)
def y2id (s : St) : OX := yrn (s 0) (s 1) s.h
theorem y1zo : T0 y19g [.t 4] y2id := sq y1w7 fun _ => by kernel_rfl
@[simp] theorem y2ta : E.pure 48 = true := rfl
theorem y2my (a b : AV) : (y8 E).p 48 [a, b] = yrn a b [⟨0, .dead⟩] :=
  (yr (cf := y2ba) (by kernel_rfl) rfl).trans ((y1zo _).trans (by kernel_rfl))
def yor (h : Heap) : OX :=
(yd h (.bool false))
def y7d (s : St) : OX := yor s.h
theorem y1z9 : T0 y17r [.t 4] y7d := fun _ => by kernel_rfl
def yk5 (b c a : AV) (h : Heap) : OX :=
  W E 0 yhw ⟨[(0, b), (1, c), (5, a)], h⟩ y7d (y4 0 y7d xN) (finP [.t 4])
def ybm (s : St) : OX := yk5 (s 0) (s 1) (s 5) s.h
theorem yoa : T1 yhw y7d (y4 0 y7d xN) [.t 4] ybm := fun s => yf.trans (by kernel_rfl)
def ymo (b d a : AV) (h : Heap) : OX :=
ob (y6 .add a (.int .i64 1)) fun c =>
(yk5 b d c h)
def y2fe (s : St) : OX := ymo (s 0) (s 1) (s 5) s.h
theorem y1ud : T1 y12h ybm (y4 0 y7d xN) [.t 4] y2fe := fun _ => by kernel_rfl
def yoy (b c a : AV) (h : Heap) : OX :=
ob (yn 1 c a) fun e =>
ob (evLd false 1 e h) fun g =>
ob (y6 .eql g b) fun d =>
cnd d
 ((yd h (.bool true)))
 ((ymo b c a h))
def y2d0 (s : St) : OX := yoy (s 0) (s 1) (s 5) s.h
theorem y1mu : T1 y18d ybm (y4 0 y7d xN) [.t 4] y2d0 := sq y1ud fun _ => by kernel_rfl
def ymz (d b a : AV) (h : Heap) : OX :=
ob (yv 1 b h) fun c =>
ob (y6 .lss a c) fun e =>
cnd e
 ((yoy d b a h))
 ((yor h))
def y2cr (s : St) : OX := ymz (s 0) (s 1) (s 5) s.h
theorem y1zr : T1 y143 ybm (y4 0 y7d xN) [.t 4] y2cr := sq y1mu fun _ => by kernel_rfl
theorem ynh (b c a : AV) (h : Heap) : yk5 b c a h = (ymz b c a h) :=
  y1o.trans ((y14 _ _ _ (n' := ybm) (fun s => yoa s)).trans ((y1zr _).trans (by kernel_rfl)))
theorem y1r8 : T1 y13f y7d xN [.t 4] ybm := fun s => yq.trans (yoa s)
def yn3 (a b : AV) (h : Heap) : OX :=
(yk5 a b (.int .i64 0) h)
def y1l7 (s : St) : OX := yn3 (s 0) (s 1) s.h
theorem y1wh : T1 y171 y7d xN [.t 4] y1l7 := sq y1r8 fun _ => by kernel_rfl
theorem y1iu : T0 y16j [.t 4] y1l7 := sq y1z9 y1wh
def ynl (a b : AV) (h : Heap) : OX :=
(yn3 a b h)
def y2e4 (s : St) : OX := ynl (s 0) (s 1) s.h
theorem y1ou : T0 y14l [.t 4] y2e4 := sq y1iu fun _ => by kernel_rfl
@[simp] theorem y2rr : E.pure 42 = true := rfl
theorem y2ks (a b : AV) : (y8 E).p 42 [a, b] = ynl a b [] :=
  (yr (cf := y2ag) (by kernel_rfl) rfl).trans ((y1ou _).trans (by kernel_rfl))
end
end Go.Vm
