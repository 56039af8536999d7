/- Functions of the machine as plain functions that go on with what follows. -/
import Derived.Test.YtgbajicpokolcaaHEnv
set_option linter.unusedSimpArgs false
set_option linter.unusedVariables false
set_option linter.unusedSectionVars false
namespace Go.Vm
noncomputable section
def y2eb (b : AV) (h : Heap) : OX :=
ob (evLd true 5 b h) fun e =>
ofp (y2k E (y8 E) 0 none true 171 [e] h) fun f1 =>
oh (y7 E (y8 E) 0 none true 171 [e] h) fun i h1 =>
ob (evUn .not i) fun a =>
ofp (fgd a false (some (ids1 b, []))) fun f4 =>
gb a false (evLd true 5 b h1) fun g =>
ofp (fgd a false (some (ids1 b, []))) fun f5 =>
gb a false (evLd true 5 b h1) fun c =>
ofp (fgd a false (y2k E (y8 E) 0 none true 166 [c] h1)) fun f6 =>
gh a false (y7 E (y8 E) 0 none true 166 [c] h1) h1 fun d h2 =>
ofp (fgd a false (y2k E (y8 E) 0 none true 172 [g, d] h2)) fun f7 =>
gh a false (y7 E (y8 E) 0 none true 172 [g, d] h2) h2 fun k h3 =>
ob (yb a (.bool true) k) fun j =>
okK (ye [(ids1 b, []), f1, ([], []), ([], []), f4, f5, f6, f7, ([], []), ([], [])] [(4, 6)]) <|
(yd h3 j)
def y2np (s : St) : OX := y2eb (s 1) s.h
theorem y22t : T0 y1kl [.t 2] y2np := fun _ => by kernel_rfl
def y2ir (b : AV) (h : Heap) : OX :=
oh (y7 E (y8 E) 0 none true 165 [] h) fun c h4 =>
ob (evUn .not c) fun a =>
cnd a
 ((yd h4 (.bool false)))
 ((y2eb b h4))
def y2mn (s : St) : OX := y2ir (s 1) s.h
theorem y26j : T0 y1nb [.t 2] y2mn := sq y22t fun _ => by kernel_rfl
def y2i4 (b : AV) (h : Heap) : OX :=
oh (newC 0 (some 0) (cellsOf b) h) fun a h5 =>
(y2ir a h5)
def y2p2 (s : St) : OX := y2i4 (s 0) s.h
theorem y243 : T0 y1zt [.t 2] y2p2 := sq y26j fun _ => by kernel_rfl
@[simp] theorem y2qs : E.pure 163 = true := rfl
theorem y2rr (a : AV) : (y8 E).p 163 [a] = y2i4 a [⟨0, .dead⟩] :=
  (yr (cf := y2o7) (by kernel_rfl) rfl).trans ((y243 _).trans (by kernel_rfl))
def y1ic (a c : AV) (h : Heap) : OX :=
ob (evLd true 5 c h) fun b =>
oh (evSt 5 a b h) fun _ h1 =>
(ob (evLd true 5 a h1) fun r0 =>
  yd h1 r0)
def ya9 (s : St) : OX := y1ic (s 2) (s 3) s.h
theorem y272 : T0 y1yc [.cell 2 true 5] ya9 := fun _ => by kernel_rfl
def ysb (a d b c : AV) (h : Heap) : OX :=
  W E 0 yqd ⟨[(2, a), (3, d), (22, b), (23, c)], h⟩ ya9 (y4 0 ya9 xN) (finP [.cell 2 true 5])
def yd1 (s : St) : OX := ysb (s 2) (s 3) (s 22) (s 23) s.h
theorem yt2 : T1 yqd ya9 (y4 0 ya9 xN) [.cell 2 true 5] yd1 := fun s => yf.trans (by kernel_rfl)
def y2in (b c d a : AV) (h : Heap) : OX :=
ob (y6 .add a (.int .i64 1)) fun e =>
(ysb b c d e h)
def y2n9 (s : St) : OX := y2in (s 2) (s 3) (s 22) (s 23) s.h
theorem y28y : T1 y1i7 yd1 (y4 0 ya9 xN) [.cell 2 true 5] y2n9 := fun _ => by kernel_rfl
def y2fp (l b o a : AV) (h : Heap) : OX :=
ob (evFa 3 b) fun c =>
ob (evLd false 1 c h) fun p =>
ob (evFa 3 b) fun e =>
ob (evLd false 1 e h) fun k =>
ob (yn 9 k a) fun j =>
ob (evFa 8 j) fun g =>
ob (evLd false 1 g h) fun d =>
ofp (y2k E (y8 E) 0 none true 39 [d] h) fun f9 =>
oh (y7 E (y8 E) 0 none true 39 [d] h) fun m h2 =>
ob (yn 9 p a) fun n =>
ob (evFa 8 n) fun i =>
oh (evSt 1 i m h2) fun _ h3 =>
okK (ye [([], []), (ids1 c, []), ([], []), ([], []), (ids1 e, []), ([], []), ([], []), ([], []), (ids1 g, []), f9, ([], []), ([], []), ([], ids1 i)] [(1, 9)]) <|
(y2in l b o a h3)
def y2nb (s : St) : OX := y2fp (s 2) (s 3) (s 22) (s 23) s.h
theorem y21s : T1 y1tu yd1 (y4 0 ya9 xN) [.cell 2 true 5] y2nb := sq y28y fun _ => by kernel_rfl
def y219 (a b e c d : AV) (h : Heap) : OX :=
cnd d
 ((y2fp a b e c h))
 ((y1ic a b h))
def y2lm (s : St) : OX := y219 (s 2) (s 3) (s 22) (s 23) (s 24) s.h
theorem y28q : T1 y1kc yd1 (y4 0 ya9 xN) [.cell 2 true 5] y2lm := sq y21s fun _ => by kernel_rfl
def y214 (c d b a : AV) (h : Heap) : OX :=
ob (y6 .lss a b) fun e =>
(y219 c d b a e h)
def y2q2 (s : St) : OX := y214 (s 2) (s 3) (s 22) (s 23) s.h
theorem y257 : T1 y1ts yd1 (y4 0 ya9 xN) [.cell 2 true 5] y2q2 := sq y28q fun _ => by kernel_rfl
theorem yui (a d b c : AV) (h : Heap) : ysb a d b c h = (y214 a d b c h) :=
  y1q.trans ((y14 _ _ _ (n' := yd1) (fun s => yt2 s)).trans ((y257 _).trans (by kernel_rfl)))
theorem y27t : T1 y1qi ya9 xN [.cell 2 true 5] yd1 := fun s => yp.trans (yt2 s)
def y1ww (b a : AV) (h : Heap) : OX :=
ob (evFa 3 a) fun c =>
ob (evLd false 1 c h) fun d =>
ob (yv 1 d h) fun e =>
(ysb b a e (.int .i64 0) h)
def y2an (s : St) : OX := y1ww (s 2) (s 3) s.h
theorem y28u : T1 y1kv ya9 xN [.cell 2 true 5] y2an := sq y27t fun _ => by kernel_rfl
theorem y226 : T0 y1jq [.cell 2 true 5] y2an := sq y272 y28u
def yrp (a p : AV) (h : Heap) : OX :=
ob (evFa 0 a) fun l =>
ob (evLd false 1 l h) fun d =>
ofp (y2k E (y8 E) 0 (some 2) false 39 [d] h) fun f2 =>
oh (y7 E (y8 E) 0 (some 2) false 39 [d] h) fun v h4 =>
ob (evFa 1 a) fun g =>
ob (evLd false 1 g h4) fun m =>
ofp (y2k E (y8 E) 0 (some 3) false 39 [m] h4) fun f5 =>
oh (y7 E (y8 E) 0 (some 3) false 39 [m] h4) fun n h5 =>
ob (evFa 2 a) fun e =>
ob (evLd false 1 e h5) fun t =>
ob (evFa 3 a) fun k =>
ob (evLd false 1 k h5) fun j =>
ofp (y2k E (y8 E) 0 (some 4) false 40 [j] h5) fun f10 =>
oh (y7 E (y8 E) 0 (some 4) false 40 [j] h5) fun o h6 =>
ob (evFa 4 a) fun i =>
ob (evLd false 1 i h6) fun c =>
ofp (y2k E (y8 E) 0 (some 5) false 41 [c] h6) fun f13 =>
oh (y7 E (y8 E) 0 (some 5) false 41 [c] h6) fun u h7 =>
ob (yx [.nils, .nils, (.int .i64 0), .nils, .nils] [(0, 1, v), (1, 1, n), (2, 1, t), (3, 1, o), (4, 1, u)]) fun r =>
oh (newC 0 (some 6) [.nils, .nils, (.int .i64 0), .nils, .nils] h7) fun b h8 =>
oh (evSt 5 b r h8) fun _ h9 =>
okK (ye [([], []), (ids1 l, []), f2, ([], []), (ids1 g, []), f5, ([], []), (ids1 e, []), ([], []), (ids1 k, []), f10, ([], []), (ids1 i, []), f13, ([], []), ([], [0 + 6]), ([], ids1 b)] [(2, 4), (2, 7), (5, 7), (2, 9), (5, 9), (7, 10), (2, 12), (5, 12), (10, 12), (7, 13), (1, 15), (2, 15), (4, 15), (5, 15), (7, 15), (9, 15), (10, 15), (12, 15), (13, 15)]) <|
(y1ww p b h9)
def y2da (s : St) : OX := yrp (s 1) (s 2) s.h
theorem y1id : T0 y17l [.cell 2 true 5] y2da := sq y226 fun _ => by kernel_rfl
def y140 (c : AV) (h : Heap) : OX :=
oh (newC 0 (some 0) (cellsOf c) h) fun b h10 =>
oh (newC 0 (some 1) [.nils, .nils, (.int .i64 0), .nils, .nils] h10) fun a h11 =>
(yrp b a h11)
def y2cd (s : St) : OX := y140 (s 0) s.h
theorem y1v0 : T0 y121 [.cell 2 true 5] y2cd := sq y1id fun _ => by kernel_rfl
@[simp] theorem y2t4 : E.pure 13 = true := rfl
theorem y2ta (a : AV) : (y8 E).p 13 [a] = y140 a [⟨0, .dead⟩, ⟨0, .dead⟩, ⟨0, .dead⟩, ⟨0, .dead⟩, ⟨0, .dead⟩, ⟨0, .dead⟩, ⟨0, .dead⟩] :=
  (yr (cf := y2pb) (by kernel_rfl) rfl).trans ((y1v0 _).trans (by kernel_rfl))
def y1s0 (h : Heap) : OX :=
(yd h (.bool true))
def y7j (s : St) : OX := y1s0 s.h
theorem y1k1 : T0 y14h [.t 4] y7j := fun _ => by kernel_rfl
def yk3 (a c b : AV) (h : Heap) : OX :=
  W E 0 ylq ⟨[(2, a), (3, c), (6, b)], h⟩ y7j (y4 2 y7j xN) (finP [.t 4])
def ybn (s : St) : OX := yk3 (s 2) (s 3) (s 6) s.h
theorem ynk : T1 ylq y7j (y4 2 y7j xN) [.t 4] ybn := fun s => yf.trans (by kernel_rfl)
def y17i (a d c : AV) (h : Heap) : OX :=
ob (y6 .add c (.int .i64 1)) fun b =>
(yk3 a d b h)
def y2g0 (s : St) : OX := y17i (s 2) (s 3) (s 6) s.h
theorem y1n7 : T1 y120 ybn (y4 2 y7j xN) [.t 4] y2g0 := fun _ => by kernel_rfl
def y188 (b c a : AV) (h : Heap) : OX :=
ob (evFa 4 b) fun j =>
ob (evLd false 1 j h) fun d =>
ob (yn 4 d a) fun g =>
ob (evLd true 4 g h) fun m =>
ob (evFa 4 c) fun i =>
ob (evLd false 1 i h) fun n =>
ob (yn 4 n a) fun k =>
ob (evLd true 4 k h) fun l =>
ob (y1jj true [0, 0, 0, 2] m l) fun e =>
cnd e
 ((yd h (.bool false)))
 ((y17i b c a h))
def y2je (s : St) : OX := y188 (s 2) (s 3) (s 6) s.h
theorem y1n3 : T1 y12b ybn (y4 2 y7j xN) [.t 4] y2je := sq y1n7 fun _ => by kernel_rfl
def yvx (b e a : AV) (h : Heap) : OX :=
ob (evFa 4 b) fun c =>
ob (evLd false 1 c h) fun d =>
ob (yv 1 d h) fun g =>
ob (y6 .lss a g) fun i =>
cnd i
 ((y188 b e a h))
 ((y1s0 h))
def y2gv (s : St) : OX := yvx (s 2) (s 3) (s 6) s.h
theorem y1s2 : T1 y15h ybn (y4 2 y7j xN) [.t 4] y2gv := sq y1n3 fun _ => by kernel_rfl
theorem ymn (a c b : AV) (h : Heap) : yk3 a c b h = (yvx a c b h) :=
  y1q.trans ((y14 _ _ _ (n' := ybn) (fun s => ynk s)).trans ((y1s2 _).trans (by kernel_rfl)))
theorem y1ve : T1 y1au y7j xN [.t 4] ybn := fun s => yp.trans (ynk s)
def y1ud (a b : AV) (h : Heap) : OX :=
(yk3 a b (.int .i64 0) h)
def y6m (s : St) : OX := y1ud (s 2) (s 3) s.h
theorem y1lm : T1 y14i y7j xN [.t 4] y6m := sq y1ve fun _ => by kernel_rfl
theorem y1jv : T0 y1bf [.t 4] y6m := sq y1k1 y1lm
def yjn (a c b : AV) (h : Heap) : OX :=
  W E 0 yld ⟨[(2, a), (3, c), (5, b)], h⟩ y6m (y4 0 y6m xN) (finP [.t 4])
def yc2 (s : St) : OX := yjn (s 2) (s 3) (s 5) s.h
theorem yok : T1 yld y6m (y4 0 y6m xN) [.t 4] yc2 := fun s => yf.trans (by kernel_rfl)
def yza (a d b : AV) (h : Heap) : OX :=
ob (y6 .add b (.int .i64 1)) fun c =>
(yjn a d c h)
def y28g (s : St) : OX := yza (s 2) (s 3) (s 5) s.h
theorem y1ch : T1 yvs yc2 (y4 0 y6m xN) [.t 4] y28g := fun _ => by kernel_rfl
def yq6 (b c a : AV) (h : Heap) : OX :=
ob (evFa 3 b) fun j =>
ob (evLd false 1 j h) fun m =>
ob (yn 9 m a) fun e =>
ob (evLd true 9 e h) fun n =>
ob (evFa 3 c) fun k =>
ob (evLd false 1 k h) fun o =>
ob (yn 9 o a) fun g =>
ob (evLd true 9 g h) fun d =>
oh (y7 E (y8 E) 0 none true 28 [n, d] h) fun i h1 =>
ob (evUn .not i) fun l =>
cnd l
 ((yd h1 (.bool false)))
 ((yza b c a h1))
def y240 (s : St) : OX := yq6 (s 2) (s 3) (s 5) s.h
theorem y1f4 : T1 yx6 yc2 (y4 0 y6m xN) [.t 4] y240 := sq y1ch fun _ => by kernel_rfl
def yiz (a b c : AV) (h : Heap) : OX :=
ob (evFa 3 a) fun e =>
ob (evLd false 1 e h) fun i =>
ob (yv 1 i h) fun d =>
ob (y6 .lss c d) fun g =>
cnd g
 ((yq6 a b c h))
 ((y1ud a b h))
def y22l (s : St) : OX := yiz (s 2) (s 3) (s 5) s.h
theorem y1cv : T1 ytz yc2 (y4 0 y6m xN) [.t 4] y22l := sq y1f4 fun _ => by kernel_rfl
theorem yoh (a c b : AV) (h : Heap) : yjn a c b h = (yiz a c b h) :=
  y1q.trans ((y14 _ _ _ (n' := yc2) (fun s => yok s)).trans ((y1cv _).trans (by kernel_rfl)))
theorem y1dk : T1 yv0 y6m xN [.t 4] yc2 := fun s => yp.trans (yok s)
def yzp (a b : AV) (h : Heap) : OX :=
(yjn a b (.int .i64 0) h)
def y15m (s : St) : OX := yzp (s 2) (s 3) s.h
theorem y1fz : T1 yu4 y6m xN [.t 4] y15m := sq y1dk fun _ => by kernel_rfl
theorem y1da : T0 ywq [.t 4] y15m := sq y1jv y1fz
def yb5 (d g : AV) (h : Heap) : OX :=
ob (evFa 0 d) fun F =>
ob (evLd false 1 F h) fun A =>
ob (evFa 0 g) fun x =>
ob (evLd false 1 x h) fun y =>
oh (y7 E (y8 E) 0 none true 11 [A, y] h) fun G h2 =>
ob (evUn .not G) fun c =>
gb c false (evFa 1 d) fun M =>
gb c false (evLd false 1 M h2) fun z =>
gb c false (evFa 1 g) fun B =>
gb c false (evLd false 1 B h2) fun j =>
gh c false (y7 E (y8 E) 0 none true 11 [z, j] h2) h2 fun w h3 =>
gb c false (evUn .not w) fun C =>
ob (yb c (.bool true) C) fun e =>
gb e false (evFa 2 d) fun n =>
gb e false (evLd false 1 n h3) fun i =>
gb e false (evFa 2 g) fun N =>
gb e false (evLd false 1 N h3) fun K =>
gb e false (y6 .neq i K) fun k =>
ob (yb e (.bool true) k) fun b =>
gb b false (evFa 3 d) fun l =>
gb b false (evLd false 1 l h3) fun r =>
gb b false (yv 1 r h3) fun u =>
gb b false (evFa 3 g) fun H =>
gb b false (evLd false 1 H h3) fun O =>
gb b false (yv 1 O h3) fun t =>
gb b false (y6 .neq u t) fun o =>
ob (yb b (.bool true) o) fun a =>
gb a false (evFa 4 d) fun I =>
gb a false (evLd false 1 I h3) fun p =>
gb a false (yv 1 p h3) fun D =>
gb a false (evFa 4 g) fun m =>
gb a false (evLd false 1 m h3) fun J =>
gb a false (yv 1 J h3) fun L =>
gb a false (y6 .neq D L) fun v =>
ob (yb a (.bool true) v) fun P =>
cnd P
 ((yd h3 (.bool false)))
 ((yzp d g h3))
def y24e (s : St) : OX := yb5 (s 2) (s 3) s.h
theorem y1gc : T0 yxj [.t 4] y24e := sq y1da fun _ => by kernel_rfl
def yao (d c : AV) (h : Heap) : OX :=
oh (newC 0 (some 0) (cellsOf d) h) fun a h4 =>
oh (newC 0 (some 1) (cellsOf c) h4) fun b h5 =>
(yb5 a b h5)
def y233 (s : St) : OX := yao (s 0) (s 1) s.h
theorem y1ht : T0 ywa [.t 4] y233 := sq y1gc fun _ => by kernel_rfl
@[simp] theorem y2uv : E.pure 14 = true := rfl
theorem y2nm (b a : AV) : (y8 E).p 14 [b, a] = yao b a [⟨0, .dead⟩, ⟨0, .dead⟩] :=
  (yr (cf := y2bd) (by kernel_rfl) rfl).trans ((y1ht _).trans (by kernel_rfl))
def y2g7 (h : Heap) : OX :=
(yd h (.int .i64 0))
def yai (s : St) : OX := y2g7 s.h
theorem y25r : T0 y1yt [.t 2] yai := fun _ => by kernel_rfl
def ymg (e c a d b : AV) (h : Heap) : OX :=
  W E 0 yrd ⟨[(1, e), (3, c), (136, a), (137, d), (138, b)], h⟩ yai (y4 6 yai xN) (finP [.t 2])
def yd0 (s : St) : OX := ymg (s 1) (s 3) (s 136) (s 137) (s 138) s.h
theorem ytv : T1 yrd yai (y4 6 yai xN) [.t 2] yd0 := fun s => yf.trans (by kernel_rfl)
def y2j6 (g c a d b : AV) (h : Heap) : OX :=
ob (y6 .add b (.int .i64 1)) fun e =>
(ymg g c a d e h)
def y2mh (s : St) : OX := y2j6 (s 1) (s 3) (s 136) (s 137) (s 138) s.h
theorem y22m : T1 y1qr yd0 (y4 6 yai xN) [.t 2] y2mh := fun _ => by kernel_rfl
def yr8 (j i l z k : AV) (h : Heap) : OX :=
ob (yn 4 l k) fun r =>
ob (evLd true 4 r h) fun R =>
oh (newC 0 (some 2) [(.int .i64 0), (.int .i64 0), (.int .i64 0), (.str [])] h) fun b h1 =>
oh (evSt 4 b R h1) fun _ h2 =>
ob (evFa 0 b) fun m =>
ob (evLd false 1 m h2) fun t =>
ob (y6 .lss t (.int .i64 0)) fun c =>
gb c false (evFa 0 b) fun L =>
gb c false (evLd false 1 L h2) fun G =>
gb c false (evFa 1 b) fun Q =>
gb c false (evLd false 1 Q h2) fun v =>
gb c false (y6 .geq G v) fun x =>
ob (yb c (.bool true) x) fun d =>
gb d false (evFa 1 b) fun n =>
gb d false (evLd false 1 n h2) fun w =>
gb d false (some i) fun y =>
gb d false (y6 .gtr w y) fun F =>
ob (yb d (.bool true) F) fun g =>
gb g false (evFa 2 b) fun u =>
gb g false (evLd false 1 u h2) fun p =>
gb g false (y6 .lss p (.int .i64 0)) fun M =>
ob (yb g (.bool true) M) fun e =>
gb e false (evFa 2 b) fun C =>
gb e false (evLd false 1 C h2) fun J =>
gb e false (some i) fun K =>
gb e false (y6 .geq J K) fun H =>
ob (yb e (.bool true) H) fun a =>
gb a false (evFa 3 j) fun N =>
gb a false (evLd false 1 N h2) fun B =>
gb a false (evFa 2 b) fun o =>
gb a false (evLd false 1 o h2) fun S =>
gb a false (yn 9 B S) fun P =>
gb a false (evFa 0 P) fun O =>
gb a false (evLd false 1 O h2) fun A =>
gb a false (y6 .neq A (.int .i64 32)) fun D =>
ob (yb a (.bool true) D) fun I =>
cnd I
 ((yd h2 (.int .i64 80)))
 ((y2j6 j i l z k h2))
def y2ok (s : St) : OX := yr8 (s 1) (s 3) (s 136) (s 137) (s 138) s.h
theorem y292 : T1 y1lj yd0 (y4 6 yai xN) [.t 2] y2ok := sq y22m fun _ => by kernel_rfl
def y20z (g d a e b c : AV) (h : Heap) : OX :=
cnd c
 ((yr8 g d a e b h))
 ((y2g7 h))
def y2m7 (s : St) : OX := y20z (s 1) (s 3) (s 136) (s 137) (s 138) (s 139) s.h
theorem y22z : T1 y1wa yd0 (y4 6 yai xN) [.t 2] y2m7 := sq y292 fun _ => by kernel_rfl
def y23w (g e c b a : AV) (h : Heap) : OX :=
ob (y6 .lss a b) fun d =>
(y20z g e c b a d h)
def y2oi (s : St) : OX := y23w (s 1) (s 3) (s 136) (s 137) (s 138) s.h
theorem y24l : T1 y1u3 yd0 (y4 6 yai xN) [.t 2] y2oi := sq y22z fun _ => by kernel_rfl
theorem yu3 (e c a d b : AV) (h : Heap) : ymg e c a d b h = (y23w e c a d b h) :=
  y1q.trans ((y14 _ _ _ (n' := yd0) (fun s => ytv s)).trans ((y24l _).trans (by kernel_rfl)))
theorem y25l : T1 y1vj yai xN [.t 2] yd0 := fun s => yp.trans (ytv s)
def y1qm (b c : AV) (h : Heap) : OX :=
ob (evFa 4 b) fun e =>
ob (evLd false 1 e h) fun a =>
ob (yv 1 a h) fun d =>
(ymg b c a d (.int .i64 0) h)
def y5u (s : St) : OX := y1qm (s 1) (s 3) s.h
theorem y28k : T1 y1u6 yai xN [.t 2] y5u := sq y25l fun _ => by kernel_rfl
theorem y247 : T0 y1re [.t 2] y5u := sq y25r y28k
def yg5 (e d c b a : AV) (h : Heap) : OX :=
  W E 0 ykx ⟨[(1, e), (3, d), (92, c), (93, b), (94, a)], h⟩ y5u (y4 4 y5u xN) (finP [.t 2])
def y8j (s : St) : OX := yg5 (s 1) (s 3) (s 92) (s 93) (s 94) s.h
theorem ynt : T1 ykx y5u (y4 4 y5u xN) [.t 2] y8j := fun s => yf.trans (by kernel_rfl)
def y18q (g d c b a : AV) (h : Heap) : OX :=
ob (y6 .add a (.int .i64 1)) fun e =>
(yg5 g d c b e h)
def yaq (s : St) : OX := y18q (s 1) (s 3) (s 92) (s 93) (s 94) s.h
theorem y1vx : T1 y153 y8j (y4 4 y5u xN) [.t 2] yaq := fun _ => by kernel_rfl
def ycs (e D i g C t A : AV) (h : Heap) : OX :=
ob (evFa 0 g) fun z =>
ob (evLd false 1 z h) fun m =>
ob (y6 .eql m (.int .i64 32)) fun c =>
gb c true (some i) fun F =>
gb c true (y6 .eql F (.int .i64 0)) fun x =>
gb c true (some x) fun a =>
gb a false (evFa 3 e) fun v =>
gb a false (evLd false 1 v h) fun r =>
gb a false (some i) fun w =>
gb a false (y6 .sub w (.int .i64 1)) fun O =>
gb a false (yn 9 r O) fun j =>
gb a false (evLd true 9 j h) fun n =>
gh a false (y7 E (y8 E) 0 none true 24 [n] h) h fun k h3 =>
gb a false (evUn .not k) fun B =>
gb c true (yb a (.bool true) B) fun o =>
ob (yb c o (.bool false)) fun d =>
gb d false (evLd true 9 g h3) fun u =>
gh d false (y7 E (y8 E) 0 none true 22 [u] h3) h3 fun K h4 =>
gb d false (some K) fun b =>
gb b true (evFa 3 e) fun p =>
gb b true (evLd false 1 p h4) fun J =>
gb b true (evFa 6 g) fun H =>
gb b true (evLd false 1 H h4) fun G =>
gb b true (yn 9 J G) fun M =>
gb b true (evFa 0 M) fun L =>
gb b true (evLd false 1 L h4) fun l =>
gb b true (y6 .eql l (.int .i64 32)) fun y =>
gb d false (yb b y (.bool false)) fun I =>
ob (yb d (.bool true) I) fun N =>
cnd N
 ((yd h4 (.int .i64 80)))
 ((y18q e D C t A h4))
def y2fk (s : St) : OX := ycs (s 1) (s 3) (s 8) (s 9) (s 92) (s 93) (s 94) s.h
theorem y1uy : T1 y178 yaq (y4 5 yaq (y4 4 y5u xN)) [.t 2] y2fk := fun _ => by kernel_rfl
def y115 (a k j b i d c : AV) (h : Heap) : OX :=
ob (evLd true 5 a h) fun m =>
ob (evLd true 9 b h) fun l =>
oh (y7 E (y8 E) 0 none true 63 [m, l] h) fun e h5 =>
ob (evUn .not e) fun g =>
cnd g
 ((yd h5 (.int .i64 80)))
 ((ycs a k j b i d c h5))
def y2dz (s : St) : OX := y115 (s 1) (s 3) (s 8) (s 9) (s 92) (s 93) (s 94) s.h
theorem y1lh : T1 y14p yaq (y4 5 yaq (y4 4 y5u xN)) [.t 2] y2dz := sq y1uy fun _ => by kernel_rfl
def yul (j e b d a : AV) (h : Heap) : OX :=
ob (yn 9 b a) fun i =>
ob (evLd true 9 i h) fun g =>
oh (newC 0 (some 1) [(.int .i64 0), (.int .i64 0), (.int .i64 0), (.int .i64 0), (.int .i64 0), (.int .i64 0), (.int .i64 0), (.str []), .nils] h) fun c h6 =>
oh (evSt 9 c g h6) fun _ h7 =>
(y115 j e a c b d a h7)
def y0i (s : St) : OX := yul (s 1) (s 3) (s 92) (s 93) (s 94) s.h
theorem y1ow : T1 y1am yaq (y4 5 yaq (y4 4 y5u xN)) [.t 2] y0i := sq y1lh fun _ => by kernel_rfl
theorem y1r5 : T1 y13j yaq (y4 4 y5u xN) [.t 2] y0i := fun s => yp.trans (y1ow s)
theorem y1sg : T1 y0o y8j (y4 4 y5u xN) [.t 2] y0i := sq y1vx y1r5
def y1as (b a e d c g : AV) (h : Heap) : OX :=
cnd g
 ((yul b a e d c h))
 ((y1qm b a h))
def y2gp (s : St) : OX := y1as (s 1) (s 3) (s 92) (s 93) (s 94) (s 95) s.h
theorem y1s3 : T1 y14k y8j (y4 4 y5u xN) [.t 2] y2gp := sq y1sg fun _ => by kernel_rfl
def y15q (g d c b a : AV) (h : Heap) : OX :=
ob (y6 .lss a b) fun e =>
(y1as g d c b a e h)
def y2d4 (s : St) : OX := y15q (s 1) (s 3) (s 92) (s 93) (s 94) s.h
theorem y1lq : T1 y160 y8j (y4 4 y5u xN) [.t 2] y2d4 := sq y1s3 fun _ => by kernel_rfl
theorem yn9 (e d c b a : AV) (h : Heap) : yg5 e d c b a h = (y15q e d c b a h) :=
  y1q.trans ((y14 _ _ _ (n' := y8j) (fun s => ynt s)).trans ((y1lq _).trans (by kernel_rfl)))
theorem y1od : T1 y0v y5u xN [.t 2] y8j := fun s => yp.trans (ynt s)
def ysd (b d : AV) (h : Heap) : OX :=
ob (evFa 3 b) fun e =>
ob (evLd false 1 e h) fun a =>
ob (yv 1 a h) fun c =>
(yg5 b d a c (.int .i64 0) h)
def y5r (s : St) : OX := ysd (s 1) (s 3) s.h
theorem y1wo : T1 y13l y5u xN [.t 2] y5r := sq y1od fun _ => by kernel_rfl
theorem y1j0 : T0 y11n [.t 2] y5r := sq y247 y1wo
def yfv (e c a b d : AV) (h : Heap) : OX :=
  W E 0 yl7 ⟨[(1, e), (3, c), (62, a), (63, b), (64, d)], h⟩ y5r (y4 2 y5r xN) (finP [.t 2])
def y8t (s : St) : OX := yfv (s 1) (s 3) (s 62) (s 63) (s 64) s.h
theorem ym3 : T1 yl7 y5r (y4 2 y5r xN) [.t 2] y8t := fun s => yf.trans (by kernel_rfl)
def y1ra (g c a b e : AV) (h : Heap) : OX :=
ob (y6 .add e (.int .i64 1)) fun d =>
(yfv g c a b d h)
def y2jz (s : St) : OX := y1ra (s 1) (s 3) (s 62) (s 63) (s 64) s.h
theorem y1ot : T1 y11v y8t (y4 2 y5r xN) [.t 2] y2jz := fun _ => by kernel_rfl
def yjb (d v i n c : AV) (h : Heap) : OX :=
ob (yn 1 i c) fun j =>
ob (evLd false 1 j h) fun e =>
ob (y6 .lss e (.int .i64 0)) fun b =>
gb b false (some e) fun k =>
gb b false (evFa 0 d) fun y =>
gb b false (evLd false 1 y h) fun z =>
gb b false (yv 1 z h) fun u =>
gb b false (y6 .geq k u) fun p =>
ob (yb b (.bool true) p) fun a =>
gb a false (evFa 1 d) fun x =>
gb a false (evLd false 1 x h) fun l =>
gb a false (some c) fun B =>
gb a false (ycp 1 l none (some B)) fun o =>
gb a false (some e) fun A =>
gh a false (y7 E (y8 E) 0 none true 46 [o, A] h) h fun t h8 =>
ob (yb a (.bool true) t) fun g =>
gb g false (some c) fun w =>
gb g false (y6 .gtr w (.int .i64 20)) fun m =>
ob (yb g (.bool true) m) fun r =>
cnd r
 ((yd h8 (.int .i64 80)))
 ((y1ra d v i n c h8))
def y2cl (s : St) : OX := yjb (s 1) (s 3) (s 62) (s 63) (s 64) s.h
theorem y1ls : T1 y137 y8t (y4 2 y5r xN) [.t 2] y2cl := sq y1ot fun _ => by kernel_rfl
def y19e (b a c d g e : AV) (h : Heap) : OX :=
cnd e
 ((yjb b a c d g h))
 ((ysd b a h))
def y2ih (s : St) : OX := y19e (s 1) (s 3) (s 62) (s 63) (s 64) (s 65) s.h
theorem y1qx : T1 y16w y8t (y4 2 y5r xN) [.t 2] y2ih := sq y1ls fun _ => by kernel_rfl
def y14q (g d c a b : AV) (h : Heap) : OX :=
ob (y6 .lss b a) fun e =>
(y19e g d c a b e h)
def y2cy (s : St) : OX := y14q (s 1) (s 3) (s 62) (s 63) (s 64) s.h
theorem y1y2 : T1 y19g y8t (y4 2 y5r xN) [.t 2] y2cy := sq y1qx fun _ => by kernel_rfl
theorem yn8 (e c a b d : AV) (h : Heap) : yfv e c a b d h = (y14q e c a b d h) :=
  y1q.trans ((y14 _ _ _ (n' := y8t) (fun s => ym3 s)).trans ((y1y2 _).trans (by kernel_rfl)))
theorem y1tk : T1 y192 y5r xN [.t 2] y8t := fun s => yp.trans (ym3 s)
def yue (b e : AV) (h : Heap) : OX :=
ob (evFa 1 b) fun d =>
ob (evLd false 1 d h) fun a =>
ob (yv 1 a h) fun c =>
(yfv b e a c (.int .i64 0) h)
def y5n (s : St) : OX := yue (s 1) (s 3) s.h
theorem y1oo : T1 y111 y5r xN [.t 2] y5n := sq y1tk fun _ => by kernel_rfl
theorem y1u2 : T0 y1c2 [.t 2] y5n := sq y1j0 y1oo
def yfw (e b d a c : AV) (h : Heap) : OX :=
  W E 0 yk9 ⟨[(1, e), (3, b), (48, d), (49, a), (50, c)], h⟩ y5n (y4 0 y5n xN) (finP [.t 2])
def y8k (s : St) : OX := yfw (s 1) (s 3) (s 48) (s 49) (s 50) s.h
theorem ymi : T1 yk9 y5n (y4 0 y5n xN) [.t 2] y8k := fun s => yf.trans (by kernel_rfl)
def y1n1 (g c e b d : AV) (h : Heap) : OX :=
ob (y6 .add d (.int .i64 1)) fun a =>
(yfw g c e b a h)
def y2dn (s : St) : OX := y1n1 (s 1) (s 3) (s 48) (s 49) (s 50) s.h
theorem y1mx : T1 y118 y8k (y4 0 y5n xN) [.t 2] y2dn := fun _ => by kernel_rfl
def ytx (m i d g c : AV) (h : Heap) : OX :=
ob (yn 1 d c) fun l =>
ob (evLd false 1 l h) fun b =>
ob (y6 .lss b (.int .i64 1)) fun a =>
gb a false (some b) fun k =>
gb a false (y6 .gtr k (.int .i64 3)) fun j =>
ob (yb a (.bool true) j) fun e =>
cnd e
 ((yd h (.int .i64 80)))
 ((y1n1 m i d g c h))
def y2bw (s : St) : OX := ytx (s 1) (s 3) (s 48) (s 49) (s 50) s.h
theorem y1kh : T1 y16h y8k (y4 0 y5n xN) [.t 2] y2bw := sq y1mx fun _ => by kernel_rfl
def y13q (b a g c e d : AV) (h : Heap) : OX :=
cnd d
 ((ytx b a g c e h))
 ((yue b a h))
def y2iw (s : St) : OX := y13q (s 1) (s 3) (s 48) (s 49) (s 50) (s 51) s.h
theorem y1j2 : T1 y12a y8k (y4 0 y5n xN) [.t 2] y2iw := sq y1kh fun _ => by kernel_rfl
def y162 (g c e a b : AV) (h : Heap) : OX :=
ob (y6 .lss b a) fun d =>
(y13q g c e a b d h)
def y2k4 (s : St) : OX := y162 (s 1) (s 3) (s 48) (s 49) (s 50) s.h
theorem y1mu : T1 y1ao y8k (y4 0 y5n xN) [.t 2] y2k4 := sq y1j2 fun _ => by kernel_rfl
theorem ynd (e b d a c : AV) (h : Heap) : yfw e b d a c h = (y162 e b d a c h) :=
  y1q.trans ((y14 _ _ _ (n' := y8k) (fun s => ymi s)).trans ((y1mu _).trans (by kernel_rfl)))
theorem y1u7 : T1 y17v y5n xN [.t 2] y8k := fun s => yp.trans (ymi s)
def yov (b d : AV) (h : Heap) : OX :=
ob (evFa 0 b) fun e =>
ob (evLd false 1 e h) fun a =>
ob (yv 1 a h) fun c =>
(yfw b d a c (.int .i64 0) h)
def y1nw (s : St) : OX := yov (s 1) (s 3) s.h
theorem y1qo : T1 y19x y5n xN [.t 2] y1nw := sq y1u7 fun _ => by kernel_rfl
theorem y1o8 : T0 y154 [.t 2] y1nw := sq y1u2 y1qo
def ydw (b g : AV) (h : Heap) : OX :=
ob (y6 .lss g (.int .i64 1)) fun i =>
gb i false (some g) fun w =>
gb i false (y6 .gtr w (.int .i64 20000)) fun x =>
ob (yb i (.bool true) x) fun c =>
gb c false (evFa 0 b) fun p =>
gb c false (evLd false 1 p h) fun j =>
gb c false (yv 1 j h) fun D =>
gb c false (y6 .gtr D (.int .i64 20000)) fun B =>
ob (yb c (.bool true) B) fun d =>
gb d false (evFa 2 b) fun l =>
gb d false (evLd false 1 l h) fun m =>
gb d false (y6 .lss m (.int .i64 0)) fun t =>
ob (yb d (.bool true) t) fun e =>
gb e false (evFa 2 b) fun F =>
gb e false (evLd false 1 F h) fun u =>
gb e false (y6 .gtr u (.int .i64 3)) fun o =>
ob (yb e (.bool true) o) fun a =>
gb a false (evFa 3 b) fun z =>
gb a false (evLd false 1 z h) fun r =>
gb a false (some g) fun y =>
gb a false (y6 .sub y (.int .i64 1)) fun n =>
gb a false (yn 9 r n) fun A =>
gb a false (evLd true 9 A h) fun C =>
gh a false (y7 E (y8 E) 0 none true 24 [C] h) h fun v h9 =>
gb a false (evUn .not v) fun G =>
ob (yb a (.bool true) G) fun k =>
cnd k
 ((yd h9 (.int .i64 80)))
 ((yov b g h9))
def y2dx (s : St) : OX := ydw (s 1) (s 3) s.h
theorem y200 : T0 y1cc [.t 2] y2dx := sq y1o8 fun _ => by kernel_rfl
def ydu (a : AV) (h : Heap) : OX :=
ob (evFa 3 a) fun d =>
ob (evLd false 1 d h) fun c =>
ob (yv 1 c h) fun b =>
(ydw a b h)
def y2k2 (s : St) : OX := ydu (s 1) s.h
theorem y1qh : T0 y12n [.t 2] y2k2 := sq y200 fun _ => by kernel_rfl
def ycb (b : AV) (h : Heap) : OX :=
oh (newC 0 (some 0) (cellsOf b) h) fun a h10 =>
(ydu a h10)
def y2f9 (s : St) : OX := ycb (s 0) s.h
theorem y1t7 : T0 y0z [.t 2] y2f9 := sq y1qh fun _ => by kernel_rfl
@[simp] theorem y2vm : E.pure 8 = true := rfl
theorem y2uf (a : AV) : (y8 E).p 8 [a] = ycb a [⟨0, .dead⟩, ⟨0, .dead⟩, ⟨0, .dead⟩] :=
  (yr (cf := y2q7) (by kernel_rfl) rfl).trans ((y1t7 _).trans (by kernel_rfl))
def y2jd (h : Heap) : OX :=
oh (y10 0 (some 0) 1 2 [(.int .i64 0)] [(0, (.int .i64 1)), (1, (.int .i64 3))] h) fun l h1 =>
oh (y10 0 (some 1) 1 1 [(.int .i64 0)] [(0, (.int .i64 1))] h1) fun v h2 =>
ob (yx [(.int .i64 0), (.int .i64 0), (.int .i64 0), (.int .i64 0), (.int .i64 0), (.int .i64 0), (.int .i64 0), (.str []), .nils] [(0, 1, (.int .i64 8)), (2, 1, (.int .i64 1))]) fun j =>
ob (yx [(.int .i64 0), (.int .i64 0), (.int .i64 0), (.int .i64 0), (.int .i64 0), (.int .i64 0), (.int .i64 0), (.str []), .nils] [(0, 1, (.int .i64 15)), (1, 1, (.int .i64 0)), (2, 1, (.int .i64 1))]) fun F =>
ob (yx [(.int .i64 0), (.int .i64 0), (.int .i64 0), (.int .i64 0), (.int .i64 0), (.int .i64 0), (.int .i64 0), (.str []), .nils] [(0, 1, (.int .i64 8)), (2, 1, (.int .i64 1))]) fun t =>
ob (yx [(.int .i64 0), (.int .i64 0), (.int .i64 0), (.int .i64 0), (.int .i64 0), (.int .i64 0), (.int .i64 0), (.str []), .nils] [(0, 1, (.int .i64 30)), (2, 1, (.int .i64 (-1)))]) fun z =>
oh (y10 0 (some 2) 9 4 [(.int .i64 0), (.int .i64 0), (.int .i64 0), (.int .i64 0), (.int .i64 0), (.int .i64 0), (.int .i64 0), (.str []), .nils] [(0, j), (1, F), (2, t), (3, z)] h2) fun u h3 =>
ob (yx [.nils, .nils, (.int .i64 0), .nils, .nils] [(0, 1, l), (1, 1, v), (3, 1, u)]) fun p =>
oh (y7 E (y8 E) 0 none true 166 [p] h3) fun r h4 =>
oh (newC 0 (some 3) [.nils, .nils, (.int .i64 0), .nils, .nils] h4) fun c h5 =>
oh (evSt 5 c r h5) fun _ h6 =>
ob (evFa 3 c) fun A =>
ob (evLd false 1 A h6) fun D =>
ob (yv 1 D h6) fun y =>
ob (y6 .eql y (.int .i64 4)) fun b =>
gb b true (evFa 3 c) fun w =>
gb b true (evLd false 1 w h6) fun d =>
gb b true (yn 9 d (.int .i64 0)) fun o =>
gb b true (evFa 0 o) fun x =>
gb b true (evLd false 1 x h6) fun m =>
gb b true (y6 .eql m (.int .i64 8)) fun n =>
ob (yb b n (.bool false)) fun a =>
gb a true (evFa 3 c) fun C =>
gb a true (evLd false 1 C h6) fun B =>
gb a true (yn 9 B (.int .i64 2)) fun e =>
gb a true (evFa 0 e) fun G =>
gb a true (evLd false 1 G h6) fun g =>
gb a true (y6 .eql g (.int .i64 33)) fun i =>
ob (yb a i (.bool false)) fun k =>
(yd h6 k)
def y2mf (s : St) : OX := y2jd s.h
theorem y27p : T0 y1pa [.t 0] y2mf := fun _ => by kernel_rfl
@[simp] theorem y2rd : E.pure 165 = true := rfl
theorem y2sk : (y8 E).p 165 [] = y2jd [⟨0, .dead⟩, ⟨0, .dead⟩, ⟨0, .dead⟩, ⟨0, .dead⟩] :=
  (yr (cf := y2n8) (by kernel_rfl) rfl).trans ((y27p _).trans (by kernel_rfl))
def y1ru (b a : AV) (h : Heap) : OX :=
ob (evLd true 5 b h) fun c =>
oh (evSt 5 a c h) fun _ h1 =>
(ob (evLd true 5 a h1) fun r0 =>
  yd h1 r0)
def yb2 (s : St) : OX := y1ru (s 1) (s 2) s.h
theorem y21q : T0 y1ll [.cell 2 true 5] yb2 := fun _ => by kernel_rfl
def yoz (g a c e b d : AV) (h : Heap) : OX :=
  W E 0 yqw ⟨[(1, g), (2, a), (3, c), (85, e), (86, b), (87, d)], h⟩ yb2 (y4 6 yb2 xN) (finP [.cell 2 true 5])
def yd7 (s : St) : OX := yoz (s 1) (s 2) (s 3) (s 85) (s 86) (s 87) s.h
theorem yt3 : T1 yqw yb2 (y4 6 yb2 xN) [.cell 2 true 5] yd7 := fun s => yf.trans (by kernel_rfl)
def y1x9 (i a c g b e : AV) (h : Heap) : OX :=
ob (y6 .add e (.int .i64 1)) fun d =>
(yoz i a c g b d h)
def y2l6 (s : St) : OX := y1x9 (s 1) (s 2) (s 3) (s 85) (s 86) (s 87) s.h
theorem y294 : T1 y1i3 yd7 (y4 6 yb2 xN) [.cell 2 true 5] y2l6 := fun _ => by kernel_rfl
def yz7 (e i d g k b : AV) (h : Heap) : OX :=
ob (yn 9 g b) fun p =>
ob (evLd true 9 p h) fun I =>
oh (newC 0 (some 15) [(.int .i64 0), (.int .i64 0), (.int .i64 0), (.int .i64 0), (.int .i64 0), (.int .i64 0), (.int .i64 0), (.str []), .nils] h) fun l h2 =>
oh (evSt 9 l I h2) fun _ h3 =>
ob (evLd true 9 l h3) fun u =>
oh (y7 E (y8 E) 0 none true 169 [u] h3) fun j h4 =>
ob (y42 0 j) fun A =>
ob (y42 1 j) fun c =>
oh (newC 0 (some 16) [(.int .i64 0), (.int .i64 0), (.int .i64 0)] h4) fun m h5 =>
oh (evSt 3 m A h5) fun _ h6 =>
gb c true (evLd false 1 d h6) fun H =>
gb c true (some b) fun r =>
gb c true (yn 1 H r) fun v =>
gb c true (evLd false 1 v h6) fun x =>
gb c true (y9c 2 true x AV.nilm) fun B =>
ob (yb c B (.bool false)) fun a =>
gb a true (evLd false 1 d h6) fun D =>
gb a true (some b) fun F =>
gb a true (yn 1 D F) fun z =>
gb a true (evLd false 1 z h6) fun G =>
gb a true (evLd true 3 m h6) fun w =>
gb a true (y6p true [0, 0, 0] (.bool false) false G w h6) fun t =>
ob (yb a t (.bool false)) fun y =>
cnd y
 (ob (evFa 3 e) fun J =>
ob (evLd false 1 J h6) fun n =>
ob (yx [(.int .i64 0), (.int .i64 0), (.int .i64 0), (.int .i64 0), (.int .i64 0), (.int .i64 0), (.int .i64 0), (.str []), .nils] [(0, 1, (.int .i64 33))]) fun o =>
ob (yn 9 n b) fun C =>
oh (evSt 9 C o h6) fun _ h7 =>
(y1x9 e i d g k b h7))
 ((y1x9 e i d g k b h6))
def y2n7 (s : St) : OX := yz7 (s 1) (s 2) (s 3) (s 85) (s 86) (s 87) s.h
theorem y25f : T1 y1nj yd7 (y4 6 yb2 xN) [.cell 2 true 5] y2n7 := sq y294 fun _ => by kernel_rfl
def y22w (b a d i c g e : AV) (h : Heap) : OX :=
cnd e
 ((yz7 b a d i c g h))
 ((y1ru b a h))
def y2pn (s : St) : OX := y22w (s 1) (s 2) (s 3) (s 85) (s 86) (s 87) (s 88) s.h
theorem y285 : T1 y1ry yd7 (y4 6 yb2 xN) [.cell 2 true 5] y2pn := sq y25f fun _ => by kernel_rfl
def y26b (i c d g a b : AV) (h : Heap) : OX :=
ob (y6 .lss b a) fun e =>
(y22w i c d g a b e h)
def y2nh (s : St) : OX := y26b (s 1) (s 2) (s 3) (s 85) (s 86) (s 87) s.h
theorem y25b : T1 y1ox yd7 (y4 6 yb2 xN) [.cell 2 true 5] y2nh := sq y285 fun _ => by kernel_rfl
theorem yrt (g a c e b d : AV) (h : Heap) : yoz g a c e b d h = (y26b g a c e b d h) :=
  y1q.trans ((y14 _ _ _ (n' := yd7) (fun s => yt3 s)).trans ((y25b _).trans (by kernel_rfl)))
theorem y23i : T1 y1j1 yb2 xN [.cell 2 true 5] yd7 := fun s => yp.trans (yt3 s)
def y22x (b c g : AV) (h : Heap) : OX :=
ob (evFa 3 b) fun d =>
ob (evLd false 1 d h) fun a =>
ob (yv 1 a h) fun e =>
(yoz b c g a e (.int .i64 0) h)
def y37 (s : St) : OX := y22x (s 1) (s 2) (s 3) s.h
theorem y252 : T1 y1th yb2 xN [.cell 2 true 5] y37 := sq y23i fun _ => by kernel_rfl
theorem y25z : T0 y1r4 [.cell 2 true 5] y37 := sq y21q y252
def ydb (d a b e c : AV) (h : Heap) : OX :=
  W E 0 yli ⟨[(1, d), (2, a), (3, b), (4, e), (5, c)], h⟩ y37 (y4 0 y37 xN) (finP [.cell 2 true 5])
def yz (s : St) : OX := ydb (s 1) (s 2) (s 3) (s 4) (s 5) s.h
theorem you : T1 yli y37 (y4 0 y37 xN) [.cell 2 true 5] yz := fun s => yf.trans (by kernel_rfl)
def yji (j c g k i d a b e : AV) (h : Heap) : OX :=
  W E 0 ykq ⟨[(1, j), (2, c), (3, g), (4, k), (5, i), (9, d), (73, a), (74, b), (75, e)], h⟩ yz (y4 4 yz (y4 1 yz (y4 0 y37 xN))) (finP [.cell 2 true 5])
def y91 (s : St) : OX := yji (s 1) (s 2) (s 3) (s 4) (s 5) (s 9) (s 73) (s 74) (s 75) s.h
theorem yn4 : T1 ykq yz (y4 4 yz (y4 1 yz (y4 0 y37 xN))) [.cell 2 true 5] y91 := fun s => yf.trans (by kernel_rfl)
def y1nc (k c i l j e a b g : AV) (h : Heap) : OX :=
ob (y6 .add g (.int .i64 1)) fun d =>
(yji k c i l j e a b d h)
def y2d9 (s : St) : OX := y1nc (s 1) (s 2) (s 3) (s 4) (s 5) (s 9) (s 73) (s 74) (s 75) s.h
theorem y1md : T1 y14o y91 (y4 4 yz (y4 1 yz (y4 0 y37 xN))) [.cell 2 true 5] y2d9 := fun _ => by kernel_rfl
def y1u8 (l g i m d b a e c : AV) (h : Heap) : OX :=
ob (yn 1 a c) fun j =>
ob (evLd false 1 j h) fun k =>
oh (ynn E (y8 E) 0 none true d [k, b] h) fun n h8 =>
(y1nc l g i m d b a e c h8)
def y2bx (s : St) : OX := y1u8 (s 1) (s 2) (s 3) (s 4) (s 5) (s 9) (s 73) (s 74) (s 75) s.h
theorem y1o6 : T1 y12g y91 (y4 4 yz (y4 1 yz (y4 0 y37 xN))) [.cell 2 true 5] y2bx := sq y1md fun _ => by kernel_rfl
def y152 (d a b e c j g i k l : AV) (h : Heap) : OX :=
cnd l
 ((y1u8 d a b e c j g i k h))
 ((ydb d a b e c h))
def y2dg (s : St) : OX := y152 (s 1) (s 2) (s 3) (s 4) (s 5) (s 9) (s 73) (s 74) (s 75) (s 76) s.h
theorem y1pt : T1 y18e y91 (y4 4 yz (y4 1 yz (y4 0 y37 xN))) [.cell 2 true 5] y2dg := sq y1o6 fun _ => by kernel_rfl
def y13d (k d g l j e c a b : AV) (h : Heap) : OX :=
ob (y6 .lss b a) fun i =>
(y152 k d g l j e c a b i h)
def y2cn (s : St) : OX := y13d (s 1) (s 2) (s 3) (s 4) (s 5) (s 9) (s 73) (s 74) (s 75) s.h
theorem y1ml : T1 y1c1 y91 (y4 4 yz (y4 1 yz (y4 0 y37 xN))) [.cell 2 true 5] y2cn := sq y1pt fun _ => by kernel_rfl
theorem yp3 (j c g k i d a b e : AV) (h : Heap) : yji j c g k i d a b e h = (y13d j c g k i d a b e h) :=
  y1q.trans ((y14 _ _ _ (n' := y91) (fun s => yn4 s)).trans ((y1ml _).trans (by kernel_rfl)))
theorem y1kw : T1 y17e yz (y4 1 yz (y4 0 y37 xN)) [.cell 2 true 5] y91 := fun s => yp.trans (yn4 s)
def y1jo (b e i l k c g : AV) (h : Heap) : OX :=
ob (evLd true 5 b h) fun j =>
oh (y7 E (y8 E) 0 none true 81 [j, c] h) fun a h9 =>
ob (yv 1 a h9) fun d =>
(yji b e i l k g a d (.int .i64 0) h9)
def y2f6 (s : St) : OX := y1jo (s 1) (s 2) (s 3) (s 4) (s 5) (s 6) (s 9) s.h
theorem y1yp : T1 y1ah yz (y4 1 yz (y4 0 y37 xN)) [.cell 2 true 5] y2f6 := sq y1kw fun _ => by kernel_rfl
def y138 (c i b p o a : AV) (h : Heap) : OX :=
ob (evLd false 1 b h) fun g =>
ob (yn 1 g a) fun j =>
ob (evLd false 1 j h) fun n =>
ob (evFa 3 c) fun m =>
ob (evLd false 1 m h) fun d =>
ob (yn 9 d a) fun e =>
ob (evLd true 9 e h) fun l =>
oh (y7 E (y8 E) 0 none true 168 [n, l] h) fun k h10 =>
(y1jo c i b p o a k h10)
def y6c (s : St) : OX := y138 (s 1) (s 2) (s 3) (s 4) (s 5) (s 6) s.h
theorem y1il : T1 y1af yz (y4 1 yz (y4 0 y37 xN)) [.cell 2 true 5] y6c := sq y1yp fun _ => by kernel_rfl
def yjd (j c d k i a e g b : AV) (h : Heap) : OX :=
  W E 0 yjr ⟨[(1, j), (2, c), (3, d), (4, k), (5, i), (6, a), (47, e), (48, g), (49, b)], h⟩ y6c (y4 2 y6c (y4 1 yz (y4 0 y37 xN))) (finP [.cell 2 true 5])
def y8l (s : St) : OX := yjd (s 1) (s 2) (s 3) (s 4) (s 5) (s 6) (s 47) (s 48) (s 49) s.h
theorem yo9 : T1 yjr y6c (y4 2 y6c (y4 1 yz (y4 0 y37 xN))) [.cell 2 true 5] y8l := fun s => yf.trans (by kernel_rfl)
def y1nz (k d e l j b g i c : AV) (h : Heap) : OX :=
ob (y6 .add c (.int .i64 1)) fun a =>
(yjd k d e l j b g i a h)
def y2g4 (s : St) : OX := y1nz (s 1) (s 2) (s 3) (s 4) (s 5) (s 6) (s 47) (s 48) (s 49) s.h
theorem y1sm : T1 y127 y8l (y4 2 y6c (y4 1 yz (y4 0 y37 xN))) [.cell 2 true 5] y2g4 := fun _ => by kernel_rfl
def y1v7 (o g c p e a d l b : AV) (h : Heap) : OX :=
ob (yn 1 d b) fun i =>
ob (evLd false 1 i h) fun n =>
ob (evLd false 1 c h) fun k =>
ob (yn 1 k a) fun m =>
ob (evLd false 1 m h) fun j =>
oh (ynn E (y8 E) 0 none true e [n, j] h) fun r h11 =>
(y1nz o g c p e a d l b h11)
def y2jh (s : St) : OX := y1v7 (s 1) (s 2) (s 3) (s 4) (s 5) (s 6) (s 47) (s 48) (s 49) s.h
theorem y1mf : T1 y123 y8l (y4 2 y6c (y4 1 yz (y4 0 y37 xN))) [.cell 2 true 5] y2jh := sq y1sm fun _ => by kernel_rfl
def y1a6 (e b c g d a j l i k : AV) (h : Heap) : OX :=
cnd k
 ((y1v7 e b c g d a j l i h))
 ((y138 e b c g d a h))
def y2en (s : St) : OX := y1a6 (s 1) (s 2) (s 3) (s 4) (s 5) (s 6) (s 47) (s 48) (s 49) (s 50) s.h
theorem y1zs : T1 y1c0 y8l (y4 2 y6c (y4 1 yz (y4 0 y37 xN))) [.cell 2 true 5] y2en := sq y1mf fun _ => by kernel_rfl
def y14d (k d e l j c g b a : AV) (h : Heap) : OX :=
ob (y6 .lss a b) fun i =>
(y1a6 k d e l j c g b a i h)
def y2e4 (s : St) : OX := y14d (s 1) (s 2) (s 3) (s 4) (s 5) (s 6) (s 47) (s 48) (s 49) s.h
theorem y1pq : T1 y1a1 y8l (y4 2 y6c (y4 1 yz (y4 0 y37 xN))) [.cell 2 true 5] y2e4 := sq y1zs fun _ => by kernel_rfl
theorem ypa (j c d k i a e g b : AV) (h : Heap) : yjd j c d k i a e g b h = (y14d j c d k i a e g b h) :=
  y1q.trans ((y14 _ _ _ (n' := y8l) (fun s => yo9 s)).trans ((y1pq _).trans (by kernel_rfl)))
theorem y205 : T1 y112 y6c (y4 1 yz (y4 0 y37 xN)) [.cell 2 true 5] y8l := fun s => yp.trans (yo9 s)
def y1w0 (c d e k j a : AV) (h : Heap) : OX :=
ob (evLd true 5 c h) fun g =>
oh (y7 E (y8 E) 0 none true 79 [g, a] h) fun b h12 =>
ob (yv 1 b h12) fun i =>
(yjd c d e k j a b i (.int .i64 0) h12)
def y1ng (s : St) : OX := y1w0 (s 1) (s 2) (s 3) (s 4) (s 5) (s 6) s.h
theorem y1wv : T1 y15s y6c (y4 1 yz (y4 0 y37 xN)) [.cell 2 true 5] y1ng := sq y205 fun _ => by kernel_rfl
theorem y1w7 : T1 y18j yz (y4 1 yz (y4 0 y37 xN)) [.cell 2 true 5] y1ng := sq y1il y1wv
def y1vh (m d e a l c : AV) (h : Heap) : OX :=
ob (evLd false 1 a h) fun j =>
ob (evLd false 1 a h) fun k =>
ob (yv 1 k h) fun b =>
ob (y6 .sub b (.int .i64 1)) fun g =>
ob (ycp 1 j none (some g)) fun i =>
oh (evSt 1 a i h) fun _ h13 =>
(y1w0 m d e a l c h13)
def y2h6 (s : St) : OX := y1vh (s 1) (s 2) (s 3) (s 4) (s 5) (s 6) s.h
theorem y1on : T1 y14u yz (y4 1 yz (y4 0 y37 xN)) [.cell 2 true 5] y2h6 := sq y1w7 fun _ => by kernel_rfl
def y1zm (m b g a k : AV) (h : Heap) : OX :=
ob (evLd false 1 a h) fun c =>
ob (evLd false 1 a h) fun j =>
ob (yv 1 j h) fun i =>
ob (y6 .sub i (.int .i64 1)) fun d =>
ob (yn 1 c d) fun e =>
ob (evLd false 1 e h) fun l =>
(y1vh m b g a k l h)
def y1uk (s : St) : OX := y1zm (s 1) (s 2) (s 3) (s 4) (s 5) s.h
theorem y1pp : T1 y17r yz (y4 1 yz (y4 0 y37 xN)) [.cell 2 true 5] y1uk := sq y1on fun _ => by kernel_rfl
theorem y1zq : T1 y11i yz (y4 0 y37 xN) [.cell 2 true 5] y1uk := fun s => yp.trans (y1pp s)
def yt8 (c a b d j : AV) (h : Heap) : OX :=
ob (evLd false 1 d h) fun g =>
ob (yv 1 g h) fun e =>
ob (y6 .gtr e (.int .i64 0)) fun i =>
cnd i
 ((y1zm c a b d j h))
 ((y22x c a b h))
def y2dw (s : St) : OX := yt8 (s 1) (s 2) (s 3) (s 4) (s 5) s.h
theorem y1xb : T1 y19q yz (y4 0 y37 xN) [.cell 2 true 5] y2dw := sq y1zq fun _ => by kernel_rfl
theorem yew (d a b e c : AV) (h : Heap) : ydb d a b e c h = (yt8 d a b e c h) :=
  y1q.trans ((y14 _ _ _ (n' := yz) (fun s => you s)).trans ((y1xb _).trans (by kernel_rfl)))
theorem y1kg : T1 y11u y37 xN [.cell 2 true 5] yz := fun s => yp.trans (you s)
theorem y1zb : T0 y195 [.cell 2 true 5] yz := sq y25z y1kg
def y1j6 (e d a b : AV) (h : Heap) : OX :=
ob (some (.fn 167 [a, b])) fun c =>
(ydb e d a b c h)
def y2e1 (s : St) : OX := y1j6 (s 1) (s 2) (s 3) (s 4) s.h
theorem y1qb : T0 y150 [.cell 2 true 5] y2e1 := sq y1zb fun _ => by kernel_rfl
def y1sn (e b c : AV) (h : Heap) : OX :=
oh (y10 0 (some 13) 1 1 [(.int .i64 0)] [(0, (.int .i64 0))] h) fun d h14 =>
oh (newC 0 (some 14) [.nils] h14) fun a h15 =>
oh (evSt 1 a d h15) fun _ h16 =>
(y1j6 e b c a h16)
def y2e0 (s : St) : OX := y1sn (s 1) (s 2) (s 3) s.h
theorem y1wl : T0 y12d [.cell 2 true 5] y2e0 := sq y1qb fun _ => by kernel_rfl
def y1ij (g c a : AV) (h : Heap) : OX :=
ob (evLd false 1 a h) fun b =>
oh (mkmC 0 (some 12) h) fun e h17 =>
ob (yn 1 b (.int .i64 0)) fun d =>
oh (evSt 1 d e h17) fun _ h18 =>
(y1sn g c a h18)
def y2d0 (s : St) : OX := y1ij (s 1) (s 2) (s 3) s.h
theorem y1ya : T0 y12z [.cell 2 true 5] y2d0 := sq y1wl fun _ => by kernel_rfl
def y180 (c e : AV) (h : Heap) : OX :=
ob (evFa 3 c) fun i =>
ob (evLd false 1 i h) fun d =>
ob (yv 1 d h) fun b =>
oh (mkSC 0 (some 10) 1 8 [.nilm] b b h) fun g h19 =>
oh (newC 0 (some 11) [.nils] h19) fun a h20 =>
oh (evSt 1 a g h20) fun _ h21 =>
(y1ij c e a h21)
def y2fs (s : St) : OX := y180 (s 1) (s 2) s.h
theorem y1rc : T0 y1ab [.cell 2 true 5] y2fs := sq y1ya fun _ => by kernel_rfl
def yxo (b a : AV) (h : Heap) : OX :=
ob (evLd true 5 b h) fun g =>
oh (y7 E (y8 E) 0 none true 8 [g] h) fun d h22 =>
ob (y6 .neq d (.int .i64 0)) fun c =>
cnd c
 (ob (evLd true 5 b h22) fun e =>
oh (evSt 5 a e h22) fun _ h23 =>
(ob (evLd true 5 a h23) fun r0 =>
  yd h23 r0))
 ((y180 b a h22))
def y2jl (s : St) : OX := yxo (s 1) (s 2) s.h
theorem y1wx : T0 y0t [.cell 2 true 5] y2jl := sq y1rc fun _ => by kernel_rfl
def y1yx (a b : AV) (h : Heap) : OX :=
ob (evLd true 5 a h) fun d =>
oh (y7 E (y8 E) 0 (some 2) false 13 [d] h) fun c h24 =>
oh (evSt 5 a c h24) fun _ h25 =>
(yxo a b h25)
def y2ea (s : St) : OX := y1yx (s 1) (s 2) s.h
theorem y1qt : T0 y18v [.cell 2 true 5] y2ea := sq y1wx fun _ => by kernel_rfl
def y13a (c : AV) (h : Heap) : OX :=
oh (newC 0 (some 0) (cellsOf c) h) fun b h26 =>
oh (newC 0 (some 1) [.nils, .nils, (.int .i64 0), .nils, .nils] h26) fun a h27 =>
(y1yx b a h27)
def y2cj (s : St) : OX := y13a (s 0) s.h
theorem y1m6 : T0 y19a [.cell 2 true 5] y2cj := sq y1qt fun _ => by kernel_rfl
@[simp] theorem y2r4 : E.pure 166 = true := rfl
theorem y2v6 (a : AV) : (y8 E).p 166 [a] = y13a a [⟨0, .dead⟩, ⟨0, .dead⟩, ⟨0, .dead⟩, ⟨0, .dead⟩, ⟨0, .dead⟩, ⟨0, .dead⟩, ⟨0, .dead⟩, ⟨0, .dead⟩, ⟨0, .dead⟩, ⟨0, .dead⟩, ⟨0, .dead⟩, ⟨0, .dead⟩, ⟨0, .dead⟩, ⟨0, .dead⟩, ⟨0, .dead⟩, ⟨0, .dead⟩, ⟨0, .dead⟩] :=
  (yr (cf := y2qd) (by kernel_rfl) rfl).trans ((y1m6 _).trans (by kernel_rfl))
def y2e9 (v : AV) (h : Heap) : OX :=
oh (newC 0 (some 0) (cellsOf v) h) fun c h1 =>
ob (evFa 3 c) fun r =>
ob (evLd false 1 r h1) fun j =>
ob (yv 1 j h1) fun x =>
ob (y6 .leq x (.int .i64 90)) fun a =>
gb a true (evFa 0 c) fun p =>
gb a true (evLd false 1 p h1) fun m =>
gb a true (yv 1 m h1) fun n =>
gb a true (y6 .leq n (.int .i64 20)) fun u =>
ob (yb a u (.bool false)) fun b =>
gb b true (evFa 4 c) fun w =>
gb b true (evLd false 1 w h1) fun o =>
gb b true (yv 1 o h1) fun t =>
gb b true (y6 .leq t (.int .i64 12)) fun g =>
ob (yb b g (.bool false)) fun d =>
gb d true (evLd true 5 c h1) fun k =>
gh d true (y7 E (y8 E) 0 none true 29 [k] h1) h1 fun l h2 =>
gb d true (y6 .eql l (.int .i64 0)) fun i =>
ob (yb d i (.bool false)) fun e =>
(yd h2 e)
def y2nd (s : St) : OX := y2e9 (s 0) s.h
theorem y242 : T0 y1pk [.t 2] y2nd := fun _ => by kernel_rfl
@[simp] theorem y2rf : E.pure 171 = true := rfl
theorem y2u2 (a : AV) : (y8 E).p 171 [a] = y2e9 a [⟨0, .dead⟩] :=
  (yr (cf := y2op) (by kernel_rfl) rfl).trans ((y242 _).trans (by kernel_rfl))
def yvq (a e : AV) (h : Heap) : OX :=
ob (evLd true 5 a h) fun b =>
ob (evLd true 5 e h) fun d =>
oh (y7 E (y8 E) 0 none true 14 [b, d] h) fun c h1 =>
(yd h1 c)
def y3z (s : St) : OX := yvq (s 2) (s 7) s.h
theorem y1w1 : T0 y1a2 [.t 4] y3z := fun _ => by kernel_rfl
def yg1 (b d e a g c : AV) (h : Heap) : OX :=
  W E 0 yiq ⟨[(2, b), (3, d), (5, e), (6, a), (7, g), (8, c)], h⟩ y3z (y4 0 y3z xN) (finP [.t 4])
def ybe (s : St) : OX := yg1 (s 2) (s 3) (s 5) (s 6) (s 7) (s 8) s.h
theorem yos : T1 yiq y3z (y4 0 y3z xN) [.t 4] ybe := fun s => yf.trans (by kernel_rfl)
def ygj (b d g a i c : AV) (h : Heap) : OX :=
ob (y6 .add c (.int .i64 1)) fun e =>
(yg1 b d g a i e h)
def y5m (s : St) : OX := ygj (s 2) (s 3) (s 5) (s 6) (s 7) (s 8) s.h
theorem y1oc : T1 y16i ybe (y4 0 y3z xN) [.t 4] y5m := fun _ => by kernel_rfl
def yox (d e g c b a n j : AV) (h : Heap) : OX :=
cnd j
 (ob (evFa 3 b) fun m =>
ob (evLd false 1 m h) fun i =>
ob (evLd true 9 n h) fun k =>
ob (yn 9 i a) fun l =>
oh (evSt 9 l k h) fun _ h2 =>
(ygj d e g c b a h2))
 ((ygj d e g c b a h))
def y2c9 (s : St) : OX := yox (s 2) (s 3) (s 5) (s 6) (s 7) (s 8) (s 9) (s 10) s.h
theorem y1vc : T1 y148 y5m (y4 1 y5m (y4 0 y3z xN)) [.t 4] y2c9 := fun _ => by kernel_rfl
def y1za (g n i e u c v d : AV) (h : Heap) : OX :=
ob (yn 1 e c) fun t =>
ob (evLd false 1 t h) fun a =>
gb a true (evLd true 5 g h) fun p =>
gb a true (some i) fun k =>
gb a true (some c) fun r =>
gh a true (y7 E (y8 E) 0 none true 174 [p, k, r] h) h fun o h3 =>
ob (yb a o (.bool false)) fun b =>
gb b true (some d) fun l =>
gb b true (evUn .not l) fun j =>
ob (yb b j (.bool false)) fun m =>
cnd m
 ((yd h3 (.bool false)))
 ((yox g n i e u c v d h3))
def y2i3 (s : St) : OX := y1za (s 2) (s 3) (s 5) (s 6) (s 7) (s 8) (s 9) (s 10) s.h
theorem y1xm : T1 y1az y5m (y4 1 y5m (y4 0 y3z xN)) [.t 4] y2i3 := sq y1vc fun _ => by kernel_rfl
def y1lp (e b m c n a o : AV) (h : Heap) : OX :=
ob (evFa 3 b) fun i =>
ob (evLd false 1 i h) fun k =>
ob (yn 9 k a) fun g =>
ob (evFa 0 g) fun j =>
ob (evLd false 1 j h) fun l =>
ob (y6 .eql l (.int .i64 33)) fun d =>
(y1za e b m c n a o d h)
def y2gb (s : St) : OX := y1lp (s 2) (s 3) (s 5) (s 6) (s 7) (s 8) (s 9) s.h
theorem y1t6 : T1 y1bi y5m (y4 1 y5m (y4 0 y3z xN)) [.t 4] y2gb := sq y1xm fun _ => by kernel_rfl
def y14a (b d e a g c i : AV) (h : Heap) : OX :=
ob (evFa 0 i) fun m =>
ob (evLd false 1 m h) fun k =>
oh (y7 E (y8 E) 0 none true 173 [k] h) fun l h4 =>
ob (evUn .not l) fun j =>
cnd j
 ((ygj b d e a g c h4))
 ((y1lp b d e a g c i h4))
def y2g2 (s : St) : OX := y14a (s 2) (s 3) (s 5) (s 6) (s 7) (s 8) (s 9) s.h
theorem y1wi : T1 y13e y5m (y4 1 y5m (y4 0 y3z xN)) [.t 4] y2g2 := sq y1t6 fun _ => by kernel_rfl
def y1pu (a i k d l b : AV) (h : Heap) : OX :=
ob (evFa 3 a) fun e =>
ob (evLd false 1 e h) fun j =>
ob (yn 9 j b) fun m =>
ob (evLd true 9 m h) fun g =>
oh (newC 0 (some 4) [(.int .i64 0), (.int .i64 0), (.int .i64 0), (.int .i64 0), (.int .i64 0), (.int .i64 0), (.int .i64 0), (.str []), .nils] h) fun c h5 =>
oh (evSt 9 c g h5) fun _ h6 =>
(y14a a i k d l b c h6)
def y0g (s : St) : OX := y1pu (s 2) (s 3) (s 5) (s 6) (s 7) (s 8) s.h
theorem y1tp : T1 y16b y5m (y4 1 y5m (y4 0 y3z xN)) [.t 4] y0g := sq y1wi fun _ => by kernel_rfl
theorem y1j8 : T1 y1bp y5m (y4 0 y3z xN) [.t 4] y0g := fun s => yp.trans (y1tp s)
theorem y1fb : T1 yvg ybe (y4 0 y3z xN) [.t 4] y0g := sq y1oc y1j8
def ypo (a i l e c b : AV) (h : Heap) : OX :=
ob (evFa 3 a) fun g =>
ob (evLd false 1 g h) fun k =>
ob (yv 1 k h) fun d =>
ob (y6 .lss b d) fun j =>
cnd j
 ((y1pu a i l e c b h))
 ((yvq a c h))
def y22e (s : St) : OX := ypo (s 2) (s 3) (s 5) (s 6) (s 7) (s 8) s.h
theorem y1ez : T1 ysp ybe (y4 0 y3z xN) [.t 4] y22e := sq y1fb fun _ => by kernel_rfl
theorem ymu (b d e a g c : AV) (h : Heap) : yg1 b d e a g c h = (ypo b d e a g c h) :=
  y1q.trans ((y14 _ _ _ (n' := ybe) (fun s => yos s)).trans ((y1ez _).trans (by kernel_rfl)))
theorem y1cy : T1 ys5 y3z xN [.t 4] ybe := fun s => yp.trans (yos s)
def y0k (b c d a e : AV) (h : Heap) : OX :=
(yg1 b c d a e (.int .i64 0) h)
def y190 (s : St) : OX := y0k (s 2) (s 3) (s 5) (s 6) (s 7) s.h
theorem y1cq : T1 yx5 y3z xN [.t 4] y190 := sq y1cy fun _ => by kernel_rfl
theorem y1d5 : T0 yxg [.t 4] y190 := sq y1w1 y1cq
def yy7 (g a k e b : AV) (h : Heap) : OX :=
ob (evFa 3 a) fun c =>
ob (evLd false 1 c h) fun j =>
oh (y3c 0 (some 3) 9 96 AV.nils j h) fun i h7 =>
ob (evFa 3 b) fun d =>
oh (evSt 1 d i h7) fun _ h8 =>
(y0k g a k e b h8)
def y25h (s : St) : OX := yy7 (s 2) (s 3) (s 5) (s 6) (s 7) s.h
theorem y1co : T0 yvr [.t 4] y25h := sq y1d5 fun _ => by kernel_rfl
def y0l (d a g c : AV) (h : Heap) : OX :=
ob (evLd true 5 a h) fun e =>
oh (newC 0 (some 2) [.nils, .nils, (.int .i64 0), .nils, .nils] h) fun b h9 =>
oh (evSt 5 b e h9) fun _ h10 =>
(yy7 d a g c b h10)
def y26y (s : St) : OX := y0l (s 2) (s 3) (s 5) (s 6) s.h
theorem y1hm : T0 yt9 [.t 4] y26y := sq y1co fun _ => by kernel_rfl
def yz8 (a c e : AV) (h : Heap) : OX :=
ob (evLd true 5 a h) fun b =>
oh (y7 E (y8 E) 0 none true 104 [b] h) fun d h11 =>
(y0l a c e d h11)
def y27i (s : St) : OX := yz8 (s 2) (s 3) (s 5) s.h
theorem y1g1 : T0 yx9 [.t 4] y27i := sq y1hm fun _ => by kernel_rfl
def yyt (a d : AV) (h : Heap) : OX :=
ob (evLd true 5 a h) fun b =>
oh (y7 E (y8 E) 0 none true 106 [b] h) fun c h12 =>
(yz8 a d c h12)
def y20m (s : St) : OX := yyt (s 2) (s 3) s.h
theorem y1dp : T0 yvt [.t 4] y20m := sq y1g1 fun _ => by kernel_rfl
def y02 (a b : AV) (h : Heap) : OX :=
ob (evFa 3 a) fun k =>
ob (evLd false 1 k h) fun j =>
ob (yv 1 j h) fun i =>
ob (evFa 3 b) fun g =>
ob (evLd false 1 g h) fun c =>
ob (yv 1 c h) fun e =>
ob (y6 .neq i e) fun d =>
cnd d
 ((yd h (.bool false)))
 ((yyt a b h))
def y21u (s : St) : OX := y02 (s 2) (s 3) s.h
theorem y1fw : T0 yrx [.t 4] y21u := sq y1dp fun _ => by kernel_rfl
def yyp (d c : AV) (h : Heap) : OX :=
oh (newC 0 (some 0) (cellsOf d) h) fun a h13 =>
oh (newC 0 (some 1) (cellsOf c) h13) fun b h14 =>
(y02 a b h14)
def y24u (s : St) : OX := yyp (s 0) (s 1) s.h
theorem y1e3 : T0 ys9 [.t 4] y24u := sq y1fw fun _ => by kernel_rfl
@[simp] theorem y2qw : E.pure 172 = true := rfl
theorem y2lv (b a : AV) : (y8 E).p 172 [b, a] = yyp b a [⟨0, .dead⟩, ⟨0, .dead⟩, ⟨0, .dead⟩, ⟨0, .dead⟩, ⟨0, .dead⟩] :=
  (yr (cf := y2as) (by kernel_rfl) rfl).trans ((y1e3 _).trans (by kernel_rfl))
def yi2 (h : Heap) : OX :=
(yd h (.int .i64 0))
def y73 (s : St) : OX := yi2 s.h
theorem y1pr : T0 y18l [.t 2] y73 := fun _ => by kernel_rfl
def yf4 (b c a : AV) (h : Heap) : OX :=
  W E 0 yi6 ⟨[(1, b), (3, c), (8, a)], h⟩ y73 (y4 6 y73 xN) (finP [.t 2])
def ybx (s : St) : OX := yf4 (s 1) (s 3) (s 8) s.h
theorem yny : T1 yi6 y73 (y4 6 y73 xN) [.t 2] ybx := fun s => yf.trans (by kernel_rfl)
def yjj (c d b : AV) (h : Heap) : OX :=
ob (y6 .add b (.int .i64 1)) fun a =>
(yf4 c d a h)
def y2fw (s : St) : OX := yjj (s 1) (s 3) (s 8) s.h
theorem y1sb : T1 y1ca ybx (y4 6 y73 xN) [.t 2] y2fw := fun _ => by kernel_rfl
def y84 (g j i : AV) (h : Heap) : OX :=
ob (evFa 4 g) fun z =>
ob (evLd false 1 z h) fun K =>
ob (yn 4 K i) fun r =>
ob (evLd true 4 r h) fun m =>
oh (newC 0 (some 2) [(.int .i64 0), (.int .i64 0), (.int .i64 0), (.str [])] h) fun b h1 =>
oh (evSt 4 b m h1) fun _ h2 =>
ob (evFa 0 b) fun J =>
ob (evLd false 1 J h2) fun B =>
ob (y6 .lss B (.int .i64 0)) fun c =>
gb c false (evFa 0 b) fun D =>
gb c false (evLd false 1 D h2) fun H =>
gb c false (evFa 1 b) fun A =>
gb c false (evLd false 1 A h2) fun t =>
gb c false (y6 .geq H t) fun F =>
ob (yb c (.bool true) F) fun e =>
gb e false (evFa 1 b) fun l =>
gb e false (evLd false 1 l h2) fun P =>
gb e false (some j) fun M =>
gb e false (y6 .gtr P M) fun L =>
ob (yb e (.bool true) L) fun d =>
gb d false (evLd true 5 g h2) fun C =>
gb d false (evFa 2 b) fun w =>
gb d false (evLd false 1 w h2) fun G =>
gh d false (y7 E (y8 E) 0 none true 49 [C, G] h2) h2 fun N h3 =>
gb d false (evUn .not N) fun k =>
ob (yb d (.bool true) k) fun a =>
gb a false (evFa 3 g) fun n =>
gb a false (evLd false 1 n h3) fun I =>
gb a false (evFa 2 b) fun u =>
gb a false (evLd false 1 u h3) fun y =>
gb a false (yn 9 I y) fun x =>
gb a false (evFa 0 x) fun o =>
gb a false (evLd false 1 o h3) fun O =>
gb a false (y6 .neq O (.int .i64 32)) fun v =>
ob (yb a (.bool true) v) fun p =>
cnd p
 ((yd h3 (.int .i64 80)))
 ((yjj g j i h3))
def y2ed (s : St) : OX := y84 (s 1) (s 3) (s 8) s.h
theorem y1yr : T1 y11b ybx (y4 6 y73 xN) [.t 2] y2ed := sq y1sb fun _ => by kernel_rfl
def y6w (b e a : AV) (h : Heap) : OX :=
ob (evFa 4 b) fun g =>
ob (evLd false 1 g h) fun d =>
ob (yv 1 d h) fun i =>
ob (y6 .lss a i) fun c =>
cnd c
 ((y84 b e a h))
 ((yi2 h))
def y2bq (s : St) : OX := y6w (s 1) (s 3) (s 8) s.h
theorem y1yh : T1 y110 ybx (y4 6 y73 xN) [.t 2] y2bq := sq y1yr fun _ => by kernel_rfl
theorem yob (b c a : AV) (h : Heap) : yf4 b c a h = (y6w b c a h) :=
  y1q.trans ((y14 _ _ _ (n' := ybx) (fun s => yny s)).trans ((y1yh _).trans (by kernel_rfl)))
theorem y1s9 : T1 y1bz y73 xN [.t 2] ybx := fun s => yp.trans (yny s)
def ygf (a b : AV) (h : Heap) : OX :=
(yf4 a b (.int .i64 0) h)
def y6i (s : St) : OX := ygf (s 1) (s 3) s.h
theorem y1w8 : T1 y15u y73 xN [.t 2] y6i := sq y1s9 fun _ => by kernel_rfl
theorem y1x1 : T0 y13n [.t 2] y6i := sq y1pr y1w8
def yg8 (b c a : AV) (h : Heap) : OX :=
  W E 0 yi4 ⟨[(1, b), (3, c), (6, a)], h⟩ y6i (y4 4 y6i xN) (finP [.t 2])
def ybh (s : St) : OX := yg8 (s 1) (s 3) (s 6) s.h
theorem ynp : T1 yi4 y6i (y4 4 y6i xN) [.t 2] ybh := fun s => yf.trans (by kernel_rfl)
def yax (c d b : AV) (h : Heap) : OX :=
ob (y6 .add b (.int .i64 1)) fun a =>
(yg8 c d a h)
def y26d (s : St) : OX := yax (s 1) (s 3) (s 6) s.h
theorem y1cp : T1 yvm ybh (y4 4 y6i xN) [.t 2] y26d := fun _ => by kernel_rfl
def y4p (g H j : AV) (h : Heap) : OX :=
ob (evFa 3 g) fun o =>
ob (evLd false 1 o h) fun G =>
ob (yn 9 G j) fun z =>
ob (evLd true 9 z h) fun I =>
oh (newC 0 (some 1) [(.int .i64 0), (.int .i64 0), (.int .i64 0), (.int .i64 0), (.int .i64 0), (.int .i64 0), (.int .i64 0), (.str []), .nils] h) fun i h4 =>
oh (evSt 9 i I h4) fun _ h5 =>
ob (evLd true 5 g h5) fun u =>
ob (evLd true 9 i h5) fun r =>
oh (y7 E (y8 E) 0 none true 64 [u, r] h5) fun v h6 =>
ob (evUn .not v) fun d =>
gb d false (evFa 0 i) fun n =>
gb d false (evLd false 1 n h6) fun k =>
gb d false (y6 .eql k (.int .i64 32)) fun D =>
gb d false (some D) fun e =>
gb e true (some j) fun y =>
gb e true (y6 .eql y (.int .i64 0)) fun L =>
gb e true (some L) fun a =>
gb a false (evFa 3 g) fun U =>
gb a false (evLd false 1 U h6) fun J =>
gb a false (some j) fun p =>
gb a false (y6 .sub p (.int .i64 1)) fun Q =>
gb a false (yn 9 J Q) fun O =>
gb a false (evFa 0 O) fun M =>
gb a false (evLd false 1 M h6) fun X =>
gh a false (y7 E (y8 E) 0 none true 25 [X] h6) h6 fun V h7 =>
gb a false (evUn .not V) fun m =>
gb e true (yb a (.bool true) m) fun B =>
gb d false (yb e B (.bool false)) fun P =>
ob (yb d (.bool true) P) fun c =>
gb c false (evFa 0 i) fun C =>
gb c false (evLd false 1 C h7) fun K =>
gh c false (y7 E (y8 E) 0 none true 23 [K] h7) h7 fun A h8 =>
gb c false (some A) fun b =>
gb b true (evFa 3 g) fun R =>
gb b true (evLd false 1 R h8) fun t =>
gb b true (evFa 6 i) fun Z =>
gb b true (evLd false 1 Z h8) fun l =>
gb b true (yn 9 t l) fun w =>
gb b true (evFa 0 w) fun Y =>
gb b true (evLd false 1 Y h8) fun S =>
gb b true (y6 .eql S (.int .i64 32)) fun N =>
gb c false (yb b N (.bool false)) fun F =>
ob (yb c (.bool true) F) fun x =>
cnd x
 ((yd h8 (.int .i64 80)))
 ((yax g H j h8))
def y28l (s : St) : OX := y4p (s 1) (s 3) (s 6) s.h
theorem y1es : T1 ysm ybh (y4 4 y6i xN) [.t 2] y28l := sq y1cp fun _ => by kernel_rfl
def yb4 (c a b : AV) (h : Heap) : OX :=
ob (y6 .lss b a) fun d =>
cnd d
 ((y4p c a b h))
 ((ygf c a h))
def y22f (s : St) : OX := yb4 (s 1) (s 3) (s 6) s.h
theorem y1g6 : T1 ytu ybh (y4 4 y6i xN) [.t 2] y22f := sq y1es fun _ => by kernel_rfl
theorem ymq (b c a : AV) (h : Heap) : yg8 b c a h = (yb4 b c a h) :=
  y1q.trans ((y14 _ _ _ (n' := ybh) (fun s => ynp s)).trans ((y1g6 _).trans (by kernel_rfl)))
theorem y1gy : T1 yrn y6i xN [.t 2] ybh := fun s => yp.trans (ynp s)
def yat (a b : AV) (h : Heap) : OX :=
(yg8 a b (.int .i64 0) h)
def y4r (s : St) : OX := yat (s 1) (s 3) s.h
theorem y1hj : T1 ysg y6i xN [.t 2] y4r := sq y1gy fun _ => by kernel_rfl
theorem y1h7 : T0 yw1 [.t 2] y4r := sq y1x1 y1hj
def yc5 (b c a : AV) (h : Heap) : OX :=
  W E 0 yg3 ⟨[(1, b), (3, c), (5, a)], h⟩ y4r (y4 2 y4r xN) (finP [.t 2])
def y83 (s : St) : OX := yc5 (s 1) (s 3) (s 5) s.h
theorem yk6 : T1 yg3 y4r (y4 2 y4r xN) [.t 2] y83 := fun s => yf.trans (by kernel_rfl)
def yd2 (c d b : AV) (h : Heap) : OX :=
ob (y6 .add b (.int .i64 1)) fun a =>
(yc5 c d a h)
def y212 (s : St) : OX := yd2 (s 1) (s 3) (s 5) s.h
theorem y1hr : T1 yx8 y83 (y4 2 y4r xN) [.t 2] y212 := fun _ => by kernel_rfl
def y8x (b t c : AV) (h : Heap) : OX :=
ob (evLd true 5 b h) fun e =>
ob (evFa 1 b) fun w =>
ob (evLd false 1 w h) fun i =>
ob (yn 1 i c) fun o =>
ob (evLd false 1 o h) fun v =>
oh (y7 E (y8 E) 0 none true 48 [e, v] h) fun p h9 =>
ob (y6 .eql p (.int .i64 0)) fun a =>
gb a false (evFa 1 b) fun k =>
gb a false (evLd false 1 k h9) fun d =>
gb a false (some c) fun y =>
gb a false (yn 1 d y) fun r =>
gb a false (evLd false 1 r h9) fun g =>
gb a false (evFa 1 b) fun n =>
gb a false (evLd false 1 n h9) fun l =>
gb a false (some c) fun x =>
gb a false (ycp 1 l none (some x)) fun m =>
gh a false (y7 E (y8 E) 0 none true 42 [g, m] h9) h9 fun j h10 =>
ob (yb a (.bool true) j) fun u =>
cnd u
 ((yd h10 (.int .i64 80)))
 ((yd2 b t c h10))
def y24m (s : St) : OX := y8x (s 1) (s 3) (s 5) s.h
theorem y1h4 : T1 yxr y83 (y4 2 y4r xN) [.t 2] y24m := sq y1hr fun _ => by kernel_rfl
def y7i (a b c : AV) (h : Heap) : OX :=
ob (evFa 1 a) fun d =>
ob (evLd false 1 d h) fun e =>
ob (yv 1 e h) fun i =>
ob (y6 .lss c i) fun g =>
cnd g
 ((y8x a b c h))
 ((yat a b h))
def y28e (s : St) : OX := y7i (s 1) (s 3) (s 5) s.h
theorem y1h5 : T1 yus y83 (y4 2 y4r xN) [.t 2] y28e := sq y1h4 fun _ => by kernel_rfl
theorem yk2 (b c a : AV) (h : Heap) : yc5 b c a h = (y7i b c a h) :=
  y1q.trans ((y14 _ _ _ (n' := y83) (fun s => yk6 s)).trans ((y1h5 _).trans (by kernel_rfl)))
theorem y1ed : T1 yta y4r xN [.t 2] y83 := fun s => yp.trans (yk6 s)
def yay (a b : AV) (h : Heap) : OX :=
(yc5 a b (.int .i64 0) h)
def y4o (s : St) : OX := yay (s 1) (s 3) s.h
theorem y1e4 : T1 ytm y4r xN [.t 2] y4o := sq y1ed fun _ => by kernel_rfl
theorem y1cw : T0 yv8 [.t 2] y4o := sq y1h7 y1e4
def ybm (b c a : AV) (h : Heap) : OX :=
  W E 0 yfd ⟨[(1, b), (3, c), (4, a)], h⟩ y4o (y4 0 y4o xN) (finP [.t 2])
def y8f (s : St) : OX := ybm (s 1) (s 3) (s 4) s.h
theorem yja : T1 yfd y4o (y4 0 y4o xN) [.t 2] y8f := fun s => yf.trans (by kernel_rfl)
def yd5 (c d a : AV) (h : Heap) : OX :=
ob (y6 .add a (.int .i64 1)) fun b =>
(ybm c d b h)
def y21a (s : St) : OX := yd5 (s 1) (s 3) (s 4) s.h
theorem y1d3 : T1 yvc y8f (y4 0 y4o xN) [.t 2] y21a := fun _ => by kernel_rfl
def y8w (b l c : AV) (h : Heap) : OX :=
ob (evFa 0 b) fun r =>
ob (evLd false 1 r h) fun g =>
ob (yn 1 g c) fun e =>
ob (evLd false 1 e h) fun j =>
ob (y6 .lss j (.int .i64 1)) fun a =>
gb a false (evFa 0 b) fun d =>
gb a false (evLd false 1 d h) fun i =>
gb a false (some c) fun p =>
gb a false (yn 1 i p) fun m =>
gb a false (evLd false 1 m h) fun k =>
gb a false (y6 .gtr k (.int .i64 3)) fun n =>
ob (yb a (.bool true) n) fun o =>
cnd o
 ((yd h (.int .i64 80)))
 ((yd5 b l c h))
def y237 (s : St) : OX := y8w (s 1) (s 3) (s 4) s.h
theorem y1g5 : T1 yrw y8f (y4 0 y4o xN) [.t 2] y237 := sq y1d3 fun _ => by kernel_rfl
def y77 (a b c : AV) (h : Heap) : OX :=
ob (evFa 0 a) fun e =>
ob (evLd false 1 e h) fun g =>
ob (yv 1 g h) fun i =>
ob (y6 .lss c i) fun d =>
cnd d
 ((y8w a b c h))
 ((yay a b h))
def y25o (s : St) : OX := y77 (s 1) (s 3) (s 4) s.h
theorem y1fs : T1 yup y8f (y4 0 y4o xN) [.t 2] y25o := sq y1g5 fun _ => by kernel_rfl
theorem ylm (b c a : AV) (h : Heap) : ybm b c a h = (y77 b c a h) :=
  y1q.trans ((y14 _ _ _ (n' := y8f) (fun s => yja s)).trans ((y1fs _).trans (by kernel_rfl)))
theorem y1du : T1 yri y4o xN [.t 2] y8f := fun s => yp.trans (yja s)
def yfs (a b : AV) (h : Heap) : OX :=
(ybm a b (.int .i64 0) h)
def y16e (s : St) : OX := yfs (s 1) (s 3) s.h
theorem y1dw : T1 yx3 y4o xN [.t 2] y16e := sq y1du fun _ => by kernel_rfl
theorem y1e6 : T0 yxy [.t 2] y16e := sq y1cw y1dw
def y4t (b i : AV) (h : Heap) : OX :=
ob (y6 .eql i (.int .i64 0)) fun j =>
gb j false (some i) fun F =>
gb j false (y6 .gtr F (.int .i64 20000)) fun l =>
ob (yb j (.bool true) l) fun c =>
gb c false (evFa 0 b) fun w =>
gb c false (evLd false 1 w h) fun A =>
gb c false (yv 1 A h) fun u =>
gb c false (y6 .gtr u (.int .i64 20000)) fun k =>
ob (yb c (.bool true) k) fun d =>
gb d false (evFa 1 b) fun m =>
gb d false (evLd false 1 m h) fun M =>
gb d false (yv 1 M h) fun o =>
gb d false (y6 .gtr o (.int .i64 21)) fun p =>
ob (yb d (.bool true) p) fun g =>
gb g false (evFa 2 b) fun H =>
gb g false (evLd false 1 H h) fun K =>
gb g false (y6 .lss K (.int .i64 0)) fun x =>
ob (yb g (.bool true) x) fun e =>
gb e false (evFa 2 b) fun C =>
gb e false (evLd false 1 C h) fun G =>
gb e false (y6 .gtr G (.int .i64 3)) fun v =>
ob (yb e (.bool true) v) fun a =>
gb a false (evFa 3 b) fun I =>
gb a false (evLd false 1 I h) fun J =>
gb a false (some i) fun z =>
gb a false (y6 .sub z (.int .i64 1)) fun L =>
gb a false (yn 9 J L) fun n =>
gb a false (evFa 0 n) fun y =>
gb a false (evLd false 1 y h) fun B =>
gh a false (y7 E (y8 E) 0 none true 25 [B] h) h fun D h11 =>
gb a false (evUn .not D) fun t =>
ob (yb a (.bool true) t) fun r =>
cnd r
 ((yd h11 (.int .i64 80)))
 ((yfs b i h11))
def y20o (s : St) : OX := y4t (s 1) (s 3) s.h
theorem y1e0 : T0 ytn [.t 2] y20o := sq y1e6 fun _ => by kernel_rfl
def y4q (a : AV) (h : Heap) : OX :=
ob (evFa 3 a) fun b =>
ob (evLd false 1 b h) fun d =>
ob (yv 1 d h) fun c =>
(y4t a c h)
def y24a (s : St) : OX := y4q (s 1) s.h
theorem y1dx : T0 ysi [.t 2] y24a := sq y1e0 fun _ => by kernel_rfl
def y4b (b : AV) (h : Heap) : OX :=
oh (newC 0 (some 0) (cellsOf b) h) fun a h12 =>
(y4q a h12)
def y273 (s : St) : OX := y4b (s 0) s.h
theorem y1d2 : T0 ytf [.t 2] y273 := sq y1dx fun _ => by kernel_rfl
@[simp] theorem y2sy : E.pure 29 = true := rfl
theorem y2nt (a : AV) : (y8 E).p 29 [a] = y4b a [⟨0, .dead⟩, ⟨0, .dead⟩, ⟨0, .dead⟩] :=
  (yr (cf := y29p) (by kernel_rfl) rfl).trans ((y1d2 _).trans (by kernel_rfl))
def y1yd (h : Heap) : OX :=
(yd h (.int .i64 (-1)))
def y2kv (s : St) : OX := y1yd s.h
theorem y231 : T0 y1of [.t 2] y2kv := fun _ => by kernel_rfl
def y1sw (a : AV) (h : Heap) : OX :=
ob (evLd true 9 a h) fun e =>
oh (y7 E (y8 E) 0 none true 17 [e] h) fun b h1 =>
cnd b
 (ob (evFa 1 a) fun d =>
ob (evLd false 1 d h1) fun c =>
(yd h1 c))
 ((y1yd h1))
def yj7 (s : St) : OX := y1sw (s 1) s.h
theorem y23u : T0 y1kd [.t 2] yj7 := sq y231 fun _ => by kernel_rfl
def ya7 (a c : AV) (h : Heap) : OX :=
cnd c
 (ob (evFa 1 a) fun b =>
ob (evLd false 1 b h) fun d =>
(yd h d))
 ((y1sw a h))
def y2qf (s : St) : OX := ya7 (s 1) (s 5) s.h
theorem y23s : T1 y1pv yj7 (y4 0 yj7 xN) [.t 2] y2qf := fun _ => by kernel_rfl
def y1rg (a b : AV) (h : Heap) : OX :=
ob (y6 .eql b (.int .i64 1)) fun g =>
cnd g
 ((ya7 a g h))
 (ob (y6 .eql b (.int .i64 2)) fun r =>
cnd r
 ((ya7 a r h))
 (ob (y6 .eql b (.int .i64 3)) fun j =>
cnd j
 ((ya7 a j h))
 (ob (y6 .eql b (.int .i64 4)) fun k =>
cnd k
 ((ya7 a k h))
 (ob (y6 .eql b (.int .i64 5)) fun c =>
cnd c
 ((ya7 a c h))
 (ob (y6 .eql b (.int .i64 6)) fun i =>
cnd i
 ((ya7 a i h))
 (ob (y6 .eql b (.int .i64 13)) fun o =>
cnd o
 ((ya7 a o h))
 (ob (y6 .eql b (.int .i64 15)) fun n =>
cnd n
 ((ya7 a n h))
 (ob (y6 .eql b (.int .i64 16)) fun m =>
cnd m
 ((ya7 a m h))
 (ob (y6 .eql b (.int .i64 18)) fun d =>
cnd d
 ((ya7 a d h))
 (ob (y6 .eql b (.int .i64 20)) fun l =>
cnd l
 ((ya7 a l h))
 (ob (y6 .eql b (.int .i64 21)) fun e =>
cnd e
 ((ya7 a e h))
 (ob (y6 .eql b (.int .i64 22)) fun p =>
cnd p
 ((ya7 a p h))
 (ob (y6 .eql b (.int .i64 32)) fun t =>
(ya7 a t h))))))))))))))
def y2ai (s : St) : OX := y1rg (s 1) (s 4) s.h
theorem y26m : T1 y1x2 yj7 (y4 0 yj7 xN) [.t 2] y2ai := sq y23s fun _ => by kernel_rfl
theorem y26i : T1 y1qd yj7 xN [.t 2] y2ai := fun s => yp.trans (y26m s)
def y1s6 (a : AV) (h : Heap) : OX :=
ob (evFa 0 a) fun c =>
ob (evLd false 1 c h) fun b =>
(y1rg a b h)
def y2aj (s : St) : OX := y1s6 (s 1) s.h
theorem y26z : T1 y1vu yj7 xN [.t 2] y2aj := sq y26i fun _ => by kernel_rfl
theorem y220 : T0 y1sa [.t 2] y2aj := sq y23u y26z
def y1uz (b : AV) (h : Heap) : OX :=
oh (newC 0 (some 0) (cellsOf b) h) fun a h2 =>
(y1s6 a h2)
def y2om (s : St) : OX := y1uz (s 0) s.h
theorem y24n : T0 y1n8 [.t 2] y2om := sq y220 fun _ => by kernel_rfl
@[simp] theorem y2vi : E.pure 9 = true := rfl
theorem y2rx (a : AV) : (y8 E).p 9 [a] = y1uz a [⟨0, .dead⟩] :=
  (yr (cf := y2qc) (by kernel_rfl) rfl).trans ((y24n _).trans (by kernel_rfl))
def y1a0 (c : AV) (h : Heap) : OX :=
oh (y10 0 (some 0) 1 0 [(.int .i64 0)] [] h) fun a h1 =>
oh (y3c 0 (some 1) 1 8 a c h1) fun b h2 =>
(yd h2 b)
def y2f3 (s : St) : OX := y1a0 (s 0) s.h
theorem y1nl : T0 y17g [.t 2] y2f3 := fun _ => by kernel_rfl
def y1aa (a : AV) (h : Heap) : OX :=
ob (y9c 1 false a AV.nils) fun b =>
cnd b
 ((yd h AV.nils))
 ((y1a0 a h))
def y2gl (s : St) : OX := y1aa (s 0) s.h
theorem y203 : T0 y11f [.t 2] y2gl := sq y1nl fun _ => by kernel_rfl
def y179 (a : AV) (h : Heap) : OX :=
(y1aa a h)
def y2ey (s : St) : OX := y179 (s 0) s.h
theorem y1uj : T0 y1bn [.t 2] y2ey := sq y203 fun _ => by kernel_rfl
@[simp] theorem y2td : E.pure 39 = true := rfl
theorem y2n6 (a : AV) : (y8 E).p 39 [a] = y179 a [⟨0, .dead⟩, ⟨0, .dead⟩] :=
  (yr (cf := y29v) (by kernel_rfl) rfl).trans ((y1uj _).trans (by kernel_rfl))
def y17u (c : AV) (h : Heap) : OX :=
oh (y10 0 (some 0) 9 0 [(.int .i64 0), (.int .i64 0), (.int .i64 0), (.int .i64 0), (.int .i64 0), (.int .i64 0), (.int .i64 0), (.str []), .nils] [] h) fun a h1 =>
oh (y3c 0 (some 1) 9 96 a c h1) fun b h2 =>
(yd h2 b)
def y2ft (s : St) : OX := y17u (s 0) s.h
theorem y1l9 : T0 y14s [.t 2] y2ft := fun _ => by kernel_rfl
def y1c9 (a : AV) (h : Heap) : OX :=
ob (y9c 1 false a AV.nils) fun b =>
cnd b
 ((yd h AV.nils))
 ((y17u a h))
def y2gm (s : St) : OX := y1c9 (s 0) s.h
theorem y1hu : T0 y193 [.t 2] y2gm := sq y1l9 fun _ => by kernel_rfl
def y197 (a : AV) (h : Heap) : OX :=
(y1c9 a h)
def y2h7 (s : St) : OX := y197 (s 0) s.h
theorem y1tw : T0 y189 [.t 2] y2h7 := sq y1hu fun _ => by kernel_rfl
@[simp] theorem y2sb : E.pure 40 = true := rfl
theorem y2og (a : AV) : (y8 E).p 40 [a] = y197 a [⟨0, .dead⟩, ⟨0, .dead⟩] :=
  (yr (cf := y298) (by kernel_rfl) rfl).trans ((y1tw _).trans (by kernel_rfl))
def y12x (c : AV) (h : Heap) : OX :=
oh (y10 0 (some 0) 4 0 [(.int .i64 0), (.int .i64 0), (.int .i64 0), (.str [])] [] h) fun a h1 =>
oh (y3c 0 (some 1) 4 40 a c h1) fun b h2 =>
(yd h2 b)
def y2cw (s : St) : OX := y12x (s 0) s.h
theorem y1x7 : T0 y14g [.t 2] y2cw := fun _ => by kernel_rfl
def y15o (a : AV) (h : Heap) : OX :=
ob (y9c 1 false a AV.nils) fun b =>
cnd b
 ((yd h AV.nils))
 ((y12x a h))
def y2ic (s : St) : OX := y15o (s 0) s.h
theorem y1iu : T0 y1ax [.t 2] y2ic := sq y1x7 fun _ => by kernel_rfl
def y19p (a : AV) (h : Heap) : OX :=
(y15o a h)
def y2dl (s : St) : OX := y19p (s 0) s.h
theorem y20g : T0 y16g [.t 2] y2dl := sq y1iu fun _ => by kernel_rfl
@[simp] theorem y2ub : E.pure 41 = true := rfl
theorem y2nc (a : AV) : (y8 E).p 41 [a] = y19p a [⟨0, .dead⟩, ⟨0, .dead⟩] :=
  (yr (cf := y2a7) (by kernel_rfl) rfl).trans ((y20g _).trans (by kernel_rfl))
def yl9 (h : Heap) : OX :=
(yd h (.bool true))
def y7e (s : St) : OX := yl9 s.h
theorem y1p1 : T0 y16u [.t 4] y7e := fun _ => by kernel_rfl
def yf1 (c b a : AV) (h : Heap) : OX :=
  W E 0 yi8 ⟨[(0, c), (1, b), (5, a)], h⟩ y7e (y4 0 y7e xN) (finP [.t 4])
def yc3 (s : St) : OX := yf1 (s 0) (s 1) (s 5) s.h
theorem ym7 : T1 yi8 y7e (y4 0 y7e xN) [.t 4] yc3 := fun s => yf.trans (by kernel_rfl)
def yk8 (d c a : AV) (h : Heap) : OX :=
ob (y6 .add a (.int .i64 1)) fun b =>
(yf1 d c b h)
def y2ip (s : St) : OX := yk8 (s 0) (s 1) (s 5) s.h
theorem y1qy : T1 y184 yc3 (y4 0 y7e xN) [.t 4] y2ip := fun _ => by kernel_rfl
def yih (b c a : AV) (h : Heap) : OX :=
ob (yn 1 b a) fun i =>
ob (evLd false 1 i h) fun e =>
ob (yn 1 c a) fun d =>
ob (evLd false 1 d h) fun j =>
ob (y6 .neq e j) fun g =>
cnd g
 ((yd h (.bool false)))
 ((yk8 b c a h))
def y2cf (s : St) : OX := yih (s 0) (s 1) (s 5) s.h
theorem y1kq : T1 y19b yc3 (y4 0 y7e xN) [.t 4] y2cf := sq y1qy fun _ => by kernel_rfl
def ykg (a e b : AV) (h : Heap) : OX :=
ob (yv 1 a h) fun d =>
ob (y6 .lss b d) fun c =>
cnd c
 ((yih a e b h))
 ((yl9 h))
def y2j1 (s : St) : OX := ykg (s 0) (s 1) (s 5) s.h
theorem y1n4 : T1 y18d yc3 (y4 0 y7e xN) [.t 4] y2j1 := sq y1kq fun _ => by kernel_rfl
theorem yoi (c b a : AV) (h : Heap) : yf1 c b a h = (ykg c b a h) :=
  y1q.trans ((y14 _ _ _ (n' := yc3) (fun s => ym7 s)).trans ((y1n4 _).trans (by kernel_rfl)))
theorem y1vr : T1 y19u y7e xN [.t 4] yc3 := fun s => yp.trans (ym7 s)
def yi9 (b a : AV) (h : Heap) : OX :=
(yf1 b a (.int .i64 0) h)
def y1y7 (s : St) : OX := yi9 (s 0) (s 1) s.h
theorem y1ji : T1 y19v y7e xN [.t 4] y1y7 := sq y1vr fun _ => by kernel_rfl
theorem y1mt : T0 y18g [.t 4] y1y7 := sq y1p1 y1ji
def yll (a b : AV) (h : Heap) : OX :=
ob (yv 1 a h) fun d =>
ob (yv 1 b h) fun e =>
ob (y6 .neq d e) fun c =>
cnd c
 ((yd h (.bool false)))
 ((yi9 a b h))
def y2bp (s : St) : OX := yll (s 0) (s 1) s.h
theorem y1o7 : T0 y19r [.t 4] y2bp := sq y1mt fun _ => by kernel_rfl
def ycu (b a : AV) (h : Heap) : OX :=
(yll b a h)
def y26w (s : St) : OX := ycu (s 0) (s 1) s.h
theorem y1e7 : T0 ytd [.t 4] y26w := sq y1o7 fun _ => by kernel_rfl
@[simp] theorem y2v1 : E.pure 11 = true := rfl
theorem y2lx (b a : AV) : (y8 E).p 11 [b, a] = ycu b a [] :=
  (yr (cf := y29h) (by kernel_rfl) rfl).trans ((y1e7 _).trans (by kernel_rfl))
def yah (a1 y : AV) (h : Heap) : OX :=
oh (newC 0 (some 0) (cellsOf a1) h) fun a h1 =>
oh (newC 0 (some 1) (cellsOf y) h1) fun b h2 =>
ob (evFa 0 a) fun b0 =>
ob (evLd false 1 b0 h2) fun O =>
ob (evFa 0 b) fun V =>
ob (evLd false 1 V h2) fun Q =>
ob (y6 .eql O Q) fun j =>
gb j true (evFa 1 a) fun X =>
gb j true (evLd false 1 X h2) fun a7 =>
gb j true (evFa 1 b) fun U =>
gb j true (evLd false 1 U h2) fun a5 =>
gb j true (y6 .eql a7 a5) fun M =>
ob (yb j M (.bool false)) fun l =>
gb l true (evFa 2 a) fun L =>
gb l true (evLd false 1 L h2) fun R =>
gb l true (evFa 2 b) fun C =>
gb l true (evLd false 1 C h2) fun H =>
gb l true (y6 .eql R H) fun u =>
ob (yb l u (.bool false)) fun c =>
gb c true (evFa 3 a) fun a2 =>
gb c true (evLd false 1 a2 h2) fun m =>
gb c true (evFa 3 b) fun b1 =>
gb c true (evLd false 1 b1 h2) fun o =>
gb c true (y6 .eql m o) fun p =>
ob (yb c p (.bool false)) fun g =>
gb g true (evFa 4 a) fun Y =>
gb g true (evLd false 1 Y h2) fun a6 =>
gb g true (evFa 4 b) fun D =>
gb g true (evLd false 1 D h2) fun v =>
gb g true (y6 .eql a6 v) fun a8 =>
ob (yb g a8 (.bool false)) fun k =>
gb k true (evFa 5 a) fun w =>
gb k true (evLd false 1 w h2) fun S =>
gb k true (evFa 5 b) fun r =>
gb k true (evLd false 1 r h2) fun a0 =>
gb k true (y6 .eql S a0) fun a4 =>
ob (yb k a4 (.bool false)) fun i =>
gb i true (evFa 6 a) fun n =>
gb i true (evLd false 1 n h2) fun F =>
gb i true (evFa 6 b) fun J =>
gb i true (evLd false 1 J h2) fun P =>
gb i true (y6 .eql F P) fun t =>
ob (yb i t (.bool false)) fun d =>
gb d true (evFa 7 a) fun a3 =>
gb d true (evLd false 1 a3 h2) fun K =>
gb d true (evFa 7 b) fun x =>
gb d true (evLd false 1 x h2) fun z =>
gb d true (y6 .eql K z) fun a9 =>
ob (yb d a9 (.bool false)) fun e =>
gb e true (evFa 8 a) fun N =>
gb e true (evLd false 1 N h2) fun A =>
gb e true (evFa 8 b) fun Z =>
gb e true (evLd false 1 Z h2) fun B =>
gh e true (y7 E (y8 E) 0 none true 11 [A, B] h2) h2 fun I h3 =>
ob (yb e I (.bool false)) fun G =>
(yd h3 G)
def y2fu (s : St) : OX := yah (s 0) (s 1) s.h
theorem y1zh : T0 y155 [.t 4] y2fu := fun _ => by kernel_rfl
@[simp] theorem y2s4 : E.pure 28 = true := rfl
theorem y2nz (b a : AV) : (y8 E).p 28 [b, a] = yah b a [⟨0, .dead⟩, ⟨0, .dead⟩] :=
  (yr (cf := y2a3) (by kernel_rfl) rfl).trans ((y1zh _).trans (by kernel_rfl))
def y2er (e : AV) (h : Heap) : OX :=
oh (newC 0 (some 0) (cellsOf e) h) fun c h1 =>
ob (evFa 0 c) fun j =>
ob (evLd false 1 j h1) fun o =>
ob (y6 .eql o (.int .i64 27)) fun b =>
gb b false (evFa 0 c) fun n =>
gb b false (evLd false 1 n h1) fun g =>
gb b false (y6 .eql g (.int .i64 30)) fun i =>
ob (yb b (.bool true) i) fun a =>
gb a false (evFa 0 c) fun m =>
gb a false (evLd false 1 m h1) fun l =>
gb a false (y6 .eql l (.int .i64 31)) fun k =>
ob (yb a (.bool true) k) fun d =>
(yd h1 d)
def y2on (s : St) : OX := y2er (s 0) s.h
theorem y21k : T0 y1wk [.t 2] y2on := fun _ => by kernel_rfl
@[simp] theorem y2v2 : E.pure 24 = true := rfl
theorem y2t7 (a : AV) : (y8 E).p 24 [a] = y2er a [⟨0, .dead⟩] :=
  (yr (cf := y2p0) (by kernel_rfl) rfl).trans ((y21k _).trans (by kernel_rfl))
def y176 (d c : AV) (h : Heap) : OX :=
oh (y7 E (y8 E) 0 none true 45 [d, c] h) fun a h1 =>
ob (y6 .geq a (.int .i64 0)) fun b =>
(yd h1 b)
def y2ik (s : St) : OX := y176 (s 0) (s 1) s.h
theorem y1np : T0 y1al [.t 4] y2ik := fun _ => by kernel_rfl
@[simp] theorem y2va : E.pure 46 = true := rfl
theorem y2o0 (b a : AV) : (y8 E).p 46 [b, a] = y176 b a [] :=
  (yr (cf := y2au) (by kernel_rfl) rfl).trans ((y1np _).trans (by kernel_rfl))
def y1yv (j c : AV) (h : Heap) : OX :=
ob (evLd true 9 c h) fun p =>
oh (y7 E (y8 E) 0 none true 22 [p] h) fun r h1 =>
ob (evUn .not r) fun b =>
gb b false (evFa 6 c) fun n =>
gb b false (evLd false 1 n h1) fun g =>
gb b false (y6 .geq g (.int .i64 0)) fun u =>
gb b false (some u) fun a =>
gb a true (evFa 6 c) fun t =>
gb a true (evLd false 1 t h1) fun o =>
gb a true (evFa 3 j) fun l =>
gb a true (evLd false 1 l h1) fun i =>
gb a true (yv 1 i h1) fun k =>
gb a true (y6 .lss o k) fun d =>
gb b false (yb a d (.bool false)) fun e =>
ob (yb b (.bool true) e) fun m =>
(yd h1 m)
def y2ll (s : St) : OX := y1yv (s 2) (s 3) s.h
theorem y23k : T0 y1js [.t 4] y2ll := fun _ => by kernel_rfl
def ya6 (d a : AV) (h : Heap) : OX :=
ob (evFa 0 a) fun r =>
ob (evLd false 1 r h) fun i =>
ob (y6 .eql i (.int .i64 1)) fun J =>
cnd J
 (ob (evFa 0 d) fun a2 =>
ob (evLd false 1 a2 h) fun y =>
ob (evFa 1 a) fun v =>
ob (evLd false 1 v h) fun z =>
ob (yn 1 y z) fun c8 =>
ob (evLd false 1 c8 h) fun j =>
ob (y6 .neq j (.int .i64 3)) fun b =>
gb b true (evFa 0 d) fun Q =>
gb b true (evLd false 1 Q h) fun p =>
gb b true (evFa 1 a) fun I =>
gb b true (evLd false 1 I h) fun a6 =>
gb b true (yn 1 p a6) fun w =>
gb b true (evLd false 1 w h) fun b6 =>
gb b true (y6 .eql b6 (.int .i64 2)) fun a3 =>
gb b true (some a3) fun e =>
gb e false (evFa 5 a) fun b2 =>
gb e false (evLd false 1 b2 h) fun a9 =>
gb e false (evFa 5 a) fun a7 =>
gb e false (evLd false 1 a7 h) fun c1 =>
gb e false (y1ck .i32 c1) fun b7 =>
gb e false (y1ck .i64 b7) fun o =>
gb e false (y6 .eql a9 o) fun M =>
gb b true (yb e (.bool true) M) fun b0 =>
ob (yb b b0 (.bool false)) fun c4 =>
(yd h c4))
 (ob (y6 .eql i (.int .i64 4)) fun O =>
cnd O
 (ob (evFa 0 d) fun a4 =>
ob (evLd false 1 a4 h) fun K =>
ob (evFa 1 a) fun P =>
ob (evLd false 1 P h) fun b3 =>
ob (yn 1 K b3) fun x =>
ob (evLd false 1 x h) fun c5 =>
ob (evFa 0 d) fun l =>
ob (evLd false 1 l h) fun A =>
ob (evFa 2 a) fun c3 =>
ob (evLd false 1 c3 h) fun b4 =>
ob (yn 1 A b4) fun a8 =>
ob (evLd false 1 a8 h) fun V =>
ob (y6 .eql c5 V) fun B =>
(yd h B))
 (ob (y6 .eql i (.int .i64 7)) fun G =>
cnd G
 (ob (evFa 0 d) fun X =>
ob (evLd false 1 X h) fun c2 =>
ob (evFa 2 a) fun n =>
ob (evLd false 1 n h) fun F =>
ob (yn 1 c2 F) fun H =>
ob (evLd false 1 H h) fun U =>
ob (y6 .neq U (.int .i64 3)) fun b5 =>
(yd h b5))
 (ob (y6 .eql i (.int .i64 30)) fun C =>
cnd C
 (ob (evFa 2 a) fun u =>
ob (evLd false 1 u h) fun b1 =>
ob (y6 .eql b1 (.int .i64 (-1))) fun Y =>
ob (evFa 2 d) fun m =>
ob (evLd false 1 m h) fun R =>
ob (y6 .eql R (.int .i64 0)) fun a0 =>
ob (y26s false Y a0) fun g =>
gb g true (evFa 2 a) fun D =>
gb g true (evLd false 1 D h) fun a1 =>
gb g true (y6 .eql a1 (.int .i64 (-1))) fun b8 =>
gb g true (some b8) fun c =>
gb c false (evFa 0 d) fun t =>
gb c false (evLd false 1 t h) fun c7 =>
gb c false (evFa 2 a) fun b9 =>
gb c false (evLd false 1 b9 h) fun c0 =>
gb c false (yn 1 c7 c0) fun L =>
gb c false (evLd false 1 L h) fun S =>
gb c false (evFa 2 d) fun Z =>
gb c false (evLd false 1 Z h) fun N =>
gb c false (y6 .eql S N) fun a5 =>
gb g true (yb c (.bool true) a5) fun c6 =>
ob (yb g c6 (.bool false)) fun k =>
(yd h k))
 ((y1yv d a h)))))
def y6e (s : St) : OX := ya6 (s 2) (s 3) s.h
theorem y215 : T0 y1ku [.t 4] y6e := sq y23k fun _ => by kernel_rfl
def yk4 (b c a e d : AV) (h : Heap) : OX :=
  W E 0 ypn ⟨[(2, b), (3, c), (63, a), (64, e), (65, d)], h⟩ y6e (y4 2 y6e xN) (finP [.t 4])
def ycz (s : St) : OX := yk4 (s 2) (s 3) (s 63) (s 64) (s 65) s.h
theorem yxf : T1 ypn y6e (y4 2 y6e xN) [.t 4] ycz := fun s => yf.trans (by kernel_rfl)
def y1oj (b d a g e : AV) (h : Heap) : OX :=
ob (y6 .add e (.int .i64 1)) fun c =>
(yk4 b d a g c h)
def ygo (s : St) : OX := y1oj (s 2) (s 3) (s 63) (s 64) (s 65) s.h
theorem y20k : T1 y1v8 ycz (y4 2 y6e xN) [.t 4] ygo := fun _ => by kernel_rfl
def yjs (g j A i p x v : AV) (h : Heap) : OX :=
ob (y6 .lss i (.int .i64 0)) fun d =>
gb d false (some i) fun w =>
gb d false (evFa 0 g) fun L =>
gb d false (evLd false 1 L h) fun y =>
gb d false (yv 1 y h) fun J =>
gb d false (y6 .geq w J) fun m =>
ob (yb d (.bool true) m) fun b =>
gb b false (some A) fun K =>
gb b false (y6 .eql K (.int .i64 0)) fun D =>
gb b false (some D) fun c =>
gb c true (evFa 0 j) fun F =>
gb c true (evLd false 1 F h) fun H =>
gb c true (y6 .eql H (.int .i64 24)) fun l =>
gb c true (some l) fun e =>
gb e false (evFa 0 j) fun k =>
gb e false (evLd false 1 k h) fun N =>
gb e false (y6 .eql N (.int .i64 25)) fun G =>
gb c true (yb e (.bool true) G) fun o =>
gb b false (yb c o (.bool false)) fun C =>
gb b false (some C) fun a =>
gb a true (evFa 0 g) fun M =>
gb a true (evLd false 1 M h) fun z =>
gb a true (some i) fun u =>
gb a true (yn 1 z u) fun I =>
gb a true (evLd false 1 I h) fun n =>
gb a true (y6 .neq n (.int .i64 3)) fun r =>
gb b false (yb a r (.bool false)) fun t =>
ob (yb b (.bool true) t) fun B =>
cnd B
 ((yd h (.bool false)))
 ((y1oj g j p x v h))
def y2o6 (s : St) : OX := yjs (s 2) (s 3) (s 9) (s 10) (s 63) (s 64) (s 65) s.h
theorem y21l : T1 y1ss ygo (y4 3 ygo (y4 2 y6e xN)) [.t 4] y2o6 := fun _ => by kernel_rfl
def y1s4 (b a l c d j g : AV) (h : Heap) : OX :=
ob (evLd true 9 a h) fun e =>
oh (y7 E (y8 E) 0 none true 17 [e] h) fun k h2 =>
ob (evUn .not k) fun i =>
cnd i
 ((ya6 b a h2))
 ((yjs b a l c d j g h2))
def y2ph (s : St) : OX := y1s4 (s 2) (s 3) (s 9) (s 10) (s 63) (s 64) (s 65) s.h
theorem y25y : T1 y1xr ygo (y4 3 ygo (y4 2 y6e xN)) [.t 4] y2ph := sq y21l fun _ => by kernel_rfl
def y1ko (c d b e a : AV) (h : Heap) : OX :=
ob (yn 1 b a) fun g =>
ob (evLd false 1 g h) fun i =>
(y1s4 c d a i b e a h)
def y1vm (s : St) : OX := y1ko (s 2) (s 3) (s 63) (s 64) (s 65) s.h
theorem y238 : T1 y208 ygo (y4 3 ygo (y4 2 y6e xN)) [.t 4] y1vm := sq y25y fun _ => by kernel_rfl
theorem y25q : T1 y1lr ygo (y4 2 y6e xN) [.t 4] y1vm := fun s => yp.trans (y238 s)
theorem y20p : T1 y1q4 ycz (y4 2 y6e xN) [.t 4] y1vm := sq y20k y25q
def yie (a b d g e c : AV) (h : Heap) : OX :=
cnd c
 ((y1ko a b d g e h))
 ((ya6 a b h))
def y2gh (s : St) : OX := yie (s 2) (s 3) (s 63) (s 64) (s 65) (s 66) s.h
theorem y1rx : T1 y12h ycz (y4 2 y6e xN) [.t 4] y2gh := sq y20p fun _ => by kernel_rfl
def yi1 (e g d b a : AV) (h : Heap) : OX :=
ob (y6 .lss a b) fun c =>
(yie e g d b a c h)
def y2cb (s : St) : OX := yi1 (s 2) (s 3) (s 63) (s 64) (s 65) s.h
theorem y1xf : T1 y1b7 ycz (y4 2 y6e xN) [.t 4] y2cb := sq y1rx fun _ => by kernel_rfl
theorem yl0 (b c a e d : AV) (h : Heap) : yk4 b c a e d h = (yi1 b c a e d h) :=
  y1q.trans ((y14 _ _ _ (n' := ycz) (fun s => yxf s)).trans ((y1xf _).trans (by kernel_rfl)))
theorem y1ty : T1 y133 y6e xN [.t 4] ycz := fun s => yp.trans (yxf s)
def yxc (d b : AV) (h : Heap) : OX :=
ob (evFa 8 b) fun c =>
ob (evLd false 1 c h) fun a =>
ob (yv 1 a h) fun e =>
(yk4 d b a e (.int .i64 0) h)
def y41 (s : St) : OX := yxc (s 2) (s 3) s.h
theorem y1q6 : T1 y168 y6e xN [.t 4] y41 := sq y1ty fun _ => by kernel_rfl
theorem y1lw : T0 y11k [.t 4] y41 := sq y215 y1q6
def ydh (b c d a e : AV) (h : Heap) : OX :=
  W E 0 yjt ⟨[(2, b), (3, c), (5, d), (26, a), (27, e)], h⟩ y41 (y4 0 y41 xN) (finP [.t 4])
def y8u (s : St) : OX := ydh (s 2) (s 3) (s 5) (s 26) (s 27) s.h
theorem yp2 : T1 yjt y41 (y4 0 y41 xN) [.t 4] y8u := fun s => yf.trans (by kernel_rfl)
def yv1 (c d e a g : AV) (h : Heap) : OX :=
ob (y6 .add g (.int .i64 1)) fun b =>
(ydh c d e a b h)
def yb7 (s : St) : OX := yv1 (s 2) (s 3) (s 5) (s 26) (s 27) s.h
theorem y1ka : T1 y174 y8u (y4 0 y41 xN) [.t 4] yb7 := fun _ => by kernel_rfl
def yjv (d A g i e j I : AV) (h : Heap) : OX :=
ob (y6 .lss e (.int .i64 0)) fun c =>
gb c false (some e) fun C =>
gb c false (evFa 0 d) fun p =>
gb c false (evLd false 1 p h) fun B =>
gb c false (yv 1 B h) fun m =>
gb c false (y6 .geq C m) fun D =>
ob (yb c (.bool true) D) fun b =>
gb b false (some i) fun G =>
gb b false (yqu 4 1 g G) fun k =>
gb b false (evLd false 1 k h) fun w =>
gb b false (y6 .gtr w (.int .i64 0)) fun x =>
gb b false (some x) fun a =>
gb a true (evFa 0 d) fun o =>
gb a true (evLd false 1 o h) fun l =>
gb a true (some e) fun r =>
gb a true (yn 1 l r) fun F =>
gb a true (evLd false 1 F h) fun y =>
gb a true (some i) fun t =>
gb a true (yqu 4 1 g t) fun v =>
gb a true (evLd false 1 v h) fun H =>
gb a true (y6 .neq y H) fun n =>
gb b false (yb a n (.bool false)) fun u =>
ob (yb b (.bool true) u) fun z =>
cnd z
 ((yd h (.bool false)))
 ((yv1 d A g j I h))
def y2i1 (s : St) : OX := yjv (s 2) (s 3) (s 5) (s 7) (s 8) (s 26) (s 27) s.h
theorem y1te : T1 y16s yb7 (y4 1 yb7 (y4 0 y41 xN)) [.t 4] y2i1 := fun _ => by kernel_rfl
def ye6 (c d a g k b e : AV) (h : Heap) : OX :=
ob (yqu 4 1 a g) fun i =>
ob (evLd false 1 i h) fun l =>
ob (y6 .lss l (.int .i64 0)) fun j =>
cnd j
 ((yv1 c d a b e h))
 ((yjv c d a g k b e h))
def y2fa (s : St) : OX := ye6 (s 2) (s 3) (s 5) (s 7) (s 8) (s 26) (s 27) s.h
theorem y202 : T1 y122 yb7 (y4 1 yb7 (y4 0 y41 xN)) [.t 4] y2fa := sq y1te fun _ => by kernel_rfl
def y1pi (d e g b a : AV) (h : Heap) : OX :=
ob (yqt false 4 1 b a) fun c =>
(ye6 d e g a c b a h)
def yyw (s : St) : OX := y1pi (s 2) (s 3) (s 5) (s 26) (s 27) s.h
theorem y1j3 : T1 y16k yb7 (y4 1 yb7 (y4 0 y41 xN)) [.t 4] yyw := sq y202 fun _ => by kernel_rfl
theorem y1kt : T1 y1bw yb7 (y4 0 y41 xN) [.t 4] yyw := fun s => yp.trans (y1j3 s)
theorem y1xl : T1 y15k y8u (y4 0 y41 xN) [.t 4] yyw := sq y1ka y1kt
def y177 (a b e c g d : AV) (h : Heap) : OX :=
cnd d
 ((y1pi a b e c g h))
 ((yxc a b h))
def y2bu (s : St) : OX := y177 (s 2) (s 3) (s 5) (s 26) (s 27) (s 28) s.h
theorem y1we : T1 y173 y8u (y4 0 y41 xN) [.t 4] y2bu := sq y1xl fun _ => by kernel_rfl
def y183 (c e g b a : AV) (h : Heap) : OX :=
ob (y6 .lss a (.int .i64 4)) fun d =>
(y177 c e g b a d h)
def y2bh (s : St) : OX := y183 (s 2) (s 3) (s 5) (s 26) (s 27) s.h
theorem y1kx : T1 y18s y8u (y4 0 y41 xN) [.t 4] y2bh := sq y1we fun _ => by kernel_rfl
theorem ym8 (b c d a e : AV) (h : Heap) : ydh b c d a e h = (y183 b c d a e h) :=
  y1q.trans ((y14 _ _ _ (n' := y8u) (fun s => yp2 s)).trans ((y1kx _).trans (by kernel_rfl)))
theorem y1r7 : T1 y1a5 y41 xN [.t 4] y8u := fun s => yp.trans (yp2 s)
def y1zl (d a m : AV) (h : Heap) : OX :=
ob (evFa 1 a) fun n =>
ob (evLd false 1 n h) fun i =>
ob (evFa 2 a) fun e =>
ob (evLd false 1 e h) fun j =>
ob (evFa 3 a) fun l =>
ob (evLd false 1 l h) fun b =>
ob (evFa 4 a) fun k =>
ob (evLd false 1 k h) fun g =>
ob (yx [(.int .i64 0), (.int .i64 0), (.int .i64 0), (.int .i64 0)] [(0, 1, i), (1, 1, j), (2, 1, b), (3, 1, g)]) fun c =>
(ydh d a m c (.int .i64 0) h)
def y1ib (s : St) : OX := y1zl (s 2) (s 3) (s 5) s.h
theorem y1v2 : T1 y15n y41 xN [.t 4] y1ib := sq y1r7 fun _ => by kernel_rfl
theorem y1s8 : T0 y15l [.t 4] y1ib := sq y1lw y1v2
def y16j (c d e b : AV) (h : Heap) : OX :=
ob (evUn .not b) fun a =>
cnd a
 ((yd h (.bool false)))
 ((y1zl c d e h))
def y2hg (s : St) : OX := y16j (s 2) (s 3) (s 5) (s 6) s.h
theorem y1t4 : T0 y18z [.t 4] y2hg := sq y1s8 fun _ => by kernel_rfl
def y1be (e a : AV) (h : Heap) : OX :=
ob (evLd true 9 a h) fun i =>
oh (y7 E (y8 E) 0 none true 47 [i] h) fun b h3 =>
ob (y42 0 b) fun g =>
ob (y42 1 b) fun d =>
oh (newC 0 (some 2) [(.int .i64 0), (.int .i64 0), (.int .i64 0), (.int .i64 0)] h3) fun c h4 =>
oh (evSt 4 c g h4) fun _ h5 =>
(y16j e a c d h5)
def y2c8 (s : St) : OX := y1be (s 2) (s 3) s.h
theorem y1z1 : T0 y12y [.t 4] y2c8 := sq y1t4 fun _ => by kernel_rfl
def ywi (d c : AV) (h : Heap) : OX :=
oh (newC 0 (some 0) (cellsOf d) h) fun a h6 =>
oh (newC 0 (some 1) (cellsOf c) h6) fun b h7 =>
(y1be a b h7)
def y2jw (s : St) : OX := ywi (s 0) (s 1) s.h
theorem y1wc : T0 y19l [.t 4] y2jw := sq y1z1 fun _ => by kernel_rfl
@[simp] theorem y2s6 : E.pure 63 = true := rfl
theorem y2um (b a : AV) : (y8 E).p 63 [b, a] = ywi b a [⟨0, .dead⟩, ⟨0, .dead⟩, ⟨0, .dead⟩] :=
  (yr (cf := y2pm) (by kernel_rfl) rfl).trans ((y1wc _).trans (by kernel_rfl))
def y2bo (e : AV) (h : Heap) : OX :=
oh (newC 0 (some 0) (cellsOf e) h) fun c h1 =>
ob (evFa 0 c) fun j =>
ob (evLd false 1 j h1) fun o =>
ob (y6 .eql o (.int .i64 27)) fun b =>
gb b false (evFa 0 c) fun n =>
gb b false (evLd false 1 n h1) fun g =>
gb b false (y6 .eql g (.int .i64 28)) fun i =>
ob (yb b (.bool true) i) fun a =>
gb a false (evFa 0 c) fun m =>
gb a false (evLd false 1 m h1) fun l =>
gb a false (y6 .eql l (.int .i64 29)) fun k =>
ob (yb a (.bool true) k) fun d =>
(yd h1 d)
def y2ly (s : St) : OX := y2bo (s 0) s.h
theorem y269 : T0 y1if [.t 2] y2ly := fun _ => by kernel_rfl
@[simp] theorem y2sn : E.pure 22 = true := rfl
theorem y2st (a : AV) : (y8 E).p 22 [a] = y2bo a [⟨0, .dead⟩] :=
  (yr (cf := y2or) (by kernel_rfl) rfl).trans ((y269 _).trans (by kernel_rfl))
def y1r3 (fb : Nat) (b a : AV) (h : Heap) : Option (AV × Heap) :=
ob (evLd false 1 a h) fun c =>
oh (y10 fb (some 0) 1 1 [(.int .i64 0)] [(0, b)] h) fun e h1 =>
oh (y3c fb (some 1) 1 8 c e h1) fun d h2 =>
oh (evSt 1 a d h2) fun _ h3 =>
(some ((.tup []), h3))
def y7q (fb : Nat) (s : St) : Option (AV × Heap) := y1r3 fb (s 0) (s 3) s.h
theorem y27g (fb : Nat) (s : St) : W E fb y1vd s (finI []) xN (finI []) = y7q fb s :=
  by kernel_rfl
def y2it (fb : Nat) (a c d b : AV) (h : Heap) : Option (AV × Heap) :=
ob (evLd false 1 c h) fun e =>
ob (yn 1 e a) fun g =>
oh (evSt 1 g b h) fun _ h4 =>
(y1r3 fb a d h4)
def y2ah (fb : Nat) (s : St) : Option (AV × Heap) := y2it fb (s 0) (s 2) (s 3) (s 6) s.h
theorem y22s (fb : Nat) (s : St) : W E fb y1qp s (y7q fb) (y4 0 (y7q fb) xN) (finI []) = y2ah fb s :=
  by kernel_rfl
def y2bz (fb : Nat) (b c i a : AV) (h : Heap) : Option (AV × Heap) :=
ob (yv 2 a h) fun k =>
ob (evLd false 1 c h) fun d =>
ob (yn 1 d b) fun e =>
ob (evLd false 1 e h) fun l =>
ob (yv 2 l h) fun j =>
ob (y6 .eql k j) fun g =>
cnd g
 ((some ((.tup []), h)))
 ((y2it fb b c i a h))
def y2at (fb : Nat) (s : St) : Option (AV × Heap) := y2bz fb (s 0) (s 2) (s 3) (s 6) s.h
theorem y22i (fb : Nat) (s : St) : W E fb y20c s (y7q fb) (y4 0 (y7q fb) xN) (finI []) = y2at fb s :=
  (y1tq (k := (y2ah fb)) (fun s => y22s fb s)).trans (by kernel_rfl)
def y2ia (fb : Nat) (a e b d : AV) (h : Heap) : Option (AV × Heap) :=
ob (evLd false 1 b h) fun i =>
ob (yn 1 i a) fun j =>
ob (evLd false 1 j h) fun c =>
oh (y7 E (y8 E) fb none true 170 [c, e] h) fun g h5 =>
(y2bz fb a b d g h5)
def y2oh (fb : Nat) (s : St) : Option (AV × Heap) := y2ia fb (s 0) (s 1) (s 2) (s 3) s.h
theorem y232 (fb : Nat) (s : St) : W E fb y1qq s (y7q fb) (y4 0 (y7q fb) xN) (finI []) = y2oh fb s :=
  (y1tq (k := (y2at fb)) (fun s => y22i fb s)).trans (by kernel_rfl)
def y23x (fb : Nat) (a c b d i : AV) (h : Heap) : Option (AV × Heap) :=
cnd i
 (ob (evLd false 1 b h) fun j =>
ofp (y2k E (y8 E) fb none true 161 [c] h) fun f3 =>
oh (y7 E (y8 E) fb none true 161 [c] h) fun g h6 =>
ob (yn 1 j a) fun e =>
oh (evSt 1 e g h6) fun _ h7 =>
okK (ye [(ids1 b, []), ([], []), ([], []), f3, ([], []), ([], ids1 e)] [(0, 3)]) <|
(y1r3 fb a d h7))
 ((y2ia fb a c b d h))
def y2al (fb : Nat) (s : St) : Option (AV × Heap) := y23x fb (s 0) (s 1) (s 2) (s 3) (s 25) s.h
theorem y28r (fb : Nat) (s : St) : W E fb y1t5 s (y7q fb) (y4 0 (y7q fb) xN) (finI []) = y2al fb s :=
  (y1e rfl (y232 fb s)).trans (by kernel_rfl)
def y270 (fb : Nat) (a j b g : AV) (h : Heap) : Option (AV × Heap) :=
ob (evLd false 1 b h) fun c =>
ob (yn 1 c a) fun e =>
ob (evLd false 1 e h) fun i =>
ob (y9c 2 false i AV.nilm) fun d =>
(y23x fb a j b g d h)
def y201 (fb : Nat) (s : St) : Option (AV × Heap) := y270 fb (s 0) (s 1) (s 2) (s 3) s.h
theorem y21r (fb : Nat) (s : St) : W E fb y1uw s (y7q fb) (y4 0 (y7q fb) xN) (finI []) = y201 fb s :=
  (y1tq (k := (y2al fb)) (fun s => y28r fb s)).trans (by kernel_rfl)
theorem y274 (fb : Nat) (s : St) : W E fb y1jd s (y7q fb) xN (finI []) = y201 fb s :=
  yp.trans (y21r fb s)
theorem y239 (fb : Nat) (s : St) : W E fb y1ys s (finI []) xN (finI []) = y201 fb s :=
  (y1tq (k := (y7q fb)) (fun s => y27g fb s)).trans (y274 fb s)
@[simp] theorem y2r0 : E.pure 167 = false := rfl
theorem y2tq (fb : Nat) (d c a b : AV) (h : Heap) : (y8 E).i 167 [d, c, a, b] fb h = y270 fb d c a b (if fb = h.length then h ++ y17 2 else h) :=
  (y2ch (cf := y2kt) (by kernel_rfl) rfl).trans ((y239 fb _).trans (by kernel_rfl))
def y22p (a : AV) (h : Heap) : OX :=
(yd h a)
def y1wg (s : St) : OX := y22p (s 5) s.h
theorem y24h : T0 y1vn [.t 4] y1wg := fun _ => by kernel_rfl
def y27r (g d a : AV) (h : Heap) : Option Heap :=
ob (evLd true 3 a h) fun b =>
ob (y6p true [0, 0, 0] (.bool false) false g b h) fun c =>
cnd c
 (ob (evLd true 3 a h) fun e =>
oh (y63 true [0, 0, 0] d e (.bool true) h) fun _ h1 =>
(some (killAll 0 [1] h1)))
 ((some (killAll 0 [1] h)))
def y2ni (s : St) : Option Heap := y27r (s 1) (s 5) (s 6) s.h
theorem y25v (s : St) : W E 0 y1va s (fun s3 => some (killAll 0 [1] s3.h)) xN (fun _ => none) = y2ni s :=
  by kernel_rfl
def y2j5 (c e b : AV) (h : Heap) : OX :=
orm c (fun q h2 =>
ob (y42 0 (AV.tup [q.1, q.2])) fun d =>
oh (newC 0 (some 1) [(.int .i64 0), (.int .i64 0), (.int .i64 0)] h2) fun a h4 =>
oh (evSt 3 a d h4) fun _ h5 =>
(y27r e b a h5)) h fun h3 =>
(y22p b h3)
def y29e (s : St) : OX := y2j5 (s 0) (s 1) (s 5) s.h
theorem y22q : T1 y1qc y1wg xN [.t 4] y29e := fun s => (yj4 (nk := y1wg) (fun s2 => y25v s2) (fun _ => rfl)).trans (by kernel_rfl)
theorem y28n : T0 y1jg [.t 4] y29e := sq y24h y22q
def y2ec (c b : AV) (h : Heap) : OX :=
oh (mkmC 0 (some 0) h) fun a h6 =>
(y2j5 c b a h6)
def y2pa (s : St) : OX := y2ec (s 0) (s 1) s.h
theorem y271 : T0 y1jp [.t 4] y2pa := sq y28n fun _ => by kernel_rfl
def y2j2 (b a : AV) (h : Heap) : OX :=
(y2ec b a h)
def y2q5 (s : St) : OX := y2j2 (s 0) (s 1) s.h
theorem y24g : T0 y1t3 [.t 4] y2q5 := sq y271 fun _ => by kernel_rfl
@[simp] theorem y2qx : E.pure 170 = true := rfl
theorem y2se (b a : AV) : (y8 E).p 170 [b, a] = y2j2 b a [⟨0, .dead⟩, ⟨0, .dead⟩] :=
  (yr (cf := y2l5) (by kernel_rfl) rfl).trans ((y24g _).trans (by kernel_rfl))
def y1ob (a : AV) (h : Heap) : OX :=
(yd h a)
def y5w (s : St) : OX := y1ob (s 5) s.h
theorem y24i : T0 y1mk [.t 4] y5w := fun _ => by kernel_rfl
def yss (e c d a b : AV) (h : Heap) : OX :=
  W E 0 yrb ⟨[(1, e), (5, c), (27, d), (28, a), (29, b)], h⟩ y5w (y4 0 y5w xN) (finP [.t 4])
def yda (s : St) : OX := yss (s 1) (s 5) (s 27) (s 28) (s 29) s.h
theorem ytl : T1 yrb y5w (y4 0 y5w xN) [.t 4] yda := fun s => yf.trans (by kernel_rfl)
def y1g8 (g d e b c : AV) (h : Heap) : OX :=
ob (y6 .add c (.int .i64 1)) fun a =>
(yss g d e b a h)
def yc7 (s : St) : OX := y1g8 (s 1) (s 5) (s 27) (s 28) (s 29) s.h
theorem y26r : T1 y1s1 yda (y4 0 y5w xN) [.t 4] yc7 := fun _ => by kernel_rfl
def y1dq (d a k i c e : AV) (h : Heap) : OX :=
ob (evFa 3 k) fun b =>
ob (evLd false 1 b h) fun g =>
ob (y6 .eql g (AV.str [])) fun j =>
cnd j
 ((y1ob a h))
 ((y1g8 d a i c e h))
def y2qh (s : St) : OX := y1dq (s 1) (s 5) (s 7) (s 27) (s 28) (s 29) s.h
theorem y28j : T1 y1ma yc7 (y4 1 yc7 (y4 0 y5w xN)) [.t 4] y2qh := fun _ => by kernel_rfl
def y228 (d b a g c e : AV) (h : Heap) : OX :=
ob (evFa 2 a) fun m =>
ob (evLd false 1 m h) fun o =>
oh (y7 E (y8 E) 0 none true 46 [b, o] h) fun j h1 =>
ob (evUn .not j) fun l =>
cnd l
 (ob (evFa 2 a) fun i =>
ob (evLd false 1 i h1) fun k =>
oh (y10 0 (some 2) 1 1 [(.int .i64 0)] [(0, k)] h1) fun n h2 =>
oh (y3c 0 (some 3) 1 8 b n h2) fun p h3 =>
(y1dq d p a g c e h3))
 ((y1dq d b a g c e h1))
def y2nl (s : St) : OX := y228 (s 1) (s 5) (s 7) (s 27) (s 28) (s 29) s.h
theorem y24t : T1 y1ri yc7 (y4 1 yc7 (y4 0 y5w xN)) [.t 4] y2nl := sq y28j fun _ => by kernel_rfl
def yzw (b g c i d e : AV) (h : Heap) : OX :=
ob (evFa 0 c) fun k =>
ob (evLd false 1 k h) fun o =>
ob (y6 .lss b o) fun a =>
gb a false (some b) fun p =>
gb a false (evFa 1 c) fun l =>
gb a false (evLd false 1 l h) fun m =>
gb a false (y6 .geq p m) fun n =>
ob (yb a (.bool true) n) fun j =>
cnd j
 ((y1g8 b g i d e h))
 ((y228 b g c i d e h))
def y2p9 (s : St) : OX := yzw (s 1) (s 5) (s 7) (s 27) (s 28) (s 29) s.h
theorem y217 : T1 y1q2 yc7 (y4 1 yc7 (y4 0 y5w xN)) [.t 4] y2p9 := sq y24t fun _ => by kernel_rfl
def y2hd (j i c e a : AV) (h : Heap) : OX :=
ob (yn 4 c a) fun g =>
ob (evLd true 4 g h) fun d =>
oh (newC 0 (some 1) [(.int .i64 0), (.int .i64 0), (.int .i64 0), (.str [])] h) fun b h4 =>
oh (evSt 4 b d h4) fun _ h5 =>
(yzw j i b c e a h5)
def y1wy (s : St) : OX := y2hd (s 1) (s 5) (s 27) (s 28) (s 29) s.h
theorem y24x : T1 y1sr yc7 (y4 1 yc7 (y4 0 y5w xN)) [.t 4] y1wy := sq y217 fun _ => by kernel_rfl
theorem y25d : T1 y1hx yc7 (y4 0 y5w xN) [.t 4] y1wy := fun s => yp.trans (y24x s)
theorem y275 : T1 y1nu yda (y4 0 y5w xN) [.t 4] y1wy := sq y26r y25d
def y0n (g a e c d b : AV) (h : Heap) : OX :=
cnd b
 ((y2hd g a e c d h))
 ((y1ob a h))
def y2f5 (s : St) : OX := y0n (s 1) (s 5) (s 27) (s 28) (s 29) (s 30) s.h
theorem y1zu : T1 y16q yda (y4 0 y5w xN) [.t 4] y2f5 := sq y275 fun _ => by kernel_rfl
def yvn (g d e a b : AV) (h : Heap) : OX :=
ob (y6 .lss b a) fun c =>
(y0n g d e a b c h)
def y2fy (s : St) : OX := yvn (s 1) (s 5) (s 27) (s 28) (s 29) s.h
theorem y1lc : T1 y17s yda (y4 0 y5w xN) [.t 4] y2fy := sq y1zu fun _ => by kernel_rfl
theorem yu9 (e c d a b : AV) (h : Heap) : yss e c d a b h = (yvn e c d a b h) :=
  y1q.trans ((y14 _ _ _ (n' := yda) (fun s => ytl s)).trans ((y1lc _).trans (by kernel_rfl)))
theorem y1y6 : T1 y15z y5w xN [.t 4] yda := fun s => yp.trans (ytl s)
def y1ou (g c e : AV) (h : Heap) : OX :=
ob (evFa 4 c) fun b =>
ob (evLd false 1 b h) fun a =>
ob (yv 1 a h) fun d =>
(yss g e a d (.int .i64 0) h)
def y1z0 (s : St) : OX := y1ou (s 1) (s 2) (s 5) s.h
theorem y1ur : T1 y114 y5w xN [.t 4] y1z0 := sq y1y6 fun _ => by kernel_rfl
theorem y1ni : T0 y1bv [.t 4] y1z0 := sq y24i y1ur
def y1rk (b a : AV) (h : Heap) : OX :=
(y1ou b a AV.nils h)
def y2h4 (s : St) : OX := y1rk (s 1) (s 2) s.h
theorem y1tx : T0 y13b [.t 4] y2h4 := sq y1ni fun _ => by kernel_rfl
def ymh (c d : AV) (h : Heap) : OX :=
ob (y6 .lss c (.int .i64 0)) fun b =>
gb b false (some c) fun u =>
gb b false (evFa 3 d) fun n =>
gb b false (evLd false 1 n h) fun m =>
gb b false (yv 1 m h) fun l =>
gb b false (y6 .geq u l) fun g =>
ob (yb b (.bool true) g) fun a =>
gb a false (evFa 3 d) fun t =>
gb a false (evLd false 1 t h) fun k =>
gb a false (some c) fun i =>
gb a false (yn 9 k i) fun o =>
gb a false (evLd true 9 o h) fun r =>
gh a false (y7 E (y8 E) 0 none true 18 [r] h) h fun e h6 =>
gb a false (evUn .not e) fun p =>
ob (yb a (.bool true) p) fun j =>
cnd j
 ((yd h6 AV.nils))
 ((y1rk c d h6))
def y2c6 (s : St) : OX := ymh (s 1) (s 2) s.h
theorem y1xg : T0 y1ae [.t 4] y2c6 := sq y1tx fun _ => by kernel_rfl
def yoo (c b : AV) (h : Heap) : OX :=
oh (newC 0 (some 0) (cellsOf c) h) fun a h7 =>
(ymh b a h7)
def y2d7 (s : St) : OX := yoo (s 0) (s 1) s.h
theorem y1t8 : T0 y128 [.t 4] y2d7 := sq y1xg fun _ => by kernel_rfl
@[simp] theorem y2tx : E.pure 79 = true := rfl
theorem y2u9 (b a : AV) : (y8 E).p 79 [b, a] = yoo b a [⟨0, .dead⟩, ⟨0, .dead⟩, ⟨0, .dead⟩, ⟨0, .dead⟩] :=
  (yr (cf := y2qi) (by kernel_rfl) rfl).trans ((y1t8 _).trans (by kernel_rfl))
def yxu (a : AV) (h : Heap) : OX :=
(yd h a)
def y6x (s : St) : OX := yxu (s 5) s.h
theorem y21z : T0 y1pz [.t 4] y6x := fun _ => by kernel_rfl
def y21j (k r i b : AV) (h : Heap) : Option Heap :=
ob (evFa 1 b) fun o =>
ob (evLd false 1 o h) fun l =>
ob (evFa 2 k) fun c =>
ob (evLd false 1 c h) fun e =>
ob (y6 .eql l e) fun a =>
gb a true (evFa 2 b) fun g =>
gb a true (evLd false 1 g h) fun t =>
gb a true (y6 .eql t (.int .i64 (-1))) fun m =>
ob (yb a m (.bool false)) fun d =>
cnd d
 (ob (evFa 0 b) fun j =>
ob (evLd false 1 j h) fun n =>
ob (yx [(.int .i64 0), (.int .i64 0), (.int .i64 0)] [(0, 1, n), (1, 1, i), (2, 1, (.int .i64 (-1)))]) fun p =>
oh (y63 true [0, 0, 0] r p (.bool true) h) fun _ h1 =>
(some (killAll 0 [4] h1)))
 ((some (killAll 0 [4] h)))
def y2pe (s : St) : Option Heap := y21j (s 3) (s 5) (s 8) (s 10) s.h
theorem y259 (s : St) : W E 0 y1se s (fun s3 => some (killAll 0 [4] s3.h)) xN (fun _ => none) = y2pe s :=
  by kernel_rfl
def y2c3 (d g b e : AV) (h : Heap) : OX :=
orm d (fun q h2 =>
ob (y42 0 (AV.tup [q.1, q.2])) fun c =>
oh (newC 0 (some 4) [(.int .i64 0), (.int .i64 0), (.int .i64 0)] h2) fun a h4 =>
oh (evSt 3 a c h4) fun _ h5 =>
(y21j g b e a h5)) h fun h3 =>
(yxu b h3)
def y2nj (s : St) : OX := y2c3 (s 0) (s 3) (s 5) (s 8) s.h
theorem y286 : T1 y1sp y6x (y4 2 y6x xN) [.t 4] y2nj := fun s => (yj4 (nk := y6x) (fun s2 => y259 s2) (fun _ => rfl)).trans (by kernel_rfl)
def yv7 (a c d : AV) (h : Heap) : OX :=
cnd d
 (ob (yx [(.int .i64 0), (.int .i64 0), (.int .i64 0)] [(0, 1, (.int .i64 8)), (1, 1, c), (2, 1, (.int .i64 (-1)))]) fun b =>
oh (y63 true [0, 0, 0] a b (.bool true) h) fun _ h6 =>
(yxu a h6))
 ((yxu a h))
def y2pv (s : St) : OX := yv7 (s 5) (s 8) (s 79) s.h
theorem y230 : T1 y1zp y6x (y4 2 y6x xN) [.t 4] y2pv := fun _ => by kernel_rfl
def y20j (b a c : AV) (h : Heap) : OX :=
ob (y6 .eql c (.int .i64 20)) fun g =>
cnd g
 ((yv7 b a g h))
 (ob (y6 .eql c (.int .i64 21)) fun e =>
cnd e
 ((yv7 b a e h))
 (ob (y6 .eql c (.int .i64 3)) fun d =>
cnd d
 ((yv7 b a d h))
 (ob (y6 .eql c (.int .i64 32)) fun i =>
(yv7 b a i h))))
def y2px (s : St) : OX := y20j (s 5) (s 8) (s 55) s.h
theorem y25u : T1 y1mp y6x (y4 2 y6x xN) [.t 4] y2px := sq y230 fun _ => by kernel_rfl
def y22k (d e b a g c : AV) (h : Heap) : OX :=
cnd c
 ((y2c3 d e b a h))
 ((y20j b a g h))
def y2of (s : St) : OX := y22k (s 0) (s 3) (s 5) (s 8) (s 55) (s 56) s.h
theorem y213 : T1 y1rh y6x (y4 2 y6x xN) [.t 4] y2of := fun s => (y1e (y286 s) (y25u s)).trans (by kernel_rfl)
def y1oe (b d g c a : AV) (h : Heap) : OX :=
ob (y6 .eql a (.int .i64 4)) fun e =>
(y22k b d g c a e h)
def y29j (s : St) : OX := y1oe (s 0) (s 3) (s 5) (s 8) (s 55) s.h
theorem y290 : T1 y1sl y6x (y4 2 y6x xN) [.t 4] y29j := sq y213 fun _ => by kernel_rfl
theorem y221 : T1 y1mi y6x xN [.t 4] y29j := fun s => yp.trans (y290 s)
def y21t (b a e c : AV) (h : Heap) : OX :=
ob (evFa 0 a) fun d =>
ob (evLd false 1 d h) fun g =>
(y1oe b a e c g h)
def y17t (s : St) : OX := y21t (s 0) (s 3) (s 5) (s 8) s.h
theorem y266 : T1 y1qk y6x xN [.t 4] y17t := sq y221 fun _ => by kernel_rfl
theorem y1m7 : T0 y12u [.t 4] y17t := sq y21z y266
def y17d (n c b : AV) (h : Heap) : Option Heap :=
ob (evFa 1 b) fun d =>
ob (evLd false 1 d h) fun i =>
ob (y6 .eql i c) fun a =>
gb a false (evFa 2 b) fun k =>
gb a false (evLd false 1 k h) fun m =>
gb a false (some c) fun e =>
gb a false (y6 .eql m e) fun j =>
ob (yb a (.bool true) j) fun l =>
cnd l
 (ob (evLd true 3 b h) fun g =>
oh (yce true [0, 0, 0] n g h) fun _ h7 =>
(some (killAll 0 [3] h7)))
 ((some (killAll 0 [3] h)))
def y2g6 (s : St) : Option Heap := y17d (s 5) (s 8) (s 9) s.h
theorem y1ne (s : St) : W E 0 y117 s (fun s3 => some (killAll 0 [3] s3.h)) xN (fun _ => none) = y2g6 s :=
  by kernel_rfl
def y19m (a e c b : AV) (h : Heap) : OX :=
orm a (fun q h8 =>
ob (y42 0 (AV.tup [q.1, q.2])) fun g =>
oh (newC 0 (some 3) [(.int .i64 0), (.int .i64 0), (.int .i64 0)] h8) fun d h10 =>
oh (evSt 3 d g h10) fun _ h11 =>
(y17d c b d h11)) h fun h9 =>
(y21t a e c b h9)
def y1ie (s : St) : OX := y19m (s 0) (s 3) (s 5) (s 8) s.h
theorem y1rb : T1 y11p y17t xN [.t 4] y1ie := fun s => (yj4 (nk := y17t) (fun s2 => y1ne s2) (fun _ => rfl)).trans (by kernel_rfl)
theorem y1os : T0 y18i [.t 4] y1ie := sq y1m7 y1rb
def y1tl (j b d c : AV) (h : Heap) : OX :=
ob (evFa 0 b) fun g =>
ob (evLd false 1 g h) fun n =>
ob (y6 .eql n (.int .i64 4)) fun a =>
gb a true (evFa 2 b) fun i =>
gb a true (evLd false 1 i h) fun l =>
gb a true (some c) fun e =>
gb a true (y6 .eql l e) fun m =>
ob (yb a m (.bool false)) fun k =>
cnd k
 ((yd h d))
 ((y19m j b d c h))
def y2fj (s : St) : OX := y1tl (s 0) (s 3) (s 5) (s 8) s.h
theorem y1uh : T0 y17k [.t 4] y2fj := sq y1os fun _ => by kernel_rfl
def y1a8 (c d b a : AV) (h : Heap) : OX :=
ob (y6 .lss a (.int .i64 0)) fun e =>
cnd e
 ((yd h b))
 ((y1tl c d b a h))
def y2ie (s : St) : OX := y1a8 (s 0) (s 3) (s 5) (s 8) s.h
theorem y1ug : T0 y1c7 [.t 4] y2ie := sq y1uh fun _ => by kernel_rfl
def yuw (b a e : AV) (h : Heap) : OX :=
ob (evLd true 9 a h) fun c =>
oh (y7 E (y8 E) 0 none true 9 [c] h) fun d h12 =>
(y1a8 b a e d h12)
def y2iy (s : St) : OX := yuw (s 0) (s 3) (s 5) s.h
theorem y1pl : T0 y14t [.t 4] y2iy := sq y1ug fun _ => by kernel_rfl
def y1py (e a b : AV) (h : Heap) : OX :=
ob (evLd true 9 a h) fun k =>
oh (y7 E (y8 E) 0 none true 169 [k] h) fun c h13 =>
ob (y42 0 c) fun j =>
ob (y42 1 c) fun g =>
oh (newC 0 (some 2) [(.int .i64 0), (.int .i64 0), (.int .i64 0)] h13) fun d h14 =>
oh (evSt 3 d j h14) fun _ h15 =>
cnd g
 (ob (evLd true 3 d h15) fun i =>
oh (y63 true [0, 0, 0] b i (.bool true) h15) fun _ h16 =>
(yuw e a b h16))
 ((yuw e a b h15))
def y2if (s : St) : OX := y1py (s 0) (s 3) (s 5) s.h
theorem y1z4 : T0 y165 [.t 4] y2if := sq y1pl fun _ => by kernel_rfl
def y1ln (a b : AV) (h : Heap) : OX :=
oh (y7 E (y8 E) 0 (some 1) false 161 [a] h) fun c h17 =>
(y1py a b c h17)
def y2dv (s : St) : OX := y1ln (s 0) (s 3) s.h
theorem y1l3 : T0 y1c4 [.t 4] y2dv := sq y1z4 fun _ => by kernel_rfl
def y1or (c b : AV) (h : Heap) : OX :=
oh (newC 0 (some 0) (cellsOf b) h) fun a h18 =>
(y1ln c a h18)
def y2hs (s : St) : OX := y1or (s 0) (s 1) s.h
theorem y1ui : T0 y17a [.t 4] y2hs := sq y1l3 fun _ => by kernel_rfl
@[simp] theorem y2qo : E.pure 168 = true := rfl
theorem y2tl (b a : AV) : (y8 E).p 168 [b, a] = y1or b a [⟨0, .dead⟩, ⟨0, .dead⟩, ⟨0, .dead⟩, ⟨0, .dead⟩, ⟨0, .dead⟩] :=
  (yr (cf := y2mi) (by kernel_rfl) rfl).trans ((y1ui _).trans (by kernel_rfl))
def ylu (a : AV) (h : Heap) : OX :=
(yd h a)
def y2pw (s : St) : OX := ylu (s 6) s.h
theorem y264 : T0 y1vz [.t 4] y2pw := fun _ => by kernel_rfl
def yly (c b : AV) (h : Heap) : OX :=
ob (evLd true 9 c h) fun i =>
oh (y7 E (y8 E) 0 none true 22 [i] h) fun a h1 =>
gb a true (some b) fun d =>
gb a true (evFa 6 c) fun j =>
gb a true (evLd false 1 j h1) fun g =>
gh a true (y7 E (y8 E) 0 none true 46 [d, g] h1) h1 fun n h2 =>
gb a true (evUn .not n) fun m =>
ob (yb a m (.bool false)) fun p =>
cnd p
 (ob (evFa 6 c) fun o =>
ob (evLd false 1 o h2) fun k =>
oh (y10 0 (some 4) 1 1 [(.int .i64 0)] [(0, k)] h2) fun l h3 =>
oh (y3c 0 (some 5) 1 8 b l h3) fun e h4 =>
(ylu e h4))
 ((ylu b h2))
def y2nq (s : St) : OX := yly (s 5) (s 6) s.h
theorem y241 : T0 y1vv [.t 4] y2nq := sq y264 fun _ => by kernel_rfl
def ylw (k a b : AV) (h : Heap) : OX :=
ob (evLd true 9 a h) fun g =>
oh (y7 E (y8 E) 0 none true 24 [g] h) fun i h5 =>
ob (evUn .not i) fun c =>
cnd c
 (ob (y6 .add k (.int .i64 1)) fun d =>
oh (y10 0 (some 2) 1 1 [(.int .i64 0)] [(0, d)] h5) fun j h6 =>
oh (y3c 0 (some 3) 1 8 b j h6) fun e h7 =>
(yly a e h7))
 ((yly a b h5))
def y2l0 (s : St) : OX := ylw (s 1) (s 5) (s 6) s.h
theorem y23y : T0 y1tr [.t 4] y2l0 := sq y241 fun _ => by kernel_rfl
def y1z3 (b a : AV) (h : Heap) : OX :=
(ylw b a AV.nils h)
def y2m4 (s : St) : OX := y1z3 (s 1) (s 5) s.h
theorem y20y : T0 y1lo [.t 4] y2m4 := sq y23y fun _ => by kernel_rfl
def y1nk (b d : AV) (h : Heap) : OX :=
ob (evFa 3 d) fun i =>
ob (evLd false 1 i h) fun c =>
ob (yn 9 c b) fun g =>
ob (evLd true 9 g h) fun e =>
oh (newC 0 (some 1) [(.int .i64 0), (.int .i64 0), (.int .i64 0), (.int .i64 0), (.int .i64 0), (.int .i64 0), (.int .i64 0), (.str []), .nils] h) fun a h8 =>
oh (evSt 9 a e h8) fun _ h9 =>
(y1z3 b a h9)
def y2pu (s : St) : OX := y1nk (s 1) (s 2) s.h
theorem y20q : T0 y1l1 [.t 4] y2pu := sq y20y fun _ => by kernel_rfl
def y1nd (b c : AV) (h : Heap) : OX :=
ob (y6 .lss b (.int .i64 0)) fun a =>
gb a false (some b) fun d =>
gb a false (evFa 3 c) fun k =>
gb a false (evLd false 1 k h) fun j =>
gb a false (yv 1 j h) fun i =>
gb a false (y6 .geq d i) fun g =>
ob (yb a (.bool true) g) fun e =>
cnd e
 ((yd h AV.nils))
 ((y1nk b c h))
def y2lq (s : St) : OX := y1nd (s 1) (s 2) s.h
theorem y20w : T0 y1mw [.t 4] y2lq := sq y20q fun _ => by kernel_rfl
def y1fo (c b : AV) (h : Heap) : OX :=
oh (newC 0 (some 0) (cellsOf c) h) fun a h10 =>
(y1nd b a h10)
def y2nr (s : St) : OX := y1fo (s 0) (s 1) s.h
theorem y23e : T0 y1zz [.t 4] y2nr := sq y20w fun _ => by kernel_rfl
@[simp] theorem y2rn : E.pure 81 = true := rfl
theorem y2tm (b a : AV) : (y8 E).p 81 [b, a] = y1fo b a [⟨0, .dead⟩, ⟨0, .dead⟩, ⟨0, .dead⟩, ⟨0, .dead⟩, ⟨0, .dead⟩, ⟨0, .dead⟩] :=
  (yr (cf := y2md) (by kernel_rfl) rfl).trans ((y23e _).trans (by kernel_rfl))
def y2j4 (a : AV) (h : Heap) : OX :=
ob (yx [(.int .i64 0), (.int .i64 0), (.int .i64 0)] []) fun b =>
oh (evSt 3 a b h) fun _ h1 =>
(ob (evLd true 3 a h1) fun r0 =>
  yd h1 (.tup [r0, (.bool false)]))
def yl3 (s : St) : OX := y2j4 (s 2) s.h
theorem y26n : T0 y1jk [.cell 2 true 3, .t 3] yl3 := fun _ => by kernel_rfl
def yzm (b a r g : AV) (h : Heap) : OX :=
cnd g
 (ob (evFa 0 b) fun d =>
ob (evLd false 1 d h) fun u =>
ob (evFa 2 b) fun n =>
ob (evLd false 1 n h) fun m =>
ob (yx [(.int .i64 0), (.int .i64 0), (.int .i64 0)] [(0, 1, u), (1, 1, m), (2, 1, (.int .i64 (-1)))]) fun l =>
oh (evSt 3 a l h) fun _ h2 =>
(ob (evLd true 3 a h2) fun r0 =>
  yd h2 (.tup [r0, (.bool true)])))
 (ob (y6 .eql r (.int .i64 9)) fun j =>
cnd j
 (ob (evFa 0 b) fun e =>
ob (evLd false 1 e h) fun t =>
ob (evFa 2 b) fun k =>
ob (evLd false 1 k h) fun i =>
ob (evFa 3 b) fun o =>
ob (evLd false 1 o h) fun p =>
ob (yx [(.int .i64 0), (.int .i64 0), (.int .i64 0)] [(0, 1, t), (1, 1, i), (2, 1, p)]) fun c =>
oh (evSt 3 a c h) fun _ h3 =>
(ob (evLd true 3 a h3) fun r0 =>
  yd h3 (.tup [r0, (.bool true)])))
 ((y2j4 a h)))
def y2n2 (s : St) : OX := yzm (s 1) (s 2) (s 5) (s 6) s.h
theorem y22r : T1 y1sx yl3 (y4 0 yl3 xN) [.cell 2 true 3, .t 3] y2n2 := fun _ => by kernel_rfl
def y276 (c b a : AV) (h : Heap) : OX :=
ob (y6 .eql a (.int .i64 7)) fun e =>
cnd e
 ((yzm c b a e h))
 (ob (y6 .eql a (.int .i64 8)) fun d =>
cnd d
 ((yzm c b a d h))
 (ob (y6 .eql a (.int .i64 10)) fun g =>
(yzm c b a g h)))
def y29g (s : St) : OX := y276 (s 1) (s 2) (s 5) s.h
theorem y21c : T1 y1s7 yl3 (y4 0 yl3 xN) [.cell 2 true 3, .t 3] y29g := sq y22r fun _ => by kernel_rfl
theorem y291 : T1 y1xh yl3 xN [.cell 2 true 3, .t 3] y29g := fun s => yp.trans (y21c s)
def y28h (a b : AV) (h : Heap) : OX :=
ob (evFa 0 a) fun d =>
ob (evLd false 1 d h) fun c =>
(y276 a b c h)
def y2ba (s : St) : OX := y28h (s 1) (s 2) s.h
theorem y25n : T1 y1i2 yl3 xN [.cell 2 true 3, .t 3] y2ba := sq y291 fun _ => by kernel_rfl
theorem y21x : T0 y1k3 [.cell 2 true 3, .t 3] y2ba := sq y26n y25n
def y25c (c : AV) (h : Heap) : OX :=
oh (newC 0 (some 0) (cellsOf c) h) fun b h4 =>
oh (newC 0 (some 1) [(.int .i64 0), (.int .i64 0), (.int .i64 0)] h4) fun a h5 =>
(y28h b a h5)
def y2m5 (s : St) : OX := y25c (s 0) s.h
theorem y26c : T0 y1q5 [.cell 2 true 3, .t 3] y2m5 := sq y21x fun _ => by kernel_rfl
@[simp] theorem y2qr : E.pure 169 = true := rfl
theorem y2sj (a : AV) : (y8 E).p 169 [a] = y25c a [⟨0, .dead⟩, ⟨0, .dead⟩] :=
  (yr (cf := y2mm) (by kernel_rfl) rfl).trans ((y26c _).trans (by kernel_rfl))
def y1nr (a : AV) (h : Heap) : OX :=
(yd h a)
def y1y (s : St) : OX := y1nr (s 3) s.h
theorem y1iz : T0 y181 [.t 2] y1y := fun _ => by kernel_rfl
def yjy (b c a : AV) (h : Heap) : OX :=
  W E 0 yjl ⟨[(1, b), (3, c), (4, a)], h⟩ y1y (y4 0 y1y xN) (finP [.t 2])
def ybu (s : St) : OX := yjy (s 1) (s 3) (s 4) s.h
theorem yp0 : T1 yjl y1y (y4 0 y1y xN) [.t 2] ybu := fun s => yf.trans (by kernel_rfl)
def yxq (c d b : AV) (h : Heap) : OX :=
ob (y6 .add b (.int .i64 1)) fun a =>
(yjy c d a h)
def y2b (s : St) : OX := yxq (s 1) (s 3) (s 4) s.h
theorem y1n2 : T1 y11h ybu (y4 0 y1y xN) [.t 2] y2b := fun _ => by kernel_rfl
def yke (c b a g : AV) (h : Heap) : OX :=
cnd g
 (oh (y10 0 (some 1) 1 1 [(.int .i64 0)] [(0, a)] h) fun d h1 =>
oh (y3c 0 (some 2) 1 8 b d h1) fun e h2 =>
(yxq c e a h2))
 ((yxq c b a h))
def y75 (s : St) : OX := yke (s 1) (s 3) (s 4) (s 5) s.h
theorem y1ig : T1 y196 y2b (y4 1 y2b (y4 0 y1y xN)) [.t 2] y75 := fun _ => by kernel_rfl
def yj5 (d b e c a : AV) (h : Heap) : OX :=
  W E 0 yhu ⟨[(1, d), (3, b), (4, e), (5, c), (8, a)], h⟩ y75 (y4 4 y75 (y4 1 y2b (y4 0 y1y xN))) (finP [.t 2])
def yc0 (s : St) : OX := yj5 (s 1) (s 3) (s 4) (s 5) (s 8) s.h
theorem ymw : T1 yhu y75 (y4 4 y75 (y4 1 y2b (y4 0 y1y xN))) [.t 2] yc0 := fun s => yf.trans (by kernel_rfl)
def ytt (e b g d a : AV) (h : Heap) : OX :=
ob (y6 .add a (.int .i64 1)) fun c =>
(yj5 e b g d c h)
def y2ib (s : St) : OX := ytt (s 1) (s 3) (s 4) (s 5) (s 8) s.h
theorem y1tg : T1 y1bg yc0 (y4 4 y75 (y4 1 y2b (y4 0 y1y xN))) [.t 2] y2ib := fun _ => by kernel_rfl
def yvi (c v d e : AV) (h : Heap) : OX :=
ob (evFa 4 c) fun g =>
ob (evLd false 1 g h) fun A =>
ob (yn 4 A e) fun u =>
ob (evFa 0 u) fun m =>
ob (evLd false 1 m h) fun C =>
ob (y6 .eql C d) fun b =>
gb b false (evFa 4 c) fun D =>
gb b false (evLd false 1 D h) fun k =>
gb b false (some e) fun B =>
gb b false (yn 4 k B) fun r =>
gb b false (evFa 1 r) fun z =>
gb b false (evLd false 1 z h) fun t =>
gb b false (some d) fun x =>
gb b false (y6 .eql t x) fun i =>
ob (yb b (.bool true) i) fun a =>
gb a false (evFa 4 c) fun G =>
gb a false (evLd false 1 G h) fun w =>
gb a false (some e) fun j =>
gb a false (yn 4 w j) fun p =>
gb a false (evFa 2 p) fun n =>
gb a false (evLd false 1 n h) fun F =>
gb a false (some d) fun o =>
gb a false (y6 .eql F o) fun l =>
ob (yb a (.bool true) l) fun y =>
(ytt c v d y e h)
def y2ep (s : St) : OX := yvi (s 1) (s 3) (s 4) (s 8) s.h
theorem y1nm : T1 y12i yc0 (y4 4 y75 (y4 1 y2b (y4 0 y1y xN))) [.t 2] y2ep := sq y1tg fun _ => by kernel_rfl
def ykb (b d g e c : AV) (h : Heap) : OX :=
ob (evFa 4 b) fun i =>
ob (evLd false 1 i h) fun l =>
ob (yv 1 l h) fun n =>
ob (y6 .lss c n) fun a =>
gb a true (some e) fun j =>
gb a true (evUn .not j) fun k =>
ob (yb a k (.bool false)) fun m =>
cnd m
 ((yvi b d g c h))
 ((yke b d g e h))
def y2k1 (s : St) : OX := ykb (s 1) (s 3) (s 4) (s 5) (s 8) s.h
theorem y1wr : T1 y131 yc0 (y4 4 y75 (y4 1 y2b (y4 0 y1y xN))) [.t 2] y2k1 := sq y1nm fun _ => by kernel_rfl
theorem yo1 (d b e c a : AV) (h : Heap) : yj5 d b e c a h = (ykb d b e c a h) :=
  y1q.trans ((y14 _ _ _ (n' := yc0) (fun s => ymw s)).trans ((y1wr _).trans (by kernel_rfl)))
theorem y1l4 : T1 y125 y75 (y4 1 y2b (y4 0 y1y xN)) [.t 2] yc0 := fun s => yp.trans (ymw s)
def yqx (c d b a : AV) (h : Heap) : OX :=
(yj5 c d b a (.int .i64 0) h)
def y4s (s : St) : OX := yqx (s 1) (s 3) (s 4) (s 5) s.h
theorem y1dr : T1 yxh y75 (y4 1 y2b (y4 0 y1y xN)) [.t 2] y4s := sq y1l4 fun _ => by kernel_rfl
theorem y1fu : T1 yug y2b (y4 1 y2b (y4 0 y1y xN)) [.t 2] y4s := sq y1ig y1dr
def ye1 (a b e c d : AV) (h : Heap) : OX :=
  W E 0 yfa ⟨[(1, a), (3, b), (4, e), (5, c), (7, d)], h⟩ y4s (y4 2 y4s (y4 1 y2b (y4 0 y1y xN))) (finP [.t 2])
def y7l (s : St) : OX := ye1 (s 1) (s 3) (s 4) (s 5) (s 7) s.h
theorem yjk : T1 yfa y4s (y4 2 y4s (y4 1 y2b (y4 0 y1y xN))) [.t 2] y7l := fun s => yf.trans (by kernel_rfl)
def yqz (a b g d e : AV) (h : Heap) : OX :=
ob (y6 .add e (.int .i64 1)) fun c =>
(ye1 a b g d c h)
def y28z (s : St) : OX := yqz (s 1) (s 3) (s 4) (s 5) (s 7) s.h
theorem y1gt : T1 yv9 y7l (y4 2 y4s (y4 1 y2b (y4 0 y1y xN))) [.t 2] y28z := fun _ => by kernel_rfl
def yq9 (b t d c : AV) (h : Heap) : OX :=
ob (evFa 3 b) fun m =>
ob (evLd false 1 m h) fun v =>
ob (yn 9 v c) fun l =>
ob (evFa 0 l) fun o =>
ob (evLd false 1 o h) fun r =>
oh (y7 E (y8 E) 0 none true 23 [r] h) fun a h3 =>
gb a true (evFa 3 b) fun j =>
gb a true (evLd false 1 j h3) fun u =>
gb a true (some c) fun n =>
gb a true (yn 9 u n) fun i =>
gb a true (evFa 6 i) fun k =>
gb a true (evLd false 1 k h3) fun w =>
gb a true (some d) fun e =>
gb a true (y6 .eql w e) fun g =>
ob (yb a g (.bool false)) fun p =>
(yqz b t d p c h3)
def y248 (s : St) : OX := yq9 (s 1) (s 3) (s 4) (s 7) s.h
theorem y1en : T1 ywo y7l (y4 2 y4s (y4 1 y2b (y4 0 y1y xN))) [.t 2] y248 := sq y1gt fun _ => by kernel_rfl
def yfe (b c g d e : AV) (h : Heap) : OX :=
ob (evFa 3 b) fun i =>
ob (evLd false 1 i h) fun m =>
ob (yv 1 m h) fun l =>
ob (y6 .lss e l) fun a =>
gb a true (some d) fun n =>
gb a true (evUn .not n) fun j =>
ob (yb a j (.bool false)) fun k =>
cnd k
 ((yq9 b c g e h))
 ((yqx b c g d h))
def y28o (s : St) : OX := yfe (s 1) (s 3) (s 4) (s 5) (s 7) s.h
theorem y1cd : T1 yub y7l (y4 2 y4s (y4 1 y2b (y4 0 y1y xN))) [.t 2] y28o := sq y1en fun _ => by kernel_rfl
theorem yjf (a b e c d : AV) (h : Heap) : ye1 a b e c d h = (yfe a b e c d h) :=
  y1q.trans ((y14 _ _ _ (n' := y7l) (fun s => yjk s)).trans ((y1cd _).trans (by kernel_rfl)))
theorem y1h3 : T1 yw9 y4s (y4 1 y2b (y4 0 y1y xN)) [.t 2] y7l := fun s => yp.trans (yjk s)
def yfy (c d b a : AV) (h : Heap) : OX :=
(ye1 c d b a (.int .i64 0) h)
def y185 (s : St) : OX := yfy (s 1) (s 3) (s 4) (s 5) s.h
theorem y1ef : T1 ysx y4s (y4 1 y2b (y4 0 y1y xN)) [.t 2] y185 := sq y1h3 fun _ => by kernel_rfl
theorem y1gl : T1 yt6 y2b (y4 1 y2b (y4 0 y1y xN)) [.t 2] y185 := sq y1fu y1ef
def ypl (c e a r : AV) (h : Heap) : OX :=
ob (y6 .gtr a (.int .i64 0)) fun m =>
cnd m
 (ob (evFa 3 c) fun k =>
ob (evLd false 1 k h) fun o =>
ob (y6 .sub a (.int .i64 1)) fun g =>
ob (yn 9 o g) fun p =>
ob (evFa 0 p) fun l =>
ob (evLd false 1 l h) fun d =>
oh (y7 E (y8 E) 0 none true 23 [d] h) fun b h4 =>
gb b false (some d) fun j =>
gh b false (y7 E (y8 E) 0 none true 25 [j] h4) h4 fun n h5 =>
ob (yb b (.bool true) n) fun i =>
(yfy c e a i h5))
 ((yfy c e a r h))
def y267 (s : St) : OX := ypl (s 1) (s 3) (s 4) (s 5) s.h
theorem y1e8 : T1 ytg y2b (y4 1 y2b (y4 0 y1y xN)) [.t 2] y267 := sq y1gl fun _ => by kernel_rfl
def yqo (c d a : AV) (h : Heap) : OX :=
ob (y6 .eql a (.int .i64 0)) fun b =>
(ypl c d a b h)
def yq4 (s : St) : OX := yqo (s 1) (s 3) (s 4) s.h
theorem y1d1 : T1 yxz y2b (y4 1 y2b (y4 0 y1y xN)) [.t 2] yq4 := sq y1e8 fun _ => by kernel_rfl
theorem y1cn : T1 ywt y2b (y4 0 y1y xN) [.t 2] yq4 := fun s => yp.trans (y1d1 s)
theorem y1fc : T1 ywg ybu (y4 0 y1y xN) [.t 2] yq4 := sq y1n2 y1cn
def yct (c a b : AV) (h : Heap) : OX :=
ob (evFa 3 c) fun d =>
ob (evLd false 1 d h) fun i =>
ob (yv 1 i h) fun g =>
ob (y6 .lss b g) fun e =>
cnd e
 ((yqo c a b h))
 ((y1nr a h))
def y20r (s : St) : OX := yct (s 1) (s 3) (s 4) s.h
theorem y1dl : T1 ysl ybu (y4 0 y1y xN) [.t 2] y20r := sq y1fc fun _ => by kernel_rfl
theorem yn1 (b c a : AV) (h : Heap) : yjy b c a h = (yct b c a h) :=
  y1q.trans ((y14 _ _ _ (n' := ybu) (fun s => yp0 s)).trans ((y1dl _).trans (by kernel_rfl)))
theorem y1ew : T1 yud y1y xN [.t 2] ybu := fun s => yp.trans (yp0 s)
def y0d (a b : AV) (h : Heap) : OX :=
(yjy a b (.int .i64 0) h)
def y126 (s : St) : OX := y0d (s 1) (s 3) s.h
theorem y1ee : T1 yur y1y xN [.t 2] y126 := sq y1ew fun _ => by kernel_rfl
theorem y1h1 : T0 yrv [.t 2] y126 := sq y1iz y1ee
def yyk (a : AV) (h : Heap) : OX :=
(y0d a AV.nils h)
def y287 (s : St) : OX := yyk (s 1) s.h
theorem y1gz : T0 yro [.t 2] y287 := sq y1h1 fun _ => by kernel_rfl
def y08 (b : AV) (h : Heap) : OX :=
oh (newC 0 (some 0) (cellsOf b) h) fun a h6 =>
(yyk a h6)
def y255 (s : St) : OX := y08 (s 0) s.h
theorem y1gf : T0 yw0 [.t 2] y255 := sq y1gz fun _ => by kernel_rfl
@[simp] theorem y2r1 : E.pure 106 = true := rfl
theorem y2mx (a : AV) : (y8 E).p 106 [a] = y08 a [⟨0, .dead⟩, ⟨0, .dead⟩, ⟨0, .dead⟩] :=
  (yr (cf := y29c) (by kernel_rfl) rfl).trans ((y1gf _).trans (by kernel_rfl))
def y1ju (a : AV) (h : Heap) : OX :=
(yd h a)
def y29 (s : St) : OX := y1ju (s 3) s.h
theorem y1v6 : T0 y15w [.t 2] y29 := fun _ => by kernel_rfl
def yev (b c a : AV) (h : Heap) : OX :=
  W E 0 yic ⟨[(1, b), (3, c), (4, a)], h⟩ y29 (y4 0 y29 xN) (finP [.t 2])
def yw (s : St) : OX := yev (s 1) (s 3) (s 4) s.h
theorem yor : T1 yic y29 (y4 0 y29 xN) [.t 2] yw := fun s => yf.trans (by kernel_rfl)
def yhx (c d b a : AV) (h : Heap) : OX :=
  W E 0 yl8 ⟨[(1, c), (3, d), (4, b), (5, a)], h⟩ yw (y4 2 yw (y4 1 yw (y4 0 y29 xN))) (finP [.t 2])
def ybk (s : St) : OX := yhx (s 1) (s 3) (s 4) (s 5) s.h
theorem yop : T1 yl8 yw (y4 2 yw (y4 1 yw (y4 0 y29 xN))) [.t 2] ybk := fun s => yf.trans (by kernel_rfl)
def ynw (d b e c : AV) (h : Heap) : OX :=
ob (y6 .add c (.int .i64 1)) fun a =>
(yhx d b e a h)
def y32 (s : St) : OX := ynw (s 1) (s 3) (s 4) (s 5) s.h
theorem y1xz : T1 y136 ybk (y4 2 yw (y4 1 yw (y4 0 y29 xN))) [.t 2] y32 := fun _ => by kernel_rfl
def yki (e b g d a c : AV) (h : Heap) : OX :=
  W E 0 yid ⟨[(1, e), (3, b), (4, g), (5, d), (6, a), (7, c)], h⟩ y32 (y4 4 y32 (y4 3 y32 (y4 2 yw (y4 1 yw (y4 0 y29 xN))))) (finP [.t 2])
def ybr (s : St) : OX := yki (s 1) (s 3) (s 4) (s 5) (s 6) (s 7) s.h
theorem ynf : T1 yid y32 (y4 4 y32 (y4 3 y32 (y4 2 yw (y4 1 yw (y4 0 y29 xN))))) [.t 2] ybr := fun s => yf.trans (by kernel_rfl)
def yh0 (g c i e a d : AV) (h : Heap) : OX :=
ob (y6 .add d (.int .i64 1)) fun b =>
(yki g c i e a b h)
def y2gi (s : St) : OX := yh0 (s 1) (s 3) (s 4) (s 5) (s 6) (s 7) s.h
theorem y1y4 : T1 y135 ybr (y4 4 y32 (y4 3 y32 (y4 2 yw (y4 1 yw (y4 0 y29 xN))))) [.t 2] y2gi := fun _ => by kernel_rfl
def ymj (g e r i c d : AV) (h : Heap) : OX :=
ob (yn 1 c d) fun D =>
ob (evLd false 1 D h) fun m =>
ob (y6 .geq m (.int .i64 0)) fun b =>
gb b true (some c) fun x =>
gb b true (some d) fun G =>
gb b true (yn 1 x G) fun l =>
gb b true (evLd false 1 l h) fun w =>
gb b true (some e) fun A =>
gb b true (yv 1 A h) fun C =>
gb b true (y6 .lss w C) fun o =>
ob (yb b o (.bool false)) fun a =>
gb a true (some e) fun F =>
gb a true (some c) fun z =>
gb a true (some d) fun p =>
gb a true (yn 1 z p) fun u =>
gb a true (evLd false 1 u h) fun H =>
gb a true (yn 1 F H) fun n =>
gb a true (evLd false 1 n h) fun t =>
gb a true (evUn .not t) fun B =>
ob (yb a B (.bool false)) fun v =>
cnd v
 (ob (yn 1 c d) fun y =>
ob (evLd false 1 y h) fun j =>
ob (yn 1 e j) fun k =>
oh (evSt 1 k (.bool true) h) fun _ h1 =>
(yh0 g e (.bool true) i c d h1))
 ((yh0 g e r i c d h))
def y2e7 (s : St) : OX := ymj (s 1) (s 3) (s 4) (s 5) (s 6) (s 7) s.h
theorem y1o0 : T1 y19y ybr (y4 4 y32 (y4 3 y32 (y4 2 yw (y4 1 yw (y4 0 y29 xN))))) [.t 2] y2e7 := sq y1y4 fun _ => by kernel_rfl
def ygw (e b g d a c : AV) (h : Heap) : OX :=
ob (yv 1 a h) fun i =>
ob (y6 .lss c i) fun j =>
cnd j
 ((ymj e b g d a c h))
 ((ynw e b g d h))
def y2j9 (s : St) : OX := ygw (s 1) (s 3) (s 4) (s 5) (s 6) (s 7) s.h
theorem y1w5 : T1 y17j ybr (y4 4 y32 (y4 3 y32 (y4 2 yw (y4 1 yw (y4 0 y29 xN))))) [.t 2] y2j9 := sq y1o0 fun _ => by kernel_rfl
theorem ypf (e b g d a c : AV) (h : Heap) : yki e b g d a c h = (ygw e b g d a c h) :=
  y1q.trans ((y14 _ _ _ (n' := ybr) (fun s => ynf s)).trans ((y1w5 _).trans (by kernel_rfl)))
theorem y1jy : T1 y12l y32 (y4 3 y32 (y4 2 yw (y4 1 yw (y4 0 y29 xN)))) [.t 2] ybr := fun s => yp.trans (ynf s)
def y09 (d b e c a : AV) (h : Heap) : OX :=
(yki d b e c a (.int .i64 0) h)
def y22n (s : St) : OX := y09 (s 1) (s 3) (s 4) (s 5) (s 6) s.h
theorem y1ek : T1 yvd y32 (y4 3 y32 (y4 2 yw (y4 1 yw (y4 0 y29 xN)))) [.t 2] y22n := sq y1jy fun _ => by kernel_rfl
def yqg (b c g a : AV) (h : Heap) : OX :=
ob (evLd true 5 b h) fun e =>
oh (y7 E (y8 E) 0 none true 105 [e, a] h) fun d h2 =>
(y09 b c g a d h2)
def y23g (s : St) : OX := yqg (s 1) (s 3) (s 4) (s 5) s.h
theorem y1gn : T1 yxt y32 (y4 3 y32 (y4 2 yw (y4 1 yw (y4 0 y29 xN)))) [.t 2] y23g := sq y1ek fun _ => by kernel_rfl
def ypt (c a d b : AV) (h : Heap) : OX :=
ob (yn 1 a b) fun e =>
ob (evLd false 1 e h) fun i =>
ob (evUn .not i) fun g =>
cnd g
 ((ynw c a d b h))
 ((yqg c a d b h))
def ypx (s : St) : OX := ypt (s 1) (s 3) (s 4) (s 5) s.h
theorem y1eb : T1 ysq y32 (y4 3 y32 (y4 2 yw (y4 1 yw (y4 0 y29 xN)))) [.t 2] ypx := sq y1gn fun _ => by kernel_rfl
theorem y1gd : T1 yvl y32 (y4 2 yw (y4 1 yw (y4 0 y29 xN))) [.t 2] ypx := fun s => yp.trans (y1eb s)
theorem y1er : T1 yva ybk (y4 2 yw (y4 1 yw (y4 0 y29 xN))) [.t 2] ypx := sq y1xz y1gd
def yfo (c a d b : AV) (h : Heap) : OX :=
ob (yv 1 a h) fun e =>
ob (y6 .lss b e) fun g =>
cnd g
 ((ypt c a d b h))
 ((yev c a d h))
def y28x (s : St) : OX := yfo (s 1) (s 3) (s 4) (s 5) s.h
theorem y1dj : T1 ys1 ybk (y4 2 yw (y4 1 yw (y4 0 y29 xN))) [.t 2] y28x := sq y1er fun _ => by kernel_rfl
theorem yn0 (c d b a : AV) (h : Heap) : yhx c d b a h = (yfo c d b a h) :=
  y1q.trans ((y14 _ _ _ (n' := ybk) (fun s => yop s)).trans ((y1dj _).trans (by kernel_rfl)))
theorem y1gs : T1 ysr yw (y4 1 yw (y4 0 y29 xN)) [.t 2] ybk := fun s => yp.trans (yop s)
def yzs (b c a : AV) (h : Heap) : OX :=
(yhx b c a (.int .i64 0) h)
def y27o (s : St) : OX := yzs (s 1) (s 3) (s 4) s.h
theorem y1et : T1 ysh yw (y4 1 yw (y4 0 y29 xN)) [.t 2] y27o := sq y1gs fun _ => by kernel_rfl
def y03 (a b : AV) (h : Heap) : OX :=
(yzs a b (.bool false) h)
def y19d (s : St) : OX := y03 (s 1) (s 3) s.h
theorem y1gh : T1 ywh yw (y4 1 yw (y4 0 y29 xN)) [.t 2] y19d := sq y1et fun _ => by kernel_rfl
theorem y1cj : T1 ysy yw (y4 0 y29 xN) [.t 2] y19d := fun s => yp.trans (y1gh s)
def ypq (c a b : AV) (h : Heap) : OX :=
cnd b
 ((y03 c a h))
 ((y1ju a h))
def y27s (s : St) : OX := ypq (s 1) (s 3) (s 4) s.h
theorem y1ce : T1 yuo yw (y4 0 y29 xN) [.t 2] y27s := sq y1cj fun _ => by kernel_rfl
theorem ym4 (b c a : AV) (h : Heap) : yev b c a h = (ypq b c a h) :=
  y1q.trans ((y14 _ _ _ (n' := yw) (fun s => yor s)).trans ((y1ce _).trans (by kernel_rfl)))
theorem y1ev : T1 ysc y29 xN [.t 2] yw := fun s => yp.trans (yor s)
def yjo (a b : AV) (h : Heap) : OX :=
(yev a b (.bool true) h)
def y0y (s : St) : OX := yjo (s 1) (s 3) s.h
theorem y1cm : T1 yti y29 xN [.t 2] y0y := sq y1ev fun _ => by kernel_rfl
theorem y1gw : T0 yxd [.t 2] y0y := sq y1v6 y1cm
def ylb (b a : AV) (h : Heap) : OX :=
ob (yv 1 a h) fun e =>
ob (y6 .gtr e (.int .i64 0)) fun d =>
cnd d
 (ob (yn 1 a (.int .i64 0)) fun c =>
oh (evSt 1 c (.bool true) h) fun _ h3 =>
(yjo b a h3))
 ((yjo b a h))
def y249 (s : St) : OX := ylb (s 1) (s 3) s.h
theorem y1g9 : T0 ywj [.t 2] y249 := sq y1gw fun _ => by kernel_rfl
def yra (b : AV) (h : Heap) : OX :=
ob (evFa 3 b) fun c =>
ob (evLd false 1 c h) fun d =>
ob (yv 1 d h) fun a =>
oh (mkSC 0 (some 1) 1 1 [(.bool false)] a a h) fun e h4 =>
(ylb b e h4)
def y24r (s : St) : OX := yra (s 1) s.h
theorem y1ho : T0 ywn [.t 2] y24r := sq y1g9 fun _ => by kernel_rfl
def ykz (b : AV) (h : Heap) : OX :=
oh (newC 0 (some 0) (cellsOf b) h) fun a h5 =>
(yra a h5)
def y224 (s : St) : OX := ykz (s 0) s.h
theorem y1fk : T0 yu1 [.t 2] y224 := sq y1ho fun _ => by kernel_rfl
@[simp] theorem y2ql : E.pure 104 = true := rfl
theorem y2pf (a : AV) : (y8 E).p 104 [a] = ykz a [⟨0, .dead⟩, ⟨0, .dead⟩] :=
  (yr (cf := y2ao) (by kernel_rfl) rfl).trans ((y1fk _).trans (by kernel_rfl))
def y1ii (b : AV) (h : Heap) : OX :=
ob (y6 .geq b (.int .i64 7)) fun a =>
gb a true (some b) fun c =>
gb a true (y6 .leq c (.int .i64 10)) fun e =>
ob (yb a e (.bool false)) fun d =>
(yd h d)
def y2jm (s : St) : OX := y1ii (s 0) s.h
theorem y1t2 : T0 y15p [.t 2] y2jm := fun _ => by kernel_rfl
@[simp] theorem y2qj : E.pure 173 = true := rfl
theorem y2lf (a : AV) : (y8 E).p 173 [a] = y1ii a [] :=
  (yr (cf := y29d) (by kernel_rfl) rfl).trans ((y1t2 _).trans (by kernel_rfl))
def y29b (h : Heap) : OX :=
(yd h (.bool false))
def y33 (s : St) : OX := y29b s.h
theorem y1oz : T0 y17z [.t 6] y33 := fun _ => by kernel_rfl
def ykt (c d a b : AV) (h : Heap) : OX :=
  W E 0 yix ⟨[(1, c), (3, d), (7, a), (8, b)], h⟩ y33 (y4 0 y33 xN) (finP [.t 6])
def ybj (s : St) : OX := ykt (s 1) (s 3) (s 7) (s 8) s.h
theorem ypi : T1 yix y33 (y4 0 y33 xN) [.t 6] ybj := fun s => yf.trans (by kernel_rfl)
def y11a (b c e a : AV) (h : Heap) : OX :=
ob (y6 .sub a (.int .i64 1)) fun d =>
(ykt b c e d h)
def y3q (s : St) : OX := y11a (s 1) (s 3) (s 7) (s 8) s.h
theorem y1xu : T1 y1c3 ybj (y4 0 y33 xN) [.t 6] y3q := fun _ => by kernel_rfl
def y1u9 (l x d w t : AV) (h : Heap) : OX :=
ob (evLd true 9 t h) fun A =>
oh (y7 E (y8 E) 0 none true 16 [A] h) fun e h1 =>
ob (y6 .geq e (.int .i64 0)) fun a =>
gb a true (some e) fun r =>
gb a true (evFa 2 d) fun v =>
gb a true (evLd false 1 v h1) fun j =>
gb a true (y6 .eql r j) fun g =>
gb a true (some g) fun b =>
gb b false (evFa 0 d) fun z =>
gb b false (evLd false 1 z h1) fun p =>
gb b false (y6 .eql p (.int .i64 9)) fun k =>
gb b false (some k) fun c =>
gb c true (some e) fun B =>
gb c true (evFa 3 d) fun i =>
gb c true (evLd false 1 i h1) fun m =>
gb c true (y6 .eql B m) fun u =>
gb b false (yb c u (.bool false)) fun n =>
gb a true (yb b (.bool true) n) fun y =>
ob (yb a y (.bool false)) fun o =>
cnd o
 ((yd h1 (.bool false)))
 ((y11a l x d w h1))
def y2hp (s : St) : OX := y1u9 (s 1) (s 3) (s 7) (s 8) (s 10) s.h
theorem y1y1 : T1 y0s y3q (y4 1 y3q (y4 0 y33 xN)) [.t 6] y2hp := fun _ => by kernel_rfl
def y1tc (e g b d a : AV) (h : Heap) : OX :=
ob (evLd true 9 b h) fun i =>
ob (evLd true 9 a h) fun j =>
oh (y7 E (y8 E) 0 none true 175 [i, j] h) fun c h2 =>
cnd c
 ((yd h2 (.bool true)))
 ((y1u9 e g b d a h2))
def y2e8 (s : St) : OX := y1tc (s 1) (s 3) (s 7) (s 8) (s 10) s.h
theorem y1kn : T1 y17c y3q (y4 1 y3q (y4 0 y33 xN)) [.t 6] y2e8 := sq y1y1 fun _ => by kernel_rfl
def y14b (g c k b : AV) (h : Heap) : OX :=
ob (evFa 3 c) fun d =>
ob (evLd false 1 d h) fun i =>
ob (y6 .sub b (.int .i64 1)) fun l =>
ob (yn 9 i l) fun e =>
ob (evLd true 9 e h) fun j =>
oh (newC 0 (some 2) [(.int .i64 0), (.int .i64 0), (.int .i64 0), (.int .i64 0), (.int .i64 0), (.int .i64 0), (.int .i64 0), (.str []), .nils] h) fun a h3 =>
oh (evSt 9 a j h3) fun _ h4 =>
(y1tc g c k b a h4)
def y7a (s : St) : OX := y14b (s 1) (s 3) (s 7) (s 8) s.h
theorem y1qe : T1 y1b8 y3q (y4 1 y3q (y4 0 y33 xN)) [.t 6] y7a := sq y1kn fun _ => by kernel_rfl
def ykk (b c d a e : AV) (h : Heap) : OX :=
  W E 0 yl2 ⟨[(1, b), (3, c), (7, d), (8, a), (9, e)], h⟩ y7a (y4 2 y7a (y4 1 y3q (y4 0 y33 xN))) (finP [.t 6])
def ybv (s : St) : OX := ykk (s 1) (s 3) (s 7) (s 8) (s 9) s.h
theorem yoj : T1 yl2 y7a (y4 2 y7a (y4 1 y3q (y4 0 y33 xN))) [.t 6] ybv := fun s => yf.trans (by kernel_rfl)
def y1r2 (b c e a g : AV) (h : Heap) : OX :=
ob (y6 .add g (.int .i64 1)) fun d =>
(ykk b c e a d h)
def y2c5 (s : St) : OX := y1r2 (s 1) (s 3) (s 7) (s 8) (s 9) s.h
theorem y1rq : T1 y19t ybv (y4 2 y7a (y4 1 y3q (y4 0 y33 xN))) [.t 6] y2c5 := fun _ => by kernel_rfl
def y1so (b e j a c : AV) (h : Heap) : OX :=
ob (yn 1 b c) fun d =>
ob (evLd false 1 d h) fun g =>
ob (y6 .eql g a) fun i =>
cnd i
 ((yd h (.bool false)))
 ((y1r2 b e j a c h))
def y2f2 (s : St) : OX := y1so (s 1) (s 3) (s 7) (s 8) (s 9) s.h
theorem y1ul : T1 y175 ybv (y4 2 y7a (y4 1 y3q (y4 0 y33 xN))) [.t 6] y2f2 := sq y1rq fun _ => by kernel_rfl
def yqe (a c d b e : AV) (h : Heap) : OX :=
ob (yv 1 a h) fun i =>
ob (y6 .lss e i) fun g =>
cnd g
 ((y1so a c d b e h))
 ((y14b a c d b h))
def y25a (s : St) : OX := yqe (s 1) (s 3) (s 7) (s 8) (s 9) s.h
theorem y1gx : T1 ys8 ybv (y4 2 y7a (y4 1 y3q (y4 0 y33 xN))) [.t 6] y25a := sq y1ul fun _ => by kernel_rfl
theorem yne (b c d a e : AV) (h : Heap) : ykk b c d a e h = (yqe b c d a e h) :=
  y1q.trans ((y14 _ _ _ (n' := ybv) (fun s => yoj s)).trans ((y1gx _).trans (by kernel_rfl)))
theorem y1fx : T1 yum y7a (y4 1 y3q (y4 0 y33 xN)) [.t 6] ybv := fun s => yp.trans (yoj s)
def yy6 (c d a b : AV) (h : Heap) : OX :=
(ykk c d a b (.int .i64 0) h)
def yhn (s : St) : OX := yy6 (s 1) (s 3) (s 7) (s 8) s.h
theorem y1e1 : T1 yww y7a (y4 1 y3q (y4 0 y33 xN)) [.t 6] yhn := sq y1fx fun _ => by kernel_rfl
theorem y1hb : T1 yt1 y3q (y4 1 y3q (y4 0 y33 xN)) [.t 6] yhn := sq y1qe y1e1
theorem y1gr : T1 ywl y3q (y4 0 y33 xN) [.t 6] yhn := fun s => yp.trans (y1hb s)
theorem y1g7 : T1 yvh ybj (y4 0 y33 xN) [.t 6] yhn := sq y1xu y1gr
def yqn (c d e a : AV) (h : Heap) : OX :=
ob (y6 .gtr a (.int .i64 0)) fun b =>
cnd b
 ((yy6 c d e a h))
 ((y29b h))
def y20n (s : St) : OX := yqn (s 1) (s 3) (s 7) (s 8) s.h
theorem y1fh : T1 ys4 ybj (y4 0 y33 xN) [.t 6] y20n := sq y1g7 fun _ => by kernel_rfl
theorem ynh (c d a b : AV) (h : Heap) : ykt c d a b h = (yqn c d a b h) :=
  y1q.trans ((y14 _ _ _ (n' := ybj) (fun s => ypi s)).trans ((y1fh _).trans (by kernel_rfl)))
theorem y1dz : T1 yx7 y33 xN [.t 6] ybj := fun s => yp.trans (ypi s)
def yyv (c a d b : AV) (h : Heap) : OX :=
(ykt c d b a h)
def y191 (s : St) : OX := yyv (s 1) (s 2) (s 3) (s 7) s.h
theorem y1df : T1 ytr y33 xN [.t 6] y191 := sq y1dz fun _ => by kernel_rfl
theorem y1gk : T0 yuk [.t 6] y191 := sq y1oz y1df
def yz9 (j a b : AV) (h : Heap) : OX :=
ob (evFa 3 b) fun i =>
ob (evLd false 1 i h) fun g =>
ob (yn 9 g a) fun d =>
ob (evLd true 9 d h) fun e =>
oh (newC 0 (some 1) [(.int .i64 0), (.int .i64 0), (.int .i64 0), (.int .i64 0), (.int .i64 0), (.int .i64 0), (.int .i64 0), (.str []), .nils] h) fun c h5 =>
oh (evSt 9 c e h5) fun _ h6 =>
(yyv j a b c h6)
def y22v (s : St) : OX := yz9 (s 1) (s 2) (s 3) s.h
theorem y1dd : T0 yy0 [.t 6] y22v := sq y1gk fun _ => by kernel_rfl
def y0j (d c a : AV) (h : Heap) : OX :=
oh (newC 0 (some 0) (cellsOf d) h) fun b h7 =>
(yz9 c a b h7)
def y216 (s : St) : OX := y0j (s 0) (s 1) (s 2) s.h
theorem y1cu : T0 yuz [.t 6] y216 := sq y1dd fun _ => by kernel_rfl
@[simp] theorem y2re : E.pure 174 = true := rfl
theorem y2kp (c b a : AV) : (y8 E).p 174 [c, b, a] = y0j c b a [⟨0, .dead⟩, ⟨0, .dead⟩, ⟨0, .dead⟩] :=
  (yr (cf := y2ax) (by kernel_rfl) rfl).trans ((y1cu _).trans (by kernel_rfl))
def y1m3 (c : AV) (h : Heap) : OX :=
oh (y10 0 (some 0) 1 3 [(.int .i64 0)] [(0, (.int .i64 27)), (1, (.int .i64 30)), (2, (.int .i64 31))] h) fun b h1 =>
oh (y7 E (y8 E) 0 none true 42 [c, b] h1) fun a h2 =>
(yd h2 a)
def y2jx (s : St) : OX := y1m3 (s 0) s.h
theorem y1su : T0 y1av [.t 2] y2jx := fun _ => by kernel_rfl
@[simp] theorem y2u0 : E.pure 25 = true := rfl
theorem y2ms (a : AV) : (y8 E).p 25 [a] = y1m3 a [⟨0, .dead⟩] :=
  (yr (cf := y29t) (by kernel_rfl) rfl).trans ((y1su _).trans (by kernel_rfl))
def yxa (g c : AV) (h : Heap) : OX :=
ob (evFa 0 c) fun d =>
ob (evLd false 1 d h) fun a =>
ob (yn 1 a g) fun b =>
ob (evLd false 1 b h) fun e =>
(yd h e)
def y2gu (s : St) : OX := yxa (s 1) (s 2) s.h
theorem y1k9 : T0 y187 [.t 4] y2gu := fun _ => by kernel_rfl
def yx2 (b c : AV) (h : Heap) : OX :=
ob (y6 .lss b (.int .i64 0)) fun a =>
gb a false (some b) fun g =>
gb a false (evFa 0 c) fun k =>
gb a false (evLd false 1 k h) fun d =>
gb a false (yv 1 d h) fun e =>
gb a false (y6 .geq g e) fun j =>
ob (yb a (.bool true) j) fun i =>
cnd i
 ((yd h (.int .i64 0)))
 ((yxa b c h))
def y2he (s : St) : OX := yx2 (s 1) (s 2) s.h
theorem y1uu : T0 y1bo [.t 4] y2he := sq y1k9 fun _ => by kernel_rfl
def yw6 (c b : AV) (h : Heap) : OX :=
oh (newC 0 (some 0) (cellsOf c) h) fun a h1 =>
(yx2 b a h1)
def y2ew (s : St) : OX := yw6 (s 0) (s 1) s.h
theorem y1o9 : T0 y1b5 [.t 4] y2ew := sq y1uu fun _ => by kernel_rfl
@[simp] theorem y2s8 : E.pure 48 = true := rfl
theorem y2q6 (b a : AV) : (y8 E).p 48 [b, a] = yw6 b a [⟨0, .dead⟩] :=
  (yr (cf := y2b4) (by kernel_rfl) rfl).trans ((y1o9 _).trans (by kernel_rfl))
def ypb (h : Heap) : OX :=
(yd h (.bool false))
def y7g (s : St) : OX := ypb s.h
theorem y1q3 : T0 y113 [.t 4] y7g := fun _ => by kernel_rfl
def yku (c b a : AV) (h : Heap) : OX :=
  W E 0 yks ⟨[(0, c), (1, b), (5, a)], h⟩ y7g (y4 0 y7g xN) (finP [.t 4])
def ybl (s : St) : OX := yku (s 0) (s 1) (s 5) s.h
theorem ynr : T1 yks y7g (y4 0 y7g xN) [.t 4] ybl := fun s => yf.trans (by kernel_rfl)
def yoy (d c b : AV) (h : Heap) : OX :=
ob (y6 .add b (.int .i64 1)) fun a =>
(yku d c a h)
def y2bv (s : St) : OX := yoy (s 0) (s 1) (s 5) s.h
theorem y1w4 : T1 y14n ybl (y4 0 y7g xN) [.t 4] y2bv := fun _ => by kernel_rfl
def yph (a c b : AV) (h : Heap) : OX :=
ob (yn 1 c b) fun g =>
ob (evLd false 1 g h) fun d =>
ob (y6 .eql d a) fun e =>
cnd e
 ((yd h (.bool true)))
 ((yoy a c b h))
def y2dr (s : St) : OX := yph (s 0) (s 1) (s 5) s.h
theorem y1yq : T1 y1ar ybl (y4 0 y7g xN) [.t 4] y2dr := sq y1w4 fun _ => by kernel_rfl
def ynz (c b a : AV) (h : Heap) : OX :=
ob (yv 1 b h) fun d =>
ob (y6 .lss a d) fun e =>
cnd e
 ((yph c b a h))
 ((ypb h))
def y2fn (s : St) : OX := ynz (s 0) (s 1) (s 5) s.h
theorem y1xi : T1 y12q ybl (y4 0 y7g xN) [.t 4] y2fn := sq y1yq fun _ => by kernel_rfl
theorem ym9 (c b a : AV) (h : Heap) : yku c b a h = (ynz c b a h) :=
  y1q.trans ((y14 _ _ _ (n' := ybl) (fun s => ynr s)).trans ((y1xi _).trans (by kernel_rfl)))
theorem y1wu : T1 y18k y7g xN [.t 4] ybl := fun s => yp.trans (ynr s)
def ynb (b a : AV) (h : Heap) : OX :=
(yku b a (.int .i64 0) h)
def y1po (s : St) : OX := ynb (s 0) (s 1) s.h
theorem y1li : T1 y1a9 y7g xN [.t 4] y1po := sq y1wu fun _ => by kernel_rfl
theorem y1mo : T0 y16z [.t 4] y1po := sq y1q3 y1li
def ymo (b a : AV) (h : Heap) : OX :=
(ynb b a h)
def y2co (s : St) : OX := ymo (s 0) (s 1) s.h
theorem y1x5 : T0 y14c [.t 4] y2co := sq y1mo fun _ => by kernel_rfl
@[simp] theorem y2ua : E.pure 42 = true := rfl
theorem y2pq (b a : AV) : (y8 E).p 42 [b, a] = ymo b a [] :=
  (yr (cf := y2a6) (by kernel_rfl) rfl).trans ((y1x5 _).trans (by kernel_rfl))
end
end Go.Vm
