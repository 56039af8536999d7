/- Functions of the machine as plain functions that go on with what follows. -/
import Derived.Test.YtgbajicpokolcaaHEnv
set_option linter.unusedSimpArgs false
set_option linter.unusedVariables false
set_option linter.unusedSectionVars false
namespace Go.Vm
noncomputable section
def y2y (h : Heap) : OX :=
(yd h (.bool true))
def yy (s : St) : OX := y2y s.h
theorem y1u1 : T0 y18u [.t 4] yy := fun _ => by kernel_rfl
def y2t (b e : AV) (h : Heap) : OX :=
ob (evFa 2 e) fun i =>
ob (evLd false 1 i h) fun o =>
ob (y6 .neq o (.int .i64 (-1))) fun a =>
ofp (fgd a true (some (ids1 b, []))) fun f4 =>
gb a true (evLd true 5 b h) fun d =>
ofp (fgd a true (some ([], []))) fun f5 =>
gb a true (evFa 2 e) fun j =>
ofp (fgd a true (some (ids1 j, []))) fun f6 =>
gb a true (evLd false 1 j h) fun g =>
ofp (fgd a true (y2k E (y8 E) 0 none true 48 [d, g] h)) fun f7 =>
gh a true (y7 E (y8 E) 0 none true 48 [d, g] h) h fun m h1 =>
ofp (fgd a true (some ([], []))) fun f8 =>
gb a true (evFa 2 b) fun c =>
ofp (fgd a true (some (ids1 c, []))) fun f9 =>
gb a true (evLd false 1 c h1) fun k =>
ofp (fgd a true (some ([], []))) fun f10 =>
gb a true (y6 .eql m k) fun l =>
ob (yb a l (.bool false)) fun n =>
okK (ye [([], []), (ids1 i, []), ([], []), ([], []), f4, f5, f6, f7, f8, f9, f10, ([], []), ([], [])] [(7, 9)]) <|
(yd h1 n)
def y2h0 (s : St) : OX := y2t (s 2) (s 3) s.h
theorem y1rw : T1 y157 yy (y4 2 yy xN) [.t 4] y2h0 := fun _ => by kernel_rfl
def y2z (a b : AV) (h : Heap) : OX :=
ob (evFa 2 a) fun c =>
ob (evLd false 1 c h) fun j =>
ob (y6 .eql j (.int .i64 0)) fun g =>
cnd g
 (ob (evFa 2 b) fun i =>
ob (evLd false 1 i h) fun d =>
ob (y6 .eql d (.int .i64 (-1))) fun e =>
(yd h e))
 ((y2t a b h))
def y2hf (s : St) : OX := y2z (s 2) (s 3) s.h
theorem y20b : T1 y11l yy (y4 2 yy xN) [.t 4] y2hf := sq y1rw fun _ => by kernel_rfl
def y30 (a c b : AV) (h : Heap) : OX :=
cnd b
 ((y2z a c h))
 ((y2y h))
def y2hc (s : St) : OX := y30 (s 2) (s 3) (s 207) s.h
theorem y1zv : T1 y164 yy (y4 2 yy xN) [.t 4] y2hc := fun s => (y1e (y20b s) rfl).trans (by kernel_rfl)
def y2v (a d b : AV) (h : Heap) : OX :=
ob (y6 .eql b (.int .i64 30)) fun c =>
(y30 a d c h)
def y2i8 (s : St) : OX := y2v (s 2) (s 3) (s 55) s.h
theorem y1wp : T1 y1c6 yy (y4 2 yy xN) [.t 4] y2i8 := sq y1zv fun _ => by kernel_rfl
def y2w (g c o x : AV) (h : Heap) : OX :=
cnd x
 (ob (evFa 5 c) fun C =>
ob (evLd false 1 C h) fun i =>
ob (y6 .eql i (.int .i64 0)) fun e =>
gb e false (evFa 5 c) fun n =>
gb e false (evLd false 1 n h) fun y =>
gb e false (y6 .eql y (.int .i64 1)) fun u =>
ob (yb e (.bool true) u) fun b =>
gb b true (evFa 3 c) fun t =>
gb b true (evLd false 1 t h) fun F =>
gb b true (y6 .eql F (.int .i64 (-1))) fun v =>
gb b true (some v) fun a =>
gb a false (evLd true 5 g h) fun r =>
gb a false (evFa 3 c) fun z =>
gb a false (evLd false 1 z h) fun p =>
gh a false (y7 E (y8 E) 0 none true 48 [r, p] h) h fun j h2 =>
gb a false (y6 .eql j (.int .i64 3)) fun A =>
gb b true (yb a (.bool true) A) fun m =>
ob (yb b m (.bool false)) fun d =>
gb d true (evLd true 5 g h2) fun B =>
gb d true (evFa 6 c) fun k =>
gb d true (evLd false 1 k h2) fun w =>
gh d true (y7 E (y8 E) 0 none true 49 [B, w] h2) h2 fun l h3 =>
ob (yb d l (.bool false)) fun D =>
(yd h3 D))
 ((y2v g c o h))
def y2gk (s : St) : OX := y2w (s 2) (s 3) (s 55) (s 179) s.h
theorem y1tv : T1 y1a3 yy (y4 2 yy xN) [.t 4] y2gk := fun s => (y1e rfl (y1wp s)).trans (by kernel_rfl)
def y2s (b d a : AV) (h : Heap) : OX :=
ob (y6 .eql a (.int .i64 29)) fun c =>
(y2w b d a c h)
def y2em (s : St) : OX := y2s (s 2) (s 3) (s 55) s.h
theorem y1xk : T1 y1b3 yy (y4 2 yy xN) [.t 4] y2em := sq y1tv fun _ => by kernel_rfl
def y2x (a b g j : AV) (h : Heap) : OX :=
cnd j
 (ob (evLd true 5 a h) fun d =>
ob (evFa 6 b) fun i =>
ob (evLd false 1 i h) fun c =>
oh (y7 E (y8 E) 0 none true 49 [d, c] h) fun e h4 =>
(yd h4 e))
 ((y2s a b g h))
def y2ha (s : St) : OX := y2x (s 2) (s 3) (s 55) (s 173) s.h
theorem y1m2 : T1 y1c5 yy (y4 2 yy xN) [.t 4] y2ha := fun s => (y1e rfl (y1xk s)).trans (by kernel_rfl)
def y31 (b d a : AV) (h : Heap) : OX :=
ob (y6 .eql a (.int .i64 27)) fun c =>
(y2x b d a c h)
def y2k3 (s : St) : OX := y31 (s 2) (s 3) (s 55) s.h
theorem y1r6 : T1 y16p yy (y4 2 yy xN) [.t 4] y2k3 := sq y1m2 fun _ => by kernel_rfl
def y1v (d c t l : AV) (h : Heap) : OX :=
cnd l
 (ob (evFa 5 c) fun k =>
ob (evLd false 1 k h) fun r =>
ob (y6 .geq r (.int .i64 0)) fun b =>
gb b true (evFa 5 c) fun i =>
gb b true (evLd false 1 i h) fun g =>
gb b true (y6 .leq g (.int .i64 5)) fun n =>
ob (yb b n (.bool false)) fun a =>
gb a true (evLd true 5 d h) fun m =>
gb a true (evFa 6 c) fun o =>
gb a true (evLd false 1 o h) fun j =>
gh a true (y7 E (y8 E) 0 none true 49 [m, j] h) h fun e h5 =>
ob (yb a e (.bool false)) fun p =>
(yd h5 p))
 ((y31 d c t h))
def y26l (s : St) : OX := y1v (s 2) (s 3) (s 55) (s 157) s.h
theorem y1dg : T1 yrj yy (y4 2 yy xN) [.t 4] y26l := fun s => (y1e rfl (y1r6 s)).trans (by kernel_rfl)
def y1s (b d a : AV) (h : Heap) : OX :=
ob (y6 .eql a (.int .i64 28)) fun c =>
(y1v b d a c h)
def y262 (s : St) : OX := y1s (s 2) (s 3) (s 55) s.h
theorem y1e9 : T1 ysn yy (y4 2 yy xN) [.t 4] y262 := sq y1dg fun _ => by kernel_rfl
def y1g (a b i d : AV) (h : Heap) : OX :=
cnd d
 (ob (evLd true 5 a h) fun e =>
ob (evLd true 9 b h) fun g =>
oh (y7 E (y8 E) 0 none true 68 [e, g] h) fun c h6 =>
(yd h6 c))
 ((y1s a b i h))
def y20u (s : St) : OX := y1g (s 2) (s 3) (s 55) (s 149) s.h
theorem y1hc : T1 yvw yy (y4 2 yy xN) [.t 4] y20u := fun s => (y1e rfl (y1e9 s)).trans (by kernel_rfl)
def y1z (b c a : AV) (h : Heap) : OX :=
ob (y6 .eql a (.int .i64 23)) fun e =>
cnd e
 ((y1g b c a e h))
 (ob (y6 .eql a (.int .i64 24)) fun d =>
cnd d
 ((y1g b c a d h))
 (ob (y6 .eql a (.int .i64 25)) fun g =>
cnd g
 ((y1g b c a g h))
 (ob (y6 .eql a (.int .i64 26)) fun i =>
(y1g b c a i h))))
def y23b (s : St) : OX := y1z (s 2) (s 3) (s 55) s.h
theorem y1fn : T1 yy1 yy (y4 2 yy xN) [.t 4] y23b := sq y1hc fun _ => by kernel_rfl
def y1n (c a i e : AV) (h : Heap) : OX :=
cnd e
 (ob (evFa 5 a) fun b =>
ob (evLd false 1 b h) fun d =>
ob (y6 .geq d (.int .i64 0)) fun g =>
(yd h g))
 ((y1z c a i h))
def y28f (s : St) : OX := y1n (s 2) (s 3) (s 55) (s 143) s.h
theorem y1cg : T1 ywc yy (y4 2 yy xN) [.t 4] y28f := fun s => (y1e rfl (y1fn s)).trans (by kernel_rfl)
def y1t (b c a : AV) (h : Heap) : OX :=
ob (y6 .eql a (.int .i64 16)) fun d =>
cnd d
 ((y1n b c a d h))
 (ob (y6 .eql a (.int .i64 17)) fun e =>
(y1n b c a e h))
def y27m (s : St) : OX := y1t (s 2) (s 3) (s 55) s.h
theorem y1fi : T1 ytq yy (y4 2 yy xN) [.t 4] y27m := sq y1cg fun _ => by kernel_rfl
def y1k (e a i b : AV) (h : Heap) : OX :=
cnd b
 (ob (evFa 7 a) fun d =>
ob (evLd false 1 d h) fun g =>
oh (y7 E (y8 E) 0 none true 67 [g] h) fun c h7 =>
(yd h7 c))
 ((y1t e a i h))
def y251 (s : St) : OX := y1k (s 2) (s 3) (s 55) (s 136) s.h
theorem y1eq : T1 ywd yy (y4 2 yy xN) [.t 4] y251 := fun s => (y1e rfl (y1fi s)).trans (by kernel_rfl)
def y1r (b c a : AV) (h : Heap) : OX :=
ob (y6 .eql a (.int .i64 12)) fun e =>
cnd e
 ((y1k b c a e h))
 (ob (y6 .eql a (.int .i64 21)) fun d =>
cnd d
 ((y1k b c a d h))
 (ob (y6 .eql a (.int .i64 22)) fun g =>
(y1k b c a g h)))
def y27d (s : St) : OX := y1r (s 2) (s 3) (s 55) s.h
theorem y1g4 : T1 ys7 yy (y4 2 yy xN) [.t 4] y27d := sq y1eq fun _ => by kernel_rfl
def y1x (d e g r t l n : AV) (h : Heap) : OX :=
cnd n
 (ob (y6 .gtr g (.int .i64 0)) fun c =>
gb c true (some r) fun u =>
gb c true (y6 .eql u (.int .i64 0)) fun j =>
ob (yb c j (.bool false)) fun a =>
gb a true (evLd true 5 d h) fun m =>
gb a true (evFa 1 e) fun A =>
gb a true (evLd false 1 A h) fun w =>
gh a true (y7 E (y8 E) 0 none true 48 [m, w] h) h fun k h8 =>
gb a true (some t) fun z =>
gb a true (y6 .eql k z) fun x =>
ob (yb a x (.bool false)) fun b =>
gb b true (evLd true 5 d h8) fun B =>
gb b true (evFa 2 e) fun i =>
gb b true (evLd false 1 i h8) fun o =>
gh b true (y7 E (y8 E) 0 none true 48 [B, o] h8) h8 fun y h9 =>
gb b true (some g) fun C =>
gb b true (y6 .eql y C) fun v =>
ob (yb b v (.bool false)) fun p =>
(yd h9 p))
 ((y1r d e l h))
def y26a (s : St) : OX := y1x (s 2) (s 3) (s 8) (s 9) (s 10) (s 55) (s 112) s.h
theorem y1ds : T1 yrh yy (y4 2 yy xN) [.t 4] y26a := fun s => (y1e rfl (y1g4 s)).trans (by kernel_rfl)
def y1w (c e d i b a : AV) (h : Heap) : OX :=
ob (y6 .eql a (.int .i64 6)) fun g =>
(y1x c e d i b a g h)
def y25m (s : St) : OX := y1w (s 2) (s 3) (s 8) (s 9) (s 10) (s 55) s.h
theorem y1d8 : T1 ysa yy (y4 2 yy xN) [.t 4] y25m := sq y1ds fun _ => by kernel_rfl
def y20 (d e j g i n A : AV) (h : Heap) : OX :=
cnd A
 (ob (y6 .gtr g (.int .i64 0)) fun c =>
gb c true (evLd true 5 d h) fun w =>
gb c true (evFa 1 e) fun k =>
gb c true (evLd false 1 k h) fun H =>
gh c true (y7 E (y8 E) 0 none true 48 [w, H] h) h fun C h10 =>
gb c true (some i) fun p =>
gb c true (y6 .eql C p) fun z =>
ob (yb c z (.bool false)) fun a =>
gb a true (evLd true 5 d h10) fun y =>
gb a true (evFa 2 e) fun v =>
gb a true (evLd false 1 v h10) fun G =>
gh a true (y7 E (y8 E) 0 none true 48 [y, G] h10) h10 fun l h11 =>
gb a true (some j) fun r =>
gb a true (y6 .eql l r) fun u =>
ob (yb a u (.bool false)) fun b =>
gb b true (evLd true 5 d h11) fun m =>
gb b true (evFa 3 e) fun B =>
gb b true (evLd false 1 B h11) fun D =>
gh b true (y7 E (y8 E) 0 none true 48 [m, D] h11) h11 fun x h12 =>
gb b true (some g) fun F =>
gb b true (y6 .eql x F) fun t =>
ob (yb b t (.bool false)) fun o =>
(yd h12 o))
 ((y1w d e j g i n h))
def y27c (s : St) : OX := y20 (s 2) (s 3) (s 8) (s 9) (s 10) (s 55) (s 84) s.h
theorem y1d4 : T1 ysv yy (y4 2 yy xN) [.t 4] y27c := fun s => (y1e rfl (y1d8 s)).trans (by kernel_rfl)
def y1u (c e d i b a : AV) (h : Heap) : OX :=
ob (y6 .eql a (.int .i64 5)) fun g =>
(y20 c e d i b a g h)
def y27u (s : St) : OX := y1u (s 2) (s 3) (s 8) (s 9) (s 10) (s 55) s.h
theorem y1de : T1 ywb yy (y4 2 yy xN) [.t 4] y27u := sq y1d4 fun _ => by kernel_rfl
def y1m (a b o t l r k : AV) (h : Heap) : OX :=
cnd k
 (ob (evLd true 5 a h) fun c =>
ob (evFa 1 b) fun i =>
ob (evLd false 1 i h) fun d =>
ofp (y2k E (y8 E) 0 none true 48 [c, d] h) fun f3 =>
oh (y7 E (y8 E) 0 none true 48 [c, d] h) fun p h13 =>
ob (evLd true 5 a h13) fun j =>
ob (evFa 2 b) fun g =>
ob (evLd false 1 g h13) fun e =>
ofp (y2k E (y8 E) 0 none true 48 [j, e] h13) fun f7 =>
oh (y7 E (y8 E) 0 none true 48 [j, e] h13) fun m h14 =>
ob (y6 .eql p m) fun n =>
okK (ye [(ids1 a, []), ([], []), (ids1 i, []), f3, (ids1 a, []), ([], []), (ids1 g, []), f7, ([], []), ([], [])] [(3, 4), (3, 6)]) <|
(yd h14 n))
 ((y1u a b o t l r h))
def y244 (s : St) : OX := y1m (s 2) (s 3) (s 8) (s 9) (s 10) (s 55) (s 73) s.h
theorem y1dv : T1 yvj yy (y4 2 yy xN) [.t 4] y244 := fun s => (y1e rfl (y1de s)).trans (by kernel_rfl)
def y1l (d g e i b a : AV) (h : Heap) : OX :=
ob (y6 .eql a (.int .i64 4)) fun c =>
(y1m d g e i b a c h)
def y225 (s : St) : OX := y1l (s 2) (s 3) (s 8) (s 9) (s 10) (s 55) s.h
theorem y1f3 : T1 yxx yy (y4 2 yy xN) [.t 4] y225 := sq y1dv fun _ => by kernel_rfl
def y1h (d c w t u k m : AV) (h : Heap) : OX :=
cnd m
 (ob (evLd true 5 d h) fun i =>
ob (evFa 1 c) fun j =>
ob (evLd false 1 j h) fun v =>
oh (y7 E (y8 E) 0 none true 48 [i, v] h) fun n h15 =>
ob (y6 .eql n (.int .i64 2)) fun a =>
gb a false (evFa 5 c) fun p =>
gb a false (evLd false 1 p h15) fun o =>
gb a false (y6 .geq o (.int .i64 (-2147483648))) fun e =>
gb a false (some e) fun b =>
gb b true (evFa 5 c) fun x =>
gb b true (evLd false 1 x h15) fun r =>
gb b true (y6 .lss r (.int .i64 2147483648)) fun y =>
gb a false (yb b y (.bool false)) fun l =>
ob (yb a (.bool true) l) fun g =>
(yd h15 g))
 ((y1l d c w t u k h))
def y229 (s : St) : OX := y1h (s 2) (s 3) (s 8) (s 9) (s 10) (s 55) (s 56) s.h
theorem y1fy : T1 yu7 yy (y4 2 yy xN) [.t 4] y229 := fun s => (y1e rfl (y1f3 s)).trans (by kernel_rfl)
def y1d (c e d i b a : AV) (h : Heap) : OX :=
ob (y6 .eql a (.int .i64 1)) fun g =>
(y1h c e d i b a g h)
def y1b6 (s : St) : OX := y1d (s 2) (s 3) (s 8) (s 9) (s 10) (s 55) s.h
theorem y1hl : T1 yu8 yy (y4 2 yy xN) [.t 4] y1b6 := sq y1fy fun _ => by kernel_rfl
theorem y1h8 : T1 ywk yy xN [.t 4] y1b6 := fun s => yp.trans (y1hl s)
def yfx (c a d i b : AV) (h : Heap) : OX :=
ob (evFa 0 a) fun e =>
ob (evLd false 1 e h) fun g =>
(y1d c a d i b g h)
def y13i (s : St) : OX := yfx (s 2) (s 3) (s 8) (s 9) (s 10) s.h
theorem y1h9 : T1 yv4 yy xN [.t 4] y13i := sq y1h8 fun _ => by kernel_rfl
theorem y1f9 : T0 yte [.t 4] y13i := sq y1u1 y1h9
def ylf (d a k v e : AV) (h : Heap) : OX :=
ob (evFa 5 a) fun t =>
ob (evLd false 1 t h) fun n =>
ob (y6 .geq n (.int .i64 0)) fun b =>
gb b true (evFa 5 a) fun l =>
gb b true (evLd false 1 l h) fun m =>
gb b true (y6 .lss m (.int .i64 1000)) fun p =>
ob (yb b p (.bool false)) fun j =>
cnd j
 (ob (evFa 5 a) fun r =>
ob (evLd false 1 r h) fun g =>
oh (y7 E (y8 E) 0 none true 66 [g] h) fun c h16 =>
ob (y42 0 c) fun o =>
ob (y42 1 c) fun u =>
ob (y42 2 c) fun i =>
(yfx d a o u i h16))
 ((yfx d a k v e h))
def y23z (s : St) : OX := ylf (s 2) (s 3) (s 8) (s 9) (s 10) s.h
theorem y1f5 : T0 ytp [.t 4] y23z := sq y1f9 fun _ => by kernel_rfl
def yk1 (a b : AV) (h : Heap) : OX :=
(ylf a b (.int .i64 0) (.int .i64 0) (.int .i64 0) h)
def y5c (s : St) : OX := yk1 (s 2) (s 3) s.h
theorem y1dy : T0 yxs [.t 4] y5c := sq y1f5 fun _ => by kernel_rfl
def y5a (b c d a e : AV) (h : Heap) : OX :=
  W E 0 yf9 ⟨[(2, b), (3, c), (5, d), (6, a), (7, e)], h⟩ y5c (y4 0 y5c xN) (finP [.t 4])
def y86 (s : St) : OX := y5a (s 2) (s 3) (s 5) (s 6) (s 7) s.h
theorem yib : T1 yf9 y5c (y4 0 y5c xN) [.t 4] y86 := fun s => yf.trans (by kernel_rfl)
def yq1 (b d e a g : AV) (h : Heap) : OX :=
ob (y6 .add g (.int .i64 1)) fun c =>
(y5a b d e a c h)
def y24f (s : St) : OX := yq1 (s 2) (s 3) (s 5) (s 6) (s 7) s.h
theorem y1fp : T1 ysw y86 (y4 0 y5c xN) [.t 4] y24f := fun _ => by kernel_rfl
def y0h (c i d b a : AV) (h : Heap) : OX :=
ob (evLd true 5 c h) fun j =>
ob (yn 1 b a) fun e =>
ob (evLd false 1 e h) fun k =>
ob (y43 d a) fun l =>
oh (y7 E (y8 E) 0 none true 65 [j, k, l] h) fun m h17 =>
ob (evUn .not m) fun g =>
cnd g
 ((yd h17 (.bool false)))
 ((yq1 c i d b a h17))
def y24o (s : St) : OX := y0h (s 2) (s 3) (s 5) (s 6) (s 7) s.h
theorem y1gp : T1 ytc y86 (y4 0 y5c xN) [.t 4] y24o := sq y1fp fun _ => by kernel_rfl
def yfr (a b g e c : AV) (h : Heap) : OX :=
ob (y6 .lss c (.int .i64 4)) fun d =>
cnd d
 ((y0h a b g e c h))
 ((yk1 a b h))
def y236 (s : St) : OX := yfr (s 2) (s 3) (s 5) (s 6) (s 7) s.h
theorem y1ft : T1 yua y86 (y4 0 y5c xN) [.t 4] y236 := sq y1gp fun _ => by kernel_rfl
theorem yhv (b c d a e : AV) (h : Heap) : y5a b c d a e h = (yfr b c d a e h) :=
  y1q.trans ((y14 _ _ _ (n' := y86) (fun s => yib s)).trans ((y1ft _).trans (by kernel_rfl)))
theorem y1dt : T1 yxn y5c xN [.t 4] y86 := fun s => yp.trans (yib s)
def yzy (a d b c : AV) (h : Heap) : OX :=
(y5a a d b c (.int .i64 0) h)
def y167 (s : St) : OX := yzy (s 2) (s 3) (s 5) (s 6) s.h
theorem y1ec : T1 yu2 y5c xN [.t 4] y167 := sq y1dt fun _ => by kernel_rfl
theorem y1fe : T0 ywr [.t 4] y167 := sq y1dy y1ec
def yyz (d a m : AV) (h : Heap) : OX :=
ob (evFa 1 a) fun g =>
ob (evLd false 1 g h) fun c =>
ob (evFa 2 a) fun n =>
ob (evLd false 1 n h) fun i =>
ob (evFa 3 a) fun e =>
ob (evLd false 1 e h) fun j =>
ob (evFa 4 a) fun l =>
ob (evLd false 1 l h) fun b =>
oh (y10 0 (some 2) 1 4 [(.int .i64 0)] [(0, c), (1, i), (2, j), (3, b)] h) fun k h18 =>
(yzy d a m k h18)
def y289 (s : St) : OX := yyz (s 2) (s 3) (s 5) s.h
theorem y1eo : T0 yrq [.t 4] y289 := sq y1fe fun _ => by kernel_rfl
def ylr (b d a : AV) (h : Heap) : OX :=
ob (y6 .eql a (AV.str [])) fun c =>
cnd c
 ((yd h (.bool false)))
 ((yyz b d a h))
def y27z (s : St) : OX := ylr (s 2) (s 3) (s 5) s.h
theorem y1gb : T0 yw4 [.t 4] y27z := sq y1eo fun _ => by kernel_rfl
def yju (b a : AV) (h : Heap) : OX :=
ob (evFa 0 a) fun e =>
ob (evLd false 1 e h) fun d =>
oh (y7 E (y8 E) 0 none true 38 [d] h) fun c h19 =>
(ylr b a c h19)
def y268 (s : St) : OX := yju (s 2) (s 3) s.h
theorem y1d9 : T0 ytb [.t 4] y268 := sq y1gb fun _ => by kernel_rfl
def yfu (d c : AV) (h : Heap) : OX :=
oh (newC 0 (some 0) (cellsOf d) h) fun a h20 =>
oh (newC 0 (some 1) (cellsOf c) h20) fun b h21 =>
(yju a b h21)
def y27y (s : St) : OX := yfu (s 0) (s 1) s.h
theorem y1h6 : T0 yxi [.t 4] y27y := sq y1d9 fun _ => by kernel_rfl
@[simp] theorem y2ug : E.pure 64 = true := rfl
theorem y2lb (b a : AV) : (y8 E).p 64 [b, a] = yfu b a [⟨0, .dead⟩, ⟨0, .dead⟩, ⟨0, .dead⟩] :=
  (yr (cf := y29a) (by kernel_rfl) rfl).trans ((y1h6 _).trans (by kernel_rfl))
def y204 (c : AV) (h : Heap) : OX :=
oh (y10 0 (some 0) 1 3 [(.int .i64 0)] [(0, (.int .i64 27)), (1, (.int .i64 28)), (2, (.int .i64 29))] h) fun b h1 =>
oh (y7 E (y8 E) 0 none true 42 [c, b] h1) fun a h2 =>
(yd h2 a)
def y2h1 (s : St) : OX := y204 (s 0) s.h
theorem y1zn : T0 y18c [.t 2] y2h1 := fun _ => by kernel_rfl
@[simp] theorem y2sw : E.pure 23 = true := rfl
theorem y2ow (a : AV) : (y8 E).p 23 [a] = y204 a [⟨0, .dead⟩] :=
  (yr (cf := y2aq) (by kernel_rfl) rfl).trans ((y1zn _).trans (by kernel_rfl))
def y1z5 (d b : AV) (h : Heap) : OX :=
oh (newC 0 (some 0) (cellsOf d) h) fun e h1 =>
ob (y6 .geq b (.int .i64 0)) fun a =>
gb a true (some b) fun i =>
gb a true (evFa 3 e) fun l =>
gb a true (evLd false 1 l h1) fun c =>
gb a true (yv 1 c h1) fun g =>
gb a true (y6 .lss i g) fun k =>
ob (yb a k (.bool false)) fun j =>
(yd h1 j)
def y2ex (s : St) : OX := y1z5 (s 0) (s 1) s.h
theorem y1un : T0 y17f [.t 4] y2ex := fun _ => by kernel_rfl
@[simp] theorem y2ts : E.pure 49 = true := rfl
theorem y2l8 (b a : AV) : (y8 E).p 49 [b, a] = y1z5 b a [⟨0, .dead⟩] :=
  (yr (cf := y2b5) (by kernel_rfl) rfl).trans ((y1un _).trans (by kernel_rfl))
def y2gr (d : AV) (h : Heap) : OX :=
oh (newC 0 (some 0) (cellsOf d) h) fun b h1 =>
ob (evFa 0 b) fun i =>
ob (evLd false 1 i h1) fun k =>
ob (y6 .geq k (.int .i64 23)) fun a =>
gb a true (evFa 0 b) fun j =>
gb a true (evLd false 1 j h1) fun e =>
gb a true (y6 .leq e (.int .i64 26)) fun g =>
ob (yb a g (.bool false)) fun c =>
(yd h1 c)
def y2p5 (s : St) : OX := y2gr (s 0) s.h
theorem y26f : T0 y1q9 [.t 2] y2p5 := fun _ => by kernel_rfl
@[simp] theorem yzz : E.pure 17 = true := rfl
theorem y2tn (a : AV) : (y8 E).p 17 [a] = y2gr a [⟨0, .dead⟩] :=
  (yr (cf := y2pk) (by kernel_rfl) rfl).trans ((y26f _).trans (by kernel_rfl))
def yon (h : Heap) : OX :=
(yd h (.int .i64 (-1)))
def y6f (s : St) : OX := yon s.h
theorem y1k7 : T0 y1br [.t 4] y6f := fun _ => by kernel_rfl
def yir (d c a b : AV) (h : Heap) : OX :=
  W E 0 yj1 ⟨[(0, d), (1, c), (7, a), (8, b)], h⟩ y6f (y4 0 y6f xN) (finP [.t 4])
def y8n (s : St) : OX := yir (s 0) (s 1) (s 7) (s 8) s.h
theorem yma : T1 yj1 y6f (y4 0 y6f xN) [.t 4] y8n := fun s => yf.trans (by kernel_rfl)
def ymy (a c e b : AV) (h : Heap) : OX :=
ob (y6 .add b (.int .i64 1)) fun d =>
(yir a c e d h)
def y2jv (s : St) : OX := ymy (s 0) (s 1) (s 7) (s 8) s.h
theorem y1xa : T1 y1b0 y8n (y4 0 y6f xN) [.t 4] y2jv := fun _ => by kernel_rfl
def ynq (b c i a : AV) (h : Heap) : OX :=
ob (yn 1 b a) fun g =>
ob (evLd false 1 g h) fun d =>
ob (y6 .eql c d) fun e =>
cnd e
 ((yd h a))
 ((ymy b c i a h))
def y2i5 (s : St) : OX := ynq (s 0) (s 1) (s 7) (s 8) s.h
theorem y1zw : T1 y171 y8n (y4 0 y6f xN) [.t 4] y2i5 := sq y1xa fun _ => by kernel_rfl
def yo3 (a c d b e : AV) (h : Heap) : OX :=
cnd e
 ((ynq a c d b h))
 ((yon h))
def y2c0 (s : St) : OX := yo3 (s 0) (s 1) (s 7) (s 8) (s 9) s.h
theorem y1x4 : T1 y14l y8n (y4 0 y6f xN) [.t 4] y2c0 := sq y1zw fun _ => by kernel_rfl
def yoe (c d b a : AV) (h : Heap) : OX :=
ob (y6 .lss a b) fun e =>
(yo3 c d b a e h)
def y2cc (s : St) : OX := yoe (s 0) (s 1) (s 7) (s 8) s.h
theorem y1lv : T1 y12w y8n (y4 0 y6f xN) [.t 4] y2cc := sq y1x4 fun _ => by kernel_rfl
theorem yme (d c a b : AV) (h : Heap) : yir d c a b h = (yoe d c a b h) :=
  y1q.trans ((y14 _ _ _ (n' := y8n) (fun s => yma s)).trans ((y1lv _).trans (by kernel_rfl)))
theorem y1tt : T1 y0x y6f xN [.t 4] y8n := fun s => yp.trans (yma s)
def yp8 (a c : AV) (h : Heap) : OX :=
ob (yv 1 a h) fun b =>
(yir a c b (.int .i64 0) h)
def y1iq (s : St) : OX := yp8 (s 0) (s 1) s.h
theorem y1vl : T1 y11j y6f xN [.t 4] y1iq := sq y1tt fun _ => by kernel_rfl
theorem y1wb : T0 y1at [.t 4] y1iq := sq y1k7 y1vl
def yg7 (b a : AV) (h : Heap) : OX :=
(yp8 b a h)
def y26g (s : St) : OX := yg7 (s 0) (s 1) s.h
theorem y1d0 : T0 yvk [.t 4] y26g := sq y1wb fun _ => by kernel_rfl
@[simp] theorem y2tb : E.pure 45 = true := rfl
theorem y2nu (b a : AV) : (y8 E).p 45 [b, a] = yg7 b a [] :=
  (yr (cf := y29m) (by kernel_rfl) rfl).trans ((y1d0 _).trans (by kernel_rfl))
def yh4 (g a : AV) (h : Heap) : OX :=
ob (evLd true 9 g h) fun c =>
oh (y7 E (y8 E) 0 none true 51 [c] h) fun b h1 =>
ob (y42 0 b) fun d =>
ob (y42 1 b) fun e =>
oh (evSt 4 a d h1) fun _ h2 =>
(ob (evLd true 4 a h2) fun r0 =>
  yd h2 (.tup [r0, e]))
def yi (s : St) : OX := yh4 (s 1) (s 2) s.h
theorem y265 : T0 y1u5 [.cell 2 true 4, .t 3] yi := fun _ => by kernel_rfl
def yf3 (d a c : AV) (h : Heap) : OX :=
cnd c
 (ob (yx [(.int .i64 0), (.int .i64 0), (.int .i64 0), (.int .i64 0)] [(0, 1, (.int .i64 (-1))), (1, 1, (.int .i64 (-1))), (2, 1, (.int .i64 (-1))), (3, 1, (.int .i64 (-1)))]) fun b =>
oh (evSt 4 a b h) fun _ h3 =>
(ob (evLd true 4 a h3) fun r0 =>
  yd h3 (.tup [r0, (.bool true)])))
 ((yh4 d a h))
def y2mc (s : St) : OX := yf3 (s 1) (s 2) (s 134) s.h
theorem y263 : T1 y1lu yi (y4 0 yi xN) [.cell 2 true 4, .t 3] y2mc := fun _ => by kernel_rfl
def yh6 (b a d : AV) (h : Heap) : OX :=
ob (y6 .eql d (.int .i64 27)) fun c =>
cnd c
 ((yf3 b a c h))
 (ob (y6 .eql d (.int .i64 33)) fun e =>
(yf3 b a e h))
def y2oo (s : St) : OX := yh6 (s 1) (s 2) (s 11) s.h
theorem y27b : T1 y1nv yi (y4 0 yi xN) [.cell 2 true 4, .t 3] y2oo := sq y263 fun _ => by kernel_rfl
def yh9 (c b n l : AV) (h : Heap) : OX :=
cnd l
 (ob (yx [(.int .i64 0), (.int .i64 0), (.int .i64 0), (.int .i64 0)] [(0, 1, (.int .i64 (-1))), (1, 1, (.int .i64 1)), (2, 1, (.int .i64 1)), (3, 1, (.int .i64 (-1)))]) fun i =>
ob (evFa 5 c) fun d =>
ob (evLd false 1 d h) fun g =>
ob (y6 .geq g (.int .i64 0)) fun a =>
ofp (fgd a true (some ([], []))) fun f5 =>
gb a true (evFa 5 c) fun e =>
ofp (fgd a true (some (ids1 e, []))) fun f6 =>
gb a true (evLd false 1 e h) fun m =>
ofp (fgd a true (some ([], []))) fun f7 =>
gb a true (y6 .leq m (.int .i64 5)) fun j =>
ob (yb a j (.bool false)) fun k =>
oh (evSt 4 b i h) fun _ h4 =>
okK (ye [([], []), ([], []), (ids1 d, []), ([], []), ([], []), f5, f6, f7, ([], []), ([], ids1 b), ([], [])] [(6, 9)]) <|
(ob (evLd true 4 b h4) fun r0 =>
  yd h4 (.tup [r0, k])))
 ((yh6 c b n h))
def y2pl (s : St) : OX := yh9 (s 1) (s 2) (s 11) (s 123) s.h
theorem y20v : T1 y1mm yi (y4 0 yi xN) [.cell 2 true 4, .t 3] y2pl := fun s => (y1e rfl (y27b s)).trans (by kernel_rfl)
def yh8 (d b a : AV) (h : Heap) : OX :=
ob (y6 .eql a (.int .i64 28)) fun c =>
(yh9 d b a c h)
def y2ky (s : St) : OX := yh8 (s 1) (s 2) (s 11) s.h
theorem y28v : T1 y1nq yi (y4 0 yi xN) [.cell 2 true 4, .t 3] y2ky := sq y20v fun _ => by kernel_rfl
def yhc (b a j c : AV) (h : Heap) : OX :=
cnd c
 (ob (yx [(.int .i64 0), (.int .i64 0), (.int .i64 0), (.int .i64 0)] [(0, 1, (.int .i64 3)), (1, 1, (.int .i64 1)), (2, 1, (.int .i64 (-1))), (3, 1, (.int .i64 (-1)))]) fun i =>
ob (evFa 7 b) fun d =>
ob (evLd false 1 d h) fun e =>
oh (y7 E (y8 E) 0 none true 37 [e] h) fun g h5 =>
oh (evSt 4 a i h5) fun _ h6 =>
(ob (evLd true 4 a h6) fun r0 =>
  yd h6 (.tup [r0, g])))
 ((yh8 b a j h))
def y2od (s : St) : OX := yhc (s 1) (s 2) (s 11) (s 117) s.h
theorem y21b : T1 y1nt yi (y4 0 yi xN) [.cell 2 true 4, .t 3] y2od := fun s => (y1e rfl (y28v s)).trans (by kernel_rfl)
def yhb (d b a : AV) (h : Heap) : OX :=
ob (y6 .eql a (.int .i64 21)) fun c =>
(yhc d b a c h)
def y2nw (s : St) : OX := yhb (s 1) (s 2) (s 11) s.h
theorem y25k : T1 y1my yi (y4 0 yi xN) [.cell 2 true 4, .t 3] y2nw := sq y21b fun _ => by kernel_rfl
def yha (d a e b : AV) (h : Heap) : OX :=
cnd b
 (ob (yx [(.int .i64 0), (.int .i64 0), (.int .i64 0), (.int .i64 0)] [(0, 1, (.int .i64 (-1))), (1, 1, (.int .i64 0)), (2, 1, (.int .i64 (-1))), (3, 1, (.int .i64 (-1)))]) fun c =>
oh (evSt 4 a c h) fun _ h7 =>
(ob (evLd true 4 a h7) fun r0 =>
  yd h7 (.tup [r0, (.bool true)])))
 ((yhb d a e h))
def y2qa (s : St) : OX := yha (s 1) (s 2) (s 11) (s 114) s.h
theorem y21h : T1 y1yg yi (y4 0 yi xN) [.cell 2 true 4, .t 3] y2qa := fun s => (y1e rfl (y25k s)).trans (by kernel_rfl)
def yh5 (d b a : AV) (h : Heap) : OX :=
ob (y6 .eql a (.int .i64 19)) fun c =>
(yha d b a c h)
def y2kq (s : St) : OX := yh5 (s 1) (s 2) (s 11) s.h
theorem y281 : T1 y1o1 yi (y4 0 yi xN) [.cell 2 true 4, .t 3] y2kq := sq y21h fun _ => by kernel_rfl
def ya4 (c a j i : AV) (h : Heap) : OX :=
cnd i
 (ob (yx [(.int .i64 0), (.int .i64 0), (.int .i64 0), (.int .i64 0)] [(0, 1, (.int .i64 (-1))), (1, 1, (.int .i64 3)), (2, 1, (.int .i64 0)), (3, 1, (.int .i64 (-1)))]) fun d =>
ob (evFa 5 c) fun b =>
ob (evLd false 1 b h) fun e =>
ob (y6 .geq e (.int .i64 0)) fun g =>
oh (evSt 4 a d h) fun _ h8 =>
okK (ye [([], []), ([], []), (ids1 b, []), ([], []), ([], ids1 a), ([], [])] [(2, 4)]) <|
(ob (evLd true 4 a h8) fun r0 =>
  yd h8 (.tup [r0, g])))
 ((yh5 c a j h))
def y2ds (s : St) : OX := ya4 (s 1) (s 2) (s 11) (s 108) s.h
theorem y1um : T1 y16x yi (y4 0 yi xN) [.cell 2 true 4, .t 3] y2ds := fun s => (y1e rfl (y281 s)).trans (by kernel_rfl)
def y9z (d b a : AV) (h : Heap) : OX :=
ob (y6 .eql a (.int .i64 17)) fun c =>
(ya4 d b a c h)
def y2hw (s : St) : OX := y9z (s 1) (s 2) (s 11) s.h
theorem y1px : T1 y15d yi (y4 0 yi xN) [.cell 2 true 4, .t 3] y2hw := sq y1um fun _ => by kernel_rfl
def y9q (c a j e : AV) (h : Heap) : OX :=
cnd e
 (ob (yx [(.int .i64 0), (.int .i64 0), (.int .i64 0), (.int .i64 0)] [(0, 1, (.int .i64 0)), (1, 1, (.int .i64 3)), (2, 1, (.int .i64 (-1))), (3, 1, (.int .i64 (-1)))]) fun d =>
ob (evFa 5 c) fun b =>
ob (evLd false 1 b h) fun g =>
ob (y6 .geq g (.int .i64 0)) fun i =>
oh (evSt 4 a d h) fun _ h9 =>
okK (ye [([], []), ([], []), (ids1 b, []), ([], []), ([], ids1 a), ([], [])] [(2, 4)]) <|
(ob (evLd true 4 a h9) fun r0 =>
  yd h9 (.tup [r0, i])))
 ((y9z c a j h))
def y2i6 (s : St) : OX := y9q (s 1) (s 2) (s 11) (s 102) s.h
theorem y1p8 : T1 y16m yi (y4 0 yi xN) [.cell 2 true 4, .t 3] y2i6 := fun s => (y1e rfl (y1px s)).trans (by kernel_rfl)
def ya2 (d b a : AV) (h : Heap) : OX :=
ob (y6 .eql a (.int .i64 16)) fun c =>
(y9q d b a c h)
def y2h9 (s : St) : OX := ya2 (s 1) (s 2) (s 11) s.h
theorem y1p2 : T1 y13c yi (y4 0 yi xN) [.cell 2 true 4, .t 3] y2h9 := sq y1p8 fun _ => by kernel_rfl
def y94 (d a e c : AV) (h : Heap) : OX :=
cnd c
 (ob (yx [(.int .i64 0), (.int .i64 0), (.int .i64 0), (.int .i64 0)] [(0, 1, (.int .i64 1)), (1, 1, (.int .i64 3)), (2, 1, (.int .i64 (-1))), (3, 1, (.int .i64 (-1)))]) fun b =>
oh (evSt 4 a b h) fun _ h10 =>
(ob (evLd true 4 a h10) fun r0 =>
  yd h10 (.tup [r0, (.bool true)])))
 ((ya2 d a e h))
def y2gq (s : St) : OX := y94 (s 1) (s 2) (s 11) (s 99) s.h
theorem y1y0 : T1 y16c yi (y4 0 yi xN) [.cell 2 true 4, .t 3] y2gq := fun s => (y1e rfl (y1p2 s)).trans (by kernel_rfl)
def ya0 (d b a : AV) (h : Heap) : OX :=
ob (y6 .eql a (.int .i64 15)) fun c =>
(y94 d b a c h)
def y2g5 (s : St) : OX := ya0 (s 1) (s 2) (s 11) s.h
theorem y1wt : T1 y13s yi (y4 0 yi xN) [.cell 2 true 4, .t 3] y2g5 := sq y1y0 fun _ => by kernel_rfl
def y97 (d a e c : AV) (h : Heap) : OX :=
cnd c
 (ob (yx [(.int .i64 0), (.int .i64 0), (.int .i64 0), (.int .i64 0)] [(0, 1, (.int .i64 (-1))), (1, 1, (.int .i64 3)), (2, 1, (.int .i64 1)), (3, 1, (.int .i64 0))]) fun b =>
oh (evSt 4 a b h) fun _ h11 =>
(ob (evLd true 4 a h11) fun r0 =>
  yd h11 (.tup [r0, (.bool true)])))
 ((ya0 d a e h))
def y2hu (s : St) : OX := y97 (s 1) (s 2) (s 11) (s 96) s.h
theorem y1yj : T1 y134 yi (y4 0 yi xN) [.cell 2 true 4, .t 3] y2hu := fun s => (y1e rfl (y1wt s)).trans (by kernel_rfl)
def y9s (d b a : AV) (h : Heap) : OX :=
ob (y6 .eql a (.int .i64 14)) fun c =>
(y97 d b a c h)
def y2gx (s : St) : OX := y9s (s 1) (s 2) (s 11) s.h
theorem y1q0 : T1 y199 yi (y4 0 yi xN) [.cell 2 true 4, .t 3] y2gx := sq y1yj fun _ => by kernel_rfl
def y9f (d a e b : AV) (h : Heap) : OX :=
cnd b
 (ob (yx [(.int .i64 0), (.int .i64 0), (.int .i64 0), (.int .i64 0)] [(0, 1, (.int .i64 0)), (1, 1, (.int .i64 3)), (2, 1, (.int .i64 1)), (3, 1, (.int .i64 (-1)))]) fun c =>
oh (evSt 4 a c h) fun _ h12 =>
(ob (evLd true 4 a h12) fun r0 =>
  yd h12 (.tup [r0, (.bool true)])))
 ((y9s d a e h))
def y2by (s : St) : OX := y9f (s 1) (s 2) (s 11) (s 93) s.h
theorem y1m0 : T1 y13f yi (y4 0 yi xN) [.cell 2 true 4, .t 3] y2by := fun s => (y1e rfl (y1q0 s)).trans (by kernel_rfl)
def y9b (d b a : AV) (h : Heap) : OX :=
ob (y6 .eql a (.int .i64 13)) fun c =>
(y9f d b a c h)
def y2fi (s : St) : OX := y9b (s 1) (s 2) (s 11) s.h
theorem y1mr : T1 y16a yi (y4 0 yi xN) [.cell 2 true 4, .t 3] y2fi := sq y1m0 fun _ => by kernel_rfl
def y9m (d a e c : AV) (h : Heap) : OX :=
cnd c
 (ob (yx [(.int .i64 0), (.int .i64 0), (.int .i64 0), (.int .i64 0)] [(0, 1, (.int .i64 (-1))), (1, 1, (.int .i64 3)), (2, 1, (.int .i64 3)), (3, 1, (.int .i64 (-1)))]) fun b =>
oh (evSt 4 a b h) fun _ h13 =>
(ob (evLd true 4 a h13) fun r0 =>
  yd h13 (.tup [r0, (.bool true)])))
 ((y9b d a e h))
def y2f0 (s : St) : OX := y9m (s 1) (s 2) (s 11) (s 90) s.h
theorem y1ta : T1 y12p yi (y4 0 yi xN) [.cell 2 true 4, .t 3] y2f0 := fun s => (y1e rfl (y1mr s)).trans (by kernel_rfl)
def y99 (d b a : AV) (h : Heap) : OX :=
ob (y6 .eql a (.int .i64 11)) fun c =>
(y9m d b a c h)
def y2d2 (s : St) : OX := y99 (s 1) (s 2) (s 11) s.h
theorem y1p4 : T1 y13m yi (y4 0 yi xN) [.cell 2 true 4, .t 3] y2d2 := sq y1ta fun _ => by kernel_rfl
def y9e (d a e b : AV) (h : Heap) : OX :=
cnd b
 (ob (yx [(.int .i64 0), (.int .i64 0), (.int .i64 0), (.int .i64 0)] [(0, 1, (.int .i64 (-1))), (1, 1, (.int .i64 1)), (2, 1, (.int .i64 (-1))), (3, 1, (.int .i64 (-1)))]) fun c =>
oh (evSt 4 a c h) fun _ h14 =>
(ob (evLd true 4 a h14) fun r0 =>
  yd h14 (.tup [r0, (.bool true)])))
 ((y99 d a e h))
def y2c4 (s : St) : OX := y9e (s 1) (s 2) (s 11) (s 87) s.h
theorem y1sj : T1 y182 yi (y4 0 yi xN) [.cell 2 true 4, .t 3] y2c4 := fun s => (y1e rfl (y1p4 s)).trans (by kernel_rfl)
def y9d (d b a : AV) (h : Heap) : OX :=
ob (y6 .eql a (.int .i64 10)) fun c =>
(y9e d b a c h)
def y2hk (s : St) : OX := y9d (s 1) (s 2) (s 11) s.h
theorem y1kj : T1 y14m yi (y4 0 yi xN) [.cell 2 true 4, .t 3] y2hk := sq y1sj fun _ => by kernel_rfl
def y9l (d a e b : AV) (h : Heap) : OX :=
cnd b
 (ob (yx [(.int .i64 0), (.int .i64 0), (.int .i64 0), (.int .i64 0)] [(0, 1, (.int .i64 (-1))), (1, 1, (.int .i64 3)), (2, 1, (.int .i64 1)), (3, 1, (.int .i64 (-1)))]) fun c =>
oh (evSt 4 a c h) fun _ h15 =>
(ob (evLd true 4 a h15) fun r0 =>
  yd h15 (.tup [r0, (.bool true)])))
 ((y9d d a e h))
def y2hl (s : St) : OX := y9l (s 1) (s 2) (s 11) (s 84) s.h
theorem y1xe : T1 y1aj yi (y4 0 yi xN) [.cell 2 true 4, .t 3] y2hl := fun s => (y1e rfl (y1kj s)).trans (by kernel_rfl)
def y9o (d b a : AV) (h : Heap) : OX :=
ob (y6 .eql a (.int .i64 9)) fun c =>
(y9l d b a c h)
def y2ev (s : St) : OX := y9o (s 1) (s 2) (s 11) s.h
theorem y1ki : T1 y139 yi (y4 0 yi xN) [.cell 2 true 4, .t 3] y2ev := sq y1xe fun _ => by kernel_rfl
def y9i (b a j i : AV) (h : Heap) : OX :=
cnd i
 (ob (yx [(.int .i64 0), (.int .i64 0), (.int .i64 0), (.int .i64 0)] [(0, 1, (.int .i64 1)), (1, 1, (.int .i64 3)), (2, 1, (.int .i64 (-1))), (3, 1, (.int .i64 (-1)))]) fun g =>
ob (evFa 7 b) fun e =>
ob (evLd false 1 e h) fun c =>
oh (y7 E (y8 E) 0 none true 37 [c] h) fun d h16 =>
oh (evSt 4 a g h16) fun _ h17 =>
(ob (evLd true 4 a h17) fun r0 =>
  yd h17 (.tup [r0, d])))
 ((y9o b a j h))
def y2fe (s : St) : OX := y9i (s 1) (s 2) (s 11) (s 78) s.h
theorem y1q8 : T1 y1bc yi (y4 0 yi xN) [.cell 2 true 4, .t 3] y2fe := fun s => (y1e rfl (y1ki s)).trans (by kernel_rfl)
def y95 (d b a : AV) (h : Heap) : OX :=
ob (y6 .eql a (.int .i64 22)) fun c =>
(y9i d b a c h)
def y2hj (s : St) : OX := y95 (s 1) (s 2) (s 11) s.h
theorem y1si : T1 y144 yi (y4 0 yi xN) [.cell 2 true 4, .t 3] y2hj := sq y1q8 fun _ => by kernel_rfl
def y9g (b a j g : AV) (h : Heap) : OX :=
cnd g
 (ob (yx [(.int .i64 0), (.int .i64 0), (.int .i64 0), (.int .i64 0)] [(0, 1, (.int .i64 (-1))), (1, 1, (.int .i64 3)), (2, 1, (.int .i64 (-1))), (3, 1, (.int .i64 (-1)))]) fun c =>
ob (evFa 7 b) fun d =>
ob (evLd false 1 d h) fun i =>
oh (y7 E (y8 E) 0 none true 37 [i] h) fun e h18 =>
oh (evSt 4 a c h18) fun _ h19 =>
(ob (evLd true 4 a h19) fun r0 =>
  yd h19 (.tup [r0, e])))
 ((y95 b a j h))
def y2bn (s : St) : OX := y9g (s 1) (s 2) (s 11) (s 72) s.h
theorem y1jz : T1 y1an yi (y4 0 yi xN) [.cell 2 true 4, .t 3] y2bn := fun s => (y1e rfl (y1si s)).trans (by kernel_rfl)
def y93 (d b a : AV) (h : Heap) : OX :=
ob (y6 .eql a (.int .i64 12)) fun c =>
(y9g d b a c h)
def y2bj (s : St) : OX := y93 (s 1) (s 2) (s 11) s.h
theorem y1vf : T1 y1ai yi (y4 0 yi xN) [.cell 2 true 4, .t 3] y2bj := sq y1jz fun _ => by kernel_rfl
def y8c (b a e c : AV) (h : Heap) : OX :=
cnd c
 (ob (yx [(.int .i64 0), (.int .i64 0), (.int .i64 0), (.int .i64 0)] [(0, 1, (.int .i64 (-1))), (1, 1, (.int .i64 3)), (2, 1, (.int .i64 (-1))), (3, 1, (.int .i64 (-1)))]) fun d =>
oh (evSt 4 a d h) fun _ h20 =>
(ob (evLd true 4 a h20) fun r0 =>
  yd h20 (.tup [r0, (.bool true)])))
 ((y93 b a e h))
def y2ge (s : St) : OX := y8c (s 1) (s 2) (s 11) (s 68) s.h
theorem y1oi : T1 y12j yi (y4 0 yi xN) [.cell 2 true 4, .t 3] y2ge := fun s => (y1e rfl (y1vf s)).trans (by kernel_rfl)
def y9u (c b a : AV) (h : Heap) : OX :=
ob (y6 .eql a (.int .i64 8)) fun d =>
cnd d
 ((y8c c b a d h))
 (ob (y6 .eql a (.int .i64 31)) fun e =>
(y8c c b a e h))
def y2df (s : St) : OX := y9u (s 1) (s 2) (s 11) s.h
theorem y1ym : T1 y11y yi (y4 0 yi xN) [.cell 2 true 4, .t 3] y2df := sq y1oi fun _ => by kernel_rfl
def ya1 (d a e c : AV) (h : Heap) : OX :=
cnd c
 (ob (yx [(.int .i64 0), (.int .i64 0), (.int .i64 0), (.int .i64 0)] [(0, 1, (.int .i64 (-1))), (1, 1, (.int .i64 0)), (2, 1, (.int .i64 (-1))), (3, 1, (.int .i64 (-1)))]) fun b =>
oh (evSt 4 a b h) fun _ h21 =>
(ob (evLd true 4 a h21) fun r0 =>
  yd h21 (.tup [r0, (.bool true)])))
 ((y9u d a e h))
def y2e2 (s : St) : OX := ya1 (s 1) (s 2) (s 11) (s 65) s.h
theorem y1lk : T1 y18b yi (y4 0 yi xN) [.cell 2 true 4, .t 3] y2e2 := fun s => (y1e rfl (y1ym s)).trans (by kernel_rfl)
def y9a (d b a : AV) (h : Heap) : OX :=
ob (y6 .eql a (.int .i64 7)) fun c =>
(ya1 d b a c h)
def y2el (s : St) : OX := y9a (s 1) (s 2) (s 11) s.h
theorem y1oq : T1 y0w yi (y4 0 yi xN) [.cell 2 true 4, .t 3] y2el := sq y1lk fun _ => by kernel_rfl
def y9p (e b r k : AV) (h : Heap) : OX :=
cnd k
 (ob (evFa 5 e) fun o =>
ob (evLd false 1 o h) fun l =>
oh (y7 E (y8 E) 0 none true 50 [l] h) fun c h22 =>
ob (y42 0 c) fun d =>
ob (y42 1 c) fun p =>
ob (y42 2 c) fun n =>
ob (yx [(.int .i64 0), (.int .i64 0), (.int .i64 0), (.int .i64 0)] [(0, 1, n), (1, 1, d), (2, 1, (.int .i64 (-1))), (3, 1, (.int .i64 (-1)))]) fun m =>
ob (y6 .neq d (.int .i64 0)) fun a =>
gb a true (some p) fun g =>
gb a true (y6 .eql g (.int .i64 0)) fun i =>
ob (yb a i (.bool false)) fun j =>
oh (evSt 4 b m h22) fun _ h23 =>
(ob (evLd true 4 b h23) fun r0 =>
  yd h23 (.tup [r0, j])))
 ((y9a e b r h))
def y2io (s : St) : OX := y9p (s 1) (s 2) (s 11) (s 47) s.h
theorem y1m1 : T1 y1ag yi (y4 0 yi xN) [.cell 2 true 4, .t 3] y2io := fun s => (y1e rfl (y1oq s)).trans (by kernel_rfl)
def y9k (d b a : AV) (h : Heap) : OX :=
ob (y6 .eql a (.int .i64 6)) fun c =>
(y9p d b a c h)
def y2hx (s : St) : OX := y9k (s 1) (s 2) (s 11) s.h
theorem y1im : T1 y161 yi (y4 0 yi xN) [.cell 2 true 4, .t 3] y2hx := sq y1m1 fun _ => by kernel_rfl
def y9r (a c t u : AV) (h : Heap) : OX :=
cnd u
 (ob (evFa 5 a) fun i =>
ob (evLd false 1 i h) fun j =>
oh (y7 E (y8 E) 0 none true 50 [j] h) fun b h24 =>
ob (y42 0 b) fun m =>
ob (y42 1 b) fun e =>
ob (y42 2 b) fun v =>
ob (yx [(.int .i64 0), (.int .i64 0), (.int .i64 0), (.int .i64 0)] [(0, 1, v), (1, 1, m), (2, 1, e), (3, 1, (.int .i64 (-1)))]) fun o =>
ob (evFa 5 a) fun r =>
ob (evLd false 1 r h24) fun l =>
ob (evFa 5 a) fun p =>
ob (evLd false 1 p h24) fun k =>
ob (y6 .eql l k) fun d =>
gb d true (some e) fun n =>
gb d true (y6 .neq n (.int .i64 0)) fun w =>
ob (yb d w (.bool false)) fun g =>
oh (evSt 4 c o h24) fun _ h25 =>
(ob (evLd true 4 c h25) fun r0 =>
  yd h25 (.tup [r0, g])))
 ((y9k a c t h))
def y2c1 (s : St) : OX := y9r (s 1) (s 2) (s 11) (s 25) s.h
theorem y1k2 : T1 y17b yi (y4 0 yi xN) [.cell 2 true 4, .t 3] y2c1 := fun s => (y1e rfl (y1im s)).trans (by kernel_rfl)
def ya3 (d b a : AV) (h : Heap) : OX :=
ob (y6 .eql a (.int .i64 5)) fun c =>
(y9r d b a c h)
def y2ij (s : St) : OX := ya3 (s 1) (s 2) (s 11) s.h
theorem y1lt : T1 y13p yi (y4 0 yi xN) [.cell 2 true 4, .t 3] y2ij := sq y1k2 fun _ => by kernel_rfl
def y9h (d a e c : AV) (h : Heap) : OX :=
cnd c
 (ob (yx [(.int .i64 0), (.int .i64 0), (.int .i64 0), (.int .i64 0)] [(0, 1, (.int .i64 0)), (1, 1, (.int .i64 0)), (2, 1, (.int .i64 (-1))), (3, 1, (.int .i64 (-1)))]) fun b =>
oh (evSt 4 a b h) fun _ h26 =>
(ob (evLd true 4 a h26) fun r0 =>
  yd h26 (.tup [r0, (.bool true)])))
 ((ya3 d a e h))
def y2ef (s : St) : OX := y9h (s 1) (s 2) (s 11) (s 22) s.h
theorem y1p6 : T1 y18a yi (y4 0 yi xN) [.cell 2 true 4, .t 3] y2ef := fun s => (y1e rfl (y1lt s)).trans (by kernel_rfl)
def y9n (d b a : AV) (h : Heap) : OX :=
ob (y6 .eql a (.int .i64 4)) fun c =>
(y9h d b a c h)
def y2ja (s : St) : OX := y9n (s 1) (s 2) (s 11) s.h
theorem y1xv : T1 y0r yi (y4 0 yi xN) [.cell 2 true 4, .t 3] y2ja := sq y1p6 fun _ => by kernel_rfl
def y68 (d a e b : AV) (h : Heap) : OX :=
cnd b
 (ob (yx [(.int .i64 0), (.int .i64 0), (.int .i64 0), (.int .i64 0)] [(0, 1, (.int .i64 3)), (1, 1, (.int .i64 (-1))), (2, 1, (.int .i64 (-1))), (3, 1, (.int .i64 (-1)))]) fun c =>
oh (evSt 4 a c h) fun _ h27 =>
(ob (evLd true 4 a h27) fun r0 =>
  yd h27 (.tup [r0, (.bool true)])))
 ((y9n d a e h))
def y2eg (s : St) : OX := y68 (s 1) (s 2) (s 11) (s 16) s.h
theorem y1r0 : T1 y19c yi (y4 0 yi xN) [.cell 2 true 4, .t 3] y2eg := fun s => (y1e rfl (y1xv s)).trans (by kernel_rfl)
def y9v (c b a : AV) (h : Heap) : OX :=
ob (y6 .eql a (.int .i64 2)) fun d =>
cnd d
 ((y68 c b a d h))
 (ob (y6 .eql a (.int .i64 3)) fun g =>
cnd g
 ((y68 c b a g h))
 (ob (y6 .eql a (.int .i64 20)) fun e =>
cnd e
 ((y68 c b a e h))
 (ob (y6 .eql a (.int .i64 32)) fun i =>
(y68 c b a i h))))
def y2jy (s : St) : OX := y9v (s 1) (s 2) (s 11) s.h
theorem y1mj : T1 y19z yi (y4 0 yi xN) [.cell 2 true 4, .t 3] y2jy := sq y1r0 fun _ => by kernel_rfl
def y7y (d a e c : AV) (h : Heap) : OX :=
cnd c
 (ob (yx [(.int .i64 0), (.int .i64 0), (.int .i64 0), (.int .i64 0)] [(0, 1, (.int .i64 0)), (1, 1, (.int .i64 (-1))), (2, 1, (.int .i64 (-1))), (3, 1, (.int .i64 (-1)))]) fun b =>
oh (evSt 4 a b h) fun _ h28 =>
(ob (evLd true 4 a h28) fun r0 =>
  yd h28 (.tup [r0, (.bool true)])))
 ((y9v d a e h))
def y2i2 (s : St) : OX := y7y (s 1) (s 2) (s 11) (s 12) s.h
theorem y1v9 : T1 y16d yi (y4 0 yi xN) [.cell 2 true 4, .t 3] y2i2 := fun s => (y1e rfl (y1mj s)).trans (by kernel_rfl)
def y9t (d b a : AV) (h : Heap) : OX :=
ob (y6 .eql a (.int .i64 1)) fun c =>
cnd c
 ((y7y d b a c h))
 (ob (y6 .eql a (.int .i64 18)) fun e =>
(y7y d b a e h))
def y1w3 (s : St) : OX := y9t (s 1) (s 2) (s 11) s.h
theorem y1x8 : T1 y1ba yi (y4 0 yi xN) [.cell 2 true 4, .t 3] y1w3 := sq y1v9 fun _ => by kernel_rfl
theorem y1ir : T1 y14f yi xN [.cell 2 true 4, .t 3] y1w3 := fun s => yp.trans (y1x8 s)
def y9x (a b : AV) (h : Heap) : OX :=
ob (evFa 0 a) fun c =>
ob (evLd false 1 c h) fun d =>
(y9t a b d h)
def y1ze (s : St) : OX := y9x (s 1) (s 2) s.h
theorem y1og : T1 y1cb yi xN [.cell 2 true 4, .t 3] y1ze := sq y1ir fun _ => by kernel_rfl
theorem y1wn : T0 y16y [.cell 2 true 4, .t 3] y1ze := sq y265 y1og
def y9w (c : AV) (h : Heap) : OX :=
oh (newC 0 (some 0) (cellsOf c) h) fun b h29 =>
oh (newC 0 (some 1) [(.int .i64 0), (.int .i64 0), (.int .i64 0), (.int .i64 0)] h29) fun a h30 =>
(y9x b a h30)
def y2d5 (s : St) : OX := y9w (s 0) s.h
theorem y1yw : T0 y130 [.cell 2 true 4, .t 3] y2d5 := sq y1wn fun _ => by kernel_rfl
@[simp] theorem y2rj : E.pure 47 = true := rfl
theorem y1k5 (a : AV) : (y8 E).p 47 [a] = y9w a [⟨0, .dead⟩, ⟨0, .dead⟩] :=
  (yr (cf := y2nx) (by kernel_rfl) rfl).trans ((y1yw _).trans (by kernel_rfl))
def y1rn (x : AV) (h : Heap) : OX :=
oh (newC 0 (some 0) (cellsOf x) h) fun a h1 =>
ob (evFa 0 a) fun t =>
ob (evLd false 1 t h1) fun n =>
ob (y6 .geq n (.int .i64 7)) fun e =>
gb e true (evFa 0 a) fun w =>
gb e true (evLd false 1 w h1) fun r =>
gb e true (y6 .leq r (.int .i64 12)) fun p =>
ob (yb e p (.bool false)) fun c =>
gb c false (evFa 0 a) fun A =>
gb c false (evLd false 1 A h1) fun v =>
gb c false (y6 .eql v (.int .i64 20)) fun y =>
ob (yb c (.bool true) y) fun d =>
gb d false (evFa 0 a) fun j =>
gb d false (evLd false 1 j h1) fun o =>
gb d false (y6 .eql o (.int .i64 21)) fun u =>
ob (yb d (.bool true) u) fun b =>
gb b false (evFa 0 a) fun m =>
gb b false (evLd false 1 m h1) fun i =>
gb b false (y6 .eql i (.int .i64 31)) fun z =>
ob (yb b (.bool true) z) fun g =>
gb g false (evLd true 9 a h1) fun B =>
gh g false (y7 E (y8 E) 0 none true 17 [B] h1) h1 fun k h2 =>
ob (yb g (.bool true) k) fun l =>
(yd h2 l)
def y2lp (s : St) : OX := y1rn (s 0) s.h
theorem y23d : T0 y1wz [.t 2] y2lp := fun _ => by kernel_rfl
@[simp] theorem y2t2 : E.pure 18 = true := rfl
theorem y2ru (a : AV) : (y8 E).p 18 [a] = y1rn a [⟨0, .dead⟩] :=
  (yr (cf := y2mr) (by kernel_rfl) rfl).trans ((y23d _).trans (by kernel_rfl))
def ycd (a : AV) (h : Heap) : OX :=
(yd h a)
def y2fv (s : St) : OX := ycd (s 6) s.h
theorem y1jf : T0 y18m [.t 4] y2fv := fun _ => by kernel_rfl
def ycj (c b : AV) (h : Heap) : OX :=
ob (evFa 0 c) fun i =>
ob (evLd false 1 i h) fun j =>
oh (y7 E (y8 E) 0 none true 23 [j] h) fun a h1 =>
gb a true (some b) fun d =>
gb a true (evFa 6 c) fun k =>
gb a true (evLd false 1 k h1) fun g =>
gh a true (y7 E (y8 E) 0 none true 96 [d, g] h1) h1 fun o h2 =>
gb a true (evUn .not o) fun n =>
ob (yb a n (.bool false)) fun r =>
cnd r
 (ob (evFa 6 c) fun p =>
ob (evLd false 1 p h2) fun l =>
oh (y10 0 (some 3) 1 1 [(.int .i64 0)] [(0, l)] h2) fun m h3 =>
oh (y3c 0 (some 4) 1 8 b m h3) fun e h4 =>
(ycd e h4))
 ((ycd b h2))
def y2dd (s : St) : OX := ycj (s 5) (s 6) s.h
theorem y1ql : T0 y1bl [.t 4] y2dd := sq y1jf fun _ => by kernel_rfl
def yco (k a d : AV) (h : Heap) : OX :=
ob (evFa 0 a) fun e =>
ob (evLd false 1 e h) fun i =>
oh (y7 E (y8 E) 0 none true 25 [i] h) fun b h5 =>
ob (evUn .not b) fun g =>
cnd g
 (ob (y6 .add k (.int .i64 1)) fun c =>
oh (y10 0 (some 2) 1 1 [(.int .i64 0)] [(0, c)] h5) fun j h6 =>
(ycj a j h6))
 ((ycj a d h5))
def y2fx (s : St) : OX := yco (s 1) (s 5) (s 6) s.h
theorem y1wm : T0 y1bx [.t 4] y2fx := sq y1ql fun _ => by kernel_rfl
def yv2 (b a : AV) (h : Heap) : OX :=
(yco b a AV.nils h)
def y2hz (s : St) : OX := yv2 (s 1) (s 5) s.h
theorem y1ny : T0 y12m [.t 4] y2hz := sq y1wm fun _ => by kernel_rfl
def ywp (b d : AV) (h : Heap) : OX :=
ob (evFa 3 d) fun i =>
ob (evLd false 1 i h) fun c =>
ob (yn 9 c b) fun g =>
ob (evLd true 9 g h) fun e =>
oh (newC 0 (some 1) [(.int .i64 0), (.int .i64 0), (.int .i64 0), (.int .i64 0), (.int .i64 0), (.int .i64 0), (.int .i64 0), (.str []), .nils] h) fun a h7 =>
oh (evSt 9 a e h7) fun _ h8 =>
(yv2 b a h8)
def y2gz (s : St) : OX := ywp (s 1) (s 2) s.h
theorem y1ik : T0 y1by [.t 4] y2gz := sq y1ny fun _ => by kernel_rfl
def yse (b c : AV) (h : Heap) : OX :=
ob (y6 .lss b (.int .i64 0)) fun a =>
gb a false (some b) fun d =>
gb a false (evFa 3 c) fun k =>
gb a false (evLd false 1 k h) fun j =>
gb a false (yv 1 j h) fun i =>
gb a false (y6 .geq d i) fun g =>
ob (yb a (.bool true) g) fun e =>
cnd e
 ((yd h AV.nils))
 ((ywp b c h))
def y2dh (s : St) : OX := yse (s 1) (s 2) s.h
theorem y1us : T0 y11d [.t 4] y2dh := sq y1ik fun _ => by kernel_rfl
def ym5 (c b : AV) (h : Heap) : OX :=
oh (newC 0 (some 0) (cellsOf c) h) fun a h9 =>
(yse b a h9)
def y2eh (s : St) : OX := ym5 (s 0) (s 1) s.h
theorem y1i8 : T0 y19w [.t 4] y2eh := sq y1us fun _ => by kernel_rfl
@[simp] theorem y2v9 : E.pure 95 = true := rfl
theorem y2o5 (b a : AV) : (y8 E).p 95 [b, a] = ym5 b a [⟨0, .dead⟩, ⟨0, .dead⟩, ⟨0, .dead⟩, ⟨0, .dead⟩, ⟨0, .dead⟩] :=
  (yr (cf := y296) (by kernel_rfl) rfl).trans ((y1i8 _).trans (by kernel_rfl))
def y17q (i b : AV) (h : Heap) : OX :=
oh (newC 0 (some 0) (cellsOf i) h) fun a h1 =>
ob (evLd true 5 a h1) fun e =>
ofp (y2k E (y8 E) 0 (some 1) false 95 [e, b] h1) fun f2 =>
oh (y7 E (y8 E) 0 (some 1) false 95 [e, b] h1) fun g h2 =>
ob (evLd true 5 a h2) fun d =>
ofp (y2k E (y8 E) 0 none true 92 [d, b] h2) fun f5 =>
oh (y7 E (y8 E) 0 none true 92 [d, b] h2) fun c h3 =>
oh (y3c 0 (some 2) 1 8 g c h3) fun j h4 =>
okK (ye [(ids1 a, []), ([], []), f2, (ids1 a, []), ([], []), f5, (ids1 c, ids1 g ++ [0 + 2]), ([], [])] [(2, 3)]) <|
(yd h4 j)
def y2c2 (s : St) : OX := y17q (s 0) (s 1) s.h
theorem y1nf : T0 y11e [.t 4] y2c2 := fun _ => by kernel_rfl
@[simp] theorem y2rg : E.pure 105 = true := rfl
theorem y2o2 (b a : AV) : (y8 E).p 105 [b, a] = y17q b a [⟨0, .dead⟩, ⟨0, .dead⟩, ⟨0, .dead⟩] :=
  (yr (cf := y2aa) (by kernel_rfl) rfl).trans ((y1nf _).trans (by kernel_rfl))
def y1ut (x l : AV) (h : Heap) : OX :=
oh (newC 0 (some 0) (cellsOf x) h) fun d h1 =>
oh (newC 0 (some 1) (cellsOf l) h1) fun e h2 =>
ob (evFa 0 d) fun C =>
ob (evLd false 1 C h2) fun p =>
ob (evFa 0 e) fun v =>
ob (evLd false 1 v h2) fun r =>
ob (y6 .eql p r) fun b =>
gb b true (evFa 2 d) fun w =>
gb b true (evLd false 1 w h2) fun B =>
gb b true (evFa 2 e) fun u =>
gb b true (evLd false 1 u h2) fun z =>
gb b true (y6 .eql B z) fun o =>
ob (yb b o (.bool false)) fun c =>
gb c true (evFa 0 d) fun n =>
gb c true (evLd false 1 n h2) fun t =>
gb c true (y6 .neq t (.int .i64 9)) fun m =>
gb c true (some m) fun a =>
gb a false (evFa 3 d) fun k =>
gb a false (evLd false 1 k h2) fun g =>
gb a false (evFa 3 e) fun A =>
gb a false (evLd false 1 A h2) fun y =>
gb a false (y6 .eql g y) fun i =>
gb c true (yb a (.bool true) i) fun D =>
ob (yb c D (.bool false)) fun j =>
(yd h2 j)
def y2hq (s : St) : OX := y1ut (s 0) (s 1) s.h
theorem y1tz : T0 y166 [.t 4] y2hq := fun _ => by kernel_rfl
@[simp] theorem y2qv : E.pure 175 = true := rfl
theorem y2ns (b a : AV) : (y8 E).p 175 [b, a] = y1ut b a [⟨0, .dead⟩, ⟨0, .dead⟩] :=
  (yr (cf := y29l) (by kernel_rfl) rfl).trans ((y1tz _).trans (by kernel_rfl))
def yrm (c : AV) (h : Heap) : OX :=
ob (evFa 1 c) fun b =>
ob (evLd false 1 b h) fun a =>
(yd h a)
def y2hm (s : St) : OX := yrm (s 1) s.h
theorem y1z8 : T0 y11o [.t 2] y2hm := fun _ => by kernel_rfl
def ymx (g b : AV) (h : Heap) : OX :=
ob (y6 .eql b (AV.str [])) fun a =>
gb a false (some b) fun c =>
gb a false (y43 c (.int .i64 0)) fun i =>
gb a false (y6 .eql i (.int .u8 45)) fun e =>
ob (yb a (.bool true) e) fun d =>
cnd d
 ((yd h (.int .i64 (-1))))
 ((yrm g h))
def y2fl (s : St) : OX := ymx (s 1) (s 3) s.h
theorem y1i6 : T0 y14w [.t 2] y2fl := sq y1z8 fun _ => by kernel_rfl
def y1le (a : AV) (h : Heap) : OX :=
ob (evFa 0 a) fun d =>
ob (evLd false 1 d h) fun b =>
oh (y7 E (y8 E) 0 none true 38 [b] h) fun c h1 =>
(ymx a c h1)
def y2ff (s : St) : OX := y1le (s 1) s.h
theorem y1vw : T0 y18t [.t 2] y2ff := sq y1i6 fun _ => by kernel_rfl
def y18n (b : AV) (h : Heap) : OX :=
oh (newC 0 (some 0) (cellsOf b) h) fun a h2 =>
(y1le a h2)
def y2eo (s : St) : OX := y18n (s 0) s.h
theorem y1j9 : T0 y12e [.t 2] y2eo := sq y1vw fun _ => by kernel_rfl
@[simp] theorem y2sl : E.pure 16 = true := rfl
theorem y2m8 (a : AV) : (y8 E).p 16 [a] = y18n a [⟨0, .dead⟩] :=
  (yr (cf := y29s) (by kernel_rfl) rfl).trans ((y1j9 _).trans (by kernel_rfl))
def y1m8 (d b : AV) (h : Heap) : OX :=
ob (yn 1 b d) fun a =>
ob (evLd false 1 a h) fun c =>
(yd h c)
def y2fc (s : St) : OX := y1m8 (s 0) (s 3) s.h
theorem y1vt : T0 y19j [.t 2] y2fc := fun _ => by kernel_rfl
def y1k6 (b c : AV) (h : Heap) : OX :=
ob (y6 .lss b (.int .i64 1)) fun a =>
gb a false (some b) fun g =>
gb a false (some c) fun j =>
gb a false (yv 1 j h) fun d =>
gb a false (y6 .geq g d) fun e =>
ob (yb a (.bool true) e) fun i =>
cnd i
 ((yd h (AV.str [])))
 ((y1m8 b c h))
def y2gn (s : St) : OX := y1k6 (s 0) (s 3) s.h
theorem y1ps : T0 y12t [.t 2] y2gn := sq y1vt fun _ => by kernel_rfl
def y1w6 (b : AV) (h : Heap) : OX :=
oh (y10 0 (some 0) 1 34 [(.str [])] [(0, (AV.str [])), (1, (AV.str [110, 45, 45, 45])), (2, (AV.str [51, 45, 45, 45])), (3, (AV.str [51, 45, 45, 45])), (4, (AV.str [42, 61, 45, 45])), (5, (AV.str [63, 63, 63, 63])), (6, (AV.str [63, 63, 63, 63])), (7, (AV.str [45, 110, 45, 45])), (8, (AV.str [45, 51, 45, 45])), (9, (AV.str [45, 51, 49, 45])), (10, (AV.str [45, 49, 45, 45])), (11, (AV.str [45, 51, 51, 45])), (12, (AV.str [45, 51, 45, 45])), (13, (AV.str [42, 51, 49, 45])), (14, (AV.str [45, 51, 49, 42])), (15, (AV.str [49, 51, 45, 45])), (16, (AV.str [42, 51, 45, 45])), (17, (AV.str [45, 51, 42, 45])), (18, (AV.str [42, 45, 45, 45])), (19, (AV.str [45, 42, 45, 45])), (20, (AV.str [51, 45, 45, 45])), (21, (AV.str [51, 49, 45, 45])), (22, (AV.str [49, 51, 45, 45])), (23, (AV.str [63, 63, 63, 63])), (24, (AV.str [63, 63, 63, 63])), (25, (AV.str [63, 63, 63, 63])), (26, (AV.str [63, 63, 63, 63])), (27, (AV.str [45, 45, 45, 45])), (28, (AV.str [45, 49, 49, 45])), (29, (AV.str [45, 51, 63, 45])), (30, (AV.str [45, 63, 45, 45])), (31, (AV.str [45, 51, 45, 45])), (32, (AV.str [51, 45, 45, 45])), (33, (AV.str [45, 45, 45, 45]))] h) fun a h1 =>
(y1k6 b a h1)
def y2e5 (s : St) : OX := y1w6 (s 0) s.h
theorem y1xn : T0 y15r [.t 2] y2e5 := sq y1ps fun _ => by kernel_rfl
def y1qu (a : AV) (h : Heap) : OX :=
(y1w6 a h)
def y2gs (s : St) : OX := y1qu (s 0) s.h
theorem y1xd : T0 y13o [.t 2] y2gs := sq y1xn fun _ => by kernel_rfl
@[simp] theorem y2u4 : E.pure 38 = true := rfl
theorem y2la (a : AV) : (y8 E).p 38 [a] = y1qu a [⟨0, .dead⟩] :=
  (yr (cf := y2ap) (by kernel_rfl) rfl).trans ((y1xd _).trans (by kernel_rfl))
def ycn (c e : AV) (h : Heap) : OX :=
ob (y6 .sub c (.int .u8 48)) fun b =>
ob (y1ck .i64 b) fun d =>
ob (y6 .eql e d) fun a =>
(yd h a)
def y6o (s : St) : OX := ycn (s 2) (s 7) s.h
theorem y1j4 : T0 y15g [.t 6] y6o := fun _ => by kernel_rfl
def yb6 (e a l c : AV) (h : Heap) : OX :=
cnd c
 (ob (y6 .gtr a (.int .i64 0)) fun i =>
(yd h i))
 (ob (y6 .eql l (.int .u8 110)) fun j =>
cnd j
 (ob (y6 .eql a (.int .i64 1)) fun b =>
gb b false (some a) fun g =>
gb b false (y6 .eql g (.int .i64 2)) fun d =>
ob (yb b (.bool true) d) fun k =>
(yd h k))
 ((ycn e a h)))
def y2id (s : St) : OX := yb6 (s 2) (s 7) (s 11) (s 15) s.h
theorem y1tj : T1 y146 y6o (y4 0 y6o xN) [.t 6] y2id := fun _ => by kernel_rfl
def ycl (b d a : AV) (h : Heap) : OX :=
ob (y6 .eql a (.int .u8 42)) fun c =>
cnd c
 ((yb6 b d a c h))
 (ob (y6 .eql a (.int .u8 61)) fun e =>
(yb6 b d a e h))
def y2h8 (s : St) : OX := ycl (s 2) (s 7) (s 11) s.h
theorem y1vk : T1 y132 y6o (y4 0 y6o xN) [.t 6] y2h8 := sq y1tj fun _ => by kernel_rfl
def yab (a c d b : AV) (h : Heap) : OX :=
cnd b
 ((yd h (.bool true)))
 ((ycl a c d h))
def y2fd (s : St) : OX := yab (s 2) (s 7) (s 11) (s 12) s.h
theorem y1rf : T1 y16r y6o (y4 0 y6o xN) [.t 6] y2fd := fun s => (y1e rfl (y1vk s)).trans (by kernel_rfl)
def yck (b d a : AV) (h : Heap) : OX :=
ob (y6 .eql a (.int .u8 45)) fun c =>
cnd c
 ((yab b d a c h))
 (ob (y6 .eql a (.int .u8 63)) fun e =>
(yab b d a e h))
def y1v5 (s : St) : OX := yck (s 2) (s 7) (s 11) s.h
theorem y1in : T1 y11w y6o (y4 0 y6o xN) [.t 6] y1v5 := sq y1rf fun _ => by kernel_rfl
theorem y1vp : T1 y13w y6o xN [.t 6] y1v5 := fun s => yp.trans (y1in s)
def ycq (a b : AV) (h : Heap) : OX :=
(yck a b a h)
def y1rv (s : St) : OX := ycq (s 2) (s 7) s.h
theorem y1q1 : T1 y18x y6o xN [.t 6] y1rv := sq y1vp fun _ => by kernel_rfl
theorem y1zo : T0 y15b [.t 6] y1rv := sq y1j4 y1q1
def ycf (e b d : AV) (h : Heap) : OX :=
ob (evLd true 5 d h) fun c =>
oh (y7 E (y8 E) 0 none true 48 [c, e] h) fun a h1 =>
(ycq b a h1)
def y2dy (s : St) : OX := ycf (s 1) (s 2) (s 3) s.h
theorem y1t9 : T0 y15e [.t 6] y2dy := sq y1zo fun _ => by kernel_rfl
def y72 (d c a : AV) (h : Heap) : OX :=
oh (newC 0 (some 0) (cellsOf d) h) fun b h2 =>
(ycf c a b h2)
def y27h (s : St) : OX := y72 (s 0) (s 1) (s 2) s.h
theorem y1ea : T0 yw5 [.t 6] y27h := sq y1t9 fun _ => by kernel_rfl
@[simp] theorem y2sc : E.pure 65 = true := rfl
theorem y2o3 (c b a : AV) : (y8 E).p 65 [c, b, a] = y72 c b a [⟨0, .dead⟩] :=
  (yr (cf := y2ab) (by kernel_rfl) rfl).trans ((y1ea _).trans (by kernel_rfl))
def y20i (h : Heap) : OX :=
(yd h (.tup [(.int .i64 0), (.int .i64 0), (.int .i64 0)]))
def y2po (s : St) : OX := y20i s.h
theorem y26e : T0 y1hy [.t 2, .t 3, .t 4] y2po := fun _ => by kernel_rfl
def y277 (a c : AV) (h : Heap) : OX :=
gb c true (some a) fun j =>
gb c true (y6 .rem j (.int .i64 2)) fun k =>
gb c true (y6 .eql k (.int .i64 0)) fun p =>
ob (yb c p (.bool false)) fun u =>
cnd u
 ((yd h (.tup [(.int .i64 1), (.int .i64 1), (.int .i64 1)])))
 (ob (y6 .eql a (.int .i64 121)) fun d =>
gb d false (some a) fun B =>
gb d false (y6 .eql B (.int .i64 123)) fun x =>
ob (yb d (.bool true) x) fun g =>
gb g false (some a) fun y =>
gb g false (y6 .eql y (.int .i64 125)) fun l =>
ob (yb g (.bool true) l) fun z =>
cnd z
 ((yd h (.tup [(.int .i64 2), (.int .i64 1), (.int .i64 2)])))
 (cnd c
 ((yd h (.tup [(.int .i64 2), (.int .i64 2), (.int .i64 2)])))
 (ob (y6 .eql a (.int .i64 148)) fun v =>
cnd v
 ((yd h (.tup [(.int .i64 2), (.int .i64 2), (.int .i64 1)])))
 (ob (y6 .eql a (.int .i64 116)) fun b =>
gb b false (some a) fun o =>
gb b false (y6 .geq o (.int .i64 145)) fun A =>
gb b false (some A) fun e =>
gb e true (some a) fun n =>
gb e true (y6 .leq n (.int .i64 147)) fun r =>
gb b false (yb e r (.bool false)) fun C =>
ob (yb b (.bool true) C) fun m =>
cnd m
 ((yd h (.tup [(.int .i64 1), (.int .i64 0), (.int .i64 1)])))
 (ob (y6 .eql a (.int .i64 117)) fun t =>
cnd t
 ((yd h (.tup [(.int .i64 2), (.int .i64 0), (.int .i64 2)])))
 (ob (y6 .eql a (.int .i64 133)) fun w =>
cnd w
 ((yd h (.tup [(.int .i64 1), (.int .i64 0), (.int .i64 2)])))
 (ob (y6 .eql a (.int .i64 136)) fun i =>
cnd i
 ((yd h (.tup [(.int .i64 2), (.int .i64 0), (.int .i64 1)])))
 ((y20i h)))))))))
def y2l9 (s : St) : OX := y277 (s 0) (s 5) s.h
theorem y23p : T0 y1je [.t 2, .t 3, .t 4] y2l9 := sq y26e fun _ => by kernel_rfl
def y278 (a : AV) (h : Heap) : OX :=
ob (y6 .geq a (.int .i64 96)) fun e =>
gb e true (some a) fun k =>
gb e true (y6 .leq k (.int .i64 113)) fun i =>
ob (yb e i (.bool false)) fun c =>
gb c true (some a) fun n =>
gb c true (y6 .rem n (.int .i64 4)) fun m =>
gb c true (y6 .lss m (.int .i64 2)) fun j =>
ob (yb c j (.bool false)) fun b =>
gb b false (some a) fun t =>
gb b false (y6 .geq t (.int .i64 120)) fun l =>
gb b false (some l) fun d =>
gb d true (some a) fun o =>
gb d true (y6 .leq o (.int .i64 131)) fun r =>
gb b false (yb d r (.bool false)) fun g =>
ob (yb b (.bool true) g) fun p =>
(y277 a p h)
def y2q3 (s : St) : OX := y278 (s 0) s.h
theorem y21d : T0 y1nn [.t 2, .t 3, .t 4] y2q3 := sq y23p fun _ => by kernel_rfl
def y24q (a : AV) (h : Heap) : OX :=
(y278 a h)
def y2pc (s : St) : OX := y24q (s 0) s.h
theorem y22u : T0 y1ok [.t 2, .t 3, .t 4] y2pc := sq y21d fun _ => by kernel_rfl
@[simp] theorem y2u6 : E.pure 66 = true := rfl
theorem y2s3 (a : AV) : (y8 E).p 66 [a] = y24q a [] :=
  (yr (cf := y2q4) (by kernel_rfl) rfl).trans ((y22u _).trans (by kernel_rfl))
def yi7 (c : AV) (h : Heap) : OX :=
ob (yv 0 c h) fun g =>
ob (y6 .gtr g (.int .i64 2)) fun d =>
gb d true (some c) fun l =>
gb d true (y43 l (.int .i64 0)) fun v =>
gb d true (y6 .eql v (.int .u8 76)) fun w =>
ob (yb d w (.bool false)) fun a =>
gb a true (some c) fun y =>
gb a true (some c) fun p =>
gb a true (yv 0 p h) fun u =>
gb a true (y6 .sub u (.int .i64 1)) fun k =>
gb a true (y43 y k) fun t =>
gb a true (y6 .eql t (.int .u8 59)) fun i =>
ob (yb a i (.bool false)) fun b =>
gb b true (some c) fun n =>
gb b true (some c) fun x =>
gb b true (yv 0 x h) fun e =>
gb b true (y6 .sub e (.int .i64 1)) fun m =>
gb b true (ydo n (some (.int .i64 1)) (some m)) fun o =>
gh b true (y7 E (y8 E) 0 none true 69 [o, (.bool false)] h) h fun r h1 =>
ob (yb b r (.bool false)) fun j =>
(yd h1 j)
def y2bs (s : St) : OX := yi7 (s 0) s.h
theorem y1y8 : T0 y1bh [.t 2] y2bs := fun _ => by kernel_rfl
def yes (a : AV) (h : Heap) : OX :=
ob (y6 .eql a (AV.str [73])) fun b =>
gb b false (some a) fun e =>
gb b false (y6 .eql e (AV.str [74])) fun d =>
ob (yb b (.bool true) d) fun c =>
cnd c
 ((yd h (.bool true)))
 ((yi7 a h))
def y2fg (s : St) : OX := yes (s 0) s.h
theorem y1p0 : T0 y15c [.t 2] y2fg := sq y1y8 fun _ => by kernel_rfl
def ys2 (c b : AV) (h : Heap) : OX :=
ob (y6 .gtr b (.int .i64 8)) fun a =>
cnd a
 ((yd h (.bool false)))
 ((yes c h))
def y2fo (s : St) : OX := ys2 (s 0) (s 3) s.h
theorem y1q7 : T0 y1bt [.t 2] y2fo := sq y1p0 fun _ => by kernel_rfl
def ymp (c a : AV) (h : Heap) : OX :=
ob (ydo c (some a) none) fun b =>
(ys2 b a h)
def yb9 (s : St) : OX := ymp (s 0) (s 3) s.h
theorem y1pe : T0 y116 [.t 2] yb9 := sq y1q7 fun _ => by kernel_rfl
def yfp (b a : AV) (h : Heap) : OX :=
  W E 0 yin ⟨[(0, b), (3, a)], h⟩ yb9 (y4 0 yb9 xN) (finP [.t 2])
def yc4 (s : St) : OX := yfp (s 0) (s 3) s.h
theorem yn2 : T1 yin yb9 (y4 0 yb9 xN) [.t 2] yc4 := fun s => yf.trans (by kernel_rfl)
def y11g (c b : AV) (h : Heap) : OX :=
ob (y6 .add b (.int .i64 1)) fun a =>
(yfp c a h)
def y2jt (s : St) : OX := y11g (s 0) (s 3) s.h
theorem y1xs : T1 y1ap yc4 (y4 0 yb9 xN) [.t 2] y2jt := fun _ => by kernel_rfl
def yod (b c : AV) (h : Heap) : OX :=
ob (yv 0 b h) fun e =>
ob (y6 .lss c e) fun a =>
gb a true (some b) fun k =>
gb a true (some c) fun d =>
gb a true (y43 k d) fun g =>
gb a true (y6 .eql g (.int .u8 91)) fun j =>
ob (yb a j (.bool false)) fun i =>
cnd i
 ((y11g b c h))
 ((ymp b c h))
def y2gg (s : St) : OX := yod (s 0) (s 3) s.h
theorem y1yu : T1 y143 yc4 (y4 0 yb9 xN) [.t 2] y2gg := sq y1xs fun _ => by kernel_rfl
theorem ymt (b a : AV) (h : Heap) : yfp b a h = (yod b a h) :=
  y1q.trans ((y14 _ _ _ (n' := yc4) (fun s => yn2 s)).trans ((y1yu _).trans (by kernel_rfl)))
theorem y1tm : T1 y18r yb9 xN [.t 2] yc4 := fun s => yp.trans (yn2 s)
theorem y1sz : T0 y172 [.t 2] yc4 := sq y1pe y1tm
def y0b (a : AV) (h : Heap) : OX :=
(yfp a (.int .i64 0) h)
def y27f (s : St) : OX := y0b (s 0) s.h
theorem y1el : T0 yth [.t 2] y27f := sq y1sz fun _ => by kernel_rfl
def yr9 (a : AV) (h : Heap) : OX :=
(y0b a h)
def y27w (s : St) : OX := yr9 (s 0) s.h
theorem y1ej : T0 yxp [.t 2] y27w := sq y1el fun _ => by kernel_rfl
@[simp] theorem y2th : E.pure 67 = true := rfl
theorem y2m3 (a : AV) : (y8 E).p 67 [a] = yr9 a [] :=
  (yr (cf := y2a2) (by kernel_rfl) rfl).trans ((y1ej _).trans (by kernel_rfl))
def y5g (p d : AV) (h : Heap) : OX :=
ob (evFa 0 d) fun r =>
ob (evLd false 1 r h) fun v =>
ob (y6 .neq v (.int .i64 24)) fun c =>
gb c true (evFa 0 d) fun i =>
gb c true (evLd false 1 i h) fun l =>
gb c true (y6 .neq l (.int .i64 25)) fun z =>
ob (yb c z (.bool false)) fun b =>
gb b false (evFa 8 d) fun m =>
gb b false (evLd false 1 m h) fun A =>
gb b false (yv 1 A h) fun j =>
gb b false (y6 .gtr j (.int .i64 0)) fun k =>
gb b false (some k) fun a =>
gb a true (evLd true 5 p h) fun n =>
gb a true (evFa 8 d) fun y =>
gb a true (evLd false 1 y h) fun o =>
gb a true (yn 1 o (.int .i64 0)) fun u =>
gb a true (evLd false 1 u h) fun t =>
gh a true (y7 E (y8 E) 0 none true 48 [n, t] h) h fun e h1 =>
gb a true (y6 .eql e (.int .i64 3)) fun g =>
gb b false (yb a g (.bool false)) fun x =>
ob (yb b (.bool true) x) fun w =>
(yd h1 w)
def y7b (s : St) : OX := y5g (s 2) (s 3) s.h
theorem y1vy : T0 y11q [.t 4] y7b := fun _ => by kernel_rfl
def yj0 (a c b : AV) (h : Heap) : OX :=
  W E 0 yj9 ⟨[(2, a), (3, c), (5, b)], h⟩ y7b (y4 0 y7b xN) (finP [.t 4])
def ybo (s : St) : OX := yj0 (s 2) (s 3) (s 5) s.h
theorem ypc : T1 yj9 y7b (y4 0 y7b xN) [.t 4] ybo := fun s => yf.trans (by kernel_rfl)
def y9y (a d b : AV) (h : Heap) : OX :=
ob (y6 .add b (.int .i64 1)) fun c =>
(yj0 a d c h)
def y2dt (s : St) : OX := y9y (s 2) (s 3) (s 5) s.h
theorem y1ub : T1 y169 ybo (y4 0 y7b xN) [.t 4] y2dt := fun _ => by kernel_rfl
def y7n (a b c : AV) (h : Heap) : OX :=
ob (evLd true 5 a h) fun l =>
ob (evFa 8 b) fun i =>
ob (evLd false 1 i h) fun j =>
ob (yn 1 j c) fun e =>
ob (evLd false 1 e h) fun g =>
oh (y7 E (y8 E) 0 none true 48 [l, g] h) fun k h2 =>
ob (y6 .eql k (.int .i64 0)) fun d =>
cnd d
 ((yd h2 (.bool false)))
 ((y9y a b c h2))
def y2ei (s : St) : OX := y7n (s 2) (s 3) (s 5) s.h
theorem y1xt : T1 y11z ybo (y4 0 y7b xN) [.t 4] y2ei := sq y1ub fun _ => by kernel_rfl
def y6r (b a c : AV) (h : Heap) : OX :=
ob (evFa 8 a) fun e =>
ob (evLd false 1 e h) fun d =>
ob (yv 1 d h) fun i =>
ob (y6 .lss c i) fun g =>
cnd g
 ((y7n b a c h))
 ((y5g b a h))
def y2ce (s : St) : OX := y6r (s 2) (s 3) (s 5) s.h
theorem y1xp : T1 y11s ybo (y4 0 y7b xN) [.t 4] y2ce := sq y1xt fun _ => by kernel_rfl
theorem ym6 (a c b : AV) (h : Heap) : yj0 a c b h = (y6r a c b h) :=
  y1q.trans ((y14 _ _ _ (n' := ybo) (fun s => ypc s)).trans ((y1xp _).trans (by kernel_rfl)))
theorem y1p5 : T1 y0u y7b xN [.t 4] ybo := fun s => yp.trans (ypc s)
def yau (a b : AV) (h : Heap) : OX :=
(yj0 a b (.int .i64 0) h)
def y1p3 (s : St) : OX := yau (s 2) (s 3) s.h
theorem y20f : T1 y11r y7b xN [.t 4] y1p3 := sq y1p5 fun _ => by kernel_rfl
theorem y1uf : T0 y151 [.t 4] y1p3 := sq y1vy y20f
def yb0 (g a : AV) (h : Heap) : OX :=
ob (evFa 5 a) fun w =>
ob (evLd false 1 w h) fun y =>
ob (y6 .lss y (.int .i64 0)) fun e =>
gb e true (evFa 0 a) fun u =>
gb e true (evLd false 1 u h) fun z =>
gb e true (y6 .neq z (.int .i64 25)) fun B =>
ob (yb e B (.bool false)) fun d =>
gb d false (evFa 8 a) fun v =>
gb d false (evLd false 1 v h) fun x =>
gb d false (yv 1 x h) fun j =>
gb d false (y6 .gtr j (.int .i64 21)) fun t =>
ob (yb d (.bool true) t) fun b =>
gb b false (evFa 1 a) fun r =>
gb b false (evLd false 1 r h) fun n =>
gb b false (y6 .neq n (.int .i64 (-1))) fun i =>
gb b false (some i) fun c =>
gb c true (evLd true 5 g h) fun A =>
gb c true (evFa 1 a) fun k =>
gb c true (evLd false 1 k h) fun C =>
gh c true (y7 E (y8 E) 0 none true 48 [A, C] h) h fun l h3 =>
gb c true (y6 .eql l (.int .i64 0)) fun m =>
gb b false (yb c m (.bool false)) fun o =>
ob (yb b (.bool true) o) fun p =>
cnd p
 ((yd h3 (.bool false)))
 ((yau g a h3))
def y2i0 (s : St) : OX := yb0 (s 2) (s 3) s.h
theorem y1m4 : T0 y12r [.t 4] y2i0 := sq y1uf fun _ => by kernel_rfl
def y69 (d c : AV) (h : Heap) : OX :=
oh (newC 0 (some 0) (cellsOf d) h) fun a h4 =>
oh (newC 0 (some 1) (cellsOf c) h4) fun b h5 =>
(yb0 a b h5)
def y22y (s : St) : OX := y69 (s 0) (s 1) s.h
theorem y1g3 : T0 yve [.t 4] y22y := sq y1m4 fun _ => by kernel_rfl
@[simp] theorem y2t5 : E.pure 68 = true := rfl
theorem y2m2 (b a : AV) : (y8 E).p 68 [b, a] = y69 b a [⟨0, .dead⟩, ⟨0, .dead⟩] :=
  (yr (cf := y2ae) (by kernel_rfl) rfl).trans ((y1g3 _).trans (by kernel_rfl))
def y2fb (h : Heap) : OX :=
(yd h (.tup [(.int .i64 0), (.int .i64 0), (.int .i64 0)]))
def y3r (s : St) : OX := y2fb s.h
theorem y284 : T0 y1wj [.t 2, .t 3, .t 4] y3r := fun _ => by kernel_rfl
def y1cf (a c : AV) (h : Heap) : OX :=
cnd c
 ((yd h (.tup [(.int .i64 1), (.int .i64 0), (.int .i64 1)])))
 (ob (y6 .eql a (.int .i64 117)) fun e =>
cnd e
 ((yd h (.tup [(.int .i64 2), (.int .i64 0), (.int .i64 2)])))
 (ob (y6 .eql a (.int .i64 133)) fun d =>
cnd d
 ((yd h (.tup [(.int .i64 1), (.int .i64 0), (.int .i64 2)])))
 (ob (y6 .eql a (.int .i64 136)) fun b =>
cnd b
 ((yd h (.tup [(.int .i64 2), (.int .i64 0), (.int .i64 1)])))
 ((y2fb h)))))
def y2le (s : St) : OX := y1cf (s 5) (s 33) s.h
theorem y28m : T1 y1oa y3r (y4 0 y3r xN) [.t 2, .t 3, .t 4] y2le := fun _ => by kernel_rfl
def y2hb (a : AV) (h : Heap) : OX :=
ob (y6 .eql a (.int .i64 116)) fun b =>
cnd b
 ((y1cf a b h))
 (ob (y6 .eql a (.int .i64 145)) fun d =>
cnd d
 ((y1cf a d h))
 (ob (y6 .eql a (.int .i64 146)) fun c =>
cnd c
 ((y1cf a c h))
 (ob (y6 .eql a (.int .i64 147)) fun e =>
(y1cf a e h))))
def y2pp (s : St) : OX := y2hb (s 5) s.h
theorem y227 : T1 y1yl y3r (y4 0 y3r xN) [.t 2, .t 3, .t 4] y2pp := sq y28m fun _ => by kernel_rfl
def y2jo (b a : AV) (h : Heap) : OX :=
cnd a
 ((yd h (.tup [(.int .i64 2), (.int .i64 2), (.int .i64 1)])))
 ((y2hb b h))
def y2kx (s : St) : OX := y2jo (s 5) (s 31) s.h
theorem y28b : T1 y1oy y3r (y4 0 y3r xN) [.t 2, .t 3, .t 4] y2kx := fun s => (y1e rfl (y227 s)).trans (by kernel_rfl)
def y2f1 (a : AV) (h : Heap) : OX :=
ob (y6 .eql a (.int .i64 148)) fun b =>
(y2jo a b h)
def y2ln (s : St) : OX := y2f1 (s 5) s.h
theorem y23t : T1 y1jc y3r (y4 0 y3r xN) [.t 2, .t 3, .t 4] y2ln := sq y28b fun _ => by kernel_rfl
def y1s5 (a b : AV) (h : Heap) : OX :=
cnd b
 ((yd h (.tup [(.int .i64 2), (.int .i64 1), (.int .i64 2)])))
 ((y2f1 a h))
def y2pt (s : St) : OX := y1s5 (s 5) (s 27) s.h
theorem y25p : T1 y1yy y3r (y4 0 y3r xN) [.t 2, .t 3, .t 4] y2pt := fun s => (y1e rfl (y23t s)).trans (by kernel_rfl)
def y2f7 (a : AV) (h : Heap) : OX :=
ob (y6 .eql a (.int .i64 121)) fun c =>
cnd c
 ((y1s5 a c h))
 (ob (y6 .eql a (.int .i64 123)) fun b =>
cnd b
 ((y1s5 a b h))
 (ob (y6 .eql a (.int .i64 125)) fun d =>
(y1s5 a d h)))
def y2m9 (s : St) : OX := y2f7 (s 5) s.h
theorem y28s : T1 y1zi y3r (y4 0 y3r xN) [.t 2, .t 3, .t 4] y2m9 := sq y25p fun _ => by kernel_rfl
def ym2 (a b : AV) (h : Heap) : OX :=
cnd b
 ((yd h (.tup [(.int .i64 2), (.int .i64 2), (.int .i64 2)])))
 ((y2f7 a h))
def y2oq (s : St) : OX := ym2 (s 5) (s 18) s.h
theorem y280 : T1 y1xq y3r (y4 0 y3r xN) [.t 2, .t 3, .t 4] y2oq := fun s => (y1e rfl (y28s s)).trans (by kernel_rfl)
def y2cr (a : AV) (h : Heap) : OX :=
ob (y6 .eql a (.int .i64 97)) fun e =>
cnd e
 ((ym2 a e h))
 (ob (y6 .eql a (.int .i64 101)) fun c =>
cnd c
 ((ym2 a c h))
 (ob (y6 .eql a (.int .i64 105)) fun g =>
cnd g
 ((ym2 a g h))
 (ob (y6 .eql a (.int .i64 109)) fun j =>
cnd j
 ((ym2 a j h))
 (ob (y6 .eql a (.int .i64 113)) fun b =>
cnd b
 ((ym2 a b h))
 (ob (y6 .eql a (.int .i64 127)) fun i =>
cnd i
 ((ym2 a i h))
 (ob (y6 .eql a (.int .i64 129)) fun d =>
cnd d
 ((ym2 a d h))
 (ob (y6 .eql a (.int .i64 131)) fun k =>
(ym2 a k h))))))))
def y2oa (s : St) : OX := y2cr (s 5) s.h
theorem y21m : T1 y1ye y3r (y4 0 y3r xN) [.t 2, .t 3, .t 4] y2oa := sq y280 fun _ => by kernel_rfl
def y7r (a b : AV) (h : Heap) : OX :=
cnd b
 ((yd h (.tup [(.int .i64 1), (.int .i64 1), (.int .i64 1)])))
 ((y2cr a h))
def y2d8 (s : St) : OX := y7r (s 5) (s 6) s.h
theorem y1m9 : T1 y142 y3r (y4 0 y3r xN) [.t 2, .t 3, .t 4] y2d8 := fun s => (y1e rfl (y21m s)).trans (by kernel_rfl)
def y1hw (a : AV) (h : Heap) : OX :=
ob (y6 .eql a (.int .i64 96)) fun l =>
cnd l
 ((y7r a l h))
 (ob (y6 .eql a (.int .i64 100)) fun e =>
cnd e
 ((y7r a e h))
 (ob (y6 .eql a (.int .i64 104)) fun m =>
cnd m
 ((y7r a m h))
 (ob (y6 .eql a (.int .i64 108)) fun b =>
cnd b
 ((y7r a b h))
 (ob (y6 .eql a (.int .i64 112)) fun d =>
cnd d
 ((y7r a d h))
 (ob (y6 .eql a (.int .i64 120)) fun k =>
cnd k
 ((y7r a k h))
 (ob (y6 .eql a (.int .i64 122)) fun j =>
cnd j
 ((y7r a j h))
 (ob (y6 .eql a (.int .i64 124)) fun i =>
cnd i
 ((y7r a i h))
 (ob (y6 .eql a (.int .i64 126)) fun c =>
cnd c
 ((y7r a c h))
 (ob (y6 .eql a (.int .i64 128)) fun g =>
cnd g
 ((y7r a g h))
 (ob (y6 .eql a (.int .i64 130)) fun n =>
(y7r a n h)))))))))))
def y1j7 (s : St) : OX := y1hw (s 5) s.h
theorem y1sv : T1 y19f y3r (y4 0 y3r xN) [.t 2, .t 3, .t 4] y1j7 := sq y1m9 fun _ => by kernel_rfl
theorem y1xc : T1 y19k y3r xN [.t 2, .t 3, .t 4] y1j7 := fun s => yp.trans (y1sv s)
def y1is (a : AV) (h : Heap) : OX :=
(y1hw a h)
def y1k8 (s : St) : OX := y1is (s 0) s.h
theorem y1ix : T1 y1aq y3r xN [.t 2, .t 3, .t 4] y1k8 := sq y1xc fun _ => by kernel_rfl
theorem y1st : T0 y194 [.t 2, .t 3, .t 4] y1k8 := sq y284 y1ix
def y1ky (a : AV) (h : Heap) : OX :=
(y1is a h)
def y2i7 (s : St) : OX := y1ky (s 0) s.h
theorem y1u0 : T0 y17h [.t 2, .t 3, .t 4] y2i7 := sq y1st fun _ => by kernel_rfl
@[simp] theorem y2sg : E.pure 50 = true := rfl
theorem y2ti (a : AV) : (y8 E).p 50 [a] = y1ky a [] :=
  (yr (cf := y2mg) (by kernel_rfl) rfl).trans ((y1u0 _).trans (by kernel_rfl))
def q8_1 (b : AV) (h : Heap) : OX :=
ob (y6 .neq b (AV.str [])) fun a =>
gb a true (some b) fun d =>
gh a true (y7 E (y8 E) 0 none true 44 [d] h) h fun j h1 =>
gb a true (some b) fun g =>
gb a true (yv 0 g h1) fun i =>
gb a true (y6 .eql j i) fun c =>
ob (yb a c (.bool false)) fun e =>
(yd h1 e)
def y2sf (s : St) : OX := q8_1 (s 0) s.h
theorem y2cg : T0 y29x [.t 2] y2sf := fun _ => by kernel_rfl
@[simp] theorem y2sq : E.pure 37 = true := rfl
theorem x_q8 (a : AV) : (y8 E).p 37 [a] = q8_1 a [] :=
  (yr (cf := c_q8) (by kernel_rfl) rfl).trans ((y2cg _).trans (by kernel_rfl))
def yyb (a : AV) (h : Heap) : OX :=
ob (yx [(.int .i64 0), (.int .i64 0), (.int .i64 0), (.int .i64 0)] []) fun b =>
oh (evSt 4 a b h) fun _ h1 =>
(ob (evLd true 4 a h1) fun r0 =>
  yd h1 (.tup [r0, (.bool false)]))
def y2l (s : St) : OX := yyb (s 2) s.h
theorem y23j : T0 y1ld [.cell 2 true 4, .t 3] y2l := fun _ => by kernel_rfl
def yw7 (e b m : AV) (h : Heap) : OX :=
ob (yx [(.int .i64 0), (.int .i64 0), (.int .i64 0), (.int .i64 0)] [(0, 1, (.int .i64 (-1))), (1, 1, (.int .i64 3)), (2, 1, m), (3, 1, (.int .i64 (-1)))]) fun i =>
ob (evFa 5 e) fun c =>
ob (evLd false 1 c h) fun l =>
ob (y6 .eql l (.int .i64 0)) fun a =>
ofp (fgd a false (some ([], []))) fun f6 =>
gb a false (evFa 5 e) fun d =>
ofp (fgd a false (some (ids1 d, []))) fun f7 =>
gb a false (evLd false 1 d h) fun k =>
ofp (fgd a false (some ([], []))) fun f8 =>
gb a false (y6 .eql k (.int .i64 1)) fun g =>
ob (yb a (.bool true) g) fun j =>
oh (evSt 4 b i h) fun _ h2 =>
okK (ye [([], []), ([], []), ([], []), (ids1 c, []), ([], []), ([], []), f6, f7, f8, ([], []), ([], ids1 b), ([], [])] [(7, 10)]) <|
(ob (evLd true 4 b h2) fun r0 =>
  yd h2 (.tup [r0, j]))
def y2m1 (s : St) : OX := yw7 (s 1) (s 2) (s 4) s.h
theorem y210 : T1 y1y9 y2l (y4 0 y2l xN) [.cell 2 true 4, .t 3] y2m1 := fun _ => by kernel_rfl
def yy9 (a b g : AV) (h : Heap) : OX :=
ob (evFa 3 a) fun e =>
ob (evLd false 1 e h) fun d =>
ob (y6 .neq d (.int .i64 (-1))) fun c =>
cnd c
 ((yw7 a b (.int .i64 3) h))
 ((yw7 a b g h))
def y2o9 (s : St) : OX := yy9 (s 1) (s 2) (s 4) s.h
theorem y27x : T1 y1ms y2l (y4 0 y2l xN) [.cell 2 true 4, .t 3] y2o9 := sq y210 fun _ => by kernel_rfl
def yys (b a : AV) (h : Heap) : OX :=
(yy9 b a (.int .i64 (-1)) h)
def y2ny (s : St) : OX := yys (s 1) (s 2) s.h
theorem y25s : T1 y1iw y2l (y4 0 y2l xN) [.cell 2 true 4, .t 3] y2ny := sq y27x fun _ => by kernel_rfl
def yrk (a b : AV) (h : Heap) : OX :=
ob (yx [(.int .i64 0), (.int .i64 0), (.int .i64 0), (.int .i64 0)] [(0, 1, (.int .i64 (-1))), (1, 1, b), (2, 1, (.int .i64 (-1))), (3, 1, (.int .i64 (-1)))]) fun c =>
oh (evSt 4 a c h) fun _ h3 =>
(ob (evLd true 4 a h3) fun r0 =>
  yd h3 (.tup [r0, (.bool true)]))
def y2lw (s : St) : OX := yrk (s 2) (s 5) s.h
theorem y218 : T1 y1zf y2l (y4 0 y2l xN) [.cell 2 true 4, .t 3] y2lw := fun _ => by kernel_rfl
def yyg (g a d : AV) (h : Heap) : OX :=
ob (evFa 2 g) fun e =>
ob (evLd false 1 e h) fun b =>
ob (y6 .neq b (.int .i64 (-1))) fun c =>
cnd c
 ((yrk a (.int .i64 0) h))
 ((yrk a d h))
def y2lo (s : St) : OX := yyg (s 1) (s 2) (s 5) s.h
theorem y23c : T1 y1yo y2l (y4 0 y2l xN) [.cell 2 true 4, .t 3] y2lo := sq y218 fun _ => by kernel_rfl
def yze (b a : AV) (h : Heap) : OX :=
(yyg b a (.int .i64 (-1)) h)
def y2oz (s : St) : OX := yze (s 1) (s 2) s.h
theorem y24c : T1 y1ip y2l (y4 0 y2l xN) [.cell 2 true 4, .t 3] y2oz := sq y23c fun _ => by kernel_rfl
def yxe (d i D : AV) (h : Heap) : OX :=
ob (evFa 0 d) fun G =>
ob (evLd false 1 G h) fun r =>
ob (y6 .eql r (.int .i64 23)) fun g =>
gb g false (evFa 0 d) fun z =>
gb g false (evLd false 1 z h) fun I =>
gb g false (y6 .eql I (.int .i64 26)) fun n =>
ob (yb g (.bool true) n) fun e =>
gb e false (evFa 8 d) fun F =>
gb e false (evLd false 1 F h) fun t =>
gb e false (yv 1 t h) fun p =>
gb e false (y6 .gtr p (.int .i64 0)) fun w =>
ob (yb e (.bool true) w) fun a =>
ob (yx [(.int .i64 0), (.int .i64 0), (.int .i64 0), (.int .i64 0)] [(0, 1, D), (1, 1, (.int .i64 (-1))), (2, 1, (.int .i64 (-1))), (3, 1, (.int .i64 (-1)))]) fun v =>
ofp (fgd a true (some ([], []))) fun f4 =>
gb a true (evFa 5 d) fun j =>
ofp (fgd a true (some (ids1 j, []))) fun f5 =>
gb a true (evLd false 1 j h) fun u =>
ofp (fgd a true (some ([], []))) fun f6 =>
gb a true (y6 .geq u (.int .i64 0)) fun C =>
ofp (fgd a true (some ([], []))) fun f7 =>
gb a true (some C) fun c =>
ofp (fgd c false (some ([], []))) fun f8 =>
gb c false (evFa 0 d) fun m =>
ofp (fgd c false (some (ids1 m, []))) fun f9 =>
gb c false (evLd false 1 m h) fun y =>
ofp (fgd c false (some ([], []))) fun f10 =>
gb c false (y6 .eql y (.int .i64 25)) fun B =>
ofp (fgd a true (some ([], []))) fun f11 =>
gb a true (yb c (.bool true) B) fun A =>
ob (yb a A (.bool false)) fun b =>
ofp (fgd b true (some ([], []))) fun f14 =>
gb b true (evFa 8 d) fun l =>
ofp (fgd b true (some (ids1 l, []))) fun f15 =>
gb b true (evLd false 1 l h) fun k =>
ofp (fgd b true (some (ids1 k, []))) fun f16 =>
gb b true (yv 1 k h) fun H =>
ofp (fgd b true (some ([], []))) fun f17 =>
gb b true (y6 .leq H (.int .i64 21)) fun x =>
ob (yb b x (.bool false)) fun o =>
oh (evSt 4 i v h) fun _ h4 =>
okK (ye [([], []), ([], []), ([], []), ([], []), f4, f5, f6, f7, f8, f9, f10, f11, ([], []), ([], []), f14, f15, f16, f17, ([], []), ([], ids1 i), ([], [])] [(15, 19), (16, 19)]) <|
(ob (evLd true 4 i h4) fun r0 =>
  yd h4 (.tup [r0, o]))
def y2pz (s : St) : OX := yxe (s 1) (s 2) (s 6) s.h
theorem y234 : T1 y1jl y2l (y4 0 y2l xN) [.cell 2 true 4, .t 3] y2pz := fun _ => by kernel_rfl
def yyd (a b c : AV) (h : Heap) : OX :=
ob (evFa 1 a) fun d =>
ob (evLd false 1 d h) fun g =>
ob (y6 .neq g (.int .i64 (-1))) fun e =>
cnd e
 ((yxe a b (.int .i64 0) h))
 ((yxe a b c h))
def y2my (s : St) : OX := yyd (s 1) (s 2) (s 6) s.h
theorem y26p : T1 y1wh y2l (y4 0 y2l xN) [.cell 2 true 4, .t 3] y2my := sq y234 fun _ => by kernel_rfl
def yl1 (b a : AV) (h : Heap) : OX :=
(yyd b a (.int .i64 (-1)) h)
def y2br (s : St) : OX := yl1 (s 1) (s 2) s.h
theorem y1ov : T1 y141 y2l (y4 0 y2l xN) [.cell 2 true 4, .t 3] y2br := sq y26p fun _ => by kernel_rfl
def ych (c a b : AV) (h : Heap) : OX :=
cnd b
 ((yl1 c a h))
 ((yyb a h))
def y2hh (s : St) : OX := ych (s 1) (s 2) (s 32) s.h
theorem y1k0 : T1 y18f y2l (y4 0 y2l xN) [.cell 2 true 4, .t 3] y2hh := fun s => (y1e (y1ov s) rfl).trans (by kernel_rfl)
def ylp (b a c : AV) (h : Heap) : OX :=
ob (y6 .eql c (.int .i64 23)) fun e =>
cnd e
 ((ych b a e h))
 (ob (y6 .eql c (.int .i64 24)) fun d =>
cnd d
 ((ych b a d h))
 (ob (y6 .eql c (.int .i64 25)) fun g =>
cnd g
 ((ych b a g h))
 (ob (y6 .eql c (.int .i64 26)) fun i =>
(ych b a i h))))
def y2d3 (s : St) : OX := ylp (s 1) (s 2) (s 9) s.h
theorem y1yn : T1 y18o y2l (y4 0 y2l xN) [.cell 2 true 4, .t 3] y2d3 := sq y1k0 fun _ => by kernel_rfl
def yle (b a d c : AV) (h : Heap) : OX :=
cnd c
 ((yze b a h))
 ((ylp b a d h))
def y2cs (s : St) : OX := yle (s 1) (s 2) (s 9) (s 25) s.h
theorem y1zr : T1 y15t y2l (y4 0 y2l xN) [.cell 2 true 4, .t 3] y2cs := fun s => (y1e (y24c s) (y1yn s)).trans (by kernel_rfl)
def yio (d b a : AV) (h : Heap) : OX :=
ob (y6 .eql a (.int .i64 30)) fun c =>
(yle d b a c h)
def y2j8 (s : St) : OX := yio (s 1) (s 2) (s 9) s.h
theorem y1u4 : T1 y16v y2l (y4 0 y2l xN) [.cell 2 true 4, .t 3] y2j8 := sq y1zr fun _ => by kernel_rfl
def yka (b a d c : AV) (h : Heap) : OX :=
cnd c
 ((yys b a h))
 ((yio b a d h))
def y2f4 (s : St) : OX := yka (s 1) (s 2) (s 9) (s 10) s.h
theorem y1rs : T1 y15j y2l (y4 0 y2l xN) [.cell 2 true 4, .t 3] y2f4 := fun s => (y1e (y25s s) (y1u4 s)).trans (by kernel_rfl)
def yjm (d b a : AV) (h : Heap) : OX :=
ob (y6 .eql a (.int .i64 29)) fun c =>
(yka d b a c h)
def y1rz (s : St) : OX := yjm (s 1) (s 2) (s 9) s.h
theorem y1sc : T1 y19s y2l (y4 0 y2l xN) [.cell 2 true 4, .t 3] y1rz := sq y1rs fun _ => by kernel_rfl
theorem y1rm : T1 y17y y2l xN [.cell 2 true 4, .t 3] y1rz := fun s => yp.trans (y1sc s)
def yjw (a b : AV) (h : Heap) : OX :=
ob (evFa 0 a) fun c =>
ob (evLd false 1 c h) fun d =>
(yjm a b d h)
def y1o3 (s : St) : OX := yjw (s 1) (s 2) s.h
theorem y1n5 : T1 y16t y2l xN [.cell 2 true 4, .t 3] y1o3 := sq y1rm fun _ => by kernel_rfl
theorem y1yb : T0 y129 [.cell 2 true 4, .t 3] y1o3 := sq y23j y1n5
def yht (c : AV) (h : Heap) : OX :=
oh (newC 0 (some 0) (cellsOf c) h) fun b h5 =>
oh (newC 0 (some 1) [(.int .i64 0), (.int .i64 0), (.int .i64 0), (.int .i64 0)] h5) fun a h6 =>
(yjw b a h6)
def y2il (s : St) : OX := yht (s 0) s.h
theorem y1z6 : T0 y14e [.cell 2 true 4, .t 3] y2il := sq y1yb fun _ => by kernel_rfl
@[simp] theorem y2u8 : E.pure 51 = true := rfl
theorem y22c (a : AV) : (y8 E).p 51 [a] = yht a [⟨0, .dead⟩, ⟨0, .dead⟩] :=
  (yr (cf := y2lu) (by kernel_rfl) rfl).trans ((y1z6 _).trans (by kernel_rfl))
def y1i9 (a : AV) (h : Heap) : OX :=
(yd h a)
def y40 (s : St) : OX := y1i9 (s 5) s.h
theorem y1w9 : T0 y17n [.t 4] y40 := fun _ => by kernel_rfl
def yiy (d a b c : AV) (h : Heap) : OX :=
  W E 0 ylh ⟨[(1, d), (2, a), (5, b), (6, c)], h⟩ y40 (y4 0 y40 xN) (finP [.t 4])
def ybz (s : St) : OX := yiy (s 1) (s 2) (s 5) (s 6) s.h
theorem yp1 : T1 ylh y40 (y4 0 y40 xN) [.t 4] ybz := fun s => yf.trans (by kernel_rfl)
def yoq (e b d a : AV) (h : Heap) : OX :=
ob (y6 .add a (.int .i64 1)) fun c =>
(yiy e b d c h)
def y5j (s : St) : OX := yoq (s 1) (s 2) (s 5) (s 6) s.h
theorem y20e : T1 y158 ybz (y4 0 y40 xN) [.t 4] y5j := fun _ => by kernel_rfl
def yow (g e a c j : AV) (h : Heap) : OX :=
ob (evFa 3 j) fun i =>
ob (evLd false 1 i h) fun b =>
ob (y6 .eql b (AV.str [])) fun d =>
cnd d
 ((yd h a))
 ((yoq g e a c h))
def y2k5 (s : St) : OX := yow (s 1) (s 2) (s 5) (s 6) (s 7) s.h
theorem y1vs : T1 y1b4 y5j (y4 1 y5j (y4 0 y40 xN)) [.t 4] y2k5 := fun _ => by kernel_rfl
def y17m (e d b c a : AV) (h : Heap) : OX :=
ob (evFa 2 a) fun m =>
ob (evLd false 1 m h) fun j =>
oh (y7 E (y8 E) 0 none true 96 [b, j] h) fun o h1 =>
ob (evUn .not o) fun i =>
cnd i
 (ob (evFa 2 a) fun l =>
ob (evLd false 1 l h1) fun g =>
oh (y10 0 (some 2) 1 1 [(.int .i64 0)] [(0, g)] h1) fun n h2 =>
oh (y3c 0 (some 3) 1 8 b n h2) fun k h3 =>
(yow e d k c a h3))
 ((yow e d b c a h1))
def y2ci (s : St) : OX := y17m (s 1) (s 2) (s 5) (s 6) (s 7) s.h
theorem y1jr : T1 y170 y5j (y4 1 y5j (y4 0 y40 xN)) [.t 4] y2ci := sq y1vs fun _ => by kernel_rfl
def yoc (c b d a g e : AV) (h : Heap) : OX :=
cnd e
 ((y17m c b d a g h))
 ((yoq c b d a h))
def y2jf (s : St) : OX := yoc (s 1) (s 2) (s 5) (s 6) (s 7) (s 48) s.h
theorem y1om : T1 y17x y5j (y4 1 y5j (y4 0 y40 xN)) [.t 4] y2jf := fun s => (y1e (y1jr s) rfl).trans (by kernel_rfl)
def yl4 (b e n d c : AV) (h : Heap) : OX :=
ob (evFa 0 c) fun o =>
ob (evLd false 1 o h) fun k =>
ob (y6 .leq k b) fun a =>
gb a true (some b) fun j =>
gb a true (evFa 1 c) fun l =>
gb a true (evLd false 1 l h) fun g =>
gb a true (y6 .lss j g) fun i =>
ob (yb a i (.bool false)) fun m =>
(yoc b e n d c m h)
def y2de (s : St) : OX := yl4 (s 1) (s 2) (s 5) (s 6) (s 7) s.h
theorem y1mz : T1 y16o y5j (y4 1 y5j (y4 0 y40 xN)) [.t 4] y2de := sq y1om fun _ => by kernel_rfl
def y1kz (j c i b : AV) (h : Heap) : OX :=
ob (evFa 4 c) fun d =>
ob (evLd false 1 d h) fun g =>
ob (yn 4 g b) fun k =>
ob (evLd true 4 k h) fun e =>
oh (newC 0 (some 1) [(.int .i64 0), (.int .i64 0), (.int .i64 0), (.str [])] h) fun a h4 =>
oh (evSt 4 a e h4) fun _ h5 =>
(yl4 j c i b a h5)
def y0f (s : St) : OX := y1kz (s 1) (s 2) (s 5) (s 6) s.h
theorem y20a : T1 y1c8 y5j (y4 1 y5j (y4 0 y40 xN)) [.t 4] y0f := sq y1mz fun _ => by kernel_rfl
theorem y1jx : T1 y12c y5j (y4 0 y40 xN) [.t 4] y0f := fun s => yp.trans (y20a s)
theorem y1cz : T1 ysf ybz (y4 0 y40 xN) [.t 4] y0f := sq y20e y1jx
def ykr (j b c a : AV) (h : Heap) : OX :=
ob (evFa 4 b) fun e =>
ob (evLd false 1 e h) fun i =>
ob (yv 1 i h) fun d =>
ob (y6 .lss a d) fun g =>
cnd g
 ((y1kz j b c a h))
 ((y1i9 c h))
def y25g (s : St) : OX := ykr (s 1) (s 2) (s 5) (s 6) s.h
theorem y1db : T1 yry ybz (y4 0 y40 xN) [.t 4] y25g := sq y1cz fun _ => by kernel_rfl
theorem ymz (d a b c : AV) (h : Heap) : yiy d a b c h = (ykr d a b c h) :=
  y1q.trans ((y14 _ _ _ (n' := ybz) (fun s => yp1 s)).trans ((y1db _).trans (by kernel_rfl)))
theorem y1h2 : T1 yts y40 xN [.t 4] ybz := fun s => yp.trans (yp1 s)
def y04 (c a b : AV) (h : Heap) : OX :=
(yiy c a b (.int .i64 0) h)
def y16n (s : St) : OX := y04 (s 1) (s 2) (s 5) s.h
theorem y1gm : T1 yvp y40 xN [.t 4] y16n := sq y1h2 fun _ => by kernel_rfl
theorem y1e2 : T0 ywf [.t 4] y16n := sq y1w9 y1gm
def yf2 (c d w : AV) (h : Heap) : OX :=
ob (y6 .lss c (.int .i64 0)) fun b =>
gb b false (some c) fun p =>
gb b false (evFa 3 d) fun v =>
gb b false (evLd false 1 v h) fun o =>
gb b false (yv 1 o h) fun t =>
gb b false (y6 .geq p t) fun m =>
ob (yb b (.bool true) m) fun a =>
gb a false (evFa 3 d) fun l =>
gb a false (evLd false 1 l h) fun n =>
gb a false (some c) fun j =>
gb a false (yn 9 n j) fun k =>
gb a false (evFa 0 k) fun i =>
gb a false (evLd false 1 i h) fun e =>
gh a false (y7 E (y8 E) 0 none true 19 [e] h) h fun u h6 =>
gb a false (evUn .not u) fun r =>
ob (yb a (.bool true) r) fun g =>
cnd g
 ((yd h6 AV.nils))
 ((y04 c d w h6))
def y23r (s : St) : OX := yf2 (s 1) (s 2) (s 5) s.h
theorem y1cx : T0 yxl [.t 4] y23r := sq y1e2 fun _ => by kernel_rfl
def yg4 (b a : AV) (h : Heap) : OX :=
(yf2 b a AV.nils h)
def y28t (s : St) : OX := yg4 (s 1) (s 2) s.h
theorem y1dc : T0 yvf [.t 4] y28t := sq y1cx fun _ => by kernel_rfl
def yfb (c b : AV) (h : Heap) : OX :=
oh (newC 0 (some 0) (cellsOf c) h) fun a h7 =>
(yg4 b a h7)
def y211 (s : St) : OX := yfb (s 0) (s 1) s.h
theorem y1f7 : T0 yuv [.t 4] y211 := sq y1dc fun _ => by kernel_rfl
@[simp] theorem y2to : E.pure 92 = true := rfl
theorem y2ne (b a : AV) : (y8 E).p 92 [b, a] = yfb b a [⟨0, .dead⟩, ⟨0, .dead⟩, ⟨0, .dead⟩, ⟨0, .dead⟩] :=
  (yr (cf := y2be) (by kernel_rfl) rfl).trans ((y1f7 _).trans (by kernel_rfl))
def yog (h : Heap) : OX :=
(yd h (.bool false))
def y7f (s : St) : OX := yog s.h
theorem y1mb : T0 y1a7 [.t 4] y7f := fun _ => by kernel_rfl
def ylk (c b a : AV) (h : Heap) : OX :=
  W E 0 yiw ⟨[(0, c), (1, b), (5, a)], h⟩ y7f (y4 0 y7f xN) (finP [.t 4])
def ybf (s : St) : OX := ylk (s 0) (s 1) (s 5) s.h
theorem ymd : T1 yiw y7f (y4 0 y7f xN) [.t 4] ybf := fun s => yf.trans (by kernel_rfl)
def yo0 (d c b : AV) (h : Heap) : OX :=
ob (y6 .add b (.int .i64 1)) fun a =>
(ylk d c a h)
def y2es (s : St) : OX := yo0 (s 0) (s 1) (s 5) s.h
theorem y206 : T1 y1ad ybf (y4 0 y7f xN) [.t 4] y2es := fun _ => by kernel_rfl
def yn3 (a c b : AV) (h : Heap) : OX :=
ob (yn 1 a b) fun g =>
ob (evLd false 1 g h) fun d =>
ob (y6 .eql d c) fun e =>
cnd e
 ((yd h (.bool true)))
 ((yo0 a c b h))
def y2js (s : St) : OX := yn3 (s 0) (s 1) (s 5) s.h
theorem y1mq : T1 y159 ybf (y4 0 y7f xN) [.t 4] y2js := sq y206 fun _ => by kernel_rfl
def yms (a d b : AV) (h : Heap) : OX :=
ob (yv 1 a h) fun c =>
ob (y6 .lss b c) fun e =>
cnd e
 ((yn3 a d b h))
 ((yog h))
def y2j3 (s : St) : OX := yms (s 0) (s 1) (s 5) s.h
theorem y1n9 : T1 y14v ybf (y4 0 y7f xN) [.t 4] y2j3 := sq y1mq fun _ => by kernel_rfl
theorem yni (c b a : AV) (h : Heap) : ylk c b a h = (yms c b a h) :=
  y1q.trans ((y14 _ _ _ (n' := ybf) (fun s => ymd s)).trans ((y1n9 _).trans (by kernel_rfl)))
theorem y209 : T1 y14z y7f xN [.t 4] ybf := fun s => yp.trans (ymd s)
def yom (b a : AV) (h : Heap) : OX :=
(ylk b a (.int .i64 0) h)
def y1z2 (s : St) : OX := yom (s 0) (s 1) s.h
theorem y1qf : T1 y1bs y7f xN [.t 4] y1z2 := sq y209 fun _ => by kernel_rfl
theorem y1ro : T0 y12v [.t 4] y1z2 := sq y1mb y1qf
def ymc (b a : AV) (h : Heap) : OX :=
(yom b a h)
def y2fq (s : St) : OX := ymc (s 0) (s 1) s.h
theorem y1l0 : T0 y19i [.t 4] y2fq := sq y1ro fun _ => by kernel_rfl
@[simp] theorem y2t1 : E.pure 96 = true := rfl
theorem y2lr (b a : AV) : (y8 E).p 96 [b, a] = ymc b a [] :=
  (yr (cf := y2a1) (by kernel_rfl) rfl).trans ((y1l0 _).trans (by kernel_rfl))
def yko (b : AV) (h : Heap) : OX :=
ob (y6 .neq b (AV.str [])) fun a =>
gb a true (some b) fun g =>
gb a true (yv 0 g h) fun d =>
gb a true (y6 .leq d (.int .i64 60)) fun e =>
ob (yb a e (.bool false)) fun c =>
(yd h c)
def y7h (s : St) : OX := yko (s 0) s.h
theorem y1zx : T0 y13v [.t 4] y7h := fun _ => by kernel_rfl
def yfz (c a b : AV) (h : Heap) : OX :=
  W E 0 yjq ⟨[(0, c), (5, a), (6, b)], h⟩ y7h (y4 0 y7h xN) (finP [.t 4])
def yby (s : St) : OX := yfz (s 0) (s 5) (s 6) s.h
theorem ymk : T1 yjq y7h (y4 0 y7h xN) [.t 4] yby := fun s => yf.trans (by kernel_rfl)
def y13h (d b c : AV) (h : Heap) : OX :=
ob (y6 .add c (.int .i64 1)) fun a =>
(yfz d b a h)
def y2im (s : St) : OX := y13h (s 0) (s 5) (s 6) s.h
theorem y1y3 : T1 y186 yby (y4 0 y7h xN) [.t 4] y2im := fun _ => by kernel_rfl
def ysu (b c a : AV) (h : Heap) : OX :=
ob (y6 .add a (.int .i64 1)) fun e =>
ob (ydo b (some a) (some e)) fun g =>
oh (y7 E (y8 E) 0 none true 53 [c, g] h) fun i h1 =>
ob (evUn .not i) fun d =>
cnd d
 ((yd h1 (.bool false)))
 ((y13h b c a h1))
def y2ht (s : St) : OX := ysu (s 0) (s 5) (s 6) s.h
theorem y1hz : T1 y13z yby (y4 0 y7h xN) [.t 4] y2ht := sq y1y3 fun _ => by kernel_rfl
def ysj (a e b : AV) (h : Heap) : OX :=
ob (yv 0 a h) fun d =>
ob (y6 .lss b d) fun c =>
cnd c
 ((ysu a e b h))
 ((yko a h))
def y2h3 (s : St) : OX := ysj (s 0) (s 5) (s 6) s.h
theorem y1iv : T1 y124 yby (y4 0 y7h xN) [.t 4] y2h3 := sq y1hz fun _ => by kernel_rfl
theorem yp4 (c a b : AV) (h : Heap) : yfz c a b h = (ysj c a b h) :=
  y1q.trans ((y14 _ _ _ (n' := yby) (fun s => ymk s)).trans ((y1iv _).trans (by kernel_rfl)))
theorem y1sf : T1 y14x y7h xN [.t 4] yby := fun s => yp.trans (ymk s)
def y12k (b a : AV) (h : Heap) : OX :=
(yfz b a (.int .i64 0) h)
def y1km (s : St) : OX := y12k (s 0) (s 5) s.h
theorem y1vi : T1 y17p y7h xN [.t 4] y1km := sq y1sf fun _ => by kernel_rfl
theorem y1zc : T0 y17o [.t 4] y1km := sq y1zx y1vi
def y1tn (b d a : AV) (h : Heap) : OX :=
cnd d
 (ob (y6 .add a (AV.str [60, 62])) fun c =>
(y12k b c h))
 ((y12k b a h))
def y2cz (s : St) : OX := y1tn (s 0) (s 1) (s 5) s.h
theorem y1oh : T0 y19o [.t 4] y2cz := sq y1zc fun _ => by kernel_rfl
def yz1 (b a : AV) (h : Heap) : OX :=
(y1tn b a (AV.str [97, 98, 99, 100, 101, 102, 103, 104, 105, 106, 107, 108, 109, 110, 111, 112, 113, 114, 115, 116, 117, 118, 119, 120, 121, 122, 65, 66, 67, 68, 69, 70, 71, 72, 73, 74, 75, 76, 77, 78, 79, 80, 81, 82, 83, 84, 85, 86, 87, 88, 89, 90, 48, 49, 50, 51, 52, 53, 54, 55, 56, 57, 95, 36, 47]) h)
def y283 (s : St) : OX := yz1 (s 0) (s 1) s.h
theorem y1cl : T0 yt5 [.t 4] y283 := sq y1oh fun _ => by kernel_rfl
def yqv (b a : AV) (h : Heap) : OX :=
(yz1 b a h)
def y223 (s : St) : OX := yqv (s 0) (s 1) s.h
theorem y1em : T0 yvz [.t 4] y223 := sq y1cl fun _ => by kernel_rfl
@[simp] theorem y2ty : E.pure 69 = true := rfl
theorem y2ot (b a : AV) : (y8 E).p 69 [b, a] = yqv b a [] :=
  (yr (cf := y2a5) (by kernel_rfl) rfl).trans ((y1em _).trans (by kernel_rfl))
def q9_1 (h : Heap) : OX :=
(yd h (.int .i64 0))
def y3n (s : St) : OX := q9_1 s.h
theorem y2dk : T0 y2b0 [.t 2] y3n := fun _ => by kernel_rfl
def y1jm (c a b : AV) (h : Heap) : OX :=
  W E 0 yzg ⟨[(0, c), (3, a), (4, b)], h⟩ y3n (y4 3 y3n (y4 2 y3n xN)) (finP [.t 2])
def yml (s : St) : OX := y1jm (s 0) (s 3) (s 4) s.h
theorem y149 : T1 yzg y3n (y4 3 y3n (y4 2 y3n xN)) [.t 2] yml := fun s => yf.trans (by kernel_rfl)
def q9_3 (d b c : AV) (h : Heap) : OX :=
ob (y6 .add c (.int .i64 1)) fun a =>
(y1jm d b a h)
def ylz (s : St) : OX := q9_3 (s 0) (s 3) (s 4) s.h
theorem y2fz : T1 y297 yml (y4 3 y3n (y4 2 y3n xN)) [.t 2] ylz := fun _ => by kernel_rfl
def q9_4 (h : Heap) : OX :=
(yd h (.int .i64 0))
def y2u3 (s : St) : OX := q9_4 s.h
theorem y2ca : T1 y2bc ylz (y4 4 ylz (y4 3 y3n (y4 2 y3n xN))) [.t 2] y2u3 := fun _ => by kernel_rfl
def q9_5 (c d a : AV) (h : Heap) : OX :=
ob (y6 .add d (.int .i64 1)) fun b =>
ob (ydo c (some b) (some a)) fun e =>
oh (y7 E (y8 E) 0 none true 60 [e, (.bool false)] h) fun i h1 =>
cnd i
 (ob (y6 .add a (.int .i64 1)) fun g =>
(yd h1 g))
 ((q9_4 h1))
def y2tt (s : St) : OX := q9_5 (s 0) (s 3) (s 4) s.h
theorem y2iu : T1 y2a0 ylz (y4 4 ylz (y4 3 y3n (y4 2 y3n xN))) [.t 2] y2tt := sq y2ca fun _ => by kernel_rfl
def q9_6 (c a b d : AV) (h : Heap) : OX :=
cnd d
 ((q9_5 c a b h))
 ((q9_3 c a b h))
def y2v8 (s : St) : OX := q9_6 (s 0) (s 3) (s 4) (s 46) s.h
theorem y2gw : T1 y2ay ylz (y4 4 ylz (y4 3 y3n (y4 2 y3n xN))) [.t 2] y2v8 := fun s => (y1e (y2iu s) rfl).trans (by kernel_rfl)
def q9_7 (a d b : AV) (h : Heap) : OX :=
ob (y43 a b) fun e =>
ob (y6 .eql e (.int .u8 59)) fun c =>
(q9_6 a d b c h)
def y2ez (s : St) : OX := q9_7 (s 0) (s 3) (s 4) s.h
theorem y2do : T1 y2ac ylz (y4 4 ylz (y4 3 y3n (y4 2 y3n xN))) [.t 2] y2ez := sq y2gw fun _ => by kernel_rfl
theorem y2gy : T1 y29w ylz (y4 3 y3n (y4 2 y3n xN)) [.t 2] y2ez := fun s => yp.trans (y2do s)
theorem y2cm : T1 y29k yml (y4 3 y3n (y4 2 y3n xN)) [.t 2] y2ez := sq y2fz y2gy
def y1ei (a c b : AV) (h : Heap) : OX :=
ob (yv 0 a h) fun e =>
ob (y6 .lss b e) fun d =>
cnd d
 ((q9_7 a c b h))
 ((q9_1 h))
def y2ob (s : St) : OX := y1ei (s 0) (s 3) (s 4) s.h
theorem y23o : T1 y1xo yml (y4 3 y3n (y4 2 y3n xN)) [.t 2] y2ob := sq y2cm fun _ => by kernel_rfl
theorem y1bb (c a b : AV) (h : Heap) : y1jm c a b h = (y1ei c a b h) :=
  y1q.trans ((y14 _ _ _ (n' := yml) (fun s => y149 s)).trans ((y23o _).trans (by kernel_rfl)))
theorem y27q : T1 y1ih y3n (y4 2 y3n xN) [.t 2] yml := fun s => yp.trans (y149 s)
def y2cu (c a : AV) (h : Heap) : OX :=
ob (y6 .add a (.int .i64 1)) fun b =>
(y1jm c a b h)
def y2qe (s : St) : OX := y2cu (s 0) (s 3) s.h
theorem y21e : T1 y1i4 y3n (y4 2 y3n xN) [.t 2] y2qe := sq y27q fun _ => by kernel_rfl
def y24j (c a b : AV) (h : Heap) : OX :=
cnd b
 ((y2cu c a h))
 ((q9_1 h))
def y2p4 (s : St) : OX := y24j (s 0) (s 3) (s 33) s.h
theorem y24d : T1 y1v1 y3n (y4 2 y3n xN) [.t 2] y2p4 := fun s => (y1e (y21e s) rfl).trans (by kernel_rfl)
def y246 (d b c : AV) (h : Heap) : OX :=
ob (y6 .eql c (.int .u8 76)) fun a =>
(y24j d b a h)
def y2oy (s : St) : OX := y246 (s 0) (s 3) (s 27) s.h
theorem y26q : T1 y1k4 y3n (y4 2 y3n xN) [.t 2] y2oy := sq y24d fun _ => by kernel_rfl
def yyq (c a e d : AV) (h : Heap) : OX :=
cnd d
 (ob (y6 .add a (.int .i64 1)) fun b =>
(yd h b))
 ((y246 c a e h))
def y2l4 (s : St) : OX := yyq (s 0) (s 3) (s 27) (s 28) s.h
theorem y25j : T1 y1rj y3n (y4 2 y3n xN) [.t 2] y2l4 := fun s => (y1e rfl (y26q s)).trans (by kernel_rfl)
def y1eu (b c a : AV) (h : Heap) : OX :=
ob (y6 .eql a (.int .u8 73)) fun d =>
cnd d
 ((yyq b c a d h))
 (ob (y6 .eql a (.int .u8 74)) fun e =>
(yyq b c a e h))
def y2bb (s : St) : OX := y1eu (s 0) (s 3) (s 27) s.h
theorem y21i : T1 y1n0 y3n (y4 2 y3n xN) [.t 2] y2bb := sq y25j fun _ => by kernel_rfl
theorem y23f : T1 y1r1 y3n xN [.t 2] y2bb := fun s => yp.trans (y21i s)
def y1ci (b a : AV) (h : Heap) : OX :=
ob (y43 b a) fun c =>
(y1eu b a c h)
def y2b2 (s : St) : OX := y1ci (s 0) (s 3) s.h
theorem y24v : T1 y1qg y3n xN [.t 2] y2b2 := sq y23f fun _ => by kernel_rfl
theorem y256 : T0 y1uv [.t 2] y2b2 := sq y2dk y24v
def ym1 (c b : AV) (h : Heap) : OX :=
ob (y6 .gtr b (.int .i64 8)) fun a =>
gb a false (some b) fun e =>
gb a false (some c) fun g =>
gb a false (yv 0 g h) fun j =>
gb a false (y6 .eql e j) fun d =>
ob (yb a (.bool true) d) fun i =>
cnd i
 ((yd h (.int .i64 0)))
 ((y1ci c b h))
def ygb (s : St) : OX := ym1 (s 0) (s 3) s.h
theorem y27e : T0 y1uo [.t 2] ygb := sq y256 fun _ => by kernel_rfl
def yrl (b a : AV) (h : Heap) : OX :=
  W E 0 yrf ⟨[(0, b), (3, a)], h⟩ ygb (y4 0 ygb xN) (finP [.t 2])
def yft (s : St) : OX := yrl (s 0) (s 3) s.h
theorem yu5 : T1 yrf ygb (y4 0 ygb xN) [.t 2] yft := fun s => yf.trans (by kernel_rfl)
def y2gf (c a : AV) (h : Heap) : OX :=
ob (y6 .add a (.int .i64 1)) fun b =>
(yrl c b h)
def y2q9 (s : St) : OX := y2gf (s 0) (s 3) s.h
theorem y23q : T1 y1ue yft (y4 0 ygb xN) [.t 2] y2q9 := fun _ => by kernel_rfl
def y1t0 (b c : AV) (h : Heap) : OX :=
ob (yv 0 b h) fun j =>
ob (y6 .lss c j) fun a =>
gb a true (some b) fun d =>
gb a true (some c) fun k =>
gb a true (y43 d k) fun i =>
gb a true (y6 .eql i (.int .u8 91)) fun g =>
ob (yb a g (.bool false)) fun e =>
cnd e
 ((y2gf b c h))
 ((ym1 b c h))
def y2n4 (s : St) : OX := y1t0 (s 0) (s 3) s.h
theorem y26x : T1 y1zg yft (y4 0 ygb xN) [.t 2] y2n4 := sq y23q fun _ => by kernel_rfl
theorem ys0 (b a : AV) (h : Heap) : yrl b a h = (y1t0 b a h) :=
  y1q.trans ((y14 _ _ _ (n' := yft) (fun s => yu5 s)).trans ((y26x _).trans (by kernel_rfl)))
theorem y27a : T1 y1qv ygb xN [.t 2] yft := fun s => yp.trans (yu5 s)
theorem y250 : T0 y1lx [.t 2] yft := sq y27e y27a
def y2fr (a : AV) (h : Heap) : OX :=
(yrl a (.int .i64 0) h)
def y2lh (s : St) : OX := y2fr (s 0) s.h
theorem y26v : T0 y1pn [.t 2] y2lh := sq y250 fun _ => by kernel_rfl
def y2d1 (a : AV) (h : Heap) : OX :=
(y2fr a h)
def y2o8 (s : St) : OX := y2d1 (s 0) s.h
theorem y279 : T0 y1xj [.t 2] y2o8 := sq y26v fun _ => by kernel_rfl
@[simp] theorem y2uk : E.pure 44 = true := rfl
theorem x_q9 (a : AV) : (y8 E).p 44 [a] = y2d1 a [] :=
  (yr (cf := c_q9) (by kernel_rfl) rfl).trans ((y279 _).trans (by kernel_rfl))
def y1l6 (b : AV) (h : Heap) : OX :=
ob (y6 .geq b (.int .i64 23)) fun a =>
gb a true (some b) fun c =>
gb a true (y6 .leq c (.int .i64 26)) fun e =>
ob (yb a e (.bool false)) fun d =>
(yd h d)
def y2go (s : St) : OX := y1l6 (s 0) s.h
theorem y1lg : T0 y15a [.t 2] y2go := fun _ => by kernel_rfl
@[simp] theorem y2vd : E.pure 7 = true := rfl
theorem y2nv (a : AV) : (y8 E).p 7 [a] = y1l6 a [] :=
  (yr (cf := y29y) (by kernel_rfl) rfl).trans ((y1lg _).trans (by kernel_rfl))
def y1zy (a : AV) (h : Heap) : OX :=
ob (y6 .geq a (.int .i64 7)) fun d =>
gb d true (some a) fun j =>
gb d true (y6 .leq j (.int .i64 12)) fun n =>
ob (yb d n (.bool false)) fun b =>
gb b false (some a) fun e =>
gh b false (y10 0 (some 0) 1 3 [(.int .i64 0)] [(0, (.int .i64 20)), (1, (.int .i64 21)), (2, (.int .i64 31))] h) h fun k h1 =>
gh b false (y7 E (y8 E) 0 none true 42 [e, k] h1) h1 fun m h2 =>
ob (yb b (.bool true) m) fun c =>
gb c false (some a) fun g =>
gh c false (y7 E (y8 E) 0 none true 7 [g] h2) h2 fun l h3 =>
ob (yb c (.bool true) l) fun i =>
(yd h3 i)
def y2iv (s : St) : OX := y1zy (s 0) s.h
theorem y1qj : T0 y15v [.t 2] y2iv := fun _ => by kernel_rfl
@[simp] theorem y2uy : E.pure 19 = true := rfl
theorem y2oe (a : AV) : (y8 E).p 19 [a] = y1zy a [⟨0, .dead⟩] :=
  (yr (cf := y2bg) (by kernel_rfl) rfl).trans ((y1qj _).trans (by kernel_rfl))
def q7_1 (h : Heap) : OX :=
(yd h (.bool true))
def yj2 (s : St) : OX := q7_1 s.h
theorem y2h2 : T0 y29i [.t 4] yj2 := fun _ => by kernel_rfl
def y1ti (c a b d : AV) (h : Heap) : OX :=
  W E 0 yzi ⟨[(1, c), (17, a), (18, b), (19, d)], h⟩ yj2 (y4 0 yj2 xN) (finP [.t 4])
def yk5 (s : St) : OX := y1ti (s 1) (s 17) (s 18) (s 19) s.h
theorem y1bq : T1 yzi yj2 (y4 0 yj2 xN) [.t 4] yk5 := fun s => yf.trans (by kernel_rfl)
def q7_3 (b a d c : AV) (h : Heap) : OX :=
ob (y6 .add c (.int .i64 1)) fun e =>
(y1ti b a d e h)
def y2tr (s : St) : OX := q7_3 (s 1) (s 17) (s 18) (s 19) s.h
theorem y2bm : T1 y2av yk5 (y4 0 yj2 xN) [.t 4] y2tr := fun _ => by kernel_rfl
def q7_4 (p o N r : AV) (h : Heap) : OX :=
ob (yn 1 o r) fun L =>
ob (evLd false 1 L h) fun a =>
ob (y6 .geq a (.int .u8 97)) fun n =>
gb n true (some a) fun u =>
gb n true (y6 .leq u (.int .u8 122)) fun Z =>
ob (yb n Z (.bool false)) fun b =>
gb b false (some a) fun D =>
gb b false (y6 .geq D (.int .u8 65)) fun I =>
gb b false (some I) fun m =>
gb m true (some a) fun Y =>
gb m true (y6 .leq Y (.int .u8 90)) fun H =>
gb b false (yb m H (.bool false)) fun A =>
ob (yb b (.bool true) A) fun e =>
gb e false (some a) fun R =>
gb e false (y6 .geq R (.int .u8 48)) fun B =>
gb e false (some B) fun l =>
gb l true (some a) fun y =>
gb l true (y6 .leq y (.int .u8 57)) fun U =>
gb e false (yb l U (.bool false)) fun X =>
ob (yb e (.bool true) X) fun i =>
gb i false (some a) fun w =>
gb i false (y6 .eql w (.int .u8 95)) fun J =>
ob (yb i (.bool true) J) fun k =>
gb k false (some a) fun z =>
gb k false (y6 .eql z (.int .u8 36)) fun x =>
ob (yb k (.bool true) x) fun g =>
gb g false (some a) fun M =>
gb g false (y6 .eql M (.int .u8 47)) fun C =>
ob (yb g (.bool true) C) fun F =>
ob (evUn .not F) fun c =>
gb c true (some p) fun P =>
gb c true (some P) fun d =>
gb d true (some a) fun S =>
gb d true (y6 .eql S (.int .u8 60)) fun G =>
gb d true (some G) fun j =>
gb j false (some a) fun K =>
gb j false (y6 .eql K (.int .u8 62)) fun t =>
gb d true (yb j (.bool true) t) fun v =>
gb c true (yb d v (.bool false)) fun Q =>
gb c true (evUn .not Q) fun O =>
ob (yb c O (.bool false)) fun V =>
cnd V
 ((yd h (.bool false)))
 ((q7_3 p o N r h))
def y2ur (s : St) : OX := q7_4 (s 1) (s 17) (s 18) (s 19) s.h
theorem y2eu : T1 y2b6 yk5 (y4 0 yj2 xN) [.t 4] y2ur := sq y2bm fun _ => by kernel_rfl
def q7_5 (e a d c b : AV) (h : Heap) : OX :=
cnd b
 ((q7_4 e a d c h))
 ((q7_1 h))
def y2tw (s : St) : OX := q7_5 (s 1) (s 17) (s 18) (s 19) (s 20) s.h
theorem y2du : T1 y29n yk5 (y4 0 yj2 xN) [.t 4] y2tw := sq y2eu fun _ => by kernel_rfl
def q7_6 (e c b a : AV) (h : Heap) : OX :=
ob (y6 .lss a b) fun d =>
(q7_5 e c b a d h)
def y2s7 (s : St) : OX := q7_6 (s 1) (s 17) (s 18) (s 19) s.h
theorem y2ek : T1 y2az yk5 (y4 0 yj2 xN) [.t 4] y2s7 := sq y2du fun _ => by kernel_rfl
theorem y1b2 (c a b d : AV) (h : Heap) : y1ti c a b d h = (q7_6 c a b d h) :=
  y1q.trans ((y14 _ _ _ (n' := yk5) (fun s => y1bq s)).trans ((y2ek _).trans (by kernel_rfl)))
theorem y2hv : T1 y2a8 yj2 xN [.t 4] yk5 := fun s => yp.trans (y1bq s)
def q7_8 (d c : AV) (h : Heap) : OX :=
oh (s2bC 0 (some 0) d h) fun a h1 =>
ob (yv 1 a h1) fun b =>
(y1ti c a b (.int .i64 0) h1)
def y2o4 (s : St) : OX := q7_8 (s 0) (s 1) s.h
theorem y2ga : T1 y29q yj2 xN [.t 4] y2o4 := sq y2hv fun _ => by kernel_rfl
theorem y2ix : T0 y2ag [.t 4] y2o4 := sq y2h2 y2ga
def y1kk (b i : AV) (h : Heap) : OX :=
ob (yv 0 b h) fun j =>
ob (y6 .lss j (.int .i64 1)) fun a =>
gb a false (some b) fun g =>
gb a false (yv 0 g h) fun e =>
gb a false (y6 .gtr e (.int .i64 60)) fun d =>
ob (yb a (.bool true) d) fun c =>
cnd c
 ((yd h (.bool false)))
 ((q7_8 b i h))
def y2n0 (s : St) : OX := y1kk (s 0) (s 1) s.h
theorem y245 : T0 y1yi [.t 4] y2n0 := sq y2ix fun _ => by kernel_rfl
def y1lz (b a : AV) (h : Heap) : OX :=
(y1kk b a h)
def y2kr (s : St) : OX := y1lz (s 0) (s 1) s.h
theorem y20l : T0 y1mg [.t 4] y2kr := sq y245 fun _ => by kernel_rfl
@[simp] theorem y2sx : E.pure 60 = true := rfl
theorem x_q7 (b a : AV) : (y8 E).p 60 [b, a] = y1lz b a [⟨0, .dead⟩] :=
  (yr (cf := c_q7) (by kernel_rfl) rfl).trans ((y20l _).trans (by kernel_rfl))
end
end Go.Vm
