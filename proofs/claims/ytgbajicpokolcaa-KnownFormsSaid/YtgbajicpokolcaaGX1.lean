/- Functions of the machine as plain functions that go on with what follows. -/
import Derived.Test.YtgbajicpokolcaaGEnv
set_option linter.unusedSimpArgs false
set_option linter.unusedVariables false
set_option linter.unusedSectionVars false
namespace Go.Vm
noncomputable section
def y2u (h : Heap) : OX :=
(yf h (.bool true))
def y13 (s : St) : OX := y2u s.h
theorem y1fb : T0 y15t [.t 4] y13 := fun _ => by kernel_rfl
def y2s (b g : AV) (h : Heap) : OX :=
ob (evFa 2 g) fun e =>
ob (evLd false 1 e h) fun l =>
ob (y8 .neq l (.int .i64 (-1))) fun a =>
ofp (fgd a true (some (ids1 b, []))) fun f4 =>
gb a true (evLd true 5 b h) fun i =>
ofp (fgd a true (some ([], []))) fun f5 =>
gb a true (evFa 2 g) fun c =>
ofp (fgd a true (some (ids1 c, []))) fun f6 =>
gb a true (evLd false 1 c h) fun d =>
ofp (fgd a true (y4h E (yb E) 0 none true 48 [i, d] h)) fun f7 =>
gh a true (y9 E (yb E) 0 none true 48 [i, d] h) h fun k h1 =>
ofp (fgd a true (some ([], []))) fun f8 =>
gb a true (evFa 2 b) fun j =>
ofp (fgd a true (some (ids1 j, []))) fun f9 =>
gb a true (evLd false 1 j h1) fun m =>
ofp (fgd a true (some ([], []))) fun f10 =>
gb a true (y8 .eql k m) fun n =>
ob (yd a n (.bool false)) fun o =>
okK (yg [([], []), (ids1 e, []), ([], []), ([], []), f4, f5, f6, f7, f8, f9, f10, ([], []), ([], [])] [(7, 9)]) <|
(yf h1 o)
def y2bl (s : St) : OX := y2s (s 2) (s 3) s.h
theorem y1po : T1 y11l y13 (y5 2 y13 xN) [.t 4] y2bl := fun _ => by kernel_rfl
def y2x (a b : AV) (h : Heap) : OX :=
ob (evFa 2 a) fun j =>
ob (evLd false 1 j h) fun d =>
ob (y8 .eql d (.int .i64 0)) fun c =>
cnd c
 (ob (evFa 2 b) fun i =>
ob (evLd false 1 i h) fun g =>
ob (y8 .eql g (.int .i64 (-1))) fun e =>
(yf h e))
 ((y2s a b h))
def y27v (s : St) : OX := y2x (s 2) (s 3) s.h
theorem y1nb : T1 y11v y13 (y5 2 y13 xN) [.t 4] y27v := sq y1po fun _ => by kernel_rfl
def y2v (c a b : AV) (h : Heap) : OX :=
cnd b
 ((y2x c a h))
 ((y2u h))
def y2f1 (s : St) : OX := y2v (s 2) (s 3) (s 207) s.h
theorem y1v9 : T1 y16l y13 (y5 2 y13 xN) [.t 4] y2f1 := fun s => (y1b (y1nb s) rfl).trans (by kernel_rfl)
def y2q (d b a : AV) (h : Heap) : OX :=
ob (y8 .eql a (.int .i64 30)) fun c =>
(y2v d b c h)
def y292 (s : St) : OX := y2q (s 2) (s 3) (s 55) s.h
theorem y1um : T1 y172 y13 (y5 2 y13 xN) [.t 4] y292 := sq y1v9 fun _ => by kernel_rfl
def y2r (g b A i : AV) (h : Heap) : OX :=
cnd i
 (ob (evFa 5 b) fun j =>
ob (evLd false 1 j h) fun p =>
ob (y8 .eql p (.int .i64 0)) fun e =>
gb e false (evFa 5 b) fun w =>
gb e false (evLd false 1 w h) fun C =>
gb e false (y8 .eql C (.int .i64 1)) fun t =>
ob (yd e (.bool true) t) fun c =>
gb c true (evFa 3 b) fun x =>
gb c true (evLd false 1 x h) fun y =>
gb c true (y8 .eql y (.int .i64 (-1))) fun o =>
gb c true (some o) fun a =>
gb a false (evLd true 5 g h) fun k =>
gb a false (evFa 3 b) fun u =>
gb a false (evLd false 1 u h) fun v =>
gh a false (y9 E (yb E) 0 none true 48 [k, v] h) h fun B h2 =>
gb a false (y8 .eql B (.int .i64 3)) fun n =>
gb c true (yd a (.bool true) n) fun D =>
ob (yd c D (.bool false)) fun d =>
gb d true (evLd true 5 g h2) fun r =>
gb d true (evFa 6 b) fun m =>
gb d true (evLd false 1 m h2) fun F =>
gh d true (y9 E (yb E) 0 none true 49 [r, F] h2) h2 fun z h3 =>
ob (yd d z (.bool false)) fun l =>
(yf h3 l))
 ((y2q g b A h))
def y2da (s : St) : OX := y2r (s 2) (s 3) (s 55) (s 179) s.h
theorem y1ps : T1 y11q y13 (y5 2 y13 xN) [.t 4] y2da := fun s => (y1b rfl (y1um s)).trans (by kernel_rfl)
def y2w (d c a : AV) (h : Heap) : OX :=
ob (y8 .eql a (.int .i64 29)) fun b =>
(y2r d c a b h)
def y2dc (s : St) : OX := y2w (s 2) (s 3) (s 55) s.h
theorem y1on : T1 y03 y13 (y5 2 y13 xN) [.t 4] y2dc := sq y1ps fun _ => by kernel_rfl
def y2y (a b j d : AV) (h : Heap) : OX :=
cnd d
 (ob (evLd true 5 a h) fun e =>
ob (evFa 6 b) fun i =>
ob (evLd false 1 i h) fun g =>
oh (y9 E (yb E) 0 none true 49 [e, g] h) fun c h4 =>
(yf h4 c))
 ((y2w a b j h))
def y2ao (s : St) : OX := y2y (s 2) (s 3) (s 55) (s 173) s.h
theorem y1rc : T1 y14k y13 (y5 2 y13 xN) [.t 4] y2ao := fun s => (y1b rfl (y1on s)).trans (by kernel_rfl)
def y2t (d c a : AV) (h : Heap) : OX :=
ob (y8 .eql a (.int .i64 27)) fun b =>
(y2y d c a b h)
def y2ch (s : St) : OX := y2t (s 2) (s 3) (s 55) s.h
theorem y1w3 : T1 y154 y13 (y5 2 y13 xN) [.t 4] y2ch := sq y1rc fun _ => by kernel_rfl
def y1u (d c t g : AV) (h : Heap) : OX :=
cnd g
 (ob (evFa 5 c) fun r =>
ob (evLd false 1 r h) fun e =>
ob (y8 .geq e (.int .i64 0)) fun b =>
gb b true (evFa 5 c) fun k =>
gb b true (evLd false 1 k h) fun j =>
gb b true (y8 .leq j (.int .i64 5)) fun i =>
ob (yd b i (.bool false)) fun a =>
gb a true (evLd true 5 d h) fun m =>
gb a true (evFa 6 c) fun o =>
gb a true (evLd false 1 o h) fun n =>
gh a true (y9 E (yb E) 0 none true 49 [m, n] h) h fun l h5 =>
ob (yd a l (.bool false)) fun p =>
(yf h5 p))
 ((y2t d c t h))
def y22n (s : St) : OX := y1u (s 2) (s 3) (s 55) (s 157) s.h
theorem y1c6 : T1 yq2 y13 (y5 2 y13 xN) [.t 4] y22n := fun s => (y1b rfl (y1w3 s)).trans (by kernel_rfl)
def y1s (d c a : AV) (h : Heap) : OX :=
ob (y8 .eql a (.int .i64 28)) fun b =>
(y1u d c a b h)
def y1yh (s : St) : OX := y1s (s 2) (s 3) (s 55) s.h
theorem y19n : T1 yt8 y13 (y5 2 y13 xN) [.t 4] y1yh := sq y1c6 fun _ => by kernel_rfl
def y1i (a b i c : AV) (h : Heap) : OX :=
cnd c
 (ob (evLd true 5 a h) fun d =>
ob (evLd true 9 b h) fun e =>
oh (y9 E (yb E) 0 none true 68 [d, e] h) fun g h6 =>
(yf h6 g))
 ((y1s a b i h))
def y1xp (s : St) : OX := y1i (s 2) (s 3) (s 55) (s 149) s.h
theorem y1af : T1 ytz y13 (y5 2 y13 xN) [.t 4] y1xp := fun s => (y1b rfl (y19n s)).trans (by kernel_rfl)
def y1v (b c a : AV) (h : Heap) : OX :=
ob (y8 .eql a (.int .i64 23)) fun e =>
cnd e
 ((y1i b c a e h))
 (ob (y8 .eql a (.int .i64 24)) fun g =>
cnd g
 ((y1i b c a g h))
 (ob (y8 .eql a (.int .i64 25)) fun d =>
cnd d
 ((y1i b c a d h))
 (ob (y8 .eql a (.int .i64 26)) fun i =>
(y1i b c a i h))))
def y1xe (s : St) : OX := y1v (s 2) (s 3) (s 55) s.h
theorem y1b3 : T1 yr5 y13 (y5 2 y13 xN) [.t 4] y1xe := sq y1af fun _ => by kernel_rfl
def y1q (d a i b : AV) (h : Heap) : OX :=
cnd b
 (ob (evFa 5 a) fun e =>
ob (evLd false 1 e h) fun c =>
ob (y8 .geq c (.int .i64 0)) fun g =>
(yf h g))
 ((y1v d a i h))
def y1xz (s : St) : OX := y1q (s 2) (s 3) (s 55) (s 143) s.h
theorem y18v : T1 yqi y13 (y5 2 y13 xN) [.t 4] y1xz := fun s => (y1b rfl (y1b3 s)).trans (by kernel_rfl)
def y20 (c d a : AV) (h : Heap) : OX :=
ob (y8 .eql a (.int .i64 16)) fun b =>
cnd b
 ((y1q c d a b h))
 (ob (y8 .eql a (.int .i64 17)) fun e =>
(y1q c d a e h))
def y246 (s : St) : OX := y20 (s 2) (s 3) (s 55) s.h
theorem y1ai : T1 yrv y13 (y5 2 y13 xN) [.t 4] y246 := sq y18v fun _ => by kernel_rfl
def y1l (d a i c : AV) (h : Heap) : OX :=
cnd c
 (ob (evFa 7 a) fun e =>
ob (evLd false 1 e h) fun b =>
oh (y9 E (yb E) 0 none true 67 [b] h) fun g h7 =>
(yf h7 g))
 ((y20 d a i h))
def y23z (s : St) : OX := y1l (s 2) (s 3) (s 55) (s 136) s.h
theorem y1ce : T1 yu5 y13 (y5 2 y13 xN) [.t 4] y23z := fun s => (y1b rfl (y1ai s)).trans (by kernel_rfl)
def y1y (b c a : AV) (h : Heap) : OX :=
ob (y8 .eql a (.int .i64 12)) fun d =>
cnd d
 ((y1l b c a d h))
 (ob (y8 .eql a (.int .i64 21)) fun e =>
cnd e
 ((y1l b c a e h))
 (ob (y8 .eql a (.int .i64 22)) fun g =>
(y1l b c a g h)))
def y1xn (s : St) : OX := y1y (s 2) (s 3) (s 55) s.h
theorem y1c3 : T1 yut y13 (y5 2 y13 xN) [.t 4] y1xn := sq y1ce fun _ => by kernel_rfl
def y1w (e d g m v A j : AV) (h : Heap) : OX :=
cnd j
 (ob (y8 .gtr g (.int .i64 0)) fun c =>
gb c true (some m) fun t =>
gb c true (y8 .eql t (.int .i64 0)) fun i =>
ob (yd c i (.bool false)) fun b =>
gb b true (evLd true 5 e h) fun B =>
gb b true (evFa 1 d) fun u =>
gb b true (evLd false 1 u h) fun C =>
gh b true (y9 E (yb E) 0 none true 48 [B, C] h) h fun x h8 =>
gb b true (some v) fun n =>
gb b true (y8 .eql x n) fun p =>
ob (yd b p (.bool false)) fun a =>
gb a true (evLd true 5 e h8) fun k =>
gb a true (evFa 2 d) fun z =>
gb a true (evLd false 1 z h8) fun y =>
gh a true (y9 E (yb E) 0 none true 48 [k, y] h8) h8 fun w h9 =>
gb a true (some g) fun o =>
gb a true (y8 .eql w o) fun r =>
ob (yd a r (.bool false)) fun l =>
(yf h9 l))
 ((y1y e d A h))
def y24x (s : St) : OX := y1w (s 2) (s 3) (s 8) (s 9) (s 10) (s 55) (s 112) s.h
theorem y1ag : T1 yrd y13 (y5 2 y13 xN) [.t 4] y24x := fun s => (y1b rfl (y1c3 s)).trans (by kernel_rfl)
def y1z (d g c e i a : AV) (h : Heap) : OX :=
ob (y8 .eql a (.int .i64 6)) fun b =>
(y1w d g c e i a b h)
def y20b (s : St) : OX := y1z (s 2) (s 3) (s 8) (s 9) (s 10) (s 55) s.h
theorem y192 : T1 yu9 y13 (y5 2 y13 xN) [.t 4] y20b := sq y1ag fun _ => by kernel_rfl
def y1x (e d i g j A u : AV) (h : Heap) : OX :=
cnd u
 (ob (y8 .gtr g (.int .i64 0)) fun b =>
gb b true (evLd true 5 e h) fun C =>
gb b true (evFa 1 d) fun p =>
gb b true (evLd false 1 p h) fun v =>
gh b true (y9 E (yb E) 0 none true 48 [C, v] h) h fun z h10 =>
gb b true (some j) fun t =>
gb b true (y8 .eql z t) fun H =>
ob (yd b H (.bool false)) fun a =>
gb a true (evLd true 5 e h10) fun w =>
gb a true (evFa 2 d) fun B =>
gb a true (evLd false 1 B h10) fun x =>
gh a true (y9 E (yb E) 0 none true 48 [w, x] h10) h10 fun n h11 =>
gb a true (some i) fun k =>
gb a true (y8 .eql n k) fun o =>
ob (yd a o (.bool false)) fun c =>
gb c true (evLd true 5 e h11) fun m =>
gb c true (evFa 3 d) fun G =>
gb c true (evLd false 1 G h11) fun r =>
gh c true (y9 E (yb E) 0 none true 48 [m, r] h11) h11 fun D h12 =>
gb c true (some g) fun F =>
gb c true (y8 .eql D F) fun y =>
ob (yd c y (.bool false)) fun l =>
(yf h12 l))
 ((y1z e d i g j A h))
def y216 (s : St) : OX := y1x (s 2) (s 3) (s 8) (s 9) (s 10) (s 55) (s 84) s.h
theorem y1ak : T1 yt6 y13 (y5 2 y13 xN) [.t 4] y216 := fun s => (y1b rfl (y192 s)).trans (by kernel_rfl)
def y1t (d g c e i a : AV) (h : Heap) : OX :=
ob (y8 .eql a (.int .i64 5)) fun b =>
(y1x d g c e i a b h)
def y1wz (s : St) : OX := y1t (s 2) (s 3) (s 8) (s 9) (s 10) (s 55) s.h
theorem y1bs : T1 ys9 y13 (y5 2 y13 xN) [.t 4] y1wz := sq y1ak fun _ => by kernel_rfl
def y1n (a b k l n t r : AV) (h : Heap) : OX :=
cnd r
 (ob (evLd true 5 a h) fun c =>
ob (evFa 1 b) fun g =>
ob (evLd false 1 g h) fun j =>
ofp (y4h E (yb E) 0 none true 48 [c, j] h) fun f3 =>
oh (y9 E (yb E) 0 none true 48 [c, j] h) fun p h13 =>
ob (evLd true 5 a h13) fun d =>
ob (evFa 2 b) fun i =>
ob (evLd false 1 i h13) fun e =>
ofp (y4h E (yb E) 0 none true 48 [d, e] h13) fun f7 =>
oh (y9 E (yb E) 0 none true 48 [d, e] h13) fun m h14 =>
ob (y8 .eql p m) fun o =>
okK (yg [(ids1 a, []), ([], []), (ids1 g, []), f3, (ids1 a, []), ([], []), (ids1 i, []), f7, ([], []), ([], [])] [(3, 4), (3, 6)]) <|
(yf h14 o))
 ((y1t a b k l n t h))
def y21s (s : St) : OX := y1n (s 2) (s 3) (s 8) (s 9) (s 10) (s 55) (s 73) s.h
theorem y1bn : T1 ysu y13 (y5 2 y13 xN) [.t 4] y21s := fun s => (y1b rfl (y1bs s)).trans (by kernel_rfl)
def y1p (d g c e i a : AV) (h : Heap) : OX :=
ob (y8 .eql a (.int .i64 4)) fun b =>
(y1n d g c e i a b h)
def y202 (s : St) : OX := y1p (s 2) (s 3) (s 8) (s 9) (s 10) (s 55) s.h
theorem y1an : T1 yqx y13 (y5 2 y13 xN) [.t 4] y202 := sq y1bn fun _ => by kernel_rfl
def y1j (d b i e n u g : AV) (h : Heap) : OX :=
cnd g
 (ob (evLd true 5 d h) fun t =>
ob (evFa 1 b) fun r =>
ob (evLd false 1 r h) fun w =>
oh (y9 E (yb E) 0 none true 48 [t, w] h) fun k h15 =>
ob (y8 .eql k (.int .i64 2)) fun a =>
gb a false (evFa 5 b) fun p =>
gb a false (evLd false 1 p h15) fun o =>
gb a false (y8 .geq o (.int .i64 (-2147483648))) fun y =>
gb a false (some y) fun c =>
gb c true (evFa 5 b) fun m =>
gb c true (evLd false 1 m h15) fun j =>
gb c true (y8 .lss j (.int .i64 2147483648)) fun v =>
gb a false (yd c v (.bool false)) fun l =>
ob (yd a (.bool true) l) fun x =>
(yf h15 x))
 ((y1p d b i e n u h))
def y20i (s : St) : OX := y1j (s 2) (s 3) (s 8) (s 9) (s 10) (s 55) (s 56) s.h
theorem y1bf : T1 yre y13 (y5 2 y13 xN) [.t 4] y20i := fun s => (y1b rfl (y1an s)).trans (by kernel_rfl)
def y1g (c g b d i a : AV) (h : Heap) : OX :=
ob (y8 .eql a (.int .i64 1)) fun e =>
(y1j c g b d i a e h)
def y0g (s : St) : OX := y1g (s 2) (s 3) (s 8) (s 9) (s 10) (s 55) s.h
theorem y19l : T1 ytb y13 (y5 2 y13 xN) [.t 4] y0g := sq y1bf fun _ => by kernel_rfl
theorem y1bp : T1 yr4 y13 xN [.t 4] y0g := fun s => yy.trans (y19l s)
def yfm (c a b d e : AV) (h : Heap) : OX :=
ob (evFa 0 a) fun g =>
ob (evLd false 1 g h) fun i =>
(y1g c a b d e i h)
def yz6 (s : St) : OX := yfm (s 2) (s 3) (s 8) (s 9) (s 10) s.h
theorem y1aq : T1 yqd y13 xN [.t 4] yz6 := sq y1bp fun _ => by kernel_rfl
theorem y1c2 : T0 yr0 [.t 4] yz6 := sq y1fb y1aq
def yjj (d a j n o : AV) (h : Heap) : OX :=
ob (evFa 5 a) fun g =>
ob (evLd false 1 g h) fun l =>
ob (y8 .geq l (.int .i64 0)) fun b =>
gb b true (evFa 5 a) fun e =>
gb b true (evLd false 1 e h) fun v =>
gb b true (y8 .lss v (.int .i64 1000)) fun p =>
ob (yd b p (.bool false)) fun u =>
cnd u
 (ob (evFa 5 a) fun i =>
ob (evLd false 1 i h) fun m =>
oh (y9 E (yb E) 0 none true 66 [m] h) fun c h16 =>
ob (y3z 0 c) fun t =>
ob (y3z 1 c) fun r =>
ob (y3z 2 c) fun k =>
(yfm d a t r k h16))
 ((yfm d a j n o h))
def y20d (s : St) : OX := yjj (s 2) (s 3) (s 8) (s 9) (s 10) s.h
theorem y1b6 : T0 yrn [.t 4] y20d := sq y1c2 fun _ => by kernel_rfl
def yi4 (b a : AV) (h : Heap) : OX :=
(yjj b a (.int .i64 0) (.int .i64 0) (.int .i64 0) h)
def y5e (s : St) : OX := yi4 (s 2) (s 3) s.h
theorem y1as : T0 yrh [.t 4] y5e := sq y1b6 fun _ => by kernel_rfl
def y5g (c d e a b : AV) (h : Heap) : OX :=
  W E 0 yf4 ⟨[(2, c), (3, d), (5, e), (6, a), (7, b)], h⟩ y5e (y5 0 y5e xN) (finP [.t 4])
def y7w (s : St) : OX := y5g (s 2) (s 3) (s 5) (s 6) (s 7) s.h
theorem yiy : T1 yf4 y5e (y5 0 y5e xN) [.t 4] y7w := fun s => yj.trans (by kernel_rfl)
def yp0 (c d e a b : AV) (h : Heap) : OX :=
ob (y8 .add b (.int .i64 1)) fun g =>
(y5g c d e a g h)
def y1yd (s : St) : OX := yp0 (s 2) (s 3) (s 5) (s 6) (s 7) s.h
theorem y1br : T1 yqg y7w (y5 0 y5e xN) [.t 4] y1yd := fun _ => by kernel_rfl
def yvs (c l d b a : AV) (h : Heap) : OX :=
ob (evLd true 5 c h) fun m =>
ob (yw 1 b a) fun i =>
ob (evLd false 1 i h) fun j =>
ob (y5q d a) fun e =>
oh (y9 E (yb E) 0 none true 65 [m, j, e] h) fun k h17 =>
ob (evUn .not k) fun g =>
cnd g
 ((yf h17 (.bool false)))
 ((yp0 c l d b a h17))
def y1yz (s : St) : OX := yvs (s 2) (s 3) (s 5) (s 6) (s 7) s.h
theorem y1ao : T1 yq0 y7w (y5 0 y5e xN) [.t 4] y1yz := sq y1br fun _ => by kernel_rfl
def yfo (b c g d a : AV) (h : Heap) : OX :=
ob (y8 .lss a (.int .i64 4)) fun e =>
cnd e
 ((yvs b c g d a h))
 ((yi4 b c h))
def y25h (s : St) : OX := yfo (s 2) (s 3) (s 5) (s 6) (s 7) s.h
theorem y1bu : T1 yqk y7w (y5 0 y5e xN) [.t 4] y25h := sq y1ao fun _ => by kernel_rfl
theorem yko (c d e a b : AV) (h : Heap) : y5g c d e a b h = (yfo c d e a b h) :=
  y28.trans ((y1c _ _ _ (n' := y7w) (fun s => yiy s)).trans ((y1bu _).trans (by kernel_rfl)))
theorem y1cl : T1 yuk y5e xN [.t 4] y7w := fun s => yy.trans (yiy s)
def yv3 (d c b a : AV) (h : Heap) : OX :=
(y5g d c b a (.int .i64 0) h)
def y13a (s : St) : OX := yv3 (s 2) (s 3) (s 5) (s 6) s.h
theorem y1bq : T1 yuu y5e xN [.t 4] y13a := sq y1cl fun _ => by kernel_rfl
theorem y1c8 : T0 ysc [.t 4] y13a := sq y1as y1bq
def ywo (d a k : AV) (h : Heap) : OX :=
ob (evFa 1 a) fun c =>
ob (evLd false 1 c h) fun j =>
ob (evFa 2 a) fun i =>
ob (evLd false 1 i h) fun e =>
ob (evFa 3 a) fun m =>
ob (evLd false 1 m h) fun n =>
ob (evFa 4 a) fun b =>
ob (evLd false 1 b h) fun l =>
oh (y12 0 (some 2) 1 4 [(.int .i64 0)] [(0, j), (1, e), (2, n), (3, l)] h) fun g h18 =>
(yv3 d a k g h18)
def y1xm (s : St) : OX := ywo (s 2) (s 3) (s 5) s.h
theorem y1ay : T0 yui [.t 4] y1xm := sq y1c8 fun _ => by kernel_rfl
def yiu (d b a : AV) (h : Heap) : OX :=
ob (y8 .eql a (AV.str [])) fun c =>
cnd c
 ((yf h (.bool false)))
 ((ywo d b a h))
def y1zm (s : St) : OX := yiu (s 2) (s 3) (s 5) s.h
theorem y1cn : T0 ytu [.t 4] y1zm := sq y1ay fun _ => by kernel_rfl
def ykx (c a : AV) (h : Heap) : OX :=
ob (evFa 0 a) fun b =>
ob (evLd false 1 b h) fun e =>
oh (y9 E (yb E) 0 none true 38 [e] h) fun d h19 =>
(yiu c a d h19)
def y1zs (s : St) : OX := ykx (s 2) (s 3) s.h
theorem y18u : T0 ys3 [.t 4] y1zs := sq y1cn fun _ => by kernel_rfl
def yf6 (b d : AV) (h : Heap) : OX :=
oh (newC 0 (some 0) (cellsOf b) h) fun c h20 =>
oh (newC 0 (some 1) (cellsOf d) h20) fun a h21 =>
(ykx c a h21)
def y1x7 (s : St) : OX := yf6 (s 0) (s 1) s.h
theorem y1cm : T0 yt4 [.t 4] y1x7 := sq y18u fun _ => by kernel_rfl
@[simp] theorem y2q5 : E.pure 64 = true := rfl
theorem y2jl (a b : AV) : (yb E).p 64 [a, b] = yf6 a b [⟨0, .dead⟩, ⟨0, .dead⟩, ⟨0, .dead⟩] :=
  (y15 (cf := y270) (by kernel_rfl) rfl).trans ((y1cm _).trans (by kernel_rfl))
def y1ir (a : AV) (h : Heap) : OX :=
oh (y12 0 (some 0) 1 3 [(.int .i64 0)] [(0, (.int .i64 27)), (1, (.int .i64 28)), (2, (.int .i64 29))] h) fun b h1 =>
oh (y9 E (yb E) 0 none true 42 [a, b] h1) fun c h2 =>
(yf h2 c)
def y2g2 (s : St) : OX := y1ir (s 0) s.h
theorem y1eu : T0 y13i [.t 2] y2g2 := fun _ => by kernel_rfl
@[simp] theorem y2qx : E.pure 23 = true := rfl
theorem y2h4 (a : AV) : (yb E).p 23 [a] = y1ir a [⟨0, .dead⟩] :=
  (y15 (cf := y278) (by kernel_rfl) rfl).trans ((y1eu _).trans (by kernel_rfl))
def y1t3 (c b : AV) (h : Heap) : OX :=
oh (newC 0 (some 0) (cellsOf c) h) fun g h1 =>
ob (y8 .geq b (.int .i64 0)) fun a =>
gb a true (some b) fun d =>
gb a true (evFa 3 g) fun i =>
gb a true (evLd false 1 i h1) fun k =>
gb a true (y11 1 k h1) fun e =>
gb a true (y8 .lss d e) fun l =>
ob (yd a l (.bool false)) fun j =>
(yf h1 j)
def y2fe (s : St) : OX := y1t3 (s 0) (s 1) s.h
theorem y1sq : T0 y148 [.t 4] y2fe := fun _ => by kernel_rfl
@[simp] theorem y2qj : E.pure 49 = true := rfl
theorem y2jx (a b : AV) : (yb E).p 49 [a, b] = y1t3 a b [⟨0, .dead⟩] :=
  (y15 (cf := y269) (by kernel_rfl) rfl).trans ((y1sq _).trans (by kernel_rfl))
def y1il (a : AV) (h : Heap) : OX :=
oh (y12 0 (some 0) 1 0 [(.bool false)] [] h) fun c h1 =>
oh (y41 0 (some 1) 1 1 c a h1) fun b h2 =>
(yf h2 b)
def y2er (s : St) : OX := y1il (s 0) s.h
theorem y1fu : T0 yxm [.t 2] y2er := fun _ => by kernel_rfl
def y1qo (a : AV) (h : Heap) : OX :=
ob (y4s 1 false a AV.nils) fun b =>
cnd b
 ((yf h AV.nils))
 ((y1il a h))
def y2dh (s : St) : OX := y1qo (s 0) s.h
theorem y1i2 : T0 y158 [.t 2] y2dh := sq y1fu fun _ => by kernel_rfl
def y1dg (a : AV) (h : Heap) : OX :=
(y1qo a h)
def y2bb (s : St) : OX := y1dg (s 0) s.h
theorem y1l7 : T0 yzg [.t 2] y2bb := sq y1i2 fun _ => by kernel_rfl
@[simp] theorem y2q0 : E.pure 78 = true := rfl
theorem y2m5 (a : AV) : (yb E).p 78 [a] = y1dg a [⟨0, .dead⟩, ⟨0, .dead⟩] :=
  (y15 (cf := y25l) (by kernel_rfl) rfl).trans ((y1l7 _).trans (by kernel_rfl))
def y1rf (fb : Nat) (a : AV) (h : Heap) : Option (AV × Heap) :=
(some (a, h))
def y26e (fb : Nat) (s : St) : Option (AV × Heap) := y1rf fb (s 3) s.h
theorem y20w (fb : Nat) (s : St) : W E fb y1ut s (finI [.t 8]) xN (finI [.t 8]) = y26e fb s :=
  by kernel_rfl
def y194 (fb : Nat) (b a c : AV) (h : Heap) : Option (AV × Heap) :=
cnd c
 (oh (y12 fb (some 3) 1 1 [(.int .i64 0)] [(0, b)] h) fun d h1 =>
oh (y41 fb (some 4) 1 8 a d h1) fun e h2 =>
(y1rf fb e h2))
 ((y1rf fb a h))
def ya8 (fb : Nat) (s : St) : Option (AV × Heap) := y194 fb (s 1) (s 3) (s 9) s.h
theorem y1zn (fb : Nat) (s : St) : W E fb y1pn s (finI [.t 8]) xN (finI [.t 8]) = ya8 fb s :=
  (yej (k := (y26e fb)) (fun s => y20w fb s)).trans (by kernel_rfl)
def yro (fb : Nat) (a d c g e i b j : AV) (h : Heap) : Option (AV × Heap) :=
  W E fb you ⟨[(0, a), (1, d), (2, c), (3, g), (9, e), (29, i), (30, b), (31, j)], h⟩ (ya8 fb) (y5 0 (ya8 fb) xN) (finI [.t 8])
def yb5 (fb : Nat) (s : St) : Option (AV × Heap) := yro fb (s 0) (s 1) (s 2) (s 3) (s 9) (s 29) (s 30) (s 31) s.h
theorem ysj (fb : Nat) (s : St) : W E fb you s (ya8 fb) (y5 0 (ya8 fb) xN) (finI [.t 8]) = yb5 fb s := yj.trans (by kernel_rfl)
def y1by (fb : Nat) (a d c g e i b j : AV) (h : Heap) : Option (AV × Heap) :=
ob (y8 .add j (.int .i64 1)) fun k =>
(yro fb a d c g e i b k h)
def y25n (fb : Nat) (s : St) : Option (AV × Heap) := y1by fb (s 0) (s 1) (s 2) (s 3) (s 9) (s 29) (s 30) (s 31) s.h
theorem y253 (fb : Nat) (s : St) : W E fb y1lg s (yb5 fb) (y5 0 (ya8 fb) xN) (finI [.t 8]) = y25n fb s :=
  by kernel_rfl
def y1js (fb : Nat) (c e g i l d j b : AV) (h : Heap) : Option (AV × Heap) :=
ob (yw 1 d b) fun m =>
ob (evLd false 1 m h) fun a =>
gb a true (some g) fun t =>
gb a true (some b) fun k =>
gb a true (yw 1 t k) fun v =>
gb a true (evLd false 1 v h) fun o =>
gb a true (evUn .not o) fun r =>
ob (yd a r (.bool false)) fun n =>
cnd n
 (ob (yw 1 c e) fun p =>
ob (evLd false 1 p h) fun u =>
ob (yw 1 u b) fun w =>
oh (evSt 1 w (.bool false) h) fun _ h3 =>
(y1by fb c e g i (.bool true) d j b h3))
 ((y1by fb c e g i l d j b h))
def y26l (fb : Nat) (s : St) : Option (AV × Heap) := y1js fb (s 0) (s 1) (s 2) (s 3) (s 9) (s 29) (s 30) (s 31) s.h
theorem y24f (fb : Nat) (s : St) : W E fb y1sf s (yb5 fb) (y5 0 (ya8 fb) xN) (finI [.t 8]) = y26l fb s :=
  (yej (k := (y25n fb)) (fun s => y253 fb s)).trans (by kernel_rfl)
def y1aj (fb : Nat) (d a i c b j e k g : AV) (h : Heap) : Option (AV × Heap) :=
cnd g
 ((y1js fb d a i c b j e k h))
 ((y194 fb a c b h))
def y26w (fb : Nat) (s : St) : Option (AV × Heap) := y1aj fb (s 0) (s 1) (s 2) (s 3) (s 9) (s 29) (s 30) (s 31) (s 32) s.h
theorem y20o (fb : Nat) (s : St) : W E fb y1gg s (yb5 fb) (y5 0 (ya8 fb) xN) (finI [.t 8]) = y26w fb s :=
  (yej (k := (y26l fb)) (fun s => y24f fb s)).trans (by kernel_rfl)
def y1c7 (fb : Nat) (c g e j i k a b : AV) (h : Heap) : Option (AV × Heap) :=
ob (y8 .lss b a) fun d =>
(y1aj fb c g e j i k a b d h)
def y2ij (fb : Nat) (s : St) : Option (AV × Heap) := y1c7 fb (s 0) (s 1) (s 2) (s 3) (s 9) (s 29) (s 30) (s 31) s.h
theorem y23o (fb : Nat) (s : St) : W E fb y1li s (yb5 fb) (y5 0 (ya8 fb) xN) (finI [.t 8]) = y2ij fb s :=
  (yej (k := (y26w fb)) (fun s => y20o fb s)).trans (by kernel_rfl)
theorem yt5 (fb : Nat) (a d c g e i b j : AV) (h : Heap) : yro fb a d c g e i b j h = (y1c7 fb a d c g e i b j h) :=
  y28.trans ((y1c _ _ _ (n' := (yb5 fb)) (fun s => ysj fb s)).trans ((y23o fb _).trans (by kernel_rfl)))
theorem y21d (fb : Nat) (s : St) : W E fb y1t8 s (ya8 fb) xN (finI [.t 8]) = yb5 fb s :=
  yy.trans (ysj fb s)
def y28j (fb : Nat) (a c e i g : AV) (h : Heap) : Option (AV × Heap) :=
ob (yw 1 a c) fun j =>
ob (evLd false 1 j h) fun b =>
ob (y11 1 b h) fun d =>
(yro fb a c e i g b d (.int .i64 0) h)
def y1kq (fb : Nat) (s : St) : Option (AV × Heap) := y28j fb (s 0) (s 1) (s 2) (s 3) (s 9) s.h
theorem y22k (fb : Nat) (s : St) : W E fb y1cu s (ya8 fb) xN (finI [.t 8]) = y1kq fb s :=
  (yej (k := (yb5 fb)) (fun s => y21d fb s)).trans (by kernel_rfl)
theorem y1gz (fb : Nat) (s : St) : W E fb yxg s (finI [.t 8]) xN (finI [.t 8]) = y1kq fb s :=
  (yej (k := (ya8 fb)) (fun s => y1zn fb s)).trans (y22k fb s)
def y1l4 (fb : Nat) (b d c a : AV) (h : Heap) : Option (AV × Heap) :=
(y28j fb b d c a (.bool false) h)
def y1g4 (fb : Nat) (s : St) : Option (AV × Heap) := y1l4 fb (s 0) (s 1) (s 2) (s 3) s.h
theorem y1f0 (fb : Nat) (s : St) : W E fb y116 s (finI [.t 8]) xN (finI [.t 8]) = y1g4 fb s :=
  (yej (k := (y1kq fb)) (fun s => y1gz fb s)).trans (by kernel_rfl)
def ynr (fb : Nat) (b a c d : AV) (h : Heap) : Option (AV × Heap) :=
ob (yw 1 b a) fun k =>
ob (evLd false 1 k h) fun j =>
ob (y4s 1 false j AV.nils) fun e =>
cnd e
 (oh (y9 E (yb E) fb (some 0) false 78 [c] h) fun l h4 =>
ob (yw 1 b a) fun m =>
oh (evSt 1 m l h4) fun _ h5 =>
oh (y12 fb (some 1) 1 1 [(.int .i64 0)] [(0, a)] h5) fun g h6 =>
oh (y41 fb (some 2) 1 8 d g h6) fun i h7 =>
(some (i, h7)))
 ((y1l4 fb b a c d h))
def y1es (fb : Nat) (s : St) : Option (AV × Heap) := ynr fb (s 0) (s 1) (s 2) (s 3) s.h
theorem y1g3 (fb : Nat) (s : St) : W E fb y15g s (finI [.t 8]) xN (finI [.t 8]) = y1es fb s :=
  (yej (k := (y1g4 fb)) (fun s => y1f0 fb s)).trans (by kernel_rfl)
def y25q (fb : Nat) (b d c a : AV) (h : Heap) : Option (AV × Heap) :=
(ynr fb b d c a h)
def y28b (fb : Nat) (s : St) : Option (AV × Heap) := y25q fb (s 0) (s 1) (s 2) (s 3) s.h
theorem y1i3 (fb : Nat) (s : St) : W E fb yyb s (finI [.t 8]) xN (finI [.t 8]) = y28b fb s :=
  (yej (k := (y1es fb)) (fun s => y1g3 fb s)).trans (by kernel_rfl)
@[simp] theorem y2nr : E.pure 80 = false := rfl
theorem y2q2 (fb : Nat) (b d c a : AV) (h : Heap) : (yb E).i 80 [b, d, c, a] fb h = y25q fb b d c a (if fb = h.length then h ++ yv 5 else h) :=
  (y1fi (cf := y2hs) (by kernel_rfl) rfl).trans ((y1i3 fb _).trans (by kernel_rfl))
def y2g5 (c : AV) (h : Heap) : OX :=
oh (newC 0 (some 0) (cellsOf c) h) fun b h1 =>
ob (evFa 0 b) fun i =>
ob (evLd false 1 i h1) fun k =>
ob (y8 .geq k (.int .i64 23)) fun a =>
gb a true (evFa 0 b) fun d =>
gb a true (evLd false 1 d h1) fun e =>
gb a true (y8 .leq e (.int .i64 26)) fun g =>
ob (yd a g (.bool false)) fun j =>
(yf h1 j)
def y2mi (s : St) : OX := y2g5 (s 0) s.h
theorem y25j : T0 y1cw [.t 2] y2mi := fun _ => by kernel_rfl
@[simp] theorem yv6 : E.pure 17 = true := rfl
theorem y2qy (a : AV) : (yb E).p 17 [a] = y2g5 a [⟨0, .dead⟩] :=
  (y15 (cf := y2md) (by kernel_rfl) rfl).trans ((y25j _).trans (by kernel_rfl))
def ymq (h : Heap) : OX :=
(yf h (.int .i64 (-1)))
def y6m (s : St) : OX := ymq s.h
theorem y1mq : T0 y0n [.t 4] y6m := fun _ => by kernel_rfl
def yhy (b d c a : AV) (h : Heap) : OX :=
  W E 0 yj3 ⟨[(0, b), (1, d), (7, c), (8, a)], h⟩ y6m (y5 0 y6m xN) (finP [.t 4])
def y8g (s : St) : OX := yhy (s 0) (s 1) (s 7) (s 8) s.h
theorem yod : T1 yj3 y6m (y5 0 y6m xN) [.t 4] y8g := fun s => yj.trans (by kernel_rfl)
def yll (a d b c : AV) (h : Heap) : OX :=
ob (y8 .add c (.int .i64 1)) fun e =>
(yhy a d b e h)
def y2co (s : St) : OX := yll (s 0) (s 1) (s 7) (s 8) s.h
theorem y1go : T1 yys y8g (y5 0 y6m xN) [.t 4] y2co := fun _ => by kernel_rfl
def ynv (b c d a : AV) (h : Heap) : OX :=
ob (yw 1 b a) fun i =>
ob (evLd false 1 i h) fun g =>
ob (y8 .eql c g) fun e =>
cnd e
 ((yf h a))
 ((yll b c d a h))
def y2fv (s : St) : OX := ynv (s 0) (s 1) (s 7) (s 8) s.h
theorem y1tc : T1 yxr y8g (y5 0 y6m xN) [.t 4] y2fv := sq y1go fun _ => by kernel_rfl
def ym2 (a d b c e : AV) (h : Heap) : OX :=
cnd e
 ((ynv a d b c h))
 ((ymq h))
def y29a (s : St) : OX := ym2 (s 0) (s 1) (s 7) (s 8) (s 9) s.h
theorem y1th : T1 y16a y8g (y5 0 y6m xN) [.t 4] y29a := sq y1tc fun _ => by kernel_rfl
def ymt (c d a b : AV) (h : Heap) : OX :=
ob (y8 .lss b a) fun e =>
(ym2 c d a b e h)
def y28m (s : St) : OX := ymt (s 0) (s 1) (s 7) (s 8) s.h
theorem y1kt : T1 y17d y8g (y5 0 y6m xN) [.t 4] y28m := sq y1th fun _ => by kernel_rfl
theorem ym1 (b d c a : AV) (h : Heap) : yhy b d c a h = (ymt b d c a h) :=
  y28.trans ((y1c _ _ _ (n' := y8g) (fun s => yod s)).trans ((y1kt _).trans (by kernel_rfl)))
theorem y1j5 : T1 y11t y6m xN [.t 4] y8g := fun s => yy.trans (yod s)
def ym7 (a c : AV) (h : Heap) : OX :=
ob (y11 1 a h) fun b =>
(yhy a c b (.int .i64 0) h)
def y1vd (s : St) : OX := ym7 (s 0) (s 1) s.h
theorem y1gr : T1 y129 y6m xN [.t 4] y1vd := sq y1j5 fun _ => by kernel_rfl
theorem y1de : T0 y18m [.t 4] y1vd := sq y1mq y1gr
def yfd (a b : AV) (h : Heap) : OX :=
(ym7 a b h)
def y20s (s : St) : OX := yfd (s 0) (s 1) s.h
theorem y1ad : T0 ytx [.t 4] y20s := sq y1de fun _ => by kernel_rfl
@[simp] theorem y2q4 : E.pure 45 = true := rfl
theorem y2mu (a b : AV) : (yb E).p 45 [a, b] = yfd a b [] :=
  (y15 (cf := y264) (by kernel_rfl) rfl).trans ((y1ad _).trans (by kernel_rfl))
def yh0 (e b : AV) (h : Heap) : OX :=
ob (evLd true 9 e h) fun d =>
oh (y9 E (yb E) 0 none true 51 [d] h) fun a h1 =>
ob (y3z 0 a) fun g =>
ob (y3z 1 a) fun c =>
oh (evSt 4 b g h1) fun _ h2 =>
(ob (evLd true 4 b h2) fun r0 =>
  yf h2 (.tup [r0, c]))
def yl (s : St) : OX := yh0 (s 1) (s 2) s.h
theorem y25d : T0 y1fw [.cell 2 true 4, .t 3] yl := fun _ => by kernel_rfl
def yfw (d a b : AV) (h : Heap) : OX :=
cnd b
 (ob (y10 [(.int .i64 0), (.int .i64 0), (.int .i64 0), (.int .i64 0)] [(0, 1, (.int .i64 (-1))), (1, 1, (.int .i64 (-1))), (2, 1, (.int .i64 (-1))), (3, 1, (.int .i64 (-1)))]) fun c =>
oh (evSt 4 a c h) fun _ h3 =>
(ob (evLd true 4 a h3) fun r0 =>
  yf h3 (.tup [r0, (.bool true)])))
 ((yh0 d a h))
def y2m6 (s : St) : OX := yfw (s 1) (s 2) (s 134) s.h
theorem y21y : T1 y1v7 yl (y5 0 yl xN) [.cell 2 true 4, .t 3] y2m6 := fun _ => by kernel_rfl
def yh4 (d c b : AV) (h : Heap) : OX :=
ob (y8 .eql b (.int .i64 27)) fun a =>
cnd a
 ((yfw d c a h))
 (ob (y8 .eql b (.int .i64 33)) fun e =>
(yfw d c e h))
def y2ik (s : St) : OX := yh4 (s 1) (s 2) (s 11) s.h
theorem y241 : T1 y1od yl (y5 0 yl xN) [.cell 2 true 4, .t 3] y2ik := sq y21y fun _ => by kernel_rfl
def yh5 (c b g k : AV) (h : Heap) : OX :=
cnd k
 (ob (y10 [(.int .i64 0), (.int .i64 0), (.int .i64 0), (.int .i64 0)] [(0, 1, (.int .i64 (-1))), (1, 1, (.int .i64 1)), (2, 1, (.int .i64 1)), (3, 1, (.int .i64 (-1)))]) fun j =>
ob (evFa 5 c) fun e =>
ob (evLd false 1 e h) fun i =>
ob (y8 .geq i (.int .i64 0)) fun a =>
ofp (fgd a true (some ([], []))) fun f5 =>
gb a true (evFa 5 c) fun d =>
ofp (fgd a true (some (ids1 d, []))) fun f6 =>
gb a true (evLd false 1 d h) fun m =>
ofp (fgd a true (some ([], []))) fun f7 =>
gb a true (y8 .leq m (.int .i64 5)) fun l =>
ob (yd a l (.bool false)) fun n =>
oh (evSt 4 b j h) fun _ h4 =>
okK (yg [([], []), ([], []), (ids1 e, []), ([], []), ([], []), f5, f6, f7, ([], []), ([], ids1 b), ([], [])] [(6, 9)]) <|
(ob (evLd true 4 b h4) fun r0 =>
  yf h4 (.tup [r0, n])))
 ((yh4 c b g h))
def y2m1 (s : St) : OX := yh5 (s 1) (s 2) (s 11) (s 123) s.h
theorem y1x3 : T1 y1qf yl (y5 0 yl xN) [.cell 2 true 4, .t 3] y2m1 := fun s => (y1b rfl (y241 s)).trans (by kernel_rfl)
def ygz (d c a : AV) (h : Heap) : OX :=
ob (y8 .eql a (.int .i64 28)) fun b =>
(yh5 d c a b h)
def y2mg (s : St) : OX := ygz (s 1) (s 2) (s 11) s.h
theorem y218 : T1 y1jq yl (y5 0 yl xN) [.cell 2 true 4, .t 3] y2mg := sq y1x3 fun _ => by kernel_rfl
def yh8 (b a e d : AV) (h : Heap) : OX :=
cnd d
 (ob (y10 [(.int .i64 0), (.int .i64 0), (.int .i64 0), (.int .i64 0)] [(0, 1, (.int .i64 3)), (1, 1, (.int .i64 1)), (2, 1, (.int .i64 (-1))), (3, 1, (.int .i64 (-1)))]) fun g =>
ob (evFa 7 b) fun j =>
ob (evLd false 1 j h) fun c =>
oh (y9 E (yb E) 0 none true 37 [c] h) fun i h5 =>
oh (evSt 4 a g h5) fun _ h6 =>
(ob (evLd true 4 a h6) fun r0 =>
  yf h6 (.tup [r0, i])))
 ((ygz b a e h))
def y2kl (s : St) : OX := yh8 (s 1) (s 2) (s 11) (s 117) s.h
theorem y1wq : T1 y1cx yl (y5 0 yl xN) [.cell 2 true 4, .t 3] y2kl := fun s => (y1b rfl (y218 s)).trans (by kernel_rfl)
def yh2 (d c a : AV) (h : Heap) : OX :=
ob (y8 .eql a (.int .i64 21)) fun b =>
(yh8 d c a b h)
def y2k2 (s : St) : OX := yh2 (s 1) (s 2) (s 11) s.h
theorem y1xw : T1 y1nv yl (y5 0 yl xN) [.cell 2 true 4, .t 3] y2k2 := sq y1wq fun _ => by kernel_rfl
def yh3 (c a b e : AV) (h : Heap) : OX :=
cnd e
 (ob (y10 [(.int .i64 0), (.int .i64 0), (.int .i64 0), (.int .i64 0)] [(0, 1, (.int .i64 (-1))), (1, 1, (.int .i64 0)), (2, 1, (.int .i64 (-1))), (3, 1, (.int .i64 (-1)))]) fun d =>
oh (evSt 4 a d h) fun _ h7 =>
(ob (evLd true 4 a h7) fun r0 =>
  yf h7 (.tup [r0, (.bool true)])))
 ((yh2 c a b h))
def y2k7 (s : St) : OX := yh3 (s 1) (s 2) (s 11) (s 114) s.h
theorem y20p : T1 y1jt yl (y5 0 yl xN) [.cell 2 true 4, .t 3] y2k7 := fun s => (y1b rfl (y1xw s)).trans (by kernel_rfl)
def yh1 (d b a : AV) (h : Heap) : OX :=
ob (y8 .eql a (.int .i64 19)) fun c =>
(yh3 d b a c h)
def y2ms (s : St) : OX := yh1 (s 1) (s 2) (s 11) s.h
theorem y20a : T1 y1t7 yl (y5 0 yl xN) [.cell 2 true 4, .t 3] y2ms := sq y20p fun _ => by kernel_rfl
def y9r (c a g e : AV) (h : Heap) : OX :=
cnd e
 (ob (y10 [(.int .i64 0), (.int .i64 0), (.int .i64 0), (.int .i64 0)] [(0, 1, (.int .i64 (-1))), (1, 1, (.int .i64 3)), (2, 1, (.int .i64 0)), (3, 1, (.int .i64 (-1)))]) fun i =>
ob (evFa 5 c) fun b =>
ob (evLd false 1 b h) fun d =>
ob (y8 .geq d (.int .i64 0)) fun j =>
oh (evSt 4 a i h) fun _ h8 =>
okK (yg [([], []), ([], []), (ids1 b, []), ([], []), ([], ids1 a), ([], [])] [(2, 4)]) <|
(ob (evLd true 4 a h8) fun r0 =>
  yf h8 (.tup [r0, j])))
 ((yh1 c a g h))
def y27x (s : St) : OX := y9r (s 1) (s 2) (s 11) (s 108) s.h
theorem y1gi : T1 y14z yl (y5 0 yl xN) [.cell 2 true 4, .t 3] y27x := fun s => (y1b rfl (y20a s)).trans (by kernel_rfl)
def y9z (d b a : AV) (h : Heap) : OX :=
ob (y8 .eql a (.int .i64 17)) fun c =>
(y9r d b a c h)
def y2ad (s : St) : OX := y9z (s 1) (s 2) (s 11) s.h
theorem y1gw : T1 y17u yl (y5 0 yl xN) [.cell 2 true 4, .t 3] y2ad := sq y1gi fun _ => by kernel_rfl
def y9u (b a g e : AV) (h : Heap) : OX :=
cnd e
 (ob (y10 [(.int .i64 0), (.int .i64 0), (.int .i64 0), (.int .i64 0)] [(0, 1, (.int .i64 0)), (1, 1, (.int .i64 3)), (2, 1, (.int .i64 (-1))), (3, 1, (.int .i64 (-1)))]) fun d =>
ob (evFa 5 b) fun c =>
ob (evLd false 1 c h) fun i =>
ob (y8 .geq i (.int .i64 0)) fun j =>
oh (evSt 4 a d h) fun _ h9 =>
okK (yg [([], []), ([], []), (ids1 c, []), ([], []), ([], ids1 a), ([], [])] [(2, 4)]) <|
(ob (evLd true 4 a h9) fun r0 =>
  yf h9 (.tup [r0, j])))
 ((y9z b a g h))
def y2cr (s : St) : OX := y9u (s 1) (s 2) (s 11) (s 102) s.h
theorem y1iu : T1 y17v yl (y5 0 yl xN) [.cell 2 true 4, .t 3] y2cr := fun s => (y1b rfl (y1gw s)).trans (by kernel_rfl)
def ya3 (d b a : AV) (h : Heap) : OX :=
ob (y8 .eql a (.int .i64 16)) fun c =>
(y9u d b a c h)
def y2fo (s : St) : OX := ya3 (s 1) (s 2) (s 11) s.h
theorem y1ue : T1 y18j yl (y5 0 yl xN) [.cell 2 true 4, .t 3] y2fo := sq y1iu fun _ => by kernel_rfl
def y9n (d a c e : AV) (h : Heap) : OX :=
cnd e
 (ob (y10 [(.int .i64 0), (.int .i64 0), (.int .i64 0), (.int .i64 0)] [(0, 1, (.int .i64 1)), (1, 1, (.int .i64 3)), (2, 1, (.int .i64 (-1))), (3, 1, (.int .i64 (-1)))]) fun b =>
oh (evSt 4 a b h) fun _ h10 =>
(ob (evLd true 4 a h10) fun r0 =>
  yf h10 (.tup [r0, (.bool true)])))
 ((ya3 d a c h))
def y2d9 (s : St) : OX := y9n (s 1) (s 2) (s 11) (s 99) s.h
theorem y1hw : T1 y110 yl (y5 0 yl xN) [.cell 2 true 4, .t 3] y2d9 := fun s => (y1b rfl (y1ue s)).trans (by kernel_rfl)
def y9c (d c a : AV) (h : Heap) : OX :=
ob (y8 .eql a (.int .i64 15)) fun b =>
(y9n d c a b h)
def y299 (s : St) : OX := y9c (s 1) (s 2) (s 11) s.h
theorem y1vo : T1 y13t yl (y5 0 yl xN) [.cell 2 true 4, .t 3] y299 := sq y1hw fun _ => by kernel_rfl
def y9w (d a c e : AV) (h : Heap) : OX :=
cnd e
 (ob (y10 [(.int .i64 0), (.int .i64 0), (.int .i64 0), (.int .i64 0)] [(0, 1, (.int .i64 (-1))), (1, 1, (.int .i64 3)), (2, 1, (.int .i64 1)), (3, 1, (.int .i64 0))]) fun b =>
oh (evSt 4 a b h) fun _ h11 =>
(ob (evLd true 4 a h11) fun r0 =>
  yf h11 (.tup [r0, (.bool true)])))
 ((y9c d a c h))
def y2e4 (s : St) : OX := y9w (s 1) (s 2) (s 11) (s 96) s.h
theorem y1jo : T1 y18h yl (y5 0 yl xN) [.cell 2 true 4, .t 3] y2e4 := fun s => (y1b rfl (y1vo s)).trans (by kernel_rfl)
def y9g (d b a : AV) (h : Heap) : OX :=
ob (y8 .eql a (.int .i64 14)) fun c =>
(y9w d b a c h)
def y2e6 (s : St) : OX := y9g (s 1) (s 2) (s 11) s.h
theorem y1ek : T1 yyu yl (y5 0 yl xN) [.cell 2 true 4, .t 3] y2e6 := sq y1jo fun _ => by kernel_rfl
def y96 (e a c d : AV) (h : Heap) : OX :=
cnd d
 (ob (y10 [(.int .i64 0), (.int .i64 0), (.int .i64 0), (.int .i64 0)] [(0, 1, (.int .i64 0)), (1, 1, (.int .i64 3)), (2, 1, (.int .i64 1)), (3, 1, (.int .i64 (-1)))]) fun b =>
oh (evSt 4 a b h) fun _ h12 =>
(ob (evLd true 4 a h12) fun r0 =>
  yf h12 (.tup [r0, (.bool true)])))
 ((y9g e a c h))
def y28p (s : St) : OX := y96 (s 1) (s 2) (s 11) (s 93) s.h
theorem y1ig : T1 y11p yl (y5 0 yl xN) [.cell 2 true 4, .t 3] y28p := fun s => (y1b rfl (y1ek s)).trans (by kernel_rfl)
def y9h (d b a : AV) (h : Heap) : OX :=
ob (y8 .eql a (.int .i64 13)) fun c =>
(y96 d b a c h)
def y2de (s : St) : OX := y9h (s 1) (s 2) (s 11) s.h
theorem y1nm : T1 y180 yl (y5 0 yl xN) [.cell 2 true 4, .t 3] y2de := sq y1ig fun _ => by kernel_rfl
def y99 (c a b d : AV) (h : Heap) : OX :=
cnd d
 (ob (y10 [(.int .i64 0), (.int .i64 0), (.int .i64 0), (.int .i64 0)] [(0, 1, (.int .i64 (-1))), (1, 1, (.int .i64 3)), (2, 1, (.int .i64 3)), (3, 1, (.int .i64 (-1)))]) fun e =>
oh (evSt 4 a e h) fun _ h13 =>
(ob (evLd true 4 a h13) fun r0 =>
  yf h13 (.tup [r0, (.bool true)])))
 ((y9h c a b h))
def y294 (s : St) : OX := y99 (s 1) (s 2) (s 11) (s 90) s.h
theorem y1dx : T1 y0x yl (y5 0 yl xN) [.cell 2 true 4, .t 3] y294 := fun s => (y1b rfl (y1nm s)).trans (by kernel_rfl)
def y9b (d c a : AV) (h : Heap) : OX :=
ob (y8 .eql a (.int .i64 11)) fun b =>
(y99 d c a b h)
def y2cu (s : St) : OX := y9b (s 1) (s 2) (s 11) s.h
theorem y1h0 : T1 y14b yl (y5 0 yl xN) [.cell 2 true 4, .t 3] y2cu := sq y1dx fun _ => by kernel_rfl
def y9y (d a c e : AV) (h : Heap) : OX :=
cnd e
 (ob (y10 [(.int .i64 0), (.int .i64 0), (.int .i64 0), (.int .i64 0)] [(0, 1, (.int .i64 (-1))), (1, 1, (.int .i64 1)), (2, 1, (.int .i64 (-1))), (3, 1, (.int .i64 (-1)))]) fun b =>
oh (evSt 4 a b h) fun _ h14 =>
(ob (evLd true 4 a h14) fun r0 =>
  yf h14 (.tup [r0, (.bool true)])))
 ((y9b d a c h))
def y2bn (s : St) : OX := y9y (s 1) (s 2) (s 11) (s 87) s.h
theorem y1qh : T1 y06 yl (y5 0 yl xN) [.cell 2 true 4, .t 3] y2bn := fun s => (y1b rfl (y1h0 s)).trans (by kernel_rfl)
def y9s (d b a : AV) (h : Heap) : OX :=
ob (y8 .eql a (.int .i64 10)) fun c =>
(y9y d b a c h)
def y2a6 (s : St) : OX := y9s (s 1) (s 2) (s 11) s.h
theorem y1do : T1 y14n yl (y5 0 yl xN) [.cell 2 true 4, .t 3] y2a6 := sq y1qh fun _ => by kernel_rfl
def y9k (d a b c : AV) (h : Heap) : OX :=
cnd c
 (ob (y10 [(.int .i64 0), (.int .i64 0), (.int .i64 0), (.int .i64 0)] [(0, 1, (.int .i64 (-1))), (1, 1, (.int .i64 3)), (2, 1, (.int .i64 1)), (3, 1, (.int .i64 (-1)))]) fun e =>
oh (evSt 4 a e h) fun _ h15 =>
(ob (evLd true 4 a h15) fun r0 =>
  yf h15 (.tup [r0, (.bool true)])))
 ((y9s d a b h))
def y28i (s : St) : OX := y9k (s 1) (s 2) (s 11) (s 84) s.h
theorem y1dh : T1 y0q yl (y5 0 yl xN) [.cell 2 true 4, .t 3] y28i := fun s => (y1b rfl (y1do s)).trans (by kernel_rfl)
def ya5 (d c a : AV) (h : Heap) : OX :=
ob (y8 .eql a (.int .i64 9)) fun b =>
(y9k d c a b h)
def y29v (s : St) : OX := ya5 (s 1) (s 2) (s 11) s.h
theorem y1l9 : T1 yz4 yl (y5 0 yl xN) [.cell 2 true 4, .t 3] y29v := sq y1dh fun _ => by kernel_rfl
def ya0 (b a c i : AV) (h : Heap) : OX :=
cnd i
 (ob (y10 [(.int .i64 0), (.int .i64 0), (.int .i64 0), (.int .i64 0)] [(0, 1, (.int .i64 1)), (1, 1, (.int .i64 3)), (2, 1, (.int .i64 (-1))), (3, 1, (.int .i64 (-1)))]) fun g =>
ob (evFa 7 b) fun j =>
ob (evLd false 1 j h) fun d =>
oh (y9 E (yb E) 0 none true 37 [d] h) fun e h16 =>
oh (evSt 4 a g h16) fun _ h17 =>
(ob (evLd true 4 a h17) fun r0 =>
  yf h17 (.tup [r0, e])))
 ((ya5 b a c h))
def y2f4 (s : St) : OX := ya0 (s 1) (s 2) (s 11) (s 78) s.h
theorem y1je : T1 y13u yl (y5 0 yl xN) [.cell 2 true 4, .t 3] y2f4 := fun s => (y1b rfl (y1l9 s)).trans (by kernel_rfl)
def ya6 (d c a : AV) (h : Heap) : OX :=
ob (y8 .eql a (.int .i64 22)) fun b =>
(ya0 d c a b h)
def y2bx (s : St) : OX := ya6 (s 1) (s 2) (s 11) s.h
theorem y1fc : T1 y16c yl (y5 0 yl xN) [.cell 2 true 4, .t 3] y2bx := sq y1je fun _ => by kernel_rfl
def y9e (b a g c : AV) (h : Heap) : OX :=
cnd c
 (ob (y10 [(.int .i64 0), (.int .i64 0), (.int .i64 0), (.int .i64 0)] [(0, 1, (.int .i64 (-1))), (1, 1, (.int .i64 3)), (2, 1, (.int .i64 (-1))), (3, 1, (.int .i64 (-1)))]) fun d =>
ob (evFa 7 b) fun e =>
ob (evLd false 1 e h) fun i =>
oh (y9 E (yb E) 0 none true 37 [i] h) fun j h18 =>
oh (evSt 4 a d h18) fun _ h19 =>
(ob (evLd true 4 a h19) fun r0 =>
  yf h19 (.tup [r0, j])))
 ((ya6 b a g h))
def y2fn (s : St) : OX := y9e (s 1) (s 2) (s 11) (s 72) s.h
theorem y1pa : T1 y08 yl (y5 0 yl xN) [.cell 2 true 4, .t 3] y2fn := fun s => (y1b rfl (y1fc s)).trans (by kernel_rfl)
def y9a (d b a : AV) (h : Heap) : OX :=
ob (y8 .eql a (.int .i64 12)) fun c =>
(y9e d b a c h)
def y28a (s : St) : OX := y9a (s 1) (s 2) (s 11) s.h
theorem y1g6 : T1 y12a yl (y5 0 yl xN) [.cell 2 true 4, .t 3] y28a := sq y1pa fun _ => by kernel_rfl
def y7j (d a c b : AV) (h : Heap) : OX :=
cnd b
 (ob (y10 [(.int .i64 0), (.int .i64 0), (.int .i64 0), (.int .i64 0)] [(0, 1, (.int .i64 (-1))), (1, 1, (.int .i64 3)), (2, 1, (.int .i64 (-1))), (3, 1, (.int .i64 (-1)))]) fun e =>
oh (evSt 4 a e h) fun _ h20 =>
(ob (evLd true 4 a h20) fun r0 =>
  yf h20 (.tup [r0, (.bool true)])))
 ((y9a d a c h))
def y2e1 (s : St) : OX := y7j (s 1) (s 2) (s 11) (s 68) s.h
theorem y1vb : T1 y15s yl (y5 0 yl xN) [.cell 2 true 4, .t 3] y2e1 := fun s => (y1b rfl (y1g6 s)).trans (by kernel_rfl)
def y9j (d b a : AV) (h : Heap) : OX :=
ob (y8 .eql a (.int .i64 8)) fun c =>
cnd c
 ((y7j d b a c h))
 (ob (y8 .eql a (.int .i64 31)) fun e =>
(y7j d b a e h))
def y2bv (s : St) : OX := y9j (s 1) (s 2) (s 11) s.h
theorem y1rh : T1 yzj yl (y5 0 yl xN) [.cell 2 true 4, .t 3] y2bv := sq y1vb fun _ => by kernel_rfl
def ya2 (c a b e : AV) (h : Heap) : OX :=
cnd e
 (ob (y10 [(.int .i64 0), (.int .i64 0), (.int .i64 0), (.int .i64 0)] [(0, 1, (.int .i64 (-1))), (1, 1, (.int .i64 0)), (2, 1, (.int .i64 (-1))), (3, 1, (.int .i64 (-1)))]) fun d =>
oh (evSt 4 a d h) fun _ h21 =>
(ob (evLd true 4 a h21) fun r0 =>
  yf h21 (.tup [r0, (.bool true)])))
 ((y9j c a b h))
def y282 (s : St) : OX := ya2 (s 1) (s 2) (s 11) (s 65) s.h
theorem y1q7 : T1 y13r yl (y5 0 yl xN) [.cell 2 true 4, .t 3] y282 := fun s => (y1b rfl (y1rh s)).trans (by kernel_rfl)
def ya4 (d b a : AV) (h : Heap) : OX :=
ob (y8 .eql a (.int .i64 7)) fun c =>
(ya2 d b a c h)
def y2d2 (s : St) : OX := ya4 (s 1) (s 2) (s 11) s.h
theorem y1lb : T1 y11s yl (y5 0 yl xN) [.cell 2 true 4, .t 3] y2d2 := sq y1q7 fun _ => by kernel_rfl
def y9v (e b l k : AV) (h : Heap) : OX :=
cnd k
 (ob (evFa 5 e) fun p =>
ob (evLd false 1 p h) fun o =>
oh (y9 E (yb E) 0 none true 50 [o] h) fun c h22 =>
ob (y3z 0 c) fun d =>
ob (y3z 1 c) fun n =>
ob (y3z 2 c) fun r =>
ob (y10 [(.int .i64 0), (.int .i64 0), (.int .i64 0), (.int .i64 0)] [(0, 1, r), (1, 1, d), (2, 1, (.int .i64 (-1))), (3, 1, (.int .i64 (-1)))]) fun i =>
ob (y8 .neq d (.int .i64 0)) fun a =>
gb a true (some n) fun g =>
gb a true (y8 .eql g (.int .i64 0)) fun j =>
ob (yd a j (.bool false)) fun m =>
oh (evSt 4 b i h22) fun _ h23 =>
(ob (evLd true 4 b h23) fun r0 =>
  yf h23 (.tup [r0, m])))
 ((ya4 e b l h))
def y29k (s : St) : OX := y9v (s 1) (s 2) (s 11) (s 47) s.h
theorem y1s9 : T1 y16p yl (y5 0 yl xN) [.cell 2 true 4, .t 3] y29k := fun s => (y1b rfl (y1lb s)).trans (by kernel_rfl)
def y9q (d b a : AV) (h : Heap) : OX :=
ob (y8 .eql a (.int .i64 6)) fun c =>
(y9v d b a c h)
def y2cz (s : St) : OX := y9q (s 1) (s 2) (s 11) s.h
theorem y1k7 : T1 y14r yl (y5 0 yl xN) [.cell 2 true 4, .t 3] y2cz := sq y1s9 fun _ => by kernel_rfl
def ya1 (a d i v : AV) (h : Heap) : OX :=
cnd v
 (ob (evFa 5 a) fun j =>
ob (evLd false 1 j h) fun m =>
oh (y9 E (yb E) 0 none true 50 [m] h) fun c h24 =>
ob (y3z 0 c) fun k =>
ob (y3z 1 c) fun e =>
ob (y3z 2 c) fun t =>
ob (y10 [(.int .i64 0), (.int .i64 0), (.int .i64 0), (.int .i64 0)] [(0, 1, t), (1, 1, k), (2, 1, e), (3, 1, (.int .i64 (-1)))]) fun u =>
ob (evFa 5 a) fun o =>
ob (evLd false 1 o h24) fun g =>
ob (evFa 5 a) fun r =>
ob (evLd false 1 r h24) fun l =>
ob (y8 .eql g l) fun b =>
gb b true (some e) fun w =>
gb b true (y8 .neq w (.int .i64 0)) fun p =>
ob (yd b p (.bool false)) fun n =>
oh (evSt 4 d u h24) fun _ h25 =>
(ob (evLd true 4 d h25) fun r0 =>
  yf h25 (.tup [r0, n])))
 ((y9q a d i h))
def y296 (s : St) : OX := ya1 (s 1) (s 2) (s 11) (s 25) s.h
theorem y1s6 : T1 y17y yl (y5 0 yl xN) [.cell 2 true 4, .t 3] y296 := fun s => (y1b rfl (y1k7 s)).trans (by kernel_rfl)
def y9l (d b a : AV) (h : Heap) : OX :=
ob (y8 .eql a (.int .i64 5)) fun c =>
(ya1 d b a c h)
def y2dq (s : St) : OX := y9l (s 1) (s 2) (s 11) s.h
theorem y1ij : T1 y0u yl (y5 0 yl xN) [.cell 2 true 4, .t 3] y2dq := sq y1s6 fun _ => by kernel_rfl
def ya7 (c a b e : AV) (h : Heap) : OX :=
cnd e
 (ob (y10 [(.int .i64 0), (.int .i64 0), (.int .i64 0), (.int .i64 0)] [(0, 1, (.int .i64 0)), (1, 1, (.int .i64 0)), (2, 1, (.int .i64 (-1))), (3, 1, (.int .i64 (-1)))]) fun d =>
oh (evSt 4 a d h) fun _ h26 =>
(ob (evLd true 4 a h26) fun r0 =>
  yf h26 (.tup [r0, (.bool true)])))
 ((y9l c a b h))
def y2c6 (s : St) : OX := ya7 (s 1) (s 2) (s 11) (s 22) s.h
theorem y1tu : T1 y142 yl (y5 0 yl xN) [.cell 2 true 4, .t 3] y2c6 := fun s => (y1b rfl (y1ij s)).trans (by kernel_rfl)
def y95 (d c a : AV) (h : Heap) : OX :=
ob (y8 .eql a (.int .i64 4)) fun b =>
(ya7 d c a b h)
def y2am (s : St) : OX := y95 (s 1) (s 2) (s 11) s.h
theorem y1v5 : T1 y15u yl (y5 0 yl xN) [.cell 2 true 4, .t 3] y2am := sq y1tu fun _ => by kernel_rfl
def y6b (d a b c : AV) (h : Heap) : OX :=
cnd c
 (ob (y10 [(.int .i64 0), (.int .i64 0), (.int .i64 0), (.int .i64 0)] [(0, 1, (.int .i64 3)), (1, 1, (.int .i64 (-1))), (2, 1, (.int .i64 (-1))), (3, 1, (.int .i64 (-1)))]) fun e =>
oh (evSt 4 a e h) fun _ h27 =>
(ob (evLd true 4 a h27) fun r0 =>
  yf h27 (.tup [r0, (.bool true)])))
 ((y95 d a b h))
def y29o (s : St) : OX := y6b (s 1) (s 2) (s 11) (s 16) s.h
theorem y1q3 : T1 y16h yl (y5 0 yl xN) [.cell 2 true 4, .t 3] y29o := fun s => (y1b rfl (y1v5 s)).trans (by kernel_rfl)
def y9o (c b a : AV) (h : Heap) : OX :=
ob (y8 .eql a (.int .i64 2)) fun g =>
cnd g
 ((y6b c b a g h))
 (ob (y8 .eql a (.int .i64 3)) fun e =>
cnd e
 ((y6b c b a e h))
 (ob (y8 .eql a (.int .i64 20)) fun d =>
cnd d
 ((y6b c b a d h))
 (ob (y8 .eql a (.int .i64 32)) fun i =>
(y6b c b a i h))))
def y2ec (s : St) : OX := y9o (s 1) (s 2) (s 11) s.h
theorem y1nn : T1 y16q yl (y5 0 yl xN) [.cell 2 true 4, .t 3] y2ec := sq y1q3 fun _ => by kernel_rfl
def y84 (c a b e : AV) (h : Heap) : OX :=
cnd e
 (ob (y10 [(.int .i64 0), (.int .i64 0), (.int .i64 0), (.int .i64 0)] [(0, 1, (.int .i64 0)), (1, 1, (.int .i64 (-1))), (2, 1, (.int .i64 (-1))), (3, 1, (.int .i64 (-1)))]) fun d =>
oh (evSt 4 a d h) fun _ h28 =>
(ob (evLd true 4 a h28) fun r0 =>
  yf h28 (.tup [r0, (.bool true)])))
 ((y9o c a b h))
def y28t (s : St) : OX := y84 (s 1) (s 2) (s 11) (s 12) s.h
theorem y1kd : T1 y18e yl (y5 0 yl xN) [.cell 2 true 4, .t 3] y28t := fun s => (y1b rfl (y1nn s)).trans (by kernel_rfl)
def y97 (d b a : AV) (h : Heap) : OX :=
ob (y8 .eql a (.int .i64 1)) fun c =>
cnd c
 ((y84 d b a c h))
 (ob (y8 .eql a (.int .i64 18)) fun e =>
(y84 d b a e h))
def y1lj (s : St) : OX := y97 (s 1) (s 2) (s 11) s.h
theorem y1tx : T1 y13l yl (y5 0 yl xN) [.cell 2 true 4, .t 3] y1lj := sq y1kd fun _ => by kernel_rfl
theorem y1lw : T1 yym yl xN [.cell 2 true 4, .t 3] y1lj := fun s => yy.trans (y1tx s)
def y9m (a c : AV) (h : Heap) : OX :=
ob (evFa 0 a) fun d =>
ob (evLd false 1 d h) fun b =>
(y97 a c b h)
def y1qk (s : St) : OX := y9m (s 1) (s 2) s.h
theorem y1e0 : T1 y189 yl xN [.cell 2 true 4, .t 3] y1qk := sq y1lw fun _ => by kernel_rfl
theorem y1r5 : T0 yzp [.cell 2 true 4, .t 3] y1qk := sq y25d y1e0
def y9x (a : AV) (h : Heap) : OX :=
oh (newC 0 (some 0) (cellsOf a) h) fun c h29 =>
oh (newC 0 (some 1) [(.int .i64 0), (.int .i64 0), (.int .i64 0), (.int .i64 0)] h29) fun b h30 =>
(y9m c b h30)
def y2bg (s : St) : OX := y9x (s 0) s.h
theorem y1iq : T0 yyz [.cell 2 true 4, .t 3] y2bg := sq y1r5 fun _ => by kernel_rfl
@[simp] theorem y2pc : E.pure 47 = true := rfl
theorem y1lq (a : AV) : (yb E).p 47 [a] = y9x a [⟨0, .dead⟩, ⟨0, .dead⟩] :=
  (y15 (cf := y2iv) (by kernel_rfl) rfl).trans ((y1iq _).trans (by kernel_rfl))
def y1j3 (m : AV) (h : Heap) : OX :=
oh (newC 0 (some 0) (cellsOf m) h) fun a h1 =>
ob (evFa 0 a) fun v =>
ob (evLd false 1 v h1) fun B =>
ob (y8 .geq B (.int .i64 7)) fun c =>
gb c true (evFa 0 a) fun x =>
gb c true (evLd false 1 x h1) fun n =>
gb c true (y8 .leq n (.int .i64 12)) fun i =>
ob (yd c i (.bool false)) fun d =>
gb d false (evFa 0 a) fun k =>
gb d false (evLd false 1 k h1) fun o =>
gb d false (y8 .eql o (.int .i64 20)) fun r =>
ob (yd d (.bool true) r) fun b =>
gb b false (evFa 0 a) fun w =>
gb b false (evLd false 1 w h1) fun y =>
gb b false (y8 .eql y (.int .i64 21)) fun j =>
ob (yd b (.bool true) j) fun e =>
gb e false (evFa 0 a) fun z =>
gb e false (evLd false 1 z h1) fun A =>
gb e false (y8 .eql A (.int .i64 31)) fun p =>
ob (yd e (.bool true) p) fun g =>
gb g false (evLd true 9 a h1) fun u =>
gh g false (y9 E (yb E) 0 none true 17 [u] h1) h1 fun l h2 =>
ob (yd g (.bool true) l) fun t =>
(yf h2 t)
def y2kg (s : St) : OX := y1j3 (s 0) s.h
theorem y23t : T0 y1vq [.t 2] y2kg := fun _ => by kernel_rfl
@[simp] theorem y2r0 : E.pure 18 = true := rfl
theorem y2oe (a : AV) : (yb E).p 18 [a] = y1j3 a [⟨0, .dead⟩] :=
  (y15 (cf := y2m0) (by kernel_rfl) rfl).trans ((y23t _).trans (by kernel_rfl))
def y1kv (b a : AV) (h : Heap) : OX :=
ob (yw 1 a b) fun c =>
ob (evLd false 1 c h) fun d =>
(yf h d)
def y2et (s : St) : OX := y1kv (s 0) (s 3) s.h
theorem y1oa : T0 y14l [.t 2] y2et := fun _ => by kernel_rfl
def y1nh (b c : AV) (h : Heap) : OX :=
ob (y8 .lss b (.int .i64 1)) fun a =>
gb a false (some b) fun d =>
gb a false (some c) fun g =>
gb a false (y11 1 g h) fun i =>
gb a false (y8 .geq d i) fun e =>
ob (yd a (.bool true) e) fun j =>
cnd j
 ((yf h (AV.str [])))
 ((y1kv b c h))
def y27z (s : St) : OX := y1nh (s 0) (s 3) s.h
theorem y1q8 : T0 y17r [.t 2] y27z := sq y1oa fun _ => by kernel_rfl
def y1jd (a : AV) (h : Heap) : OX :=
oh (y12 0 (some 0) 1 34 [(.str [])] [(0, (AV.str [])), (1, (AV.str [110, 45, 45, 45])), (2, (AV.str [51, 45, 45, 45])), (3, (AV.str [51, 45, 45, 45])), (4, (AV.str [42, 61, 45, 45])), (5, (AV.str [63, 63, 63, 63])), (6, (AV.str [63, 63, 63, 63])), (7, (AV.str [45, 110, 45, 45])), (8, (AV.str [45, 51, 45, 45])), (9, (AV.str [45, 51, 49, 45])), (10, (AV.str [45, 49, 45, 45])), (11, (AV.str [45, 51, 51, 45])), (12, (AV.str [45, 51, 45, 45])), (13, (AV.str [42, 51, 49, 45])), (14, (AV.str [45, 51, 49, 42])), (15, (AV.str [49, 51, 45, 45])), (16, (AV.str [42, 51, 45, 45])), (17, (AV.str [45, 51, 42, 45])), (18, (AV.str [42, 45, 45, 45])), (19, (AV.str [45, 42, 45, 45])), (20, (AV.str [51, 45, 45, 45])), (21, (AV.str [51, 49, 45, 45])), (22, (AV.str [49, 51, 45, 45])), (23, (AV.str [63, 63, 63, 63])), (24, (AV.str [63, 63, 63, 63])), (25, (AV.str [63, 63, 63, 63])), (26, (AV.str [63, 63, 63, 63])), (27, (AV.str [45, 45, 45, 45])), (28, (AV.str [45, 49, 49, 45])), (29, (AV.str [45, 51, 63, 45])), (30, (AV.str [45, 63, 45, 45])), (31, (AV.str [45, 51, 45, 45])), (32, (AV.str [51, 45, 45, 45])), (33, (AV.str [45, 45, 45, 45]))] h) fun b h1 =>
(y1nh a b h1)
def y2cc (s : St) : OX := y1jd (s 0) s.h
theorem y1g1 : T0 yxi [.t 2] y2cc := sq y1q8 fun _ => by kernel_rfl
def y1o3 (a : AV) (h : Heap) : OX :=
(y1jd a h)
def y2em (s : St) : OX := y1o3 (s 0) s.h
theorem y1d2 : T0 y16w [.t 2] y2em := sq y1g1 fun _ => by kernel_rfl
@[simp] theorem y2qw : E.pure 38 = true := rfl
theorem y2l4 (a : AV) : (yb E).p 38 [a] = y1o3 a [⟨0, .dead⟩] :=
  (y15 (cf := y26v) (by kernel_rfl) rfl).trans ((y1d2 _).trans (by kernel_rfl))
def ycl (d a : AV) (h : Heap) : OX :=
ob (y8 .sub d (.int .u8 48)) fun b =>
ob (y191 .i64 b) fun e =>
ob (y8 .eql a e) fun c =>
(yf h c)
def y6f (s : St) : OX := ycl (s 2) (s 7) s.h
theorem y1s7 : T0 y160 [.t 6] y6f := fun _ => by kernel_rfl
def yaq (g a e k : AV) (h : Heap) : OX :=
cnd k
 (ob (y8 .gtr a (.int .i64 0)) fun i =>
(yf h i))
 (ob (y8 .eql e (.int .u8 110)) fun l =>
cnd l
 (ob (y8 .eql a (.int .i64 1)) fun b =>
gb b false (some a) fun j =>
gb b false (y8 .eql j (.int .i64 2)) fun c =>
ob (yd b (.bool true) c) fun d =>
(yf h d))
 ((ycl g a h)))
def y2ap (s : St) : OX := yaq (s 2) (s 7) (s 11) (s 15) s.h
theorem y1m9 : T1 yyl y6f (y5 0 y6f xN) [.t 6] y2ap := fun _ => by kernel_rfl
def yck (d b a : AV) (h : Heap) : OX :=
ob (y8 .eql a (.int .u8 42)) fun c =>
cnd c
 ((yaq d b a c h))
 (ob (y8 .eql a (.int .u8 61)) fun e =>
(yaq d b a e h))
def y2b3 (s : St) : OX := yck (s 2) (s 7) (s 11) s.h
theorem y1db : T1 yx8 y6f (y5 0 y6f xN) [.t 6] y2b3 := sq y1m9 fun _ => by kernel_rfl
def yaj (d b a c : AV) (h : Heap) : OX :=
cnd c
 ((yf h (.bool true)))
 ((yck d b a h))
def y2dy (s : St) : OX := yaj (s 2) (s 7) (s 11) (s 12) s.h
theorem y1la : T1 y16u y6f (y5 0 y6f xN) [.t 6] y2dy := fun s => (y1b rfl (y1db s)).trans (by kernel_rfl)
def yci (c b a : AV) (h : Heap) : OX :=
ob (y8 .eql a (.int .u8 45)) fun d =>
cnd d
 ((yaj c b a d h))
 (ob (y8 .eql a (.int .u8 63)) fun e =>
(yaj c b a e h))
def y1u3 (s : St) : OX := yci (s 2) (s 7) (s 11) s.h
theorem y1kc : T1 y117 y6f (y5 0 y6f xN) [.t 6] y1u3 := sq y1la fun _ => by kernel_rfl
theorem y1p5 : T1 yyr y6f xN [.t 6] y1u3 := fun s => yy.trans (y1kc s)
def ycj (a b : AV) (h : Heap) : OX :=
(yci a b a h)
def y1uq (s : St) : OX := ycj (s 2) (s 7) s.h
theorem y1t6 : T1 yza y6f xN [.t 6] y1uq := sq y1p5 fun _ => by kernel_rfl
theorem y1nq : T0 y16e [.t 6] y1uq := sq y1s7 y1t6
def yc8 (c b d : AV) (h : Heap) : OX :=
ob (evLd true 5 d h) fun a =>
oh (y9 E (yb E) 0 none true 48 [a, c] h) fun e h1 =>
(ycj b e h1)
def y2fk (s : St) : OX := yc8 (s 1) (s 2) (s 3) s.h
theorem y1qj : T0 yzm [.t 6] y2fk := sq y1nq fun _ => by kernel_rfl
def y76 (b d c : AV) (h : Heap) : OX :=
oh (newC 0 (some 0) (cellsOf b) h) fun a h2 =>
(yc8 d c a h2)
def y1zh (s : St) : OX := y76 (s 0) (s 1) (s 2) s.h
theorem y1b4 : T0 yr3 [.t 6] y1zh := sq y1qj fun _ => by kernel_rfl
@[simp] theorem y2nv : E.pure 65 = true := rfl
theorem y2lm (a c b : AV) : (yb E).p 65 [a, c, b] = y76 a c b [⟨0, .dead⟩] :=
  (y15 (cf := y27q) (by kernel_rfl) rfl).trans ((y1b4 _).trans (by kernel_rfl))
def y1y8 (h : Heap) : OX :=
(yf h (.tup [(.int .i64 0), (.int .i64 0), (.int .i64 0)]))
def y2ku (s : St) : OX := y1y8 s.h
theorem y21z : T0 y1ro [.t 2, .t 3, .t 4] y2ku := fun _ => by kernel_rfl
def y1xo (a b : AV) (h : Heap) : OX :=
gb b true (some a) fun j =>
gb b true (y8 .rem j (.int .i64 2)) fun p =>
gb b true (y8 .eql p (.int .i64 0)) fun z =>
ob (yd b z (.bool false)) fun k =>
cnd k
 ((yf h (.tup [(.int .i64 1), (.int .i64 1), (.int .i64 1)])))
 (ob (y8 .eql a (.int .i64 121)) fun d =>
gb d false (some a) fun t =>
gb d false (y8 .eql t (.int .i64 123)) fun C =>
ob (yd d (.bool true) C) fun g =>
gb g false (some a) fun B =>
gb g false (y8 .eql B (.int .i64 125)) fun m =>
ob (yd g (.bool true) m) fun r =>
cnd r
 ((yf h (.tup [(.int .i64 2), (.int .i64 1), (.int .i64 2)])))
 (cnd b
 ((yf h (.tup [(.int .i64 2), (.int .i64 2), (.int .i64 2)])))
 (ob (y8 .eql a (.int .i64 148)) fun A =>
cnd A
 ((yf h (.tup [(.int .i64 2), (.int .i64 2), (.int .i64 1)])))
 (ob (y8 .eql a (.int .i64 116)) fun c =>
gb c false (some a) fun v =>
gb c false (y8 .geq v (.int .i64 145)) fun i =>
gb c false (some i) fun e =>
gb e true (some a) fun y =>
gb e true (y8 .leq y (.int .i64 147)) fun l =>
gb c false (yd e l (.bool false)) fun n =>
ob (yd c (.bool true) n) fun x =>
cnd x
 ((yf h (.tup [(.int .i64 1), (.int .i64 0), (.int .i64 1)])))
 (ob (y8 .eql a (.int .i64 117)) fun o =>
cnd o
 ((yf h (.tup [(.int .i64 2), (.int .i64 0), (.int .i64 2)])))
 (ob (y8 .eql a (.int .i64 133)) fun w =>
cnd w
 ((yf h (.tup [(.int .i64 1), (.int .i64 0), (.int .i64 2)])))
 (ob (y8 .eql a (.int .i64 136)) fun u =>
cnd u
 ((yf h (.tup [(.int .i64 2), (.int .i64 0), (.int .i64 1)])))
 ((y1y8 h)))))))))
def y2ig (s : St) : OX := y1xo (s 0) (s 5) s.h
theorem y1xi : T0 y1d4 [.t 2, .t 3, .t 4] y2ig := sq y21z fun _ => by kernel_rfl
def y1zq (a : AV) (h : Heap) : OX :=
ob (y8 .geq a (.int .i64 96)) fun d =>
gb d true (some a) fun i =>
gb d true (y8 .leq i (.int .i64 113)) fun k =>
ob (yd d k (.bool false)) fun c =>
gb c true (some a) fun g =>
gb c true (y8 .rem g (.int .i64 4)) fun r =>
gb c true (y8 .lss r (.int .i64 2)) fun n =>
ob (yd c n (.bool false)) fun b =>
gb b false (some a) fun m =>
gb b false (y8 .geq m (.int .i64 120)) fun j =>
gb b false (some j) fun e =>
gb e true (some a) fun t =>
gb e true (y8 .leq t (.int .i64 131)) fun o =>
gb b false (yd e o (.bool false)) fun p =>
ob (yd b (.bool true) p) fun l =>
(y1xo a l h)
def y2i9 (s : St) : OX := y1zq (s 0) s.h
theorem y1wy : T0 y1i8 [.t 2, .t 3, .t 4] y2i9 := sq y1xi fun _ => by kernel_rfl
def y201 (a : AV) (h : Heap) : OX :=
(y1zq a h)
def y2mm (s : St) : OX := y201 (s 0) s.h
theorem y234 : T0 y1ok [.t 2, .t 3, .t 4] y2mm := sq y1wy fun _ => by kernel_rfl
@[simp] theorem y2qd : E.pure 66 = true := rfl
theorem y2p9 (a : AV) : (yb E).p 66 [a] = y201 a [] :=
  (y15 (cf := y2k4) (by kernel_rfl) rfl).trans ((y234 _).trans (by kernel_rfl))
def yjm (c : AV) (h : Heap) : OX :=
ob (y11 0 c h) fun g =>
ob (y8 .gtr g (.int .i64 2)) fun d =>
gb d true (some c) fun i =>
gb d true (y5q i (.int .i64 0)) fun o =>
gb d true (y8 .eql o (.int .u8 76)) fun w =>
ob (yd d w (.bool false)) fun a =>
gb a true (some c) fun m =>
gb a true (some c) fun x =>
gb a true (y11 0 x h) fun n =>
gb a true (y8 .sub n (.int .i64 1)) fun e =>
gb a true (y5q m e) fun u =>
gb a true (y8 .eql u (.int .u8 59)) fun j =>
ob (yd a j (.bool false)) fun b =>
gb b true (some c) fun y =>
gb b true (some c) fun p =>
gb b true (y11 0 p h) fun k =>
gb b true (y8 .sub k (.int .i64 1)) fun t =>
gb b true (ye3 y (some (.int .i64 1)) (some t)) fun r =>
gh b true (y9 E (yb E) 0 none true 69 [r, (.bool false)] h) h fun v h1 =>
ob (yd b v (.bool false)) fun l =>
(yf h1 l)
def y2bm (s : St) : OX := yjm (s 0) s.h
theorem y1v8 : T0 y07 [.t 2] y2bm := fun _ => by kernel_rfl
def ye9 (a : AV) (h : Heap) : OX :=
ob (y8 .eql a (AV.str [73])) fun b =>
gb b false (some a) fun d =>
gb b false (y8 .eql d (AV.str [74])) fun e =>
ob (yd b (.bool true) e) fun c =>
cnd c
 ((yf h (.bool true)))
 ((yjm a h))
def y2ev (s : St) : OX := ye9 (s 0) s.h
theorem y1fv : T0 y17p [.t 2] y2ev := sq y1v8 fun _ => by kernel_rfl
def ysq (b a : AV) (h : Heap) : OX :=
ob (y8 .gtr a (.int .i64 8)) fun c =>
cnd c
 ((yf h (.bool false)))
 ((ye9 b h))
def y2ey (s : St) : OX := ysq (s 0) (s 3) s.h
theorem y1om : T0 y132 [.t 2] y2ey := sq y1fv fun _ => by kernel_rfl
def ymx (b a : AV) (h : Heap) : OX :=
ob (ye3 b (some a) none) fun c =>
(ysq c a h)
def yac (s : St) : OX := ymx (s 0) (s 3) s.h
theorem y1m4 : T0 yy0 [.t 2] yac := sq y1om fun _ => by kernel_rfl
def yey (b a : AV) (h : Heap) : OX :=
  W E 0 yiq ⟨[(0, b), (3, a)], h⟩ yac (y5 0 yac xN) (finP [.t 2])
def ybu (s : St) : OX := yey (s 0) (s 3) s.h
theorem yne : T1 yiq yac (y5 0 yac xN) [.t 2] ybu := fun s => yj.trans (by kernel_rfl)
def y11f (b a : AV) (h : Heap) : OX :=
ob (y8 .add a (.int .i64 1)) fun c =>
(yey b c h)
def y2fp (s : St) : OX := y11f (s 0) (s 3) s.h
theorem y1ki : T1 y18n ybu (y5 0 yac xN) [.t 2] y2fp := fun _ => by kernel_rfl
def ynt (b c : AV) (h : Heap) : OX :=
ob (y11 0 b h) fun d =>
ob (y8 .lss c d) fun a =>
gb a true (some b) fun i =>
gb a true (some c) fun j =>
gb a true (y5q i j) fun e =>
gb a true (y8 .eql e (.int .u8 91)) fun k =>
ob (yd a k (.bool false)) fun g =>
cnd g
 ((y11f b c h))
 ((ymx b c h))
def y28l (s : St) : OX := ynt (s 0) (s 3) s.h
theorem y1k0 : T1 y0l ybu (y5 0 yac xN) [.t 2] y28l := sq y1ki fun _ => by kernel_rfl
theorem yn8 (b a : AV) (h : Heap) : yey b a h = (ynt b a h) :=
  y28.trans ((y1c _ _ _ (n' := ybu) (fun s => yne s)).trans ((y1k0 _).trans (by kernel_rfl)))
theorem y1vn : T1 y12n yac xN [.t 2] ybu := fun s => yy.trans (yne s)
theorem y1ud : T0 y14m [.t 2] ybu := sq y1m4 y1vn
def ywf (a : AV) (h : Heap) : OX :=
(yey a (.int .i64 0) h)
def y21k (s : St) : OX := ywf (s 0) s.h
theorem y1c1 : T0 yul [.t 2] y21k := sq y1ud fun _ => by kernel_rfl
def ypj (a : AV) (h : Heap) : OX :=
(ywf a h)
def y1y9 (s : St) : OX := ypj (s 0) s.h
theorem y19d : T0 yu4 [.t 2] y1y9 := sq y1c1 fun _ => by kernel_rfl
@[simp] theorem y2nn : E.pure 67 = true := rfl
theorem y2hc (a : AV) : (yb E).p 67 [a] = ypj a [] :=
  (y15 (cf := y277) (by kernel_rfl) rfl).trans ((y19d _).trans (by kernel_rfl))
def y5n (z c : AV) (h : Heap) : OX :=
ob (evFa 0 c) fun y =>
ob (evLd false 1 y h) fun x =>
ob (y8 .neq x (.int .i64 24)) fun d =>
gb d true (evFa 0 c) fun i =>
gb d true (evLd false 1 i h) fun p =>
gb d true (y8 .neq p (.int .i64 25)) fun g =>
ob (yd d g (.bool false)) fun b =>
gb b false (evFa 8 c) fun j =>
gb b false (evLd false 1 j h) fun l =>
gb b false (y11 1 l h) fun v =>
gb b false (y8 .gtr v (.int .i64 0)) fun w =>
gb b false (some w) fun a =>
gb a true (evLd true 5 z h) fun m =>
gb a true (evFa 8 c) fun e =>
gb a true (evLd false 1 e h) fun o =>
gb a true (yw 1 o (.int .i64 0)) fun t =>
gb a true (evLd false 1 t h) fun r =>
gh a true (y9 E (yb E) 0 none true 48 [m, r] h) h fun A h1 =>
gb a true (y8 .eql A (.int .i64 3)) fun u =>
gb b false (yd a u (.bool false)) fun n =>
ob (yd b (.bool true) n) fun k =>
(yf h1 k)
def y7h (s : St) : OX := y5n (s 2) (s 3) s.h
theorem y1el : T0 y0k [.t 4] y7h := fun _ => by kernel_rfl
def ykl (c b a : AV) (h : Heap) : OX :=
  W E 0 yju ⟨[(2, c), (3, b), (5, a)], h⟩ y7h (y5 0 y7h xN) (finP [.t 4])
def yc3 (s : St) : OX := ykl (s 2) (s 3) (s 5) s.h
theorem ylk : T1 yju y7h (y5 0 y7h xN) [.t 4] yc3 := fun s => yj.trans (by kernel_rfl)
def y9f (d b a : AV) (h : Heap) : OX :=
ob (y8 .add a (.int .i64 1)) fun c =>
(ykl d b c h)
def y29p (s : St) : OX := y9f (s 2) (s 3) (s 5) s.h
theorem y1w1 : T1 y15h yc3 (y5 0 y7h xN) [.t 4] y29p := fun _ => by kernel_rfl
def y7y (a b c : AV) (h : Heap) : OX :=
ob (evLd true 5 a h) fun e =>
ob (evFa 8 b) fun i =>
ob (evLd false 1 i h) fun g =>
ob (yw 1 g c) fun d =>
ob (evLd false 1 d h) fun l =>
oh (y9 E (yb E) 0 none true 48 [e, l] h) fun j h2 =>
ob (y8 .eql j (.int .i64 0)) fun k =>
cnd k
 ((yf h2 (.bool false)))
 ((y9f a b c h2))
def y2af (s : St) : OX := y7y (s 2) (s 3) (s 5) s.h
theorem y1wb : T1 yxe yc3 (y5 0 y7h xN) [.t 4] y2af := sq y1w1 fun _ => by kernel_rfl
def y73 (b a c : AV) (h : Heap) : OX :=
ob (evFa 8 a) fun g =>
ob (evLd false 1 g h) fun i =>
ob (y11 1 i h) fun e =>
ob (y8 .lss c e) fun d =>
cnd d
 ((y7y b a c h))
 ((y5n b a h))
def y2d3 (s : St) : OX := y73 (s 2) (s 3) (s 5) s.h
theorem y1vf : T1 y17c yc3 (y5 0 y7h xN) [.t 4] y2d3 := sq y1wb fun _ => by kernel_rfl
theorem ynd (c b a : AV) (h : Heap) : ykl c b a h = (y73 c b a h) :=
  y28.trans ((y1c _ _ _ (n' := yc3) (fun s => ylk s)).trans ((y1vf _).trans (by kernel_rfl)))
theorem y1hy : T1 y118 y7h xN [.t 4] yc3 := fun s => yy.trans (ylk s)
def yaf (b a : AV) (h : Heap) : OX :=
(ykl b a (.int .i64 0) h)
def y1fn (s : St) : OX := yaf (s 2) (s 3) s.h
theorem y1st : T1 y16g y7h xN [.t 4] y1fn := sq y1hy fun _ => by kernel_rfl
theorem y1q2 : T0 y14x [.t 4] y1fn := sq y1el y1st
def yaw (g c : AV) (h : Heap) : OX :=
ob (evFa 5 c) fun i =>
ob (evLd false 1 i h) fun w =>
ob (y8 .lss w (.int .i64 0)) fun e =>
gb e true (evFa 0 c) fun t =>
gb e true (evLd false 1 t h) fun j =>
gb e true (y8 .neq j (.int .i64 25)) fun l =>
ob (yd e l (.bool false)) fun d =>
gb d false (evFa 8 c) fun o =>
gb d false (evLd false 1 o h) fun k =>
gb d false (y11 1 k h) fun u =>
gb d false (y8 .gtr u (.int .i64 21)) fun A =>
ob (yd d (.bool true) A) fun a =>
gb a false (evFa 1 c) fun v =>
gb a false (evLd false 1 v h) fun B =>
gb a false (y8 .neq B (.int .i64 (-1))) fun C =>
gb a false (some C) fun b =>
gb b true (evLd true 5 g h) fun z =>
gb b true (evFa 1 c) fun x =>
gb b true (evLd false 1 x h) fun r =>
gh b true (y9 E (yb E) 0 none true 48 [z, r] h) h fun m h3 =>
gb b true (y8 .eql m (.int .i64 0)) fun p =>
gb a false (yd b p (.bool false)) fun y =>
ob (yd a (.bool true) y) fun n =>
cnd n
 ((yf h3 (.bool false)))
 ((yaf g c h3))
def y2e7 (s : St) : OX := yaw (s 2) (s 3) s.h
theorem y1si : T0 y152 [.t 4] y2e7 := sq y1q2 fun _ => by kernel_rfl
def y6c (b d : AV) (h : Heap) : OX :=
oh (newC 0 (some 0) (cellsOf b) h) fun c h4 =>
oh (newC 0 (some 1) (cellsOf d) h4) fun a h5 =>
(yaw c a h5)
def y23n (s : St) : OX := y6c (s 0) (s 1) s.h
theorem y1a5 : T0 yru [.t 4] y23n := sq y1si fun _ => by kernel_rfl
@[simp] theorem y2o8 : E.pure 68 = true := rfl
theorem y2l1 (a b : AV) : (yb E).p 68 [a, b] = y6c a b [⟨0, .dead⟩, ⟨0, .dead⟩] :=
  (y15 (cf := y26p) (by kernel_rfl) rfl).trans ((y1a5 _).trans (by kernel_rfl))
def y29t (h : Heap) : OX :=
(yf h (.tup [(.int .i64 0), (.int .i64 0), (.int .i64 0)]))
def y3r (s : St) : OX := y29t s.h
theorem y1y0 : T0 y1qd [.t 2, .t 3, .t 4] y3r := fun _ => by kernel_rfl
def y1ap (a e : AV) (h : Heap) : OX :=
cnd e
 ((yf h (.tup [(.int .i64 1), (.int .i64 0), (.int .i64 1)])))
 (ob (y8 .eql a (.int .i64 117)) fun c =>
cnd c
 ((yf h (.tup [(.int .i64 2), (.int .i64 0), (.int .i64 2)])))
 (ob (y8 .eql a (.int .i64 133)) fun d =>
cnd d
 ((yf h (.tup [(.int .i64 1), (.int .i64 0), (.int .i64 2)])))
 (ob (y8 .eql a (.int .i64 136)) fun b =>
cnd b
 ((yf h (.tup [(.int .i64 2), (.int .i64 0), (.int .i64 1)])))
 ((y29t h)))))
def y2jj (s : St) : OX := y1ap (s 5) (s 33) s.h
theorem y1zj : T1 y1uu y3r (y5 0 y3r xN) [.t 2, .t 3, .t 4] y2jj := fun _ => by kernel_rfl
def y2as (a : AV) (h : Heap) : OX :=
ob (y8 .eql a (.int .i64 116)) fun d =>
cnd d
 ((y1ap a d h))
 (ob (y8 .eql a (.int .i64 145)) fun c =>
cnd c
 ((y1ap a c h))
 (ob (y8 .eql a (.int .i64 146)) fun b =>
cnd b
 ((y1ap a b h))
 (ob (y8 .eql a (.int .i64 147)) fun e =>
(y1ap a e h))))
def y2iq (s : St) : OX := y2as (s 5) s.h
theorem y1ys : T1 y1o8 y3r (y5 0 y3r xN) [.t 2, .t 3, .t 4] y2iq := sq y1zj fun _ => by kernel_rfl
def y284 (b a : AV) (h : Heap) : OX :=
cnd a
 ((yf h (.tup [(.int .i64 2), (.int .i64 2), (.int .i64 1)])))
 ((y2as b h))
def y2i2 (s : St) : OX := y284 (s 5) (s 31) s.h
theorem y1y2 : T1 y1px y3r (y5 0 y3r xN) [.t 2, .t 3, .t 4] y2i2 := fun s => (y1b rfl (y1ys s)).trans (by kernel_rfl)
def y297 (a : AV) (h : Heap) : OX :=
ob (y8 .eql a (.int .i64 148)) fun b =>
(y284 a b h)
def y2h8 (s : St) : OX := y297 (s 5) s.h
theorem y207 : T1 y1h5 y3r (y5 0 y3r xN) [.t 2, .t 3, .t 4] y2h8 := sq y1y2 fun _ => by kernel_rfl
def y1v0 (b a : AV) (h : Heap) : OX :=
cnd a
 ((yf h (.tup [(.int .i64 2), (.int .i64 1), (.int .i64 2)])))
 ((y297 b h))
def y2ia (s : St) : OX := y1v0 (s 5) (s 27) s.h
theorem y230 : T1 y1mt y3r (y5 0 y3r xN) [.t 2, .t 3, .t 4] y2ia := fun s => (y1b rfl (y207 s)).trans (by kernel_rfl)
def y2bt (a : AV) (h : Heap) : OX :=
ob (y8 .eql a (.int .i64 121)) fun b =>
cnd b
 ((y1v0 a b h))
 (ob (y8 .eql a (.int .i64 123)) fun c =>
cnd c
 ((y1v0 a c h))
 (ob (y8 .eql a (.int .i64 125)) fun d =>
(y1v0 a d h)))
def y2hk (s : St) : OX := y2bt (s 5) s.h
theorem y24k : T1 y1gj y3r (y5 0 y3r xN) [.t 2, .t 3, .t 4] y2hk := sq y230 fun _ => by kernel_rfl
def yl6 (b a : AV) (h : Heap) : OX :=
cnd a
 ((yf h (.tup [(.int .i64 2), (.int .i64 2), (.int .i64 2)])))
 ((y2bt b h))
def y2la (s : St) : OX := yl6 (s 5) (s 18) s.h
theorem y21f : T1 y1ed y3r (y5 0 y3r xN) [.t 2, .t 3, .t 4] y2la := fun s => (y1b rfl (y24k s)).trans (by kernel_rfl)
def y2f5 (a : AV) (h : Heap) : OX :=
ob (y8 .eql a (.int .i64 97)) fun b =>
cnd b
 ((yl6 a b h))
 (ob (y8 .eql a (.int .i64 101)) fun i =>
cnd i
 ((yl6 a i h))
 (ob (y8 .eql a (.int .i64 105)) fun j =>
cnd j
 ((yl6 a j h))
 (ob (y8 .eql a (.int .i64 109)) fun e =>
cnd e
 ((yl6 a e h))
 (ob (y8 .eql a (.int .i64 113)) fun g =>
cnd g
 ((yl6 a g h))
 (ob (y8 .eql a (.int .i64 127)) fun c =>
cnd c
 ((yl6 a c h))
 (ob (y8 .eql a (.int .i64 129)) fun d =>
cnd d
 ((yl6 a d h))
 (ob (y8 .eql a (.int .i64 131)) fun k =>
(yl6 a k h))))))))
def y2mn (s : St) : OX := y2f5 (s 5) s.h
theorem y247 : T1 y1jc y3r (y5 0 y3r xN) [.t 2, .t 3, .t 4] y2mn := sq y21f fun _ => by kernel_rfl
def y86 (b a : AV) (h : Heap) : OX :=
cnd a
 ((yf h (.tup [(.int .i64 1), (.int .i64 1), (.int .i64 1)])))
 ((y2f5 b h))
def y2d0 (s : St) : OX := y86 (s 5) (s 6) s.h
theorem y1hc : T1 yy4 y3r (y5 0 y3r xN) [.t 2, .t 3, .t 4] y2d0 := fun s => (y1b rfl (y247 s)).trans (by kernel_rfl)
def y1en (a : AV) (h : Heap) : OX :=
ob (y8 .eql a (.int .i64 96)) fun b =>
cnd b
 ((y86 a b h))
 (ob (y8 .eql a (.int .i64 100)) fun c =>
cnd c
 ((y86 a c h))
 (ob (y8 .eql a (.int .i64 104)) fun i =>
cnd i
 ((y86 a i h))
 (ob (y8 .eql a (.int .i64 108)) fun j =>
cnd j
 ((y86 a j h))
 (ob (y8 .eql a (.int .i64 112)) fun d =>
cnd d
 ((y86 a d h))
 (ob (y8 .eql a (.int .i64 120)) fun k =>
cnd k
 ((y86 a k h))
 (ob (y8 .eql a (.int .i64 122)) fun g =>
cnd g
 ((y86 a g h))
 (ob (y8 .eql a (.int .i64 124)) fun m =>
cnd m
 ((y86 a m h))
 (ob (y8 .eql a (.int .i64 126)) fun l =>
cnd l
 ((y86 a l h))
 (ob (y8 .eql a (.int .i64 128)) fun e =>
cnd e
 ((y86 a e h))
 (ob (y8 .eql a (.int .i64 130)) fun n =>
(y86 a n h)))))))))))
def y1fs (s : St) : OX := y1en (s 5) s.h
theorem y1oi : T1 y01 y3r (y5 0 y3r xN) [.t 2, .t 3, .t 4] y1fs := sq y1hc fun _ => by kernel_rfl
theorem y1rb : T1 y13o y3r xN [.t 2, .t 3, .t 4] y1fs := fun s => yy.trans (y1oi s)
def y1og (a : AV) (h : Heap) : OX :=
(y1en a h)
def y1e9 (s : St) : OX := y1og (s 0) s.h
theorem y1fx : T1 yzl y3r xN [.t 2, .t 3, .t 4] y1e9 := sq y1rb fun _ => by kernel_rfl
theorem y1kk : T0 y12f [.t 2, .t 3, .t 4] y1e9 := sq y1y0 y1fx
def y1tz (a : AV) (h : Heap) : OX :=
(y1og a h)
def y2fh (s : St) : OX := y1tz (s 0) s.h
theorem y1ct : T0 y164 [.t 2, .t 3, .t 4] y2fh := sq y1kk fun _ => by kernel_rfl
@[simp] theorem y2q6 : E.pure 50 = true := rfl
theorem y2nx (a : AV) : (yb E).p 50 [a] = y1tz a [] :=
  (y15 (cf := y2lw) (by kernel_rfl) rfl).trans ((y1ct _).trans (by kernel_rfl))
def q8_1 (b : AV) (h : Heap) : OX :=
ob (y8 .neq b (AV.str [])) fun a =>
gb a true (some b) fun c =>
gh a true (y9 E (yb E) 0 none true 44 [c] h) h fun d h1 =>
gb a true (some b) fun e =>
gb a true (y11 0 e h1) fun i =>
gb a true (y8 .eql d i) fun j =>
ob (yd a j (.bool false)) fun g =>
(yf h1 g)
def y2pe (s : St) : OX := q8_1 (s 0) s.h
theorem y2g1 : T0 y262 [.t 2] y2pe := fun _ => by kernel_rfl
@[simp] theorem y2pd : E.pure 37 = true := rfl
theorem x_q8 (a : AV) : (yb E).p 37 [a] = q8_1 a [] :=
  (y15 (cf := c_q8) (by kernel_rfl) rfl).trans ((y2g1 _).trans (by kernel_rfl))
def yvd (a : AV) (h : Heap) : OX :=
ob (y10 [(.int .i64 0), (.int .i64 0), (.int .i64 0), (.int .i64 0)] []) fun b =>
oh (evSt 4 a b h) fun _ h1 =>
(ob (evLd true 4 a h1) fun r0 =>
  yf h1 (.tup [r0, (.bool false)]))
def y2j (s : St) : OX := yvd (s 2) s.h
theorem y23r : T0 y1pi [.cell 2 true 4, .t 3] y2j := fun _ => by kernel_rfl
def ytr (c b m : AV) (h : Heap) : OX :=
ob (y10 [(.int .i64 0), (.int .i64 0), (.int .i64 0), (.int .i64 0)] [(0, 1, (.int .i64 (-1))), (1, 1, (.int .i64 3)), (2, 1, m), (3, 1, (.int .i64 (-1)))]) fun g =>
ob (evFa 5 c) fun d =>
ob (evLd false 1 d h) fun j =>
ob (y8 .eql j (.int .i64 0)) fun a =>
ofp (fgd a false (some ([], []))) fun f6 =>
gb a false (evFa 5 c) fun e =>
ofp (fgd a false (some (ids1 e, []))) fun f7 =>
gb a false (evLd false 1 e h) fun k =>
ofp (fgd a false (some ([], []))) fun f8 =>
gb a false (y8 .eql k (.int .i64 1)) fun l =>
ob (yd a (.bool true) l) fun i =>
oh (evSt 4 b g h) fun _ h2 =>
okK (yg [([], []), ([], []), ([], []), (ids1 d, []), ([], []), ([], []), f6, f7, f8, ([], []), ([], ids1 b), ([], [])] [(7, 10)]) <|
(ob (evLd true 4 b h2) fun r0 =>
  yf h2 (.tup [r0, i]))
def y2lh (s : St) : OX := ytr (s 1) (s 2) (s 4) s.h
theorem y23y : T1 y1ku y2j (y5 0 y2j xN) [.cell 2 true 4, .t 3] y2lh := fun _ => by kernel_rfl
def ywv (a b g : AV) (h : Heap) : OX :=
ob (evFa 3 a) fun d =>
ob (evLd false 1 d h) fun c =>
ob (y8 .neq c (.int .i64 (-1))) fun e =>
cnd e
 ((ytr a b (.int .i64 3) h))
 ((ytr a b g h))
def y2kd (s : St) : OX := ywv (s 1) (s 2) (s 4) s.h
theorem y22y : T1 y1ew y2j (y5 0 y2j xN) [.cell 2 true 4, .t 3] y2kd := sq y23y fun _ => by kernel_rfl
def yw8 (b a : AV) (h : Heap) : OX :=
(ywv b a (.int .i64 (-1)) h)
def y2it (s : St) : OX := yw8 (s 1) (s 2) s.h
theorem y1x2 : T1 y1qv y2j (y5 0 y2j xN) [.cell 2 true 4, .t 3] y2it := sq y22y fun _ => by kernel_rfl
def ys4 (a b : AV) (h : Heap) : OX :=
ob (y10 [(.int .i64 0), (.int .i64 0), (.int .i64 0), (.int .i64 0)] [(0, 1, (.int .i64 (-1))), (1, 1, b), (2, 1, (.int .i64 (-1))), (3, 1, (.int .i64 (-1)))]) fun c =>
oh (evSt 4 a c h) fun _ h3 =>
(ob (evLd true 4 a h3) fun r0 =>
  yf h3 (.tup [r0, (.bool true)]))
def y2je (s : St) : OX := ys4 (s 2) (s 5) s.h
theorem y205 : T1 y1ug y2j (y5 0 y2j xN) [.cell 2 true 4, .t 3] y2je := fun _ => by kernel_rfl
def yw5 (d a e : AV) (h : Heap) : OX :=
ob (evFa 2 d) fun b =>
ob (evLd false 1 b h) fun g =>
ob (y8 .neq g (.int .i64 (-1))) fun c =>
cnd c
 ((ys4 a (.int .i64 0) h))
 ((ys4 a e h))
def y2h3 (s : St) : OX := yw5 (s 1) (s 2) (s 5) s.h
theorem y1yl : T1 y1g7 y2j (y5 0 y2j xN) [.cell 2 true 4, .t 3] y2h3 := sq y205 fun _ => by kernel_rfl
def yw2 (b a : AV) (h : Heap) : OX :=
(yw5 b a (.int .i64 (-1)) h)
def y2l8 (s : St) : OX := yw2 (s 1) (s 2) s.h
theorem y1yf : T1 y1ls y2j (y5 0 y2j xN) [.cell 2 true 4, .t 3] y2l8 := sq y1yl fun _ => by kernel_rfl
def yte (d i n : AV) (h : Heap) : OX :=
ob (evFa 0 d) fun G =>
ob (evLd false 1 G h) fun p =>
ob (y8 .eql p (.int .i64 23)) fun g =>
gb g false (evFa 0 d) fun I =>
gb g false (evLd false 1 I h) fun w =>
gb g false (y8 .eql w (.int .i64 26)) fun r =>
ob (yd g (.bool true) r) fun e =>
gb e false (evFa 8 d) fun H =>
gb e false (evLd false 1 H h) fun u =>
gb e false (y11 1 u h) fun o =>
gb e false (y8 .gtr o (.int .i64 0)) fun x =>
ob (yd e (.bool true) x) fun a =>
ob (y10 [(.int .i64 0), (.int .i64 0), (.int .i64 0), (.int .i64 0)] [(0, 1, n), (1, 1, (.int .i64 (-1))), (2, 1, (.int .i64 (-1))), (3, 1, (.int .i64 (-1)))]) fun B =>
ofp (fgd a true (some ([], []))) fun f4 =>
gb a true (evFa 5 d) fun m =>
ofp (fgd a true (some (ids1 m, []))) fun f5 =>
gb a true (evLd false 1 m h) fun A =>
ofp (fgd a true (some ([], []))) fun f6 =>
gb a true (y8 .geq A (.int .i64 0)) fun D =>
ofp (fgd a true (some ([], []))) fun f7 =>
gb a true (some D) fun c =>
ofp (fgd c false (some ([], []))) fun f8 =>
gb c false (evFa 0 d) fun j =>
ofp (fgd c false (some (ids1 j, []))) fun f9 =>
gb c false (evLd false 1 j h) fun v =>
ofp (fgd c false (some ([], []))) fun f10 =>
gb c false (y8 .eql v (.int .i64 25)) fun z =>
ofp (fgd a true (some ([], []))) fun f11 =>
gb a true (yd c (.bool true) z) fun y =>
ob (yd a y (.bool false)) fun b =>
ofp (fgd b true (some ([], []))) fun f14 =>
gb b true (evFa 8 d) fun l =>
ofp (fgd b true (some (ids1 l, []))) fun f15 =>
gb b true (evLd false 1 l h) fun k =>
ofp (fgd b true (some (ids1 k, []))) fun f16 =>
gb b true (y11 1 k h) fun C =>
ofp (fgd b true (some ([], []))) fun f17 =>
gb b true (y8 .leq C (.int .i64 21)) fun t =>
ob (yd b t (.bool false)) fun F =>
oh (evSt 4 i B h) fun _ h4 =>
okK (yg [([], []), ([], []), ([], []), ([], []), f4, f5, f6, f7, f8, f9, f10, f11, ([], []), ([], []), f14, f15, f16, f17, ([], []), ([], ids1 i), ([], [])] [(15, 19), (16, 19)]) <|
(ob (evLd true 4 i h4) fun r0 =>
  yf h4 (.tup [r0, F]))
def y2gw (s : St) : OX := yte (s 1) (s 2) (s 6) s.h
theorem y21t : T1 y1ss y2j (y5 0 y2j xN) [.cell 2 true 4, .t 3] y2gw := fun _ => by kernel_rfl
def ywq (a b c : AV) (h : Heap) : OX :=
ob (evFa 1 a) fun g =>
ob (evLd false 1 g h) fun e =>
ob (y8 .neq e (.int .i64 (-1))) fun d =>
cnd d
 ((yte a b (.int .i64 0) h))
 ((yte a b c h))
def y2i6 (s : St) : OX := ywq (s 1) (s 2) (s 6) s.h
theorem y23x : T1 y1ot y2j (y5 0 y2j xN) [.cell 2 true 4, .t 3] y2i6 := sq y21t fun _ => by kernel_rfl
def yis (b a : AV) (h : Heap) : OX :=
(ywq b a (.int .i64 (-1)) h)
def y2ed (s : St) : OX := yis (s 1) (s 2) s.h
theorem y1eb : T1 y179 y2j (y5 0 y2j xN) [.cell 2 true 4, .t 3] y2ed := sq y23x fun _ => by kernel_rfl
def yca (c a b : AV) (h : Heap) : OX :=
cnd b
 ((yis c a h))
 ((yvd a h))
def y29m (s : St) : OX := yca (s 1) (s 2) (s 32) s.h
theorem y1gs : T1 yxv y2j (y5 0 y2j xN) [.cell 2 true 4, .t 3] y29m := fun s => (y1b (y1eb s) rfl).trans (by kernel_rfl)
def yk2 (c a b : AV) (h : Heap) : OX :=
ob (y8 .eql b (.int .i64 23)) fun d =>
cnd d
 ((yca c a d h))
 (ob (y8 .eql b (.int .i64 24)) fun g =>
cnd g
 ((yca c a g h))
 (ob (y8 .eql b (.int .i64 25)) fun e =>
cnd e
 ((yca c a e h))
 (ob (y8 .eql b (.int .i64 26)) fun i =>
(yca c a i h))))
def y2b7 (s : St) : OX := yk2 (s 1) (s 2) (s 9) s.h
theorem y1uo : T1 yxc y2j (y5 0 y2j xN) [.cell 2 true 4, .t 3] y2b7 := sq y1gs fun _ => by kernel_rfl
def ykv (b a c d : AV) (h : Heap) : OX :=
cnd d
 ((yw2 b a h))
 ((yk2 b a c h))
def y2dv (s : St) : OX := ykv (s 1) (s 2) (s 9) (s 25) s.h
theorem y1uw : T1 y184 y2j (y5 0 y2j xN) [.cell 2 true 4, .t 3] y2dv := fun s => (y1b (y1yf s) (y1uo s)).trans (by kernel_rfl)
def yjq (d b a : AV) (h : Heap) : OX :=
ob (y8 .eql a (.int .i64 30)) fun c =>
(ykv d b a c h)
def y2ej (s : St) : OX := yjq (s 1) (s 2) (s 9) s.h
theorem y1n6 : T1 y13y y2j (y5 0 y2j xN) [.cell 2 true 4, .t 3] y2ej := sq y1uw fun _ => by kernel_rfl
def ykr (b a c d : AV) (h : Heap) : OX :=
cnd d
 ((yw8 b a h))
 ((yjq b a c h))
def y2dk (s : St) : OX := ykr (s 1) (s 2) (s 9) (s 10) s.h
theorem y1e4 : T1 ywy y2j (y5 0 y2j xN) [.cell 2 true 4, .t 3] y2dk := fun s => (y1b (y1x2 s) (y1n6 s)).trans (by kernel_rfl)
def yk3 (d c a : AV) (h : Heap) : OX :=
ob (y8 .eql a (.int .i64 29)) fun b =>
(ykr d c a b h)
def y1eo (s : St) : OX := yk3 (s 1) (s 2) (s 9) s.h
theorem y1pd : T1 y12t y2j (y5 0 y2j xN) [.cell 2 true 4, .t 3] y1eo := sq y1e4 fun _ => by kernel_rfl
theorem y1kb : T1 y136 y2j xN [.cell 2 true 4, .t 3] y1eo := fun s => yy.trans (y1pd s)
def yjo (a d : AV) (h : Heap) : OX :=
ob (evFa 0 a) fun b =>
ob (evLd false 1 b h) fun c =>
(yk3 a d c h)
def y1qs (s : St) : OX := yjo (s 1) (s 2) s.h
theorem y1k2 : T1 yxo y2j xN [.cell 2 true 4, .t 3] y1qs := sq y1kb fun _ => by kernel_rfl
theorem y1hf : T0 y14h [.cell 2 true 4, .t 3] y1qs := sq y23r y1k2
def yij (a : AV) (h : Heap) : OX :=
oh (newC 0 (some 0) (cellsOf a) h) fun c h5 =>
oh (newC 0 (some 1) [(.int .i64 0), (.int .i64 0), (.int .i64 0), (.int .i64 0)] h5) fun b h6 =>
(yjo c b h6)
def y2f2 (s : St) : OX := yij (s 0) s.h
theorem y1s5 : T0 y130 [.cell 2 true 4, .t 3] y2f2 := sq y1hf fun _ => by kernel_rfl
@[simp] theorem y2o1 : E.pure 51 = true := rfl
theorem y21e (a : AV) : (yb E).p 51 [a] = yij a [⟨0, .dead⟩, ⟨0, .dead⟩] :=
  (y15 (cf := y2jw) (by kernel_rfl) rfl).trans ((y1s5 _).trans (by kernel_rfl))
def yig (b : AV) (h : Heap) : OX :=
ob (y8 .neq b (AV.str [])) fun a =>
gb a true (some b) fun c =>
gb a true (y11 0 c h) fun g =>
gb a true (y8 .leq g (.int .i64 60)) fun e =>
ob (yd a e (.bool false)) fun d =>
(yf h d)
def y78 (s : St) : OX := yig (s 0) s.h
theorem y1ee : T0 y171 [.t 4] y78 := fun _ => by kernel_rfl
def yf5 (b c a : AV) (h : Heap) : OX :=
  W E 0 yke ⟨[(0, b), (5, c), (6, a)], h⟩ y78 (y5 0 y78 xN) (finP [.t 4])
def ybx (s : St) : OX := yf5 (s 0) (s 5) (s 6) s.h
theorem ynq : T1 yke y78 (y5 0 y78 xN) [.t 4] ybx := fun s => yj.trans (by kernel_rfl)
def y14i (b d a : AV) (h : Heap) : OX :=
ob (y8 .add a (.int .i64 1)) fun c =>
(yf5 b d c h)
def y29f (s : St) : OX := y14i (s 0) (s 5) (s 6) s.h
theorem y1p0 : T1 y0w ybx (y5 0 y78 xN) [.t 4] y29f := fun _ => by kernel_rfl
def yqe (b c a : AV) (h : Heap) : OX :=
ob (y8 .add a (.int .i64 1)) fun g =>
ob (ye3 b (some a) (some g)) fun i =>
oh (y9 E (yb E) 0 none true 53 [c, i] h) fun d h1 =>
ob (evUn .not d) fun e =>
cnd e
 ((yf h1 (.bool false)))
 ((y14i b c a h1))
def y2az (s : St) : OX := yqe (s 0) (s 5) (s 6) s.h
theorem y1j7 : T1 ywz ybx (y5 0 y78 xN) [.t 4] y2az := sq y1p0 fun _ => by kernel_rfl
def ytl (a e b : AV) (h : Heap) : OX :=
ob (y11 0 a h) fun d =>
ob (y8 .lss b d) fun c =>
cnd c
 ((yqe a e b h))
 ((yig a h))
def y2el (s : St) : OX := ytl (s 0) (s 5) (s 6) s.h
theorem y1ft : T1 y15c ybx (y5 0 y78 xN) [.t 4] y2el := sq y1j7 fun _ => by kernel_rfl
theorem yo4 (b c a : AV) (h : Heap) : yf5 b c a h = (ytl b c a h) :=
  y28.trans ((y1c _ _ _ (n' := ybx) (fun s => ynq s)).trans ((y1ft _).trans (by kernel_rfl)))
theorem y1kg : T1 yxb y78 xN [.t 4] ybx := fun s => yy.trans (ynq s)
def y119 (a b : AV) (h : Heap) : OX :=
(yf5 a b (.int .i64 0) h)
def y1lc (s : St) : OX := y119 (s 0) (s 5) s.h
theorem y1is : T1 y188 y78 xN [.t 4] y1lc := sq y1kg fun _ => by kernel_rfl
theorem y1tb : T0 yyi [.t 4] y1lc := sq y1ee y1is
def y1su (b d a : AV) (h : Heap) : OX :=
cnd d
 (ob (y8 .add a (AV.str [60, 62])) fun c =>
(y119 b c h))
 ((y119 b a h))
def y2c1 (s : St) : OX := y1su (s 0) (s 1) (s 5) s.h
theorem y1wj : T0 y176 [.t 4] y2c1 := sq y1tb fun _ => by kernel_rfl
def ywj (a b : AV) (h : Heap) : OX :=
(y1su a b (AV.str [97, 98, 99, 100, 101, 102, 103, 104, 105, 106, 107, 108, 109, 110, 111, 112, 113, 114, 115, 116, 117, 118, 119, 120, 121, 122, 65, 66, 67, 68, 69, 70, 71, 72, 73, 74, 75, 76, 77, 78, 79, 80, 81, 82, 83, 84, 85, 86, 87, 88, 89, 90, 48, 49, 50, 51, 52, 53, 54, 55, 56, 57, 95, 36, 47]) h)
def y235 (s : St) : OX := ywj (s 0) (s 1) s.h
theorem y19h : T0 yta [.t 4] y235 := sq y1wj fun _ => by kernel_rfl
def yok (a b : AV) (h : Heap) : OX :=
(ywj a b h)
def y258 (s : St) : OX := yok (s 0) (s 1) s.h
theorem y1b8 : T0 yr7 [.t 4] y258 := sq y19h fun _ => by kernel_rfl
@[simp] theorem y2ns : E.pure 69 = true := rfl
theorem y2mh (a b : AV) : (yb E).p 69 [a, b] = yok a b [] :=
  (y15 (cf := y27n) (by kernel_rfl) rfl).trans ((y1b8 _).trans (by kernel_rfl))
def q9_1 (h : Heap) : OX :=
(yf h (.int .i64 0))
def y3l (s : St) : OX := q9_1 s.h
theorem y2ai : T0 y271 [.t 2] y3l := fun _ => by kernel_rfl
def y1dm (b a c : AV) (h : Heap) : OX :=
  W E 0 yww ⟨[(0, b), (3, a), (4, c)], h⟩ y3l (y5 3 y3l (y5 2 y3l xN)) (finP [.t 2])
def ylt (s : St) : OX := y1dm (s 0) (s 3) (s 4) s.h
theorem y15l : T1 yww y3l (y5 3 y3l (y5 2 y3l xN)) [.t 2] ylt := fun s => yj.trans (by kernel_rfl)
def q9_3 (c b d : AV) (h : Heap) : OX :=
ob (y8 .add d (.int .i64 1)) fun a =>
(y1dm c b a h)
def yle (s : St) : OX := q9_3 (s 0) (s 3) (s 4) s.h
theorem y2an : T1 y26j ylt (y5 3 y3l (y5 2 y3l xN)) [.t 2] yle := fun _ => by kernel_rfl
def q9_4 (h : Heap) : OX :=
(yf h (.int .i64 0))
def y2og (s : St) : OX := q9_4 s.h
theorem y2bu : T1 y26g yle (y5 4 yle (y5 3 y3l (y5 2 y3l xN))) [.t 2] y2og := fun _ => by kernel_rfl
def q9_5 (b d a : AV) (h : Heap) : OX :=
ob (y8 .add d (.int .i64 1)) fun c =>
ob (ye3 b (some c) (some a)) fun i =>
oh (y9 E (yb E) 0 none true 60 [i, (.bool false)] h) fun e h1 =>
cnd e
 (ob (y8 .add a (.int .i64 1)) fun g =>
(yf h1 g))
 ((q9_4 h1))
def y2o3 (s : St) : OX := q9_5 (s 0) (s 3) (s 4) s.h
theorem y2ah : T1 y27e yle (y5 4 yle (y5 3 y3l (y5 2 y3l xN))) [.t 2] y2o3 := sq y2bu fun _ => by kernel_rfl
def q9_6 (b a c d : AV) (h : Heap) : OX :=
cnd d
 ((q9_5 b a c h))
 ((q9_3 b a c h))
def y2r3 (s : St) : OX := q9_6 (s 0) (s 3) (s 4) (s 46) s.h
theorem y27y : T1 y261 yle (y5 4 yle (y5 3 y3l (y5 2 y3l xN))) [.t 2] y2r3 := fun s => (y1b (y2ah s) rfl).trans (by kernel_rfl)
def q9_7 (a d b : AV) (h : Heap) : OX :=
ob (y5q a b) fun c =>
ob (y8 .eql c (.int .u8 59)) fun e =>
(q9_6 a d b e h)
def y2ei (s : St) : OX := q9_7 (s 0) (s 3) (s 4) s.h
theorem y2dm : T1 y274 yle (y5 4 yle (y5 3 y3l (y5 2 y3l xN))) [.t 2] y2ei := sq y27y fun _ => by kernel_rfl
theorem y29i : T1 y266 yle (y5 3 y3l (y5 2 y3l xN)) [.t 2] y2ei := fun s => yy.trans (y2dm s)
theorem y29q : T1 y25y ylt (y5 3 y3l (y5 2 y3l xN)) [.t 2] y2ei := sq y2an y29i
def y19c (a e b : AV) (h : Heap) : OX :=
ob (y11 0 a h) fun c =>
ob (y8 .lss b c) fun d =>
cnd d
 ((q9_7 a e b h))
 ((q9_1 h))
def y2ka (s : St) : OX := y19c (s 0) (s 3) (s 4) s.h
theorem y1x0 : T1 y1mn ylt (y5 3 y3l (y5 2 y3l xN)) [.t 2] y2ka := sq y29q fun _ => by kernel_rfl
theorem y18p (b a c : AV) (h : Heap) : y1dm b a c h = (y19c b a c h) :=
  y28.trans ((y1c _ _ _ (n' := ylt) (fun s => y15l s)).trans ((y1x0 _).trans (by kernel_rfl)))
theorem y1x9 : T1 y1d9 y3l (y5 2 y3l xN) [.t 2] ylt := fun s => yy.trans (y15l s)
def y29e (b a : AV) (h : Heap) : OX :=
ob (y8 .add a (.int .i64 1)) fun c =>
(y1dm b a c h)
def y2ii (s : St) : OX := y29e (s 0) (s 3) s.h
theorem y1zu : T1 y1oy y3l (y5 2 y3l xN) [.t 2] y2ii := sq y1x9 fun _ => by kernel_rfl
def y244 (b a c : AV) (h : Heap) : OX :=
cnd c
 ((y29e b a h))
 ((q9_1 h))
def y2kp (s : St) : OX := y244 (s 0) (s 3) (s 33) s.h
theorem y221 : T1 y1p8 y3l (y5 2 y3l xN) [.t 2] y2kp := fun s => (y1b (y1zu s) rfl).trans (by kernel_rfl)
def y22b (b a c : AV) (h : Heap) : OX :=
ob (y8 .eql c (.int .u8 76)) fun d =>
(y244 b a d h)
def y2ir (s : St) : OX := y22b (s 0) (s 3) (s 27) s.h
theorem y1x4 : T1 y1gd y3l (y5 2 y3l xN) [.t 2] y2ir := sq y221 fun _ => by kernel_rfl
def yvm (b a c e : AV) (h : Heap) : OX :=
cnd e
 (ob (y8 .add a (.int .i64 1)) fun d =>
(yf h d))
 ((y22b b a c h))
def y2i7 (s : St) : OX := yvm (s 0) (s 3) (s 27) (s 28) s.h
theorem y23l : T1 y1he y3l (y5 2 y3l xN) [.t 2] y2i7 := fun s => (y1b rfl (y1x4 s)).trans (by kernel_rfl)
def y19x (b c a : AV) (h : Heap) : OX :=
ob (y8 .eql a (.int .u8 73)) fun d =>
cnd d
 ((yvm b c a d h))
 (ob (y8 .eql a (.int .u8 74)) fun e =>
(yvm b c a e h))
def y26a (s : St) : OX := y19x (s 0) (s 3) (s 27) s.h
theorem y200 : T1 y1u8 y3l (y5 2 y3l xN) [.t 2] y26a := sq y23l fun _ => by kernel_rfl
theorem y24h : T1 y1gu y3l xN [.t 2] y26a := fun s => yy.trans (y200 s)
def y19f (b a : AV) (h : Heap) : OX :=
ob (y5q b a) fun c =>
(y19x b a c h)
def y26h (s : St) : OX := y19f (s 0) (s 3) s.h
theorem y1y3 : T1 y1mm y3l xN [.t 2] y26h := sq y24h fun _ => by kernel_rfl
theorem y22a : T0 y1o9 [.t 2] y26h := sq y2ai y1y3
def ylc (c b : AV) (h : Heap) : OX :=
ob (y8 .gtr b (.int .i64 8)) fun a =>
gb a false (some b) fun i =>
gb a false (some c) fun j =>
gb a false (y11 0 j h) fun e =>
gb a false (y8 .eql i e) fun g =>
ob (yd a (.bool true) g) fun d =>
cnd d
 ((yf h (.int .i64 0)))
 ((y19f c b h))
def ygt (s : St) : OX := ylc (s 0) (s 3) s.h
theorem y210 : T0 y1mk [.t 2] ygt := sq y22a fun _ => by kernel_rfl
def yqn (b a : AV) (h : Heap) : OX :=
  W E 0 yow ⟨[(0, b), (3, a)], h⟩ ygt (y5 0 ygt xN) (finP [.t 2])
def yfr (s : St) : OX := yqn (s 0) (s 3) s.h
theorem yt3 : T1 yow ygt (y5 0 ygt xN) [.t 2] yfr := fun s => yj.trans (by kernel_rfl)
def y2aa (b a : AV) (h : Heap) : OX :=
ob (y8 .add a (.int .i64 1)) fun c =>
(yqn b c h)
def y2mt (s : St) : OX := y2aa (s 0) (s 3) s.h
theorem y1z6 : T1 y1da yfr (y5 0 ygt xN) [.t 2] y2mt := fun _ => by kernel_rfl
def y1cz (b c : AV) (h : Heap) : OX :=
ob (y11 0 b h) fun d =>
ob (y8 .lss c d) fun a =>
gb a true (some b) fun i =>
gb a true (some c) fun e =>
gb a true (y5q i e) fun j =>
gb a true (y8 .eql j (.int .u8 91)) fun g =>
ob (yd a g (.bool false)) fun k =>
cnd k
 ((y2aa b c h))
 ((ylc b c h))
def y2h9 (s : St) : OX := y1cz (s 0) (s 3) s.h
theorem y22p : T1 y1qq yfr (y5 0 ygt xN) [.t 2] y2h9 := sq y1z6 fun _ => by kernel_rfl
theorem yue (b a : AV) (h : Heap) : yqn b a h = (y1cz b a h) :=
  y28.trans ((y1c _ _ _ (n' := yfr) (fun s => yt3 s)).trans ((y22p _).trans (by kernel_rfl)))
theorem y1y6 : T1 y1qa ygt xN [.t 2] yfr := fun s => yy.trans (yt3 s)
theorem y21g : T0 y1w9 [.t 2] yfr := sq y210 y1y6
def y2a2 (a : AV) (h : Heap) : OX :=
(yqn a (.int .i64 0) h)
def y2m9 (s : St) : OX := y2a2 (s 0) s.h
theorem y223 : T0 y1n9 [.t 2] y2m9 := sq y21g fun _ => by kernel_rfl
def y29x (a : AV) (h : Heap) : OX :=
(y2a2 a h)
def y2jk (s : St) : OX := y29x (s 0) s.h
theorem y22q : T0 y1rt [.t 2] y2jk := sq y223 fun _ => by kernel_rfl
@[simp] theorem y2pb : E.pure 44 = true := rfl
theorem x_q9 (a : AV) : (yb E).p 44 [a] = y29x a [] :=
  (y15 (cf := c_q9) (by kernel_rfl) rfl).trans ((y22q _).trans (by kernel_rfl))
def q7_1 (h : Heap) : OX :=
(yf h (.bool true))
def ykt (s : St) : OX := q7_1 s.h
theorem y29l : T0 y27l [.t 4] ykt := fun _ => by kernel_rfl
def y1v2 (d c b a : AV) (h : Heap) : OX :=
  W E 0 yws ⟨[(1, d), (17, c), (18, b), (19, a)], h⟩ ykt (y5 0 ykt xN) (finP [.t 4])
def yjt (s : St) : OX := y1v2 (s 1) (s 17) (s 18) (s 19) s.h
theorem yzb : T1 yws ykt (y5 0 ykt xN) [.t 4] yjt := fun s => yj.trans (by kernel_rfl)
def q7_3 (a d c b : AV) (h : Heap) : OX :=
ob (y8 .add b (.int .i64 1)) fun e =>
(y1v2 a d c e h)
def y2qh (s : St) : OX := q7_3 (s 1) (s 17) (s 18) (s 19) s.h
theorem y2bc : T1 y26i yjt (y5 0 ykt xN) [.t 4] y2qh := fun _ => by kernel_rfl
def q7_4 (p r X o : AV) (h : Heap) : OX :=
ob (yw 1 r o) fun N =>
ob (evLd false 1 N h) fun a =>
ob (y8 .geq a (.int .u8 97)) fun g =>
gb g true (some a) fun P =>
gb g true (y8 .leq P (.int .u8 122)) fun I =>
ob (yd g I (.bool false)) fun b =>
gb b false (some a) fun Q =>
gb b false (y8 .geq Q (.int .u8 65)) fun w =>
gb b false (some w) fun i =>
gb i true (some a) fun V =>
gb i true (y8 .leq V (.int .u8 90)) fun x =>
gb b false (yd i x (.bool false)) fun Y =>
ob (yd b (.bool true) Y) fun d =>
gb d false (some a) fun J =>
gb d false (y8 .geq J (.int .u8 48)) fun u =>
gb d false (some u) fun m =>
gb m true (some a) fun A =>
gb m true (y8 .leq A (.int .u8 57)) fun G =>
gb d false (yd m G (.bool false)) fun y =>
ob (yd d (.bool true) y) fun n =>
gb n false (some a) fun D =>
gb n false (y8 .eql D (.int .u8 95)) fun U =>
ob (yd n (.bool true) U) fun l =>
gb l false (some a) fun F =>
gb l false (y8 .eql F (.int .u8 36)) fun v =>
ob (yd l (.bool true) v) fun j =>
gb j false (some a) fun C =>
gb j false (y8 .eql C (.int .u8 47)) fun O =>
ob (yd j (.bool true) O) fun z =>
ob (evUn .not z) fun e =>
gb e true (some p) fun R =>
gb e true (some R) fun c =>
gb c true (some a) fun t =>
gb c true (y8 .eql t (.int .u8 60)) fun K =>
gb c true (some K) fun k =>
gb k false (some a) fun L =>
gb k false (y8 .eql L (.int .u8 62)) fun Z =>
gb c true (yd k (.bool true) Z) fun M =>
gb e true (yd c M (.bool false)) fun H =>
gb e true (evUn .not H) fun B =>
ob (yd e B (.bool false)) fun S =>
cnd S
 ((yf h (.bool false)))
 ((q7_3 p r X o h))
def y2r5 (s : St) : OX := q7_4 (s 1) (s 17) (s 18) (s 19) s.h
theorem y2fr : T1 y273 yjt (y5 0 ykt xN) [.t 4] y2r5 := sq y2bc fun _ => by kernel_rfl
def q7_5 (a d c b e : AV) (h : Heap) : OX :=
cnd e
 ((q7_4 a d c b h))
 ((q7_1 h))
def y2of (s : St) : OX := q7_5 (s 1) (s 17) (s 18) (s 19) (s 20) s.h
theorem y2b2 : T1 y26m yjt (y5 0 ykt xN) [.t 4] y2of := sq y2fr fun _ => by kernel_rfl
def q7_6 (c d b a : AV) (h : Heap) : OX :=
ob (y8 .lss a b) fun e =>
(q7_5 c d b a e h)
def y2p3 (s : St) : OX := q7_6 (s 1) (s 17) (s 18) (s 19) s.h
theorem y2ag : T1 y27f yjt (y5 0 ykt xN) [.t 4] y2p3 := sq y2b2 fun _ => by kernel_rfl
theorem yyf (d c b a : AV) (h : Heap) : y1v2 d c b a h = (q7_6 d c b a h) :=
  y28.trans ((y1c _ _ _ (n' := yjt) (fun s => yzb s)).trans ((y2ag _).trans (by kernel_rfl)))
theorem y2aw : T1 y263 ykt xN [.t 4] yjt := fun s => yy.trans (yzb s)
def q7_8 (b d : AV) (h : Heap) : OX :=
oh (s2bC 0 (some 0) b h) fun a h1 =>
ob (y11 1 a h1) fun c =>
(y1v2 d a c (.int .i64 0) h1)
def y2kz (s : St) : OX := q7_8 (s 0) (s 1) s.h
theorem y2fd : T1 y260 ykt xN [.t 4] y2kz := sq y2aw fun _ => by kernel_rfl
theorem y29u : T0 y27k [.t 4] y2kz := sq y29l y2fd
def y1oz (b c : AV) (h : Heap) : OX :=
ob (y11 0 b h) fun e =>
ob (y8 .lss e (.int .i64 1)) fun a =>
gb a false (some b) fun g =>
gb a false (y11 0 g h) fun d =>
gb a false (y8 .gtr d (.int .i64 60)) fun j =>
ob (yd a (.bool true) j) fun i =>
cnd i
 ((yf h (.bool false)))
 ((q7_8 b c h))
def y2l5 (s : St) : OX := y1oz (s 0) (s 1) s.h
theorem y24l : T0 y1n7 [.t 4] y2l5 := sq y29u fun _ => by kernel_rfl
def y1w7 (a b : AV) (h : Heap) : OX :=
(y1oz a b h)
def y2j2 (s : St) : OX := y1w7 (s 0) (s 1) s.h
theorem y1zt : T0 y1q9 [.t 4] y2j2 := sq y24l fun _ => by kernel_rfl
@[simp] theorem y2o9 : E.pure 60 = true := rfl
theorem x_q7 (a b : AV) : (yb E).p 60 [a, b] = y1w7 a b [⟨0, .dead⟩] :=
  (y15 (cf := c_q7) (by kernel_rfl) rfl).trans ((y1zt _).trans (by kernel_rfl))
end
end Go.Vm
