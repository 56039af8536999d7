/- Functions of the machine as plain functions that go on with what follows. -/
import Derived.Test.YtgbajicpokolcaaGEnv
set_option linter.unusedSimpArgs false
set_option linter.unusedVariables false
set_option linter.unusedSectionVars false
namespace Go.Vm
noncomputable section
def y2w (h : Heap) : OX :=
(yf h (.bool true))
def y11 (s : St) : OX := y2w s.h
theorem y1uf : T0 y147 [.t 4] y11 := fun _ => by kernel_rfl
def y2v (b g : AV) (h : Heap) : OX :=
ob (evFa 2 g) fun j =>
ob (evLd false 1 j h) fun o =>
ob (y8 .neq o (.int .i64 (-1))) fun a =>
ofp (fgd a true (some (ids1 b, []))) fun f4 =>
gb a true (evLd true 5 b h) fun i =>
ofp (fgd a true (some ([], []))) fun f5 =>
gb a true (evFa 2 g) fun e =>
ofp (fgd a true (some (ids1 e, []))) fun f6 =>
gb a true (evLd false 1 e h) fun d =>
ofp (fgd a true (y4k E (yb E) 0 none true 48 [i, d] h)) fun f7 =>
gh a true (y9 E (yb E) 0 none true 48 [i, d] h) h fun m h1 =>
ofp (fgd a true (some ([], []))) fun f8 =>
gb a true (evFa 2 b) fun c =>
ofp (fgd a true (some (ids1 c, []))) fun f9 =>
gb a true (evLd false 1 c h1) fun l =>
ofp (fgd a true (some ([], []))) fun f10 =>
gb a true (y8 .eql m l) fun k =>
ob (yd a k (.bool false)) fun n =>
okK (yg [([], []), (ids1 j, []), ([], []), ([], []), f4, f5, f6, f7, f8, f9, f10, ([], []), ([], [])] [(7, 9)]) <|
(yf h1 n)
def y2a3 (s : St) : OX := y2v (s 2) (s 3) s.h
theorem y1fe : T1 y176 y11 (y5 2 y11 xN) [.t 4] y2a3 := fun _ => by kernel_rfl
def y2y (b a : AV) (h : Heap) : OX :=
ob (evFa 2 b) fun d =>
ob (evLd false 1 d h) fun j =>
ob (y8 .eql j (.int .i64 0)) fun i =>
cnd i
 (ob (evFa 2 a) fun e =>
ob (evLd false 1 e h) fun g =>
ob (y8 .eql g (.int .i64 (-1))) fun c =>
(yf h c))
 ((y2v b a h))
def y2e0 (s : St) : OX := y2y (s 2) (s 3) s.h
theorem y1e5 : T1 yxw y11 (y5 2 y11 xN) [.t 4] y2e0 := sq y1fe fun _ => by kernel_rfl
def y2u (a c b : AV) (h : Heap) : OX :=
cnd b
 ((y2y a c h))
 ((y2w h))
def y2el (s : St) : OX := y2u (s 2) (s 3) (s 207) s.h
theorem y1pb : T1 y13p y11 (y5 2 y11 xN) [.t 4] y2el := fun s => (y1b (y1e5 s) rfl).trans (by kernel_rfl)
def y2x (a c b : AV) (h : Heap) : OX :=
ob (y8 .eql b (.int .i64 30)) fun d =>
(y2u a c d h)
def y2cj (s : St) : OX := y2x (s 2) (s 3) (s 55) s.h
theorem y1on : T1 yx6 y11 (y5 2 y11 xN) [.t 4] y2cj := sq y1pb fun _ => by kernel_rfl
def y2t (g a D j : AV) (h : Heap) : OX :=
cnd j
 (ob (evFa 5 a) fun u =>
ob (evLd false 1 u h) fun v =>
ob (y8 .eql v (.int .i64 0)) fun e =>
gb e false (evFa 5 a) fun B =>
gb e false (evLd false 1 B h) fun C =>
gb e false (y8 .eql C (.int .i64 1)) fun t =>
ob (yd e (.bool true) t) fun c =>
gb c true (evFa 3 a) fun r =>
gb c true (evLd false 1 r h) fun k =>
gb c true (y8 .eql k (.int .i64 (-1))) fun A =>
gb c true (some A) fun b =>
gb b false (evLd true 5 g h) fun p =>
gb b false (evFa 3 a) fun z =>
gb b false (evLd false 1 z h) fun n =>
gh b false (y9 E (yb E) 0 none true 48 [p, n] h) h fun m h2 =>
gb b false (y8 .eql m (.int .i64 3)) fun w =>
gb c true (yd b (.bool true) w) fun F =>
ob (yd c F (.bool false)) fun d =>
gb d true (evLd true 5 g h2) fun y =>
gb d true (evFa 6 a) fun o =>
gb d true (evLd false 1 o h2) fun l =>
gh d true (y9 E (yb E) 0 none true 49 [y, l] h2) h2 fun i h3 =>
ob (yd d i (.bool false)) fun x =>
(yf h3 x))
 ((y2x g a D h))
def y2g4 (s : St) : OX := y2t (s 2) (s 3) (s 55) (s 179) s.h
theorem y1i0 : T1 yzv y11 (y5 2 y11 xN) [.t 4] y2g4 := fun s => (y1b rfl (y1on s)).trans (by kernel_rfl)
def y2s (b c a : AV) (h : Heap) : OX :=
ob (y8 .eql a (.int .i64 29)) fun d =>
(y2t b c a d h)
def y28v (s : St) : OX := y2s (s 2) (s 3) (s 55) s.h
theorem y1uy : T1 yy4 y11 (y5 2 y11 xN) [.t 4] y28v := sq y1i0 fun _ => by kernel_rfl
def y2q (b a j g : AV) (h : Heap) : OX :=
cnd g
 (ob (evLd true 5 b h) fun i =>
ob (evFa 6 a) fun c =>
ob (evLd false 1 c h) fun e =>
oh (y9 E (yb E) 0 none true 49 [i, e] h) fun d h4 =>
(yf h4 d))
 ((y2s b a j h))
def y29r (s : St) : OX := y2q (s 2) (s 3) (s 55) (s 173) s.h
theorem y1ft : T1 yzm y11 (y5 2 y11 xN) [.t 4] y29r := fun s => (y1b rfl (y1uy s)).trans (by kernel_rfl)
def y2r (b c a : AV) (h : Heap) : OX :=
ob (y8 .eql a (.int .i64 27)) fun d =>
(y2q b c a d h)
def y29e (s : St) : OX := y2r (s 2) (s 3) (s 55) s.h
theorem y1dg : T1 yyr y11 (y5 2 y11 xN) [.t 4] y29e := sq y1ft fun _ => by kernel_rfl
def y1t (d c r k : AV) (h : Heap) : OX :=
cnd k
 (ob (evFa 5 c) fun n =>
ob (evLd false 1 n h) fun t =>
ob (y8 .geq t (.int .i64 0)) fun b =>
gb b true (evFa 5 c) fun l =>
gb b true (evLd false 1 l h) fun o =>
gb b true (y8 .leq o (.int .i64 5)) fun p =>
ob (yd b p (.bool false)) fun a =>
gb a true (evLd true 5 d h) fun g =>
gb a true (evFa 6 c) fun j =>
gb a true (evLd false 1 j h) fun m =>
gh a true (y9 E (yb E) 0 none true 49 [g, m] h) h fun e h5 =>
ob (yd a e (.bool false)) fun i =>
(yf h5 i))
 ((y2r d c r h))
def y1yo (s : St) : OX := y1t (s 2) (s 3) (s 55) (s 157) s.h
theorem y191 : T1 yr6 y11 (y5 2 y11 xN) [.t 4] y1yo := fun s => (y1b rfl (y1dg s)).trans (by kernel_rfl)
def y1y (b d a : AV) (h : Heap) : OX :=
ob (y8 .eql a (.int .i64 28)) fun c =>
(y1t b d a c h)
def y24s (s : St) : OX := y1y (s 2) (s 3) (s 55) s.h
theorem y195 : T1 yqe y11 (y5 2 y11 xN) [.t 4] y24s := sq y191 fun _ => by kernel_rfl
def y1j (b a i d : AV) (h : Heap) : OX :=
cnd d
 (ob (evLd true 5 b h) fun c =>
ob (evLd true 9 a h) fun g =>
oh (y9 E (yb E) 0 none true 68 [c, g] h) fun e h6 =>
(yf h6 e))
 ((y1y b a i h))
def y21k (s : St) : OX := y1j (s 2) (s 3) (s 55) (s 149) s.h
theorem y1ab : T1 yqq y11 (y5 2 y11 xN) [.t 4] y21k := fun s => (y1b rfl (y195 s)).trans (by kernel_rfl)
def y1v (c b a : AV) (h : Heap) : OX :=
ob (y8 .eql a (.int .i64 23)) fun g =>
cnd g
 ((y1j c b a g h))
 (ob (y8 .eql a (.int .i64 24)) fun e =>
cnd e
 ((y1j c b a e h))
 (ob (y8 .eql a (.int .i64 25)) fun d =>
cnd d
 ((y1j c b a d h))
 (ob (y8 .eql a (.int .i64 26)) fun i =>
(y1j c b a i h))))
def y203 (s : St) : OX := y1v (s 2) (s 3) (s 55) s.h
theorem y19q : T1 yqp y11 (y5 2 y11 xN) [.t 4] y203 := sq y1ab fun _ => by kernel_rfl
def y1o (e a g d : AV) (h : Heap) : OX :=
cnd d
 (ob (evFa 5 a) fun i =>
ob (evLd false 1 i h) fun b =>
ob (y8 .geq b (.int .i64 0)) fun c =>
(yf h c))
 ((y1v e a g h))
def y20p (s : St) : OX := y1o (s 2) (s 3) (s 55) (s 143) s.h
theorem y19v : T1 yqc y11 (y5 2 y11 xN) [.t 4] y20p := fun s => (y1b rfl (y19q s)).trans (by kernel_rfl)
def y1x (d c a : AV) (h : Heap) : OX :=
ob (y8 .eql a (.int .i64 16)) fun b =>
cnd b
 ((y1o d c a b h))
 (ob (y8 .eql a (.int .i64 17)) fun e =>
(y1o d c a e h))
def y1xv (s : St) : OX := y1x (s 2) (s 3) (s 55) s.h
theorem y1cf : T1 yqi y11 (y5 2 y11 xN) [.t 4] y1xv := sq y19v fun _ => by kernel_rfl
def y1l (e a i b : AV) (h : Heap) : OX :=
cnd b
 (ob (evFa 7 a) fun c =>
ob (evLd false 1 c h) fun d =>
oh (y9 E (yb E) 0 none true 67 [d] h) fun g h7 =>
(yf h7 g))
 ((y1x e a i h))
def y21z (s : St) : OX := y1l (s 2) (s 3) (s 55) (s 136) s.h
theorem y19s : T1 yqx y11 (y5 2 y11 xN) [.t 4] y21z := fun s => (y1b rfl (y1cf s)).trans (by kernel_rfl)
def y1w (c b a : AV) (h : Heap) : OX :=
ob (y8 .eql a (.int .i64 12)) fun e =>
cnd e
 ((y1l c b a e h))
 (ob (y8 .eql a (.int .i64 21)) fun d =>
cnd d
 ((y1l c b a d h))
 (ob (y8 .eql a (.int .i64 22)) fun g =>
(y1l c b a g h)))
def y1xd (s : St) : OX := y1w (s 2) (s 3) (s 55) s.h
theorem y1c3 : T1 yte y11 (y5 2 y11 xN) [.t 4] y1xd := sq y19s fun _ => by kernel_rfl
def y1s (e c g n p C u : AV) (h : Heap) : OX :=
cnd u
 (ob (y8 .gtr g (.int .i64 0)) fun d =>
gb d true (some n) fun l =>
gb d true (y8 .eql l (.int .i64 0)) fun o =>
ob (yd d o (.bool false)) fun b =>
gb b true (evLd true 5 e h) fun j =>
gb b true (evFa 1 c) fun B =>
gb b true (evLd false 1 B h) fun i =>
gh b true (y9 E (yb E) 0 none true 48 [j, i] h) h fun x h8 =>
gb b true (some p) fun w =>
gb b true (y8 .eql x w) fun z =>
ob (yd b z (.bool false)) fun a =>
gb a true (evLd true 5 e h8) fun y =>
gb a true (evFa 2 c) fun v =>
gb a true (evLd false 1 v h8) fun A =>
gh a true (y9 E (yb E) 0 none true 48 [y, A] h8) h8 fun r h9 =>
gb a true (some g) fun m =>
gb a true (y8 .eql r m) fun t =>
ob (yd a t (.bool false)) fun k =>
(yf h9 k))
 ((y1w e c C h))
def y24e (s : St) : OX := y1s (s 2) (s 3) (s 8) (s 9) (s 10) (s 55) (s 112) s.h
theorem y19j : T1 yuk y11 (y5 2 y11 xN) [.t 4] y24e := fun s => (y1b rfl (y1c3 s)).trans (by kernel_rfl)
def y21 (g e i c b a : AV) (h : Heap) : OX :=
ob (y8 .eql a (.int .i64 6)) fun d =>
(y1s g e i c b a d h)
def y240 (s : St) : OX := y21 (s 2) (s 3) (s 8) (s 9) (s 10) (s 55) s.h
theorem y1b6 : T1 yrp y11 (y5 2 y11 xN) [.t 4] y240 := sq y19j fun _ => by kernel_rfl
def y1z (e d i g j F z : AV) (h : Heap) : OX :=
cnd z
 (ob (y8 .gtr g (.int .i64 0)) fun a =>
gb a true (evLd true 5 e h) fun k =>
gb a true (evFa 1 d) fun w =>
gb a true (evLd false 1 w h) fun B =>
gh a true (y9 E (yb E) 0 none true 48 [k, B] h) h fun o h10 =>
gb a true (some j) fun r =>
gb a true (y8 .eql o r) fun p =>
ob (yd a p (.bool false)) fun b =>
gb b true (evLd true 5 e h10) fun H =>
gb b true (evFa 2 d) fun D =>
gb b true (evLd false 1 D h10) fun y =>
gh b true (y9 E (yb E) 0 none true 48 [H, y] h10) h10 fun n h11 =>
gb b true (some i) fun v =>
gb b true (y8 .eql n v) fun C =>
ob (yd b C (.bool false)) fun c =>
gb c true (evLd true 5 e h11) fun m =>
gb c true (evFa 3 d) fun u =>
gb c true (evLd false 1 u h11) fun x =>
gh c true (y9 E (yb E) 0 none true 48 [m, x] h11) h11 fun G h12 =>
gb c true (some g) fun A =>
gb c true (y8 .eql G A) fun l =>
ob (yd c l (.bool false)) fun t =>
(yf h12 t))
 ((y21 e d i g j F h))
def y1x3 (s : St) : OX := y1z (s 2) (s 3) (s 8) (s 9) (s 10) (s 55) (s 84) s.h
theorem y1b0 : T1 ys1 y11 (y5 2 y11 xN) [.t 4] y1x3 := fun s => (y1b rfl (y1b6 s)).trans (by kernel_rfl)
def y1u (e d i c b a : AV) (h : Heap) : OX :=
ob (y8 .eql a (.int .i64 5)) fun g =>
(y1z e d i c b a g h)
def y25c (s : St) : OX := y1u (s 2) (s 3) (s 8) (s 9) (s 10) (s 55) s.h
theorem y19t : T1 ysw y11 (y5 2 y11 xN) [.t 4] y25c := sq y1b0 fun _ => by kernel_rfl
def y1q (a b t p k r n : AV) (h : Heap) : OX :=
cnd n
 (ob (evLd true 5 a h) fun j =>
ob (evFa 1 b) fun i =>
ob (evLd false 1 i h) fun c =>
ofp (y4k E (yb E) 0 none true 48 [j, c] h) fun f3 =>
oh (y9 E (yb E) 0 none true 48 [j, c] h) fun l h13 =>
ob (evLd true 5 a h13) fun g =>
ob (evFa 2 b) fun d =>
ob (evLd false 1 d h13) fun e =>
ofp (y4k E (yb E) 0 none true 48 [g, e] h13) fun f7 =>
oh (y9 E (yb E) 0 none true 48 [g, e] h13) fun o h14 =>
ob (y8 .eql l o) fun m =>
okK (yg [(ids1 a, []), ([], []), (ids1 i, []), f3, (ids1 a, []), ([], []), (ids1 d, []), f7, ([], []), ([], [])] [(3, 4), (3, 6)]) <|
(yf h14 m))
 ((y1u a b t p k r h))
def y1zx (s : St) : OX := y1q (s 2) (s 3) (s 8) (s 9) (s 10) (s 55) (s 73) s.h
theorem y1cc : T1 yr8 y11 (y5 2 y11 xN) [.t 4] y1zx := fun s => (y1b rfl (y19t s)).trans (by kernel_rfl)
def y1p (g e i c b a : AV) (h : Heap) : OX :=
ob (y8 .eql a (.int .i64 4)) fun d =>
(y1q g e i c b a d h)
def y20g (s : St) : OX := y1p (s 2) (s 3) (s 8) (s 9) (s 10) (s 55) s.h
theorem y1aj : T1 yt1 y11 (y5 2 y11 xN) [.t 4] y20g := sq y1cc fun _ => by kernel_rfl
def y1i (d b j l o y n : AV) (h : Heap) : OX :=
cnd n
 (ob (evLd true 5 d h) fun k =>
ob (evFa 1 b) fun u =>
ob (evLd false 1 u h) fun t =>
oh (y9 E (yb E) 0 none true 48 [k, t] h) fun m h15 =>
ob (y8 .eql m (.int .i64 2)) fun a =>
gb a false (evFa 5 b) fun e =>
gb a false (evLd false 1 e h15) fun v =>
gb a false (y8 .geq v (.int .i64 (-2147483648))) fun p =>
gb a false (some p) fun c =>
gb c true (evFa 5 b) fun x =>
gb c true (evLd false 1 x h15) fun i =>
gb c true (y8 .lss i (.int .i64 2147483648)) fun r =>
gb a false (yd c r (.bool false)) fun w =>
ob (yd a (.bool true) w) fun g =>
(yf h15 g))
 ((y1p d b j l o y h))
def y1xa (s : St) : OX := y1i (s 2) (s 3) (s 8) (s 9) (s 10) (s 55) (s 56) s.h
theorem y1c4 : T1 yq7 y11 (y5 2 y11 xN) [.t 4] y1xa := fun s => (y1b rfl (y1aj s)).trans (by kernel_rfl)
def y1f (g e i c b a : AV) (h : Heap) : OX :=
ob (y8 .eql a (.int .i64 1)) fun d =>
(y1i g e i c b a d h)
def y0f (s : St) : OX := y1f (s 2) (s 3) (s 8) (s 9) (s 10) (s 55) s.h
theorem y1ce : T1 yrk y11 (y5 2 y11 xN) [.t 4] y0f := sq y1c4 fun _ => by kernel_rfl
theorem y1bk : T1 yud y11 xN [.t 4] y0f := fun s => yy.trans (y1ce s)
def yez (e a i c b : AV) (h : Heap) : OX :=
ob (evFa 0 a) fun d =>
ob (evLd false 1 d h) fun g =>
(y1f e a i c b g h)
def yxe (s : St) : OX := yez (s 2) (s 3) (s 8) (s 9) (s 10) s.h
theorem y1bq : T1 yqd y11 xN [.t 4] yxe := sq y1bk fun _ => by kernel_rfl
theorem y19l : T0 ytn [.t 4] yxe := sq y1uf y1bq
def yjt (d a v n g : AV) (h : Heap) : OX :=
ob (evFa 5 a) fun u =>
ob (evLd false 1 u h) fun m =>
ob (y8 .geq m (.int .i64 0)) fun b =>
gb b true (evFa 5 a) fun j =>
gb b true (evLd false 1 j h) fun k =>
gb b true (y8 .lss k (.int .i64 1000)) fun r =>
ob (yd b r (.bool false)) fun e =>
cnd e
 (ob (evFa 5 a) fun o =>
ob (evLd false 1 o h) fun t =>
oh (y9 E (yb E) 0 none true 66 [t] h) fun c h16 =>
ob (y3z 0 c) fun p =>
ob (y3z 1 c) fun i =>
ob (y3z 2 c) fun l =>
(yez d a p i l h16))
 ((yez d a v n g h))
def y1yp (s : St) : OX := yjt (s 2) (s 3) (s 8) (s 9) (s 10) s.h
theorem y19p : T0 ytk [.t 4] y1yp := sq y19l fun _ => by kernel_rfl
def yjz (a b : AV) (h : Heap) : OX :=
(yjt a b (.int .i64 0) (.int .i64 0) (.int .i64 0) h)
def y5f (s : St) : OX := yjz (s 2) (s 3) s.h
theorem y1c7 : T0 ytd [.t 4] y5f := sq y19p fun _ => by kernel_rfl
def y5g (c a e d b : AV) (h : Heap) : OX :=
  W E 0 yfm ⟨[(2, c), (3, a), (5, e), (6, d), (7, b)], h⟩ y5f (y5 0 y5f xN) (finP [.t 4])
def y83 (s : St) : OX := y5g (s 2) (s 3) (s 5) (s 6) (s 7) s.h
theorem yl1 : T1 yfm y5f (y5 0 y5f xN) [.t 4] y83 := fun s => yj.trans (by kernel_rfl)
def yp3 (d b g e c : AV) (h : Heap) : OX :=
ob (y8 .add c (.int .i64 1)) fun a =>
(y5g d b g e a h)
def y214 (s : St) : OX := yp3 (s 2) (s 3) (s 5) (s 6) (s 7) s.h
theorem y1aq : T1 yu7 y83 (y5 0 y5f xN) [.t 4] y214 := fun _ => by kernel_rfl
def yvi (b k d c a : AV) (h : Heap) : OX :=
ob (evLd true 5 b h) fun j =>
ob (yx 1 c a) fun i =>
ob (evLd false 1 i h) fun l =>
ob (y5s d a) fun e =>
oh (y9 E (yb E) 0 none true 65 [j, l, e] h) fun m h17 =>
ob (evUn .not m) fun g =>
cnd g
 ((yf h17 (.bool false)))
 ((yp3 b k d c a h17))
def y226 (s : St) : OX := yvi (s 2) (s 3) (s 5) (s 6) (s 7) s.h
theorem y1co : T1 yrb y83 (y5 0 y5f xN) [.t 4] y226 := sq y1aq fun _ => by kernel_rfl
def yfo (c a g e b : AV) (h : Heap) : OX :=
ob (y8 .lss b (.int .i64 4)) fun d =>
cnd d
 ((yvi c a g e b h))
 ((yjz c a h))
def y23s (s : St) : OX := yfo (s 2) (s 3) (s 5) (s 6) (s 7) s.h
theorem y1bv : T1 yrz y83 (y5 0 y5f xN) [.t 4] y23s := sq y1co fun _ => by kernel_rfl
theorem ykq (c a e d b : AV) (h : Heap) : y5g c a e d b h = (yfo c a e d b h) :=
  y28.trans ((y1c _ _ _ (n' := y83) (fun s => yl1 s)).trans ((y1bv _).trans (by kernel_rfl)))
theorem y1at : T1 yrq y5f xN [.t 4] y83 := fun s => yy.trans (yl1 s)
def yv5 (a c d b : AV) (h : Heap) : OX :=
(y5g a c d b (.int .i64 0) h)
def y15c (s : St) : OX := yv5 (s 2) (s 3) (s 5) (s 6) s.h
theorem y1bz : T1 yu5 y5f xN [.t 4] y15c := sq y1at fun _ => by kernel_rfl
theorem y1cp : T0 yul [.t 4] y15c := sq y1c7 y1bz
def ywu (l a n : AV) (h : Heap) : OX :=
ob (evFa 1 a) fun d =>
ob (evLd false 1 d h) fun c =>
ob (evFa 2 a) fun j =>
ob (evLd false 1 j h) fun g =>
ob (evFa 3 a) fun e =>
ob (evLd false 1 e h) fun b =>
ob (evFa 4 a) fun k =>
ob (evLd false 1 k h) fun i =>
oh (y12 0 (some 2) 1 4 [(.int .i64 0)] [(0, c), (1, g), (2, b), (3, i)] h) fun m h18 =>
(yv5 l a n m h18)
def y25a (s : St) : OX := ywu (s 2) (s 3) (s 5) s.h
theorem y19r : T0 yth [.t 4] y25a := sq y1cp fun _ => by kernel_rfl
def yiu (b c a : AV) (h : Heap) : OX :=
ob (y8 .eql a (AV.str [])) fun d =>
cnd d
 ((yf h (.bool false)))
 ((ywu b c a h))
def y1z6 (s : St) : OX := yiu (s 2) (s 3) (s 5) s.h
theorem y1bt : T0 ys4 [.t 4] y1z6 := sq y19r fun _ => by kernel_rfl
def yks (d a : AV) (h : Heap) : OX :=
ob (evFa 0 a) fun c =>
ob (evLd false 1 c h) fun e =>
oh (y9 E (yb E) 0 none true 38 [e] h) fun b h19 =>
(yiu d a b h19)
def y1zl (s : St) : OX := yks (s 2) (s 3) s.h
theorem y1b3 : T0 ytb [.t 4] y1zl := sq y1bt fun _ => by kernel_rfl
def yf3 (c b : AV) (h : Heap) : OX :=
oh (newC 0 (some 0) (cellsOf c) h) fun a h20 =>
oh (newC 0 (some 1) (cellsOf b) h20) fun d h21 =>
(yks a d h21)
def y1x5 (s : St) : OX := yf3 (s 0) (s 1) s.h
theorem y197 : T0 yr9 [.t 4] y1x5 := sq y1b3 fun _ => by kernel_rfl
@[simp] theorem y2q7 : E.pure 64 = true := rfl
theorem y2jf (b a : AV) : (yb E).p 64 [b, a] = yf3 b a [⟨0, .dead⟩, ⟨0, .dead⟩, ⟨0, .dead⟩] :=
  (y15 (cf := y279) (by kernel_rfl) rfl).trans ((y197 _).trans (by kernel_rfl))
def y1w1 (b : AV) (h : Heap) : OX :=
oh (y12 0 (some 0) 1 3 [(.int .i64 0)] [(0, (.int .i64 27)), (1, (.int .i64 28)), (2, (.int .i64 29))] h) fun a h1 =>
oh (y9 E (yb E) 0 none true 42 [b, a] h1) fun c h2 =>
(yf h2 c)
def y2di (s : St) : OX := y1w1 (s 0) s.h
theorem y1j3 : T0 y137 [.t 2] y2di := fun _ => by kernel_rfl
@[simp] theorem y2ql : E.pure 23 = true := rfl
theorem y2jr (a : AV) : (yb E).p 23 [a] = y1w1 a [⟨0, .dead⟩] :=
  (y15 (cf := y26t) (by kernel_rfl) rfl).trans ((y1j3 _).trans (by kernel_rfl))
def y1ct (e b : AV) (h : Heap) : OX :=
oh (newC 0 (some 0) (cellsOf e) h) fun k h1 =>
ob (y8 .geq b (.int .i64 0)) fun a =>
gb a true (some b) fun l =>
gb a true (evFa 3 k) fun g =>
gb a true (evLd false 1 g h1) fun c =>
gb a true (y13 1 c h1) fun i =>
gb a true (y8 .lss l i) fun j =>
ob (yd a j (.bool false)) fun d =>
(yf h1 d)
def y2ca (s : St) : OX := y1ct (s 0) (s 1) s.h
theorem y1kv : T0 y17k [.t 4] y2ca := fun _ => by kernel_rfl
@[simp] theorem y2pc : E.pure 49 = true := rfl
theorem y2lq (b a : AV) : (yb E).p 49 [b, a] = y1ct b a [⟨0, .dead⟩] :=
  (y15 (cf := y25t) (by kernel_rfl) rfl).trans ((y1kv _).trans (by kernel_rfl))
def y1qf (a : AV) (h : Heap) : OX :=
oh (y12 0 (some 0) 1 0 [(.bool false)] [] h) fun c h1 =>
oh (y41 0 (some 1) 1 1 c a h1) fun b h2 =>
(yf h2 b)
def y2fb (s : St) : OX := y1qf (s 0) s.h
theorem y1s7 : T0 y14d [.t 2] y2fb := fun _ => by kernel_rfl
def y1qk (a : AV) (h : Heap) : OX :=
ob (y4q 1 false a AV.nils) fun b =>
cnd b
 ((yf h AV.nils))
 ((y1qf a h))
def y2e5 (s : St) : OX := y1qk (s 0) s.h
theorem y1mc : T0 y17s [.t 2] y2e5 := sq y1s7 fun _ => by kernel_rfl
def y1ke (a : AV) (h : Heap) : OX :=
(y1qk a h)
def y27w (s : St) : OX := y1ke (s 0) s.h
theorem y1tt : T0 y17y [.t 2] y27w := sq y1mc fun _ => by kernel_rfl
@[simp] theorem y2qh : E.pure 78 = true := rfl
theorem y2ht (a : AV) : (yb E).p 78 [a] = y1ke a [⟨0, .dead⟩, ⟨0, .dead⟩] :=
  (y15 (cf := y27b) (by kernel_rfl) rfl).trans ((y1tt _).trans (by kernel_rfl))
def y1dt (fb : Nat) (a : AV) (h : Heap) : Option (AV × Heap) :=
(some (a, h))
def y26z (fb : Nat) (s : St) : Option (AV × Heap) := y1dt fb (s 3) s.h
theorem y25e (fb : Nat) (s : St) : W E fb y1m1 s (finI [.t 8]) xN (finI [.t 8]) = y26z fb s :=
  by kernel_rfl
def y19m (fb : Nat) (b a c : AV) (h : Heap) : Option (AV × Heap) :=
cnd c
 (oh (y12 fb (some 3) 1 1 [(.int .i64 0)] [(0, b)] h) fun e h1 =>
oh (y41 fb (some 4) 1 8 a e h1) fun d h2 =>
(y1dt fb d h2))
 ((y1dt fb a h))
def y9c (fb : Nat) (s : St) : Option (AV × Heap) := y19m fb (s 1) (s 3) (s 9) s.h
theorem y1wr (fb : Nat) (s : St) : W E fb y1tf s (finI [.t 8]) xN (finI [.t 8]) = y9c fb s :=
  (ye1 (k := (y26z fb)) (fun s => y25e fb s)).trans (by kernel_rfl)
def yr5 (fb : Nat) (c a i g d e j b : AV) (h : Heap) : Option (AV × Heap) :=
  W E fb ypg ⟨[(0, c), (1, a), (2, i), (3, g), (9, d), (29, e), (30, j), (31, b)], h⟩ (y9c fb) (y5 0 (y9c fb) xN) (finI [.t 8])
def yaw (fb : Nat) (s : St) : Option (AV × Heap) := yr5 fb (s 0) (s 1) (s 2) (s 3) (s 9) (s 29) (s 30) (s 31) s.h
theorem yut (fb : Nat) (s : St) : W E fb ypg s (y9c fb) (y5 0 (y9c fb) xN) (finI [.t 8]) = yaw fb s := yj.trans (by kernel_rfl)
def y1bd (fb : Nat) (d a j i e g k b : AV) (h : Heap) : Option (AV × Heap) :=
ob (y8 .add b (.int .i64 1)) fun c =>
(yr5 fb d a j i e g k c h)
def y27m (fb : Nat) (s : St) : Option (AV × Heap) := y1bd fb (s 0) (s 1) (s 2) (s 3) (s 9) (s 29) (s 30) (s 31) s.h
theorem y24w (fb : Nat) (s : St) : W E fb y1qh s (yaw fb) (y5 0 (y9c fb) xN) (finI [.t 8]) = y27m fb s :=
  by kernel_rfl
def y1sy (fb : Nat) (e d g i n c j b : AV) (h : Heap) : Option (AV × Heap) :=
ob (yx 1 c b) fun r =>
ob (evLd false 1 r h) fun a =>
gb a true (some g) fun k =>
gb a true (some b) fun l =>
gb a true (yx 1 k l) fun u =>
gb a true (evLd false 1 u h) fun p =>
gb a true (evUn .not p) fun t =>
ob (yd a t (.bool false)) fun m =>
cnd m
 (ob (yx 1 e d) fun o =>
ob (evLd false 1 o h) fun v =>
ob (yx 1 v b) fun w =>
oh (evSt 1 w (.bool false) h) fun _ h3 =>
(y1bd fb e d g i (.bool true) c j b h3))
 ((y1bd fb e d g i n c j b h))
def y262 (fb : Nat) (s : St) : Option (AV × Heap) := y1sy fb (s 0) (s 1) (s 2) (s 3) (s 9) (s 29) (s 30) (s 31) s.h
theorem y23h (fb : Nat) (s : St) : W E fb y1cw s (yaw fb) (y5 0 (y9c fb) xN) (finI [.t 8]) = y262 fb s :=
  (ye1 (k := (y27m fb)) (fun s => y24w fb s)).trans (by kernel_rfl)
def y1a1 (fb : Nat) (e a j c b i k d g : AV) (h : Heap) : Option (AV × Heap) :=
cnd g
 ((y1sy fb e a j c b i k d h))
 ((y19m fb a c b h))
def y26k (fb : Nat) (s : St) : Option (AV × Heap) := y1a1 fb (s 0) (s 1) (s 2) (s 3) (s 9) (s 29) (s 30) (s 31) (s 32) s.h
theorem y220 (fb : Nat) (s : St) : W E fb y1d3 s (yaw fb) (y5 0 (y9c fb) xN) (finI [.t 8]) = y26k fb s :=
  (ye1 (k := (y262 fb)) (fun s => y23h fb s)).trans (by kernel_rfl)
def y1b4 (fb : Nat) (d c k j e i b a : AV) (h : Heap) : Option (AV × Heap) :=
ob (y8 .lss a b) fun g =>
(y1a1 fb d c k j e i b a g h)
def y2kz (fb : Nat) (s : St) : Option (AV × Heap) := y1b4 fb (s 0) (s 1) (s 2) (s 3) (s 9) (s 29) (s 30) (s 31) s.h
theorem y1xo (fb : Nat) (s : St) : W E fb y1hj s (yaw fb) (y5 0 (y9c fb) xN) (finI [.t 8]) = y2kz fb s :=
  (ye1 (k := (y26k fb)) (fun s => y220 fb s)).trans (by kernel_rfl)
theorem yrm (fb : Nat) (c a i g d e j b : AV) (h : Heap) : yr5 fb c a i g d e j b h = (y1b4 fb c a i g d e j b h) :=
  y28.trans ((y1c _ _ _ (n' := (yaw fb)) (fun s => yut fb s)).trans ((y1xo fb _).trans (by kernel_rfl)))
theorem y24m (fb : Nat) (s : St) : W E fb y1kl s (y9c fb) xN (finI [.t 8]) = yaw fb s :=
  yy.trans (yut fb s)
def y2b0 (fb : Nat) (b a i g e : AV) (h : Heap) : Option (AV × Heap) :=
ob (yx 1 b a) fun d =>
ob (evLd false 1 d h) fun c =>
ob (y13 1 c h) fun j =>
(yr5 fb b a i g e c j (.int .i64 0) h)
def y1hh (fb : Nat) (s : St) : Option (AV × Heap) := y2b0 fb (s 0) (s 1) (s 2) (s 3) (s 9) s.h
theorem y22b (fb : Nat) (s : St) : W E fb y1ne s (y9c fb) xN (finI [.t 8]) = y1hh fb s :=
  (ye1 (k := (yaw fb)) (fun s => y24m fb s)).trans (by kernel_rfl)
theorem y1lz (fb : Nat) (s : St) : W E fb y17p s (finI [.t 8]) xN (finI [.t 8]) = y1hh fb s :=
  (ye1 (k := (y9c fb)) (fun s => y1wr fb s)).trans (y22b fb s)
def y1vx (fb : Nat) (c b a d : AV) (h : Heap) : Option (AV × Heap) :=
(y2b0 fb c b a d (.bool false) h)
def y1vu (fb : Nat) (s : St) : Option (AV × Heap) := y1vx fb (s 0) (s 1) (s 2) (s 3) s.h
theorem y1pu (fb : Nat) (s : St) : W E fb y15o s (finI [.t 8]) xN (finI [.t 8]) = y1vu fb s :=
  (ye1 (k := (y1hh fb)) (fun s => y1lz fb s)).trans (by kernel_rfl)
def ym9 (fb : Nat) (b a d c : AV) (h : Heap) : Option (AV × Heap) :=
ob (yx 1 b a) fun m =>
ob (evLd false 1 m h) fun e =>
ob (y4q 1 false e AV.nils) fun i =>
cnd i
 (oh (y9 E (yb E) fb (some 0) false 78 [d] h) fun k h4 =>
ob (yx 1 b a) fun g =>
oh (evSt 1 g k h4) fun _ h5 =>
oh (y12 fb (some 1) 1 1 [(.int .i64 0)] [(0, a)] h5) fun l h6 =>
oh (y41 fb (some 2) 1 8 c l h6) fun j h7 =>
(some (j, h7)))
 ((y1vx fb b a d c h))
def y1l3 (fb : Nat) (s : St) : Option (AV × Heap) := ym9 fb (s 0) (s 1) (s 2) (s 3) s.h
theorem y1q8 (fb : Nat) (s : St) : W E fb yyc s (finI [.t 8]) xN (finI [.t 8]) = y1l3 fb s :=
  (ye1 (k := (y1vu fb)) (fun s => y1pu fb s)).trans (by kernel_rfl)
def y268 (fb : Nat) (c b a d : AV) (h : Heap) : Option (AV × Heap) :=
(ym9 fb c b a d h)
def y2et (fb : Nat) (s : St) : Option (AV × Heap) := y268 fb (s 0) (s 1) (s 2) (s 3) s.h
theorem y1f3 (fb : Nat) (s : St) : W E fb yxu s (finI [.t 8]) xN (finI [.t 8]) = y2et fb s :=
  (ye1 (k := (y1l3 fb)) (fun s => y1q8 fb s)).trans (by kernel_rfl)
@[simp] theorem y2qr : E.pure 80 = false := rfl
theorem y2o9 (fb : Nat) (c b a d : AV) (h : Heap) : (yb E).i 80 [c, b, a, d] fb h = y268 fb c b a d (if fb = h.length then h ++ yv 5 else h) :=
  (y1ot (cf := y2hp) (by kernel_rfl) rfl).trans ((y1f3 fb _).trans (by kernel_rfl))
def y2dx (d : AV) (h : Heap) : OX :=
oh (newC 0 (some 0) (cellsOf d) h) fun b h1 =>
ob (evFa 0 b) fun i =>
ob (evLd false 1 i h1) fun g =>
ob (y8 .geq g (.int .i64 23)) fun a =>
gb a true (evFa 0 b) fun j =>
gb a true (evLd false 1 j h1) fun k =>
gb a true (y8 .leq k (.int .i64 26)) fun e =>
ob (yd a e (.bool false)) fun c =>
(yf h1 c)
def y2kw (s : St) : OX := y2dx (s 0) s.h
theorem y20i : T0 y1h8 [.t 2] y2kw := fun _ => by kernel_rfl
@[simp] theorem ywn : E.pure 17 = true := rfl
theorem y2pf (a : AV) : (yb E).p 17 [a] = y2dx a [⟨0, .dead⟩] :=
  (y15 (cf := y2lx) (by kernel_rfl) rfl).trans ((y20i _).trans (by kernel_rfl))
def ymn (h : Heap) : OX :=
(yf h (.int .i64 (-1)))
def y6g (s : St) : OX := ymn s.h
theorem y1l8 : T0 y17d [.t 4] y6g := fun _ => by kernel_rfl
def yk4 (b a c d : AV) (h : Heap) : OX :=
  W E 0 yje ⟨[(0, b), (1, a), (7, c), (8, d)], h⟩ y6g (y5 0 y6g xN) (finP [.t 4])
def y8p (s : St) : OX := yk4 (s 0) (s 1) (s 7) (s 8) s.h
theorem yo6 : T1 yje y6g (y5 0 y6g xN) [.t 4] y8p := fun s => yj.trans (by kernel_rfl)
def yn8 (b a d e : AV) (h : Heap) : OX :=
ob (y8 .add e (.int .i64 1)) fun c =>
(yk4 b a d c h)
def y2d7 (s : St) : OX := yn8 (s 0) (s 1) (s 7) (s 8) s.h
theorem y1h6 : T1 y16w y8p (y5 0 y6g xN) [.t 4] y2d7 := fun _ => by kernel_rfl
def ynq (c b i a : AV) (h : Heap) : OX :=
ob (yx 1 c a) fun g =>
ob (evLd false 1 g h) fun d =>
ob (y8 .eql b d) fun e =>
cnd e
 ((yf h a))
 ((yn8 c b i a h))
def y2d4 (s : St) : OX := ynq (s 0) (s 1) (s 7) (s 8) s.h
theorem y1q4 : T1 yy6 y8p (y5 0 y6g xN) [.t 4] y2d4 := sq y1h6 fun _ => by kernel_rfl
def ynm (c a d e b : AV) (h : Heap) : OX :=
cnd b
 ((ynq c a d e h))
 ((ymn h))
def y28c (s : St) : OX := ynm (s 0) (s 1) (s 7) (s 8) (s 9) s.h
theorem y1u1 : T1 y161 y8p (y5 0 y6g xN) [.t 4] y28c := sq y1q4 fun _ => by kernel_rfl
def ylt (e c a b : AV) (h : Heap) : OX :=
ob (y8 .lss b a) fun d =>
(ynm e c a b d h)
def y2fo (s : St) : OX := ylt (s 0) (s 1) (s 7) (s 8) s.h
theorem y1fm : T1 yyt y8p (y5 0 y6g xN) [.t 4] y2fo := sq y1u1 fun _ => by kernel_rfl
theorem yo7 (b a c d : AV) (h : Heap) : yk4 b a c d h = (ylt b a c d h) :=
  y28.trans ((y1c _ _ _ (n' := y8p) (fun s => yo6 s)).trans ((y1fm _).trans (by kernel_rfl)))
theorem y1f7 : T1 y14n y6g xN [.t 4] y8p := fun s => yy.trans (yo6 s)
def yln (a b : AV) (h : Heap) : OX :=
ob (y13 1 a h) fun c =>
(yk4 a b c (.int .i64 0) h)
def y1tu (s : St) : OX := yln (s 0) (s 1) s.h
theorem y1fp : T1 y14z y6g xN [.t 4] y1tu := sq y1f7 fun _ => by kernel_rfl
theorem y1p1 : T0 yz7 [.t 4] y1tu := sq y1l8 y1fp
def yf4 (b a : AV) (h : Heap) : OX :=
(yln b a h)
def y1zn (s : St) : OX := yf4 (s 0) (s 1) s.h
theorem y1an : T0 yqs [.t 4] y1zn := sq y1p1 fun _ => by kernel_rfl
@[simp] theorem y2r1 : E.pure 45 = true := rfl
theorem y2hz (b a : AV) : (yb E).p 45 [b, a] = yf4 b a [] :=
  (y15 (cf := y27c) (by kernel_rfl) rfl).trans ((y1an _).trans (by kernel_rfl))
def yh5 (c b : AV) (h : Heap) : OX :=
ob (evLd true 9 c h) fun g =>
oh (y9 E (yb E) 0 none true 51 [g] h) fun a h1 =>
ob (y3z 0 a) fun d =>
ob (y3z 1 a) fun e =>
oh (evSt 4 b d h1) fun _ h2 =>
(ob (evLd true 4 b h2) fun r0 =>
  yf h2 (.tup [r0, e]))
def yl (s : St) : OX := yh5 (s 1) (s 2) s.h
theorem y21s : T0 y1i5 [.cell 2 true 4, .t 3] yl := fun _ => by kernel_rfl
def yfg (b a d : AV) (h : Heap) : OX :=
cnd d
 (ob (y10 [(.int .i64 0), (.int .i64 0), (.int .i64 0), (.int .i64 0)] [(0, 1, (.int .i64 (-1))), (1, 1, (.int .i64 (-1))), (2, 1, (.int .i64 (-1))), (3, 1, (.int .i64 (-1)))]) fun c =>
oh (evSt 4 a c h) fun _ h3 =>
(ob (evLd true 4 a h3) fun r0 =>
  yf h3 (.tup [r0, (.bool true)])))
 ((yh5 b a h))
def y2mn (s : St) : OX := yfg (s 1) (s 2) (s 134) s.h
theorem y1zo : T1 y1sd yl (y5 0 yl xN) [.cell 2 true 4, .t 3] y2mn := fun _ => by kernel_rfl
def yh4 (a c b : AV) (h : Heap) : OX :=
ob (y8 .eql b (.int .i64 27)) fun d =>
cnd d
 ((yfg a c d h))
 (ob (y8 .eql b (.int .i64 33)) fun e =>
(yfg a c e h))
def y2i4 (s : St) : OX := yh4 (s 1) (s 2) (s 11) s.h
theorem y21r : T1 y1vz yl (y5 0 yl xN) [.cell 2 true 4, .t 3] y2i4 := sq y1zo fun _ => by kernel_rfl
def ygx (c b l k : AV) (h : Heap) : OX :=
cnd k
 (ob (y10 [(.int .i64 0), (.int .i64 0), (.int .i64 0), (.int .i64 0)] [(0, 1, (.int .i64 (-1))), (1, 1, (.int .i64 1)), (2, 1, (.int .i64 1)), (3, 1, (.int .i64 (-1)))]) fun n =>
ob (evFa 5 c) fun d =>
ob (evLd false 1 d h) fun j =>
ob (y8 .geq j (.int .i64 0)) fun a =>
ofp (fgd a true (some ([], []))) fun f5 =>
gb a true (evFa 5 c) fun e =>
ofp (fgd a true (some (ids1 e, []))) fun f6 =>
gb a true (evLd false 1 e h) fun m =>
ofp (fgd a true (some ([], []))) fun f7 =>
gb a true (y8 .leq m (.int .i64 5)) fun g =>
ob (yd a g (.bool false)) fun i =>
oh (evSt 4 b n h) fun _ h4 =>
okK (yg [([], []), ([], []), (ids1 d, []), ([], []), ([], []), f5, f6, f7, ([], []), ([], ids1 b), ([], [])] [(6, 9)]) <|
(ob (evLd true 4 b h4) fun r0 =>
  yf h4 (.tup [r0, i])))
 ((yh4 c b l h))
def y2j1 (s : St) : OX := ygx (s 1) (s 2) (s 11) (s 123) s.h
theorem y23u : T1 y1rn yl (y5 0 yl xN) [.cell 2 true 4, .t 3] y2j1 := fun s => (y1b rfl (y21r s)).trans (by kernel_rfl)
def yh0 (c b a : AV) (h : Heap) : OX :=
ob (y8 .eql a (.int .i64 28)) fun d =>
(ygx c b a d h)
def y2hq (s : St) : OX := yh0 (s 1) (s 2) (s 11) s.h
theorem y20k : T1 y1du yl (y5 0 yl xN) [.cell 2 true 4, .t 3] y2hq := sq y23u fun _ => by kernel_rfl
def yh8 (b a e c : AV) (h : Heap) : OX :=
cnd c
 (ob (y10 [(.int .i64 0), (.int .i64 0), (.int .i64 0), (.int .i64 0)] [(0, 1, (.int .i64 3)), (1, 1, (.int .i64 1)), (2, 1, (.int .i64 (-1))), (3, 1, (.int .i64 (-1)))]) fun d =>
ob (evFa 7 b) fun i =>
ob (evLd false 1 i h) fun j =>
oh (y9 E (yb E) 0 none true 37 [j] h) fun g h5 =>
oh (evSt 4 a d h5) fun _ h6 =>
(ob (evLd true 4 a h6) fun r0 =>
  yf h6 (.tup [r0, g])))
 ((yh0 b a e h))
def y2k6 (s : St) : OX := yh8 (s 1) (s 2) (s 11) (s 117) s.h
theorem y1yx : T1 y1kg yl (y5 0 yl xN) [.cell 2 true 4, .t 3] y2k6 := fun s => (y1b rfl (y20k s)).trans (by kernel_rfl)
def yh2 (d b a : AV) (h : Heap) : OX :=
ob (y8 .eql a (.int .i64 21)) fun c =>
(yh8 d b a c h)
def y2k3 (s : St) : OX := yh2 (s 1) (s 2) (s 11) s.h
theorem y1xu : T1 y1gw yl (y5 0 yl xN) [.cell 2 true 4, .t 3] y2k3 := sq y1yx fun _ => by kernel_rfl
def yh6 (b a d e : AV) (h : Heap) : OX :=
cnd e
 (ob (y10 [(.int .i64 0), (.int .i64 0), (.int .i64 0), (.int .i64 0)] [(0, 1, (.int .i64 (-1))), (1, 1, (.int .i64 0)), (2, 1, (.int .i64 (-1))), (3, 1, (.int .i64 (-1)))]) fun c =>
oh (evSt 4 a c h) fun _ h7 =>
(ob (evLd true 4 a h7) fun r0 =>
  yf h7 (.tup [r0, (.bool true)])))
 ((yh2 b a d h))
def y2ln (s : St) : OX := yh6 (s 1) (s 2) (s 11) (s 114) s.h
theorem y1xt : T1 y1oe yl (y5 0 yl xN) [.cell 2 true 4, .t 3] y2ln := fun s => (y1b rfl (y1xu s)).trans (by kernel_rfl)
def yh1 (c b a : AV) (h : Heap) : OX :=
ob (y8 .eql a (.int .i64 19)) fun d =>
(yh6 c b a d h)
def y2m1 (s : St) : OX := yh1 (s 1) (s 2) (s 11) s.h
theorem y1yd : T1 y1fs yl (y5 0 yl xN) [.cell 2 true 4, .t 3] y2m1 := sq y1xt fun _ => by kernel_rfl
def ya4 (b a d i : AV) (h : Heap) : OX :=
cnd i
 (ob (y10 [(.int .i64 0), (.int .i64 0), (.int .i64 0), (.int .i64 0)] [(0, 1, (.int .i64 (-1))), (1, 1, (.int .i64 3)), (2, 1, (.int .i64 0)), (3, 1, (.int .i64 (-1)))]) fun j =>
ob (evFa 5 b) fun c =>
ob (evLd false 1 c h) fun g =>
ob (y8 .geq g (.int .i64 0)) fun e =>
oh (evSt 4 a j h) fun _ h8 =>
okK (yg [([], []), ([], []), (ids1 c, []), ([], []), ([], ids1 a), ([], [])] [(2, 4)]) <|
(ob (evLd true 4 a h8) fun r0 =>
  yf h8 (.tup [r0, e])))
 ((yh1 b a d h))
def y2c7 (s : St) : OX := ya4 (s 1) (s 2) (s 11) (s 108) s.h
theorem y1m8 : T1 y140 yl (y5 0 yl xN) [.cell 2 true 4, .t 3] y2c7 := fun s => (y1b rfl (y1yd s)).trans (by kernel_rfl)
def y9o (d b a : AV) (h : Heap) : OX :=
ob (y8 .eql a (.int .i64 17)) fun c =>
(ya4 d b a c h)
def y2dk (s : St) : OX := y9o (s 1) (s 2) (s 11) s.h
theorem y1pw : T1 y119 yl (y5 0 yl xN) [.cell 2 true 4, .t 3] y2dk := sq y1m8 fun _ => by kernel_rfl
def ya1 (b a g d : AV) (h : Heap) : OX :=
cnd d
 (ob (y10 [(.int .i64 0), (.int .i64 0), (.int .i64 0), (.int .i64 0)] [(0, 1, (.int .i64 0)), (1, 1, (.int .i64 3)), (2, 1, (.int .i64 (-1))), (3, 1, (.int .i64 (-1)))]) fun i =>
ob (evFa 5 b) fun c =>
ob (evLd false 1 c h) fun j =>
ob (y8 .geq j (.int .i64 0)) fun e =>
oh (evSt 4 a i h) fun _ h9 =>
okK (yg [([], []), ([], []), (ids1 c, []), ([], []), ([], ids1 a), ([], [])] [(2, 4)]) <|
(ob (evLd true 4 a h9) fun r0 =>
  yf h9 (.tup [r0, e])))
 ((y9o b a g h))
def y2dm (s : St) : OX := ya1 (s 1) (s 2) (s 11) (s 102) s.h
theorem y1dx : T1 y153 yl (y5 0 yl xN) [.cell 2 true 4, .t 3] y2dm := fun s => (y1b rfl (y1pw s)).trans (by kernel_rfl)
def y9x (d b a : AV) (h : Heap) : OX :=
ob (y8 .eql a (.int .i64 16)) fun c =>
(ya1 d b a c h)
def y27z (s : St) : OX := y9x (s 1) (s 2) (s 11) s.h
theorem y1rs : T1 y0w yl (y5 0 yl xN) [.cell 2 true 4, .t 3] y27z := sq y1dx fun _ => by kernel_rfl
def y9z (b a e d : AV) (h : Heap) : OX :=
cnd d
 (ob (y10 [(.int .i64 0), (.int .i64 0), (.int .i64 0), (.int .i64 0)] [(0, 1, (.int .i64 1)), (1, 1, (.int .i64 3)), (2, 1, (.int .i64 (-1))), (3, 1, (.int .i64 (-1)))]) fun c =>
oh (evSt 4 a c h) fun _ h10 =>
(ob (evLd true 4 a h10) fun r0 =>
  yf h10 (.tup [r0, (.bool true)])))
 ((y9x b a e h))
def y28r (s : St) : OX := y9z (s 1) (s 2) (s 11) (s 99) s.h
theorem y1vm : T1 y15s yl (y5 0 yl xN) [.cell 2 true 4, .t 3] y28r := fun s => (y1b rfl (y1rs s)).trans (by kernel_rfl)
def y9a (c b a : AV) (h : Heap) : OX :=
ob (y8 .eql a (.int .i64 15)) fun d =>
(y9z c b a d h)
def y2a1 (s : St) : OX := y9a (s 1) (s 2) (s 11) s.h
theorem y1sn : T1 y18h yl (y5 0 yl xN) [.cell 2 true 4, .t 3] y2a1 := sq y1vm fun _ => by kernel_rfl
def y9u (b a c e : AV) (h : Heap) : OX :=
cnd e
 (ob (y10 [(.int .i64 0), (.int .i64 0), (.int .i64 0), (.int .i64 0)] [(0, 1, (.int .i64 (-1))), (1, 1, (.int .i64 3)), (2, 1, (.int .i64 1)), (3, 1, (.int .i64 0))]) fun d =>
oh (evSt 4 a d h) fun _ h11 =>
(ob (evLd true 4 a h11) fun r0 =>
  yf h11 (.tup [r0, (.bool true)])))
 ((y9a b a c h))
def y2a5 (s : St) : OX := y9u (s 1) (s 2) (s 11) (s 96) s.h
theorem y1gx : T1 yy3 yl (y5 0 yl xN) [.cell 2 true 4, .t 3] y2a5 := fun s => (y1b rfl (y1sn s)).trans (by kernel_rfl)
def y96 (c b a : AV) (h : Heap) : OX :=
ob (y8 .eql a (.int .i64 14)) fun d =>
(y9u c b a d h)
def y2cm (s : St) : OX := y96 (s 1) (s 2) (s 11) s.h
theorem y1ph : T1 y135 yl (y5 0 yl xN) [.cell 2 true 4, .t 3] y2cm := sq y1gx fun _ => by kernel_rfl
def y9j (b a e c : AV) (h : Heap) : OX :=
cnd c
 (ob (y10 [(.int .i64 0), (.int .i64 0), (.int .i64 0), (.int .i64 0)] [(0, 1, (.int .i64 0)), (1, 1, (.int .i64 3)), (2, 1, (.int .i64 1)), (3, 1, (.int .i64 (-1)))]) fun d =>
oh (evSt 4 a d h) fun _ h12 =>
(ob (evLd true 4 a h12) fun r0 =>
  yf h12 (.tup [r0, (.bool true)])))
 ((y96 b a e h))
def y295 (s : St) : OX := y9j (s 1) (s 2) (s 11) (s 93) s.h
theorem y1mo : T1 y155 yl (y5 0 yl xN) [.cell 2 true 4, .t 3] y295 := fun s => (y1b rfl (y1ph s)).trans (by kernel_rfl)
def y9w (c b a : AV) (h : Heap) : OX :=
ob (y8 .eql a (.int .i64 13)) fun d =>
(y9j c b a d h)
def y28y (s : St) : OX := y9w (s 1) (s 2) (s 11) s.h
theorem y1d5 : T1 yzp yl (y5 0 yl xN) [.cell 2 true 4, .t 3] y28y := sq y1mo fun _ => by kernel_rfl
def y9b (b a d c : AV) (h : Heap) : OX :=
cnd c
 (ob (y10 [(.int .i64 0), (.int .i64 0), (.int .i64 0), (.int .i64 0)] [(0, 1, (.int .i64 (-1))), (1, 1, (.int .i64 3)), (2, 1, (.int .i64 3)), (3, 1, (.int .i64 (-1)))]) fun e =>
oh (evSt 4 a e h) fun _ h13 =>
(ob (evLd true 4 a h13) fun r0 =>
  yf h13 (.tup [r0, (.bool true)])))
 ((y9w b a d h))
def y29q (s : St) : OX := y9b (s 1) (s 2) (s 11) (s 90) s.h
theorem y1tb : T1 ywy yl (y5 0 yl xN) [.cell 2 true 4, .t 3] y29q := fun s => (y1b rfl (y1d5 s)).trans (by kernel_rfl)
def y9t (d b a : AV) (h : Heap) : OX :=
ob (y8 .eql a (.int .i64 11)) fun c =>
(y9b d b a c h)
def y2b4 (s : St) : OX := y9t (s 1) (s 2) (s 11) s.h
theorem y1gv : T1 y174 yl (y5 0 yl xN) [.cell 2 true 4, .t 3] y2b4 := sq y1tb fun _ => by kernel_rfl
def y98 (b a d e : AV) (h : Heap) : OX :=
cnd e
 (ob (y10 [(.int .i64 0), (.int .i64 0), (.int .i64 0), (.int .i64 0)] [(0, 1, (.int .i64 (-1))), (1, 1, (.int .i64 1)), (2, 1, (.int .i64 (-1))), (3, 1, (.int .i64 (-1)))]) fun c =>
oh (evSt 4 a c h) fun _ h14 =>
(ob (evLd true 4 a h14) fun r0 =>
  yf h14 (.tup [r0, (.bool true)])))
 ((y9t b a d h))
def y29m (s : St) : OX := y98 (s 1) (s 2) (s 11) (s 87) s.h
theorem y1fa : T1 y0t yl (y5 0 yl xN) [.cell 2 true 4, .t 3] y29m := fun s => (y1b rfl (y1gv s)).trans (by kernel_rfl)
def y9d (c b a : AV) (h : Heap) : OX :=
ob (y8 .eql a (.int .i64 10)) fun d =>
(y98 c b a d h)
def y2br (s : St) : OX := y9d (s 1) (s 2) (s 11) s.h
theorem y1qx : T1 y14x yl (y5 0 yl xN) [.cell 2 true 4, .t 3] y2br := sq y1fa fun _ => by kernel_rfl
def y9s (b a d c : AV) (h : Heap) : OX :=
cnd c
 (ob (y10 [(.int .i64 0), (.int .i64 0), (.int .i64 0), (.int .i64 0)] [(0, 1, (.int .i64 (-1))), (1, 1, (.int .i64 3)), (2, 1, (.int .i64 1)), (3, 1, (.int .i64 (-1)))]) fun e =>
oh (evSt 4 a e h) fun _ h15 =>
(ob (evLd true 4 a h15) fun r0 =>
  yf h15 (.tup [r0, (.bool true)])))
 ((y9d b a d h))
def y2da (s : St) : OX := y9s (s 1) (s 2) (s 11) (s 84) s.h
theorem y1o8 : T1 y131 yl (y5 0 yl xN) [.cell 2 true 4, .t 3] y2da := fun s => (y1b rfl (y1qx s)).trans (by kernel_rfl)
def y9n (c b a : AV) (h : Heap) : OX :=
ob (y8 .eql a (.int .i64 9)) fun d =>
(y9s c b a d h)
def y2fd (s : St) : OX := y9n (s 1) (s 2) (s 11) s.h
theorem y1p9 : T1 y0m yl (y5 0 yl xN) [.cell 2 true 4, .t 3] y2fd := sq y1o8 fun _ => by kernel_rfl
def y9p (b a j e : AV) (h : Heap) : OX :=
cnd e
 (ob (y10 [(.int .i64 0), (.int .i64 0), (.int .i64 0), (.int .i64 0)] [(0, 1, (.int .i64 1)), (1, 1, (.int .i64 3)), (2, 1, (.int .i64 (-1))), (3, 1, (.int .i64 (-1)))]) fun d =>
ob (evFa 7 b) fun g =>
ob (evLd false 1 g h) fun i =>
oh (y9 E (yb E) 0 none true 37 [i] h) fun c h16 =>
oh (evSt 4 a d h16) fun _ h17 =>
(ob (evLd true 4 a h17) fun r0 =>
  yf h17 (.tup [r0, c])))
 ((y9n b a j h))
def y2g1 (s : St) : OX := y9p (s 1) (s 2) (s 11) (s 78) s.h
theorem y1ia : T1 y13w yl (y5 0 yl xN) [.cell 2 true 4, .t 3] y2g1 := fun s => (y1b rfl (y1p9 s)).trans (by kernel_rfl)
def y99 (d b a : AV) (h : Heap) : OX :=
ob (y8 .eql a (.int .i64 22)) fun c =>
(y9p d b a c h)
def y2dd (s : St) : OX := y99 (s 1) (s 2) (s 11) s.h
theorem y1df : T1 y111 yl (y5 0 yl xN) [.cell 2 true 4, .t 3] y2dd := sq y1ia fun _ => by kernel_rfl
def y9v (b a g d : AV) (h : Heap) : OX :=
cnd d
 (ob (y10 [(.int .i64 0), (.int .i64 0), (.int .i64 0), (.int .i64 0)] [(0, 1, (.int .i64 (-1))), (1, 1, (.int .i64 3)), (2, 1, (.int .i64 (-1))), (3, 1, (.int .i64 (-1)))]) fun e =>
ob (evFa 7 b) fun j =>
ob (evLd false 1 j h) fun i =>
oh (y9 E (yb E) 0 none true 37 [i] h) fun c h18 =>
oh (evSt 4 a e h18) fun _ h19 =>
(ob (evLd true 4 a h19) fun r0 =>
  yf h19 (.tup [r0, c])))
 ((y99 b a g h))
def y2dn (s : St) : OX := y9v (s 1) (s 2) (s 11) (s 72) s.h
theorem y1tc : T1 yx3 yl (y5 0 yl xN) [.cell 2 true 4, .t 3] y2dn := fun s => (y1b rfl (y1df s)).trans (by kernel_rfl)
def y9q (d b a : AV) (h : Heap) : OX :=
ob (y8 .eql a (.int .i64 12)) fun c =>
(y9v d b a c h)
def y2er (s : St) : OX := y9q (s 1) (s 2) (s 11) s.h
theorem y1oy : T1 y07 yl (y5 0 yl xN) [.cell 2 true 4, .t 3] y2er := sq y1tc fun _ => by kernel_rfl
def y7z (b a e d : AV) (h : Heap) : OX :=
cnd d
 (ob (y10 [(.int .i64 0), (.int .i64 0), (.int .i64 0), (.int .i64 0)] [(0, 1, (.int .i64 (-1))), (1, 1, (.int .i64 3)), (2, 1, (.int .i64 (-1))), (3, 1, (.int .i64 (-1)))]) fun c =>
oh (evSt 4 a c h) fun _ h20 =>
(ob (evLd true 4 a h20) fun r0 =>
  yf h20 (.tup [r0, (.bool true)])))
 ((y9q b a e h))
def y2cc (s : St) : OX := y7z (s 1) (s 2) (s 11) (s 68) s.h
theorem y1j5 : T1 y17g yl (y5 0 yl xN) [.cell 2 true 4, .t 3] y2cc := fun s => (y1b rfl (y1oy s)).trans (by kernel_rfl)
def ya0 (b d a : AV) (h : Heap) : OX :=
ob (y8 .eql a (.int .i64 8)) fun c =>
cnd c
 ((y7z b d a c h))
 (ob (y8 .eql a (.int .i64 31)) fun e =>
(y7z b d a e h))
def y2fe (s : St) : OX := ya0 (s 1) (s 2) (s 11) s.h
theorem y1td : T1 y129 yl (y5 0 yl xN) [.cell 2 true 4, .t 3] y2fe := sq y1j5 fun _ => by kernel_rfl
def y9f (c a d e : AV) (h : Heap) : OX :=
cnd e
 (ob (y10 [(.int .i64 0), (.int .i64 0), (.int .i64 0), (.int .i64 0)] [(0, 1, (.int .i64 (-1))), (1, 1, (.int .i64 0)), (2, 1, (.int .i64 (-1))), (3, 1, (.int .i64 (-1)))]) fun b =>
oh (evSt 4 a b h) fun _ h21 =>
(ob (evLd true 4 a h21) fun r0 =>
  yf h21 (.tup [r0, (.bool true)])))
 ((ya0 c a d h))
def y2e1 (s : St) : OX := y9f (s 1) (s 2) (s 11) (s 65) s.h
theorem y1rg : T1 y18i yl (y5 0 yl xN) [.cell 2 true 4, .t 3] y2e1 := fun s => (y1b rfl (y1td s)).trans (by kernel_rfl)
def ya8 (c b a : AV) (h : Heap) : OX :=
ob (y8 .eql a (.int .i64 7)) fun d =>
(y9f c b a d h)
def y2cy (s : St) : OX := ya8 (s 1) (s 2) (s 11) s.h
theorem y1ka : T1 y14s yl (y5 0 yl xN) [.cell 2 true 4, .t 3] y2cy := sq y1rg fun _ => by kernel_rfl
def y97 (d c m l : AV) (h : Heap) : OX :=
cnd l
 (ob (evFa 5 d) fun j =>
ob (evLd false 1 j h) fun k =>
oh (y9 E (yb E) 0 none true 50 [k] h) fun a h22 =>
ob (y3z 0 a) fun e =>
ob (y3z 1 a) fun p =>
ob (y3z 2 a) fun o =>
ob (y10 [(.int .i64 0), (.int .i64 0), (.int .i64 0), (.int .i64 0)] [(0, 1, o), (1, 1, e), (2, 1, (.int .i64 (-1))), (3, 1, (.int .i64 (-1)))]) fun i =>
ob (y8 .neq e (.int .i64 0)) fun b =>
gb b true (some p) fun r =>
gb b true (y8 .eql r (.int .i64 0)) fun n =>
ob (yd b n (.bool false)) fun g =>
oh (evSt 4 c i h22) fun _ h23 =>
(ob (evLd true 4 c h23) fun r0 =>
  yf h23 (.tup [r0, g])))
 ((ya8 d c m h))
def y28b (s : St) : OX := y97 (s 1) (s 2) (s 11) (s 47) s.h
theorem y1px : T1 yxs yl (y5 0 yl xN) [.cell 2 true 4, .t 3] y28b := fun s => (y1b rfl (y1ka s)).trans (by kernel_rfl)
def y9e (c b a : AV) (h : Heap) : OX :=
ob (y8 .eql a (.int .i64 6)) fun d =>
(y97 c b a d h)
def y2ci (s : St) : OX := y9e (s 1) (s 2) (s 11) s.h
theorem y1mq : T1 y170 yl (y5 0 yl xN) [.cell 2 true 4, .t 3] y2ci := sq y1px fun _ => by kernel_rfl
def y9r (a d n j : AV) (h : Heap) : OX :=
cnd j
 (ob (evFa 5 a) fun m =>
ob (evLd false 1 m h) fun k =>
oh (y9 E (yb E) 0 none true 50 [k] h) fun c h24 =>
ob (y3z 0 c) fun u =>
ob (y3z 1 c) fun e =>
ob (y3z 2 c) fun r =>
ob (y10 [(.int .i64 0), (.int .i64 0), (.int .i64 0), (.int .i64 0)] [(0, 1, r), (1, 1, u), (2, 1, e), (3, 1, (.int .i64 (-1)))]) fun t =>
ob (evFa 5 a) fun g =>
ob (evLd false 1 g h24) fun l =>
ob (evFa 5 a) fun v =>
ob (evLd false 1 v h24) fun p =>
ob (y8 .eql l p) fun b =>
gb b true (some e) fun i =>
gb b true (y8 .neq i (.int .i64 0)) fun w =>
ob (yd b w (.bool false)) fun o =>
oh (evSt 4 d t h24) fun _ h25 =>
(ob (evLd true 4 d h25) fun r0 =>
  yf h25 (.tup [r0, o])))
 ((y9e a d n h))
def y28u (s : St) : OX := y9r (s 1) (s 2) (s 11) (s 25) s.h
theorem y1es : T1 y116 yl (y5 0 yl xN) [.cell 2 true 4, .t 3] y28u := fun s => (y1b rfl (y1mq s)).trans (by kernel_rfl)
def y9l (c b a : AV) (h : Heap) : OX :=
ob (y8 .eql a (.int .i64 5)) fun d =>
(y9r c b a d h)
def y27u (s : St) : OX := y9l (s 1) (s 2) (s 11) s.h
theorem y1wm : T1 yyd yl (y5 0 yl xN) [.cell 2 true 4, .t 3] y27u := sq y1es fun _ => by kernel_rfl
def ya7 (b a c d : AV) (h : Heap) : OX :=
cnd d
 (ob (y10 [(.int .i64 0), (.int .i64 0), (.int .i64 0), (.int .i64 0)] [(0, 1, (.int .i64 0)), (1, 1, (.int .i64 0)), (2, 1, (.int .i64 (-1))), (3, 1, (.int .i64 (-1)))]) fun e =>
oh (evSt 4 a e h) fun _ h26 =>
(ob (evLd true 4 a h26) fun r0 =>
  yf h26 (.tup [r0, (.bool true)])))
 ((y9l b a c h))
def y2d1 (s : St) : OX := ya7 (s 1) (s 2) (s 11) (s 22) s.h
theorem y1ny : T1 y182 yl (y5 0 yl xN) [.cell 2 true 4, .t 3] y2d1 := fun s => (y1b rfl (y1wm s)).trans (by kernel_rfl)
def y9i (c b a : AV) (h : Heap) : OX :=
ob (y8 .eql a (.int .i64 4)) fun d =>
(ya7 c b a d h)
def y2g2 (s : St) : OX := y9i (s 1) (s 2) (s 11) s.h
theorem y1rd : T1 y15k yl (y5 0 yl xN) [.cell 2 true 4, .t 3] y2g2 := sq y1ny fun _ => by kernel_rfl
def y6n (b a e d : AV) (h : Heap) : OX :=
cnd d
 (ob (y10 [(.int .i64 0), (.int .i64 0), (.int .i64 0), (.int .i64 0)] [(0, 1, (.int .i64 3)), (1, 1, (.int .i64 (-1))), (2, 1, (.int .i64 (-1))), (3, 1, (.int .i64 (-1)))]) fun c =>
oh (evSt 4 a c h) fun _ h27 =>
(ob (evLd true 4 a h27) fun r0 =>
  yf h27 (.tup [r0, (.bool true)])))
 ((y9i b a e h))
def y2ee (s : St) : OX := y6n (s 1) (s 2) (s 11) (s 16) s.h
theorem y1fb : T1 yxd yl (y5 0 yl xN) [.cell 2 true 4, .t 3] y2ee := fun s => (y1b rfl (y1rd s)).trans (by kernel_rfl)
def ya2 (b c a : AV) (h : Heap) : OX :=
ob (y8 .eql a (.int .i64 2)) fun d =>
cnd d
 ((y6n b c a d h))
 (ob (y8 .eql a (.int .i64 3)) fun g =>
cnd g
 ((y6n b c a g h))
 (ob (y8 .eql a (.int .i64 20)) fun e =>
cnd e
 ((y6n b c a e h))
 (ob (y8 .eql a (.int .i64 32)) fun i =>
(y6n b c a i h))))
def y2a0 (s : St) : OX := ya2 (s 1) (s 2) (s 11) s.h
theorem y1hm : T1 yx1 yl (y5 0 yl xN) [.cell 2 true 4, .t 3] y2a0 := sq y1fb fun _ => by kernel_rfl
def y7v (b a d e : AV) (h : Heap) : OX :=
cnd e
 (ob (y10 [(.int .i64 0), (.int .i64 0), (.int .i64 0), (.int .i64 0)] [(0, 1, (.int .i64 0)), (1, 1, (.int .i64 (-1))), (2, 1, (.int .i64 (-1))), (3, 1, (.int .i64 (-1)))]) fun c =>
oh (evSt 4 a c h) fun _ h28 =>
(ob (evLd true 4 a h28) fun r0 =>
  yf h28 (.tup [r0, (.bool true)])))
 ((ya2 b a d h))
def y2ef (s : St) : OX := y7v (s 1) (s 2) (s 11) (s 12) s.h
theorem y1lv : T1 yzu yl (y5 0 yl xN) [.cell 2 true 4, .t 3] y2ef := fun s => (y1b rfl (y1hm s)).trans (by kernel_rfl)
def y9h (c d a : AV) (h : Heap) : OX :=
ob (y8 .eql a (.int .i64 1)) fun b =>
cnd b
 ((y7v c d a b h))
 (ob (y8 .eql a (.int .i64 18)) fun e =>
(y7v c d a e h))
def y1lf (s : St) : OX := y9h (s 1) (s 2) (s 11) s.h
theorem y1g1 : T1 y144 yl (y5 0 yl xN) [.cell 2 true 4, .t 3] y1lf := sq y1lv fun _ => by kernel_rfl
theorem y1ez : T1 y16q yl xN [.cell 2 true 4, .t 3] y1lf := fun s => yy.trans (y1g1 s)
def ya5 (a b : AV) (h : Heap) : OX :=
ob (evFa 0 a) fun c =>
ob (evLd false 1 c h) fun d =>
(y9h a b d h)
def y1v8 (s : St) : OX := ya5 (s 1) (s 2) s.h
theorem y1de : T1 y159 yl xN [.cell 2 true 4, .t 3] y1v8 := sq y1ez fun _ => by kernel_rfl
theorem y1pd : T0 yx7 [.cell 2 true 4, .t 3] y1v8 := sq y21s y1de
def y9y (c : AV) (h : Heap) : OX :=
oh (newC 0 (some 0) (cellsOf c) h) fun b h29 =>
oh (newC 0 (some 1) [(.int .i64 0), (.int .i64 0), (.int .i64 0), (.int .i64 0)] h29) fun a h30 =>
(ya5 b a h30)
def y2dl (s : St) : OX := y9y (s 0) s.h
theorem y1iv : T0 yy1 [.cell 2 true 4, .t 3] y2dl := sq y1pd fun _ => by kernel_rfl
@[simp] theorem y2o7 : E.pure 47 = true := rfl
theorem y1jv (a : AV) : (yb E).p 47 [a] = y9y a [⟨0, .dead⟩, ⟨0, .dead⟩] :=
  (y15 (cf := y2gt) (by kernel_rfl) rfl).trans ((y1iv _).trans (by kernel_rfl))
def y1d8 (t : AV) (h : Heap) : OX :=
oh (newC 0 (some 0) (cellsOf t) h) fun a h1 =>
ob (evFa 0 a) fun l =>
ob (evLd false 1 l h1) fun A =>
ob (y8 .geq A (.int .i64 7)) fun d =>
gb d true (evFa 0 a) fun p =>
gb d true (evLd false 1 p h1) fun m =>
gb d true (y8 .leq m (.int .i64 12)) fun o =>
ob (yd d o (.bool false)) fun c =>
gb c false (evFa 0 a) fun y =>
gb c false (evLd false 1 y h1) fun i =>
gb c false (y8 .eql i (.int .i64 20)) fun r =>
ob (yd c (.bool true) r) fun e =>
gb e false (evFa 0 a) fun z =>
gb e false (evLd false 1 z h1) fun v =>
gb e false (y8 .eql v (.int .i64 21)) fun j =>
ob (yd e (.bool true) j) fun b =>
gb b false (evFa 0 a) fun w =>
gb b false (evLd false 1 w h1) fun u =>
gb b false (y8 .eql u (.int .i64 31)) fun B =>
ob (yd b (.bool true) B) fun g =>
gb g false (evLd true 9 a h1) fun x =>
gh g false (y9 E (yb E) 0 none true 17 [x] h1) h1 fun n h2 =>
ob (yd g (.bool true) n) fun k =>
(yf h2 k)
def y2me (s : St) : OX := y1d8 (s 0) s.h
theorem y24k : T0 y1dy [.t 2] y2me := fun _ => by kernel_rfl
@[simp] theorem y2oz : E.pure 18 = true := rfl
theorem y2qb (a : AV) : (yb E).p 18 [a] = y1d8 a [⟨0, .dead⟩] :=
  (y15 (cf := y2hc) (by kernel_rfl) rfl).trans ((y24k _).trans (by kernel_rfl))
def y1no (c d : AV) (h : Heap) : OX :=
ob (yx 1 d c) fun a =>
ob (evLd false 1 a h) fun b =>
(yf h b)
def y2b8 (s : St) : OX := y1no (s 0) (s 3) s.h
theorem y1jc : T0 y12y [.t 2] y2b8 := fun _ => by kernel_rfl
def y1ev (b c : AV) (h : Heap) : OX :=
ob (y8 .lss b (.int .i64 1)) fun a =>
gb a false (some b) fun j =>
gb a false (some c) fun e =>
gb a false (y13 1 e h) fun d =>
gb a false (y8 .geq j d) fun g =>
ob (yd a (.bool true) g) fun i =>
cnd i
 ((yf h (AV.str [])))
 ((y1no b c h))
def y28f (s : St) : OX := y1ev (s 0) (s 3) s.h
theorem y1kb : T0 yzf [.t 2] y28f := sq y1jc fun _ => by kernel_rfl
def y1kn (b : AV) (h : Heap) : OX :=
oh (y12 0 (some 0) 1 34 [(.str [])] [(0, (AV.str [])), (1, (AV.str [110, 45, 45, 45])), (2, (AV.str [51, 45, 45, 45])), (3, (AV.str [51, 45, 45, 45])), (4, (AV.str [42, 61, 45, 45])), (5, (AV.str [63, 63, 63, 63])), (6, (AV.str [63, 63, 63, 63])), (7, (AV.str [45, 110, 45, 45])), (8, (AV.str [45, 51, 45, 45])), (9, (AV.str [45, 51, 49, 45])), (10, (AV.str [45, 49, 45, 45])), (11, (AV.str [45, 51, 51, 45])), (12, (AV.str [45, 51, 45, 45])), (13, (AV.str [42, 51, 49, 45])), (14, (AV.str [45, 51, 49, 42])), (15, (AV.str [49, 51, 45, 45])), (16, (AV.str [42, 51, 45, 45])), (17, (AV.str [45, 51, 42, 45])), (18, (AV.str [42, 45, 45, 45])), (19, (AV.str [45, 42, 45, 45])), (20, (AV.str [51, 45, 45, 45])), (21, (AV.str [51, 49, 45, 45])), (22, (AV.str [49, 51, 45, 45])), (23, (AV.str [63, 63, 63, 63])), (24, (AV.str [63, 63, 63, 63])), (25, (AV.str [63, 63, 63, 63])), (26, (AV.str [63, 63, 63, 63])), (27, (AV.str [45, 45, 45, 45])), (28, (AV.str [45, 49, 49, 45])), (29, (AV.str [45, 51, 63, 45])), (30, (AV.str [45, 63, 45, 45])), (31, (AV.str [45, 51, 45, 45])), (32, (AV.str [51, 45, 45, 45])), (33, (AV.str [45, 45, 45, 45]))] h) fun a h1 =>
(y1ev b a h1)
def y2ck (s : St) : OX := y1kn (s 0) s.h
theorem y1ru : T0 y12d [.t 2] y2ck := sq y1kb fun _ => by kernel_rfl
def y1sz (a : AV) (h : Heap) : OX :=
(y1kn a h)
def y2fj (s : St) : OX := y1sz (s 0) s.h
theorem y1qb : T0 y164 [.t 2] y2fj := sq y1ru fun _ => by kernel_rfl
@[simp] theorem y2ok : E.pure 38 = true := rfl
theorem y2j2 (a : AV) : (yb E).p 38 [a] = y1sz a [⟨0, .dead⟩] :=
  (y15 (cf := y271) (by kernel_rfl) rfl).trans ((y1qb _).trans (by kernel_rfl))
def yci (d c : AV) (h : Heap) : OX :=
ob (y8 .sub d (.int .u8 48)) fun e =>
ob (y19g .i64 e) fun a =>
ob (y8 .eql c a) fun b =>
(yf h b)
def y6i (s : St) : OX := yci (s 2) (s 7) s.h
theorem y1ff : T0 y03 [.t 6] y6i := fun _ => by kernel_rfl
def yau (k a i c : AV) (h : Heap) : OX :=
cnd c
 (ob (y8 .gtr a (.int .i64 0)) fun g =>
(yf h g))
 (ob (y8 .eql i (.int .u8 110)) fun d =>
cnd d
 (ob (y8 .eql a (.int .i64 1)) fun b =>
gb b false (some a) fun e =>
gb b false (y8 .eql e (.int .i64 2)) fun j =>
ob (yd b (.bool true) j) fun l =>
(yf h l))
 ((yci k a h)))
def y2dp (s : St) : OX := yau (s 2) (s 7) (s 11) (s 15) s.h
theorem y1se : T1 y14e y6i (y5 0 y6i xN) [.t 6] y2dp := fun _ => by kernel_rfl
def ycf (d c a : AV) (h : Heap) : OX :=
ob (y8 .eql a (.int .u8 42)) fun b =>
cnd b
 ((yau d c a b h))
 (ob (y8 .eql a (.int .u8 61)) fun e =>
(yau d c a e h))
def y2an (s : St) : OX := ycf (s 2) (s 7) (s 11) s.h
theorem y1pz : T1 y11q y6i (y5 0 y6i xN) [.t 6] y2an := sq y1se fun _ => by kernel_rfl
def yb2 (a c d b : AV) (h : Heap) : OX :=
cnd b
 ((yf h (.bool true)))
 ((ycf a c d h))
def y2ag (s : St) : OX := yb2 (s 2) (s 7) (s 11) (s 12) s.h
theorem y1np : T1 y158 y6i (y5 0 y6i xN) [.t 6] y2ag := fun s => (y1b rfl (y1pz s)).trans (by kernel_rfl)
def ych (d c a : AV) (h : Heap) : OX :=
ob (y8 .eql a (.int .u8 45)) fun b =>
cnd b
 ((yb2 d c a b h))
 (ob (y8 .eql a (.int .u8 63)) fun e =>
(yb2 d c a e h))
def y1fn (s : St) : OX := ych (s 2) (s 7) (s 11) s.h
theorem y1ep : T1 y117 y6i (y5 0 y6i xN) [.t 6] y1fn := sq y1np fun _ => by kernel_rfl
theorem y1om : T1 y15b y6i xN [.t 6] y1fn := fun s => yy.trans (y1ep s)
def ycp (a b : AV) (h : Heap) : OX :=
(ych a b a h)
def y1dc (s : St) : OX := ycp (s 2) (s 7) s.h
theorem y1t2 : T1 yxx y6i xN [.t 6] y1dc := sq y1om fun _ => by kernel_rfl
theorem y1pg : T0 y12h [.t 6] y1dc := sq y1ff y1t2
def ycb (b d c : AV) (h : Heap) : OX :=
ob (evLd true 5 c h) fun e =>
oh (y9 E (yb E) 0 none true 48 [e, b] h) fun a h1 =>
(ycp d a h1)
def y29h (s : St) : OX := ycb (s 1) (s 2) (s 3) s.h
theorem y1i2 : T0 y16d [.t 6] y29h := sq y1pg fun _ => by kernel_rfl
def y76 (c b a : AV) (h : Heap) : OX :=
oh (newC 0 (some 0) (cellsOf c) h) fun d h2 =>
(ycb b a d h2)
def y1zz (s : St) : OX := y76 (s 0) (s 1) (s 2) s.h
theorem y1ac : T0 yq9 [.t 6] y1zz := sq y1i2 fun _ => by kernel_rfl
@[simp] theorem y2o3 : E.pure 65 = true := rfl
theorem y2lo (c b a : AV) : (yb E).p 65 [c, b, a] = y76 c b a [⟨0, .dead⟩] :=
  (y15 (cf := y26a) (by kernel_rfl) rfl).trans ((y1ac _).trans (by kernel_rfl))
def y22r (h : Heap) : OX :=
(yf h (.tup [(.int .i64 0), (.int .i64 0), (.int .i64 0)]))
def y2m3 (s : St) : OX := y22r s.h
theorem y235 : T0 y1ti [.t 2, .t 3, .t 4] y2m3 := fun _ => by kernel_rfl
def y255 (a c : AV) (h : Heap) : OX :=
gb c true (some a) fun l =>
gb c true (y8 .rem l (.int .i64 2)) fun k =>
gb c true (y8 .eql k (.int .i64 0)) fun v =>
ob (yd c v (.bool false)) fun x =>
cnd x
 ((yf h (.tup [(.int .i64 1), (.int .i64 1), (.int .i64 1)])))
 (ob (y8 .eql a (.int .i64 121)) fun e =>
gb e false (some a) fun i =>
gb e false (y8 .eql i (.int .i64 123)) fun t =>
ob (yd e (.bool true) t) fun d =>
gb d false (some a) fun z =>
gb d false (y8 .eql z (.int .i64 125)) fun p =>
ob (yd d (.bool true) p) fun u =>
cnd u
 ((yf h (.tup [(.int .i64 2), (.int .i64 1), (.int .i64 2)])))
 (cnd c
 ((yf h (.tup [(.int .i64 2), (.int .i64 2), (.int .i64 2)])))
 (ob (y8 .eql a (.int .i64 148)) fun A =>
cnd A
 ((yf h (.tup [(.int .i64 2), (.int .i64 2), (.int .i64 1)])))
 (ob (y8 .eql a (.int .i64 116)) fun b =>
gb b false (some a) fun B =>
gb b false (y8 .geq B (.int .i64 145)) fun y =>
gb b false (some y) fun g =>
gb g true (some a) fun C =>
gb g true (y8 .leq C (.int .i64 147)) fun o =>
gb b false (yd g o (.bool false)) fun r =>
ob (yd b (.bool true) r) fun m =>
cnd m
 ((yf h (.tup [(.int .i64 1), (.int .i64 0), (.int .i64 1)])))
 (ob (y8 .eql a (.int .i64 117)) fun n =>
cnd n
 ((yf h (.tup [(.int .i64 2), (.int .i64 0), (.int .i64 2)])))
 (ob (y8 .eql a (.int .i64 133)) fun j =>
cnd j
 ((yf h (.tup [(.int .i64 1), (.int .i64 0), (.int .i64 2)])))
 (ob (y8 .eql a (.int .i64 136)) fun w =>
cnd w
 ((yf h (.tup [(.int .i64 2), (.int .i64 0), (.int .i64 1)])))
 ((y22r h)))))))))
def y2hs (s : St) : OX := y255 (s 0) (s 5) s.h
theorem y24i : T0 y1ux [.t 2, .t 3, .t 4] y2hs := sq y235 fun _ => by kernel_rfl
def y24t (a : AV) (h : Heap) : OX :=
ob (y8 .geq a (.int .i64 96)) fun e =>
gb e true (some a) fun l =>
gb e true (y8 .leq l (.int .i64 113)) fun g =>
ob (yd e g (.bool false)) fun c =>
gb c true (some a) fun i =>
gb c true (y8 .rem i (.int .i64 4)) fun t =>
gb c true (y8 .lss t (.int .i64 2)) fun j =>
ob (yd c j (.bool false)) fun b =>
gb b false (some a) fun n =>
gb b false (y8 .geq n (.int .i64 120)) fun m =>
gb b false (some m) fun d =>
gb d true (some a) fun k =>
gb d true (y8 .leq k (.int .i64 131)) fun p =>
gb b false (yd d p (.bool false)) fun o =>
ob (yd b (.bool true) o) fun r =>
(y255 a r h)
def y2in (s : St) : OX := y24t (s 0) s.h
theorem y24v : T0 y1en [.t 2, .t 3, .t 4] y2in := sq y24i fun _ => by kernel_rfl
def y236 (a : AV) (h : Heap) : OX :=
(y24t a h)
def y2lw (s : St) : OX := y236 (s 0) s.h
theorem y22w : T0 y1mf [.t 2, .t 3, .t 4] y2lw := sq y24v fun _ => by kernel_rfl
@[simp] theorem y2o6 : E.pure 66 = true := rfl
theorem y2p0 (a : AV) : (yb E).p 66 [a] = y236 a [] :=
  (y15 (cf := y2ly) (by kernel_rfl) rfl).trans ((y22w _).trans (by kernel_rfl))
def ykt (c : AV) (h : Heap) : OX :=
ob (y13 0 c h) fun l =>
ob (y8 .gtr l (.int .i64 2)) fun d =>
gb d true (some c) fun u =>
gb d true (y5s u (.int .i64 0)) fun j =>
gb d true (y8 .eql j (.int .u8 76)) fun r =>
ob (yd d r (.bool false)) fun a =>
gb a true (some c) fun e =>
gb a true (some c) fun t =>
gb a true (y13 0 t h) fun g =>
gb a true (y8 .sub g (.int .i64 1)) fun k =>
gb a true (y5s e k) fun v =>
gb a true (y8 .eql v (.int .u8 59)) fun o =>
ob (yd a o (.bool false)) fun b =>
gb b true (some c) fun i =>
gb b true (some c) fun x =>
gb b true (y13 0 x h) fun n =>
gb b true (y8 .sub n (.int .i64 1)) fun w =>
gb b true (yeb i (some (.int .i64 1)) (some w)) fun m =>
gh b true (y9 E (yb E) 0 none true 69 [m, (.bool false)] h) h fun y h1 =>
ob (yd b y (.bool false)) fun p =>
(yf h1 p)
def y2aj (s : St) : OX := ykt (s 0) s.h
theorem y1t3 : T0 y142 [.t 2] y2aj := fun _ => by kernel_rfl
def ydz (a : AV) (h : Heap) : OX :=
ob (y8 .eql a (AV.str [73])) fun b =>
gb b false (some a) fun e =>
gb b false (y8 .eql e (AV.str [74])) fun c =>
ob (yd b (.bool true) c) fun d =>
cnd d
 ((yf h (.bool true)))
 ((ykt a h))
def y29x (s : St) : OX := ydz (s 0) s.h
theorem y1jr : T0 y11j [.t 2] y29x := sq y1t3 fun _ => by kernel_rfl
def ytv (b c : AV) (h : Heap) : OX :=
ob (y8 .gtr c (.int .i64 8)) fun a =>
cnd a
 ((yf h (.bool false)))
 ((ydz b h))
def y27v (s : St) : OX := ytv (s 0) (s 3) s.h
theorem y1r5 : T0 y0q [.t 2] y27v := sq y1jr fun _ => by kernel_rfl
def ymb (c a : AV) (h : Heap) : OX :=
ob (yeb c (some a) none) fun b =>
(ytv b a h)
def yaq (s : St) : OX := ymb (s 0) (s 3) s.h
theorem y1rt : T0 y13h [.t 2] yaq := sq y1r5 fun _ => by kernel_rfl
def yfs (a b : AV) (h : Heap) : OX :=
  W E 0 yic ⟨[(0, a), (3, b)], h⟩ yaq (y5 0 yaq xN) (finP [.t 2])
def yc2 (s : St) : OX := yfs (s 0) (s 3) s.h
theorem yo8 : T1 yic yaq (y5 0 yaq xN) [.t 2] yc2 := fun s => yj.trans (by kernel_rfl)
def y11z (b c : AV) (h : Heap) : OX :=
ob (y8 .add c (.int .i64 1)) fun a =>
(yfs b a h)
def y2d6 (s : St) : OX := y11z (s 0) (s 3) s.h
theorem y1g2 : T1 y00 yc2 (y5 0 yaq xN) [.t 2] y2d6 := fun _ => by kernel_rfl
def ynx (b c : AV) (h : Heap) : OX :=
ob (y13 0 b h) fun j =>
ob (y8 .lss c j) fun a =>
gb a true (some b) fun g =>
gb a true (some c) fun d =>
gb a true (y5s g d) fun i =>
gb a true (y8 .eql i (.int .u8 91)) fun k =>
ob (yd a k (.bool false)) fun e =>
cnd e
 ((y11z b c h))
 ((ymb b c h))
def y2ev (s : St) : OX := ynx (s 0) (s 3) s.h
theorem y1ko : T1 yz3 yc2 (y5 0 yaq xN) [.t 2] y2ev := sq y1g2 fun _ => by kernel_rfl
theorem yo2 (a b : AV) (h : Heap) : yfs a b h = (ynx a b h) :=
  y28.trans ((y1c _ _ _ (n' := yc2) (fun s => yo8 s)).trans ((y1ko _).trans (by kernel_rfl)))
theorem y1ei : T1 y11b yaq xN [.t 2] yc2 := fun s => yy.trans (yo8 s)
theorem y1e3 : T0 yxl [.t 2] yc2 := sq y1rt y1ei
def yvk (a : AV) (h : Heap) : OX :=
(yfs a (.int .i64 0) h)
def y22t (s : St) : OX := yvk (s 0) s.h
theorem y1b2 : T0 ysn [.t 2] y22t := sq y1e3 fun _ => by kernel_rfl
def yor (a : AV) (h : Heap) : OX :=
(yvk a h)
def y22d (s : St) : OX := yor (s 0) s.h
theorem y18s : T0 yrd [.t 2] y22d := sq y1b2 fun _ => by kernel_rfl
@[simp] theorem y2qn : E.pure 67 = true := rfl
theorem y2kf (a : AV) : (yb E).p 67 [a] = yor a [] :=
  (y15 (cf := y261) (by kernel_rfl) rfl).trans ((y18s _).trans (by kernel_rfl))
def y5i (A c : AV) (h : Heap) : OX :=
ob (evFa 0 c) fun x =>
ob (evLd false 1 x h) fun o =>
ob (y8 .neq o (.int .i64 24)) fun d =>
gb d true (evFa 0 c) fun g =>
gb d true (evLd false 1 g h) fun z =>
gb d true (y8 .neq z (.int .i64 25)) fun w =>
ob (yd d w (.bool false)) fun b =>
gb b false (evFa 8 c) fun n =>
gb b false (evLd false 1 n h) fun r =>
gb b false (y13 1 r h) fun k =>
gb b false (y8 .gtr k (.int .i64 0)) fun t =>
gb b false (some t) fun a =>
gb a true (evLd true 5 A h) fun m =>
gb a true (evFa 8 c) fun j =>
gb a true (evLd false 1 j h) fun l =>
gb a true (yx 1 l (.int .i64 0)) fun e =>
gb a true (evLd false 1 e h) fun u =>
gh a true (y9 E (yb E) 0 none true 48 [m, u] h) h fun p h1 =>
gb a true (y8 .eql p (.int .i64 3)) fun v =>
gb b false (yd a v (.bool false)) fun y =>
ob (yd b (.bool true) y) fun i =>
(yf h1 i)
def y7a (s : St) : OX := y5i (s 2) (s 3) s.h
theorem y1nb : T0 y13b [.t 4] y7a := fun _ => by kernel_rfl
def yhy (a b c : AV) (h : Heap) : OX :=
  W E 0 yiz ⟨[(2, a), (3, b), (5, c)], h⟩ y7a (y5 0 y7a xN) (finP [.t 4])
def yby (s : St) : OX := yhy (s 2) (s 3) (s 5) s.h
theorem ymp : T1 yiz y7a (y5 0 y7a xN) [.t 4] yby := fun s => yj.trans (by kernel_rfl)
def y95 (a c d : AV) (h : Heap) : OX :=
ob (y8 .add d (.int .i64 1)) fun b =>
(yhy a c b h)
def y2f4 (s : St) : OX := y95 (s 2) (s 3) (s 5) s.h
theorem y1cv : T1 yzx yby (y5 0 y7a xN) [.t 4] y2f4 := fun _ => by kernel_rfl
def y7q (b a c : AV) (h : Heap) : OX :=
ob (evLd true 5 b h) fun l =>
ob (evFa 8 a) fun i =>
ob (evLd false 1 i h) fun j =>
ob (yx 1 j c) fun e =>
ob (evLd false 1 e h) fun g =>
oh (y9 E (yb E) 0 none true 48 [l, g] h) fun k h2 =>
ob (y8 .eql k (.int .i64 0)) fun d =>
cnd d
 ((yf h2 (.bool false)))
 ((y95 b a c h2))
def y2dz (s : St) : OX := y7q (s 2) (s 3) (s 5) s.h
theorem y1or : T1 y14o yby (y5 0 y7a xN) [.t 4] y2dz := sq y1cv fun _ => by kernel_rfl
def y6x (b a c : AV) (h : Heap) : OX :=
ob (evFa 8 a) fun i =>
ob (evLd false 1 i h) fun e =>
ob (y13 1 e h) fun g =>
ob (y8 .lss c g) fun d =>
cnd d
 ((y7q b a c h))
 ((y5i b a h))
def y2fg (s : St) : OX := y6x (s 2) (s 3) (s 5) s.h
theorem y1v1 : T1 y12l yby (y5 0 y7a xN) [.t 4] y2fg := sq y1or fun _ => by kernel_rfl
theorem yo1 (a b c : AV) (h : Heap) : yhy a b c h = (y6x a b c h) :=
  y28.trans ((y1c _ _ _ (n' := yby) (fun s => ymp s)).trans ((y1v1 _).trans (by kernel_rfl)))
theorem y1qu : T1 yxy y7a xN [.t 4] yby := fun s => yy.trans (ymp s)
def yb5 (a b : AV) (h : Heap) : OX :=
(yhy a b (.int .i64 0) h)
def y1l7 (s : St) : OX := yb5 (s 2) (s 3) s.h
theorem y1ue : T1 y11c y7a xN [.t 4] y1l7 := sq y1qu fun _ => by kernel_rfl
theorem y1uz : T0 y120 [.t 4] y1l7 := sq y1nb y1ue
def yaj (g b : AV) (h : Heap) : OX :=
ob (evFa 5 b) fun x =>
ob (evLd false 1 x h) fun n =>
ob (y8 .lss n (.int .i64 0)) fun e =>
gb e true (evFa 0 b) fun o =>
gb e true (evLd false 1 o h) fun m =>
gb e true (y8 .neq m (.int .i64 25)) fun y =>
ob (yd e y (.bool false)) fun d =>
gb d false (evFa 8 b) fun B =>
gb d false (evLd false 1 B h) fun r =>
gb d false (y13 1 r h) fun C =>
gb d false (y8 .gtr C (.int .i64 21)) fun u =>
ob (yd d (.bool true) u) fun a =>
gb a false (evFa 1 b) fun p =>
gb a false (evLd false 1 p h) fun v =>
gb a false (y8 .neq v (.int .i64 (-1))) fun t =>
gb a false (some t) fun c =>
gb c true (evLd true 5 g h) fun i =>
gb c true (evFa 1 b) fun k =>
gb c true (evLd false 1 k h) fun w =>
gh c true (y9 E (yb E) 0 none true 48 [i, w] h) h fun l h3 =>
gb c true (y8 .eql l (.int .i64 0)) fun j =>
gb a false (yd c j (.bool false)) fun z =>
ob (yd a (.bool true) z) fun A =>
cnd A
 ((yf h3 (.bool false)))
 ((yb5 g b h3))
def y2es (s : St) : OX := yaj (s 2) (s 3) s.h
theorem y1vq : T0 y12v [.t 4] y2es := sq y1uz fun _ => by kernel_rfl
def y6p (c b : AV) (h : Heap) : OX :=
oh (newC 0 (some 0) (cellsOf c) h) fun a h4 =>
oh (newC 0 (some 1) (cellsOf b) h4) fun d h5 =>
(yaj a d h5)
def y211 (s : St) : OX := y6p (s 0) (s 1) s.h
theorem y18w : T0 ytg [.t 4] y211 := sq y1vq fun _ => by kernel_rfl
@[simp] theorem y2pj : E.pure 68 = true := rfl
theorem y2ja (b a : AV) : (yb E).p 68 [b, a] = y6p b a [⟨0, .dead⟩, ⟨0, .dead⟩] :=
  (y15 (cf := y26f) (by kernel_rfl) rfl).trans ((y18w _).trans (by kernel_rfl))
def y2by (h : Heap) : OX :=
(yf h (.tup [(.int .i64 0), (.int .i64 0), (.int .i64 0)]))
def y3t (s : St) : OX := y2by s.h
theorem y1wo : T0 y1g6 [.t 2, .t 3, .t 4] y3t := fun _ => by kernel_rfl
def y19c (a d : AV) (h : Heap) : OX :=
cnd d
 ((yf h (.tup [(.int .i64 1), (.int .i64 0), (.int .i64 1)])))
 (ob (y8 .eql a (.int .i64 117)) fun e =>
cnd e
 ((yf h (.tup [(.int .i64 2), (.int .i64 0), (.int .i64 2)])))
 (ob (y8 .eql a (.int .i64 133)) fun c =>
cnd c
 ((yf h (.tup [(.int .i64 1), (.int .i64 0), (.int .i64 2)])))
 (ob (y8 .eql a (.int .i64 136)) fun b =>
cnd b
 ((yf h (.tup [(.int .i64 2), (.int .i64 0), (.int .i64 1)])))
 ((y2by h)))))
def y2je (s : St) : OX := y19c (s 5) (s 33) s.h
theorem y23t : T1 y1fu y3t (y5 0 y3t xN) [.t 2, .t 3, .t 4] y2je := fun _ => by kernel_rfl
def y28p (a : AV) (h : Heap) : OX :=
ob (y8 .eql a (.int .i64 116)) fun c =>
cnd c
 ((y19c a c h))
 (ob (y8 .eql a (.int .i64 145)) fun d =>
cnd d
 ((y19c a d h))
 (ob (y8 .eql a (.int .i64 146)) fun b =>
cnd b
 ((y19c a b h))
 (ob (y8 .eql a (.int .i64 147)) fun e =>
(y19c a e h))))
def y2ld (s : St) : OX := y28p (s 5) s.h
theorem y1za : T1 y1lk y3t (y5 0 y3t xN) [.t 2, .t 3, .t 4] y2ld := sq y23t fun _ => by kernel_rfl
def y28i (b a : AV) (h : Heap) : OX :=
cnd a
 ((yf h (.tup [(.int .i64 2), (.int .i64 2), (.int .i64 1)])))
 ((y28p b h))
def y2lr (s : St) : OX := y28i (s 5) (s 31) s.h
theorem y1z8 : T1 y1jp y3t (y5 0 y3t xN) [.t 2, .t 3, .t 4] y2lr := fun s => (y1b rfl (y1za s)).trans (by kernel_rfl)
def y2d8 (a : AV) (h : Heap) : OX :=
ob (y8 .eql a (.int .i64 148)) fun b =>
(y28i a b h)
def y2ke (s : St) : OX := y2d8 (s 5) s.h
theorem y201 : T1 y1jf y3t (y5 0 y3t xN) [.t 2, .t 3, .t 4] y2ke := sq y1z8 fun _ => by kernel_rfl
def y1dv (b a : AV) (h : Heap) : OX :=
cnd a
 ((yf h (.tup [(.int .i64 2), (.int .i64 1), (.int .i64 2)])))
 ((y2d8 b h))
def y2h6 (s : St) : OX := y1dv (s 5) (s 27) s.h
theorem y21d : T1 y1jk y3t (y5 0 y3t xN) [.t 2, .t 3, .t 4] y2h6 := fun s => (y1b rfl (y201 s)).trans (by kernel_rfl)
def y2d3 (a : AV) (h : Heap) : OX :=
ob (y8 .eql a (.int .i64 121)) fun b =>
cnd b
 ((y1dv a b h))
 (ob (y8 .eql a (.int .i64 123)) fun c =>
cnd c
 ((y1dv a c h))
 (ob (y8 .eql a (.int .i64 125)) fun d =>
(y1dv a d h)))
def y2mo (s : St) : OX := y2d3 (s 5) s.h
theorem y1wy : T1 y1f9 y3t (y5 0 y3t xN) [.t 2, .t 3, .t 4] y2mo := sq y21d fun _ => by kernel_rfl
def yl9 (b a : AV) (h : Heap) : OX :=
cnd a
 ((yf h (.tup [(.int .i64 2), (.int .i64 2), (.int .i64 2)])))
 ((y2d3 b h))
def y2kc (s : St) : OX := yl9 (s 5) (s 18) s.h
theorem y1zs : T1 y1jj y3t (y5 0 y3t xN) [.t 2, .t 3, .t 4] y2kc := fun s => (y1b rfl (y1wy s)).trans (by kernel_rfl)
def y29c (a : AV) (h : Heap) : OX :=
ob (y8 .eql a (.int .i64 97)) fun e =>
cnd e
 ((yl9 a e h))
 (ob (y8 .eql a (.int .i64 101)) fun d =>
cnd d
 ((yl9 a d h))
 (ob (y8 .eql a (.int .i64 105)) fun b =>
cnd b
 ((yl9 a b h))
 (ob (y8 .eql a (.int .i64 109)) fun i =>
cnd i
 ((yl9 a i h))
 (ob (y8 .eql a (.int .i64 113)) fun g =>
cnd g
 ((yl9 a g h))
 (ob (y8 .eql a (.int .i64 127)) fun j =>
cnd j
 ((yl9 a j h))
 (ob (y8 .eql a (.int .i64 129)) fun c =>
cnd c
 ((yl9 a c h))
 (ob (y8 .eql a (.int .i64 131)) fun k =>
(yl9 a k h))))))))
def y2mf (s : St) : OX := y29c (s 5) s.h
theorem y232 : T1 y1kt y3t (y5 0 y3t xN) [.t 2, .t 3, .t 4] y2mf := sq y1zs fun _ => by kernel_rfl
def y7k (b a : AV) (h : Heap) : OX :=
cnd a
 ((yf h (.tup [(.int .i64 1), (.int .i64 1), (.int .i64 1)])))
 ((y29c b h))
def y2ap (s : St) : OX := y7k (s 5) (s 6) s.h
theorem y1et : T1 y14r y3t (y5 0 y3t xN) [.t 2, .t 3, .t 4] y2ap := fun s => (y1b rfl (y232 s)).trans (by kernel_rfl)
def y1h7 (a : AV) (h : Heap) : OX :=
ob (y8 .eql a (.int .i64 96)) fun l =>
cnd l
 ((y7k a l h))
 (ob (y8 .eql a (.int .i64 100)) fun m =>
cnd m
 ((y7k a m h))
 (ob (y8 .eql a (.int .i64 104)) fun g =>
cnd g
 ((y7k a g h))
 (ob (y8 .eql a (.int .i64 108)) fun b =>
cnd b
 ((y7k a b h))
 (ob (y8 .eql a (.int .i64 112)) fun i =>
cnd i
 ((y7k a i h))
 (ob (y8 .eql a (.int .i64 120)) fun k =>
cnd k
 ((y7k a k h))
 (ob (y8 .eql a (.int .i64 122)) fun c =>
cnd c
 ((y7k a c h))
 (ob (y8 .eql a (.int .i64 124)) fun j =>
cnd j
 ((y7k a j h))
 (ob (y8 .eql a (.int .i64 126)) fun d =>
cnd d
 ((y7k a d h))
 (ob (y8 .eql a (.int .i64 128)) fun e =>
cnd e
 ((y7k a e h))
 (ob (y8 .eql a (.int .i64 130)) fun n =>
(y7k a n h)))))))))))
def y1gh (s : St) : OX := y1h7 (s 5) s.h
theorem y1cr : T1 y13r y3t (y5 0 y3t xN) [.t 2, .t 3, .t 4] y1gh := sq y1et fun _ => by kernel_rfl
theorem y1w5 : T1 y13n y3t xN [.t 2, .t 3, .t 4] y1gh := fun s => yy.trans (y1cr s)
def y1q2 (a : AV) (h : Heap) : OX :=
(y1h7 a h)
def y1d2 (s : St) : OX := y1q2 (s 0) s.h
theorem y1do : T1 yym y3t xN [.t 2, .t 3, .t 4] y1d2 := sq y1w5 fun _ => by kernel_rfl
theorem y1e0 : T0 y0r [.t 2, .t 3, .t 4] y1d2 := sq y1wo y1do
def y1nj (a : AV) (h : Heap) : OX :=
(y1q2 a h)
def y2c8 (s : St) : OX := y1nj (s 0) s.h
theorem y1m9 : T0 y06 [.t 2, .t 3, .t 4] y2c8 := sq y1e0 fun _ => by kernel_rfl
@[simp] theorem y2nw : E.pure 50 = true := rfl
theorem y2r3 (a : AV) : (yb E).p 50 [a] = y1nj a [] :=
  (y15 (cf := y2id) (by kernel_rfl) rfl).trans ((y1m9 _).trans (by kernel_rfl))
def q8_1 (b : AV) (h : Heap) : OX :=
ob (y8 .neq b (AV.str [])) fun a =>
gb a true (some b) fun i =>
gh a true (y9 E (yb E) 0 none true 44 [i] h) h fun g h1 =>
gb a true (some b) fun j =>
gb a true (y13 0 j h1) fun d =>
gb a true (y8 .eql g d) fun c =>
ob (yd a c (.bool false)) fun e =>
(yf h1 e)
def y2ny (s : St) : OX := q8_1 (s 0) s.h
theorem y2dy : T0 y27i [.t 2] y2ny := fun _ => by kernel_rfl
@[simp] theorem y2q1 : E.pure 37 = true := rfl
theorem x_q8 (a : AV) : (yb E).p 37 [a] = q8_1 a [] :=
  (y15 (cf := c_q8) (by kernel_rfl) rfl).trans ((y2dy _).trans (by kernel_rfl))
def yv3 (a : AV) (h : Heap) : OX :=
ob (y10 [(.int .i64 0), (.int .i64 0), (.int .i64 0), (.int .i64 0)] []) fun b =>
oh (evSt 4 a b h) fun _ h1 =>
(ob (evLd true 4 a h1) fun r0 =>
  yf h1 (.tup [r0, (.bool false)]))
def y2k (s : St) : OX := yv3 (s 2) s.h
theorem y23i : T0 y1iq [.cell 2 true 4, .t 3] y2k := fun _ => by kernel_rfl
def yt3 (c b k : AV) (h : Heap) : OX :=
ob (y10 [(.int .i64 0), (.int .i64 0), (.int .i64 0), (.int .i64 0)] [(0, 1, (.int .i64 (-1))), (1, 1, (.int .i64 3)), (2, 1, k), (3, 1, (.int .i64 (-1)))]) fun g =>
ob (evFa 5 c) fun e =>
ob (evLd false 1 e h) fun j =>
ob (y8 .eql j (.int .i64 0)) fun a =>
ofp (fgd a false (some ([], []))) fun f6 =>
gb a false (evFa 5 c) fun d =>
ofp (fgd a false (some (ids1 d, []))) fun f7 =>
gb a false (evLd false 1 d h) fun l =>
ofp (fgd a false (some ([], []))) fun f8 =>
gb a false (y8 .eql l (.int .i64 1)) fun i =>
ob (yd a (.bool true) i) fun m =>
oh (evSt 4 b g h) fun _ h2 =>
okK (yg [([], []), ([], []), ([], []), (ids1 e, []), ([], []), ([], []), f6, f7, f8, ([], []), ([], ids1 b), ([], [])] [(7, 10)]) <|
(ob (evLd true 4 b h2) fun r0 =>
  yf h2 (.tup [r0, m]))
def y2ls (s : St) : OX := yt3 (s 1) (s 2) (s 4) s.h
theorem y1yw : T1 y1u0 y2k (y5 0 y2k xN) [.cell 2 true 4, .t 3] y2ls := fun _ => by kernel_rfl
def yw9 (a b e : AV) (h : Heap) : OX :=
ob (evFa 3 a) fun g =>
ob (evLd false 1 g h) fun c =>
ob (y8 .neq c (.int .i64 (-1))) fun d =>
cnd d
 ((yt3 a b (.int .i64 3) h))
 ((yt3 a b e h))
def y2m2 (s : St) : OX := yw9 (s 1) (s 2) (s 4) s.h
theorem y1x0 : T1 y1t6 y2k (y5 0 y2k xN) [.cell 2 true 4, .t 3] y2m2 := sq y1yw fun _ => by kernel_rfl
def yvg (b a : AV) (h : Heap) : OX :=
(yw9 b a (.int .i64 (-1)) h)
def y2kx (s : St) : OX := yvg (s 1) (s 2) s.h
theorem y21q : T1 y1ks y2k (y5 0 y2k xN) [.cell 2 true 4, .t 3] y2kx := sq y1x0 fun _ => by kernel_rfl
def ysz (a c : AV) (h : Heap) : OX :=
ob (y10 [(.int .i64 0), (.int .i64 0), (.int .i64 0), (.int .i64 0)] [(0, 1, (.int .i64 (-1))), (1, 1, c), (2, 1, (.int .i64 (-1))), (3, 1, (.int .i64 (-1)))]) fun b =>
oh (evSt 4 a b h) fun _ h3 =>
(ob (evLd true 4 a h3) fun r0 =>
  yf h3 (.tup [r0, (.bool true)]))
def y2ka (s : St) : OX := ysz (s 2) (s 5) s.h
theorem y238 : T1 y1vp y2k (y5 0 y2k xN) [.cell 2 true 4, .t 3] y2ka := fun _ => by kernel_rfl
def ywx (c a e : AV) (h : Heap) : OX :=
ob (evFa 2 c) fun g =>
ob (evLd false 1 g h) fun b =>
ob (y8 .neq b (.int .i64 (-1))) fun d =>
cnd d
 ((ysz a (.int .i64 0) h))
 ((ysz a e h))
def y2jq (s : St) : OX := ywx (s 1) (s 2) (s 5) s.h
theorem y1ze : T1 y1m5 y2k (y5 0 y2k xN) [.cell 2 true 4, .t 3] y2jq := sq y238 fun _ => by kernel_rfl
def yvj (b a : AV) (h : Heap) : OX :=
(ywx b a (.int .i64 (-1)) h)
def y2hi (s : St) : OX := yvj (s 1) (s 2) s.h
theorem y21a : T1 y1op y2k (y5 0 y2k xN) [.cell 2 true 4, .t 3] y2hi := sq y1ze fun _ => by kernel_rfl
def yt8 (d i B : AV) (h : Heap) : OX :=
ob (evFa 0 d) fun D =>
ob (evLd false 1 D h) fun w =>
ob (y8 .eql w (.int .i64 23)) fun g =>
gb g false (evFa 0 d) fun o =>
gb g false (evLd false 1 o h) fun F =>
gb g false (y8 .eql F (.int .i64 26)) fun u =>
ob (yd g (.bool true) u) fun e =>
gb e false (evFa 8 d) fun G =>
gb e false (evLd false 1 G h) fun x =>
gb e false (y13 1 x h) fun r =>
gb e false (y8 .gtr r (.int .i64 0)) fun H =>
ob (yd e (.bool true) H) fun a =>
ob (y10 [(.int .i64 0), (.int .i64 0), (.int .i64 0), (.int .i64 0)] [(0, 1, B), (1, 1, (.int .i64 (-1))), (2, 1, (.int .i64 (-1))), (3, 1, (.int .i64 (-1)))]) fun I =>
ofp (fgd a true (some ([], []))) fun f4 =>
gb a true (evFa 5 d) fun l =>
ofp (fgd a true (some (ids1 l, []))) fun f5 =>
gb a true (evLd false 1 l h) fun z =>
ofp (fgd a true (some ([], []))) fun f6 =>
gb a true (y8 .geq z (.int .i64 0)) fun y =>
ofp (fgd a true (some ([], []))) fun f7 =>
gb a true (some y) fun c =>
ofp (fgd c false (some ([], []))) fun f8 =>
gb c false (evFa 0 d) fun k =>
ofp (fgd c false (some (ids1 k, []))) fun f9 =>
gb c false (evLd false 1 k h) fun t =>
ofp (fgd c false (some ([], []))) fun f10 =>
gb c false (y8 .eql t (.int .i64 25)) fun n =>
ofp (fgd a true (some ([], []))) fun f11 =>
gb a true (yd c (.bool true) n) fun A =>
ob (yd a A (.bool false)) fun b =>
ofp (fgd b true (some ([], []))) fun f14 =>
gb b true (evFa 8 d) fun m =>
ofp (fgd b true (some (ids1 m, []))) fun f15 =>
gb b true (evLd false 1 m h) fun j =>
ofp (fgd b true (some (ids1 j, []))) fun f16 =>
gb b true (y13 1 j h) fun v =>
ofp (fgd b true (some ([], []))) fun f17 =>
gb b true (y8 .leq v (.int .i64 21)) fun C =>
ob (yd b C (.bool false)) fun p =>
oh (evSt 4 i I h) fun _ h4 =>
okK (yg [([], []), ([], []), ([], []), ([], []), f4, f5, f6, f7, f8, f9, f10, f11, ([], []), ([], []), f14, f15, f16, f17, ([], []), ([], ids1 i), ([], [])] [(15, 19), (16, 19)]) <|
(ob (evLd true 4 i h4) fun r0 =>
  yf h4 (.tup [r0, p]))
def y2mm (s : St) : OX := yt8 (s 1) (s 2) (s 6) s.h
theorem y1x9 : T1 y1g4 y2k (y5 0 y2k xN) [.cell 2 true 4, .t 3] y2mm := fun _ => by kernel_rfl
def yvd (a b e : AV) (h : Heap) : OX :=
ob (evFa 1 a) fun d =>
ob (evLd false 1 d h) fun c =>
ob (y8 .neq c (.int .i64 (-1))) fun g =>
cnd g
 ((yt8 a b (.int .i64 0) h))
 ((yt8 a b e h))
def y2h2 (s : St) : OX := yvd (s 1) (s 2) (s 6) s.h
theorem y21o : T1 y1jg y2k (y5 0 y2k xN) [.cell 2 true 4, .t 3] y2h2 := sq y1x9 fun _ => by kernel_rfl
def yiv (b a : AV) (h : Heap) : OX :=
(yvd b a (.int .i64 (-1)) h)
def y2as (s : St) : OX := yiv (s 1) (s 2) s.h
theorem y1pp : T1 y17m y2k (y5 0 y2k xN) [.cell 2 true 4, .t 3] y2as := sq y21o fun _ => by kernel_rfl
def ycm (b a c : AV) (h : Heap) : OX :=
cnd c
 ((yiv b a h))
 ((yv3 a h))
def y2fr (s : St) : OX := ycm (s 1) (s 2) (s 32) s.h
theorem y1th : T1 yzt y2k (y5 0 y2k xN) [.cell 2 true 4, .t 3] y2fr := fun s => (y1b (y1pp s) rfl).trans (by kernel_rfl)
def yk5 (a c b : AV) (h : Heap) : OX :=
ob (y8 .eql b (.int .i64 23)) fun g =>
cnd g
 ((ycm a c g h))
 (ob (y8 .eql b (.int .i64 24)) fun d =>
cnd d
 ((ycm a c d h))
 (ob (y8 .eql b (.int .i64 25)) fun e =>
cnd e
 ((ycm a c e h))
 (ob (y8 .eql b (.int .i64 26)) fun i =>
(ycm a c i h))))
def y2ea (s : St) : OX := yk5 (s 1) (s 2) (s 9) s.h
theorem y1ey : T1 y16b y2k (y5 0 y2k xN) [.cell 2 true 4, .t 3] y2ea := sq y1th fun _ => by kernel_rfl
def yis (b a d c : AV) (h : Heap) : OX :=
cnd c
 ((yvj b a h))
 ((yk5 b a d h))
def y2ey (s : St) : OX := yis (s 1) (s 2) (s 9) (s 25) s.h
theorem y1my : T1 y11n y2k (y5 0 y2k xN) [.cell 2 true 4, .t 3] y2ey := fun s => (y1b (y21a s) (y1ey s)).trans (by kernel_rfl)
def yjn (c b a : AV) (h : Heap) : OX :=
ob (y8 .eql a (.int .i64 30)) fun d =>
(yis c b a d h)
def y28w (s : St) : OX := yjn (s 1) (s 2) (s 9) s.h
theorem y1jz : T1 y15v y2k (y5 0 y2k xN) [.cell 2 true 4, .t 3] y28w := sq y1my fun _ => by kernel_rfl
def yl4 (b a d c : AV) (h : Heap) : OX :=
cnd c
 ((yvg b a h))
 ((yjn b a d h))
def y2fs (s : St) : OX := yl4 (s 1) (s 2) (s 9) (s 10) s.h
theorem y1e7 : T1 y18k y2k (y5 0 y2k xN) [.cell 2 true 4, .t 3] y2fs := fun s => (y1b (y21q s) (y1jz s)).trans (by kernel_rfl)
def yik (c b a : AV) (h : Heap) : OX :=
ob (y8 .eql a (.int .i64 29)) fun d =>
(yl4 c b a d h)
def y1py (s : St) : OX := yik (s 1) (s 2) (s 9) s.h
theorem y1pc : T1 yxz y2k (y5 0 y2k xN) [.cell 2 true 4, .t 3] y1py := sq y1e7 fun _ => by kernel_rfl
theorem y1n2 : T1 y12o y2k xN [.cell 2 true 4, .t 3] y1py := fun s => yy.trans (y1pc s)
def yjw (a b : AV) (h : Heap) : OX :=
ob (evFa 0 a) fun d =>
ob (evLd false 1 d h) fun c =>
(yik a b c h)
def y1uu (s : St) : OX := yjw (s 1) (s 2) s.h
theorem y1vg : T1 y14l y2k xN [.cell 2 true 4, .t 3] y1uu := sq y1n2 fun _ => by kernel_rfl
theorem y1nh : T0 y186 [.cell 2 true 4, .t 3] y1uu := sq y23i y1vg
def yjq (c : AV) (h : Heap) : OX :=
oh (newC 0 (some 0) (cellsOf c) h) fun b h5 =>
oh (newC 0 (some 1) [(.int .i64 0), (.int .i64 0), (.int .i64 0), (.int .i64 0)] h5) fun a h6 =>
(yjw b a h6)
def y28a (s : St) : OX := yjq (s 0) s.h
theorem y1me : T0 y14y [.cell 2 true 4, .t 3] y28a := sq y1nh fun _ => by kernel_rfl
@[simp] theorem y2o5 : E.pure 51 = true := rfl
theorem y1xx (a : AV) : (yb E).p 51 [a] = yjq a [⟨0, .dead⟩, ⟨0, .dead⟩] :=
  (y15 (cf := y2hh) (by kernel_rfl) rfl).trans ((y1me _).trans (by kernel_rfl))
def ykn (b : AV) (h : Heap) : OX :=
ob (y8 .neq b (AV.str [])) fun a =>
gb a true (some b) fun e =>
gb a true (y13 0 e h) fun c =>
gb a true (y8 .leq c (.int .i64 60)) fun d =>
ob (yd a d (.bool false)) fun g =>
(yf h g)
def y7g (s : St) : OX := ykn (s 0) s.h
theorem y1os : T0 y16i [.t 4] y7g := fun _ => by kernel_rfl
def yft (b c a : AV) (h : Heap) : OX :=
  W E 0 yjf ⟨[(0, b), (5, c), (6, a)], h⟩ y7g (y5 0 y7g xN) (finP [.t 4])
def yc0 (s : St) : OX := yft (s 0) (s 5) (s 6) s.h
theorem ymd : T1 yjf y7g (y5 0 y7g xN) [.t 4] yc0 := fun s => yj.trans (by kernel_rfl)
def y13i (b d a : AV) (h : Heap) : OX :=
ob (y8 .add a (.int .i64 1)) fun c =>
(yft b d c h)
def y2cp (s : St) : OX := y13i (s 0) (s 5) (s 6) s.h
theorem y1s9 : T1 y146 yc0 (y5 0 y7g xN) [.t 4] y2cp := fun _ => by kernel_rfl
def yui (b c a : AV) (h : Heap) : OX :=
ob (y8 .add a (.int .i64 1)) fun e =>
ob (yeb b (some a) (some e)) fun d =>
oh (y9 E (yb E) 0 none true 53 [c, d] h) fun i h1 =>
ob (evUn .not i) fun g =>
cnd g
 ((yf h1 (.bool false)))
 ((y13i b c a h1))
def y2d5 (s : St) : OX := yui (s 0) (s 5) (s 6) s.h
theorem y1ed : T1 y124 yc0 (y5 0 y7g xN) [.t 4] y2d5 := sq y1s9 fun _ => by kernel_rfl
def yr3 (a e b : AV) (h : Heap) : OX :=
ob (y13 0 a h) fun d =>
ob (y8 .lss b d) fun c =>
cnd c
 ((yui a e b h))
 ((ykn a h))
def y2c2 (s : St) : OX := yr3 (s 0) (s 5) (s 6) s.h
theorem y1uc : T1 y163 yc0 (y5 0 y7g xN) [.t 4] y2c2 := sq y1ed fun _ => by kernel_rfl
theorem yoe (b c a : AV) (h : Heap) : yft b c a h = (yr3 b c a h) :=
  y28.trans ((y1c _ _ _ (n' := yc0) (fun s => ymd s)).trans ((y1uc _).trans (by kernel_rfl)))
theorem y1fl : T1 yxr y7g xN [.t 4] yc0 := fun s => yy.trans (ymd s)
def y0h (a b : AV) (h : Heap) : OX :=
(yft a b (.int .i64 0) h)
def y1sf (s : St) : OX := y0h (s 0) (s 5) s.h
theorem y1g9 : T1 y12j y7g xN [.t 4] y1sf := sq y1fl fun _ => by kernel_rfl
theorem y1km : T0 y18p [.t 4] y1sf := sq y1os y1g9
def y1f6 (a c b : AV) (h : Heap) : OX :=
cnd c
 (ob (y8 .add b (AV.str [60, 62])) fun d =>
(y0h a d h))
 ((y0h a b h))
def y28j (s : St) : OX := y1f6 (s 0) (s 1) (s 5) s.h
theorem y1it : T0 y13g [.t 4] y28j := sq y1km fun _ => by kernel_rfl
def ywg (b a : AV) (h : Heap) : OX :=
(y1f6 b a (AV.str [97, 98, 99, 100, 101, 102, 103, 104, 105, 106, 107, 108, 109, 110, 111, 112, 113, 114, 115, 116, 117, 118, 119, 120, 121, 122, 65, 66, 67, 68, 69, 70, 71, 72, 73, 74, 75, 76, 77, 78, 79, 80, 81, 82, 83, 84, 85, 86, 87, 88, 89, 90, 48, 49, 50, 51, 52, 53, 54, 55, 56, 57, 95, 36, 47]) h)
def y259 (s : St) : OX := ywg (s 0) (s 1) s.h
theorem y1cg : T0 yqj [.t 4] y259 := sq y1it fun _ => by kernel_rfl
def yoo (b a : AV) (h : Heap) : OX :=
(ywg b a h)
def y25h (s : St) : OX := yoo (s 0) (s 1) s.h
theorem y196 : T0 ysm [.t 4] y25h := sq y1cg fun _ => by kernel_rfl
@[simp] theorem y2r0 : E.pure 69 = true := rfl
theorem y2jn (b a : AV) : (yb E).p 69 [b, a] = yoo b a [] :=
  (y15 (cf := y26d) (by kernel_rfl) rfl).trans ((y196 _).trans (by kernel_rfl))
def q9_1 (h : Heap) : OX :=
(yf h (.int .i64 0))
def y3m (s : St) : OX := q9_1 s.h
theorem y2ct : T0 y26p [.t 2] y3m := fun _ => by kernel_rfl
def y1ry (b c a : AV) (h : Heap) : OX :=
  W E 0 ywf ⟨[(0, b), (3, c), (4, a)], h⟩ y3m (y5 3 y3m (y5 2 y3m xN)) (finP [.t 2])
def ylo (s : St) : OX := y1ry (s 0) (s 3) (s 4) s.h
theorem y0z : T1 ywf y3m (y5 3 y3m (y5 2 y3m xN)) [.t 2] ylo := fun s => yj.trans (by kernel_rfl)
def q9_3 (b c a : AV) (h : Heap) : OX :=
ob (y8 .add a (.int .i64 1)) fun d =>
(y1ry b c d h)
def yla (s : St) : OX := q9_3 (s 0) (s 3) (s 4) s.h
theorem y296 : T1 y278 ylo (y5 3 y3m (y5 2 y3m xN)) [.t 2] yla := fun _ => by kernel_rfl
def q9_4 (h : Heap) : OX :=
(yf h (.int .i64 0))
def y2qy (s : St) : OX := q9_4 s.h
theorem y29v : T1 y26i yla (y5 4 yla (y5 3 y3m (y5 2 y3m xN))) [.t 2] y2qy := fun _ => by kernel_rfl
def q9_5 (c e a : AV) (h : Heap) : OX :=
ob (y8 .add e (.int .i64 1)) fun d =>
ob (yeb c (some d) (some a)) fun b =>
oh (y9 E (yb E) 0 none true 60 [b, (.bool false)] h) fun g h1 =>
cnd g
 (ob (y8 .add a (.int .i64 1)) fun i =>
(yf h1 i))
 ((q9_4 h1))
def y2q3 (s : St) : OX := q9_5 (s 0) (s 3) (s 4) s.h
theorem y29t : T1 y27p yla (y5 4 yla (y5 3 y3m (y5 2 y3m xN))) [.t 2] y2q3 := sq y29v fun _ => by kernel_rfl
def q9_6 (b c a d : AV) (h : Heap) : OX :=
cnd d
 ((q9_5 b c a h))
 ((q9_3 b c a h))
def y2qq (s : St) : OX := q9_6 (s 0) (s 3) (s 4) (s 46) s.h
theorem y2ak : T1 y26r yla (y5 4 yla (y5 3 y3m (y5 2 y3m xN))) [.t 2] y2qq := fun s => (y1b (y29t s) rfl).trans (by kernel_rfl)
def q9_7 (a e b : AV) (h : Heap) : OX :=
ob (y5s a b) fun d =>
ob (y8 .eql d (.int .u8 59)) fun c =>
(q9_6 a e b c h)
def y2aa (s : St) : OX := q9_7 (s 0) (s 3) (s 4) s.h
theorem y294 : T1 y25s yla (y5 4 yla (y5 3 y3m (y5 2 y3m xN))) [.t 2] y2aa := sq y2ak fun _ => by kernel_rfl
theorem y2bp : T1 y26l yla (y5 3 y3m (y5 2 y3m xN)) [.t 2] y2aa := fun s => yy.trans (y294 s)
theorem y2az : T1 y26v ylo (y5 3 y3m (y5 2 y3m xN)) [.t 2] y2aa := sq y296 y2bp
def y1c6 (a d b : AV) (h : Heap) : OX :=
ob (y13 0 a h) fun e =>
ob (y8 .lss b e) fun c =>
cnd c
 ((q9_7 a d b h))
 ((q9_1 h))
def y2gv (s : St) : OX := y1c6 (s 0) (s 3) (s 4) s.h
theorem y1yr : T1 y1hz ylo (y5 3 y3m (y5 2 y3m xN)) [.t 2] y2gv := sq y2az fun _ => by kernel_rfl
theorem y145 (b c a : AV) (h : Heap) : y1ry b c a h = (y1c6 b c a h) :=
  y28.trans ((y1c _ _ _ (n' := ylo) (fun s => y0z s)).trans ((y1yr _).trans (by kernel_rfl)))
theorem y20j : T1 y1ir y3m (y5 2 y3m xN) [.t 2] ylo := fun s => yy.trans (y0z s)
def y29u (c a : AV) (h : Heap) : OX :=
ob (y8 .add a (.int .i64 1)) fun b =>
(y1ry c a b h)
def y2kg (s : St) : OX := y29u (s 0) (s 3) s.h
theorem y23l : T1 y1jw y3m (y5 2 y3m xN) [.t 2] y2kg := sq y20j fun _ => by kernel_rfl
def y24n (b c a : AV) (h : Heap) : OX :=
cnd a
 ((y29u b c h))
 ((q9_1 h))
def y2ix (s : St) : OX := y24n (s 0) (s 3) (s 33) s.h
theorem y25j : T1 y1hv y3m (y5 2 y3m xN) [.t 2] y2ix := fun s => (y1b (y23l s) rfl).trans (by kernel_rfl)
def y21w (b c a : AV) (h : Heap) : OX :=
ob (y8 .eql a (.int .u8 76)) fun d =>
(y24n b c d h)
def y2lz (s : St) : OX := y21w (s 0) (s 3) (s 27) s.h
theorem y1xq : T1 y1lb y3m (y5 2 y3m xN) [.t 2] y2lz := sq y25j fun _ => by kernel_rfl
def yva (c a e b : AV) (h : Heap) : OX :=
cnd b
 (ob (y8 .add a (.int .i64 1)) fun d =>
(yf h d))
 ((y21w c a e h))
def y2l1 (s : St) : OX := yva (s 0) (s 3) (s 27) (s 28) s.h
theorem y24a : T1 y1g8 y3m (y5 2 y3m xN) [.t 2] y2l1 := fun s => (y1b rfl (y1xq s)).trans (by kernel_rfl)
def y190 (b d a : AV) (h : Heap) : OX :=
ob (y8 .eql a (.int .u8 73)) fun c =>
cnd c
 ((yva b d a c h))
 (ob (y8 .eql a (.int .u8 74)) fun e =>
(yva b d a e h))
def y26m (s : St) : OX := y190 (s 0) (s 3) (s 27) s.h
theorem y24x : T1 y1mr y3m (y5 2 y3m xN) [.t 2] y26m := sq y24a fun _ => by kernel_rfl
theorem y25b : T1 y1wl y3m xN [.t 2] y26m := fun s => yy.trans (y24x s)
def y1bj (a b : AV) (h : Heap) : OX :=
ob (y5s a b) fun c =>
(y190 a b c h)
def y27e (s : St) : OX := y1bj (s 0) (s 3) s.h
theorem y1wp : T1 y1kj y3m xN [.t 2] y27e := sq y25b fun _ => by kernel_rfl
theorem y24d : T0 y1t7 [.t 2] y27e := sq y2ct y1wp
def yle (c b : AV) (h : Heap) : OX :=
ob (y8 .gtr b (.int .i64 8)) fun a =>
gb a false (some b) fun e =>
gb a false (some c) fun d =>
gb a false (y13 0 d h) fun i =>
gb a false (y8 .eql e i) fun g =>
ob (yd a (.bool true) g) fun j =>
cnd j
 ((yf h (.int .i64 0)))
 ((y1bj c b h))
def yg7 (s : St) : OX := yle (s 0) (s 3) s.h
theorem y20d : T0 y1sa [.t 2] yg7 := sq y24d fun _ => by kernel_rfl
def ytj (a b : AV) (h : Heap) : OX :=
  W E 0 ypa ⟨[(0, a), (3, b)], h⟩ yg7 (y5 0 yg7 xN) (finP [.t 2])
def yg0 (s : St) : OX := ytj (s 0) (s 3) s.h
theorem yr2 : T1 ypa yg7 (y5 0 yg7 xN) [.t 2] yg0 := fun s => yj.trans (by kernel_rfl)
def y28d (b c : AV) (h : Heap) : OX :=
ob (y8 .add c (.int .i64 1)) fun a =>
(ytj b a h)
def y2lp (s : St) : OX := y28d (s 0) (s 3) s.h
theorem y1x1 : T1 y1i3 yg0 (y5 0 yg7 xN) [.t 2] y2lp := fun _ => by kernel_rfl
def y1lc (b c : AV) (h : Heap) : OX :=
ob (y13 0 b h) fun j =>
ob (y8 .lss c j) fun a =>
gb a true (some b) fun d =>
gb a true (some c) fun g =>
gb a true (y5s d g) fun k =>
gb a true (y8 .eql k (.int .u8 91)) fun e =>
ob (yd a e (.bool false)) fun i =>
cnd i
 ((y28d b c h))
 ((yle b c h))
def y2lu (s : St) : OX := y1lc (s 0) (s 3) s.h
theorem y22a : T1 y1ja yg0 (y5 0 yg7 xN) [.t 2] y2lu := sq y1x1 fun _ => by kernel_rfl
theorem yr4 (a b : AV) (h : Heap) : ytj a b h = (y1lc a b h) :=
  y28.trans ((y1c _ _ _ (n' := yg0) (fun s => yr2 s)).trans ((y22a _).trans (by kernel_rfl)))
theorem y1yq : T1 y1l0 yg7 xN [.t 2] yg0 := fun s => yy.trans (yr2 s)
theorem y1z1 : T0 y1tj [.t 2] yg0 := sq y20d y1yq
def y2f1 (a : AV) (h : Heap) : OX :=
(ytj a (.int .i64 0) h)
def y2mi (s : St) : OX := y2f1 (s 0) s.h
theorem y1z0 : T0 y1we [.t 2] y2mi := sq y1z1 fun _ => by kernel_rfl
def y2d0 (a : AV) (h : Heap) : OX :=
(y2f1 a h)
def y2ks (s : St) : OX := y2d0 (s 0) s.h
theorem y1yz : T0 y1m3 [.t 2] y2ks := sq y1z0 fun _ => by kernel_rfl
@[simp] theorem y2ob : E.pure 44 = true := rfl
theorem x_q9 (a : AV) : (yb E).p 44 [a] = y2d0 a [] :=
  (y15 (cf := c_q9) (by kernel_rfl) rfl).trans ((y1yz _).trans (by kernel_rfl))
def q7_1 (h : Heap) : OX :=
(yf h (.bool true))
def yht (s : St) : OX := q7_1 s.h
theorem y284 : T0 y275 [.t 4] yht := fun _ => by kernel_rfl
def y1uq (b d a c : AV) (h : Heap) : OX :=
  W E 0 yvy ⟨[(1, b), (17, d), (18, a), (19, c)], h⟩ yht (y5 0 yht xN) (finP [.t 4])
def yix (s : St) : OX := y1uq (s 1) (s 17) (s 18) (s 19) s.h
theorem y15g : T1 yvy yht (y5 0 yht xN) [.t 4] yix := fun s => yj.trans (by kernel_rfl)
def q7_3 (a c e d : AV) (h : Heap) : OX :=
ob (y8 .add d (.int .i64 1)) fun b =>
(y1uq a c e b h)
def y2oi (s : St) : OX := q7_3 (s 1) (s 17) (s 18) (s 19) s.h
theorem y2al : T1 y25n yix (y5 0 yht xN) [.t 4] y2oi := fun _ => by kernel_rfl
def q7_4 (p r L o : AV) (h : Heap) : OX :=
ob (yx 1 r o) fun G =>
ob (evLd false 1 G h) fun a =>
ob (y8 .geq a (.int .u8 97)) fun n =>
gb n true (some a) fun w =>
gb n true (y8 .leq w (.int .u8 122)) fun Q =>
ob (yd n Q (.bool false)) fun c =>
gb c false (some a) fun S =>
gb c false (y8 .geq S (.int .u8 65)) fun V =>
gb c false (some V) fun j =>
gb j true (some a) fun N =>
gb j true (y8 .leq N (.int .u8 90)) fun K =>
gb c false (yd j K (.bool false)) fun M =>
ob (yd c (.bool true) M) fun b =>
gb b false (some a) fun t =>
gb b false (y8 .geq t (.int .u8 48)) fun y =>
gb b false (some y) fun l =>
gb l true (some a) fun H =>
gb l true (y8 .leq H (.int .u8 57)) fun P =>
gb b false (yd l P (.bool false)) fun z =>
ob (yd b (.bool true) z) fun i =>
gb i false (some a) fun C =>
gb i false (y8 .eql C (.int .u8 95)) fun X =>
ob (yd i (.bool true) X) fun k =>
gb k false (some a) fun I =>
gb k false (y8 .eql I (.int .u8 36)) fun u =>
ob (yd k (.bool true) u) fun m =>
gb m false (some a) fun R =>
gb m false (y8 .eql R (.int .u8 47)) fun Z =>
ob (yd m (.bool true) Z) fun B =>
ob (evUn .not B) fun d =>
gb d true (some p) fun J =>
gb d true (some J) fun e =>
gb e true (some a) fun x =>
gb e true (y8 .eql x (.int .u8 60)) fun A =>
gb e true (some A) fun g =>
gb g false (some a) fun O =>
gb g false (y8 .eql O (.int .u8 62)) fun D =>
gb e true (yd g (.bool true) D) fun U =>
gb d true (yd e U (.bool false)) fun Y =>
gb d true (evUn .not Y) fun v =>
ob (yd d v (.bool false)) fun F =>
cnd F
 ((yf h (.bool false)))
 ((q7_3 p r L o h))
def y2ps (s : St) : OX := q7_4 (s 1) (s 17) (s 18) (s 19) s.h
theorem y299 : T1 y26g yix (y5 0 yht xN) [.t 4] y2ps := sq y2al fun _ => by kernel_rfl
def q7_5 (a b e d c : AV) (h : Heap) : OX :=
cnd c
 ((q7_4 a b e d h))
 ((q7_1 h))
def y2nn (s : St) : OX := q7_5 (s 1) (s 17) (s 18) (s 19) (s 20) s.h
theorem y2f7 : T1 y27f yix (y5 0 yht xN) [.t 4] y2nn := sq y299 fun _ => by kernel_rfl
def q7_6 (c d b a : AV) (h : Heap) : OX :=
ob (y8 .lss a b) fun e =>
(q7_5 c d b a e h)
def y2q2 (s : St) : OX := q7_6 (s 1) (s 17) (s 18) (s 19) s.h
theorem y2eh : T1 y27j yix (y5 0 yht xN) [.t 4] y2q2 := sq y2f7 fun _ => by kernel_rfl
theorem yyf (b d a c : AV) (h : Heap) : y1uq b d a c h = (q7_6 b d a c h) :=
  y28.trans ((y1c _ _ _ (n' := yix) (fun s => y15g s)).trans ((y2eh _).trans (by kernel_rfl)))
theorem y2e3 : T1 y26n yht xN [.t 4] yix := fun s => yy.trans (y15g s)
def q7_8 (d c : AV) (h : Heap) : OX :=
oh (s2bC 0 (some 0) d h) fun a h1 =>
ob (y13 1 a h1) fun b =>
(y1uq c a b (.int .i64 0) h1)
def y2jl (s : St) : OX := q7_8 (s 0) (s 1) s.h
theorem y2f6 : T1 y26b yht xN [.t 4] y2jl := sq y2e3 fun _ => by kernel_rfl
theorem y2ai : T0 y25r [.t 4] y2jl := sq y284 y2f6
def y1uw (b d : AV) (h : Heap) : OX :=
ob (y13 0 b h) fun g =>
ob (y8 .lss g (.int .i64 1)) fun a =>
gb a false (some b) fun j =>
gb a false (y13 0 j h) fun c =>
gb a false (y8 .gtr c (.int .i64 60)) fun i =>
ob (yd a (.bool true) i) fun e =>
cnd e
 ((yf h (.bool false)))
 ((q7_8 b d h))
def y2mh (s : St) : OX := y1uw (s 0) (s 1) s.h
theorem y20c : T0 y1iz [.t 4] y2mh := sq y2ai fun _ => by kernel_rfl
def y1fg (b a : AV) (h : Heap) : OX :=
(y1uw b a h)
def y2md (s : St) : OX := y1fg (s 0) (s 1) s.h
theorem y1wn : T0 y1wi [.t 4] y2md := sq y20c fun _ => by kernel_rfl
@[simp] theorem y2q9 : E.pure 60 = true := rfl
theorem x_q7 (b a : AV) : (yb E).p 60 [b, a] = y1fg b a [⟨0, .dead⟩] :=
  (y15 (cf := c_q7) (by kernel_rfl) rfl).trans ((y1wn _).trans (by kernel_rfl))
end
end Go.Vm
