/- Functions of the machine as plain functions that go on with what follows. -/
import Derived.Test.YtgbajicpokolcaaGEnv
set_option linter.unusedSimpArgs false
set_option linter.unusedVariables false
set_option linter.unusedSectionVars false
namespace Go.Vm
noncomputable section
def y2y (h : Heap) : OX :=
(yf h (.bool true))
def y11 (s : St) : OX := y2y s.h
theorem y1gi : T0 y0k [.t 4] y11 := fun _ => by kernel_rfl
def y2v (b i : AV) (h : Heap) : OX :=
ob (evFa 2 i) fun c =>
ob (evLd false 1 c h) fun l =>
ob (y8 .neq l (.int .i64 (-1))) fun a =>
ofp (fgd a true (some (ids1 b, []))) fun f4 =>
gb a true (evLd true 5 b h) fun j =>
ofp (fgd a true (some ([], []))) fun f5 =>
gb a true (evFa 2 i) fun e =>
ofp (fgd a true (some (ids1 e, []))) fun f6 =>
gb a true (evLd false 1 e h) fun g =>
ofp (fgd a true (y4l E (yb E) 0 none true 48 [j, g] h)) fun f7 =>
gh a true (y9 E (yb E) 0 none true 48 [j, g] h) h fun n h1 =>
ofp (fgd a true (some ([], []))) fun f8 =>
gb a true (evFa 2 b) fun d =>
ofp (fgd a true (some (ids1 d, []))) fun f9 =>
gb a true (evLd false 1 d h1) fun k =>
ofp (fgd a true (some ([], []))) fun f10 =>
gb a true (y8 .eql n k) fun m =>
ob (yd a m (.bool false)) fun o =>
okK (yg [([], []), (ids1 c, []), ([], []), ([], []), f4, f5, f6, f7, f8, f9, f10, ([], []), ([], [])] [(7, 9)]) <|
(yf h1 o)
def y2ax (s : St) : OX := y2v (s 2) (s 3) s.h
theorem y1fb : T1 y15o y11 (y5 2 y11 xN) [.t 4] y2ax := fun _ => by kernel_rfl
def y2u (a b : AV) (h : Heap) : OX :=
ob (evFa 2 a) fun c =>
ob (evLd false 1 c h) fun g =>
ob (y8 .eql g (.int .i64 0)) fun e =>
cnd e
 (ob (evFa 2 b) fun d =>
ob (evLd false 1 d h) fun j =>
ob (y8 .eql j (.int .i64 (-1))) fun i =>
(yf h i))
 ((y2v a b h))
def y2f0 (s : St) : OX := y2u (s 2) (s 3) s.h
theorem y1t6 : T1 yz3 y11 (y5 2 y11 xN) [.t 4] y2f0 := sq y1fb fun _ => by kernel_rfl
def y2q (a c b : AV) (h : Heap) : OX :=
cnd b
 ((y2u a c h))
 ((y2y h))
def y2em (s : St) : OX := y2q (s 2) (s 3) (s 207) s.h
theorem y1va : T1 yza y11 (y5 2 y11 xN) [.t 4] y2em := fun s => (y1b (y1t6 s) rfl).trans (by kernel_rfl)
def y2s (a d c : AV) (h : Heap) : OX :=
ob (y8 .eql c (.int .i64 30)) fun b =>
(y2q a d b h)
def y28k (s : St) : OX := y2s (s 2) (s 3) (s 55) s.h
theorem y1t5 : T1 y14g y11 (y5 2 y11 xN) [.t 4] y28k := sq y1va fun _ => by kernel_rfl
def y2x (g a t D : AV) (h : Heap) : OX :=
cnd D
 (ob (evFa 5 a) fun m =>
ob (evLd false 1 m h) fun j =>
ob (y8 .eql j (.int .i64 0)) fun e =>
gb e false (evFa 5 a) fun x =>
gb e false (evLd false 1 x h) fun p =>
gb e false (y8 .eql p (.int .i64 1)) fun F =>
ob (yd e (.bool true) F) fun c =>
gb c true (evFa 3 a) fun C =>
gb c true (evLd false 1 C h) fun i =>
gb c true (y8 .eql i (.int .i64 (-1))) fun o =>
gb c true (some o) fun b =>
gb b false (evLd true 5 g h) fun v =>
gb b false (evFa 3 a) fun y =>
gb b false (evLd false 1 y h) fun k =>
gh b false (y9 E (yb E) 0 none true 48 [v, k] h) h fun n h2 =>
gb b false (y8 .eql n (.int .i64 3)) fun z =>
gb c true (yd b (.bool true) z) fun B =>
ob (yd c B (.bool false)) fun d =>
gb d true (evLd true 5 g h2) fun w =>
gb d true (evFa 6 a) fun A =>
gb d true (evLd false 1 A h2) fun l =>
gh d true (y9 E (yb E) 0 none true 49 [w, l] h2) h2 fun r h3 =>
ob (yd d r (.bool false)) fun u =>
(yf h3 u))
 ((y2s g a t h))
def y2fb (s : St) : OX := y2x (s 2) (s 3) (s 55) (s 179) s.h
theorem y1m6 : T1 y17r y11 (y5 2 y11 xN) [.t 4] y2fb := fun s => (y1b rfl (y1t5 s)).trans (by kernel_rfl)
def y2w (b c a : AV) (h : Heap) : OX :=
ob (y8 .eql a (.int .i64 29)) fun d =>
(y2x b c a d h)
def y283 (s : St) : OX := y2w (s 2) (s 3) (s 55) s.h
theorem y1n5 : T1 y17h y11 (y5 2 y11 xN) [.t 4] y283 := sq y1m6 fun _ => by kernel_rfl
def y2t (a b d c : AV) (h : Heap) : OX :=
cnd c
 (ob (evLd true 5 a h) fun j =>
ob (evFa 6 b) fun e =>
ob (evLd false 1 e h) fun i =>
oh (y9 E (yb E) 0 none true 49 [j, i] h) fun g h4 =>
(yf h4 g))
 ((y2w a b d h))
def y2dl (s : St) : OX := y2t (s 2) (s 3) (s 55) (s 173) s.h
theorem y1j9 : T1 y14e y11 (y5 2 y11 xN) [.t 4] y2dl := fun s => (y1b rfl (y1n5 s)).trans (by kernel_rfl)
def y2r (b c a : AV) (h : Heap) : OX :=
ob (y8 .eql a (.int .i64 27)) fun d =>
(y2t b c a d h)
def y29a (s : St) : OX := y2r (s 2) (s 3) (s 55) s.h
theorem y1hp : T1 y13r y11 (y5 2 y11 xN) [.t 4] y29a := sq y1j9 fun _ => by kernel_rfl
def y1v (d b l n : AV) (h : Heap) : OX :=
cnd n
 (ob (evFa 5 b) fun e =>
ob (evLd false 1 e h) fun i =>
ob (y8 .geq i (.int .i64 0)) fun c =>
gb c true (evFa 5 b) fun p =>
gb c true (evLd false 1 p h) fun g =>
gb c true (y8 .leq g (.int .i64 5)) fun j =>
ob (yd c j (.bool false)) fun a =>
gb a true (evLd true 5 d h) fun m =>
gb a true (evFa 6 b) fun r =>
gb a true (evLd false 1 r h) fun t =>
gh a true (y9 E (yb E) 0 none true 49 [m, t] h) h fun k h5 =>
ob (yd a k (.bool false)) fun o =>
(yf h5 o))
 ((y2r d b l h))
def y1yr (s : St) : OX := y1v (s 2) (s 3) (s 55) (s 157) s.h
theorem y1ba : T1 yu5 y11 (y5 2 y11 xN) [.t 4] y1yr := fun s => (y1b rfl (y1hp s)).trans (by kernel_rfl)
def y1w (b d a : AV) (h : Heap) : OX :=
ob (y8 .eql a (.int .i64 28)) fun c =>
(y1v b d a c h)
def y1za (s : St) : OX := y1w (s 2) (s 3) (s 55) s.h
theorem y18x : T1 ysd y11 (y5 2 y11 xN) [.t 4] y1za := sq y1ba fun _ => by kernel_rfl
def y1i (a b e c : AV) (h : Heap) : OX :=
cnd c
 (ob (evLd true 5 a h) fun d =>
ob (evLd true 9 b h) fun i =>
oh (y9 E (yb E) 0 none true 68 [d, i] h) fun g h6 =>
(yf h6 g))
 ((y1w a b e h))
def y20a (s : St) : OX := y1i (s 2) (s 3) (s 55) (s 149) s.h
theorem y1c6 : T1 yuj y11 (y5 2 y11 xN) [.t 4] y20a := fun s => (y1b rfl (y18x s)).trans (by kernel_rfl)
def y1s (b c a : AV) (h : Heap) : OX :=
ob (y8 .eql a (.int .i64 23)) fun g =>
cnd g
 ((y1i b c a g h))
 (ob (y8 .eql a (.int .i64 24)) fun d =>
cnd d
 ((y1i b c a d h))
 (ob (y8 .eql a (.int .i64 25)) fun e =>
cnd e
 ((y1i b c a e h))
 (ob (y8 .eql a (.int .i64 26)) fun i =>
(y1i b c a i h))))
def y20t (s : St) : OX := y1s (s 2) (s 3) (s 55) s.h
theorem y19t : T1 ysc y11 (y5 2 y11 xN) [.t 4] y20t := sq y1c6 fun _ => by kernel_rfl
def y1q (c a d g : AV) (h : Heap) : OX :=
cnd g
 (ob (evFa 5 a) fun b =>
ob (evLd false 1 b h) fun i =>
ob (y8 .geq i (.int .i64 0)) fun e =>
(yf h e))
 ((y1s c a d h))
def y232 (s : St) : OX := y1q (s 2) (s 3) (s 55) (s 143) s.h
theorem y1a6 : T1 yu0 y11 (y5 2 y11 xN) [.t 4] y232 := fun s => (y1b rfl (y19t s)).trans (by kernel_rfl)
def y1u (b d a : AV) (h : Heap) : OX :=
ob (y8 .eql a (.int .i64 16)) fun c =>
cnd c
 ((y1q b d a c h))
 (ob (y8 .eql a (.int .i64 17)) fun e =>
(y1q b d a e h))
def y23j (s : St) : OX := y1u (s 2) (s 3) (s 55) s.h
theorem y1cd : T1 yu3 y11 (y5 2 y11 xN) [.t 4] y23j := sq y1a6 fun _ => by kernel_rfl
def y1l (b a d e : AV) (h : Heap) : OX :=
cnd e
 (ob (evFa 7 a) fun i =>
ob (evLd false 1 i h) fun c =>
oh (y9 E (yb E) 0 none true 67 [c] h) fun g h7 =>
(yf h7 g))
 ((y1u b a d h))
def y21u (s : St) : OX := y1l (s 2) (s 3) (s 55) (s 136) s.h
theorem y19w : T1 yqg y11 (y5 2 y11 xN) [.t 4] y21u := fun s => (y1b rfl (y1cd s)).trans (by kernel_rfl)
def y21 (b c a : AV) (h : Heap) : OX :=
ob (y8 .eql a (.int .i64 12)) fun d =>
cnd d
 ((y1l b c a d h))
 (ob (y8 .eql a (.int .i64 21)) fun e =>
cnd e
 ((y1l b c a e h))
 (ob (y8 .eql a (.int .i64 22)) fun g =>
(y1l b c a g h)))
def y23s (s : St) : OX := y21 (s 2) (s 3) (s 55) s.h
theorem y1a1 : T1 yrn y11 (y5 2 y11 xN) [.t 4] y23s := sq y19w fun _ => by kernel_rfl
def y20 (c d g t n u y : AV) (h : Heap) : OX :=
cnd y
 (ob (y8 .gtr g (.int .i64 0)) fun e =>
gb e true (some t) fun p =>
gb e true (y8 .eql p (.int .i64 0)) fun o =>
ob (yd e o (.bool false)) fun b =>
gb b true (evLd true 5 c h) fun x =>
gb b true (evFa 1 d) fun C =>
gb b true (evLd false 1 C h) fun v =>
gh b true (y9 E (yb E) 0 none true 48 [x, v] h) h fun i h8 =>
gb b true (some n) fun m =>
gb b true (y8 .eql i m) fun A =>
ob (yd b A (.bool false)) fun a =>
gb a true (evLd true 5 c h8) fun B =>
gb a true (evFa 2 d) fun z =>
gb a true (evLd false 1 z h8) fun j =>
gh a true (y9 E (yb E) 0 none true 48 [B, j] h8) h8 fun l h9 =>
gb a true (some g) fun w =>
gb a true (y8 .eql l w) fun r =>
ob (yd a r (.bool false)) fun k =>
(yf h9 k))
 ((y21 c d u h))
def y22q (s : St) : OX := y20 (s 2) (s 3) (s 8) (s 9) (s 10) (s 55) (s 112) s.h
theorem y1cq : T1 ys0 y11 (y5 2 y11 xN) [.t 4] y22q := fun s => (y1b rfl (y1a1 s)).trans (by kernel_rfl)
def y1y (b d i c e a : AV) (h : Heap) : OX :=
ob (y8 .eql a (.int .i64 6)) fun g =>
(y20 b d i c e a g h)
def y215 (s : St) : OX := y1y (s 2) (s 3) (s 8) (s 9) (s 10) (s 55) s.h
theorem y18t : T1 ys4 y11 (y5 2 y11 xN) [.t 4] y215 := sq y1cq fun _ => by kernel_rfl
def y1z (d e j g i o y : AV) (h : Heap) : OX :=
cnd y
 (ob (y8 .gtr g (.int .i64 0)) fun a =>
gb a true (evLd true 5 d h) fun m =>
gb a true (evFa 1 e) fun u =>
gb a true (evLd false 1 u h) fun x =>
gh a true (y9 E (yb E) 0 none true 48 [m, x] h) h fun D h10 =>
gb a true (some i) fun z =>
gb a true (y8 .eql D z) fun r =>
ob (yd a r (.bool false)) fun b =>
gb b true (evLd true 5 d h10) fun k =>
gb b true (evFa 2 e) fun l =>
gb b true (evLd false 1 l h10) fun H =>
gh b true (y9 E (yb E) 0 none true 48 [k, H] h10) h10 fun v h11 =>
gb b true (some j) fun w =>
gb b true (y8 .eql v w) fun p =>
ob (yd b p (.bool false)) fun c =>
gb c true (evLd true 5 d h11) fun F =>
gb c true (evFa 3 e) fun A =>
gb c true (evLd false 1 A h11) fun n =>
gh c true (y9 E (yb E) 0 none true 48 [F, n] h11) h11 fun t h12 =>
gb c true (some g) fun G =>
gb c true (y8 .eql t G) fun C =>
ob (yd c C (.bool false)) fun B =>
(yf h12 B))
 ((y1y d e j g i o h))
def y242 (s : St) : OX := y1z (s 2) (s 3) (s 8) (s 9) (s 10) (s 55) (s 84) s.h
theorem y1cc : T1 ytj y11 (y5 2 y11 xN) [.t 4] y242 := fun s => (y1b rfl (y18t s)).trans (by kernel_rfl)
def y1t (b d i c e a : AV) (h : Heap) : OX :=
ob (y8 .eql a (.int .i64 5)) fun g =>
(y1z b d i c e a g h)
def y20p (s : St) : OX := y1t (s 2) (s 3) (s 8) (s 9) (s 10) (s 55) s.h
theorem y190 : T1 yq6 y11 (y5 2 y11 xN) [.t 4] y20p := sq y1cc fun _ => by kernel_rfl
def y1o (a b t l o m n : AV) (h : Heap) : OX :=
cnd n
 (ob (evLd true 5 a h) fun g =>
ob (evFa 1 b) fun i =>
ob (evLd false 1 i h) fun c =>
ofp (y4l E (yb E) 0 none true 48 [g, c] h) fun f3 =>
oh (y9 E (yb E) 0 none true 48 [g, c] h) fun p h13 =>
ob (evLd true 5 a h13) fun d =>
ob (evFa 2 b) fun e =>
ob (evLd false 1 e h13) fun j =>
ofp (y4l E (yb E) 0 none true 48 [d, j] h13) fun f7 =>
oh (y9 E (yb E) 0 none true 48 [d, j] h13) fun r h14 =>
ob (y8 .eql p r) fun k =>
okK (yg [(ids1 a, []), ([], []), (ids1 i, []), f3, (ids1 a, []), ([], []), (ids1 e, []), f7, ([], []), ([], [])] [(3, 4), (3, 6)]) <|
(yf h14 k))
 ((y1t a b t l o m h))
def y1wo (s : St) : OX := y1o (s 2) (s 3) (s 8) (s 9) (s 10) (s 55) (s 73) s.h
theorem y1c1 : T1 yuu y11 (y5 2 y11 xN) [.t 4] y1wo := fun s => (y1b rfl (y190 s)).trans (by kernel_rfl)
def y1n (b d i c g a : AV) (h : Heap) : OX :=
ob (y8 .eql a (.int .i64 4)) fun e =>
(y1o b d i c g a e h)
def y20i (s : St) : OX := y1n (s 2) (s 3) (s 8) (s 9) (s 10) (s 55) s.h
theorem y1b5 : T1 yry y11 (y5 2 y11 xN) [.t 4] y20i := sq y1c1 fun _ => by kernel_rfl
def y1j (d b j k g l o : AV) (h : Heap) : OX :=
cnd o
 (ob (evLd true 5 d h) fun u =>
ob (evFa 1 b) fun e =>
ob (evLd false 1 e h) fun w =>
oh (y9 E (yb E) 0 none true 48 [u, w] h) fun t h15 =>
ob (y8 .eql t (.int .i64 2)) fun a =>
gb a false (evFa 5 b) fun p =>
gb a false (evLd false 1 p h15) fun i =>
gb a false (y8 .geq i (.int .i64 (-2147483648))) fun m =>
gb a false (some m) fun c =>
gb c true (evFa 5 b) fun v =>
gb c true (evLd false 1 v h15) fun x =>
gb c true (y8 .lss x (.int .i64 2147483648)) fun y =>
gb a false (yd c y (.bool false)) fun n =>
ob (yd a (.bool true) n) fun r =>
(yf h15 r))
 ((y1n d b j k g l h))
def y1xa (s : St) : OX := y1j (s 2) (s 3) (s 8) (s 9) (s 10) (s 55) (s 56) s.h
theorem y1bz : T1 ytq y11 (y5 2 y11 xN) [.t 4] y1xa := fun s => (y1b rfl (y1b5 s)).trans (by kernel_rfl)
def y1g (c e i d g a : AV) (h : Heap) : OX :=
ob (y8 .eql a (.int .i64 1)) fun b =>
(y1j c e i d g a b h)
def yxa (s : St) : OX := y1g (s 2) (s 3) (s 8) (s 9) (s 10) (s 55) s.h
theorem y1bd : T1 yre y11 (y5 2 y11 xN) [.t 4] yxa := sq y1bz fun _ => by kernel_rfl
theorem y1ao : T1 yug y11 xN [.t 4] yxa := fun s => yy.trans (y1bd s)
def yfw (b a i d g : AV) (h : Heap) : OX :=
ob (evFa 0 a) fun c =>
ob (evLd false 1 c h) fun e =>
(y1g b a i d g e h)
def y164 (s : St) : OX := yfw (s 2) (s 3) (s 8) (s 9) (s 10) s.h
theorem y1cj : T1 yrb y11 xN [.t 4] y164 := sq y1ao fun _ => by kernel_rfl
theorem y19c : T0 yr3 [.t 4] y164 := sq y1gi y1cj
def yik (d a u k p : AV) (h : Heap) : OX :=
ob (evFa 5 a) fun i =>
ob (evLd false 1 i h) fun m =>
ob (y8 .geq m (.int .i64 0)) fun b =>
gb b true (evFa 5 a) fun l =>
gb b true (evLd false 1 l h) fun t =>
gb b true (y8 .lss t (.int .i64 1000)) fun n =>
ob (yd b n (.bool false)) fun e =>
cnd e
 (ob (evFa 5 a) fun o =>
ob (evLd false 1 o h) fun r =>
oh (y9 E (yb E) 0 none true 66 [r] h) fun c h16 =>
ob (y40 0 c) fun j =>
ob (y40 1 c) fun v =>
ob (y40 2 c) fun g =>
(yfw d a j v g h16))
 ((yfw d a u k p h))
def y1xi (s : St) : OX := yik (s 2) (s 3) (s 8) (s 9) (s 10) s.h
theorem y19a : T0 yso [.t 4] y1xi := sq y19c fun _ => by kernel_rfl
def ykh (a b : AV) (h : Heap) : OX :=
(yik a b (.int .i64 0) (.int .i64 0) (.int .i64 0) h)
def y5d (s : St) : OX := ykh (s 2) (s 3) s.h
theorem y19e : T0 yrw [.t 4] y5d := sq y19a fun _ => by kernel_rfl
def y5e (b c a e d : AV) (h : Heap) : OX :=
  W E 0 yfg ⟨[(2, b), (3, c), (5, a), (6, e), (7, d)], h⟩ y5d (y5 0 y5d xN) (finP [.t 4])
def y89 (s : St) : OX := y5e (s 2) (s 3) (s 5) (s 6) (s 7) s.h
theorem yl1 : T1 yfg y5d (y5 0 y5d xN) [.t 4] y89 := fun s => yj.trans (by kernel_rfl)
def yos (c d b g e : AV) (h : Heap) : OX :=
ob (y8 .add e (.int .i64 1)) fun a =>
(y5e c d b g a h)
def y23l (s : St) : OX := yos (s 2) (s 3) (s 5) (s 6) (s 7) s.h
theorem y1ae : T1 yr7 y89 (y5 0 y5d xN) [.t 4] y23l := fun _ => by kernel_rfl
def yv4 (c e b d a : AV) (h : Heap) : OX :=
ob (evLd true 5 c h) fun m =>
ob (yw 1 d a) fun j =>
ob (evLd false 1 j h) fun l =>
ob (y5o b a) fun g =>
oh (y9 E (yb E) 0 none true 65 [m, l, g] h) fun i h17 =>
ob (evUn .not i) fun k =>
cnd k
 ((yf h17 (.bool false)))
 ((yos c e b d a h17))
def y21h (s : St) : OX := yv4 (s 2) (s 3) (s 5) (s 6) (s 7) s.h
theorem y18y : T1 yq1 y89 (y5 0 y5d xN) [.t 4] y21h := sq y1ae fun _ => by kernel_rfl
def yfh (a b d e c : AV) (h : Heap) : OX :=
ob (y8 .lss c (.int .i64 4)) fun g =>
cnd g
 ((yv4 a b d e c h))
 ((ykh a b h))
def y1yg (s : St) : OX := yfh (s 2) (s 3) (s 5) (s 6) (s 7) s.h
theorem y1cl : T1 yq3 y89 (y5 0 y5d xN) [.t 4] y1yg := sq y18y fun _ => by kernel_rfl
theorem yib (b c a e d : AV) (h : Heap) : y5e b c a e d h = (yfh b c a e d h) :=
  y28.trans ((y1c _ _ _ (n' := y89) (fun s => yl1 s)).trans ((y1cl _).trans (by kernel_rfl)))
theorem y1br : T1 yt9 y5d xN [.t 4] y89 := fun s => yy.trans (yl1 s)
def yv0 (a b d c : AV) (h : Heap) : OX :=
(y5e a b d c (.int .i64 0) h)
def y0j (s : St) : OX := yv0 (s 2) (s 3) (s 5) (s 6) s.h
theorem y1au : T1 ysv y5d xN [.t 4] y0j := sq y1br fun _ => by kernel_rfl
theorem y1al : T0 yqp [.t 4] y0j := sq y19e y1au
def ywo (e a d : AV) (h : Heap) : OX :=
ob (evFa 1 a) fun c =>
ob (evLd false 1 c h) fun l =>
ob (evFa 2 a) fun b =>
ob (evLd false 1 b h) fun k =>
ob (evFa 3 a) fun g =>
ob (evLd false 1 g h) fun j =>
ob (evFa 4 a) fun n =>
ob (evLd false 1 n h) fun i =>
oh (y12 0 (some 2) 1 4 [(.int .i64 0)] [(0, l), (1, k), (2, j), (3, i)] h) fun m h18 =>
(yv0 e a d m h18)
def y1x1 (s : St) : OX := ywo (s 2) (s 3) (s 5) s.h
theorem y1am : T0 ysa [.t 4] y1x1 := sq y1al fun _ => by kernel_rfl
def yi6 (b d a : AV) (h : Heap) : OX :=
ob (y8 .eql a (AV.str [])) fun c =>
cnd c
 ((yf h (.bool false)))
 ((ywo b d a h))
def y1xt (s : St) : OX := yi6 (s 2) (s 3) (s 5) s.h
theorem y1b8 : T0 yu2 [.t 4] y1xt := sq y1am fun _ => by kernel_rfl
def yhr (b a : AV) (h : Heap) : OX :=
ob (evFa 0 a) fun c =>
ob (evLd false 1 c h) fun e =>
oh (y9 E (yb E) 0 none true 38 [e] h) fun d h19 =>
(yi6 b a d h19)
def y1yo (s : St) : OX := yhr (s 2) (s 3) s.h
theorem y1c4 : T0 yql [.t 4] y1yo := sq y1b8 fun _ => by kernel_rfl
def yfk (a c : AV) (h : Heap) : OX :=
oh (newC 0 (some 0) (cellsOf a) h) fun b h20 =>
oh (newC 0 (some 1) (cellsOf c) h20) fun d h21 =>
(yhr b d h21)
def y23i (s : St) : OX := yfk (s 0) (s 1) s.h
theorem y19k : T0 yuf [.t 4] y23i := sq y1c4 fun _ => by kernel_rfl
@[simp] theorem y2p5 : E.pure 64 = true := rfl
theorem y2jj (a b : AV) : (yb E).p 64 [a, b] = yfk a b [⟨0, .dead⟩, ⟨0, .dead⟩, ⟨0, .dead⟩] :=
  (y15 (cf := y27i) (by kernel_rfl) rfl).trans ((y19k _).trans (by kernel_rfl))
def y1tl (a : AV) (h : Heap) : OX :=
oh (y12 0 (some 0) 1 3 [(.int .i64 0)] [(0, (.int .i64 27)), (1, (.int .i64 28)), (2, (.int .i64 29))] h) fun c h1 =>
oh (y9 E (yb E) 0 none true 42 [a, c] h1) fun b h2 =>
(yf h2 b)
def y2bu (s : St) : OX := y1tl (s 0) s.h
theorem y1ij : T0 yzl [.t 2] y2bu := fun _ => by kernel_rfl
@[simp] theorem y2qu : E.pure 23 = true := rfl
theorem y2h8 (a : AV) : (yb E).p 23 [a] = y1tl a [⟨0, .dead⟩] :=
  (y15 (cf := y274) (by kernel_rfl) rfl).trans ((y1ij _).trans (by kernel_rfl))
def y1w8 (j b : AV) (h : Heap) : OX :=
oh (newC 0 (some 0) (cellsOf j) h) fun c h1 =>
ob (y8 .geq b (.int .i64 0)) fun a =>
gb a true (some b) fun l =>
gb a true (evFa 3 c) fun g =>
gb a true (evLd false 1 g h1) fun k =>
gb a true (y10 1 k h1) fun d =>
gb a true (y8 .lss l d) fun i =>
ob (yd a i (.bool false)) fun e =>
(yf h1 e)
def y2bi (s : St) : OX := y1w8 (s 0) (s 1) s.h
theorem y1uf : T0 y16r [.t 4] y2bi := fun _ => by kernel_rfl
@[simp] theorem y2qx : E.pure 49 = true := rfl
theorem y2lz (a b : AV) : (yb E).p 49 [a, b] = y1w8 a b [⟨0, .dead⟩] :=
  (y15 (cf := y26w) (by kernel_rfl) rfl).trans ((y1uf _).trans (by kernel_rfl))
def y1rt (a : AV) (h : Heap) : OX :=
oh (y12 0 (some 0) 1 0 [(.bool false)] [] h) fun c h1 =>
oh (y3y 0 (some 1) 1 1 c a h1) fun b h2 =>
(yf h2 b)
def y2dn (s : St) : OX := y1rt (s 0) s.h
theorem y1ny : T0 yyc [.t 2] y2dn := fun _ => by kernel_rfl
def y1m3 (a : AV) (h : Heap) : OX :=
ob (y4q 1 false a AV.nils) fun b =>
cnd b
 ((yf h AV.nils))
 ((y1rt a h))
def y2ek (s : St) : OX := y1m3 (s 0) s.h
theorem y1er : T0 yzx [.t 2] y2ek := sq y1ny fun _ => by kernel_rfl
def y1q3 (a : AV) (h : Heap) : OX :=
(y1m3 a h)
def y2et (s : St) : OX := y1q3 (s 0) s.h
theorem y1gm : T0 y13t [.t 2] y2et := sq y1er fun _ => by kernel_rfl
@[simp] theorem y2nq : E.pure 78 = true := rfl
theorem y2kb (a : AV) : (yb E).p 78 [a] = y1q3 a [⟨0, .dead⟩, ⟨0, .dead⟩] :=
  (y15 (cf := y264) (by kernel_rfl) rfl).trans ((y1gm _).trans (by kernel_rfl))
def y1dw (fb : Nat) (a : AV) (h : Heap) : Option (AV × Heap) :=
(some (a, h))
def y263 (fb : Nat) (s : St) : Option (AV × Heap) := y1dw fb (s 3) s.h
theorem y236 (fb : Nat) (s : St) : W E fb y1hm s (finI [.t 8]) xN (finI [.t 8]) = y263 fb s :=
  by kernel_rfl
def y19i (fb : Nat) (e a c : AV) (h : Heap) : Option (AV × Heap) :=
cnd c
 (oh (y12 fb (some 3) 1 1 [(.int .i64 0)] [(0, e)] h) fun b h1 =>
oh (y3y fb (some 4) 1 8 a b h1) fun d h2 =>
(y1dw fb d h2))
 ((y1dw fb a h))
def y9k (fb : Nat) (s : St) : Option (AV × Heap) := y19i fb (s 1) (s 3) (s 9) s.h
theorem y1ws (fb : Nat) (s : St) : W E fb y1ra s (finI [.t 8]) xN (finI [.t 8]) = y9k fb s :=
  (yek (k := (y263 fb)) (fun s => y236 fb s)).trans (by kernel_rfl)
def yr4 (fb : Nat) (g j c e d i b a : AV) (h : Heap) : Option (AV × Heap) :=
  W E fb ypg ⟨[(0, g), (1, j), (2, c), (3, e), (9, d), (29, i), (30, b), (31, a)], h⟩ (y9k fb) (y5 0 (y9k fb) xN) (finI [.t 8])
def yat (fb : Nat) (s : St) : Option (AV × Heap) := yr4 fb (s 0) (s 1) (s 2) (s 3) (s 9) (s 29) (s 30) (s 31) s.h
theorem ytr (fb : Nat) (s : St) : W E fb ypg s (y9k fb) (y5 0 (y9k fb) xN) (finI [.t 8]) = yat fb s := yj.trans (by kernel_rfl)
def y1be (fb : Nat) (i k c g e j b a : AV) (h : Heap) : Option (AV × Heap) :=
ob (y8 .add a (.int .i64 1)) fun d =>
(yr4 fb i k c g e j b d h)
def y25t (fb : Nat) (s : St) : Option (AV × Heap) := y1be fb (s 0) (s 1) (s 2) (s 3) (s 9) (s 29) (s 30) (s 31) s.h
theorem y1z6 (fb : Nat) (s : St) : W E fb y1lw s (yat fb) (y5 0 (y9k fb) xN) (finI [.t 8]) = y25t fb s :=
  by kernel_rfl
def y1km (fb : Nat) (e g c i r d j b : AV) (h : Heap) : Option (AV × Heap) :=
ob (yw 1 d b) fun w =>
ob (evLd false 1 w h) fun a =>
gb a true (some c) fun o =>
gb a true (some b) fun v =>
gb a true (yw 1 o v) fun t =>
gb a true (evLd false 1 t h) fun p =>
gb a true (evUn .not p) fun m =>
ob (yd a m (.bool false)) fun l =>
cnd l
 (ob (yw 1 e g) fun u =>
ob (evLd false 1 u h) fun k =>
ob (yw 1 k b) fun n =>
oh (evSt 1 n (.bool false) h) fun _ h3 =>
(y1be fb e g c i (.bool true) d j b h3))
 ((y1be fb e g c i r d j b h))
def y26e (fb : Nat) (s : St) : Option (AV × Heap) := y1km fb (s 0) (s 1) (s 2) (s 3) (s 9) (s 29) (s 30) (s 31) s.h
theorem y217 (fb : Nat) (s : St) : W E fb y1ig s (yat fb) (y5 0 (y9k fb) xN) (finI [.t 8]) = y26e fb s :=
  (yek (k := (y25t fb)) (fun s => y1z6 fb s)).trans (by kernel_rfl)
def y19v (fb : Nat) (i c g b a k e d j : AV) (h : Heap) : Option (AV × Heap) :=
cnd j
 ((y1km fb i c g b a k e d h))
 ((y19i fb c b a h))
def y273 (fb : Nat) (s : St) : Option (AV × Heap) := y19v fb (s 0) (s 1) (s 2) (s 3) (s 9) (s 29) (s 30) (s 31) (s 32) s.h
theorem y233 (fb : Nat) (s : St) : W E fb y1jx s (yat fb) (y5 0 (y9k fb) xN) (finI [.t 8]) = y273 fb s :=
  (yek (k := (y26e fb)) (fun s => y217 fb s)).trans (by kernel_rfl)
def y19y (fb : Nat) (g k c e d j b a : AV) (h : Heap) : Option (AV × Heap) :=
ob (y8 .lss a b) fun i =>
(y19v fb g k c e d j b a i h)
def y2m3 (fb : Nat) (s : St) : Option (AV × Heap) := y19y fb (s 0) (s 1) (s 2) (s 3) (s 9) (s 29) (s 30) (s 31) s.h
theorem y20k (fb : Nat) (s : St) : W E fb y1m2 s (yat fb) (y5 0 (y9k fb) xN) (finI [.t 8]) = y2m3 fb s :=
  (yek (k := (y273 fb)) (fun s => y233 fb s)).trans (by kernel_rfl)
theorem yq0 (fb : Nat) (g j c e d i b a : AV) (h : Heap) : yr4 fb g j c e d i b a h = (y19y fb g j c e d i b a h) :=
  y28.trans ((y1c _ _ _ (n' := (yat fb)) (fun s => ytr fb s)).trans ((y20k fb _).trans (by kernel_rfl)))
theorem y25g (fb : Nat) (s : St) : W E fb y1lp s (y9k fb) xN (finI [.t 8]) = yat fb s :=
  yy.trans (ytr fb s)
def y2g5 (fb : Nat) (a c g j i : AV) (h : Heap) : Option (AV × Heap) :=
ob (yw 1 a c) fun d =>
ob (evLd false 1 d h) fun b =>
ob (y10 1 b h) fun e =>
(yr4 fb a c g j i b e (.int .i64 0) h)
def y1f4 (fb : Nat) (s : St) : Option (AV × Heap) := y2g5 fb (s 0) (s 1) (s 2) (s 3) (s 9) s.h
theorem y1z5 (fb : Nat) (s : St) : W E fb y1jq s (y9k fb) xN (finI [.t 8]) = y1f4 fb s :=
  (yek (k := (yat fb)) (fun s => y25g fb s)).trans (by kernel_rfl)
theorem y1qd (fb : Nat) (s : St) : W E fb yxo s (finI [.t 8]) xN (finI [.t 8]) = y1f4 fb s :=
  (yek (k := (y9k fb)) (fun s => y1ws fb s)).trans (y1z5 fb s)
def y1gy (fb : Nat) (a c b d : AV) (h : Heap) : Option (AV × Heap) :=
(y2g5 fb a c b d (.bool false) h)
def y1j2 (fb : Nat) (s : St) : Option (AV × Heap) := y1gy fb (s 0) (s 1) (s 2) (s 3) s.h
theorem y1lf (fb : Nat) (s : St) : W E fb yyf s (finI [.t 8]) xN (finI [.t 8]) = y1j2 fb s :=
  (yek (k := (y1f4 fb)) (fun s => y1qd fb s)).trans (by kernel_rfl)
def ymh (fb : Nat) (b a c d : AV) (h : Heap) : Option (AV × Heap) :=
ob (yw 1 b a) fun e =>
ob (evLd false 1 e h) fun k =>
ob (y4q 1 false k AV.nils) fun i =>
cnd i
 (oh (y9 E (yb E) fb (some 0) false 78 [c] h) fun j h4 =>
ob (yw 1 b a) fun l =>
oh (evSt 1 l j h4) fun _ h5 =>
oh (y12 fb (some 1) 1 1 [(.int .i64 0)] [(0, a)] h5) fun m h6 =>
oh (y3y fb (some 2) 1 8 d m h6) fun g h7 =>
(some (g, h7)))
 ((y1gy fb b a c d h))
def y1ha (fb : Nat) (s : St) : Option (AV × Heap) := ymh fb (s 0) (s 1) (s 2) (s 3) s.h
theorem y1nn (fb : Nat) (s : St) : W E fb yyb s (finI [.t 8]) xN (finI [.t 8]) = y1ha fb s :=
  (yek (k := (y1j2 fb)) (fun s => y1lf fb s)).trans (by kernel_rfl)
def y27r (fb : Nat) (a c b d : AV) (h : Heap) : Option (AV × Heap) :=
(ymh fb a c b d h)
def y2bo (fb : Nat) (s : St) : Option (AV × Heap) := y27r fb (s 0) (s 1) (s 2) (s 3) s.h
theorem y1o9 (fb : Nat) (s : St) : W E fb yxp s (finI [.t 8]) xN (finI [.t 8]) = y2bo fb s :=
  (yek (k := (y1ha fb)) (fun s => y1nn fb s)).trans (by kernel_rfl)
@[simp] theorem y2qv : E.pure 80 = false := rfl
theorem y2od (fb : Nat) (a c b d : AV) (h : Heap) : (yb E).i 80 [a, c, b, d] fb h = y27r fb a c b d (if fb = h.length then h ++ yv 5 else h) :=
  (y1l0 (cf := y2i8) (by kernel_rfl) rfl).trans ((y1o9 fb _).trans (by kernel_rfl))
def y28l (e : AV) (h : Heap) : OX :=
oh (newC 0 (some 0) (cellsOf e) h) fun b h1 =>
ob (evFa 0 b) fun d =>
ob (evLd false 1 d h1) fun k =>
ob (y8 .geq k (.int .i64 23)) fun a =>
gb a true (evFa 0 b) fun g =>
gb a true (evLd false 1 g h1) fun j =>
gb a true (y8 .leq j (.int .i64 26)) fun c =>
ob (yd a c (.bool false)) fun i =>
(yf h1 i)
def y2ls (s : St) : OX := y28l (s 0) s.h
theorem y24u : T0 y1n9 [.t 2] y2ls := fun _ => by kernel_rfl
@[simp] theorem ywx : E.pure 17 = true := rfl
theorem y2pw (a : AV) : (yb E).p 17 [a] = y28l a [⟨0, .dead⟩] :=
  (y15 (cf := y2ha) (by kernel_rfl) rfl).trans ((y24u _).trans (by kernel_rfl))
def ylr (h : Heap) : OX :=
(yf h (.int .i64 (-1)))
def y6e (s : St) : OX := ylr s.h
theorem y1ve : T0 yxy [.t 4] y6e := fun _ => by kernel_rfl
def yj4 (a d b c : AV) (h : Heap) : OX :=
  W E 0 ykb ⟨[(0, a), (1, d), (7, b), (8, c)], h⟩ y6e (y5 0 y6e xN) (finP [.t 4])
def y8d (s : St) : OX := yj4 (s 0) (s 1) (s 7) (s 8) s.h
theorem yoa : T1 ykb y6e (y5 0 y6e xN) [.t 4] y8d := fun s => yj.trans (by kernel_rfl)
def ymn (b e c d : AV) (h : Heap) : OX :=
ob (y8 .add d (.int .i64 1)) fun a =>
(yj4 b e c a h)
def y2co (s : St) : OX := ymn (s 0) (s 1) (s 7) (s 8) s.h
theorem y1r1 : T1 y11o y8d (y5 0 y6e xN) [.t 4] y2co := fun _ => by kernel_rfl
def yoc (b c g a : AV) (h : Heap) : OX :=
ob (yw 1 b a) fun d =>
ob (evLd false 1 d h) fun i =>
ob (y8 .eql c i) fun e =>
cnd e
 ((yf h a))
 ((ymn b c g a h))
def y2at (s : St) : OX := yoc (s 0) (s 1) (s 7) (s 8) s.h
theorem y1n8 : T1 yyg y8d (y5 0 y6e xN) [.t 4] y2at := sq y1r1 fun _ => by kernel_rfl
def yo6 (b e c d a : AV) (h : Heap) : OX :=
cnd a
 ((yoc b e c d h))
 ((ylr h))
def y294 (s : St) : OX := yo6 (s 0) (s 1) (s 7) (s 8) (s 9) s.h
theorem y1gp : T1 yz6 y8d (y5 0 y6e xN) [.t 4] y294 := sq y1n8 fun _ => by kernel_rfl
def yo1 (d e a b : AV) (h : Heap) : OX :=
ob (y8 .lss b a) fun c =>
(yo6 d e a b c h)
def y2cm (s : St) : OX := yo1 (s 0) (s 1) (s 7) (s 8) s.h
theorem y1e8 : T1 y185 y8d (y5 0 y6e xN) [.t 4] y2cm := sq y1gp fun _ => by kernel_rfl
theorem yn3 (a d b c : AV) (h : Heap) : yj4 a d b c h = (yo1 a d b c h) :=
  y28.trans ((y1c _ _ _ (n' := y8d) (fun s => yoa s)).trans ((y1e8 _).trans (by kernel_rfl)))
theorem y1mh : T1 y0o y6e xN [.t 4] y8d := fun s => yy.trans (yoa s)
def yn4 (a c : AV) (h : Heap) : OX :=
ob (y10 1 a h) fun b =>
(yj4 a c b (.int .i64 0) h)
def y1gk (s : St) : OX := yn4 (s 0) (s 1) s.h
theorem y1n7 : T1 yzy y6e xN [.t 4] y1gk := sq y1mh fun _ => by kernel_rfl
theorem y1wa : T0 yx0 [.t 4] y1gk := sq y1ve y1n7
def yfb (a b : AV) (h : Heap) : OX :=
(yn4 a b h)
def y25h (s : St) : OX := yfb (s 0) (s 1) s.h
theorem y1a5 : T0 ysb [.t 4] y25h := sq y1wa fun _ => by kernel_rfl
@[simp] theorem y2qe : E.pure 45 = true := rfl
theorem y2mg (a b : AV) : (yb E).p 45 [a, b] = yfb a b [] :=
  (y15 (cf := y26b) (by kernel_rfl) rfl).trans ((y1a5 _).trans (by kernel_rfl))
def yh3 (g a : AV) (h : Heap) : OX :=
ob (evLd true 9 g h) fun d =>
oh (y9 E (yb E) 0 none true 51 [d] h) fun b h1 =>
ob (y40 0 b) fun e =>
ob (y40 1 b) fun c =>
oh (evSt 4 a e h1) fun _ h2 =>
(ob (evLd true 4 a h2) fun r0 =>
  yf h2 (.tup [r0, c]))
def yl (s : St) : OX := yh3 (s 1) (s 2) s.h
theorem y1xn : T0 y1mn [.cell 2 true 4, .t 3] yl := fun _ => by kernel_rfl
def yfc (c a b : AV) (h : Heap) : OX :=
cnd b
 (ob (y13 [(.int .i64 0), (.int .i64 0), (.int .i64 0), (.int .i64 0)] [(0, 1, (.int .i64 (-1))), (1, 1, (.int .i64 (-1))), (2, 1, (.int .i64 (-1))), (3, 1, (.int .i64 (-1)))]) fun d =>
oh (evSt 4 a d h) fun _ h3 =>
(ob (evLd true 4 a h3) fun r0 =>
  yf h3 (.tup [r0, (.bool true)])))
 ((yh3 c a h))
def y2i4 (s : St) : OX := yfc (s 1) (s 2) (s 134) s.h
theorem y1yj : T1 y1kh yl (y5 0 yl xN) [.cell 2 true 4, .t 3] y2i4 := fun _ => by kernel_rfl
def ygx (d b c : AV) (h : Heap) : OX :=
ob (y8 .eql c (.int .i64 27)) fun a =>
cnd a
 ((yfc d b a h))
 (ob (y8 .eql c (.int .i64 33)) fun e =>
(yfc d b e h))
def y2kg (s : St) : OX := ygx (s 1) (s 2) (s 11) s.h
theorem y23g : T1 y1vx yl (y5 0 yl xN) [.cell 2 true 4, .t 3] y2kg := sq y1yj fun _ => by kernel_rfl
def yh4 (c b i n : AV) (h : Heap) : OX :=
cnd n
 (ob (y13 [(.int .i64 0), (.int .i64 0), (.int .i64 0), (.int .i64 0)] [(0, 1, (.int .i64 (-1))), (1, 1, (.int .i64 1)), (2, 1, (.int .i64 1)), (3, 1, (.int .i64 (-1)))]) fun m =>
ob (evFa 5 c) fun e =>
ob (evLd false 1 e h) fun l =>
ob (y8 .geq l (.int .i64 0)) fun a =>
ofp (fgd a true (some ([], []))) fun f5 =>
gb a true (evFa 5 c) fun d =>
ofp (fgd a true (some (ids1 d, []))) fun f6 =>
gb a true (evLd false 1 d h) fun g =>
ofp (fgd a true (some ([], []))) fun f7 =>
gb a true (y8 .leq g (.int .i64 5)) fun j =>
ob (yd a j (.bool false)) fun k =>
oh (evSt 4 b m h) fun _ h4 =>
okK (yg [([], []), ([], []), (ids1 e, []), ([], []), ([], []), f5, f6, f7, ([], []), ([], ids1 b), ([], [])] [(6, 9)]) <|
(ob (evLd true 4 b h4) fun r0 =>
  yf h4 (.tup [r0, k])))
 ((ygx c b i h))
def y2i1 (s : St) : OX := yh4 (s 1) (s 2) (s 11) (s 123) s.h
theorem y23u : T1 y1ks yl (y5 0 yl xN) [.cell 2 true 4, .t 3] y2i1 := fun s => (y1b rfl (y23g s)).trans (by kernel_rfl)
def yh1 (d b a : AV) (h : Heap) : OX :=
ob (y8 .eql a (.int .i64 28)) fun c =>
(yh4 d b a c h)
def y2m7 (s : St) : OX := yh1 (s 1) (s 2) (s 11) s.h
theorem y1xl : T1 y1i6 yl (y5 0 yl xN) [.cell 2 true 4, .t 3] y2m7 := sq y23u fun _ => by kernel_rfl
def yh5 (b a d c : AV) (h : Heap) : OX :=
cnd c
 (ob (y13 [(.int .i64 0), (.int .i64 0), (.int .i64 0), (.int .i64 0)] [(0, 1, (.int .i64 3)), (1, 1, (.int .i64 1)), (2, 1, (.int .i64 (-1))), (3, 1, (.int .i64 (-1)))]) fun i =>
ob (evFa 7 b) fun e =>
ob (evLd false 1 e h) fun g =>
oh (y9 E (yb E) 0 none true 37 [g] h) fun j h5 =>
oh (evSt 4 a i h5) fun _ h6 =>
(ob (evLd true 4 a h6) fun r0 =>
  yf h6 (.tup [r0, j])))
 ((yh1 b a d h))
def y2k6 (s : St) : OX := yh5 (s 1) (s 2) (s 11) (s 117) s.h
theorem y237 : T1 y1p6 yl (y5 0 yl xN) [.cell 2 true 4, .t 3] y2k6 := fun s => (y1b rfl (y1xl s)).trans (by kernel_rfl)
def yh6 (d b a : AV) (h : Heap) : OX :=
ob (y8 .eql a (.int .i64 21)) fun c =>
(yh5 d b a c h)
def y2lj (s : St) : OX := yh6 (s 1) (s 2) (s 11) s.h
theorem y200 : T1 y1ps yl (y5 0 yl xN) [.cell 2 true 4, .t 3] y2lj := sq y237 fun _ => by kernel_rfl
def yh7 (e a c b : AV) (h : Heap) : OX :=
cnd b
 (ob (y13 [(.int .i64 0), (.int .i64 0), (.int .i64 0), (.int .i64 0)] [(0, 1, (.int .i64 (-1))), (1, 1, (.int .i64 0)), (2, 1, (.int .i64 (-1))), (3, 1, (.int .i64 (-1)))]) fun d =>
oh (evSt 4 a d h) fun _ h7 =>
(ob (evLd true 4 a h7) fun r0 =>
  yf h7 (.tup [r0, (.bool true)])))
 ((yh6 e a c h))
def y2kz (s : St) : OX := yh7 (s 1) (s 2) (s 11) (s 114) s.h
theorem y1zc : T1 y1d5 yl (y5 0 yl xN) [.cell 2 true 4, .t 3] y2kz := fun s => (y1b rfl (y200 s)).trans (by kernel_rfl)
def yh2 (d b a : AV) (h : Heap) : OX :=
ob (y8 .eql a (.int .i64 19)) fun c =>
(yh7 d b a c h)
def y2i5 (s : St) : OX := yh2 (s 1) (s 2) (s 11) s.h
theorem y1zh : T1 y1u3 yl (y5 0 yl xN) [.cell 2 true 4, .t 3] y2i5 := sq y1zc fun _ => by kernel_rfl
def y9g (c a e g : AV) (h : Heap) : OX :=
cnd g
 (ob (y13 [(.int .i64 0), (.int .i64 0), (.int .i64 0), (.int .i64 0)] [(0, 1, (.int .i64 (-1))), (1, 1, (.int .i64 3)), (2, 1, (.int .i64 0)), (3, 1, (.int .i64 (-1)))]) fun d =>
ob (evFa 5 c) fun b =>
ob (evLd false 1 b h) fun j =>
ob (y8 .geq j (.int .i64 0)) fun i =>
oh (evSt 4 a d h) fun _ h8 =>
okK (yg [([], []), ([], []), (ids1 b, []), ([], []), ([], ids1 a), ([], [])] [(2, 4)]) <|
(ob (evLd true 4 a h8) fun r0 =>
  yf h8 (.tup [r0, i])))
 ((yh2 c a e h))
def y2fo (s : St) : OX := y9g (s 1) (s 2) (s 11) (s 108) s.h
theorem y1ok : T1 y15x yl (y5 0 yl xN) [.cell 2 true 4, .t 3] y2fo := fun s => (y1b rfl (y1zh s)).trans (by kernel_rfl)
def ya3 (d b a : AV) (h : Heap) : OX :=
ob (y8 .eql a (.int .i64 17)) fun c =>
(y9g d b a c h)
def y2dp (s : St) : OX := ya3 (s 1) (s 2) (s 11) s.h
theorem y1jd : T1 yz4 yl (y5 0 yl xN) [.cell 2 true 4, .t 3] y2dp := sq y1ok fun _ => by kernel_rfl
def y9c (c a d i : AV) (h : Heap) : OX :=
cnd i
 (ob (y13 [(.int .i64 0), (.int .i64 0), (.int .i64 0), (.int .i64 0)] [(0, 1, (.int .i64 0)), (1, 1, (.int .i64 3)), (2, 1, (.int .i64 (-1))), (3, 1, (.int .i64 (-1)))]) fun g =>
ob (evFa 5 c) fun b =>
ob (evLd false 1 b h) fun j =>
ob (y8 .geq j (.int .i64 0)) fun e =>
oh (evSt 4 a g h) fun _ h9 =>
okK (yg [([], []), ([], []), (ids1 b, []), ([], []), ([], ids1 a), ([], [])] [(2, 4)]) <|
(ob (evLd true 4 a h9) fun r0 =>
  yf h9 (.tup [r0, e])))
 ((ya3 c a d h))
def y2bv (s : St) : OX := y9c (s 1) (s 2) (s 11) (s 102) s.h
theorem y1dm : T1 y12q yl (y5 0 yl xN) [.cell 2 true 4, .t 3] y2bv := fun s => (y1b rfl (y1jd s)).trans (by kernel_rfl)
def y9h (d b a : AV) (h : Heap) : OX :=
ob (y8 .eql a (.int .i64 16)) fun c =>
(y9c d b a c h)
def y27x (s : St) : OX := y9h (s 1) (s 2) (s 11) s.h
theorem y1hc : T1 y18o yl (y5 0 yl xN) [.cell 2 true 4, .t 3] y27x := sq y1dm fun _ => by kernel_rfl
def y9x (d a c b : AV) (h : Heap) : OX :=
cnd b
 (ob (y13 [(.int .i64 0), (.int .i64 0), (.int .i64 0), (.int .i64 0)] [(0, 1, (.int .i64 1)), (1, 1, (.int .i64 3)), (2, 1, (.int .i64 (-1))), (3, 1, (.int .i64 (-1)))]) fun e =>
oh (evSt 4 a e h) fun _ h10 =>
(ob (evLd true 4 a h10) fun r0 =>
  yf h10 (.tup [r0, (.bool true)])))
 ((y9h d a c h))
def y2f6 (s : St) : OX := y9x (s 1) (s 2) (s 11) (s 99) s.h
theorem y1dx : T1 y13y yl (y5 0 yl xN) [.cell 2 true 4, .t 3] y2f6 := fun s => (y1b rfl (y1hc s)).trans (by kernel_rfl)
def y9j (d b a : AV) (h : Heap) : OX :=
ob (y8 .eql a (.int .i64 15)) fun c =>
(y9x d b a c h)
def y2an (s : St) : OX := y9j (s 1) (s 2) (s 11) s.h
theorem y1fx : T1 ywz yl (y5 0 yl xN) [.cell 2 true 4, .t 3] y2an := sq y1dx fun _ => by kernel_rfl
def y9l (e a c d : AV) (h : Heap) : OX :=
cnd d
 (ob (y13 [(.int .i64 0), (.int .i64 0), (.int .i64 0), (.int .i64 0)] [(0, 1, (.int .i64 (-1))), (1, 1, (.int .i64 3)), (2, 1, (.int .i64 1)), (3, 1, (.int .i64 0))]) fun b =>
oh (evSt 4 a b h) fun _ h11 =>
(ob (evLd true 4 a h11) fun r0 =>
  yf h11 (.tup [r0, (.bool true)])))
 ((y9j e a c h))
def y29q (s : St) : OX := y9l (s 1) (s 2) (s 11) (s 96) s.h
theorem y1h0 : T1 y11r yl (y5 0 yl xN) [.cell 2 true 4, .t 3] y29q := fun s => (y1b rfl (y1fx s)).trans (by kernel_rfl)
def ya6 (d b a : AV) (h : Heap) : OX :=
ob (y8 .eql a (.int .i64 14)) fun c =>
(y9l d b a c h)
def y2ae (s : St) : OX := ya6 (s 1) (s 2) (s 11) s.h
theorem y1ui : T1 y0c yl (y5 0 yl xN) [.cell 2 true 4, .t 3] y2ae := sq y1h0 fun _ => by kernel_rfl
def ya4 (e a b c : AV) (h : Heap) : OX :=
cnd c
 (ob (y13 [(.int .i64 0), (.int .i64 0), (.int .i64 0), (.int .i64 0)] [(0, 1, (.int .i64 0)), (1, 1, (.int .i64 3)), (2, 1, (.int .i64 1)), (3, 1, (.int .i64 (-1)))]) fun d =>
oh (evSt 4 a d h) fun _ h12 =>
(ob (evLd true 4 a h12) fun r0 =>
  yf h12 (.tup [r0, (.bool true)])))
 ((ya6 e a b h))
def y27w (s : St) : OX := ya4 (s 1) (s 2) (s 11) (s 93) s.h
theorem y1td : T1 y11l yl (y5 0 yl xN) [.cell 2 true 4, .t 3] y27w := fun s => (y1b rfl (y1ui s)).trans (by kernel_rfl)
def y98 (d b a : AV) (h : Heap) : OX :=
ob (y8 .eql a (.int .i64 13)) fun c =>
(ya4 d b a c h)
def y2ac (s : St) : OX := y98 (s 1) (s 2) (s 11) s.h
theorem y1jh : T1 y17m yl (y5 0 yl xN) [.cell 2 true 4, .t 3] y2ac := sq y1td fun _ => by kernel_rfl
def y97 (e a c d : AV) (h : Heap) : OX :=
cnd d
 (ob (y13 [(.int .i64 0), (.int .i64 0), (.int .i64 0), (.int .i64 0)] [(0, 1, (.int .i64 (-1))), (1, 1, (.int .i64 3)), (2, 1, (.int .i64 3)), (3, 1, (.int .i64 (-1)))]) fun b =>
oh (evSt 4 a b h) fun _ h13 =>
(ob (evLd true 4 a h13) fun r0 =>
  yf h13 (.tup [r0, (.bool true)])))
 ((y98 e a c h))
def y28u (s : St) : OX := y97 (s 1) (s 2) (s 11) (s 90) s.h
theorem y1v1 : T1 y16w yl (y5 0 yl xN) [.cell 2 true 4, .t 3] y28u := fun s => (y1b rfl (y1jh s)).trans (by kernel_rfl)
def y9a (d b a : AV) (h : Heap) : OX :=
ob (y8 .eql a (.int .i64 11)) fun c =>
(y97 d b a c h)
def y2bn (s : St) : OX := y9a (s 1) (s 2) (s 11) s.h
theorem y1cs : T1 y123 yl (y5 0 yl xN) [.cell 2 true 4, .t 3] y2bn := sq y1v1 fun _ => by kernel_rfl
def y9v (e a c b : AV) (h : Heap) : OX :=
cnd b
 (ob (y13 [(.int .i64 0), (.int .i64 0), (.int .i64 0), (.int .i64 0)] [(0, 1, (.int .i64 (-1))), (1, 1, (.int .i64 1)), (2, 1, (.int .i64 (-1))), (3, 1, (.int .i64 (-1)))]) fun d =>
oh (evSt 4 a d h) fun _ h14 =>
(ob (evLd true 4 a h14) fun r0 =>
  yf h14 (.tup [r0, (.bool true)])))
 ((y9a e a c h))
def y28s (s : St) : OX := y9v (s 1) (s 2) (s 11) (s 87) s.h
theorem y1qq : T1 yxk yl (y5 0 yl xN) [.cell 2 true 4, .t 3] y28s := fun s => (y1b rfl (y1cs s)).trans (by kernel_rfl)
def y9s (d b a : AV) (h : Heap) : OX :=
ob (y8 .eql a (.int .i64 10)) fun c =>
(y9v d b a c h)
def y2cp (s : St) : OX := y9s (s 1) (s 2) (s 11) s.h
theorem y1f1 : T1 y157 yl (y5 0 yl xN) [.cell 2 true 4, .t 3] y2cp := sq y1qq fun _ => by kernel_rfl
def y9i (e a b c : AV) (h : Heap) : OX :=
cnd c
 (ob (y13 [(.int .i64 0), (.int .i64 0), (.int .i64 0), (.int .i64 0)] [(0, 1, (.int .i64 (-1))), (1, 1, (.int .i64 3)), (2, 1, (.int .i64 1)), (3, 1, (.int .i64 (-1)))]) fun d =>
oh (evSt 4 a d h) fun _ h15 =>
(ob (evLd true 4 a h15) fun r0 =>
  yf h15 (.tup [r0, (.bool true)])))
 ((y9s e a b h))
def y28r (s : St) : OX := y9i (s 1) (s 2) (s 11) (s 84) s.h
theorem y1no : T1 y134 yl (y5 0 yl xN) [.cell 2 true 4, .t 3] y28r := fun s => (y1b rfl (y1f1 s)).trans (by kernel_rfl)
def y9d (d b a : AV) (h : Heap) : OX :=
ob (y8 .eql a (.int .i64 9)) fun c =>
(y9i d b a c h)
def y2f2 (s : St) : OX := y9d (s 1) (s 2) (s 11) s.h
theorem y1r9 : T1 y13u yl (y5 0 yl xN) [.cell 2 true 4, .t 3] y2f2 := sq y1no fun _ => by kernel_rfl
def y9f (b a e g : AV) (h : Heap) : OX :=
cnd g
 (ob (y13 [(.int .i64 0), (.int .i64 0), (.int .i64 0), (.int .i64 0)] [(0, 1, (.int .i64 1)), (1, 1, (.int .i64 3)), (2, 1, (.int .i64 (-1))), (3, 1, (.int .i64 (-1)))]) fun c =>
ob (evFa 7 b) fun j =>
ob (evLd false 1 j h) fun i =>
oh (y9 E (yb E) 0 none true 37 [i] h) fun d h16 =>
oh (evSt 4 a c h16) fun _ h17 =>
(ob (evLd true 4 a h17) fun r0 =>
  yf h17 (.tup [r0, d])))
 ((y9d b a e h))
def y2d6 (s : St) : OX := y9f (s 1) (s 2) (s 11) (s 78) s.h
theorem y1to : T1 y111 yl (y5 0 yl xN) [.cell 2 true 4, .t 3] y2d6 := fun s => (y1b rfl (y1r9 s)).trans (by kernel_rfl)
def y99 (d b a : AV) (h : Heap) : OX :=
ob (y8 .eql a (.int .i64 22)) fun c =>
(y9f d b a c h)
def y2cw (s : St) : OX := y99 (s 1) (s 2) (s 11) s.h
theorem y1kp : T1 y12k yl (y5 0 yl xN) [.cell 2 true 4, .t 3] y2cw := sq y1to fun _ => by kernel_rfl
def y9e (b a e d : AV) (h : Heap) : OX :=
cnd d
 (ob (y13 [(.int .i64 0), (.int .i64 0), (.int .i64 0), (.int .i64 0)] [(0, 1, (.int .i64 (-1))), (1, 1, (.int .i64 3)), (2, 1, (.int .i64 (-1))), (3, 1, (.int .i64 (-1)))]) fun i =>
ob (evFa 7 b) fun g =>
ob (evLd false 1 g h) fun j =>
oh (y9 E (yb E) 0 none true 37 [j] h) fun c h18 =>
oh (evSt 4 a i h18) fun _ h19 =>
(ob (evLd true 4 a h19) fun r0 =>
  yf h19 (.tup [r0, c])))
 ((y99 b a e h))
def y29n (s : St) : OX := y9e (s 1) (s 2) (s 11) (s 72) s.h
theorem y1na : T1 y13d yl (y5 0 yl xN) [.cell 2 true 4, .t 3] y29n := fun s => (y1b rfl (y1kp s)).trans (by kernel_rfl)
def y9r (d b a : AV) (h : Heap) : OX :=
ob (y8 .eql a (.int .i64 12)) fun c =>
(y9e d b a c h)
def y2ce (s : St) : OX := y9r (s 1) (s 2) (s 11) s.h
theorem y1us : T1 y12t yl (y5 0 yl xN) [.cell 2 true 4, .t 3] y2ce := sq y1na fun _ => by kernel_rfl
def y80 (e a b d : AV) (h : Heap) : OX :=
cnd d
 (ob (y13 [(.int .i64 0), (.int .i64 0), (.int .i64 0), (.int .i64 0)] [(0, 1, (.int .i64 (-1))), (1, 1, (.int .i64 3)), (2, 1, (.int .i64 (-1))), (3, 1, (.int .i64 (-1)))]) fun c =>
oh (evSt 4 a c h) fun _ h20 =>
(ob (evLd true 4 a h20) fun r0 =>
  yf h20 (.tup [r0, (.bool true)])))
 ((y9r e a b h))
def y29v (s : St) : OX := y80 (s 1) (s 2) (s 11) (s 68) s.h
theorem y1hf : T1 y16o yl (y5 0 yl xN) [.cell 2 true 4, .t 3] y29v := fun s => (y1b rfl (y1us s)).trans (by kernel_rfl)
def ya0 (c b a : AV) (h : Heap) : OX :=
ob (y8 .eql a (.int .i64 8)) fun d =>
cnd d
 ((y80 c b a d h))
 (ob (y8 .eql a (.int .i64 31)) fun e =>
(y80 c b a e h))
def y2bj (s : St) : OX := ya0 (s 1) (s 2) (s 11) s.h
theorem y1wi : T1 y15p yl (y5 0 yl xN) [.cell 2 true 4, .t 3] y2bj := sq y1hf fun _ => by kernel_rfl
def y95 (e a b c : AV) (h : Heap) : OX :=
cnd c
 (ob (y13 [(.int .i64 0), (.int .i64 0), (.int .i64 0), (.int .i64 0)] [(0, 1, (.int .i64 (-1))), (1, 1, (.int .i64 0)), (2, 1, (.int .i64 (-1))), (3, 1, (.int .i64 (-1)))]) fun d =>
oh (evSt 4 a d h) fun _ h21 =>
(ob (evLd true 4 a h21) fun r0 =>
  yf h21 (.tup [r0, (.bool true)])))
 ((ya0 e a b h))
def y2cs (s : St) : OX := y95 (s 1) (s 2) (s 11) (s 65) s.h
theorem y1cz : T1 y18j yl (y5 0 yl xN) [.cell 2 true 4, .t 3] y2cs := fun s => (y1b rfl (y1wi s)).trans (by kernel_rfl)
def ya5 (d b a : AV) (h : Heap) : OX :=
ob (y8 .eql a (.int .i64 7)) fun c =>
(y95 d b a c h)
def y2d8 (s : St) : OX := ya5 (s 1) (s 2) (s 11) s.h
theorem y1jw : T1 y173 yl (y5 0 yl xN) [.cell 2 true 4, .t 3] y2d8 := sq y1cz fun _ => by kernel_rfl
def y9n (e b l g : AV) (h : Heap) : OX :=
cnd g
 (ob (evFa 5 e) fun m =>
ob (evLd false 1 m h) fun j =>
oh (y9 E (yb E) 0 none true 50 [j] h) fun c h22 =>
ob (y40 0 c) fun d =>
ob (y40 1 c) fun n =>
ob (y40 2 c) fun o =>
ob (y13 [(.int .i64 0), (.int .i64 0), (.int .i64 0), (.int .i64 0)] [(0, 1, o), (1, 1, d), (2, 1, (.int .i64 (-1))), (3, 1, (.int .i64 (-1)))]) fun r =>
ob (y8 .neq d (.int .i64 0)) fun a =>
gb a true (some n) fun k =>
gb a true (y8 .eql k (.int .i64 0)) fun p =>
ob (yd a p (.bool false)) fun i =>
oh (evSt 4 b r h22) fun _ h23 =>
(ob (evLd true 4 b h23) fun r0 =>
  yf h23 (.tup [r0, i])))
 ((ya5 e b l h))
def y2di (s : St) : OX := y9n (s 1) (s 2) (s 11) (s 47) s.h
theorem y1ia : T1 y13i yl (y5 0 yl xN) [.cell 2 true 4, .t 3] y2di := fun s => (y1b rfl (y1jw s)).trans (by kernel_rfl)
def ya8 (d b a : AV) (h : Heap) : OX :=
ob (y8 .eql a (.int .i64 6)) fun c =>
(y9n d b a c h)
def y2b2 (s : St) : OX := ya8 (s 1) (s 2) (s 11) s.h
theorem y1fl : T1 y126 yl (y5 0 yl xN) [.cell 2 true 4, .t 3] y2b2 := sq y1ia fun _ => by kernel_rfl
def y9u (a b m r : AV) (h : Heap) : OX :=
cnd r
 (ob (evFa 5 a) fun p =>
ob (evLd false 1 p h) fun o =>
oh (y9 E (yb E) 0 none true 50 [o] h) fun d h24 =>
ob (y40 0 d) fun u =>
ob (y40 1 d) fun e =>
ob (y40 2 d) fun k =>
ob (y13 [(.int .i64 0), (.int .i64 0), (.int .i64 0), (.int .i64 0)] [(0, 1, k), (1, 1, u), (2, 1, e), (3, 1, (.int .i64 (-1)))]) fun w =>
ob (evFa 5 a) fun i =>
ob (evLd false 1 i h24) fun v =>
ob (evFa 5 a) fun n =>
ob (evLd false 1 n h24) fun l =>
ob (y8 .eql v l) fun c =>
gb c true (some e) fun j =>
gb c true (y8 .neq j (.int .i64 0)) fun g =>
ob (yd c g (.bool false)) fun t =>
oh (evSt 4 b w h24) fun _ h25 =>
(ob (evLd true 4 b h25) fun r0 =>
  yf h25 (.tup [r0, t])))
 ((ya8 a b m h))
def y2dk (s : St) : OX := y9u (s 1) (s 2) (s 11) (s 25) s.h
theorem y1hi : T1 yxt yl (y5 0 yl xN) [.cell 2 true 4, .t 3] y2dk := fun s => (y1b rfl (y1fl s)).trans (by kernel_rfl)
def y9z (c b a : AV) (h : Heap) : OX :=
ob (y8 .eql a (.int .i64 5)) fun d =>
(y9u c b a d h)
def y2g0 (s : St) : OX := y9z (s 1) (s 2) (s 11) s.h
theorem y1re : T1 y162 yl (y5 0 yl xN) [.cell 2 true 4, .t 3] y2g0 := sq y1hi fun _ => by kernel_rfl
def y9m (e a b d : AV) (h : Heap) : OX :=
cnd d
 (ob (y13 [(.int .i64 0), (.int .i64 0), (.int .i64 0), (.int .i64 0)] [(0, 1, (.int .i64 0)), (1, 1, (.int .i64 0)), (2, 1, (.int .i64 (-1))), (3, 1, (.int .i64 (-1)))]) fun c =>
oh (evSt 4 a c h) fun _ h26 =>
(ob (evLd true 4 a h26) fun r0 =>
  yf h26 (.tup [r0, (.bool true)])))
 ((y9z e a b h))
def y29t (s : St) : OX := y9m (s 1) (s 2) (s 11) (s 22) s.h
theorem y1fu : T1 y17s yl (y5 0 yl xN) [.cell 2 true 4, .t 3] y29t := fun s => (y1b rfl (y1re s)).trans (by kernel_rfl)
def y96 (c b a : AV) (h : Heap) : OX :=
ob (y8 .eql a (.int .i64 4)) fun d =>
(y9m c b a d h)
def y2ft (s : St) : OX := y96 (s 1) (s 2) (s 11) s.h
theorem y1jz : T1 y13b yl (y5 0 yl xN) [.cell 2 true 4, .t 3] y2ft := sq y1fu fun _ => by kernel_rfl
def y6b (e a c b : AV) (h : Heap) : OX :=
cnd b
 (ob (y13 [(.int .i64 0), (.int .i64 0), (.int .i64 0), (.int .i64 0)] [(0, 1, (.int .i64 3)), (1, 1, (.int .i64 (-1))), (2, 1, (.int .i64 (-1))), (3, 1, (.int .i64 (-1)))]) fun d =>
oh (evSt 4 a d h) fun _ h27 =>
(ob (evLd true 4 a h27) fun r0 =>
  yf h27 (.tup [r0, (.bool true)])))
 ((y96 e a c h))
def y2e2 (s : St) : OX := y6b (s 1) (s 2) (s 11) (s 16) s.h
theorem y1cr : T1 y12v yl (y5 0 yl xN) [.cell 2 true 4, .t 3] y2e2 := fun s => (y1b rfl (y1jz s)).trans (by kernel_rfl)
def ya1 (c b a : AV) (h : Heap) : OX :=
ob (y8 .eql a (.int .i64 2)) fun g =>
cnd g
 ((y6b c b a g h))
 (ob (y8 .eql a (.int .i64 3)) fun d =>
cnd d
 ((y6b c b a d h))
 (ob (y8 .eql a (.int .i64 20)) fun e =>
cnd e
 ((y6b c b a e h))
 (ob (y8 .eql a (.int .i64 32)) fun i =>
(y6b c b a i h))))
def y27t (s : St) : OX := ya1 (s 1) (s 2) (s 11) s.h
theorem y1nu : T1 y13x yl (y5 0 yl xN) [.cell 2 true 4, .t 3] y27t := sq y1cr fun _ => by kernel_rfl
def y7x (e a b c : AV) (h : Heap) : OX :=
cnd c
 (ob (y13 [(.int .i64 0), (.int .i64 0), (.int .i64 0), (.int .i64 0)] [(0, 1, (.int .i64 0)), (1, 1, (.int .i64 (-1))), (2, 1, (.int .i64 (-1))), (3, 1, (.int .i64 (-1)))]) fun d =>
oh (evSt 4 a d h) fun _ h28 =>
(ob (evLd true 4 a h28) fun r0 =>
  yf h28 (.tup [r0, (.bool true)])))
 ((ya1 e a b h))
def y2d3 (s : St) : OX := y7x (s 1) (s 2) (s 11) (s 12) s.h
theorem y1nc : T1 yxu yl (y5 0 yl xN) [.cell 2 true 4, .t 3] y2d3 := fun s => (y1b rfl (y1nu s)).trans (by kernel_rfl)
def y9o (d b a : AV) (h : Heap) : OX :=
ob (y8 .eql a (.int .i64 1)) fun c =>
cnd c
 ((y7x d b a c h))
 (ob (y8 .eql a (.int .i64 18)) fun e =>
(y7x d b a e h))
def y1ml (s : St) : OX := y9o (s 1) (s 2) (s 11) s.h
theorem y1qm : T1 y11m yl (y5 0 yl xN) [.cell 2 true 4, .t 3] y1ml := sq y1nc fun _ => by kernel_rfl
theorem y1fp : T1 y150 yl xN [.cell 2 true 4, .t 3] y1ml := fun s => yy.trans (y1qm s)
def y9y (a b : AV) (h : Heap) : OX :=
ob (evFa 0 a) fun c =>
ob (evLd false 1 c h) fun d =>
(y9o a b d h)
def y1k2 (s : St) : OX := y9y (s 1) (s 2) s.h
theorem y1ir : T1 y0r yl xN [.cell 2 true 4, .t 3] y1k2 := sq y1fp fun _ => by kernel_rfl
theorem y1pw : T0 y18e [.cell 2 true 4, .t 3] y1k2 := sq y1xn y1ir
def y9w (a : AV) (h : Heap) : OX :=
oh (newC 0 (some 0) (cellsOf a) h) fun c h29 =>
oh (newC 0 (some 1) [(.int .i64 0), (.int .i64 0), (.int .i64 0), (.int .i64 0)] h29) fun b h30 =>
(y9y c b h30)
def y2aq (s : St) : OX := y9w (s 0) s.h
theorem y1sp : T0 yxs [.cell 2 true 4, .t 3] y2aq := sq y1pw fun _ => by kernel_rfl
@[simp] theorem y2qy : E.pure 47 = true := rfl
theorem y1oq (a : AV) : (yb E).p 47 [a] = y9w a [⟨0, .dead⟩, ⟨0, .dead⟩] :=
  (y15 (cf := y2jf) (by kernel_rfl) rfl).trans ((y1sp _).trans (by kernel_rfl))
def y1ln (w : AV) (h : Heap) : OX :=
oh (newC 0 (some 0) (cellsOf w) h) fun a h1 =>
ob (evFa 0 a) fun i =>
ob (evLd false 1 i h1) fun B =>
ob (y8 .geq B (.int .i64 7)) fun b =>
gb b true (evFa 0 a) fun k =>
gb b true (evLd false 1 k h1) fun m =>
gb b true (y8 .leq m (.int .i64 12)) fun o =>
ob (yd b o (.bool false)) fun c =>
gb c false (evFa 0 a) fun v =>
gb c false (evLd false 1 v h1) fun u =>
gb c false (y8 .eql u (.int .i64 20)) fun t =>
ob (yd c (.bool true) t) fun e =>
gb e false (evFa 0 a) fun l =>
gb e false (evLd false 1 l h1) fun n =>
gb e false (y8 .eql n (.int .i64 21)) fun x =>
ob (yd e (.bool true) x) fun d =>
gb d false (evFa 0 a) fun z =>
gb d false (evLd false 1 z h1) fun j =>
gb d false (y8 .eql j (.int .i64 31)) fun A =>
ob (yd d (.bool true) A) fun g =>
gb g false (evLd true 9 a h1) fun y =>
gh g false (y9 E (yb E) 0 none true 17 [y] h1) h1 fun r h2 =>
ob (yd g (.bool true) r) fun p =>
(yf h2 p)
def y2lq (s : St) : OX := y1ln (s 0) s.h
theorem y22l : T0 y1q5 [.t 2] y2lq := fun _ => by kernel_rfl
@[simp] theorem y2nw : E.pure 18 = true := rfl
theorem y2nt (a : AV) : (yb E).p 18 [a] = y1ln a [⟨0, .dead⟩] :=
  (y15 (cf := y2hk) (by kernel_rfl) rfl).trans ((y22l _).trans (by kernel_rfl))
def y1im (a c : AV) (h : Heap) : OX :=
ob (yw 1 c a) fun b =>
ob (evLd false 1 b h) fun d =>
(yf h d)
def y2ey (s : St) : OX := y1im (s 0) (s 3) s.h
theorem y1fg : T0 y05 [.t 2] y2ey := fun _ => by kernel_rfl
def y1e7 (b c : AV) (h : Heap) : OX :=
ob (y8 .lss b (.int .i64 1)) fun a =>
gb a false (some b) fun j =>
gb a false (some c) fun e =>
gb a false (y10 1 e h) fun i =>
gb a false (y8 .geq j i) fun d =>
ob (yd a (.bool true) d) fun g =>
cnd g
 ((yf h (AV.str [])))
 ((y1im b c h))
def y2fw (s : St) : OX := y1e7 (s 0) (s 3) s.h
theorem y1st : T0 y08 [.t 2] y2fw := sq y1fg fun _ => by kernel_rfl
def y1k6 (a : AV) (h : Heap) : OX :=
oh (y12 0 (some 0) 1 34 [(.str [])] [(0, (AV.str [])), (1, (AV.str [110, 45, 45, 45])), (2, (AV.str [51, 45, 45, 45])), (3, (AV.str [51, 45, 45, 45])), (4, (AV.str [42, 61, 45, 45])), (5, (AV.str [63, 63, 63, 63])), (6, (AV.str [63, 63, 63, 63])), (7, (AV.str [45, 110, 45, 45])), (8, (AV.str [45, 51, 45, 45])), (9, (AV.str [45, 51, 49, 45])), (10, (AV.str [45, 49, 45, 45])), (11, (AV.str [45, 51, 51, 45])), (12, (AV.str [45, 51, 45, 45])), (13, (AV.str [42, 51, 49, 45])), (14, (AV.str [45, 51, 49, 42])), (15, (AV.str [49, 51, 45, 45])), (16, (AV.str [42, 51, 45, 45])), (17, (AV.str [45, 51, 42, 45])), (18, (AV.str [42, 45, 45, 45])), (19, (AV.str [45, 42, 45, 45])), (20, (AV.str [51, 45, 45, 45])), (21, (AV.str [51, 49, 45, 45])), (22, (AV.str [49, 51, 45, 45])), (23, (AV.str [63, 63, 63, 63])), (24, (AV.str [63, 63, 63, 63])), (25, (AV.str [63, 63, 63, 63])), (26, (AV.str [63, 63, 63, 63])), (27, (AV.str [45, 45, 45, 45])), (28, (AV.str [45, 49, 49, 45])), (29, (AV.str [45, 51, 63, 45])), (30, (AV.str [45, 63, 45, 45])), (31, (AV.str [45, 51, 45, 45])), (32, (AV.str [51, 45, 45, 45])), (33, (AV.str [45, 45, 45, 45]))] h) fun b h1 =>
(y1e7 a b h1)
def y2bk (s : St) : OX := y1k6 (s 0) s.h
theorem y1u7 : T0 y0v [.t 2] y2bk := sq y1st fun _ => by kernel_rfl
def y1q1 (a : AV) (h : Heap) : OX :=
(y1k6 a h)
def y2dc (s : St) : OX := y1q1 (s 0) s.h
theorem y1rq : T0 y14j [.t 2] y2dc := sq y1u7 fun _ => by kernel_rfl
@[simp] theorem y2qw : E.pure 38 = true := rfl
theorem y2ik (a : AV) : (yb E).p 38 [a] = y1q1 a [⟨0, .dead⟩] :=
  (y15 (cf := y262) (by kernel_rfl) rfl).trans ((y1rq _).trans (by kernel_rfl))
def ycp (c d : AV) (h : Heap) : OX :=
ob (y8 .sub c (.int .u8 48)) fun b =>
ob (y19h .i64 b) fun a =>
ob (y8 .eql d a) fun e =>
(yf h e)
def y6j (s : St) : OX := ycp (s 2) (s 7) s.h
theorem y1tz : T0 yzv [.t 6] y6j := fun _ => by kernel_rfl
def ybc (d a e g : AV) (h : Heap) : OX :=
cnd g
 (ob (y8 .gtr a (.int .i64 0)) fun j =>
(yf h j))
 (ob (y8 .eql e (.int .u8 110)) fun i =>
cnd i
 (ob (y8 .eql a (.int .i64 1)) fun b =>
gb b false (some a) fun c =>
gb b false (y8 .eql c (.int .i64 2)) fun l =>
ob (yd b (.bool true) l) fun k =>
(yf h k))
 ((ycp d a h)))
def y28v (s : St) : OX := ybc (s 2) (s 7) (s 11) (s 15) s.h
theorem y1in : T1 yx2 y6j (y5 0 y6j xN) [.t 6] y28v := fun _ => by kernel_rfl
def ycq (c d a : AV) (h : Heap) : OX :=
ob (y8 .eql a (.int .u8 42)) fun b =>
cnd b
 ((ybc c d a b h))
 (ob (y8 .eql a (.int .u8 61)) fun e =>
(ybc c d a e h))
def y288 (s : St) : OX := ycq (s 2) (s 7) (s 11) s.h
theorem y1ku : T1 yx8 y6j (y5 0 y6j xN) [.t 6] y288 := sq y1in fun _ => by kernel_rfl
def yaq (a b d c : AV) (h : Heap) : OX :=
cnd c
 ((yf h (.bool true)))
 ((ycq a b d h))
def y2a8 (s : St) : OX := yaq (s 2) (s 7) (s 11) (s 12) s.h
theorem y1pv : T1 y15e y6j (y5 0 y6j xN) [.t 6] y2a8 := fun s => (y1b rfl (y1ku s)).trans (by kernel_rfl)
def ycj (b d a : AV) (h : Heap) : OX :=
ob (y8 .eql a (.int .u8 45)) fun c =>
cnd c
 ((yaq b d a c h))
 (ob (y8 .eql a (.int .u8 63)) fun e =>
(yaq b d a e h))
def y1v4 (s : St) : OX := ycj (s 2) (s 7) (s 11) s.h
theorem y1hg : T1 yyz y6j (y5 0 y6j xN) [.t 6] y1v4 := sq y1pv fun _ => by kernel_rfl
theorem y1of : T1 y133 y6j xN [.t 6] y1v4 := fun s => yy.trans (y1hg s)
def yc9 (a b : AV) (h : Heap) : OX :=
(ycj a b a h)
def y1r2 (s : St) : OX := yc9 (s 2) (s 7) s.h
theorem y1h3 : T1 yxv y6j xN [.t 6] y1r2 := sq y1of fun _ => by kernel_rfl
theorem y1g6 : T0 y12e [.t 6] y1r2 := sq y1tz y1h3
def ych (e a b : AV) (h : Heap) : OX :=
ob (evLd true 5 b h) fun d =>
oh (y9 E (yb E) 0 none true 48 [d, e] h) fun c h1 =>
(yc9 a c h1)
def y2dw (s : St) : OX := ych (s 1) (s 2) (s 3) s.h
theorem y1jl : T0 y127 [.t 6] y2dw := sq y1g6 fun _ => by kernel_rfl
def y7c (a c b : AV) (h : Heap) : OX :=
oh (newC 0 (some 0) (cellsOf a) h) fun d h2 =>
(ych c b d h2)
def y1y7 (s : St) : OX := y7c (s 0) (s 1) (s 2) s.h
theorem y1bu : T0 ysp [.t 6] y1y7 := sq y1jl fun _ => by kernel_rfl
@[simp] theorem y2pb : E.pure 65 = true := rfl
theorem y2k9 (a c b : AV) : (yb E).p 65 [a, c, b] = y7c a c b [⟨0, .dead⟩] :=
  (y15 (cf := y25o) (by kernel_rfl) rfl).trans ((y1bu _).trans (by kernel_rfl))
def y25j (h : Heap) : OX :=
(yf h (.tup [(.int .i64 0), (.int .i64 0), (.int .i64 0)]))
def y2mt (s : St) : OX := y25j s.h
theorem y1xs : T0 y1tp [.t 2, .t 3, .t 4] y2mt := fun _ => by kernel_rfl
def y1xy (a b : AV) (h : Heap) : OX :=
gb b true (some a) fun t =>
gb b true (y8 .rem t (.int .i64 2)) fun r =>
gb b true (y8 .eql r (.int .i64 0)) fun l =>
ob (yd b l (.bool false)) fun A =>
cnd A
 ((yf h (.tup [(.int .i64 1), (.int .i64 1), (.int .i64 1)])))
 (ob (y8 .eql a (.int .i64 121)) fun g =>
gb g false (some a) fun o =>
gb g false (y8 .eql o (.int .i64 123)) fun B =>
ob (yd g (.bool true) B) fun d =>
gb d false (some a) fun p =>
gb d false (y8 .eql p (.int .i64 125)) fun m =>
ob (yd d (.bool true) m) fun j =>
cnd j
 ((yf h (.tup [(.int .i64 2), (.int .i64 1), (.int .i64 2)])))
 (cnd b
 ((yf h (.tup [(.int .i64 2), (.int .i64 2), (.int .i64 2)])))
 (ob (y8 .eql a (.int .i64 148)) fun i =>
cnd i
 ((yf h (.tup [(.int .i64 2), (.int .i64 2), (.int .i64 1)])))
 (ob (y8 .eql a (.int .i64 116)) fun c =>
gb c false (some a) fun z =>
gb c false (y8 .geq z (.int .i64 145)) fun w =>
gb c false (some w) fun e =>
gb e true (some a) fun n =>
gb e true (y8 .leq n (.int .i64 147)) fun u =>
gb c false (yd e u (.bool false)) fun x =>
ob (yd c (.bool true) x) fun C =>
cnd C
 ((yf h (.tup [(.int .i64 1), (.int .i64 0), (.int .i64 1)])))
 (ob (y8 .eql a (.int .i64 117)) fun y =>
cnd y
 ((yf h (.tup [(.int .i64 2), (.int .i64 0), (.int .i64 2)])))
 (ob (y8 .eql a (.int .i64 133)) fun v =>
cnd v
 ((yf h (.tup [(.int .i64 1), (.int .i64 0), (.int .i64 2)])))
 (ob (y8 .eql a (.int .i64 136)) fun k =>
cnd k
 ((yf h (.tup [(.int .i64 2), (.int .i64 0), (.int .i64 1)])))
 ((y25j h)))))))))
def y2hg (s : St) : OX := y1xy (s 0) (s 5) s.h
theorem y1z1 : T0 y1gj [.t 2, .t 3, .t 4] y2hg := sq y1xs fun _ => by kernel_rfl
def y252 (a : AV) (h : Heap) : OX :=
ob (y8 .geq a (.int .i64 96)) fun e =>
gb e true (some a) fun k =>
gb e true (y8 .leq k (.int .i64 113)) fun m =>
ob (yd e m (.bool false)) fun c =>
gb c true (some a) fun j =>
gb c true (y8 .rem j (.int .i64 4)) fun g =>
gb c true (y8 .lss g (.int .i64 2)) fun n =>
ob (yd c n (.bool false)) fun b =>
gb b false (some a) fun i =>
gb b false (y8 .geq i (.int .i64 120)) fun p =>
gb b false (some p) fun d =>
gb d true (some a) fun o =>
gb d true (y8 .leq o (.int .i64 131)) fun t =>
gb b false (yd d t (.bool false)) fun l =>
ob (yd b (.bool true) l) fun r =>
(y1xy a r h)
def y2li (s : St) : OX := y252 (s 0) s.h
theorem y25c : T0 y1mc [.t 2, .t 3, .t 4] y2li := sq y1z1 fun _ => by kernel_rfl
def y1x2 (a : AV) (h : Heap) : OX :=
(y252 a h)
def y2k3 (s : St) : OX := y1x2 (s 0) s.h
theorem y20h : T0 y1kt [.t 2, .t 3, .t 4] y2k3 := sq y25c fun _ => by kernel_rfl
@[simp] theorem y2qp : E.pure 66 = true := rfl
theorem y2p0 (a : AV) : (yb E).p 66 [a] = y1x2 a [] :=
  (y15 (cf := y2jw) (by kernel_rfl) rfl).trans ((y20h _).trans (by kernel_rfl))
def yj0 (c : AV) (h : Heap) : OX :=
ob (y10 0 c h) fun r =>
ob (y8 .gtr r (.int .i64 2)) fun d =>
gb d true (some c) fun v =>
gb d true (y5o v (.int .i64 0)) fun y =>
gb d true (y8 .eql y (.int .u8 76)) fun l =>
ob (yd d l (.bool false)) fun b =>
gb b true (some c) fun n =>
gb b true (some c) fun x =>
gb b true (y10 0 x h) fun j =>
gb b true (y8 .sub j (.int .i64 1)) fun w =>
gb b true (y5o n w) fun o =>
gb b true (y8 .eql o (.int .u8 59)) fun m =>
ob (yd b m (.bool false)) fun a =>
gb a true (some c) fun k =>
gb a true (some c) fun g =>
gb a true (y10 0 g h) fun u =>
gb a true (y8 .sub u (.int .i64 1)) fun e =>
gb a true (ydq k (some (.int .i64 1)) (some e)) fun p =>
gh a true (y9 E (yb E) 0 none true 69 [p, (.bool false)] h) h fun i h1 =>
ob (yd a i (.bool false)) fun t =>
(yf h1 t)
def y2ai (s : St) : OX := yj0 (s 0) s.h
theorem y1d8 : T0 y0t [.t 2] y2ai := fun _ => by kernel_rfl
def ydj (a : AV) (h : Heap) : OX :=
ob (y8 .eql a (AV.str [73])) fun b =>
gb b false (some a) fun d =>
gb b false (y8 .eql d (AV.str [74])) fun c =>
ob (yd b (.bool true) c) fun e =>
cnd e
 ((yf h (.bool true)))
 ((yj0 a h))
def y2dq (s : St) : OX := ydj (s 0) s.h
theorem y1so : T0 yxx [.t 2] y2dq := sq y1d8 fun _ => by kernel_rfl
def ytt (a b : AV) (h : Heap) : OX :=
ob (y8 .gtr b (.int .i64 8)) fun c =>
cnd c
 ((yf h (.bool false)))
 ((ydj a h))
def y2d4 (s : St) : OX := ytt (s 0) (s 3) s.h
theorem y1q9 : T0 y129 [.t 2] y2d4 := sq y1so fun _ => by kernel_rfl
def ylq (b a : AV) (h : Heap) : OX :=
ob (ydq b (some a) none) fun c =>
(ytt c a h)
def ybl (s : St) : OX := ylq (s 0) (s 3) s.h
theorem y1lx : T0 y12s [.t 2] ybl := sq y1q9 fun _ => by kernel_rfl
def yez (a b : AV) (h : Heap) : OX :=
  W E 0 yjg ⟨[(0, a), (3, b)], h⟩ ybl (y5 0 ybl xN) (finP [.t 2])
def ybt (s : St) : OX := yez (s 0) (s 3) s.h
theorem yms : T1 yjg ybl (y5 0 ybl xN) [.t 2] ybt := fun s => yj.trans (by kernel_rfl)
def y13e (a c : AV) (h : Heap) : OX :=
ob (y8 .add c (.int .i64 1)) fun b =>
(yez a b h)
def y2d1 (s : St) : OX := y13e (s 0) (s 3) s.h
theorem y1if : T1 y16a ybt (y5 0 ybl xN) [.t 2] y2d1 := fun _ => by kernel_rfl
def yli (c b : AV) (h : Heap) : OX :=
ob (y10 0 c h) fun k =>
ob (y8 .lss b k) fun a =>
gb a true (some c) fun g =>
gb a true (some b) fun j =>
gb a true (y5o g j) fun d =>
gb a true (y8 .eql d (.int .u8 91)) fun i =>
ob (yd a i (.bool false)) fun e =>
cnd e
 ((y13e c b h))
 ((ylq c b h))
def y2fl (s : St) : OX := yli (s 0) (s 3) s.h
theorem y1kk : T1 y184 ybt (y5 0 ybl xN) [.t 2] y2fl := sq y1if fun _ => by kernel_rfl
theorem ylx (a b : AV) (h : Heap) : yez a b h = (yli a b h) :=
  y28.trans ((y1c _ _ _ (n' := ybt) (fun s => yms s)).trans ((y1kk _).trans (by kernel_rfl)))
theorem y1ji : T1 yyw ybl xN [.t 2] ybt := fun s => yy.trans (yms s)
theorem y1s9 : T0 y11j [.t 2] ybt := sq y1lx y1ji
def yvc (a : AV) (h : Heap) : OX :=
(yez a (.int .i64 0) h)
def y1xx (s : St) : OX := yvc (s 0) s.h
theorem y1c0 : T0 yta [.t 2] y1xx := sq y1s9 fun _ => by kernel_rfl
def yph (a : AV) (h : Heap) : OX :=
(yvc a h)
def y1wr (s : St) : OX := yph (s 0) s.h
theorem y1aw : T0 yuq [.t 2] y1wr := sq y1c0 fun _ => by kernel_rfl
@[simp] theorem y2ox : E.pure 67 = true := rfl
theorem y2hz (a : AV) : (yb E).p 67 [a] = yph a [] :=
  (y15 (cf := y275) (by kernel_rfl) rfl).trans ((y1aw _).trans (by kernel_rfl))
def y5h (g c : AV) (h : Heap) : OX :=
ob (evFa 0 c) fun e =>
ob (evLd false 1 e h) fun m =>
ob (y8 .neq m (.int .i64 24)) fun d =>
gb d true (evFa 0 c) fun z =>
gb d true (evLd false 1 z h) fun x =>
gb d true (y8 .neq x (.int .i64 25)) fun r =>
ob (yd d r (.bool false)) fun b =>
gb b false (evFa 8 c) fun o =>
gb b false (evLd false 1 o h) fun t =>
gb b false (y10 1 t h) fun A =>
gb b false (y8 .gtr A (.int .i64 0)) fun i =>
gb b false (some i) fun a =>
gb a true (evLd true 5 g h) fun v =>
gb a true (evFa 8 c) fun u =>
gb a true (evLd false 1 u h) fun l =>
gb a true (yw 1 l (.int .i64 0)) fun p =>
gb a true (evLd false 1 p h) fun j =>
gh a true (y9 E (yb E) 0 none true 48 [v, j] h) h fun n h1 =>
gb a true (y8 .eql n (.int .i64 3)) fun k =>
gb b false (yd a k (.bool false)) fun w =>
ob (yd b (.bool true) w) fun y =>
(yf h1 y)
def y7h (s : St) : OX := y5h (s 2) (s 3) s.h
theorem y1e9 : T0 y15h [.t 4] y7h := fun _ => by kernel_rfl
def yk6 (a b c : AV) (h : Heap) : OX :=
  W E 0 yki ⟨[(2, a), (3, b), (5, c)], h⟩ y7h (y5 0 y7h xN) (finP [.t 4])
def ybu (s : St) : OX := yk6 (s 2) (s 3) (s 5) s.h
theorem yoe : T1 yki y7h (y5 0 y7h xN) [.t 4] ybu := fun s => yj.trans (by kernel_rfl)
def y9b (a c d : AV) (h : Heap) : OX :=
ob (y8 .add d (.int .i64 1)) fun b =>
(yk6 a c b h)
def y2bw (s : St) : OX := y9b (s 2) (s 3) (s 5) s.h
theorem y1i2 : T1 yx7 ybu (y5 0 y7h xN) [.t 4] y2bw := fun _ => by kernel_rfl
def y7s (b c a : AV) (h : Heap) : OX :=
ob (evLd true 5 b h) fun e =>
ob (evFa 8 c) fun k =>
ob (evLd false 1 k h) fun g =>
ob (yw 1 g a) fun i =>
ob (evLd false 1 i h) fun l =>
oh (y9 E (yb E) 0 none true 48 [e, l] h) fun j h2 =>
ob (y8 .eql j (.int .i64 0)) fun d =>
cnd d
 ((yf h2 (.bool false)))
 ((y9b b c a h2))
def y29c (s : St) : OX := y7s (s 2) (s 3) (s 5) s.h
theorem y1sy : T1 y0s ybu (y5 0 y7h xN) [.t 4] y29c := sq y1i2 fun _ => by kernel_rfl
def y6y (c a b : AV) (h : Heap) : OX :=
ob (evFa 8 a) fun i =>
ob (evLd false 1 i h) fun g =>
ob (y10 1 g h) fun d =>
ob (y8 .lss b d) fun e =>
cnd e
 ((y7s c a b h))
 ((y5h c a h))
def y2au (s : St) : OX := y6y (s 2) (s 3) (s 5) s.h
theorem y1ud : T1 y18d ybu (y5 0 y7h xN) [.t 4] y2au := sq y1sy fun _ => by kernel_rfl
theorem ynz (a b c : AV) (h : Heap) : yk6 a b c h = (y6y a b c h) :=
  y28.trans ((y1c _ _ _ (n' := ybu) (fun s => yoe s)).trans ((y1ud _).trans (by kernel_rfl)))
theorem y1sj : T1 y0h y7h xN [.t 4] ybu := fun s => yy.trans (yoe s)
def yaj (a b : AV) (h : Heap) : OX :=
(yk6 a b (.int .i64 0) h)
def y1ro (s : St) : OX := yaj (s 2) (s 3) s.h
theorem y1qs : T1 y181 y7h xN [.t 4] y1ro := sq y1sj fun _ => by kernel_rfl
theorem y1et : T0 y151 [.t 4] y1ro := sq y1e9 y1qs
def yb2 (g a : AV) (h : Heap) : OX :=
ob (evFa 5 a) fun l =>
ob (evLd false 1 l h) fun j =>
ob (y8 .lss j (.int .i64 0)) fun e =>
gb e true (evFa 0 a) fun k =>
gb e true (evLd false 1 k h) fun p =>
gb e true (y8 .neq p (.int .i64 25)) fun x =>
ob (yd e x (.bool false)) fun d =>
gb d false (evFa 8 a) fun C =>
gb d false (evLd false 1 C h) fun w =>
gb d false (y10 1 w h) fun m =>
gb d false (y8 .gtr m (.int .i64 21)) fun n =>
ob (yd d (.bool true) n) fun b =>
gb b false (evFa 1 a) fun y =>
gb b false (evLd false 1 y h) fun A =>
gb b false (y8 .neq A (.int .i64 (-1))) fun i =>
gb b false (some i) fun c =>
gb c true (evLd true 5 g h) fun v =>
gb c true (evFa 1 a) fun t =>
gb c true (evLd false 1 t h) fun z =>
gh c true (y9 E (yb E) 0 none true 48 [v, z] h) h fun u h3 =>
gb c true (y8 .eql u (.int .i64 0)) fun r =>
gb b false (yd c r (.bool false)) fun o =>
ob (yd b (.bool true) o) fun B =>
cnd B
 ((yf h3 (.bool false)))
 ((yaj g a h3))
def y2es (s : St) : OX := yb2 (s 2) (s 3) s.h
theorem y1tw : T0 y169 [.t 4] y2es := sq y1et fun _ => by kernel_rfl
def y6l (a c : AV) (h : Heap) : OX :=
oh (newC 0 (some 0) (cellsOf a) h) fun b h4 =>
oh (newC 0 (some 1) (cellsOf c) h4) fun d h5 =>
(yb2 b d h5)
def y22p (s : St) : OX := y6l (s 0) (s 1) s.h
theorem y1as : T0 yrk [.t 4] y22p := sq y1tw fun _ => by kernel_rfl
@[simp] theorem y2ph : E.pure 68 = true := rfl
theorem y2j0 (a b : AV) : (yb E).p 68 [a, b] = y6l a b [⟨0, .dead⟩, ⟨0, .dead⟩] :=
  (y15 (cf := y271) (by kernel_rfl) rfl).trans ((y1as _).trans (by kernel_rfl))
def y2eb (h : Heap) : OX :=
(yf h (.tup [(.int .i64 0), (.int .i64 0), (.int .i64 0)]))
def y3r (s : St) : OX := y2eb s.h
theorem y22h : T0 y1iu [.t 2, .t 3, .t 4] y3r := fun _ => by kernel_rfl
def y1cp (a e : AV) (h : Heap) : OX :=
cnd e
 ((yf h (.tup [(.int .i64 1), (.int .i64 0), (.int .i64 1)])))
 (ob (y8 .eql a (.int .i64 117)) fun b =>
cnd b
 ((yf h (.tup [(.int .i64 2), (.int .i64 0), (.int .i64 2)])))
 (ob (y8 .eql a (.int .i64 133)) fun c =>
cnd c
 ((yf h (.tup [(.int .i64 1), (.int .i64 0), (.int .i64 2)])))
 (ob (y8 .eql a (.int .i64 136)) fun d =>
cnd d
 ((yf h (.tup [(.int .i64 2), (.int .i64 0), (.int .i64 1)])))
 ((y2eb h)))))
def y2ly (s : St) : OX := y1cp (s 5) (s 33) s.h
theorem y23d : T1 y1uy y3r (y5 0 y3r xN) [.t 2, .t 3, .t 4] y2ly := fun _ => by kernel_rfl
def y292 (a : AV) (h : Heap) : OX :=
ob (y8 .eql a (.int .i64 116)) fun d =>
cnd d
 ((y1cp a d h))
 (ob (y8 .eql a (.int .i64 145)) fun b =>
cnd b
 ((y1cp a b h))
 (ob (y8 .eql a (.int .i64 146)) fun c =>
cnd c
 ((y1cp a c h))
 (ob (y8 .eql a (.int .i64 147)) fun e =>
(y1cp a e h))))
def y2kw (s : St) : OX := y292 (s 5) s.h
theorem y213 : T1 y1si y3r (y5 0 y3r xN) [.t 2, .t 3, .t 4] y2kw := sq y23d fun _ => by kernel_rfl
def y2c4 (b a : AV) (h : Heap) : OX :=
cnd a
 ((yf h (.tup [(.int .i64 2), (.int .i64 2), (.int .i64 1)])))
 ((y292 b h))
def y2io (s : St) : OX := y2c4 (s 5) (s 31) s.h
theorem y21g : T1 y1oo y3r (y5 0 y3r xN) [.t 2, .t 3, .t 4] y2io := fun s => (y1b rfl (y213 s)).trans (by kernel_rfl)
def y2ck (a : AV) (h : Heap) : OX :=
ob (y8 .eql a (.int .i64 148)) fun b =>
(y2c4 a b h)
def y2mo (s : St) : OX := y2ck (s 5) s.h
theorem y20f : T1 y1lb y3r (y5 0 y3r xN) [.t 2, .t 3, .t 4] y2mo := sq y21g fun _ => by kernel_rfl
def y1uj (b a : AV) (h : Heap) : OX :=
cnd a
 ((yf h (.tup [(.int .i64 2), (.int .i64 1), (.int .i64 2)])))
 ((y2ck b h))
def y2ka (s : St) : OX := y1uj (s 5) (s 27) s.h
theorem y1z8 : T1 y1ez y3r (y5 0 y3r xN) [.t 2, .t 3, .t 4] y2ka := fun s => (y1b rfl (y20f s)).trans (by kernel_rfl)
def y2bf (a : AV) (h : Heap) : OX :=
ob (y8 .eql a (.int .i64 121)) fun b =>
cnd b
 ((y1uj a b h))
 (ob (y8 .eql a (.int .i64 123)) fun c =>
cnd c
 ((y1uj a c h))
 (ob (y8 .eql a (.int .i64 125)) fun d =>
(y1uj a d h)))
def y2k5 (s : St) : OX := y2bf (s 5) s.h
theorem y211 : T1 y1ec y3r (y5 0 y3r xN) [.t 2, .t 3, .t 4] y2k5 := sq y1z8 fun _ => by kernel_rfl
def ylh (b a : AV) (h : Heap) : OX :=
cnd a
 ((yf h (.tup [(.int .i64 2), (.int .i64 2), (.int .i64 2)])))
 ((y2bf b h))
def y2lb (s : St) : OX := ylh (s 5) (s 18) s.h
theorem y24b : T1 y1dr y3r (y5 0 y3r xN) [.t 2, .t 3, .t 4] y2lb := fun s => (y1b rfl (y211 s)).trans (by kernel_rfl)
def y2fi (a : AV) (h : Heap) : OX :=
ob (y8 .eql a (.int .i64 97)) fun g =>
cnd g
 ((ylh a g h))
 (ob (y8 .eql a (.int .i64 101)) fun c =>
cnd c
 ((ylh a c h))
 (ob (y8 .eql a (.int .i64 105)) fun e =>
cnd e
 ((ylh a e h))
 (ob (y8 .eql a (.int .i64 109)) fun j =>
cnd j
 ((ylh a j h))
 (ob (y8 .eql a (.int .i64 113)) fun d =>
cnd d
 ((ylh a d h))
 (ob (y8 .eql a (.int .i64 127)) fun i =>
cnd i
 ((ylh a i h))
 (ob (y8 .eql a (.int .i64 129)) fun b =>
cnd b
 ((ylh a b h))
 (ob (y8 .eql a (.int .i64 131)) fun k =>
(ylh a k h))))))))
def y2h4 (s : St) : OX := y2fi (s 5) s.h
theorem y1yt : T1 y1vn y3r (y5 0 y3r xN) [.t 2, .t 3, .t 4] y2h4 := sq y24b fun _ => by kernel_rfl
def y81 (b a : AV) (h : Heap) : OX :=
cnd a
 ((yf h (.tup [(.int .i64 1), (.int .i64 1), (.int .i64 1)])))
 ((y2fi b h))
def y28f (s : St) : OX := y81 (s 5) (s 6) s.h
theorem y1pl : T1 y187 y3r (y5 0 y3r xN) [.t 2, .t 3, .t 4] y28f := fun s => (y1b rfl (y1yt s)).trans (by kernel_rfl)
def y1rd (a : AV) (h : Heap) : OX :=
ob (y8 .eql a (.int .i64 96)) fun j =>
cnd j
 ((y81 a j h))
 (ob (y8 .eql a (.int .i64 100)) fun m =>
cnd m
 ((y81 a m h))
 (ob (y8 .eql a (.int .i64 104)) fun g =>
cnd g
 ((y81 a g h))
 (ob (y8 .eql a (.int .i64 108)) fun k =>
cnd k
 ((y81 a k h))
 (ob (y8 .eql a (.int .i64 112)) fun d =>
cnd d
 ((y81 a d h))
 (ob (y8 .eql a (.int .i64 120)) fun i =>
cnd i
 ((y81 a i h))
 (ob (y8 .eql a (.int .i64 122)) fun e =>
cnd e
 ((y81 a e h))
 (ob (y8 .eql a (.int .i64 124)) fun b =>
cnd b
 ((y81 a b h))
 (ob (y8 .eql a (.int .i64 126)) fun l =>
cnd l
 ((y81 a l h))
 (ob (y8 .eql a (.int .i64 128)) fun c =>
cnd c
 ((y81 a c h))
 (ob (y8 .eql a (.int .i64 130)) fun n =>
(y81 a n h)))))))))))
def y1l7 (s : St) : OX := y1rd (s 5) s.h
theorem y1h7 : T1 yxe y3r (y5 0 y3r xN) [.t 2, .t 3, .t 4] y1l7 := sq y1pl fun _ => by kernel_rfl
theorem y1lt : T1 yzo y3r xN [.t 2, .t 3, .t 4] y1l7 := fun s => yy.trans (y1h7 s)
def y1ql (a : AV) (h : Heap) : OX :=
(y1rd a h)
def y1hk (s : St) : OX := y1ql (s 0) s.h
theorem y1o4 : T1 y04 y3r xN [.t 2, .t 3, .t 4] y1hk := sq y1lt fun _ => by kernel_rfl
theorem y1ei : T0 y11a [.t 2, .t 3, .t 4] y1hk := sq y22h y1o4
def y1pk (a : AV) (h : Heap) : OX :=
(y1ql a h)
def y285 (s : St) : OX := y1pk (s 0) s.h
theorem y1dl : T0 y14i [.t 2, .t 3, .t 4] y285 := sq y1ei fun _ => by kernel_rfl
@[simp] theorem y2nv : E.pure 50 = true := rfl
theorem y2pg (a : AV) : (yb E).p 50 [a] = y1pk a [] :=
  (y15 (cf := y2ix) (by kernel_rfl) rfl).trans ((y1dl _).trans (by kernel_rfl))
def q8_1 (b : AV) (h : Heap) : OX :=
ob (y8 .neq b (AV.str [])) fun a =>
gb a true (some b) fun i =>
gh a true (y9 E (yb E) 0 none true 44 [i] h) h fun e h1 =>
gb a true (some b) fun j =>
gb a true (y10 0 j h1) fun d =>
gb a true (y8 .eql e d) fun g =>
ob (yd a g (.bool false)) fun c =>
(yf h1 c)
def y2qc (s : St) : OX := q8_1 (s 0) s.h
theorem y299 : T0 y27g [.t 2] y2qc := fun _ => by kernel_rfl
@[simp] theorem y2oy : E.pure 37 = true := rfl
theorem x_q8 (a : AV) : (yb E).p 37 [a] = q8_1 a [] :=
  (y15 (cf := c_q8) (by kernel_rfl) rfl).trans ((y299 _).trans (by kernel_rfl))
def yw7 (a : AV) (h : Heap) : OX :=
ob (y13 [(.int .i64 0), (.int .i64 0), (.int .i64 0), (.int .i64 0)] []) fun b =>
oh (evSt 4 a b h) fun _ h1 =>
(ob (evLd true 4 a h1) fun r0 =>
  yf h1 (.tup [r0, (.bool false)]))
def y2l (s : St) : OX := yw7 (s 2) s.h
theorem y1yx : T0 y1qw [.cell 2 true 4, .t 3] y2l := fun _ => by kernel_rfl
def yts (e b m : AV) (h : Heap) : OX :=
ob (y13 [(.int .i64 0), (.int .i64 0), (.int .i64 0), (.int .i64 0)] [(0, 1, (.int .i64 (-1))), (1, 1, (.int .i64 3)), (2, 1, m), (3, 1, (.int .i64 (-1)))]) fun i =>
ob (evFa 5 e) fun d =>
ob (evLd false 1 d h) fun g =>
ob (y8 .eql g (.int .i64 0)) fun a =>
ofp (fgd a false (some ([], []))) fun f6 =>
gb a false (evFa 5 e) fun c =>
ofp (fgd a false (some (ids1 c, []))) fun f7 =>
gb a false (evLd false 1 c h) fun l =>
ofp (fgd a false (some ([], []))) fun f8 =>
gb a false (y8 .eql l (.int .i64 1)) fun j =>
ob (yd a (.bool true) j) fun k =>
oh (evSt 4 b i h) fun _ h2 =>
okK (yg [([], []), ([], []), ([], []), (ids1 d, []), ([], []), ([], []), f6, f7, f8, ([], []), ([], ids1 b), ([], [])] [(7, 10)]) <|
(ob (evLd true 4 b h2) fun r0 =>
  yf h2 (.tup [r0, k]))
def y2hl (s : St) : OX := yts (s 1) (s 2) (s 4) s.h
theorem y1xm : T1 y1de y2l (y5 0 y2l xN) [.cell 2 true 4, .t 3] y2hl := fun _ => by kernel_rfl
def yv1 (a b g : AV) (h : Heap) : OX :=
ob (evFa 3 a) fun e =>
ob (evLd false 1 e h) fun d =>
ob (y8 .neq d (.int .i64 (-1))) fun c =>
cnd c
 ((yts a b (.int .i64 3) h))
 ((yts a b g h))
def y2ia (s : St) : OX := yv1 (s 1) (s 2) (s 4) s.h
theorem y1wv : T1 y1gx y2l (y5 0 y2l xN) [.cell 2 true 4, .t 3] y2ia := sq y1xm fun _ => by kernel_rfl
def yww (b a : AV) (h : Heap) : OX :=
(yv1 b a (.int .i64 (-1)) h)
def y2j9 (s : St) : OX := yww (s 1) (s 2) s.h
theorem y1z7 : T1 y1f0 y2l (y5 0 y2l xN) [.cell 2 true 4, .t 3] y2j9 := sq y1wv fun _ => by kernel_rfl
def yqe (a c : AV) (h : Heap) : OX :=
ob (y13 [(.int .i64 0), (.int .i64 0), (.int .i64 0), (.int .i64 0)] [(0, 1, (.int .i64 (-1))), (1, 1, c), (2, 1, (.int .i64 (-1))), (3, 1, (.int .i64 (-1)))]) fun b =>
oh (evSt 4 a b h) fun _ h3 =>
(ob (evLd true 4 a h3) fun r0 =>
  yf h3 (.tup [r0, (.bool true)]))
def y2mk (s : St) : OX := yqe (s 2) (s 5) s.h
theorem y216 : T1 y1fw y2l (y5 0 y2l xN) [.cell 2 true 4, .t 3] y2mk := fun _ => by kernel_rfl
def yuw (g a c : AV) (h : Heap) : OX :=
ob (evFa 2 g) fun d =>
ob (evLd false 1 d h) fun b =>
ob (y8 .neq b (.int .i64 (-1))) fun e =>
cnd e
 ((yqe a (.int .i64 0) h))
 ((yqe a c h))
def y2jy (s : St) : OX := yuw (s 1) (s 2) (s 5) s.h
theorem y20r : T1 y1m8 y2l (y5 0 y2l xN) [.cell 2 true 4, .t 3] y2jy := sq y216 fun _ => by kernel_rfl
def yve (b a : AV) (h : Heap) : OX :=
(yuw b a (.int .i64 (-1)) h)
def y2mc (s : St) : OX := yve (s 1) (s 2) s.h
theorem y244 : T1 y1ms y2l (y5 0 y2l xN) [.cell 2 true 4, .t 3] y2mc := sq y20r fun _ => by kernel_rfl
def ytm (d i u : AV) (h : Heap) : OX :=
ob (evFa 0 d) fun z =>
ob (evLd false 1 z h) fun x =>
ob (y8 .eql x (.int .i64 23)) fun g =>
gb g false (evFa 0 d) fun v =>
gb g false (evLd false 1 v h) fun p =>
gb g false (y8 .eql p (.int .i64 26)) fun H =>
ob (yd g (.bool true) H) fun e =>
gb e false (evFa 8 d) fun r =>
gb e false (evLd false 1 r h) fun D =>
gb e false (y10 1 D h) fun I =>
gb e false (y8 .gtr I (.int .i64 0)) fun G =>
ob (yd e (.bool true) G) fun a =>
ob (y13 [(.int .i64 0), (.int .i64 0), (.int .i64 0), (.int .i64 0)] [(0, 1, u), (1, 1, (.int .i64 (-1))), (2, 1, (.int .i64 (-1))), (3, 1, (.int .i64 (-1)))]) fun y =>
ofp (fgd a true (some ([], []))) fun f4 =>
gb a true (evFa 5 d) fun m =>
ofp (fgd a true (some (ids1 m, []))) fun f5 =>
gb a true (evLd false 1 m h) fun o =>
ofp (fgd a true (some ([], []))) fun f6 =>
gb a true (y8 .geq o (.int .i64 0)) fun F =>
ofp (fgd a true (some ([], []))) fun f7 =>
gb a true (some F) fun c =>
ofp (fgd c false (some ([], []))) fun f8 =>
gb c false (evFa 0 d) fun j =>
ofp (fgd c false (some (ids1 j, []))) fun f9 =>
gb c false (evLd false 1 j h) fun w =>
ofp (fgd c false (some ([], []))) fun f10 =>
gb c false (y8 .eql w (.int .i64 25)) fun B =>
ofp (fgd a true (some ([], []))) fun f11 =>
gb a true (yd c (.bool true) B) fun t =>
ob (yd a t (.bool false)) fun b =>
ofp (fgd b true (some ([], []))) fun f14 =>
gb b true (evFa 8 d) fun k =>
ofp (fgd b true (some (ids1 k, []))) fun f15 =>
gb b true (evLd false 1 k h) fun l =>
ofp (fgd b true (some (ids1 l, []))) fun f16 =>
gb b true (y10 1 l h) fun n =>
ofp (fgd b true (some ([], []))) fun f17 =>
gb b true (y8 .leq n (.int .i64 21)) fun A =>
ob (yd b A (.bool false)) fun C =>
oh (evSt 4 i y h) fun _ h4 =>
okK (yg [([], []), ([], []), ([], []), ([], []), f4, f5, f6, f7, f8, f9, f10, f11, ([], []), ([], []), f14, f15, f16, f17, ([], []), ([], ids1 i), ([], [])] [(15, 19), (16, 19)]) <|
(ob (evLd true 4 i h4) fun r0 =>
  yf h4 (.tup [r0, C]))
def y2gr (s : St) : OX := ytm (s 1) (s 2) (s 6) s.h
theorem y20v : T1 y1s6 y2l (y5 0 y2l xN) [.cell 2 true 4, .t 3] y2gr := fun _ => by kernel_rfl
def ywi (a b g : AV) (h : Heap) : OX :=
ob (evFa 1 a) fun d =>
ob (evLd false 1 d h) fun e =>
ob (y8 .neq e (.int .i64 (-1))) fun c =>
cnd c
 ((ytm a b (.int .i64 0) h))
 ((ytm a b g h))
def y2kh (s : St) : OX := ywi (s 1) (s 2) (s 6) s.h
theorem y24f : T1 y1uu y2l (y5 0 y2l xN) [.cell 2 true 4, .t 3] y2kh := sq y20v fun _ => by kernel_rfl
def yi3 (b a : AV) (h : Heap) : OX :=
(ywi b a (.int .i64 (-1)) h)
def y29s (s : St) : OX := yi3 (s 1) (s 2) s.h
theorem y1tx : T1 y13o y2l (y5 0 y2l xN) [.cell 2 true 4, .t 3] y29s := sq y24f fun _ => by kernel_rfl
def ycd (c a b : AV) (h : Heap) : OX :=
cnd b
 ((yi3 c a h))
 ((yw7 a h))
def y2b5 (s : St) : OX := ycd (s 1) (s 2) (s 32) s.h
theorem y1ul : T1 y15y y2l (y5 0 y2l xN) [.cell 2 true 4, .t 3] y2b5 := fun s => (y1b (y1tx s) rfl).trans (by kernel_rfl)
def yic (c a b : AV) (h : Heap) : OX :=
ob (y8 .eql b (.int .i64 23)) fun g =>
cnd g
 ((ycd c a g h))
 (ob (y8 .eql b (.int .i64 24)) fun e =>
cnd e
 ((ycd c a e h))
 (ob (y8 .eql b (.int .i64 25)) fun d =>
cnd d
 ((ycd c a d h))
 (ob (y8 .eql b (.int .i64 26)) fun i =>
(ycd c a i h))))
def y2bh (s : St) : OX := yic (s 1) (s 2) (s 9) s.h
theorem y1e6 : T1 y15b y2l (y5 0 y2l xN) [.cell 2 true 4, .t 3] y2bh := sq y1ul fun _ => by kernel_rfl
def yhs (b a c d : AV) (h : Heap) : OX :=
cnd d
 ((yve b a h))
 ((yic b a c h))
def y2e7 (s : St) : OX := yhs (s 1) (s 2) (s 9) (s 25) s.h
theorem y1je : T1 yx5 y2l (y5 0 y2l xN) [.cell 2 true 4, .t 3] y2e7 := fun s => (y1b (y244 s) (y1e6 s)).trans (by kernel_rfl)
def ykv (c b a : AV) (h : Heap) : OX :=
ob (y8 .eql a (.int .i64 30)) fun d =>
(yhs c b a d h)
def y2dy (s : St) : OX := ykv (s 1) (s 2) (s 9) s.h
theorem y1ih : T1 yye y2l (y5 0 y2l xN) [.cell 2 true 4, .t 3] y2dy := sq y1je fun _ => by kernel_rfl
def yl3 (b a d c : AV) (h : Heap) : OX :=
cnd c
 ((yww b a h))
 ((ykv b a d h))
def y2cx (s : St) : OX := yl3 (s 1) (s 2) (s 9) (s 10) s.h
theorem y1lo : T1 y11x y2l (y5 0 y2l xN) [.cell 2 true 4, .t 3] y2cx := fun s => (y1b (y1z7 s) (y1ih s)).trans (by kernel_rfl)
def yid (d b a : AV) (h : Heap) : OX :=
ob (y8 .eql a (.int .i64 29)) fun c =>
(yl3 d b a c h)
def y1cy (s : St) : OX := yid (s 1) (s 2) (s 9) s.h
theorem y1qx : T1 y11u y2l (y5 0 y2l xN) [.cell 2 true 4, .t 3] y1cy := sq y1lo fun _ => by kernel_rfl
theorem y1gu : T1 yxj y2l xN [.cell 2 true 4, .t 3] y1cy := fun s => yy.trans (y1qx s)
def yii (a b : AV) (h : Heap) : OX :=
ob (evFa 0 a) fun c =>
ob (evLd false 1 c h) fun d =>
(yid a b d h)
def y1kg (s : St) : OX := yii (s 1) (s 2) s.h
theorem y1kd : T1 yyk y2l xN [.cell 2 true 4, .t 3] y1kg := sq y1gu fun _ => by kernel_rfl
theorem y1tb : T0 yy7 [.cell 2 true 4, .t 3] y1kg := sq y1yx y1kd
def yk0 (a : AV) (h : Heap) : OX :=
oh (newC 0 (some 0) (cellsOf a) h) fun c h5 =>
oh (newC 0 (some 1) [(.int .i64 0), (.int .i64 0), (.int .i64 0), (.int .i64 0)] h5) fun b h6 =>
(yii c b h6)
def y27y (s : St) : OX := yk0 (s 0) s.h
theorem y1g5 : T0 y0i [.cell 2 true 4, .t 3] y27y := sq y1tb fun _ => by kernel_rfl
@[simp] theorem y2q6 : E.pure 51 = true := rfl
theorem y25e (a : AV) : (yb E).p 51 [a] = yk0 a [⟨0, .dead⟩, ⟨0, .dead⟩] :=
  (y15 (cf := y2lg) (by kernel_rfl) rfl).trans ((y1g5 _).trans (by kernel_rfl))
def yjl (b : AV) (h : Heap) : OX :=
ob (y8 .neq b (AV.str [])) fun a =>
gb a true (some b) fun e =>
gb a true (y10 0 e h) fun c =>
gb a true (y8 .leq c (.int .i64 60)) fun g =>
ob (yd a g (.bool false)) fun d =>
(yf h d)
def y77 (s : St) : OX := yjl (s 0) s.h
theorem y1jy : T0 y18m [.t 4] y77 := fun _ => by kernel_rfl
def yfj (a c b : AV) (h : Heap) : OX :=
  W E 0 yjv ⟨[(0, a), (5, c), (6, b)], h⟩ y77 (y5 0 y77 xN) (finP [.t 4])
def ybv (s : St) : OX := yfj (s 0) (s 5) (s 6) s.h
theorem ylp : T1 yjv y77 (y5 0 y77 xN) [.t 4] ybv := fun s => yj.trans (by kernel_rfl)
def y13n (a d c : AV) (h : Heap) : OX :=
ob (y8 .add c (.int .i64 1)) fun b =>
(yfj a d b h)
def y2eh (s : St) : OX := y13n (s 0) (s 5) (s 6) s.h
theorem y1q6 : T1 yys ybv (y5 0 y77 xN) [.t 4] y2eh := fun _ => by kernel_rfl
def yro (c b a : AV) (h : Heap) : OX :=
ob (y8 .add a (.int .i64 1)) fun d =>
ob (ydq c (some a) (some d)) fun g =>
oh (y9 E (yb E) 0 none true 53 [b, g] h) fun i h1 =>
ob (evUn .not i) fun e =>
cnd e
 ((yf h1 (.bool false)))
 ((y13n c b a h1))
def y2eo (s : St) : OX := yro (s 0) (s 5) (s 6) s.h
theorem y1ho : T1 y17j ybv (y5 0 y77 xN) [.t 4] y2eo := sq y1q6 fun _ => by kernel_rfl
def yq7 (a c b : AV) (h : Heap) : OX :=
ob (y10 0 a h) fun e =>
ob (y8 .lss b e) fun d =>
cnd d
 ((yro a c b h))
 ((yjl a h))
def y2dj (s : St) : OX := yq7 (s 0) (s 5) (s 6) s.h
theorem y1l6 : T1 y15n ybv (y5 0 y77 xN) [.t 4] y2dj := sq y1ho fun _ => by kernel_rfl
theorem yo0 (a c b : AV) (h : Heap) : yfj a c b h = (yq7 a c b h) :=
  y28.trans ((y1c _ _ _ (n' := ybv) (fun s => ylp s)).trans ((y1l6 _).trans (by kernel_rfl)))
theorem y1vd : T1 y114 y77 xN [.t 4] ybv := fun s => yy.trans (ylp s)
def yyo (a b : AV) (h : Heap) : OX :=
(yfj a b (.int .i64 0) h)
def y1vl (s : St) : OX := yyo (s 0) (s 5) s.h
theorem y1jp : T1 yxl y77 xN [.t 4] y1vl := sq y1vd fun _ => by kernel_rfl
theorem y1vt : T0 y12b [.t 4] y1vl := sq y1jy y1jp
def y1gn (a d b : AV) (h : Heap) : OX :=
cnd d
 (ob (y8 .add b (AV.str [60, 62])) fun c =>
(yyo a c h))
 ((yyo a b h))
def y2cu (s : St) : OX := y1gn (s 0) (s 1) (s 5) s.h
theorem y1ja : T0 y18i [.t 4] y2cu := sq y1vt fun _ => by kernel_rfl
def yvx (a b : AV) (h : Heap) : OX :=
(y1gn a b (AV.str [97, 98, 99, 100, 101, 102, 103, 104, 105, 106, 107, 108, 109, 110, 111, 112, 113, 114, 115, 116, 117, 118, 119, 120, 121, 122, 65, 66, 67, 68, 69, 70, 71, 72, 73, 74, 75, 76, 77, 78, 79, 80, 81, 82, 83, 84, 85, 86, 87, 88, 89, 90, 48, 49, 50, 51, 52, 53, 54, 55, 56, 57, 95, 36, 47]) h)
def y1y5 (s : St) : OX := yvx (s 0) (s 1) s.h
theorem y1aq : T0 yqc [.t 4] y1y5 := sq y1ja fun _ => by kernel_rfl
def yot (a b : AV) (h : Heap) : OX :=
(yvx a b h)
def y1xj (s : St) : OX := yot (s 0) (s 1) s.h
theorem y1b4 : T0 yue [.t 4] y1xj := sq y1aq fun _ => by kernel_rfl
@[simp] theorem y2ny : E.pure 69 = true := rfl
theorem y2ht (a b : AV) : (yb E).p 69 [a, b] = yot a b [] :=
  (y15 (cf := y26p) (by kernel_rfl) rfl).trans ((y1b4 _).trans (by kernel_rfl))
def q9_1 (h : Heap) : OX :=
(yf h (.int .i64 0))
def y3k (s : St) : OX := q9_1 s.h
theorem y2c0 : T0 y27j [.t 2] y3k := fun _ => by kernel_rfl
def y1oc (a b c : AV) (h : Heap) : OX :=
  W E 0 ywb ⟨[(0, a), (3, b), (4, c)], h⟩ y3k (y5 3 y3k (y5 2 y3k xN)) (finP [.t 2])
def ynd (s : St) : OX := y1oc (s 0) (s 3) (s 4) s.h
theorem y154 : T1 ywb y3k (y5 3 y3k (y5 2 y3k xN)) [.t 2] ynd := fun s => yj.trans (by kernel_rfl)
def q9_3 (a c d : AV) (h : Heap) : OX :=
ob (y8 .add d (.int .i64 1)) fun b =>
(y1oc a c b h)
def yl7 (s : St) : OX := q9_3 (s 0) (s 3) (s 4) s.h
theorem y28q : T1 y25l ynd (y5 3 y3k (y5 2 y3k xN)) [.t 2] yl7 := fun _ => by kernel_rfl
def q9_4 (h : Heap) : OX :=
(yf h (.int .i64 0))
def y2qa (s : St) : OX := q9_4 s.h
theorem y2dg : T1 y25z yl7 (y5 4 yl7 (y5 3 y3k (y5 2 y3k xN))) [.t 2] y2qa := fun _ => by kernel_rfl
def q9_5 (e d a : AV) (h : Heap) : OX :=
ob (y8 .add d (.int .i64 1)) fun g =>
ob (ydq e (some g) (some a)) fun b =>
oh (y9 E (yb E) 0 none true 60 [b, (.bool false)] h) fun i h1 =>
cnd i
 (ob (y8 .add a (.int .i64 1)) fun c =>
(yf h1 c))
 ((q9_4 h1))
def y2qb (s : St) : OX := q9_5 (s 0) (s 3) (s 4) s.h
theorem y2fh : T1 y27k yl7 (y5 4 yl7 (y5 3 y3k (y5 2 y3k xN))) [.t 2] y2qb := sq y2dg fun _ => by kernel_rfl
def q9_6 (a b c d : AV) (h : Heap) : OX :=
cnd d
 ((q9_5 a b c h))
 ((q9_3 a b c h))
def y2oj (s : St) : OX := q9_6 (s 0) (s 3) (s 4) (s 46) s.h
theorem y2d2 : T1 y272 yl7 (y5 4 yl7 (y5 3 y3k (y5 2 y3k xN))) [.t 2] y2oj := fun s => (y1b (y2fh s) rfl).trans (by kernel_rfl)
def q9_7 (a e b : AV) (h : Heap) : OX :=
ob (y5o a b) fun d =>
ob (y8 .eql d (.int .u8 59)) fun c =>
(q9_6 a e b c h)
def y2g3 (s : St) : OX := q9_7 (s 0) (s 3) (s 4) s.h
theorem y2du : T1 y276 yl7 (y5 4 yl7 (y5 3 y3k (y5 2 y3k xN))) [.t 2] y2g3 := sq y2d2 fun _ => by kernel_rfl
theorem y2g7 : T1 y267 yl7 (y5 3 y3k (y5 2 y3k xN)) [.t 2] y2g3 := fun s => yy.trans (y2du s)
theorem y2fq : T1 y27e ynd (y5 3 y3k (y5 2 y3k xN)) [.t 2] y2g3 := sq y28q y2g7
def y1cg (a e b : AV) (h : Heap) : OX :=
ob (y10 0 a h) fun c =>
ob (y8 .lss b c) fun d =>
cnd d
 ((q9_7 a e b h))
 ((q9_1 h))
def y2mi (s : St) : OX := y1cg (s 0) (s 3) (s 4) s.h
theorem y1yn : T1 y1ef ynd (y5 3 y3k (y5 2 y3k xN)) [.t 2] y2mi := sq y2fq fun _ => by kernel_rfl
theorem y117 (a b c : AV) (h : Heap) : y1oc a b c h = (y1cg a b c h) :=
  y28.trans ((y1c _ _ _ (n' := ynd) (fun s => y154 s)).trans ((y1yn _).trans (by kernel_rfl)))
theorem y249 : T1 y1g0 y3k (y5 2 y3k xN) [.t 2] ynd := fun s => yy.trans (y154 s)
def y2d7 (b a : AV) (h : Heap) : OX :=
ob (y8 .add a (.int .i64 1)) fun c =>
(y1oc b a c h)
def y2ig (s : St) : OX := y2d7 (s 0) (s 3) s.h
theorem y21d : T1 y1ux y3k (y5 2 y3k xN) [.t 2] y2ig := sq y249 fun _ => by kernel_rfl
def y1zb (a c b : AV) (h : Heap) : OX :=
cnd b
 ((y2d7 a c h))
 ((q9_1 h))
def y2jo (s : St) : OX := y1zb (s 0) (s 3) (s 33) s.h
theorem y1zf : T1 y1dv y3k (y5 2 y3k xN) [.t 2] y2jo := fun s => (y1b (y21d s) rfl).trans (by kernel_rfl)
def y1yi (a c d : AV) (h : Heap) : OX :=
ob (y8 .eql d (.int .u8 76)) fun b =>
(y1zb a c b h)
def y2jq (s : St) : OX := y1yi (s 0) (s 3) (s 27) s.h
theorem y22g : T1 y1u2 y3k (y5 2 y3k xN) [.t 2] y2jq := sq y1zf fun _ => by kernel_rfl
def yvr (c a e b : AV) (h : Heap) : OX :=
cnd b
 (ob (y8 .add a (.int .i64 1)) fun d =>
(yf h d))
 ((y1yi c a e h))
def y2mh (s : St) : OX := yvr (s 0) (s 3) (s 27) (s 28) s.h
theorem y23b : T1 y1q8 y3k (y5 2 y3k xN) [.t 2] y2mh := fun s => (y1b rfl (y22g s)).trans (by kernel_rfl)
def y1bw (c b a : AV) (h : Heap) : OX :=
ob (y8 .eql a (.int .u8 73)) fun d =>
cnd d
 ((yvr c b a d h))
 (ob (y8 .eql a (.int .u8 74)) fun e =>
(yvr c b a e h))
def y27m (s : St) : OX := y1bw (s 0) (s 3) (s 27) s.h
theorem y23c : T1 y1l4 y3k (y5 2 y3k xN) [.t 2] y27m := sq y23b fun _ => by kernel_rfl
theorem y20c : T1 y1m9 y3k xN [.t 2] y27m := fun s => yy.trans (y23c s)
def y19d (a b : AV) (h : Heap) : OX :=
ob (y5o a b) fun c =>
(y1bw a b c h)
def y25u (s : St) : OX := y19d (s 0) (s 3) s.h
theorem y25f : T1 y1f2 y3k xN [.t 2] y25u := sq y20c fun _ => by kernel_rfl
theorem y1zm : T0 y1ht [.t 2] y25u := sq y2c0 y25f
def yl8 (c b : AV) (h : Heap) : OX :=
ob (y8 .gtr b (.int .i64 8)) fun a =>
gb a false (some b) fun d =>
gb a false (some c) fun g =>
gb a false (y10 0 g h) fun j =>
gb a false (y8 .eql d j) fun e =>
ob (yd a (.bool true) e) fun i =>
cnd i
 ((yf h (.int .i64 0)))
 ((y19d c b h))
def ygh (s : St) : OX := yl8 (s 0) (s 3) s.h
theorem y1xh : T0 y1ti [.t 2] ygh := sq y1zm fun _ => by kernel_rfl
def yq5 (a b : AV) (h : Heap) : OX :=
  W E 0 yp3 ⟨[(0, a), (3, b)], h⟩ ygh (y5 0 ygh xN) (finP [.t 2])
def yfd (s : St) : OX := yq5 (s 0) (s 3) s.h
theorem yu4 : T1 yp3 ygh (y5 0 ygh xN) [.t 2] yfd := fun s => yj.trans (by kernel_rfl)
def y2fy (a b : AV) (h : Heap) : OX :=
ob (y8 .add b (.int .i64 1)) fun c =>
(yq5 a c h)
def y2km (s : St) : OX := y2fy (s 0) (s 3) s.h
theorem y23n : T1 y1wm yfd (y5 0 ygh xN) [.t 2] y2km := fun _ => by kernel_rfl
def y1h8 (c b : AV) (h : Heap) : OX :=
ob (y10 0 c h) fun j =>
ob (y8 .lss b j) fun a =>
gb a true (some c) fun k =>
gb a true (some b) fun e =>
gb a true (y5o k e) fun i =>
gb a true (y8 .eql i (.int .u8 91)) fun g =>
ob (yd a g (.bool false)) fun d =>
cnd d
 ((y2fy c b h))
 ((yl8 c b h))
def y2i7 (s : St) : OX := y1h8 (s 0) (s 3) s.h
theorem y1yp : T1 y1ma yfd (y5 0 ygh xN) [.t 2] y2i7 := sq y23n fun _ => by kernel_rfl
theorem yrx (a b : AV) (h : Heap) : yq5 a b h = (y1h8 a b h) :=
  y28.trans ((y1c _ _ _ (n' := yfd) (fun s => yu4 s)).trans ((y1yp _).trans (by kernel_rfl)))
theorem y24z : T1 y1kf ygh xN [.t 2] yfd := fun s => yy.trans (yu4 s)
theorem y23t : T0 y1hd [.t 2] yfd := sq y1xh y24z
def y28a (a : AV) (h : Heap) : OX :=
(yq5 a (.int .i64 0) h)
def y2ml (s : St) : OX := y28a (s 0) s.h
theorem y20z : T0 y1ng [.t 2] y2ml := sq y23t fun _ => by kernel_rfl
def y2ff (a : AV) (h : Heap) : OX :=
(y28a a h)
def y2mm (s : St) : OX := y2ff (s 0) s.h
theorem y223 : T0 y1sn [.t 2] y2mm := sq y20z fun _ => by kernel_rfl
@[simp] theorem y2r4 : E.pure 44 = true := rfl
theorem x_q9 (a : AV) : (yb E).p 44 [a] = y2ff a [] :=
  (y15 (cf := c_q9) (by kernel_rfl) rfl).trans ((y223 _).trans (by kernel_rfl))
def q7_1 (h : Heap) : OX :=
(yf h (.bool true))
def yjs (s : St) : OX := q7_1 s.h
theorem y29f : T0 y278 [.t 4] yjs := fun _ => by kernel_rfl
def y1o0 (c d b a : AV) (h : Heap) : OX :=
  W E 0 yvl ⟨[(1, c), (17, d), (18, b), (19, a)], h⟩ yjs (y5 0 yjs xN) (finP [.t 4])
def yjd (s : St) : OX := y1o0 (s 1) (s 17) (s 18) (s 19) s.h
theorem yx3 : T1 yvl yjs (y5 0 yjs xN) [.t 4] yjd := fun s => yj.trans (by kernel_rfl)
def q7_3 (e a b c : AV) (h : Heap) : OX :=
ob (y8 .add c (.int .i64 1)) fun d =>
(y1o0 e a b d h)
def y2pn (s : St) : OX := q7_3 (s 1) (s 17) (s 18) (s 19) s.h
theorem y2da : T1 y27c yjd (y5 0 yjs xN) [.t 4] y2pn := fun _ => by kernel_rfl
def q7_4 (r o C p : AV) (h : Heap) : OX :=
ob (yw 1 o p) fun N =>
ob (evLd false 1 N h) fun a =>
ob (y8 .geq a (.int .u8 97)) fun n =>
gb n true (some a) fun J =>
gb n true (y8 .leq J (.int .u8 122)) fun O =>
ob (yd n O (.bool false)) fun c =>
gb c false (some a) fun D =>
gb c false (y8 .geq D (.int .u8 65)) fun U =>
gb c false (some U) fun m =>
gb m true (some a) fun B =>
gb m true (y8 .leq B (.int .u8 90)) fun Z =>
gb c false (yd m Z (.bool false)) fun Y =>
ob (yd c (.bool true) Y) fun b =>
gb b false (some a) fun x =>
gb b false (y8 .geq x (.int .u8 48)) fun V =>
gb b false (some V) fun i =>
gb i true (some a) fun F =>
gb i true (y8 .leq F (.int .u8 57)) fun w =>
gb b false (yd i w (.bool false)) fun v =>
ob (yd b (.bool true) v) fun g =>
gb g false (some a) fun Q =>
gb g false (y8 .eql Q (.int .u8 95)) fun t =>
ob (yd g (.bool true) t) fun j =>
gb j false (some a) fun M =>
gb j false (y8 .eql M (.int .u8 36)) fun X =>
ob (yd j (.bool true) X) fun l =>
gb l false (some a) fun G =>
gb l false (y8 .eql G (.int .u8 47)) fun H =>
ob (yd l (.bool true) H) fun K =>
ob (evUn .not K) fun e =>
gb e true (some r) fun R =>
gb e true (some R) fun d =>
gb d true (some a) fun L =>
gb d true (y8 .eql L (.int .u8 60)) fun z =>
gb d true (some z) fun k =>
gb k false (some a) fun y =>
gb k false (y8 .eql y (.int .u8 62)) fun I =>
gb d true (yd k (.bool true) I) fun A =>
gb e true (yd d A (.bool false)) fun P =>
gb e true (evUn .not P) fun S =>
ob (yd e S (.bool false)) fun u =>
cnd u
 ((yf h (.bool false)))
 ((q7_3 r o C p h))
def y2pz (s : St) : OX := q7_4 (s 1) (s 17) (s 18) (s 19) s.h
theorem y2e3 : T1 y26l yjd (y5 0 yjs xN) [.t 4] y2pz := sq y2da fun _ => by kernel_rfl
def q7_5 (e a b d c : AV) (h : Heap) : OX :=
cnd c
 ((q7_4 e a b d h))
 ((q7_1 h))
def y2qi (s : St) : OX := q7_5 (s 1) (s 17) (s 18) (s 19) (s 20) s.h
theorem y2cz : T1 y270 yjd (y5 0 yjs xN) [.t 4] y2qi := sq y2e3 fun _ => by kernel_rfl
def q7_6 (e c a b : AV) (h : Heap) : OX :=
ob (y8 .lss b a) fun d =>
(q7_5 e c a b d h)
def y2nr (s : St) : OX := q7_6 (s 1) (s 17) (s 18) (s 19) s.h
theorem y29o : T1 y25s yjd (y5 0 yjs xN) [.t 4] y2nr := sq y2cz fun _ => by kernel_rfl
theorem y14v (c d b a : AV) (h : Heap) : y1o0 c d b a h = (q7_6 c d b a h) :=
  y28.trans ((y1c _ _ _ (n' := yjd) (fun s => yx3 s)).trans ((y29o _).trans (by kernel_rfl)))
theorem y2ee : T1 y26i yjs xN [.t 4] yjd := fun s => yy.trans (yx3 s)
def q7_8 (b d : AV) (h : Heap) : OX :=
oh (s2bC 0 (some 0) b h) fun a h1 =>
ob (y10 1 a h1) fun c =>
(y1o0 d a c (.int .i64 0) h1)
def y2lp (s : St) : OX := q7_8 (s 0) (s 1) s.h
theorem y2b0 : T1 y26t yjs xN [.t 4] y2lp := sq y2ee fun _ => by kernel_rfl
theorem y2ep : T0 y27n [.t 4] y2lp := sq y29f y2b0
def y1th (b j : AV) (h : Heap) : OX :=
ob (y10 0 b h) fun e =>
ob (y8 .lss e (.int .i64 1)) fun a =>
gb a false (some b) fun g =>
gb a false (y10 0 g h) fun d =>
gb a false (y8 .gtr d (.int .i64 60)) fun c =>
ob (yd a (.bool true) c) fun i =>
cnd i
 ((yf h (.bool false)))
 ((q7_8 b j h))
def y2le (s : St) : OX := y1th (s 0) (s 1) s.h
theorem y22f : T0 y1eg [.t 4] y2le := sq y2ep fun _ => by kernel_rfl
def y1se (a b : AV) (h : Heap) : OX :=
(y1th a b h)
def y2lf (s : St) : OX := y1se (s 0) (s 1) s.h
theorem y1zu : T0 y1lz [.t 4] y2lf := sq y22f fun _ => by kernel_rfl
@[simp] theorem y2ot : E.pure 60 = true := rfl
theorem x_q7 (a b : AV) : (yb E).p 60 [a, b] = y1se a b [⟨0, .dead⟩] :=
  (y15 (cf := c_q7) (by kernel_rfl) rfl).trans ((y1zu _).trans (by kernel_rfl))
end
end Go.Vm
