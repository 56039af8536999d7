/- Functions of the machine as plain functions that go on with what follows. -/
import Derived.Test.YtgbajicpokolcaaGEnv
set_option linter.unusedSimpArgs false
set_option linter.unusedVariables false
set_option linter.unusedSectionVars false
namespace Go.Vm
noncomputable section
def y2y (h : Heap) : OX :=
(yf h (.bool true))
def y12 (s : St) : OX := y2y s.h
theorem y1ti : T0 y164 [.t 4] y12 := fun _ => by kernel_rfl
def y2x (b e : AV) (h : Heap) : OX :=
ob (evFa 2 e) fun j =>
ob (evLd false 1 j h) fun l =>
ob (y8 .neq l (.int .i64 (-1))) fun a =>
ofp (fgd a true (some (ids1 b, []))) fun f4 =>
gb a true (evLd true 5 b h) fun c =>
ofp (fgd a true (some ([], []))) fun f5 =>
gb a true (evFa 2 e) fun d =>
ofp (fgd a true (some (ids1 d, []))) fun f6 =>
gb a true (evLd false 1 d h) fun g =>
ofp (fgd a true (y4i E (yb E) 0 none true 48 [c, g] h)) fun f7 =>
gh a true (y9 E (yb E) 0 none true 48 [c, g] h) h fun k h1 =>
ofp (fgd a true (some ([], []))) fun f8 =>
gb a true (evFa 2 b) fun i =>
ofp (fgd a true (some (ids1 i, []))) fun f9 =>
gb a true (evLd false 1 i h1) fun n =>
ofp (fgd a true (some ([], []))) fun f10 =>
gb a true (y8 .eql k n) fun o =>
ob (yd a o (.bool false)) fun m =>
okK (yg [([], []), (ids1 j, []), ([], []), ([], []), f4, f5, f6, f7, f8, f9, f10, ([], []), ([], [])] [(7, 9)]) <|
(yf h1 m)
def y29n (s : St) : OX := y2x (s 2) (s 3) s.h
theorem y1rn : T1 y17d y12 (y5 2 y12 xN) [.t 4] y29n := fun _ => by kernel_rfl
def y2t (b a : AV) (h : Heap) : OX :=
ob (evFa 2 b) fun j =>
ob (evLd false 1 j h) fun i =>
ob (y8 .eql i (.int .i64 0)) fun e =>
cnd e
 (ob (evFa 2 a) fun d =>
ob (evLd false 1 d h) fun g =>
ob (y8 .eql g (.int .i64 (-1))) fun c =>
(yf h c))
 ((y2x b a h))
def y2fl (s : St) : OX := y2t (s 2) (s 3) s.h
theorem y1on : T1 y12o y12 (y5 2 y12 xN) [.t 4] y2fl := sq y1rn fun _ => by kernel_rfl
def y2r (c a b : AV) (h : Heap) : OX :=
cnd b
 ((y2t c a h))
 ((y2y h))
def y2c0 (s : St) : OX := y2r (s 2) (s 3) (s 207) s.h
theorem y1lt : T1 y186 y12 (y5 2 y12 xN) [.t 4] y2c0 := fun s => (y1b (y1on s) rfl).trans (by kernel_rfl)
def y2w (d c b : AV) (h : Heap) : OX :=
ob (y8 .eql b (.int .i64 30)) fun a =>
(y2r d c a h)
def y2cd (s : St) : OX := y2w (s 2) (s 3) (s 55) s.h
theorem y1et : T1 y121 y12 (y5 2 y12 xN) [.t 4] y2cd := sq y1lt fun _ => by kernel_rfl
def y2q (g a B w : AV) (h : Heap) : OX :=
cnd w
 (ob (evFa 5 a) fun t =>
ob (evLd false 1 t h) fun F =>
ob (y8 .eql F (.int .i64 0)) fun e =>
gb e false (evFa 5 a) fun n =>
gb e false (evLd false 1 n h) fun u =>
gb e false (y8 .eql u (.int .i64 1)) fun A =>
ob (yd e (.bool true) A) fun b =>
gb b true (evFa 3 a) fun p =>
gb b true (evLd false 1 p h) fun l =>
gb b true (y8 .eql l (.int .i64 (-1))) fun y =>
gb b true (some y) fun c =>
gb c false (evLd true 5 g h) fun x =>
gb c false (evFa 3 a) fun v =>
gb c false (evLd false 1 v h) fun D =>
gh c false (y9 E (yb E) 0 none true 48 [x, D] h) h fun o h2 =>
gb c false (y8 .eql o (.int .i64 3)) fun m =>
gb b true (yd c (.bool true) m) fun C =>
ob (yd b C (.bool false)) fun d =>
gb d true (evLd true 5 g h2) fun i =>
gb d true (evFa 6 a) fun j =>
gb d true (evLd false 1 j h2) fun k =>
gh d true (y9 E (yb E) 0 none true 49 [i, k] h2) h2 fun r h3 =>
ob (yd d r (.bool false)) fun z =>
(yf h3 z))
 ((y2w g a B h))
def y2f3 (s : St) : OX := y2q (s 2) (s 3) (s 55) (s 179) s.h
theorem y1nd : T1 y156 y12 (y5 2 y12 xN) [.t 4] y2f3 := fun s => (y1b rfl (y1et s)).trans (by kernel_rfl)
def y2s (d c a : AV) (h : Heap) : OX :=
ob (y8 .eql a (.int .i64 29)) fun b =>
(y2q d c a b h)
def y298 (s : St) : OX := y2s (s 2) (s 3) (s 55) s.h
theorem y1ul : T1 y144 y12 (y5 2 y12 xN) [.t 4] y298 := sq y1nd fun _ => by kernel_rfl
def y2u (b a c d : AV) (h : Heap) : OX :=
cnd d
 (ob (evLd true 5 b h) fun i =>
ob (evFa 6 a) fun e =>
ob (evLd false 1 e h) fun g =>
oh (y9 E (yb E) 0 none true 49 [i, g] h) fun j h4 =>
(yf h4 j))
 ((y2s b a c h))
def y2em (s : St) : OX := y2u (s 2) (s 3) (s 55) (s 173) s.h
theorem y1ir : T1 yza y12 (y5 2 y12 xN) [.t 4] y2em := fun s => (y1b rfl (y1ul s)).trans (by kernel_rfl)
def y2v (d c a : AV) (h : Heap) : OX :=
ob (y8 .eql a (.int .i64 27)) fun b =>
(y2u d c a b h)
def y2c9 (s : St) : OX := y2v (s 2) (s 3) (s 55) s.h
theorem y1tm : T1 y12y y12 (y5 2 y12 xN) [.t 4] y2c9 := sq y1ir fun _ => by kernel_rfl
def y1v (d b e k : AV) (h : Heap) : OX :=
cnd k
 (ob (evFa 5 b) fun n =>
ob (evLd false 1 n h) fun o =>
ob (y8 .geq o (.int .i64 0)) fun c =>
gb c true (evFa 5 b) fun t =>
gb c true (evLd false 1 t h) fun l =>
gb c true (y8 .leq l (.int .i64 5)) fun g =>
ob (yd c g (.bool false)) fun a =>
gb a true (evLd true 5 d h) fun m =>
gb a true (evFa 6 b) fun i =>
gb a true (evLd false 1 i h) fun p =>
gh a true (y9 E (yb E) 0 none true 49 [m, p] h) h fun j h5 =>
ob (yd a j (.bool false)) fun r =>
(yf h5 r))
 ((y2v d b e h))
def y21d (s : St) : OX := y1v (s 2) (s 3) (s 55) (s 157) s.h
theorem y1ak : T1 yu7 y12 (y5 2 y12 xN) [.t 4] y21d := fun s => (y1b rfl (y1tm s)).trans (by kernel_rfl)
def y1u (d b a : AV) (h : Heap) : OX :=
ob (y8 .eql a (.int .i64 28)) fun c =>
(y1v d b a c h)
def y24u (s : St) : OX := y1u (s 2) (s 3) (s 55) s.h
theorem y1bf : T1 yrm y12 (y5 2 y12 xN) [.t 4] y24u := sq y1ak fun _ => by kernel_rfl
def y1j (b a c e : AV) (h : Heap) : OX :=
cnd e
 (ob (evLd true 5 b h) fun d =>
ob (evLd true 9 a h) fun i =>
oh (y9 E (yb E) 0 none true 68 [d, i] h) fun g h6 =>
(yf h6 g))
 ((y1u b a c h))
def y1yn (s : St) : OX := y1j (s 2) (s 3) (s 55) (s 149) s.h
theorem y1b7 : T1 yru y12 (y5 2 y12 xN) [.t 4] y1yn := fun s => (y1b rfl (y1bf s)).trans (by kernel_rfl)
def y20 (c b a : AV) (h : Heap) : OX :=
ob (y8 .eql a (.int .i64 23)) fun e =>
cnd e
 ((y1j c b a e h))
 (ob (y8 .eql a (.int .i64 24)) fun g =>
cnd g
 ((y1j c b a g h))
 (ob (y8 .eql a (.int .i64 25)) fun d =>
cnd d
 ((y1j c b a d h))
 (ob (y8 .eql a (.int .i64 26)) fun i =>
(y1j c b a i h))))
def y1zy (s : St) : OX := y20 (s 2) (s 3) (s 55) s.h
theorem y194 : T1 yq2 y12 (y5 2 y12 xN) [.t 4] y1zy := sq y1b7 fun _ => by kernel_rfl
def y1o (i a b e : AV) (h : Heap) : OX :=
cnd e
 (ob (evFa 5 a) fun g =>
ob (evLd false 1 g h) fun d =>
ob (y8 .geq d (.int .i64 0)) fun c =>
(yf h c))
 ((y20 i a b h))
def y216 (s : St) : OX := y1o (s 2) (s 3) (s 55) (s 143) s.h
theorem y1az : T1 ysg y12 (y5 2 y12 xN) [.t 4] y216 := fun s => (y1b rfl (y194 s)).trans (by kernel_rfl)
def y1y (c b a : AV) (h : Heap) : OX :=
ob (y8 .eql a (.int .i64 16)) fun d =>
cnd d
 ((y1o c b a d h))
 (ob (y8 .eql a (.int .i64 17)) fun e =>
(y1o c b a e h))
def y23r (s : St) : OX := y1y (s 2) (s 3) (s 55) s.h
theorem y1ck : T1 yt2 y12 (y5 2 y12 xN) [.t 4] y23r := sq y1az fun _ => by kernel_rfl
def y1l (i a b d : AV) (h : Heap) : OX :=
cnd d
 (ob (evFa 7 a) fun c =>
ob (evLd false 1 c h) fun g =>
oh (y9 E (yb E) 0 none true 67 [g] h) fun e h7 =>
(yf h7 e))
 ((y1y i a b h))
def y1yg (s : St) : OX := y1l (s 2) (s 3) (s 55) (s 136) s.h
theorem y18s : T1 yqg y12 (y5 2 y12 xN) [.t 4] y1yg := fun s => (y1b rfl (y1ck s)).trans (by kernel_rfl)
def y21 (c b a : AV) (h : Heap) : OX :=
ob (y8 .eql a (.int .i64 12)) fun e =>
cnd e
 ((y1l c b a e h))
 (ob (y8 .eql a (.int .i64 21)) fun d =>
cnd d
 ((y1l c b a d h))
 (ob (y8 .eql a (.int .i64 22)) fun g =>
(y1l c b a g h)))
def y1zc (s : St) : OX := y21 (s 2) (s 3) (s 55) s.h
theorem y1bl : T1 yrj y12 (y5 2 y12 xN) [.t 4] y1zc := sq y18s fun _ => by kernel_rfl
def y1z (e c g A k B l : AV) (h : Heap) : OX :=
cnd l
 (ob (y8 .gtr g (.int .i64 0)) fun d =>
gb d true (some A) fun o =>
gb d true (y8 .eql o (.int .i64 0)) fun x =>
ob (yd d x (.bool false)) fun a =>
gb a true (evLd true 5 e h) fun n =>
gb a true (evFa 1 c) fun z =>
gb a true (evLd false 1 z h) fun i =>
gh a true (y9 E (yb E) 0 none true 48 [n, i] h) h fun m h8 =>
gb a true (some k) fun C =>
gb a true (y8 .eql m C) fun v =>
ob (yd a v (.bool false)) fun b =>
gb b true (evLd true 5 e h8) fun t =>
gb b true (evFa 2 c) fun p =>
gb b true (evLd false 1 p h8) fun w =>
gh b true (y9 E (yb E) 0 none true 48 [t, w] h8) h8 fun j h9 =>
gb b true (some g) fun r =>
gb b true (y8 .eql j r) fun u =>
ob (yd b u (.bool false)) fun y =>
(yf h9 y))
 ((y21 e c B h))
def y1xq (s : St) : OX := y1z (s 2) (s 3) (s 8) (s 9) (s 10) (s 55) (s 112) s.h
theorem y192 : T1 yqa y12 (y5 2 y12 xN) [.t 4] y1xq := fun s => (y1b rfl (y1bl s)).trans (by kernel_rfl)
def y1s (i d e g c a : AV) (h : Heap) : OX :=
ob (y8 .eql a (.int .i64 6)) fun b =>
(y1z i d e g c a b h)
def y1zn (s : St) : OX := y1s (s 2) (s 3) (s 8) (s 9) (s 10) (s 55) s.h
theorem y18y : T1 ysl y12 (y5 2 y12 xN) [.t 4] y1zn := sq y192 fun _ => by kernel_rfl
def y1w (e d j g i G m : AV) (h : Heap) : OX :=
cnd m
 (ob (y8 .gtr g (.int .i64 0)) fun b =>
gb b true (evLd true 5 e h) fun k =>
gb b true (evFa 1 d) fun x =>
gb b true (evLd false 1 x h) fun u =>
gh b true (y9 E (yb E) 0 none true 48 [k, u] h) h fun n h10 =>
gb b true (some i) fun y =>
gb b true (y8 .eql n y) fun o =>
ob (yd b o (.bool false)) fun c =>
gb c true (evLd true 5 e h10) fun F =>
gb c true (evFa 2 d) fun C =>
gb c true (evLd false 1 C h10) fun l =>
gh c true (y9 E (yb E) 0 none true 48 [F, l] h10) h10 fun p h11 =>
gb c true (some j) fun D =>
gb c true (y8 .eql p D) fun B =>
ob (yd c B (.bool false)) fun a =>
gb a true (evLd true 5 e h11) fun z =>
gb a true (evFa 3 d) fun v =>
gb a true (evLd false 1 v h11) fun w =>
gh a true (y9 E (yb E) 0 none true 48 [z, w] h11) h11 fun t h12 =>
gb a true (some g) fun r =>
gb a true (y8 .eql t r) fun H =>
ob (yd a H (.bool false)) fun A =>
(yf h12 A))
 ((y1s e d j g i G h))
def y25e (s : St) : OX := y1w (s 2) (s 3) (s 8) (s 9) (s 10) (s 55) (s 84) s.h
theorem y19s : T1 yr0 y12 (y5 2 y12 xN) [.t 4] y25e := fun s => (y1b rfl (y18y s)).trans (by kernel_rfl)
def y1x (i c d e b a : AV) (h : Heap) : OX :=
ob (y8 .eql a (.int .i64 5)) fun g =>
(y1w i c d e b a g h)
def y21z (s : St) : OX := y1x (s 2) (s 3) (s 8) (s 9) (s 10) (s 55) s.h
theorem y199 : T1 yu2 y12 (y5 2 y12 xN) [.t 4] y21z := sq y19s fun _ => by kernel_rfl
def y1q (a b o r l k t : AV) (h : Heap) : OX :=
cnd t
 (ob (evLd true 5 a h) fun c =>
ob (evFa 1 b) fun j =>
ob (evLd false 1 j h) fun g =>
ofp (y4i E (yb E) 0 none true 48 [c, g] h) fun f3 =>
oh (y9 E (yb E) 0 none true 48 [c, g] h) fun n h13 =>
ob (evLd true 5 a h13) fun i =>
ob (evFa 2 b) fun e =>
ob (evLd false 1 e h13) fun d =>
ofp (y4i E (yb E) 0 none true 48 [i, d] h13) fun f7 =>
oh (y9 E (yb E) 0 none true 48 [i, d] h13) fun m h14 =>
ob (y8 .eql n m) fun p =>
okK (yg [(ids1 a, []), ([], []), (ids1 j, []), f3, (ids1 a, []), ([], []), (ids1 e, []), f7, ([], []), ([], [])] [(3, 4), (3, 6)]) <|
(yf h14 p))
 ((y1x a b o r l k h))
def y24k (s : St) : OX := y1q (s 2) (s 3) (s 8) (s 9) (s 10) (s 55) (s 73) s.h
theorem y193 : T1 yqv y12 (y5 2 y12 xN) [.t 4] y24k := fun s => (y1b rfl (y199 s)).trans (by kernel_rfl)
def y1p (i c d g b a : AV) (h : Heap) : OX :=
ob (y8 .eql a (.int .i64 4)) fun e =>
(y1q i c d g b a e h)
def y22p (s : St) : OX := y1p (s 2) (s 3) (s 8) (s 9) (s 10) (s 55) s.h
theorem y1a6 : T1 ys0 y12 (y5 2 y12 xN) [.t 4] y22p := sq y193 fun _ => by kernel_rfl
def y1i (d c x p g t w : AV) (h : Heap) : OX :=
cnd w
 (ob (evLd true 5 d h) fun v =>
ob (evFa 1 c) fun u =>
ob (evLd false 1 u h) fun r =>
oh (y9 E (yb E) 0 none true 48 [v, r] h) fun e h15 =>
ob (y8 .eql e (.int .i64 2)) fun a =>
gb a false (evFa 5 c) fun o =>
gb a false (evLd false 1 o h15) fun l =>
gb a false (y8 .geq l (.int .i64 (-2147483648))) fun i =>
gb a false (some i) fun b =>
gb b true (evFa 5 c) fun n =>
gb b true (evLd false 1 n h15) fun m =>
gb b true (y8 .lss m (.int .i64 2147483648)) fun k =>
gb a false (yd b k (.bool false)) fun j =>
ob (yd a (.bool true) j) fun y =>
(yf h15 y))
 ((y1p d c x p g t h))
def y1xn (s : St) : OX := y1i (s 2) (s 3) (s 8) (s 9) (s 10) (s 55) (s 56) s.h
theorem y1a3 : T1 yq5 y12 (y5 2 y12 xN) [.t 4] y1xn := fun s => (y1b rfl (y1a6 s)).trans (by kernel_rfl)
def y1f (i c e g b a : AV) (h : Heap) : OX :=
ob (y8 .eql a (.int .i64 1)) fun d =>
(y1i i c e g b a d h)
def y0j (s : St) : OX := y1f (s 2) (s 3) (s 8) (s 9) (s 10) (s 55) s.h
theorem y1am : T1 yr3 y12 (y5 2 y12 xN) [.t 4] y0j := sq y1a3 fun _ => by kernel_rfl
theorem y1al : T1 yq4 y12 xN [.t 4] y0j := fun s => yy.trans (y1am s)
def yfl (i a e g c : AV) (h : Heap) : OX :=
ob (evFa 0 a) fun d =>
ob (evLd false 1 d h) fun b =>
(y1f i a e g c b h)
def y112 (s : St) : OX := yfl (s 2) (s 3) (s 8) (s 9) (s 10) s.h
theorem y1cj : T1 ysk y12 xN [.t 4] y112 := sq y1al fun _ => by kernel_rfl
theorem y19b : T0 yrh [.t 4] y112 := sq y1ti y1cj
def yi3 (d a u v i : AV) (h : Heap) : OX :=
ob (evFa 5 a) fun l =>
ob (evLd false 1 l h) fun j =>
ob (y8 .geq j (.int .i64 0)) fun b =>
gb b true (evFa 5 a) fun m =>
gb b true (evLd false 1 m h) fun n =>
gb b true (y8 .lss n (.int .i64 1000)) fun r =>
ob (yd b r (.bool false)) fun o =>
cnd o
 (ob (evFa 5 a) fun p =>
ob (evLd false 1 p h) fun e =>
oh (y9 E (yb E) 0 none true 66 [e] h) fun c h16 =>
ob (y3z 0 c) fun g =>
ob (y3z 1 c) fun t =>
ob (y3z 2 c) fun k =>
(yfl d a g t k h16))
 ((yfl d a u v i h))
def y20j (s : St) : OX := yi3 (s 2) (s 3) (s 8) (s 9) (s 10) s.h
theorem y1bq : T0 ytv [.t 4] y20j := sq y19b fun _ => by kernel_rfl
def yie (b a : AV) (h : Heap) : OX :=
(yi3 b a (.int .i64 0) (.int .i64 0) (.int .i64 0) h)
def y5f (s : St) : OX := yie (s 2) (s 3) s.h
theorem y1ch : T0 yt7 [.t 4] y5f := sq y1bq fun _ => by kernel_rfl
def y5e (e c d a b : AV) (h : Heap) : OX :=
  W E 0 yey ⟨[(2, e), (3, c), (5, d), (6, a), (7, b)], h⟩ y5f (y5 0 y5f xN) (finP [.t 4])
def y7v (s : St) : OX := y5e (s 2) (s 3) (s 5) (s 6) (s 7) s.h
theorem yj0 : T1 yey y5f (y5 0 y5f xN) [.t 4] y7v := fun s => yj.trans (by kernel_rfl)
def yp1 (g c e a b : AV) (h : Heap) : OX :=
ob (y8 .add b (.int .i64 1)) fun d =>
(y5e g c e a d h)
def y207 (s : St) : OX := yp1 (s 2) (s 3) (s 5) (s 6) (s 7) s.h
theorem y1bz : T1 yqm y7v (y5 0 y5f xN) [.t 4] y207 := fun _ => by kernel_rfl
def ywf (d i c b a : AV) (h : Heap) : OX :=
ob (evLd true 5 d h) fun k =>
ob (yw 1 b a) fun e =>
ob (evLd false 1 e h) fun l =>
ob (y5v c a) fun g =>
oh (y9 E (yb E) 0 none true 65 [k, l, g] h) fun j h17 =>
ob (evUn .not j) fun m =>
cnd m
 ((yf h17 (.bool false)))
 ((yp1 d i c b a h17))
def y20x (s : St) : OX := ywf (s 2) (s 3) (s 5) (s 6) (s 7) s.h
theorem y197 : T1 yt0 y7v (y5 0 y5f xN) [.t 4] y20x := sq y1bz fun _ => by kernel_rfl
def yfj (c b g e a : AV) (h : Heap) : OX :=
ob (y8 .lss a (.int .i64 4)) fun d =>
cnd d
 ((ywf c b g e a h))
 ((yie c b h))
def y23y (s : St) : OX := yfj (s 2) (s 3) (s 5) (s 6) (s 7) s.h
theorem y19h : T1 yrn y7v (y5 0 y5f xN) [.t 4] y23y := sq y197 fun _ => by kernel_rfl
theorem yk9 (e c d a b : AV) (h : Heap) : y5e e c d a b h = (yfj e c d a b h) :=
  y28.trans ((y1c _ _ _ (n' := y7v) (fun s => yj0 s)).trans ((y19h _).trans (by kernel_rfl)))
theorem y1by : T1 yul y5f xN [.t 4] y7v := fun s => yy.trans (yj0 s)
def yux (d b a c : AV) (h : Heap) : OX :=
(y5e d b a c (.int .i64 0) h)
def y14e (s : St) : OX := yux (s 2) (s 3) (s 5) (s 6) s.h
theorem y19k : T1 yt6 y5f xN [.t 4] y14e := sq y1by fun _ => by kernel_rfl
theorem y198 : T0 yue [.t 4] y14e := sq y1ch y19k
def ywj (n a l : AV) (h : Heap) : OX :=
ob (evFa 1 a) fun e =>
ob (evLd false 1 e h) fun d =>
ob (evFa 2 a) fun k =>
ob (evLd false 1 k h) fun m =>
ob (evFa 3 a) fun b =>
ob (evLd false 1 b h) fun c =>
ob (evFa 4 a) fun i =>
ob (evLd false 1 i h) fun g =>
oh (y10 0 (some 2) 1 4 [(.int .i64 0)] [(0, d), (1, m), (2, c), (3, g)] h) fun j h18 =>
(yux n a l j h18)
def y1zp (s : St) : OX := ywj (s 2) (s 3) (s 5) s.h
theorem y1b8 : T0 yuo [.t 4] y1zp := sq y198 fun _ => by kernel_rfl
def yim (d b a : AV) (h : Heap) : OX :=
ob (y8 .eql a (AV.str [])) fun c =>
cnd c
 ((yf h (.bool false)))
 ((ywj d b a h))
def y244 (s : St) : OX := yim (s 2) (s 3) (s 5) s.h
theorem y19o : T0 yrf [.t 4] y244 := sq y1b8 fun _ => by kernel_rfl
def yig (e a : AV) (h : Heap) : OX :=
ob (evFa 0 a) fun b =>
ob (evLd false 1 b h) fun d =>
oh (y9 E (yb E) 0 none true 38 [d] h) fun c h19 =>
(yim e a c h19)
def y25g (s : St) : OX := yig (s 2) (s 3) s.h
theorem y1ae : T0 ysh [.t 4] y25g := sq y19o fun _ => by kernel_rfl
def yg5 (b a : AV) (h : Heap) : OX :=
oh (newC 0 (some 0) (cellsOf b) h) fun d h20 =>
oh (newC 0 (some 1) (cellsOf a) h20) fun c h21 =>
(yig d c h21)
def y22f (s : St) : OX := yg5 (s 0) (s 1) s.h
theorem y1cn : T0 yse [.t 4] y22f := sq y1ae fun _ => by kernel_rfl
@[simp] theorem y2ox : E.pure 64 = true := rfl
theorem y2lq (b a : AV) : (yb E).p 64 [b, a] = yg5 b a [⟨0, .dead⟩, ⟨0, .dead⟩, ⟨0, .dead⟩] :=
  (y15 (cf := y25q) (by kernel_rfl) rfl).trans ((y1cn _).trans (by kernel_rfl))
def y1jw (b : AV) (h : Heap) : OX :=
oh (y10 0 (some 0) 1 3 [(.int .i64 0)] [(0, (.int .i64 27)), (1, (.int .i64 28)), (2, (.int .i64 29))] h) fun a h1 =>
oh (y9 E (yb E) 0 none true 42 [b, a] h1) fun c h2 =>
(yf h2 c)
def y28a (s : St) : OX := y1jw (s 0) s.h
theorem y1us : T0 yye [.t 2] y28a := fun _ => by kernel_rfl
@[simp] theorem y2o8 : E.pure 23 = true := rfl
theorem y2lb (a : AV) : (yb E).p 23 [a] = y1jw a [⟨0, .dead⟩] :=
  (y15 (cf := y275) (by kernel_rfl) rfl).trans ((y1us _).trans (by kernel_rfl))
def y1cw (d b : AV) (h : Heap) : OX :=
oh (newC 0 (some 0) (cellsOf d) h) fun l h1 =>
ob (y8 .geq b (.int .i64 0)) fun a =>
gb a true (some b) fun e =>
gb a true (evFa 3 l) fun k =>
gb a true (evLd false 1 k h1) fun g =>
gb a true (y13 1 g h1) fun c =>
gb a true (y8 .lss e c) fun j =>
ob (yd a j (.bool false)) fun i =>
(yf h1 i)
def y2dp (s : St) : OX := y1cw (s 0) (s 1) s.h
theorem y1hx : T0 y13n [.t 4] y2dp := fun _ => by kernel_rfl
@[simp] theorem y2px : E.pure 49 = true := rfl
theorem y2i9 (b a : AV) : (yb E).p 49 [b, a] = y1cw b a [⟨0, .dead⟩] :=
  (y15 (cf := y25p) (by kernel_rfl) rfl).trans ((y1hx _).trans (by kernel_rfl))
def y1n5 (c : AV) (h : Heap) : OX :=
oh (y10 0 (some 0) 1 0 [(.bool false)] [] h) fun a h1 =>
oh (y41 0 (some 1) 1 1 a c h1) fun b h2 =>
(yf h2 b)
def y28m (s : St) : OX := y1n5 (s 0) s.h
theorem y1qw : T0 y16a [.t 2] y28m := fun _ => by kernel_rfl
def y1r1 (a : AV) (h : Heap) : OX :=
ob (y4w 1 false a AV.nils) fun b =>
cnd b
 ((yf h AV.nils))
 ((y1n5 a h))
def y2at (s : St) : OX := y1r1 (s 0) s.h
theorem y1me : T0 y14q [.t 2] y2at := sq y1qw fun _ => by kernel_rfl
def y1fw (a : AV) (h : Heap) : OX :=
(y1r1 a h)
def y2dq (s : St) : OX := y1fw (s 0) s.h
theorem y1ij : T0 y13c [.t 2] y2dq := sq y1me fun _ => by kernel_rfl
@[simp] theorem y2nv : E.pure 78 = true := rfl
theorem y2l4 (a : AV) : (yb E).p 78 [a] = y1fw a [⟨0, .dead⟩, ⟨0, .dead⟩] :=
  (y15 (cf := y25k) (by kernel_rfl) rfl).trans ((y1ij _).trans (by kernel_rfl))
def y1t2 (fb : Nat) (a : AV) (h : Heap) : Option (AV × Heap) :=
(some (a, h))
def y27s (fb : Nat) (s : St) : Option (AV × Heap) := y1t2 fb (s 3) s.h
theorem y1z9 (fb : Nat) (s : St) : W E fb y1lc s (finI [.t 8]) xN (finI [.t 8]) = y27s fb s :=
  by kernel_rfl
def y18z (fb : Nat) (d a e : AV) (h : Heap) : Option (AV × Heap) :=
cnd e
 (oh (y10 fb (some 3) 1 1 [(.int .i64 0)] [(0, d)] h) fun c h1 =>
oh (y41 fb (some 4) 1 8 a c h1) fun b h2 =>
(y1t2 fb b h2))
 ((y1t2 fb a h))
def y9d (fb : Nat) (s : St) : Option (AV × Heap) := y18z fb (s 1) (s 3) (s 9) s.h
theorem y1zu (fb : Nat) (s : St) : W E fb y1kw s (finI [.t 8]) xN (finI [.t 8]) = y9d fb s :=
  (yeq (k := (y27s fb)) (fun s => y1z9 fb s)).trans (by kernel_rfl)
def yta (fb : Nat) (a e j d i g c b : AV) (h : Heap) : Option (AV × Heap) :=
  W E fb you ⟨[(0, a), (1, e), (2, j), (3, d), (9, i), (29, g), (30, c), (31, b)], h⟩ (y9d fb) (y5 0 (y9d fb) xN) (finI [.t 8])
def yax (fb : Nat) (s : St) : Option (AV × Heap) := yta fb (s 0) (s 1) (s 2) (s 3) (s 9) (s 29) (s 30) (s 31) s.h
theorem ytm (fb : Nat) (s : St) : W E fb you s (y9d fb) (y5 0 (y9d fb) xN) (finI [.t 8]) = yax fb s := yj.trans (by kernel_rfl)
def y18v (fb : Nat) (a g k d j i c b : AV) (h : Heap) : Option (AV × Heap) :=
ob (y8 .add b (.int .i64 1)) fun e =>
(yta fb a g k d j i c e h)
def y26i (fb : Nat) (s : St) : Option (AV × Heap) := y18v fb (s 0) (s 1) (s 2) (s 3) (s 9) (s 29) (s 30) (s 31) s.h
theorem y213 (fb : Nat) (s : St) : W E fb y1os s (yax fb) (y5 0 (y9d fb) xN) (finI [.t 8]) = y26i fb s :=
  by kernel_rfl
def y1g7 (fb : Nat) (c d g j t e i b : AV) (h : Heap) : Option (AV × Heap) :=
ob (yw 1 e b) fun p =>
ob (evLd false 1 p h) fun a =>
gb a true (some g) fun u =>
gb a true (some b) fun v =>
gb a true (yw 1 u v) fun o =>
gb a true (evLd false 1 o h) fun k =>
gb a true (evUn .not k) fun n =>
ob (yd a n (.bool false)) fun w =>
cnd w
 (ob (yw 1 c d) fun r =>
ob (evLd false 1 r h) fun l =>
ob (yw 1 l b) fun m =>
oh (evSt 1 m (.bool false) h) fun _ h3 =>
(y18v fb c d g j (.bool true) e i b h3))
 ((y18v fb c d g j t e i b h))
def y272 (fb : Nat) (s : St) : Option (AV × Heap) := y1g7 fb (s 0) (s 1) (s 2) (s 3) (s 9) (s 29) (s 30) (s 31) s.h
theorem y250 (fb : Nat) (s : St) : W E fb y1k4 s (yax fb) (y5 0 (y9d fb) xN) (finI [.t 8]) = y272 fb s :=
  (yeq (k := (y26i fb)) (fun s => y213 fb s)).trans (by kernel_rfl)
def y19d (fb : Nat) (d b k a c j i g e : AV) (h : Heap) : Option (AV × Heap) :=
cnd e
 ((y1g7 fb d b k a c j i g h))
 ((y18z fb b a c h))
def y25z (fb : Nat) (s : St) : Option (AV × Heap) := y19d fb (s 0) (s 1) (s 2) (s 3) (s 9) (s 29) (s 30) (s 31) (s 32) s.h
theorem y24x (fb : Nat) (s : St) : W E fb y1tq s (yax fb) (y5 0 (y9d fb) xN) (finI [.t 8]) = y25z fb s :=
  (yeq (k := (y272 fb)) (fun s => y250 fb s)).trans (by kernel_rfl)
def y1bj (fb : Nat) (c g k e j i b a : AV) (h : Heap) : Option (AV × Heap) :=
ob (y8 .lss a b) fun d =>
(y19d fb c g k e j i b a d h)
def y2gr (fb : Nat) (s : St) : Option (AV × Heap) := y1bj fb (s 0) (s 1) (s 2) (s 3) (s 9) (s 29) (s 30) (s 31) s.h
theorem y1zh (fb : Nat) (s : St) : W E fb y1wi s (yax fb) (y5 0 (y9d fb) xN) (finI [.t 8]) = y2gr fb s :=
  (yeq (k := (y25z fb)) (fun s => y24x fb s)).trans (by kernel_rfl)
theorem yrs (fb : Nat) (a e j d i g c b : AV) (h : Heap) : yta fb a e j d i g c b h = (y1bj fb a e j d i g c b h) :=
  y28.trans ((y1c _ _ _ (n' := (yax fb)) (fun s => ytm fb s)).trans ((y1zh fb _).trans (by kernel_rfl)))
theorem y21j (fb : Nat) (s : St) : W E fb y1rs s (y9d fb) xN (finI [.t 8]) = yax fb s :=
  yy.trans (ytm fb s)
def y2be (fb : Nat) (a b j e i : AV) (h : Heap) : Option (AV × Heap) :=
ob (yw 1 a b) fun g =>
ob (evLd false 1 g h) fun c =>
ob (y13 1 c h) fun d =>
(yta fb a b j e i c d (.int .i64 0) h)
def y1rv (fb : Nat) (s : St) : Option (AV × Heap) := y2be fb (s 0) (s 1) (s 2) (s 3) (s 9) s.h
theorem y247 (fb : Nat) (s : St) : W E fb y1hy s (y9d fb) xN (finI [.t 8]) = y1rv fb s :=
  (yeq (k := (yax fb)) (fun s => y21j fb s)).trans (by kernel_rfl)
theorem y1mb (fb : Nat) (s : St) : W E fb yz3 s (finI [.t 8]) xN (finI [.t 8]) = y1rv fb s :=
  (yeq (k := (y9d fb)) (fun s => y1zu fb s)).trans (y247 fb s)
def y1hd (fb : Nat) (b a d c : AV) (h : Heap) : Option (AV × Heap) :=
(y2be fb b a d c (.bool false) h)
def y1qg (fb : Nat) (s : St) : Option (AV × Heap) := y1hd fb (s 0) (s 1) (s 2) (s 3) s.h
theorem y1kz (fb : Nat) (s : St) : W E fb y171 s (finI [.t 8]) xN (finI [.t 8]) = y1qg fb s :=
  (yeq (k := (y1rv fb)) (fun s => y1mb fb s)).trans (by kernel_rfl)
def ymt (fb : Nat) (b a d c : AV) (h : Heap) : Option (AV × Heap) :=
ob (yw 1 b a) fun m =>
ob (evLd false 1 m h) fun i =>
ob (y4w 1 false i AV.nils) fun j =>
cnd j
 (oh (y9 E (yb E) fb (some 0) false 78 [d] h) fun e h4 =>
ob (yw 1 b a) fun g =>
oh (evSt 1 g e h4) fun _ h5 =>
oh (y10 fb (some 1) 1 1 [(.int .i64 0)] [(0, a)] h5) fun l h6 =>
oh (y41 fb (some 2) 1 8 c l h6) fun k h7 =>
(some (k, h7)))
 ((y1hd fb b a d c h))
def y1m0 (fb : Nat) (s : St) : Option (AV × Heap) := ymt fb (s 0) (s 1) (s 2) (s 3) s.h
theorem y1d6 (fb : Nat) (s : St) : W E fb y00 s (finI [.t 8]) xN (finI [.t 8]) = y1m0 fb s :=
  (yeq (k := (y1qg fb)) (fun s => y1kz fb s)).trans (by kernel_rfl)
def y27p (fb : Nat) (b a d c : AV) (h : Heap) : Option (AV × Heap) :=
(ymt fb b a d c h)
def y2ay (fb : Nat) (s : St) : Option (AV × Heap) := y27p fb (s 0) (s 1) (s 2) (s 3) s.h
theorem y1oy (fb : Nat) (s : St) : W E fb y14c s (finI [.t 8]) xN (finI [.t 8]) = y2ay fb s :=
  (yeq (k := (y1m0 fb)) (fun s => y1d6 fb s)).trans (by kernel_rfl)
@[simp] theorem y2pc : E.pure 80 = false := rfl
theorem y2qb (fb : Nat) (b a d c : AV) (h : Heap) : (yb E).i 80 [b, a, d, c] fb h = y27p fb b a d c (if fb = h.length then h ++ yv 5 else h) :=
  (y1n0 (cf := y2ml) (by kernel_rfl) rfl).trans ((y1oy fb _).trans (by kernel_rfl))
def y2fs (c : AV) (h : Heap) : OX :=
oh (newC 0 (some 0) (cellsOf c) h) fun b h1 =>
ob (evFa 0 b) fun i =>
ob (evLd false 1 i h1) fun j =>
ob (y8 .geq j (.int .i64 23)) fun a =>
gb a true (evFa 0 b) fun g =>
gb a true (evLd false 1 g h1) fun d =>
gb a true (y8 .leq d (.int .i64 26)) fun k =>
ob (yd a k (.bool false)) fun e =>
(yf h1 e)
def y2hc (s : St) : OX := y2fs (s 0) s.h
theorem y21s : T0 y1dk [.t 2] y2hc := fun _ => by kernel_rfl
@[simp] theorem yv2 : E.pure 17 = true := rfl
theorem y2o1 (a : AV) : (yb E).p 17 [a] = y2fs a [⟨0, .dead⟩] :=
  (y15 (cf := y2jr) (by kernel_rfl) rfl).trans ((y21s _).trans (by kernel_rfl))
def yo7 (h : Heap) : OX :=
(yf h (.int .i64 (-1)))
def y6m (s : St) : OX := yo7 s.h
theorem y1lo : T0 yzo [.t 4] y6m := fun _ => by kernel_rfl
def yju (c a b d : AV) (h : Heap) : OX :=
  W E 0 yiu ⟨[(0, c), (1, a), (7, b), (8, d)], h⟩ y6m (y5 0 y6m xN) (finP [.t 4])
def y8p (s : St) : OX := yju (s 0) (s 1) (s 7) (s 8) s.h
theorem ylw : T1 yiu y6m (y5 0 y6m xN) [.t 4] y8p := fun s => yj.trans (by kernel_rfl)
def yn9 (a e c b : AV) (h : Heap) : OX :=
ob (y8 .add b (.int .i64 1)) fun d =>
(yju a e c d h)
def y2f9 (s : St) : OX := yn9 (s 0) (s 1) (s 7) (s 8) s.h
theorem y1f5 : T1 y17u y8p (y5 0 y6m xN) [.t 4] y2f9 := fun _ => by kernel_rfl
def ylv (b c d a : AV) (h : Heap) : OX :=
ob (yw 1 b a) fun i =>
ob (evLd false 1 i h) fun e =>
ob (y8 .eql c e) fun g =>
cnd g
 ((yf h a))
 ((yn9 b c d a h))
def y29a (s : St) : OX := ylv (s 0) (s 1) (s 7) (s 8) s.h
theorem y1v8 : T1 y11t y8p (y5 0 y6m xN) [.t 4] y29a := sq y1f5 fun _ => by kernel_rfl
def yo6 (a d c b e : AV) (h : Heap) : OX :=
cnd e
 ((ylv a d c b h))
 ((yo7 h))
def y2bg (s : St) : OX := yo6 (s 0) (s 1) (s 7) (s 8) (s 9) s.h
theorem y1kv : T1 y18e y8p (y5 0 y6m xN) [.t 4] y2bg := sq y1v8 fun _ => by kernel_rfl
def yo3 (c d b a : AV) (h : Heap) : OX :=
ob (y8 .lss a b) fun e =>
(yo6 c d b a e h)
def y2ef (s : St) : OX := yo3 (s 0) (s 1) (s 7) (s 8) s.h
theorem y1t9 : T1 y16d y8p (y5 0 y6m xN) [.t 4] y2ef := sq y1kv fun _ => by kernel_rfl
theorem ymj (c a b d : AV) (h : Heap) : yju c a b d h = (yo3 c a b d h) :=
  y28.trans ((y1c _ _ _ (n' := y8p) (fun s => ylw s)).trans ((y1t9 _).trans (by kernel_rfl)))
theorem y1vh : T1 y12a y6m xN [.t 4] y8p := fun s => yy.trans (ylw s)
def ymy (a b : AV) (h : Heap) : OX :=
ob (y13 1 a h) fun c =>
(yju a b c (.int .i64 0) h)
def y1r3 (s : St) : OX := ymy (s 0) (s 1) s.h
theorem y1oq : T1 yzg y6m xN [.t 4] y1r3 := sq y1vh fun _ => by kernel_rfl
theorem y1el : T0 y140 [.t 4] y1r3 := sq y1lo y1oq
def yfa (b a : AV) (h : Heap) : OX :=
(ymy b a h)
def y1zd (s : St) : OX := yfa (s 0) (s 1) s.h
theorem y1b6 : T0 yro [.t 4] y1zd := sq y1el fun _ => by kernel_rfl
@[simp] theorem y2oo : E.pure 45 = true := rfl
theorem y2m5 (b a : AV) : (yb E).p 45 [b, a] = yfa b a [] :=
  (y15 (cf := y267) (by kernel_rfl) rfl).trans ((y1b6 _).trans (by kernel_rfl))
def ygz (e b : AV) (h : Heap) : OX :=
ob (evLd true 9 e h) fun d =>
oh (y9 E (yb E) 0 none true 51 [d] h) fun a h1 =>
ob (y3z 0 a) fun c =>
ob (y3z 1 a) fun g =>
oh (evSt 4 b c h1) fun _ h2 =>
(ob (evLd true 4 b h2) fun r0 =>
  yf h2 (.tup [r0, g]))
def yl (s : St) : OX := ygz (s 1) (s 2) s.h
theorem y1zt : T0 y1ey [.cell 2 true 4, .t 3] yl := fun _ => by kernel_rfl
def yg6 (b a d : AV) (h : Heap) : OX :=
cnd d
 (ob (y11 [(.int .i64 0), (.int .i64 0), (.int .i64 0), (.int .i64 0)] [(0, 1, (.int .i64 (-1))), (1, 1, (.int .i64 (-1))), (2, 1, (.int .i64 (-1))), (3, 1, (.int .i64 (-1)))]) fun c =>
oh (evSt 4 a c h) fun _ h3 =>
(ob (evLd true 4 a h3) fun r0 =>
  yf h3 (.tup [r0, (.bool true)])))
 ((ygz b a h))
def y2jm (s : St) : OX := yg6 (s 1) (s 2) (s 134) s.h
theorem y21e : T1 y1om yl (y5 0 yl xN) [.cell 2 true 4, .t 3] y2jm := fun _ => by kernel_rfl
def yh3 (c d a : AV) (h : Heap) : OX :=
ob (y8 .eql a (.int .i64 27)) fun b =>
cnd b
 ((yg6 c d b h))
 (ob (y8 .eql a (.int .i64 33)) fun e =>
(yg6 c d e h))
def y2in (s : St) : OX := yh3 (s 1) (s 2) (s 11) s.h
theorem y21o : T1 y1di yl (y5 0 yl xN) [.cell 2 true 4, .t 3] y2in := sq y21e fun _ => by kernel_rfl
def yh5 (c b g i : AV) (h : Heap) : OX :=
cnd i
 (ob (y11 [(.int .i64 0), (.int .i64 0), (.int .i64 0), (.int .i64 0)] [(0, 1, (.int .i64 (-1))), (1, 1, (.int .i64 1)), (2, 1, (.int .i64 1)), (3, 1, (.int .i64 (-1)))]) fun m =>
ob (evFa 5 c) fun d =>
ob (evLd false 1 d h) fun n =>
ob (y8 .geq n (.int .i64 0)) fun a =>
ofp (fgd a true (some ([], []))) fun f5 =>
gb a true (evFa 5 c) fun e =>
ofp (fgd a true (some (ids1 e, []))) fun f6 =>
gb a true (evLd false 1 e h) fun l =>
ofp (fgd a true (some ([], []))) fun f7 =>
gb a true (y8 .leq l (.int .i64 5)) fun k =>
ob (yd a k (.bool false)) fun j =>
oh (evSt 4 b m h) fun _ h4 =>
okK (yg [([], []), ([], []), (ids1 d, []), ([], []), ([], []), f5, f6, f7, ([], []), ([], ids1 b), ([], [])] [(6, 9)]) <|
(ob (evLd true 4 b h4) fun r0 =>
  yf h4 (.tup [r0, j])))
 ((yh3 c b g h))
def y2lv (s : St) : OX := yh5 (s 1) (s 2) (s 11) (s 123) s.h
theorem y24d : T1 y1va yl (y5 0 yl xN) [.cell 2 true 4, .t 3] y2lv := fun s => (y1b rfl (y21o s)).trans (by kernel_rfl)
def ygy (b d a : AV) (h : Heap) : OX :=
ob (y8 .eql a (.int .i64 28)) fun c =>
(yh5 b d a c h)
def y2lk (s : St) : OX := ygy (s 1) (s 2) (s 11) s.h
theorem y20q : T1 y1gn yl (y5 0 yl xN) [.cell 2 true 4, .t 3] y2lk := sq y24d fun _ => by kernel_rfl
def yh6 (b a c g : AV) (h : Heap) : OX :=
cnd g
 (ob (y11 [(.int .i64 0), (.int .i64 0), (.int .i64 0), (.int .i64 0)] [(0, 1, (.int .i64 3)), (1, 1, (.int .i64 1)), (2, 1, (.int .i64 (-1))), (3, 1, (.int .i64 (-1)))]) fun d =>
ob (evFa 7 b) fun i =>
ob (evLd false 1 i h) fun e =>
oh (y9 E (yb E) 0 none true 37 [e] h) fun j h5 =>
oh (evSt 4 a d h5) fun _ h6 =>
(ob (evLd true 4 a h6) fun r0 =>
  yf h6 (.tup [r0, j])))
 ((ygy b a c h))
def y2jq (s : St) : OX := yh6 (s 1) (s 2) (s 11) (s 117) s.h
theorem y1yj : T1 y1eo yl (y5 0 yl xN) [.cell 2 true 4, .t 3] y2jq := fun s => (y1b rfl (y20q s)).trans (by kernel_rfl)
def yh4 (b d a : AV) (h : Heap) : OX :=
ob (y8 .eql a (.int .i64 21)) fun c =>
(yh6 b d a c h)
def y2m8 (s : St) : OX := yh4 (s 1) (s 2) (s 11) s.h
theorem y23x : T1 y1te yl (y5 0 yl xN) [.cell 2 true 4, .t 3] y2m8 := sq y1yj fun _ => by kernel_rfl
def yh0 (e a b c : AV) (h : Heap) : OX :=
cnd c
 (ob (y11 [(.int .i64 0), (.int .i64 0), (.int .i64 0), (.int .i64 0)] [(0, 1, (.int .i64 (-1))), (1, 1, (.int .i64 0)), (2, 1, (.int .i64 (-1))), (3, 1, (.int .i64 (-1)))]) fun d =>
oh (evSt 4 a d h) fun _ h7 =>
(ob (evLd true 4 a h7) fun r0 =>
  yf h7 (.tup [r0, (.bool true)])))
 ((yh4 e a b h))
def y2lj (s : St) : OX := yh0 (s 1) (s 2) (s 11) (s 114) s.h
theorem y21r : T1 y1m4 yl (y5 0 yl xN) [.cell 2 true 4, .t 3] y2lj := fun s => (y1b rfl (y23x s)).trans (by kernel_rfl)
def yh2 (b d a : AV) (h : Heap) : OX :=
ob (y8 .eql a (.int .i64 19)) fun c =>
(yh0 b d a c h)
def y2ha (s : St) : OX := yh2 (s 1) (s 2) (s 11) s.h
theorem y24r : T1 y1qa yl (y5 0 yl xN) [.cell 2 true 4, .t 3] y2ha := sq y21r fun _ => by kernel_rfl
def y9i (c a d g : AV) (h : Heap) : OX :=
cnd g
 (ob (y11 [(.int .i64 0), (.int .i64 0), (.int .i64 0), (.int .i64 0)] [(0, 1, (.int .i64 (-1))), (1, 1, (.int .i64 3)), (2, 1, (.int .i64 0)), (3, 1, (.int .i64 (-1)))]) fun i =>
ob (evFa 5 c) fun b =>
ob (evLd false 1 b h) fun j =>
ob (y8 .geq j (.int .i64 0)) fun e =>
oh (evSt 4 a i h) fun _ h8 =>
okK (yg [([], []), ([], []), (ids1 b, []), ([], []), ([], ids1 a), ([], [])] [(2, 4)]) <|
(ob (evLd true 4 a h8) fun r0 =>
  yf h8 (.tup [r0, e])))
 ((yh2 c a d h))
def y29p (s : St) : OX := y9i (s 1) (s 2) (s 11) (s 108) s.h
theorem y1v9 : T1 y13i yl (y5 0 yl xN) [.cell 2 true 4, .t 3] y29p := fun s => (y1b rfl (y24r s)).trans (by kernel_rfl)
def y95 (b d a : AV) (h : Heap) : OX :=
ob (y8 .eql a (.int .i64 17)) fun c =>
(y9i b d a c h)
def y28j (s : St) : OX := y95 (s 1) (s 2) (s 11) s.h
theorem y1hj : T1 y139 yl (y5 0 yl xN) [.cell 2 true 4, .t 3] y28j := sq y1v9 fun _ => by kernel_rfl
def ya7 (c a d g : AV) (h : Heap) : OX :=
cnd g
 (ob (y11 [(.int .i64 0), (.int .i64 0), (.int .i64 0), (.int .i64 0)] [(0, 1, (.int .i64 0)), (1, 1, (.int .i64 3)), (2, 1, (.int .i64 (-1))), (3, 1, (.int .i64 (-1)))]) fun e =>
ob (evFa 5 c) fun b =>
ob (evLd false 1 b h) fun i =>
ob (y8 .geq i (.int .i64 0)) fun j =>
oh (evSt 4 a e h) fun _ h9 =>
okK (yg [([], []), ([], []), (ids1 b, []), ([], []), ([], ids1 a), ([], [])] [(2, 4)]) <|
(ob (evLd true 4 a h9) fun r0 =>
  yf h9 (.tup [r0, j])))
 ((y95 c a d h))
def y2bn (s : St) : OX := ya7 (s 1) (s 2) (s 11) (s 102) s.h
theorem y1st : T1 y11u yl (y5 0 yl xN) [.cell 2 true 4, .t 3] y2bn := fun s => (y1b rfl (y1hj s)).trans (by kernel_rfl)
def ya4 (b d a : AV) (h : Heap) : OX :=
ob (y8 .eql a (.int .i64 16)) fun c =>
(ya7 b d a c h)
def y2c2 (s : St) : OX := ya4 (s 1) (s 2) (s 11) s.h
theorem y1f3 : T1 y16g yl (y5 0 yl xN) [.cell 2 true 4, .t 3] y2c2 := sq y1st fun _ => by kernel_rfl
def y98 (d a b c : AV) (h : Heap) : OX :=
cnd c
 (ob (y11 [(.int .i64 0), (.int .i64 0), (.int .i64 0), (.int .i64 0)] [(0, 1, (.int .i64 1)), (1, 1, (.int .i64 3)), (2, 1, (.int .i64 (-1))), (3, 1, (.int .i64 (-1)))]) fun e =>
oh (evSt 4 a e h) fun _ h10 =>
(ob (evLd true 4 a h10) fun r0 =>
  yf h10 (.tup [r0, (.bool true)])))
 ((ya4 d a b h))
def y2d3 (s : St) : OX := y98 (s 1) (s 2) (s 11) (s 99) s.h
theorem y1vp : T1 y14s yl (y5 0 yl xN) [.cell 2 true 4, .t 3] y2d3 := fun s => (y1b rfl (y1f3 s)).trans (by kernel_rfl)
def y9t (b d a : AV) (h : Heap) : OX :=
ob (y8 .eql a (.int .i64 15)) fun c =>
(y98 b d a c h)
def y29e (s : St) : OX := y9t (s 1) (s 2) (s 11) s.h
theorem y1qm : T1 y146 yl (y5 0 yl xN) [.cell 2 true 4, .t 3] y29e := sq y1vp fun _ => by kernel_rfl
def y9k (e a b c : AV) (h : Heap) : OX :=
cnd c
 (ob (y11 [(.int .i64 0), (.int .i64 0), (.int .i64 0), (.int .i64 0)] [(0, 1, (.int .i64 (-1))), (1, 1, (.int .i64 3)), (2, 1, (.int .i64 1)), (3, 1, (.int .i64 0))]) fun d =>
oh (evSt 4 a d h) fun _ h11 =>
(ob (evLd true 4 a h11) fun r0 =>
  yf h11 (.tup [r0, (.bool true)])))
 ((y9t e a b h))
def y280 (s : St) : OX := y9k (s 1) (s 2) (s 11) (s 96) s.h
theorem y1l1 : T1 yy9 yl (y5 0 yl xN) [.cell 2 true 4, .t 3] y280 := fun s => (y1b rfl (y1qm s)).trans (by kernel_rfl)
def y9l (b d a : AV) (h : Heap) : OX :=
ob (y8 .eql a (.int .i64 14)) fun c =>
(y9k b d a c h)
def y28l (s : St) : OX := y9l (s 1) (s 2) (s 11) s.h
theorem y1w1 : T1 yy6 yl (y5 0 yl xN) [.cell 2 true 4, .t 3] y28l := sq y1l1 fun _ => by kernel_rfl
def ya2 (d a b c : AV) (h : Heap) : OX :=
cnd c
 (ob (y11 [(.int .i64 0), (.int .i64 0), (.int .i64 0), (.int .i64 0)] [(0, 1, (.int .i64 0)), (1, 1, (.int .i64 3)), (2, 1, (.int .i64 1)), (3, 1, (.int .i64 (-1)))]) fun e =>
oh (evSt 4 a e h) fun _ h12 =>
(ob (evLd true 4 a h12) fun r0 =>
  yf h12 (.tup [r0, (.bool true)])))
 ((y9l d a b h))
def y290 (s : St) : OX := ya2 (s 1) (s 2) (s 11) (s 93) s.h
theorem y1lm : T1 y0c yl (y5 0 yl xN) [.cell 2 true 4, .t 3] y290 := fun s => (y1b rfl (y1w1 s)).trans (by kernel_rfl)
def y9y (b d a : AV) (h : Heap) : OX :=
ob (y8 .eql a (.int .i64 13)) fun c =>
(ya2 b d a c h)
def y289 (s : St) : OX := y9y (s 1) (s 2) (s 11) s.h
theorem y1ky : T1 y11o yl (y5 0 yl xN) [.cell 2 true 4, .t 3] y289 := sq y1lm fun _ => by kernel_rfl
def ya3 (d a b c : AV) (h : Heap) : OX :=
cnd c
 (ob (y11 [(.int .i64 0), (.int .i64 0), (.int .i64 0), (.int .i64 0)] [(0, 1, (.int .i64 (-1))), (1, 1, (.int .i64 3)), (2, 1, (.int .i64 3)), (3, 1, (.int .i64 (-1)))]) fun e =>
oh (evSt 4 a e h) fun _ h13 =>
(ob (evLd true 4 a h13) fun r0 =>
  yf h13 (.tup [r0, (.bool true)])))
 ((y9y d a b h))
def y27w (s : St) : OX := ya3 (s 1) (s 2) (s 11) (s 90) s.h
theorem y1mh : T1 y11v yl (y5 0 yl xN) [.cell 2 true 4, .t 3] y27w := fun s => (y1b rfl (y1ky s)).trans (by kernel_rfl)
def y9z (b d a : AV) (h : Heap) : OX :=
ob (y8 .eql a (.int .i64 11)) fun c =>
(ya3 b d a c h)
def y2eo (s : St) : OX := y9z (s 1) (s 2) (s 11) s.h
theorem y1w4 : T1 y13q yl (y5 0 yl xN) [.cell 2 true 4, .t 3] y2eo := sq y1mh fun _ => by kernel_rfl
def ya5 (e a b d : AV) (h : Heap) : OX :=
cnd d
 (ob (y11 [(.int .i64 0), (.int .i64 0), (.int .i64 0), (.int .i64 0)] [(0, 1, (.int .i64 (-1))), (1, 1, (.int .i64 1)), (2, 1, (.int .i64 (-1))), (3, 1, (.int .i64 (-1)))]) fun c =>
oh (evSt 4 a c h) fun _ h14 =>
(ob (evLd true 4 a h14) fun r0 =>
  yf h14 (.tup [r0, (.bool true)])))
 ((y9z e a b h))
def y2ce (s : St) : OX := ya5 (s 1) (s 2) (s 11) (s 87) s.h
theorem y1mf : T1 y127 yl (y5 0 yl xN) [.cell 2 true 4, .t 3] y2ce := fun s => (y1b rfl (y1w4 s)).trans (by kernel_rfl)
def y9r (b d a : AV) (h : Heap) : OX :=
ob (y8 .eql a (.int .i64 10)) fun c =>
(ya5 b d a c h)
def y2dw (s : St) : OX := y9r (s 1) (s 2) (s 11) s.h
theorem y1wg : T1 y11s yl (y5 0 yl xN) [.cell 2 true 4, .t 3] y2dw := sq y1mf fun _ => by kernel_rfl
def y9g (e a b c : AV) (h : Heap) : OX :=
cnd c
 (ob (y11 [(.int .i64 0), (.int .i64 0), (.int .i64 0), (.int .i64 0)] [(0, 1, (.int .i64 (-1))), (1, 1, (.int .i64 3)), (2, 1, (.int .i64 1)), (3, 1, (.int .i64 (-1)))]) fun d =>
oh (evSt 4 a d h) fun _ h15 =>
(ob (evLd true 4 a h15) fun r0 =>
  yf h15 (.tup [r0, (.bool true)])))
 ((y9r e a b h))
def y2d9 (s : St) : OX := y9g (s 1) (s 2) (s 11) (s 84) s.h
theorem y1t0 : T1 y16l yl (y5 0 yl xN) [.cell 2 true 4, .t 3] y2d9 := fun s => (y1b rfl (y1wg s)).trans (by kernel_rfl)
def y9b (b d a : AV) (h : Heap) : OX :=
ob (y8 .eql a (.int .i64 9)) fun c =>
(y9g b d a c h)
def y2a6 (s : St) : OX := y9b (s 1) (s 2) (s 11) s.h
theorem y1iv : T1 y13y yl (y5 0 yl xN) [.cell 2 true 4, .t 3] y2a6 := sq y1t0 fun _ => by kernel_rfl
def y9w (b a c i : AV) (h : Heap) : OX :=
cnd i
 (ob (y11 [(.int .i64 0), (.int .i64 0), (.int .i64 0), (.int .i64 0)] [(0, 1, (.int .i64 1)), (1, 1, (.int .i64 3)), (2, 1, (.int .i64 (-1))), (3, 1, (.int .i64 (-1)))]) fun e =>
ob (evFa 7 b) fun d =>
ob (evLd false 1 d h) fun g =>
oh (y9 E (yb E) 0 none true 37 [g] h) fun j h16 =>
oh (evSt 4 a e h16) fun _ h17 =>
(ob (evLd true 4 a h17) fun r0 =>
  yf h17 (.tup [r0, j])))
 ((y9b b a c h))
def y2cm (s : St) : OX := y9w (s 1) (s 2) (s 11) (s 78) s.h
theorem y1kt : T1 yzc yl (y5 0 yl xN) [.cell 2 true 4, .t 3] y2cm := fun s => (y1b rfl (y1iv s)).trans (by kernel_rfl)
def y9e (b d a : AV) (h : Heap) : OX :=
ob (y8 .eql a (.int .i64 22)) fun c =>
(y9w b d a c h)
def y28o (s : St) : OX := y9e (s 1) (s 2) (s 11) s.h
theorem y1rx : T1 y16b yl (y5 0 yl xN) [.cell 2 true 4, .t 3] y28o := sq y1kt fun _ => by kernel_rfl
def y96 (b a c i : AV) (h : Heap) : OX :=
cnd i
 (ob (y11 [(.int .i64 0), (.int .i64 0), (.int .i64 0), (.int .i64 0)] [(0, 1, (.int .i64 (-1))), (1, 1, (.int .i64 3)), (2, 1, (.int .i64 (-1))), (3, 1, (.int .i64 (-1)))]) fun j =>
ob (evFa 7 b) fun d =>
ob (evLd false 1 d h) fun g =>
oh (y9 E (yb E) 0 none true 37 [g] h) fun e h18 =>
oh (evSt 4 a j h18) fun _ h19 =>
(ob (evLd true 4 a h19) fun r0 =>
  yf h19 (.tup [r0, e])))
 ((y9e b a c h))
def y2dv (s : St) : OX := y96 (s 1) (s 2) (s 11) (s 72) s.h
theorem y1td : T1 yxo yl (y5 0 yl xN) [.cell 2 true 4, .t 3] y2dv := fun s => (y1b rfl (y1rx s)).trans (by kernel_rfl)
def y9v (b d a : AV) (h : Heap) : OX :=
ob (y8 .eql a (.int .i64 12)) fun c =>
(y96 b d a c h)
def y2ah (s : St) : OX := y9v (s 1) (s 2) (s 11) s.h
theorem y1tu : T1 y11c yl (y5 0 yl xN) [.cell 2 true 4, .t 3] y2ah := sq y1td fun _ => by kernel_rfl
def y82 (d a b e : AV) (h : Heap) : OX :=
cnd e
 (ob (y11 [(.int .i64 0), (.int .i64 0), (.int .i64 0), (.int .i64 0)] [(0, 1, (.int .i64 (-1))), (1, 1, (.int .i64 3)), (2, 1, (.int .i64 (-1))), (3, 1, (.int .i64 (-1)))]) fun c =>
oh (evSt 4 a c h) fun _ h20 =>
(ob (evLd true 4 a h20) fun r0 =>
  yf h20 (.tup [r0, (.bool true)])))
 ((y9v d a b h))
def y2cu (s : St) : OX := y82 (s 1) (s 2) (s 11) (s 68) s.h
theorem y1r6 : T1 y182 yl (y5 0 yl xN) [.cell 2 true 4, .t 3] y2cu := fun s => (y1b rfl (y1tu s)).trans (by kernel_rfl)
def ya0 (c d a : AV) (h : Heap) : OX :=
ob (y8 .eql a (.int .i64 8)) fun b =>
cnd b
 ((y82 c d a b h))
 (ob (y8 .eql a (.int .i64 31)) fun e =>
(y82 c d a e h))
def y2b0 (s : St) : OX := ya0 (s 1) (s 2) (s 11) s.h
theorem y1m3 : T1 y18g yl (y5 0 yl xN) [.cell 2 true 4, .t 3] y2b0 := sq y1r6 fun _ => by kernel_rfl
def y9c (e a b d : AV) (h : Heap) : OX :=
cnd d
 (ob (y11 [(.int .i64 0), (.int .i64 0), (.int .i64 0), (.int .i64 0)] [(0, 1, (.int .i64 (-1))), (1, 1, (.int .i64 0)), (2, 1, (.int .i64 (-1))), (3, 1, (.int .i64 (-1)))]) fun c =>
oh (evSt 4 a c h) fun _ h21 =>
(ob (evLd true 4 a h21) fun r0 =>
  yf h21 (.tup [r0, (.bool true)])))
 ((ya0 e a b h))
def y2ab (s : St) : OX := y9c (s 1) (s 2) (s 11) (s 65) s.h
theorem y1pn : T1 y157 yl (y5 0 yl xN) [.cell 2 true 4, .t 3] y2ab := fun s => (y1b rfl (y1m3 s)).trans (by kernel_rfl)
def y9q (b d a : AV) (h : Heap) : OX :=
ob (y8 .eql a (.int .i64 7)) fun c =>
(y9c b d a c h)
def y2ad (s : St) : OX := y9q (s 1) (s 2) (s 11) s.h
theorem y1ly : T1 yzw yl (y5 0 yl xN) [.cell 2 true 4, .t 3] y2ad := sq y1pn fun _ => by kernel_rfl
def y9n (e c g p : AV) (h : Heap) : OX :=
cnd p
 (ob (evFa 5 e) fun l =>
ob (evLd false 1 l h) fun k =>
oh (y9 E (yb E) 0 none true 50 [k] h) fun b h22 =>
ob (y3z 0 b) fun d =>
ob (y3z 1 b) fun m =>
ob (y3z 2 b) fun i =>
ob (y11 [(.int .i64 0), (.int .i64 0), (.int .i64 0), (.int .i64 0)] [(0, 1, i), (1, 1, d), (2, 1, (.int .i64 (-1))), (3, 1, (.int .i64 (-1)))]) fun o =>
ob (y8 .neq d (.int .i64 0)) fun a =>
gb a true (some m) fun r =>
gb a true (y8 .eql r (.int .i64 0)) fun j =>
ob (yd a j (.bool false)) fun n =>
oh (evSt 4 c o h22) fun _ h23 =>
(ob (evLd true 4 c h23) fun r0 =>
  yf h23 (.tup [r0, n])))
 ((y9q e c g h))
def y291 (s : St) : OX := y9n (s 1) (s 2) (s 11) (s 47) s.h
theorem y1iu : T1 y133 yl (y5 0 yl xN) [.cell 2 true 4, .t 3] y291 := fun s => (y1b rfl (y1ly s)).trans (by kernel_rfl)
def y9o (b d a : AV) (h : Heap) : OX :=
ob (y8 .eql a (.int .i64 6)) fun c =>
(y9n b d a c h)
def y2ei (s : St) : OX := y9o (s 1) (s 2) (s 11) s.h
theorem y1w8 : T1 y12h yl (y5 0 yl xN) [.cell 2 true 4, .t 3] y2ei := sq y1iu fun _ => by kernel_rfl
def y9m (a c t k : AV) (h : Heap) : OX :=
cnd k
 (ob (evFa 5 a) fun o =>
ob (evLd false 1 o h) fun v =>
oh (y9 E (yb E) 0 none true 50 [v] h) fun b h24 =>
ob (y3z 0 b) fun l =>
ob (y3z 1 b) fun e =>
ob (y3z 2 b) fun p =>
ob (y11 [(.int .i64 0), (.int .i64 0), (.int .i64 0), (.int .i64 0)] [(0, 1, p), (1, 1, l), (2, 1, e), (3, 1, (.int .i64 (-1)))]) fun w =>
ob (evFa 5 a) fun r =>
ob (evLd false 1 r h24) fun u =>
ob (evFa 5 a) fun j =>
ob (evLd false 1 j h24) fun g =>
ob (y8 .eql u g) fun d =>
gb d true (some e) fun i =>
gb d true (y8 .neq i (.int .i64 0)) fun n =>
ob (yd d n (.bool false)) fun m =>
oh (evSt 4 c w h24) fun _ h25 =>
(ob (evLd true 4 c h25) fun r0 =>
  yf h25 (.tup [r0, m])))
 ((y9o a c t h))
def y2fe (s : St) : OX := y9m (s 1) (s 2) (s 11) (s 25) s.h
theorem y1rt : T1 y12k yl (y5 0 yl xN) [.cell 2 true 4, .t 3] y2fe := fun s => (y1b rfl (y1w8 s)).trans (by kernel_rfl)
def ya6 (b d a : AV) (h : Heap) : OX :=
ob (y8 .eql a (.int .i64 5)) fun c =>
(y9m b d a c h)
def y2dh (s : St) : OX := ya6 (s 1) (s 2) (s 11) s.h
theorem y1tv : T1 y12u yl (y5 0 yl xN) [.cell 2 true 4, .t 3] y2dh := sq y1rt fun _ => by kernel_rfl
def y9u (e a b c : AV) (h : Heap) : OX :=
cnd c
 (ob (y11 [(.int .i64 0), (.int .i64 0), (.int .i64 0), (.int .i64 0)] [(0, 1, (.int .i64 0)), (1, 1, (.int .i64 0)), (2, 1, (.int .i64 (-1))), (3, 1, (.int .i64 (-1)))]) fun d =>
oh (evSt 4 a d h) fun _ h26 =>
(ob (evLd true 4 a h26) fun r0 =>
  yf h26 (.tup [r0, (.bool true)])))
 ((ya6 e a b h))
def y2e7 (s : St) : OX := y9u (s 1) (s 2) (s 11) (s 22) s.h
theorem y1v2 : T1 y18b yl (y5 0 yl xN) [.cell 2 true 4, .t 3] y2e7 := fun s => (y1b rfl (y1tv s)).trans (by kernel_rfl)
def y9s (b d a : AV) (h : Heap) : OX :=
ob (y8 .eql a (.int .i64 4)) fun c =>
(y9u b d a c h)
def y2er (s : St) : OX := y9s (s 1) (s 2) (s 11) s.h
theorem y1em : T1 y11f yl (y5 0 yl xN) [.cell 2 true 4, .t 3] y2er := sq y1v2 fun _ => by kernel_rfl
def y6k (e a b d : AV) (h : Heap) : OX :=
cnd d
 (ob (y11 [(.int .i64 0), (.int .i64 0), (.int .i64 0), (.int .i64 0)] [(0, 1, (.int .i64 3)), (1, 1, (.int .i64 (-1))), (2, 1, (.int .i64 (-1))), (3, 1, (.int .i64 (-1)))]) fun c =>
oh (evSt 4 a c h) fun _ h27 =>
(ob (evLd true 4 a h27) fun r0 =>
  yf h27 (.tup [r0, (.bool true)])))
 ((y9s e a b h))
def y2fy (s : St) : OX := y6k (s 1) (s 2) (s 11) (s 16) s.h
theorem y1qs : T1 y183 yl (y5 0 yl xN) [.cell 2 true 4, .t 3] y2fy := fun s => (y1b rfl (y1em s)).trans (by kernel_rfl)
def y9f (b c a : AV) (h : Heap) : OX :=
ob (y8 .eql a (.int .i64 2)) fun d =>
cnd d
 ((y6k b c a d h))
 (ob (y8 .eql a (.int .i64 3)) fun e =>
cnd e
 ((y6k b c a e h))
 (ob (y8 .eql a (.int .i64 20)) fun g =>
cnd g
 ((y6k b c a g h))
 (ob (y8 .eql a (.int .i64 32)) fun i =>
(y6k b c a i h))))
def y2bi (s : St) : OX := y9f (s 1) (s 2) (s 11) s.h
theorem y1jd : T1 ywy yl (y5 0 yl xN) [.cell 2 true 4, .t 3] y2bi := sq y1qs fun _ => by kernel_rfl
def y7p (e a b d : AV) (h : Heap) : OX :=
cnd d
 (ob (y11 [(.int .i64 0), (.int .i64 0), (.int .i64 0), (.int .i64 0)] [(0, 1, (.int .i64 0)), (1, 1, (.int .i64 (-1))), (2, 1, (.int .i64 (-1))), (3, 1, (.int .i64 (-1)))]) fun c =>
oh (evSt 4 a c h) fun _ h28 =>
(ob (evLd true 4 a h28) fun r0 =>
  yf h28 (.tup [r0, (.bool true)])))
 ((y9f e a b h))
def y2b2 (s : St) : OX := y7p (s 1) (s 2) (s 11) (s 12) s.h
theorem y1n3 : T1 y03 yl (y5 0 yl xN) [.cell 2 true 4, .t 3] y2b2 := fun s => (y1b rfl (y1jd s)).trans (by kernel_rfl)
def y9j (c d a : AV) (h : Heap) : OX :=
ob (y8 .eql a (.int .i64 1)) fun b =>
cnd b
 ((y7p c d a b h))
 (ob (y8 .eql a (.int .i64 18)) fun e =>
(y7p c d a e h))
def y1ki (s : St) : OX := y9j (s 1) (s 2) (s 11) s.h
theorem y1q0 : T1 y181 yl (y5 0 yl xN) [.cell 2 true 4, .t 3] y1ki := sq y1n3 fun _ => by kernel_rfl
theorem y1s0 : T1 y12w yl xN [.cell 2 true 4, .t 3] y1ki := fun s => yy.trans (y1q0 s)
def y9p (a d : AV) (h : Heap) : OX :=
ob (evFa 0 a) fun b =>
ob (evLd false 1 b h) fun c =>
(y9j a d c h)
def y1d8 (s : St) : OX := y9p (s 1) (s 2) s.h
theorem y1u3 : T1 y0g yl xN [.cell 2 true 4, .t 3] y1d8 := sq y1s0 fun _ => by kernel_rfl
theorem y1ev : T0 yxr [.cell 2 true 4, .t 3] y1d8 := sq y1zt y1u3
def y9x (b : AV) (h : Heap) : OX :=
oh (newC 0 (some 0) (cellsOf b) h) fun a h29 =>
oh (newC 0 (some 1) [(.int .i64 0), (.int .i64 0), (.int .i64 0), (.int .i64 0)] h29) fun c h30 =>
(y9p a c h30)
def y2b1 (s : St) : OX := y9x (s 0) s.h
theorem y1l6 : T0 yyw [.cell 2 true 4, .t 3] y2b1 := sq y1ev fun _ => by kernel_rfl
@[simp] theorem y2qe : E.pure 47 = true := rfl
theorem y1qn (a : AV) : (yb E).p 47 [a] = y9x a [⟨0, .dead⟩, ⟨0, .dead⟩] :=
  (y15 (cf := y2jv) (by kernel_rfl) rfl).trans ((y1l6 _).trans (by kernel_rfl))
def y1k3 (y : AV) (h : Heap) : OX :=
oh (newC 0 (some 0) (cellsOf y) h) fun a h1 =>
ob (evFa 0 a) fun j =>
ob (evLd false 1 j h1) fun p =>
ob (y8 .geq p (.int .i64 7)) fun c =>
gb c true (evFa 0 a) fun i =>
gb c true (evLd false 1 i h1) fun A =>
gb c true (y8 .leq A (.int .i64 12)) fun x =>
ob (yd c x (.bool false)) fun b =>
gb b false (evFa 0 a) fun u =>
gb b false (evLd false 1 u h1) fun r =>
gb b false (y8 .eql r (.int .i64 20)) fun n =>
ob (yd b (.bool true) n) fun e =>
gb e false (evFa 0 a) fun k =>
gb e false (evLd false 1 k h1) fun o =>
gb e false (y8 .eql o (.int .i64 21)) fun w =>
ob (yd e (.bool true) w) fun d =>
gb d false (evFa 0 a) fun z =>
gb d false (evLd false 1 z h1) fun l =>
gb d false (y8 .eql l (.int .i64 31)) fun m =>
ob (yd d (.bool true) m) fun g =>
gb g false (evLd true 9 a h1) fun t =>
gh g false (y9 E (yb E) 0 none true 17 [t] h1) h1 fun v h2 =>
ob (yd g (.bool true) v) fun B =>
(yf h2 B)
def y2ix (s : St) : OX := y1k3 (s 0) s.h
theorem y1x3 : T0 y1ew [.t 2] y2ix := fun _ => by kernel_rfl
@[simp] theorem y2r5 : E.pure 18 = true := rfl
theorem y2nz (a : AV) : (yb E).p 18 [a] = y1k3 a [⟨0, .dead⟩] :=
  (y15 (cf := y2gt) (by kernel_rfl) rfl).trans ((y1x3 _).trans (by kernel_rfl))
def y1h5 (a b : AV) (h : Heap) : OX :=
ob (yw 1 b a) fun c =>
ob (evLd false 1 c h) fun d =>
(yf h d)
def y2f8 (s : St) : OX := y1h5 (s 0) (s 3) s.h
theorem y1sz : T0 y16v [.t 2] y2f8 := fun _ => by kernel_rfl
def y1sn (b c : AV) (h : Heap) : OX :=
ob (y8 .lss b (.int .i64 1)) fun a =>
gb a false (some b) fun i =>
gb a false (some c) fun j =>
gb a false (y13 1 j h) fun e =>
gb a false (y8 .geq i e) fun d =>
ob (yd a (.bool true) d) fun g =>
cnd g
 ((yf h (AV.str [])))
 ((y1h5 b c h))
def y2d0 (s : St) : OX := y1sn (s 0) (s 3) s.h
theorem y1tg : T0 y11g [.t 2] y2d0 := sq y1sz fun _ => by kernel_rfl
def y1fx (b : AV) (h : Heap) : OX :=
oh (y10 0 (some 0) 1 34 [(.str [])] [(0, (AV.str [])), (1, (AV.str [110, 45, 45, 45])), (2, (AV.str [51, 45, 45, 45])), (3, (AV.str [51, 45, 45, 45])), (4, (AV.str [42, 61, 45, 45])), (5, (AV.str [63, 63, 63, 63])), (6, (AV.str [63, 63, 63, 63])), (7, (AV.str [45, 110, 45, 45])), (8, (AV.str [45, 51, 45, 45])), (9, (AV.str [45, 51, 49, 45])), (10, (AV.str [45, 49, 45, 45])), (11, (AV.str [45, 51, 51, 45])), (12, (AV.str [45, 51, 45, 45])), (13, (AV.str [42, 51, 49, 45])), (14, (AV.str [45, 51, 49, 42])), (15, (AV.str [49, 51, 45, 45])), (16, (AV.str [42, 51, 45, 45])), (17, (AV.str [45, 51, 42, 45])), (18, (AV.str [42, 45, 45, 45])), (19, (AV.str [45, 42, 45, 45])), (20, (AV.str [51, 45, 45, 45])), (21, (AV.str [51, 49, 45, 45])), (22, (AV.str [49, 51, 45, 45])), (23, (AV.str [63, 63, 63, 63])), (24, (AV.str [63, 63, 63, 63])), (25, (AV.str [63, 63, 63, 63])), (26, (AV.str [63, 63, 63, 63])), (27, (AV.str [45, 45, 45, 45])), (28, (AV.str [45, 49, 49, 45])), (29, (AV.str [45, 51, 63, 45])), (30, (AV.str [45, 63, 45, 45])), (31, (AV.str [45, 51, 45, 45])), (32, (AV.str [51, 45, 45, 45])), (33, (AV.str [45, 45, 45, 45]))] h) fun a h1 =>
(y1sn b a h1)
def y2ba (s : St) : OX := y1fx (s 0) s.h
theorem y1mx : T0 yz9 [.t 2] y2ba := sq y1tg fun _ => by kernel_rfl
def y1fn (a : AV) (h : Heap) : OX :=
(y1fx a h)
def y2cn (s : St) : OX := y1fn (s 0) s.h
theorem y1ns : T0 y124 [.t 2] y2cn := sq y1mx fun _ => by kernel_rfl
@[simp] theorem y2op : E.pure 38 = true := rfl
theorem y2j1 (a : AV) : (yb E).p 38 [a] = y1fn a [⟨0, .dead⟩] :=
  (y15 (cf := y26e) (by kernel_rfl) rfl).trans ((y1ns _).trans (by kernel_rfl))
def ycl (e d : AV) (h : Heap) : OX :=
ob (y8 .sub e (.int .u8 48)) fun c =>
ob (y1ah .i64 c) fun b =>
ob (y8 .eql d b) fun a =>
(yf h a)
def y6e (s : St) : OX := ycl (s 2) (s 7) s.h
theorem y1nk : T0 y158 [.t 6] y6e := fun _ => by kernel_rfl
def yaq (l a c i : AV) (h : Heap) : OX :=
cnd i
 (ob (y8 .gtr a (.int .i64 0)) fun k =>
(yf h k))
 (ob (y8 .eql c (.int .u8 110)) fun e =>
cnd e
 (ob (y8 .eql a (.int .i64 1)) fun b =>
gb b false (some a) fun j =>
gb b false (y8 .eql j (.int .i64 2)) fun d =>
ob (yd b (.bool true) d) fun g =>
(yf h g))
 ((ycl l a h)))
def y2ez (s : St) : OX := yaq (s 2) (s 7) (s 11) (s 15) s.h
theorem y1ml : T1 y13v y6e (y5 0 y6e xN) [.t 6] y2ez := fun _ => by kernel_rfl
def yck (d b a : AV) (h : Heap) : OX :=
ob (y8 .eql a (.int .u8 42)) fun c =>
cnd c
 ((yaq d b a c h))
 (ob (y8 .eql a (.int .u8 61)) fun e =>
(yaq d b a e h))
def y2dt (s : St) : OX := yck (s 2) (s 7) (s 11) s.h
theorem y1of : T1 yzy y6e (y5 0 y6e xN) [.t 6] y2dt := sq y1ml fun _ => by kernel_rfl
def yb6 (d b a c : AV) (h : Heap) : OX :=
cnd c
 ((yf h (.bool true)))
 ((yck d b a h))
def y2fg (s : St) : OX := yb6 (s 2) (s 7) (s 11) (s 12) s.h
theorem y1hz : T1 y13a y6e (y5 0 y6e xN) [.t 6] y2fg := fun s => (y1b rfl (y1of s)).trans (by kernel_rfl)
def ycn (d c a : AV) (h : Heap) : OX :=
ob (y8 .eql a (.int .u8 45)) fun b =>
cnd b
 ((yb6 d c a b h))
 (ob (y8 .eql a (.int .u8 63)) fun e =>
(yb6 d c a e h))
def y1do (s : St) : OX := ycn (s 2) (s 7) (s 11) s.h
theorem y1wl : T1 yzp y6e (y5 0 y6e xN) [.t 6] y1do := sq y1hz fun _ => by kernel_rfl
theorem y1ov : T1 yx6 y6e xN [.t 6] y1do := fun s => yy.trans (y1wl s)
def yce (a b : AV) (h : Heap) : OX :=
(ycn a b a h)
def y1ju (s : St) : OX := yce (s 2) (s 7) s.h
theorem y1rc : T1 yx4 y6e xN [.t 6] y1ju := sq y1ov fun _ => by kernel_rfl
theorem y1gt : T0 y17r [.t 6] y1ju := sq y1nk y1rc
def ycp (d e c : AV) (h : Heap) : OX :=
ob (evLd true 5 c h) fun a =>
oh (y9 E (yb E) 0 none true 48 [a, d] h) fun b h1 =>
(yce e b h1)
def y2ax (s : St) : OX := ycp (s 1) (s 2) (s 3) s.h
theorem y1kh : T0 y148 [.t 6] y2ax := sq y1gt fun _ => by kernel_rfl
def y78 (b a d : AV) (h : Heap) : OX :=
oh (newC 0 (some 0) (cellsOf b) h) fun c h2 =>
(ycp a d c h2)
def y1zm (s : St) : OX := y78 (s 0) (s 1) (s 2) s.h
theorem y1aa : T0 yt5 [.t 6] y1zm := sq y1kh fun _ => by kernel_rfl
@[simp] theorem y2qh : E.pure 65 = true := rfl
theorem y2id (b a c : AV) : (yb E).p 65 [b, a, c] = y78 b a c [⟨0, .dead⟩] :=
  (y15 (cf := y25w) (by kernel_rfl) rfl).trans ((y1aa _).trans (by kernel_rfl))
def y24o (h : Heap) : OX :=
(yf h (.tup [(.int .i64 0), (.int .i64 0), (.int .i64 0)]))
def y2i3 (s : St) : OX := y24o s.h
theorem y245 : T0 y1f9 [.t 2, .t 3, .t 4] y2i3 := fun _ => by kernel_rfl
def y1zj (a b : AV) (h : Heap) : OX :=
gb b true (some a) fun w =>
gb b true (y8 .rem w (.int .i64 2)) fun B =>
gb b true (y8 .eql B (.int .i64 0)) fun l =>
ob (yd b l (.bool false)) fun t =>
cnd t
 ((yf h (.tup [(.int .i64 1), (.int .i64 1), (.int .i64 1)])))
 (ob (y8 .eql a (.int .i64 121)) fun d =>
gb d false (some a) fun m =>
gb d false (y8 .eql m (.int .i64 123)) fun C =>
ob (yd d (.bool true) C) fun e =>
gb e false (some a) fun p =>
gb e false (y8 .eql p (.int .i64 125)) fun i =>
ob (yd e (.bool true) i) fun o =>
cnd o
 ((yf h (.tup [(.int .i64 2), (.int .i64 1), (.int .i64 2)])))
 (cnd b
 ((yf h (.tup [(.int .i64 2), (.int .i64 2), (.int .i64 2)])))
 (ob (y8 .eql a (.int .i64 148)) fun n =>
cnd n
 ((yf h (.tup [(.int .i64 2), (.int .i64 2), (.int .i64 1)])))
 (ob (y8 .eql a (.int .i64 116)) fun c =>
gb c false (some a) fun v =>
gb c false (y8 .geq v (.int .i64 145)) fun y =>
gb c false (some y) fun g =>
gb g true (some a) fun x =>
gb g true (y8 .leq x (.int .i64 147)) fun A =>
gb c false (yd g A (.bool false)) fun r =>
ob (yd c (.bool true) r) fun z =>
cnd z
 ((yf h (.tup [(.int .i64 1), (.int .i64 0), (.int .i64 1)])))
 (ob (y8 .eql a (.int .i64 117)) fun k =>
cnd k
 ((yf h (.tup [(.int .i64 2), (.int .i64 0), (.int .i64 2)])))
 (ob (y8 .eql a (.int .i64 133)) fun u =>
cnd u
 ((yf h (.tup [(.int .i64 1), (.int .i64 0), (.int .i64 2)])))
 (ob (y8 .eql a (.int .i64 136)) fun j =>
cnd j
 ((yf h (.tup [(.int .i64 2), (.int .i64 0), (.int .i64 1)])))
 ((y24o h)))))))))
def y2mj (s : St) : OX := y1zj (s 0) (s 5) s.h
theorem y24f : T0 y1o6 [.t 2, .t 3, .t 4] y2mj := sq y245 fun _ => by kernel_rfl
def y1ys (a : AV) (h : Heap) : OX :=
ob (y8 .geq a (.int .i64 96)) fun e =>
gb e true (some a) fun t =>
gb e true (y8 .leq t (.int .i64 113)) fun i =>
ob (yd e i (.bool false)) fun c =>
gb c true (some a) fun j =>
gb c true (y8 .rem j (.int .i64 4)) fun r =>
gb c true (y8 .lss r (.int .i64 2)) fun k =>
ob (yd c k (.bool false)) fun b =>
gb b false (some a) fun o =>
gb b false (y8 .geq o (.int .i64 120)) fun p =>
gb b false (some p) fun d =>
gb d true (some a) fun g =>
gb d true (y8 .leq g (.int .i64 131)) fun m =>
gb b false (yd d m (.bool false)) fun l =>
ob (yd b (.bool true) l) fun n =>
(y1zj a n h)
def y2j7 (s : St) : OX := y1ys (s 0) s.h
theorem y1z7 : T0 y1g3 [.t 2, .t 3, .t 4] y2j7 := sq y24f fun _ => by kernel_rfl
def y20n (a : AV) (h : Heap) : OX :=
(y1ys a h)
def y2lr (s : St) : OX := y20n (s 0) s.h
theorem y1y0 : T0 y1gj [.t 2, .t 3, .t 4] y2lr := sq y1z7 fun _ => by kernel_rfl
@[simp] theorem y2q9 : E.pure 66 = true := rfl
theorem y2r4 (a : AV) : (yb E).p 66 [a] = y20n a [] :=
  (y15 (cf := y2k9) (by kernel_rfl) rfl).trans ((y1y0 _).trans (by kernel_rfl))
def yhs (c : AV) (h : Heap) : OX :=
ob (y13 0 c h) fun t =>
ob (y8 .gtr t (.int .i64 2)) fun d =>
gb d true (some c) fun n =>
gb d true (y5v n (.int .i64 0)) fun l =>
gb d true (y8 .eql l (.int .u8 76)) fun u =>
ob (yd d u (.bool false)) fun b =>
gb b true (some c) fun g =>
gb b true (some c) fun y =>
gb b true (y13 0 y h) fun v =>
gb b true (y8 .sub v (.int .i64 1)) fun w =>
gb b true (y5v g w) fun m =>
gb b true (y8 .eql m (.int .u8 59)) fun e =>
ob (yd b e (.bool false)) fun a =>
gb a true (some c) fun i =>
gb a true (some c) fun r =>
gb a true (y13 0 r h) fun p =>
gb a true (y8 .sub p (.int .i64 1)) fun j =>
gb a true (yei i (some (.int .i64 1)) (some j)) fun x =>
gh a true (y9 E (yb E) 0 none true 69 [x, (.bool false)] h) h fun k h1 =>
ob (yd a k (.bool false)) fun o =>
(yf h1 o)
def y28e (s : St) : OX := yhs (s 0) s.h
theorem y1lr : T0 y13d [.t 2] y28e := fun _ => by kernel_rfl
def yed (a : AV) (h : Heap) : OX :=
ob (y8 .eql a (AV.str [73])) fun b =>
gb b false (some a) fun e =>
gb b false (y8 .eql e (AV.str [74])) fun d =>
ob (yd b (.bool true) d) fun c =>
cnd c
 ((yf h (.bool true)))
 ((yhs a h))
def y2ex (s : St) : OX := yed (s 0) s.h
theorem y1da : T0 y13h [.t 2] y2ex := sq y1lr fun _ => by kernel_rfl
def yu6 (b c : AV) (h : Heap) : OX :=
ob (y8 .gtr c (.int .i64 8)) fun a =>
cnd a
 ((yf h (.bool false)))
 ((yed b h))
def y28y (s : St) : OX := yu6 (s 0) (s 3) s.h
theorem y1wf : T0 y118 [.t 2] y28y := sq y1da fun _ => by kernel_rfl
def ylj (b a : AV) (h : Heap) : OX :=
ob (yei b (some a) none) fun c =>
(yu6 c a h)
def ybj (s : St) : OX := ylj (s 0) (s 3) s.h
theorem y1tr : T0 y0t [.t 2] ybj := sq y1wf fun _ => by kernel_rfl
def yfv (a b : AV) (h : Heap) : OX :=
  W E 0 ykz ⟨[(0, a), (3, b)], h⟩ ybj (y5 0 ybj xN) (finP [.t 2])
def yby (s : St) : OX := yfv (s 0) (s 3) s.h
theorem yn1 : T1 ykz ybj (y5 0 ybj xN) [.t 2] yby := fun s => yj.trans (by kernel_rfl)
def y13x (a b : AV) (h : Heap) : OX :=
ob (y8 .add b (.int .i64 1)) fun c =>
(yfv a c h)
def y2fh (s : St) : OX := y13x (s 0) (s 3) s.h
theorem y1je : T1 y17b yby (y5 0 ybj xN) [.t 2] y2fh := fun _ => by kernel_rfl
def ym0 (b c : AV) (h : Heap) : OX :=
ob (y13 0 b h) fun e =>
ob (y8 .lss c e) fun a =>
gb a true (some b) fun k =>
gb a true (some c) fun g =>
gb a true (y5v k g) fun d =>
gb a true (y8 .eql d (.int .u8 91)) fun j =>
ob (yd a j (.bool false)) fun i =>
cnd i
 ((y13x b c h))
 ((ylj b c h))
def y2f5 (s : St) : OX := ym0 (s 0) (s 3) s.h
theorem y1ni : T1 yyz yby (y5 0 ybj xN) [.t 2] y2f5 := sq y1je fun _ => by kernel_rfl
theorem yo8 (a b : AV) (h : Heap) : yfv a b h = (ym0 a b h) :=
  y28.trans ((y1c _ _ _ (n' := yby) (fun s => yn1 s)).trans ((y1ni _).trans (by kernel_rfl)))
theorem y1jx : T1 y17q ybj xN [.t 2] yby := fun s => yy.trans (yn1 s)
theorem y1ja : T0 y11n [.t 2] yby := sq y1tr y1jx
def yvb (a : AV) (h : Heap) : OX :=
(yfv a (.int .i64 0) h)
def y21t (s : St) : OX := yvb (s 0) s.h
theorem y1a5 : T0 yuu [.t 2] y21t := sq y1ja fun _ => by kernel_rfl
def yp6 (a : AV) (h : Heap) : OX :=
(yvb a h)
def y20e (s : St) : OX := yp6 (s 0) s.h
theorem y1a4 : T0 yqx [.t 2] y20e := sq y1a5 fun _ => by kernel_rfl
@[simp] theorem y2qg : E.pure 67 = true := rfl
theorem y2hd (a : AV) : (yb E).p 67 [a] = yp6 a [] :=
  (y15 (cf := y26q) (by kernel_rfl) rfl).trans ((y1a4 _).trans (by kernel_rfl))
def y5h (A c : AV) (h : Heap) : OX :=
ob (evFa 0 c) fun j =>
ob (evLd false 1 j h) fun x =>
ob (y8 .neq x (.int .i64 24)) fun d =>
gb d true (evFa 0 c) fun k =>
gb d true (evLd false 1 k h) fun u =>
gb d true (y8 .neq u (.int .i64 25)) fun v =>
ob (yd d v (.bool false)) fun b =>
gb b false (evFa 8 c) fun z =>
gb b false (evLd false 1 z h) fun l =>
gb b false (y13 1 l h) fun y =>
gb b false (y8 .gtr y (.int .i64 0)) fun w =>
gb b false (some w) fun a =>
gb a true (evLd true 5 A h) fun g =>
gb a true (evFa 8 c) fun o =>
gb a true (evLd false 1 o h) fun r =>
gb a true (yw 1 r (.int .i64 0)) fun t =>
gb a true (evLd false 1 t h) fun m =>
gh a true (y9 E (yb E) 0 none true 48 [g, m] h) h fun i h1 =>
gb a true (y8 .eql i (.int .i64 3)) fun e =>
gb b false (yd a e (.bool false)) fun p =>
ob (yd b (.bool true) p) fun n =>
(yf h1 n)
def y7f (s : St) : OX := y5h (s 2) (s 3) s.h
theorem y1vx : T0 y18n [.t 4] y7f := fun _ => by kernel_rfl
def yhy (c b a : AV) (h : Heap) : OX :=
  W E 0 yin ⟨[(2, c), (3, b), (5, a)], h⟩ y7f (y5 0 y7f xN) (finP [.t 4])
def yc5 (s : St) : OX := yhy (s 2) (s 3) (s 5) s.h
theorem ynb : T1 yin y7f (y5 0 y7f xN) [.t 4] yc5 := fun s => yj.trans (by kernel_rfl)
def y99 (d b a : AV) (h : Heap) : OX :=
ob (y8 .add a (.int .i64 1)) fun c =>
(yhy d b c h)
def y2dx (s : St) : OX := y99 (s 2) (s 3) (s 5) s.h
theorem y1od : T1 y12q yc5 (y5 0 y7f xN) [.t 4] y2dx := fun _ => by kernel_rfl
def y7r (c a b : AV) (h : Heap) : OX :=
ob (evLd true 5 c h) fun g =>
ob (evFa 8 a) fun e =>
ob (evLd false 1 e h) fun d =>
ob (yw 1 d b) fun i =>
ob (evLd false 1 i h) fun j =>
oh (y9 E (yb E) 0 none true 48 [g, j] h) fun l h2 =>
ob (y8 .eql l (.int .i64 0)) fun k =>
cnd k
 ((yf h2 (.bool false)))
 ((y99 c a b h2))
def y29g (s : St) : OX := y7r (s 2) (s 3) (s 5) s.h
theorem y1tb : T1 y14a yc5 (y5 0 y7f xN) [.t 4] y29g := sq y1od fun _ => by kernel_rfl
def y72 (c a b : AV) (h : Heap) : OX :=
ob (evFa 8 a) fun i =>
ob (evLd false 1 i h) fun d =>
ob (y13 1 d h) fun g =>
ob (y8 .lss b g) fun e =>
cnd e
 ((y7r c a b h))
 ((y5h c a h))
def y2fx (s : St) : OX := y72 (s 2) (s 3) (s 5) s.h
theorem y1qx : T1 y135 yc5 (y5 0 y7f xN) [.t 4] y2fx := sq y1tb fun _ => by kernel_rfl
theorem yn0 (c b a : AV) (h : Heap) : yhy c b a h = (y72 c b a h) :=
  y28.trans ((y1c _ _ _ (n' := yc5) (fun s => ynb s)).trans ((y1qx _).trans (by kernel_rfl)))
theorem y1h3 : T1 y0e y7f xN [.t 4] yc5 := fun s => yy.trans (ynb s)
def yaw (b a : AV) (h : Heap) : OX :=
(yhy b a (.int .i64 0) h)
def y1dg (s : St) : OX := yaw (s 2) (s 3) s.h
theorem y1qh : T1 yxl y7f xN [.t 4] y1dg := sq y1h3 fun _ => by kernel_rfl
theorem y1es : T0 y17k [.t 4] y1dg := sq y1vx y1qh
def ybl (g a : AV) (h : Heap) : OX :=
ob (evFa 5 a) fun i =>
ob (evLd false 1 i h) fun l =>
ob (y8 .lss l (.int .i64 0)) fun e =>
gb e true (evFa 0 a) fun k =>
gb e true (evLd false 1 k h) fun z =>
gb e true (y8 .neq z (.int .i64 25)) fun x =>
ob (yd e x (.bool false)) fun d =>
gb d false (evFa 8 a) fun A =>
gb d false (evLd false 1 A h) fun p =>
gb d false (y13 1 p h) fun n =>
gb d false (y8 .gtr n (.int .i64 21)) fun t =>
ob (yd d (.bool true) t) fun c =>
gb c false (evFa 1 a) fun j =>
gb c false (evLd false 1 j h) fun B =>
gb c false (y8 .neq B (.int .i64 (-1))) fun o =>
gb c false (some o) fun b =>
gb b true (evLd true 5 g h) fun r =>
gb b true (evFa 1 a) fun u =>
gb b true (evLd false 1 u h) fun w =>
gh b true (y9 E (yb E) 0 none true 48 [r, w] h) h fun y h3 =>
gb b true (y8 .eql y (.int .i64 0)) fun C =>
gb c false (yd b C (.bool false)) fun m =>
ob (yd c (.bool true) m) fun v =>
cnd v
 ((yf h3 (.bool false)))
 ((yaw g a h3))
def y2d8 (s : St) : OX := ybl (s 2) (s 3) s.h
theorem y1r8 : T0 y0b [.t 4] y2d8 := sq y1es fun _ => by kernel_rfl
def y66 (b a : AV) (h : Heap) : OX :=
oh (newC 0 (some 0) (cellsOf b) h) fun d h4 =>
oh (newC 0 (some 1) (cellsOf a) h4) fun c h5 =>
(ybl d c h5)
def y23g (s : St) : OX := y66 (s 0) (s 1) s.h
theorem y1cl : T0 ys1 [.t 4] y23g := sq y1r8 fun _ => by kernel_rfl
@[simp] theorem y2oi : E.pure 68 = true := rfl
theorem y2iv (b a : AV) : (yb E).p 68 [b, a] = y66 b a [⟨0, .dead⟩, ⟨0, .dead⟩] :=
  (y15 (cf := y25m) (by kernel_rfl) rfl).trans ((y1cl _).trans (by kernel_rfl))
def y2ew (h : Heap) : OX :=
(yf h (.tup [(.int .i64 0), (.int .i64 0), (.int .i64 0)]))
def y3q (s : St) : OX := y2ew s.h
theorem y1x4 : T0 y1s7 [.t 2, .t 3, .t 4] y3q := fun _ => by kernel_rfl
def y19i (a e : AV) (h : Heap) : OX :=
cnd e
 ((yf h (.tup [(.int .i64 1), (.int .i64 0), (.int .i64 1)])))
 (ob (y8 .eql a (.int .i64 117)) fun c =>
cnd c
 ((yf h (.tup [(.int .i64 2), (.int .i64 0), (.int .i64 2)])))
 (ob (y8 .eql a (.int .i64 133)) fun b =>
cnd b
 ((yf h (.tup [(.int .i64 1), (.int .i64 0), (.int .i64 2)])))
 (ob (y8 .eql a (.int .i64 136)) fun d =>
cnd d
 ((yf h (.tup [(.int .i64 2), (.int .i64 0), (.int .i64 1)])))
 ((y2ew h)))))
def y2jw (s : St) : OX := y19i (s 5) (s 33) s.h
theorem y1yf : T1 y1fj y3q (y5 0 y3q xN) [.t 2, .t 3, .t 4] y2jw := fun _ => by kernel_rfl
def y2av (a : AV) (h : Heap) : OX :=
ob (y8 .eql a (.int .i64 116)) fun b =>
cnd b
 ((y19i a b h))
 (ob (y8 .eql a (.int .i64 145)) fun d =>
cnd d
 ((y19i a d h))
 (ob (y8 .eql a (.int .i64 146)) fun c =>
cnd c
 ((y19i a c h))
 (ob (y8 .eql a (.int .i64 147)) fun e =>
(y19i a e h))))
def y2lc (s : St) : OX := y2av (s 5) s.h
theorem y240 : T1 y1mr y3q (y5 0 y3q xN) [.t 2, .t 3, .t 4] y2lc := sq y1yf fun _ => by kernel_rfl
def y2cw (a b : AV) (h : Heap) : OX :=
cnd b
 ((yf h (.tup [(.int .i64 2), (.int .i64 2), (.int .i64 1)])))
 ((y2av a h))
def y2jn (s : St) : OX := y2cw (s 5) (s 31) s.h
theorem y232 : T1 y1tn y3q (y5 0 y3q xN) [.t 2, .t 3, .t 4] y2jn := fun s => (y1b rfl (y240 s)).trans (by kernel_rfl)
def y299 (a : AV) (h : Heap) : OX :=
ob (y8 .eql a (.int .i64 148)) fun b =>
(y2cw a b h)
def y2jh (s : St) : OX := y299 (s 5) s.h
theorem y25h : T1 y1mi y3q (y5 0 y3q xN) [.t 2, .t 3, .t 4] y2jh := sq y232 fun _ => by kernel_rfl
def y1nt (a b : AV) (h : Heap) : OX :=
cnd b
 ((yf h (.tup [(.int .i64 2), (.int .i64 1), (.int .i64 2)])))
 ((y299 a h))
def y2ma (s : St) : OX := y1nt (s 5) (s 27) s.h
theorem y20s : T1 y1qv y3q (y5 0 y3q xN) [.t 2, .t 3, .t 4] y2ma := fun s => (y1b rfl (y25h s)).trans (by kernel_rfl)
def y28q (a : AV) (h : Heap) : OX :=
ob (y8 .eql a (.int .i64 121)) fun c =>
cnd c
 ((y1nt a c h))
 (ob (y8 .eql a (.int .i64 123)) fun b =>
cnd b
 ((y1nt a b h))
 (ob (y8 .eql a (.int .i64 125)) fun d =>
(y1nt a d h)))
def y2hf (s : St) : OX := y28q (s 5) s.h
theorem y23i : T1 y1hk y3q (y5 0 y3q xN) [.t 2, .t 3, .t 4] y2hf := sq y20s fun _ => by kernel_rfl
def yla (a b : AV) (h : Heap) : OX :=
cnd b
 ((yf h (.tup [(.int .i64 2), (.int .i64 2), (.int .i64 2)])))
 ((y28q a h))
def y2j3 (s : St) : OX := yla (s 5) (s 18) s.h
theorem y1x0 : T1 y1nx y3q (y5 0 y3q xN) [.t 2, .t 3, .t 4] y2j3 := fun s => (y1b rfl (y23i s)).trans (by kernel_rfl)
def y28r (a : AV) (h : Heap) : OX :=
ob (y8 .eql a (.int .i64 97)) fun j =>
cnd j
 ((yla a j h))
 (ob (y8 .eql a (.int .i64 101)) fun b =>
cnd b
 ((yla a b h))
 (ob (y8 .eql a (.int .i64 105)) fun c =>
cnd c
 ((yla a c h))
 (ob (y8 .eql a (.int .i64 109)) fun g =>
cnd g
 ((yla a g h))
 (ob (y8 .eql a (.int .i64 113)) fun d =>
cnd d
 ((yla a d h))
 (ob (y8 .eql a (.int .i64 127)) fun i =>
cnd i
 ((yla a i h))
 (ob (y8 .eql a (.int .i64 129)) fun e =>
cnd e
 ((yla a e h))
 (ob (y8 .eql a (.int .i64 131)) fun k =>
(yla a k h))))))))
def y2kb (s : St) : OX := y28r (s 5) s.h
theorem y22k : T1 y1dc y3q (y5 0 y3q xN) [.t 2, .t 3, .t 4] y2kb := sq y1x0 fun _ => by kernel_rfl
def y7m (a b : AV) (h : Heap) : OX :=
cnd b
 ((yf h (.tup [(.int .i64 1), (.int .i64 1), (.int .i64 1)])))
 ((y28r a h))
def y29q (s : St) : OX := y7m (s 5) (s 6) s.h
theorem y1dq : T1 y11a y3q (y5 0 y3q xN) [.t 2, .t 3, .t 4] y29q := fun s => (y1b rfl (y22k s)).trans (by kernel_rfl)
def y1tp (a : AV) (h : Heap) : OX :=
ob (y8 .eql a (.int .i64 96)) fun e =>
cnd e
 ((y7m a e h))
 (ob (y8 .eql a (.int .i64 100)) fun c =>
cnd c
 ((y7m a c h))
 (ob (y8 .eql a (.int .i64 104)) fun m =>
cnd m
 ((y7m a m h))
 (ob (y8 .eql a (.int .i64 108)) fun d =>
cnd d
 ((y7m a d h))
 (ob (y8 .eql a (.int .i64 112)) fun b =>
cnd b
 ((y7m a b h))
 (ob (y8 .eql a (.int .i64 120)) fun k =>
cnd k
 ((y7m a k h))
 (ob (y8 .eql a (.int .i64 122)) fun g =>
cnd g
 ((y7m a g h))
 (ob (y8 .eql a (.int .i64 124)) fun l =>
cnd l
 ((y7m a l h))
 (ob (y8 .eql a (.int .i64 126)) fun i =>
cnd i
 ((y7m a i h))
 (ob (y8 .eql a (.int .i64 128)) fun j =>
cnd j
 ((y7m a j h))
 (ob (y8 .eql a (.int .i64 130)) fun n =>
(y7m a n h)))))))))))
def y1dp (s : St) : OX := y1tp (s 5) s.h
theorem y1nz : T1 yz7 y3q (y5 0 y3q xN) [.t 2, .t 3, .t 4] y1dp := sq y1dq fun _ => by kernel_rfl
theorem y1ef : T1 yzb y3q xN [.t 2, .t 3, .t 4] y1dp := fun s => yy.trans (y1nz s)
def y1d2 (a : AV) (h : Heap) : OX :=
(y1tp a h)
def y1gg (s : St) : OX := y1d2 (s 0) s.h
theorem y1nr : T1 yz2 y3q xN [.t 2, .t 3, .t 4] y1gg := sq y1ef fun _ => by kernel_rfl
theorem y1hv : T0 y11m [.t 2, .t 3, .t 4] y1gg := sq y1x4 y1nr
def y1tz (a : AV) (h : Heap) : OX :=
(y1d2 a h)
def y29x (s : St) : OX := y1tz (s 0) s.h
theorem y1n6 : T0 yzm [.t 2, .t 3, .t 4] y29x := sq y1hv fun _ => by kernel_rfl
@[simp] theorem y2ql : E.pure 50 = true := rfl
theorem y2py (a : AV) : (yb E).p 50 [a] = y1tz a [] :=
  (y15 (cf := y2ie) (by kernel_rfl) rfl).trans ((y1n6 _).trans (by kernel_rfl))
def q8_1 (b : AV) (h : Heap) : OX :=
ob (y8 .neq b (AV.str [])) fun a =>
gb a true (some b) fun d =>
gh a true (y9 E (yb E) 0 none true 44 [d] h) h fun i h1 =>
gb a true (some b) fun e =>
gb a true (y13 0 e h1) fun j =>
gb a true (y8 .eql i j) fun g =>
ob (yd a g (.bool false)) fun c =>
(yf h1 c)
def y2ow (s : St) : OX := q8_1 (s 0) s.h
theorem y2g2 : T0 y26w [.t 2] y2ow := fun _ => by kernel_rfl
@[simp] theorem y2r0 : E.pure 37 = true := rfl
theorem x_q8 (a : AV) : (yb E).p 37 [a] = q8_1 a [] :=
  (y15 (cf := c_q8) (by kernel_rfl) rfl).trans ((y2g2 _).trans (by kernel_rfl))
def yuz (a : AV) (h : Heap) : OX :=
ob (y11 [(.int .i64 0), (.int .i64 0), (.int .i64 0), (.int .i64 0)] []) fun b =>
oh (evSt 4 a b h) fun _ h1 =>
(ob (evLd true 4 a h1) fun r0 =>
  yf h1 (.tup [r0, (.bool false)]))
def y2l (s : St) : OX := yuz (s 2) s.h
theorem y1yd : T0 y1u1 [.cell 2 true 4, .t 3] y2l := fun _ => by kernel_rfl
def yrb (e b m : AV) (h : Heap) : OX :=
ob (y11 [(.int .i64 0), (.int .i64 0), (.int .i64 0), (.int .i64 0)] [(0, 1, (.int .i64 (-1))), (1, 1, (.int .i64 3)), (2, 1, m), (3, 1, (.int .i64 (-1)))]) fun g =>
ob (evFa 5 e) fun d =>
ob (evLd false 1 d h) fun l =>
ob (y8 .eql l (.int .i64 0)) fun a =>
ofp (fgd a false (some ([], []))) fun f6 =>
gb a false (evFa 5 e) fun c =>
ofp (fgd a false (some (ids1 c, []))) fun f7 =>
gb a false (evLd false 1 c h) fun j =>
ofp (fgd a false (some ([], []))) fun f8 =>
gb a false (y8 .eql j (.int .i64 1)) fun i =>
ob (yd a (.bool true) i) fun k =>
oh (evSt 4 b g h) fun _ h2 =>
okK (yg [([], []), ([], []), ([], []), (ids1 d, []), ([], []), ([], []), f6, f7, f8, ([], []), ([], ids1 b), ([], [])] [(7, 10)]) <|
(ob (evLd true 4 b h2) fun r0 =>
  yf h2 (.tup [r0, k]))
def y2l6 (s : St) : OX := yrb (s 1) (s 2) (s 4) s.h
theorem y21b : T1 y1rj y2l (y5 0 y2l xN) [.cell 2 true 4, .t 3] y2l6 := fun _ => by kernel_rfl
def yvp (a b e : AV) (h : Heap) : OX :=
ob (evFa 3 a) fun d =>
ob (evLd false 1 d h) fun c =>
ob (y8 .neq c (.int .i64 (-1))) fun g =>
cnd g
 ((yrb a b (.int .i64 3) h))
 ((yrb a b e h))
def y2ll (s : St) : OX := yvp (s 1) (s 2) (s 4) s.h
theorem y24q : T1 y1i3 y2l (y5 0 y2l xN) [.cell 2 true 4, .t 3] y2ll := sq y21b fun _ => by kernel_rfl
def ywt (a b : AV) (h : Heap) : OX :=
(yvp a b (.int .i64 (-1)) h)
def y2le (s : St) : OX := ywt (s 1) (s 2) s.h
theorem y1x9 : T1 y1sd y2l (y5 0 y2l xN) [.cell 2 true 4, .t 3] y2le := sq y24q fun _ => by kernel_rfl
def yug (a b : AV) (h : Heap) : OX :=
ob (y11 [(.int .i64 0), (.int .i64 0), (.int .i64 0), (.int .i64 0)] [(0, 1, (.int .i64 (-1))), (1, 1, b), (2, 1, (.int .i64 (-1))), (3, 1, (.int .i64 (-1)))]) fun c =>
oh (evSt 4 a c h) fun _ h3 =>
(ob (evLd true 4 a h3) fun r0 =>
  yf h3 (.tup [r0, (.bool true)]))
def y2kc (s : St) : OX := yug (s 2) (s 5) s.h
theorem y1zo : T1 y1sc y2l (y5 0 y2l xN) [.cell 2 true 4, .t 3] y2kc := fun _ => by kernel_rfl
def yuv (d a g : AV) (h : Heap) : OX :=
ob (evFa 2 d) fun b =>
ob (evLd false 1 b h) fun c =>
ob (y8 .neq c (.int .i64 (-1))) fun e =>
cnd e
 ((yug a (.int .i64 0) h))
 ((yug a g h))
def y2ir (s : St) : OX := yuv (s 1) (s 2) (s 5) s.h
theorem y1zs : T1 y1ux y2l (y5 0 y2l xN) [.cell 2 true 4, .t 3] y2ir := sq y1zo fun _ => by kernel_rfl
def yv8 (a b : AV) (h : Heap) : OX :=
(yuv a b (.int .i64 (-1)) h)
def y2j0 (s : St) : OX := yv8 (s 1) (s 2) s.h
theorem y203 : T1 y1sx y2l (y5 0 y2l xN) [.cell 2 true 4, .t 3] y2j0 := sq y1zs fun _ => by kernel_rfl
def yqs (d i o : AV) (h : Heap) : OX :=
ob (evFa 0 d) fun v =>
ob (evLd false 1 v h) fun n =>
ob (y8 .eql n (.int .i64 23)) fun g =>
gb g false (evFa 0 d) fun p =>
gb g false (evLd false 1 p h) fun C =>
gb g false (y8 .eql C (.int .i64 26)) fun A =>
ob (yd g (.bool true) A) fun e =>
gb e false (evFa 8 d) fun t =>
gb e false (evLd false 1 t h) fun z =>
gb e false (y13 1 z h) fun u =>
gb e false (y8 .gtr u (.int .i64 0)) fun D =>
ob (yd e (.bool true) D) fun a =>
ob (y11 [(.int .i64 0), (.int .i64 0), (.int .i64 0), (.int .i64 0)] [(0, 1, o), (1, 1, (.int .i64 (-1))), (2, 1, (.int .i64 (-1))), (3, 1, (.int .i64 (-1)))]) fun G =>
ofp (fgd a true (some ([], []))) fun f4 =>
gb a true (evFa 5 d) fun m =>
ofp (fgd a true (some (ids1 m, []))) fun f5 =>
gb a true (evLd false 1 m h) fun H =>
ofp (fgd a true (some ([], []))) fun f6 =>
gb a true (y8 .geq H (.int .i64 0)) fun F =>
ofp (fgd a true (some ([], []))) fun f7 =>
gb a true (some F) fun c =>
ofp (fgd c false (some ([], []))) fun f8 =>
gb c false (evFa 0 d) fun k =>
ofp (fgd c false (some (ids1 k, []))) fun f9 =>
gb c false (evLd false 1 k h) fun y =>
ofp (fgd c false (some ([], []))) fun f10 =>
gb c false (y8 .eql y (.int .i64 25)) fun B =>
ofp (fgd a true (some ([], []))) fun f11 =>
gb a true (yd c (.bool true) B) fun x =>
ob (yd a x (.bool false)) fun b =>
ofp (fgd b true (some ([], []))) fun f14 =>
gb b true (evFa 8 d) fun l =>
ofp (fgd b true (some (ids1 l, []))) fun f15 =>
gb b true (evLd false 1 l h) fun j =>
ofp (fgd b true (some (ids1 j, []))) fun f16 =>
gb b true (y13 1 j h) fun w =>
ofp (fgd b true (some ([], []))) fun f17 =>
gb b true (y8 .leq w (.int .i64 21)) fun r =>
ob (yd b r (.bool false)) fun I =>
oh (evSt 4 i G h) fun _ h4 =>
okK (yg [([], []), ([], []), ([], []), ([], []), f4, f5, f6, f7, f8, f9, f10, f11, ([], []), ([], []), f14, f15, f16, f17, ([], []), ([], ids1 i), ([], [])] [(15, 19), (16, 19)]) <|
(ob (evLd true 4 i h4) fun r0 =>
  yf h4 (.tup [r0, I]))
def y2ic (s : St) : OX := yqs (s 1) (s 2) (s 6) s.h
theorem y231 : T1 y1r0 y2l (y5 0 y2l xN) [.cell 2 true 4, .t 3] y2ic := fun _ => by kernel_rfl
def yvu (a b c : AV) (h : Heap) : OX :=
ob (evFa 1 a) fun g =>
ob (evLd false 1 g h) fun e =>
ob (y8 .neq e (.int .i64 (-1))) fun d =>
cnd d
 ((yqs a b (.int .i64 0) h))
 ((yqs a b c h))
def y2k8 (s : St) : OX := yvu (s 1) (s 2) (s 6) s.h
theorem y1xt : T1 y1ix y2l (y5 0 y2l xN) [.cell 2 true 4, .t 3] y2k8 := sq y231 fun _ => by kernel_rfl
def yi5 (a b : AV) (h : Heap) : OX :=
(yvu a b (.int .i64 (-1)) h)
def y2c3 (s : St) : OX := yi5 (s 1) (s 2) s.h
theorem y1vm : T1 y17x y2l (y5 0 y2l xN) [.cell 2 true 4, .t 3] y2c3 := sq y1xt fun _ => by kernel_rfl
def ycj (b a c : AV) (h : Heap) : OX :=
cnd c
 ((yi5 b a h))
 ((yuz a h))
def y2bq (s : St) : OX := ycj (s 1) (s 2) (s 32) s.h
theorem y1ua : T1 y15e y2l (y5 0 y2l xN) [.cell 2 true 4, .t 3] y2bq := fun s => (y1b (y1vm s) rfl).trans (by kernel_rfl)
def yic (a c b : AV) (h : Heap) : OX :=
ob (y8 .eql b (.int .i64 23)) fun g =>
cnd g
 ((ycj a c g h))
 (ob (y8 .eql b (.int .i64 24)) fun d =>
cnd d
 ((ycj a c d h))
 (ob (y8 .eql b (.int .i64 25)) fun e =>
cnd e
 ((ycj a c e h))
 (ob (y8 .eql b (.int .i64 26)) fun i =>
(ycj a c i h))))
def y28b (s : St) : OX := yic (s 1) (s 2) (s 9) s.h
theorem y1ii : T1 yzs y2l (y5 0 y2l xN) [.cell 2 true 4, .t 3] y28b := sq y1ua fun _ => by kernel_rfl
def yjk (a b d c : AV) (h : Heap) : OX :=
cnd c
 ((yv8 a b h))
 ((yic a b d h))
def y2bk (s : St) : OX := yjk (s 1) (s 2) (s 9) (s 25) s.h
theorem y1ri : T1 y125 y2l (y5 0 y2l xN) [.cell 2 true 4, .t 3] y2bk := fun s => (y1b (y203 s) (y1ii s)).trans (by kernel_rfl)
def yk3 (b d a : AV) (h : Heap) : OX :=
ob (y8 .eql a (.int .i64 30)) fun c =>
(yjk b d a c h)
def y2fc (s : St) : OX := yk3 (s 1) (s 2) (s 9) s.h
theorem y1ke : T1 yys y2l (y5 0 y2l xN) [.cell 2 true 4, .t 3] y2fc := sq y1ri fun _ => by kernel_rfl
def ykb (a b d c : AV) (h : Heap) : OX :=
cnd c
 ((ywt a b h))
 ((yk3 a b d h))
def y2c7 (s : St) : OX := ykb (s 1) (s 2) (s 9) (s 10) s.h
theorem y1e1 : T1 y14k y2l (y5 0 y2l xN) [.cell 2 true 4, .t 3] y2c7 := fun s => (y1b (y1x9 s) (y1ke s)).trans (by kernel_rfl)
def yis (b d a : AV) (h : Heap) : OX :=
ob (y8 .eql a (.int .i64 29)) fun c =>
(ykb b d a c h)
def y1lp (s : St) : OX := yis (s 1) (s 2) (s 9) s.h
theorem y1h6 : T1 y0z y2l (y5 0 y2l xN) [.cell 2 true 4, .t 3] y1lp := sq y1e1 fun _ => by kernel_rfl
theorem y1hh : T1 y147 y2l xN [.cell 2 true 4, .t 3] y1lp := fun s => yy.trans (y1h6 s)
def yjr (a d : AV) (h : Heap) : OX :=
ob (evFa 0 a) fun b =>
ob (evLd false 1 b h) fun c =>
(yis a d c h)
def y1ib (s : St) : OX := yjr (s 1) (s 2) s.h
theorem y1it : T1 y122 y2l xN [.cell 2 true 4, .t 3] y1ib := sq y1hh fun _ => by kernel_rfl
theorem y1h2 : T0 y0q [.cell 2 true 4, .t 3] y1ib := sq y1yd y1it
def ykd (b : AV) (h : Heap) : OX :=
oh (newC 0 (some 0) (cellsOf b) h) fun a h5 =>
oh (newC 0 (some 1) [(.int .i64 0), (.int .i64 0), (.int .i64 0), (.int .i64 0)] h5) fun c h6 =>
(yjr a c h6)
def y2cx (s : St) : OX := ykd (s 0) s.h
theorem y1kx : T0 y16x [.cell 2 true 4, .t 3] y2cx := sq y1h2 fun _ => by kernel_rfl
@[simp] theorem y2os : E.pure 51 = true := rfl
theorem y20a (a : AV) : (yb E).p 51 [a] = ykd a [⟨0, .dead⟩, ⟨0, .dead⟩] :=
  (y15 (cf := y2h8) (by kernel_rfl) rfl).trans ((y1kx _).trans (by kernel_rfl))
def yip (b : AV) (h : Heap) : OX :=
ob (y8 .neq b (AV.str [])) fun a =>
gb a true (some b) fun d =>
gb a true (y13 0 d h) fun e =>
gb a true (y8 .leq e (.int .i64 60)) fun g =>
ob (yd a g (.bool false)) fun c =>
(yf h c)
def y7d (s : St) : OX := yip (s 0) s.h
theorem y1ol : T0 yyp [.t 4] y7d := fun _ => by kernel_rfl
def yfg (b a c : AV) (h : Heap) : OX :=
  W E 0 yke ⟨[(0, b), (5, a), (6, c)], h⟩ y7d (y5 0 y7d xN) (finP [.t 4])
def ybv (s : St) : OX := yfg (s 0) (s 5) (s 6) s.h
theorem yll : T1 yke y7d (y5 0 y7d xN) [.t 4] ybv := fun s => yj.trans (by kernel_rfl)
def yxi (b a c : AV) (h : Heap) : OX :=
ob (y8 .add c (.int .i64 1)) fun d =>
(yfg b a d h)
def y2d2 (s : St) : OX := yxi (s 0) (s 5) (s 6) s.h
theorem y1uv : T1 yyk ybv (y5 0 y7d xN) [.t 4] y2d2 := fun _ => by kernel_rfl
def yrw (b c a : AV) (h : Heap) : OX :=
ob (y8 .add a (.int .i64 1)) fun d =>
ob (yei b (some a) (some d)) fun e =>
oh (y9 E (yb E) 0 none true 53 [c, e] h) fun i h1 =>
ob (evUn .not i) fun g =>
cnd g
 ((yf h1 (.bool false)))
 ((yxi b c a h1))
def y2dg (s : St) : OX := yrw (s 0) (s 5) (s 6) s.h
theorem y1l4 : T1 y12m ybv (y5 0 y7d xN) [.t 4] y2dg := sq y1uv fun _ => by kernel_rfl
def yrt (a e b : AV) (h : Heap) : OX :=
ob (y13 0 a h) fun d =>
ob (y8 .lss b d) fun c =>
cnd c
 ((yrw a e b h))
 ((yip a h))
def y28v (s : St) : OX := yrt (s 0) (s 5) (s 6) s.h
theorem y1dj : T1 yx7 ybv (y5 0 y7d xN) [.t 4] y28v := sq y1l4 fun _ => by kernel_rfl
theorem ylq (b a c : AV) (h : Heap) : yfg b a c h = (yrt b a c h) :=
  y28.trans ((y1c _ _ _ (n' := ybv) (fun s => yll s)).trans ((y1dj _).trans (by kernel_rfl)))
theorem y1ea : T1 y128 y7d xN [.t 4] ybv := fun s => yy.trans (yll s)
def y12e (b a : AV) (h : Heap) : OX :=
(yfg b a (.int .i64 0) h)
def y1m7 (s : St) : OX := y12e (s 0) (s 5) s.h
theorem y1pu : T1 y159 y7d xN [.t 4] y1m7 := sq y1ea fun _ => by kernel_rfl
theorem y1pd : T0 y15p [.t 4] y1m7 := sq y1ol y1pu
def y1na (a c b : AV) (h : Heap) : OX :=
cnd c
 (ob (y8 .add b (AV.str [60, 62])) fun d =>
(y12e a d h))
 ((y12e a b h))
def y2as (s : St) : OX := y1na (s 0) (s 1) (s 5) s.h
theorem y1q1 : T0 y08 [.t 4] y2as := sq y1pd fun _ => by kernel_rfl
def ywc (b a : AV) (h : Heap) : OX :=
(y1na b a (AV.str [97, 98, 99, 100, 101, 102, 103, 104, 105, 106, 107, 108, 109, 110, 111, 112, 113, 114, 115, 116, 117, 118, 119, 120, 121, 122, 65, 66, 67, 68, 69, 70, 71, 72, 73, 74, 75, 76, 77, 78, 79, 80, 81, 82, 83, 84, 85, 86, 87, 88, 89, 90, 48, 49, 50, 51, 52, 53, 54, 55, 56, 57, 95, 36, 47]) h)
def y1wv (s : St) : OX := ywc (s 0) (s 1) s.h
theorem y1a8 : T0 yrq [.t 4] y1wv := sq y1q1 fun _ => by kernel_rfl
def ypf (b a : AV) (h : Heap) : OX :=
(ywc b a h)
def y21h (s : St) : OX := ypf (s 0) (s 1) s.h
theorem y1ay : T0 yts [.t 4] y21h := sq y1a8 fun _ => by kernel_rfl
@[simp] theorem y2o4 : E.pure 69 = true := rfl
theorem y2ib (b a : AV) : (yb E).p 69 [b, a] = ypf b a [] :=
  (y15 (cf := y27c) (by kernel_rfl) rfl).trans ((y1ay _).trans (by kernel_rfl))
def q9_1 (h : Heap) : OX :=
(yf h (.int .i64 0))
def y3k (s : St) : OX := q9_1 s.h
theorem y282 : T0 y26l [.t 2] y3k := fun _ => by kernel_rfl
def y1t5 (b c a : AV) (h : Heap) : OX :=
  W E 0 yw3 ⟨[(0, b), (3, c), (4, a)], h⟩ y3k (y5 3 y3k (y5 2 y3k xN)) (finP [.t 2])
def ymv (s : St) : OX := y1t5 (s 0) (s 3) (s 4) s.h
theorem y12j : T1 yw3 y3k (y5 3 y3k (y5 2 y3k xN)) [.t 2] ymv := fun s => yj.trans (by kernel_rfl)
def q9_3 (b c a : AV) (h : Heap) : OX :=
ob (y8 .add a (.int .i64 1)) fun d =>
(y1t5 b c d h)
def yl5 (s : St) : OX := q9_3 (s 0) (s 3) (s 4) s.h
theorem y2bz : T1 y25u ymv (y5 3 y3k (y5 2 y3k xN)) [.t 2] yl5 := fun _ => by kernel_rfl
def q9_4 (h : Heap) : OX :=
(yf h (.int .i64 0))
def y2r1 (s : St) : OX := q9_4 s.h
theorem y2fk : T1 y271 yl5 (y5 4 yl5 (y5 3 y3k (y5 2 y3k xN))) [.t 2] y2r1 := fun _ => by kernel_rfl
def q9_5 (c e a : AV) (h : Heap) : OX :=
ob (y8 .add e (.int .i64 1)) fun b =>
ob (yei c (some b) (some a)) fun d =>
oh (y9 E (yb E) 0 none true 60 [d, (.bool false)] h) fun i h1 =>
cnd i
 (ob (y8 .add a (.int .i64 1)) fun g =>
(yf h1 g))
 ((q9_4 h1))
def y2p8 (s : St) : OX := q9_5 (s 0) (s 3) (s 4) s.h
theorem y2cj : T1 y278 yl5 (y5 4 yl5 (y5 3 y3k (y5 2 y3k xN))) [.t 2] y2p8 := sq y2fk fun _ => by kernel_rfl
def q9_6 (b c a d : AV) (h : Heap) : OX :=
cnd d
 ((q9_5 b c a h))
 ((q9_3 b c a h))
def y2p6 (s : St) : OX := q9_6 (s 0) (s 3) (s 4) (s 46) s.h
theorem y2dy : T1 y27r yl5 (y5 4 yl5 (y5 3 y3k (y5 2 y3k xN))) [.t 2] y2p6 := fun s => (y1b (y2cj s) rfl).trans (by kernel_rfl)
def q9_7 (a c b : AV) (h : Heap) : OX :=
ob (y5v a b) fun e =>
ob (y8 .eql e (.int .u8 59)) fun d =>
(q9_6 a c b d h)
def y2ey (s : St) : OX := q9_7 (s 0) (s 3) (s 4) s.h
theorem y2dc : T1 y26a yl5 (y5 4 yl5 (y5 3 y3k (y5 2 y3k xN))) [.t 2] y2ey := sq y2dy fun _ => by kernel_rfl
theorem y2a2 : T1 y25n yl5 (y5 3 y3k (y5 2 y3k xN)) [.t 2] y2ey := fun s => yy.trans (y2dc s)
theorem y2a5 : T1 y25x ymv (y5 3 y3k (y5 2 y3k xN)) [.t 2] y2ey := sq y2bz y2a2
def y1ab (a d b : AV) (h : Heap) : OX :=
ob (y13 0 a h) fun e =>
ob (y8 .lss b e) fun c =>
cnd c
 ((q9_7 a d b h))
 ((q9_1 h))
def y2jt (s : St) : OX := y1ab (s 0) (s 3) (s 4) s.h
theorem y224 : T1 y1tj ymv (y5 3 y3k (y5 2 y3k xN)) [.t 2] y2jt := sq y2a5 fun _ => by kernel_rfl
theorem y15g (b c a : AV) (h : Heap) : y1t5 b c a h = (y1ab b c a h) :=
  y28.trans ((y1c _ _ _ (n' := ymv) (fun s => y12j s)).trans ((y224 _).trans (by kernel_rfl)))
theorem y23h : T1 y1fh y3k (y5 2 y3k xN) [.t 2] ymv := fun s => yy.trans (y12j s)
def y2bd (c a : AV) (h : Heap) : OX :=
ob (y8 .add a (.int .i64 1)) fun b =>
(y1t5 c a b h)
def y2m1 (s : St) : OX := y2bd (s 0) (s 3) s.h
theorem y23o : T1 y1p6 y3k (y5 2 y3k xN) [.t 2] y2m1 := sq y23h fun _ => by kernel_rfl
def y233 (a b c : AV) (h : Heap) : OX :=
cnd c
 ((y2bd a b h))
 ((q9_1 h))
def y2l2 (s : St) : OX := y233 (s 0) (s 3) (s 33) s.h
theorem y237 : T1 y1ka y3k (y5 2 y3k xN) [.t 2] y2l2 := fun s => (y1b (y23o s) rfl).trans (by kernel_rfl)
def y202 (b c d : AV) (h : Heap) : OX :=
ob (y8 .eql d (.int .u8 76)) fun a =>
(y233 b c a h)
def y2lh (s : St) : OX := y202 (s 0) (s 3) (s 27) s.h
theorem y225 : T1 y1jz y3k (y5 2 y3k xN) [.t 2] y2lh := sq y237 fun _ => by kernel_rfl
def yvj (b a d e : AV) (h : Heap) : OX :=
cnd e
 (ob (y8 .add a (.int .i64 1)) fun c =>
(yf h c))
 ((y202 b a d h))
def y2hy (s : St) : OX := yvj (s 0) (s 3) (s 27) (s 28) s.h
theorem y215 : T1 y1fq y3k (y5 2 y3k xN) [.t 2] y2hy := fun s => (y1b rfl (y225 s)).trans (by kernel_rfl)
def y1b0 (b c a : AV) (h : Heap) : OX :=
ob (y8 .eql a (.int .u8 73)) fun d =>
cnd d
 ((yvj b c a d h))
 (ob (y8 .eql a (.int .u8 74)) fun e =>
(yvj b c a e h))
def y25v (s : St) : OX := y1b0 (s 0) (s 3) (s 27) s.h
theorem y229 : T1 y1p8 y3k (y5 2 y3k xN) [.t 2] y25v := sq y215 fun _ => by kernel_rfl
theorem y220 : T1 y1o5 y3k xN [.t 2] y25v := fun s => yy.trans (y229 s)
def y19w (a b : AV) (h : Heap) : OX :=
ob (y5v a b) fun c =>
(y1b0 a b c h)
def y26k (s : St) : OX := y19w (s 0) (s 3) s.h
theorem y1yz : T1 y1jt y3k xN [.t 2] y26k := sq y220 fun _ => by kernel_rfl
theorem y25d : T0 y1h4 [.t 2] y26k := sq y282 y1yz
def ylg (c b : AV) (h : Heap) : OX :=
ob (y8 .gtr b (.int .i64 8)) fun a =>
gb a false (some b) fun d =>
gb a false (some c) fun e =>
gb a false (y13 0 e h) fun i =>
gb a false (y8 .eql d i) fun g =>
ob (yd a (.bool true) g) fun j =>
cnd j
 ((yf h (.int .i64 0)))
 ((y19w c b h))
def ygi (s : St) : OX := ylg (s 0) (s 3) s.h
theorem y1ya : T0 y1ia [.t 2] ygi := sq y25d fun _ => by kernel_rfl
def ytn (a b : AV) (h : Heap) : OX :=
  W E 0 ypz ⟨[(0, a), (3, b)], h⟩ ygi (y5 0 ygi xN) (finP [.t 2])
def yf5 (s : St) : OX := ytn (s 0) (s 3) s.h
theorem yth : T1 ypz ygi (y5 0 ygi xN) [.t 2] yf5 := fun s => yj.trans (by kernel_rfl)
def y2ff (a b : AV) (h : Heap) : OX :=
ob (y8 .add b (.int .i64 1)) fun c =>
(ytn a c h)
def y2jo (s : St) : OX := y2ff (s 0) (s 3) s.h
theorem y255 : T1 y1n8 yf5 (y5 0 ygi xN) [.t 2] y2jo := fun _ => by kernel_rfl
def y1uj (b c : AV) (h : Heap) : OX :=
ob (y13 0 b h) fun g =>
ob (y8 .lss c g) fun a =>
gb a true (some b) fun e =>
gb a true (some c) fun d =>
gb a true (y5v e d) fun j =>
gb a true (y8 .eql j (.int .u8 91)) fun i =>
ob (yd a i (.bool false)) fun k =>
cnd k
 ((y2ff b c h))
 ((ylg b c h))
def y2ms (s : St) : OX := y1uj (s 0) (s 3) s.h
theorem y1za : T1 y1g2 yf5 (y5 0 ygi xN) [.t 2] y2ms := sq y255 fun _ => by kernel_rfl
theorem yr1 (a b : AV) (h : Heap) : ytn a b h = (y1uj a b h) :=
  y28.trans ((y1c _ _ _ (n' := yf5) (fun s => yth s)).trans ((y1za _).trans (by kernel_rfl)))
theorem y239 : T1 y1eb ygi xN [.t 2] yf5 := fun s => yy.trans (yth s)
theorem y22g : T0 y1vc [.t 2] yf5 := sq y1ya y239
def y292 (a : AV) (h : Heap) : OX :=
(ytn a (.int .i64 0) h)
def y2lw (s : St) : OX := y292 (s 0) s.h
theorem y23v : T0 y1kl [.t 2] y2lw := sq y22g fun _ => by kernel_rfl
def y2e0 (a : AV) (h : Heap) : OX :=
(y292 a h)
def y2lt (s : St) : OX := y2e0 (s 0) s.h
theorem y257 : T0 y1pg [.t 2] y2lt := sq y23v fun _ => by kernel_rfl
@[simp] theorem y2qy : E.pure 44 = true := rfl
theorem x_q9 (a : AV) : (yb E).p 44 [a] = y2e0 a [] :=
  (y15 (cf := c_q9) (by kernel_rfl) rfl).trans ((y257 _).trans (by kernel_rfl))
def q7_1 (h : Heap) : OX :=
(yf h (.bool true))
def yix (s : St) : OX := q7_1 s.h
theorem y28u : T0 y27k [.t 4] yix := fun _ => by kernel_rfl
def y1dl (a c d b : AV) (h : Heap) : OX :=
  W E 0 yvi ⟨[(1, a), (17, c), (18, d), (19, b)], h⟩ yix (y5 0 yix xN) (finP [.t 4])
def yij (s : St) : OX := y1dl (s 1) (s 17) (s 18) (s 19) s.h
theorem y0h : T1 yvi yix (y5 0 yix xN) [.t 4] yij := fun s => yj.trans (by kernel_rfl)
def q7_3 (d a c e : AV) (h : Heap) : OX :=
ob (y8 .add e (.int .i64 1)) fun b =>
(y1dl d a c b h)
def y2p5 (s : St) : OX := q7_3 (s 1) (s 17) (s 18) (s 19) s.h
theorem y288 : T1 y277 yij (y5 0 yix xN) [.t 4] y2p5 := fun _ => by kernel_rfl
def q7_4 (r o G p : AV) (h : Heap) : OX :=
ob (yw 1 o p) fun v =>
ob (evLd false 1 v h) fun a =>
ob (y8 .geq a (.int .u8 97)) fun i =>
gb i true (some a) fun J =>
gb i true (y8 .leq J (.int .u8 122)) fun N =>
ob (yd i N (.bool false)) fun d =>
gb d false (some a) fun w =>
gb d false (y8 .geq w (.int .u8 65)) fun M =>
gb d false (some M) fun j =>
gb j true (some a) fun Q =>
gb j true (y8 .leq Q (.int .u8 90)) fun K =>
gb d false (yd j K (.bool false)) fun C =>
ob (yd d (.bool true) C) fun c =>
gb c false (some a) fun R =>
gb c false (y8 .geq R (.int .u8 48)) fun V =>
gb c false (some V) fun k =>
gb k true (some a) fun t =>
gb k true (y8 .leq t (.int .u8 57)) fun z =>
gb c false (yd k z (.bool false)) fun X =>
ob (yd c (.bool true) X) fun g =>
gb g false (some a) fun P =>
gb g false (y8 .eql P (.int .u8 95)) fun y =>
ob (yd g (.bool true) y) fun n =>
gb n false (some a) fun O =>
gb n false (y8 .eql O (.int .u8 36)) fun A =>
ob (yd n (.bool true) A) fun m =>
gb m false (some a) fun Y =>
gb m false (y8 .eql Y (.int .u8 47)) fun U =>
ob (yd m (.bool true) U) fun Z =>
ob (evUn .not Z) fun e =>
gb e true (some r) fun S =>
gb e true (some S) fun b =>
gb b true (some a) fun H =>
gb b true (y8 .eql H (.int .u8 60)) fun L =>
gb b true (some L) fun l =>
gb l false (some a) fun D =>
gb l false (y8 .eql D (.int .u8 62)) fun x =>
gb b true (yd l (.bool true) x) fun u =>
gb e true (yd b u (.bool false)) fun I =>
gb e true (evUn .not I) fun F =>
ob (yd e F (.bool false)) fun B =>
cnd B
 ((yf h (.bool false)))
 ((q7_3 r o G p h))
def y2on (s : St) : OX := q7_4 (s 1) (s 17) (s 18) (s 19) s.h
theorem y29y : T1 y26n yij (y5 0 yix xN) [.t 4] y2on := sq y288 fun _ => by kernel_rfl
def q7_5 (d b c e a : AV) (h : Heap) : OX :=
cnd a
 ((q7_4 d b c e h))
 ((q7_1 h))
def y2o2 (s : St) : OX := q7_5 (s 1) (s 17) (s 18) (s 19) (s 20) s.h
theorem y2b3 : T1 y26d yij (y5 0 yix xN) [.t 4] y2o2 := sq y29y fun _ => by kernel_rfl
def q7_6 (e d a b : AV) (h : Heap) : OX :=
ob (y8 .lss b a) fun c =>
(q7_5 e d a b c h)
def y2qm (s : St) : OX := q7_6 (s 1) (s 17) (s 18) (s 19) s.h
theorem y2aq : T1 y27b yij (y5 0 yix xN) [.t 4] y2qm := sq y2b3 fun _ => by kernel_rfl
theorem yz6 (a c d b : AV) (h : Heap) : y1dl a c d b h = (q7_6 a c d b h) :=
  y28.trans ((y1c _ _ _ (n' := yij) (fun s => y0h s)).trans ((y2aq _).trans (by kernel_rfl)))
theorem y2ej : T1 y269 yix xN [.t 4] yij := fun s => yy.trans (y0h s)
def q7_8 (c b : AV) (h : Heap) : OX :=
oh (s2bC 0 (some 0) c h) fun a h1 =>
ob (y13 1 a h1) fun d =>
(y1dl b a d (.int .i64 0) h1)
def y2iz (s : St) : OX := q7_8 (s 0) (s 1) s.h
theorem y2de : T1 y27j yix xN [.t 4] y2iz := sq y2ej fun _ => by kernel_rfl
theorem y2dj : T0 y263 [.t 4] y2iz := sq y28u y2de
def y1lk (b g : AV) (h : Heap) : OX :=
ob (y13 0 b h) fun j =>
ob (y8 .lss j (.int .i64 1)) fun a =>
gb a false (some b) fun e =>
gb a false (y13 0 e h) fun c =>
gb a false (y8 .gtr c (.int .i64 60)) fun i =>
ob (yd a (.bool true) i) fun d =>
cnd d
 ((yf h (.bool false)))
 ((q7_8 b g h))
def y2ki (s : St) : OX := y1lk (s 0) (s 1) s.h
theorem y201 : T0 y1m5 [.t 4] y2ki := sq y2dj fun _ => by kernel_rfl
def y1f2 (b a : AV) (h : Heap) : OX :=
(y1lk b a h)
def y2l9 (s : St) : OX := y1f2 (s 0) (s 1) s.h
theorem y22e : T0 y1kg [.t 4] y2l9 := sq y201 fun _ => by kernel_rfl
@[simp] theorem y2pu : E.pure 60 = true := rfl
theorem x_q7 (b a : AV) : (yb E).p 60 [b, a] = y1f2 b a [⟨0, .dead⟩] :=
  (y15 (cf := c_q7) (by kernel_rfl) rfl).trans ((y22e _).trans (by kernel_rfl))
end
end Go.Vm
