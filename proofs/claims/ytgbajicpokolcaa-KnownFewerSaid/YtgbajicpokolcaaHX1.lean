/- Functions of the machine as plain functions that go on with what follows. -/
import Derived.Test.YtgbajicpokolcaaHEnv
set_option linter.unusedSimpArgs false
set_option linter.unusedVariables false
set_option linter.unusedSectionVars false
namespace Go.Vm
noncomputable section
def y2t (h : Heap) : OX :=
(yd h (.bool true))
def yy (s : St) : OX := y2t s.h
theorem y1kk : T0 y181 [.t 4] yy := fun _ => by kernel_rfl
def y2v (b i : AV) (h : Heap) : OX :=
ob (evFa 2 i) fun c =>
ob (evLd false 1 c h) fun l =>
ob (y6 .neq l (.int .i64 (-1))) fun a =>
ofp (fgd a true (some (ids1 b, []))) fun f4 =>
gb a true (evLd true 5 b h) fun e =>
ofp (fgd a true (some ([], []))) fun f5 =>
gb a true (evFa 2 i) fun d =>
ofp (fgd a true (some (ids1 d, []))) fun f6 =>
gb a true (evLd false 1 d h) fun g =>
ofp (fgd a true (y2m E (y8 E) 0 none true 48 [e, g] h)) fun f7 =>
gh a true (y7 E (y8 E) 0 none true 48 [e, g] h) h fun o h1 =>
ofp (fgd a true (some ([], []))) fun f8 =>
gb a true (evFa 2 b) fun j =>
ofp (fgd a true (some (ids1 j, []))) fun f9 =>
gb a true (evLd false 1 j h1) fun m =>
ofp (fgd a true (some ([], []))) fun f10 =>
gb a true (y6 .eql o m) fun n =>
ob (yb a n (.bool false)) fun k =>
okK (ye [([], []), (ids1 c, []), ([], []), ([], []), f4, f5, f6, f7, f8, f9, f10, ([], []), ([], [])] [(7, 9)]) <|
(yd h1 k)
def y2dy (s : St) : OX := y2v (s 2) (s 3) s.h
theorem y1qf : T1 y18q yy (y4 2 yy xN) [.t 4] y2dy := fun _ => by kernel_rfl
def y31 (a b : AV) (h : Heap) : OX :=
ob (evFa 2 a) fun c =>
ob (evLd false 1 c h) fun g =>
ob (y6 .eql g (.int .i64 0)) fun j =>
cnd j
 (ob (evFa 2 b) fun d =>
ob (evLd false 1 d h) fun e =>
ob (y6 .eql e (.int .i64 (-1))) fun i =>
(yd h i))
 ((y2v a b h))
def y2e7 (s : St) : OX := y31 (s 2) (s 3) s.h
theorem y20d : T1 y11m yy (y4 2 yy xN) [.t 4] y2e7 := sq y1qf fun _ => by kernel_rfl
def y2z (b c a : AV) (h : Heap) : OX :=
cnd a
 ((y31 b c h))
 ((y2t h))
def y2hv (s : St) : OX := y2z (s 2) (s 3) (s 207) s.h
theorem y1ir : T1 y13x yy (y4 2 yy xN) [.t 4] y2hv := fun s => (y1e (y20d s) rfl).trans (by kernel_rfl)
def y30 (c d a : AV) (h : Heap) : OX :=
ob (y6 .eql a (.int .i64 30)) fun b =>
(y2z c d b h)
def y2ed (s : St) : OX := y30 (s 2) (s 3) (s 55) s.h
theorem y1j6 : T1 y13c yy (y4 2 yy xN) [.t 4] y2ed := sq y1ir fun _ => by kernel_rfl
def y2s (g a r w : AV) (h : Heap) : OX :=
cnd w
 (ob (evFa 5 a) fun F =>
ob (evLd false 1 F h) fun D =>
ob (y6 .eql D (.int .i64 0)) fun e =>
gb e false (evFa 5 a) fun v =>
gb e false (evLd false 1 v h) fun n =>
gb e false (y6 .eql n (.int .i64 1)) fun i =>
ob (yb e (.bool true) i) fun c =>
gb c true (evFa 3 a) fun k =>
gb c true (evLd false 1 k h) fun p =>
gb c true (y6 .eql p (.int .i64 (-1))) fun t =>
gb c true (some t) fun b =>
gb b false (evLd true 5 g h) fun m =>
gb b false (evFa 3 a) fun B =>
gb b false (evLd false 1 B h) fun u =>
gh b false (y7 E (y8 E) 0 none true 48 [m, u] h) h fun l h2 =>
gb b false (y6 .eql l (.int .i64 3)) fun y =>
gb c true (yb b (.bool true) y) fun j =>
ob (yb c j (.bool false)) fun d =>
gb d true (evLd true 5 g h2) fun z =>
gb d true (evFa 6 a) fun o =>
gb d true (evLd false 1 o h2) fun C =>
gh d true (y7 E (y8 E) 0 none true 49 [z, C] h2) h2 fun x h3 =>
ob (yb d x (.bool false)) fun A =>
(yd h3 A))
 ((y30 g a r h))
def y2jf (s : St) : OX := y2s (s 2) (s 3) (s 55) (s 179) s.h
theorem y1ta : T1 y130 yy (y4 2 yy xN) [.t 4] y2jf := fun s => (y1e rfl (y1j6 s)).trans (by kernel_rfl)
def y2u (b c a : AV) (h : Heap) : OX :=
ob (y6 .eql a (.int .i64 29)) fun d =>
(y2s b c a d h)
def y2hl (s : St) : OX := y2u (s 2) (s 3) (s 55) s.h
theorem y1jq : T1 y18e yy (y4 2 yy xN) [.t 4] y2hl := sq y1ta fun _ => by kernel_rfl
def y2x (a b e i : AV) (h : Heap) : OX :=
cnd i
 (ob (evLd true 5 a h) fun d =>
ob (evFa 6 b) fun g =>
ob (evLd false 1 g h) fun j =>
oh (y7 E (y8 E) 0 none true 49 [d, j] h) fun c h4 =>
(yd h4 c))
 ((y2u a b e h))
def y2fb (s : St) : OX := y2x (s 2) (s 3) (s 55) (s 173) s.h
theorem y1rz : T1 y18m yy (y4 2 yy xN) [.t 4] y2fb := fun s => (y1e rfl (y1jq s)).trans (by kernel_rfl)
def y2y (c d a : AV) (h : Heap) : OX :=
ob (y6 .eql a (.int .i64 27)) fun b =>
(y2x c d a b h)
def y2ek (s : St) : OX := y2y (s 2) (s 3) (s 55) s.h
theorem y1hy : T1 y140 yy (y4 2 yy xN) [.t 4] y2ek := sq y1rz fun _ => by kernel_rfl
def y1s (d b i m : AV) (h : Heap) : OX :=
cnd m
 (ob (evFa 5 b) fun n =>
ob (evLd false 1 n h) fun p =>
ob (y6 .geq p (.int .i64 0)) fun c =>
gb c true (evFa 5 b) fun g =>
gb c true (evLd false 1 g h) fun o =>
gb c true (y6 .leq o (.int .i64 5)) fun e =>
ob (yb c e (.bool false)) fun a =>
gb a true (evLd true 5 d h) fun j =>
gb a true (evFa 6 b) fun r =>
gb a true (evLd false 1 r h) fun k =>
gh a true (y7 E (y8 E) 0 none true 49 [j, k] h) h fun t h5 =>
ob (yb a t (.bool false)) fun l =>
(yd h5 l))
 ((y2y d b i h))
def y283 (s : St) : OX := y1s (s 2) (s 3) (s 55) (s 157) s.h
theorem y1f0 : T1 yve yy (y4 2 yy xN) [.t 4] y283 := fun s => (y1e rfl (y1hy s)).trans (by kernel_rfl)
def y1v (b c a : AV) (h : Heap) : OX :=
ob (y6 .eql a (.int .i64 28)) fun d =>
(y1s b c a d h)
def y24q (s : St) : OX := y1v (s 2) (s 3) (s 55) s.h
theorem y1eg : T1 yup yy (y4 2 yy xN) [.t 4] y24q := sq y1f0 fun _ => by kernel_rfl
def y1h (a b c i : AV) (h : Heap) : OX :=
cnd i
 (ob (evLd true 5 a h) fun e =>
ob (evLd true 9 b h) fun d =>
oh (y7 E (y8 E) 0 none true 68 [e, d] h) fun g h6 =>
(yd h6 g))
 ((y1v a b c h))
def y261 (s : St) : OX := y1h (s 2) (s 3) (s 55) (s 149) s.h
theorem y1hj : T1 yrw yy (y4 2 yy xN) [.t 4] y261 := fun s => (y1e rfl (y1eg s)).trans (by kernel_rfl)
def y1z (b c a : AV) (h : Heap) : OX :=
ob (y6 .eql a (.int .i64 23)) fun e =>
cnd e
 ((y1h b c a e h))
 (ob (y6 .eql a (.int .i64 24)) fun d =>
cnd d
 ((y1h b c a d h))
 (ob (y6 .eql a (.int .i64 25)) fun g =>
cnd g
 ((y1h b c a g h))
 (ob (y6 .eql a (.int .i64 26)) fun i =>
(y1h b c a i h))))
def y24w (s : St) : OX := y1z (s 2) (s 3) (s 55) s.h
theorem y1cq : T1 yvx yy (y4 2 yy xN) [.t 4] y24w := sq y1hj fun _ => by kernel_rfl
def y1m (e a c g : AV) (h : Heap) : OX :=
cnd g
 (ob (evFa 5 a) fun i =>
ob (evLd false 1 i h) fun d =>
ob (y6 .geq d (.int .i64 0)) fun b =>
(yd h b))
 ((y1z e a c h))
def y275 (s : St) : OX := y1m (s 2) (s 3) (s 55) (s 143) s.h
theorem y1cr : T1 ysr yy (y4 2 yy xN) [.t 4] y275 := fun s => (y1e rfl (y1cq s)).trans (by kernel_rfl)
def y1y (c d a : AV) (h : Heap) : OX :=
ob (y6 .eql a (.int .i64 16)) fun b =>
cnd b
 ((y1m c d a b h))
 (ob (y6 .eql a (.int .i64 17)) fun e =>
(y1m c d a e h))
def y27q (s : St) : OX := y1y (s 2) (s 3) (s 55) s.h
theorem y1gk : T1 ywk yy (y4 2 yy xN) [.t 4] y27q := sq y1cr fun _ => by kernel_rfl
def y1j (e a c d : AV) (h : Heap) : OX :=
cnd d
 (ob (evFa 7 a) fun g =>
ob (evLd false 1 g h) fun i =>
oh (y7 E (y8 E) 0 none true 67 [i] h) fun b h7 =>
(yd h7 b))
 ((y1y e a c h))
def y219 (s : St) : OX := y1j (s 2) (s 3) (s 55) (s 136) s.h
theorem y1eb : T1 yu3 yy (y4 2 yy xN) [.t 4] y219 := fun s => (y1e rfl (y1gk s)).trans (by kernel_rfl)
def y1u (b c a : AV) (h : Heap) : OX :=
ob (y6 .eql a (.int .i64 12)) fun d =>
cnd d
 ((y1j b c a d h))
 (ob (y6 .eql a (.int .i64 21)) fun e =>
cnd e
 ((y1j b c a e h))
 (ob (y6 .eql a (.int .i64 22)) fun g =>
(y1j b c a g h)))
def y21q (s : St) : OX := y1u (s 2) (s 3) (s 55) s.h
theorem y1g0 : T1 yuw yy (y4 2 yy xN) [.t 4] y21q := sq y1eb fun _ => by kernel_rfl
def y20 (c d g m w y l : AV) (h : Heap) : OX :=
cnd l
 (ob (y6 .gtr g (.int .i64 0)) fun e =>
gb e true (some m) fun o =>
gb e true (y6 .eql o (.int .i64 0)) fun j =>
ob (yb e j (.bool false)) fun a =>
gb a true (evLd true 5 c h) fun r =>
gb a true (evFa 1 d) fun k =>
gb a true (evLd false 1 k h) fun v =>
gh a true (y7 E (y8 E) 0 none true 48 [r, v] h) h fun i h8 =>
gb a true (some w) fun n =>
gb a true (y6 .eql i n) fun x =>
ob (yb a x (.bool false)) fun b =>
gb b true (evLd true 5 c h8) fun z =>
gb b true (evFa 2 d) fun p =>
gb b true (evLd false 1 p h8) fun C =>
gh b true (y7 E (y8 E) 0 none true 48 [z, C] h8) h8 fun t h9 =>
gb b true (some g) fun u =>
gb b true (y6 .eql t u) fun A =>
ob (yb b A (.bool false)) fun B =>
(yd h9 B))
 ((y1u c d y h))
def y22r (s : St) : OX := y20 (s 2) (s 3) (s 8) (s 9) (s 10) (s 55) (s 112) s.h
theorem y1d5 : T1 yuy yy (y4 2 yy xN) [.t 4] y22r := fun s => (y1e rfl (y1g0 s)).trans (by kernel_rfl)
def y1x (d e b c i a : AV) (h : Heap) : OX :=
ob (y6 .eql a (.int .i64 6)) fun g =>
(y20 d e b c i a g h)
def y24g (s : St) : OX := y1x (s 2) (s 3) (s 8) (s 9) (s 10) (s 55) s.h
theorem y1h6 : T1 ywo yy (y4 2 yy xN) [.t 4] y24g := sq y1d5 fun _ => by kernel_rfl
def y1w (d e i g j p v : AV) (h : Heap) : OX :=
cnd v
 (ob (y6 .gtr g (.int .i64 0)) fun a =>
gb a true (evLd true 5 d h) fun G =>
gb a true (evFa 1 e) fun C =>
gb a true (evLd false 1 C h) fun D =>
gh a true (y7 E (y8 E) 0 none true 48 [G, D] h) h fun n h10 =>
gb a true (some j) fun z =>
gb a true (y6 .eql n z) fun w =>
ob (yb a w (.bool false)) fun b =>
gb b true (evLd true 5 d h10) fun t =>
gb b true (evFa 2 e) fun A =>
gb b true (evLd false 1 A h10) fun r =>
gh b true (y7 E (y8 E) 0 none true 48 [t, r] h10) h10 fun F h11 =>
gb b true (some i) fun m =>
gb b true (y6 .eql F m) fun u =>
ob (yb b u (.bool false)) fun c =>
gb c true (evLd true 5 d h11) fun y =>
gb c true (evFa 3 e) fun x =>
gb c true (evLd false 1 x h11) fun B =>
gh c true (y7 E (y8 E) 0 none true 48 [y, B] h11) h11 fun k h12 =>
gb c true (some g) fun H =>
gb c true (y6 .eql k H) fun o =>
ob (yb c o (.bool false)) fun l =>
(yd h12 l))
 ((y1x d e i g j p h))
def y23z (s : St) : OX := y1w (s 2) (s 3) (s 8) (s 9) (s 10) (s 55) (s 84) s.h
theorem y1dg : T1 yxa yy (y4 2 yy xN) [.t 4] y23z := fun s => (y1e rfl (y1h6 s)).trans (by kernel_rfl)
def y1r (d e b c i a : AV) (h : Heap) : OX :=
ob (y6 .eql a (.int .i64 5)) fun g =>
(y1w d e b c i a g h)
def y225 (s : St) : OX := y1r (s 2) (s 3) (s 8) (s 9) (s 10) (s 55) s.h
theorem y1e5 : T1 yrl yy (y4 2 yy xN) [.t 4] y225 := sq y1dg fun _ => by kernel_rfl
def y1l (a b n o t l m : AV) (h : Heap) : OX :=
cnd m
 (ob (evLd true 5 a h) fun e =>
ob (evFa 1 b) fun c =>
ob (evLd false 1 c h) fun d =>
ofp (y2m E (y8 E) 0 none true 48 [e, d] h) fun f3 =>
oh (y7 E (y8 E) 0 none true 48 [e, d] h) fun r h13 =>
ob (evLd true 5 a h13) fun g =>
ob (evFa 2 b) fun j =>
ob (evLd false 1 j h13) fun i =>
ofp (y2m E (y8 E) 0 none true 48 [g, i] h13) fun f7 =>
oh (y7 E (y8 E) 0 none true 48 [g, i] h13) fun p h14 =>
ob (y6 .eql r p) fun k =>
okK (ye [(ids1 a, []), ([], []), (ids1 c, []), f3, (ids1 a, []), ([], []), (ids1 j, []), f7, ([], []), ([], [])] [(3, 4), (3, 6)]) <|
(yd h14 k))
 ((y1r a b n o t l h))
def y26r (s : St) : OX := y1l (s 2) (s 3) (s 8) (s 9) (s 10) (s 55) (s 73) s.h
theorem y1cy : T1 yxh yy (y4 2 yy xN) [.t 4] y26r := fun s => (y1e rfl (y1e5 s)).trans (by kernel_rfl)
def y1n (d g b c i a : AV) (h : Heap) : OX :=
ob (y6 .eql a (.int .i64 4)) fun e =>
(y1l d g b c i a e h)
def y277 (s : St) : OX := y1n (s 2) (s 3) (s 8) (s 9) (s 10) (s 55) s.h
theorem y1fa : T1 yxn yy (y4 2 yy xN) [.t 4] y277 := sq y1cy fun _ => by kernel_rfl
def y1g (d c g j o r e : AV) (h : Heap) : OX :=
cnd e
 (ob (evLd true 5 d h) fun m =>
ob (evFa 1 c) fun t =>
ob (evLd false 1 t h) fun x =>
oh (y7 E (y8 E) 0 none true 48 [m, x] h) fun l h15 =>
ob (y6 .eql l (.int .i64 2)) fun a =>
gb a false (evFa 5 c) fun p =>
gb a false (evLd false 1 p h15) fun v =>
gb a false (y6 .geq v (.int .i64 (-2147483648))) fun u =>
gb a false (some u) fun b =>
gb b true (evFa 5 c) fun k =>
gb b true (evLd false 1 k h15) fun n =>
gb b true (y6 .lss n (.int .i64 2147483648)) fun i =>
gb a false (yb b i (.bool false)) fun y =>
ob (yb a (.bool true) y) fun w =>
(yd h15 w))
 ((y1n d c g j o r h))
def y237 (s : St) : OX := y1g (s 2) (s 3) (s 8) (s 9) (s 10) (s 55) (s 56) s.h
theorem y1e9 : T1 yt3 yy (y4 2 yy xN) [.t 4] y237 := fun s => (y1e rfl (y1fa s)).trans (by kernel_rfl)
def y1d (e g b d i a : AV) (h : Heap) : OX :=
ob (y6 .eql a (.int .i64 1)) fun c =>
(y1g e g b d i a c h)
def y196 (s : St) : OX := y1d (s 2) (s 3) (s 8) (s 9) (s 10) (s 55) s.h
theorem y1d9 : T1 yvp yy (y4 2 yy xN) [.t 4] y196 := sq y1e9 fun _ => by kernel_rfl
theorem y1gs : T1 ywg yy xN [.t 4] y196 := fun s => yq.trans (y1d9 s)
def yfx (g a d e i : AV) (h : Heap) : OX :=
ob (evFa 0 a) fun b =>
ob (evLd false 1 b h) fun c =>
(y1d g a d e i c h)
def y1bz (s : St) : OX := yfx (s 2) (s 3) (s 8) (s 9) (s 10) s.h
theorem y1gr : T1 ytc yy xN [.t 4] y1bz := sq y1gs fun _ => by kernel_rfl
theorem y1g4 : T0 yu8 [.t 4] y1bz := sq y1kk y1gr
def yj9 (d a j n v : AV) (h : Heap) : OX :=
ob (evFa 5 a) fun l =>
ob (evLd false 1 l h) fun m =>
ob (y6 .geq m (.int .i64 0)) fun b =>
gb b true (evFa 5 a) fun o =>
gb b true (evLd false 1 o h) fun t =>
gb b true (y6 .lss t (.int .i64 1000)) fun e =>
ob (yb b e (.bool false)) fun p =>
cnd p
 (ob (evFa 5 a) fun g =>
ob (evLd false 1 g h) fun u =>
oh (y7 E (y8 E) 0 none true 66 [u] h) fun c h16 =>
ob (y3x 0 c) fun k =>
ob (y3x 1 c) fun r =>
ob (y3x 2 c) fun i =>
(yfx d a k r i h16))
 ((yfx d a j n v h))
def y21f (s : St) : OX := yj9 (s 2) (s 3) (s 8) (s 9) (s 10) s.h
theorem y1e2 : T0 ytq [.t 4] y21f := sq y1g4 fun _ => by kernel_rfl
def yks (a b : AV) (h : Heap) : OX :=
(yj9 a b (.int .i64 0) (.int .i64 0) (.int .i64 0) h)
def y5b (s : St) : OX := yks (s 2) (s 3) s.h
theorem y1e4 : T0 ywy [.t 4] y5b := sq y1e2 fun _ => by kernel_rfl
def y5c (b c a e d : AV) (h : Heap) : OX :=
  W E 0 yfl ⟨[(2, b), (3, c), (5, a), (6, e), (7, d)], h⟩ y5b (y4 0 y5b xN) (finP [.t 4])
def y81 (s : St) : OX := y5c (s 2) (s 3) (s 5) (s 6) (s 7) s.h
theorem ylc : T1 yfl y5b (y4 0 y5b xN) [.t 4] y81 := fun s => yf.trans (by kernel_rfl)
def ypl (b c a e d : AV) (h : Heap) : OX :=
ob (y6 .add d (.int .i64 1)) fun g =>
(y5c b c a e g h)
def y250 (s : St) : OX := ypl (s 2) (s 3) (s 5) (s 6) (s 7) s.h
theorem y1ep : T1 yxg y81 (y4 0 y5b xN) [.t 4] y250 := fun _ => by kernel_rfl
def y0a (c j b d a : AV) (h : Heap) : OX :=
ob (evLd true 5 c h) fun i =>
ob (yn 1 d a) fun l =>
ob (evLd false 1 l h) fun m =>
ob (y41 b a) fun k =>
oh (y7 E (y8 E) 0 none true 65 [i, m, k] h) fun e h17 =>
ob (evUn .not e) fun g =>
cnd g
 ((yd h17 (.bool false)))
 ((ypl c j b d a h17))
def y20k (s : St) : OX := y0a (s 2) (s 3) (s 5) (s 6) (s 7) s.h
theorem y1h0 : T1 ywz y81 (y4 0 y5b xN) [.t 4] y20k := sq y1ep fun _ => by kernel_rfl
def yfc (a b d e c : AV) (h : Heap) : OX :=
ob (y6 .lss c (.int .i64 4)) fun g =>
cnd g
 ((y0a a b d e c h))
 ((yks a b h))
def y24v (s : St) : OX := yfc (s 2) (s 3) (s 5) (s 6) (s 7) s.h
theorem y1ga : T1 yt8 y81 (y4 0 y5b xN) [.t 4] y24v := sq y1h0 fun _ => by kernel_rfl
theorem yiv (b c a e d : AV) (h : Heap) : y5c b c a e d h = (yfc b c a e d h) :=
  y1o.trans ((y14 _ _ _ (n' := y81) (fun s => ylc s)).trans ((y1ga _).trans (by kernel_rfl)))
theorem y1cf : T1 ysc y5b xN [.t 4] y81 := fun s => yq.trans (ylc s)
def yyb (c d a b : AV) (h : Heap) : OX :=
(y5c c d a b (.int .i64 0) h)
def y17l (s : St) : OX := yyb (s 2) (s 3) (s 5) (s 6) s.h
theorem y1ee : T1 yv2 y5b xN [.t 4] y17l := sq y1cf fun _ => by kernel_rfl
theorem y1dp : T0 yuu [.t 4] y17l := sq y1e4 y1ee
def yys (e a d : AV) (h : Heap) : OX :=
ob (evFa 1 a) fun c =>
ob (evLd false 1 c h) fun m =>
ob (evFa 2 a) fun b =>
ob (evLd false 1 b h) fun k =>
ob (evFa 3 a) fun i =>
ob (evLd false 1 i h) fun j =>
ob (evFa 4 a) fun g =>
ob (evLd false 1 g h) fun n =>
oh (y10 0 (some 2) 1 4 [(.int .i64 0)] [(0, m), (1, k), (2, j), (3, n)] h) fun l h18 =>
(yyb e a d l h18)
def y21l (s : St) : OX := yys (s 2) (s 3) (s 5) s.h
theorem y1g8 : T0 ysg [.t 4] y21l := sq y1dp fun _ => by kernel_rfl
def yi7 (c d a : AV) (h : Heap) : OX :=
ob (y6 .eql a (AV.str [])) fun b =>
cnd b
 ((yd h (.bool false)))
 ((yys c d a h))
def y27e (s : St) : OX := yi7 (s 2) (s 3) (s 5) s.h
theorem y1ci : T0 yxd [.t 4] y27e := sq y1g8 fun _ => by kernel_rfl
def ykl (c a : AV) (h : Heap) : OX :=
ob (evFa 0 a) fun b =>
ob (evLd false 1 b h) fun e =>
oh (y7 E (y8 E) 0 none true 38 [e] h) fun d h19 =>
(yi7 c a d h19)
def y25w (s : St) : OX := ykl (s 2) (s 3) s.h
theorem y1h4 : T0 ysv [.t 4] y25w := sq y1ci fun _ => by kernel_rfl
def yfa (a d : AV) (h : Heap) : OX :=
oh (newC 0 (some 0) (cellsOf a) h) fun b h20 =>
oh (newC 0 (some 1) (cellsOf d) h20) fun c h21 =>
(ykl b c h21)
def y25j (s : St) : OX := yfa (s 0) (s 1) s.h
theorem y1es : T0 yuj [.t 4] y25j := sq y1h4 fun _ => by kernel_rfl
@[simp] theorem y2up : E.pure 64 = true := rfl
theorem y2m0 (a b : AV) : (y8 E).p 64 [a, b] = yfa a b [⟨0, .dead⟩, ⟨0, .dead⟩, ⟨0, .dead⟩] :=
  (yr (cf := y2an) (by kernel_rfl) rfl).trans ((y1es _).trans (by kernel_rfl))
def y1kw (b : AV) (h : Heap) : OX :=
oh (y10 0 (some 0) 1 3 [(.int .i64 0)] [(0, (.int .i64 27)), (1, (.int .i64 28)), (2, (.int .i64 29))] h) fun c h1 =>
oh (y7 E (y8 E) 0 none true 42 [b, c] h1) fun a h2 =>
(yd h2 a)
def y2h0 (s : St) : OX := y1kw (s 0) s.h
theorem y1vz : T0 y1at [.t 2] y2h0 := fun _ => by kernel_rfl
@[simp] theorem y2uj : E.pure 23 = true := rfl
theorem y2mw (a : AV) : (y8 E).p 23 [a] = y1kw a [⟨0, .dead⟩] :=
  (yr (cf := y2b7) (by kernel_rfl) rfl).trans ((y1vz _).trans (by kernel_rfl))
def y1vn (e b : AV) (h : Heap) : OX :=
oh (newC 0 (some 0) (cellsOf e) h) fun i h1 =>
ob (y6 .geq b (.int .i64 0)) fun a =>
gb a true (some b) fun d =>
gb a true (evFa 3 i) fun g =>
gb a true (evLd false 1 g h1) fun l =>
gb a true (yv 1 l h1) fun c =>
gb a true (y6 .lss d c) fun k =>
ob (yb a k (.bool false)) fun j =>
(yd h1 j)
def y2bo (s : St) : OX := y1vn (s 0) (s 1) s.h
theorem y1k7 : T0 y17s [.t 4] y2bo := fun _ => by kernel_rfl
@[simp] theorem y2uh : E.pure 49 = true := rfl
theorem y2mu (a b : AV) : (y8 E).p 49 [a, b] = y1vn a b [⟨0, .dead⟩] :=
  (yr (cf := y29c) (by kernel_rfl) rfl).trans ((y1k7 _).trans (by kernel_rfl))
def y2f9 (d : AV) (h : Heap) : OX :=
oh (newC 0 (some 0) (cellsOf d) h) fun b h1 =>
ob (evFa 0 b) fun g =>
ob (evLd false 1 g h1) fun j =>
ob (y6 .geq j (.int .i64 23)) fun a =>
gb a true (evFa 0 b) fun i =>
gb a true (evLd false 1 i h1) fun c =>
gb a true (y6 .leq c (.int .i64 26)) fun e =>
ob (yb a e (.bool false)) fun k =>
(yd h1 k)
def y2m7 (s : St) : OX := y2f9 (s 0) s.h
theorem y26z : T0 y1wp [.t 2] y2m7 := fun _ => by kernel_rfl
@[simp] theorem yyd : E.pure 17 = true := rfl
theorem y2tx (a : AV) : (y8 E).p 17 [a] = y2f9 a [⟨0, .dead⟩] :=
  (yr (cf := y2le) (by kernel_rfl) rfl).trans ((y26z _).trans (by kernel_rfl))
def ypb (h : Heap) : OX :=
(yd h (.int .i64 (-1)))
def y63 (s : St) : OX := ypb s.h
theorem y1qa : T0 y17i [.t 4] y63 := fun _ => by kernel_rfl
def ylp (b d c a : AV) (h : Heap) : OX :=
  W E 0 yk6 ⟨[(0, b), (1, d), (7, c), (8, a)], h⟩ y63 (y4 0 y63 xN) (finP [.t 4])
def y8t (s : St) : OX := ylp (s 0) (s 1) (s 7) (s 8) s.h
theorem ym3 : T1 yk6 y63 (y4 0 y63 xN) [.t 4] y8t := fun s => yf.trans (by kernel_rfl)
def ym7 (c e d b : AV) (h : Heap) : OX :=
ob (y6 .add b (.int .i64 1)) fun a =>
(ylp c e d a h)
def y2k5 (s : St) : OX := ym7 (s 0) (s 1) (s 7) (s 8) s.h
theorem y1uv : T1 y17q y8t (y4 0 y63 xN) [.t 4] y2k5 := fun _ => by kernel_rfl
def yot (b c g a : AV) (h : Heap) : OX :=
ob (yn 1 b a) fun e =>
ob (evLd false 1 e h) fun i =>
ob (y6 .eql c i) fun d =>
cnd d
 ((yd h a))
 ((ym7 b c g a h))
def y2ej (s : St) : OX := yot (s 0) (s 1) (s 7) (s 8) s.h
theorem y1oj : T1 y16y y8t (y4 0 y63 xN) [.t 4] y2ej := sq y1uv fun _ => by kernel_rfl
def ymb (b e d a c : AV) (h : Heap) : OX :=
cnd c
 ((yot b e d a h))
 ((ypb h))
def y2et (s : St) : OX := ymb (s 0) (s 1) (s 7) (s 8) (s 9) s.h
theorem y1ls : T1 y15i y8t (y4 0 y63 xN) [.t 4] y2et := sq y1oj fun _ => by kernel_rfl
def ymu (c e b a : AV) (h : Heap) : OX :=
ob (y6 .lss a b) fun d =>
(ymb c e b a d h)
def y2g9 (s : St) : OX := ymu (s 0) (s 1) (s 7) (s 8) s.h
theorem y1m1 : T1 y18l y8t (y4 0 y63 xN) [.t 4] y2g9 := sq y1ls fun _ => by kernel_rfl
theorem yof (b d c a : AV) (h : Heap) : ylp b d c a h = (ymu b d c a h) :=
  y1o.trans ((y14 _ _ _ (n' := y8t) (fun s => ym3 s)).trans ((y1m1 _).trans (by kernel_rfl)))
theorem y1ul : T1 y18x y63 xN [.t 4] y8t := fun s => yq.trans (ym3 s)
def ymc (a c : AV) (h : Heap) : OX :=
ob (yv 1 a h) fun b =>
(ylp a c b (.int .i64 0) h)
def y1y6 (s : St) : OX := ymc (s 0) (s 1) s.h
theorem y1wa : T1 y167 y63 xN [.t 4] y1y6 := sq y1ul fun _ => by kernel_rfl
theorem y1lw : T0 y15s [.t 4] y1y6 := sq y1qa y1wa
def yfj (a b : AV) (h : Heap) : OX :=
(ymc a b h)
def y26m (s : St) : OX := yfj (s 0) (s 1) s.h
theorem y1fn : T0 yug [.t 4] y26m := sq y1lw fun _ => by kernel_rfl
@[simp] theorem y2ss : E.pure 45 = true := rfl
theorem y2pm (a b : AV) : (y8 E).p 45 [a, b] = yfj a b [] :=
  (yr (cf := y295) (by kernel_rfl) rfl).trans ((y1fn _).trans (by kernel_rfl))
def yhc (d b : AV) (h : Heap) : OX :=
ob (evLd true 9 d h) fun g =>
oh (y7 E (y8 E) 0 none true 51 [g] h) fun a h1 =>
ob (y3x 0 a) fun c =>
ob (y3x 1 a) fun e =>
oh (evSt 4 b c h1) fun _ h2 =>
(ob (evLd true 4 b h2) fun r0 =>
  yd h2 (.tup [r0, e]))
def yi (s : St) : OX := yhc (s 1) (s 2) s.h
theorem y292 : T0 y1ye [.cell 2 true 4, .t 3] yi := fun _ => by kernel_rfl
def yg2 (d a c : AV) (h : Heap) : OX :=
cnd c
 (ob (yx [(.int .i64 0), (.int .i64 0), (.int .i64 0), (.int .i64 0)] [(0, 1, (.int .i64 (-1))), (1, 1, (.int .i64 (-1))), (2, 1, (.int .i64 (-1))), (3, 1, (.int .i64 (-1)))]) fun b =>
oh (evSt 4 a b h) fun _ h3 =>
(ob (evLd true 4 a h3) fun r0 =>
  yd h3 (.tup [r0, (.bool true)])))
 ((yhc d a h))
def y2o5 (s : St) : OX := yg2 (s 1) (s 2) (s 134) s.h
theorem y253 : T1 y1tc yi (y4 0 yi xN) [.cell 2 true 4, .t 3] y2o5 := fun _ => by kernel_rfl
def yh9 (d c a : AV) (h : Heap) : OX :=
ob (y6 .eql a (.int .i64 27)) fun b =>
cnd b
 ((yg2 d c b h))
 (ob (y6 .eql a (.int .i64 33)) fun e =>
(yg2 d c e h))
def y2lg (s : St) : OX := yh9 (s 1) (s 2) (s 11) s.h
theorem y286 : T1 y1l8 yi (y4 0 yi xN) [.cell 2 true 4, .t 3] y2lg := sq y253 fun _ => by kernel_rfl
def yh4 (c b g n : AV) (h : Heap) : OX :=
cnd n
 (ob (yx [(.int .i64 0), (.int .i64 0), (.int .i64 0), (.int .i64 0)] [(0, 1, (.int .i64 (-1))), (1, 1, (.int .i64 1)), (2, 1, (.int .i64 1)), (3, 1, (.int .i64 (-1)))]) fun k =>
ob (evFa 5 c) fun d =>
ob (evLd false 1 d h) fun i =>
ob (y6 .geq i (.int .i64 0)) fun a =>
ofp (fgd a true (some ([], []))) fun f5 =>
gb a true (evFa 5 c) fun e =>
ofp (fgd a true (some (ids1 e, []))) fun f6 =>
gb a true (evLd false 1 e h) fun j =>
ofp (fgd a true (some ([], []))) fun f7 =>
gb a true (y6 .leq j (.int .i64 5)) fun m =>
ob (yb a m (.bool false)) fun l =>
oh (evSt 4 b k h) fun _ h4 =>
okK (ye [([], []), ([], []), (ids1 d, []), ([], []), ([], []), f5, f6, f7, ([], []), ([], ids1 b), ([], [])] [(6, 9)]) <|
(ob (evLd true 4 b h4) fun r0 =>
  yd h4 (.tup [r0, l])))
 ((yh9 c b g h))
def y2ng (s : St) : OX := yh4 (s 1) (s 2) (s 11) (s 123) s.h
theorem y228 : T1 y1jb yi (y4 0 yi xN) [.cell 2 true 4, .t 3] y2ng := fun s => (y1e rfl (y286 s)).trans (by kernel_rfl)
def yha (d c a : AV) (h : Heap) : OX :=
ob (y6 .eql a (.int .i64 28)) fun b =>
(yh4 d c a b h)
def y2nm (s : St) : OX := yha (s 1) (s 2) (s 11) s.h
theorem y22o : T1 y1ru yi (y4 0 yi xN) [.cell 2 true 4, .t 3] y2nm := sq y228 fun _ => by kernel_rfl
def yh2 (b a c d : AV) (h : Heap) : OX :=
cnd d
 (ob (yx [(.int .i64 0), (.int .i64 0), (.int .i64 0), (.int .i64 0)] [(0, 1, (.int .i64 3)), (1, 1, (.int .i64 1)), (2, 1, (.int .i64 (-1))), (3, 1, (.int .i64 (-1)))]) fun j =>
ob (evFa 7 b) fun e =>
ob (evLd false 1 e h) fun g =>
oh (y7 E (y8 E) 0 none true 37 [g] h) fun i h5 =>
oh (evSt 4 a j h5) fun _ h6 =>
(ob (evLd true 4 a h6) fun r0 =>
  yd h6 (.tup [r0, i])))
 ((yha b a c h))
def y2q9 (s : St) : OX := yh2 (s 1) (s 2) (s 11) (s 117) s.h
theorem y23f : T1 y1pq yi (y4 0 yi xN) [.cell 2 true 4, .t 3] y2q9 := fun s => (y1e rfl (y22o s)).trans (by kernel_rfl)
def yh3 (d c a : AV) (h : Heap) : OX :=
ob (y6 .eql a (.int .i64 21)) fun b =>
(yh2 d c a b h)
def y2ow (s : St) : OX := yh3 (s 1) (s 2) (s 11) s.h
theorem y25i : T1 y1ob yi (y4 0 yi xN) [.cell 2 true 4, .t 3] y2ow := sq y23f fun _ => by kernel_rfl
def yh6 (e a b d : AV) (h : Heap) : OX :=
cnd d
 (ob (yx [(.int .i64 0), (.int .i64 0), (.int .i64 0), (.int .i64 0)] [(0, 1, (.int .i64 (-1))), (1, 1, (.int .i64 0)), (2, 1, (.int .i64 (-1))), (3, 1, (.int .i64 (-1)))]) fun c =>
oh (evSt 4 a c h) fun _ h7 =>
(ob (evLd true 4 a h7) fun r0 =>
  yd h7 (.tup [r0, (.bool true)])))
 ((yh3 e a b h))
def y2q6 (s : St) : OX := yh6 (s 1) (s 2) (s 11) (s 114) s.h
theorem y243 : T1 y1yp yi (y4 0 yi xN) [.cell 2 true 4, .t 3] y2q6 := fun s => (y1e rfl (y25i s)).trans (by kernel_rfl)
def yhb (d c a : AV) (h : Heap) : OX :=
ob (y6 .eql a (.int .i64 19)) fun b =>
(yh6 d c a b h)
def y2p2 (s : St) : OX := yhb (s 1) (s 2) (s 11) s.h
theorem y25q : T1 y1ji yi (y4 0 yi xN) [.cell 2 true 4, .t 3] y2p2 := sq y243 fun _ => by kernel_rfl
def y95 (c a d e : AV) (h : Heap) : OX :=
cnd e
 (ob (yx [(.int .i64 0), (.int .i64 0), (.int .i64 0), (.int .i64 0)] [(0, 1, (.int .i64 (-1))), (1, 1, (.int .i64 3)), (2, 1, (.int .i64 0)), (3, 1, (.int .i64 (-1)))]) fun i =>
ob (evFa 5 c) fun b =>
ob (evLd false 1 b h) fun g =>
ob (y6 .geq g (.int .i64 0)) fun j =>
oh (evSt 4 a i h) fun _ h8 =>
okK (ye [([], []), ([], []), (ids1 b, []), ([], []), ([], ids1 a), ([], [])] [(2, 4)]) <|
(ob (evLd true 4 a h8) fun r0 =>
  yd h8 (.tup [r0, j])))
 ((yhb c a d h))
def y2bq (s : St) : OX := y95 (s 1) (s 2) (s 11) (s 108) s.h
theorem y1pr : T1 y1b9 yi (y4 0 yi xN) [.cell 2 true 4, .t 3] y2bq := fun s => (y1e rfl (y25q s)).trans (by kernel_rfl)
def y9c (d c a : AV) (h : Heap) : OX :=
ob (y6 .eql a (.int .i64 17)) fun b =>
(y95 d c a b h)
def y2cg (s : St) : OX := y9c (s 1) (s 2) (s 11) s.h
theorem y1ll : T1 y1c1 yi (y4 0 yi xN) [.cell 2 true 4, .t 3] y2cg := sq y1pr fun _ => by kernel_rfl
def y9s (b a d g : AV) (h : Heap) : OX :=
cnd g
 (ob (yx [(.int .i64 0), (.int .i64 0), (.int .i64 0), (.int .i64 0)] [(0, 1, (.int .i64 0)), (1, 1, (.int .i64 3)), (2, 1, (.int .i64 (-1))), (3, 1, (.int .i64 (-1)))]) fun i =>
ob (evFa 5 b) fun c =>
ob (evLd false 1 c h) fun j =>
ob (y6 .geq j (.int .i64 0)) fun e =>
oh (evSt 4 a i h) fun _ h9 =>
okK (ye [([], []), ([], []), (ids1 c, []), ([], []), ([], ids1 a), ([], [])] [(2, 4)]) <|
(ob (evLd true 4 a h9) fun r0 =>
  yd h9 (.tup [r0, e])))
 ((y9c b a d h))
def y2gr (s : St) : OX := y9s (s 1) (s 2) (s 11) (s 102) s.h
theorem y1p5 : T1 y1b4 yi (y4 0 yi xN) [.cell 2 true 4, .t 3] y2gr := fun s => (y1e rfl (y1ll s)).trans (by kernel_rfl)
def ya0 (d c a : AV) (h : Heap) : OX :=
ob (y6 .eql a (.int .i64 16)) fun b =>
(y9s d c a b h)
def y2fj (s : St) : OX := ya0 (s 1) (s 2) (s 11) s.h
theorem y1l1 : T1 y19e yi (y4 0 yi xN) [.cell 2 true 4, .t 3] y2fj := sq y1p5 fun _ => by kernel_rfl
def ya4 (e a b c : AV) (h : Heap) : OX :=
cnd c
 (ob (yx [(.int .i64 0), (.int .i64 0), (.int .i64 0), (.int .i64 0)] [(0, 1, (.int .i64 1)), (1, 1, (.int .i64 3)), (2, 1, (.int .i64 (-1))), (3, 1, (.int .i64 (-1)))]) fun d =>
oh (evSt 4 a d h) fun _ h10 =>
(ob (evLd true 4 a h10) fun r0 =>
  yd h10 (.tup [r0, (.bool true)])))
 ((ya0 e a b h))
def y2if (s : St) : OX := ya4 (s 1) (s 2) (s 11) (s 99) s.h
theorem y1xi : T1 y138 yi (y4 0 yi xN) [.cell 2 true 4, .t 3] y2if := fun s => (y1e rfl (y1l1 s)).trans (by kernel_rfl)
def y96 (d c a : AV) (h : Heap) : OX :=
ob (y6 .eql a (.int .i64 15)) fun b =>
(ya4 d c a b h)
def y2by (s : St) : OX := y96 (s 1) (s 2) (s 11) s.h
theorem y1o2 : T1 y11x yi (y4 0 yi xN) [.cell 2 true 4, .t 3] y2by := sq y1xi fun _ => by kernel_rfl
def y9x (d a b e : AV) (h : Heap) : OX :=
cnd e
 (ob (yx [(.int .i64 0), (.int .i64 0), (.int .i64 0), (.int .i64 0)] [(0, 1, (.int .i64 (-1))), (1, 1, (.int .i64 3)), (2, 1, (.int .i64 1)), (3, 1, (.int .i64 0))]) fun c =>
oh (evSt 4 a c h) fun _ h11 =>
(ob (evLd true 4 a h11) fun r0 =>
  yd h11 (.tup [r0, (.bool true)])))
 ((y96 d a b h))
def y2ik (s : St) : OX := y9x (s 1) (s 2) (s 11) (s 96) s.h
theorem y1w0 : T1 y18b yi (y4 0 yi xN) [.cell 2 true 4, .t 3] y2ik := fun s => (y1e rfl (y1o2 s)).trans (by kernel_rfl)
def y9m (d c a : AV) (h : Heap) : OX :=
ob (y6 .eql a (.int .i64 14)) fun b =>
(y9x d c a b h)
def y2hn (s : St) : OX := y9m (s 1) (s 2) (s 11) s.h
theorem y1jf : T1 y12j yi (y4 0 yi xN) [.cell 2 true 4, .t 3] y2hn := sq y1w0 fun _ => by kernel_rfl
def y9p (e a b c : AV) (h : Heap) : OX :=
cnd c
 (ob (yx [(.int .i64 0), (.int .i64 0), (.int .i64 0), (.int .i64 0)] [(0, 1, (.int .i64 0)), (1, 1, (.int .i64 3)), (2, 1, (.int .i64 1)), (3, 1, (.int .i64 (-1)))]) fun d =>
oh (evSt 4 a d h) fun _ h12 =>
(ob (evLd true 4 a h12) fun r0 =>
  yd h12 (.tup [r0, (.bool true)])))
 ((y9m e a b h))
def y2ii (s : St) : OX := y9p (s 1) (s 2) (s 11) (s 93) s.h
theorem y1la : T1 y18y yi (y4 0 yi xN) [.cell 2 true 4, .t 3] y2ii := fun s => (y1e rfl (y1jf s)).trans (by kernel_rfl)
def y9n (d c a : AV) (h : Heap) : OX :=
ob (y6 .eql a (.int .i64 13)) fun b =>
(y9p d c a b h)
def y2ha (s : St) : OX := y9n (s 1) (s 2) (s 11) s.h
theorem y1m3 : T1 y1az yi (y4 0 yi xN) [.cell 2 true 4, .t 3] y2ha := sq y1la fun _ => by kernel_rfl
def y9a (e a b c : AV) (h : Heap) : OX :=
cnd c
 (ob (yx [(.int .i64 0), (.int .i64 0), (.int .i64 0), (.int .i64 0)] [(0, 1, (.int .i64 (-1))), (1, 1, (.int .i64 3)), (2, 1, (.int .i64 3)), (3, 1, (.int .i64 (-1)))]) fun d =>
oh (evSt 4 a d h) fun _ h13 =>
(ob (evLd true 4 a h13) fun r0 =>
  yd h13 (.tup [r0, (.bool true)])))
 ((y9n e a b h))
def y2g2 (s : St) : OX := y9a (s 1) (s 2) (s 11) (s 90) s.h
theorem y1na : T1 y1as yi (y4 0 yi xN) [.cell 2 true 4, .t 3] y2g2 := fun s => (y1e rfl (y1m3 s)).trans (by kernel_rfl)
def y9l (d c a : AV) (h : Heap) : OX :=
ob (y6 .eql a (.int .i64 11)) fun b =>
(y9a d c a b h)
def y2dh (s : St) : OX := y9l (s 1) (s 2) (s 11) s.h
theorem y1l5 : T1 y18u yi (y4 0 yi xN) [.cell 2 true 4, .t 3] y2dh := sq y1na fun _ => by kernel_rfl
def y9f (e a b c : AV) (h : Heap) : OX :=
cnd c
 (ob (yx [(.int .i64 0), (.int .i64 0), (.int .i64 0), (.int .i64 0)] [(0, 1, (.int .i64 (-1))), (1, 1, (.int .i64 1)), (2, 1, (.int .i64 (-1))), (3, 1, (.int .i64 (-1)))]) fun d =>
oh (evSt 4 a d h) fun _ h14 =>
(ob (evLd true 4 a h14) fun r0 =>
  yd h14 (.tup [r0, (.bool true)])))
 ((y9l e a b h))
def y2i2 (s : St) : OX := y9f (s 1) (s 2) (s 11) (s 87) s.h
theorem y1l9 : T1 y19i yi (y4 0 yi xN) [.cell 2 true 4, .t 3] y2i2 := fun s => (y1e rfl (y1l5 s)).trans (by kernel_rfl)
def y98 (d c a : AV) (h : Heap) : OX :=
ob (y6 .eql a (.int .i64 10)) fun b =>
(y9f d c a b h)
def y2ff (s : St) : OX := y98 (s 1) (s 2) (s 11) s.h
theorem y1jk : T1 y14d yi (y4 0 yi xN) [.cell 2 true 4, .t 3] y2ff := sq y1l9 fun _ => by kernel_rfl
def y9y (d a b c : AV) (h : Heap) : OX :=
cnd c
 (ob (yx [(.int .i64 0), (.int .i64 0), (.int .i64 0), (.int .i64 0)] [(0, 1, (.int .i64 (-1))), (1, 1, (.int .i64 3)), (2, 1, (.int .i64 1)), (3, 1, (.int .i64 (-1)))]) fun e =>
oh (evSt 4 a e h) fun _ h15 =>
(ob (evLd true 4 a h15) fun r0 =>
  yd h15 (.tup [r0, (.bool true)])))
 ((y98 d a b h))
def y2jt (s : St) : OX := y9y (s 1) (s 2) (s 11) (s 84) s.h
theorem y1yl : T1 y1bd yi (y4 0 yi xN) [.cell 2 true 4, .t 3] y2jt := fun s => (y1e rfl (y1jk s)).trans (by kernel_rfl)
def ya5 (d b a : AV) (h : Heap) : OX :=
ob (y6 .eql a (.int .i64 9)) fun c =>
(y9y d b a c h)
def y2hu (s : St) : OX := ya5 (s 1) (s 2) (s 11) s.h
theorem y1vl : T1 y15q yi (y4 0 yi xN) [.cell 2 true 4, .t 3] y2hu := sq y1yl fun _ => by kernel_rfl
def y9h (b a c j : AV) (h : Heap) : OX :=
cnd j
 (ob (yx [(.int .i64 0), (.int .i64 0), (.int .i64 0), (.int .i64 0)] [(0, 1, (.int .i64 1)), (1, 1, (.int .i64 3)), (2, 1, (.int .i64 (-1))), (3, 1, (.int .i64 (-1)))]) fun i =>
ob (evFa 7 b) fun e =>
ob (evLd false 1 e h) fun g =>
oh (y7 E (y8 E) 0 none true 37 [g] h) fun d h16 =>
oh (evSt 4 a i h16) fun _ h17 =>
(ob (evLd true 4 a h17) fun r0 =>
  yd h17 (.tup [r0, d])))
 ((ya5 b a c h))
def y2iv (s : St) : OX := y9h (s 1) (s 2) (s 11) (s 78) s.h
theorem y1qt : T1 y145 yi (y4 0 yi xN) [.cell 2 true 4, .t 3] y2iv := fun s => (y1e rfl (y1vl s)).trans (by kernel_rfl)
def y9u (d c a : AV) (h : Heap) : OX :=
ob (y6 .eql a (.int .i64 22)) fun b =>
(y9h d c a b h)
def y2fz (s : St) : OX := y9u (s 1) (s 2) (s 11) s.h
theorem y1o0 : T1 y12p yi (y4 0 yi xN) [.cell 2 true 4, .t 3] y2fz := sq y1qt fun _ => by kernel_rfl
def y97 (b a c i : AV) (h : Heap) : OX :=
cnd i
 (ob (yx [(.int .i64 0), (.int .i64 0), (.int .i64 0), (.int .i64 0)] [(0, 1, (.int .i64 (-1))), (1, 1, (.int .i64 3)), (2, 1, (.int .i64 (-1))), (3, 1, (.int .i64 (-1)))]) fun j =>
ob (evFa 7 b) fun g =>
ob (evLd false 1 g h) fun d =>
oh (y7 E (y8 E) 0 none true 37 [d] h) fun e h18 =>
oh (evSt 4 a j h18) fun _ h19 =>
(ob (evLd true 4 a h19) fun r0 =>
  yd h19 (.tup [r0, e])))
 ((y9u b a c h))
def y2de (s : St) : OX := y97 (s 1) (s 2) (s 11) (s 72) s.h
theorem y1mo : T1 y12c yi (y4 0 yi xN) [.cell 2 true 4, .t 3] y2de := fun s => (y1e rfl (y1o0 s)).trans (by kernel_rfl)
def y9r (d b a : AV) (h : Heap) : OX :=
ob (y6 .eql a (.int .i64 12)) fun c =>
(y97 d b a c h)
def y2hw (s : St) : OX := y9r (s 1) (s 2) (s 11) s.h
theorem y1it : T1 y18i yi (y4 0 yi xN) [.cell 2 true 4, .t 3] y2hw := sq y1mo fun _ => by kernel_rfl
def y86 (d a b c : AV) (h : Heap) : OX :=
cnd c
 (ob (yx [(.int .i64 0), (.int .i64 0), (.int .i64 0), (.int .i64 0)] [(0, 1, (.int .i64 (-1))), (1, 1, (.int .i64 3)), (2, 1, (.int .i64 (-1))), (3, 1, (.int .i64 (-1)))]) fun e =>
oh (evSt 4 a e h) fun _ h20 =>
(ob (evLd true 4 a h20) fun r0 =>
  yd h20 (.tup [r0, (.bool true)])))
 ((y9r d a b h))
def y2i8 (s : St) : OX := y86 (s 1) (s 2) (s 11) (s 68) s.h
theorem y1n4 : T1 y14u yi (y4 0 yi xN) [.cell 2 true 4, .t 3] y2i8 := fun s => (y1e rfl (y1it s)).trans (by kernel_rfl)
def y9z (c b a : AV) (h : Heap) : OX :=
ob (y6 .eql a (.int .i64 8)) fun d =>
cnd d
 ((y86 c b a d h))
 (ob (y6 .eql a (.int .i64 31)) fun e =>
(y86 c b a e h))
def y2dq (s : St) : OX := y9z (s 1) (s 2) (s 11) s.h
theorem y1j5 : T1 y11z yi (y4 0 yi xN) [.cell 2 true 4, .t 3] y2dq := sq y1n4 fun _ => by kernel_rfl
def y99 (e a b d : AV) (h : Heap) : OX :=
cnd d
 (ob (yx [(.int .i64 0), (.int .i64 0), (.int .i64 0), (.int .i64 0)] [(0, 1, (.int .i64 (-1))), (1, 1, (.int .i64 0)), (2, 1, (.int .i64 (-1))), (3, 1, (.int .i64 (-1)))]) fun c =>
oh (evSt 4 a c h) fun _ h21 =>
(ob (evLd true 4 a h21) fun r0 =>
  yd h21 (.tup [r0, (.bool true)])))
 ((y9z e a b h))
def y2bu (s : St) : OX := y99 (s 1) (s 2) (s 11) (s 65) s.h
theorem y1y3 : T1 y17v yi (y4 0 yi xN) [.cell 2 true 4, .t 3] y2bu := fun s => (y1e rfl (y1j5 s)).trans (by kernel_rfl)
def y9v (d c a : AV) (h : Heap) : OX :=
ob (y6 .eql a (.int .i64 7)) fun b =>
(y99 d c a b h)
def y2hz (s : St) : OX := y9v (s 1) (s 2) (s 11) s.h
theorem y1z3 : T1 y151 yi (y4 0 yi xN) [.cell 2 true 4, .t 3] y2hz := sq y1y3 fun _ => by kernel_rfl
def y9i (e a g n : AV) (h : Heap) : OX :=
cnd n
 (ob (evFa 5 e) fun o =>
ob (evLd false 1 o h) fun r =>
oh (y7 E (y8 E) 0 none true 50 [r] h) fun b h22 =>
ob (y3x 0 b) fun d =>
ob (y3x 1 b) fun j =>
ob (y3x 2 b) fun k =>
ob (yx [(.int .i64 0), (.int .i64 0), (.int .i64 0), (.int .i64 0)] [(0, 1, k), (1, 1, d), (2, 1, (.int .i64 (-1))), (3, 1, (.int .i64 (-1)))]) fun p =>
ob (y6 .neq d (.int .i64 0)) fun c =>
gb c true (some j) fun m =>
gb c true (y6 .eql m (.int .i64 0)) fun l =>
ob (yb c l (.bool false)) fun i =>
oh (evSt 4 a p h22) fun _ h23 =>
(ob (evLd true 4 a h23) fun r0 =>
  yd h23 (.tup [r0, i])))
 ((y9v e a g h))
def y2i6 (s : St) : OX := y9i (s 1) (s 2) (s 11) (s 47) s.h
theorem y1pa : T1 y18h yi (y4 0 yi xN) [.cell 2 true 4, .t 3] y2i6 := fun s => (y1e rfl (y1z3 s)).trans (by kernel_rfl)
def y93 (d c a : AV) (h : Heap) : OX :=
ob (y6 .eql a (.int .i64 6)) fun b =>
(y9i d c a b h)
def y2jj (s : St) : OX := y93 (s 1) (s 2) (s 11) s.h
theorem y1qj : T1 y179 yi (y4 0 yi xN) [.cell 2 true 4, .t 3] y2jj := sq y1pa fun _ => by kernel_rfl
def ya2 (a b v n : AV) (h : Heap) : OX :=
cnd n
 (ob (evFa 5 a) fun l =>
ob (evLd false 1 l h) fun m =>
oh (y7 E (y8 E) 0 none true 50 [m] h) fun c h24 =>
ob (y3x 0 c) fun t =>
ob (y3x 1 c) fun e =>
ob (y3x 2 c) fun u =>
ob (yx [(.int .i64 0), (.int .i64 0), (.int .i64 0), (.int .i64 0)] [(0, 1, u), (1, 1, t), (2, 1, e), (3, 1, (.int .i64 (-1)))]) fun p =>
ob (evFa 5 a) fun r =>
ob (evLd false 1 r h24) fun i =>
ob (evFa 5 a) fun j =>
ob (evLd false 1 j h24) fun w =>
ob (y6 .eql i w) fun d =>
gb d true (some e) fun o =>
gb d true (y6 .neq o (.int .i64 0)) fun g =>
ob (yb d g (.bool false)) fun k =>
oh (evSt 4 b p h24) fun _ h25 =>
(ob (evLd true 4 b h25) fun r0 =>
  yd h25 (.tup [r0, k])))
 ((y93 a b v h))
def y2ex (s : St) : OX := ya2 (s 1) (s 2) (s 11) (s 25) s.h
theorem y1q5 : T1 y11p yi (y4 0 yi xN) [.cell 2 true 4, .t 3] y2ex := fun s => (y1e rfl (y1qj s)).trans (by kernel_rfl)
def y9o (d c a : AV) (h : Heap) : OX :=
ob (y6 .eql a (.int .i64 5)) fun b =>
(ya2 d c a b h)
def y2c4 (s : St) : OX := y9o (s 1) (s 2) (s 11) s.h
theorem y1no : T1 y18z yi (y4 0 yi xN) [.cell 2 true 4, .t 3] y2c4 := sq y1q5 fun _ => by kernel_rfl
def y9k (d a b c : AV) (h : Heap) : OX :=
cnd c
 (ob (yx [(.int .i64 0), (.int .i64 0), (.int .i64 0), (.int .i64 0)] [(0, 1, (.int .i64 0)), (1, 1, (.int .i64 0)), (2, 1, (.int .i64 (-1))), (3, 1, (.int .i64 (-1)))]) fun e =>
oh (evSt 4 a e h) fun _ h26 =>
(ob (evLd true 4 a h26) fun r0 =>
  yd h26 (.tup [r0, (.bool true)])))
 ((y9o d a b h))
def y2ju (s : St) : OX := y9k (s 1) (s 2) (s 11) (s 22) s.h
theorem y20c : T1 y162 yi (y4 0 yi xN) [.cell 2 true 4, .t 3] y2ju := fun s => (y1e rfl (y1no s)).trans (by kernel_rfl)
def y94 (d b a : AV) (h : Heap) : OX :=
ob (y6 .eql a (.int .i64 4)) fun c =>
(y9k d b a c h)
def y2is (s : St) : OX := y94 (s 1) (s 2) (s 11) s.h
theorem y1ty : T1 y15l yi (y4 0 yi xN) [.cell 2 true 4, .t 3] y2is := sq y20c fun _ => by kernel_rfl
def y6n (e a b c : AV) (h : Heap) : OX :=
cnd c
 (ob (yx [(.int .i64 0), (.int .i64 0), (.int .i64 0), (.int .i64 0)] [(0, 1, (.int .i64 3)), (1, 1, (.int .i64 (-1))), (2, 1, (.int .i64 (-1))), (3, 1, (.int .i64 (-1)))]) fun d =>
oh (evSt 4 a d h) fun _ h27 =>
(ob (evLd true 4 a h27) fun r0 =>
  yd h27 (.tup [r0, (.bool true)])))
 ((y94 e a b h))
def y2i7 (s : St) : OX := y6n (s 1) (s 2) (s 11) (s 16) s.h
theorem y1vx : T1 y159 yi (y4 0 yi xN) [.cell 2 true 4, .t 3] y2i7 := fun s => (y1e rfl (y1ty s)).trans (by kernel_rfl)
def y9e (c b a : AV) (h : Heap) : OX :=
ob (y6 .eql a (.int .i64 2)) fun g =>
cnd g
 ((y6n c b a g h))
 (ob (y6 .eql a (.int .i64 3)) fun d =>
cnd d
 ((y6n c b a d h))
 (ob (y6 .eql a (.int .i64 20)) fun e =>
cnd e
 ((y6n c b a e h))
 (ob (y6 .eql a (.int .i64 32)) fun i =>
(y6n c b a i h))))
def y2es (s : St) : OX := y9e (s 1) (s 2) (s 11) s.h
theorem y1zx : T1 y12f yi (y4 0 yi xN) [.cell 2 true 4, .t 3] y2es := sq y1vx fun _ => by kernel_rfl
def y7m (d a b e : AV) (h : Heap) : OX :=
cnd e
 (ob (yx [(.int .i64 0), (.int .i64 0), (.int .i64 0), (.int .i64 0)] [(0, 1, (.int .i64 0)), (1, 1, (.int .i64 (-1))), (2, 1, (.int .i64 (-1))), (3, 1, (.int .i64 (-1)))]) fun c =>
oh (evSt 4 a c h) fun _ h28 =>
(ob (evLd true 4 a h28) fun r0 =>
  yd h28 (.tup [r0, (.bool true)])))
 ((y9e d a b h))
def y2i4 (s : St) : OX := y7m (s 1) (s 2) (s 11) (s 12) s.h
theorem y1jn : T1 y15e yi (y4 0 yi xN) [.cell 2 true 4, .t 3] y2i4 := fun s => (y1e rfl (y1zx s)).trans (by kernel_rfl)
def y9t (d b a : AV) (h : Heap) : OX :=
ob (y6 .eql a (.int .i64 1)) fun c =>
cnd c
 ((y7m d b a c h))
 (ob (y6 .eql a (.int .i64 18)) fun e =>
(y7m d b a e h))
def y1u7 (s : St) : OX := y9t (s 1) (s 2) (s 11) s.h
theorem y1ry : T1 y14q yi (y4 0 yi xN) [.cell 2 true 4, .t 3] y1u7 := sq y1jn fun _ => by kernel_rfl
theorem y1u6 : T1 y165 yi xN [.cell 2 true 4, .t 3] y1u7 := fun s => yq.trans (y1ry s)
def y9j (a d : AV) (h : Heap) : OX :=
ob (evFa 0 a) fun c =>
ob (evLd false 1 c h) fun b =>
(y9t a d b h)
def y1s8 (s : St) : OX := y9j (s 1) (s 2) s.h
theorem y1ra : T1 y1bm yi xN [.cell 2 true 4, .t 3] y1s8 := sq y1u6 fun _ => by kernel_rfl
theorem y1my : T0 y124 [.cell 2 true 4, .t 3] y1s8 := sq y292 y1ra
def ya1 (a : AV) (h : Heap) : OX :=
oh (newC 0 (some 0) (cellsOf a) h) fun c h29 =>
oh (newC 0 (some 1) [(.int .i64 0), (.int .i64 0), (.int .i64 0), (.int .i64 0)] h29) fun b h30 =>
(y9j c b h30)
def y2gl (s : St) : OX := ya1 (s 0) s.h
theorem y1sj : T0 y153 [.cell 2 true 4, .t 3] y2gl := sq y1my fun _ => by kernel_rfl
@[simp] theorem y2ri : E.pure 47 = true := rfl
theorem y20a (a : AV) : (y8 E).p 47 [a] = ya1 a [⟨0, .dead⟩, ⟨0, .dead⟩] :=
  (yr (cf := y2nr) (by kernel_rfl) rfl).trans ((y1sj _).trans (by kernel_rfl))
def y1p0 (m : AV) (h : Heap) : OX :=
oh (newC 0 (some 0) (cellsOf m) h) fun a h1 =>
ob (evFa 0 a) fun r =>
ob (evLd false 1 r h1) fun y =>
ob (y6 .geq y (.int .i64 7)) fun b =>
gb b true (evFa 0 a) fun j =>
gb b true (evLd false 1 j h1) fun i =>
gb b true (y6 .leq i (.int .i64 12)) fun n =>
ob (yb b n (.bool false)) fun c =>
gb c false (evFa 0 a) fun u =>
gb c false (evLd false 1 u h1) fun A =>
gb c false (y6 .eql A (.int .i64 20)) fun p =>
ob (yb c (.bool true) p) fun e =>
gb e false (evFa 0 a) fun t =>
gb e false (evLd false 1 t h1) fun v =>
gb e false (y6 .eql v (.int .i64 21)) fun k =>
ob (yb e (.bool true) k) fun d =>
gb d false (evFa 0 a) fun w =>
gb d false (evLd false 1 w h1) fun B =>
gb d false (y6 .eql B (.int .i64 31)) fun x =>
ob (yb d (.bool true) x) fun g =>
gb g false (evLd true 9 a h1) fun z =>
gh g false (y7 E (y8 E) 0 none true 17 [z] h1) h1 fun l h2 =>
ob (yb g (.bool true) l) fun o =>
(yd h2 o)
def y2oi (s : St) : OX := y1p0 (s 0) s.h
theorem y20y : T0 y1zj [.t 2] y2oi := fun _ => by kernel_rfl
@[simp] theorem y2s7 : E.pure 18 = true := rfl
theorem y2st (a : AV) : (y8 E).p 18 [a] = y1p0 a [⟨0, .dead⟩] :=
  (yr (cf := y2lr) (by kernel_rfl) rfl).trans ((y20y _).trans (by kernel_rfl))
def yci (a : AV) (h : Heap) : OX :=
(yd h a)
def y2cm (s : St) : OX := yci (s 6) s.h
theorem y1p7 : T0 y1ap [.t 4] y2cm := fun _ => by kernel_rfl
def ycj (b c : AV) (h : Heap) : OX :=
ob (evFa 0 b) fun p =>
ob (evLd false 1 p h) fun j =>
oh (y7 E (y8 E) 0 none true 23 [j] h) fun a h1 =>
gb a true (some c) fun o =>
gb a true (evFa 6 b) fun r =>
gb a true (evLd false 1 r h1) fun m =>
gh a true (y7 E (y8 E) 0 none true 96 [o, m] h1) h1 fun l h2 =>
gb a true (evUn .not l) fun n =>
ob (yb a n (.bool false)) fun e =>
cnd e
 (ob (evFa 6 b) fun g =>
ob (evLd false 1 g h2) fun i =>
oh (y10 0 (some 3) 1 1 [(.int .i64 0)] [(0, i)] h2) fun k h3 =>
oh (y3a 0 (some 4) 1 8 c k h3) fun d h4 =>
(yci d h4))
 ((yci c h2))
def y2h7 (s : St) : OX := ycj (s 5) (s 6) s.h
theorem y1ro : T0 y14h [.t 4] y2h7 := sq y1p7 fun _ => by kernel_rfl
def ycr (e a i : AV) (h : Heap) : OX :=
ob (evFa 0 a) fun d =>
ob (evLd false 1 d h) fun b =>
oh (y7 E (y8 E) 0 none true 25 [b] h) fun k h5 =>
ob (evUn .not k) fun g =>
cnd g
 (ob (y6 .add e (.int .i64 1)) fun j =>
oh (y10 0 (some 2) 1 1 [(.int .i64 0)] [(0, j)] h5) fun c h6 =>
(ycj a c h6))
 ((ycj a i h5))
def y2d8 (s : St) : OX := ycr (s 1) (s 5) (s 6) s.h
theorem y1rw : T0 y16r [.t 4] y2d8 := sq y1ro fun _ => by kernel_rfl
def ywd (b a : AV) (h : Heap) : OX :=
(ycr b a AV.nils h)
def y2ev (s : St) : OX := ywd (s 1) (s 5) s.h
theorem y1v9 : T0 y1bc [.t 4] y2ev := sq y1rw fun _ => by kernel_rfl
def yw0 (b d : AV) (h : Heap) : OX :=
ob (evFa 3 d) fun c =>
ob (evLd false 1 c h) fun i =>
ob (yn 9 i b) fun g =>
ob (evLd true 9 g h) fun e =>
oh (newC 0 (some 1) [(.int .i64 0), (.int .i64 0), (.int .i64 0), (.int .i64 0), (.int .i64 0), (.int .i64 0), (.int .i64 0), (.str []), .nils] h) fun a h7 =>
oh (evSt 9 a e h7) fun _ h8 =>
(ywd b a h8)
def y2er (s : St) : OX := yw0 (s 1) (s 2) s.h
theorem y1jl : T0 y14g [.t 4] y2er := sq y1v9 fun _ => by kernel_rfl
def yvi (b c : AV) (h : Heap) : OX :=
ob (y6 .lss b (.int .i64 0)) fun a =>
gb a false (some b) fun k =>
gb a false (evFa 3 c) fun d =>
gb a false (evLd false 1 d h) fun j =>
gb a false (yv 1 j h) fun e =>
gb a false (y6 .geq k e) fun g =>
ob (yb a (.bool true) g) fun i =>
cnd i
 ((yd h AV.nils))
 ((yw0 b c h))
def y2ee (s : St) : OX := yvi (s 1) (s 2) s.h
theorem y208 : T0 y1ao [.t 4] y2ee := sq y1jl fun _ => by kernel_rfl
def yp2 (a c : AV) (h : Heap) : OX :=
oh (newC 0 (some 0) (cellsOf a) h) fun b h9 =>
(yvi c b h9)
def y2ds (s : St) : OX := yp2 (s 0) (s 1) s.h
theorem y1so : T0 y1bb [.t 4] y2ds := sq y208 fun _ => by kernel_rfl
@[simp] theorem y2tp : E.pure 95 = true := rfl
theorem y2qf (a b : AV) : (y8 E).p 95 [a, b] = yp2 a b [⟨0, .dead⟩, ⟨0, .dead⟩, ⟨0, .dead⟩, ⟨0, .dead⟩, ⟨0, .dead⟩] :=
  (yr (cf := y2ao) (by kernel_rfl) rfl).trans ((y1so _).trans (by kernel_rfl))
def y188 (j b : AV) (h : Heap) : OX :=
oh (newC 0 (some 0) (cellsOf j) h) fun a h1 =>
ob (evLd true 5 a h1) fun d =>
ofp (y2m E (y8 E) 0 (some 1) false 95 [d, b] h1) fun f2 =>
oh (y7 E (y8 E) 0 (some 1) false 95 [d, b] h1) fun e h2 =>
ob (evLd true 5 a h2) fun c =>
ofp (y2m E (y8 E) 0 none true 92 [c, b] h2) fun f5 =>
oh (y7 E (y8 E) 0 none true 92 [c, b] h2) fun g h3 =>
oh (y3a 0 (some 2) 1 8 e g h3) fun i h4 =>
okK (ye [(ids1 a, []), ([], []), f2, (ids1 a, []), ([], []), f5, (ids1 g, ids1 e ++ [0 + 2]), ([], [])] [(2, 3)]) <|
(yd h4 i)
def y2eb (s : St) : OX := y188 (s 0) (s 1) s.h
theorem y1uw : T0 y197 [.t 4] y2eb := fun _ => by kernel_rfl
@[simp] theorem y2r4 : E.pure 105 = true := rfl
theorem y2q1 (a b : AV) : (y8 E).p 105 [a, b] = y188 a b [⟨0, .dead⟩, ⟨0, .dead⟩, ⟨0, .dead⟩] :=
  (yr (cf := y2b4) (by kernel_rfl) rfl).trans ((y1uw _).trans (by kernel_rfl))
def y1nr (n C : AV) (h : Heap) : OX :=
oh (newC 0 (some 0) (cellsOf n) h) fun d h1 =>
oh (newC 0 (some 1) (cellsOf C) h1) fun e h2 =>
ob (evFa 0 d) fun m =>
ob (evLd false 1 m h2) fun t =>
ob (evFa 0 e) fun i =>
ob (evLd false 1 i h2) fun g =>
ob (y6 .eql t g) fun a =>
gb a true (evFa 2 d) fun z =>
gb a true (evLd false 1 z h2) fun r =>
gb a true (evFa 2 e) fun B =>
gb a true (evLd false 1 B h2) fun p =>
gb a true (y6 .eql r p) fun y =>
ob (yb a y (.bool false)) fun c =>
gb c true (evFa 0 d) fun u =>
gb c true (evLd false 1 u h2) fun j =>
gb c true (y6 .neq j (.int .i64 9)) fun w =>
gb c true (some w) fun b =>
gb b false (evFa 3 d) fun v =>
gb b false (evLd false 1 v h2) fun D =>
gb b false (evFa 3 e) fun x =>
gb b false (evLd false 1 x h2) fun o =>
gb b false (y6 .eql D o) fun k =>
gb c true (yb b (.bool true) k) fun A =>
ob (yb c A (.bool false)) fun l =>
(yd h2 l)
def y2cd (s : St) : OX := y1nr (s 0) (s 1) s.h
theorem y1qz : T0 y137 [.t 4] y2cd := fun _ => by kernel_rfl
@[simp] theorem y2rc : E.pure 175 = true := rfl
theorem y2mk (a b : AV) : (y8 E).p 175 [a, b] = y1nr a b [⟨0, .dead⟩, ⟨0, .dead⟩] :=
  (yr (cf := y29b) (by kernel_rfl) rfl).trans ((y1qz _).trans (by kernel_rfl))
def ys3 (c : AV) (h : Heap) : OX :=
ob (evFa 1 c) fun b =>
ob (evLd false 1 b h) fun a =>
(yd h a)
def y2cw (s : St) : OX := ys3 (s 1) s.h
theorem y1vi : T0 y1a6 [.t 2] y2cw := fun _ => by kernel_rfl
def ymx (e b : AV) (h : Heap) : OX :=
ob (y6 .eql b (AV.str [])) fun a =>
gb a false (some b) fun i =>
gb a false (y41 i (.int .i64 0)) fun c =>
gb a false (y6 .eql c (.int .u8 45)) fun g =>
ob (yb a (.bool true) g) fun d =>
cnd d
 ((yd h (.int .i64 (-1))))
 ((ys3 e h))
def y2e3 (s : St) : OX := ymx (s 1) (s 3) s.h
theorem y1qe : T0 y0s [.t 2] y2e3 := sq y1vi fun _ => by kernel_rfl
def y1qh (a : AV) (h : Heap) : OX :=
ob (evFa 0 a) fun d =>
ob (evLd false 1 d h) fun b =>
oh (y7 E (y8 E) 0 none true 38 [b] h) fun c h1 =>
(ymx a c h1)
def y2j8 (s : St) : OX := y1qh (s 1) s.h
theorem y1xv : T0 y186 [.t 2] y2j8 := sq y1qe fun _ => by kernel_rfl
def y12g (a : AV) (h : Heap) : OX :=
oh (newC 0 (some 0) (cellsOf a) h) fun b h2 =>
(y1qh b h2)
def y2go (s : St) : OX := y12g (s 0) s.h
theorem y1k4 : T0 y15o [.t 2] y2go := sq y1xv fun _ => by kernel_rfl
@[simp] theorem y2ru : E.pure 16 = true := rfl
theorem y2pf (a : AV) : (y8 E).p 16 [a] = y12g a [⟨0, .dead⟩] :=
  (yr (cf := y2ab) (by kernel_rfl) rfl).trans ((y1k4 _).trans (by kernel_rfl))
def y1v7 (c d : AV) (h : Heap) : OX :=
ob (yn 1 d c) fun b =>
ob (evLd false 1 b h) fun a =>
(yd h a)
def y2gf (s : St) : OX := y1v7 (s 0) (s 3) s.h
theorem y1ld : T0 y163 [.t 2] y2gf := fun _ => by kernel_rfl
def y1wb (b c : AV) (h : Heap) : OX :=
ob (y6 .lss b (.int .i64 1)) fun a =>
gb a false (some b) fun e =>
gb a false (some c) fun g =>
gb a false (yv 1 g h) fun j =>
gb a false (y6 .geq e j) fun d =>
ob (yb a (.bool true) d) fun i =>
cnd i
 ((yd h (AV.str [])))
 ((y1v7 b c h))
def y2jx (s : St) : OX := y1wb (s 0) (s 3) s.h
theorem y1xp : T0 y15h [.t 2] y2jx := sq y1ld fun _ => by kernel_rfl
def y1xo (a : AV) (h : Heap) : OX :=
oh (y10 0 (some 0) 1 34 [(.str [])] [(0, (AV.str [])), (1, (AV.str [110, 45, 45, 45])), (2, (AV.str [51, 45, 45, 45])), (3, (AV.str [51, 45, 45, 45])), (4, (AV.str [42, 61, 45, 45])), (5, (AV.str [63, 63, 63, 63])), (6, (AV.str [63, 63, 63, 63])), (7, (AV.str [45, 110, 45, 45])), (8, (AV.str [45, 51, 45, 45])), (9, (AV.str [45, 51, 49, 45])), (10, (AV.str [45, 49, 45, 45])), (11, (AV.str [45, 51, 51, 45])), (12, (AV.str [45, 51, 45, 45])), (13, (AV.str [42, 51, 49, 45])), (14, (AV.str [45, 51, 49, 42])), (15, (AV.str [49, 51, 45, 45])), (16, (AV.str [42, 51, 45, 45])), (17, (AV.str [45, 51, 42, 45])), (18, (AV.str [42, 45, 45, 45])), (19, (AV.str [45, 42, 45, 45])), (20, (AV.str [51, 45, 45, 45])), (21, (AV.str [51, 49, 45, 45])), (22, (AV.str [49, 51, 45, 45])), (23, (AV.str [63, 63, 63, 63])), (24, (AV.str [63, 63, 63, 63])), (25, (AV.str [63, 63, 63, 63])), (26, (AV.str [63, 63, 63, 63])), (27, (AV.str [45, 45, 45, 45])), (28, (AV.str [45, 49, 49, 45])), (29, (AV.str [45, 51, 63, 45])), (30, (AV.str [45, 63, 45, 45])), (31, (AV.str [45, 51, 45, 45])), (32, (AV.str [51, 45, 45, 45])), (33, (AV.str [45, 45, 45, 45]))] h) fun b h1 =>
(y1wb a b h1)
def y2fc (s : St) : OX := y1xo (s 0) s.h
theorem y1lu : T0 y12n [.t 2] y2fc := sq y1xp fun _ => by kernel_rfl
def y1w6 (a : AV) (h : Heap) : OX :=
(y1xo a h)
def y2gg (s : St) : OX := y1w6 (s 0) s.h
theorem y1l2 : T0 y11n [.t 2] y2gg := sq y1lu fun _ => by kernel_rfl
@[simp] theorem y2t2 : E.pure 38 = true := rfl
theorem y2of (a : AV) : (y8 E).p 38 [a] = y1w6 a [⟨0, .dead⟩] :=
  (yr (cf := y29g) (by kernel_rfl) rfl).trans ((y1l2 _).trans (by kernel_rfl))
def yck (b c : AV) (h : Heap) : OX :=
ob (y6 .sub b (.int .u8 48)) fun a =>
ob (y1dr .i64 a) fun e =>
ob (y6 .eql c e) fun d =>
(yd h d)
def y6b (s : St) : OX := yck (s 2) (s 7) s.h
theorem y1os : T0 y16z [.t 6] y6b := fun _ => by kernel_rfl
def yas (d a c k : AV) (h : Heap) : OX :=
cnd k
 (ob (y6 .gtr a (.int .i64 0)) fun j =>
(yd h j))
 (ob (y6 .eql c (.int .u8 110)) fun i =>
cnd i
 (ob (y6 .eql a (.int .i64 1)) fun b =>
gb b false (some a) fun e =>
gb b false (y6 .eql e (.int .i64 2)) fun l =>
ob (yb b (.bool true) l) fun g =>
(yd h g))
 ((yck d a h)))
def y2hj (s : St) : OX := yas (s 2) (s 7) (s 11) (s 15) s.h
theorem y1zs : T1 y1bt y6b (y4 0 y6b xN) [.t 6] y2hj := fun _ => by kernel_rfl
def ycf (c d a : AV) (h : Heap) : OX :=
ob (y6 .eql a (.int .u8 42)) fun b =>
cnd b
 ((yas c d a b h))
 (ob (y6 .eql a (.int .u8 61)) fun e =>
(yas c d a e h))
def y2e9 (s : St) : OX := ycf (s 2) (s 7) (s 11) s.h
theorem y1pi : T1 y147 y6b (y4 0 y6b xN) [.t 6] y2e9 := sq y1zs fun _ => by kernel_rfl
def ybc (c d a b : AV) (h : Heap) : OX :=
cnd b
 ((yd h (.bool true)))
 ((ycf c d a h))
def y2f5 (s : St) : OX := ybc (s 2) (s 7) (s 11) (s 12) s.h
theorem y1ti : T1 y191 y6b (y4 0 y6b xN) [.t 6] y2f5 := fun s => (y1e rfl (y1pi s)).trans (by kernel_rfl)
def yc9 (b d a : AV) (h : Heap) : OX :=
ob (y6 .eql a (.int .u8 45)) fun c =>
cnd c
 ((ybc b d a c h))
 (ob (y6 .eql a (.int .u8 63)) fun e =>
(ybc b d a e h))
def y1sy (s : St) : OX := yc9 (s 2) (s 7) (s 11) s.h
theorem y1uj : T1 y16p y6b (y4 0 y6b xN) [.t 6] y1sy := sq y1ti fun _ => by kernel_rfl
theorem y1nb : T1 y1a9 y6b xN [.t 6] y1sy := fun s => yq.trans (y1uj s)
def ycd (a b : AV) (h : Heap) : OX :=
(yc9 a b a h)
def y1nl (s : St) : OX := ycd (s 2) (s 7) s.h
theorem y1ph : T1 y177 y6b xN [.t 6] y1nl := sq y1nb fun _ => by kernel_rfl
theorem y1y7 : T0 y1ak [.t 6] y1nl := sq y1os y1ph
def ych (d b c : AV) (h : Heap) : OX :=
ob (evLd true 5 c h) fun a =>
oh (y7 E (y8 E) 0 none true 48 [a, d] h) fun e h1 =>
(ycd b e h1)
def y2f0 (s : St) : OX := ych (s 1) (s 2) (s 3) s.h
theorem y1v4 : T0 y13v [.t 6] y2f0 := sq y1y7 fun _ => by kernel_rfl
def y7f (a d b : AV) (h : Heap) : OX :=
oh (newC 0 (some 0) (cellsOf a) h) fun c h2 =>
(ych d b c h2)
def y22f (s : St) : OX := y7f (s 0) (s 1) (s 2) s.h
theorem y1ct : T0 ytm [.t 6] y22f := sq y1v4 fun _ => by kernel_rfl
@[simp] theorem y2s9 : E.pure 65 = true := rfl
theorem y2ot (a c b : AV) : (y8 E).p 65 [a, c, b] = y7f a c b [⟨0, .dead⟩] :=
  (yr (cf := y2ay) (by kernel_rfl) rfl).trans ((y1ct _).trans (by kernel_rfl))
def y28e (h : Heap) : OX :=
(yd h (.tup [(.int .i64 0), (.int .i64 0), (.int .i64 0)]))
def y2oa (s : St) : OX := y28e s.h
theorem y27h : T0 y1vf [.t 2, .t 3, .t 4] y2oa := fun _ => by kernel_rfl
def y26d (a b : AV) (h : Heap) : OX :=
gb b true (some a) fun n =>
gb b true (y6 .rem n (.int .i64 2)) fun p =>
gb b true (y6 .eql p (.int .i64 0)) fun t =>
ob (yb b t (.bool false)) fun A =>
cnd A
 ((yd h (.tup [(.int .i64 1), (.int .i64 1), (.int .i64 1)])))
 (ob (y6 .eql a (.int .i64 121)) fun d =>
gb d false (some a) fun m =>
gb d false (y6 .eql m (.int .i64 123)) fun y =>
ob (yb d (.bool true) y) fun e =>
gb e false (some a) fun k =>
gb e false (y6 .eql k (.int .i64 125)) fun r =>
ob (yb e (.bool true) r) fun B =>
cnd B
 ((yd h (.tup [(.int .i64 2), (.int .i64 1), (.int .i64 2)])))
 (cnd b
 ((yd h (.tup [(.int .i64 2), (.int .i64 2), (.int .i64 2)])))
 (ob (y6 .eql a (.int .i64 148)) fun z =>
cnd z
 ((yd h (.tup [(.int .i64 2), (.int .i64 2), (.int .i64 1)])))
 (ob (y6 .eql a (.int .i64 116)) fun c =>
gb c false (some a) fun C =>
gb c false (y6 .geq C (.int .i64 145)) fun o =>
gb c false (some o) fun g =>
gb g true (some a) fun x =>
gb g true (y6 .leq x (.int .i64 147)) fun j =>
gb c false (yb g j (.bool false)) fun l =>
ob (yb c (.bool true) l) fun v =>
cnd v
 ((yd h (.tup [(.int .i64 1), (.int .i64 0), (.int .i64 1)])))
 (ob (y6 .eql a (.int .i64 117)) fun u =>
cnd u
 ((yd h (.tup [(.int .i64 2), (.int .i64 0), (.int .i64 2)])))
 (ob (y6 .eql a (.int .i64 133)) fun w =>
cnd w
 ((yd h (.tup [(.int .i64 1), (.int .i64 0), (.int .i64 2)])))
 (ob (y6 .eql a (.int .i64 136)) fun i =>
cnd i
 ((yd h (.tup [(.int .i64 2), (.int .i64 0), (.int .i64 1)])))
 ((y28e h)))))))))
def y2ps (s : St) : OX := y26d (s 0) (s 5) s.h
theorem y21h : T0 y1u9 [.t 2, .t 3, .t 4] y2ps := sq y27h fun _ => by kernel_rfl
def y282 (a : AV) (h : Heap) : OX :=
ob (y6 .geq a (.int .i64 96)) fun e =>
gb e true (some a) fun i =>
gb e true (y6 .leq i (.int .i64 113)) fun t =>
ob (yb e t (.bool false)) fun c =>
gb c true (some a) fun k =>
gb c true (y6 .rem k (.int .i64 4)) fun l =>
gb c true (y6 .lss l (.int .i64 2)) fun p =>
ob (yb c p (.bool false)) fun b =>
gb b false (some a) fun g =>
gb b false (y6 .geq g (.int .i64 120)) fun n =>
gb b false (some n) fun d =>
gb d true (some a) fun m =>
gb d true (y6 .leq m (.int .i64 131)) fun j =>
gb b false (yb d j (.bool false)) fun r =>
ob (yb b (.bool true) r) fun o =>
(y26d a o h)
def y2py (s : St) : OX := y282 (s 0) s.h
theorem y28q : T0 y1kx [.t 2, .t 3, .t 4] y2py := sq y21h fun _ => by kernel_rfl
def y22n (a : AV) (h : Heap) : OX :=
(y282 a h)
def y2kt (s : St) : OX := y22n (s 0) s.h
theorem y28x : T0 y1yb [.t 2, .t 3, .t 4] y2kt := sq y28q fun _ => by kernel_rfl
@[simp] theorem y2rv : E.pure 66 = true := rfl
theorem y2u1 (a : AV) : (y8 E).p 66 [a] = y22n a [] :=
  (yr (cf := y2pb) (by kernel_rfl) rfl).trans ((y28x _).trans (by kernel_rfl))
def yli (c : AV) (h : Heap) : OX :=
ob (yv 0 c h) fun m =>
ob (y6 .gtr m (.int .i64 2)) fun d =>
gb d true (some c) fun v =>
gb d true (y41 v (.int .i64 0)) fun u =>
gb d true (y6 .eql u (.int .u8 76)) fun x =>
ob (yb d x (.bool false)) fun a =>
gb a true (some c) fun l =>
gb a true (some c) fun p =>
gb a true (yv 0 p h) fun r =>
gb a true (y6 .sub r (.int .i64 1)) fun i =>
gb a true (y41 l i) fun j =>
gb a true (y6 .eql j (.int .u8 59)) fun y =>
ob (yb a y (.bool false)) fun b =>
gb b true (some c) fun n =>
gb b true (some c) fun e =>
gb b true (yv 0 e h) fun k =>
gb b true (y6 .sub k (.int .i64 1)) fun t =>
gb b true (yes n (some (.int .i64 1)) (some t)) fun w =>
gh b true (y7 E (y8 E) 0 none true 69 [w, (.bool false)] h) h fun o h1 =>
ob (yb b o (.bool false)) fun g =>
(yd h1 g)
def y2c8 (s : St) : OX := yli (s 0) s.h
theorem y1q6 : T0 y14f [.t 2] y2c8 := fun _ => by kernel_rfl
def yek (a : AV) (h : Heap) : OX :=
ob (y6 .eql a (AV.str [73])) fun b =>
gb b false (some a) fun d =>
gb b false (y6 .eql d (AV.str [74])) fun c =>
ob (yb b (.bool true) c) fun e =>
cnd e
 ((yd h (.bool true)))
 ((yli a h))
def y2k1 (s : St) : OX := yek (s 0) s.h
theorem y1te : T0 y15f [.t 2] y2k1 := sq y1q6 fun _ => by kernel_rfl
def ys9 (b c : AV) (h : Heap) : OX :=
ob (y6 .gtr c (.int .i64 8)) fun a =>
cnd a
 ((yd h (.bool false)))
 ((yek b h))
def y2gt (s : St) : OX := ys9 (s 0) (s 3) s.h
theorem y1wj : T0 y14x [.t 2] y2gt := sq y1te fun _ => by kernel_rfl
def ynj (c a : AV) (h : Heap) : OX :=
ob (yes c (some a) none) fun b =>
(ys9 b a h)
def yb2 (s : St) : OX := ynj (s 0) (s 3) s.h
theorem y1tr : T0 y1ae [.t 2] yb2 := sq y1wj fun _ => by kernel_rfl
def yf1 (a b : AV) (h : Heap) : OX :=
  W E 0 yix ⟨[(0, a), (3, b)], h⟩ yb2 (y4 0 yb2 xN) (finP [.t 2])
def ybj (s : St) : OX := yf1 (s 0) (s 3) s.h
theorem ymv : T1 yix yb2 (y4 0 yb2 xN) [.t 2] ybj := fun s => yf.trans (by kernel_rfl)
def y12l (b c : AV) (h : Heap) : OX :=
ob (y6 .add c (.int .i64 1)) fun a =>
(yf1 b a h)
def y2h9 (s : St) : OX := y12l (s 0) (s 3) s.h
theorem y1sg : T1 y17p ybj (y4 0 yb2 xN) [.t 2] y2h9 := fun _ => by kernel_rfl
def yo8 (b c : AV) (h : Heap) : OX :=
ob (yv 0 b h) fun j =>
ob (y6 .lss c j) fun a =>
gb a true (some b) fun e =>
gb a true (some c) fun k =>
gb a true (y41 e k) fun d =>
gb a true (y6 .eql d (.int .u8 91)) fun i =>
ob (yb a i (.bool false)) fun g =>
cnd g
 ((y12l b c h))
 ((ynj b c h))
def y2iz (s : St) : OX := yo8 (s 0) (s 3) s.h
theorem y1r4 : T1 y125 ybj (y4 0 yb2 xN) [.t 2] y2iz := sq y1sg fun _ => by kernel_rfl
theorem ypd (a b : AV) (h : Heap) : yf1 a b h = (yo8 a b h) :=
  y1o.trans ((y14 _ _ _ (n' := ybj) (fun s => ymv s)).trans ((y1r4 _).trans (by kernel_rfl)))
theorem y1jm : T1 y1c3 yb2 xN [.t 2] ybj := fun s => yq.trans (ymv s)
theorem y1ly : T0 y122 [.t 2] ybj := sq y1tr y1jm
def y04 (a : AV) (h : Heap) : OX :=
(yf1 a (.int .i64 0) h)
def y23l (s : St) : OX := y04 (s 0) s.h
theorem y1gb : T0 yue [.t 2] y23l := sq y1ly fun _ => by kernel_rfl
def yr6 (a : AV) (h : Heap) : OX :=
(y04 a h)
def y25u (s : St) : OX := yr6 (s 0) s.h
theorem y1f6 : T0 ysd [.t 2] y25u := sq y1gb fun _ => by kernel_rfl
@[simp] theorem y2sz : E.pure 67 = true := rfl
theorem y2pk (a : AV) : (y8 E).p 67 [a] = yr6 a [] :=
  (yr (cf := y2a4) (by kernel_rfl) rfl).trans ((y1f6 _).trans (by kernel_rfl))
def y5e (k c : AV) (h : Heap) : OX :=
ob (evFa 0 c) fun u =>
ob (evLd false 1 u h) fun v =>
ob (y6 .neq v (.int .i64 24)) fun d =>
gb d true (evFa 0 c) fun y =>
gb d true (evLd false 1 y h) fun A =>
gb d true (y6 .neq A (.int .i64 25)) fun j =>
ob (yb d j (.bool false)) fun b =>
gb b false (evFa 8 c) fun g =>
gb b false (evLd false 1 g h) fun i =>
gb b false (yv 1 i h) fun n =>
gb b false (y6 .gtr n (.int .i64 0)) fun t =>
gb b false (some t) fun a =>
gb a true (evLd true 5 k h) fun m =>
gb a true (evFa 8 c) fun z =>
gb a true (evLd false 1 z h) fun r =>
gb a true (yn 1 r (.int .i64 0)) fun p =>
gb a true (evLd false 1 p h) fun x =>
gh a true (y7 E (y8 E) 0 none true 48 [m, x] h) h fun w h1 =>
gb a true (y6 .eql w (.int .i64 3)) fun e =>
gb b false (yb a e (.bool false)) fun l =>
ob (yb b (.bool true) l) fun o =>
(yd h1 o)
def y7e (s : St) : OX := y5e (s 2) (s 3) s.h
theorem y1mq : T0 y113 [.t 4] y7e := fun _ => by kernel_rfl
def ykt (b c a : AV) (h : Heap) : OX :=
  W E 0 yju ⟨[(2, b), (3, c), (5, a)], h⟩ y7e (y4 0 y7e xN) (finP [.t 4])
def ybs (s : St) : OX := ykt (s 2) (s 3) (s 5) s.h
theorem yp9 : T1 yju y7e (y4 0 y7e xN) [.t 4] ybs := fun s => yf.trans (by kernel_rfl)
def ya3 (c d b : AV) (h : Heap) : OX :=
ob (y6 .add b (.int .i64 1)) fun a =>
(ykt c d a h)
def y2gp (s : St) : OX := ya3 (s 2) (s 3) (s 5) s.h
theorem y1u8 : T1 y131 ybs (y4 0 y7e xN) [.t 4] y2gp := fun _ => by kernel_rfl
def y8d (b c a : AV) (h : Heap) : OX :=
ob (evLd true 5 b h) fun e =>
ob (evFa 8 c) fun g =>
ob (evLd false 1 g h) fun l =>
ob (yn 1 l a) fun i =>
ob (evLd false 1 i h) fun k =>
oh (y7 E (y8 E) 0 none true 48 [e, k] h) fun d h2 =>
ob (y6 .eql d (.int .i64 0)) fun j =>
cnd j
 ((yd h2 (.bool false)))
 ((ya3 b c a h2))
def y2d4 (s : St) : OX := y8d (s 2) (s 3) (s 5) s.h
theorem y1iz : T1 y112 ybs (y4 0 y7e xN) [.t 4] y2d4 := sq y1u8 fun _ => by kernel_rfl
def y6y (c a b : AV) (h : Heap) : OX :=
ob (evFa 8 a) fun i =>
ob (evLd false 1 i h) fun e =>
ob (yv 1 e h) fun d =>
ob (y6 .lss b d) fun g =>
cnd g
 ((y8d c a b h))
 ((y5e c a h))
def y2fu (s : St) : OX := y6y (s 2) (s 3) (s 5) s.h
theorem y1nw : T1 y1be ybs (y4 0 y7e xN) [.t 4] y2fu := sq y1iz fun _ => by kernel_rfl
theorem ymr (b c a : AV) (h : Heap) : ykt b c a h = (y6y b c a h) :=
  y1o.trans ((y14 _ _ _ (n' := ybs) (fun s => yp9 s)).trans ((y1nw _).trans (by kernel_rfl)))
theorem y1zm : T1 y11l y7e xN [.t 4] ybs := fun s => yq.trans (yp9 s)
def yam (a b : AV) (h : Heap) : OX :=
(ykt a b (.int .i64 0) h)
def y1mv (s : St) : OX := yam (s 2) (s 3) s.h
theorem y1in : T1 y18k y7e xN [.t 4] y1mv := sq y1zm fun _ => by kernel_rfl
theorem y1ol : T0 y1a4 [.t 4] y1mv := sq y1mq y1in
def yaw (g b : AV) (h : Heap) : OX :=
ob (evFa 5 b) fun r =>
ob (evLd false 1 r h) fun i =>
ob (y6 .lss i (.int .i64 0)) fun e =>
gb e true (evFa 0 b) fun u =>
gb e true (evLd false 1 u h) fun A =>
gb e true (y6 .neq A (.int .i64 25)) fun p =>
ob (yb e p (.bool false)) fun d =>
gb d false (evFa 8 b) fun y =>
gb d false (evLd false 1 y h) fun w =>
gb d false (yv 1 w h) fun o =>
gb d false (y6 .gtr o (.int .i64 21)) fun v =>
ob (yb d (.bool true) v) fun a =>
gb a false (evFa 1 b) fun n =>
gb a false (evLd false 1 n h) fun x =>
gb a false (y6 .neq x (.int .i64 (-1))) fun C =>
gb a false (some C) fun c =>
gb c true (evLd true 5 g h) fun m =>
gb c true (evFa 1 b) fun j =>
gb c true (evLd false 1 j h) fun B =>
gh c true (y7 E (y8 E) 0 none true 48 [m, B] h) h fun k h3 =>
gb c true (y6 .eql k (.int .i64 0)) fun l =>
gb a false (yb c l (.bool false)) fun t =>
ob (yb a (.bool true) t) fun z =>
cnd z
 ((yd h3 (.bool false)))
 ((yam g b h3))
def y2dw (s : St) : OX := yaw (s 2) (s 3) s.h
theorem y1yy : T0 y1a3 [.t 4] y2dw := sq y1ol fun _ => by kernel_rfl
def y6c (a d : AV) (h : Heap) : OX :=
oh (newC 0 (some 0) (cellsOf a) h) fun b h4 =>
oh (newC 0 (some 1) (cellsOf d) h4) fun c h5 =>
(yaw b c h5)
def y266 (s : St) : OX := y6c (s 0) (s 1) s.h
theorem y1df : T0 yut [.t 4] y266 := sq y1yy fun _ => by kernel_rfl
@[simp] theorem y2te : E.pure 68 = true := rfl
theorem y2kz (a b : AV) : (y8 E).p 68 [a, b] = y6c a b [⟨0, .dead⟩, ⟨0, .dead⟩] :=
  (yr (cf := y29x) (by kernel_rfl) rfl).trans ((y1df _).trans (by kernel_rfl))
def y2f4 (h : Heap) : OX :=
(yd h (.tup [(.int .i64 0), (.int .i64 0), (.int .i64 0)]))
def y3q (s : St) : OX := y2f4 s.h
theorem y24o : T0 y1m8 [.t 2, .t 3, .t 4] y3q := fun _ => by kernel_rfl
def y1em (a e : AV) (h : Heap) : OX :=
cnd e
 ((yd h (.tup [(.int .i64 1), (.int .i64 0), (.int .i64 1)])))
 (ob (y6 .eql a (.int .i64 117)) fun b =>
cnd b
 ((yd h (.tup [(.int .i64 2), (.int .i64 0), (.int .i64 2)])))
 (ob (y6 .eql a (.int .i64 133)) fun d =>
cnd d
 ((yd h (.tup [(.int .i64 1), (.int .i64 0), (.int .i64 2)])))
 (ob (y6 .eql a (.int .i64 136)) fun c =>
cnd c
 ((yd h (.tup [(.int .i64 2), (.int .i64 0), (.int .i64 1)])))
 ((y2f4 h)))))
def y2ov (s : St) : OX := y1em (s 5) (s 33) s.h
theorem y25b : T1 y206 y3q (y4 0 y3q xN) [.t 2, .t 3, .t 4] y2ov := fun _ => by kernel_rfl
def y2d3 (a : AV) (h : Heap) : OX :=
ob (y6 .eql a (.int .i64 116)) fun c =>
cnd c
 ((y1em a c h))
 (ob (y6 .eql a (.int .i64 145)) fun b =>
cnd b
 ((y1em a b h))
 (ob (y6 .eql a (.int .i64 146)) fun d =>
cnd d
 ((y1em a d h))
 (ob (y6 .eql a (.int .i64 147)) fun e =>
(y1em a e h))))
def y2md (s : St) : OX := y2d3 (s 5) s.h
theorem y20q : T1 y1sw y3q (y4 0 y3q xN) [.t 2, .t 3, .t 4] y2md := sq y25b fun _ => by kernel_rfl
def y2gi (a b : AV) (h : Heap) : OX :=
cnd b
 ((yd h (.tup [(.int .i64 2), (.int .i64 2), (.int .i64 1)])))
 ((y2d3 a h))
def y2o3 (s : St) : OX := y2gi (s 5) (s 31) s.h
theorem y21m : T1 y1z6 y3q (y4 0 y3q xN) [.t 2, .t 3, .t 4] y2o3 := fun s => (y1e rfl (y20q s)).trans (by kernel_rfl)
def y2di (a : AV) (h : Heap) : OX :=
ob (y6 .eql a (.int .i64 148)) fun b =>
(y2gi a b h)
def y2mz (s : St) : OX := y2di (s 5) s.h
theorem y26e : T1 y1qs y3q (y4 0 y3q xN) [.t 2, .t 3, .t 4] y2mz := sq y21m fun _ => by kernel_rfl
def y1yk (a b : AV) (h : Heap) : OX :=
cnd b
 ((yd h (.tup [(.int .i64 2), (.int .i64 1), (.int .i64 2)])))
 ((y2di a h))
def y2m4 (s : St) : OX := y1yk (s 5) (s 27) s.h
theorem y24k : T1 y1hv y3q (y4 0 y3q xN) [.t 2, .t 3, .t 4] y2m4 := fun s => (y1e rfl (y26e s)).trans (by kernel_rfl)
def y2iw (a : AV) (h : Heap) : OX :=
ob (y6 .eql a (.int .i64 121)) fun b =>
cnd b
 ((y1yk a b h))
 (ob (y6 .eql a (.int .i64 123)) fun c =>
cnd c
 ((y1yk a c h))
 (ob (y6 .eql a (.int .i64 125)) fun d =>
(y1yk a d h)))
def y2lb (s : St) : OX := y2iw (s 5) s.h
theorem y21o : T1 y1ij y3q (y4 0 y3q xN) [.t 2, .t 3, .t 4] y2lb := sq y24k fun _ => by kernel_rfl
def ylv (b a : AV) (h : Heap) : OX :=
cnd a
 ((yd h (.tup [(.int .i64 2), (.int .i64 2), (.int .i64 2)])))
 ((y2iw b h))
def y2lc (s : St) : OX := ylv (s 5) (s 18) s.h
theorem y23k : T1 y1n0 y3q (y4 0 y3q xN) [.t 2, .t 3, .t 4] y2lc := fun s => (y1e rfl (y21o s)).trans (by kernel_rfl)
def y2bh (a : AV) (h : Heap) : OX :=
ob (y6 .eql a (.int .i64 97)) fun g =>
cnd g
 ((ylv a g h))
 (ob (y6 .eql a (.int .i64 101)) fun d =>
cnd d
 ((ylv a d h))
 (ob (y6 .eql a (.int .i64 105)) fun e =>
cnd e
 ((ylv a e h))
 (ob (y6 .eql a (.int .i64 109)) fun b =>
cnd b
 ((ylv a b h))
 (ob (y6 .eql a (.int .i64 113)) fun j =>
cnd j
 ((ylv a j h))
 (ob (y6 .eql a (.int .i64 127)) fun i =>
cnd i
 ((ylv a i h))
 (ob (y6 .eql a (.int .i64 129)) fun c =>
cnd c
 ((ylv a c h))
 (ob (y6 .eql a (.int .i64 131)) fun k =>
(ylv a k h))))))))
def y2o2 (s : St) : OX := y2bh (s 5) s.h
theorem y291 : T1 y1nc y3q (y4 0 y3q xN) [.t 2, .t 3, .t 4] y2o2 := sq y23k fun _ => by kernel_rfl
def y7v (a b : AV) (h : Heap) : OX :=
cnd b
 ((yd h (.tup [(.int .i64 1), (.int .i64 1), (.int .i64 1)])))
 ((y2bh a h))
def y2db (s : St) : OX := y7v (s 5) (s 6) s.h
theorem y1wy : T1 y1a7 y3q (y4 0 y3q xN) [.t 2, .t 3, .t 4] y2db := fun s => (y1e rfl (y291 s)).trans (by kernel_rfl)
def y1w9 (a : AV) (h : Heap) : OX :=
ob (y6 .eql a (.int .i64 96)) fun k =>
cnd k
 ((y7v a k h))
 (ob (y6 .eql a (.int .i64 100)) fun c =>
cnd c
 ((y7v a c h))
 (ob (y6 .eql a (.int .i64 104)) fun e =>
cnd e
 ((y7v a e h))
 (ob (y6 .eql a (.int .i64 108)) fun m =>
cnd m
 ((y7v a m h))
 (ob (y6 .eql a (.int .i64 112)) fun b =>
cnd b
 ((y7v a b h))
 (ob (y6 .eql a (.int .i64 120)) fun l =>
cnd l
 ((y7v a l h))
 (ob (y6 .eql a (.int .i64 122)) fun g =>
cnd g
 ((y7v a g h))
 (ob (y6 .eql a (.int .i64 124)) fun i =>
cnd i
 ((y7v a i h))
 (ob (y6 .eql a (.int .i64 126)) fun j =>
cnd j
 ((y7v a j h))
 (ob (y6 .eql a (.int .i64 128)) fun d =>
cnd d
 ((y7v a d h))
 (ob (y6 .eql a (.int .i64 130)) fun n =>
(y7v a n h)))))))))))
def y1qv (s : St) : OX := y1w9 (s 5) s.h
theorem y1yg : T1 y14z y3q (y4 0 y3q xN) [.t 2, .t 3, .t 4] y1qv := sq y1wy fun _ => by kernel_rfl
theorem y1t8 : T1 y116 y3q xN [.t 2, .t 3, .t 4] y1qv := fun s => yq.trans (y1yg s)
def y1q2 (a : AV) (h : Heap) : OX :=
(y1w9 a h)
def y1re (s : St) : OX := y1q2 (s 0) s.h
theorem y1nk : T1 y136 y3q xN [.t 2, .t 3, .t 4] y1re := sq y1t8 fun _ => by kernel_rfl
theorem y1ih : T0 y18r [.t 2, .t 3, .t 4] y1re := sq y24o y1nk
def y1zv (a : AV) (h : Heap) : OX :=
(y1q2 a h)
def y2eg (s : St) : OX := y1zv (s 0) s.h
theorem y1ml : T0 y0x [.t 2, .t 3, .t 4] y2eg := sq y1ih fun _ => by kernel_rfl
@[simp] theorem y2v0 : E.pure 50 = true := rfl
theorem y2sj (a : AV) : (y8 E).p 50 [a] = y1zv a [] :=
  (yr (cf := y2q4) (by kernel_rfl) rfl).trans ((y1ml _).trans (by kernel_rfl))
def q8_1 (b : AV) (h : Heap) : OX :=
ob (y6 .neq b (AV.str [])) fun a =>
gb a true (some b) fun i =>
gh a true (y7 E (y8 E) 0 none true 44 [i] h) h fun g h1 =>
gb a true (some b) fun d =>
gb a true (yv 0 d h1) fun e =>
gb a true (y6 .eql g e) fun j =>
ob (yb a j (.bool false)) fun c =>
(yd h1 c)
def y2t4 (s : St) : OX := q8_1 (s 0) s.h
theorem y2df : T0 y29e [.t 2] y2t4 := fun _ => by kernel_rfl
@[simp] theorem y2tv : E.pure 37 = true := rfl
theorem x_q8 (a : AV) : (y8 E).p 37 [a] = q8_1 a [] :=
  (yr (cf := c_q8) (by kernel_rfl) rfl).trans ((y2df _).trans (by kernel_rfl))
def yy8 (a : AV) (h : Heap) : OX :=
ob (yx [(.int .i64 0), (.int .i64 0), (.int .i64 0), (.int .i64 0)] []) fun b =>
oh (evSt 4 a b h) fun _ h1 =>
(ob (evLd true 4 a h1) fun r0 =>
  yd h1 (.tup [r0, (.bool false)]))
def y2j (s : St) : OX := yy8 (s 2) s.h
theorem y22w : T0 y1si [.cell 2 true 4, .t 3] y2j := fun _ => by kernel_rfl
def ywh (d b l : AV) (h : Heap) : OX :=
ob (yx [(.int .i64 0), (.int .i64 0), (.int .i64 0), (.int .i64 0)] [(0, 1, (.int .i64 (-1))), (1, 1, (.int .i64 3)), (2, 1, l), (3, 1, (.int .i64 (-1)))]) fun i =>
ob (evFa 5 d) fun e =>
ob (evLd false 1 e h) fun g =>
ob (y6 .eql g (.int .i64 0)) fun a =>
ofp (fgd a false (some ([], []))) fun f6 =>
gb a false (evFa 5 d) fun c =>
ofp (fgd a false (some (ids1 c, []))) fun f7 =>
gb a false (evLd false 1 c h) fun j =>
ofp (fgd a false (some ([], []))) fun f8 =>
gb a false (y6 .eql j (.int .i64 1)) fun m =>
ob (yb a (.bool true) m) fun k =>
oh (evSt 4 b i h) fun _ h2 =>
okK (ye [([], []), ([], []), ([], []), (ids1 e, []), ([], []), ([], []), f6, f7, f8, ([], []), ([], ids1 b), ([], [])] [(7, 10)]) <|
(ob (evLd true 4 b h2) fun r0 =>
  yd h2 (.tup [r0, k]))
def y2ny (s : St) : OX := ywh (s 1) (s 2) (s 4) s.h
theorem y23g : T1 y1vv y2j (y4 0 y2j xN) [.cell 2 true 4, .t 3] y2ny := fun _ => by kernel_rfl
def y0j (a b g : AV) (h : Heap) : OX :=
ob (evFa 3 a) fun e =>
ob (evLd false 1 e h) fun c =>
ob (y6 .neq c (.int .i64 (-1))) fun d =>
cnd d
 ((ywh a b (.int .i64 3) h))
 ((ywh a b g h))
def y2lp (s : St) : OX := y0j (s 1) (s 2) (s 4) s.h
theorem y234 : T1 y1n8 y2j (y4 0 y2j xN) [.cell 2 true 4, .t 3] y2lp := sq y23g fun _ => by kernel_rfl
def y0i (b a : AV) (h : Heap) : OX :=
(y0j b a (.int .i64 (-1)) h)
def y2or (s : St) : OX := y0i (s 1) (s 2) s.h
theorem y240 : T1 y1oi y2j (y4 0 y2j xN) [.cell 2 true 4, .t 3] y2or := sq y234 fun _ => by kernel_rfl
def ytk (a b : AV) (h : Heap) : OX :=
ob (yx [(.int .i64 0), (.int .i64 0), (.int .i64 0), (.int .i64 0)] [(0, 1, (.int .i64 (-1))), (1, 1, b), (2, 1, (.int .i64 (-1))), (3, 1, (.int .i64 (-1)))]) fun c =>
oh (evSt 4 a c h) fun _ h3 =>
(ob (evLd true 4 a h3) fun r0 =>
  yd h3 (.tup [r0, (.bool true)]))
def y2pv (s : St) : OX := ytk (s 2) (s 5) s.h
theorem y238 : T1 y1jw y2j (y4 0 y2j xN) [.cell 2 true 4, .t 3] y2pv := fun _ => by kernel_rfl
def y0m (e a b : AV) (h : Heap) : OX :=
ob (evFa 2 e) fun d =>
ob (evLd false 1 d h) fun g =>
ob (y6 .neq g (.int .i64 (-1))) fun c =>
cnd c
 ((ytk a (.int .i64 0) h))
 ((ytk a b h))
def y2pe (s : St) : OX := y0m (s 1) (s 2) (s 5) s.h
theorem y20i : T1 y1we y2j (y4 0 y2j xN) [.cell 2 true 4, .t 3] y2pe := sq y238 fun _ => by kernel_rfl
def yzu (b a : AV) (h : Heap) : OX :=
(y0m b a (.int .i64 (-1)) h)
def y2l4 (s : St) : OX := yzu (s 1) (s 2) s.h
theorem y26f : T1 y1ln y2j (y4 0 y2j xN) [.cell 2 true 4, .t 3] y2l4 := sq y20i fun _ => by kernel_rfl
def ywm (d i v : AV) (h : Heap) : OX :=
ob (evFa 0 d) fun o =>
ob (evLd false 1 o h) fun t =>
ob (y6 .eql t (.int .i64 23)) fun g =>
gb g false (evFa 0 d) fun u =>
gb g false (evLd false 1 u h) fun n =>
gb g false (y6 .eql n (.int .i64 26)) fun p =>
ob (yb g (.bool true) p) fun e =>
gb e false (evFa 8 d) fun w =>
gb e false (evLd false 1 w h) fun G =>
gb e false (yv 1 G h) fun C =>
gb e false (y6 .gtr C (.int .i64 0)) fun I =>
ob (yb e (.bool true) I) fun a =>
ob (yx [(.int .i64 0), (.int .i64 0), (.int .i64 0), (.int .i64 0)] [(0, 1, v), (1, 1, (.int .i64 (-1))), (2, 1, (.int .i64 (-1))), (3, 1, (.int .i64 (-1)))]) fun y =>
ofp (fgd a true (some ([], []))) fun f4 =>
gb a true (evFa 5 d) fun k =>
ofp (fgd a true (some (ids1 k, []))) fun f5 =>
gb a true (evLd false 1 k h) fun A =>
ofp (fgd a true (some ([], []))) fun f6 =>
gb a true (y6 .geq A (.int .i64 0)) fun F =>
ofp (fgd a true (some ([], []))) fun f7 =>
gb a true (some F) fun c =>
ofp (fgd c false (some ([], []))) fun f8 =>
gb c false (evFa 0 d) fun m =>
ofp (fgd c false (some (ids1 m, []))) fun f9 =>
gb c false (evLd false 1 m h) fun z =>
ofp (fgd c false (some ([], []))) fun f10 =>
gb c false (y6 .eql z (.int .i64 25)) fun x =>
ofp (fgd a true (some ([], []))) fun f11 =>
gb a true (yb c (.bool true) x) fun B =>
ob (yb a B (.bool false)) fun b =>
ofp (fgd b true (some ([], []))) fun f14 =>
gb b true (evFa 8 d) fun j =>
ofp (fgd b true (some (ids1 j, []))) fun f15 =>
gb b true (evLd false 1 j h) fun l =>
ofp (fgd b true (some (ids1 l, []))) fun f16 =>
gb b true (yv 1 l h) fun r =>
ofp (fgd b true (some ([], []))) fun f17 =>
gb b true (y6 .leq r (.int .i64 21)) fun H =>
ob (yb b H (.bool false)) fun D =>
oh (evSt 4 i y h) fun _ h4 =>
okK (ye [([], []), ([], []), ([], []), ([], []), f4, f5, f6, f7, f8, f9, f10, f11, ([], []), ([], []), f14, f15, f16, f17, ([], []), ([], ids1 i), ([], [])] [(15, 19), (16, 19)]) <|
(ob (evLd true 4 i h4) fun r0 =>
  yd h4 (.tup [r0, D]))
def y2pt (s : St) : OX := ywm (s 1) (s 2) (s 6) s.h
theorem y27p : T1 y1q9 y2j (y4 0 y2j xN) [.cell 2 true 4, .t 3] y2pt := fun _ => by kernel_rfl
def y08 (a b g : AV) (h : Heap) : OX :=
ob (evFa 1 a) fun c =>
ob (evLd false 1 c h) fun d =>
ob (y6 .neq d (.int .i64 (-1))) fun e =>
cnd e
 ((ywm a b (.int .i64 0) h))
 ((ywm a b g h))
def y2lw (s : St) : OX := y08 (s 1) (s 2) (s 6) s.h
theorem y27d : T1 y20f y2j (y4 0 y2j xN) [.cell 2 true 4, .t 3] y2lw := sq y27p fun _ => by kernel_rfl
def yih (b a : AV) (h : Heap) : OX :=
(y08 b a (.int .i64 (-1)) h)
def y2jc (s : St) : OX := yih (s 1) (s 2) s.h
theorem y1ku : T1 y170 y2j (y4 0 y2j xN) [.cell 2 true 4, .t 3] y2jc := sq y27d fun _ => by kernel_rfl
def ycg (c a b : AV) (h : Heap) : OX :=
cnd b
 ((yih c a h))
 ((yy8 a h))
def y2he (s : St) : OX := ycg (s 1) (s 2) (s 32) s.h
theorem y1yt : T1 y127 y2j (y4 0 y2j xN) [.cell 2 true 4, .t 3] y2he := fun s => (y1e (y1ku s) rfl).trans (by kernel_rfl)
def ylb (c b a : AV) (h : Heap) : OX :=
ob (y6 .eql a (.int .i64 23)) fun g =>
cnd g
 ((ycg c b g h))
 (ob (y6 .eql a (.int .i64 24)) fun e =>
cnd e
 ((ycg c b e h))
 (ob (y6 .eql a (.int .i64 25)) fun d =>
cnd d
 ((ycg c b d h))
 (ob (y6 .eql a (.int .i64 26)) fun i =>
(ycg c b i h))))
def y2jd (s : St) : OX := ylb (s 1) (s 2) (s 9) s.h
theorem y1o8 : T1 y168 y2j (y4 0 y2j xN) [.cell 2 true 4, .t 3] y2jd := sq y1yt fun _ => by kernel_rfl
def yl8 (b a d c : AV) (h : Heap) : OX :=
cnd c
 ((yzu b a h))
 ((ylb b a d h))
def y2gw (s : St) : OX := yl8 (s 1) (s 2) (s 9) (s 25) s.h
theorem y1yx : T1 y15u y2j (y4 0 y2j xN) [.cell 2 true 4, .t 3] y2gw := fun s => (y1e (y26f s) (y1o8 s)).trans (by kernel_rfl)
def yj3 (d c a : AV) (h : Heap) : OX :=
ob (y6 .eql a (.int .i64 30)) fun b =>
(yl8 d c a b h)
def y2in (s : St) : OX := yj3 (s 1) (s 2) (s 9) s.h
theorem y1xc : T1 y12d y2j (y4 0 y2j xN) [.cell 2 true 4, .t 3] y2in := sq y1yx fun _ => by kernel_rfl
def yid (b a d c : AV) (h : Heap) : OX :=
cnd c
 ((y0i b a h))
 ((yj3 b a d h))
def y2ho (s : St) : OX := yid (s 1) (s 2) (s 9) (s 10) s.h
theorem y1mb : T1 y17e y2j (y4 0 y2j xN) [.cell 2 true 4, .t 3] y2ho := fun s => (y1e (y240 s) (y1xc s)).trans (by kernel_rfl)
def yj5 (d c a : AV) (h : Heap) : OX :=
ob (y6 .eql a (.int .i64 29)) fun b =>
(yid d c a b h)
def y1p8 (s : St) : OX := yj5 (s 1) (s 2) (s 9) s.h
theorem y1nt : T1 y18t y2j (y4 0 y2j xN) [.cell 2 true 4, .t 3] y1p8 := sq y1mb fun _ => by kernel_rfl
theorem y1tm : T1 y16o y2j xN [.cell 2 true 4, .t 3] y1p8 := fun s => yq.trans (y1nt s)
def yjq (a d : AV) (h : Heap) : OX :=
ob (evFa 0 a) fun b =>
ob (evLd false 1 b h) fun c =>
(yj5 a d c h)
def y1uz (s : St) : OX := yjq (s 1) (s 2) s.h
theorem y1ms : T1 y17h y2j xN [.cell 2 true 4, .t 3] y1uz := sq y1tm fun _ => by kernel_rfl
theorem y1ju : T0 y1b7 [.cell 2 true 4, .t 3] y1uz := sq y22w y1ms
def yll (a : AV) (h : Heap) : OX :=
oh (newC 0 (some 0) (cellsOf a) h) fun c h5 =>
oh (newC 0 (some 1) [(.int .i64 0), (.int .i64 0), (.int .i64 0), (.int .i64 0)] h5) fun b h6 =>
(yjq c b h6)
def y2ct (s : St) : OX := yll (s 0) s.h
theorem y1ja : T0 y15p [.cell 2 true 4, .t 3] y2ct := sq y1ju fun _ => by kernel_rfl
@[simp] theorem y2uq : E.pure 51 = true := rfl
theorem y24h (a : AV) : (y8 E).p 51 [a] = yll a [⟨0, .dead⟩, ⟨0, .dead⟩] :=
  (yr (cf := y2l0) (by kernel_rfl) rfl).trans ((y1ja _).trans (by kernel_rfl))
def y1wc (a : AV) (h : Heap) : OX :=
(yd h a)
def y42 (s : St) : OX := y1wc (s 5) s.h
theorem y1ov : T0 y13k [.t 4] y42 := fun _ => by kernel_rfl
def yku (d c a b : AV) (h : Heap) : OX :=
  W E 0 yj4 ⟨[(1, d), (2, c), (5, a), (6, b)], h⟩ y42 (y4 0 y42 xN) (finP [.t 4])
def ybq (s : St) : OX := yku (s 1) (s 2) (s 5) (s 6) s.h
theorem yp5 : T1 yj4 y42 (y4 0 y42 xN) [.t 4] ybq := fun s => yf.trans (by kernel_rfl)
def ynx (c b a d : AV) (h : Heap) : OX :=
ob (y6 .add d (.int .i64 1)) fun e =>
(yku c b a e h)
def y5p (s : St) : OX := ynx (s 1) (s 2) (s 5) (s 6) s.h
theorem y1o4 : T1 y19k ybq (y4 0 y42 xN) [.t 4] y5p := fun _ => by kernel_rfl
def ymj (e b a i d : AV) (h : Heap) : OX :=
ob (evFa 3 d) fun c =>
ob (evLd false 1 c h) fun g =>
ob (y6 .eql g (AV.str [])) fun j =>
cnd j
 ((yd h a))
 ((ynx e b a i h))
def y2en (s : St) : OX := ymj (s 1) (s 2) (s 5) (s 6) (s 7) s.h
theorem y1yn : T1 y12y y5p (y4 1 y5p (y4 0 y42 xN)) [.t 4] y2en := fun _ => by kernel_rfl
def y13n (d c b e a : AV) (h : Heap) : OX :=
ob (evFa 2 a) fun m =>
ob (evLd false 1 m h) fun o =>
oh (y7 E (y8 E) 0 none true 96 [b, o] h) fun l h1 =>
ob (evUn .not l) fun i =>
cnd i
 (ob (evFa 2 a) fun j =>
ob (evLd false 1 j h1) fun g =>
oh (y10 0 (some 2) 1 1 [(.int .i64 0)] [(0, g)] h1) fun k h2 =>
oh (y3a 0 (some 3) 1 8 b k h2) fun n h3 =>
(ymj d c n e a h3))
 ((ymj d c b e a h1))
def y2cj (s : St) : OX := y13n (s 1) (s 2) (s 5) (s 6) (s 7) s.h
theorem y1rh : T1 y11h y5p (y4 1 y5p (y4 0 y42 xN)) [.t 4] y2cj := sq y1yn fun _ => by kernel_rfl
def yns (c b a d e g : AV) (h : Heap) : OX :=
cnd g
 ((y13n c b a d e h))
 ((ynx c b a d h))
def y2hy (s : St) : OX := yns (s 1) (s 2) (s 5) (s 6) (s 7) (s 48) s.h
theorem y1mg : T1 y12t y5p (y4 1 y5p (y4 0 y42 xN)) [.t 4] y2hy := fun s => (y1e (y1rh s) rfl).trans (by kernel_rfl)
def yif (c k e n b : AV) (h : Heap) : OX :=
ob (evFa 0 b) fun g =>
ob (evLd false 1 g h) fun i =>
ob (y6 .leq i c) fun a =>
gb a true (some c) fun m =>
gb a true (evFa 1 b) fun d =>
gb a true (evLd false 1 d h) fun j =>
gb a true (y6 .lss m j) fun l =>
ob (yb a l (.bool false)) fun o =>
(yns c k e n b o h)
def y2k6 (s : St) : OX := yif (s 1) (s 2) (s 5) (s 6) (s 7) s.h
theorem y1s2 : T1 y1bf y5p (y4 1 y5p (y4 0 y42 xN)) [.t 4] y2k6 := sq y1mg fun _ => by kernel_rfl
def y1u1 (k a g c : AV) (h : Heap) : OX :=
ob (evFa 4 a) fun j =>
ob (evLd false 1 j h) fun i =>
ob (yn 4 i c) fun d =>
ob (evLd true 4 d h) fun e =>
oh (newC 0 (some 1) [(.int .i64 0), (.int .i64 0), (.int .i64 0), (.str [])] h) fun b h4 =>
oh (evSt 4 b e h4) fun _ h5 =>
(yif k a g c b h5)
def yzq (s : St) : OX := y1u1 (s 1) (s 2) (s 5) (s 6) s.h
theorem y1sb : T1 y18g y5p (y4 1 y5p (y4 0 y42 xN)) [.t 4] yzq := sq y1s2 fun _ => by kernel_rfl
theorem y1p4 : T1 y14t y5p (y4 0 y42 xN) [.t 4] yzq := fun s => yq.trans (y1sb s)
theorem y1fs : T1 yxy ybq (y4 0 y42 xN) [.t 4] yzq := sq y1o4 y1p4
def ykv (g b a c : AV) (h : Heap) : OX :=
ob (evFa 4 b) fun j =>
ob (evLd false 1 j h) fun d =>
ob (yv 1 d h) fun i =>
ob (y6 .lss c i) fun e =>
cnd e
 ((y1u1 g b a c h))
 ((y1wc a h))
def y278 (s : St) : OX := ykv (s 1) (s 2) (s 5) (s 6) s.h
theorem y1d2 : T1 yum ybq (y4 0 y42 xN) [.t 4] y278 := sq y1fs fun _ => by kernel_rfl
theorem yp8 (d c a b : AV) (h : Heap) : yku d c a b h = (ykv d c a b h) :=
  y1o.trans ((y14 _ _ _ (n' := ybq) (fun s => yp5 s)).trans ((y1d2 _).trans (by kernel_rfl)))
theorem y1d7 : T1 yse y42 xN [.t 4] ybq := fun s => yq.trans (yp5 s)
def yyc (c b a : AV) (h : Heap) : OX :=
(yku c b a (.int .i64 0) h)
def y15x (s : St) : OX := yyc (s 1) (s 2) (s 5) s.h
theorem y1fv : T1 yuk y42 xN [.t 4] y15x := sq y1d7 fun _ => by kernel_rfl
theorem y1e0 : T0 yy0 [.t 4] y15x := sq y1ov y1fv
def yfi (c d i : AV) (h : Heap) : OX :=
ob (y6 .lss c (.int .i64 0)) fun b =>
gb b false (some c) fun u =>
gb b false (evFa 3 d) fun m =>
gb b false (evLd false 1 m h) fun v =>
gb b false (yv 1 v h) fun l =>
gb b false (y6 .geq u l) fun t =>
ob (yb b (.bool true) t) fun a =>
gb a false (evFa 3 d) fun n =>
gb a false (evLd false 1 n h) fun e =>
gb a false (some c) fun p =>
gb a false (yn 9 e p) fun k =>
gb a false (evFa 0 k) fun o =>
gb a false (evLd false 1 o h) fun w =>
gh a false (y7 E (y8 E) 0 none true 19 [w] h) h fun r h6 =>
gb a false (evUn .not r) fun j =>
ob (yb a (.bool true) j) fun g =>
cnd g
 ((yd h6 AV.nils))
 ((yyc c d i h6))
def y28g (s : St) : OX := yfi (s 1) (s 2) (s 5) s.h
theorem y1dy : T0 ys5 [.t 4] y28g := sq y1e0 fun _ => by kernel_rfl
def yfm (b a : AV) (h : Heap) : OX :=
(yfi b a AV.nils h)
def y28j (s : St) : OX := yfm (s 1) (s 2) s.h
theorem y1dc : T0 yua [.t 4] y28j := sq y1dy fun _ => by kernel_rfl
def yf4 (a c : AV) (h : Heap) : OX :=
oh (newC 0 (some 0) (cellsOf a) h) fun b h7 =>
(yfm c b h7)
def y20n (s : St) : OX := yf4 (s 0) (s 1) s.h
theorem y1dq : T0 ytt [.t 4] y20n := sq y1dc fun _ => by kernel_rfl
@[simp] theorem y2uz : E.pure 92 = true := rfl
theorem y2od (a b : AV) : (y8 E).p 92 [a, b] = yf4 a b [⟨0, .dead⟩, ⟨0, .dead⟩, ⟨0, .dead⟩, ⟨0, .dead⟩] :=
  (yr (cf := y29h) (by kernel_rfl) rfl).trans ((y1dq _).trans (by kernel_rfl))
def yph (h : Heap) : OX :=
(yd h (.bool false))
def y74 (s : St) : OX := yph s.h
theorem y1tf : T0 y1bu [.t 4] y74 := fun _ => by kernel_rfl
def ykz (b c a : AV) (h : Heap) : OX :=
  W E 0 yin ⟨[(0, b), (1, c), (5, a)], h⟩ y74 (y4 0 y74 xN) (finP [.t 4])
def ybu (s : St) : OX := ykz (s 0) (s 1) (s 5) s.h
theorem ymf : T1 yin y74 (y4 0 y74 xN) [.t 4] ybu := fun s => yf.trans (by kernel_rfl)
def ynd (b d a : AV) (h : Heap) : OX :=
ob (y6 .add a (.int .i64 1)) fun c =>
(ykz b d c h)
def y2bs (s : St) : OX := ynd (s 0) (s 1) (s 5) s.h
theorem y1ug : T1 y1c2 ybu (y4 0 y74 xN) [.t 4] y2bs := fun _ => by kernel_rfl
def yma (b c a : AV) (h : Heap) : OX :=
ob (yn 1 b a) fun e =>
ob (evLd false 1 e h) fun g =>
ob (y6 .eql g c) fun d =>
cnd d
 ((yd h (.bool true)))
 ((ynd b c a h))
def y2k4 (s : St) : OX := yma (s 0) (s 1) (s 5) s.h
theorem y1th : T1 y19m ybu (y4 0 y74 xN) [.t 4] y2k4 := sq y1ug fun _ => by kernel_rfl
def yog (b e a : AV) (h : Heap) : OX :=
ob (yv 1 b h) fun c =>
ob (y6 .lss a c) fun d =>
cnd d
 ((yma b e a h))
 ((yph h))
def y2bi (s : St) : OX := yog (s 0) (s 1) (s 5) s.h
theorem y1z0 : T1 y166 ybu (y4 0 y74 xN) [.t 4] y2bi := sq y1th fun _ => by kernel_rfl
theorem yon (b c a : AV) (h : Heap) : ykz b c a h = (yog b c a h) :=
  y1o.trans ((y14 _ _ _ (n' := ybu) (fun s => ymf s)).trans ((y1z0 _).trans (by kernel_rfl)))
theorem y1p2 : T1 y12w y74 xN [.t 4] ybu := fun s => yq.trans (ymf s)
def ynv (a b : AV) (h : Heap) : OX :=
(ykz a b (.int .i64 0) h)
def y1rt (s : St) : OX := ynv (s 0) (s 1) s.h
theorem y1pu : T1 y1bx y74 xN [.t 4] y1rt := sq y1p2 fun _ => by kernel_rfl
theorem y1pf : T0 y12x [.t 4] y1rt := sq y1tf y1pu
def ypg (a b : AV) (h : Heap) : OX :=
(ynv a b h)
def y2f3 (s : St) : OX := ypg (s 0) (s 1) s.h
theorem y1kv : T0 y14e [.t 4] y2f3 := sq y1pf fun _ => by kernel_rfl
@[simp] theorem y2t6 : E.pure 96 = true := rfl
theorem y2l2 (a b : AV) : (y8 E).p 96 [a, b] = ypg a b [] :=
  (yr (cf := y29f) (by kernel_rfl) rfl).trans ((y1kv _).trans (by kernel_rfl))
def ylr (b : AV) (h : Heap) : OX :=
ob (y6 .neq b (AV.str [])) fun a =>
gb a true (some b) fun d =>
gb a true (yv 0 d h) fun g =>
gb a true (y6 .leq g (.int .i64 60)) fun c =>
ob (yb a c (.bool false)) fun e =>
(yd h e)
def y78 (s : St) : OX := ylr (s 0) s.h
theorem y1le : T0 y1c4 [.t 4] y78 := fun _ => by kernel_rfl
def yf9 (c a b : AV) (h : Heap) : OX :=
  W E 0 yii ⟨[(0, c), (5, a), (6, b)], h⟩ y78 (y4 0 y78 xN) (finP [.t 4])
def ybo (s : St) : OX := yf9 (s 0) (s 5) (s 6) s.h
theorem ymt : T1 yii y78 (y4 0 y78 xN) [.t 4] ybo := fun s => yf.trans (by kernel_rfl)
def y1ca (c a b : AV) (h : Heap) : OX :=
ob (y6 .add b (.int .i64 1)) fun d =>
(yf9 c a d h)
def y2ig (s : St) : OX := y1ca (s 0) (s 5) (s 6) s.h
theorem y1is : T1 y11i ybo (y4 0 y78 xN) [.t 4] y2ig := fun _ => by kernel_rfl
def ywa (c b a : AV) (h : Heap) : OX :=
ob (y6 .add a (.int .i64 1)) fun g =>
ob (yes c (some a) (some g)) fun e =>
oh (y7 E (y8 E) 0 none true 53 [b, e] h) fun d h1 =>
ob (evUn .not d) fun i =>
cnd i
 ((yd h1 (.bool false)))
 ((y1ca c b a h1))
def y2cs (s : St) : OX := ywa (s 0) (s 5) (s 6) s.h
theorem y1jv : T1 y19o ybo (y4 0 y78 xN) [.t 4] y2cs := sq y1is fun _ => by kernel_rfl
def yrq (a c b : AV) (h : Heap) : OX :=
ob (yv 0 a h) fun e =>
ob (y6 .lss b e) fun d =>
cnd d
 ((ywa a c b h))
 ((ylr a h))
def y2j4 (s : St) : OX := yrq (s 0) (s 5) (s 6) s.h
theorem y1pc : T1 y11w ybo (y4 0 y78 xN) [.t 4] y2j4 := sq y1jv fun _ => by kernel_rfl
theorem ymp (c a b : AV) (h : Heap) : yf9 c a b h = (yrq c a b h) :=
  y1o.trans ((y14 _ _ _ (n' := ybo) (fun s => ymt s)).trans ((y1pc _).trans (by kernel_rfl)))
theorem y1qd : T1 y12q y78 xN [.t 4] ybo := fun s => yq.trans (ymt s)
def y1ai (b a : AV) (h : Heap) : OX :=
(yf9 b a (.int .i64 0) h)
def y1x9 (s : St) : OX := y1ai (s 0) (s 5) s.h
theorem y1rb : T1 y1an y78 xN [.t 4] y1x9 := sq y1qd fun _ => by kernel_rfl
theorem y1ut : T0 y13p [.t 4] y1x9 := sq y1le y1rb
def y1i1 (b d a : AV) (h : Heap) : OX :=
cnd d
 (ob (y6 .add a (AV.str [60, 62])) fun c =>
(y1ai b c h))
 ((y1ai b a h))
def y2eq (s : St) : OX := y1i1 (s 0) (s 1) (s 5) s.h
theorem y1zh : T0 y1b8 [.t 4] y2eq := sq y1ut fun _ => by kernel_rfl
def y0d (a b : AV) (h : Heap) : OX :=
(y1i1 a b (AV.str [97, 98, 99, 100, 101, 102, 103, 104, 105, 106, 107, 108, 109, 110, 111, 112, 113, 114, 115, 116, 117, 118, 119, 120, 121, 122, 65, 66, 67, 68, 69, 70, 71, 72, 73, 74, 75, 76, 77, 78, 79, 80, 81, 82, 83, 84, 85, 86, 87, 88, 89, 90, 48, 49, 50, 51, 52, 53, 54, 55, 56, 57, 95, 36, 47]) h)
def y22z (s : St) : OX := y0d (s 0) (s 1) s.h
theorem y1gn : T0 yx0 [.t 4] y22z := sq y1zh fun _ => by kernel_rfl
def yqg (a b : AV) (h : Heap) : OX :=
(y0d a b h)
def y23x (s : St) : OX := yqg (s 0) (s 1) s.h
theorem y1dj : T0 yrx [.t 4] y23x := sq y1gn fun _ => by kernel_rfl
@[simp] theorem y2so : E.pure 69 = true := rfl
theorem y2nn (a b : AV) : (y8 E).p 69 [a, b] = yqg a b [] :=
  (yr (cf := y29u) (by kernel_rfl) rfl).trans ((y1dj _).trans (by kernel_rfl))
def q9_1 (h : Heap) : OX :=
(yd h (.int .i64 0))
def y3n (s : St) : OX := q9_1 s.h
theorem y2dv : T0 y2bc [.t 2] y3n := fun _ => by kernel_rfl
def y1md (a b c : AV) (h : Heap) : OX :=
  W E 0 yz9 ⟨[(0, a), (3, b), (4, c)], h⟩ y3n (y4 3 y3n (y4 2 y3n xN)) (finP [.t 2])
def ynm (s : St) : OX := y1md (s 0) (s 3) (s 4) s.h
theorem y12b : T1 yz9 y3n (y4 3 y3n (y4 2 y3n xN)) [.t 2] ynm := fun s => yf.trans (by kernel_rfl)
def q9_3 (b c d : AV) (h : Heap) : OX :=
ob (y6 .add d (.int .i64 1)) fun a =>
(y1md b c a h)
def ym0 (s : St) : OX := q9_3 (s 0) (s 3) (s 4) s.h
theorem y2cl : T1 y29q ynm (y4 3 y3n (y4 2 y3n xN)) [.t 2] ym0 := fun _ => by kernel_rfl
def q9_4 (h : Heap) : OX :=
(yd h (.int .i64 0))
def y2t5 (s : St) : OX := q9_4 s.h
theorem y2jl : T1 y299 ym0 (y4 4 ym0 (y4 3 y3n (y4 2 y3n xN))) [.t 2] y2t5 := fun _ => by kernel_rfl
def q9_5 (c e a : AV) (h : Heap) : OX :=
ob (y6 .add e (.int .i64 1)) fun g =>
ob (yes c (some g) (some a)) fun i =>
oh (y7 E (y8 E) 0 none true 60 [i, (.bool false)] h) fun d h1 =>
cnd d
 (ob (y6 .add a (.int .i64 1)) fun b =>
(yd h1 b))
 ((q9_4 h1))
def y2sa (s : St) : OX := q9_5 (s 0) (s 3) (s 4) s.h
theorem y2fi : T1 y2a3 ym0 (y4 4 ym0 (y4 3 y3n (y4 2 y3n xN))) [.t 2] y2sa := sq y2jl fun _ => by kernel_rfl
def q9_6 (a b c d : AV) (h : Heap) : OX :=
cnd d
 ((q9_5 a b c h))
 ((q9_3 a b c h))
def y2u6 (s : St) : OX := q9_6 (s 0) (s 3) (s 4) (s 46) s.h
theorem y2br : T1 y297 ym0 (y4 4 ym0 (y4 3 y3n (y4 2 y3n xN))) [.t 2] y2u6 := fun s => (y1e (y2fi s) rfl).trans (by kernel_rfl)
def q9_7 (a e b : AV) (h : Heap) : OX :=
ob (y41 a b) fun c =>
ob (y6 .eql c (.int .u8 59)) fun d =>
(q9_6 a e b d h)
def y2jv (s : St) : OX := q9_7 (s 0) (s 3) (s 4) s.h
theorem y2hp : T1 y2bd ym0 (y4 4 ym0 (y4 3 y3n (y4 2 y3n xN))) [.t 2] y2jv := sq y2br fun _ => by kernel_rfl
theorem y2i3 : T1 y29s ym0 (y4 3 y3n (y4 2 y3n xN)) [.t 2] y2jv := fun s => yq.trans (y2hp s)
theorem y2cp : T1 y298 ynm (y4 3 y3n (y4 2 y3n xN)) [.t 2] y2jv := sq y2cl y2i3
def y1fx (a e b : AV) (h : Heap) : OX :=
ob (yv 0 a h) fun c =>
ob (y6 .lss b c) fun d =>
cnd d
 ((q9_7 a e b h))
 ((q9_1 h))
def y2qe (s : St) : OX := y1fx (s 0) (s 3) (s 4) s.h
theorem y22v : T1 y1xf ynm (y4 3 y3n (y4 2 y3n xN)) [.t 2] y2qe := sq y2cp fun _ => by kernel_rfl
theorem y16n (a b c : AV) (h : Heap) : y1md a b c h = (y1fx a b c h) :=
  y1o.trans ((y14 _ _ _ (n' := ynm) (fun s => y12b s)).trans ((y22v _).trans (by kernel_rfl)))
theorem y25r : T1 y1ys y3n (y4 2 y3n xN) [.t 2] ynm := fun s => yq.trans (y12b s)
def y2fv (c a : AV) (h : Heap) : OX :=
ob (y6 .add a (.int .i64 1)) fun b =>
(y1md c a b h)
def y2pg (s : St) : OX := y2fv (s 0) (s 3) s.h
theorem y28w : T1 y1xn y3n (y4 2 y3n xN) [.t 2] y2pg := sq y25r fun _ => by kernel_rfl
def y28p (b c a : AV) (h : Heap) : OX :=
cnd a
 ((y2fv b c h))
 ((q9_1 h))
def y2p9 (s : St) : OX := y28p (s 0) (s 3) (s 33) s.h
theorem y294 : T1 y1qr y3n (y4 2 y3n xN) [.t 2] y2p9 := fun s => (y1e (y28w s) rfl).trans (by kernel_rfl)
def y28l (b d c : AV) (h : Heap) : OX :=
ob (y6 .eql c (.int .u8 76)) fun a =>
(y28p b d a h)
def y2pl (s : St) : OX := y28l (s 0) (s 3) (s 27) s.h
theorem y27l : T1 y1rk y3n (y4 2 y3n xN) [.t 2] y2pl := sq y294 fun _ => by kernel_rfl
def y09 (b a c e : AV) (h : Heap) : OX :=
cnd e
 (ob (y6 .add a (.int .i64 1)) fun d =>
(yd h d))
 ((y28l b a c h))
def y2l8 (s : St) : OX := y09 (s 0) (s 3) (s 27) (s 28) s.h
theorem y23d : T1 y1j0 y3n (y4 2 y3n xN) [.t 2] y2l8 := fun s => (y1e rfl (y27l s)).trans (by kernel_rfl)
def y1gp (b d a : AV) (h : Heap) : OX :=
ob (y6 .eql a (.int .u8 73)) fun c =>
cnd c
 ((y09 b d a c h))
 (ob (y6 .eql a (.int .u8 74)) fun e =>
(y09 b d a e h))
def y2af (s : St) : OX := y1gp (s 0) (s 3) (s 27) s.h
theorem y24f : T1 y1sr y3n (y4 2 y3n xN) [.t 2] y2af := sq y23d fun _ => by kernel_rfl
theorem y21p : T1 y1u4 y3n xN [.t 2] y2af := fun s => yq.trans (y24f s)
def y1fi (a b : AV) (h : Heap) : OX :=
ob (y41 a b) fun c =>
(y1gp a b c h)
def y2ad (s : St) : OX := y1fi (s 0) (s 3) s.h
theorem y24u : T1 y1x3 y3n xN [.t 2] y2ad := sq y21p fun _ => by kernel_rfl
theorem y21a : T0 y1lb [.t 2] y2ad := sq y2dv y24u
def ylt (c b : AV) (h : Heap) : OX :=
ob (y6 .gtr b (.int .i64 8)) fun a =>
gb a false (some b) fun e =>
gb a false (some c) fun g =>
gb a false (yv 0 g h) fun d =>
gb a false (y6 .eql e d) fun j =>
ob (yb a (.bool true) j) fun i =>
cnd i
 ((yd h (.int .i64 0)))
 ((y1fi c b h))
def ygl (s : St) : OX := ylt (s 0) (s 3) s.h
theorem y23c : T0 y1zq [.t 2] ygl := sq y21a fun _ => by kernel_rfl
def yvn (a b : AV) (h : Heap) : OX :=
  W E 0 yr4 ⟨[(0, a), (3, b)], h⟩ ygl (y4 0 ygl xN) (finP [.t 2])
def yfv (s : St) : OX := yvn (s 0) (s 3) s.h
theorem yxv : T1 yr4 ygl (y4 0 ygl xN) [.t 2] yfv := fun s => yf.trans (by kernel_rfl)
def y2e0 (b c : AV) (h : Heap) : OX :=
ob (y6 .add c (.int .i64 1)) fun a =>
(yvn b a h)
def y2oq (s : St) : OX := y2e0 (s 0) (s 3) s.h
theorem y28z : T1 y1lx yfv (y4 0 ygl xN) [.t 2] y2oq := fun _ => by kernel_rfl
def y1rx (b c : AV) (h : Heap) : OX :=
ob (yv 0 b h) fun i =>
ob (y6 .lss c i) fun a =>
gb a true (some b) fun k =>
gb a true (some c) fun d =>
gb a true (y41 k d) fun j =>
gb a true (y6 .eql j (.int .u8 91)) fun e =>
ob (yb a e (.bool false)) fun g =>
cnd g
 ((y2e0 b c h))
 ((ylt b c h))
def y2lq (s : St) : OX := y1rx (s 0) (s 3) s.h
theorem y285 : T1 y1yz yfv (y4 0 ygl xN) [.t 2] y2lq := sq y28z fun _ => by kernel_rfl
theorem ysi (a b : AV) (h : Heap) : yvn a b h = (y1rx a b h) :=
  y1o.trans ((y14 _ _ _ (n' := yfv) (fun s => yxv s)).trans ((y285 _).trans (by kernel_rfl)))
theorem y21t : T1 y1m7 ygl xN [.t 2] yfv := fun s => yq.trans (yxv s)
theorem y24z : T0 y1l3 [.t 2] yfv := sq y23c y21t
def y2gm (a : AV) (h : Heap) : OX :=
(yvn a (.int .i64 0) h)
def y2o4 (s : St) : OX := y2gm (s 0) s.h
theorem y24n : T0 y1u3 [.t 2] y2o4 := sq y24z fun _ => by kernel_rfl
def y2g1 (a : AV) (h : Heap) : OX :=
(y2gm a h)
def y2mg (s : St) : OX := y2g1 (s 0) s.h
theorem y25o : T0 y1nh [.t 2] y2mg := sq y24n fun _ => by kernel_rfl
@[simp] theorem y2sf : E.pure 44 = true := rfl
theorem x_q9 (a : AV) : (y8 E).p 44 [a] = y2g1 a [] :=
  (yr (cf := c_q9) (by kernel_rfl) rfl).trans ((y25o _).trans (by kernel_rfl))
def y1uq (b : AV) (h : Heap) : OX :=
ob (y6 .geq b (.int .i64 23)) fun a =>
gb a true (some b) fun e =>
gb a true (y6 .leq e (.int .i64 26)) fun d =>
ob (yb a d (.bool false)) fun c =>
(yd h c)
def y2du (s : St) : OX := y1uq (s 0) s.h
theorem y1zb : T0 y15v [.t 2] y2du := fun _ => by kernel_rfl
@[simp] theorem y2vs : E.pure 7 = true := rfl
theorem y2nd (a : AV) : (y8 E).p 7 [a] = y1uq a [] :=
  (yr (cf := y2ah) (by kernel_rfl) rfl).trans ((y1zb _).trans (by kernel_rfl))
def y1ps (b : AV) (h : Heap) : OX :=
ob (y6 .geq b (.int .i64 7)) fun d =>
gb d true (some b) fun m =>
gb d true (y6 .leq m (.int .i64 12)) fun l =>
ob (yb d l (.bool false)) fun a =>
gb a false (some b) fun n =>
gh a false (y10 0 (some 0) 1 3 [(.int .i64 0)] [(0, (.int .i64 20)), (1, (.int .i64 21)), (2, (.int .i64 31))] h) h fun g h1 =>
gh a false (y7 E (y8 E) 0 none true 42 [n, g] h1) h1 fun j h2 =>
ob (yb a (.bool true) j) fun c =>
gb c false (some b) fun k =>
gh c false (y7 E (y8 E) 0 none true 7 [k] h2) h2 fun i h3 =>
ob (yb c (.bool true) i) fun e =>
(yd h3 e)
def y2iy (s : St) : OX := y1ps (s 0) s.h
theorem y1jy : T0 y0r [.t 2] y2iy := fun _ => by kernel_rfl
@[simp] theorem y2th : E.pure 19 = true := rfl
theorem y2mo (a : AV) : (y8 E).p 19 [a] = y1ps a [⟨0, .dead⟩] :=
  (yr (cf := y29y) (by kernel_rfl) rfl).trans ((y1jy _).trans (by kernel_rfl))
def q7_1 (h : Heap) : OX :=
(yd h (.bool true))
def ykc (s : St) : OX := q7_1 s.h
theorem y2bj : T0 y2ac [.t 4] ykc := fun _ => by kernel_rfl
def y1mj (d b a c : AV) (h : Heap) : OX :=
  W E 0 y05 ⟨[(1, d), (17, b), (18, a), (19, c)], h⟩ ykc (y4 0 ykc xN) (finP [.t 4])
def yji (s : St) : OX := y1mj (s 1) (s 17) (s 18) (s 19) s.h
theorem y15b : T1 y05 ykc (y4 0 ykc xN) [.t 4] yji := fun s => yf.trans (by kernel_rfl)
def q7_3 (c d a b : AV) (h : Heap) : OX :=
ob (y6 .add b (.int .i64 1)) fun e =>
(y1mj c d a e h)
def y2sb (s : St) : OX := q7_3 (s 1) (s 17) (s 18) (s 19) s.h
theorem y2c2 : T1 y2at yji (y4 0 ykc xN) [.t 4] y2sb := fun _ => by kernel_rfl
def q7_4 (r p G o : AV) (h : Heap) : OX :=
ob (yn 1 p o) fun A =>
ob (evLd false 1 A h) fun a =>
ob (y6 .geq a (.int .u8 97)) fun k =>
gb k true (some a) fun y =>
gb k true (y6 .leq y (.int .u8 122)) fun S =>
ob (yb k S (.bool false)) fun c =>
gb c false (some a) fun D =>
gb c false (y6 .geq D (.int .u8 65)) fun L =>
gb c false (some L) fun l =>
gb l true (some a) fun M =>
gb l true (y6 .leq M (.int .u8 90)) fun B =>
gb c false (yb l B (.bool false)) fun V =>
ob (yb c (.bool true) V) fun b =>
gb b false (some a) fun I =>
gb b false (y6 .geq I (.int .u8 48)) fun w =>
gb b false (some w) fun g =>
gb g true (some a) fun Y =>
gb g true (y6 .leq Y (.int .u8 57)) fun N =>
gb b false (yb g N (.bool false)) fun R =>
ob (yb b (.bool true) R) fun i =>
gb i false (some a) fun x =>
gb i false (y6 .eql x (.int .u8 95)) fun K =>
ob (yb i (.bool true) K) fun m =>
gb m false (some a) fun v =>
gb m false (y6 .eql v (.int .u8 36)) fun Z =>
ob (yb m (.bool true) Z) fun n =>
gb n false (some a) fun O =>
gb n false (y6 .eql O (.int .u8 47)) fun H =>
ob (yb n (.bool true) H) fun u =>
ob (evUn .not u) fun e =>
gb e true (some r) fun X =>
gb e true (some X) fun d =>
gb d true (some a) fun U =>
gb d true (y6 .eql U (.int .u8 60)) fun J =>
gb d true (some J) fun j =>
gb j false (some a) fun P =>
gb j false (y6 .eql P (.int .u8 62)) fun Q =>
gb d true (yb j (.bool true) Q) fun t =>
gb e true (yb d t (.bool false)) fun C =>
gb e true (evUn .not C) fun F =>
ob (yb e F (.bool false)) fun z =>
cnd z
 ((yd h (.bool false)))
 ((q7_3 r p G o h))
def y2ub (s : St) : OX := q7_4 (s 1) (s 17) (s 18) (s 19) s.h
theorem y2ix : T1 y2b1 yji (y4 0 ykc xN) [.t 4] y2ub := sq y2c2 fun _ => by kernel_rfl
def q7_5 (d e a c b : AV) (h : Heap) : OX :=
cnd b
 ((q7_4 d e a c h))
 ((q7_1 h))
def y2sl (s : St) : OX := q7_5 (s 1) (s 17) (s 18) (s 19) (s 20) s.h
theorem y2fg : T1 y2aq yji (y4 0 ykc xN) [.t 4] y2sl := sq y2ix fun _ => by kernel_rfl
def q7_6 (d e a b : AV) (h : Heap) : OX :=
ob (y6 .lss b a) fun c =>
(q7_5 d e a b c h)
def y2ul (s : St) : OX := q7_6 (s 1) (s 17) (s 18) (s 19) s.h
theorem y2bl : T1 y2a2 yji (y4 0 ykc xN) [.t 4] y2ul := sq y2fg fun _ => by kernel_rfl
theorem y1ax (d b a c : AV) (h : Heap) : y1mj d b a c h = (q7_6 d b a c h) :=
  y1o.trans ((y14 _ _ _ (n' := yji) (fun s => y15b s)).trans ((y2bl _).trans (by kernel_rfl)))
theorem y2el : T1 y29m ykc xN [.t 4] yji := fun s => yq.trans (y15b s)
def q7_8 (c d : AV) (h : Heap) : OX :=
oh (s2bC 0 (some 0) c h) fun a h1 =>
ob (yv 1 a h1) fun b =>
(y1mj d a b (.int .i64 0) h1)
def y2lx (s : St) : OX := q7_8 (s 0) (s 1) s.h
theorem y2j9 : T1 y2ak ykc xN [.t 4] y2lx := sq y2el fun _ => by kernel_rfl
theorem y2j2 : T0 y29k [.t 4] y2lx := sq y2bj y2j9
def y1zu (b i : AV) (h : Heap) : OX :=
ob (yv 0 b h) fun c =>
ob (y6 .lss c (.int .i64 1)) fun a =>
gb a false (some b) fun j =>
gb a false (yv 0 j h) fun d =>
gb a false (y6 .gtr d (.int .i64 60)) fun e =>
ob (yb a (.bool true) e) fun g =>
cnd g
 ((yd h (.bool false)))
 ((q7_8 b i h))
def y2mb (s : St) : OX := y1zu (s 0) (s 1) s.h
theorem y23a : T0 y1yu [.t 4] y2mb := sq y2j2 fun _ => by kernel_rfl
def y1v1 (a b : AV) (h : Heap) : OX :=
(y1zu a b h)
def y2nv (s : St) : OX := y1v1 (s 0) (s 1) s.h
theorem y20u : T0 y1ic [.t 4] y2nv := sq y23a fun _ => by kernel_rfl
@[simp] theorem y2s2 : E.pure 60 = true := rfl
theorem x_q7 (a b : AV) : (y8 E).p 60 [a, b] = y1v1 a b [⟨0, .dead⟩] :=
  (yr (cf := c_q7) (by kernel_rfl) rfl).trans ((y20u _).trans (by kernel_rfl))
end
end Go.Vm
