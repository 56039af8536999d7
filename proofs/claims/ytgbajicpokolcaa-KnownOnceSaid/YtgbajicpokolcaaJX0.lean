/- Functions of the machine as plain functions that go on with what follows. -/
import Derived.Test.YtgbajicpokolcaaJEnv
set_option linter.unusedSimpArgs false
set_option linter.unusedVariables false
set_option linter.unusedSectionVars false
namespace Go.Vm
noncomputable section
def y0v (a : AV) (h : Heap) : OX :=
ob (evFa 3 a) fun c =>
ob (evLd false 1 c h) fun j =>
ob (yd [(.int .i64 0), (.int .i64 0), (.int .i64 0), (.int .i64 0), (.int .i64 0), (.int .i64 0), (.int .i64 0), (.str []), .nils] [(0, 1, (.int .i64 30)), (2, 1, (.int .i64 (-1)))]) fun b =>
oh (ym 0 (some 10) 9 1 [(.int .i64 0), (.int .i64 0), (.int .i64 0), (.int .i64 0), (.int .i64 0), (.int .i64 0), (.int .i64 0), (.str []), .nils] [(0, b)] h) fun d h1 =>
oh (y26 0 (some 11) 9 96 j d h1) fun e h2 =>
ob (evFa 3 a) fun k =>
oh (evSt 1 k e h2) fun _ h3 =>
ob (evLd true 5 a h3) fun l =>
oh (y9 E (yb E) 0 none true 166 [l] h3) fun m h4 =>
oh (y9 E (yb E) 0 none true 100 [m] h4) fun o h5 =>
ob (y1ji false 3 1 o) fun g =>
ob (y12 1 g h5) fun n =>
ob (y6 .eql n (.int .i64 5)) fun i =>
(yi h5 i)
def y7y (s : St) : OX := y0v (s 8) s.h
theorem y1mu : T0 y14o [.t 6] y7y := fun _ => by kernel_rfl
def ym5 (a c d b : AV) (h : Heap) : OX :=
  W E 0 yjz ⟨[(7, a), (8, c), (49, d), (50, b)], h⟩ y7y (y5 2 y7y xN) (finP [.t 6])
def y9i (s : St) : OX := ym5 (s 7) (s 8) (s 49) (s 50) s.h
theorem yli : T1 yjz y7y (y5 2 y7y xN) [.t 6] y9i := fun s => yp.trans (by kernel_rfl)
def y1xd (c a e d : AV) (h : Heap) : OX :=
ob (y6 .add d (.int .i64 1)) fun b =>
(ym5 c a e b h)
def y1zk (s : St) : OX := y1xd (s 7) (s 8) (s 49) (s 50) s.h
theorem y1lw : T1 y1gv y9i (y5 2 y7y xN) [.t 6] y1zk := fun _ => by kernel_rfl
def y1yc (b a k i : AV) (h : Heap) : OX :=
ob (evFa 3 a) fun e =>
ob (evLd false 1 e h) fun l =>
ob (evLd true 9 b h) fun d =>
oh (ym 0 (some 8) 9 1 [(.int .i64 0), (.int .i64 0), (.int .i64 0), (.int .i64 0), (.int .i64 0), (.int .i64 0), (.int .i64 0), (.str []), .nils] [(0, d)] h) fun j h6 =>
oh (y26 0 (some 9) 9 96 l j h6) fun g h7 =>
ob (evFa 3 a) fun c =>
oh (evSt 1 c g h7) fun _ h8 =>
(y1xd b a k i h8)
def y20v (s : St) : OX := y1yc (s 7) (s 8) (s 49) (s 50) s.h
theorem y1o1 : T1 y1gw y9i (y5 2 y7y xN) [.t 6] y20v := sq y1lw fun _ => by kernel_rfl
def y1kp (b a e d c : AV) (h : Heap) : OX :=
cnd c
 ((y1yc b a e d h))
 ((y0v a h))
def y23e (s : St) : OX := y1kp (s 7) (s 8) (s 49) (s 50) (s 51) s.h
theorem y1lo : T1 y19z y9i (y5 2 y7y xN) [.t 6] y23e := sq y1o1 fun _ => by kernel_rfl
def y1mx (d c b a : AV) (h : Heap) : OX :=
ob (y6 .lss a b) fun e =>
(y1kp d c b a e h)
def y1zl (s : St) : OX := y1mx (s 7) (s 8) (s 49) (s 50) s.h
theorem y1it : T1 y1en y9i (y5 2 y7y xN) [.t 6] y1zl := sq y1lo fun _ => by kernel_rfl
theorem ymy (a c d b : AV) (h : Heap) : ym5 a c d b h = (y1mx a c d b h) :=
  y2b.trans ((y1m _ _ _ (n' := y9i) (fun s => yli s)).trans ((y1it _).trans (by kernel_rfl)))
theorem y1oo : T1 y16r y7y xN [.t 6] y9i := fun s => yw.trans (yli s)
def y1um (c a b : AV) (h : Heap) : OX :=
(ym5 a b c (.int .i64 0) h)
def y1pd (s : St) : OX := y1um (s 1) (s 7) (s 8) s.h
theorem y1nq : T1 y15s y7y xN [.t 6] y1pd := sq y1oo fun _ => by kernel_rfl
theorem y1j7 : T0 y1e9 [.t 6] y1pd := sq y1mu y1nq
def yx6 (b c a : AV) (h : Heap) : OX :=
ob (evFa 3 a) fun k =>
ob (evLd false 1 k h) fun g =>
ob (yd [(.int .i64 0), (.int .i64 0), (.int .i64 0), (.int .i64 0), (.int .i64 0), (.int .i64 0), (.int .i64 0), (.str []), .nils] [(0, 1, (.int .i64 18)), (1, 1, (.int .i64 0))]) fun j =>
ob (yd [(.int .i64 0), (.int .i64 0), (.int .i64 0), (.int .i64 0), (.int .i64 0), (.int .i64 0), (.int .i64 0), (.str []), .nils] [(0, 1, (.int .i64 18)), (1, 1, (.int .i64 1)), (5, 1, (.int .i64 2))]) fun i =>
oh (ym 0 (some 6) 9 2 [(.int .i64 0), (.int .i64 0), (.int .i64 0), (.int .i64 0), (.int .i64 0), (.int .i64 0), (.int .i64 0), (.str []), .nils] [(0, j), (1, i)] h) fun d h9 =>
oh (y26 0 (some 7) 9 96 g d h9) fun l h10 =>
ob (evFa 3 a) fun e =>
oh (evSt 1 e l h10) fun _ h11 =>
(y1um b c a h11)
def y4i (s : St) : OX := yx6 (s 1) (s 7) (s 8) s.h
theorem y11g : T0 ywf [.t 6] y4i := sq y1j7 fun _ => by kernel_rfl
def yfk (b c a d e : AV) (h : Heap) : OX :=
  W E 0 ye8 ⟨[(1, b), (7, c), (8, a), (32, d), (33, e)], h⟩ y4i (y5 0 y4i xN) (finP [.t 6])
def y63 (s : St) : OX := yfk (s 1) (s 7) (s 8) (s 32) (s 33) s.h
theorem yih : T1 ye8 y4i (y5 0 y4i xN) [.t 6] y63 := fun s => yp.trans (by kernel_rfl)
def y15b (b c a e g : AV) (h : Heap) : OX :=
ob (y6 .add g (.int .i64 1)) fun d =>
(yfk b c a e d h)
def y1ue (s : St) : OX := y15b (s 1) (s 7) (s 8) (s 32) (s 33) s.h
theorem y1b0 : T1 yw8 y63 (y5 0 y4i xN) [.t 6] y1ue := fun _ => by kernel_rfl
def y17d (c b a l m : AV) (h : Heap) : OX :=
ob (evFa 3 a) fun i =>
ob (evLd false 1 i h) fun d =>
ob (evLd true 9 b h) fun j =>
oh (ym 0 (some 4) 9 1 [(.int .i64 0), (.int .i64 0), (.int .i64 0), (.int .i64 0), (.int .i64 0), (.int .i64 0), (.int .i64 0), (.str []), .nils] [(0, j)] h) fun k h12 =>
oh (y26 0 (some 5) 9 96 d k h12) fun e h13 =>
ob (evFa 3 a) fun g =>
oh (evSt 1 g e h13) fun _ h14 =>
(y15b c b a l m h14)
def y1v3 (s : St) : OX := y17d (s 1) (s 7) (s 8) (s 32) (s 33) s.h
theorem y18j : T1 ypb y63 (y5 0 y4i xN) [.t 6] y1v3 := sq y1b0 fun _ => by kernel_rfl
def yw4 (b c a e g d : AV) (h : Heap) : OX :=
cnd d
 ((y17d b c a e g h))
 ((yx6 b c a h))
def y1wh (s : St) : OX := yw4 (s 1) (s 7) (s 8) (s 32) (s 33) (s 34) s.h
theorem y13m : T1 yph y63 (y5 0 y4i xN) [.t 6] y1wh := sq y18j fun _ => by kernel_rfl
def yvi (e g d a b : AV) (h : Heap) : OX :=
ob (y6 .lss b a) fun c =>
(yw4 e g d a b c h)
def y1rf (s : St) : OX := yvi (s 1) (s 7) (s 8) (s 32) (s 33) s.h
theorem y1h7 : T1 yuw y63 (y5 0 y4i xN) [.t 6] y1rf := sq y13m fun _ => by kernel_rfl
theorem yhx (b c a d e : AV) (h : Heap) : yfk b c a d e h = (yvi b c a d e h) :=
  y2b.trans ((y1m _ _ _ (n' := y63) (fun s => yih s)).trans ((y1h7 _).trans (by kernel_rfl)))
theorem y17f : T1 yu1 y4i xN [.t 6] y63 := fun s => yw.trans (yih s)
def y19r (d b a c : AV) (h : Heap) : OX :=
(yfk b a c d (.int .i64 0) h)
def y19q (s : St) : OX := y19r (s 0) (s 1) (s 7) (s 8) s.h
theorem y1bt : T1 yv1 y4i xN [.t 6] y19q := sq y17f fun _ => by kernel_rfl
theorem y16x : T0 ysi [.t 6] y19q := sq y11g y1bt
def y18z (e b d : AV) (h : Heap) : OX :=
oh (ym 0 (some 1) 1 2 [(.int .i64 0)] [(0, (.int .i64 1)), (1, (.int .i64 3))] h) fun c h15 =>
oh (ym 0 (some 2) 1 2 [(.int .i64 0)] [(0, (.int .i64 0)), (1, (.int .i64 1))] h15) fun i h16 =>
ob (yd [.nils, .nils, (.int .i64 0), .nils, .nils] [(0, 1, c), (1, 1, i)]) fun g =>
oh (newC 0 (some 3) [.nils, .nils, (.int .i64 0), .nils, .nils] h16) fun a h17 =>
oh (evSt 5 a g h17) fun _ h18 =>
(y19r e b d a h18)
def y1xc (s : St) : OX := y18z (s 0) (s 1) (s 7) s.h
theorem y13q : T0 yws [.t 6] y1xc := sq y16x fun _ => by kernel_rfl
def y1f5 (d b c : AV) (h : Heap) : OX :=
ob (yd [(.int .i64 0), (.int .i64 0), (.int .i64 0), (.int .i64 0), (.int .i64 0), (.int .i64 0), (.int .i64 0), (.str []), .nils] [(0, 1, (.int .i64 8)), (2, 1, (.int .i64 1))]) fun l =>
ob (yd [(.int .i64 0), (.int .i64 0), (.int .i64 0), (.int .i64 0), (.int .i64 0), (.int .i64 0), (.int .i64 0), (.str []), .nils] [(0, 1, (.int .i64 9)), (2, 1, (.int .i64 1)), (3, 1, (.int .i64 0))]) fun i =>
ob (yd [(.int .i64 0), (.int .i64 0), (.int .i64 0), (.int .i64 0), (.int .i64 0), (.int .i64 0), (.int .i64 0), (.str []), .nils] [(0, 1, (.int .i64 7)), (2, 1, (.int .i64 0))]) fun m =>
ob (yd [(.int .i64 0), (.int .i64 0), (.int .i64 0), (.int .i64 0), (.int .i64 0), (.int .i64 0), (.int .i64 0), (.str []), .nils] [(0, 1, (.int .i64 10)), (2, 1, (.int .i64 0))]) fun e =>
ob (yd [(.int .i64 0), (.int .i64 0), (.int .i64 0), (.int .i64 0), (.int .i64 0), (.int .i64 0), (.int .i64 0), (.str []), .nils, (.int .i64 0), (.int .i64 0), (.int .i64 0), (.int .i64 0), (.int .i64 0), (.int .i64 0), (.int .i64 0), (.str []), .nils, (.int .i64 0), (.int .i64 0), (.int .i64 0), (.int .i64 0), (.int .i64 0), (.int .i64 0), (.int .i64 0), (.str []), .nils, (.int .i64 0), (.int .i64 0), (.int .i64 0), (.int .i64 0), (.int .i64 0), (.int .i64 0), (.int .i64 0), (.str []), .nils] [(0, 9, l), (9, 9, i), (18, 9, m), (27, 9, e)]) fun k =>
ob (y6 .and c (.int .i64 3)) fun j =>
ob (yfy true 4 9 k j) fun g =>
oh (newC 0 (some 0) [(.int .i64 0), (.int .i64 0), (.int .i64 0), (.int .i64 0), (.int .i64 0), (.int .i64 0), (.int .i64 0), (.str []), .nils] h) fun a h19 =>
oh (evSt 9 a g h19) fun _ h20 =>
(y18z d b a h20)
def y1wr (s : St) : OX := y1f5 (s 0) (s 1) (s 2) s.h
theorem y1dn : T0 ysj [.t 6] y1wr := sq y13q fun _ => by kernel_rfl
def y1fd (k c d : AV) (h : Heap) : OX :=
ob (y6 .rem k (.int .i64 30)) fun g =>
ob (y6 .add g (.int .i64 30)) fun a =>
ob (y6 .rem a (.int .i64 30)) fun m =>
ob (y6 .add m (.int .i64 1)) fun e =>
ob (y6 .rem c (.int .i64 30)) fun b =>
ob (y6 .add b (.int .i64 30)) fun i =>
ob (y6 .rem i (.int .i64 30)) fun l =>
ob (y6 .add l (.int .i64 1)) fun j =>
(y1f5 e j d h)
def y1sy (s : St) : OX := y1fd (s 0) (s 1) (s 2) s.h
theorem y1fa : T0 yv7 [.t 6] y1sy := sq y1dn fun _ => by kernel_rfl
def y16j (c a b : AV) (h : Heap) : OX :=
oh (y9 E (yb E) 0 none true 165 [] h) fun e h21 =>
ob (evUn .not e) fun d =>
cnd d
 ((yi h21 (.bool false)))
 ((y1fd c a b h21))
def y1vy (s : St) : OX := y16j (s 0) (s 1) (s 2) s.h
theorem y13k : T0 yuo [.t 6] y1vy := sq y1fa fun _ => by kernel_rfl
def y17z (c a b : AV) (h : Heap) : OX :=
(y16j c a b h)
def y1xo (s : St) : OX := y17z (s 0) (s 1) (s 2) s.h
theorem y1cm : T0 yro [.t 6] y1xo := sq y13k fun _ => by kernel_rfl
@[simp] theorem y24o : E.pure 164 = true := rfl
theorem y263 (c a b : AV) : (yb E).p 164 [c, a, b] = y17z c a b [⟨0, .dead⟩, ⟨0, .dead⟩, ⟨0, .dead⟩, ⟨0, .dead⟩, ⟨0, .dead⟩, ⟨0, .dead⟩, ⟨0, .dead⟩, ⟨0, .dead⟩, ⟨0, .dead⟩, ⟨0, .dead⟩, ⟨0, .dead⟩, ⟨0, .dead⟩] :=
  (y17 (cf := y201) (by kernel_rfl) rfl).trans ((y1cm _).trans (by kernel_rfl))
def y16n (a b : AV) (h : Heap) : OX :=
ob (evLd true 5 b h) fun c =>
oh (evSt 5 a c h) fun _ h1 =>
(ob (evLd true 5 a h1) fun r0 =>
  yi h1 r0)
def y7z (s : St) : OX := y16n (s 2) (s 3) s.h
theorem y1ow : T0 y1b8 [.cell 2 true 5] y7z := fun _ => by kernel_rfl
def ylh (b a d c : AV) (h : Heap) : OX :=
  W E 0 yj9 ⟨[(2, b), (3, a), (22, d), (23, c)], h⟩ y7z (y5 0 y7z xN) (finP [.cell 2 true 5])
def y9m (s : St) : OX := ylh (s 2) (s 3) (s 22) (s 23) s.h
theorem ymk : T1 yj9 y7z (y5 0 y7z xN) [.cell 2 true 5] y9m := fun s => yp.trans (by kernel_rfl)
def y1ut (a d c e : AV) (h : Heap) : OX :=
ob (y6 .add e (.int .i64 1)) fun b =>
(ylh a d c b h)
def y21o (s : St) : OX := y1ut (s 2) (s 3) (s 22) (s 23) s.h
theorem y1p9 : T1 y1cj y9m (y5 0 y7z xN) [.cell 2 true 5] y21o := fun _ => by kernel_rfl
def y1xv (j a m b : AV) (h : Heap) : OX :=
ob (evFa 3 a) fun g =>
ob (evLd false 1 g h) fun n =>
ob (evFa 3 a) fun d =>
ob (evLd false 1 d h) fun o =>
ob (yu 9 o b) fun p =>
ob (evFa 8 p) fun i =>
ob (evLd false 1 i h) fun c =>
ofp (y5r E (yb E) 0 none true 39 [c] h) fun f9 =>
oh (y9 E (yb E) 0 none true 39 [c] h) fun l h2 =>
ob (yu 9 n b) fun k =>
ob (evFa 8 k) fun e =>
oh (evSt 1 e l h2) fun _ h3 =>
okK (yz [([], []), (ids1 g, []), ([], []), ([], []), (ids1 d, []), ([], []), ([], []), ([], []), (ids1 i, []), f9, ([], []), ([], []), ([], ids1 e)] [(1, 9)]) <|
(y1ut j a m b h3)
def y239 (s : St) : OX := y1xv (s 2) (s 3) (s 22) (s 23) s.h
theorem y1ho : T1 y06 y9m (y5 0 y7z xN) [.cell 2 true 5] y239 := sq y1p9 fun _ => by kernel_rfl
def y1i5 (a b d e c : AV) (h : Heap) : OX :=
cnd c
 ((y1xv a b d e h))
 ((y16n a b h))
def y230 (s : St) : OX := y1i5 (s 2) (s 3) (s 22) (s 23) (s 24) s.h
theorem y1jc : T1 y157 y9m (y5 0 y7z xN) [.cell 2 true 5] y230 := sq y1ho fun _ => by kernel_rfl
def y1jg (c e a b : AV) (h : Heap) : OX :=
ob (y6 .lss b a) fun d =>
(y1i5 c e a b d h)
def y228 (s : St) : OX := y1jg (s 2) (s 3) (s 22) (s 23) s.h
theorem y1hw : T1 y1bh y9m (y5 0 y7z xN) [.cell 2 true 5] y228 := sq y1jc fun _ => by kernel_rfl
theorem yn2 (b a d c : AV) (h : Heap) : ylh b a d c h = (y1jg b a d c h) :=
  y2b.trans ((y1m _ _ _ (n' := y9m) (fun s => ymk s)).trans ((y1hw _).trans (by kernel_rfl)))
theorem y1mk : T1 y1a3 y7z xN [.cell 2 true 5] y9m := fun s => yw.trans (ymk s)
def y17e (b a : AV) (h : Heap) : OX :=
ob (evFa 3 a) fun c =>
ob (evLd false 1 c h) fun e =>
ob (y12 1 e h) fun d =>
(ylh b a d (.int .i64 0) h)
def y1q9 (s : St) : OX := y17e (s 2) (s 3) s.h
theorem y1pc : T1 y1eh y7z xN [.cell 2 true 5] y1q9 := sq y1mk fun _ => by kernel_rfl
theorem y1hr : T0 y1do [.cell 2 true 5] y1q9 := sq y1ow y1pc
def ylc (a n : AV) (h : Heap) : OX :=
ob (evFa 0 a) fun g =>
ob (evLd false 1 g h) fun k =>
ofp (y5r E (yb E) 0 (some 2) false 39 [k] h) fun f2 =>
oh (y9 E (yb E) 0 (some 2) false 39 [k] h) fun o h4 =>
ob (evFa 1 a) fun e =>
ob (evLd false 1 e h4) fun j =>
ofp (y5r E (yb E) 0 (some 3) false 39 [j] h4) fun f5 =>
oh (y9 E (yb E) 0 (some 3) false 39 [j] h4) fun u h5 =>
ob (evFa 2 a) fun i =>
ob (evLd false 1 i h5) fun p =>
ob (evFa 3 a) fun c =>
ob (evLd false 1 c h5) fun m =>
ofp (y5r E (yb E) 0 (some 4) false 40 [m] h5) fun f10 =>
oh (y9 E (yb E) 0 (some 4) false 40 [m] h5) fun r h6 =>
ob (evFa 4 a) fun l =>
ob (evLd false 1 l h6) fun d =>
ofp (y5r E (yb E) 0 (some 5) false 41 [d] h6) fun f13 =>
oh (y9 E (yb E) 0 (some 5) false 41 [d] h6) fun t h7 =>
ob (yd [.nils, .nils, (.int .i64 0), .nils, .nils] [(0, 1, o), (1, 1, u), (2, 1, p), (3, 1, r), (4, 1, t)]) fun v =>
oh (newC 0 (some 6) [.nils, .nils, (.int .i64 0), .nils, .nils] h7) fun b h8 =>
oh (evSt 5 b v h8) fun _ h9 =>
okK (yz [([], []), (ids1 g, []), f2, ([], []), (ids1 e, []), f5, ([], []), (ids1 i, []), ([], []), (ids1 c, []), f10, ([], []), (ids1 l, []), f13, ([], []), ([], [0 + 6]), ([], ids1 b)] [(2, 4), (2, 7), (5, 7), (2, 9), (5, 9), (7, 10), (2, 12), (5, 12), (10, 12), (7, 13), (1, 15), (2, 15), (4, 15), (5, 15), (7, 15), (9, 15), (10, 15), (12, 15), (13, 15)]) <|
(y17e n b h9)
def y1x0 (s : St) : OX := ylc (s 1) (s 2) s.h
theorem y11c : T0 yp9 [.cell 2 true 5] y1x0 := sq y1hr fun _ => by kernel_rfl
def yui (c : AV) (h : Heap) : OX :=
oh (newC 0 (some 0) (cellsOf c) h) fun a h10 =>
oh (newC 0 (some 1) [.nils, .nils, (.int .i64 0), .nils, .nils] h10) fun b h11 =>
(ylc a b h11)
def y1v2 (s : St) : OX := yui (s 0) s.h
theorem y1fx : T0 yvs [.cell 2 true 5] y1v2 := sq y11c fun _ => by kernel_rfl
@[simp] theorem y285 : E.pure 13 = true := rfl
theorem y271 (a : AV) : (yb E).p 13 [a] = yui a [⟨0, .dead⟩, ⟨0, .dead⟩, ⟨0, .dead⟩, ⟨0, .dead⟩, ⟨0, .dead⟩, ⟨0, .dead⟩, ⟨0, .dead⟩] :=
  (y17 (cf := y1zy) (by kernel_rfl) rfl).trans ((y1fx _).trans (by kernel_rfl))
def y1rr (h : Heap) : OX :=
(yi h (.int .i64 0))
def y8h (s : St) : OX := y1rr s.h
theorem y1ou : T0 y16h [.t 2] y8h := fun _ => by kernel_rfl
def ygl (b c e d a : AV) (h : Heap) : OX :=
  W E 0 yj5 ⟨[(1, b), (3, c), (136, e), (137, d), (138, a)], h⟩ y8h (y5 6 y8h xN) (finP [.t 2])
def y9g (s : St) : OX := ygl (s 1) (s 3) (s 136) (s 137) (s 138) s.h
theorem ymf : T1 yj5 y8h (y5 6 y8h xN) [.t 2] y9g := fun s => yp.trans (by kernel_rfl)
def y1sa (b d g e a : AV) (h : Heap) : OX :=
ob (y6 .add a (.int .i64 1)) fun c =>
(ygl b d g e c h)
def y1zt (s : St) : OX := y1sa (s 1) (s 3) (s 136) (s 137) (s 138) s.h
theorem y1ir : T1 y1b3 y9g (y5 6 y8h xN) [.t 2] y1zt := fun _ => by kernel_rfl
def yjg (j i k G l : AV) (h : Heap) : OX :=
ob (yu 4 k l) fun y =>
ob (evLd true 4 y h) fun D =>
oh (newC 0 (some 2) [(.int .i64 0), (.int .i64 0), (.int .i64 0), (.str [])] h) fun b h1 =>
oh (evSt 4 b D h1) fun _ h2 =>
ob (evFa 0 b) fun B =>
ob (evLd false 1 B h2) fun F =>
ob (y6 .lss F (.int .i64 0)) fun c =>
gb c false (evFa 0 b) fun H =>
gb c false (evLd false 1 H h2) fun A =>
gb c false (evFa 1 b) fun J =>
gb c false (evLd false 1 J h2) fun I =>
gb c false (y6 .geq A I) fun S =>
ob (yf c (.bool true) S) fun e =>
gb e false (evFa 1 b) fun R =>
gb e false (evLd false 1 R h2) fun M =>
gb e false (some i) fun w =>
gb e false (y6 .gtr M w) fun N =>
ob (yf e (.bool true) N) fun g =>
gb g false (evFa 2 b) fun P =>
gb g false (evLd false 1 P h2) fun u =>
gb g false (y6 .lss u (.int .i64 0)) fun n =>
ob (yf g (.bool true) n) fun d =>
gb d false (evFa 2 b) fun m =>
gb d false (evLd false 1 m h2) fun o =>
gb d false (some i) fun p =>
gb d false (y6 .geq o p) fun r =>
ob (yf d (.bool true) r) fun a =>
gb a false (evFa 3 j) fun Q =>
gb a false (evLd false 1 Q h2) fun C =>
gb a false (evFa 2 b) fun t =>
gb a false (evLd false 1 t h2) fun L =>
gb a false (yu 9 C L) fun x =>
gb a false (evFa 0 x) fun v =>
gb a false (evLd false 1 v h2) fun z =>
gb a false (y6 .neq z (.int .i64 32)) fun O =>
ob (yf a (.bool true) O) fun K =>
cnd K
 ((yi h2 (.int .i64 80)))
 ((y1sa j i k G l h2))
def y221 (s : St) : OX := yjg (s 1) (s 3) (s 136) (s 137) (s 138) s.h
theorem y1nk : T1 y12e y9g (y5 6 y8h xN) [.t 2] y221 := sq y1ir fun _ => by kernel_rfl
def y1mg (b c g e a d : AV) (h : Heap) : OX :=
cnd d
 ((yjg b c g e a h))
 ((y1rr h))
def y21i (s : St) : OX := y1mg (s 1) (s 3) (s 136) (s 137) (s 138) (s 139) s.h
theorem y1km : T1 y12k y9g (y5 6 y8h xN) [.t 2] y21i := sq y1nk fun _ => by kernel_rfl
def y1my (c d g b a : AV) (h : Heap) : OX :=
ob (y6 .lss a b) fun e =>
(y1mg c d g b a e h)
def y23t (s : St) : OX := y1my (s 1) (s 3) (s 136) (s 137) (s 138) s.h
theorem y1mf : T1 y1c3 y9g (y5 6 y8h xN) [.t 2] y23t := sq y1km fun _ => by kernel_rfl
theorem ymz (b c e d a : AV) (h : Heap) : ygl b c e d a h = (y1my b c e d a h) :=
  y2b.trans ((y1m _ _ _ (n' := y9g) (fun s => ymf s)).trans ((y1mf _).trans (by kernel_rfl)))
theorem y1lb : T1 y1b2 y8h xN [.t 2] y9g := fun s => yw.trans (ymf s)
def y12g (a d : AV) (h : Heap) : OX :=
ob (evFa 4 a) fun c =>
ob (evLd false 1 c h) fun b =>
ob (y12 1 b h) fun e =>
(ygl a d b e (.int .i64 0) h)
def y48 (s : St) : OX := y12g (s 1) (s 3) s.h
theorem y1jr : T1 y16f y8h xN [.t 2] y48 := sq y1lb fun _ => by kernel_rfl
theorem y1nm : T0 y0d [.t 2] y48 := sq y1ou y1jr
def ybz (b d a c e : AV) (h : Heap) : OX :=
  W E 0 yfn ⟨[(1, b), (3, d), (92, a), (93, c), (94, e)], h⟩ y48 (y5 4 y48 xN) (finP [.t 2])
def y6n (s : St) : OX := ybz (s 1) (s 3) (s 92) (s 93) (s 94) s.h
theorem yh7 : T1 yfn y48 (y5 4 y48 xN) [.t 2] y6n := fun s => yp.trans (by kernel_rfl)
def ype (b e a d g : AV) (h : Heap) : OX :=
ob (y6 .add g (.int .i64 1)) fun c =>
(ybz b e a d c h)
def y83 (s : St) : OX := ype (s 1) (s 3) (s 92) (s 93) (s 94) s.h
theorem y1ab : T1 yts y6n (y5 4 y48 xN) [.t 2] y83 := fun _ => by kernel_rfl
def y97 (e m i g p M I : AV) (h : Heap) : OX :=
ob (evFa 0 g) fun w =>
ob (evLd false 1 w h) fun K =>
ob (y6 .eql K (.int .i64 32)) fun d =>
gb d true (some i) fun x =>
gb d true (y6 .eql x (.int .i64 0)) fun J =>
gb d true (some J) fun a =>
gb a false (evFa 3 e) fun O =>
gb a false (evLd false 1 O h) fun l =>
gb a false (some i) fun t =>
gb a false (y6 .sub t (.int .i64 1)) fun B =>
gb a false (yu 9 l B) fun N =>
gb a false (evLd true 9 N h) fun L =>
gh a false (y9 E (yb E) 0 none true 24 [L] h) h fun F h3 =>
gb a false (evUn .not F) fun v =>
gb d true (yf a (.bool true) v) fun y =>
ob (yf d y (.bool false)) fun c =>
gb c false (evLd true 9 g h3) fun u =>
gh c false (y9 E (yb E) 0 none true 22 [u] h3) h3 fun H h4 =>
gb c false (some H) fun b =>
gb b true (evFa 3 e) fun D =>
gb b true (evLd false 1 D h4) fun G =>
gb b true (evFa 6 g) fun n =>
gb b true (evLd false 1 n h4) fun A =>
gb b true (yu 9 G A) fun k =>
gb b true (evFa 0 k) fun j =>
gb b true (evLd false 1 j h4) fun z =>
gb b true (y6 .eql z (.int .i64 32)) fun o =>
gb c false (yf b o (.bool false)) fun r =>
ob (yf c (.bool true) r) fun C =>
cnd C
 ((yi h4 (.int .i64 80)))
 ((ype e m p M I h4))
def y1vz (s : St) : OX := y97 (s 1) (s 3) (s 8) (s 9) (s 92) (s 93) (s 94) s.h
theorem y1dc : T1 ypk y83 (y5 5 y83 (y5 4 y48 xN)) [.t 2] y1vz := fun _ => by kernel_rfl
def yue (a k d b c g l : AV) (h : Heap) : OX :=
ob (evLd true 5 a h) fun i =>
ob (evLd true 9 b h) fun m =>
oh (y9 E (yb E) 0 none true 63 [i, m] h) fun j h5 =>
ob (evUn .not j) fun e =>
cnd e
 ((yi h5 (.int .i64 80)))
 ((y97 a k d b c g l h5))
def y1yl (s : St) : OX := yue (s 1) (s 3) (s 8) (s 9) (s 92) (s 93) (s 94) s.h
theorem y140 : T1 yrx y83 (y5 5 y83 (y5 4 y48 xN)) [.t 2] y1yl := sq y1dc fun _ => by kernel_rfl
def ykp (d g b e a : AV) (h : Heap) : OX :=
ob (yu 9 b a) fun i =>
ob (evLd true 9 i h) fun j =>
oh (newC 0 (some 1) [(.int .i64 0), (.int .i64 0), (.int .i64 0), (.int .i64 0), (.int .i64 0), (.int .i64 0), (.int .i64 0), (.str []), .nils] h) fun c h6 =>
oh (evSt 9 c j h6) fun _ h7 =>
(yue d g a c b e a h7)
def yor (s : St) : OX := ykp (s 1) (s 3) (s 92) (s 93) (s 94) s.h
theorem y1ey : T1 yq1 y83 (y5 5 y83 (y5 4 y48 xN)) [.t 2] yor := sq y140 fun _ => by kernel_rfl
theorem y1dq : T1 yvh y83 (y5 4 y48 xN) [.t 2] yor := fun s => yw.trans (y1ey s)
theorem y19p : T1 ywi y6n (y5 4 y48 xN) [.t 2] yor := sq y1ab y1dq
def yrh (a b c e g d : AV) (h : Heap) : OX :=
cnd d
 ((ykp a b c e g h))
 ((y12g a b h))
def y1sl (s : St) : OX := yrh (s 1) (s 3) (s 92) (s 93) (s 94) (s 95) s.h
theorem y198 : T1 yxl y6n (y5 4 y48 xN) [.t 2] y1sl := sq y19p fun _ => by kernel_rfl
def yre (d g c a b : AV) (h : Heap) : OX :=
ob (y6 .lss b a) fun e =>
(yrh d g c a b e h)
def y1wo (s : St) : OX := yre (s 1) (s 3) (s 92) (s 93) (s 94) s.h
theorem y0b : T1 yqt y6n (y5 4 y48 xN) [.t 2] y1wo := sq y198 fun _ => by kernel_rfl
theorem yii (b d a c e : AV) (h : Heap) : ybz b d a c e h = (yre b d a c e h) :=
  y2b.trans ((y1m _ _ _ (n' := y6n) (fun s => yh7 s)).trans ((y0b _).trans (by kernel_rfl)))
theorem y19o : T1 yqf y48 xN [.t 2] y6n := fun s => yw.trans (yh7 s)
def ym4 (b e : AV) (h : Heap) : OX :=
ob (evFa 3 b) fun c =>
ob (evLd false 1 c h) fun a =>
ob (y12 1 a h) fun d =>
(ybz b e a d (.int .i64 0) h)
def y44 (s : St) : OX := ym4 (s 1) (s 3) s.h
theorem y19a : T1 yxk y48 xN [.t 2] y44 := sq y19o fun _ => by kernel_rfl
theorem y18s : T0 yvy [.t 2] y44 := sq y1nm y19a
def ybl (a e b c d : AV) (h : Heap) : OX :=
  W E 0 yfb ⟨[(1, a), (3, e), (62, b), (63, c), (64, d)], h⟩ y44 (y5 2 y44 xN) (finP [.t 2])
def y6f (s : St) : OX := ybl (s 1) (s 3) (s 62) (s 63) (s 64) s.h
theorem ygv : T1 yfb y44 (y5 2 y44 xN) [.t 2] y6f := fun s => yp.trans (by kernel_rfl)
def y0j (a g b c e : AV) (h : Heap) : OX :=
ob (y6 .add e (.int .i64 1)) fun d =>
(ybl a g b c d h)
def y1tc (s : St) : OX := y0j (s 1) (s 3) (s 62) (s 63) (s 64) s.h
theorem y1b5 : T1 yqv y6f (y5 2 y44 xN) [.t 2] y1tc := fun _ => by kernel_rfl
def yfq (d o i y c : AV) (h : Heap) : OX :=
ob (yu 1 i c) fun r =>
ob (evLd false 1 r h) fun e =>
ob (y6 .lss e (.int .i64 0)) fun b =>
gb b false (some e) fun w =>
gb b false (evFa 0 d) fun B =>
gb b false (evLd false 1 B h) fun k =>
gb b false (y12 1 k h) fun v =>
gb b false (y6 .geq w v) fun j =>
ob (yf b (.bool true) j) fun a =>
gb a false (evFa 1 d) fun t =>
gb a false (evLd false 1 t h) fun p =>
gb a false (some c) fun z =>
gb a false (y9f 1 p none (some z)) fun x =>
gb a false (some e) fun m =>
gh a false (y9 E (yb E) 0 none true 46 [x, m] h) h fun l h8 =>
ob (yf a (.bool true) l) fun g =>
gb g false (some c) fun A =>
gb g false (y6 .gtr A (.int .i64 20)) fun u =>
ob (yf g (.bool true) u) fun n =>
cnd n
 ((yi h8 (.int .i64 80)))
 ((y0j d o i y c h8))
def y1xe (s : St) : OX := yfq (s 1) (s 3) (s 62) (s 63) (s 64) s.h
theorem y15k : T1 ywq y6f (y5 2 y44 xN) [.t 2] y1xe := sq y1b5 fun _ => by kernel_rfl
def yrl (a b c d e g : AV) (h : Heap) : OX :=
cnd g
 ((yfq a b c d e h))
 ((ym4 a b h))
def y1y4 (s : St) : OX := yrl (s 1) (s 3) (s 62) (s 63) (s 64) (s 65) s.h
theorem y0c : T1 ypz y6f (y5 2 y44 xN) [.t 2] y1y4 := sq y15k fun _ => by kernel_rfl
def yvp (c e d a b : AV) (h : Heap) : OX :=
ob (y6 .lss b a) fun g =>
(yrl c e d a b g h)
def y1rn (s : St) : OX := yvp (s 1) (s 3) (s 62) (s 63) (s 64) s.h
theorem y17r : T1 yu6 y6f (y5 2 y44 xN) [.t 2] y1rn := sq y0c fun _ => by kernel_rfl
theorem yil (a e b c d : AV) (h : Heap) : ybl a e b c d h = (yvp a e b c d h) :=
  y2b.trans ((y1m _ _ _ (n' := y6f) (fun s => ygv s)).trans ((y17r _).trans (by kernel_rfl)))
theorem y14e : T1 yt9 y44 xN [.t 2] y6f := fun s => yw.trans (ygv s)
def yl5 (a e : AV) (h : Heap) : OX :=
ob (evFa 1 a) fun c =>
ob (evLd false 1 c h) fun b =>
ob (y12 1 b h) fun d =>
(ybl a e b d (.int .i64 0) h)
def y45 (s : St) : OX := yl5 (s 1) (s 3) s.h
theorem y16k : T1 ytk y44 xN [.t 2] y45 := sq y14e fun _ => by kernel_rfl
theorem y1d0 : T0 yw0 [.t 2] y45 := sq y18s y16k
def yb9 (a e b d c : AV) (h : Heap) : OX :=
  W E 0 yg6 ⟨[(1, a), (3, e), (48, b), (49, d), (50, c)], h⟩ y45 (y5 0 y45 xN) (finP [.t 2])
def y6b (s : St) : OX := yb9 (s 1) (s 3) (s 48) (s 49) (s 50) s.h
theorem yhw : T1 yg6 y45 (y5 0 y45 xN) [.t 2] y6b := fun s => yp.trans (by kernel_rfl)
def y183 (a g b e c : AV) (h : Heap) : OX :=
ob (y6 .add c (.int .i64 1)) fun d =>
(yb9 a g b e d h)
def y1tz (s : St) : OX := y183 (s 1) (s 3) (s 48) (s 49) (s 50) s.h
theorem y1fs : T1 ysx y6b (y5 0 y45 xN) [.t 2] y1tz := fun _ => by kernel_rfl
def yl4 (g m b l c : AV) (h : Heap) : OX :=
ob (yu 1 b c) fun j =>
ob (evLd false 1 j h) fun d =>
ob (y6 .lss d (.int .i64 1)) fun a =>
gb a false (some d) fun e =>
gb a false (y6 .gtr e (.int .i64 3)) fun i =>
ob (yf a (.bool true) i) fun k =>
cnd k
 ((yi h (.int .i64 80)))
 ((y183 g m b l c h))
def y1y9 (s : St) : OX := yl4 (s 1) (s 3) (s 48) (s 49) (s 50) s.h
theorem y0h : T1 ywc y6b (y5 0 y45 xN) [.t 2] y1y9 := sq y1fs fun _ => by kernel_rfl
def ytw (a b d g e c : AV) (h : Heap) : OX :=
cnd c
 ((yl4 a b d g e h))
 ((yl5 a b h))
def y1tk (s : St) : OX := ytw (s 1) (s 3) (s 48) (s 49) (s 50) (s 51) s.h
theorem y1ea : T1 yta y6b (y5 0 y45 xN) [.t 2] y1tk := sq y0h fun _ => by kernel_rfl
def yps (c g e b a : AV) (h : Heap) : OX :=
ob (y6 .lss a b) fun d =>
(ytw c g e b a d h)
def y1r6 (s : St) : OX := yps (s 1) (s 3) (s 48) (s 49) (s 50) s.h
theorem y0q : T1 ypi y6b (y5 0 y45 xN) [.t 2] y1r6 := sq y1ea fun _ => by kernel_rfl
theorem yhl (a e b d c : AV) (h : Heap) : yb9 a e b d c h = (yps a e b d c h) :=
  y2b.trans ((y1m _ _ _ (n' := y6b) (fun s => yhw s)).trans ((y0q _).trans (by kernel_rfl)))
theorem y1d1 : T1 ysn y45 xN [.t 2] y6b := fun s => yw.trans (yhw s)
def ygm (a d : AV) (h : Heap) : OX :=
ob (evFa 0 a) fun e =>
ob (evLd false 1 e h) fun b =>
ob (y12 1 b h) fun c =>
(yb9 a d b c (.int .i64 0) h)
def y19j (s : St) : OX := ygm (s 1) (s 3) s.h
theorem y1cs : T1 yw7 y45 xN [.t 2] y19j := sq y1d1 fun _ => by kernel_rfl
theorem y1gm : T0 yu0 [.t 2] y19j := sq y1d0 y1cs
def ya3 (b d : AV) (h : Heap) : OX :=
ob (y6 .lss d (.int .i64 1)) fun i =>
gb i false (some d) fun C =>
gb i false (y6 .gtr C (.int .i64 20000)) fun u =>
ob (yf i (.bool true) u) fun c =>
gb c false (evFa 0 b) fun F =>
gb c false (evLd false 1 F h) fun B =>
gb c false (y12 1 B h) fun k =>
gb c false (y6 .gtr k (.int .i64 20000)) fun z =>
ob (yf c (.bool true) z) fun g =>
gb g false (evFa 2 b) fun r =>
gb g false (evLd false 1 r h) fun j =>
gb g false (y6 .lss j (.int .i64 0)) fun m =>
ob (yf g (.bool true) m) fun e =>
gb e false (evFa 2 b) fun v =>
gb e false (evLd false 1 v h) fun p =>
gb e false (y6 .gtr p (.int .i64 3)) fun l =>
ob (yf e (.bool true) l) fun a =>
gb a false (evFa 3 b) fun G =>
gb a false (evLd false 1 G h) fun w =>
gb a false (some d) fun D =>
gb a false (y6 .sub D (.int .i64 1)) fun y =>
gb a false (yu 9 w y) fun o =>
gb a false (evLd true 9 o h) fun t =>
gh a false (y9 E (yb E) 0 none true 24 [t] h) h fun A h9 =>
gb a false (evUn .not A) fun n =>
ob (yf a (.bool true) n) fun x =>
cnd x
 ((yi h9 (.int .i64 80)))
 ((ygm b d h9))
def y1wz (s : St) : OX := ya3 (s 1) (s 3) s.h
theorem y1bs : T0 yrs [.t 2] y1wz := sq y1gm fun _ => by kernel_rfl
def yax (a : AV) (h : Heap) : OX :=
ob (evFa 3 a) fun b =>
ob (evLd false 1 b h) fun c =>
ob (y12 1 c h) fun d =>
(ya3 a d h)
def y1x8 (s : St) : OX := yax (s 1) s.h
theorem y1go : T0 yv2 [.t 2] y1x8 := sq y1bs fun _ => by kernel_rfl
def y96 (b : AV) (h : Heap) : OX :=
oh (newC 0 (some 0) (cellsOf b) h) fun a h10 =>
(yax a h10)
def y1wg (s : St) : OX := y96 (s 0) s.h
theorem y19y : T0 yxf [.t 2] y1wg := sq y1go fun _ => by kernel_rfl
@[simp] theorem y28z : E.pure 8 = true := rfl
theorem y27n (a : AV) : (yb E).p 8 [a] = y96 a [⟨0, .dead⟩, ⟨0, .dead⟩, ⟨0, .dead⟩] :=
  (y17 (cf := y1zs) (by kernel_rfl) rfl).trans ((y19y _).trans (by kernel_rfl))
def y18v (a b : AV) (h : Heap) : OX :=
ob (evLd true 5 b h) fun c =>
oh (evSt 5 a c h) fun _ h1 =>
(ob (evLd true 5 a h1) fun r0 =>
  yi h1 r0)
def y8r (s : St) : OX := y18v (s 2) (s 9) s.h
theorem y1m0 : T0 y127 [.cell 2 true 5] y8r := fun _ => by kernel_rfl
def yl9 (b i g d c e a : AV) (h : Heap) : OX :=
  W E 0 yji ⟨[(2, b), (3, i), (6, g), (9, d), (102, c), (103, e), (104, a)], h⟩ y8r (y5 6 y8r xN) (finP [.cell 2 true 5])
def y9s (s : St) : OX := yl9 (s 2) (s 3) (s 6) (s 9) (s 102) (s 103) (s 104) s.h
theorem ylm : T1 yji y8r (y5 6 y8r xN) [.cell 2 true 5] y9s := fun s => yp.trans (by kernel_rfl)
def yz8 (b j i e c g a : AV) (h : Heap) : OX :=
ob (y6 .add a (.int .i64 1)) fun d =>
(yl9 b j i e c g d h)
def y241 (s : St) : OX := yz8 (s 2) (s 3) (s 6) (s 9) (s 102) (s 103) (s 104) s.h
theorem y1m3 : T1 y1a7 y9s (y5 6 y8r xN) [.cell 2 true 5] y241 := fun _ => by kernel_rfl
def yyb (n e c d g o i : AV) (h : Heap) : OX :=
ob (yu 4 g i) fun L =>
ob (evLd true 4 L h) fun J =>
oh (newC 0 (some 9) [(.int .i64 0), (.int .i64 0), (.int .i64 0), (.str [])] h) fun b h2 =>
oh (evSt 4 b J h2) fun _ h3 =>
ob (evFa 2 b) fun z =>
ob (evLd false 1 z h3) fun a0 =>
ob (yu 1 e a0) fun B =>
ob (evLd false 1 B h3) fun a =>
gb a true (some c) fun Z =>
gb a true (evFa 0 b) fun Y =>
gb a true (evLd false 1 Y h3) fun R =>
gb a true (yu 1 Z R) fun I =>
gb a true (evLd false 1 I h3) fun K =>
gb a true (some c) fun Q =>
gb a true (evFa 1 b) fun A =>
gb a true (evLd false 1 A h3) fun G =>
gb a true (yu 1 Q G) fun U =>
gb a true (evLd false 1 U h3) fun O =>
gb a true (y6 .lss K O) fun P =>
ob (yf a P (.bool false)) fun S =>
cnd S
 (ob (evFa 4 d) fun k =>
ob (evLd false 1 k h3) fun r =>
ob (evFa 0 b) fun j =>
ob (evLd false 1 j h3) fun M =>
ob (yu 1 c M) fun l =>
ob (evLd false 1 l h3) fun D =>
ob (evFa 1 b) fun w =>
ob (evLd false 1 w h3) fun y =>
ob (yu 1 c y) fun m =>
ob (evLd false 1 m h3) fun N =>
ob (evFa 2 b) fun x =>
ob (evLd false 1 x h3) fun C =>
ob (yu 1 c C) fun p =>
ob (evLd false 1 p h3) fun H =>
ob (evFa 3 b) fun t =>
ob (evLd false 1 t h3) fun V =>
ob (yd [(.int .i64 0), (.int .i64 0), (.int .i64 0), (.str [])] [(0, 1, D), (1, 1, N), (2, 1, H), (3, 1, V)]) fun X =>
oh (ym 0 (some 10) 4 1 [(.int .i64 0), (.int .i64 0), (.int .i64 0), (.str [])] [(0, X)] h3) fun u h4 =>
oh (y26 0 (some 11) 4 40 r u h4) fun F h5 =>
ob (evFa 4 d) fun v =>
oh (evSt 1 v F h5) fun _ h6 =>
okK (yz [([], []), (ids1 k, []), ([], []), ([], []), (ids1 j, []), ([], []), (ids1 l, []), ([], []), ([], []), (ids1 w, []), ([], []), (ids1 m, []), ([], []), ([], []), (ids1 x, []), ([], []), (ids1 p, []), ([], []), (ids1 t, []), ([], []), ([], [0 + 10]), (ids1 u, ids1 r ++ [0 + 11]), ([], []), ([], ids1 v)] [(1, 20)]) <|
(yz8 n e c d g o i h6))
 ((yz8 n e c d g o i h3))
def y24b (s : St) : OX := yyb (s 2) (s 3) (s 6) (s 9) (s 102) (s 103) (s 104) s.h
theorem y1kn : T1 y1bu y9s (y5 6 y8r xN) [.cell 2 true 5] y24b := sq y1m3 fun _ => by kernel_rfl
def y1k3 (a j i b d g c e : AV) (h : Heap) : OX :=
cnd e
 ((yyb a j i b d g c h))
 ((y18v a b h))
def y234 (s : St) : OX := y1k3 (s 2) (s 3) (s 6) (s 9) (s 102) (s 103) (s 104) (s 105) s.h
theorem y1lu : T1 y14w y9s (y5 6 y8r xN) [.cell 2 true 5] y234 := sq y1kn fun _ => by kernel_rfl
def y1gg (c j i g d b a : AV) (h : Heap) : OX :=
ob (y6 .lss a b) fun e =>
(y1k3 c j i g d b a e h)
def y242 (s : St) : OX := y1gg (s 2) (s 3) (s 6) (s 9) (s 102) (s 103) (s 104) s.h
theorem y1ng : T1 y1f7 y9s (y5 6 y8r xN) [.cell 2 true 5] y242 := sq y1lu fun _ => by kernel_rfl
theorem yks (b i g d c e a : AV) (h : Heap) : yl9 b i g d c e a h = (y1gg b i g d c e a h) :=
  y2b.trans ((y1m _ _ _ (n' := y9s) (fun s => ylm s)).trans ((y1ng _).trans (by kernel_rfl)))
theorem y1ne : T1 y16g y8r xN [.cell 2 true 5] y9s := fun s => yw.trans (ylm s)
def yzg (c b j i d : AV) (h : Heap) : OX :=
ob (evFa 4 c) fun e =>
ob (evLd false 1 e h) fun a =>
ob (y12 1 a h) fun g =>
(yl9 b j i d a g (.int .i64 0) h)
def y3z (s : St) : OX := yzg (s 1) (s 2) (s 3) (s 6) (s 9) s.h
theorem y1hn : T1 y14p y8r xN [.cell 2 true 5] y3z := sq y1ne fun _ => by kernel_rfl
theorem y1k2 : T0 y1as [.cell 2 true 5] y3z := sq y1m0 y1hn
def yek (b a i g e j c d : AV) (h : Heap) : OX :=
  W E 0 ydx ⟨[(1, b), (2, a), (3, i), (6, g), (9, e), (73, j), (74, c), (75, d)], h⟩ y3z (y5 4 y3z xN) (finP [.cell 2 true 5])
def y66 (s : St) : OX := yek (s 1) (s 2) (s 3) (s 6) (s 9) (s 73) (s 74) (s 75) s.h
theorem yhf : T1 ydx y3z (y5 4 y3z xN) [.cell 2 true 5] y66 := fun s => yp.trans (by kernel_rfl)
def ymj (b a j i g k c d : AV) (h : Heap) : OX :=
ob (y6 .add d (.int .i64 1)) fun e =>
(yek b a j i g k c e h)
def y5e (s : St) : OX := ymj (s 1) (s 2) (s 3) (s 6) (s 9) (s 73) (s 74) (s 75) s.h
theorem y11a : T1 ytj y66 (y5 4 y3z xN) [.cell 2 true 5] y5e := fun _ => by kernel_rfl
def ykk (c b m l a e p d g : AV) (h : Heap) : OX :=
ob (evFa 3 a) fun n =>
ob (evLd false 1 n h) fun i =>
ob (evLd true 9 e h) fun k =>
oh (ym 0 (some 7) 9 1 [(.int .i64 0), (.int .i64 0), (.int .i64 0), (.int .i64 0), (.int .i64 0), (.int .i64 0), (.int .i64 0), (.str []), .nils] [(0, k)] h) fun o h7 =>
oh (y26 0 (some 8) 9 96 i o h7) fun r h8 =>
ob (evFa 3 a) fun j =>
oh (evSt 1 j r h8) fun _ h9 =>
(ymj c b m l a p d g h9)
def y1wb (s : St) : OX := ykk (s 1) (s 2) (s 3) (s 6) (s 9) (s 11) (s 73) (s 74) (s 75) s.h
theorem y1f0 : T1 yrq y5e (y5 5 y5e (y5 4 y3z xN)) [.cell 2 true 5] y1wb := fun _ => by kernel_rfl
def yi9 (d c j b i a k e g : AV) (h : Heap) : OX :=
ob (evLd true 9 a h) fun p =>
oh (y9 E (yb E) 0 none true 22 [p] h) fun r h10 =>
cnd r
 (ob (evFa 6 a) fun m =>
ob (evLd false 1 m h10) fun u =>
ob (yu 1 b u) fun t =>
ob (evLd false 1 t h10) fun n =>
ob (evFa 6 a) fun l =>
oh (evSt 1 l n h10) fun _ h11 =>
(ykk d c j b i a k e g h11))
 (ob (evFa 6 a) fun o =>
oh (evSt 1 o (.int .i64 0) h10) fun _ h12 =>
(ykk d c j b i a k e g h12))
def y1ts (s : St) : OX := yi9 (s 1) (s 2) (s 3) (s 6) (s 9) (s 11) (s 73) (s 74) (s 75) s.h
theorem y0a : T1 yt8 y5e (y5 5 y5e (y5 4 y3z xN)) [.cell 2 true 5] y1ts := sq y1f0 fun _ => by kernel_rfl
def yia (c b a i g m k j d e : AV) (h : Heap) : OX :=
ob (yu 1 a m) fun n =>
ob (evLd false 1 n h) fun o =>
ob (evUn .not o) fun l =>
cnd l
 ((ymj c b a i g j d e h))
 ((yi9 c b a i g k j d e h))
def y1xy (s : St) : OX := yia (s 1) (s 2) (s 3) (s 6) (s 9) (s 10) (s 11) (s 73) (s 74) (s 75) s.h
theorem y0s : T1 yxy y5e (y5 5 y5e (y5 4 y3z xN)) [.cell 2 true 5] y1xy := sq y0a fun _ => by kernel_rfl
def y19i (e d l k j c g a : AV) (h : Heap) : OX :=
ob (yu 9 c a) fun i =>
ob (evLd true 9 i h) fun m =>
oh (newC 0 (some 6) [(.int .i64 0), (.int .i64 0), (.int .i64 0), (.int .i64 0), (.int .i64 0), (.int .i64 0), (.int .i64 0), (.str []), .nils] h) fun b h13 =>
oh (evSt 9 b m h13) fun _ h14 =>
(yia e d l k j a b c g a h14)
def yos (s : St) : OX := y19i (s 1) (s 2) (s 3) (s 6) (s 9) (s 73) (s 74) (s 75) s.h
theorem y1e0 : T1 ypt y5e (y5 5 y5e (y5 4 y3z xN)) [.cell 2 true 5] yos := sq y0s fun _ => by kernel_rfl
theorem y121 : T1 ywg y5e (y5 4 y3z xN) [.cell 2 true 5] yos := fun s => yw.trans (y1e0 s)
theorem y1fb : T1 yvu y66 (y5 4 y3z xN) [.cell 2 true 5] yos := sq y11a y121
def yvb (b a e d c k i j g : AV) (h : Heap) : OX :=
cnd g
 ((y19i b a e d c k i j h))
 ((yzg b a e d c h))
def y1u2 (s : St) : OX := yvb (s 1) (s 2) (s 3) (s 6) (s 9) (s 73) (s 74) (s 75) (s 76) s.h
theorem y18b : T1 yv3 y66 (y5 4 y3z xN) [.cell 2 true 5] y1u2 := sq y1fb fun _ => by kernel_rfl
def ykj (e d j i g k a b : AV) (h : Heap) : OX :=
ob (y6 .lss b a) fun c =>
(yvb e d j i g k a b c h)
def y1uf (s : St) : OX := ykj (s 1) (s 2) (s 3) (s 6) (s 9) (s 73) (s 74) (s 75) s.h
theorem y15z : T1 ywe y66 (y5 4 y3z xN) [.cell 2 true 5] y1uf := sq y18b fun _ => by kernel_rfl
theorem yim (b a i g e j c d : AV) (h : Heap) : yek b a i g e j c d h = (ykj b a i g e j c d h) :=
  y2b.trans ((y1m _ _ _ (n' := y66) (fun s => yhf s)).trans ((y15z _).trans (by kernel_rfl)))
theorem y1d4 : T1 yua y3z xN [.cell 2 true 5] y66 := fun s => yw.trans (yhf s)
def y1b6 (a c j i g : AV) (h : Heap) : OX :=
ob (evFa 3 a) fun e =>
ob (evLd false 1 e h) fun b =>
ob (y12 1 b h) fun d =>
(yek a c j i g b d (.int .i64 0) h)
def y19n (s : St) : OX := y1b6 (s 1) (s 2) (s 3) (s 6) (s 9) s.h
theorem y151 : T1 yst y3z xN [.cell 2 true 5] y19n := sq y1d4 fun _ => by kernel_rfl
theorem y12u : T0 yoz [.cell 2 true 5] y19n := sq y1k2 y151
def ygy (a c j g : AV) (h : Heap) : OX :=
ob (evFa 0 a) fun l =>
ob (evLd false 1 l h) fun k =>
ob (evFa 1 a) fun n =>
ob (evLd false 1 n h) fun e =>
ob (evFa 2 a) fun m =>
ob (evLd false 1 m h) fun i =>
ob (yd [.nils, .nils, (.int .i64 0), .nils, .nils] [(0, 1, k), (1, 1, e), (2, 1, i)]) fun d =>
oh (newC 0 (some 5) [.nils, .nils, (.int .i64 0), .nils, .nils] h) fun b h15 =>
oh (evSt 5 b d h15) fun _ h16 =>
(y1b6 a c j g b h16)
def y1wa (s : St) : OX := ygy (s 1) (s 2) (s 3) (s 6) s.h
theorem y1dv : T0 yru [.cell 2 true 5] y1wa := sq y12u fun _ => by kernel_rfl
def y16o (a d k b e : AV) (h : Heap) : OX :=
ob (evFa 3 a) fun i =>
ob (evLd false 1 i h) fun c =>
ob (y12 1 c h) fun g =>
ob (yu 1 b g) fun j =>
oh (evSt 1 j e h) fun _ h17 =>
(ygy a d k b h17)
def y4z (s : St) : OX := y16o (s 1) (s 2) (s 3) (s 6) (s 7) s.h
theorem y0e : T0 yuk [.cell 2 true 5] y4z := sq y1dv fun _ => by kernel_rfl
def ydy (b a i d c e g : AV) (h : Heap) : OX :=
  W E 0 yfh ⟨[(1, b), (2, a), (3, i), (6, d), (7, c), (44, e), (45, g)], h⟩ y4z (y5 2 y4z xN) (finP [.cell 2 true 5])
def y64 (s : St) : OX := ydy (s 1) (s 2) (s 3) (s 6) (s 7) (s 44) (s 45) s.h
theorem yij : T1 yfh y4z (y5 2 y4z xN) [.cell 2 true 5] y64 := fun s => yp.trans (by kernel_rfl)
def yef (b a j e d g i : AV) (h : Heap) : OX :=
ob (y6 .add i (.int .i64 1)) fun c =>
(ydy b a j e d g c h)
def y1u7 (s : St) : OX := yef (s 1) (s 2) (s 3) (s 6) (s 7) (s 44) (s 45) s.h
theorem y1ci : T1 ywa y64 (y5 2 y4z xN) [.cell 2 true 5] y1u7 := fun _ => by kernel_rfl
def y14b (g e d c b i a : AV) (h : Heap) : OX :=
ob (yu 1 c a) fun l =>
oh (evSt 1 l b h) fun _ h18 =>
ob (yu 1 d a) fun k =>
ob (evLd false 1 k h18) fun m =>
cnd m
 (ob (y6 .add b (.int .i64 1)) fun j =>
(yef g e d c j i a h18))
 ((yef g e d c b i a h18))
def y1wn (s : St) : OX := y14b (s 1) (s 2) (s 3) (s 6) (s 7) (s 44) (s 45) s.h
theorem y1cn : T1 yxa y64 (y5 2 y4z xN) [.cell 2 true 5] y1wn := sq y1ci fun _ => by kernel_rfl
def yrj (b a e d c i j g : AV) (h : Heap) : OX :=
cnd g
 ((y14b b a e d c i j h))
 ((y16o b a e d c h))
def y1sz (s : St) : OX := yrj (s 1) (s 2) (s 3) (s 6) (s 7) (s 44) (s 45) (s 46) s.h
theorem y13s : T1 yw9 y64 (y5 2 y4z xN) [.cell 2 true 5] y1sz := sq y1cn fun _ => by kernel_rfl
def yl0 (d c j i e a b : AV) (h : Heap) : OX :=
ob (y6 .lss b a) fun g =>
(yrj d c j i e a b g h)
def y1sv (s : St) : OX := yl0 (s 1) (s 2) (s 3) (s 6) (s 7) (s 44) (s 45) s.h
theorem y1hc : T1 yub y64 (y5 2 y4z xN) [.cell 2 true 5] y1sv := sq y13s fun _ => by kernel_rfl
theorem yhv (b a i d c e g : AV) (h : Heap) : ydy b a i d c e g h = (yl0 b a i d c e g h) :=
  y2b.trans ((y1m _ _ _ (n' := y64) (fun s => yij s)).trans ((y1hc _).trans (by kernel_rfl)))
theorem y1bj : T1 ywm y4z xN [.cell 2 true 5] y64 := fun s => yw.trans (yij s)
def y15p (a b i e c : AV) (h : Heap) : OX :=
ob (evFa 3 a) fun j =>
ob (evLd false 1 j h) fun d =>
ob (y12 1 d h) fun g =>
(ydy a b i e c g (.int .i64 0) h)
def y1d7 (s : St) : OX := y15p (s 1) (s 2) (s 3) (s 6) (s 7) s.h
theorem y1fh : T1 yqa y4z xN [.cell 2 true 5] y1d7 := sq y1bj fun _ => by kernel_rfl
theorem y19b : T0 yw5 [.cell 2 true 5] y1d7 := sq y0e y1fh
def y1dy (c b a d : AV) (h : Heap) : OX :=
(y15p c b a d (.int .i64 0) h)
def y1ub (s : St) : OX := y1dy (s 1) (s 2) (s 3) (s 6) s.h
theorem y12c : T0 yvf [.cell 2 true 5] y1ub := sq y19b fun _ => by kernel_rfl
def yhc (a c j : AV) (h : Heap) : OX :=
ob (evFa 3 a) fun g =>
ob (evLd false 1 g h) fun d =>
ob (y12 1 d h) fun e =>
ob (y6 .add e (.int .i64 1)) fun b =>
oh (mkSC 0 (some 4) 1 8 [(.int .i64 0)] b b h) fun i h19 =>
(y1dy a c j i h19)
def y4s (s : St) : OX := yhc (s 1) (s 2) (s 3) s.h
theorem y1aq : T0 yul [.cell 2 true 5] y4s := sq y12c fun _ => by kernel_rfl
def ydn (b a e g c d : AV) (h : Heap) : OX :=
  W E 0 ye6 ⟨[(1, b), (2, a), (3, e), (23, g), (24, c), (25, d)], h⟩ y4s (y5 0 y4s xN) (finP [.cell 2 true 5])
def y62 (s : St) : OX := ydn (s 1) (s 2) (s 3) (s 23) (s 24) (s 25) s.h
theorem ygx : T1 ye6 y4s (y5 0 y4s xN) [.cell 2 true 5] y62 := fun s => yp.trans (by kernel_rfl)
def yhp (b a g i d e : AV) (h : Heap) : OX :=
ob (y6 .add e (.int .i64 1)) fun c =>
(ydn b a g i d c h)
def y1x2 (s : St) : OX := yhp (s 1) (s 2) (s 3) (s 23) (s 24) (s 25) s.h
theorem y14r : T1 yt2 y62 (y5 0 y4s xN) [.cell 2 true 5] y1x2 := fun _ => by kernel_rfl
def yqr (e d b c i a : AV) (h : Heap) : OX :=
ob (yu 9 c a) fun k =>
ob (evLd true 9 k h) fun j =>
oh (newC 0 (some 3) [(.int .i64 0), (.int .i64 0), (.int .i64 0), (.int .i64 0), (.int .i64 0), (.int .i64 0), (.int .i64 0), (.str []), .nils] h) fun g h20 =>
oh (evSt 9 g j h20) fun _ h21 =>
ob (evFa 0 g) fun n =>
ob (evLd false 1 n h21) fun l =>
ob (y6 .eql l (.int .i64 33)) fun o =>
cnd o
 (ob (yu 1 b a) fun m =>
oh (evSt 1 m (.bool false) h21) fun _ h22 =>
(yhp e d b c i a h22))
 ((yhp e d b c i a h21))
def y1wl (s : St) : OX := yqr (s 1) (s 2) (s 3) (s 23) (s 24) (s 25) s.h
theorem y15j : T1 yv5 y62 (y5 0 y4s xN) [.cell 2 true 5] y1wl := sq y14r fun _ => by kernel_rfl
def yls (b a c i d g e : AV) (h : Heap) : OX :=
cnd e
 ((yqr b a c i d g h))
 ((yhc b a c h))
def y1v7 (s : St) : OX := yls (s 1) (s 2) (s 3) (s 23) (s 24) (s 25) (s 26) s.h
theorem y179 : T1 yvl y62 (y5 0 y4s xN) [.cell 2 true 5] y1v7 := sq y15j fun _ => by kernel_rfl
def yh3 (d c g i a b : AV) (h : Heap) : OX :=
ob (y6 .lss b a) fun e =>
(yls d c g i a b e h)
def y1wv (s : St) : OX := yh3 (s 1) (s 2) (s 3) (s 23) (s 24) (s 25) s.h
theorem y13b : T1 ysa y62 (y5 0 y4s xN) [.cell 2 true 5] y1wv := sq y179 fun _ => by kernel_rfl
theorem yiw (b a e g c d : AV) (h : Heap) : ydn b a e g c d h = (yh3 b a e g c d h) :=
  y2b.trans ((y1m _ _ _ (n' := y62) (fun s => ygx s)).trans ((y13b _).trans (by kernel_rfl)))
theorem y1ft : T1 ys7 y4s xN [.cell 2 true 5] y62 := fun s => yw.trans (ygx s)
def y163 (a c g : AV) (h : Heap) : OX :=
ob (evFa 3 a) fun e =>
ob (evLd false 1 e h) fun b =>
ob (y12 1 b h) fun d =>
(ydn a c g b d (.int .i64 0) h)
def y1fn (s : St) : OX := y163 (s 1) (s 2) (s 3) s.h
theorem y129 : T1 yx2 y4s xN [.cell 2 true 5] y1fn := sq y1ft fun _ => by kernel_rfl
theorem y1dx : T0 yt7 [.cell 2 true 5] y1fn := sq y1aq y129
def y1cl (a c : AV) (h : Heap) : OX :=
ob (evLd true 5 a h) fun b =>
oh (y9 E (yb E) 0 (some 2) false 101 [b] h) fun d h23 =>
(y163 a c d h23)
def y1w7 (s : St) : OX := y1cl (s 1) (s 2) s.h
theorem y12f : T0 yq2 [.cell 2 true 5] y1w7 := sq y1dx fun _ => by kernel_rfl
def yin (b a : AV) (h : Heap) : OX :=
ob (evLd true 5 b h) fun g =>
oh (y9 E (yb E) 0 none true 8 [g] h) fun c h24 =>
ob (y6 .neq c (.int .i64 0)) fun d =>
cnd d
 (ob (evLd true 5 b h24) fun e =>
oh (evSt 5 a e h24) fun _ h25 =>
(ob (evLd true 5 a h25) fun r0 =>
  yi h25 r0))
 ((y1cl b a h24))
def y1t6 (s : St) : OX := yin (s 1) (s 2) s.h
theorem y1fp : T0 yxh [.cell 2 true 5] y1t6 := sq y12f fun _ => by kernel_rfl
def y0t (a b : AV) (h : Heap) : OX :=
ob (evLd true 5 a h) fun c =>
oh (y9 E (yb E) 0 none true 13 [c] h) fun d h26 =>
oh (evSt 5 a d h26) fun _ h27 =>
(yin a b h27)
def y1ux (s : St) : OX := y0t (s 1) (s 2) s.h
theorem y12w : T0 yxq [.cell 2 true 5] y1ux := sq y1fp fun _ => by kernel_rfl
def ytf (c : AV) (h : Heap) : OX :=
oh (newC 0 (some 0) (cellsOf c) h) fun a h28 =>
oh (newC 0 (some 1) [.nils, .nils, (.int .i64 0), .nils, .nils] h28) fun b h29 =>
(y0t a b h29)
def y1ua (s : St) : OX := ytf (s 0) s.h
theorem y184 : T0 yuu [.cell 2 true 5] y1ua := sq y12w fun _ => by kernel_rfl
@[simp] theorem y24w : E.pure 100 = true := rfl
theorem y26p (a : AV) : (yb E).p 100 [a] = ytf a [⟨0, .dead⟩, ⟨0, .dead⟩, ⟨0, .dead⟩, ⟨0, .dead⟩, ⟨0, .dead⟩, ⟨0, .dead⟩, ⟨0, .dead⟩, ⟨0, .dead⟩, ⟨0, .dead⟩, ⟨0, .dead⟩, ⟨0, .dead⟩, ⟨0, .dead⟩] :=
  (y17 (cf := y20l) (by kernel_rfl) rfl).trans ((y184 _).trans (by kernel_rfl))
def y1yi (h : Heap) : OX :=
oh (ym 0 (some 0) 1 2 [(.int .i64 0)] [(0, (.int .i64 1)), (1, (.int .i64 3))] h) fun m h1 =>
oh (ym 0 (some 1) 1 1 [(.int .i64 0)] [(0, (.int .i64 1))] h1) fun j h2 =>
ob (yd [(.int .i64 0), (.int .i64 0), (.int .i64 0), (.int .i64 0), (.int .i64 0), (.int .i64 0), (.int .i64 0), (.str []), .nils] [(0, 1, (.int .i64 8)), (2, 1, (.int .i64 1))]) fun u =>
ob (yd [(.int .i64 0), (.int .i64 0), (.int .i64 0), (.int .i64 0), (.int .i64 0), (.int .i64 0), (.int .i64 0), (.str []), .nils] [(0, 1, (.int .i64 15)), (1, 1, (.int .i64 0)), (2, 1, (.int .i64 1))]) fun n =>
ob (yd [(.int .i64 0), (.int .i64 0), (.int .i64 0), (.int .i64 0), (.int .i64 0), (.int .i64 0), (.int .i64 0), (.str []), .nils] [(0, 1, (.int .i64 8)), (2, 1, (.int .i64 1))]) fun G =>
ob (yd [(.int .i64 0), (.int .i64 0), (.int .i64 0), (.int .i64 0), (.int .i64 0), (.int .i64 0), (.int .i64 0), (.str []), .nils] [(0, 1, (.int .i64 30)), (2, 1, (.int .i64 (-1)))]) fun x =>
oh (ym 0 (some 2) 9 4 [(.int .i64 0), (.int .i64 0), (.int .i64 0), (.int .i64 0), (.int .i64 0), (.int .i64 0), (.int .i64 0), (.str []), .nils] [(0, u), (1, n), (2, G), (3, x)] h2) fun d h3 =>
ob (yd [.nils, .nils, (.int .i64 0), .nils, .nils] [(0, 1, m), (1, 1, j), (3, 1, d)]) fun F =>
oh (y9 E (yb E) 0 none true 166 [F] h3) fun r h4 =>
oh (newC 0 (some 3) [.nils, .nils, (.int .i64 0), .nils, .nils] h4) fun c h5 =>
oh (evSt 5 c r h5) fun _ h6 =>
ob (evFa 3 c) fun o =>
ob (evLd false 1 o h6) fun y =>
ob (y12 1 y h6) fun B =>
ob (y6 .eql B (.int .i64 4)) fun a =>
gb a true (evFa 3 c) fun k =>
gb a true (evLd false 1 k h6) fun l =>
gb a true (yu 9 l (.int .i64 0)) fun C =>
gb a true (evFa 0 C) fun v =>
gb a true (evLd false 1 v h6) fun z =>
gb a true (y6 .eql z (.int .i64 8)) fun w =>
ob (yf a w (.bool false)) fun b =>
gb b true (evFa 3 c) fun g =>
gb b true (evLd false 1 g h6) fun A =>
gb b true (yu 9 A (.int .i64 2)) fun t =>
gb b true (evFa 0 t) fun D =>
gb b true (evLd false 1 D h6) fun p =>
gb b true (y6 .eql p (.int .i64 33)) fun e =>
ob (yf b e (.bool false)) fun i =>
(yi h6 i)
def y22t (s : St) : OX := y1yi s.h
theorem y1k5 : T0 y12s [.t 0] y22t := fun _ => by kernel_rfl
@[simp] theorem y258 : E.pure 165 = true := rfl
theorem y266 : (yb E).p 165 [] = y1yi [⟨0, .dead⟩, ⟨0, .dead⟩, ⟨0, .dead⟩, ⟨0, .dead⟩] :=
  (y17 (cf := y217) (by kernel_rfl) rfl).trans ((y1k5 _).trans (by kernel_rfl))
def y03 (c a : AV) (h : Heap) : OX :=
ob (evLd true 5 c h) fun b =>
oh (evSt 5 a b h) fun _ h1 =>
(ob (evLd true 5 a h1) fun r0 =>
  yi h1 r0)
def y8q (s : St) : OX := y03 (s 1) (s 2) s.h
theorem y1ky : T0 y14g [.cell 2 true 5] y8q := fun _ => by kernel_rfl
def yie (b a e c d g : AV) (h : Heap) : OX :=
  W E 0 yj8 ⟨[(1, b), (2, a), (3, e), (85, c), (86, d), (87, g)], h⟩ y8q (y5 6 y8q xN) (finP [.cell 2 true 5])
def y9w (s : St) : OX := yie (s 1) (s 2) (s 3) (s 85) (s 86) (s 87) s.h
theorem ymg : T1 yj8 y8q (y5 6 y8q xN) [.cell 2 true 5] y9w := fun s => yp.trans (by kernel_rfl)
def y1hg (b a g c d i : AV) (h : Heap) : OX :=
ob (y6 .add i (.int .i64 1)) fun e =>
(yie b a g c d e h)
def y20t (s : St) : OX := y1hg (s 1) (s 2) (s 3) (s 85) (s 86) (s 87) s.h
theorem y1j6 : T1 y02 y9w (y5 6 y8q xN) [.cell 2 true 5] y20t := fun _ => by kernel_rfl
def yna (e i d g j c : AV) (h : Heap) : OX :=
ob (yu 9 g c) fun u =>
ob (evLd true 9 u h) fun r =>
oh (newC 0 (some 15) [(.int .i64 0), (.int .i64 0), (.int .i64 0), (.int .i64 0), (.int .i64 0), (.int .i64 0), (.int .i64 0), (.str []), .nils] h) fun m h2 =>
oh (evSt 9 m r h2) fun _ h3 =>
ob (evLd true 9 m h3) fun F =>
oh (y9 E (yb E) 0 none true 169 [F] h3) fun k h4 =>
ob (y3d 0 k) fun D =>
ob (y3d 1 k) fun b =>
oh (newC 0 (some 16) [(.int .i64 0), (.int .i64 0), (.int .i64 0)] h4) fun l h5 =>
oh (evSt 3 l D h5) fun _ h6 =>
gb b true (evLd false 1 d h6) fun B =>
gb b true (some c) fun J =>
gb b true (yu 1 B J) fun H =>
gb b true (evLd false 1 H h6) fun z =>
gb b true (y7b 2 true z AV.nilm) fun v =>
ob (yf b v (.bool false)) fun a =>
gb a true (evLd false 1 d h6) fun x =>
gb a true (some c) fun w =>
gb a true (yu 1 x w) fun C =>
gb a true (evLd false 1 C h6) fun n =>
gb a true (evLd true 3 l h6) fun I =>
gb a true (y4r true [0, 0, 0] (.bool false) false n I h6) fun o =>
ob (yf a o (.bool false)) fun p =>
cnd p
 (ob (evFa 3 e) fun y =>
ob (evLd false 1 y h6) fun G =>
ob (yd [(.int .i64 0), (.int .i64 0), (.int .i64 0), (.int .i64 0), (.int .i64 0), (.int .i64 0), (.int .i64 0), (.str []), .nils] [(0, 1, (.int .i64 33))]) fun A =>
ob (yu 9 G c) fun t =>
oh (evSt 9 t A h6) fun _ h7 =>
(y1hg e i d g j c h7))
 ((y1hg e i d g j c h6))
def y22y (s : St) : OX := yna (s 1) (s 2) (s 3) (s 85) (s 86) (s 87) s.h
theorem y1j4 : T1 y1fo y9w (y5 6 y8q xN) [.cell 2 true 5] y22y := sq y1j6 fun _ => by kernel_rfl
def y1ig (b a g d e i c : AV) (h : Heap) : OX :=
cnd c
 ((yna b a g d e i h))
 ((y03 b a h))
def y20k (s : St) : OX := y1ig (s 1) (s 2) (s 3) (s 85) (s 86) (s 87) (s 88) s.h
theorem y1mm : T1 y14z y9w (y5 6 y8q xN) [.cell 2 true 5] y20k := sq y1j4 fun _ => by kernel_rfl
def y1k8 (d c i g a b : AV) (h : Heap) : OX :=
ob (y6 .lss b a) fun e =>
(y1ig d c i g a b e h)
def y22l (s : St) : OX := y1k8 (s 1) (s 2) (s 3) (s 85) (s 86) (s 87) s.h
theorem y1m7 : T1 y142 y9w (y5 6 y8q xN) [.cell 2 true 5] y22l := sq y1mm fun _ => by kernel_rfl
theorem ylq (b a e c d g : AV) (h : Heap) : yie b a e c d g h = (y1k8 b a e c d g h) :=
  y2b.trans ((y1m _ _ _ (n' := y9w) (fun s => ymg s)).trans ((y1m7 _).trans (by kernel_rfl)))
theorem y1kg : T1 y1ev y8q xN [.cell 2 true 5] y9w := fun s => yw.trans (ymg s)
def y1k9 (a c g : AV) (h : Heap) : OX :=
ob (evFa 3 a) fun d =>
ob (evLd false 1 d h) fun b =>
ob (y12 1 b h) fun e =>
(yie a c g b e (.int .i64 0) h)
def y23 (s : St) : OX := y1k9 (s 1) (s 2) (s 3) s.h
theorem y1js : T1 y185 y8q xN [.cell 2 true 5] y23 := sq y1kg fun _ => by kernel_rfl
theorem y1p6 : T0 y17w [.cell 2 true 5] y23 := sq y1ky y1js
def y9o (b a d e c : AV) (h : Heap) : OX :=
  W E 0 yeg ⟨[(1, b), (2, a), (3, d), (4, e), (5, c)], h⟩ y23 (y5 0 y23 xN) (finP [.cell 2 true 5])
def yn (s : St) : OX := y9o (s 1) (s 2) (s 3) (s 4) (s 5) s.h
theorem yif : T1 yeg y23 (y5 0 y23 xN) [.cell 2 true 5] yn := fun s => yp.trans (by kernel_rfl)
def yfc (b a i j c g k d e : AV) (h : Heap) : OX :=
  W E 0 ydl ⟨[(1, b), (2, a), (3, i), (4, j), (5, c), (9, g), (73, k), (74, d), (75, e)], h⟩ yn (y5 4 yn (y5 1 yn (y5 0 y23 xN))) (finP [.cell 2 true 5])
def y69 (s : St) : OX := yfc (s 1) (s 2) (s 3) (s 4) (s 5) (s 9) (s 73) (s 74) (s 75) s.h
theorem yi6 : T1 ydl yn (y5 4 yn (y5 1 yn (y5 0 y23 xN))) [.cell 2 true 5] y69 := fun s => yp.trans (by kernel_rfl)
def y1e3 (b a j k c i l d e : AV) (h : Heap) : OX :=
ob (y6 .add e (.int .i64 1)) fun g =>
(yfc b a j k c i l d g h)
def y1x7 (s : St) : OX := y1e3 (s 1) (s 2) (s 3) (s 4) (s 5) (s 9) (s 73) (s 74) (s 75) s.h
theorem y1ae : T1 yuv y69 (y5 4 yn (y5 1 yn (y5 0 y23 xN))) [.cell 2 true 5] y1x7 := fun _ => by kernel_rfl
def y1gk (g e l m a c d i b : AV) (h : Heap) : OX :=
ob (yu 1 d b) fun k =>
ob (evLd false 1 k h) fun j =>
oh (yhh E (yb E) 0 none true a [j, c] h) fun n h8 =>
(y1e3 g e l m a c d i b h8)
def y1xz (s : St) : OX := y1gk (s 1) (s 2) (s 3) (s 4) (s 5) (s 9) (s 73) (s 74) (s 75) s.h
theorem y12b : T1 yq5 y69 (y5 4 yn (y5 1 yn (y5 0 y23 xN))) [.cell 2 true 5] y1xz := sq y1ae fun _ => by kernel_rfl
def ysl (b a d e c k l i j g : AV) (h : Heap) : OX :=
cnd g
 ((y1gk b a d e c k l i j h))
 ((y9o b a d e c h))
def y1v1 (s : St) : OX := ysl (s 1) (s 2) (s 3) (s 4) (s 5) (s 9) (s 73) (s 74) (s 75) (s 76) s.h
theorem y17i : T1 ys0 y69 (y5 4 yn (y5 1 yn (y5 0 y23 xN))) [.cell 2 true 5] y1v1 := sq y12b fun _ => by kernel_rfl
def yuy (e d j k g i l a b : AV) (h : Heap) : OX :=
ob (y6 .lss b a) fun c =>
(ysl e d j k g i l a b c h)
def y1s6 (s : St) : OX := yuy (s 1) (s 2) (s 3) (s 4) (s 5) (s 9) (s 73) (s 74) (s 75) s.h
theorem y14k : T1 yq8 y69 (y5 4 yn (y5 1 yn (y5 0 y23 xN))) [.cell 2 true 5] y1s6 := sq y17i fun _ => by kernel_rfl
theorem yi3 (b a i j c g k d e : AV) (h : Heap) : yfc b a i j c g k d e h = (yuy b a i j c g k d e h) :=
  y2b.trans ((y1m _ _ _ (n' := y69) (fun s => yi6 s)).trans ((y14k _).trans (by kernel_rfl)))
theorem y04 : T1 yrn yn (y5 1 yn (y5 0 y23 xN)) [.cell 2 true 5] y69 := fun s => yw.trans (yi6 s)
def y1g9 (a c k l d j g : AV) (h : Heap) : OX :=
ob (evLd true 5 a h) fun i =>
oh (y9 E (yb E) 0 none true 81 [i, j] h) fun b h9 =>
ob (y12 1 b h9) fun e =>
(yfc a c k l d g b e (.int .i64 0) h9)
def y1rl (s : St) : OX := y1g9 (s 1) (s 2) (s 3) (s 4) (s 5) (s 6) (s 9) s.h
theorem y17s : T1 ywb yn (y5 1 yn (y5 0 y23 xN)) [.cell 2 true 5] y1rl := sq y04 fun _ => by kernel_rfl
def ypr (b e c n g a : AV) (h : Heap) : OX :=
ob (evLd false 1 c h) fun d =>
ob (yu 1 d a) fun i =>
ob (evLd false 1 i h) fun m =>
ob (evFa 3 b) fun o =>
ob (evLd false 1 o h) fun l =>
ob (yu 9 l a) fun j =>
ob (evLd true 9 j h) fun p =>
oh (y9 E (yb E) 0 none true 168 [m, p] h) fun k h10 =>
(y1g9 b e c n g a k h10)
def y4p (s : St) : OX := ypr (s 1) (s 2) (s 3) (s 4) (s 5) (s 6) s.h
theorem y16m : T1 yx7 yn (y5 1 yn (y5 0 y23 xN)) [.cell 2 true 5] y4p := sq y17s fun _ => by kernel_rfl
def yes (b a i j c e k d g : AV) (h : Heap) : OX :=
  W E 0 ydq ⟨[(1, b), (2, a), (3, i), (4, j), (5, c), (6, e), (47, k), (48, d), (49, g)], h⟩ y4p (y5 2 y4p (y5 1 yn (y5 0 y23 xN))) (finP [.cell 2 true 5])
def y6p (s : St) : OX := yes (s 1) (s 2) (s 3) (s 4) (s 5) (s 6) (s 47) (s 48) (s 49) s.h
theorem yip : T1 ydq y4p (y5 2 y4p (y5 1 yn (y5 0 y23 xN))) [.cell 2 true 5] y6p := fun s => yp.trans (by kernel_rfl)
def y14s (b a j k c e l d g : AV) (h : Heap) : OX :=
ob (y6 .add g (.int .i64 1)) fun i =>
(yes b a j k c e l d i h)
def y1wm (s : St) : OX := y14s (s 1) (s 2) (s 3) (s 4) (s 5) (s 6) (s 47) (s 48) (s 49) s.h
theorem y1dt : T1 yrt y6p (y5 2 y4p (y5 1 yn (y5 0 y23 xN))) [.cell 2 true 5] y1wm := fun _ => by kernel_rfl
def y1d6 (j i d p a b e n c : AV) (h : Heap) : OX :=
ob (yu 1 e c) fun m =>
ob (evLd false 1 m h) fun l =>
ob (evLd false 1 d h) fun o =>
ob (yu 1 o b) fun g =>
ob (evLd false 1 g h) fun k =>
oh (yhh E (yb E) 0 none true a [l, k] h) fun r h11 =>
(y14s j i d p a b e n c h11)
def y1te (s : St) : OX := y1d6 (s 1) (s 2) (s 3) (s 4) (s 5) (s 6) (s 47) (s 48) (s 49) s.h
theorem y1gp : T1 yu8 y6p (y5 2 y4p (y5 1 yn (y5 0 y23 xN))) [.cell 2 true 5] y1te := sq y1dt fun _ => by kernel_rfl
def yqc (b a e g c d l i k j : AV) (h : Heap) : OX :=
cnd j
 ((y1d6 b a e g c d l i k h))
 ((ypr b a e g c d h))
def y1x4 (s : St) : OX := yqc (s 1) (s 2) (s 3) (s 4) (s 5) (s 6) (s 47) (s 48) (s 49) (s 50) s.h
theorem y134 : T1 ywk y6p (y5 2 y4p (y5 1 yn (y5 0 y23 xN))) [.cell 2 true 5] y1x4 := sq y1gp fun _ => by kernel_rfl
def yus (d c j k e i l a b : AV) (h : Heap) : OX :=
ob (y6 .lss b a) fun g =>
(yqc d c j k e i l a b g h)
def y1xw (s : St) : OX := yus (s 1) (s 2) (s 3) (s 4) (s 5) (s 6) (s 47) (s 48) (s 49) s.h
theorem y1ds : T1 ysm y6p (y5 2 y4p (y5 1 yn (y5 0 y23 xN))) [.cell 2 true 5] y1xw := sq y134 fun _ => by kernel_rfl
theorem yhk (b a i j c e k d g : AV) (h : Heap) : yes b a i j c e k d g h = (yus b a i j c e k d g h) :=
  y2b.trans ((y1m _ _ _ (n' := y6p) (fun s => yip s)).trans ((y1ds _).trans (by kernel_rfl)))
theorem y1e8 : T1 yuf y4p (y5 1 yn (y5 0 y23 xN)) [.cell 2 true 5] y6p := fun s => yw.trans (yip s)
def y19v (a d j k e b : AV) (h : Heap) : OX :=
ob (evLd true 5 a h) fun i =>
oh (y9 E (yb E) 0 none true 79 [i, b] h) fun c h12 =>
ob (y12 1 c h12) fun g =>
(yes a d j k e b c g (.int .i64 0) h12)
def y1ed (s : St) : OX := y19v (s 1) (s 2) (s 3) (s 4) (s 5) (s 6) s.h
theorem y16u : T1 yva y4p (y5 1 yn (y5 0 y23 xN)) [.cell 2 true 5] y1ed := sq y1e8 fun _ => by kernel_rfl
theorem y1e7 : T1 yri yn (y5 1 yn (y5 0 y23 xN)) [.cell 2 true 5] y1ed := sq y16m y16u
def y1ap (d c l a e j : AV) (h : Heap) : OX :=
ob (evLd false 1 a h) fun g =>
ob (evLd false 1 a h) fun k =>
ob (y12 1 k h) fun m =>
ob (y6 .sub m (.int .i64 1)) fun i =>
ob (y9f 1 g none (some i)) fun b =>
oh (evSt 1 a b h) fun _ h13 =>
(y19v d c l a e j h13)
def y1ye (s : St) : OX := y1ap (s 1) (s 2) (s 3) (s 4) (s 5) (s 6) s.h
theorem y146 : T1 yux yn (y5 1 yn (y5 0 y23 xN)) [.cell 2 true 5] y1ye := sq y1e7 fun _ => by kernel_rfl
def y1eq (d c m a e : AV) (h : Heap) : OX :=
ob (evLd false 1 a h) fun b =>
ob (evLd false 1 a h) fun k =>
ob (y12 1 k h) fun g =>
ob (y6 .sub g (.int .i64 1)) fun l =>
ob (yu 1 b l) fun i =>
ob (evLd false 1 i h) fun j =>
(y1ap d c m a e j h)
def y188 (s : St) : OX := y1eq (s 1) (s 2) (s 3) (s 4) (s 5) s.h
theorem y14u : T1 yss yn (y5 1 yn (y5 0 y23 xN)) [.cell 2 true 5] y188 := sq y146 fun _ => by kernel_rfl
theorem y1f1 : T1 yxx yn (y5 0 y23 xN) [.cell 2 true 5] y188 := fun s => yw.trans (y14u s)
def yly (b a c d e : AV) (h : Heap) : OX :=
ob (evLd false 1 d h) fun g =>
ob (y12 1 g h) fun i =>
ob (y6 .gtr i (.int .i64 0)) fun j =>
cnd j
 ((y1eq b a c d e h))
 ((y1k9 b a c h))
def y1sh (s : St) : OX := yly (s 1) (s 2) (s 3) (s 4) (s 5) s.h
theorem y1g1 : T1 yxd yn (y5 0 y23 xN) [.cell 2 true 5] y1sh := sq y1f1 fun _ => by kernel_rfl
theorem ybd (b a d e c : AV) (h : Heap) : y9o b a d e c h = (yly b a d e c h) :=
  y2b.trans ((y1m _ _ _ (n' := yn) (fun s => yif s)).trans ((y1g1 _).trans (by kernel_rfl)))
theorem y13w : T1 yqh y23 xN [.cell 2 true 5] yn := fun s => yw.trans (yif s)
theorem y16s : T0 yy0 [.cell 2 true 5] yn := sq y1p6 y13w
def y1gh (d c a b : AV) (h : Heap) : OX :=
ob (some (.fn 167 [a, b])) fun e =>
(y9o d c a b e h)
def y1v5 (s : St) : OX := y1gh (s 1) (s 2) (s 3) (s 4) s.h
theorem y12z : T0 yvt [.cell 2 true 5] y1v5 := sq y16s fun _ => by kernel_rfl
def y1g4 (c b e : AV) (h : Heap) : OX :=
oh (ym 0 (some 13) 1 1 [(.int .i64 0)] [(0, (.int .i64 0))] h) fun d h14 =>
oh (newC 0 (some 14) [.nils] h14) fun a h15 =>
oh (evSt 1 a d h15) fun _ h16 =>
(y1gh c b e a h16)
def y1ul (s : St) : OX := y1g4 (s 1) (s 2) (s 3) s.h
theorem y1g0 : T0 yqg [.cell 2 true 5] y1ul := sq y12z fun _ => by kernel_rfl
def y1bd (c b a : AV) (h : Heap) : OX :=
ob (evLd false 1 a h) fun g =>
oh (mkmC 0 (some 12) h) fun e h17 =>
ob (yu 1 g (.int .i64 0)) fun d =>
oh (evSt 1 d e h17) fun _ h18 =>
(y1g4 c b a h18)
def y1wy (s : St) : OX := y1bd (s 1) (s 2) (s 3) s.h
theorem y1ac : T0 ytn [.cell 2 true 5] y1wy := sq y1g0 fun _ => by kernel_rfl
def ysg (a d : AV) (h : Heap) : OX :=
ob (evFa 3 a) fun e =>
ob (evLd false 1 e h) fun i =>
ob (y12 1 i h) fun b =>
oh (mkSC 0 (some 10) 1 8 [.nilm] b b h) fun g h19 =>
oh (newC 0 (some 11) [.nils] h19) fun c h20 =>
oh (evSt 1 c g h20) fun _ h21 =>
(y1bd a d c h21)
def y1ri (s : St) : OX := ysg (s 1) (s 2) s.h
theorem y171 : T0 ytq [.cell 2 true 5] y1ri := sq y1ac fun _ => by kernel_rfl
def ym0 (b a : AV) (h : Heap) : OX :=
ob (evLd true 5 b h) fun c =>
oh (y9 E (yb E) 0 none true 8 [c] h) fun e h22 =>
ob (y6 .neq e (.int .i64 0)) fun d =>
cnd d
 (ob (evLd true 5 b h22) fun g =>
oh (evSt 5 a g h22) fun _ h23 =>
(ob (evLd true 5 a h23) fun r0 =>
  yi h23 r0))
 ((ysg b a h22))
def y1yk (s : St) : OX := ym0 (s 1) (s 2) s.h
theorem y14y : T0 yr5 [.cell 2 true 5] y1yk := sq y171 fun _ => by kernel_rfl
def y1gl (a c : AV) (h : Heap) : OX :=
ob (evLd true 5 a h) fun d =>
oh (y9 E (yb E) 0 (some 2) false 13 [d] h) fun b h24 =>
oh (evSt 5 a b h24) fun _ h25 =>
(ym0 a c h25)
def y1t7 (s : St) : OX := y1gl (s 1) (s 2) s.h
theorem y17v : T0 ywy [.cell 2 true 5] y1t7 := sq y14y fun _ => by kernel_rfl
def ysr (c : AV) (h : Heap) : OX :=
oh (newC 0 (some 0) (cellsOf c) h) fun a h26 =>
oh (newC 0 (some 1) [.nils, .nils, (.int .i64 0), .nils, .nils] h26) fun b h27 =>
(y1gl a b h27)
def y1y0 (s : St) : OX := ysr (s 0) s.h
theorem y1az : T0 yu3 [.cell 2 true 5] y1y0 := sq y17v fun _ => by kernel_rfl
@[simp] theorem y24v : E.pure 166 = true := rfl
theorem y288 (a : AV) : (yb E).p 166 [a] = ysr a [⟨0, .dead⟩, ⟨0, .dead⟩, ⟨0, .dead⟩, ⟨0, .dead⟩, ⟨0, .dead⟩, ⟨0, .dead⟩, ⟨0, .dead⟩, ⟨0, .dead⟩, ⟨0, .dead⟩, ⟨0, .dead⟩, ⟨0, .dead⟩, ⟨0, .dead⟩, ⟨0, .dead⟩, ⟨0, .dead⟩, ⟨0, .dead⟩, ⟨0, .dead⟩, ⟨0, .dead⟩] :=
  (y17 (cf := y226) (by kernel_rfl) rfl).trans ((y1az _).trans (by kernel_rfl))
def y124 (h : Heap) : OX :=
(yi h (.int .i64 (-1)))
def y211 (s : St) : OX := y124 s.h
theorem y1nd : T0 y0g [.t 2] y211 := fun _ => by kernel_rfl
def y1e5 (a : AV) (h : Heap) : OX :=
ob (evLd true 9 a h) fun c =>
oh (y9 E (yb E) 0 none true 17 [c] h) fun e h1 =>
cnd e
 (ob (evFa 1 a) fun b =>
ob (evLd false 1 b h1) fun d =>
(yi h1 d))
 ((y124 h1))
def yfe (s : St) : OX := y1e5 (s 1) s.h
theorem y1p3 : T0 y1gd [.t 2] yfe := sq y1nd fun _ => by kernel_rfl
def y7u (a d : AV) (h : Heap) : OX :=
cnd d
 (ob (evFa 1 a) fun b =>
ob (evLd false 1 b h) fun c =>
(yi h c))
 ((y1e5 a h))
def y236 (s : St) : OX := y7u (s 1) (s 5) s.h
theorem y1ia : T1 y1ei yfe (y5 0 yfe xN) [.t 2] y236 := fun _ => by kernel_rfl
def y1at (a b : AV) (h : Heap) : OX :=
ob (y6 .eql b (.int .i64 1)) fun o =>
cnd o
 ((y7u a o h))
 (ob (y6 .eql b (.int .i64 2)) fun i =>
cnd i
 ((y7u a i h))
 (ob (y6 .eql b (.int .i64 3)) fun e =>
cnd e
 ((y7u a e h))
 (ob (y6 .eql b (.int .i64 4)) fun n =>
cnd n
 ((y7u a n h))
 (ob (y6 .eql b (.int .i64 5)) fun m =>
cnd m
 ((y7u a m h))
 (ob (y6 .eql b (.int .i64 6)) fun g =>
cnd g
 ((y7u a g h))
 (ob (y6 .eql b (.int .i64 13)) fun j =>
cnd j
 ((y7u a j h))
 (ob (y6 .eql b (.int .i64 15)) fun c =>
cnd c
 ((y7u a c h))
 (ob (y6 .eql b (.int .i64 16)) fun r =>
cnd r
 ((y7u a r h))
 (ob (y6 .eql b (.int .i64 18)) fun k =>
cnd k
 ((y7u a k h))
 (ob (y6 .eql b (.int .i64 20)) fun p =>
cnd p
 ((y7u a p h))
 (ob (y6 .eql b (.int .i64 21)) fun d =>
cnd d
 ((y7u a d h))
 (ob (y6 .eql b (.int .i64 22)) fun l =>
cnd l
 ((y7u a l h))
 (ob (y6 .eql b (.int .i64 32)) fun t =>
(y7u a t h))))))))))))))
def y1pt (s : St) : OX := y1at (s 1) (s 4) s.h
theorem y1l4 : T1 y112 yfe (y5 0 yfe xN) [.t 2] y1pt := sq y1ia fun _ => by kernel_rfl
theorem y1od : T1 y15c yfe xN [.t 2] y1pt := fun s => yw.trans (y1l4 s)
def y1ba (a : AV) (h : Heap) : OX :=
ob (evFa 0 a) fun b =>
ob (evLd false 1 b h) fun c =>
(y1at a c h)
def y1pw (s : St) : OX := y1ba (s 1) s.h
theorem y1l8 : T1 y158 yfe xN [.t 2] y1pw := sq y1od fun _ => by kernel_rfl
theorem y1iq : T0 y1bz [.t 2] y1pw := sq y1p3 y1l8
def y1e6 (b : AV) (h : Heap) : OX :=
oh (newC 0 (some 0) (cellsOf b) h) fun a h2 =>
(y1ba a h2)
def y22n (s : St) : OX := y1e6 (s 0) s.h
theorem y1lq : T0 y15w [.t 2] y22n := sq y1iq fun _ => by kernel_rfl
@[simp] theorem y28h : E.pure 9 = true := rfl
theorem y260 (a : AV) : (yb E).p 9 [a] = y1e6 a [⟨0, .dead⟩] :=
  (y17 (cf := y21h) (by kernel_rfl) rfl).trans ((y1lq _).trans (by kernel_rfl))
def ypn (b : AV) (h : Heap) : OX :=
oh (ym 0 (some 0) 1 0 [(.int .i64 0)] [] h) fun c h1 =>
oh (y26 0 (some 1) 1 8 c b h1) fun a h2 =>
(yi h2 a)
def y1t5 (s : St) : OX := ypn (s 0) s.h
theorem y11w : T0 ywp [.t 2] y1t5 := fun _ => by kernel_rfl
def yx3 (a : AV) (h : Heap) : OX :=
ob (y7b 1 false a AV.nils) fun b =>
cnd b
 ((yi h AV.nils))
 ((ypn a h))
def y1u9 (s : St) : OX := yx3 (s 0) s.h
theorem y1g6 : T0 yrr [.t 2] y1u9 := sq y11w fun _ => by kernel_rfl
def yr7 (a : AV) (h : Heap) : OX :=
(yx3 a h)
def y1xu (s : St) : OX := yr7 (s 0) s.h
theorem y1cc : T0 ys6 [.t 2] y1xu := sq y1g6 fun _ => by kernel_rfl
@[simp] theorem y25j : E.pure 39 = true := rfl
theorem y248 (a : AV) : (yb E).p 39 [a] = yr7 a [⟨0, .dead⟩, ⟨0, .dead⟩] :=
  (y17 (cf := y1q6) (by kernel_rfl) rfl).trans ((y1cc _).trans (by kernel_rfl))
def yuh (b : AV) (h : Heap) : OX :=
oh (ym 0 (some 0) 9 0 [(.int .i64 0), (.int .i64 0), (.int .i64 0), (.int .i64 0), (.int .i64 0), (.int .i64 0), (.int .i64 0), (.str []), .nils] [] h) fun c h1 =>
oh (y26 0 (some 1) 9 96 c b h1) fun a h2 =>
(yi h2 a)
def y1uj (s : St) : OX := yuh (s 0) s.h
theorem y1ff : T0 ypd [.t 2] y1uj := fun _ => by kernel_rfl
def yp6 (a : AV) (h : Heap) : OX :=
ob (y7b 1 false a AV.nils) fun b =>
cnd b
 ((yi h AV.nils))
 ((yuh a h))
def y1rb (s : St) : OX := yp6 (s 0) s.h
theorem y11f : T0 yq3 [.t 2] y1rb := sq y1ff fun _ => by kernel_rfl
def ys5 (a : AV) (h : Heap) : OX :=
(yp6 a h)
def y1ty (s : St) : OX := ys5 (s 0) s.h
theorem y1c7 : T0 yt3 [.t 2] y1ty := sq y11f fun _ => by kernel_rfl
@[simp] theorem y26e : E.pure 40 = true := rfl
theorem y1ze (a : AV) : (yb E).p 40 [a] = ys5 a [⟨0, .dead⟩, ⟨0, .dead⟩] :=
  (y17 (cf := y1pj) (by kernel_rfl) rfl).trans ((y1c7 _).trans (by kernel_rfl))
def yqm (b : AV) (h : Heap) : OX :=
oh (ym 0 (some 0) 4 0 [(.int .i64 0), (.int .i64 0), (.int .i64 0), (.str [])] [] h) fun c h1 =>
oh (y26 0 (some 1) 4 40 c b h1) fun a h2 =>
(yi h2 a)
def y1to (s : St) : OX := yqm (s 0) s.h
theorem y19u : T0 ytd [.t 2] y1to := fun _ => by kernel_rfl
def ysq (a : AV) (h : Heap) : OX :=
ob (y7b 1 false a AV.nils) fun b =>
cnd b
 ((yi h AV.nils))
 ((yqm a h))
def y1wx (s : St) : OX := ysq (s 0) s.h
theorem y115 : T0 ypw [.t 2] y1wx := sq y19u fun _ => by kernel_rfl
def yv4 (a : AV) (h : Heap) : OX :=
(ysq a h)
def y1y2 (s : St) : OX := yv4 (s 0) s.h
theorem y13z : T0 ytu [.t 2] y1y2 := sq y115 fun _ => by kernel_rfl
@[simp] theorem y27k : E.pure 41 = true := rfl
theorem y1z9 (a : AV) : (yb E).p 41 [a] = yv4 a [⟨0, .dead⟩, ⟨0, .dead⟩] :=
  (y17 (cf := y1q4) (by kernel_rfl) rfl).trans ((y13z _).trans (by kernel_rfl))
def y1vs (k : AV) (h : Heap) : OX :=
oh (newC 0 (some 0) (cellsOf k) h) fun c h1 =>
ob (evFa 0 c) fun m =>
ob (evLd false 1 m h1) fun n =>
ob (y6 .eql n (.int .i64 27)) fun a =>
gb a false (evFa 0 c) fun i =>
gb a false (evLd false 1 i h1) fun e =>
gb a false (y6 .eql e (.int .i64 30)) fun l =>
ob (yf a (.bool true) l) fun b =>
gb b false (evFa 0 c) fun j =>
gb b false (evLd false 1 j h1) fun d =>
gb b false (y6 .eql d (.int .i64 31)) fun o =>
ob (yf b (.bool true) o) fun g =>
(yi h1 g)
def y22u (s : St) : OX := y1vs (s 0) s.h
theorem y1ix : T0 y0r [.t 2] y22u := fun _ => by kernel_rfl
@[simp] theorem y25t : E.pure 24 = true := rfl
theorem y281 (a : AV) : (yb E).p 24 [a] = y1vs a [⟨0, .dead⟩] :=
  (y17 (cf := y1zg) (by kernel_rfl) rfl).trans ((y1ix _).trans (by kernel_rfl))
def yv0 (d b : AV) (h : Heap) : OX :=
oh (y9 E (yb E) 0 none true 45 [d, b] h) fun a h1 =>
ob (y6 .geq a (.int .i64 0)) fun c =>
(yi h1 c)
def y1vw (s : St) : OX := yv0 (s 0) (s 1) s.h
theorem y1b9 : T0 yvd [.t 4] y1vw := fun _ => by kernel_rfl
@[simp] theorem y25p : E.pure 46 = true := rfl
theorem y23h (b a : AV) : (yb E).p 46 [b, a] = yv0 b a [] :=
  (y17 (cf := y1pk) (by kernel_rfl) rfl).trans ((y1b9 _).trans (by kernel_rfl))
def y1cv (e c : AV) (h : Heap) : OX :=
ob (evLd true 9 c h) fun j =>
oh (y9 E (yb E) 0 none true 22 [j] h) fun n h1 =>
ob (evUn .not n) fun b =>
gb b false (evFa 6 c) fun o =>
gb b false (evLd false 1 o h1) fun g =>
gb b false (y6 .geq g (.int .i64 0)) fun k =>
gb b false (some k) fun a =>
gb a true (evFa 6 c) fun l =>
gb a true (evLd false 1 l h1) fun r =>
gb a true (evFa 3 e) fun t =>
gb a true (evLd false 1 t h1) fun m =>
gb a true (y12 1 m h1) fun i =>
gb a true (y6 .lss r i) fun u =>
gb b false (yf a u (.bool false)) fun p =>
ob (yf b (.bool true) p) fun d =>
(yi h1 d)
def y21n (s : St) : OX := y1cv (s 2) (s 3) s.h
theorem y1jk : T0 y165 [.t 4] y21n := fun _ => by kernel_rfl
def y7v (d a : AV) (h : Heap) : OX :=
ob (evFa 0 a) fun c6 =>
ob (evLd false 1 c6 h) fun i =>
ob (y6 .eql i (.int .i64 1)) fun b7 =>
cnd b7
 (ob (evFa 0 d) fun o =>
ob (evLd false 1 o h) fun c5 =>
ob (evFa 1 a) fun u =>
ob (evLd false 1 u h) fun J =>
ob (yu 1 c5 J) fun Y =>
ob (evLd false 1 Y h) fun c4 =>
ob (y6 .neq c4 (.int .i64 3)) fun c =>
gb c true (evFa 0 d) fun O =>
gb c true (evLd false 1 O h) fun P =>
gb c true (evFa 1 a) fun a4 =>
gb c true (evLd false 1 a4 h) fun p =>
gb c true (yu 1 P p) fun K =>
gb c true (evLd false 1 K h) fun b3 =>
gb c true (y6 .eql b3 (.int .i64 2)) fun Z =>
gb c true (some Z) fun e =>
gb e false (evFa 5 a) fun a9 =>
gb e false (evLd false 1 a9 h) fun B =>
gb e false (evFa 5 a) fun S =>
gb e false (evLd false 1 S h) fun t =>
gb e false (y18d .i32 t) fun n =>
gb e false (y18d .i64 n) fun Q =>
gb e false (y6 .eql B Q) fun C =>
gb c true (yf e (.bool true) C) fun H =>
ob (yf c H (.bool false)) fun a0 =>
(yi h a0))
 (ob (y6 .eql i (.int .i64 4)) fun k =>
cnd k
 (ob (evFa 0 d) fun D =>
ob (evLd false 1 D h) fun U =>
ob (evFa 1 a) fun a1 =>
ob (evLd false 1 a1 h) fun c8 =>
ob (yu 1 U c8) fun F =>
ob (evLd false 1 F h) fun R =>
ob (evFa 0 d) fun M =>
ob (evLd false 1 M h) fun V =>
ob (evFa 2 a) fun b8 =>
ob (evLd false 1 b8 h) fun b9 =>
ob (yu 1 V b9) fun X =>
ob (evLd false 1 X h) fun I =>
ob (y6 .eql R I) fun a5 =>
(yi h a5))
 (ob (y6 .eql i (.int .i64 7)) fun c7 =>
cnd c7
 (ob (evFa 0 d) fun b0 =>
ob (evLd false 1 b0 h) fun c3 =>
ob (evFa 2 a) fun y =>
ob (evLd false 1 y h) fun b1 =>
ob (yu 1 c3 b1) fun z =>
ob (evLd false 1 z h) fun b5 =>
ob (y6 .neq b5 (.int .i64 3)) fun a3 =>
(yi h a3))
 (ob (y6 .eql i (.int .i64 30)) fun c1 =>
cnd c1
 (ob (evFa 2 a) fun w =>
ob (evLd false 1 w h) fun m =>
ob (y6 .eql m (.int .i64 (-1))) fun j =>
ob (evFa 2 d) fun L =>
ob (evLd false 1 L h) fun l =>
ob (y6 .eql l (.int .i64 0)) fun r =>
ob (y1kk false j r) fun g =>
gb g true (evFa 2 a) fun N =>
gb g true (evLd false 1 N h) fun c0 =>
gb g true (y6 .eql c0 (.int .i64 (-1))) fun c2 =>
gb g true (some c2) fun b =>
gb b false (evFa 0 d) fun v =>
gb b false (evLd false 1 v h) fun a7 =>
gb b false (evFa 2 a) fun A =>
gb b false (evLd false 1 A h) fun x =>
gb b false (yu 1 a7 x) fun G =>
gb b false (evLd false 1 G h) fun b6 =>
gb b false (evFa 2 d) fun a6 =>
gb b false (evLd false 1 a6 h) fun b2 =>
gb b false (y6 .eql b6 b2) fun a8 =>
gb g true (yf b (.bool true) a8) fun a2 =>
ob (yf g a2 (.bool false)) fun b4 =>
(yi h b4))
 ((y1cv d a h)))))
def y4o (s : St) : OX := y7v (s 2) (s 3) s.h
theorem y1hx : T0 y1cx [.t 4] y4o := sq y1jk fun _ => by kernel_rfl
def ydh (a d b c e : AV) (h : Heap) : OX :=
  W E 0 yke ⟨[(2, a), (3, d), (63, b), (64, c), (65, e)], h⟩ y4o (y5 2 y4o xN) (finP [.t 4])
def y9y (s : St) : OX := ydh (s 2) (s 3) (s 63) (s 64) (s 65) s.h
theorem ylb : T1 yke y4o (y5 2 y4o xN) [.t 4] y9y := fun s => yp.trans (by kernel_rfl)
def y1cg (b e c d g : AV) (h : Heap) : OX :=
ob (y6 .add g (.int .i64 1)) fun a =>
(ydh b e c d a h)
def ycr (s : St) : OX := y1cg (s 2) (s 3) (s 63) (s 64) (s 65) s.h
theorem y1mw : T1 y12m y9y (y5 2 y4o xN) [.t 4] ycr := fun _ => by kernel_rfl
def yey (i g I j A o L : AV) (h : Heap) : OX :=
ob (y6 .lss j (.int .i64 0)) fun c =>
gb c false (some j) fun k =>
gb c false (evFa 0 i) fun K =>
gb c false (evLd false 1 K h) fun t =>
gb c false (y12 1 t h) fun x =>
gb c false (y6 .geq k x) fun p =>
ob (yf c (.bool true) p) fun a =>
gb a false (some I) fun m =>
gb a false (y6 .eql m (.int .i64 0)) fun l =>
gb a false (some l) fun d =>
gb d true (evFa 0 g) fun C =>
gb d true (evLd false 1 C h) fun M =>
gb d true (y6 .eql M (.int .i64 24)) fun y =>
gb d true (some y) fun e =>
gb e false (evFa 0 g) fun v =>
gb e false (evLd false 1 v h) fun u =>
gb e false (y6 .eql u (.int .i64 25)) fun r =>
gb d true (yf e (.bool true) r) fun H =>
gb a false (yf d H (.bool false)) fun D =>
gb a false (some D) fun b =>
gb b true (evFa 0 i) fun n =>
gb b true (evLd false 1 n h) fun F =>
gb b true (some j) fun G =>
gb b true (yu 1 F G) fun B =>
gb b true (evLd false 1 B h) fun N =>
gb b true (y6 .neq N (.int .i64 3)) fun J =>
gb a false (yf b J (.bool false)) fun z =>
ob (yf a (.bool true) z) fun w =>
cnd w
 ((yi h (.bool false)))
 ((y1cg i g A o L h))
def y22b (s : St) : OX := yey (s 2) (s 3) (s 9) (s 10) (s 63) (s 64) (s 65) s.h
theorem y1ol : T1 y17u ycr (y5 3 ycr (y5 2 y4o xN)) [.t 4] y22b := fun _ => by kernel_rfl
def y0n (b a g d e j l : AV) (h : Heap) : OX :=
ob (evLd true 9 a h) fun k =>
oh (y9 E (yb E) 0 none true 17 [k] h) fun i h2 =>
ob (evUn .not i) fun c =>
cnd c
 ((y7v b a h2))
 ((yey b a g d e j l h2))
def y20i (s : St) : OX := y0n (s 2) (s 3) (s 9) (s 10) (s 63) (s 64) (s 65) s.h
theorem y1m1 : T1 y16b ycr (y5 3 ycr (y5 2 y4o xN)) [.t 4] y20i := sq y1ol fun _ => by kernel_rfl
def y1ai (c g b e a : AV) (h : Heap) : OX :=
ob (yu 1 b a) fun d =>
ob (evLd false 1 d h) fun i =>
(y0n c g a i b e a h)
def y11e (s : St) : OX := y1ai (s 2) (s 3) (s 63) (s 64) (s 65) s.h
theorem y1n3 : T1 y17t ycr (y5 3 ycr (y5 2 y4o xN)) [.t 4] y11e := sq y1m1 fun _ => by kernel_rfl
theorem y1o7 : T1 y19t ycr (y5 2 y4o xN) [.t 4] y11e := fun s => yw.trans (y1n3 s)
theorem y1jt : T1 y114 y9y (y5 2 y4o xN) [.t 4] y11e := sq y1mw y1o7
def yfm (a b c d g e : AV) (h : Heap) : OX :=
cnd e
 ((y1ai a b c d g h))
 ((y7v a b h))
def y1tw (s : St) : OX := yfm (s 2) (s 3) (s 63) (s 64) (s 65) (s 66) s.h
theorem y1di : T1 yqx y9y (y5 2 y4o xN) [.t 4] y1tw := sq y1jt fun _ => by kernel_rfl
def yfz (c e d a b : AV) (h : Heap) : OX :=
ob (y6 .lss b a) fun g =>
(yfm c e d a b g h)
def y1t4 (s : St) : OX := yfz (s 2) (s 3) (s 63) (s 64) (s 65) s.h
theorem y14d : T1 ys1 y9y (y5 2 y4o xN) [.t 4] y1t4 := sq y1di fun _ => by kernel_rfl
theorem ye1 (a d b c e : AV) (h : Heap) : ydh a d b c e h = (yfz a d b c e h) :=
  y2b.trans ((y1m _ _ _ (n' := y9y) (fun s => ylb s)).trans ((y14d _).trans (by kernel_rfl)))
theorem y169 : T1 yqk y4o xN [.t 4] y9y := fun s => yw.trans (ylb s)
def ylo (c b : AV) (h : Heap) : OX :=
ob (evFa 8 b) fun d =>
ob (evLd false 1 d h) fun a =>
ob (y12 1 a h) fun e =>
(ydh c b a e (.int .i64 0) h)
def y2u (s : St) : OX := ylo (s 2) (s 3) s.h
theorem y16l : T1 yqj y4o xN [.t 4] y2u := sq y169 fun _ => by kernel_rfl
theorem y1gq : T0 yp0 [.t 4] y2u := sq y1hx y16l
def y9q (a e b d c : AV) (h : Heap) : OX :=
  W E 0 ye2 ⟨[(2, a), (3, e), (5, b), (26, d), (27, c)], h⟩ y2u (y5 0 y2u xN) (finP [.t 4])
def y6k (s : St) : OX := y9q (s 2) (s 3) (s 5) (s 26) (s 27) s.h
theorem yik : T1 ye2 y2u (y5 0 y2u xN) [.t 4] y6k := fun s => yp.trans (by kernel_rfl)
def yle (b g c e d : AV) (h : Heap) : OX :=
ob (y6 .add d (.int .i64 1)) fun a =>
(y9q b g c e a h)
def y84 (s : St) : OX := yle (s 2) (s 3) (s 5) (s 26) (s 27) s.h
theorem y1eb : T1 ys9 y6k (y5 0 y2u xN) [.t 4] y84 := fun _ => by kernel_rfl
def yfl (e l g i d u H : AV) (h : Heap) : OX :=
ob (y6 .lss d (.int .i64 0)) fun c =>
gb c false (some d) fun I =>
gb c false (evFa 0 e) fun w =>
gb c false (evLd false 1 w h) fun F =>
gb c false (y12 1 F h) fun B =>
gb c false (y6 .geq I B) fun m =>
ob (yf c (.bool true) m) fun b =>
gb b false (some i) fun k =>
gb b false (yj0 4 1 g k) fun y =>
gb b false (evLd false 1 y h) fun D =>
gb b false (y6 .gtr D (.int .i64 0)) fun p =>
gb b false (some p) fun a =>
gb a true (evFa 0 e) fun t =>
gb a true (evLd false 1 t h) fun G =>
gb a true (some d) fun x =>
gb a true (yu 1 G x) fun C =>
gb a true (evLd false 1 C h) fun v =>
gb a true (some i) fun z =>
gb a true (yj0 4 1 g z) fun r =>
gb a true (evLd false 1 r h) fun n =>
gb a true (y6 .neq v n) fun o =>
gb b false (yf a o (.bool false)) fun j =>
ob (yf b (.bool true) j) fun A =>
cnd A
 ((yi h (.bool false)))
 ((yle e l g u H h))
def y1uk (s : St) : OX := yfl (s 2) (s 3) (s 5) (s 7) (s 8) (s 26) (s 27) s.h
theorem y162 : T1 yp3 y84 (y5 1 y84 (y5 0 y2u xN)) [.t 4] y1uk := fun _ => by kernel_rfl
def yac (b g a c j e d : AV) (h : Heap) : OX :=
ob (yj0 4 1 a c) fun k =>
ob (evLd false 1 k h) fun l =>
ob (y6 .lss l (.int .i64 0)) fun i =>
cnd i
 ((yle b g a e d h))
 ((yfl b g a c j e d h))
def y1rv (s : St) : OX := yac (s 2) (s 3) (s 5) (s 7) (s 8) (s 26) (s 27) s.h
theorem y122 : T1 ypc y84 (y5 1 y84 (y5 0 y2u xN)) [.t 4] y1rv := sq y162 fun _ => by kernel_rfl
def y1a6 (c g d b a : AV) (h : Heap) : OX :=
ob (yfy false 4 1 b a) fun e =>
(yac c g d a e b a h)
def yo5 (s : St) : OX := y1a6 (s 2) (s 3) (s 5) (s 26) (s 27) s.h
theorem y1an : T1 yx4 y84 (y5 1 y84 (y5 0 y2u xN)) [.t 4] yo5 := sq y122 fun _ => by kernel_rfl
theorem y0o : T1 yqq y84 (y5 0 y2u xN) [.t 4] yo5 := fun s => yw.trans (y1an s)
theorem y1d3 : T1 yq9 y6k (y5 0 y2u xN) [.t 4] yo5 := sq y1eb y0o
def yw6 (a b c g e d : AV) (h : Heap) : OX :=
cnd d
 ((y1a6 a b c g e h))
 ((ylo a b h))
def y1xn (s : St) : OX := yw6 (s 2) (s 3) (s 5) (s 26) (s 27) (s 28) s.h
theorem y1cd : T1 ywz y6k (y5 0 y2u xN) [.t 4] y1xn := sq y1d3 fun _ => by kernel_rfl
def ypp (b g c e a : AV) (h : Heap) : OX :=
ob (y6 .lss a (.int .i64 4)) fun d =>
(yw6 b g c e a d h)
def y1t8 (s : St) : OX := ypp (s 2) (s 3) (s 5) (s 26) (s 27) s.h
theorem y1db : T1 ytv y6k (y5 0 y2u xN) [.t 4] y1t8 := sq y1cd fun _ => by kernel_rfl
theorem ygo (a e b d c : AV) (h : Heap) : y9q a e b d c h = (ypp a e b d c h) :=
  y2b.trans ((y1m _ _ _ (n' := y6k) (fun s => yik s)).trans ((y1db _).trans (by kernel_rfl)))
theorem y11p : T1 yuq y2u xN [.t 4] y6k := fun s => yw.trans (yik s)
def y15m (b a c : AV) (h : Heap) : OX :=
ob (evFa 1 a) fun d =>
ob (evLd false 1 d h) fun n =>
ob (evFa 2 a) fun e =>
ob (evLd false 1 e h) fun l =>
ob (evFa 3 a) fun i =>
ob (evLd false 1 i h) fun m =>
ob (evFa 4 a) fun g =>
ob (evLd false 1 g h) fun k =>
ob (yd [(.int .i64 0), (.int .i64 0), (.int .i64 0), (.int .i64 0)] [(0, 1, n), (1, 1, l), (2, 1, m), (3, 1, k)]) fun j =>
(y9q b a c j (.int .i64 0) h)
def y18k (s : St) : OX := y15m (s 2) (s 3) (s 5) s.h
theorem y19g : T1 ys3 y2u xN [.t 4] y18k := sq y11p fun _ => by kernel_rfl
theorem y1a4 : T0 yp8 [.t 4] y18k := sq y1gq y19g
def ytm (b e c d : AV) (h : Heap) : OX :=
ob (evUn .not d) fun a =>
cnd a
 ((yi h (.bool false)))
 ((y15m b e c h))
def y1xs (s : St) : OX := ytm (s 2) (s 3) (s 5) (s 6) s.h
theorem y133 : T0 yqs [.t 4] y1xs := sq y1a4 fun _ => by kernel_rfl
def ysz (d c : AV) (h : Heap) : OX :=
ob (evLd true 9 c h) fun g =>
oh (y9 E (yb E) 0 none true 47 [g] h) fun a h3 =>
ob (y3d 0 a) fun i =>
ob (y3d 1 a) fun e =>
oh (newC 0 (some 2) [(.int .i64 0), (.int .i64 0), (.int .i64 0), (.int .i64 0)] h3) fun b h4 =>
oh (evSt 4 b i h4) fun _ h5 =>
(ytm d c b e h5)
def y1xa (s : St) : OX := ysz (s 2) (s 3) s.h
theorem y13y : T0 yxg [.t 4] y1xa := sq y133 fun _ => by kernel_rfl
def yn3 (c a : AV) (h : Heap) : OX :=
oh (newC 0 (some 0) (cellsOf c) h) fun b h6 =>
oh (newC 0 (some 1) (cellsOf a) h6) fun d h7 =>
(ysz b d h7)
def y1xj (s : St) : OX := yn3 (s 0) (s 1) s.h
theorem y1bp : T0 yq7 [.t 4] y1xj := sq y13y fun _ => by kernel_rfl
@[simp] theorem y27r : E.pure 63 = true := rfl
theorem y25r (b a : AV) : (yb E).p 63 [b, a] = yn3 b a [⟨0, .dead⟩, ⟨0, .dead⟩, ⟨0, .dead⟩] :=
  (y17 (cf := y22v) (by kernel_rfl) rfl).trans ((y1bp _).trans (by kernel_rfl))
def y1vt (k : AV) (h : Heap) : OX :=
oh (newC 0 (some 0) (cellsOf k) h) fun c h1 =>
ob (evFa 0 c) fun m =>
ob (evLd false 1 m h1) fun n =>
ob (y6 .eql n (.int .i64 27)) fun a =>
gb a false (evFa 0 c) fun i =>
gb a false (evLd false 1 i h1) fun e =>
gb a false (y6 .eql e (.int .i64 28)) fun l =>
ob (yf a (.bool true) l) fun b =>
gb b false (evFa 0 c) fun j =>
gb b false (evLd false 1 j h1) fun d =>
gb b false (y6 .eql d (.int .i64 29)) fun o =>
ob (yf b (.bool true) o) fun g =>
(yi h1 g)
def y21u (s : St) : OX := y1vt (s 0) s.h
theorem y1mt : T0 y1ch [.t 2] y21u := fun _ => by kernel_rfl
@[simp] theorem y268 : E.pure 22 = true := rfl
theorem y25k (a : AV) : (yb E).p 22 [a] = y1vt a [⟨0, .dead⟩] :=
  (y17 (cf := y1z6) (by kernel_rfl) rfl).trans ((y1mt _).trans (by kernel_rfl))
def y1t1 (a : AV) (h : Heap) : OX :=
(yi h a)
def y7l (s : St) : OX := y1t1 (s 3) s.h
theorem y1ke : T0 y1bf [.t 2] y7l := fun _ => by kernel_rfl
def ygn (c a b : AV) (h : Heap) : OX :=
  W E 0 yjt ⟨[(1, c), (3, a), (4, b)], h⟩ y7l (y5 0 y7l xN) (finP [.t 2])
def y3h (s : St) : OX := ygn (s 1) (s 3) (s 4) s.h
theorem ymn : T1 yjt y7l (y5 0 y7l xN) [.t 2] y3h := fun s => yp.trans (by kernel_rfl)
def y1is (a c m b : AV) (h : Heap) : OX :=
ob (yu 1 c b) fun l =>
oh (evSt 1 l (.bool true) h) fun _ h1 =>
ob (evLd true 5 a h1) fun j =>
oh (y9 E (yb E) 0 none true 81 [j, b] h1) fun k h2 =>
oh (y26 0 (some 3) 1 8 m k h2) fun e h3 =>
ob (evLd true 5 a h3) fun g =>
oh (y9 E (yb E) 0 none true 79 [g, b] h3) fun i h4 =>
oh (y26 0 (some 4) 1 8 e i h4) fun d h5 =>
(ygn a c d h5)
def y23y (s : St) : OX := y1is (s 1) (s 3) (s 4) (s 5) s.h
theorem y1jy : T1 y12q y3h (y5 1 y3h (y5 0 y7l xN)) [.t 2] y23y := fun _ => by kernel_rfl
def ymw (e d g c : AV) (h : Heap) : OX :=
ob (y6 .lss c (.int .i64 0)) fun a =>
gb a false (some c) fun m =>
gb a false (some d) fun j =>
gb a false (y12 1 j h) fun r =>
gb a false (y6 .geq m r) fun n =>
ob (yf a (.bool true) n) fun b =>
gb b false (some d) fun i =>
gb b false (some c) fun o =>
gb b false (yu 1 i o) fun k =>
gb b false (evLd false 1 k h) fun p =>
ob (yf b (.bool true) p) fun l =>
cnd l
 ((ygn e d g h))
 ((y1is e d g c h))
def y200 (s : St) : OX := ymw (s 1) (s 3) (s 4) (s 5) s.h
theorem y1l9 : T1 y14t y3h (y5 1 y3h (y5 0 y7l xN)) [.t 2] y200 := sq y1jy fun _ => by kernel_rfl
def y1xh (b g a c : AV) (h : Heap) : OX :=
ob (y12 1 a h) fun e =>
ob (y6 .sub e (.int .i64 1)) fun i =>
ob (y9f 1 a none (some i)) fun d =>
(ymw b g d c h)
def y1zz (s : St) : OX := y1xh (s 1) (s 3) (s 4) (s 5) s.h
theorem y1o9 : T1 y1fz y3h (y5 1 y3h (y5 0 y7l xN)) [.t 2] y1zz := sq y1l9 fun _ => by kernel_rfl
def y1ta (c e a : AV) (h : Heap) : OX :=
ob (y12 1 a h) fun g =>
ob (y6 .sub g (.int .i64 1)) fun b =>
ob (yu 1 a b) fun d =>
ob (evLd false 1 d h) fun i =>
(y1xh c e a i h)
def y1pu (s : St) : OX := y1ta (s 1) (s 3) (s 4) s.h
theorem y1oi : T1 y1da y3h (y5 1 y3h (y5 0 y7l xN)) [.t 2] y1pu := sq y1o9 fun _ => by kernel_rfl
theorem y1mp : T1 y1bm y3h (y5 0 y7l xN) [.t 2] y1pu := fun s => yw.trans (y1oi s)
def y1de (d a b : AV) (h : Heap) : OX :=
ob (y12 1 b h) fun e =>
ob (y6 .gtr e (.int .i64 0)) fun c =>
cnd c
 ((y1ta d a b h))
 ((y1t1 a h))
def y1zf (s : St) : OX := y1de (s 1) (s 3) (s 4) s.h
theorem y1np : T1 y0l y3h (y5 0 y7l xN) [.t 2] y1zf := sq y1mp fun _ => by kernel_rfl
theorem y1eg (c a b : AV) (h : Heap) : ygn c a b h = (y1de c a b h) :=
  y2b.trans ((y1m _ _ _ (n' := y3h) (fun s => ymn s)).trans ((y1np _).trans (by kernel_rfl)))
theorem y1m8 : T1 y194 y7l xN [.t 2] y3h := fun s => yw.trans (ymn s)
theorem y147 : T0 yww [.t 2] y3h := sq y1ke y1m8
def y1a9 (b a : AV) (h : Heap) : OX :=
oh (ym 0 (some 2) 1 1 [(.int .i64 0)] [(0, (.int .i64 0))] h) fun c h6 =>
(ygn b a c h6)
def y1uq (s : St) : OX := y1a9 (s 1) (s 3) s.h
theorem y15l : T0 yxm [.t 2] y1uq := sq y147 fun _ => by kernel_rfl
def y15f (b : AV) (h : Heap) : OX :=
ob (evFa 3 b) fun e =>
ob (evLd false 1 e h) fun c =>
ob (y12 1 c h) fun a =>
oh (mkSC 0 (some 1) 1 1 [(.bool false)] a a h) fun d h7 =>
(y1a9 b d h7)
def y1ve (s : St) : OX := y15f (s 1) s.h
theorem y17y : T0 yw2 [.t 2] y1ve := sq y15l fun _ => by kernel_rfl
def y1cq (b : AV) (h : Heap) : OX :=
oh (newC 0 (some 0) (cellsOf b) h) fun a h8 =>
(y15f a h8)
def y1we (s : St) : OX := y1cq (s 0) s.h
theorem y1c0 : T0 yvn [.t 2] y1we := sq y17y fun _ => by kernel_rfl
@[simp] theorem y24p : E.pure 101 = true := rfl
theorem y25m (a : AV) : (yb E).p 101 [a] = y1cq a [⟨0, .dead⟩, ⟨0, .dead⟩, ⟨0, .dead⟩, ⟨0, .dead⟩, ⟨0, .dead⟩] :=
  (y17 (cf := y1zj) (by kernel_rfl) rfl).trans ((y1c0 _).trans (by kernel_rfl))
def y0m (fb : Nat) (e a : AV) (h : Heap) : Option (AV × Heap) :=
ob (evLd false 1 a h) fun d =>
oh (ym fb (some 0) 1 1 [(.int .i64 0)] [(0, e)] h) fun b h1 =>
oh (y26 fb (some 1) 1 8 d b h1) fun c h2 =>
oh (evSt 1 a c h2) fun _ h3 =>
(some ((.tup []), h3))
def y5m (fb : Nat) (s : St) : Option (AV × Heap) := y0m fb (s 0) (s 3) s.h
theorem y1on (fb : Nat) (s : St) : W E fb y1eo s (finI []) xN (finI []) = y5m fb s :=
  by kernel_rfl
def y1tb (fb : Nat) (a b e d : AV) (h : Heap) : Option (AV × Heap) :=
ob (evLd false 1 b h) fun g =>
ob (yu 1 g a) fun c =>
oh (evSt 1 c d h) fun _ h4 =>
(y0m fb a e h4)
def y1qq (fb : Nat) (s : St) : Option (AV × Heap) := y1tb fb (s 0) (s 2) (s 3) (s 6) s.h
theorem y1jw (fb : Nat) (s : St) : W E fb y1ep s (y5m fb) (y5 0 (y5m fb) xN) (finI []) = y1qq fb s :=
  by kernel_rfl
def y1rj (fb : Nat) (b a j c : AV) (h : Heap) : Option (AV × Heap) :=
ob (y12 2 c h) fun k =>
ob (evLd false 1 a h) fun e =>
ob (yu 1 e b) fun d =>
ob (evLd false 1 d h) fun g =>
ob (y12 2 g h) fun l =>
ob (y6 .eql k l) fun i =>
cnd i
 ((some ((.tup []), h)))
 ((y1tb fb b a j c h))
def y1qy (fb : Nat) (s : St) : Option (AV × Heap) := y1rj fb (s 0) (s 2) (s 3) (s 6) s.h
theorem y1o4 (fb : Nat) (s : St) : W E fb y17q s (y5m fb) (y5 0 (y5m fb) xN) (finI []) = y1qy fb s :=
  (y1g8 (k := (y1qq fb)) (fun s => y1jw fb s)).trans (by kernel_rfl)
def y1vv (fb : Nat) (b c a j : AV) (h : Heap) : Option (AV × Heap) :=
ob (evLd false 1 a h) fun d =>
ob (yu 1 d b) fun i =>
ob (evLd false 1 i h) fun g =>
oh (y9 E (yb E) fb none true 170 [g, c] h) fun e h5 =>
(y1rj fb b a j e h5)
def y1zp (fb : Nat) (s : St) : Option (AV × Heap) := y1vv fb (s 0) (s 1) (s 2) (s 3) s.h
theorem y1n4 (fb : Nat) (s : St) : W E fb y18c s (y5m fb) (y5 0 (y5m fb) xN) (finI []) = y1zp fb s :=
  (y1g8 (k := (y1qy fb)) (fun s => y1o4 fb s)).trans (by kernel_rfl)
def y1of (fb : Nat) (c a b e j : AV) (h : Heap) : Option (AV × Heap) :=
cnd j
 (ob (evLd false 1 b h) fun i =>
ofp (y5r E (yb E) fb none true 161 [a] h) fun f3 =>
oh (y9 E (yb E) fb none true 161 [a] h) fun g h6 =>
ob (yu 1 i c) fun d =>
oh (evSt 1 d g h6) fun _ h7 =>
okK (yz [(ids1 b, []), ([], []), ([], []), f3, ([], []), ([], ids1 d)] [(0, 3)]) <|
(y0m fb c e h7))
 ((y1vv fb c a b e h))
def y1ph (fb : Nat) (s : St) : Option (AV × Heap) := y1of fb (s 0) (s 1) (s 2) (s 3) (s 25) s.h
theorem y1j5 (fb : Nat) (s : St) : W E fb y14q s (y5m fb) (y5 0 (y5m fb) xN) (finI []) = y1ph fb s :=
  (y1r rfl (y1n4 fb s)).trans (by kernel_rfl)
def y1l0 (fb : Nat) (b c a j : AV) (h : Heap) : Option (AV × Heap) :=
ob (evLd false 1 a h) fun i =>
ob (yu 1 i b) fun e =>
ob (evLd false 1 e h) fun d =>
ob (y7b 2 false d AV.nilm) fun g =>
(y1of fb b c a j g h)
def y149 (fb : Nat) (s : St) : Option (AV × Heap) := y1l0 fb (s 0) (s 1) (s 2) (s 3) s.h
theorem y1lt (fb : Nat) (s : St) : W E fb y15y s (y5m fb) (y5 0 (y5m fb) xN) (finI []) = y149 fb s :=
  (y1g8 (k := (y1ph fb)) (fun s => y1j5 fb s)).trans (by kernel_rfl)
theorem y1kd (fb : Nat) (s : St) : W E fb y172 s (y5m fb) xN (finI []) = y149 fb s :=
  yw.trans (y1lt fb s)
theorem y1in (fb : Nat) (s : St) : W E fb y1dd s (finI []) xN (finI []) = y149 fb s :=
  (y1g8 (k := (y5m fb)) (fun s => y1on fb s)).trans (y1kd fb s)
@[simp] theorem y24r : E.pure 167 = false := rfl
theorem y26b (fb : Nat) (c a b d : AV) (h : Heap) : (yb E).i 167 [c, a, b, d] fb h = y1l0 fb c a b d (if fb = h.length then h ++ y10 2 else h) :=
  (y1w4 (cf := y245) (by kernel_rfl) rfl).trans ((y1in fb _).trans (by kernel_rfl))
def y1p8 (a : AV) (h : Heap) : OX :=
(yi h a)
def y1ag (s : St) : OX := y1p8 (s 5) s.h
theorem y1k6 : T0 y1b1 [.t 4] y1ag := fun _ => by kernel_rfl
def y1l7 (b c a : AV) (h : Heap) : Option Heap :=
ob (evLd true 3 a h) fun d =>
ob (y4r true [0, 0, 0] (.bool false) false b d h) fun g =>
cnd g
 (ob (evLd true 3 a h) fun e =>
oh (y4l true [0, 0, 0] c e (.bool true) h) fun _ h1 =>
(some (killAll 0 [1] h1)))
 ((some (killAll 0 [1] h)))
def y206 (s : St) : Option Heap := y1l7 (s 1) (s 5) (s 6) s.h
theorem y1ls (s : St) : W E 0 y1a8 s (fun s3 => some (killAll 0 [1] s3.h)) xN (fun _ => none) = y206 s :=
  by kernel_rfl
def y1yj (e d a : AV) (h : Heap) : OX :=
orm e (fun q h2 =>
ob (y3d 0 (AV.tup [q.1, q.2])) fun c =>
oh (newC 0 (some 1) [(.int .i64 0), (.int .i64 0), (.int .i64 0)] h2) fun b h4 =>
oh (evSt 3 b c h4) fun _ h5 =>
(y1l7 d a b h5)) h fun h3 =>
(y1p8 a h3)
def y1qe (s : St) : OX := y1yj (s 0) (s 1) (s 5) s.h
theorem y1n0 : T1 y0u y1ag xN [.t 4] y1qe := fun s => (yg3 (nk := y1ag) (fun s2 => y1ls s2) (fun _ => rfl)).trans (by kernel_rfl)
theorem y1iv : T0 y1fr [.t 4] y1qe := sq y1k6 y1n0
def y1vb (c b : AV) (h : Heap) : OX :=
oh (mkmC 0 (some 0) h) fun a h6 =>
(y1yj c b a h6)
def y220 (s : St) : OX := y1vb (s 0) (s 1) s.h
theorem y1la : T0 y113 [.t 4] y220 := sq y1iv fun _ => by kernel_rfl
def y1rg (b a : AV) (h : Heap) : OX :=
(y1vb b a h)
def y202 (s : St) : OX := y1rg (s 0) (s 1) s.h
theorem y1kv : T0 y1cp [.t 4] y202 := sq y1la fun _ => by kernel_rfl
@[simp] theorem y250 : E.pure 170 = true := rfl
theorem y289 (b a : AV) : (yb E).p 170 [b, a] = y1rg b a [⟨0, .dead⟩, ⟨0, .dead⟩] :=
  (y17 (cf := y21s) (by kernel_rfl) rfl).trans ((y1kv _).trans (by kernel_rfl))
def y1gx (a : AV) (h : Heap) : OX :=
(yi h a)
def y49 (s : St) : OX := y1gx (s 5) s.h
theorem y1ka : T0 y1bv [.t 4] y49 := fun _ => by kernel_rfl
def ykn (a b e d c : AV) (h : Heap) : OX :=
  W E 0 ykc ⟨[(1, a), (5, b), (27, e), (28, d), (29, c)], h⟩ y49 (y5 0 y49 xN) (finP [.t 4])
def y9u (s : St) : OX := ykn (s 1) (s 5) (s 27) (s 28) (s 29) s.h
theorem ylz : T1 ykc y49 (y5 0 y49 xN) [.t 4] y9u := fun s => yp.trans (by kernel_rfl)
def yza (a b e d c : AV) (h : Heap) : OX :=
ob (y6 .add c (.int .i64 1)) fun g =>
(ykn a b e d g h)
def y9e (s : St) : OX := yza (s 1) (s 5) (s 27) (s 28) (s 29) s.h
theorem y1jd : T1 y13d y9u (y5 0 y49 xN) [.t 4] y9e := fun _ => by kernel_rfl
def yz0 (c a e i g d : AV) (h : Heap) : OX :=
ob (evFa 3 e) fun k =>
ob (evLd false 1 k h) fun b =>
ob (y6 .eql b (AV.str [])) fun j =>
cnd j
 ((y1gx a h))
 ((yza c a i g d h))
def y21f (s : St) : OX := yz0 (s 1) (s 5) (s 7) (s 27) (s 28) (s 29) s.h
theorem y1il : T1 y14j y9e (y5 1 y9e (y5 0 y49 xN)) [.t 4] y21f := fun _ => by kernel_rfl
def y1ox (c b a g e d : AV) (h : Heap) : OX :=
ob (evFa 2 a) fun o =>
ob (evLd false 1 o h) fun n =>
oh (y9 E (yb E) 0 none true 46 [b, n] h) fun l h1 =>
ob (evUn .not l) fun p =>
cnd p
 (ob (evFa 2 a) fun i =>
ob (evLd false 1 i h1) fun m =>
oh (ym 0 (some 2) 1 1 [(.int .i64 0)] [(0, m)] h1) fun k h2 =>
oh (y26 0 (some 3) 1 8 b k h2) fun j h3 =>
(yz0 c j a g e d h3))
 ((yz0 c b a g e d h1))
def y21z (s : St) : OX := y1ox (s 1) (s 5) (s 7) (s 27) (s 28) (s 29) s.h
theorem y1n8 : T1 y12y y9e (y5 1 y9e (y5 0 y49 xN)) [.t 4] y21z := sq y1il fun _ => by kernel_rfl
def ynw (b d c i g e : AV) (h : Heap) : OX :=
ob (evFa 0 c) fun j =>
ob (evLd false 1 j h) fun m =>
ob (y6 .lss b m) fun a =>
gb a false (some b) fun o =>
gb a false (evFa 1 c) fun k =>
gb a false (evLd false 1 k h) fun l =>
gb a false (y6 .geq o l) fun n =>
ob (yf a (.bool true) n) fun p =>
cnd p
 ((yza b d i g e h))
 ((y1ox b d c i g e h))
def y22a (s : St) : OX := ynw (s 1) (s 5) (s 7) (s 27) (s 28) (s 29) s.h
theorem y1m2 : T1 y1fq y9e (y5 1 y9e (y5 0 y49 xN)) [.t 4] y22a := sq y1n8 fun _ => by kernel_rfl
def y1sf (d e c g a : AV) (h : Heap) : OX :=
ob (yu 4 c a) fun i =>
ob (evLd true 4 i h) fun j =>
oh (newC 0 (some 1) [(.int .i64 0), (.int .i64 0), (.int .i64 0), (.str [])] h) fun b h4 =>
oh (evSt 4 b j h4) fun _ h5 =>
(ynw d e b c g a h5)
def y13t (s : St) : OX := y1sf (s 1) (s 5) (s 27) (s 28) (s 29) s.h
theorem y1mh : T1 y15t y9e (y5 1 y9e (y5 0 y49 xN)) [.t 4] y13t := sq y1m2 fun _ => by kernel_rfl
theorem y1hs : T1 y16e y9e (y5 0 y49 xN) [.t 4] y13t := fun s => yw.trans (y1mh s)
theorem y1ld : T1 y14i y9u (y5 0 y49 xN) [.t 4] y13t := sq y1jd y1hs
def ypa (b a e d c g : AV) (h : Heap) : OX :=
cnd g
 ((y1sf b a e d c h))
 ((y1gx a h))
def y1th (s : St) : OX := ypa (s 1) (s 5) (s 27) (s 28) (s 29) (s 30) s.h
theorem y181 : T1 yvz y9u (y5 0 y49 xN) [.t 4] y1th := sq y1ld fun _ => by kernel_rfl
def yki (c d e b a : AV) (h : Heap) : OX :=
ob (y6 .lss a b) fun g =>
(ypa c d e b a g h)
def y1u5 (s : St) : OX := yki (s 1) (s 5) (s 27) (s 28) (s 29) s.h
theorem y159 : T1 yxt y9u (y5 0 y49 xN) [.t 4] y1u5 := sq y181 fun _ => by kernel_rfl
theorem ymq (a b e d c : AV) (h : Heap) : ykn a b e d c h = (yki a b e d c h) :=
  y2b.trans ((y1m _ _ _ (n' := y9u) (fun s => ylz s)).trans ((y159 _).trans (by kernel_rfl)))
theorem y1fm : T1 yxs y49 xN [.t 4] y9u := fun s => yw.trans (ylz s)
def y1b4 (c b d : AV) (h : Heap) : OX :=
ob (evFa 4 b) fun g =>
ob (evLd false 1 g h) fun a =>
ob (y12 1 a h) fun e =>
(ykn c d a e (.int .i64 0) h)
def y11m (s : St) : OX := y1b4 (s 1) (s 2) (s 5) s.h
theorem y18p : T1 yr8 y49 xN [.t 4] y11m := sq y1fm fun _ => by kernel_rfl
theorem y12l : T0 yp2 [.t 4] y11m := sq y1ka y18p
def y16d (b a : AV) (h : Heap) : OX :=
(y1b4 b a AV.nils h)
def y1sk (s : St) : OX := y16d (s 1) (s 2) s.h
theorem y1f4 : T0 ywj [.t 4] y1sk := sq y12l fun _ => by kernel_rfl
def yha (c d : AV) (h : Heap) : OX :=
ob (y6 .lss c (.int .i64 0)) fun b =>
gb b false (some c) fun g =>
gb b false (evFa 3 d) fun i =>
gb b false (evLd false 1 i h) fun e =>
gb b false (y12 1 e h) fun t =>
gb b false (y6 .geq g t) fun j =>
ob (yf b (.bool true) j) fun a =>
gb a false (evFa 3 d) fun k =>
gb a false (evLd false 1 k h) fun r =>
gb a false (some c) fun l =>
gb a false (yu 9 r l) fun o =>
gb a false (evLd true 9 o h) fun n =>
gh a false (y9 E (yb E) 0 none true 18 [n] h) h fun u h6 =>
gb a false (evUn .not u) fun m =>
ob (yf a (.bool true) m) fun p =>
cnd p
 ((yi h6 AV.nils))
 ((y16d c d h6))
def y1x3 (s : St) : OX := yha (s 1) (s 2) s.h
theorem y138 : T0 ywt [.t 4] y1x3 := sq y1f4 fun _ => by kernel_rfl
def yhu (c a : AV) (h : Heap) : OX :=
oh (newC 0 (some 0) (cellsOf c) h) fun b h7 =>
(yha a b h7)
def y1yd (s : St) : OX := yhu (s 0) (s 1) s.h
theorem y12n : T0 yvr [.t 4] y1yd := sq y138 fun _ => by kernel_rfl
@[simp] theorem y26n : E.pure 79 = true := rfl
theorem y269 (b a : AV) : (yb E).p 79 [b, a] = yhu b a [⟨0, .dead⟩, ⟨0, .dead⟩, ⟨0, .dead⟩, ⟨0, .dead⟩] :=
  (y17 (cf := y22o) (by kernel_rfl) rfl).trans ((y12n _).trans (by kernel_rfl))
def yl1 (a : AV) (h : Heap) : OX :=
(yi h a)
def y52 (s : St) : OX := yl1 (s 5) s.h
theorem y1hp : T0 y16q [.t 4] y52 := fun _ => by kernel_rfl
def y1ll (o e c b : AV) (h : Heap) : Option Heap :=
ob (evFa 1 b) fun m =>
ob (evLd false 1 m h) fun r =>
ob (evFa 2 o) fun p =>
ob (evLd false 1 p h) fun t =>
ob (y6 .eql r t) fun a =>
gb a true (evFa 2 b) fun n =>
gb a true (evLd false 1 n h) fun k =>
gb a true (y6 .eql k (.int .i64 (-1))) fun j =>
ob (yf a j (.bool false)) fun l =>
cnd l
 (ob (evFa 0 b) fun g =>
ob (evLd false 1 g h) fun d =>
ob (yd [(.int .i64 0), (.int .i64 0), (.int .i64 0)] [(0, 1, d), (1, 1, c), (2, 1, (.int .i64 (-1)))]) fun i =>
oh (y4l true [0, 0, 0] e i (.bool true) h) fun _ h1 =>
(some (killAll 0 [4] h1)))
 ((some (killAll 0 [4] h)))
def y1za (s : St) : Option Heap := y1ll (s 3) (s 5) (s 8) (s 10) s.h
theorem y1m5 (s : St) : W E 0 y11r s (fun s3 => some (killAll 0 [4] s3.h)) xN (fun _ => none) = y1za s :=
  by kernel_rfl
def y1xl (d g a c : AV) (h : Heap) : OX :=
orm d (fun q h2 =>
ob (y3d 0 (AV.tup [q.1, q.2])) fun e =>
oh (newC 0 (some 4) [(.int .i64 0), (.int .i64 0), (.int .i64 0)] h2) fun b h4 =>
oh (evSt 3 b e h4) fun _ h5 =>
(y1ll g a c b h5)) h fun h3 =>
(yl1 a h3)
def y20n (s : St) : OX := y1xl (s 0) (s 3) (s 5) (s 8) s.h
theorem y1lp : T1 y19w y52 (y5 2 y52 xN) [.t 4] y20n := fun s => (yg3 (nk := y52) (fun s2 => y1m5 s2) (fun _ => rfl)).trans (by kernel_rfl)
def ymx (a c d : AV) (h : Heap) : OX :=
cnd d
 (ob (yd [(.int .i64 0), (.int .i64 0), (.int .i64 0)] [(0, 1, (.int .i64 8)), (1, 1, c), (2, 1, (.int .i64 (-1)))]) fun b =>
oh (y4l true [0, 0, 0] a b (.bool true) h) fun _ h6 =>
(yl1 a h6))
 ((yl1 a h))
def y20b (s : St) : OX := ymx (s 5) (s 8) (s 79) s.h
theorem y1ln : T1 y15r y52 (y5 2 y52 xN) [.t 4] y20b := fun _ => by kernel_rfl
def y1iu (b a c : AV) (h : Heap) : OX :=
ob (y6 .eql c (.int .i64 20)) fun g =>
cnd g
 ((ymx b a g h))
 (ob (y6 .eql c (.int .i64 21)) fun e =>
cnd e
 ((ymx b a e h))
 (ob (y6 .eql c (.int .i64 3)) fun d =>
cnd d
 ((ymx b a d h))
 (ob (y6 .eql c (.int .i64 32)) fun i =>
(ymx b a i h))))
def y23f (s : St) : OX := y1iu (s 5) (s 8) (s 55) s.h
theorem y1ot : T1 y143 y52 (y5 2 y52 xN) [.t 4] y23f := sq y1ln fun _ => by kernel_rfl
def y1l3 (c g b a e d : AV) (h : Heap) : OX :=
cnd d
 ((y1xl c g b a h))
 ((y1iu b a e h))
def y24c (s : St) : OX := y1l3 (s 0) (s 3) (s 5) (s 8) (s 55) (s 56) s.h
theorem y1j3 : T1 y1f8 y52 (y5 2 y52 xN) [.t 4] y24c := fun s => (y1r (y1lp s) (y1ot s)).trans (by kernel_rfl)
def y168 (e g d c a : AV) (h : Heap) : OX :=
ob (y6 .eql a (.int .i64 4)) fun b =>
(y1l3 e g d c a b h)
def y1qu (s : St) : OX := y168 (s 0) (s 3) (s 5) (s 8) (s 55) s.h
theorem y1lm : T1 y186 y52 (y5 2 y52 xN) [.t 4] y1qu := sq y1j3 fun _ => by kernel_rfl
theorem y1p1 : T1 y12r y52 xN [.t 4] y1qu := fun s => yw.trans (y1lm s)
def y1k4 (e a d c : AV) (h : Heap) : OX :=
ob (evFa 0 a) fun b =>
ob (evLd false 1 b h) fun g =>
(y168 e a d c g h)
def yrc (s : St) : OX := y1k4 (s 0) (s 3) (s 5) (s 8) s.h
theorem y1k0 : T1 y1g3 y52 xN [.t 4] yrc := sq y1p1 fun _ => by kernel_rfl
theorem y190 : T0 yt5 [.t 4] yrc := sq y1hp y1k0
def ys2 (d c b : AV) (h : Heap) : Option Heap :=
ob (evFa 1 b) fun l =>
ob (evLd false 1 l h) fun j =>
ob (y6 .eql j c) fun a =>
gb a false (evFa 2 b) fun n =>
gb a false (evLd false 1 n h) fun g =>
gb a false (some c) fun k =>
gb a false (y6 .eql g k) fun i =>
ob (yf a (.bool true) i) fun e =>
cnd e
 (ob (evLd true 3 b h) fun m =>
oh (y99 true [0, 0, 0] d m h) fun _ h7 =>
(some (killAll 0 [3] h7)))
 ((some (killAll 0 [3] h)))
def y1uz (s : St) : Option Heap := ys2 (s 5) (s 8) (s 9) s.h
theorem y166 (s : St) : W E 0 ypg s (fun s3 => some (killAll 0 [3] s3.h)) xN (fun _ => none) = y1uz s :=
  by kernel_rfl
def yxu (c g b a : AV) (h : Heap) : OX :=
orm c (fun q h8 =>
ob (y3d 0 (AV.tup [q.1, q.2])) fun e =>
oh (newC 0 (some 3) [(.int .i64 0), (.int .i64 0), (.int .i64 0)] h8) fun d h10 =>
oh (evSt 3 d e h10) fun _ h11 =>
(ys2 b a d h11)) h fun h9 =>
(y1k4 c g b a h9)
def y145 (s : St) : OX := yxu (s 0) (s 3) (s 5) (s 8) s.h
theorem y1h0 : T1 yw3 yrc xN [.t 4] y145 := fun s => (yg3 (nk := yrc) (fun s2 => y166 s2) (fun _ => rfl)).trans (by kernel_rfl)
theorem y1d8 : T0 yp1 [.t 4] y145 := sq y190 y1h0
def y13c (g b d c : AV) (h : Heap) : OX :=
ob (evFa 0 b) fun l =>
ob (evLd false 1 l h) fun j =>
ob (y6 .eql j (.int .i64 4)) fun a =>
gb a true (evFa 2 b) fun k =>
gb a true (evLd false 1 k h) fun i =>
gb a true (some c) fun m =>
gb a true (y6 .eql i m) fun n =>
ob (yf a n (.bool false)) fun e =>
cnd e
 ((yi h d))
 ((yxu g b d c h))
def y1v6 (s : St) : OX := y13c (s 0) (s 3) (s 5) (s 8) s.h
theorem y178 : T0 yvq [.t 4] y1v6 := sq y1d8 fun _ => by kernel_rfl
def yth (c e b a : AV) (h : Heap) : OX :=
ob (y6 .lss a (.int .i64 0)) fun d =>
cnd d
 ((yi h b))
 ((y13c c e b a h))
def y1ur (s : St) : OX := yth (s 0) (s 3) (s 5) (s 8) s.h
theorem y1er : T0 yxi [.t 4] y1ur := sq y178 fun _ => by kernel_rfl
def yln (c a b : AV) (h : Heap) : OX :=
ob (evLd true 9 a h) fun e =>
oh (y9 E (yb E) 0 none true 9 [e] h) fun d h12 =>
(yth c a b d h12)
def y1vf (s : St) : OX := yln (s 0) (s 3) (s 5) s.h
theorem y13v : T0 yxz [.t 4] y1vf := sq y1er fun _ => by kernel_rfl
def y1c2 (d b a : AV) (h : Heap) : OX :=
ob (evLd true 9 b h) fun k =>
oh (y9 E (yb E) 0 none true 169 [k] h) fun c h13 =>
ob (y3d 0 c) fun j =>
ob (y3d 1 c) fun g =>
oh (newC 0 (some 2) [(.int .i64 0), (.int .i64 0), (.int .i64 0)] h13) fun e h14 =>
oh (evSt 3 e j h14) fun _ h15 =>
cnd g
 (ob (evLd true 3 e h15) fun i =>
oh (y4l true [0, 0, 0] a i (.bool true) h15) fun _ h16 =>
(yln d b a h16))
 ((yln d b a h15))
def y1rq (s : St) : OX := y1c2 (s 0) (s 3) (s 5) s.h
theorem y14m : T0 yp5 [.t 4] y1rq := sq y13v fun _ => by kernel_rfl
def y18l (a c : AV) (h : Heap) : OX :=
oh (y9 E (yb E) 0 (some 1) false 161 [a] h) fun b h17 =>
(y1c2 a c b h17)
def y1vm (s : St) : OX := y18l (s 0) (s 3) s.h
theorem y15h : T0 yqb [.t 4] y1vm := sq y14m fun _ => by kernel_rfl
def y0f (c a : AV) (h : Heap) : OX :=
oh (newC 0 (some 0) (cellsOf a) h) fun b h18 =>
(y18l c b h18)
def y1vc (s : St) : OX := y0f (s 0) (s 1) s.h
theorem y1g2 : T0 yy1 [.t 4] y1vc := sq y15h fun _ => by kernel_rfl
@[simp] theorem y24l : E.pure 168 = true := rfl
theorem y26o (b a : AV) : (yb E).p 168 [b, a] = y0f b a [⟨0, .dead⟩, ⟨0, .dead⟩, ⟨0, .dead⟩, ⟨0, .dead⟩, ⟨0, .dead⟩] :=
  (y17 (cf := y22e) (by kernel_rfl) rfl).trans ((y1g2 _).trans (by kernel_rfl))
def ygd (a : AV) (h : Heap) : OX :=
(yi h a)
def y21r (s : St) : OX := ygd (s 6) s.h
theorem y1jl : T0 y12a [.t 4] y21r := fun _ => by kernel_rfl
def ygf (b c : AV) (h : Heap) : OX :=
ob (evLd true 9 b h) fun e =>
oh (y9 E (yb E) 0 none true 22 [e] h) fun a h1 =>
gb a true (some c) fun o =>
gb a true (evFa 6 b) fun p =>
gb a true (evLd false 1 p h1) fun d =>
gh a true (y9 E (yb E) 0 none true 46 [o, d] h1) h1 fun k h2 =>
gb a true (evUn .not k) fun g =>
ob (yf a g (.bool false)) fun l =>
cnd l
 (ob (evFa 6 b) fun i =>
ob (evLd false 1 i h2) fun j =>
oh (ym 0 (some 4) 1 1 [(.int .i64 0)] [(0, j)] h2) fun m h3 =>
oh (y26 0 (some 5) 1 8 c m h3) fun n h4 =>
(ygd n h4))
 ((ygd c h2))
def y21t (s : St) : OX := ygf (s 5) (s 6) s.h
theorem y1pb : T0 y111 [.t 4] y21t := sq y1jl fun _ => by kernel_rfl
def ygh (c a b : AV) (h : Heap) : OX :=
ob (evLd true 9 a h) fun j =>
oh (y9 E (yb E) 0 none true 24 [j] h) fun e h5 =>
ob (evUn .not e) fun k =>
cnd k
 (ob (y6 .add c (.int .i64 1)) fun i =>
oh (ym 0 (some 2) 1 1 [(.int .i64 0)] [(0, i)] h5) fun g h6 =>
oh (y26 0 (some 3) 1 8 b g h6) fun d h7 =>
(ygf a d h7))
 ((ygf a b h5))
def y21l (s : St) : OX := ygh (s 1) (s 5) (s 6) s.h
theorem y1kj : T0 y17x [.t 4] y21l := sq y1pb fun _ => by kernel_rfl
def y1ay (a b : AV) (h : Heap) : OX :=
(ygh a b AV.nils h)
def y20a (s : St) : OX := y1ay (s 1) (s 5) s.h
theorem y1iy : T0 y1h6 [.t 4] y20a := sq y1kj fun _ => by kernel_rfl
def y12o (a d : AV) (h : Heap) : OX :=
ob (evFa 3 d) fun i =>
ob (evLd false 1 i h) fun c =>
ob (yu 9 c a) fun g =>
ob (evLd true 9 g h) fun e =>
oh (newC 0 (some 1) [(.int .i64 0), (.int .i64 0), (.int .i64 0), (.int .i64 0), (.int .i64 0), (.int .i64 0), (.int .i64 0), (.str []), .nils] h) fun b h8 =>
oh (evSt 9 b e h8) fun _ h9 =>
(y1ay a b h9)
def y20x (s : St) : OX := y12o (s 1) (s 2) s.h
theorem y1i0 : T0 y1fe [.t 4] y20x := sq y1iy fun _ => by kernel_rfl
def y1d9 (b c : AV) (h : Heap) : OX :=
ob (y6 .lss b (.int .i64 0)) fun a =>
gb a false (some b) fun j =>
gb a false (evFa 3 c) fun e =>
gb a false (evLd false 1 e h) fun g =>
gb a false (y12 1 g h) fun d =>
gb a false (y6 .geq j d) fun k =>
ob (yf a (.bool true) k) fun i =>
cnd i
 ((yi h AV.nils))
 ((y12o b c h))
def y20f (s : St) : OX := y1d9 (s 1) (s 2) s.h
theorem y1kb : T0 y1et [.t 4] y20f := sq y1i0 fun _ => by kernel_rfl
def yzm (c a : AV) (h : Heap) : OX :=
oh (newC 0 (some 0) (cellsOf c) h) fun b h10 =>
(y1d9 a b h10)
def y20c (s : St) : OX := yzm (s 0) (s 1) s.h
theorem y1mj : T0 y132 [.t 4] y20c := sq y1kb fun _ => by kernel_rfl
@[simp] theorem y261 : E.pure 81 = true := rfl
theorem y27a (b a : AV) : (yb E).p 81 [b, a] = yzm b a [⟨0, .dead⟩, ⟨0, .dead⟩, ⟨0, .dead⟩, ⟨0, .dead⟩, ⟨0, .dead⟩, ⟨0, .dead⟩] :=
  (y17 (cf := y218) (by kernel_rfl) rfl).trans ((y1mj _).trans (by kernel_rfl))
def y1sp (a : AV) (h : Heap) : OX :=
ob (yd [(.int .i64 0), (.int .i64 0), (.int .i64 0)] []) fun b =>
oh (evSt 3 a b h) fun _ h1 =>
(ob (evLd true 3 a h1) fun r0 =>
  yi h1 (.tup [r0, (.bool false)]))
def yg8 (s : St) : OX := y1sp (s 2) s.h
theorem y1oy : T0 y1gc [.cell 2 true 3, .t 3] yg8 := fun _ => by kernel_rfl
def ync (b a e o : AV) (h : Heap) : OX :=
cnd o
 (ob (evFa 0 b) fun l =>
ob (evLd false 1 l h) fun g =>
ob (evFa 2 b) fun i =>
ob (evLd false 1 i h) fun c =>
ob (yd [(.int .i64 0), (.int .i64 0), (.int .i64 0)] [(0, 1, g), (1, 1, c), (2, 1, (.int .i64 (-1)))]) fun t =>
oh (evSt 3 a t h) fun _ h2 =>
(ob (evLd true 3 a h2) fun r0 =>
  yi h2 (.tup [r0, (.bool true)])))
 (ob (y6 .eql e (.int .i64 9)) fun r =>
cnd r
 (ob (evFa 0 b) fun d =>
ob (evLd false 1 d h) fun j =>
ob (evFa 2 b) fun p =>
ob (evLd false 1 p h) fun k =>
ob (evFa 3 b) fun n =>
ob (evLd false 1 n h) fun m =>
ob (yd [(.int .i64 0), (.int .i64 0), (.int .i64 0)] [(0, 1, j), (1, 1, k), (2, 1, m)]) fun u =>
oh (evSt 3 a u h) fun _ h3 =>
(ob (evLd true 3 a h3) fun r0 =>
  yi h3 (.tup [r0, (.bool true)])))
 ((y1sp a h)))
def y23p (s : St) : OX := ync (s 1) (s 2) (s 5) (s 6) s.h
theorem y1p4 : T1 y18f yg8 (y5 0 yg8 xN) [.cell 2 true 3, .t 3] y23p := fun _ => by kernel_rfl
def y1o6 (c b a : AV) (h : Heap) : OX :=
ob (y6 .eql a (.int .i64 7)) fun e =>
cnd e
 ((ync c b a e h))
 (ob (y6 .eql a (.int .i64 8)) fun d =>
cnd d
 ((ync c b a d h))
 (ob (y6 .eql a (.int .i64 10)) fun g =>
(ync c b a g h)))
def y1qp (s : St) : OX := y1o6 (s 1) (s 2) (s 5) s.h
theorem y1m4 : T1 y12j yg8 (y5 0 yg8 xN) [.cell 2 true 3, .t 3] y1qp := sq y1p4 fun _ => by kernel_rfl
theorem y1oa : T1 y19m yg8 xN [.cell 2 true 3, .t 3] y1qp := fun s => yw.trans (y1m4 s)
def y1ju (a c : AV) (h : Heap) : OX :=
ob (evFa 0 a) fun b =>
ob (evLd false 1 b h) fun d =>
(y1o6 a c d h)
def y1pn (s : St) : OX := y1ju (s 1) (s 2) s.h
theorem y1n5 : T1 y1aa yg8 xN [.cell 2 true 3, .t 3] y1pn := sq y1oa fun _ => by kernel_rfl
theorem y1jq : T0 y19x [.cell 2 true 3, .t 3] y1pn := sq y1oy y1n5
def y1o5 (c : AV) (h : Heap) : OX :=
oh (newC 0 (some 0) (cellsOf c) h) fun a h4 =>
oh (newC 0 (some 1) [(.int .i64 0), (.int .i64 0), (.int .i64 0)] h4) fun b h5 =>
(y1ju a b h5)
def y246 (s : St) : OX := y1o5 (s 0) s.h
theorem y1lf : T0 y18w [.cell 2 true 3, .t 3] y246 := sq y1jq fun _ => by kernel_rfl
@[simp] theorem y24n : E.pure 169 = true := rfl
theorem y27x (a : AV) : (yb E).p 169 [a] = y1o5 a [⟨0, .dead⟩, ⟨0, .dead⟩] :=
  (y17 (cf := y22p) (by kernel_rfl) rfl).trans ((y1lf _).trans (by kernel_rfl))
@[simp] theorem y24f : E.pure 106 = true := rfl
@[simp] theorem y24y : E.pure 173 = true := rfl
@[simp] theorem y24i : E.pure 174 = true := rfl
def y19e (b : AV) (h : Heap) : OX :=
oh (ym 0 (some 0) 1 3 [(.int .i64 0)] [(0, (.int .i64 27)), (1, (.int .i64 30)), (2, (.int .i64 31))] h) fun a h1 =>
oh (y9 E (yb E) 0 none true 42 [b, a] h1) fun c h2 =>
(yi h2 c)
def y1u4 (s : St) : OX := y19e (s 0) s.h
theorem y1f2 : T0 ypv [.t 2] y1u4 := fun _ => by kernel_rfl
@[simp] theorem y26w : E.pure 25 = true := rfl
theorem y1zc (a : AV) : (yb E).p 25 [a] = y19e a [⟨0, .dead⟩] :=
  (y17 (cf := y1qt) (by kernel_rfl) rfl).trans ((y1f2 _).trans (by kernel_rfl))
def ymc (c b : AV) (h : Heap) : OX :=
ob (evFa 0 b) fun g =>
ob (evLd false 1 g h) fun d =>
ob (yu 1 d c) fun a =>
ob (evLd false 1 a h) fun e =>
(yi h e)
def y1yg (s : St) : OX := ymc (s 1) (s 2) s.h
theorem y1ha : T0 yqu [.t 4] y1yg := fun _ => by kernel_rfl
def yn5 (b c : AV) (h : Heap) : OX :=
ob (y6 .lss b (.int .i64 0)) fun a =>
gb a false (some b) fun e =>
gb a false (evFa 0 c) fun k =>
gb a false (evLd false 1 k h) fun j =>
gb a false (y12 1 j h) fun g =>
gb a false (y6 .geq e g) fun i =>
ob (yf a (.bool true) i) fun d =>
cnd d
 ((yi h (.int .i64 0)))
 ((ymc b c h))
def y1u8 (s : St) : OX := yn5 (s 1) (s 2) s.h
theorem y1gi : T0 yqo [.t 4] y1u8 := sq y1ha fun _ => by kernel_rfl
def yn4 (c a : AV) (h : Heap) : OX :=
oh (newC 0 (some 0) (cellsOf c) h) fun b h1 =>
(yn5 a b h1)
def y1tu (s : St) : OX := yn4 (s 0) (s 1) s.h
theorem y153 : T0 yup [.t 4] y1tu := sq y1gi fun _ => by kernel_rfl
@[simp] theorem y26c : E.pure 48 = true := rfl
theorem y21g (b a : AV) : (yb E).p 48 [b, a] = yn4 b a [⟨0, .dead⟩] :=
  (y17 (cf := y1qr) (by kernel_rfl) rfl).trans ((y153 _).trans (by kernel_rfl))
def yhn (h : Heap) : OX :=
(yi h (.bool false))
def y5f (s : St) : OX := yhn s.h
theorem y141 : T0 yuc [.t 4] y5f := fun _ => by kernel_rfl
def yg2 (b a c : AV) (h : Heap) : OX :=
  W E 0 yez ⟨[(0, b), (1, a), (5, c)], h⟩ y5f (y5 0 y5f xN) (finP [.t 4])
def y91 (s : St) : OX := yg2 (s 0) (s 1) (s 5) s.h
theorem yh4 : T1 yez y5f (y5 0 y5f xN) [.t 4] y91 := fun s => yp.trans (by kernel_rfl)
def ygs (b a c : AV) (h : Heap) : OX :=
ob (y6 .add c (.int .i64 1)) fun d =>
(yg2 b a d h)
def y1xq (s : St) : OX := ygs (s 0) (s 1) (s 5) s.h
theorem y13u : T1 yt6 y91 (y5 0 y5f xN) [.t 4] y1xq := fun _ => by kernel_rfl
def ygr (c a b : AV) (h : Heap) : OX :=
ob (yu 1 a b) fun g =>
ob (evLd false 1 g h) fun e =>
ob (y6 .eql e c) fun d =>
cnd d
 ((yi h (.bool true)))
 ((ygs c a b h))
def y1rw (s : St) : OX := ygr (s 0) (s 1) (s 5) s.h
theorem y1fl : T1 ypu y91 (y5 0 y5f xN) [.t 4] y1rw := sq y13u fun _ => by kernel_rfl
def yi2 (d a b : AV) (h : Heap) : OX :=
ob (y12 1 a h) fun c =>
ob (y6 .lss b c) fun e =>
cnd e
 ((ygr d a b h))
 ((yhn h))
def y1vi (s : St) : OX := yi2 (s 0) (s 1) (s 5) s.h
theorem y192 : T1 yrk y91 (y5 0 y5f xN) [.t 4] y1vi := sq y1fl fun _ => by kernel_rfl
theorem ygt (b a c : AV) (h : Heap) : yg2 b a c h = (yi2 b a c h) :=
  y2b.trans ((y1m _ _ _ (n' := y91) (fun s => yh4 s)).trans ((y192 _).trans (by kernel_rfl)))
theorem y1eu : T1 yx9 y5f xN [.t 4] y91 := fun s => yw.trans (yh4 s)
def yhb (b a : AV) (h : Heap) : OX :=
(yg2 b a (.int .i64 0) h)
def y18a (s : St) : OX := yhb (s 0) (s 1) s.h
theorem y17g : T1 ywn y5f xN [.t 4] y18a := sq y1eu fun _ => by kernel_rfl
theorem y1f6 : T0 yve [.t 4] y18a := sq y141 y17g
def yhg (b a : AV) (h : Heap) : OX :=
(yhb b a h)
def y1su (s : St) : OX := yhg (s 0) (s 1) s.h
theorem y144 : T0 yq0 [.t 4] y1su := sq y1f6 fun _ => by kernel_rfl
@[simp] theorem y26y : E.pure 42 = true := rfl
theorem y1zh (b a : AV) : (yb E).p 42 [b, a] = yhg b a [] :=
  (y17 (cf := y1qd) (by kernel_rfl) rfl).trans ((y144 _).trans (by kernel_rfl))
def y1ec (b : AV) (h : Heap) : OX :=
oh (ym 0 (some 0) 1 3 [(.int .i64 0)] [(0, (.int .i64 27)), (1, (.int .i64 28)), (2, (.int .i64 29))] h) fun a h1 =>
oh (y9 E (yb E) 0 none true 42 [b, a] h1) fun c h2 =>
(yi h2 c)
def y1tq (s : St) : OX := y1ec (s 0) s.h
theorem y19s : T0 yra [.t 2] y1tq := fun _ => by kernel_rfl
@[simp] theorem y25w : E.pure 23 = true := rfl
theorem y23c (a : AV) : (yb E).p 23 [a] = y1ec a [⟨0, .dead⟩] :=
  (y17 (cf := y1qs) (by kernel_rfl) rfl).trans ((y19s _).trans (by kernel_rfl))
def y1dl (j b : AV) (h : Heap) : OX :=
oh (newC 0 (some 0) (cellsOf j) h) fun e h1 =>
ob (y6 .geq b (.int .i64 0)) fun a =>
gb a true (some b) fun d =>
gb a true (evFa 3 e) fun l =>
gb a true (evLd false 1 l h1) fun k =>
gb a true (y12 1 k h1) fun g =>
gb a true (y6 .lss d g) fun i =>
ob (yf a i (.bool false)) fun c =>
(yi h1 c)
def y1s8 (s : St) : OX := y1dl (s 0) (s 1) s.h
theorem y15x : T0 yrg [.t 4] y1s8 := fun _ => by kernel_rfl
@[simp] theorem y262 : E.pure 49 = true := rfl
theorem y1zr (b a : AV) : (yb E).p 49 [b, a] = y1dl b a [⟨0, .dead⟩] :=
  (y17 (cf := y1pz) (by kernel_rfl) rfl).trans ((y15x _).trans (by kernel_rfl))
def y1sg (e : AV) (h : Heap) : OX :=
oh (newC 0 (some 0) (cellsOf e) h) fun b h1 =>
ob (evFa 0 b) fun j =>
ob (evLd false 1 j h1) fun k =>
ob (y6 .geq k (.int .i64 23)) fun a =>
gb a true (evFa 0 b) fun d =>
gb a true (evLd false 1 d h1) fun c =>
gb a true (y6 .leq c (.int .i64 26)) fun i =>
ob (yf a i (.bool false)) fun g =>
(yi h1 g)
def y22h (s : St) : OX := y1sg (s 0) s.h
theorem y1oh : T0 y175 [.t 2] y22h := fun _ => by kernel_rfl
@[simp] theorem ynt : E.pure 17 = true := rfl
theorem y26a (a : AV) : (yb E).p 17 [a] = y1sg a [⟨0, .dead⟩] :=
  (y17 (cf := y24a) (by kernel_rfl) rfl).trans ((y1oh _).trans (by kernel_rfl))
def yix (h : Heap) : OX :=
(yi h (.int .i64 (-1)))
def y4j (s : St) : OX := yix s.h
theorem y150 : T0 ytc [.t 4] y4j := fun _ => by kernel_rfl
def yf4 (d b a c : AV) (h : Heap) : OX :=
  W E 0 yg9 ⟨[(0, d), (1, b), (7, a), (8, c)], h⟩ y4j (y5 0 y4j xN) (finP [.t 4])
def y6q (s : St) : OX := yf4 (s 0) (s 1) (s 7) (s 8) s.h
theorem yir : T1 yg9 y4j (y5 0 y4j xN) [.t 4] y6q := fun s => yp.trans (by kernel_rfl)
def yi7 (e b c a : AV) (h : Heap) : OX :=
ob (y6 .add a (.int .i64 1)) fun d =>
(yf4 e b c d h)
def y1u6 (s : St) : OX := yi7 (s 0) (s 1) (s 7) (s 8) s.h
theorem y13f : T1 ywd y6q (y5 0 y4j xN) [.t 4] y1u6 := fun _ => by kernel_rfl
def yib (c b e a : AV) (h : Heap) : OX :=
ob (yu 1 c a) fun i =>
ob (evLd false 1 i h) fun d =>
ob (y6 .eql b d) fun g =>
cnd g
 ((yi h a))
 ((yi7 c b e a h))
def y1sj (s : St) : OX := yib (s 0) (s 1) (s 7) (s 8) s.h
theorem y1bq : T1 yv8 y6q (y5 0 y4j xN) [.t 4] y1sj := sq y13f fun _ => by kernel_rfl
def yi1 (d b c a e : AV) (h : Heap) : OX :=
cnd e
 ((yib d b c a h))
 ((yix h))
def y1y6 (s : St) : OX := yi1 (s 0) (s 1) (s 7) (s 8) (s 9) s.h
theorem y17m : T1 ypx y6q (y5 0 y4j xN) [.t 4] y1y6 := sq y1bq fun _ => by kernel_rfl
def yh5 (d c b a : AV) (h : Heap) : OX :=
ob (y6 .lss a b) fun e =>
(yi1 d c b a e h)
def y1ws (s : St) : OX := yh5 (s 0) (s 1) (s 7) (s 8) s.h
theorem y1h1 : T1 yx5 y6q (y5 0 y4j xN) [.t 4] y1ws := sq y17m fun _ => by kernel_rfl
theorem yh6 (d b a c : AV) (h : Heap) : yf4 d b a c h = (yh5 d b a c h) :=
  y2b.trans ((y1m _ _ _ (n' := y6q) (fun s => yir s)).trans ((y1h1 _).trans (by kernel_rfl)))
theorem y1c1 : T1 ypo y4j xN [.t 4] y6q := fun s => yw.trans (yir s)
def yhi (a c : AV) (h : Heap) : OX :=
ob (y12 1 a h) fun b =>
(yf4 a c b (.int .i64 0) h)
def y16i (s : St) : OX := yhi (s 0) (s 1) s.h
theorem y116 : T1 yuz y4j xN [.t 4] y16i := sq y1c1 fun _ => by kernel_rfl
theorem y13g : T0 yrd [.t 4] y16i := sq y150 y116
def ybp (b a : AV) (h : Heap) : OX :=
(yhi b a h)
def y1lj (s : St) : OX := ybp (s 0) (s 1) s.h
theorem yyj : T0 ym2 [.t 4] y1lj := sq y13g fun _ => by kernel_rfl
@[simp] theorem y27l : E.pure 45 = true := rfl
theorem y23w (b a : AV) : (yb E).p 45 [b, a] = ybp b a [] :=
  (y17 (cf := y1pv) (by kernel_rfl) rfl).trans ((yyj _).trans (by kernel_rfl))
end
end Go.Vm
