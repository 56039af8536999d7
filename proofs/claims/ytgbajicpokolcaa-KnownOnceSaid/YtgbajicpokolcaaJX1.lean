/- Functions of the machine as plain functions that go on with what follows. -/
import Derived.Test.YtgbajicpokolcaaJEnv
set_option linter.unusedSimpArgs false
set_option linter.unusedVariables false
set_option linter.unusedSectionVars false
namespace Go.Vm
noncomputable section
def yd2 (c a : AV) (h : Heap) : OX :=
ob (evLd true 9 c h) fun d =>
oh (y9 E (yb E) 0 none true 51 [d] h) fun b h1 =>
ob (y3d 0 b) fun e =>
ob (y3d 1 b) fun g =>
oh (evSt 4 a e h1) fun _ h2 =>
(ob (evLd true 4 a h2) fun r0 =>
  yi h2 (.tup [r0, g]))
def yh (s : St) : OX := yd2 (s 1) (s 2) s.h
theorem y1mv : T0 y19k [.cell 2 true 4, .t 3] yh := fun _ => by kernel_rfl
def ybr (c a b : AV) (h : Heap) : OX :=
cnd b
 (ob (yd [(.int .i64 0), (.int .i64 0), (.int .i64 0), (.int .i64 0)] [(0, 1, (.int .i64 (-1))), (1, 1, (.int .i64 (-1))), (2, 1, (.int .i64 (-1))), (3, 1, (.int .i64 (-1)))]) fun d =>
oh (evSt 4 a d h) fun _ h3 =>
(ob (evLd true 4 a h3) fun r0 =>
  yi h3 (.tup [r0, (.bool true)])))
 ((yd2 c a h))
def y23r (s : St) : OX := ybr (s 1) (s 2) (s 134) s.h
theorem y1lk : T1 y1ah yh (y5 0 yh xN) [.cell 2 true 4, .t 3] y23r := fun _ => by kernel_rfl
def ycu (b a d : AV) (h : Heap) : OX :=
ob (y6 .eql d (.int .i64 27)) fun c =>
cnd c
 ((ybr b a c h))
 (ob (y6 .eql d (.int .i64 33)) fun e =>
(ybr b a e h))
def y22k (s : St) : OX := ycu (s 1) (s 2) (s 11) s.h
theorem y1ib : T1 y1gs yh (y5 0 yh xN) [.cell 2 true 4, .t 3] y22k := sq y1lk fun _ => by kernel_rfl
def ycw (c b j i : AV) (h : Heap) : OX :=
cnd i
 (ob (yd [(.int .i64 0), (.int .i64 0), (.int .i64 0), (.int .i64 0)] [(0, 1, (.int .i64 (-1))), (1, 1, (.int .i64 1)), (2, 1, (.int .i64 1)), (3, 1, (.int .i64 (-1)))]) fun m =>
ob (evFa 5 c) fun e =>
ob (evLd false 1 e h) fun n =>
ob (y6 .geq n (.int .i64 0)) fun a =>
ofp (fgd a true (some ([], []))) fun f5 =>
gb a true (evFa 5 c) fun d =>
ofp (fgd a true (some (ids1 d, []))) fun f6 =>
gb a true (evLd false 1 d h) fun l =>
ofp (fgd a true (some ([], []))) fun f7 =>
gb a true (y6 .leq l (.int .i64 5)) fun g =>
ob (yf a g (.bool false)) fun k =>
oh (evSt 4 b m h) fun _ h4 =>
okK (yz [([], []), ([], []), (ids1 e, []), ([], []), ([], []), f5, f6, f7, ([], []), ([], ids1 b), ([], [])] [(6, 9)]) <|
(ob (evLd true 4 b h4) fun r0 =>
  yi h4 (.tup [r0, k])))
 ((ycu c b j h))
def y231 (s : St) : OX := ycw (s 1) (s 2) (s 11) (s 123) s.h
theorem y1jo : T1 y126 yh (y5 0 yh xN) [.cell 2 true 4, .t 3] y231 := fun s => (y1r rfl (y1ib s)).trans (by kernel_rfl)
def ycz (d c a : AV) (h : Heap) : OX :=
ob (y6 .eql a (.int .i64 28)) fun b =>
(ycw d c a b h)
def y240 (s : St) : OX := ycz (s 1) (s 2) (s 11) s.h
theorem y1lv : T1 y11h yh (y5 0 yh xN) [.cell 2 true 4, .t 3] y240 := sq y1jo fun _ => by kernel_rfl
def ycx (b a c g : AV) (h : Heap) : OX :=
cnd g
 (ob (yd [(.int .i64 0), (.int .i64 0), (.int .i64 0), (.int .i64 0)] [(0, 1, (.int .i64 3)), (1, 1, (.int .i64 1)), (2, 1, (.int .i64 (-1))), (3, 1, (.int .i64 (-1)))]) fun d =>
ob (evFa 7 b) fun i =>
ob (evLd false 1 i h) fun e =>
oh (y9 E (yb E) 0 none true 37 [e] h) fun j h5 =>
oh (evSt 4 a d h5) fun _ h6 =>
(ob (evLd true 4 a h6) fun r0 =>
  yi h6 (.tup [r0, j])))
 ((ycz b a c h))
def y214 (s : St) : OX := ycx (s 1) (s 2) (s 11) (s 117) s.h
theorem y1nt : T1 y1gt yh (y5 0 yh xN) [.cell 2 true 4, .t 3] y214 := fun s => (y1r rfl (y1lv s)).trans (by kernel_rfl)
def yd1 (d c a : AV) (h : Heap) : OX :=
ob (y6 .eql a (.int .i64 21)) fun b =>
(ycx d c a b h)
def y1zo (s : St) : OX := yd1 (s 1) (s 2) (s 11) s.h
theorem y1oe : T1 y18i yh (y5 0 yh xN) [.cell 2 true 4, .t 3] y1zo := sq y1nt fun _ => by kernel_rfl
def ycv (b a c e : AV) (h : Heap) : OX :=
cnd e
 (ob (yd [(.int .i64 0), (.int .i64 0), (.int .i64 0), (.int .i64 0)] [(0, 1, (.int .i64 (-1))), (1, 1, (.int .i64 0)), (2, 1, (.int .i64 (-1))), (3, 1, (.int .i64 (-1)))]) fun d =>
oh (evSt 4 a d h) fun _ h7 =>
(ob (evLd true 4 a h7) fun r0 =>
  yi h7 (.tup [r0, (.bool true)])))
 ((yd1 b a c h))
def y20w (s : St) : OX := ycv (s 1) (s 2) (s 11) (s 114) s.h
theorem y1ie : T1 y18m yh (y5 0 yh xN) [.cell 2 true 4, .t 3] y20w := fun s => (y1r rfl (y1oe s)).trans (by kernel_rfl)
def yct (c b a : AV) (h : Heap) : OX :=
ob (y6 .eql a (.int .i64 19)) fun d =>
(ycv c b a d h)
def y1zi (s : St) : OX := yct (s 1) (s 2) (s 11) s.h
theorem y1n9 : T1 y1cb yh (y5 0 yh xN) [.cell 2 true 4, .t 3] y1zi := sq y1ie fun _ => by kernel_rfl
def y78 (b a e j : AV) (h : Heap) : OX :=
cnd j
 (ob (yd [(.int .i64 0), (.int .i64 0), (.int .i64 0), (.int .i64 0)] [(0, 1, (.int .i64 (-1))), (1, 1, (.int .i64 3)), (2, 1, (.int .i64 0)), (3, 1, (.int .i64 (-1)))]) fun i =>
ob (evFa 5 b) fun c =>
ob (evLd false 1 c h) fun g =>
ob (y6 .geq g (.int .i64 0)) fun d =>
oh (evSt 4 a i h) fun _ h8 =>
okK (yz [([], []), ([], []), (ids1 c, []), ([], []), ([], ids1 a), ([], [])] [(2, 4)]) <|
(ob (evLd true 4 a h8) fun r0 =>
  yi h8 (.tup [r0, d])))
 ((yct b a e h))
def y1xf (s : St) : OX := y78 (s 1) (s 2) (s 11) (s 108) s.h
theorem y173 : T1 ysy yh (y5 0 yh xN) [.cell 2 true 4, .t 3] y1xf := fun s => (y1r rfl (y1n9 s)).trans (by kernel_rfl)
def y70 (c b a : AV) (h : Heap) : OX :=
ob (y6 .eql a (.int .i64 17)) fun d =>
(y78 c b a d h)
def y1sd (s : St) : OX := y70 (s 1) (s 2) (s 11) s.h
theorem y13l : T1 ysd yh (y5 0 yh xN) [.cell 2 true 4, .t 3] y1sd := sq y173 fun _ => by kernel_rfl
def y7o (b a g e : AV) (h : Heap) : OX :=
cnd e
 (ob (yd [(.int .i64 0), (.int .i64 0), (.int .i64 0), (.int .i64 0)] [(0, 1, (.int .i64 0)), (1, 1, (.int .i64 3)), (2, 1, (.int .i64 (-1))), (3, 1, (.int .i64 (-1)))]) fun d =>
ob (evFa 5 b) fun c =>
ob (evLd false 1 c h) fun j =>
ob (y6 .geq j (.int .i64 0)) fun i =>
oh (evSt 4 a d h) fun _ h9 =>
okK (yz [([], []), ([], []), (ids1 c, []), ([], []), ([], ids1 a), ([], [])] [(2, 4)]) <|
(ob (evLd true 4 a h9) fun r0 =>
  yi h9 (.tup [r0, i])))
 ((y70 b a g h))
def y1rt (s : St) : OX := y7o (s 1) (s 2) (s 11) (s 102) s.h
theorem y1cy : T1 ysk yh (y5 0 yh xN) [.cell 2 true 4, .t 3] y1rt := fun s => (y1r rfl (y13l s)).trans (by kernel_rfl)
def y7d (d c a : AV) (h : Heap) : OX :=
ob (y6 .eql a (.int .i64 16)) fun b =>
(y7o d c a b h)
def y1up (s : St) : OX := y7d (s 1) (s 2) (s 11) s.h
theorem y17c : T1 yqd yh (y5 0 yh xN) [.cell 2 true 4, .t 3] y1up := sq y1cy fun _ => by kernel_rfl
def y71 (b a c d : AV) (h : Heap) : OX :=
cnd d
 (ob (yd [(.int .i64 0), (.int .i64 0), (.int .i64 0), (.int .i64 0)] [(0, 1, (.int .i64 1)), (1, 1, (.int .i64 3)), (2, 1, (.int .i64 (-1))), (3, 1, (.int .i64 (-1)))]) fun e =>
oh (evSt 4 a e h) fun _ h10 =>
(ob (evLd true 4 a h10) fun r0 =>
  yi h10 (.tup [r0, (.bool true)])))
 ((y7d b a c h))
def y1ww (s : St) : OX := y71 (s 1) (s 2) (s 11) (s 99) s.h
theorem y130 : T1 ywu yh (y5 0 yh xN) [.cell 2 true 4, .t 3] y1ww := fun s => (y1r rfl (y17c s)).trans (by kernel_rfl)
def y7g (c b a : AV) (h : Heap) : OX :=
ob (y6 .eql a (.int .i64 15)) fun d =>
(y71 c b a d h)
def y1u3 (s : St) : OX := y7g (s 1) (s 2) (s 11) s.h
theorem y1br : T1 yvo yh (y5 0 yh xN) [.cell 2 true 4, .t 3] y1u3 := sq y130 fun _ => by kernel_rfl
def y7q (b a c d : AV) (h : Heap) : OX :=
cnd d
 (ob (yd [(.int .i64 0), (.int .i64 0), (.int .i64 0), (.int .i64 0)] [(0, 1, (.int .i64 (-1))), (1, 1, (.int .i64 3)), (2, 1, (.int .i64 1)), (3, 1, (.int .i64 0))]) fun e =>
oh (evSt 4 a e h) fun _ h11 =>
(ob (evLd true 4 a h11) fun r0 =>
  yi h11 (.tup [r0, (.bool true)])))
 ((y7g b a c h))
def y1xr (s : St) : OX := y7q (s 1) (s 2) (s 11) (s 96) s.h
theorem y1a0 : T1 yvw yh (y5 0 yh xN) [.cell 2 true 4, .t 3] y1xr := fun s => (y1r rfl (y1br s)).trans (by kernel_rfl)
def y7h (d b a : AV) (h : Heap) : OX :=
ob (y6 .eql a (.int .i64 14)) fun c =>
(y7q d b a c h)
def y1w6 (s : St) : OX := y7h (s 1) (s 2) (s 11) s.h
theorem y15a : T1 ywr yh (y5 0 yh xN) [.cell 2 true 4, .t 3] y1w6 := sq y1a0 fun _ => by kernel_rfl
def y7c (b a c e : AV) (h : Heap) : OX :=
cnd e
 (ob (yd [(.int .i64 0), (.int .i64 0), (.int .i64 0), (.int .i64 0)] [(0, 1, (.int .i64 0)), (1, 1, (.int .i64 3)), (2, 1, (.int .i64 1)), (3, 1, (.int .i64 (-1)))]) fun d =>
oh (evSt 4 a d h) fun _ h12 =>
(ob (evLd true 4 a h12) fun r0 =>
  yi h12 (.tup [r0, (.bool true)])))
 ((y7h b a c h))
def y1wc (s : St) : OX := y7c (s 1) (s 2) (s 11) (s 93) s.h
theorem y11x : T1 ywv yh (y5 0 yh xN) [.cell 2 true 4, .t 3] y1wc := fun s => (y1r rfl (y15a s)).trans (by kernel_rfl)
def y74 (c b a : AV) (h : Heap) : OX :=
ob (y6 .eql a (.int .i64 13)) fun d =>
(y7c c b a d h)
def y1s3 (s : St) : OX := y74 (s 1) (s 2) (s 11) s.h
theorem y15v : T1 yr9 yh (y5 0 yh xN) [.cell 2 true 4, .t 3] y1s3 := sq y11x fun _ => by kernel_rfl
def y6t (c a d e : AV) (h : Heap) : OX :=
cnd e
 (ob (yd [(.int .i64 0), (.int .i64 0), (.int .i64 0), (.int .i64 0)] [(0, 1, (.int .i64 (-1))), (1, 1, (.int .i64 3)), (2, 1, (.int .i64 3)), (3, 1, (.int .i64 (-1)))]) fun b =>
oh (evSt 4 a b h) fun _ h13 =>
(ob (evLd true 4 a h13) fun r0 =>
  yi h13 (.tup [r0, (.bool true)])))
 ((y74 c a d h))
def y1s0 (s : St) : OX := y6t (s 1) (s 2) (s 11) (s 90) s.h
theorem y13x : T1 yud yh (y5 0 yh xN) [.cell 2 true 4, .t 3] y1s0 := fun s => (y1r rfl (y15v s)).trans (by kernel_rfl)
def y7f (d b a : AV) (h : Heap) : OX :=
ob (y6 .eql a (.int .i64 11)) fun c =>
(y6t d b a c h)
def y1ug (s : St) : OX := y7f (s 1) (s 2) (s 11) s.h
theorem y18g : T1 yxn yh (y5 0 yh xN) [.cell 2 true 4, .t 3] y1ug := sq y13x fun _ => by kernel_rfl
def y7k (b a c e : AV) (h : Heap) : OX :=
cnd e
 (ob (yd [(.int .i64 0), (.int .i64 0), (.int .i64 0), (.int .i64 0)] [(0, 1, (.int .i64 (-1))), (1, 1, (.int .i64 1)), (2, 1, (.int .i64 (-1))), (3, 1, (.int .i64 (-1)))]) fun d =>
oh (evSt 4 a d h) fun _ h14 =>
(ob (evLd true 4 a h14) fun r0 =>
  yi h14 (.tup [r0, (.bool true)])))
 ((y7f b a c h))
def y1w8 (s : St) : OX := y7k (s 1) (s 2) (s 11) (s 87) s.h
theorem y1gu : T1 yxp yh (y5 0 yh xN) [.cell 2 true 4, .t 3] y1w8 := fun s => (y1r rfl (y18g s)).trans (by kernel_rfl)
def y7m (d b a : AV) (h : Heap) : OX :=
ob (y6 .eql a (.int .i64 10)) fun c =>
(y7k d b a c h)
def y1y1 (s : St) : OX := y7m (s 1) (s 2) (s 11) s.h
theorem y1e4 : T1 yrf yh (y5 0 yh xN) [.cell 2 true 4, .t 3] y1y1 := sq y1gu fun _ => by kernel_rfl
def y73 (b a d c : AV) (h : Heap) : OX :=
cnd c
 (ob (yd [(.int .i64 0), (.int .i64 0), (.int .i64 0), (.int .i64 0)] [(0, 1, (.int .i64 (-1))), (1, 1, (.int .i64 3)), (2, 1, (.int .i64 1)), (3, 1, (.int .i64 (-1)))]) fun e =>
oh (evSt 4 a e h) fun _ h15 =>
(ob (evLd true 4 a h15) fun r0 =>
  yi h15 (.tup [r0, (.bool true)])))
 ((y7m b a d h))
def y1uo (s : St) : OX := y73 (s 1) (s 2) (s 11) (s 84) s.h
theorem y1hh : T1 yr2 yh (y5 0 yh xN) [.cell 2 true 4, .t 3] y1uo := fun s => (y1r rfl (y1e4 s)).trans (by kernel_rfl)
def y7i (c b a : AV) (h : Heap) : OX :=
ob (y6 .eql a (.int .i64 9)) fun d =>
(y73 c b a d h)
def y1vr (s : St) : OX := y7i (s 1) (s 2) (s 11) s.h
theorem y11y : T1 yry yh (y5 0 yh xN) [.cell 2 true 4, .t 3] y1vr := sq y1hh fun _ => by kernel_rfl
def y76 (b a d c : AV) (h : Heap) : OX :=
cnd c
 (ob (yd [(.int .i64 0), (.int .i64 0), (.int .i64 0), (.int .i64 0)] [(0, 1, (.int .i64 1)), (1, 1, (.int .i64 3)), (2, 1, (.int .i64 (-1))), (3, 1, (.int .i64 (-1)))]) fun j =>
ob (evFa 7 b) fun i =>
ob (evLd false 1 i h) fun e =>
oh (y9 E (yb E) 0 none true 37 [e] h) fun g h16 =>
oh (evSt 4 a j h16) fun _ h17 =>
(ob (evLd true 4 a h17) fun r0 =>
  yi h17 (.tup [r0, g])))
 ((y7i b a d h))
def y1w0 (s : St) : OX := y76 (s 1) (s 2) (s 11) (s 78) s.h
theorem y17n : T1 ysw yh (y5 0 yh xN) [.cell 2 true 4, .t 3] y1w0 := fun s => (y1r rfl (y11y s)).trans (by kernel_rfl)
def y6u (c b a : AV) (h : Heap) : OX :=
ob (y6 .eql a (.int .i64 22)) fun d =>
(y76 c b a d h)
def y1y8 (s : St) : OX := y6u (s 1) (s 2) (s 11) s.h
theorem y1c8 : T1 ytz yh (y5 0 yh xN) [.cell 2 true 4, .t 3] y1y8 := sq y17n fun _ => by kernel_rfl
def y6y (b a e i : AV) (h : Heap) : OX :=
cnd i
 (ob (yd [(.int .i64 0), (.int .i64 0), (.int .i64 0), (.int .i64 0)] [(0, 1, (.int .i64 (-1))), (1, 1, (.int .i64 3)), (2, 1, (.int .i64 (-1))), (3, 1, (.int .i64 (-1)))]) fun d =>
ob (evFa 7 b) fun g =>
ob (evLd false 1 g h) fun c =>
oh (y9 E (yb E) 0 none true 37 [c] h) fun j h18 =>
oh (evSt 4 a d h18) fun _ h19 =>
(ob (evLd true 4 a h19) fun r0 =>
  yi h19 (.tup [r0, j])))
 ((y6u b a e h))
def y1vx (s : St) : OX := y6y (s 1) (s 2) (s 11) (s 72) s.h
theorem y15u : T1 yp4 yh (y5 0 yh xN) [.cell 2 true 4, .t 3] y1vx := fun s => (y1r rfl (y1c8 s)).trans (by kernel_rfl)
def y7a (c b a : AV) (h : Heap) : OX :=
ob (y6 .eql a (.int .i64 12)) fun d =>
(y6y c b a d h)
def y1rd (s : St) : OX := y7a (s 1) (s 2) (s 11) s.h
theorem y1d2 : T1 yw1 yh (y5 0 yh xN) [.cell 2 true 4, .t 3] y1rd := sq y15u fun _ => by kernel_rfl
def y5w (b a c e : AV) (h : Heap) : OX :=
cnd e
 (ob (yd [(.int .i64 0), (.int .i64 0), (.int .i64 0), (.int .i64 0)] [(0, 1, (.int .i64 (-1))), (1, 1, (.int .i64 3)), (2, 1, (.int .i64 (-1))), (3, 1, (.int .i64 (-1)))]) fun d =>
oh (evSt 4 a d h) fun _ h20 =>
(ob (evLd true 4 a h20) fun r0 =>
  yi h20 (.tup [r0, (.bool true)])))
 ((y7a b a c h))
def y1tx (s : St) : OX := y5w (s 1) (s 2) (s 11) (s 68) s.h
theorem y1bc : T1 yqe yh (y5 0 yh xN) [.cell 2 true 4, .t 3] y1tx := fun s => (y1r rfl (y1d2 s)).trans (by kernel_rfl)
def y75 (c b a : AV) (h : Heap) : OX :=
ob (y6 .eql a (.int .i64 8)) fun d =>
cnd d
 ((y5w c b a d h))
 (ob (y6 .eql a (.int .i64 31)) fun e =>
(y5w c b a e h))
def y1t3 (s : St) : OX := y75 (s 1) (s 2) (s 11) s.h
theorem y1hb : T1 ytb yh (y5 0 yh xN) [.cell 2 true 4, .t 3] y1t3 := sq y1bc fun _ => by kernel_rfl
def y7s (b a c d : AV) (h : Heap) : OX :=
cnd d
 (ob (yd [(.int .i64 0), (.int .i64 0), (.int .i64 0), (.int .i64 0)] [(0, 1, (.int .i64 (-1))), (1, 1, (.int .i64 0)), (2, 1, (.int .i64 (-1))), (3, 1, (.int .i64 (-1)))]) fun e =>
oh (evSt 4 a e h) fun _ h21 =>
(ob (evLd true 4 a h21) fun r0 =>
  yi h21 (.tup [r0, (.bool true)])))
 ((y75 b a c h))
def y1w2 (s : St) : OX := y7s (s 1) (s 2) (s 11) (s 65) s.h
theorem y135 : T1 yxb yh (y5 0 yh xN) [.cell 2 true 4, .t 3] y1w2 := fun s => (y1r rfl (y1hb s)).trans (by kernel_rfl)
def y79 (d b a : AV) (h : Heap) : OX :=
ob (y6 .eql a (.int .i64 7)) fun c =>
(y7s d b a c h)
def y1s5 (s : St) : OX := y79 (s 1) (s 2) (s 11) s.h
theorem y13i : T1 yvg yh (y5 0 yh xN) [.cell 2 true 4, .t 3] y1s5 := sq y135 fun _ => by kernel_rfl
def y72 (d a j r : AV) (h : Heap) : OX :=
cnd r
 (ob (evFa 5 d) fun n =>
ob (evLd false 1 n h) fun k =>
oh (y9 E (yb E) 0 none true 50 [k] h) fun b h22 =>
ob (y3d 0 b) fun e =>
ob (y3d 1 b) fun g =>
ob (y3d 2 b) fun o =>
ob (yd [(.int .i64 0), (.int .i64 0), (.int .i64 0), (.int .i64 0)] [(0, 1, o), (1, 1, e), (2, 1, (.int .i64 (-1))), (3, 1, (.int .i64 (-1)))]) fun i =>
ob (y6 .neq e (.int .i64 0)) fun c =>
gb c true (some g) fun l =>
gb c true (y6 .eql l (.int .i64 0)) fun m =>
ob (yf c m (.bool false)) fun p =>
oh (evSt 4 a i h22) fun _ h23 =>
(ob (evLd true 4 a h23) fun r0 =>
  yi h23 (.tup [r0, p])))
 ((y79 d a j h))
def y1vd (s : St) : OX := y72 (s 1) (s 2) (s 11) (s 47) s.h
theorem y191 : T1 yxv yh (y5 0 yh xN) [.cell 2 true 4, .t 3] y1vd := fun s => (y1r rfl (y13i s)).trans (by kernel_rfl)
def y6v (c b a : AV) (h : Heap) : OX :=
ob (y6 .eql a (.int .i64 6)) fun d =>
(y72 c b a d h)
def y1tr (s : St) : OX := y6v (s 1) (s 2) (s 11) s.h
theorem y160 : T1 yvx yh (y5 0 yh xN) [.cell 2 true 4, .t 3] y1tr := sq y191 fun _ => by kernel_rfl
def y6x (a d j u : AV) (h : Heap) : OX :=
cnd u
 (ob (evFa 5 a) fun k =>
ob (evLd false 1 k h) fun g =>
oh (y9 E (yb E) 0 none true 50 [g] h) fun b h24 =>
ob (y3d 0 b) fun l =>
ob (y3d 1 b) fun e =>
ob (y3d 2 b) fun m =>
ob (yd [(.int .i64 0), (.int .i64 0), (.int .i64 0), (.int .i64 0)] [(0, 1, m), (1, 1, l), (2, 1, e), (3, 1, (.int .i64 (-1)))]) fun o =>
ob (evFa 5 a) fun w =>
ob (evLd false 1 w h24) fun n =>
ob (evFa 5 a) fun v =>
ob (evLd false 1 v h24) fun t =>
ob (y6 .eql n t) fun c =>
gb c true (some e) fun r =>
gb c true (y6 .neq r (.int .i64 0)) fun i =>
ob (yf c i (.bool false)) fun p =>
oh (evSt 4 d o h24) fun _ h25 =>
(ob (evLd true 4 d h25) fun r0 =>
  yi h25 (.tup [r0, p])))
 ((y6v a d j h))
def y1rm (s : St) : OX := y6x (s 1) (s 2) (s 11) (s 25) s.h
theorem y17j : T1 yqn yh (y5 0 yh xN) [.cell 2 true 4, .t 3] y1rm := fun s => (y1r rfl (y160 s)).trans (by kernel_rfl)
def y7p (c b a : AV) (h : Heap) : OX :=
ob (y6 .eql a (.int .i64 5)) fun d =>
(y6x c b a d h)
def y1rz (s : St) : OX := y7p (s 1) (s 2) (s 11) s.h
theorem y13n : T1 ytx yh (y5 0 yh xN) [.cell 2 true 4, .t 3] y1rz := sq y17j fun _ => by kernel_rfl
def y6w (b a c e : AV) (h : Heap) : OX :=
cnd e
 (ob (yd [(.int .i64 0), (.int .i64 0), (.int .i64 0), (.int .i64 0)] [(0, 1, (.int .i64 0)), (1, 1, (.int .i64 0)), (2, 1, (.int .i64 (-1))), (3, 1, (.int .i64 (-1)))]) fun d =>
oh (evSt 4 a d h) fun _ h26 =>
(ob (evLd true 4 a h26) fun r0 =>
  yi h26 (.tup [r0, (.bool true)])))
 ((y7p b a c h))
def y1tp (s : St) : OX := y6w (s 1) (s 2) (s 11) (s 22) s.h
theorem y1c6 : T1 ytt yh (y5 0 yh xN) [.cell 2 true 4, .t 3] y1tp := fun s => (y1r rfl (y13n s)).trans (by kernel_rfl)
def y77 (c b a : AV) (h : Heap) : OX :=
ob (y6 .eql a (.int .i64 4)) fun d =>
(y6w c b a d h)
def y1rh (s : St) : OX := y77 (s 1) (s 2) (s 11) s.h
theorem y1gb : T1 ypj yh (y5 0 yh xN) [.cell 2 true 4, .t 3] y1rh := sq y1c6 fun _ => by kernel_rfl
def y4x (b a c e : AV) (h : Heap) : OX :=
cnd e
 (ob (yd [(.int .i64 0), (.int .i64 0), (.int .i64 0), (.int .i64 0)] [(0, 1, (.int .i64 3)), (1, 1, (.int .i64 (-1))), (2, 1, (.int .i64 (-1))), (3, 1, (.int .i64 (-1)))]) fun d =>
oh (evSt 4 a d h) fun _ h27 =>
(ob (evLd true 4 a h27) fun r0 =>
  yi h27 (.tup [r0, (.bool true)])))
 ((y77 b a c h))
def y1va (s : St) : OX := y4x (s 1) (s 2) (s 11) (s 16) s.h
theorem y1du : T1 yte yh (y5 0 yh xN) [.cell 2 true 4, .t 3] y1va := fun s => (y1r rfl (y1gb s)).trans (by kernel_rfl)
def y7n (c b a : AV) (h : Heap) : OX :=
ob (y6 .eql a (.int .i64 2)) fun d =>
cnd d
 ((y4x c b a d h))
 (ob (y6 .eql a (.int .i64 3)) fun e =>
cnd e
 ((y4x c b a e h))
 (ob (y6 .eql a (.int .i64 20)) fun g =>
cnd g
 ((y4x c b a g h))
 (ob (y6 .eql a (.int .i64 32)) fun i =>
(y4x c b a i h))))
def y1sb (s : St) : OX := y7n (s 1) (s 2) (s 11) s.h
theorem y14c : T1 yv6 yh (y5 0 yh xN) [.cell 2 true 4, .t 3] y1sb := sq y1du fun _ => by kernel_rfl
def y5v (b a e d : AV) (h : Heap) : OX :=
cnd d
 (ob (yd [(.int .i64 0), (.int .i64 0), (.int .i64 0), (.int .i64 0)] [(0, 1, (.int .i64 0)), (1, 1, (.int .i64 (-1))), (2, 1, (.int .i64 (-1))), (3, 1, (.int .i64 (-1)))]) fun c =>
oh (evSt 4 a c h) fun _ h28 =>
(ob (evLd true 4 a h28) fun r0 =>
  yi h28 (.tup [r0, (.bool true)])))
 ((y7n b a e h))
def y1y5 (s : St) : OX := y5v (s 1) (s 2) (s 11) (s 12) s.h
theorem y12h : T1 ytp yh (y5 0 yh xN) [.cell 2 true 4, .t 3] y1y5 := fun s => (y1r rfl (y14c s)).trans (by kernel_rfl)
def y7e (d c a : AV) (h : Heap) : OX :=
ob (y6 .eql a (.int .i64 1)) fun b =>
cnd b
 ((y5v d c a b h))
 (ob (y6 .eql a (.int .i64 18)) fun e =>
(y5v d c a e h))
def y1gz (s : St) : OX := y7e (s 1) (s 2) (s 11) s.h
theorem y15o : T1 ypl yh (y5 0 yh xN) [.cell 2 true 4, .t 3] y1gz := sq y12h fun _ => by kernel_rfl
theorem y152 : T1 yvj yh xN [.cell 2 true 4, .t 3] y1gz := fun s => yw.trans (y15o s)
def y7j (a b : AV) (h : Heap) : OX :=
ob (evFa 0 a) fun c =>
ob (evLd false 1 c h) fun d =>
(y7e a b d h)
def y1dg (s : St) : OX := y7j (s 1) (s 2) s.h
theorem y17h : T1 ywo yh xN [.cell 2 true 4, .t 3] y1dg := sq y152 fun _ => by kernel_rfl
theorem y1df : T0 ysh [.cell 2 true 4, .t 3] y1dg := sq y1mv y17h
def y6r (c : AV) (h : Heap) : OX :=
oh (newC 0 (some 0) (cellsOf c) h) fun a h29 =>
oh (newC 0 (some 1) [(.int .i64 0), (.int .i64 0), (.int .i64 0), (.int .i64 0)] h29) fun b h30 =>
(y7j a b h30)
def y1vl (s : St) : OX := y6r (s 0) s.h
theorem y16w : T0 ywx [.cell 2 true 4, .t 3] y1vl := sq y1df fun _ => by kernel_rfl
@[simp] theorem y284 : E.pure 47 = true := rfl
theorem y1hd (a : AV) : (yb E).p 47 [a] = y6r a [⟨0, .dead⟩, ⟨0, .dead⟩] :=
  (y17 (cf := y1zb) (by kernel_rfl) rfl).trans ((y16w _).trans (by kernel_rfl))
def y1h8 (n : AV) (h : Heap) : OX :=
oh (newC 0 (some 0) (cellsOf n) h) fun a h1 =>
ob (evFa 0 a) fun l =>
ob (evLd false 1 l h1) fun p =>
ob (y6 .geq p (.int .i64 7)) fun b =>
gb b true (evFa 0 a) fun t =>
gb b true (evLd false 1 t h1) fun i =>
gb b true (y6 .leq i (.int .i64 12)) fun B =>
ob (yf b B (.bool false)) fun d =>
gb d false (evFa 0 a) fun u =>
gb d false (evLd false 1 u h1) fun x =>
gb d false (y6 .eql x (.int .i64 20)) fun v =>
ob (yf d (.bool true) v) fun c =>
gb c false (evFa 0 a) fun m =>
gb c false (evLd false 1 m h1) fun y =>
gb c false (y6 .eql y (.int .i64 21)) fun r =>
ob (yf c (.bool true) r) fun e =>
gb e false (evFa 0 a) fun z =>
gb e false (evLd false 1 z h1) fun w =>
gb e false (y6 .eql w (.int .i64 31)) fun k =>
ob (yf e (.bool true) k) fun g =>
gb g false (evLd true 9 a h1) fun A =>
gh g false (y9 E (yb E) 0 none true 17 [A] h1) h1 fun o h2 =>
ob (yf g (.bool true) o) fun j =>
(yi h2 j)
def y249 (s : St) : OX := y1h8 (s 0) s.h
theorem y1os : T0 y18e [.t 2] y249 := fun _ => by kernel_rfl
@[simp] theorem y25q : E.pure 18 = true := rfl
theorem y27f (a : AV) : (yb E).p 18 [a] = y1h8 a [⟨0, .dead⟩] :=
  (y17 (cf := y21y) (by kernel_rfl) rfl).trans ((y1os _).trans (by kernel_rfl))
@[simp] theorem y24q : E.pure 175 = true := rfl
@[simp] theorem y28b : E.pure 16 = true := rfl
@[simp] theorem y27i : E.pure 38 = true := rfl
@[simp] theorem y26l : E.pure 65 = true := rfl
def y1tg (h : Heap) : OX :=
(yi h (.tup [(.int .i64 0), (.int .i64 0), (.int .i64 0)]))
def y2p (s : St) : OX := y1tg s.h
theorem y1op : T0 y1cu [.t 2, .t 3, .t 4] y2p := fun _ => by kernel_rfl
def yzz (a e : AV) (h : Heap) : OX :=
cnd e
 ((yi h (.tup [(.int .i64 1), (.int .i64 0), (.int .i64 1)])))
 (ob (y6 .eql a (.int .i64 117)) fun b =>
cnd b
 ((yi h (.tup [(.int .i64 2), (.int .i64 0), (.int .i64 2)])))
 (ob (y6 .eql a (.int .i64 133)) fun d =>
cnd d
 ((yi h (.tup [(.int .i64 1), (.int .i64 0), (.int .i64 2)])))
 (ob (y6 .eql a (.int .i64 136)) fun c =>
cnd c
 ((yi h (.tup [(.int .i64 2), (.int .i64 0), (.int .i64 1)])))
 ((y1tg h)))))
def y224 (s : St) : OX := yzz (s 5) (s 33) s.h
theorem y1nc : T1 y1gn y2p (y5 0 y2p xN) [.t 2, .t 3, .t 4] y224 := fun _ => by kernel_rfl
def y1w1 (a : AV) (h : Heap) : OX :=
ob (y6 .eql a (.int .i64 116)) fun b =>
cnd b
 ((yzz a b h))
 (ob (y6 .eql a (.int .i64 145)) fun d =>
cnd d
 ((yzz a d h))
 (ob (y6 .eql a (.int .i64 146)) fun c =>
cnd c
 ((yzz a c h))
 (ob (y6 .eql a (.int .i64 147)) fun e =>
(yzz a e h))))
def y219 (s : St) : OX := y1w1 (s 5) s.h
theorem y1ik : T1 y17l y2p (y5 0 y2p xN) [.t 2, .t 3, .t 4] y219 := sq y1nc fun _ => by kernel_rfl
def y1tt (b a : AV) (h : Heap) : OX :=
cnd a
 ((yi h (.tup [(.int .i64 2), (.int .i64 2), (.int .i64 1)])))
 ((y1w1 b h))
def y1zv (s : St) : OX := y1tt (s 5) (s 31) s.h
theorem y1i9 : T1 y19f y2p (y5 0 y2p xN) [.t 2, .t 3, .t 4] y1zv := fun s => (y1r rfl (y1ik s)).trans (by kernel_rfl)
def y1vk (a : AV) (h : Heap) : OX :=
ob (y6 .eql a (.int .i64 148)) fun b =>
(y1tt a b h)
def y22q (s : St) : OX := y1vk (s 5) s.h
theorem y1jz : T1 y1ex y2p (y5 0 y2p xN) [.t 2, .t 3, .t 4] y22q := sq y1i9 fun _ => by kernel_rfl
def y0x (a b : AV) (h : Heap) : OX :=
cnd b
 ((yi h (.tup [(.int .i64 2), (.int .i64 1), (.int .i64 2)])))
 ((y1vk a h))
def y20e (s : St) : OX := y0x (s 5) (s 27) s.h
theorem y1ic : T1 y11u y2p (y5 0 y2p xN) [.t 2, .t 3, .t 4] y20e := fun s => (y1r rfl (y1jz s)).trans (by kernel_rfl)
def y1rk (a : AV) (h : Heap) : OX :=
ob (y6 .eql a (.int .i64 121)) fun b =>
cnd b
 ((y0x a b h))
 (ob (y6 .eql a (.int .i64 123)) fun c =>
cnd c
 ((y0x a c h))
 (ob (y6 .eql a (.int .i64 125)) fun d =>
(y0x a d h)))
def y233 (s : St) : OX := y1rk (s 5) s.h
theorem y1o2 : T1 y18q y2p (y5 0 y2p xN) [.t 2, .t 3, .t 4] y233 := sq y1ic fun _ => by kernel_rfl
def ygj (b a : AV) (h : Heap) : OX :=
cnd a
 ((yi h (.tup [(.int .i64 2), (.int .i64 2), (.int .i64 2)])))
 ((y1rk b h))
def y22d (s : St) : OX := ygj (s 5) (s 18) s.h
theorem y1k1 : T1 y1fv y2p (y5 0 y2p xN) [.t 2, .t 3, .t 4] y22d := fun s => (y1r rfl (y1o2 s)).trans (by kernel_rfl)
def y1tj (a : AV) (h : Heap) : OX :=
ob (y6 .eql a (.int .i64 97)) fun g =>
cnd g
 ((ygj a g h))
 (ob (y6 .eql a (.int .i64 101)) fun b =>
cnd b
 ((ygj a b h))
 (ob (y6 .eql a (.int .i64 105)) fun i =>
cnd i
 ((ygj a i h))
 (ob (y6 .eql a (.int .i64 109)) fun d =>
cnd d
 ((ygj a d h))
 (ob (y6 .eql a (.int .i64 113)) fun j =>
cnd j
 ((ygj a j h))
 (ob (y6 .eql a (.int .i64 127)) fun c =>
cnd c
 ((ygj a c h))
 (ob (y6 .eql a (.int .i64 129)) fun e =>
cnd e
 ((ygj a e h))
 (ob (y6 .eql a (.int .i64 131)) fun k =>
(ygj a k h))))))))
def y1zx (s : St) : OX := y1tj (s 5) s.h
theorem y1oj : T1 y18u y2p (y5 0 y2p xN) [.t 2, .t 3, .t 4] y1zx := sq y1k1 fun _ => by kernel_rfl
def y5p (b a : AV) (h : Heap) : OX :=
cnd a
 ((yi h (.tup [(.int .i64 1), (.int .i64 1), (.int .i64 1)])))
 ((y1tj b h))
def y1xk (s : St) : OX := y5p (s 5) (s 6) s.h
theorem y154 : T1 yto y2p (y5 0 y2p xN) [.t 2, .t 3, .t 4] y1xk := fun s => (y1r rfl (y1oj s)).trans (by kernel_rfl)
def y1bi (a : AV) (h : Heap) : OX :=
ob (y6 .eql a (.int .i64 96)) fun e =>
cnd e
 ((y5p a e h))
 (ob (y6 .eql a (.int .i64 100)) fun c =>
cnd c
 ((y5p a c h))
 (ob (y6 .eql a (.int .i64 104)) fun k =>
cnd k
 ((y5p a k h))
 (ob (y6 .eql a (.int .i64 108)) fun j =>
cnd j
 ((y5p a j h))
 (ob (y6 .eql a (.int .i64 112)) fun d =>
cnd d
 ((y5p a d h))
 (ob (y6 .eql a (.int .i64 120)) fun g =>
cnd g
 ((y5p a g h))
 (ob (y6 .eql a (.int .i64 122)) fun b =>
cnd b
 ((y5p a b h))
 (ob (y6 .eql a (.int .i64 124)) fun m =>
cnd m
 ((y5p a m h))
 (ob (y6 .eql a (.int .i64 126)) fun i =>
cnd i
 ((y5p a i h))
 (ob (y6 .eql a (.int .i64 128)) fun l =>
cnd l
 ((y5p a l h))
 (ob (y6 .eql a (.int .i64 130)) fun n =>
(y5p a n h)))))))))))
def y16c (s : St) : OX := y1bi (s 5) s.h
theorem y136 : T1 ytg y2p (y5 0 y2p xN) [.t 2, .t 3, .t 4] y16c := sq y154 fun _ => by kernel_rfl
theorem y17p : T1 yu5 y2p xN [.t 2, .t 3, .t 4] y16c := fun s => yw.trans (y136 s)
def y123 (a : AV) (h : Heap) : OX :=
(y1bi a h)
def y1ad (s : St) : OX := y123 (s 0) s.h
theorem y1bx : T1 yx8 y2p xN [.t 2, .t 3, .t 4] y1ad := sq y17p fun _ => by kernel_rfl
theorem y11t : T0 yr6 [.t 2, .t 3, .t 4] y1ad := sq y1op y1bx
def y11s (a : AV) (h : Heap) : OX :=
(y123 a h)
def y1tl (s : St) : OX := y11s (s 0) s.h
theorem y1gf : T0 yrb [.t 2, .t 3, .t 4] y1tl := sq y11t fun _ => by kernel_rfl
@[simp] theorem y264 : E.pure 50 = true := rfl
theorem y26u (a : AV) : (yb E).p 50 [a] = y11s a [] :=
  (y17 (cf := y22x) (by kernel_rfl) rfl).trans ((y1gf _).trans (by kernel_rfl))
def q8_1 (b : AV) (h : Heap) : OX :=
ob (y6 .neq b (AV.str [])) fun a =>
gb a true (some b) fun j =>
gh a true (y9 E (yb E) 0 none true 44 [j] h) h fun e h1 =>
gb a true (some b) fun c =>
gb a true (y12 0 c h1) fun i =>
gb a true (y6 .eql e i) fun g =>
ob (yf a g (.bool false)) fun d =>
(yi h1 d)
def y26v (s : St) : OX := q8_1 (s 0) s.h
theorem y1so : T0 y1qb [.t 2] y26v := fun _ => by kernel_rfl
@[simp] theorem y25u : E.pure 37 = true := rfl
theorem x_q8 (a : AV) : (yb E).p 37 [a] = q8_1 a [] :=
  (y17 (cf := c_q8) (by kernel_rfl) rfl).trans ((y1so _).trans (by kernel_rfl))
def yo7 (a : AV) (h : Heap) : OX :=
ob (yd [(.int .i64 0), (.int .i64 0), (.int .i64 0), (.int .i64 0)] []) fun b =>
oh (evSt 4 a b h) fun _ h1 =>
(ob (evLd true 4 a h1) fun r0 =>
  yi h1 (.tup [r0, (.bool false)]))
def y1p (s : St) : OX := yo7 (s 2) s.h
theorem y1nf : T0 y199 [.cell 2 true 4, .t 3] y1p := fun _ => by kernel_rfl
def yn7 (d b k : AV) (h : Heap) : OX :=
ob (yd [(.int .i64 0), (.int .i64 0), (.int .i64 0), (.int .i64 0)] [(0, 1, (.int .i64 (-1))), (1, 1, (.int .i64 3)), (2, 1, k), (3, 1, (.int .i64 (-1)))]) fun l =>
ob (evFa 5 d) fun c =>
ob (evLd false 1 c h) fun g =>
ob (y6 .eql g (.int .i64 0)) fun a =>
ofp (fgd a false (some ([], []))) fun f6 =>
gb a false (evFa 5 d) fun e =>
ofp (fgd a false (some (ids1 e, []))) fun f7 =>
gb a false (evLd false 1 e h) fun j =>
ofp (fgd a false (some ([], []))) fun f8 =>
gb a false (y6 .eql j (.int .i64 1)) fun m =>
ob (yf a (.bool true) m) fun i =>
oh (evSt 4 b l h) fun _ h2 =>
okK (yz [([], []), ([], []), ([], []), (ids1 c, []), ([], []), ([], []), f6, f7, f8, ([], []), ([], ids1 b), ([], [])] [(7, 10)]) <|
(ob (evLd true 4 b h2) fun r0 =>
  yi h2 (.tup [r0, i]))
def y1z8 (s : St) : OX := yn7 (s 1) (s 2) (s 4) s.h
theorem y1oq : T1 y16a y1p (y5 0 y1p xN) [.cell 2 true 4, .t 3] y1z8 := fun _ => by kernel_rfl
def ynj (a b e : AV) (h : Heap) : OX :=
ob (evFa 3 a) fun d =>
ob (evLd false 1 d h) fun c =>
ob (y6 .neq c (.int .i64 (-1))) fun g =>
cnd g
 ((yn7 a b (.int .i64 3) h))
 ((yn7 a b e h))
def y247 (s : St) : OX := ynj (s 1) (s 2) (s 4) s.h
theorem y1ki : T1 y1fg y1p (y5 0 y1p xN) [.cell 2 true 4, .t 3] y247 := sq y1oq fun _ => by kernel_rfl
def yof (b a : AV) (h : Heap) : OX :=
(ynj b a (.int .i64 (-1)) h)
def y22c (s : St) : OX := yof (s 1) (s 2) s.h
theorem y1nx : T1 y1bo y1p (y5 0 y1p xN) [.cell 2 true 4, .t 3] y22c := sq y1ki fun _ => by kernel_rfl
def ymu (a c : AV) (h : Heap) : OX :=
ob (yd [(.int .i64 0), (.int .i64 0), (.int .i64 0), (.int .i64 0)] [(0, 1, (.int .i64 (-1))), (1, 1, c), (2, 1, (.int .i64 (-1))), (3, 1, (.int .i64 (-1)))]) fun b =>
oh (evSt 4 a b h) fun _ h3 =>
(ob (evLd true 4 a h3) fun r0 =>
  yi h3 (.tup [r0, (.bool true)]))
def y238 (s : St) : OX := ymu (s 2) (s 5) s.h
theorem y1ob : T1 y167 y1p (y5 0 y1p xN) [.cell 2 true 4, .t 3] y238 := fun _ => by kernel_rfl
def yoc (b a c : AV) (h : Heap) : OX :=
ob (evFa 2 b) fun g =>
ob (evLd false 1 g h) fun e =>
ob (y6 .neq e (.int .i64 (-1))) fun d =>
cnd d
 ((ymu a (.int .i64 0) h))
 ((ymu a c h))
def y23j (s : St) : OX := yoc (s 1) (s 2) (s 5) s.h
theorem y1lh : T1 y1cf y1p (y5 0 y1p xN) [.cell 2 true 4, .t 3] y23j := sq y1ob fun _ => by kernel_rfl
def yny (b a : AV) (h : Heap) : OX :=
(yoc b a (.int .i64 (-1)) h)
def y21a (s : St) : OX := yny (s 1) (s 2) s.h
theorem y1i8 : T1 y1f9 y1p (y5 0 y1p xN) [.cell 2 true 4, .t 3] y21a := sq y1lh fun _ => by kernel_rfl
def ym6 (d i G : AV) (h : Heap) : OX :=
ob (evFa 0 d) fun D =>
ob (evLd false 1 D h) fun C =>
ob (y6 .eql C (.int .i64 23)) fun g =>
gb g false (evFa 0 d) fun A =>
gb g false (evLd false 1 A h) fun p =>
gb g false (y6 .eql p (.int .i64 26)) fun w =>
ob (yf g (.bool true) w) fun e =>
gb e false (evFa 8 d) fun B =>
gb e false (evLd false 1 B h) fun t =>
gb e false (y12 1 t h) fun F =>
gb e false (y6 .gtr F (.int .i64 0)) fun u =>
ob (yf e (.bool true) u) fun a =>
ob (yd [(.int .i64 0), (.int .i64 0), (.int .i64 0), (.int .i64 0)] [(0, 1, G), (1, 1, (.int .i64 (-1))), (2, 1, (.int .i64 (-1))), (3, 1, (.int .i64 (-1)))]) fun y =>
ofp (fgd a true (some ([], []))) fun f4 =>
gb a true (evFa 5 d) fun k =>
ofp (fgd a true (some (ids1 k, []))) fun f5 =>
gb a true (evLd false 1 k h) fun n =>
ofp (fgd a true (some ([], []))) fun f6 =>
gb a true (y6 .geq n (.int .i64 0)) fun z =>
ofp (fgd a true (some ([], []))) fun f7 =>
gb a true (some z) fun c =>
ofp (fgd c false (some ([], []))) fun f8 =>
gb c false (evFa 0 d) fun m =>
ofp (fgd c false (some (ids1 m, []))) fun f9 =>
gb c false (evLd false 1 m h) fun x =>
ofp (fgd c false (some ([], []))) fun f10 =>
gb c false (y6 .eql x (.int .i64 25)) fun r =>
ofp (fgd a true (some ([], []))) fun f11 =>
gb a true (yf c (.bool true) r) fun I =>
ob (yf a I (.bool false)) fun b =>
ofp (fgd b true (some ([], []))) fun f14 =>
gb b true (evFa 8 d) fun j =>
ofp (fgd b true (some (ids1 j, []))) fun f15 =>
gb b true (evLd false 1 j h) fun l =>
ofp (fgd b true (some (ids1 l, []))) fun f16 =>
gb b true (y12 1 l h) fun H =>
ofp (fgd b true (some ([], []))) fun f17 =>
gb b true (y6 .leq H (.int .i64 21)) fun o =>
ob (yf b o (.bool false)) fun v =>
oh (evSt 4 i y h) fun _ h4 =>
okK (yz [([], []), ([], []), ([], []), ([], []), f4, f5, f6, f7, f8, f9, f10, f11, ([], []), ([], []), f14, f15, f16, f17, ([], []), ([], ids1 i), ([], [])] [(15, 19), (16, 19)]) <|
(ob (evLd true 4 i h4) fun r0 =>
  yi h4 (.tup [r0, v]))
def y23k (s : St) : OX := ym6 (s 1) (s 2) (s 6) s.h
theorem y1kq : T1 y148 y1p (y5 0 y1p xN) [.cell 2 true 4, .t 3] y23k := fun _ => by kernel_rfl
def yo6 (a b e : AV) (h : Heap) : OX :=
ob (evFa 1 a) fun d =>
ob (evLd false 1 d h) fun g =>
ob (y6 .neq g (.int .i64 (-1))) fun c =>
cnd c
 ((ym6 a b (.int .i64 0) h))
 ((ym6 a b e h))
def y1zq (s : St) : OX := yo6 (s 1) (s 2) (s 6) s.h
theorem y1kl : T1 y12v y1p (y5 0 y1p xN) [.cell 2 true 4, .t 3] y1zq := sq y1kq fun _ => by kernel_rfl
def ydj (b a : AV) (h : Heap) : OX :=
(yo6 b a (.int .i64 (-1)) h)
def y1ud (s : St) : OX := ydj (s 1) (s 2) s.h
theorem y08 : T1 yty y1p (y5 0 y1p xN) [.cell 2 true 4, .t 3] y1ud := sq y1kl fun _ => by kernel_rfl
def y9b (c a b : AV) (h : Heap) : OX :=
cnd b
 ((ydj c a h))
 ((yo7 a h))
def y1ru (s : St) : OX := y9b (s 1) (s 2) (s 32) s.h
theorem y187 : T1 yp7 y1p (y5 0 y1p xN) [.cell 2 true 4, .t 3] y1ru := fun s => (y1r (y08 s) rfl).trans (by kernel_rfl)
def yf1 (b a c : AV) (h : Heap) : OX :=
ob (y6 .eql c (.int .i64 23)) fun g =>
cnd g
 ((y9b b a g h))
 (ob (y6 .eql c (.int .i64 24)) fun d =>
cnd d
 ((y9b b a d h))
 (ob (y6 .eql c (.int .i64 25)) fun e =>
cnd e
 ((y9b b a e h))
 (ob (y6 .eql c (.int .i64 26)) fun i =>
(y9b b a i h))))
def y1yb (s : St) : OX := yf1 (s 1) (s 2) (s 9) s.h
theorem y0i : T1 yqz y1p (y5 0 y1p xN) [.cell 2 true 4, .t 3] y1yb := sq y187 fun _ => by kernel_rfl
def yfi (b a d c : AV) (h : Heap) : OX :=
cnd c
 ((yny b a h))
 ((yf1 b a d h))
def y1sm (s : St) : OX := yfi (s 1) (s 2) (s 9) (s 25) s.h
theorem y11v : T1 yxe y1p (y5 0 y1p xN) [.cell 2 true 4, .t 3] y1sm := fun s => (y1r (y1i8 s) (y0i s)).trans (by kernel_rfl)
def yfa (c b a : AV) (h : Heap) : OX :=
ob (y6 .eql a (.int .i64 30)) fun d =>
(yfi c b a d h)
def y1ra (s : St) : OX := yfa (s 1) (s 2) (s 9) s.h
theorem y1g5 : T1 yse y1p (y5 0 y1p xN) [.cell 2 true 4, .t 3] y1ra := sq y11v fun _ => by kernel_rfl
def yem (b a c d : AV) (h : Heap) : OX :=
cnd d
 ((yof b a h))
 ((yfa b a c h))
def y1v4 (s : St) : OX := yem (s 1) (s 2) (s 9) (s 10) s.h
theorem y176 : T1 yu7 y1p (y5 0 y1p xN) [.cell 2 true 4, .t 3] y1v4 := fun s => (y1r (y1nx s) (y1g5 s)).trans (by kernel_rfl)
def ye0 (c b a : AV) (h : Heap) : OX :=
ob (y6 .eql a (.int .i64 29)) fun d =>
(yem c b a d h)
def y14f (s : St) : OX := ye0 (s 1) (s 2) (s 9) s.h
theorem y0k : T1 yqi y1p (y5 0 y1p xN) [.cell 2 true 4, .t 3] y14f := sq y176 fun _ => by kernel_rfl
theorem y1dr : T1 ys8 y1p xN [.cell 2 true 4, .t 3] y14f := fun s => yw.trans (y0k s)
def yeo (a c : AV) (h : Heap) : OX :=
ob (evFa 0 a) fun d =>
ob (evLd false 1 d h) fun b =>
(ye0 a c b h)
def y11o (s : St) : OX := yeo (s 1) (s 2) s.h
theorem y1ar : T1 ys4 y1p xN [.cell 2 true 4, .t 3] y11o := sq y1dr fun _ => by kernel_rfl
theorem y1ao : T0 yun [.cell 2 true 4, .t 3] y11o := sq y1nf y1ar
def yex (c : AV) (h : Heap) : OX :=
oh (newC 0 (some 0) (cellsOf c) h) fun a h5 =>
oh (newC 0 (some 1) [(.int .i64 0), (.int .i64 0), (.int .i64 0), (.int .i64 0)] h5) fun b h6 =>
(yeo a b h6)
def y1vn (s : St) : OX := yex (s 0) s.h
theorem y182 : T0 yrv [.cell 2 true 4, .t 3] y1vn := sq y1ao fun _ => by kernel_rfl
@[simp] theorem y25d : E.pure 51 = true := rfl
theorem y1hq (a : AV) : (yb E).p 51 [a] = yex a [⟨0, .dead⟩, ⟨0, .dead⟩] :=
  (y17 (cf := y23q) (by kernel_rfl) rfl).trans ((y182 _).trans (by kernel_rfl))
def q9_1 (h : Heap) : OX :=
(yi h (.int .i64 0))
def y2k (s : St) : OX := q9_1 s.h
theorem y1sn : T0 y1r1 [.t 2] y2k := fun _ => by kernel_rfl
def y195 (c a b : AV) (h : Heap) : OX :=
  W E 0 yom ⟨[(0, c), (3, a), (4, b)], h⟩ y2k (y5 3 y2k (y5 2 y2k xN)) (finP [.t 2])
def yht (s : St) : OX := y195 (s 0) (s 3) (s 4) s.h
theorem ytl : T1 yom y2k (y5 3 y2k (y5 2 y2k xN)) [.t 2] yht := fun s => yp.trans (by kernel_rfl)
def q9_3 (d a c : AV) (h : Heap) : OX :=
ob (y6 .add c (.int .i64 1)) fun b =>
(y195 d a b h)
def ygg (s : St) : OX := q9_3 (s 0) (s 3) (s 4) s.h
theorem y1wf : T1 y1q0 yht (y5 3 y2k (y5 2 y2k xN)) [.t 2] ygg := fun _ => by kernel_rfl
def q9_4 (h : Heap) : OX :=
(yi h (.int .i64 0))
def y27m (s : St) : OX := q9_4 s.h
theorem y1r9 : T1 y1q5 ygg (y5 4 ygg (y5 3 y2k (y5 2 y2k xN))) [.t 2] y27m := fun _ => by kernel_rfl
def q9_5 (e i a : AV) (h : Heap) : OX :=
ob (y6 .add i (.int .i64 1)) fun g =>
ob (y1h4 e (some g) (some a)) fun d =>
oh (y9 E (yb E) 0 none true 60 [d, (.bool false)] h) fun c h1 =>
cnd c
 (ob (y6 .add a (.int .i64 1)) fun b =>
(yi h1 b))
 ((q9_4 h1))
def y282 (s : St) : OX := q9_5 (s 0) (s 3) (s 4) s.h
theorem y1st : T1 y1qw ygg (y5 4 ygg (y5 3 y2k (y5 2 y2k xN))) [.t 2] y282 := sq y1r9 fun _ => by kernel_rfl
def q9_6 (c a b d : AV) (h : Heap) : OX :=
cnd d
 ((q9_5 c a b h))
 ((q9_3 c a b h))
def y276 (s : St) : OX := q9_6 (s 0) (s 3) (s 4) (s 46) s.h
theorem y1se : T1 y1px ygg (y5 4 ygg (y5 3 y2k (y5 2 y2k xN))) [.t 2] y276 := fun s => (y1r (y1st s) rfl).trans (by kernel_rfl)
def q9_7 (a e b : AV) (h : Heap) : OX :=
ob (y87 a b) fun d =>
ob (y6 .eql d (.int .u8 59)) fun c =>
(q9_6 a e b c h)
def y1un (s : St) : OX := q9_7 (s 0) (s 3) (s 4) s.h
theorem y1wt : T1 y1pf ygg (y5 4 ygg (y5 3 y2k (y5 2 y2k xN))) [.t 2] y1un := sq y1se fun _ => by kernel_rfl
theorem y1rs : T1 y1qg ygg (y5 3 y2k (y5 2 y2k xN)) [.t 2] y1un := fun s => yw.trans (y1wt s)
theorem y1v0 : T1 y1pg yht (y5 3 y2k (y5 2 y2k xN)) [.t 2] y1un := sq y1wf y1rs
def yzf (a e b : AV) (h : Heap) : OX :=
ob (y12 0 a h) fun c =>
ob (y6 .lss b c) fun d =>
cnd d
 ((q9_7 a e b h))
 ((q9_1 h))
def y212 (s : St) : OX := yzf (s 0) (s 3) (s 4) s.h
theorem y1l2 : T1 y18n yht (y5 3 y2k (y5 2 y2k xN)) [.t 2] y212 := sq y1v0 fun _ => by kernel_rfl
theorem ypf (c a b : AV) (h : Heap) : y195 c a b h = (yzf c a b h) :=
  y2b.trans ((y1m _ _ _ (n' := yht) (fun s => ytl s)).trans ((y1l2 _).trans (by kernel_rfl)))
theorem y1mo : T1 y1hk y2k (y5 2 y2k xN) [.t 2] yht := fun s => yw.trans (ytl s)
def y1ui (b a : AV) (h : Heap) : OX :=
ob (y6 .add a (.int .i64 1)) fun c =>
(y195 b a c h)
def y20j (s : St) : OX := y1ui (s 0) (s 3) s.h
theorem y1iw : T1 y1ct y2k (y5 2 y2k xN) [.t 2] y20j := sq y1mo fun _ => by kernel_rfl
def y1kw (b a c : AV) (h : Heap) : OX :=
cnd c
 ((y1ui b a h))
 ((q9_1 h))
def y1zw (s : St) : OX := y1kw (s 0) (s 3) (s 33) s.h
theorem y1ks : T1 y14h y2k (y5 2 y2k xN) [.t 2] y1zw := fun s => (y1r (y1iw s) rfl).trans (by kernel_rfl)
def y1l5 (c a d : AV) (h : Heap) : OX :=
ob (y6 .eql d (.int .u8 76)) fun b =>
(y1kw c a b h)
def y23z (s : St) : OX := y1l5 (s 0) (s 3) (s 27) s.h
theorem y1o8 : T1 y16t y2k (y5 2 y2k xN) [.t 2] y23z := sq y1ks fun _ => by kernel_rfl
def yow (b a d c : AV) (h : Heap) : OX :=
cnd c
 (ob (y6 .add a (.int .i64 1)) fun e =>
(yi h e))
 ((y1l5 b a d h))
def y237 (s : St) : OX := yow (s 0) (s 3) (s 27) (s 28) s.h
theorem y1mz : T1 y11l y2k (y5 2 y2k xN) [.t 2] y237 := fun s => (y1r rfl (y1o8 s)).trans (by kernel_rfl)
def yyw (c d a : AV) (h : Heap) : OX :=
ob (y6 .eql a (.int .u8 73)) fun b =>
cnd b
 ((yow c d a b h))
 (ob (y6 .eql a (.int .u8 74)) fun e =>
(yow c d a e h))
def y1pe (s : St) : OX := yyw (s 0) (s 3) (s 27) s.h
theorem y1p5 : T1 y180 y2k (y5 2 y2k xN) [.t 2] y1pe := sq y1mz fun _ => by kernel_rfl
theorem y1p2 : T1 y18t y2k xN [.t 2] y1pe := fun s => yw.trans (y1p5 s)
def yzx (b a : AV) (h : Heap) : OX :=
ob (y87 b a) fun c =>
(yyw b a c h)
def y1r2 (s : St) : OX := yzx (s 0) (s 3) s.h
theorem y1oc : T1 y11i y2k xN [.t 2] y1r2 := sq y1p2 fun _ => by kernel_rfl
theorem y1ml : T0 y1cz [.t 2] y1r2 := sq y1sn y1oc
def ygk (c b : AV) (h : Heap) : OX :=
ob (y6 .gtr b (.int .i64 8)) fun a =>
gb a false (some b) fun d =>
gb a false (some c) fun i =>
gb a false (y12 0 i h) fun g =>
gb a false (y6 .eql d g) fun j =>
ob (yf a (.bool true) j) fun e =>
cnd e
 ((yi h (.int .i64 0)))
 ((yzx c b h))
def ycf (s : St) : OX := ygk (s 0) (s 3) s.h
theorem y1j2 : T0 y1hi [.t 2] ycf := sq y1ml fun _ => by kernel_rfl
def yn6 (b a : AV) (h : Heap) : OX :=
  W E 0 yjr ⟨[(0, b), (3, a)], h⟩ ycf (y5 0 ycf xN) (finP [.t 2])
def ybq (s : St) : OX := yn6 (s 0) (s 3) s.h
theorem ykw : T1 yjr ycf (y5 0 ycf xN) [.t 2] ybq := fun s => yp.trans (by kernel_rfl)
def y1ti (c a : AV) (h : Heap) : OX :=
ob (y6 .add a (.int .i64 1)) fun b =>
(yn6 c b h)
def y20h (s : St) : OX := y1ti (s 0) (s 3) s.h
theorem y1iz : T1 y1dz ybq (y5 0 ycf xN) [.t 2] y20h := fun _ => by kernel_rfl
def y1es (b c : AV) (h : Heap) : OX :=
ob (y12 0 b h) fun g =>
ob (y6 .lss c g) fun a =>
gb a true (some b) fun j =>
gb a true (some c) fun e =>
gb a true (y87 j e) fun i =>
gb a true (y6 .eql i (.int .u8 91)) fun d =>
ob (yf a d (.bool false)) fun k =>
cnd k
 ((y1ti b c h))
 ((ygk b c h))
def y20o (s : St) : OX := y1es (s 0) (s 3) s.h
theorem y1na : T1 y155 ybq (y5 0 ycf xN) [.t 2] y20o := sq y1iz fun _ => by kernel_rfl
theorem yl2 (b a : AV) (h : Heap) : yn6 b a h = (y1es b a h) :=
  y2b.trans ((y1m _ _ _ (n' := ybq) (fun s => ykw s)).trans ((y1na _).trans (by kernel_rfl)))
theorem y1ko : T1 y14x ycf xN [.t 2] ybq := fun s => yw.trans (ykw s)
theorem y1ja : T0 y1ce [.t 2] ybq := sq y1j2 y1ko
def y1yf (a : AV) (h : Heap) : OX :=
(yn6 a (.int .i64 0) h)
def y209 (s : St) : OX := y1yf (s 0) s.h
theorem y1mb : T0 y12p [.t 2] y209 := sq y1ja fun _ => by kernel_rfl
def y1r8 (a : AV) (h : Heap) : OX :=
(y1yf a h)
def y243 (s : St) : OX := y1r8 (s 0) s.h
theorem y1m6 : T0 y128 [.t 2] y243 := sq y1mb fun _ => by kernel_rfl
@[simp] theorem y28a : E.pure 44 = true := rfl
theorem x_q9 (a : AV) : (yb E).p 44 [a] = y1r8 a [] :=
  (y17 (cf := c_q9) (by kernel_rfl) rfl).trans ((y1m6 _).trans (by kernel_rfl))
def y1gj (b : AV) (h : Heap) : OX :=
ob (y6 .geq b (.int .i64 23)) fun a =>
gb a true (some b) fun e =>
gb a true (y6 .leq e (.int .i64 26)) fun d =>
ob (yf a d (.bool false)) fun c =>
(yi h c)
def y1x5 (s : St) : OX := y1gj (s 0) s.h
theorem y15g : T0 yqw [.t 2] y1x5 := fun _ => by kernel_rfl
@[simp] theorem y28n : E.pure 7 = true := rfl
theorem y21k (a : AV) : (yb E).p 7 [a] = y1gj a [] :=
  (y17 (cf := y1q2) (by kernel_rfl) rfl).trans ((y15g _).trans (by kernel_rfl))
def q7_1 (h : Heap) : OX :=
(yi h (.bool true))
def yea (s : St) : OX := q7_1 s.h
theorem y1vq : T0 y1pi [.t 4] yea := fun _ => by kernel_rfl
def y1ek (d c a b : AV) (h : Heap) : OX :=
  W E 0 yoy ⟨[(1, d), (17, c), (18, a), (19, b)], h⟩ yea (y5 0 yea xN) (finP [.t 4])
def yg1 (s : St) : OX := y1ek (s 1) (s 17) (s 18) (s 19) s.h
theorem yv9 : T1 yoy yea (y5 0 yea xN) [.t 4] yg1 := fun s => yp.trans (by kernel_rfl)
def q7_3 (b a c e : AV) (h : Heap) : OX :=
ob (y6 .add e (.int .i64 1)) fun d =>
(y1ek b a c d h)
def y259 (s : St) : OX := q7_3 (s 1) (s 17) (s 18) (s 19) s.h
theorem y1wi : T1 y1r0 yg1 (y5 0 yea xN) [.t 4] y259 := fun _ => by kernel_rfl
def q7_4 (o p S r : AV) (h : Heap) : OX :=
ob (yu 1 p r) fun G =>
ob (evLd false 1 G h) fun a =>
ob (y6 .geq a (.int .u8 97)) fun g =>
gb g true (some a) fun F =>
gb g true (y6 .leq F (.int .u8 122)) fun X =>
ob (yf g X (.bool false)) fun d =>
gb d false (some a) fun v =>
gb d false (y6 .geq v (.int .u8 65)) fun A =>
gb d false (some A) fun m =>
gb m true (some a) fun H =>
gb m true (y6 .leq H (.int .u8 90)) fun z =>
gb d false (yf m z (.bool false)) fun t =>
ob (yf d (.bool true) t) fun e =>
gb e false (some a) fun Z =>
gb e false (y6 .geq Z (.int .u8 48)) fun J =>
gb e false (some J) fun n =>
gb n true (some a) fun O =>
gb n true (y6 .leq O (.int .u8 57)) fun w =>
gb e false (yf n w (.bool false)) fun D =>
ob (yf e (.bool true) D) fun l =>
gb l false (some a) fun K =>
gb l false (y6 .eql K (.int .u8 95)) fun R =>
ob (yf l (.bool true) R) fun j =>
gb j false (some a) fun C =>
gb j false (y6 .eql C (.int .u8 36)) fun U =>
ob (yf j (.bool true) U) fun k =>
gb k false (some a) fun I =>
gb k false (y6 .eql I (.int .u8 47)) fun M =>
ob (yf k (.bool true) M) fun B =>
ob (evUn .not B) fun c =>
gb c true (some o) fun N =>
gb c true (some N) fun b =>
gb b true (some a) fun V =>
gb b true (y6 .eql V (.int .u8 60)) fun L =>
gb b true (some L) fun i =>
gb i false (some a) fun Q =>
gb i false (y6 .eql Q (.int .u8 62)) fun x =>
gb b true (yf i (.bool true) x) fun y =>
gb c true (yf b y (.bool false)) fun u =>
gb c true (evUn .not u) fun P =>
ob (yf c P (.bool false)) fun Y =>
cnd Y
 ((yi h (.bool false)))
 ((q7_3 o p S r h))
def y25z (s : St) : OX := q7_4 (s 1) (s 17) (s 18) (s 19) s.h
theorem y1rp : T1 y1qx yg1 (y5 0 yea xN) [.t 4] y25z := sq y1wi fun _ => by kernel_rfl
def q7_5 (b a c e d : AV) (h : Heap) : OX :=
cnd d
 ((q7_4 b a c e h))
 ((q7_1 h))
def y26h (s : St) : OX := q7_5 (s 1) (s 17) (s 18) (s 19) (s 20) s.h
theorem y1x1 : T1 y1q3 yg1 (y5 0 yea xN) [.t 4] y26h := sq y1rp fun _ => by kernel_rfl
def q7_6 (d c a b : AV) (h : Heap) : OX :=
ob (y6 .lss b a) fun e =>
(q7_5 d c a b e h)
def y26q (s : St) : OX := q7_6 (s 1) (s 17) (s 18) (s 19) s.h
theorem y1v8 : T1 y1q7 yg1 (y5 0 yea xN) [.t 4] y26q := sq y1x1 fun _ => by kernel_rfl
theorem yqp (d c a b : AV) (h : Heap) : y1ek d c a b h = (q7_6 d c a b h) :=
  y2b.trans ((y1m _ _ _ (n' := yg1) (fun s => yv9 s)).trans ((y1v8 _).trans (by kernel_rfl)))
theorem y1ry : T1 y1ql yea xN [.t 4] yg1 := fun s => yw.trans (yv9 s)
def q7_8 (d c : AV) (h : Heap) : OX :=
oh (s2bC 0 (some 0) d h) fun a h1 =>
ob (y12 1 a h1) fun b =>
(y1ek c a b (.int .i64 0) h1)
def y23m (s : St) : OX := q7_8 (s 0) (s 1) s.h
theorem y1s9 : T1 y1qo yea xN [.t 4] y23m := sq y1ry fun _ => by kernel_rfl
theorem y1s4 : T0 y1q8 [.t 4] y23m := sq y1vq y1s9
def y13a (b d : AV) (h : Heap) : OX :=
ob (y12 0 b h) fun i =>
ob (y6 .lss i (.int .i64 1)) fun a =>
gb a false (some b) fun g =>
gb a false (y12 0 g h) fun c =>
gb a false (y6 .gtr c (.int .i64 60)) fun j =>
ob (yf a (.bool true) j) fun e =>
cnd e
 ((yi h (.bool false)))
 ((q7_8 b d h))
def y1z5 (s : St) : OX := y13a (s 0) (s 1) s.h
theorem y1kc : T0 y13o [.t 4] y1z5 := sq y1s4 fun _ => by kernel_rfl
def y1co (b a : AV) (h : Heap) : OX :=
(y13a b a h)
def y21d (s : St) : OX := y1co (s 0) (s 1) s.h
theorem y1k7 : T0 y1h2 [.t 4] y21d := sq y1kc fun _ => by kernel_rfl
@[simp] theorem y25h : E.pure 60 = true := rfl
theorem x_q7 (b a : AV) : (yb E).p 60 [b, a] = y1co b a [⟨0, .dead⟩] :=
  (y17 (cf := c_q7) (by kernel_rfl) rfl).trans ((y1k7 _).trans (by kernel_rfl))
end
end Go.Vm
