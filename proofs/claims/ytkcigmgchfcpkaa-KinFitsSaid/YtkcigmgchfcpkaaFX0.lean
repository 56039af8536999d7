/- Functions of the machine as plain functions that go on with what follows. -/
import Derived.Test.YtkcigmgchfcpkaaFEnv
set_option linter.unusedSimpArgs false
set_option linter.unusedVariables false
set_option linter.unusedSectionVars false
namespace Go.Vm
noncomputable section
def y148 (h : Heap) : OX :=
(yr h (.bool true))
def y4c (s : St) : OX := y148 s.h
theorem yx9 : T0 yqo [.t 4] y4c := fun _ => by kernel_rfl
def yfr (c a d b : AV) (h : Heap) : OX :=
  W E 0 ydf ⟨[(8, c), (68, a), (69, d), (70, b)], h⟩ y4c (y5 0 y4c xN) (finP [.t 4])
def y79 (s : St) : OX := yfr (s 8) (s 68) (s 69) (s 70) s.h
theorem yfc : T1 ydf y4c (y5 0 y4c xN) [.t 4] y79 := fun s => yw.trans (by kernel_rfl)
def yro (e a d c : AV) (h : Heap) : OX :=
ob (y9 .add c (.int .i64 1)) fun b =>
(yfr e a d b h)
def y9n (s : St) : OX := yro (s 8) (s 68) (s 69) (s 70) s.h
theorem yyk : T1 ysa y79 (y5 0 y4c xN) [.t 4] y9n := fun _ => by kernel_rfl
def y12d (c a O x P : AV) (h : Heap) : OX :=
ob (y1k a (.int .i64 0)) fun L =>
ob (y9 .eql L (.int .u8 76)) fun j =>
gb j false (some a) fun I =>
gb j false (y1k I (.int .i64 0)) fun U =>
gb j false (y9 .eql U (.int .u8 91)) fun u =>
ob (yk j (.bool true) u) fun k =>
oh (y6 E (y8 E) 0 none true 3 [c, a, a] h) fun r h1 =>
ob (evUn .not r) fun g =>
gb g false (some c) fun F =>
gb g false (some a) fun y =>
gh g false (y6 E (y8 E) 0 none true 3 [F, y, (AV.str [])] h1) h1 fun S h2 =>
gb g false (evUn .not S) fun w =>
ob (yk g (.bool true) w) fun d =>
gb d false (some c) fun A =>
gb d false (some a) fun z =>
gh d false (y6 E (y8 E) 0 none true 3 [A, (AV.str [78]), z] h2) h2 fun Q h3 =>
gb d false (some k) fun J =>
gb d false (ymi true Q J) fun o =>
ob (yk d (.bool true) o) fun e =>
gb e false (some c) fun l =>
gb e false (some a) fun C =>
gh e false (y6 E (y8 E) 0 none true 3 [l, C, (AV.str [76, 79, 98, 106, 101, 99, 116, 59])] h3) h3 fun G h4 =>
gb e false (some k) fun H =>
gb e false (ymi true G H) fun R =>
ob (yk e (.bool true) R) fun i =>
gb i false (some c) fun D =>
gb i false (some a) fun t =>
gh i false (y6 E (y8 E) 0 none true 3 [D, (AV.str []), t] h4) h4 fun K h5 =>
ob (yk i (.bool true) K) fun b =>
gb b false (some c) fun M =>
gb b false (some a) fun n =>
gb b false (y9 .add (AV.str [91]) n) fun N =>
gh b false (y6 E (y8 E) 0 none true 3 [M, N, (AV.str [91, 76, 79, 98, 106, 101, 99, 116, 59])] h5) h5 fun p h6 =>
gb b false (some k) fun v =>
gb b false (ymi true p v) fun B =>
ob (yk b (.bool true) B) fun m =>
cnd m
 ((yr h6 (.bool false)))
 ((yro c O x P h6))
def y175 (s : St) : OX := y12d (s 8) (s 11) (s 68) (s 69) (s 70) s.h
theorem yxz : T1 yuo y9n (y5 1 y9n (y5 0 y4c xN)) [.t 4] y175 := fun _ => by kernel_rfl
def yus (a e b d c : AV) (h : Heap) : OX :=
oh (y6 E (y8 E) 0 none true 59 [a, e] h) fun i h7 =>
ob (evUn .not i) fun g =>
cnd g
 ((yro a b d c h7))
 ((y12d a e b d c h7))
def y14v (s : St) : OX := yus (s 8) (s 11) (s 68) (s 69) (s 70) s.h
theorem yxh : T1 ypb y9n (y5 1 y9n (y5 0 y4c xN)) [.t 4] y14v := sq yxz fun _ => by kernel_rfl
def y0j (g a e b : AV) (h : Heap) : OX :=
ob (y2v 1 a b) fun c =>
ob (evLd false 1 c h) fun d =>
(yus g d a e b h)
def yn3 (s : St) : OX := y0j (s 8) (s 68) (s 69) (s 70) s.h
theorem yx8 : T1 yrd y9n (y5 1 y9n (y5 0 y4c xN)) [.t 4] yn3 := sq yxh fun _ => by kernel_rfl
theorem yyo : T1 yom y9n (y5 0 y4c xN) [.t 4] yn3 := fun s => y1j.trans (yx8 s)
theorem yuu : T1 ysi y79 (y5 0 y4c xN) [.t 4] yn3 := sq yyk yyo
def yvr (d a c b e : AV) (h : Heap) : OX :=
cnd e
 ((y0j d a c b h))
 ((y148 h))
def y15w (s : St) : OX := yvr (s 8) (s 68) (s 69) (s 70) (s 71) s.h
theorem yw8 : T1 yss y79 (y5 0 y4c xN) [.t 4] y15w := sq yuu fun _ => by kernel_rfl
def yl7 (d c b a : AV) (h : Heap) : OX :=
ob (y9 .lss a b) fun e =>
(yvr d c b a e h)
def y13v (s : St) : OX := yl7 (s 8) (s 68) (s 69) (s 70) s.h
theorem yrn : T1 yhz y79 (y5 0 y4c xN) [.t 4] y13v := sq yw8 fun _ => by kernel_rfl
theorem yeb (c a d b : AV) (h : Heap) : yfr c a d b h = (yl7 c a d b h) :=
  y3t.trans ((y2k _ _ _ (n' := y79) (fun s => yfc s)).trans ((yrn _).trans (by kernel_rfl)))
theorem ypl : T1 ylk y4c xN [.t 4] y79 := fun s => y1j.trans (yfc s)
def ykm (g d c e : AV) (h : Heap) : OX :=
oh (y2t 0 (some 1) 1 3 [(.str [])] [(0, g), (1, d), (2, c)] h) fun a h8 =>
ob (y19 1 a h8) fun b =>
(yfr e a b (.int .i64 0) h8)
def yp5 (s : St) : OX := ykm (s 5) (s 6) (s 7) (s 8) s.h
theorem ytz : T1 yib y4c xN [.t 4] yp5 := sq ypl fun _ => by kernel_rfl
theorem yu2 : T0 yj1 [.t 4] yp5 := sq yx9 ytz
def ykq (g d e c : AV) (h : Heap) : OX :=
oh (y6 E (y8 E) 0 none true 3 [c, g, d] h) fun b h9 =>
gb b true (some c) fun n =>
gb b true (some d) fun o =>
gb b true (some e) fun j =>
gh b true (y6 E (y8 E) 0 none true 3 [n, o, j] h9) h9 fun m h10 =>
ob (yk b m (.bool false)) fun i =>
gb i true (some d) fun u =>
gb i true (y9 .neq u (AV.str [])) fun t =>
ob (yk i t (.bool false)) fun a =>
gb a true (some c) fun r =>
gb a true (some g) fun k =>
gb a true (some e) fun l =>
gh a true (y6 E (y8 E) 0 none true 3 [r, k, l] h10) h10 fun w h11 =>
gb a true (evUn .not w) fun p =>
ob (yk a p (.bool false)) fun v =>
cnd v
 ((yr h11 (.bool false)))
 ((ykm g d e c h11))
def y13w (s : St) : OX := ykq (s 5) (s 6) (s 7) (s 8) s.h
theorem yql : T0 yjs [.t 4] y13w := sq yu2 fun _ => by kernel_rfl
def ykr (w d e c p x : AV) (h : Heap) : OX :=
ob (y9 .neq x (.int .i64 0)) fun b =>
gb b false (some w) fun t =>
gh b false (y6 E (y8 E) 0 none true 2 [t] h) h fun r h12 =>
gb b false (evUn .not r) fun m =>
ob (yk b (.bool true) m) fun a =>
gb a false (some d) fun k =>
gb a false (y19 0 k h12) fun i =>
gb a false (some e) fun u =>
gb a false (y19 0 u h12) fun l =>
gb a false (y9 .add i l) fun v =>
gb a false (some c) fun n =>
gb a false (y19 0 n h12) fun g =>
gb a false (y9 .add v g) fun o =>
gb a false (y9 .gtr o (.int .i64 1000)) fun y =>
ob (yk a (.bool true) y) fun j =>
cnd j
 ((yr h12 (.bool true)))
 ((ykq d e c p h12))
def y11b (s : St) : OX := ykr (s 0) (s 5) (s 6) (s 7) (s 8) (s 9) s.h
theorem yn6 : T0 yk9 [.t 4] y11b := sq yql fun _ => by kernel_rfl
def ypy (b i e d : AV) (h : Heap) : OX :=
oh (y6 E (y8 E) 0 none true 1 [b] h) fun a h13 =>
ob (y6v 0 a) fun c =>
ob (y6v 1 a) fun g =>
(ykr b i e d c g h13)
def y11a (s : St) : OX := ypy (s 0) (s 5) (s 6) (s 7) s.h
theorem ytr : T0 yi5 [.t 4] y11a := sq yn6 fun _ => by kernel_rfl
def ymx (c g e d : AV) (h : Heap) : OX :=
oh (y6 E (y8 E) 0 none true 0 [] h) fun a h14 =>
ob (evUn .not a) fun b =>
cnd b
 ((yr h14 (.bool false)))
 ((ypy c g e d h14))
def y11u (s : St) : OX := ymx (s 0) (s 5) (s 6) (s 7) s.h
theorem yr6 : T0 yi1 [.t 4] y11u := sq ytr fun _ => by kernel_rfl
def yrp (d a : AV) (h : Heap) : OX :=
ob (evFa 3 a) fun g =>
ob (evLd false 1 g h) fun b =>
ob (evFa 4 a) fun j =>
ob (evLd false 1 j h) fun c =>
ob (evFa 2 a) fun e =>
ob (evLd false 1 e h) fun i =>
(ymx d b c i h)
def y11k (s : St) : OX := yrp (s 0) (s 3) s.h
theorem yqm : T0 yhy [.t 4] y11k := sq yr6 fun _ => by kernel_rfl
def yq1 (b c : AV) (h : Heap) : OX :=
oh (newC 0 (some 0) (cellsOf c) h) fun a h15 =>
(yrp b a h15)
def y116 (s : St) : OX := yq1 (s 0) (s 1) s.h
theorem ys4 : T0 yl1 [.t 4] y116 := sq yqm fun _ => by kernel_rfl
@[simp] theorem y1a2 : E.pure 70 = true := rfl
theorem y1a7 (a b : AV) : (y8 E).p 70 [a, b] = yq1 a b [⟨0, .dead⟩, ⟨0, .dead⟩] :=
  (y2r (cf := y17c) (by kernel_rfl) rfl).trans ((ys4 _).trans (by kernel_rfl))
def y0t (h : Heap) : OX :=
ob (y2w [(.int .i64 0), (.str []), (.str []), .nils, .nils, .nils, .nils] [(1, 1, (AV.str [97])), (2, 1, (AV.str [69, 120, 99, 101, 112, 116, 105, 111, 110]))]) fun k =>
oh (y2t 0 (some 0) 7 1 [(.int .i64 0), (.str []), (.str []), .nils, .nils, .nils, .nils] [(0, k)] h) fun m h1 =>
oh (y6 E (y8 E) 0 none true 1 [m] h1) fun j h2 =>
ob (y6v 0 j) fun a =>
ob (y6v 1 j) fun u =>
ob (y9 .eql u (.int .i64 0)) fun e =>
gb e true (some a) fun C =>
gh e true (y6 E (y8 E) 0 none true 3 [C, (AV.str [76, 97, 59]), (AV.str [76, 84, 104, 114, 111, 119, 97, 98, 108, 101, 59])] h2) h2 fun y h3 =>
ob (yk e y (.bool false)) fun i =>
gb i true (some a) fun o =>
gh i true (y6 E (y8 E) 0 none true 3 [o, (AV.str [91, 76, 97, 59]), (AV.str [91, 76, 79, 98, 106, 101, 99, 116, 59])] h3) h3 fun F h4 =>
ob (yk i F (.bool false)) fun b =>
gb b true (some a) fun r =>
gh b true (y6 E (y8 E) 0 none true 3 [r, (AV.str [91, 73]), (AV.str [91, 76, 79, 98, 106, 101, 99, 116, 59])] h4) h4 fun x h5 =>
gb b true (evUn .not x) fun t =>
ob (yk b t (.bool false)) fun d =>
gb d true (some a) fun D =>
gh d true (y6 E (y8 E) 0 none true 3 [D, (AV.str [76, 79, 98, 106, 101, 99, 116, 59]), (AV.str [76, 97, 59])] h5) h5 fun A h6 =>
gb d true (evUn .not A) fun w =>
ob (yk d w (.bool false)) fun c =>
gh c true (y6 E (y8 E) 0 none true 31 [] h6) h6 fun v h7 =>
gb c true (y19 1 v h7) fun p =>
gb c true (y9 .eql p (.int .i64 13)) fun B =>
ob (yk c B (.bool false)) fun g =>
gh g true (y6 E (y8 E) 0 none true 32 [(AV.str [83, 121, 115]), (AV.str [101, 120, 105, 116]), (AV.str [40, 73, 41, 86])] h7) h7 fun l h8 =>
gb g true (y9 .eql l (.int .i64 3)) fun z =>
ob (yk g z (.bool false)) fun n =>
(yr h8 n)
def y176 (s : St) : OX := y0t s.h
theorem yxy : T0 yts [.t 0] y176 := fun _ => by kernel_rfl
@[simp] theorem y1b4 : E.pure 0 = true := rfl
theorem y1ad : (y8 E).p 0 [] = y0t [⟨0, .dead⟩] :=
  (y2r (cf := y171) (by kernel_rfl) rfl).trans ((yxy _).trans (by kernel_rfl))
def yp2 (a : AV) (h : Heap) : OX :=
(yr h (.tup [a, (.int .i64 0)]))
def y5z (s : St) : OX := yp2 (s 4) s.h
theorem yxl : T0 ysm [.t 2, .t 3] y5z := fun _ => by kernel_rfl
def ycg (d b a c : AV) (h : Heap) : OX :=
  W E 0 yd7 ⟨[(4, d), (117, b), (118, a), (119, c)], h⟩ y5z (y5 8 y5z xN) (finP [.t 2, .t 3])
def y7b (s : St) : OX := ycg (s 4) (s 117) (s 118) (s 119) s.h
theorem yfk : T1 yd7 y5z (y5 8 y5z xN) [.t 2, .t 3] y7b := fun s => yw.trans (by kernel_rfl)
def y13z (c a d b : AV) (h : Heap) : OX :=
ob (y9 .add b (.int .i64 1)) fun e =>
(ycg c a d e h)
def y16c (s : St) : OX := y13z (s 4) (s 117) (s 118) (s 119) s.h
theorem yx5 : T1 ypk y7b (y5 8 y5z xN) [.t 2, .t 3] y16c := fun _ => by kernel_rfl
def y149 (c a d b : AV) (h : Heap) : OX :=
ob (y2v 1 a b) fun k =>
ob (evLd false 1 k h) fun i =>
oh (mkmC 0 (some 12) h) fun g h1 =>
oh (y6 E (y8 E) 0 none false 62 [c, i, g] h1) fun j h2 =>
ob (evUn .not j) fun e =>
cnd e
 ((yr h2 (.tup [AV.nilp, (.int .i64 51)])))
 ((y13z c a d b h2))
def y15m (s : St) : OX := y149 (s 4) (s 117) (s 118) (s 119) s.h
theorem yvd : T1 yqz y7b (y5 8 y5z xN) [.t 2, .t 3] y15m := sq yx5 fun _ => by kernel_rfl
def yww (a b d c e : AV) (h : Heap) : OX :=
cnd e
 ((y149 a b d c h))
 ((yp2 a h))
def y16j (s : St) : OX := yww (s 4) (s 117) (s 118) (s 119) (s 120) s.h
theorem yxk : T1 yof y7b (y5 8 y5z xN) [.t 2, .t 3] y16j := sq yvd fun _ => by kernel_rfl
def yy4 (d c b a : AV) (h : Heap) : OX :=
ob (y9 .lss a b) fun e =>
(yww d c b a e h)
def y16q (s : St) : OX := yy4 (s 4) (s 117) (s 118) (s 119) s.h
theorem yxa : T1 ynb y7b (y5 8 y5z xN) [.t 2, .t 3] y16q := sq yxk fun _ => by kernel_rfl
theorem yfx (d b a c : AV) (h : Heap) : ycg d b a c h = (yy4 d b a c h) :=
  y3t.trans ((y2k _ _ _ (n' := y7b) (fun s => yfk s)).trans ((yxa _).trans (by kernel_rfl)))
theorem yvi : T1 ynk y5z xN [.t 2, .t 3] y7b := fun s => y1j.trans (yfk s)
def yni (b : AV) (h : Heap) : OX :=
ob (y10 b) fun e =>
ob (evFa 1 e) fun c =>
ob (evLd false 1 c h) fun a =>
ob (y19 1 a h) fun d =>
(ycg b a d (.int .i64 0) h)
def y5j (s : St) : OX := yni (s 4) s.h
theorem yvc : T1 ynp y5z xN [.t 2, .t 3] y5j := sq yvi fun _ => by kernel_rfl
theorem yvo : T0 ys1 [.t 2, .t 3] y5j := sq yxl yvc
def yag (d a c b : AV) (h : Heap) : OX :=
  W E 0 yb9 ⟨[(4, d), (103, a), (104, c), (105, b)], h⟩ y5j (y5 6 y5j xN) (finP [.t 2, .t 3])
def y5a (s : St) : OX := yag (s 4) (s 103) (s 104) (s 105) s.h
theorem yc5 : T1 yb9 y5j (y5 6 y5j xN) [.t 2, .t 3] y5a := fun s => yw.trans (by kernel_rfl)
def ypq (d a c b : AV) (h : Heap) : OX :=
ob (y9 .add b (.int .i64 1)) fun e =>
(yag d a c e h)
def y12j (s : St) : OX := ypq (s 4) (s 103) (s 104) (s 105) s.h
theorem ypd : T1 yj8 y5a (y5 6 y5j xN) [.t 2, .t 3] y12j := fun _ => by kernel_rfl
def ytc (c a g b : AV) (h : Heap) : OX :=
ob (y2v 7 a b) fun k =>
ob (evLd true 7 k h) fun l =>
oh (newC 0 (some 11) [(.int .i64 0), (.str []), (.str []), .nils, .nils, .nils, .nils] h) fun d h3 =>
oh (evSt 7 d l h3) fun _ h4 =>
ob (evLd true 7 d h4) fun e =>
oh (y6 E (y8 E) 0 none true 61 [c, e] h4) fun j h5 =>
ob (evUn .not j) fun i =>
cnd i
 ((yr h5 (.tup [AV.nilp, (.int .i64 50)])))
 ((ypq c a g b h5))
def y0y (s : St) : OX := ytc (s 4) (s 103) (s 104) (s 105) s.h
theorem yos : T1 yl9 y5a (y5 6 y5j xN) [.t 2, .t 3] y0y := sq ypd fun _ => by kernel_rfl
def yif (a b e c d : AV) (h : Heap) : OX :=
cnd d
 ((ytc a b e c h))
 ((yni a h))
def y12i (s : St) : OX := yif (s 4) (s 103) (s 104) (s 105) (s 106) s.h
theorem ytm : T1 yjg y5a (y5 6 y5j xN) [.t 2, .t 3] y12i := sq yos fun _ => by kernel_rfl
def yil (e c b a : AV) (h : Heap) : OX :=
ob (y9 .lss a b) fun d =>
(yif e c b a d h)
def y12m (s : St) : OX := yil (s 4) (s 103) (s 104) (s 105) s.h
theorem yon : T1 yii y5a (y5 6 y5j xN) [.t 2, .t 3] y12m := sq ytm fun _ => by kernel_rfl
theorem yce (d a c b : AV) (h : Heap) : yag d a c b h = (yil d a c b h) :=
  y3t.trans ((y2k _ _ _ (n' := y5a) (fun s => yc5 s)).trans ((yon _).trans (by kernel_rfl)))
theorem ynj : T1 yiu y5j xN [.t 2, .t 3] y5a := fun s => y1j.trans (yc5 s)
def yjm (a c : AV) (h : Heap) : OX :=
ob (y19 1 a h) fun b =>
(yag c a b (.int .i64 0) h)
def y2d (s : St) : OX := yjm (s 0) (s 4) s.h
theorem yp7 : T1 yiz y5j xN [.t 2, .t 3] y2d := sq ynj fun _ => by kernel_rfl
theorem yuf : T0 yk6 [.t 2, .t 3] y2d := sq yvo yp7
def yb3 (c a e b d : AV) (h : Heap) : OX :=
  W E 0 ya7 ⟨[(0, c), (4, a), (67, e), (68, b), (69, d)], h⟩ y2d (y5 4 y2d xN) (finP [.t 2, .t 3])
def y5i (s : St) : OX := yb3 (s 0) (s 4) (s 67) (s 68) (s 69) s.h
theorem ycd : T1 ya7 y2d (y5 4 y2d xN) [.t 2, .t 3] y5i := fun s => yw.trans (by kernel_rfl)
def yog (d a g b e : AV) (h : Heap) : OX :=
ob (y9 .add e (.int .i64 1)) fun c =>
(yb3 d a g b c h)
def y5v (s : St) : OX := yog (s 0) (s 4) (s 67) (s 68) (s 69) s.h
theorem yru : T1 yji y5i (y5 4 y2d xN) [.t 2, .t 3] y5v := fun _ => by kernel_rfl
def yo9 (y a b o w n : AV) (h : Heap) : OX :=
ob (y10 a) fun t =>
ob (evFa 0 t) fun m =>
ob (evLd false 1 m h) fun u =>
ob (evFa 1 b) fun v =>
ob (evLd false 1 v h) fun k =>
ob (evLd true 7 b h) fun l =>
oh (y3g false [2] u k l h) fun _ h6 =>
ob (y10 a) fun p =>
ob (evFa 1 p) fun i =>
ob (evLd false 1 i h6) fun d =>
ob (evFa 1 b) fun c =>
ob (evLd false 1 c h6) fun j =>
oh (y2t 0 (some 9) 1 1 [(.str [])] [(0, j)] h6) fun e h7 =>
oh (y69 0 (some 10) 1 16 d e h7) fun r h8 =>
ob (y10 a) fun x =>
ob (evFa 1 x) fun g =>
oh (evSt 1 g r h8) fun _ h9 =>
okK (y3i [([], []), ([], []), ([], []), ([], []), (ids1 i, []), ([], []), (ids1 c, []), ([], [0 + 9]), (ids1 e, ids1 d ++ [0 + 10]), ([], []), ([], []), ([], ids1 g)] [(4, 7)]) <|
(yog y a o w n h9)
def y0b (s : St) : OX := yo9 (s 0) (s 4) (s 10) (s 67) (s 68) (s 69) s.h
theorem yn1 : T1 yin y5v (y5 5 y5v (y5 4 y2d xN)) [.t 2, .t 3] y0b := fun _ => by kernel_rfl
def yth (m b i o k n : AV) (h : Heap) : OX :=
ob (y10 b) fun r =>
ob (evFa 0 r) fun d =>
ob (evLd false 1 d h) fun a =>
ob (evFa 1 i) fun c =>
ob (evLd false 1 c h) fun j =>
ob (y1l false [2] (.agg [(.int .i64 0), (.str []), (.str []), .nils, .nils, .nils, .nils]) true a j h) fun g =>
ob (y6v 0 g) fun p =>
ob (y6v 1 g) fun l =>
oh (newC 0 (some 8) [(.int .i64 0), (.str []), (.str []), .nils, .nils, .nils, .nils] h) fun e h10 =>
oh (evSt 7 e p h10) fun _ h11 =>
okK (y3i [([], []), ([], []), ([], []), (ids1 d, []), ([], []), (ids1 c, []), (ids1 a, []), ([], []), ([], []), ([], []), ([], [0 + 8]), ([], ids1 e), ([], [])] [(3, 10), (5, 10), (6, 10)]) <|
cnd l
 ((yr h11 (.tup [AV.nilp, (.int .i64 23)])))
 ((yo9 m b i o k n h11))
def y06 (s : St) : OX := yth (s 0) (s 4) (s 10) (s 67) (s 68) (s 69) s.h
theorem yun : T1 yig y5v (y5 5 y5v (y5 4 y2d xN)) [.t 2, .t 3] y06 := sq yn1 fun _ => by kernel_rfl
def yqu (i e c g b : AV) (h : Heap) : OX :=
ob (y2v 7 c b) fun j =>
ob (evLd true 7 j h) fun d =>
oh (newC 0 (some 7) [(.int .i64 0), (.str []), (.str []), .nils, .nils, .nils, .nils] h) fun a h12 =>
oh (evSt 7 a d h12) fun _ h13 =>
(yth i e a c g b h13)
def yhb (s : St) : OX := yqu (s 0) (s 4) (s 67) (s 68) (s 69) s.h
theorem yr7 : T1 yk8 y5v (y5 5 y5v (y5 4 y2d xN)) [.t 2, .t 3] yhb := sq yun fun _ => by kernel_rfl
theorem ynh : T1 ylg y5v (y5 4 y2d xN) [.t 2, .t 3] yhb := fun s => y1j.trans (yr7 s)
theorem yn4 : T1 ykx y5i (y5 4 y2d xN) [.t 2, .t 3] yhb := sq yru ynh
def yjj (b a g c e d : AV) (h : Heap) : OX :=
cnd d
 ((yqu b a g c e h))
 ((yjm b a h))
def y0u (s : St) : OX := yjj (s 0) (s 4) (s 67) (s 68) (s 69) (s 70) s.h
theorem yqj : T1 yir y5i (y5 4 y2d xN) [.t 2, .t 3] y0u := sq yn4 fun _ => by kernel_rfl
def yia (e c g a b : AV) (h : Heap) : OX :=
ob (y9 .lss b a) fun d =>
(yjj e c g a b d h)
def y11i (s : St) : OX := yia (s 0) (s 4) (s 67) (s 68) (s 69) s.h
theorem ysl : T1 yhw y5i (y5 4 y2d xN) [.t 2, .t 3] y11i := sq yqj fun _ => by kernel_rfl
theorem yco (c a e b d : AV) (h : Heap) : yb3 c a e b d h = (yia c a e b d h) :=
  y3t.trans ((y2k _ _ _ (n' := y5i) (fun s => ycd s)).trans ((ysl _).trans (by kernel_rfl)))
theorem ynm : T1 yka y2d xN [.t 2, .t 3] y5i := fun s => y1j.trans (ycd s)
def yl4 (a c : AV) (h : Heap) : OX :=
ob (y19 1 a h) fun b =>
(yb3 a c a b (.int .i64 0) h)
def y3k (s : St) : OX := yl4 (s 0) (s 4) s.h
theorem yov : T1 yli y2d xN [.t 2, .t 3] y3k := sq ynm fun _ => by kernel_rfl
theorem yqs : T0 yl6 [.t 2, .t 3] y3k := sq yuf yov
def yb6 (d a c b e : AV) (h : Heap) : OX :=
  W E 0 ya9 ⟨[(0, d), (4, a), (56, c), (57, b), (58, e)], h⟩ y3k (y5 2 y3k xN) (finP [.t 2, .t 3])
def y5e (s : St) : OX := yb6 (s 0) (s 4) (s 56) (s 57) (s 58) s.h
theorem ycv : T1 ya9 y3k (y5 2 y3k xN) [.t 2, .t 3] y5e := fun s => yw.trans (by kernel_rfl)
def ypm (e a d b g : AV) (h : Heap) : OX :=
ob (y9 .add g (.int .i64 1)) fun c =>
(yb6 e a d b c h)
def y121 (s : St) : OX := ypm (s 0) (s 4) (s 56) (s 57) (s 58) s.h
theorem ynl : T1 ykl y5e (y5 2 y3k xN) [.t 2, .t 3] y121 := fun _ => by kernel_rfl
def yqg (n i a k b : AV) (h : Heap) : OX :=
ob (y2v 7 a b) fun d =>
ob (evLd true 7 d h) fun j =>
oh (newC 0 (some 6) [(.int .i64 0), (.str []), (.str []), .nils, .nils, .nils, .nils] h) fun c h14 =>
oh (evSt 7 c j h14) fun _ h15 =>
ob (evFa 1 c) fun m =>
ob (evLd false 1 m h15) fun g =>
oh (y6 E (y8 E) 0 none true 60 [g, (.bool false)] h15) fun e h16 =>
ob (evUn .not e) fun l =>
cnd l
 ((yr h16 (.tup [AV.nilp, (.int .i64 20)])))
 ((ypm n i a k b h16))
def y12k (s : St) : OX := yqg (s 0) (s 4) (s 56) (s 57) (s 58) s.h
theorem ytd : T1 yk4 y5e (y5 2 y3k xN) [.t 2, .t 3] y12k := sq ynl fun _ => by kernel_rfl
def yjn (b a e d g c : AV) (h : Heap) : OX :=
cnd c
 ((yqg b a e d g h))
 ((yl4 b a h))
def y09 (s : St) : OX := yjn (s 0) (s 4) (s 56) (s 57) (s 58) (s 59) s.h
theorem yui : T1 yke y5e (y5 2 y3k xN) [.t 2, .t 3] y09 := sq ytd fun _ => by kernel_rfl
def yhv (g c e a b : AV) (h : Heap) : OX :=
ob (y9 .lss b a) fun d =>
(yjn g c e a b d h)
def y120 (s : St) : OX := yhv (s 0) (s 4) (s 56) (s 57) (s 58) s.h
theorem ytv : T1 yi3 y5e (y5 2 y3k xN) [.t 2, .t 3] y120 := sq yui fun _ => by kernel_rfl
theorem yd4 (d a c b e : AV) (h : Heap) : yb6 d a c b e h = (yhv d a c b e h) :=
  y3t.trans ((y2k _ _ _ (n' := y5e) (fun s => ycv s)).trans ((ytv _).trans (by kernel_rfl)))
theorem yse : T1 ykt y3k xN [.t 2, .t 3] y5e := fun s => y1j.trans (ycv s)
def yht (a b : AV) (h : Heap) : OX :=
ob (y19 1 a h) fun c =>
(yb6 a b a c (.int .i64 0) h)
def y3j (s : St) : OX := yht (s 0) (s 4) s.h
theorem yrw : T1 yj0 y3k xN [.t 2, .t 3] y3j := sq yse fun _ => by kernel_rfl
theorem yst : T0 ykw [.t 2, .t 3] y3j := sq yqs yrw
def y8j (c a b d e : AV) (h : Heap) : OX :=
  W E 0 yba ⟨[(0, c), (4, a), (24, b), (25, d), (26, e)], h⟩ y3j (y5 0 y3j xN) (finP [.t 2, .t 3])
def y5f (s : St) : OX := y8j (s 0) (s 4) (s 24) (s 25) (s 26) s.h
theorem yd1 : T1 yba y3j (y5 0 y3j xN) [.t 2, .t 3] y5f := fun s => yw.trans (by kernel_rfl)
def yre (d b c e g : AV) (h : Heap) : OX :=
ob (y9 .add g (.int .i64 1)) fun a =>
(y8j d b c e a h)
def y11j (s : St) : OX := yre (s 0) (s 4) (s 24) (s 25) (s 26) s.h
theorem yq8 : T1 yi2 y5f (y5 0 y3j xN) [.t 2, .t 3] y11j := fun _ => by kernel_rfl
def ys7 (G b g I p : AV) (h : Heap) : OX :=
ob (y2v 2 g p) fun D =>
ob (evLd true 2 D h) fun F =>
oh (newC 0 (some 3) [(.str []), (.str [])] h) fun a h17 =>
oh (evSt 2 a F h17) fun _ h18 =>
ob (y10 b) fun A =>
ob (evFa 0 A) fun t =>
ob (evLd false 1 t h18) fun j =>
ob (yay 2 1 a (.int .i64 0)) fun k =>
ob (evLd false 1 k h18) fun u =>
ob (yay 2 1 a (.int .i64 0)) fun o =>
ob (evLd false 1 o h18) fun y =>
ob (yay 2 1 a (.int .i64 1)) fun r =>
ob (evLd false 1 r h18) fun B =>
ob (yay 2 1 a (.int .i64 0)) fun d =>
ob (evLd false 1 d h18) fun m =>
ofp (yky E (y8 E) 0 none true 43 [m] h18) fun f12 =>
oh (y6 E (y8 E) 0 none true 43 [m] h18) fun H h19 =>
ob (y2w [(.int .i64 0), (.str []), (.str []), .nils, .nils, .nils, .nils] [(1, 1, y), (2, 1, B), (6, 1, H)]) fun v =>
oh (y3g false [2] j u v h19) fun _ h20 =>
okK (y3i [([], []), ([], []), ([], []), (ids1 t, []), ([], []), (ids1 k, []), ([], []), (ids1 o, []), ([], []), (ids1 r, []), ([], []), (ids1 d, []), f12, ([], []), ([], ids1 j)] [(3, 12), (5, 12), (7, 12), (9, 12)]) <|
ob (y10 b) fun x =>
ob (evFa 1 x) fun e =>
ob (evLd false 1 e h20) fun c =>
ob (yay 2 1 a (.int .i64 0)) fun l =>
ob (evLd false 1 l h20) fun C =>
oh (y2t 0 (some 4) 1 1 [(.str [])] [(0, C)] h20) fun i h21 =>
oh (y69 0 (some 5) 1 16 c i h21) fun z h22 =>
ob (y10 b) fun w =>
ob (evFa 1 w) fun n =>
oh (evSt 1 n z h22) fun _ h23 =>
okK (y3i [([], []), ([], []), ([], []), ([], []), (ids1 e, []), ([], []), (ids1 l, []), ([], [0 + 4]), (ids1 i, ids1 c ++ [0 + 5]), ([], []), ([], []), ([], ids1 n)] [(4, 7)]) <|
(yre G b g I p h23)
def y136 (s : St) : OX := ys7 (s 0) (s 4) (s 24) (s 25) (s 26) s.h
theorem yp0 : T1 yie y5f (y5 0 y3j xN) [.t 2, .t 3] y136 := sq yq8 fun _ => by kernel_rfl
def yj9 (b a c e g d : AV) (h : Heap) : OX :=
cnd d
 ((ys7 b a c e g h))
 ((yht b a h))
def y13e (s : St) : OX := yj9 (s 0) (s 4) (s 24) (s 25) (s 26) (s 27) s.h
theorem ync : T1 ykz y5f (y5 0 y3j xN) [.t 2, .t 3] y13e := sq yp0 fun _ => by kernel_rfl
def yi0 (g c d a b : AV) (h : Heap) : OX :=
ob (y9 .lss b a) fun e =>
(yj9 g c d a b e h)
def y144 (s : St) : OX := yi0 (s 0) (s 4) (s 24) (s 25) (s 26) s.h
theorem ytg : T1 yjb y5f (y5 0 y3j xN) [.t 2, .t 3] y144 := sq ync fun _ => by kernel_rfl
theorem yck (c a b d e : AV) (h : Heap) : y8j c a b d e h = (yi0 c a b d e h) :=
  y3t.trans ((y2k _ _ _ (n' := y5f) (fun s => yd1 s)).trans ((ytg _).trans (by kernel_rfl)))
theorem yuh : T1 yle y3j xN [.t 2, .t 3] y5f := fun s => y1j.trans (yd1 s)
def yqv (c d : AV) (h : Heap) : OX :=
oh (y6 E (y8 E) 0 none true 33 [] h) fun a h24 =>
ob (y19 1 a h24) fun b =>
(y8j c d a b (.int .i64 0) h24)
def ys8 (s : St) : OX := yqv (s 0) (s 4) s.h
theorem yrs : T1 yjw y3j xN [.t 2, .t 3] ys8 := sq yuh fun _ => by kernel_rfl
theorem ysu : T0 yis [.t 2, .t 3] ys8 := sq yst yrs
def yf1 (c : AV) (h : Heap) : OX :=
oh (mkmC 0 (some 0) h) fun b h25 =>
oh (mkmC 0 (some 1) h25) fun a h26 =>
ob (y2w [.nilm, .nils, .nilm] [(0, 1, b), (2, 1, a)]) fun e =>
oh (newC 0 (some 2) (cellsOf e) h26) fun d h27 =>
(yqv c d h27)
def y119 (s : St) : OX := yf1 (s 0) s.h
theorem ypn : T0 ylh [.t 2, .t 3] y119 := sq ysu fun _ => by kernel_rfl
def yqp (a : AV) (h : Heap) : OX :=
ob (y19 1 a h) fun c =>
ob (y9 .gtr c (.int .i64 40)) fun b =>
cnd b
 ((yr h (.tup [AV.nilp, (.int .i64 2)])))
 ((yf1 a h))
def y13o (s : St) : OX := yqp (s 0) s.h
theorem yqq : T0 yip [.t 2, .t 3] y13o := sq ypn fun _ => by kernel_rfl
def yoq (a : AV) (h : Heap) : OX :=
(yqp a h)
def y0q (s : St) : OX := yoq (s 0) s.h
theorem ynx : T0 yjp [.t 2, .t 3] y0q := sq yqq fun _ => by kernel_rfl
@[simp] theorem y1ar : E.pure 1 = true := rfl
theorem y18j (a : AV) : (y8 E).p 1 [a] = yoq a [⟨0, .dead⟩, ⟨0, .dead⟩, ⟨0, .dead⟩, ⟨0, .dead⟩, ⟨0, .dead⟩, ⟨0, .dead⟩, ⟨0, .dead⟩, ⟨0, .dead⟩, ⟨0, .dead⟩, ⟨0, .dead⟩, ⟨0, .dead⟩, ⟨0, .dead⟩, ⟨0, .dead⟩] :=
  (y2r (cf := y153) (by kernel_rfl) rfl).trans ((ynx _).trans (by kernel_rfl))
def y14d (a : AV) (h : Heap) : OX :=
ob (y9 .lss a (.int .i64 3000)) fun b =>
(yr h b)
def y5s (s : St) : OX := y14d (s 3) s.h
theorem yuz : T0 yow [.t 2] y5s := fun _ => by kernel_rfl
def yem (a c d b : AV) (h : Heap) : OX :=
  W E 0 yde ⟨[(3, a), (6, c), (7, d), (8, b)], h⟩ y5s (y5 0 y5s xN) (finP [.t 2])
def y7g (s : St) : OX := yem (s 3) (s 6) (s 7) (s 8) s.h
theorem yev : T1 yde y5s (y5 0 y5s xN) [.t 2] y7g := fun s => yw.trans (by kernel_rfl)
def y13p (a c b d : AV) (h : Heap) : OX :=
ob (y9 .add d (.int .i64 1)) fun e =>
(yem a c b e h)
def y17m (s : St) : OX := y13p (s 3) (s 6) (s 7) (s 8) s.h
theorem yvz : T1 yrb y7g (y5 0 y5s xN) [.t 2] y17m := fun _ => by kernel_rfl
def y11n (r c e b : AV) (h : Heap) : OX :=
ob (y2v 7 c b) fun g =>
ob (evLd true 7 g h) fun o =>
oh (newC 0 (some 0) [(.int .i64 0), (.str []), (.str []), .nils, .nils, .nils, .nils] h) fun a h1 =>
oh (evSt 7 a o h1) fun _ h2 =>
ob (evFa 3 a) fun p =>
ob (evLd false 1 p h2) fun t =>
ob (y19 1 t h2) fun x =>
ob (y9 .add (.int .i64 1) x) fun j =>
ob (evFa 5 a) fun v =>
ob (evLd false 1 v h2) fun l =>
ob (y19 1 l h2) fun i =>
ob (y9 .add j i) fun k =>
ob (evFa 6 a) fun n =>
ob (evLd false 1 n h2) fun m =>
ob (y19 1 m h2) fun u =>
ob (y9 .add k u) fun d =>
ob (y9 .add r d) fun w =>
(y13p w c e b h2)
def y16g (s : St) : OX := y11n (s 3) (s 6) (s 7) (s 8) s.h
theorem yxm : T1 ysr y7g (y5 0 y5s xN) [.t 2] y16g := sq yvz fun _ => by kernel_rfl
def yws (a d c e b : AV) (h : Heap) : OX :=
cnd b
 ((y11n a d c e h))
 ((y14d a h))
def y16o (s : St) : OX := yws (s 3) (s 6) (s 7) (s 8) (s 9) s.h
theorem yv7 : T1 yuq y7g (y5 0 y5s xN) [.t 2] y16o := sq yxm fun _ => by kernel_rfl
def yy7 (c e a b : AV) (h : Heap) : OX :=
ob (y9 .lss b a) fun d =>
(yws c e a b d h)
def y15d (s : St) : OX := yy7 (s 3) (s 6) (s 7) (s 8) s.h
theorem yxx : T1 yrf y7g (y5 0 y5s xN) [.t 2] y15d := sq yv7 fun _ => by kernel_rfl
theorem yf8 (a c d b : AV) (h : Heap) : yem a c d b h = (yy7 a c d b h) :=
  y3t.trans ((y2k _ _ _ (n' := y7g) (fun s => yev s)).trans ((yxx _).trans (by kernel_rfl)))
theorem yyj : T1 ysq y5s xN [.t 2] y7g := fun s => y1j.trans (yev s)
def y11e (a b : AV) (h : Heap) : OX :=
ob (y19 1 a h) fun c =>
(yem b a c (.int .i64 0) h)
def yzr (s : St) : OX := y11e (s 0) (s 3) s.h
theorem yv0 : T1 yn0 y5s xN [.t 2] yzr := sq yyj fun _ => by kernel_rfl
theorem yvt : T0 yud [.t 2] yzr := sq yuz yv0
def ypz (a : AV) (h : Heap) : OX :=
(y11e a (.int .i64 0) h)
def y0r (s : St) : OX := ypz (s 0) s.h
theorem ysf : T0 yix [.t 2] y0r := sq yvt fun _ => by kernel_rfl
def ytl (a : AV) (h : Heap) : OX :=
(ypz a h)
def y13s (s : St) : OX := ytl (s 0) s.h
theorem yqn : T0 ykd [.t 2] y13s := sq ysf fun _ => by kernel_rfl
@[simp] theorem y1at : E.pure 2 = true := rfl
theorem y18m (a : AV) : (y8 E).p 2 [a] = ytl a [⟨0, .dead⟩] :=
  (y2r (cf := y17b) (by kernel_rfl) rfl).trans ((yqn _).trans (by kernel_rfl))
def y05 (o v i : AV) (h : Heap) : OX :=
oh (y6 E (y8 E) 0 none true 36 [v] h) fun c h1 =>
oh (y6 E (y8 E) 0 none true 36 [i] h1) fun e h2 =>
ob (y9 .neq c (AV.str [])) fun d =>
gb d true (some e) fun j =>
gb d true (y9 .neq j (AV.str [])) fun m =>
ob (yk d m (.bool false)) fun b =>
gb b true (some c) fun l =>
gh b true (y6 E (y8 E) 0 none true 34 [l] h2) h2 fun n h3 =>
gb b true (y9 .eql n (.int .i64 3)) fun r =>
ob (yk b r (.bool false)) fun a =>
gb a true (some o) fun k =>
gb a true (some c) fun p =>
gb a true (some e) fun g =>
gh a true (y6 E (y8 E) 0 none true 3 [k, p, g] h3) h3 fun t h4 =>
ob (yk a t (.bool false)) fun u =>
(yr h4 u)
def yc6 (s : St) : OX := y05 (s 0) (s 1) (s 2) s.h
theorem yyi : T0 ys2 [.t 6] yc6 := fun _ => by kernel_rfl
def y13i (k p o : AV) (h : Heap) : OX :=
oh (y6 E (y8 E) 0 none true 35 [p] h) fun b h5 =>
ob (y9 .neq b (AV.str [])) fun a =>
gb a true (some k) fun n =>
gb a true (y10 n) fun m =>
gb a true (evFa 2 m) fun e =>
gb a true (evLd false 1 e h5) fun d =>
gb a true (some b) fun i =>
gb a true (y1l false [2] .nilm false d i h5) fun c =>
gb a true (some o) fun l =>
gb a true (y1l false [2] (.bool false) false c l h5) fun g =>
ob (yk a g (.bool false)) fun j =>
(yr h5 j)
def y17s (s : St) : OX := y13i (s 0) (s 1) (s 7) s.h
theorem yv6 : T1 yuk yc6 xN [.t 6] y17s := fun _ => by kernel_rfl
def y128 (e b a : AV) (h : Heap) : OX :=
ob (y1k b (.int .i64 0)) fun g =>
ob (y9 .eql g (.int .u8 91)) fun c =>
cnd c
 (ob (y9 .eql a (AV.str [79, 98, 106, 101, 99, 116])) fun d =>
(yr h d))
 ((y13i e b a h))
def y16l (s : St) : OX := y128 (s 0) (s 1) (s 7) s.h
theorem yx7 : T1 ymz yc6 xN [.t 6] y16l := sq yv6 fun _ => by kernel_rfl
def y08 (a b d e c : AV) (h : Heap) : OX :=
cnd c
 ((y128 a b e h))
 ((y05 a b d h))
def y15t (s : St) : OX := y08 (s 0) (s 1) (s 2) (s 7) (s 34) s.h
theorem yv5 : T1 ynu yc6 xN [.t 6] y15t := fun s => (yio (yx7 s) rfl).trans (by kernel_rfl)
def y11w (d e c a : AV) (h : Heap) : OX :=
ob (y9 .neq a (AV.str [])) fun b =>
(y08 d e c a b h)
def y16s (s : St) : OX := y11w (s 0) (s 1) (s 2) (s 7) s.h
theorem yy1 : T1 ys5 yc6 xN [.t 6] y16s := sq yv5 fun _ => by kernel_rfl
def y0s (c d a : AV) (h : Heap) : OX :=
oh (y6 E (y8 E) 0 none true 35 [a] h) fun b h6 =>
(y11w c d a b h6)
def yzk (s : St) : OX := y0s (s 0) (s 1) (s 2) s.h
theorem yve : T1 ytt yc6 xN [.t 6] yzk := sq yy1 fun _ => by kernel_rfl
theorem yxs : T0 yrt [.t 6] yzk := sq yyi yve
def yyn (d b a : AV) (h : Heap) : OX :=
ob (y9 .eql a (AV.str [])) fun m =>
cnd m
 ((yr h (.bool true)))
 (ob (y6w 0 false d AV.nilp) fun c =>
gb c false (some b) fun n =>
gb c false (y9 .eql n (AV.str [])) fun e =>
ob (yk c (.bool true) e) fun k =>
cnd k
 ((yr h (.bool false)))
 (ob (y9 .eql b a) fun g =>
cnd g
 ((yr h (.bool true)))
 (ob (y9 .eql b (AV.str [78])) fun i =>
cnd i
 (oh (y6 E (y8 E) 0 none true 34 [a] h) fun j h7 =>
ob (y9 .eql j (.int .i64 3)) fun l =>
(yr h7 l))
 ((y0s d b a h)))))
def y15r (s : St) : OX := yyn (s 0) (s 1) (s 2) s.h
theorem yxj : T0 ytb [.t 6] y15r := sq yxs fun _ => by kernel_rfl
def yvl (b c a : AV) (h : Heap) : OX :=
(yyn b c a h)
def y17k (s : St) : OX := yvl (s 0) (s 1) (s 2) s.h
theorem ywd : T0 yp1 [.t 6] y17k := sq yxj fun _ => by kernel_rfl
@[simp] theorem y1az : E.pure 3 = true := rfl
theorem y160 (b c a : AV) : (y8 E).p 3 [b, c, a] = yvl b c a [] :=
  (y2r (cf := y172) (by kernel_rfl) rfl).trans ((ywd _).trans (by kernel_rfl))
def y12y (h : Heap) : OX :=
(yr h (.bool true))
def y16y (s : St) : OX := y12y s.h
theorem yx3 : T0 yr0 [.t 4] y16y := fun _ => by kernel_rfl
def yvy (j c : AV) (h : Heap) : OX :=
oh (y6 E (y8 E) 0 none true 35 [c] h) fun a h1 =>
ob (y9 .neq a (AV.str [])) fun i =>
cnd i
 (ob (y10 j) fun m =>
ob (evFa 0 m) fun g =>
ob (evLd false 1 g h1) fun d =>
ob (y1l false [2] (.agg [(.int .i64 0), (.str []), (.str []), .nils, .nils, .nils, .nils]) true d a h1) fun b =>
ob (y6v 0 b) fun e =>
ob (y6v 1 b) fun k =>
oh (newC 0 (some 0) [(.int .i64 0), (.str []), (.str []), .nils, .nils, .nils, .nils] h1) fun l h2 =>
oh (evSt 7 l e h2) fun _ h3 =>
(yr h3 k))
 ((y12y h1))
def y9j (s : St) : OX := yvy (s 0) (s 1) s.h
theorem ywm : T0 yqi [.t 4] y9j := sq yx3 fun _ => by kernel_rfl
def yf2 (a b : AV) (h : Heap) : OX :=
  W E 0 ydi ⟨[(0, a), (1, b)], h⟩ y9j (y5 0 y9j xN) (finP [.t 4])
def y8i (s : St) : OX := yf2 (s 0) (s 1) s.h
theorem yfd : T1 ydi y9j (y5 0 y9j xN) [.t 4] y8i := fun s => yw.trans (by kernel_rfl)
def y12n (a c : AV) (h : Heap) : OX :=
ob (yai c (some (.int .i64 1)) none) fun b =>
(yf2 a b h)
def y15p (s : St) : OX := y12n (s 0) (s 1) s.h
theorem yy9 : T1 ynz y8i (y5 0 y9j xN) [.t 4] y15p := fun _ => by kernel_rfl
def yw6 (b a : AV) (h : Heap) : OX :=
ob (y1k a (.int .i64 0)) fun c =>
ob (y9 .eql c (.int .u8 91)) fun d =>
cnd d
 ((y12n b a h))
 ((yvy b a h))
def y16d (s : St) : OX := yw6 (s 0) (s 1) s.h
theorem yx0 : T1 yte y8i (y5 0 y9j xN) [.t 4] y16d := sq yy9 fun _ => by kernel_rfl
theorem yef (a b : AV) (h : Heap) : yf2 a b h = (yw6 a b h) :=
  y3t.trans ((y2k _ _ _ (n' := y8i) (fun s => yfd s)).trans ((yx0 _).trans (by kernel_rfl)))
theorem yuw : T1 ytx y9j xN [.t 4] y8i := fun s => y1j.trans (yfd s)
theorem yv2 : T0 ysn [.t 4] y8i := sq ywm yuw
def y11z (b c : AV) (h : Heap) : OX :=
ob (y6w 0 false b AV.nilp) fun a =>
gb a false (some c) fun e =>
gh a false (y6 E (y8 E) 0 none true 37 [e] h) h fun i h4 =>
gb a false (evUn .not i) fun g =>
ob (yk a (.bool true) g) fun d =>
cnd d
 ((yr h4 (.bool false)))
 ((yf2 b c h4))
def y169 (s : St) : OX := y11z (s 0) (s 1) s.h
theorem ywt : T0 yoz [.t 4] y169 := sq yv2 fun _ => by kernel_rfl
def y135 (a b : AV) (h : Heap) : OX :=
(y11z a b h)
def y16b (s : St) : OX := y135 (s 0) (s 1) s.h
theorem yxg : T0 ypx [.t 4] y16b := sq ywt fun _ => by kernel_rfl
@[simp] theorem y18q : E.pure 59 = true := rfl
theorem y19e (a b : AV) : (y8 E).p 59 [a, b] = y135 a b [⟨0, .dead⟩] :=
  (y2r (cf := y16m) (by kernel_rfl) rfl).trans ((yxg _).trans (by kernel_rfl))
@[simp] theorem y18h : E.pure 31 = true := rfl
@[simp] theorem y1a4 : E.pure 32 = true := rfl
@[simp] theorem y18r : E.pure 33 = true := rfl
def y17l (h : Heap) : OX :=
(yr h AV.nils)
def y17f (s : St) : OX := y17l s.h
theorem yvm : T0 ysy [.t 2] y17f := fun _ => by kernel_rfl
def y13a (a : AV) (h : Heap) : OX :=
ob (y9 .eql a (AV.str [83, 121, 115])) fun k =>
cnd k
 (ob (y2w [(.int .i64 0), (.str []), (.str []), (.int .i64 0), (.int .i64 0), .nils, .nils, .nils] [(0, 1, (.int .i64 8)), (1, 1, (AV.str [112, 114, 105, 110, 116])), (2, 1, (AV.str [40, 73, 41, 86]))]) fun i =>
ob (y2w [(.int .i64 0), (.str []), (.str []), (.int .i64 0), (.int .i64 0), .nils, .nils, .nils] [(0, 1, (.int .i64 8)), (1, 1, (AV.str [112, 114, 105, 110, 116])), (2, 1, (AV.str [40, 74, 41, 86]))]) fun e =>
ob (y2w [(.int .i64 0), (.str []), (.str []), (.int .i64 0), (.int .i64 0), .nils, .nils, .nils] [(0, 1, (.int .i64 8)), (1, 1, (AV.str [112, 114, 105, 110, 116])), (2, 1, (AV.str [40, 76, 83, 116, 114, 105, 110, 103, 59, 41, 86]))]) fun j =>
ob (y2w [(.int .i64 0), (.str []), (.str []), (.int .i64 0), (.int .i64 0), .nils, .nils, .nils] [(0, 1, (.int .i64 8)), (1, 1, (AV.str [101, 120, 105, 116])), (2, 1, (AV.str [40, 73, 41, 86]))]) fun d =>
oh (y2t 0 (some 0) 8 4 [(.int .i64 0), (.str []), (.str []), (.int .i64 0), (.int .i64 0), .nils, .nils, .nils] [(0, i), (1, e), (2, j), (3, d)] h) fun m h1 =>
(yr h1 m))
 (ob (y9 .eql a (AV.str [83, 116, 114, 105, 110, 103])) fun l =>
cnd l
 (ob (y2w [(.int .i64 0), (.str []), (.str []), (.int .i64 0), (.int .i64 0), .nils, .nils, .nils] [(1, 1, (AV.str [108, 101, 110, 103, 116, 104])), (2, 1, (AV.str [40, 41, 73]))]) fun g =>
ob (y2w [(.int .i64 0), (.str []), (.str []), (.int .i64 0), (.int .i64 0), .nils, .nils, .nils] [(1, 1, (AV.str [99, 104, 97, 114, 65, 116])), (2, 1, (AV.str [40, 73, 41, 73]))]) fun b =>
oh (y2t 0 (some 1) 8 2 [(.int .i64 0), (.str []), (.str []), (.int .i64 0), (.int .i64 0), .nils, .nils, .nils] [(0, g), (1, b)] h) fun c h2 =>
(yr h2 c))
 ((y17l h)))
def y179 (s : St) : OX := y13a (s 0) s.h
theorem yuv : T0 yrc [.t 2] y179 := sq yvm fun _ => by kernel_rfl
def y118 (a : AV) (h : Heap) : OX :=
(y13a a h)
def y17e (s : St) : OX := y118 (s 0) s.h
theorem yxf : T0 yt3 [.t 2] y17e := sq yuv fun _ => by kernel_rfl
@[simp] theorem y18k : E.pure 43 = true := rfl
theorem y1a0 (a : AV) : (y8 E).p 43 [a] = y118 a [⟨0, .dead⟩, ⟨0, .dead⟩] :=
  (y2r (cf := y15k) (by kernel_rfl) rfl).trans ((yxf _).trans (by kernel_rfl))
def q6_1 (h : Heap) : OX :=
(yr h (.bool true))
def ybm (s : St) : OX := q6_1 s.h
theorem y12p : T0 y01 [.t 4] ybm := fun _ => by kernel_rfl
def ypp (d b a c : AV) (h : Heap) : OX :=
  W E 0 ygx ⟨[(1, d), (17, b), (18, a), (19, c)], h⟩ ybm (y5 0 ybm xN) (finP [.t 4])
def ybh (s : St) : OX := ypp (s 1) (s 17) (s 18) (s 19) s.h
theorem yim : T1 ygx ybm (y5 0 ybm xN) [.t 4] ybh := fun s => yw.trans (by kernel_rfl)
def q6_3 (b d c a : AV) (h : Heap) : OX :=
ob (y9 .add a (.int .i64 1)) fun e =>
(ypp b d c e h)
def y18y (s : St) : OX := q6_3 (s 1) (s 17) (s 18) (s 19) s.h
theorem y0g : T1 yzo ybh (y5 0 ybm xN) [.t 4] y18y := fun _ => by kernel_rfl
def q6_4 (p r J o : AV) (h : Heap) : OX :=
ob (y2v 1 r o) fun O =>
ob (evLd false 1 O h) fun a =>
ob (y9 .geq a (.int .u8 97)) fun j =>
gb j true (some a) fun R =>
gb j true (y9 .leq R (.int .u8 122)) fun N =>
ob (yk j N (.bool false)) fun c =>
gb c false (some a) fun K =>
gb c false (y9 .geq K (.int .u8 65)) fun C =>
gb c false (some C) fun n =>
gb n true (some a) fun A =>
gb n true (y9 .leq A (.int .u8 90)) fun B =>
gb c false (yk n B (.bool false)) fun u =>
ob (yk c (.bool true) u) fun e =>
gb e false (some a) fun X =>
gb e false (y9 .geq X (.int .u8 48)) fun D =>
gb e false (some D) fun i =>
gb i true (some a) fun I =>
gb i true (y9 .leq I (.int .u8 57)) fun Z =>
gb e false (yk i Z (.bool false)) fun v =>
ob (yk e (.bool true) v) fun l =>
gb l false (some a) fun x =>
gb l false (y9 .eql x (.int .u8 95)) fun t =>
ob (yk l (.bool true) t) fun g =>
gb g false (some a) fun L =>
gb g false (y9 .eql L (.int .u8 36)) fun y =>
ob (yk g (.bool true) y) fun k =>
gb k false (some a) fun P =>
gb k false (y9 .eql P (.int .u8 47)) fun S =>
ob (yk k (.bool true) S) fun Q =>
ob (evUn .not Q) fun d =>
gb d true (some p) fun z =>
gb d true (some z) fun b =>
gb b true (some a) fun Y =>
gb b true (y9 .eql Y (.int .u8 60)) fun M =>
gb b true (some M) fun m =>
gb m false (some a) fun w =>
gb m false (y9 .eql w (.int .u8 62)) fun F =>
gb b true (yk m (.bool true) F) fun H =>
gb d true (yk b H (.bool false)) fun U =>
gb d true (evUn .not U) fun G =>
ob (yk d G (.bool false)) fun V =>
cnd V
 ((yr h (.bool false)))
 ((q6_3 p r J o h))
def y1a1 (s : St) : OX := q6_4 (s 1) (s 17) (s 18) (s 19) s.h
theorem y0k : T1 yz3 ybh (y5 0 ybm xN) [.t 4] y1a1 := sq y0g fun _ => by kernel_rfl
def q6_5 (e d c a b : AV) (h : Heap) : OX :=
cnd b
 ((q6_4 e d c a h))
 ((q6_1 h))
def y196 (s : St) : OX := q6_5 (s 1) (s 17) (s 18) (s 19) (s 20) s.h
theorem y0f : T1 yzm ybh (y5 0 ybm xN) [.t 4] y196 := sq y0k fun _ => by kernel_rfl
def q6_6 (e d b a : AV) (h : Heap) : OX :=
ob (y9 .lss a b) fun c =>
(q6_5 e d b a c h)
def y18i (s : St) : OX := q6_6 (s 1) (s 17) (s 18) (s 19) s.h
theorem y13x : T1 yzz ybh (y5 0 ybm xN) [.t 4] y18i := sq y0f fun _ => by kernel_rfl
theorem yl3 (d b a c : AV) (h : Heap) : ypp d b a c h = (q6_6 d b a c h) :=
  y3t.trans ((y2k _ _ _ (n' := ybh) (fun s => yim s)).trans ((y13x _).trans (by kernel_rfl)))
theorem y11l : T1 yzb ybm xN [.t 4] ybh := fun s => y1j.trans (yim s)
def q6_8 (b d : AV) (h : Heap) : OX :=
oh (s2bC 0 (some 0) b h) fun a h1 =>
ob (y19 1 a h1) fun c =>
(ypp d a c (.int .i64 0) h1)
def y17p (s : St) : OX := q6_8 (s 0) (s 1) s.h
theorem y0n : T1 y03 ybm xN [.t 4] y17p := sq y11l fun _ => by kernel_rfl
theorem y12w : T0 yzd [.t 4] y17p := sq y12p y0n
def y139 (b d : AV) (h : Heap) : OX :=
ob (y19 0 b h) fun e =>
ob (y9 .lss e (.int .i64 1)) fun a =>
gb a false (some b) fun i =>
gb a false (y19 0 i h) fun g =>
gb a false (y9 .gtr g (.int .i64 60)) fun c =>
ob (yk a (.bool true) c) fun j =>
cnd j
 ((yr h (.bool false)))
 ((q6_8 b d h))
def y17t (s : St) : OX := y139 (s 0) (s 1) s.h
theorem yvb : T0 yol [.t 4] y17t := sq y12w fun _ => by kernel_rfl
def y146 (a b : AV) (h : Heap) : OX :=
(y139 a b h)
def y16f (s : St) : OX := y146 (s 0) (s 1) s.h
theorem yuy : T0 yr9 [.t 4] y16f := sq yvb fun _ => by kernel_rfl
@[simp] theorem y19q : E.pure 60 = true := rfl
theorem x_q6 (a b : AV) : (y8 E).p 60 [a, b] = y146 a b [⟨0, .dead⟩] :=
  (y2r (cf := c_q6) (by kernel_rfl) rfl).trans ((yuy _).trans (by kernel_rfl))
def yx1 (h : Heap) : OX :=
(yr h (.bool true))
def y24 (s : St) : OX := yx1 s.h
theorem ywp : T0 yps [.t 4] y24 := fun _ => by kernel_rfl
def yf7 (e b a d c : AV) (h : Heap) : OX :=
  W E 0 ye1 ⟨[(0, e), (3, b), (55, a), (56, d), (57, c)], h⟩ y24 (y5 0 y24 xN) (finP [.t 4])
def y7c (s : St) : OX := yf7 (s 0) (s 3) (s 55) (s 56) (s 57) s.h
theorem yfz : T1 ye1 y24 (y5 0 y24 xN) [.t 4] y7c := fun s => yw.trans (by kernel_rfl)
def yv1 (g b a e d : AV) (h : Heap) : OX :=
ob (y9 .add d (.int .i64 1)) fun c =>
(yf7 g b a e c h)
def y1n (s : St) : OX := yv1 (s 0) (s 3) (s 55) (s 56) (s 57) s.h
theorem yxt : T1 yu3 y7c (y5 0 y24 xN) [.t 4] y1n := fun _ => by kernel_rfl
def yf4 (e b g a d c k i j : AV) (h : Heap) : OX :=
  W E 0 yda ⟨[(0, e), (3, b), (9, g), (55, a), (56, d), (57, c), (82, k), (83, i), (84, j)], h⟩ y1n (y5 2 y1n (y5 1 y1n (y5 0 y24 xN))) (finP [.t 4])
def y7f (s : St) : OX := yf4 (s 0) (s 3) (s 9) (s 55) (s 56) (s 57) (s 82) (s 83) (s 84) s.h
theorem yec : T1 yda y1n (y5 2 y1n (y5 1 y1n (y5 0 y24 xN))) [.t 4] y7f := fun s => yw.trans (by kernel_rfl)
def y11t (g b i a e d l j k : AV) (h : Heap) : OX :=
ob (y9 .add k (.int .i64 1)) fun c =>
(yf4 g b i a e d l j c h)
def y157 (s : St) : OX := y11t (s 0) (s 3) (s 9) (s 55) (s 56) (s 57) (s 82) (s 83) (s 84) s.h
theorem yxo : T1 yrl y7f (y5 2 y1n (y5 1 y1n (y5 0 y24 xN))) [.t 4] y157 := fun _ => by kernel_rfl
def y137 (k e a d j i c n b : AV) (h : Heap) : OX :=
ob (y2v 1 c b) fun m =>
ob (evLd false 1 m h) fun g =>
ob (y9 .eql g a) fun l =>
cnd l
 ((yr h (.bool false)))
 ((y11t k e a d j i c n b h))
def y162 (s : St) : OX := y137 (s 0) (s 3) (s 9) (s 55) (s 56) (s 57) (s 82) (s 83) (s 84) s.h
theorem yw9 : T1 yul y7f (y5 2 y1n (y5 1 y1n (y5 0 y24 xN))) [.t 4] y162 := sq yxo fun _ => by kernel_rfl
def yw1 (e b i a d c l j k g : AV) (h : Heap) : OX :=
cnd g
 ((y137 e b i a d c l j k h))
 ((yv1 e b a d c h))
def y15e (s : St) : OX := yw1 (s 0) (s 3) (s 9) (s 55) (s 56) (s 57) (s 82) (s 83) (s 84) (s 85) s.h
theorem yw7 : T1 ypa y7f (y5 2 y1n (y5 1 y1n (y5 0 y24 xN))) [.t 4] y15e := sq yw9 fun _ => by kernel_rfl
def yvu (j d k c i g l a b : AV) (h : Heap) : OX :=
ob (y9 .lss b a) fun e =>
(yw1 j d k c i g l a b e h)
def y16w (s : St) : OX := yvu (s 0) (s 3) (s 9) (s 55) (s 56) (s 57) (s 82) (s 83) (s 84) s.h
theorem yvv : T1 ytk y7f (y5 2 y1n (y5 1 y1n (y5 0 y24 xN))) [.t 4] y16w := sq yw7 fun _ => by kernel_rfl
theorem yek (e b g a d c k i j : AV) (h : Heap) : yf4 e b g a d c k i j h = (yvu e b g a d c k i j h) :=
  y3t.trans ((y2k _ _ _ (n' := y7f) (fun s => yec s)).trans ((yvv _).trans (by kernel_rfl)))
theorem ywy : T1 yqy y1n (y5 1 y1n (y5 0 y24 xN)) [.t 4] y7f := fun s => y1j.trans (yec s)
def ytw (j a m k c i g : AV) (h : Heap) : OX :=
ob (evFa 3 a) fun e =>
ob (evLd false 1 e h) fun d =>
ob (yfo 1 d none (some m)) fun b =>
ob (y19 1 b h) fun l =>
(yf4 j a k c i g b l (.int .i64 0) h)
def y0c (s : St) : OX := ytw (s 0) (s 3) (s 8) (s 9) (s 55) (s 56) (s 57) s.h
theorem yqf : T1 yiv y1n (y5 1 y1n (y5 0 y24 xN)) [.t 4] y0c := sq ywy fun _ => by kernel_rfl
def ykh (k d p m r l b j i : AV) (h : Heap) : OX :=
ob (evUn .not l) fun a =>
gb a false (evFa 0 r) fun n =>
gb a false (evLd false 1 n h) fun o =>
gb a false (y9 .and o (.int .i64 512)) fun g =>
gb a false (y9 .eql g (.int .i64 0)) fun c =>
ob (yk a (.bool true) c) fun e =>
cnd e
 ((yr h (.bool false)))
 ((ytw k d p m b j i h))
def y13f (s : St) : OX := ykh (s 0) (s 3) (s 8) (s 9) (s 10) (s 11) (s 55) (s 56) (s 57) s.h
theorem yt6 : T1 yki y1n (y5 1 y1n (y5 0 y24 xN)) [.t 4] y13f := sq yqf fun _ => by kernel_rfl
def ynq (b g p c e n k : AV) (h : Heap) : OX :=
ob (y10 b) fun i =>
ob (evFa 0 i) fun l =>
ob (evLd false 1 l h) fun m =>
ob (y1l false [2] (.agg [(.int .i64 0), (.str []), (.str []), .nils, .nils, .nils, .nils]) true m c h) fun a =>
ob (y6v 0 a) fun o =>
ob (y6v 1 a) fun j =>
oh (newC 0 (some 2) [(.int .i64 0), (.str []), (.str []), .nils, .nils, .nils, .nils] h) fun d h1 =>
oh (evSt 7 d o h1) fun _ h2 =>
(ykh b g p c d j e n k h2)
def y125 (s : St) : OX := ynq (s 0) (s 3) (s 8) (s 9) (s 55) (s 56) (s 57) s.h
theorem yra : T1 yja y1n (y5 1 y1n (y5 0 y24 xN)) [.t 4] y125 := sq yt6 fun _ => by kernel_rfl
def ypt (i d b g a : AV) (h : Heap) : OX :=
ob (y2v 1 b a) fun c =>
ob (evLd false 1 c h) fun e =>
(ynq i d a e b g a h)
def ygg (s : St) : OX := ypt (s 0) (s 3) (s 55) (s 56) (s 57) s.h
theorem ysz : T1 yij y1n (y5 1 y1n (y5 0 y24 xN)) [.t 4] ygg := sq yra fun _ => by kernel_rfl
theorem yoa : T1 yk1 y1n (y5 0 y24 xN) [.t 4] ygg := fun s => y1j.trans (ysz s)
theorem yoc : T1 yi6 y7c (y5 0 y24 xN) [.t 4] ygg := sq yxt yoa
def yeh (e b a d c g : AV) (h : Heap) : OX :=
cnd g
 ((ypt e b a d c h))
 ((yx1 h))
def y0h (s : St) : OX := yeh (s 0) (s 3) (s 55) (s 56) (s 57) (s 58) s.h
theorem yoi : T1 yks y7c (y5 0 y24 xN) [.t 4] y0h := sq yoc fun _ => by kernel_rfl
def yg5 (e d c b a : AV) (h : Heap) : OX :=
ob (y9 .lss a b) fun g =>
(yeh e d c b a g h)
def y147 (s : St) : OX := yg5 (s 0) (s 3) (s 55) (s 56) (s 57) s.h
theorem yqc : T1 yko y7c (y5 0 y24 xN) [.t 4] y147 := sq yoi fun _ => by kernel_rfl
theorem yan (e b a d c : AV) (h : Heap) : yf7 e b a d c h = (yg5 e b a d c h) :=
  y3t.trans ((y2k _ _ _ (n' := y7c) (fun s => yfz s)).trans ((yqc _).trans (by kernel_rfl)))
theorem yty : T1 yj5 y24 xN [.t 4] y7c := fun s => y1j.trans (yfz s)
def ykf (e b : AV) (h : Heap) : OX :=
ob (evFa 3 b) fun c =>
ob (evLd false 1 c h) fun a =>
ob (y19 1 a h) fun d =>
(yf7 e b a d (.int .i64 0) h)
def ysc (s : St) : OX := ykf (s 0) (s 3) s.h
theorem yrr : T1 yk7 y24 xN [.t 4] ysc := sq yty fun _ => by kernel_rfl
theorem yt7 : T0 yi9 [.t 4] ysc := sq ywp yrr
def yi4 (B g n z m : AV) (h : Heap) : OX :=
ob (evUn .not z) fun a =>
gb a false (evFa 0 n) fun u =>
gb a false (evLd false 1 u h) fun C =>
gb a false (y9 .and C (.int .i64 512)) fun o =>
gb a false (y9 .neq o (.int .i64 0)) fun p =>
ob (yk a (.bool true) p) fun d =>
gb d false (evFa 2 g) fun r =>
gb d false (evLd false 1 r h) fun A =>
gb d false (y9 .eql A (AV.str [83, 116, 114, 105, 110, 103])) fun v =>
ob (yk d (.bool true) v) fun c =>
gb c false (evFa 2 g) fun D =>
gb c false (evLd false 1 D h) fun j =>
gb c false (y9 .eql j (AV.str [83, 121, 115])) fun y =>
ob (yk c (.bool true) y) fun e =>
gb e false (some m) fun i =>
gb e false (some i) fun b =>
gb b true (evFa 2 g) fun w =>
gb b true (evLd false 1 w h) fun x =>
gb b true (y9 .neq x (AV.str [79, 98, 106, 101, 99, 116])) fun l =>
gb e false (yk b l (.bool false)) fun t =>
ob (yk e (.bool true) t) fun k =>
cnd k
 ((yr h (.bool false)))
 ((ykf B g h))
def y0a (s : St) : OX := yi4 (s 0) (s 3) (s 5) (s 6) (s 7) s.h
theorem yu0 : T0 ylb [.t 4] y0a := sq yt7 fun _ => by kernel_rfl
def ykp (d a i e : AV) (h : Heap) : OX :=
ob (evFa 0 a) fun b =>
ob (evLd false 1 b h) fun g =>
ob (y9 .and g (.int .i64 512)) fun j =>
ob (y9 .neq j (.int .i64 0)) fun c =>
(yi4 d a i e c h)
def y0e (s : St) : OX := ykp (s 0) (s 3) (s 5) (s 6) s.h
theorem ype : T0 yhx [.t 4] y0e := sq yu0 fun _ => by kernel_rfl
def yp8 (e b : AV) (h : Heap) : OX :=
ob (y10 e) fun k =>
ob (evFa 0 k) fun i =>
ob (evLd false 1 i h) fun g =>
ob (evFa 2 b) fun c =>
ob (evLd false 1 c h) fun l =>
ob (y1l false [2] (.agg [(.int .i64 0), (.str []), (.str []), .nils, .nils, .nils, .nils]) true g l h) fun d =>
ob (y6v 0 d) fun j =>
ob (y6v 1 d) fun m =>
oh (newC 0 (some 1) [(.int .i64 0), (.str []), (.str []), .nils, .nils, .nils, .nils] h) fun a h3 =>
oh (evSt 7 a j h3) fun _ h4 =>
okK (y3i [([], []), ([], []), ([], []), (ids1 i, []), ([], []), (ids1 c, []), (ids1 g, []), ([], []), ([], []), ([], []), ([], [0 + 1]), ([], ids1 a), ([], [])] [(3, 10), (5, 10), (6, 10)]) <|
(ykp e b a m h4)
def y13j (s : St) : OX := yp8 (s 0) (s 3) s.h
theorem ynr : T0 yi7 [.t 4] y13j := sq ype fun _ => by kernel_rfl
def ypu (b c : AV) (h : Heap) : OX :=
oh (newC 0 (some 0) (cellsOf c) h) fun a h5 =>
(yp8 b a h5)
def y13l (s : St) : OX := ypu (s 0) (s 1) s.h
theorem yqt : T0 yjo [.t 4] y13l := sq ynr fun _ => by kernel_rfl
@[simp] theorem y190 : E.pure 61 = true := rfl
theorem y18u (a b : AV) : (y8 E).p 61 [a, b] = ypu a b [⟨0, .dead⟩, ⟨0, .dead⟩, ⟨0, .dead⟩] :=
  (y2r (cf := y150) (by kernel_rfl) rfl).trans ((yqt _).trans (by kernel_rfl))
def ymv (fb : Nat) (d b e : AV) (h : Heap) : Option (AV × Heap) :=
ob (y10 d) fun g =>
ob (evFa 2 g) fun a =>
ob (evLd false 1 a h) fun c =>
oh (y3g false [2] c b e h) fun _ h1 =>
(some ((.bool true), h1))
def y3u (fb : Nat) (s : St) : Option (AV × Heap) := ymv fb (s 0) (s 1) (s 7) s.h
theorem yvp (fb : Nat) (s : St) : W E fb ypw s (finI [.t 6]) xN (finI [.t 6]) = y3u fb s :=
  by kernel_rfl
def ycp (fb : Nat) (c i b g e d a : AV) (h : Heap) : Option (AV × Heap) :=
  W E fb ydz ⟨[(0, c), (1, i), (2, b), (7, g), (45, e), (46, d), (47, a)], h⟩ (y3u fb) (y5 0 (y3u fb) xN) (finI [.t 6])
def y5o (fb : Nat) (s : St) : Option (AV × Heap) := ycp fb (s 0) (s 1) (s 2) (s 7) (s 45) (s 46) (s 47) s.h
theorem yeo (fb : Nat) (s : St) : W E fb ydz s (y3u fb) (y5 0 (y3u fb) xN) (finI [.t 6]) = y5o fb s := yw.trans (by kernel_rfl)
def y115 (fb : Nat) (c j b i g e a : AV) (h : Heap) : Option (AV × Heap) :=
ob (y9 .add a (.int .i64 1)) fun d =>
(ycp fb c j b i g e d h)
def y74 (fb : Nat) (s : St) : Option (AV × Heap) := y115 fb (s 0) (s 1) (s 2) (s 7) (s 45) (s 46) (s 47) s.h
theorem yvn (fb : Nat) (s : St) : W E fb yo8 s (y5o fb) (y5 0 (y3u fb) xN) (finI [.t 6]) = y74 fb s :=
  by kernel_rfl
def y11c (fb : Nat) (a b : AV) (h : Heap) : Option Heap :=
oh (y3g false [2] a b (.bool true) h) fun _ h2 =>
(some (killAll fb [] h2))
def y16x (fb : Nat) (s : St) : Option Heap := y11c fb (s 7) (s 12) s.h
theorem ywg (fb : Nat) (s : St) : W E fb yr3 s (fun s3 => some (killAll fb [] s3.h)) xN (fun _ => none) = y16x fb s :=
  by kernel_rfl
def y140 (fb : Nat) (a o d b k n m c : AV) (h : Heap) : Option (AV × Heap) :=
ob (y10 a) fun i =>
ob (evFa 2 i) fun l =>
ob (evLd false 1 l h) fun e =>
ob (y1l false [2] .nilm false e k h) fun g =>
orm g (fun q h3 =>
ob (y6v 0 (AV.tup [q.1, q.2])) fun j =>
(y11c fb b j h3)) h fun h4 =>
(y115 fb a o d b n m c h4)
def yzf (fb : Nat) (s : St) : Option (AV × Heap) := y140 fb (s 0) (s 1) (s 2) (s 7) (s 11) (s 45) (s 46) (s 47) s.h
theorem yv3 (fb : Nat) (s : St) : W E fb yqd s (y74 fb) (y5 1 (y74 fb) (y5 0 (y3u fb) xN)) (finI [.t 6]) = yzf fb s :=
  (yod (nk := (y74 fb)) (fun s2 => ywg fb s2) (fun s => rfl)).trans (by kernel_rfl)
def y142 (fb : Nat) (b l a k c j i e : AV) (h : Heap) : Option (AV × Heap) :=
oh (y6 E (y8 E) fb none false 62 [b, c, a] h) fun g h5 =>
ob (evUn .not g) fun d =>
cnd d
 ((some ((.bool false), h5)))
 ((y140 fb b l a k c j i e h5))
def yzx (fb : Nat) (s : St) : Option (AV × Heap) := y142 fb (s 0) (s 1) (s 2) (s 7) (s 11) (s 45) (s 46) (s 47) s.h
theorem ywa (fb : Nat) (s : St) : W E fb yt1 s (y74 fb) (y5 1 (y74 fb) (y5 0 (y3u fb) xN)) (finI [.t 6]) = yzx fb s :=
  (y6s (k := (yzf fb)) (fun s => yv3 fb s)).trans (by kernel_rfl)
def y07 (fb : Nat) (g k d j b i a : AV) (h : Heap) : Option (AV × Heap) :=
ob (y2v 1 b a) fun e =>
ob (evLd false 1 e h) fun c =>
(y142 fb g k d j c b i a h)
def yj7 (fb : Nat) (s : St) : Option (AV × Heap) := y07 fb (s 0) (s 1) (s 2) (s 7) (s 45) (s 46) (s 47) s.h
theorem ywk (fb : Nat) (s : St) : W E fb yok s (y74 fb) (y5 1 (y74 fb) (y5 0 (y3u fb) xN)) (finI [.t 6]) = yj7 fb s :=
  (y6s (k := (yzx fb)) (fun s => ywa fb s)).trans (by kernel_rfl)
theorem ywu (fb : Nat) (s : St) : W E fb ysx s (y74 fb) (y5 0 (y3u fb) xN) (finI [.t 6]) = yj7 fb s :=
  y1j.trans (ywk fb s)
theorem yx2 (fb : Nat) (s : St) : W E fb yq2 s (y5o fb) (y5 0 (y3u fb) xN) (finI [.t 6]) = yj7 fb s :=
  (y6s (k := (y74 fb)) (fun s => yvn fb s)).trans (ywu fb s)
def ykg (fb : Nat) (a c g b j i e d : AV) (h : Heap) : Option (AV × Heap) :=
cnd d
 ((y07 fb a c g b j i e h))
 ((ymv fb a c b h))
def ynv (fb : Nat) (s : St) : Option (AV × Heap) := ykg fb (s 0) (s 1) (s 2) (s 7) (s 45) (s 46) (s 47) (s 48) s.h
theorem yrk (fb : Nat) (s : St) : W E fb yj6 s (y5o fb) (y5 0 (y3u fb) xN) (finI [.t 6]) = ynv fb s :=
  (y6s (k := (yj7 fb)) (fun s => yx2 fb s)).trans (by kernel_rfl)
def ykv (fb : Nat) (e j d i g b a : AV) (h : Heap) : Option (AV × Heap) :=
ob (y9 .lss a b) fun c =>
(ykg fb e j d i g b a c h)
def y126 (fb : Nat) (s : St) : Option (AV × Heap) := ykv fb (s 0) (s 1) (s 2) (s 7) (s 45) (s 46) (s 47) s.h
theorem yp9 (fb : Nat) (s : St) : W E fb yj4 s (y5o fb) (y5 0 (y3u fb) xN) (finI [.t 6]) = y126 fb s :=
  (y6s (k := (ynv fb)) (fun s => yrk fb s)).trans (by kernel_rfl)
theorem yfq (fb : Nat) (c i b g e d a : AV) (h : Heap) : ycp fb c i b g e d a h = (ykv fb c i b g e d a h) :=
  y3t.trans ((y2k _ _ _ (n' := (y5o fb)) (fun s => yeo fb s)).trans ((yp9 fb _).trans (by kernel_rfl)))
theorem yn7 (fb : Nat) (s : St) : W E fb yih s (y3u fb) xN (finI [.t 6]) = y5o fb s :=
  y1j.trans (yeo fb s)
def yew (fb : Nat) (c g b e a : AV) (h : Heap) : Option (AV × Heap) :=
ob (y19 1 a h) fun d =>
(ycp fb c g b e a d (.int .i64 0) h)
def ygj (fb : Nat) (s : St) : Option (AV × Heap) := yew fb (s 0) (s 1) (s 2) (s 7) (s 9) s.h
theorem yny (fb : Nat) (s : St) : W E fb ylf s (y3u fb) xN (finI [.t 6]) = ygj fb s :=
  (y6s (k := (y5o fb)) (fun s => yn7 fb s)).trans (by kernel_rfl)
theorem yrg (fb : Nat) (s : St) : W E fb yit s (finI [.t 6]) xN (finI [.t 6]) = ygj fb s :=
  (y6s (k := (y3u fb)) (fun s => yvp fb s)).trans (yny fb s)
def ysh (fb : Nat) (b g a d e c : AV) (h : Heap) : Option (AV × Heap) :=
ob (evFa 2 e) fun i =>
ob (evLd false 1 i h) fun j =>
ob (y9 .neq j (AV.str [])) fun k =>
cnd k
 (ob (evFa 2 e) fun n =>
ob (evLd false 1 n h) fun o =>
oh (y2t fb (some 3) 1 1 [(.str [])] [(0, o)] h) fun l h6 =>
oh (y69 fb (some 4) 1 16 c l h6) fun m h7 =>
(yew fb b g a d m h7))
 ((yew fb b g a d c h))
def yu5 (fb : Nat) (s : St) : Option (AV × Heap) := ysh fb (s 0) (s 1) (s 2) (s 7) (s 8) (s 9) s.h
theorem yng (fb : Nat) (s : St) : W E fb yjf s (finI [.t 6]) xN (finI [.t 6]) = yu5 fb s :=
  (y6s (k := (ygj fb)) (fun s => yrg fb s)).trans (by kernel_rfl)
def yll (fb : Nat) (e j c g a : AV) (h : Heap) : Option (AV × Heap) :=
ob (evFa 3 a) fun b =>
ob (evLd false 1 b h) fun d =>
oh (y69 fb (some 2) 1 16 AV.nils d h) fun i h8 =>
(ysh fb e j c g a i h8)
def yq3 (fb : Nat) (s : St) : Option (AV × Heap) := yll fb (s 0) (s 1) (s 2) (s 7) (s 8) s.h
theorem ymy (fb : Nat) (s : St) : W E fb yjk s (finI [.t 6]) xN (finI [.t 6]) = yq3 fb s :=
  (y6s (k := (yu5 fb)) (fun s => yng fb s)).trans (by kernel_rfl)
def yt2 (fb : Nat) (a c e k : AV) (h : Heap) : Option (AV × Heap) :=
ob (y10 a) fun i =>
ob (evFa 0 i) fun j =>
ob (evLd false 1 j h) fun g =>
ob (y1l false [2] (.agg [(.int .i64 0), (.str []), (.str []), .nils, .nils, .nils, .nils]) false g c h) fun d =>
oh (newC fb (some 1) [(.int .i64 0), (.str []), (.str []), .nils, .nils, .nils, .nils] h) fun b h9 =>
oh (evSt 7 b d h9) fun _ h10 =>
(yll fb a c e k b h10)
def ypj (fb : Nat) (s : St) : Option (AV × Heap) := yt2 fb (s 0) (s 1) (s 2) (s 7) s.h
theorem ysv (fb : Nat) (s : St) : W E fb yk2 s (finI [.t 6]) xN (finI [.t 6]) = ypj fb s :=
  (y6s (k := (yq3 fb)) (fun s => ymy fb s)).trans (by kernel_rfl)
def yqh (fb : Nat) (d b c : AV) (h : Heap) : Option (AV × Heap) :=
oh (mkmC fb (some 0) h) fun a h11 =>
oh (y3g false [2] a b (.bool true) h11) fun _ h12 =>
(yt2 fb d b c a h12)
def yqe (fb : Nat) (s : St) : Option (AV × Heap) := yqh fb (s 0) (s 1) (s 2) s.h
theorem yq9 (fb : Nat) (s : St) : W E fb ylj s (finI [.t 6]) xN (finI [.t 6]) = yqe fb s :=
  (y6s (k := (ypj fb)) (fun s => ysv fb s)).trans (by kernel_rfl)
def yug (fb : Nat) (c b a : AV) (h : Heap) : Option (AV × Heap) :=
oh (y3g false [2] a b (.bool true) h) fun _ h13 =>
(yqh fb c b a h13)
def ysb (fb : Nat) (s : St) : Option (AV × Heap) := yug fb (s 0) (s 1) (s 2) s.h
theorem ys9 (fb : Nat) (s : St) : W E fb yj3 s (finI [.t 6]) xN (finI [.t 6]) = ysb fb s :=
  (y6s (k := (yqe fb)) (fun s => yq9 fb s)).trans (by kernel_rfl)
def yor (fb : Nat) (c b a : AV) (h : Heap) : Option (AV × Heap) :=
ob (y1l false [2] (.bool false) false a b h) fun d =>
cnd d
 ((some ((.bool false), h)))
 ((yug fb c b a h))
def yue (fb : Nat) (s : St) : Option (AV × Heap) := yor fb (s 0) (s 1) (s 2) s.h
theorem yph (fb : Nat) (s : St) : W E fb yla s (finI [.t 6]) xN (finI [.t 6]) = yue fb s :=
  (y6s (k := (ysb fb)) (fun s => ys9 fb s)).trans (by kernel_rfl)
def yr8 (fb : Nat) (a b e : AV) (h : Heap) : Option (AV × Heap) :=
ob (y10 a) fun d =>
ob (evFa 2 d) fun j =>
ob (evLd false 1 j h) fun g =>
ob (y1l false [2] .nilm false g b h) fun i =>
ob (y6w 2 true i AV.nilm) fun c =>
cnd c
 ((some ((.bool true), h)))
 ((yor fb a b e h))
def ynf (fb : Nat) (s : St) : Option (AV × Heap) := yr8 fb (s 0) (s 1) (s 2) s.h
theorem yo7 (fb : Nat) (s : St) : W E fb yk0 s (finI [.t 6]) xN (finI [.t 6]) = ynf fb s :=
  (y6s (k := (yue fb)) (fun s => yph fb s)).trans (by kernel_rfl)
def yiq (fb : Nat) (b c a : AV) (h : Heap) : Option (AV × Heap) :=
(yr8 fb b c a h)
def y130 (fb : Nat) (s : St) : Option (AV × Heap) := yiq fb (s 0) (s 1) (s 2) s.h
theorem ypc (fb : Nat) (s : St) : W E fb yl5 s (finI [.t 6]) xN (finI [.t 6]) = y130 fb s :=
  (y6s (k := (ynf fb)) (fun s => yo7 fb s)).trans (by kernel_rfl)
@[simp] theorem y19n : E.pure 62 = false := rfl
theorem y18z (fb : Nat) (b c a : AV) (h : Heap) : (y8 E).i 62 [b, c, a] fb h = yiq fb b c a (if fb = h.length then h ++ yf 5 else h) :=
  (y112 (cf := y15u) (by kernel_rfl) rfl).trans ((ypc fb _).trans (by kernel_rfl))
def q5_1 (h : Heap) : OX :=
(yr h (.int .i64 0))
def y1aj (s : St) : OX := q5_1 s.h
theorem y0o : T0 yz7 [.t 2] y1aj := fun _ => by kernel_rfl
def q5_2 (a : AV) (h : Heap) : OX :=
ob (y9 .eql a (AV.str [73])) fun u =>
cnd u
 ((yr h (.int .i64 1)))
 (ob (y9 .eql a (AV.str [74])) fun t =>
cnd t
 ((yr h (.int .i64 2)))
 (ob (y9 .eql a (AV.str [78])) fun c =>
gb c false (some a) fun o =>
gb c false (y9 .neq o (AV.str [])) fun g =>
gb c false (some g) fun b =>
gb b true (some a) fun k =>
gb b true (y1k k (.int .i64 0)) fun n =>
gb b true (y9 .eql n (.int .u8 76)) fun e =>
gb b true (some e) fun d =>
gb d false (some a) fun m =>
gb d false (y1k m (.int .i64 0)) fun l =>
gb d false (y9 .eql l (.int .u8 91)) fun j =>
gb b true (yk d (.bool true) j) fun p =>
gb c false (yk b p (.bool false)) fun i =>
ob (yk c (.bool true) i) fun r =>
cnd r
 ((yr h (.int .i64 3)))
 ((q5_1 h))))
def y194 (s : St) : OX := q5_2 (s 0) s.h
theorem y11m : T0 yzh [.t 2] y194 := sq y0o fun _ => by kernel_rfl
def q5_3 (a : AV) (h : Heap) : OX :=
(q5_2 a h)
def y19m (s : St) : OX := q5_3 (s 0) s.h
theorem y12h : T0 yz0 [.t 2] y19m := sq y11m fun _ => by kernel_rfl
@[simp] theorem y1af : E.pure 34 = true := rfl
theorem x_q5 (a : AV) : (y8 E).p 34 [a] = q5_3 a [] :=
  (y2r (cf := c_q5) (by kernel_rfl) rfl).trans ((y12h _).trans (by kernel_rfl))
def q3_1 (h : Heap) : OX :=
(yr h (AV.str []))
def y193 (s : St) : OX := q3_1 s.h
theorem y14a : T0 yz2 [.t 2] y193 := fun _ => by kernel_rfl
def q3_2 (b : AV) (h : Heap) : OX :=
ob (y19 0 b h) fun d =>
ob (y9 .gtr d (.int .i64 2)) fun c =>
gb c true (some b) fun l =>
gb c true (y1k l (.int .i64 0)) fun r =>
gb c true (y9 .eql r (.int .u8 76)) fun k =>
ob (yk c k (.bool false)) fun a =>
gb a true (some b) fun g =>
gb a true (some d) fun m =>
gb a true (y9 .sub m (.int .i64 1)) fun j =>
gb a true (y1k g j) fun n =>
gb a true (y9 .eql n (.int .u8 59)) fun p =>
ob (yk a p (.bool false)) fun e =>
cnd e
 (ob (y9 .sub d (.int .i64 1)) fun i =>
ob (yai b (some (.int .i64 1)) (some i)) fun o =>
(yr h o))
 ((q3_1 h))
def y19g (s : St) : OX := q3_2 (s 0) s.h
theorem y13r : T0 yzw [.t 2] y19g := sq y14a fun _ => by kernel_rfl
def q3_3 (a : AV) (h : Heap) : OX :=
(q3_2 a h)
def y18l (s : St) : OX := q3_3 (s 0) s.h
theorem y13y : T0 yyw [.t 2] y18l := sq y13r fun _ => by kernel_rfl
@[simp] theorem y1a9 : E.pure 35 = true := rfl
theorem x_q3 (a : AV) : (y8 E).p 35 [a] = q3_3 a [] :=
  (y2r (cf := c_q3) (by kernel_rfl) rfl).trans ((y13y _).trans (by kernel_rfl))
def q4_1 (h : Heap) : OX :=
(yr h (AV.str []))
def y19a (s : St) : OX := q4_1 s.h
theorem y141 : T0 yyz [.t 2] y19a := fun _ => by kernel_rfl
def q4_2 (b : AV) (h : Heap) : OX :=
ob (y19 0 b h) fun c =>
ob (y9 .gtr c (.int .i64 1)) fun a =>
gb a true (some b) fun e =>
gb a true (y1k e (.int .i64 0)) fun g =>
gb a true (y9 .eql g (.int .u8 91)) fun d =>
ob (yk a d (.bool false)) fun j =>
cnd j
 (ob (yai b (some (.int .i64 1)) none) fun i =>
(yr h i))
 ((q4_1 h))
def y191 (s : St) : OX := q4_2 (s 0) s.h
theorem y12s : T0 yz4 [.t 2] y191 := sq y141 fun _ => by kernel_rfl
def q4_3 (a : AV) (h : Heap) : OX :=
(q4_2 a h)
def y1a3 (s : St) : OX := q4_3 (s 0) s.h
theorem y11y : T0 y04 [.t 2] y1a3 := sq y12s fun _ => by kernel_rfl
@[simp] theorem y19o : E.pure 36 = true := rfl
theorem x_q4 (a : AV) : (y8 E).p 36 [a] = q4_3 a [] :=
  (y2r (cf := c_q4) (by kernel_rfl) rfl).trans ((y11y _).trans (by kernel_rfl))
def q7_1 (b : AV) (h : Heap) : OX :=
ob (y9 .neq b (AV.str [])) fun a =>
gb a true (some b) fun g =>
gh a true (y6 E (y8 E) 0 none true 44 [g] h) h fun e h1 =>
gb a true (some b) fun i =>
gb a true (y19 0 i h1) fun d =>
gb a true (y9 .eql e d) fun j =>
ob (yk a j (.bool false)) fun c =>
(yr h1 c)
def y19z (s : St) : OX := q7_1 (s 0) s.h
theorem y132 : T0 yzi [.t 2] y19z := fun _ => by kernel_rfl
@[simp] theorem y1am : E.pure 37 = true := rfl
theorem x_q7 (a : AV) : (y8 E).p 37 [a] = q7_1 a [] :=
  (y2r (cf := c_q7) (by kernel_rfl) rfl).trans ((y132 _).trans (by kernel_rfl))
def q8_1 (h : Heap) : OX :=
(yr h (.int .i64 0))
def y1y (s : St) : OX := q8_1 s.h
theorem y11p : T0 yzp [.t 2] y1y := fun _ => by kernel_rfl
def yt4 (b a c : AV) (h : Heap) : OX :=
  W E 0 yh1 ⟨[(0, b), (3, a), (4, c)], h⟩ y1y (y5 3 y1y (y5 2 y1y xN)) (finP [.t 2])
def yc3 (s : St) : OX := yt4 (s 0) (s 3) (s 4) s.h
theorem yjz : T1 yh1 y1y (y5 3 y1y (y5 2 y1y xN)) [.t 2] yc3 := fun s => yw.trans (by kernel_rfl)
def q8_3 (c b d : AV) (h : Heap) : OX :=
ob (y9 .add d (.int .i64 1)) fun a =>
(yt4 c b a h)
def ybw (s : St) : OX := q8_3 (s 0) (s 3) (s 4) s.h
theorem y11f : T1 yzq yc3 (y5 3 y1y (y5 2 y1y xN)) [.t 2] ybw := fun _ => by kernel_rfl
def q8_4 (h : Heap) : OX :=
(yr h (.int .i64 0))
def y18o (s : St) : OX := q8_4 s.h
theorem y11s : T1 yza ybw (y5 4 ybw (y5 3 y1y (y5 2 y1y xN))) [.t 2] y18o := fun _ => by kernel_rfl
def q8_5 (g b a : AV) (h : Heap) : OX :=
ob (y9 .add b (.int .i64 1)) fun e =>
ob (yai g (some e) (some a)) fun i =>
oh (y6 E (y8 E) 0 none true 60 [i, (.bool false)] h) fun c h1 =>
cnd c
 (ob (y9 .add a (.int .i64 1)) fun d =>
(yr h1 d))
 ((q8_4 h1))
def y18w (s : St) : OX := q8_5 (s 0) (s 3) (s 4) s.h
theorem y12v : T1 yyt ybw (y5 4 ybw (y5 3 y1y (y5 2 y1y xN))) [.t 2] y18w := sq y11s fun _ => by kernel_rfl
def q8_6 (b a c d : AV) (h : Heap) : OX :=
cnd d
 ((q8_5 b a c h))
 ((q8_3 b a c h))
def y1a6 (s : St) : OX := q8_6 (s 0) (s 3) (s 4) (s 46) s.h
theorem y13k : T1 y00 ybw (y5 4 ybw (y5 3 y1y (y5 2 y1y xN))) [.t 2] y1a6 := fun s => (yio (y12v s) rfl).trans (by kernel_rfl)
def q8_7 (b c a : AV) (h : Heap) : OX :=
ob (y1k b a) fun e =>
ob (y9 .eql e (.int .u8 59)) fun d =>
(q8_6 b c a d h)
def y0i (s : St) : OX := q8_7 (s 0) (s 3) (s 4) s.h
theorem y12a : T1 yys ybw (y5 4 ybw (y5 3 y1y (y5 2 y1y xN))) [.t 2] y0i := sq y13k fun _ => by kernel_rfl
theorem y11q : T1 yyv ybw (y5 3 y1y (y5 2 y1y xN)) [.t 2] y0i := fun s => y1j.trans (y12a s)
theorem y12g : T1 yyy yc3 (y5 3 y1y (y5 2 y1y xN)) [.t 2] y0i := sq y11f y11q
def yq0 (b c a : AV) (h : Heap) : OX :=
ob (y19 0 b h) fun e =>
ob (y9 .lss a e) fun d =>
cnd d
 ((q8_7 b c a h))
 ((q8_1 h))
def y167 (s : St) : OX := yq0 (s 0) (s 3) (s 4) s.h
theorem ywn : T1 yu6 yc3 (y5 3 y1y (y5 2 y1y xN)) [.t 2] y167 := sq y12g fun _ => by kernel_rfl
theorem yiy (b a c : AV) (h : Heap) : yt4 b a c h = (yq0 b a c h) :=
  y3t.trans ((y2k _ _ _ (n' := yc3) (fun s => yjz s)).trans ((ywn _).trans (by kernel_rfl)))
theorem yy3 : T1 yrh y1y (y5 2 y1y xN) [.t 2] yc3 := fun s => y1j.trans (yjz s)
def yvk (b a : AV) (h : Heap) : OX :=
ob (y9 .add a (.int .i64 1)) fun c =>
(yt4 b a c h)
def y174 (s : St) : OX := yvk (s 0) (s 3) s.h
theorem yvf : T1 ysp y1y (y5 2 y1y xN) [.t 2] y174 := sq yy3 fun _ => by kernel_rfl
def yxw (c a b : AV) (h : Heap) : OX :=
cnd b
 ((yvk c a h))
 ((q8_1 h))
def y164 (s : St) : OX := yxw (s 0) (s 3) (s 33) s.h
theorem yxe : T1 yoy y1y (y5 2 y1y xN) [.t 2] y164 := fun s => (yio (yvf s) rfl).trans (by kernel_rfl)
def ywr (c b d : AV) (h : Heap) : OX :=
ob (y9 .eql d (.int .u8 76)) fun a =>
(yxw c b a h)
def y15o (s : St) : OX := ywr (s 0) (s 3) (s 27) s.h
theorem yyp : T1 yna y1y (y5 2 y1y xN) [.t 2] y15o := sq yxe fun _ => by kernel_rfl
def ygp (d a c b : AV) (h : Heap) : OX :=
cnd b
 (ob (y9 .add a (.int .i64 1)) fun e =>
(yr h e))
 ((ywr d a c h))
def y17h (s : St) : OX := ygp (s 0) (s 3) (s 27) (s 28) s.h
theorem yyh : T1 yto y1y (y5 2 y1y xN) [.t 2] y17h := fun s => (yio rfl (yyp s)).trans (by kernel_rfl)
def ywj (d b a : AV) (h : Heap) : OX :=
ob (y9 .eql a (.int .u8 73)) fun c =>
cnd c
 ((ygp d b a c h))
 (ob (y9 .eql a (.int .u8 74)) fun e =>
(ygp d b a e h))
def yz6 (s : St) : OX := ywj (s 0) (s 3) (s 27) s.h
theorem ywc : T1 ypg y1y (y5 2 y1y xN) [.t 2] yz6 := sq yyh fun _ => by kernel_rfl
theorem yxv : T1 yr5 y1y xN [.t 2] yz6 := fun s => y1j.trans (ywc s)
def yut (b a : AV) (h : Heap) : OX :=
ob (y1k b a) fun c =>
(ywj b a c h)
def yzc (s : St) : OX := yut (s 0) (s 3) s.h
theorem yx4 : T1 yr4 y1y xN [.t 2] yzc := sq yxv fun _ => by kernel_rfl
theorem yyl : T0 ytp [.t 2] yzc := sq y11p yx4
def you (c b : AV) (h : Heap) : OX :=
ob (y9 .gtr b (.int .i64 8)) fun a =>
gb a false (some b) fun i =>
gb a false (some c) fun g =>
gb a false (y19 0 g h) fun e =>
gb a false (y9 .eql i e) fun j =>
ob (yk a (.bool true) j) fun d =>
cnd d
 ((yr h (.int .i64 0)))
 ((yut c b h))
def y9d (s : St) : OX := you (s 0) (s 3) s.h
theorem yvj : T0 ynd [.t 2] y9d := sq yyl fun _ => by kernel_rfl
def yg1 (b a : AV) (h : Heap) : OX :=
  W E 0 ydm ⟨[(0, b), (3, a)], h⟩ y9d (y5 0 y9d xN) (finP [.t 2])
def y8m (s : St) : OX := yg1 (s 0) (s 3) s.h
theorem yen : T1 ydm y9d (y5 0 y9d xN) [.t 2] y8m := fun s => yw.trans (by kernel_rfl)
def yy0 (c a : AV) (h : Heap) : OX :=
ob (y9 .add a (.int .i64 1)) fun b =>
(yg1 c b h)
def y173 (s : St) : OX := yy0 (s 0) (s 3) s.h
theorem yxp : T1 yta y8m (y5 0 y9d xN) [.t 2] y173 := fun _ => by kernel_rfl
def yo3 (c b : AV) (h : Heap) : OX :=
ob (y19 0 c h) fun i =>
ob (y9 .lss b i) fun a =>
gb a true (some c) fun k =>
gb a true (some b) fun e =>
gb a true (y1k k e) fun j =>
gb a true (y9 .eql j (.int .u8 91)) fun g =>
ob (yk a g (.bool false)) fun d =>
cnd d
 ((yy0 c b h))
 ((you c b h))
def y170 (s : St) : OX := yo3 (s 0) (s 3) s.h
theorem yx6 : T1 ytu y8m (y5 0 y9d xN) [.t 2] y170 := sq yxp fun _ => by kernel_rfl
theorem yfi (b a : AV) (h : Heap) : yg1 b a h = (yo3 b a h) :=
  y3t.trans ((y2k _ _ _ (n' := y8m) (fun s => yen s)).trans ((yx6 _).trans (by kernel_rfl)))
theorem yv4 : T1 yt9 y9d xN [.t 2] y8m := fun s => y1j.trans (yen s)
theorem yw4 : T0 yqx [.t 2] y8m := sq yvj yv4
def y11v (a : AV) (h : Heap) : OX :=
(yg1 a (.int .i64 0) h)
def y17d (s : St) : OX := y11v (s 0) s.h
theorem yw2 : T0 ymw [.t 2] y17d := sq yw4 fun _ => by kernel_rfl
def y134 (a : AV) (h : Heap) : OX :=
(y11v a h)
def y15b (s : St) : OX := y134 (s 0) s.h
theorem yxd : T0 ypo [.t 2] y15b := sq yw2 fun _ => by kernel_rfl
@[simp] theorem y1ab : E.pure 44 = true := rfl
theorem x_q8 (a : AV) : (y8 E).p 44 [a] = y134 a [] :=
  (y2r (cf := c_q8) (by kernel_rfl) rfl).trans ((yxd _).trans (by kernel_rfl))
end
end Go.Vm
