/- Functions of the machine as plain functions that go on with what follows. -/
import Derived.Test.YtkcigmgchfcpkaaNEnv
set_option linter.unusedSimpArgs false
set_option linter.unusedVariables false
set_option linter.unusedSectionVars false
namespace Go.Vm
noncomputable section
def y164 (h : Heap) : OX :=
(yq h (.bool true))
def y4p (s : St) : OX := y164 s.h
theorem y12z : T0 yyx [.t 4] y4p := fun _ => by kernel_rfl
def yh1 (e c g a d i b : AV) (h : Heap) : OX :=
  W E 0 yei ⟨[(1, e), (6, c), (10, g), (12, a), (70, d), (71, i), (72, b)], h⟩ y4p (y5 2 y4p xN) (finP [.t 4])
def y7s (s : St) : OX := yh1 (s 1) (s 6) (s 10) (s 12) (s 70) (s 71) (s 72) s.h
theorem ygc : T1 yei y4p (y5 2 y4p xN) [.t 4] y7s := fun s => yt.trans (by kernel_rfl)
def y12w (e c g a d j b : AV) (h : Heap) : OX :=
ob (y9 .add b (.int .i64 1)) fun i =>
(yh1 e c g a d j i h)
def ya4 (s : St) : OX := y12w (s 1) (s 6) (s 10) (s 12) (s 70) (s 71) (s 72) s.h
theorem y11z : T1 yxa y7s (y5 2 y4p xN) [.t 4] ya4 := fun _ => by kernel_rfl
def yt5 (o c i j e b0 A S : AV) (h : Heap) : OX :=
oh (y65 E (y6 E) 0 none true c [e] h) fun b7 h1 =>
oh (y7 E (y6 E) 0 none true 211 [i, b7, (AV.str [102]), o] h1) fun m h2 =>
ob (y4u 0 m) fun a0 =>
ob (y4u 1 m) fun K =>
ob (y4u 2 m) fun p =>
oh (newC 0 (some 3) [(.int .i64 0), (.str []), (.str [])] h2) fun z h3 =>
oh (evSt 3 z K h3) fun _ h4 =>
oh (y65 E (y6 E) 0 none true c [e] h4) fun b4 h5 =>
oh (y7 E (y6 E) 0 none true 213 [i, b4, (AV.str [109]), o] h5) fun n h6 =>
ob (y4u 0 n) fun Z =>
ob (y4u 1 n) fun C =>
ob (y4u 2 n) fun a4 =>
oh (newC 0 (some 4) [(.int .i64 0), (.str []), (.str []), (.int .i64 0), (.int .i64 0), .nils, .nils, .nils] h6) fun y h7 =>
oh (evSt 8 y C h7) fun _ h8 =>
ob (y9 .neq a0 j) fun l =>
gb l false (some Z) fun a6 =>
gb l false (some j) fun b1 =>
gb l false (y9 .neq a6 b1) fun a1 =>
ob (yk l (.bool true) a1) fun g =>
gb g false (some p) fun v =>
gb g false (some j) fun a2 =>
gb g false (y9 .neq a2 (AV.str [])) fun X =>
gb g false (ysu true v X) fun F =>
ob (yk g (.bool true) F) fun k =>
gb k false (some a4) fun L =>
gb k false (some p) fun Q =>
gb k false (ysu true L Q) fun u =>
ob (yk k (.bool true) u) fun a =>
gb a false (some i) fun M =>
gb a false (some c) fun x =>
gb a false (some e) fun b5 =>
gh a false (y65 E (y6 E) 0 none true x [b5] h8) h8 fun R h9 =>
gb a false (y9 .add (AV.str [76]) R) fun P =>
gb a false (y9 .add P (AV.str [59])) fun I =>
gb a false (some c) fun r =>
gh a false (y65 E (y6 E) 0 none true r [(.int .i64 0)] h9) h9 fun a7 h10 =>
gb a false (y9 .add (AV.str [76]) a7) fun a8 =>
gb a false (y9 .add a8 (AV.str [59])) fun Y =>
gh a false (y7 E (y6 E) 0 none true 3 [M, I, Y] h10) h10 fun a3 h11 =>
gb a false (evUn .not a3) fun N =>
ob (yk a (.bool true) N) fun d =>
gb d false (some e) fun t =>
gb d false (y9 .gtr t (.int .i64 0)) fun a5 =>
gb d false (some a5) fun b =>
gb b true (some i) fun B =>
gb b true (some c) fun w =>
gh b true (y65 E (y6 E) 0 none true w [(.int .i64 0)] h11) h11 fun D h12 =>
gb b true (y9 .add (AV.str [76]) D) fun b6 =>
gb b true (y9 .add b6 (AV.str [59])) fun b2 =>
gb b true (some c) fun b3 =>
gb b true (some e) fun a9 =>
gh b true (y65 E (y6 E) 0 none true b3 [a9] h12) h12 fun O h13 =>
gb b true (y9 .add (AV.str [76]) O) fun U =>
gb b true (y9 .add U (AV.str [59])) fun J =>
gh b true (y7 E (y6 E) 0 none true 3 [B, b2, J] h13) h13 fun G h14 =>
gb d false (yk b G (.bool false)) fun H =>
ob (yk d (.bool true) H) fun V =>
cnd V
 ((yq h14 (.bool false)))
 ((y12w o c i j b0 A S h14))
def y1d3 (s : St) : OX := yt5 (s 1) (s 6) (s 10) (s 12) (s 13) (s 70) (s 71) (s 72) s.h
theorem y12v : T1 ys3 ya4 (y5 3 ya4 (y5 2 y4p xN)) [.t 4] y1d3 := fun _ => by kernel_rfl
def y14z (e a g j b l d i c : AV) (h : Heap) : OX :=
cnd l
 (oh (y65 E (y6 E) 0 none true a [b] h) fun k h15 =>
(yt5 e a g k b d i c h15))
 ((yt5 e a g j b d i c h))
def y1cv (s : St) : OX := y14z (s 1) (s 6) (s 10) (s 12) (s 13) (s 14) (s 70) (s 71) (s 72) s.h
theorem y06 : T1 ys1 ya4 (y5 3 ya4 (y5 2 y4p xN)) [.t 4] y1cv := sq y12v fun _ => by kernel_rfl
def y19n (g d i c b j a : AV) (h : Heap) : OX :=
ob (y21 1 b a) fun k =>
ob (evLd false 1 k h) fun e =>
(y14z g d i c a e b j a h)
def yry (s : St) : OX := y19n (s 1) (s 6) (s 10) (s 12) (s 70) (s 71) (s 72) s.h
theorem y0a : T1 yxg ya4 (y5 3 ya4 (y5 2 y4p xN)) [.t 4] yry := sq y06 fun _ => by kernel_rfl
theorem y0r : T1 ytg ya4 (y5 2 y4p xN) [.t 4] yry := fun s => y1h.trans (y0a s)
theorem y129 : T1 yto y7s (y5 2 y4p xN) [.t 4] yry := sq y11z y0r
def y0b (g c i a d j b e : AV) (h : Heap) : OX :=
cnd e
 ((y19n g c i a d j b h))
 ((y164 h))
def y1ay (s : St) : OX := y0b (s 1) (s 6) (s 10) (s 12) (s 70) (s 71) (s 72) (s 73) s.h
theorem y0u : T1 ywx y7s (y5 2 y4p xN) [.t 4] y1ay := sq y129 fun _ => by kernel_rfl
def yj7 (i d j c e b a : AV) (h : Heap) : OX :=
ob (y9 .lss a b) fun g =>
(y0b i d j c e b a g h)
def y18h (s : St) : OX := yj7 (s 1) (s 6) (s 10) (s 12) (s 70) (s 71) (s 72) s.h
theorem yxl : T1 ynl y7s (y5 2 y4p xN) [.t 4] y18h := sq y0u fun _ => by kernel_rfl
theorem yfq (e c g a d i b : AV) (h : Heap) : yh1 e c g a d i b h = (yj7 e c g a d i b h) :=
  y3g.trans ((y2i _ _ _ (n' := y7s) (fun s => ygc s)).trans ((yxl _).trans (by kernel_rfl)))
theorem yqr : T1 ynp y4p xN [.t 4] y7s := fun s => y1h.trans (ygc s)
def yqz (a d c e b : AV) (h : Heap) : OX :=
ob (y1t 1 a h) fun g =>
(yh1 d c e b a g (.int .i64 0) h)
def yxt (s : St) : OX := yqz (s 0) (s 1) (s 6) (s 10) (s 12) s.h
theorem yur : T1 ylr y4p xN [.t 4] yxt := sq yqr fun _ => by kernel_rfl
theorem yt3 : T0 yld [.t 4] yxt := sq y12z yur
def ytm (d c a b : AV) (h : Heap) : OX :=
(yqz d c a b (AV.str []) h)
def y17i (s : St) : OX := ytm (s 0) (s 1) (s 6) (s 10) s.h
theorem yy4 : T0 yms [.t 4] y17i := sq yt3 fun _ => by kernel_rfl
def yyq (g b a e d : AV) (h : Heap) : OX :=
ob (y9 .neq d (.int .i64 0)) fun c =>
cnd c
 ((yq h (.bool false)))
 ((ytm g b a e h))
def y19d (s : St) : OX := yyq (s 0) (s 1) (s 6) (s 10) (s 11) s.h
theorem ysg : T0 ylh [.t 4] y19d := sq yy4 fun _ => by kernel_rfl
def ynb (d g i b : AV) (h : Heap) : OX :=
oh (y7 E (y6 E) 0 none true 1 [i] h) fun a h16 =>
ob (y4u 0 a) fun e =>
ob (y4u 1 a) fun c =>
(yyq d g b e c h16)
def y2h (s : St) : OX := ynb (s 0) (s 1) (s 5) (s 6) s.h
theorem ywk : T0 ymp [.t 4] y2h := sq ysg fun _ => by kernel_rfl
def ybt (c e i a g d b : AV) (h : Heap) : OX :=
  W E 0 yaq ⟨[(0, c), (1, e), (5, i), (6, a), (31, g), (32, d), (33, b)], h⟩ y2h (y5 0 y2h xN) (finP [.t 4])
def y5y (s : St) : OX := ybt (s 0) (s 1) (s 5) (s 6) (s 31) (s 32) (s 33) s.h
theorem yd7 : T1 yaq y2h (y5 0 y2h xN) [.t 4] y5y := fun s => yt.trans (by kernel_rfl)
def ydg (c g j a i d b : AV) (h : Heap) : OX :=
ob (y9 .add b (.int .i64 1)) fun e =>
(ybt c g j a i d e h)
def y43 (s : St) : OX := ydg (s 0) (s 1) (s 5) (s 6) (s 31) (s 32) (s 33) s.h
theorem yv2 : T1 yj8 y5y (y5 0 y2h xN) [.t 4] y43 := fun _ => by kernel_rfl
def yfr (i k m b g l j d : AV) (h : Heap) : OX :=
ob (evLd true 7 g h) fun c =>
oh (y19 0 (some 1) 7 1 [(.int .i64 0), (.str []), (.str []), .nils, .nils, .nils, .nils] [(0, c)] h) fun a h17 =>
oh (y2d 0 (some 2) 7 136 m a h17) fun e h18 =>
(ydg i k e b l j d h18)
def y150 (s : St) : OX := yfr (s 0) (s 1) (s 5) (s 6) (s 9) (s 31) (s 32) (s 33) s.h
theorem yya : T1 ynx y43 (y5 1 y43 (y5 0 y2h xN)) [.t 4] y150 := fun _ => by kernel_rfl
def yfp (g b j c r a d i e : AV) (h : Heap) : OX :=
cnd r
 (ob (y12 [(.int .i64 0), (.str []), (.str [])] [(1, 1, (AV.str [102])), (2, 1, b)]) fun p =>
oh (y19 0 none 3 1 [(.int .i64 0), (.str []), (.str [])] [(0, p)] h) fun l h19 =>
ob (evFa 5 a) fun n =>
oh (evSt 1 n l h19) fun _ h20 =>
ob (y12 [(.int .i64 0), (.str []), (.str []), (.int .i64 0), (.int .i64 0), .nils, .nils, .nils] [(1, 1, (AV.str [109])), (2, 1, b)]) fun k =>
oh (y19 0 none 8 1 [(.int .i64 0), (.str []), (.str []), (.int .i64 0), (.int .i64 0), .nils, .nils, .nils] [(0, k)] h20) fun o h21 =>
ob (evFa 6 a) fun m =>
oh (evSt 1 m o h21) fun _ h22 =>
(yfr g b j c a d i e h22))
 ((yfr g b j c a d i e h))
def y17a (s : St) : OX := yfp (s 0) (s 1) (s 5) (s 6) (s 8) (s 9) (s 31) (s 32) (s 33) s.h
theorem yt1 : T1 ylg y43 (y5 1 y43 (y5 0 y2h xN)) [.t 4] y17a := sq yya fun _ => by kernel_rfl
def yss (e j l a i k b c g d : AV) (h : Heap) : OX :=
ob (y9 .gtr i (.int .i64 0)) fun o =>
cnd o
 (ob (y9 .sub i (.int .i64 1)) fun m =>
oh (y65 E (y6 E) 0 none true a [m] h) fun n h23 =>
ob (evFa 2 b) fun p =>
oh (evSt 1 p n h23) fun _ h24 =>
(yfp e j l a k b c g d h24))
 ((yfp e j l a k b c g d h))
def y185 (s : St) : OX := yss (s 0) (s 1) (s 5) (s 6) (s 7) (s 8) (s 9) (s 31) (s 32) (s 33) s.h
theorem yrg : T1 yjv y43 (y5 1 y43 (y5 0 y2h xN)) [.t 4] y185 := sq yt1 fun _ => by kernel_rfl
def yle (i l n a c m d k g : AV) (h : Heap) : OX :=
oh (y65 E (y6 E) 0 none true a [c] h) fun e h25 =>
ob (y12 [(.int .i64 0), (.str []), (.str []), .nils, .nils, .nils, .nils] [(1, 1, e), (2, 1, (AV.str [79, 98, 106, 101, 99, 116]))]) fun j =>
oh (newC 0 (some 0) [(.int .i64 0), (.str []), (.str []), .nils, .nils, .nils, .nils] h25) fun b h26 =>
oh (evSt 7 b j h26) fun _ h27 =>
(yss i l n a c m b d k g h27)
def y19c (s : St) : OX := yle (s 0) (s 1) (s 5) (s 6) (s 7) (s 8) (s 31) (s 32) (s 33) s.h
theorem ysz : T1 yng y43 (y5 1 y43 (y5 0 y2h xN)) [.t 4] y19c := sq yrg fun _ => by kernel_rfl
def yy0 (d g k c b e a : AV) (h : Heap) : OX :=
ob (y21 1 b a) fun i =>
ob (evLd false 1 i h) fun j =>
(yle d g k c a j b e a h)
def yit (s : St) : OX := yy0 (s 0) (s 1) (s 5) (s 6) (s 31) (s 32) (s 33) s.h
theorem yxb : T1 ynh y43 (y5 1 y43 (y5 0 y2h xN)) [.t 4] yit := sq ysz fun _ => by kernel_rfl
theorem yx2 : T1 yjm y43 (y5 0 y2h xN) [.t 4] yit := fun s => y1h.trans (yxb s)
theorem ypq : T1 yjj y5y (y5 0 y2h xN) [.t 4] yit := sq yv2 yx2
def ylj (b c d a j g e i : AV) (h : Heap) : OX :=
cnd i
 ((yy0 b c d a j g e h))
 ((ynb b c d a h))
def y14e (s : St) : OX := ylj (s 0) (s 1) (s 5) (s 6) (s 31) (s 32) (s 33) (s 34) s.h
theorem yvn : T1 yjg y5y (y5 0 y2h xN) [.t 4] y14e := sq ypq fun _ => by kernel_rfl
def yll (d e j c i b a : AV) (h : Heap) : OX :=
ob (y9 .lss a b) fun g =>
(ylj d e j c i b a g h)
def y15x (s : St) : OX := yll (s 0) (s 1) (s 5) (s 6) (s 31) (s 32) (s 33) s.h
theorem yu9 : T1 ymx y5y (y5 0 y2h xN) [.t 4] y15x := sq yvn fun _ => by kernel_rfl
theorem ydh (c e i a g d b : AV) (h : Heap) : ybt c e i a g d b h = (yll c e i a g d b h) :=
  y3g.trans ((y2i _ _ _ (n' := y5y) (fun s => yd7 s)).trans ((yu9 _).trans (by kernel_rfl)))
theorem yq7 : T1 yo0 y2h xN [.t 4] y5y := fun s => y1h.trans (yd7 s)
def ys9 (a d e b : AV) (h : Heap) : OX :=
ob (y1t 1 a h) fun c =>
(ybt a d e b a c (.int .i64 0) h)
def yxc (s : St) : OX := ys9 (s 0) (s 1) (s 5) (s 6) s.h
theorem yqe : T1 yml y2h xN [.t 4] yxc := sq yq7 fun _ => by kernel_rfl
theorem yv5 : T0 yko [.t 4] yxc := sq ywk yqe
def yqd (c b a : AV) (h : Heap) : OX :=
(ys9 c b a (AV.fn 228 []) h)
def y15f (s : St) : OX := yqd (s 0) (s 1) (s 5) s.h
theorem yr6 : T0 yk3 [.t 4] y15f := sq yv5 fun _ => by kernel_rfl
def yvi (b a : AV) (h : Heap) : OX :=
(yqd b a AV.nils h)
def y171 (s : St) : OX := yvi (s 0) (s 1) s.h
theorem yz2 : T0 yk1 [.t 4] y171 := sq yr6 fun _ => by kernel_rfl
def yxu (b i : AV) (h : Heap) : OX :=
ob (y1t 1 b h) fun g =>
ob (y9 .gtr g (.int .i64 35)) fun a =>
gb a false (some b) fun d =>
gb a false (y1t 1 d h) fun c =>
gb a false (y9 .eql c (.int .i64 0)) fun j =>
ob (yk a (.bool true) j) fun e =>
cnd e
 ((yq h (.bool true)))
 ((yvi b i h))
def y19s (s : St) : OX := yxu (s 0) (s 1) s.h
theorem ypz : T0 ylw [.t 4] y19s := sq yz2 fun _ => by kernel_rfl
def yvb (d c : AV) (h : Heap) : OX :=
oh (y7 E (y6 E) 0 none true 0 [] h) fun a h28 =>
ob (evUn .not a) fun b =>
cnd b
 ((yq h28 (.bool false)))
 ((yxu d c h28))
def y15q (s : St) : OX := yvb (s 0) (s 1) s.h
theorem yqh : T0 ym5 [.t 4] y15q := sq ypz fun _ => by kernel_rfl
def ywj (b a : AV) (h : Heap) : OX :=
(yvb b a h)
def y19l (s : St) : OX := ywj (s 0) (s 1) s.h
theorem ywu : T0 ymn [.t 4] y19l := sq yqh fun _ => by kernel_rfl
@[simp] theorem y1dv : E.pure 202 = true := rfl
theorem y1gp (b a : AV) : (y6 E).p 202 [b, a] = ywj b a [⟨0, .dead⟩, ⟨0, .dead⟩, ⟨0, .dead⟩, ⟨0, .dead⟩, ⟨0, .dead⟩] :=
  (y3c (cf := y1ar) (by kernel_rfl) rfl).trans ((ywu _).trans (by kernel_rfl))
def y14i (h : Heap) : OX :=
ob (y12 [(.int .i64 0), (.str []), (.str []), .nils, .nils, .nils, .nils] [(1, 1, (AV.str [97])), (2, 1, (AV.str [69, 120, 99, 101, 112, 116, 105, 111, 110]))]) fun z =>
oh (y19 0 (some 0) 7 1 [(.int .i64 0), (.str []), (.str []), .nils, .nils, .nils, .nils] [(0, z)] h) fun F h1 =>
oh (y7 E (y6 E) 0 none true 1 [F] h1) fun j h2 =>
ob (y4u 0 j) fun d =>
ob (y4u 1 j) fun w =>
ob (y9 .eql w (.int .i64 0)) fun i =>
gb i true (some d) fun l =>
gh i true (y7 E (y6 E) 0 none true 3 [l, (AV.str [76, 97, 59]), (AV.str [76, 84, 104, 114, 111, 119, 97, 98, 108, 101, 59])] h2) h2 fun n h3 =>
ob (yk i n (.bool false)) fun g =>
gb g true (some d) fun o =>
gh g true (y7 E (y6 E) 0 none true 3 [o, (AV.str [91, 76, 97, 59]), (AV.str [91, 76, 79, 98, 106, 101, 99, 116, 59])] h3) h3 fun k h4 =>
ob (yk g k (.bool false)) fun a =>
gb a true (some d) fun D =>
gh a true (y7 E (y6 E) 0 none true 3 [D, (AV.str [91, 73]), (AV.str [91, 76, 79, 98, 106, 101, 99, 116, 59])] h4) h4 fun t h5 =>
gb a true (evUn .not t) fun p =>
ob (yk a p (.bool false)) fun c =>
gb c true (some d) fun A =>
gh c true (y7 E (y6 E) 0 none true 3 [A, (AV.str [76, 79, 98, 106, 101, 99, 116, 59]), (AV.str [76, 97, 59])] h5) h5 fun B h6 =>
gb c true (evUn .not B) fun m =>
ob (yk c m (.bool false)) fun b =>
gh b true (y7 E (y6 E) 0 none true 31 [] h6) h6 fun x h7 =>
gb b true (y1t 1 x h7) fun r =>
gb b true (y9 .eql r (.int .i64 13)) fun u =>
ob (yk b u (.bool false)) fun e =>
gh e true (y7 E (y6 E) 0 none true 32 [(AV.str [83, 121, 115]), (AV.str [101, 120, 105, 116]), (AV.str [40, 73, 41, 86])] h7) h7 fun v h8 =>
gb e true (y9 .eql v (.int .i64 3)) fun C =>
ob (yk e C (.bool false)) fun y =>
(yq h8 y)
def y1ae (s : St) : OX := y14i s.h
theorem yzk : T0 yyu [.t 0] y1ae := fun _ => by kernel_rfl
@[simp] theorem y1gw : E.pure 0 = true := rfl
theorem y1g2 : (y6 E).p 0 [] = y14i [⟨0, .dead⟩] :=
  (y3c (cf := y1c9) (by kernel_rfl) rfl).trans ((yzk _).trans (by kernel_rfl))
def yyd (a : AV) (h : Heap) : OX :=
(yq h (.tup [a, (.int .i64 0)]))
def y6l (s : St) : OX := yyd (s 4) s.h
theorem yzq : T0 yw9 [.t 2, .t 3] y6l := fun _ => by kernel_rfl
def ye9 (a c d b : AV) (h : Heap) : OX :=
  W E 0 yf1 ⟨[(4, a), (117, c), (118, d), (119, b)], h⟩ y6l (y5 8 y6l xN) (finP [.t 2, .t 3])
def y7v (s : St) : OX := ye9 (s 4) (s 117) (s 118) (s 119) s.h
theorem ygk : T1 yf1 y6l (y5 8 y6l xN) [.t 2, .t 3] y7v := fun s => yt.trans (by kernel_rfl)
def y155 (b e c d : AV) (h : Heap) : OX :=
ob (y9 .add d (.int .i64 1)) fun a =>
(ye9 b e c a h)
def y1bo (s : St) : OX := y155 (s 4) (s 117) (s 118) (s 119) s.h
theorem y12f : T1 ywt y7v (y5 8 y6l xN) [.t 2, .t 3] y1bo := fun _ => by kernel_rfl
def y14m (a c g b : AV) (h : Heap) : OX :=
ob (y21 1 c b) fun i =>
ob (evLd false 1 i h) fun k =>
oh (mkmC 0 (some 12) h) fun j h1 =>
oh (y7 E (y6 E) 0 none false 62 [a, k, j] h1) fun e h2 =>
ob (evUn .not e) fun d =>
cnd d
 ((yq h2 (.tup [AV.nilp, (.int .i64 51)])))
 ((y155 a c g b h2))
def y1ah (s : St) : OX := y14m (s 4) (s 117) (s 118) (s 119) s.h
theorem y12a : T1 yth y7v (y5 8 y6l xN) [.t 2, .t 3] y1ah := sq y12f fun _ => by kernel_rfl
def y0f (a d b c e : AV) (h : Heap) : OX :=
cnd e
 ((y14m a d b c h))
 ((yyd a h))
def y1ck (s : St) : OX := y0f (s 4) (s 117) (s 118) (s 119) (s 120) s.h
theorem y11k : T1 yte y7v (y5 8 y6l xN) [.t 2, .t 3] y1ck := sq y12a fun _ => by kernel_rfl
def y0i (c d a b : AV) (h : Heap) : OX :=
ob (y9 .lss b a) fun e =>
(y0f c d a b e h)
def y1au (s : St) : OX := y0i (s 4) (s 117) (s 118) (s 119) s.h
theorem y11j : T1 ywv y7v (y5 8 y6l xN) [.t 2, .t 3] y1au := sq y11k fun _ => by kernel_rfl
theorem yhg (a c d b : AV) (h : Heap) : ye9 a c d b h = (y0i a c d b h) :=
  y3g.trans ((y2i _ _ _ (n' := y7v) (fun s => ygk s)).trans ((y11j _).trans (by kernel_rfl)))
theorem y03 : T1 ysi y6l xN [.t 2, .t 3] y7v := fun s => y1h.trans (ygk s)
def ytz (a : AV) (h : Heap) : OX :=
ob (yn a) fun e =>
ob (evFa 1 e) fun c =>
ob (evLd false 1 c h) fun b =>
ob (y1t 1 b h) fun d =>
(ye9 a b d (.int .i64 0) h)
def y68 (s : St) : OX := ytz (s 4) s.h
theorem yzh : T1 yvg y6l xN [.t 2, .t 3] y68 := sq y03 fun _ => by kernel_rfl
theorem y12t : T0 yvy [.t 2, .t 3] y68 := sq yzq yzh
def ycn (b c d a : AV) (h : Heap) : OX :=
  W E 0 ybv ⟨[(4, b), (103, c), (104, d), (105, a)], h⟩ y68 (y5 6 y68 xN) (finP [.t 2, .t 3])
def y5v (s : St) : OX := ycn (s 4) (s 103) (s 104) (s 105) s.h
theorem ydr : T1 ybv y68 (y5 6 y68 xN) [.t 2, .t 3] y5v := fun s => yt.trans (by kernel_rfl)
def yqf (b d e a : AV) (h : Heap) : OX :=
ob (y9 .add a (.int .i64 1)) fun c =>
(ycn b d e c h)
def y15l (s : St) : OX := yqf (s 4) (s 103) (s 104) (s 105) s.h
theorem yru : T1 yjq y5v (y5 6 y68 xN) [.t 2, .t 3] y15l := fun _ => by kernel_rfl
def yyg (b d l a : AV) (h : Heap) : OX :=
ob (y21 7 d a) fun i =>
ob (evLd true 7 i h) fun k =>
oh (newC 0 (some 11) [(.int .i64 0), (.str []), (.str []), .nils, .nils, .nils, .nils] h) fun c h3 =>
oh (evSt 7 c k h3) fun _ h4 =>
ob (evLd true 7 c h4) fun g =>
oh (y7 E (y6 E) 0 none true 61 [b, g] h4) fun j h5 =>
ob (evUn .not j) fun e =>
cnd e
 ((yq h5 (.tup [AV.nilp, (.int .i64 50)])))
 ((yqf b d l a h5))
def y17c (s : St) : OX := yyg (s 4) (s 103) (s 104) (s 105) s.h
theorem yso : T1 yo2 y5v (y5 6 y68 xN) [.t 2, .t 3] y17c := sq yru fun _ => by kernel_rfl
def ym2 (a d e b c : AV) (h : Heap) : OX :=
cnd c
 ((yyg a d e b h))
 ((ytz a h))
def y15k (s : St) : OX := ym2 (s 4) (s 103) (s 104) (s 105) (s 106) s.h
theorem yul : T1 yl4 y5v (y5 6 y68 xN) [.t 2, .t 3] y15k := sq yso fun _ => by kernel_rfl
def ynj (c e b a : AV) (h : Heap) : OX :=
ob (y9 .lss a b) fun d =>
(ym2 c e b a d h)
def y18a (s : St) : OX := ynj (s 4) (s 103) (s 104) (s 105) s.h
theorem ys4 : T1 ynf y5v (y5 6 y68 xN) [.t 2, .t 3] y18a := sq yul fun _ => by kernel_rfl
theorem ydf (b c d a : AV) (h : Heap) : ycn b c d a h = (ynj b c d a h) :=
  y3g.trans ((y2i _ _ _ (n' := y5v) (fun s => ydr s)).trans ((ys4 _).trans (by kernel_rfl)))
theorem yrn : T1 ym1 y68 xN [.t 2, .t 3] y5v := fun s => y1h.trans (ydr s)
def yn6 (a b : AV) (h : Heap) : OX :=
ob (y1t 1 a h) fun c =>
(ycn b a c (.int .i64 0) h)
def y2t (s : St) : OX := yn6 (s 0) (s 4) s.h
theorem yrx : T1 yka y68 xN [.t 2, .t 3] y2t := sq yrn fun _ => by kernel_rfl
theorem ywl : T0 yo7 [.t 2, .t 3] y2t := sq y12t yrx
def yb5 (e a b d c : AV) (h : Heap) : OX :=
  W E 0 yc7 ⟨[(0, e), (4, a), (67, b), (68, d), (69, c)], h⟩ y2t (y5 4 y2t xN) (finP [.t 2, .t 3])
def y5o (s : St) : OX := yb5 (s 0) (s 4) (s 67) (s 68) (s 69) s.h
theorem ye1 : T1 yc7 y2t (y5 4 y2t xN) [.t 2, .t 3] y5o := fun s => yt.trans (by kernel_rfl)
def yre (g a c e d : AV) (h : Heap) : OX :=
ob (y9 .add d (.int .i64 1)) fun b =>
(yb5 g a c e b h)
def y6b (s : St) : OX := yre (s 0) (s 4) (s 67) (s 68) (s 69) s.h
theorem ytf : T1 yk6 y5o (y5 4 y2t xN) [.t 2, .t 3] y6b := fun _ => by kernel_rfl
def yz6 (y a b j l v : AV) (h : Heap) : OX :=
ob (yn a) fun x =>
ob (evFa 0 x) fun w =>
ob (evLd false 1 w h) fun k =>
ob (evFa 1 b) fun t =>
ob (evLd false 1 t h) fun o =>
ob (evLd true 7 b h) fun r =>
oh (y3z false [2] k o r h) fun _ h6 =>
ob (yn a) fun m =>
ob (evFa 1 m) fun e =>
ob (evLd false 1 e h6) fun g =>
ob (evFa 1 b) fun c =>
ob (evLd false 1 c h6) fun p =>
oh (y19 0 (some 9) 1 1 [(.str [])] [(0, p)] h6) fun d h7 =>
oh (y2d 0 (some 10) 1 16 g d h7) fun n h8 =>
ob (yn a) fun u =>
ob (evFa 1 u) fun i =>
oh (evSt 1 i n h8) fun _ h9 =>
okK (y44 [([], []), ([], []), ([], []), ([], []), (ids1 e, []), ([], []), (ids1 c, []), ([], [0 + 9]), (ids1 d, ids1 g ++ [0 + 10]), ([], []), ([], []), ([], ids1 i)] [(4, 7)]) <|
(yre y a j l v h9)
def y18o (s : St) : OX := yz6 (s 0) (s 4) (s 10) (s 67) (s 68) (s 69) s.h
theorem ywm : T1 yno y6b (y5 5 y6b (y5 4 y2t xN)) [.t 2, .t 3] y18o := fun _ => by kernel_rfl
def ypw (r a g j n k : AV) (h : Heap) : OX :=
ob (yn a) fun o =>
ob (evFa 0 o) fun c =>
ob (evLd false 1 c h) fun i =>
ob (evFa 1 g) fun d =>
ob (evLd false 1 d h) fun l =>
ob (y16 false [2] (.agg [(.int .i64 0), (.str []), (.str []), .nils, .nils, .nils, .nils]) true i l h) fun b =>
ob (y4u 0 b) fun p =>
ob (y4u 1 b) fun m =>
oh (newC 0 (some 8) [(.int .i64 0), (.str []), (.str []), .nils, .nils, .nils, .nils] h) fun e h10 =>
oh (evSt 7 e p h10) fun _ h11 =>
okK (y44 [([], []), ([], []), ([], []), (ids1 c, []), ([], []), (ids1 d, []), (ids1 i, []), ([], []), ([], []), ([], []), ([], [0 + 8]), ([], ids1 e), ([], [])] [(3, 10), (5, 10), (6, 10)]) <|
cnd m
 ((yq h11 (.tup [AV.nilp, (.int .i64 23)])))
 ((yz6 r a g j n k h11))
def y16x (s : St) : OX := ypw (s 0) (s 4) (s 10) (s 67) (s 68) (s 69) s.h
theorem yqq : T1 yjo y6b (y5 5 y6b (y5 4 y2t xN)) [.t 2, .t 3] y16x := sq ywm fun _ => by kernel_rfl
def ywc (j d a g b : AV) (h : Heap) : OX :=
ob (y21 7 a b) fun i =>
ob (evLd true 7 i h) fun e =>
oh (newC 0 (some 7) [(.int .i64 0), (.str []), (.str []), .nils, .nils, .nils, .nils] h) fun c h12 =>
oh (evSt 7 c e h12) fun _ h13 =>
(ypw j d c a g b h13)
def yi0 (s : St) : OX := ywc (s 0) (s 4) (s 67) (s 68) (s 69) s.h
theorem ysb : T1 ykp y6b (y5 5 y6b (y5 4 y2t xN)) [.t 2, .t 3] yi0 := sq yqq fun _ => by kernel_rfl
theorem yt0 : T1 yjd y6b (y5 4 y2t xN) [.t 2, .t 3] yi0 := fun s => y1h.trans (ysb s)
theorem yq4 : T1 ykh y5o (y5 4 y2t xN) [.t 2, .t 3] yi0 := sq ytf yt0
def yli (b a c g d e : AV) (h : Heap) : OX :=
cnd e
 ((ywc b a c g d h))
 ((yn6 b a h))
def y15z (s : St) : OX := yli (s 0) (s 4) (s 67) (s 68) (s 69) (s 70) s.h
theorem yy7 : T1 yl8 y5o (y5 4 y2t xN) [.t 2, .t 3] y15z := sq yq4 fun _ => by kernel_rfl
def ykg (g c d b a : AV) (h : Heap) : OX :=
ob (y9 .lss a b) fun e =>
(yli g c d b a e h)
def y17e (s : St) : OX := ykg (s 0) (s 4) (s 67) (s 68) (s 69) s.h
theorem ypp : T1 yls y5o (y5 4 y2t xN) [.t 2, .t 3] y17e := sq yy7 fun _ => by kernel_rfl
theorem ye6 (e a b d c : AV) (h : Heap) : yb5 e a b d c h = (ykg e a b d c h) :=
  y3g.trans ((y2i _ _ _ (n' := y5o) (fun s => ye1 s)).trans ((ypp _).trans (by kernel_rfl)))
theorem yvt : T1 yki y2t xN [.t 2, .t 3] y5o := fun s => y1h.trans (ye1 s)
def ykz (a b : AV) (h : Heap) : OX :=
ob (y1t 1 a h) fun c =>
(yb5 a b a c (.int .i64 0) h)
def y41 (s : St) : OX := ykz (s 0) (s 4) s.h
theorem yvo : T1 ynt y2t xN [.t 2, .t 3] y41 := sq yvt fun _ => by kernel_rfl
theorem yvk : T0 ykt [.t 2, .t 3] y41 := sq ywl yvo
def ybc (e a d b c : AV) (h : Heap) : OX :=
  W E 0 yc1 ⟨[(0, e), (4, a), (56, d), (57, b), (58, c)], h⟩ y41 (y5 2 y41 xN) (finP [.t 2, .t 3])
def y5x (s : St) : OX := ybc (s 0) (s 4) (s 56) (s 57) (s 58) s.h
theorem yd2 : T1 yc1 y41 (y5 2 y41 xN) [.t 2, .t 3] y5x := fun s => yt.trans (by kernel_rfl)
def yqn (g a e b c : AV) (h : Heap) : OX :=
ob (y9 .add c (.int .i64 1)) fun d =>
(ybc g a e b d h)
def y187 (s : St) : OX := yqn (s 0) (s 4) (s 56) (s 57) (s 58) s.h
theorem yx5 : T1 ymz y5x (y5 2 y41 xN) [.t 2, .t 3] y187 := fun _ => by kernel_rfl
def yxw (n e b j a : AV) (h : Heap) : OX :=
ob (y21 7 b a) fun i =>
ob (evLd true 7 i h) fun k =>
oh (newC 0 (some 6) [(.int .i64 0), (.str []), (.str []), .nils, .nils, .nils, .nils] h) fun c h14 =>
oh (evSt 7 c k h14) fun _ h15 =>
ob (evFa 1 c) fun m =>
ob (evLd false 1 m h15) fun l =>
oh (y7 E (y6 E) 0 none true 60 [l, (.bool false)] h15) fun d h16 =>
ob (evUn .not d) fun g =>
cnd g
 ((yq h16 (.tup [AV.nilp, (.int .i64 20)])))
 ((yqn n e b j a h16))
def y190 (s : St) : OX := yxw (s 0) (s 4) (s 56) (s 57) (s 58) s.h
theorem yvq : T1 ym7 y5x (y5 2 y41 xN) [.t 2, .t 3] y190 := sq yx5 fun _ => by kernel_rfl
def yly (b a g c d e : AV) (h : Heap) : OX :=
cnd e
 ((yxw b a g c d h))
 ((ykz b a h))
def y16g (s : St) : OX := yly (s 0) (s 4) (s 56) (s 57) (s 58) (s 59) s.h
theorem ywg : T1 yke y5x (y5 2 y41 xN) [.t 2, .t 3] y16g := sq yvq fun _ => by kernel_rfl
def yl2 (g c e a b : AV) (h : Heap) : OX :=
ob (y9 .lss b a) fun d =>
(yly g c e a b d h)
def y18d (s : St) : OX := yl2 (s 0) (s 4) (s 56) (s 57) (s 58) s.h
theorem yy1 : T1 ymd y5x (y5 2 y41 xN) [.t 2, .t 3] y18d := sq ywg fun _ => by kernel_rfl
theorem ydb (e a d b c : AV) (h : Heap) : ybc e a d b c h = (yl2 e a d b c h) :=
  y3g.trans ((y2i _ _ _ (n' := y5x) (fun s => yd2 s)).trans ((yy1 _).trans (by kernel_rfl)))
theorem yx9 : T1 ymy y41 xN [.t 2, .t 3] y5x := fun s => y1h.trans (yd2 s)
def yji (a b : AV) (h : Heap) : OX :=
ob (y1t 1 a h) fun c =>
(ybc a b a c (.int .i64 0) h)
def y45 (s : St) : OX := yji (s 0) (s 4) s.h
theorem yqm : T1 yjh y41 xN [.t 2, .t 3] y45 := sq yx9 fun _ => by kernel_rfl
theorem yxj : T0 yk8 [.t 2, .t 3] y45 := sq yvk yqm
def y92 (e a b d c : AV) (h : Heap) : OX :=
  W E 0 yb0 ⟨[(0, e), (4, a), (24, b), (25, d), (26, c)], h⟩ y45 (y5 0 y45 xN) (finP [.t 2, .t 3])
def y5w (s : St) : OX := y92 (s 0) (s 4) (s 24) (s 25) (s 26) s.h
theorem yd8 : T1 yb0 y45 (y5 0 y45 xN) [.t 2, .t 3] y5w := fun s => yt.trans (by kernel_rfl)
def yyi (g a c e d : AV) (h : Heap) : OX :=
ob (y9 .add d (.int .i64 1)) fun b =>
(y92 g a c e b h)
def y14j (s : St) : OX := yyi (s 0) (s 4) (s 24) (s 25) (s 26) s.h
theorem ysh : T1 ym6 y5w (y5 0 y45 xN) [.t 2, .t 3] y14j := fun _ => by kernel_rfl
def yr1 (I b l C r : AV) (h : Heap) : OX :=
ob (y21 2 l r) fun w =>
ob (evLd true 2 w h) fun F =>
oh (newC 0 (some 3) [(.str []), (.str [])] h) fun a h17 =>
oh (evSt 2 a F h17) fun _ h18 =>
ob (yn b) fun v =>
ob (evFa 0 v) fun j =>
ob (evLd false 1 j h18) fun i =>
ob (ybr 2 1 a (.int .i64 0)) fun e =>
ob (evLd false 1 e h18) fun A =>
ob (ybr 2 1 a (.int .i64 0)) fun t =>
ob (evLd false 1 t h18) fun B =>
ob (ybr 2 1 a (.int .i64 1)) fun n =>
ob (evLd false 1 n h18) fun u =>
ob (ybr 2 1 a (.int .i64 0)) fun c =>
ob (evLd false 1 c h18) fun d =>
ofp (ykf E (y6 E) 0 none true 43 [d] h18) fun f12 =>
oh (y7 E (y6 E) 0 none true 43 [d] h18) fun D h19 =>
ob (y12 [(.int .i64 0), (.str []), (.str []), .nils, .nils, .nils, .nils] [(1, 1, B), (2, 1, u), (6, 1, D)]) fun y =>
oh (y3z false [2] i A y h19) fun _ h20 =>
okK (y44 [([], []), ([], []), ([], []), (ids1 j, []), ([], []), (ids1 e, []), ([], []), (ids1 t, []), ([], []), (ids1 n, []), ([], []), (ids1 c, []), f12, ([], []), ([], ids1 i)] [(3, 12), (5, 12), (7, 12), (9, 12)]) <|
ob (yn b) fun x =>
ob (evFa 1 x) fun k =>
ob (evLd false 1 k h20) fun o =>
ob (ybr 2 1 a (.int .i64 0)) fun p =>
ob (evLd false 1 p h20) fun H =>
oh (y19 0 (some 4) 1 1 [(.str [])] [(0, H)] h20) fun m h21 =>
oh (y2d 0 (some 5) 1 16 o m h21) fun G h22 =>
ob (yn b) fun z =>
ob (evFa 1 z) fun g =>
oh (evSt 1 g G h22) fun _ h23 =>
okK (y44 [([], []), ([], []), ([], []), ([], []), (ids1 k, []), ([], []), (ids1 p, []), ([], [0 + 4]), (ids1 m, ids1 o ++ [0 + 5]), ([], []), ([], []), ([], ids1 g)] [(4, 7)]) <|
(yyi I b l C r h23)
def y14q (s : St) : OX := yr1 (s 0) (s 4) (s 24) (s 25) (s 26) s.h
theorem yq8 : T1 ym9 y5w (y5 0 y45 xN) [.t 2, .t 3] y14q := sq ysh fun _ => by kernel_rfl
def ykj (b a d g e c : AV) (h : Heap) : OX :=
cnd c
 ((yr1 b a d g e h))
 ((yji b a h))
def y14s (s : St) : OX := ykj (s 0) (s 4) (s 24) (s 25) (s 26) (s 27) s.h
theorem yta : T1 ymo y5w (y5 0 y45 xN) [.t 2, .t 3] y14s := sq yq8 fun _ => by kernel_rfl
def yjp (g c e b a : AV) (h : Heap) : OX :=
ob (y9 .lss a b) fun d =>
(ykj g c e b a d h)
def y163 (s : St) : OX := yjp (s 0) (s 4) (s 24) (s 25) (s 26) s.h
theorem ysj : T1 ylz y5w (y5 0 y45 xN) [.t 2, .t 3] y163 := sq yta fun _ => by kernel_rfl
theorem yd5 (e a b d c : AV) (h : Heap) : y92 e a b d c h = (yjp e a b d c h) :=
  y3g.trans ((y2i _ _ _ (n' := y5w) (fun s => yd8 s)).trans ((ysj _).trans (by kernel_rfl)))
theorem yqb : T1 ym4 y45 xN [.t 2, .t 3] y5w := fun s => y1h.trans (yd8 s)
def yuc (d b : AV) (h : Heap) : OX :=
oh (y7 E (y6 E) 0 none true 33 [] h) fun a h24 =>
ob (y1t 1 a h24) fun c =>
(y92 d b a c (.int .i64 0) h24)
def ytl (s : St) : OX := yuc (s 0) (s 4) s.h
theorem ysd : T1 yjx y45 xN [.t 2, .t 3] ytl := sq yqb fun _ => by kernel_rfl
theorem ytj : T0 ykl [.t 2, .t 3] ytl := sq yxj ysd
def ygu (e : AV) (h : Heap) : OX :=
oh (mkmC 0 (some 0) h) fun c h25 =>
oh (mkmC 0 (some 1) h25) fun b h26 =>
ob (y12 [.nilm, .nils, .nilm] [(0, 1, c), (2, 1, b)]) fun d =>
oh (newC 0 (some 2) (cellsOf d) h26) fun a h27 =>
(yuc e a h27)
def y157 (s : St) : OX := ygu (s 0) s.h
theorem yvf : T0 yl5 [.t 2, .t 3] y157 := sq ytj fun _ => by kernel_rfl
def yvx (a : AV) (h : Heap) : OX :=
ob (y1t 1 a h) fun b =>
ob (y9 .gtr b (.int .i64 40)) fun c =>
cnd c
 ((yq h (.tup [AV.nilp, (.int .i64 2)])))
 ((ygu a h))
def y151 (s : St) : OX := yvx (s 0) s.h
theorem yxp : T0 yjw [.t 2, .t 3] y151 := sq yvf fun _ => by kernel_rfl
def yt4 (a : AV) (h : Heap) : OX :=
(yvx a h)
def y177 (s : St) : OX := yt4 (s 0) s.h
theorem yxm : T0 ync [.t 2, .t 3] y177 := sq yxp fun _ => by kernel_rfl
@[simp] theorem y1gs : E.pure 1 = true := rfl
theorem y1ga (a : AV) : (y6 E).p 1 [a] = yt4 a [⟨0, .dead⟩, ⟨0, .dead⟩, ⟨0, .dead⟩, ⟨0, .dead⟩, ⟨0, .dead⟩, ⟨0, .dead⟩, ⟨0, .dead⟩, ⟨0, .dead⟩, ⟨0, .dead⟩, ⟨0, .dead⟩, ⟨0, .dead⟩, ⟨0, .dead⟩, ⟨0, .dead⟩] :=
  (y3c (cf := y1da) (by kernel_rfl) rfl).trans ((yxm _).trans (by kernel_rfl))
@[simp] theorem y1hd : E.pure 2 = true := rfl
def y15a (v p u : AV) (h : Heap) : OX :=
oh (y7 E (y6 E) 0 none true 36 [p] h) fun c h1 =>
oh (y7 E (y6 E) 0 none true 36 [u] h1) fun e h2 =>
ob (y9 .neq c (AV.str [])) fun d =>
gb d true (some e) fun n =>
gb d true (y9 .neq n (AV.str [])) fun r =>
ob (yk d r (.bool false)) fun b =>
gb b true (some c) fun g =>
gh b true (y7 E (y6 E) 0 none true 34 [g] h2) h2 fun o h3 =>
gb b true (y9 .eql o (.int .i64 3)) fun j =>
ob (yk b j (.bool false)) fun a =>
gb a true (some v) fun l =>
gb a true (some c) fun t =>
gb a true (some e) fun i =>
gh a true (y7 E (y6 E) 0 none true 3 [l, t, i] h3) h3 fun m h4 =>
ob (yk a m (.bool false)) fun k =>
(yq h4 k)
def ydx (s : St) : OX := y15a (s 0) (s 1) (s 2) s.h
theorem y0o : T0 ytn [.t 6] ydx := fun _ => by kernel_rfl
def y18u (p n m : AV) (h : Heap) : OX :=
oh (y7 E (y6 E) 0 none true 35 [n] h) fun b h5 =>
ob (y9 .neq b (AV.str [])) fun a =>
gb a true (some p) fun o =>
gb a true (yn o) fun d =>
gb a true (evFa 2 d) fun i =>
gb a true (evLd false 1 i h5) fun j =>
gb a true (some b) fun k =>
gb a true (y16 false [2] .nilm false j k h5) fun e =>
gb a true (some m) fun g =>
gb a true (y16 false [2] (.bool false) false e g h5) fun c =>
ob (yk a c (.bool false)) fun l =>
(yq h5 l)
def y1ce (s : St) : OX := y18u (s 0) (s 1) (s 7) s.h
theorem yzn : T1 yq1 ydx xN [.t 6] y1ce := fun _ => by kernel_rfl
def y15r (g b a : AV) (h : Heap) : OX :=
ob (y3l b (.int .i64 0)) fun d =>
ob (y9 .eql d (.int .u8 91)) fun e =>
cnd e
 (ob (y9 .eql a (AV.str [79, 98, 106, 101, 99, 116])) fun c =>
(yq h c))
 ((y18u g b a h))
def y1af (s : St) : OX := y15r (s 0) (s 1) (s 7) s.h
theorem y118 : T1 yww ydx xN [.t 6] y1af := sq yzn fun _ => by kernel_rfl
def y17w (b a e c d : AV) (h : Heap) : OX :=
cnd d
 ((y15r b a c h))
 ((y15a b a e h))
def y1bq (s : St) : OX := y17w (s 0) (s 1) (s 2) (s 7) (s 34) s.h
theorem y0w : T1 ywr ydx xN [.t 6] y1bq := fun s => (y1d2 (y118 s) rfl).trans (by kernel_rfl)
def y17s (e b d a : AV) (h : Heap) : OX :=
ob (y9 .neq a (AV.str [])) fun c =>
(y17w e b d a c h)
def y1bc (s : St) : OX := y17s (s 0) (s 1) (s 2) (s 7) s.h
theorem y11v : T1 ysv ydx xN [.t 6] y1bc := sq y0w fun _ => by kernel_rfl
def y14h (d c a : AV) (h : Heap) : OX :=
oh (y7 E (y6 E) 0 none true 35 [a] h) fun b h6 =>
(y17s d c a b h6)
def y13q (s : St) : OX := y14h (s 0) (s 1) (s 2) s.h
theorem y11n : T1 yyk ydx xN [.t 6] y13q := sq y11v fun _ => by kernel_rfl
theorem y11y : T0 yy3 [.t 6] y13q := sq y0o y11n
def y11i (d a b : AV) (h : Heap) : OX :=
ob (y9 .eql b (AV.str [])) fun l =>
cnd l
 ((yq h (.bool true)))
 (ob (y66 0 false d AV.nilp) fun c =>
gb c false (some a) fun e =>
gb c false (y9 .eql e (AV.str [])) fun k =>
ob (yk c (.bool true) k) fun i =>
cnd i
 ((yq h (.bool false)))
 (ob (y9 .eql a b) fun j =>
cnd j
 ((yq h (.bool true)))
 (ob (y9 .eql a (AV.str [78])) fun g =>
cnd g
 (oh (y7 E (y6 E) 0 none true 34 [b] h) fun n h7 =>
ob (y9 .eql n (.int .i64 3)) fun m =>
(yq h7 m))
 ((y14h d a b h)))))
def y1b2 (s : St) : OX := y11i (s 0) (s 1) (s 2) s.h
theorem yzt : T0 yts [.t 6] y1b2 := sq y11y fun _ => by kernel_rfl
def yzf (c b a : AV) (h : Heap) : OX :=
(y11i c b a h)
def y1dn (s : St) : OX := yzf (s 0) (s 1) (s 2) s.h
theorem y124 : T0 yx7 [.t 6] y1dn := sq yzt fun _ => by kernel_rfl
@[simp] theorem y1h2 : E.pure 3 = true := rfl
theorem y1by (c b a : AV) : (y6 E).p 3 [c, b, a] = yzf c b a [] :=
  (y3c (cf := y1c4) (by kernel_rfl) rfl).trans ((y124 _).trans (by kernel_rfl))
@[simp] theorem y1f1 : E.pure 59 = true := rfl
@[simp] theorem y1dt : E.pure 177 = true := rfl
@[simp] theorem y1e7 : E.pure 178 = true := rfl
def y176 (a : AV) (h : Heap) : OX :=
(yq h a)
def y13p (s : St) : OX := y176 (s 5) s.h
theorem y0c : T0 yve [.t 4] y13p := fun _ => by kernel_rfl
def ytx (d c : AV) (h : Heap) : Option St :=
oh (y19 0 (some 0) 1 1 [(.str [])] [(0, c)] h) fun b h1 =>
oh (y2d 0 (some 1) 1 16 d b h1) fun a h2 =>
(some (⟨[(5, a)], killAll 0 [0] h2⟩ : St))
def y1aq (s : St) : Option St := ytx (s 5) (s 6) s.h
theorem y110 (s : St) : W E 0 yuj s (fun s3 => some (⟨restrict [5] s3.t, killAll 0 [0] s3.h⟩ : St)) xN (fun _ => none) = y1aq s :=
  by kernel_rfl
def y188 (c b j : AV) (h : Heap) : OX :=
ob (yn c) fun i =>
ob (evFa 2 i) fun e =>
ob (evLd false 1 e h) fun a =>
ob (y16 false [2] .nilm false a b h) fun d =>
orms d (fun q q0 =>
ob (y4u 0 (AV.tup [q.1, q.2])) fun g =>
(ytx (tget q0.t 5) g q0.h)) (fun q1 =>
oh (y7 E (y6 E) 0 none false 180 [(tget q1.t 5)] q1.h) fun k h5 =>
some (⟨[(5, (tget q1.t 5))], h5⟩ : St)) [(5, j)] h fun q2 =>
(y176 (tget q2.t 5) q2.h)
def y1ba (s : St) : OX := y188 (s 0) (s 1) (s 5) s.h
theorem y11d : T0 ysf [.t 4] y1ba := fun s => (yp9 (nk := y13p) (fun s2 => y110 s2) (fun s => y0c s)).trans (by kernel_rfl)
def y16j (b a : AV) (h : Heap) : OX :=
(y188 b a AV.nils h)
def y1bp (s : St) : OX := y16j (s 0) (s 1) s.h
theorem y115 : T0 ypm [.t 4] y1bp := sq y11d fun _ => by kernel_rfl
def y19a (a c : AV) (h : Heap) : OX :=
ob (y66 0 false a AV.nilp) fun b =>
cnd b
 ((yq h AV.nils))
 ((y16j a c h))
def y1az (s : St) : OX := y19a (s 0) (s 1) s.h
theorem y0x : T0 yrb [.t 4] y1az := sq y115 fun _ => by kernel_rfl
def y18k (b a : AV) (h : Heap) : OX :=
(y19a b a h)
def y1aw (s : St) : OX := y18k (s 0) (s 1) s.h
theorem y11s : T0 ywq [.t 4] y1aw := sq y0x fun _ => by kernel_rfl
@[simp] theorem y1e3 : E.pure 179 = true := rfl
theorem y1fw (b a : AV) : (y6 E).p 179 [b, a] = y18k b a [⟨0, .dead⟩, ⟨0, .dead⟩] :=
  (y3c (cf := y1co) (by kernel_rfl) rfl).trans ((y11s _).trans (by kernel_rfl))
def y175 (a : AV) (h : Heap) : OX :=
ob (y9 .quo a (.int .i64 10)) fun b =>
ob (y9 .add (.int .i64 97) b) fun k =>
ob (ysc .u8 k) fun d =>
ob (y9 .rem a (.int .i64 10)) fun j =>
ob (y9 .add (.int .i64 48) j) fun g =>
ob (ysc .u8 g) fun i =>
oh (y19 0 (some 0) 1 3 [(.int .u8 0)] [(0, (.int .u8 107)), (1, d), (2, i)] h) fun e h1 =>
ob (y16d e h1) fun c =>
(yq h1 c)
def y1d0 (s : St) : OX := y175 (s 0) s.h
theorem y12p : T0 ypx [.t 2] y1d0 := fun _ => by kernel_rfl
@[simp] theorem y1e4 : E.pure 228 = true := rfl
theorem y1fd (a : AV) : (y6 E).p 228 [a] = y175 a [⟨0, .dead⟩] :=
  (y3c (cf := y1aj) (by kernel_rfl) rfl).trans ((y12p _).trans (by kernel_rfl))
def y17y (a : AV) (h : Heap) : OX :=
ob (y12 [(.int .i64 0), (.str []), (.str [])] []) fun b =>
oh (evSt 3 a b h) fun _ h1 =>
(ob (evLd true 3 a h1) fun r1 =>
  yq h1 (.tup [(AV.str []), r1, (.bool false)]))
def y3f (s : St) : OX := y17y (s 9) s.h
theorem y12d : T0 yy5 [.t 8, .cell 9 true 3, .t 10] y3f := fun _ => by kernel_rfl
def ygp (e c d a b : AV) (h : Heap) : OX :=
  W E 0 yeh ⟨[(0, e), (1, c), (2, d), (3, a), (9, b)], h⟩ y3f (y5 0 y3f xN) (finP [.t 8, .cell 9 true 3, .t 10])
def y1r (s : St) : OX := ygp (s 0) (s 1) (s 2) (s 3) (s 9) s.h
theorem yg0 : T1 yeh y3f (y5 0 y3f xN) [.t 8, .cell 9 true 3, .t 10] y1r := fun s => yt.trans (by kernel_rfl)
def y132 (i g b c d : AV) (h : Heap) : OX :=
ob (evFa 2 d) fun e =>
ob (evLd false 1 e h) fun a =>
(ygp i a g b c h)
def y6u (s : St) : OX := y132 (s 0) (s 2) (s 3) (s 9) (s 11) s.h
theorem y117 : T1 yxk y1r (y5 1 y1r (y5 0 y3f xN)) [.t 8, .cell 9 true 3, .t 10] y6u := fun _ => by kernel_rfl
def ye3 (k i j c e b g d a : AV) (h : Heap) : OX :=
  W E 0 yeg ⟨[(0, k), (1, i), (2, j), (3, c), (9, e), (11, b), (26, g), (27, d), (28, a)], h⟩ y6u (y5 2 y6u (y5 1 y1r (y5 0 y3f xN))) (finP [.t 8, .cell 9 true 3, .t 10])
def y7i (s : St) : OX := ye3 (s 0) (s 1) (s 2) (s 3) (s 9) (s 11) (s 26) (s 27) (s 28) s.h
theorem yg7 : T1 yeg y6u (y5 2 y6u (y5 1 y1r (y5 0 y3f xN))) [.t 8, .cell 9 true 3, .t 10] y7i := fun s => yt.trans (by kernel_rfl)
def y184 (l j k d g c i e a : AV) (h : Heap) : OX :=
ob (y9 .add a (.int .i64 1)) fun b =>
(ye3 l j k d g c i e b h)
def y1c6 (s : St) : OX := y184 (s 0) (s 1) (s 2) (s 3) (s 9) (s 11) (s 26) (s 27) (s 28) s.h
theorem y05 : T1 yza y7i (y5 2 y6u (y5 1 y1r (y5 0 y3f xN))) [.t 8, .cell 9 true 3, .t 10] y1c6 := fun _ => by kernel_rfl
def y16k (y g j d c u i m e : AV) (h : Heap) : OX :=
ob (y21 3 i e) fun v =>
ob (evLd true 3 v h) fun o =>
oh (newC 0 (some 2) [(.int .i64 0), (.str []), (.str [])] h) fun b h2 =>
oh (evSt 3 b o h2) fun _ h3 =>
ob (evFa 1 b) fun t =>
ob (evLd false 1 t h3) fun p =>
ob (y9 .eql p j) fun a =>
gb a true (evFa 2 b) fun w =>
gb a true (evLd false 1 w h3) fun x =>
gb a true (some d) fun k =>
gb a true (y9 .eql x k) fun l =>
ob (yk a l (.bool false)) fun n =>
cnd n
 (ob (evLd true 3 b h3) fun r =>
oh (evSt 3 c r h3) fun _ h4 =>
(ob (evLd true 3 c h4) fun r1 =>
  yq h4 (.tup [g, r1, (.bool true)])))
 ((y184 y g j d c u i m e h3))
def y1ap (s : St) : OX := y16k (s 0) (s 1) (s 2) (s 3) (s 9) (s 11) (s 26) (s 27) (s 28) s.h
theorem y0e : T1 yqj y7i (y5 2 y6u (y5 1 y1r (y5 0 y3f xN))) [.t 8, .cell 9 true 3, .t 10] y1ap := sq y05 fun _ => by kernel_rfl
def y11p (e k d b c a j i g l : AV) (h : Heap) : OX :=
cnd l
 ((y16k e k d b c a j i g h))
 ((y132 e d b c a h))
def y1am (s : St) : OX := y11p (s 0) (s 1) (s 2) (s 3) (s 9) (s 11) (s 26) (s 27) (s 28) (s 29) s.h
theorem yzs : T1 yw1 y7i (y5 2 y6u (y5 1 y1r (y5 0 y3f xN))) [.t 8, .cell 9 true 3, .t 10] y1am := sq y0e fun _ => by kernel_rfl
def y0d (l i k d e c g b a : AV) (h : Heap) : OX :=
ob (y9 .lss a b) fun j =>
(y11p l i k d e c g b a j h)
def y1c5 (s : St) : OX := y0d (s 0) (s 1) (s 2) (s 3) (s 9) (s 11) (s 26) (s 27) (s 28) s.h
theorem yzw : T1 yyt y7i (y5 2 y6u (y5 1 y1r (y5 0 y3f xN))) [.t 8, .cell 9 true 3, .t 10] y1c5 := sq yzs fun _ => by kernel_rfl
theorem ygs (k i j c e b g d a : AV) (h : Heap) : ye3 k i j c e b g d a h = (y0d k i j c e b g d a h) :=
  y3g.trans ((y2i _ _ _ (n' := y7i) (fun s => yg7 s)).trans ((yzw _).trans (by kernel_rfl)))
theorem yzv : T1 yyz y6u (y5 1 y1r (y5 0 y3f xN)) [.t 8, .cell 9 true 3, .t 10] y7i := fun s => y1h.trans (yg7 s)
def yy2 (k g j c e a : AV) (h : Heap) : OX :=
ob (evFa 5 a) fun i =>
ob (evLd false 1 i h) fun b =>
ob (y1t 1 b h) fun d =>
(ye3 k g j c e a b d (.int .i64 0) h)
def yy8 (s : St) : OX := yy2 (s 0) (s 1) (s 2) (s 3) (s 9) (s 11) s.h
theorem yq5 : T1 yks y6u (y5 1 y1r (y5 0 y3f xN)) [.t 8, .cell 9 true 3, .t 10] yy8 := sq yzv fun _ => by kernel_rfl
theorem yrj : T1 ykn y1r (y5 1 y1r (y5 0 y3f xN)) [.t 8, .cell 9 true 3, .t 10] yy8 := sq y117 yq5
def yw7 (c b l d e : AV) (h : Heap) : OX :=
ob (yn c) fun j =>
ob (evFa 0 j) fun i =>
ob (evLd false 1 i h) fun k =>
ob (y16 false [2] (.agg [(.int .i64 0), (.str []), (.str []), .nils, .nils, .nils, .nils]) false k b h) fun g =>
oh (newC 0 (some 1) [(.int .i64 0), (.str []), (.str []), .nils, .nils, .nils, .nils] h) fun a h5 =>
oh (evSt 7 a g h5) fun _ h6 =>
(yy2 c b l d e a h6)
def yyc (s : St) : OX := yw7 (s 0) (s 1) (s 2) (s 3) (s 9) s.h
theorem ypt : T1 ymt y1r (y5 1 y1r (y5 0 y3f xN)) [.t 8, .cell 9 true 3, .t 10] yyc := sq yrj fun _ => by kernel_rfl
theorem ywf : T1 ykc y1r (y5 0 y3f xN) [.t 8, .cell 9 true 3, .t 10] yyc := fun s => y1h.trans (ypt s)
def yql (g b e d a : AV) (h : Heap) : OX :=
ob (y9 .neq b (AV.str [])) fun c =>
cnd c
 ((yw7 g b e d a h))
 ((y17y a h))
def y16y (s : St) : OX := yql (s 0) (s 1) (s 2) (s 3) (s 9) s.h
theorem yym : T1 yn4 y1r (y5 0 y3f xN) [.t 8, .cell 9 true 3, .t 10] y16y := sq ywf fun _ => by kernel_rfl
theorem ypn (e c d a b : AV) (h : Heap) : ygp e c d a b h = (yql e c d a b h) :=
  y3g.trans ((y2i _ _ _ (n' := y1r) (fun s => yg0 s)).trans ((yym _).trans (by kernel_rfl)))
theorem yvz : T1 yne y3f xN [.t 8, .cell 9 true 3, .t 10] y1r := fun s => y1h.trans (yg0 s)
theorem yse : T0 yna [.t 8, .cell 9 true 3, .t 10] y1r := sq y12d yvz
def ysq (b e i d a : AV) (h : Heap) : OX :=
ob (y66 0 false b AV.nilp) fun c =>
cnd c
 (ob (y12 [(.int .i64 0), (.str []), (.str [])] []) fun g =>
oh (evSt 3 a g h) fun _ h7 =>
(ob (evLd true 3 a h7) fun r1 =>
  yq h7 (.tup [(AV.str []), r1, (.bool false)])))
 ((ygp b e i d a h))
def y19h (s : St) : OX := ysq (s 0) (s 1) (s 2) (s 3) (s 9) s.h
theorem yvr : T0 ymb [.t 8, .cell 9 true 3, .t 10] y19h := sq yse fun _ => by kernel_rfl
def ytq (e c d a : AV) (h : Heap) : OX :=
oh (newC 0 (some 0) [(.int .i64 0), (.str []), (.str [])] h) fun b h8 =>
(ysq e c d a b h8)
def y19f (s : St) : OX := ytq (s 0) (s 1) (s 2) (s 3) s.h
theorem yyb : T0 yni [.t 8, .cell 9 true 3, .t 10] y19f := sq yvr fun _ => by kernel_rfl
@[simp] theorem y1e0 : E.pure 211 = true := rfl
theorem y1fq (d c b a : AV) : (y6 E).p 211 [d, c, b, a] = ytq d c b a [⟨0, .dead⟩, ⟨0, .dead⟩, ⟨0, .dead⟩] :=
  (y3c (cf := y1cb) (by kernel_rfl) rfl).trans ((yyb _).trans (by kernel_rfl))
def y16w (a : AV) (h : Heap) : OX :=
ob (y12 [(.int .i64 0), (.str []), (.str []), (.int .i64 0), (.int .i64 0), .nils, .nils, .nils] []) fun b =>
oh (evSt 8 a b h) fun _ h1 =>
(ob (evLd true 8 a h1) fun r1 =>
  yq h1 (.tup [(AV.str []), r1, (.bool false)]))
def y2x (s : St) : OX := y16w (s 9) s.h
theorem yzo : T0 ypr [.t 8, .cell 9 true 8, .t 10] y2x := fun _ => by kernel_rfl
def ygz (i g d e a b c : AV) (h : Heap) : OX :=
  W E 0 yf8 ⟨[(0, i), (2, g), (3, d), (9, e), (38, a), (39, b), (40, c)], h⟩ y2x (y5 2 y2x xN) (finP [.t 8, .cell 9 true 8, .t 10])
def y7j (s : St) : OX := ygz (s 0) (s 2) (s 3) (s 9) (s 38) (s 39) (s 40) s.h
theorem ygj : T1 yf8 y2x (y5 2 y2x xN) [.t 8, .cell 9 true 8, .t 10] y7j := fun s => yt.trans (by kernel_rfl)
def y131 (j i e g a c d : AV) (h : Heap) : OX :=
ob (y9 .add d (.int .i64 1)) fun b =>
(ygz j i e g a c b h)
def y2q (s : St) : OX := y131 (s 0) (s 2) (s 3) (s 9) (s 38) (s 39) (s 40) s.h
theorem yzu : T1 yxd y7j (y5 2 y2x xN) [.t 8, .cell 9 true 8, .t 10] y2q := fun _ => by kernel_rfl
def ye5 (m l i j k a c d e g b : AV) (h : Heap) : OX :=
  W E 0 yec ⟨[(0, m), (2, l), (3, i), (9, j), (14, k), (38, a), (39, c), (40, d), (50, e), (51, g), (52, b)], h⟩ y2q (y5 4 y2q (y5 3 y2q (y5 2 y2x xN))) (finP [.t 8, .cell 9 true 8, .t 10])
def y7p (s : St) : OX := ye5 (s 0) (s 2) (s 3) (s 9) (s 14) (s 38) (s 39) (s 40) (s 50) (s 51) (s 52) s.h
theorem yhc : T1 yec y2q (y5 4 y2q (y5 3 y2q (y5 2 y2x xN))) [.t 8, .cell 9 true 8, .t 10] y7p := fun s => yt.trans (by kernel_rfl)
def y16i (n m i j l a c d e g b : AV) (h : Heap) : OX :=
ob (y9 .add b (.int .i64 1)) fun k =>
(ye5 n m i j l a c d e g k h)
def y1bd (s : St) : OX := y16i (s 0) (s 2) (s 3) (s 9) (s 14) (s 38) (s 39) (s 40) (s 50) (s 51) (s 52) s.h
theorem y130 : T1 yx1 y7p (y5 4 y2q (y5 3 y2q (y5 2 y2x xN))) [.t 8, .cell 9 true 8, .t 10] y1bd := fun _ => by kernel_rfl
def y15i (A j d c e y l m i v g : AV) (h : Heap) : OX :=
ob (y21 8 i g) fun o =>
ob (evLd true 8 o h) fun r =>
oh (newC 0 (some 4) [(.int .i64 0), (.str []), (.str []), (.int .i64 0), (.int .i64 0), .nils, .nils, .nils] h) fun b h2 =>
oh (evSt 8 b r h2) fun _ h3 =>
ob (evFa 1 b) fun z =>
ob (evLd false 1 z h3) fun t =>
ob (y9 .eql t j) fun a =>
gb a true (evFa 2 b) fun u =>
gb a true (evLd false 1 u h3) fun w =>
gb a true (some d) fun p =>
gb a true (y9 .eql w p) fun x =>
ob (yk a x (.bool false)) fun n =>
cnd n
 (ob (evLd true 8 b h3) fun k =>
oh (evSt 8 c k h3) fun _ h4 =>
(ob (evLd true 8 c h4) fun r1 =>
  yq h4 (.tup [e, r1, (.bool true)])))
 ((y16i A j d c e y l m i v g h3))
def y1cy (s : St) : OX := y15i (s 0) (s 2) (s 3) (s 9) (s 14) (s 38) (s 39) (s 40) (s 50) (s 51) (s 52) s.h
theorem y11u : T1 ys0 y7p (y5 4 y2q (y5 3 y2q (y5 2 y2x xN))) [.t 8, .cell 9 true 8, .t 10] y1cy := sq y130 fun _ => by kernel_rfl
def y125 (i g d e n a b c k l j m : AV) (h : Heap) : OX :=
cnd m
 ((y15i i g d e n a b c k l j h))
 ((y131 i g d e a b c h))
def y1bh (s : St) : OX := y125 (s 0) (s 2) (s 3) (s 9) (s 14) (s 38) (s 39) (s 40) (s 50) (s 51) (s 52) (s 53) s.h
theorem y12x : T1 ytd y7p (y5 4 y2q (y5 3 y2q (y5 2 y2x xN))) [.t 8, .cell 9 true 8, .t 10] y1bh := sq y11u fun _ => by kernel_rfl
def y0z (n m i j l c d e g b a : AV) (h : Heap) : OX :=
ob (y9 .lss a b) fun k =>
(y125 n m i j l c d e g b a k h)
def y1cf (s : St) : OX := y0z (s 0) (s 2) (s 3) (s 9) (s 14) (s 38) (s 39) (s 40) (s 50) (s 51) (s 52) s.h
theorem y11x : T1 yz7 y7p (y5 4 y2q (y5 3 y2q (y5 2 y2x xN))) [.t 8, .cell 9 true 8, .t 10] y1cf := sq y12x fun _ => by kernel_rfl
theorem ygn (m l i j k a c d e g b : AV) (h : Heap) : ye5 m l i j k a c d e g b h = (y0z m l i j k a c d e g b h) :=
  y3g.trans ((y2i _ _ _ (n' := y7p) (fun s => yhc s)).trans ((y11x _).trans (by kernel_rfl)))
theorem y09 : T1 ys2 y2q (y5 3 y2q (y5 2 y2x xN)) [.t 8, .cell 9 true 8, .t 10] y7p := fun s => y1h.trans (yhc s)
def yws (c p k m b d e g : AV) (h : Heap) : OX :=
ob (yn c) fun i =>
ob (evFa 0 i) fun j =>
ob (evLd false 1 j h) fun l =>
ob (y16 false [2] (.agg [(.int .i64 0), (.str []), (.str []), .nils, .nils, .nils, .nils]) false l b h) fun o =>
ob (yom false 6 1 o) fun a =>
ob (y1t 1 a h) fun n =>
(ye5 c p k m b d e g a n (.int .i64 0) h)
def y14r (s : St) : OX := yws (s 0) (s 2) (s 3) (s 9) (s 14) (s 38) (s 39) (s 40) s.h
theorem yuz : T1 yk9 y2q (y5 3 y2q (y5 2 y2x xN)) [.t 8, .cell 9 true 8, .t 10] y14r := sq y09 fun _ => by kernel_rfl
def yq2 (k j d e a c b : AV) (h : Heap) : OX :=
ob (y21 1 a b) fun i =>
ob (evLd false 1 i h) fun g =>
(yws k j d e g a c b h)
def yiw (s : St) : OX := yq2 (s 0) (s 2) (s 3) (s 9) (s 38) (s 39) (s 40) s.h
theorem yux : T1 ylt y2q (y5 3 y2q (y5 2 y2x xN)) [.t 8, .cell 9 true 8, .t 10] yiw := sq yuz fun _ => by kernel_rfl
theorem yyw : T1 yo3 y2q (y5 2 y2x xN) [.t 8, .cell 9 true 8, .t 10] yiw := fun s => y1h.trans (yux s)
theorem yu7 : T1 ymu y7j (y5 2 y2x xN) [.t 8, .cell 9 true 8, .t 10] yiw := sq yzu yyw
def ymg (j i e a b c d g : AV) (h : Heap) : OX :=
cnd g
 ((yq2 j i e a b c d h))
 ((y16w a h))
def y153 (s : St) : OX := ymg (s 0) (s 2) (s 3) (s 9) (s 38) (s 39) (s 40) (s 41) s.h
theorem yz0 : T1 yjs y7j (y5 2 y2x xN) [.t 8, .cell 9 true 8, .t 10] y153 := sq yu7 fun _ => by kernel_rfl
def yn9 (j i d e c a b : AV) (h : Heap) : OX :=
ob (y9 .lss b a) fun g =>
(ymg j i d e c a b g h)
def y19p (s : St) : OX := yn9 (s 0) (s 2) (s 3) (s 9) (s 38) (s 39) (s 40) s.h
theorem yvu : T1 ymk y7j (y5 2 y2x xN) [.t 8, .cell 9 true 8, .t 10] y19p := sq yz0 fun _ => by kernel_rfl
theorem yfy (i g d e a b c : AV) (h : Heap) : ygz i g d e a b c h = (yn9 i g d e a b c h) :=
  y3g.trans ((y2i _ _ _ (n' := y7j) (fun s => ygj s)).trans ((yvu _).trans (by kernel_rfl)))
theorem yqy : T1 yk0 y2x xN [.t 8, .cell 9 true 8, .t 10] y7j := fun s => y1h.trans (ygj s)
def ylp (b j k g i d : AV) (h : Heap) : OX :=
oh (y7 E (y6 E) 0 none true 179 [b, j] h) fun c h5 =>
oh (y2d 0 (some 3) 1 16 d c h5) fun a h6 =>
ob (y1t 1 a h6) fun e =>
(ygz b k g i a e (.int .i64 0) h6)
def y4q (s : St) : OX := ylp (s 0) (s 1) (s 2) (s 3) (s 9) (s 11) s.h
theorem ysx : T1 yjl y2x xN [.t 8, .cell 9 true 8, .t 10] y4q := sq yqy fun _ => by kernel_rfl
theorem yv0 : T0 ykr [.t 8, .cell 9 true 8, .t 10] y4q := sq yzo ysx
def y9i (i e g c d b a : AV) (h : Heap) : OX :=
  W E 0 ycl ⟨[(0, i), (1, e), (2, g), (3, c), (9, d), (11, b), (12, a)], h⟩ y4q (y5 0 y4q xN) (finP [.t 8, .cell 9 true 8, .t 10])
def y70 (s : St) : OX := y9i (s 0) (s 1) (s 2) (s 3) (s 9) (s 11) (s 12) s.h
theorem ye8 : T1 ycl y4q (y5 0 y4q xN) [.t 8, .cell 9 true 8, .t 10] y70 := fun s => yt.trans (by kernel_rfl)
def yxf (a k n e g d b : AV) (h : Heap) : OX :=
ob (yn a) fun i =>
ob (evFa 0 i) fun l =>
ob (evLd false 1 l h) fun j =>
ob (y16 false [2] (.agg [(.int .i64 0), (.str []), (.str []), .nils, .nils, .nils, .nils]) false j b h) fun c =>
ob (yom false 2 1 c) fun m =>
(y9i a k n e g d m h)
def y195 (s : St) : OX := yxf (s 0) (s 1) (s 2) (s 3) (s 9) (s 11) (s 12) s.h
theorem yq0 : T1 yla y70 (y5 0 y4q xN) [.t 8, .cell 9 true 8, .t 10] y195 := fun _ => by kernel_rfl
def yz8 (k i j d e b a : AV) (h : Heap) : OX :=
oh (y19 0 (some 1) 1 1 [(.str [])] [(0, a)] h) fun g h7 =>
oh (y2d 0 (some 2) 1 16 b g h7) fun c h8 =>
(yxf k i j d e c a h8)
def y168 (s : St) : OX := yz8 (s 0) (s 1) (s 2) (s 3) (s 9) (s 11) (s 12) s.h
theorem yxn : T1 ykw y70 (y5 0 y4q xN) [.t 8, .cell 9 true 8, .t 10] y168 := sq yq0 fun _ => by kernel_rfl
def yrv (i e g c d b a : AV) (h : Heap) : OX :=
ob (y9 .neq a (AV.str [])) fun j =>
cnd j
 ((yz8 i e g c d b a h))
 ((ylp i e g c d b h))
def y17d (s : St) : OX := yrv (s 0) (s 1) (s 2) (s 3) (s 9) (s 11) (s 12) s.h
theorem ysy : T1 yjc y70 (y5 0 y4q xN) [.t 8, .cell 9 true 8, .t 10] y17d := sq yxn fun _ => by kernel_rfl
theorem ypd (i e g c d b a : AV) (h : Heap) : y9i i e g c d b a h = (yrv i e g c d b a h) :=
  y3g.trans ((y2i _ _ _ (n' := y70) (fun s => ye8 s)).trans ((ysy _).trans (by kernel_rfl)))
theorem yy6 : T1 yl1 y4q xN [.t 8, .cell 9 true 8, .t 10] y70 := fun s => y1h.trans (ye8 s)
def yr4 (g a e c d b : AV) (h : Heap) : OX :=
(y9i g a e c d b a h)
def yq6 (s : St) : OX := yr4 (s 0) (s 1) (s 2) (s 3) (s 9) (s 11) s.h
theorem yus : T1 yo8 y4q xN [.t 8, .cell 9 true 8, .t 10] yq6 := sq yy6 fun _ => by kernel_rfl
theorem yv6 : T0 ykd [.t 8, .cell 9 true 8, .t 10] yq6 := sq yv0 yus
def yyl (e c d a b : AV) (h : Heap) : OX :=
(yr4 e c d a b AV.nils h)
def y17u (s : St) : OX := yyl (s 0) (s 1) (s 2) (s 3) (s 9) s.h
theorem yyn : T0 yku [.t 8, .cell 9 true 8, .t 10] y17u := sq yv6 fun _ => by kernel_rfl
def yug (b e i d a : AV) (h : Heap) : OX :=
ob (y66 0 false b AV.nilp) fun c =>
cnd c
 (ob (y12 [(.int .i64 0), (.str []), (.str []), (.int .i64 0), (.int .i64 0), .nils, .nils, .nils] []) fun g =>
oh (evSt 8 a g h) fun _ h9 =>
(ob (evLd true 8 a h9) fun r1 =>
  yq h9 (.tup [(AV.str []), r1, (.bool false)])))
 ((yyl b e i d a h))
def y18z (s : St) : OX := yug (s 0) (s 1) (s 2) (s 3) (s 9) s.h
theorem yvw : T0 yk7 [.t 8, .cell 9 true 8, .t 10] y18z := sq yyn fun _ => by kernel_rfl
def ysl (e c d a : AV) (h : Heap) : OX :=
oh (newC 0 (some 0) [(.int .i64 0), (.str []), (.str []), (.int .i64 0), (.int .i64 0), .nils, .nils, .nils] h) fun b h10 =>
(yug e c d a b h10)
def y14u (s : St) : OX := ysl (s 0) (s 1) (s 2) (s 3) s.h
theorem yps : T0 yn3 [.t 8, .cell 9 true 8, .t 10] y14u := sq yvw fun _ => by kernel_rfl
@[simp] theorem y1dp : E.pure 213 = true := rfl
theorem y1ei (d c b a : AV) : (y6 E).p 213 [d, c, b, a] = ysl d c b a [⟨0, .dead⟩, ⟨0, .dead⟩, ⟨0, .dead⟩, ⟨0, .dead⟩, ⟨0, .dead⟩] :=
  (y3c (cf := y1b3) (by kernel_rfl) rfl).trans ((yps _).trans (by kernel_rfl))
@[simp] theorem y1gm : E.pure 31 = true := rfl
@[simp] theorem y1f8 : E.pure 32 = true := rfl
@[simp] theorem y1f0 : E.pure 33 = true := rfl
def y1ax (h : Heap) : OX :=
(yq h AV.nils)
def y1dc (s : St) : OX := y1ax s.h
theorem y07 : T0 yr2 [.t 2] y1dc := fun _ => by kernel_rfl
def y158 (a : AV) (h : Heap) : OX :=
ob (y9 .eql a (AV.str [83, 121, 115])) fun m =>
cnd m
 (ob (y12 [(.int .i64 0), (.str []), (.str []), (.int .i64 0), (.int .i64 0), .nils, .nils, .nils] [(0, 1, (.int .i64 8)), (1, 1, (AV.str [112, 114, 105, 110, 116])), (2, 1, (AV.str [40, 73, 41, 86]))]) fun d =>
ob (y12 [(.int .i64 0), (.str []), (.str []), (.int .i64 0), (.int .i64 0), .nils, .nils, .nils] [(0, 1, (.int .i64 8)), (1, 1, (AV.str [112, 114, 105, 110, 116])), (2, 1, (AV.str [40, 74, 41, 86]))]) fun j =>
ob (y12 [(.int .i64 0), (.str []), (.str []), (.int .i64 0), (.int .i64 0), .nils, .nils, .nils] [(0, 1, (.int .i64 8)), (1, 1, (AV.str [112, 114, 105, 110, 116])), (2, 1, (AV.str [40, 76, 83, 116, 114, 105, 110, 103, 59, 41, 86]))]) fun l =>
ob (y12 [(.int .i64 0), (.str []), (.str []), (.int .i64 0), (.int .i64 0), .nils, .nils, .nils] [(0, 1, (.int .i64 8)), (1, 1, (AV.str [101, 120, 105, 116])), (2, 1, (AV.str [40, 73, 41, 86]))]) fun g =>
oh (y19 0 (some 0) 8 4 [(.int .i64 0), (.str []), (.str []), (.int .i64 0), (.int .i64 0), .nils, .nils, .nils] [(0, d), (1, j), (2, l), (3, g)] h) fun k h1 =>
(yq h1 k))
 (ob (y9 .eql a (AV.str [83, 116, 114, 105, 110, 103])) fun c =>
cnd c
 (ob (y12 [(.int .i64 0), (.str []), (.str []), (.int .i64 0), (.int .i64 0), .nils, .nils, .nils] [(1, 1, (AV.str [108, 101, 110, 103, 116, 104])), (2, 1, (AV.str [40, 41, 73]))]) fun e =>
ob (y12 [(.int .i64 0), (.str []), (.str []), (.int .i64 0), (.int .i64 0), .nils, .nils, .nils] [(1, 1, (AV.str [99, 104, 97, 114, 65, 116])), (2, 1, (AV.str [40, 73, 41, 73]))]) fun i =>
oh (y19 0 (some 1) 8 2 [(.int .i64 0), (.str []), (.str []), (.int .i64 0), (.int .i64 0), .nils, .nils, .nils] [(0, e), (1, i)] h) fun b h2 =>
(yq h2 b))
 ((y1ax h)))
def y1aa (s : St) : OX := y158 (s 0) s.h
theorem yzz : T0 yr3 [.t 2] y1aa := sq y07 fun _ => by kernel_rfl
def y19k (a : AV) (h : Heap) : OX :=
(y158 a h)
def y1c2 (s : St) : OX := y19k (s 0) s.h
theorem y12h : T0 yqo [.t 2] y1c2 := sq yzz fun _ => by kernel_rfl
@[simp] theorem y1ex : E.pure 43 = true := rfl
theorem y1eh (a : AV) : (y6 E).p 43 [a] = y19k a [⟨0, .dead⟩, ⟨0, .dead⟩] :=
  (y3c (cf := y1c1) (by kernel_rfl) rfl).trans ((y12h _).trans (by kernel_rfl))
def q6_1 (h : Heap) : OX :=
(yq h (.bool true))
def yax (s : St) : OX := q6_1 s.h
theorem y14w : T0 y145 [.t 4] yax := fun _ => by kernel_rfl
def yuh (d a b c : AV) (h : Heap) : OX :=
  W E 0 yhw ⟨[(1, d), (17, a), (18, b), (19, c)], h⟩ yax (y5 0 yax xN) (finP [.t 4])
def yb8 (s : St) : OX := yuh (s 1) (s 17) (s 18) (s 19) s.h
theorem ykm : T1 yhw yax (y5 0 yax xN) [.t 4] yb8 := fun s => yt.trans (by kernel_rfl)
def q6_3 (c a b d : AV) (h : Heap) : OX :=
ob (y9 .add d (.int .i64 1)) fun e =>
(yuh c a b e h)
def y1gg (s : St) : OX := q6_3 (s 1) (s 17) (s 18) (s 19) s.h
theorem y18n : T1 y13k yb8 (y5 0 yax xN) [.t 4] y1gg := fun _ => by kernel_rfl
def q6_4 (r o v p : AV) (h : Heap) : OX :=
ob (y21 1 o p) fun K =>
ob (evLd false 1 K h) fun a =>
ob (y9 .geq a (.int .u8 97)) fun k =>
gb k true (some a) fun Y =>
gb k true (y9 .leq Y (.int .u8 122)) fun x =>
ob (yk k x (.bool false)) fun b =>
gb b false (some a) fun M =>
gb b false (y9 .geq M (.int .u8 65)) fun C =>
gb b false (some C) fun j =>
gb j true (some a) fun H =>
gb j true (y9 .leq H (.int .u8 90)) fun B =>
gb b false (yk j B (.bool false)) fun L =>
ob (yk b (.bool true) L) fun e =>
gb e false (some a) fun S =>
gb e false (y9 .geq S (.int .u8 48)) fun w =>
gb e false (some w) fun i =>
gb i true (some a) fun y =>
gb i true (y9 .leq y (.int .u8 57)) fun R =>
gb e false (yk i R (.bool false)) fun J =>
ob (yk e (.bool true) J) fun g =>
gb g false (some a) fun G =>
gb g false (y9 .eql G (.int .u8 95)) fun O =>
ob (yk g (.bool true) O) fun n =>
gb n false (some a) fun V =>
gb n false (y9 .eql V (.int .u8 36)) fun P =>
ob (yk n (.bool true) P) fun m =>
gb m false (some a) fun F =>
gb m false (y9 .eql F (.int .u8 47)) fun N =>
ob (yk m (.bool true) N) fun Z =>
ob (evUn .not Z) fun c =>
gb c true (some r) fun t =>
gb c true (some t) fun d =>
gb d true (some a) fun Q =>
gb d true (y9 .eql Q (.int .u8 60)) fun I =>
gb d true (some I) fun l =>
gb l false (some a) fun D =>
gb l false (y9 .eql D (.int .u8 62)) fun A =>
gb d true (yk l (.bool true) A) fun u =>
gb c true (yk d u (.bool false)) fun z =>
gb c true (evUn .not z) fun U =>
ob (yk c U (.bool false)) fun X =>
cnd X
 ((yq h (.bool false)))
 ((q6_3 r o v p h))
def y1fh (s : St) : OX := q6_4 (s 1) (s 17) (s 18) (s 19) s.h
theorem y16l : T1 y13t yb8 (y5 0 yax xN) [.t 4] y1fh := sq y18n fun _ => by kernel_rfl
def q6_5 (d a b e c : AV) (h : Heap) : OX :=
cnd c
 ((q6_4 d a b e h))
 ((q6_1 h))
def y1fo (s : St) : OX := q6_5 (s 1) (s 17) (s 18) (s 19) (s 20) s.h
theorem y15n : T1 y142 yb8 (y5 0 yax xN) [.t 4] y1fo := sq y16l fun _ => by kernel_rfl
def q6_6 (e c a b : AV) (h : Heap) : OX :=
ob (y9 .lss b a) fun d =>
(q6_5 e c a b d h)
def y1f6 (s : St) : OX := q6_6 (s 1) (s 17) (s 18) (s 19) s.h
theorem y17p : T1 y146 yb8 (y5 0 yax xN) [.t 4] y1f6 := sq y15n fun _ => by kernel_rfl
theorem ylm (d a b c : AV) (h : Heap) : yuh d a b c h = (q6_6 d a b c h) :=
  y3g.trans ((y2i _ _ _ (n' := yb8) (fun s => ykm s)).trans ((y17p _).trans (by kernel_rfl)))
theorem y15s : T1 y13n yax xN [.t 4] yb8 := fun s => y1h.trans (ykm s)
def q6_8 (d c : AV) (h : Heap) : OX :=
oh (s2bC 0 (some 0) d h) fun a h1 =>
ob (y1t 1 a h1) fun b =>
(yuh c a b (.int .i64 0) h1)
def y1dg (s : St) : OX := q6_8 (s 0) (s 1) s.h
theorem y178 : T1 y13o yax xN [.t 4] y1dg := sq y15s fun _ => by kernel_rfl
theorem y18w : T0 y138 [.t 4] y1dg := sq y14w y178
def y15h (b j : AV) (h : Heap) : OX :=
ob (y1t 0 b h) fun g =>
ob (y9 .lss g (.int .i64 1)) fun a =>
gb a false (some b) fun d =>
gb a false (y1t 0 d h) fun e =>
gb a false (y9 .gtr e (.int .i64 60)) fun i =>
ob (yk a (.bool true) i) fun c =>
cnd c
 ((yq h (.bool false)))
 ((q6_8 b j h))
def y1c0 (s : St) : OX := y15h (s 0) (s 1) s.h
theorem y12b : T0 yxi [.t 4] y1c0 := sq y18w fun _ => by kernel_rfl
def y16s (b a : AV) (h : Heap) : OX :=
(y15h b a h)
def y1cs (s : St) : OX := y16s (s 0) (s 1) s.h
theorem y114 : T0 yuv [.t 4] y1cs := sq y12b fun _ => by kernel_rfl
@[simp] theorem y1ej : E.pure 60 = true := rfl
theorem x_q6 (b a : AV) : (y6 E).p 60 [b, a] = y16s b a [⟨0, .dead⟩] :=
  (y3c (cf := c_q6) (by kernel_rfl) rfl).trans ((y114 _).trans (by kernel_rfl))
def y01 (h : Heap) : OX :=
(yq h (.bool true))
def y2e (s : St) : OX := y01 s.h
theorem y11w : T0 yyv [.t 4] y2e := fun _ => by kernel_rfl
def yfm (e c a d b : AV) (h : Heap) : OX :=
  W E 0 yes ⟨[(0, e), (3, c), (55, a), (56, d), (57, b)], h⟩ y2e (y5 0 y2e xN) (finP [.t 4])
def y7l (s : St) : OX := yfm (s 0) (s 3) (s 55) (s 56) (s 57) s.h
theorem yga : T1 yes y2e (y5 0 y2e xN) [.t 4] y7l := fun s => yt.trans (by kernel_rfl)
def yzp (g c a d b : AV) (h : Heap) : OX :=
ob (y9 .add b (.int .i64 1)) fun e =>
(yfm g c a d e h)
def y1v (s : St) : OX := yzp (s 0) (s 3) (s 55) (s 56) (s 57) s.h
theorem y0h : T1 yw2 y7l (y5 0 y2e xN) [.t 4] y1v := fun _ => by kernel_rfl
def yfw (k d e a i c g j b : AV) (h : Heap) : OX :=
  W E 0 yez ⟨[(0, k), (3, d), (9, e), (55, a), (56, i), (57, c), (82, g), (83, j), (84, b)], h⟩ y1v (y5 2 y1v (y5 1 y1v (y5 0 y2e xN))) (finP [.t 4])
def y7r (s : St) : OX := yfw (s 0) (s 3) (s 9) (s 55) (s 56) (s 57) (s 82) (s 83) (s 84) s.h
theorem yh9 : T1 yez y1v (y5 2 y1v (y5 1 y1v (y5 0 y2e xN))) [.t 4] y7r := fun s => yt.trans (by kernel_rfl)
def y197 (l e g a j c i k b : AV) (h : Heap) : OX :=
ob (y9 .add b (.int .i64 1)) fun d =>
(yfw l e g a j c i k d h)
def y1an (s : St) : OX := y197 (s 0) (s 3) (s 9) (s 55) (s 56) (s 57) (s 82) (s 83) (s 84) s.h
theorem y113 : T1 yuk y7r (y5 2 y1v (y5 1 y1v (y5 0 y2e xN))) [.t 4] y1an := fun _ => by kernel_rfl
def y18y (n i b d l e c m a : AV) (h : Heap) : OX :=
ob (y21 1 c a) fun j =>
ob (evLd false 1 j h) fun k =>
ob (y9 .eql k b) fun g =>
cnd g
 ((yq h (.bool false)))
 ((y197 n i b d l e c m a h))
def y1bk (s : St) : OX := y18y (s 0) (s 3) (s 9) (s 55) (s 56) (s 57) (s 82) (s 83) (s 84) s.h
theorem y11f : T1 ysm y7r (y5 2 y1v (y5 1 y1v (y5 0 y2e xN))) [.t 4] y1bk := sq y113 fun _ => by kernel_rfl
def y11l (e c i a d b j k g l : AV) (h : Heap) : OX :=
cnd l
 ((y18y e c i a d b j k g h))
 ((yzp e c a d b h))
def y1bf (s : St) : OX := y11l (s 0) (s 3) (s 9) (s 55) (s 56) (s 57) (s 82) (s 83) (s 84) (s 85) s.h
theorem y111 : T1 ypv y7r (y5 2 y1v (y5 1 y1v (y5 0 y2e xN))) [.t 4] y1bf := sq y11f fun _ => by kernel_rfl
def y119 (l e g c j d i b a : AV) (h : Heap) : OX :=
ob (y9 .lss a b) fun k =>
(y11l l e g c j d i b a k h)
def y1ct (s : St) : OX := y119 (s 0) (s 3) (s 9) (s 55) (s 56) (s 57) (s 82) (s 83) (s 84) s.h
theorem yze : T1 yuo y7r (y5 2 y1v (y5 1 y1v (y5 0 y2e xN))) [.t 4] y1ct := sq y111 fun _ => by kernel_rfl
theorem yff (k d e a i c g j b : AV) (h : Heap) : yfw k d e a i c g j b h = (y119 k d e a i c g j b h) :=
  y3g.trans ((y2i _ _ _ (n' := y7r) (fun s => yh9 s)).trans ((yze _).trans (by kernel_rfl)))
theorem y0q : T1 yr8 y1v (y5 1 y1v (y5 0 y2e xN)) [.t 4] y7r := fun s => y1h.trans (yh9 s)
def yxz (m a l i c j d : AV) (h : Heap) : OX :=
ob (evFa 3 a) fun e =>
ob (evLd false 1 e h) fun g =>
ob (yfn 1 g none (some l)) fun b =>
ob (y1t 1 b h) fun k =>
(yfw m a i c j d b k (.int .i64 0) h)
def y14d (s : St) : OX := yxz (s 0) (s 3) (s 8) (s 9) (s 55) (s 56) (s 57) s.h
theorem yyy : T1 yl7 y1v (y5 1 y1v (y5 0 y2e xN)) [.t 4] y14d := sq y0q fun _ => by kernel_rfl
def ykb (r g p i o m c k d : AV) (h : Heap) : OX :=
ob (evUn .not m) fun a =>
gb a false (evFa 0 o) fun b =>
gb a false (evLd false 1 b h) fun n =>
gb a false (y9 .and n (.int .i64 512)) fun j =>
gb a false (y9 .eql j (.int .i64 0)) fun e =>
ob (yk a (.bool true) e) fun l =>
cnd l
 ((yq h (.bool false)))
 ((yxz r g p i c k d h))
def y15c (s : St) : OX := ykb (s 0) (s 3) (s 8) (s 9) (s 10) (s 11) (s 55) (s 56) (s 57) s.h
theorem yy9 : T1 yjk y1v (y5 1 y1v (y5 0 y2e xN)) [.t 4] y15c := sq yyy fun _ => by kernel_rfl
def yz5 (d m p a i o j : AV) (h : Heap) : OX :=
ob (yn d) fun e =>
ob (evFa 0 e) fun g =>
ob (evLd false 1 g h) fun n =>
ob (y16 false [2] (.agg [(.int .i64 0), (.str []), (.str []), .nils, .nils, .nils, .nils]) true n a h) fun b =>
ob (y4u 0 b) fun k =>
ob (y4u 1 b) fun l =>
oh (newC 0 (some 2) [(.int .i64 0), (.str []), (.str []), .nils, .nils, .nils, .nils] h) fun c h1 =>
oh (evSt 7 c k h1) fun _ h2 =>
(ykb d m p a c l i o j h2)
def y193 (s : St) : OX := yz5 (s 0) (s 3) (s 8) (s 9) (s 55) (s 56) (s 57) s.h
theorem ywb : T1 ynn y1v (y5 1 y1v (y5 0 y2e xN)) [.t 4] y193 := sq yy9 fun _ => by kernel_rfl
def yxx (i e b g a : AV) (h : Heap) : OX :=
ob (y21 1 b a) fun c =>
ob (evLd false 1 c h) fun d =>
(yz5 i e a d b g a h)
def yhq (s : St) : OX := yxx (s 0) (s 3) (s 55) (s 56) (s 57) s.h
theorem yqu : T1 yo6 y1v (y5 1 y1v (y5 0 y2e xN)) [.t 4] yhq := sq ywb fun _ => by kernel_rfl
theorem yq9 : T1 yln y1v (y5 0 y2e xN) [.t 4] yhq := fun s => y1h.trans (yqu s)
theorem ytb : T1 yjb y7l (y5 0 y2e xN) [.t 4] yhq := sq y0h yq9
def ygt (g d a e b c : AV) (h : Heap) : OX :=
cnd c
 ((yxx g d a e b h))
 ((y01 h))
def y196 (s : St) : OX := ygt (s 0) (s 3) (s 55) (s 56) (s 57) (s 58) s.h
theorem yu8 : T1 yk4 y7l (y5 0 y2e xN) [.t 4] y196 := sq ytb fun _ => by kernel_rfl
def yfh (g e c b a : AV) (h : Heap) : OX :=
ob (y9 .lss a b) fun d =>
(ygt g e c b a d h)
def y179 (s : St) : OX := yfh (s 0) (s 3) (s 55) (s 56) (s 57) s.h
theorem yst : T1 ynr y7l (y5 0 y2e xN) [.t 4] y179 := sq yu8 fun _ => by kernel_rfl
theorem yco (e c a d b : AV) (h : Heap) : yfm e c a d b h = (yfh e c a d b h) :=
  y3g.trans ((y2i _ _ _ (n' := y7l) (fun s => yga s)).trans ((yst _).trans (by kernel_rfl)))
theorem ytv : T1 ymj y2e xN [.t 4] y7l := fun s => y1h.trans (yga s)
def yns (e b : AV) (h : Heap) : OX :=
ob (evFa 3 b) fun c =>
ob (evLd false 1 c h) fun a =>
ob (y1t 1 a h) fun d =>
(yfm e b a d (.int .i64 0) h)
def yx0 (s : St) : OX := yns (s 0) (s 3) s.h
theorem yxv : T1 yl0 y2e xN [.t 4] yx0 := sq ytv fun _ => by kernel_rfl
theorem yv3 : T0 yjf [.t 4] yx0 := sq y11w yxv
def ynv (D c t u C : AV) (h : Heap) : OX :=
ob (evUn .not u) fun a =>
gb a false (evFa 0 t) fun l =>
gb a false (evLd false 1 l h) fun p =>
gb a false (y9 .and p (.int .i64 512)) fun m =>
gb a false (y9 .neq m (.int .i64 0)) fun k =>
ob (yk a (.bool true) k) fun e =>
gb e false (evFa 2 c) fun r =>
gb e false (evLd false 1 r h) fun y =>
gb e false (y9 .eql y (AV.str [83, 116, 114, 105, 110, 103])) fun j =>
ob (yk e (.bool true) j) fun b =>
gb b false (evFa 2 c) fun x =>
gb b false (evLd false 1 x h) fun n =>
gb b false (y9 .eql n (AV.str [83, 121, 115])) fun i =>
ob (yk b (.bool true) i) fun d =>
gb d false (some C) fun v =>
gb d false (some v) fun g =>
gb g true (evFa 2 c) fun B =>
gb g true (evLd false 1 B h) fun A =>
gb g true (y9 .neq A (AV.str [79, 98, 106, 101, 99, 116])) fun w =>
gb d false (yk g w (.bool false)) fun z =>
ob (yk d (.bool true) z) fun o =>
cnd o
 ((yq h (.bool false)))
 ((yns D c h))
def y18j (s : St) : OX := ynv (s 0) (s 3) (s 5) (s 6) (s 7) s.h
theorem ys7 : T0 yn2 [.t 4] y18j := sq yv3 fun _ => by kernel_rfl
def yk5 (g a j b : AV) (h : Heap) : OX :=
ob (evFa 0 a) fun d =>
ob (evLd false 1 d h) fun i =>
ob (y9 .and i (.int .i64 512)) fun e =>
ob (y9 .neq e (.int .i64 0)) fun c =>
(ynv g a j b c h)
def y17h (s : St) : OX := yk5 (s 0) (s 3) (s 5) (s 6) s.h
theorem yvv : T0 yjr [.t 4] y17h := sq ys7 fun _ => by kernel_rfl
def yr0 (i d : AV) (h : Heap) : OX :=
ob (yn i) fun l =>
ob (evFa 0 l) fun b =>
ob (evLd false 1 b h) fun c =>
ob (evFa 2 d) fun g =>
ob (evLd false 1 g h) fun k =>
ob (y16 false [2] (.agg [(.int .i64 0), (.str []), (.str []), .nils, .nils, .nils, .nils]) true c k h) fun e =>
ob (y4u 0 e) fun m =>
ob (y4u 1 e) fun j =>
oh (newC 0 (some 1) [(.int .i64 0), (.str []), (.str []), .nils, .nils, .nils, .nils] h) fun a h3 =>
oh (evSt 7 a m h3) fun _ h4 =>
okK (y44 [([], []), ([], []), ([], []), (ids1 b, []), ([], []), (ids1 g, []), (ids1 c, []), ([], []), ([], []), ([], []), ([], [0 + 1]), ([], ids1 a), ([], [])] [(3, 10), (5, 10), (6, 10)]) <|
(yk5 i d a j h4)
def y173 (s : St) : OX := yr0 (s 0) (s 3) s.h
theorem yyh : T0 ymc [.t 4] y173 := sq yvv fun _ => by kernel_rfl
def yra (c b : AV) (h : Heap) : OX :=
oh (newC 0 (some 0) (cellsOf b) h) fun a h5 =>
(yr0 c a h5)
def y17r (s : St) : OX := yra (s 0) (s 1) s.h
theorem yrr : T0 ylo [.t 4] y17r := sq yyh fun _ => by kernel_rfl
@[simp] theorem y1fa : E.pure 61 = true := rfl
theorem y1f9 (b a : AV) : (y6 E).p 61 [b, a] = yra b a [⟨0, .dead⟩, ⟨0, .dead⟩, ⟨0, .dead⟩] :=
  (y3c (cf := y1d1) (by kernel_rfl) rfl).trans ((yrr _).trans (by kernel_rfl))
def ywh (fb : Nat) (g d c : AV) (h : Heap) : Option (AV × Heap) :=
ob (yn g) fun e =>
ob (evFa 2 e) fun a =>
ob (evLd false 1 a h) fun b =>
oh (y3z false [2] b d c h) fun _ h1 =>
(some ((.bool true), h1))
def y4a (fb : Nat) (s : St) : Option (AV × Heap) := ywh fb (s 0) (s 1) (s 7) s.h
theorem y11g (fb : Nat) (s : St) : W E fb yx3 s (finI [.t 6]) xN (finI [.t 6]) = y4a fb s :=
  by kernel_rfl
def ycw (fb : Nat) (i d g c e a b : AV) (h : Heap) : Option (AV × Heap) :=
  W E fb yex ⟨[(0, i), (1, d), (2, g), (7, c), (45, e), (46, a), (47, b)], h⟩ (y4a fb) (y5 0 (y4a fb) xN) (finI [.t 6])
def y6t (fb : Nat) (s : St) : Option (AV × Heap) := ycw fb (s 0) (s 1) (s 2) (s 7) (s 45) (s 46) (s 47) s.h
theorem yh0 (fb : Nat) (s : St) : W E fb yex s (y4a fb) (y5 0 (y4a fb) xN) (finI [.t 6]) = y6t fb s := yt.trans (by kernel_rfl)
def y18v (fb : Nat) (j e i d g b c : AV) (h : Heap) : Option (AV × Heap) :=
ob (y9 .add c (.int .i64 1)) fun a =>
(ycw fb j e i d g b a h)
def y7b (fb : Nat) (s : St) : Option (AV × Heap) := y18v fb (s 0) (s 1) (s 2) (s 7) (s 45) (s 46) (s 47) s.h
theorem y12r (fb : Nat) (s : St) : W E fb ytu s (y6t fb) (y5 0 (y4a fb) xN) (finI [.t 6]) = y7b fb s :=
  by kernel_rfl
def y14l (fb : Nat) (b a : AV) (h : Heap) : Option Heap :=
oh (y3z false [2] b a (.bool true) h) fun _ h2 =>
(some (killAll fb [] h2))
def y1b9 (fb : Nat) (s : St) : Option Heap := y14l fb (s 7) (s 12) s.h
theorem y12l (fb : Nat) (s : St) : W E fb yz4 s (fun s3 => some (killAll fb [] s3.h)) xN (fun _ => none) = y1b9 fb s :=
  by kernel_rfl
def y19q (fb : Nat) (b c o a m n e k : AV) (h : Heap) : Option (AV × Heap) :=
ob (yn b) fun d =>
ob (evFa 2 d) fun g =>
ob (evLd false 1 g h) fun i =>
ob (y16 false [2] .nilm false i m h) fun j =>
orm j (fun q h3 =>
ob (y4u 0 (AV.tup [q.1, q.2])) fun l =>
(y14l fb a l h3)) h fun h4 =>
(y18v fb b c o a n e k h4)
def y13h (fb : Nat) (s : St) : Option (AV × Heap) := y19q fb (s 0) (s 1) (s 2) (s 7) (s 11) (s 45) (s 46) (s 47) s.h
theorem y128 (fb : Nat) (s : St) : W E fb ysw s (y7b fb) (y5 1 (y7b fb) (y5 0 (y4a fb) xN)) (finI [.t 6]) = y13h fb s :=
  (yt6 (nk := (y7b fb)) (fun s2 => y12l fb s2) (fun s => rfl)).trans (by kernel_rfl)
def y18r (fb : Nat) (c g b k a l i j : AV) (h : Heap) : Option (AV × Heap) :=
oh (y7 E (y6 E) fb none false 62 [c, a, b] h) fun e h5 =>
ob (evUn .not e) fun d =>
cnd d
 ((some ((.bool false), h5)))
 ((y19q fb c g b k a l i j h5))
def y13g (fb : Nat) (s : St) : Option (AV × Heap) := y18r fb (s 0) (s 1) (s 2) (s 7) (s 11) (s 45) (s 46) (s 47) s.h
theorem y04 (fb : Nat) (s : St) : W E fb yrf s (y7b fb) (y5 1 (y7b fb) (y5 0 (y4a fb) xN)) (finI [.t 6]) = y13g fb s :=
  (y79 (k := (y13h fb)) (fun s => y128 fb s)).trans (by kernel_rfl)
def y14v (fb : Nat) (k i j g b c a : AV) (h : Heap) : Option (AV × Heap) :=
ob (y21 1 b a) fun e =>
ob (evLd false 1 e h) fun d =>
(y18r fb k i j g d b c a h)
def yn0 (fb : Nat) (s : St) : Option (AV × Heap) := y14v fb (s 0) (s 1) (s 2) (s 7) (s 45) (s 46) (s 47) s.h
theorem y12c (fb : Nat) (s : St) : W E fb ysp s (y7b fb) (y5 1 (y7b fb) (y5 0 (y4a fb) xN)) (finI [.t 6]) = yn0 fb s :=
  (y79 (k := (y13g fb)) (fun s => y04 fb s)).trans (by kernel_rfl)
theorem y0n (fb : Nat) (s : St) : W E fb yqc s (y7b fb) (y5 0 (y4a fb) xN) (finI [.t 6]) = yn0 fb s :=
  y1h.trans (y12c fb s)
theorem y12n (fb : Nat) (s : St) : W E fb yuf s (y6t fb) (y5 0 (y4a fb) xN) (finI [.t 6]) = yn0 fb s :=
  (y79 (k := (y7b fb)) (fun s => y12r fb s)).trans (y0n fb s)
def yj9 (fb : Nat) (c b j a i d e g : AV) (h : Heap) : Option (AV × Heap) :=
cnd g
 ((y14v fb c b j a i d e h))
 ((ywh fb c b a h))
def ywp (fb : Nat) (s : St) : Option (AV × Heap) := yj9 fb (s 0) (s 1) (s 2) (s 7) (s 45) (s 46) (s 47) (s 48) s.h
theorem yv4 (fb : Nat) (s : St) : W E fb yma s (y6t fb) (y5 0 (y4a fb) xN) (finI [.t 6]) = ywp fb s :=
  (y79 (k := (yn0 fb)) (fun s => y12n fb s)).trans (by kernel_rfl)
def yn5 (fb : Nat) (j e i d g a b : AV) (h : Heap) : Option (AV × Heap) :=
ob (y9 .lss b a) fun c =>
(yj9 fb j e i d g a b c h)
def y16c (fb : Nat) (s : St) : Option (AV × Heap) := yn5 fb (s 0) (s 1) (s 2) (s 7) (s 45) (s 46) (s 47) s.h
theorem yv7 (fb : Nat) (s : St) : W E fb yl9 s (y6t fb) (y5 0 (y4a fb) xN) (finI [.t 6]) = y16c fb s :=
  (y79 (k := (ywp fb)) (fun s => yv4 fb s)).trans (by kernel_rfl)
theorem yh7 (fb : Nat) (i d g c e a b : AV) (h : Heap) : ycw fb i d g c e a b h = (yn5 fb i d g c e a b h) :=
  y3g.trans ((y2i _ _ _ (n' := (y6t fb)) (fun s => yh0 fb s)).trans ((yv7 fb _).trans (by kernel_rfl)))
theorem yu5 (fb : Nat) (s : St) : W E fb ylb s (y4a fb) xN (finI [.t 6]) = y6t fb s :=
  y1h.trans (yh0 fb s)
def ygo (fb : Nat) (g d e c a : AV) (h : Heap) : Option (AV × Heap) :=
ob (y1t 1 a h) fun b =>
(ycw fb g d e c a b (.int .i64 0) h)
def yj6 (fb : Nat) (s : St) : Option (AV × Heap) := ygo fb (s 0) (s 1) (s 2) (s 7) (s 9) s.h
theorem yxr (fb : Nat) (s : St) : W E fb ynw s (y4a fb) xN (finI [.t 6]) = yj6 fb s :=
  (y79 (k := (y6t fb)) (fun s => yu5 fb s)).trans (by kernel_rfl)
theorem yv8 (fb : Nat) (s : St) : W E fb yo5 s (finI [.t 6]) xN (finI [.t 6]) = yj6 fb s :=
  (y79 (k := (y4a fb)) (fun s => y11g fb s)).trans (yxr fb s)
def ypo (fb : Nat) (g c e b d a : AV) (h : Heap) : Option (AV × Heap) :=
ob (evFa 2 d) fun j =>
ob (evLd false 1 j h) fun i =>
ob (y9 .neq i (AV.str [])) fun l =>
cnd l
 (ob (evFa 2 d) fun m =>
ob (evLd false 1 m h) fun o =>
oh (y19 fb (some 3) 1 1 [(.str [])] [(0, o)] h) fun n h6 =>
oh (y2d fb (some 4) 1 16 a n h6) fun k h7 =>
(ygo fb g c e b k h7))
 ((ygo fb g c e b a h))
def ywn (fb : Nat) (s : St) : Option (AV × Heap) := ypo fb (s 0) (s 1) (s 2) (s 7) (s 8) (s 9) s.h
theorem yyp (fb : Nat) (s : St) : W E fb ynu s (finI [.t 6]) xN (finI [.t 6]) = ywn fb s :=
  (y79 (k := (yj6 fb)) (fun s => yv8 fb s)).trans (by kernel_rfl)
def ymh (fb : Nat) (j d i c a : AV) (h : Heap) : Option (AV × Heap) :=
ob (evFa 3 a) fun e =>
ob (evLd false 1 e h) fun g =>
oh (y2d fb (some 2) 1 16 AV.nils g h) fun b h8 =>
(ypo fb j d i c a b h8)
def yty (fb : Nat) (s : St) : Option (AV × Heap) := ymh fb (s 0) (s 1) (s 2) (s 7) (s 8) s.h
theorem ytp (fb : Nat) (s : St) : W E fb ylv s (finI [.t 6]) xN (finI [.t 6]) = yty fb s :=
  (y79 (k := (ywn fb)) (fun s => yyp fb s)).trans (by kernel_rfl)
def yu4 (fb : Nat) (c b k e : AV) (h : Heap) : Option (AV × Heap) :=
ob (yn c) fun j =>
ob (evFa 0 j) fun i =>
ob (evLd false 1 i h) fun g =>
ob (y16 false [2] (.agg [(.int .i64 0), (.str []), (.str []), .nils, .nils, .nils, .nils]) false g b h) fun d =>
oh (newC fb (some 1) [(.int .i64 0), (.str []), (.str []), .nils, .nils, .nils, .nils] h) fun a h9 =>
oh (evSt 7 a d h9) fun _ h10 =>
(ymh fb c b k e a h10)
def yti (fb : Nat) (s : St) : Option (AV × Heap) := yu4 fb (s 0) (s 1) (s 2) (s 7) s.h
theorem yrd (fb : Nat) (s : St) : W E fb ylc s (finI [.t 6]) xN (finI [.t 6]) = yti fb s :=
  (y79 (k := (yty fb)) (fun s => ytp fb s)).trans (by kernel_rfl)
def yrh (fb : Nat) (d b c : AV) (h : Heap) : Option (AV × Heap) :=
oh (mkmC fb (some 0) h) fun a h11 =>
oh (y3z false [2] a b (.bool true) h11) fun _ h12 =>
(yu4 fb d b c a h12)
def ytw (fb : Nat) (s : St) : Option (AV × Heap) := yrh fb (s 0) (s 1) (s 2) s.h
theorem ys5 (fb : Nat) (s : St) : W E fb ynd s (finI [.t 6]) xN (finI [.t 6]) = ytw fb s :=
  (y79 (k := (yti fb)) (fun s => yrd fb s)).trans (by kernel_rfl)
def yu2 (fb : Nat) (c b a : AV) (h : Heap) : Option (AV × Heap) :=
oh (y3z false [2] a b (.bool true) h) fun _ h13 =>
(yrh fb c b a h13)
def yub (fb : Nat) (s : St) : Option (AV × Heap) := yu2 fb (s 0) (s 1) (s 2) s.h
theorem ywd (fb : Nat) (s : St) : W E fb yme s (finI [.t 6]) xN (finI [.t 6]) = yub fb s :=
  (y79 (k := (ytw fb)) (fun s => ys5 fb s)).trans (by kernel_rfl)
def yu0 (fb : Nat) (d b a : AV) (h : Heap) : Option (AV × Heap) :=
ob (y16 false [2] (.bool false) false a b h) fun c =>
cnd c
 ((some ((.bool false), h)))
 ((yu2 fb d b a h))
def yvl (fb : Nat) (s : St) : Option (AV × Heap) := yu0 fb (s 0) (s 1) (s 2) s.h
theorem yw4 (fb : Nat) (s : St) : W E fb yjn s (finI [.t 6]) xN (finI [.t 6]) = yvl fb s :=
  (y79 (k := (yub fb)) (fun s => ywd fb s)).trans (by kernel_rfl)
def yrq (fb : Nat) (b a j : AV) (h : Heap) : Option (AV × Heap) :=
ob (yn b) fun g =>
ob (evFa 2 g) fun c =>
ob (evLd false 1 c h) fun i =>
ob (y16 false [2] .nilm false i a h) fun d =>
ob (y66 2 true d AV.nilm) fun e =>
cnd e
 ((some ((.bool true), h)))
 ((yu0 fb b a j h))
def yx4 (fb : Nat) (s : St) : Option (AV × Heap) := yrq fb (s 0) (s 1) (s 2) s.h
theorem yr9 (fb : Nat) (s : St) : W E fb yk2 s (finI [.t 6]) xN (finI [.t 6]) = yx4 fb s :=
  (y79 (k := (yvl fb)) (fun s => yw4 fb s)).trans (by kernel_rfl)
def ynq (fb : Nat) (c b a : AV) (h : Heap) : Option (AV × Heap) :=
(yrq fb c b a h)
def y17q (fb : Nat) (s : St) : Option (AV × Heap) := ynq fb (s 0) (s 1) (s 2) s.h
theorem yu6 (fb : Nat) (s : St) : W E fb ynk s (finI [.t 6]) xN (finI [.t 6]) = y17q fb s :=
  (y79 (k := (yx4 fb)) (fun s => yr9 fb s)).trans (by kernel_rfl)
@[simp] theorem y1gd : E.pure 62 = false := rfl
theorem y1f4 (fb : Nat) (c b a : AV) (h : Heap) : (y6 E).i 62 [c, b, a] fb h = ynq fb c b a (if fb = h.length then h ++ yg 5 else h) :=
  (y182 (cf := y1bt) (by kernel_rfl) rfl).trans ((yu6 fb _).trans (by kernel_rfl))
def q5_1 (h : Heap) : OX :=
(yq h (.int .i64 0))
def y1g0 (s : St) : OX := q5_1 s.h
theorem y19j : T0 y133 [.t 2] y1g0 := fun _ => by kernel_rfl
def q5_2 (b : AV) (h : Heap) : OX :=
ob (y9 .eql b (AV.str [73])) fun u =>
cnd u
 ((yq h (.int .i64 1)))
 (ob (y9 .eql b (AV.str [74])) fun r =>
cnd r
 ((yq h (.int .i64 2)))
 (ob (y9 .eql b (AV.str [78])) fun c =>
gb c false (some b) fun p =>
gb c false (y9 .neq p (AV.str [])) fun m =>
gb c false (some m) fun a =>
gb a true (some b) fun n =>
gb a true (y3l n (.int .i64 0)) fun e =>
gb a true (y9 .eql e (.int .u8 76)) fun i =>
gb a true (some i) fun d =>
gb d false (some b) fun j =>
gb d false (y3l j (.int .i64 0)) fun k =>
gb d false (y9 .eql k (.int .u8 91)) fun t =>
gb a true (yk d (.bool true) t) fun g =>
gb c false (yk a g (.bool false)) fun l =>
ob (yk c (.bool true) l) fun o =>
cnd o
 ((yq h (.int .i64 3)))
 ((q5_1 h))))
def y1et (s : St) : OX := q5_2 (s 0) s.h
theorem y16e : T0 y13d [.t 2] y1et := sq y19j fun _ => by kernel_rfl
def q5_3 (a : AV) (h : Heap) : OX :=
(q5_2 a h)
def y1eu (s : St) : OX := q5_3 (s 0) s.h
theorem y16q : T0 y13i [.t 2] y1eu := sq y16e fun _ => by kernel_rfl
@[simp] theorem y1f7 : E.pure 34 = true := rfl
theorem x_q5 (a : AV) : (y6 E).p 34 [a] = q5_3 a [] :=
  (y3c (cf := c_q5) (by kernel_rfl) rfl).trans ((y16q _).trans (by kernel_rfl))
def q3_1 (h : Heap) : OX :=
(yq h (AV.str []))
def y1g3 (s : St) : OX := q3_1 s.h
theorem y186 : T0 y14a [.t 2] y1g3 := fun _ => by kernel_rfl
def q3_2 (c : AV) (h : Heap) : OX :=
ob (y1t 0 c h) fun d =>
ob (y9 .gtr d (.int .i64 2)) fun b =>
gb b true (some c) fun l =>
gb b true (y3l l (.int .i64 0)) fun o =>
gb b true (y9 .eql o (.int .u8 76)) fun k =>
ob (yk b k (.bool false)) fun a =>
gb a true (some c) fun m =>
gb a true (some d) fun e =>
gb a true (y9 .sub e (.int .i64 1)) fun p =>
gb a true (y3l m p) fun g =>
gb a true (y9 .eql g (.int .u8 59)) fun j =>
ob (yk a j (.bool false)) fun n =>
cnd n
 (ob (y9 .sub d (.int .i64 1)) fun r =>
ob (yf4 c (some (.int .i64 1)) (some r)) fun i =>
(yq h i))
 ((q3_1 h))
def y1fx (s : St) : OX := q3_2 (s 0) s.h
theorem y194 : T0 y13x [.t 2] y1fx := sq y186 fun _ => by kernel_rfl
def q3_3 (a : AV) (h : Heap) : OX :=
(q3_2 a h)
def y1ev (s : St) : OX := q3_3 (s 0) s.h
theorem y17j : T0 y141 [.t 2] y1ev := sq y194 fun _ => by kernel_rfl
@[simp] theorem y1fs : E.pure 35 = true := rfl
theorem x_q3 (a : AV) : (y6 E).p 35 [a] = q3_3 a [] :=
  (y3c (cf := c_q3) (by kernel_rfl) rfl).trans ((y17j _).trans (by kernel_rfl))
def q4_1 (h : Heap) : OX :=
(yq h (AV.str []))
def y1f2 (s : St) : OX := q4_1 s.h
theorem y16m : T0 y13l [.t 2] y1f2 := fun _ => by kernel_rfl
def q4_2 (b : AV) (h : Heap) : OX :=
ob (y1t 0 b h) fun c =>
ob (y9 .gtr c (.int .i64 1)) fun a =>
gb a true (some b) fun g =>
gb a true (y3l g (.int .i64 0)) fun j =>
gb a true (y9 .eql j (.int .u8 91)) fun e =>
ob (yk a e (.bool false)) fun i =>
cnd i
 (ob (yf4 b (some (.int .i64 1)) none) fun d =>
(yq h d))
 ((q4_1 h))
def y1gc (s : St) : OX := q4_2 (s 0) s.h
theorem y17l : T0 y13y [.t 2] y1gc := sq y16m fun _ => by kernel_rfl
def q4_3 (a : AV) (h : Heap) : OX :=
(q4_2 a h)
def y1gb (s : St) : OX := q4_3 (s 0) s.h
theorem y15g : T0 y13u [.t 2] y1gb := sq y17l fun _ => by kernel_rfl
@[simp] theorem y1fg : E.pure 36 = true := rfl
theorem x_q4 (a : AV) : (y6 E).p 36 [a] = q4_3 a [] :=
  (y3c (cf := c_q4) (by kernel_rfl) rfl).trans ((y15g _).trans (by kernel_rfl))
@[simp] theorem y1fn : E.pure 37 = true := rfl
@[simp] theorem y1f3 : E.pure 44 = true := rfl
end
end Go.Vm
