/- Functions of the machine as plain functions that go on with what follows. -/
import Derived.Test.YtkcigmgchfcpkaaAEnv
set_option linter.unusedSimpArgs false
set_option linter.unusedVariables false
set_option linter.unusedSectionVars false
namespace Go.Vm
noncomputable section
def y11f (h : Heap) : OX :=
(yo h (.bool true))
def ym (s : St) : OX := y11f s.h
theorem yzg : T0 yvv [.t 2] ym := fun _ => by kernel_rfl
def yeu (b c a d : AV) (h : Heap) : OX :=
  W E 0 ydr ⟨[(3, b), (32, c), (33, a), (34, d)], h⟩ ym (y3 0 ym xN) (finP [.t 2])
def y7h (s : St) : OX := yeu (s 3) (s 32) (s 33) (s 34) s.h
theorem yfq : T1 ydr ym (y3 0 ym xN) [.t 2] y7h := fun s => yv.trans (by kernel_rfl)
def yhu (b c e a : AV) (h : Heap) : OX :=
ob (y9 .add a (.int .i64 1)) fun d =>
(yeu b c e d h)
def yg (s : St) : OX := yhu (s 3) (s 32) (s 33) (s 34) s.h
theorem yxv : T1 yro y7h (y3 0 ym xN) [.t 2] yg := fun _ => by kernel_rfl
def yd9 (g a b i j c d k e : AV) (h : Heap) : OX :=
  W E 0 yea ⟨[(3, g), (6, a), (10, b), (32, i), (33, j), (34, c), (93, d), (94, k), (95, e)], h⟩ yg (y3 4 yg (y3 1 yg (y3 0 ym xN))) (finP [.t 2])
def y7e (s : St) : OX := yd9 (s 3) (s 6) (s 10) (s 32) (s 33) (s 34) (s 93) (s 94) (s 95) s.h
theorem ygp : T1 yea yg (y3 4 yg (y3 1 yg (y3 0 ym xN))) [.t 2] y7e := fun s => yv.trans (by kernel_rfl)
def ynb (g a b i j c d l e : AV) (h : Heap) : OX :=
ob (y9 .add e (.int .i64 1)) fun k =>
(yd9 g a b i j c d l k h)
def y23 (s : St) : OX := ynb (s 3) (s 6) (s 10) (s 32) (s 33) (s 34) (s 93) (s 94) (s 95) s.h
theorem yzq : T1 yuz y7e (y3 4 yg (y3 1 yg (y3 0 ym xN))) [.t 2] y23 := fun _ => by kernel_rfl
def yfb (i a b j l c e m g n d k : AV) (h : Heap) : OX :=
  W E 0 ye6 ⟨[(3, i), (6, a), (10, b), (32, j), (33, l), (34, c), (93, e), (94, m), (95, g), (103, n), (104, d), (105, k)], h⟩ y23 (y3 6 y23 (y3 5 y23 (y3 4 yg (y3 1 yg (y3 0 ym xN))))) (finP [.t 2])
def y7f (s : St) : OX := yfb (s 3) (s 6) (s 10) (s 32) (s 33) (s 34) (s 93) (s 94) (s 95) (s 103) (s 104) (s 105) s.h
theorem yf9 : T1 ye6 y23 (y3 6 y23 (y3 5 y23 (y3 4 yg (y3 1 yg (y3 0 ym xN))))) [.t 2] y7f := fun s => yv.trans (by kernel_rfl)
def y14m (i a b j m c e n g o d k : AV) (h : Heap) : OX :=
ob (y9 .add k (.int .i64 1)) fun l =>
(yfb i a b j m c e n g o d l h)
def y196 (s : St) : OX := y14m (s 3) (s 6) (s 10) (s 32) (s 33) (s 34) (s 93) (s 94) (s 95) (s 103) (s 104) (s 105) s.h
theorem yzn : T1 yq1 y7f (y3 6 y23 (y3 5 y23 (y3 4 yg (y3 1 yg (y3 0 ym xN))))) [.t 2] y196 := fun _ => by kernel_rfl
def y12p (k g d l w i v m p b j c : AV) (h : Heap) : OX :=
ob (y2m 1 b c) fun t =>
ob (evLd false 1 t h) fun e =>
ob (yy false [2] (.int .i64 0) false d e h) fun x =>
ob (y9 .neq x (.int .i64 1)) fun a =>
gb a false (some e) fun n =>
gb a false (some g) fun r =>
gb a false (y9 .eql n r) fun o =>
ob (yp a (.bool true) o) fun u =>
cnd u
 ((yo h (.bool false)))
 ((y14m k g d l w i v m p b j c h))
def y1a2 (s : St) : OX := y12p (s 3) (s 6) (s 10) (s 32) (s 33) (s 34) (s 93) (s 94) (s 95) (s 103) (s 104) (s 105) s.h
theorem yy0 : T1 yt3 y7f (y3 6 y23 (y3 5 y23 (y3 4 yg (y3 1 yg (y3 0 ym xN))))) [.t 2] y1a2 := sq yzn fun _ => by kernel_rfl
def yy6 (g a b i j c d k e o l m n : AV) (h : Heap) : OX :=
cnd n
 ((y12p g a b i j c d k e o l m h))
 ((ynb g a b i j c d k e h))
def y18r (s : St) : OX := yy6 (s 3) (s 6) (s 10) (s 32) (s 33) (s 34) (s 93) (s 94) (s 95) (s 103) (s 104) (s 105) (s 106) s.h
theorem yzc : T1 yvj y7f (y3 6 y23 (y3 5 y23 (y3 4 yg (y3 1 yg (y3 0 ym xN))))) [.t 2] y18r := sq yy0 fun _ => by kernel_rfl
def yjo (j c d k m e g n i o a b : AV) (h : Heap) : OX :=
ob (y9 .lss b a) fun l =>
(yy6 j c d k m e g n i o a b l h)
def y15k (s : St) : OX := yjo (s 3) (s 6) (s 10) (s 32) (s 33) (s 34) (s 93) (s 94) (s 95) (s 103) (s 104) (s 105) s.h
theorem ywf : T1 yjs y7f (y3 6 y23 (y3 5 y23 (y3 4 yg (y3 1 yg (y3 0 ym xN))))) [.t 2] y15k := sq yzc fun _ => by kernel_rfl
theorem yfm (i a b j l c e m g n d k : AV) (h : Heap) : yfb i a b j l c e m g n d k h = (yjo i a b j l c e m g n d k h) :=
  y3y.trans ((y2u _ _ _ (n' := y7f) (fun s => yf9 s)).trans ((ywf _).trans (by kernel_rfl)))
theorem yv7 : T1 ylz y23 (y3 5 y23 (y3 4 yg (y3 1 yg (y3 0 ym xN)))) [.t 2] y7f := fun s => y1p.trans (yf9 s)
def yvb (a d e c l m g j n k : AV) (h : Heap) : OX :=
oh (y7 E (y8 E) 0 none true 179 [a, c] h) fun b h1 =>
ob (y1j 1 b h1) fun i =>
(yfb a d e l m g j n k b i (.int .i64 0) h1)
def y14u (s : St) : OX := yvb (s 3) (s 6) (s 10) (s 14) (s 32) (s 33) (s 34) (s 93) (s 94) (s 95) s.h
theorem yq8 : T1 yly y23 (y3 5 y23 (y3 4 yg (y3 1 yg (y3 0 ym xN)))) [.t 2] y14u := sq yv7 fun _ => by kernel_rfl
def ykg (i b c a j k d e l g : AV) (h : Heap) : OX :=
ob (y9 .eql a (AV.str [])) fun m =>
cnd m
 ((ynb i b c j k d e l g h))
 ((yvb i b c a j k d e l g h))
def y11t (s : St) : OX := ykg (s 3) (s 6) (s 10) (s 14) (s 32) (s 33) (s 34) (s 93) (s 94) (s 95) s.h
theorem ypn : T1 yiy y23 (y3 5 y23 (y3 4 yg (y3 1 yg (y3 0 ym xN)))) [.t 2] y11t := sq yq8 fun _ => by kernel_rfl
def yms (g c d i j e a l b : AV) (h : Heap) : OX :=
ob (y2m 1 a b) fun m =>
ob (evLd false 1 m h) fun k =>
(ykg g c d k i j e a l b h)
def ygw (s : St) : OX := yms (s 3) (s 6) (s 10) (s 32) (s 33) (s 34) (s 93) (s 94) (s 95) s.h
theorem yq9 : T1 ylr y23 (y3 5 y23 (y3 4 yg (y3 1 yg (y3 0 ym xN)))) [.t 2] ygw := sq ypn fun _ => by kernel_rfl
theorem ysm : T1 ymw y23 (y3 4 yg (y3 1 yg (y3 0 ym xN))) [.t 2] ygw := fun s => y1p.trans (yq9 s)
theorem yqv : T1 ylk y7e (y3 4 yg (y3 1 yg (y3 0 ym xN))) [.t 2] ygw := sq yzq ysm
def yfn (b g i c d a j l k e : AV) (h : Heap) : OX :=
cnd e
 ((yms b g i c d a j l k h))
 ((yhu b c d a h))
def y11l (s : St) : OX := yfn (s 3) (s 6) (s 10) (s 32) (s 33) (s 34) (s 93) (s 94) (s 95) (s 96) s.h
theorem ypi : T1 yio y7e (y3 4 yg (y3 1 yg (y3 0 ym xN))) [.t 2] y11l := sq yqv fun _ => by kernel_rfl
def yen (j d e k l g i b a : AV) (h : Heap) : OX :=
ob (y9 .lss a b) fun c =>
(yfn j d e k l g i b a c h)
def y11a (s : St) : OX := yen (s 3) (s 6) (s 10) (s 32) (s 33) (s 34) (s 93) (s 94) (s 95) s.h
theorem ypf : T1 ymr y7e (y3 4 yg (y3 1 yg (y3 0 ym xN))) [.t 2] y11a := sq ypi fun _ => by kernel_rfl
theorem ygk (g a b i j c d k e : AV) (h : Heap) : yd9 g a b i j c d k e h = (yen g a b i j c d k e h) :=
  y3y.trans ((y2u _ _ _ (n' := y7e) (fun s => ygp s)).trans ((ypf _).trans (by kernel_rfl)))
theorem yv5 : T1 yl8 yg (y3 1 yg (y3 0 ym xN)) [.t 2] y7e := fun s => y1p.trans (ygp s)
def yik (m j e k n o l : AV) (h : Heap) : OX :=
ob (evFa 3 e) fun g =>
ob (evLd false 1 g h) fun i =>
oh (y2t 0 (some 2) 1 16 AV.nils i h) fun c h2 =>
ob (evFa 2 e) fun b =>
ob (evLd false 1 b h2) fun r =>
oh (y28 0 (some 3) 1 1 [(.str [])] [(0, r)] h2) fun d h3 =>
oh (y2t 0 (some 4) 1 16 c d h3) fun a h4 =>
ob (y1j 1 a h4) fun p =>
okK (y3d [([], []), (ids1 g, []), (ids1 i, ids1 AV.nils ++ [0 + 2]), ([], []), (ids1 b, []), ([], [0 + 3]), (ids1 d, ids1 c ++ [0 + 4]), (ids1 a, []), ([], [])] [(2, 4), (1, 5), (2, 5)]) <|
(yd9 m j k n o l a p (.int .i64 0) h4)
def y15l (s : St) : OX := yik (s 3) (s 6) (s 7) (s 10) (s 32) (s 33) (s 34) s.h
theorem yv3 : T1 yk2 yg (y3 1 yg (y3 0 ym xN)) [.t 2] y15l := sq yv5 fun _ => by kernel_rfl
def yfo (g c l b i k d : AV) (h : Heap) : OX :=
ob (yy false [2] (.int .i64 0) false b c h) fun j =>
ob (y9 .neq j (.int .i64 1)) fun a =>
gb a false (some b) fun o =>
gb a false (yy false [2] (.int .i64 0) false o (AV.str [79, 98, 106, 101, 99, 116]) h) fun e =>
gb a false (y9 .neq e (.int .i64 1)) fun m =>
ob (yp a (.bool true) m) fun n =>
cnd n
 ((yo h (.bool false)))
 ((yik g c l b i k d h))
def y4e (s : St) : OX := yfo (s 3) (s 6) (s 7) (s 10) (s 32) (s 33) (s 34) s.h
theorem yu9 : T1 yk0 yg (y3 1 yg (y3 0 ym xN)) [.t 2] y4e := sq yv3 fun _ => by kernel_rfl
def ybg (e b k a c i j d m g l : AV) (h : Heap) : OX :=
  W E 0 ybi ⟨[(3, e), (6, b), (7, k), (9, a), (10, c), (32, i), (33, j), (34, d), (55, m), (56, g), (57, l)], h⟩ y4e (y3 2 y4e (y3 1 yg (y3 0 ym xN))) (finP [.t 2])
def y5e (s : St) : OX := ybg (s 3) (s 6) (s 7) (s 9) (s 10) (s 32) (s 33) (s 34) (s 55) (s 56) (s 57) s.h
theorem ycs : T1 ybi y4e (y3 2 y4e (y3 1 yg (y3 0 ym xN))) [.t 2] y5e := fun s => yv.trans (by kernel_rfl)
def yke (e b l a c i k d n g m : AV) (h : Heap) : OX :=
ob (y9 .add m (.int .i64 1)) fun j =>
(ybg e b l a c i k d n g j h)
def y13n (s : St) : OX := yke (s 3) (s 6) (s 7) (s 9) (s 10) (s 32) (s 33) (s 34) (s 55) (s 56) (s 57) s.h
theorem yul : T1 yiz y5e (y3 2 y4e (y3 1 yg (y3 0 ym xN))) [.t 2] y13n := fun _ => by kernel_rfl
def ymb (j x r g d l y i e k b : AV) (h : Heap) : OX :=
ob (y2m 1 e b) fun v =>
ob (evLd false 1 v h) fun c =>
ob (yy false [2] (.int .i64 0) false d c h) fun m =>
ob (y9 .add m (.int .i64 1)) fun u =>
oh (y3b false [2] d c u h) fun _ h5 =>
ob (y9 .gtr b (.int .i64 0)) fun a =>
gb a true (some g) fun o =>
gb a true (some b) fun p =>
gb a true (y9 .sub p (.int .i64 1)) fun t =>
gb a true (y2m 1 o t) fun A =>
gb a true (evLd false 1 A h5) fun w =>
gb a true (some c) fun z =>
gb a true (y9 .geq w z) fun B =>
ob (yp a B (.bool false)) fun n =>
cnd n
 ((yo h5 (.bool false)))
 ((yke j x r g d l y i e k b h5))
def y16i (s : St) : OX := ymb (s 3) (s 6) (s 7) (s 9) (s 10) (s 32) (s 33) (s 34) (s 55) (s 56) (s 57) s.h
theorem yvh : T1 ylg y5e (y3 2 y4e (y3 1 yg (y3 0 ym xN))) [.t 2] y16i := sq yul fun _ => by kernel_rfl
def yg1 (d a i j b e g c n k m l : AV) (h : Heap) : OX :=
cnd l
 ((ymb d a i j b e g c n k m h))
 ((yfo d a i b e g c h))
def y16a (s : St) : OX := yg1 (s 3) (s 6) (s 7) (s 9) (s 10) (s 32) (s 33) (s 34) (s 55) (s 56) (s 57) (s 58) s.h
theorem yt0 : T1 ylq y5e (y3 2 y4e (y3 1 yg (y3 0 ym xN))) [.t 2] y16a := sq yvh fun _ => by kernel_rfl
def yep (i d l c e j k g n a b : AV) (h : Heap) : OX :=
ob (y9 .lss b a) fun m =>
(yg1 i d l c e j k g n a b m h)
def y143 (s : St) : OX := yep (s 3) (s 6) (s 7) (s 9) (s 10) (s 32) (s 33) (s 34) (s 55) (s 56) (s 57) s.h
theorem yvu : T1 yjm y5e (y3 2 y4e (y3 1 yg (y3 0 ym xN))) [.t 2] y143 := sq yt0 fun _ => by kernel_rfl
theorem yd3 (e b k a c i j d m g l : AV) (h : Heap) : ybg e b k a c i j d m g l h = (yep e b k a c i j d m g l h) :=
  y3y.trans ((y2u _ _ _ (n' := y5e) (fun s => ycs s)).trans ((yvu _).trans (by kernel_rfl)))
theorem yua : T1 ylh y4e (y3 1 yg (y3 0 ym xN)) [.t 2] y5e := fun s => y1p.trans (ycs s)
def ysh (e b k a c i j d : AV) (h : Heap) : OX :=
ob (y1j 1 a h) fun g =>
(ybg e b k a c i j d a g (.int .i64 0) h)
def ysl (s : St) : OX := ysh (s 3) (s 6) (s 7) (s 9) (s 10) (s 32) (s 33) (s 34) s.h
theorem ysc : T1 yl2 y4e (y3 1 yg (y3 0 ym xN)) [.t 2] ysl := sq yua fun _ => by kernel_rfl
theorem yur : T1 yme yg (y3 1 yg (y3 0 ym xN)) [.t 2] ysl := sq yu9 ysc
def yte (d b j a g i c : AV) (h : Heap) : OX :=
oh (mkmC 0 (some 1) h) fun e h6 =>
(ysh d b j a e g i c h6)
def y12g (s : St) : OX := yte (s 3) (s 6) (s 7) (s 9) (s 32) (s 33) (s 34) s.h
theorem yq7 : T1 yla yg (y3 1 yg (y3 0 ym xN)) [.t 2] y12g := sq yur fun _ => by kernel_rfl
def yqb (e c l g b i k d : AV) (h : Heap) : OX :=
ob (evUn .not g) fun a =>
gb a false (some b) fun j =>
gb a false (y1j 1 j h) fun n =>
gb a false (y9 .eql n (.int .i64 0)) fun m =>
ob (yp a (.bool true) m) fun o =>
cnd o
 ((yo h (.bool false)))
 ((yte e c l b i k d h))
def y11m (s : St) : OX := yqb (s 3) (s 6) (s 7) (s 8) (s 9) (s 32) (s 33) (s 34) s.h
theorem yp1 : T1 yjw yg (y3 1 yg (y3 0 ym xN)) [.t 2] y11m := sq yq7 fun _ => by kernel_rfl
def ys5 (b a i d e g c : AV) (h : Heap) : OX :=
oh (y7 E (y8 E) 0 none true 179 [b, a] h) fun j h7 =>
(yqb b a i d j e g c h7)
def y14n (s : St) : OX := ys5 (s 3) (s 6) (s 7) (s 8) (s 32) (s 33) (s 34) s.h
theorem yqi : T1 yjv yg (y3 1 yg (y3 0 ym xN)) [.t 2] y14n := sq yp1 fun _ => by kernel_rfl
def ymy (b a j k g : AV) (h : Heap) : OX :=
oh (y7 E (y8 E) 0 none true 178 [b, a] h) fun d h8 =>
ob (y4v 0 d) fun i =>
ob (y4v 1 d) fun e =>
oh (newC 0 (some 0) [(.int .i64 0), (.str []), (.str []), .nils, .nils, .nils, .nils] h8) fun c h9 =>
oh (evSt 7 c i h9) fun _ h10 =>
(ys5 b a c e j k g h10)
def y13l (s : St) : OX := ymy (s 3) (s 6) (s 32) (s 33) (s 34) s.h
theorem yvi : T1 yl1 yg (y3 1 yg (y3 0 ym xN)) [.t 2] y13l := sq yqi fun _ => by kernel_rfl
def yux (c b d a : AV) (h : Heap) : OX :=
ob (y2m 1 b a) fun g =>
ob (evLd false 1 g h) fun e =>
(ymy c e b d a h)
def yh9 (s : St) : OX := yux (s 3) (s 32) (s 33) (s 34) s.h
theorem ytd : T1 yil yg (y3 1 yg (y3 0 ym xN)) [.t 2] yh9 := sq yvi fun _ => by kernel_rfl
theorem yqq : T1 ykz yg (y3 0 ym xN) [.t 2] yh9 := fun s => y1p.trans (ytd s)
theorem ys9 : T1 yli y7h (y3 0 ym xN) [.t 2] yh9 := sq yxv yqq
def yjr (b c d a e : AV) (h : Heap) : OX :=
cnd e
 ((yux b c d a h))
 ((y11f h))
def y12f (s : St) : OX := yjr (s 3) (s 32) (s 33) (s 34) (s 35) s.h
theorem yob : T1 yiu y7h (y3 0 ym xN) [.t 2] y12f := sq ys9 fun _ => by kernel_rfl
def ym3 (c d b a : AV) (h : Heap) : OX :=
ob (y9 .lss a b) fun e =>
(yjr c d b a e h)
def y122 (s : St) : OX := ym3 (s 3) (s 32) (s 33) (s 34) s.h
theorem yu5 : T1 yk6 y7h (y3 0 ym xN) [.t 2] y122 := sq yob fun _ => by kernel_rfl
theorem ygf (b c a d : AV) (h : Heap) : yeu b c a d h = (ym3 b c a d h) :=
  y3y.trans ((y2u _ _ _ (n' := y7h) (fun s => yfq s)).trans ((yu5 _).trans (by kernel_rfl)))
theorem ys8 : T1 yl3 ym xN [.t 2] y7h := fun s => y1p.trans (yfq s)
def yu1 (a : AV) (h : Heap) : OX :=
oh (y7 E (y8 E) 0 none true 177 [a] h) fun b h11 =>
ob (y1j 1 b h11) fun c =>
(yeu a b c (.int .i64 0) h11)
def ywi (s : St) : OX := yu1 (s 3) s.h
theorem yqs : T1 ym5 ym xN [.t 2] ywi := sq ys8 fun _ => by kernel_rfl
theorem ys6 : T0 ylt [.t 2] ywi := sq yzg yqs
def yj2 (d e i : AV) (h : Heap) : OX :=
ob (y9 .neq i (.int .i64 0)) fun a =>
gb a false (some d) fun j =>
gh a false (y7 E (y8 E) 0 none true 2 [j] h) h fun c h12 =>
gb a false (evUn .not c) fun g =>
ob (yp a (.bool true) g) fun b =>
cnd b
 ((yo h12 (.bool true)))
 ((yu1 e h12))
def y15e (s : St) : OX := yj2 (s 0) (s 3) (s 4) s.h
theorem ytf : T0 ymd [.t 2] y15e := sq ys6 fun _ => by kernel_rfl
def yui (a : AV) (h : Heap) : OX :=
oh (y7 E (y8 E) 0 none true 1 [a] h) fun b h13 =>
ob (y4v 0 b) fun c =>
ob (y4v 1 b) fun d =>
(yj2 a c d h13)
def y12h (s : St) : OX := yui (s 0) s.h
theorem yoy : T0 yj7 [.t 2] y12h := sq ytf fun _ => by kernel_rfl
def yvm (a : AV) (h : Heap) : OX :=
oh (y7 E (y8 E) 0 none true 0 [] h) fun b h14 =>
ob (evUn .not b) fun c =>
cnd c
 ((yo h14 (.bool false)))
 ((yui a h14))
def y15a (s : St) : OX := yvm (s 0) s.h
theorem ytk : T0 ymc [.t 2] y15a := sq yoy fun _ => by kernel_rfl
def yp5 (a : AV) (h : Heap) : OX :=
(yvm a h)
def y14i (s : St) : OX := yp5 (s 0) s.h
theorem yrz : T0 ymp [.t 2] y14i := sq ytk fun _ => by kernel_rfl
@[simp] theorem y1am : E.pure 176 = true := rfl
theorem y1ct (a : AV) : (y8 E).p 176 [a] = yp5 a [⟨0, .dead⟩, ⟨0, .dead⟩, ⟨0, .dead⟩, ⟨0, .dead⟩, ⟨0, .dead⟩] :=
  (y33 (cf := y18w) (by kernel_rfl) rfl).trans ((yrz _).trans (by kernel_rfl))
def y15y (h : Heap) : OX :=
ob (y2v [(.int .i64 0), (.str []), (.str []), .nils, .nils, .nils, .nils] [(1, 1, (AV.str [97])), (2, 1, (AV.str [69, 120, 99, 101, 112, 116, 105, 111, 110]))]) fun w =>
oh (y28 0 (some 0) 7 1 [(.int .i64 0), (.str []), (.str []), .nils, .nils, .nils, .nils] [(0, w)] h) fun u h1 =>
oh (y7 E (y8 E) 0 none true 1 [u] h1) fun j h2 =>
ob (y4v 0 j) fun b =>
ob (y4v 1 j) fun F =>
ob (y9 .eql F (.int .i64 0)) fun g =>
gb g true (some b) fun v =>
gh g true (y7 E (y8 E) 0 none true 3 [v, (AV.str [76, 97, 59]), (AV.str [76, 84, 104, 114, 111, 119, 97, 98, 108, 101, 59])] h2) h2 fun A h3 =>
ob (yp g A (.bool false)) fun e =>
gb e true (some b) fun l =>
gh e true (y7 E (y8 E) 0 none true 3 [l, (AV.str [91, 76, 97, 59]), (AV.str [91, 76, 79, 98, 106, 101, 99, 116, 59])] h3) h3 fun B h4 =>
ob (yp e B (.bool false)) fun d =>
gb d true (some b) fun D =>
gh d true (y7 E (y8 E) 0 none true 3 [D, (AV.str [91, 73]), (AV.str [91, 76, 79, 98, 106, 101, 99, 116, 59])] h4) h4 fun o h5 =>
gb d true (evUn .not o) fun t =>
ob (yp d t (.bool false)) fun a =>
gb a true (some b) fun n =>
gh a true (y7 E (y8 E) 0 none true 3 [n, (AV.str [76, 79, 98, 106, 101, 99, 116, 59]), (AV.str [76, 97, 59])] h5) h5 fun C h6 =>
gb a true (evUn .not C) fun x =>
ob (yp a x (.bool false)) fun c =>
gh c true (y7 E (y8 E) 0 none true 31 [] h6) h6 fun k h7 =>
gb c true (y1j 1 k h7) fun z =>
gb c true (y9 .eql z (.int .i64 13)) fun p =>
ob (yp c p (.bool false)) fun i =>
gh i true (y7 E (y8 E) 0 none true 32 [(AV.str [83, 121, 115]), (AV.str [101, 120, 105, 116]), (AV.str [40, 73, 41, 86])] h7) h7 fun y h8 =>
gb i true (y9 .eql y (.int .i64 3)) fun m =>
ob (yp i m (.bool false)) fun r =>
(yo h8 r)
def y19g (s : St) : OX := y15y s.h
theorem yy2 : T0 yuh [.t 0] y19g := fun _ => by kernel_rfl
@[simp] theorem y1dg : E.pure 0 = true := rfl
theorem y1cg : (y8 E).p 0 [] = y15y [⟨0, .dead⟩] :=
  (y33 (cf := y17h) (by kernel_rfl) rfl).trans ((yy2 _).trans (by kernel_rfl))
def yw3 (a : AV) (h : Heap) : OX :=
(yo h (.tup [a, (.int .i64 0)]))
def y6b (s : St) : OX := yw3 (s 4) s.h
theorem yyh : T0 yva [.t 2, .t 3] y6b := fun _ => by kernel_rfl
def yd5 (b c d a : AV) (h : Heap) : OX :=
  W E 0 ydq ⟨[(4, b), (117, c), (118, d), (119, a)], h⟩ y6b (y3 8 y6b xN) (finP [.t 2, .t 3])
def y7g (s : St) : OX := yd5 (s 4) (s 117) (s 118) (s 119) s.h
theorem yfg : T1 ydq y6b (y3 8 y6b xN) [.t 2, .t 3] y7g := fun s => yv.trans (by kernel_rfl)
def y11b (e a b c : AV) (h : Heap) : OX :=
ob (y9 .add c (.int .i64 1)) fun d =>
(yd5 e a b d h)
def y19x (s : St) : OX := y11b (s 4) (s 117) (s 118) (s 119) s.h
theorem yx5 : T1 yvy y7g (y3 8 y6b xN) [.t 2, .t 3] y19x := fun _ => by kernel_rfl
def y14e (c a j b : AV) (h : Heap) : OX :=
ob (y2m 1 a b) fun g =>
ob (evLd false 1 g h) fun e =>
oh (mkmC 0 (some 12) h) fun i h1 =>
oh (y7 E (y8 E) 0 none false 62 [c, e, i] h1) fun d h2 =>
ob (evUn .not d) fun k =>
cnd k
 ((yo h2 (.tup [AV.nilp, (.int .i64 51)])))
 ((y11b c a j b h2))
def y18k (s : St) : OX := y14e (s 4) (s 117) (s 118) (s 119) s.h
theorem yy4 : T1 yoz y7g (y3 8 y6b xN) [.t 2, .t 3] y18k := sq yx5 fun _ => by kernel_rfl
def yyi (a b d e c : AV) (h : Heap) : OX :=
cnd c
 ((y14e a b d e h))
 ((yw3 a h))
def y18c (s : St) : OX := yyi (s 4) (s 117) (s 118) (s 119) (s 120) s.h
theorem yxf : T1 yri y7g (y3 8 y6b xN) [.t 2, .t 3] y18c := sq yy4 fun _ => by kernel_rfl
def ywy (e c a b : AV) (h : Heap) : OX :=
ob (y9 .lss b a) fun d =>
(yyi e c a b d h)
def y18x (s : St) : OX := ywy (s 4) (s 117) (s 118) (s 119) s.h
theorem yz2 : T1 yr2 y7g (y3 8 y6b xN) [.t 2, .t 3] y18x := sq yxf fun _ => by kernel_rfl
theorem yfz (b c d a : AV) (h : Heap) : yd5 b c d a h = (ywy b c d a h) :=
  y3y.trans ((y2u _ _ _ (n' := y7g) (fun s => yfg s)).trans ((yz2 _).trans (by kernel_rfl)))
theorem yzu : T1 ypz y6b xN [.t 2, .t 3] y7g := fun s => y1p.trans (yfg s)
def yqy (b : AV) (h : Heap) : OX :=
ob (yq b) fun d =>
ob (evFa 1 d) fun c =>
ob (evLd false 1 c h) fun a =>
ob (y1j 1 a h) fun e =>
(yd5 b a e (.int .i64 0) h)
def y5s (s : St) : OX := yqy (s 4) s.h
theorem yys : T1 yoa y6b xN [.t 2, .t 3] y5s := sq yzu fun _ => by kernel_rfl
theorem y02 : T0 yuy [.t 2, .t 3] y5s := sq yyh yys
def yam (b a d c : AV) (h : Heap) : OX :=
  W E 0 yaz ⟨[(4, b), (103, a), (104, d), (105, c)], h⟩ y5s (y3 6 y5s xN) (finP [.t 2, .t 3])
def y5o (s : St) : OX := yam (s 4) (s 103) (s 104) (s 105) s.h
theorem yc8 : T1 yaz y5s (y3 6 y5s xN) [.t 2, .t 3] y5o := fun s => yv.trans (by kernel_rfl)
def ywt (e d b c : AV) (h : Heap) : OX :=
ob (y9 .add c (.int .i64 1)) fun a =>
(yam e d b a h)
def y12w (s : St) : OX := ywt (s 4) (s 103) (s 104) (s 105) s.h
theorem yw5 : T1 ymm y5o (y3 6 y5s xN) [.t 2, .t 3] y12w := fun _ => by kernel_rfl
def yqf (d c g b : AV) (h : Heap) : OX :=
ob (y2m 7 c b) fun e =>
ob (evLd true 7 e h) fun i =>
oh (newC 0 (some 11) [(.int .i64 0), (.str []), (.str []), .nils, .nils, .nils, .nils] h) fun a h3 =>
oh (evSt 7 a i h3) fun _ h4 =>
ob (evLd true 7 a h4) fun k =>
oh (y7 E (y8 E) 0 none true 61 [d, k] h4) fun j h5 =>
ob (evUn .not j) fun l =>
cnd l
 ((yo h5 (.tup [AV.nilp, (.int .i64 50)])))
 ((ywt d c g b h5))
def y14d (s : St) : OX := yqf (s 4) (s 103) (s 104) (s 105) s.h
theorem ywp : T1 ymj y5o (y3 6 y5s xN) [.t 2, .t 3] y14d := sq yw5 fun _ => by kernel_rfl
def yj3 (a e b c d : AV) (h : Heap) : OX :=
cnd d
 ((yqf a e b c h))
 ((yqy a h))
def y14v (s : St) : OX := yj3 (s 4) (s 103) (s 104) (s 105) (s 106) s.h
theorem yov : T1 yk9 y5o (y3 6 y5s xN) [.t 2, .t 3] y14v := sq ywp fun _ => by kernel_rfl
def ykq (e d a b : AV) (h : Heap) : OX :=
ob (y9 .lss b a) fun c =>
(yj3 e d a b c h)
def y147 (s : St) : OX := ykq (s 4) (s 103) (s 104) (s 105) s.h
theorem yt7 : T1 yl7 y5o (y3 6 y5s xN) [.t 2, .t 3] y147 := sq yov fun _ => by kernel_rfl
theorem ydg (b a d c : AV) (h : Heap) : yam b a d c h = (ykq b a d c h) :=
  y3y.trans ((y2u _ _ _ (n' := y5o) (fun s => yc8 s)).trans ((yt7 _).trans (by kernel_rfl)))
theorem ywk : T1 yk4 y5s xN [.t 2, .t 3] y5o := fun s => y1p.trans (yc8 s)
def yll (a b : AV) (h : Heap) : OX :=
ob (y1j 1 a h) fun c =>
(yam b a c (.int .i64 0) h)
def y2l (s : St) : OX := yll (s 0) (s 4) s.h
theorem yvr : T1 yko y5s xN [.t 2, .t 3] y2l := sq ywk fun _ => by kernel_rfl
theorem yrp : T0 yir [.t 2, .t 3] y2l := sq y02 yvr
def yab (b c d a e : AV) (h : Heap) : OX :=
  W E 0 yb9 ⟨[(0, b), (4, c), (67, d), (68, a), (69, e)], h⟩ y2l (y3 4 y2l xN) (finP [.t 2, .t 3])
def y57 (s : St) : OX := yab (s 0) (s 4) (s 67) (s 68) (s 69) s.h
theorem yd2 : T1 yb9 y2l (y3 4 y2l xN) [.t 2, .t 3] y57 := fun s => yv.trans (by kernel_rfl)
def yvs (b d e a g : AV) (h : Heap) : OX :=
ob (y9 .add g (.int .i64 1)) fun c =>
(yab b d e a c h)
def y6n (s : St) : OX := yvs (s 0) (s 4) (s 67) (s 68) (s 69) s.h
theorem yoc : T1 ym9 y57 (y3 4 y2l xN) [.t 2, .t 3] y6n := fun _ => by kernel_rfl
def yqg (w a b y u p : AV) (h : Heap) : OX :=
ob (yq a) fun l =>
ob (evFa 0 l) fun m =>
ob (evLd false 1 m h) fun k =>
ob (evFa 1 b) fun o =>
ob (evLd false 1 o h) fun t =>
ob (evLd true 7 b h) fun n =>
oh (y3b false [2] k t n h) fun _ h6 =>
ob (yq a) fun v =>
ob (evFa 1 v) fun d =>
ob (evLd false 1 d h6) fun g =>
ob (evFa 1 b) fun e =>
ob (evLd false 1 e h6) fun x =>
oh (y28 0 (some 9) 1 1 [(.str [])] [(0, x)] h6) fun i h7 =>
oh (y2t 0 (some 10) 1 16 g i h7) fun j h8 =>
ob (yq a) fun r =>
ob (evFa 1 r) fun c =>
oh (evSt 1 c j h8) fun _ h9 =>
okK (y3d [([], []), ([], []), ([], []), ([], []), (ids1 d, []), ([], []), (ids1 e, []), ([], [0 + 9]), (ids1 i, ids1 g ++ [0 + 10]), ([], []), ([], []), ([], ids1 c)] [(4, 7)]) <|
(yvs w a y u p h9)
def y12b (s : St) : OX := yqg (s 0) (s 4) (s 10) (s 67) (s 68) (s 69) s.h
theorem ywn : T1 yih y6n (y3 5 y6n (y3 4 y2l xN)) [.t 2, .t 3] y12b := fun _ => by kernel_rfl
def ypx (k i b p j r : AV) (h : Heap) : OX :=
ob (yq i) fun o =>
ob (evFa 0 o) fun c =>
ob (evLd false 1 c h) fun d =>
ob (evFa 1 b) fun a =>
ob (evLd false 1 a h) fun l =>
ob (yy false [2] (.agg [(.int .i64 0), (.str []), (.str []), .nils, .nils, .nils, .nils]) true d l h) fun e =>
ob (y4v 0 e) fun n =>
ob (y4v 1 e) fun m =>
oh (newC 0 (some 8) [(.int .i64 0), (.str []), (.str []), .nils, .nils, .nils, .nils] h) fun g h10 =>
oh (evSt 7 g n h10) fun _ h11 =>
okK (y3d [([], []), ([], []), ([], []), (ids1 c, []), ([], []), (ids1 a, []), (ids1 d, []), ([], []), ([], []), ([], []), ([], [0 + 8]), ([], ids1 g), ([], [])] [(3, 10), (5, 10), (6, 10)]) <|
cnd m
 ((yo h11 (.tup [AV.nilp, (.int .i64 23)])))
 ((yqg k i b p j r h11))
def y11v (s : St) : OX := ypx (s 0) (s 4) (s 10) (s 67) (s 68) (s 69) s.h
theorem ys7 : T1 ym1 y6n (y3 5 y6n (y3 4 y2l xN)) [.t 2, .t 3] y11v := sq ywn fun _ => by kernel_rfl
def yw4 (e j b d c : AV) (h : Heap) : OX :=
ob (y2m 7 b c) fun g =>
ob (evLd true 7 g h) fun i =>
oh (newC 0 (some 7) [(.int .i64 0), (.str []), (.str []), .nils, .nils, .nils, .nils] h) fun a h12 =>
oh (evSt 7 a i h12) fun _ h13 =>
(ypx e j a b d c h13)
def yi9 (s : St) : OX := yw4 (s 0) (s 4) (s 67) (s 68) (s 69) s.h
theorem ysa : T1 ylm y6n (y3 5 y6n (y3 4 y2l xN)) [.t 2, .t 3] yi9 := sq ys7 fun _ => by kernel_rfl
theorem ytn : T1 yki y6n (y3 4 y2l xN) [.t 2, .t 3] yi9 := fun s => y1p.trans (ysa s)
theorem yt9 : T1 ylu y57 (y3 4 y2l xN) [.t 2, .t 3] yi9 := sq yoc ytn
def yjd (a b e c g d : AV) (h : Heap) : OX :=
cnd d
 ((yw4 a b e c g h))
 ((yll a b h))
def y137 (s : St) : OX := yjd (s 0) (s 4) (s 67) (s 68) (s 69) (s 70) s.h
theorem ysr : T1 ykl y57 (y3 4 y2l xN) [.t 2, .t 3] y137 := sq yt9 fun _ => by kernel_rfl
def yje (c e g a b : AV) (h : Heap) : OX :=
ob (y9 .lss b a) fun d =>
(yjd c e g a b d h)
def y16g (s : St) : OX := yje (s 0) (s 4) (s 67) (s 68) (s 69) s.h
theorem ysu : T1 ykd y57 (y3 4 y2l xN) [.t 2, .t 3] y16g := sq ysr fun _ => by kernel_rfl
theorem yd0 (b c d a e : AV) (h : Heap) : yab b c d a e h = (yje b c d a e h) :=
  y3y.trans ((y2u _ _ _ (n' := y57) (fun s => yd2 s)).trans ((ysu _).trans (by kernel_rfl)))
theorem ysi : T1 yml y2l xN [.t 2, .t 3] y57 := fun s => y1p.trans (yd2 s)
def yjf (a b : AV) (h : Heap) : OX :=
ob (y1j 1 a h) fun c =>
(yab a b a c (.int .i64 0) h)
def y3s (s : St) : OX := yjf (s 0) (s 4) s.h
theorem yot : T1 yk8 y2l xN [.t 2, .t 3] y3s := sq ysi fun _ => by kernel_rfl
theorem ywb : T0 ylv [.t 2, .t 3] y3s := sq yrp yot
def yag (a d b e c : AV) (h : Heap) : OX :=
  W E 0 ybj ⟨[(0, a), (4, d), (56, b), (57, e), (58, c)], h⟩ y3s (y3 2 y3s xN) (finP [.t 2, .t 3])
def y5k (s : St) : OX := yag (s 0) (s 4) (s 56) (s 57) (s 58) s.h
theorem yde : T1 ybj y3s (y3 2 y3s xN) [.t 2, .t 3] y5k := fun s => yv.trans (by kernel_rfl)
def yw8 (a e b g c : AV) (h : Heap) : OX :=
ob (y9 .add c (.int .i64 1)) fun d =>
(yag a e b g d h)
def y16k (s : St) : OX := yw8 (s 0) (s 4) (s 56) (s 57) (s 58) s.h
theorem ytg : T1 yju y5k (y3 2 y3s xN) [.t 2, .t 3] y16k := fun _ => by kernel_rfl
def yrw (g l a n c : AV) (h : Heap) : OX :=
ob (y2m 7 a c) fun m =>
ob (evLd true 7 m h) fun e =>
oh (newC 0 (some 6) [(.int .i64 0), (.str []), (.str []), .nils, .nils, .nils, .nils] h) fun b h14 =>
oh (evSt 7 b e h14) fun _ h15 =>
ob (evFa 1 b) fun d =>
ob (evLd false 1 d h15) fun i =>
oh (y7 E (y8 E) 0 none true 60 [i, (.bool false)] h15) fun j h16 =>
ob (evUn .not j) fun k =>
cnd k
 ((yo h16 (.tup [AV.nilp, (.int .i64 20)])))
 ((yw8 g l a n c h16))
def y15j (s : St) : OX := yrw (s 0) (s 4) (s 56) (s 57) (s 58) s.h
theorem ysz : T1 ymn y5k (y3 2 y3s xN) [.t 2, .t 3] y15j := sq ytg fun _ => by kernel_rfl
def ymg (a b d g e c : AV) (h : Heap) : OX :=
cnd c
 ((yrw a b d g e h))
 ((yjf a b h))
def y123 (s : St) : OX := ymg (s 0) (s 4) (s 56) (s 57) (s 58) (s 59) s.h
theorem yre : T1 yjc y5k (y3 2 y3s xN) [.t 2, .t 3] y123 := sq ysz fun _ => by kernel_rfl
def yjb (d g e b a : AV) (h : Heap) : OX :=
ob (y9 .lss a b) fun c =>
(ymg d g e b a c h)
def y11q (s : St) : OX := yjb (s 0) (s 4) (s 56) (s 57) (s 58) s.h
theorem yoi : T1 ymk y5k (y3 2 y3s xN) [.t 2, .t 3] y11q := sq yre fun _ => by kernel_rfl
theorem ycg (a d b e c : AV) (h : Heap) : yag a d b e c h = (yjb a d b e c h) :=
  y3y.trans ((y2u _ _ _ (n' := y5k) (fun s => yde s)).trans ((yoi _).trans (by kernel_rfl)))
theorem ys4 : T1 yle y3s xN [.t 2, .t 3] y5k := fun s => y1p.trans (yde s)
def yif (a b : AV) (h : Heap) : OX :=
ob (y1j 1 a h) fun c =>
(yag a b a c (.int .i64 0) h)
def y3w (s : St) : OX := yif (s 0) (s 4) s.h
theorem yog : T1 ym8 y3s xN [.t 2, .t 3] y3w := sq ys4 fun _ => by kernel_rfl
theorem yt5 : T0 yjq [.t 2, .t 3] y3w := sq ywb yog
def y92 (b d e c a : AV) (h : Heap) : OX :=
  W E 0 ybq ⟨[(0, b), (4, d), (24, e), (25, c), (26, a)], h⟩ y3w (y3 0 y3w xN) (finP [.t 2, .t 3])
def y5f (s : St) : OX := y92 (s 0) (s 4) (s 24) (s 25) (s 26) s.h
theorem yc7 : T1 ybq y3w (y3 0 y3w xN) [.t 2, .t 3] y5f := fun s => yv.trans (by kernel_rfl)
def yvk (b d e c a : AV) (h : Heap) : OX :=
ob (y9 .add a (.int .i64 1)) fun g =>
(y92 b d e c g h)
def y15m (s : St) : OX := yvk (s 0) (s 4) (s 24) (s 25) (s 26) s.h
theorem yoq : T1 yip y5f (y3 0 y3w xN) [.t 2, .t 3] y15m := fun _ => by kernel_rfl
def yt6 (D b l v n : AV) (h : Heap) : OX :=
ob (y2m 2 l n) fun C =>
ob (evLd true 2 C h) fun u =>
oh (newC 0 (some 3) [(.str []), (.str [])] h) fun a h17 =>
oh (evSt 2 a u h17) fun _ h18 =>
ob (yq b) fun B =>
ob (evFa 0 B) fun k =>
ob (evLd false 1 k h18) fun p =>
ob (yao 2 1 a (.int .i64 0)) fun d =>
ob (evLd false 1 d h18) fun A =>
ob (yao 2 1 a (.int .i64 0)) fun g =>
ob (evLd false 1 g h18) fun w =>
ob (yao 2 1 a (.int .i64 1)) fun c =>
ob (evLd false 1 c h18) fun F =>
ob (yao 2 1 a (.int .i64 0)) fun i =>
ob (evLd false 1 i h18) fun r =>
ofp (ylx E (y8 E) 0 none true 43 [r] h18) fun f12 =>
oh (y7 E (y8 E) 0 none true 43 [r] h18) fun y h19 =>
ob (y2v [(.int .i64 0), (.str []), (.str []), .nils, .nils, .nils, .nils] [(1, 1, w), (2, 1, F), (6, 1, y)]) fun x =>
oh (y3b false [2] p A x h19) fun _ h20 =>
okK (y3d [([], []), ([], []), ([], []), (ids1 k, []), ([], []), (ids1 d, []), ([], []), (ids1 g, []), ([], []), (ids1 c, []), ([], []), (ids1 i, []), f12, ([], []), ([], ids1 p)] [(3, 12), (5, 12), (7, 12), (9, 12)]) <|
ob (yq b) fun H =>
ob (evFa 1 H) fun j =>
ob (evLd false 1 j h20) fun o =>
ob (yao 2 1 a (.int .i64 0)) fun m =>
ob (evLd false 1 m h20) fun z =>
oh (y28 0 (some 4) 1 1 [(.str [])] [(0, z)] h20) fun t h21 =>
oh (y2t 0 (some 5) 1 16 o t h21) fun G h22 =>
ob (yq b) fun I =>
ob (evFa 1 I) fun e =>
oh (evSt 1 e G h22) fun _ h23 =>
okK (y3d [([], []), ([], []), ([], []), ([], []), (ids1 j, []), ([], []), (ids1 m, []), ([], [0 + 4]), (ids1 t, ids1 o ++ [0 + 5]), ([], []), ([], []), ([], ids1 e)] [(4, 7)]) <|
(yvk D b l v n h23)
def y15b (s : St) : OX := yt6 (s 0) (s 4) (s 24) (s 25) (s 26) s.h
theorem yqn : T1 ylj y5f (y3 0 y3w xN) [.t 2, .t 3] y15b := sq yoq fun _ => by kernel_rfl
def ylp (a b e d c g : AV) (h : Heap) : OX :=
cnd g
 ((yt6 a b e d c h))
 ((yif a b h))
def y14k (s : St) : OX := ylp (s 0) (s 4) (s 24) (s 25) (s 26) (s 27) s.h
theorem yvd : T1 yie y5f (y3 0 y3w xN) [.t 2, .t 3] y14k := sq yqn fun _ => by kernel_rfl
def ykm (c d e b a : AV) (h : Heap) : OX :=
ob (y9 .lss a b) fun g =>
(ylp c d e b a g h)
def y140 (s : St) : OX := ykm (s 0) (s 4) (s 24) (s 25) (s 26) s.h
theorem ypj : T1 yj5 y5f (y3 0 y3w xN) [.t 2, .t 3] y140 := sq yvd fun _ => by kernel_rfl
theorem ych (b d e c a : AV) (h : Heap) : y92 b d e c a h = (ykm b d e c a h) :=
  y3y.trans ((y2u _ _ _ (n' := y5f) (fun s => yc7 s)).trans ((ypj _).trans (by kernel_rfl)))
theorem yv2 : T1 ykn y3w xN [.t 2, .t 3] y5f := fun s => y1p.trans (yc7 s)
def ysp (b c : AV) (h : Heap) : OX :=
oh (y7 E (y8 E) 0 none true 33 [] h) fun a h24 =>
ob (y1j 1 a h24) fun d =>
(y92 b c a d (.int .i64 0) h24)
def ytc (s : St) : OX := ysp (s 0) (s 4) s.h
theorem yqj : T1 yjj y3w xN [.t 2, .t 3] ytc := sq yv2 fun _ => by kernel_rfl
theorem yq6 : T0 ymi [.t 2, .t 3] ytc := sq yt5 yqj
def ygh (b : AV) (h : Heap) : OX :=
oh (mkmC 0 (some 0) h) fun a h25 =>
oh (mkmC 0 (some 1) h25) fun d h26 =>
ob (y2v [.nilm, .nils, .nilm] [(0, 1, a), (2, 1, d)]) fun e =>
oh (newC 0 (some 2) (cellsOf e) h26) fun c h27 =>
(ysp b c h27)
def y15d (s : St) : OX := ygh (s 0) s.h
theorem ys0 : T0 ykx [.t 2, .t 3] y15d := sq yq6 fun _ => by kernel_rfl
def yss (a : AV) (h : Heap) : OX :=
ob (y1j 1 a h) fun c =>
ob (y9 .gtr c (.int .i64 40)) fun b =>
cnd b
 ((yo h (.tup [AV.nilp, (.int .i64 2)])))
 ((ygh a h))
def y14o (s : St) : OX := yss (s 0) s.h
theorem yoe : T0 yjk [.t 2, .t 3] y14o := sq ys0 fun _ => by kernel_rfl
def yse (a : AV) (h : Heap) : OX :=
(yss a h)
def y12n (s : St) : OX := yse (s 0) s.h
theorem yu2 : T0 yn0 [.t 2, .t 3] y12n := sq yoe fun _ => by kernel_rfl
@[simp] theorem y1dq : E.pure 1 = true := rfl
theorem y1cd (a : AV) : (y8 E).p 1 [a] = yse a [⟨0, .dead⟩, ⟨0, .dead⟩, ⟨0, .dead⟩, ⟨0, .dead⟩, ⟨0, .dead⟩, ⟨0, .dead⟩, ⟨0, .dead⟩, ⟨0, .dead⟩, ⟨0, .dead⟩, ⟨0, .dead⟩, ⟨0, .dead⟩, ⟨0, .dead⟩, ⟨0, .dead⟩] :=
  (y33 (cf := y186) (by kernel_rfl) rfl).trans ((yu2 _).trans (by kernel_rfl))
def y128 (b : AV) (h : Heap) : OX :=
ob (y9 .lss b (.int .i64 3000)) fun a =>
(yo h a)
def y62 (s : St) : OX := y128 (s 3) s.h
theorem yx6 : T0 yp2 [.t 2] y62 := fun _ => by kernel_rfl
def yfi (b c a d : AV) (h : Heap) : OX :=
  W E 0 ydn ⟨[(3, b), (6, c), (7, a), (8, d)], h⟩ y62 (y3 0 y62 xN) (finP [.t 2])
def y76 (s : St) : OX := yfi (s 3) (s 6) (s 7) (s 8) s.h
theorem yg0 : T1 ydn y62 (y3 0 y62 xN) [.t 2] y76 := fun s => yv.trans (by kernel_rfl)
def y11r (c b e d : AV) (h : Heap) : OX :=
ob (y9 .add d (.int .i64 1)) fun a =>
(yfi c b e a h)
def y197 (s : St) : OX := y11r (s 3) (s 6) (s 7) (s 8) s.h
theorem yze : T1 yqx y76 (y3 0 y62 xN) [.t 2] y197 := fun _ => by kernel_rfl
def y14f (e b p c : AV) (h : Heap) : OX :=
ob (y2m 7 b c) fun n =>
ob (evLd true 7 n h) fun r =>
oh (newC 0 (some 0) [(.int .i64 0), (.str []), (.str []), .nils, .nils, .nils, .nils] h) fun a h1 =>
oh (evSt 7 a r h1) fun _ h2 =>
ob (evFa 3 a) fun t =>
ob (evLd false 1 t h2) fun d =>
ob (y1j 1 d h2) fun k =>
ob (y9 .add (.int .i64 1) k) fun g =>
ob (evFa 5 a) fun u =>
ob (evLd false 1 u h2) fun w =>
ob (y1j 1 w h2) fun x =>
ob (y9 .add g x) fun v =>
ob (evFa 6 a) fun j =>
ob (evLd false 1 j h2) fun l =>
ob (y1j 1 l h2) fun o =>
ob (y9 .add v o) fun m =>
ob (y9 .add e m) fun i =>
(y11r i b p c h2)
def y19n (s : St) : OX := y14f (s 3) (s 6) (s 7) (s 8) s.h
theorem yzo : T1 yrm y76 (y3 0 y62 xN) [.t 2] y19n := sq yze fun _ => by kernel_rfl
def yx9 (a c e d b : AV) (h : Heap) : OX :=
cnd b
 ((y14f a c e d h))
 ((y128 a h))
def y17t (s : St) : OX := yx9 (s 3) (s 6) (s 7) (s 8) (s 9) s.h
theorem yx2 : T1 yrt y76 (y3 0 y62 xN) [.t 2] y17t := sq yzo fun _ => by kernel_rfl
def yxj (e d b a : AV) (h : Heap) : OX :=
ob (y9 .lss a b) fun c =>
(yx9 e d b a c h)
def y190 (s : St) : OX := yxj (s 3) (s 6) (s 7) (s 8) s.h
theorem yyq : T1 yp6 y76 (y3 0 y62 xN) [.t 2] y190 := sq yx2 fun _ => by kernel_rfl
theorem yg7 (b c a d : AV) (h : Heap) : yfi b c a d h = (yxj b c a d h) :=
  y3y.trans ((y2u _ _ _ (n' := y76) (fun s => yg0 s)).trans ((yyq _).trans (by kernel_rfl)))
theorem yyk : T1 yra y62 xN [.t 2] y76 := fun s => y1p.trans (yg0 s)
def y15p (a b : AV) (h : Heap) : OX :=
ob (y1j 1 a h) fun c =>
(yfi b a c (.int .i64 0) h)
def y0h (s : St) : OX := y15p (s 0) (s 3) s.h
theorem yxs : T1 yth y62 xN [.t 2] y0h := sq yyk fun _ => by kernel_rfl
theorem yzy : T0 yw2 [.t 2] y0h := sq yx6 yxs
def ytu (a : AV) (h : Heap) : OX :=
(y15p a (.int .i64 0) h)
def y11x (s : St) : OX := ytu (s 0) s.h
theorem yt2 : T0 yii [.t 2] y11x := sq yzy fun _ => by kernel_rfl
def yoo (a : AV) (h : Heap) : OX :=
(ytu a h)
def y11i (s : St) : OX := yoo (s 0) s.h
theorem ypm : T0 ylf [.t 2] y11i := sq yt2 fun _ => by kernel_rfl
@[simp] theorem y1dr : E.pure 2 = true := rfl
theorem y1bs (a : AV) : (y8 E).p 2 [a] = yoo a [⟨0, .dead⟩] :=
  (y33 (cf := y17l) (by kernel_rfl) rfl).trans ((ypm _).trans (by kernel_rfl))
def y12j (k v m : AV) (h : Heap) : OX :=
oh (y7 E (y8 E) 0 none true 36 [v] h) fun d h1 =>
oh (y7 E (y8 E) 0 none true 36 [m] h1) fun e h2 =>
ob (y9 .neq d (AV.str [])) fun c =>
gb c true (some e) fun j =>
gb c true (y9 .neq j (AV.str [])) fun i =>
ob (yp c i (.bool false)) fun b =>
gb b true (some d) fun u =>
gh b true (y7 E (y8 E) 0 none true 34 [u] h2) h2 fun r h3 =>
gb b true (y9 .eql r (.int .i64 3)) fun l =>
ob (yp b l (.bool false)) fun a =>
gb a true (some k) fun o =>
gb a true (some d) fun p =>
gb a true (some e) fun n =>
gh a true (y7 E (y8 E) 0 none true 3 [o, p, n] h3) h3 fun g h4 =>
ob (yp a g (.bool false)) fun t =>
(yo h4 t)
def yd1 (s : St) : OX := y12j (s 0) (s 1) (s 2) s.h
theorem yy3 : T0 yw6 [.t 6] yd1 := fun _ => by kernel_rfl
def y15r (d p i : AV) (h : Heap) : OX :=
oh (y7 E (y8 E) 0 none true 35 [p] h) fun b h5 =>
ob (y9 .neq b (AV.str [])) fun a =>
gb a true (some d) fun k =>
gb a true (yq k) fun m =>
gb a true (evFa 2 m) fun n =>
gb a true (evLd false 1 n h5) fun c =>
gb a true (some b) fun e =>
gb a true (yy false [2] .nilm false c e h5) fun g =>
gb a true (some i) fun l =>
gb a true (yy false [2] (.bool false) false g l h5) fun j =>
ob (yp a j (.bool false)) fun o =>
(yo h5 o)
def y17j (s : St) : OX := y15r (s 0) (s 1) (s 7) s.h
theorem yww : T1 ytw yd1 xN [.t 6] y17j := fun _ => by kernel_rfl
def y12r (d b a : AV) (h : Heap) : OX :=
ob (y3c b (.int .i64 0)) fun g =>
ob (y9 .eql g (.int .u8 91)) fun e =>
cnd e
 (ob (y9 .eql a (AV.str [79, 98, 106, 101, 99, 116])) fun c =>
(yo h c))
 ((y15r d b a h))
def y192 (s : St) : OX := y12r (s 0) (s 1) (s 7) s.h
theorem yyo : T1 yqh yd1 xN [.t 6] y192 := sq yww fun _ => by kernel_rfl
def y11j (a b d e c : AV) (h : Heap) : OX :=
cnd c
 ((y12r a b e h))
 ((y12j a b d h))
def y17x (s : St) : OX := y11j (s 0) (s 1) (s 2) (s 7) (s 34) s.h
theorem yzh : T1 ywu yd1 xN [.t 6] y17x := fun s => (y19c (yyo s) rfl).trans (by kernel_rfl)
def y12a (c e d a : AV) (h : Heap) : OX :=
ob (y9 .neq a (AV.str [])) fun b =>
(y11j c e d a b h)
def y1a7 (s : St) : OX := y12a (s 0) (s 1) (s 2) (s 7) s.h
theorem yy9 : T1 ypp yd1 xN [.t 6] y1a7 := sq yzh fun _ => by kernel_rfl
def y12c (b d a : AV) (h : Heap) : OX :=
oh (y7 E (y8 E) 0 none true 35 [a] h) fun c h6 =>
(y12a b d a c h6)
def y0d (s : St) : OX := y12c (s 0) (s 1) (s 2) s.h
theorem yz1 : T1 yox yd1 xN [.t 6] y0d := sq yy9 fun _ => by kernel_rfl
theorem yxh : T0 yq0 [.t 6] y0d := sq yy3 yz1
def yyc (d b a : AV) (h : Heap) : OX :=
ob (y9 .eql a (AV.str [])) fun g =>
cnd g
 ((yo h (.bool true)))
 (ob (y5t 0 false d AV.nilp) fun c =>
gb c false (some b) fun l =>
gb c false (y9 .eql l (AV.str [])) fun m =>
ob (yp c (.bool true) m) fun i =>
cnd i
 ((yo h (.bool false)))
 (ob (y9 .eql b a) fun n =>
cnd n
 ((yo h (.bool true)))
 (ob (y9 .eql b (AV.str [78])) fun j =>
cnd j
 (oh (y7 E (y8 E) 0 none true 34 [a] h) fun k h7 =>
ob (y9 .eql k (.int .i64 3)) fun e =>
(yo h7 e))
 ((y12c d b a h)))))
def y18i (s : St) : OX := yyc (s 0) (s 1) (s 2) s.h
theorem yxc : T0 yvp [.t 6] y18i := sq yxh fun _ => by kernel_rfl
def yyy (a c b : AV) (h : Heap) : OX :=
(yyc a c b h)
def y17a (s : St) : OX := yyy (s 0) (s 1) (s 2) s.h
theorem yy1 : T0 yw0 [.t 6] y17a := sq yxc fun _ => by kernel_rfl
@[simp] theorem y1dn : E.pure 3 = true := rfl
theorem y19t (a c b : AV) : (y8 E).p 3 [a, c, b] = yyy a c b [] :=
  (y33 (cf := y19b) (by kernel_rfl) rfl).trans ((yy1 _).trans (by kernel_rfl))
@[simp] theorem y1ch : E.pure 59 = true := rfl
def y16f (c : AV) (h : Heap) : OX :=
ob (yq c) fun b =>
ob (evFa 1 b) fun e =>
ob (evLd false 1 e h) fun d =>
oh (y2t 0 (some 0) 1 16 AV.nils d h) fun a h1 =>
(yo h1 a)
def y19p (s : St) : OX := y16f (s 0) s.h
theorem yyl : T0 ytx [.t 2] y19p := fun _ => by kernel_rfl
def y13v (a : AV) (h : Heap) : OX :=
ob (y5t 0 false a AV.nilp) fun b =>
cnd b
 ((yo h AV.nils))
 ((y16f a h))
def y176 (s : St) : OX := y13v (s 0) s.h
theorem yxu : T0 yu0 [.t 2] y176 := sq yyl fun _ => by kernel_rfl
def y14t (a : AV) (h : Heap) : OX :=
(y13v a h)
def y177 (s : St) : OX := y14t (s 0) s.h
theorem yyv : T0 yu4 [.t 2] y177 := sq yxu fun _ => by kernel_rfl
@[simp] theorem y1al : E.pure 177 = true := rfl
theorem y1d0 (a : AV) : (y8 E).p 177 [a] = y14t a [⟨0, .dead⟩] :=
  (y33 (cf := y1ac) (by kernel_rfl) rfl).trans ((yyv _).trans (by kernel_rfl))
def y126 (j m c : AV) (h : Heap) : OX :=
ob (yq j) fun g =>
ob (evFa 0 g) fun d =>
ob (evLd false 1 d h) fun e =>
ob (yy false [2] (.agg [(.int .i64 0), (.str []), (.str []), .nils, .nils, .nils, .nils]) true e m h) fun a =>
ob (y4v 0 a) fun k =>
ob (y4v 1 a) fun l =>
oh (newC 0 (some 1) [(.int .i64 0), (.str []), (.str []), .nils, .nils, .nils, .nils] h) fun b h1 =>
oh (evSt 7 b k h1) fun _ h2 =>
ob (evLd true 7 b h2) fun i =>
oh (evSt 7 c i h2) fun _ h3 =>
(ob (evLd true 7 c h3) fun r0 =>
  yo h3 (.tup [r0, l]))
def y18n (s : St) : OX := y126 (s 0) (s 1) (s 4) s.h
theorem yz3 : T0 yr6 [.cell 4 true 7, .t 5] y18n := fun _ => by kernel_rfl
def y11w (b e a : AV) (h : Heap) : OX :=
ob (y5t 0 false b AV.nilp) fun c =>
cnd c
 (ob (y2v [(.int .i64 0), (.str []), (.str []), .nils, .nils, .nils, .nils] []) fun d =>
oh (evSt 7 a d h) fun _ h4 =>
(ob (evLd true 7 a h4) fun r0 =>
  yo h4 (.tup [r0, (.bool false)])))
 ((y126 b e a h))
def y194 (s : St) : OX := y11w (s 0) (s 1) (s 4) s.h
theorem yyj : T0 yw7 [.cell 4 true 7, .t 5] y194 := sq yz3 fun _ => by kernel_rfl
def y14y (a c : AV) (h : Heap) : OX :=
oh (newC 0 (some 0) [(.int .i64 0), (.str []), (.str []), .nils, .nils, .nils, .nils] h) fun b h5 =>
(y11w a c b h5)
def y18a (s : St) : OX := y14y (s 0) (s 1) s.h
theorem yyu : T0 yqe [.cell 4 true 7, .t 5] y18a := sq yyj fun _ => by kernel_rfl
@[simp] theorem y1b5 : E.pure 178 = true := rfl
theorem y1cf (a b : AV) : (y8 E).p 178 [a, b] = y14y a b [⟨0, .dead⟩, ⟨0, .dead⟩] :=
  (y33 (cf := y17z) (by kernel_rfl) rfl).trans ((yyu _).trans (by kernel_rfl))
def y13i (a : AV) (h : Heap) : OX :=
(yo h a)
def y0k (s : St) : OX := y13i (s 5) s.h
theorem yzk : T0 ytb [.t 4] y0k := fun _ => by kernel_rfl
def yqo (a b : AV) (h : Heap) : Option St :=
oh (y28 0 (some 0) 1 1 [(.str [])] [(0, b)] h) fun c h1 =>
oh (y2t 0 (some 1) 1 16 a c h1) fun d h2 =>
(some (⟨[(5, d)], killAll 0 [0] h2⟩ : St))
def y18u (s : St) : Option St := yqo (s 5) (s 6) s.h
theorem yyg (s : St) : W E 0 yuv s (fun s3 => some (⟨restrict [5] s3.t, killAll 0 [0] s3.h⟩ : St)) xN (fun _ => none) = y18u s :=
  by kernel_rfl
def y13q (e j a : AV) (h : Heap) : OX :=
ob (yq e) fun c =>
ob (evFa 2 c) fun g =>
ob (evLd false 1 g h) fun d =>
ob (yy false [2] .nilm false d j h) fun b =>
orms b (fun q q0 =>
ob (y4v 0 (AV.tup [q.1, q.2])) fun i =>
(yqo (tget q0.t 5) i q0.h)) (fun q1 =>
oh (y7 E (y8 E) 0 none false 180 [(tget q1.t 5)] q1.h) fun k h5 =>
some (⟨[(5, (tget q1.t 5))], h5⟩ : St)) [(5, a)] h fun q2 =>
(y13i (tget q2.t 5) q2.h)
def y19l (s : St) : OX := y13q (s 0) (s 1) (s 5) s.h
theorem yxb : T0 ywq [.t 4] y19l := fun s => (yn9 (nk := y0k) (fun s2 => yyg s2) (fun s => yzk s)).trans (by kernel_rfl)
def y135 (a b : AV) (h : Heap) : OX :=
(y13q a b AV.nils h)
def y1a4 (s : St) : OX := y135 (s 0) (s 1) s.h
theorem yzd : T0 yuj [.t 4] y1a4 := sq yxb fun _ => by kernel_rfl
def y120 (a c : AV) (h : Heap) : OX :=
ob (y5t 0 false a AV.nilp) fun b =>
cnd b
 ((yo h AV.nils))
 ((y135 a c h))
def y18g (s : St) : OX := y120 (s 0) (s 1) s.h
theorem yyb : T0 ypv [.t 4] y18g := sq yzd fun _ => by kernel_rfl
def y14z (a b : AV) (h : Heap) : OX :=
(y120 a b h)
def y19s (s : St) : OX := y14z (s 0) (s 1) s.h
theorem yxd : T0 yrv [.t 4] y19s := sq yyb fun _ => by kernel_rfl
@[simp] theorem y1b4 : E.pure 179 = true := rfl
theorem y1cj (a b : AV) : (y8 E).p 179 [a, b] = y14z a b [⟨0, .dead⟩, ⟨0, .dead⟩] :=
  (y33 (cf := y19h) (by kernel_rfl) rfl).trans ((yxd _).trans (by kernel_rfl))
@[simp] theorem y1bk : E.pure 31 = true := rfl
@[simp] theorem y1bc : E.pure 32 = true := rfl
@[simp] theorem y1bt : E.pure 33 = true := rfl
def y17f (h : Heap) : OX :=
(yo h AV.nils)
def y180 (s : St) : OX := y17f s.h
theorem yx0 : T0 yuo [.t 2] y180 := fun _ => by kernel_rfl
def y11k (a : AV) (h : Heap) : OX :=
ob (y9 .eql a (AV.str [83, 121, 115])) fun b =>
cnd b
 (ob (y2v [(.int .i64 0), (.str []), (.str []), (.int .i64 0), (.int .i64 0), .nils, .nils, .nils] [(0, 1, (.int .i64 8)), (1, 1, (AV.str [112, 114, 105, 110, 116])), (2, 1, (AV.str [40, 73, 41, 86]))]) fun e =>
ob (y2v [(.int .i64 0), (.str []), (.str []), (.int .i64 0), (.int .i64 0), .nils, .nils, .nils] [(0, 1, (.int .i64 8)), (1, 1, (AV.str [112, 114, 105, 110, 116])), (2, 1, (AV.str [40, 74, 41, 86]))]) fun m =>
ob (y2v [(.int .i64 0), (.str []), (.str []), (.int .i64 0), (.int .i64 0), .nils, .nils, .nils] [(0, 1, (.int .i64 8)), (1, 1, (AV.str [112, 114, 105, 110, 116])), (2, 1, (AV.str [40, 76, 83, 116, 114, 105, 110, 103, 59, 41, 86]))]) fun l =>
ob (y2v [(.int .i64 0), (.str []), (.str []), (.int .i64 0), (.int .i64 0), .nils, .nils, .nils] [(0, 1, (.int .i64 8)), (1, 1, (AV.str [101, 120, 105, 116])), (2, 1, (AV.str [40, 73, 41, 86]))]) fun c =>
oh (y28 0 (some 0) 8 4 [(.int .i64 0), (.str []), (.str []), (.int .i64 0), (.int .i64 0), .nils, .nils, .nils] [(0, e), (1, m), (2, l), (3, c)] h) fun g h1 =>
(yo h1 g))
 (ob (y9 .eql a (AV.str [83, 116, 114, 105, 110, 103])) fun k =>
cnd k
 (ob (y2v [(.int .i64 0), (.str []), (.str []), (.int .i64 0), (.int .i64 0), .nils, .nils, .nils] [(1, 1, (AV.str [108, 101, 110, 103, 116, 104])), (2, 1, (AV.str [40, 41, 73]))]) fun i =>
ob (y2v [(.int .i64 0), (.str []), (.str []), (.int .i64 0), (.int .i64 0), .nils, .nils, .nils] [(1, 1, (AV.str [99, 104, 97, 114, 65, 116])), (2, 1, (AV.str [40, 73, 41, 73]))]) fun d =>
oh (y28 0 (some 1) 8 2 [(.int .i64 0), (.str []), (.str []), (.int .i64 0), (.int .i64 0), .nils, .nils, .nils] [(0, i), (1, d)] h) fun j h2 =>
(yo h2 j))
 ((y17f h)))
def y198 (s : St) : OX := y11k (s 0) s.h
theorem yy5 : T0 yom [.t 2] y198 := sq yx0 fun _ => by kernel_rfl
def y132 (a : AV) (h : Heap) : OX :=
(y11k a h)
def y17b (s : St) : OX := y132 (s 0) s.h
theorem yzw : T0 yun [.t 2] y17b := sq yy5 fun _ => by kernel_rfl
@[simp] theorem y1c8 : E.pure 43 = true := rfl
theorem y1bz (a : AV) : (y8 E).p 43 [a] = y132 a [⟨0, .dead⟩, ⟨0, .dead⟩] :=
  (y33 (cf := y185) (by kernel_rfl) rfl).trans ((yzw _).trans (by kernel_rfl))
def q6_1 (h : Heap) : OX :=
(yo h (.bool true))
def ybw (s : St) : OX := q6_1 s.h
theorem y12k : T0 y111 [.t 4] ybw := fun _ => by kernel_rfl
def yrl (d b c a : AV) (h : Heap) : OX :=
  W E 0 ygt ⟨[(1, d), (17, b), (18, c), (19, a)], h⟩ ybw (y3 0 ybw xN) (finP [.t 4])
def ybp (s : St) : OX := yrl (s 1) (s 17) (s 18) (s 19) s.h
theorem ykv : T1 ygt ybw (y3 0 ybw xN) [.t 4] ybp := fun s => yv.trans (by kernel_rfl)
def q6_3 (e a b c : AV) (h : Heap) : OX :=
ob (y9 .add c (.int .i64 1)) fun d =>
(yrl e a b d h)
def y1ci (s : St) : OX := q6_3 (s 1) (s 17) (s 18) (s 19) s.h
theorem y12m : T1 y0o ybp (y3 0 ybw xN) [.t 4] y1ci := fun _ => by kernel_rfl
def q6_4 (r o S p : AV) (h : Heap) : OX :=
ob (y2m 1 o p) fun z =>
ob (evLd false 1 z h) fun a =>
ob (y9 .geq a (.int .u8 97)) fun l =>
gb l true (some a) fun P =>
gb l true (y9 .leq P (.int .u8 122)) fun M =>
ob (yp l M (.bool false)) fun e =>
gb e false (some a) fun t =>
gb e false (y9 .geq t (.int .u8 65)) fun O =>
gb e false (some O) fun i =>
gb i true (some a) fun U =>
gb i true (y9 .leq U (.int .u8 90)) fun v =>
gb e false (yp i v (.bool false)) fun N =>
ob (yp e (.bool true) N) fun c =>
gb c false (some a) fun u =>
gb c false (y9 .geq u (.int .u8 48)) fun R =>
gb c false (some R) fun g =>
gb g true (some a) fun V =>
gb g true (y9 .leq V (.int .u8 57)) fun F =>
gb c false (yp g F (.bool false)) fun D =>
ob (yp c (.bool true) D) fun k =>
gb k false (some a) fun Y =>
gb k false (y9 .eql Y (.int .u8 95)) fun A =>
ob (yp k (.bool true) A) fun m =>
gb m false (some a) fun H =>
gb m false (y9 .eql H (.int .u8 36)) fun X =>
ob (yp m (.bool true) X) fun n =>
gb n false (some a) fun x =>
gb n false (y9 .eql x (.int .u8 47)) fun B =>
ob (yp n (.bool true) B) fun y =>
ob (evUn .not y) fun d =>
gb d true (some r) fun L =>
gb d true (some L) fun b =>
gb b true (some a) fun w =>
gb b true (y9 .eql w (.int .u8 60)) fun G =>
gb b true (some G) fun j =>
gb j false (some a) fun K =>
gb j false (y9 .eql K (.int .u8 62)) fun J =>
gb b true (yp j (.bool true) J) fun Z =>
gb d true (yp b Z (.bool false)) fun Q =>
gb d true (evUn .not Q) fun C =>
ob (yp d C (.bool false)) fun I =>
cnd I
 ((yo h (.bool false)))
 ((q6_3 r o S p h))
def y1ca (s : St) : OX := q6_4 (s 1) (s 17) (s 18) (s 19) s.h
theorem y124 : T1 y0j ybp (y3 0 ybw xN) [.t 4] y1ca := sq y12m fun _ => by kernel_rfl
def q6_5 (e a c d b : AV) (h : Heap) : OX :=
cnd b
 ((q6_4 e a c d h))
 ((q6_1 h))
def y1d8 (s : St) : OX := q6_5 (s 1) (s 17) (s 18) (s 19) (s 20) s.h
theorem y11c : T1 y0e ybp (y3 0 ybw xN) [.t 4] y1d8 := sq y124 fun _ => by kernel_rfl
def q6_6 (e c a b : AV) (h : Heap) : OX :=
ob (y9 .lss b a) fun d =>
(q6_5 e c a b d h)
def y1co (s : St) : OX := q6_6 (s 1) (s 17) (s 18) (s 19) s.h
theorem y13b : T1 y0v ybp (y3 0 ybw xN) [.t 4] y1co := sq y11c fun _ => by kernel_rfl
theorem yln (d b c a : AV) (h : Heap) : yrl d b c a h = (q6_6 d b c a h) :=
  y3y.trans ((y2u _ _ _ (n' := ybp) (fun s => ykv s)).trans ((y13b _).trans (by kernel_rfl)))
theorem y136 : T1 y110 ybw xN [.t 4] ybp := fun s => y1p.trans (ykv s)
def q6_8 (b d : AV) (h : Heap) : OX :=
oh (s2bC 0 (some 0) b h) fun a h1 =>
ob (y1j 1 a h1) fun c =>
(yrl d a c (.int .i64 0) h1)
def y18y (s : St) : OX := q6_8 (s 0) (s 1) s.h
theorem y11p : T1 y0y ybw xN [.t 4] y18y := sq y136 fun _ => by kernel_rfl
theorem y160 : T0 y112 [.t 4] y18y := sq y12k y11p
def y163 (b j : AV) (h : Heap) : OX :=
ob (y1j 0 b h) fun c =>
ob (y9 .lss c (.int .i64 1)) fun a =>
gb a false (some b) fun i =>
gb a false (y1j 0 i h) fun g =>
gb a false (y9 .gtr g (.int .i64 60)) fun d =>
ob (yp a (.bool true) d) fun e =>
cnd e
 ((yo h (.bool false)))
 ((q6_8 b j h))
def y1a8 (s : St) : OX := y163 (s 0) (s 1) s.h
theorem yz5 : T0 ypq [.t 4] y1a8 := sq y160 fun _ => by kernel_rfl
def y13s (a b : AV) (h : Heap) : OX :=
(y163 a b h)
def y18d (s : St) : OX := y13s (s 0) (s 1) s.h
theorem yzv : T0 yuw [.t 4] y18d := sq yz5 fun _ => by kernel_rfl
@[simp] theorem y1d6 : E.pure 60 = true := rfl
theorem x_q6 (a b : AV) : (y8 E).p 60 [a, b] = y13s a b [⟨0, .dead⟩] :=
  (y33 (cf := c_q6) (by kernel_rfl) rfl).trans ((yzv _).trans (by kernel_rfl))
def yxi (h : Heap) : OX :=
(yo h (.bool true))
def y2b (s : St) : OX := yxi s.h
theorem yxm : T0 yso [.t 4] y2b := fun _ => by kernel_rfl
def yg5 (a b e c d : AV) (h : Heap) : OX :=
  W E 0 ydk ⟨[(0, a), (3, b), (55, e), (56, c), (57, d)], h⟩ y2b (y3 0 y2b xN) (finP [.t 4])
def y7j (s : St) : OX := yg5 (s 0) (s 3) (s 55) (s 56) (s 57) s.h
theorem yfx : T1 ydk y2b (y3 0 y2b xN) [.t 4] y7j := fun s => yv.trans (by kernel_rfl)
def yx4 (a b g c e : AV) (h : Heap) : OX :=
ob (y9 .add e (.int .i64 1)) fun d =>
(yg5 a b g c d h)
def y1m (s : St) : OX := yx4 (s 0) (s 3) (s 55) (s 56) (s 57) s.h
theorem yyz : T1 you y7j (y3 0 y2b xN) [.t 4] y1m := fun _ => by kernel_rfl
def yez (c d a k e j g i b : AV) (h : Heap) : OX :=
  W E 0 yej ⟨[(0, c), (3, d), (9, a), (55, k), (56, e), (57, j), (82, g), (83, i), (84, b)], h⟩ y1m (y3 2 y1m (y3 1 y1m (y3 0 y2b xN))) (finP [.t 4])
def y78 (s : St) : OX := yez (s 0) (s 3) (s 9) (s 55) (s 56) (s 57) (s 82) (s 83) (s 84) s.h
theorem yer : T1 yej y1m (y3 2 y1m (y3 1 y1m (y3 0 y2b xN))) [.t 4] y78 := fun s => yv.trans (by kernel_rfl)
def y15o (c d a l e k g j b : AV) (h : Heap) : OX :=
ob (y9 .add b (.int .i64 1)) fun i =>
(yez c d a l e k g j i h)
def y19i (s : St) : OX := y15o (s 0) (s 3) (s 9) (s 55) (s 56) (s 57) (s 82) (s 83) (s 84) s.h
theorem yzf : T1 ysv y78 (y3 2 y1m (y3 1 y1m (y3 0 y2b xN))) [.t 4] y19i := fun _ => by kernel_rfl
def y16j (e g a n i m c l b : AV) (h : Heap) : OX :=
ob (y2m 1 c b) fun k =>
ob (evLd false 1 k h) fun j =>
ob (y9 .eql j a) fun d =>
cnd d
 ((yo h (.bool false)))
 ((y15o e g a n i m c l b h))
def y19q (s : St) : OX := y16j (s 0) (s 3) (s 9) (s 55) (s 56) (s 57) (s 82) (s 83) (s 84) s.h
theorem yzj : T1 ytr y78 (y3 2 y1m (y3 1 y1m (y3 0 y2b xN))) [.t 4] y19q := sq yzf fun _ => by kernel_rfl
def yxe (a b g e c d k l i j : AV) (h : Heap) : OX :=
cnd j
 ((y16j a b g e c d k l i h))
 ((yx4 a b e c d h))
def y184 (s : St) : OX := yxe (s 0) (s 3) (s 9) (s 55) (s 56) (s 57) (s 82) (s 83) (s 84) (s 85) s.h
theorem yxk : T1 yq2 y78 (y3 2 y1m (y3 1 y1m (y3 0 y2b xN))) [.t 4] y184 := sq yzj fun _ => by kernel_rfl
def yxp (d e c l g k j b a : AV) (h : Heap) : OX :=
ob (y9 .lss a b) fun i =>
(yxe d e c l g k j b a i h)
def y17w (s : St) : OX := yxp (s 0) (s 3) (s 9) (s 55) (s 56) (s 57) (s 82) (s 83) (s 84) s.h
theorem yy7 : T1 ypu y78 (y3 2 y1m (y3 1 y1m (y3 0 y2b xN))) [.t 4] y17w := sq yxk fun _ => by kernel_rfl
theorem ygi (c d a k e j g i b : AV) (h : Heap) : yez c d a k e j g i b h = (yxp c d a k e j g i b h) :=
  y3y.trans ((y2u _ _ _ (n' := y78) (fun s => yer s)).trans ((yy7 _).trans (by kernel_rfl)))
theorem yxa : T1 yuq y1m (y3 1 y1m (y3 0 y2b xN)) [.t 4] y78 := fun s => y1p.trans (yer s)
def yos (d a g c m e l : AV) (h : Heap) : OX :=
ob (evFa 3 a) fun j =>
ob (evLd false 1 j h) fun i =>
ob (yf5 1 i none (some g)) fun b =>
ob (y1j 1 b h) fun k =>
(yez d a c m e l b k (.int .i64 0) h)
def y13g (s : St) : OX := yos (s 0) (s 3) (s 8) (s 9) (s 55) (s 56) (s 57) s.h
theorem yq3 : T1 ymx y1m (y3 1 y1m (y3 0 y2b xN)) [.t 4] y13g := sq yxa fun _ => by kernel_rfl
def ykw (e g j b d m r i p : AV) (h : Heap) : OX :=
ob (evUn .not m) fun a =>
gb a false (evFa 0 d) fun l =>
gb a false (evLd false 1 l h) fun o =>
gb a false (y9 .and o (.int .i64 512)) fun n =>
gb a false (y9 .eql n (.int .i64 0)) fun k =>
ob (yp a (.bool true) k) fun c =>
cnd c
 ((yo h (.bool false)))
 ((yos e g j b r i p h))
def y13y (s : St) : OX := ykw (s 0) (s 3) (s 8) (s 9) (s 10) (s 11) (s 55) (s 56) (s 57) s.h
theorem yr7 : T1 yma y1m (y3 1 y1m (y3 0 y2b xN)) [.t 4] y13y := sq yq3 fun _ => by kernel_rfl
def yty (d e i a p g o : AV) (h : Heap) : OX :=
ob (yq d) fun k =>
ob (evFa 0 k) fun n =>
ob (evLd false 1 n h) fun m =>
ob (yy false [2] (.agg [(.int .i64 0), (.str []), (.str []), .nils, .nils, .nils, .nils]) true m a h) fun c =>
ob (y4v 0 c) fun j =>
ob (y4v 1 c) fun l =>
oh (newC 0 (some 2) [(.int .i64 0), (.str []), (.str []), .nils, .nils, .nils, .nils] h) fun b h1 =>
oh (evSt 7 b j h1) fun _ h2 =>
(ykw d e i a b l p g o h2)
def y14s (s : St) : OX := yty (s 0) (s 3) (s 8) (s 9) (s 55) (s 56) (s 57) s.h
theorem ysd : T1 ykb y1m (y3 1 y1m (y3 0 y2b xN)) [.t 4] y14s := sq yr7 fun _ => by kernel_rfl
def ytv (d e b g a : AV) (h : Heap) : OX :=
ob (y2m 1 b a) fun i =>
ob (evLd false 1 i h) fun c =>
(yty d e a c b g a h)
def yhp (s : St) : OX := ytv (s 0) (s 3) (s 55) (s 56) (s 57) s.h
theorem ywe : T1 ylc y1m (y3 1 y1m (y3 0 y2b xN)) [.t 4] yhp := sq ysd fun _ => by kernel_rfl
theorem yuu : T1 yjh y1m (y3 0 y2b xN) [.t 4] yhp := fun s => y1p.trans (ywe s)
theorem yq4 : T1 yj1 y7j (y3 0 y2b xN) [.t 4] yhp := sq yyz yuu
def yfj (a b g c e d : AV) (h : Heap) : OX :=
cnd d
 ((ytv a b g c e h))
 ((yxi h))
def y145 (s : St) : OX := yfj (s 0) (s 3) (s 55) (s 56) (s 57) (s 58) s.h
theorem yt4 : T1 ymv y7j (y3 0 y2b xN) [.t 4] y145 := sq yq4 fun _ => by kernel_rfl
def yew (c d g a b : AV) (h : Heap) : OX :=
ob (y9 .lss b a) fun e =>
(yfj c d g a b e h)
def y167 (s : St) : OX := yew (s 0) (s 3) (s 55) (s 56) (s 57) s.h
theorem yr4 : T1 ykt y7j (y3 0 y2b xN) [.t 4] y167 := sq yt4 fun _ => by kernel_rfl
theorem yb4 (a b e c d : AV) (h : Heap) : yg5 a b e c d h = (yew a b e c d h) :=
  y3y.trans ((y2u _ _ _ (n' := y7j) (fun s => yfx s)).trans ((yr4 _).trans (by kernel_rfl)))
theorem yqw : T1 yjg y2b xN [.t 4] y7j := fun s => y1p.trans (yfx s)
def ym0 (c a : AV) (h : Heap) : OX :=
ob (evFa 3 a) fun d =>
ob (evLd false 1 d h) fun b =>
ob (y1j 1 b h) fun e =>
(yg5 c a b e (.int .i64 0) h)
def ysy (s : St) : OX := ym0 (s 0) (s 3) s.h
theorem ywl : T1 ykj y2b xN [.t 4] ysy := sq yqw fun _ => by kernel_rfl
theorem yps : T0 yij [.t 4] ysy := sq yxm ywl
def ymf (z b o x v : AV) (h : Heap) : OX :=
ob (evUn .not x) fun a =>
gb a false (evFa 0 o) fun w =>
gb a false (evLd false 1 w h) fun l =>
gb a false (y9 .and l (.int .i64 512)) fun A =>
gb a false (y9 .neq A (.int .i64 0)) fun j =>
ob (yp a (.bool true) j) fun e =>
gb e false (evFa 2 b) fun m =>
gb e false (evLd false 1 m h) fun i =>
gb e false (y9 .eql i (AV.str [83, 116, 114, 105, 110, 103])) fun y =>
ob (yp e (.bool true) y) fun d =>
gb d false (evFa 2 b) fun r =>
gb d false (evLd false 1 r h) fun p =>
gb d false (y9 .eql p (AV.str [83, 121, 115])) fun n =>
ob (yp d (.bool true) n) fun c =>
gb c false (some v) fun k =>
gb c false (some k) fun g =>
gb g true (evFa 2 b) fun t =>
gb g true (evLd false 1 t h) fun u =>
gb g true (y9 .neq u (AV.str [79, 98, 106, 101, 99, 116])) fun C =>
gb c false (yp g C (.bool false)) fun B =>
ob (yp c (.bool true) B) fun D =>
cnd D
 ((yo h (.bool false)))
 ((ym0 z b h))
def y11o (s : St) : OX := ymf (s 0) (s 3) (s 5) (s 6) (s 7) s.h
theorem yvl : T0 yit [.t 4] y11o := sq yps fun _ => by kernel_rfl
def ymz (e a b c : AV) (h : Heap) : OX :=
ob (evFa 0 a) fun i =>
ob (evLd false 1 i h) fun g =>
ob (y9 .and g (.int .i64 512)) fun d =>
ob (y9 .neq d (.int .i64 0)) fun j =>
(ymf e a b c j h)
def y13h (s : St) : OX := ymz (s 0) (s 3) (s 5) (s 6) s.h
theorem ysq : T0 yk7 [.t 4] y13h := sq yvl fun _ => by kernel_rfl
def yq5 (c d : AV) (h : Heap) : OX :=
ob (yq c) fun l =>
ob (evFa 0 l) fun b =>
ob (evLd false 1 b h) fun e =>
ob (evFa 2 d) fun g =>
ob (evLd false 1 g h) fun j =>
ob (yy false [2] (.agg [(.int .i64 0), (.str []), (.str []), .nils, .nils, .nils, .nils]) true e j h) fun i =>
ob (y4v 0 i) fun m =>
ob (y4v 1 i) fun k =>
oh (newC 0 (some 1) [(.int .i64 0), (.str []), (.str []), .nils, .nils, .nils, .nils] h) fun a h3 =>
oh (evSt 7 a m h3) fun _ h4 =>
okK (y3d [([], []), ([], []), ([], []), (ids1 b, []), ([], []), (ids1 g, []), (ids1 e, []), ([], []), ([], []), ([], []), ([], [0 + 1]), ([], ids1 a), ([], [])] [(3, 10), (5, 10), (6, 10)]) <|
(ymz c d a k h4)
def y15q (s : St) : OX := yq5 (s 0) (s 3) s.h
theorem yts : T0 yjp [.t 4] y15q := sq ysq fun _ => by kernel_rfl
def yqr (a c : AV) (h : Heap) : OX :=
oh (newC 0 (some 0) (cellsOf c) h) fun b h5 =>
(yq5 a b h5)
def y13u (s : St) : OX := yqr (s 0) (s 1) s.h
theorem yow : T0 yl9 [.t 4] y13u := sq yts fun _ => by kernel_rfl
@[simp] theorem y1d3 : E.pure 61 = true := rfl
theorem y1bw (a b : AV) : (y8 E).p 61 [a, b] = yqr a b [⟨0, .dead⟩, ⟨0, .dead⟩, ⟨0, .dead⟩] :=
  (y33 (cf := y17g) (by kernel_rfl) rfl).trans ((yow _).trans (by kernel_rfl))
def yvw (fb : Nat) (b g c : AV) (h : Heap) : Option (AV × Heap) :=
ob (yq b) fun e =>
ob (evFa 2 e) fun d =>
ob (evLd false 1 d h) fun a =>
oh (y3b false [2] a g c h) fun _ h1 =>
(some ((.bool true), h1))
def y40 (fb : Nat) (s : St) : Option (AV × Heap) := yvw fb (s 0) (s 1) (s 7) s.h
theorem yya (fb : Nat) (s : St) : W E fb yop s (finI [.t 6]) xN (finI [.t 6]) = y40 fb s :=
  by kernel_rfl
def ycy (fb : Nat) (a i b c d e g : AV) (h : Heap) : Option (AV × Heap) :=
  W E fb ye7 ⟨[(0, a), (1, i), (2, b), (7, c), (45, d), (46, e), (47, g)], h⟩ (y40 fb) (y3 0 (y40 fb) xN) (finI [.t 6])
def y6l (fb : Nat) (s : St) : Option (AV × Heap) := ycy fb (s 0) (s 1) (s 2) (s 7) (s 45) (s 46) (s 47) s.h
theorem yfd (fb : Nat) (s : St) : W E fb ye7 s (y40 fb) (y3 0 (y40 fb) xN) (finI [.t 6]) = y6l fb s := yv.trans (by kernel_rfl)
def y16d (fb : Nat) (a j c d e g i : AV) (h : Heap) : Option (AV × Heap) :=
ob (y9 .add i (.int .i64 1)) fun b =>
(ycy fb a j c d e g b h)
def y70 (fb : Nat) (s : St) : Option (AV × Heap) := y16d fb (s 0) (s 1) (s 2) (s 7) (s 45) (s 46) (s 47) s.h
theorem yzt (fb : Nat) (s : St) : W E fb yr9 s (y6l fb) (y3 0 (y40 fb) xN) (finI [.t 6]) = y70 fb s :=
  by kernel_rfl
def y14h (fb : Nat) (a b : AV) (h : Heap) : Option Heap :=
oh (y3b false [2] a b (.bool true) h) fun _ h2 =>
(some (killAll fb [] h2))
def y18v (fb : Nat) (s : St) : Option Heap := y14h fb (s 7) (s 12) s.h
theorem yzx (fb : Nat) (s : St) : W E fb ytz s (fun s3 => some (killAll fb [] s3.h)) xN (fun _ => none) = y18v fb s :=
  by kernel_rfl
def y13o (fb : Nat) (a o e b j i k l : AV) (h : Heap) : Option (AV × Heap) :=
ob (yq a) fun n =>
ob (evFa 2 n) fun m =>
ob (evLd false 1 m h) fun c =>
ob (yy false [2] .nilm false c j h) fun d =>
orm d (fun q h3 =>
ob (y4v 0 (AV.tup [q.1, q.2])) fun g =>
(y14h fb b g h3)) h fun h4 =>
(y16d fb a o e b i k l h4)
def y0s (fb : Nat) (s : St) : Option (AV × Heap) := y13o fb (s 0) (s 1) (s 2) (s 7) (s 11) (s 45) (s 46) (s 47) s.h
theorem yxr (fb : Nat) (s : St) : W E fb ypd s (y70 fb) (y3 1 (y70 fb) (y3 0 (y40 fb) xN)) (finI [.t 6]) = y0s fb s :=
  (yru (nk := (y70 fb)) (fun s2 => yzx fb s2) (fun s => rfl)).trans (by kernel_rfl)
def y139 (fb : Nat) (a l b g c i j k : AV) (h : Heap) : Option (AV × Heap) :=
oh (y7 E (y8 E) fb none false 62 [a, c, b] h) fun e h5 =>
ob (evUn .not e) fun d =>
cnd d
 ((some ((.bool false), h5)))
 ((y13o fb a l b g c i j k h5))
def y0u (fb : Nat) (s : St) : Option (AV × Heap) := y139 fb (s 0) (s 1) (s 2) (s 7) (s 11) (s 45) (s 46) (s 47) s.h
theorem yxx (fb : Nat) (s : St) : W E fb ype s (y70 fb) (y3 1 (y70 fb) (y3 0 (y40 fb) xN)) (finI [.t 6]) = y0u fb s :=
  (y6x (k := (y0s fb)) (fun s => yxr fb s)).trans (by kernel_rfl)
def y12x (fb : Nat) (c k e i a j b : AV) (h : Heap) : Option (AV × Heap) :=
ob (y2m 1 a b) fun d =>
ob (evLd false 1 d h) fun g =>
(y139 fb c k e i g a j b h)
def yiv (fb : Nat) (s : St) : Option (AV × Heap) := y12x fb (s 0) (s 1) (s 2) (s 7) (s 45) (s 46) (s 47) s.h
theorem yz9 (fb : Nat) (s : St) : W E fb yp9 s (y70 fb) (y3 1 (y70 fb) (y3 0 (y40 fb) xN)) (finI [.t 6]) = yiv fb s :=
  (y6x (k := (y0u fb)) (fun s => yxx fb s)).trans (by kernel_rfl)
theorem yxq (fb : Nat) (s : St) : W E fb ytp s (y70 fb) (y3 0 (y40 fb) xN) (finI [.t 6]) = yiv fb s :=
  y1p.trans (yz9 fb s)
theorem yye (fb : Nat) (s : St) : W E fb yu7 s (y6l fb) (y3 0 (y40 fb) xN) (finI [.t 6]) = yiv fb s :=
  (y6x (k := (y70 fb)) (fun s => yzt fb s)).trans (yxq fb s)
def ylb (fb : Nat) (a c e b g i j d : AV) (h : Heap) : Option (AV × Heap) :=
cnd d
 ((y12x fb a c e b g i j h))
 ((yvw fb a c b h))
def ytm (fb : Nat) (s : St) : Option (AV × Heap) := ylb fb (s 0) (s 1) (s 2) (s 7) (s 45) (s 46) (s 47) (s 48) s.h
theorem yrd (fb : Nat) (s : St) : W E fb ym4 s (y6l fb) (y3 0 (y40 fb) xN) (finI [.t 6]) = ytm fb s :=
  (y6x (k := (yiv fb)) (fun s => yye fb s)).trans (by kernel_rfl)
def ymo (fb : Nat) (d j e g i a b : AV) (h : Heap) : Option (AV × Heap) :=
ob (y9 .lss b a) fun c =>
(ylb fb d j e g i a b c h)
def y13m (fb : Nat) (s : St) : Option (AV × Heap) := ymo fb (s 0) (s 1) (s 2) (s 7) (s 45) (s 46) (s 47) s.h
theorem yug (fb : Nat) (s : St) : W E fb yj4 s (y6l fb) (y3 0 (y40 fb) xN) (finI [.t 6]) = y13m fb s :=
  (y6x (k := (ytm fb)) (fun s => yrd fb s)).trans (by kernel_rfl)
theorem yft (fb : Nat) (a i b c d e g : AV) (h : Heap) : ycy fb a i b c d e g h = (ymo fb a i b c d e g h) :=
  y3y.trans ((y2u _ _ _ (n' := (y6l fb)) (fun s => yfd fb s)).trans ((yug fb _).trans (by kernel_rfl)))
theorem ysx (fb : Nat) (s : St) : W E fb yj8 s (y40 fb) xN (finI [.t 6]) = y6l fb s :=
  y1p.trans (yfd fb s)
def yfh (fb : Nat) (b g c d a : AV) (h : Heap) : Option (AV × Heap) :=
ob (y1j 1 a h) fun e =>
(ycy fb b g c d a e (.int .i64 0) h)
def yi6 (fb : Nat) (s : St) : Option (AV × Heap) := yfh fb (s 0) (s 1) (s 2) (s 7) (s 9) s.h
theorem yok (fb : Nat) (s : St) : W E fb yis s (y40 fb) xN (finI [.t 6]) = yi6 fb s :=
  (y6x (k := (y6l fb)) (fun s => ysx fb s)).trans (by kernel_rfl)
theorem yub (fb : Nat) (s : St) : W E fb yix s (finI [.t 6]) xN (finI [.t 6]) = yi6 fb s :=
  (y6x (k := (y40 fb)) (fun s => yya fb s)).trans (yok fb s)
def ypc (fb : Nat) (b g d e c a : AV) (h : Heap) : Option (AV × Heap) :=
ob (evFa 2 c) fun m =>
ob (evLd false 1 m h) fun j =>
ob (y9 .neq j (AV.str [])) fun l =>
cnd l
 (ob (evFa 2 c) fun n =>
ob (evLd false 1 n h) fun k =>
oh (y28 fb (some 3) 1 1 [(.str [])] [(0, k)] h) fun i h6 =>
oh (y2t fb (some 4) 1 16 a i h6) fun o h7 =>
(yfh fb b g d e o h7))
 ((yfh fb b g d e a h))
def ys1 (fb : Nat) (s : St) : Option (AV × Heap) := ypc fb (s 0) (s 1) (s 2) (s 7) (s 8) (s 9) s.h
theorem yv6 (fb : Nat) (s : St) : W E fb ym7 s (finI [.t 6]) xN (finI [.t 6]) = ys1 fb s :=
  (y6x (k := (yi6 fb)) (fun s => yub fb s)).trans (by kernel_rfl)
def yl5 (fb : Nat) (c j e g a : AV) (h : Heap) : Option (AV × Heap) :=
ob (evFa 3 a) fun b =>
ob (evLd false 1 b h) fun d =>
oh (y2t fb (some 2) 1 16 AV.nils d h) fun i h8 =>
(ypc fb c j e g a i h8)
def yph (fb : Nat) (s : St) : Option (AV × Heap) := yl5 fb (s 0) (s 1) (s 2) (s 7) (s 8) s.h
theorem yrn (fb : Nat) (s : St) : W E fb ykh s (finI [.t 6]) xN (finI [.t 6]) = yph fb s :=
  (y6x (k := (ys1 fb)) (fun s => yv6 fb s)).trans (by kernel_rfl)
def yst (fb : Nat) (a c i k : AV) (h : Heap) : Option (AV × Heap) :=
ob (yq a) fun g =>
ob (evFa 0 g) fun d =>
ob (evLd false 1 d h) fun e =>
ob (yy false [2] (.agg [(.int .i64 0), (.str []), (.str []), .nils, .nils, .nils, .nils]) false e c h) fun j =>
oh (newC fb (some 1) [(.int .i64 0), (.str []), (.str []), .nils, .nils, .nils, .nils] h) fun b h9 =>
oh (evSt 7 b j h9) fun _ h10 =>
(yl5 fb a c i k b h10)
def yvo (fb : Nat) (s : St) : Option (AV × Heap) := yst fb (s 0) (s 1) (s 2) (s 7) s.h
theorem yrj (fb : Nat) (s : St) : W E fb yl4 s (finI [.t 6]) xN (finI [.t 6]) = yvo fb s :=
  (y6x (k := (yph fb)) (fun s => yrn fb s)).trans (by kernel_rfl)
def yw9 (fb : Nat) (c b d : AV) (h : Heap) : Option (AV × Heap) :=
oh (mkmC fb (some 0) h) fun a h11 =>
oh (y3b false [2] a b (.bool true) h11) fun _ h12 =>
(yst fb c b d a h12)
def yt1 (fb : Nat) (s : St) : Option (AV × Heap) := yw9 fb (s 0) (s 1) (s 2) s.h
theorem yuc (fb : Nat) (s : St) : W E fb ykc s (finI [.t 6]) xN (finI [.t 6]) = yt1 fb s :=
  (y6x (k := (yvo fb)) (fun s => yrj fb s)).trans (by kernel_rfl)
def yp7 (fb : Nat) (c b a : AV) (h : Heap) : Option (AV × Heap) :=
oh (y3b false [2] a b (.bool true) h) fun _ h13 =>
(yw9 fb c b a h13)
def ywa (fb : Nat) (s : St) : Option (AV × Heap) := yp7 fb (s 0) (s 1) (s 2) s.h
theorem yt8 (fb : Nat) (s : St) : W E fb yl0 s (finI [.t 6]) xN (finI [.t 6]) = ywa fb s :=
  (y6x (k := (yt1 fb)) (fun s => yuc fb s)).trans (by kernel_rfl)
def yvn (fb : Nat) (c b a : AV) (h : Heap) : Option (AV × Heap) :=
ob (yy false [2] (.bool false) false a b h) fun d =>
cnd d
 ((some ((.bool false), h)))
 ((yp7 fb c b a h))
def ywj (fb : Nat) (s : St) : Option (AV × Heap) := yvn fb (s 0) (s 1) (s 2) s.h
theorem yrs (fb : Nat) (s : St) : W E fb yka s (finI [.t 6]) xN (finI [.t 6]) = ywj fb s :=
  (y6x (k := (ywa fb)) (fun s => yt8 fb s)).trans (by kernel_rfl)
def yp0 (fb : Nat) (a b e : AV) (h : Heap) : Option (AV × Heap) :=
ob (yq a) fun d =>
ob (evFa 2 d) fun c =>
ob (evLd false 1 c h) fun i =>
ob (yy false [2] .nilm false i b h) fun g =>
ob (y5t 2 true g AV.nilm) fun j =>
cnd j
 ((some ((.bool true), h)))
 ((yvn fb a b e h))
def yoj (fb : Nat) (s : St) : Option (AV × Heap) := yp0 fb (s 0) (s 1) (s 2) s.h
theorem ysf (fb : Nat) (s : St) : W E fb ykk s (finI [.t 6]) xN (finI [.t 6]) = yoj fb s :=
  (y6x (k := (ywj fb)) (fun s => yrs fb s)).trans (by kernel_rfl)
def ymq (fb : Nat) (a c b : AV) (h : Heap) : Option (AV × Heap) :=
(yp0 fb a c b h)
def y157 (fb : Nat) (s : St) : Option (AV × Heap) := ymq fb (s 0) (s 1) (s 2) s.h
theorem yrq (fb : Nat) (s : St) : W E fb yj9 s (finI [.t 6]) xN (finI [.t 6]) = y157 fb s :=
  (y6x (k := (yoj fb)) (fun s => ysf fb s)).trans (by kernel_rfl)
@[simp] theorem y1ce : E.pure 62 = false := rfl
theorem y1c9 (fb : Nat) (a c b : AV) (h : Heap) : (y8 E).i 62 [a, c, b] fb h = ymq fb a c b (if fb = h.length then h ++ yi 5 else h) :=
  (y13z (cf := y19v) (by kernel_rfl) rfl).trans ((yrq fb _).trans (by kernel_rfl))
def q5_1 (h : Heap) : OX :=
(yo h (.int .i64 0))
def y1bm (s : St) : OX := q5_1 s.h
theorem y15v : T0 y09 [.t 2] y1bm := fun _ => by kernel_rfl
def q5_2 (b : AV) (h : Heap) : OX :=
ob (y9 .eql b (AV.str [73])) fun e =>
cnd e
 ((yo h (.int .i64 1)))
 (ob (y9 .eql b (AV.str [74])) fun l =>
cnd l
 ((yo h (.int .i64 2)))
 (ob (y9 .eql b (AV.str [78])) fun c =>
gb c false (some b) fun i =>
gb c false (y9 .neq i (AV.str [])) fun g =>
gb c false (some g) fun a =>
gb a true (some b) fun o =>
gb a true (y3c o (.int .i64 0)) fun j =>
gb a true (y9 .eql j (.int .u8 76)) fun m =>
gb a true (some m) fun d =>
gb d false (some b) fun k =>
gb d false (y3c k (.int .i64 0)) fun r =>
gb d false (y9 .eql r (.int .u8 91)) fun t =>
gb a true (yp d (.bool true) t) fun n =>
gb c false (yp a n (.bool false)) fun u =>
ob (yp c (.bool true) u) fun p =>
cnd p
 ((yo h (.int .i64 3)))
 ((q5_1 h))))
def y1c1 (s : St) : OX := q5_2 (s 0) s.h
theorem y146 : T0 y114 [.t 2] y1c1 := sq y15v fun _ => by kernel_rfl
def q5_3 (a : AV) (h : Heap) : OX :=
(q5_2 a h)
def y1b8 (s : St) : OX := q5_3 (s 0) s.h
theorem y11d : T0 y115 [.t 2] y1b8 := sq y146 fun _ => by kernel_rfl
@[simp] theorem y1c2 : E.pure 34 = true := rfl
theorem x_q5 (a : AV) : (y8 E).p 34 [a] = q5_3 a [] :=
  (y33 (cf := c_q5) (by kernel_rfl) rfl).trans ((y11d _).trans (by kernel_rfl))
def q3_1 (h : Heap) : OX :=
(yo h (AV.str []))
def y1c5 (s : St) : OX := q3_1 s.h
theorem y121 : T0 y116 [.t 2] y1c5 := fun _ => by kernel_rfl
def q3_2 (b : AV) (h : Heap) : OX :=
ob (y1j 0 b h) fun d =>
ob (y9 .gtr d (.int .i64 2)) fun c =>
gb c true (some b) fun e =>
gb c true (y3c e (.int .i64 0)) fun j =>
gb c true (y9 .eql j (.int .u8 76)) fun o =>
ob (yp c o (.bool false)) fun a =>
gb a true (some b) fun g =>
gb a true (some d) fun i =>
gb a true (y9 .sub i (.int .i64 1)) fun n =>
gb a true (y3c g n) fun k =>
gb a true (y9 .eql k (.int .u8 59)) fun l =>
ob (yp a l (.bool false)) fun p =>
cnd p
 (ob (y9 .sub d (.int .i64 1)) fun r =>
ob (yek b (some (.int .i64 1)) (some r)) fun m =>
(yo h m))
 ((q3_1 h))
def y1d4 (s : St) : OX := q3_2 (s 0) s.h
theorem y14r : T0 y0g [.t 2] y1d4 := sq y121 fun _ => by kernel_rfl
def q3_3 (a : AV) (h : Heap) : OX :=
(q3_2 a h)
def y1d2 (s : St) : OX := q3_3 (s 0) s.h
theorem y12v : T0 y0c [.t 2] y1d2 := sq y14r fun _ => by kernel_rfl
@[simp] theorem y1cy : E.pure 35 = true := rfl
theorem x_q3 (a : AV) : (y8 E).p 35 [a] = q3_3 a [] :=
  (y33 (cf := c_q3) (by kernel_rfl) rfl).trans ((y12v _).trans (by kernel_rfl))
def q4_1 (h : Heap) : OX :=
(yo h (AV.str []))
def y1cc (s : St) : OX := q4_1 s.h
theorem y15t : T0 y0p [.t 2] y1cc := fun _ => by kernel_rfl
def q4_2 (b : AV) (h : Heap) : OX :=
ob (y1j 0 b h) fun j =>
ob (y9 .gtr j (.int .i64 1)) fun a =>
gb a true (some b) fun i =>
gb a true (y3c i (.int .i64 0)) fun g =>
gb a true (y9 .eql g (.int .u8 91)) fun c =>
ob (yp a c (.bool false)) fun d =>
cnd d
 (ob (yek b (some (.int .i64 1)) none) fun e =>
(yo h e))
 ((q4_1 h))
def y1cv (s : St) : OX := q4_2 (s 0) s.h
theorem y12o : T0 y0x [.t 2] y1cv := sq y15t fun _ => by kernel_rfl
def q4_3 (a : AV) (h : Heap) : OX :=
(q4_2 a h)
def y1by (s : St) : OX := q4_3 (s 0) s.h
theorem y14c : T0 y0a [.t 2] y1by := sq y12o fun _ => by kernel_rfl
@[simp] theorem y1c4 : E.pure 36 = true := rfl
theorem x_q4 (a : AV) : (y8 E).p 36 [a] = q4_3 a [] :=
  (y33 (cf := c_q4) (by kernel_rfl) rfl).trans ((y14c _).trans (by kernel_rfl))
@[simp] theorem y1c6 : E.pure 37 = true := rfl
@[simp] theorem y1bx : E.pure 44 = true := rfl
end
end Go.Vm
