/- Functions of the machine as plain functions that go on with what follows. -/
import Derived.Test.YtgbajicpokolcaaLEnv
set_option linter.unusedSimpArgs false
set_option linter.unusedVariables false
set_option linter.unusedSectionVars false
namespace Go.Vm
noncomputable section
def q5_1 (v5 : AV) (h : Heap) : OX :=
(y8 h v5)
def yio (s : St) : OX := q5_1 (s 5) s.h
theorem y270 : T0 y22a [.t 4] yio := fun _ => by kernel_rfl
def y1kt (v1 v5 v14 v15 : AV) (h : Heap) : OX :=
  W E 0 yuk ⟨[(1, v1), (5, v5), (14, v14), (15, v15)], h⟩ yio (y1 0 yio xN) (finP [.t 4])
def yi9 (s : St) : OX := y1kt (s 1) (s 5) (s 14) (s 15) s.h
theorem yxl : T1 yuk yio (y1 0 yio xN) [.t 4] yi9 := fun s => yd.trans (by kernel_rfl)
def q5_3 (v1 v5 v14 v15 : AV) (h : Heap) : OX :=
ob (y3 .add v15 (AV.int .i64 1)) fun v30 =>
(y1kt v1 v5 v14 v30 h)
def y2oh (s : St) : OX := q5_3 (s 1) (s 5) (s 14) (s 15) s.h
theorem y28n : T1 y20z yi9 (y1 0 yio xN) [.t 4] y2oh := fun _ => by kernel_rfl
def q5_4 (v1 v5 v14 v15 : AV) (h : Heap) : OX :=
ob (yg 1 v5 v15) fun v20 =>
ob (evLd false 1 v20 h) fun v21 =>
ob (yg 1 v1 v15) fun v24 =>
ob (evLd false 1 v24 h) fun v25 =>
ob (y3 .neq v21 v25) fun v26 =>
cnd v26
 (ob (yg 1 v5 v15) fun v29 =>
oh (evSt 1 v29 (AV.int .i64 (-1)) h) fun _ h1 =>
(q5_3 v1 v5 v14 v15 h1))
 ((q5_3 v1 v5 v14 v15 h))
def y2o7 (s : St) : OX := q5_4 (s 1) (s 5) (s 14) (s 15) s.h
theorem y2bg : T1 y20s yi9 (y1 0 yio xN) [.t 4] y2o7 := sq y28n fun _ => by kernel_rfl
def q5_5 (v1 v5 v14 v15 v16 : AV) (h : Heap) : OX :=
cnd v16
 ((q5_4 v1 v5 v14 v15 h))
 ((q5_1 v5 h))
def y2of (s : St) : OX := q5_5 (s 1) (s 5) (s 14) (s 15) (s 16) s.h
theorem y27n : T1 y218 yi9 (y1 0 yio xN) [.t 4] y2of := sq y2bg fun _ => by kernel_rfl
def q5_6 (v1 v5 v14 v15 : AV) (h : Heap) : OX :=
ob (y3 .lss v15 v14) fun v16 =>
(q5_5 v1 v5 v14 v15 v16 h)
def y2lj (s : St) : OX := q5_6 (s 1) (s 5) (s 14) (s 15) s.h
theorem y25n : T1 y21z yi9 (y1 0 yio xN) [.t 4] y2lj := sq y27n fun _ => by kernel_rfl
theorem ywa (v1 v5 v14 v15 : AV) (h : Heap) : y1kt v1 v5 v14 v15 h = (q5_6 v1 v5 v14 v15 h) :=
  y1t.trans ((y12 _ _ _ (n' := yi9) (fun s => yxl s)).trans ((y25n _).trans (by kernel_rfl)))
theorem y2b2 : T1 y21q yio xN [.t 4] yi9 := fun s => yq.trans (yxl s)
def q5_8 (v1 v5 : AV) (h : Heap) : OX :=
ob (yt 1 v5 h) fun v14 =>
(y1kt v1 v5 v14 (AV.int .i64 0) h)
def y2iv (s : St) : OX := q5_8 (s 1) (s 5) s.h
theorem y2ar : T1 y22k yio xN [.t 4] y2iv := sq y2b2 fun _ => by kernel_rfl
theorem y28e : T0 y230 [.t 4] y2iv := sq y270 y2ar
def y2an (v0 v1 : AV) (h : Heap) : OX :=
oh (y4 E (y5 E) 0 (some 1) false 153 [v0] h) fun v12 h2 =>
(q5_8 v1 v12 h2)
def y2di (s : St) : OX := y2an (s 0) (s 1) s.h
theorem y1tv : T0 y1ki [.t 4] y2di := sq y28e fun _ => by kernel_rfl
def y1w5 (v0 v1 : AV) (h : Heap) : OX :=
ob (y4u 1 false v0 AV.nils) fun v8 =>
cnd v8
 (oh (y4 E (y5 E) 0 (some 0) false 153 [v1] h) fun v10 h3 =>
(y8 h3 v10))
 ((y2an v0 v1 h))
def y2i6 (s : St) : OX := y1w5 (s 0) (s 1) s.h
theorem y1us : T0 y1kd [.t 4] y2i6 := sq y1tv fun _ => by kernel_rfl
def y1zb (v0 v1 : AV) (h : Heap) : OX :=
(y1w5 v0 v1 h)
def y2dw (s : St) : OX := y1zb (s 0) (s 1) s.h
theorem y1v8 : T0 y1lm [.t 4] y2dw := sq y1us fun _ => by kernel_rfl
@[simp] theorem y2jw : E.pure 155 = true := rfl
theorem x_q5 (v0 v1 : AV) : (y5 E).p 155 [v0, v1] = y1zb v0 v1 [⟨0, .dead⟩, ⟨0, .dead⟩] :=
  (yu (cf := c_q5) (by kernel_rfl) rfl).trans ((y1v8 _).trans (by kernel_rfl))
def y1e4 (h : Heap) : OX :=
(y8 h (AV.bool true))
def y62 (s : St) : OX := y1e4 s.h
theorem y1kf : T0 yzk [.t 4] y62 := fun _ => by kernel_rfl
def yir (v0 v1 v12 v13 : AV) (h : Heap) : OX :=
  W E 0 yhv ⟨[(0, v0), (1, v1), (12, v12), (13, v13)], h⟩ y62 (y1 0 y62 xN) (finP [.t 4])
def y86 (s : St) : OX := yir (s 0) (s 1) (s 12) (s 13) s.h
theorem ylc : T1 yhv y62 (y1 0 y62 xN) [.t 4] y86 := fun s => yd.trans (by kernel_rfl)
def y1g7 (v0 v1 v12 v13 : AV) (h : Heap) : OX :=
ob (y3 .add v13 (AV.int .i64 1)) fun v25 =>
(yir v0 v1 v12 v25 h)
def y29y (s : St) : OX := y1g7 (s 0) (s 1) (s 12) (s 13) s.h
theorem y1dd : T1 y12b y86 (y1 0 y62 xN) [.t 4] y29y := fun _ => by kernel_rfl
def y1lz (v0 v1 v12 v13 : AV) (h : Heap) : OX :=
ob (yg 1 v0 v13) fun v18 =>
ob (evLd false 1 v18 h) fun v19 =>
ob (yg 1 v1 v13) fun v22 =>
ob (evLd false 1 v22 h) fun v23 =>
ob (y3 .neq v19 v23) fun v24 =>
cnd v24
 ((y8 h (AV.bool false)))
 ((y1g7 v0 v1 v12 v13 h))
def y2bb (s : St) : OX := y1lz (s 0) (s 1) (s 12) (s 13) s.h
theorem y1cr : T1 yz2 y86 (y1 0 y62 xN) [.t 4] y2bb := sq y1dd fun _ => by kernel_rfl
def y135 (v0 v1 v12 v13 v14 : AV) (h : Heap) : OX :=
cnd v14
 ((y1lz v0 v1 v12 v13 h))
 ((y1e4 h))
def y259 (s : St) : OX := y135 (s 0) (s 1) (s 12) (s 13) (s 14) s.h
theorem y1ga : T1 ywn y86 (y1 0 y62 xN) [.t 4] y259 := sq y1cr fun _ => by kernel_rfl
def yw9 (v0 v1 v12 v13 : AV) (h : Heap) : OX :=
ob (y3 .lss v13 v12) fun v14 =>
(y135 v0 v1 v12 v13 v14 h)
def y23i (s : St) : OX := yw9 (s 0) (s 1) (s 12) (s 13) s.h
theorem y1l3 : T1 ywt y86 (y1 0 y62 xN) [.t 4] y23i := sq y1ga fun _ => by kernel_rfl
theorem ylu (v0 v1 v12 v13 : AV) (h : Heap) : yir v0 v1 v12 v13 h = (yw9 v0 v1 v12 v13 h) :=
  y1t.trans ((y12 _ _ _ (n' := y86) (fun s => ylc s)).trans ((y1l3 _).trans (by kernel_rfl)))
theorem y1il : T1 y14u y62 xN [.t 4] y86 := fun s => yq.trans (ylc s)
def y1ds (v0 v1 : AV) (h : Heap) : OX :=
ob (yt 1 v0 h) fun v12 =>
(yir v0 v1 v12 (AV.int .i64 0) h)
def y1h4 (s : St) : OX := y1ds (s 0) (s 1) s.h
theorem y1in : T1 y11j y62 xN [.t 4] y1h4 := sq y1il fun _ => by kernel_rfl
theorem y1f2 : T0 y113 [.t 4] y1h4 := sq y1kf y1in
def ytd (v0 v1 : AV) (h : Heap) : OX :=
ob (yt 1 v0 h) fun v7 =>
ob (yt 1 v1 h) fun v9 =>
ob (y3 .neq v7 v9) fun v10 =>
cnd v10
 ((y8 h (AV.bool false)))
 ((y1ds v0 v1 h))
def y1vr (s : St) : OX := ytd (s 0) (s 1) s.h
theorem y177 : T0 yrf [.t 4] y1vr := sq y1f2 fun _ => by kernel_rfl
def ytv (v0 v1 : AV) (h : Heap) : OX :=
(ytd v0 v1 h)
def y1tw (s : St) : OX := ytv (s 0) (s 1) s.h
theorem y15t : T0 yoy [.t 4] y1tw := sq y177 fun _ => by kernel_rfl
@[simp] theorem y2k2 : E.pure 156 = true := rfl
theorem y2dp (v0 v1 : AV) : (y5 E).p 156 [v0, v1] = ytv v0 v1 [] :=
  (yu (cf := y21r) (by kernel_rfl) rfl).trans ((y15t _).trans (by kernel_rfl))
def q3_1 (v0 v5 v6 : AV) (h : Heap) : OX :=
oh (y4 E (y5 E) 0 none false 154 [v0, v5] h) fun v62 h1 =>
ob (yg 1 v0 v5) fun v66 =>
oh (evSt 1 v66 v6 h1) fun _ h2 =>
(y8 h2 v0)
def y2mm (s : St) : OX := q3_1 (s 0) (s 5) (s 6) s.h
theorem y24u : T0 y22t [.t 4] y2mm := fun _ => by kernel_rfl
def q3_2 (v0 v3 v5 v6 : AV) (h : Heap) : OX :=
ob (evFa 0 v3) fun v25 =>
ob (evLd false 1 v25 h) fun v26 =>
ob (y3 .eql v26 (AV.int .i64 4)) fun v27 =>
gb v27 true (evFa 2 v3) fun v29 =>
gb v27 true (evLd false 1 v29 h) fun v30 =>
gb v27 true (some v5) fun v31 =>
gb v27 true (y3 .neq v30 v31) fun v32 =>
ob (y7 v27 v32 (AV.bool false)) fun v33 =>
cnd v33
 (ob (evFa 2 v3) fun v34 =>
ob (evLd false 1 v34 h) fun v35 =>
ob (yg 1 v0 v35) fun v38 =>
ob (evLd false 1 v38 h) fun v39 =>
ob (y3 .geq v39 (AV.int .i64 0)) fun v40 =>
gb v40 true (some v0) fun v42 =>
gb v40 true (some v35) fun v43 =>
gb v40 true (yg 1 v42 v43) fun v44 =>
gb v40 true (evLd false 1 v44 h) fun v45 =>
gb v40 true (some v5) fun v46 =>
gb v40 true (y3 .neq v45 v46) fun v47 =>
ob (y7 v40 v47 (AV.bool false)) fun v48 =>
cnd v48
 (ob (yg 1 v0 v35) fun v51 =>
ob (evLd false 1 v51 h) fun v52 =>
(q3_1 v0 v5 v52 h))
 (ob (yg 1 v0 v35) fun v55 =>
ob (evLd false 1 v55 h) fun v56 =>
ob (y3 .eql v56 v5) fun v58 =>
cnd v58
 ((y8 h v0))
 ((q3_1 v0 v5 v35 h))))
 ((q3_1 v0 v5 v6 h))
def y2mo (s : St) : OX := q3_2 (s 0) (s 3) (s 5) (s 6) s.h
theorem y26d : T0 y224 [.t 4] y2mo := sq y24u fun _ => by kernel_rfl
def q3_3 (v0 v3 v5 : AV) (h : Heap) : OX :=
(q3_2 v0 v3 v5 (AV.int .i64 (-1)) h)
def y2nc (s : St) : OX := q3_3 (s 0) (s 3) (s 5) s.h
theorem y26k : T0 y22z [.t 4] y2nc := sq y26d fun _ => by kernel_rfl
def q3_4 (v0 v3 v5 : AV) (h : Heap) : OX :=
ob (y3 .lss v5 (AV.int .i64 0)) fun v12 =>
gb v12 false (evFa 0 v3) fun v14 =>
gb v12 false (evLd false 1 v14 h) fun v15 =>
gb v12 false (y3 .eql v15 (AV.int .i64 4)) fun v16 =>
gb v12 false (some v16) fun v17 =>
gb v17 true (evFa 2 v3) fun v18 =>
gb v17 true (evLd false 1 v18 h) fun v19 =>
gb v17 true (some v5) fun v20 =>
gb v17 true (y3 .eql v19 v20) fun v21 =>
gb v12 false (y7 v17 v21 (AV.bool false)) fun v22 =>
ob (y7 v12 (AV.bool true) v22) fun v23 =>
cnd v23
 ((y8 h v0))
 ((q3_3 v0 v3 v5 h))
def y2lk (s : St) : OX := q3_4 (s 0) (s 3) (s 5) s.h
theorem y29i : T0 y212 [.t 4] y2lk := sq y26k fun _ => by kernel_rfl
def q3_5 (v0 v3 : AV) (h : Heap) : OX :=
ob (evLd true 9 v3 h) fun v9 =>
oh (y4 E (y5 E) 0 none true 9 [v9] h) fun v10 h3 =>
(q3_4 v0 v3 v10 h3)
def y2mp (s : St) : OX := q3_5 (s 0) (s 3) s.h
theorem y2am : T0 y223 [.t 4] y2mp := sq y29i fun _ => by kernel_rfl
def q3_6 (v0 v3 : AV) (h : Heap) : OX :=
oh (y4 E (y5 E) 0 (some 1) false 153 [v0] h) fun v8 h4 =>
(q3_5 v8 v3 h4)
def y2l2 (s : St) : OX := q3_6 (s 0) (s 3) s.h
theorem y241 : T0 y238 [.t 4] y2l2 := sq y2am fun _ => by kernel_rfl
def q3_7 (v0 v1 : AV) (h : Heap) : OX :=
oh (newC 0 (some 0) (cellsOf v1) h) fun v3 h5 =>
(q3_6 v0 v3 h5)
def y2l7 (s : St) : OX := q3_7 (s 0) (s 1) s.h
theorem y293 : T0 y22b [.t 4] y2l7 := sq y241 fun _ => by kernel_rfl
@[simp] theorem y2kb : E.pure 152 = true := rfl
theorem x_q3 (v0 v1 : AV) : (y5 E).p 152 [v0, v1] = q3_7 v0 v1 [⟨0, .dead⟩, ⟨0, .dead⟩] :=
  (yu (cf := c_q3) (by kernel_rfl) rfl).trans ((y293 _).trans (by kernel_rfl))
def yju (v2 v4 : AV) (h : Heap) : OX :=
ob (evLd true 9 v2 h) fun v38 =>
oh (evSt 9 v4 v38 h) fun _ h1 =>
(ob (evLd true 9 v4 h1) fun r0 =>
  y8 h1 r0)
def y2g7 (s : St) : OX := yju (s 2) (s 4) s.h
theorem y1uw : T0 y1l5 [.cell 4 true 9] y2g7 := fun _ => by kernel_rfl
def yjl (v1 v2 v4 v5 : AV) (h : Heap) : OX :=
ob (y3 .gtr v5 (AV.int .i64 2)) fun v33 =>
cnd v33
 (ob (yg 1 v1 (AV.int .i64 2)) fun v35 =>
ob (evLd false 1 v35 h) fun v36 =>
ob (evFa 4 v2) fun v37 =>
oh (evSt 1 v37 v36 h) fun _ h2 =>
(yju v2 v4 h2))
 ((yju v2 v4 h))
def y2e6 (s : St) : OX := yjl (s 1) (s 2) (s 4) (s 5) s.h
theorem y1u8 : T0 y192 [.cell 4 true 9] y2e6 := sq y1uw fun _ => by kernel_rfl
def yjj (v1 v2 v4 v5 : AV) (h : Heap) : OX :=
ob (y3 .gtr v5 (AV.int .i64 1)) fun v27 =>
cnd v27
 (ob (yg 1 v1 (AV.int .i64 1)) fun v29 =>
ob (evLd false 1 v29 h) fun v30 =>
ob (evFa 3 v2) fun v31 =>
oh (evSt 1 v31 v30 h) fun _ h3 =>
(yjl v1 v2 v4 v5 h3))
 ((yjl v1 v2 v4 v5 h))
def y2ja (s : St) : OX := yjj (s 1) (s 2) (s 4) (s 5) s.h
theorem y1ze : T0 y1f4 [.cell 4 true 9] y2ja := sq y1u8 fun _ => by kernel_rfl
def yn1 (v1 v2 v4 v5 : AV) (h : Heap) : OX :=
ob (y3 .gtr v5 (AV.int .i64 0)) fun v21 =>
cnd v21
 (ob (yg 1 v1 (AV.int .i64 0)) fun v23 =>
ob (evLd false 1 v23 h) fun v24 =>
ob (evFa 2 v2) fun v25 =>
oh (evSt 1 v25 v24 h) fun _ h4 =>
(yjj v1 v2 v4 v5 h4))
 ((yjj v1 v2 v4 v5 h))
def y2eq (s : St) : OX := yn1 (s 1) (s 2) (s 4) (s 5) s.h
theorem y1yb : T0 y193 [.cell 4 true 9] y2eq := sq y1ze fun _ => by kernel_rfl
def ymf (v1 v2 v4 v5 : AV) (h : Heap) : OX :=
ob (evLd true 9 v2 h) fun v14 =>
oh (y4 E (y5 E) 0 none true 17 [v14] h) fun v15 h5 =>
cnd v15
 (oh (y4 E (y5 E) 0 (some 2) false 39 [v1] h5) fun v17 h6 =>
ob (evFa 8 v2) fun v18 =>
oh (evSt 1 v18 v17 h6) fun _ h7 =>
ob (evLd true 9 v2 h7) fun v19 =>
oh (evSt 9 v4 v19 h7) fun _ h8 =>
(ob (evLd true 9 v4 h8) fun r0 =>
  y8 h8 r0))
 ((yn1 v1 v2 v4 v5 h5))
def y2it (s : St) : OX := ymf (s 1) (s 2) (s 4) (s 5) s.h
theorem y1zd : T0 y1f6 [.cell 4 true 9] y2it := sq y1yb fun _ => by kernel_rfl
def ynl (v1 v2 v4 v5 : AV) (h : Heap) : OX :=
ob (yt 1 v1 h) fun v11 =>
ob (y3 .neq v5 v11) fun v12 =>
cnd v12
 (ob (evLd true 9 v2 h) fun v13 =>
oh (evSt 9 v4 v13 h) fun _ h9 =>
(ob (evLd true 9 v4 h9) fun r0 =>
  y8 h9 r0))
 ((ymf v1 v2 v4 v5 h))
def y2g3 (s : St) : OX := ynl (s 1) (s 2) (s 4) (s 5) s.h
theorem y1vl : T0 y1b9 [.cell 4 true 9] y2g3 := sq y1zd fun _ => by kernel_rfl
def ymk (v1 v2 v4 : AV) (h : Heap) : OX :=
ob (evLd true 9 v2 h) fun v6 =>
oh (y4 E (y5 E) 0 none true 10 [v6] h) fun v7 h10 =>
ob (yt 1 v7 h10) fun v8 =>
(ynl v1 v2 v4 v8 h10)
def y2j5 (s : St) : OX := ymk (s 1) (s 2) (s 4) s.h
theorem y1s9 : T0 y19d [.cell 4 true 9] y2j5 := sq y1vl fun _ => by kernel_rfl
def ymz (v0 v1 : AV) (h : Heap) : OX :=
oh (newC 0 (some 0) (cellsOf v0) h) fun v2 h11 =>
oh (newC 0 (some 1) [(.int .i64 0), (.int .i64 0), (.int .i64 0), (.int .i64 0), (.int .i64 0), (.int .i64 0), (.int .i64 0), (.str []), .nils] h11) fun v4 h12 =>
(ymk v1 v2 v4 h12)
def y2et (s : St) : OX := ymz (s 0) (s 1) s.h
theorem y1rz : T0 y1pl [.cell 4 true 9] y2et := sq y1s9 fun _ => by kernel_rfl
@[simp] theorem y2lb : E.pure 27 = true := rfl
theorem y24t (v0 v1 : AV) : (y5 E).p 27 [v0, v1] = ymz v0 v1 [⟨0, .dead⟩, ⟨0, .dead⟩, ⟨0, .dead⟩] :=
  (yu (cf := y2es) (by kernel_rfl) rfl).trans ((y1rz _).trans (by kernel_rfl))
def y2az (v0 : AV) (h : Heap) : OX :=
oh (newC 0 (some 0) (cellsOf v0) h) fun v1 h1 =>
ob (evFa 0 v1) fun v3 =>
ob (evLd false 1 v3 h1) fun v4 =>
ob (y3 .geq v4 (AV.int .i64 23)) fun v5 =>
gb v5 true (evFa 0 v1) fun v7 =>
gb v5 true (evLd false 1 v7 h1) fun v8 =>
gb v5 true (y3 .leq v8 (AV.int .i64 26)) fun v9 =>
ob (y7 v5 v9 (AV.bool false)) fun v10 =>
(y8 h1 v10)
def y2iq (s : St) : OX := y2az (s 0) s.h
theorem y1t0 : T0 y1ni [.t 2] y2iq := fun _ => by kernel_rfl
@[simp] theorem yut : E.pure 17 = true := rfl
theorem y2o9 (v0 : AV) : (y5 E).p 17 [v0] = y2az v0 [⟨0, .dead⟩] :=
  (yu (cf := y2dk) (by kernel_rfl) rfl).trans ((y1t0 _).trans (by kernel_rfl))
def ykq (h : Heap) : OX :=
(y8 h (AV.int .i64 (-1)))
def y68 (s : St) : OX := ykq s.h
theorem y1ns : T0 y111 [.t 4] y68 := fun _ => by kernel_rfl
def yik (v0 v1 v7 v8 : AV) (h : Heap) : OX :=
  W E 0 yia ⟨[(0, v0), (1, v1), (7, v7), (8, v8)], h⟩ y68 (y1 0 y68 xN) (finP [.t 4])
def y8g (s : St) : OX := yik (s 0) (s 1) (s 7) (s 8) s.h
theorem ylx : T1 yia y68 (y1 0 y68 xN) [.t 4] y8g := fun s => yd.trans (by kernel_rfl)
def yjy (v0 v1 v7 v8 : AV) (h : Heap) : OX :=
ob (y3 .add v8 (AV.int .i64 1)) fun v18 =>
(yik v0 v1 v7 v18 h)
def y2b5 (s : St) : OX := yjy (s 0) (s 1) (s 7) (s 8) s.h
theorem y1el : T1 y14n y8g (y1 0 y68 xN) [.t 4] y2b5 := fun _ => by kernel_rfl
def ykd (v0 v1 v7 v8 : AV) (h : Heap) : OX :=
ob (yg 1 v0 v8) fun v14 =>
ob (evLd false 1 v14 h) fun v15 =>
ob (y3 .eql v1 v15) fun v16 =>
cnd v16
 ((y8 h v8))
 ((yjy v0 v1 v7 v8 h))
def y26w (s : St) : OX := ykd (s 0) (s 1) (s 7) (s 8) s.h
theorem y1er : T1 y12k y8g (y1 0 y68 xN) [.t 4] y26w := sq y1el fun _ => by kernel_rfl
def ykl (v0 v1 v7 v8 v9 : AV) (h : Heap) : OX :=
cnd v9
 ((ykd v0 v1 v7 v8 h))
 ((ykq h))
def y27d (s : St) : OX := ykl (s 0) (s 1) (s 7) (s 8) (s 9) s.h
theorem y1kw : T1 yxh y8g (y1 0 y68 xN) [.t 4] y27d := sq y1er fun _ => by kernel_rfl
def ykt (v0 v1 v7 v8 : AV) (h : Heap) : OX :=
ob (y3 .lss v8 v7) fun v9 =>
(ykl v0 v1 v7 v8 v9 h)
def y2b0 (s : St) : OX := ykt (s 0) (s 1) (s 7) (s 8) s.h
theorem y1ny : T1 y11r y8g (y1 0 y68 xN) [.t 4] y2b0 := sq y1kw fun _ => by kernel_rfl
theorem yk5 (v0 v1 v7 v8 : AV) (h : Heap) : yik v0 v1 v7 v8 h = (ykt v0 v1 v7 v8 h) :=
  y1t.trans ((y12 _ _ _ (n' := y8g) (fun s => ylx s)).trans ((y1ny _).trans (by kernel_rfl)))
theorem y18y : T1 y112 y68 xN [.t 4] y8g := fun s => yq.trans (ylx s)
def yl4 (v0 v1 : AV) (h : Heap) : OX :=
ob (yt 1 v0 h) fun v7 =>
(yik v0 v1 v7 (AV.int .i64 0) h)
def y19x (s : St) : OX := yl4 (s 0) (s 1) s.h
theorem y1et : T1 yxt y68 xN [.t 4] y19x := sq y18y fun _ => by kernel_rfl
theorem y1d6 : T0 y13l [.t 4] y19x := sq y1ns y1et
def yem (v0 v1 : AV) (h : Heap) : OX :=
(yl4 v0 v1 h)
def y1rv (s : St) : OX := yem (s 0) (s 1) s.h
theorem y17h : T0 ys9 [.t 4] y1rv := sq y1d6 fun _ => by kernel_rfl
@[simp] theorem y2my : E.pure 45 = true := rfl
theorem y2cu (v0 v1 : AV) : (y5 E).p 45 [v0, v1] = yem v0 v1 [] :=
  (yu (cf := y22h) (by kernel_rfl) rfl).trans ((y17h _).trans (by kernel_rfl))
def yg7 (v1 v2 : AV) (h : Heap) : OX :=
ob (evLd true 9 v1 h) fun v138 =>
oh (y4 E (y5 E) 0 none true 51 [v138] h) fun v139 h1 =>
ob (y57 0 v139) fun v140 =>
ob (y57 1 v139) fun v141 =>
oh (evSt 4 v2 v140 h1) fun _ h2 =>
(ob (evLd true 4 v2 h2) fun r0 =>
  y8 h2 (.tup [r0, v141]))
def yf (s : St) : OX := yg7 (s 1) (s 2) s.h
theorem y1t4 : T0 y1fe [.cell 2 true 4, .t 3] yf := fun _ => by kernel_rfl
def yeu (v1 v2 v134 : AV) (h : Heap) : OX :=
cnd v134
 (ob (y10 [(.int .i64 0), (.int .i64 0), (.int .i64 0), (.int .i64 0)] [(0, 1, (AV.int .i64 (-1))), (1, 1, (AV.int .i64 (-1))), (2, 1, (AV.int .i64 (-1))), (3, 1, (AV.int .i64 (-1)))]) fun v137 =>
oh (evSt 4 v2 v137 h) fun _ h3 =>
(ob (evLd true 4 v2 h3) fun r0 =>
  y8 h3 (.tup [r0, (AV.bool true)])))
 ((yg7 v1 v2 h))
def y2er (s : St) : OX := yeu (s 1) (s 2) (s 134) s.h
theorem y1uz : T1 y1jp yf (y1 0 yf xN) [.cell 2 true 4, .t 3] y2er := fun _ => by kernel_rfl
def yg3 (v1 v2 v11 : AV) (h : Heap) : OX :=
ob (y3 .eql v11 (AV.int .i64 27)) fun v135 =>
cnd v135
 ((yeu v1 v2 v135 h))
 (ob (y3 .eql v11 (AV.int .i64 33)) fun v136 =>
(yeu v1 v2 v136 h))
def y2dn (s : St) : OX := yg3 (s 1) (s 2) (s 11) s.h
theorem y1s5 : T1 y1h0 yf (y1 0 yf xN) [.cell 2 true 4, .t 3] y2dn := sq y1uz fun _ => by kernel_rfl
def yg5 (v1 v2 v11 v123 : AV) (h : Heap) : OX :=
cnd v123
 (ob (y10 [(.int .i64 0), (.int .i64 0), (.int .i64 0), (.int .i64 0)] [(0, 1, (AV.int .i64 (-1))), (1, 1, (AV.int .i64 1)), (2, 1, (AV.int .i64 1)), (3, 1, (AV.int .i64 (-1)))]) fun v125 =>
ob (evFa 5 v1) fun v126 =>
ob (evLd false 1 v126 h) fun v127 =>
ob (y3 .geq v127 (AV.int .i64 0)) fun v128 =>
ofp (fgd v128 true (some ([], []))) fun f5 =>
gb v128 true (evFa 5 v1) fun v130 =>
ofp (fgd v128 true (some (ids1 v130, []))) fun f6 =>
gb v128 true (evLd false 1 v130 h) fun v131 =>
ofp (fgd v128 true (some ([], []))) fun f7 =>
gb v128 true (y3 .leq v131 (AV.int .i64 5)) fun v132 =>
ob (y7 v128 v132 (AV.bool false)) fun v133 =>
oh (evSt 4 v2 v125 h) fun _ h4 =>
okK (y9 [([], []), ([], []), (ids1 v126, []), ([], []), ([], []), f5, f6, f7, ([], []), ([], ids1 v2), ([], [])] [(6, 9)]) <|
(ob (evLd true 4 v2 h4) fun r0 =>
  y8 h4 (.tup [r0, v133])))
 ((yg3 v1 v2 v11 h))
def y2dj (s : St) : OX := yg5 (s 1) (s 2) (s 11) (s 123) s.h
theorem y1xr : T1 y1cl yf (y1 0 yf xN) [.cell 2 true 4, .t 3] y2dj := fun s => (y14 rfl (y1s5 s)).trans (by kernel_rfl)
def yg1 (v1 v2 v11 : AV) (h : Heap) : OX :=
ob (y3 .eql v11 (AV.int .i64 28)) fun v124 =>
(yg5 v1 v2 v11 v124 h)
def y2ha (s : St) : OX := yg1 (s 1) (s 2) (s 11) s.h
theorem y20f : T1 y1ev yf (y1 0 yf xN) [.cell 2 true 4, .t 3] y2ha := sq y1xr fun _ => by kernel_rfl
def yfx (v1 v2 v11 v117 : AV) (h : Heap) : OX :=
cnd v117
 (ob (y10 [(.int .i64 0), (.int .i64 0), (.int .i64 0), (.int .i64 0)] [(0, 1, (AV.int .i64 3)), (1, 1, (AV.int .i64 1)), (2, 1, (AV.int .i64 (-1))), (3, 1, (AV.int .i64 (-1)))]) fun v119 =>
ob (evFa 7 v1) fun v120 =>
ob (evLd false 1 v120 h) fun v121 =>
oh (y4 E (y5 E) 0 none true 37 [v121] h) fun v122 h5 =>
oh (evSt 4 v2 v119 h5) fun _ h6 =>
(ob (evLd true 4 v2 h6) fun r0 =>
  y8 h6 (.tup [r0, v122])))
 ((yg1 v1 v2 v11 h))
def y2g6 (s : St) : OX := yfx (s 1) (s 2) (s 11) (s 117) s.h
theorem y1v2 : T1 y1cs yf (y1 0 yf xN) [.cell 2 true 4, .t 3] y2g6 := fun s => (y14 rfl (y20f s)).trans (by kernel_rfl)
def yg4 (v1 v2 v11 : AV) (h : Heap) : OX :=
ob (y3 .eql v11 (AV.int .i64 21)) fun v118 =>
(yfx v1 v2 v11 v118 h)
def y2gv (s : St) : OX := yg4 (s 1) (s 2) (s 11) s.h
theorem y1zl : T1 y1qw yf (y1 0 yf xN) [.cell 2 true 4, .t 3] y2gv := sq y1v2 fun _ => by kernel_rfl
def yfy (v1 v2 v11 v114 : AV) (h : Heap) : OX :=
cnd v114
 (ob (y10 [(.int .i64 0), (.int .i64 0), (.int .i64 0), (.int .i64 0)] [(0, 1, (AV.int .i64 (-1))), (1, 1, (AV.int .i64 0)), (2, 1, (AV.int .i64 (-1))), (3, 1, (AV.int .i64 (-1)))]) fun v116 =>
oh (evSt 4 v2 v116 h) fun _ h7 =>
(ob (evLd true 4 v2 h7) fun r0 =>
  y8 h7 (.tup [r0, (AV.bool true)])))
 ((yg4 v1 v2 v11 h))
def y2dq (s : St) : OX := yfy (s 1) (s 2) (s 11) (s 114) s.h
theorem y1vv : T1 y1kz yf (y1 0 yf xN) [.cell 2 true 4, .t 3] y2dq := fun s => (y14 rfl (y1zl s)).trans (by kernel_rfl)
def yfz (v1 v2 v11 : AV) (h : Heap) : OX :=
ob (y3 .eql v11 (AV.int .i64 19)) fun v115 =>
(yfy v1 v2 v11 v115 h)
def y2ff (s : St) : OX := yfz (s 1) (s 2) (s 11) s.h
theorem y1zk : T1 y1d9 yf (y1 0 yf xN) [.cell 2 true 4, .t 3] y2ff := sq y1vv fun _ => by kernel_rfl
def y9f (v1 v2 v11 v108 : AV) (h : Heap) : OX :=
cnd v108
 (ob (y10 [(.int .i64 0), (.int .i64 0), (.int .i64 0), (.int .i64 0)] [(0, 1, (AV.int .i64 (-1))), (1, 1, (AV.int .i64 3)), (2, 1, (AV.int .i64 0)), (3, 1, (AV.int .i64 (-1)))]) fun v110 =>
ob (evFa 5 v1) fun v111 =>
ob (evLd false 1 v111 h) fun v112 =>
ob (y3 .geq v112 (AV.int .i64 0)) fun v113 =>
oh (evSt 4 v2 v110 h) fun _ h8 =>
okK (y9 [([], []), ([], []), (ids1 v111, []), ([], []), ([], ids1 v2), ([], [])] [(2, 4)]) <|
(ob (evLd true 4 v2 h8) fun r0 =>
  y8 h8 (.tup [r0, v113])))
 ((yfz v1 v2 v11 h))
def y28t (s : St) : OX := y9f (s 1) (s 2) (s 11) (s 108) s.h
theorem y1ly : T1 yym yf (y1 0 yf xN) [.cell 2 true 4, .t 3] y28t := fun s => (y14 rfl (y1zk s)).trans (by kernel_rfl)
def y96 (v1 v2 v11 : AV) (h : Heap) : OX :=
ob (y3 .eql v11 (AV.int .i64 17)) fun v109 =>
(y9f v1 v2 v11 v109 h)
def y26e (s : St) : OX := y96 (s 1) (s 2) (s 11) s.h
theorem y1g5 : T1 y128 yf (y1 0 yf xN) [.cell 2 true 4, .t 3] y26e := sq y1ly fun _ => by kernel_rfl
def y8n (v1 v2 v11 v102 : AV) (h : Heap) : OX :=
cnd v102
 (ob (y10 [(.int .i64 0), (.int .i64 0), (.int .i64 0), (.int .i64 0)] [(0, 1, (AV.int .i64 0)), (1, 1, (AV.int .i64 3)), (2, 1, (AV.int .i64 (-1))), (3, 1, (AV.int .i64 (-1)))]) fun v104 =>
ob (evFa 5 v1) fun v105 =>
ob (evLd false 1 v105 h) fun v106 =>
ob (y3 .geq v106 (AV.int .i64 0)) fun v107 =>
oh (evSt 4 v2 v104 h) fun _ h9 =>
okK (y9 [([], []), ([], []), (ids1 v105, []), ([], []), ([], ids1 v2), ([], [])] [(2, 4)]) <|
(ob (evLd true 4 v2 h9) fun r0 =>
  y8 h9 (.tup [r0, v107])))
 ((y96 v1 v2 v11 h))
def y299 (s : St) : OX := y8n (s 1) (s 2) (s 11) (s 102) s.h
theorem y1jy : T1 yyz yf (y1 0 yf xN) [.cell 2 true 4, .t 3] y299 := fun s => (y14 rfl (y1g5 s)).trans (by kernel_rfl)
def y8k (v1 v2 v11 : AV) (h : Heap) : OX :=
ob (y3 .eql v11 (AV.int .i64 16)) fun v103 =>
(y8n v1 v2 v11 v103 h)
def y27u (s : St) : OX := y8k (s 1) (s 2) (s 11) s.h
theorem y19y : T1 y14c yf (y1 0 yf xN) [.cell 2 true 4, .t 3] y27u := sq y1jy fun _ => by kernel_rfl
def y8l (v1 v2 v11 v99 : AV) (h : Heap) : OX :=
cnd v99
 (ob (y10 [(.int .i64 0), (.int .i64 0), (.int .i64 0), (.int .i64 0)] [(0, 1, (AV.int .i64 1)), (1, 1, (AV.int .i64 3)), (2, 1, (AV.int .i64 (-1))), (3, 1, (AV.int .i64 (-1)))]) fun v101 =>
oh (evSt 4 v2 v101 h) fun _ h10 =>
(ob (evLd true 4 v2 h10) fun r0 =>
  y8 h10 (.tup [r0, (AV.bool true)])))
 ((y8k v1 v2 v11 h))
def y27j (s : St) : OX := y8l (s 1) (s 2) (s 11) (s 99) s.h
theorem y1k4 : T1 y12i yf (y1 0 yf xN) [.cell 2 true 4, .t 3] y27j := fun s => (y14 rfl (y19y s)).trans (by kernel_rfl)
def y8r (v1 v2 v11 : AV) (h : Heap) : OX :=
ob (y3 .eql v11 (AV.int .i64 15)) fun v100 =>
(y8l v1 v2 v11 v100 h)
def y285 (s : St) : OX := y8r (s 1) (s 2) (s 11) s.h
theorem y1cj : T1 y06 yf (y1 0 yf xN) [.cell 2 true 4, .t 3] y285 := sq y1k4 fun _ => by kernel_rfl
def y9k (v1 v2 v11 v96 : AV) (h : Heap) : OX :=
cnd v96
 (ob (y10 [(.int .i64 0), (.int .i64 0), (.int .i64 0), (.int .i64 0)] [(0, 1, (AV.int .i64 (-1))), (1, 1, (AV.int .i64 3)), (2, 1, (AV.int .i64 1)), (3, 1, (AV.int .i64 0))]) fun v98 =>
oh (evSt 4 v2 v98 h) fun _ h11 =>
(ob (evLd true 4 v2 h11) fun r0 =>
  y8 h11 (.tup [r0, (AV.bool true)])))
 ((y8r v1 v2 v11 h))
def y252 (s : St) : OX := y9k (s 1) (s 2) (s 11) (s 96) s.h
theorem y1fa : T1 yxq yf (y1 0 yf xN) [.cell 2 true 4, .t 3] y252 := fun s => (y14 rfl (y1cj s)).trans (by kernel_rfl)
def y9j (v1 v2 v11 : AV) (h : Heap) : OX :=
ob (y3 .eql v11 (AV.int .i64 14)) fun v97 =>
(y9k v1 v2 v11 v97 h)
def y296 (s : St) : OX := y9j (s 1) (s 2) (s 11) s.h
theorem y1qk : T1 y13c yf (y1 0 yf xN) [.cell 2 true 4, .t 3] y296 := sq y1fa fun _ => by kernel_rfl
def y8s (v1 v2 v11 v93 : AV) (h : Heap) : OX :=
cnd v93
 (ob (y10 [(.int .i64 0), (.int .i64 0), (.int .i64 0), (.int .i64 0)] [(0, 1, (AV.int .i64 0)), (1, 1, (AV.int .i64 3)), (2, 1, (AV.int .i64 1)), (3, 1, (AV.int .i64 (-1)))]) fun v95 =>
oh (evSt 4 v2 v95 h) fun _ h12 =>
(ob (evLd true 4 v2 h12) fun r0 =>
  y8 h12 (.tup [r0, (AV.bool true)])))
 ((y9j v1 v2 v11 h))
def y2c4 (s : St) : OX := y8s (s 1) (s 2) (s 11) (s 93) s.h
theorem y1p1 : T1 yy6 yf (y1 0 yf xN) [.cell 2 true 4, .t 3] y2c4 := fun s => (y14 rfl (y1qk s)).trans (by kernel_rfl)
def y8v (v1 v2 v11 : AV) (h : Heap) : OX :=
ob (y3 .eql v11 (AV.int .i64 13)) fun v94 =>
(y8s v1 v2 v11 v94 h)
def y2a8 (s : St) : OX := y8v (s 1) (s 2) (s 11) s.h
theorem y1n6 : T1 y152 yf (y1 0 yf xN) [.cell 2 true 4, .t 3] y2a8 := sq y1p1 fun _ => by kernel_rfl
def y8u (v1 v2 v11 v90 : AV) (h : Heap) : OX :=
cnd v90
 (ob (y10 [(.int .i64 0), (.int .i64 0), (.int .i64 0), (.int .i64 0)] [(0, 1, (AV.int .i64 (-1))), (1, 1, (AV.int .i64 3)), (2, 1, (AV.int .i64 3)), (3, 1, (AV.int .i64 (-1)))]) fun v92 =>
oh (evSt 4 v2 v92 h) fun _ h13 =>
(ob (evLd true 4 v2 h13) fun r0 =>
  y8 h13 (.tup [r0, (AV.bool true)])))
 ((y8v v1 v2 v11 h))
def y27v (s : St) : OX := y8u (s 1) (s 2) (s 11) (s 90) s.h
theorem y1m4 : T1 y13q yf (y1 0 yf xN) [.cell 2 true 4, .t 3] y27v := fun s => (y14 rfl (y1n6 s)).trans (by kernel_rfl)
def y94 (v1 v2 v11 : AV) (h : Heap) : OX :=
ob (y3 .eql v11 (AV.int .i64 11)) fun v91 =>
(y8u v1 v2 v11 v91 h)
def y2au (s : St) : OX := y94 (s 1) (s 2) (s 11) s.h
theorem y1aj : T1 y13a yf (y1 0 yf xN) [.cell 2 true 4, .t 3] y2au := sq y1m4 fun _ => by kernel_rfl
def y9g (v1 v2 v11 v87 : AV) (h : Heap) : OX :=
cnd v87
 (ob (y10 [(.int .i64 0), (.int .i64 0), (.int .i64 0), (.int .i64 0)] [(0, 1, (AV.int .i64 (-1))), (1, 1, (AV.int .i64 1)), (2, 1, (AV.int .i64 (-1))), (3, 1, (AV.int .i64 (-1)))]) fun v89 =>
oh (evSt 4 v2 v89 h) fun _ h14 =>
(ob (evLd true 4 v2 h14) fun r0 =>
  y8 h14 (.tup [r0, (AV.bool true)])))
 ((y94 v1 v2 v11 h))
def y280 (s : St) : OX := y9g (s 1) (s 2) (s 11) (s 87) s.h
theorem y1hr : T1 y0b yf (y1 0 yf xN) [.cell 2 true 4, .t 3] y280 := fun s => (y14 rfl (y1aj s)).trans (by kernel_rfl)
def y8x (v1 v2 v11 : AV) (h : Heap) : OX :=
ob (y3 .eql v11 (AV.int .i64 10)) fun v88 =>
(y9g v1 v2 v11 v88 h)
def y2b6 (s : St) : OX := y8x (s 1) (s 2) (s 11) s.h
theorem y1ld : T1 y13h yf (y1 0 yf xN) [.cell 2 true 4, .t 3] y2b6 := sq y1hr fun _ => by kernel_rfl
def y8p (v1 v2 v11 v84 : AV) (h : Heap) : OX :=
cnd v84
 (ob (y10 [(.int .i64 0), (.int .i64 0), (.int .i64 0), (.int .i64 0)] [(0, 1, (AV.int .i64 (-1))), (1, 1, (AV.int .i64 3)), (2, 1, (AV.int .i64 1)), (3, 1, (AV.int .i64 (-1)))]) fun v86 =>
oh (evSt 4 v2 v86 h) fun _ h15 =>
(ob (evLd true 4 v2 h15) fun r0 =>
  y8 h15 (.tup [r0, (AV.bool true)])))
 ((y8x v1 v2 v11 h))
def y26h (s : St) : OX := y8p (s 1) (s 2) (s 11) (s 84) s.h
theorem y1c0 : T1 ywp yf (y1 0 yf xN) [.cell 2 true 4, .t 3] y26h := fun s => (y14 rfl (y1ld s)).trans (by kernel_rfl)
def y90 (v1 v2 v11 : AV) (h : Heap) : OX :=
ob (y3 .eql v11 (AV.int .i64 9)) fun v85 =>
(y8p v1 v2 v11 v85 h)
def y28x (s : St) : OX := y90 (s 1) (s 2) (s 11) s.h
theorem y1bj : T1 yy9 yf (y1 0 yf xN) [.cell 2 true 4, .t 3] y28x := sq y1c0 fun _ => by kernel_rfl
def y9a (v1 v2 v11 v78 : AV) (h : Heap) : OX :=
cnd v78
 (ob (y10 [(.int .i64 0), (.int .i64 0), (.int .i64 0), (.int .i64 0)] [(0, 1, (AV.int .i64 1)), (1, 1, (AV.int .i64 3)), (2, 1, (AV.int .i64 (-1))), (3, 1, (AV.int .i64 (-1)))]) fun v80 =>
ob (evFa 7 v1) fun v81 =>
ob (evLd false 1 v81 h) fun v82 =>
oh (y4 E (y5 E) 0 none true 37 [v82] h) fun v83 h16 =>
oh (evSt 4 v2 v80 h16) fun _ h17 =>
(ob (evLd true 4 v2 h17) fun r0 =>
  y8 h17 (.tup [r0, v83])))
 ((y90 v1 v2 v11 h))
def y26q (s : St) : OX := y9a (s 1) (s 2) (s 11) (s 78) s.h
theorem y1qf : T1 y13e yf (y1 0 yf xN) [.cell 2 true 4, .t 3] y26q := fun s => (y14 rfl (y1bj s)).trans (by kernel_rfl)
def y9c (v1 v2 v11 : AV) (h : Heap) : OX :=
ob (y3 .eql v11 (AV.int .i64 22)) fun v79 =>
(y9a v1 v2 v11 v79 h)
def y2a0 (s : St) : OX := y9c (s 1) (s 2) (s 11) s.h
theorem y1q7 : T1 y11z yf (y1 0 yf xN) [.cell 2 true 4, .t 3] y2a0 := sq y1qf fun _ => by kernel_rfl
def y8y (v1 v2 v11 v72 : AV) (h : Heap) : OX :=
cnd v72
 (ob (y10 [(.int .i64 0), (.int .i64 0), (.int .i64 0), (.int .i64 0)] [(0, 1, (AV.int .i64 (-1))), (1, 1, (AV.int .i64 3)), (2, 1, (AV.int .i64 (-1))), (3, 1, (AV.int .i64 (-1)))]) fun v74 =>
ob (evFa 7 v1) fun v75 =>
ob (evLd false 1 v75 h) fun v76 =>
oh (y4 E (y5 E) 0 none true 37 [v76] h) fun v77 h18 =>
oh (evSt 4 v2 v74 h18) fun _ h19 =>
(ob (evLd true 4 v2 h19) fun r0 =>
  y8 h19 (.tup [r0, v77])))
 ((y9c v1 v2 v11 h))
def y24m (s : St) : OX := y8y (s 1) (s 2) (s 11) (s 72) s.h
theorem y1ov : T1 yvs yf (y1 0 yf xN) [.cell 2 true 4, .t 3] y24m := fun s => (y14 rfl (y1q7 s)).trans (by kernel_rfl)
def y98 (v1 v2 v11 : AV) (h : Heap) : OX :=
ob (y3 .eql v11 (AV.int .i64 12)) fun v73 =>
(y8y v1 v2 v11 v73 h)
def y29v (s : St) : OX := y98 (s 1) (s 2) (s 11) s.h
theorem y1ie : T1 y11k yf (y1 0 yf xN) [.cell 2 true 4, .t 3] y29v := sq y1ov fun _ => by kernel_rfl
def y7d (v1 v2 v11 v68 : AV) (h : Heap) : OX :=
cnd v68
 (ob (y10 [(.int .i64 0), (.int .i64 0), (.int .i64 0), (.int .i64 0)] [(0, 1, (AV.int .i64 (-1))), (1, 1, (AV.int .i64 3)), (2, 1, (AV.int .i64 (-1))), (3, 1, (AV.int .i64 (-1)))]) fun v71 =>
oh (evSt 4 v2 v71 h) fun _ h20 =>
(ob (evLd true 4 v2 h20) fun r0 =>
  y8 h20 (.tup [r0, (AV.bool true)])))
 ((y98 v1 v2 v11 h))
def y258 (s : St) : OX := y7d (s 1) (s 2) (s 11) (s 68) s.h
theorem y197 : T1 y12z yf (y1 0 yf xN) [.cell 2 true 4, .t 3] y258 := fun s => (y14 rfl (y1ie s)).trans (by kernel_rfl)
def y8o (v1 v2 v11 : AV) (h : Heap) : OX :=
ob (y3 .eql v11 (AV.int .i64 8)) fun v69 =>
cnd v69
 ((y7d v1 v2 v11 v69 h))
 (ob (y3 .eql v11 (AV.int .i64 31)) fun v70 =>
(y7d v1 v2 v11 v70 h))
def y25t (s : St) : OX := y8o (s 1) (s 2) (s 11) s.h
theorem y1hi : T1 y15d yf (y1 0 yf xN) [.cell 2 true 4, .t 3] y25t := sq y197 fun _ => by kernel_rfl
def y97 (v1 v2 v11 v65 : AV) (h : Heap) : OX :=
cnd v65
 (ob (y10 [(.int .i64 0), (.int .i64 0), (.int .i64 0), (.int .i64 0)] [(0, 1, (AV.int .i64 (-1))), (1, 1, (AV.int .i64 0)), (2, 1, (AV.int .i64 (-1))), (3, 1, (AV.int .i64 (-1)))]) fun v67 =>
oh (evSt 4 v2 v67 h) fun _ h21 =>
(ob (evLd true 4 v2 h21) fun r0 =>
  y8 h21 (.tup [r0, (AV.bool true)])))
 ((y8o v1 v2 v11 h))
def y250 (s : St) : OX := y97 (s 1) (s 2) (s 11) (s 65) s.h
theorem y1r3 : T1 y03 yf (y1 0 yf xN) [.cell 2 true 4, .t 3] y250 := fun s => (y14 rfl (y1hi s)).trans (by kernel_rfl)
def y9i (v1 v2 v11 : AV) (h : Heap) : OX :=
ob (y3 .eql v11 (AV.int .i64 7)) fun v66 =>
(y97 v1 v2 v11 v66 h)
def y23h (s : St) : OX := y9i (s 1) (s 2) (s 11) s.h
theorem y1iw : T1 y14k yf (y1 0 yf xN) [.cell 2 true 4, .t 3] y23h := sq y1r3 fun _ => by kernel_rfl
def y91 (v1 v2 v11 v47 : AV) (h : Heap) : OX :=
cnd v47
 (ob (evFa 5 v1) fun v50 =>
ob (evLd false 1 v50 h) fun v51 =>
oh (y4 E (y5 E) 0 none true 50 [v51] h) fun v52 h22 =>
ob (y57 0 v52) fun v53 =>
ob (y57 1 v52) fun v54 =>
ob (y57 2 v52) fun v55 =>
ob (y10 [(.int .i64 0), (.int .i64 0), (.int .i64 0), (.int .i64 0)] [(0, 1, v55), (1, 1, v53), (2, 1, (AV.int .i64 (-1))), (3, 1, (AV.int .i64 (-1)))]) fun v58 =>
ob (y3 .neq v53 (AV.int .i64 0)) fun v60 =>
gb v60 true (some v54) fun v62 =>
gb v60 true (y3 .eql v62 (AV.int .i64 0)) fun v63 =>
ob (y7 v60 v63 (AV.bool false)) fun v64 =>
oh (evSt 4 v2 v58 h22) fun _ h23 =>
(ob (evLd true 4 v2 h23) fun r0 =>
  y8 h23 (.tup [r0, v64])))
 ((y9i v1 v2 v11 h))
def y23n (s : St) : OX := y91 (s 1) (s 2) (s 11) (s 47) s.h
theorem y1g4 : T1 y02 yf (y1 0 yf xN) [.cell 2 true 4, .t 3] y23n := fun s => (y14 rfl (y1iw s)).trans (by kernel_rfl)
def y8j (v1 v2 v11 : AV) (h : Heap) : OX :=
ob (y3 .eql v11 (AV.int .i64 6)) fun v48 =>
(y91 v1 v2 v11 v48 h)
def y2b4 (s : St) : OX := y8j (s 1) (s 2) (s 11) s.h
theorem y1h3 : T1 yx5 yf (y1 0 yf xN) [.cell 2 true 4, .t 3] y2b4 := sq y1g4 fun _ => by kernel_rfl
def y92 (v1 v2 v11 v25 : AV) (h : Heap) : OX :=
cnd v25
 (ob (evFa 5 v1) fun v28 =>
ob (evLd false 1 v28 h) fun v29 =>
oh (y4 E (y5 E) 0 none true 50 [v29] h) fun v30 h24 =>
ob (y57 0 v30) fun v31 =>
ob (y57 1 v30) fun v32 =>
ob (y57 2 v30) fun v33 =>
ob (y10 [(.int .i64 0), (.int .i64 0), (.int .i64 0), (.int .i64 0)] [(0, 1, v33), (1, 1, v31), (2, 1, v32), (3, 1, (AV.int .i64 (-1)))]) fun v37 =>
ob (evFa 5 v1) fun v38 =>
ob (evLd false 1 v38 h24) fun v39 =>
ob (evFa 5 v1) fun v40 =>
ob (evLd false 1 v40 h24) fun v41 =>
ob (y3 .eql v39 v41) fun v42 =>
gb v42 true (some v32) fun v44 =>
gb v42 true (y3 .neq v44 (AV.int .i64 0)) fun v45 =>
ob (y7 v42 v45 (AV.bool false)) fun v46 =>
oh (evSt 4 v2 v37 h24) fun _ h25 =>
(ob (evLd true 4 v2 h25) fun r0 =>
  y8 h25 (.tup [r0, v46])))
 ((y8j v1 v2 v11 h))
def y26t (s : St) : OX := y92 (s 1) (s 2) (s 11) (s 25) s.h
theorem y1p2 : T1 y0h yf (y1 0 yf xN) [.cell 2 true 4, .t 3] y26t := fun s => (y14 rfl (y1h3 s)).trans (by kernel_rfl)
def y8z (v1 v2 v11 : AV) (h : Heap) : OX :=
ob (y3 .eql v11 (AV.int .i64 5)) fun v26 =>
(y92 v1 v2 v11 v26 h)
def y2bc (s : St) : OX := y8z (s 1) (s 2) (s 11) s.h
theorem y1ha : T1 y12m yf (y1 0 yf xN) [.cell 2 true 4, .t 3] y2bc := sq y1p2 fun _ => by kernel_rfl
def y95 (v1 v2 v11 v22 : AV) (h : Heap) : OX :=
cnd v22
 (ob (y10 [(.int .i64 0), (.int .i64 0), (.int .i64 0), (.int .i64 0)] [(0, 1, (AV.int .i64 0)), (1, 1, (AV.int .i64 0)), (2, 1, (AV.int .i64 (-1))), (3, 1, (AV.int .i64 (-1)))]) fun v24 =>
oh (evSt 4 v2 v24 h) fun _ h26 =>
(ob (evLd true 4 v2 h26) fun r0 =>
  y8 h26 (.tup [r0, (AV.bool true)])))
 ((y8z v1 v2 v11 h))
def y261 (s : St) : OX := y95 (s 1) (s 2) (s 11) (s 22) s.h
theorem y1nl : T1 y0j yf (y1 0 yf xN) [.cell 2 true 4, .t 3] y261 := fun s => (y14 rfl (y1ha s)).trans (by kernel_rfl)
def y9e (v1 v2 v11 : AV) (h : Heap) : OX :=
ob (y3 .eql v11 (AV.int .i64 4)) fun v23 =>
(y95 v1 v2 v11 v23 h)
def y2ay (s : St) : OX := y9e (s 1) (s 2) (s 11) s.h
theorem y1jv : T1 y155 yf (y1 0 yf xN) [.cell 2 true 4, .t 3] y2ay := sq y1nl fun _ => by kernel_rfl
def y6d (v1 v2 v11 v16 : AV) (h : Heap) : OX :=
cnd v16
 (ob (y10 [(.int .i64 0), (.int .i64 0), (.int .i64 0), (.int .i64 0)] [(0, 1, (AV.int .i64 3)), (1, 1, (AV.int .i64 (-1))), (2, 1, (AV.int .i64 (-1))), (3, 1, (AV.int .i64 (-1)))]) fun v21 =>
oh (evSt 4 v2 v21 h) fun _ h27 =>
(ob (evLd true 4 v2 h27) fun r0 =>
  y8 h27 (.tup [r0, (AV.bool true)])))
 ((y9e v1 v2 v11 h))
def y251 (s : St) : OX := y6d (s 1) (s 2) (s 11) (s 16) s.h
theorem y1fj : T1 yx9 yf (y1 0 yf xN) [.cell 2 true 4, .t 3] y251 := fun s => (y14 rfl (y1jv s)).trans (by kernel_rfl)
def y93 (v1 v2 v11 : AV) (h : Heap) : OX :=
ob (y3 .eql v11 (AV.int .i64 2)) fun v17 =>
cnd v17
 ((y6d v1 v2 v11 v17 h))
 (ob (y3 .eql v11 (AV.int .i64 3)) fun v18 =>
cnd v18
 ((y6d v1 v2 v11 v18 h))
 (ob (y3 .eql v11 (AV.int .i64 20)) fun v19 =>
cnd v19
 ((y6d v1 v2 v11 v19 h))
 (ob (y3 .eql v11 (AV.int .i64 32)) fun v20 =>
(y6d v1 v2 v11 v20 h))))
def y2ah (s : St) : OX := y93 (s 1) (s 2) (s 11) s.h
theorem y1ih : T1 yvc yf (y1 0 yf xN) [.cell 2 true 4, .t 3] y2ah := sq y1fj fun _ => by kernel_rfl
def y79 (v1 v2 v11 v12 : AV) (h : Heap) : OX :=
cnd v12
 (ob (y10 [(.int .i64 0), (.int .i64 0), (.int .i64 0), (.int .i64 0)] [(0, 1, (AV.int .i64 0)), (1, 1, (AV.int .i64 (-1))), (2, 1, (AV.int .i64 (-1))), (3, 1, (AV.int .i64 (-1)))]) fun v15 =>
oh (evSt 4 v2 v15 h) fun _ h28 =>
(ob (evLd true 4 v2 h28) fun r0 =>
  y8 h28 (.tup [r0, (AV.bool true)])))
 ((y93 v1 v2 v11 h))
def y23g (s : St) : OX := y79 (s 1) (s 2) (s 11) (s 12) s.h
theorem y1cz : T1 yyp yf (y1 0 yf xN) [.cell 2 true 4, .t 3] y23g := fun s => (y14 rfl (y1ih s)).trans (by kernel_rfl)
def y8m (v1 v2 v11 : AV) (h : Heap) : OX :=
ob (y3 .eql v11 (AV.int .i64 1)) fun v13 =>
cnd v13
 ((y79 v1 v2 v11 v13 h))
 (ob (y3 .eql v11 (AV.int .i64 18)) fun v14 =>
(y79 v1 v2 v11 v14 h))
def y19j (s : St) : OX := y8m (s 1) (s 2) (s 11) s.h
theorem y1a5 : T1 y123 yf (y1 0 yf xN) [.cell 2 true 4, .t 3] y19j := sq y1cz fun _ => by kernel_rfl
theorem y1ob : T1 y0w yf xN [.cell 2 true 4, .t 3] y19j := fun s => yq.trans (y1a5 s)
def y9b (v1 v2 : AV) (h : Heap) : OX :=
ob (evFa 0 v1) fun v10 =>
ob (evLd false 1 v10 h) fun v11 =>
(y8m v1 v2 v11 h)
def y1o3 (s : St) : OX := y9b (s 1) (s 2) s.h
theorem y1js : T1 yzs yf xN [.cell 2 true 4, .t 3] y1o3 := sq y1ob fun _ => by kernel_rfl
theorem y1p8 : T0 ywe [.cell 2 true 4, .t 3] y1o3 := sq y1t4 y1js
def y99 (v0 : AV) (h : Heap) : OX :=
oh (newC 0 (some 0) (cellsOf v0) h) fun v1 h29 =>
oh (newC 0 (some 1) [(.int .i64 0), (.int .i64 0), (.int .i64 0), (.int .i64 0)] h29) fun v2 h30 =>
(y9b v1 v2 h30)
def y29s (s : St) : OX := y99 (s 0) s.h
theorem y19u : T0 yz3 [.cell 2 true 4, .t 3] y29s := sq y1p8 fun _ => by kernel_rfl
@[simp] theorem y2l4 : E.pure 47 = true := rfl
theorem y1iy (v0 : AV) : (y5 E).p 47 [v0] = y99 v0 [⟨0, .dead⟩, ⟨0, .dead⟩] :=
  (yu (cf := y2ea) (by kernel_rfl) rfl).trans ((y19u _).trans (by kernel_rfl))
def y1mt (v0 : AV) (h : Heap) : OX :=
oh (newC 0 (some 0) (cellsOf v0) h) fun v1 h1 =>
ob (evFa 0 v1) fun v3 =>
ob (evLd false 1 v3 h1) fun v4 =>
ob (y3 .geq v4 (AV.int .i64 7)) fun v5 =>
gb v5 true (evFa 0 v1) fun v7 =>
gb v5 true (evLd false 1 v7 h1) fun v8 =>
gb v5 true (y3 .leq v8 (AV.int .i64 12)) fun v9 =>
ob (y7 v5 v9 (AV.bool false)) fun v10 =>
gb v10 false (evFa 0 v1) fun v12 =>
gb v10 false (evLd false 1 v12 h1) fun v13 =>
gb v10 false (y3 .eql v13 (AV.int .i64 20)) fun v14 =>
ob (y7 v10 (AV.bool true) v14) fun v15 =>
gb v15 false (evFa 0 v1) fun v17 =>
gb v15 false (evLd false 1 v17 h1) fun v18 =>
gb v15 false (y3 .eql v18 (AV.int .i64 21)) fun v19 =>
ob (y7 v15 (AV.bool true) v19) fun v20 =>
gb v20 false (evFa 0 v1) fun v22 =>
gb v20 false (evLd false 1 v22 h1) fun v23 =>
gb v20 false (y3 .eql v23 (AV.int .i64 31)) fun v24 =>
ob (y7 v20 (AV.bool true) v24) fun v25 =>
gb v25 false (evLd true 9 v1 h1) fun v27 =>
gh v25 false (y4 E (y5 E) 0 none true 17 [v27] h1) h1 fun v28 h2 =>
ob (y7 v25 (AV.bool true) v28) fun v29 =>
(y8 h2 v29)
def y2ir (s : St) : OX := y1mt (s 0) s.h
theorem y1xq : T0 y1ae [.t 2] y2ir := fun _ => by kernel_rfl
@[simp] theorem y2lv : E.pure 18 = true := rfl
theorem y2oc (v0 : AV) : (y5 E).p 18 [v0] = y1mt v0 [⟨0, .dead⟩] :=
  (yu (cf := y2f9) (by kernel_rfl) rfl).trans ((y1xq _).trans (by kernel_rfl))
def y1jz (v0 v3 : AV) (h : Heap) : OX :=
ob (yg 1 v3 v0) fun v15 =>
ob (evLd false 1 v15 h) fun v16 =>
(y8 h v16)
def y2c5 (s : St) : OX := y1jz (s 0) (s 3) s.h
theorem y1d3 : T0 yvy [.t 2] y2c5 := fun _ => by kernel_rfl
def y1pj (v0 v3 : AV) (h : Heap) : OX :=
ob (y3 .lss v0 (AV.int .i64 1)) fun v6 =>
gb v6 false (some v0) fun v8 =>
gb v6 false (some v3) fun v9 =>
gb v6 false (yt 1 v9 h) fun v10 =>
gb v6 false (y3 .geq v8 v10) fun v11 =>
ob (y7 v6 (AV.bool true) v11) fun v12 =>
cnd v12
 ((y8 h (AV.str [])))
 ((y1jz v0 v3 h))
def y283 (s : St) : OX := y1pj (s 0) (s 3) s.h
theorem y1bz : T0 yxa [.t 2] y283 := sq y1d3 fun _ => by kernel_rfl
def y19p (v0 : AV) (h : Heap) : OX :=
oh (yj 0 (some 0) 1 34 [(.str [])] [(0, (AV.str [])), (1, (AV.str [110, 45, 45, 45])), (2, (AV.str [51, 45, 45, 45])), (3, (AV.str [51, 45, 45, 45])), (4, (AV.str [42, 61, 45, 45])), (5, (AV.str [63, 63, 63, 63])), (6, (AV.str [63, 63, 63, 63])), (7, (AV.str [45, 110, 45, 45])), (8, (AV.str [45, 51, 45, 45])), (9, (AV.str [45, 51, 49, 45])), (10, (AV.str [45, 49, 45, 45])), (11, (AV.str [45, 51, 51, 45])), (12, (AV.str [45, 51, 45, 45])), (13, (AV.str [42, 51, 49, 45])), (14, (AV.str [45, 51, 49, 42])), (15, (AV.str [49, 51, 45, 45])), (16, (AV.str [42, 51, 45, 45])), (17, (AV.str [45, 51, 42, 45])), (18, (AV.str [42, 45, 45, 45])), (19, (AV.str [45, 42, 45, 45])), (20, (AV.str [51, 45, 45, 45])), (21, (AV.str [51, 49, 45, 45])), (22, (AV.str [49, 51, 45, 45])), (23, (AV.str [63, 63, 63, 63])), (24, (AV.str [63, 63, 63, 63])), (25, (AV.str [63, 63, 63, 63])), (26, (AV.str [63, 63, 63, 63])), (27, (AV.str [45, 45, 45, 45])), (28, (AV.str [45, 49, 49, 45])), (29, (AV.str [45, 51, 63, 45])), (30, (AV.str [45, 63, 45, 45])), (31, (AV.str [45, 51, 45, 45])), (32, (AV.str [51, 45, 45, 45])), (33, (AV.str [45, 45, 45, 45]))] h) fun v4 h1 =>
(y1pj v0 v4 h1)
def y28v (s : St) : OX := y19p (s 0) s.h
theorem y1c8 : T0 y12e [.t 2] y28v := sq y1bz fun _ => by kernel_rfl
def y1pb (v0 : AV) (h : Heap) : OX :=
(y19p v0 h)
def y23p (s : St) : OX := y1pb (s 0) s.h
theorem y1gt : T0 yyf [.t 2] y23p := sq y1c8 fun _ => by kernel_rfl
@[simp] theorem y2kz : E.pure 38 = true := rfl
theorem y2gy (v0 : AV) : (y5 E).p 38 [v0] = y1pb v0 [⟨0, .dead⟩] :=
  (yu (cf := y21k) (by kernel_rfl) rfl).trans ((y1gt _).trans (by kernel_rfl))
def ybu (v2 v7 : AV) (h : Heap) : OX :=
ob (y3 .sub v2 (AV.int .u8 48)) fun v30 =>
ob (ybk .i64 v30) fun v31 =>
ob (y3 .eql v7 v31) fun v32 =>
(y8 h v32)
def y6b (s : St) : OX := ybu (s 2) (s 7) s.h
theorem y1ge : T0 yva [.t 6] y6b := fun _ => by kernel_rfl
def ya4 (v2 v7 v11 v15 : AV) (h : Heap) : OX :=
cnd v15
 (ob (y3 .gtr v7 (AV.int .i64 0)) fun v19 =>
(y8 h v19))
 (ob (y3 .eql v11 (AV.int .u8 110)) fun v21 =>
cnd v21
 (ob (y3 .eql v7 (AV.int .i64 1)) fun v23 =>
gb v23 false (some v7) fun v25 =>
gb v23 false (y3 .eql v25 (AV.int .i64 2)) fun v26 =>
ob (y7 v23 (AV.bool true) v26) fun v27 =>
(y8 h v27))
 ((ybu v2 v7 h)))
def y288 (s : St) : OX := ya4 (s 2) (s 7) (s 11) (s 15) s.h
theorem y1cb : T1 y142 y6b (y1 0 y6b xN) [.t 6] y288 := fun _ => by kernel_rfl
def ybq (v2 v7 v11 : AV) (h : Heap) : OX :=
ob (y3 .eql v11 (AV.int .u8 42)) fun v16 =>
cnd v16
 ((ya4 v2 v7 v11 v16 h))
 (ob (y3 .eql v11 (AV.int .u8 61)) fun v17 =>
(ya4 v2 v7 v11 v17 h))
def y23b (s : St) : OX := ybq (s 2) (s 7) (s 11) s.h
theorem y1m0 : T1 yvt y6b (y1 0 y6b xN) [.t 6] y23b := sq y1cb fun _ => by kernel_rfl
def ya5 (v2 v7 v11 v12 : AV) (h : Heap) : OX :=
cnd v12
 ((y8 h (AV.bool true)))
 ((ybq v2 v7 v11 h))
def y279 (s : St) : OX := ya5 (s 2) (s 7) (s 11) (s 12) s.h
theorem y1hh : T1 y11o y6b (y1 0 y6b xN) [.t 6] y279 := fun s => (y14 rfl (y1m0 s)).trans (by kernel_rfl)
def ybo (v2 v7 v11 : AV) (h : Heap) : OX :=
ob (y3 .eql v11 (AV.int .u8 45)) fun v13 =>
cnd v13
 ((ya5 v2 v7 v11 v13 h))
 (ob (y3 .eql v11 (AV.int .u8 63)) fun v14 =>
(ya5 v2 v7 v11 v14 h))
def y1ej (s : St) : OX := ybo (s 2) (s 7) (s 11) s.h
theorem y1gh : T1 y11s y6b (y1 0 y6b xN) [.t 6] y1ej := sq y1hh fun _ => by kernel_rfl
theorem y1g3 : T1 yy2 y6b xN [.t 6] y1ej := fun s => yq.trans (y1gh s)
def yc1 (v2 v7 : AV) (h : Heap) : OX :=
(ybo v2 v7 v2 h)
def y1ht (s : St) : OX := yc1 (s 2) (s 7) s.h
theorem y1mq : T1 y0r y6b xN [.t 6] y1ht := sq y1g3 fun _ => by kernel_rfl
theorem y1br : T0 yv8 [.t 6] y1ht := sq y1ge y1mq
def ybx (v1 v2 v3 : AV) (h : Heap) : OX :=
ob (evLd true 5 v3 h) fun v8 =>
oh (y4 E (y5 E) 0 none true 48 [v8, v1] h) fun v10 h1 =>
(yc1 v2 v10 h1)
def y278 (s : St) : OX := ybx (s 1) (s 2) (s 3) s.h
theorem y1ky : T0 y00 [.t 6] y278 := sq y1br fun _ => by kernel_rfl
def y6z (v0 v1 v2 : AV) (h : Heap) : OX :=
oh (newC 0 (some 0) (cellsOf v0) h) fun v3 h2 =>
(ybx v1 v2 v3 h2)
def y1rl (s : St) : OX := y6z (s 0) (s 1) (s 2) s.h
theorem y170 : T0 yr4 [.t 6] y1rl := sq y1ky fun _ => by kernel_rfl
@[simp] theorem y2lt : E.pure 65 = true := rfl
theorem y2hr (v0 v1 v2 : AV) : (y5 E).p 65 [v0, v1, v2] = y6z v0 v1 v2 [⟨0, .dead⟩] :=
  (yu (cf := y215) (by kernel_rfl) rfl).trans ((y170 _).trans (by kernel_rfl))
def y1uf (h : Heap) : OX :=
(y8 h (.tup [(AV.int .i64 0), (AV.int .i64 0), (AV.int .i64 0)]))
def y2ev (s : St) : OX := y1uf s.h
theorem y20h : T0 y1gn [.t 2, .t 3, .t 4] y2ev := fun _ => by kernel_rfl
def y1v1 (v0 v5 : AV) (h : Heap) : OX :=
gb v5 true (some v0) fun v28 =>
gb v5 true (y3 .rem v28 (AV.int .i64 2)) fun v29 =>
gb v5 true (y3 .eql v29 (AV.int .i64 0)) fun v30 =>
ob (y7 v5 v30 (AV.bool false)) fun v31 =>
cnd v31
 ((y8 h (.tup [(AV.int .i64 1), (AV.int .i64 1), (AV.int .i64 1)])))
 (ob (y3 .eql v0 (AV.int .i64 121)) fun v34 =>
gb v34 false (some v0) fun v36 =>
gb v34 false (y3 .eql v36 (AV.int .i64 123)) fun v37 =>
ob (y7 v34 (AV.bool true) v37) fun v38 =>
gb v38 false (some v0) fun v40 =>
gb v38 false (y3 .eql v40 (AV.int .i64 125)) fun v41 =>
ob (y7 v38 (AV.bool true) v41) fun v42 =>
cnd v42
 ((y8 h (.tup [(AV.int .i64 2), (AV.int .i64 1), (AV.int .i64 2)])))
 (cnd v5
 ((y8 h (.tup [(AV.int .i64 2), (AV.int .i64 2), (AV.int .i64 2)])))
 (ob (y3 .eql v0 (AV.int .i64 148)) fun v47 =>
cnd v47
 ((y8 h (.tup [(AV.int .i64 2), (AV.int .i64 2), (AV.int .i64 1)])))
 (ob (y3 .eql v0 (AV.int .i64 116)) fun v50 =>
gb v50 false (some v0) fun v52 =>
gb v50 false (y3 .geq v52 (AV.int .i64 145)) fun v53 =>
gb v50 false (some v53) fun v54 =>
gb v54 true (some v0) fun v55 =>
gb v54 true (y3 .leq v55 (AV.int .i64 147)) fun v56 =>
gb v50 false (y7 v54 v56 (AV.bool false)) fun v57 =>
ob (y7 v50 (AV.bool true) v57) fun v58 =>
cnd v58
 ((y8 h (.tup [(AV.int .i64 1), (AV.int .i64 0), (AV.int .i64 1)])))
 (ob (y3 .eql v0 (AV.int .i64 117)) fun v61 =>
cnd v61
 ((y8 h (.tup [(AV.int .i64 2), (AV.int .i64 0), (AV.int .i64 2)])))
 (ob (y3 .eql v0 (AV.int .i64 133)) fun v64 =>
cnd v64
 ((y8 h (.tup [(AV.int .i64 1), (AV.int .i64 0), (AV.int .i64 2)])))
 (ob (y3 .eql v0 (AV.int .i64 136)) fun v67 =>
cnd v67
 ((y8 h (.tup [(AV.int .i64 2), (AV.int .i64 0), (AV.int .i64 1)])))
 ((y1uf h)))))))))
def y2hq (s : St) : OX := y1v1 (s 0) (s 5) s.h
theorem y1rp : T0 y1as [.t 2, .t 3, .t 4] y2hq := sq y20h fun _ => by kernel_rfl
def y1yo (v0 : AV) (h : Heap) : OX :=
ob (y3 .geq v0 (AV.int .i64 96)) fun v7 =>
gb v7 true (some v0) fun v9 =>
gb v7 true (y3 .leq v9 (AV.int .i64 113)) fun v10 =>
ob (y7 v7 v10 (AV.bool false)) fun v11 =>
gb v11 true (some v0) fun v13 =>
gb v11 true (y3 .rem v13 (AV.int .i64 4)) fun v14 =>
gb v11 true (y3 .lss v14 (AV.int .i64 2)) fun v15 =>
ob (y7 v11 v15 (AV.bool false)) fun v16 =>
gb v16 false (some v0) fun v18 =>
gb v16 false (y3 .geq v18 (AV.int .i64 120)) fun v19 =>
gb v16 false (some v19) fun v20 =>
gb v20 true (some v0) fun v21 =>
gb v20 true (y3 .leq v21 (AV.int .i64 131)) fun v22 =>
gb v16 false (y7 v20 v22 (AV.bool false)) fun v23 =>
ob (y7 v16 (AV.bool true) v23) fun v24 =>
(y1v1 v0 v24 h)
def y2gp (s : St) : OX := y1yo (s 0) s.h
theorem y1ww : T0 y1hc [.t 2, .t 3, .t 4] y2gp := sq y1rp fun _ => by kernel_rfl
def y1so (v0 : AV) (h : Heap) : OX :=
(y1yo v0 h)
def y2hn (s : St) : OX := y1so (s 0) s.h
theorem y1yz : T0 y1kq [.t 2, .t 3, .t 4] y2hn := sq y1ww fun _ => by kernel_rfl
@[simp] theorem y2no : E.pure 66 = true := rfl
theorem y2nb (v0 : AV) : (y5 E).p 66 [v0] = y1so v0 [] :=
  (yu (cf := y2eu) (by kernel_rfl) rfl).trans ((y1yz _).trans (by kernel_rfl))
def yjb (v0 : AV) (h : Heap) : OX :=
ob (yt 0 v0 h) fun v28 =>
ob (y3 .gtr v28 (AV.int .i64 2)) fun v29 =>
gb v29 true (some v0) fun v31 =>
gb v29 true (y5h v31 (AV.int .i64 0)) fun v32 =>
gb v29 true (y3 .eql v32 (AV.int .u8 76)) fun v33 =>
ob (y7 v29 v33 (AV.bool false)) fun v34 =>
gb v34 true (some v0) fun v36 =>
gb v34 true (some v0) fun v37 =>
gb v34 true (yt 0 v37 h) fun v38 =>
gb v34 true (y3 .sub v38 (AV.int .i64 1)) fun v39 =>
gb v34 true (y5h v36 v39) fun v40 =>
gb v34 true (y3 .eql v40 (AV.int .u8 59)) fun v41 =>
ob (y7 v34 v41 (AV.bool false)) fun v42 =>
gb v42 true (some v0) fun v44 =>
gb v42 true (some v0) fun v45 =>
gb v42 true (yt 0 v45 h) fun v46 =>
gb v42 true (y3 .sub v46 (AV.int .i64 1)) fun v47 =>
gb v42 true (yde v44 (some (AV.int .i64 1)) (some v47)) fun v48 =>
gh v42 true (y4 E (y5 E) 0 none true 69 [v48, (AV.bool false)] h) h fun v49 h1 =>
ob (y7 v42 v49 (AV.bool false)) fun v50 =>
(y8 h1 v50)
def y2aj (s : St) : OX := yjb (s 0) s.h
theorem y1gb : T0 y150 [.t 2] y2aj := fun _ => by kernel_rfl
def ye5 (v0 : AV) (h : Heap) : OX :=
ob (y3 .eql v0 (AV.str [73])) fun v22 =>
gb v22 false (some v0) fun v24 =>
gb v22 false (y3 .eql v24 (AV.str [74])) fun v25 =>
ob (y7 v22 (AV.bool true) v25) fun v26 =>
cnd v26
 ((y8 h (AV.bool true)))
 ((yjb v0 h))
def y24r (s : St) : OX := ye5 (s 0) s.h
theorem y1gw : T0 yx1 [.t 2] y24r := sq y1gb fun _ => by kernel_rfl
def ysc (v0 v3 : AV) (h : Heap) : OX :=
ob (y3 .gtr v3 (AV.int .i64 8)) fun v20 =>
cnd v20
 ((y8 h (AV.bool false)))
 ((ye5 v0 h))
def y25i (s : St) : OX := ysc (s 0) (s 3) s.h
theorem y1hu : T0 y11q [.t 2] y25i := sq y1gw fun _ => by kernel_rfl
def ykc (v0 v3 : AV) (h : Heap) : OX :=
ob (yde v0 (some v3) none) fun v18 =>
(ysc v18 v3 h)
def yak (s : St) : OX := ykc (s 0) (s 3) s.h
theorem y1ep : T0 ywl [.t 2] yak := sq y1hu fun _ => by kernel_rfl
def yen (v0 v3 : AV) (h : Heap) : OX :=
  W E 0 yhs ⟨[(0, v0), (3, v3)], h⟩ yak (y1 0 yak xN) (finP [.t 2])
def yb3 (s : St) : OX := yen (s 0) (s 3) s.h
theorem ylb : T1 yhs yak (y1 0 yak xN) [.t 2] yb3 := fun s => yd.trans (by kernel_rfl)
def yww (v0 v3 : AV) (h : Heap) : OX :=
ob (y3 .add v3 (AV.int .i64 1)) fun v15 =>
(yen v0 v15 h)
def y28d (s : St) : OX := yww (s 0) (s 3) s.h
theorem y1l0 : T1 y15b yb3 (y1 0 yak xN) [.t 2] y28d := fun _ => by kernel_rfl
def yku (v0 v3 : AV) (h : Heap) : OX :=
ob (yt 0 v0 h) fun v6 =>
ob (y3 .lss v3 v6) fun v7 =>
gb v7 true (some v0) fun v9 =>
gb v7 true (some v3) fun v10 =>
gb v7 true (y5h v9 v10) fun v11 =>
gb v7 true (y3 .eql v11 (AV.int .u8 91)) fun v12 =>
ob (y7 v7 v12 (AV.bool false)) fun v13 =>
cnd v13
 ((yww v0 v3 h))
 ((ykc v0 v3 h))
def y27o (s : St) : OX := yku (s 0) (s 3) s.h
theorem y1lb : T1 y12o yb3 (y1 0 yak xN) [.t 2] y27o := sq y1l0 fun _ => by kernel_rfl
theorem yk0 (v0 v3 : AV) (h : Heap) : yen v0 v3 h = (yku v0 v3 h) :=
  y1t.trans ((y12 _ _ _ (n' := yb3) (fun s => ylb s)).trans ((y1lb _).trans (by kernel_rfl)))
theorem y1lh : T1 ywq yak xN [.t 2] yb3 := fun s => yq.trans (ylb s)
theorem y1cq : T0 yx3 [.t 2] yb3 := sq y1ep y1lh
def ysx (v0 : AV) (h : Heap) : OX :=
(yen v0 (AV.int .i64 0) h)
def y1vq (s : St) : OX := ysx (s 0) s.h
theorem y17r : T0 ysj [.t 2] y1vq := sq y1cq fun _ => by kernel_rfl
def yn4 (v0 : AV) (h : Heap) : OX :=
(ysx v0 h)
def y1wr (s : St) : OX := yn4 (s 0) s.h
theorem y16z : T0 yp7 [.t 2] y1wr := sq y17r fun _ => by kernel_rfl
@[simp] theorem y2lp : E.pure 67 = true := rfl
theorem y2ey (v0 : AV) : (y5 E).p 67 [v0] = yn4 v0 [] :=
  (yu (cf := y211) (by kernel_rfl) rfl).trans ((y16z _).trans (by kernel_rfl))
def y5b (v2 v3 : AV) (h : Heap) : OX :=
ob (evFa 0 v3) fun v47 =>
ob (evLd false 1 v47 h) fun v48 =>
ob (y3 .neq v48 (AV.int .i64 24)) fun v49 =>
gb v49 true (evFa 0 v3) fun v51 =>
gb v49 true (evLd false 1 v51 h) fun v52 =>
gb v49 true (y3 .neq v52 (AV.int .i64 25)) fun v53 =>
ob (y7 v49 v53 (AV.bool false)) fun v54 =>
gb v54 false (evFa 8 v3) fun v56 =>
gb v54 false (evLd false 1 v56 h) fun v57 =>
gb v54 false (yt 1 v57 h) fun v58 =>
gb v54 false (y3 .gtr v58 (AV.int .i64 0)) fun v59 =>
gb v54 false (some v59) fun v60 =>
gb v60 true (evLd true 5 v2 h) fun v61 =>
gb v60 true (evFa 8 v3) fun v62 =>
gb v60 true (evLd false 1 v62 h) fun v63 =>
gb v60 true (yg 1 v63 (AV.int .i64 0)) fun v64 =>
gb v60 true (evLd false 1 v64 h) fun v65 =>
gh v60 true (y4 E (y5 E) 0 none true 48 [v61, v65] h) h fun v66 h1 =>
gb v60 true (y3 .eql v66 (AV.int .i64 3)) fun v67 =>
gb v54 false (y7 v60 v67 (AV.bool false)) fun v68 =>
ob (y7 v54 (AV.bool true) v68) fun v69 =>
(y8 h1 v69)
def y73 (s : St) : OX := y5b (s 2) (s 3) s.h
theorem y1l8 : T0 yvv [.t 4] y73 := fun _ => by kernel_rfl
def ygw (v2 v3 v5 : AV) (h : Heap) : OX :=
  W E 0 yhj ⟨[(2, v2), (3, v3), (5, v5)], h⟩ y73 (y1 0 y73 xN) (finP [.t 4])
def ybc (s : St) : OX := ygw (s 2) (s 3) (s 5) s.h
theorem yly : T1 yhj y73 (y1 0 y73 xN) [.t 4] ybc := fun s => yd.trans (by kernel_rfl)
def y8q (v2 v3 v5 : AV) (h : Heap) : OX :=
ob (y3 .add v5 (AV.int .i64 1)) fun v38 =>
(ygw v2 v3 v38 h)
def y26r (s : St) : OX := y8q (s 2) (s 3) (s 5) s.h
theorem y1d0 : T1 yvo ybc (y1 0 y73 xN) [.t 4] y26r := fun _ => by kernel_rfl
def y78 (v2 v3 v5 : AV) (h : Heap) : OX :=
ob (evLd true 5 v2 h) fun v39 =>
ob (evFa 8 v3) fun v40 =>
ob (evLd false 1 v40 h) fun v41 =>
ob (yg 1 v41 v5) fun v43 =>
ob (evLd false 1 v43 h) fun v44 =>
oh (y4 E (y5 E) 0 none true 48 [v39, v44] h) fun v45 h2 =>
ob (y3 .eql v45 (AV.int .i64 0)) fun v46 =>
cnd v46
 ((y8 h2 (AV.bool false)))
 ((y8q v2 v3 v5 h2))
def y2bl (s : St) : OX := y78 (s 2) (s 3) (s 5) s.h
theorem y1jc : T1 yx0 ybc (y1 0 y73 xN) [.t 4] y2bl := sq y1d0 fun _ => by kernel_rfl
def y6s (v2 v3 v5 : AV) (h : Heap) : OX :=
ob (evFa 8 v3) fun v33 =>
ob (evLd false 1 v33 h) fun v34 =>
ob (yt 1 v34 h) fun v35 =>
ob (y3 .lss v5 v35) fun v36 =>
cnd v36
 ((y78 v2 v3 v5 h))
 ((y5b v2 v3 h))
def y2cc (s : St) : OX := y6s (s 2) (s 3) (s 5) s.h
theorem y1og : T1 yvz ybc (y1 0 y73 xN) [.t 4] y2cc := sq y1jc fun _ => by kernel_rfl
theorem ym1 (v2 v3 v5 : AV) (h : Heap) : ygw v2 v3 v5 h = (y6s v2 v3 v5 h) :=
  y1t.trans ((y12 _ _ _ (n' := ybc) (fun s => yly s)).trans ((y1og _).trans (by kernel_rfl)))
theorem y1kn : T1 y13r y73 xN [.t 4] ybc := fun s => yq.trans (yly s)
def y9r (v2 v3 : AV) (h : Heap) : OX :=
(ygw v2 v3 (AV.int .i64 0) h)
def y19h (s : St) : OX := y9r (s 2) (s 3) s.h
theorem y1op : T1 y13d y73 xN [.t 4] y19h := sq y1kn fun _ => by kernel_rfl
theorem y1cd : T0 y11t [.t 4] y19h := sq y1l8 y1op
def yav (v2 v3 : AV) (h : Heap) : OX :=
ob (evFa 5 v3) fun v6 =>
ob (evLd false 1 v6 h) fun v7 =>
ob (y3 .lss v7 (AV.int .i64 0)) fun v8 =>
gb v8 true (evFa 0 v3) fun v10 =>
gb v8 true (evLd false 1 v10 h) fun v11 =>
gb v8 true (y3 .neq v11 (AV.int .i64 25)) fun v12 =>
ob (y7 v8 v12 (AV.bool false)) fun v13 =>
gb v13 false (evFa 8 v3) fun v15 =>
gb v13 false (evLd false 1 v15 h) fun v16 =>
gb v13 false (yt 1 v16 h) fun v17 =>
gb v13 false (y3 .gtr v17 (AV.int .i64 21)) fun v18 =>
ob (y7 v13 (AV.bool true) v18) fun v19 =>
gb v19 false (evFa 1 v3) fun v21 =>
gb v19 false (evLd false 1 v21 h) fun v22 =>
gb v19 false (y3 .neq v22 (AV.int .i64 (-1))) fun v23 =>
gb v19 false (some v23) fun v24 =>
gb v24 true (evLd true 5 v2 h) fun v25 =>
gb v24 true (evFa 1 v3) fun v26 =>
gb v24 true (evLd false 1 v26 h) fun v27 =>
gh v24 true (y4 E (y5 E) 0 none true 48 [v25, v27] h) h fun v28 h3 =>
gb v24 true (y3 .eql v28 (AV.int .i64 0)) fun v29 =>
gb v19 false (y7 v24 v29 (AV.bool false)) fun v30 =>
ob (y7 v19 (AV.bool true) v30) fun v31 =>
cnd v31
 ((y8 h3 (AV.bool false)))
 ((y9r v2 v3 h3))
def y25h (s : St) : OX := yav (s 2) (s 3) s.h
theorem y1c7 : T0 y117 [.t 4] y25h := sq y1cd fun _ => by kernel_rfl
def y5z (v0 v1 : AV) (h : Heap) : OX :=
oh (newC 0 (some 0) (cellsOf v0) h) fun v2 h4 =>
oh (newC 0 (some 1) (cellsOf v1) h4) fun v3 h5 =>
(yav v2 v3 h5)
def y1yr (s : St) : OX := y5z (s 0) (s 1) s.h
theorem y15e : T0 yos [.t 4] y1yr := sq y1c7 fun _ => by kernel_rfl
@[simp] theorem y2n2 : E.pure 68 = true := rfl
theorem y2g5 (v0 v1 : AV) : (y5 E).p 68 [v0, v1] = y5z v0 v1 [⟨0, .dead⟩, ⟨0, .dead⟩] :=
  (yu (cf := y22d) (by kernel_rfl) rfl).trans ((y15e _).trans (by kernel_rfl))
def y27y (v0 v1 : AV) (h : Heap) : OX :=
oh (y4 E (y5 E) 0 none true 159 [v0, v1] h) fun v25 h1 =>
ob (y57 0 v25) fun v26 =>
ob (y57 1 v25) fun v27 =>
(y8 h1 (.tup [v26, v27]))
def y2f4 (s : St) : OX := y27y (s 0) (s 1) s.h
theorem y1te : T0 y1b8 [.t 4, .t 5] y2f4 := fun _ => by kernel_rfl
def y28p (v0 v1 : AV) (h : Heap) : OX :=
cnd (AV.bool false)
 (ob (ybk .u32 v0) fun v12 =>
ob (ybk .u32 v1) fun v14 =>
oh (y4 E (y5 E) 0 none true 158 [v12, v14] h) fun v15 h2 =>
ob (y57 0 v15) fun v16 =>
ob (y57 1 v15) fun v17 =>
ob (ybk .u64 v16) fun v19 =>
ob (ybk .u64 v17) fun v21 =>
(y8 h2 (.tup [v19, v21])))
 ((y27y v0 v1 h))
def y2d3 (s : St) : OX := y28p (s 0) (s 1) s.h
theorem y1yi : T0 y1cp [.t 4, .t 5] y2d3 := sq y1te fun _ => by kernel_rfl
def y24j (v0 v1 : AV) (h : Heap) : OX :=
(y28p v0 v1 h)
def y2gl (s : St) : OX := y24j (s 0) (s 1) s.h
theorem y20a : T0 y1fn [.t 4, .t 5] y2gl := sq y1yi fun _ => by kernel_rfl
@[simp] theorem y2jr : E.pure 157 = true := rfl
theorem y2ob (v0 v1 : AV) : (y5 E).p 157 [v0, v1] = y24j v0 v1 [] :=
  (yu (cf := y2ij) (by kernel_rfl) rfl).trans ((y20a _).trans (by kernel_rfl))
def y1da (v0 : AV) (h : Heap) : OX :=
oh (yj 0 (some 0) 1 0 [(.int .i64 0)] [] h) fun v5 h1 =>
oh (y2y 0 (some 1) 1 8 v5 v0 h1) fun v7 h2 =>
(y8 h2 v7)
def y2by (s : St) : OX := y1da (s 0) s.h
theorem y1k0 : T0 y14w [.t 2] y2by := fun _ => by kernel_rfl
def y1k8 (v0 : AV) (h : Heap) : OX :=
ob (y4u 1 false v0 AV.nils) fun v4 =>
cnd v4
 ((y8 h AV.nils))
 ((y1da v0 h))
def y24g (s : St) : OX := y1k8 (s 0) s.h
theorem y1b6 : T0 y0m [.t 2] y24g := sq y1k0 fun _ => by kernel_rfl
def y1pm (v0 : AV) (h : Heap) : OX :=
(y1k8 v0 h)
def y245 (s : St) : OX := y1pm (s 0) s.h
theorem y1cw : T0 yyu [.t 2] y245 := sq y1b6 fun _ => by kernel_rfl
@[simp] theorem y2kg : E.pure 153 = true := rfl
theorem y2d0 (v0 : AV) : (y5 E).p 153 [v0] = y1pm v0 [⟨0, .dead⟩, ⟨0, .dead⟩] :=
  (yu (cf := y21b) (by kernel_rfl) rfl).trans ((y1cw _).trans (by kernel_rfl))
def y1j3 (fb : Nat) (v0 v1 v9 v10 : AV) (h : Heap) : Option (AV × Heap) :=
  W E fb yuc ⟨[(0, v0), (1, v1), (9, v9), (10, v10)], h⟩ (finI []) (y1 0 (finI []) xN) (finI [])
def yfp (fb : Nat) (s : St) : Option (AV × Heap) := y1j3 fb (s 0) (s 1) (s 9) (s 10) s.h
theorem y12c (fb : Nat) (s : St) : W E fb yuc s (finI []) (y1 0 (finI []) xN) (finI []) = yfp fb s := yd.trans (by kernel_rfl)
def q4_2 (fb : Nat) (v0 v1 v9 v10 : AV) (h : Heap) : Option (AV × Heap) :=
ob (y3 .add v10 (AV.int .i64 1)) fun v22 =>
(y1j3 fb v0 v1 v9 v22 h)
def y2cz (fb : Nat) (s : St) : Option (AV × Heap) := q4_2 fb (s 0) (s 1) (s 9) (s 10) s.h
theorem y27i (fb : Nat) (s : St) : W E fb y22x s (yfp fb) (y1 0 (finI []) xN) (finI []) = y2cz fb s :=
  by kernel_rfl
def q4_3 (fb : Nat) (v0 v1 v9 v10 : AV) (h : Heap) : Option (AV × Heap) :=
ob (yg 1 v0 v10) fun v15 =>
ob (evLd false 1 v15 h) fun v16 =>
ob (y3 .eql v16 v1) fun v18 =>
cnd v18
 (ob (yg 1 v0 v10) fun v21 =>
oh (evSt 1 v21 (AV.int .i64 (-1)) h) fun _ h1 =>
(q4_2 fb v0 v1 v9 v10 h1))
 ((q4_2 fb v0 v1 v9 v10 h))
def y2de (fb : Nat) (s : St) : Option (AV × Heap) := q4_3 fb (s 0) (s 1) (s 9) (s 10) s.h
theorem y26v (fb : Nat) (s : St) : W E fb y21w s (yfp fb) (y1 0 (finI []) xN) (finI []) = y2de fb s :=
  (yjk (k := (y2cz fb)) (fun s => y27i fb s)).trans (by kernel_rfl)
def q4_4 (fb : Nat) (v0 v1 v9 v10 v11 : AV) (h : Heap) : Option (AV × Heap) :=
cnd v11
 ((q4_3 fb v0 v1 v9 v10 h))
 ((some ((.tup []), h)))
def y2ft (fb : Nat) (s : St) : Option (AV × Heap) := q4_4 fb (s 0) (s 1) (s 9) (s 10) (s 11) s.h
theorem y2b8 (fb : Nat) (s : St) : W E fb y21m s (yfp fb) (y1 0 (finI []) xN) (finI []) = y2ft fb s :=
  (yjk (k := (y2de fb)) (fun s => y26v fb s)).trans (by kernel_rfl)
def q4_5 (fb : Nat) (v0 v1 v9 v10 : AV) (h : Heap) : Option (AV × Heap) :=
ob (y3 .lss v10 v9) fun v11 =>
(q4_4 fb v0 v1 v9 v10 v11 h)
def y2md (fb : Nat) (s : St) : Option (AV × Heap) := q4_5 fb (s 0) (s 1) (s 9) (s 10) s.h
theorem y29r (fb : Nat) (s : St) : W E fb y22f s (yfp fb) (y1 0 (finI []) xN) (finI []) = y2md fb s :=
  (yjk (k := (y2ft fb)) (fun s => y2b8 fb s)).trans (by kernel_rfl)
theorem yvw (fb : Nat) (v0 v1 v9 v10 : AV) (h : Heap) : y1j3 fb v0 v1 v9 v10 h = (q4_5 fb v0 v1 v9 v10 h) :=
  y1t.trans ((y12 _ _ _ (n' := (yfp fb)) (fun s => y12c fb s)).trans ((y29r fb _).trans (by kernel_rfl)))
theorem y2c8 (fb : Nat) (s : St) : W E fb y210 s (finI []) xN (finI []) = yfp fb s :=
  yq.trans (y12c fb s)
def q4_7 (fb : Nat) (v0 v1 : AV) (h : Heap) : Option (AV × Heap) :=
ob (yt 1 v0 h) fun v9 =>
(y1j3 fb v0 v1 v9 (AV.int .i64 0) h)
def y2f3 (fb : Nat) (s : St) : Option (AV × Heap) := q4_7 fb (s 0) (s 1) s.h
theorem y290 (fb : Nat) (s : St) : W E fb y236 s (finI []) xN (finI []) = y2f3 fb s :=
  (yjk (k := (yfp fb)) (fun s => y2c8 fb s)).trans (by kernel_rfl)
def q4_8 (fb : Nat) (v0 v1 : AV) (h : Heap) : Option (AV × Heap) :=
ob (yg 1 v0 v1) fun v7 =>
oh (evSt 1 v7 (AV.int .i64 (-1)) h) fun _ h2 =>
(q4_7 fb v0 v1 h2)
def y2n0 (fb : Nat) (s : St) : Option (AV × Heap) := q4_8 fb (s 0) (s 1) s.h
theorem y27h (fb : Nat) (s : St) : W E fb y20q s (finI []) xN (finI []) = y2n0 fb s :=
  (yjk (k := (y2f3 fb)) (fun s => y290 fb s)).trans (by kernel_rfl)
@[simp] theorem y2k5 : E.pure 154 = false := rfl
theorem x_q4 (fb : Nat) (v0 v1 : AV) (h : Heap) : (y5 E).i 154 [v0, v1] fb h = q4_8 fb v0 v1 (if fb = h.length then h ++ yv 0 else h) :=
  (ytr (cf := c_q4) (by kernel_rfl) rfl).trans ((y27h fb _).trans (by kernel_rfl))
def y24d (h : Heap) : OX :=
(y8 h (.tup [(AV.int .i64 0), (AV.int .i64 0), (AV.int .i64 0)]))
def y3h (s : St) : OX := y24d s.h
theorem y1x2 : T0 y1cn [.t 2, .t 3, .t 4] y3h := fun _ => by kernel_rfl
def y18m (v5 v33 : AV) (h : Heap) : OX :=
cnd v33
 ((y8 h (.tup [(AV.int .i64 1), (AV.int .i64 0), (AV.int .i64 1)])))
 (ob (y3 .eql v5 (AV.int .i64 117)) fun v39 =>
cnd v39
 ((y8 h (.tup [(AV.int .i64 2), (AV.int .i64 0), (AV.int .i64 2)])))
 (ob (y3 .eql v5 (AV.int .i64 133)) fun v41 =>
cnd v41
 ((y8 h (.tup [(AV.int .i64 1), (AV.int .i64 0), (AV.int .i64 2)])))
 (ob (y3 .eql v5 (AV.int .i64 136)) fun v43 =>
cnd v43
 ((y8 h (.tup [(AV.int .i64 2), (AV.int .i64 0), (AV.int .i64 1)])))
 ((y24d h)))))
def y2hu (s : St) : OX := y18m (s 5) (s 33) s.h
theorem y1sc : T1 y1k3 y3h (y1 0 y3h xN) [.t 2, .t 3, .t 4] y2hu := fun _ => by kernel_rfl
def y24b (v5 : AV) (h : Heap) : OX :=
ob (y3 .eql v5 (AV.int .i64 116)) fun v34 =>
cnd v34
 ((y18m v5 v34 h))
 (ob (y3 .eql v5 (AV.int .i64 145)) fun v35 =>
cnd v35
 ((y18m v5 v35 h))
 (ob (y3 .eql v5 (AV.int .i64 146)) fun v36 =>
cnd v36
 ((y18m v5 v36 h))
 (ob (y3 .eql v5 (AV.int .i64 147)) fun v37 =>
(y18m v5 v37 h))))
def y2jh (s : St) : OX := y24b (s 5) s.h
theorem y206 : T1 y1nt y3h (y1 0 y3h xN) [.t 2, .t 3, .t 4] y2jh := sq y1sc fun _ => by kernel_rfl
def y27t (v5 v31 : AV) (h : Heap) : OX :=
cnd v31
 ((y8 h (.tup [(AV.int .i64 2), (AV.int .i64 2), (AV.int .i64 1)])))
 ((y24b v5 h))
def y2gt (s : St) : OX := y27t (s 5) (s 31) s.h
theorem y1sn : T1 y1ba y3h (y1 0 y3h xN) [.t 2, .t 3, .t 4] y2gt := fun s => (y14 rfl (y206 s)).trans (by kernel_rfl)
def y2bs (v5 : AV) (h : Heap) : OX :=
ob (y3 .eql v5 (AV.int .i64 148)) fun v32 =>
(y27t v5 v32 h)
def y2gd (s : St) : OX := y2bs (s 5) s.h
theorem y1yd : T1 y1n2 y3h (y1 0 y3h xN) [.t 2, .t 3, .t 4] y2gd := sq y1sn fun _ => by kernel_rfl
def y1fs (v5 v27 : AV) (h : Heap) : OX :=
cnd v27
 ((y8 h (.tup [(AV.int .i64 2), (AV.int .i64 1), (AV.int .i64 2)])))
 ((y2bs v5 h))
def y2h6 (s : St) : OX := y1fs (s 5) (s 27) s.h
theorem y1x6 : T1 y1lr y3h (y1 0 y3h xN) [.t 2, .t 3, .t 4] y2h6 := fun s => (y14 rfl (y1yd s)).trans (by kernel_rfl)
def y2at (v5 : AV) (h : Heap) : OX :=
ob (y3 .eql v5 (AV.int .i64 121)) fun v28 =>
cnd v28
 ((y1fs v5 v28 h))
 (ob (y3 .eql v5 (AV.int .i64 123)) fun v29 =>
cnd v29
 ((y1fs v5 v29 h))
 (ob (y3 .eql v5 (AV.int .i64 125)) fun v30 =>
(y1fs v5 v30 h)))
def y2hp (s : St) : OX := y2at (s 5) s.h
theorem y1tg : T1 y1ax y3h (y1 0 y3h xN) [.t 2, .t 3, .t 4] y2hp := sq y1x6 fun _ => by kernel_rfl
def yji (v5 v18 : AV) (h : Heap) : OX :=
cnd v18
 ((y8 h (.tup [(AV.int .i64 2), (AV.int .i64 2), (AV.int .i64 2)])))
 ((y2at v5 h))
def y2dg (s : St) : OX := yji (s 5) (s 18) s.h
theorem y1xo : T1 y1ik y3h (y1 0 y3h xN) [.t 2, .t 3, .t 4] y2dg := fun s => (y14 rfl (y1tg s)).trans (by kernel_rfl)
def y2bm (v5 : AV) (h : Heap) : OX :=
ob (y3 .eql v5 (AV.int .i64 97)) fun v19 =>
cnd v19
 ((yji v5 v19 h))
 (ob (y3 .eql v5 (AV.int .i64 101)) fun v20 =>
cnd v20
 ((yji v5 v20 h))
 (ob (y3 .eql v5 (AV.int .i64 105)) fun v21 =>
cnd v21
 ((yji v5 v21 h))
 (ob (y3 .eql v5 (AV.int .i64 109)) fun v22 =>
cnd v22
 ((yji v5 v22 h))
 (ob (y3 .eql v5 (AV.int .i64 113)) fun v23 =>
cnd v23
 ((yji v5 v23 h))
 (ob (y3 .eql v5 (AV.int .i64 127)) fun v24 =>
cnd v24
 ((yji v5 v24 h))
 (ob (y3 .eql v5 (AV.int .i64 129)) fun v25 =>
cnd v25
 ((yji v5 v25 h))
 (ob (y3 .eql v5 (AV.int .i64 131)) fun v26 =>
(yji v5 v26 h))))))))
def y2fb (s : St) : OX := y2bm (s 5) s.h
theorem y1yh : T1 y1cc y3h (y1 0 y3h xN) [.t 2, .t 3, .t 4] y2fb := sq y1xo fun _ => by kernel_rfl
def y7j (v5 v6 : AV) (h : Heap) : OX :=
cnd v6
 ((y8 h (.tup [(AV.int .i64 1), (AV.int .i64 1), (AV.int .i64 1)])))
 ((y2bm v5 h))
def y2ac (s : St) : OX := y7j (s 5) (s 6) s.h
theorem y1hd : T1 yvx y3h (y1 0 y3h xN) [.t 2, .t 3, .t 4] y2ac := fun s => (y14 rfl (y1yh s)).trans (by kernel_rfl)
def y1dz (v5 : AV) (h : Heap) : OX :=
ob (y3 .eql v5 (AV.int .i64 96)) fun v7 =>
cnd v7
 ((y7j v5 v7 h))
 (ob (y3 .eql v5 (AV.int .i64 100)) fun v8 =>
cnd v8
 ((y7j v5 v8 h))
 (ob (y3 .eql v5 (AV.int .i64 104)) fun v9 =>
cnd v9
 ((y7j v5 v9 h))
 (ob (y3 .eql v5 (AV.int .i64 108)) fun v10 =>
cnd v10
 ((y7j v5 v10 h))
 (ob (y3 .eql v5 (AV.int .i64 112)) fun v11 =>
cnd v11
 ((y7j v5 v11 h))
 (ob (y3 .eql v5 (AV.int .i64 120)) fun v12 =>
cnd v12
 ((y7j v5 v12 h))
 (ob (y3 .eql v5 (AV.int .i64 122)) fun v13 =>
cnd v13
 ((y7j v5 v13 h))
 (ob (y3 .eql v5 (AV.int .i64 124)) fun v14 =>
cnd v14
 ((y7j v5 v14 h))
 (ob (y3 .eql v5 (AV.int .i64 126)) fun v15 =>
cnd v15
 ((y7j v5 v15 h))
 (ob (y3 .eql v5 (AV.int .i64 128)) fun v16 =>
cnd v16
 ((y7j v5 v16 h))
 (ob (y3 .eql v5 (AV.int .i64 130)) fun v17 =>
(y7j v5 v17 h)))))))))))
def y1ok (s : St) : OX := y1dz (s 5) s.h
theorem y1bc : T1 yzu y3h (y1 0 y3h xN) [.t 2, .t 3, .t 4] y1ok := sq y1hd fun _ => by kernel_rfl
theorem y1oa : T1 y13n y3h xN [.t 2, .t 3, .t 4] y1ok := fun s => yq.trans (y1bc s)
def y1j5 (v0 : AV) (h : Heap) : OX :=
(y1dz v0 h)
def y1l9 (s : St) : OX := y1j5 (s 0) s.h
theorem y1e5 : T1 yy3 y3h xN [.t 2, .t 3, .t 4] y1l9 := sq y1oa fun _ => by kernel_rfl
theorem y1jm : T0 yvi [.t 2, .t 3, .t 4] y1l9 := sq y1x2 y1e5
def y1mi (v0 : AV) (h : Heap) : OX :=
(y1j5 v0 h)
def y257 (s : St) : OX := y1mi (s 0) s.h
theorem y18w : T0 yza [.t 2, .t 3, .t 4] y257 := sq y1jm fun _ => by kernel_rfl
@[simp] theorem y2od : E.pure 50 = true := rfl
theorem y2nl (v0 : AV) : (y5 E).p 50 [v0] = y1mi v0 [] :=
  (yu (cf := y2il) (by kernel_rfl) rfl).trans ((y18w _).trans (by kernel_rfl))
def q8_1 (v0 : AV) (h : Heap) : OX :=
ob (y3 .neq v0 (AV.str [])) fun v4 =>
gb v4 true (some v0) fun v6 =>
gh v4 true (y4 E (y5 E) 0 none true 44 [v6] h) h fun v7 h1 =>
gb v4 true (some v0) fun v8 =>
gb v4 true (yt 0 v8 h1) fun v9 =>
gb v4 true (y3 .eql v7 v9) fun v10 =>
ob (y7 v4 v10 (AV.bool false)) fun v11 =>
(y8 h1 v11)
def y2o3 (s : St) : OX := q8_1 (s 0) s.h
theorem y2a7 : T0 y20v [.t 2] y2o3 := fun _ => by kernel_rfl
@[simp] theorem y2n5 : E.pure 37 = true := rfl
theorem x_q8 (v0 : AV) : (y5 E).p 37 [v0] = q8_1 v0 [] :=
  (yu (cf := c_q8) (by kernel_rfl) rfl).trans ((y2a7 _).trans (by kernel_rfl))
def yto (v2 : AV) (h : Heap) : OX :=
ob (y10 [(.int .i64 0), (.int .i64 0), (.int .i64 0), (.int .i64 0)] []) fun v73 =>
oh (evSt 4 v2 v73 h) fun _ h1 =>
(ob (evLd true 4 v2 h1) fun r0 =>
  y8 h1 (.tup [r0, (AV.bool false)]))
def y26 (s : St) : OX := yto (s 2) s.h
theorem y1zy : T0 y1ku [.cell 2 true 4, .t 3] y26 := fun _ => by kernel_rfl
def yow (v1 v2 v4 : AV) (h : Heap) : OX :=
ob (y10 [(.int .i64 0), (.int .i64 0), (.int .i64 0), (.int .i64 0)] [(0, 1, (AV.int .i64 (-1))), (1, 1, (AV.int .i64 3)), (2, 1, v4), (3, 1, (AV.int .i64 (-1)))]) fun v16 =>
ob (evFa 5 v1) fun v17 =>
ob (evLd false 1 v17 h) fun v18 =>
ob (y3 .eql v18 (AV.int .i64 0)) fun v19 =>
ofp (fgd v19 false (some ([], []))) fun f6 =>
gb v19 false (evFa 5 v1) fun v21 =>
ofp (fgd v19 false (some (ids1 v21, []))) fun f7 =>
gb v19 false (evLd false 1 v21 h) fun v22 =>
ofp (fgd v19 false (some ([], []))) fun f8 =>
gb v19 false (y3 .eql v22 (AV.int .i64 1)) fun v23 =>
ob (y7 v19 (AV.bool true) v23) fun v24 =>
oh (evSt 4 v2 v16 h) fun _ h2 =>
okK (y9 [([], []), ([], []), ([], []), (ids1 v17, []), ([], []), ([], []), f6, f7, f8, ([], []), ([], ids1 v2), ([], [])] [(7, 10)]) <|
(ob (evLd true 4 v2 h2) fun r0 =>
  y8 h2 (.tup [r0, v24]))
def y2e5 (s : St) : OX := yow (s 1) (s 2) (s 4) s.h
theorem y1u4 : T1 y1gy y26 (y1 0 y26 xN) [.cell 2 true 4, .t 3] y2e5 := fun _ => by kernel_rfl
def ytb (v1 v2 v4 : AV) (h : Heap) : OX :=
ob (evFa 3 v1) fun v12 =>
ob (evLd false 1 v12 h) fun v13 =>
ob (y3 .neq v13 (AV.int .i64 (-1))) fun v14 =>
cnd v14
 ((yow v1 v2 (AV.int .i64 3) h))
 ((yow v1 v2 v4 h))
def y2is (s : St) : OX := ytb (s 1) (s 2) (s 4) s.h
theorem y1xy : T1 y1n3 y26 (y1 0 y26 xN) [.cell 2 true 4, .t 3] y2is := sq y1u4 fun _ => by kernel_rfl
def yuh (v1 v2 : AV) (h : Heap) : OX :=
(ytb v1 v2 (AV.int .i64 (-1)) h)
def y2ed (s : St) : OX := yuh (s 1) (s 2) s.h
theorem y1wn : T1 y1f7 y26 (y1 0 y26 xN) [.cell 2 true 4, .t 3] y2ed := sq y1xy fun _ => by kernel_rfl
def ys8 (v2 v5 : AV) (h : Heap) : OX :=
ob (y10 [(.int .i64 0), (.int .i64 0), (.int .i64 0), (.int .i64 0)] [(0, 1, (AV.int .i64 (-1))), (1, 1, v5), (2, 1, (AV.int .i64 (-1))), (3, 1, (AV.int .i64 (-1)))]) fun v31 =>
oh (evSt 4 v2 v31 h) fun _ h3 =>
(ob (evLd true 4 v2 h3) fun r0 =>
  y8 h3 (.tup [r0, (AV.bool true)]))
def y2ec (s : St) : OX := ys8 (s 2) (s 5) s.h
theorem y1ta : T1 y1is y26 (y1 0 y26 xN) [.cell 2 true 4, .t 3] y2ec := fun _ => by kernel_rfl
def yv2 (v1 v2 v5 : AV) (h : Heap) : OX :=
ob (evFa 2 v1) fun v27 =>
ob (evLd false 1 v27 h) fun v28 =>
ob (y3 .neq v28 (AV.int .i64 (-1))) fun v29 =>
cnd v29
 ((ys8 v2 (AV.int .i64 0) h))
 ((ys8 v2 v5 h))
def y2hj (s : St) : OX := yv2 (s 1) (s 2) (s 5) s.h
theorem y1y5 : T1 y1hn y26 (y1 0 y26 xN) [.cell 2 true 4, .t 3] y2hj := sq y1ta fun _ => by kernel_rfl
def ysw (v1 v2 : AV) (h : Heap) : OX :=
(yv2 v1 v2 (AV.int .i64 (-1)) h)
def y2df (s : St) : OX := ysw (s 1) (s 2) s.h
theorem y1vh : T1 y1i8 y26 (y1 0 y26 xN) [.cell 2 true 4, .t 3] y2df := sq y1y5 fun _ => by kernel_rfl
def ype (v1 v2 v6 : AV) (h : Heap) : OX :=
ob (evFa 0 v1) fun v40 =>
ob (evLd false 1 v40 h) fun v41 =>
ob (y3 .eql v41 (AV.int .i64 23)) fun v42 =>
gb v42 false (evFa 0 v1) fun v44 =>
gb v42 false (evLd false 1 v44 h) fun v45 =>
gb v42 false (y3 .eql v45 (AV.int .i64 26)) fun v46 =>
ob (y7 v42 (AV.bool true) v46) fun v47 =>
gb v47 false (evFa 8 v1) fun v49 =>
gb v47 false (evLd false 1 v49 h) fun v50 =>
gb v47 false (yt 1 v50 h) fun v51 =>
gb v47 false (y3 .gtr v51 (AV.int .i64 0)) fun v52 =>
ob (y7 v47 (AV.bool true) v52) fun v53 =>
ob (y10 [(.int .i64 0), (.int .i64 0), (.int .i64 0), (.int .i64 0)] [(0, 1, v6), (1, 1, (AV.int .i64 (-1))), (2, 1, (AV.int .i64 (-1))), (3, 1, (AV.int .i64 (-1)))]) fun v55 =>
ofp (fgd v53 true (some ([], []))) fun f4 =>
gb v53 true (evFa 5 v1) fun v58 =>
ofp (fgd v53 true (some (ids1 v58, []))) fun f5 =>
gb v53 true (evLd false 1 v58 h) fun v59 =>
ofp (fgd v53 true (some ([], []))) fun f6 =>
gb v53 true (y3 .geq v59 (AV.int .i64 0)) fun v60 =>
ofp (fgd v53 true (some ([], []))) fun f7 =>
gb v53 true (some v60) fun v61 =>
ofp (fgd v61 false (some ([], []))) fun f8 =>
gb v61 false (evFa 0 v1) fun v62 =>
ofp (fgd v61 false (some (ids1 v62, []))) fun f9 =>
gb v61 false (evLd false 1 v62 h) fun v63 =>
ofp (fgd v61 false (some ([], []))) fun f10 =>
gb v61 false (y3 .eql v63 (AV.int .i64 25)) fun v64 =>
ofp (fgd v53 true (some ([], []))) fun f11 =>
gb v53 true (y7 v61 (AV.bool true) v64) fun v65 =>
ob (y7 v53 v65 (AV.bool false)) fun v66 =>
ofp (fgd v66 true (some ([], []))) fun f14 =>
gb v66 true (evFa 8 v1) fun v68 =>
ofp (fgd v66 true (some (ids1 v68, []))) fun f15 =>
gb v66 true (evLd false 1 v68 h) fun v69 =>
ofp (fgd v66 true (some (ids1 v69, []))) fun f16 =>
gb v66 true (yt 1 v69 h) fun v70 =>
ofp (fgd v66 true (some ([], []))) fun f17 =>
gb v66 true (y3 .leq v70 (AV.int .i64 21)) fun v71 =>
ob (y7 v66 v71 (AV.bool false)) fun v72 =>
oh (evSt 4 v2 v55 h) fun _ h4 =>
okK (y9 [([], []), ([], []), ([], []), ([], []), f4, f5, f6, f7, f8, f9, f10, f11, ([], []), ([], []), f14, f15, f16, f17, ([], []), ([], ids1 v2), ([], [])] [(15, 19), (16, 19)]) <|
(ob (evLd true 4 v2 h4) fun r0 =>
  y8 h4 (.tup [r0, v72]))
def y2gz (s : St) : OX := ype (s 1) (s 2) (s 6) s.h
theorem y1xv : T1 y1jg y26 (y1 0 y26 xN) [.cell 2 true 4, .t 3] y2gz := fun _ => by kernel_rfl
def yux (v1 v2 v6 : AV) (h : Heap) : OX :=
ob (evFa 1 v1) fun v37 =>
ob (evLd false 1 v37 h) fun v38 =>
ob (y3 .neq v38 (AV.int .i64 (-1))) fun v39 =>
cnd v39
 ((ype v1 v2 (AV.int .i64 0) h))
 ((ype v1 v2 v6 h))
def y2ho (s : St) : OX := yux (s 1) (s 2) (s 6) s.h
theorem y20c : T1 y1k2 y26 (y1 0 y26 xN) [.cell 2 true 4, .t 3] y2ho := sq y1xv fun _ => by kernel_rfl
def yj5 (v1 v2 : AV) (h : Heap) : OX :=
(yux v1 v2 (AV.int .i64 (-1)) h)
def y25y (s : St) : OX := yj5 (s 1) (s 2) s.h
theorem y1bl : T1 y12l y26 (y1 0 y26 xN) [.cell 2 true 4, .t 3] y25y := sq y20c fun _ => by kernel_rfl
def ybp (v1 v2 v32 : AV) (h : Heap) : OX :=
cnd v32
 ((yj5 v1 v2 h))
 ((yto v2 h))
def y28l (s : St) : OX := ybp (s 1) (s 2) (s 32) s.h
theorem y1dg : T1 ywx y26 (y1 0 y26 xN) [.cell 2 true 4, .t 3] y28l := fun s => (y14 (y1bl s) rfl).trans (by kernel_rfl)
def ygy (v1 v2 v9 : AV) (h : Heap) : OX :=
ob (y3 .eql v9 (AV.int .i64 23)) fun v33 =>
cnd v33
 ((ybp v1 v2 v33 h))
 (ob (y3 .eql v9 (AV.int .i64 24)) fun v34 =>
cnd v34
 ((ybp v1 v2 v34 h))
 (ob (y3 .eql v9 (AV.int .i64 25)) fun v35 =>
cnd v35
 ((ybp v1 v2 v35 h))
 (ob (y3 .eql v9 (AV.int .i64 26)) fun v36 =>
(ybp v1 v2 v36 h))))
def y28z (s : St) : OX := ygy (s 1) (s 2) (s 9) s.h
theorem y1ei : T1 y12q y26 (y1 0 y26 xN) [.cell 2 true 4, .t 3] y28z := sq y1dg fun _ => by kernel_rfl
def ygq (v1 v2 v9 v25 : AV) (h : Heap) : OX :=
cnd v25
 ((ysw v1 v2 h))
 ((ygy v1 v2 v9 h))
def y276 (s : St) : OX := ygq (s 1) (s 2) (s 9) (s 25) s.h
theorem y1jf : T1 y12d y26 (y1 0 y26 xN) [.cell 2 true 4, .t 3] y276 := fun s => (y14 (y1vh s) (y1ei s)).trans (by kernel_rfl)
def ygm (v1 v2 v9 : AV) (h : Heap) : OX :=
ob (y3 .eql v9 (AV.int .i64 30)) fun v26 =>
(ygq v1 v2 v9 v26 h)
def y29q (s : St) : OX := ygm (s 1) (s 2) (s 9) s.h
theorem y1q2 : T1 y12a y26 (y1 0 y26 xN) [.cell 2 true 4, .t 3] y29q := sq y1jf fun _ => by kernel_rfl
def ygl (v1 v2 v9 v10 : AV) (h : Heap) : OX :=
cnd v10
 ((yuh v1 v2 h))
 ((ygm v1 v2 v9 h))
def y25f (s : St) : OX := ygl (s 1) (s 2) (s 9) (s 10) s.h
theorem y19q : T1 y12r y26 (y1 0 y26 xN) [.cell 2 true 4, .t 3] y25f := fun s => (y14 (y1wn s) (y1q2 s)).trans (by kernel_rfl)
def yh7 (v1 v2 v9 : AV) (h : Heap) : OX :=
ob (y3 .eql v9 (AV.int .i64 29)) fun v11 =>
(ygl v1 v2 v9 v11 h)
def y1ic (s : St) : OX := yh7 (s 1) (s 2) (s 9) s.h
theorem y1iu : T1 yyj y26 (y1 0 y26 xN) [.cell 2 true 4, .t 3] y1ic := sq y19q fun _ => by kernel_rfl
theorem y1l6 : T1 y07 y26 xN [.cell 2 true 4, .t 3] y1ic := fun s => yq.trans (y1iu s)
def yiy (v1 v2 : AV) (h : Heap) : OX :=
ob (evFa 0 v1) fun v8 =>
ob (evLd false 1 v8 h) fun v9 =>
(yh7 v1 v2 v9 h)
def y1o9 (s : St) : OX := yiy (s 1) (s 2) s.h
theorem y1fv : T1 yzv y26 xN [.cell 2 true 4, .t 3] y1o9 := sq y1l6 fun _ => by kernel_rfl
theorem y1pt : T0 y120 [.cell 2 true 4, .t 3] y1o9 := sq y1zy y1fv
def yh0 (v0 : AV) (h : Heap) : OX :=
oh (newC 0 (some 0) (cellsOf v0) h) fun v1 h5 =>
oh (newC 0 (some 1) [(.int .i64 0), (.int .i64 0), (.int .i64 0), (.int .i64 0)] h5) fun v2 h6 =>
(yiy v1 v2 h6)
def y27b (s : St) : OX := yh0 (s 0) s.h
theorem y1c4 : T0 y11m [.cell 2 true 4, .t 3] y27b := sq y1pt fun _ => by kernel_rfl
@[simp] theorem y2mc : E.pure 51 = true := rfl
theorem y1w6 (v0 : AV) : (y5 E).p 51 [v0] = yh0 v0 [⟨0, .dead⟩, ⟨0, .dead⟩] :=
  (yu (cf := y2jc) (by kernel_rfl) rfl).trans ((y1c4 _).trans (by kernel_rfl))
def yhq (v0 : AV) (h : Heap) : OX :=
ob (y3 .neq v0 (AV.str [])) fun v25 =>
gb v25 true (some v0) fun v27 =>
gb v25 true (yt 0 v27 h) fun v28 =>
gb v25 true (y3 .leq v28 (AV.int .i64 60)) fun v29 =>
ob (y7 v25 v29 (AV.bool false)) fun v30 =>
(y8 h v30)
def y6v (s : St) : OX := yhq (s 0) s.h
theorem y1m8 : T0 y14v [.t 4] y6v := fun _ => by kernel_rfl
def ye8 (v0 v5 v6 : AV) (h : Heap) : OX :=
  W E 0 yie ⟨[(0, v0), (5, v5), (6, v6)], h⟩ y6v (y1 0 y6v xN) (finP [.t 4])
def yb1 (s : St) : OX := ye8 (s 0) (s 5) (s 6) s.h
theorem yl9 : T1 yie y6v (y1 0 y6v xN) [.t 4] yb1 := fun s => yd.trans (by kernel_rfl)
def y157 (v0 v5 v6 : AV) (h : Heap) : OX :=
ob (y3 .add v6 (AV.int .i64 1)) fun v15 =>
(ye8 v0 v5 v15 h)
def y2ca (s : St) : OX := y157 (s 0) (s 5) (s 6) s.h
theorem y1la : T1 yx6 yb1 (y1 0 y6v xN) [.t 4] y2ca := fun _ => by kernel_rfl
def yrs (v0 v5 v6 : AV) (h : Heap) : OX :=
ob (y3 .add v6 (AV.int .i64 1)) fun v20 =>
ob (yde v0 (some v6) (some v20)) fun v21 =>
oh (y4 E (y5 E) 0 none true 53 [v5, v21] h) fun v22 h1 =>
ob (evUn .not v22) fun v23 =>
cnd v23
 ((y8 h1 (AV.bool false)))
 ((y157 v0 v5 v6 h1))
def y273 (s : St) : OX := yrs (s 0) (s 5) (s 6) s.h
theorem y1po : T1 yy0 yb1 (y1 0 y6v xN) [.t 4] y273 := sq y1la fun _ => by kernel_rfl
def ys7 (v0 v5 v6 : AV) (h : Heap) : OX :=
ob (yt 0 v0 h) fun v12 =>
ob (y3 .lss v6 v12) fun v13 =>
cnd v13
 ((yrs v0 v5 v6 h))
 ((yhq v0 h))
def y24p (s : St) : OX := ys7 (s 0) (s 5) (s 6) s.h
theorem y1ja : T1 y147 yb1 (y1 0 y6v xN) [.t 4] y24p := sq y1po fun _ => by kernel_rfl
theorem yjz (v0 v5 v6 : AV) (h : Heap) : ye8 v0 v5 v6 h = (ys7 v0 v5 v6 h) :=
  y1t.trans ((y12 _ _ _ (n' := yb1) (fun s => yl9 s)).trans ((y1ja _).trans (by kernel_rfl)))
theorem y1bk : T1 y12u y6v xN [.t 4] yb1 := fun s => yq.trans (yl9 s)
def yvf (v0 v5 : AV) (h : Heap) : OX :=
(ye8 v0 v5 (AV.int .i64 0) h)
def y1on (s : St) : OX := yvf (s 0) (s 5) s.h
theorem y1dr : T1 yyh y6v xN [.t 4] y1on := sq y1bk fun _ => by kernel_rfl
theorem y1aa : T0 y121 [.t 4] y1on := sq y1m8 y1dr
def y1lf (v0 v1 v5 : AV) (h : Heap) : OX :=
cnd v1
 (ob (y3 .add v5 (AV.str [60, 62])) fun v9 =>
(yvf v0 v9 h))
 ((yvf v0 v5 h))
def y291 (s : St) : OX := y1lf (s 0) (s 1) (s 5) s.h
theorem y1aq : T0 yw0 [.t 4] y291 := sq y1aa fun _ => by kernel_rfl
def yti (v0 v1 : AV) (h : Heap) : OX :=
(y1lf v0 v1 (AV.str [97, 98, 99, 100, 101, 102, 103, 104, 105, 106, 107, 108, 109, 110, 111, 112, 113, 114, 115, 116, 117, 118, 119, 120, 121, 122, 65, 66, 67, 68, 69, 70, 71, 72, 73, 74, 75, 76, 77, 78, 79, 80, 81, 82, 83, 84, 85, 86, 87, 88, 89, 90, 48, 49, 50, 51, 52, 53, 54, 55, 56, 57, 95, 36, 47]) h)
def y1rn (s : St) : OX := yti (s 0) (s 1) s.h
theorem y16k : T0 yod [.t 4] y1rn := sq y1aq fun _ => by kernel_rfl
def yno (v0 v1 : AV) (h : Heap) : OX :=
(yti v0 v1 h)
def y1wq (s : St) : OX := yno (s 0) (s 1) s.h
theorem y16s : T0 yrj [.t 4] y1wq := sq y16k fun _ => by kernel_rfl
@[simp] theorem y2nw : E.pure 69 = true := rfl
theorem y2el (v0 v1 : AV) : (y5 E).p 69 [v0, v1] = yno v0 v1 [] :=
  (yu (cf := y22r) (by kernel_rfl) rfl).trans ((y16s _).trans (by kernel_rfl))
@[simp] theorem y2k0 : E.pure 158 = true := rfl
def y25x (v0 v1 : AV) (h : Heap) : OX :=
ob (y3 .and v0 (AV.int .u64 4294967295)) fun v15 =>
ob (y3 .shr v0 (AV.int .u64 32)) fun v17 =>
ob (y3 .and v1 (AV.int .u64 4294967295)) fun v19 =>
ob (y3 .shr v1 (AV.int .u64 32)) fun v21 =>
ob (y3 .mul v15 v19) fun v24 =>
ob (y3 .mul v17 v19) fun v27 =>
ob (y3 .shr v24 (AV.int .u64 32)) fun v29 =>
ob (y3 .add v27 v29) fun v30 =>
ob (y3 .and v30 (AV.int .u64 4294967295)) fun v32 =>
ob (y3 .shr v30 (AV.int .u64 32)) fun v34 =>
ob (y3 .mul v15 v21) fun v38 =>
ob (y3 .add v32 v38) fun v39 =>
ob (y3 .mul v17 v21) fun v42 =>
ob (y3 .add v42 v34) fun v44 =>
ob (y3 .shr v39 (AV.int .u64 32)) fun v46 =>
ob (y3 .add v44 v46) fun v47 =>
ob (y3 .mul v0 v1) fun v50 =>
(y8 h (.tup [v47, v50]))
def y2g4 (s : St) : OX := y25x (s 0) (s 1) s.h
theorem y1v7 : T0 y1pe [.t 4, .t 5] y2g4 := fun _ => by kernel_rfl
@[simp] theorem y2k6 : E.pure 159 = true := rfl
theorem y2kv (v0 v1 : AV) : (y5 E).p 159 [v0, v1] = y25x v0 v1 [] :=
  (yu (cf := y2dd) (by kernel_rfl) rfl).trans ((y1v7 _).trans (by kernel_rfl))
def q9_1 (h : Heap) : OX :=
(y8 h (AV.int .i64 0))
def y3c (s : St) : OX := q9_1 s.h
theorem y24k : T0 y21d [.t 2] y3c := fun _ => by kernel_rfl
def y1qp (v0 v3 v4 : AV) (h : Heap) : OX :=
  W E 0 yuw ⟨[(0, v0), (3, v3), (4, v4)], h⟩ y3c (y1 3 y3c (y1 2 y3c xN)) (finP [.t 2])
def ylj (s : St) : OX := y1qp (s 0) (s 3) (s 4) s.h
theorem yya : T1 yuw y3c (y1 3 y3c (y1 2 y3c xN)) [.t 2] ylj := fun s => yd.trans (by kernel_rfl)
def q9_3 (v0 v3 v4 : AV) (h : Heap) : OX :=
ob (y3 .add v4 (AV.int .i64 1)) fun v42 =>
(y1qp v0 v3 v42 h)
def yjv (s : St) : OX := q9_3 (s 0) (s 3) (s 4) s.h
theorem y298 : T1 y22i ylj (y1 3 y3c (y1 2 y3c xN)) [.t 2] yjv := fun _ => by kernel_rfl
def q9_4 (h : Heap) : OX :=
(y8 h (AV.int .i64 0))
def y2m2 (s : St) : OX := q9_4 s.h
theorem y2bz : T1 y220 yjv (y1 4 yjv (y1 3 y3c (y1 2 y3c xN))) [.t 2] y2m2 := fun _ => by kernel_rfl
def q9_5 (v0 v3 v4 : AV) (h : Heap) : OX :=
ob (y3 .add v3 (AV.int .i64 1)) fun v49 =>
ob (yde v0 (some v49) (some v4)) fun v51 =>
oh (y4 E (y5 E) 0 none true 60 [v51, (AV.bool false)] h) fun v52 h1 =>
cnd v52
 (ob (y3 .add v4 (AV.int .i64 1)) fun v54 =>
(y8 h1 v54))
 ((q9_4 h1))
def y2ko (s : St) : OX := q9_5 (s 0) (s 3) (s 4) s.h
theorem y266 : T1 y233 yjv (y1 4 yjv (y1 3 y3c (y1 2 y3c xN))) [.t 2] y2ko := sq y2bz fun _ => by kernel_rfl
def q9_6 (v0 v3 v4 v46 : AV) (h : Heap) : OX :=
cnd v46
 ((q9_5 v0 v3 v4 h))
 ((q9_3 v0 v3 v4 h))
def y2lm (s : St) : OX := q9_6 (s 0) (s 3) (s 4) (s 46) s.h
theorem y27e : T1 y213 yjv (y1 4 yjv (y1 3 y3c (y1 2 y3c xN))) [.t 2] y2lm := fun s => (y14 (y266 s) rfl).trans (by kernel_rfl)
def q9_7 (v0 v3 v4 : AV) (h : Heap) : OX :=
ob (y5h v0 v4) fun v45 =>
ob (y3 .eql v45 (AV.int .u8 59)) fun v46 =>
(q9_6 v0 v3 v4 v46 h)
def y28f (s : St) : OX := q9_7 (s 0) (s 3) (s 4) s.h
theorem y268 : T1 y216 yjv (y1 4 yjv (y1 3 y3c (y1 2 y3c xN))) [.t 2] y28f := sq y27e fun _ => by kernel_rfl
theorem y23v : T1 y21s yjv (y1 3 y3c (y1 2 y3c xN)) [.t 2] y28f := fun s => yq.trans (y268 s)
theorem y29z : T1 y22u ylj (y1 3 y3c (y1 2 y3c xN)) [.t 2] y28f := sq y298 y23v
def y176 (v0 v3 v4 : AV) (h : Heap) : OX :=
ob (yt 0 v0 h) fun v39 =>
ob (y3 .lss v4 v39) fun v40 =>
cnd v40
 ((q9_7 v0 v3 v4 h))
 ((q9_1 h))
def y2d7 (s : St) : OX := y176 (s 0) (s 3) (s 4) s.h
theorem y1vb : T1 y1py ylj (y1 3 y3c (y1 2 y3c xN)) [.t 2] y2d7 := sq y29z fun _ => by kernel_rfl
theorem ywr (v0 v3 v4 : AV) (h : Heap) : y1qp v0 v3 v4 h = (y176 v0 v3 v4 h) :=
  y1t.trans ((y12 _ _ _ (n' := ylj) (fun s => yya s)).trans ((y1vb _).trans (by kernel_rfl)))
theorem y1xp : T1 y1fw y3c (y1 2 y3c xN) [.t 2] ylj := fun s => yq.trans (yya s)
def y26a (v0 v3 : AV) (h : Heap) : OX :=
ob (y3 .add v3 (AV.int .i64 1)) fun v36 =>
(y1qp v0 v3 v36 h)
def y2io (s : St) : OX := y26a (s 0) (s 3) s.h
theorem y1xe : T1 y1b0 y3c (y1 2 y3c xN) [.t 2] y2io := sq y1xp fun _ => by kernel_rfl
def y1yj (v0 v3 v33 : AV) (h : Heap) : OX :=
cnd v33
 ((y26a v0 v3 h))
 ((q9_1 h))
def y2fy (s : St) : OX := y1yj (s 0) (s 3) (s 33) s.h
theorem y1xb : T1 y1c6 y3c (y1 2 y3c xN) [.t 2] y2fy := fun s => (y14 (y1xe s) rfl).trans (by kernel_rfl)
def y1zp (v0 v3 v27 : AV) (h : Heap) : OX :=
ob (y3 .eql v27 (AV.int .u8 76)) fun v34 =>
(y1yj v0 v3 v34 h)
def y2gr (s : St) : OX := y1zp (s 0) (s 3) (s 27) s.h
theorem y1s2 : T1 y1b3 y3c (y1 2 y3c xN) [.t 2] y2gr := sq y1xb fun _ => by kernel_rfl
def yup (v0 v3 v27 v28 : AV) (h : Heap) : OX :=
cnd v28
 (ob (y3 .add v3 (AV.int .i64 1)) fun v32 =>
(y8 h v32))
 ((y1zp v0 v3 v27 h))
def y2ef (s : St) : OX := yup (s 0) (s 3) (s 27) (s 28) s.h
theorem y1xj : T1 y1p7 y3c (y1 2 y3c xN) [.t 2] y2ef := fun s => (y14 rfl (y1s2 s)).trans (by kernel_rfl)
def y182 (v0 v3 v27 : AV) (h : Heap) : OX :=
ob (y3 .eql v27 (AV.int .u8 73)) fun v29 =>
cnd v29
 ((yup v0 v3 v27 v29 h))
 (ob (y3 .eql v27 (AV.int .u8 74)) fun v30 =>
(yup v0 v3 v27 v30 h))
def y231 (s : St) : OX := y182 (s 0) (s 3) (s 27) s.h
theorem y1sh : T1 y1ct y3c (y1 2 y3c xN) [.t 2] y231 := sq y1xj fun _ => by kernel_rfl
theorem y1sk : T1 y1fc y3c xN [.t 2] y231 := fun s => yq.trans (y1sh s)
def y16w (v0 v3 : AV) (h : Heap) : OX :=
ob (y5h v0 v3) fun v27 =>
(y182 v0 v3 v27 h)
def y21c (s : St) : OX := y16w (s 0) (s 3) s.h
theorem y20i : T1 y1b2 y3c xN [.t 2] y21c := sq y1sk fun _ => by kernel_rfl
theorem y1t3 : T0 y1gi [.t 2] y21c := sq y24k y20i
def yjm (v0 v3 : AV) (h : Heap) : OX :=
ob (y3 .gtr v3 (AV.int .i64 8)) fun v18 =>
gb v18 false (some v3) fun v20 =>
gb v18 false (some v0) fun v21 =>
gb v18 false (yt 0 v21 h) fun v22 =>
gb v18 false (y3 .eql v20 v22) fun v23 =>
ob (y7 v18 (AV.bool true) v23) fun v24 =>
cnd v24
 ((y8 h (AV.int .i64 0)))
 ((y16w v0 v3 h))
def yfo (s : St) : OX := yjm (s 0) (s 3) s.h
theorem y1ri : T0 y1qi [.t 2] yfo := sq y1t3 fun _ => by kernel_rfl
def yox (v0 v3 : AV) (h : Heap) : OX :=
  W E 0 ymd ⟨[(0, v0), (3, v3)], h⟩ yfo (y1 0 yfo xN) (finP [.t 2])
def yew (s : St) : OX := yox (s 0) (s 3) s.h
theorem yst : T1 ymd yfo (y1 0 yfo xN) [.t 2] yew := fun s => yd.trans (by kernel_rfl)
def y286 (v0 v3 : AV) (h : Heap) : OX :=
ob (y3 .add v3 (AV.int .i64 1)) fun v16 =>
(yox v0 v16 h)
def y2e8 (s : St) : OX := y286 (s 0) (s 3) s.h
theorem y1wo : T1 y1ff yew (y1 0 yfo xN) [.t 2] y2e8 := fun _ => by kernel_rfl
def y1fg (v0 v3 : AV) (h : Heap) : OX :=
ob (yt 0 v0 h) fun v7 =>
ob (y3 .lss v3 v7) fun v8 =>
gb v8 true (some v0) fun v10 =>
gb v8 true (some v3) fun v11 =>
gb v8 true (y5h v10 v11) fun v12 =>
gb v8 true (y3 .eql v12 (AV.int .u8 91)) fun v13 =>
ob (y7 v8 v13 (AV.bool false)) fun v14 =>
cnd v14
 ((y286 v0 v3 h))
 ((yjm v0 v3 h))
def y2im (s : St) : OX := y1fg (s 0) (s 3) s.h
theorem y1u1 : T1 y190 yew (y1 0 yfo xN) [.t 2] y2im := sq y1wo fun _ => by kernel_rfl
theorem yrk (v0 v3 : AV) (h : Heap) : yox v0 v3 h = (y1fg v0 v3 h) :=
  y1t.trans ((y12 _ _ _ (n' := yew) (fun s => yst s)).trans ((y1u1 _).trans (by kernel_rfl)))
theorem y1tz : T1 y1fq yfo xN [.t 2] yew := fun s => yq.trans (yst s)
theorem y1t9 : T0 y1fb [.t 2] yew := sq y1ri y1tz
def y23m (v0 : AV) (h : Heap) : OX :=
(yox v0 (AV.int .i64 0) h)
def y2jd (s : St) : OX := y23m (s 0) s.h
theorem y1tt : T0 y1nc [.t 2] y2jd := sq y1t9 fun _ => by kernel_rfl
def y24h (v0 : AV) (h : Heap) : OX :=
(y23m v0 h)
def y2j6 (s : St) : OX := y24h (s 0) s.h
theorem y1ur : T0 y1bm [.t 2] y2j6 := sq y1tt fun _ => by kernel_rfl
@[simp] theorem y2n1 : E.pure 44 = true := rfl
theorem x_q9 (v0 : AV) : (y5 E).p 44 [v0] = y24h v0 [] :=
  (yu (cf := c_q9) (by kernel_rfl) rfl).trans ((y1ur _).trans (by kernel_rfl))
def q7_1 (h : Heap) : OX :=
(y8 h (AV.bool true))
def yhy (s : St) : OX := q7_1 s.h
theorem y284 : T0 y21i [.t 4] yhy := fun _ => by kernel_rfl
def y1fp (v1 v17 v18 v19 : AV) (h : Heap) : OX :=
  W E 0 yv4 ⟨[(1, v1), (17, v17), (18, v18), (19, v19)], h⟩ yhy (y1 0 yhy xN) (finP [.t 4])
def yh2 (s : St) : OX := y1fp (s 1) (s 17) (s 18) (s 19) s.h
theorem y14r : T1 yv4 yhy (y1 0 yhy xN) [.t 4] yh2 := fun s => yd.trans (by kernel_rfl)
def q7_3 (v1 v17 v18 v19 : AV) (h : Heap) : OX :=
ob (y3 .add v19 (AV.int .i64 1)) fun v71 =>
(y1fp v1 v17 v18 v71 h)
def y2ny (s : St) : OX := q7_3 (s 1) (s 17) (s 18) (s 19) s.h
theorem y29f : T1 y21y yh2 (y1 0 yhy xN) [.t 4] y2ny := fun _ => by kernel_rfl
def q7_4 (v1 v17 v18 v19 : AV) (h : Heap) : OX :=
ob (yg 1 v17 v19) fun v21 =>
ob (evLd false 1 v21 h) fun v22 =>
ob (y3 .geq v22 (AV.int .u8 97)) fun v24 =>
gb v24 true (some v22) fun v26 =>
gb v24 true (y3 .leq v26 (AV.int .u8 122)) fun v27 =>
ob (y7 v24 v27 (AV.bool false)) fun v28 =>
gb v28 false (some v22) fun v30 =>
gb v28 false (y3 .geq v30 (AV.int .u8 65)) fun v31 =>
gb v28 false (some v31) fun v32 =>
gb v32 true (some v22) fun v33 =>
gb v32 true (y3 .leq v33 (AV.int .u8 90)) fun v34 =>
gb v28 false (y7 v32 v34 (AV.bool false)) fun v35 =>
ob (y7 v28 (AV.bool true) v35) fun v36 =>
gb v36 false (some v22) fun v38 =>
gb v36 false (y3 .geq v38 (AV.int .u8 48)) fun v39 =>
gb v36 false (some v39) fun v40 =>
gb v40 true (some v22) fun v41 =>
gb v40 true (y3 .leq v41 (AV.int .u8 57)) fun v42 =>
gb v36 false (y7 v40 v42 (AV.bool false)) fun v43 =>
ob (y7 v36 (AV.bool true) v43) fun v44 =>
gb v44 false (some v22) fun v46 =>
gb v44 false (y3 .eql v46 (AV.int .u8 95)) fun v47 =>
ob (y7 v44 (AV.bool true) v47) fun v48 =>
gb v48 false (some v22) fun v50 =>
gb v48 false (y3 .eql v50 (AV.int .u8 36)) fun v51 =>
ob (y7 v48 (AV.bool true) v51) fun v52 =>
gb v52 false (some v22) fun v54 =>
gb v52 false (y3 .eql v54 (AV.int .u8 47)) fun v55 =>
ob (y7 v52 (AV.bool true) v55) fun v56 =>
ob (evUn .not v56) fun v58 =>
gb v58 true (some v1) fun v60 =>
gb v58 true (some v60) fun v61 =>
gb v61 true (some v22) fun v62 =>
gb v61 true (y3 .eql v62 (AV.int .u8 60)) fun v63 =>
gb v61 true (some v63) fun v64 =>
gb v64 false (some v22) fun v65 =>
gb v64 false (y3 .eql v65 (AV.int .u8 62)) fun v66 =>
gb v61 true (y7 v64 (AV.bool true) v66) fun v67 =>
gb v58 true (y7 v61 v67 (AV.bool false)) fun v68 =>
gb v58 true (evUn .not v68) fun v69 =>
ob (y7 v58 v69 (AV.bool false)) fun v70 =>
cnd v70
 ((y8 h (AV.bool false)))
 ((q7_3 v1 v17 v18 v19 h))
def y2o5 (s : St) : OX := q7_4 (s 1) (s 17) (s 18) (s 19) s.h
theorem y28a : T1 y221 yh2 (y1 0 yhy xN) [.t 4] y2o5 := sq y29f fun _ => by kernel_rfl
def q7_5 (v1 v17 v18 v19 v20 : AV) (h : Heap) : OX :=
cnd v20
 ((q7_4 v1 v17 v18 v19 h))
 ((q7_1 h))
def y2o1 (s : St) : OX := q7_5 (s 1) (s 17) (s 18) (s 19) (s 20) s.h
theorem y2bf : T1 y228 yh2 (y1 0 yhy xN) [.t 4] y2o1 := sq y28a fun _ => by kernel_rfl
def q7_6 (v1 v17 v18 v19 : AV) (h : Heap) : OX :=
ob (y3 .lss v19 v18) fun v20 =>
(q7_5 v1 v17 v18 v19 v20 h)
def y2ku (s : St) : OX := q7_6 (s 1) (s 17) (s 18) (s 19) s.h
theorem y277 : T1 y22l yh2 (y1 0 yhy xN) [.t 4] y2ku := sq y2bf fun _ => by kernel_rfl
theorem y12x (v1 v17 v18 v19 : AV) (h : Heap) : y1fp v1 v17 v18 v19 h = (q7_6 v1 v17 v18 v19 h) :=
  y1t.trans ((y12 _ _ _ (n' := yh2) (fun s => y14r s)).trans ((y277 _).trans (by kernel_rfl)))
theorem y249 : T1 y21l yhy xN [.t 4] yh2 := fun s => yq.trans (y14r s)
def q7_8 (v0 v1 : AV) (h : Heap) : OX :=
oh (s2bC 0 (some 0) v0 h) fun v17 h1 =>
ob (yt 1 v17 h1) fun v18 =>
(y1fp v1 v17 v18 (AV.int .i64 0) h1)
def y2ip (s : St) : OX := q7_8 (s 0) (s 1) s.h
theorem y2bn : T1 y22q yhy xN [.t 4] y2ip := sq y249 fun _ => by kernel_rfl
theorem y25j : T0 y20u [.t 4] y2ip := sq y284 y2bn
def y1i2 (v0 v1 : AV) (h : Heap) : OX :=
ob (yt 0 v0 h) fun v9 =>
ob (y3 .lss v9 (AV.int .i64 1)) fun v10 =>
gb v10 false (some v0) fun v12 =>
gb v10 false (yt 0 v12 h) fun v13 =>
gb v10 false (y3 .gtr v13 (AV.int .i64 60)) fun v14 =>
ob (y7 v10 (AV.bool true) v14) fun v15 =>
cnd v15
 ((y8 h (AV.bool false)))
 ((q7_8 v0 v1 h))
def y2f1 (s : St) : OX := y1i2 (s 0) (s 1) s.h
theorem y1yy : T0 y1n5 [.t 4] y2f1 := sq y25j fun _ => by kernel_rfl
def y1av (v0 v1 : AV) (h : Heap) : OX :=
(y1i2 v0 v1 h)
def y2gq (s : St) : OX := y1av (s 0) (s 1) s.h
theorem y1xh : T0 y1n9 [.t 4] y2gq := sq y1yy fun _ => by kernel_rfl
@[simp] theorem y2n3 : E.pure 60 = true := rfl
theorem x_q7 (v0 v1 : AV) : (y5 E).p 60 [v0, v1] = y1av v0 v1 [⟨0, .dead⟩] :=
  (yu (cf := c_q7) (by kernel_rfl) rfl).trans ((y1xh _).trans (by kernel_rfl))
end
end Go.Vm
