/- Moves that are put in order: a circle keeps what holds; there is an answer, and it is not long. Code words: the unit is handed out. Code words: the end of the function, and its first loops, on the machine. Code words: the parameters' moves on the machine. Code words: what emit.Func answers. Functions whose lists are not too long. Code words: the unit that emit.Func answers. Code words: how they are read. Code words: what emit.At answers. Code words: what emit.At answers, whole. Chapter 20's anchor. Code words: a word's bytes. -/
import Derived.KernelRfl
import Derived.Test.YtjlbafgbohekfaaNTe
set_option linter.unusedSimpArgs false
set_option linter.unusedVariables false
set_option linter.unusedSectionVars false
namespace Go.Vm
end Go.Vm
namespace Go.Vm
open Cel
theorem y83 {α : Type} [Cel α] {H : Heap} {id g : Nat} {L : List α} (h : L ≠ [] → H[id]? = some ⟨g, .arr false false (es α) (L.map enc)⟩) (os : List OC) (k : Nat) :
  ∃ b, expo H (k + 1) (ownV id g (nz L)) os = some ⟨exV os.length (nz L), os ++ exOs (nz L), b, ownI id (nz L), []⟩ := by
 cases L with
 | nil => exact ⟨true, by simp [nz, ownV, expo, pure1, exV, exOs, ownI, y1u]⟩
 | cons a l => exact ⟨_, y0k (o := some (a :: l)) (d := D0) (h (by simp)) os⟩
theorem yza : ∀ {xs fs : List Nat}, xs.Nodup → (∀ x ∈ xs, x ∉ fs) → y3l xs fs = true
 | [], _, _, _ => rfl
 | x :: xs, fs, h, hf => by
  rw [z21] at h
  have h1 := hf x z1h
  simp only [y3l, z31, h.1, h1, decide_false, z28, z23]
  exact yza h.2 fun y hy => hf y (z18 _ hy)
theorem y20 {α : Type} [Cel α] {x i : Nat} {L : List α} (h : i ∈ ownI x (nz L)) : i = x ∧ L ≠ [] := by
 cases L with
 | nil => cases h
 | cons a l => exact ⟨zn.1 h, by simp⟩
theorem yy8 {α : Type} [Cel α] {x : Nat} {L : List α} {l : List Nat} (h : L ≠ [] → x ∉ l) (hl : l.Nodup) : (ownI x (nz L) ++ l).Nodup := by
 cases L with
 | nil => exact hl
 | cons a r => exact z21.2 ⟨h (by simp), hl⟩
theorem yqe (h : Heap) (k : Nat) (cs : List AV) (os : List OC) : expo h (k + 1) (.agg cs) os = match y30 (expo h k) cs os with
  | some r => some ⟨.agg r.v, r.objs, r.fresh, r.xs, r.fs⟩
  | none => none := rfl
theorem y22 {f : AV → List OC → Option (Ex AV)} {x : AV} {xs : List AV} {os : List OC} {a : Ex AV} {b : Ex (List AV)} (h1 : f x os = some a) (h2 : y30 f xs a.objs = some b) : y30 f (x :: xs) os = some ⟨a.v :: b.v, b.objs, a.fresh && b.fresh, a.xs ++ b.xs, a.fs ++ b.fs⟩ := by
 simp only [y30, h1, h2]
theorem yif {α : Type} [Cel α] (h1 : es α = 1) (id g : Nat) (L : List α) : y2p id g (L.map enc) = ownV id g (nz L) := by
 cases L with
 | nil => rfl
 | cons a l => simp [y2p, ownV, nz, h1]
theorem ymo {H : Heap} {id g es n : Nat} {row cells : List AV} (h : H[id]? = some ⟨g, .arr true false es [row]⟩) (hl : row.length = n) (hc : cells.length = n) (hf : cells.all y19 = true) : evSt n (.lp id g 0 0) (.agg cells) H = some (.tup [], H.set id ⟨g, .arr true false es [cells]⟩) := by
 have hr : yr H id g = some (false, es, [row]) := by simp [yr, y23, h]
 have e : y1f 0 cells row = cells := yl0 (by omega)
 have hc' : (cellsOf (.agg cells)).length = n ∧ 0 + n ≤ row.length ∧ (cellsOf (.agg cells)).all y19 = true := ⟨hc, by omega, hf⟩
 rw [yor, hr]
 simp only [List.getElem?_cons_zero]
 rw [if_pos hc', y2j, h]
 show some (AV.tup [], H.set id ⟨g, .arr true false es ([row].set 0 (y1f 0 cells row))⟩) = _
 rw [e]
 rfl
theorem y16e {H : Heap} {W : List Wd} {R : List Row} {M : List MapP} {N : List Int} {T : List Tx} {pW gW gR gN gT : Nat} {vM : AV} {K : List (Nat × AO)} {x12 : AO} {c : BC} {s : BS} (B : Bd H K c s) (rg ar rt : Int)
  (oW : W ≠ [] → H[pW]? = some ⟨gW, .arr false false 1 (W.map enc)⟩) (oR : R ≠ [] → H[15]? = some ⟨gR, .arr false false 4 (R.map enc)⟩) (MR : ydo K vM x12 M) (o12 : H[12]? = some x12) {pN pT : Nat}
  (oN : N ≠ [] → H[pN]? = some ⟨gN, .arr false false 1 (N.map enc)⟩) (oT : T ≠ [] → H[pT]? = some ⟨gT, .arr false false 1 (T.map enc)⟩)
  (d1 : W ≠ [] → pW ≠ 15 ∧ pW ≠ 12 ∧ (N ≠ [] → pW ≠ pN) ∧ (T ≠ [] → pW ≠ pT)) (d2 : N ≠ [] → pN ≠ 15 ∧ pN ≠ 12 ∧ (T ≠ [] → pN ≠ pT)) (d3 : T ≠ [] → pT ≠ 15 ∧ pT ≠ 12)
  (k0 : ∀ i, (∃ o, (i, o) ∈ K ∧ ∃ g L, o = AI g L) → i ≠ 15 ∧ i ≠ 12 ∧ (W ≠ [] → i ≠ pW) ∧ (N ≠ [] → i ≠ pN) ∧ (T ≠ [] → i ≠ pT)) (e : Int) :
  ∃ r, yo H (.tup [.agg [ownV pW gW (nz W), ownV 15 gR (nz R), vM, ownV pN gN (nz N), ownV pT gT (nz T), .int .i64 rg, .int .i64 ar, .int .i64 rt], .int .i64 e]) = some r ∧ y72 r (.tup [.agg (enc (⟨nz W, nz R, nz M, nz N, nz T, rg, ar, rt⟩ : Un)), .int .i64 e]) := by
 obtain ⟨b1, e1⟩ := y83 (α := Wd) oW [] 9
 obtain ⟨b2, e2⟩ := y83 (α := Row) oR ([] ++ exOs (nz W)) 9
 obtain ⟨b3, fs, e3, hfs⟩ := y1fr B MR o12 ([] ++ exOs (nz W) ++ exOs (nz R)) 9
 obtain ⟨b4, e4⟩ := y83 (α := Int) oN ([] ++ exOs (nz W) ++ exOs (nz R) ++ exOs (nz M)) 9
 obtain ⟨b5, e5⟩ := y83 (α := Tx) oT ([] ++ exOs (nz W) ++ exOs (nz R) ++ exOs (nz M) ++ exOs (nz N)) 9
 have ei : ∀ (n : Int) (os : List OC) (k : Nat), expo H (k + 1) (.int .i64 n) os = some ⟨.int .i64 n, os, true, [], []⟩ := fun n os k => rfl
 have l0 : y30 (expo H 10) [] ([] ++ exOs (nz W) ++ exOs (nz R) ++ exOs (nz M) ++ exOs (nz N) ++ exOs (nz T)) = some ⟨[], [] ++ exOs (nz W) ++ exOs (nz R) ++ exOs (nz M) ++ exOs (nz N) ++ exOs (nz T), true, [], []⟩ := rfl
 have l8 := y22 e1 (y22 e2 (y22 e3 (y22 e4 (y22 e5 (y22 (ei rg _ 9) (y22 (ei ar _ 9) (y22 (ei rt _ 9) l0)))))))
 have ea := yqe H 10 [ownV pW gW (nz W), ownV 15 gR (nz R), vM, ownV pN gN (nz N), ownV pT gT (nz T), .int .i64 rg, .int .i64 ar, .int .i64 rt] []
 rw [l8] at ea
 have l9 : ∀ os, y30 (expo H 11) [] os = some ⟨[], os, true, [], []⟩ := fun _ => rfl
 have l2 := y22 ea (y22 (ei e _ 10) (l9 _))
 rw [ycr, l2]
 simp only
 rw [if_pos]
 ·refine ⟨_, rfl, ?_⟩
  have h1 := yd8 (nz W) [] (exOs (nz R) ++ exOs (nz M) ++ exOs (nz N) ++ exOs (nz T)) 8
  have h2 := yd8 (nz R) (exOs (nz W)) (exOs (nz M) ++ exOs (nz N) ++ exOs (nz T)) 8
  have h3 := yd8 (nz M) (exOs (nz W) ++ exOs (nz R)) (exOs (nz N) ++ exOs (nz T)) 8
  have h4 := yd8 (nz N) (exOs (nz W) ++ exOs (nz R) ++ exOs (nz M)) (exOs (nz T)) 8
  have h5 := yd8 (nz T) (exOs (nz W) ++ exOs (nz R) ++ exOs (nz M) ++ exOs (nz N)) [] 8
  simp only [List.nil_append, List.append_nil, z1m, List.length_nil, zg] at h1 h2 h3 h4 h5
  have hi : ∀ (Hh : Heap) (n : Int) (k : Nat), fz Hh (k + 1) (.int .i64 n) = some ⟨.int .i64 n, true, []⟩ := fun _ _ _ => rfl
  refine ⟨_, (yoe _ 11 _).trans (by
   rw [ym, ycy _ 10]
   simp only [ym, List.nil_append, z1m, zg, List.length_nil, h1, h2, h3, h4, h5, hi _ _ 10, hi _ _ 9, y1k]
   rfl), rfl⟩
 ·simp only [List.append_nil, List.nil_append]
  refine yza ?_ fun x hx => ?_
  ·refine yy8 (fun h => ?_) (yy8 (fun h => ?_) (yy8 (fun h => ?_) (yy8 (fun h => ?_) ?_)))
   ·obtain ⟨q1, q2, q3, q4⟩ := d1 h
    intro hm
    simp only [zt] at hm
    rcases hm with hm | hm | hm | hm
    ·exact q1 (y20 hm).1
    ·exact q2 (y20 hm).1
    ·exact q3 (y20 hm).2 (y20 hm).1
    ·exact q4 (y20 hm).2 (y20 hm).1
   ·intro hm
    simp only [zt] at hm
    rcases hm with hm | hm | hm
    ·have := (y20 hm).1
     omega
    ·exact (d2 (y20 hm).2).1 (y20 hm).1.symm
    ·exact (d3 (y20 hm).2).1 (y20 hm).1.symm
   ·intro hm
    simp only [zt] at hm
    rcases hm with hm | hm
    ·exact (d2 (y20 hm).2).2.1 (y20 hm).1.symm
    ·exact (d3 (y20 hm).2).2 (y20 hm).1.symm
   ·intro hm
    exact (d2 h).2.2 (y20 hm).2 (y20 hm).1
   ·cases T with
    | nil => exact List.nodup_nil
    | cons a l => exact z21.2 ⟨by simp, List.nodup_nil⟩
  ·intro hf
   obtain ⟨z1, z2, z3, z4, z5⟩ := k0 x (hfs x hf)
   simp only [zt] at hx
   rcases hx with hm | hm | hm | hm | hm
   ·exact z3 (y20 hm).2 (y20 hm).1
   ·exact z1 (y20 hm).1
   ·exact z2 (y20 hm).1
   ·exact z4 (y20 hm).2 (y20 hm).1
   ·exact z5 (y20 hm).2 (y20 hm).1
end Go.Vm
namespace Go.Vm
open Cel
theorem ydo.leaf {KR : List (Nat × AO)} {vM : AV} {x12 : AO} {M : List MapP} (h : ydo KR vM x12 M) : y19 vM = true ∧ cellsOf vM = [vM] := by
 rcases h with ⟨_, rfl⟩ | ⟨g, rows, _, rfl, _⟩ <;> exact ⟨rfl, rfl⟩
theorem y1qd {α : Type} [Cel α] {L : List α} (h : L ≠ []) : L.map (enc (α := α)) ≠ [] := fun e => h (z3j.1 e)
theorem y2m6 {f : Fn} {H : Heap} {A : List Int} {x10 x9 x11 x12 x13 x14 x15 : AO} {KR : List (Nat × AO)} {c : BC} {s : BS} {L : List Row} {M : List MapP} (B : Bd H (KE f A x10 x9 x11 x12 x13 x14 x15 KR) c s) (RR : y1q8 c.vR x15 L) (MR : ydo KR c.vM x12 M) :
  ∃ r, q5_1 (.lp 1 1 0 0) P4 H = some r ∧ y72 r (.tup [.agg (enc (⟨nz s.W, nz L, nz M, nz s.N, nz s.T, c.regs, c.args, c.ret⟩ : Un)), .int .i64 0]) := by
 obtain ⟨gR, o, hvR, h15⟩ := RR
 obtain ⟨P, G, R⟩ := B
 obtain ⟨lM, cM⟩ := MR.leaf
 have lR : y19 c.vR = true := by rw [hvR]; exact y7d ..
 have R2 := WRep.put (A := [_, _, _, _]) R ⟨1, .arr true false 8 [[y2p (P 0) (G 0) (xs s 0), c.vR, c.vM, y2p (P 1) (G 1) (xs s 1), y2p (P 2) (G 2) (xs s 2), .int .i64 c.regs, .int .i64 c.args, .int .i64 c.ret]]⟩
 have B2 : Bd _ KR c s := Bd.drop (Bd.drop (Bd.drop (Bd.drop (Bd.drop (Bd.drop (Bd.drop (Bd.drop (Bd.drop (Bd.drop (c := c) (s := s) ⟨P, G, R2⟩)))))))))
 have h1 := WRep.at (A := [_, _, _, _]) R
 have h1' := WRep.at (A := [_, _, _, _]) R2
 have l4 : evLd true 8 (.lp 4 1 0 0) H = some (.agg [y2p (P 0) (G 0) (xs s 0), c.vR, c.vM, y2p (P 1) (G 1) (xs s 1), y2p (P 2) (G 2) (xs s 2), .int .i64 c.regs, .int .i64 c.args, .int .i64 c.ret]) := by
  have hr : yr H 4 1 = some (false, 11, [y45 c P G (xs s)]) := by simp [yr, y23, R.box]
  rw [y3z, hr]
  rfl
 have s1 : evSt 8 (.lp 1 1 0 0) (.agg [y2p (P 0) (G 0) (xs s 0), c.vR, c.vM, y2p (P 1) (G 1) (xs s 1), y2p (P 2) (G 2) (xs s 2), .int .i64 c.regs, .int .i64 c.args, .int .i64 c.ret]) H = some (.tup [], H.set 1 ⟨1, .arr true false 8 [[y2p (P 0) (G 0) (xs s 0), c.vR, c.vM, y2p (P 1) (G 1) (xs s 1), y2p (P 2) (G 2) (xs s 2), .int .i64 c.regs, .int .i64 c.args, .int .i64 c.ret]]⟩) := by
  exact ymo h1 rfl rfl (by simp [lR, lM])
 have l1 : evLd true 8 (.lp 1 1 0 0) (H.set 1 ⟨1, .arr true false 8 [[y2p (P 0) (G 0) (xs s 0), c.vR, c.vM, y2p (P 1) (G 1) (xs s 1), y2p (P 2) (G 2) (xs s 2), .int .i64 c.regs, .int .i64 c.args, .int .i64 c.ret]]⟩) = some (.agg [y2p (P 0) (G 0) (xs s 0), c.vR, c.vM, y2p (P 1) (G 1) (xs s 1), y2p (P 2) (G 2) (xs s 2), .int .i64 c.regs, .int .i64 c.args, .int .i64 c.ret]) := by
  generalize H.set 1 _ = H2 at h1' ⊢
  have hr := h1'
  rw [y3z]
  simp [yr, y23, hr, y4w]
 have o15 := WRep.at (A := [_, _, _, _, _, _, _, _, _, _, _]) R2
 have o12 := WRep.at (A := [_, _, _, _, _, _, _, _]) R2
 have kk := fun {i : Nat} {o : AO} (h : (i, o) ∈ KR) => (R2.keep (i, o) (by simp [h])).2
 have nd := R2.nd
 simp only [z2m, List.map_cons, List.map_nil, List.cons_append, List.nil_append, List.nodup_cons, List.mem_cons, not_or] at nd
 have ne15 : ∀ {i : Nat} {o : AO}, (i, o) ∈ KR → i ≠ 15 ∧ i ≠ 12 := by
  intro i o h
  have hm : i ∈ KR.map (·.1) := z1y.2 ⟨(i, o), h, rfl⟩
  refine ⟨fun e => ?_, fun e => ?_⟩
  ·subst e
   simp only [hm, not_true_eq_false, and_false, false_and] at nd
  ·subst e
   simp only [hm, not_true_eq_false, and_false, false_and] at nd
 have p15 : ∀ k, k < 4 → xs s k ≠ [] → P k ≠ 15 ∧ P k ≠ 12 := fun k hk hX => ⟨(R2.keep (15, _) (by simp; exact .inl rfl)).2.2 k hk hX, (R2.keep (12, _) (by simp; exact .inl rfl)).2.2 k hk hX⟩
 have xW : s.W ≠ [] → xs s 0 ≠ [] := fun h => y1qd h
 have xN : s.N ≠ [] → xs s 1 ≠ [] := fun h => y1qd h
 have xT : s.T ≠ [] → xs s 2 ≠ [] := fun h => y1qd h
 obtain ⟨r, e1, e2⟩ := y16e (W := s.W) (R := L) (M := M) (N := s.N) (T := s.T) (pW := P 0) (gW := G 0) (gR := gR) (pN := P 1) (gN := G 1) (pT := P 2) (gT := G 2) B2 c.regs c.args c.ret (fun h => R2.obj 0 (by omega) (xW h))
  (fun h => by rw [o15, h15, ygh h]; rfl) MR o12 (fun h => R2.obj 1 (by omega) (xN h)) (fun h => R2.obj 2 (by omega) (xT h))
  (fun h => ⟨(p15 0 (by omega) (xW h)).1, (p15 0 (by omega) (xW h)).2, fun h' e => by have := R2.inj 0 (by omega) (xW h) 1 (by omega) (xN h') e; omega, fun h' e => by have := R2.inj 0 (by omega) (xW h) 2 (by omega) (xT h') e; omega⟩)
  (fun h => ⟨(p15 1 (by omega) (xN h)).1, (p15 1 (by omega) (xN h)).2, fun h' e => by have := R2.inj 1 (by omega) (xN h) 2 (by omega) (xT h') e; omega⟩) (fun h => p15 2 (by omega) (xT h))
  (fun i ⟨o, h, _⟩ => ⟨(ne15 h).1, (ne15 h).2, fun h' e => (kk h).2 0 (by omega) (xW h') e.symm, fun h' e => (kk h).2 1 (by omega) (xN h') e.symm, fun h' e => (kk h).2 2 (by omega) (xT h') e.symm⟩) 0
 refine ⟨r, ?_, e2⟩
 rw [q5_1]
 simp only [y1l, y9, yk, zd, l4, s1, ye, l1]
 rw [← e1, ← yif (α := Wd) rfl, ← yif (α := Int) rfl, ← yif (α := Tx) rfl, hvR]
 have e15 : y1c Row 15 gR L = ownV 15 gR (nz L) := by cases L <;> rfl
 rw [e15]
 rfl
end Go.Vm
namespace Go.Vm
open Cel
def mvsL : Nat → List Int → List Mv
 | _, [] => []
 | i, p :: r => ⟨p, i⟩ :: mvsL (i + 1) r
theorem y13r : ∀ (l : List Int) (i : Nat), (mvsL i l).length = l.length
 | [], _ => rfl
 | p :: r, i => by rw [mvsL, zl, zl, y13r r]
abbrev K1 (f : Fn) (x8 x5 x6 x7 : AO) : List (Nat × AO) := (10, D0) :: (0, AB f) :: (1, UB) :: (8, x8) :: (9, D0) :: (11, D0) :: (12, D0) :: (13, D0) :: (14, D0) :: (15, D0) :: (5, x5) :: (6, x6) :: (7, x7) :: []
section
variable {f : Fn} {c : BC}
theorem yvl (hl : (lst f.params).length ≤ 100000) (v2 v5 : AV) {s : BS} : ∀ (d i : Nat) (Ls : List Mv) (g : Nat) (x5 : AO) (H : Heap), i + d = (lst f.params).length → Ls.length = i → Bd H (K1 f D0 x5 (y2l g D0 Ls) D0) c s →
  ∃ H' g' x5', yrw (.lp 0 1 0 0) v2 v5 P4 (y1c Mv 6 g Ls) (slA f.params) (.int .i64 (lst f.params).length) (.int .i64 i) H = y202 (.lp 0 1 0 0) v2 v5 P4 (y1c Mv 6 g' (Ls ++ mvsL i ((lst f.params).drop i))) H' ∧ Bd H' (K1 f D0 x5' (y2l g' D0 (Ls ++ mvsL i ((lst f.params).drop i))) D0) c s
 | 0, i, Ls, g, x5, H, hd, hL, B => by
  have h : ¬ (i : Int) < ((lst f.params).length : Int) := by omega
  refine ⟨H, g, x5, ?_, by rw [z14 (by omega), mvsL, z15]; exact B⟩
  rw [z14 (by omega), mvsL, z15, yr6]
  simp only [y232, yg, y9, h, decide_false, y1wg, y1h]
 | d + 1, i, Ls, g, x5, H, hd, hL, B => by
  have h : (i : Int) < ((lst f.params).length : Int) := by omega
  have hi : i < (lst f.params).length := by omega
  have gp := z9 hi
  have ed : (lst f.params).drop i = (lst f.params)[i] :: (lst f.params).drop (i + 1) := zk hi
  generalize (lst f.params)[i] = p at gp ed
  have e48 : (2:Nat) ^ 48 = 281474976710656 := by decide
  have B1 := Bd.put (A := [_, _, _, _, _, _, _, _, _, _]) B ⟨x5.gen + 1, .arr false false 2 [enc (⟨p, i⟩ : Mv)]⟩
  obtain ⟨g', e6⟩ := ygt (α := Mv) (fb := 0) (j := 6) (b := 16) (L := Ls) (M := [⟨p, i⟩]) (y54 (Bd.at (A := [_, _, _, _, _, _, _, _, _, _]) B1)) (Bd.at (A := [_, _, _, _, _, _, _, _, _, _, _]) B1) (by rw [e48]; simp only [List.length_singleton]; omega)
  have B2 := Bd.put (A := [_, _, _, _, _, _, _, _, _, _, _]) B1 (y2l g' D0 (Ls ++ [⟨p, i⟩]))
  obtain ⟨H3, g3, y5, e3, B3⟩ := yvl hl v2 v5 d (i + 1) (Ls ++ [⟨p, i⟩]) g' _ _ (by omega) (by simp [hL]) B2
  refine ⟨H3, g3, y5, ?_, by rw [ed, mvsL]; simpa using B3⟩
  have hw : IntKind.wrap .i64 ((i : Int) + 1) = ((i + 1 : Nat) : Int) := by rw [y1a] <;> omega
  have b5 := y2fg (fb := 0) (j := 5) (⟨p, i⟩ : Mv) (Bd.at (A := [_, _, _, _, _, _, _, _, _, _]) B)
  have bd : yq [.int .i64 0, .int .i64 0] [(0, 1, .int .i64 p), (1, 1, .int .i64 (i : Int))] = some (.agg (enc (⟨p, i⟩ : Mv))) := rfl
  rw [ed, mvsL, show Ls ++ (⟨p, i⟩ : Mv) :: mvsL (i + 1) ((lst f.params).drop (i + 1)) = (Ls ++ [⟨p, i⟩]) ++ mvsL (i + 1) ((lst f.params).drop (i + 1)) by simp, ← e3, yr6]
  simp only [zd, y2ss] at e6 b5
  simp only [y232, yg, y9, h, decide_true, y1wg, y1b, y2da, y3j gp, y2q, y2s, List.head?_cons, bd, b5, ye, e6, y2bo, yz, hw]
theorem yxl {o : Option (List Mv)} (hl : (lst o).length ≤ 100000) {x5 x6 : AO} (v2 : AV) : ∀ (d i : Nat) (s : BS) (x7 : AO) (H : Heap), i + d = (lst o).length → s.size + 25 * d + 30 ≤ 1000000 → Bd H (K1 f D0 x5 x6 x7) c s →
  ∃ H' x7', ypm (.lp 0 1 0 0) v2 P4 (slA o) (.int .i64 (lst o).length) (.int .i64 i) H = y1x1 (.lp 0 1 0 0) v2 P4 H' ∧ Bd H' (K1 f D0 x5 x6 x7') c ((((lst o).drop i).map movI).foldl putM s)
 | 0, i, s, x7, H, hd, _, B => by
  have h : ¬ (i : Int) < ((lst o).length : Int) := by omega
  refine ⟨H, x7, ?_, by rw [z14 (by omega)]; exact B⟩
  rw [yru]
  simp only [y212, yg, y9, h, decide_false, y207, y1h]
 | d + 1, i, s, x7, H, hd, hs, B => by
  have h : (i : Int) < ((lst o).length : Int) := by omega
  have hi : i < (lst o).length := by omega
  have gp := z9 hi
  have ed : (lst o).drop i = (lst o)[i] :: (lst o).drop (i + 1) := zk hi
  generalize (lst o)[i] = m at gp ed
  have B1 := Bd.put (A := [_, _, _, _, _, _, _, _, _, _, _, _]) B (AG (x7.gen + 1) zMv)
  have B2 := Bd.put (A := [_, _, _, _, _, _, _, _, _, _, _, _]) B1 (AG (x7.gen + 1) m)
  obtain ⟨H3, e3, B3⟩ := y2jj B2 (movI m) (by omega) (z2s _) (fun _ => z2s _) 0
  have hsz := ycp s (movI m) (fun _ => z2s _)
  obtain ⟨H4, y7, e4, B4⟩ := yxl hl v2 d (i + 1) _ _ H3 (by omega) (by omega) B3
  refine ⟨H4, y7, ?_, by rw [ed]; exact B4⟩
  have hw : IntKind.wrap .i64 ((i : Int) + 1) = ((i + 1 : Nat) : Int) := by rw [y1a] <;> omega
  have n7 : newC 0 (some 7) [.int .i64 0, .int .i64 0] H = some (.lp 7 (x7.gen + 1) 0 0, H.set 7 (AG (x7.gen + 1) zMv)) := yql (α := Mv) (fb := 0) (j := 7) zMv (Bd.at (A := [_, _, _, _, _, _, _, _, _, _, _, _]) B)
  have s7 : evSt 2 (.lp 7 (x7.gen + 1) 0 0) (.agg (enc m)) (H.set 7 (AG (x7.gen + 1) zMv)) = some (.tup [], (H.set 7 (AG (x7.gen + 1) zMv)).set 7 (AG (x7.gen + 1) m)) := st_g (α := Mv) (Bd.at (A := [_, _, _, _, _, _, _, _, _, _, _, _]) B1)
  have h7 := Bd.at (A := [_, _, _, _, _, _, _, _, _, _, _, _]) B2
  have a0 := ld_g (α := Mv) (k := 0) (v := .int .i64 m.to) h7 rfl
  have a1 := ld_g (α := Mv) (k := 1) (v := .int .i64 m.fr) h7 rfl
  have ar : ∀ H : Heap, evLd true 2 (.rp (enc m)) H = some (.agg (enc m)) := fun H => rfl
  have bd : yq [.int .i64 0, .int .i64 0, .int .i64 0, .int .i64 0, .int .i64 0, .int .i64 0, .int .i64 0, .str [], .nils] [(0, 1, .int .i64 4), (1, 1, .int .i64 m.to), (2, 1, .int .i64 m.fr)] = some (.agg (enc (movI m))) := rfl
  rw [yru, ← e4]
  simp only [y212, yg, y9, h, decide_true, y207, y1b, y2gq, y158 gp, ar, n7, ye, s7, yk, zd, a0, a1, bd, e3, y2eh, yz, hw]
end
end Go.Vm
namespace Go.Vm
open Cel
theorem y1zc {E : Env} {C : Calls2} {fb f : Nat} {args : List AV} {h : Heap} {fa : Fz (List AV)} {r : Ex AV} {v : AV} (hE : E.pure f = true) (ha : yv (fz h y1m) args = some fa) (hf : r.fresh = true)
  (hc : C.p f fa.v = some r) (hr : y72 r v) : yc E C fb none true f args h = some (v, h) := by
 obtain ⟨q, h1, h2⟩ := hr
 simp [yc, hE, y38, ha, hc, hf, h1, h2]
def bc0 (f : Fn) : BC := ⟨.nils, .nils, (nOfF f : Int) + 1, (lst f.params).length, f.ret⟩
abbrev HHe (f : Fn) : Heap := [AB f, UB, nmO [], tmO [], boxO (y45 (bc0 f) (fun _ => 0) (fun _ => 0) (xs s0)), D0, D0, D0, D0, D0, D0, D0, D0, D0, D0, D0]
theorem y21y (k : Nat) (hk : k < 4) : xs s0 k = [] := by
 rcases k with _ | _ | _ | _ | k
 ·rfl
 ·rfl
 ·rfl
 ·rfl
 ·omega
theorem y1w0 (f : Fn) : Bd (HHe f) (K1 f D0 D0 D0 D0) (bc0 f) s0 := by
 refine ⟨fun _ => 0, fun _ => 0, rfl, fun k hk h => (h (y21y k hk)).elim, fun k hk h => (h (y21y k hk)).elim, fun k hk h => (h (y21y k hk)).elim, fun p hp => ?_, ?_⟩
 ·simp only [List.mem_cons, List.not_mem_nil, or_false] at hp
  rcases hp with rfl | rfl | rfl | rfl | rfl | rfl | rfl | rfl | rfl | rfl | rfl | rfl | rfl | rfl | rfl <;> exact ⟨rfl, by simp, fun k hk h => (h (y21y k hk)).elim⟩
 ·show ([2, 3, 10, 0, 1, 8, 9, 11, 12, 13, 14, 15, 5, 6, 7] : List Nat).Nodup
  decide
theorem y2ff {f : Fn} (w : Wf f) {i : Nat} {x : Ins} (hx : (lst f.code)[i]? = some x) : calls x.op = true → (lst x.args).length ≤ 21 := by
 intro hc
 have hi := (zb.1 hx).1
 have h := w.ins i hi
 have e : y25 f i = x := by
  have := y5w hi
  rw [hx] at this
  injection this with this
  exact this.symm
 rw [e] at h
 simp only [y4l, zc] at h
 have h0 := h.1.1.1.1.1.1
 simp only [calls, zc, decide_eq_true_eq] at hc
 have : x.op = 23 ∨ x.op = 24 ∨ x.op = 25 ∨ x.op = 26 := by omega
 rcases this with o | o | o | o <;> simp [y16, o] at h0 <;> omega
def zU : Un := ⟨none, none, none, none, none, 0, 0, 0⟩
theorem y2d0 {f : Fn} (hf : FnFit f) (hw : wf f = false) : ∃ r, (yd E).p 231 [.agg (enc f)] = some r ∧ y72 r (.tup [.agg (enc zU), .int .i64 80]) := by
 rw [x_q5]
 have hck := yuc f hf
 rw [hw] at hck
 have ha : ∀ H : Heap, yv (fz H y1m) [.agg (enc f)] = some ⟨[.agg (enc f)], scal f && true, []⟩ := fun H => by
  rw [ym, y64, y1k]; rfl
 have c8 : ∀ H, yc E (yd E) 0 none true 8 [.agg (enc f)] H = some (.int .i64 80, H) := fun H => y18 rfl (ha H) rfl hck ⟨_, rfl, rfl⟩
 have n0 : newC 0 (some 0) (cellsOf (.agg (enc f))) [D0, D0, D0, D0, D0, D0, D0, D0, D0, D0, D0, D0, D0, D0, D0, D0] = some (.lp 0 1 0 0, [AB f, D0, D0, D0, D0, D0, D0, D0, D0, D0, D0, D0, D0, D0, D0, D0]) := by simp
 have n1 : newC 0 (some 1) yd7 [AB f, D0, D0, D0, D0, D0, D0, D0, D0, D0, D0, D0, D0, D0, D0, D0] = some (.lp 1 1 0 0, [AB f, UB, D0, D0, D0, D0, D0, D0, D0, D0, D0, D0, D0, D0, D0, D0]) := rfl
 have l5 : evLd true 5 (.lp 0 1 0 0) [AB f, UB, D0, D0, D0, D0, D0, D0, D0, D0, D0, D0, D0, D0, D0, D0] = some (.agg (enc f)) := by simp
 refine ⟨⟨.tup [.agg yd7, .int .i64 80], [], true, [], []⟩, ?_, _, rfl, rfl⟩
 rw [y211, n0, ye, n1, ye, y210, l5, y9, c8, ye, y6f, y9]
 rfl
end Go.Vm
namespace Go.Vm
structure FnSm (f : Fn) : Prop where
 regs : (lst f.regs).length ≤ 17592186043904
 params : (lst f.params).length ≤ 17592186043904
 code : (lst f.code).length ≤ 2 ^ 38
 rows : (lst f.rows).length ≤ 2 ^ 38
 args : ∀ x ∈ lst f.code, (lst x.args).length ≤ 17592186043904
abbrev y1db (f : Fn) : Prop := ∀ x ∈ lst f.code, (lst x.args).length ≤ 17592186043904
end Go.Vm
namespace Go.Vm
open Cel
abbrev hD (f : Fn) (a b c : AO) : Heap := [AB f, UB, a, b, c, D0, D0, D0, D0, D0, D0, D0, D0, D0, D0, D0]
theorem way0 (n : Int) : WayOk n s0 := ⟨List.nodup_nil, fun y h => by cases h⟩
theorem y29z {f : Fn} (w : Wf f) : ∀ r ∈ lst f.rows, RowFit f r := fun r hr => by
 have k := w.row hr
 have := k.f0; have := k.ft; have := k.tn; have := k.a0; have := k.an
 exact ⟨by omega, by omega, by omega, by omega, by omega, by omega⟩
theorem yl8 : ∀ (L : List Mv) (s : BS), ((L.map movI).foldl putM s).size ≤ s.size + 25 * L.length
 | [], s => by simp
 | m :: L, s => by
  have h1 := yl8 L (putM s (movI m))
  have h2 := ycp s (movI m) (fun _ => z2s _)
  simp only [List.map_cons, List.foldl_cons, List.length_cons]
  omega
theorem y1dw {f : Fn} {t : Tb} {L : List Mv} (w : Wf f) (hr : (lst f.rows).length ≤ 1000000) {c : BC} (hc : c.vR = .nils) {H : Heap} (S : CSt f c (lst f.code).length (endC f t L) H) (hsz : (endC f t L).s.size ≤ 1000000) (hway : WayOk (lst f.code).length (endC f t L).s) :
  ∃ r, y18l (.lp 0 1 0 0) (.lp 1 1 0 0) P4 (atV f) H = some r ∧ y72 r (.tup [.agg (enc (⟨nz (yic (endA (endC f t L)) (endC f t L).s.Y (endC f t L).s.W), nz ((lst f.rows).map (rwM (endA (endC f t L)))), nz (endC f t L).M, nz (endC f t L).s.N, nz (endC f t L).s.T, c.regs, c.args, c.ret⟩ : Un)), .int .i64 0]) := by
 obtain ⟨x9, x10, x11, x12, KR, vM, B, MR, hA⟩ := S
 generalize endC f t L = e at *
 have hn := w.n2
 rw [show (lst f.code).length + 1 - (lst f.code).length = 1 by omega] at B
 have h8 := Bd.at (A := [_, _, _]) B
 have B1 := Bd.put (A := [_, _, _]) B (AI 1 (endA e))
 have hAl : (endA e).length = (lst f.code).length + 1 := by simp [endA, hA]
 obtain ⟨w0, lw, ew⟩ := Bd.ldW B
 have ix : y10 1 (atV f) (.int .i64 ((lst f.code).length : Int)) = some (.lp 8 1 (lst f.code).length 0) := yga (by omega) (by omega) 8 1 .i64
 have s8 := yed (α := Int) (i := (lst f.code).length) (v := .int .i64 e.s.W.length) (y := (e.s.W.length : Int)) h8 (by simp only [zg, List.length_replicate]; omega) rfl
 have er := y1jp (A := e.A) (n := 1) (e.s.W.length : Int) (by omega)
 rw [hA] at er
 rw [er, Nat.sub_self, List.replicate_zero, z15] at s8
 have l3 : ∀ {H : Heap}, H[0]? = some (AB f) → evLd false 1 (.lp 0 1 0 3) H = some (slA f.code) := fun h => by simp [h, yr, y23]
 have l4 : ∀ {H : Heap}, H[0]? = some (AB f) → evLd false 1 (.lp 0 1 0 4) H = some (slA f.rows) := fun h => by simp [h, yr, y23]
 have l3' := l3 (Bd.at (A := [_]) B)
 obtain ⟨P, G, R⟩ := B1
 have l10 := R.ld 10 rfl
 obtain ⟨H2, e2, R2⟩ := yx2 (P := P) (G := G) (c := { c with vM := vM }) hn (A := endA e) (by simp) hAl e.s.Y (by unfold BS.size at hsz; omega) e.s.Y.length 0 e.s _ (by omega) rfl (by rw [zr]; exact hway.nd) (by rw [zr]; exact hway.ok) R
 rw [zr] at R2
 have B2 : Bd H2 (KE f (endA e) x10 x9 x11 x12 D0 D0 D0 KR) { c with vM := vM } { e.s with W := yic (endA e) e.s.Y e.s.W } := ⟨P, G, R2⟩
 obtain ⟨H3, y13, y14, y15, vR', e3, RR, B3⟩ := yr1 (c := { c with vM := vM }) hAl hr (y29z w) (lst f.rows).length 0 [] D0 D0 D0 .nils H2 (by omega) rfl ⟨0, D0, rfl, rfl⟩ (by
  have : ({ c with vM := vM, vR := .nils } : BC) = { c with vM := vM } := by rw [← hc]
  rw [this]; exact B2)
 rw [z16, zr] at RR
 obtain ⟨r, e4, rd⟩ := y2m6 B3 RR MR
 refine ⟨r, ?_, rd⟩
 have l4' := l4 (Bd.at (A := [_]) B2)
 rw [← e4, ← e3]
 simp only [ys7] at s8
 simp only [y18l, yk, zd, y9, l3', y12, y1l, lw, ew, ix]
 have e1 : endA e = e.A ++ [(e.s.W.length : Int)] := rfl
 rw [e1] at l10 e2 R B2
 rw [s8, ye, y2dd]
 simp only [yk, zd, y9, y1l, l10, y6d]
 have e5 : (((xs e.s 3).length : Nat) : Int) = e.s.Y.length := by simp [xs]
 rw [e5]
 have e6 : y2p (P 3) (G 3) (xs e.s 3) = y2p (P 3) (G 3) (e.s.Y.map enc) := rfl
 rw [e6, show AV.int .i64 0 = .int .i64 ((0 : Nat) : Int) from rfl, e2, q5_8]
 simp only [yk, zd, y9, l4', y12]
 rfl
theorem ymq {f : Fn} {t : Tb} : ∀ (l : List Ins) (i : Nat) (e : ES), (∀ x ∈ l, calls x.op = true → (lst x.args).length ≤ 21) → (yk0 f t i l e).s.size ≤ e.s.size + 25 * l.length
 | [], _, e, _ => by simp [yk0]
 | x :: l, i, e, h => by
  have h1 := ymq (f := f) (t := t) l (i + 1) (ye9 f t i x e) (fun y hy => h y (z18 _ hy))
  have h2 := ycp e.s x (h x z1h)
  rw [yk0, zl]
  simp only [ye9] at h1 ⊢
  omega
theorem yqh {f : Fn} (hf : FnFit f) (hs : y1db f) (hr : (lst f.rows).length ≤ 1000000) (hw : wf f = true) (hn : nOfF f < 250) {L : List Mv} (hpl : (lst f.params).length ≤ 21) (hL : yls (mvsL 0 (lst f.params)) (nOfF f) = some L) (hL2 : L.length ≤ 42) :
  ∃ t r, TbOk (lst f.code).length ((lst f.regs).length / 64 + 1) t ∧ LvSnd f t ∧ (∀ i, i < (lst f.code).length → Cl f t i) ∧ (yd E).p 231 [.agg (enc f)] = some r ∧ y72 r (.tup [.agg (enc (yh6 f t L)), .int .i64 0]) := by
 have w := y2lg hw
 obtain ⟨rO, t, hO, hRd, ok, S, C⟩ := s_Of f hf (by omega) hs hw
 have hck := yuc f hf
 rw [hw] at hck
 have ha : ∀ H : Heap, yv (fz H y1m) [.agg (enc f)] = some ⟨[.agg (enc f)], scal f && true, []⟩ := fun H => by
  rw [ym, y64, y1k]; rfl
 have c8 : ∀ H, yc E (yd E) 0 none true 8 [.agg (enc f)] H = some (.int .i64 0, H) := fun H => y18 rfl (ha H) rfl hck ⟨_, rfl, rfl⟩
 have cO : ∀ H, yc E (yd E) 0 none true 75 [.agg (enc f)] H = some (tv t (lst f.regs).length, H) := fun H => y18 rfl (ha H) rfl hO hRd
 have ax : ∀ x ∈ lst f.code, calls x.op = true → (lst x.args).length ≤ 21 := fun x hx => by
  obtain ⟨i, hi⟩ := zz hx
  exact y2ff w hi
 -- the parameters
 obtain ⟨H1, g1, x5, e1, B1⟩ := yvl (f := f) (c := bc0 f) (by omega) (.lp 1 1 0 0) (.int .i64 (nOfF f)) (lst f.params).length 0 [] 0 D0 (HHe f) (by omega) rfl (y1w0 f)
 rw [z16, zr] at e1 B1
 have hml : (mvsL 0 (lst f.params)).length = (lst f.params).length := y13r _ _
 obtain ⟨rM, hM, fM, dM⟩ := y2cn (o := nz (mvsL 0 (lst f.params))) (by rw [y4r]; omega) (nOfF f) (L := L) (by rw [y4r]; exact hL) (by omega)
 have h6 := Bd.at (A := [_, _, _, _, _, _, _, _, _, _, _]) B1
 have hz : yv (fz H1 y1m) [y1c Mv 6 g1 (mvsL 0 (lst f.params)), .int .i64 (nOfF f)] = some ⟨[slA (nz (mvsL 0 (lst f.params))), .int .i64 (nOfF f)], (mvsL 0 (lst f.params)).all scal && true, ids1 (y1c Mv 6 g1 (mvsL 0 (lst f.params))) ++ []⟩ := by
  rw [ym, y1cd h6, fz_i]
 have cM : yc E (yd E) 0 none true 237 [y1c Mv 6 g1 (mvsL 0 (lst f.params)), .int .i64 (nOfF f)] H1 = some (.tup [slA (nz L), .int .i64 0], H1) := y1zc rfl hz fM hM dM
 -- the moves
 obtain ⟨H2, x7, e2, B2⟩ := yxl (f := f) (c := bc0 f) (o := nz L) (by rw [y4r]; omega) (.lp 1 1 0 0) L.length 0 s0 D0 H1 (by rw [y4r]; omega) (by simp only [BS.size, s0, List.length_nil]; omega) B1
 rw [y4r, zr] at B2
 rw [y4r] at e2
 -- the instructions
 have hms : ((L.map movI).foldl putM s0).size ≤ 1050 := by
  have := yl8 L s0
  simp only [BS.size, s0, List.length_nil] at this ⊢
  omega
 have B3 := Bd.put (A := [_, _, _]) B2 (AI 1 (List.replicate ((lst f.code).length + 1) 0))
 have CS : CSt f (bc0 f) 0 (e0 L) (H2.set 8 (AI 1 (List.replicate ((lst f.code).length + 1) 0))) := ⟨_, _, _, _, _, .nils, B3, .inl ⟨rfl, rfl⟩, rfl⟩
 have n2 := w.n2
 obtain ⟨H3, e3, S3⟩ := yq8 w.regs ok n2 hs ax (lst f.code).length 0 (e0 L) _ (by omega) (by simp only [e0]; omega) (by simp only [e0, List.length_nil]; omega) CS
 rw [zr] at S3
 have hway : WayOk (lst f.code).length (endC f t L).s := yqy (by omega) _ _ _ (fun x hx hl => by
  obtain ⟨i, hi⟩ := zz hx
  have hlt := (zb.1 hi).1
  have e : y25 f i = x := by
   have := y5w hlt
   rw [hi] at this
   injection this with this
   exact this.symm
  have := w.leads hlt (by rw [e]; exact hl)
  rw [e] at this
  exact this) (yox (by omega) _ _ (way0 _))
 have hsz : (endC f t L).s.size ≤ 1000000 := by
  have := ymq (f := f) (t := t) (lst f.code) 0 (e0 L) ax
  simp only [e0] at this
  unfold endC
  simp only [e0]
  omega
 obtain ⟨r, e4, rd⟩ := y1dw w hr (c := bc0 f) rfl S3 hsz hway
 refine ⟨t, r, ok, S, C, ?_, rd⟩
 rw [← e4, ← e3]
 have n0 : newC 0 (some 0) (cellsOf (.agg (enc f))) [D0, D0, D0, D0, D0, D0, D0, D0, D0, D0, D0, D0, D0, D0, D0, D0] = some (.lp 0 1 0 0, [AB f, D0, D0, D0, D0, D0, D0, D0, D0, D0, D0, D0, D0, D0, D0, D0]) := by simp
 have n1 : newC 0 (some 1) yd7 [AB f, D0, D0, D0, D0, D0, D0, D0, D0, D0, D0, D0, D0, D0, D0, D0] = some (.lp 1 1 0 0, hD f D0 D0 D0) := rfl
 have l5 : evLd true 5 (.lp 0 1 0 0) (hD f D0 D0 D0) = some (.agg (enc f)) := by simp
 have lr : evLd false 1 (.lp 0 1 0 0) (hD f D0 D0 D0) = some (slA f.regs) := by simp
 have lp : evLd false 1 (.lp 0 1 0 1) (hD f D0 D0 D0) = some (slA f.params) := by simp
 have lp2 : evLd false 1 (.lp 0 1 0 1) (hD f (nmO []) (tmO []) D0) = some (slA f.params) := by simp
 have lq2 : evLd false 1 (.lp 0 1 0 2) (hD f (nmO []) (tmO []) D0) = some (.int .i64 f.ret) := by simp
 have lp3 : evLd false 1 (.lp 0 1 0 1) (HHe f) = some (slA f.params) := by simp
 have m2 : mkmC 0 (some 2) (hD f D0 D0 D0) = some (.lm 2 1, hD f (nmO []) D0 D0) := rfl
 have m3 : mkmC 0 (some 3) (hD f (nmO []) D0 D0) = some (.lm 3 1, hD f (nmO []) (tmO []) D0) := rfl
 have em : ye7 true (.int .i64 (lst f.regs).length) (.int .i64 (lst f.params).length) = some (.int .i64 (nOfF f)) := by
  have : (max ((lst f.regs).length : Int) (lst f.params).length) = (nOfF f : Int) := by unfold nOfF; omega
  simp [ye7, this]
 have h250 : ¬ (250 : Int) ≤ (nOfF f : Int) := by omega
 have hw1 : IntKind.wrap .i64 ((nOfF f : Int) + 1) = (nOfF f : Int) + 1 := by rw [y1a] <;> omega
 have b8 : yq yd7 [(6, 1, .int .i64 (lst f.params).length), (7, 1, .int .i64 f.ret), (5, 1, .int .i64 ((nOfF f : Int) + 1))] = some (.agg [.nils, .nils, .nils, .nils, .nils, .int .i64 ((nOfF f : Int) + 1), .int .i64 (lst f.params).length, .int .i64 f.ret]) := rfl
 have b11 : yq [.nils, .nils, .nils, .nils, .nils, .int .i64 0, .int .i64 0, .int .i64 0, .nilm, .nilm, .nils] [(8, 1, .lm 2 1), (9, 1, .lm 3 1), (0, 8, .agg [.nils, .nils, .nils, .nils, .nils, .int .i64 ((nOfF f : Int) + 1), .int .i64 (lst f.params).length, .int .i64 f.ret])] = some (.agg (y45 (bc0 f) (fun _ => 0) (fun _ => 0) (xs s0))) := rfl
 have n4 : newC 0 (some 4) (cellsOf (.agg (y45 (bc0 f) (fun _ => 0) (fun _ => 0) (xs s0)))) (hD f (nmO []) (tmO []) D0) = some (.lp 4 1 0 0, HHe f) := rfl
 have l2 := Bd.at (A := [_]) B2
 have l25 : evLd true 5 (.lp 0 1 0 0) H2 = some (.agg (enc f)) := ysm (α := Fn) l2
 have l23 : evLd false 1 (.lp 0 1 0 3) H2 = some (slA f.code) := by simp [l2, yr, y23]
 have l3 := Bd.at (A := [_]) B3
 have l33 : evLd false 1 (.lp 0 1 0 3) (H2.set 8 (AI 1 (List.replicate ((lst f.code).length + 1) 0))) = some (slA f.code) := by
  generalize H2.set 8 _ = H9 at l3
  simp [l3, yr, y23]
 have hw2 : IntKind.wrap .i64 (((lst f.code).length : Int) + 1) = (((lst f.code).length + 1 : Nat) : Int) := by rw [y1a] <;> omega
 have h8 := Bd.at (A := [_, _, _]) B2
 have m8 : mkSC 0 (some 8) 1 8 [.int .i64 0] (.int .i64 ((lst f.code).length + 1 : Nat)) (.int .i64 ((lst f.code).length + 1 : Nat)) H2 = some (atV f, H2.set 8 (AI 1 (List.replicate ((lst f.code).length + 1) 0))) := by
  have e47 : (2:Int) ^ 47 = 140737488355328 := by decide
  have e62 : (2:Int) ^ 62 = 4611686018427387904 := by decide
  have hle : (0 : Int) ≤ ((lst f.code).length + 1 : Nat) := by omega
  have c1 : (((lst f.code).length + 1 : Nat) : Int) * ((8 : Nat) : Int) ≤ 2 ^ 47 := by rw [e47]; omega
  have c2 : (((lst f.code).length + 1 : Nat) : Int) ≤ 2 ^ 62 := by rw [e62]; omega
  have ht : ((((lst f.code).length + 1 : Nat) : Int)).toNat = (lst f.code).length + 1 := by omega
  unfold mkSC
  simp only
  rw [if_pos ⟨rfl, rfl, hle, Int.le_refl _, c1, c2⟩, ht]
  simp [h8, AI]
 rw [x_q5, y211, n0, ye, n1, ye, y210, l5, y9, c8, ye, y6f, y9, show decide ((0 : Int) ≠ 0) = false from rfl, y1h, y2d5]
 simp only [yk, zd, y9, lr, lp, y12, em, y2e5, y1j, h250, decide_false, y1h, y2eg, m2, m3, ye, lp2, lq2, yz, hw1]
 rw [b8, y9, b11, y9, n4, ye, y2gl, y2gi]
 simp only [yk, zd, y9, lp3, y12]
 rw [show (AV.nils) = y1c Mv 6 0 [] from rfl, show AV.int .i64 0 = .int .i64 ((0 : Nat) : Int) from rfl, e1, y202, cM, ye]
 simp only [y1y, List.getElem?_cons_zero, List.getElem?_cons_succ, y9, y28g, y12, y4r]
 rw [show AV.int .i64 0 = .int .i64 ((0 : Nat) : Int) from rfl, e2, y1x1, l25, y9, cO, ye, y2gm]
 simp only [yk, zd, y9, l23, y12, yz, hw2, m8, ye, y28z, l33]
 rfl
end Go.Vm
namespace Go.Vm
open Cel
def andU (a b : Int) : Int := wU (BitVec.ofInt 32 a &&& BitVec.ofInt 32 b).toNat
def y8c (w : Int) : Int := if andU w 255 = 255 then -1 else andU w 255
def shrU (w : Int) (k : Nat) : Int := w.fdiv (2 ^ k)
def zIns : Ins := ⟨0, 0, 0, 0, 0, 0, 0, [], none⟩
def kT1 (o : Int) : Bool := k2 o || decide (o = 25)
def ydd (u : Un) (x : Ins) : List Wd → Option Ins
 | [] => some x
 | r :: R =>
  if kT1 x.op then (lst u.T)[r.n.toNat]?.map fun t => { x with s := t.s }
  else if x.op = 14 then some { x with c := r.n }
  else if x.op = 27 then some { x with t := r.n }
  else if x.op = 28 ∨ x.op = 29 then some { x with t := r.n, n := (R.getD 0 default).n }
  else (lst u.N)[r.n.toNat]?.map fun n => { x with n := n }
def rd0 (w : Int) : Ins :=
 { op := shrU w 24, d := if 0 ≤ y8c (shrU w 16) ∨ calls (shrU w 24) = true then y8c (shrU w 16) else 0, a := if 0 ≤ y8c (shrU w 8) ∨ shrU w 24 = 30 then y8c (shrU w 8) else 0, b := if 0 ≤ y8c w ∨ shrU w 24 = 29 then y8c w else 0, c := 0, n := 0, t := 0, s := [], args := none }
def cutW (u : Un) (a b : Int) : List Wd := ((lst u.W).take b.toNat).drop a.toNat
def rdN (u : Un) (p : Int) (n : Int) (x : Ins) : Ins × Int :=
 if calls x.op then
  if ((lst u.W).length : Int) - p - n < ((cutW u (p + 1) (p + n)).getD 1 default).n then (zIns, 0)
  else ({ x with args := nz ((cutW u (p + n) (p + n + ((cutW u (p + 1) (p + n)).getD 1 default).n)).map (·.n)) }, n + ((cutW u (p + 1) (p + n)).getD 1 default).n)
 else (x, n)
def rdM (u : Un) (p : Int) : Ins × Int :=
 if p < 0 ∨ ((lst u.W).length : Int) ≤ p then (zIns, 0)
 else if shrU ((lst u.W).getD p.toNat default).n 24 < 1 ∨ 33 < shrU ((lst u.W).getD p.toNat default).n 24 ∨ ((lst u.W).length : Int) - p < 1 + y1x (shrU ((lst u.W).getD p.toNat default).n 24) then (zIns, 0)
 else match ydd u (rd0 ((lst u.W).getD p.toNat default).n) (cutW u (p + 1) (p + (1 + y1x (shrU ((lst u.W).getD p.toNat default).n 24)))) with
  | none => (zIns, 0)
  | some x => rdN u p (1 + y1x (shrU ((lst u.W).getD p.toNat default).n 24)) x
def WOk (W : List Wd) : Prop := ∀ w ∈ W, 0 ≤ w.n ∧ w.n < 4294967296
theorem y2u6 (n : Int) : wU n = n % 4294967296 := by
 unfold wU
 simp [IntKind.wrap, IntKind.signed, IntKind.bits]
theorem ydr (n : Int) : 0 ≤ wU n ∧ wU n < 4294967296 := by rw [y2u6]; omega
theorem y2f9 (a b : Int) : 0 ≤ andU a b ∧ andU a b < 4294967296 := ydr _
theorem yin {n : Int} (h0 : 0 ≤ n) (h1 : n < 4294967296) : IntKind.wrap .i64 n = n := by rw [y1a] <;> omega
theorem y2e6 {w : Int} (h0 : 0 ≤ w) (h1 : w < 4294967296) (k : Nat) : 0 ≤ shrU w k ∧ shrU w k < 4294967296 := by
 unfold shrU
 have hp : (0 : Int) < 2 ^ k := Int.pow_pos (by decide)
 rw [z2t _ (by omega)]
 exact ⟨Int.ediv_nonneg h0 (by omega), Int.lt_of_le_of_lt (Int.ediv_le_self _ h0) h1⟩
theorem y27s {w : Int} (h0 : 0 ≤ w) (h1 : w < 4294967296) : shrU w 24 < 256 := by
 unfold shrU
 rw [z2t _ (by decide)]
 omega
theorem yhn (o : Int) : 0 ≤ y1x o ∧ y1x o ≤ 2 := by
 unfold y1x
 split
 ·omega
 ·split <;> omega
theorem y2fl (a : Int) (k : Nat) (hk : k ≤ 32) : yb .shr (.int .u32 a) (.int .u64 k) = some (.int .u32 (shrU a k)) := by
 have h0 : ¬ (k : Int) < 0 := by omega
 have h1 : min ((k : Int)).toNat IntKind.u32.bits = k := by
  show min _ 32 = k
  omega
 simp only [yb, y4v, if_true, ygv, if_neg h0, h1]
 rfl
theorem y2jc (w : Int) : (yd E).p 235 [.int .u32 w] = some ⟨.int .i64 (y8c w), [], true, [], []⟩ := by
 rw [x_q7]
 have ha : yb .and (.int .u32 w) (.int .u32 255) = some (.int .u32 (andU w 255)) := rfl
 obtain ⟨h0, h1⟩ := y2f9 w 255
 unfold y8c
 by_cases h : andU w 255 = 255
 ·simp only [q7_3, q7_2, ha, y9, yy, h, decide_true, y1b, if_true]
  rfl
 ·simp only [q7_3, q7_2, ha, y9, yy, h, decide_false, y1h, q7_1, y2g, yin h0 h1, if_false]
  rfl
theorem slcW {u : Un} {a b : Int} (h0 : 0 ≤ a) (h1 : a ≤ b) (h2 : b ≤ (lst u.W).length) (hW : u.W ≠ none) : y75 1 (slA u.W) (some (.int .i64 a)) (some (.int .i64 b)) = some (slA (some (cutW u a b))) := by
 cases hu : u.W with
 | none => exact (hW hu).elim
 | some W =>
  have h2' : b ≤ (W.length : Int) := by rw [hu] at h2; exact h2
  have h3 : 0 ≤ b := by omega
  have h4 : a ≤ max b 0 := by omega
  simp [y75, yqq, slA, ybv, yoo, h0, h2', h3, h4, cutW, hu, List.map_take, List.map_drop]
theorem ypj {o : Option (List Wd)} {x : Wd} {n : Int} (h0 : 0 ≤ n) (hx : (lst o)[n.toNat]? = some x) (k : IntKind) : y10 1 (slA o) (.int k n) = some (.rp [.int .u32 x.n]) := yad h0 hx k
theorem y2jt {o : Option (List Tx)} {x : Tx} {n : Int} (h0 : 0 ≤ n) (hx : (lst o)[n.toNat]? = some x) (k : IntKind) : y10 1 (slA o) (.int k n) = some (.rp [.str x.s]) := yad h0 hx k
abbrev BU (u : Un) : AO := ⟨1, .arr true false 8 [enc u]⟩
abbrev HA (u : Un) (x4 x : Ins) (T : Heap) : Heap := BU u :: AX 1 x4 :: AX 1 x :: D0 :: D0 :: T
theorem y2a9 (u : Un) (x4 x : Ins) {R : List Wd} (hR : WOk R) (hl : (R.length : Int) = y1x x.op) (hop : 1 ≤ x.op ∧ x.op ≤ 33) (fb : Nat) :
  yc E (yd E) fb none false 236 [.agg (enc u), .lp 2 1 0 0, slA (some R)] (HA u x4 x []) = some (.bool (ydd u x R).isSome, HA u x4 ((ydd u x R).getD x) [BU u]) := by
 rw [yh4 rfl, y2ro, if_pos rfl]
 have n0 : newC (HA u x4 x []).length (some 0) (cellsOf (.agg (enc u))) (HA u x4 x [] ++ yj 1) = some (.lp 5 1 0 0, HA u x4 x [BU u]) := by
  have : (cellsOf (.agg (enc u))).all y19 = true := y5t u
  unfold newC
  rw [if_pos this]
  rfl
 rw [y1b3, n0, ye]
 cases R with
 | nil =>
  simp only [yq9, y12, y57, List.length_nil, y9, yy, ydd, Option.isSome_some, Option.getD_some]
  rfl
 | cons r R =>
  obtain ⟨r0, r1⟩ := hR r z1h
  have i0 : y10 1 (slA (some (r :: R))) (.int .i64 0) = some (.rp [.int .u32 r.n]) := ypj (Int.le_refl 0) rfl .i64
  have h0 : ¬ (((r :: R).length : Nat) : Int) = 0 := by simp only [List.length_cons]; omega
  have lop : evLd false 1 (.lp 2 1 0 0) (HA u x4 x [BU u]) = some (.int .i64 x.op) := rfl
  have lT : evLd false 1 (.lp 5 1 0 4) (HA u x4 x [BU u]) = some (slA u.T) := rfl
  have lN : evLd false 1 (.lp 5 1 0 3) (HA u x4 x [BU u]) = some (slA u.N) := rfl
  have st : ∀ (k : Nat) (v : AV) (x' : Ins), k < 9 → (enc x).set k v = enc x' → cellsOf v = [v] → y19 v = true → evSt 1 (.lp 2 1 0 k) v (HA u x4 x [BU u]) = some (.tup [], HA u x4 x' [BU u]) := by
   intro k v x' hk he hc hl
   have := y82 (H := HA u x4 x [BU u]) (id := 2) (g := 1) (es := 9) (row := enc x) (off := k) (v := v) rfl (by rw [yhg]; exact hk) hc hl
   rw [he] at this
   exact this
  have e15 : yq9 (HA u x4 x []).length (.lp 2 1 0 0) (slA (some (r :: R))) (.lp 5 1 0 0) (HA u x4 x [BU u]) = yfs (HA u x4 x []).length (.lp 2 1 0 0) (slA (some (r :: R))) (.lp 5 1 0 0) (.int .i64 r.n) (.int .i64 x.op) (HA u x4 x [BU u]) := by
   simp only [yq9, y12, y57, y9, yy, h0, decide_false, y1h, y1j6, i0, y2q, y2s, List.head?_cons, y2g, yin r0 r1, y1du, y1l, yk, zd, lop]
  rw [e15]
  -- texts
  have tx : y1c8 (HA u x4 x []).length (.lp 2 1 0 0) (.lp 5 1 0 0) (.int .i64 r.n) (HA u x4 x [BU u]) = some (.bool ((lst u.T)[r.n.toNat]?.map fun t => { x with s := t.s }).isSome, HA u x4 (((lst u.T)[r.n.toNat]?.map fun t => { x with s := t.s }).getD x) [BU u]) := by
   by_cases h : ((lst u.T).length : Int) ≤ r.n
   ·have g : (lst u.T)[r.n.toNat]? = none := z12 (by omega)
    rw [g]
    simp only [y1c8, yk, zd, y9, lT, y12, y1j, h, decide_true, y1b]
    rfl
   ·have hlt : r.n.toNat < (lst u.T).length := by omega
    have g := z9 hlt
    generalize (lst u.T)[r.n.toNat] = t at g
    have es := st 7 (.str t.s) { x with s := t.s } (by omega) rfl rfl rfl
    rw [g]
    simp only [y1c8, yk, zd, y9, lT, y12, y1j, h, decide_false, y1h, y2aw, y2jt r0 g, y2q, y2s, List.head?_cons, y1l, es, ye, yji]
    rfl
  have nx : y19l (HA u x4 x []).length (.lp 2 1 0 0) (.lp 5 1 0 0) (.int .i64 r.n) (HA u x4 x [BU u]) = some (.bool ((lst u.N)[r.n.toNat]?.map fun n => { x with n := n }).isSome, HA u x4 (((lst u.N)[r.n.toNat]?.map fun n => { x with n := n }).getD x) [BU u]) := by
   by_cases h : ((lst u.N).length : Int) ≤ r.n
   ·have g : (lst u.N)[r.n.toNat]? = none := z12 (by omega)
    rw [g]
    simp only [y19l, yk, zd, y9, lN, y12, y1j, h, decide_true, y1b]
    rfl
   ·have hlt : r.n.toNat < (lst u.N).length := by omega
    have g := z9 hlt
    generalize (lst u.N)[r.n.toNat] = t at g
    have es := st 5 (.int .i64 t) { x with n := t } (by omega) rfl rfl rfl
    rw [g]
    simp only [y19l, yk, zd, y9, lN, y12, y1j, h, decide_false, y1h, y2g9, ywh r0 g, y2q, y2s, List.head?_cons, y1l, es, ye, yji]
    rfl
  rw [ydd]
  by_cases h1 : kT1 x.op = true
  ·rw [if_pos h1, ← tx]
   simp only [kT1, k2, z1k, decide_eq_true_eq] at h1
   rcases h1 with (((h | h) | h) | h) | h <;> simp only [yfs, h, yy, y9, Int.reduceEq, decide_true, decide_false, y1b, y1h, yal]
  rw [if_neg h1]
  simp only [kT1, k2, z1k, decide_eq_true_eq, not_or] at h1
  by_cases h2 : x.op = 14
  ·rw [if_pos h2]
   have es := st 4 (.int .i64 r.n) { x with c := r.n } (by omega) rfl rfl rfl
   simp only [yfs, h2, yy, y9, Int.reduceEq, decide_true, decide_false, y1b, y1h, yal, ym0, ykt, y1l, yk, zd, es, ye, yji]
   rfl
  rw [if_neg h2]
  by_cases h3 : x.op = 27
  ·rw [if_pos h3]
   have es := st 6 (.int .i64 r.n) { x with t := r.n } (by omega) rfl rfl rfl
   simp only [yfs, h3, yy, y9, Int.reduceEq, decide_true, decide_false, y1b, y1h, yal, ym0, ykt, y195, y1fu, y1l, yk, zd, es, ye, yji]
   rfl
  rw [if_neg h3]
  by_cases h4 : x.op = 28 ∨ x.op = 29
  ·rw [if_pos h4]
   have hx : y1x x.op = 2 := by rcases h4 with h | h <;> rw [h] <;> rfl
   rw [hx] at hl
   cases R with
   | nil => simp at hl
   | cons q R =>
    obtain ⟨q0, q1⟩ := hR q (by simp)
    have i1 : y10 1 (slA (some (r :: q :: R))) (.int .i64 1) = some (.rp [.int .u32 q.n]) := ypj (by omega) rfl .i64
    have es := st 6 (.int .i64 r.n) { x with t := r.n } (by omega) rfl rfl rfl
    have es2 : evSt 1 (.lp 2 1 0 5) (.int .i64 q.n) (HA u x4 { x with t := r.n } [BU u]) = some (.tup [], HA u x4 { x with t := r.n, n := q.n } [BU u]) := by
     have := y82 (H := HA u x4 { x with t := r.n } [BU u]) (id := 2) (g := 1) (es := 9) (row := enc { x with t := r.n }) (off := 5) (v := .int .i64 q.n) rfl (by rw [yhg]; omega) rfl rfl
     exact this
    rcases h4 with h | h <;> (simp only [yfs, h, yy, y9, Int.reduceEq, decide_true, decide_false, y1b, y1h, yal, ym0, ykt, y195, y1fu, y1uk, y1df, i1, y2q, y2s, List.head?_cons, y2g, yin q0 q1, y1l, yk, zd, es, ye, es2, yji]; rfl)
  rw [if_neg h4, ← nx]
  rw [not_or] at h4
  simp only [yfs, h1, h2, h3, h4, yy, y9, decide_false, y1h, yal, ym0, ykt, y195, y1fu, y1uk, y1df]
end Go.Vm
namespace Go.Vm
open Cel
abbrev HL (u : Un) (x4 x : Ins) (g : Nat) (Ls : List Int) (x3 : AO) (T : Heap) : Heap := BU u :: AX 1 x4 :: ⟨1, .arr true false 9 [y47 x (y1c Int 4 g Ls)]⟩ :: x3 :: y2l g D0 Ls :: T
theorem y29x {H : Heap} (x : Ins) {g : Nat} {Ls : List Int} {o : AO} (h : H[4]? = some (y2l g o Ls)) (n : Int) :
  ∃ r, yo H (.tup [.agg (y47 x (y1c Int 4 g Ls)), .int .i64 n]) = some r ∧ y72 r (.tup [.agg (enc { x with args := nz Ls }), .int .i64 n]) := by
 have e0 : y1c Int 4 g Ls = ownV 4 g (nz Ls) := by cases Ls <;> rfl
 obtain ⟨b, e1⟩ := y83 (α := Int) (H := H) (id := 4) (g := g) (L := Ls) (fun hne => by rw [h, ygh hne]) [] 9
 have ei : ∀ (n : Int) (k : Nat), expo H (k + 1) (.int .i64 n) [] = some ⟨.int .i64 n, [], true, [], []⟩ := fun n k => rfl
 have es : ∀ (k : Nat), expo H (k + 1) (.str x.s) [] = some ⟨.str x.s, [], true, [], []⟩ := fun k => rfl
 have l0 : ∀ os k, y30 (expo H k) [] os = some ⟨[], os, true, [], []⟩ := fun _ _ => rfl
 have l8 := y22 (ei x.op 9) (y22 (ei x.d 9) (y22 (ei x.a 9) (y22 (ei x.b 9) (y22 (ei x.c 9) (y22 (ei x.n 9) (y22 (ei x.t 9) (y22 (es 9) (y22 e1 (l0 _ 10)))))))))
 have ea := yqe H 10 (y47 x (ownV 4 g (nz Ls))) []
 unfold y47 at ea
 rw [l8] at ea
 have en : ∀ os, expo H 11 (.int .i64 n) os = some ⟨.int .i64 n, os, true, [], []⟩ := fun os => rfl
 have l2 := y22 ea (y22 (en _) (l0 _ 11))
 rw [e0, ycr]
 unfold y47
 rw [l2]
 simp only
 rw [if_pos]
 ·refine ⟨_, rfl, ?_⟩
  have h1 := yd8 (nz Ls) [] [] 8
  simp only [List.nil_append, List.append_nil, List.length_nil] at h1
  have hi : ∀ (Hh : Heap) (n : Int) (k : Nat), fz Hh (k + 1) (.int .i64 n) = some ⟨.int .i64 n, true, []⟩ := fun _ _ _ => rfl
  have hs : ∀ (Hh : Heap) (k : Nat), fz Hh (k + 1) (.str x.s) = some ⟨.str x.s, true, []⟩ := fun _ _ => rfl
  refine ⟨_, (yoe _ 11 _).trans (by
   rw [ym, ycy _ 10]
   simp only [ym, List.nil_append, List.length_nil, h1, hi _ _ 10, hi _ _ 9, hs _ 9, y1k]
   rfl), rfl⟩
 ·simp only [List.append_nil, List.nil_append]
  cases Ls with
  | nil => rfl
  | cons a l => rfl
section
variable (u : Un)
abbrev A4 : AV := .lp 1 1 0 0
abbrev A7 : AV := .lp 2 1 0 0
theorem At_1 (x4 x : Ins) (g : Nat) (Ls : List Int) (x3 : AO) (T : Heap) (n : Int) : ∃ r, q4_1 A4 A7 (.int .i64 n) (HL u x4 x g Ls x3 T) = some r ∧ y72 r (.tup [.agg (enc { x with args := nz Ls }), .int .i64 n]) := by
 have hl : (y47 x (y1c Int 4 g Ls)).all y19 = true := y15v x _ (y7d ..)
 have e1 : evLd true 9 A7 (HL u x4 x g Ls x3 T) = some (.agg (y47 x (y1c Int 4 g Ls))) := by
  rw [y3z]
  rfl
 have e2 := ymo (n := 9) (H := HL u x4 x g Ls x3 T) (id := 1) (g := 1) (row := enc x4) (cells := y47 x (y1c Int 4 g Ls)) rfl rfl rfl hl
 obtain ⟨r, e3, e4⟩ := y29x (H := (HL u x4 x g Ls x3 T).set 1 ⟨1, .arr true false 9 [y47 x (y1c Int 4 g Ls)]⟩) x (g := g) (Ls := Ls) (o := D0) rfl n
 have e5 : evLd true 9 A4 ((HL u x4 x g Ls x3 T).set 1 ⟨1, .arr true false 9 [y47 x (y1c Int 4 g Ls)]⟩) = some (.agg (y47 x (y1c Int 4 g Ls))) := by
  rw [y3z]
  rfl
 refine ⟨r, ?_, e4⟩
 rw [q4_1, e1, y9, e2, ye, e5, y9, e3]
theorem At_0 (x4 : Ins) (o2 o3 o4 : AO) (T : Heap) : ∃ r, oh (evSt 9 A4 (.agg (enc zIns)) (BU u :: AX 1 x4 :: o2 :: o3 :: o4 :: T)) (fun _ h => ob (evLd true 9 A4 h) fun r0 => yo h (.tup [r0, .int .i64 0])) = some r ∧ y72 r (.tup [.agg (enc zIns), .int .i64 0]) := by
 have e2 := ymo (n := 9) (H := BU u :: AX 1 x4 :: o2 :: o3 :: o4 :: T) (id := 1) (g := 1) (row := enc x4) (cells := enc zIns) rfl rfl rfl rfl
 refine ⟨⟨.tup [.agg (enc zIns), .int .i64 0], [], true, [], []⟩, ?_, _, rfl, rfl⟩
 rw [e2, ye]
 rfl
theorem y1af (W : List Wd) (hW : WOk W) (hl : W.length ≤ 17000000000000) (x4 x : Ins) (v8 v13 : AV) (T : Heap) : ∀ (d i : Nat) (Ls : List Int) (g : Nat) (x3 : AO), i + d = W.length → Ls.length = i →
  ∃ g' x3', y19f A4 A7 v8 v13 (slA (some W)) (.int .i64 W.length) (.int .i64 i) (HL u x4 x g Ls x3 T) = q4_2 A4 A7 v8 v13 (HL u x4 x g' (Ls ++ (W.drop i).map (·.n)) x3' T)
 | 0, i, Ls, g, x3, hd, hL => by
  have h : ¬ (i : Int) < (W.length : Int) := by omega
  refine ⟨g, x3, ?_⟩
  rw [z14 (by omega), z2v, z15, y12f]
  simp only [q4_7, yg, y9, h, decide_false, q4_6, y1h]
 | d + 1, i, Ls, g, x3, hd, hL => by
  have h : (i : Int) < (W.length : Int) := by omega
  have hi : i < W.length := by omega
  have gw := z9 hi
  have ed : W.drop i = W[i] :: W.drop (i + 1) := zk hi
  have hm : W[i] ∈ W := z1n hi
  generalize W[i] = w at gw ed hm
  obtain ⟨w0, w1⟩ := hW w hm
  have e0 : y10 1 (slA (some W)) (.int .i64 (i : Int)) = some (.rp [.int .u32 w.n]) := ypj (o := some W) (by omega) (by simpa using gw) .i64
  have l8 : evLd false 1 (.lp 2 1 0 8) (HL u x4 x g Ls x3 T) = some (y1c Int 4 g Ls) := rfl
  have b3 : yl 0 (some 3) 1 1 [.int .i64 0] [(0, .int .i64 w.n)] (HL u x4 x g Ls x3 T) = some (.ls 3 (x3.gen + 1) 1 0 1, HL u x4 x g Ls ⟨x3.gen + 1, .arr false false 1 [[.int .i64 w.n]]⟩ T) := bs_c (fb := 0) (j := 3) rfl rfl rfl rfl
  obtain ⟨g', e4⟩ := yoi (H := HL u x4 x g Ls ⟨x3.gen + 1, .arr false false 1 [[.int .i64 w.n]]⟩ T) (fb := 0) (j := 4) (y := .ls 3 (x3.gen + 1) 1 0 1) (L := Ls) (n := w.n) (y54 rfl) rfl (by omega)
  obtain ⟨g2, y3, e5⟩ := y1af W hW hl x4 x v8 v13 T d (i + 1) (Ls ++ [w.n]) g' ⟨x3.gen + 1, .arr false false 1 [[.int .i64 w.n]]⟩ (by omega) (by simp [hL])
  have hw : IntKind.wrap .i64 ((i : Int) + 1) = ((i + 1 : Nat) : Int) := by rw [y1a] <;> omega
  have e6 := y82 (H := (HL u x4 x g Ls ⟨x3.gen + 1, .arr false false 1 [[.int .i64 w.n]]⟩ T).set (0 + 4) (y2l g' D0 (Ls ++ [w.n]))) (id := 2) (g := 1) (es := 9) (off := 8) (row := y47 x (y1c Int 4 g Ls)) (v := y1c Int 4 g' (Ls ++ [w.n])) rfl (by rw [y170]; omega) (yae ..) (y7d ..)
  refine ⟨g2, y3, ?_⟩
  rw [ed, z10, show Ls ++ w.n :: (W.drop (i + 1)).map (·.n) = (Ls ++ [w.n]) ++ (W.drop (i + 1)).map (·.n) by simp, ← e5, y12f]
  simp only [zd] at e4 e6
  simp only [q4_7, yg, y9, h, decide_true, q4_6, y1b, q4_5, e0, y2q, y2s, List.head?_cons, yk, zd, l8, y2g, yin w0 w1, b3, ye, e4, e6, q4_4, yz, hw]
  rfl
end
end Go.Vm
namespace Go.Vm
open Cel
abbrev zCe : List AV := [.int .i64 0, .int .i64 0, .int .i64 0, .int .i64 0, .int .i64 0, .int .i64 0, .int .i64 0, .str [], .nils]
def opI (o : Int) : Ins := ⟨o, 0, 0, 0, 0, 0, 0, [], none⟩
section
variable (u : Un)
theorem y2bk (x4 x : Ins) (T : Heap) {k : Nat} {v : AV} {x' : Ins} (hk : k < 9) (he : (enc x).set k v = enc x') (hc : cellsOf v = [v]) (hl : y19 v = true) : evSt 1 (.lp 2 1 0 k) v (HA u x4 x T) = some (.tup [], HA u x4 x' T) := by
 have := y82 (H := HA u x4 x T) (id := 2) (g := 1) (es := 9) (row := enc x) (off := k) (v := v) rfl (by rw [yhg]; exact hk) hc hl
 rw [he] at this
 exact this
theorem y1oh (x : Ins) (H : Heap) : yc E (yd E) 0 none true 17 [.agg (enc x)] H = some (.bool (calls x.op), H) := y18 rfl (yt9 x H) rfl (yel x) ⟨_, rfl, rfl⟩
theorem fz_w (n : Int) (H : Heap) : yv (fz H y1m) [.int .u32 n] = some ⟨[.int .u32 n], true, []⟩ := rfl
theorem y25c (w : Int) (H : Heap) : yc E (yd E) 0 none true 235 [.int .u32 w] H = some (.int .i64 (y8c w), H) := y18 rfl (fz_w w H) rfl (y2jc w) ⟨_, rfl, rfl⟩
theorem y2qs (v1 v2 v8 v9 v10 : AV) (w : Int) (x4 x : Ins) (T : Heap) : y20i v1 v2 A4 (.int .u32 w) A7 v8 v9 v10 (HA u x4 x T) =
  y15o v1 v2 A4 A7 v8 v9 v10 (HA u x4 { x with d := if 0 ≤ y8c (shrU w 16) ∨ calls x.op = true then y8c (shrU w 16) else x.d } T) := by
 have s16 : yb .shr (.int .u32 w) (.int .u64 16) = some (.int .u32 (shrU w 16)) := y2fl w 16 (by omega)
 have la : evLd true 9 A7 (HA u x4 x T) = some (.agg (enc x)) := yfn rfl
 have es := y2bk u x4 x T (k := 1) (v := .int .i64 (y8c (shrU w 16))) (x' := { x with d := y8c (shrU w 16) }) (by omega) rfl rfl rfl
 simp only [y20i, s16, y9, y25c, ye, y1j]
 by_cases h : 0 ≤ y8c (shrU w 16)
 ·simp only [h, decide_true, y6z, y1wi, y1g, y9, y1b, yk, zd, es, ye, true_or, if_true]
 ·simp only [h, decide_false, y51, la, y9, y1z0, y1oh, ye, y1d, false_or]
  cases hc : calls x.op with
  | true => simp only [y1b, yk, zd, y9, es, ye, if_true]
  | false => simp only [y1h, zp, if_false]
theorem y2qy (v1 v2 v8 v10 : AV) (a : Int) (x4 x : Ins) (T : Heap) : y15o v1 v2 A4 A7 v8 (.int .i64 a) v10 (HA u x4 x T) =
  y174 v1 v2 A4 A7 v8 v10 (HA u x4 { x with a := if 0 ≤ a ∨ x.op = 30 then a else x.a } T) := by
 have l0 : evLd false 1 A7 (HA u x4 x T) = some (.int .i64 x.op) := ybg rfl rfl
 have es := y2bk u x4 x T (k := 2) (v := .int .i64 a) (x' := { x with a := a }) (by omega) rfl rfl rfl
 simp only [y15o, y1j, y9]
 by_cases h : 0 ≤ a
 ·simp only [h, decide_true, y6z, y1g, y9, y1b, yk, zd, es, ye, true_or, if_true]
 ·simp only [h, decide_false, y51, yk, zd, l0, y9, yy, y1d, false_or]
  by_cases hc : x.op = 30
  ·simp only [hc, decide_true, y1b, yk, zd, y9, es, ye, if_true]
  ·simp only [hc, decide_false, y1h, if_false]
theorem y2t3 (v1 v2 v8 : AV) (b : Int) (x4 x : Ins) (T : Heap) : y174 v1 v2 A4 A7 v8 (.int .i64 b) (HA u x4 x T) =
  y15s v1 v2 A4 A7 v8 (HA u x4 { x with b := if 0 ≤ b ∨ x.op = 29 then b else x.b } T) := by
 have l0 : evLd false 1 A7 (HA u x4 x T) = some (.int .i64 x.op) := ybg rfl rfl
 have es := y2bk u x4 x T (k := 3) (v := .int .i64 b) (x' := { x with b := b }) (by omega) rfl rfl rfl
 simp only [y174, y1j, y9]
 by_cases h : 0 ≤ b
 ·simp only [h, decide_true, y6z, y1g, y9, y1b, yk, zd, es, ye, true_or, if_true]
 ·simp only [h, decide_false, y51, yk, zd, l0, y9, yy, y1d, false_or]
  by_cases hc : x.op = 29
  ·simp only [hc, decide_true, y1b, yk, zd, y9, es, ye, if_true]
  ·simp only [hc, decide_false, y1h, if_false]
theorem y1y4 {u : Un} {x x' : Ins} {R : List Wd} (h : ydd u x R = some x') : x'.op = x.op ∧ x'.args = x.args := by
 cases R with
 | nil => cases h; exact ⟨rfl, rfl⟩
 | cons r R =>
  rw [ydd] at h
  repeat' split at h
  ·obtain ⟨t, _, rfl⟩ := z1g.1 h
   exact ⟨rfl, rfl⟩
  ·cases h; exact ⟨rfl, rfl⟩
  ·cases h; exact ⟨rfl, rfl⟩
  ·cases h; exact ⟨rfl, rfl⟩
  ·obtain ⟨t, _, rfl⟩ := z1g.1 h
   exact ⟨rfl, rfl⟩
theorem y2mi {u : Un} {x4 x : Ins} {T : Heap} (h : x.args = none) : HA u x4 x T = HL u x4 x 0 [] D0 T := by
 have : enc x = y47 x .nils := by
  show [AV.int .i64 x.op, _, _, _, _, _, _, _, slA x.args] = _
  rw [h]; rfl
 show BU u :: AX 1 x4 :: ⟨1, .arr true false 9 [enc x]⟩ :: D0 :: D0 :: T = _
 rw [this]
 rfl
theorem yt5 {u : Un} (hW : WOk (lst u.W)) (a b : Int) : WOk (cutW u a b) := fun w hw => hW w (List.mem_of_mem_take (List.mem_of_mem_drop hw))
theorem ynj {u : Un} {a b : Int} (h0 : 0 ≤ a) (h1 : a ≤ b) (h2 : b ≤ (lst u.W).length) : ((cutW u a b).length : Int) = b - a := by
 rw [cutW, List.length_drop, z3e]
 omega
theorem y28a {p n : Int} (h0 : 0 ≤ p) (h1 : p < 50000000000000) (h2 : 0 ≤ n) (h3 : n < 5000000000) : IntKind.wrap .i64 (p + n) = p + n := by rw [y1a] <;> omega
variable {u : Un} (hW : WOk (lst u.W)) (hl : (lst u.W).length ≤ 40000000000000)
include hW hl
theorem y2t2 {p n : Int} {x : Ins} {T : Heap} (hx : x.args = none) (p0 : 0 ≤ p) (n1 : n = 1 + y1x x.op) (hn : n ≤ ((lst u.W).length : Int) - p) (hne : u.W ≠ none) : ∃ r, y23z (.int .i64 p) (.lp 0 1 0 0) A4 A7 (.int .i64 n) (slA (some (cutW u (p + 1) (p + n)))) (HA u zIns x T) = some r ∧ y72 r (.tup [.agg (enc (rdN u p n x).1), .int .i64 (rdN u p n x).2]) := by
 have la : evLd true 9 A7 (HA u zIns x T) = some (.agg (enc x)) := yfn rfl
 have xr := yhn x.op
 rw [y23z, la, y9, y1oh, ye]
 cases hc : calls x.op with
 | false =>
  have er : rdN u p n x = (x, n) := by rw [rdN, hc]; rfl
  obtain ⟨r, e1, e2⟩ := At_1 u zIns x 0 [] D0 T n
  refine ⟨r, ?_, ?_⟩
  ·rw [y1t5, y1h, y2mi hx, e1]
  ·rw [er]
   have : { x with args := nz [] } = x := by cases x; simp only at hx; subst hx; rfl
   rw [this] at e2
   exact e2
 | true =>
  have hx2 : y1x x.op = 2 := by
   unfold y1x
   simp only [calls, zc, decide_eq_true_eq] at hc
   have h1 : (k1 x.op || k2 x.op || decide (x.op = 14) || decide (x.op = 27)) = false := by
    simp only [k1, k2, z2q, decide_eq_false_iff_not]
    omega
   rw [h1]
   simp [calls, hc]
  have hn3 : n = 3 := by omega
  subst hn3
  have cl := ynj (u := u) (a := p + 1) (b := p + 3) (by omega) (by omega) (by omega)
  have hlen : 1 < (cutW u (p + 1) (p + 3)).length := by omega
  have g1 := z9 hlen
  have hd : (cutW u (p + 1) (p + 3)).getD 1 default = (cutW u (p + 1) (p + 3))[1] := by rw [ze, g1]; rfl
  have hm := yt5 hW (p + 1) (p + 3) _ (z1n hlen)
  rw [← hd] at g1 hm
  generalize hk : (cutW u (p + 1) (p + 3)).getD 1 default = k at g1 hm
  obtain ⟨k0, k1⟩ := hm
  have i1 : y10 1 (slA (some (cutW u (p + 1) (p + 3)))) (.int .i64 1) = some (.rp [.int .u32 k.n]) := ypj (o := some (cutW u (p + 1) (p + 3))) (by omega) (by simpa using g1) .i64
  have lW : evLd false 1 (.lp 0 1 0 0) (HA u zIns x T) = some (slA u.W) := rfl
  have w1 : IntKind.wrap .i64 (((lst u.W).length : Int) - p) = ((lst u.W).length : Int) - p := by rw [y1a] <;> omega
  have w2 : IntKind.wrap .i64 (((lst u.W).length : Int) - p - 3) = ((lst u.W).length : Int) - p - 3 := by rw [y1a] <;> omega
  by_cases hb : ((lst u.W).length : Int) - p - 3 < k.n
  ·have er : rdN u p 3 x = (zIns, 0) := by rw [rdN, hc, if_pos rfl, hk, if_pos hb]
   obtain ⟨r, e1, e2⟩ := At_0 u zIns (AX 1 x) D0 D0 T
   refine ⟨r, ?_, by rw [er]; exact e2⟩
   rw [← e1]
   simp only [y1t5, y1b, y21c, i1, y9, y2q, y2s, List.head?_cons, y2g, yin k0 k1, y1u9, yk, zd, lW, y12, y59, w1, w2, y4m, hb, decide_true]
   rfl
  ·have a1 : IntKind.wrap .i64 (p + 3) = p + 3 := y28a p0 (by omega) (by omega) (by omega)
   have a2 : IntKind.wrap .i64 (p + 3 + k.n) = p + 3 + k.n := by rw [y1a] <;> omega
   have a3 : IntKind.wrap .i64 (3 + k.n) = 3 + k.n := by rw [y1a] <;> omega
   have sl := slcW (u := u) (a := p + 3) (b := p + 3 + k.n) (by omega) (by omega) (by omega) hne
   have cl2 := ynj (u := u) (a := p + 3) (b := p + 3 + k.n) (by omega) (by omega) (by omega)
   obtain ⟨g', x3', e1⟩ := y1af u (cutW u (p + 3) (p + 3 + k.n)) (yt5 hW _ _) (by omega) zIns x (.int .i64 3) (.int .i64 k.n) T _ 0 [] 0 D0 (by rw [zd]) rfl
   rw [z16, zr] at e1
   obtain ⟨r, e2, e3⟩ := At_1 u zIns x g' ((cutW u (p + 3) (p + 3 + k.n)).map (·.n)) x3' T (3 + k.n)
   have er : rdN u p 3 x = ({ x with args := nz ((cutW u (p + 3) (p + 3 + k.n)).map (·.n)) }, 3 + k.n) := by rw [rdN, hc, if_pos rfl, hk, if_neg hb]
   refine ⟨r, ?_, by rw [er]; exact e3⟩
   rw [← e2]
   simp only [y1t5, y1b, y21c, i1, y9, y2q, y2s, List.head?_cons, y2g, yin k0 k1, y1u9, yk, zd, lW, y12, y59, w1, w2, y4m, hb, decide_false, y1h, q4_9, yz, a1, a2, sl, y57]
   rw [y2mi hx, show AV.int .i64 0 = .int .i64 ((0 : Nat) : Int) from rfl, e1, q4_2, yz, y9, a3]
theorem s_At (p : Int) : ∃ r, (yd E).p 233 [.agg (enc u), .int .i64 p] = some r ∧ y72 r (.tup [.agg (enc (rdM u p).1), .int .i64 (rdM u p).2]) := by
 rw [x_q4]
 have n0 : newC 0 (some 0) (cellsOf (.agg (enc u))) [D0, D0, D0, D0, D0] = some (.lp 0 1 0 0, [BU u, D0, D0, D0, D0]) := by
  have : (cellsOf (.agg (enc u))).all y19 = true := y5t u
  unfold newC
  rw [if_pos this]
  rfl
 have n1 : newC 0 (some 1) zCe [BU u, D0, D0, D0, D0] = some (.lp 1 1 0 0, [BU u, AX 1 zIns, D0, D0, D0]) := rfl
 have lW : evLd false 1 (.lp 0 1 0 0) [BU u, AX 1 zIns, D0, D0, D0] = some (slA u.W) := rfl
 have bz : yq zCe [] = some (.agg (enc zIns)) := rfl
 have e26 : y240 (.agg (enc u)) (.int .i64 p) [D0, D0, D0, D0, D0] = yua (.int .i64 p) (.lp 0 1 0 0) A4 [BU u, AX 1 zIns, D0, D0, D0] := by
  rw [y240, n0, ye, n1, ye]
 rw [e26]
 by_cases hp : p < 0 ∨ ((lst u.W).length : Int) ≤ p
 ·have er : rdM u p = (zIns, 0) := by rw [rdM, if_pos hp]
  obtain ⟨r, e1, e2⟩ := At_0 u zIns D0 D0 D0 []
  refine ⟨r, ?_, by rw [er]; exact e2⟩
  rw [← e1]
  by_cases h1 : p < 0
  ·simp only [yua, yg, y9, h1, decide_true, y6z, y1g, y1b, bz]
  ·have h2 : ((lst u.W).length : Int) ≤ p := by omega
   simp only [yua, yg, y9, h1, decide_false, y51, yk, zd, lW, y12, y1j, h2, decide_true, y1d, y1b, bz]
 ·rw [not_or] at hp
  obtain ⟨h1, h2⟩ := hp
  have hp0 : 0 ≤ p := by omega
  have hlt : p.toNat < (lst u.W).length := by omega
  have hne : u.W ≠ none := fun e => by rw [e] at hlt; simp at hlt
  have g := z9 hlt
  have hd : (lst u.W).getD p.toNat default = (lst u.W)[p.toNat] := by rw [ze, g]; rfl
  have hm := hW _ (z1n hlt)
  rw [← hd] at g hm
  unfold rdM
  rw [if_neg (by rw [not_or]; exact ⟨h1, h2⟩)]
  generalize (lst u.W).getD p.toNat default = w at g hm
  obtain ⟨w0, w1⟩ := hm
  have sr := y2e6 w0 w1 24
  have sr2 := y27s w0 w1
  have s24 : yb .shr (.int .u32 w.n) (.int .u64 24) = some (.int .u32 (shrU w.n 24)) := y2fl w.n 24 (by omega)
  have s8 : yb .shr (.int .u32 w.n) (.int .u64 8) = some (.int .u32 (shrU w.n 8)) := y2fl w.n 8 (by omega)
  have i0 := ypj hp0 g .i64
  have bd : yq zCe [(0, 1, .int .i64 (shrU w.n 24))] = some (.agg (enc (opI (shrU w.n 24)))) := rfl
  have n2 : newC 0 (some 2) zCe [BU u, AX 1 zIns, D0, D0, D0] = some (.lp 2 1 0 0, HA u zIns zIns []) := rfl
  have s2 : evSt 9 (.lp 2 1 0 0) (.agg (enc (opI (shrU w.n 24)))) (HA u zIns zIns []) = some (.tup [], HA u zIns (opI (shrU w.n 24)) []) := by
   exact ymo (n := 9) (H := HA u zIns zIns []) (id := 2) (g := 1) (row := enc zIns) (cells := enc (opI (shrU w.n 24))) rfl rfl rfl rfl
  have lop : evLd false 1 (.lp 2 1 0 0) (HA u zIns (opI (shrU w.n 24)) []) = some (.int .i64 (shrU w.n 24)) := rfl
  have ce : ∀ H, yc E (yd E) 0 none true 234 [.int .i64 (shrU w.n 24)] H = some (.int .i64 (y1x (shrU w.n 24)), H) := fun H => y18 rfl (fz_i _ H) rfl (y2d6 _) ⟨_, rfl, rfl⟩
  have xr := yhn (shrU w.n 24)
  have wn : IntKind.wrap .i64 (1 + y1x (shrU w.n 24)) = 1 + y1x (shrU w.n 24) := by rw [y1a] <;> omega
  have e22 : yua (.int .i64 p) (.lp 0 1 0 0) A4 [BU u, AX 1 zIns, D0, D0, D0] = ypq (.int .i64 p) (.lp 0 1 0 0) A4 (.int .u32 w.n) A7 (.int .i64 (1 + y1x (shrU w.n 24))) (HA u zIns (opI (shrU w.n 24)) []) := by
   simp only [yua, yg, y9, h1, decide_false, y51, yk, zd, lW, y12, y1j, h2, y1d, y1h, y2dv, i0, y2q, y2s, List.head?_cons, y27w, s24, y2g, yin sr.1 sr.2, bd, n2, ye, s2, y27q, lop, ce, yz, wn]
  rw [e22]
  have lW2 : ∀ x : Ins, evLd false 1 (.lp 0 1 0 0) (HA u zIns x []) = some (slA u.W) := fun x => rfl
  have w3 : IntKind.wrap .i64 (((lst u.W).length : Int) - p) = ((lst u.W).length : Int) - p := by rw [y1a] <;> omega
  by_cases hb : shrU w.n 24 < 1 ∨ 33 < shrU w.n 24 ∨ ((lst u.W).length : Int) - p < 1 + y1x (shrU w.n 24)
  ·rw [if_pos hb]
   obtain ⟨r, e1, e2⟩ := At_0 u zIns (AX 1 (opI (shrU w.n 24))) D0 D0 []
   refine ⟨r, ?_, e2⟩
   rw [← e1]
   by_cases b1 : shrU w.n 24 < 1
   ·simp only [ypq, yk, zd, y9, lop, yg, b1, decide_true, y6z, y1g, y1b, bz]
   ·by_cases b2 : 33 < shrU w.n 24
    ·simp only [ypq, yk, zd, y9, lop, yg, b1, decide_false, y51, y4m, b2, decide_true, y1d, y6z, y1g, y1b, bz]
    ·have b3 : ((lst u.W).length : Int) - p < 1 + y1x (shrU w.n 24) := by omega
     simp only [ypq, yk, zd, y9, lop, yg, b1, decide_false, y51, y4m, b2, y1d, lW2, y12, y59, w3, b3, decide_true, y1b, bz]
  ·rw [if_neg hb]
   rw [not_or, not_or] at hb
   obtain ⟨b1, b2, b3⟩ := hb
   have e17 : ypq (.int .i64 p) (.lp 0 1 0 0) A4 (.int .u32 w.n) A7 (.int .i64 (1 + y1x (shrU w.n 24))) (HA u zIns (opI (shrU w.n 24)) []) = y15s (.int .i64 p) (.lp 0 1 0 0) A4 A7 (.int .i64 (1 + y1x (shrU w.n 24))) (HA u zIns (rd0 w.n) []) := by
    simp only [ypq, yk, zd, y9, lop, yg, b1, decide_false, y51, y4m, b2, y1d, lW2, y12, y59, w3, b3, y1h, y2c4, s8, y25c, ye]
    rw [y2qs, y2qy, y2t3]
    rfl
   have hn : 1 + y1x (shrU w.n 24) ≤ ((lst u.W).length : Int) - p := by omega
   have a1 : IntKind.wrap .i64 (p + 1) = p + 1 := y28a hp0 (by omega) (by omega) (by omega)
   have a2 : IntKind.wrap .i64 (p + (1 + y1x (shrU w.n 24))) = p + (1 + y1x (shrU w.n 24)) := y28a hp0 (by omega) (by omega) (by omega)
   have sl := slcW (u := u) (a := p + 1) (b := p + (1 + y1x (shrU w.n 24))) (by omega) (by omega) (by omega) hne
   have cl := ynj (u := u) (a := p + 1) (b := p + (1 + y1x (shrU w.n 24))) (by omega) (by omega) (by omega)
   have mo := y2a9 u zIns (rd0 w.n) (R := cutW u (p + 1) (p + (1 + y1x (shrU w.n 24)))) (yt5 hW _ _) (by rw [cl]; show _ = y1x (shrU w.n 24); omega) (by show 1 ≤ shrU w.n 24 ∧ shrU w.n 24 ≤ 33; omega) 0
   have lu : evLd true 8 (.lp 0 1 0 0) (HA u zIns (rd0 w.n) []) = some (.agg (enc u)) := ysm (α := Un) (g := 1) (c := u) rfl
   rw [e17, y15s]
   simp only [yk, zd, y9, lW2, yz, a1, a2, sl, y2dc]
   rw [lu, y9, mo, ye, y2a, y9]
   cases hmo : ydd u (rd0 w.n) (cutW u (p + 1) (p + (1 + y1x (shrU w.n 24)))) with
   | none =>
    obtain ⟨r, e1, e2⟩ := At_0 u zIns (AX 1 (rd0 w.n)) D0 D0 [BU u]
    refine ⟨r, ?_, e2⟩
    rw [← e1]
    simp only [Option.isSome_none, z28, y1b, bz, y9, Option.getD_none]
   | some x =>
    obtain ⟨o1, o2⟩ := y1y4 hmo
    obtain ⟨r, e1, e2⟩ := y2t2 hW hl (p := p) (n := 1 + y1x (shrU w.n 24)) (x := x) (T := [BU u]) (by rw [o2]; rfl) hp0 (by rw [o1]; rfl) hn hne
    refine ⟨r, ?_, e2⟩
    rw [← e1]
    simp only [Option.isSome_some, z1w, y1h, Option.getD_some]
end
end Go.Vm
namespace Go.Vm
open Cel
theorem y0j {E : Env} {C : Calls2} {fb f : Nat} {args : List AV} {h : Heap} {fa : Fz (List AV)} {r : Ex AV} {v : AV} (hE : E.pure f = true) (ha : yv (fz h y1m) args = some fa)
  (hc : C.p f fa.v = some r) (hr : y72 r v) : yc E C fb none true f args h = some (v, if r.fresh || fa.ids.isEmpty then h else y1e fa.ids h) := by
 obtain ⟨q, h1, h2⟩ := hr
 simp [yc, hE, y38, ha, hc, h1, h2]
def eI : Ins := ⟨30, 0, 1, 0, 0, 0, 0, [], none⟩
def eF : Fn := ⟨some [1, 1], some [1, 0], 1, some [eI], none⟩
def eZ : Fn := ⟨none, none, 0, none, none⟩
theorem y2tn : wf eF = true := by kernel_rfl
def eL : List Mv := [⟨2, 1⟩, ⟨1, 0⟩, ⟨0, 2⟩]
theorem y21w : yls (mvsL 0 (lst eF.params)) (nOfF eF) = some eL := by decide +kernel
def eU : Un := ⟨some [⟨67240447⟩, ⟨67174655⟩, ⟨67109631⟩, ⟨520028671⟩], none, none, none, none, 3, 2, 1⟩
theorem y2ct (t : Tb) : yh6 eF t eL = eU := by kernel_rfl
theorem y2rc : rdM eU 0 = (⟨4, 2, 1, 0, 0, 0, 0, [], none⟩, 1) := by kernel_rfl
theorem y27i : FnFit eF ∧ y1db eF := by
 refine ⟨⟨fun x hx => ?_, by decide, by decide, by decide, by decide⟩, fun x hx => ?_⟩
 ·have hx' : x ∈ [eI] := hx
  simp only [List.mem_cons, List.not_mem_nil, or_false] at hx'
  subst hx'
  exact ⟨by decide, by decide, by decide⟩
 ·have hx' : x ∈ [eI] := hx
  simp only [List.mem_cons, List.not_mem_nil, or_false] at hx'
  subst hx'
  decide
theorem y2hy : FnFit eZ := ⟨fun x hx => (by cases hx), by decide, by decide, by decide, by decide⟩
abbrev hE0 (o0 o1 o2 o3 o4 o5 : AO) : Heap := [o0, o1, o2, o3, o4, o5]
theorem yrg (o0 o1 o2 : AO) {r2 r3 : Ex AV} (c2 : (yd E).p 233 [.agg (enc eU), .int .i64 0] = some r2) (d2 : y72 r2 (.tup [.agg (enc (⟨4, 2, 1, 0, 0, 0, 0, [], none⟩ : Ins)), .int .i64 1])) (c3 : (yd E).p 231 [.agg (enc eZ)] = some r3) (d3 : y72 r3 (.tup [.agg (enc zU), .int .i64 80])) :
  ob (y29 0 (.tup [.agg (enc eU), .int .i64 0])) (fun v14 =>
ob (y29 1 (.tup [.agg (enc eU), .int .i64 0])) fun v15 =>
oh (newC 0 (some 3) yd7 (hE0 o0 o1 o2 D0 D0 D0)) fun v1 h5 =>
oh (evSt 8 v1 v14 h5) fun _ h6 =>
ob (evLd true 8 v1 h6) fun v17 =>
oh (yc E (yd E) 0 none true 233 [v17, .int .i64 0] h6) fun v18 h7 =>
ob (y29 0 v18) fun v19 =>
ob (y29 1 v18) fun v20 =>
oh (newC 0 (some 4) zCe h7) fun v3 h8 =>
oh (evSt 9 v3 v19 h8) fun _ h9 =>
ob (yq [.nils, .nils, .int .i64 0, .nils, .nils] []) fun v22 =>
oh (yc E (yd E) 0 none true 231 [v22] h9) fun v23 h10 =>
ob (y29 0 v23) fun v24 =>
ob (y29 1 v23) fun v25 =>
oh (newC 0 (some 5) yd7 h10) fun v5 h11 =>
oh (evSt 8 v5 v24 h11) fun _ h12 =>
ob (yb .eql v15 (.int .i64 0)) fun v27 =>
gb v27 true (evFa 6 v1) fun v29 =>
gb v27 true (evLd false 1 v29 h12) fun v30 =>
gb v27 true (yb .eql v30 (.int .i64 2)) fun v31 =>
ob (yh v27 v31 (AV.bool false)) fun v32 =>
gb v32 true (evFa 5 v1) fun v34 =>
gb v32 true (evLd false 1 v34 h12) fun v35 =>
gb v32 true (yb .eql v35 (.int .i64 3)) fun v36 =>
ob (yh v32 v36 (AV.bool false)) fun v37 =>
gb v37 true (evFa 0 v3) fun v39 =>
gb v37 true (evLd false 1 v39 h12) fun v40 =>
gb v37 true (yb .eql v40 (.int .i64 4)) fun v41 =>
ob (yh v37 v41 (AV.bool false)) fun v42 =>
gb v42 true (some v20) fun v44 =>
gb v42 true (yb .gtr v44 (.int .i64 0)) fun v45 =>
ob (yh v42 v45 (AV.bool false)) fun v46 =>
gb v46 true (some v25) fun v48 =>
gb v46 true (yb .eql v48 (.int .i64 80)) fun v49 =>
ob (yh v46 v49 (AV.bool false)) fun v50 =>
(yo h12 v50)) = some ⟨.bool true, [], true, [], []⟩ := by
 have n3 : newC 0 (some 3) yd7 (hE0 o0 o1 o2 D0 D0 D0) = some (.lp 3 1 0 0, hE0 o0 o1 o2 UB D0 D0) := rfl
 have s3 : evSt 8 (.lp 3 1 0 0) (.agg (enc eU)) (hE0 o0 o1 o2 UB D0 D0) = some (.tup [], hE0 o0 o1 o2 (BU eU) D0 D0) := ymo (n := 8) (H := hE0 o0 o1 o2 UB D0 D0) (id := 3) (g := 1) (row := yd7) (cells := enc eU) rfl rfl rfl rfl
 have l3 : evLd true 8 (.lp 3 1 0 0) (hE0 o0 o1 o2 (BU eU) D0 D0) = some (.agg (enc eU)) := rfl
 have cA := y18 (E := E) (C := yd E) (fb := 0) (f := 233) (h := hE0 o0 o1 o2 (BU eU) D0 D0) (args := [.agg (enc eU), .int .i64 0]) (fa := ⟨[.agg (enc eU), .int .i64 0], false, []⟩) rfl rfl rfl c2 d2
 have n4 : newC 0 (some 4) zCe (hE0 o0 o1 o2 (BU eU) D0 D0) = some (.lp 4 1 0 0, hE0 o0 o1 o2 (BU eU) (AX 1 zIns) D0) := rfl
 have s4 : evSt 9 (.lp 4 1 0 0) (.agg (enc (⟨4, 2, 1, 0, 0, 0, 0, [], none⟩ : Ins))) (hE0 o0 o1 o2 (BU eU) (AX 1 zIns) D0) = some (.tup [], hE0 o0 o1 o2 (BU eU) (AX 1 ⟨4, 2, 1, 0, 0, 0, 0, [], none⟩) D0) := rfl
 have bz : yq [.nils, .nils, .int .i64 0, .nils, .nils] [] = some (.agg (enc eZ)) := rfl
 have cF := y18 (E := E) (C := yd E) (fb := 0) (f := 231) (h := hE0 o0 o1 o2 (BU eU) (AX 1 ⟨4, 2, 1, 0, 0, 0, 0, [], none⟩) D0) (args := [.agg (enc eZ)]) (fa := ⟨[.agg (enc eZ)], true, []⟩) rfl rfl rfl c3 d3
 rw [y1y, y1y]
 simp only [List.getElem?_cons_zero, List.getElem?_cons_succ, y9]
 rw [n3, ye, s3, ye, l3, y9, cA, ye]
 simp only [y1y, List.getElem?_cons_zero, List.getElem?_cons_succ, y9]
 rw [n4, ye, s4, ye, bz, y9, cF, ye]
 rfl
@[simp] theorem y2dj : (yd E).p 230 [] = some ⟨.bool true, [], true, [], []⟩ := by
 obtain ⟨t, r1, _, _, _, c1, d1⟩ := yqh y27i.1 y27i.2 (by decide) y2tn (by decide) (by decide) y21w (by decide)
 rw [y2ct] at d1
 obtain ⟨r3, c3, d3⟩ := y2d0 y2hy (by decide)
 obtain ⟨r2, c2, d2⟩ := s_At (u := eU) (by
  intro w hw
  have hw' : w ∈ [(⟨67240447⟩ : Wd), ⟨67174655⟩, ⟨67109631⟩, ⟨520028671⟩] := hw
  simp only [List.mem_cons, List.not_mem_nil, or_false] at hw'
  rcases hw' with rfl | rfl | rfl | rfl <;> decide) (by decide) 0
 rw [y2rc] at d2
 have b8 : yl 0 (some 0) 1 2 [.int .i64 0] [(0, .int .i64 1), (1, .int .i64 1)] (hE0 D0 D0 D0 D0 D0 D0) = some (.ls 0 1 1 0 2, hE0 (AI 1 [1, 1]) D0 D0 D0 D0 D0) := rfl
 have b9 : yl 0 (some 1) 1 2 [.int .i64 0] [(0, .int .i64 1), (1, .int .i64 0)] (hE0 (AI 1 [1, 1]) D0 D0 D0 D0 D0) = some (.ls 1 1 1 0 2, hE0 (AI 1 [1, 1]) (AI 1 [1, 0]) D0 D0 D0 D0) := rfl
 have b10 : yq zCe [(0, 1, .int .i64 30), (2, 1, .int .i64 1)] = some (.agg (enc eI)) := rfl
 have b11 : yl 0 (some 2) 9 1 zCe [(0, .agg (enc eI))] (hE0 (AI 1 [1, 1]) (AI 1 [1, 0]) D0 D0 D0 D0) = some (.ls 2 1 9 0 1, hE0 (AI 1 [1, 1]) (AI 1 [1, 0]) ⟨1, .arr false false 9 [enc eI]⟩ D0 D0 D0) := rfl
 have b12 : yq [.nils, .nils, .int .i64 0, .nils, .nils] [(0, 1, .ls 0 1 1 0 2), (1, 1, .ls 1 1 1 0 2), (2, 1, .int .i64 1), (3, 1, .ls 2 1 9 0 1)] = some (.agg [.ls 0 1 1 0 2, .ls 1 1 1 0 2, .int .i64 1, .ls 2 1 9 0 1, .nils]) := rfl
 have hz : yv (fz (hE0 (AI 1 [1, 1]) (AI 1 [1, 0]) ⟨1, .arr false false 9 [enc eI]⟩ D0 D0 D0) y1m) [.agg [.ls 0 1 1 0 2, .ls 1 1 1 0 2, .int .i64 1, .ls 2 1 9 0 1, .nils]] = some ⟨[.agg (enc eF)], true, [0, 1, 2]⟩ := rfl
 have cG := y0j (E := E) (C := yd E) (fb := 0) (f := 231) rfl hz c1 d1
 rw [y2rp, show ([⟨0, .dead⟩, ⟨0, .dead⟩, ⟨0, .dead⟩, ⟨0, .dead⟩, ⟨0, .dead⟩, ⟨0, .dead⟩] : Heap) = hE0 D0 D0 D0 D0 D0 D0 from rfl, y2cx, b8, ye, b9, ye, b10, y9, b11, ye, b12, y9, cG, ye]
 cases r1.fresh with
 | true => exact yrg _ _ _ c2 d2 c3 d3
 | false =>
  have ef : y1e [0, 1, 2] (hE0 (AI 1 [1, 1]) (AI 1 [1, 0]) ⟨1, .arr false false 9 [enc eI]⟩ D0 D0 D0) = hE0 ⟨1, .arr false true 1 [[.int .i64 1], [.int .i64 1]]⟩ ⟨1, .arr false true 1 [[.int .i64 1], [.int .i64 0]]⟩ ⟨1, .arr false true 9 [enc eI]⟩ D0 D0 D0 := rfl
  simp only [z1x, List.isEmpty_cons, zp, if_false]
  rw [ef]
  exact yrg _ _ _ c2 d2 c3 d3
end Go.Vm
namespace Go.Vm
open Cel
theorem yjb (n : Nat) (h : n < 4294967296) : (BitVec.ofInt 32 (n : Int)).toNat = n := by
 rw [BitVec.toNat_ofInt]
 have e : ((2 ^ 32 : Nat) : Int) = 4294967296 := by decide
 rw [e]
 omega
theorem y1eg {a b k : Nat} (hb : b < 2 ^ k) (h : 2 ^ k * a + b < 4294967296) : orU ((2 ^ k * a : Nat) : Int) (b : Nat) = ((2 ^ k * a + b : Nat) : Int) := by
 unfold orU
 rw [BitVec.toNat_or, yjb _ (by omega), yjb _ (by omega), ← Nat.two_pow_add_eq_or_of_lt hb a, yqa (by omega) (by omega)]
theorem ytj {n k : Nat} (h : n * 2 ^ k < 4294967296) : shlU (n : Int) k = ((n * 2 ^ k : Nat) : Int) := by
 unfold shlU
 rw [yqa (by have : (0 : Int) ≤ 2 ^ k := Int.pow_nonneg (by decide); exact Int.mul_nonneg (by omega) this) (by
  have : ((n : Int) * 2 ^ k) = ((n * 2 ^ k : Nat) : Int) := by push_cast; rfl
  rw [this]; omega)]
 push_cast
 rfl
theorem y21u {n : Nat} (h : n < 4294967296) : andU (n : Int) 255 = ((n % 256 : Nat) : Int) := by
 unfold andU
 rw [BitVec.toNat_and, yjb _ h, show (BitVec.ofInt 32 255).toNat = 2 ^ 8 - 1 from rfl, Nat.and_two_pow_sub_one_eq_mod, yqa (by omega) (by omega)]
def y4h (r : Int) : Prop := -1 ≤ r ∧ r ≤ 249
theorem yhb {r : Int} (h : y4h r) : ∃ n : Nat, n < 256 ∧ regU r = (n : Int) ∧ (if (n : Int) = 255 then -1 else (n : Int)) = r := by
 unfold y4h at h
 unfold regU
 by_cases h0 : r < 0
 ·exact ⟨255, by decide, by rw [if_pos h0]; rfl, by simp; omega⟩
 ·refine ⟨r.toNat, by omega, ?_, ?_⟩
  ·rw [if_neg h0, yqa (by omega) (by omega)]
   omega
  ·rw [if_neg (by omega)]
   omega
theorem y1wo {x : Ins} (o0 : 0 ≤ x.op) (o1 : x.op ≤ 33) {d a b : Nat} (hd : d < 256) (ha : a < 256) (hb : b < 256) (ed : regU (defr x) = d) (ea : regU (on1M x 0) = a) (eb : regU (on1M x 1) = b) :
  y2r x = ((x.op.toNat * 16777216 + d * 65536 + a * 256 + b : Nat) : Int) := by
 obtain ⟨o, eo⟩ : ∃ o : Nat, x.op = o := ⟨x.op.toNat, by omega⟩
 unfold y2r
 rw [ed, ea, eb, eo, yqa (by omega) (by omega)]
 have h24 : (2 : Nat) ^ 24 = 16777216 := by decide
 have h16 : (2 : Nat) ^ 16 = 65536 := by decide
 have h8 : (2 : Nat) ^ 8 = 256 := by decide
 rw [ytj (n := o) (k := 24) (by rw [h24]; omega), ytj (n := d) (k := 16) (by rw [h16]; omega), ytj (n := a) (k := 8) (by rw [h8]; omega)]
 have e1 := y1eg (a := o) (b := d * 2 ^ 16) (k := 24) (by rw [h16, h24]; omega) (by rw [h16, h24]; omega)
 rw [z3l o, e1]
 have e2 := y1eg (a := 256 * o + d) (b := a * 2 ^ 8) (k := 16) (by rw [h16, h8]; omega) (by rw [h16, h8]; omega)
 rw [show 2 ^ 24 * o + d * 2 ^ 16 = 2 ^ 16 * (256 * o + d) by rw [h24, h16]; omega, e2]
 have e3 := y1eg (a := 256 * (256 * o + d) + a) (b := b) (k := 8) (by rw [h8]; exact hb) (by rw [h8]; omega)
 rw [show 2 ^ 16 * (256 * o + d) + a * 2 ^ 8 = 2 ^ 8 * (256 * (256 * o + d) + a) by rw [h16, h8]; omega, e3, h8]
 have : ((o : Int)).toNat = o := by omega
 rw [this]
 congr 1
 omega
theorem ynb (n k : Nat) : shrU (n : Int) k = ((n / 2 ^ k : Nat) : Int) := by
 unfold shrU
 have : ((2 : Int) ^ k) = ((2 ^ k : Nat) : Int) := by push_cast; rfl
 rw [this, z2t _ (Int.natCast_nonneg _)]
 rfl
theorem yhj {n : Nat} (h : n < 4294967296) : y8c (n : Int) = if ((n % 256 : Nat) : Int) = 255 then -1 else ((n % 256 : Nat) : Int) := by
 unfold y8c
 rw [y21u h]
theorem q3a {o d : Nat} (a : Nat) (ho : o ≤ 33) (hd : d < 256) (ha : a < 256) : o * 256 + d < 4294967296 ∧ o * 65536 + d * 256 + a < 4294967296 := by omega
theorem m256 (q d : Nat) (h : d < 256) : (q * 256 + d) % 256 = d := by omega
theorem y13o {x : Ins} (o0 : 0 ≤ x.op) (o1 : x.op ≤ 33) (hd : y4h (defr x)) (ha : y4h (on1M x 0)) (hb : y4h (on1M x 1)) :
  0 ≤ y2r x ∧ y2r x < 4294967296 ∧ shrU (y2r x) 24 = x.op ∧ y8c (shrU (y2r x) 16) = defr x ∧ y8c (shrU (y2r x) 8) = on1M x 0 ∧ y8c (y2r x) = on1M x 1 := by
 obtain ⟨d, d1, d2, d3⟩ := yhb hd
 obtain ⟨a, a1, a2, a3⟩ := yhb ha
 obtain ⟨b, b1, b2, b3⟩ := yhb hb
 obtain ⟨o, eo⟩ : ∃ o : Nat, x.op = o := ⟨x.op.toNat, by omega⟩
 have e := y1wo o0 o1 d1 a1 b1 d2 a2 b2
 have eo' : x.op.toNat = o := by omega
 have ho : o ≤ 33 := by omega
 rw [eo'] at e
 have hlt : o * 16777216 + d * 65536 + a * 256 + b < 4294967296 := by omega
 have h24 : (2 : Nat) ^ 24 = 16777216 := by decide
 have h16 : (2 : Nat) ^ 16 = 65536 := by decide
 have h8 : (2 : Nat) ^ 8 = 256 := by decide
 rw [e]
 refine ⟨by omega, by omega, ?_, ?_, ?_, ?_⟩
 ·rw [ynb, eo, h24]; omega
 ·rw [ynb, h16]
  clear h24 h16 h8
  have q3 := (q3a a ho d1 a1).1
  have q1 : (o * 16777216 + d * 65536 + a * 256 + b) / 65536 = o * 256 + d := by omega
  have q2 : (o * 256 + d) % 256 = d := m256 o d d1
  rw [q1, yhj q3, q2, d3]
 ·rw [ynb, h8]
  clear h24 h16 h8
  have q3 := (q3a a ho d1 a1).2
  have q1 : (o * 16777216 + d * 65536 + a * 256 + b) / 256 = o * 65536 + d * 256 + a := by omega
  have q2 : (o * 65536 + d * 256 + a) % 256 = a := by rw [show o * 65536 + d * 256 + a = (o * 256 + d) * 256 + a by omega]; exact m256 _ _ a1
  rw [q1, yhj q3, q2, a3]
 ·rw [yhj (by omega), show (o * 16777216 + d * 65536 + a * 256 + b) % 256 = b by omega, b3]
theorem yxa {x : Ins} (o0 : 0 ≤ x.op) (o1 : x.op ≤ 33) (hd : y4h (defr x)) (ha : y4h (on1M x 0)) (hb : y4h (on1M x 1)) :
  rd0 (y2r x) = { op := x.op, d := if 0 ≤ defr x ∨ calls x.op = true then defr x else 0, a := if 0 ≤ on1M x 0 ∨ x.op = 30 then on1M x 0 else 0, b := if 0 ≤ on1M x 1 ∨ x.op = 29 then on1M x 1 else 0, c := 0, n := 0, t := 0, s := [], args := none } := by
 obtain ⟨_, _, h1, h2, h3, h4⟩ := y13o o0 o1 hd ha hb
 unfold rd0
 rw [h1, h2, h3, h4]
end Go.Vm
