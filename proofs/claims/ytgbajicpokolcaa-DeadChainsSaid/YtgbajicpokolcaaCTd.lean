/- live.Of: one round of the loop that makes the table. live.Of: what it answers. What 'kinds' answers. What 'other' answers; all of 'kinds'. Whether one instruction is well formed: 'right'. 'right', whole. Whether a function is well formed: 'Check': its lists of registers, parameters, rows. live.Of: what it answers. Which instructions do nothing but write. dead.Pass on the machine. Whether two lists of numbers are the same. Whether two lists of numbers, two instructions are the same; a number in a list. Whether two functions are the same. What the document says that the stack's instructions over numbers take and give. The document's answers for single operations: numbers in a list, ways, ends. The document's table of operations. -/
import Derived.Test.YtgbajicpokolcaaCX
import Derived.Test.YtgbajicpokolcaaCTc
set_option linter.unusedSimpArgs false
set_option linter.unusedVariables false
set_option linter.unusedSectionVars false
namespace Go.Vm
open Cel
theorem yh6 {H : Heap} {a b c d v : AV} (h : H[1]? = some ⟨1, .arr true false 4 [[a, b, c, d]]⟩) (hv : cellsOf v = [v]) (hl : y11 v = true) :
    evSt 1 (.lp 1 1 0 0) v H = some (.tup [], H.set 1 ⟨1, .arr true false 4 [[v, b, c, d]]⟩) ∧ evSt 1 (.lp 1 1 0 1) v H = some (.tup [], H.set 1 ⟨1, .arr true false 4 [[a, v, c, d]]⟩) ∧ evSt 1 (.lp 1 1 0 2) v H = some (.tup [], H.set 1 ⟨1, .arr true false 4 [[a, b, v, d]]⟩) := by
  have hr : ym H 1 1 = some (false, 4, [[a, b, c, d]]) := by simp [ym, y2z, h]
  refine ⟨?_, ?_, ?_⟩ <;> (rw [y2o, hr]; simp [hv, hl, yt, y1r, h])
theorem yh2 {H : Heap} {a b c d : AV} (h : H[1]? = some ⟨1, .arr true false 4 [[a, b, c, d]]⟩) : evLd false 1 (.lp 1 1 0 0) H = some a ∧ evLd false 1 (.lp 1 1 0 1) H = some b ∧ evLd false 1 (.lp 1 1 0 2) H = some c := by
  have hr : ym H 1 1 = some (false, 4, [[a, b, c, d]]) := by simp [ym, y2z, h]
  refine ⟨?_, ?_, ?_⟩ <;> (rw [y2n, hr]; rfl)
set_option maxHeartbeats 4000000 in
theorem round {f : Fn} {P : Plc} {Q : Arr} {H : Heap} {m : Nat} (R : BRep f P Q H m) (hm : 0 < m) (hl : m ≤ 1000000) (hR : (lst f.regs).length ≤ 1000000) (v32 v33 : AV) :
    ∃ H' P' Q', yj1 (.lp 0 1 0 0) (.int .i64 (lst f.code).length) (.int .i64 (((lst f.regs).length / 64 + 1 : Nat) : Int)) (.lp 1 1 0 0) v32 v33 H = yhl (.lp 0 1 0 0) (.int .i64 (lst f.code).length) (.int .i64 (((lst f.regs).length / 64 + 1 : Nat) : Int)) (.lp 1 1 0 0) v32 v33 H' ∧ BRep f P' Q' H' (m + 1) := by
  simp only [yj1]
  have hz : ¬ m = 0 := by omega
  have nc : ∀ a b c d, y1e (.lp a b c d) = some (.lp a b c d) := fun _ _ _ _ => rfl
  have hW : (lst f.regs).length / 64 + 1 ≤ 1000000 := by omega
  generalize hWW : (lst f.regs).length / 64 + 1 = W at *
  have tb := R.tb
  simp only [fv, if_neg hz] at tb
  have a0 := R.arr hm 0 (by omega)
  have a1 := R.arr hm 1 (by omega)
  have a2 := R.arr hm 2 (by omega)
  rw [hWW] at a0 a1 a2
  have b0 := y82 a0
  have b1 := y82 a1
  have b2 := y82 a2
  have f0 := R.farQ hm 0 (by omega)
  have f1 := R.farQ hm 1 (by omega)
  have f2 := R.farQ hm 2 (by omega)
  have n01 : ¬ (Q 0).1 = (Q 1).1 := fun e => by have := R.injQ hm 0 1 (by omega) (by omega) e; omega
  have n02 : ¬ (Q 0).1 = (Q 2).1 := fun e => by have := R.injQ hm 0 2 (by omega) (by omega) e; omega
  have n12 : ¬ (Q 1).1 = (Q 2).1 := fun e => by have := R.injQ hm 1 2 (by omega) (by omega) e; omega
  have hB := R.size
  have hd : ∀ j, j < 9 → (H ++ yl 9)[H.length + j]? = some ⟨0, .dead⟩ := fun j hj => y2bm hj
  have ho : ∀ b, b < H.length → (H ++ yl 9)[b]? = H[b]? := fun b hb => y2c6 hb
  have hlen : (H ++ yl 9).length = H.length + 9 := by simp [yl]
  have rl : ∀ p, (rws W m p).length = m := fun p => by simp [rws]
  have row := R.row
  have box := R.box
  generalize hBB : H.length = B at *
  generalize H ++ yl 9 = A0 at *
  have t0 : A0[1]? = some ⟨1, .arr true false 4 [[.ls (Q 0).1 (Q 0).2 1 0 m, .ls (Q 1).1 (Q 1).2 1 0 m, .ls (Q 2).1 (Q 2).2 1 0 m, .int .i64 (lst f.regs).length]]⟩ := by rw [ho 1 (by omega)]; exact tb
  have l0 := (yh2 t0).1
  -- first list
  have m0 := ych (Hc := A0) (B := B) (j := 0) (W := W) (hd 0 (by omega)) hW
  generalize hA1 : A0.set (B + 0) (AW 1 (y21 W)) = A1 at *
  have o0 := y92 (Hc := A1) (B := B) (j := 1) (v := .ls (B + 0) 1 1 0 W) rfl rfl (by rw [← hA1, y16 (by omega)]; exact hd 1 (by omega))
  generalize hA2 : A1.set (B + 1) ⟨1, .arr false false 1 [[.ls (B + 0) 1 1 0 W]]⟩ = A2 at *
  have p0 := yk9 (Hc := A2) (B := B) (j := 2) (id := B + 1) (m := m) (qa := (Q 0).1) (qg := (Q 0).2) (rows := rws W m (P 0)) (by rw [← hA2, y4e (by rw [← hA1, List.length_set]; omega)]) (by rw [← hA2, ← hA1, y16 (by omega), y16 (by omega), ho _ b0]; exact a0) (rl _) hl
  rw [← yka] at p0
  generalize hA3 : A2.set (Q 0).1 ⟨(Q 0).2 + 1, .arr false false 1 (rws W (m + 1) (nP B 0 m (P 0)))⟩ = A3 at *
  have t3 : A3[1]? = A0[1]? := by rw [← hA3, ← hA2, ← hA1]; repeat rw [y16 (by omega)]
  rw [t0] at t3
  have l1 := (yh2 t3).2.1
  -- second list
  have d3 : ∀ j, 2 < j → j < 9 → A3[B + j]? = some ⟨0, .dead⟩ := fun j h1 h2 => by
    rw [← hA3, ← hA2, ← hA1]; repeat rw [y16 (by omega)]
    exact hd j h2
  have q3 : ∀ b, b < B → b ≠ (Q 0).1 → A3[b]? = H[b]? := fun b hb hne => by
    rw [← hA3, ← hA2, ← hA1]; repeat rw [y16 (by omega)]
    exact ho b hb
  have g3 : A3.length = B + 9 := by rw [← hA3, ← hA2, ← hA1]; simp only [List.length_set]; exact hlen
  have m1 := ych (Hc := A3) (B := B) (j := 3) (W := W) (d3 3 (by omega) (by omega)) hW
  generalize hA4 : A3.set (B + 3) (AW 1 (y21 W)) = A4 at *
  have o1 := y92 (Hc := A4) (B := B) (j := 4) (v := .ls (B + 3) 1 1 0 W) rfl rfl (by rw [← hA4, y16 (by omega)]; exact d3 4 (by omega) (by omega))
  generalize hA5 : A4.set (B + 4) ⟨1, .arr false false 1 [[.ls (B + 3) 1 1 0 W]]⟩ = A5 at *
  have p1 := yk9 (Hc := A5) (B := B) (j := 5) (id := B + 4) (m := m) (qa := (Q 1).1) (qg := (Q 1).2) (rows := rws W m (P 1)) (by rw [← hA5, y4e (by rw [← hA4, List.length_set]; omega)]) (by rw [← hA5, ← hA4, y16 (by omega), y16 (by omega), q3 _ b1 (fun e => n01 e.symm)]; exact a1) (rl _) hl
  rw [← yka] at p1
  generalize hA6 : A5.set (Q 1).1 ⟨(Q 1).2 + 1, .arr false false 1 (rws W (m + 1) (nP B 3 m (P 1)))⟩ = A6 at *
  have t6 : A6[1]? = A3[1]? := by rw [← hA6, ← hA5, ← hA4]; repeat rw [y16 (by omega)]
  rw [t3] at t6
  have l2 := (yh2 t6).2.2
  have d6 : ∀ j, 5 < j → j < 9 → A6[B + j]? = some ⟨0, .dead⟩ := fun j h1 h2 => by
    rw [← hA6, ← hA5, ← hA4]; repeat rw [y16 (by omega)]
    exact d3 j (by omega) h2
  have q6 : ∀ b, b < B → b ≠ (Q 0).1 → b ≠ (Q 1).1 → A6[b]? = H[b]? := fun b hb hne hne2 => by
    rw [← hA6, ← hA5, ← hA4]; repeat rw [y16 (by omega)]
    exact q3 b hb hne
  have g6 : A6.length = B + 9 := by rw [← hA6, ← hA5, ← hA4]; simp only [List.length_set]; exact g3
  have m2 := ych (Hc := A6) (B := B) (j := 6) (W := W) (d6 6 (by omega) (by omega)) hW
  generalize hA7 : A6.set (B + 6) (AW 1 (y21 W)) = A7 at *
  have o2 := y92 (Hc := A7) (B := B) (j := 7) (v := .ls (B + 6) 1 1 0 W) rfl rfl (by rw [← hA7, y16 (by omega)]; exact d6 7 (by omega) (by omega))
  generalize hA8 : A7.set (B + 7) ⟨1, .arr false false 1 [[.ls (B + 6) 1 1 0 W]]⟩ = A8 at *
  have p2 := yk9 (Hc := A8) (B := B) (j := 8) (id := B + 7) (m := m) (qa := (Q 2).1) (qg := (Q 2).2) (rows := rws W m (P 2)) (by rw [← hA8, y4e (by rw [← hA7, List.length_set]; omega)]) (by rw [← hA8, ← hA7, y16 (by omega), y16 (by omega), q6 _ b2 (fun e => n02 e.symm) (fun e => n12 e.symm)]; exact a2) (rl _) hl
  rw [← yka] at p2
  generalize hA9 : A8.set (Q 2).1 ⟨(Q 2).2 + 1, .arr false false 1 (rws W (m + 1) (nP B 6 m (P 2)))⟩ = A9 at *
  have t9 : A9[1]? = A6[1]? := by rw [← hA9, ← hA8, ← hA7]; repeat rw [y16 (by omega)]
  rw [t6] at t9
  have g9 : A9.length = B + 9 := by rw [← hA9, ← hA8, ← hA7]; simp only [List.length_set]; exact g6
  have x0 := (yh6 (v := .ls (Q 0).1 ((Q 0).2 + 1) 1 0 (m + 1)) t9 rfl rfl).1
  have x1 := (yh6 (H := A9.set 1 ⟨1, .arr true false 4 [[.ls (Q 0).1 ((Q 0).2 + 1) 1 0 (m + 1), .ls (Q 1).1 (Q 1).2 1 0 m, .ls (Q 2).1 (Q 2).2 1 0 m, .int .i64 (lst f.regs).length]]⟩) (v := .ls (Q 1).1 ((Q 1).2 + 1) 1 0 (m + 1)) (y4e (by omega)) rfl rfl).2.1
  rw [List.set_set] at x1
  have x2 := (yh6 (H := A9.set 1 ⟨1, .arr true false 4 [[.ls (Q 0).1 ((Q 0).2 + 1) 1 0 (m + 1), .ls (Q 1).1 ((Q 1).2 + 1) 1 0 (m + 1), .ls (Q 2).1 (Q 2).2 1 0 m, .int .i64 (lst f.regs).length]]⟩) (v := .ls (Q 2).1 ((Q 2).2 + 1) 1 0 (m + 1)) (y4e (by omega)) rfl rfl).2.2
  rw [List.set_set] at x2
  refine ⟨A9.set 1 ⟨1, .arr true false 4 [[.ls (Q 0).1 ((Q 0).2 + 1) 1 0 (m + 1), .ls (Q 1).1 ((Q 1).2 + 1) 1 0 (m + 1), .ls (Q 2).1 ((Q 2).2 + 1) 1 0 (m + 1), .int .i64 (lst f.regs).length]]⟩, fun k => nP B (3 * k) m (P k), fun k => ((Q k).1, (Q k).2 + 1), ?_, ?_⟩
  · have z : ∀ k c, k < 3 → (Q k).1 ≠ B + c := fun k c hk => by
      match k, hk with
      | 0, _ => omega
      | 1, _ => omega
      | 2, _ => omega
    simp only [nc, y9, y1c, Nat.zero_add, l0, m0, yr, o0, p0, l1, m1, o1, p1, l2, m2, o2, p2, x0, x1, x2, y1wm, y1zj]
    have z0 : ∀ c, ¬ (Q 0).1 = B + c := fun c => z 0 c (by omega)
    have z1 : ∀ c, ¬ (Q 1).1 = B + c := fun c => z 1 c (by omega)
    have z2 : ∀ c, ¬ (Q 2).1 = B + c := fun c => z 2 c (by omega)
    have y0 : ∀ c, ¬ B + c = (Q 0).1 := fun c e => z 0 c (by omega) e.symm
    have y1 : ∀ c, ¬ B + c = (Q 1).1 := fun c e => z 1 c (by omega) e.symm
    have y2 : ∀ c, ¬ B + c = (Q 2).1 := fun c e => z 2 c (by omega) e.symm
    have w0 : ∀ c, ¬ 1 = B + c := fun c => by omega
    have w1 : ∀ c, ¬ B + c = 1 := fun c => by omega
    have u0 : ¬ (Q 0).1 = 1 := by omega
    have u1 : ¬ (Q 1).1 = 1 := by omega
    have u2 : ¬ (Q 2).1 = 1 := by omega
    have z0' := z0 0
    have z1' := z1 0
    have z2' := z2 0
    have hB1 : ¬ 1 = B := by omega
    have hB0 : ¬ B = 0 := by omega
    have hB2 : ¬ B = 1 := by omega
    rw [Nat.add_zero] at z0' z1' z2'
    have y0' : ¬ B = (Q 0).1 := fun e => z0' e.symm
    have y1' : ¬ B = (Q 1).1 := fun e => z1' e.symm
    have y2' : ¬ B = (Q 2).1 := fun e => z2' e.symm
    have u0' : ¬ 1 = (Q 0).1 := fun e => u0 e.symm
    have u1' : ¬ 1 = (Q 1).1 := fun e => u1 e.symm
    have u2' : ¬ 1 = (Q 2).1 := fun e => u2 e.symm
    have n10 : ¬ (Q 1).1 = (Q 0).1 := fun e => n01 e.symm
    have n20 : ¬ (Q 2).1 = (Q 0).1 := fun e => n02 e.symm
    have n21 : ¬ (Q 2).1 = (Q 1).1 := fun e => n12 e.symm
    simp [y12, y2e, meets, z0, z1, z2, y0, y1, y2, w0, w1, u0, u1, u2, u0', u1', u2', z0', z1', z2', y0', y1', y2', hB0, hB1, hB2, n01, n02, n12, n10, n20, n21]
  · have q9 : ∀ b, b < B → b ≠ (Q 0).1 → b ≠ (Q 1).1 → b ≠ (Q 2).1 → A9[b]? = H[b]? := fun b hb h0 h1 h2 => by
      rw [← hA9, ← hA8, ← hA7]; repeat rw [y16 (by omega)]
      exact q6 b hb h0 h1
    have l1' : A1.length = B + 9 := by rw [← hA1, List.length_set]; exact hlen
    have l2' : A2.length = B + 9 := by rw [← hA2, List.length_set]; exact l1'
    have l4' : A4.length = B + 9 := by rw [← hA4, List.length_set]; exact g3
    have l5' : A5.length = B + 9 := by rw [← hA5, List.length_set]; exact l4'
    have l7' : A7.length = B + 9 := by rw [← hA7, List.length_set]; exact g6
    have l8' : A8.length = B + 9 := by rw [← hA8, List.length_set]; exact l7'
    have rQ0 : A9[(Q 0).1]? = some ⟨(Q 0).2 + 1, .arr false false 1 (rws W (m + 1) (nP B 0 m (P 0)))⟩ := by
      rw [← hA9, ← hA8, ← hA7, ← hA6, ← hA5, ← hA4, ← hA3]
      rw [y16 (by omega), y16 (by omega), y16 (by omega), y16 (by omega), y16 (by omega), y16 (by omega), y4e (by omega)]
    have rQ1 : A9[(Q 1).1]? = some ⟨(Q 1).2 + 1, .arr false false 1 (rws W (m + 1) (nP B 3 m (P 1)))⟩ := by
      rw [← hA9, ← hA8, ← hA7, ← hA6]
      rw [y16 (by omega), y16 (by omega), y16 (by omega), y4e (by omega)]
    have rQ2 : A9[(Q 2).1]? = some ⟨(Q 2).2 + 1, .arr false false 1 (rws W (m + 1) (nP B 6 m (P 2)))⟩ := by
      rw [← hA9, y4e (by omega)]
    have rB0 : A9[B + 0]? = some (AW 1 (y21 W)) := by
      rw [← hA9, ← hA8, ← hA7, ← hA6, ← hA5, ← hA4, ← hA3, ← hA2, ← hA1]
      rw [y16 (by omega), y16 (by omega), y16 (by omega), y16 (by omega), y16 (by omega), y16 (by omega), y16 (by omega), y16 (by omega), y4e (by omega)]
    have rB3 : A9[B + 3]? = some (AW 1 (y21 W)) := by
      rw [← hA9, ← hA8, ← hA7, ← hA6, ← hA5, ← hA4]
      rw [y16 (by omega), y16 (by omega), y16 (by omega), y16 (by omega), y16 (by omega), y4e (by omega)]
    have rB6 : A9[B + 6]? = some (AW 1 (y21 W)) := by
      rw [← hA9, ← hA8, ← hA7]
      rw [y16 (by omega), y16 (by omega), y4e (by omega)]
    have pB : ∀ k i, k < 3 → i < m → (P k i).1 < B := fun k i hk hi => by rw [← hBB]; exact y82 (row k hk i hi)
    have qB : ∀ k, k < 3 → (Q k).1 < B := fun k hk => by
      match k, hk with
      | 0, _ => exact b0
      | 1, _ => exact b1
      | 2, _ => exact b2
    have ne1 : ∀ k, k < 3 → (Q k).1 ≠ 1 := fun k hk => by have := R.farQ hm k hk; omega
    refine ⟨?_, ?_, fun _ k hk => ?_, fun k hk i hi => ?_, fun k k' i i' hk hk' hi hi' he => ?_, fun k k' i hk hk' hi => ?_, fun k i hk hi => ?_, fun _ k hk => R.farQ hm k hk, fun _ k k' hk hk' he => R.injQ hm k k' hk hk' he, ?_⟩
    · rw [y16 (by omega), q9 0 (by omega) (by omega) (by omega) (by omega)]; exact box
    · rw [y4e (by omega)]
      simp only [fv, if_neg (Nat.succ_ne_zero m)]
    · rw [hWW, y16 (fun e => ne1 k hk e.symm)]
      match k, hk with
      | 0, _ => exact rQ0
      | 1, _ => exact rQ1
      | 2, _ => exact rQ2
    · rw [hWW]
      by_cases e : i = m
      · simp only [nP, if_pos e]
        rw [y16 (by omega)]
        match k, hk with
        | 0, _ => exact rB0
        | 1, _ => exact rB3
        | 2, _ => exact rB6
      · have hi' : i < m := by omega
        simp only [nP, if_neg e]
        have h3 := R.farP k i hk hi'
        rw [y16 (by omega), q9 _ (pB k i hk hi') (R.off k 0 i hk (by omega) hi') (R.off k 1 i hk (by omega) hi') (R.off k 2 i hk (by omega) hi')]
        have := row k hk i hi'
        rw [hWW] at this
        exact this
    · simp only [nP] at he
      split at he <;> split at he
      · rename_i e e'
        simp only at he
        exact ⟨by omega, by omega⟩
      · rename_i e e'
        have := pB k' i' hk' (by omega)
        simp only at he
        omega
      · rename_i e e'
        have := pB k i hk (by omega)
        simp only at he
        omega
      · exact R.inj k k' i i' hk hk' (by omega) (by omega) he
    · simp only [nP]
      split
      · have := qB k' hk'
        simp only
        omega
      · exact R.off k k' i hk hk' (by omega)
    · simp only [nP]
      split
      · simp only; omega
      · exact R.farP k i hk (by omega)
    · rw [List.length_set]; omega
end Go.Vm
namespace Go.Vm
open Cel
def HB0 (f : Fn) : Heap := [AB f, ⟨1, .arr true false 4 [[.nils, .nils, .nils, .int .i64 (lst f.regs).length]]⟩, D0]
def HB1 (f : Fn) (W : Nat) : Heap := [AB f, ⟨1, .arr true false 4 [[.ls 5 1 1 0 1, .ls 8 1 1 0 1, .ls 11 1 1 0 1, .int .i64 (lst f.regs).length]]⟩, D0,
  AW 1 (y21 W), ⟨1, .arr false false 1 [[.ls 3 1 1 0 W]]⟩, ⟨1, .arr false false 1 [[.ls 3 1 1 0 W]]⟩,
  AW 1 (y21 W), ⟨1, .arr false false 1 [[.ls 6 1 1 0 W]]⟩, ⟨1, .arr false false 1 [[.ls 6 1 1 0 W]]⟩,
  AW 1 (y21 W), ⟨1, .arr false false 1 [[.ls 9 1 1 0 W]]⟩, ⟨1, .arr false false 1 [[.ls 9 1 1 0 W]]⟩]
theorem first (f : Fn) (v3 v32 v33 : AV) {W : Nat} (hW : W ≤ 1000000) :
    yj1 (.lp 0 1 0 0) v3 (.int .i64 (W : Int)) (.lp 1 1 0 0) v32 v33 (HB0 f) = yhl (.lp 0 1 0 0) v3 (.int .i64 (W : Int)) (.lp 1 1 0 0) v32 v33 (HB1 f W) := by
  have e0 : HB0 f ++ yl 9 = [AB f, ⟨1, .arr true false 4 [[.nils, .nils, .nils, .int .i64 (lst f.regs).length]]⟩, D0, D0, D0, D0, D0, D0, D0, D0, D0, D0] := rfl
  have el : (HB0 f).length = 3 := rfl
  have nc : ∀ a b c d, y1e (.lp a b c d) = some (.lp a b c d) := fun _ _ _ _ => rfl
  have m0 := ych (Hc := [AB f, ⟨1, .arr true false 4 [[.nils, .nils, .nils, .int .i64 (lst f.regs).length]]⟩, D0, D0, D0, D0, D0, D0, D0, D0, D0, D0]) (B := 3) (j := 0) (W := W) rfl hW
  have o0 := y92 (Hc := [AB f, ⟨1, .arr true false 4 [[.nils, .nils, .nils, .int .i64 (lst f.regs).length]]⟩, D0, AW 1 (y21 W), D0, D0, D0, D0, D0, D0, D0, D0]) (B := 3) (j := 1) (v := .ls 3 1 1 0 W) rfl rfl rfl
  have p0 := ye6 (Hc := [AB f, ⟨1, .arr true false 4 [[.nils, .nils, .nils, .int .i64 (lst f.regs).length]]⟩, D0, AW 1 (y21 W), ⟨1, .arr false false 1 [[.ls 3 1 1 0 W]]⟩, D0, D0, D0, D0, D0, D0, D0]) (B := 3) (j := 2) (id := 4) (W := W) (r := [.ls 3 1 1 0 W]) rfl rfl
  simp only [Nat.reduceAdd, List.set_cons_succ, List.set_cons_zero] at m0 o0 p0
  have m1 := ych (Hc := [AB f, ⟨1, .arr true false 4 [[.nils, .nils, .nils, .int .i64 (lst f.regs).length]]⟩, D0, AW 1 (y21 W), ⟨1, .arr false false 1 [[.ls 3 1 1 0 W]]⟩, ⟨1, .arr false false 1 [[.ls 3 1 1 0 W]]⟩, D0, D0, D0, D0, D0, D0]) (B := 3) (j := 3) (W := W) rfl hW
  have o1 := y92 (Hc := [AB f, ⟨1, .arr true false 4 [[.nils, .nils, .nils, .int .i64 (lst f.regs).length]]⟩, D0, AW 1 (y21 W), ⟨1, .arr false false 1 [[.ls 3 1 1 0 W]]⟩, ⟨1, .arr false false 1 [[.ls 3 1 1 0 W]]⟩, AW 1 (y21 W), D0, D0, D0, D0, D0]) (B := 3) (j := 4) (v := .ls 6 1 1 0 W) rfl rfl rfl
  have p1 := ye6 (Hc := [AB f, ⟨1, .arr true false 4 [[.nils, .nils, .nils, .int .i64 (lst f.regs).length]]⟩, D0, AW 1 (y21 W), ⟨1, .arr false false 1 [[.ls 3 1 1 0 W]]⟩, ⟨1, .arr false false 1 [[.ls 3 1 1 0 W]]⟩, AW 1 (y21 W), ⟨1, .arr false false 1 [[.ls 6 1 1 0 W]]⟩, D0, D0, D0, D0]) (B := 3) (j := 5) (id := 7) (W := W) (r := [.ls 6 1 1 0 W]) rfl rfl
  simp only [Nat.reduceAdd, List.set_cons_succ, List.set_cons_zero] at m1 o1 p1
  have m2 := ych (Hc := [AB f, ⟨1, .arr true false 4 [[.nils, .nils, .nils, .int .i64 (lst f.regs).length]]⟩, D0, AW 1 (y21 W), ⟨1, .arr false false 1 [[.ls 3 1 1 0 W]]⟩, ⟨1, .arr false false 1 [[.ls 3 1 1 0 W]]⟩, AW 1 (y21 W), ⟨1, .arr false false 1 [[.ls 6 1 1 0 W]]⟩, ⟨1, .arr false false 1 [[.ls 6 1 1 0 W]]⟩, D0, D0, D0]) (B := 3) (j := 6) (W := W) rfl hW
  have o2 := y92 (Hc := [AB f, ⟨1, .arr true false 4 [[.nils, .nils, .nils, .int .i64 (lst f.regs).length]]⟩, D0, AW 1 (y21 W), ⟨1, .arr false false 1 [[.ls 3 1 1 0 W]]⟩, ⟨1, .arr false false 1 [[.ls 3 1 1 0 W]]⟩, AW 1 (y21 W), ⟨1, .arr false false 1 [[.ls 6 1 1 0 W]]⟩, ⟨1, .arr false false 1 [[.ls 6 1 1 0 W]]⟩, AW 1 (y21 W), D0, D0]) (B := 3) (j := 7) (v := .ls 9 1 1 0 W) rfl rfl rfl
  have p2 := ye6 (Hc := [AB f, ⟨1, .arr true false 4 [[.nils, .nils, .nils, .int .i64 (lst f.regs).length]]⟩, D0, AW 1 (y21 W), ⟨1, .arr false false 1 [[.ls 3 1 1 0 W]]⟩, ⟨1, .arr false false 1 [[.ls 3 1 1 0 W]]⟩, AW 1 (y21 W), ⟨1, .arr false false 1 [[.ls 6 1 1 0 W]]⟩, ⟨1, .arr false false 1 [[.ls 6 1 1 0 W]]⟩, AW 1 (y21 W), ⟨1, .arr false false 1 [[.ls 9 1 1 0 W]]⟩, D0]) (B := 3) (j := 8) (id := 10) (W := W) (r := [.ls 9 1 1 0 W]) rfl rfl
  simp only [Nat.reduceAdd, List.set_cons_succ, List.set_cons_zero] at m2 o2 p2
  have l0 := (yh2 (H := [AB f, ⟨1, .arr true false 4 [[.nils, .nils, .nils, .int .i64 (lst f.regs).length]]⟩, D0, D0, D0, D0, D0, D0, D0, D0, D0, D0]) rfl).1
  have l1 := (yh2 (H := [AB f, ⟨1, .arr true false 4 [[.nils, .nils, .nils, .int .i64 (lst f.regs).length]]⟩, D0, AW 1 (y21 W), ⟨1, .arr false false 1 [[.ls 3 1 1 0 W]]⟩, ⟨1, .arr false false 1 [[.ls 3 1 1 0 W]]⟩, D0, D0, D0, D0, D0, D0]) rfl).2.1
  have l2 := (yh2 (H := [AB f, ⟨1, .arr true false 4 [[.nils, .nils, .nils, .int .i64 (lst f.regs).length]]⟩, D0, AW 1 (y21 W), ⟨1, .arr false false 1 [[.ls 3 1 1 0 W]]⟩, ⟨1, .arr false false 1 [[.ls 3 1 1 0 W]]⟩, AW 1 (y21 W), ⟨1, .arr false false 1 [[.ls 6 1 1 0 W]]⟩, ⟨1, .arr false false 1 [[.ls 6 1 1 0 W]]⟩, D0, D0, D0]) rfl).2.2
  have x0 := (yh6 (H := [AB f, ⟨1, .arr true false 4 [[.nils, .nils, .nils, .int .i64 (lst f.regs).length]]⟩, D0, AW 1 (y21 W), ⟨1, .arr false false 1 [[.ls 3 1 1 0 W]]⟩, ⟨1, .arr false false 1 [[.ls 3 1 1 0 W]]⟩, AW 1 (y21 W), ⟨1, .arr false false 1 [[.ls 6 1 1 0 W]]⟩, ⟨1, .arr false false 1 [[.ls 6 1 1 0 W]]⟩, AW 1 (y21 W), ⟨1, .arr false false 1 [[.ls 9 1 1 0 W]]⟩, ⟨1, .arr false false 1 [[.ls 9 1 1 0 W]]⟩]) (v := .ls 5 1 1 0 1) rfl rfl rfl).1
  have x1 := (yh6 (H := [AB f, ⟨1, .arr true false 4 [[.ls 5 1 1 0 1, .nils, .nils, .int .i64 (lst f.regs).length]]⟩, D0, AW 1 (y21 W), ⟨1, .arr false false 1 [[.ls 3 1 1 0 W]]⟩, ⟨1, .arr false false 1 [[.ls 3 1 1 0 W]]⟩, AW 1 (y21 W), ⟨1, .arr false false 1 [[.ls 6 1 1 0 W]]⟩, ⟨1, .arr false false 1 [[.ls 6 1 1 0 W]]⟩, AW 1 (y21 W), ⟨1, .arr false false 1 [[.ls 9 1 1 0 W]]⟩, ⟨1, .arr false false 1 [[.ls 9 1 1 0 W]]⟩]) (v := .ls 8 1 1 0 1) rfl rfl rfl).2.1
  have x2 := (yh6 (H := [AB f, ⟨1, .arr true false 4 [[.ls 5 1 1 0 1, .ls 8 1 1 0 1, .nils, .int .i64 (lst f.regs).length]]⟩, D0, AW 1 (y21 W), ⟨1, .arr false false 1 [[.ls 3 1 1 0 W]]⟩, ⟨1, .arr false false 1 [[.ls 3 1 1 0 W]]⟩, AW 1 (y21 W), ⟨1, .arr false false 1 [[.ls 6 1 1 0 W]]⟩, ⟨1, .arr false false 1 [[.ls 6 1 1 0 W]]⟩, AW 1 (y21 W), ⟨1, .arr false false 1 [[.ls 9 1 1 0 W]]⟩, ⟨1, .arr false false 1 [[.ls 9 1 1 0 W]]⟩]) (v := .ls 11 1 1 0 1) rfl rfl rfl).2.2
  simp only [List.set_cons_succ, List.set_cons_zero] at x0 x1 x2
  rw [yj1, e0, el]
  simp only [nc, y9, y1c, Nat.zero_add, Nat.reduceAdd, l0, m0, yr, o0, p0, l1, m1, o1, p1, l2, m2, o2, p2, x0, x1, x2]
  rfl
theorem rep1 (f : Fn) : BRep f (fun k _ => (3 + 3 * k, 1)) (fun k => (5 + 3 * k, 1)) (HB1 f ((lst f.regs).length / 64 + 1)) 1 := by
  refine ⟨rfl, rfl, fun _ k hk => ?_, fun k hk i hi => ?_, fun k k' i i' hk hk' hi hi' he => ⟨by simp only at he; omega, by omega⟩, fun k k' i hk hk' hi => by simp only; omega, fun k i hk hi => by simp only; omega, fun _ k hk => by simp only; omega, fun _ k k' hk hk' he => by simp only at he; omega, by simp [HB1]⟩
  · match k, hk with
    | 0, _ => rfl
    | 1, _ => rfl
    | 2, _ => rfl
  · match k, hk with
    | 0, _ => rfl
    | 1, _ => rfl
    | 2, _ => rfl
theorem y12g {f : Fn} (hn : (lst f.code).length ≤ 20000) (hR : (lst f.regs).length ≤ 20000) : ∀ (d m : Nat) (H : Heap) (P : Plc) (Q : Arr), m + d = (lst f.code).length → 0 < m → BRep f P Q H m →
    ∃ H' P' Q', ydy (.lp 0 1 0 0) (.int .i64 (lst f.code).length) (.int .i64 (((lst f.regs).length / 64 + 1 : Nat) : Int)) (.lp 1 1 0 0) (.int .i64 (lst f.code).length) (.int .i64 (m : Int)) H =
      yy9 (.lp 0 1 0 0) (.int .i64 (lst f.code).length) (.lp 1 1 0 0) H' ∧ BRep f P' Q' H' (lst f.code).length := by
  intro d
  induction d with
  | zero =>
    intro m H P Q hm h0 R
    have hm' : m = (lst f.code).length := by omega
    have hc : ¬ ((m : Int) < ((lst f.code).length : Int)) := by omega
    refine ⟨H, P, Q, ?_, by rw [← hm']; exact R⟩
    rw [yc0]
    simp only [ylr, yi, y9, hc, decide_false, ynq, y2u]
  | succ d ih =>
    intro m H P Q hm h0 R
    have hlt : m < (lst f.code).length := by omega
    have hc : ((m : Int) < ((lst f.code).length : Int)) := by omega
    have hw := y1j hlt (by omega)
    obtain ⟨H1, P1, Q1, e1, R1⟩ := round R h0 (by omega) (by omega) (.int .i64 (lst f.code).length) (.int .i64 (m : Int))
    obtain ⟨H2, P2, Q2, e2, R2⟩ := ih (m + 1) H1 P1 Q1 (by omega) (by omega) R1
    push_cast at e2
    refine ⟨H2, P2, Q2, ?_, R2⟩
    rw [yc0]
    simp only [ylr, yi, y9, hc, decide_true, ynq, y23]
    rw [e1]
    simp only [yhl, yy, hw, y9]
    exact e2
end Go.Vm
namespace Go.Vm
open Cel
attribute [local simp] y6 y1n yj
@[simp] theorem y2bn (a b c d : AV) (r : List AV) (h : r.length = 4) : yt 0 [a, b, c, d] r = [a, b, c, d] := by
  simp [yt, ← h]
@[simp] theorem y2b4 (h : Heap) (a b c d : Int) (o : Bool) : yf h (.tup [.agg [.int .i64 a, .int .i64 b, .int .i64 c, .int .i64 d], .bool o]) = some (exK (a, b, c, d, o)) := rfl
@[simp] theorem y2em (a b c d : Int) : yu [.int .i64 0, .int .i64 0, .int .i64 0, .int .i64 0] [(0, 1, .int .i64 a), (1, 1, .int .i64 b), (2, 1, .int .i64 c), (3, 1, .int .i64 d)] = some (.agg [.int .i64 a, .int .i64 b, .int .i64 c, .int .i64 d]) := rfl
@[simp] theorem y2bz : yu [.int .i64 0, .int .i64 0, .int .i64 0, .int .i64 0] [] = some (.agg [.int .i64 0, .int .i64 0, .int .i64 0, .int .i64 0]) := rfl
@[simp] theorem y2b3 (h : Heap) (a b c : Int) : fz h y18 (.tup [.int .i64 a, .int .i64 b, .int .i64 c]) = some ⟨.tup [.int .i64 a, .int .i64 b, .int .i64 c], true, []⟩ := rfl
@[simp] theorem y2c4 (h : Heap) (a b c d : Int) (o : Bool) : fz h y18 (.tup [.agg [.int .i64 a, .int .i64 b, .int .i64 c, .int .i64 d], .bool o]) = some ⟨.tup [.agg [.int .i64 a, .int .i64 b, .int .i64 c, .int .i64 d], .bool o], true, []⟩ := rfl
@[simp] theorem agg4 (a b c d : AV) : y41 true 4 [a, b, c, d] = some (.agg [a, b, c, d]) := rfl
set_option maxHeartbeats 4000000 in
theorem y1w6 (x : Ins) (h : x.op = 1 ∨ x.op = 2 ∨ x.op = 3 ∨ x.op = 4 ∨ x.op = 7 ∨ x.op = 8 ∨ x.op = 9 ∨ x.op = 10 ∨ x.op = 11 ∨ x.op = 13 ∨ x.op = 14 ∨ x.op = 15 ∨ x.op = 16 ∨ x.op = 17 ∨ x.op = 18 ∨ x.op = 19 ∨ x.op = 20 ∨ x.op = 27 ∨ x.op = 31 ∨ x.op = 32 ∨ x.op = 33) : (y8 E).p 47 [.agg (enc x)] = some (exK (yo x)) := by
  rw [y1g2]
  rcases h with h|h|h|h|h|h|h|h|h|h|h|h|h|h|h|h|h|h|h|h|h <;> simp [h, ydd, yc4, ydg, ydf, ydi, ydc, ydh, yde, ydb, y6r, y7m, y7k, y71, y6x, y7c, y7a, y72, y6w, y78, y73, y7q, y7i, y7e, y77, y6u, y7d, y7g, y7o, y7p, y5v, y76, y7s, y7j, y79, y6s, y6t, y6z, y7n, y75, y4u, y7t, y5r, y7r, y7h, y6v, y12, y2e, meets, ids1, yo]
theorem y1wd (x : Ins) (hs : x.s.length ≤ 9223372036854775807) (h : x.op = 12 ∨ x.op = 21 ∨ x.op = 22) : (y8 E).p 47 [.agg (enc x)] = some (exK (yo x)) := by
  rw [y1g2]
  have ht := y26k x.s hs
  rcases h with h|h|h <;> simp [h, ht, ydd, yc4, ydg, ydf, ydi, ydc, ydh, yde, ydb, y6r, y7m, y7k, y71, y6x, y7c, y7a, y72, y6w, y78, y73, y7q, y7i, y7e, y77, y6u, y7d, y7g, y7o, y7p, y5v, y76, y7s, y7j, y79, y6s, y6t, y6z, y7n, y75, y4u, y7t, y5r, y7r, y7h, y6v, y12, y2e, meets, ids1, yo]
theorem y22a (x : Ins) (hn : -9223372036854775808 ≤ x.n ∧ x.n < 9223372036854775808) (h : x.op = 5 ∨ x.op = 6) : (y8 E).p 47 [.agg (enc x)] = some (exK (yo x)) := by
  rw [y1g2]
  have hk := y1yw x.n
  have hw := y1o hn.1 hn.2
  rcases h with h|h
  · simp [h, hk, hw, ydd, yc4, ydg, ydf, ydi, ydc, ydh, yde, ydb, y6r, y7m, y7k, y71, y6x, y7c, y7a, y72, y6w, y78, y73, y7q, y7i, y7e, y77, y6u, y7d, y7g, y7o, y7p, y5v, y76, y7s, y7j, y79, y6s, y6t, y6z, y7n, y75, y4u, y7t, y5r, y7r, y7h, y6v, y12, y2e, meets, ids1, yo]
  · by_cases h0 : (numK x.n).1 = 0
    · simp [h, hk, hw, h0, ydd, yc4, ydg, ydf, ydi, ydc, ydh, yde, ydb, y6r, y7m, y7k, y71, y6x, y7c, y7a, y72, y6w, y78, y73, y7q, y7i, y7e, y77, y6u, y7d, y7g, y7o, y7p, y5v, y76, y7s, y7j, y79, y6s, y6t, y6z, y7n, y75, y4u, y7t, y5r, y7r, y7h, y6v, y12, y2e, meets, ids1, yo]
    · simp [h, hk, hw, h0, ydd, yc4, ydg, ydf, ydi, ydc, ydh, yde, ydb, y6r, y7m, y7k, y71, y6x, y7c, y7a, y72, y6w, y78, y73, y7q, y7i, y7e, y77, y6u, y7d, y7g, y7o, y7p, y5v, y76, y7s, y7j, y79, y6s, y6t, y6z, y7n, y75, y4u, y7t, y5r, y7r, y7h, y6v, y12, y2e, meets, ids1, yo]
theorem y22d (x : Ins) (h : x.op = 28) : (y8 E).p 47 [.agg (enc x)] = some (exK (yo x)) := by
  rw [y1g2]
  by_cases h0 : 0 ≤ x.n
  · simp [h, h0, ydd, yc4, ydg, ydf, ydi, ydc, ydh, yde, ydb, y6r, y7m, y7k, y71, y6x, y7c, y7a, y72, y6w, y78, y73, y7q, y7i, y7e, y77, y6u, y7d, y7g, y7o, y7p, y5v, y76, y7s, y7j, y79, y6s, y6t, y6z, y7n, y75, y4u, y7t, y5r, y7r, y7h, y6v, y12, y2e, meets, ids1, yo]
  · simp [h, h0, ydd, yc4, ydg, ydf, ydi, ydc, ydh, yde, ydb, y6r, y7m, y7k, y71, y6x, y7c, y7a, y72, y6w, y78, y73, y7q, y7i, y7e, y77, y6u, y7d, y7g, y7o, y7p, y5v, y76, y7s, y7j, y79, y6s, y6t, y6z, y7n, y75, y4u, y7t, y5r, y7r, y7h, y6v, y12, y2e, meets, ids1, yo]
end Go.Vm
namespace Go.Vm
open Cel
attribute [local simp] y6 y1n yj
theorem y1su (x : Ins) (h : x.op = 29) : (y8 E).p 51 [.agg (enc x)] = some (exK (yo x)) := by
  rw [y1po]
  by_cases h0 : x.b = -1 <;> by_cases h1 : x.n = 0 <;> simp [h, h0, h1, yok, ynl, ypw, yof, ylk, yo3, ypt, ylb, yp5, yf7, y9e, yfa, yfz, yg1, yeq, ye2, yeb, yfg, y12, y2e, meets, yo]
theorem y1n8 (x : Ins) (h : x.op = 30) : (y8 E).p 51 [.agg (enc x)] = some (exK (yo x)) := by
  rw [y1po]
  by_cases h0 : x.a = -1 <;> simp [h, h0, yok, ynl, ypw, yof, ylk, yo3, ypt, ylb, yp5, yf7, y9e, yfa, yfz, yg1, yeq, ye2, yeb, yfg, y12, y2e, meets, yo]
set_option maxHeartbeats 4000000 in
theorem yk3 (x : Ins) (h : x.op = 23 ∨ x.op = 24 ∨ x.op = 25 ∨ x.op = 26) : (y8 E).p 51 [.agg (enc x)] = some (exK (yo x)) := by
  rw [y1po]
  have e1 : ((0 : Int) < ((lst x.args).length : Int)) = (0 < (lst x.args).length) := by simp
  have e2 : (((lst x.args).length : Int) ≤ (21 : Int)) = ((lst x.args).length ≤ 21) := by simp; omega
  by_cases h0 : x.d = -1 <;> by_cases h1 : 0 ≤ x.n <;> by_cases h2 : 0 < (lst x.args).length <;> rcases h with h|h|h|h <;> simp [h, h0, h1, h2, e1, e2, yok, ynl, ypw, yof, ylk, yo3, ypt, ylb, yp5, yf7, y9e, yfa, yfz, yg1, yeq, ye2, yeb, yfg, y12, y2e, meets, yo]
theorem y21a (x : Ins) (h : x.op < 1 ∨ 33 < x.op) : (y8 E).p 51 [.agg (enc x)] = some (exK (yo x)) := by
  rw [y1po, y0u h]
  rcases h with h|h
  · simp [lo_f h, yok, ynl, ypw, yof, ylk, yo3, ypt, ylb, yp5, yf7, y9e, yfa, yfz, yg1, yeq, ye2, yeb, yfg, y12, y2e, meets]
  · simp [hi_f h, yok, ynl, ypw, yof, ylk, yo3, ypt, ylb, yp5, yf7, y9e, yfa, yfz, yg1, yeq, ye2, yeb, yfg, y12, y2e, meets]
theorem y1w2 (x : Ins) (h : x.op = 29 ∨ x.op = 30 ∨ x.op = 23 ∨ x.op = 24 ∨ x.op = 25 ∨ x.op = 26 ∨ x.op < 1 ∨ 33 < x.op) : (y8 E).p 47 [.agg (enc x)] = some (exK (yo x)) := by
  have ho : (y8 E).p 51 [.agg (enc x)] = some (exK (yo x)) := by
    rcases h with h|h|h|h|h|h|h
    · exact y1su x h
    · exact y1n8 x h
    · exact yk3 x (.inl h)
    · exact yk3 x (.inr (.inl h))
    · exact yk3 x (.inr (.inr (.inl h)))
    · exact yk3 x (.inr (.inr (.inr h)))
    · exact y21a x h
  rw [y1g2]
  generalize yo x = k at ho
  obtain ⟨a, b, c, d, o⟩ := k
  simp only [exK] at ho
  rcases h with h|h|h|h|h|h|h|h
  iterate 6 (simp [h, ho, ydd, yc4, ydg, ydf, ydi, ydc, ydh, yde, ydb, y6r, y7m, y7k, y71, y6x, y7c, y7a, y72, y6w, y78, y73, y7q, y7i, y7e, y77, y6u, y7d, y7g, y7o, y7p, y5v, y76, y7s, y7j, y79, y6s, y6t, y6z, y7n, y75, y4u, y7t, y5r, y7r, y7h, y6v, y12, y2e, meets])
  · simp [lo_f h, ho, ydd, yc4, ydg, ydf, ydi, ydc, ydh, yde, ydb, y6r, y7m, y7k, y71, y6x, y7c, y7a, y72, y6w, y78, y73, y7q, y7i, y7e, y77, y6u, y7d, y7g, y7o, y7p, y5v, y76, y7s, y7j, y79, y6s, y6t, y6z, y7n, y75, y4u, y7t, y5r, y7r, y7h, y6v, y12, y2e, meets]
  · simp [hi_f h, ho, ydd, yc4, ydg, ydf, ydi, ydc, ydh, yde, ydb, y6r, y7m, y7k, y71, y6x, y7c, y7a, y72, y6w, y78, y73, y7q, y7i, y7e, y77, y6u, y7d, y7g, y7o, y7p, y5v, y76, y7s, y7j, y79, y6s, y6t, y6z, y7n, y75, y4u, y7t, y5r, y7r, y7h, y6v, y12, y2e, meets]
theorem y20i (x : Ins) (hn : -9223372036854775808 ≤ x.n ∧ x.n < 9223372036854775808) (hs : x.s.length ≤ 9223372036854775807) : (y8 E).p 47 [.agg (enc x)] = some (exK (yo x)) := by
  by_cases h1 : x.op = 1 ∨ x.op = 2 ∨ x.op = 3 ∨ x.op = 4 ∨ x.op = 7 ∨ x.op = 8 ∨ x.op = 9 ∨ x.op = 10 ∨ x.op = 11 ∨ x.op = 13 ∨ x.op = 14 ∨ x.op = 15 ∨ x.op = 16 ∨ x.op = 17 ∨ x.op = 18 ∨ x.op = 19 ∨ x.op = 20 ∨ x.op = 27 ∨ x.op = 31 ∨ x.op = 32 ∨ x.op = 33
  · exact y1w6 x h1
  by_cases h2 : x.op = 12 ∨ x.op = 21 ∨ x.op = 22
  · exact y1wd x hs h2
  by_cases h3 : x.op = 5 ∨ x.op = 6
  · exact y22a x hn h3
  by_cases h4 : x.op = 28
  · exact y22d x h4
  exact y1w2 x (by omega)
end Go.Vm
namespace Go.Vm
open Cel
attribute [local simp] y6 y1n yj
abbrev HR (f : Fn) (x : Ins) (a b c d : Int) : Heap := [⟨1, .arr true false 5 [enc f]⟩, ⟨1, .arr true false 9 [enc x]⟩, ⟨1, .arr true false 4 [[.int .i64 a, .int .i64 b, .int .i64 c, .int .i64 d]]⟩]
abbrev P0 : AV := .lp 0 1 0 0
abbrev P1 : AV := .lp 1 1 0 0
abbrev P2 : AV := .lp 2 1 0 0
theorem y9y {f : Fn} {r : Int} (h : inR (lst f.regs) r = true) : yv 1 (slA f.regs) (.int .i64 r) = some (.rp [.int .i64 (regK (lst f.regs) r)]) := by
  obtain ⟨h0, h1, h2⟩ := y1dd h
  exact yt0 h0 h2 .i64
theorem yol (f : Fn) (x : Ins) (a b c d : Int) (i : Nat) (w r : Int) (v26 : AV) (hi : i < 4) (hw : [a, b, c, d][i]? = some w) :
    yag P0 P1 P2 (.int .i64 i) (.int .i64 r) v26 (.int .i64 i) (HR f x a b c d) =
      if y2a (lst f.regs) w r then ymv P0 P1 P2 v26 (.int .i64 i) (HR f x a b c d) else some ⟨.bool false, [], true, [], []⟩ := by
  have e1 : ykr 4 1 P2 (.int .i64 i) = some (.lp 2 1 0 i) := by
    have : ((i : Int) < (4 : Int)) := by omega
    simp [ykr, this]
  have e2 : ∀ f x, evLd false 1 (.lp 2 1 0 i) (HR f x a b c d) = some (.int .i64 w) := by
    intro f x
    simp only [y2n]
    have : (ym (HR f x a b c d) 2 1) = some (false, 4, [[.int .i64 a, .int .i64 b, .int .i64 c, .int .i64 d]]) := rfl
    rw [this]
    simp only [List.getElem?_cons_zero, y8q]
    match i, hi, hw with
    | 0, _, hw => simp at hw; simp [hw]
    | 1, _, hw => simp at hw; simp [hw]
    | 2, _, hw => simp at hw; simp [hw]
    | 3, _, hw => simp at hw; simp [hw]
  have e2 := e2 f x
  by_cases hw0 : w < 0
  · simp [yag, e1, e2, y2a, hw0]
  by_cases h0 : r < 0
  · have : ¬ 0 ≤ r := by omega
    simp [yag, yeu, e1, e2, y2a, hw0, h0, inR, this]
  by_cases h1 : r < ((lst f.regs).length : Int)
  · have h0' : 0 ≤ r := by omega
    have h1' : ¬ ((lst f.regs).length : Int) ≤ r := by omega
    have hin : inR (lst f.regs) r = true := by simp [inR, h0', h1]
    have hr := y9y hin
    by_cases h2 : 0 < w
    · have h2' : ¬ w ≤ 0 := by omega
      by_cases h3 : regK (lst f.regs) r = w
      · simp [yag, yeu, e1, e2, y2a, hw0, h0, h1', h2, h2', hin, hr, h3]
      · simp [yag, yeu, e1, e2, y2a, hw0, h0, h1', h2, h2', hin, hr, h3]
    · have h2' : w ≤ 0 := by omega
      simp [yag, yeu, e1, e2, y2a, hw0, h0, h1', h2, h2', hin]
  · have h1' : ((lst f.regs).length : Int) ≤ r := by omega
    simp [yag, yeu, e1, e2, y2a, hw0, h0, h1', h1, inR]
theorem y11i (f : Fn) (x : Ins) (a b c d : Int) (h1 : x.op = 1 → inR (lst f.regs) x.d = true) (h4 : x.op = 4 → inR (lst f.regs) x.d = true ∧ inR (lst f.regs) x.a = true) (h7 : x.op = 7 → inR (lst f.regs) x.a = true)
    (h30 : x.op = 30 → x.a = -1 ∨ inR (lst f.regs) x.a = true) :
    y7u P0 P1 (HR f x a b c d) = some ⟨.bool (y3l (lst f.regs) f.ret (lst f.code).length x), [], true, [], []⟩ := by
  by_cases o1 : x.op = 1
  · have hr := y9y (h1 o1)
    by_cases k3 : regK (lst f.regs) x.d = 3
    · simp [y7u, y3l, o1, hr, k3]
    · by_cases k2 : regK (lst f.regs) x.d = 2
      · simp [y7u, y3l, o1, hr, k2]
      · simp [y7u, y3l, o1, hr, k2, k3]
  by_cases o4 : x.op = 4
  · have hr := y9y (h4 o4).1
    have hr2 := y9y (h4 o4).2
    simp [y7u, y3l, o4, hr, hr2]
  by_cases o7 : x.op = 7
  · have hr := y9y (h7 o7)
    simp [y7u, y3l, o7, hr]
  by_cases o30 : x.op = 30
  · by_cases ha : x.a = -1
    · by_cases hz : f.ret = 0
      · simp [y7u, y3l, o30, ha, hz]
      · simp [y7u, y3l, o30, ha, hz]
    · have hr := y9y ((h30 o30).resolve_left ha)
      by_cases hz : f.ret = 0
      · simp [y7u, y3l, o30, ha, hz]
      · simp [y7u, y3l, o30, ha, hz, hr]
  · cases hl : leads x.op with
    | false => simp [y7u, y17l, y3l, o1, o4, o7, o30, hl]
    | true =>
      by_cases ht : 0 ≤ x.t
      · simp [y7u, y17l, y3l, o1, o4, o7, o30, hl, ht]
      · simp [y7u, y17l, y3l, o1, o4, o7, o30, hl, ht]
end Go.Vm
namespace Go.Vm
open Cel
attribute [local simp] y6 y1n yj
theorem ynu (f : Fn) (x : Ins) (a b c d : Int) (i : Nat) (r : Int) (v63 v64 : AV) :
    yfr P0 P1 (.int .i64 i) (.int .i64 r) v63 v64 (.int .i64 i) (HR f x a b c d) =
      if inR (lst f.regs) r && (!decide (i = 0) || !(decide (x.op = 24) || decide (x.op = 25)) || decide (regK (lst f.regs) r = 3)) then y19m P0 P1 v63 v64 (.int .i64 i) (HR f x a b c d) else some ⟨.bool false, [], true, [], []⟩ := by
  by_cases h0 : r < 0
  · have : ¬ 0 ≤ r := by omega
    simp [yfr, h0, inR, this]
  by_cases h1 : r < ((lst f.regs).length : Int)
  · have h0' : 0 ≤ r := by omega
    have h1' : ¬ ((lst f.regs).length : Int) ≤ r := by omega
    have hin : inR (lst f.regs) r = true := by simp [inR, h0', h1]
    have hr := y9y hin
    by_cases hi : i = 0
    · subst hi
      by_cases o1 : x.op = 24
      · by_cases h3 : regK (lst f.regs) r = 3
        · simp [yfr, h0, h1', hin, hr, o1, h3]
        · simp [yfr, h0, h1', hin, hr, o1, h3]
      · by_cases o2 : x.op = 25
        · by_cases h3 : regK (lst f.regs) r = 3
          · simp [yfr, h0, h1', hin, hr, o2, h3]
          · simp [yfr, h0, h1', hin, hr, o2, h3]
        · simp [yfr, h0, h1', hin, o1, o2]
    · have hi' : ¬ ((i : Int) = 0) := by omega
      simp [yfr, h0, h1', hin, hi, hi']
  · have h1' : ((lst f.regs).length : Int) ≤ r := by omega
    simp [yfr, h0, h1', h1, inR]
theorem y11c (f : Fn) (x : Ins) (a b c d : Int) (T : Bool) (hc : calls x.op = true) (hl : (lst x.args).length ≤ 9223372036854775807) (hT : y7u P0 P1 (HR f x a b c d) = some ⟨.bool T, [], true, [], []⟩) :
    ∀ (k i : Nat), i + k = (lst x.args).length → 0 < i →
    yfq P0 P1 (slA x.args) (.int .i64 (lst x.args).length) (.int .i64 i) (HR f x a b c d) = some ⟨.bool (((lst x.args).drop i).all (inR (lst f.regs)) && T), [], true, [], []⟩ := by
  intro k
  induction k with
  | zero =>
    intro i hi _
    have e1 : (lst x.args).drop i = [] := List.drop_eq_nil_of_le (by omega)
    have hn : ¬ ((i : Int) < ((lst x.args).length : Int)) := by omega
    rw [ye8, e1]
    simp [yg4, yf2, hn, hT]
  | succ k ih =>
    intro i hi h0
    have hlt : i < (lst x.args).length := by omega
    have hn : ((i : Int) < ((lst x.args).length : Int)) := by omega
    have e1 : ((lst x.args).drop i).all (inR (lst f.regs)) = (inR (lst f.regs) (lst x.args)[i] && ((lst x.args).drop (i + 1)).all (inR (lst f.regs))) := by rw [List.drop_eq_getElem_cons hlt, List.all_cons]
    have ih := ih (i + 1) (by omega) (by omega)
    push_cast at ih
    have k1 := y55 (o := x.args) (i := i) (List.getElem?_eq_getElem hlt) .i64
    have hz : ¬ i = 0 := by omega
    rw [ye8, e1]
    simp only [yg4, yf2, yi, y9, hn, decide_true, y23]
    simp only [y1ee, k1, y9, yon, y8q, List.head?_cons]
    simp only [y1jt]
    simp only [y2n]
    simp only [yk1, yae]
    simp only [List.getElem?_cons_zero, List.drop_zero, ykh, y9]
    simp only [y6, yob, if_true, y1n, yh, y8f, yx, ypl, yj, yko, yr, Bool.true_or]
    simp only [y2y, y9, hc, Bool.not_true, y2u, ynu]
    cases inR (lst f.regs) (lst x.args)[i]
    · simp
    · simp [hz, y19m, y1j hlt hl, ih]
theorem y11e (f : Fn) (x : Ins) (a b c d : Int) (T : Bool) (hl : (lst x.args).length ≤ 9223372036854775807) (hT : y7u P0 P1 (HR f x a b c d) = some ⟨.bool T, [], true, [], []⟩) :
    yn9 P0 P1 (HR f x a b c d) = some ⟨.bool (yfb (lst f.regs) x && T), [], true, [], []⟩ := by
  have e0 : yn9 P0 P1 (HR f x a b c d) = yfq P0 P1 (slA x.args) (.int .i64 (lst x.args).length) (.int .i64 0) (HR f x a b c d) := by simp [yn9]
  rw [e0, ye8]
  cases ha : lst x.args with
  | nil => simp [yg4, yf2, hT, yfb, yop, ha]
  | cons r rest =>
    have k1 := y55 (o := x.args) (i := 0) (x := r) (by rw [ha]; rfl) .i64
    have k1 : yv 1 (slA x.args) (.int .i64 0) = some (.rp [.int .i64 r]) := k1
    have hn : ((0 : Int) < ((lst x.args).length : Int)) := by rw [ha]; simp
    have hra := ynu f x a b c d 0 r (slA x.args) (.int .i64 (lst x.args).length)
    simp only [Int.ofNat_zero, decide_true, Bool.not_true, Bool.false_or] at hra
    rw [← ha]
    cases hc : calls x.op with
    | false =>
      simp only [yg4, yf2, yi, y9, hn, decide_true, y23]
      simp only [y1ee, k1, y9, yon, y8q, List.head?_cons]
      simp only [y1jt]
      simp only [y2n]
      simp only [yk1, yae]
      simp only [List.getElem?_cons_zero, List.drop_zero, ykh, y9]
      simp only [y6, yob, if_true, y1n, yh, y8f, yx, ypl, yj, yko, yr, Bool.true_or]
      simp only [y2y, y9, hc, Bool.not_false, y23, hT, yfb, Bool.true_or, Bool.true_and]
    | true =>
      have hlp := y11c f x a b c d T hc hl hT rest.length 1 (by rw [ha]; simp; omega) (by omega)
      have hd : (lst x.args).drop 1 = rest := by rw [ha]; rfl
      rw [hd] at hlp
      have hlp : yfq P0 P1 (slA x.args) (.int .i64 (lst x.args).length) (.int .i64 1) (HR f x a b c d) = _ := hlp
      simp only [yg4, yf2, yi, y9, hn, decide_true, y23]
      simp only [y1ee, k1, y9, yon, y8q, List.head?_cons]
      simp only [y1jt]
      simp only [y2n]
      simp only [yk1, yae]
      simp only [List.getElem?_cons_zero, List.drop_zero, ykh, y9]
      simp only [y6, yob, if_true, y1n, yh, y8f, yx, ypl, yj, yko, yr, Bool.true_or]
      simp only [y2y, y9, hc, Bool.not_true, y2u, hra]
      simp only [yfb, yop, ha, List.all_cons]
      have hw : IntKind.wrap .i64 ((0 : Int) + 1) = 1 := y1o (n := 1) (by omega) (by omega)
      generalize (!(decide (x.op = 24) || decide (x.op = 25)) || decide (regK (lst f.regs) r = 3)) = B
      have hw2 : IntKind.wrap .i64 (1 : Int) = 1 := y1o (n := 1) (by omega) (by omega)
      cases inR (lst f.regs) r with
      | false => cases B <;> simp [hc]
      | true =>
        cases B with
        | false => simp [hc]
        | true =>
          simp only [Bool.and_self, if_true, y19m, yy, y9]
          rw [show IntKind.wrap .i64 ((0 : Int) + 1) = 1 from hw]
          rw [← ha, hlp]
          simp [hc]
theorem y13p (x : Ins) : (x.op = 1 → (yo x).1 = 0) ∧ (x.op = 4 → (yo x).1 = 0 ∧ (yo x).2.1 = 0) ∧ (x.op = 7 → (yo x).2.1 = 0) ∧ (x.op = 30 → x.a = -1 ∨ (yo x).2.1 = 0) := by
  refine ⟨fun h => ?_, fun h => ?_, fun h => ?_, fun h => ?_⟩ <;> simp [yo, h]
  by_cases ha : x.a = -1 <;> simp [ha]
theorem yat {R : List Int} {w r : Int} (h : y2a R w r = true) (hw : w = 0) : inR R r = true := by
  subst hw
  simpa [y2a] using h
set_option maxHeartbeats 1000000 in
theorem y222 (f : Fn) (x : Ins) (hn : -9223372036854775808 ≤ x.n ∧ x.n < 9223372036854775808) (hs : x.s.length ≤ 9223372036854775807) (hl : (lst x.args).length ≤ 9223372036854775807) :
    (y8 E).p 63 [.agg (enc f), .agg (enc x)] = some ⟨.bool (y2w f x), [], true, [], []⟩ := by
  have hk := y20i x hn hs
  obtain ⟨q1, q4, q7, q30⟩ := y13p x
  rw [y2ak]
  have red : ∀ X : Option (Ex AV), y2w f x = y2w f x → True := fun _ _ => trivial
  have e0 : ymr (.agg (enc f)) (.agg (enc x)) [⟨0, .dead⟩, ⟨0, .dead⟩, ⟨0, .dead⟩] =
      if (yo x).2.2.2.2 = true then ya9 P0 P1 P2 (.agg [.int .i64 x.d, .int .i64 x.a, .int .i64 x.b, .int .i64 x.c]) (.int .i64 0) (HR f x (yo x).1 (yo x).2.1 (yo x).2.2.1 (yo x).2.2.2.1) else some ⟨.bool false, [], true, [], []⟩ := by
    unfold exK at hk
    generalize yo x = k at *
    obtain ⟨a, b, c, d, o⟩ := k
    simp only at hk ⊢
    cases o with
    | true => simp [ymr, yqd, yvt, y145, hk]
    | false => simp [ymr, yqd, yvt, hk]
  rw [e0, y2w]
  cases hok : (yo x).2.2.2.2 with
  | false => simp
  | true =>
    simp only [if_true, Bool.true_and]
    have step : ∀ (i : Nat) (w r : Int), i < 4 → [(yo x).1, (yo x).2.1, (yo x).2.2.1, (yo x).2.2.2.1][i]? = some w → [x.d, x.a, x.b, x.c][i]? = some r →
        ya9 P0 P1 P2 (.agg [.int .i64 x.d, .int .i64 x.a, .int .i64 x.b, .int .i64 x.c]) (.int .i64 i) (HR f x (yo x).1 (yo x).2.1 (yo x).2.2.1 (yo x).2.2.2.1) =
        if y2a (lst f.regs) w r then ya9 P0 P1 P2 (.agg [.int .i64 x.d, .int .i64 x.a, .int .i64 x.b, .int .i64 x.c]) (.int .i64 (i + 1 : Nat)) (HR f x (yo x).1 (yo x).2.1 (yo x).2.2.1 (yo x).2.2.2.1) else some ⟨.bool false, [], true, [], []⟩ := by
      intro i w r hi hw hr
      have hc : ((i : Int) < (4 : Int)) := by omega
      have hv : yjn false 4 1 (.agg [.int .i64 x.d, .int .i64 x.a, .int .i64 x.b, .int .i64 x.c]) (.int .i64 i) = some (.int .i64 r) := by
        match i, hi, hr with
        | 0, _, hr => simp at hr; simp [yjn, hr]
        | 1, _, hr => simp at hr; simp [yjn, hr]
        | 2, _, hr => simp at hr; simp [yjn, hr]
        | 3, _, hr => simp at hr; simp [yjn, hr]
      have hw2 : IntKind.wrap .i64 ((i : Int) + 1) = ((i + 1 : Nat) : Int) := by rw [y1o] <;> omega
      rw [yhd]
      simp only [yrf, yuv, yi, y9, hc, decide_true, y23]
      simp only [y1ap, hv, y9]
      rw [yol f x _ _ _ _ i w r _ hi hw]
      simp only [ymv, yy, y9, hw2]
    have s0 := step 0 _ _ (by omega) rfl rfl
    have s1 := step 1 _ _ (by omega) rfl rfl
    have s2 := step 2 _ _ (by omega) rfl rfl
    have s3 := step 3 _ _ (by omega) rfl rfl
    simp only [Int.ofNat_zero] at s0
    rw [s0]
    cases f0 : y2a (lst f.regs) (yo x).1 x.d with
    | false => simp
    | true =>
      simp only [if_true, Bool.true_and]
      rw [s1]
      cases f1 : y2a (lst f.regs) (yo x).2.1 x.a with
      | false => simp
      | true =>
        simp only [if_true, Bool.true_and]
        rw [s2]
        cases f2 : y2a (lst f.regs) (yo x).2.2.1 x.b with
        | false => simp
        | true =>
          simp only [if_true, Bool.true_and]
          rw [s3]
          cases f3 : y2a (lst f.regs) (yo x).2.2.2.1 x.c with
          | false => simp
          | true =>
            simp only [if_true, Bool.true_and]
            have ht := y11i f x (yo x).1 (yo x).2.1 (yo x).2.2.1 (yo x).2.2.2.1 (fun h => yat f0 (q1 h)) (fun h => ⟨yat f0 (q4 h).1, yat f1 (q4 h).2⟩) (fun h => yat f1 (q7 h)) (fun h => (q30 h).imp id fun h => yat f1 h)
            rw [← y11e f x _ _ _ _ _ hl ht]
            rw [yhd]
            simp [yrf, yuv]
end Go.Vm
namespace Go.Vm
open Cel
attribute [local simp] y6 y1n yj
abbrev HC (f : Fn) (o1 o2 : AO) : Heap := [⟨1, .arr true false 5 [enc f]⟩, o1, o2]
abbrev E80 : Option (Ex AV) := some ⟨.int .i64 80, [], true, [], []⟩
abbrev E0 : Option (Ex AV) := some ⟨.int .i64 0, [], true, [], []⟩
theorem y0o (f : Fn) (o1 : AO) (n : Int) (hn : n = (lst f.code).length) (hl : (lst f.rows).length ≤ 9223372036854775807) : ∀ (d i : Nat) (o2 : AO), i + d = (lst f.rows).length →
    yhk P0 (.int .i64 n) (slA f.rows) (.int .i64 (lst f.rows).length) (.int .i64 i) (HC f o1 o2) = if ((lst f.rows).drop i).all (y7w (lst f.code)) then E0 else E80 := by
  intro d
  induction d with
  | zero =>
    intro i o2 hi
    have e1 : (lst f.rows).drop i = [] := List.drop_eq_nil_of_le (by omega)
    have hn : ¬ ((i : Int) < ((lst f.rows).length : Int)) := by omega
    rw [ymo, e1]
    simp [y1r5, y1m0, y20p, hn]
  | succ d ih =>
    intro i o2 hi
    have hlt : i < (lst f.rows).length := by omega
    have hc : ((i : Int) < ((lst f.rows).length : Int)) := by omega
    have k1 := you (o := f.rows) (i := i) (List.getElem?_eq_getElem hlt) .i64
    rw [ymo]
    have e1 : ((lst f.rows).drop i).all (y7w (lst f.code)) = (y7w (lst f.code) (lst f.rows)[i] && ((lst f.rows).drop (i + 1)).all (y7w (lst f.code))) := by rw [List.drop_eq_getElem_cons hlt, List.all_cons]
    rw [e1]
    generalize hr : (lst f.rows)[i] = r at *
    have ih := fun o2 => ih (i + 1) o2 (by omega)
    push_cast at ih
    subst hn
    simp only [y1r5, y1m0, yi, y9, hc, decide_true, y23]
    by_cases h1 : r.f < 0
    · simp [yjg, k1, y7w, h1]
    by_cases h2 : r.t ≤ r.f
    · simp [yjg, k1, y7w, h1, h2]
    by_cases h3 : ((lst f.code).length : Int) < r.t
    · simp [yjg, k1, y7w, h1, h2, h3]
    by_cases h4 : r.at_ < 0
    · simp [yjg, k1, y7w, h1, h2, h3, h4]
    by_cases h5 : ((lst f.code).length : Int) ≤ r.at_
    · simp [yjg, k1, y7w, h1, h2, h3, h4, h5]
    · have hx : r.at_.toNat < (lst f.code).length := by omega
      have k2 := ydn (o := f.code) (n := r.at_) (by omega) (List.getElem?_eq_getElem hx) .i64
      have hg : (lst f.code).getD r.at_.toNat default = (lst f.code)[r.at_.toNat] := by rw [List.getD_eq_getElem?_getD, List.getElem?_eq_getElem hx]; rfl
      by_cases h6 : ((lst f.code)[r.at_.toNat]).op = 32
      · simp [yjg, k1, y7w, h1, h2, h3, h4, h5, k2, h6, hx, y20a, y1j hlt hl, ih]
      · simp [yjg, k1, y7w, h1, h2, h3, h4, h5, k2, h6, hx]
theorem y11j (f : Fn) (o1 o2 : AO) (n : Int) (hl : (lst f.regs).length ≤ 9223372036854775807) : ∀ (d i : Nat), i + d = (lst f.regs).length →
    yc5 P0 (.int .i64 n) (slA f.regs) (.int .i64 (lst f.regs).length) (.int .i64 i) (HC f o1 o2) = if ((lst f.regs).drop i).all (fun k => decide (1 ≤ k) && decide (k ≤ 3)) then ymh P0 (.int .i64 n) (HC f o1 o2) else E80 := by
  intro d
  induction d with
  | zero =>
    intro i hi
    have e1 : (lst f.regs).drop i = [] := List.drop_eq_nil_of_le (by omega)
    have hn : ¬ ((i : Int) < ((lst f.regs).length : Int)) := by omega
    rw [yhz, e1]
    simp [yzh, ysf, hn]
  | succ d ih =>
    intro i hi
    have hlt : i < (lst f.regs).length := by omega
    have hc : ((i : Int) < ((lst f.regs).length : Int)) := by omega
    have k1 := y55 (o := f.regs) (i := i) (List.getElem?_eq_getElem hlt) .i64
    have e1 : ((lst f.regs).drop i).all (fun k => decide (1 ≤ k) && decide (k ≤ 3)) = ((decide (1 ≤ (lst f.regs)[i]) && decide ((lst f.regs)[i] ≤ 3)) && ((lst f.regs).drop (i + 1)).all (fun k => decide (1 ≤ k) && decide (k ≤ 3))) := by
      rw [List.drop_eq_getElem_cons hlt, List.all_cons]
    rw [yhz, e1]
    generalize hr : (lst f.regs)[i] = r at *
    have ih := ih (i + 1) (by omega)
    push_cast at ih
    simp only [yzh, ysf, yi, y9, hc, decide_true, y23]
    by_cases h1 : r < 1
    · have : ¬ 1 ≤ r := by omega
      simp [ymx, k1, h1, this]
    by_cases h2 : 3 < r
    · have : ¬ r ≤ 3 := by omega
      simp [ymx, k1, h1, h2, this]
    · have a1 : 1 ≤ r := by omega
      have a2 : r ≤ 3 := by omega
      simp [ymx, k1, h1, h2, a1, a2, y1b3, y1j hlt hl, ih]
theorem ym6 (f : Fn) (o1 o2 : AO) (n : Int) (hl : (lst f.params).length ≤ 9223372036854775807) : ∀ (d i : Nat), i + d = (lst f.params).length →
    ybz P0 (.int .i64 n) (slA f.params) (.int .i64 (lst f.params).length) (.int .i64 i) (HC f o1 o2) = if yeo (lst f.regs) i ((lst f.params).take i) ((lst f.params).drop i) then ylp P0 (.int .i64 n) (HC f o1 o2) else E80 := by
  intro d
  induction d with
  | zero =>
    intro i hi
    have e1 : (lst f.params).drop i = [] := List.drop_eq_nil_of_le (by omega)
    have hn : ¬ ((i : Int) < ((lst f.params).length : Int)) := by omega
    rw [yhb, e1]
    simp [yuu, yyz, hn, yeo]
  | succ d ih =>
    intro i hi
    have hlt : i < (lst f.params).length := by omega
    have hc : ((i : Int) < ((lst f.params).length : Int)) := by omega
    have k1 := y55 (o := f.params) (i := i) (List.getElem?_eq_getElem hlt) .i64
    have ks := y29b (α := Int) f.params i (by omega) .i64
    simp only [yv4] at ks
    have hlm : lst (f.params.map (List.take i)) = (lst f.params).take i := by cases f.params <;> simp
    have e1 : yeo (lst f.regs) i ((lst f.params).take i) ((lst f.params).drop i) = ((inR (lst f.regs) (lst f.params)[i] && !((lst f.params).take i).contains (lst f.params)[i] && decide (i ≤ 20)) && yeo (lst f.regs) (i + 1) ((lst f.params).take (i + 1)) ((lst f.params).drop (i + 1))) := by
      rw [List.drop_eq_getElem_cons hlt, yeo, List.take_append_getElem]
    rw [yhb, e1]
    have hct : (y8 E).p 46 [slA (f.params.map (List.take i)), .int .i64 (lst f.params)[i]] = some ⟨.bool (((lst f.params).take i).contains (lst f.params)[i]), [], true, [], []⟩ := by
      rw [y8v _ _ (by rw [hlm, List.length_take]; omega), hlm]
    generalize hr : (lst f.params)[i] = r at *
    generalize ((lst f.params).take i).contains r = B at *
    have ih := ih (i + 1) (by omega)
    push_cast at ih
    simp only [yuu, yyz, yi, y9, hc, decide_true, y23]
    have e20 : ((20 : Int) < (i : Int)) ↔ ¬ i ≤ 20 := by omega
    by_cases h1 : r < 0
    · have : ¬ 0 ≤ r := by omega
      simp [yfk, k1, inR, h1, this]
    by_cases h2 : ((lst f.regs).length : Int) ≤ r
    · have : ¬ r < ((lst f.regs).length : Int) := by omega
      simp [yfk, k1, inR, h1, h2, this]
    · have a1 : 0 ≤ r := by omega
      have a2 : r < ((lst f.regs).length : Int) := by omega
      cases B with
      | true => simp [yfk, k1, inR, h1, h2, a1, a2, ks, hct]
      | false =>
        by_cases h3 : i ≤ 20
        · have h3' : ¬ ((20 : Int) < (i : Int)) := by omega
          simp [yfk, k1, inR, h1, h2, a1, a2, ks, hct, h3, h3', y1cd, y1j hlt hl, ih]
        · have h3' : ((20 : Int) < (i : Int)) := by omega
          simp [yfk, k1, inR, h1, h2, a1, a2, ks, hct, h3, h3']
theorem y0b {R : List Int} {ret : Int} {n : Nat} {x : Ins} (h : y3l R ret n x = true) (hl : leads x.op = true) : 0 ≤ x.t ∧ x.t < n := by
  have hne : ¬ x.op = 1 ∧ ¬ x.op = 4 ∧ ¬ x.op = 7 ∧ ¬ x.op = 30 := by
    simp only [leads, Bool.or_eq_true, decide_eq_true_eq] at hl
    omega
  simp only [y3l, hne, if_false, hl, Bool.not_true, Bool.false_or, Bool.and_eq_true, decide_eq_true_eq] at h
  exact h
theorem yoe {f : Fn} {x : Ins} (h : y2w f x = true) (hl : leads x.op = true) : 0 ≤ x.t ∧ x.t < (lst f.code).length := by
  simp only [y2w, Bool.and_eq_true] at h
  exact y0b h.2 hl
structure InsFit (x : Ins) : Prop where
  n : -9223372036854775808 ≤ x.n ∧ x.n < 9223372036854775808
  s : x.s.length ≤ 9223372036854775807
  a : (lst x.args).length ≤ 9223372036854775807
theorem y0h (f : Fn) (o2 : AO) (n : Int) (x : Ins) (i g : Nat) (v92 v93 v94 : AV) (hi : i < (lst f.code).length) (hl : (lst f.code).length ≤ 9223372036854775807) (ht : leads x.op = true → 0 ≤ x.t ∧ x.t < (lst f.code).length) :
    y9k P0 (.int .i64 n) (.int .i64 i) (.lp 1 g 0 0) v92 v93 v94 (HC f ⟨g, .arr true false 9 [enc x]⟩ o2) =
      if y4w (lst f.code) i x then yui P0 (.int .i64 n) v92 v93 v94 (HC f ⟨g, .arr true false 9 [enc x]⟩ o2) else E80 := by
  by_cases h32 : x.op = 32
  · have hld : leads x.op = false := by simp [leads, h32]
    by_cases h0 : i = 0
    · subst h0
      simp [y9k, h32, y4w]
    · have h0' : ¬ ((i : Int) = 0) := by omega
      have hp : i - 1 < (lst f.code).length := by omega
      have k1 := ycl (o := f.code) (i := i - 1) (List.getElem?_eq_getElem hp) .i64
      have hw : IntKind.wrap .i64 ((i : Int) - 1) = ((i - 1 : Nat) : Int) := by rw [y1o] <;> omega
      have hg : (lst f.code).getD (i - 1) default = (lst f.code)[i - 1] := by rw [List.getD_eq_getElem?_getD, List.getElem?_eq_getElem hp]; rfl
      have hld32 : leads 32 = false := by simp [leads]
      cases he : ends ((lst f.code)[i - 1]).op with
      | true => simp [y9k, h32, y4w, h0, h0', hw, k1, hp, he, hld32]
      | false => simp [y9k, h32, y4w, h0, h0', hw, k1, hp, he]
  · cases hld : leads x.op with
    | false => simp [y9k, h32, y4w, hld]
    | true =>
      obtain ⟨t0, t1⟩ := ht hld
      have hx : x.t.toNat < (lst f.code).length := by omega
      have k2 := ydn (o := f.code) (n := x.t) t0 (List.getElem?_eq_getElem hx) .i64
      by_cases h6 : ((lst f.code)[x.t.toNat]).op = 32
      · simp [y9k, h32, y4w, hld, k2, h6, hx]
      · simp [y9k, h32, y4w, hld, k2, h6, hx]
theorem y11r (f : Fn) (o2 : AO) (n : Int) (hfit : ∀ x ∈ lst f.code, InsFit x) (hl : (lst f.code).length ≤ 9223372036854775807) : ∀ (d i : Nat) (o1 : AO), i + d = (lst f.code).length →
    ∃ o1', yc1 P0 (.int .i64 n) (slA f.code) (.int .i64 (lst f.code).length) (.int .i64 i) (HC f o1 o2) = if y5c f (lst f.code) i ((lst f.code).drop i) then y152 P0 (.int .i64 n) (HC f o1' o2) else E80 := by
  intro d
  induction d with
  | zero =>
    intro i o1 hi
    have e1 : (lst f.code).drop i = [] := List.drop_eq_nil_of_le (by omega)
    have hn : ¬ ((i : Int) < ((lst f.code).length : Int)) := by omega
    rw [yi6, e1]
    exact ⟨o1, by simp [yv9, yxn, hn, y5c]⟩
  | succ d ih =>
    intro i o1 hi
    have hlt : i < (lst f.code).length := by omega
    have hc : ((i : Int) < ((lst f.code).length : Int)) := by omega
    have k1 := ycl (o := f.code) (i := i) (List.getElem?_eq_getElem hlt) .i64
    have e1 : y5c f (lst f.code) i ((lst f.code).drop i) = (y2w f (lst f.code)[i] && y4w (lst f.code) i (lst f.code)[i] && y5c f (lst f.code) (i + 1) ((lst f.code).drop (i + 1))) := by
      rw [List.drop_eq_getElem_cons hlt, y5c]
    have fit := hfit _ (List.getElem_mem hlt)
    rw [yi6, e1]
    generalize hx : (lst f.code)[i] = x at *
    have hr := y222 f x fit.n fit.s fit.a
    simp only [yv9, yxn, yi, y9, hc, decide_true, y23]
    cases hok : y2w f x with
    | false =>
      rw [hok] at hr
      exact ⟨o1, by simp [yma, yzc, k1, hr]⟩
    | true =>
      rw [hok] at hr
      have e13 : ∀ K : Option (Ex AV), yma P0 (.int .i64 n) (slA f.code) (.int .i64 (lst f.code).length) (.int .i64 i) (HC f o1 o2) = y9k P0 (.int .i64 n) (.int .i64 i) (.lp 1 (o1.gen + 1) 0 0) (slA f.code) (.int .i64 (lst f.code).length) (.int .i64 i) (HC f ⟨o1.gen + 1, .arr true false 9 [enc x]⟩ o2) := by
        intro _
        simp [yma, yzc, k1, hr]
      rw [e13 none]
      rw [y0h f o2 n x i _ _ _ _ hlt hl (fun h => yoe hok h)]
      cases hs : y4w (lst f.code) i x with
      | false => exact ⟨o1, by simp⟩
      | true =>
        obtain ⟨o1', ih⟩ := ih (i + 1) ⟨o1.gen + 1, .arr true false 9 [enc x]⟩ (by omega)
        push_cast at ih
        exact ⟨o1', by simp [yui, y1j hlt hl, ih]⟩
structure FnFit (f : Fn) : Prop where
  ins : ∀ x ∈ lst f.code, InsFit x
  code : (lst f.code).length ≤ 9223372036854775807
  regs : (lst f.regs).length ≤ 9223372036854775807
  params : (lst f.params).length ≤ 9223372036854775807
  rows : (lst f.rows).length ≤ 9223372036854775807
theorem y14j (f : Fn) (hf : FnFit f) (o1 o2 : AO) (n : Int) (hn : n = (lst f.code).length) :
    yio P0 (.int .i64 n) (HC f o1 o2) = if (lst f.regs).all (fun k => decide (1 ≤ k) && decide (k ≤ 3)) && yeo (lst f.regs) 0 [] (lst f.params) && y5c f (lst f.code) 0 (lst f.code) && (lst f.rows).all (y7w (lst f.code)) then E0 else E80 := by
  have a1 := y11j f o1 o2 n hf.regs _ 0 (Nat.zero_add _)
  have a2 := ym6 f o1 o2 n hf.params _ 0 (Nat.zero_add _)
  obtain ⟨o1', a3⟩ := y11r f o2 n hf.ins hf.code _ 0 o1 (Nat.zero_add _)
  have a4 := y0o f o1' n hn hf.rows _ 0 o2 (Nat.zero_add _)
  simp only [Int.ofNat_zero, List.drop_zero, List.take_zero] at a1 a2 a3 a4
  have e1 : yio P0 (.int .i64 n) (HC f o1 o2) = yc5 P0 (.int .i64 n) (slA f.regs) (.int .i64 (lst f.regs).length) (.int .i64 0) (HC f o1 o2) := by simp [yio]
  have e2 : ymh P0 (.int .i64 n) (HC f o1 o2) = ybz P0 (.int .i64 n) (slA f.params) (.int .i64 (lst f.params).length) (.int .i64 0) (HC f o1 o2) := by simp [ymh]
  have e3 : ylp P0 (.int .i64 n) (HC f o1 o2) = yc1 P0 (.int .i64 n) (slA f.code) (.int .i64 (lst f.code).length) (.int .i64 0) (HC f o1 o2) := by simp [ylp]
  have e4 : y152 P0 (.int .i64 n) (HC f o1' o2) = yhk P0 (.int .i64 n) (slA f.rows) (.int .i64 (lst f.rows).length) (.int .i64 0) (HC f o1' o2) := by simp [y152]
  rw [e1, a1, e2, a2, e3, a3, e4, a4]
  generalize (lst f.regs).all (fun k => decide (1 ≤ k) && decide (k ≤ 3)) = b1
  generalize yeo (lst f.regs) 0 [] (lst f.params) = b2
  generalize y5c f (lst f.code) 0 (lst f.code) = b3
  generalize (lst f.rows).all (y7w (lst f.code)) = b4
  cases b1 <;> cases b2 <;> cases b3 <;> cases b4 <;> rfl
set_option maxHeartbeats 1000000 in
theorem yod (f : Fn) (hf : FnFit f) : (y8 E).p 8 [.agg (enc f)] = some ⟨.int .i64 (if wf f then 0 else 80), [], true, [], []⟩ := by
  rw [y2d2]
  have hall := y14j f hf ⟨0, .dead⟩ ⟨0, .dead⟩ _ rfl
  by_cases h1 : (lst f.code).length < 1
  · have h1' : ((lst f.code).length : Int) < 1 := by omega
    have : ¬ 1 ≤ (lst f.code).length := by omega
    simp [y9l, yb5, yaq, h1', wf, this]
  have h1' : ¬ ((lst f.code).length : Int) < 1 := by omega
  have g1 : 1 ≤ (lst f.code).length := by omega
  by_cases h2 : 20000 < (lst f.code).length
  · have h2' : (20000 : Int) < ((lst f.code).length : Int) := by omega
    have : ¬ (lst f.code).length ≤ 20000 := by omega
    simp [y9l, yb5, yaq, h1', h2', wf, this]
  have h2' : ¬ (20000 : Int) < ((lst f.code).length : Int) := by omega
  have g2 : (lst f.code).length ≤ 20000 := by omega
  by_cases h3 : 20000 < (lst f.regs).length
  · have h3' : (20000 : Int) < ((lst f.regs).length : Int) := by omega
    have : ¬ (lst f.regs).length ≤ 20000 := by omega
    simp [y9l, yb5, yaq, h1', h2', h3', wf, this]
  have h3' : ¬ (20000 : Int) < ((lst f.regs).length : Int) := by omega
  have g3 : (lst f.regs).length ≤ 20000 := by omega
  by_cases h4 : f.ret < 0
  · have : ¬ 0 ≤ f.ret := by omega
    simp [y9l, yb5, yaq, h1', h2', h3', h4, wf, this]
  have g4 : 0 ≤ f.ret := by omega
  by_cases h5 : 3 < f.ret
  · have : ¬ f.ret ≤ 3 := by omega
    simp [y9l, yb5, yaq, h1', h2', h3', h4, h5, wf, this]
  have g5 : f.ret ≤ 3 := by omega
  have hp : (lst f.code).length - 1 < (lst f.code).length := by omega
  have k1 := ycl (o := f.code) (i := (lst f.code).length - 1) (List.getElem?_eq_getElem hp) .i64
  have hw : IntKind.wrap .i64 (((lst f.code).length : Int) - 1) = (((lst f.code).length - 1 : Nat) : Int) := by rw [y1o] <;> omega
  have hg : (lst f.code).getD ((lst f.code).length - 1) default = (lst f.code)[(lst f.code).length - 1] := by rw [List.getD_eq_getElem?_getD, List.getElem?_eq_getElem hp]; rfl
  cases he : ends ((lst f.code)[(lst f.code).length - 1]).op with
  | false =>
    have hwf : wf f = false := by rw [wf, hg, he]; simp
    rw [hwf]
    simp [y9l, yb5, yaq, h1', h2', h3', h4, h5, hw, k1, he]
  | true =>
    have hwf : wf f = ((lst f.regs).all (fun k => decide (1 ≤ k) && decide (k ≤ 3)) && yeo (lst f.regs) 0 [] (lst f.params) && y5c f (lst f.code) 0 (lst f.code) && (lst f.rows).all (y7w (lst f.code))) := by
      rw [wf, hg, he]
      simp only [g1, g2, g3, g4, g5, decide_true, Bool.true_and]
    have e : y9l (.agg (enc f)) [⟨0, .dead⟩, ⟨0, .dead⟩, ⟨0, .dead⟩] = yio P0 (.int .i64 (lst f.code).length) (HC f ⟨0, .dead⟩ ⟨0, .dead⟩) := by
      simp [y9l, yb5, yaq, h1', h2', h3', h4, h5, hw, k1, he]
    rw [e, hall, hwf]
    split <;> rfl
end Go.Vm
namespace Go.Vm
open Cel
theorem y2cz (f : Fn) (hf : FnFit f) (hr : (lst f.rows).length ≤ 10000000000000) (hx : ∀ x ∈ lst f.code, (lst x.args).length ≤ 17592186043904) (hw : wf f = true) :
    ∃ r t, (y8 E).p 75 [.agg (enc f)] = some r ∧ r.fresh = true ∧ ync r (.rp [slA (some t.b), slA (some t.a), slA (some t.h), .int .i64 (lst f.regs).length]) ∧ TbOk (lst f.code).length ((lst f.regs).length / 64 + 1) t ∧ LvSnd f t ∧ ∀ i, i < (lst f.code).length → Cl f t i := by
  rw [y2bo]
  have w := yo0 hw
  have hn1 := w.n1
  have hn2 := w.n2
  have hR := w.regs
  have hck := yod f hf
  rw [hw] at hck
  have ha : ∀ H : Heap, yn (fz H y18) [.agg (enc f)] = some ⟨[.agg (enc f)], scal f && true, []⟩ := fun H => by
    rw [yh, y8f, yx]; rfl
  have c8 : ∀ H, y6 E (y8 E) 0 none true 8 [.agg (enc f)] H = some (.int .i64 0, H) := fun H => y1p rfl (ha H) rfl hck ⟨_, rfl, rfl⟩
  have l0 : ∀ t : Heap, evLd true 5 (.lp 0 1 0 0) (AB f :: t) = some (.agg (enc f)) := fun t => by simp
  have l3 : ∀ t : Heap, evLd false 1 (.lp 0 1 0 3) (AB f :: t) = some (slA f.code) := fun t => by simp
  have lr : ∀ t : Heap, evLd false 1 (.lp 0 1 0 0) (AB f :: t) = some (slA f.regs) := fun t => by simp
  have n0 : newC 0 (some 0) (cellsOf (.agg (enc f))) [D0, D0, D0] = some (.lp 0 1 0 0, [AB f, D0, D0]) := by simp
  obtain ⟨q1, _⟩ := yki (r := (lst f.regs).length) (by omega)
  have hwr : IntKind.wrap .i64 ((((lst f.regs).length / 64 : Nat) : Int) + 1) = (((lst f.regs).length / 64 + 1 : Nat) : Int) := by
    rw [y1o] <;> omega
  have bd : yu [.nils, .nils, .nils, .int .i64 0] [(3, 1, .int .i64 (lst f.regs).length)] = some (.agg [.nils, .nils, .nils, .int .i64 (lst f.regs).length]) := by rfl
  have n1 : newC 0 (some 1) (cellsOf (.agg [.nils, .nils, .nils, .int .i64 (lst f.regs).length])) [AB f, D0, D0] = some (.lp 1 1 0 0, HB0 f) := by rfl
  obtain ⟨H1, P1, Q1, e1, R1⟩ := y12g (f := f) hn2 hR ((lst f.code).length - 1) 1 _ _ _ (by omega) (by omega) (rep1 f)
  obtain ⟨t, ht1, ht2, ht3, ht4⟩ := ybn w ((lst f.code).length * ((lst f.regs).length + 1) + 1) (tb0 f) y1tt y1hy (by omega)
  obtain ⟨H2, e2, L2⟩ := y1ll w hr hx _ (tb0 f) H1 t (R1.done hn1) ht1
  obtain ⟨r, e3, fr, rd⟩ := L2.reads
  refine ⟨r, t, ?_, fr, rd, ht2, ht3, ht4⟩
  rw [← e3, ← e2]
  have hc : (0 : Int) < ((lst f.code).length : Int) := by omega
  have hw1 : IntKind.wrap .i64 ((0 : Int) + 1) = ((1 : Nat) : Int) := by rw [y1o] <;> omega
  have ef := first f (.int .i64 (lst f.code).length) (.int .i64 (lst f.code).length) (.int .i64 0) (W := (lst f.regs).length / 64 + 1) (by omega)
  have e42 : yy9 (.lp 0 1 0 0) (.int .i64 (lst f.code).length) (.lp 1 1 0 0) H1 = yb2 (.lp 0 1 0 0) (.int .i64 (lst f.code).length) (.lp 1 1 0 0) (.bool true) H1 := rfl
  rw [← e42, ← e1]
  simp only [y1ad, n0, yr, y1ef, l0, y9, c8, y5q, show decide ((0 : Int) ≠ 0) = false from rfl, y2u, y138, y1c, Nat.zero_add, l3, y3c, lr, q1, yy, hwr, y1g6, bd, n1, y1jo]
  rw [yc0]
  simp only [ylr, yi, y9, hc, decide_true, ynq, y23, ef, yhl, yy, hw1]
end Go.Vm
namespace Go.Vm
open Cel
attribute [local simp] y6 y1n yj
@[simp] theorem y24k (x : Ins) : (y8 E).p 20 [.agg (enc x)] = some ⟨.bool (purel x.op), [], true, [], []⟩ := by
  rw [y2cq]
  rcases yas x.op with h|h|h|h|h|h|h|h|h|h|h|h|h|h|h|h|h|h|h|h|h|h|h|h|h|h|h|h|h|h|h|h|h|h|h <;> first | (simp [h, purel, y1f1, ya1, y15y, y1fs, y1f3]; done) | (simp [lo_f h, purel, y1f1, ya1, y15y, y1fs, y1f3]; done) | simp [hi_f h, purel, y1f1, ya1, y15y, y1fs, y1f3]
end Go.Vm
namespace Go.Vm
open Cel
theorem Swap.args {f g : Fn} (h : ∀ i, i < (lst f.code).length → yd g i = yd f i ∨ yd g i = nopI) (s : Swap f g) {P : Ins → Prop} (h0 : P nopI) (hp : ∀ x ∈ lst f.code, P x) : ∀ x ∈ lst g.code, P x := by
  intro x hx
  obtain ⟨i, hi, e⟩ := List.getElem_of_mem hx
  have hi' : i < (lst f.code).length := by rw [← s.len]; exact hi
  have ex : yd g i = x := by rw [yd, List.getD_eq_getElem?_getD, List.getElem?_eq_getElem hi, e]; rfl
  rcases h i hi' with h | h
  · rw [← ex, h]
    exact hp _ (List.mem_of_getElem? (y4m hi'))
  · rw [← ex, h]; exact h0
theorem y1kc {f : Fn} (hf : FnFit f) : FnFit (y3z f) := by
  refine ⟨Swap.args (fun i hi => ?_) (y98 f) ⟨by decide, by decide, by decide⟩ hf.ins, by rw [y2h]; exact hf.code, hf.regs, hf.params, hf.rows⟩
  rw [y3r f hi]; split
  · exact .inr rfl
  · exact .inl rfl
theorem y01 {f : Fn} (hx : yhw f) : yhw (y3z f) := by
  refine Swap.args (P := fun x => (lst x.args).length ≤ 17592186043904) (fun i hi => ?_) (y98 f) (by decide) hx
  rw [y3r f hi]; split
  · exact .inr rfl
  · exact .inl rfl
noncomputable def mixL (f : Fn) (i : Nat) : List Ins := (List.range (lst f.code).length).map fun k => if decide (k < i) && y20 f k then nopI else yd f k
theorem yva (f : Fn) (i : Nat) : (mixL f i).length = (lst f.code).length := by simp [mixL]
theorem y25s {f : Fn} {L : List Ins} (h : f.code = some L) : yad f (mixL f 0) = f := by
  have : mixL f 0 = L := by
    refine List.ext_getElem (by simp [mixL, h]) fun k h1 h2 => ?_
    simp [mixL, yd, h, List.getD_eq_getElem?_getD, h2]
  rw [this, yce h]
theorem y28t (f : Fn) : yad f (mixL f (lst f.code).length) = y3z f := by
  unfold yad y3z mixL
  congr 2
  refine List.map_congr_left fun k hk => ?_
  simp [List.mem_range.1 hk]
theorem y218 {f : Fn} {i : Nat} (h : i < (lst f.code).length) : (mixL f i)[i]? = some (yd f i) := by simp [mixL, h]
theorem y149 {f : Fn} {i : Nat} (h : i < (lst f.code).length) : mixL f (i + 1) = if y20 f i then (mixL f i).set i nopI else mixL f i := by
  cases hd : y20 f i with
  | true =>
    rw [if_pos rfl]
    refine List.ext_getElem (by simp [mixL]) fun k h1 h2 => ?_
    rw [List.getElem_set]
    by_cases e : i = k
    · subst e; simp [mixL, hd]
    · rw [if_neg e]
      have : k < i + 1 ↔ k < i := by omega
      simp [mixL, this]
  | false =>
    rw [if_neg Bool.false_ne_true]
    refine List.ext_getElem (by simp [mixL]) fun k h1 h2 => ?_
    by_cases e : i = k
    · subst e; simp [mixL, hd]
    · have : k < i + 1 ↔ k < i := by omega
      simp [mixL, this]
section
variable {f : Fn} (w : Wf f) {t : Tb} (ok : TbOk (lst f.code).length ((lst f.regs).length / 64 + 1) t) (S : LvSnd f t) (C : ∀ i, i < (lst f.code).length → Cl f t i)
include w ok S C
theorem y116 (p g : Nat → Nat) : ∀ (d i : Nat) (H : Heap) (b : Bool), i + d = (lst f.code).length → DSt H (yad f (mixL f i)) p g 11 →
    ∃ H', y0v (.lp 0 1 0 0) (.lp 1 1 0 0) (.bool b) (tv t (lst f.regs).length) (.ls (p 2) (g 2) 9 0 (lst f.code).length) (.int .i64 (lst f.code).length) (.int .i64 i) H =
      yks (.lp 0 1 0 0) (.lp 1 1 0 0) (.bool (b || ((List.range (lst f.code).length).drop i).any (y20 f))) H' ∧ DSt H' (y3z f) p g 11 := by
  have hn := w.n2
  have hR := w.regs
  intro d
  induction d with
  | zero =>
    intro i H b hi D
    have e : i = (lst f.code).length := by omega
    have hc : ¬ (i : Int) < ((lst f.code).length : Int) := by omega
    rw [e, y28t] at D
    refine ⟨H, ?_, D⟩
    have e0 : (List.range (lst f.code).length).drop i = [] := List.drop_eq_nil_of_le (by simp; omega)
    rw [ywj, e0]
    simp only [q6_7, yi, y9, hc, decide_false, q6_6, y2u, List.any_nil, Bool.or_false]
  | succ d ih =>
    intro i H b hi D
    have hlt : i < (lst f.code).length := by omega
    have hc : (i : Int) < ((lst f.code).length : Int) := by omega
    have hw := y1j hlt (by omega)
    have kx := y244 hlt (p 2) (g 2) 9 .i64
    have hcode : (yad f (mixL f i)).code = some (mixL f i) := rfl
    have lx := D.ix hcode (y218 hlt)
    obtain ⟨o, ho⟩ : ∃ o, H[0 + 10]? = some o := ⟨_, List.getElem?_eq_getElem (by have := D.len; omega)⟩
    have nx : newC 0 (some 10) [.int .i64 0, .int .i64 0, .int .i64 0, .int .i64 0, .int .i64 0, .int .i64 0, .int .i64 0, .str [], .nils] H = some (.lp 10 (o.gen + 1) 0 0, H.set 10 ⟨o.gen + 1, .arr true false 9 [[.int .i64 0, .int .i64 0, .int .i64 0, .int .i64 0, .int .i64 0, .int .i64 0, .int .i64 0, .str [], .nils]]⟩) := by
      rw [Nat.zero_add] at ho
      simp [ho]
    have h10 : 10 < H.length := by have := D.len; omega
    have sx : evSt 9 (.lp 10 (o.gen + 1) 0 0) (.agg (enc (yd f i))) (H.set 10 ⟨o.gen + 1, .arr true false 9 [[.int .i64 0, .int .i64 0, .int .i64 0, .int .i64 0, .int .i64 0, .int .i64 0, .int .i64 0, .str [], .nils]]⟩) = some (.tup [], H.set 10 (AX (o.gen + 1) (yd f i))) := by
      have hg := y4e (x := (⟨o.gen + 1, .arr true false 9 [[.int .i64 0, .int .i64 0, .int .i64 0, .int .i64 0, .int .i64 0, .int .i64 0, .int .i64 0, .str [], .nils]]⟩ : AO)) h10
      have hr : ym (H.set 10 ⟨o.gen + 1, .arr true false 9 [[.int .i64 0, .int .i64 0, .int .i64 0, .int .i64 0, .int .i64 0, .int .i64 0, .int .i64 0, .str [], .nils]]⟩) 10 (o.gen + 1) = some (false, 9, [[.int .i64 0, .int .i64 0, .int .i64 0, .int .i64 0, .int .i64 0, .int .i64 0, .int .i64 0, .str [], .nils]]) := by simp [ym, y2z, hg]
      simp [y2o, hr, y1r, hg, yt]
    have D1 := D.set (a := 10) (x := AX (o.gen + 1) (yd f i)) (by omega)
    have hX : (H.set 10 (AX (o.gen + 1) (yd f i)))[10]? = some (AX (o.gen + 1) (yd f i)) := y4e h10
    generalize H.set 10 (AX (o.gen + 1) (yd f i)) = H1 at *
    have rX : ym H1 10 (o.gen + 1) = some (false, 9, [enc (yd f i)]) := by simp [ym, y2z, hX]
    have lX : evLd true 9 (.lp 10 (o.gen + 1) 0 0) H1 = some (.agg (enc (yd f i))) := by simp [y2n, rX]
    have lD : evLd false 1 (.lp 10 (o.gen + 1) 0 1) H1 = some (.int .i64 (yd f i).d) := by simp [y2n, rX]
    have ax : ∀ H : Heap, yn (fz H y18) [.agg (enc (yd f i))] = some ⟨[.agg (enc (yd f i))], scal (yd f i) && true, []⟩ := fun H => by
      rw [yh, y8f, yx]; rfl
    have cP : ∀ H, y6 E (y8 E) 0 none true 20 [.agg (enc (yd f i))] H = some (.bool (purel (yd f i).op), H) := fun H => y1p rfl (ax H) rfl (y24k _) ⟨_, rfl, rfl⟩
    have q2 := y1z1 t (R := (lst f.regs).length) (by omega) (fun i hi => ok.aw i (by rw [← ok.a]; exact hi)) i (yd f i).d
    rw [y24o w ok S C] at q2
    have cA : ∀ H, y6 E (y8 E) 0 none true 87 [tv t (lst f.regs).length, .int .i64 i, .int .i64 (yd f i).d] H = some (.bool (aftR f i (yd f i).d), H) := fun H => y1p rfl (y26e _ _ i _ H) rfl q2 ⟨_, rfl, rfl⟩
    have lc := D1.ldc
    have hov : ownV (p 2) (g 2) (yad f (mixL f i)).code = .ls (p 2) (g 2) 9 0 (lst f.code).length := by
      show ownV (p 2) (g 2) (some (mixL f i)) = _
      rw [ownV, yva]; rfl
    rw [hov] at lc
    have bn : yu [.int .i64 0, .int .i64 0, .int .i64 0, .int .i64 0, .int .i64 0, .int .i64 0, .int .i64 0, .str [], .nils] [(0, 1, .int .i64 33)] = some (.agg (enc nopI)) := rfl
    have st := D1.st hcode (i := i) (by rw [yva]; exact hlt) nopI
    have any1 : ((List.range (lst f.code).length).drop i).any (y20 f) = (y20 f i || ((List.range (lst f.code).length).drop (i + 1)).any (y20 f)) := by
      rw [List.drop_eq_getElem_cons (by simp; omega), List.any_cons, List.getElem_range]
    rw [ywj, any1]
    have e4 : ∀ (b : Bool) (H : Heap), q6_4 (.lp 0 1 0 0) (.lp 1 1 0 0) (.bool b) (tv t (lst f.regs).length) (.ls (p 2) (g 2) 9 0 (lst f.code).length) (.int .i64 (lst f.code).length) (.int .i64 i) H =
        y0v (.lp 0 1 0 0) (.lp 1 1 0 0) (.bool b) (tv t (lst f.regs).length) (.ls (p 2) (g 2) 9 0 (lst f.code).length) (.int .i64 (lst f.code).length) (.int .i64 (i + 1 : Nat)) H := fun b H => by
      simp only [q6_4, yy, y9, hw]; rfl
    have ms := y149 hlt
    cases hp : purel (yd f i).op with
    | false =>
      have hd : y20 f i = false := by rw [y20, hp]; rfl
      rw [hp] at cP
      rw [hd] at ms
      simp only [Bool.false_eq_true, if_false] at ms
      rw [← ms] at D1
      obtain ⟨H', h1, h2⟩ := ih (i + 1) H1 b (by omega) D1
      refine ⟨H', ?_, h2⟩
      rw [hd, Bool.false_or, ← h1, ← e4]
      simp only [q6_7, yi, y9, hc, decide_true, q6_6, y23, q6_5, kx, lx, nx, yr, sx, lX, cP, yeg, y1f7, y30, y2u]
    | true =>
      rw [hp] at cP
      cases ha : aftR f i (yd f i).d with
      | true =>
        have hd : y20 f i = false := by rw [y20, hp, ha]; rfl
        rw [ha] at cA
        rw [hd] at ms
        simp only [Bool.false_eq_true, if_false] at ms
        rw [← ms] at D1
        obtain ⟨H', h1, h2⟩ := ih (i + 1) H1 b (by omega) D1
        refine ⟨H', ?_, h2⟩
        rw [hd, Bool.false_or, ← h1, ← e4]
        simp only [q6_7, yi, y9, hc, decide_true, q6_6, y23, q6_5, kx, lx, nx, yr, sx, lX, cP, ya2, y1lv, y1c, Nat.zero_add, lD, cA, y2y, Bool.not_true, y28, y2u]
      | false =>
        have hd : y20 f i = true := by rw [y20, hp, ha]; rfl
        rw [ha] at cA
        rw [hd] at ms
        simp only [if_true] at ms
        have D2 := D1.setCode (L' := (mixL f i).set i nopI) hcode (by simp)
        rw [← ms] at D2
        have D2' : DSt (H1.set (p 2) ⟨g 2, .arr false false 9 ((mixL f (i + 1)).map enc)⟩) (yad f (mixL f (i + 1))) p g 11 := D2
        rw [← ms] at st
        obtain ⟨H', h1, h2⟩ := ih (i + 1) _ true (by omega) D2'
        refine ⟨H', ?_, h2⟩
        rw [hd, Bool.true_or, Bool.or_true]
        rw [Bool.true_or] at h1
        rw [← h1, ← e4]
        simp only [q6_7, yi, y9, hc, decide_true, q6_6, y23, q6_5, kx, lx, nx, yr, sx, lX, cP, ya2, y1lv, y1c, Nat.zero_add, lD, cA, y2y, Bool.not_false, y28, lc, bn, st]
end
theorem y1hl {f g0 : Fn} (hd : DeadTo f g0) (p g : Nat → Nat) : ∀ {L : List Ins}, f.code = some L → wf f = true → FnFit f → (lst f.rows).length ≤ 10000000000000 → yhw f → ∀ H, DSt H f p g 11 →
    ∃ H', yks (.lp 0 1 0 0) (.lp 1 1 0 0) (.bool true) H = q6_1 (.lp 0 1 0 0) (.lp 1 1 0 0) H' ∧ DSt H' g0 p g 11 := by
  have one : ∀ {f : Fn} {L : List Ins}, f.code = some L → wf f = true → FnFit f → (lst f.rows).length ≤ 10000000000000 → yhw f → ∀ H, DSt H f p g 11 →
      ∃ H', yks (.lp 0 1 0 0) (.lp 1 1 0 0) (.bool true) H = yks (.lp 0 1 0 0) (.lp 1 1 0 0) (.bool (y9u f)) H' ∧ DSt H' (y3z f) p g 11 := by
    intro f L hL hw hf hr hx H D
    have w := yo0 hw
    obtain ⟨q, t, hO, hfr, hR, ok, S, C⟩ := y2cz f hf hr hx hw
    have cO := D.call (E := E) (C := y8 E) (fb := 0) (sl := none) (k := 75) rfl hfr hO hR
    have lc := D.ldc
    have hov : ownV (p 2) (g 2) f.code = .ls (p 2) (g 2) 9 0 (lst f.code).length := by rw [hL]; rfl
    rw [hov] at lc
    have D0 : DSt H (yad f (mixL f 0)) p g 11 := by rw [y25s hL]; exact D
    obtain ⟨H', h1, h2⟩ := y116 w ok S C p g _ 0 H false (Nat.zero_add _) D0
    refine ⟨H', ?_, h2⟩
    rw [List.drop_zero, Bool.false_or] at h1
    rw [y9u, ← h1, yx2]
    simp only [y1nk, y23, y1wc, y206, D.ld, y9, cO, yr, q6_9, y1c, Nat.zero_add, lc, yju]
    rfl
  induction hd with
  | done h =>
    intro L hL hw hf hr hx H D
    obtain ⟨H', h1, h2⟩ := one hL hw hf hr hx H D
    rename_i f
    have e : y3z f = f := by
      have h3 : ∀ i, i < (lst f.code).length → y20 f i = false := fun i hi => by
        have := List.any_eq_false.1 h i (List.mem_range.2 hi)
        simpa using this
      have : (List.range (lst f.code).length).map (fun i => if y20 f i then nopI else yd f i) = L := by
        refine List.ext_getElem (by simp [hL]) fun k h1 h2 => ?_
        have hk : k < (lst f.code).length := by rw [hL]; exact h2
        simp [h3 k hk, yd, hL, List.getD_eq_getElem?_getD, h2]
      rw [y3z, this]
      exact yce hL
    rw [e] at h2
    refine ⟨H', ?_, h2⟩
    rw [h1, h, yx2]
    simp only [y1nk, y2u]
  | @more f g0 h _ ih =>
    intro L hL hw hf hr hx H D
    obtain ⟨H', h1, h2⟩ := one hL hw hf hr hx H D
    obtain ⟨H2, h3, h4⟩ := ih (L := (List.range (lst f.code).length).map fun i => if y20 f i then nopI else yd f i) rfl (ykj hw) (y1kc hf) hr (y01 hx) H' h2
    exact ⟨H2, by rw [h1, h, h3], h4⟩
theorem y1xd (f : Fn) (hf : FnFit f) (hs : FnSm f) (hr : (lst f.rows).length ≤ 10000000000000) :
    (wf f = false → (y8 E).p 118 [.agg (enc f)] = some (y1v f)) ∧ (wf f = true → ∃ g, DeadTo f g ∧ (y8 E).p 118 [.agg (enc f)] = some (y1v g)) := by
  have n0 : newC 0 (some 0) (cellsOf (.agg (enc f))) [⟨0, .dead⟩, ⟨0, .dead⟩, ⟨0, .dead⟩, ⟨0, .dead⟩, ⟨0, .dead⟩, ⟨0, .dead⟩, ⟨0, .dead⟩, ⟨0, .dead⟩, ⟨0, .dead⟩, ⟨0, .dead⟩, ⟨0, .dead⟩] = some (.lp 0 1 0 0, [AB f, D0, D0, D0, D0, D0, D0, D0, D0, D0, D0]) := by simp
  have n1 : newC 0 (some 1) [.nils, .nils, .int .i64 0, .nils, .nils] [AB f, D0, D0, D0, D0, D0, D0, D0, D0, D0, D0] = some (.lp 1 1 0 0, [AB f, ⟨1, .arr true false 5 [[.nils, .nils, .int .i64 0, .nils, .nils]]⟩, D0, D0, D0, D0, D0, D0, D0, D0, D0]) := by simp
  have l0 : ∀ t : Heap, evLd true 5 (.lp 0 1 0 0) (AB f :: t) = some (.agg (enc f)) := fun t => by simp
  obtain ⟨H1, H2, p, g, e1, e2, D, _, _⟩ := y11q hs (H := [AB f, ⟨1, .arr true false 5 [[.nils, .nils, .int .i64 0, .nils, .nils]]⟩, D0, D0, D0, D0, D0, D0, D0, D0, D0]) rfl ⟨_, rfl, rfl⟩ (n := 11) (by omega) (by simp)
  have hck := yod f hf
  have c8 := D.call (E := E) (C := y8 E) (fb := 0) (sl := none) (k := 8) rfl rfl hck ⟨_, rfl, rfl⟩
  have e17 : (y8 E).p 118 [.agg (enc f)] = y153 (.lp 0 1 0 0) (.lp 1 1 0 0) H2 := by
    rw [x_q6]
    simp only [y1z3, n0, yr, n1, y1vf, l0, y9, e1, e2]
  refine ⟨fun hw => ?_, fun hw => ?_⟩
  · rw [hw] at c8
    obtain ⟨H3, o1, o2, o3⟩ := D.out
    rw [e17]
    simp only [y153, D.ld, y9, c8, Bool.false_eq_true, if_false, yr, y5q, show decide ((80 : Int) ≠ 0) = true from rfl, y23, o1, o2, o3]
  · rw [hw] at c8
    obtain ⟨L, hL⟩ : ∃ L, f.code = some L := by
      cases hc : f.code with
      | none => have := (yo0 hw).n1; rw [hc] at this; simp at this
      | some L => exact ⟨L, rfl⟩
    obtain ⟨g0, hd⟩ := DeadTo.exists_ _ f (Nat.lt_succ_self _)
    obtain ⟨H3, h1, D3⟩ := y1hl hd p g hL hw hf hr hs.args H2 D
    obtain ⟨H4, o1, o2, o3⟩ := D3.out
    refine ⟨g0, hd, ?_⟩
    rw [e17]
    have e15 : y20x (.lp 0 1 0 0) (.lp 1 1 0 0) H2 = yks (.lp 0 1 0 0) (.lp 1 1 0 0) (.bool true) H2 := rfl
    simp only [y153, D.ld, y9, c8, if_true, yr, y5q, show decide ((0 : Int) ≠ 0) = false from rfl, y2u, e15, h1, q6_1, D3.ld, o1, o2, o3]
end Go.Vm
namespace Go.Vm
open Cel
attribute [local simp] y6 y1n yj
theorem y1ft (a b : Option (List Int)) (hn : (lst a).length = (lst b).length) (hl : (lst a).length ≤ 9223372036854775807) (h : Heap) : ∀ (d i : Nat), i + d = (lst a).length →
    ycp (slA a) (slA b) (.int .i64 i) h = some ⟨.bool (decide ((lst a).drop i = (lst b).drop i)), [], true, [], []⟩ := by
  intro d
  induction d with
  | zero =>
    intro i hi
    have e1 : (lst a).drop i = [] := List.drop_eq_nil_of_le (by omega)
    have e2 : (lst b).drop i = [] := List.drop_eq_nil_of_le (by omega)
    rw [yh0, e1, e2]
    have : ¬ ((i : Int) < ((lst a).length : Int)) := by omega
    simp [yee, yfv, ygb, yg7, ygg, yfc, ya4, this]
  | succ d ih =>
    intro i hi
    have h1 : i < (lst a).length := by omega
    have h2 : i < (lst b).length := by omega
    have hc : ((i : Int) < ((lst a).length : Int)) := by omega
    have k1 := y55 (o := a) (i := i) (List.getElem?_eq_getElem h1) .i64
    have k2 := y55 (o := b) (i := i) (List.getElem?_eq_getElem h2) .i64
    rw [yh0, y1pl h1 h2]
    by_cases he : (lst a)[i] = (lst b)[i]
    · have := ih (i + 1) (by omega)
      push_cast at this
      simp [yee, yfv, ygb, yg7, ygg, yfc, ya4, hc, k1, k2, he, y1j h1 hl, this]
    · simp [yee, yfv, ygb, yg7, ygg, yfc, ya4, hc, k1, k2, he]
@[simp] theorem y287 (a b : Option (List Int)) (hl : (lst a).length ≤ 9223372036854775807) : (y8 E).p 11 [slA a, slA b] = some ⟨.bool (decide (lst a = lst b)), [], true, [], []⟩ := by
  rw [y27d]
  by_cases hn : (lst a).length = (lst b).length
  · have := y1ft a b hn hl [] (lst a).length 0 (by omega)
    simp only [Int.ofNat_zero, List.drop_zero] at this
    have hn' : ((lst a).length : Int) = ((lst b).length : Int) := by omega
    simp [yee, yfv, ygb, yg7, ygg, yfc, ya4, hn', show ycp (slA a) (slA b) (.int .i64 0) [] = _ from this]
  · have hn' : ¬ ((lst a).length : Int) = ((lst b).length : Int) := by omega
    have : ¬ lst a = lst b := fun h => hn (by rw [h])
    simp [yee, yfv, ygb, yg7, ygg, yfc, ya4, hn', this]
end Go.Vm
namespace Go.Vm
open Cel
attribute [local simp] y6 y1n yj
def y5l (x y : Ins) : Bool := decide (x.op = y.op) && decide (x.d = y.d) && decide (x.a = y.a) && decide (x.b = y.b) && decide (x.c = y.c) && decide (x.n = y.n) && decide (x.t = y.t) && decide (x.s = y.s) && decide (lst x.args = lst y.args)
set_option maxHeartbeats 1000000 in
@[simp] theorem y24p (x y : Ins) (hl : (lst x.args).length ≤ 9223372036854775807) : (y8 E).p 28 [.agg (enc x), .agg (enc y)] = some ⟨.bool (y5l x y), [], true, [], []⟩ := by
  rw [y272]
  have hi := y287 x.args y.args hl
  by_cases h1 : x.op = y.op
  · by_cases h2 : x.d = y.d
    · by_cases h3 : x.a = y.a
      · by_cases h4 : x.b = y.b
        · by_cases h5 : x.c = y.c
          · by_cases h6 : x.n = y.n
            · by_cases h7 : x.t = y.t
              · by_cases h8 : x.s = y.s
                · simp [y8d, y5l, h1, h2, h3, h4, h5, h6, h7, h8, hi]
                · simp [y8d, y5l, h1, h2, h3, h4, h5, h6, h7, h8]
              · simp [y8d, y5l, h1, h2, h3, h4, h5, h6, h7]
            · simp [y8d, y5l, h1, h2, h3, h4, h5, h6]
          · simp [y8d, y5l, h1, h2, h3, h4, h5]
        · simp [y8d, y5l, h1, h2, h3, h4]
      · simp [y8d, y5l, h1, h2, h3]
    · simp [y8d, y5l, h1, h2]
  · simp [y8d, y5l, h1]
end Go.Vm
namespace Go.Vm
open Cel
attribute [local simp] y6 y1n yj
structure FnLen (f : Fn) : Prop where
  regs : (lst f.regs).length ≤ 9223372036854775807
  params : (lst f.params).length ≤ 9223372036854775807
  code : (lst f.code).length ≤ 9223372036854775807
  rows : (lst f.rows).length ≤ 9223372036854775807
  args : ∀ x ∈ lst f.code, (lst x.args).length ≤ 9223372036854775807
end Go.Vm
namespace Go.Vm
open Cel
attribute [local simp] y6 y1n yj
end Go.Vm
namespace Go.Vm
open Cel
attribute [local simp] y6 y1n yj
theorem y1wi (op : Int) (o : Option (List Int)) (hl : (lst o).length ≤ 9223372036854775807) (h : Heap) : ∀ (d i : Nat), i + d = (lst o).length →
    yev (.int .i64 op) (slA o) (.int .i64 i) h = some ⟨.bool (decide (op ∈ (lst o).drop i)), [], true, [], []⟩ := by
  intro d
  induction d with
  | zero =>
    intro i hi
    have e1 : (lst o).drop i = [] := List.drop_eq_nil_of_le (by omega)
    have hn : ¬ ((i : Int) < ((lst o).length : Int)) := by omega
    rw [yhx, e1]
    simp [yhp, yhq, yid, yja, yi1, yhh, hn]
  | succ d ih =>
    intro i hi
    have hlt : i < (lst o).length := by omega
    have hn : ((i : Int) < ((lst o).length : Int)) := by omega
    have k1 := y55 (o := o) (i := i) (List.getElem?_eq_getElem hlt) .i64
    have hm : op ∈ (lst o).drop i ↔ op = (lst o)[i] ∨ op ∈ (lst o).drop (i + 1) := by rw [List.drop_eq_getElem_cons hlt, List.mem_cons]
    rw [yhx]
    simp only [hm]
    have ih := ih (i + 1) (by omega)
    push_cast at ih
    by_cases he : (lst o)[i] = op
    · simp [yhp, yhq, yid, yja, yi1, yhh, hn, k1, he]
    · have he' : ¬ op = (lst o)[i] := fun h => he h.symm
      simp [yhp, yhq, yid, yja, yi1, yhh, hn, k1, he, he', y1j hlt hl, ih]
theorem s_in (op : Int) (o : Option (List Int)) (hl : (lst o).length ≤ 9223372036854775807) : (y8 E).p 42 [.int .i64 op, slA o] = some ⟨.bool (decide (op ∈ lst o)), [], true, [], []⟩ := by
  have := y1wi op o hl [] _ 0 (Nat.zero_add _)
  simp only [Int.ofNat_zero, List.drop_zero] at this
  rw [y245, ← this]
  simp [yhp, yhq, yid, yja, yi1, yhh]
theorem y240 (op a b c : Int) : (y8 E).p 42 [.int .i64 op, .rs 1 [[.int .i64 a], [.int .i64 b], [.int .i64 c]]] = some ⟨.bool (decide (op ∈ [a, b, c])), [], true, [], []⟩ :=
  s_in op (some [a, b, c]) (by simp)
theorem y17r (g a b c : Nat) (x y z : Int) (t : Heap) : fz (⟨g, .arr false false 1 [[.int .i64 x], [.int .i64 y], [.int .i64 z]]⟩ :: t) y18 (.ls 0 g 1 0 3) = some ⟨.rs 1 [[.int .i64 x], [.int .i64 y], [.int .i64 z]], true, [0]⟩ := by
  rw [y1sx, yae]; rfl
@[simp] theorem y29x (op : Int) : (y8 E).p 23 [.int .i64 op] = some ⟨.bool (leads op), [], true, [], []⟩ := by
  rw [y276, y14d]
  simp [yp, y15, y17r 1 0 0 0, y240, leads, Bool.or_assoc]
@[simp] theorem y2ch (op : Int) : (y8 E).p 25 [.int .i64 op] = some ⟨.bool (ends op), [], true, [], []⟩ := by
  rw [y299, y15m]
  simp [yp, y15, y17r 1 0 0 0, y240, ends, Bool.or_assoc]
end Go.Vm
namespace Go.Vm
open Cel
attribute [local simp] y6 y1n yj
end Go.Vm
