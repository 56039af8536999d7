/- Code words: the loops over instructions, ways and rows on the machine. Code words: the rows, and what is handed out. Moves that are put in order: the loop over the map that turns it. Moves that are put in order: what moves from where. Moves that are put in order: places that nobody reads. Moves that are put in order: the plain model, whole. Moves that are put in order: what the places hold while they are written. Moves that are put in order: the closure that writes what may be written. Moves that are put in order: a round of the closure. Moves that are put in order: the closure, whole. Moves that are put in order: a circle's readers, in whatever order. Moves that are put in order: who reads a place of a circle reads the place beside. Moves that are put in order: a circle is opened. Moves that are put in order: the loop over circles, and the whole. Moves that are put in order: the loop over circles. Moves that are put in order: the whole. Moves that are put in order: the answer. Moves that are put in order: there is an answer. -/
import Derived.Test.YtjlbafgbohekfaaNX
import Derived.Test.YtjlbafgbohekfaaNTd
set_option linter.unusedSimpArgs false
set_option linter.unusedVariables false
set_option linter.unusedSectionVars false
namespace Go.Vm
open Cel
theorem y1jp {A : List Int} {n : Nat} (w : Int) (hn : 1 ≤ n) : (A ++ List.replicate n (0 : Int)).set A.length w = (A ++ [w]) ++ List.replicate (n - 1) 0 := by
 obtain ⟨m, rfl⟩ : ∃ m, n = m + 1 := ⟨n - 1, by omega⟩
 rw [List.replicate_succ, List.set_append_right _ _ (zi _), Nat.sub_self, z2b, z1m, Nat.add_sub_cancel]
 rfl
section
variable {f : Fn} {t : Tb} (hR : (lst f.regs).length ≤ 20000) (ok : TbOk (lst f.code).length ((lst f.regs).length / 64 + 1) t) (hn : (lst f.code).length ≤ 20000) {c : BC}
include hR ok hn
theorem y16z {i : Nat} {x : Ins} (hx : (lst f.code)[i]? = some x) (hl : (lst x.args).length ≤ 17592186043904) (ha : calls x.op = true → (lst x.args).length ≤ 21) {H : Heap} {e : ES} (hs : e.s.size + 30 ≤ 1000000) (hM : e.M.length ≤ 1000000) (S : CSt f c i e H) :
  ∃ H', ydc (.lp 0 1 0 0) (.lp 1 1 0 0) P4 (tv t (lst f.regs).length) (atV f) (slA f.code) (.int .i64 (lst f.code).length) (.int .i64 i) H =
   ydc (.lp 0 1 0 0) (.lp 1 1 0 0) P4 (tv t (lst f.regs).length) (atV f) (slA f.code) (.int .i64 (lst f.code).length) (.int .i64 (i + 1 : Nat)) H' ∧ CSt f c (i + 1) (ye9 f t i x e) H' := by
 obtain ⟨x9, x10, x11, x12, KR, vM, B, MR, hA⟩ := S
 have hi : i < (lst f.code).length := (zb.1 hx).1
 have hi' : (i : Int) < ((lst f.code).length : Int) := by omega
 have B1 := Bd.put (A := [_, _, _, _]) B (AX (x9.gen + 1) zI)
 have B2 := Bd.put (A := [_, _, _, _]) B1 (AX (x9.gen + 1) x)
 have h8 := Bd.at (A := [_, _, _]) B2
 have B3 := Bd.put (A := [_, _, _]) B2 (AI 1 ((e.A ++ [(e.s.W.length : Int)]) ++ List.replicate ((lst f.code).length + 1 - (i + 1)) 0))
 obtain ⟨H4, e4, S4⟩ := y2br hR ok hn hi hl ha hs hM B3 MR hA
 refine ⟨H4, ?_, S4⟩
 have ei : y10 9 (slA f.code) (.int .i64 (i : Int)) = some (.rp (enc x)) := yeo hx .i64
 have n9 : newC 0 (some 9) [.int .i64 0, .int .i64 0, .int .i64 0, .int .i64 0, .int .i64 0, .int .i64 0, .int .i64 0, .str [], .nils] H = some (.lp 9 (x9.gen + 1) 0 0, H.set 9 (AX (x9.gen + 1) zI)) := yql (α := Ins) (fb := 0) (j := 9) zI (Bd.at (A := [_, _, _, _]) B)
 have s9 : evSt 9 (.lp 9 (x9.gen + 1) 0 0) (.agg (enc x)) (H.set 9 (AX (x9.gen + 1) zI)) = some (.tup [], (H.set 9 (AX (x9.gen + 1) zI)).set 9 (AX (x9.gen + 1) x)) := st_g (α := Ins) (Bd.at (A := [_, _, _, _]) B1)
 obtain ⟨w, lw, ew⟩ := Bd.ldW B2
 have ix : y10 1 (atV f) (.int .i64 (i : Int)) = some (.lp 8 1 i 0) := yga (by omega) (by omega) 8 1 .i64
 have s8 := yed (α := Int) (i := i) (v := .int .i64 e.s.W.length) (y := (e.s.W.length : Int)) h8 (by simp only [zg, List.length_replicate]; omega) rfl
 have er := y1jp (A := e.A) (n := (lst f.code).length + 1 - i) (e.s.W.length : Int) (by omega)
 rw [hA, show (lst f.code).length + 1 - i - 1 = (lst f.code).length + 1 - (i + 1) by omega] at er
 rw [er] at s8
 have h9 := Bd.at (A := [_, _, _, _]) B3
 have l9 := ybg (k := 0) (v := .int .i64 x.op) h9 rfl
 have l9a := yfn h9
 have cc : ∀ H, yc E (yd E) 0 none true 17 [.agg (enc x)] H = some (.bool (calls x.op), H) := fun H => y18 rfl (yt9 x H) rfl (yel x) ⟨_, rfl, rfl⟩
 have e33 : ∀ H, H[9]? = some (AX (x9.gen + 1) x) → y17l (.lp 0 1 0 0) (.lp 1 1 0 0) P4 (tv t (lst f.regs).length) (atV f) (.int .i64 i) (.lp 9 (x9.gen + 1) 0 0) (slA f.code) (.int .i64 (lst f.code).length) (.int .i64 i) H =
   y16y (.lp 0 1 0 0) (.lp 1 1 0 0) P4 (tv t (lst f.regs).length) (atV f) (.int .i64 i) (.lp 9 (x9.gen + 1) 0 0) (slA f.code) (.int .i64 (lst f.code).length) (.int .i64 i) (.bool (y18x x.op)) H := by
  intro H h9
  have l9 := ybg (k := 0) (v := .int .i64 x.op) h9 rfl
  have l9a := yfn h9
  unfold y18x
  by_cases o1 : x.op = 20
  ·simp only [y17l, yk, zd, y9, l9, yy, o1, decide_true, y6z, y1g, y1wi, z2x]
  ·by_cases o2 : x.op = 21
   ·simp only [y17l, yk, zd, y9, l9, yy, o2, show ¬ (21 : Int) = 20 by decide, decide_true, decide_false, y51, y1d, y6z, y1g, y1wi, z2x, z1x]
   ·simp only [y17l, yk, zd, y9, l9, yy, o1, o2, decide_false, y51, y1d, l9a, y1z0, cc, ye, z1x]
 rw [ypu, ← e4, ← e33 _ h9]
 simp only [ys7] at s8
 simp only [y23w, yg, y9, hi', decide_true, y22f, y1b, y29w, ei, y2q, yeh, n9, ye, s9, y27z, y1l, yk, zd, lw, ew, ix, s8]
theorem yq8 (hl : ∀ x ∈ lst f.code, (lst x.args).length ≤ 17592186043904) (ha : ∀ x ∈ lst f.code, calls x.op = true → (lst x.args).length ≤ 21) : ∀ (d i : Nat) (e : ES) (H : Heap), i + d = (lst f.code).length → e.s.size + 25 * d + 30 ≤ 1000000 → e.M.length + d ≤ 1000000 → CSt f c i e H →
  ∃ H', ydc (.lp 0 1 0 0) (.lp 1 1 0 0) P4 (tv t (lst f.regs).length) (atV f) (slA f.code) (.int .i64 (lst f.code).length) (.int .i64 i) H = y18l (.lp 0 1 0 0) (.lp 1 1 0 0) P4 (atV f) H' ∧
   CSt f c (lst f.code).length (yk0 f t i ((lst f.code).drop i) e) H'
 | 0, i, e, H, hd, _, _, S => by
  have h : ¬ (i : Int) < ((lst f.code).length : Int) := by omega
  have ei : i = (lst f.code).length := by omega
  refine ⟨H, ?_, by rw [z14 (by omega), yk0, ← ei]; exact S⟩
  rw [ypu]
  simp only [y23w, yg, y9, h, decide_false, y22f, y1h]
 | d + 1, i, e, H, hd, hs, hM, S => by
  have hi : i < (lst f.code).length := by omega
  have g := z9 hi
  have ed : (lst f.code).drop i = (lst f.code)[i] :: (lst f.code).drop (i + 1) := zk hi
  have hmem : (lst f.code)[i] ∈ lst f.code := z1n hi
  generalize (lst f.code)[i] = x at g ed hmem
  obtain ⟨H1, e1, S1⟩ := y16z hR ok hn g (hl x hmem) (ha x hmem) (by omega) (by omega) S
  have hsz := ycp e.s x (ha x hmem)
  have hm : (ye9 f t i x e).M.length ≤ e.M.length + 1 := by
   simp only [ye9]
   split
   ·simp
   ·omega
  obtain ⟨H2, e2, S2⟩ := yq8 hl ha d (i + 1) _ H1 (by omega) (by simp only [ye9]; omega) (by omega) S1
  exact ⟨H2, e1.trans e2, by rw [ed, yk0]; exact S2⟩
end
theorem WRep.setW {H : Heap} {K : List (Nat × AO)} {P G : Nat → Nat} {c : BC} {s : BS} (R : WRep H K P G c (xs s)) {y : Nat} (hy : y < s.W.length) (n : Int) :
  ∃ H', evSt 1 (.lp (P 0) (G 0) y 0) (.int .u32 n) H = some (.tup [], H') ∧ WRep H' K P G c (xs { s with W := s.W.set y ⟨n⟩ }) := by
 have hX : xs s 0 ≠ [] := by
  intro e
  have : (xs s 0).length = s.W.length := by simp [xs]
  rw [e] at this
  simp at this
  omega
 have ho := R.obj 0 (by omega) hX
 have e := yed (α := Wd) (i := y) (v := .int .u32 n) (y := ⟨n⟩) (L := s.W) ho hy rfl
 refine ⟨_, e, ?_⟩
 have hl0 := y3m ho
 have hne : ∀ k, xs { s with W := s.W.set y ⟨n⟩ } k ≠ [] → xs s k ≠ [] := by
  intro k h
  rcases k with _ | _ | _ | _ | k
  ·exact hX
  ·exact h
  ·exact h
  ·exact h
  ·exact h
 have row : y45 c P G (xs { s with W := s.W.set y ⟨n⟩ }) = y45 c P G (xs s) := by
  have : y2p (P 0) (G 0) (xs { s with W := s.W.set y ⟨n⟩ } 0) = y2p (P 0) (G 0) (xs s 0) := by
   have h1 : (xs { s with W := s.W.set y ⟨n⟩ } 0).length = (xs s 0).length := by simp [xs]
   cases h2 : xs { s with W := s.W.set y ⟨n⟩ } 0 with
   | nil => rw [h2] at h1; exact (hX (List.length_eq_zero_iff.1 h1.symm)).elim
   | cons a l =>
    cases h3 : xs s 0 with
    | nil => exact (hX h3).elim
    | cons b l' =>
     rw [h2, h3] at h1
     simp only [List.length_cons, Nat.add_right_cancel_iff] at h1
     simp only [y2p, h1]
  unfold y45
  rw [this]
  rfl
 refine ⟨by rw [row, yn (R.far 0 (by omega) hX)]; exact R.box, fun k hk h => ?_, fun k hk hX1 l hl hX2 => R.inj k hk (hne k hX1) l hl (hne l hX2), fun k hk h => R.far k hk (hne k h), fun p hp => ?_, R.nd⟩
 ·by_cases e0 : k = 0
  ·subst e0
   exact y2e hl0
  ·rw [yn fun e => e0 (R.inj 0 (by omega) hX k hk (hne k h) e).symm]
   have := R.obj k hk (hne k h)
   rcases k with _ | _ | _ | _ | k
   ·exact (e0 rfl).elim
   ·exact this
   ·exact this
   ·exact this
   ·exact this
 ·obtain ⟨m1, m2, m3⟩ := R.keep p hp
  exact ⟨by rw [yn (m3 0 (by omega) hX)]; exact m1, m2, fun k hk h => m3 k hk (hne k h)⟩
theorem yxv {id g : Nat} {L : List (List AV)} (h : L ≠ []) : y2p id g L = .ls id g 1 0 L.length := by
 cases L with
 | nil => exact (h rfl).elim
 | cons a L => rfl
theorem yx2 {f : Fn} (hn : (lst f.code).length ≤ 20000) {c : BC} {K : List (Nat × AO)} {P G : Nat → Nat} {A : List Int} (hK : (8, AI 1 A) ∈ K) (hA : A.length = (lst f.code).length + 1) (YY : List Int) (hY : YY.length ≤ 1000000) : ∀ (d k : Nat) (s : BS) (H : Heap), k + d = YY.length → s.Y = YY → (YY.drop k).Nodup → (∀ y ∈ YY.drop k, 0 ≤ y ∧ y.toNat < s.W.length ∧ 0 ≤ (s.W.getD y.toNat default).n ∧ (s.W.getD y.toNat default).n < (lst f.code).length) → WRep H K P G c (xs s) →
  ∃ H', yqn (.lp 0 1 0 0) (.lp 1 1 0 0) P4 (atV f) (y2p (P 3) (G 3) (YY.map enc)) (.int .i64 YY.length) (.int .i64 k) H = q5_8 (.lp 0 1 0 0) (.lp 1 1 0 0) P4 (atV f) H' ∧ WRep H' K P G c (xs { s with W := yic A (YY.drop k) s.W })
 | 0, k, s, H, hd, hs, _, _, R => by
  have h : ¬ (k : Int) < (YY.length : Int) := by omega
  refine ⟨H, ?_, by rw [z14 (by omega)]; exact R⟩
  rw [yoz]
  simp only [y21q, yg, y9, h, decide_false, y1w8, y1h]
 | d + 1, k, s, H, hd, hs, nd, hok, R => by
  have h : (k : Int) < (YY.length : Int) := by omega
  have hk : k < YY.length := by omega
  have g := z9 hk
  have ed : YY.drop k = YY[k] :: YY.drop (k + 1) := zk hk
  generalize YY[k] = y at g ed
  rw [ed] at nd hok
  rw [z21] at nd
  obtain ⟨y0, y1, y2, y3⟩ := hok y z1h
  have hX3 : xs s 3 ≠ [] := by
   simp only [xs, hs]
   intro e
   have := congrArg List.length e
   simp at this
   rw [this] at hk
   simp at hk
  have o3 := R.obj 3 (by omega) hX3
  have hX0 : xs s 0 ≠ [] := by
   simp only [xs]
   intro e
   have := congrArg List.length e
   simp at this
   rw [this] at y1
   simp at y1
  have o0 := R.obj 0 (by omega) hX0
  have h8 := (R.keep _ hK).1
  obtain ⟨H1, e1, R1⟩ := R.setW y1 (wU (atW A s.W y))
  have gW : s.W[y.toNat]? = some (s.W.getD y.toNat default) := by rw [ze, z9 y1]; rfl
  have gA : A[(s.W.getD y.toNat default).n.toNat]? = some (atW A s.W y) := by
   have : ∀ m, m < A.length → A[m]? = some (A.getD m 0) := fun m h => by rw [ze, z9 h]; rfl
   exact this _ (by omega)
  obtain ⟨H2, e2, R2⟩ := yx2 hn hK hA YY hY d (k + 1) { s with W := s.W.set y.toNat ⟨wU (atW A s.W y)⟩ } H1 (by omega) hs nd.2 (fun z hz => by
   obtain ⟨z0, z1, z2⟩ := hok z (z18 _ hz)
   have zne : z ≠ y := fun e => nd.1 (e ▸ hz)
   refine ⟨z0, by simp only [zh]; exact z1, ?_⟩
   have : (s.W.set y.toNat ⟨wU (atW A s.W y)⟩).getD z.toNat default = s.W.getD z.toNat default := by
    rw [ze, ze, z17 (by omega)]
   simp only [this]
   exact z2) R1
  refine ⟨H2, ?_, by rw [ed, yic]; exact R2⟩
  have vY : y2p (P 3) (G 3) (YY.map enc) = .ls (P 3) (G 3) 1 0 YY.length := by
   have h3 : YY.map enc ≠ [] := by
    have := hX3
    simp only [xs, hs] at this
    exact this
   rw [yxv h3, zy]
  have vW : y2p (P 0) (G 0) (xs s 0) = .ls (P 0) (G 0) 1 0 s.W.length := by
   rw [yxv hX0]
   simp [xs]
  have i1 := yga (n := YY.length) (p := (k : Int)) (by omega) h (P 3) (G 3) .i64
  have l1 : evLd false 1 (.lp (P 3) (G 3) ((k : Int)).toNat 0) H = some (.int .i64 y) := yot (α := Int) (L := s.Y) o3 (by rw [hs]; exact g) rfl
  have i2 := yga (n := s.W.length) (p := y) y0 (by omega) (P 0) (G 0) .i64
  have l2 : evLd false 1 (.lp (P 0) (G 0) y.toNat 0) H = some (.int .u32 (s.W.getD y.toNat default).n) := yot (α := Wd) (L := s.W) o0 gW rfl
  have i3 := yga (n := (lst f.code).length + 1) (p := (s.W.getD y.toNat default).n) y2 (by omega) 8 1 .u32
  have l3 : evLd false 1 (.lp 8 1 (s.W.getD y.toNat default).n.toNat 0) H = some (.int .i64 (atW A s.W y)) := yot (α := Int) h8 gA rfl
  have lc := R.ld 0 rfl
  rw [vW] at lc
  have hw : IntKind.wrap .i64 ((k : Int) + 1) = ((k + 1 : Nat) : Int) := by rw [y1a] <;> omega
  rw [yoz, ← e2]
  rw [vY]
  simp only [y21q, yg, y9, h, decide_true, y1w8, y1b, y2cu, i1, l1, y1l, yk, zd, lc, i2, l2, i3, l3, y2g]
  rw [show IntKind.wrap .u32 (atW A s.W y) = wU (atW A s.W y) from rfl, e1, ye]
  simp only [y28x, yz, y9, hw]
end Go.Vm
namespace Go.Vm
open Cel
def zR : Row := ⟨0, 0, 0, []⟩
def y1q8 (vR : AV) (x15 : AO) (L : List Row) : Prop := ∃ g o, vR = y1c Row 15 g L ∧ x15 = y2l g o L
structure RowFit (f : Fn) (r : Row) : Prop where
 f0 : 0 ≤ r.f
 f1 : r.f < (lst f.code).length + 1
 t0 : 0 ≤ r.t
 t1 : r.t < (lst f.code).length + 1
 a0 : 0 ≤ r.at_
 a1 : r.at_ < (lst f.code).length + 1
abbrev KE (f : Fn) (A : List Int) (x10 x9 x11 x12 x13 x14 x15 : AO) (KR : List (Nat × AO)) : List (Nat × AO) := (10, x10) :: (0, AB f) :: (1, UB) :: (8, AI 1 A) :: (9, x9) :: (11, x11) :: (12, x12) :: (13, x13) :: (14, x14) :: (15, x15) :: KR
theorem y2mq {H : Heap} {r : Row} {o : AO} (h : H[14]? = some o) : yl 0 (some 14) 4 1 [.int .i64 0, .int .i64 0, .int .i64 0, .str []] [(0, .agg (enc r))] H = some (.ls 14 (o.gen + 1) 4 0 1, H.set 14 ⟨o.gen + 1, .arr false false 4 [enc r]⟩) := by
 have ef : y1i 4 [(0, AV.agg (enc r))] [[AV.int .i64 0, AV.int .i64 0, AV.int .i64 0, AV.str []]] = some [enc r] := rfl
 simp [yl, y2k, place, h, ef]
theorem yr1 {f : Fn} {c : BC} {s : BS} {A : List Int} (hA : A.length = (lst f.code).length + 1) (hlen : (lst f.rows).length ≤ 1000000) {x10 x9 x11 x12 : AO} {KR : List (Nat × AO)} (hf : ∀ r ∈ lst f.rows, RowFit f r) :
  ∀ (d i : Nat) (Ls : List Row) (x13 x14 x15 : AO) (vR : AV) (H : Heap), i + d = (lst f.rows).length → Ls.length = i → y1q8 vR x15 Ls → Bd H (KE f A x10 x9 x11 x12 x13 x14 x15 KR) { c with vR := vR } s →
  ∃ H' x13' x14' x15' vR', y1dz (.lp 1 1 0 0) P4 (atV f) (slA f.rows) (.int .i64 (lst f.rows).length) (.int .i64 i) H = q5_1 (.lp 1 1 0 0) P4 H' ∧ y1q8 vR' x15' (Ls ++ ((lst f.rows).drop i).map (rwM A)) ∧ Bd H' (KE f A x10 x9 x11 x12 x13' x14' x15' KR) { c with vR := vR' } s
 | 0, i, Ls, x13, x14, x15, vR, H, hd, hL, R, B => by
  have h : ¬ (i : Int) < ((lst f.rows).length : Int) := by omega
  refine ⟨H, x13, x14, x15, vR, ?_, by rw [z14 (by omega), z2v, z15]; exact R, B⟩
  rw [y149]
  simp only [q5_6, yg, y9, h, decide_false, q5_5, y1h]
 | d + 1, i, Ls, x13, x14, x15, vR, H, hd, hL, R, B => by
  have h : (i : Int) < ((lst f.rows).length : Int) := by omega
  have hi : i < (lst f.rows).length := by omega
  have g := z9 hi
  have ed : (lst f.rows).drop i = (lst f.rows)[i] :: (lst f.rows).drop (i + 1) := zk hi
  have hmem : (lst f.rows)[i] ∈ lst f.rows := z1n hi
  generalize (lst f.rows)[i] = r at g ed hmem
  have F := hf r hmem
  obtain ⟨gr, o, rfl, rfl⟩ := R
  have B1 := Bd.put (A := [_, _, _, _, _, _, _]) B (AG (x13.gen + 1) zR)
  have B2 := Bd.put (A := [_, _, _, _, _, _, _]) B1 (AG (x13.gen + 1) r)
  have B3 := Bd.put (A := [_, _, _, _, _, _, _, _]) B2 ⟨x14.gen + 1, .arr false false 4 [enc (rwM A r)]⟩
  have e48 : (2:Nat) ^ 48 = 281474976710656 := by decide
  obtain ⟨g', e15⟩ := ygt (α := Row) (fb := 0) (j := 15) (b := 40) (L := Ls) (M := [rwM A r]) (y54 (Bd.at (A := [_, _, _, _, _, _, _, _]) B3)) (Bd.at (A := [_, _, _, _, _, _, _, _, _]) B3) (by rw [e48]; simp only [List.length_singleton]; omega)
  have B4 := Bd.put (A := [_, _, _, _, _, _, _, _, _]) B3 (y2l g' o (Ls ++ [rwM A r]))
  obtain ⟨H5, e5, B5⟩ := Bd.cell B4 { c with vR := y1c Row 15 g' (Ls ++ [rwM A r]) } 1 (y1c Row 15 g' (Ls ++ [rwM A r])) (by omega) (yae ..) (y7d ..) (fun P G X => rfl)
  obtain ⟨H6, y13, y14, y15, vR', e6, R6, B6⟩ := yr1 hA hlen hf d (i + 1) (Ls ++ [rwM A r]) _ _ _ _ H5 (by omega) (by simp [hL]) ⟨g', o, rfl, rfl⟩ B5
  refine ⟨H6, y13, y14, y15, vR', ?_, by rw [ed, z10]; simpa using R6, B6⟩
  have hw : IntKind.wrap .i64 ((i : Int) + 1) = ((i + 1 : Nat) : Int) := by rw [y1a] <;> omega
  have n13 : newC 0 (some 13) [.int .i64 0, .int .i64 0, .int .i64 0, .str []] H = some (.lp 13 (x13.gen + 1) 0 0, H.set 13 (AG (x13.gen + 1) zR)) := yql (α := Row) (fb := 0) (j := 13) zR (Bd.at (A := [_, _, _, _, _, _, _]) B)
  have s13 : evSt 4 (.lp 13 (x13.gen + 1) 0 0) (.agg (enc r)) (H.set 13 (AG (x13.gen + 1) zR)) = some (.tup [], (H.set 13 (AG (x13.gen + 1) zR)).set 13 (AG (x13.gen + 1) r)) := st_g (α := Row) (Bd.at (A := [_, _, _, _, _, _, _]) B1)
  have h13 := Bd.at (A := [_, _, _, _, _, _, _]) B2
  have h8 := Bd.at (A := [_, _, _]) B2
  have a0 := ld_g (α := Row) (k := 0) (v := .int .i64 r.f) h13 rfl
  have a1 := ld_g (α := Row) (k := 1) (v := .int .i64 r.t) h13 rfl
  have a2 := ld_g (α := Row) (k := 2) (v := .int .i64 r.at_) h13 rfl
  have a3 := ld_g (α := Row) (k := 3) (v := .str r.c) h13 rfl
  have gA : ∀ n : Int, 0 ≤ n → n < (lst f.code).length + 1 → y10 1 (atV f) (.int .i64 n) = some (.lp 8 1 n.toNat 0) ∧ evLd false 1 (.lp 8 1 n.toNat 0) ((H.set 13 (AG (x13.gen + 1) zR)).set 13 (AG (x13.gen + 1) r)) = some (.int .i64 (A.getD n.toNat 0)) := by
   intro n h0 h1
   refine ⟨yga h0 (by omega) 8 1 .i64, yot (α := Int) h8 ?_ rfl⟩
   rw [ze, z9 (by omega)]
   rfl
  obtain ⟨f1, f2⟩ := gA r.f F.f0 F.f1
  obtain ⟨t1, t2⟩ := gA r.t F.t0 F.t1
  obtain ⟨u1, u2⟩ := gA r.at_ F.a0 F.a1
  have lR : evLd false 1 (.lp 4 1 0 1) ((H.set 13 (AG (x13.gen + 1) zR)).set 13 (AG (x13.gen + 1) r)) = some (y1c Row 15 gr Ls) := Bd.ld B2 1 (fun P G => rfl)
  have bd : yq [.int .i64 0, .int .i64 0, .int .i64 0, .str []] [(0, 1, .int .i64 (A.getD r.f.toNat 0)), (1, 1, .int .i64 (A.getD r.t.toNat 0)), (2, 1, .int .i64 (A.getD r.at_.toNat 0)), (3, 1, .str r.c)] = some (.agg (enc (rwM A r))) := rfl
  have b14 := y2mq (r := rwM A r) (Bd.at (A := [_, _, _, _, _, _, _, _]) B2)
  have er : y10 4 (slA f.rows) (.int .i64 (i : Int)) = some (.rp (enc r)) := yuf g .i64
  rw [y149, ← e6]
  simp only [zd, show es Row = 4 from rfl] at e15
  simp only [q5_6, yg, y9, h, decide_true, q5_5, y1b, q5_4, er, y2q, y2ab, n13, ye, s13, y1l, yk, zd, lR, a0, f1, f2, a1, t1, t2, a2, u1, u2, a3, bd, b14, e15, e5]
  rw [y1gj (by rfl)]
  simp only [q5_3, yz, y9, hw]
theorem y2bq {H : Heap} {K : List (Nat × AO)} {c : BC} {s : BS} (B : Bd H K c s) {m : MapP} {row : List AV} (h : MRow K m row) : ∃ b ids, yv (fz H y1m) row = some ⟨enc m, b, ids⟩ ∧ ∀ i ∈ ids, ∃ o, (i, o) ∈ K ∧ ∃ g L, o = AI g L := by
 obtain ⟨v, rfl, h⟩ := h
 rcases h with ⟨h1, rfl⟩ | ⟨L, id, g, h1, rfl, h3⟩
 ·refine ⟨true, [], ?_, fun i h => by cases h⟩
  have e : enc m = [.int .i64 m.w, .nils] := by
   show [AV.int .i64 m.w, slA m.regs] = _
   rw [h1]; rfl
  rw [e]; rfl
 ·have e : enc m = [.int .i64 m.w, slA (some L)] := by
   show [AV.int .i64 m.w, slA m.regs] = _
   rw [h1]
  have hz := yh1 (α := Int) (k := 10) (L := L) (H := H) (id := id) (g := g) (B.mem h3)
  refine ⟨true && (L.all scal && true), [] ++ ([id] ++ []), ?_, fun i hi => ?_⟩
  ·rw [ym, ym, y1k]
   have h2 : fz H y1m (.ls id g 1 0 L.length) = some ⟨slA (some L), L.all scal, [id]⟩ := hz
   have h4 : fz H y1m (.int .i64 m.w) = some ⟨.int .i64 m.w, true, []⟩ := rfl
   rw [h2, h4, e]
  ·simp only [List.nil_append, List.append_nil, List.mem_singleton] at hi
   subst hi
   exact ⟨_, h3, g, L, rfl⟩
theorem yym {H : Heap} {K : List (Nat × AO)} {c : BC} {s : BS} (B : Bd H K c s) : ∀ (M : List MapP) (rows : List (List AV)), y16b K M rows → ∃ b ids, yv (yv (fz H y1m)) rows = some ⟨M.map enc, b, ids⟩ ∧ ∀ i ∈ ids, ∃ o, (i, o) ∈ K ∧ ∃ g L, o = AI g L
 | [], [], _ => ⟨true, [], rfl, fun i h => by cases h⟩
 | [], r :: rows, h => by have := h.1; simp at this
 | m :: M, [], h => by have := h.1; simp at this
 | m :: M, r :: rows, h => by
  obtain ⟨r', h1, h2⟩ := h.2 0 m rfl
  simp only [List.getElem?_cons_zero, Option.some.injEq] at h1
  subst h1
  obtain ⟨b1, i1, e1, k1⟩ := y2bq B h2
  obtain ⟨b2, i2, e2, k2⟩ := yym B M rows ⟨by have := h.1; simp only [List.length_cons, Nat.add_right_cancel_iff] at this; exact this, fun k m' hk => by have := h.2 (k + 1) m' (by simpa using hk); simpa using this⟩
  refine ⟨b1 && b2, i1 ++ i2, ?_, fun i hi => ?_⟩
  ·rw [ym, e1, e2]
   rfl
  ·rcases zt.1 hi with hi | hi
   ·exact k1 i hi
   ·exact k2 i hi
theorem y1fr {H : Heap} {K : List (Nat × AO)} {c : BC} {s : BS} (B : Bd H K c s) {vM : AV} {x12 : AO} {M : List MapP} (R : ydo K vM x12 M) (h12 : H[12]? = some x12) (os : List OC) (k : Nat) :
  ∃ b fs, expo H (k + 1) vM os = some ⟨exV os.length (nz M), os ++ exOs (nz M), b, ownI 12 (nz M), fs⟩ ∧ ∀ i ∈ fs, ∃ o, (i, o) ∈ K ∧ ∃ g L, o = AI g L := by
 rcases R with ⟨rfl, rfl⟩ | ⟨g, rows, h1, rfl, rfl, h2⟩
 ·exact ⟨true, [], by simp [expo, pure1, exV, exOs, ownI, nz, y1u], fun i h => by cases h⟩
 ·obtain ⟨b, ids, e, hk⟩ := yym B M rows h2
  refine ⟨b, ids, ?_, hk⟩
  have hr : yr H 12 g = some (false, 2, rows) := by simp [yr, y23, h12]
  have hM : nz M = some M := by
   cases M with
   | nil => exact (h1 rfl).elim
   | cons a l => rfl
  have hl := h2.1
  rw [yu5, hr]
  simp only [List.drop_zero, zd]
  rw [if_pos ⟨trivial, by omega⟩, z2c (by omega), e, hM]
  rfl
end Go.Vm
namespace Go.Vm
open Cel
abbrev B1 : AO := ⟨1, .arr true false 1 [[.lm 0 1]]⟩
abbrev B3 : AO := ⟨1, .arr true false 1 [[.lm 2 1]]⟩
abbrev V6 : AV := .lp 1 1 0 0
abbrev V7 : AV := .lp 3 1 0 0
abbrev hA (A R : IM) (t : Heap) : Heap := AM vI 1 A :: B1 :: AM vI 1 R :: B3 :: t
abbrev hK (A R : IM) (t : Heap) : Heap := KM vI 1 A :: B1 :: AM vI 1 R :: B3 :: t
theorem ylx (o : Option Int) : (o.map vI).getD (.int .i64 0) = .int .i64 (o.getD 0) := by cases o <;> rfl
noncomputable def st30 (q : AV × AV) (h : Heap) : Option Heap := ob (y29 0 (AV.tup [q.1, q.2])) fun v66 => ob (y29 1 (AV.tup [q.1, q.2])) fun v67 => (y13n V6 V7 v66 v67 h)
theorem y2ad (A R : IM) (t : Heap) (k a : Int) : st30 (.int .i64 k, vI a) (hK A R t) = some (hK (p2g (A, R) k (some a)).1 (p2g (A, R) k (some a)).2 t) := by
 unfold st30
 simp only [y1y, List.getElem?_cons_zero, List.getElem?_cons_succ, y9, y13n, yy]
 by_cases e : k = a
 ·have md := y2aa (vf := vI) (H := hK A R t) (id := 0) (g := 1) (l := A) rfl k
  have l6 : evLd false 1 V6 (hK A R t) = some (.lm 0 1) := rfl
  simp only [e, decide_true, y1b, l6, y9, p2g, if_true]
  rw [e] at md
  rw [md]
  rfl
 ·have l7 : ∀ R' : IM, evLd false 1 V7 (hK A R' t) = some (.lm 2 1) := fun _ => rfl
  have mg := yef (vf := vI) (H := hK A R t) (id := 2) (g := 1) (l := R) rfl (.int .i64 0) a
  have mp := ynd (vf := vI) (H := hK A R t) (id := 2) (g := 1) (l := R) rfl a (w64 ((aget a R).getD 0 + 1))
  rw [ylx] at mg
  simp only [e, decide_false, y1h, l7, y9, mg, yz, p2g, if_false]
  have e2 : (IntKind.wrap .i64 ((aget a R).getD 0 + 1)) = w64 ((aget a R).getD 0 + 1) := rfl
  rw [e2, mp]
  rfl
theorem ys8 (t : Heap) : ∀ (π : IM) (s : IM × IM), mfold (ustep 0 1 fun h q => st30 q h) (mEnt vI π) (hK s.1 s.2 t) = some (hK (π.foldl p2s s).1 (π.foldl p2s s).2 t)
 | [], s => rfl
 | (k, v) :: π, s => by
  have hu : ustep 0 1 (fun h q => st30 q h) (hK s.1 s.2 t) (.int .i64 k, vI v) = some (hK (p2s s (k, v)).1 (p2s s (k, v)).2 t) := by
   refine y15f (vf := vI) (l := s.1) (l' := (p2s s (k, v)).1) rfl rfl (fun a ha => ?_) (fun hn => ?_)
   ·rw [y6x, ha]
    exact y2ad s.1 s.2 t k a
   ·rw [y6x, hn]
    rfl
  simp only [mEnt, List.map_cons, mfold, hu, List.foldl_cons]
  exact ys8 t π _
theorem y1yh {A A' R R' : IM} (t : Heap) (h1 : A.Perm A') (h2 : R.Perm R') : yg4 (hA A R t) (hA A' R' t) := by
 intro i
 match i with
 | 0 => exact ⟨rfl, .inr ⟨false, _, _, rfl, rfl, h1.map _⟩⟩
 | 1 => exact yof.refl _
 | 2 => exact ⟨rfl, .inr ⟨false, _, _, rfl, rfl, h2.map _⟩⟩
 | 3 => exact yof.refl _
 | i + 4 => exact yof.refl _
theorem y1uq (v0 v1 : AV) (A : IM) (t : Heap) (hA1 : anew A) : yrb v0 v1 V6 V7 (hA A [] t) = ypr v0 v1 V6 V7 (hA (p2M A).1 (p2M A).2 t) := by
 unfold yrb
 have l6 : evLd false 1 V6 (hA A [] t) = some (.lm 0 1) := rfl
 rw [l6]
 simp only [y9]
 have := y25m (vf := vI) (step := st30) (H := hA A [] t) (id := 0) (g := 1) (l := A) (K := fun h => ypr v0 v1 V6 V7 h) rfl (fun π => hA (π.foldl p2s (A, [])).1 (π.foldl p2s (A, [])).2 t)
  (fun π _ => ⟨_, _, ys8 t π (A, []), rfl, rfl⟩) (fun π hp => by
   obtain ⟨a1, a2, a3, b1, b2, b3⟩ := y2do (s := (A, [])) hA1 hp hA1 trivial
   exact y1yh t (y7z a1 a2 a3) (y7z b1 b2 b3))
 exact this
end Go.Vm
namespace Go.Vm
open Cel
theorem y158 {o : Option (List Mv)} {x : Mv} {i : Nat} (hx : (lst o)[i]? = some x) (k : IntKind) : y10 2 (slA o) (.int k i) = some (.rp (enc x)) := y7x hx k
theorem y2fx (m : Mv) (H : Heap) : evLd true 2 (.rp (enc m)) H = some (.agg (enc m)) := yar m
theorem y1pp {H : Heap} {j : Nat} {o : AO} (m : Mv) (h : H[j]? = some o) : ∃ H1, newC 0 (some j) [.int .i64 0, .int .i64 0] H = some (.lp j (o.gen + 1) 0 0, H1) ∧ evSt 2 (.lp j (o.gen + 1) 0 0) (.agg (enc m)) H1 = some (.tup [], H.set j (AG (o.gen + 1) m)) := by
 have h0 : H[0 + j]? = some o := by rw [zd]; exact h
 have n0 := yql zMv h0
 rw [zd] at n0
 have hl := (zb.1 h).1
 refine ⟨_, n0, ?_⟩
 have := st_g (c := zMv) (d := m) (H := H.set j (AG (o.gen + 1) zMv)) (id := j) (g := o.gen + 1) (by simp [hl])
 rw [z2r] at this
 exact this
theorem y176 {H : Heap} {j g : Nat} {m : Mv} (h : H[j]? = some (AG g m)) : evLd false 1 (.lp j g 0 0) H = some (.int .i64 m.to) := ld_g (k := 0) h rfl
theorem y2so {H : Heap} {j g : Nat} {m : Mv} (h : H[j]? = some (AG g m)) : evLd false 1 (.lp j g 0 1) H = some (.int .i64 m.fr) := ld_g (k := 1) h rfl
theorem y248 {o : Option (List Mv)} {i : Nat} {m : Mv} (hx : (lst o)[i]? = some m) (v0 len : AV) (n : Int) (A : IM) (x4 : AO) (u : Heap) :
  yyu v0 (.int .i64 n) V6 V7 (slA o) len (.int .i64 (i : Int)) (hA A [] (x4 :: u)) = if (aget m.to A).isSome = true ∨ m.to = n ∨ m.fr = n then yo (hA A [] (AG (x4.gen + 1) m :: u)) (.tup [.nils, .int .i64 1])
   else ysh v0 (.int .i64 n) V6 V7 (slA o) len (.int .i64 (i : Int)) (hA (aset m.to m.fr A) [] (AG (x4.gen + 1) m :: u)) := by
 obtain ⟨H1, n1, s1⟩ := y1pp (H := hA A [] (x4 :: u)) (j := 4) (o := x4) m rfl
 have eH : (hA A [] (x4 :: u)).set 4 (AG (x4.gen + 1) m) = hA A [] (AG (x4.gen + 1) m :: u) := rfl
 rw [eH] at s1
 unfold yyu
 simp only [y158 hx, y9, y2fx, n1, ye, s1]
 have l6 : evLd false 1 V6 (hA A [] (AG (x4.gen + 1) m :: u)) = some (.lm 0 1) := rfl
 have lt := y176 (H := hA A [] (AG (x4.gen + 1) m :: u)) (j := 4) (g := x4.gen + 1) (m := m) rfl
 have lf := y2so (H := hA A [] (AG (x4.gen + 1) m :: u)) (j := 4) (g := x4.gen + 1) (m := m) rfl
 have mg := ygo (vf := vI) (H := hA A [] (AG (x4.gen + 1) m :: u)) (id := 0) (g := 1) (l := A) rfl (.int .i64 0) m.to
 have mp := ynd (vf := vI) (H := hA A [] (AG (x4.gen + 1) m :: u)) (id := 0) (g := 1) (l := A) rfl m.to m.fr
 have eP : (hA A [] (AG (x4.gen + 1) m :: u)).set 0 (AM vI 1 (aset m.to m.fr A)) = hA (aset m.to m.fr A) [] (AG (x4.gen + 1) m :: u) := rfl
 rw [eP] at mp
 generalize hA A [] (AG (x4.gen + 1) m :: u) = H at *
 unfold y1kf
 have fa0 : evFa 0 (.lp 4 (x4.gen + 1) 0 0) = some (.lp 4 (x4.gen + 1) 0 0) := rfl
 have fa1 : evFa 1 (.lp 4 (x4.gen + 1) 0 0) = some (.lp 4 (x4.gen + 1) 0 1) := rfl
 simp only [l6, y9, fa0, fa1, lt, mg]
 have en : ∀ H2 : Heap, y13l v0 (.int .i64 n) V6 V7 (.lp 4 (x4.gen + 1) 0 0) (slA o) len (.int .i64 (i : Int)) H = ysh v0 (.int .i64 n) V6 V7 (slA o) len (.int .i64 (i : Int)) (hA (aset m.to m.fr A) [] (AG (x4.gen + 1) m :: u)) := by
  intro _
  unfold y13l
  simp only [l6, y9, fa0, fa1, lt, lf]
  rw [show (AV.int .i64 m.fr) = vI m.fr from rfl, mp]
  rfl
 cases hg : aget m.to A with
 | some v => simp only [y1y, List.getElem?_cons_zero, List.getElem?_cons_succ, y9, y6z, y92, y1g, y1b, Option.isSome_some, true_or, if_true]
 | none =>
  simp only [y1y, List.getElem?_cons_zero, List.getElem?_cons_succ, y9, y51, lt, lf, yy, y1d, Option.isSome_none, zp, false_or]
  by_cases e1 : m.to = n
  ·simp only [e1, decide_true, y6z, y92, y1g, y9, y1b, true_or, if_true]
  ·by_cases e2 : m.fr = n
   ·simp only [e1, e2, lf, yy, decide_true, decide_false, y51, y9, y1d, y1b, or_true, if_true]
   ·simp only [e1, e2, lf, yy, decide_false, y51, y9, y1d, y1h, or_self, if_false]
    exact en H
theorem y1sb {o : Option (List Mv)} (hL : (lst o).length ≤ 9223372036854775806) (v0 : AV) (n : Int) (u : Heap) : ∀ (d i : Nat) (A : IM) (x4 : AO), i + d = (lst o).length →
  ∃ x4', yj7 v0 (.int .i64 n) V6 V7 (slA o) (.int .i64 (lst o).length) (.int .i64 (i : Int)) (hA A [] (x4 :: u)) = match ypc n ((lst o).drop i) A with
   | none => some ⟨.tup [.nils, .int .i64 1], [], true, [], []⟩
   | some A' => yrb v0 (.int .i64 n) V6 V7 (hA A' [] (x4' :: u)) := by
 intro d
 induction d with
 | zero =>
  intro i A x4 hi
  have hc : ¬ ((i : Int) < ((lst o).length : Int)) := by omega
  rw [yky, z14 (by omega)]
  simp only [y09, yg, hc, decide_false, y9, y12d, y1h, ypc]
  exact ⟨x4, rfl⟩
 | succ d ih =>
  intro i A x4 hi
  have hlt : i < (lst o).length := by omega
  have hc : ((i : Int) < ((lst o).length : Int)) := by omega
  have hw := y2x hlt (by omega)
  have hd : (lst o).drop i = (lst o)[i] :: (lst o).drop (i + 1) := zk hlt
  have hx := z9 hlt
  rw [yky, hd]
  generalize (lst o)[i] = m at *
  simp only [y09, yg, hc, decide_true, y9, y12d, y1b, y248 hx, ypc]
  by_cases e : (aget m.to A).isSome = true ∨ m.to = n ∨ m.fr = n
  ·rw [if_pos e, if_pos e]
   exact ⟨x4, rfl⟩
  ·rw [if_neg e, if_neg e]
   obtain ⟨x4', h⟩ := ih (i + 1) (aset m.to m.fr A) (AG (x4.gen + 1) m) (by omega)
   push_cast at h
   refine ⟨x4', ?_⟩
   simp only [ysh, yz, hw, y9]
   exact h
end Go.Vm
namespace Go.Vm
open Cel
abbrev BV (v : AV) : AO := ⟨1, .arr true false 1 [[v]]⟩
abbrev V14 : AV := .lp 5 1 0 0
abbrev V15 : AV := .lp 6 1 0 0
abbrev hB (A R : IM) (x4 x7 x8 : AO) (g : Nat) (F : List Int) (u : Heap) : Heap := hA A R (x4 :: BV .nils :: BV (y1c Int 9 g F) :: x7 :: x8 :: y2l g D0 F :: u)
theorem y2mk {H : Heap} {j : Nat} {o : AO} (n : Int) (h : H[j]? = some o) : yl 0 (some j) 1 1 [.int .i64 0] [(0, .int .i64 n)] H = some (.ls j (o.gen + 1) 1 0 1, H.set j ⟨o.gen + 1, .arr false false 1 [[.int .i64 n]]⟩) := by
 have h0 : H[0 + j]? = some o := by rw [zd]; exact h
 have e : y1i 1 [(0, AV.int .i64 n)] [[AV.int .i64 0]] = some [[.int .i64 n]] := rfl
 simp [yl, y2k, place, h, e]
theorem y1ui {o : Option (List Mv)} {i : Nat} {m : Mv} (hx : (lst o)[i]? = some m) (v0 v1 len : AV) (A R : IM) (x4 x7 x8 : AO) (g : Nat) (F : List Int) (hF : F.length ≤ 17000000000000) (u : Heap) :
  ∃ x7' x8' g', yvr v0 v1 V6 V7 V14 V15 (slA o) len (.int .i64 (i : Int)) (hB A R x4 x7 x8 g F u) =
   ydy v0 v1 V6 V7 V14 V15 (slA o) len (.int .i64 (i : Int)) (hB A R x4 x7' x8' g' (if ycg A R m.to = true then F ++ [m.to] else F) u) := by
 obtain ⟨H1, n1, s1⟩ := y1pp (H := hB A R x4 x7 x8 g F u) (j := 7) (o := x7) m rfl
 have eH : (hB A R x4 x7 x8 g F u).set 7 (AG (x7.gen + 1) m) = hB A R x4 (AG (x7.gen + 1) m) x8 g F u := rfl
 rw [eH] at s1
 unfold yvr
 have l6 : evLd false 1 V6 (hB A R x4 (AG (x7.gen + 1) m) x8 g F u) = some (.lm 0 1) := rfl
 have l7 : evLd false 1 V7 (hB A R x4 (AG (x7.gen + 1) m) x8 g F u) = some (.lm 2 1) := rfl
 have l15 : evLd false 1 V15 (hB A R x4 (AG (x7.gen + 1) m) x8 g F u) = some (y1c Int 9 g F) := rfl
 have lt := y176 (H := hB A R x4 (AG (x7.gen + 1) m) x8 g F u) (j := 7) (g := x7.gen + 1) (m := m) rfl
 have mg := ygo (vf := vI) (H := hB A R x4 (AG (x7.gen + 1) m) x8 g F u) (id := 0) (g := 1) (l := A) rfl (.int .i64 0) m.to
 have mr := yef (vf := vI) (H := hB A R x4 (AG (x7.gen + 1) m) x8 g F u) (id := 2) (g := 1) (l := R) rfl (.int .i64 0) m.to
 rw [ylx] at mr
 have fa0 : evFa 0 (.lp 7 (x7.gen + 1) 0 0) = some (.lp 7 (x7.gen + 1) 0 0) := rfl
 have bs := y2mk (H := hB A R x4 (AG (x7.gen + 1) m) x8 g F u) (j := 8) (o := x8) m.to rfl
 have eB : (hB A R x4 (AG (x7.gen + 1) m) x8 g F u).set 8 ⟨x8.gen + 1, .arr false false 1 [[.int .i64 m.to]]⟩ = hB A R x4 (AG (x7.gen + 1) m) ⟨x8.gen + 1, .arr false false 1 [[.int .i64 m.to]]⟩ g F u := rfl
 rw [eB] at bs
 obtain ⟨g', ap⟩ := yoi (fb := 0) (j := 9) (g := g) (o := D0) (y := .ls 8 (x8.gen + 1) 1 0 1) (L := F) (n := m.to) (H := hB A R x4 (AG (x7.gen + 1) m) ⟨x8.gen + 1, .arr false false 1 [[.int .i64 m.to]]⟩ g F u) (by simp [y28, yr, y23]) rfl hF
 have st15 : evSt 1 V15 (y1c Int 9 g' (F ++ [m.to])) ((hB A R x4 (AG (x7.gen + 1) m) ⟨x8.gen + 1, .arr false false 1 [[.int .i64 m.to]]⟩ g F u).set 9 (y2l g' D0 (F ++ [m.to]))) = some (.tup [], hB A R x4 (AG (x7.gen + 1) m) ⟨x8.gen + 1, .arr false false 1 [[.int .i64 m.to]]⟩ g' (F ++ [m.to]) u) := by
  have hv : cellsOf (y1c Int 9 g' (F ++ [m.to])) = [y1c Int 9 g' (F ++ [m.to])] := yae ..
  have hl : y19 (y1c Int 9 g' (F ++ [m.to])) = true := y7d ..
  generalize q1 : y1c Int 9 g' (F ++ [m.to]) = w at hv hl ⊢
  generalize q2 : y2l g' D0 (F ++ [m.to]) = z
  simp [evSt, yr, y23, y2j, hv, hl, y1f]
  exact ⟨q1.symm, q2.symm⟩
 have yes : ∀ H : Heap, H = hB A R x4 (AG (x7.gen + 1) m) x8 g F u → ycg A R m.to = true → ∃ x7' x8' g', (ob (evLd false 1 V15 H) fun v104 => ob (evFa 0 (.lp 7 (x7.gen + 1) 0 0)) fun v105 => ob (evLd false 1 v105 H) fun v106 => oh (yl 0 (some 8) 1 1 [.int .i64 0] [(0, v106)] H) fun v107 h18 =>
   oh (y1v 0 (some 9) 1 8 v104 v107 h18) fun v108 h19 => oh (evSt 1 V15 v108 h19) fun _ h20 => (ydy v0 v1 V6 V7 V14 V15 (slA o) len (.int .i64 (i : Int)) h20)) =
   ydy v0 v1 V6 V7 V14 V15 (slA o) len (.int .i64 (i : Int)) (hB A R x4 x7' x8' g' (if ycg A R m.to = true then F ++ [m.to] else F) u) := by
  intro H hH hf
  subst hH
  rw [l15]
  simp only [y9, fa0, lt, bs, ye]
  rw [show y1c Int 9 g F = y1c Int (0 + 9) g F from rfl, ap]
  simp only [ye]
  rw [show y1c Int (0 + 9) g' (F ++ [m.to]) = y1c Int 9 g' (F ++ [m.to]) from rfl, st15]
  simp only [ye, hf, if_true]
  exact ⟨_, _, _, rfl⟩
 simp only [y158 hx, y9, y2fx, n1, ye, s1, l6, fa0, lt, mg]
 have yes := yes _ rfl
 simp only [fa0, lt, y9] at yes
 have no : ycg A R m.to = false → ∃ x7' x8' g', ydy v0 v1 V6 V7 V14 V15 (slA o) len (.int .i64 (i : Int)) (hB A R x4 (AG (x7.gen + 1) m) x8 g F u) =
   ydy v0 v1 V6 V7 V14 V15 (slA o) len (.int .i64 (i : Int)) (hB A R x4 x7' x8' g' (if ycg A R m.to = true then F ++ [m.to] else F) u) := fun hf => ⟨AG (x7.gen + 1) m, x8, g, by rw [hf]; rfl⟩
 generalize hB A R x4 (AG (x7.gen + 1) m) x8 g F u = H at *
 cases hg : aget m.to A with
 | none =>
  have hf : ycg A R m.to = false := by unfold ycg; rw [hg]
  simp only [y1y, List.getElem?_cons_zero, List.getElem?_cons_succ, y9, ye0, yro, y92, y1d, y1h]
  exact no hf
 | some a =>
  simp only [y1y, List.getElem?_cons_zero, List.getElem?_cons_succ, y9, y9n, fa0, lt, y6f, y1g]
  by_cases e1 : a = m.to
  ·have hf : ycg A R m.to = false := by unfold ycg; rw [hg]; simp [e1]
   simp only [e1, ne_eq, not_true_eq_false, decide_false, ye0, yro, y92, y1d, y9, y1h]
   exact no hf
  ·simp only [e1, ne_eq, not_false_eq_true, decide_true, y9n, y9, l7, fa0, lt, mr, yy, y1g]
   by_cases e2 : (aget m.to R).getD 0 = 0
   ·have hf : ycg A R m.to = true := by unfold ycg; rw [hg]; simp [e1, e2]
    simp only [e2, decide_true, y1b]
    exact yes hf
   ·have hf : ycg A R m.to = false := by unfold ycg; rw [hg]; simp [e2]
    simp only [e2, decide_false, y1h]
    exact no hf
theorem y1hs {o : Option (List Mv)} (hL : (lst o).length ≤ 1000000) (v1 : AV) (A R : IM) (x4 : AO) (u : Heap) : ∀ (d i : Nat) (F : List Int) (x7 x8 : AO) (g : Nat), i + d = (lst o).length → F.length ≤ i →
  ∃ x7' x8' g', yhh (slA o) v1 V6 V7 V14 V15 (slA o) (.int .i64 (lst o).length) (.int .i64 (i : Int)) (hB A R x4 x7 x8 g F u) = yxn (slA o) v1 V6 V7 V14 V15 (hB A R x4 x7' x8' g' (yk1 A R ((lst o).drop i) F) u) := by
 intro d
 induction d with
 | zero =>
  intro i F x7 x8 g hi _
  have hc : ¬ ((i : Int) < ((lst o).length : Int)) := by omega
  rw [ykm, z14 (by omega)]
  simp only [y11c, yg, hc, decide_false, y9, y14r, y1h, yk1]
  exact ⟨x7, x8, g, rfl⟩
 | succ d ih =>
  intro i F x7 x8 g hi hF
  have hlt : i < (lst o).length := by omega
  have hc : ((i : Int) < ((lst o).length : Int)) := by omega
  have hw := y2x hlt (by omega)
  have hd : (lst o).drop i = (lst o)[i] :: (lst o).drop (i + 1) := zk hlt
  have hx := z9 hlt
  rw [ykm, hd]
  generalize (lst o)[i] = m at *
  obtain ⟨y7, y8, g', e⟩ := y1ui hx (slA o) v1 (.int .i64 (lst o).length) A R x4 x7 x8 g F (by omega) u
  simp only [y11c, yg, hc, decide_true, y9, y14r, y1b, e, yk1]
  obtain ⟨z7, z8, g2, h⟩ := ih (i + 1) (if ycg A R m.to = true then F ++ [m.to] else F) y7 y8 g' (by omega) (by
   split
   ·rw [zg, zj]; omega
   ·omega)
  push_cast at h
  refine ⟨z7, z8, g2, ?_⟩
  simp only [ydy, yz, hw, y9]
  exact h
end Go.Vm
namespace Go.Vm
structure DS where
 A : IM
 R : IM
 O : List Mv
 F : List Int
def yaq (s : DS) (to : Int) (F : List Int) : DS :=
 ⟨adel to s.A, dec1 ((aget to s.A).getD 0) s.R, s.O ++ [⟨to, (aget to s.A).getD 0⟩],
  if (aget ((aget to s.A).getD 0) (dec1 ((aget to s.A).getD 0) s.R)).getD 0 = 0 ∧ (aget ((aget to s.A).getD 0) (adel to s.A)).isSome = true then F ++ [(aget to s.A).getD 0] else F⟩
def y6j : Nat → DS → Option DS
 | 0, _ => none
 | k + 1, s => match s.F with
  | [] => some s
  | to :: F => y6j k (yaq s to F)
def p5g (n to : Int) (s : IM × IM) (k : Int) : Option Int → IM × IM
 | none => s
 | some b => if b = to then (aset k n s.1, dec1 to (inc n s.2)) else s
def p5s (n to : Int) (s : IM × IM) (p : Int × Int) : IM × IM := p5g n to s p.1 (aget p.1 s.1)
def yn4 (n : Int) (s : DS) (to : Int) : DS := ⟨(s.A.foldl (p5s n to) (s.A, s.R)).1, (s.A.foldl (p5s n to) (s.A, s.R)).2, s.O ++ [⟨n, to⟩], s.F ++ [to]⟩
def yrh (n : Int) (k : Nat) : List Mv → DS → Option DS
 | [], s => some s
 | m :: r, s => if (aget m.to s.A).isSome = true then
   match y6j k (yn4 n s m.to) with
   | some s' => yrh n k r s'
   | none => none
  else yrh n k r s
def yls (l : List Mv) (n : Int) : Option (List Mv) := match ypc n l [] with
 | none => none
 | some A => match y6j (l.length + 1) ⟨(p2M A).1, (p2M A).2, [], yk1 (p2M A).1 (p2M A).2 l []⟩ with
  | some s => (yrh n (l.length + 1) l s).map (·.O)
  | none => none
end Go.Vm
namespace Go.Vm
open Cel
theorem ybf {H : Heap} {j : Nat} {v : AV} (h : H[j]? = some (BV v)) : evLd false 1 (.lp j 1 0 0) H = some v := by
 simp [yr, y23, h]
theorem y1f3 {H : Heap} {j : Nat} {v w : AV} (h : H[j]? = some (BV w)) (hv : cellsOf v = [v]) (hl : y19 v = true) : evSt 1 (.lp j 1 0 0) v H = some (.tup [], H.set j (BV v)) := by
 simp [evSt, yr, y23, y2j, h, hv, hl, y1f]
theorem y1d1 {fb id g es b : Nat} {sl : Option Nat} {P Q ys : List (List AV)} {y : AV} {H : Heap} (h : H[id]? = some ⟨g, .arr false false es (P ++ Q)⟩) (hy : y28 H es y = some ys) (hb : (Q.length + ys.length + (Q.length + ys.length) / 4 + 512) * b ≤ 2 ^ 48) :
  y1v fb sl es b (.ls id g es P.length Q.length) y H = some (.ls id (g + 1) es 0 (Q.length + ys.length), H.set id ⟨g + 1, .arr false false es (Q ++ ys)⟩) := by
 unfold y1v
 rw [hy]
 simp only [h]
 rw [if_pos ⟨trivial, trivial, trivial, by rw [zg]; omega, .inr hb⟩]
 simp
theorem ysi {fb j es b : Nat} {o : AO} {ys : List (List AV)} {y : AV} {H : Heap} (h : H[fb + j]? = some o) (hy : y28 H es y = some ys) (h0 : ys ≠ []) (hb : ys.length * b ≤ 2 ^ 48) :
  y1v fb (some j) es b .nils y H = some (.ls (fb + j) (o.gen + 1) es 0 ys.length, H.set (fb + j) ⟨o.gen + 1, .arr false false es ys⟩) := by
 unfold y1v
 rw [hy]
 have h1 : ys.isEmpty = false := by cases ys with
  | nil => exact (h0 rfl).elim
  | cons => rfl
 simp only [h1]
 rw [if_neg (by simp), if_pos hb]
 simp only [y2k, place, h]
theorem y2fg {H : Heap} {fb j : Nat} {o : AO} (m : Mv) (h : H[fb + j]? = some o) : yl fb (some j) 2 1 [.int .i64 0, .int .i64 0] [(0, .agg (enc m))] H = some (.ls (fb + j) (o.gen + 1) 2 0 1, H.set (fb + j) ⟨o.gen + 1, .arr false false 2 [enc m]⟩) := by
 have e : y1i 2 [(0, AV.agg (enc m))] [[AV.int .i64 0, AV.int .i64 0]] = some [enc m] := rfl
 simp [yl, y2k, place, h, e]
theorem y19i {H : Heap} {fb j : Nat} {o : AO} (n : Int) (h : H[fb + j]? = some o) : yl fb (some j) 1 1 [.int .i64 0] [(0, .int .i64 n)] H = some (.ls (fb + j) (o.gen + 1) 1 0 1, H.set (fb + j) ⟨o.gen + 1, .arr false false 1 [[.int .i64 n]]⟩) := by
 have e : y1i 1 [(0, AV.int .i64 n)] [[AV.int .i64 0]] = some [[.int .i64 n]] := rfl
 simp [yl, y2k, place, h, e]
theorem y12j {H : Heap} {id g es : Nat} {r : List AV} (h : H[id]? = some ⟨g, .arr false false es [r]⟩) : y28 H es (.ls id g es 0 1) = some [r] := by
 simp [y28, yr, y23, h]
def OutV (H : Heap) (O : List Mv) (v : AV) (oid : Nat) : Prop := (v = .nils ∧ O = []) ∨ ∃ g, v = .ls oid g 2 0 O.length ∧ H[oid]? = some ⟨g, .arr false false 2 (O.map enc)⟩ ∧ O ≠ []
def y16c (H : Heap) (F : List Int) (v : AV) (fid : Nat) : Prop := (v = .nils ∧ F = [] ∧ fid = 14) ∨ ∃ (g : Nat) (P : List Int), v = .ls fid g 1 P.length F.length ∧ H[fid]? = some ⟨g, .arr false false 1 ((P ++ F).map enc)⟩
structure DRep (H : Heap) (s : DS) (oid fid : Nat) : Prop where
 m0 : H[0]? = some (AM vI 1 s.A)
 b1 : H[1]? = some B1
 m2 : H[2]? = some (AM vI 1 s.R)
 b3 : H[3]? = some B3
 out : ∃ v, H[5]? = some (BV v) ∧ OutV H s.O v oid
 free : ∃ v, H[6]? = some (BV v) ∧ y16c H s.F v fid
 o12 : oid = 12 ∨ 15 ≤ oid
 f9 : fid = 9 ∨ fid = 14
 len : 15 ≤ H.length
theorem OutV.other {H : Heap} {O : List Mv} {v : AV} {oid x : Nat} {o : AO} (h : OutV H O v oid) (hx : x ≠ oid) : OutV (H.set x o) O v oid := by
 rcases h with h | ⟨g, h1, h2, h3⟩
 ·exact .inl h
 ·exact .inr ⟨g, h1, by rw [yn hx]; exact h2, h3⟩
theorem y16c.other {H : Heap} {F : List Int} {v : AV} {fid x : Nat} {o : AO} (h : y16c H F v fid) (hx : x ≠ fid) : y16c (H.set x o) F v fid := by
 rcases h with h | ⟨g, P, h1, h2⟩
 ·exact .inl h
 ·exact .inr ⟨g, P, h1, by rw [yn hx]; exact h2⟩
theorem DRep.other {H : Heap} {s : DS} {oid fid x : Nat} {o : AO} (R : DRep H s oid fid) (h0 : x = 4 ∨ 7 ≤ x) (h1 : x ≠ oid) (h2 : x ≠ fid) : DRep (H.set x o) s oid fid := by
 obtain ⟨v, a1, a2⟩ := R.out
 obtain ⟨w, b1, b2⟩ := R.free
 exact ⟨by rw [yn (by omega)]; exact R.m0, by rw [yn (by omega)]; exact R.b1, by rw [yn (by omega)]; exact R.m2, by rw [yn (by omega)]; exact R.b3,
  ⟨v, by rw [yn (by omega)]; exact a1, a2.other h1⟩, ⟨w, by rw [yn (by omega)]; exact b1, b2.other h2⟩, R.o12, R.f9, by rw [zh]; exact R.len⟩
theorem DRep.done {H : Heap} {s : DS} {oid fid fb j gt tid : Nat} {o : AO} (R : DRep H s oid fid) (m : Mv) (ht : H[tid]? = some ⟨gt, .arr false false 2 [enc m]⟩) (hj : H[fb + j]? = some o) (hn : fb + j = 12 ∨ 15 ≤ fb + j) (hf : fb + j ≠ fid) (hof : oid ≠ fid) (hO : s.O.length ≤ 1000000) :
  ∃ ov v' H' oid', H[5]? = some (BV ov) ∧ y1v fb (some j) 2 16 ov (.ls tid gt 2 0 1) H = some (v', H') ∧ evSt 1 V14 v' H' = some (.tup [], H'.set 5 (BV v')) ∧ DRep (H'.set 5 (BV v')) { s with O := s.O ++ [m] } oid' fid ∧ (oid' = oid ∨ oid' = fb + j) ∧ H'.length = H.length ∧ oid' ≠ fid ∧
   (∀ x, x ≠ oid' → x ≠ 5 → (H'.set 5 (BV v'))[x]? = H[x]?) := by
 have e48 : (2:Nat) ^ 48 = 281474976710656 := by decide
 obtain ⟨v, a1, a2⟩ := R.out
 obtain ⟨w, b1, b2⟩ := R.free
 have l5 : 5 < H.length := by have := R.len; omega
 have hy := y12j ht
 have build : ∀ (id g : Nat), (id = 12 ∨ 15 ≤ id) → id ≠ fid → id < H.length → DRep ((H.set id ⟨g, .arr false false 2 ((s.O ++ [m]).map enc)⟩).set 5 (BV (.ls id g 2 0 (s.O ++ [m]).length))) { s with O := s.O ++ [m] } id fid := by
  intro id g hid hidf hl
  refine ⟨by rw [yn (by omega), yn (by omega)]; exact R.m0, by rw [yn (by omega), yn (by omega)]; exact R.b1, by rw [yn (by omega), yn (by omega)]; exact R.m2, by rw [yn (by omega), yn (by omega)]; exact R.b3,
   ⟨_, y2e (by rw [zh]; exact l5), .inr ⟨g, rfl, by rw [yn (by omega)]; exact y2e hl, by simp⟩⟩, ⟨w, by rw [yn (by omega), yn (by omega)]; exact b1, (b2.other hidf).other (by have := R.f9; omega)⟩, hid, R.f9, by rw [zh, zh]; exact R.len⟩
 rcases a2 with ⟨rfl, hO0⟩ | ⟨g, rfl, hob, _⟩
 ·have ap := ysi (b := 16) hj hy (by simp) (by rw [e48]; simp)
  have hlen : fb + j < H.length := y3m hj
  refine ⟨.nils, _, _, fb + j, a1, ap, y1f3 (w := .nils) (by rw [yn (by omega)]; exact a1) rfl rfl, ?_, .inr rfl, by rw [zh], hf, fun x h1 h2 => by rw [yn (fun e => h2 e.symm), yn (fun e => h1 e.symm)]⟩
  have := build (fb + j) (o.gen + 1) hn hf hlen
  rw [hO0] at this ⊢
  exact this
 ·have hl : oid < H.length := y3m hob
  have ap := y1d1 (fb := fb) (sl := some j) (b := 16) (P := []) (Q := s.O.map enc) (H := H) hob hy (by rw [e48, zy]; simp only [List.length_singleton]; omega)
  rw [zy, z13, zj] at ap
  have ho := R.o12
  refine ⟨_, _, _, oid, a1, ap, y1f3 (w := .ls oid g 2 0 s.O.length) (by rw [yn (by omega)]; exact a1) rfl rfl, ?_, .inl rfl, by rw [zh], hof, fun x h1 h2 => by rw [yn (fun e => h2 e.symm), yn (fun e => h1 e.symm)]⟩
  have := build oid (g + 1) ho hof hl
  rw [z2m, zg] at this
  exact this
end Go.Vm
namespace Go.Vm
open Cel
theorem DRep.pop {H : Heap} {s : DS} {oid fid : Nat} (R : DRep H s oid fid) {to : Int} {F : List Int} (hF : s.F = to :: F) :
  ∃ v a, H[6]? = some (BV v) ∧ y10 1 v (.int .i64 0) = some a ∧ evLd false 1 a H = some (.int .i64 to) ∧ ∃ v', y75 1 v (some (.int .i64 1)) none = some v' ∧ evSt 1 V15 v' H = some (.tup [], H.set 6 (BV v')) ∧ DRep (H.set 6 (BV v')) { s with F := F } oid fid ∧ v' ≠ .nils := by
 obtain ⟨ov, a1, a2⟩ := R.out
 obtain ⟨w, b1, b2⟩ := R.free
 rw [hF] at b2
 rcases b2 with ⟨_, h, _⟩ | ⟨g, P, rfl, hb⟩
 ·cases h
 have l6 : 6 < H.length := by have := R.len; omega
 have f9 := R.f9
 have o12 := R.o12
 have hx : ((P ++ to :: F).map enc)[P.length]? = some [AV.int .i64 to] := by
  rw [z1a, z2a (zi _), Nat.sub_self]
  rfl
 refine ⟨_, .lp fid g P.length 0, b1, ?_, y26f (es := 1) hb hx, .ls fid g 1 (P.length + 1) F.length, ?_, y1f3 b1 rfl rfl, ?_, fun h => by cases h⟩
 ·simp [y10]
 ·have : (1 : Int) ≤ (F.length : Int) + 1 := by omega
  simp [y75, yqq, ybv, yoo, this]
 ·refine ⟨by rw [yn (by omega)]; exact R.m0, by rw [yn (by omega)]; exact R.b1, by rw [yn (by omega)]; exact R.m2, by rw [yn (by omega)]; exact R.b3, ⟨ov, by rw [yn (by omega)]; exact a1, a2.other (by omega)⟩,
   ⟨_, y2e l6, .inr ⟨g, P ++ [to], by rw [zg]; rfl, by rw [yn (by omega), z1m]; exact hb⟩⟩, R.o12, R.f9, by rw [zh]; exact R.len⟩
theorem DRep.setA {H : Heap} {s : DS} {oid fid : Nat} (R : DRep H s oid fid) (A : IM) : DRep (H.set 0 (AM vI 1 A)) { s with A := A } oid fid := by
 obtain ⟨ov, a1, a2⟩ := R.out
 obtain ⟨w, b1, b2⟩ := R.free
 have f9 := R.f9
 have o12 := R.o12
 exact ⟨y2e (by have := R.len; omega), by rw [yn (by omega)]; exact R.b1, by rw [yn (by omega)]; exact R.m2, by rw [yn (by omega)]; exact R.b3, ⟨ov, by rw [yn (by omega)]; exact a1, a2.other (by omega)⟩,
  ⟨w, by rw [yn (by omega)]; exact b1, b2.other (by omega)⟩, o12, f9, by rw [zh]; exact R.len⟩
theorem DRep.setR {H : Heap} {s : DS} {oid fid : Nat} (R : DRep H s oid fid) (A : IM) : DRep (H.set 2 (AM vI 1 A)) { s with R := A } oid fid := by
 obtain ⟨ov, a1, a2⟩ := R.out
 obtain ⟨w, b1, b2⟩ := R.free
 have f9 := R.f9
 have o12 := R.o12
 exact ⟨by rw [yn (by omega)]; exact R.m0, by rw [yn (by omega)]; exact R.b1, y2e (by have := R.len; omega), by rw [yn (by omega)]; exact R.b3, ⟨ov, by rw [yn (by omega)]; exact a1, a2.other (by omega)⟩,
  ⟨w, by rw [yn (by omega)]; exact b1, b2.other (by omega)⟩, o12, f9, by rw [zh]; exact R.len⟩
theorem DRep.push {H : Heap} {s : DS} {oid fid fb j gt tid : Nat} {o : AO} (R : DRep H s oid fid) (n : Int) (ht : H[tid]? = some ⟨gt, .arr false false 1 [[.int .i64 n]]⟩) (hj : H[fb + j]? = some o) (hn : fid = fb + j ∨ ∃ w, H[6]? = some (BV w) ∧ w ≠ .nils) (hof : oid ≠ fid) (hF : s.F.length ≤ 1000000) :
  ∃ fv v' H', H[6]? = some (BV fv) ∧ y1v fb (some j) 1 8 fv (.ls tid gt 1 0 1) H = some (v', H') ∧ evSt 1 V15 v' H' = some (.tup [], H'.set 6 (BV v')) ∧ DRep (H'.set 6 (BV v')) { s with F := s.F ++ [n] } oid fid ∧ H'.length = H.length ∧ (∀ x, x ≠ fid → x ≠ 6 → (H'.set 6 (BV v'))[x]? = H[x]?) ∧ v' ≠ .nils := by
 have e48 : (2:Nat) ^ 48 = 281474976710656 := by decide
 obtain ⟨ov, a1, a2⟩ := R.out
 obtain ⟨w, b1, b2⟩ := R.free
 have l6 : 6 < H.length := by have := R.len; omega
 have f9 := R.f9
 have o12 := R.o12
 have hy := y12j ht
 have build : ∀ (g : Nat), fid < H.length → DRep ((H.set fid ⟨g, .arr false false 1 ((s.F ++ [n]).map enc)⟩).set 6 (BV (.ls fid g 1 0 (s.F ++ [n]).length))) { s with F := s.F ++ [n] } oid fid := by
  intro g hl
  exact ⟨by rw [yn (by omega), yn (by omega)]; exact R.m0, by rw [yn (by omega), yn (by omega)]; exact R.b1, by rw [yn (by omega), yn (by omega)]; exact R.m2, by rw [yn (by omega), yn (by omega)]; exact R.b3,
   ⟨ov, by rw [yn (by omega), yn (by omega)]; exact a1, (a2.other (fun e => hof e.symm)).other (by omega)⟩, ⟨_, y2e (by rw [zh]; exact l6), .inr ⟨g, [], rfl, by rw [yn (by omega)]; exact y2e hl⟩⟩, R.o12, R.f9, by rw [zh, zh]; exact R.len⟩
 rcases b2 with ⟨rfl, hF0, _⟩ | ⟨g, P, rfl, hb⟩
 ·have hn : fid = fb + j := by
   rcases hn with h | ⟨w, h1, h2⟩
   ·exact h
   ·rw [b1] at h1
    injection h1 with h1
    injection h1 with _ h1
    injection h1 with _ _ _ h1
    injection h1 with h1 _
    injection h1 with h1 _
    exact (h2 h1.symm).elim
  have ap := ysi (b := 8) hj hy (by simp) (by rw [e48]; simp)
  have hlen : fb + j < H.length := y3m hj
  refine ⟨.nils, _, _, b1, ap, y1f3 (w := .nils) (by rw [yn (by omega)]; exact b1) rfl rfl, ?_, by rw [zh], fun x h1 h2 => by rw [yn (fun e => h2 e.symm), yn (fun e => h1 (by omega))], fun h => by cases h⟩
  have := build (o.gen + 1) (by omega)
  rw [hF0] at this ⊢
  rw [hn] at this ⊢
  exact this
 ·have hl : fid < H.length := y3m hb
  have hb' : H[fid]? = some ⟨g, .arr false false 1 (P.map enc ++ s.F.map enc)⟩ := by rw [← z2m]; exact hb
  have ap := y1d1 (fb := fb) (sl := some j) (b := 8) (P := P.map enc) (Q := s.F.map enc) (H := H) hb' hy (by rw [e48, zy]; simp only [List.length_singleton]; omega)
  rw [zy, zy, zj] at ap
  refine ⟨_, _, _, b1, ap, y1f3 (w := .ls fid g 1 P.length s.F.length) (by rw [yn (by omega)]; exact b1) rfl rfl, ?_, by rw [zh], fun x h1 h2 => by rw [yn (fun e => h2 e.symm), yn (fun e => h1 e.symm)], fun h => by cases h⟩
  have := build (g + 1) hl
  rw [z2m, zg] at this
  exact this
end Go.Vm
namespace Go.Vm
open Cel
theorem yop {H : Heap} {x : Nat} (h : x < H.length) : ∃ o, H[x]? = some o := ⟨_, z9 h⟩
theorem y15q {fb : Nat} {H : Heap} {s : DS} {oid fid : Nat} (R : DRep H s oid fid) (hl : H.length = fb + 4) (h15 : 15 ≤ fb) (ho : oid < fb ∨ oid = fb + 1) (hO : s.O.length ≤ 1000000) (hFl : s.F.length ≤ 1000000) {to : Int} {F : List Int} (hF : s.F = to :: F) :
  ∃ H' oid', y23j fb V15 V6 V14 V7 H = yfd fb V15 V6 V14 V7 H' ∧ DRep H' (yaq s to F) oid' fid ∧ H'.length = fb + 4 ∧ (oid' < fb ∨ oid' = fb + 1) := by
 have f9 := R.f9
 have o12 := R.o12
 obtain ⟨v, ad, p1, p2, p3, v', p4, p5, R1, nn⟩ := R.pop hF
 unfold y23j
 simp only [ybf p1, y9, p2, p3, p4, p5, ye]
 have hl1 : (H.set 6 (BV v')).length = fb + 4 := by rw [zh, hl]
 have k1 : (H.set 6 (BV v'))[6]? = some (BV v') := y2e (by omega)
 generalize H.set 6 (BV v') = h1 at R1 hl1 k1 ⊢
 have l6 : evLd false 1 V6 h1 = some (.lm 0 1) := ybf R1.b1
 have mg := yef (vf := vI) R1.m0 (.int .i64 0) to
 rw [ylx] at mg
 generalize ha : (aget to s.A).getD 0 = a at mg
 have ev : yq [.int .i64 0, .int .i64 0] [(0, 1, .int .i64 to), (1, 1, .int .i64 a)] = some (.agg (enc (Mv.mk to a))) := rfl
 obtain ⟨ot, hot⟩ := yop (H := h1) (x := fb + 0) (by omega)
 have bs := y2fg ⟨to, a⟩ hot
 have R2 := R1.other (x := fb + 0) (o := ⟨ot.gen + 1, .arr false false 2 [enc (Mv.mk to a)]⟩) (by omega) (by omega) (by omega)
 have hl2 : (h1.set (fb + 0) ⟨ot.gen + 1, .arr false false 2 [enc (Mv.mk to a)]⟩).length = fb + 4 := by rw [zh, hl1]
 have ht := y2e (H := h1) (x := ⟨ot.gen + 1, .arr false false 2 [enc (Mv.mk to a)]⟩) (a := fb + 0) (by omega)
 have h5e : (h1.set (fb + 0) ⟨ot.gen + 1, .arr false false 2 [enc (Mv.mk to a)]⟩)[5]? = h1[5]? := yn (by omega)
 obtain ⟨oj, hoj⟩ := yop (H := h1.set (fb + 0) ⟨ot.gen + 1, .arr false false 2 [enc (Mv.mk to a)]⟩) (x := fb + 1) (by omega)
 obtain ⟨ov, v2, H3, oid', d1, d2, d3, R3, d5, d6, d7, d8⟩ := R2.done (fb := fb) (j := 1) ⟨to, a⟩ ht hoj (by omega) (by omega) (by omega) hO
 rw [h5e] at d1
 have l14 : evLd false 1 V14 h1 = some ov := ybf d1
 simp only [l6, y9, mg, l14, ev, bs, ye, d2, d3]
 have hl4 : (H3.set 5 (BV v2)).length = fb + 4 := by rw [zh, d6, hl2]
 have ho' : oid' < fb ∨ oid' = fb + 1 := by rcases d5 with e | e <;> omega
 have k4 : (H3.set 5 (BV v2))[6]? = some (BV v') := by rw [d8 6 (by omega) (by omega), yn (by omega)]; exact k1
 generalize H3.set 5 (BV v2) = h4 at R3 hl4 k4 ⊢
 have l6' : evLd false 1 V6 h4 = some (.lm 0 1) := ybf R3.b1
 have md := y289 (vf := vI) R3.m0 to
 have R4 := R3.setA (adel to s.A)
 simp only [l6', y9, md, ye]
 have hl5 : (h4.set 0 (AM vI 1 (adel to s.A))).length = fb + 4 := by rw [zh, hl4]
 have k5 : (h4.set 0 (AM vI 1 (adel to s.A)))[6]? = some (BV v') := by rw [yn (by omega)]; exact k4
 generalize h4.set 0 (AM vI 1 (adel to s.A)) = h5 at R4 hl5 k5 ⊢
 have l7 : evLd false 1 V7 h5 = some (.lm 2 1) := ybf R4.b3
 have mr := yef (vf := vI) R4.m2 (.int .i64 0) a
 rw [ylx] at mr
 have mp := ynd (vf := vI) R4.m2 a (w64 ((aget a s.R).getD 0 - 1))
 have R5 := R4.setR (dec1 a s.R)
 have ed : aset a (w64 ((aget a s.R).getD 0 - 1)) s.R = dec1 a s.R := rfl
 rw [ed] at mp
 have es : IntKind.wrap .i64 ((aget a s.R).getD 0 - 1) = w64 ((aget a s.R).getD 0 - 1) := rfl
 simp only [l7, y9, mr, y59, es]
 rw [show (AV.int .i64 (w64 ((aget a s.R).getD 0 - 1))) = vI (w64 ((aget a s.R).getD 0 - 1)) from rfl, mp]
 simp only [ye]
 have hl6 : (h5.set 2 (AM vI 1 (dec1 a s.R))).length = fb + 4 := by rw [zh, hl5]
 have k6 : (h5.set 2 (AM vI 1 (dec1 a s.R)))[6]? = some (BV v') := by rw [yn (by omega)]; exact k5
 generalize h5.set 2 (AM vI 1 (dec1 a s.R)) = h6 at R5 hl6 k6 ⊢
 have l7' : evLd false 1 V7 h6 = some (.lm 2 1) := ybf R5.b3
 have l6'' : evLd false 1 V6 h6 = some (.lm 0 1) := ybf R5.b1
 have mr2 := yef (vf := vI) R5.m2 (.int .i64 0) a
 rw [ylx] at mr2
 have mg2 := ygo (vf := vI) R5.m0 (.int .i64 0) a
 simp only at mr2 mg2
 simp only [l7', y9, mr2, yy]
 have fin : ¬ ((aget a (dec1 a s.R)).getD 0 = 0 ∧ (aget a (adel to s.A)).isSome = true) → DRep h6 (yaq s to F) oid' fid := by
  intro hn
  unfold yaq
  rw [ha, if_neg hn]
  exact R5
 by_cases e : (aget a (dec1 a s.R)).getD 0 = 0
 ·simp only [e, decide_true, y1b, l6'', y9, mg2]
  cases hg : aget a (adel to s.A) with
  | none =>
   simp only [y1y, List.getElem?_cons_zero, List.getElem?_cons_succ, y9, y1h]
   exact ⟨h6, oid', rfl, fin (by rw [hg]; simp), hl6, ho'⟩
  | some q =>
   simp only [y1y, List.getElem?_cons_zero, List.getElem?_cons_succ, y9, y1b]
   obtain ⟨ou, hou⟩ := yop (H := h6) (x := fb + 2) (by omega)
   have bs2 := y19i a hou
   have R6 := R5.other (x := fb + 2) (o := ⟨ou.gen + 1, .arr false false 1 [[.int .i64 a]]⟩) (by omega) (by omega) (by omega)
   have hl7 : (h6.set (fb + 2) ⟨ou.gen + 1, .arr false false 1 [[.int .i64 a]]⟩).length = fb + 4 := by rw [zh, hl6]
   have ht2 := y2e (H := h6) (x := ⟨ou.gen + 1, .arr false false 1 [[.int .i64 a]]⟩) (a := fb + 2) (by omega)
   have h6e : (h6.set (fb + 2) ⟨ou.gen + 1, .arr false false 1 [[.int .i64 a]]⟩)[6]? = h6[6]? := yn (by omega)
   obtain ⟨ok, hok⟩ := yop (H := h6.set (fb + 2) ⟨ou.gen + 1, .arr false false 1 [[.int .i64 a]]⟩) (x := fb + 3) (by omega)
   obtain ⟨fv, v3, H8, c1, c2, c3, R7, c5, c6, _⟩ := R6.push (fb := fb) (j := 3) a ht2 hok (.inr ⟨v', by rw [h6e]; exact k6, nn⟩) (by omega) (by rw [hF] at hFl; simp only [List.length_cons] at hFl; show F.length ≤ _; omega)
   rw [h6e] at c1
   have l15 : evLd false 1 V15 h6 = some fv := ybf c1
   simp only [l15, y9, bs2, ye, c2, c3]
   refine ⟨_, oid', rfl, ?_, by rw [zh, c5, hl7], ho'⟩
   unfold yaq
   rw [ha, if_pos ⟨e, by rw [hg]; rfl⟩]
   exact R7
 ·simp only [e, decide_false, y1h]
  exact ⟨h6, oid', rfl, fin (fun q => e q.1), hl6, ho'⟩
end Go.Vm
namespace Go.Vm
open Cel
theorem y23l (s : DS) (to : Int) (F : List Int) : (yaq s to F).O.length = s.O.length + 1 := by simp [yaq]
theorem y1x2 (s : DS) (to : Int) (F : List Int) : (yaq s to F).F.length ≤ F.length + 1 := by
 unfold yaq
 simp only
 split
 ·simp
 ·omega
theorem ygm : ∀ {k : Nat} {s s' : DS}, y6j k s = some s' → s.O.length ≤ s'.O.length
 | 0, _, _, h => by cases h
 | k + 1, s, s', h => by
  rw [y6j] at h
  split at h
  ·injection h with h
   rw [h]
   exact zi _
  ·rename_i to F _
   have := ygm h
   have := y23l s to F
   omega
theorem y16c.len {H : Heap} {F : List Int} {v : AV} {fid : Nat} (h : y16c H F v fid) (H' : Heap) : y17 1 v H' = some (.int .i64 F.length) := by
 rcases h with ⟨rfl, rfl, _⟩ | ⟨g, P, rfl, _⟩
 ·rfl
 ·rfl
theorem y17m {fb fid : Nat} (h15 : 15 ≤ fb) : ∀ (k : Nat) (s s' : DS) (H : Heap) (oid : Nat), DRep H s oid fid → H.length = fb + 4 → (oid < fb ∨ oid = fb + 1) → s'.O.length ≤ 1000000 → s.F.length ≤ 1000000 → y6j k s = some s' →
  ∃ H' oid', yfd fb V15 V6 V14 V7 H = some (.tup [], H') ∧ DRep H' s' oid' fid ∧ H'.length = fb + 4 ∧ (oid' < fb ∨ oid' = fb + 1) := by
 intro k
 induction k with
 | zero => intro s s' H oid _ _ _ _ _ h; cases h
 | succ k ih =>
  intro s s' H oid R hl ho hO hF h
  obtain ⟨w, b1, b2⟩ := R.free
  have hO1 := ygm h
  rw [y6j] at h
  rw [y1r6]
  simp only [y27t, ybf b1, y9, b2.len, y4m]
  cases hf : s.F with
  | nil =>
   rw [hf] at h
   injection h with h
   subst h
   simp only [List.length_nil]
   exact ⟨H, oid, rfl, R, hl, ho⟩
  | cons to F =>
   rw [hf] at h hF
   simp only at h
   have hc : (((to :: F).length : Int) > 0) := by simp only [List.length_cons]; omega
   simp only [hc, decide_true, y1b]
   obtain ⟨H', oid', e1, R', hl', ho'⟩ := y15q R hl h15 ho (by omega) (by rw [hf]; exact hF) hf
   rw [e1]
   refine ih _ _ _ _ R' hl' ho' hO ?_ h
   have := y1x2 s to F
   simp only [List.length_cons] at hF
   omega
theorem ymr {s s' : DS} {H : Heap} {oid fid k : Nat} (R : DRep H s oid fid) (ho : oid < H.length) (hO : s'.O.length ≤ 1000000) (hF : s.F.length ≤ 1000000) (h : y6j k s = some s') :
  ∃ H' oid', yyi E (yd E) 0 none true (.fn 247 [V15, V6, V14, V7]) [] H = some (.tup [], H') ∧ DRep H' s' oid' fid ∧ oid' < H'.length ∧ H.length ≤ H'.length := by
 have R0 : DRep (H ++ yj 4) s oid fid := by
  have hget : ∀ {x : Nat} {o : AO}, H[x]? = some o → (H ++ yj 4)[x]? = some o := fun h => by rw [zx (zb.1 h).1]; exact h
  obtain ⟨v, a1, a2⟩ := R.out
  obtain ⟨w, b1, b2⟩ := R.free
  refine ⟨hget R.m0, hget R.b1, hget R.m2, hget R.b3, ⟨v, hget a1, a2.imp (fun h => h) fun ⟨g, h1, h2, h3⟩ => ⟨g, h1, hget h2, h3⟩⟩, ⟨w, hget b1, b2.imp (fun h => h) fun ⟨g, P, h1, h2⟩ => ⟨g, P, h1, hget h2⟩⟩, R.o12, R.f9, by rw [zg]; have := R.len; omega⟩
 have hl : (H ++ yj 4).length = H.length + 4 := by rw [zg]; rfl
 obtain ⟨H', oid', e1, R', hl', ho'⟩ := y17m (fb := H.length) R.len k s s' _ oid R0 hl (.inl ho) hO hF h
 refine ⟨H', oid', ?_, R', by omega, by omega⟩
 have e2 := y2sf H.length V15 V6 V14 V7 H
 rw [if_pos rfl, e1] at e2
 have hp : E.pure 247 = false := by kernel_rfl
 show yc E (yd E) 0 none true 247 [V15, V6, V14, V7] H = _
 unfold yc
 rw [hp]
 exact e2
end Go.Vm
namespace Go.Vm
theorem y20c (a j : Int) (R : IM) : aget j (dec1 a R) = if j = a then some (w64 ((aget a R).getD 0 - 1)) else aget j R := y4i ..
theorem yz8 {a : Int} {R : IM} (h : anew R) : anew (dec1 a R) := ya2 _ _ _ h
theorem y5a (n to : Int) (s : IM × IM) (p : Int × Int) : p5s n to s p = p5g n to s p.1 (aget p.1 s.1) := rfl
theorem y7q (n to : Int) {s : IM × IM} (p : Int × Int) (h1 : anew s.1) (h2 : anew s.2) : anew (p5s n to s p).1 ∧ anew (p5s n to s p).2 := by
 rw [y5a]
 cases aget p.1 s.1 with
 | none => exact ⟨h1, h2⟩
 | some b =>
  simp only [p5g]
  split
  ·exact ⟨ya2 _ _ _ h1, yz8 (yyj h2)⟩
  ·exact ⟨h1, h2⟩
theorem y2i1 {R R' : IM} (n to : Int) (h : ∀ k, aget k R = aget k R') (k : Int) : aget k (dec1 to (inc n R)) = aget k (dec1 to (inc n R')) := by
 simp only [y20c, ygu, h]
theorem y1yi (n to : Int) {s s' : IM × IM} (p : Int × Int) (h : E2 s s') : E2 (p5s n to s p) (p5s n to s' p) := by
 obtain ⟨a1, a2, a3, b1, b2, b3⟩ := h
 obtain ⟨c1, c2⟩ := y7q n to p a1 b1
 obtain ⟨d1, d2⟩ := y7q n to p a2 b2
 refine ⟨c1, d1, fun k => ?_, c2, d2, fun k => ?_⟩
 ·rw [y5a n to s, y5a n to s', ← a3 p.1]
  cases aget p.1 s.1 with
  | none => exact a3 k
  | some a =>
   simp only [p5g]
   split
   ·rw [y4i, y4i, a3 k]
   ·exact a3 k
 ·rw [y5a n to s, y5a n to s', ← a3 p.1]
  cases aget p.1 s.1 with
  | none => exact b3 k
  | some a =>
   simp only [p5g]
   split
   ·exact y2i1 n to b3 k
   ·exact b3 k
theorem y1zg (n to : Int) {s : IM × IM} (p q : Int × Int) (h : E2 s s) (hd : p.1 ≠ q.1) : E2 (p5s n to (p5s n to s p) q) (p5s n to (p5s n to s q) p) := by
 obtain ⟨a1, _, _, b1, _, _⟩ := h
 obtain ⟨c1, c2⟩ := y7q n to p a1 b1
 obtain ⟨c3, c4⟩ := y7q n to q c1 c2
 obtain ⟨d1, d2⟩ := y7q n to q a1 b1
 obtain ⟨d3, d4⟩ := y7q n to p d1 d2
 have hp : aget q.1 (p5s n to s p).1 = aget q.1 s.1 := by
  rw [y5a]
  cases aget p.1 s.1 with
  | none => rfl
  | some b =>
   simp only [p5g]
   split
   ·rw [y4i, if_neg (fun e => hd e.symm)]
   ·rfl
 have hq : aget p.1 (p5s n to s q).1 = aget p.1 s.1 := by
  rw [y5a]
  cases aget q.1 s.1 with
  | none => rfl
  | some b =>
   simp only [p5g]
   split
   ·rw [y4i, if_neg hd]
   ·rfl
 cases ep : aget p.1 s.1 with
 | none =>
  have x1 : p5s n to s p = s := by rw [y5a, ep]; rfl
  have x2 : p5s n to (p5s n to s q) p = p5s n to s q := by rw [y5a n to (p5s n to s q), hq, ep]; rfl
  rw [x1, x2]
  exact ⟨d1, d1, fun _ => rfl, d2, d2, fun _ => rfl⟩
 | some a =>
  cases eq : aget q.1 s.1 with
  | none =>
   have x1 : p5s n to s q = s := by rw [y5a, eq]; rfl
   have x2 : p5s n to (p5s n to s p) q = p5s n to s p := by rw [y5a n to (p5s n to s p), hp, eq]; rfl
   rw [x1, x2]
   exact ⟨c1, c1, fun _ => rfl, c2, c2, fun _ => rfl⟩
  | some b =>
   have x1 : p5s n to (p5s n to s p) q = p5g n to (p5g n to s p.1 (some a)) q.1 (some b) := by rw [y5a n to (p5s n to s p), hp, eq, y5a n to s p, ep]
   have x2 : p5s n to (p5s n to s q) p = p5g n to (p5g n to s q.1 (some b)) p.1 (some a) := by rw [y5a n to (p5s n to s q), hq, ep, y5a n to s q, eq]
   refine ⟨c3, d3, fun k => ?_, c4, d4, fun k => ?_⟩
   ·rw [x1, x2]
    simp only [p5g]
    by_cases e1 : a = to <;> by_cases e2 : b = to <;> simp only [e1, e2, if_true, if_false]
    simp only [y4i]
    split <;> split <;> rfl
   ·rw [x1, x2]
    simp only [p5g]
    by_cases e1 : a = to <;> by_cases e2 : b = to <;> simp only [e1, e2, if_true, if_false]
theorem y2gp (n to : Int) {π l : IM} {s : IM × IM} (hl : anew l) (hp : π.Perm l) (h1 : anew s.1) (h2 : anew s.2) : E2 (π.foldl (p5s n to) s) (l.foldl (p5s n to) s) := by
 have hπ : anew π := y6s.2 (((hp.map _).nodup_iff).2 (y6s.1 hl))
 refine yqc (E := E2) (step := p5s n to) (D := fun p q => p.1 ≠ q.1) y2l4 (fun p h => y1yi n to p h) (fun h => ⟨h.1, h.1, fun _ => rfl, h.2.2.2.1, h.2.2.2.1, fun _ => rfl⟩) (fun p q h hd => y1zg n to p q h hd) hp ?_ ⟨h1, h1, fun _ => rfl, h2, h2, fun _ => rfl⟩
 exact (z3b.1 (y6s.1 hπ)).imp fun h => ⟨h, fun e => h e.symm⟩
end Go.Vm
namespace Go.Vm
open Cel
abbrev hG (H : Heap) (A R : IM) : Heap := (H.set 0 (KM vI 1 A)).set 2 (AM vI 1 R)
section
variable {H : Heap} {A R : IM} (hl : 15 ≤ H.length)
include hl
theorem hG_0 (A' : IM) : (hG H A R).set 0 (KM vI 1 A') = hG H A' R := by
 unfold hG
 rw [List.set_comm _ _ (by decide), z2r]
theorem hG_2 (R' : IM) : (hG H A R).set 2 (AM vI 1 R') = hG H A R' := z2r ..
theorem y22b : (hG H A R)[0]? = some (KM vI 1 A) := by rw [yn (by decide)]; exact y2e (by omega)
theorem y2o8 : (hG H A R)[2]? = some (AM vI 1 R) := y2e (by rw [zh]; omega)
omit hl in
theorem hG_o {x : Nat} (h0 : x ≠ 0) (h2 : x ≠ 2) : (hG H A R)[x]? = H[x]? := by rw [yn (fun e => h2 e.symm), yn (fun e => h0 e.symm)]
end
noncomputable def st5 (n : Int) (v22 : AV) (q : AV × AV) (h : Heap) : Option Heap := ob (y29 0 (AV.tup [q.1, q.2])) fun v140 => ob (y29 1 (AV.tup [q.1, q.2])) fun v141 => (y1xc (.int .i64 n) V6 V7 v22 v140 v141 h)
theorem y2ij {H : Heap} (hl : 15 ≤ H.length) (h1 : H[1]? = some B1) (h3 : H[3]? = some B3) {m : Mv} {g10 : Nat} (h10 : H[10]? = some (AG g10 m)) (n : Int) (A R : IM) (k b : Int) (hk : (aget k A).isSome = true) :
  st5 n (.lp 10 g10 0 0) (.int .i64 k, vI b) (hG H A R) = some (hG H (p5g n m.to (A, R) k (some b)).1 (p5g n m.to (A, R) k (some b)).2) := by
 have l6 : ∀ A R : IM, evLd false 1 V6 (hG H A R) = some (.lm 0 1) := fun A R => ybf (by rw [hG_o (by decide) (by decide)]; exact h1)
 have l7 : ∀ A R : IM, evLd false 1 V7 (hG H A R) = some (.lm 2 1) := fun A R => ybf (by rw [hG_o (by decide) (by decide)]; exact h3)
 have lt : ∀ A R : IM, evLd false 1 (.lp 10 g10 0 0) (hG H A R) = some (.int .i64 m.to) := fun A R => y176 (by rw [hG_o (by decide) (by decide)]; exact h10)
 have fa0 : evFa 0 (.lp 10 g10 0 0) = some (.lp 10 g10 0 0) := rfl
 unfold st5
 simp only [y1y, List.getElem?_cons_zero, List.getElem?_cons_succ, y9, y1xc, fa0, lt, yy]
 by_cases e : b = m.to
 ·have mp := y2e4 (y22b hl (A := A) (R := R)) k n hk
  rw [hG_0 hl] at mp
  have mg : ∀ (A R : IM) (x : Int), y2z false [0] (.int .i64 0) false (.lm 2 1) (.int .i64 x) (hG H A R) = some (.int .i64 ((aget x R).getD 0)) := fun A R x => by
   have := yef (y2o8 hl (A := A) (R := R)) (.int .i64 0) x
   rw [ylx] at this
   exact this
  have mw : ∀ (A R : IM) (x y : Int), y3x false [0] (.lm 2 1) (.int .i64 x) (.int .i64 y) (hG H A R) = some (.tup [], hG H A (aset x y R)) := fun A R x y => by
   have := ynd (y2o8 hl (A := A) (R := R)) x y
   rw [hG_2 hl] at this
   exact this
  simp only [e, decide_true, y1b, l6, y9]
  rw [show (AV.int .i64 n) = vI n from rfl, mp]
  simp only [ye, l7, y9]
  rw [show (vI n) = AV.int .i64 n from rfl]
  simp only [mg, y9, yz, mw, ye, l7, fa0, lt, y59, p5g, if_true]
  rfl
 ·simp only [e, decide_false, y1h, p5g, if_false]
  rfl
theorem yva {H : Heap} (hl : 15 ≤ H.length) (h1 : H[1]? = some B1) (h3 : H[3]? = some B3) {m : Mv} {g10 : Nat} (h10 : H[10]? = some (AG g10 m)) (n : Int) : ∀ (π : IM) (s : IM × IM),
  mfold (ustep 0 1 fun h q => st5 n (.lp 10 g10 0 0) q h) (mEnt vI π) (hG H s.1 s.2) = some (hG H (π.foldl (p5s n m.to) s).1 (π.foldl (p5s n m.to) s).2)
 | [], s => rfl
 | (k, v) :: π, s => by
  have hu : ustep 0 1 (fun h q => st5 n (.lp 10 g10 0 0) q h) (hG H s.1 s.2) (.int .i64 k, vI v) = some (hG H (p5s n m.to s (k, v)).1 (p5s n m.to s (k, v)).2) := by
   refine y15f (vf := vI) (l := s.1) (l' := (p5s n m.to s (k, v)).1) (y22b hl) (y22b hl) (fun a ha => ?_) (fun hn => ?_)
   ·rw [y5a, ha]
    exact y2ij hl h1 h3 h10 n s.1 s.2 k a (by rw [ha]; rfl)
   ·rw [y5a, hn]
    rfl
  simp only [mEnt, List.map_cons, mfold, hu, List.foldl_cons]
  exact yva hl h1 h3 h10 n π _
end Go.Vm
namespace Go.Vm
open Cel
abbrev hX (H : Heap) (A R : IM) : Heap := (H.set 0 (AM vI 1 A)).set 2 (AM vI 1 R)
theorem y1xp {H : Heap} {A A' R R' : IM} (h1 : A.Perm A') (h2 : R.Perm R') : yg4 (hX H A R) (hX H A' R') := by
 intro i
 by_cases e2 : i = 2
 ·subst e2
  by_cases hl : 2 < H.length
  ·rw [y2e (by rw [zh]; exact hl), y2e (by rw [zh]; exact hl)]
   exact ⟨rfl, .inr ⟨false, _, _, rfl, rfl, h2.map _⟩⟩
  ·rw [z12 (by simp only [zh]; omega), z12 (by simp only [zh]; omega)]
   exact yof.refl _
 ·rw [yn (fun e => e2 e.symm), yn (fun e => e2 e.symm)]
  by_cases e0 : i = 0
  ·subst e0
   by_cases hl : 0 < H.length
   ·rw [y2e hl, y2e hl]
    exact ⟨rfl, .inr ⟨false, _, _, rfl, rfl, h1.map _⟩⟩
   ·rw [z12 (by simp only [zh]; omega), z12 (by simp only [zh]; omega)]
    exact yof.refl _
  ·rw [yn (fun e => e0 e.symm), yn (fun e => e0 e.symm)]
   exact yof.refl _
def p5M (n to : Int) (s : DS) : IM × IM := s.A.foldl (p5s n to) (s.A, s.R)
theorem y2db {H : Heap} {s : DS} {oid fid : Nat} (R : DRep H s oid fid) (hA : anew s.A) (hR : anew s.R) {m : Mv} {g10 : Nat} (h10 : H[10]? = some (AG g10 m)) (n : Int) (v20 v113 v114 v115 : AV) :
  y1tq (.int .i64 n) V6 V7 V14 V15 v20 (.lp 10 g10 0 0) v113 v114 v115 H = y1of (.int .i64 n) V6 V7 V14 V15 v20 (.lp 10 g10 0 0) v113 v114 v115 (hX H (p5M n m.to s).1 (p5M n m.to s).2) := by
 have hl := R.len
 unfold y1tq
 rw [ybf R.b1]
 simp only [y9]
 have e0 : hG H s.A s.R = H.set 0 (KM vI 1 s.A) := ynp (by rw [yn (by decide)]; exact R.m2)
 refine y25m (vf := vI) (step := st5 n (.lp 10 g10 0 0)) (H := H) (id := 0) (g := 1) (l := s.A) (K := fun h => y1of (.int .i64 n) V6 V7 V14 V15 v20 (.lp 10 g10 0 0) v113 v114 v115 h) R.m0
  (fun π => hX H (π.foldl (p5s n m.to) (s.A, s.R)).1 (π.foldl (p5s n m.to) (s.A, s.R)).2) (fun π _ => ⟨_, _, by rw [← e0]; exact yva hl R.b1 R.b3 h10 n π (s.A, s.R), y22b hl, ?_⟩) (fun π hp => ?_)
 ·unfold hG hX
  rw [List.set_comm _ _ (by decide : 2 ≠ 0), z2r]
 ·obtain ⟨a1, a2, a3, b1, b2, b3⟩ := y2gp n m.to (s := (s.A, s.R)) hA hp hA hR
  exact y1xp (y7z a1 a2 a3) (y7z b1 b2 b3)
end Go.Vm
namespace Go.Vm
open Cel
theorem ynr : ∀ {k : Nat} {s s' : DS}, y6j k s = some s' → s'.F = []
 | 0, _, _, h => by cases h
 | k + 1, s, s', h => by
  rw [y6j] at h
  split at h
  ·rename_i e
   injection h with h
   rw [← h]
   exact e
  ·exact ynr h
theorem yt2 {s : DS} (to : Int) (F : List Int) (h1 : anew s.A) (h2 : anew s.R) : anew (yaq s to F).A ∧ anew (yaq s to F).R := ⟨ya8 _ _ h1, yz8 h2⟩
theorem yc5 : ∀ {k : Nat} {s s' : DS}, y6j k s = some s' → anew s.A → anew s.R → anew s'.A ∧ anew s'.R
 | 0, _, _, h, _, _ => by cases h
 | k + 1, s, s', h, h1, h2 => by
  rw [y6j] at h
  split at h
  ·injection h with h
   rw [← h]
   exact ⟨h1, h2⟩
  ·rename_i to F _
   obtain ⟨a, b⟩ := yt2 (s := s) to F h1 h2
   exact yc5 h a b
theorem y1ne (n to : Int) : ∀ (π : IM) (s : IM × IM), anew s.1 → anew s.2 → anew (π.foldl (p5s n to) s).1 ∧ anew (π.foldl (p5s n to) s).2
 | [], s, h1, h2 => ⟨h1, h2⟩
 | p :: π, s, h1, h2 => by
  obtain ⟨a, b⟩ := y7q n to p h1 h2
  exact y1ne n to π _ a b
theorem ynh {n : Int} {k : Nat} : ∀ {r : List Mv} {s s' : DS}, yrh n k r s = some s' → s.O.length ≤ s'.O.length
 | [], s, s', h => by
  injection h with h
  rw [h]
  exact zi _
 | m :: r, s, s', h => by
  rw [yrh] at h
  split at h
  ·split at h
   ·rename_i s1 e
    have h1 := ygm e
    have h2 := ynh h
    have h3 : (yn4 n s m.to).O.length = s.O.length + 1 := by simp [yn4]
    omega
   ·cases h
  ·exact ynh h
theorem y1wz {o : Option (List Mv)} {i : Nat} {m : Mv} (hx : (lst o)[i]? = some m) {H : Heap} {s : DS} {oid fid : Nat} (R : DRep H s oid fid) (ho : oid < H.length) (hA : anew s.A) (hR : anew s.R) (hF : s.F = []) (n : Int) (len : AV) {k : Nat} {s' : DS}
  (hs : (if (aget m.to s.A).isSome = true then y6j k (yn4 n s m.to) else some s) = some s') (hO : s'.O.length ≤ 1000000) :
  ∃ H' oid', yye (.int .i64 n) V6 V7 V14 V15 (.fn 247 [V15, V6, V14, V7]) (slA o) len (.int .i64 (i : Int)) H = y1es (.int .i64 n) V6 V7 V14 V15 (.fn 247 [V15, V6, V14, V7]) (slA o) len (.int .i64 (i : Int)) H' ∧ DRep H' s' oid' fid ∧ oid' < H'.length ∧ anew s'.A ∧ anew s'.R ∧ s'.F = [] := by
 have f9 := R.f9
 have o12 := R.o12
 have hl := R.len
 obtain ⟨x10, hx10⟩ := yop (H := H) (x := 10) (by omega)
 obtain ⟨H1, n1, s1⟩ := y1pp (H := H) (j := 10) m hx10
 have R1 := R.other (x := 10) (o := AG (x10.gen + 1) m) (by omega) (by omega) (by omega)
 have h10 : (H.set 10 (AG (x10.gen + 1) m))[10]? = some (AG (x10.gen + 1) m) := y2e (by omega)
 have hl1 : (H.set 10 (AG (x10.gen + 1) m)).length = H.length := zh
 unfold yye
 simp only [y158 hx, y9, y2fx, n1, ye, s1]
 generalize H.set 10 (AG (x10.gen + 1) m) = h1 at R1 h10 hl1 ⊢
 have fa0 : evFa 0 (.lp 10 (x10.gen + 1) 0 0) = some (.lp 10 (x10.gen + 1) 0 0) := rfl
 have mg := ygo (vf := vI) R1.m0 (.int .i64 0) m.to
 unfold y2cv
 simp only [ybf R1.b1, y9, fa0, y176 h10, mg]
 cases hg : aget m.to s.A with
 | none =>
  rw [hg] at hs
  simp only [Option.isSome_none, zp, if_false, Option.some.injEq] at hs
  subst hs
  simp only [y1y, List.getElem?_cons_zero, List.getElem?_cons_succ, y9, y2a, z28, y1b]
  exact ⟨h1, oid, rfl, R1, by omega, hA, hR, hF⟩
 | some q =>
  rw [hg] at hs
  simp only [Option.isSome_some, if_true] at hs
  simp only [y1y, List.getElem?_cons_zero, List.getElem?_cons_succ, y9, y2a, z1w, y1h]
  have hO1 := ygm hs
  have hO2 : (yn4 n s m.to).O.length = s.O.length + 1 := by simp [yn4]
  unfold y28j
  have ev : yq [.int .i64 0, .int .i64 0] [(0, 1, .int .i64 n), (1, 1, .int .i64 m.to)] = some (.agg (enc (Mv.mk n m.to))) := rfl
  obtain ⟨ot, hot⟩ := yop (H := h1) (x := 0 + 11) (by omega)
  have bs := y2fg ⟨n, m.to⟩ hot
  have R2 := R1.other (x := 0 + 11) (o := ⟨ot.gen + 1, .arr false false 2 [enc (Mv.mk n m.to)]⟩) (by omega) (by omega) (by omega)
  have hl2 : (h1.set (0 + 11) ⟨ot.gen + 1, .arr false false 2 [enc (Mv.mk n m.to)]⟩).length = H.length := by rw [zh, hl1]
  have ht := y2e (H := h1) (x := ⟨ot.gen + 1, .arr false false 2 [enc (Mv.mk n m.to)]⟩) (a := 0 + 11) (by omega)
  have h5e : (h1.set (0 + 11) ⟨ot.gen + 1, .arr false false 2 [enc (Mv.mk n m.to)]⟩)[5]? = h1[5]? := yn (by omega)
  have h10e : (h1.set (0 + 11) ⟨ot.gen + 1, .arr false false 2 [enc (Mv.mk n m.to)]⟩)[10]? = some (AG (x10.gen + 1) m) := by rw [yn (by omega)]; exact h10
  obtain ⟨oj, hoj⟩ := yop (H := h1.set (0 + 11) ⟨ot.gen + 1, .arr false false 2 [enc (Mv.mk n m.to)]⟩) (x := 0 + 12) (by omega)
  obtain ⟨ov, v2, H3, oid', d1, d2, d3, R3, d5, d6, d7, d8⟩ := R2.done (fb := 0) (j := 12) ⟨n, m.to⟩ ht hoj (by omega) (by omega) (by omega) (by show s.O.length ≤ _; omega)
  rw [h5e] at d1
  simp only [ybf d1, y9, fa0, y176 h10, ev, bs, ye, d2, d3]
  have hl4 : (H3.set 5 (BV v2)).length = H.length := by rw [zh, d6, hl2]
  have h104 : (H3.set 5 (BV v2))[10]? = some (AG (x10.gen + 1) m) := by rw [d8 10 (by have := R3.o12; omega) (by omega)]; exact h10e
  have ho' : oid' < H.length := by rcases d5 with e | e <;> omega
  generalize H3.set 5 (BV v2) = h4 at R3 hl4 h104 ⊢
  rw [y2db R3 hA hR h104 n]
  have R4 : DRep (hX h4 (p5M n m.to s).1 (p5M n m.to s).2) (DS.mk (p5M n m.to s).1 (p5M n m.to s).2 (s.O ++ [⟨n, m.to⟩]) s.F) oid' fid := (R3.setA (p5M n m.to s).1).setR (p5M n m.to s).2
  have hl5 : (hX h4 (p5M n m.to s).1 (p5M n m.to s).2).length = H.length := by rw [zh, zh, hl4]
  have h105 : (hX h4 (p5M n m.to s).1 (p5M n m.to s).2)[10]? = some (AG (x10.gen + 1) m) := by rw [yn (by omega), yn (by omega)]; exact h104
  have e5 : p5M n m.to ⟨s.A, s.R, s.O ++ [⟨n, m.to⟩], s.F⟩ = p5M n m.to s := rfl
  rw [e5]
  generalize hX h4 (p5M n m.to s).1 (p5M n m.to s).2 = h5 at R4 hl5 h105 ⊢
  unfold y1of
  obtain ⟨ou, hou⟩ := yop (H := h5) (x := 0 + 13) (by omega)
  have bs2 := y19i m.to hou
  have R5 := R4.other (x := 0 + 13) (o := ⟨ou.gen + 1, .arr false false 1 [[.int .i64 m.to]]⟩) (by omega) (by have := R3.o12; omega) (by omega)
  have hl6 : (h5.set (0 + 13) ⟨ou.gen + 1, .arr false false 1 [[.int .i64 m.to]]⟩).length = H.length := by rw [zh, hl5]
  have ht2 := y2e (H := h5) (x := ⟨ou.gen + 1, .arr false false 1 [[.int .i64 m.to]]⟩) (a := 0 + 13) (by omega)
  have h6e : (h5.set (0 + 13) ⟨ou.gen + 1, .arr false false 1 [[.int .i64 m.to]]⟩)[6]? = h5[6]? := yn (by omega)
  obtain ⟨ok, hok⟩ := yop (H := h5.set (0 + 13) ⟨ou.gen + 1, .arr false false 1 [[.int .i64 m.to]]⟩) (x := 0 + 14) (by omega)
  have hn : fid = 0 + 14 ∨ ∃ w, (h5.set (0 + 13) ⟨ou.gen + 1, .arr false false 1 [[.int .i64 m.to]]⟩)[6]? = some (BV w) ∧ w ≠ .nils := by
   obtain ⟨w, b1, b2⟩ := R5.free
   rcases b2 with ⟨_, _, e⟩ | ⟨g, P, rfl, _⟩
   ·exact .inl e
   ·exact .inr ⟨_, b1, fun h => by cases h⟩
  obtain ⟨fv, v3, H8, c1, c2, c3, R7, c5, c6, _⟩ := R5.push (fb := 0) (j := 14) m.to ht2 hok hn d7 (by show s.F.length ≤ _; rw [hF]; simp)
  rw [h6e] at c1
  simp only [ybf c1, y9, fa0, y176 h105, bs2, ye, c2, c3]
  have es : (DS.mk (p5M n m.to s).1 (p5M n m.to s).2 (s.O ++ [⟨n, m.to⟩]) (s.F ++ [m.to])) = yn4 n s m.to := rfl
  obtain ⟨Hd, od, g1, g2, g3, g4⟩ := ymr (s := yn4 n s m.to) R7 (by rw [zh, c5]; omega) hO (by show (s.F ++ [m.to]).length ≤ _; rw [hF]; simp) hs
  rw [g1]
  simp only [ye]
  obtain ⟨q1, q2⟩ := y1ne n m.to s.A (s.A, s.R) hA hR
  obtain ⟨q3, q4⟩ := yc5 hs q1 q2
  exact ⟨Hd, od, rfl, g2, g3, q3, q4, ynr hs⟩
end Go.Vm
namespace Go.Vm
open Cel
theorem y1v9 {o : Option (List Mv)} (hL : (lst o).length ≤ 1000000) (n : Int) (k : Nat) {fid : Nat} : ∀ (d i : Nat) (s s' : DS) (H : Heap) (oid : Nat), i + d = (lst o).length → DRep H s oid fid → oid < H.length → anew s.A → anew s.R → s.F = [] →
  yrh n k ((lst o).drop i) s = some s' → s'.O.length ≤ 1000000 →
  ∃ H' oid', ypg (.int .i64 n) V6 V7 V14 V15 (.fn 247 [V15, V6, V14, V7]) (slA o) (.int .i64 (lst o).length) (.int .i64 (i : Int)) H = y1am V14 H' ∧ DRep H' s' oid' fid := by
 intro d
 induction d with
 | zero =>
  intro i s s' H oid hi R ho hA hR hF h hO
  have hc : ¬ ((i : Int) < ((lst o).length : Int)) := by omega
  rw [z14 (by omega)] at h
  injection h with h
  subst h
  rw [ypp]
  simp only [y13u, yg, hc, decide_false, y9, y14x, y1h]
  exact ⟨H, oid, rfl, R⟩
 | succ d ih =>
  intro i s s' H oid hi R ho hA hR hF h hO
  have hlt : i < (lst o).length := by omega
  have hc : ((i : Int) < ((lst o).length : Int)) := by omega
  have hw := y2x hlt (by omega)
  have hd : (lst o).drop i = (lst o)[i] :: (lst o).drop (i + 1) := zk hlt
  have hx := z9 hlt
  rw [hd] at h
  generalize (lst o)[i] = m at *
  have hs : ∃ s1, (if (aget m.to s.A).isSome = true then y6j k (yn4 n s m.to) else some s) = some s1 ∧ yrh n k ((lst o).drop (i + 1)) s1 = some s' := by
   rw [yrh] at h
   by_cases e : (aget m.to s.A).isSome = true
   ·rw [if_pos e] at h ⊢
    split at h
    ·rename_i s1 e1
     exact ⟨s1, e1, h⟩
    ·cases h
   ·rw [if_neg e] at h ⊢
    exact ⟨s, rfl, h⟩
  obtain ⟨s1, h1, h2⟩ := hs
  have hO1 := ynh h2
  obtain ⟨H', oid', e1, R', ho', hA', hR', hF'⟩ := y1wz hx R ho hA hR hF n (.int .i64 (lst o).length) h1 (by omega)
  rw [ypp]
  simp only [y13u, yg, hc, decide_true, y9, y14x, y1b]
  rw [e1]
  simp only [y1es, yz, hw, y9]
  have := ih (i + 1) s1 s' H' oid' (by omega) R' ho' hA' hR' hF' h2 hO
  push_cast at this
  exact this
end Go.Vm
namespace Go.Vm
open Cel
theorem ym4 {n : Int} : ∀ {l : List Mv} {A A' : IM}, ypc n l A = some A' → anew A → anew A'
 | [], A, A', h, hA => by
  injection h with h
  rw [← h]
  exact hA
 | m :: r, A, A', h, hA => by
  rw [ypc] at h
  split at h
  ·cases h
  ·exact ym4 h (ya2 _ _ _ hA)
theorem y1h0 : ∀ (π : IM) (s : IM × IM), anew s.1 → anew s.2 → anew (π.foldl p2s s).1 ∧ anew (π.foldl p2s s).2
 | [], s, h1, h2 => ⟨h1, h2⟩
 | p :: π, s, h1, h2 => by
  obtain ⟨a, b⟩ := y7y p h1 h2
  exact y1h0 π _ a b
theorem yiy (A R : IM) : ∀ (l : List Mv) (F : List Int), (yk1 A R l F).length ≤ F.length + l.length
 | [], F => zi _
 | m :: r, F => by
  rw [yk1]
  split
  ·have := yiy A R r (F ++ [m.to])
   simp only [zg, List.length_cons, List.length_nil] at this ⊢
   omega
  ·have := yiy A R r F
   simp only [List.length_cons]
   omega
theorem y2m1 (A R : IM) (x4 x7 x8 : AO) (g : Nat) (F : List Int) : DRep (hB A R x4 x7 x8 g F [D0, D0, D0, D0, D0]) ⟨A, R, [], F⟩ 12 (if F = [] then 14 else 9) := by
 refine ⟨rfl, rfl, rfl, rfl, ⟨.nils, rfl, .inl ⟨rfl, rfl⟩⟩, ⟨y1c Int 9 g F, rfl, ?_⟩, .inl rfl, ?_, zi 15⟩
 ·cases F with
  | nil => exact .inl ⟨rfl, rfl, rfl⟩
  | cons a F => exact .inr ⟨g, [], rfl, rfl⟩
 ·split
  ·exact .inr rfl
  ·exact .inl rfl
theorem y1e1 {o : Option (List Mv)} (hL : (lst o).length ≤ 1000) (n : Int) {L : List Mv} (h : yls (lst o) n = some L) (hb : L.length ≤ 1000000) :
  ∃ H s oid fid, (yd E).p 237 [slA o, .int .i64 n] = y1am V14 H ∧ DRep H s oid fid ∧ s.O = L := by
 rw [y2tu]
 have e0 : y1nc (slA o) (.int .i64 n) [D0, D0, D0, D0, D0, D0, D0, D0, D0, D0, D0, D0, D0, D0, D0] = yy9 (slA o) (.int .i64 n) V6 V7 (hA [] [] [D0, D0, D0, D0, D0, D0, D0, D0, D0, D0, D0]) := rfl
 rw [e0]
 unfold yy9
 simp only [y12, y9]
 obtain ⟨x4, e1⟩ := y1sb (o := o) (by omega) (slA o) n [D0, D0, D0, D0, D0, D0, D0, D0, D0, D0] (lst o).length 0 [] D0 (by omega)
 rw [zr] at e1
 unfold yls at h
 cases hf : ypc n (lst o) [] with
 | none => rw [hf] at h; cases h
 | some A =>
  rw [hf] at h e1
  simp only at h e1
  have nA := ym4 hf trivial
  rw [y1uq _ _ _ _ nA] at e1
  have e2 : ypr (slA o) (.int .i64 n) V6 V7 (hA (p2M A).1 (p2M A).2 (x4 :: [D0, D0, D0, D0, D0, D0, D0, D0, D0, D0])) = yvk (slA o) (.int .i64 n) V6 V7 V14 V15 (hB (p2M A).1 (p2M A).2 x4 D0 D0 0 [] [D0, D0, D0, D0, D0]) := rfl
  rw [e2] at e1
  unfold yvk at e1
  simp only [y12, y9] at e1
  obtain ⟨x7, x8, g, e3⟩ := y1hs (o := o) (by omega) (.int .i64 n) (p2M A).1 (p2M A).2 x4 [D0, D0, D0, D0, D0] (lst o).length 0 [] D0 D0 0 (by omega) (zi 0)
  rw [zr] at e3
  have e4 := e1.trans e3
  unfold yxn y1iq at e4
  simp only [y9] at e4
  cases hd : y6j ((lst o).length + 1) ⟨(p2M A).1, (p2M A).2, [], yk1 (p2M A).1 (p2M A).2 (lst o) []⟩ with
  | none => rw [hd] at h; cases h
  | some s1 =>
   rw [hd] at h
   obtain ⟨s2, h2, hO⟩ := z1g.1 h
   have hO1 := ynh h2
   have hfl := yiy (p2M A).1 (p2M A).2 (lst o) []
   rw [← hO] at hb
   obtain ⟨H', oid', g1, R', g3, g4⟩ := ymr (y2m1 (p2M A).1 (p2M A).2 x4 x7 x8 g (yk1 (p2M A).1 (p2M A).2 (lst o) [])) (show 12 < 15 by decide) (by omega) (by simp only [List.length_nil] at hfl; show (yk1 (p2M A).1 (p2M A).2 (lst o) []).length ≤ _; omega) hd
   rw [g1] at e4
   simp only [ye] at e4
   unfold y1qj at e4
   simp only [y12, y9] at e4
   obtain ⟨n1, n2⟩ := y1h0 A (A, []) nA trivial
   obtain ⟨n3, n4⟩ := yc5 hd n1 n2
   obtain ⟨Hf, of, k1, k2⟩ := y1v9 (o := o) (by omega) n ((lst o).length + 1) (lst o).length 0 s1 s2 H' oid' (by omega) R' g3 n3 n4 (ynr hd) (by rw [zr]; exact h2) hb
   exact ⟨Hf, s2, of, _, e4.trans k1, k2, hO⟩
end Go.Vm
namespace Go.Vm
open Cel
theorem yoe (h : Heap) (k : Nat) (cs : List AV) : fz h (k + 1) (.tup cs) = match yv (fz h k) cs with
 | some r => some ⟨.tup r.v, r.fresh, r.ids⟩
 | none => none := rfl
theorem y1a9 {α : Type} [Cel α] {H : Heap} {j g : Nat} {d : AO} {o : Option (List α)} (h : H[j]? = some (ownO g d o)) (hs : (lst o).all scal = true) (k : Int) : ∃ r, yo H (.tup [ownV j g o, .int .i64 k]) = some r ∧ r.fresh = true ∧ y72 r (.tup [slA o, .int .i64 k]) := by
 have h1 := y0k (k := 10) h []
 rw [ycr, y30]
 cases o with
 | none => exact ⟨_, rfl, rfl, _, rfl, rfl⟩
 | some L =>
  rw [h1]
  refine ⟨_, rfl, by rw [hs]; rfl, ?_⟩
  have h2 := yd8 (some L) [] [] 9
  simp only [List.nil_append, List.append_nil, List.length_nil] at h2
  have hi : fz (y2n (exOs (some L))) 11 (.int .i64 k) = some ⟨.int .i64 k, true, []⟩ := rfl
  refine ⟨⟨.tup [slA (some L), .int .i64 k], (lst (some L)).all scal && true, ownI 0 (some L) ++ []⟩, (yoe _ 11 _).trans ?_, rfl⟩
  simp only [List.nil_append, List.length_nil, ym, h2, hi, y1k]
  rfl
theorem y2cn {o : Option (List Mv)} (hL : (lst o).length ≤ 1000) (n : Int) {L : List Mv} (h : yls (lst o) n = some L) (hb : L.length ≤ 1000000) :
  ∃ r, (yd E).p 237 [slA o, .int .i64 n] = some r ∧ r.fresh = true ∧ y72 r (.tup [slA (nz L), .int .i64 0]) := by
 obtain ⟨H, s, oid, fid, e1, R, hO⟩ := y1e1 hL n h hb
 obtain ⟨v, a1, a2⟩ := R.out
 rw [e1]
 unfold y1am
 rw [ybf a1]
 simp only [y9]
 rw [hO] at a2
 rcases a2 with ⟨rfl, rfl⟩ | ⟨g, rfl, hob, hne⟩
 ·exact ⟨_, rfl, rfl, _, rfl, rfl⟩
 ·cases L with
  | nil =>
   exact (hne rfl).elim
  | cons m L => exact y1a9 (α := Mv) (o := some (m :: L)) (g := g) (d := D0) hob (by rw [z19]; exact fun m _ => rfl) 0
end Go.Vm
namespace Go.Vm
def cnt (x : Int) : IM → Nat
 | [] => 0
 | (_, b) :: r => (if b = x then 1 else 0) + cnt x r
structure DInv (s : DS) : Prop where
 nA : anew s.A
 nR : anew s.R
 rd : ∀ x, (aget x s.R).getD 0 = (cnt x s.A : Int)
 small : s.A.length ≤ 1000
 fnd : s.F.Nodup
 fk : ∀ x ∈ s.F, (aget x s.A).isSome = true ∧ cnt x s.A = 0
end Go.Vm
