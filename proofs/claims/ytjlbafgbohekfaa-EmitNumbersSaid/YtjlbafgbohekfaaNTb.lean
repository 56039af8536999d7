/- Code words: ways, arguments, instructions on the machine. Code words: an instruction is put. Sets of registers, 64 a word. What is told of types' descriptors. Names, the type at a text's beginning, types. What the stack's instructions over numbers take and give. What an instruction wants of its registers, in plain words. When an instruction, a function is well formed, in plain words. Places that can be reached: a search with a stack, a search in rounds, a search that stops where something is found. Plain Lean; nothing here speaks of a program. Which places follow a place, in plain words. What a well formed function is like. Whether each register is written ahead of all that reads it, in plain words: by ways, and by what is set at each place. In a well formed function the registers that are read and written are registers, and the places that follow are places. Which registers are live, in plain words: by ways, and by what the sweeps over the table leave. -/
import Derived.Test.YtjlbafgbohekfaaNX
import Derived.Test.YtjlbafgbohekfaaNTa
set_option linter.unusedSimpArgs false
set_option linter.unusedVariables false
set_option linter.unusedSectionVars false
namespace Go.Vm
open Cel
theorem y2pi {H : Heap} {K : List (Nat × AO)} {c : BC} {s : BS} (B : Bd H K c s) (hs : s.size + 1 ≤ 1000000) (t : Int) (fb : Nat) :
  ∃ H', yc E (yd E) fb none false 245 [P4, .int .i64 t] H = some (.tup [], H') ∧ Bd H' K c (wayM s t) := by
 obtain ⟨P, G, R⟩ := B
 have l4 := y3m R.box
 have hn : H.length ≠ 4 := by omega
 have R1 := R.dead2
 have R2 := WRep.put (A := []) R1 ⟨1, .arr false false 1 [[.int .i64 s.W.length]]⟩
 obtain ⟨v, H', P', G', e1, e2, R3⟩ := WRep.push (fb := H.length) (j := 1) (b := 8) R2.swap 3 (by omega) (y54 (WRep.at (A := []) R2)) (by simp only [xs, zy]; unfold BS.size at hs; omega) (by omega)
 rw [xs_Y] at R3 e2
 obtain ⟨H2, e3, B3⟩ := ybq (c := c) (s := { s with Y := s.Y ++ [(s.W.length : Int)] }) ⟨P', G', R3.drop⟩ (by unfold BS.size at hs ⊢; simp only [zg, List.length_singleton]; omega) (wU t) H.length
 refine ⟨H2, ?_, B3⟩
 have eb := bs_c (fb := H.length) (j := 0) (z := .int .i64 0) (v := .int .i64 s.W.length) (WRep.at (A := []) R1) rfl rfl rfl
 have el := R1.ld 10 rfl
 have el0 := R1.ld 0 rfl
 rw [yh4 rfl, y2qw, if_pos rfl]
 simp only [Nat.add_zero, show D0.gen + 1 = 1 from rfl] at eb
 simp only [offB] at e2
 have en : (((xs s 0).length : Nat) : Int) = s.W.length := by simp [xs]
 have hp : ∀ F0 F1 F2 F3 F5 F6 F7 F8 F9 F10 F12 F13 F14 F15 : List Nat × List Nat, y1o [F0, F1, F2, F3, ([4], []), F5, F6, F7, F8, F9, F10, ([], [H.length]), F12, F13, F14, F15] [(4, 11)] = true := by
  intros
  simp [y1o, y3a, meets, hn, hn.symm]
 have hi : ids1 (.lp 4 1 0 10) = [4] := rfl
 simp only [y2b5, y1l, y9, yk, Nat.add_zero, zd, el, el0, y6d, en, eb, ye, e1, e2, hi, hp, y2ub, y2g]
 rw [show IntKind.wrap .u32 t = wU t from rfl, e3, ye]
theorem fz_i (n : Int) (H : Heap) : yv (fz H y1m) [.int .i64 n] = some ⟨[.int .i64 n], true, []⟩ := rfl
theorem y2f6 (r : Int) (fb : Nat) (H : Heap) : yc E (yd E) fb none true 240 [.int .i64 r] H = some (.int .u32 (regU r), H) := y18 rfl (fz_i r H) rfl (y2ln r) ⟨_, rfl, rfl⟩
theorem yr3 {K : List (Nat × AO)} {c : BC} (o : Option (List Int)) (hl : (lst o).length ≤ 1000000) (fb : Nat) : ∀ (d i : Nat) (s : BS) (H : Heap), i + d = (lst o).length → s.size + d ≤ 1000000 → Bd H K c s →
  ∃ H', y1au fb P4 (slA o) (.int .i64 (lst o).length) (.int .i64 i) H = some (.tup [], H') ∧ Bd H' K c (yhp ((lst o).drop i) s)
 | 0, i, s, H, hd, hs, B => by
  have h : ¬ (i : Int) < ((lst o).length : Int) := by omega
  refine ⟨H, ?_, by rw [z14 (by omega)]; exact B⟩
  rw [y130]
  simp only [q8_5, yg, y9, h, decide_false, q8_4, y1h]
 | d + 1, i, s, H, hd, hs, B => by
  have h : (i : Int) < ((lst o).length : Int) := by omega
  have hi : i < (lst o).length := by omega
  have g := z9 hi
  generalize (lst o)[i] = r at g
  obtain ⟨H1, e1, B1⟩ := ybq B (by omega) (regU r) fb
  obtain ⟨H2, e2, B2⟩ := yr3 o hl fb d (i + 1) _ _ (by omega) (by simp only [adW, BS.size, zg, List.length_singleton] at hs ⊢; omega) B1
  have ed : (lst o).drop i = r :: (lst o).drop (i + 1) := by
   rw [zk hi]
   congr 1
   have := z9 hi
   rw [g] at this
   injection this with this
   exact this.symm
  refine ⟨H2, ?_, by rw [ed, yhp]; exact B2⟩
  have hw : IntKind.wrap .i64 ((i : Int) + 1) = ((i + 1 : Nat) : Int) := by rw [y1a] <;> omega
  rw [y130]
  simp only [q8_5, yg, y9, h, decide_true, q8_4, y1b, q8_3, y3j g, y2q, y2s, List.head?_cons, y2f6, ye, e1, q8_2, yz, hw]
  exact e2
theorem ybg {H : Heap} {id g k : Nat} {x : Ins} {v : AV} (h : H[id]? = some (AX g x)) (hv : ((enc x).drop k).head? = some v) : evLd false 1 (.lp id g 0 k) H = some v := ld_g (α := Ins) h hv
theorem yfn {H : Heap} {id g : Nat} {x : Ins} (h : H[id]? = some (AX g x)) : evLd true 9 (.lp id g 0 0) H = some (.agg (enc x)) := ysm (α := Ins) h
theorem y252 {H : Heap} {fb j : Nat} {o : AO} (x : Ins) (h : H[fb + j]? = some o) : newC fb (some j) (cellsOf (.agg (enc x))) H = some (.lp (fb + j) (o.gen + 1) 0 0, H.set (fb + j) (AX (o.gen + 1) x)) := yql (α := Ins) x h
theorem y257 {H : Heap} {K : List (Nat × AO)} {c : BC} {s : BS} (B : Bd H K c s) (x : Ins) (hs : s.size + 1 + (lst x.args).length ≤ 1000000) (fb : Nat) :
  ∃ H', yc E (yd E) fb none false 246 [P4, .agg (enc x)] H = some (.tup [], H') ∧ Bd H' K c (yn5 s x) := by
 have B1 := B.grow D0
 have B2 := Bd.put (A := []) B1 (AX 1 x)
 obtain ⟨H1, e1, B3⟩ := ybq B2 (by omega) (wU (lst x.args).length) H.length
 obtain ⟨H2, e2, B4⟩ := yr3 x.args (by omega) H.length _ 0 _ _ (by rw [zd]) (by simp only [adW, BS.size, zg, List.length_singleton] at hs ⊢; omega) B3
 refine ⟨H2, ?_, B4.drop⟩
 have en := y252 (fb := H.length) (j := 0) x (Bd.at (A := []) B1)
 have l1 := ybg (k := 8) (v := slA x.args) (Bd.at (A := []) B2) rfl
 have l2 := ybg (k := 8) (v := slA x.args) (Bd.at (A := []) B3) rfl
 simp only [Nat.add_zero, show D0.gen + 1 = 1 from rfl] at en
 rw [yh4 rfl, x_q8, if_pos rfl]
 rw [q8_9, show yj 1 = [D0] from rfl, en, ye]
 simp only [q8_8, yk, zd, y9, l1, y12, y2g]
 rw [show IntKind.wrap .u32 ((lst x.args).length : Int) = wU (lst x.args).length from rfl, e1, ye]
 simp only [q8_7, yk, zd, y9, l2, y12]
 exact e2
theorem y5u (s : BS) (n : Int) : (adW s n).size = s.size + 1 := by simp only [adW, BS.size, zg, List.length_singleton]; omega
theorem ygr (s : BS) (n : Int) : (adN s n).size ≤ s.size + 1 := by
 unfold adN
 split
 ·omega
 ·simp only [BS.size, zg, List.length_singleton]; omega
theorem ygf (s : BS) (t : Tx) : (adT s t).size ≤ s.size + 1 := by
 unfold adT
 split
 ·omega
 ·simp only [BS.size, zg, List.length_singleton]; omega
theorem yn6 (s : BS) (n : Int) : (wayM s n).size = s.size + 2 := by simp only [wayM, adW, BS.size, zg, List.length_singleton]; omega
section
variable {H : Heap} {K : List (Nat × AO)} {c : BC} {s : BS} {x : Ins} {b : Nat} {fb : Nat} (B : Bd H ((b, AX 1 x) :: K) c s) (hs : s.size + 29 ≤ 1000000) (ha : calls x.op = true → (lst x.args).length ≤ 21)
abbrev PX (b : Nat) : AV := .lp b 1 0 0
include B hs
theorem y2bf (h : k1 x.op = true) : ∃ H', y4p fb P4 (PX b) (.int .i64 x.op) H = some (.tup [], H') ∧ Bd H' ((b, AX 1 x) :: K) c (y44 s x) := by
 obtain ⟨H1, e1, B1⟩ := y2if B (by omega) x.n fb
 obtain ⟨H2, e2, B2⟩ := ybq B1 (by have := ygr s x.n; omega) (wU (ixOf x.n s.N)) fb
 have l5 := ybg (k := 5) (v := .int .i64 x.n) B.hd rfl
 refine ⟨H2, ?_, by rw [y44, if_pos h]; exact B2⟩
 simp only [k1, z1k, decide_eq_true_eq] at h
 rcases h with ((((((h | h) | h) | h) | h) | h) | h) | h
 all_goals
  simp only [y4p, h, yy, y9, decide_true, decide_false, y1b, y1h, y5c, yk, zd, l5, e1, ye, e2, Int.reduceEq]
theorem y1vk (h : k2 x.op = true) : ∃ H', y4p fb P4 (PX b) (.int .i64 x.op) H = some (.tup [], H') ∧ Bd H' ((b, AX 1 x) :: K) c (y44 s x) := by
 obtain ⟨H1, e1, B1⟩ := y26p B (by omega) x.s fb
 obtain ⟨H2, e2, B2⟩ := ybq B1 (by have := ygf s ⟨x.s⟩; omega) (wU (ixOf ⟨x.s⟩ s.T)) fb
 have l7 := ybg (k := 7) (v := .str x.s) B.hd rfl
 have h' : k1 x.op = false := by
  simp only [k2, z1k, decide_eq_true_eq] at h
  rcases h with ((h | h) | h) | h <;> rw [h] <;> rfl
 refine ⟨H2, ?_, by rw [y44, if_neg (by rw [h']; exact zv), if_pos h]; exact B2⟩
 simp only [k2, z1k, decide_eq_true_eq] at h
 rcases h with ((h | h) | h) | h
 all_goals
  simp only [y4p, h, yy, y9, Int.reduceEq, decide_true, decide_false, y1b, y1h, y5c, ye2, y8i, yk, zd, l7, e1, ye, e2]
theorem y1bq (h : x.op = 14) : ∃ H', y4p fb P4 (PX b) (.int .i64 x.op) H = some (.tup [], H') ∧ Bd H' ((b, AX 1 x) :: K) c (y44 s x) := by
 obtain ⟨H1, e1, B1⟩ := ybq B (by omega) (regU x.c) fb
 have l4 := ybg (k := 4) (v := .int .i64 x.c) B.hd rfl
 have er : y44 s x = adW s (regU x.c) := by simp [y44, k1, k2, h]
 refine ⟨H1, ?_, by rw [er]; exact B1⟩
 simp only [y4p, h, yy, y9, Int.reduceEq, decide_true, decide_false, y1b, y1h, y5c, ye2, y8i, yfg, yow, yk, zd, l4, y2f6, e1, ye]
theorem y23y (h : x.op = 27) : ∃ H', y4p fb P4 (PX b) (.int .i64 x.op) H = some (.tup [], H') ∧ Bd H' ((b, AX 1 x) :: K) c (y44 s x) := by
 obtain ⟨H1, e1, B1⟩ := y2pi B (by omega) x.t fb
 have l6 := ybg (k := 6) (v := .int .i64 x.t) B.hd rfl
 have er : y44 s x = wayM s x.t := by simp [y44, k1, k2, h]
 refine ⟨H1, ?_, by rw [er]; exact B1⟩
 simp only [y4p, h, yy, y9, Int.reduceEq, decide_true, decide_false, y1b, y1h, y5c, ye2, y8i, yfg, yow, yth, ytm, yk, zd, l6, e1, ye]
theorem y2ng (h : x.op = 28 ∨ x.op = 29) : ∃ H', y4p fb P4 (PX b) (.int .i64 x.op) H = some (.tup [], H') ∧ Bd H' ((b, AX 1 x) :: K) c (y44 s x) := by
 obtain ⟨H1, e1, B1⟩ := y2pi B (by omega) x.t fb
 obtain ⟨H2, e2, B2⟩ := ybq B1 (by rw [yn6]; omega) (wU x.n) fb
 have l6 := ybg (k := 6) (v := .int .i64 x.t) B.hd rfl
 have l5 := ybg (k := 5) (v := .int .i64 x.n) B1.hd rfl
 have hw : IntKind.wrap .u32 x.n = wU x.n := rfl
 have er : y44 s x = adW (wayM s x.t) (wU x.n) := by rcases h with h | h <;> simp [y44, k1, k2, h]
 refine ⟨H2, ?_, by rw [er]; exact B2⟩
 rcases h with h | h
 all_goals
  simp only [y4p, h, yy, y9, Int.reduceEq, decide_true, decide_false, y1b, y1h, y5c, ye2, y8i, yfg, yow, yth, ytm, y173, yuu, yk, zd, l6, l5, y2g, hw, e1, e2, ye]
include ha in
theorem y1ed (h : x.op = 25) : ∃ H', y4p fb P4 (PX b) (.int .i64 x.op) H = some (.tup [], H') ∧ Bd H' ((b, AX 1 x) :: K) c (y44 s x) := by
 obtain ⟨H1, e1, B1⟩ := y26p B (by omega) x.s fb
 obtain ⟨H2, e2, B2⟩ := ybq B1 (by have := ygf s ⟨x.s⟩; omega) (wU (ixOf ⟨x.s⟩ s.T)) fb
 obtain ⟨H3, e3, B3⟩ := y257 B2 x (by rw [y5u]; have := ygf s ⟨x.s⟩; have := ha (by rw [h]; rfl); omega) fb
 have l7 := ybg (k := 7) (v := .str x.s) B.hd rfl
 have la := yfn B2.hd
 have er : y44 s x = yn5 (yea s x.s) x := by simp [y44, k1, k2, h]
 refine ⟨H3, ?_, by rw [er]; exact B3⟩
 simp only [y4p, h, yy, y9, Int.reduceEq, decide_true, decide_false, y1b, y1h, y5c, ye2, y8i, yfg, yow, yth, ytm, y173, yuu, y184, y1fg, yk, zd, l7, la, e1, e2, e3, ye]
include ha in
theorem y1vn (h : x.op = 23 ∨ x.op = 24 ∨ x.op = 26) : ∃ H', y4p fb P4 (PX b) (.int .i64 x.op) H = some (.tup [], H') ∧ Bd H' ((b, AX 1 x) :: K) c (y44 s x) := by
 obtain ⟨H1, e1, B1⟩ := y2if B (by omega) x.n fb
 obtain ⟨H2, e2, B2⟩ := ybq B1 (by have := ygr s x.n; omega) (wU (ixOf x.n s.N)) fb
 obtain ⟨H3, e3, B3⟩ := y257 B2 x (by rw [y5u]; have := ygr s x.n; have := ha (by rcases h with h | h | h <;> rw [h] <;> rfl); omega) fb
 have l5 := ybg (k := 5) (v := .int .i64 x.n) B.hd rfl
 have la := yfn B2.hd
 have er : y44 s x = yn5 (numW s x.n) x := by rcases h with h | h | h <;> simp [y44, k1, k2, h]
 refine ⟨H3, ?_, by rw [er]; exact B3⟩
 rcases h with h | h | h
 all_goals
  simp only [y4p, h, yy, y9, Int.reduceEq, decide_true, decide_false, y1b, y1h, y5c, ye2, y8i, yfg, yow, yth, ytm, y173, yuu, y184, y1fg, y1v3, y166, yk, zd, l5, la, e1, e2, e3, ye]
omit hs in
theorem y2l9 (h1 : k1 x.op = false) (h2 : k2 x.op = false) (h3 : ¬ x.op = 14) (h4 : ¬ x.op = 27) (h5 : ¬ (x.op = 28 ∨ x.op = 29)) (h6 : ¬ x.op = 25) (h7 : ¬ (x.op = 23 ∨ x.op = 24 ∨ x.op = 26)) :
  ∃ H', y4p fb P4 (PX b) (.int .i64 x.op) H = some (.tup [], H') ∧ Bd H' ((b, AX 1 x) :: K) c (y44 s x) := by
 have er : y44 s x = s := by simp [y44, h1, h2, h3, h4, h5, h6, h7]
 refine ⟨H, ?_, by rw [er]; exact B⟩
 simp only [k1, k2, z2q, decide_eq_false_iff_not] at h1 h2
 simp only [not_or] at h5 h7
 simp only [y4p, h1, h2, h3, h4, h5, h6, h7, yy, y9, decide_false, y1h, y5c, ye2, y8i, yfg, yow, yth, ytm, y173, yuu, y184, y1fg, y1v3, y166]
include ha in
theorem y1vu : ∃ H', y4p fb P4 (PX b) (.int .i64 x.op) H = some (.tup [], H') ∧ Bd H' ((b, AX 1 x) :: K) c (y44 s x) := by
 by_cases h1 : k1 x.op = true
 ·exact y2bf B hs h1
 by_cases h2 : k2 x.op = true
 ·exact y1vk B hs h2
 by_cases h3 : x.op = 14
 ·exact y1bq B hs h3
 by_cases h4 : x.op = 27
 ·exact y23y B hs h4
 by_cases h5 : x.op = 28 ∨ x.op = 29
 ·exact y2ng B hs h5
 by_cases h6 : x.op = 25
 ·exact y1ed B hs ha h6
 by_cases h7 : x.op = 23 ∨ x.op = 24 ∨ x.op = 26
 ·exact y1vn B hs ha h7
 exact y2l9 B (by simpa using h1) (by simpa using h2) h3 h4 h5 h6 h7
end
end Go.Vm
namespace Go.Vm
open Cel
theorem y160 (s : BS) (x : Ins) (hc : calls x.op = true → (lst x.args).length ≤ 21) : (y44 s x).size ≤ s.size + 24 := by
 have ha : ∀ (l : List Int) (s : BS), (yhp l s).size = s.size + l.length := fun l s => by rw [y1px]; simp only [BS.size, zg, zy]; omega
 have hm : ∀ s : BS, (yn5 s x).size = s.size + 1 + (lst x.args).length := fun s => by rw [yn5, ha, y5u]
 have hn : (numW s x.n).size ≤ s.size + 2 := by rw [numW, y5u]; have := ygr s x.n; omega
 have ht : (yea s x.s).size ≤ s.size + 2 := by rw [yea, y5u]; have := ygf s ⟨x.s⟩; omega
 unfold y44
 split
 ·omega
 split
 ·omega
 split
 ·rw [y5u]; omega
 split
 ·rw [yn6]; omega
 split
 ·rw [y5u, yn6]; omega
 split
 ·rename_i h
  have := hc (by rw [h]; rfl)
  rw [hm]; omega
 split
 ·rename_i h
  have := hc (by rcases h with h | h | h <;> rw [h] <;> rfl)
  rw [hm]; omega
 ·omega
theorem ycp (s : BS) (x : Ins) (hc : calls x.op = true → (lst x.args).length ≤ 21) : (putM s x).size ≤ s.size + 25 := by
 have := y160 (adW s (y2r x)) x hc
 rw [y5u] at this
 exact this
theorem y1vj (x : Ins) (i : Int) (H : Heap) : yv (fz H y1m) [.agg (enc x), .int .i64 i] = some ⟨[.agg (enc x), .int .i64 i], scal x && (true && true), []⟩ := by
 rw [ym, y64, fz_i]; rfl
set_option maxHeartbeats 1000000 in
theorem y2jj {H : Heap} {K : List (Nat × AO)} {c : BC} {s : BS} (B : Bd H K c s) (x : Ins) (hs : s.size + 30 ≤ 1000000) (hx : (lst x.args).length ≤ 17592186043904) (ha : calls x.op = true → (lst x.args).length ≤ 21) (fb : Nat) :
  ∃ H', yc E (yd E) fb none false 238 [P4, .agg (enc x)] H = some (.tup [], H') ∧ Bd H' K c (putM s x) := by
 have B1 := B.grow D0
 have B2 := Bd.put (A := []) B1 (AX 1 x)
 obtain ⟨H1, e1, B3⟩ := ybq B2 (by omega) (y2r x) H.length
 obtain ⟨H2, e2, B4⟩ := y1vu (fb := H.length) (x := x) B3 (by rw [y5u]; omega) ha
 refine ⟨H2, ?_, B4.drop⟩
 have en := y252 (fb := H.length) (j := 0) x (Bd.at (A := []) B1)
 have l0 := ybg (k := 0) (v := .int .i64 x.op) (Bd.at (A := []) B2) rfl
 have la := yfn (Bd.at (A := []) B2)
 have l0' := ybg (k := 0) (v := .int .i64 x.op) B3.hd rfl
 simp only [Nat.add_zero, show D0.gen + 1 = 1 from rfl] at en
 have d1 : ∀ H, yc E (yd E) H.length none true 239 [.agg (enc x)] H = some (.int .i64 (defr x), H) := fun H => y18 rfl (yt9 x H) rfl (y2c3 x) ⟨_, rfl, rfl⟩
 have s24 : ∀ a, yb .shl (.int .u32 a) (.int .u64 24) = some (.int .u32 (shlU a 24)) := fun a => y2a0 a 24 (by omega)
 have s16 : ∀ a, yb .shl (.int .u32 a) (.int .u64 16) = some (.int .u32 (shlU a 16)) := fun a => y2a0 a 16 (by omega)
 have s8 : ∀ a, yb .shl (.int .u32 a) (.int .u64 8) = some (.int .u32 (shlU a 8)) := fun a => y2a0 a 8 (by omega)
 rw [yh4 rfl, y2tt, if_pos rfl]
 rw [y1pn, show yj 1 = [D0] from rfl, en, ye]
 generalize hb : H.length = b at *
 have cd : ∀ H, yc E (yd E) b none true 239 [.agg (enc x)] H = some (.int .i64 (defr x), H) := fun H => y18 rfl (yt9 x H) rfl (y2c3 x) ⟨_, rfl, rfl⟩
 have fd : ∀ H, y90 E (yd E) b none true 239 [.agg (enc x)] H = some ([], []) := fun H => yge rfl (yt9 x H) rfl (y2c3 x)
 have fr : ∀ r H, y90 E (yd E) b none true 240 [.int .i64 r] H = some ([], []) := fun r H => yge rfl (fz_i r H) rfl (y2ln r)
 have c0 : ∀ H, yc E (yd E) b none true 241 [.agg (enc x), .int .i64 0] H = some (.int .i64 (on1M x 0), H) := fun H => y18 rfl (y1vj x 0 H) rfl (y12a x (by omega) 0 (by omega)) ⟨_, rfl, rfl⟩
 have c1 : ∀ H, yc E (yd E) b none true 241 [.agg (enc x), .int .i64 1] H = some (.int .i64 (on1M x 1), H) := fun H => y18 rfl (y1vj x 1 H) rfl (y12a x (by omega) 1 (by omega)) ⟨_, rfl, rfl⟩
 have f0 : ∀ H, y90 E (yd E) b none true 241 [.agg (enc x), .int .i64 0] H = some ([], []) := fun H => yge rfl (y1vj x 0 H) rfl (y12a x (by omega) 0 (by omega))
 have f1 : ∀ H, y90 E (yd E) b none true 241 [.agg (enc x), .int .i64 1] H = some ([], []) := fun H => yge rfl (y1vj x 1 H) rfl (y12a x (by omega) 1 (by omega))
 have ew : ∀ w, w = y2r x → yc E (yd E) b none false 242 [P4, .int .u32 w] ((H ++ [D0]).set b (AX 1 x)) = some (.tup [], H1) := fun w e => by rw [e]; exact e1
 rw [y1mj]
 simp only [yk, Nat.add_zero, y9, l0, y2g, s24, la, fd, y21b, cd, ye, fr, y2f6, s16, or_u, f0, c0, s8, f1, c1]
 rw [show orU (orU (orU (shlU (IntKind.u32.wrap x.op) 24) (shlU (regU (defr x)) 16)) (shlU (regU (on1M x 0)) 8)) (regU (on1M x 1)) = y2r x from rfl, ew _ rfl, ye, y1gj (by rfl)]
 simp only [y19s, yk, Nat.add_zero, y9, l0']
 exact e2
end Go.Vm
namespace Go.Vm
abbrev Ws := List (BitVec 64)
def bit (s : Ws) (r : Nat) : Bool := (s.getD (r / 64) 0).getLsbD (r % 64)
def addW (s : Ws) (r : Nat) : Ws := s.set (r / 64) (s.getD (r / 64) 0 ||| BitVec.twoPow 64 (r % 64))
def y175 (s : Ws) (r : Nat) : Ws := s.set (r / 64) (s.getD (r / 64) 0 &&& ~~~ BitVec.twoPow 64 (r % 64))
def y49 (s t : Ws) : Ws := List.zipWith (· ||| ·) s t
def yei (s t : Ws) : Bool := (List.zipWith (fun a b => decide (b &&& ~~~ a ≠ 0)) s t).any id
def y2m (n : Nat) : Ws := List.replicate n 0
theorem yn0 (s : Ws) (r : Nat) : (addW s r).length = s.length := by simp [addW]
theorem y1op (s : Ws) (r : Nat) : (y175 s r).length = s.length := by simp [y175]
theorem y4q {s t : Ws} (h : s.length = t.length) : (y49 s t).length = s.length := by simp [y49, h]
theorem y1tz (n r : Nat) : bit (y2m n) r = false := by
 simp only [bit, y2m, ze, z29]
 split <;> simp
theorem y2fo {s : Ws} {r : Nat} (h : s.length ≤ r / 64) : bit s r = false := by
 simp [bit, ze, List.getElem?_eq_none h]
theorem y11h {r q : Nat} (h1 : r / 64 = q / 64) (h2 : r % 64 = q % 64) : r = q := by omega
theorem y2eu {s : Ws} {r : Nat} (h : r / 64 < s.length) (q : Nat) : bit (addW s r) q = (bit s q || decide (q = r)) := by
 have hq : q % 64 < 64 := z3n _ (by omega)
 unfold bit addW
 rw [ze, zu]
 by_cases e : r / 64 = q / 64
 ·rw [if_pos e, if_pos h, ← e]
  simp only [Option.getD_some, BitVec.getLsbD_or, BitVec.getLsbD_twoPow]
  by_cases e2 : q = r
  ·subst e2; simp [hq]
  ·have : ¬ r % 64 = q % 64 := fun h' => e2 (y11h e h').symm
   simp [e2, this]
 ·rw [if_neg e]
  have : ¬ q = r := fun h' => e (by rw [h'])
  simp [this, ze]
theorem y22k {s : Ws} {r : Nat} (h : r / 64 < s.length) (q : Nat) : bit (y175 s r) q = (bit s q && decide (q ≠ r)) := by
 have hq : q % 64 < 64 := z3n _ (by omega)
 unfold bit y175
 rw [ze, zu]
 by_cases e : r / 64 = q / 64
 ·rw [if_pos e, if_pos h, ← e]
  simp only [Option.getD_some, z3o, z3p, BitVec.getLsbD_twoPow]
  by_cases e2 : q = r
  ·subst e2; simp [hq]
  ·have : ¬ r % 64 = q % 64 := fun h' => e2 (y11h e h').symm
   simp [e2, this, hq]
 ·rw [if_neg e]
  have : ¬ q = r := fun h' => e (by rw [h'])
  simp [this, ze]
theorem yba {s t : Ws} (h : s.length = t.length) (q : Nat) : bit (y49 s t) q = (bit s q || bit t q) := by
 unfold bit y49
 simp only [ze, z2n]
 by_cases hq : q / 64 < s.length
 ·rw [z9 hq, z9 (by omega)]
  simp
 ·rw [z12 (by omega), z12 (by omega)]
  simp
theorem y1kn {s t : Ws} (h : s.length = t.length) : yei s t = true ↔ ∃ q, bit t q = true ∧ bit s q = false := by
 unfold yei
 rw [z3h]
 constructor
 ·rintro ⟨b, hb, h1⟩
  obtain ⟨k, hk⟩ := zz hb
  rw [z2n] at hk
  cases hs : s[k]? with
  | none => rw [hs] at hk; simp at hk
  | some a =>
   cases ht : t[k]? with
   | none => rw [hs, ht] at hk; simp at hk
   | some c =>
    rw [hs, ht] at hk
    simp only [Option.some.injEq] at hk
    rw [← hk] at h1
    simp only [id, decide_eq_true_eq] at h1
    have : ∃ j, j < 64 ∧ (c &&& ~~~ a).getLsbD j = true := by
     refine Classical.byContradiction fun hn => h1 ?_
     refine BitVec.eq_of_getLsbD_eq fun j hj => ?_
     rw [show (0 : BitVec 64).getLsbD j = false by simp]
     rw [← z3g]
     exact fun hb => hn ⟨j, hj, hb⟩
    obtain ⟨j, hj, hb⟩ := this
    rw [z3o, z3p, zc] at hb
    have e1 : (64 * k + j) / 64 = k := by omega
    have e2 : (64 * k + j) % 64 = j := by omega
    refine ⟨64 * k + j, ?_, ?_⟩
    ·simp only [bit, e1, e2, ze, ht, Option.getD_some]; exact hb.1
    ·simp only [bit, e1, e2, ze, hs, Option.getD_some]
     have := hb.2
     simpa [hj] using this
 ·rintro ⟨q, h1, h2⟩
  have hq : q / 64 < t.length := by
   refine Classical.byContradiction fun hn => ?_
   rw [y2fo (by omega)] at h1; cases h1
  have hqs : q / 64 < s.length := by omega
  refine ⟨true, zs (i := q / 64) ?_, rfl⟩
  rw [z2n, z9 hq, z9 hqs]
  simp only [bit, ze, z9 hq, z9 hqs, Option.getD_some] at h1 h2
  have : t[q / 64] &&& ~~~ s[q / 64] ≠ 0 := by
   intro e
   have := congrArg (fun w : BitVec 64 => w.getLsbD (q % 64)) e
   simp only [z3o, z3p, h1, h2] at this
   have hm : q % 64 < 64 := z3n _ (by omega)
   simp [hm] at this
  simp only [decide_eq_true this]
theorem yqg {s t : Ws} (h : s.length = t.length) (hm : yei s t = false) : y49 s t = s := by
 refine z36 (y4q h) fun k h1 h2 => ?_
 have hk : k < t.length := by omega
 simp only [y49, List.getElem_zipWith]
 have hz : t[k] &&& ~~~ s[k] = 0 := by
  refine Classical.byContradiction fun hn => ?_
  have : yei s t = true := by
   unfold yei
   rw [z3h]
   refine ⟨true, zs (i := k) ?_, rfl⟩
   rw [z2n, z9 hk, z9 h2]
   simp only [decide_eq_true (show t[k] &&& ~~~ s[k] ≠ 0 from hn)]
  rw [hm] at this; cases this
 refine BitVec.eq_of_getLsbD_eq fun j hj => ?_
 have := congrArg (fun w : BitVec 64 => w.getLsbD j) hz
 simp only [z3o, z3p, BitVec.getLsbD_or] at this ⊢
 cases ha : s[k].getLsbD j <;> cases hb : t[k].getLsbD j <;> simp_all
end Go.Vm
namespace Go.Vm
open Cel
attribute [local simp] yc y38 y1t
def okB (b : UInt8) : Bool := (decide (97 ≤ b.toNat) && decide (b.toNat ≤ 122)) || (decide (65 ≤ b.toNat) && decide (b.toNat ≤ 90)) || (decide (48 ≤ b.toNat) && decide (b.toNat ≤ 57)) || decide (b.toNat = 95) || decide (b.toNat = 36) || decide (b.toNat = 47)
def yj4 (s : List UInt8) : Bool := decide (1 ≤ s.length) && decide (s.length ≤ 60) && s.all okB
theorem y18r (s : List UInt8) (i : Nat) (hi : i < s.length) (v18 : AV) :
  q1_4 (.bool false) (.ls 0 1 1 0 s.length) v18 (.int .i64 i) [⟨1, .arr false false 1 (s.map fun b => [.int .u8 b.toNat])⟩] =
   if okB s[i] then q1_3 (.bool false) (.ls 0 1 1 0 s.length) v18 (.int .i64 i) [⟨1, .arr false false 1 (s.map fun b => [.int .u8 b.toNat])⟩] else some ⟨.bool false, [], true, [], []⟩ := by
 have hc : ((i : Int) < (s.length : Int)) := by omega
 generalize hb : s[i].toNat = n
 have e : (s.map fun b => ([.int .u8 b.toNat] : List AV))[i]? = some [.int .u8 (n : Int)] := by
  rw [z1a, z9 hi, ← hb]; rfl
 have ho : okB s[i] = ((decide (97 ≤ n) && decide (n ≤ 122)) || (decide (65 ≤ n) && decide (n ≤ 90)) || (decide (48 ≤ n) && decide (n ≤ 57)) || decide (n = 95) || decide (n = 36) || decide (n = 47)) := by
  rw [okB, hb]
 rw [ho]
 have c1 : ∀ k : Nat, ((k : Int) ≤ (n : Int)) = (k ≤ n) := fun k => by simp
 have f1 : ((97 : Int) ≤ (n : Int)) = (97 ≤ n) := c1 97
 have f2 : ((65 : Int) ≤ (n : Int)) = (65 ≤ n) := c1 65
 have f3 : ((48 : Int) ≤ (n : Int)) = (48 ≤ n) := c1 48
 have g1 : ((n : Int) ≤ (122 : Int)) = (n ≤ 122) := by simp; omega
 have g2 : ((n : Int) ≤ (90 : Int)) = (n ≤ 90) := by simp; omega
 have g3 : ((n : Int) ≤ (57 : Int)) = (n ≤ 57) := by simp; omega
 have d1 : ((n : Int) = (95 : Int)) = (n = 95) := by simp; omega
 have d2 : ((n : Int) = (36 : Int)) = (n = 36) := by simp; omega
 have d3 : ((n : Int) = (47 : Int)) = (n = 47) := by simp; omega
 have step : ∀ (b1 b2 b3 b4 b5 b6 b7 b8 b9 : Bool), decide (97 ≤ n) = b1 → decide (n ≤ 122) = b2 → decide (65 ≤ n) = b3 → decide (n ≤ 90) = b4 → decide (48 ≤ n) = b5 → decide (n ≤ 57) = b6 → decide (n = 95) = b7 → decide (n = 36) = b8 → decide (n = 47) = b9 →
   q1_4 (.bool false) (.ls 0 1 1 0 s.length) v18 (.int .i64 i) [⟨1, .arr false false 1 (s.map fun b => [.int .u8 b.toNat])⟩] =
   if (b1 && b2) || (b3 && b4) || (b5 && b6) || b7 || b8 || b9 then q1_3 (.bool false) (.ls 0 1 1 0 s.length) v18 (.int .i64 i) [⟨1, .arr false false 1 (s.map fun b => [.int .u8 b.toNat])⟩] else some ⟨.bool false, [], true, [], []⟩ := by
  intro b1 b2 b3 b4 b5 b6 b7 b8 b9 h1 h2 h3 h4 h5 h6 h7 h8 h9
  rw [q1_4]
  have e0 : y10 1 (.ls 0 1 1 0 s.length) (.int .i64 i) = some (.lp 0 1 i 0) := by simp [y10, hc, hi]
  have tri : ∀ a b : Bool, (a = false) ∨ (a = true ∧ b = false) ∨ (a = true ∧ b = true) := by intro a b; cases a <;> cases b <;> simp
  have l1 : yb .geq (.int .u8 (n : Int)) (.int .u8 97) = some (.bool b1) := by rw [y1j]; simp only [f1, h1]
  have l2 : yb .leq (.int .u8 (n : Int)) (.int .u8 122) = some (.bool b2) := by rw [yj1]; simp only [g1, h2]
  have l3 : yb .geq (.int .u8 (n : Int)) (.int .u8 65) = some (.bool b3) := by rw [y1j]; simp only [f2, h3]
  have l4 : yb .leq (.int .u8 (n : Int)) (.int .u8 90) = some (.bool b4) := by rw [yj1]; simp only [g2, h4]
  have l5 : yb .geq (.int .u8 (n : Int)) (.int .u8 48) = some (.bool b5) := by rw [y1j]; simp only [f3, h5]
  have l6 : yb .leq (.int .u8 (n : Int)) (.int .u8 57) = some (.bool b6) := by rw [yj1]; simp only [g3, h6]
  have l7 : yb .eql (.int .u8 (n : Int)) (.int .u8 95) = some (.bool b7) := by rw [yy]; simp only [d1, h7]
  have l8 : yb .eql (.int .u8 (n : Int)) (.int .u8 36) = some (.bool b8) := by rw [yy]; simp only [d2, h8]
  have l9 : yb .eql (.int .u8 (n : Int)) (.int .u8 47) = some (.bool b9) := by rw [yy]; simp only [d3, h9]
  clear h1 h2 h3 h4 h5 h6 h7 h8 h9
  simp only [e0, y9, y3z, ygq, e, List.drop_zero, y2s, List.head?_cons, l1]
  generalize q1_3 (.bool false) (.ls 0 1 1 0 s.length) v18 (.int .i64 i) [⟨1, .arr false false 1 (s.map fun b => [.int .u8 b.toNat])⟩] = Z
  rcases tri b1 b2 with rfl | ⟨rfl, rfl⟩ | ⟨rfl, rfl⟩ <;> simp only [l2, y9n, y51, y6z, ye0, y92, y9, y1g, y1d, y2a, y1b, y1h, l3, y1w] <;> try (simp; done)
  all_goals rcases tri b3 b4 with rfl | ⟨rfl, rfl⟩ | ⟨rfl, rfl⟩ <;> simp only [l4, y9n, y51, y6z, ye0, y92, y9, y1g, y1d, y2a, y1b, y1h, l5, y1w] <;> try (simp; done)
  all_goals rcases tri b5 b6 with rfl | ⟨rfl, rfl⟩ | ⟨rfl, rfl⟩ <;> simp only [l6, y9n, y51, y6z, ye0, y92, y9, y1g, y1d, y2a, y1b, y1h, l7, y1w] <;> try (simp; done)
  all_goals cases b7 <;> simp only [y9n, y51, y6z, ye0, y92, y9, y1g, y1d, y2a, y1b, y1h, l8, y1w] <;> try (simp; done)
  all_goals cases b8 <;> simp only [y9n, y51, y6z, ye0, y92, y9, y1g, y1d, y2a, y1b, y1h, l9, y1w] <;> try (simp; done)
  all_goals cases b9 <;> simp
 exact step _ _ _ _ _ _ _ _ _ rfl rfl rfl rfl rfl rfl rfl rfl rfl
end Go.Vm
namespace Go.Vm
open Cel
attribute [local simp] yc y38 y1t
theorem y1s5 (s : List UInt8) (hl : s.length ≤ 60) : ∀ (d i : Nat), i + d = s.length →
  y1s1 (.bool false) (.ls 0 1 1 0 s.length) (.int .i64 s.length) (.int .i64 i) [⟨1, .arr false false 1 (s.map fun b => [.int .u8 b.toNat])⟩] = some ⟨.bool ((s.drop i).all okB), [], true, [], []⟩ := by
 intro d
 induction d with
 | zero =>
  intro i hi
  have e1 : s.drop i = [] := z1b (by omega)
  have hc : ¬ ((i : Int) < (s.length : Int)) := by omega
  rw [yxk, e1]
  simp [q1_6, q1_5, q1_1, hc]
 | succ d ih =>
  intro i hi
  have hlt : i < s.length := by omega
  have hc : ((i : Int) < (s.length : Int)) := by omega
  have := ih (i + 1) (by omega)
  push_cast at this
  have e1 : (s.drop i).all okB = (okB s[i] && (s.drop (i + 1)).all okB) := by rw [zk hlt, z2w]
  have hw : IntKind.wrap .i64 ((i : Int) + 1) = (i : Int) + 1 := y1a (by omega) (by omega)
  rw [yxk, e1]
  simp only [q1_6, q1_5, yg, y9, hc, decide_true, y1b, y18r s i hlt]
  cases okB s[i]
  ·simp
  ·simp [q1_3, hw, this]
@[simp] theorem y2uw (s : List UInt8) : (yd E).p 60 [.str s, .bool false] = some ⟨.bool (yj4 s), [], true, [], []⟩ := by
 rw [x_q1]
 by_cases h1 : ((s.length : Int) < 1)
 ·have : ¬ 1 ≤ s.length := by omega
  simp [q1_1, q1_3, q1_4, q1_5, q1_6, q1_8, y1mc, y19d, h1, yj4, this]
 by_cases h2 : ((60 : Int) < (s.length : Int))
 ·have : ¬ s.length ≤ 60 := by omega
  simp [q1_1, q1_3, q1_4, q1_5, q1_6, q1_8, y1mc, y19d, h1, h2, yj4, this]
 ·have a1 : 1 ≤ s.length := by omega
  have a2 : s.length ≤ 60 := by omega
  have := y1s5 s a2 s.length 0 (by omega)
  simp only [List.drop_zero] at this
  simp only [yj4, a1, a2, decide_true, z23, ← this]
  simp [y19d, y1mc, q1_8, h1, h2, s2bC]
def lead : List UInt8 → Nat
 | [] => 0
 | c :: r => if c = 91 then lead r + 1 else 0
theorem yoh : ∀ s : List UInt8, lead s ≤ s.length
 | [] => zi _
 | c :: r => by
  have := yoh r
  simp only [lead, List.length_cons]
  split <;> omega
theorem y1cc : ∀ {s : List UInt8} {i : Nat}, i < lead s → s[i]? = some 91
 | [], i, h => by simp [lead] at h
 | c :: r, i, h => by
  simp only [lead] at h
  split at h
  ·rename_i e
   cases i with
   | zero => simp [e]
   | succ i => simpa using y1cc (s := r) (by omega)
  ·omega
theorem y1r0 : ∀ {s : List UInt8} {c : UInt8}, s[lead s]? = some c → c ≠ 91
 | [], c, h => by simp at h
 | d :: r, c, h => by
  simp only [lead] at h
  split at h
  ·exact y1r0 (s := r) (by simpa using h)
  ·rename_i e; simp at h; rw [← h]; exact e
def y17o (s : List UInt8) : Nat :=
 if 8 < lead s ∨ lead s = s.length then 0
 else if s[lead s]? = some 73 ∨ s[lead s]? = some 74 then lead s + 1
 else if s[lead s]? = some 76 then
  (if (s.drop (lead s + 1)).findIdx (· == 59) < (s.drop (lead s + 1)).length ∧ yj4 ((s.take (lead s + 1 + (s.drop (lead s + 1)).findIdx (· == 59))).drop (lead s + 1)) = true then lead s + 1 + (s.drop (lead s + 1)).findIdx (· == 59) + 1 else 0)
 else 0
theorem ixstr {s : List UInt8} {i : Nat} {c : UInt8} (h : s[i]? = some c) : yav (.str s) (.int .i64 i) = some (.int .u8 c.toNat) := by
 simp [yav, h]
theorem y7t (c : UInt8) (k : UInt8) : ((c.toNat : Int) = (k.toNat : Int)) ↔ c = k := by
 rw [Int.ofNat_inj]; exact ⟨fun h => UInt8.toNat_inj.1 h, fun h => by rw [h]⟩
theorem y1hr (s : List UInt8) (hs : s.length ≤ 9223372036854775807) (h : Heap) : ∀ (d i : Nat), i + d = lead s → yrl (.str s) (.int .i64 i) h = yk3 (.str s) (.int .i64 (lead s)) h := by
 intro d
 induction d with
 | zero =>
  intro i hi
  obtain rfl : i = lead s := by omega
  rw [yp3]
  have := yoh s
  by_cases hc : lead s < s.length
  ·have e := z9 hc
   have hne := y1r0 e
   have hc' : ((lead s : Int) < (s.length : Int)) := by omega
   have hb : ¬ ((s[lead s].toNat : Int) = 91) := fun hh => hne ((y7t _ 91).1 hh)
   simp [y1ni, hc', ixstr e, hb]
  ·have hc' : ¬ ((lead s : Int) < (s.length : Int)) := by omega
   simp [y1ni, hc']
 | succ d ih =>
  intro i hi
  have e := y1cc (s := s) (i := i) (by omega)
  have := yoh s
  have hc' : ((i : Int) < (s.length : Int)) := by omega
  have ih := ih (i + 1) (by omega)
  push_cast at ih
  rw [yp3]
  simp [y1ni, hc', ixstr e, y2dt, y2x (show i < s.length by omega) hs, ih]
theorem y1dt (s : List UInt8) (hs : s.length ≤ 9223372036854775807) (n : Nat) (h : Heap) : ∀ (d i : Nat), n + 1 ≤ i → i + d = s.length →
  y1bv (.str s) (.int .i64 n) (.int .i64 i) h =
   some ⟨.int .i64 (if (s.drop i).findIdx (· == 59) < (s.drop i).length ∧ yj4 ((s.take (i + (s.drop i).findIdx (· == 59))).drop (n + 1)) = true then (i + (s.drop i).findIdx (· == 59) + 1 : Nat) else (0 : Nat)), [], true, [], []⟩ := by
 intro d
 induction d with
 | zero =>
  intro i h1 hi
  rw [y13a]
  have e1 : s.drop i = [] := z1b (by omega)
  have hc : ¬ ((i : Int) < (s.length : Int)) := by omega
  simp [y171, q3_1, hc, e1]
 | succ d ih =>
  intro i h1 hi
  rw [y13a]
  have hlt : i < s.length := by omega
  have e := z9 hlt
  have hc : ((i : Int) < (s.length : Int)) := by omega
  have hd : s.drop i = s[i] :: s.drop (i + 1) := zk hlt
  by_cases hb : s[i] = 59
  ·have hb' : ((s[i].toNat : Int) = 59) := (y7t _ 59).2 hb
   have hf : (s.drop i).findIdx (· == 59) = 0 := by rw [hd, List.findIdx_cons]; simp [hb]
   have hw1 : IntKind.wrap .i64 ((n : Int) + 1) = (n : Int) + 1 := y2x (show n < s.length by omega) hs
   have hsl : y1pk (.str s) (some (.int .i64 ((n : Int) + 1))) (some (.int .i64 (i : Int))) = some (.str ((s.take i).drop (n + 1))) := by
    have a1 : ((0 : Int) ≤ (i : Int) ∧ (i : Int) ≤ (s.length : Int)) := by omega
    have a2 : ((0 : Int) ≤ (n : Int) + 1 ∧ (n : Int) + 1 ≤ (i : Int)) := by omega
    simp only [y1pk, ybv, yoo, if_pos a1, z2f, if_pos a2]
    rfl
   rw [hf]
   have hlen : 0 < (s.drop i).length := by rw [List.length_drop]; omega
   cases hn : yj4 ((s.take i).drop (n + 1)) with
   | true =>
    simp only [y171, q3_7, q3_6, q3_5, yhx, y9, yg, hc, decide_true, y1b, ixstr e, yy, hb', yz, hw1, hsl]
    simp [hn, hlt, y2x hlt hs]
    omega
   | false =>
    simp only [y171, q3_7, q3_6, q3_5, yhx, y9, yg, hc, decide_true, y1b, ixstr e, yy, hb', yz, hw1, hsl]
    simp [hn, q3_4]
  ·have hb' : ¬ ((s[i].toNat : Int) = 59) := fun hh => hb ((y7t _ 59).1 hh)
   have hf : (s.drop i).findIdx (· == 59) = (s.drop (i + 1)).findIdx (· == 59) + 1 := by
    rw [hd, List.findIdx_cons]
    have : (s[i] == 59) = false := by simpa using hb
    rw [this]; rfl
   have hl : (s.drop i).length = (s.drop (i + 1)).length + 1 := by rw [hd]; rfl
   have ih := ih (i + 1) (by omega) (by omega)
   push_cast at ih
   rw [hf, hl]
   have e2 : i + ((s.drop (i + 1)).findIdx (· == 59) + 1) = i + 1 + (s.drop (i + 1)).findIdx (· == 59) := by omega
   rw [e2]
   simp only [y171, q3_7, q3_6, q3_3, yhx, y9, yg, hc, decide_true, y1b, y1h, ixstr e, yy, hb', decide_false, yz, y2x hlt hs, ih]
   simp only [Nat.add_lt_add_iff_right]
   push_cast
   rfl
@[simp] theorem y2n7 (s : List UInt8) (hs : s.length ≤ 9223372036854775807) : (yd E).p 44 [.str s] = some ⟨.int .i64 (y17o s), [], true, [], []⟩ := by
 rw [x_q3]
 have h0 := y1hr s hs [] (lead s) 0 (by omega)
 simp only [Int.ofNat_zero] at h0
 have hle := yoh s
 have key : yk3 (.str s) (.int .i64 (lead s)) [] = some ⟨.int .i64 (y17o s), [], true, [], []⟩ := by
  unfold y17o
  by_cases h8 : 8 < lead s
  ·have h8' : ((8 : Int) < (lead s : Int)) := by omega
   simp [yk3, h8', h8]
  by_cases hl : lead s = s.length
  ·have h8' : ¬ ((8 : Int) < (lead s : Int)) := by omega
   have hl' : ((lead s : Int) = (s.length : Int)) := by omega
   have h9' : ¬ ((8 : Int) < (s.length : Int)) := by omega
   simp [yk3, h8', h9', hl', hl]
  ·have h8' : ¬ ((8 : Int) < (lead s : Int)) := by omega
   have hl' : ¬ ((lead s : Int) = (s.length : Int)) := by omega
   have hlt : lead s < s.length := by omega
   have e := z9 hlt
   rw [if_neg (by simp [h8, hl]), e]
   have hw := y2x hlt hs
   by_cases c1 : s[lead s] = 73
   ·have c1' : ((s[lead s].toNat : Int) = 73) := (y7t _ 73).2 c1
    simp [yk3, y15r, y17c, ysr, h8', hl', ixstr e, c1', c1, hw]
   by_cases c2 : s[lead s] = 74
   ·have c2' : ((s[lead s].toNat : Int) = 74) := (y7t _ 74).2 c2
    simp [yk3, y15r, y17c, ysr, h8', hl', ixstr e, c2', c2, hw]
   have c1' : ¬ ((s[lead s].toNat : Int) = 73) := fun hh => c1 ((y7t _ 73).1 hh)
   have c2' : ¬ ((s[lead s].toNat : Int) = 74) := fun hh => c2 ((y7t _ 74).1 hh)
   by_cases c3 : s[lead s] = 76
   ·have c3' : ((s[lead s].toNat : Int) = 76) := (y7t _ 76).2 c3
    have := y1dt s hs (lead s) [] _ (lead s + 1) (zi _) (show lead s + 1 + (s.length - (lead s + 1)) = s.length by omega)
    push_cast at this
    simp [yk3, y15r, y17c, ysr, y1xd, y1ve, y2e0, h8', hl', ixstr e, c1', c2', c3', c1, c2, c3, hw, this]
    split <;> simp
   ·have c3' : ¬ ((s[lead s].toNat : Int) = 76) := fun hh => c3 ((y7t _ 76).1 hh)
    simp [yk3, y15r, y17c, ysr, y1xd, y1ve, q3_1, h8', hl', ixstr e, c1', c2', c3', c1, c2, c3]
 rw [← key, ← h0]
 simp [y29b, y2cz]
def ylh (s : List UInt8) : Bool := decide (s ≠ []) && decide (y17o s = s.length)
@[simp] theorem y2pe (s : List UInt8) (hs : s.length ≤ 9223372036854775807) : (yd E).p 37 [.str s] = some ⟨.bool (ylh s), [], true, [], []⟩ := by
 rw [x_q2]
 have h := y2n7 s hs
 by_cases h1 : s = []
 ·simp [q2_1, h1, ylh]
 ·have e : ((y17o s : Int) = (s.length : Int)) ↔ y17o s = s.length := by omega
  simp [q2_1, h1, ylh, h, e]
end Go.Vm
namespace Go.Vm
open Cel
attribute [local simp] yc y38 y1t
def numK (c : Int) : Int × Int × Int :=
 if c ∈ [96, 100, 104, 108, 112, 120, 122, 124, 126, 128, 130] then (1, 1, 1)
 else if c ∈ [97, 101, 105, 109, 113, 127, 129, 131] then (2, 2, 2)
 else if c ∈ [121, 123, 125] then (2, 1, 2)
 else if c = 148 then (2, 2, 1)
 else if c ∈ [116, 145, 146, 147] then (1, 0, 1)
 else if c = 117 then (2, 0, 2)
 else if c = 133 then (1, 0, 2)
 else if c = 136 then (2, 0, 1)
 else (0, 0, 0)
def y1ms (r : Option (Ex AV)) (k : Int × Int × Int) : Bool :=
 match r with
 | some ⟨.tup [.int .i64 a, .int .i64 b, .int .i64 c], [], true, [], []⟩ => a == k.1 && b == k.2.1 && c == k.2.2
 | _ => false
theorem y1an {r : Option (Ex AV)} {k : Int × Int × Int} (h : y1ms r k = true) : r = some ⟨.tup [.int .i64 k.1, .int .i64 k.2.1, .int .i64 k.2.2], [], true, [], []⟩ := by
 unfold y1ms at h
 split at h
 ·simp only [zc, beq_iff_eq] at h
  obtain ⟨⟨h1, h2⟩, h3⟩ := h
  rw [h1, h2, h3]
 ·cases h
theorem y1q5 {n : Nat} {f : Nat → Bool} (h : ((List.range n).all f) = true) (i : Nat) (hi : i < n) : f i = true := by
 rw [z19] at h
 exact h i (z27.2 hi)
theorem y2ob : ((List.range 60).all fun i => y1ms ((both E 30).1.p 50 [.int .i64 (95 + i)]) (numK (95 + i))) = true := by kernel_rfl
theorem y1up {c : Int} (h : c < 96 ∨ 148 < c) : numK c = (0, 0, 0) := by
 simp only [numK, List.mem_cons, List.not_mem_nil, or_false]
 repeat' split
 all_goals first | rfl | omega
theorem y2ep (c : Int) : (yd E).p 50 [.int .i64 c] = some ⟨.tup [.int .i64 (numK c).1, .int .i64 (numK c).2.1, .int .i64 (numK c).2.2], [], true, [], []⟩ := by
 by_cases h : c < 96 ∨ 148 < c
 ·rw [y1up h, y2r2]
  have h2 : ∀ k : Int, 96 ≤ k → k ≤ 148 → ¬ c = k := by omega
  simp [y2bt, y162, y2fq, y288, y28k, y1l4, y2a4, yjy, y2es, y7h, y1p5, y1ky, y1rt, h2]
  rfl
 ·have := y1q5 y2ob (c - 95).toNat (by omega)
  have e : (95 + ((c - 95).toNat : Int)) = c := by omega
  simp only [e] at this
  exact y2jx 30 (y1an this)
end Go.Vm
namespace Go.Vm
def y16 (x : Ins) : Int × Int × Int × Int × Bool :=
 match x.op with
 | 1 => (0, -1, -1, -1, true)
 | 2 => (3, -1, -1, -1, true)
 | 3 => (3, -1, -1, -1, true)
 | 4 => (0, 0, -1, -1, true)
 | 5 => ((numK x.n).2.2, (numK x.n).1, (numK x.n).2.1, -1, decide (¬ (numK x.n).2.1 = 0))
 | 6 => ((numK x.n).2.2, (numK x.n).1, -1, -1, decide (¬ (numK x.n).1 = 0) && decide ((numK x.n).2.1 = 0))
 | 7 => (-1, 0, -1, -1, true)
 | 8 => (-1, 3, -1, -1, true)
 | 9 => (-1, 3, 1, -1, true)
 | 10 => (-1, 1, -1, -1, true)
 | 11 => (-1, 3, 3, -1, true)
 | 12 => (-1, 3, -1, -1, ylh x.s)
 | 13 => (0, 3, 1, -1, true)
 | 14 => (-1, 3, 1, 0, true)
 | 15 => (1, 3, -1, -1, true)
 | 16 => (0, 3, -1, -1, decide (0 ≤ x.n))
 | 17 => (-1, 3, 0, -1, decide (0 ≤ x.n))
 | 18 => (0, -1, -1, -1, true)
 | 19 => (-1, 0, -1, -1, true)
 | 20 => (3, -1, -1, -1, true)
 | 21 => (3, 1, -1, -1, ylh x.s)
 | 22 => (1, 3, -1, -1, ylh x.s)
 | 23 => (if x.d = -1 then -1 else 0, -1, -1, -1, decide (0 ≤ x.n) && decide ((lst x.args).length ≤ 21))
 | 24 => (if x.d = -1 then -1 else 0, -1, -1, -1, decide (0 < (lst x.args).length) && decide (0 ≤ x.n) && decide ((lst x.args).length ≤ 21))
 | 25 => (if x.d = -1 then -1 else 0, -1, -1, -1, decide (0 < (lst x.args).length) && decide ((lst x.args).length ≤ 21))
 | 26 => (if x.d = -1 then -1 else 0, -1, -1, -1, decide (0 ≤ x.n) && decide ((lst x.args).length ≤ 21))
 | 27 => (-1, -1, -1, -1, true)
 | 28 => (-1, 1, 1, -1, decide (0 ≤ x.n) && decide (x.n ≤ 5))
 | 29 => (-1, 3, if x.b = -1 then -1 else 3, -1, decide (x.n = 0) || decide (x.n = 1))
 | 30 => (-1, if x.a = -1 then -1 else 0, -1, -1, true)
 | 31 => (-1, 3, -1, -1, true)
 | 32 => (3, -1, -1, -1, true)
 | 33 => (-1, -1, -1, -1, true)
 | _ => (0, 0, 0, 0, false)
def exK (k : Int × Int × Int × Int × Bool) : Ex AV := ⟨.tup [.agg [.int .i64 k.1, .int .i64 k.2.1, .int .i64 k.2.2.1, .int .i64 k.2.2.2.1], .bool k.2.2.2.2], [], true, [], []⟩
theorem y15n {x : Ins} (h : x.op < 1 ∨ 33 < x.op) : y16 x = (0, 0, 0, 0, false) := by
 unfold y16
 split <;> first | rfl | omega
end Go.Vm
namespace Go.Vm
def regK (R : List Int) (r : Int) : Int := if r < 0 then 0 else R.getD r.toNat 0
def inR (R : List Int) (r : Int) : Bool := decide (0 ≤ r) && decide (r < R.length)
def y34 (R : List Int) (w r : Int) : Bool := decide (w < 0) || (inR R r && (decide (w ≤ 0) || decide (regK R r = w)))
def yt0 (R : List Int) (x : Ins) : Bool :=
 match lst x.args with
 | [] => true
 | r :: _ => !(decide (x.op = 24) || decide (x.op = 25)) || decide (regK R r = 3)
def ymm (R : List Int) (x : Ins) : Bool := !calls x.op || (yt0 R x && (lst x.args).all (inR R))
def y4s (R : List Int) (ret : Int) (n : Nat) (x : Ins) : Bool :=
 if x.op = 1 then decide (¬ regK R x.d = 3) && (decide (regK R x.d = 2) || decide (x.n = IntKind.wrap .i64 (IntKind.wrap .i32 x.n)))
 else if x.op = 4 then decide (regK R x.d = regK R x.a)
 else if x.op = 7 then decide (¬ regK R x.a = 3)
 else if x.op = 30 then (decide (x.a = -1) == decide (ret = 0)) && (decide (x.a = -1) || decide (regK R x.a = ret))
 else !leads x.op || (decide (0 ≤ x.t) && decide (x.t < n))
def y4l (f : Fn) (x : Ins) : Bool :=
 (y16 x).2.2.2.2 && y34 (lst f.regs) (y16 x).1 x.d && y34 (lst f.regs) (y16 x).2.1 x.a && y34 (lst f.regs) (y16 x).2.2.1 x.b && y34 (lst f.regs) (y16 x).2.2.2.1 x.c &&
  ymm (lst f.regs) x && y4s (lst f.regs) f.ret (lst f.code).length x
theorem y2f8 {R : List Int} {r : Int} (h : inR R r = true) : 0 ≤ r ∧ r.toNat < R.length ∧ R[r.toNat]? = some (regK R r) := by
 simp only [inR, zc, decide_eq_true_eq] at h
 have h1 : r.toNat < R.length := by omega
 refine ⟨h.1, h1, ?_⟩
 rw [regK, if_neg (by omega), ze, z9 h1]; rfl
def y6o (C : List Ins) (i : Nat) (x : Ins) : Bool :=
 !((decide (x.op = 32) && (decide (i = 0) || !ends ((C.getD (i - 1) default).op))) || (leads x.op && decide ((C.getD x.t.toNat default).op = 32)))
def y6u (f : Fn) (C : List Ins) : Nat → List Ins → Bool
 | _, [] => true
 | i, x :: r => y4l f x && y6o C i x && y6u f C (i + 1) r
def yak (C : List Ins) (r : Row) : Bool :=
 !(decide (r.f < 0) || decide (r.t ≤ r.f) || decide ((C.length : Int) < r.t) || decide (r.at_ < 0) || decide ((C.length : Int) ≤ r.at_) || decide (¬ (C.getD r.at_.toNat default).op = 32))
def ygc (R : List Int) : Nat → List Int → List Int → Bool
 | _, _, [] => true
 | i, seen, p :: r => (inR R p && !seen.contains p && decide (i ≤ 20)) && ygc R (i + 1) (seen ++ [p]) r
def wf (f : Fn) : Bool :=
 decide (1 ≤ (lst f.code).length) && decide ((lst f.code).length ≤ 20000) && decide ((lst f.regs).length ≤ 20000) && decide (0 ≤ f.ret) && decide (f.ret ≤ 3) && ends ((lst f.code).getD ((lst f.code).length - 1) default).op &&
  (lst f.regs).all (fun k => decide (1 ≤ k) && decide (k ≤ 3)) && ygc (lst f.regs) 0 [] (lst f.params) && y6u f (lst f.code) 0 (lst f.code) && (lst f.rows).all (yak (lst f.code))
end Go.Vm
namespace Go.Vm
section
variable (n : Nat) (S : Nat → List Int) (A : List Int)
inductive Rch : Nat → Prop
 | base {j : Int} : j ∈ A → 0 ≤ j → j < n → Rch j.toNat
 | step {i : Nat} {j : Int} : Rch i → j ∈ S i → 0 ≤ j → j < n → Rch j.toNat
def unseen (seen : List Bool) : Nat := seen.countP (! ·)
end
section
variable {n : Nat} {S : Nat → List Int} {A : List Int}
theorem Rch.lt {i : Nat} (h : Rch n S A i) : i < n := by cases h <;> omega
theorem yd0 {op : List Int} {i : Int} (h : op.getLast? = some i) : op = op.dropLast ++ [i] := by
 have hne : op ≠ [] := by intro e; rw [e] at h; cases h
 have := List.dropLast_concat_getLast hne
 rw [List.getLast?_eq_some_getLast hne] at h
 injection h with h
 rw [h] at this
 exact this.symm
theorem yf8 {op : List Int} {j : Int} (h : j ∈ op.dropLast) : j ∈ op := (List.dropLast_sublist op).mem h
structure DfsI (n : Nat) (S : Nat → List Int) (A : List Int) (seen : List Bool) (op : List Int) : Prop where
 len : seen.length = n
 ok : ∀ i : Nat, seen[i]? = some true → Rch n S A i
 opn : ∀ j : Int, j ∈ op → 0 ≤ j → j < n → Rch n S A j.toNat
 cl : ∀ (i : Nat) (j : Int), seen[i]? = some true → j ∈ S i → 0 ≤ j → j < n → seen[j.toNat]? = some true ∨ j ∈ op
 st : ∀ j : Int, j ∈ A → 0 ≤ j → j < n → seen[j.toNat]? = some true ∨ j ∈ op
theorem DfsI.start : DfsI n S A (List.replicate n false) A where
 len := by simp
 ok i h := by rw [z29] at h; split at h <;> cases h
 opn j h h0 h1 := .base h h0 h1
 cl i j h := by rw [z29] at h; split at h <;> cases h
 st j h _ _ := .inr h
theorem DfsI.skip {seen : List Bool} {op : List Int} (I : DfsI n S A seen op) {i : Int} (hop : op.getLast? = some i) (hc : i < 0 ∨ (n : Int) ≤ i ∨ seen.getD i.toNat true = true) : DfsI n S A seen op.dropLast := by
 have e := yd0 hop
 have key : ∀ j : Int, 0 ≤ j → j < n → (seen[j.toNat]? = some true ∨ j ∈ op) → seen[j.toNat]? = some true ∨ j ∈ op.dropLast := by
  intro j h0 h1 h
  rcases h with h | h
  ·exact .inl h
  ·rw [e, zt, zn] at h
   rcases h with h | rfl
   ·exact .inr h
   ·rcases hc with hc | hc | hc
    ·omega
    ·omega
    ·left
     have : j.toNat < seen.length := by rw [I.len]; omega
     rw [ze, z9 this] at hc
     rw [z9 this]
     simpa using hc
 exact ⟨I.len, I.ok, fun j hj => I.opn j (yf8 hj), fun i j h1 h2 h3 h4 => key j h3 h4 (I.cl i j h1 h2 h3 h4), fun j h1 h3 h4 => key j h3 h4 (I.st j h1 h3 h4)⟩
theorem DfsI.take {seen : List Bool} {op : List Int} (I : DfsI n S A seen op) {i : Int} (hop : op.getLast? = some i) (h0 : 0 ≤ i) (h1 : i < n) : DfsI n S A (seen.set i.toNat true) (op.dropLast ++ S i.toNat) := by
 have e := yd0 hop
 have hi : Rch n S A i.toNat := I.opn i (by rw [e]; simp) h0 h1
 have hlt : i.toNat < seen.length := by rw [I.len]; omega
 have hset : ∀ j : Nat, (seen.set i.toNat true)[j]? = some true ↔ seen[j]? = some true ∨ j = i.toNat := by
  intro j
  rw [zu]
  by_cases hj : i.toNat = j
  ·subst hj; simp [hlt]
  ·rw [if_neg hj]
   exact ⟨.inl, fun h => h.resolve_right (fun e => hj e.symm)⟩
 have key : ∀ j : Int, 0 ≤ j → j < n → (seen[j.toNat]? = some true ∨ j ∈ op) → (seen.set i.toNat true)[j.toNat]? = some true ∨ j ∈ op.dropLast ++ S i.toNat := by
  intro j h2 h3 h
  rw [hset]
  rcases h with h | h
  ·exact .inl (.inl h)
  ·rw [e, zt, zn] at h
   rcases h with h | rfl
   ·exact .inr (z1z _ h)
   ·exact .inl (.inr rfl)
 refine ⟨by simpa using I.len, fun j hj => ?_, fun j hj h2 h3 => ?_, fun k j hk hj h2 h3 => ?_, fun j hj h2 h3 => key j h2 h3 (I.st j hj h2 h3)⟩
 ·rcases (hset j).1 hj with h | rfl
  ·exact I.ok j h
  ·exact hi
 ·rcases zt.1 hj with h | h
  ·exact I.opn j (yf8 h) h2 h3
  ·exact .step hi h h2 h3
 ·rcases (hset k).1 hk with h | rfl
  ·exact key j h2 h3 (I.cl k j h hj h2 h3)
  ·exact .inr (z22 _ hj)
theorem DfsI.done {seen : List Bool} (I : DfsI n S A seen []) (i : Nat) : seen[i]? = some true ↔ Rch n S A i := by
 refine ⟨I.ok i, fun h => ?_⟩
 induction h with
 | base h h0 h1 => exact (I.st _ h h0 h1).resolve_right (by simp)
 | step _ hj h0 h1 ih => exact (I.cl _ _ ih hj h0 h1).resolve_right (by simp)
structure RI (n : Nat) (S : Nat → List Int) (A : List Int) (seen : List Bool) (s : List Bool × Bool) : Prop where
 len : s.1.length = n
 ok : ∀ i : Nat, s.1[i]? = some true → Rch n S A i
 up : ∀ i : Nat, seen[i]? = some true → s.1[i]? = some true
 un : unseen s.1 ≤ unseen seen
 lt : s.2 = true → unseen s.1 < unseen seen
 eq : s.2 = false → s.1 = seen
end
end Go.Vm
namespace Go.Vm
def addN (l : List Int) (j : Int) : List Int := if l.contains j then l else l ++ [j]
def y25 (f : Fn) (i : Nat) : Ins := (lst f.code).getD i default
def y15x (x : Ins) (i : Int) : List Int := if leads x.op then addN (if ends x.op then [] else [i + 1]) x.t else if ends x.op then [] else [i + 1]
def y42 (f : Fn) (i : Int) : List Int := if i < 0 ∨ ((lst f.code).length : Int) ≤ i then [] else y15x (y25 f i.toNat) i
def y4k (i : Int) : List Row → List Int → List Int
 | [], l => l
 | r :: rs, l => if r.f ≤ i ∧ i < r.t then (if r.c = [] then addN l r.at_ else y4k i rs (addN l r.at_)) else y4k i rs l
def y1z (f : Fn) (i : Int) : List Int := if i < 0 ∨ ((lst f.code).length : Int) ≤ i then [] else if throws (y25 f i.toNat).op then y4k i (lst f.rows) [] else []
theorem y238 (l : List Int) (j : Int) : (addN l j).length ≤ l.length + 1 := by
 unfold addN
 split <;> simp
theorem y1t4 (x : Ins) (i : Int) : (y15x x i).length ≤ 2 := by
 unfold y15x
 split
 ·have := y238 (if ends x.op then [] else [i + 1]) x.t
  split at this <;> simp_all <;> omega
 ·split <;> simp
theorem y1dc (f : Fn) (i : Int) : (y42 f i).length ≤ 2 := by
 unfold y42
 split
 ·simp
 ·exact y1t4 _ _
theorem y5w {f : Fn} {i : Nat} (h : i < (lst f.code).length) : (lst f.code)[i]? = some (y25 f i) := by
 rw [y25, ze, z9 h]; rfl
end Go.Vm
namespace Go.Vm
theorem yib {f : Fn} {C : List Ins} : ∀ {l : List Ins} {i k : Nat} {x : Ins}, y6u f C i l = true → l[k]? = some x → y4l f x = true ∧ y6o C (i + k) x = true
 | [], _, _, _, _, h => by simp at h
 | y :: l, i, k, x, hk, h => by
  simp only [y6u, zc] at hk
  cases k with
  | zero => simp at h; subst h; exact hk.1
  | succ k =>
   have := yib hk.2 (by simpa using h)
   rwa [show i + 1 + k = i + (k + 1) by omega] at this
structure Wf (f : Fn) : Prop where
 n1 : 1 ≤ (lst f.code).length
 n2 : (lst f.code).length ≤ 20000
 regs : (lst f.regs).length ≤ 20000
 ret0 : 0 ≤ f.ret
 ret3 : f.ret ≤ 3
 last : ends (y25 f ((lst f.code).length - 1)).op = true
 kinds : ∀ k ∈ lst f.regs, 1 ≤ k ∧ k ≤ 3
 pars : ygc (lst f.regs) 0 [] (lst f.params) = true
 ins : ∀ i, i < (lst f.code).length → y4l f (y25 f i) = true
 spot : ∀ i, i < (lst f.code).length → y6o (lst f.code) i (y25 f i) = true
 rows : ∀ r ∈ lst f.rows, yak (lst f.code) r = true
theorem y2lg {f : Fn} (h : wf f = true) : Wf f := by
 simp only [wf, zc, decide_eq_true_eq, z19] at h
 obtain ⟨⟨⟨⟨⟨⟨⟨⟨⟨h1, h2⟩, h3⟩, h4⟩, h5⟩, h6⟩, h7⟩, h8⟩, h9⟩, h10⟩ := h
 refine ⟨h1, h2, h3, h4, h5, h6, h7, h8, fun i hi => ?_, fun i hi => ?_, h10⟩
 ·exact (yib h9 (y5w hi)).1
 ·have := (yib h9 (y5w hi)).2
  rwa [zd] at this
theorem ysl {R : List Int} {ret : Int} {n : Nat} {x : Ins} (h : y4s R ret n x = true) (hl : leads x.op = true) : 0 ≤ x.t ∧ x.t < n := by
 have hne : ¬ x.op = 1 ∧ ¬ x.op = 4 ∧ ¬ x.op = 7 ∧ ¬ x.op = 30 := by
  simp only [leads, z1k, decide_eq_true_eq] at hl
  omega
 simp only [y4s, hne, if_false, hl, z1w, z1x, zc, decide_eq_true_eq] at h
 exact h
theorem Wf.leads {f : Fn} (w : Wf f) {i : Nat} (hi : i < (lst f.code).length) (hl : Go.Vm.leads (y25 f i).op = true) : 0 ≤ (y25 f i).t ∧ (y25 f i).t < (lst f.code).length := by
 have h := w.ins i hi
 simp only [y4l, zc] at h
 exact ysl h.2 hl
structure RowIn (f : Fn) (r : Row) : Prop where
 f0 : 0 ≤ r.f
 ft : r.f < r.t
 tn : r.t ≤ (lst f.code).length
 a0 : 0 ≤ r.at_
 an : r.at_ < (lst f.code).length
 op : (y25 f r.at_.toNat).op = 32
theorem Wf.row {f : Fn} (w : Wf f) {r : Row} (hr : r ∈ lst f.rows) : RowIn f r := by
 have h := w.rows r hr
 simp only [yak, z1u, z2q, decide_eq_false_iff_not, Classical.not_not] at h
 exact ⟨by omega, by omega, by omega, by omega, by omega, h.2⟩
end Go.Vm
namespace Go.Vm
def ym2 (f : Fn) (i : Nat) : List Int := lst (uses (y25 f i))
def y2fd (f : Fn) (r : Int) (i : Nat) : List Int := y1z f i ++ if defr (y25 f i) = r then [] else y42 f i
abbrev Tab := List (Option (List Bool))
def wt (R : Nat) : Option (List Bool) → Nat
 | none => R + 1
 | some s => s.countP id
def pot (R : Nat) (ins : Tab) : Nat := (ins.map (wt R)).sum
def LeB (t s : List Bool) : Prop := ∀ r : Nat, t[r]? = some true → s[r]? = some true
theorem LeB.refl (t : List Bool) : LeB t t := fun _ h => h
theorem LeB.trans {a b c : List Bool} (h : LeB a b) (h' : LeB b c) : LeB a c := fun r h1 => h' r (h r h1)
theorem y13j : ∀ {t s : List Bool}, t.length = s.length → LeB s t → (∃ r : Nat, t[r]? = some true ∧ s[r]? = some false) → s.countP id < t.countP id
 | [], [], _, _, ⟨r, h, _⟩ => by simp at h
 | a :: t, b :: s, hl, hle, ⟨r, h1, h2⟩ => by
  have hl' : t.length = s.length := by simpa using hl
  have hle' : LeB s t := fun q h => by have := hle (q + 1) (by simpa using h); simpa using this
  have le : ∀ {t s : List Bool}, t.length = s.length → LeB s t → s.countP id ≤ t.countP id := by
   intro t
   induction t with
   | nil => intro s hl _; rw [z13] at hl; rw [List.eq_nil_of_length_eq_zero hl.symm]; exact zi _
   | cons a t ih =>
    intro s hl hle
    cases s with
    | nil => simp at hl
    | cons b s =>
     have := ih (s := s) (by simpa using hl) (fun q h => by have := hle (q + 1) (by simpa using h); simpa using this)
     have h0 := hle 0
     simp only [List.countP_cons]
     cases a <;> cases b <;> simp_all <;> omega
  simp only [List.countP_cons]
  cases r with
  | zero =>
   simp at h1 h2
   subst h1; subst h2
   have := le hl' hle'
   simp; omega
  | succ r =>
   have := y13j hl' hle' ⟨r, by simpa using h1, by simpa using h2⟩
   have h0 := hle 0
   cases a <;> cases b <;> simp_all <;> omega
 | [], _ :: _, h, _, _ => by simp at h
 | _ :: _, [], h, _, _ => by simp at h
def LeT (a b : Tab) : Prop := ∀ (i : Nat) s, a[i]? = some (some s) → ∃ t, b[i]? = some (some t) ∧ LeB t s
theorem LeT.refl (a : Tab) : LeT a a := fun _ s h => ⟨s, h, .refl _⟩
theorem LeT.trans {a b c : Tab} (h : LeT a b) (h' : LeT b c) : LeT a c := fun i s hs => by
 obtain ⟨t, h1, h2⟩ := h i s hs
 obtain ⟨u, h3, h4⟩ := h' i t h1
 exact ⟨u, h3, h4.trans h2⟩
def LeAt (ins : Tab) (to : Int) (s : List Bool) : Prop := ∃ t, ins[to.toNat]? = some (some t) ∧ LeB t s
theorem LeAt.mono {a b : Tab} (h : LeT a b) {to : Int} {s : List Bool} (hs : LeAt a to s) : LeAt b to s := by
 obtain ⟨t, h1, h2⟩ := hs
 obtain ⟨u, h3, h4⟩ := h _ _ h1
 exact ⟨u, h3, h4.trans h2⟩
section
variable {n R : Nat}
structure TblOk (n R : Nat) (ins : Tab) : Prop where
 len : ins.length = n
 rows : ∀ (i : Nat) s, ins[i]? = some (some s) → s.length = R
structure MeetR (n R : Nat) (s : List Bool) (T : Int → Prop) (p q : Tab × List Int) : Prop where
 ok : TblOk n R q.1
 le : LeT p.1 q.1
 work : ∀ (i : Nat) t, q.1[i]? = some (some t) → p.1[i]? = some (some t) ∨ (i : Int) ∈ q.2
 keep : ∀ j, j ∈ p.2 → j ∈ q.2
 fresh : ∀ j, j ∈ q.2 → j ∈ p.2 ∨ (0 ≤ j ∧ j < n ∧ ∃ t, q.1[j.toNat]? = some (some t))
 src : ∀ (i r : Nat) t, q.1[i]? = some (some t) → t[r]? = some false → (∃ u, p.1[i]? = some (some u) ∧ u[r]? = some false) ∨ (s[r]? = some false ∧ T i)
 pot : 2 * pot R q.1 + q.2.length ≤ 2 * Go.Vm.pot R p.1 + p.2.length
theorem MeetR.refl {s : List Bool} {T : Int → Prop} {p : Tab × List Int} (h : TblOk n R p.1) : MeetR n R s T p p :=
 ⟨h, .refl _, fun _ _ h => .inl h, fun _ h => h, fun _ h => .inl h, fun _ _ _ h1 h2 => .inl ⟨_, h1, h2⟩, zi _⟩
theorem y2b7 {ins : Tab} {i : Nat} {x y : Option (List Bool)} (h : ins[i]? = some x) : pot R (ins.set i y) + wt R x = pot R ins + wt R y := by
 unfold pot
 induction ins generalizing i with
 | nil => simp at h
 | cons a ins ih =>
  cases i with
  | zero =>
   simp at h
   subst h
   simp only [List.set_cons_zero, List.map_cons, List.sum_cons]
   omega
  | succ i =>
   simp only [List.getElem?_cons_succ] at h
   have := ih h
   simp only [List.set_cons_succ, List.map_cons, List.sum_cons]
   omega
theorem MeetR.trans {s : List Bool} {T : Int → Prop} {p q u : Tab × List Int} (h : MeetR n R s T p q) (h' : MeetR n R s T q u) : MeetR n R s T p u := by
 refine ⟨h'.ok, h.le.trans h'.le, fun i t ht => ?_, fun j hj => h'.keep j (h.keep j hj), fun j hj => ?_, fun i r t ht hr => ?_, z1o h'.pot h.pot⟩
 ·rcases h'.work i t ht with h1 | h1
  ·rcases h.work i t h1 with h2 | h2
   ·exact .inl h2
   ·exact .inr (h'.keep _ h2)
  ·exact .inr h1
 ·rcases h'.fresh j hj with h1 | h1
  ·rcases h.fresh j h1 with h2 | ⟨a, b, t, ht⟩
   ·exact .inl h2
   ·obtain ⟨v, hv, _⟩ := h'.le _ _ ht
    exact .inr ⟨a, b, v, hv⟩
  ·exact .inr h1
 ·rcases h'.src i r t ht hr with ⟨v, h1, h2⟩ | h1
  ·exact h.src i r v h1 h2
  ·exact .inr h1
theorem MeetR.mono {s : List Bool} {T T' : Int → Prop} {p q : Tab × List Int} (h : MeetR n R s T p q) (hT : ∀ j, T j → T' j) : MeetR n R s T' p q :=
 ⟨h.ok, h.le, h.work, h.keep, h.fresh, fun i r t h1 h2 => (h.src i r t h1 h2).imp id fun x => ⟨x.1, hT _ x.2⟩, h.pot⟩
end
end Go.Vm
namespace Go.Vm
theorem yb3 {R : List Int} {k r : Int} (h : y34 R k r = true) (hk : 0 ≤ k) : 0 ≤ r ∧ r < R.length := by
 simp only [y34, z1k, decide_eq_true_eq, zc, inR] at h
 omega
theorem ysj (n : Int) : 0 ≤ (numK n).1 ∧ 0 ≤ (numK n).2.1 ∧ 0 ≤ (numK n).2.2 := by
 unfold numK
 repeat' split
 all_goals decide
set_option maxHeartbeats 4000000 in
theorem y16h {f : Fn} {x : Ins} (h : y4l f x = true) {u : Int} (hu : u ∈ lst (uses x)) : 0 ≤ u ∧ u < (lst f.regs).length := by
 simp only [y4l, zc] at h
 obtain ⟨⟨⟨⟨⟨⟨h0, h1⟩, h2⟩, h3⟩, h4⟩, h5⟩, h6⟩ := h
 by_cases hc : calls x.op = true
 ·have hu' : u ∈ lst x.args := by simpa [uses, hc] using hu
  simp only [ymm, hc, z1w, z1x, zc, z19] at h5
  have := h5.2 u hu'
  simpa [inR] using this
 ·have key : (u = x.a ∧ 0 ≤ (y16 x).2.1) ∨ (u = x.b ∧ 0 ≤ (y16 x).2.2.1) ∨ (u = x.c ∧ 0 ≤ (y16 x).2.2.2.1) ∨ False := by
   rcases ydj x.op with h|h|h|h|h|h|h|h|h|h|h|h|h|h|h|h|h|h|h|h|h|h|h|h|h|h|h|h|h|h|h|h|h|h|h
   all_goals first
    | (exfalso; simp [uses, reads, calls, h] at hu; done)
    | (exfalso; simp [calls, h] at hc; done)
    | (simp [uses, reads, calls, h] at hu; simp [y16, h] at h0 ⊢; first | omega | (rcases hu with rfl | rfl <;> simp [ysj]) | (rcases hu with rfl | rfl | rfl <;> simp) | (subst hu; simp [ysj]))
    | (simp [uses, reads, calls, h] at hu; simp [y16, h]; split at hu <;> simp_all; done)
    | (exfalso; simp [uses, reads, calls, lo_f h] at hu; done)
    | (exfalso; simp [uses, reads, calls, hi_f h] at hu; done)
    | skip
   ·by_cases hb : x.b < 0
    ·simp [uses, calls, h, hb] at hu
     exact .inl ⟨hu, by simp [y16, h]⟩
    ·simp [uses, calls, h, hb] at hu
     rcases hu with hu | hu
     ·exact .inl ⟨hu, by simp [y16, h]⟩
     ·have : ¬ x.b = -1 := by omega
      exact .inr (.inl ⟨hu, by simp [y16, h, this]⟩)
   ·by_cases ha : 0 ≤ x.a
    ·simp [uses, calls, h, ha] at hu
     have : ¬ x.a = -1 := by omega
     exact .inl ⟨hu, by simp [y16, h, this]⟩
    ·simp [uses, calls, h, ha] at hu
  rcases key with ⟨rfl, hk⟩ | ⟨rfl, hk⟩ | ⟨rfl, hk⟩ | hk
  ·exact yb3 h2 hk
  ·exact yb3 h3 hk
  ·exact yb3 h4 hk
  ·exact hk.elim
set_option maxHeartbeats 4000000 in
theorem y1j5 {f : Fn} {x : Ins} (h : y4l f x = true) (hd : ¬ defr x = -1) : 0 ≤ defr x ∧ defr x < (lst f.regs).length := by
 simp only [y4l, zc] at h
 obtain ⟨⟨⟨⟨⟨⟨h0, h1⟩, h2⟩, h3⟩, h4⟩, h5⟩, h6⟩ := h
 have key : defr x = x.d ∧ 0 ≤ (y16 x).1 := by
  unfold defr at hd ⊢
  split at hd
  ·rename_i hw
   rw [if_pos hw]
   refine ⟨rfl, ?_⟩
   rcases ydj x.op with h|h|h|h|h|h|h|h|h|h|h|h|h|h|h|h|h|h|h|h|h|h|h|h|h|h|h|h|h|h|h|h|h|h|h
   all_goals first
    | (exfalso; simp [writes, calls, h] at hw; done)
    | (simp [y16, h, ysj, hd]; done)
    | (exfalso; simp [writes, calls, lo_f h] at hw; done)
    | (exfalso; simp [writes, calls, hi_f h] at hw; done)
  ·exact (hd rfl).elim
 rw [key.1]
 exact yb3 h1 key.2
theorem Wf.uses {f : Fn} (w : Wf f) {i : Nat} (hi : i < (lst f.code).length) {u : Int} (hu : u ∈ lst (Go.Vm.uses (y25 f i))) : 0 ≤ u ∧ u < (lst f.regs).length := y16h (w.ins i hi) hu
theorem Wf.def {f : Fn} (w : Wf f) {i : Nat} (hi : i < (lst f.code).length) (hd : 0 ≤ defr (y25 f i)) : defr (y25 f i) < (lst f.regs).length := (y1j5 (w.ins i hi) (by omega)).2
theorem yny {l : List Int} {j a : Int} (h : j ∈ addN l a) : j ∈ l ∨ j = a := by
 unfold addN at h
 split at h
 ·exact .inl h
 ·rw [zt, zn] at h; exact h
theorem Wf.next {f : Fn} (w : Wf f) {i : Nat} (hi : i < (lst f.code).length) {to : Int} (h : to ∈ y42 f i) : 0 ≤ to ∧ to < (lst f.code).length := by
 rw [y42, if_neg (by omega), show ((i : Int)).toNat = i by omega] at h
 have hself : ∀ {j : Int}, j ∈ (if ends (y25 f i).op = true then [] else [(i : Int) + 1]) → 0 ≤ j ∧ j < (lst f.code).length := by
  intro j hj
  split at hj
  ·cases hj
  ·rename_i he
   rw [zn] at hj
   subst hj
   refine ⟨by omega, ?_⟩
   by_cases e : i = (lst f.code).length - 1
   ·subst e; exact (he w.last).elim
   ·omega
 unfold y15x at h
 split at h
 ·rename_i hl
  rcases yny h with h | h
  ·exact hself h
  ·rw [h]; exact w.leads hi hl
 ·exact hself h
theorem yey {i to : Int} : ∀ {rs : List Row} {l : List Int}, to ∈ y4k i rs l → to ∈ l ∨ ∃ r ∈ rs, r.at_ = to
 | [], l, h => .inl h
 | r :: rs, l, h => by
  unfold y4k at h
  split at h
  ·split at h
   ·rcases yny h with h | h
    ·exact .inl h
    ·exact .inr ⟨r, by simp, h.symm⟩
   ·rcases yey h with h | ⟨r', h1, h2⟩
    ·rcases yny h with h | h
     ·exact .inl h
     ·exact .inr ⟨r, by simp, h.symm⟩
    ·exact .inr ⟨r', by simp [h1], h2⟩
  ·rcases yey h with h | ⟨r', h1, h2⟩
   ·exact .inl h
   ·exact .inr ⟨r', by simp [h1], h2⟩
theorem Wf.caught {f : Fn} (w : Wf f) {i to : Int} (h : to ∈ y1z f i) : 0 ≤ to ∧ to < (lst f.code).length := by
 rw [y1z] at h
 split at h
 ·cases h
 ·split at h
  ·rcases yey h with h | ⟨r, h1, h2⟩
   ·cases h
   ·have := w.row h1
    rw [← h2]; exact ⟨this.a0, this.an⟩
  ·cases h
theorem yke {l : List Int} {j : Int} (h : l.Nodup) : (addN l j).Nodup := by
 unfold addN
 split
 ·exact h
 ·rename_i hc
  rw [z2e]
  refine ⟨h, by simp, fun a ha b hb => ?_⟩
  rw [zn] at hb
  subst hb
  rintro rfl
  exact hc (by simpa using ha)
theorem y7r {i : Int} : ∀ {rs : List Row} {l : List Int}, l.Nodup → (y4k i rs l).Nodup
 | [], _, h => h
 | r :: rs, l, h => by
  rw [y4k]
  split
  ·split
   ·exact yke h
   ·exact y7r (yke h)
  ·exact y7r h
theorem Wf.caught_len {f : Fn} (w : Wf f) (i : Int) : (y1z f i).length ≤ 20000 := by
 have hd : (y1z f i).Nodup := by
  rw [y1z]
  split
  ·simp
  ·split
   ·exact y7r (by simp)
   ·simp
 have hs : y1z f i ⊆ (List.range (lst f.code).length).map fun k => ((k : Nat) : Int) := by
  intro to ht
  have := w.caught ht
  rw [z1y]
  exact ⟨to.toNat, z27.2 (by omega), by omega⟩
 have := hd.length_le_of_subset hs
 have hn := w.n2
 rw [zy, List.length_range] at this
 omega
end Go.Vm
namespace Go.Vm
def ybe (f : Fn) (A : List Int) (r : Nat) : Prop := ∃ i, Rch (lst f.code).length (y2fd f r) A i ∧ (r : Int) ∈ ym2 f i
theorem Rch.one {n : Nat} {S : Nat → List Int} {i k : Nat} : Rch n S [(i : Int)] k ↔ (k = i ∧ i < n) ∨ (i < n ∧ Rch n S (S i) k) := by
 constructor
 ·intro h
  induction h with
  | base hj j0 j1 =>
   rw [zn] at hj
   subst hj
   exact .inl ⟨by omega, by omega⟩
  | step h hj j0 j1 ih =>
   rcases ih with ⟨e, hi⟩ | ⟨hi, h'⟩
   ·subst e
    exact .inr ⟨hi, .base hj j0 j1⟩
   ·exact .inr ⟨hi, .step h' hj j0 j1⟩
 ·rintro (⟨e, hi⟩ | ⟨hi, h⟩)
  ·subst e
   have := Rch.base (n := n) (S := S) (A := [(k : Int)]) (j := (k : Int)) (by simp) (by omega) (by omega)
   simpa using this
  ·have hb : Rch n S [(i : Int)] i := by
    have := Rch.base (n := n) (S := S) (A := [(i : Int)]) (j := (i : Int)) (by simp) (by omega) (by omega)
    simpa using this
   induction h with
   | base hj j0 j1 => exact .step hb hj j0 j1
   | step h hj j0 j1 ih => exact .step ih hj j0 j1
theorem Rch.some_ {n : Nat} {S : Nat → List Int} {A : List Int} {k : Nat} : Rch n S A k ↔ ∃ a ∈ A, 0 ≤ a ∧ a < n ∧ Rch n S [a] k := by
 constructor
 ·intro h
  induction h with
  | base hj j0 j1 => exact ⟨_, hj, j0, j1, .base (by simp) j0 j1⟩
  | step h hj j0 j1 ih =>
   obtain ⟨a, ha, a0, a1, h'⟩ := ih
   exact ⟨a, ha, a0, a1, .step h' hj j0 j1⟩
 ·rintro ⟨a, ha, a0, a1, h⟩
  induction h with
  | base hj j0 j1 =>
   rw [zn] at hj
   subst hj
   exact .base ha j0 j1
  | step h hj j0 j1 ih => exact .step ih hj j0 j1
section
variable (f : Fn)
theorem ya6 {A : List Int} {r : Nat} : ybe f A r ↔ ∃ a ∈ A, 0 ≤ a ∧ a < (lst f.code).length ∧ ybe f [a] r := by
 unfold ybe
 constructor
 ·rintro ⟨i, h, hu⟩
  obtain ⟨a, ha, a0, a1, h'⟩ := Rch.some_.1 h
  exact ⟨a, ha, a0, a1, i, h', hu⟩
 ·rintro ⟨a, ha, a0, a1, i, h', hu⟩
  exact ⟨i, Rch.some_.2 ⟨a, ha, a0, a1, h'⟩, hu⟩
theorem y1xq {i r : Nat} (hi : i < (lst f.code).length) : ybe f [(i : Int)] r ↔ (r : Int) ∈ ym2 f i ∨ ybe f (y1z f i) r ∨ (defr (y25 f i) ≠ r ∧ ybe f (y42 f i) r) := by
 have key : ybe f [(i : Int)] r ↔ (r : Int) ∈ ym2 f i ∨ ybe f (y2fd f r i) r := by
  unfold ybe
  constructor
  ·rintro ⟨k, h, hu⟩
   rcases Rch.one.1 h with ⟨e, _⟩ | ⟨_, h'⟩
   ·subst e; exact .inl hu
   ·exact .inr ⟨k, h', hu⟩
  ·rintro (hu | ⟨k, h', hu⟩)
   ·exact ⟨i, Rch.one.2 (.inl ⟨rfl, hi⟩), hu⟩
   ·exact ⟨k, Rch.one.2 (.inr ⟨hi, h'⟩), hu⟩
 rw [key, ya6, ya6, ya6]
 unfold y2fd
 constructor
 ·rintro (h | ⟨a, ha, h⟩)
  ·exact .inl h
  ·rw [zt] at ha
   rcases ha with ha | ha
   ·exact .inr (.inl ⟨a, ha, h⟩)
   ·split at ha
    ·cases ha
    ·rename_i hd
     exact .inr (.inr ⟨hd, a, ha, h⟩)
 ·rintro (h | ⟨a, ha, h⟩ | ⟨hd, a, ha, h⟩)
  ·exact .inl h
  ·exact .inr ⟨a, z1z _ ha, h⟩
  ·refine .inr ⟨a, z22 _ ?_, h⟩
   rw [if_neg hd]; exact ha
structure Tb where
 b : List Ws
 a : List Ws
 h : List Ws
def rowW (l : List Ws) (i : Nat) : Ws := l.getD i []
def joins (l : List Ws) (ts : List Int) (s : Ws) : Ws := ts.foldl (fun s to => y49 s (rowW l to.toNat)) s
def adds (us : List Int) (s : Ws) : Ws := us.foldl (fun s u => addW s u.toNat) s
def ybd (d : Int) (s : Ws) : Ws := if 0 ≤ d then y175 s d.toNat else s
def aftT (t : Tb) (i : Nat) : Ws := joins t.b (y42 f i) (rowW t.a i)
def hanT (t : Tb) (i : Nat) : Ws := joins t.b (y1z f i) (rowW t.h i)
def befT (t : Tb) (i : Nat) : Ws := adds (ym2 f i) (y49 (ybd (defr (y25 f i)) (aftT f t i)) (hanT f t i))
def y55 (t : Tb) (i : Nat) : Tb := ⟨t.b.set i (y49 (rowW t.b i) (befT f t i)), t.a.set i (aftT f t i), t.h.set i (hanT f t i)⟩
def yk8 (t : Tb) (i : Nat) : Bool := yei (rowW t.b i) (befT f t i)
def y3e : Nat → Tb → Tb × Bool
 | 0, t => (t, false)
 | i + 1, t => ((y3e i (y55 f t i)).1, yk8 f t i || (y3e i (y55 f t i)).2)
def ydm : Nat → Tb → Option Tb
 | 0, _ => none
 | k + 1, t => if (y3e f (lst f.code).length t).2 then ydm k (y3e f (lst f.code).length t).1 else some (y3e f (lst f.code).length t).1
structure TbOk (n W : Nat) (t : Tb) : Prop where
 b : t.b.length = n
 a : t.a.length = n
 h : t.h.length = n
 bw : ∀ i, i < n → (rowW t.b i).length = W
 aw : ∀ i, i < n → (rowW t.a i).length = W
 hw : ∀ i, i < n → (rowW t.h i).length = W
theorem y4z {l : List Ws} {i j : Nat} {x : Ws} (hi : i < l.length) : rowW (l.set i x) j = if j = i then x else rowW l j := by
 unfold rowW
 rw [ze, zu]
 by_cases e : j = i
 ·subst e; simp [hi]
 ·rw [if_neg (fun h => e h.symm), if_neg e, ze]
variable {W n : Nat} {l : List Ws}
theorem yit : ∀ (ts : List Int) (s : Ws), s.length = W → (∀ i, i < n → (rowW l i).length = W) → (∀ to ∈ ts, 0 ≤ to ∧ to < n) → (joins l ts s).length = W
 | [], s, hs, _, _ => hs
 | to :: ts, s, hs, hl, ht => by
  have h1 := ht to (by simp)
  refine yit ts _ ?_ hl fun t h => ht t (by simp [h])
  rw [y4q (by rw [hs, hl _ (by omega)]), hs]
theorem yjn : ∀ (ts : List Int) (s : Ws), s.length = W → (∀ i, i < n → (rowW l i).length = W) → (∀ to ∈ ts, 0 ≤ to ∧ to < n) → ∀ r, bit (joins l ts s) r = true ↔ bit s r = true ∨ ∃ to ∈ ts, bit (rowW l to.toNat) r = true
 | [], s, hs, _, _, r => by simp [joins]
 | to :: ts, s, hs, hl, ht, r => by
  have h1 := ht to (by simp)
  have e : s.length = (rowW l to.toNat).length := by rw [hs, hl _ (by omega)]
  have := yjn ts (y49 s (rowW l to.toNat)) (by rw [y4q e, hs]) hl (fun t h => ht t (by simp [h])) r
  have e2 : joins l (to :: ts) s = joins l ts (y49 s (rowW l to.toNat)) := rfl
  rw [e2, this, yba e, z1k]
  simp only [List.mem_cons]
  constructor
  ·rintro ((h | h) | ⟨t, h, h'⟩)
   ·exact .inl h
   ·exact .inr ⟨to, .inl rfl, h⟩
   ·exact .inr ⟨t, .inr h, h'⟩
  ·rintro (h | ⟨t, (rfl | h), h'⟩)
   ·exact .inl (.inl h)
   ·exact .inl (.inr h')
   ·exact .inr ⟨t, h, h'⟩
theorem yzk : ∀ (us : List Int) (s : Ws), (adds us s).length = s.length
 | [], _ => rfl
 | u :: us, s => by
  have := yzk us (addW s u.toNat)
  rw [yn0] at this
  exact this
theorem y112 : ∀ (us : List Int) (s : Ws), (∀ u ∈ us, 0 ≤ u ∧ u.toNat / 64 < s.length) → ∀ r, bit (adds us s) r = true ↔ bit s r = true ∨ ((r : Nat) : Int) ∈ us
 | [], s, _, r => by simp [adds]
 | u :: us, s, h, r => by
  have h1 := h u (by simp)
  have := y112 us (addW s u.toNat) (fun v hv => by rw [yn0]; exact h v (by simp [hv])) r
  have e2 : adds (u :: us) s = adds us (addW s u.toNat) := rfl
  rw [e2, this, y2eu h1.2, z1k, decide_eq_true_eq, zq]
  constructor
  ·rintro ((h | h) | h)
   ·exact .inl h
   ·exact .inr (.inl (by omega))
   ·exact .inr (.inr h)
  ·rintro (h | h | h)
   ·exact .inl (.inl h)
   ·exact .inl (.inr (by omega))
   ·exact .inr h
theorem yam (d : Int) (s : Ws) : (ybd d s).length = s.length := by
 unfold ybd
 split
 ·exact y1op _ _
 ·rfl
theorem y1h1 {d : Int} {s : Ws} (h : 0 ≤ d → d.toNat / 64 < s.length) (r : Nat) : bit (ybd d s) r = true ↔ bit s r = true ∧ d ≠ r := by
 unfold ybd
 split
 ·rename_i hd
  rw [y22k (h hd), zc, decide_eq_true_eq]
  have : r ≠ d.toNat ↔ d ≠ (r : Int) := by omega
  rw [this]
 ·have : d ≠ (r : Int) := by omega
  simp [this]
end
end Go.Vm
