/- Code words: what a function's unit is, in plain words. live.Of: how the table is made. live.Of: one round of the loop that makes the table. live.Of: what it answers. What 'kinds' answers. What 'other' answers; all of 'kinds'. Whether one instruction is well formed: 'right'. 'right', whole. Whether a function is well formed: 'Check': its lists of registers, parameters, rows. live.Of: what it answers. Code words: a call's map on the machine. Code words: the loop over instructions on the machine. -/
import Derived.Test.YtjlbafgbohekfaaNTc
set_option linter.unusedSimpArgs false
set_option linter.unusedVariables false
set_option linter.unusedSectionVars false
namespace Go.Vm
open Cel
structure MapP where
 w : Int
 regs : Option (List Int)
 deriving Inhabited
instance : Cel MapP := ⟨2, fun m => [.int .i64 m.w, slA m.regs], fun _ => rfl, fun m => by cases m with | mk w r => cases r <;> rfl, fun m => by cases m with | mk w r => cases r <;> rfl⟩
@[simp] theorem y2t4 : es MapP = 2 := rfl
structure Un where
 W : Option (List Wd)
 R : Option (List Row)
 M : Option (List MapP)
 N : Option (List Int)
 T : Option (List Tx)
 regs : Int
 args : Int
 ret : Int
instance : Cel Un := ⟨8, fun u => [slA u.W, slA u.R, slA u.M, slA u.N, slA u.T, .int .i64 u.regs, .int .i64 u.args, .int .i64 u.ret], fun _ => rfl, fun u => by simp, fun u => by simp⟩
@[simp] theorem y2v1 : es Un = 8 := rfl
def yjs (f : Fn) (t : Tb) (i : Nat) : Nat → List Int → List Int
 | _, [] => []
 | r, k :: l => if k = 3 ∧ acrM f t i r = true then (r : Int) :: yjs f t i (r + 1) l else yjs f t i (r + 1) l
def y18x (o : Int) : Bool := decide (o = 20) || decide (o = 21) || calls o
structure ES where
 s : BS
 A : List Int
 M : List MapP
def ye9 (f : Fn) (t : Tb) (i : Nat) (x : Ins) (e : ES) : ES :=
 ⟨putM e.s x, e.A ++ [(e.s.W.length : Int)], if y18x x.op then e.M ++ [⟨e.s.W.length, nz (yjs f t i 0 (lst f.regs))⟩] else e.M⟩
def yk0 (f : Fn) (t : Tb) : Nat → List Ins → ES → ES
 | _, [], e => e
 | i, x :: l, e => yk0 f t (i + 1) l (ye9 f t i x e)
def movI (m : Mv) : Ins := ⟨4, m.to, m.fr, 0, 0, 0, 0, [], none⟩
def s0 : BS := ⟨[], [], [], []⟩
def e0 (L : List Mv) : ES := ⟨(L.map movI).foldl putM s0, [], []⟩
def atW (A : List Int) (W : List Wd) (y : Int) : Int := A.getD (W.getD y.toNat default).n.toNat 0
def yic (A : List Int) : List Int → List Wd → List Wd
 | [], W => W
 | y :: r, W => yic A r (W.set y.toNat ⟨wU (atW A W y)⟩)
def rwM (A : List Int) (r : Row) : Row := ⟨A.getD r.f.toNat 0, A.getD r.t.toNat 0, A.getD r.at_.toNat 0, r.c⟩
def nOfF (f : Fn) : Nat := max (lst f.regs).length (lst f.params).length
def endC (f : Fn) (t : Tb) (L : List Mv) : ES := yk0 f t 0 (lst f.code) (e0 L)
def endA (e : ES) : List Int := e.A ++ [(e.s.W.length : Int)]
def yh6 (f : Fn) (t : Tb) (L : List Mv) : Un :=
 ⟨nz (yic (endA (endC f t L)) (endC f t L).s.Y (endC f t L).s.W), nz ((lst f.rows).map (rwM (endA (endC f t L)))), nz (endC f t L).M, nz (endC f t L).s.N, nz (endC f t L).s.T, (nOfF f : Int) + 1, (lst f.params).length, f.ret⟩
structure WayOk (n : Int) (s : BS) : Prop where
 nd : s.Y.Nodup
 ok : ∀ y ∈ s.Y, 0 ≤ y ∧ y.toNat < s.W.length ∧ 0 ≤ (s.W.getD y.toNat default).n ∧ (s.W.getD y.toNat default).n < n
theorem WayOk.adW {n : Int} {s : BS} (h : WayOk n s) (w : Int) : WayOk n (Go.Vm.adW s w) := by
 refine ⟨h.nd, fun y hy => ?_⟩
 obtain ⟨h1, h2, h3, h4⟩ := h.ok y hy
 have e : (s.W ++ [(⟨w⟩ : Wd)]).getD y.toNat default = s.W.getD y.toNat default := by
  rw [ze, ze, zx h2]
 refine ⟨h1, by simp only [Go.Vm.adW, zg]; omega, ?_⟩
 simp only [Go.Vm.adW, e]
 exact ⟨h3, h4⟩
theorem WayOk.adN {n : Int} {s : BS} (h : WayOk n s) (w : Int) : WayOk n (Go.Vm.adN s w) := by
 unfold Go.Vm.adN
 split
 ·exact h
 ·exact ⟨h.nd, h.ok⟩
theorem WayOk.adT {n : Int} {s : BS} (h : WayOk n s) (w : Tx) : WayOk n (Go.Vm.adT s w) := by
 unfold Go.Vm.adT
 split
 ·exact h
 ·exact ⟨h.nd, h.ok⟩
theorem yqa {n : Int} (h0 : 0 ≤ n) (h1 : n < 4294967296) : wU n = n := by
 unfold wU
 have : IntKind.wrap .u32 n = n % 4294967296 := by simp [IntKind.wrap, IntKind.signed, IntKind.bits]
 rw [this]
 omega
theorem WayOk.way {n : Int} {s : BS} (h : WayOk n s) {t : Int} (h0 : 0 ≤ t) (h1 : t < n) (hn : n ≤ 1000000) : WayOk n (wayM s t) := by
 refine ⟨?_, fun y hy => ?_⟩
 ·simp only [wayM, Go.Vm.adW]
  rw [z2e]
  refine ⟨h.nd, by simp, fun a ha b hb => ?_⟩
  rw [zn] at hb
  subst hb
  intro e
  have := (h.ok a ha).2.1
  omega
 ·simp only [wayM, Go.Vm.adW] at hy ⊢
  rw [zt, zn] at hy
  rcases hy with hy | rfl
  ·exact (h.adW (wU t)).ok y hy
  ·refine ⟨by omega, by simp, ?_⟩
   have e : (s.W ++ [(⟨wU t⟩ : Wd)]).getD ((s.W.length : Int)).toNat default = ⟨wU t⟩ := by
    rw [ze]
    simp
   rw [e]
   simp only
   rw [yqa h0 (by omega)]
   exact ⟨h0, h1⟩
theorem WayOk.args {n : Int} (l : List Int) : ∀ {s : BS}, WayOk n s → WayOk n (yhp l s) := by
 induction l with
 | nil => exact fun h => h
 | cons r l ih => exact fun h => ih (h.adW _)
theorem WayOk.put {n : Int} {s : BS} (h : WayOk n s) {x : Ins} (hx : leads x.op = true → 0 ≤ x.t ∧ x.t < n) (hn : n ≤ 1000000) : WayOk n (putM s x) := by
 unfold putM y44
 have h1 := h.adW (y2r x)
 split
 ·exact (h1.adN _).adW _
 split
 ·exact (h1.adT _).adW _
 split
 ·exact h1.adW _
 split
 ·rename_i e
  obtain ⟨a, b⟩ := hx (by rw [leads, e]; rfl)
  exact h1.way a b hn
 split
 ·rename_i e
  obtain ⟨a, b⟩ := hx (by rcases e with e | e <;> rw [leads, e] <;> rfl)
  exact (h1.way a b hn).adW _
 split
 ·exact WayOk.args _ (((h1.adT _).adW _).adW _)
 split
 ·exact WayOk.args _ (((h1.adN _).adW _).adW _)
 ·exact h1
theorem yqy {f : Fn} {t : Tb} {n : Int} (hn : n ≤ 1000000) : ∀ (l : List Ins) (i : Nat) (e : ES), (∀ x ∈ l, leads x.op = true → 0 ≤ x.t ∧ x.t < n) → WayOk n e.s → WayOk n (yk0 f t i l e).s
 | [], _, _, _, h => h
 | x :: l, i, e, hx, h => yqy hn l (i + 1) _ (fun y hy => hx y (z18 _ hy)) (h.put (hx x z1h) hn)
theorem yox {n : Int} (hn : n ≤ 1000000) : ∀ (L : List Mv) (s : BS), WayOk n s → WayOk n ((L.map movI).foldl putM s)
 | [], _, h => h
 | m :: L, s, h => yox hn L _ (h.put (fun e => by cases e) hn)
end Go.Vm
namespace Go.Vm
open Cel
theorem yem {Hc : Heap} {B j W : Nat} (d0 : Hc[B + j]? = some ⟨0, .dead⟩) (hW : W ≤ 1000000) :
  mkSC B (some j) 1 8 [.int .u64 0] (.int .i64 W) (.int .i64 W) Hc = some (.ls (B + j) 1 1 0 W, Hc.set (B + j) (AW 1 (y2m W))) := by
 simp [mkSC, y2k, place, d0]
 refine ⟨by omega, ?_⟩
 show Hc.set (B + j) ⟨_, .arr false false 1 _⟩ = Hc.set (B + j) ⟨_, .arr false false 1 ((List.replicate W (0 : BitVec 64)).map enc)⟩
 rw [List.map_replicate]
 rfl
theorem yb9 {Hc : Heap} {B j : Nat} {v : AV} (hv : y19 v = true) (hc : cellsOf v = [v]) (d0 : Hc[B + j]? = some ⟨0, .dead⟩) :
  yl B (some j) 1 1 [.nils] [(0, v)] Hc = some (.ls (B + j) 1 1 0 1, Hc.set (B + j) ⟨1, .arr false false 1 [[v]]⟩) := by
 simp [yl, y1i, y2k, place, d0, hc, hv]
def nP (B j m : Nat) (p : Nat → Nat × Nat) (i : Nat) : Nat × Nat := if i = m then (B + j, 1) else p i
def rws (W m : Nat) (p : Nat → Nat × Nat) : List (List AV) := (List.range m).map fun i => [.ls (p i).1 (p i).2 1 0 W]
theorem yna (W m B j : Nat) (p : Nat → Nat × Nat) : rws W (m + 1) (nP B j m p) = rws W m p ++ [[.ls (B + j) 1 1 0 W]] := by
 unfold rws
 rw [List.range_succ, z2m]
 congr 1
 ·refine z34 fun i hi => ?_
  rw [z27] at hi
  simp only [nP, if_neg (show ¬ i = m by omega)]
 ·simp [nP]
theorem yih {Hc : Heap} {B j id W : Nat} {r : List AV} (h1 : Hc[id]? = some ⟨1, .arr false false 1 [r]⟩) (d : Hc[B + j]? = some ⟨0, .dead⟩) :
  y1v B (some j) 1 24 .nils (.ls id 1 1 0 1) Hc = some (.ls (B + j) 1 1 0 1, Hc.set (B + j) ⟨1, .arr false false 1 [r]⟩) := by
 have hy : y28 Hc 1 (.ls id 1 1 0 1) = some [r] := by simp [y28, yr, y23, h1]
 unfold y1v
 rw [hy]
 simp [y2k, place, d]
theorem you {Hc : Heap} {B j id qa qg m : Nat} {rows : List (List AV)} {r : List AV} (h1 : Hc[id]? = some ⟨1, .arr false false 1 [r]⟩) (hq : Hc[qa]? = some ⟨qg, .arr false false 1 rows⟩) (hm : rows.length = m) (hl : m ≤ 1000000) :
  y1v B (some j) 1 24 (.ls qa qg 1 0 m) (.ls id 1 1 0 1) Hc = some (.ls qa (qg + 1) 1 0 (m + 1), Hc.set qa ⟨qg + 1, .arr false false 1 (rows ++ [r])⟩) := by
 have hy : y28 Hc 1 (.ls id 1 1 0 1) = some [r] := by simp [y28, yr, y23, h1]
 unfold y1v
 rw [hy]
 simp only [hq]
 rw [if_pos ⟨trivial, trivial, trivial, by omega, by simp only [List.length_singleton]; omega⟩]
 simp only [List.drop_zero, List.length_singleton]
 rw [z2c (by omega)]
def fv (Q : Arr) (k m : Nat) : AV := if m = 0 then .nils else .ls (Q k).1 (Q k).2 1 0 m
structure BRep (f : Fn) (P : Plc) (Q : Arr) (H : Heap) (m : Nat) : Prop where
 box : H[0]? = some (AB f)
 tb : H[1]? = some ⟨1, .arr true false 4 [[fv Q 0 m, fv Q 1 m, fv Q 2 m, .int .i64 (lst f.regs).length]]⟩
 arr : 0 < m → ∀ k, k < 3 → H[(Q k).1]? = some ⟨(Q k).2, .arr false false 1 (rws ((lst f.regs).length / 64 + 1) m (P k))⟩
 row : ∀ k, k < 3 → ∀ i, i < m → H[(P k i).1]? = some (AW (P k i).2 (y2m ((lst f.regs).length / 64 + 1)))
 inj : ∀ k k' i i', k < 3 → k' < 3 → i < m → i' < m → (P k i).1 = (P k' i').1 → k = k' ∧ i = i'
 off : ∀ k k' i, k < 3 → k' < 3 → i < m → (P k i).1 ≠ (Q k').1
 farP : ∀ k i, k < 3 → i < m → 3 ≤ (P k i).1
 farQ : 0 < m → ∀ k, k < 3 → 3 ≤ (Q k).1
 injQ : 0 < m → ∀ k k', k < 3 → k' < 3 → (Q k).1 = (Q k').1 → k = k'
 size : 3 ≤ H.length
theorem BRep.done {f : Fn} {P : Plc} {Q : Arr} {H : Heap} (R : BRep f P Q H (lst f.code).length) (hn : 1 ≤ (lst f.code).length) : LvRep f P Q H (tb0 f) := by
 have hz : ¬ (lst f.code).length = 0 := by omega
 have ht := R.tb
 simp only [fv, if_neg hz] at ht
 refine ⟨R.box, ht, R.arr (by omega), fun k hk i hi => ?_, R.inj, R.off, R.farP, R.farQ (by omega), R.injQ (by omega), R.size, y277⟩
 have : rowW (tk (tb0 f) k) i = y2m ((lst f.regs).length / 64 + 1) := by
  match k, hk with
  | 0, _ => exact yi8 hi
  | 1, _ => exact yi8 hi
  | 2, _ => exact yi8 hi
 rw [this]
 exact R.row k hk i hi
end Go.Vm
namespace Go.Vm
open Cel
theorem ym5 {H : Heap} {a b c d v : AV} (h : H[1]? = some ⟨1, .arr true false 4 [[a, b, c, d]]⟩) (hv : cellsOf v = [v]) (hl : y19 v = true) :
  evSt 1 (.lp 1 1 0 0) v H = some (.tup [], H.set 1 ⟨1, .arr true false 4 [[v, b, c, d]]⟩) ∧ evSt 1 (.lp 1 1 0 1) v H = some (.tup [], H.set 1 ⟨1, .arr true false 4 [[a, v, c, d]]⟩) ∧ evSt 1 (.lp 1 1 0 2) v H = some (.tup [], H.set 1 ⟨1, .arr true false 4 [[a, b, v, d]]⟩) := by
 have hr : yr H 1 1 = some (false, 4, [[a, b, c, d]]) := by simp [yr, y23, h]
 refine ⟨?_, ?_, ?_⟩ <;> (rw [yor, hr]; simp [hv, hl, y1f, y2j, h])
theorem yki {H : Heap} {a b c d : AV} (h : H[1]? = some ⟨1, .arr true false 4 [[a, b, c, d]]⟩) : evLd false 1 (.lp 1 1 0 0) H = some a ∧ evLd false 1 (.lp 1 1 0 1) H = some b ∧ evLd false 1 (.lp 1 1 0 2) H = some c := by
 have hr : yr H 1 1 = some (false, 4, [[a, b, c, d]]) := by simp [yr, y23, h]
 refine ⟨?_, ?_, ?_⟩ <;> (rw [y3z, hr]; rfl)
set_option maxHeartbeats 4000000 in
theorem round {f : Fn} {P : Plc} {Q : Arr} {H : Heap} {m : Nat} (R : BRep f P Q H m) (hm : 0 < m) (hl : m ≤ 1000000) (hR : (lst f.regs).length ≤ 1000000) (v32 v33 : AV) :
  ∃ H' P' Q', ylu (.lp 0 1 0 0) (.int .i64 (lst f.code).length) (.int .i64 (((lst f.regs).length / 64 + 1 : Nat) : Int)) (.lp 1 1 0 0) v32 v33 H = ykx (.lp 0 1 0 0) (.int .i64 (lst f.code).length) (.int .i64 (((lst f.regs).length / 64 + 1 : Nat) : Int)) (.lp 1 1 0 0) v32 v33 H' ∧ BRep f P' Q' H' (m + 1) := by
 simp only [ylu]
 have hz : ¬ m = 0 := by omega
 have nc : ∀ a b c d, yp (.lp a b c d) = some (.lp a b c d) := fun _ _ _ _ => rfl
 have hW : (lst f.regs).length / 64 + 1 ≤ 1000000 := by omega
 generalize hWW : (lst f.regs).length / 64 + 1 = W at *
 have tb := R.tb
 simp only [fv, if_neg hz] at tb
 have a0 := R.arr hm 0 (by omega)
 have a1 := R.arr hm 1 (by omega)
 have a2 := R.arr hm 2 (by omega)
 rw [hWW] at a0 a1 a2
 have b0 := y3m a0
 have b1 := y3m a1
 have b2 := y3m a2
 have f0 := R.farQ hm 0 (by omega)
 have f1 := R.farQ hm 1 (by omega)
 have f2 := R.farQ hm 2 (by omega)
 have n01 : ¬ (Q 0).1 = (Q 1).1 := fun e => by have := R.injQ hm 0 1 (by omega) (by omega) e; omega
 have n02 : ¬ (Q 0).1 = (Q 2).1 := fun e => by have := R.injQ hm 0 2 (by omega) (by omega) e; omega
 have n12 : ¬ (Q 1).1 = (Q 2).1 := fun e => by have := R.injQ hm 1 2 (by omega) (by omega) e; omega
 have hB := R.size
 have hd : ∀ j, j < 9 → (H ++ yj 9)[H.length + j]? = some ⟨0, .dead⟩ := fun j hj => y2si hj
 have ho : ∀ b, b < H.length → (H ++ yj 9)[b]? = H[b]? := fun b hb => y2t5 hb
 have hlen : (H ++ yj 9).length = H.length + 9 := by simp [yj]
 have rl : ∀ p, (rws W m p).length = m := fun p => by simp [rws]
 have row := R.row
 have box := R.box
 generalize hBB : H.length = B at *
 generalize H ++ yj 9 = A0 at *
 have t0 : A0[1]? = some ⟨1, .arr true false 4 [[.ls (Q 0).1 (Q 0).2 1 0 m, .ls (Q 1).1 (Q 1).2 1 0 m, .ls (Q 2).1 (Q 2).2 1 0 m, .int .i64 (lst f.regs).length]]⟩ := by rw [ho 1 (by omega)]; exact tb
 have l0 := (yki t0).1
 -- first list
 have m0 := yem (Hc := A0) (B := B) (j := 0) (W := W) (hd 0 (by omega)) hW
 generalize hA1 : A0.set (B + 0) (AW 1 (y2m W)) = A1 at *
 have o0 := yb9 (Hc := A1) (B := B) (j := 1) (v := .ls (B + 0) 1 1 0 W) rfl rfl (by rw [← hA1, yn (by omega)]; exact hd 1 (by omega))
 generalize hA2 : A1.set (B + 1) ⟨1, .arr false false 1 [[.ls (B + 0) 1 1 0 W]]⟩ = A2 at *
 have p0 := you (Hc := A2) (B := B) (j := 2) (id := B + 1) (m := m) (qa := (Q 0).1) (qg := (Q 0).2) (rows := rws W m (P 0)) (by rw [← hA2, y2e (by rw [← hA1, zh]; omega)]) (by rw [← hA2, ← hA1, yn (by omega), yn (by omega), ho _ b0]; exact a0) (rl _) hl
 rw [← yna] at p0
 generalize hA3 : A2.set (Q 0).1 ⟨(Q 0).2 + 1, .arr false false 1 (rws W (m + 1) (nP B 0 m (P 0)))⟩ = A3 at *
 have t3 : A3[1]? = A0[1]? := by rw [← hA3, ← hA2, ← hA1]; repeat rw [yn (by omega)]
 rw [t0] at t3
 have l1 := (yki t3).2.1
 -- second list
 have d3 : ∀ j, 2 < j → j < 9 → A3[B + j]? = some ⟨0, .dead⟩ := fun j h1 h2 => by
  rw [← hA3, ← hA2, ← hA1]; repeat rw [yn (by omega)]
  exact hd j h2
 have q3 : ∀ b, b < B → b ≠ (Q 0).1 → A3[b]? = H[b]? := fun b hb hne => by
  rw [← hA3, ← hA2, ← hA1]; repeat rw [yn (by omega)]
  exact ho b hb
 have g3 : A3.length = B + 9 := by rw [← hA3, ← hA2, ← hA1]; simp only [zh]; exact hlen
 have m1 := yem (Hc := A3) (B := B) (j := 3) (W := W) (d3 3 (by omega) (by omega)) hW
 generalize hA4 : A3.set (B + 3) (AW 1 (y2m W)) = A4 at *
 have o1 := yb9 (Hc := A4) (B := B) (j := 4) (v := .ls (B + 3) 1 1 0 W) rfl rfl (by rw [← hA4, yn (by omega)]; exact d3 4 (by omega) (by omega))
 generalize hA5 : A4.set (B + 4) ⟨1, .arr false false 1 [[.ls (B + 3) 1 1 0 W]]⟩ = A5 at *
 have p1 := you (Hc := A5) (B := B) (j := 5) (id := B + 4) (m := m) (qa := (Q 1).1) (qg := (Q 1).2) (rows := rws W m (P 1)) (by rw [← hA5, y2e (by rw [← hA4, zh]; omega)]) (by rw [← hA5, ← hA4, yn (by omega), yn (by omega), q3 _ b1 (fun e => n01 e.symm)]; exact a1) (rl _) hl
 rw [← yna] at p1
 generalize hA6 : A5.set (Q 1).1 ⟨(Q 1).2 + 1, .arr false false 1 (rws W (m + 1) (nP B 3 m (P 1)))⟩ = A6 at *
 have t6 : A6[1]? = A3[1]? := by rw [← hA6, ← hA5, ← hA4]; repeat rw [yn (by omega)]
 rw [t3] at t6
 have l2 := (yki t6).2.2
 have d6 : ∀ j, 5 < j → j < 9 → A6[B + j]? = some ⟨0, .dead⟩ := fun j h1 h2 => by
  rw [← hA6, ← hA5, ← hA4]; repeat rw [yn (by omega)]
  exact d3 j (by omega) h2
 have q6 : ∀ b, b < B → b ≠ (Q 0).1 → b ≠ (Q 1).1 → A6[b]? = H[b]? := fun b hb hne hne2 => by
  rw [← hA6, ← hA5, ← hA4]; repeat rw [yn (by omega)]
  exact q3 b hb hne
 have g6 : A6.length = B + 9 := by rw [← hA6, ← hA5, ← hA4]; simp only [zh]; exact g3
 have m2 := yem (Hc := A6) (B := B) (j := 6) (W := W) (d6 6 (by omega) (by omega)) hW
 generalize hA7 : A6.set (B + 6) (AW 1 (y2m W)) = A7 at *
 have o2 := yb9 (Hc := A7) (B := B) (j := 7) (v := .ls (B + 6) 1 1 0 W) rfl rfl (by rw [← hA7, yn (by omega)]; exact d6 7 (by omega) (by omega))
 generalize hA8 : A7.set (B + 7) ⟨1, .arr false false 1 [[.ls (B + 6) 1 1 0 W]]⟩ = A8 at *
 have p2 := you (Hc := A8) (B := B) (j := 8) (id := B + 7) (m := m) (qa := (Q 2).1) (qg := (Q 2).2) (rows := rws W m (P 2)) (by rw [← hA8, y2e (by rw [← hA7, zh]; omega)]) (by rw [← hA8, ← hA7, yn (by omega), yn (by omega), q6 _ b2 (fun e => n02 e.symm) (fun e => n12 e.symm)]; exact a2) (rl _) hl
 rw [← yna] at p2
 generalize hA9 : A8.set (Q 2).1 ⟨(Q 2).2 + 1, .arr false false 1 (rws W (m + 1) (nP B 6 m (P 2)))⟩ = A9 at *
 have t9 : A9[1]? = A6[1]? := by rw [← hA9, ← hA8, ← hA7]; repeat rw [yn (by omega)]
 rw [t6] at t9
 have g9 : A9.length = B + 9 := by rw [← hA9, ← hA8, ← hA7]; simp only [zh]; exact g6
 have x0 := (ym5 (v := .ls (Q 0).1 ((Q 0).2 + 1) 1 0 (m + 1)) t9 rfl rfl).1
 have x1 := (ym5 (H := A9.set 1 ⟨1, .arr true false 4 [[.ls (Q 0).1 ((Q 0).2 + 1) 1 0 (m + 1), .ls (Q 1).1 (Q 1).2 1 0 m, .ls (Q 2).1 (Q 2).2 1 0 m, .int .i64 (lst f.regs).length]]⟩) (v := .ls (Q 1).1 ((Q 1).2 + 1) 1 0 (m + 1)) (y2e (by omega)) rfl rfl).2.1
 rw [z2r] at x1
 have x2 := (ym5 (H := A9.set 1 ⟨1, .arr true false 4 [[.ls (Q 0).1 ((Q 0).2 + 1) 1 0 (m + 1), .ls (Q 1).1 ((Q 1).2 + 1) 1 0 (m + 1), .ls (Q 2).1 (Q 2).2 1 0 m, .int .i64 (lst f.regs).length]]⟩) (v := .ls (Q 2).1 ((Q 2).2 + 1) 1 0 (m + 1)) (y2e (by omega)) rfl rfl).2.2
 rw [z2r] at x2
 refine ⟨A9.set 1 ⟨1, .arr true false 4 [[.ls (Q 0).1 ((Q 0).2 + 1) 1 0 (m + 1), .ls (Q 1).1 ((Q 1).2 + 1) 1 0 (m + 1), .ls (Q 2).1 ((Q 2).2 + 1) 1 0 (m + 1), .int .i64 (lst f.regs).length]]⟩, fun k => nP B (3 * k) m (P k), fun k => ((Q k).1, (Q k).2 + 1), ?_, ?_⟩
 ·have z : ∀ k c, k < 3 → (Q k).1 ≠ B + c := fun k c hk => by
   match k, hk with
   | 0, _ => omega
   | 1, _ => omega
   | 2, _ => omega
  simp only [nc, y9, yk, zd, l0, m0, ye, o0, p0, l1, m1, o1, p1, l2, m2, o2, p2, x0, x1, x2, y2e3, y2gw]
  have z0 : ∀ c, ¬ (Q 0).1 = B + c := fun c => z 0 c (by omega)
  have z1 : ∀ c, ¬ (Q 1).1 = B + c := fun c => z 1 c (by omega)
  have z2 : ∀ c, ¬ (Q 2).1 = B + c := fun c => z 2 c (by omega)
  have y0 : ∀ c, ¬ B + c = (Q 0).1 := fun c e => z 0 c (by omega) e.symm
  have y1 : ∀ c, ¬ B + c = (Q 1).1 := fun c e => z 1 c (by omega) e.symm
  have y2 : ∀ c, ¬ B + c = (Q 2).1 := fun c e => z 2 c (by omega) e.symm
  have w0 : ∀ c, ¬ 1 = B + c := fun c => by omega
  have w1 : ∀ c, ¬ B + c = 1 := fun c => by omega
  have u0 : ¬ (Q 0).1 = 1 := by omega
  have u1 : ¬ (Q 1).1 = 1 := by omega
  have u2 : ¬ (Q 2).1 = 1 := by omega
  have z0' := z0 0
  have z1' := z1 0
  have z2' := z2 0
  have hB1 : ¬ 1 = B := by omega
  have hB0 : ¬ B = 0 := by omega
  have hB2 : ¬ B = 1 := by omega
  rw [z1p] at z0' z1' z2'
  have y0' : ¬ B = (Q 0).1 := fun e => z0' e.symm
  have y1' : ¬ B = (Q 1).1 := fun e => z1' e.symm
  have y2' : ¬ B = (Q 2).1 := fun e => z2' e.symm
  have u0' : ¬ 1 = (Q 0).1 := fun e => u0 e.symm
  have u1' : ¬ 1 = (Q 1).1 := fun e => u1 e.symm
  have u2' : ¬ 1 = (Q 2).1 := fun e => u2 e.symm
  have n10 : ¬ (Q 1).1 = (Q 0).1 := fun e => n01 e.symm
  have n20 : ¬ (Q 2).1 = (Q 0).1 := fun e => n02 e.symm
  have n21 : ¬ (Q 2).1 = (Q 1).1 := fun e => n12 e.symm
  simp [y1o, y3a, meets, z0, z1, z2, y0, y1, y2, w0, w1, u0, u1, u2, u0', u1', u2', z0', z1', z2', y0', y1', y2', hB0, hB1, hB2, n01, n02, n12, n10, n20, n21]
 ·have q9 : ∀ b, b < B → b ≠ (Q 0).1 → b ≠ (Q 1).1 → b ≠ (Q 2).1 → A9[b]? = H[b]? := fun b hb h0 h1 h2 => by
   rw [← hA9, ← hA8, ← hA7]; repeat rw [yn (by omega)]
   exact q6 b hb h0 h1
  have l1' : A1.length = B + 9 := by rw [← hA1, zh]; exact hlen
  have l2' : A2.length = B + 9 := by rw [← hA2, zh]; exact l1'
  have l4' : A4.length = B + 9 := by rw [← hA4, zh]; exact g3
  have l5' : A5.length = B + 9 := by rw [← hA5, zh]; exact l4'
  have l7' : A7.length = B + 9 := by rw [← hA7, zh]; exact g6
  have l8' : A8.length = B + 9 := by rw [← hA8, zh]; exact l7'
  have rQ0 : A9[(Q 0).1]? = some ⟨(Q 0).2 + 1, .arr false false 1 (rws W (m + 1) (nP B 0 m (P 0)))⟩ := by
   rw [← hA9, ← hA8, ← hA7, ← hA6, ← hA5, ← hA4, ← hA3]
   rw [yn (by omega), yn (by omega), yn (by omega), yn (by omega), yn (by omega), yn (by omega), y2e (by omega)]
  have rQ1 : A9[(Q 1).1]? = some ⟨(Q 1).2 + 1, .arr false false 1 (rws W (m + 1) (nP B 3 m (P 1)))⟩ := by
   rw [← hA9, ← hA8, ← hA7, ← hA6]
   rw [yn (by omega), yn (by omega), yn (by omega), y2e (by omega)]
  have rQ2 : A9[(Q 2).1]? = some ⟨(Q 2).2 + 1, .arr false false 1 (rws W (m + 1) (nP B 6 m (P 2)))⟩ := by
   rw [← hA9, y2e (by omega)]
  have rB0 : A9[B + 0]? = some (AW 1 (y2m W)) := by
   rw [← hA9, ← hA8, ← hA7, ← hA6, ← hA5, ← hA4, ← hA3, ← hA2, ← hA1]
   rw [yn (by omega), yn (by omega), yn (by omega), yn (by omega), yn (by omega), yn (by omega), yn (by omega), yn (by omega), y2e (by omega)]
  have rB3 : A9[B + 3]? = some (AW 1 (y2m W)) := by
   rw [← hA9, ← hA8, ← hA7, ← hA6, ← hA5, ← hA4]
   rw [yn (by omega), yn (by omega), yn (by omega), yn (by omega), yn (by omega), y2e (by omega)]
  have rB6 : A9[B + 6]? = some (AW 1 (y2m W)) := by
   rw [← hA9, ← hA8, ← hA7]
   rw [yn (by omega), yn (by omega), y2e (by omega)]
  have pB : ∀ k i, k < 3 → i < m → (P k i).1 < B := fun k i hk hi => by rw [← hBB]; exact y3m (row k hk i hi)
  have qB : ∀ k, k < 3 → (Q k).1 < B := fun k hk => by
   match k, hk with
   | 0, _ => exact b0
   | 1, _ => exact b1
   | 2, _ => exact b2
  have ne1 : ∀ k, k < 3 → (Q k).1 ≠ 1 := fun k hk => by have := R.farQ hm k hk; omega
  refine ⟨?_, ?_, fun _ k hk => ?_, fun k hk i hi => ?_, fun k k' i i' hk hk' hi hi' he => ?_, fun k k' i hk hk' hi => ?_, fun k i hk hi => ?_, fun _ k hk => R.farQ hm k hk, fun _ k k' hk hk' he => R.injQ hm k k' hk hk' he, ?_⟩
  ·rw [yn (by omega), q9 0 (by omega) (by omega) (by omega) (by omega)]; exact box
  ·rw [y2e (by omega)]
   simp only [fv, if_neg (Nat.succ_ne_zero m)]
  ·rw [hWW, yn (fun e => ne1 k hk e.symm)]
   match k, hk with
   | 0, _ => exact rQ0
   | 1, _ => exact rQ1
   | 2, _ => exact rQ2
  ·rw [hWW]
   by_cases e : i = m
   ·simp only [nP, if_pos e]
    rw [yn (by omega)]
    match k, hk with
    | 0, _ => exact rB0
    | 1, _ => exact rB3
    | 2, _ => exact rB6
   ·have hi' : i < m := by omega
    simp only [nP, if_neg e]
    have h3 := R.farP k i hk hi'
    rw [yn (by omega), q9 _ (pB k i hk hi') (R.off k 0 i hk (by omega) hi') (R.off k 1 i hk (by omega) hi') (R.off k 2 i hk (by omega) hi')]
    have := row k hk i hi'
    rw [hWW] at this
    exact this
  ·simp only [nP] at he
   split at he <;> split at he
   ·rename_i e e'
    simp only at he
    exact ⟨by omega, by omega⟩
   ·rename_i e e'
    have := pB k' i' hk' (by omega)
    simp only at he
    omega
   ·rename_i e e'
    have := pB k i hk (by omega)
    simp only at he
    omega
   ·exact R.inj k k' i i' hk hk' (by omega) (by omega) he
  ·simp only [nP]
   split
   ·have := qB k' hk'
    simp only
    omega
   ·exact R.off k k' i hk hk' (by omega)
  ·simp only [nP]
   split
   ·simp only; omega
   ·exact R.farP k i hk (by omega)
  ·rw [zh]; omega
end Go.Vm
namespace Go.Vm
open Cel
def HB0 (f : Fn) : Heap := [AB f, ⟨1, .arr true false 4 [[.nils, .nils, .nils, .int .i64 (lst f.regs).length]]⟩, D0]
def HB1 (f : Fn) (W : Nat) : Heap := [AB f, ⟨1, .arr true false 4 [[.ls 5 1 1 0 1, .ls 8 1 1 0 1, .ls 11 1 1 0 1, .int .i64 (lst f.regs).length]]⟩, D0,
 AW 1 (y2m W), ⟨1, .arr false false 1 [[.ls 3 1 1 0 W]]⟩, ⟨1, .arr false false 1 [[.ls 3 1 1 0 W]]⟩,
 AW 1 (y2m W), ⟨1, .arr false false 1 [[.ls 6 1 1 0 W]]⟩, ⟨1, .arr false false 1 [[.ls 6 1 1 0 W]]⟩,
 AW 1 (y2m W), ⟨1, .arr false false 1 [[.ls 9 1 1 0 W]]⟩, ⟨1, .arr false false 1 [[.ls 9 1 1 0 W]]⟩]
theorem first (f : Fn) (v3 v32 v33 : AV) {W : Nat} (hW : W ≤ 1000000) :
  ylu (.lp 0 1 0 0) v3 (.int .i64 (W : Int)) (.lp 1 1 0 0) v32 v33 (HB0 f) = ykx (.lp 0 1 0 0) v3 (.int .i64 (W : Int)) (.lp 1 1 0 0) v32 v33 (HB1 f W) := by
 have e0 : HB0 f ++ yj 9 = [AB f, ⟨1, .arr true false 4 [[.nils, .nils, .nils, .int .i64 (lst f.regs).length]]⟩, D0, D0, D0, D0, D0, D0, D0, D0, D0, D0] := rfl
 have el : (HB0 f).length = 3 := rfl
 have nc : ∀ a b c d, yp (.lp a b c d) = some (.lp a b c d) := fun _ _ _ _ => rfl
 have m0 := yem (Hc := [AB f, ⟨1, .arr true false 4 [[.nils, .nils, .nils, .int .i64 (lst f.regs).length]]⟩, D0, D0, D0, D0, D0, D0, D0, D0, D0, D0]) (B := 3) (j := 0) (W := W) rfl hW
 have o0 := yb9 (Hc := [AB f, ⟨1, .arr true false 4 [[.nils, .nils, .nils, .int .i64 (lst f.regs).length]]⟩, D0, AW 1 (y2m W), D0, D0, D0, D0, D0, D0, D0, D0]) (B := 3) (j := 1) (v := .ls 3 1 1 0 W) rfl rfl rfl
 have p0 := yih (Hc := [AB f, ⟨1, .arr true false 4 [[.nils, .nils, .nils, .int .i64 (lst f.regs).length]]⟩, D0, AW 1 (y2m W), ⟨1, .arr false false 1 [[.ls 3 1 1 0 W]]⟩, D0, D0, D0, D0, D0, D0, D0]) (B := 3) (j := 2) (id := 4) (W := W) (r := [.ls 3 1 1 0 W]) rfl rfl
 simp only [Nat.reduceAdd, List.set_cons_succ, List.set_cons_zero] at m0 o0 p0
 have m1 := yem (Hc := [AB f, ⟨1, .arr true false 4 [[.nils, .nils, .nils, .int .i64 (lst f.regs).length]]⟩, D0, AW 1 (y2m W), ⟨1, .arr false false 1 [[.ls 3 1 1 0 W]]⟩, ⟨1, .arr false false 1 [[.ls 3 1 1 0 W]]⟩, D0, D0, D0, D0, D0, D0]) (B := 3) (j := 3) (W := W) rfl hW
 have o1 := yb9 (Hc := [AB f, ⟨1, .arr true false 4 [[.nils, .nils, .nils, .int .i64 (lst f.regs).length]]⟩, D0, AW 1 (y2m W), ⟨1, .arr false false 1 [[.ls 3 1 1 0 W]]⟩, ⟨1, .arr false false 1 [[.ls 3 1 1 0 W]]⟩, AW 1 (y2m W), D0, D0, D0, D0, D0]) (B := 3) (j := 4) (v := .ls 6 1 1 0 W) rfl rfl rfl
 have p1 := yih (Hc := [AB f, ⟨1, .arr true false 4 [[.nils, .nils, .nils, .int .i64 (lst f.regs).length]]⟩, D0, AW 1 (y2m W), ⟨1, .arr false false 1 [[.ls 3 1 1 0 W]]⟩, ⟨1, .arr false false 1 [[.ls 3 1 1 0 W]]⟩, AW 1 (y2m W), ⟨1, .arr false false 1 [[.ls 6 1 1 0 W]]⟩, D0, D0, D0, D0]) (B := 3) (j := 5) (id := 7) (W := W) (r := [.ls 6 1 1 0 W]) rfl rfl
 simp only [Nat.reduceAdd, List.set_cons_succ, List.set_cons_zero] at m1 o1 p1
 have m2 := yem (Hc := [AB f, ⟨1, .arr true false 4 [[.nils, .nils, .nils, .int .i64 (lst f.regs).length]]⟩, D0, AW 1 (y2m W), ⟨1, .arr false false 1 [[.ls 3 1 1 0 W]]⟩, ⟨1, .arr false false 1 [[.ls 3 1 1 0 W]]⟩, AW 1 (y2m W), ⟨1, .arr false false 1 [[.ls 6 1 1 0 W]]⟩, ⟨1, .arr false false 1 [[.ls 6 1 1 0 W]]⟩, D0, D0, D0]) (B := 3) (j := 6) (W := W) rfl hW
 have o2 := yb9 (Hc := [AB f, ⟨1, .arr true false 4 [[.nils, .nils, .nils, .int .i64 (lst f.regs).length]]⟩, D0, AW 1 (y2m W), ⟨1, .arr false false 1 [[.ls 3 1 1 0 W]]⟩, ⟨1, .arr false false 1 [[.ls 3 1 1 0 W]]⟩, AW 1 (y2m W), ⟨1, .arr false false 1 [[.ls 6 1 1 0 W]]⟩, ⟨1, .arr false false 1 [[.ls 6 1 1 0 W]]⟩, AW 1 (y2m W), D0, D0]) (B := 3) (j := 7) (v := .ls 9 1 1 0 W) rfl rfl rfl
 have p2 := yih (Hc := [AB f, ⟨1, .arr true false 4 [[.nils, .nils, .nils, .int .i64 (lst f.regs).length]]⟩, D0, AW 1 (y2m W), ⟨1, .arr false false 1 [[.ls 3 1 1 0 W]]⟩, ⟨1, .arr false false 1 [[.ls 3 1 1 0 W]]⟩, AW 1 (y2m W), ⟨1, .arr false false 1 [[.ls 6 1 1 0 W]]⟩, ⟨1, .arr false false 1 [[.ls 6 1 1 0 W]]⟩, AW 1 (y2m W), ⟨1, .arr false false 1 [[.ls 9 1 1 0 W]]⟩, D0]) (B := 3) (j := 8) (id := 10) (W := W) (r := [.ls 9 1 1 0 W]) rfl rfl
 simp only [Nat.reduceAdd, List.set_cons_succ, List.set_cons_zero] at m2 o2 p2
 have l0 := (yki (H := [AB f, ⟨1, .arr true false 4 [[.nils, .nils, .nils, .int .i64 (lst f.regs).length]]⟩, D0, D0, D0, D0, D0, D0, D0, D0, D0, D0]) rfl).1
 have l1 := (yki (H := [AB f, ⟨1, .arr true false 4 [[.nils, .nils, .nils, .int .i64 (lst f.regs).length]]⟩, D0, AW 1 (y2m W), ⟨1, .arr false false 1 [[.ls 3 1 1 0 W]]⟩, ⟨1, .arr false false 1 [[.ls 3 1 1 0 W]]⟩, D0, D0, D0, D0, D0, D0]) rfl).2.1
 have l2 := (yki (H := [AB f, ⟨1, .arr true false 4 [[.nils, .nils, .nils, .int .i64 (lst f.regs).length]]⟩, D0, AW 1 (y2m W), ⟨1, .arr false false 1 [[.ls 3 1 1 0 W]]⟩, ⟨1, .arr false false 1 [[.ls 3 1 1 0 W]]⟩, AW 1 (y2m W), ⟨1, .arr false false 1 [[.ls 6 1 1 0 W]]⟩, ⟨1, .arr false false 1 [[.ls 6 1 1 0 W]]⟩, D0, D0, D0]) rfl).2.2
 have x0 := (ym5 (H := [AB f, ⟨1, .arr true false 4 [[.nils, .nils, .nils, .int .i64 (lst f.regs).length]]⟩, D0, AW 1 (y2m W), ⟨1, .arr false false 1 [[.ls 3 1 1 0 W]]⟩, ⟨1, .arr false false 1 [[.ls 3 1 1 0 W]]⟩, AW 1 (y2m W), ⟨1, .arr false false 1 [[.ls 6 1 1 0 W]]⟩, ⟨1, .arr false false 1 [[.ls 6 1 1 0 W]]⟩, AW 1 (y2m W), ⟨1, .arr false false 1 [[.ls 9 1 1 0 W]]⟩, ⟨1, .arr false false 1 [[.ls 9 1 1 0 W]]⟩]) (v := .ls 5 1 1 0 1) rfl rfl rfl).1
 have x1 := (ym5 (H := [AB f, ⟨1, .arr true false 4 [[.ls 5 1 1 0 1, .nils, .nils, .int .i64 (lst f.regs).length]]⟩, D0, AW 1 (y2m W), ⟨1, .arr false false 1 [[.ls 3 1 1 0 W]]⟩, ⟨1, .arr false false 1 [[.ls 3 1 1 0 W]]⟩, AW 1 (y2m W), ⟨1, .arr false false 1 [[.ls 6 1 1 0 W]]⟩, ⟨1, .arr false false 1 [[.ls 6 1 1 0 W]]⟩, AW 1 (y2m W), ⟨1, .arr false false 1 [[.ls 9 1 1 0 W]]⟩, ⟨1, .arr false false 1 [[.ls 9 1 1 0 W]]⟩]) (v := .ls 8 1 1 0 1) rfl rfl rfl).2.1
 have x2 := (ym5 (H := [AB f, ⟨1, .arr true false 4 [[.ls 5 1 1 0 1, .ls 8 1 1 0 1, .nils, .int .i64 (lst f.regs).length]]⟩, D0, AW 1 (y2m W), ⟨1, .arr false false 1 [[.ls 3 1 1 0 W]]⟩, ⟨1, .arr false false 1 [[.ls 3 1 1 0 W]]⟩, AW 1 (y2m W), ⟨1, .arr false false 1 [[.ls 6 1 1 0 W]]⟩, ⟨1, .arr false false 1 [[.ls 6 1 1 0 W]]⟩, AW 1 (y2m W), ⟨1, .arr false false 1 [[.ls 9 1 1 0 W]]⟩, ⟨1, .arr false false 1 [[.ls 9 1 1 0 W]]⟩]) (v := .ls 11 1 1 0 1) rfl rfl rfl).2.2
 simp only [List.set_cons_succ, List.set_cons_zero] at x0 x1 x2
 rw [ylu, e0, el]
 simp only [nc, y9, yk, zd, Nat.reduceAdd, l0, m0, ye, o0, p0, l1, m1, o1, p1, l2, m2, o2, p2, x0, x1, x2]
 rfl
theorem rep1 (f : Fn) : BRep f (fun k _ => (3 + 3 * k, 1)) (fun k => (5 + 3 * k, 1)) (HB1 f ((lst f.regs).length / 64 + 1)) 1 := by
 refine ⟨rfl, rfl, fun _ k hk => ?_, fun k hk i hi => ?_, fun k k' i i' hk hk' hi hi' he => ⟨by simp only at he; omega, by omega⟩, fun k k' i hk hk' hi => by simp only; omega, fun k i hk hi => by simp only; omega, fun _ k hk => by simp only; omega, fun _ k k' hk hk' he => by simp only at he; omega, by simp [HB1]⟩
 ·match k, hk with
  | 0, _ => rfl
  | 1, _ => rfl
  | 2, _ => rfl
 ·match k, hk with
  | 0, _ => rfl
  | 1, _ => rfl
  | 2, _ => rfl
theorem y1pg {f : Fn} (hn : (lst f.code).length ≤ 20000) (hR : (lst f.regs).length ≤ 20000) : ∀ (d m : Nat) (H : Heap) (P : Plc) (Q : Arr), m + d = (lst f.code).length → 0 < m → BRep f P Q H m →
  ∃ H' P' Q', yhe (.lp 0 1 0 0) (.int .i64 (lst f.code).length) (.int .i64 (((lst f.regs).length / 64 + 1 : Nat) : Int)) (.lp 1 1 0 0) (.int .i64 (lst f.code).length) (.int .i64 (m : Int)) H =
   y0q (.lp 0 1 0 0) (.int .i64 (lst f.code).length) (.lp 1 1 0 0) H' ∧ BRep f P' Q' H' (lst f.code).length := by
 intro d
 induction d with
 | zero =>
  intro m H P Q hm h0 R
  have hm' : m = (lst f.code).length := by omega
  have hc : ¬ ((m : Int) < ((lst f.code).length : Int)) := by omega
  refine ⟨H, P, Q, ?_, by rw [← hm']; exact R⟩
  rw [yec]
  simp only [yrc, yg, y9, hc, decide_false, yp2, y1h]
 | succ d ih =>
  intro m H P Q hm h0 R
  have hlt : m < (lst f.code).length := by omega
  have hc : ((m : Int) < ((lst f.code).length : Int)) := by omega
  have hw := y2x hlt (by omega)
  obtain ⟨H1, P1, Q1, e1, R1⟩ := round R h0 (by omega) (by omega) (.int .i64 (lst f.code).length) (.int .i64 (m : Int))
  obtain ⟨H2, P2, Q2, e2, R2⟩ := ih (m + 1) H1 P1 Q1 (by omega) (by omega) R1
  push_cast at e2
  refine ⟨H2, P2, Q2, ?_, R2⟩
  rw [yec]
  simp only [yrc, yg, y9, hc, decide_true, yp2, y1b]
  rw [e1]
  simp only [ykx, yz, hw, y9]
  exact e2
end Go.Vm
namespace Go.Vm
open Cel
attribute [local simp] yc y38 y1t
@[simp] theorem y2u8 (a b c d : AV) (r : List AV) (h : r.length = 4) : y1f 0 [a, b, c, d] r = [a, b, c, d] := by
 simp [y1f, ← h]
@[simp] theorem y2sm (h : Heap) (a b c d : Int) (o : Bool) : yo h (.tup [.agg [.int .i64 a, .int .i64 b, .int .i64 c, .int .i64 d], .bool o]) = some (exK (a, b, c, d, o)) := rfl
@[simp] theorem y2uv (a b c d : Int) : yq [.int .i64 0, .int .i64 0, .int .i64 0, .int .i64 0] [(0, 1, .int .i64 a), (1, 1, .int .i64 b), (2, 1, .int .i64 c), (3, 1, .int .i64 d)] = some (.agg [.int .i64 a, .int .i64 b, .int .i64 c, .int .i64 d]) := rfl
@[simp] theorem y2th : yq [.int .i64 0, .int .i64 0, .int .i64 0, .int .i64 0] [] = some (.agg [.int .i64 0, .int .i64 0, .int .i64 0, .int .i64 0]) := rfl
@[simp] theorem y2u5 (h : Heap) (a b c : Int) : fz h y1m (.tup [.int .i64 a, .int .i64 b, .int .i64 c]) = some ⟨.tup [.int .i64 a, .int .i64 b, .int .i64 c], true, []⟩ := rfl
@[simp] theorem y2sz (h : Heap) (a b c d : Int) (o : Bool) : fz h y1m (.tup [.agg [.int .i64 a, .int .i64 b, .int .i64 c, .int .i64 d], .bool o]) = some ⟨.tup [.agg [.int .i64 a, .int .i64 b, .int .i64 c, .int .i64 d], .bool o], true, []⟩ := rfl
@[simp] theorem agg4 (a b c d : AV) : y4w true 4 [a, b, c, d] = some (.agg [a, b, c, d]) := rfl
set_option maxHeartbeats 4000000 in
theorem y297 (x : Ins) (h : x.op = 1 ∨ x.op = 2 ∨ x.op = 3 ∨ x.op = 4 ∨ x.op = 7 ∨ x.op = 8 ∨ x.op = 9 ∨ x.op = 10 ∨ x.op = 11 ∨ x.op = 13 ∨ x.op = 14 ∨ x.op = 15 ∨ x.op = 16 ∨ x.op = 17 ∨ x.op = 18 ∨ x.op = 19 ∨ x.op = 20 ∨ x.op = 27 ∨ x.op = 31 ∨ x.op = 32 ∨ x.op = 33) : (yd E).p 47 [.agg (enc x)] = some (exK (y16 x)) := by
 rw [y1cb]
 rcases h with h|h|h|h|h|h|h|h|h|h|h|h|h|h|h|h|h|h|h|h|h <;> simp [h, ygd, yeg, yg5, yg6, yg8, yg1, yg9, yg3, yg2, y97, y8o, y98, y9a, y9k, y9e, y91, y9l, y99, y8k, y96, y8v, y8y, y8m, y9j, y8s, y8u, y8x, y9f, y9i, y73, y8q, y95, y8t, y9g, y9b, y8z, y9h, y94, y9d, y62, y8r, y78, y8n, y9c, y8w, y1o, y3a, meets, ids1, y16]
theorem y2gf (x : Ins) (hs : x.s.length ≤ 9223372036854775807) (h : x.op = 12 ∨ x.op = 21 ∨ x.op = 22) : (yd E).p 47 [.agg (enc x)] = some (exK (y16 x)) := by
 rw [y1cb]
 have ht := y2pe x.s hs
 rcases h with h|h|h <;> simp [h, ht, ygd, yeg, yg5, yg6, yg8, yg1, yg9, yg3, yg2, y97, y8o, y98, y9a, y9k, y9e, y91, y9l, y99, y8k, y96, y8v, y8y, y8m, y9j, y8s, y8u, y8x, y9f, y9i, y73, y8q, y95, y8t, y9g, y9b, y8z, y9h, y94, y9d, y62, y8r, y78, y8n, y9c, y8w, y1o, y3a, meets, ids1, y16]
theorem y2fy (x : Ins) (hn : -9223372036854775808 ≤ x.n ∧ x.n < 9223372036854775808) (h : x.op = 5 ∨ x.op = 6) : (yd E).p 47 [.agg (enc x)] = some (exK (y16 x)) := by
 rw [y1cb]
 have hk := y2ep x.n
 have hw := y1a hn.1 hn.2
 rcases h with h|h
 ·simp [h, hk, hw, ygd, yeg, yg5, yg6, yg8, yg1, yg9, yg3, yg2, y97, y8o, y98, y9a, y9k, y9e, y91, y9l, y99, y8k, y96, y8v, y8y, y8m, y9j, y8s, y8u, y8x, y9f, y9i, y73, y8q, y95, y8t, y9g, y9b, y8z, y9h, y94, y9d, y62, y8r, y78, y8n, y9c, y8w, y1o, y3a, meets, ids1, y16]
 ·by_cases h0 : (numK x.n).1 = 0
  ·simp [h, hk, hw, h0, ygd, yeg, yg5, yg6, yg8, yg1, yg9, yg3, yg2, y97, y8o, y98, y9a, y9k, y9e, y91, y9l, y99, y8k, y96, y8v, y8y, y8m, y9j, y8s, y8u, y8x, y9f, y9i, y73, y8q, y95, y8t, y9g, y9b, y8z, y9h, y94, y9d, y62, y8r, y78, y8n, y9c, y8w, y1o, y3a, meets, ids1, y16]
  ·simp [h, hk, hw, h0, ygd, yeg, yg5, yg6, yg8, yg1, yg9, yg3, yg2, y97, y8o, y98, y9a, y9k, y9e, y91, y9l, y99, y8k, y96, y8v, y8y, y8m, y9j, y8s, y8u, y8x, y9f, y9i, y73, y8q, y95, y8t, y9g, y9b, y8z, y9h, y94, y9d, y62, y8r, y78, y8n, y9c, y8w, y1o, y3a, meets, ids1, y16]
theorem y2bh (x : Ins) (h : x.op = 28) : (yd E).p 47 [.agg (enc x)] = some (exK (y16 x)) := by
 rw [y1cb]
 by_cases h0 : 0 ≤ x.n
 ·simp [h, h0, ygd, yeg, yg5, yg6, yg8, yg1, yg9, yg3, yg2, y97, y8o, y98, y9a, y9k, y9e, y91, y9l, y99, y8k, y96, y8v, y8y, y8m, y9j, y8s, y8u, y8x, y9f, y9i, y73, y8q, y95, y8t, y9g, y9b, y8z, y9h, y94, y9d, y62, y8r, y78, y8n, y9c, y8w, y1o, y3a, meets, ids1, y16]
 ·simp [h, h0, ygd, yeg, yg5, yg6, yg8, yg1, yg9, yg3, yg2, y97, y8o, y98, y9a, y9k, y9e, y91, y9l, y99, y8k, y96, y8v, y8y, y8m, y9j, y8s, y8u, y8x, y9f, y9i, y73, y8q, y95, y8t, y9g, y9b, y8z, y9h, y94, y9d, y62, y8r, y78, y8n, y9c, y8w, y1o, y3a, meets, ids1, y16]
end Go.Vm
namespace Go.Vm
open Cel
attribute [local simp] yc y38 y1t
theorem y21t (x : Ins) (h : x.op = 29) : (yd E).p 51 [.agg (enc x)] = some (exK (y16 x)) := by
 rw [y208]
 by_cases h0 : x.b = -1 <;> by_cases h1 : x.n = 0 <;> simp [h, h0, h1, ysp, ysa, yte, yti, ysf, ytl, yub, yp0, yu1, ygz, ybu, yjo, yht, yip, yjl, yjd, yhk, yje, y1o, y3a, meets, y16]
theorem y22y (x : Ins) (h : x.op = 30) : (yd E).p 51 [.agg (enc x)] = some (exK (y16 x)) := by
 rw [y208]
 by_cases h0 : x.a = -1 <;> simp [h, h0, ysp, ysa, yte, yti, ysf, ytl, yub, yp0, yu1, ygz, ybu, yjo, yht, yip, yjl, yjd, yhk, yje, y1o, y3a, meets, y16]
set_option maxHeartbeats 4000000 in
theorem yo2 (x : Ins) (h : x.op = 23 ∨ x.op = 24 ∨ x.op = 25 ∨ x.op = 26) : (yd E).p 51 [.agg (enc x)] = some (exK (y16 x)) := by
 rw [y208]
 have e1 : ((0 : Int) < ((lst x.args).length : Int)) = (0 < (lst x.args).length) := by simp
 have e2 : (((lst x.args).length : Int) ≤ (21 : Int)) = ((lst x.args).length ≤ 21) := by simp; omega
 by_cases h0 : x.d = -1 <;> by_cases h1 : 0 ≤ x.n <;> by_cases h2 : 0 < (lst x.args).length <;> rcases h with h|h|h|h <;> simp [h, h0, h1, h2, e1, e2, ysp, ysa, yte, yti, ysf, ytl, yub, yp0, yu1, ygz, ybu, yjo, yht, yip, yjl, yjd, yhk, yje, y1o, y3a, meets, y16]
theorem y2ae (x : Ins) (h : x.op < 1 ∨ 33 < x.op) : (yd E).p 51 [.agg (enc x)] = some (exK (y16 x)) := by
 rw [y208, y15n h]
 rcases h with h|h
 ·simp [lo_f h, ysp, ysa, yte, yti, ysf, ytl, yub, yp0, yu1, ygz, ybu, yjo, yht, yip, yjl, yjd, yhk, yje, y1o, y3a, meets]
 ·simp [hi_f h, ysp, ysa, yte, yti, ysf, ytl, yub, yp0, yu1, ygz, ybu, yjo, yht, yip, yjl, yjd, yhk, yje, y1o, y3a, meets]
theorem y2bn (x : Ins) (h : x.op = 29 ∨ x.op = 30 ∨ x.op = 23 ∨ x.op = 24 ∨ x.op = 25 ∨ x.op = 26 ∨ x.op < 1 ∨ 33 < x.op) : (yd E).p 47 [.agg (enc x)] = some (exK (y16 x)) := by
 have ho : (yd E).p 51 [.agg (enc x)] = some (exK (y16 x)) := by
  rcases h with h|h|h|h|h|h|h
  ·exact y21t x h
  ·exact y22y x h
  ·exact yo2 x (.inl h)
  ·exact yo2 x (.inr (.inl h))
  ·exact yo2 x (.inr (.inr (.inl h)))
  ·exact yo2 x (.inr (.inr (.inr h)))
  ·exact y2ae x h
 rw [y1cb]
 generalize y16 x = k at ho
 obtain ⟨a, b, c, d, o⟩ := k
 simp only [exK] at ho
 rcases h with h|h|h|h|h|h|h|h
 iterate 6 (simp [h, ho, ygd, yeg, yg5, yg6, yg8, yg1, yg9, yg3, yg2, y97, y8o, y98, y9a, y9k, y9e, y91, y9l, y99, y8k, y96, y8v, y8y, y8m, y9j, y8s, y8u, y8x, y9f, y9i, y73, y8q, y95, y8t, y9g, y9b, y8z, y9h, y94, y9d, y62, y8r, y78, y8n, y9c, y8w, y1o, y3a, meets])
 ·simp [lo_f h, ho, ygd, yeg, yg5, yg6, yg8, yg1, yg9, yg3, yg2, y97, y8o, y98, y9a, y9k, y9e, y91, y9l, y99, y8k, y96, y8v, y8y, y8m, y9j, y8s, y8u, y8x, y9f, y9i, y73, y8q, y95, y8t, y9g, y9b, y8z, y9h, y94, y9d, y62, y8r, y78, y8n, y9c, y8w, y1o, y3a, meets]
 ·simp [hi_f h, ho, ygd, yeg, yg5, yg6, yg8, yg1, yg9, yg3, yg2, y97, y8o, y98, y9a, y9k, y9e, y91, y9l, y99, y8k, y96, y8v, y8y, y8m, y9j, y8s, y8u, y8x, y9f, y9i, y73, y8q, y95, y8t, y9g, y9b, y8z, y9h, y94, y9d, y62, y8r, y78, y8n, y9c, y8w, y1o, y3a, meets]
theorem y2di (x : Ins) (hn : -9223372036854775808 ≤ x.n ∧ x.n < 9223372036854775808) (hs : x.s.length ≤ 9223372036854775807) : (yd E).p 47 [.agg (enc x)] = some (exK (y16 x)) := by
 by_cases h1 : x.op = 1 ∨ x.op = 2 ∨ x.op = 3 ∨ x.op = 4 ∨ x.op = 7 ∨ x.op = 8 ∨ x.op = 9 ∨ x.op = 10 ∨ x.op = 11 ∨ x.op = 13 ∨ x.op = 14 ∨ x.op = 15 ∨ x.op = 16 ∨ x.op = 17 ∨ x.op = 18 ∨ x.op = 19 ∨ x.op = 20 ∨ x.op = 27 ∨ x.op = 31 ∨ x.op = 32 ∨ x.op = 33
 ·exact y297 x h1
 by_cases h2 : x.op = 12 ∨ x.op = 21 ∨ x.op = 22
 ·exact y2gf x hs h2
 by_cases h3 : x.op = 5 ∨ x.op = 6
 ·exact y2fy x hn h3
 by_cases h4 : x.op = 28
 ·exact y2bh x h4
 exact y2bn x (by omega)
end Go.Vm
namespace Go.Vm
open Cel
attribute [local simp] yc y38 y1t
abbrev HR (f : Fn) (x : Ins) (a b c d : Int) : Heap := [⟨1, .arr true false 5 [enc f]⟩, ⟨1, .arr true false 9 [enc x]⟩, ⟨1, .arr true false 4 [[.int .i64 a, .int .i64 b, .int .i64 c, .int .i64 d]]⟩]
abbrev P0 : AV := .lp 0 1 0 0
abbrev P1 : AV := .lp 1 1 0 0
abbrev P2 : AV := .lp 2 1 0 0
theorem yce {f : Fn} {r : Int} (h : inR (lst f.regs) r = true) : y10 1 (slA f.regs) (.int .i64 r) = some (.rp [.int .i64 (regK (lst f.regs) r)]) := by
 obtain ⟨h0, h1, h2⟩ := y2f8 h
 exact ywh h0 h2 .i64
theorem yug (f : Fn) (x : Ins) (a b c d : Int) (i : Nat) (w r : Int) (v26 : AV) (hi : i < 4) (hw : [a, b, c, d][i]? = some w) :
  ydf P0 P1 P2 (.int .i64 i) (.int .i64 r) v26 (.int .i64 i) (HR f x a b c d) =
   if y34 (lst f.regs) w r then ypo P0 P1 P2 v26 (.int .i64 i) (HR f x a b c d) else some ⟨.bool false, [], true, [], []⟩ := by
 have e1 : yn8 4 1 P2 (.int .i64 i) = some (.lp 2 1 0 i) := by
  have : ((i : Int) < (4 : Int)) := by omega
  simp [yn8, this]
 have e2 : ∀ f x, evLd false 1 (.lp 2 1 0 i) (HR f x a b c d) = some (.int .i64 w) := by
  intro f x
  simp only [y3z]
  have : (yr (HR f x a b c d) 2 1) = some (false, 4, [[.int .i64 a, .int .i64 b, .int .i64 c, .int .i64 d]]) := rfl
  rw [this]
  simp only [List.getElem?_cons_zero, y2s]
  match i, hi, hw with
  | 0, _, hw => simp at hw; simp [hw]
  | 1, _, hw => simp at hw; simp [hw]
  | 2, _, hw => simp at hw; simp [hw]
  | 3, _, hw => simp at hw; simp [hw]
 have e2 := e2 f x
 by_cases hw0 : w < 0
 ·simp [ydf, e1, e2, y34, hw0]
 by_cases h0 : r < 0
 ·have : ¬ 0 ≤ r := by omega
  simp [ydf, yju, e1, e2, y34, hw0, h0, inR, this]
 by_cases h1 : r < ((lst f.regs).length : Int)
 ·have h0' : 0 ≤ r := by omega
  have h1' : ¬ ((lst f.regs).length : Int) ≤ r := by omega
  have hin : inR (lst f.regs) r = true := by simp [inR, h0', h1]
  have hr := yce hin
  by_cases h2 : 0 < w
  ·have h2' : ¬ w ≤ 0 := by omega
   by_cases h3 : regK (lst f.regs) r = w
   ·simp [ydf, yju, e1, e2, y34, hw0, h0, h1', h2, h2', hin, hr, h3]
   ·simp [ydf, yju, e1, e2, y34, hw0, h0, h1', h2, h2', hin, hr, h3]
  ·have h2' : w ≤ 0 := by omega
   simp [ydf, yju, e1, e2, y34, hw0, h0, h1', h2, h2', hin]
 ·have h1' : ((lst f.regs).length : Int) ≤ r := by omega
  simp [ydf, yju, e1, e2, y34, hw0, h0, h1', h1, inR]
theorem y15t (f : Fn) (x : Ins) (a b c d : Int) (h1 : x.op = 1 → inR (lst f.regs) x.d = true) (h4 : x.op = 4 → inR (lst f.regs) x.d = true ∧ inR (lst f.regs) x.a = true) (h7 : x.op = 7 → inR (lst f.regs) x.a = true)
  (h30 : x.op = 30 → x.a = -1 ∨ inR (lst f.regs) x.a = true) :
  y9o P0 P1 (HR f x a b c d) = some ⟨.bool (y4s (lst f.regs) f.ret (lst f.code).length x), [], true, [], []⟩ := by
 by_cases o1 : x.op = 1
 ·have hr := yce (h1 o1)
  by_cases k3 : regK (lst f.regs) x.d = 3
  ·simp [y9o, y4s, o1, hr, k3]
  ·by_cases k2 : regK (lst f.regs) x.d = 2
   ·simp [y9o, y4s, o1, hr, k2]
   ·simp [y9o, y4s, o1, hr, k2, k3]
 by_cases o4 : x.op = 4
 ·have hr := yce (h4 o4).1
  have hr2 := yce (h4 o4).2
  simp [y9o, y4s, o4, hr, hr2]
 by_cases o7 : x.op = 7
 ·have hr := yce (h7 o7)
  simp [y9o, y4s, o7, hr]
 by_cases o30 : x.op = 30
 ·by_cases ha : x.a = -1
  ·by_cases hz : f.ret = 0
   ·simp [y9o, y4s, o30, ha, hz]
   ·simp [y9o, y4s, o30, ha, hz]
  ·have hr := yce ((h30 o30).resolve_left ha)
   by_cases hz : f.ret = 0
   ·simp [y9o, y4s, o30, ha, hz]
   ·simp [y9o, y4s, o30, ha, hz, hr]
 ·cases hl : leads x.op with
  | false => simp [y9o, y1gs, y4s, o1, o4, o7, o30, hl]
  | true =>
   by_cases ht : 0 ≤ x.t
   ·simp [y9o, y1gs, y4s, o1, o4, o7, o30, hl, ht]
   ·simp [y9o, y1gs, y4s, o1, o4, o7, o30, hl, ht]
end Go.Vm
namespace Go.Vm
open Cel
attribute [local simp] yc y38 y1t
theorem yqi (f : Fn) (x : Ins) (a b c d : Int) (i : Nat) (r : Int) (v63 v64 : AV) :
  yiq P0 P1 (.int .i64 i) (.int .i64 r) v63 v64 (.int .i64 i) (HR f x a b c d) =
   if inR (lst f.regs) r && (!decide (i = 0) || !(decide (x.op = 24) || decide (x.op = 25)) || decide (regK (lst f.regs) r = 3)) then y1pi P0 P1 v63 v64 (.int .i64 i) (HR f x a b c d) else some ⟨.bool false, [], true, [], []⟩ := by
 by_cases h0 : r < 0
 ·have : ¬ 0 ≤ r := by omega
  simp [yiq, h0, inR, this]
 by_cases h1 : r < ((lst f.regs).length : Int)
 ·have h0' : 0 ≤ r := by omega
  have h1' : ¬ ((lst f.regs).length : Int) ≤ r := by omega
  have hin : inR (lst f.regs) r = true := by simp [inR, h0', h1]
  have hr := yce hin
  by_cases hi : i = 0
  ·subst hi
   by_cases o1 : x.op = 24
   ·by_cases h3 : regK (lst f.regs) r = 3
    ·simp [yiq, h0, h1', hin, hr, o1, h3]
    ·simp [yiq, h0, h1', hin, hr, o1, h3]
   ·by_cases o2 : x.op = 25
    ·by_cases h3 : regK (lst f.regs) r = 3
     ·simp [yiq, h0, h1', hin, hr, o2, h3]
     ·simp [yiq, h0, h1', hin, hr, o2, h3]
    ·simp [yiq, h0, h1', hin, o1, o2]
  ·have hi' : ¬ ((i : Int) = 0) := by omega
   simp [yiq, h0, h1', hin, hi, hi']
 ·have h1' : ((lst f.regs).length : Int) ≤ r := by omega
  simp [yiq, h0, h1', h1, inR]
theorem y16a (f : Fn) (x : Ins) (a b c d : Int) (T : Bool) (hc : calls x.op = true) (hl : (lst x.args).length ≤ 9223372036854775807) (hT : y9o P0 P1 (HR f x a b c d) = some ⟨.bool T, [], true, [], []⟩) :
  ∀ (k i : Nat), i + k = (lst x.args).length → 0 < i →
  yjc P0 P1 (slA x.args) (.int .i64 (lst x.args).length) (.int .i64 i) (HR f x a b c d) = some ⟨.bool (((lst x.args).drop i).all (inR (lst f.regs)) && T), [], true, [], []⟩ := by
 intro k
 induction k with
 | zero =>
  intro i hi _
  have e1 : (lst x.args).drop i = [] := z1b (by omega)
  have hn : ¬ ((i : Int) < ((lst x.args).length : Int)) := by omega
  rw [yj9, e1]
  simp [yj2, yhm, hn, hT]
 | succ k ih =>
  intro i hi h0
  have hlt : i < (lst x.args).length := by omega
  have hn : ((i : Int) < ((lst x.args).length : Int)) := by omega
  have e1 : ((lst x.args).drop i).all (inR (lst f.regs)) = (inR (lst f.regs) (lst x.args)[i] && ((lst x.args).drop (i + 1)).all (inR (lst f.regs))) := by rw [zk hlt, z2w]
  have ih := ih (i + 1) (by omega) (by omega)
  push_cast at ih
  have k1 := y3j (o := x.args) (i := i) (z9 hlt) .i64
  have hz : ¬ i = 0 := by omega
  rw [yj9, e1]
  simp only [yj2, yhm, yg, y9, hn, decide_true, y1b]
  simp only [y1d8, k1, y9, y2q, y2s, List.head?_cons]
  simp only [y18n]
  simp only [y3z]
  simp only [yob, ygq]
  simp only [List.getElem?_cons_zero, List.drop_zero, yeh, y9]
  simp only [yc, yt6, Option.isSome_none, z30, z28, z3r, if_true, y38, ym, y64, y1k, yel, y1t, ynw, ye, z2x]
  simp only [y2a, y9, hc, z1w, y1h, yqi]
  cases inR (lst f.regs) (lst x.args)[i]
  ·simp
  ·simp [hz, y1pi, y2x hlt hl, ih]
theorem y179 (f : Fn) (x : Ins) (a b c d : Int) (T : Bool) (hl : (lst x.args).length ≤ 9223372036854775807) (hT : y9o P0 P1 (HR f x a b c d) = some ⟨.bool T, [], true, [], []⟩) :
  yrr P0 P1 (HR f x a b c d) = some ⟨.bool (ymm (lst f.regs) x && T), [], true, [], []⟩ := by
 have e0 : yrr P0 P1 (HR f x a b c d) = yjc P0 P1 (slA x.args) (.int .i64 (lst x.args).length) (.int .i64 0) (HR f x a b c d) := by simp [yrr]
 rw [e0, yj9]
 cases ha : lst x.args with
 | nil => simp [yj2, yhm, hT, ymm, yt0, ha]
 | cons r rest =>
  have k1 := y3j (o := x.args) (i := 0) (x := r) (by rw [ha]; rfl) .i64
  have k1 : y10 1 (slA x.args) (.int .i64 0) = some (.rp [.int .i64 r]) := k1
  have hn : ((0 : Int) < ((lst x.args).length : Int)) := by rw [ha]; simp
  have hra := yqi f x a b c d 0 r (slA x.args) (.int .i64 (lst x.args).length)
  simp only [Int.ofNat_zero, decide_true, z1w, z1x] at hra
  rw [← ha]
  cases hc : calls x.op with
  | false =>
   simp only [yj2, yhm, yg, y9, hn, decide_true, y1b]
   simp only [y1d8, k1, y9, y2q, y2s, List.head?_cons]
   simp only [y18n]
   simp only [y3z]
   simp only [yob, ygq]
   simp only [List.getElem?_cons_zero, List.drop_zero, yeh, y9]
   simp only [yc, yt6, Option.isSome_none, z30, z28, z3r, if_true, y38, ym, y64, y1k, yel, y1t, ynw, ye, z2x]
   simp only [y2a, y9, hc, z28, y1b, hT, ymm, z2x, z23]
  | true =>
   have hlp := y16a f x a b c d T hc hl hT rest.length 1 (by rw [ha]; simp; omega) (by omega)
   have hd : (lst x.args).drop 1 = rest := by rw [ha]; rfl
   rw [hd] at hlp
   have hlp : yjc P0 P1 (slA x.args) (.int .i64 (lst x.args).length) (.int .i64 1) (HR f x a b c d) = _ := hlp
   simp only [yj2, yhm, yg, y9, hn, decide_true, y1b]
   simp only [y1d8, k1, y9, y2q, y2s, List.head?_cons]
   simp only [y18n]
   simp only [y3z]
   simp only [yob, ygq]
   simp only [List.getElem?_cons_zero, List.drop_zero, yeh, y9]
   simp only [yc, yt6, Option.isSome_none, z30, z28, z3r, if_true, y38, ym, y64, y1k, yel, y1t, ynw, ye, z2x]
   simp only [y2a, y9, hc, z1w, y1h, hra]
   simp only [ymm, yt0, ha, List.all_cons]
   have hw : IntKind.wrap .i64 ((0 : Int) + 1) = 1 := y1a (n := 1) (by omega) (by omega)
   generalize (!(decide (x.op = 24) || decide (x.op = 25)) || decide (regK (lst f.regs) r = 3)) = B
   have hw2 : IntKind.wrap .i64 (1 : Int) = 1 := y1a (n := 1) (by omega) (by omega)
   cases inR (lst f.regs) r with
   | false => cases B <;> simp [hc]
   | true =>
    cases B with
    | false => simp [hc]
    | true =>
     simp only [z3r, if_true, y1pi, yz, y9]
     rw [show IntKind.wrap .i64 ((0 : Int) + 1) = 1 from hw]
     rw [← ha, hlp]
     simp [hc]
theorem y1h3 (x : Ins) : (x.op = 1 → (y16 x).1 = 0) ∧ (x.op = 4 → (y16 x).1 = 0 ∧ (y16 x).2.1 = 0) ∧ (x.op = 7 → (y16 x).2.1 = 0) ∧ (x.op = 30 → x.a = -1 ∨ (y16 x).2.1 = 0) := by
 refine ⟨fun h => ?_, fun h => ?_, fun h => ?_, fun h => ?_⟩ <;> simp [y16, h]
 by_cases ha : x.a = -1 <;> simp [ha]
theorem ydv {R : List Int} {w r : Int} (h : y34 R w r = true) (hw : w = 0) : inR R r = true := by
 subst hw
 simpa [y34] using h
set_option maxHeartbeats 1000000 in
theorem y2ew (f : Fn) (x : Ins) (hn : -9223372036854775808 ≤ x.n ∧ x.n < 9223372036854775808) (hs : x.s.length ≤ 9223372036854775807) (hl : (lst x.args).length ≤ 9223372036854775807) :
  (yd E).p 63 [.agg (enc f), .agg (enc x)] = some ⟨.bool (y4l f x), [], true, [], []⟩ := by
 have hk := y2di x hn hs
 obtain ⟨q1, q4, q7, q30⟩ := y1h3 x
 rw [y2rw]
 have red : ∀ X : Option (Ex AV), y4l f x = y4l f x → True := fun _ _ => trivial
 have e0 : ypw (.agg (enc f)) (.agg (enc x)) [⟨0, .dead⟩, ⟨0, .dead⟩, ⟨0, .dead⟩] =
   if (y16 x).2.2.2.2 = true then ycd P0 P1 P2 (.agg [.int .i64 x.d, .int .i64 x.a, .int .i64 x.b, .int .i64 x.c]) (.int .i64 0) (HR f x (y16 x).1 (y16 x).2.1 (y16 x).2.2.1 (y16 x).2.2.2.1) else some ⟨.bool false, [], true, [], []⟩ := by
  unfold exK at hk
  generalize y16 x = k at *
  obtain ⟨a, b, c, d, o⟩ := k
  simp only at hk ⊢
  cases o with
  | true => simp [ypw, yyb, y146, y1qu, hk]
  | false => simp [ypw, yyb, y146, hk]
 rw [e0, y4l]
 cases hok : (y16 x).2.2.2.2 with
 | false => simp
 | true =>
  simp only [if_true, z23]
  have step : ∀ (i : Nat) (w r : Int), i < 4 → [(y16 x).1, (y16 x).2.1, (y16 x).2.2.1, (y16 x).2.2.2.1][i]? = some w → [x.d, x.a, x.b, x.c][i]? = some r →
    ycd P0 P1 P2 (.agg [.int .i64 x.d, .int .i64 x.a, .int .i64 x.b, .int .i64 x.c]) (.int .i64 i) (HR f x (y16 x).1 (y16 x).2.1 (y16 x).2.2.1 (y16 x).2.2.2.1) =
    if y34 (lst f.regs) w r then ycd P0 P1 P2 (.agg [.int .i64 x.d, .int .i64 x.a, .int .i64 x.b, .int .i64 x.c]) (.int .i64 (i + 1 : Nat)) (HR f x (y16 x).1 (y16 x).2.1 (y16 x).2.2.1 (y16 x).2.2.2.1) else some ⟨.bool false, [], true, [], []⟩ := by
   intro i w r hi hw hr
   have hc : ((i : Int) < (4 : Int)) := by omega
   have hv : yo9 false 4 1 (.agg [.int .i64 x.d, .int .i64 x.a, .int .i64 x.b, .int .i64 x.c]) (.int .i64 i) = some (.int .i64 r) := by
    match i, hi, hr with
    | 0, _, hr => simp at hr; simp [yo9, hr]
    | 1, _, hr => simp at hr; simp [yo9, hr]
    | 2, _, hr => simp at hr; simp [yo9, hr]
    | 3, _, hr => simp at hr; simp [yo9, hr]
   have hw2 : IntKind.wrap .i64 ((i : Int) + 1) = ((i + 1 : Nat) : Int) := by rw [y1a] <;> omega
   rw [ykr]
   simp only [y12w, yxm, yg, y9, hc, decide_true, y1b]
   simp only [y1mz, hv, y9]
   rw [yug f x _ _ _ _ i w r _ hi hw]
   simp only [ypo, yz, y9, hw2]
  have s0 := step 0 _ _ (by omega) rfl rfl
  have s1 := step 1 _ _ (by omega) rfl rfl
  have s2 := step 2 _ _ (by omega) rfl rfl
  have s3 := step 3 _ _ (by omega) rfl rfl
  simp only [Int.ofNat_zero] at s0
  rw [s0]
  cases f0 : y34 (lst f.regs) (y16 x).1 x.d with
  | false => simp
  | true =>
   simp only [if_true, z23]
   rw [s1]
   cases f1 : y34 (lst f.regs) (y16 x).2.1 x.a with
   | false => simp
   | true =>
    simp only [if_true, z23]
    rw [s2]
    cases f2 : y34 (lst f.regs) (y16 x).2.2.1 x.b with
    | false => simp
    | true =>
     simp only [if_true, z23]
     rw [s3]
     cases f3 : y34 (lst f.regs) (y16 x).2.2.2.1 x.c with
     | false => simp
     | true =>
      simp only [if_true, z23]
      have ht := y15t f x (y16 x).1 (y16 x).2.1 (y16 x).2.2.1 (y16 x).2.2.2.1 (fun h => ydv f0 (q1 h)) (fun h => ⟨ydv f0 (q4 h).1, ydv f1 (q4 h).2⟩) (fun h => ydv f1 (q7 h)) (fun h => (q30 h).imp id fun h => ydv f1 h)
      rw [← y179 f x _ _ _ _ _ hl ht]
      rw [ykr]
      simp [y12w, yxm]
end Go.Vm
namespace Go.Vm
open Cel
attribute [local simp] yc y38 y1t
abbrev HC (f : Fn) (o1 o2 : AO) : Heap := [⟨1, .arr true false 5 [enc f]⟩, o1, o2]
abbrev E80 : Option (Ex AV) := some ⟨.int .i64 80, [], true, [], []⟩
abbrev E0 : Option (Ex AV) := some ⟨.int .i64 0, [], true, [], []⟩
theorem y17g (f : Fn) (o1 : AO) (n : Int) (hn : n = (lst f.code).length) (hl : (lst f.rows).length ≤ 9223372036854775807) : ∀ (d i : Nat) (o2 : AO), i + d = (lst f.rows).length →
  ym7 P0 (.int .i64 n) (slA f.rows) (.int .i64 (lst f.rows).length) (.int .i64 i) (HC f o1 o2) = if ((lst f.rows).drop i).all (yak (lst f.code)) then E0 else E80 := by
 intro d
 induction d with
 | zero =>
  intro i o2 hi
  have e1 : (lst f.rows).drop i = [] := z1b (by omega)
  have hn : ¬ ((i : Int) < ((lst f.rows).length : Int)) := by omega
  rw [yp6, e1]
  simp [y23f, y1wj, y2cy, hn]
 | succ d ih =>
  intro i o2 hi
  have hlt : i < (lst f.rows).length := by omega
  have hc : ((i : Int) < ((lst f.rows).length : Int)) := by omega
  have k1 := yuf (o := f.rows) (i := i) (z9 hlt) .i64
  rw [yp6]
  have e1 : ((lst f.rows).drop i).all (yak (lst f.code)) = (yak (lst f.code) (lst f.rows)[i] && ((lst f.rows).drop (i + 1)).all (yak (lst f.code))) := by rw [zk hlt, z2w]
  rw [e1]
  generalize hr : (lst f.rows)[i] = r at *
  have ih := fun o2 => ih (i + 1) o2 (by omega)
  push_cast at ih
  subst hn
  simp only [y23f, y1wj, yg, y9, hc, decide_true, y1b]
  by_cases h1 : r.f < 0
  ·simp [yn9, k1, yak, h1]
  by_cases h2 : r.t ≤ r.f
  ·simp [yn9, k1, yak, h1, h2]
  by_cases h3 : ((lst f.code).length : Int) < r.t
  ·simp [yn9, k1, yak, h1, h2, h3]
  by_cases h4 : r.at_ < 0
  ·simp [yn9, k1, yak, h1, h2, h3, h4]
  by_cases h5 : ((lst f.code).length : Int) ≤ r.at_
  ·simp [yn9, k1, yak, h1, h2, h3, h4, h5]
  ·have hx : r.at_.toNat < (lst f.code).length := by omega
   have k2 := ye1 (o := f.code) (n := r.at_) (by omega) (z9 hx) .i64
   have hg : (lst f.code).getD r.at_.toNat default = (lst f.code)[r.at_.toNat] := by rw [ze, z9 hx]; rfl
   by_cases h6 : ((lst f.code)[r.at_.toNat]).op = 32
   ·simp [yn9, k1, yak, h1, h2, h3, h4, h5, k2, h6, hx, y2gv, y2x hlt hl, ih]
   ·simp [yn9, k1, yak, h1, h2, h3, h4, h5, k2, h6, hx]
theorem y16j (f : Fn) (o1 o2 : AO) (n : Int) (hl : (lst f.regs).length ≤ 9223372036854775807) : ∀ (d i : Nat), i + d = (lst f.regs).length →
  yer P0 (.int .i64 n) (slA f.regs) (.int .i64 (lst f.regs).length) (.int .i64 i) (HC f o1 o2) = if ((lst f.regs).drop i).all (fun k => decide (1 ≤ k) && decide (k ≤ 3)) then yp5 P0 (.int .i64 n) (HC f o1 o2) else E80 := by
 intro d
 induction d with
 | zero =>
  intro i hi
  have e1 : (lst f.regs).drop i = [] := z1b (by omega)
  have hn : ¬ ((i : Int) < ((lst f.regs).length : Int)) := by omega
  rw [ylz, e1]
  simp [y13k, yyr, hn]
 | succ d ih =>
  intro i hi
  have hlt : i < (lst f.regs).length := by omega
  have hc : ((i : Int) < ((lst f.regs).length : Int)) := by omega
  have k1 := y3j (o := f.regs) (i := i) (z9 hlt) .i64
  have e1 : ((lst f.regs).drop i).all (fun k => decide (1 ≤ k) && decide (k ≤ 3)) = ((decide (1 ≤ (lst f.regs)[i]) && decide ((lst f.regs)[i] ≤ 3)) && ((lst f.regs).drop (i + 1)).all (fun k => decide (1 ≤ k) && decide (k ≤ 3))) := by
   rw [zk hlt, z2w]
  rw [ylz, e1]
  generalize hr : (lst f.regs)[i] = r at *
  have ih := ih (i + 1) (by omega)
  push_cast at ih
  simp only [y13k, yyr, yg, y9, hc, decide_true, y1b]
  by_cases h1 : r < 1
  ·have : ¬ 1 ≤ r := by omega
   simp [yrz, k1, h1, this]
  by_cases h2 : 3 < r
  ·have : ¬ r ≤ 3 := by omega
   simp [yrz, k1, h1, h2, this]
  ·have a1 : 1 ≤ r := by omega
   have a2 : r ≤ 3 := by omega
   simp [yrz, k1, h1, h2, a1, a2, y1ob, y2x hlt hl, ih]
theorem yrt (f : Fn) (o1 o2 : AO) (n : Int) (hl : (lst f.params).length ≤ 9223372036854775807) : ∀ (d i : Nat), i + d = (lst f.params).length →
  yf1 P0 (.int .i64 n) (slA f.params) (.int .i64 (lst f.params).length) (.int .i64 i) (HC f o1 o2) = if ygc (lst f.regs) i ((lst f.params).take i) ((lst f.params).drop i) then yq6 P0 (.int .i64 n) (HC f o1 o2) else E80 := by
 intro d
 induction d with
 | zero =>
  intro i hi
  have e1 : (lst f.params).drop i = [] := z1b (by omega)
  have hn : ¬ ((i : Int) < ((lst f.params).length : Int)) := by omega
  rw [ykc, e1]
  simp [y13i, y148, hn, ygc]
 | succ d ih =>
  intro i hi
  have hlt : i < (lst f.params).length := by omega
  have hc : ((i : Int) < ((lst f.params).length : Int)) := by omega
  have k1 := y3j (o := f.params) (i := i) (z9 hlt) .i64
  have ks := y2oi (α := Int) f.params i (by omega) .i64
  simp only [ys7] at ks
  have hlm : lst (f.params.map (List.take i)) = (lst f.params).take i := by cases f.params <;> simp
  have e1 : ygc (lst f.regs) i ((lst f.params).take i) ((lst f.params).drop i) = ((inR (lst f.regs) (lst f.params)[i] && !((lst f.params).take i).contains (lst f.params)[i] && decide (i ≤ 20)) && ygc (lst f.regs) (i + 1) ((lst f.params).take (i + 1)) ((lst f.params).drop (i + 1))) := by
   rw [zk hlt, ygc, List.take_append_getElem]
  rw [ykc, e1]
  have hct : (yd E).p 46 [slA (f.params.map (List.take i)), .int .i64 (lst f.params)[i]] = some ⟨.bool (((lst f.params).take i).contains (lst f.params)[i]), [], true, [], []⟩ := by
   rw [yb4 _ _ (by rw [hlm, z3e]; omega), hlm]
  generalize hr : (lst f.params)[i] = r at *
  generalize ((lst f.params).take i).contains r = B at *
  have ih := ih (i + 1) (by omega)
  push_cast at ih
  simp only [y13i, y148, yg, y9, hc, decide_true, y1b]
  have e20 : ((20 : Int) < (i : Int)) ↔ ¬ i ≤ 20 := by omega
  by_cases h1 : r < 0
  ·have : ¬ 0 ≤ r := by omega
   simp [yig, k1, inR, h1, this]
  by_cases h2 : ((lst f.regs).length : Int) ≤ r
  ·have : ¬ r < ((lst f.regs).length : Int) := by omega
   simp [yig, k1, inR, h1, h2, this]
  ·have a1 : 0 ≤ r := by omega
   have a2 : r < ((lst f.regs).length : Int) := by omega
   cases B with
   | true => simp [yig, k1, inR, h1, h2, a1, a2, ks, hct]
   | false =>
    by_cases h3 : i ≤ 20
    ·have h3' : ¬ ((20 : Int) < (i : Int)) := by omega
     simp [yig, k1, inR, h1, h2, a1, a2, ks, hct, h3, h3', y1ca, y2x hlt hl, ih]
    ·have h3' : ((20 : Int) < (i : Int)) := by omega
     simp [yig, k1, inR, h1, h2, a1, a2, ks, hct, h3, h3']
theorem y16v {R : List Int} {ret : Int} {n : Nat} {x : Ins} (h : y4s R ret n x = true) (hl : leads x.op = true) : 0 ≤ x.t ∧ x.t < n := by
 have hne : ¬ x.op = 1 ∧ ¬ x.op = 4 ∧ ¬ x.op = 7 ∧ ¬ x.op = 30 := by
  simp only [leads, z1k, decide_eq_true_eq] at hl
  omega
 simp only [y4s, hne, if_false, hl, z1w, z1x, zc, decide_eq_true_eq] at h
 exact h
theorem yuv {f : Fn} {x : Ins} (h : y4l f x = true) (hl : leads x.op = true) : 0 ≤ x.t ∧ x.t < (lst f.code).length := by
 simp only [y4l, zc] at h
 exact y16v h.2 hl
structure InsFit (x : Ins) : Prop where
 n : -9223372036854775808 ≤ x.n ∧ x.n < 9223372036854775808
 s : x.s.length ≤ 9223372036854775807
 a : (lst x.args).length ≤ 9223372036854775807
theorem y15m (f : Fn) (o2 : AO) (n : Int) (x : Ins) (i g : Nat) (v92 v93 v94 : AV) (hi : i < (lst f.code).length) (hl : (lst f.code).length ≤ 9223372036854775807) (ht : leads x.op = true → 0 ≤ x.t ∧ x.t < (lst f.code).length) :
  ybr P0 (.int .i64 n) (.int .i64 i) (.lp 1 g 0 0) v92 v93 v94 (HC f ⟨g, .arr true false 9 [enc x]⟩ o2) =
   if y6o (lst f.code) i x then yvv P0 (.int .i64 n) v92 v93 v94 (HC f ⟨g, .arr true false 9 [enc x]⟩ o2) else E80 := by
 by_cases h32 : x.op = 32
 ·have hld : leads x.op = false := by simp [leads, h32]
  by_cases h0 : i = 0
  ·subst h0
   simp [ybr, h32, y6o]
  ·have h0' : ¬ ((i : Int) = 0) := by omega
   have hp : i - 1 < (lst f.code).length := by omega
   have k1 := yeo (o := f.code) (i := i - 1) (z9 hp) .i64
   have hw : IntKind.wrap .i64 ((i : Int) - 1) = ((i - 1 : Nat) : Int) := by rw [y1a] <;> omega
   have hg : (lst f.code).getD (i - 1) default = (lst f.code)[i - 1] := by rw [ze, z9 hp]; rfl
   have hld32 : leads 32 = false := by simp [leads]
   cases he : ends ((lst f.code)[i - 1]).op with
   | true => simp [ybr, h32, y6o, h0, h0', hw, k1, hp, he, hld32]
   | false => simp [ybr, h32, y6o, h0, h0', hw, k1, hp, he]
 ·cases hld : leads x.op with
  | false => simp [ybr, h32, y6o, hld]
  | true =>
   obtain ⟨t0, t1⟩ := ht hld
   have hx : x.t.toNat < (lst f.code).length := by omega
   have k2 := ye1 (o := f.code) (n := x.t) t0 (z9 hx) .i64
   by_cases h6 : ((lst f.code)[x.t.toNat]).op = 32
   ·simp [ybr, h32, y6o, hld, k2, h6, hx]
   ·simp [ybr, h32, y6o, hld, k2, h6, hx]
theorem y16d (f : Fn) (o2 : AO) (n : Int) (hfit : ∀ x ∈ lst f.code, InsFit x) (hl : (lst f.code).length ≤ 9223372036854775807) : ∀ (d i : Nat) (o1 : AO), i + d = (lst f.code).length →
  ∃ o1', yet P0 (.int .i64 n) (slA f.code) (.int .i64 (lst f.code).length) (.int .i64 i) (HC f o1 o2) = if y6u f (lst f.code) i ((lst f.code).drop i) then y1i1 P0 (.int .i64 n) (HC f o1' o2) else E80 := by
 intro d
 induction d with
 | zero =>
  intro i o1 hi
  have e1 : (lst f.code).drop i = [] := z1b (by omega)
  have hn : ¬ ((i : Int) < ((lst f.code).length : Int)) := by omega
  rw [yl2, e1]
  exact ⟨o1, by simp [y11x, ywd, hn, y6u]⟩
 | succ d ih =>
  intro i o1 hi
  have hlt : i < (lst f.code).length := by omega
  have hc : ((i : Int) < ((lst f.code).length : Int)) := by omega
  have k1 := yeo (o := f.code) (i := i) (z9 hlt) .i64
  have e1 : y6u f (lst f.code) i ((lst f.code).drop i) = (y4l f (lst f.code)[i] && y6o (lst f.code) i (lst f.code)[i] && y6u f (lst f.code) (i + 1) ((lst f.code).drop (i + 1))) := by
   rw [zk hlt, y6u]
  have fit := hfit _ (z1n hlt)
  rw [yl2, e1]
  generalize hx : (lst f.code)[i] = x at *
  have hr := y2ew f x fit.n fit.s fit.a
  simp only [y11x, ywd, yg, y9, hc, decide_true, y1b]
  cases hok : y4l f x with
  | false =>
   rw [hok] at hr
   exact ⟨o1, by simp [ys6, ywv, k1, hr]⟩
  | true =>
   rw [hok] at hr
   have e13 : ∀ K : Option (Ex AV), ys6 P0 (.int .i64 n) (slA f.code) (.int .i64 (lst f.code).length) (.int .i64 i) (HC f o1 o2) = ybr P0 (.int .i64 n) (.int .i64 i) (.lp 1 (o1.gen + 1) 0 0) (slA f.code) (.int .i64 (lst f.code).length) (.int .i64 i) (HC f ⟨o1.gen + 1, .arr true false 9 [enc x]⟩ o2) := by
    intro _
    simp [ys6, ywv, k1, hr]
   rw [e13 none]
   rw [y15m f o2 n x i _ _ _ _ hlt hl (fun h => yuv hok h)]
   cases hs : y6o (lst f.code) i x with
   | false => exact ⟨o1, by simp⟩
   | true =>
    obtain ⟨o1', ih⟩ := ih (i + 1) ⟨o1.gen + 1, .arr true false 9 [enc x]⟩ (by omega)
    push_cast at ih
    exact ⟨o1', by simp [yvv, y2x hlt hl, ih]⟩
structure FnFit (f : Fn) : Prop where
 ins : ∀ x ∈ lst f.code, InsFit x
 code : (lst f.code).length ≤ 9223372036854775807
 regs : (lst f.regs).length ≤ 9223372036854775807
 params : (lst f.params).length ≤ 9223372036854775807
 rows : (lst f.rows).length ≤ 9223372036854775807
theorem y1sa (f : Fn) (hf : FnFit f) (o1 o2 : AO) (n : Int) (hn : n = (lst f.code).length) :
  ykk P0 (.int .i64 n) (HC f o1 o2) = if (lst f.regs).all (fun k => decide (1 ≤ k) && decide (k ≤ 3)) && ygc (lst f.regs) 0 [] (lst f.params) && y6u f (lst f.code) 0 (lst f.code) && (lst f.rows).all (yak (lst f.code)) then E0 else E80 := by
 have a1 := y16j f o1 o2 n hf.regs _ 0 (zd _)
 have a2 := yrt f o1 o2 n hf.params _ 0 (zd _)
 obtain ⟨o1', a3⟩ := y16d f o2 n hf.ins hf.code _ 0 o1 (zd _)
 have a4 := y17g f o1' n hn hf.rows _ 0 o2 (zd _)
 simp only [Int.ofNat_zero, List.drop_zero, List.take_zero] at a1 a2 a3 a4
 have e1 : ykk P0 (.int .i64 n) (HC f o1 o2) = yer P0 (.int .i64 n) (slA f.regs) (.int .i64 (lst f.regs).length) (.int .i64 0) (HC f o1 o2) := by simp [ykk]
 have e2 : yp5 P0 (.int .i64 n) (HC f o1 o2) = yf1 P0 (.int .i64 n) (slA f.params) (.int .i64 (lst f.params).length) (.int .i64 0) (HC f o1 o2) := by simp [yp5]
 have e3 : yq6 P0 (.int .i64 n) (HC f o1 o2) = yet P0 (.int .i64 n) (slA f.code) (.int .i64 (lst f.code).length) (.int .i64 0) (HC f o1 o2) := by simp [yq6]
 have e4 : y1i1 P0 (.int .i64 n) (HC f o1' o2) = ym7 P0 (.int .i64 n) (slA f.rows) (.int .i64 (lst f.rows).length) (.int .i64 0) (HC f o1' o2) := by simp [y1i1]
 rw [e1, a1, e2, a2, e3, a3, e4, a4]
 generalize (lst f.regs).all (fun k => decide (1 ≤ k) && decide (k ≤ 3)) = b1
 generalize ygc (lst f.regs) 0 [] (lst f.params) = b2
 generalize y6u f (lst f.code) 0 (lst f.code) = b3
 generalize (lst f.rows).all (yak (lst f.code)) = b4
 cases b1 <;> cases b2 <;> cases b3 <;> cases b4 <;> rfl
set_option maxHeartbeats 1000000 in
theorem yuc (f : Fn) (hf : FnFit f) : (yd E).p 8 [.agg (enc f)] = some ⟨.int .i64 (if wf f then 0 else 80), [], true, [], []⟩ := by
 rw [y2rx]
 have hall := y1sa f hf ⟨0, .dead⟩ ⟨0, .dead⟩ _ rfl
 by_cases h1 : (lst f.code).length < 1
 ·have h1' : ((lst f.code).length : Int) < 1 := by omega
  have : ¬ 1 ≤ (lst f.code).length := by omega
  simp [ybo, ycv, ydg, h1', wf, this]
 have h1' : ¬ ((lst f.code).length : Int) < 1 := by omega
 have g1 : 1 ≤ (lst f.code).length := by omega
 by_cases h2 : 20000 < (lst f.code).length
 ·have h2' : (20000 : Int) < ((lst f.code).length : Int) := by omega
  have : ¬ (lst f.code).length ≤ 20000 := by omega
  simp [ybo, ycv, ydg, h1', h2', wf, this]
 have h2' : ¬ (20000 : Int) < ((lst f.code).length : Int) := by omega
 have g2 : (lst f.code).length ≤ 20000 := by omega
 by_cases h3 : 20000 < (lst f.regs).length
 ·have h3' : (20000 : Int) < ((lst f.regs).length : Int) := by omega
  have : ¬ (lst f.regs).length ≤ 20000 := by omega
  simp [ybo, ycv, ydg, h1', h2', h3', wf, this]
 have h3' : ¬ (20000 : Int) < ((lst f.regs).length : Int) := by omega
 have g3 : (lst f.regs).length ≤ 20000 := by omega
 by_cases h4 : f.ret < 0
 ·have : ¬ 0 ≤ f.ret := by omega
  simp [ybo, ycv, ydg, h1', h2', h3', h4, wf, this]
 have g4 : 0 ≤ f.ret := by omega
 by_cases h5 : 3 < f.ret
 ·have : ¬ f.ret ≤ 3 := by omega
  simp [ybo, ycv, ydg, h1', h2', h3', h4, h5, wf, this]
 have g5 : f.ret ≤ 3 := by omega
 have hp : (lst f.code).length - 1 < (lst f.code).length := by omega
 have k1 := yeo (o := f.code) (i := (lst f.code).length - 1) (z9 hp) .i64
 have hw : IntKind.wrap .i64 (((lst f.code).length : Int) - 1) = (((lst f.code).length - 1 : Nat) : Int) := by rw [y1a] <;> omega
 have hg : (lst f.code).getD ((lst f.code).length - 1) default = (lst f.code)[(lst f.code).length - 1] := by rw [ze, z9 hp]; rfl
 cases he : ends ((lst f.code)[(lst f.code).length - 1]).op with
 | false =>
  have hwf : wf f = false := by rw [wf, hg, he]; simp
  rw [hwf]
  simp [ybo, ycv, ydg, h1', h2', h3', h4, h5, hw, k1, he]
 | true =>
  have hwf : wf f = ((lst f.regs).all (fun k => decide (1 ≤ k) && decide (k ≤ 3)) && ygc (lst f.regs) 0 [] (lst f.params) && y6u f (lst f.code) 0 (lst f.code) && (lst f.rows).all (yak (lst f.code))) := by
   rw [wf, hg, he]
   simp only [g1, g2, g3, g4, g5, decide_true, z23]
  have e : ybo (.agg (enc f)) [⟨0, .dead⟩, ⟨0, .dead⟩, ⟨0, .dead⟩] = ykk P0 (.int .i64 (lst f.code).length) (HC f ⟨0, .dead⟩ ⟨0, .dead⟩) := by
   simp [ybo, ycv, ydg, h1', h2', h3', h4, h5, hw, k1, he]
  rw [e, hall, hwf]
  split <;> rfl
end Go.Vm
namespace Go.Vm
open Cel
theorem y2tg (f : Fn) (hf : FnFit f) (hr : (lst f.rows).length ≤ 10000000000000) (hx : ∀ x ∈ lst f.code, (lst x.args).length ≤ 17592186043904) (hw : wf f = true) :
  ∃ r t, (yd E).p 75 [.agg (enc f)] = some r ∧ r.fresh = true ∧ y72 r (.rp [slA (some t.b), slA (some t.a), slA (some t.h), .int .i64 (lst f.regs).length]) ∧ TbOk (lst f.code).length ((lst f.regs).length / 64 + 1) t ∧ LvSnd f t ∧ ∀ i, i < (lst f.code).length → Cl f t i := by
 rw [y2tm]
 have w := y2lg hw
 have hn1 := w.n1
 have hn2 := w.n2
 have hR := w.regs
 have hck := yuc f hf
 rw [hw] at hck
 have ha : ∀ H : Heap, yv (fz H y1m) [.agg (enc f)] = some ⟨[.agg (enc f)], scal f && true, []⟩ := fun H => by
  rw [ym, y64, y1k]; rfl
 have c8 : ∀ H, yc E (yd E) 0 none true 8 [.agg (enc f)] H = some (.int .i64 0, H) := fun H => y18 rfl (ha H) rfl hck ⟨_, rfl, rfl⟩
 have l0 : ∀ t : Heap, evLd true 5 (.lp 0 1 0 0) (AB f :: t) = some (.agg (enc f)) := fun t => by simp
 have l3 : ∀ t : Heap, evLd false 1 (.lp 0 1 0 3) (AB f :: t) = some (slA f.code) := fun t => by simp
 have lr : ∀ t : Heap, evLd false 1 (.lp 0 1 0 0) (AB f :: t) = some (slA f.regs) := fun t => by simp
 have n0 : newC 0 (some 0) (cellsOf (.agg (enc f))) [D0, D0, D0] = some (.lp 0 1 0 0, [AB f, D0, D0]) := by simp
 obtain ⟨q1, _⟩ := yn1 (r := (lst f.regs).length) (by omega)
 have hwr : IntKind.wrap .i64 ((((lst f.regs).length / 64 : Nat) : Int) + 1) = (((lst f.regs).length / 64 + 1 : Nat) : Int) := by
  rw [y1a] <;> omega
 have bd : yq [.nils, .nils, .nils, .int .i64 0] [(3, 1, .int .i64 (lst f.regs).length)] = some (.agg [.nils, .nils, .nils, .int .i64 (lst f.regs).length]) := by rfl
 have n1 : newC 0 (some 1) (cellsOf (.agg [.nils, .nils, .nils, .int .i64 (lst f.regs).length])) [AB f, D0, D0] = some (.lp 1 1 0 0, HB0 f) := by rfl
 obtain ⟨H1, P1, Q1, e1, R1⟩ := y1pg (f := f) hn2 hR ((lst f.code).length - 1) 1 _ _ _ (by omega) (by omega) (rep1 f)
 obtain ⟨t, ht1, ht2, ht3, ht4⟩ := yda w ((lst f.code).length * ((lst f.regs).length + 1) + 1) (tb0 f) y277 y1gt (by omega)
 obtain ⟨H2, e2, L2⟩ := y1cv w hr hx _ (tb0 f) H1 t (R1.done hn1) ht1
 obtain ⟨r, e3, fr, rd⟩ := L2.reads
 refine ⟨r, t, ?_, fr, rd, ht2, ht3, ht4⟩
 rw [← e3, ← e2]
 have hc : (0 : Int) < ((lst f.code).length : Int) := by omega
 have hw1 : IntKind.wrap .i64 ((0 : Int) + 1) = ((1 : Nat) : Int) := by rw [y1a] <;> omega
 have ef := first f (.int .i64 (lst f.code).length) (.int .i64 (lst f.code).length) (.int .i64 0) (W := (lst f.regs).length / 64 + 1) (by omega)
 have e42 : y0q (.lp 0 1 0 0) (.int .i64 (lst f.code).length) (.lp 1 1 0 0) H1 = yd2 (.lp 0 1 0 0) (.int .i64 (lst f.code).length) (.lp 1 1 0 0) (.bool true) H1 := rfl
 rw [← e42, ← e1]
 simp only [y1n7, n0, ye, y18o, l0, y9, c8, y6f, show decide ((0 : Int) ≠ 0) = false from rfl, y1h, y1ee, yk, zd, l3, y12, lr, q1, yz, hwr, y18e, bd, n1, y1my]
 rw [yec]
 simp only [yrc, yg, y9, hc, decide_true, yp2, y1b, ef, ykx, yz, hw1]
theorem s_Of (f : Fn) (hf : FnFit f) (hr : (lst f.rows).length ≤ 10000000000000) (hx : ∀ x ∈ lst f.code, (lst x.args).length ≤ 17592186043904) (hw : wf f = true) :
  ∃ r t, (yd E).p 75 [.agg (enc f)] = some r ∧ y72 r (.rp [slA (some t.b), slA (some t.a), slA (some t.h), .int .i64 (lst f.regs).length]) ∧ TbOk (lst f.code).length ((lst f.regs).length / 64 + 1) t ∧ LvSnd f t ∧ ∀ i, i < (lst f.code).length → Cl f t i := by
 obtain ⟨r, t, h1, _, h2⟩ := y2tg f hf hr hx hw
 exact ⟨r, t, h1, h2⟩
end Go.Vm
namespace Go.Vm
open Cel
theorem Bd.swap {H : Heap} {a b : Nat × AO} {K : List (Nat × AO)} {c : BC} {s : BS} (B : Bd H (a :: b :: K) c s) : Bd H (b :: a :: K) c s := by
 obtain ⟨P, G, R⟩ := B
 refine ⟨P, G, R.box, R.obj, R.inj, R.far, fun p hp => R.keep p (by simp only [List.mem_cons] at hp ⊢; rcases hp with h | h | h | h | h <;> simp [h]), ?_⟩
 have h := R.nd
 exact ((((List.Perm.swap b a K).cons (3, tmO s.T)).cons (2, nmO s.N)).map _).nodup_iff.1 h
theorem Bd.mem {H : Heap} {K : List (Nat × AO)} {i : Nat} {o : AO} {c : BC} {s : BS} (B : Bd H K c s) (h : (i, o) ∈ K) : H[i]? = some o := by
 obtain ⟨P, G, R⟩ := B
 exact (R.keep (i, o) (by simp [h])).1
theorem Bd.cell {H : Heap} {K : List (Nat × AO)} {c : BC} {s : BS} (B : Bd H K c s) (c' : BC) (off : Nat) (v : AV) (ho : off < 11) (hc : cellsOf v = [v]) (hl : y19 v = true) (hb : ∀ P G X, (y45 c P G X).set off v = y45 c' P G X) :
  ∃ H', evSt 1 (.lp 4 1 0 off) v H = some (.tup [], H') ∧ Bd H' K c' s := by
 obtain ⟨P, G, R⟩ := B
 have l4 := y3m R.box
 have e := y82 (H := H) (v := v) R.box (show off < (y45 c P G (xs s)).length from ho) hc hl
 rw [hb] at e
 exact ⟨_, e, P, G, y2e l4, fun k hk hX => by rw [yn (R.far k hk hX).symm]; exact R.obj k hk hX, R.inj, R.far, fun p hp => by
  obtain ⟨m1, m2⟩ := R.keep p hp
  exact ⟨by rw [yn m2.1.symm]; exact m1, m2⟩, R.nd⟩
theorem Bd.ld {H : Heap} {K : List (Nat × AO)} {c : BC} {s : BS} (B : Bd H K c s) (off : Nat) {v : AV} (h : ∀ P G, (y45 c P G (xs s))[off]? = some v) : evLd false 1 (.lp 4 1 0 off) H = some v := by
 obtain ⟨P, G, R⟩ := B
 exact R.ld off (h P G)
theorem Bd.ldW {H : Heap} {K : List (Nat × AO)} {c : BC} {s : BS} (B : Bd H K c s) : ∃ w, evLd false 1 (.lp 4 1 0 0) H = some w ∧ ∀ H', y17 1 w H' = some (.int .i64 s.W.length) := by
 obtain ⟨P, G, R⟩ := B
 exact ⟨_, R.ld 0 rfl, fun H' => by rw [y6d]; simp [xs]⟩
abbrev MB (g : Nat) (w : Int) (v : AV) : AO := ⟨g, .arr true false 2 [[.int .i64 w, v]]⟩
def KV (id g : Nat) (K : List (Nat × AO)) : List Int → List (Nat × AO)
 | [] => K
 | a :: L => (id, AI g (a :: L)) :: K
theorem y21g (f : Fn) (t : Tb) (i : Nat) {r : Nat} {k : Int} (h : (lst f.regs)[r]? = some k) : yjs f t i r ((lst f.regs).drop r) = if k = 3 ∧ acrM f t i r = true then (r : Int) :: yjs f t i (r + 1) ((lst f.regs).drop (r + 1)) else yjs f t i (r + 1) ((lst f.regs).drop (r + 1)) := by
 obtain ⟨hl, e⟩ := zb.1 h
 rw [zk hl, e, yjs]
theorem y2ok (t : Tb) (R : Nat) (f : Fn) (i r : Int) (H : Heap) : ∃ b, yv (fz H y1m) [tv t R, .agg (enc f), .int .i64 i, .int .i64 r] = some ⟨[tv t R, .agg (enc f), .int .i64 i, .int .i64 r], b, []⟩ := by
 refine ⟨y1u (tv t R) && (scal f && true), ?_⟩
 have e : fz H y1m (tv t R) = some ⟨tv t R, y1u (tv t R), []⟩ := rfl
 rw [ym, e, ym, y64]
 have := ym (fz H y1m) (.int .i64 i) [.int .i64 r]
 rw [this, fz_i]
 rfl
theorem y23u (f : Fn) (t : Tb) (hR : (lst f.regs).length ≤ 20000) (ok : TbOk (lst f.code).length ((lst f.regs).length / 64 + 1) t) (i r : Int) (H : Heap) :
  yc E (yd E) 0 none true 88 [tv t (lst f.regs).length, .agg (enc f), .int .i64 i, .int .i64 r] H = some (.bool (acrM f t i r), H) := by
 obtain ⟨b, h⟩ := y2ok t (lst f.regs).length f i r H
 exact y18 rfl h rfl (y205 f t hR ok i r) ⟨_, rfl, rfl⟩
section
variable {f : Fn} {t : Tb} (hR : (lst f.regs).length ≤ 20000) (ok : TbOk (lst f.code).length ((lst f.regs).length / 64 + 1) t) {c : BC} {s : BS} {K : List (Nat × AO)} (v2 v13 v15 v94 v95 v96 : AV) (hK : (0, AB f) ∈ K)
include hR ok hK
theorem ydh (i g10 : Nat) (w : Int) : ∀ (d r : Nat) (Ls : List Int) (id g : Nat) (H : Heap), r + d = (lst f.regs).length → Ls.length ≤ r → Bd H ((10, MB g10 w (y1c Int id g Ls)) :: KV id g K Ls) c s →
  ∃ H' id' g', yqf (.lp 0 1 0 0) v2 P4 (tv t (lst f.regs).length) v13 (.int .i64 i) v15 (.lp 10 g10 0 0) v94 v95 v96 (slA f.regs) (.int .i64 (lst f.regs).length) (.int .i64 r) H =
   y1uw (.lp 0 1 0 0) v2 P4 (tv t (lst f.regs).length) v13 v15 (.lp 10 g10 0 0) v94 v95 v96 H' ∧ Bd H' ((10, MB g10 w (y1c Int id' g' (Ls ++ yjs f t i r ((lst f.regs).drop r)))) :: KV id' g' K (Ls ++ yjs f t i r ((lst f.regs).drop r))) c s
 | 0, r, Ls, id, g, H, hd, hL, B => by
  have h : ¬ (r : Int) < ((lst f.regs).length : Int) := by omega
  refine ⟨H, id, g, ?_, by rw [z14 (by omega)]; simp only [yjs, List.append_nil]; exact B⟩
  rw [yq7]
  simp only [ytq, yg, y9, h, decide_false, yt1, y1h]
 | d + 1, r, Ls, id, g, H, hd, hL, B => by
  have h : (r : Int) < ((lst f.regs).length : Int) := by omega
  have hi : r < (lst f.regs).length := by omega
  have gk := z9 hi
  generalize (lst f.regs)[r] = k at gk
  have hw : IntKind.wrap .i64 ((r : Int) + 1) = ((r + 1 : Nat) : Int) := by rw [y1a] <;> omega
  have er := y21g f t i gk
  have hAB : H[0]? = some (AB f) := by
   cases Ls with
   | nil => exact B.mem (z18 _ hK)
   | cons a L => exact B.mem (z18 _ (z18 _ hK))
  have l5 : evLd true 5 (.lp 0 1 0 0) H = some (.agg (enc f)) := ysm (α := Fn) hAB
  have ca := fun H => y23u f t hR ok i r H
  rw [yq7, er]
  by_cases hc : k = 3 ∧ acrM f t i r = true
  ·rw [if_pos hc]
   have e10 : H[10]? = some (MB g10 w (y1c Int id g Ls)) := B.hd
   have lm : evLd false 1 (.lp 10 g10 0 1) H = some (y1c Int id g Ls) := by simp [e10, yr, y23]
   have bs : yl 0 none 1 1 [.int .i64 0] [(0, .int .i64 r)] H = some (.ls H.length 0 1 0 1, H ++ [AI 0 [(r : Int)]]) := by
    simp [yl, y1i]
   have B1 := B.grow (AI 0 [(r : Int)])
   have hy : y28 (H ++ [AI 0 [(r : Int)]]) 1 (.ls H.length 0 1 0 1) = some [[.int .i64 r]] := y54 (B1.hd)
   have e48 : (2:Nat) ^ 48 = 281474976710656 := by decide
   cases Ls with
   | nil =>
    have B2 := B1.grow (AI 0 [(r : Int)])
    have B3 := B2.swap.drop.swap
    have B4 := Bd.put (A := []) B3 (MB g10 w (.ls (H ++ [AI 0 [(r : Int)]]).length 0 1 0 1))
    obtain ⟨H', id', g', e1, B5⟩ := ydh i g10 w d (r + 1) [(r : Int)] (H ++ [AI 0 [(r : Int)]]).length 0 _ (by omega) (by simp) B4
    have ap : y1v 0 none 1 8 .nils (.ls H.length 0 1 0 1) (H ++ [AI 0 [(r : Int)]]) = some (.ls (H ++ [AI 0 [(r : Int)]]).length 0 1 0 1, H ++ [AI 0 [(r : Int)]] ++ [AI 0 [(r : Int)]]) := by
     unfold y1v
     rw [hy]
     simp
    have es := y82 (v := .ls (H ++ [AI 0 [(r : Int)]]).length 0 1 0 1) (off := 1) (Bd.hd B3) (by simp) rfl rfl
    refine ⟨H', id', g', ?_, by simpa using B5⟩
    rw [← e1]
    simp only [ytq, yg, y9, h, decide_true, yt1, y1b, y16i, y3j gk, y2q, y2s, List.head?_cons, yy, hc.1, y9n, l5, y1he, ca, ye, hc.2, y1g, yk, zd, lm, yrx, bs, ap, es, yue, yz, hw, List.set_cons_succ, List.set_cons_zero]
   | cons a L =>
    have eo : (H ++ [AI 0 [(r : Int)]])[id]? = some ⟨g, .arr false false 1 ((a :: L).map enc)⟩ := B1.mem (by simp [KV])
    have B2 := Bd.put (A := [_, _]) B1 (AI (g + 1) (a :: L ++ [(r : Int)]))
    have B3 := Bd.put (A := []) B2.drop (MB g10 w (.ls id (g + 1) 1 0 (a :: L ++ [(r : Int)]).length))
    obtain ⟨H', id', g', e1, B5⟩ := ydh i g10 w d (r + 1) (a :: L ++ [(r : Int)]) id (g + 1) _ (by omega) (by simp only [zg, List.length_cons, List.length_nil] at hL ⊢; omega) (by
     have e2 : KV id (g + 1) K (a :: L ++ [(r : Int)]) = (id, AI (g + 1) (a :: L ++ [(r : Int)])) :: K := rfl
     have e3 : y1c Int id (g + 1) (a :: L ++ [(r : Int)]) = .ls id (g + 1) 1 0 (a :: L ++ [(r : Int)]).length := y0y (by simp)
     rw [e2, e3]
     exact B3)
    have ap := ysw (fb := 0) (sl := none) (b := 8) (y := .ls H.length 0 1 0 1) (L := a :: L) (M := [(r : Int)]) (T := []) (H := H ++ [AI 0 [(r : Int)]]) (id := id) (g := g) hy (by rw [z15]; exact eo) (ypb (by simp only [List.length_cons] at hL; simp only [List.length_cons, List.length_nil]; omega))
    have es := y82 (v := .ls id (g + 1) 1 0 (a :: L ++ [(r : Int)]).length) (off := 1) (Bd.hd B2.drop) (by simp) rfl rfl
    have sv : y1c Int id g (a :: L) = .ls id g 1 0 (a :: L).length := rfl
    refine ⟨H', id', g', ?_, by rw [z1m] at B5; exact B5⟩
    rw [← e1]
    rw [sv] at lm
    simp only [ys7] at ap
    simp only [ytq, yg, y9, h, decide_true, yt1, y1b, y16i, y3j gk, y2q, y2s, List.head?_cons, yy, hc.1, y9n, l5, y1he, ca, ye, hc.2, y1g, yk, zd, lm, bs, ap, es, yue, yz, hw, List.set_cons_succ, List.set_cons_zero]
  ·rw [if_neg hc]
   obtain ⟨H', id', g', e1, B5⟩ := ydh i g10 w d (r + 1) Ls id g H (by omega) (by omega) B
   refine ⟨H', id', g', ?_, B5⟩
   rw [← e1]
   by_cases h3 : k = 3
   ·have ha : acrM f t i r = false := by
     cases hh : acrM f t i r with
     | false => rfl
     | true => exact (hc ⟨h3, hh⟩).elim
    simp only [ytq, yg, y9, h, decide_true, yt1, y1b, y16i, y3j gk, y2q, y2s, List.head?_cons, yy, h3, y9n, l5, y1he, ca, ye, ha, y1g, y1h, yue, yz, hw]
   ·simp only [ytq, yg, y9, h, decide_true, yt1, y1b, y16i, y3j gk, y2q, y2s, List.head?_cons, yy, h3, decide_false, ye0, y92, yro, ye, y1d, y1h, yue, yz, hw]
end
end Go.Vm
namespace Go.Vm
open Cel
theorem Bd.perm {H : Heap} {K K' : List (Nat × AO)} {c : BC} {s : BS} (B : Bd H K c s) (h : K.Perm K') : Bd H K' c s := by
 obtain ⟨P, G, R⟩ := B
 refine ⟨P, G, R.box, R.obj, R.inj, R.far, fun p hp => R.keep p (by simp only [List.mem_cons] at hp ⊢; rcases hp with e | e | e <;> simp [e, h.mem_iff.2]), ?_⟩
 exact (((h.cons (3, tmO s.T)).cons (2, nmO s.N)).map _).nodup_iff.1 R.nd
abbrev yd7 : List AV := [.nils, .nils, .nils, .nils, .nils, .int .i64 0, .int .i64 0, .int .i64 0]
abbrev UB : AO := ⟨1, .arr true false 8 [yd7]⟩
def MRow (KR : List (Nat × AO)) (m : MapP) (row : List AV) : Prop := ∃ v, row = [.int .i64 m.w, v] ∧ ((m.regs = none ∧ v = .nils) ∨ ∃ L id g, m.regs = some L ∧ v = .ls id g 1 0 L.length ∧ (id, AI g L) ∈ KR)
def y16b (KR : List (Nat × AO)) (M : List MapP) (rows : List (List AV)) : Prop := rows.length = M.length ∧ ∀ (k : Nat) (m : MapP), M[k]? = some m → ∃ row, rows[k]? = some row ∧ MRow KR m row
def ydo (KR : List (Nat × AO)) (vM : AV) (x12 : AO) (M : List MapP) : Prop :=
 (M = [] ∧ vM = .nils) ∨ ∃ g rows, M ≠ [] ∧ vM = .ls 12 g 2 0 M.length ∧ x12 = ⟨g, .arr false false 2 rows⟩ ∧ y16b KR M rows
theorem MRow.mono {KR KR' : List (Nat × AO)} {m : MapP} {row : List AV} (h : MRow KR m row) (hs : ∀ p ∈ KR, p ∈ KR') : MRow KR' m row := by
 obtain ⟨v, e, h⟩ := h
 refine ⟨v, e, ?_⟩
 rcases h with h | ⟨L, id, g, a, b, c⟩
 ·exact .inl h
 ·exact .inr ⟨L, id, g, a, b, hs _ c⟩
theorem y16b.snoc {KR KR' : List (Nat × AO)} {M : List MapP} {rows : List (List AV)} {m : MapP} {row : List AV} (h : y16b KR M rows) (hs : ∀ p ∈ KR, p ∈ KR') (hm : MRow KR' m row) : y16b KR' (M ++ [m]) (rows ++ [row]) := by
 obtain ⟨h1, h2⟩ := h
 refine ⟨by simp [h1], fun k m' hk => ?_⟩
 by_cases e : k < M.length
 ·rw [zx e] at hk
  obtain ⟨r, a, b⟩ := h2 k m' hk
  exact ⟨r, by rw [zx (by omega)]; exact a, b.mono hs⟩
 ·rw [z2a (by omega)] at hk
  have e0 : k - M.length = 0 := by
   cases q : k - M.length with
   | zero => rfl
   | succ n => rw [q] at hk; simp at hk
  rw [e0] at hk
  simp only [List.getElem?_cons_zero, Option.some.injEq] at hk
  subst hk
  exact ⟨row, by rw [z2a (by omega), h1, e0]; rfl, hm⟩
theorem y2fj {KR KR' : List (Nat × AO)} {vM : AV} {x12 : AO} {M : List MapP} (R : ydo KR vM x12 M) {m : MapP} {row : List AV} (hs : ∀ p ∈ KR, p ∈ KR') (hm : MRow KR' m row) {H : Heap} {y : AV} (hy : y28 H 2 y = some [row]) (h12 : H[12]? = some x12) (hl : M.length ≤ 1000000) :
  ∃ v' x', y1v 0 (some 12) 2 32 vM y H = some (v', H.set 12 x') ∧ ydo KR' v' x' (M ++ [m]) ∧ cellsOf v' = [v'] ∧ y19 v' = true := by
 have e48 : (2:Nat) ^ 48 = 281474976710656 := by decide
 unfold y1v
 rw [hy]
 rcases R with ⟨rfl, rfl⟩ | ⟨g, rows, h1, rfl, rfl, h2⟩
 ·refine ⟨.ls 12 (x12.gen + 1) 2 0 1, ⟨x12.gen + 1, .arr false false 2 [row]⟩, ?_, .inr ⟨_, [row], by simp, rfl, rfl, ?_⟩, rfl, rfl⟩
  ·simp [h12]
  ·exact y16b.snoc (M := []) (rows := []) (KR := KR) ⟨rfl, fun k m h => by simp at h⟩ hs hm
 ·refine ⟨.ls 12 (g + 1) 2 0 (M ++ [m]).length, ⟨g + 1, .arr false false 2 (rows ++ [row])⟩, ?_, .inr ⟨_, rows ++ [row], by simp, rfl, rfl, h2.snoc hs hm⟩, rfl, rfl⟩
  have hb : (2 * (M.length + 1) + 512) * 32 ≤ 281474976710656 := by omega
  have hr := h2.1
  simp only [h12]
  rw [if_pos (by simp [hr]; omega)]
  simp only [List.drop_zero, List.length_singleton, zg]
  rw [z2c (by omega)]
def zI : Ins := ⟨0, 0, 0, 0, 0, 0, 0, [], none⟩
def CSt (f : Fn) (c : BC) (i : Nat) (e : ES) (H : Heap) : Prop :=
 ∃ x9 x10 x11 x12 KR vM, Bd H ((10, x10) :: (0, AB f) :: (1, UB) :: (8, AI 1 (e.A ++ List.replicate ((lst f.code).length + 1 - i) 0)) :: (9, x9) :: (11, x11) :: (12, x12) :: (13, D0) :: (14, D0) :: (15, D0) :: KR) { c with vM := vM } e.s ∧ ydo KR vM x12 e.M ∧ e.A.length = i
abbrev atV (f : Fn) : AV := .ls 8 1 1 0 ((lst f.code).length + 1)
section
variable {f : Fn} {t : Tb} (hR : (lst f.regs).length ≤ 20000) (ok : TbOk (lst f.code).length ((lst f.regs).length / 64 + 1) t) (hn : (lst f.code).length ≤ 20000) {c : BC}
include hR ok hn
theorem y1fm {i : Nat} {x : Ins} (hi : i < (lst f.code).length) (hx : (lst x.args).length ≤ 17592186043904) (ha : calls x.op = true → (lst x.args).length ≤ 21) {H : Heap} {K : List (Nat × AO)} {c : BC} {s : BS} (B : Bd H K c s) (hs : s.size + 30 ≤ 1000000) {g : Nat} (h9 : (9, AX g x) ∈ K) :
  ∃ H', y1co (.lp 0 1 0 0) (.lp 1 1 0 0) P4 (tv t (lst f.regs).length) (atV f) (.lp 9 g 0 0) (slA f.code) (.int .i64 (lst f.code).length) (.int .i64 i) H =
   ydc (.lp 0 1 0 0) (.lp 1 1 0 0) P4 (tv t (lst f.regs).length) (atV f) (slA f.code) (.int .i64 (lst f.code).length) (.int .i64 (i + 1 : Nat)) H' ∧ Bd H' K c (putM s x) := by
 obtain ⟨H', e, B'⟩ := y2jj B x hs hx ha 0
 refine ⟨H', ?_, B'⟩
 have la := yfn (B.mem h9)
 have hw : IntKind.wrap .i64 ((i : Int) + 1) = ((i + 1 : Nat) : Int) := by rw [y1a] <;> omega
 simp only [y1co, la, y9, e, ye, y2bb, yz, hw]
theorem y2br {i : Nat} {x : Ins} (hi : i < (lst f.code).length) (hx : (lst x.args).length ≤ 17592186043904) (ha : calls x.op = true → (lst x.args).length ≤ 21) {H : Heap} {e : ES} {g : Nat} (hs : e.s.size + 30 ≤ 1000000) (hM : e.M.length ≤ 1000000) {x10 x11 x12 : AO} {KR : List (Nat × AO)} {vM : AV}
  (B : Bd H ((10, x10) :: (0, AB f) :: (1, UB) :: (8, AI 1 ((e.A ++ [(e.s.W.length : Int)]) ++ List.replicate ((lst f.code).length + 1 - (i + 1)) 0)) :: (9, AX g x) :: (11, x11) :: (12, x12) :: (13, D0) :: (14, D0) :: (15, D0) :: KR) { c with vM := vM } e.s) (MR : ydo KR vM x12 e.M) (hA : e.A.length = i) :
  ∃ H', y16y (.lp 0 1 0 0) (.lp 1 1 0 0) P4 (tv t (lst f.regs).length) (atV f) (.int .i64 i) (.lp 9 g 0 0) (slA f.code) (.int .i64 (lst f.code).length) (.int .i64 i) (.bool (y18x x.op)) H =
   ydc (.lp 0 1 0 0) (.lp 1 1 0 0) P4 (tv t (lst f.regs).length) (atV f) (slA f.code) (.int .i64 (lst f.code).length) (.int .i64 (i + 1 : Nat)) H' ∧ CSt f c (i + 1) (ye9 f t i x e) H' := by
 cases hm : y18x x.op with
 | false =>
  obtain ⟨H', e1, B1⟩ := y1fm hR ok hn hi hx ha B hs (g := g) (by simp)
  refine ⟨H', ?_, _, _, _, _, KR, vM, B1, by simp only [ye9, hm]; exact MR, by simp [ye9, hA]⟩
  rw [y16y, y1h, e1]
 | true =>
  have h8 := Bd.at (A := [_, _, _]) B
  have hl : ((e.A ++ [(e.s.W.length : Int)]) ++ List.replicate ((lst f.code).length + 1 - (i + 1)) 0)[i]? = some (e.s.W.length : Int) := by
   rw [z1m, z2a (by omega), hA, Nat.sub_self]
   rfl
  have ix : y10 1 (atV f) (.int .i64 (i : Int)) = some (.lp 8 1 i 0) := yga (by omega) (by omega) 8 1 .i64
  have l8 : evLd false 1 (.lp 8 1 i 0) H = some (.int .i64 e.s.W.length) := yot (α := Int) h8 hl rfl
  have B1 := Bd.put (A := []) B (MB (x10.gen + 1) 0 .nils)
  have B2 := Bd.put (A := []) B1 (MB (x10.gen + 1) e.s.W.length .nils)
  have n10 : newC 0 (some 10) [.int .i64 0, .nils] H = some (.lp 10 (x10.gen + 1) 0 0, H.set 10 (MB (x10.gen + 1) 0 .nils)) := yql (α := MapP) (fb := 0) (j := 10) ⟨0, none⟩ (Bd.hd B)
  have s10 : evSt 2 (.lp 10 (x10.gen + 1) 0 0) (.agg [.int .i64 e.s.W.length, .nils]) (H.set 10 (MB (x10.gen + 1) 0 .nils)) = some (.tup [], (H.set 10 (MB (x10.gen + 1) 0 .nils)).set 10 (MB (x10.gen + 1) e.s.W.length .nils)) := st_g (α := MapP) (c := ⟨0, none⟩) (d := ⟨e.s.W.length, none⟩) (Bd.hd B1)
  have bd : yq [.int .i64 0, .nils] [(0, 1, .int .i64 e.s.W.length)] = some (.agg [.int .i64 e.s.W.length, .nils]) := rfl
  have l0 : ∀ {H : Heap}, H[0]? = some (AB f) → evLd false 1 (.lp 0 1 0 0) H = some (slA f.regs) := fun h => by simp [h, yr, y23]
  have l0' := l0 (Bd.at (A := [_]) B2)
  obtain ⟨H3, id, g', e3, B3⟩ := ydh hR ok (.lp 1 1 0 0) (atV f) (.lp 9 g 0 0) (slA f.code) (.int .i64 (lst f.code).length) (.int .i64 i) (by simp) i (x10.gen + 1) e.s.W.length (lst f.regs).length 0 [] 0 0 _ (by omega) (zi 0) B2
  rw [z16, zr] at B3
  generalize hLs : yjs f t i 0 (lst f.regs) = Ls at B3
  -- what is kept, the register list last
  have key : ∃ KR', Bd H3 ((10, MB (x10.gen + 1) e.s.W.length (y1c Int id g' Ls)) :: (0, AB f) :: (1, UB) :: (8, AI 1 ((e.A ++ [(e.s.W.length : Int)]) ++ List.replicate ((lst f.code).length + 1 - (i + 1)) 0)) :: (9, AX g x) :: (11, x11) :: (12, x12) :: (13, D0) :: (14, D0) :: (15, D0) :: KR') { c with vM := vM } e.s ∧
    (∀ p ∈ KR, p ∈ KR') ∧ MRow KR' ⟨e.s.W.length, nz Ls⟩ [.int .i64 e.s.W.length, y1c Int id g' Ls] := by
   cases Ls with
   | nil => exact ⟨KR, B3, fun p h => h, _, rfl, .inl ⟨rfl, rfl⟩⟩
   | cons a L =>
    refine ⟨(id, AI g' (a :: L)) :: KR, B3.perm ?_, fun p h => z18 _ h, _, rfl, .inr ⟨a :: L, id, g', rfl, rfl, z1h⟩⟩
    exact (List.perm_middle (l₁ := [_, _, _, _, _, _, _, _, _])).symm.cons _
  obtain ⟨KR', B4, hsub, hrow⟩ := key
  have B5 := Bd.put (A := [_, _, _, _, _]) B4 ⟨x11.gen + 1, .arr false false 2 [[.int .i64 e.s.W.length, y1c Int id g' Ls]]⟩
  obtain ⟨v', x', e5, MR', hc', hl'⟩ := y2fj MR hsub hrow (y54 (Bd.at (A := [_, _, _, _, _]) B5)) (Bd.at (A := [_, _, _, _, _, _]) B5) hM
  have B6 := Bd.put (A := [_, _, _, _, _, _]) B5 x'
  obtain ⟨H7, e7, B7⟩ := Bd.cell B6 { c with vM := v' } 2 v' (by omega) hc' hl' (fun P G X => rfl)
  obtain ⟨H8, e8, B8⟩ := y1fm hR ok hn hi hx ha B7 hs (g := g) (by simp)
  refine ⟨H8, ?_, _, _, _, _, KR', v', B8, by simp only [ye9, hm, if_true, hLs]; exact MR', by simp [ye9, hA]⟩
  have l2 : evLd false 1 (.lp 4 1 0 2) H3 = some vM := B4.ld 2 (fun P G => rfl)
  have l10 : evLd true 2 (.lp 10 (x10.gen + 1) 0 0) H3 = some (.agg [.int .i64 e.s.W.length, y1c Int id g' Ls]) := by
   have := Bd.hd B4
   simp [yr, y23, this, y4w]
  have b11 : yl 0 (some 11) 2 1 [.int .i64 0, .nils] [(0, .agg [.int .i64 e.s.W.length, y1c Int id g' Ls])] H3 = some (.ls 11 (x11.gen + 1) 2 0 1, H3.set 11 ⟨x11.gen + 1, .arr false false 2 [[.int .i64 e.s.W.length, y1c Int id g' Ls]]⟩) := by
   have h11 := Bd.at (A := [_, _, _, _, _]) B4
   have ef : y1i 2 [(0, AV.agg [.int .i64 e.s.W.length, y1c Int id g' Ls])] [[AV.int .i64 0, AV.nils]] = some [[.int .i64 e.s.W.length, y1c Int id g' Ls]] := by
    simp [y1i]
   simp [yl, y2k, place, h11, ef]
  rw [← e8]
  simp only [y16y, y1b, y2ee, ix, y9, l8, bd, n10, ye, s10, y29a, yk, zd, l0', y12]
  rw [show AV.int .i64 0 = .int .i64 ((0 : Nat) : Int) from rfl, e3]
  simp only [y1uw, y1l, y9, yk, zd, l2, l10, b11, ye, e5, e7]
  rw [show ∀ x : Option (Ex AV), okK (y1o [([], []), ([], []), ([], []), ([], []), ([], []), (ids1 (.lp 4 1 0 2), []), (ids1 (.lp 10 (x10.gen + 1) 0 0), []), ([], [11]), (ids1 (.ls 11 (x11.gen + 1) 2 0 1), ids1 vM ++ [12]), ([], []), ([], []), ([], []), ([], ids1 (.lp 4 1 0 2))] [(5, 7)]) x = x from fun x => rfl]
end
end Go.Vm
