/- The sweeps end, and leave what is live. The machine's sets of registers. Which instructions may throw. A number in a list: the library's 'Contains'. flow.Next, flow.Caught. live.Of: the sweeps over the table are as the plain words have them. live.Of: one sweep, and all sweeps. live.Of: all sweeps. live.Of: how its answer reads. live's sets, read only. live: what outlives an instruction. Maps from whole numbers, as lists of pairs: plain Lean. Maps from whole numbers, as lists of pairs. Maps of one's own that are gone over while they turn. Maps as lists of pairs: the order of the pairs does not matter. Moves that are put in order: the plain model, and the first two loops on the machine. -/
import Derived.Test.YtjlbafgbohekfaaNX
import Derived.Test.YtjlbafgbohekfaaNTb
set_option linter.unusedSimpArgs false
set_option linter.unusedVariables false
set_option linter.unusedSectionVars false
namespace Go.Vm
section
variable {f : Fn}
structure LvSnd (f : Fn) (t : Tb) : Prop where
 b : ∀ i, i < (lst f.code).length → ∀ r, bit (rowW t.b i) r = true → ybe f [(i : Int)] r
 a : ∀ i, i < (lst f.code).length → ∀ r, bit (rowW t.a i) r = true → ybe f (y40 f i) r
 h : ∀ i, i < (lst f.code).length → ∀ r, bit (rowW t.h i) r = true → ybe f (y1y f i) r
structure Cl (f : Fn) (t : Tb) (i : Nat) : Prop where
 a : ∀ to ∈ y40 f i, ∀ r, bit (rowW t.b to.toNat) r = true → bit (rowW t.a i) r = true
 h : ∀ to ∈ y1y f i, ∀ r, bit (rowW t.b to.toNat) r = true → bit (rowW t.h i) r = true
 b : ∀ r : Nat, (r : Int) ∈ yma f i ∨ bit (rowW t.h i) r = true ∨ (bit (rowW t.a i) r = true ∧ defr (y26 f i) ≠ r) → bit (rowW t.b i) r = true
variable (w : Wf f)
include w
theorem y2cp {A : List Int} {r : Nat} (h : ybe f A r) : r < (lst f.regs).length := by
 obtain ⟨i, hi, hu⟩ := h
 have := w.uses hi.lt hu
 omega
variable {t : Tb} (ok : TbOk (lst f.code).length ((lst f.regs).length / 64 + 1) t) {i : Nat} (hi : i < (lst f.code).length)
include ok hi
theorem yu7 : ∀ to ∈ y40 f i, 0 ≤ to ∧ to < (lst f.code).length := fun _ h => w.next hi h
theorem yc7 : (aftT f t i).length = (lst f.regs).length / 64 + 1 := yil _ _ (ok.aw i hi) ok.bw (yu7 w ok hi)
theorem yno : (hanT f t i).length = (lst f.regs).length / 64 + 1 := yil _ _ (ok.hw i hi) ok.bw (fun _ h => w.caught h)
theorem yi1 : (befT f t i).length = (lst f.regs).length / 64 + 1 := by
 unfold befT
 rw [yxp, y4q (by rw [yah, yc7 w ok hi, yno w ok hi]), yah, yc7 w ok hi]
theorem y1oc (r : Nat) : bit (aftT f t i) r = true ↔ bit (rowW t.a i) r = true ∨ ∃ to ∈ y40 f i, bit (rowW t.b to.toNat) r = true := yjc _ _ (ok.aw i hi) ok.bw (yu7 w ok hi) r
theorem y1c7 (r : Nat) : bit (hanT f t i) r = true ↔ bit (rowW t.h i) r = true ∨ ∃ to ∈ y1y f i, bit (rowW t.b to.toNat) r = true := yjc _ _ (ok.hw i hi) ok.bw (fun _ h => w.caught h) r
theorem y199 (r : Nat) : bit (befT f t i) r = true ↔ (r : Int) ∈ yma f i ∨ bit (hanT f t i) r = true ∨ (bit (aftT f t i) r = true ∧ defr (y26 f i) ≠ r) := by
 unfold befT
 have h1 : (ybf (defr (y26 f i)) (aftT f t i)).length = (hanT f t i).length := by rw [yah, yc7 w ok hi, yno w ok hi]
 rw [y13x _ _ (fun u hu => by
  obtain ⟨u0, u1⟩ := w.uses hi hu
  rw [y4q h1, yah, yc7 w ok hi]
  exact ⟨u0, by omega⟩), yb8 h1, z1k, y18l (fun hd => by
  have := w.def hi hd
  rw [yc7 w ok hi]; omega)]
 constructor
 ·rintro ((h | h) | h)
  ·exact .inr (.inr h)
  ·exact .inr (.inl h)
  ·exact .inl h
 ·rintro (h | h | h)
  ·exact .inr h
  ·exact .inl (.inr h)
  ·exact .inl (.inl h)
theorem yos : TbOk (lst f.code).length ((lst f.regs).length / 64 + 1) (y4z f t i) := by
 have e1 : (rowW t.b i).length = (befT f t i).length := by rw [ok.bw i hi, yi1 w ok hi]
 refine ⟨by simp [y4z, ok.b], by simp [y4z, ok.a], by simp [y4z, ok.h], fun j hj => ?_, fun j hj => ?_, fun j hj => ?_⟩
 ·simp only [y4z]
  rw [y53 (by rw [ok.b]; exact hi)]
  split
  ·rw [y4q e1, ok.bw i hi]
  ·exact ok.bw j hj
 ·simp only [y4z]
  rw [y53 (by rw [ok.a]; exact hi)]
  split
  ·exact yc7 w ok hi
  ·exact ok.aw j hj
 ·simp only [y4z]
  rw [y53 (by rw [ok.h]; exact hi)]
  split
  ·exact yno w ok hi
  ·exact ok.hw j hj
theorem y1ax (j : Nat) : rowW (y4z f t i).b j = if j = i then y47 (rowW t.b i) (befT f t i) else rowW t.b j := y53 (by rw [ok.b]; exact hi)
theorem yj4 (j : Nat) : rowW (y4z f t i).a j = if j = i then aftT f t i else rowW t.a j := y53 (by rw [ok.a]; exact hi)
theorem yiz (j : Nat) : rowW (y4z f t i).h j = if j = i then hanT f t i else rowW t.h j := y53 (by rw [ok.h]; exact hi)
theorem yr7 (S : LvSnd f t) (r : Nat) (h : bit (aftT f t i) r = true) : ybe f (y40 f i) r := by
 rcases (y1oc w ok hi r).1 h with h | ⟨to, ht, h⟩
 ·exact S.a i hi r h
 ·have hr := yu7 w ok hi to ht
  have := S.b to.toNat (by omega) r h
  rw [show ((to.toNat : Nat) : Int) = to by omega] at this
  exact (yas f).2 ⟨to, ht, hr.1, hr.2, this⟩
theorem yrr (S : LvSnd f t) (r : Nat) (h : bit (hanT f t i) r = true) : ybe f (y1y f i) r := by
 rcases (y1c7 w ok hi r).1 h with h | ⟨to, ht, h⟩
 ·exact S.h i hi r h
 ·have hr := w.caught ht
  have := S.b to.toNat (by omega) r h
  rw [show ((to.toNat : Nat) : Int) = to by omega] at this
  exact (yas f).2 ⟨to, ht, hr.1, hr.2, this⟩
theorem ysd (S : LvSnd f t) (r : Nat) (h : bit (befT f t i) r = true) : ybe f [(i : Int)] r := by
 rw [y1vy f hi]
 rcases (y199 w ok hi r).1 h with h | h | ⟨h, hd⟩
 ·exact .inl h
 ·exact .inr (.inl (yrr w ok hi S r h))
 ·exact .inr (.inr ⟨hd, yr7 w ok hi S r h⟩)
theorem ys2 (S : LvSnd f t) : LvSnd f (y4z f t i) := by
 refine ⟨fun j hj r h => ?_, fun j hj r h => ?_, fun j hj r h => ?_⟩
 ·rw [y1ax w ok hi] at h
  split at h
  ·rename_i e
   subst e
   rw [yb8 (by rw [ok.bw j hj, yi1 w ok hj]), z1k] at h
   rcases h with h | h
   ·exact S.b j hj r h
   ·exact ysd w ok hj S r h
  ·exact S.b j hj r h
 ·rw [yj4 w ok hi] at h
  split at h
  ·rename_i e
   subst e
   exact yr7 w ok hj S r h
  ·exact S.a j hj r h
 ·rw [yiz w ok hi] at h
  split at h
  ·rename_i e
   subst e
   exact yrr w ok hj S r h
  ·exact S.h j hj r h
theorem y15q (hm : yk9 f t i = false) : (∀ j, rowW (y4z f t i).b j = rowW t.b j) ∧ Cl f (y4z f t i) i ∧ ∀ j, j ≠ i → Cl f t j → Cl f (y4z f t i) j := by
 have e1 : (rowW t.b i).length = (befT f t i).length := by rw [ok.bw i hi, yi1 w ok hi]
 have js := yqw e1 hm
 have hb : ∀ j, rowW (y4z f t i).b j = rowW t.b j := fun j => by
  rw [y1ax w ok hi]
  split
  ·rename_i e; rw [js, e]
  ·rfl
 refine ⟨hb, ⟨fun to ht r h => ?_, fun to ht r h => ?_, fun r h => ?_⟩, fun j hj C => ⟨fun to ht r h => ?_, fun to ht r h => ?_, fun r h => ?_⟩⟩
 ·rw [hb] at h
  rw [yj4 w ok hi, if_pos rfl, y1oc w ok hi]
  exact .inr ⟨to, ht, h⟩
 ·rw [hb] at h
  rw [yiz w ok hi, if_pos rfl, y1c7 w ok hi]
  exact .inr ⟨to, ht, h⟩
 ·rw [yiz w ok hi, if_pos rfl, yj4 w ok hi, if_pos rfl] at h
  have := (y199 w ok hi r).2 h
  rw [hb, ← js, yb8 e1, this, Bool.or_true]
 ·rw [hb] at h
  rw [yj4 w ok hi, if_neg hj]
  exact C.a to ht r h
 ·rw [hb] at h
  rw [yiz w ok hi, if_neg hj]
  exact C.h to ht r h
 ·rw [yiz w ok hi, if_neg hj, yj4 w ok hi, if_neg hj] at h
  rw [hb]
  exact C.b r h
end
section
variable {f : Fn} (w : Wf f)
include w
theorem yzy : ∀ (k : Nat) (t : Tb), k ≤ (lst f.code).length → TbOk (lst f.code).length ((lst f.regs).length / 64 + 1) t → LvSnd f t → TbOk (lst f.code).length ((lst f.regs).length / 64 + 1) (y3g f k t).1 ∧ LvSnd f (y3g f k t).1
 | 0, t, _, ok, S => ⟨ok, S⟩
 | k + 1, t, hk, ok, S => yzy k _ (by omega) (yos w ok (by omega)) (ys2 w ok (by omega) S)
theorem ym0 : ∀ (k : Nat) (t : Tb), k ≤ (lst f.code).length → TbOk (lst f.code).length ((lst f.regs).length / 64 + 1) t → (y3g f k t).2 = false → (∀ j, j < k → Cl f (y3g f k t).1 j) ∧ ∀ j, k ≤ j → Cl f t j → Cl f (y3g f k t).1 j
 | 0, t, _, _, _ => ⟨fun _ h => by omega, fun _ _ h => h⟩
 | k + 1, t, hk, ok, h => by
  rw [y3g, z2q] at h
  obtain ⟨_, c2, c3⟩ := y15q w ok (by omega) h.1
  obtain ⟨d1, d2⟩ := ym0 k (y4z f t k) (by omega) (yos w ok (by omega)) h.2
  refine ⟨fun j hj => ?_, fun j hj C => d2 j (by omega) (c3 j (by omega) C)⟩
  by_cases e : j = k
  ·subst e; exact d2 j (zi _) c2
  ·exact d1 j (by omega)
def rowB (R : Nat) (s : Ws) : List Bool := (List.range R).map (bit s)
theorem yog {R : Nat} {s : Ws} {r : Nat} (h : r < R) : (rowB R s)[r]? = some (bit s r) := by simp [rowB, h]
omit w in
theorem ygr (R : Nat) (s : Ws) : (rowB R s).length = R := by simp [rowB]
def tabB (R : Nat) (t : Tb) : Tab := t.b.map fun s => some (rowB R s)
def lpot (R : Nat) (t : Tb) : Nat := pot R (tabB R t)
theorem y1q6 {t : Tb} (ok : TbOk (lst f.code).length ((lst f.regs).length / 64 + 1) t) (S : LvSnd f t) {i : Nat} (hi : i < (lst f.code).length) :
  lpot (lst f.regs).length t ≤ lpot (lst f.regs).length (y4z f t i) ∧ (yk9 f t i = true → lpot (lst f.regs).length t < lpot (lst f.regs).length (y4z f t i)) := by
 have e1 : (rowW t.b i).length = (befT f t i).length := by rw [ok.bw i hi, yi1 w ok hi]
 have hb : i < t.b.length := by rw [ok.b]; exact hi
 have hg : (tabB (lst f.regs).length t)[i]? = some (some (rowB (lst f.regs).length (rowW t.b i))) := by
  simp [tabB, rowW, ze, z9 hb]
 have hs : tabB (lst f.regs).length (y4z f t i) = (tabB (lst f.regs).length t).set i (some (rowB (lst f.regs).length (y47 (rowW t.b i) (befT f t i)))) := by
  simp only [tabB, y4z, List.map_set]
 have hp := y2ct (R := (lst f.regs).length) (y := some (rowB (lst f.regs).length (y47 (rowW t.b i) (befT f t i)))) hg
 rw [← hs] at hp
 simp only [wt] at hp
 have le : LeB (rowB (lst f.regs).length (rowW t.b i)) (rowB (lst f.regs).length (y47 (rowW t.b i) (befT f t i))) := by
  intro r hr
  have hlt : r < (lst f.regs).length := by have := (zb.1 hr).1; rw [ygr] at this; exact this
  rw [yog w hlt] at hr ⊢
  injection hr with hr
  rw [yb8 e1, hr, z2x]
 have hlen : (rowB (lst f.regs).length (y47 (rowW t.b i) (befT f t i))).length = (rowB (lst f.regs).length (rowW t.b i)).length := by rw [ygr, ygr]
 have strict : yk9 f t i = true → (rowB (lst f.regs).length (rowW t.b i)).countP id < (rowB (lst f.regs).length (y47 (rowW t.b i) (befT f t i))).countP id := by
  intro hm
  obtain ⟨q, h1, h2⟩ := (y1rc e1).1 hm
  have hq := y2cp w (ysd w ok hi S q h1)
  refine yvz hlen le ⟨q, ?_, ?_⟩
  ·rw [yog w hq, yb8 e1, h1, Bool.or_true]
  ·rw [yog w hq, h2]
 have weak : (rowB (lst f.regs).length (rowW t.b i)).countP id ≤ (rowB (lst f.regs).length (y47 (rowW t.b i) (befT f t i))).countP id := by
  cases hm : yk9 f t i with
  | true => exact Nat.le_of_lt (strict hm)
  | false => rw [yqw e1 hm]; exact zi _
 unfold lpot
 exact ⟨by omega, fun hm => by have := strict hm; omega⟩
theorem yme : ∀ (k : Nat) (t : Tb), k ≤ (lst f.code).length → TbOk (lst f.code).length ((lst f.regs).length / 64 + 1) t → LvSnd f t → lpot (lst f.regs).length t ≤ lpot (lst f.regs).length (y3g f k t).1 ∧ ((y3g f k t).2 = true → lpot (lst f.regs).length t < lpot (lst f.regs).length (y3g f k t).1)
 | 0, t, _, _, _ => ⟨zi _, fun h => by cases h⟩
 | k + 1, t, hk, ok, S => by
  obtain ⟨a1, a2⟩ := y1q6 w ok S (i := k) (by omega)
  obtain ⟨b1, b2⟩ := yme k (y4z f t k) (by omega) (yos w ok (i := k) (by omega)) (ys2 w ok (i := k) (by omega) S)
  rw [y3g]
  refine ⟨z1o a1 b1, fun h => ?_⟩
  rw [z1k] at h
  rcases h with h | h
  ·exact z2j (a2 h) b1
  ·exact Nat.lt_of_le_of_lt a1 (b2 h)
theorem y2gj {t : Tb} (ok : TbOk (lst f.code).length ((lst f.regs).length / 64 + 1) t) : lpot (lst f.regs).length t ≤ (lst f.code).length * ((lst f.regs).length + 1) := by
 have key : ∀ (R : Nat) (l : List Ws), pot R (l.map fun s => some (rowB R s)) ≤ l.length * (R + 1) := by
  intro R l
  induction l with
  | nil => simp [pot]
  | cons a l ih =>
   have hc : (rowB R a).countP id ≤ (rowB R a).length := List.countP_le_length
   rw [ygr] at hc
   simp only [pot, List.map_cons, List.sum_cons, List.length_cons, z25, wt] at ih ⊢
   omega
 have := key (lst f.regs).length t.b
 rw [ok.b] at this
 exact this
theorem ycw : ∀ (k : Nat) (t : Tb), TbOk (lst f.code).length ((lst f.regs).length / 64 + 1) t → LvSnd f t → (lst f.code).length * ((lst f.regs).length + 1) < k + lpot (lst f.regs).length t →
  ∃ r, yd0 f k t = some r ∧ TbOk (lst f.code).length ((lst f.regs).length / 64 + 1) r ∧ LvSnd f r ∧ ∀ i, i < (lst f.code).length → Cl f r i
 | 0, t, ok, _, h => by have := y2gj w ok; omega
 | k + 1, t, ok, S, h => by
  obtain ⟨o2, s2⟩ := yzy w _ t (zi _) ok S
  obtain ⟨p1, p2⟩ := yme w _ t (zi _) ok S
  rw [yd0]
  cases hm : (y3g f (lst f.code).length t).2 with
  | true =>
   rw [if_pos rfl]
   have := p2 hm
   exact ycw k _ o2 s2 (by omega)
  | false =>
   rw [if_neg zv]
   exact ⟨_, rfl, o2, s2, (ym0 w _ t (zi _) ok hm).1⟩
def tb0 (f : Fn) : Tb := ⟨List.replicate (lst f.code).length (y2n ((lst f.regs).length / 64 + 1)), List.replicate (lst f.code).length (y2n ((lst f.regs).length / 64 + 1)), List.replicate (lst f.code).length (y2n ((lst f.regs).length / 64 + 1))⟩
omit w in
theorem yi6 {n i W : Nat} (h : i < n) : rowW (List.replicate n (y2n W)) i = y2n W := by
 simp [rowW, ze, h]
omit w in
theorem y24p : TbOk (lst f.code).length ((lst f.regs).length / 64 + 1) (tb0 f) := by
 refine ⟨by simp [tb0], by simp [tb0], by simp [tb0], fun i hi => ?_, fun i hi => ?_, fun i hi => ?_⟩ <;> (simp only [tb0]; rw [yi6 hi]; simp [y2n])
omit w in
theorem y1ne : LvSnd f (tb0 f) := by
 refine ⟨fun i hi r h => ?_, fun i hi r h => ?_, fun i hi r h => ?_⟩ <;> (simp only [tb0] at h; rw [yi6 hi, y22w] at h; cases h)
end
end Go.Vm
namespace Go.Vm
open Cel
instance : Cel (BitVec 64) := ⟨1, fun w => [.int .u64 w.toNat], fun _ => rfl, fun _ => rfl, fun _ => rfl⟩
@[simp] theorem y2va (w : BitVec 64) : enc w = [.int .u64 w.toNat] := rfl
@[simp] theorem es_w : es (BitVec 64) = 1 := rfl
abbrev AW (g : Nat) (s : Ws) : AO := ⟨g, .arr false false 1 (s.map enc)⟩
theorem y11t {n : Nat} (h : n < 18446744073709551616) : IntKind.wrap .u64 (n : Int) = (n : Int) := by
 simp [IntKind.wrap, IntKind.bits, IntKind.signed]; omega
theorem y1r7 (c : BitVec 64) : IntKind.wrap .u64 (c.toNat : Int) = (c.toNat : Int) := y11t c.isLt
theorem yja (c : BitVec 64) : BitVec.ofInt 64 (c.toNat : Int) = c := by simp
theorem or_w (a b : BitVec 64) : yb .or (.int .u64 a.toNat) (.int .u64 b.toNat) = some (.int .u64 (a ||| b).toNat) := by
 show some (AV.int .u64 (IntKind.wrap .u64 ((BitVec.ofInt 64 (a.toNat : Int) ||| BitVec.ofInt 64 (b.toNat : Int)).toNat : Int))) = _
 rw [yja, yja, y1r7]
theorem yyf (a b : BitVec 64) : yb .andNot (.int .u64 a.toNat) (.int .u64 b.toNat) = some (.int .u64 (a &&& ~~~ b).toNat) := by
 show some (AV.int .u64 (IntKind.wrap .u64 ((BitVec.ofInt 64 (a.toNat : Int) &&& ~~~ (BitVec.ofInt 64 (b.toNat : Int))).toNat : Int))) = _
 rw [yja, yja, y1r7]
theorem y2og (a : BitVec 64) : yb .neq (.int .u64 a.toNat) (.int .u64 0) = some (.bool (decide (a ≠ 0))) := by
 rw [y66]
 have : ((a.toNat : Int) ≠ 0) ↔ a ≠ 0 := by
  constructor
  ·intro h e; subst e; exact h rfl
  ·intro h e
   exact h (BitVec.eq_of_toNat_eq (by simpa using e))
 rw [decide_eq_decide.2 this]
theorem y2kg {r : Nat} (h : r < 64) : yb .shl (.int .u64 1) (.int .i64 r) = some (.int .u64 (BitVec.twoPow 64 r).toNat) := by
 have h0 : ¬ (r : Int) < 0 := by omega
 have hm : min r 64 = r := by omega
 have hp : 2 ^ r < 2 ^ 64 := Nat.pow_lt_pow_right (by omega) h
 have e : (BitVec.twoPow 64 r).toNat = 2 ^ r := by rw [BitVec.toNat_twoPow, Nat.mod_eq_of_lt hp]
 rw [e]
 show (if (r : Int) < 0 then none else some (AV.int .u64 (IntKind.wrap .u64 (1 * 2 ^ (min (r : Int).toNat 64))))) = _
 rw [if_neg h0, z2f, hm, Int.one_mul]
 have e2 : ((2 : Int) ^ r) = ((2 ^ r : Nat) : Int) := by simp
 rw [e2, y11t hp]
theorem y2sj {r : Nat} (h : r < 64) (a : BitVec 64) : ∃ v w, yb .shr (.int .u64 a.toNat) (.int .i64 r) = some v ∧ yb .and v (.int .u64 1) = some w ∧ yb .eql w (.int .u64 1) = some (.bool (a.getLsbD r)) := by
 have h0 : ¬ (r : Int) < 0 := by omega
 have hm : min r 64 = r := by omega
 refine ⟨.int .u64 ((a >>> r).toNat), .int .u64 ((a >>> r) &&& 1#64).toNat, ?_, ?_, ?_⟩
 ·show (if (r : Int) < 0 then none else some (AV.int .u64 (Int.fdiv (a.toNat : Int) (2 ^ (min (r : Int).toNat 64))))) = _
  rw [if_neg h0, z2f, hm]
  have e2 : ((2 : Int) ^ r) = ((2 ^ r : Nat) : Int) := by simp
  rw [e2, BitVec.toNat_ushiftRight, Nat.shiftRight_eq_div_pow, z2t _ (Int.natCast_nonneg _), Int.natCast_ediv]
 ·show some (AV.int .u64 (IntKind.wrap .u64 ((BitVec.ofInt 64 (((a >>> r).toNat : Nat) : Int) &&& BitVec.ofInt 64 1).toNat : Int))) = _
  rw [yja, show BitVec.ofInt 64 1 = 1#64 from rfl, y1r7]
 ·rw [yy]
  congr 2
  rw [BitVec.toNat_and, BitVec.toNat_ushiftRight, show (1#64).toNat = 1 from rfl, Nat.and_one_is_mod, Nat.shiftRight_eq_div_pow, BitVec.getLsbD, Nat.testBit_eq_decide_div_mod_eq]
  rw [decide_eq_decide]
  omega
theorem ynn {r : Nat} (h : r < 9223372036854775808) : yb .quo (.int .i64 r) (.int .i64 64) = some (.int .i64 ((r / 64 : Nat) : Int)) ∧ yb .rem (.int .i64 r) (.int .i64 64) = some (.int .i64 ((r % 64 : Nat) : Int)) := by
 constructor
 ·show (if (64 : Int) = 0 then none else some (AV.int .i64 (IntKind.wrap .i64 ((r : Int).tdiv 64)))) = _
  rw [if_neg (by omega), Int.tdiv_eq_ediv_of_nonneg (by omega), y1a (by omega) (by omega)]
  congr 2
 ·show (if (64 : Int) = 0 then none else some (AV.int .i64 ((r : Int).tmod 64))) = _
  rw [if_neg (by omega), Int.tmod_eq_emod_of_nonneg (by omega)]
  congr 2
section
variable {H : Heap} {a ga : Nat} {s : Ws} (h : H[a]? = some (AW ga s))
include h
theorem y2ro {r : Nat} (hr : r < 9223372036854775808) (hs : r / 64 < s.length) : yc E (yd E) 0 none false 86 [.ls a ga 1 0 s.length, .int .i64 r] H = some (.tup [], H.set a (AW ga (addW s r))) := by
 have hd : H ++ yj 0 = H := by simp [yj]
 have ecall : yc E (yd E) 0 none false 86 [.ls a ga 1 0 s.length, .int .i64 r] H = y21t H.length (.ls a ga 1 0 s.length) (.int .i64 r) (H ++ yj 0) := by
  rw [yc, if_neg (by simp), y2sb, if_pos rfl]
 obtain ⟨q1, q2⟩ := ynn hr
 have ix := yg8 (n := s.length) (p := ((r / 64 : Nat) : Int)) (by omega) (by omega) a ga .i64
 rw [z2f] at ix
 have ld := ynm (α := BitVec 64) (H := H) (id := a) (g := ga) (i := r / 64) (v := .int .u64 (s.getD (r / 64) 0).toNat) h (by rw [z9 hs]) (by rw [ze, z9 hs]; rfl)
 have st := yex (α := BitVec 64) (H := H) (id := a) (g := ga) (i := r / 64) (L := s) (v := .int .u64 (s.getD (r / 64) 0 ||| BitVec.twoPow 64 (r % 64)).toNat) (y := s.getD (r / 64) 0 ||| BitVec.twoPow 64 (r % 64)) h hs rfl
 simp only [es_w] at st
 rw [ecall, hd]
 simp only [y21t, q1, q2, y9, ix, ld, y2kg (z3n r (by omega : 64 > 0)), or_w, st, ye]
 rfl
theorem y2ll {r : Nat} (hr : r < 9223372036854775808) (hs : r / 64 < s.length) : yc E (yd E) 0 none false 85 [.ls a ga 1 0 s.length, .int .i64 r] H = some (.tup [], H.set a (AW ga (y17i s r))) := by
 have hd : H ++ yj 0 = H := by simp [yj]
 have ecall : yc E (yd E) 0 none false 85 [.ls a ga 1 0 s.length, .int .i64 r] H = y23v H.length (.ls a ga 1 0 s.length) (.int .i64 r) (H ++ yj 0) := by
  rw [yc, if_neg (by simp), y2tl, if_pos rfl]
 obtain ⟨q1, q2⟩ := ynn hr
 have ix := yg8 (n := s.length) (p := ((r / 64 : Nat) : Int)) (by omega) (by omega) a ga .i64
 rw [z2f] at ix
 have ld := ynm (α := BitVec 64) (H := H) (id := a) (g := ga) (i := r / 64) (v := .int .u64 (s.getD (r / 64) 0).toNat) h (by rw [z9 hs]) (by rw [ze, z9 hs]; rfl)
 have st := yex (α := BitVec 64) (H := H) (id := a) (g := ga) (i := r / 64) (L := s) (v := .int .u64 (s.getD (r / 64) 0 &&& ~~~ BitVec.twoPow 64 (r % 64)).toNat) (y := s.getD (r / 64) 0 &&& ~~~ BitVec.twoPow 64 (r % 64)) h hs rfl
 simp only [es_w] at st
 rw [ecall, hd]
 simp only [y23v, q1, q2, y9, ix, ld, y2kg (z3n r (by omega : 64 > 0)), yyf, st, ye]
 rfl
end
theorem y16w {α : Type} {n k : Nat} {p q : Nat → α} {v : α} (hq : q k = v) (he : ∀ j, j ≠ k → q j = p j) : ((List.range n).map p).set k v = (List.range n).map q := by
 refine z36 (by simp) fun i h1 h2 => ?_
 rw [List.getElem_set]
 simp only [List.getElem_map, List.getElem_range]
 split
 ·rename_i e; rw [← e, hq]
 ·rename_i e; rw [he i (fun h => e h.symm)]
def yay (k : Nat) (s t : Ws) : Ws := (List.range s.length).map fun j => if j < k then s.getD j 0 ||| t.getD j 0 else s.getD j 0
def yt8 (k : Nat) (s t : Ws) : Bool := (List.range k).any fun j => decide (t.getD j 0 &&& ~~~ s.getD j 0 ≠ 0)
theorem y1gt (k : Nat) (s t : Ws) : (yay k s t).length = s.length := by simp [yay]
theorem y29x (s t : Ws) : yay 0 s t = s := by
 refine z36 (by simp [yay]) fun i h1 h2 => ?_
 simp [yay, h2]
theorem y1g0 {k : Nat} {s t : Ws} {j : Nat} (h : j < s.length) : (yay k s t)[j]? = some (if j < k then s.getD j 0 ||| t.getD j 0 else s.getD j 0) := by simp [yay, h]
theorem y1sz {s t : Ws} (h : s.length = t.length) : yay s.length s t = y47 s t := by
 refine z36 (by simp [yay, y47, h]) fun i h1 h2 => ?_
 have hi : i < s.length := by simpa [yay] using h1
 have hi2 : i < t.length := by omega
 simp [yay, y47, hi, hi2]
theorem y1i3 {s t : Ws} (h : s.length = t.length) : yt8 s.length s t = yem s t := by
 rw [Bool.eq_iff_iff, yt8, yem, z3h, z3h]
 constructor
 ·rintro ⟨j, hj, hb⟩
  rw [z27] at hj
  refine ⟨true, zs (i := j) ?_, rfl⟩
  rw [z2n, z9 hj, z9 (by omega)]
  simp only [ze, z9 hj, z9 (show j < t.length by omega), Option.getD_some] at hb
  simp only [hb]
 ·rintro ⟨b, hb, h1⟩
  obtain ⟨k, hk⟩ := zz hb
  rw [z2n] at hk
  by_cases hlt : k < s.length
  ·rw [z9 hlt, z9 (show k < t.length by omega)] at hk
   simp only [Option.some.injEq] at hk
   refine ⟨k, z27.2 hlt, ?_⟩
   simp only [ze, z9 hlt, z9 (show k < t.length by omega), Option.getD_some]
   rw [hk]; exact h1
  ·rw [z12 (by omega)] at hk
   simp at hk
theorem y1qf (k : Nat) (s t : Ws) : (yay k s t).set k (s.getD k 0 ||| t.getD k 0) = yay (k + 1) s t := by
 unfold yay
 refine y16w ?_ fun j hj => ?_
 ·rw [if_pos (by omega)]
 ·by_cases h1 : j < k
  ·rw [if_pos (by omega), if_pos h1]
  ·rw [if_neg (by omega), if_neg h1]
theorem y16j (k : Nat) (s t : Ws) : yt8 (k + 1) s t = (yt8 k s t || decide (t.getD k 0 &&& ~~~ s.getD k 0 ≠ 0)) := by
 simp [yt8, List.range_succ]
theorem y1p5 (fb : Nat) {a ga b gb : Nat} {s t : Ws} (hl : s.length = t.length) (hn : s.length ≤ 9223372036854775806) (hab : a ≠ b) : ∀ (d k : Nat) (H : Heap), k + d = t.length → H[a]? = some (AW ga (yay k s t)) → H[b]? = some (AW gb t) →
  yqc fb (.ls a ga 1 0 s.length) (.bool (yt8 k s t)) (.ls b gb 1 0 t.length) (.int .i64 t.length) (.int .i64 (k : Int)) H = some (.bool (yem s t), H.set a (AW ga (y47 s t))) := by
 intro d
 induction d with
 | zero =>
  intro k H hk ha hb
  have hk' : k = t.length := by omega
  subst hk'
  have hc : ¬ ((t.length : Int) < (t.length : Int)) := by omega
  rw [yqo]
  simp only [y194, yg, y9, hc, decide_false, y1mw, y1h, y2bf]
  rw [← y1sz hl, ← y1i3 hl, hl, ymw ha]
 | succ d ih =>
  intro k H hk ha hb
  have hlt : k < t.length := by omega
  have hls : k < s.length := by omega
  have hc : ((k : Int) < (t.length : Int)) := by omega
  have hw := y2x hlt (by omega)
  have ixA := yg8 (n := s.length) (p := (k : Int)) (by omega) (by omega) a ga .i64
  have ixB := yg8 (n := t.length) (p := (k : Int)) (by omega) (by omega) b gb .i64
  rw [z2f] at ixA ixB
  have gA := y1g0 (k := k) (t := t) hls
  rw [if_neg (Nat.lt_irrefl _)] at gA
  have lA := ynm (α := BitVec 64) (H := H) (id := a) (g := ga) (i := k) (v := .int .u64 (s.getD k 0).toNat) ha gA rfl
  have lB := ynm (α := BitVec 64) (H := H) (id := b) (g := gb) (i := k) (v := .int .u64 (t.getD k 0).toNat) hb (by rw [z9 hlt]) (by rw [ze, z9 hlt]; rfl)
  have st := yex (α := BitVec 64) (H := H) (id := a) (g := ga) (i := k) (L := yay k s t) (v := .int .u64 (s.getD k 0 ||| t.getD k 0).toNat) (y := s.getD k 0 ||| t.getD k 0) ha (by rw [y1gt]; exact hls) rfl
  rw [y1qf] at st
  simp only [es_w] at st
  have ih0 := ih (k + 1) (H.set a (AW ga (yay (k + 1) s t))) (by omega) (y2f (y3l ha)) (by rw [yn hab]; exact hb)
  rw [z2r, y16j] at ih0
  push_cast at ih0
  rw [yqo]
  cases hm : yt8 k s t with
  | true =>
   rw [hm, z2x] at ih0
   simp only [y194, yg, y9, hc, decide_true, y1mw, y1b, y1tv, ixB, lB, y72, y1f, ixA, lA, or_w, st, ye, y20k, yz, hw, ih0]
  | false =>
   rw [hm, z1x] at ih0
   simp only [y194, yg, y9, hc, decide_true, y1mw, y1b, y1tv, ixB, lB, y4y, y1g, ixA, lA, yyf, y2og, or_w, st, ye, y20k, yz, hw]
   exact ih0
theorem y1ag {H : Heap} {a ga b gb : Nat} {s t : Ws} (ha : H[a]? = some (AW ga s)) (hb : H[b]? = some (AW gb t)) (hl : s.length = t.length) (hn : s.length ≤ 9223372036854775806) (hab : a ≠ b) :
  yc E (yd E) 0 none false 84 [.ls a ga 1 0 s.length, .ls b gb 1 0 t.length] H = some (.bool (yem s t), H.set a (AW ga (y47 s t))) := by
 have hd : H ++ yj 0 = H := by simp [yj]
 rw [yc, if_neg (by simp), y2tw, if_pos rfl, hd]
 have lp := y1p5 H.length (ga := ga) (gb := gb) hl hn hab _ 0 H (zd _) (by rw [y29x]; exact ha) hb
 simp only [Int.ofNat_zero] at lp
 simp only [y1gu, y1cn, y28r, y211, y9]
 exact lp
end Go.Vm
namespace Go.Vm
open Cel
attribute [local simp] yc y34 y1s
@[simp] theorem y2qf (x : Ins) : (yd E).p 18 [.agg (enc x)] = some ⟨.bool (throws x.op), [], true, [], []⟩ := by
 rw [y2s7]
 rcases ydm x.op with h|h|h|h|h|h|h|h|h|h|h|h|h|h|h|h|h|h|h|h|h|h|h|h|h|h|h|h|h|h|h|h|h|h|h <;> first | (simp [h, throws, calls, y1h0]; done) | (simp [lo_f h, throws, calls, y1h0]; done) | simp [hi_f h, throws, calls, y1h0]
end Go.Vm
namespace Go.Vm
open Cel
attribute [local simp] yc y34 y1s
theorem y2m8 {α : Type} [Cel α] (o : Option (List α)) (i : Nat) (h : i ≤ (lst o).length) (k : IntKind) : y79 (es α) (slA o) none (some (.int k i)) = some (slA (o.map (List.take i))) := by
 have h2 : (0 : Int) ≤ (i : Int) ∧ (i : Int) ≤ ((lst o).length : Int) := by omega
 cases o with
 | none =>
  have : i = 0 := by simpa using h
  subst this
  simp [y79, slA, yrj, ybv, yo8]
 | some L =>
  simp only [y57] at h2
  simp [y79, slA, yrj, ybv, yo8, h2, List.map_take]
theorem y178 (o : Option (List Int)) (r : Int) (hl : (lst o).length ≤ 9223372036854775807) (h : Heap) : ∀ (d i : Nat), i + d = (lst o).length →
  ∃ k : Int, yhs (slA o) (.int .i64 r) (.int .i64 (lst o).length) (.int .i64 i) h = some ⟨.int .i64 k, [], true, [], []⟩ ∧ (0 ≤ k ↔ r ∈ (lst o).drop i) := by
 intro d
 induction d with
 | zero =>
  intro i hi
  have e1 : (lst o).drop i = [] := z1b (by omega)
  have hn : ¬ ((i : Int) < ((lst o).length : Int)) := by omega
  rw [ykr, e1]
  exact ⟨-1, by simp [ymk, ykq, yl8, yl9, yly, ykf, yf0, hn], by simp⟩
 | succ d ih =>
  intro i hi
  have hlt : i < (lst o).length := by omega
  have hn : ((i : Int) < ((lst o).length : Int)) := by omega
  have k1 := y3j (o := o) (i := i) (z9 hlt) .i64
  have hm : r ∈ (lst o).drop i ↔ r = (lst o)[i] ∨ r ∈ (lst o).drop (i + 1) := by rw [zk hlt, zq]
  rw [ykr, hm]
  by_cases he : r = (lst o)[i]
  ·exact ⟨i, by simp [ymk, ykq, yl8, yl9, yly, ykf, yf0, hn, k1, he], by simp [he]⟩
  ·obtain ⟨k, h1, h2⟩ := ih (i + 1) (by omega)
   push_cast at h1
   refine ⟨k, ?_, ?_⟩
   ·simp [ymk, ykq, yl8, yl9, yly, ykf, yf0, hn, k1, he, y2x hlt hl, h1]
   ·rw [h2]; simp [he]
@[simp] theorem yb1 (o : Option (List Int)) (r : Int) (hl : (lst o).length ≤ 9223372036854775807) : (yd E).p 46 [slA o, .int .i64 r] = some ⟨.bool ((lst o).contains r), [], true, [], []⟩ := by
 obtain ⟨k, h1, h2⟩ := y178 o r hl [] (lst o).length 0 (by omega)
 simp only [Int.ofNat_zero, List.drop_zero] at h1 h2
 have hi : (yd E).p 45 [slA o, .int .i64 r] = some ⟨.int .i64 k, [], true, [], []⟩ := by
  rw [y2lu, ← h1]
  simp [ymk, ykq, yl8, yl9, yly, ykf, yf0]
 rw [y2om]
 by_cases h0 : 0 ≤ k
 ·have := h2.1 h0
  simp [yx1, hi, h0, this]
 ·have : r ∉ lst o := fun h => h0 (h2.2 h)
  simp [yx1, hi, h0, this]
end Go.Vm
namespace Go.Vm
open Cel
attribute [local simp] yc y34 y1s
theorem yp1 (a b : Int) : (yd E).p 46 [.rs 1 [[.int .i64 a]], .int .i64 b] = some ⟨.bool ([a].contains b), [], true, [], []⟩ := by
 have := yb1 (some [a]) b (by simp)
 exact this
theorem y2my (f : Fn) (i : Int) (hl : (lst f.code).length ≤ 9223372036854775807) : (yd E).p 81 [.agg (enc f), .int .i64 i] = some (exO (nz (y40 f i))) := by
 rw [y2s8]
 by_cases h0 : i < 0
 ·simp [yk5, yk1, yk4, y1of, y1ri, y1ew, y17c, h0, y40, nz]; rfl
 by_cases h1 : ((lst f.code).length : Int) ≤ i
 ·simp [yk5, yk1, yk4, y1of, y1ri, y1ew, y17c, h0, h1, y40, nz]; rfl
 have g0 : 0 ≤ i := by omega
 have hx := y5t (f := f) (i := i.toNat) (by omega)
 have k1 := ycr (o := f.code) g0 hx .i64
 have hw := y1hz g0 (by omega) hl
 have hn : y40 f i = y165 (y26 f i.toNat) i := by rw [y40, if_neg (by omega)]
 rw [hn]
 generalize y26 f i.toNat = x at *
 have e : y17c (.agg (enc f)) (.int .i64 i) [⟨0, .dead⟩, ⟨0, .dead⟩, ⟨0, .dead⟩, ⟨0, .dead⟩, ⟨0, .dead⟩, ⟨0, .dead⟩] = yk4 (.int .i64 i) (.lp 1 1 0 0) .nils [⟨1, .arr true false 5 [enc f]⟩, ⟨1, .arr true false 9 [enc x]⟩, ⟨0, .dead⟩, ⟨0, .dead⟩, ⟨0, .dead⟩, ⟨0, .dead⟩] := by
  simp [y17c, y1ew, y1ri, y1of, h0, h1, k1]
 rw [e, y165]
 cases he : ends x.op with
 | true =>
  cases hd : leads x.op with
  | false => simp [yk4, yk1, yk5, he, hd, nz]; rfl
  | true =>
   have := yb1 none x.t (by simp)
   simp [yk4, yk1, yk5, he, hd, nz, slA] at this ⊢
   simp [this, yl, y1i, y1v, addN]
   exact yev (by simp)
 | false =>
  cases hd : leads x.op with
  | false =>
   simp [yk4, yk1, yk5, he, hd, hw, yl, y1i, y1v]
   exact yev (by simp)
  | true =>
   have hz : fz [⟨1, .arr true false 5 [enc f]⟩, ⟨1, .arr true false 9 [enc x]⟩, ⟨1, .arr false false 1 [[.int .i64 (i + 1)]]⟩, ⟨1, .arr false false 1 [[.int .i64 (i + 1)]]⟩, ⟨0, .dead⟩, ⟨0, .dead⟩] y1m (.ls 3 1 1 0 1) = some ⟨.rs 1 [[.int .i64 (i + 1)]], true, [3]⟩ := by
    rw [y294]; rfl
   generalize hxt : x.t = t at *
   by_cases hc : i + 1 = t
   ·subst hc
    simp [yk4, yk1, yk5, he, hd, hw, yl, y1i, y1v, hz, yp1, addN, hxt]
    exact yev (by simp)
   ·have hc' : ¬ t = i + 1 := fun h => hc h.symm
    simp [yk4, yk1, yk5, he, hd, hw, yl, y1i, y1v, hz, yp1, hc, hc', addN, hxt]
    exact y175 (by simp)
theorem yt2 (f : Fn) (i : Int) (hl : (lst f.rows).length ≤ 10000000000000) : ∀ (d k g : Nat) (L : List Int) (o1 o2 : AO), k + d = (lst f.rows).length → L.length ≤ k →
  ys8 (.int .i64 i) (y1c Int 3 g L) (slA f.rows) (.int .i64 (lst f.rows).length) (.int .i64 k) [⟨1, .arr true false 5 [enc f]⟩, o1, o2, y2l g D0 L] = some (exO (nz (y4h i ((lst f.rows).drop k) L))) := by
 intro d
 induction d with
 | zero =>
  intro k g L o1 o2 hk _
  have e1 : (lst f.rows).drop k = [] := z1b (by omega)
  have hn : ¬ ((k : Int) < ((lst f.rows).length : Int)) := by omega
  have hx := yif (H := [⟨1, .arr true false 5 [enc f]⟩, o1, o2, y2l g D0 L]) (j := 3) (g := g) (o := D0) (L := L) rfl
  rw [yrg, e1]
  simp [yqm, y12v, y1qt, hn, y4h, hx]
 | succ d ih =>
  intro k g L o1 o2 hk hL
  have hlt : k < (lst f.rows).length := by omega
  have hc : ((k : Int) < ((lst f.rows).length : Int)) := by omega
  have k1 := ytc (o := f.rows) (i := k) (z9 hlt) .i64
  rw [yrg, zk hlt]
  generalize hr : (lst f.rows)[k] = r at *
  have ih0 := fun g L o1 o2 hL => ih (k + 1) g L o1 o2 (by omega) hL
  push_cast at ih0
  have hw := y2x hlt (by omega)
  have e11 : yqm (.int .i64 i) (y1c Int 3 g L) (slA f.rows) (.int .i64 (lst f.rows).length) (.int .i64 k) [⟨1, .arr true false 5 [enc f]⟩, o1, o2, y2l g D0 L] =
    yuv (.int .i64 i) (y1c Int 3 g L) (.lp 1 (o1.gen + 1) 0 0) (slA f.rows) (.int .i64 (lst f.rows).length) (.int .i64 k) [⟨1, .arr true false 5 [enc f]⟩, ⟨o1.gen + 1, .arr true false 4 [enc r]⟩, o2, y2l g D0 L] := by
   simp [yqm, y12v, y2cm, hc, k1]
  rw [e11]
  generalize (o1.gen + 1) = g1
  by_cases h1 : i < r.f
  ·have : ¬ (r.f ≤ i ∧ i < r.t) := by omega
   simp [yuv, y161, h1, hw, y4h, this, ih0 g L _ _ (by omega)]
  by_cases h2 : r.t ≤ i
  ·have : ¬ (r.f ≤ i ∧ i < r.t) := by omega
   simp [yuv, y161, h1, h2, hw, y4h, this, ih0 g L _ _ (by omega)]
  have hin : r.f ≤ i ∧ i < r.t := by omega
  rw [y4h, if_pos hin]
  have hz : ∀ o2, fz [⟨1, .arr true false 5 [enc f]⟩, ⟨g1, .arr true false 4 [enc r]⟩, o2, y2l g D0 L] y1m (y1c Int 3 g L) = some ⟨slA (nz L), true, ids1 (y1c Int 3 g L)⟩ := fun o2 => y1xs rfl
  have hct := yb1 (nz L) r.at_ (by rw [y4t]; omega)
  rw [y4t] at hct
  have tail : ∀ g L o2, L.length ≤ k + 1 → y16z (.int .i64 i) (y1c Int 3 g L) (.lp 1 g1 0 0) (slA f.rows) (.int .i64 (lst f.rows).length) (.int .i64 k) [⟨1, .arr true false 5 [enc f]⟩, ⟨g1, .arr true false 4 [enc r]⟩, o2, y2l g D0 L] =
    some (exO (nz (if r.c = [] then L else y4h i ((lst f.rows).drop (k + 1)) L))) := by
   intro g L o2 hL
   have hx := yif (H := [⟨1, .arr true false 5 [enc f]⟩, ⟨g1, .arr true false 4 [enc r]⟩, o2, y2l g D0 L]) (j := 3) (g := g) (o := D0) (L := L) rfl
   by_cases hcl : r.c = []
   ·simp [y16z, y1qt, hcl, hx]
   ·simp [y16z, y161, hcl, hw, ih0 g L _ _ hL]
  unfold addN
  cases hb : L.contains r.at_ with
  | true =>
   rw [hb] at hct
   rw [if_pos rfl]
   have := tail g L o2 (by omega)
   simp [yuv, y1x1, h1, h2, hz, hct, this]
  | false =>
   rw [hb] at hct
   rw [if_neg zv]
   obtain ⟨g', ha⟩ := ymu (H := [⟨1, .arr true false 5 [enc f]⟩, ⟨g1, .arr true false 4 [enc r]⟩, ⟨o2.gen + 1, .arr false false 1 [[.int .i64 r.at_]]⟩, y2l g D0 L]) (fb := 0) (j := 3) (g := g) (o := D0) (y := .ls 2 (o2.gen + 1) 1 0 1) (L := L) (n := r.at_) (by simp) rfl (by omega)
   have ha' : y1v 0 (some 3) 1 8 (y1c Int 3 g L) (.ls 2 (o2.gen + 1) 1 0 1) [⟨1, .arr true false 5 [enc f]⟩, ⟨g1, .arr true false 4 [enc r]⟩, ⟨o2.gen + 1, .arr false false 1 [[.int .i64 r.at_]]⟩, y2l g D0 L] = some (y1c Int 3 g' (L ++ [r.at_]), [⟨1, .arr true false 5 [enc f]⟩, ⟨g1, .arr true false 4 [enc r]⟩, ⟨o2.gen + 1, .arr false false 1 [[.int .i64 r.at_]]⟩, y2l g' D0 (L ++ [r.at_])]) := ha
   have := tail g' (L ++ [r.at_]) ⟨o2.gen + 1, .arr false false 1 [[.int .i64 r.at_]]⟩ (by simp; omega)
   simp [yuv, y1x1, h1, h2, hz, hct, yl, y1i, ha', this]
theorem y216 (f : Fn) (i : Int) (hl : (lst f.rows).length ≤ 10000000000000) : (yd E).p 79 [.agg (enc f), .int .i64 i] = some (exO (nz (y1y f i))) := by
 rw [y2qt]
 by_cases h0 : i < 0
 ·simp [ykp, yls, h0, y1y, nz]; rfl
 by_cases h1 : ((lst f.code).length : Int) ≤ i
 ·simp [ykp, yls, h0, h1, y1y, nz]; rfl
 have g0 : 0 ≤ i := by omega
 have hx := y5t (f := f) (i := i.toNat) (by omega)
 have k1 := ycr (o := f.code) g0 hx .i64
 have hn : y1y f i = if throws (y26 f i.toNat).op then y4h i (lst f.rows) [] else [] := by rw [y1y, if_neg (by omega)]
 rw [hn]
 generalize y26 f i.toNat = x at *
 have lp := yt2 f i hl _ 0 0 [] D0 D0 (zd _) (z2s _)
 simp only [ys5, y1al, List.drop_zero, Int.ofNat_zero] at lp
 cases ht : throws x.op with
 | false => simp [ykp, yls, h0, h1, k1, ht, nz]; rfl
 | true => simp [ykp, yls, y1hp, y1a7, h0, h1, k1, ht, lp]
end Go.Vm
namespace Go.Vm
open Cel
def tk (t : Tb) : Nat → List Ws
 | 0 => t.b
 | 1 => t.a
 | _ => t.h
def setk (t : Tb) (k i : Nat) (x : Ws) : Tb := match k with
 | 0 => ⟨t.b.set i x, t.a, t.h⟩
 | 1 => ⟨t.b, t.a.set i x, t.h⟩
 | _ => ⟨t.b, t.a, t.h.set i x⟩
abbrev Plc := Nat → Nat → Nat × Nat
abbrev Arr := Nat → Nat × Nat
def ysc (P : Plc) (W k n : Nat) : List (List AV) := (List.range n).map fun i => [.ls (P k i).1 (P k i).2 1 0 W]
structure LvRep (f : Fn) (P : Plc) (Q : Arr) (H : Heap) (t : Tb) : Prop where
 box : H[0]? = some (AB f)
 tb : H[1]? = some ⟨1, .arr true false 4 [[.ls (Q 0).1 (Q 0).2 1 0 (lst f.code).length, .ls (Q 1).1 (Q 1).2 1 0 (lst f.code).length, .ls (Q 2).1 (Q 2).2 1 0 (lst f.code).length, .int .i64 (lst f.regs).length]]⟩
 arr : ∀ k, k < 3 → H[(Q k).1]? = some ⟨(Q k).2, .arr false false 1 (ysc P ((lst f.regs).length / 64 + 1) k (lst f.code).length)⟩
 row : ∀ k, k < 3 → ∀ i, i < (lst f.code).length → H[(P k i).1]? = some (AW (P k i).2 (rowW (tk t k) i))
 inj : ∀ k k' i i', k < 3 → k' < 3 → i < (lst f.code).length → i' < (lst f.code).length → (P k i).1 = (P k' i').1 → k = k' ∧ i = i'
 off : ∀ k k' i, k < 3 → k' < 3 → i < (lst f.code).length → (P k i).1 ≠ (Q k').1
 farP : ∀ k i, k < 3 → i < (lst f.code).length → 3 ≤ (P k i).1
 farQ : ∀ k, k < 3 → 3 ≤ (Q k).1
 injQ : ∀ k k', k < 3 → k' < 3 → (Q k).1 = (Q k').1 → k = k'
 size : 3 ≤ H.length
 ok : TbOk (lst f.code).length ((lst f.regs).length / 64 + 1) t
section
variable {f : Fn} {P : Plc} {Q : Arr} {H : Heap} {t : Tb} (L : LvRep f P Q H t)
include L
theorem LvRep.len {k i : Nat} (hk : k < 3) (hi : i < (lst f.code).length) : (rowW (tk t k) i).length = (lst f.regs).length / 64 + 1 := by
 match k, hk with
 | 0, _ => exact L.ok.bw i hi
 | 1, _ => exact L.ok.aw i hi
 | 2, _ => exact L.ok.hw i hi
theorem LvRep.slot (x : AO) : LvRep f P Q (H.set 2 x) t := by
 refine ⟨?_, ?_, fun k hk => ?_, fun k hk i hi => ?_, L.inj, L.off, L.farP, L.farQ, L.injQ, by rw [zh]; exact L.size, L.ok⟩
 ·rw [yn (by omega)]; exact L.box
 ·rw [yn (by omega)]; exact L.tb
 ·have := L.farQ k hk
  rw [yn (by omega)]; exact L.arr k hk
 ·have := L.farP k i hk hi
  rw [yn (by omega)]; exact L.row k hk i hi
theorem LvRep.put {k i : Nat} (hk : k < 3) (hi : i < (lst f.code).length) {x : Ws} (hx : x.length = (lst f.regs).length / 64 + 1) : LvRep f P Q (H.set (P k i).1 (AW (P k i).2 x)) (setk t k i x) := by
 have fp := L.farP k i hk hi
 have hrow : ∀ k' j, k' < 3 → j < (lst f.code).length → rowW (tk (setk t k i x) k') j = if k' = k ∧ j = i then x else rowW (tk t k') j := by
  intro k' j hk' hj
  match k, hk, k', hk' with
  | 0, _, 0, _ => simp only [setk, tk]; rw [y53 (by rw [L.ok.b]; exact hi)]; simp
  | 1, _, 1, _ => simp only [setk, tk]; rw [y53 (by rw [L.ok.a]; exact hi)]; simp
  | 2, _, 2, _ => simp only [setk, tk]; rw [y53 (by rw [L.ok.h]; exact hi)]; simp
  | 0, _, 1, _ => simp [setk, tk]
  | 0, _, 2, _ => simp [setk, tk]
  | 1, _, 0, _ => simp [setk, tk]
  | 1, _, 2, _ => simp [setk, tk]
  | 2, _, 0, _ => simp [setk, tk]
  | 2, _, 1, _ => simp [setk, tk]
 have hlen : ∀ k' j, k' < 3 → j < (lst f.code).length → (rowW (tk (setk t k i x) k') j).length = (lst f.regs).length / 64 + 1 := by
  intro k' j hk' hj
  rw [hrow k' j hk' hj]
  split
  ·exact hx
  ·exact L.len hk' hj
 refine ⟨?_, ?_, fun k' hk' => ?_, fun k' hk' j hj => ?_, L.inj, L.off, L.farP, L.farQ, L.injQ, by rw [zh]; exact L.size, ?_⟩
 ·rw [yn (by omega)]; exact L.box
 ·rw [yn (by omega)]; exact L.tb
 ·rw [yn (L.off k k' i hk hk' hi)]; exact L.arr k' hk'
 ·rw [hrow k' j hk' hj]
  by_cases e : k' = k ∧ j = i
  ·obtain ⟨e1, e2⟩ := e
   subst e1; subst e2
   rw [if_pos ⟨rfl, rfl⟩]
   exact y2f (y3l (L.row k' hk j hi))
  ·rw [if_neg e, yn (fun h => e (by
    obtain ⟨a, b⟩ := L.inj k k' i j hk hk' hi hj h
    exact ⟨a.symm, b.symm⟩))]
   exact L.row k' hk' j hj
 ·refine ⟨?_, ?_, ?_, fun j hj => hlen 0 j (by omega) hj, fun j hj => hlen 1 j (by omega) hj, fun j hj => hlen 2 j (by omega) hj⟩
  ·match k, hk with
   | 0, _ => simp only [setk, zh]; exact L.ok.b
   | 1, _ => exact L.ok.b
   | 2, _ => exact L.ok.b
  ·match k, hk with
   | 0, _ => exact L.ok.a
   | 1, _ => simp only [setk, zh]; exact L.ok.a
   | 2, _ => exact L.ok.a
  ·match k, hk with
   | 0, _ => exact L.ok.h
   | 1, _ => exact L.ok.h
   | 2, _ => simp only [setk, zh]; exact L.ok.h
theorem LvRep.fld {k : Nat} (hk : k < 3) : evLd false 1 (.lp 1 1 0 k) H = some (.ls (Q k).1 (Q k).2 1 0 (lst f.code).length) := by
 have hr : yr H 1 1 = some (false, 4, [[.ls (Q 0).1 (Q 0).2 1 0 (lst f.code).length, .ls (Q 1).1 (Q 1).2 1 0 (lst f.code).length, .ls (Q 2).1 (Q 2).2 1 0 (lst f.code).length, .int .i64 (lst f.regs).length]]) := by simp [yr, y23, L.tb]
 rw [y41, hr]
 match k, hk with
 | 0, _ => rfl
 | 1, _ => rfl
 | 2, _ => rfl
theorem LvRep.at {k i : Nat} (hk : k < 3) (hi : i < (lst f.code).length) : evLd false 1 (.lp (Q k).1 (Q k).2 i 0) H = some (.ls (P k i).1 (P k i).2 1 0 ((lst f.regs).length / 64 + 1)) :=
 y263 (L.arr k hk) (by simp [ysc, hi])
theorem LvRep.join {k k' i j : Nat} (hk : k < 3) (hi : i < (lst f.code).length) (hk' : k' < 3) (hj : j < (lst f.code).length) (hR : (lst f.regs).length ≤ 20000) (hne : k ≠ k') :
  yc E (yd E) 0 none false 84 [.ls (P k i).1 (P k i).2 1 0 ((lst f.regs).length / 64 + 1), .ls (P k' j).1 (P k' j).2 1 0 ((lst f.regs).length / 64 + 1)] H =
   some (.bool (yem (rowW (tk t k) i) (rowW (tk t k') j)), H.set (P k i).1 (AW (P k i).2 (y47 (rowW (tk t k) i) (rowW (tk t k') j)))) := by
 have h1 := L.len hk hi
 have h2 := L.len hk' hj
 have := y1ag (L.row k hk i hi) (L.row k' hk' j hj) (by rw [h1, h2]) (by rw [h1]; omega) (fun e => hne (L.inj k k' i j hk hk' hi hj e).1)
 rw [h1, h2] at this
 exact this
end
theorem ykl {f : Fn} {P : Plc} {Q : Arr} (hR : (lst f.regs).length ≤ 20000) {k i : Nat} (hk : k < 3) (hk0 : k ≠ 0) (hi : i < (lst f.code).length) {l : List Int} (hl : ∀ to ∈ l, 0 ≤ to ∧ to < ((lst f.code).length : Int)) (G : Nat → Heap → Option (Ex AV))
  (step : ∀ m to H t, l[m]? = some to → LvRep f P Q H t → G m H = oh (yc E (yd E) 0 none false 84 [.ls (P k i).1 (P k i).2 1 0 ((lst f.regs).length / 64 + 1), .ls (P 0 to.toNat).1 (P 0 to.toNat).2 1 0 ((lst f.regs).length / 64 + 1)] H) fun _ H' => G (m + 1) H') :
  ∀ (d m : Nat) (H : Heap) (t : Tb), m + d = l.length → LvRep f P Q H t →
  ∃ H', G m H = G l.length H' ∧ LvRep f P Q H' (setk t k i (joins t.b (l.drop m) (rowW (tk t k) i))) := by
 intro d
 induction d with
 | zero =>
  intro m H t hm L
  have e : l.drop m = [] := z1b (by omega)
  have hm' : m = l.length := by omega
  rw [e, hm']
  refine ⟨H, rfl, ?_⟩
  have : setk t k i (joins t.b [] (rowW (tk t k) i)) = t := by
   have hs : ∀ (l : List Ws), i < l.length → l.set i (rowW l i) = l := fun l h => by
    refine z36 (by simp) fun j h1 h2 => ?_
    rw [List.getElem_set]
    split
    ·rename_i e; subst e; simp [rowW, ze, z9 h]
    ·rfl
   match k, hk with
   | 0, _ => simp only [setk, tk, joins, List.foldl_nil]; rw [hs _ (by rw [L.ok.b]; exact hi)]
   | 1, _ => simp only [setk, tk, joins, List.foldl_nil]; rw [hs _ (by rw [L.ok.a]; exact hi)]
   | 2, _ => simp only [setk, tk, joins, List.foldl_nil]; rw [hs _ (by rw [L.ok.h]; exact hi)]
  rw [this]; exact L
 | succ d ih =>
  intro m H t hm L
  have hlt : m < l.length := by omega
  have hto := hl _ (z1n hlt)
  have st := step m _ H t (z9 hlt) L
  rw [zk hlt]
  generalize l[m] = to at *
  have hj : to.toNat < (lst f.code).length := by omega
  have h1 := L.len hk hi
  have h2 := L.len (k := 0) (by omega) hj
  rw [L.join hk hi (by omega) hj hR hk0, ye] at st
  have L2 := L.put hk hi (x := y47 (rowW (tk t k) i) (rowW (tk t 0) to.toNat)) (by rw [y4q (by rw [h1, h2]), h1])
  obtain ⟨H', e, L3⟩ := ih (m + 1) _ _ (by omega) L2
  refine ⟨H', by rw [st, e], ?_⟩
  have eb : (setk t k i (y47 (rowW (tk t k) i) (rowW (tk t 0) to.toNat))).b = t.b := by
   match k, hk, hk0 with
   | 1, _, _ => rfl
   | 2, _, _ => rfl
  have er : rowW (tk (setk t k i (y47 (rowW (tk t k) i) (rowW (tk t 0) to.toNat))) k) i = y47 (rowW (tk t k) i) (rowW t.b to.toNat) := by
   match k, hk, hk0 with
   | 1, _, _ => simp only [setk, tk]; rw [y53 (by rw [L.ok.a]; exact hi), if_pos rfl]
   | 2, _, _ => simp only [setk, tk]; rw [y53 (by rw [L.ok.h]; exact hi), if_pos rfl]
  have ess : ∀ y x, setk (setk t k i y) k i x = setk t k i x := fun y x => by
   match k, hk with
   | 0, _ => simp [setk]
   | 1, _ => simp [setk]
   | 2, _ => simp [setk]
  rw [eb, er, ess] at L3
  exact L3
end Go.Vm
namespace Go.Vm
open Cel
theorem y1pf {f : Fn} {H : Heap} (h : H[0]? = some (AB f)) : evLd true 5 (.lp 0 1 0 0) H = some (.agg (enc f)) := by
 have hr : yr H 0 1 = some (false, 5, [enc f]) := by simp [yr, y23, h]
 simp [y41, hr]
theorem yvg {f : Fn} {H : Heap} (h : H[0]? = some (AB f)) : evLd false 1 (.lp 0 1 0 3) H = some (slA f.code) := by
 have hr : yr H 0 1 = some (false, 5, [enc f]) := by simp [yr, y23, h]
 simp [y41, hr]
theorem y269 (f : Fn) (i : Int) (H : Heap) : yv (fz H y1m) [.agg (enc f), .int .i64 i] = some ⟨[.agg (enc f), .int .i64 i], scal f && (true && true), []⟩ := by
 rw [ym, ym, y6h, yn1, y1k]; rfl
theorem y2hz (x : Ins) (H : Heap) : yv (fz H y1m) [.agg (enc x)] = some ⟨[.agg (enc x)], scal x && true, []⟩ := by
 rw [ym, y6h, y1k]; rfl
theorem y2cc {s : Ws} (h : 1 ≤ s.length) : (s.map enc).isEmpty = false := by
 cases s with
 | nil => simp at h
 | cons a s => rfl
theorem y2aw {H : Heap} {id g j : Nat} {o : AO} {s : Ws} (h : H[id]? = some (AW g s)) (ho : H[j]? = some o) (h1 : 1 ≤ s.length) (h2 : s.length ≤ 1000000) :
  y1v 0 (some j) 1 8 .nils (.ls id g 1 0 s.length) H = some (.ls j (o.gen + 1) 1 0 s.length, H.set j (AW (o.gen + 1) s)) := by
 have hy := y2e9 (α := BitVec 64) h
 simp only [es_w] at hy
 have hb : s.length * 8 ≤ 2 ^ 48 := by omega
 unfold y1v
 rw [hy]
 simp only [y2cc h1, zy, hb, if_true, zp, if_false, y2k, place, zd, ho]
theorem y1p3 {W : Nat} {o : Option (List Int)} (hl : (lst o).length ≤ 9223372036854775806) (hu : ∀ u ∈ lst o, 0 ≤ u ∧ u < 20000 ∧ u.toNat / 64 < W) (v1 v3 v5 v6 v7 : AV) (g : Nat) : ∀ (d m : Nat) (H : Heap) (s : Ws), m + d = (lst o).length → H[2]? = some (AW g s) → s.length = W →
  ysi v1 v3 v5 v6 v7 (.ls 2 g 1 0 W) (slA o) (.int .i64 (lst o).length) (.int .i64 (m : Int)) H = y173 v1 v3 v5 v6 v7 (.ls 2 g 1 0 W) (H.set 2 (AW g (adds ((lst o).drop m) s))) := by
 intro d
 induction d with
 | zero =>
  intro m H s hm hs hW
  have hm' : m = (lst o).length := by omega
  have e : (lst o).drop m = [] := z1b (by omega)
  have hc : ¬ ((m : Int) < ((lst o).length : Int)) := by omega
  rw [e, yrv]
  have ha : adds [] s = s := rfl
  simp only [yys, yg, y9, hc, decide_false, y1x8, y1h, ha, ymw hs]
 | succ d ih =>
  intro m H s hm hs hW
  have hlt : m < (lst o).length := by omega
  have hc : ((m : Int) < ((lst o).length : Int)) := by omega
  have hw := y2x hlt (by omega)
  have kx := y3j (z9 hlt) .i64
  have hu1 := hu _ (z1n hlt)
  rw [zk hlt, yrv]
  generalize (lst o)[m] = u at *
  have lx : ∀ t : Heap, evLd false 1 (.rp [.int .i64 u]) t = some (.int .i64 u) := fun t => by simp
  have eu : ((u.toNat : Nat) : Int) = u := by omega
  have ad := y2ro (H := H) hs (r := u.toNat) (by omega) (by omega)
  rw [eu, hW] at ad
  have ih1 := ih (m + 1) (H.set 2 (AW g (addW s u.toNat))) (addW s u.toNat) (by omega) (y2f (y3l hs)) (by rw [yn9, hW])
  rw [z2r] at ih1
  push_cast at ih1
  have ha : adds (u :: (lst o).drop (m + 1)) s = adds ((lst o).drop (m + 1)) (addW s u.toNat) := rfl
  rw [ha]
  simp only [yys, yg, y9, hc, decide_true, y1x8, y1b, y2bk, kx, lx, ad, ye, y2cw, yz, hw, ih1]
section
variable {f : Fn} (w : Wf f) (hr : (lst f.rows).length ≤ 10000000000000) (hx : ∀ x ∈ lst f.code, (lst x.args).length ≤ 17592186043904) {P : Plc} {Q : Arr}
include w hr hx
set_option maxHeartbeats 1000000 in
theorem y20g {i : Nat} (hi : i < (lst f.code).length) (m : Bool) (H : Heap) (t : Tb) (L : LvRep f P Q H t) :
  ∃ H', yhc (.lp 0 1 0 0) (.int .i64 (lst f.code).length) (.lp 1 1 0 0) (.bool m) (.int .i64 (i : Int)) H =
   y1yf (.lp 0 1 0 0) (.int .i64 (lst f.code).length) (.lp 1 1 0 0) (.bool (yk9 f t i || m)) (.int .i64 (i : Int)) H' ∧ LvRep f P Q H' (y4z f t i) := by
 have hn := w.n2
 have hR := w.regs
 have hge : (0 : Int) ≤ (i : Int) := by omega
 have cN : ∀ H, yc E (yd E) 0 none true 81 [.agg (enc f), .int .i64 (i : Int)] H = some (slA (nz (y40 f i)), H) := fun H => y18 rfl (y269 f i H) rfl (y2my f i (by omega)) ⟨_, y13n _, rfl⟩
 have cC : ∀ H, yc E (yd E) 0 none true 79 [.agg (enc f), .int .i64 (i : Int)] H = some (slA (nz (y1y f i)), H) := fun H => y18 rfl (y269 f i H) rfl (y216 f i (by omega)) ⟨_, y13n _, rfl⟩
 have cD : ∀ H, yc E (yd E) 0 none true 9 [.agg (enc (y26 f i))] H = some (.int .i64 (defr (y26 f i)), H) := fun H => y18 rfl (y2hz _ H) rfl (y2ky _) ⟨_, rfl, rfl⟩
 have hxa := hx _ (zs (y5t hi))
 have cU : ∀ H, yc E (yd E) 0 none true 10 [.agg (enc (y26 f i))] H = some (slA (uses (y26 f i)), H) := fun H => y18 rfl (y2hz _ H) rfl (y27h _ hxa) ⟨_, y13n _, rfl⟩
 have lN := y1ou f i
 have lC := w.caught_len i
 have nc : ∀ a b c d, yp (.lp a b c d) = some (.lp a b c d) := fun _ _ _ _ => rfl
 have ixQ : ∀ (k : Nat) (j : Int), 0 ≤ j → j < (lst f.code).length → y10 1 (.ls (Q k).1 (Q k).2 1 0 (lst f.code).length) (.int .i64 j) = some (.lp (Q k).1 (Q k).2 j.toNat 0) := fun k j h0 h1 => yg8 h0 h1 _ _ .i64
 -- behind it
 obtain ⟨H1, e1, L1⟩ := ykl (f := f) (P := P) (Q := Q) hR (k := 1) (i := i) (by omega) (by omega) hi (l := y40 f i) (fun to h => w.next hi h)
  (fun q H => yc5 (.lp 0 1 0 0) (.int .i64 (lst f.code).length) (.lp 1 1 0 0) (.bool m) (.int .i64 (i : Int)) (slA (nz (y40 f i))) (.int .i64 (y40 f i).length) (.int .i64 (q : Int)) H)
  (fun q to H t hk L => by
   have hlt := (zb.1 hk).1
   have hto := w.next hi (zs hk)
   have hc : ((q : Int) < ((y40 f i).length : Int)) := by omega
   have hw2 := y2x hlt (by omega)
   have kx := y3j (o := nz (y40 f i)) (i := q) (by rw [y4t]; exact hk) .i64
   have lx : ∀ t : Heap, evLd false 1 (.rp [.int .i64 to]) t = some (.int .i64 to) := fun t => by simp
   have a1 := L.fld (k := 1) (by omega)
   have a0 := L.fld (k := 0) (by omega)
   have b1 := L.at (k := 1) (i := i) (by omega) hi
   have b0 := L.at (k := 0) (i := to.toNat) (by omega) (by omega)
   have i1 := ixQ 1 (i : Int) (by omega) (by omega)
   have i0 := ixQ 0 to hto.1 hto.2
   rw [z2f] at i1
   rw [ylj]
   simp only [y0t, yg, y9, hc, decide_true, y15a, y1b, y1s2, kx, lx, nc, yk, zd, a1, i1, b1, a0, i0, b0, y1jf, yz, hw2]
   rfl)
  _ 0 H t (zd _) L
 rw [zr] at L1
 simp only [Int.ofNat_zero] at e1
 -- where it is caught
 obtain ⟨H2, e2, L2⟩ := ykl (f := f) (P := P) (Q := Q) hR (k := 2) (i := i) (by omega) (by omega) hi (l := y1y f i) (fun to h => w.caught h)
  (fun q H => yc8 (.lp 0 1 0 0) (.int .i64 (lst f.code).length) (.lp 1 1 0 0) (.bool m) (.int .i64 (i : Int)) (slA (nz (y1y f i))) (.int .i64 (y1y f i).length) (.int .i64 (q : Int)) H)
  (fun q to H t hk L => by
   have hlt := (zb.1 hk).1
   have hto := w.caught (zs hk)
   have hc : ((q : Int) < ((y1y f i).length : Int)) := by omega
   have hw2 := y2x hlt (by omega)
   have kx := y3j (o := nz (y1y f i)) (i := q) (by rw [y4t]; exact hk) .i64
   have lx : ∀ t : Heap, evLd false 1 (.rp [.int .i64 to]) t = some (.int .i64 to) := fun t => by simp
   have a1 := L.fld (k := 2) (by omega)
   have a0 := L.fld (k := 0) (by omega)
   have b1 := L.at (k := 2) (i := i) (by omega) hi
   have b0 := L.at (k := 0) (i := to.toNat) (by omega) (by omega)
   have i1 := ixQ 2 (i : Int) (by omega) (by omega)
   have i0 := ixQ 0 to hto.1 hto.2
   rw [z2f] at i1
   rw [ylu]
   simp only [y12o, yg, y9, hc, decide_true, yzf, y1b, y1sv, kx, lx, nc, yk, zd, a1, i1, b1, a0, i0, b0, y1ll, yz, hw2]
   rfl)
  _ 0 H1 _ (zd _) L1
 rw [zr] at L2
 simp only [Int.ofNat_zero] at e2
 have eT : setk (setk t 1 i (joins t.b (y40 f i) (rowW (tk t 1) i))) 2 i (joins (setk t 1 i (joins t.b (y40 f i) (rowW (tk t 1) i))).b (y1y f i) (rowW (tk (setk t 1 i (joins t.b (y40 f i) (rowW (tk t 1) i))) 2) i)) = ⟨t.b, t.a.set i (aftT f t i), t.h.set i (hanT f t i)⟩ := rfl
 rw [eT] at L2
 have rA : rowW (tk (⟨t.b, t.a.set i (aftT f t i), t.h.set i (hanT f t i)⟩ : Tb) 1) i = aftT f t i := by
  simp only [tk]; rw [y53 (by rw [L.ok.a]; exact hi), if_pos rfl]
 have rH : rowW (tk (⟨t.b, t.a.set i (aftT f t i), t.h.set i (hanT f t i)⟩ : Tb) 2) i = hanT f t i := by
  simp only [tk]; rw [y53 (by rw [L.ok.h]; exact hi), if_pos rfl]
 have lenA := yc7 w L.ok hi
 have lenH := yno w L.ok hi
 have lenB := yi1 w L.ok hi
 -- the copy
 have a1 := L2.fld (k := 1) (by omega)
 have b1 := L2.at (k := 1) (i := i) (by omega) hi
 have i1 := ixQ 1 (i : Int) (by omega) (by omega)
 have i2 := ixQ 2 (i : Int) (by omega) (by omega)
 have i0 := ixQ 0 (i : Int) (by omega) (by omega)
 rw [z2f] at i1 i2 i0
 have r1 := L2.row 1 (by omega) i hi
 rw [rA] at r1
 obtain ⟨o11, h11⟩ : ∃ o, H2[2]? = some o := ⟨_, z9 (by have := L2.size; omega)⟩
 have ap := y2aw r1 h11 (by omega) (by omega)
 rw [lenA] at ap
 have hl11 := y3l h11
 generalize o11.gen + 1 = g at *
 -- what is written
 have lx : ∀ t : Heap, evLd true 9 (.rp (enc (y26 f i))) t = some (.agg (enc (y26 f i))) := fun t => by simp
 have k9 := yel (o := f.code) (y5t hi) .i64
 have eC : yli (.lp 0 1 0 0) (.int .i64 (lst f.code).length) (.lp 1 1 0 0) (.bool m) (.int .i64 (i : Int)) (.ls 2 g 1 0 ((lst f.regs).length / 64 + 1)) (H2.set 2 (AW g (aftT f t i))) =
   ykz (.lp 0 1 0 0) (.int .i64 (lst f.code).length) (.lp 1 1 0 0) (.bool m) (.int .i64 (i : Int)) (.ls 2 g 1 0 ((lst f.regs).length / 64 + 1)) (H2.set 2 (AW g (ybf (defr (y26 f i)) (aftT f t i)))) := by
  have lc := yvg (L2.slot (AW g (aftT f t i))).box
  by_cases hd : 0 ≤ defr (y26 f i)
  ·have hd2 := w.def hi hd
   have dr := y2ll (H := H2.set 2 (AW g (aftT f t i))) (y2f hl11) (r := (defr (y26 f i)).toNat) (by omega) (by rw [lenA]; omega)
   rw [lenA, z2r, show (((defr (y26 f i)).toNat : Nat) : Int) = defr (y26 f i) by omega] at dr
   simp only [yli, yk, zd, y9, lc, k9, lx, cD, ye, y1j, hd, decide_true, y1b, dr, ybf, if_true]
  ·simp only [yli, yk, zd, y9, lc, k9, lx, cD, ye, y1j, hd, decide_false, y1h, ybf, if_false]
 -- what is caught, what is read
 have L3 := L2.slot (AW g (ybf (defr (y26 f i)) (aftT f t i)))
 have lenD : (ybf (defr (y26 f i)) (aftT f t i)).length = (lst f.regs).length / 64 + 1 := by rw [yah, lenA]
 have c2 := L3.fld (k := 2) (by omega)
 have d2 := L3.at (k := 2) (i := i) (by omega) hi
 have r2 := L3.row 2 (by omega) i hi
 rw [rH] at r2
 have f2 := L3.farP 2 i (by omega) hi
 have jn := y1ag (H := H2.set 2 (AW g (ybf (defr (y26 f i)) (aftT f t i)))) (y2f hl11) r2 (by rw [lenD, lenH]) (by rw [lenD]; omega) (by omega)
 rw [lenD, lenH, z2r] at jn
 have L4 := L2.slot (AW g (y47 (ybf (defr (y26 f i)) (aftT f t i)) (hanT f t i)))
 have lc4 := yvg L4.box
 have hlu : (lst (uses (y26 f i))).length ≤ 9223372036854775806 := by
  have : (lst (uses (y26 f i))).length ≤ (lst (y26 f i).args).length + 3 := by
   unfold uses
   repeat' split
   all_goals simp
  omega
 have us := y1p3 (W := (lst f.regs).length / 64 + 1) (o := uses (y26 f i)) hlu (fun u hu => by
  have := w.uses hi hu
  omega) (.lp 0 1 0 0) (.int .i64 (lst f.code).length) (.lp 1 1 0 0) (.bool m) (.int .i64 (i : Int)) g _ 0 (H2.set 2 (AW g (y47 (ybf (defr (y26 f i)) (aftT f t i)) (hanT f t i)))) _ (zd _) (y2f hl11) (by rw [y4q (by rw [lenD, lenH]), lenD])
 rw [zr, z2r] at us
 simp only [Int.ofNat_zero] at us
 have eB : adds (lst (uses (y26 f i))) (y47 (ybf (defr (y26 f i)) (aftT f t i)) (hanT f t i)) = befT f t i := rfl
 rw [eB] at us
 -- ahead of it
 have L5 := L2.slot (AW g (befT f t i))
 have a5 := L5.fld (k := 0) (by omega)
 have b5 := L5.at (k := 0) (i := i) (by omega) hi
 have r5 := L5.row 0 (by omega) i hi
 have f5 := L5.farP 0 i (by omega) hi
 have lb : (rowW t.b i).length = (lst f.regs).length / 64 + 1 := L.ok.bw i hi
 have jb := y1ag (H := H2.set 2 (AW g (befT f t i))) r5 (y2f hl11) (by rw [lenB]; exact lb) (by rw [show (rowW (tk (⟨t.b, t.a.set i (aftT f t i), t.h.set i (hanT f t i)⟩ : Tb) 0) i).length = (lst f.regs).length / 64 + 1 from lb]; omega) (by omega)
 rw [lenB, show (rowW (tk (⟨t.b, t.a.set i (aftT f t i), t.h.set i (hanT f t i)⟩ : Tb) 0) i).length = (lst f.regs).length / 64 + 1 from lb] at jb
 have L6 := L5.put (k := 0) (i := i) (by omega) hi (x := y47 (rowW t.b i) (befT f t i)) (by rw [y4q (by rw [lb, lenB]), lb])
 refine ⟨_, ?_, L6⟩
 have hc1 : ¬ (((y40 f i).length : Int) < ((y40 f i).length : Int)) := by omega
 have hc2 : ¬ (((y1y f i).length : Int) < ((y1y f i).length : Int)) := by omega
 have z1 : yhc (.lp 0 1 0 0) (.int .i64 (lst f.code).length) (.lp 1 1 0 0) (.bool m) (.int .i64 (i : Int)) H =
   yc5 (.lp 0 1 0 0) (.int .i64 (lst f.code).length) (.lp 1 1 0 0) (.bool m) (.int .i64 (i : Int)) (slA (nz (y40 f i))) (.int .i64 (y40 f i).length) (.int .i64 0) H := by
  rw [ypr]
  simp only [ywl, y1j, hge, decide_true, y9, y1b, y1j3, y1pf L.box, cN, ye, y16, y4t]
 have z2 : yc5 (.lp 0 1 0 0) (.int .i64 (lst f.code).length) (.lp 1 1 0 0) (.bool m) (.int .i64 (i : Int)) (slA (nz (y40 f i))) (.int .i64 (y40 f i).length) (.int .i64 (y40 f i).length) H1 =
   yc8 (.lp 0 1 0 0) (.int .i64 (lst f.code).length) (.lp 1 1 0 0) (.bool m) (.int .i64 (i : Int)) (slA (nz (y1y f i))) (.int .i64 (y1y f i).length) (.int .i64 0) H1 := by
  rw [ylj]
  simp only [y0t, yg, y9, hc1, decide_false, y15a, y1h, y1iy, y1pf L1.box, cC, ye, y16, y4t]
 have z3 : yc8 (.lp 0 1 0 0) (.int .i64 (lst f.code).length) (.lp 1 1 0 0) (.bool m) (.int .i64 (i : Int)) (slA (nz (y1y f i))) (.int .i64 (y1y f i).length) (.int .i64 (y1y f i).length) H2 =
   yli (.lp 0 1 0 0) (.int .i64 (lst f.code).length) (.lp 1 1 0 0) (.bool m) (.int .i64 (i : Int)) (.ls 2 g 1 0 ((lst f.regs).length / 64 + 1)) (H2.set 2 (AW g (aftT f t i))) := by
  rw [ylu]
  simp only [y12o, yg, y9, hc2, decide_false, yzf, y1h, y1lf, nc, yk, zd, a1, i1, b1, ap, ye]
 have z4 : ykz (.lp 0 1 0 0) (.int .i64 (lst f.code).length) (.lp 1 1 0 0) (.bool m) (.int .i64 (i : Int)) (.ls 2 g 1 0 ((lst f.regs).length / 64 + 1)) (H2.set 2 (AW g (ybf (defr (y26 f i)) (aftT f t i)))) =
   y173 (.lp 0 1 0 0) (.int .i64 (lst f.code).length) (.lp 1 1 0 0) (.bool m) (.int .i64 (i : Int)) (.ls 2 g 1 0 ((lst f.regs).length / 64 + 1)) (H2.set 2 (AW g (befT f t i))) := by
  rw [← us]
  simp only [ykz, nc, y9, yk, zd, c2, i2, d2, jn, ye, y1kj, lc4, k9, lx, cU, y16]
 rw [z1, e1, z2, e2, z3, eC, z4]
 have hmt : yk9 f t i = yem (rowW (tk (⟨t.b, t.a.set i (aftT f t i), t.h.set i (hanT f t i)⟩ : Tb) 0) i) (befT f t i) := rfl
 rw [hmt]
 cases hmm : yem (rowW (tk (⟨t.b, t.a.set i (aftT f t i), t.h.set i (hanT f t i)⟩ : Tb) 0) i) (befT f t i) with
 | true =>
  rw [hmm] at jb
  simp only [y173, nc, y9, yk, zd, a5, i0, b5, jb, ye, y72, y1f, z2x]
  rfl
 | false =>
  rw [hmm] at jb
  simp only [y173, nc, y9, yk, zd, a5, i0, b5, jb, ye, y4y, y1g, z1x]
  rfl
end
end Go.Vm
namespace Go.Vm
open Cel
section
variable {f : Fn} (w : Wf f) (hr : (lst f.rows).length ≤ 10000000000000) (hx : ∀ x ∈ lst f.code, (lst x.args).length ≤ 17592186043904) {P : Plc} {Q : Arr}
include w hr hx
theorem y17e : ∀ (k : Nat) (t : Tb) (H : Heap) (m : Bool), k ≤ (lst f.code).length → LvRep f P Q H t →
  ∃ H', yhc (.lp 0 1 0 0) (.int .i64 (lst f.code).length) (.lp 1 1 0 0) (.bool m) (.int .i64 ((k : Int) - 1)) H = ydn (.lp 0 1 0 0) (.int .i64 (lst f.code).length) (.lp 1 1 0 0) (.bool ((y3g f k t).2 || m)) H' ∧ LvRep f P Q H' (y3g f k t).1 := by
 have hn := w.n2
 intro k
 induction k with
 | zero =>
  intro t H m _ L
  refine ⟨H, ?_, L⟩
  have hc : ¬ (0 : Int) ≤ ((0 : Nat) : Int) - 1 := by omega
  rw [ypr]
  simp only [ywl, y1j, y9, hc, decide_false, y1h, y3g, z1x]
 | succ k ih =>
  intro t H m hk L
  obtain ⟨H1, e1, L1⟩ := y20g w hr hx (i := k) (by omega) m H t L
  obtain ⟨H2, e2, L2⟩ := ih (y4z f t k) H1 (yk9 f t k || m) (by omega) L1
  refine ⟨H2, ?_, L2⟩
  have ek : (((k + 1 : Nat) : Int) - 1) = (k : Int) := by omega
  have hw : IntKind.wrap .i64 ((k : Int) - 1) = (k : Int) - 1 := by rw [y1a] <;> omega
  have eb : ((y3g f (k + 1) t).2 || m) = ((y3g f k (y4z f t k)).2 || (yk9 f t k || m)) := by
   rw [y3g]
   cases yk9 f t k <;> cases (y3g f k (y4z f t k)).2 <;> cases m <;> rfl
  rw [ek, e1, eb, ← e2]
  simp only [y1yf, y5d, hw, y9]
theorem y1cm : ∀ (q : Nat) (t : Tb) (H : Heap) (r : Tb), LvRep f P Q H t → yd0 f q t = some r →
  ∃ H', ydn (.lp 0 1 0 0) (.int .i64 (lst f.code).length) (.lp 1 1 0 0) (.bool true) H = y1oy (.lp 1 1 0 0) H' ∧ LvRep f P Q H' r := by
 have hn := w.n2
 intro q
 induction q with
 | zero => intro t H r _ h; cases h
 | succ q ih =>
  intro t H r L h
  obtain ⟨H1, e1, L1⟩ := y17e w hr hx (lst f.code).length t H false (zi _) L
  have hw : IntKind.wrap .i64 (((lst f.code).length : Int) - 1) = ((lst f.code).length : Int) - 1 := by rw [y1a] <;> omega
  have e2 : ydn (.lp 0 1 0 0) (.int .i64 (lst f.code).length) (.lp 1 1 0 0) (.bool true) H = ydn (.lp 0 1 0 0) (.int .i64 (lst f.code).length) (.lp 1 1 0 0) (.bool ((y3g f (lst f.code).length t).2 || false)) H1 := by
   rw [← e1, yrn]
   simp only [yz2, y1b, y1is, y18y, y5d, hw, y9]
  rw [e2, Bool.or_false]
  rw [yd0] at h
  cases hm : (y3g f (lst f.code).length t).2 with
  | true =>
   rw [hm, if_pos rfl] at h
   exact ih _ H1 r L1 h
  | false =>
   rw [hm, if_neg zv] at h
   injection h with h
   subst h
   refine ⟨H1, ?_, L1⟩
   rw [yrn]
   simp only [yz2, y1h]
end
end Go.Vm
namespace Go.Vm
open Cel
instance : Cel Ws := ⟨1, fun s => [slA (some s)], fun _ => rfl, fun _ => rfl, fun _ => rfl⟩
@[simp] theorem y2un (s : Ws) : enc s = [slA (some s)] := rfl
@[simp] theorem y2v9 : es Ws = 1 := rfl
theorem yl7 {β γ : Type} (g : β → Option (Fz γ)) (x : Nat → β) (y : Nat → γ) (id : Nat → Nat) : ∀ (l : List Nat), (∀ i ∈ l, g (x i) = some ⟨y i, true, [id i]⟩) → yv g (l.map x) = some ⟨l.map y, true, l.map id⟩
 | [], _ => rfl
 | i :: l, h => by
  rw [z10, ym, h i (by simp), yl7 g x y id l (fun j hj => h j (by simp [hj]))]
  rfl
theorem y2f5 (s : Ws) : s.all scal = true := by
 rw [z19]
 intro w _
 rfl
def idsP (P : Plc) (k n : Nat) : List Nat := (List.range n).map fun i => (P k i).1
theorem y20z {l : List Ws} {n : Nat} (h : l.length = n) : (List.range n).map (fun i => enc (rowW l i)) = l.map enc := by
 refine z36 (by simp [h]) fun i h1 h2 => ?_
 have hi : i < l.length := by simpa using h2
 simp [rowW, ze, hi]
section
variable {f : Fn} {P : Plc} {Q : Arr} {H : Heap} {t : Tb} (L : LvRep f P Q H t)
include L
theorem LvRep.rows {k : Nat} (hk : k < 3) : yv (yv (fz H y1m)) (ysc P ((lst f.regs).length / 64 + 1) k (lst f.code).length) = some ⟨(tk t k).map enc, true, idsP P k (lst f.code).length⟩ := by
 have hl : (tk t k).length = (lst f.code).length := by
  match k, hk with
  | 0, _ => exact L.ok.b
  | 1, _ => exact L.ok.a
  | 2, _ => exact L.ok.h
 rw [← y20z hl]
 refine yl7 _ _ _ _ _ fun i hi => ?_
 rw [z27] at hi
 have h1 := yje (α := BitVec 64) (k := 10) (L.row k hk i hi)
 rw [L.len hk hi, y2f5] at h1
 have h2 : fz H y1m (.ls (P k i).1 (P k i).2 1 0 ((lst f.regs).length / 64 + 1)) = some ⟨slA (some (rowW (tk t k) i)), true, [(P k i).1]⟩ := h1
 rw [ym, h2, y1k]
 rfl
theorem LvRep.ex {k : Nat} (hk : k < 3) (os : List OC) : expo H 11 (.ls (Q k).1 (Q k).2 1 0 (lst f.code).length) os = some ⟨.ls os.length 0 1 0 (lst f.code).length, os ++ [.arr false false 1 ((tk t k).map enc)], true, [(Q k).1], idsP P k (lst f.code).length⟩ := by
 have hr : yr H (Q k).1 (Q k).2 = some (false, 1, ysc P ((lst f.regs).length / 64 + 1) k (lst f.code).length) := by simp [yr, y23, L.arr k hk]
 have hl : (ysc P ((lst f.regs).length / 64 + 1) k (lst f.code).length).length = (lst f.code).length := by simp [ysc]
 have ht : ((ysc P ((lst f.regs).length / 64 + 1) k (lst f.code).length).drop 0).take (lst f.code).length = ysc P ((lst f.regs).length / 64 + 1) k (lst f.code).length := by
  rw [zr, z2c (by rw [hl]; exact zi _)]
 rw [ytf, hr]
 simp only [hl, zd, zi, and_self, if_true, ht, L.rows hk]
theorem LvRep.reads : ∃ r, y1oy (.lp 1 1 0 0) H = some r ∧ r.fresh = true ∧ y6z r (.rp [slA (some t.b), slA (some t.a), slA (some t.h), .int .i64 (lst f.regs).length]) := by
 have e0 := L.ex (k := 0) (by omega)
 have e1 := L.ex (k := 1) (by omega)
 have e2 := L.ex (k := 2) (by omega)
 have e3 : ∀ os, expo H 11 (.int .i64 (lst f.regs).length) os = some ⟨.int .i64 (lst f.regs).length, os, true, [], []⟩ := fun os => y27c rfl H 10 os
 have hr : yr H 1 1 = some (false, 4, [[.ls (Q 0).1 (Q 0).2 1 0 (lst f.code).length, .ls (Q 1).1 (Q 1).2 1 0 (lst f.code).length, .ls (Q 2).1 (Q 2).2 1 0 (lst f.code).length, .int .i64 (lst f.regs).length]]) := by simp [yr, y23, L.tb]
 have q0 := L.farQ 0 (by omega)
 have q1 := L.farQ 1 (by omega)
 have q2 := L.farQ 2 (by omega)
 have m : ∀ x, (∀ k i, k < 3 → i < (lst f.code).length → (P k i).1 ≠ x) → (idsP P 0 (lst f.code).length ++ (idsP P 1 (lst f.code).length ++ (idsP P 2 (lst f.code).length ++ []))).contains x = false := by
  intro x hx
  rw [← z3g, z39]
  intro hm
  simp only [zt, idsP, z1y, z27, List.not_mem_nil, or_false] at hm
  rcases hm with ⟨i, hi, e⟩ | ⟨i, hi, e⟩ | ⟨i, hi, e⟩
  ·exact hx 0 i (by omega) hi e
  ·exact hx 1 i (by omega) hi e
  ·exact hx 2 i (by omega) hi e
 have m1 := m 1 (fun k i hk hi e => by have := L.farP k i hk hi; omega)
 have mq : ∀ k, k < 3 → _ := fun k hk => m (Q k).1 (fun k' i hk' hi e => L.off k' k i hk' hk hi e)
 have nq : ∀ k k', k < 3 → k' < 3 → k ≠ k' → ¬ (Q k).1 = (Q k').1 := fun k k' h h' hne e => hne (L.injQ k k' h h' e)
 have ap : y3m [1, (Q 0).1, (Q 1).1, (Q 2).1] (idsP P 0 (lst f.code).length ++ (idsP P 1 (lst f.code).length ++ (idsP P 2 (lst f.code).length ++ []))) = true := by
  have n01 := nq 0 1 (by omega) (by omega) (by omega)
  have n02 := nq 0 2 (by omega) (by omega) (by omega)
  have n12 := nq 1 2 (by omega) (by omega) (by omega)
  have z0 : ¬ 1 = (Q 0).1 := by omega
  have z1 : ¬ 1 = (Q 1).1 := by omega
  have z2 : ¬ 1 = (Q 2).1 := by omega
  simp only [y3m, m1, mq 0 (by omega), mq 1 (by omega), mq 2 (by omega), z28, Bool.and_true]
  simp [n01, n02, n12, z0, z1, z2]
 have ex : expo H y1m (.lp 1 1 0 0) [] = some ⟨.lp 3 0 0 0, [.arr false false 1 (t.b.map enc), .arr false false 1 (t.a.map enc), .arr false false 1 (t.h.map enc), .arr true false 4 [[.ls 0 0 1 0 (lst f.code).length, .ls 1 0 1 0 (lst f.code).length, .ls 2 0 1 0 (lst f.code).length, .int .i64 (lst f.regs).length]]], true, [1, (Q 0).1, (Q 1).1, (Q 2).1], idsP P 0 (lst f.code).length ++ (idsP P 1 (lst f.code).length ++ (idsP P 2 (lst f.code).length ++ []))⟩ := by
  show expo H (11 + 1) (.lp 1 1 0 0) [] = _
  rw [expo]
  simp only [hr, and_self, if_true, y31, e0, e1, e2, e3, List.nil_append, List.length_nil, List.length_cons, List.cons_append, List.append_nil, tk]
  rfl
 refine ⟨⟨.lp 3 0 0 0, [.arr false false 1 (t.b.map enc), .arr false false 1 (t.a.map enc), .arr false false 1 (t.h.map enc), .arr true false 4 [[.ls 0 0 1 0 (lst f.code).length, .ls 1 0 1 0 (lst f.code).length, .ls 2 0 1 0 (lst f.code).length, .int .i64 (lst f.regs).length]]], true, [], []⟩, by rw [y1oy, yo, ex]; simp only [ap, if_true], rfl, ?_⟩
 have lb := L.ok.b
 have la := L.ok.a
 have lh := L.ok.h
 generalize hX : y2m [OC.arr false false 1 (t.b.map enc), .arr false false 1 (t.a.map enc), .arr false false 1 (t.h.map enc), .arr true false 4 [[.ls 0 0 1 0 (lst f.code).length, .ls 1 0 1 0 (lst f.code).length, .ls 2 0 1 0 (lst f.code).length, .int .i64 (lst f.regs).length]]] = X
 have y0 : fz X 11 (.ls 0 0 1 0 (lst f.code).length) = some ⟨slA (some t.b), t.b.all scal, [0]⟩ := by
  rw [← lb, ← hX]; exact yje (α := Ws) (k := 9) (id := 0) (g := 0) (L := t.b) rfl
 have y1 : fz X 11 (.ls 1 0 1 0 (lst f.code).length) = some ⟨slA (some t.a), t.a.all scal, [1]⟩ := by
  rw [← la, ← hX]; exact yje (α := Ws) (k := 9) (id := 1) (g := 0) (L := t.a) rfl
 have y2 : fz X 11 (.ls 2 0 1 0 (lst f.code).length) = some ⟨slA (some t.h), t.h.all scal, [2]⟩ := by
  rw [← lh, ← hX]; exact yje (α := Ws) (k := 9) (id := 2) (g := 0) (L := t.h) rfl
 have y3 : fz X 11 (.int .i64 (lst f.regs).length) = some ⟨.int .i64 (lst f.regs).length, true, []⟩ := rfl
 have hr2 : yr X 3 0 = some (false, 4, [[.ls 0 0 1 0 (lst f.code).length, .ls 1 0 1 0 (lst f.code).length, .ls 2 0 1 0 (lst f.code).length, .int .i64 (lst f.regs).length]]) := by
  rw [← hX]; rfl
 refine ⟨⟨.rp [slA (some t.b), slA (some t.a), slA (some t.h), .int .i64 (lst f.regs).length], t.b.all scal && (t.a.all scal && (t.h.all scal && (true && true))), 3 :: ([0] ++ ([1] ++ ([2] ++ ([] ++ []))))⟩, ?_, rfl⟩
 simp only [hX]
 show fz X (11 + 1) (.lp 3 0 0 0) = _
 rw [fz]
 simp only [hr2, List.getElem?_cons_zero, List.drop_zero, ym, y1k, y0, y1, y2, y3]
end
end Go.Vm
namespace Go.Vm
open Cel
theorem y1um (s : Ws) {r : Nat} (hr : r < 9223372036854775808) (hs : r / 64 < s.length) : (yd E).p 83 [slA (some s), .int .i64 r] = some ⟨.bool (bit s r), [], true, [], []⟩ := by
 rw [y2r4]
 obtain ⟨q1, q2⟩ := ynn hr
 have kx : y10 1 (slA (some s)) (.int .i64 ((r / 64 : Nat) : Int)) = some (.rp [.int .u64 (s.getD (r / 64) 0).toNat]) := by
  have := y8h (α := BitVec 64) (o := some s) (i := r / 64) (x := s.getD (r / 64) 0) (by rw [y57, ze, z9 hs]; rfl) .i64
  exact this
 have lx : ∀ t : Heap, evLd false 1 (.rp [.int .u64 (s.getD (r / 64) 0).toNat]) t = some (.int .u64 (s.getD (r / 64) 0).toNat) := fun t => by simp
 obtain ⟨v, w, h1, h2, h3⟩ := y2sj (r := r % 64) (z3n r (by omega)) (s.getD (r / 64) 0)
 simp only [y29u, q1, q2, y9, kx, lx, h1, h2, h3, y1w]
 rfl
def tv (t : Tb) (R : Nat) : AV := .rp [slA (some t.b), slA (some t.a), slA (some t.h), .int .i64 R]
def atM (R : Nat) (l : List Ws) (i r : Int) : Bool := decide (0 ≤ i) && decide (i < l.length) && decide (0 ≤ r) && decide (r < R) && bit (rowW l i.toNat) r.toNat
theorem s_at (t : Tb) {R : Nat} (hR : R ≤ 20000) (l : List Ws) (hl : ∀ i, i < l.length → (rowW l i).length = R / 64 + 1) (i r : Int) : (yd E).p 82 [tv t R, slA (some l), .int .i64 i, .int .i64 r] = some ⟨.bool (atM R l i r), [], true, [], []⟩ := by
 rw [y2s1]
 have hE : yfq 0 true (tv t R) .nilp = some (.bool true) := rfl
 have nc : yp (tv t R) = some (tv t R) := rfl
 have fa : evFa 3 (tv t R) = some (.rp [.int .i64 R]) := rfl
 have lR : ∀ H : Heap, evLd false 1 (.rp [.int .i64 R]) H = some (.int .i64 R) := fun H => by simp
 have le : ∀ H, y17 1 (slA (some l)) H = some (.int .i64 l.length) := fun H => y16 (some l) H
 unfold atM
 by_cases h1 : 0 ≤ i
 ·by_cases h2 : i < (l.length : Int)
  ·by_cases h3 : 0 ≤ r
   ·by_cases h4 : r < (R : Int)
    ·have hi : i.toNat < l.length := by omega
     have kx : y10 1 (slA (some l)) (.int .i64 i) = some (.rp [slA (some (rowW l i.toNat))]) := by
      have := yaj (α := Ws) (o := some l) (n := i) (x := rowW l i.toNat) h1 (by rw [y57, rowW, ze, z9 hi]; rfl) .i64
      exact this
     have lx : ∀ (H : Heap) (s : Ws), evLd false 1 (.rp [slA (some s)]) H = some (slA (some s)) := fun H s => rfl
     have hb := y1um (rowW l i.toNat) (r := r.toNat) (by omega) (by rw [hl _ hi]; omega)
     rw [show ((r.toNat : Nat) : Int) = r by omega] at hb
     have ha : ∀ H : Heap, yv (fz H y1m) [slA (some (rowW l i.toNat)), .int .i64 r] = some ⟨[slA (some (rowW l i.toNat)), .int .i64 r], (lst (some (rowW l i.toNat))).isEmpty && (true && true), []⟩ := fun H => by
      rw [ym, ym, y2sr, yn1, y1k]; rfl
     have c1 : ∀ H, yc E (yd E) 0 none true 83 [slA (some (rowW l i.toNat)), .int .i64 r] H = some (.bool (bit (rowW l i.toNat) r.toNat), H) := fun H => y18 rfl (ha H) rfl hb ⟨_, rfl, rfl⟩
     simp only [yt4, hE, y9, y9p, y1j, h1, decide_true, y1f, le, yg, h2, h3, nc, fa, lR, h4, kx, lx, y1dr, c1, ye, y1w, z23]
    ·simp only [yt4, hE, y9, y9p, y1j, h1, decide_true, y1f, le, yg, h2, h3, nc, fa, lR, h4, decide_false, yd5, yra, y1g, y1w, z30, z2z]
   ·simp only [yt4, hE, y9, y9p, y1j, h1, decide_true, y1f, le, yg, h2, h3, decide_false, yd5, yra, y1g, y1w, z30, z2z]
  ·simp only [yt4, hE, y9, y9p, y1j, h1, decide_true, y1f, le, yg, h2, decide_false, yd5, yra, y1g, y1w, z30, z2z]
 ·simp only [yt4, hE, y9, y9p, y1j, h1, decide_false, y1f, yd5, yra, y1g, y1w, z30, z2z]
theorem y1sn (t : Tb) {R : Nat} (hR : R ≤ 20000) (l : List Ws) (hl : ∀ i, i < l.length → (rowW l i).length = R / 64 + 1) (i r : Int) (H : Heap) : yc E (yd E) 0 none true 82 [tv t R, slA (some l), .int .i64 i, .int .i64 r] H = some (.bool (atM R l i r), H) := by
 have ht : fz H y1m (tv t R) = some ⟨tv t R, y1u (tv t R), []⟩ := fz_p (k := 11) rfl H
 have hs : fz H y1m (slA (some l)) = some ⟨slA (some l), y1u (slA (some l)), []⟩ := fz_p (k := 11) (y14s _) H
 have ha : ∃ b, yv (fz H y1m) [tv t R, slA (some l), .int .i64 i, .int .i64 r] = some ⟨[tv t R, slA (some l), .int .i64 i, .int .i64 r], b, []⟩ := by
  refine ⟨y1u (tv t R) && (y1u (slA (some l)) && (true && (true && true))), ?_⟩
  rw [ym, ym, ym, ym, ht, hs, yn1, yn1, y1k]; rfl
 obtain ⟨b, ha⟩ := ha
 exact y18 rfl ha rfl (s_at t hR l hl i r) ⟨_, rfl, rfl⟩
end Go.Vm
namespace Go.Vm
open Cel
def acrM (f : Fn) (t : Tb) (i r : Int) : Bool := decide (0 ≤ i) && decide (i < (lst f.code).length) && (atM (lst f.regs).length t.h i r || (atM (lst f.regs).length t.a i r && decide (defr (y26 f i.toNat) ≠ r)))
theorem y1yi (f : Fn) (t : Tb) (hR : (lst f.regs).length ≤ 20000) (ok : TbOk (lst f.code).length ((lst f.regs).length / 64 + 1) t) (i r : Int) : (yd E).p 88 [tv t (lst f.regs).length, .agg (enc f), .int .i64 i, .int .i64 r] = some ⟨.bool (acrM f t i r), [], true, [], []⟩ := by
 rw [y2sk]
 have ca := fun H => y1sn t hR t.a (fun i hi => ok.aw i (by rw [← ok.a]; exact hi)) i r H
 have ch := fun H => y1sn t hR t.h (fun i hi => ok.hw i (by rw [← ok.h]; exact hi)) i r H
 have hE : yfq 0 false (tv t (lst f.regs).length) .nilp = some (.bool false) := rfl
 have nc : yp (tv t (lst f.regs).length) = some (tv t (lst f.regs).length) := rfl
 have f1 : evFa 1 (tv t (lst f.regs).length) = some (.rp [slA (some t.a), slA (some t.h), .int .i64 (lst f.regs).length]) := rfl
 have f2 : evFa 2 (tv t (lst f.regs).length) = some (.rp [slA (some t.h), .int .i64 (lst f.regs).length]) := rfl
 have fa : ∀ H : Heap, evLd false 1 (.rp [slA (some t.a), slA (some t.h), .int .i64 (lst f.regs).length]) H = some (slA (some t.a)) := fun H => rfl
 have fh : ∀ H : Heap, evLd false 1 (.rp [slA (some t.h), .int .i64 (lst f.regs).length]) H = some (slA (some t.h)) := fun H => rfl
 have n0 : newC 0 (some 0) (cellsOf (.agg (enc f))) [D0] = some (.lp 0 1 0 0, [AB f]) := by simp
 have l3 : ∀ t : Heap, evLd false 1 (.lp 0 1 0 3) (AB f :: t) = some (slA f.code) := fun t => by simp
 have le : ∀ H, y17 1 (slA (some t.a)) H = some (.int .i64 (lst f.code).length) := fun H => by
  have := y16 (some t.a) H
  rw [y57, ok.a] at this
  exact this
 unfold acrM
 by_cases h1 : i < 0
 ·have h1' : ¬ 0 ≤ i := by omega
  simp only [ytb, ytr, ytj, n0, ye, hE, y9, y4y, yg, h1, decide_true, y1g, y72, y1f, y1b, y1w, h1', decide_false, z2z]
 have h1' : 0 ≤ i := by omega
 by_cases h2 : ((lst f.code).length : Int) ≤ i
 ·have h2' : ¬ i < ((lst f.code).length : Int) := by omega
  simp only [ytb, ytr, ytj, n0, ye, hE, y9, y4y, yg, h1, decide_false, y1g, yk, zd, l3, y16, y1j, h2, decide_true, y72, y1f, y1b, y1w, h2', z30, z2z]
 have h2' : i < ((lst f.code).length : Int) := by omega
 have kx := ycr (o := f.code) h1' (y5t (by omega)) .i64
 have lx : ∀ t : Heap, evLd true 9 (.rp (enc (y26 f i.toNat))) t = some (.agg (enc (y26 f i.toNat))) := fun t => by simp
 have hax : ∀ H : Heap, yv (fz H y1m) [.agg (enc (y26 f i.toNat))] = some ⟨[.agg (enc (y26 f i.toNat))], scal (y26 f i.toNat) && true, []⟩ := fun H => by
  rw [ym, y6h, y1k]; rfl
 have cD : ∀ H, yc E (yd E) 0 none true 9 [.agg (enc (y26 f i.toNat))] H = some (.int .i64 (defr (y26 f i.toNat)), H) := fun H => y18 rfl (hax H) rfl (y2ky _) ⟨_, rfl, rfl⟩
 cases hh : atM (lst f.regs).length t.h i r with
 | true =>
  rw [hh] at ch
  simp only [ytb, ytr, ytj, n0, ye, hE, y9, y4y, yg, h1, decide_false, y1g, yk, zd, l3, y16, y1j, h2, nc, f1, fa, le, y1h, f2, fh, ch, y72, y23z, y8o, y2pb, y1f, y1w, h1', h2', decide_true, z23, z2x]
 | false =>
  rw [hh] at ch
  cases ha : atM (lst f.regs).length t.a i r with
  | true =>
   rw [ha] at ca
   simp only [ytb, ytr, ytj, n0, ye, hE, y9, y4y, y1zz, yg, h1, decide_false, y1g, yk, zd, l3, y16, y1j, h2, nc, f1, fa, le, y1h, f2, fh, ch, ca, y9p, y1dr, kx, lx, cD, y66, y1f, y1w, h1', h2', decide_true, z23, z1x]
  | false =>
   rw [ha] at ca
   simp only [ytb, ytr, ytj, n0, ye, hE, y9, y4y, y1zz, yg, h1, decide_false, y1g, yk, zd, l3, y16, y1j, h2, nc, f1, fa, le, y1h, f2, fh, ch, ca, yd5, yra, y1f, y1w, h1', h2', decide_true, z23, z1x, z2z]
end Go.Vm
namespace Go.Vm
section
variable {α : Type}
def aset (k : Int) (v : α) : List (Int × α) → List (Int × α)
 | [] => [(k, v)]
 | (k', v') :: r => if k = k' then (k, v) :: r else (k', v') :: aset k v r
def adel (k : Int) : List (Int × α) → List (Int × α)
 | [] => []
 | (k', v') :: r => if k = k' then r else (k', v') :: adel k r
def aget (k : Int) : List (Int × α) → Option α
 | [] => none
 | (k', v') :: r => if k = k' then some v' else aget k r
theorem y4j (k j : Int) (v : α) : ∀ l, aget j (aset k v l) = if j = k then some v else aget j l
 | [] => by simp only [aset, aget]
 | (k', v') :: r => by
  rw [aset]
  by_cases h : k = k'
  ·subst h
   rw [if_pos rfl, aget, aget]
   by_cases h2 : j = k <;> simp [h2]
  ·rw [if_neg h, aget, y4j k j v r, aget]
   by_cases h2 : j = k'
   ·have : ¬ j = k := fun e => h (e.symm.trans h2)
    rw [if_pos h2, if_pos h2, if_neg this]
   ·rw [if_neg h2, if_neg h2]
def anew : List (Int × α) → Prop
 | [] => True
 | (k, _) :: r => aget k r = none ∧ anew r
theorem ya8 (k : Int) (v : α) : ∀ l, anew l → anew (aset k v l)
 | [], _ => ⟨rfl, trivial⟩
 | (k', v') :: r, h => by
  rw [aset]
  by_cases e : k = k'
  ·rw [if_pos e]; exact ⟨by rw [e]; exact h.1, h.2⟩
  ·rw [if_neg e]
   refine ⟨?_, ya8 k v r h.2⟩
   rw [y4j, if_neg (fun h' => e h'.symm)]
   exact h.1
theorem y45 (k j : Int) : ∀ (l : List (Int × α)), anew l → aget j (adel k l) = if j = k then none else aget j l
 | [], _ => by simp [adel, aget]
 | (k', v') :: r, h => by
  rw [adel]
  by_cases e : k = k'
  ·subst e
   rw [if_pos rfl, aget]
   by_cases h2 : j = k
   ·rw [if_pos h2, h2]; exact h.1
   ·rw [if_neg h2, if_neg h2]
  ·rw [if_neg e, aget, y45 k j r h.2, aget]
   by_cases h2 : j = k'
   ·have : ¬ j = k := fun e' => e (e'.symm.trans h2)
    rw [if_pos h2, if_pos h2, if_neg this]
   ·rw [if_neg h2, if_neg h2]
theorem ya0 (k : Int) : ∀ (l : List (Int × α)), anew l → anew (adel k l)
 | [], _ => trivial
 | (k', v') :: r, h => by
  rw [adel]
  by_cases e : k = k'
  ·rw [if_pos e]; exact h.2
  ·rw [if_neg e]
   refine ⟨?_, ya0 k r h.2⟩
   rw [y45 k k' r h.2]
   split
   ·rfl
   ·exact h.1
end
end Go.Vm
namespace Go.Vm
open Cel
section
variable {α : Type}
variable (vf : α → AV)
def mEnt (l : List (Int × α)) : List (AV × AV) := l.map fun p => (.int .i64 p.1, vf p.2)
theorem yji (k : Int) : ∀ l : List (Int × α), mfind false [0] (.int .i64 k) (mEnt vf l) = some ((aget k l).map vf)
 | [] => rfl
 | (k', v') :: r => by
  have ih := yji k r
  simp only [mEnt, List.map_cons, mfind, y2d, zp, if_false, y21, if_true, aget] at ih ⊢
  by_cases e : k = k'
  ·simp [e]
  ·have : (k == k') = false := by simpa using e
   rw [this]
   simp only [if_neg e]
   exact ih
theorem ync (k : Int) (v : α) : ∀ l : List (Int × α), mset false [0] (.int .i64 k) (vf v) (mEnt vf l) = some (mEnt vf (aset k v l))
 | [] => rfl
 | (k', v') :: r => by
  have ih := ync k v r
  simp only [mEnt, List.map_cons, mset, y2d, zp, if_false, y21, if_true, aset] at ih ⊢
  by_cases e : k = k'
  ·simp [e]
  ·have : (k == k') = false := by simpa using e
   rw [this]
   simp only [if_neg e, ih, Option.map_some, List.map_cons]
theorem yht (k : Int) : ∀ l : List (Int × α), mdrop false [0] (.int .i64 k) (mEnt vf l) = some (mEnt vf (adel k l))
 | [] => rfl
 | (k', v') :: r => by
  have ih := yht k r
  simp only [mEnt, List.map_cons, mdrop, y2d, zp, if_false, y21, if_true, adel] at ih ⊢
  by_cases e : k = k'
  ·simp [e]
  ·have : (k == k') = false := by simpa using e
   rw [this]
   simp only [if_neg e, ih, Option.map_some, List.map_cons]
abbrev AM (g : Nat) (l : List (Int × α)) : AO := ⟨g, .map false (mEnt vf l)⟩
variable {vf}
theorem ydg {H : Heap} {id g : Nat} {l : List (Int × α)} (h : H[id]? = some (AM vf g l)) : y6l H id g = some (false, mEnt vf l) := by
 simp [y6l, y23, h]
theorem yp7 {H : Heap} {id g : Nat} {l : List (Int × α)} (h : H[id]? = some (AM vf g l)) : y3q H id g = none := by
 simp [y3q, y23, h]
theorem yed {H : Heap} {id g : Nat} {l : List (Int × α)} (h : H[id]? = some (AM vf g l)) (z : AV) (k : Int) : y30 false [0] z false (.lm id g) (.int .i64 k) H = some (((aget k l).map vf).getD z) := by
 simp only [y30, yp7 h, ydg h, Option.map_some, yji]
 cases aget k l <;> rfl
theorem ygk {H : Heap} {id g : Nat} {l : List (Int × α)} (h : H[id]? = some (AM vf g l)) (z : AV) (k : Int) : y30 false [0] z true (.lm id g) (.int .i64 k) H = some (match aget k l with | some v => .tup [vf v, .bool true] | none => .tup [z, .bool false]) := by
 simp only [y30, yp7 h, ydg h, Option.map_some, yji]
 cases aget k l <;> rfl
theorem you {H : Heap} {id g : Nat} {l : List (Int × α)} (h : H[id]? = some (AM vf g l)) (k : Int) (v : α) : y3w false [0] (.lm id g) (.int .i64 k) (vf v) H = some (.tup [], H.set id (AM vf g (aset k v l))) := by
 simp only [y3w, ydg h, ync, y3n, h]
theorem y2fo {H : Heap} {id g : Nat} {l : List (Int × α)} (h : H[id]? = some (AM vf g l)) (k : Int) : y7f false [0] (.lm id g) (.int .i64 k) H = some (.tup [], H.set id (AM vf g (adel k l))) := by
 simp only [y7f, ydg h, yht, y3n, h]
end
abbrev vI (n : Int) : AV := .int .i64 n
end Go.Vm
namespace Go.Vm
open Cel
section
variable {α : Type} {vf : α → AV}
abbrev KM (vf : α → AV) (g : Nat) (l : List (Int × α)) : AO := ⟨g, .kmap (mEnt vf l)⟩
theorem yan {H : Heap} {id g : Nat} {l : List (Int × α)} (h : H[id]? = some (KM vf g l)) : y3q H id g = some (mEnt vf l) := by
 simp [y3q, y23, h]
theorem yvf {H : Heap} {id g : Nat} {l : List (Int × α)} (h : H[id]? = some (KM vf g l)) : y6l H id g = none := by
 simp [y6l, y23, h]
theorem y145 (k : Int) (v : α) : ∀ {l : List (Int × α)}, (aget k l).isSome = true → (aset k v l).length = l.length
 | [], h => by cases h
 | (k', v') :: r, h => by
  simp only [aget, aset] at h ⊢
  split at h
  ·rename_i e
   simp [e]
  ·rename_i e
   simp only [if_neg e, List.length_cons, y145 k v h]
theorem y2c3 {H : Heap} {id g : Nat} {l : List (Int × α)} (h : H[id]? = some (KM vf g l)) (k : Int) (v : α) (hk : (aget k l).isSome = true) : y3w false [0] (.lm id g) (.int .i64 k) (vf v) H = some (.tup [], H.set id (KM vf g (aset k v l))) := by
 have hl : (mEnt vf (aset k v l)).length = (mEnt vf l).length := by simp only [mEnt, zy, y145 k v hk]
 simp only [y3w, yvf h, yan h, ync, y3n, h, hl, if_true]
theorem y29i {H : Heap} {id g : Nat} {l : List (Int × α)} (h : H[id]? = some (KM vf g l)) (k : Int) : y7f false [0] (.lm id g) (.int .i64 k) H = some (.tup [], H.set id (KM vf g (adel k l))) := by
 simp only [y7f, yvf h, yan h, yht, y3n, h]
theorem ypf (l : List (Int × α)) : (mEnt vf l).all (fun p => yd9 p.1) = true := by
 rw [z19]
 intro p hp
 obtain ⟨q, _, rfl⟩ := z1y.1 hp
 rfl
theorem y1wo {l : List (Int × α)} : ∀ {π : List (AV × AV)}, π.Perm (mEnt vf l) → ∃ l' : List (Int × α), l'.Perm l ∧ π = mEnt vf l' := by
 intro π hp
 unfold mEnt at hp ⊢
 have key : ∀ (m : List (Int × α)) (π : List (AV × AV)), π.Perm (m.map fun p => ((.int .i64 p.1 : AV), vf p.2)) → ∃ l' : List (Int × α), l'.Perm m ∧ π = l'.map fun p => ((.int .i64 p.1 : AV), vf p.2) := by
  intro m π
  induction π generalizing m with
  | nil =>
   intro hp
   have := hp.symm.eq_nil
   rw [z3j] at this
   subst this
   exact ⟨[], .refl _, rfl⟩
  | cons a π ih =>
   intro hp
   obtain ⟨q, hq, rfl⟩ := z1y.1 (hp.mem_iff.1 z1h)
   obtain ⟨i, hi⟩ := zz hq
   have hpe := y7a hi
   have hp2 : π.Perm ((m.eraseIdx i).map fun p => ((.int .i64 p.1 : AV), vf p.2)) := (hp.trans ((hpe.map _).symm)).cons_inv
   obtain ⟨l', h1, h2⟩ := ih _ hp2
   exact ⟨q :: l', (h1.cons q).trans hpe, by rw [h2]; rfl⟩
 exact key l π hp
open Classical in
theorem yx2 (k : Int) : ∀ l : List (Int × α), ((mEnt vf l).find? fun q => decide (q.1 = .int .i64 k)) = (aget k l).map fun v => ((.int .i64 k : AV), vf v)
 | [] => rfl
 | (k', v') :: r => by
  have ih := yx2 k r
  simp only [mEnt, List.map_cons, List.find?_cons, aget] at ih ⊢
  by_cases e : k = k'
  ·subst e
   simp
  ·have e' : ¬ ((AV.int .i64 k') = (AV.int .i64 k)) := fun q => e (by injection q with _ q; exact q.symm)
   simp only [e', decide_false, if_neg e]
   exact ih
theorem yx9 {step : Heap → AV × AV → Option Heap} {H H' : Heap} {id g : Nat} {l l' : List (Int × α)} {k : Int} {v0 : AV} (h : H[id]? = some (KM vf g l)) (h' : H'[id]? = some (KM vf g l'))
  (hs : ∀ v, aget k l = some v → step H (.int .i64 k, vf v) = some H') (hn : aget k l = none → H' = H) : ustep id g step H (.int .i64 k, v0) = some H' := by
 unfold ustep
 rw [yan h]
 simp only [yx2]
 cases hk : aget k l with
 | none => rw [hn hk]; rfl
 | some v =>
  simp only [Option.map_some, hs v hk, yan h', ypf, if_true]
theorem y26g {β : Type} {step : AV × AV → Heap → Option Heap} {H : Heap} {id g : Nat} {l : List (Int × α)} {K : Heap → Option β} (h : H[id]? = some (AM vf g l)) (R : List (Int × α) → Heap)
  (hR : ∀ π : List (Int × α), π.Perm l → ∃ H1 l1, mfold (ustep id g fun h q => step q h) (mEnt vf π) (H.set id (KM vf g l)) = some H1 ∧ H1[id]? = some (KM vf g l1) ∧ R π = H1.set id (AM vf g l1))
  (hS : ∀ π : List (Int × α), π.Perm l → yg6 (R π) (R l)) : orm (.lm id g) step H K = K (R l) := by
 have hl : ydi H id = H.set id (KM vf g l) := by unfold ydi; rw [h]
 have ho : yl5 H (.lm id g) = some (id, g, mEnt vf l) := by simp only [yl5, ydg h, ypf, if_true]
 have one : ∀ π : List (Int × α), π.Perm l → (mfold (ustep id g fun h q => step q h) (mEnt vf π) (ydi H id)).bind (y6n id g) = some (R π) := by
  intro π hp
  obtain ⟨H1, l1, h1, h2, h3⟩ := hR π hp
  rw [hl, h1, Option.bind_some]
  unfold y6n
  rw [yan h2, h3]
 unfold orm
 rw [ho]
 simp only
 have : mall yg6 (ustep id g fun h q => step q h) (y6n id g) (mEnt vf l) (ydi H id) = some (R l) := by
  refine y9z.2 ⟨one l (.refl _), fun π hp => ?_⟩
  obtain ⟨l', h1, rfl⟩ := y1wo hp
  exact ⟨_, one l' h1, hS l' h1⟩
 rw [this]
end
end Go.Vm
namespace Go.Vm
open Cel
section
variable {α : Type}
theorem yge {k : Int} {v : α} : ∀ {l : List (Int × α)}, aget k l = some v → (k, v) ∈ l
 | [], h => by cases h
 | (k', v') :: r, h => by
  rw [aget] at h
  split at h
  ·rename_i e
   injection h with h
   subst h; subst e
   exact z1h
  ·exact z18 _ (yge h)
theorem yn5 {k : Int} {v : α} : ∀ {l : List (Int × α)}, (k, v) ∈ l → (aget k l).isSome = true
 | [], h => by cases h
 | (k', v') :: r, h => by
  rw [aget]
  split
  ·rfl
  ·rename_i e
   rcases zq.1 h with h | h
   ·injection h with h1 _
    exact (e h1).elim
   ·exact yn5 h
theorem y6w : ∀ {l : List (Int × α)}, anew l ↔ (l.map (·.1)).Nodup
 | [] => by simp [anew]
 | (k, v) :: r => by
  rw [anew, z10, z21, y6w]
  refine and_congr ?_ Iff.rfl
  constructor
  ·intro h hm
   obtain ⟨q, hq, e⟩ := z1y.1 hm
   simp only at e
   have := yn5 (k := k) (v := q.2) (by rw [← e]; exact hq)
   rw [h] at this
   cases this
  ·intro h
   cases hg : aget k r with
   | none => rfl
   | some v' => exact (h (z1y.2 ⟨_, yge hg, rfl⟩)).elim
theorem yo5 {k : Int} {v : α} : ∀ {l : List (Int × α)}, anew l → (k, v) ∈ l → aget k l = some v
 | [], _, h => by cases h
 | (k', v') :: r, hn, h => by
  rw [anew] at hn
  rw [aget]
  rcases zq.1 h with h | h
  ·injection h with h1 h2
   rw [if_pos h1, h2]
  ·have hne : k ≠ k' := fun e => by
    have := yn5 h
    rw [e, hn.1] at this
    cases this
   rw [if_neg hne]
   exact yo5 hn.2 h
theorem y7y {l l' : List (Int × α)} (h : anew l) (h' : anew l') (hg : ∀ k, aget k l = aget k l') : l.Perm l' := by
 have nd : ∀ {l : List (Int × α)}, anew l → l.Nodup := fun h => (z3b.1 (y6w.1 h)).imp fun h e => h (by rw [e])
 rw [List.perm_ext_iff_of_nodup (nd h) (nd h')]
 rintro ⟨k, v⟩
 exact ⟨fun hm => yge ((hg k).symm.trans (yo5 h hm)), fun hm => yge ((hg k).trans (yo5 h' hm))⟩
end
theorem yrm {σ β : Type} {E : σ → σ → Prop} {step : σ → β → σ} {D : β → β → Prop} (tr : ∀ {a b c}, E a b → E b c → E a c) (resp : ∀ {s s'} p, E s s' → E (step s p) (step s' p)) (rfl1 : ∀ {s s'}, E s s' → E s s)
  (comm : ∀ {s} p q, E s s → D p q → E (step (step s p) q) (step (step s q) p)) {π l : List β} (hp : π.Perm l) : π.Pairwise (fun p q => D p q ∧ D q p) → ∀ {s s' : σ}, E s s' → E (π.foldl step s) (l.foldl step s') := by
 induction hp with
 | nil => intro _ s s' h; exact h
 | cons p _ ih =>
  intro hd s s' h
  rw [List.pairwise_cons] at hd
  exact ih hd.2 (resp p h)
 | swap p q r =>
  intro hd s s' h
  have hD : D q p ∧ D p q := by
   rw [List.pairwise_cons] at hd
   exact hd.1 p z1h
  have fold : ∀ (r : List β) {s s' : σ}, E s s' → E (r.foldl step s) (r.foldl step s') := by
   intro r
   induction r with
   | nil => exact fun h => h
   | cons x r ih => exact fun h => ih (resp x h)
  exact fold r (tr (comm q p (rfl1 h) hD.1) (resp q (resp p h)))
 | trans h1 h2 ih1 ih2 =>
  intro hd s s' h
  refine tr (ih1 hd (rfl1 h)) (ih2 ?_ h)
  exact (h1.pairwise_iff (fun h => ⟨h.2, h.1⟩)).1 hd
end Go.Vm
namespace Go.Vm
open Cel
structure Mv where
 to : Int
 fr : Int
 deriving DecidableEq, Inhabited
instance : Cel Mv := ⟨2, fun m => [.int .i64 m.to, .int .i64 m.fr], fun _ => rfl, fun _ => rfl, fun _ => rfl⟩
@[simp] theorem y2s0 : es Mv = 2 := rfl
abbrev zMv : Mv := ⟨0, 0⟩
abbrev IM := List (Int × Int)
def w64 (n : Int) : Int := IntKind.wrap .i64 n
def inc (a : Int) (R : IM) : IM := aset a (w64 ((aget a R).getD 0 + 1)) R
def dec1 (a : Int) (R : IM) : IM := aset a (w64 ((aget a R).getD 0 - 1)) R
def yrh (n : Int) : List Mv → IM → Option IM
 | [], A => some A
 | m :: r, A => if (aget m.to A).isSome = true ∨ m.to = n ∨ m.fr = n then none else yrh n r (aset m.to m.fr A)
def p2g (s : IM × IM) (k : Int) : Option Int → IM × IM
 | none => s
 | some a => if k = a then (adel k s.1, s.2) else (s.1, inc a s.2)
def p2s (s : IM × IM) (p : Int × Int) : IM × IM := p2g s p.1 (aget p.1 s.1)
theorem y6m (s : IM × IM) (p : Int × Int) : p2s s p = p2g s p.1 (aget p.1 s.1) := rfl
def p2M (A : IM) : IM × IM := A.foldl p2s (A, [])
def yck (A R : IM) (k : Int) : Bool := match aget k A with
 | some a => decide (a ≠ k) && decide ((aget k R).getD 0 = 0)
 | none => false
def yjz (A R : IM) : List Mv → List Int → List Int
 | [], F => F
 | m :: r, F => yjz A R r (if yck A R m.to = true then F ++ [m.to] else F)
def E2 (s s' : IM × IM) : Prop := anew s.1 ∧ anew s'.1 ∧ (∀ k, aget k s.1 = aget k s'.1) ∧ anew s.2 ∧ anew s'.2 ∧ ∀ k, aget k s.2 = aget k s'.2
theorem ygt (a j : Int) (R : IM) : aget j (inc a R) = if j = a then some (w64 ((aget a R).getD 0 + 1)) else aget j R := y4j ..
theorem ywp {a : Int} {R : IM} (h : anew R) : anew (inc a R) := ya8 _ _ _ h
theorem y7l {s : IM × IM} (p : Int × Int) (h1 : anew s.1) (h2 : anew s.2) : anew (p2s s p).1 ∧ anew (p2s s p).2 := by
 unfold p2s p2g
 split
 ·exact ⟨h1, h2⟩
 ·split
  ·exact ⟨ya0 _ _ h1, h2⟩
  ·exact ⟨h1, ywp h2⟩
theorem y22k {s s' : IM × IM} (p : Int × Int) (h : E2 s s') : E2 (p2s s p) (p2s s' p) := by
 obtain ⟨a1, a2, a3, b1, b2, b3⟩ := h
 obtain ⟨c1, c2⟩ := y7l p a1 b1
 obtain ⟨d1, d2⟩ := y7l p a2 b2
 refine ⟨c1, d1, fun k => ?_, c2, d2, fun k => ?_⟩
 ·rw [y6m s, y6m s', ← a3 p.1]
  cases aget p.1 s.1 with
  | none => exact a3 k
  | some a =>
   simp only [p2g]
   split
   ·rw [y45 _ _ _ a1, y45 _ _ _ a2, a3 k]
   ·exact a3 k
 ·rw [y6m s, y6m s', ← a3 p.1]
  cases aget p.1 s.1 with
  | none => exact b3 k
  | some a =>
   simp only [p2g]
   split
   ·exact b3 k
   ·rw [ygt, ygt, b3 k, b3 a]
theorem y24a {s : IM × IM} (p q : Int × Int) (h : E2 s s) (hd : p.1 ≠ q.1) : E2 (p2s (p2s s p) q) (p2s (p2s s q) p) := by
 obtain ⟨a1, _, _, b1, _, _⟩ := h
 obtain ⟨c1, c2⟩ := y7l p a1 b1
 obtain ⟨c3, c4⟩ := y7l q c1 c2
 obtain ⟨d1, d2⟩ := y7l q a1 b1
 obtain ⟨d3, d4⟩ := y7l p d1 d2
 have hp : aget q.1 (p2s s p).1 = aget q.1 s.1 := by
  unfold p2s p2g
  split
  ·rfl
  ·split
   ·rw [y45 _ _ _ a1, if_neg (fun e => hd e.symm)]
   ·rfl
 have hq : aget p.1 (p2s s q).1 = aget p.1 s.1 := by
  unfold p2s p2g
  split
  ·rfl
  ·split
   ·rw [y45 _ _ _ a1, if_neg hd]
   ·rfl
 cases ep : aget p.1 s.1 with
 | none =>
  have x1 : p2s s p = s := by rw [y6m, ep]; rfl
  have x2 : p2s (p2s s q) p = p2s s q := by rw [y6m (p2s s q), hq, ep]; rfl
  rw [x1, x2]
  exact ⟨d1, d1, fun _ => rfl, d2, d2, fun _ => rfl⟩
 | some a =>
  cases eq : aget q.1 s.1 with
  | none =>
   have x1 : p2s s q = s := by rw [y6m, eq]; rfl
   have x2 : p2s (p2s s p) q = p2s s p := by rw [y6m (p2s s p), hp, eq]; rfl
   rw [x1, x2]
   exact ⟨c1, c1, fun _ => rfl, c2, c2, fun _ => rfl⟩
  | some b =>
   have x1 : p2s (p2s s p) q = p2g (p2g s p.1 (some a)) q.1 (some b) := by rw [y6m (p2s s p), hp, eq, y6m s p, ep]
   have x2 : p2s (p2s s q) p = p2g (p2g s q.1 (some b)) p.1 (some a) := by rw [y6m (p2s s q), hq, ep, y6m s q, eq]
   refine ⟨c3, d3, fun k => ?_, c4, d4, fun k => ?_⟩
   ·rw [x1, x2]
    simp only [p2g]
    by_cases e1 : p.1 = a <;> by_cases e2 : q.1 = b <;> simp only [e1, e2, if_true, if_false]
    rw [← e1, ← e2, y45 _ _ _ (ya0 _ _ a1), y45 _ _ _ a1, y45 _ _ _ (ya0 _ _ a1), y45 _ _ _ a1]
    split <;> split <;> rfl
   ·rw [x1, x2]
    simp only [p2g]
    by_cases e1 : p.1 = a <;> by_cases e2 : q.1 = b <;> simp only [e1, e2, if_true, if_false]
    simp only [ygt]
    by_cases k1 : k = b <;> by_cases k2 : k = a <;> by_cases k3 : a = b <;> simp_all
theorem y2ja {a b c : IM × IM} (h : E2 a b) (h' : E2 b c) : E2 a c := ⟨h.1, h'.2.1, fun k => (h.2.2.1 k).trans (h'.2.2.1 k), h.2.2.2.1, h'.2.2.2.2.1, fun k => (h.2.2.2.2.2 k).trans (h'.2.2.2.2.2 k)⟩
theorem y27w {π l : IM} {s : IM × IM} (hl : anew l) (hp : π.Perm l) (h1 : anew s.1) (h2 : anew s.2) : E2 (π.foldl p2s s) (l.foldl p2s s) := by
 have hπ : anew π := y6w.2 (((hp.map _).nodup_iff).2 (y6w.1 hl))
 refine yrm (E := E2) (step := p2s) (D := fun p q => p.1 ≠ q.1) y2ja (fun p h => y22k p h) (fun h => ⟨h.1, h.1, fun _ => rfl, h.2.2.2.1, h.2.2.2.1, fun _ => rfl⟩) (fun p q h hd => y24a p q h hd) hp ?_ ⟨h1, h1, fun _ => rfl, h2, h2, fun _ => rfl⟩
 exact (z3b.1 (y6w.1 hπ)).imp fun h => ⟨h, fun e => h e.symm⟩
end Go.Vm
