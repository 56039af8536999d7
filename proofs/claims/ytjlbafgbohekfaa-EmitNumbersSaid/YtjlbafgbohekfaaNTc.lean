/- The sweeps end, and leave what is live. The machine's sets of registers. Which instructions may throw. A number in a list: the library's 'Contains'. flow.Next, flow.Caught. live.Of: the sweeps over the table are as the plain words have them. live.Of: one sweep, and all sweeps. live.Of: all sweeps. live.Of: how its answer reads. live's sets, read only. live: what outlives an instruction. Maps from whole numbers, as lists of pairs: plain Lean. Maps from whole numbers, as lists of pairs. Maps of one's own that are gone over while they turn. Maps as lists of pairs: the order of the pairs does not matter. Moves that are put in order: the plain model, and the first two loops on the machine. -/
import Derived.Test.YtjlbafgbohekfaaNX
import Derived.Test.YtjlbafgbohekfaaNTb
set_option linter.unusedSimpArgs false
set_option linter.unusedVariables false
set_option linter.unusedSectionVars false
namespace Go.Vm
section
variable {f : Fn}
structure LvSnd (f : Fn) (t : Tb) : Prop where
 b : ∀ i, i < (lst f.code).length → ∀ r, bit (rowW t.b i) r = true → ybe f [(i : Int)] r
 a : ∀ i, i < (lst f.code).length → ∀ r, bit (rowW t.a i) r = true → ybe f (y42 f i) r
 h : ∀ i, i < (lst f.code).length → ∀ r, bit (rowW t.h i) r = true → ybe f (y1z f i) r
structure Cl (f : Fn) (t : Tb) (i : Nat) : Prop where
 a : ∀ to ∈ y42 f i, ∀ r, bit (rowW t.b to.toNat) r = true → bit (rowW t.a i) r = true
 h : ∀ to ∈ y1z f i, ∀ r, bit (rowW t.b to.toNat) r = true → bit (rowW t.h i) r = true
 b : ∀ r : Nat, (r : Int) ∈ ym2 f i ∨ bit (rowW t.h i) r = true ∨ (bit (rowW t.a i) r = true ∧ defr (y25 f i) ≠ r) → bit (rowW t.b i) r = true
variable (w : Wf f)
include w
theorem y282 {A : List Int} {r : Nat} (h : ybe f A r) : r < (lst f.regs).length := by
 obtain ⟨i, hi, hu⟩ := h
 have := w.uses hi.lt hu
 omega
variable {t : Tb} (ok : TbOk (lst f.code).length ((lst f.regs).length / 64 + 1) t) {i : Nat} (hi : i < (lst f.code).length)
include ok hi
theorem ytw : ∀ to ∈ y42 f i, 0 ≤ to ∧ to < (lst f.code).length := fun _ h => w.next hi h
theorem yc7 : (aftT f t i).length = (lst f.regs).length / 64 + 1 := yit _ _ (ok.aw i hi) ok.bw (ytw w ok hi)
theorem ynt : (hanT f t i).length = (lst f.regs).length / 64 + 1 := yit _ _ (ok.hw i hi) ok.bw (fun _ h => w.caught h)
theorem yh0 : (befT f t i).length = (lst f.regs).length / 64 + 1 := by
 unfold befT
 rw [yzk, y4q (by rw [yam, yc7 w ok hi, ynt w ok hi]), yam, yc7 w ok hi]
theorem y1e7 (r : Nat) : bit (aftT f t i) r = true ↔ bit (rowW t.a i) r = true ∨ ∃ to ∈ y42 f i, bit (rowW t.b to.toNat) r = true := yjn _ _ (ok.aw i hi) ok.bw (ytw w ok hi) r
theorem y180 (r : Nat) : bit (hanT f t i) r = true ↔ bit (rowW t.h i) r = true ∨ ∃ to ∈ y1z f i, bit (rowW t.b to.toNat) r = true := yjn _ _ (ok.hw i hi) ok.bw (fun _ h => w.caught h) r
theorem y1od (r : Nat) : bit (befT f t i) r = true ↔ (r : Int) ∈ ym2 f i ∨ bit (hanT f t i) r = true ∨ (bit (aftT f t i) r = true ∧ defr (y25 f i) ≠ r) := by
 unfold befT
 have h1 : (ybd (defr (y25 f i)) (aftT f t i)).length = (hanT f t i).length := by rw [yam, yc7 w ok hi, ynt w ok hi]
 rw [y112 _ _ (fun u hu => by
  obtain ⟨u0, u1⟩ := w.uses hi hu
  rw [y4q h1, yam, yc7 w ok hi]
  exact ⟨u0, by omega⟩), yba h1, z1k, y1h1 (fun hd => by
  have := w.def hi hd
  rw [yc7 w ok hi]; omega)]
 constructor
 ·rintro ((h | h) | h)
  ·exact .inr (.inr h)
  ·exact .inr (.inl h)
  ·exact .inl h
 ·rintro (h | h | h)
  ·exact .inr h
  ·exact .inl (.inr h)
  ·exact .inl (.inl h)
theorem yng : TbOk (lst f.code).length ((lst f.regs).length / 64 + 1) (y55 f t i) := by
 have e1 : (rowW t.b i).length = (befT f t i).length := by rw [ok.bw i hi, yh0 w ok hi]
 refine ⟨by simp [y55, ok.b], by simp [y55, ok.a], by simp [y55, ok.h], fun j hj => ?_, fun j hj => ?_, fun j hj => ?_⟩
 ·simp only [y55]
  rw [y4z (by rw [ok.b]; exact hi)]
  split
  ·rw [y4q e1, ok.bw i hi]
  ·exact ok.bw j hj
 ·simp only [y55]
  rw [y4z (by rw [ok.a]; exact hi)]
  split
  ·exact yc7 w ok hi
  ·exact ok.aw j hj
 ·simp only [y55]
  rw [y4z (by rw [ok.h]; exact hi)]
  split
  ·exact ynt w ok hi
  ·exact ok.hw j hj
theorem y1l8 (j : Nat) : rowW (y55 f t i).b j = if j = i then y49 (rowW t.b i) (befT f t i) else rowW t.b j := y4z (by rw [ok.b]; exact hi)
theorem yi0 (j : Nat) : rowW (y55 f t i).a j = if j = i then aftT f t i else rowW t.a j := y4z (by rw [ok.a]; exact hi)
theorem yiw (j : Nat) : rowW (y55 f t i).h j = if j = i then hanT f t i else rowW t.h j := y4z (by rw [ok.h]; exact hi)
theorem ypz (S : LvSnd f t) (r : Nat) (h : bit (aftT f t i) r = true) : ybe f (y42 f i) r := by
 rcases (y1e7 w ok hi r).1 h with h | ⟨to, ht, h⟩
 ·exact S.a i hi r h
 ·have hr := ytw w ok hi to ht
  have := S.b to.toNat (by omega) r h
  rw [show ((to.toNat : Nat) : Int) = to by omega] at this
  exact (ya6 f).2 ⟨to, ht, hr.1, hr.2, this⟩
theorem yqs (S : LvSnd f t) (r : Nat) (h : bit (hanT f t i) r = true) : ybe f (y1z f i) r := by
 rcases (y180 w ok hi r).1 h with h | ⟨to, ht, h⟩
 ·exact S.h i hi r h
 ·have hr := w.caught ht
  have := S.b to.toNat (by omega) r h
  rw [show ((to.toNat : Nat) : Int) = to by omega] at this
  exact (ya6 f).2 ⟨to, ht, hr.1, hr.2, this⟩
theorem ypt (S : LvSnd f t) (r : Nat) (h : bit (befT f t i) r = true) : ybe f [(i : Int)] r := by
 rw [y1xq f hi]
 rcases (y1od w ok hi r).1 h with h | h | ⟨h, hd⟩
 ·exact .inl h
 ·exact .inr (.inl (yqs w ok hi S r h))
 ·exact .inr (.inr ⟨hd, ypz w ok hi S r h⟩)
theorem yq0 (S : LvSnd f t) : LvSnd f (y55 f t i) := by
 refine ⟨fun j hj r h => ?_, fun j hj r h => ?_, fun j hj r h => ?_⟩
 ·rw [y1l8 w ok hi] at h
  split at h
  ·rename_i e
   subst e
   rw [yba (by rw [ok.bw j hj, yh0 w ok hj]), z1k] at h
   rcases h with h | h
   ·exact S.b j hj r h
   ·exact ypt w ok hj S r h
  ·exact S.b j hj r h
 ·rw [yi0 w ok hi] at h
  split at h
  ·rename_i e
   subst e
   exact ypz w ok hj S r h
  ·exact S.a j hj r h
 ·rw [yiw w ok hi] at h
  split at h
  ·rename_i e
   subst e
   exact yqs w ok hj S r h
  ·exact S.h j hj r h
theorem y16f (hm : yk8 f t i = false) : (∀ j, rowW (y55 f t i).b j = rowW t.b j) ∧ Cl f (y55 f t i) i ∧ ∀ j, j ≠ i → Cl f t j → Cl f (y55 f t i) j := by
 have e1 : (rowW t.b i).length = (befT f t i).length := by rw [ok.bw i hi, yh0 w ok hi]
 have js := yqg e1 hm
 have hb : ∀ j, rowW (y55 f t i).b j = rowW t.b j := fun j => by
  rw [y1l8 w ok hi]
  split
  ·rename_i e; rw [js, e]
  ·rfl
 refine ⟨hb, ⟨fun to ht r h => ?_, fun to ht r h => ?_, fun r h => ?_⟩, fun j hj C => ⟨fun to ht r h => ?_, fun to ht r h => ?_, fun r h => ?_⟩⟩
 ·rw [hb] at h
  rw [yi0 w ok hi, if_pos rfl, y1e7 w ok hi]
  exact .inr ⟨to, ht, h⟩
 ·rw [hb] at h
  rw [yiw w ok hi, if_pos rfl, y180 w ok hi]
  exact .inr ⟨to, ht, h⟩
 ·rw [yiw w ok hi, if_pos rfl, yi0 w ok hi, if_pos rfl] at h
  have := (y1od w ok hi r).2 h
  rw [hb, ← js, yba e1, this, Bool.or_true]
 ·rw [hb] at h
  rw [yi0 w ok hi, if_neg hj]
  exact C.a to ht r h
 ·rw [hb] at h
  rw [yiw w ok hi, if_neg hj]
  exact C.h to ht r h
 ·rw [yiw w ok hi, if_neg hj, yi0 w ok hi, if_neg hj] at h
  rw [hb]
  exact C.b r h
end
section
variable {f : Fn} (w : Wf f)
include w
theorem y12q : ∀ (k : Nat) (t : Tb), k ≤ (lst f.code).length → TbOk (lst f.code).length ((lst f.regs).length / 64 + 1) t → LvSnd f t → TbOk (lst f.code).length ((lst f.regs).length / 64 + 1) (y3e f k t).1 ∧ LvSnd f (y3e f k t).1
 | 0, t, _, ok, S => ⟨ok, S⟩
 | k + 1, t, hk, ok, S => y12q k _ (by omega) (yng w ok (by omega)) (yq0 w ok (by omega) S)
theorem ylv : ∀ (k : Nat) (t : Tb), k ≤ (lst f.code).length → TbOk (lst f.code).length ((lst f.regs).length / 64 + 1) t → (y3e f k t).2 = false → (∀ j, j < k → Cl f (y3e f k t).1 j) ∧ ∀ j, k ≤ j → Cl f t j → Cl f (y3e f k t).1 j
 | 0, t, _, _, _ => ⟨fun _ h => by omega, fun _ _ h => h⟩
 | k + 1, t, hk, ok, h => by
  rw [y3e, z2q] at h
  obtain ⟨_, c2, c3⟩ := y16f w ok (by omega) h.1
  obtain ⟨d1, d2⟩ := ylv k (y55 f t k) (by omega) (yng w ok (by omega)) h.2
  refine ⟨fun j hj => ?_, fun j hj C => d2 j (by omega) (c3 j (by omega) C)⟩
  by_cases e : j = k
  ·subst e; exact d2 j (zi _) c2
  ·exact d1 j (by omega)
def rowB (R : Nat) (s : Ws) : List Bool := (List.range R).map (bit s)
theorem yo6 {R : Nat} {s : Ws} {r : Nat} (h : r < R) : (rowB R s)[r]? = some (bit s r) := by simp [rowB, h]
omit w in
theorem ygl (R : Nat) (s : Ws) : (rowB R s).length = R := by simp [rowB]
def tabB (R : Nat) (t : Tb) : Tab := t.b.map fun s => some (rowB R s)
def lpot (R : Nat) (t : Tb) : Nat := pot R (tabB R t)
theorem y17p {t : Tb} (ok : TbOk (lst f.code).length ((lst f.regs).length / 64 + 1) t) (S : LvSnd f t) {i : Nat} (hi : i < (lst f.code).length) :
  lpot (lst f.regs).length t ≤ lpot (lst f.regs).length (y55 f t i) ∧ (yk8 f t i = true → lpot (lst f.regs).length t < lpot (lst f.regs).length (y55 f t i)) := by
 have e1 : (rowW t.b i).length = (befT f t i).length := by rw [ok.bw i hi, yh0 w ok hi]
 have hb : i < t.b.length := by rw [ok.b]; exact hi
 have hg : (tabB (lst f.regs).length t)[i]? = some (some (rowB (lst f.regs).length (rowW t.b i))) := by
  simp [tabB, rowW, ze, z9 hb]
 have hs : tabB (lst f.regs).length (y55 f t i) = (tabB (lst f.regs).length t).set i (some (rowB (lst f.regs).length (y49 (rowW t.b i) (befT f t i)))) := by
  simp only [tabB, y55, List.map_set]
 have hp := y2b7 (R := (lst f.regs).length) (y := some (rowB (lst f.regs).length (y49 (rowW t.b i) (befT f t i)))) hg
 rw [← hs] at hp
 simp only [wt] at hp
 have le : LeB (rowB (lst f.regs).length (rowW t.b i)) (rowB (lst f.regs).length (y49 (rowW t.b i) (befT f t i))) := by
  intro r hr
  have hlt : r < (lst f.regs).length := by have := (zb.1 hr).1; rw [ygl] at this; exact this
  rw [yo6 w hlt] at hr ⊢
  injection hr with hr
  rw [yba e1, hr, z2x]
 have hlen : (rowB (lst f.regs).length (y49 (rowW t.b i) (befT f t i))).length = (rowB (lst f.regs).length (rowW t.b i)).length := by rw [ygl, ygl]
 have strict : yk8 f t i = true → (rowB (lst f.regs).length (rowW t.b i)).countP id < (rowB (lst f.regs).length (y49 (rowW t.b i) (befT f t i))).countP id := by
  intro hm
  obtain ⟨q, h1, h2⟩ := (y1kn e1).1 hm
  have hq := y282 w (ypt w ok hi S q h1)
  refine y13j hlen le ⟨q, ?_, ?_⟩
  ·rw [yo6 w hq, yba e1, h1, Bool.or_true]
  ·rw [yo6 w hq, h2]
 have weak : (rowB (lst f.regs).length (rowW t.b i)).countP id ≤ (rowB (lst f.regs).length (y49 (rowW t.b i) (befT f t i))).countP id := by
  cases hm : yk8 f t i with
  | true => exact Nat.le_of_lt (strict hm)
  | false => rw [yqg e1 hm]; exact zi _
 unfold lpot
 exact ⟨by omega, fun hm => by have := strict hm; omega⟩
theorem ykz : ∀ (k : Nat) (t : Tb), k ≤ (lst f.code).length → TbOk (lst f.code).length ((lst f.regs).length / 64 + 1) t → LvSnd f t → lpot (lst f.regs).length t ≤ lpot (lst f.regs).length (y3e f k t).1 ∧ ((y3e f k t).2 = true → lpot (lst f.regs).length t < lpot (lst f.regs).length (y3e f k t).1)
 | 0, t, _, _, _ => ⟨zi _, fun h => by cases h⟩
 | k + 1, t, hk, ok, S => by
  obtain ⟨a1, a2⟩ := y17p w ok S (i := k) (by omega)
  obtain ⟨b1, b2⟩ := ykz k (y55 f t k) (by omega) (yng w ok (i := k) (by omega)) (yq0 w ok (i := k) (by omega) S)
  rw [y3e]
  refine ⟨z1o a1 b1, fun h => ?_⟩
  rw [z1k] at h
  rcases h with h | h
  ·exact z2j (a2 h) b1
  ·exact Nat.lt_of_le_of_lt a1 (b2 h)
theorem y28o {t : Tb} (ok : TbOk (lst f.code).length ((lst f.regs).length / 64 + 1) t) : lpot (lst f.regs).length t ≤ (lst f.code).length * ((lst f.regs).length + 1) := by
 have key : ∀ (R : Nat) (l : List Ws), pot R (l.map fun s => some (rowB R s)) ≤ l.length * (R + 1) := by
  intro R l
  induction l with
  | nil => simp [pot]
  | cons a l ih =>
   have hc : (rowB R a).countP id ≤ (rowB R a).length := List.countP_le_length
   rw [ygl] at hc
   simp only [pot, List.map_cons, List.sum_cons, List.length_cons, z25, wt] at ih ⊢
   omega
 have := key (lst f.regs).length t.b
 rw [ok.b] at this
 exact this
theorem yda : ∀ (k : Nat) (t : Tb), TbOk (lst f.code).length ((lst f.regs).length / 64 + 1) t → LvSnd f t → (lst f.code).length * ((lst f.regs).length + 1) < k + lpot (lst f.regs).length t →
  ∃ r, ydm f k t = some r ∧ TbOk (lst f.code).length ((lst f.regs).length / 64 + 1) r ∧ LvSnd f r ∧ ∀ i, i < (lst f.code).length → Cl f r i
 | 0, t, ok, _, h => by have := y28o w ok; omega
 | k + 1, t, ok, S, h => by
  obtain ⟨o2, s2⟩ := y12q w _ t (zi _) ok S
  obtain ⟨p1, p2⟩ := ykz w _ t (zi _) ok S
  rw [ydm]
  cases hm : (y3e f (lst f.code).length t).2 with
  | true =>
   rw [if_pos rfl]
   have := p2 hm
   exact yda k _ o2 s2 (by omega)
  | false =>
   rw [if_neg zv]
   exact ⟨_, rfl, o2, s2, (ylv w _ t (zi _) ok hm).1⟩
def tb0 (f : Fn) : Tb := ⟨List.replicate (lst f.code).length (y2m ((lst f.regs).length / 64 + 1)), List.replicate (lst f.code).length (y2m ((lst f.regs).length / 64 + 1)), List.replicate (lst f.code).length (y2m ((lst f.regs).length / 64 + 1))⟩
omit w in
theorem yi8 {n i W : Nat} (h : i < n) : rowW (List.replicate n (y2m W)) i = y2m W := by
 simp [rowW, ze, h]
omit w in
theorem y277 : TbOk (lst f.code).length ((lst f.regs).length / 64 + 1) (tb0 f) := by
 refine ⟨by simp [tb0], by simp [tb0], by simp [tb0], fun i hi => ?_, fun i hi => ?_, fun i hi => ?_⟩ <;> (simp only [tb0]; rw [yi8 hi]; simp [y2m])
omit w in
theorem y1gt : LvSnd f (tb0 f) := by
 refine ⟨fun i hi r h => ?_, fun i hi r h => ?_, fun i hi r h => ?_⟩ <;> (simp only [tb0] at h; rw [yi8 hi, y1tz] at h; cases h)
end
end Go.Vm
namespace Go.Vm
open Cel
instance : Cel (BitVec 64) := ⟨1, fun w => [.int .u64 w.toNat], fun _ => rfl, fun _ => rfl, fun _ => rfl⟩
@[simp] theorem y2v3 (w : BitVec 64) : enc w = [.int .u64 w.toNat] := rfl
@[simp] theorem es_w : es (BitVec 64) = 1 := rfl
abbrev AW (g : Nat) (s : Ws) : AO := ⟨g, .arr false false 1 (s.map enc)⟩
theorem yzy {n : Nat} (h : n < 18446744073709551616) : IntKind.wrap .u64 (n : Int) = (n : Int) := by
 simp [IntKind.wrap, IntKind.bits, IntKind.signed]; omega
theorem y1fl (c : BitVec 64) : IntKind.wrap .u64 (c.toNat : Int) = (c.toNat : Int) := yzy c.isLt
theorem yh7 (c : BitVec 64) : BitVec.ofInt 64 (c.toNat : Int) = c := by simp
theorem or_w (a b : BitVec 64) : yb .or (.int .u64 a.toNat) (.int .u64 b.toNat) = some (.int .u64 (a ||| b).toNat) := by
 show some (AV.int .u64 (IntKind.wrap .u64 ((BitVec.ofInt 64 (a.toNat : Int) ||| BitVec.ofInt 64 (b.toNat : Int)).toNat : Int))) = _
 rw [yh7, yh7, y1fl]
theorem y12l (a b : BitVec 64) : yb .andNot (.int .u64 a.toNat) (.int .u64 b.toNat) = some (.int .u64 (a &&& ~~~ b).toNat) := by
 show some (AV.int .u64 (IntKind.wrap .u64 ((BitVec.ofInt 64 (a.toNat : Int) &&& ~~~ (BitVec.ofInt 64 (b.toNat : Int))).toNat : Int))) = _
 rw [yh7, yh7, y1fl]
theorem y2ja (a : BitVec 64) : yb .neq (.int .u64 a.toNat) (.int .u64 0) = some (.bool (decide (a ≠ 0))) := by
 rw [y6f]
 have : ((a.toNat : Int) ≠ 0) ↔ a ≠ 0 := by
  constructor
  ·intro h e; subst e; exact h rfl
  ·intro h e
   exact h (BitVec.eq_of_toNat_eq (by simpa using e))
 rw [decide_eq_decide.2 this]
theorem y2mf {r : Nat} (h : r < 64) : yb .shl (.int .u64 1) (.int .i64 r) = some (.int .u64 (BitVec.twoPow 64 r).toNat) := by
 have h0 : ¬ (r : Int) < 0 := by omega
 have hm : min r 64 = r := by omega
 have hp : 2 ^ r < 2 ^ 64 := Nat.pow_lt_pow_right (by omega) h
 have e : (BitVec.twoPow 64 r).toNat = 2 ^ r := by rw [BitVec.toNat_twoPow, Nat.mod_eq_of_lt hp]
 rw [e]
 show (if (r : Int) < 0 then none else some (AV.int .u64 (IntKind.wrap .u64 (1 * 2 ^ (min (r : Int).toNat 64))))) = _
 rw [if_neg h0, z2f, hm, Int.one_mul]
 have e2 : ((2 : Int) ^ r) = ((2 ^ r : Nat) : Int) := by simp
 rw [e2, yzy hp]
theorem y2tk {r : Nat} (h : r < 64) (a : BitVec 64) : ∃ v w, yb .shr (.int .u64 a.toNat) (.int .i64 r) = some v ∧ yb .and v (.int .u64 1) = some w ∧ yb .eql w (.int .u64 1) = some (.bool (a.getLsbD r)) := by
 have h0 : ¬ (r : Int) < 0 := by omega
 have hm : min r 64 = r := by omega
 refine ⟨.int .u64 ((a >>> r).toNat), .int .u64 ((a >>> r) &&& 1#64).toNat, ?_, ?_, ?_⟩
 ·show (if (r : Int) < 0 then none else some (AV.int .u64 (Int.fdiv (a.toNat : Int) (2 ^ (min (r : Int).toNat 64))))) = _
  rw [if_neg h0, z2f, hm]
  have e2 : ((2 : Int) ^ r) = ((2 ^ r : Nat) : Int) := by simp
  rw [e2, BitVec.toNat_ushiftRight, Nat.shiftRight_eq_div_pow, z2t _ (Int.natCast_nonneg _), Int.natCast_ediv]
 ·show some (AV.int .u64 (IntKind.wrap .u64 ((BitVec.ofInt 64 (((a >>> r).toNat : Nat) : Int) &&& BitVec.ofInt 64 1).toNat : Int))) = _
  rw [yh7, show BitVec.ofInt 64 1 = 1#64 from rfl, y1fl]
 ·rw [yy]
  congr 2
  rw [BitVec.toNat_and, BitVec.toNat_ushiftRight, show (1#64).toNat = 1 from rfl, Nat.and_one_is_mod, Nat.shiftRight_eq_div_pow, BitVec.getLsbD, Nat.testBit_eq_decide_div_mod_eq]
  rw [decide_eq_decide]
  omega
theorem yn1 {r : Nat} (h : r < 9223372036854775808) : yb .quo (.int .i64 r) (.int .i64 64) = some (.int .i64 ((r / 64 : Nat) : Int)) ∧ yb .rem (.int .i64 r) (.int .i64 64) = some (.int .i64 ((r % 64 : Nat) : Int)) := by
 constructor
 ·show (if (64 : Int) = 0 then none else some (AV.int .i64 (IntKind.wrap .i64 ((r : Int).tdiv 64)))) = _
  rw [if_neg (by omega), Int.tdiv_eq_ediv_of_nonneg (by omega), y1a (by omega) (by omega)]
  congr 2
 ·show (if (64 : Int) = 0 then none else some (AV.int .i64 ((r : Int).tmod 64))) = _
  rw [if_neg (by omega), Int.tmod_eq_emod_of_nonneg (by omega)]
  congr 2
section
variable {H : Heap} {a ga : Nat} {s : Ws} (h : H[a]? = some (AW ga s))
include h
theorem y2tj {r : Nat} (hr : r < 9223372036854775808) (hs : r / 64 < s.length) : yc E (yd E) 0 none false 86 [.ls a ga 1 0 s.length, .int .i64 r] H = some (.tup [], H.set a (AW ga (addW s r))) := by
 have hd : H ++ yj 0 = H := by simp [yj]
 have ecall : yc E (yd E) 0 none false 86 [.ls a ga 1 0 s.length, .int .i64 r] H = y23k H.length (.ls a ga 1 0 s.length) (.int .i64 r) (H ++ yj 0) := by
  rw [yc, if_neg (by simp), y2tv, if_pos rfl]
 obtain ⟨q1, q2⟩ := yn1 hr
 have ix := yga (n := s.length) (p := ((r / 64 : Nat) : Int)) (by omega) (by omega) a ga .i64
 rw [z2f] at ix
 have ld := yot (α := BitVec 64) (H := H) (id := a) (g := ga) (i := r / 64) (v := .int .u64 (s.getD (r / 64) 0).toNat) h (by rw [z9 hs]) (by rw [ze, z9 hs]; rfl)
 have st := yed (α := BitVec 64) (H := H) (id := a) (g := ga) (i := r / 64) (L := s) (v := .int .u64 (s.getD (r / 64) 0 ||| BitVec.twoPow 64 (r % 64)).toNat) (y := s.getD (r / 64) 0 ||| BitVec.twoPow 64 (r % 64)) h hs rfl
 simp only [es_w] at st
 rw [ecall, hd]
 simp only [y23k, q1, q2, y9, ix, ld, y2mf (z3n r (by omega : 64 > 0)), or_w, st, ye]
 rfl
theorem y2ni {r : Nat} (hr : r < 9223372036854775808) (hs : r / 64 < s.length) : yc E (yd E) 0 none false 85 [.ls a ga 1 0 s.length, .int .i64 r] H = some (.tup [], H.set a (AW ga (y175 s r))) := by
 have hd : H ++ yj 0 = H := by simp [yj]
 have ecall : yc E (yd E) 0 none false 85 [.ls a ga 1 0 s.length, .int .i64 r] H = y1uh H.length (.ls a ga 1 0 s.length) (.int .i64 r) (H ++ yj 0) := by
  rw [yc, if_neg (by simp), y2rr, if_pos rfl]
 obtain ⟨q1, q2⟩ := yn1 hr
 have ix := yga (n := s.length) (p := ((r / 64 : Nat) : Int)) (by omega) (by omega) a ga .i64
 rw [z2f] at ix
 have ld := yot (α := BitVec 64) (H := H) (id := a) (g := ga) (i := r / 64) (v := .int .u64 (s.getD (r / 64) 0).toNat) h (by rw [z9 hs]) (by rw [ze, z9 hs]; rfl)
 have st := yed (α := BitVec 64) (H := H) (id := a) (g := ga) (i := r / 64) (L := s) (v := .int .u64 (s.getD (r / 64) 0 &&& ~~~ BitVec.twoPow 64 (r % 64)).toNat) (y := s.getD (r / 64) 0 &&& ~~~ BitVec.twoPow 64 (r % 64)) h hs rfl
 simp only [es_w] at st
 rw [ecall, hd]
 simp only [y1uh, q1, q2, y9, ix, ld, y2mf (z3n r (by omega : 64 > 0)), y12l, st, ye]
 rfl
end
theorem y17f {α : Type} {n k : Nat} {p q : Nat → α} {v : α} (hq : q k = v) (he : ∀ j, j ≠ k → q j = p j) : ((List.range n).map p).set k v = (List.range n).map q := by
 refine z36 (by simp) fun i h1 h2 => ?_
 rw [List.getElem_set]
 simp only [List.getElem_map, List.getElem_range]
 split
 ·rename_i e; rw [← e, hq]
 ·rename_i e; rw [he i (fun h => e h.symm)]
def yao (k : Nat) (s t : Ws) : Ws := (List.range s.length).map fun j => if j < k then s.getD j 0 ||| t.getD j 0 else s.getD j 0
def yst (k : Nat) (s t : Ws) : Bool := (List.range k).any fun j => decide (t.getD j 0 &&& ~~~ s.getD j 0 ≠ 0)
theorem y1qp (k : Nat) (s t : Ws) : (yao k s t).length = s.length := by simp [yao]
theorem y29c (s t : Ws) : yao 0 s t = s := by
 refine z36 (by simp [yao]) fun i h1 h2 => ?_
 simp [yao, h2]
theorem y1pb {k : Nat} {s t : Ws} {j : Nat} (h : j < s.length) : (yao k s t)[j]? = some (if j < k then s.getD j 0 ||| t.getD j 0 else s.getD j 0) := by simp [yao, h]
theorem y1bj {s t : Ws} (h : s.length = t.length) : yao s.length s t = y49 s t := by
 refine z36 (by simp [yao, y49, h]) fun i h1 h2 => ?_
 have hi : i < s.length := by simpa [yao] using h1
 have hi2 : i < t.length := by omega
 simp [yao, y49, hi, hi2]
theorem y18j {s t : Ws} (h : s.length = t.length) : yst s.length s t = yei s t := by
 rw [Bool.eq_iff_iff, yst, yei, z3h, z3h]
 constructor
 ·rintro ⟨j, hj, hb⟩
  rw [z27] at hj
  refine ⟨true, zs (i := j) ?_, rfl⟩
  rw [z2n, z9 hj, z9 (by omega)]
  simp only [ze, z9 hj, z9 (show j < t.length by omega), Option.getD_some] at hb
  simp only [hb]
 ·rintro ⟨b, hb, h1⟩
  obtain ⟨k, hk⟩ := zz hb
  rw [z2n] at hk
  by_cases hlt : k < s.length
  ·rw [z9 hlt, z9 (show k < t.length by omega)] at hk
   simp only [Option.some.injEq] at hk
   refine ⟨k, z27.2 hlt, ?_⟩
   simp only [ze, z9 hlt, z9 (show k < t.length by omega), Option.getD_some]
   rw [hk]; exact h1
  ·rw [z12 (by omega)] at hk
   simp at hk
theorem y1t7 (k : Nat) (s t : Ws) : (yao k s t).set k (s.getD k 0 ||| t.getD k 0) = yao (k + 1) s t := by
 unfold yao
 refine y17f ?_ fun j hj => ?_
 ·rw [if_pos (by omega)]
 ·by_cases h1 : j < k
  ·rw [if_pos (by omega), if_pos h1]
  ·rw [if_neg (by omega), if_neg h1]
theorem y17b (k : Nat) (s t : Ws) : yst (k + 1) s t = (yst k s t || decide (t.getD k 0 &&& ~~~ s.getD k 0 ≠ 0)) := by
 simp [yst, List.range_succ]
theorem y1bg (fb : Nat) {a ga b gb : Nat} {s t : Ws} (hl : s.length = t.length) (hn : s.length ≤ 9223372036854775806) (hab : a ≠ b) : ∀ (d k : Nat) (H : Heap), k + d = t.length → H[a]? = some (AW ga (yao k s t)) → H[b]? = some (AW gb t) →
  yp4 fb (.ls a ga 1 0 s.length) (.bool (yst k s t)) (.ls b gb 1 0 t.length) (.int .i64 t.length) (.int .i64 (k : Int)) H = some (.bool (yei s t), H.set a (AW ga (y49 s t))) := by
 intro d
 induction d with
 | zero =>
  intro k H hk ha hb
  have hk' : k = t.length := by omega
  subst hk'
  have hc : ¬ ((t.length : Int) < (t.length : Int)) := by omega
  rw [yrq]
  simp only [y1l1, yg, y9, hc, decide_false, y1kx, y1h, y2a8]
  rw [← y1bj hl, ← y18j hl, hl, ynp ha]
 | succ d ih =>
  intro k H hk ha hb
  have hlt : k < t.length := by omega
  have hls : k < s.length := by omega
  have hc : ((k : Int) < (t.length : Int)) := by omega
  have hw := y2x hlt (by omega)
  have ixA := yga (n := s.length) (p := (k : Int)) (by omega) (by omega) a ga .i64
  have ixB := yga (n := t.length) (p := (k : Int)) (by omega) (by omega) b gb .i64
  rw [z2f] at ixA ixB
  have gA := y1pb (k := k) (t := t) hls
  rw [if_neg (Nat.lt_irrefl _)] at gA
  have lA := yot (α := BitVec 64) (H := H) (id := a) (g := ga) (i := k) (v := .int .u64 (s.getD k 0).toNat) ha gA rfl
  have lB := yot (α := BitVec 64) (H := H) (id := b) (g := gb) (i := k) (v := .int .u64 (t.getD k 0).toNat) hb (by rw [z9 hlt]) (by rw [ze, z9 hlt]; rfl)
  have st := yed (α := BitVec 64) (H := H) (id := a) (g := ga) (i := k) (L := yao k s t) (v := .int .u64 (s.getD k 0 ||| t.getD k 0).toNat) (y := s.getD k 0 ||| t.getD k 0) ha (by rw [y1qp]; exact hls) rfl
  rw [y1t7] at st
  simp only [es_w] at st
  have ih0 := ih (k + 1) (H.set a (AW ga (yao (k + 1) s t))) (by omega) (y2e (y3m ha)) (by rw [yn hab]; exact hb)
  rw [z2r, y17b] at ih0
  push_cast at ih0
  rw [yrq]
  cases hm : yst k s t with
  | true =>
   rw [hm, z2x] at ih0
   simp only [y1l1, yg, y9, hc, decide_true, y1kx, y1b, y1vl, ixB, lB, y6z, y1g, ixA, lA, or_w, st, ye, y20h, yz, hw, ih0]
  | false =>
   rw [hm, z1x] at ih0
   simp only [y1l1, yg, y9, hc, decide_true, y1kx, y1b, y1vl, ixB, lB, y51, y1d, ixA, lA, y12l, y2ja, or_w, st, ye, y20h, yz, hw]
   exact ih0
theorem y1g1 {H : Heap} {a ga b gb : Nat} {s t : Ws} (ha : H[a]? = some (AW ga s)) (hb : H[b]? = some (AW gb t)) (hl : s.length = t.length) (hn : s.length ≤ 9223372036854775806) (hab : a ≠ b) :
  yc E (yd E) 0 none false 84 [.ls a ga 1 0 s.length, .ls b gb 1 0 t.length] H = some (.bool (yei s t), H.set a (AW ga (y49 s t))) := by
 have hd : H ++ yj 0 = H := by simp [yj]
 rw [yc, if_neg (by simp), y2qx, if_pos rfl, hd]
 have lp := y1bg H.length (ga := ga) (gb := gb) hl hn hab _ 0 H (zd _) (by rw [y29c]; exact ha) hb
 simp only [Int.ofNat_zero] at lp
 simp only [y1be, y1hw, y29g, y1yn, y9]
 exact lp
end Go.Vm
namespace Go.Vm
open Cel
attribute [local simp] yc y38 y1t
@[simp] theorem y2qm (x : Ins) : (yd E).p 18 [.agg (enc x)] = some ⟨.bool (throws x.op), [], true, [], []⟩ := by
 rw [y2tr]
 rcases ydj x.op with h|h|h|h|h|h|h|h|h|h|h|h|h|h|h|h|h|h|h|h|h|h|h|h|h|h|h|h|h|h|h|h|h|h|h <;> first | (simp [h, throws, calls, y1pl]; done) | (simp [lo_f h, throws, calls, y1pl]; done) | simp [hi_f h, throws, calls, y1pl]
end Go.Vm
namespace Go.Vm
open Cel
attribute [local simp] yc y38 y1t
theorem y2oi {α : Type} [Cel α] (o : Option (List α)) (i : Nat) (h : i ≤ (lst o).length) (k : IntKind) : y75 (es α) (slA o) none (some (.int k i)) = some (slA (o.map (List.take i))) := by
 have h2 : (0 : Int) ≤ (i : Int) ∧ (i : Int) ≤ ((lst o).length : Int) := by omega
 cases o with
 | none =>
  have : i = 0 := by simpa using h
  subst this
  simp [y75, slA, yqq, ybv, yoo]
 | some L =>
  simp only [y57] at h2
  simp [y75, slA, yqq, ybv, yoo, h2, List.map_take]
theorem y16k (o : Option (List Int)) (r : Int) (hl : (lst o).length ≤ 9223372036854775807) (h : Heap) : ∀ (d i : Nat), i + d = (lst o).length →
  ∃ k : Int, yid (slA o) (.int .i64 r) (.int .i64 (lst o).length) (.int .i64 i) h = some ⟨.int .i64 k, [], true, [], []⟩ ∧ (0 ≤ k ↔ r ∈ (lst o).drop i) := by
 intro d
 induction d with
 | zero =>
  intro i hi
  have e1 : (lst o).drop i = [] := z1b (by omega)
  have hn : ¬ ((i : Int) < ((lst o).length : Int)) := by omega
  rw [yle, e1]
  exact ⟨-1, by simp [yl6, ykf, yld, ymg, ymc, yla, yf3, hn], by simp⟩
 | succ d ih =>
  intro i hi
  have hlt : i < (lst o).length := by omega
  have hn : ((i : Int) < ((lst o).length : Int)) := by omega
  have k1 := y3j (o := o) (i := i) (z9 hlt) .i64
  have hm : r ∈ (lst o).drop i ↔ r = (lst o)[i] ∨ r ∈ (lst o).drop (i + 1) := by rw [zk hlt, zq]
  rw [yle, hm]
  by_cases he : r = (lst o)[i]
  ·exact ⟨i, by simp [yl6, ykf, yld, ymg, ymc, yla, yf3, hn, k1, he], by simp [he]⟩
  ·obtain ⟨k, h1, h2⟩ := ih (i + 1) (by omega)
   push_cast at h1
   refine ⟨k, ?_, ?_⟩
   ·simp [yl6, ykf, yld, ymg, ymc, yla, yf3, hn, k1, he, y2x hlt hl, h1]
   ·rw [h2]; simp [he]
@[simp] theorem yb4 (o : Option (List Int)) (r : Int) (hl : (lst o).length ≤ 9223372036854775807) : (yd E).p 46 [slA o, .int .i64 r] = some ⟨.bool ((lst o).contains r), [], true, [], []⟩ := by
 obtain ⟨k, h1, h2⟩ := y16k o r hl [] (lst o).length 0 (by omega)
 simp only [Int.ofNat_zero, List.drop_zero] at h1 h2
 have hi : (yd E).p 45 [slA o, .int .i64 r] = some ⟨.int .i64 k, [], true, [], []⟩ := by
  rw [y2nz, ← h1]
  simp [yl6, ykf, yld, ymg, ymc, yla, yf3]
 rw [y2ms]
 by_cases h0 : 0 ≤ k
 ·have := h2.1 h0
  simp [y0n, hi, h0, this]
 ·have : r ∉ lst o := fun h => h0 (h2.2 h)
  simp [y0n, hi, h0, this]
end Go.Vm
namespace Go.Vm
open Cel
attribute [local simp] yc y38 y1t
theorem yph (a b : Int) : (yd E).p 46 [.rs 1 [[.int .i64 a]], .int .i64 b] = some ⟨.bool ([a].contains b), [], true, [], []⟩ := by
 have := yb4 (some [a]) b (by simp)
 exact this
theorem y2n3 (f : Fn) (i : Int) (hl : (lst f.code).length ≤ 9223372036854775807) : (yd E).p 81 [.agg (enc f), .int .i64 i] = some (exO (nz (y42 f i))) := by
 rw [y2ty]
 by_cases h0 : i < 0
 ·simp [yk2, yka, yk7, y1cn, y1bd, y1ka, y17h, h0, y42, nz]; rfl
 by_cases h1 : ((lst f.code).length : Int) ≤ i
 ·simp [yk2, yka, yk7, y1cn, y1bd, y1ka, y17h, h0, h1, y42, nz]; rfl
 have g0 : 0 ≤ i := by omega
 have hx := y5w (f := f) (i := i.toNat) (by omega)
 have k1 := ye1 (o := f.code) g0 hx .i64
 have hw := y1sz g0 (by omega) hl
 have hn : y42 f i = y15x (y25 f i.toNat) i := by rw [y42, if_neg (by omega)]
 rw [hn]
 generalize y25 f i.toNat = x at *
 have e : y17h (.agg (enc f)) (.int .i64 i) [⟨0, .dead⟩, ⟨0, .dead⟩, ⟨0, .dead⟩, ⟨0, .dead⟩, ⟨0, .dead⟩, ⟨0, .dead⟩] = yk7 (.int .i64 i) (.lp 1 1 0 0) .nils [⟨1, .arr true false 5 [enc f]⟩, ⟨1, .arr true false 9 [enc x]⟩, ⟨0, .dead⟩, ⟨0, .dead⟩, ⟨0, .dead⟩, ⟨0, .dead⟩] := by
  simp [y17h, y1ka, y1bd, y1cn, h0, h1, k1]
 rw [e, y15x]
 cases he : ends x.op with
 | true =>
  cases hd : leads x.op with
  | false => simp [yk7, yka, yk2, he, hd, nz]; rfl
  | true =>
   have := yb4 none x.t (by simp)
   simp [yk7, yka, yk2, he, hd, nz, slA] at this ⊢
   simp [this, yl, y1i, y1v, addN]
   exact ye8 (by simp)
 | false =>
  cases hd : leads x.op with
  | false =>
   simp [yk7, yka, yk2, he, hd, hw, yl, y1i, y1v]
   exact ye8 (by simp)
  | true =>
   have hz : fz [⟨1, .arr true false 5 [enc f]⟩, ⟨1, .arr true false 9 [enc x]⟩, ⟨1, .arr false false 1 [[.int .i64 (i + 1)]]⟩, ⟨1, .arr false false 1 [[.int .i64 (i + 1)]]⟩, ⟨0, .dead⟩, ⟨0, .dead⟩] y1m (.ls 3 1 1 0 1) = some ⟨.rs 1 [[.int .i64 (i + 1)]], true, [3]⟩ := by
    rw [y2ej]; rfl
   generalize hxt : x.t = t at *
   by_cases hc : i + 1 = t
   ·subst hc
    simp [yk7, yka, yk2, he, hd, hw, yl, y1i, y1v, hz, yph, addN, hxt]
    exact ye8 (by simp)
   ·have hc' : ¬ t = i + 1 := fun h => hc h.symm
    simp [yk7, yka, yk2, he, hd, hw, yl, y1i, y1v, hz, yph, hc, hc', addN, hxt]
    exact y15w (by simp)
theorem ytk (f : Fn) (i : Int) (hl : (lst f.rows).length ≤ 10000000000000) : ∀ (d k g : Nat) (L : List Int) (o1 o2 : AO), k + d = (lst f.rows).length → L.length ≤ k →
  ypl (.int .i64 i) (y1c Int 3 g L) (slA f.rows) (.int .i64 (lst f.rows).length) (.int .i64 k) [⟨1, .arr true false 5 [enc f]⟩, o1, o2, y2l g D0 L] = some (exO (nz (y4k i ((lst f.rows).drop k) L))) := by
 intro d
 induction d with
 | zero =>
  intro k g L o1 o2 hk _
  have e1 : (lst f.rows).drop k = [] := z1b (by omega)
  have hn : ¬ ((k : Int) < ((lst f.rows).length : Int)) := by omega
  have hx := yio (H := [⟨1, .arr true false 5 [enc f]⟩, o1, o2, y2l g D0 L]) (j := 3) (g := g) (o := D0) (L := L) rfl
  rw [yrm, e1]
  simp [yqr, y0u, y1bh, hn, y4k, hx]
 | succ d ih =>
  intro k g L o1 o2 hk hL
  have hlt : k < (lst f.rows).length := by omega
  have hc : ((k : Int) < ((lst f.rows).length : Int)) := by omega
  have k1 := yuf (o := f.rows) (i := k) (z9 hlt) .i64
  rw [yrm, zk hlt]
  generalize hr : (lst f.rows)[k] = r at *
  have ih0 := fun g L o1 o2 hL => ih (k + 1) g L o1 o2 (by omega) hL
  push_cast at ih0
  have hw := y2x hlt (by omega)
  have e11 : yqr (.int .i64 i) (y1c Int 3 g L) (slA f.rows) (.int .i64 (lst f.rows).length) (.int .i64 k) [⟨1, .arr true false 5 [enc f]⟩, o1, o2, y2l g D0 L] =
    ytt (.int .i64 i) (y1c Int 3 g L) (.lp 1 (o1.gen + 1) 0 0) (slA f.rows) (.int .i64 (lst f.rows).length) (.int .i64 k) [⟨1, .arr true false 5 [enc f]⟩, ⟨o1.gen + 1, .arr true false 4 [enc r]⟩, o2, y2l g D0 L] := by
   simp [yqr, y0u, y293, hc, k1]
  rw [e11]
  generalize (o1.gen + 1) = g1
  by_cases h1 : i < r.f
  ·have : ¬ (r.f ≤ i ∧ i < r.t) := by omega
   simp [ytt, y16u, h1, hw, y4k, this, ih0 g L _ _ (by omega)]
  by_cases h2 : r.t ≤ i
  ·have : ¬ (r.f ≤ i ∧ i < r.t) := by omega
   simp [ytt, y16u, h1, h2, hw, y4k, this, ih0 g L _ _ (by omega)]
  have hin : r.f ≤ i ∧ i < r.t := by omega
  rw [y4k, if_pos hin]
  have hz : ∀ o2, fz [⟨1, .arr true false 5 [enc f]⟩, ⟨g1, .arr true false 4 [enc r]⟩, o2, y2l g D0 L] y1m (y1c Int 3 g L) = some ⟨slA (nz L), true, ids1 (y1c Int 3 g L)⟩ := fun o2 => y1zj rfl
  have hct := yb4 (nz L) r.at_ (by rw [y4r]; omega)
  rw [y4r] at hct
  have tail : ∀ g L o2, L.length ≤ k + 1 → y167 (.int .i64 i) (y1c Int 3 g L) (.lp 1 g1 0 0) (slA f.rows) (.int .i64 (lst f.rows).length) (.int .i64 k) [⟨1, .arr true false 5 [enc f]⟩, ⟨g1, .arr true false 4 [enc r]⟩, o2, y2l g D0 L] =
    some (exO (nz (if r.c = [] then L else y4k i ((lst f.rows).drop (k + 1)) L))) := by
   intro g L o2 hL
   have hx := yio (H := [⟨1, .arr true false 5 [enc f]⟩, ⟨g1, .arr true false 4 [enc r]⟩, o2, y2l g D0 L]) (j := 3) (g := g) (o := D0) (L := L) rfl
   by_cases hcl : r.c = []
   ·simp [y167, y1bh, hcl, hx]
   ·simp [y167, y16u, hcl, hw, ih0 g L _ _ hL]
  unfold addN
  cases hb : L.contains r.at_ with
  | true =>
   rw [hb] at hct
   rw [if_pos rfl]
   have := tail g L o2 (by omega)
   simp [ytt, y1vr, h1, h2, hz, hct, this]
  | false =>
   rw [hb] at hct
   rw [if_neg zv]
   obtain ⟨g', ha⟩ := yoi (H := [⟨1, .arr true false 5 [enc f]⟩, ⟨g1, .arr true false 4 [enc r]⟩, ⟨o2.gen + 1, .arr false false 1 [[.int .i64 r.at_]]⟩, y2l g D0 L]) (fb := 0) (j := 3) (g := g) (o := D0) (y := .ls 2 (o2.gen + 1) 1 0 1) (L := L) (n := r.at_) (by simp) rfl (by omega)
   have ha' : y1v 0 (some 3) 1 8 (y1c Int 3 g L) (.ls 2 (o2.gen + 1) 1 0 1) [⟨1, .arr true false 5 [enc f]⟩, ⟨g1, .arr true false 4 [enc r]⟩, ⟨o2.gen + 1, .arr false false 1 [[.int .i64 r.at_]]⟩, y2l g D0 L] = some (y1c Int 3 g' (L ++ [r.at_]), [⟨1, .arr true false 5 [enc f]⟩, ⟨g1, .arr true false 4 [enc r]⟩, ⟨o2.gen + 1, .arr false false 1 [[.int .i64 r.at_]]⟩, y2l g' D0 (L ++ [r.at_])]) := ha
   have := tail g' (L ++ [r.at_]) ⟨o2.gen + 1, .arr false false 1 [[.int .i64 r.at_]]⟩ (by simp; omega)
   simp [ytt, y1vr, h1, h2, hz, hct, yl, y1i, ha', this]
theorem y23d (f : Fn) (i : Int) (hl : (lst f.rows).length ≤ 10000000000000) : (yd E).p 79 [.agg (enc f), .int .i64 i] = some (exO (nz (y1z f i))) := by
 rw [y2rg]
 by_cases h0 : i < 0
 ·simp [yl1, ymb, h0, y1z, nz]; rfl
 by_cases h1 : ((lst f.code).length : Int) ≤ i
 ·simp [yl1, ymb, h0, h1, y1z, nz]; rfl
 have g0 : 0 ≤ i := by omega
 have hx := y5w (f := f) (i := i.toNat) (by omega)
 have k1 := ye1 (o := f.code) g0 hx .i64
 have hn : y1z f i = if throws (y25 f i.toNat).op then y4k i (lst f.rows) [] else [] := by rw [y1z, if_neg (by omega)]
 rw [hn]
 generalize y25 f i.toNat = x at *
 have lp := ytk f i hl _ 0 0 [] D0 D0 (zd _) (z2s _)
 simp only [yrx, y1sd, List.drop_zero, Int.ofNat_zero] at lp
 cases ht : throws x.op with
 | false => simp [yl1, ymb, h0, h1, k1, ht, nz]; rfl
 | true => simp [yl1, ymb, y1qg, y1dj, h0, h1, k1, ht, lp]
end Go.Vm
namespace Go.Vm
open Cel
def tk (t : Tb) : Nat → List Ws
 | 0 => t.b
 | 1 => t.a
 | _ => t.h
def setk (t : Tb) (k i : Nat) (x : Ws) : Tb := match k with
 | 0 => ⟨t.b.set i x, t.a, t.h⟩
 | 1 => ⟨t.b, t.a.set i x, t.h⟩
 | _ => ⟨t.b, t.a, t.h.set i x⟩
abbrev Plc := Nat → Nat → Nat × Nat
abbrev Arr := Nat → Nat × Nat
def ysb (P : Plc) (W k n : Nat) : List (List AV) := (List.range n).map fun i => [.ls (P k i).1 (P k i).2 1 0 W]
structure LvRep (f : Fn) (P : Plc) (Q : Arr) (H : Heap) (t : Tb) : Prop where
 box : H[0]? = some (AB f)
 tb : H[1]? = some ⟨1, .arr true false 4 [[.ls (Q 0).1 (Q 0).2 1 0 (lst f.code).length, .ls (Q 1).1 (Q 1).2 1 0 (lst f.code).length, .ls (Q 2).1 (Q 2).2 1 0 (lst f.code).length, .int .i64 (lst f.regs).length]]⟩
 arr : ∀ k, k < 3 → H[(Q k).1]? = some ⟨(Q k).2, .arr false false 1 (ysb P ((lst f.regs).length / 64 + 1) k (lst f.code).length)⟩
 row : ∀ k, k < 3 → ∀ i, i < (lst f.code).length → H[(P k i).1]? = some (AW (P k i).2 (rowW (tk t k) i))
 inj : ∀ k k' i i', k < 3 → k' < 3 → i < (lst f.code).length → i' < (lst f.code).length → (P k i).1 = (P k' i').1 → k = k' ∧ i = i'
 off : ∀ k k' i, k < 3 → k' < 3 → i < (lst f.code).length → (P k i).1 ≠ (Q k').1
 farP : ∀ k i, k < 3 → i < (lst f.code).length → 3 ≤ (P k i).1
 farQ : ∀ k, k < 3 → 3 ≤ (Q k).1
 injQ : ∀ k k', k < 3 → k' < 3 → (Q k).1 = (Q k').1 → k = k'
 size : 3 ≤ H.length
 ok : TbOk (lst f.code).length ((lst f.regs).length / 64 + 1) t
section
variable {f : Fn} {P : Plc} {Q : Arr} {H : Heap} {t : Tb} (L : LvRep f P Q H t)
include L
theorem LvRep.len {k i : Nat} (hk : k < 3) (hi : i < (lst f.code).length) : (rowW (tk t k) i).length = (lst f.regs).length / 64 + 1 := by
 match k, hk with
 | 0, _ => exact L.ok.bw i hi
 | 1, _ => exact L.ok.aw i hi
 | 2, _ => exact L.ok.hw i hi
theorem LvRep.slot (x : AO) : LvRep f P Q (H.set 2 x) t := by
 refine ⟨?_, ?_, fun k hk => ?_, fun k hk i hi => ?_, L.inj, L.off, L.farP, L.farQ, L.injQ, by rw [zh]; exact L.size, L.ok⟩
 ·rw [yn (by omega)]; exact L.box
 ·rw [yn (by omega)]; exact L.tb
 ·have := L.farQ k hk
  rw [yn (by omega)]; exact L.arr k hk
 ·have := L.farP k i hk hi
  rw [yn (by omega)]; exact L.row k hk i hi
theorem LvRep.put {k i : Nat} (hk : k < 3) (hi : i < (lst f.code).length) {x : Ws} (hx : x.length = (lst f.regs).length / 64 + 1) : LvRep f P Q (H.set (P k i).1 (AW (P k i).2 x)) (setk t k i x) := by
 have fp := L.farP k i hk hi
 have hrow : ∀ k' j, k' < 3 → j < (lst f.code).length → rowW (tk (setk t k i x) k') j = if k' = k ∧ j = i then x else rowW (tk t k') j := by
  intro k' j hk' hj
  match k, hk, k', hk' with
  | 0, _, 0, _ => simp only [setk, tk]; rw [y4z (by rw [L.ok.b]; exact hi)]; simp
  | 1, _, 1, _ => simp only [setk, tk]; rw [y4z (by rw [L.ok.a]; exact hi)]; simp
  | 2, _, 2, _ => simp only [setk, tk]; rw [y4z (by rw [L.ok.h]; exact hi)]; simp
  | 0, _, 1, _ => simp [setk, tk]
  | 0, _, 2, _ => simp [setk, tk]
  | 1, _, 0, _ => simp [setk, tk]
  | 1, _, 2, _ => simp [setk, tk]
  | 2, _, 0, _ => simp [setk, tk]
  | 2, _, 1, _ => simp [setk, tk]
 have hlen : ∀ k' j, k' < 3 → j < (lst f.code).length → (rowW (tk (setk t k i x) k') j).length = (lst f.regs).length / 64 + 1 := by
  intro k' j hk' hj
  rw [hrow k' j hk' hj]
  split
  ·exact hx
  ·exact L.len hk' hj
 refine ⟨?_, ?_, fun k' hk' => ?_, fun k' hk' j hj => ?_, L.inj, L.off, L.farP, L.farQ, L.injQ, by rw [zh]; exact L.size, ?_⟩
 ·rw [yn (by omega)]; exact L.box
 ·rw [yn (by omega)]; exact L.tb
 ·rw [yn (L.off k k' i hk hk' hi)]; exact L.arr k' hk'
 ·rw [hrow k' j hk' hj]
  by_cases e : k' = k ∧ j = i
  ·obtain ⟨e1, e2⟩ := e
   subst e1; subst e2
   rw [if_pos ⟨rfl, rfl⟩]
   exact y2e (y3m (L.row k' hk j hi))
  ·rw [if_neg e, yn (fun h => e (by
    obtain ⟨a, b⟩ := L.inj k k' i j hk hk' hi hj h
    exact ⟨a.symm, b.symm⟩))]
   exact L.row k' hk' j hj
 ·refine ⟨?_, ?_, ?_, fun j hj => hlen 0 j (by omega) hj, fun j hj => hlen 1 j (by omega) hj, fun j hj => hlen 2 j (by omega) hj⟩
  ·match k, hk with
   | 0, _ => simp only [setk, zh]; exact L.ok.b
   | 1, _ => exact L.ok.b
   | 2, _ => exact L.ok.b
  ·match k, hk with
   | 0, _ => exact L.ok.a
   | 1, _ => simp only [setk, zh]; exact L.ok.a
   | 2, _ => exact L.ok.a
  ·match k, hk with
   | 0, _ => exact L.ok.h
   | 1, _ => exact L.ok.h
   | 2, _ => simp only [setk, zh]; exact L.ok.h
theorem LvRep.fld {k : Nat} (hk : k < 3) : evLd false 1 (.lp 1 1 0 k) H = some (.ls (Q k).1 (Q k).2 1 0 (lst f.code).length) := by
 have hr : yr H 1 1 = some (false, 4, [[.ls (Q 0).1 (Q 0).2 1 0 (lst f.code).length, .ls (Q 1).1 (Q 1).2 1 0 (lst f.code).length, .ls (Q 2).1 (Q 2).2 1 0 (lst f.code).length, .int .i64 (lst f.regs).length]]) := by simp [yr, y23, L.tb]
 rw [y3z, hr]
 match k, hk with
 | 0, _ => rfl
 | 1, _ => rfl
 | 2, _ => rfl
theorem LvRep.at {k i : Nat} (hk : k < 3) (hi : i < (lst f.code).length) : evLd false 1 (.lp (Q k).1 (Q k).2 i 0) H = some (.ls (P k i).1 (P k i).2 1 0 ((lst f.regs).length / 64 + 1)) :=
 y26f (L.arr k hk) (by simp [ysb, hi])
theorem LvRep.join {k k' i j : Nat} (hk : k < 3) (hi : i < (lst f.code).length) (hk' : k' < 3) (hj : j < (lst f.code).length) (hR : (lst f.regs).length ≤ 20000) (hne : k ≠ k') :
  yc E (yd E) 0 none false 84 [.ls (P k i).1 (P k i).2 1 0 ((lst f.regs).length / 64 + 1), .ls (P k' j).1 (P k' j).2 1 0 ((lst f.regs).length / 64 + 1)] H =
   some (.bool (yei (rowW (tk t k) i) (rowW (tk t k') j)), H.set (P k i).1 (AW (P k i).2 (y49 (rowW (tk t k) i) (rowW (tk t k') j)))) := by
 have h1 := L.len hk hi
 have h2 := L.len hk' hj
 have := y1g1 (L.row k hk i hi) (L.row k' hk' j hj) (by rw [h1, h2]) (by rw [h1]; omega) (fun e => hne (L.inj k k' i j hk hk' hi hj e).1)
 rw [h1, h2] at this
 exact this
end
theorem ylb {f : Fn} {P : Plc} {Q : Arr} (hR : (lst f.regs).length ≤ 20000) {k i : Nat} (hk : k < 3) (hk0 : k ≠ 0) (hi : i < (lst f.code).length) {l : List Int} (hl : ∀ to ∈ l, 0 ≤ to ∧ to < ((lst f.code).length : Int)) (G : Nat → Heap → Option (Ex AV))
  (step : ∀ m to H t, l[m]? = some to → LvRep f P Q H t → G m H = oh (yc E (yd E) 0 none false 84 [.ls (P k i).1 (P k i).2 1 0 ((lst f.regs).length / 64 + 1), .ls (P 0 to.toNat).1 (P 0 to.toNat).2 1 0 ((lst f.regs).length / 64 + 1)] H) fun _ H' => G (m + 1) H') :
  ∀ (d m : Nat) (H : Heap) (t : Tb), m + d = l.length → LvRep f P Q H t →
  ∃ H', G m H = G l.length H' ∧ LvRep f P Q H' (setk t k i (joins t.b (l.drop m) (rowW (tk t k) i))) := by
 intro d
 induction d with
 | zero =>
  intro m H t hm L
  have e : l.drop m = [] := z1b (by omega)
  have hm' : m = l.length := by omega
  rw [e, hm']
  refine ⟨H, rfl, ?_⟩
  have : setk t k i (joins t.b [] (rowW (tk t k) i)) = t := by
   have hs : ∀ (l : List Ws), i < l.length → l.set i (rowW l i) = l := fun l h => by
    refine z36 (by simp) fun j h1 h2 => ?_
    rw [List.getElem_set]
    split
    ·rename_i e; subst e; simp [rowW, ze, z9 h]
    ·rfl
   match k, hk with
   | 0, _ => simp only [setk, tk, joins, List.foldl_nil]; rw [hs _ (by rw [L.ok.b]; exact hi)]
   | 1, _ => simp only [setk, tk, joins, List.foldl_nil]; rw [hs _ (by rw [L.ok.a]; exact hi)]
   | 2, _ => simp only [setk, tk, joins, List.foldl_nil]; rw [hs _ (by rw [L.ok.h]; exact hi)]
  rw [this]; exact L
 | succ d ih =>
  intro m H t hm L
  have hlt : m < l.length := by omega
  have hto := hl _ (z1n hlt)
  have st := step m _ H t (z9 hlt) L
  rw [zk hlt]
  generalize l[m] = to at *
  have hj : to.toNat < (lst f.code).length := by omega
  have h1 := L.len hk hi
  have h2 := L.len (k := 0) (by omega) hj
  rw [L.join hk hi (by omega) hj hR hk0, ye] at st
  have L2 := L.put hk hi (x := y49 (rowW (tk t k) i) (rowW (tk t 0) to.toNat)) (by rw [y4q (by rw [h1, h2]), h1])
  obtain ⟨H', e, L3⟩ := ih (m + 1) _ _ (by omega) L2
  refine ⟨H', by rw [st, e], ?_⟩
  have eb : (setk t k i (y49 (rowW (tk t k) i) (rowW (tk t 0) to.toNat))).b = t.b := by
   match k, hk, hk0 with
   | 1, _, _ => rfl
   | 2, _, _ => rfl
  have er : rowW (tk (setk t k i (y49 (rowW (tk t k) i) (rowW (tk t 0) to.toNat))) k) i = y49 (rowW (tk t k) i) (rowW t.b to.toNat) := by
   match k, hk, hk0 with
   | 1, _, _ => simp only [setk, tk]; rw [y4z (by rw [L.ok.a]; exact hi), if_pos rfl]
   | 2, _, _ => simp only [setk, tk]; rw [y4z (by rw [L.ok.h]; exact hi), if_pos rfl]
  have ess : ∀ y x, setk (setk t k i y) k i x = setk t k i x := fun y x => by
   match k, hk with
   | 0, _ => simp [setk]
   | 1, _ => simp [setk]
   | 2, _ => simp [setk]
  rw [eb, er, ess] at L3
  exact L3
end Go.Vm
namespace Go.Vm
open Cel
theorem y1er {f : Fn} {H : Heap} (h : H[0]? = some (AB f)) : evLd true 5 (.lp 0 1 0 0) H = some (.agg (enc f)) := by
 have hr : yr H 0 1 = some (false, 5, [enc f]) := by simp [yr, y23, h]
 simp [y3z, hr]
theorem yw0 {f : Fn} {H : Heap} (h : H[0]? = some (AB f)) : evLd false 1 (.lp 0 1 0 3) H = some (slA f.code) := by
 have hr : yr H 0 1 = some (false, 5, [enc f]) := by simp [yr, y23, h]
 simp [y3z, hr]
theorem y26n (f : Fn) (i : Int) (H : Heap) : yv (fz H y1m) [.agg (enc f), .int .i64 i] = some ⟨[.agg (enc f), .int .i64 i], scal f && (true && true), []⟩ := by
 rw [ym, ym, y64, yo1, y1k]; rfl
theorem y2os (x : Ins) (H : Heap) : yv (fz H y1m) [.agg (enc x)] = some ⟨[.agg (enc x)], scal x && true, []⟩ := by
 rw [ym, y64, y1k]; rfl
theorem y2cw {s : Ws} (h : 1 ≤ s.length) : (s.map enc).isEmpty = false := by
 cases s with
 | nil => simp at h
 | cons a s => rfl
theorem y2fm {H : Heap} {id g j : Nat} {o : AO} {s : Ws} (h : H[id]? = some (AW g s)) (ho : H[j]? = some o) (h1 : 1 ≤ s.length) (h2 : s.length ≤ 1000000) :
  y1v 0 (some j) 1 8 .nils (.ls id g 1 0 s.length) H = some (.ls j (o.gen + 1) 1 0 s.length, H.set j (AW (o.gen + 1) s)) := by
 have hy := y2gu (α := BitVec 64) h
 simp only [es_w] at hy
 have hb : s.length * 8 ≤ 2 ^ 48 := by omega
 unfold y1v
 rw [hy]
 simp only [y2cw h1, zy, hb, if_true, zp, if_false, y2k, place, zd, ho]
theorem y1as {W : Nat} {o : Option (List Int)} (hl : (lst o).length ≤ 9223372036854775806) (hu : ∀ u ∈ lst o, 0 ≤ u ∧ u < 20000 ∧ u.toNat / 64 < W) (v1 v3 v5 v6 v7 : AV) (g : Nat) : ∀ (d m : Nat) (H : Heap) (s : Ws), m + d = (lst o).length → H[2]? = some (AW g s) → s.length = W →
  yqw v1 v3 v5 v6 v7 (.ls 2 g 1 0 W) (slA o) (.int .i64 (lst o).length) (.int .i64 (m : Int)) H = y15z v1 v3 v5 v6 v7 (.ls 2 g 1 0 W) (H.set 2 (AW g (adds ((lst o).drop m) s))) := by
 intro d
 induction d with
 | zero =>
  intro m H s hm hs hW
  have hm' : m = (lst o).length := by omega
  have e : (lst o).drop m = [] := z1b (by omega)
  have hc : ¬ ((m : Int) < ((lst o).length : Int)) := by omega
  rw [e, ypd]
  have ha : adds [] s = s := rfl
  simp only [y05, yg, y9, hc, decide_false, y1yr, y1h, ha, ynp hs]
 | succ d ih =>
  intro m H s hm hs hW
  have hlt : m < (lst o).length := by omega
  have hc : ((m : Int) < ((lst o).length : Int)) := by omega
  have hw := y2x hlt (by omega)
  have kx := y3j (z9 hlt) .i64
  have hu1 := hu _ (z1n hlt)
  rw [zk hlt, ypd]
  generalize (lst o)[m] = u at *
  have lx : ∀ t : Heap, evLd false 1 (.rp [.int .i64 u]) t = some (.int .i64 u) := fun t => by simp
  have eu : ((u.toNat : Nat) : Int) = u := by omega
  have ad := y2tj (H := H) hs (r := u.toNat) (by omega) (by omega)
  rw [eu, hW] at ad
  have ih1 := ih (m + 1) (H.set 2 (AW g (addW s u.toNat))) (addW s u.toNat) (by omega) (y2e (y3m hs)) (by rw [yn0, hW])
  rw [z2r] at ih1
  push_cast at ih1
  have ha : adds (u :: (lst o).drop (m + 1)) s = adds ((lst o).drop (m + 1)) (addW s u.toNat) := rfl
  rw [ha]
  simp only [y05, yg, y9, hc, decide_true, y1yr, y1b, y28q, kx, lx, ad, ye, y292, yz, hw, ih1]
section
variable {f : Fn} (w : Wf f) (hr : (lst f.rows).length ≤ 10000000000000) (hx : ∀ x ∈ lst f.code, (lst x.args).length ≤ 17592186043904) {P : Plc} {Q : Arr}
include w hr hx
set_option maxHeartbeats 1000000 in
theorem y21j {i : Nat} (hi : i < (lst f.code).length) (m : Bool) (H : Heap) (t : Tb) (L : LvRep f P Q H t) :
  ∃ H', yjk (.lp 0 1 0 0) (.int .i64 (lst f.code).length) (.lp 1 1 0 0) (.bool m) (.int .i64 (i : Int)) H =
   y20s (.lp 0 1 0 0) (.int .i64 (lst f.code).length) (.lp 1 1 0 0) (.bool (yk8 f t i || m)) (.int .i64 (i : Int)) H' ∧ LvRep f P Q H' (y55 f t i) := by
 have hn := w.n2
 have hR := w.regs
 have hge : (0 : Int) ≤ (i : Int) := by omega
 have cN : ∀ H, yc E (yd E) 0 none true 81 [.agg (enc f), .int .i64 (i : Int)] H = some (slA (nz (y42 f i)), H) := fun H => y18 rfl (y26n f i H) rfl (y2n3 f i (by omega)) ⟨_, y15e _, rfl⟩
 have cC : ∀ H, yc E (yd E) 0 none true 79 [.agg (enc f), .int .i64 (i : Int)] H = some (slA (nz (y1z f i)), H) := fun H => y18 rfl (y26n f i H) rfl (y23d f i (by omega)) ⟨_, y15e _, rfl⟩
 have cD : ∀ H, yc E (yd E) 0 none true 9 [.agg (enc (y25 f i))] H = some (.int .i64 (defr (y25 f i)), H) := fun H => y18 rfl (y2os _ H) rfl (y2km _) ⟨_, rfl, rfl⟩
 have hxa := hx _ (zs (y5w hi))
 have cU : ∀ H, yc E (yd E) 0 none true 10 [.agg (enc (y25 f i))] H = some (slA (uses (y25 f i)), H) := fun H => y18 rfl (y2os _ H) rfl (y27g _ hxa) ⟨_, y15e _, rfl⟩
 have lN := y1dc f i
 have lC := w.caught_len i
 have nc : ∀ a b c d, yp (.lp a b c d) = some (.lp a b c d) := fun _ _ _ _ => rfl
 have ixQ : ∀ (k : Nat) (j : Int), 0 ≤ j → j < (lst f.code).length → y10 1 (.ls (Q k).1 (Q k).2 1 0 (lst f.code).length) (.int .i64 j) = some (.lp (Q k).1 (Q k).2 j.toNat 0) := fun k j h0 h1 => yga h0 h1 _ _ .i64
 -- behind it
 obtain ⟨H1, e1, L1⟩ := ylb (f := f) (P := P) (Q := Q) hR (k := 1) (i := i) (by omega) (by omega) hi (l := y42 f i) (fun to h => w.next hi h)
  (fun q H => yc4 (.lp 0 1 0 0) (.int .i64 (lst f.code).length) (.lp 1 1 0 0) (.bool m) (.int .i64 (i : Int)) (slA (nz (y42 f i))) (.int .i64 (y42 f i).length) (.int .i64 (q : Int)) H)
  (fun q to H t hk L => by
   have hlt := (zb.1 hk).1
   have hto := w.next hi (zs hk)
   have hc : ((q : Int) < ((y42 f i).length : Int)) := by omega
   have hw2 := y2x hlt (by omega)
   have kx := y3j (o := nz (y42 f i)) (i := q) (by rw [y4r]; exact hk) .i64
   have lx : ∀ t : Heap, evLd false 1 (.rp [.int .i64 to]) t = some (.int .i64 to) := fun t => by simp
   have a1 := L.fld (k := 1) (by omega)
   have a0 := L.fld (k := 0) (by omega)
   have b1 := L.at (k := 1) (i := i) (by omega) hi
   have b0 := L.at (k := 0) (i := to.toNat) (by omega) (by omega)
   have i1 := ixQ 1 (i : Int) (by omega) (by omega)
   have i0 := ixQ 0 to hto.1 hto.2
   rw [z2f] at i1
   rw [ym8]
   simp only [yw8, yg, y9, hc, decide_true, yv4, y1b, y1po, kx, lx, nc, yk, zd, a1, i1, b1, a0, i0, b0, y1c7, yz, hw2]
   rfl)
  _ 0 H t (zd _) L
 rw [zr] at L1
 simp only [Int.ofNat_zero] at e1
 -- where it is caught
 obtain ⟨H2, e2, L2⟩ := ylb (f := f) (P := P) (Q := Q) hR (k := 2) (i := i) (by omega) (by omega) hi (l := y1z f i) (fun to h => w.caught h)
  (fun q H => ych (.lp 0 1 0 0) (.int .i64 (lst f.code).length) (.lp 1 1 0 0) (.bool m) (.int .i64 (i : Int)) (slA (nz (y1z f i))) (.int .i64 (y1z f i).length) (.int .i64 (q : Int)) H)
  (fun q to H t hk L => by
   have hlt := (zb.1 hk).1
   have hto := w.caught (zs hk)
   have hc : ((q : Int) < ((y1z f i).length : Int)) := by omega
   have hw2 := y2x hlt (by omega)
   have kx := y3j (o := nz (y1z f i)) (i := q) (by rw [y4r]; exact hk) .i64
   have lx : ∀ t : Heap, evLd false 1 (.rp [.int .i64 to]) t = some (.int .i64 to) := fun t => by simp
   have a1 := L.fld (k := 2) (by omega)
   have a0 := L.fld (k := 0) (by omega)
   have b1 := L.at (k := 2) (i := i) (by omega) hi
   have b0 := L.at (k := 0) (i := to.toNat) (by omega) (by omega)
   have i1 := ixQ 2 (i : Int) (by omega) (by omega)
   have i0 := ixQ 0 to hto.1 hto.2
   rw [z2f] at i1
   rw [yln]
   simp only [y134, yg, y9, hc, decide_true, yv6, y1b, y1jm, kx, lx, nc, yk, zd, a1, i1, b1, a0, i0, b0, y1qr, yz, hw2]
   rfl)
  _ 0 H1 _ (zd _) L1
 rw [zr] at L2
 simp only [Int.ofNat_zero] at e2
 have eT : setk (setk t 1 i (joins t.b (y42 f i) (rowW (tk t 1) i))) 2 i (joins (setk t 1 i (joins t.b (y42 f i) (rowW (tk t 1) i))).b (y1z f i) (rowW (tk (setk t 1 i (joins t.b (y42 f i) (rowW (tk t 1) i))) 2) i)) = ⟨t.b, t.a.set i (aftT f t i), t.h.set i (hanT f t i)⟩ := rfl
 rw [eT] at L2
 have rA : rowW (tk (⟨t.b, t.a.set i (aftT f t i), t.h.set i (hanT f t i)⟩ : Tb) 1) i = aftT f t i := by
  simp only [tk]; rw [y4z (by rw [L.ok.a]; exact hi), if_pos rfl]
 have rH : rowW (tk (⟨t.b, t.a.set i (aftT f t i), t.h.set i (hanT f t i)⟩ : Tb) 2) i = hanT f t i := by
  simp only [tk]; rw [y4z (by rw [L.ok.h]; exact hi), if_pos rfl]
 have lenA := yc7 w L.ok hi
 have lenH := ynt w L.ok hi
 have lenB := yh0 w L.ok hi
 -- the copy
 have a1 := L2.fld (k := 1) (by omega)
 have b1 := L2.at (k := 1) (i := i) (by omega) hi
 have i1 := ixQ 1 (i : Int) (by omega) (by omega)
 have i2 := ixQ 2 (i : Int) (by omega) (by omega)
 have i0 := ixQ 0 (i : Int) (by omega) (by omega)
 rw [z2f] at i1 i2 i0
 have r1 := L2.row 1 (by omega) i hi
 rw [rA] at r1
 obtain ⟨o11, h11⟩ : ∃ o, H2[2]? = some o := ⟨_, z9 (by have := L2.size; omega)⟩
 have ap := y2fm r1 h11 (by omega) (by omega)
 rw [lenA] at ap
 have hl11 := y3m h11
 generalize o11.gen + 1 = g at *
 -- what is written
 have lx : ∀ t : Heap, evLd true 9 (.rp (enc (y25 f i))) t = some (.agg (enc (y25 f i))) := fun t => by simp
 have k9 := yeo (o := f.code) (y5w hi) .i64
 have eC : ymh (.lp 0 1 0 0) (.int .i64 (lst f.code).length) (.lp 1 1 0 0) (.bool m) (.int .i64 (i : Int)) (.ls 2 g 1 0 ((lst f.regs).length / 64 + 1)) (H2.set 2 (AW g (aftT f t i))) =
   yli (.lp 0 1 0 0) (.int .i64 (lst f.code).length) (.lp 1 1 0 0) (.bool m) (.int .i64 (i : Int)) (.ls 2 g 1 0 ((lst f.regs).length / 64 + 1)) (H2.set 2 (AW g (ybd (defr (y25 f i)) (aftT f t i)))) := by
  have lc := yw0 (L2.slot (AW g (aftT f t i))).box
  by_cases hd : 0 ≤ defr (y25 f i)
  ·have hd2 := w.def hi hd
   have dr := y2ni (H := H2.set 2 (AW g (aftT f t i))) (y2e hl11) (r := (defr (y25 f i)).toNat) (by omega) (by rw [lenA]; omega)
   rw [lenA, z2r, show (((defr (y25 f i)).toNat : Nat) : Int) = defr (y25 f i) by omega] at dr
   simp only [ymh, yk, zd, y9, lc, k9, lx, cD, ye, y1j, hd, decide_true, y1b, dr, ybd, if_true]
  ·simp only [ymh, yk, zd, y9, lc, k9, lx, cD, ye, y1j, hd, decide_false, y1h, ybd, if_false]
 -- what is caught, what is read
 have L3 := L2.slot (AW g (ybd (defr (y25 f i)) (aftT f t i)))
 have lenD : (ybd (defr (y25 f i)) (aftT f t i)).length = (lst f.regs).length / 64 + 1 := by rw [yam, lenA]
 have c2 := L3.fld (k := 2) (by omega)
 have d2 := L3.at (k := 2) (i := i) (by omega) hi
 have r2 := L3.row 2 (by omega) i hi
 rw [rH] at r2
 have f2 := L3.farP 2 i (by omega) hi
 have jn := y1g1 (H := H2.set 2 (AW g (ybd (defr (y25 f i)) (aftT f t i)))) (y2e hl11) r2 (by rw [lenD, lenH]) (by rw [lenD]; omega) (by omega)
 rw [lenD, lenH, z2r] at jn
 have L4 := L2.slot (AW g (y49 (ybd (defr (y25 f i)) (aftT f t i)) (hanT f t i)))
 have lc4 := yw0 L4.box
 have hlu : (lst (uses (y25 f i))).length ≤ 9223372036854775806 := by
  have : (lst (uses (y25 f i))).length ≤ (lst (y25 f i).args).length + 3 := by
   unfold uses
   repeat' split
   all_goals simp
  omega
 have us := y1as (W := (lst f.regs).length / 64 + 1) (o := uses (y25 f i)) hlu (fun u hu => by
  have := w.uses hi hu
  omega) (.lp 0 1 0 0) (.int .i64 (lst f.code).length) (.lp 1 1 0 0) (.bool m) (.int .i64 (i : Int)) g _ 0 (H2.set 2 (AW g (y49 (ybd (defr (y25 f i)) (aftT f t i)) (hanT f t i)))) _ (zd _) (y2e hl11) (by rw [y4q (by rw [lenD, lenH]), lenD])
 rw [zr, z2r] at us
 simp only [Int.ofNat_zero] at us
 have eB : adds (lst (uses (y25 f i))) (y49 (ybd (defr (y25 f i)) (aftT f t i)) (hanT f t i)) = befT f t i := rfl
 rw [eB] at us
 -- ahead of it
 have L5 := L2.slot (AW g (befT f t i))
 have a5 := L5.fld (k := 0) (by omega)
 have b5 := L5.at (k := 0) (i := i) (by omega) hi
 have r5 := L5.row 0 (by omega) i hi
 have f5 := L5.farP 0 i (by omega) hi
 have lb : (rowW t.b i).length = (lst f.regs).length / 64 + 1 := L.ok.bw i hi
 have jb := y1g1 (H := H2.set 2 (AW g (befT f t i))) r5 (y2e hl11) (by rw [lenB]; exact lb) (by rw [show (rowW (tk (⟨t.b, t.a.set i (aftT f t i), t.h.set i (hanT f t i)⟩ : Tb) 0) i).length = (lst f.regs).length / 64 + 1 from lb]; omega) (by omega)
 rw [lenB, show (rowW (tk (⟨t.b, t.a.set i (aftT f t i), t.h.set i (hanT f t i)⟩ : Tb) 0) i).length = (lst f.regs).length / 64 + 1 from lb] at jb
 have L6 := L5.put (k := 0) (i := i) (by omega) hi (x := y49 (rowW t.b i) (befT f t i)) (by rw [y4q (by rw [lb, lenB]), lb])
 refine ⟨_, ?_, L6⟩
 have hc1 : ¬ (((y42 f i).length : Int) < ((y42 f i).length : Int)) := by omega
 have hc2 : ¬ (((y1z f i).length : Int) < ((y1z f i).length : Int)) := by omega
 have z1 : yjk (.lp 0 1 0 0) (.int .i64 (lst f.code).length) (.lp 1 1 0 0) (.bool m) (.int .i64 (i : Int)) H =
   yc4 (.lp 0 1 0 0) (.int .i64 (lst f.code).length) (.lp 1 1 0 0) (.bool m) (.int .i64 (i : Int)) (slA (nz (y42 f i))) (.int .i64 (y42 f i).length) (.int .i64 0) H := by
  rw [yqk]
  simp only [y12z, y1j, hge, decide_true, y9, y1b, y1gb, y1er L.box, cN, ye, y12, y4r]
 have z2 : yc4 (.lp 0 1 0 0) (.int .i64 (lst f.code).length) (.lp 1 1 0 0) (.bool m) (.int .i64 (i : Int)) (slA (nz (y42 f i))) (.int .i64 (y42 f i).length) (.int .i64 (y42 f i).length) H1 =
   ych (.lp 0 1 0 0) (.int .i64 (lst f.code).length) (.lp 1 1 0 0) (.bool m) (.int .i64 (i : Int)) (slA (nz (y1z f i))) (.int .i64 (y1z f i).length) (.int .i64 0) H1 := by
  rw [ym8]
  simp only [yw8, yg, y9, hc1, decide_false, yv4, y1h, y1kl, y1er L1.box, cC, ye, y12, y4r]
 have z3 : ych (.lp 0 1 0 0) (.int .i64 (lst f.code).length) (.lp 1 1 0 0) (.bool m) (.int .i64 (i : Int)) (slA (nz (y1z f i))) (.int .i64 (y1z f i).length) (.int .i64 (y1z f i).length) H2 =
   ymh (.lp 0 1 0 0) (.int .i64 (lst f.code).length) (.lp 1 1 0 0) (.bool m) (.int .i64 (i : Int)) (.ls 2 g 1 0 ((lst f.regs).length / 64 + 1)) (H2.set 2 (AW g (aftT f t i))) := by
  rw [yln]
  simp only [y134, yg, y9, hc2, decide_false, yv6, y1h, y1io, nc, yk, zd, a1, i1, b1, ap, ye]
 have z4 : yli (.lp 0 1 0 0) (.int .i64 (lst f.code).length) (.lp 1 1 0 0) (.bool m) (.int .i64 (i : Int)) (.ls 2 g 1 0 ((lst f.regs).length / 64 + 1)) (H2.set 2 (AW g (ybd (defr (y25 f i)) (aftT f t i)))) =
   y15z (.lp 0 1 0 0) (.int .i64 (lst f.code).length) (.lp 1 1 0 0) (.bool m) (.int .i64 (i : Int)) (.ls 2 g 1 0 ((lst f.regs).length / 64 + 1)) (H2.set 2 (AW g (befT f t i))) := by
  rw [← us]
  simp only [yli, nc, y9, yk, zd, c2, i2, d2, jn, ye, y1c1, lc4, k9, lx, cU, y12]
 rw [z1, e1, z2, e2, z3, eC, z4]
 have hmt : yk8 f t i = yei (rowW (tk (⟨t.b, t.a.set i (aftT f t i), t.h.set i (hanT f t i)⟩ : Tb) 0) i) (befT f t i) := rfl
 rw [hmt]
 cases hmm : yei (rowW (tk (⟨t.b, t.a.set i (aftT f t i), t.h.set i (hanT f t i)⟩ : Tb) 0) i) (befT f t i) with
 | true =>
  rw [hmm] at jb
  simp only [y15z, nc, y9, yk, zd, a5, i0, b5, jb, ye, y6z, y1g, z2x]
  rfl
 | false =>
  rw [hmm] at jb
  simp only [y15z, nc, y9, yk, zd, a5, i0, b5, jb, ye, y51, y1d, z1x]
  rfl
end
end Go.Vm
namespace Go.Vm
open Cel
section
variable {f : Fn} (w : Wf f) (hr : (lst f.rows).length ≤ 10000000000000) (hx : ∀ x ∈ lst f.code, (lst x.args).length ≤ 17592186043904) {P : Plc} {Q : Arr}
include w hr hx
theorem y17d : ∀ (k : Nat) (t : Tb) (H : Heap) (m : Bool), k ≤ (lst f.code).length → LvRep f P Q H t →
  ∃ H', yjk (.lp 0 1 0 0) (.int .i64 (lst f.code).length) (.lp 1 1 0 0) (.bool m) (.int .i64 ((k : Int) - 1)) H = yd2 (.lp 0 1 0 0) (.int .i64 (lst f.code).length) (.lp 1 1 0 0) (.bool ((y3e f k t).2 || m)) H' ∧ LvRep f P Q H' (y3e f k t).1 := by
 have hn := w.n2
 intro k
 induction k with
 | zero =>
  intro t H m _ L
  refine ⟨H, ?_, L⟩
  have hc : ¬ (0 : Int) ≤ ((0 : Nat) : Int) - 1 := by omega
  rw [yqk]
  simp only [y12z, y1j, y9, hc, decide_false, y1h, y3e, z1x]
 | succ k ih =>
  intro t H m hk L
  obtain ⟨H1, e1, L1⟩ := y21j w hr hx (i := k) (by omega) m H t L
  obtain ⟨H2, e2, L2⟩ := ih (y55 f t k) H1 (yk8 f t k || m) (by omega) L1
  refine ⟨H2, ?_, L2⟩
  have ek : (((k + 1 : Nat) : Int) - 1) = (k : Int) := by omega
  have hw : IntKind.wrap .i64 ((k : Int) - 1) = (k : Int) - 1 := by rw [y1a] <;> omega
  have eb : ((y3e f (k + 1) t).2 || m) = ((y3e f k (y55 f t k)).2 || (yk8 f t k || m)) := by
   rw [y3e]
   cases yk8 f t k <;> cases (y3e f k (y55 f t k)).2 <;> cases m <;> rfl
  rw [ek, e1, eb, ← e2]
  simp only [y20s, y59, hw, y9]
theorem y1cv : ∀ (q : Nat) (t : Tb) (H : Heap) (r : Tb), LvRep f P Q H t → ydm f q t = some r →
  ∃ H', yd2 (.lp 0 1 0 0) (.int .i64 (lst f.code).length) (.lp 1 1 0 0) (.bool true) H = y18v (.lp 1 1 0 0) H' ∧ LvRep f P Q H' r := by
 have hn := w.n2
 intro q
 induction q with
 | zero => intro t H r _ h; cases h
 | succ q ih =>
  intro t H r L h
  obtain ⟨H1, e1, L1⟩ := y17d w hr hx (lst f.code).length t H false (zi _) L
  have hw : IntKind.wrap .i64 (((lst f.code).length : Int) - 1) = ((lst f.code).length : Int) - 1 := by rw [y1a] <;> omega
  have e2 : yd2 (.lp 0 1 0 0) (.int .i64 (lst f.code).length) (.lp 1 1 0 0) (.bool true) H = yd2 (.lp 0 1 0 0) (.int .i64 (lst f.code).length) (.lp 1 1 0 0) (.bool ((y3e f (lst f.code).length t).2 || false)) H1 := by
   rw [← e1, ypi]
   simp only [yx9, y1b, y1hd, y1pw, y59, hw, y9]
  rw [e2, Bool.or_false]
  rw [ydm] at h
  cases hm : (y3e f (lst f.code).length t).2 with
  | true =>
   rw [hm, if_pos rfl] at h
   exact ih _ H1 r L1 h
  | false =>
   rw [hm, if_neg zv] at h
   injection h with h
   subst h
   refine ⟨H1, ?_, L1⟩
   rw [ypi]
   simp only [yx9, y1h]
end
end Go.Vm
namespace Go.Vm
open Cel
instance : Cel Ws := ⟨1, fun s => [slA (some s)], fun _ => rfl, fun _ => rfl, fun _ => rfl⟩
@[simp] theorem y2uq (s : Ws) : enc s = [slA (some s)] := rfl
@[simp] theorem y2v8 : es Ws = 1 := rfl
theorem yl4 {β γ : Type} (g : β → Option (Fz γ)) (x : Nat → β) (y : Nat → γ) (id : Nat → Nat) : ∀ (l : List Nat), (∀ i ∈ l, g (x i) = some ⟨y i, true, [id i]⟩) → yv g (l.map x) = some ⟨l.map y, true, l.map id⟩
 | [], _ => rfl
 | i :: l, h => by
  rw [z10, ym, h i (by simp), yl4 g x y id l (fun j hj => h j (by simp [hj]))]
  rfl
theorem y2ge (s : Ws) : s.all scal = true := by
 rw [z19]
 intro w _
 rfl
def idsP (P : Plc) (k n : Nat) : List Nat := (List.range n).map fun i => (P k i).1
theorem y1xs {l : List Ws} {n : Nat} (h : l.length = n) : (List.range n).map (fun i => enc (rowW l i)) = l.map enc := by
 refine z36 (by simp [h]) fun i h1 h2 => ?_
 have hi : i < l.length := by simpa using h2
 simp [rowW, ze, hi]
section
variable {f : Fn} {P : Plc} {Q : Arr} {H : Heap} {t : Tb} (L : LvRep f P Q H t)
include L
theorem LvRep.rows {k : Nat} (hk : k < 3) : yv (yv (fz H y1m)) (ysb P ((lst f.regs).length / 64 + 1) k (lst f.code).length) = some ⟨(tk t k).map enc, true, idsP P k (lst f.code).length⟩ := by
 have hl : (tk t k).length = (lst f.code).length := by
  match k, hk with
  | 0, _ => exact L.ok.b
  | 1, _ => exact L.ok.a
  | 2, _ => exact L.ok.h
 rw [← y1xs hl]
 refine yl4 _ _ _ _ _ fun i hi => ?_
 rw [z27] at hi
 have h1 := yh1 (α := BitVec 64) (k := 10) (L.row k hk i hi)
 rw [L.len hk hi, y2ge] at h1
 have h2 : fz H y1m (.ls (P k i).1 (P k i).2 1 0 ((lst f.regs).length / 64 + 1)) = some ⟨slA (some (rowW (tk t k) i)), true, [(P k i).1]⟩ := h1
 rw [ym, h2, y1k]
 rfl
theorem LvRep.ex {k : Nat} (hk : k < 3) (os : List OC) : expo H 11 (.ls (Q k).1 (Q k).2 1 0 (lst f.code).length) os = some ⟨.ls os.length 0 1 0 (lst f.code).length, os ++ [.arr false false 1 ((tk t k).map enc)], true, [(Q k).1], idsP P k (lst f.code).length⟩ := by
 have hr : yr H (Q k).1 (Q k).2 = some (false, 1, ysb P ((lst f.regs).length / 64 + 1) k (lst f.code).length) := by simp [yr, y23, L.arr k hk]
 have hl : (ysb P ((lst f.regs).length / 64 + 1) k (lst f.code).length).length = (lst f.code).length := by simp [ysb]
 have ht : ((ysb P ((lst f.regs).length / 64 + 1) k (lst f.code).length).drop 0).take (lst f.code).length = ysb P ((lst f.regs).length / 64 + 1) k (lst f.code).length := by
  rw [zr, z2c (by rw [hl]; exact zi _)]
 rw [yu5, hr]
 simp only [hl, zd, zi, and_self, if_true, ht, L.rows hk]
theorem LvRep.reads : ∃ r, y18v (.lp 1 1 0 0) H = some r ∧ r.fresh = true ∧ y72 r (.rp [slA (some t.b), slA (some t.a), slA (some t.h), .int .i64 (lst f.regs).length]) := by
 have e0 := L.ex (k := 0) (by omega)
 have e1 := L.ex (k := 1) (by omega)
 have e2 := L.ex (k := 2) (by omega)
 have e3 : ∀ os, expo H 11 (.int .i64 (lst f.regs).length) os = some ⟨.int .i64 (lst f.regs).length, os, true, [], []⟩ := fun os => y26e rfl H 10 os
 have hr : yr H 1 1 = some (false, 4, [[.ls (Q 0).1 (Q 0).2 1 0 (lst f.code).length, .ls (Q 1).1 (Q 1).2 1 0 (lst f.code).length, .ls (Q 2).1 (Q 2).2 1 0 (lst f.code).length, .int .i64 (lst f.regs).length]]) := by simp [yr, y23, L.tb]
 have q0 := L.farQ 0 (by omega)
 have q1 := L.farQ 1 (by omega)
 have q2 := L.farQ 2 (by omega)
 have m : ∀ x, (∀ k i, k < 3 → i < (lst f.code).length → (P k i).1 ≠ x) → (idsP P 0 (lst f.code).length ++ (idsP P 1 (lst f.code).length ++ (idsP P 2 (lst f.code).length ++ []))).contains x = false := by
  intro x hx
  rw [← z3g, z39]
  intro hm
  simp only [zt, idsP, z1y, z27, List.not_mem_nil, or_false] at hm
  rcases hm with ⟨i, hi, e⟩ | ⟨i, hi, e⟩ | ⟨i, hi, e⟩
  ·exact hx 0 i (by omega) hi e
  ·exact hx 1 i (by omega) hi e
  ·exact hx 2 i (by omega) hi e
 have m1 := m 1 (fun k i hk hi e => by have := L.farP k i hk hi; omega)
 have mq : ∀ k, k < 3 → _ := fun k hk => m (Q k).1 (fun k' i hk' hi e => L.off k' k i hk' hk hi e)
 have nq : ∀ k k', k < 3 → k' < 3 → k ≠ k' → ¬ (Q k).1 = (Q k').1 := fun k k' h h' hne e => hne (L.injQ k k' h h' e)
 have ap : y3l [1, (Q 0).1, (Q 1).1, (Q 2).1] (idsP P 0 (lst f.code).length ++ (idsP P 1 (lst f.code).length ++ (idsP P 2 (lst f.code).length ++ []))) = true := by
  have n01 := nq 0 1 (by omega) (by omega) (by omega)
  have n02 := nq 0 2 (by omega) (by omega) (by omega)
  have n12 := nq 1 2 (by omega) (by omega) (by omega)
  have z0 : ¬ 1 = (Q 0).1 := by omega
  have z1 : ¬ 1 = (Q 1).1 := by omega
  have z2 : ¬ 1 = (Q 2).1 := by omega
  simp only [y3l, m1, mq 0 (by omega), mq 1 (by omega), mq 2 (by omega), z28, Bool.and_true]
  simp [n01, n02, n12, z0, z1, z2]
 have ex : expo H y1m (.lp 1 1 0 0) [] = some ⟨.lp 3 0 0 0, [.arr false false 1 (t.b.map enc), .arr false false 1 (t.a.map enc), .arr false false 1 (t.h.map enc), .arr true false 4 [[.ls 0 0 1 0 (lst f.code).length, .ls 1 0 1 0 (lst f.code).length, .ls 2 0 1 0 (lst f.code).length, .int .i64 (lst f.regs).length]]], true, [1, (Q 0).1, (Q 1).1, (Q 2).1], idsP P 0 (lst f.code).length ++ (idsP P 1 (lst f.code).length ++ (idsP P 2 (lst f.code).length ++ []))⟩ := by
  show expo H (11 + 1) (.lp 1 1 0 0) [] = _
  rw [expo]
  simp only [hr, and_self, if_true, y30, e0, e1, e2, e3, List.nil_append, List.length_nil, List.length_cons, List.cons_append, List.append_nil, tk]
  rfl
 refine ⟨⟨.lp 3 0 0 0, [.arr false false 1 (t.b.map enc), .arr false false 1 (t.a.map enc), .arr false false 1 (t.h.map enc), .arr true false 4 [[.ls 0 0 1 0 (lst f.code).length, .ls 1 0 1 0 (lst f.code).length, .ls 2 0 1 0 (lst f.code).length, .int .i64 (lst f.regs).length]]], true, [], []⟩, by rw [y18v, yo, ex]; simp only [ap, if_true], rfl, ?_⟩
 have lb := L.ok.b
 have la := L.ok.a
 have lh := L.ok.h
 generalize hX : y2n [OC.arr false false 1 (t.b.map enc), .arr false false 1 (t.a.map enc), .arr false false 1 (t.h.map enc), .arr true false 4 [[.ls 0 0 1 0 (lst f.code).length, .ls 1 0 1 0 (lst f.code).length, .ls 2 0 1 0 (lst f.code).length, .int .i64 (lst f.regs).length]]] = X
 have y0 : fz X 11 (.ls 0 0 1 0 (lst f.code).length) = some ⟨slA (some t.b), t.b.all scal, [0]⟩ := by
  rw [← lb, ← hX]; exact yh1 (α := Ws) (k := 9) (id := 0) (g := 0) (L := t.b) rfl
 have y1 : fz X 11 (.ls 1 0 1 0 (lst f.code).length) = some ⟨slA (some t.a), t.a.all scal, [1]⟩ := by
  rw [← la, ← hX]; exact yh1 (α := Ws) (k := 9) (id := 1) (g := 0) (L := t.a) rfl
 have y2 : fz X 11 (.ls 2 0 1 0 (lst f.code).length) = some ⟨slA (some t.h), t.h.all scal, [2]⟩ := by
  rw [← lh, ← hX]; exact yh1 (α := Ws) (k := 9) (id := 2) (g := 0) (L := t.h) rfl
 have y3 : fz X 11 (.int .i64 (lst f.regs).length) = some ⟨.int .i64 (lst f.regs).length, true, []⟩ := rfl
 have hr2 : yr X 3 0 = some (false, 4, [[.ls 0 0 1 0 (lst f.code).length, .ls 1 0 1 0 (lst f.code).length, .ls 2 0 1 0 (lst f.code).length, .int .i64 (lst f.regs).length]]) := by
  rw [← hX]; rfl
 refine ⟨⟨.rp [slA (some t.b), slA (some t.a), slA (some t.h), .int .i64 (lst f.regs).length], t.b.all scal && (t.a.all scal && (t.h.all scal && (true && true))), 3 :: ([0] ++ ([1] ++ ([2] ++ ([] ++ []))))⟩, ?_, rfl⟩
 simp only [hX]
 show fz X (11 + 1) (.lp 3 0 0 0) = _
 rw [fz]
 simp only [hr2, List.getElem?_cons_zero, List.drop_zero, ym, y1k, y0, y1, y2, y3]
end
end Go.Vm
namespace Go.Vm
open Cel
theorem y1yy (s : Ws) {r : Nat} (hr : r < 9223372036854775808) (hs : r / 64 < s.length) : (yd E).p 83 [slA (some s), .int .i64 r] = some ⟨.bool (bit s r), [], true, [], []⟩ := by
 rw [y2tp]
 obtain ⟨q1, q2⟩ := yn1 hr
 have kx : y10 1 (slA (some s)) (.int .i64 ((r / 64 : Nat) : Int)) = some (.rp [.int .u64 (s.getD (r / 64) 0).toNat]) := by
  have := y7x (α := BitVec 64) (o := some s) (i := r / 64) (x := s.getD (r / 64) 0) (by rw [y57, ze, z9 hs]; rfl) .i64
  exact this
 have lx : ∀ t : Heap, evLd false 1 (.rp [.int .u64 (s.getD (r / 64) 0).toNat]) t = some (.int .u64 (s.getD (r / 64) 0).toNat) := fun t => by simp
 obtain ⟨v, w, h1, h2, h3⟩ := y2tk (r := r % 64) (z3n r (by omega)) (s.getD (r / 64) 0)
 simp only [y29y, q1, q2, y9, kx, lx, h1, h2, h3, y1w]
 rfl
def tv (t : Tb) (R : Nat) : AV := .rp [slA (some t.b), slA (some t.a), slA (some t.h), .int .i64 R]
def atM (R : Nat) (l : List Ws) (i r : Int) : Bool := decide (0 ≤ i) && decide (i < l.length) && decide (0 ≤ r) && decide (r < R) && bit (rowW l i.toNat) r.toNat
theorem s_at (t : Tb) {R : Nat} (hR : R ≤ 20000) (l : List Ws) (hl : ∀ i, i < l.length → (rowW l i).length = R / 64 + 1) (i r : Int) : (yd E).p 82 [tv t R, slA (some l), .int .i64 i, .int .i64 r] = some ⟨.bool (atM R l i r), [], true, [], []⟩ := by
 rw [y2qu]
 have hE : yg0 0 true (tv t R) .nilp = some (.bool true) := rfl
 have nc : yp (tv t R) = some (tv t R) := rfl
 have fa : evFa 3 (tv t R) = some (.rp [.int .i64 R]) := rfl
 have lR : ∀ H : Heap, evLd false 1 (.rp [.int .i64 R]) H = some (.int .i64 R) := fun H => by simp
 have le : ∀ H, y17 1 (slA (some l)) H = some (.int .i64 l.length) := fun H => y12 (some l) H
 unfold atM
 by_cases h1 : 0 ≤ i
 ·by_cases h2 : i < (l.length : Int)
  ·by_cases h3 : 0 ≤ r
   ·by_cases h4 : r < (R : Int)
    ·have hi : i.toNat < l.length := by omega
     have kx : y10 1 (slA (some l)) (.int .i64 i) = some (.rp [slA (some (rowW l i.toNat))]) := by
      have := yad (α := Ws) (o := some l) (n := i) (x := rowW l i.toNat) h1 (by rw [y57, rowW, ze, z9 hi]; rfl) .i64
      exact this
     have lx : ∀ (H : Heap) (s : Ws), evLd false 1 (.rp [slA (some s)]) H = some (slA (some s)) := fun H s => rfl
     have hb := y1yy (rowW l i.toNat) (r := r.toNat) (by omega) (by rw [hl _ hi]; omega)
     rw [show ((r.toNat : Nat) : Int) = r by omega] at hb
     have ha : ∀ H : Heap, yv (fz H y1m) [slA (some (rowW l i.toNat)), .int .i64 r] = some ⟨[slA (some (rowW l i.toNat)), .int .i64 r], (lst (some (rowW l i.toNat))).isEmpty && (true && true), []⟩ := fun H => by
      rw [ym, ym, y2te, yo1, y1k]; rfl
     have c1 : ∀ H, yc E (yd E) 0 none true 83 [slA (some (rowW l i.toNat)), .int .i64 r] H = some (.bool (bit (rowW l i.toNat) r.toNat), H) := fun H => y18 rfl (ha H) rfl hb ⟨_, rfl, rfl⟩
     simp only [yus, hE, y9, y9n, y1j, h1, decide_true, y1g, le, yg, h2, h3, nc, fa, lR, h4, kx, lx, y1he, c1, ye, y1w, z23]
    ·simp only [yus, hE, y9, y9n, y1j, h1, decide_true, y1g, le, yg, h2, h3, nc, fa, lR, h4, decide_false, ye0, yro, y1d, y1w, z30, z2z]
   ·simp only [yus, hE, y9, y9n, y1j, h1, decide_true, y1g, le, yg, h2, h3, decide_false, ye0, yro, y1d, y1w, z30, z2z]
  ·simp only [yus, hE, y9, y9n, y1j, h1, decide_true, y1g, le, yg, h2, decide_false, ye0, yro, y1d, y1w, z30, z2z]
 ·simp only [yus, hE, y9, y9n, y1j, h1, decide_false, y1g, ye0, yro, y1d, y1w, z30, z2z]
theorem y1qs (t : Tb) {R : Nat} (hR : R ≤ 20000) (l : List Ws) (hl : ∀ i, i < l.length → (rowW l i).length = R / 64 + 1) (i r : Int) (H : Heap) : yc E (yd E) 0 none true 82 [tv t R, slA (some l), .int .i64 i, .int .i64 r] H = some (.bool (atM R l i r), H) := by
 have ht : fz H y1m (tv t R) = some ⟨tv t R, y1u (tv t R), []⟩ := fz_p (k := 11) rfl H
 have hs : fz H y1m (slA (some l)) = some ⟨slA (some l), y1u (slA (some l)), []⟩ := fz_p (k := 11) (y125 _) H
 have ha : ∃ b, yv (fz H y1m) [tv t R, slA (some l), .int .i64 i, .int .i64 r] = some ⟨[tv t R, slA (some l), .int .i64 i, .int .i64 r], b, []⟩ := by
  refine ⟨y1u (tv t R) && (y1u (slA (some l)) && (true && (true && true))), ?_⟩
  rw [ym, ym, ym, ym, ht, hs, yo1, yo1, y1k]; rfl
 obtain ⟨b, ha⟩ := ha
 exact y18 rfl ha rfl (s_at t hR l hl i r) ⟨_, rfl, rfl⟩
end Go.Vm
namespace Go.Vm
open Cel
def acrM (f : Fn) (t : Tb) (i r : Int) : Bool := decide (0 ≤ i) && decide (i < (lst f.code).length) && (atM (lst f.regs).length t.h i r || (atM (lst f.regs).length t.a i r && decide (defr (y25 f i.toNat) ≠ r)))
theorem y205 (f : Fn) (t : Tb) (hR : (lst f.regs).length ≤ 20000) (ok : TbOk (lst f.code).length ((lst f.regs).length / 64 + 1) t) (i r : Int) : (yd E).p 88 [tv t (lst f.regs).length, .agg (enc f), .int .i64 i, .int .i64 r] = some ⟨.bool (acrM f t i r), [], true, [], []⟩ := by
 rw [y2r6]
 have ca := fun H => y1qs t hR t.a (fun i hi => ok.aw i (by rw [← ok.a]; exact hi)) i r H
 have ch := fun H => y1qs t hR t.h (fun i hi => ok.hw i (by rw [← ok.h]; exact hi)) i r H
 have hE : yg0 0 false (tv t (lst f.regs).length) .nilp = some (.bool false) := rfl
 have nc : yp (tv t (lst f.regs).length) = some (tv t (lst f.regs).length) := rfl
 have f1 : evFa 1 (tv t (lst f.regs).length) = some (.rp [slA (some t.a), slA (some t.h), .int .i64 (lst f.regs).length]) := rfl
 have f2 : evFa 2 (tv t (lst f.regs).length) = some (.rp [slA (some t.h), .int .i64 (lst f.regs).length]) := rfl
 have fa : ∀ H : Heap, evLd false 1 (.rp [slA (some t.a), slA (some t.h), .int .i64 (lst f.regs).length]) H = some (slA (some t.a)) := fun H => rfl
 have fh : ∀ H : Heap, evLd false 1 (.rp [slA (some t.h), .int .i64 (lst f.regs).length]) H = some (slA (some t.h)) := fun H => rfl
 have n0 : newC 0 (some 0) (cellsOf (.agg (enc f))) [D0] = some (.lp 0 1 0 0, [AB f]) := by simp
 have l3 : ∀ t : Heap, evLd false 1 (.lp 0 1 0 3) (AB f :: t) = some (slA f.code) := fun t => by simp
 have le : ∀ H, y17 1 (slA (some t.a)) H = some (.int .i64 (lst f.code).length) := fun H => by
  have := y12 (some t.a) H
  rw [y57, ok.a] at this
  exact this
 unfold acrM
 by_cases h1 : i < 0
 ·have h1' : ¬ 0 ≤ i := by omega
  simp only [ytc, yum, yud, n0, ye, hE, y9, y51, yg, h1, decide_true, y1d, y6z, y1g, y1b, y1w, h1', decide_false, z2z]
 have h1' : 0 ≤ i := by omega
 by_cases h2 : ((lst f.code).length : Int) ≤ i
 ·have h2' : ¬ i < ((lst f.code).length : Int) := by omega
  simp only [ytc, yum, yud, n0, ye, hE, y9, y51, yg, h1, decide_false, y1d, yk, zd, l3, y12, y1j, h2, decide_true, y6z, y1g, y1b, y1w, h2', z30, z2z]
 have h2' : i < ((lst f.code).length : Int) := by omega
 have kx := ye1 (o := f.code) h1' (y5w (by omega)) .i64
 have lx : ∀ t : Heap, evLd true 9 (.rp (enc (y25 f i.toNat))) t = some (.agg (enc (y25 f i.toNat))) := fun t => by simp
 have hax : ∀ H : Heap, yv (fz H y1m) [.agg (enc (y25 f i.toNat))] = some ⟨[.agg (enc (y25 f i.toNat))], scal (y25 f i.toNat) && true, []⟩ := fun H => by
  rw [ym, y64, y1k]; rfl
 have cD : ∀ H, yc E (yd E) 0 none true 9 [.agg (enc (y25 f i.toNat))] H = some (.int .i64 (defr (y25 f i.toNat)), H) := fun H => y18 rfl (hax H) rfl (y2km _) ⟨_, rfl, rfl⟩
 cases hh : atM (lst f.regs).length t.h i r with
 | true =>
  rw [hh] at ch
  simp only [ytc, yum, yud, n0, ye, hE, y9, y51, yg, h1, decide_false, y1d, yk, zd, l3, y12, y1j, h2, nc, f1, fa, le, y1h, f2, fh, ch, y6z, y1wi, y92, y2p1, y1g, y1w, h1', h2', decide_true, z23, z2x]
 | false =>
  rw [hh] at ch
  cases ha : atM (lst f.regs).length t.a i r with
  | true =>
   rw [ha] at ca
   simp only [ytc, yum, yud, n0, ye, hE, y9, y51, y1z0, yg, h1, decide_false, y1d, yk, zd, l3, y12, y1j, h2, nc, f1, fa, le, y1h, f2, fh, ch, ca, y9n, y1he, kx, lx, cD, y6f, y1g, y1w, h1', h2', decide_true, z23, z1x]
  | false =>
   rw [ha] at ca
   simp only [ytc, yum, yud, n0, ye, hE, y9, y51, y1z0, yg, h1, decide_false, y1d, yk, zd, l3, y12, y1j, h2, nc, f1, fa, le, y1h, f2, fh, ch, ca, ye0, yro, y1g, y1w, h1', h2', decide_true, z23, z1x, z2z]
end Go.Vm
namespace Go.Vm
section
variable {α : Type}
def aset (k : Int) (v : α) : List (Int × α) → List (Int × α)
 | [] => [(k, v)]
 | (k', v') :: r => if k = k' then (k, v) :: r else (k', v') :: aset k v r
def adel (k : Int) : List (Int × α) → List (Int × α)
 | [] => []
 | (k', v') :: r => if k = k' then r else (k', v') :: adel k r
def aget (k : Int) : List (Int × α) → Option α
 | [] => none
 | (k', v') :: r => if k = k' then some v' else aget k r
theorem y4i (k j : Int) (v : α) : ∀ l, aget j (aset k v l) = if j = k then some v else aget j l
 | [] => by simp only [aset, aget]
 | (k', v') :: r => by
  rw [aset]
  by_cases h : k = k'
  ·subst h
   rw [if_pos rfl, aget, aget]
   by_cases h2 : j = k <;> simp [h2]
  ·rw [if_neg h, aget, y4i k j v r, aget]
   by_cases h2 : j = k'
   ·have : ¬ j = k := fun e => h (e.symm.trans h2)
    rw [if_pos h2, if_pos h2, if_neg this]
   ·rw [if_neg h2, if_neg h2]
def anew : List (Int × α) → Prop
 | [] => True
 | (k, _) :: r => aget k r = none ∧ anew r
theorem ya2 (k : Int) (v : α) : ∀ l, anew l → anew (aset k v l)
 | [], _ => ⟨rfl, trivial⟩
 | (k', v') :: r, h => by
  rw [aset]
  by_cases e : k = k'
  ·rw [if_pos e]; exact ⟨by rw [e]; exact h.1, h.2⟩
  ·rw [if_neg e]
   refine ⟨?_, ya2 k v r h.2⟩
   rw [y4i, if_neg (fun h' => e h'.symm)]
   exact h.1
theorem y48 (k j : Int) : ∀ (l : List (Int × α)), anew l → aget j (adel k l) = if j = k then none else aget j l
 | [], _ => by simp [adel, aget]
 | (k', v') :: r, h => by
  rw [adel]
  by_cases e : k = k'
  ·subst e
   rw [if_pos rfl, aget]
   by_cases h2 : j = k
   ·rw [if_pos h2, h2]; exact h.1
   ·rw [if_neg h2, if_neg h2]
  ·rw [if_neg e, aget, y48 k j r h.2, aget]
   by_cases h2 : j = k'
   ·have : ¬ j = k := fun e' => e (e'.symm.trans h2)
    rw [if_pos h2, if_pos h2, if_neg this]
   ·rw [if_neg h2, if_neg h2]
theorem ya8 (k : Int) : ∀ (l : List (Int × α)), anew l → anew (adel k l)
 | [], _ => trivial
 | (k', v') :: r, h => by
  rw [adel]
  by_cases e : k = k'
  ·rw [if_pos e]; exact h.2
  ·rw [if_neg e]
   refine ⟨?_, ya8 k r h.2⟩
   rw [y48 k k' r h.2]
   split
   ·rfl
   ·exact h.1
end
end Go.Vm
namespace Go.Vm
open Cel
section
variable {α : Type}
variable (vf : α → AV)
def mEnt (l : List (Int × α)) : List (AV × AV) := l.map fun p => (.int .i64 p.1, vf p.2)
theorem yhd (k : Int) : ∀ l : List (Int × α), mfind false [0] (.int .i64 k) (mEnt vf l) = some ((aget k l).map vf)
 | [] => rfl
 | (k', v') :: r => by
  have ih := yhd k r
  simp only [mEnt, List.map_cons, mfind, y2f, zp, if_false, y21, if_true, aget] at ih ⊢
  by_cases e : k = k'
  ·simp [e]
  ·have : (k == k') = false := by simpa using e
   rw [this]
   simp only [if_neg e]
   exact ih
theorem ymv (k : Int) (v : α) : ∀ l : List (Int × α), mset false [0] (.int .i64 k) (vf v) (mEnt vf l) = some (mEnt vf (aset k v l))
 | [] => rfl
 | (k', v') :: r => by
  have ih := ymv k v r
  simp only [mEnt, List.map_cons, mset, y2f, zp, if_false, y21, if_true, aset] at ih ⊢
  by_cases e : k = k'
  ·simp [e]
  ·have : (k == k') = false := by simpa using e
   rw [this]
   simp only [if_neg e, ih, Option.map_some, List.map_cons]
theorem yhv (k : Int) : ∀ l : List (Int × α), mdrop false [0] (.int .i64 k) (mEnt vf l) = some (mEnt vf (adel k l))
 | [] => rfl
 | (k', v') :: r => by
  have ih := yhv k r
  simp only [mEnt, List.map_cons, mdrop, y2f, zp, if_false, y21, if_true, adel] at ih ⊢
  by_cases e : k = k'
  ·simp [e]
  ·have : (k == k') = false := by simpa using e
   rw [this]
   simp only [if_neg e, ih, Option.map_some, List.map_cons]
abbrev AM (g : Nat) (l : List (Int × α)) : AO := ⟨g, .map false (mEnt vf l)⟩
variable {vf}
theorem ycu {H : Heap} {id g : Nat} {l : List (Int × α)} (h : H[id]? = some (AM vf g l)) : y6l H id g = some (false, mEnt vf l) := by
 simp [y6l, y23, h]
theorem yr5 {H : Heap} {id g : Nat} {l : List (Int × α)} (h : H[id]? = some (AM vf g l)) : y3t H id g = none := by
 simp [y3t, y23, h]
theorem yef {H : Heap} {id g : Nat} {l : List (Int × α)} (h : H[id]? = some (AM vf g l)) (z : AV) (k : Int) : y2z false [0] z false (.lm id g) (.int .i64 k) H = some (((aget k l).map vf).getD z) := by
 simp only [y2z, yr5 h, ycu h, Option.map_some, yhd]
 cases aget k l <;> rfl
theorem ygo {H : Heap} {id g : Nat} {l : List (Int × α)} (h : H[id]? = some (AM vf g l)) (z : AV) (k : Int) : y2z false [0] z true (.lm id g) (.int .i64 k) H = some (match aget k l with | some v => .tup [vf v, .bool true] | none => .tup [z, .bool false]) := by
 simp only [y2z, yr5 h, ycu h, Option.map_some, yhd]
 cases aget k l <;> rfl
theorem ynd {H : Heap} {id g : Nat} {l : List (Int × α)} (h : H[id]? = some (AM vf g l)) (k : Int) (v : α) : y3x false [0] (.lm id g) (.int .i64 k) (vf v) H = some (.tup [], H.set id (AM vf g (aset k v l))) := by
 simp only [y3x, ycu h, ymv, y3p, h]
theorem y289 {H : Heap} {id g : Nat} {l : List (Int × α)} (h : H[id]? = some (AM vf g l)) (k : Int) : y7c false [0] (.lm id g) (.int .i64 k) H = some (.tup [], H.set id (AM vf g (adel k l))) := by
 simp only [y7c, ycu h, yhv, y3p, h]
end
abbrev vI (n : Int) : AV := .int .i64 n
end Go.Vm
namespace Go.Vm
open Cel
section
variable {α : Type} {vf : α → AV}
abbrev KM (vf : α → AV) (g : Nat) (l : List (Int × α)) : AO := ⟨g, .kmap (mEnt vf l)⟩
theorem yaj {H : Heap} {id g : Nat} {l : List (Int × α)} (h : H[id]? = some (KM vf g l)) : y3t H id g = some (mEnt vf l) := by
 simp [y3t, y23, h]
theorem y14q {H : Heap} {id g : Nat} {l : List (Int × α)} (h : H[id]? = some (KM vf g l)) : y6l H id g = none := by
 simp [y6l, y23, h]
theorem yzh (k : Int) (v : α) : ∀ {l : List (Int × α)}, (aget k l).isSome = true → (aset k v l).length = l.length
 | [], h => by cases h
 | (k', v') :: r, h => by
  simp only [aget, aset] at h ⊢
  split at h
  ·rename_i e
   simp [e]
  ·rename_i e
   simp only [if_neg e, List.length_cons, yzh k v h]
theorem y2e4 {H : Heap} {id g : Nat} {l : List (Int × α)} (h : H[id]? = some (KM vf g l)) (k : Int) (v : α) (hk : (aget k l).isSome = true) : y3x false [0] (.lm id g) (.int .i64 k) (vf v) H = some (.tup [], H.set id (KM vf g (aset k v l))) := by
 have hl : (mEnt vf (aset k v l)).length = (mEnt vf l).length := by simp only [mEnt, zy, yzh k v hk]
 simp only [y3x, y14q h, yaj h, ymv, y3p, h, hl, if_true]
theorem y2aa {H : Heap} {id g : Nat} {l : List (Int × α)} (h : H[id]? = some (KM vf g l)) (k : Int) : y7c false [0] (.lm id g) (.int .i64 k) H = some (.tup [], H.set id (KM vf g (adel k l))) := by
 simp only [y7c, y14q h, yaj h, yhv, y3p, h]
theorem yq4 (l : List (Int × α)) : (mEnt vf l).all (fun p => yd5 p.1) = true := by
 rw [z19]
 intro p hp
 obtain ⟨q, _, rfl⟩ := z1y.1 hp
 rfl
theorem y20a {l : List (Int × α)} : ∀ {π : List (AV × AV)}, π.Perm (mEnt vf l) → ∃ l' : List (Int × α), l'.Perm l ∧ π = mEnt vf l' := by
 intro π hp
 unfold mEnt at hp ⊢
 have key : ∀ (m : List (Int × α)) (π : List (AV × AV)), π.Perm (m.map fun p => ((.int .i64 p.1 : AV), vf p.2)) → ∃ l' : List (Int × α), l'.Perm m ∧ π = l'.map fun p => ((.int .i64 p.1 : AV), vf p.2) := by
  intro m π
  induction π generalizing m with
  | nil =>
   intro hp
   have := hp.symm.eq_nil
   rw [z3j] at this
   subst this
   exact ⟨[], .refl _, rfl⟩
  | cons a π ih =>
   intro hp
   obtain ⟨q, hq, rfl⟩ := z1y.1 (hp.mem_iff.1 z1h)
   obtain ⟨i, hi⟩ := zz hq
   have hpe := y7i hi
   have hp2 : π.Perm ((m.eraseIdx i).map fun p => ((.int .i64 p.1 : AV), vf p.2)) := (hp.trans ((hpe.map _).symm)).cons_inv
   obtain ⟨l', h1, h2⟩ := ih _ hp2
   exact ⟨q :: l', (h1.cons q).trans hpe, by rw [h2]; rfl⟩
 exact key l π hp
open Classical in
theorem yzf (k : Int) : ∀ l : List (Int × α), ((mEnt vf l).find? fun q => decide (q.1 = .int .i64 k)) = (aget k l).map fun v => ((.int .i64 k : AV), vf v)
 | [] => rfl
 | (k', v') :: r => by
  have ih := yzf k r
  simp only [mEnt, List.map_cons, List.find?_cons, aget] at ih ⊢
  by_cases e : k = k'
  ·subst e
   simp
  ·have e' : ¬ ((AV.int .i64 k') = (AV.int .i64 k)) := fun q => e (by injection q with _ q; exact q.symm)
   simp only [e', decide_false, if_neg e]
   exact ih
theorem y15f {step : Heap → AV × AV → Option Heap} {H H' : Heap} {id g : Nat} {l l' : List (Int × α)} {k : Int} {v0 : AV} (h : H[id]? = some (KM vf g l)) (h' : H'[id]? = some (KM vf g l'))
  (hs : ∀ v, aget k l = some v → step H (.int .i64 k, vf v) = some H') (hn : aget k l = none → H' = H) : ustep id g step H (.int .i64 k, v0) = some H' := by
 unfold ustep
 rw [yaj h]
 simp only [yzf]
 cases hk : aget k l with
 | none => rw [hn hk]; rfl
 | some v =>
  simp only [Option.map_some, hs v hk, yaj h', yq4, if_true]
theorem y25m {β : Type} {step : AV × AV → Heap → Option Heap} {H : Heap} {id g : Nat} {l : List (Int × α)} {K : Heap → Option β} (h : H[id]? = some (AM vf g l)) (R : List (Int × α) → Heap)
  (hR : ∀ π : List (Int × α), π.Perm l → ∃ H1 l1, mfold (ustep id g fun h q => step q h) (mEnt vf π) (H.set id (KM vf g l)) = some H1 ∧ H1[id]? = some (KM vf g l1) ∧ R π = H1.set id (AM vf g l1))
  (hS : ∀ π : List (Int × α), π.Perm l → yg4 (R π) (R l)) : orm (.lm id g) step H K = K (R l) := by
 have hl : ydu H id = H.set id (KM vf g l) := by unfold ydu; rw [h]
 have ho : ylq H (.lm id g) = some (id, g, mEnt vf l) := by simp only [ylq, ycu h, yq4, if_true]
 have one : ∀ π : List (Int × α), π.Perm l → (mfold (ustep id g fun h q => step q h) (mEnt vf π) (ydu H id)).bind (y6q id g) = some (R π) := by
  intro π hp
  obtain ⟨H1, l1, h1, h2, h3⟩ := hR π hp
  rw [hl, h1, Option.bind_some]
  unfold y6q
  rw [yaj h2, h3]
 unfold orm
 rw [ho]
 simp only
 have : mall yg4 (ustep id g fun h q => step q h) (y6q id g) (mEnt vf l) (ydu H id) = some (R l) := by
  refine yag.2 ⟨one l (.refl _), fun π hp => ?_⟩
  obtain ⟨l', h1, rfl⟩ := y20a hp
  exact ⟨_, one l' h1, hS l' h1⟩
 rw [this]
end
end Go.Vm
namespace Go.Vm
open Cel
section
variable {α : Type}
theorem ygk {k : Int} {v : α} : ∀ {l : List (Int × α)}, aget k l = some v → (k, v) ∈ l
 | [], h => by cases h
 | (k', v') :: r, h => by
  rw [aget] at h
  split at h
  ·rename_i e
   injection h with h
   subst h; subst e
   exact z1h
  ·exact z18 _ (ygk h)
theorem ynv {k : Int} {v : α} : ∀ {l : List (Int × α)}, (k, v) ∈ l → (aget k l).isSome = true
 | [], h => by cases h
 | (k', v') :: r, h => by
  rw [aget]
  split
  ·rfl
  ·rename_i e
   rcases zq.1 h with h | h
   ·injection h with h1 _
    exact (e h1).elim
   ·exact ynv h
theorem y6s : ∀ {l : List (Int × α)}, anew l ↔ (l.map (·.1)).Nodup
 | [] => by simp [anew]
 | (k, v) :: r => by
  rw [anew, z10, z21, y6s]
  refine and_congr ?_ Iff.rfl
  constructor
  ·intro h hm
   obtain ⟨q, hq, e⟩ := z1y.1 hm
   simp only at e
   have := ynv (k := k) (v := q.2) (by rw [← e]; exact hq)
   rw [h] at this
   cases this
  ·intro h
   cases hg : aget k r with
   | none => rfl
   | some v' => exact (h (z1y.2 ⟨_, ygk hg, rfl⟩)).elim
theorem ynf {k : Int} {v : α} : ∀ {l : List (Int × α)}, anew l → (k, v) ∈ l → aget k l = some v
 | [], _, h => by cases h
 | (k', v') :: r, hn, h => by
  rw [anew] at hn
  rw [aget]
  rcases zq.1 h with h | h
  ·injection h with h1 h2
   rw [if_pos h1, h2]
  ·have hne : k ≠ k' := fun e => by
    have := ynv h
    rw [e, hn.1] at this
    cases this
   rw [if_neg hne]
   exact ynf hn.2 h
theorem y7z {l l' : List (Int × α)} (h : anew l) (h' : anew l') (hg : ∀ k, aget k l = aget k l') : l.Perm l' := by
 have nd : ∀ {l : List (Int × α)}, anew l → l.Nodup := fun h => (z3b.1 (y6s.1 h)).imp fun h e => h (by rw [e])
 rw [List.perm_ext_iff_of_nodup (nd h) (nd h')]
 rintro ⟨k, v⟩
 exact ⟨fun hm => ygk ((hg k).symm.trans (ynf h hm)), fun hm => ygk ((hg k).trans (ynf h' hm))⟩
end
theorem yqc {σ β : Type} {E : σ → σ → Prop} {step : σ → β → σ} {D : β → β → Prop} (tr : ∀ {a b c}, E a b → E b c → E a c) (resp : ∀ {s s'} p, E s s' → E (step s p) (step s' p)) (rfl1 : ∀ {s s'}, E s s' → E s s)
  (comm : ∀ {s} p q, E s s → D p q → E (step (step s p) q) (step (step s q) p)) {π l : List β} (hp : π.Perm l) : π.Pairwise (fun p q => D p q ∧ D q p) → ∀ {s s' : σ}, E s s' → E (π.foldl step s) (l.foldl step s') := by
 induction hp with
 | nil => intro _ s s' h; exact h
 | cons p _ ih =>
  intro hd s s' h
  rw [List.pairwise_cons] at hd
  exact ih hd.2 (resp p h)
 | swap p q r =>
  intro hd s s' h
  have hD : D q p ∧ D p q := by
   rw [List.pairwise_cons] at hd
   exact hd.1 p z1h
  have fold : ∀ (r : List β) {s s' : σ}, E s s' → E (r.foldl step s) (r.foldl step s') := by
   intro r
   induction r with
   | nil => exact fun h => h
   | cons x r ih => exact fun h => ih (resp x h)
  exact fold r (tr (comm q p (rfl1 h) hD.1) (resp q (resp p h)))
 | trans h1 h2 ih1 ih2 =>
  intro hd s s' h
  refine tr (ih1 hd (rfl1 h)) (ih2 ?_ h)
  exact (h1.pairwise_iff (fun h => ⟨h.2, h.1⟩)).1 hd
end Go.Vm
namespace Go.Vm
open Cel
structure Mv where
 to : Int
 fr : Int
 deriving DecidableEq, Inhabited
instance : Cel Mv := ⟨2, fun m => [.int .i64 m.to, .int .i64 m.fr], fun _ => rfl, fun _ => rfl, fun _ => rfl⟩
@[simp] theorem y2ss : es Mv = 2 := rfl
abbrev zMv : Mv := ⟨0, 0⟩
abbrev IM := List (Int × Int)
def w64 (n : Int) : Int := IntKind.wrap .i64 n
def inc (a : Int) (R : IM) : IM := aset a (w64 ((aget a R).getD 0 + 1)) R
def dec1 (a : Int) (R : IM) : IM := aset a (w64 ((aget a R).getD 0 - 1)) R
def ypc (n : Int) : List Mv → IM → Option IM
 | [], A => some A
 | m :: r, A => if (aget m.to A).isSome = true ∨ m.to = n ∨ m.fr = n then none else ypc n r (aset m.to m.fr A)
def p2g (s : IM × IM) (k : Int) : Option Int → IM × IM
 | none => s
 | some a => if k = a then (adel k s.1, s.2) else (s.1, inc a s.2)
def p2s (s : IM × IM) (p : Int × Int) : IM × IM := p2g s p.1 (aget p.1 s.1)
theorem y6x (s : IM × IM) (p : Int × Int) : p2s s p = p2g s p.1 (aget p.1 s.1) := rfl
def p2M (A : IM) : IM × IM := A.foldl p2s (A, [])
def ycg (A R : IM) (k : Int) : Bool := match aget k A with
 | some a => decide (a ≠ k) && decide ((aget k R).getD 0 = 0)
 | none => false
def yk1 (A R : IM) : List Mv → List Int → List Int
 | [], F => F
 | m :: r, F => yk1 A R r (if ycg A R m.to = true then F ++ [m.to] else F)
def E2 (s s' : IM × IM) : Prop := anew s.1 ∧ anew s'.1 ∧ (∀ k, aget k s.1 = aget k s'.1) ∧ anew s.2 ∧ anew s'.2 ∧ ∀ k, aget k s.2 = aget k s'.2
theorem ygu (a j : Int) (R : IM) : aget j (inc a R) = if j = a then some (w64 ((aget a R).getD 0 + 1)) else aget j R := y4i ..
theorem yyj {a : Int} {R : IM} (h : anew R) : anew (inc a R) := ya2 _ _ _ h
theorem y7y {s : IM × IM} (p : Int × Int) (h1 : anew s.1) (h2 : anew s.2) : anew (p2s s p).1 ∧ anew (p2s s p).2 := by
 unfold p2s p2g
 split
 ·exact ⟨h1, h2⟩
 ·split
  ·exact ⟨ya8 _ _ h1, h2⟩
  ·exact ⟨h1, yyj h2⟩
theorem y1xi {s s' : IM × IM} (p : Int × Int) (h : E2 s s') : E2 (p2s s p) (p2s s' p) := by
 obtain ⟨a1, a2, a3, b1, b2, b3⟩ := h
 obtain ⟨c1, c2⟩ := y7y p a1 b1
 obtain ⟨d1, d2⟩ := y7y p a2 b2
 refine ⟨c1, d1, fun k => ?_, c2, d2, fun k => ?_⟩
 ·rw [y6x s, y6x s', ← a3 p.1]
  cases aget p.1 s.1 with
  | none => exact a3 k
  | some a =>
   simp only [p2g]
   split
   ·rw [y48 _ _ _ a1, y48 _ _ _ a2, a3 k]
   ·exact a3 k
 ·rw [y6x s, y6x s', ← a3 p.1]
  cases aget p.1 s.1 with
  | none => exact b3 k
  | some a =>
   simp only [p2g]
   split
   ·exact b3 k
   ·rw [ygu, ygu, b3 k, b3 a]
theorem y1z1 {s : IM × IM} (p q : Int × Int) (h : E2 s s) (hd : p.1 ≠ q.1) : E2 (p2s (p2s s p) q) (p2s (p2s s q) p) := by
 obtain ⟨a1, _, _, b1, _, _⟩ := h
 obtain ⟨c1, c2⟩ := y7y p a1 b1
 obtain ⟨c3, c4⟩ := y7y q c1 c2
 obtain ⟨d1, d2⟩ := y7y q a1 b1
 obtain ⟨d3, d4⟩ := y7y p d1 d2
 have hp : aget q.1 (p2s s p).1 = aget q.1 s.1 := by
  unfold p2s p2g
  split
  ·rfl
  ·split
   ·rw [y48 _ _ _ a1, if_neg (fun e => hd e.symm)]
   ·rfl
 have hq : aget p.1 (p2s s q).1 = aget p.1 s.1 := by
  unfold p2s p2g
  split
  ·rfl
  ·split
   ·rw [y48 _ _ _ a1, if_neg hd]
   ·rfl
 cases ep : aget p.1 s.1 with
 | none =>
  have x1 : p2s s p = s := by rw [y6x, ep]; rfl
  have x2 : p2s (p2s s q) p = p2s s q := by rw [y6x (p2s s q), hq, ep]; rfl
  rw [x1, x2]
  exact ⟨d1, d1, fun _ => rfl, d2, d2, fun _ => rfl⟩
 | some a =>
  cases eq : aget q.1 s.1 with
  | none =>
   have x1 : p2s s q = s := by rw [y6x, eq]; rfl
   have x2 : p2s (p2s s p) q = p2s s p := by rw [y6x (p2s s p), hp, eq]; rfl
   rw [x1, x2]
   exact ⟨c1, c1, fun _ => rfl, c2, c2, fun _ => rfl⟩
  | some b =>
   have x1 : p2s (p2s s p) q = p2g (p2g s p.1 (some a)) q.1 (some b) := by rw [y6x (p2s s p), hp, eq, y6x s p, ep]
   have x2 : p2s (p2s s q) p = p2g (p2g s q.1 (some b)) p.1 (some a) := by rw [y6x (p2s s q), hq, ep, y6x s q, eq]
   refine ⟨c3, d3, fun k => ?_, c4, d4, fun k => ?_⟩
   ·rw [x1, x2]
    simp only [p2g]
    by_cases e1 : p.1 = a <;> by_cases e2 : q.1 = b <;> simp only [e1, e2, if_true, if_false]
    rw [← e1, ← e2, y48 _ _ _ (ya8 _ _ a1), y48 _ _ _ a1, y48 _ _ _ (ya8 _ _ a1), y48 _ _ _ a1]
    split <;> split <;> rfl
   ·rw [x1, x2]
    simp only [p2g]
    by_cases e1 : p.1 = a <;> by_cases e2 : q.1 = b <;> simp only [e1, e2, if_true, if_false]
    simp only [ygu]
    by_cases k1 : k = b <;> by_cases k2 : k = a <;> by_cases k3 : a = b <;> simp_all
theorem y2l4 {a b c : IM × IM} (h : E2 a b) (h' : E2 b c) : E2 a c := ⟨h.1, h'.2.1, fun k => (h.2.2.1 k).trans (h'.2.2.1 k), h.2.2.2.1, h'.2.2.2.2.1, fun k => (h.2.2.2.2.2 k).trans (h'.2.2.2.2.2 k)⟩
theorem y2do {π l : IM} {s : IM × IM} (hl : anew l) (hp : π.Perm l) (h1 : anew s.1) (h2 : anew s.2) : E2 (π.foldl p2s s) (l.foldl p2s s) := by
 have hπ : anew π := y6s.2 (((hp.map _).nodup_iff).2 (y6s.1 hl))
 refine yqc (E := E2) (step := p2s) (D := fun p q => p.1 ≠ q.1) y2l4 (fun p h => y1xi p h) (fun h => ⟨h.1, h.1, fun _ => rfl, h.2.2.2.1, h.2.2.2.1, fun _ => rfl⟩) (fun p q h hd => y1z1 p q h hd) hp ?_ ⟨h1, h1, fun _ => rfl, h2, h2, fun _ => rfl⟩
 exact (z3b.1 (y6s.1 hπ)).imp fun h => ⟨h, fun e => h e.symm⟩
end Go.Vm
