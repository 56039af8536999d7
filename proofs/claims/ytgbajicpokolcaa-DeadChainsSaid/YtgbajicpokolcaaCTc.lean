/- The sweeps end, and leave what is live. The machine's sets of registers. What the functions of 'ins' answer of single instructions. Which instructions may throw. A number in a list: the library's 'Contains'. flow.Next, flow.Caught. What 'Uses' answers. The register that an instruction writes. live.Of: the sweeps over the table are as the plain words have them. live.Of: one sweep, and all sweeps. live.Of: all sweeps. live.Of: how its answer reads. live's sets, read only. What live's table tells is what the document tells. live's After. live.Of: how the table is made. -/
import Derived.Test.YtgbajicpokolcaaCX
import Derived.Test.YtgbajicpokolcaaCTb
set_option linter.unusedSimpArgs false
set_option linter.unusedVariables false
set_option linter.unusedSectionVars false
namespace Go.Vm
section
variable {f : Fn}
structure LvSnd (f : Fn) (t : Tb) : Prop where
  b : ∀ i, i < (lst f.code).length → ∀ r, bit (rowW t.b i) r = true → y4a f [(i : Int)] r
  a : ∀ i, i < (lst f.code).length → ∀ r, bit (rowW t.a i) r = true → y4a f (y1l f i) r
  h : ∀ i, i < (lst f.code).length → ∀ r, bit (rowW t.h i) r = true → y4a f (yq f i) r
structure Cl (f : Fn) (t : Tb) (i : Nat) : Prop where
  a : ∀ to ∈ y1l f i, ∀ r, bit (rowW t.b to.toNat) r = true → bit (rowW t.a i) r = true
  h : ∀ to ∈ yq f i, ∀ r, bit (rowW t.b to.toNat) r = true → bit (rowW t.h i) r = true
  b : ∀ r : Nat, (r : Int) ∈ y5b f i ∨ bit (rowW t.h i) r = true ∨ (bit (rowW t.a i) r = true ∧ defr (yd f i) ≠ r) → bit (rowW t.b i) r = true
variable (w : Wf f)
include w
theorem y20e {A : List Int} {r : Nat} (h : y4a f A r) : r < (lst f.regs).length := by
  obtain ⟨i, hi, hu⟩ := h
  have := w.uses hi.lt hu
  omega
variable {t : Tb} (ok : TbOk (lst f.code).length ((lst f.regs).length / 64 + 1) t) {i : Nat} (hi : i < (lst f.code).length)
include ok hi
theorem ypr : ∀ to ∈ y1l f i, 0 ≤ to ∧ to < (lst f.code).length := fun _ h => w.next hi h
theorem ya5 : (aftT f t i).length = (lst f.regs).length / 64 + 1 := yfn _ _ (ok.aw i hi) ok.bw (ypr w ok hi)
theorem yk0 : (hanT f t i).length = (lst f.regs).length / 64 + 1 := yfn _ _ (ok.hw i hi) ok.bw (fun _ h => w.caught h)
theorem ye4 : (befT f t i).length = (lst f.regs).length / 64 + 1 := by
  unfold befT
  rw [yza, y3k (by rw [y87, ya5 w ok hi, yk0 w ok hi]), y87, ya5 w ok hi]
theorem y19s (r : Nat) : bit (aftT f t i) r = true ↔ bit (rowW t.a i) r = true ∨ ∃ to ∈ y1l f i, bit (rowW t.b to.toNat) r = true := yfu _ _ (ok.aw i hi) ok.bw (ypr w ok hi) r
theorem y1im (r : Nat) : bit (hanT f t i) r = true ↔ bit (rowW t.h i) r = true ∨ ∃ to ∈ yq f i, bit (rowW t.b to.toNat) r = true := yfu _ _ (ok.hw i hi) ok.bw (fun _ h => w.caught h) r
theorem y1gb (r : Nat) : bit (befT f t i) r = true ↔ (r : Int) ∈ y5b f i ∨ bit (hanT f t i) r = true ∨ (bit (aftT f t i) r = true ∧ defr (yd f i) ≠ r) := by
  unfold befT
  have h1 : (y99 (defr (yd f i)) (aftT f t i)).length = (hanT f t i).length := by rw [y87, ya5 w ok hi, yk0 w ok hi]
  rw [ytr _ _ (fun u hu => by
    obtain ⟨u0, u1⟩ := w.uses hi hu
    rw [y3k h1, y87, ya5 w ok hi]
    exact ⟨u0, by omega⟩), y8z h1, Bool.or_eq_true, y1dt (fun hd => by
    have := w.def hi hd
    rw [ya5 w ok hi]; omega)]
  constructor
  · rintro ((h | h) | h)
    · exact .inr (.inr h)
    · exact .inr (.inl h)
    · exact .inl h
  · rintro (h | h | h)
    · exact .inr h
    · exact .inl (.inr h)
    · exact .inl (.inl h)
theorem yjh : TbOk (lst f.code).length ((lst f.regs).length / 64 + 1) (y3v f t i) := by
  have e1 : (rowW t.b i).length = (befT f t i).length := by rw [ok.bw i hi, ye4 w ok hi]
  refine ⟨by simp [y3v, ok.b], by simp [y3v, ok.a], by simp [y3v, ok.h], fun j hj => ?_, fun j hj => ?_, fun j hj => ?_⟩
  · simp only [y3v]
    rw [y3y (by rw [ok.b]; exact hi)]
    split
    · rw [y3k e1, ok.bw i hi]
    · exact ok.bw j hj
  · simp only [y3v]
    rw [y3y (by rw [ok.a]; exact hi)]
    split
    · exact ya5 w ok hi
    · exact ok.aw j hj
  · simp only [y3v]
    rw [y3y (by rw [ok.h]; exact hi)]
    split
    · exact yk0 w ok hi
    · exact ok.hw j hj
theorem y1hb (j : Nat) : rowW (y3v f t i).b j = if j = i then y37 (rowW t.b i) (befT f t i) else rowW t.b j := y3y (by rw [ok.b]; exact hi)
theorem yef (j : Nat) : rowW (y3v f t i).a j = if j = i then aftT f t i else rowW t.a j := y3y (by rw [ok.a]; exact hi)
theorem yf5 (j : Nat) : rowW (y3v f t i).h j = if j = i then hanT f t i else rowW t.h j := y3y (by rw [ok.h]; exact hi)
theorem ynf (S : LvSnd f t) (r : Nat) (h : bit (aftT f t i) r = true) : y4a f (y1l f i) r := by
  rcases (y19s w ok hi r).1 h with h | ⟨to, ht, h⟩
  · exact S.a i hi r h
  · have hr := ypr w ok hi to ht
    have := S.b to.toNat (by omega) r h
    rw [show ((to.toNat : Nat) : Int) = to by omega] at this
    exact (y44 f).2 ⟨to, ht, hr.1, hr.2, this⟩
theorem ylg (S : LvSnd f t) (r : Nat) (h : bit (hanT f t i) r = true) : y4a f (yq f i) r := by
  rcases (y1im w ok hi r).1 h with h | ⟨to, ht, h⟩
  · exact S.h i hi r h
  · have hr := w.caught ht
    have := S.b to.toNat (by omega) r h
    rw [show ((to.toNat : Nat) : Int) = to by omega] at this
    exact (y44 f).2 ⟨to, ht, hr.1, hr.2, this⟩
theorem ym7 (S : LvSnd f t) (r : Nat) (h : bit (befT f t i) r = true) : y4a f [(i : Int)] r := by
  rw [y1ro f hi]
  rcases (y1gb w ok hi r).1 h with h | h | ⟨h, hd⟩
  · exact .inl h
  · exact .inr (.inl (ylg w ok hi S r h))
  · exact .inr (.inr ⟨hd, ynf w ok hi S r h⟩)
theorem yni (S : LvSnd f t) : LvSnd f (y3v f t i) := by
  refine ⟨fun j hj r h => ?_, fun j hj r h => ?_, fun j hj r h => ?_⟩
  · rw [y1hb w ok hi] at h
    split at h
    · rename_i e
      subst e
      rw [y8z (by rw [ok.bw j hj, ye4 w ok hj]), Bool.or_eq_true] at h
      rcases h with h | h
      · exact S.b j hj r h
      · exact ym7 w ok hj S r h
    · exact S.b j hj r h
  · rw [yef w ok hi] at h
    split at h
    · rename_i e
      subst e
      exact ynf w ok hj S r h
    · exact S.a j hj r h
  · rw [yf5 w ok hi] at h
    split at h
    · rename_i e
      subst e
      exact ylg w ok hj S r h
    · exact S.h j hj r h
theorem y0d (hm : ygp f t i = false) : (∀ j, rowW (y3v f t i).b j = rowW t.b j) ∧ Cl f (y3v f t i) i ∧ ∀ j, j ≠ i → Cl f t j → Cl f (y3v f t i) j := by
  have e1 : (rowW t.b i).length = (befT f t i).length := by rw [ok.bw i hi, ye4 w ok hi]
  have js := yln e1 hm
  have hb : ∀ j, rowW (y3v f t i).b j = rowW t.b j := fun j => by
    rw [y1hb w ok hi]
    split
    · rename_i e; rw [js, e]
    · rfl
  refine ⟨hb, ⟨fun to ht r h => ?_, fun to ht r h => ?_, fun r h => ?_⟩, fun j hj C => ⟨fun to ht r h => ?_, fun to ht r h => ?_, fun r h => ?_⟩⟩
  · rw [hb] at h
    rw [yef w ok hi, if_pos rfl, y19s w ok hi]
    exact .inr ⟨to, ht, h⟩
  · rw [hb] at h
    rw [yf5 w ok hi, if_pos rfl, y1im w ok hi]
    exact .inr ⟨to, ht, h⟩
  · rw [yf5 w ok hi, if_pos rfl, yef w ok hi, if_pos rfl] at h
    have := (y1gb w ok hi r).2 h
    rw [hb, ← js, y8z e1, this, Bool.or_true]
  · rw [hb] at h
    rw [yef w ok hi, if_neg hj]
    exact C.a to ht r h
  · rw [hb] at h
    rw [yf5 w ok hi, if_neg hj]
    exact C.h to ht r h
  · rw [yf5 w ok hi, if_neg hj, yef w ok hi, if_neg hj] at h
    rw [hb]
    exact C.b r h
end
section
variable {f : Fn} (w : Wf f)
include w
theorem ywk : ∀ (k : Nat) (t : Tb), k ≤ (lst f.code).length → TbOk (lst f.code).length ((lst f.regs).length / 64 + 1) t → LvSnd f t → TbOk (lst f.code).length ((lst f.regs).length / 64 + 1) (y2i f k t).1 ∧ LvSnd f (y2i f k t).1
  | 0, t, _, ok, S => ⟨ok, S⟩
  | k + 1, t, hk, ok, S => ywk k _ (by omega) (yjh w ok (by omega)) (yni w ok (by omega) S)
theorem ygt : ∀ (k : Nat) (t : Tb), k ≤ (lst f.code).length → TbOk (lst f.code).length ((lst f.regs).length / 64 + 1) t → (y2i f k t).2 = false → (∀ j, j < k → Cl f (y2i f k t).1 j) ∧ ∀ j, k ≤ j → Cl f t j → Cl f (y2i f k t).1 j
  | 0, t, _, _, _ => ⟨fun _ h => by omega, fun _ _ h => h⟩
  | k + 1, t, hk, ok, h => by
    rw [y2i, Bool.or_eq_false_iff] at h
    obtain ⟨_, c2, c3⟩ := y0d w ok (by omega) h.1
    obtain ⟨d1, d2⟩ := ygt k (y3v f t k) (by omega) (yjh w ok (by omega)) h.2
    refine ⟨fun j hj => ?_, fun j hj C => d2 j (by omega) (c3 j (by omega) C)⟩
    by_cases e : j = k
    · subst e; exact d2 j (Nat.le_refl _) c2
    · exact d1 j (by omega)
theorem yzw {t : Tb} (S : LvSnd f t) (C : ∀ i, i < (lst f.code).length → Cl f t i) {i : Nat} (hi : i < (lst f.code).length) (r : Nat) :
    (bit (rowW t.b i) r = true ↔ y4a f [(i : Int)] r) ∧ (bit (rowW t.a i) r = true ↔ y4a f (y1l f i) r) ∧ (bit (rowW t.h i) r = true ↔ y4a f (yq f i) r) := by
  have key : ∀ {i : Nat}, i < (lst f.code).length → y4a f [(i : Int)] r → bit (rowW t.b i) r = true := by
    intro i hi ⟨k, hk, hu⟩
    have h0 : bit (rowW t.b k) r = true := (C k hk.lt).b r (.inl hu)
    have back : ∀ {k : Nat}, Rch (lst f.code).length (ya7 f r) [(i : Int)] k → bit (rowW t.b k) r = true → bit (rowW t.b i) r = true := by
      intro k hk
      induction hk with
      | base hj j0 j1 =>
        rw [List.mem_singleton] at hj
        subst hj
        intro h; simpa using h
      | step hr hj j0 j1 ih =>
        intro h
        refine ih ?_
        have hlt := hr.lt
        rw [ya7, List.mem_append] at hj
        rcases hj with hj | hj
        · exact (C _ hlt).b r (.inr (.inl ((C _ hlt).h _ hj r h)))
        · split at hj
          · cases hj
          · rename_i hd
            exact (C _ hlt).b r (.inr (.inr ⟨(C _ hlt).a _ hj r h, hd⟩))
    exact back hk h0
  refine ⟨⟨S.b i hi r, key hi⟩, ⟨S.a i hi r, fun h => ?_⟩, ⟨S.h i hi r, fun h => ?_⟩⟩
  · obtain ⟨a, ha, a0, a1, h'⟩ := (y44 f).1 h
    rw [show a = ((a.toNat : Nat) : Int) by omega] at h'
    exact (C i hi).a a ha r (key (by omega) h')
  · obtain ⟨a, ha, a0, a1, h'⟩ := (y44 f).1 h
    rw [show a = ((a.toNat : Nat) : Int) by omega] at h'
    exact (C i hi).h a ha r (key (by omega) h')
def rowB (R : Nat) (s : Ws) : List Bool := (List.range R).map (bit s)
theorem yjx {R : Nat} {s : Ws} {r : Nat} (h : r < R) : (rowB R s)[r]? = some (bit s r) := by simp [rowB, h]
omit w in
theorem ydj (R : Nat) (s : Ws) : (rowB R s).length = R := by simp [rowB]
def tabB (R : Nat) (t : Tb) : Tab := t.b.map fun s => some (rowB R s)
def lpot (R : Nat) (t : Tb) : Nat := pot R (tabB R t)
theorem y19e {t : Tb} (ok : TbOk (lst f.code).length ((lst f.regs).length / 64 + 1) t) (S : LvSnd f t) {i : Nat} (hi : i < (lst f.code).length) :
    lpot (lst f.regs).length t ≤ lpot (lst f.regs).length (y3v f t i) ∧ (ygp f t i = true → lpot (lst f.regs).length t < lpot (lst f.regs).length (y3v f t i)) := by
  have e1 : (rowW t.b i).length = (befT f t i).length := by rw [ok.bw i hi, ye4 w ok hi]
  have hb : i < t.b.length := by rw [ok.b]; exact hi
  have hg : (tabB (lst f.regs).length t)[i]? = some (some (rowB (lst f.regs).length (rowW t.b i))) := by
    simp [tabB, rowW, List.getD_eq_getElem?_getD, List.getElem?_eq_getElem hb]
  have hs : tabB (lst f.regs).length (y3v f t i) = (tabB (lst f.regs).length t).set i (some (rowB (lst f.regs).length (y37 (rowW t.b i) (befT f t i)))) := by
    simp only [tabB, y3v, List.map_set]
  have hp := y1x3 (R := (lst f.regs).length) (y := some (rowB (lst f.regs).length (y37 (rowW t.b i) (befT f t i)))) hg
  rw [← hs] at hp
  simp only [wt] at hp
  have le : LeB (rowB (lst f.regs).length (rowW t.b i)) (rowB (lst f.regs).length (y37 (rowW t.b i) (befT f t i))) := by
    intro r hr
    have hlt : r < (lst f.regs).length := by have := (List.getElem?_eq_some_iff.1 hr).1; rw [ydj] at this; exact this
    rw [yjx w hlt] at hr ⊢
    injection hr with hr
    rw [y8z e1, hr, Bool.true_or]
  have hlen : (rowB (lst f.regs).length (y37 (rowW t.b i) (befT f t i))).length = (rowB (lst f.regs).length (rowW t.b i)).length := by rw [ydj, ydj]
  have strict : ygp f t i = true → (rowB (lst f.regs).length (rowW t.b i)).countP id < (rowB (lst f.regs).length (y37 (rowW t.b i) (befT f t i))).countP id := by
    intro hm
    obtain ⟨q, h1, h2⟩ := (y1b5 e1).1 hm
    have hq := y20e w (ym7 w ok hi S q h1)
    refine ytn hlen le ⟨q, ?_, ?_⟩
    · rw [yjx w hq, y8z e1, h1, Bool.or_true]
    · rw [yjx w hq, h2]
  have weak : (rowB (lst f.regs).length (rowW t.b i)).countP id ≤ (rowB (lst f.regs).length (y37 (rowW t.b i) (befT f t i))).countP id := by
    cases hm : ygp f t i with
    | true => exact Nat.le_of_lt (strict hm)
    | false => rw [yln e1 hm]; exact Nat.le_refl _
  unfold lpot
  exact ⟨by omega, fun hm => by have := strict hm; omega⟩
theorem yiq : ∀ (k : Nat) (t : Tb), k ≤ (lst f.code).length → TbOk (lst f.code).length ((lst f.regs).length / 64 + 1) t → LvSnd f t → lpot (lst f.regs).length t ≤ lpot (lst f.regs).length (y2i f k t).1 ∧ ((y2i f k t).2 = true → lpot (lst f.regs).length t < lpot (lst f.regs).length (y2i f k t).1)
  | 0, t, _, _, _ => ⟨Nat.le_refl _, fun h => by cases h⟩
  | k + 1, t, hk, ok, S => by
    obtain ⟨a1, a2⟩ := y19e w ok S (i := k) (by omega)
    obtain ⟨b1, b2⟩ := yiq k (y3v f t k) (by omega) (yjh w ok (i := k) (by omega)) (yni w ok (i := k) (by omega) S)
    rw [y2i]
    refine ⟨Nat.le_trans a1 b1, fun h => ?_⟩
    rw [Bool.or_eq_true] at h
    rcases h with h | h
    · exact Nat.lt_of_lt_of_le (a2 h) b1
    · exact Nat.lt_of_le_of_lt a1 (b2 h)
theorem y22f {t : Tb} (ok : TbOk (lst f.code).length ((lst f.regs).length / 64 + 1) t) : lpot (lst f.regs).length t ≤ (lst f.code).length * ((lst f.regs).length + 1) := by
  have key : ∀ (R : Nat) (l : List Ws), pot R (l.map fun s => some (rowB R s)) ≤ l.length * (R + 1) := by
    intro R l
    induction l with
    | nil => simp [pot]
    | cons a l ih =>
      have hc : (rowB R a).countP id ≤ (rowB R a).length := List.countP_le_length
      rw [ydj] at hc
      simp only [pot, List.map_cons, List.sum_cons, List.length_cons, Nat.add_mul, wt] at ih ⊢
      omega
  have := key (lst f.regs).length t.b
  rw [ok.b] at this
  exact this
theorem ybn : ∀ (k : Nat) (t : Tb), TbOk (lst f.code).length ((lst f.regs).length / 64 + 1) t → LvSnd f t → (lst f.code).length * ((lst f.regs).length + 1) < k + lpot (lst f.regs).length t →
    ∃ r, ybc f k t = some r ∧ TbOk (lst f.code).length ((lst f.regs).length / 64 + 1) r ∧ LvSnd f r ∧ ∀ i, i < (lst f.code).length → Cl f r i
  | 0, t, ok, _, h => by have := y22f w ok; omega
  | k + 1, t, ok, S, h => by
    obtain ⟨o2, s2⟩ := ywk w _ t (Nat.le_refl _) ok S
    obtain ⟨p1, p2⟩ := yiq w _ t (Nat.le_refl _) ok S
    rw [ybc]
    cases hm : (y2i f (lst f.code).length t).2 with
    | true =>
      rw [if_pos rfl]
      have := p2 hm
      exact ybn k _ o2 s2 (by omega)
    | false =>
      rw [if_neg Bool.false_ne_true]
      exact ⟨_, rfl, o2, s2, (ygt w _ t (Nat.le_refl _) ok hm).1⟩
def tb0 (f : Fn) : Tb := ⟨List.replicate (lst f.code).length (y21 ((lst f.regs).length / 64 + 1)), List.replicate (lst f.code).length (y21 ((lst f.regs).length / 64 + 1)), List.replicate (lst f.code).length (y21 ((lst f.regs).length / 64 + 1))⟩
omit w in
theorem yem {n i W : Nat} (h : i < n) : rowW (List.replicate n (y21 W)) i = y21 W := by
  simp [rowW, List.getD_eq_getElem?_getD, h]
omit w in
theorem y1tt : TbOk (lst f.code).length ((lst f.regs).length / 64 + 1) (tb0 f) := by
  refine ⟨by simp [tb0], by simp [tb0], by simp [tb0], fun i hi => ?_, fun i hi => ?_, fun i hi => ?_⟩ <;> (simp only [tb0]; rw [yem hi]; simp [y21])
omit w in
theorem y1hy : LvSnd f (tb0 f) := by
  refine ⟨fun i hi r h => ?_, fun i hi r h => ?_, fun i hi r h => ?_⟩ <;> (simp only [tb0] at h; rw [yem hi, y1s0] at h; cases h)
end
end Go.Vm
namespace Go.Vm
open Cel
instance : Cel (BitVec 64) := ⟨1, fun w => [.int .u64 w.toNat], fun _ => rfl, fun _ => rfl, fun _ => rfl⟩
@[simp] theorem y2fi (w : BitVec 64) : enc w = [.int .u64 w.toNat] := rfl
@[simp] theorem es_w : es (BitVec 64) = 1 := rfl
abbrev AW (g : Nat) (s : Ws) : AO := ⟨g, .arr false false 1 (s.map enc)⟩
theorem yy2 {n : Nat} (h : n < 18446744073709551616) : IntKind.wrap .u64 (n : Int) = (n : Int) := by
  simp [IntKind.wrap, IntKind.bits, IntKind.signed]; omega
theorem y1by (c : BitVec 64) : IntKind.wrap .u64 (c.toNat : Int) = (c.toNat : Int) := yy2 c.isLt
theorem yec (c : BitVec 64) : BitVec.ofInt 64 (c.toNat : Int) = c := by simp
theorem or_w (a b : BitVec 64) : y5 .or (.int .u64 a.toNat) (.int .u64 b.toNat) = some (.int .u64 (a ||| b).toNat) := by
  show some (AV.int .u64 (IntKind.wrap .u64 ((BitVec.ofInt 64 (a.toNat : Int) ||| BitVec.ofInt 64 (b.toNat : Int)).toNat : Int))) = _
  rw [yec, yec, y1by]
theorem ywl (a b : BitVec 64) : y5 .andNot (.int .u64 a.toNat) (.int .u64 b.toNat) = some (.int .u64 (a &&& ~~~ b).toNat) := by
  show some (AV.int .u64 (IntKind.wrap .u64 ((BitVec.ofInt 64 (a.toNat : Int) &&& ~~~ (BitVec.ofInt 64 (b.toNat : Int))).toNat : Int))) = _
  rw [yec, yec, y1by]
theorem y29i (a : BitVec 64) : y5 .neq (.int .u64 a.toNat) (.int .u64 0) = some (.bool (decide (a ≠ 0))) := by
  rw [y5q]
  have : ((a.toNat : Int) ≠ 0) ↔ a ≠ 0 := by
    constructor
    · intro h e; subst e; exact h rfl
    · intro h e
      exact h (BitVec.eq_of_toNat_eq (by simpa using e))
  rw [decide_eq_decide.2 this]
theorem y29g {r : Nat} (h : r < 64) : y5 .shl (.int .u64 1) (.int .i64 r) = some (.int .u64 (BitVec.twoPow 64 r).toNat) := by
  have h0 : ¬ (r : Int) < 0 := by omega
  have hm : min r 64 = r := by omega
  have hp : 2 ^ r < 2 ^ 64 := Nat.pow_lt_pow_right (by omega) h
  have e : (BitVec.twoPow 64 r).toNat = 2 ^ r := by rw [BitVec.toNat_twoPow, Nat.mod_eq_of_lt hp]
  rw [e]
  show (if (r : Int) < 0 then none else some (AV.int .u64 (IntKind.wrap .u64 (1 * 2 ^ (min (r : Int).toNat 64))))) = _
  rw [if_neg h0, Int.toNat_natCast, hm, Int.one_mul]
  have e2 : ((2 : Int) ^ r) = ((2 ^ r : Nat) : Int) := by simp
  rw [e2, yy2 hp]
theorem y2cc {r : Nat} (h : r < 64) (a : BitVec 64) : ∃ v w, y5 .shr (.int .u64 a.toNat) (.int .i64 r) = some v ∧ y5 .and v (.int .u64 1) = some w ∧ y5 .eql w (.int .u64 1) = some (.bool (a.getLsbD r)) := by
  have h0 : ¬ (r : Int) < 0 := by omega
  have hm : min r 64 = r := by omega
  refine ⟨.int .u64 ((a >>> r).toNat), .int .u64 ((a >>> r) &&& 1#64).toNat, ?_, ?_, ?_⟩
  · show (if (r : Int) < 0 then none else some (AV.int .u64 (Int.fdiv (a.toNat : Int) (2 ^ (min (r : Int).toNat 64))))) = _
    rw [if_neg h0, Int.toNat_natCast, hm]
    have e2 : ((2 : Int) ^ r) = ((2 ^ r : Nat) : Int) := by simp
    rw [e2, BitVec.toNat_ushiftRight, Nat.shiftRight_eq_div_pow, Int.fdiv_eq_ediv_of_nonneg _ (Int.natCast_nonneg _), Int.natCast_ediv]
  · show some (AV.int .u64 (IntKind.wrap .u64 ((BitVec.ofInt 64 (((a >>> r).toNat : Nat) : Int) &&& BitVec.ofInt 64 1).toNat : Int))) = _
    rw [yec, show BitVec.ofInt 64 1 = 1#64 from rfl, y1by]
  · rw [y3s]
    congr 2
    rw [BitVec.toNat_and, BitVec.toNat_ushiftRight, show (1#64).toNat = 1 from rfl, Nat.and_one_is_mod, Nat.shiftRight_eq_div_pow, BitVec.getLsbD, Nat.testBit_eq_decide_div_mod_eq]
    rw [decide_eq_decide]
    omega
theorem yki {r : Nat} (h : r < 9223372036854775808) : y5 .quo (.int .i64 r) (.int .i64 64) = some (.int .i64 ((r / 64 : Nat) : Int)) ∧ y5 .rem (.int .i64 r) (.int .i64 64) = some (.int .i64 ((r % 64 : Nat) : Int)) := by
  constructor
  · show (if (64 : Int) = 0 then none else some (AV.int .i64 (IntKind.wrap .i64 ((r : Int).tdiv 64)))) = _
    rw [if_neg (by omega), Int.tdiv_eq_ediv_of_nonneg (by omega), y1o (by omega) (by omega)]
    congr 2
  · show (if (64 : Int) = 0 then none else some (AV.int .i64 ((r : Int).tmod 64))) = _
    rw [if_neg (by omega), Int.tmod_eq_emod_of_nonneg (by omega)]
    congr 2
section
variable {H : Heap} {a ga : Nat} {s : Ws} (h : H[a]? = some (AW ga s))
include h
theorem y2au {r : Nat} (hr : r < 9223372036854775808) (hs : r / 64 < s.length) : y6 E (y8 E) 0 none false 86 [.ls a ga 1 0 s.length, .int .i64 r] H = some (.tup [], H.set a (AW ga (addW s r))) := by
  have hd : H ++ yl 0 = H := by simp [yl]
  have ecall : y6 E (y8 E) 0 none false 86 [.ls a ga 1 0 s.length, .int .i64 r] H = y1my H.length (.ls a ga 1 0 s.length) (.int .i64 r) (H ++ yl 0) := by
    rw [y6, if_neg (by simp), y2cx, if_pos rfl]
  obtain ⟨q1, q2⟩ := yki hr
  have ix := y9r (n := s.length) (p := ((r / 64 : Nat) : Int)) (by omega) (by omega) a ga .i64
  rw [Int.toNat_natCast] at ix
  have ld := yjv (α := BitVec 64) (H := H) (id := a) (g := ga) (i := r / 64) (v := .int .u64 (s.getD (r / 64) 0).toNat) h (by rw [List.getElem?_eq_getElem hs]) (by rw [List.getD_eq_getElem?_getD, List.getElem?_eq_getElem hs]; rfl)
  have st := y8c (α := BitVec 64) (H := H) (id := a) (g := ga) (i := r / 64) (L := s) (v := .int .u64 (s.getD (r / 64) 0 ||| BitVec.twoPow 64 (r % 64)).toNat) (y := s.getD (r / 64) 0 ||| BitVec.twoPow 64 (r % 64)) h hs rfl
  simp only [es_w] at st
  rw [ecall, hd]
  simp only [y1my, q1, q2, y9, ix, ld, y29g (Nat.mod_lt r (by omega : 64 > 0)), or_w, st, yr]
  rfl
theorem y24r {r : Nat} (hr : r < 9223372036854775808) (hs : r / 64 < s.length) : y6 E (y8 E) 0 none false 85 [.ls a ga 1 0 s.length, .int .i64 r] H = some (.tup [], H.set a (AW ga (y115 s r))) := by
  have hd : H ++ yl 0 = H := by simp [yl]
  have ecall : y6 E (y8 E) 0 none false 85 [.ls a ga 1 0 s.length, .int .i64 r] H = y1rg H.length (.ls a ga 1 0 s.length) (.int .i64 r) (H ++ yl 0) := by
    rw [y6, if_neg (by simp), y2cj, if_pos rfl]
  obtain ⟨q1, q2⟩ := yki hr
  have ix := y9r (n := s.length) (p := ((r / 64 : Nat) : Int)) (by omega) (by omega) a ga .i64
  rw [Int.toNat_natCast] at ix
  have ld := yjv (α := BitVec 64) (H := H) (id := a) (g := ga) (i := r / 64) (v := .int .u64 (s.getD (r / 64) 0).toNat) h (by rw [List.getElem?_eq_getElem hs]) (by rw [List.getD_eq_getElem?_getD, List.getElem?_eq_getElem hs]; rfl)
  have st := y8c (α := BitVec 64) (H := H) (id := a) (g := ga) (i := r / 64) (L := s) (v := .int .u64 (s.getD (r / 64) 0 &&& ~~~ BitVec.twoPow 64 (r % 64)).toNat) (y := s.getD (r / 64) 0 &&& ~~~ BitVec.twoPow 64 (r % 64)) h hs rfl
  simp only [es_w] at st
  rw [ecall, hd]
  simp only [y1rg, q1, q2, y9, ix, ld, y29g (Nat.mod_lt r (by omega : 64 > 0)), ywl, st, yr]
  rfl
end
theorem y05 {α : Type} {n k : Nat} {p q : Nat → α} {v : α} (hq : q k = v) (he : ∀ j, j ≠ k → q j = p j) : ((List.range n).map p).set k v = (List.range n).map q := by
  refine List.ext_getElem (by simp) fun i h1 h2 => ?_
  rw [List.getElem_set]
  simp only [List.getElem_map, List.getElem_range]
  split
  · rename_i e; rw [← e, hq]
  · rename_i e; rw [he i (fun h => e h.symm)]
def y8b (k : Nat) (s t : Ws) : Ws := (List.range s.length).map fun j => if j < k then s.getD j 0 ||| t.getD j 0 else s.getD j 0
def ypp (k : Nat) (s t : Ws) : Bool := (List.range k).any fun j => decide (t.getD j 0 &&& ~~~ s.getD j 0 ≠ 0)
theorem y1id (k : Nat) (s t : Ws) : (y8b k s t).length = s.length := by simp [y8b]
theorem y21x (s t : Ws) : y8b 0 s t = s := by
  refine List.ext_getElem (by simp [y8b]) fun i h1 h2 => ?_
  simp [y8b, h2]
theorem y1jq {k : Nat} {s t : Ws} {j : Nat} (h : j < s.length) : (y8b k s t)[j]? = some (if j < k then s.getD j 0 ||| t.getD j 0 else s.getD j 0) := by simp [y8b, h]
theorem y1bt {s t : Ws} (h : s.length = t.length) : y8b s.length s t = y37 s t := by
  refine List.ext_getElem (by simp [y8b, y37, h]) fun i h1 h2 => ?_
  have hi : i < s.length := by simpa [y8b] using h1
  have hi2 : i < t.length := by omega
  simp [y8b, y37, hi, hi2]
theorem y1ba {s t : Ws} (h : s.length = t.length) : ypp s.length s t = yco s t := by
  rw [Bool.eq_iff_iff, ypp, yco, List.any_eq_true, List.any_eq_true]
  constructor
  · rintro ⟨j, hj, hb⟩
    rw [List.mem_range] at hj
    refine ⟨true, List.mem_of_getElem? (i := j) ?_, rfl⟩
    rw [List.getElem?_zipWith, List.getElem?_eq_getElem hj, List.getElem?_eq_getElem (by omega)]
    simp only [List.getD_eq_getElem?_getD, List.getElem?_eq_getElem hj, List.getElem?_eq_getElem (show j < t.length by omega), Option.getD_some] at hb
    simp only [hb]
  · rintro ⟨b, hb, h1⟩
    obtain ⟨k, hk⟩ := List.getElem?_of_mem hb
    rw [List.getElem?_zipWith] at hk
    by_cases hlt : k < s.length
    · rw [List.getElem?_eq_getElem hlt, List.getElem?_eq_getElem (show k < t.length by omega)] at hk
      simp only [Option.some.injEq] at hk
      refine ⟨k, List.mem_range.2 hlt, ?_⟩
      simp only [List.getD_eq_getElem?_getD, List.getElem?_eq_getElem hlt, List.getElem?_eq_getElem (show k < t.length by omega), Option.getD_some]
      rw [hk]; exact h1
    · rw [List.getElem?_eq_none (by omega)] at hk
      simp at hk
theorem y1jk (k : Nat) (s t : Ws) : (y8b k s t).set k (s.getD k 0 ||| t.getD k 0) = y8b (k + 1) s t := by
  unfold y8b
  refine y05 ?_ fun j hj => ?_
  · rw [if_pos (by omega)]
  · by_cases h1 : j < k
    · rw [if_pos (by omega), if_pos h1]
    · rw [if_neg (by omega), if_neg h1]
theorem y02 (k : Nat) (s t : Ws) : ypp (k + 1) s t = (ypp k s t || decide (t.getD k 0 &&& ~~~ s.getD k 0 ≠ 0)) := by
  simp [ypp, List.range_succ]
theorem y18q (fb : Nat) {a ga b gb : Nat} {s t : Ws} (hl : s.length = t.length) (hn : s.length ≤ 9223372036854775806) (hab : a ≠ b) : ∀ (d k : Nat) (H : Heap), k + d = t.length → H[a]? = some (AW ga (y8b k s t)) → H[b]? = some (AW gb t) →
    yns fb (.ls a ga 1 0 s.length) (.bool (ypp k s t)) (.ls b gb 1 0 t.length) (.int .i64 t.length) (.int .i64 (k : Int)) H = some (.bool (yco s t), H.set a (AW ga (y37 s t))) := by
  intro d
  induction d with
  | zero =>
    intro k H hk ha hb
    have hk' : k = t.length := by omega
    subst hk'
    have hc : ¬ ((t.length : Int) < (t.length : Int)) := by omega
    rw [ylv]
    simp only [y190, yi, y9, hc, decide_false, y1du, y2u, y220]
    rw [← y1bt hl, ← y1ba hl, hl, ydr ha]
  | succ d ih =>
    intro k H hk ha hb
    have hlt : k < t.length := by omega
    have hls : k < s.length := by omega
    have hc : ((k : Int) < (t.length : Int)) := by omega
    have hw := y1j hlt (by omega)
    have ixA := y9r (n := s.length) (p := (k : Int)) (by omega) (by omega) a ga .i64
    have ixB := y9r (n := t.length) (p := (k : Int)) (by omega) (by omega) b gb .i64
    rw [Int.toNat_natCast] at ixA ixB
    have gA := y1jq (k := k) (t := t) hls
    rw [if_neg (Nat.lt_irrefl _)] at gA
    have lA := yjv (α := BitVec 64) (H := H) (id := a) (g := ga) (i := k) (v := .int .u64 (s.getD k 0).toNat) ha gA rfl
    have lB := yjv (α := BitVec 64) (H := H) (id := b) (g := gb) (i := k) (v := .int .u64 (t.getD k 0).toNat) hb (by rw [List.getElem?_eq_getElem hlt]) (by rw [List.getD_eq_getElem?_getD, List.getElem?_eq_getElem hlt]; rfl)
    have st := y8c (α := BitVec 64) (H := H) (id := a) (g := ga) (i := k) (L := y8b k s t) (v := .int .u64 (s.getD k 0 ||| t.getD k 0).toNat) (y := s.getD k 0 ||| t.getD k 0) ha (by rw [y1id]; exact hls) rfl
    rw [y1jk] at st
    simp only [es_w] at st
    have ih0 := ih (k + 1) (H.set a (AW ga (y8b (k + 1) s t))) (by omega) (y4e (y82 ha)) (by rw [y16 hab]; exact hb)
    rw [List.set_set, y02] at ih0
    push_cast at ih0
    rw [ylv]
    cases hm : ypp k s t with
    | true =>
      rw [hm, Bool.true_or] at ih0
      simp only [y190, yi, y9, hc, decide_true, y1du, y23, y1m6, ixB, lB, ypg, y28, ixA, lA, or_w, st, yr, y1so, yy, hw, ih0]
    | false =>
      rw [hm, Bool.false_or] at ih0
      simp only [y190, yi, y9, hc, decide_true, y1du, y23, y1m6, ixB, lB, ypb, y30, ixA, lA, ywl, y29i, or_w, st, yr, y1so, yy, hw]
      exact ih0
theorem y1j6 {H : Heap} {a ga b gb : Nat} {s t : Ws} (ha : H[a]? = some (AW ga s)) (hb : H[b]? = some (AW gb t)) (hl : s.length = t.length) (hn : s.length ≤ 9223372036854775806) (hab : a ≠ b) :
    y6 E (y8 E) 0 none false 84 [.ls a ga 1 0 s.length, .ls b gb 1 0 t.length] H = some (.bool (yco s t), H.set a (AW ga (y37 s t))) := by
  have hd : H ++ yl 0 = H := by simp [yl]
  rw [y6, if_neg (by simp), y2e8, if_pos rfl, hd]
  have lp := y18q H.length (ga := ga) (gb := gb) hl hn hab _ 0 H (Nat.zero_add _) (by rw [y21x]; exact ha) hb
  simp only [Int.ofNat_zero] at lp
  simp only [y18n, y1fb, y1wz, yju, y9]
  exact lp
end Go.Vm
namespace Go.Vm
open Cel
attribute [local simp] y6 y1n yj
@[simp] theorem y2ek (x : Ins) : (y8 E).p 24 [.agg (enc x)] = some ⟨.bool (ends x.op), [], true, [], []⟩ := by
  rw [y2dy, y225]
  by_cases h1 : x.op = 27
  · simp [h1, ends]
  by_cases h2 : x.op = 30
  · simp [h2, ends]
  by_cases h3 : x.op = 31 <;> simp [h1, h2, h3, ends]
@[simp] theorem y2da (x : Ins) : (y8 E).p 22 [.agg (enc x)] = some ⟨.bool (leads x.op), [], true, [], []⟩ := by
  rw [y2co, y1z7]
  by_cases h1 : x.op = 27
  · simp [h1, leads]
  by_cases h2 : x.op = 28
  · simp [h2, leads]
  by_cases h3 : x.op = 29 <;> simp [h1, h2, h3, leads]
@[simp] theorem ypl (x : Ins) : (y8 E).p 17 [.agg (enc x)] = some ⟨.bool (calls x.op), [], true, [], []⟩ := by
  rw [y2ar, y1wt]
  by_cases h1 : 23 ≤ x.op
  · by_cases h2 : x.op ≤ 26 <;> simp [h1, h2, calls]
  · simp [h1, calls]
end Go.Vm
namespace Go.Vm
open Cel
attribute [local simp] y6 y1n yj
@[simp] theorem y2ac (x : Ins) : (y8 E).p 18 [.agg (enc x)] = some ⟨.bool (throws x.op), [], true, [], []⟩ := by
  rw [y2dz]
  rcases yas x.op with h|h|h|h|h|h|h|h|h|h|h|h|h|h|h|h|h|h|h|h|h|h|h|h|h|h|h|h|h|h|h|h|h|h|h <;> first | (simp [h, throws, calls, y1ke]; done) | (simp [lo_f h, throws, calls, y1ke]; done) | simp [hi_f h, throws, calls, y1ke]
end Go.Vm
namespace Go.Vm
open Cel
attribute [local simp] y6 y1n yj
theorem y29b {α : Type} [Cel α] (o : Option (List α)) (i : Nat) (h : i ≤ (lst o).length) (k : IntKind) : ybb (es α) (slA o) none (some (.int k i)) = some (slA (o.map (List.take i))) := by
  have h2 : (0 : Int) ≤ (i : Int) ∧ (i : Int) ≤ ((lst o).length : Int) := by omega
  cases o with
  | none =>
    have : i = 0 := by simpa using h
    subst this
    simp [ybb, slA, yph, y9h, yl0]
  | some L =>
    simp only [y5h] at h2
    simp [ybb, slA, yph, y9h, yl0, h2, List.map_take]
theorem y0n (o : Option (List Int)) (r : Int) (hl : (lst o).length ≤ 9223372036854775807) (h : Heap) : ∀ (d i : Nat), i + d = (lst o).length →
    ∃ k : Int, ydu (slA o) (.int .i64 r) (.int .i64 (lst o).length) (.int .i64 i) h = some ⟨.int .i64 k, [], true, [], []⟩ ∧ (0 ≤ k ↔ r ∈ (lst o).drop i) := by
  intro d
  induction d with
  | zero =>
    intro i hi
    have e1 : (lst o).drop i = [] := List.drop_eq_nil_of_le (by omega)
    have hn : ¬ ((i : Int) < ((lst o).length : Int)) := by omega
    rw [yij, e1]
    exact ⟨-1, by simp [yhm, yil, yir, yh7, yj7, yi2, ycj, hn], by simp⟩
  | succ d ih =>
    intro i hi
    have hlt : i < (lst o).length := by omega
    have hn : ((i : Int) < ((lst o).length : Int)) := by omega
    have k1 := y55 (o := o) (i := i) (List.getElem?_eq_getElem hlt) .i64
    have hm : r ∈ (lst o).drop i ↔ r = (lst o)[i] ∨ r ∈ (lst o).drop (i + 1) := by rw [List.drop_eq_getElem_cons hlt, List.mem_cons]
    rw [yij, hm]
    by_cases he : r = (lst o)[i]
    · exact ⟨i, by simp [yhm, yil, yir, yh7, yj7, yi2, ycj, hn, k1, he], by simp [he]⟩
    · obtain ⟨k, h1, h2⟩ := ih (i + 1) (by omega)
      push_cast at h1
      refine ⟨k, ?_, ?_⟩
      · simp [yhm, yil, yir, yh7, yj7, yi2, ycj, hn, k1, he, y1j hlt hl, h1]
      · rw [h2]; simp [he]
@[simp] theorem y8v (o : Option (List Int)) (r : Int) (hl : (lst o).length ≤ 9223372036854775807) : (y8 E).p 46 [slA o, .int .i64 r] = some ⟨.bool ((lst o).contains r), [], true, [], []⟩ := by
  obtain ⟨k, h1, h2⟩ := y0n o r hl [] (lst o).length 0 (by omega)
  simp only [Int.ofNat_zero, List.drop_zero] at h1 h2
  have hi : (y8 E).p 45 [slA o, .int .i64 r] = some ⟨.int .i64 k, [], true, [], []⟩ := by
    rw [y282, ← h1]
    simp [yhm, yil, yir, yh7, yj7, yi2, ycj]
  rw [y27z]
  by_cases h0 : 0 ≤ k
  · have := h2.1 h0
    simp [yzb, hi, h0, this]
  · have : r ∉ lst o := fun h => h0 (h2.2 h)
    simp [yzb, hi, h0, this]
end Go.Vm
namespace Go.Vm
open Cel
attribute [local simp] y6 y1n yj
theorem ym9 (a b : Int) : (y8 E).p 46 [.rs 1 [[.int .i64 a]], .int .i64 b] = some ⟨.bool ([a].contains b), [], true, [], []⟩ := by
  have := y8v (some [a]) b (by simp)
  exact this
theorem y1ul (f : Fn) (i : Int) (hl : (lst f.code).length ≤ 9223372036854775807) : (y8 E).p 81 [.agg (enc f), .int .i64 i] = some (exO (nz (y1l f i))) := by
  rw [y2bs]
  by_cases h0 : i < 0
  · simp [ygm, ygl, ygr, y16o, y1eb, y1ka, y0e, h0, y1l, nz]; rfl
  by_cases h1 : ((lst f.code).length : Int) ≤ i
  · simp [ygm, ygl, ygr, y16o, y1eb, y1ka, y0e, h0, h1, y1l, nz]; rfl
  have g0 : 0 ≤ i := by omega
  have hx := y4m (f := f) (i := i.toNat) (by omega)
  have k1 := ydn (o := f.code) g0 hx .i64
  have hw := y1fo g0 (by omega) hl
  have hn : y1l f i = yps (yd f i.toNat) i := by rw [y1l, if_neg (by omega)]
  rw [hn]
  generalize yd f i.toNat = x at *
  have e : y0e (.agg (enc f)) (.int .i64 i) [⟨0, .dead⟩, ⟨0, .dead⟩, ⟨0, .dead⟩, ⟨0, .dead⟩, ⟨0, .dead⟩, ⟨0, .dead⟩] = ygr (.int .i64 i) (.lp 1 1 0 0) .nils [⟨1, .arr true false 5 [enc f]⟩, ⟨1, .arr true false 9 [enc x]⟩, ⟨0, .dead⟩, ⟨0, .dead⟩, ⟨0, .dead⟩, ⟨0, .dead⟩] := by
    simp [y0e, y1ka, y1eb, y16o, h0, h1, k1]
  rw [e, yps]
  cases he : ends x.op with
  | true =>
    cases hd : leads x.op with
    | false => simp [ygr, ygl, ygm, he, hd, nz]; rfl
    | true =>
      have := y8v none x.t (by simp)
      simp [ygr, ygl, ygm, he, hd, nz, slA] at this ⊢
      simp [this, yp, y15, y1y, addN]
      exact ycc (by simp)
  | false =>
    cases hd : leads x.op with
    | false =>
      simp [ygr, ygl, ygm, he, hd, hw, yp, y15, y1y]
      exact ycc (by simp)
    | true =>
      have hz : fz [⟨1, .arr true false 5 [enc f]⟩, ⟨1, .arr true false 9 [enc x]⟩, ⟨1, .arr false false 1 [[.int .i64 (i + 1)]]⟩, ⟨1, .arr false false 1 [[.int .i64 (i + 1)]]⟩, ⟨0, .dead⟩, ⟨0, .dead⟩] y18 (.ls 3 1 1 0 1) = some ⟨.rs 1 [[.int .i64 (i + 1)]], true, [3]⟩ := by
        rw [y1sx]; rfl
      generalize hxt : x.t = t at *
      by_cases hc : i + 1 = t
      · subst hc
        simp [ygr, ygl, ygm, he, hd, hw, yp, y15, y1y, hz, ym9, addN, hxt]
        exact ycc (by simp)
      · have hc' : ¬ t = i + 1 := fun h => hc h.symm
        simp [ygr, ygl, ygm, he, hd, hw, yp, y15, y1y, hz, ym9, hc, hc', addN, hxt]
        exact y11w (by simp)
theorem ypo (f : Fn) (i : Int) (hl : (lst f.rows).length ≤ 10000000000000) : ∀ (d k g : Nat) (L : List Int) (o1 o2 : AO), k + d = (lst f.rows).length → L.length ≤ k →
    ymz (.int .i64 i) (y1g Int 3 g L) (slA f.rows) (.int .i64 (lst f.rows).length) (.int .i64 k) [⟨1, .arr true false 5 [enc f]⟩, o1, o2, yz g D0 L] = some (exO (nz (y2t i ((lst f.rows).drop k) L))) := by
  intro d
  induction d with
  | zero =>
    intro k g L o1 o2 hk _
    have e1 : (lst f.rows).drop k = [] := List.drop_eq_nil_of_le (by omega)
    have hn : ¬ ((k : Int) < ((lst f.rows).length : Int)) := by omega
    have hx := yeh (H := [⟨1, .arr true false 5 [enc f]⟩, o1, o2, yz g D0 L]) (j := 3) (g := g) (o := D0) (L := L) rfl
    rw [yn8, e1]
    simp [ymd, yq1, y1ip, hn, y2t, hx]
  | succ d ih =>
    intro k g L o1 o2 hk hL
    have hlt : k < (lst f.rows).length := by omega
    have hc : ((k : Int) < ((lst f.rows).length : Int)) := by omega
    have k1 := you (o := f.rows) (i := k) (List.getElem?_eq_getElem hlt) .i64
    rw [yn8, List.drop_eq_getElem_cons hlt]
    generalize hr : (lst f.rows)[k] = r at *
    have ih0 := fun g L o1 o2 hL => ih (k + 1) g L o1 o2 (by omega) hL
    push_cast at ih0
    have hw := y1j hlt (by omega)
    have e11 : ymd (.int .i64 i) (y1g Int 3 g L) (slA f.rows) (.int .i64 (lst f.rows).length) (.int .i64 k) [⟨1, .arr true false 5 [enc f]⟩, o1, o2, yz g D0 L] =
        yp4 (.int .i64 i) (y1g Int 3 g L) (.lp 1 (o1.gen + 1) 0 0) (slA f.rows) (.int .i64 (lst f.rows).length) (.int .i64 k) [⟨1, .arr true false 5 [enc f]⟩, ⟨o1.gen + 1, .arr true false 4 [enc r]⟩, o2, yz g D0 L] := by
      simp [ymd, yq1, y1y9, hc, k1]
    rw [e11]
    generalize (o1.gen + 1) = g1
    by_cases h1 : i < r.f
    · have : ¬ (r.f ≤ i ∧ i < r.t) := by omega
      simp [yp4, y0x, h1, hw, y2t, this, ih0 g L _ _ (by omega)]
    by_cases h2 : r.t ≤ i
    · have : ¬ (r.f ≤ i ∧ i < r.t) := by omega
      simp [yp4, y0x, h1, h2, hw, y2t, this, ih0 g L _ _ (by omega)]
    have hin : r.f ≤ i ∧ i < r.t := by omega
    rw [y2t, if_pos hin]
    have hz : ∀ o2, fz [⟨1, .arr true false 5 [enc f]⟩, ⟨g1, .arr true false 4 [enc r]⟩, o2, yz g D0 L] y18 (y1g Int 3 g L) = some ⟨slA (nz L), true, ids1 (y1g Int 3 g L)⟩ := fun o2 => y1oc rfl
    have hct := y8v (nz L) r.at_ (by rw [yed]; omega)
    rw [yed] at hct
    have tail : ∀ g L o2, L.length ≤ k + 1 → y09 (.int .i64 i) (y1g Int 3 g L) (.lp 1 g1 0 0) (slA f.rows) (.int .i64 (lst f.rows).length) (.int .i64 k) [⟨1, .arr true false 5 [enc f]⟩, ⟨g1, .arr true false 4 [enc r]⟩, o2, yz g D0 L] =
        some (exO (nz (if r.c = [] then L else y2t i ((lst f.rows).drop (k + 1)) L))) := by
      intro g L o2 hL
      have hx := yeh (H := [⟨1, .arr true false 5 [enc f]⟩, ⟨g1, .arr true false 4 [enc r]⟩, o2, yz g D0 L]) (j := 3) (g := g) (o := D0) (L := L) rfl
      by_cases hcl : r.c = []
      · simp [y09, y1ip, hcl, hx]
      · simp [y09, y0x, hcl, hw, ih0 g L _ _ hL]
    unfold addN
    cases hb : L.contains r.at_ with
    | true =>
      rw [hb] at hct
      rw [if_pos rfl]
      have := tail g L o2 (by omega)
      simp [yp4, y1pi, h1, h2, hz, hct, this]
    | false =>
      rw [hb] at hct
      rw [if_neg Bool.false_ne_true]
      obtain ⟨g', ha⟩ := y20y (H := [⟨1, .arr true false 5 [enc f]⟩, ⟨g1, .arr true false 4 [enc r]⟩, ⟨o2.gen + 1, .arr false false 1 [[.int .i64 r.at_]]⟩, yz g D0 L]) (fb := 0) (j := 3) (g := g) (o := D0) (y := .ls 2 (o2.gen + 1) 1 0 1) (L := L) (n := r.at_) (by simp) rfl (by omega)
      have ha' : y1y 0 (some 3) 1 8 (y1g Int 3 g L) (.ls 2 (o2.gen + 1) 1 0 1) [⟨1, .arr true false 5 [enc f]⟩, ⟨g1, .arr true false 4 [enc r]⟩, ⟨o2.gen + 1, .arr false false 1 [[.int .i64 r.at_]]⟩, yz g D0 L] = some (y1g Int 3 g' (L ++ [r.at_]), [⟨1, .arr true false 5 [enc f]⟩, ⟨g1, .arr true false 4 [enc r]⟩, ⟨o2.gen + 1, .arr false false 1 [[.int .i64 r.at_]]⟩, yz g' D0 (L ++ [r.at_])]) := ha
      have := tail g' (L ++ [r.at_]) ⟨o2.gen + 1, .arr false false 1 [[.int .i64 r.at_]]⟩ (by simp; omega)
      simp [yp4, y1pi, h1, h2, hz, hct, yp, y15, ha', this]
theorem yqf (f : Fn) (i : Int) (hl : (lst f.rows).length ≤ 10000000000000) : (y8 E).p 79 [.agg (enc f), .int .i64 i] = some (exO (nz (yq f i))) := by
  rw [y2cb]
  by_cases h0 : i < 0
  · simp [yjb, yhj, h0, yq, nz]; rfl
  by_cases h1 : ((lst f.code).length : Int) ≤ i
  · simp [yjb, yhj, h0, h1, yq, nz]; rfl
  have g0 : 0 ≤ i := by omega
  have hx := y4m (f := f) (i := i.toNat) (by omega)
  have k1 := ydn (o := f.code) g0 hx .i64
  have hn : yq f i = if throws (yd f i.toNat).op then y2t i (lst f.rows) [] else [] := by rw [yq, if_neg (by omega)]
  rw [hn]
  generalize yd f i.toNat = x at *
  have lp := ypo f i hl _ 0 0 [] D0 D0 (Nat.zero_add _) (Nat.zero_le _)
  simp only [yar, ymi, List.drop_zero, Int.ofNat_zero] at lp
  cases ht : throws x.op with
  | false => simp [yjb, yhj, h0, h1, k1, ht, nz]; rfl
  | true => simp [yjb, yhj, y1ik, y1dp, h0, h1, k1, ht, lp]
end Go.Vm
namespace Go.Vm
open Cel
attribute [local simp] y6 y1n yj
theorem y28i (x : Ins) (h : x.op = 4 ∨ x.op = 6 ∨ x.op = 7 ∨ x.op = 8 ∨ x.op = 10 ∨ x.op = 12 ∨ x.op = 15 ∨ x.op = 16 ∨ x.op = 19 ∨ x.op = 21 ∨ x.op = 22 ∨ x.op = 31) : (y8 E).p 10 [.agg (enc x)] = some (exO (uses x)) := by
  rw [yoq]
  rcases h with h|h|h|h|h|h|h|h|h|h|h|h <;> (simp [h, uses, calls, reads, ya3, yb1, yb6, yam, yal, y8o, ybs, yax, ybe, y3p, y5g, y2j, y56, y5f, y58, yp, y15]; exact y2d (α := Int) (L := [x.a]) (by simp))
theorem y27w (x : Ins) (h : x.op = 5 ∨ x.op = 9 ∨ x.op = 11 ∨ x.op = 13 ∨ x.op = 17 ∨ x.op = 28) : (y8 E).p 10 [.agg (enc x)] = some (exO (uses x)) := by
  rw [yoq]
  rcases h with h|h|h|h|h|h <;> (simp [h, uses, calls, reads, ya3, yb1, yb6, yam, yal, y8o, ybs, yax, ybe, y3p, y5g, y2j, y56, y5f, y58, yp, y15]; exact y2d (α := Int) (L := [x.a, x.b]) (by simp))
theorem y25q (x : Ins) (h : x.op = 14) : (y8 E).p 10 [.agg (enc x)] = some (exO (uses x)) := by
  rw [yoq]
  simp [h, uses, calls, reads, ya3, yb1, yb6, yam, yal, y8o, ybs, yax, ybe, y3p, y5g, y2j, y56, y5f, y58, yp, y15]
  exact y2d (α := Int) (L := [x.a, x.b, x.c]) (by simp)
theorem y278 (x : Ins) (h : x.op = 23 ∨ x.op = 24 ∨ x.op = 25 ∨ x.op = 26) (hl : (lst x.args).length ≤ 17592186043904) : (y8 E).p 10 [.agg (enc x)] = some (exO (uses x)) := by
  rw [yoq]
  have e : uses x = x.args := by rcases h with h|h|h|h <;> simp [h, uses, calls]
  rw [e]
  have hc := y6a x.args hl
  cases ha : x.args with
  | none =>
    rw [ha] at hc
    rcases h with h|h|h|h <;> (simp [h, ya3, yb1, yb6, yam, yal, y8o, ybs, yax, ybe, y3p, y5g, y2j, y56, y5f, y58, ha, hc, exO, y1u, reloc, y6p, y1z]; done)
  | some L =>
    rw [ha] at hc
    rcases h with h|h|h|h <;> (simp [h, ya3, yb1, yb6, yam, yal, y8o, ybs, yax, ybe, y3p, y5g, y2j, y56, y5f, y58, ha, hc, y1u, y48, okOC, reloc, y6p, y1z, exO]; exact y2d (α := Int) (L := L) (by simp))
theorem y24l (x : Ins) (h : x.op = 29) : (y8 E).p 10 [.agg (enc x)] = some (exO (uses x)) := by
  rw [yoq]
  by_cases hb : x.b < 0
  · simp [hb, h, uses, calls, reads, ya3, yb1, yb6, yam, yal, y8o, ybs, yax, ybe, y3p, y5g, y2j, y56, y5f, y58, yp, y15]
    exact y2d (α := Int) (L := [x.a]) (by simp)
  · simp [hb, h, uses, calls, reads, ya3, yb1, yb6, yam, yal, y8o, ybs, yax, ybe, y3p, y5g, y2j, y56, y5f, y58, yp, y15]
    exact y2d (α := Int) (L := [x.a, x.b]) (by simp)
theorem y262 (x : Ins) (h : x.op = 30) : (y8 E).p 10 [.agg (enc x)] = some (exO (uses x)) := by
  rw [yoq]
  by_cases hb : 0 ≤ x.a
  · simp [hb, h, uses, calls, reads, ya3, yb1, yb6, yam, yal, y8o, ybs, yax, ybe, y3p, y5g, y2j, y56, y5f, y58, yp, y15]
    exact y2d (α := Int) (L := [x.a]) (by simp)
  · simp [hb, h, uses, calls, reads, ya3, yb1, yb6, yam, yal, y8o, ybs, yax, ybe, y3p, y5g, y2j, y56, y5f, y58, yp, y15, exO]
theorem y24t (x : Ins) (h : x.op = 1 ∨ x.op = 2 ∨ x.op = 3 ∨ x.op = 18 ∨ x.op = 20 ∨ x.op = 27 ∨ x.op = 32 ∨ x.op = 33 ∨ x.op < 1 ∨ 33 < x.op) : (y8 E).p 10 [.agg (enc x)] = some (exO (uses x)) := by
  rw [yoq]
  rcases h with h|h|h|h|h|h|h|h|h|h
  all_goals first | (simp [h, uses, calls, reads, ya3, yb1, yb6, yam, yal, y8o, ybs, yax, ybe, y3p, y5g, y2j, y56, y5f, y58, exO]; done) | (simp [lo_f h, uses, calls, reads, ya3, yb1, yb6, yam, yal, y8o, ybs, yax, ybe, y3p, y5g, y2j, y56, y5f, y58, exO]; done) | simp [hi_f h, uses, calls, reads, ya3, yb1, yb6, yam, yal, y8o, ybs, yax, ybe, y3p, y5g, y2j, y56, y5f, y58, exO]
theorem y24q (x : Ins) (hl : (lst x.args).length ≤ 17592186043904) : (y8 E).p 10 [.agg (enc x)] = some (exO (uses x)) := by
  by_cases h1 : x.op = 4 ∨ x.op = 6 ∨ x.op = 7 ∨ x.op = 8 ∨ x.op = 10 ∨ x.op = 12 ∨ x.op = 15 ∨ x.op = 16 ∨ x.op = 19 ∨ x.op = 21 ∨ x.op = 22 ∨ x.op = 31
  · exact y28i x h1
  by_cases h2 : x.op = 5 ∨ x.op = 9 ∨ x.op = 11 ∨ x.op = 13 ∨ x.op = 17 ∨ x.op = 28
  · exact y27w x h2
  by_cases h4 : x.op = 23 ∨ x.op = 24 ∨ x.op = 25 ∨ x.op = 26
  · exact y278 x h4 hl
  by_cases h5 : x.op = 29
  · exact y24l x h5
  by_cases h6 : x.op = 30
  · exact y262 x h6
  by_cases h3 : x.op = 14
  · exact y25q x h3
  exact y24t x (by omega)
end Go.Vm
namespace Go.Vm
open Cel
attribute [local simp] y6 y1n yj
@[simp] theorem y2bh (x : Ins) : (y8 E).p 9 [.agg (enc x)] = some ⟨.int .i64 (defr x), [], true, [], []⟩ := by
  rw [y2do]
  rcases yas x.op with h|h|h|h|h|h|h|h|h|h|h|h|h|h|h|h|h|h|h|h|h|h|h|h|h|h|h|h|h|h|h|h|h|h|h <;> first | (simp [h, defr, writes, calls, y17w, y1lc, y7v, y1cq, y1aa, y19w]; done) | (simp [lo_f h, defr, writes, calls, y17w, y1lc, y7v, y1cq, y1aa, y19w]; done) | simp [hi_f h, defr, writes, calls, y17w, y1lc, y7v, y1cq, y1aa, y19w]
end Go.Vm
namespace Go.Vm
open Cel
def tk (t : Tb) : Nat → List Ws
  | 0 => t.b
  | 1 => t.a
  | _ => t.h
def setk (t : Tb) (k i : Nat) (x : Ws) : Tb := match k with
  | 0 => ⟨t.b.set i x, t.a, t.h⟩
  | 1 => ⟨t.b, t.a.set i x, t.h⟩
  | _ => ⟨t.b, t.a, t.h.set i x⟩
abbrev Plc := Nat → Nat → Nat × Nat
abbrev Arr := Nat → Nat × Nat
def yll (P : Plc) (W k n : Nat) : List (List AV) := (List.range n).map fun i => [.ls (P k i).1 (P k i).2 1 0 W]
structure LvRep (f : Fn) (P : Plc) (Q : Arr) (H : Heap) (t : Tb) : Prop where
  box : H[0]? = some (AB f)
  tb : H[1]? = some ⟨1, .arr true false 4 [[.ls (Q 0).1 (Q 0).2 1 0 (lst f.code).length, .ls (Q 1).1 (Q 1).2 1 0 (lst f.code).length, .ls (Q 2).1 (Q 2).2 1 0 (lst f.code).length, .int .i64 (lst f.regs).length]]⟩
  arr : ∀ k, k < 3 → H[(Q k).1]? = some ⟨(Q k).2, .arr false false 1 (yll P ((lst f.regs).length / 64 + 1) k (lst f.code).length)⟩
  row : ∀ k, k < 3 → ∀ i, i < (lst f.code).length → H[(P k i).1]? = some (AW (P k i).2 (rowW (tk t k) i))
  inj : ∀ k k' i i', k < 3 → k' < 3 → i < (lst f.code).length → i' < (lst f.code).length → (P k i).1 = (P k' i').1 → k = k' ∧ i = i'
  off : ∀ k k' i, k < 3 → k' < 3 → i < (lst f.code).length → (P k i).1 ≠ (Q k').1
  farP : ∀ k i, k < 3 → i < (lst f.code).length → 3 ≤ (P k i).1
  farQ : ∀ k, k < 3 → 3 ≤ (Q k).1
  injQ : ∀ k k', k < 3 → k' < 3 → (Q k).1 = (Q k').1 → k = k'
  size : 3 ≤ H.length
  ok : TbOk (lst f.code).length ((lst f.regs).length / 64 + 1) t
section
variable {f : Fn} {P : Plc} {Q : Arr} {H : Heap} {t : Tb} (L : LvRep f P Q H t)
include L
theorem LvRep.len {k i : Nat} (hk : k < 3) (hi : i < (lst f.code).length) : (rowW (tk t k) i).length = (lst f.regs).length / 64 + 1 := by
  match k, hk with
  | 0, _ => exact L.ok.bw i hi
  | 1, _ => exact L.ok.aw i hi
  | 2, _ => exact L.ok.hw i hi
theorem LvRep.slot (x : AO) : LvRep f P Q (H.set 2 x) t := by
  refine ⟨?_, ?_, fun k hk => ?_, fun k hk i hi => ?_, L.inj, L.off, L.farP, L.farQ, L.injQ, by rw [List.length_set]; exact L.size, L.ok⟩
  · rw [y16 (by omega)]; exact L.box
  · rw [y16 (by omega)]; exact L.tb
  · have := L.farQ k hk
    rw [y16 (by omega)]; exact L.arr k hk
  · have := L.farP k i hk hi
    rw [y16 (by omega)]; exact L.row k hk i hi
theorem LvRep.put {k i : Nat} (hk : k < 3) (hi : i < (lst f.code).length) {x : Ws} (hx : x.length = (lst f.regs).length / 64 + 1) : LvRep f P Q (H.set (P k i).1 (AW (P k i).2 x)) (setk t k i x) := by
  have fp := L.farP k i hk hi
  have hrow : ∀ k' j, k' < 3 → j < (lst f.code).length → rowW (tk (setk t k i x) k') j = if k' = k ∧ j = i then x else rowW (tk t k') j := by
    intro k' j hk' hj
    match k, hk, k', hk' with
    | 0, _, 0, _ => simp only [setk, tk]; rw [y3y (by rw [L.ok.b]; exact hi)]; simp
    | 1, _, 1, _ => simp only [setk, tk]; rw [y3y (by rw [L.ok.a]; exact hi)]; simp
    | 2, _, 2, _ => simp only [setk, tk]; rw [y3y (by rw [L.ok.h]; exact hi)]; simp
    | 0, _, 1, _ => simp [setk, tk]
    | 0, _, 2, _ => simp [setk, tk]
    | 1, _, 0, _ => simp [setk, tk]
    | 1, _, 2, _ => simp [setk, tk]
    | 2, _, 0, _ => simp [setk, tk]
    | 2, _, 1, _ => simp [setk, tk]
  have hlen : ∀ k' j, k' < 3 → j < (lst f.code).length → (rowW (tk (setk t k i x) k') j).length = (lst f.regs).length / 64 + 1 := by
    intro k' j hk' hj
    rw [hrow k' j hk' hj]
    split
    · exact hx
    · exact L.len hk' hj
  refine ⟨?_, ?_, fun k' hk' => ?_, fun k' hk' j hj => ?_, L.inj, L.off, L.farP, L.farQ, L.injQ, by rw [List.length_set]; exact L.size, ?_⟩
  · rw [y16 (by omega)]; exact L.box
  · rw [y16 (by omega)]; exact L.tb
  · rw [y16 (L.off k k' i hk hk' hi)]; exact L.arr k' hk'
  · rw [hrow k' j hk' hj]
    by_cases e : k' = k ∧ j = i
    · obtain ⟨e1, e2⟩ := e
      subst e1; subst e2
      rw [if_pos ⟨rfl, rfl⟩]
      exact y4e (y82 (L.row k' hk j hi))
    · rw [if_neg e, y16 (fun h => e (by
        obtain ⟨a, b⟩ := L.inj k k' i j hk hk' hi hj h
        exact ⟨a.symm, b.symm⟩))]
      exact L.row k' hk' j hj
  · refine ⟨?_, ?_, ?_, fun j hj => hlen 0 j (by omega) hj, fun j hj => hlen 1 j (by omega) hj, fun j hj => hlen 2 j (by omega) hj⟩
    · match k, hk with
      | 0, _ => simp only [setk, List.length_set]; exact L.ok.b
      | 1, _ => exact L.ok.b
      | 2, _ => exact L.ok.b
    · match k, hk with
      | 0, _ => exact L.ok.a
      | 1, _ => simp only [setk, List.length_set]; exact L.ok.a
      | 2, _ => exact L.ok.a
    · match k, hk with
      | 0, _ => exact L.ok.h
      | 1, _ => exact L.ok.h
      | 2, _ => simp only [setk, List.length_set]; exact L.ok.h
theorem LvRep.fld {k : Nat} (hk : k < 3) : evLd false 1 (.lp 1 1 0 k) H = some (.ls (Q k).1 (Q k).2 1 0 (lst f.code).length) := by
  have hr : ym H 1 1 = some (false, 4, [[.ls (Q 0).1 (Q 0).2 1 0 (lst f.code).length, .ls (Q 1).1 (Q 1).2 1 0 (lst f.code).length, .ls (Q 2).1 (Q 2).2 1 0 (lst f.code).length, .int .i64 (lst f.regs).length]]) := by simp [ym, y2z, L.tb]
  rw [y2n, hr]
  match k, hk with
  | 0, _ => rfl
  | 1, _ => rfl
  | 2, _ => rfl
theorem LvRep.at {k i : Nat} (hk : k < 3) (hi : i < (lst f.code).length) : evLd false 1 (.lp (Q k).1 (Q k).2 i 0) H = some (.ls (P k i).1 (P k i).2 1 0 ((lst f.regs).length / 64 + 1)) :=
  y24w (L.arr k hk) (by simp [yll, hi])
theorem LvRep.join {k k' i j : Nat} (hk : k < 3) (hi : i < (lst f.code).length) (hk' : k' < 3) (hj : j < (lst f.code).length) (hR : (lst f.regs).length ≤ 20000) (hne : k ≠ k') :
    y6 E (y8 E) 0 none false 84 [.ls (P k i).1 (P k i).2 1 0 ((lst f.regs).length / 64 + 1), .ls (P k' j).1 (P k' j).2 1 0 ((lst f.regs).length / 64 + 1)] H =
      some (.bool (yco (rowW (tk t k) i) (rowW (tk t k') j)), H.set (P k i).1 (AW (P k i).2 (y37 (rowW (tk t k) i) (rowW (tk t k') j)))) := by
  have h1 := L.len hk hi
  have h2 := L.len hk' hj
  have := y1j6 (L.row k hk i hi) (L.row k' hk' j hj) (by rw [h1, h2]) (by rw [h1]; omega) (fun e => hne (L.inj k k' i j hk hk' hi hj e).1)
  rw [h1, h2] at this
  exact this
end
theorem yhy {f : Fn} {P : Plc} {Q : Arr} (hR : (lst f.regs).length ≤ 20000) {k i : Nat} (hk : k < 3) (hk0 : k ≠ 0) (hi : i < (lst f.code).length) {l : List Int} (hl : ∀ to ∈ l, 0 ≤ to ∧ to < ((lst f.code).length : Int)) (G : Nat → Heap → Option (Ex AV))
    (step : ∀ m to H t, l[m]? = some to → LvRep f P Q H t → G m H = oh (y6 E (y8 E) 0 none false 84 [.ls (P k i).1 (P k i).2 1 0 ((lst f.regs).length / 64 + 1), .ls (P 0 to.toNat).1 (P 0 to.toNat).2 1 0 ((lst f.regs).length / 64 + 1)] H) fun _ H' => G (m + 1) H') :
    ∀ (d m : Nat) (H : Heap) (t : Tb), m + d = l.length → LvRep f P Q H t →
    ∃ H', G m H = G l.length H' ∧ LvRep f P Q H' (setk t k i (joins t.b (l.drop m) (rowW (tk t k) i))) := by
  intro d
  induction d with
  | zero =>
    intro m H t hm L
    have e : l.drop m = [] := List.drop_eq_nil_of_le (by omega)
    have hm' : m = l.length := by omega
    rw [e, hm']
    refine ⟨H, rfl, ?_⟩
    have : setk t k i (joins t.b [] (rowW (tk t k) i)) = t := by
      have hs : ∀ (l : List Ws), i < l.length → l.set i (rowW l i) = l := fun l h => by
        refine List.ext_getElem (by simp) fun j h1 h2 => ?_
        rw [List.getElem_set]
        split
        · rename_i e; subst e; simp [rowW, List.getD_eq_getElem?_getD, List.getElem?_eq_getElem h]
        · rfl
      match k, hk with
      | 0, _ => simp only [setk, tk, joins, List.foldl_nil]; rw [hs _ (by rw [L.ok.b]; exact hi)]
      | 1, _ => simp only [setk, tk, joins, List.foldl_nil]; rw [hs _ (by rw [L.ok.a]; exact hi)]
      | 2, _ => simp only [setk, tk, joins, List.foldl_nil]; rw [hs _ (by rw [L.ok.h]; exact hi)]
    rw [this]; exact L
  | succ d ih =>
    intro m H t hm L
    have hlt : m < l.length := by omega
    have hto := hl _ (List.getElem_mem hlt)
    have st := step m _ H t (List.getElem?_eq_getElem hlt) L
    rw [List.drop_eq_getElem_cons hlt]
    generalize l[m] = to at *
    have hj : to.toNat < (lst f.code).length := by omega
    have h1 := L.len hk hi
    have h2 := L.len (k := 0) (by omega) hj
    rw [L.join hk hi (by omega) hj hR hk0, yr] at st
    have L2 := L.put hk hi (x := y37 (rowW (tk t k) i) (rowW (tk t 0) to.toNat)) (by rw [y3k (by rw [h1, h2]), h1])
    obtain ⟨H', e, L3⟩ := ih (m + 1) _ _ (by omega) L2
    refine ⟨H', by rw [st, e], ?_⟩
    have eb : (setk t k i (y37 (rowW (tk t k) i) (rowW (tk t 0) to.toNat))).b = t.b := by
      match k, hk, hk0 with
      | 1, _, _ => rfl
      | 2, _, _ => rfl
    have er : rowW (tk (setk t k i (y37 (rowW (tk t k) i) (rowW (tk t 0) to.toNat))) k) i = y37 (rowW (tk t k) i) (rowW t.b to.toNat) := by
      match k, hk, hk0 with
      | 1, _, _ => simp only [setk, tk]; rw [y3y (by rw [L.ok.a]; exact hi), if_pos rfl]
      | 2, _, _ => simp only [setk, tk]; rw [y3y (by rw [L.ok.h]; exact hi), if_pos rfl]
    have ess : ∀ y x, setk (setk t k i y) k i x = setk t k i x := fun y x => by
      match k, hk with
      | 0, _ => simp [setk]
      | 1, _ => simp [setk]
      | 2, _ => simp [setk]
    rw [eb, er, ess] at L3
    exact L3
end Go.Vm
namespace Go.Vm
open Cel
theorem y1b8 {f : Fn} {H : Heap} (h : H[0]? = some (AB f)) : evLd true 5 (.lp 0 1 0 0) H = some (.agg (enc f)) := by
  have hr : ym H 0 1 = some (false, 5, [enc f]) := by simp [ym, y2z, h]
  simp [y2n, hr]
theorem ytp {f : Fn} {H : Heap} (h : H[0]? = some (AB f)) : evLd false 1 (.lp 0 1 0 3) H = some (slA f.code) := by
  have hr : ym H 0 1 = some (false, 5, [enc f]) := by simp [ym, y2z, h]
  simp [y2n, hr]
theorem y1um (f : Fn) (i : Int) (H : Heap) : yn (fz H y18) [.agg (enc f), .int .i64 i] = some ⟨[.agg (enc f), .int .i64 i], scal f && (true && true), []⟩ := by
  rw [yh, yh, y8f, yc2, yx]; rfl
theorem y241 (x : Ins) (H : Heap) : yn (fz H y18) [.agg (enc x)] = some ⟨[.agg (enc x)], scal x && true, []⟩ := by
  rw [yh, y8f, yx]; rfl
theorem y1we {s : Ws} (h : 1 ≤ s.length) : (s.map enc).isEmpty = false := by
  cases s with
  | nil => simp at h
  | cons a s => rfl
theorem y22l {H : Heap} {id g j : Nat} {o : AO} {s : Ws} (h : H[id]? = some (AW g s)) (ho : H[j]? = some o) (h1 : 1 ≤ s.length) (h2 : s.length ≤ 1000000) :
    y1y 0 (some j) 1 8 .nils (.ls id g 1 0 s.length) H = some (.ls j (o.gen + 1) 1 0 s.length, H.set j (AW (o.gen + 1) s)) := by
  have hy := ypm (α := BitVec 64) h
  simp only [es_w] at hy
  have hb : s.length * 8 ≤ 2 ^ 48 := by omega
  unfold y1y
  rw [hy]
  simp only [y1we h1, List.length_map, hb, if_true, Bool.false_eq_true, if_false, y36, place, Nat.zero_add, ho]
theorem y1b7 {W : Nat} {o : Option (List Int)} (hl : (lst o).length ≤ 9223372036854775806) (hu : ∀ u ∈ lst o, 0 ≤ u ∧ u < 20000 ∧ u.toNat / 64 < W) (v1 v3 v5 v6 v7 : AV) (g : Nat) : ∀ (d m : Nat) (H : Heap) (s : Ws), m + d = (lst o).length → H[2]? = some (AW g s) → s.length = W →
    ylh v1 v3 v5 v6 v7 (.ls 2 g 1 0 W) (slA o) (.int .i64 (lst o).length) (.int .i64 (m : Int)) H = y11g v1 v3 v5 v6 v7 (.ls 2 g 1 0 W) (H.set 2 (AW g (adds ((lst o).drop m) s))) := by
  intro d
  induction d with
  | zero =>
    intro m H s hm hs hW
    have hm' : m = (lst o).length := by omega
    have e : (lst o).drop m = [] := List.drop_eq_nil_of_le (by omega)
    have hc : ¬ ((m : Int) < ((lst o).length : Int)) := by omega
    rw [e, yl4]
    have ha : adds [] s = s := rfl
    simp only [yus, yi, y9, hc, decide_false, y1rs, y2u, ha, ydr hs]
  | succ d ih =>
    intro m H s hm hs hW
    have hlt : m < (lst o).length := by omega
    have hc : ((m : Int) < ((lst o).length : Int)) := by omega
    have hw := y1j hlt (by omega)
    have kx := y55 (List.getElem?_eq_getElem hlt) .i64
    have hu1 := hu _ (List.getElem_mem hlt)
    rw [List.drop_eq_getElem_cons hlt, yl4]
    generalize (lst o)[m] = u at *
    have lx : ∀ t : Heap, evLd false 1 (.rp [.int .i64 u]) t = some (.int .i64 u) := fun t => by simp
    have eu : ((u.toNat : Nat) : Int) = u := by omega
    have ad := y2au (H := H) hs (r := u.toNat) (by omega) (by omega)
    rw [eu, hW] at ad
    have ih1 := ih (m + 1) (H.set 2 (AW g (addW s u.toNat))) (addW s u.toNat) (by omega) (y4e (y82 hs)) (by rw [yjr, hW])
    rw [List.set_set] at ih1
    push_cast at ih1
    have ha : adds (u :: (lst o).drop (m + 1)) s = adds ((lst o).drop (m + 1)) (addW s u.toNat) := rfl
    rw [ha]
    simp only [yus, yi, y9, hc, decide_true, y1rs, y23, y1z9, kx, lx, ad, yr, y22w, yy, hw, ih1]
section
variable {f : Fn} (w : Wf f) (hr : (lst f.rows).length ≤ 10000000000000) (hx : ∀ x ∈ lst f.code, (lst x.args).length ≤ 17592186043904) {P : Plc} {Q : Arr}
include w hr hx
set_option maxHeartbeats 1000000 in
theorem y1o9 {i : Nat} (hi : i < (lst f.code).length) (m : Bool) (H : Heap) (t : Tb) (L : LvRep f P Q H t) :
    ∃ H', ye7 (.lp 0 1 0 0) (.int .i64 (lst f.code).length) (.lp 1 1 0 0) (.bool m) (.int .i64 (i : Int)) H =
      y1th (.lp 0 1 0 0) (.int .i64 (lst f.code).length) (.lp 1 1 0 0) (.bool (ygp f t i || m)) (.int .i64 (i : Int)) H' ∧ LvRep f P Q H' (y3v f t i) := by
  have hn := w.n2
  have hR := w.regs
  have hge : (0 : Int) ≤ (i : Int) := by omega
  have cN : ∀ H, y6 E (y8 E) 0 none true 81 [.agg (enc f), .int .i64 (i : Int)] H = some (slA (nz (y1l f i)), H) := fun H => y1p rfl (y1um f i H) rfl (y1ul f i (by omega)) ⟨_, yqm _, rfl⟩
  have cC : ∀ H, y6 E (y8 E) 0 none true 79 [.agg (enc f), .int .i64 (i : Int)] H = some (slA (nz (yq f i)), H) := fun H => y1p rfl (y1um f i H) rfl (yqf f i (by omega)) ⟨_, yqm _, rfl⟩
  have cD : ∀ H, y6 E (y8 E) 0 none true 9 [.agg (enc (yd f i))] H = some (.int .i64 (defr (yd f i)), H) := fun H => y1p rfl (y241 _ H) rfl (y2bh _) ⟨_, rfl, rfl⟩
  have hxa := hx _ (List.mem_of_getElem? (y4m hi))
  have cU : ∀ H, y6 E (y8 E) 0 none true 10 [.agg (enc (yd f i))] H = some (slA (uses (yd f i)), H) := fun H => y1p rfl (y241 _ H) rfl (y24q _ hxa) ⟨_, yqm _, rfl⟩
  have lN := yek f i
  have lC := w.caught_len i
  have nc : ∀ a b c d, y1e (.lp a b c d) = some (.lp a b c d) := fun _ _ _ _ => rfl
  have ixQ : ∀ (k : Nat) (j : Int), 0 ≤ j → j < (lst f.code).length → yv 1 (.ls (Q k).1 (Q k).2 1 0 (lst f.code).length) (.int .i64 j) = some (.lp (Q k).1 (Q k).2 j.toNat 0) := fun k j h0 h1 => y9r h0 h1 _ _ .i64
  -- behind it
  obtain ⟨H1, e1, L1⟩ := yhy (f := f) (P := P) (Q := Q) hR (k := 1) (i := i) (by omega) (by omega) hi (l := y1l f i) (fun to h => w.next hi h)
    (fun q H => y9w (.lp 0 1 0 0) (.int .i64 (lst f.code).length) (.lp 1 1 0 0) (.bool m) (.int .i64 (i : Int)) (slA (nz (y1l f i))) (.int .i64 (y1l f i).length) (.int .i64 (q : Int)) H)
    (fun q to H t hk L => by
      have hlt := (List.getElem?_eq_some_iff.1 hk).1
      have hto := w.next hi (List.mem_of_getElem? hk)
      have hc : ((q : Int) < ((y1l f i).length : Int)) := by omega
      have hw2 := y1j hlt (by omega)
      have kx := y55 (o := nz (y1l f i)) (i := q) (by rw [yed]; exact hk) .i64
      have lx : ∀ t : Heap, evLd false 1 (.rp [.int .i64 to]) t = some (.int .i64 to) := fun t => by simp
      have a1 := L.fld (k := 1) (by omega)
      have a0 := L.fld (k := 0) (by omega)
      have b1 := L.at (k := 1) (i := i) (by omega) hi
      have b0 := L.at (k := 0) (i := to.toNat) (by omega) (by omega)
      have i1 := ixQ 1 (i : Int) (by omega) (by omega)
      have i0 := ixQ 0 to hto.1 hto.2
      rw [Int.toNat_natCast] at i1
      rw [yh4]
      simp only [yy8, yi, y9, hc, decide_true, yxg, y23, y1d3, kx, lx, nc, y1c, Nat.zero_add, a1, i1, b1, a0, i0, b0, y1ir, yy, hw2]
      rfl)
    _ 0 H t (Nat.zero_add _) L
  rw [List.drop_zero] at L1
  simp only [Int.ofNat_zero] at e1
  -- where it is caught
  obtain ⟨H2, e2, L2⟩ := yhy (f := f) (P := P) (Q := Q) hR (k := 2) (i := i) (by omega) (by omega) hi (l := yq f i) (fun to h => w.caught h)
    (fun q H => y9v (.lp 0 1 0 0) (.int .i64 (lst f.code).length) (.lp 1 1 0 0) (.bool m) (.int .i64 (i : Int)) (slA (nz (yq f i))) (.int .i64 (yq f i).length) (.int .i64 (q : Int)) H)
    (fun q to H t hk L => by
      have hlt := (List.getElem?_eq_some_iff.1 hk).1
      have hto := w.caught (List.mem_of_getElem? hk)
      have hc : ((q : Int) < ((yq f i).length : Int)) := by omega
      have hw2 := y1j hlt (by omega)
      have kx := y55 (o := nz (yq f i)) (i := q) (by rw [yed]; exact hk) .i64
      have lx : ∀ t : Heap, evLd false 1 (.rp [.int .i64 to]) t = some (.int .i64 to) := fun t => by simp
      have a1 := L.fld (k := 2) (by omega)
      have a0 := L.fld (k := 0) (by omega)
      have b1 := L.at (k := 2) (i := i) (by omega) hi
      have b0 := L.at (k := 0) (i := to.toNat) (by omega) (by omega)
      have i1 := ixQ 2 (i : Int) (by omega) (by omega)
      have i0 := ixQ 0 to hto.1 hto.2
      rw [Int.toNat_natCast] at i1
      rw [yib]
      simp only [yt7, yi, y9, hc, decide_true, ysh, y23, y16r, kx, lx, nc, y1c, Nat.zero_add, a1, i1, b1, a0, i0, b0, y1i3, yy, hw2]
      rfl)
    _ 0 H1 _ (Nat.zero_add _) L1
  rw [List.drop_zero] at L2
  simp only [Int.ofNat_zero] at e2
  have eT : setk (setk t 1 i (joins t.b (y1l f i) (rowW (tk t 1) i))) 2 i (joins (setk t 1 i (joins t.b (y1l f i) (rowW (tk t 1) i))).b (yq f i) (rowW (tk (setk t 1 i (joins t.b (y1l f i) (rowW (tk t 1) i))) 2) i)) = ⟨t.b, t.a.set i (aftT f t i), t.h.set i (hanT f t i)⟩ := rfl
  rw [eT] at L2
  have rA : rowW (tk (⟨t.b, t.a.set i (aftT f t i), t.h.set i (hanT f t i)⟩ : Tb) 1) i = aftT f t i := by
    simp only [tk]; rw [y3y (by rw [L.ok.a]; exact hi), if_pos rfl]
  have rH : rowW (tk (⟨t.b, t.a.set i (aftT f t i), t.h.set i (hanT f t i)⟩ : Tb) 2) i = hanT f t i := by
    simp only [tk]; rw [y3y (by rw [L.ok.h]; exact hi), if_pos rfl]
  have lenA := ya5 w L.ok hi
  have lenH := yk0 w L.ok hi
  have lenB := ye4 w L.ok hi
  -- the copy
  have a1 := L2.fld (k := 1) (by omega)
  have b1 := L2.at (k := 1) (i := i) (by omega) hi
  have i1 := ixQ 1 (i : Int) (by omega) (by omega)
  have i2 := ixQ 2 (i : Int) (by omega) (by omega)
  have i0 := ixQ 0 (i : Int) (by omega) (by omega)
  rw [Int.toNat_natCast] at i1 i2 i0
  have r1 := L2.row 1 (by omega) i hi
  rw [rA] at r1
  obtain ⟨o11, h11⟩ : ∃ o, H2[2]? = some o := ⟨_, List.getElem?_eq_getElem (by have := L2.size; omega)⟩
  have ap := y22l r1 h11 (by omega) (by omega)
  rw [lenA] at ap
  have hl11 := y82 h11
  generalize o11.gen + 1 = g at *
  -- what is written
  have lx : ∀ t : Heap, evLd true 9 (.rp (enc (yd f i))) t = some (.agg (enc (yd f i))) := fun t => by simp
  have k9 := ycl (o := f.code) (y4m hi) .i64
  have eC : yh5 (.lp 0 1 0 0) (.int .i64 (lst f.code).length) (.lp 1 1 0 0) (.bool m) (.int .i64 (i : Int)) (.ls 2 g 1 0 ((lst f.regs).length / 64 + 1)) (H2.set 2 (AW g (aftT f t i))) =
      yia (.lp 0 1 0 0) (.int .i64 (lst f.code).length) (.lp 1 1 0 0) (.bool m) (.int .i64 (i : Int)) (.ls 2 g 1 0 ((lst f.regs).length / 64 + 1)) (H2.set 2 (AW g (y99 (defr (yd f i)) (aftT f t i)))) := by
    have lc := ytp (L2.slot (AW g (aftT f t i))).box
    by_cases hd : 0 ≤ defr (yd f i)
    · have hd2 := w.def hi hd
      have dr := y24r (H := H2.set 2 (AW g (aftT f t i))) (y4e hl11) (r := (defr (yd f i)).toNat) (by omega) (by rw [lenA]; omega)
      rw [lenA, List.set_set, show (((defr (yd f i)).toNat : Nat) : Int) = defr (yd f i) by omega] at dr
      simp only [yh5, y1c, Nat.zero_add, y9, lc, k9, lx, cD, yr, y2m, hd, decide_true, y23, dr, y99, if_true]
    · simp only [yh5, y1c, Nat.zero_add, y9, lc, k9, lx, cD, yr, y2m, hd, decide_false, y2u, y99, if_false]
  -- what is caught, what is read
  have L3 := L2.slot (AW g (y99 (defr (yd f i)) (aftT f t i)))
  have lenD : (y99 (defr (yd f i)) (aftT f t i)).length = (lst f.regs).length / 64 + 1 := by rw [y87, lenA]
  have c2 := L3.fld (k := 2) (by omega)
  have d2 := L3.at (k := 2) (i := i) (by omega) hi
  have r2 := L3.row 2 (by omega) i hi
  rw [rH] at r2
  have f2 := L3.farP 2 i (by omega) hi
  have jn := y1j6 (H := H2.set 2 (AW g (y99 (defr (yd f i)) (aftT f t i)))) (y4e hl11) r2 (by rw [lenD, lenH]) (by rw [lenD]; omega) (by omega)
  rw [lenD, lenH, List.set_set] at jn
  have L4 := L2.slot (AW g (y37 (y99 (defr (yd f i)) (aftT f t i)) (hanT f t i)))
  have lc4 := ytp L4.box
  have hlu : (lst (uses (yd f i))).length ≤ 9223372036854775806 := by
    have : (lst (uses (yd f i))).length ≤ (lst (yd f i).args).length + 3 := by
      unfold uses
      repeat' split
      all_goals simp
    omega
  have us := y1b7 (W := (lst f.regs).length / 64 + 1) (o := uses (yd f i)) hlu (fun u hu => by
    have := w.uses hi hu
    omega) (.lp 0 1 0 0) (.int .i64 (lst f.code).length) (.lp 1 1 0 0) (.bool m) (.int .i64 (i : Int)) g _ 0 (H2.set 2 (AW g (y37 (y99 (defr (yd f i)) (aftT f t i)) (hanT f t i)))) _ (Nat.zero_add _) (y4e hl11) (by rw [y3k (by rw [lenD, lenH]), lenD])
  rw [List.drop_zero, List.set_set] at us
  simp only [Int.ofNat_zero] at us
  have eB : adds (lst (uses (yd f i))) (y37 (y99 (defr (yd f i)) (aftT f t i)) (hanT f t i)) = befT f t i := rfl
  rw [eB] at us
  -- ahead of it
  have L5 := L2.slot (AW g (befT f t i))
  have a5 := L5.fld (k := 0) (by omega)
  have b5 := L5.at (k := 0) (i := i) (by omega) hi
  have r5 := L5.row 0 (by omega) i hi
  have f5 := L5.farP 0 i (by omega) hi
  have lb : (rowW t.b i).length = (lst f.regs).length / 64 + 1 := L.ok.bw i hi
  have jb := y1j6 (H := H2.set 2 (AW g (befT f t i))) r5 (y4e hl11) (by rw [lenB]; exact lb) (by rw [show (rowW (tk (⟨t.b, t.a.set i (aftT f t i), t.h.set i (hanT f t i)⟩ : Tb) 0) i).length = (lst f.regs).length / 64 + 1 from lb]; omega) (by omega)
  rw [lenB, show (rowW (tk (⟨t.b, t.a.set i (aftT f t i), t.h.set i (hanT f t i)⟩ : Tb) 0) i).length = (lst f.regs).length / 64 + 1 from lb] at jb
  have L6 := L5.put (k := 0) (i := i) (by omega) hi (x := y37 (rowW t.b i) (befT f t i)) (by rw [y3k (by rw [lb, lenB]), lb])
  refine ⟨_, ?_, L6⟩
  have hc1 : ¬ (((y1l f i).length : Int) < ((y1l f i).length : Int)) := by omega
  have hc2 : ¬ (((yq f i).length : Int) < ((yq f i).length : Int)) := by omega
  have z1 : ye7 (.lp 0 1 0 0) (.int .i64 (lst f.code).length) (.lp 1 1 0 0) (.bool m) (.int .i64 (i : Int)) H =
      y9w (.lp 0 1 0 0) (.int .i64 (lst f.code).length) (.lp 1 1 0 0) (.bool m) (.int .i64 (i : Int)) (slA (nz (y1l f i))) (.int .i64 (y1l f i).length) (.int .i64 0) H := by
    rw [ym0]
    simp only [ysy, y2m, hge, decide_true, y9, y23, y1if, y1b8 L.box, cN, yr, y3c, yed]
  have z2 : y9w (.lp 0 1 0 0) (.int .i64 (lst f.code).length) (.lp 1 1 0 0) (.bool m) (.int .i64 (i : Int)) (slA (nz (y1l f i))) (.int .i64 (y1l f i).length) (.int .i64 (y1l f i).length) H1 =
      y9v (.lp 0 1 0 0) (.int .i64 (lst f.code).length) (.lp 1 1 0 0) (.bool m) (.int .i64 (i : Int)) (slA (nz (yq f i))) (.int .i64 (yq f i).length) (.int .i64 0) H1 := by
    rw [yh4]
    simp only [yy8, yi, y9, hc1, decide_false, yxg, y2u, y15b, y1b8 L1.box, cC, yr, y3c, yed]
  have z3 : y9v (.lp 0 1 0 0) (.int .i64 (lst f.code).length) (.lp 1 1 0 0) (.bool m) (.int .i64 (i : Int)) (slA (nz (yq f i))) (.int .i64 (yq f i).length) (.int .i64 (yq f i).length) H2 =
      yh5 (.lp 0 1 0 0) (.int .i64 (lst f.code).length) (.lp 1 1 0 0) (.bool m) (.int .i64 (i : Int)) (.ls 2 g 1 0 ((lst f.regs).length / 64 + 1)) (H2.set 2 (AW g (aftT f t i))) := by
    rw [yib]
    simp only [yt7, yi, y9, hc2, decide_false, ysh, y2u, y14i, nc, y1c, Nat.zero_add, a1, i1, b1, ap, yr]
  have z4 : yia (.lp 0 1 0 0) (.int .i64 (lst f.code).length) (.lp 1 1 0 0) (.bool m) (.int .i64 (i : Int)) (.ls 2 g 1 0 ((lst f.regs).length / 64 + 1)) (H2.set 2 (AW g (y99 (defr (yd f i)) (aftT f t i)))) =
      y11g (.lp 0 1 0 0) (.int .i64 (lst f.code).length) (.lp 1 1 0 0) (.bool m) (.int .i64 (i : Int)) (.ls 2 g 1 0 ((lst f.regs).length / 64 + 1)) (H2.set 2 (AW g (befT f t i))) := by
    rw [← us]
    simp only [yia, nc, y9, y1c, Nat.zero_add, c2, i2, d2, jn, yr, y159, lc4, k9, lx, cU, y3c]
  rw [z1, e1, z2, e2, z3, eC, z4]
  have hmt : ygp f t i = yco (rowW (tk (⟨t.b, t.a.set i (aftT f t i), t.h.set i (hanT f t i)⟩ : Tb) 0) i) (befT f t i) := rfl
  rw [hmt]
  cases hmm : yco (rowW (tk (⟨t.b, t.a.set i (aftT f t i), t.h.set i (hanT f t i)⟩ : Tb) 0) i) (befT f t i) with
  | true =>
    rw [hmm] at jb
    simp only [y11g, nc, y9, y1c, Nat.zero_add, a5, i0, b5, jb, yr, ypg, y28, Bool.true_or]
    rfl
  | false =>
    rw [hmm] at jb
    simp only [y11g, nc, y9, y1c, Nat.zero_add, a5, i0, b5, jb, yr, ypb, y30, Bool.false_or]
    rfl
end
end Go.Vm
namespace Go.Vm
open Cel
section
variable {f : Fn} (w : Wf f) (hr : (lst f.rows).length ≤ 10000000000000) (hx : ∀ x ∈ lst f.code, (lst x.args).length ≤ 17592186043904) {P : Plc} {Q : Arr}
include w hr hx
theorem y11o : ∀ (k : Nat) (t : Tb) (H : Heap) (m : Bool), k ≤ (lst f.code).length → LvRep f P Q H t →
    ∃ H', ye7 (.lp 0 1 0 0) (.int .i64 (lst f.code).length) (.lp 1 1 0 0) (.bool m) (.int .i64 ((k : Int) - 1)) H = yb2 (.lp 0 1 0 0) (.int .i64 (lst f.code).length) (.lp 1 1 0 0) (.bool ((y2i f k t).2 || m)) H' ∧ LvRep f P Q H' (y2i f k t).1 := by
  have hn := w.n2
  intro k
  induction k with
  | zero =>
    intro t H m _ L
    refine ⟨H, ?_, L⟩
    have hc : ¬ (0 : Int) ≤ ((0 : Nat) : Int) - 1 := by omega
    rw [ym0]
    simp only [ysy, y2m, y9, hc, decide_false, y2u, y2i, Bool.false_or]
  | succ k ih =>
    intro t H m hk L
    obtain ⟨H1, e1, L1⟩ := y1o9 w hr hx (i := k) (by omega) m H t L
    obtain ⟨H2, e2, L2⟩ := ih (y3v f t k) H1 (ygp f t k || m) (by omega) L1
    refine ⟨H2, ?_, L2⟩
    have ek : (((k + 1 : Nat) : Int) - 1) = (k : Int) := by omega
    have hw : IntKind.wrap .i64 ((k : Int) - 1) = (k : Int) - 1 := by rw [y1o] <;> omega
    have eb : ((y2i f (k + 1) t).2 || m) = ((y2i f k (y3v f t k)).2 || (ygp f t k || m)) := by
      rw [y2i]
      cases ygp f t k <;> cases (y2i f k (y3v f t k)).2 <;> cases m <;> rfl
    rw [ek, e1, eb, ← e2]
    simp only [y1th, yfp, hw, y9]
theorem y1ll : ∀ (q : Nat) (t : Tb) (H : Heap) (r : Tb), LvRep f P Q H t → ybc f q t = some r →
    ∃ H', yb2 (.lp 0 1 0 0) (.int .i64 (lst f.code).length) (.lp 1 1 0 0) (.bool true) H = y1bo (.lp 1 1 0 0) H' ∧ LvRep f P Q H' r := by
  have hn := w.n2
  intro q
  induction q with
  | zero => intro t H r _ h; cases h
  | succ q ih =>
    intro t H r L h
    obtain ⟨H1, e1, L1⟩ := y11o w hr hx (lst f.code).length t H false (Nat.le_refl _) L
    have hw : IntKind.wrap .i64 (((lst f.code).length : Int) - 1) = ((lst f.code).length : Int) - 1 := by rw [y1o] <;> omega
    have e2 : yb2 (.lp 0 1 0 0) (.int .i64 (lst f.code).length) (.lp 1 1 0 0) (.bool true) H = yb2 (.lp 0 1 0 0) (.int .i64 (lst f.code).length) (.lp 1 1 0 0) (.bool ((y2i f (lst f.code).length t).2 || false)) H1 := by
      rw [← e1, ymk]
      simp only [yzn, y23, y13j, y14z, yfp, hw, y9]
    rw [e2, Bool.or_false]
    rw [ybc] at h
    cases hm : (y2i f (lst f.code).length t).2 with
    | true =>
      rw [hm, if_pos rfl] at h
      exact ih _ H1 r L1 h
    | false =>
      rw [hm, if_neg Bool.false_ne_true] at h
      injection h with h
      subst h
      refine ⟨H1, ?_, L1⟩
      rw [ymk]
      simp only [yzn, y2u]
end
end Go.Vm
namespace Go.Vm
open Cel
instance : Cel Ws := ⟨1, fun s => [slA (some s)], fun _ => rfl, fun _ => rfl, fun _ => rfl⟩
@[simp] theorem y2eq (s : Ws) : enc s = [slA (some s)] := rfl
@[simp] theorem y2f7 : es Ws = 1 := rfl
theorem yih {β γ : Type} (g : β → Option (Fz γ)) (x : Nat → β) (y : Nat → γ) (id : Nat → Nat) : ∀ (l : List Nat), (∀ i ∈ l, g (x i) = some ⟨y i, true, [id i]⟩) → yn g (l.map x) = some ⟨l.map y, true, l.map id⟩
  | [], _ => rfl
  | i :: l, h => by
    rw [List.map_cons, yh, h i (by simp), yih g x y id l (fun j hj => h j (by simp [hj]))]
    rfl
theorem y221 (s : Ws) : s.all scal = true := by
  rw [List.all_eq_true]
  intro w _
  rfl
def idsP (P : Plc) (k n : Nat) : List Nat := (List.range n).map fun i => (P k i).1
theorem y1pv {l : List Ws} {n : Nat} (h : l.length = n) : (List.range n).map (fun i => enc (rowW l i)) = l.map enc := by
  refine List.ext_getElem (by simp [h]) fun i h1 h2 => ?_
  have hi : i < l.length := by simpa using h2
  simp [rowW, List.getD_eq_getElem?_getD, hi]
section
variable {f : Fn} {P : Plc} {Q : Arr} {H : Heap} {t : Tb} (L : LvRep f P Q H t)
include L
theorem LvRep.rows {k : Nat} (hk : k < 3) : yn (yn (fz H y18)) (yll P ((lst f.regs).length / 64 + 1) k (lst f.code).length) = some ⟨(tk t k).map enc, true, idsP P k (lst f.code).length⟩ := by
  have hl : (tk t k).length = (lst f.code).length := by
    match k, hk with
    | 0, _ => exact L.ok.b
    | 1, _ => exact L.ok.a
    | 2, _ => exact L.ok.h
  rw [← y1pv hl]
  refine yih _ _ _ _ _ fun i hi => ?_
  rw [List.mem_range] at hi
  have h1 := ytw (α := BitVec 64) (k := 10) (L.row k hk i hi)
  rw [L.len hk hi, y221] at h1
  have h2 : fz H y18 (.ls (P k i).1 (P k i).2 1 0 ((lst f.regs).length / 64 + 1)) = some ⟨slA (some (rowW (tk t k) i)), true, [(P k i).1]⟩ := h1
  rw [yh, h2, yx]
  rfl
theorem LvRep.ex {k : Nat} (hk : k < 3) (os : List OC) : expo H 11 (.ls (Q k).1 (Q k).2 1 0 (lst f.code).length) os = some ⟨.ls os.length 0 1 0 (lst f.code).length, os ++ [.arr false false 1 ((tk t k).map enc)], true, [(Q k).1], idsP P k (lst f.code).length⟩ := by
  have hr : ym H (Q k).1 (Q k).2 = some (false, 1, yll P ((lst f.regs).length / 64 + 1) k (lst f.code).length) := by simp [ym, y2z, L.arr k hk]
  have hl : (yll P ((lst f.regs).length / 64 + 1) k (lst f.code).length).length = (lst f.code).length := by simp [yll]
  have ht : ((yll P ((lst f.regs).length / 64 + 1) k (lst f.code).length).drop 0).take (lst f.code).length = yll P ((lst f.regs).length / 64 + 1) k (lst f.code).length := by
    rw [List.drop_zero, List.take_of_length_le (by rw [hl]; exact Nat.le_refl _)]
  rw [y19c, hr]
  simp only [hl, Nat.zero_add, Nat.le_refl, and_self, if_true, ht, L.rows hk]
theorem LvRep.reads : ∃ r, y1bo (.lp 1 1 0 0) H = some r ∧ r.fresh = true ∧ ync r (.rp [slA (some t.b), slA (some t.a), slA (some t.h), .int .i64 (lst f.regs).length]) := by
  have e0 := L.ex (k := 0) (by omega)
  have e1 := L.ex (k := 1) (by omega)
  have e2 := L.ex (k := 2) (by omega)
  have e3 : ∀ os, expo H 11 (.int .i64 (lst f.regs).length) os = some ⟨.int .i64 (lst f.regs).length, os, true, [], []⟩ := fun os => yez rfl H 10 os
  have hr : ym H 1 1 = some (false, 4, [[.ls (Q 0).1 (Q 0).2 1 0 (lst f.code).length, .ls (Q 1).1 (Q 1).2 1 0 (lst f.code).length, .ls (Q 2).1 (Q 2).2 1 0 (lst f.code).length, .int .i64 (lst f.regs).length]]) := by simp [ym, y2z, L.tb]
  have q0 := L.farQ 0 (by omega)
  have q1 := L.farQ 1 (by omega)
  have q2 := L.farQ 2 (by omega)
  have m : ∀ x, (∀ k i, k < 3 → i < (lst f.code).length → (P k i).1 ≠ x) → (idsP P 0 (lst f.code).length ++ (idsP P 1 (lst f.code).length ++ (idsP P 2 (lst f.code).length ++ []))).contains x = false := by
    intro x hx
    rw [← Bool.not_eq_true, List.contains_iff_mem]
    intro hm
    simp only [List.mem_append, idsP, List.mem_map, List.mem_range, List.not_mem_nil, or_false] at hm
    rcases hm with ⟨i, hi, e⟩ | ⟨i, hi, e⟩ | ⟨i, hi, e⟩
    · exact hx 0 i (by omega) hi e
    · exact hx 1 i (by omega) hi e
    · exact hx 2 i (by omega) hi e
  have m1 := m 1 (fun k i hk hi e => by have := L.farP k i hk hi; omega)
  have mq : ∀ k, k < 3 → _ := fun k hk => m (Q k).1 (fun k' i hk' hi e => L.off k' k i hk' hk hi e)
  have nq : ∀ k k', k < 3 → k' < 3 → k ≠ k' → ¬ (Q k).1 = (Q k').1 := fun k k' h h' hne e => hne (L.injQ k k' h h' e)
  have ap : y2r [1, (Q 0).1, (Q 1).1, (Q 2).1] (idsP P 0 (lst f.code).length ++ (idsP P 1 (lst f.code).length ++ (idsP P 2 (lst f.code).length ++ []))) = true := by
    have n01 := nq 0 1 (by omega) (by omega) (by omega)
    have n02 := nq 0 2 (by omega) (by omega) (by omega)
    have n12 := nq 1 2 (by omega) (by omega) (by omega)
    have z0 : ¬ 1 = (Q 0).1 := by omega
    have z1 : ¬ 1 = (Q 1).1 := by omega
    have z2 : ¬ 1 = (Q 2).1 := by omega
    simp only [y2r, m1, mq 0 (by omega), mq 1 (by omega), mq 2 (by omega), Bool.not_false, Bool.and_true]
    simp [n01, n02, n12, z0, z1, z2]
  have ex : expo H y18 (.lp 1 1 0 0) [] = some ⟨.lp 3 0 0 0, [.arr false false 1 (t.b.map enc), .arr false false 1 (t.a.map enc), .arr false false 1 (t.h.map enc), .arr true false 4 [[.ls 0 0 1 0 (lst f.code).length, .ls 1 0 1 0 (lst f.code).length, .ls 2 0 1 0 (lst f.code).length, .int .i64 (lst f.regs).length]]], true, [1, (Q 0).1, (Q 1).1, (Q 2).1], idsP P 0 (lst f.code).length ++ (idsP P 1 (lst f.code).length ++ (idsP P 2 (lst f.code).length ++ []))⟩ := by
    show expo H (11 + 1) (.lp 1 1 0 0) [] = _
    rw [expo]
    simp only [hr, and_self, if_true, y3o, e0, e1, e2, e3, List.nil_append, List.length_nil, List.length_cons, List.cons_append, List.append_nil, tk]
    rfl
  refine ⟨⟨.lp 3 0 0 0, [.arr false false 1 (t.b.map enc), .arr false false 1 (t.a.map enc), .arr false false 1 (t.h.map enc), .arr true false 4 [[.ls 0 0 1 0 (lst f.code).length, .ls 1 0 1 0 (lst f.code).length, .ls 2 0 1 0 (lst f.code).length, .int .i64 (lst f.regs).length]]], true, [], []⟩, by rw [y1bo, yf, ex]; simp only [ap, if_true], rfl, ?_⟩
  have lb := L.ok.b
  have la := L.ok.a
  have lh := L.ok.h
  generalize hX : y24 [OC.arr false false 1 (t.b.map enc), .arr false false 1 (t.a.map enc), .arr false false 1 (t.h.map enc), .arr true false 4 [[.ls 0 0 1 0 (lst f.code).length, .ls 1 0 1 0 (lst f.code).length, .ls 2 0 1 0 (lst f.code).length, .int .i64 (lst f.regs).length]]] = X
  have y0 : fz X 11 (.ls 0 0 1 0 (lst f.code).length) = some ⟨slA (some t.b), t.b.all scal, [0]⟩ := by
    rw [← lb, ← hX]; exact ytw (α := Ws) (k := 9) (id := 0) (g := 0) (L := t.b) rfl
  have y1 : fz X 11 (.ls 1 0 1 0 (lst f.code).length) = some ⟨slA (some t.a), t.a.all scal, [1]⟩ := by
    rw [← la, ← hX]; exact ytw (α := Ws) (k := 9) (id := 1) (g := 0) (L := t.a) rfl
  have y2 : fz X 11 (.ls 2 0 1 0 (lst f.code).length) = some ⟨slA (some t.h), t.h.all scal, [2]⟩ := by
    rw [← lh, ← hX]; exact ytw (α := Ws) (k := 9) (id := 2) (g := 0) (L := t.h) rfl
  have y3 : fz X 11 (.int .i64 (lst f.regs).length) = some ⟨.int .i64 (lst f.regs).length, true, []⟩ := rfl
  have hr2 : ym X 3 0 = some (false, 4, [[.ls 0 0 1 0 (lst f.code).length, .ls 1 0 1 0 (lst f.code).length, .ls 2 0 1 0 (lst f.code).length, .int .i64 (lst f.regs).length]]) := by
    rw [← hX]; rfl
  refine ⟨⟨.rp [slA (some t.b), slA (some t.a), slA (some t.h), .int .i64 (lst f.regs).length], t.b.all scal && (t.a.all scal && (t.h.all scal && (true && true))), 3 :: ([0] ++ ([1] ++ ([2] ++ ([] ++ []))))⟩, ?_, rfl⟩
  simp only [hX]
  show fz X (11 + 1) (.lp 3 0 0 0) = _
  rw [fz]
  simp only [hr2, List.getElem?_cons_zero, List.drop_zero, yh, yx, y0, y1, y2, y3]
end
end Go.Vm
namespace Go.Vm
open Cel
theorem y1sd (s : Ws) {r : Nat} (hr : r < 9223372036854775808) (hs : r / 64 < s.length) : (y8 E).p 83 [slA (some s), .int .i64 r] = some ⟨.bool (bit s r), [], true, [], []⟩ := by
  rw [y2aw]
  obtain ⟨q1, q2⟩ := yki hr
  have kx : yv 1 (slA (some s)) (.int .i64 ((r / 64 : Nat) : Int)) = some (.rp [.int .u64 (s.getD (r / 64) 0).toNat]) := by
    have := yaj (α := BitVec 64) (o := some s) (i := r / 64) (x := s.getD (r / 64) 0) (by rw [y5h, List.getD_eq_getElem?_getD, List.getElem?_eq_getElem hs]; rfl) .i64
    exact this
  have lx : ∀ t : Heap, evLd false 1 (.rp [.int .u64 (s.getD (r / 64) 0).toNat]) t = some (.int .u64 (s.getD (r / 64) 0).toNat) := fun t => by simp
  obtain ⟨v, w, h1, h2, h3⟩ := y2cc (r := r % 64) (Nat.mod_lt r (by omega)) (s.getD (r / 64) 0)
  simp only [y1wn, q1, q2, y9, kx, lx, h1, h2, h3, y1i]
  rfl
def tv (t : Tb) (R : Nat) : AV := .rp [slA (some t.b), slA (some t.a), slA (some t.h), .int .i64 R]
def atM (R : Nat) (l : List Ws) (i r : Int) : Bool := decide (0 ≤ i) && decide (i < l.length) && decide (0 ≤ r) && decide (r < R) && bit (rowW l i.toNat) r.toNat
theorem s_at (t : Tb) {R : Nat} (hR : R ≤ 20000) (l : List Ws) (hl : ∀ i, i < l.length → (rowW l i).length = R / 64 + 1) (i r : Int) : (y8 E).p 82 [tv t R, slA (some l), .int .i64 i, .int .i64 r] = some ⟨.bool (atM R l i r), [], true, [], []⟩ := by
  rw [y2eb]
  have hE : y9f 0 true (tv t R) .nilp = some (.bool true) := rfl
  have nc : y1e (tv t R) = some (tv t R) := rfl
  have fa : evFa 3 (tv t R) = some (.rp [.int .i64 R]) := rfl
  have lR : ∀ H : Heap, evLd false 1 (.rp [.int .i64 R]) H = some (.int .i64 R) := fun H => by simp
  have le : ∀ H, y14 1 (slA (some l)) H = some (.int .i64 l.length) := fun H => y3c (some l) H
  unfold atM
  by_cases h1 : 0 ≤ i
  · by_cases h2 : i < (l.length : Int)
    · by_cases h3 : 0 ≤ r
      · by_cases h4 : r < (R : Int)
        · have hi : i.toNat < l.length := by omega
          have kx : yv 1 (slA (some l)) (.int .i64 i) = some (.rp [slA (some (rowW l i.toNat))]) := by
            have := ygd (α := Ws) (o := some l) (n := i) (x := rowW l i.toNat) h1 (by rw [y5h, rowW, List.getD_eq_getElem?_getD, List.getElem?_eq_getElem hi]; rfl) .i64
            exact this
          have lx : ∀ (H : Heap) (s : Ws), evLd false 1 (.rp [slA (some s)]) H = some (slA (some s)) := fun H s => rfl
          have hb := y1sd (rowW l i.toNat) (r := r.toNat) (by omega) (by rw [hl _ hi]; omega)
          rw [show ((r.toNat : Nat) : Int) = r by omega] at hb
          have ha : ∀ H : Heap, yn (fz H y18) [slA (some (rowW l i.toNat)), .int .i64 r] = some ⟨[slA (some (rowW l i.toNat)), .int .i64 r], (lst (some (rowW l i.toNat))).isEmpty && (true && true), []⟩ := fun H => by
            rw [yh, yh, y1bw, yc2, yx]; rfl
          have c1 : ∀ H, y6 E (y8 E) 0 none true 83 [slA (some (rowW l i.toNat)), .int .i64 r] H = some (.bool (bit (rowW l i.toNat) r.toNat), H) := fun H => y1p rfl (ha H) rfl hb ⟨_, rfl, rfl⟩
          simp only [ypu, hE, y9, ya2, y2m, h1, decide_true, y28, le, yi, h2, h3, nc, fa, lR, h4, kx, lx, y1lv, c1, yr, y1i, Bool.true_and]
        · simp only [ypu, hE, y9, ya2, y2m, h1, decide_true, y28, le, yi, h2, h3, nc, fa, lR, h4, decide_false, yeg, y1f7, y30, y1i, Bool.and_false, Bool.false_and]
      · simp only [ypu, hE, y9, ya2, y2m, h1, decide_true, y28, le, yi, h2, h3, decide_false, yeg, y1f7, y30, y1i, Bool.and_false, Bool.false_and]
    · simp only [ypu, hE, y9, ya2, y2m, h1, decide_true, y28, le, yi, h2, decide_false, yeg, y1f7, y30, y1i, Bool.and_false, Bool.false_and]
  · simp only [ypu, hE, y9, ya2, y2m, h1, decide_false, y28, yeg, y1f7, y30, y1i, Bool.and_false, Bool.false_and]
theorem y1xc (t : Tb) {R : Nat} (hR : R ≤ 20000) (l : List Ws) (hl : ∀ i, i < l.length → (rowW l i).length = R / 64 + 1) (i r : Int) (H : Heap) : y6 E (y8 E) 0 none true 82 [tv t R, slA (some l), .int .i64 i, .int .i64 r] H = some (.bool (atM R l i r), H) := by
  have ht : fz H y18 (tv t R) = some ⟨tv t R, y1h (tv t R), []⟩ := fz_p (k := 11) rfl H
  have hs : fz H y18 (slA (some l)) = some ⟨slA (some l), y1h (slA (some l)), []⟩ := fz_p (k := 11) (y95 _) H
  have ha : ∃ b, yn (fz H y18) [tv t R, slA (some l), .int .i64 i, .int .i64 r] = some ⟨[tv t R, slA (some l), .int .i64 i, .int .i64 r], b, []⟩ := by
    refine ⟨y1h (tv t R) && (y1h (slA (some l)) && (true && (true && true))), ?_⟩
    rw [yh, yh, yh, yh, ht, hs, yc2, yc2, yx]; rfl
  obtain ⟨b, ha⟩ := ha
  exact y1p rfl ha rfl (s_at t hR l hl i r) ⟨_, rfl, rfl⟩
end Go.Vm
namespace Go.Vm
open Cel
open Classical in
theorem y2b2 {n R : Nat} {l : List Ws} {P : Prop} {i r : Int} (hl : l.length = n) (h : 0 ≤ i → i < n → 0 ≤ r → (bit (rowW l i.toNat) r.toNat = true ↔ P)) :
    atM R l i r = (decide (0 ≤ i) && (decide (i < (n : Int)) && (decide (0 ≤ r) && (decide (r < (R : Int)) && decide P)))) := by
  unfold atM
  rw [hl]
  by_cases h1 : 0 ≤ i
  · by_cases h2 : i < (n : Int)
    · by_cases h3 : 0 ≤ r
      · have := h h1 h2 h3
        have e : bit (rowW l i.toNat) r.toNat = decide P := by
          cases hb : bit (rowW l i.toNat) r.toNat with
          | true => exact (decide_eq_true (this.1 hb)).symm
          | false => exact (decide_eq_false fun hp => by rw [this.2 hp] at hb; cases hb).symm
        rw [e]
        simp [h1, h2, h3]
      · simp [h3]
    · simp [h2]
  · simp [h1]
section
variable {f : Fn} (w : Wf f) {t : Tb} (ok : TbOk (lst f.code).length ((lst f.regs).length / 64 + 1) t) (S : LvSnd f t) (C : ∀ i, i < (lst f.code).length → Cl f t i)
include w ok S C
theorem y24o (i r : Int) : atM (lst f.regs).length t.a i r = aftR f i r := by
  refine y2b2 ok.a fun h1 h2 h3 => ?_
  have := (yzw w S C (i := i.toNat) (by omega) r.toNat).2.1
  rwa [show ((i.toNat : Nat) : Int) = i by omega] at this
end
theorem y2c7 (t : Tb) (R : Nat) (H : Heap) : fz H y18 (tv t R) = some ⟨tv t R, y1h (tv t R), []⟩ := fz_p (k := 11) rfl H
theorem y26e (t : Tb) (R : Nat) (i r : Int) (H : Heap) : yn (fz H y18) [tv t R, .int .i64 i, .int .i64 r] = some ⟨[tv t R, .int .i64 i, .int .i64 r], y1h (tv t R) && (true && (true && true)), []⟩ := by
  rw [yh, yh, yh, y2c7, yc2, yc2, yx]; rfl
end Go.Vm
namespace Go.Vm
open Cel
theorem y1z1 (t : Tb) {R : Nat} (hR : R ≤ 20000) (hl : ∀ i, i < t.a.length → (rowW t.a i).length = R / 64 + 1) (i r : Int) : (y8 E).p 87 [tv t R, .int .i64 i, .int .i64 r] = some ⟨.bool (atM R t.a i r), [], true, [], []⟩ := by
  rw [y2dt]
  have hE : y9f 0 true (tv t R) .nilp = some (.bool true) := rfl
  have nc : y1e (tv t R) = some (tv t R) := rfl
  have fa : ∀ H : Heap, evLd false 1 (.rp [slA (some t.a), slA (some t.h), .int .i64 R]) H = some (slA (some t.a)) := fun H => rfl
  have f0 : evFa 1 (tv t R) = some (.rp [slA (some t.a), slA (some t.h), .int .i64 R]) := rfl
  simp only [y21s, hE, y9, ya2, nc, f0, fa, y1lv, y1xc t hR t.a hl, yr, y28, y1i]
end Go.Vm
namespace Go.Vm
open Cel
theorem ych {Hc : Heap} {B j W : Nat} (d0 : Hc[B + j]? = some ⟨0, .dead⟩) (hW : W ≤ 1000000) :
    mkSC B (some j) 1 8 [.int .u64 0] (.int .i64 W) (.int .i64 W) Hc = some (.ls (B + j) 1 1 0 W, Hc.set (B + j) (AW 1 (y21 W))) := by
  simp [mkSC, y36, place, d0]
  refine ⟨by omega, ?_⟩
  show Hc.set (B + j) ⟨_, .arr false false 1 _⟩ = Hc.set (B + j) ⟨_, .arr false false 1 ((List.replicate W (0 : BitVec 64)).map enc)⟩
  rw [List.map_replicate]
  rfl
theorem y92 {Hc : Heap} {B j : Nat} {v : AV} (hv : y11 v = true) (hc : cellsOf v = [v]) (d0 : Hc[B + j]? = some ⟨0, .dead⟩) :
    yp B (some j) 1 1 [.nils] [(0, v)] Hc = some (.ls (B + j) 1 1 0 1, Hc.set (B + j) ⟨1, .arr false false 1 [[v]]⟩) := by
  simp [yp, y15, y36, place, d0, hc, hv]
def nP (B j m : Nat) (p : Nat → Nat × Nat) (i : Nat) : Nat × Nat := if i = m then (B + j, 1) else p i
def rws (W m : Nat) (p : Nat → Nat × Nat) : List (List AV) := (List.range m).map fun i => [.ls (p i).1 (p i).2 1 0 W]
theorem yka (W m B j : Nat) (p : Nat → Nat × Nat) : rws W (m + 1) (nP B j m p) = rws W m p ++ [[.ls (B + j) 1 1 0 W]] := by
  unfold rws
  rw [List.range_succ, List.map_append]
  congr 1
  · refine List.map_congr_left fun i hi => ?_
    rw [List.mem_range] at hi
    simp only [nP, if_neg (show ¬ i = m by omega)]
  · simp [nP]
theorem ye6 {Hc : Heap} {B j id W : Nat} {r : List AV} (h1 : Hc[id]? = some ⟨1, .arr false false 1 [r]⟩) (d : Hc[B + j]? = some ⟨0, .dead⟩) :
    y1y B (some j) 1 24 .nils (.ls id 1 1 0 1) Hc = some (.ls (B + j) 1 1 0 1, Hc.set (B + j) ⟨1, .arr false false 1 [r]⟩) := by
  have hy : y1x Hc 1 (.ls id 1 1 0 1) = some [r] := by simp [y1x, ym, y2z, h1]
  unfold y1y
  rw [hy]
  simp [y36, place, d]
theorem yk9 {Hc : Heap} {B j id qa qg m : Nat} {rows : List (List AV)} {r : List AV} (h1 : Hc[id]? = some ⟨1, .arr false false 1 [r]⟩) (hq : Hc[qa]? = some ⟨qg, .arr false false 1 rows⟩) (hm : rows.length = m) (hl : m ≤ 1000000) :
    y1y B (some j) 1 24 (.ls qa qg 1 0 m) (.ls id 1 1 0 1) Hc = some (.ls qa (qg + 1) 1 0 (m + 1), Hc.set qa ⟨qg + 1, .arr false false 1 (rows ++ [r])⟩) := by
  have hy : y1x Hc 1 (.ls id 1 1 0 1) = some [r] := by simp [y1x, ym, y2z, h1]
  unfold y1y
  rw [hy]
  simp only [hq]
  rw [if_pos ⟨trivial, trivial, trivial, by omega, by simp only [List.length_singleton]; omega⟩]
  simp only [List.drop_zero, List.length_singleton]
  rw [List.take_of_length_le (by omega)]
def fv (Q : Arr) (k m : Nat) : AV := if m = 0 then .nils else .ls (Q k).1 (Q k).2 1 0 m
structure BRep (f : Fn) (P : Plc) (Q : Arr) (H : Heap) (m : Nat) : Prop where
  box : H[0]? = some (AB f)
  tb : H[1]? = some ⟨1, .arr true false 4 [[fv Q 0 m, fv Q 1 m, fv Q 2 m, .int .i64 (lst f.regs).length]]⟩
  arr : 0 < m → ∀ k, k < 3 → H[(Q k).1]? = some ⟨(Q k).2, .arr false false 1 (rws ((lst f.regs).length / 64 + 1) m (P k))⟩
  row : ∀ k, k < 3 → ∀ i, i < m → H[(P k i).1]? = some (AW (P k i).2 (y21 ((lst f.regs).length / 64 + 1)))
  inj : ∀ k k' i i', k < 3 → k' < 3 → i < m → i' < m → (P k i).1 = (P k' i').1 → k = k' ∧ i = i'
  off : ∀ k k' i, k < 3 → k' < 3 → i < m → (P k i).1 ≠ (Q k').1
  farP : ∀ k i, k < 3 → i < m → 3 ≤ (P k i).1
  farQ : 0 < m → ∀ k, k < 3 → 3 ≤ (Q k).1
  injQ : 0 < m → ∀ k k', k < 3 → k' < 3 → (Q k).1 = (Q k').1 → k = k'
  size : 3 ≤ H.length
theorem BRep.done {f : Fn} {P : Plc} {Q : Arr} {H : Heap} (R : BRep f P Q H (lst f.code).length) (hn : 1 ≤ (lst f.code).length) : LvRep f P Q H (tb0 f) := by
  have hz : ¬ (lst f.code).length = 0 := by omega
  have ht := R.tb
  simp only [fv, if_neg hz] at ht
  refine ⟨R.box, ht, R.arr (by omega), fun k hk i hi => ?_, R.inj, R.off, R.farP, R.farQ (by omega), R.injQ (by omega), R.size, y1tt⟩
  have : rowW (tk (tb0 f) k) i = y21 ((lst f.regs).length / 64 + 1) := by
    match k, hk with
    | 0, _ => exact yem hi
    | 1, _ => exact yem hi
    | 2, _ => exact yem hi
  rw [this]
  exact R.row k hk i hi
end Go.Vm
