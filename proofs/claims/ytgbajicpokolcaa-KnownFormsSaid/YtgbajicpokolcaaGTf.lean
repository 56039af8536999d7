/- The table of what is set tells whether each register is written ahead of all that reads it. Clones of lists of marks. flow.meet: what is set on one way more to a place. What 'Uses' answers. flow.Set: the table is made as the plain words have it. The document's searches: where they go on, what they look for. flow.Set: its end, its beginning, and what it says. KnownForms: the output is well formed, and sets what it reads where the input does; what isn't well formed stays as it is. -/
import Derived.Test.YtgbajicpokolcaaGX
import Derived.Test.YtgbajicpokolcaaGTe
set_option linter.unusedSimpArgs false
set_option linter.unusedVariables false
set_option linter.unusedSectionVars false
namespace Go.Vm
def y66 (f : Fn) : List Bool := (List.range (lst f.regs).length).map fun (r : Nat) => decide (((r : Nat) : Int) ∈ lst f.params)
theorem yf0 (f : Fn) : (y66 f).length = (lst f.regs).length := by simp [y66]
theorem yod {f : Fn} {r : Nat} (h : r < (lst f.regs).length) : (y66 f)[r]? = some (decide ((r : Int) ∈ lst f.params)) := by simp [y66, h]
theorem ynr (d : Int) (s : List Bool) : (y3h d s).length = s.length := by unfold y3h; split <;> simp
theorem yun {d : Int} {s : List Bool} {r : Nat} (h : (y3h d s)[r]? = some false) : d ≠ r ∧ s[r]? = some false := by
  unfold y3h at h
  split at h
  · rename_i hd
    rw [List.getElem?_set] at h
    split at h
    · split at h <;> cases h
    · exact ⟨by omega, h⟩
  · exact ⟨by omega, h⟩
theorem yvs {d : Int} {s : List Bool} {r : Nat} (h : (y3h d s)[r]? = some true) (hd : d ≠ r) : s[r]? = some true := by
  unfold y3h at h
  split at h
  · rw [List.getElem?_set] at h
    split at h
    · omega
    · exact h
  · exact h
section
variable (f : Fn)
def y1js (ins : Tab) (i : Nat) (s : List Bool) : Prop := (∀ to ∈ yp f i, LeAt ins to s) ∧ ∀ to ∈ y26 f i, LeAt ins to (y3h (defr (yh f i)) s)
structure SInv (ins : Tab) (work : List Int) : Prop where
  ok : TblOk (lst f.code).length (lst f.regs).length ins
  src : ∀ (i r : Nat) t, ins[i]? = some (some t) → t[r]? = some false → Rch (lst f.code).length (yj1 f r) [0] i ∧ (r : Int) ∉ lst f.params
  cl : ∀ (i : Nat) s, ins[i]? = some (some s) → (i : Int) ∈ work ∨ y1js f ins i s
  st : LeAt ins 0 (y66 f)
  wk : ∀ j ∈ work, 0 ≤ j ∧ j < (lst f.code).length ∧ ∃ t, ins[j.toNat]? = some (some t)
def tab0 : Tab := (List.replicate (lst f.code).length none).set 0 (some (y66 f))
variable {f}
theorem y1js.mono {a b : Tab} (h : LeT a b) {i : Nat} {s : List Bool} (hf : y1js f a i s) : y1js f b i s :=
  ⟨fun to ht => (hf.1 to ht).mono h, fun to ht => (hf.2 to ht).mono h⟩
theorem SInv.start (w : Wf f) : SInv f (tab0 f) [0] := by
  have hn := w.n1
  have h0 : (tab0 f)[0]? = some (some (y66 f)) := y54 (by rw [List.length_replicate]; omega)
  have hx : ∀ (i : Nat) t, (tab0 f)[i]? = some (some t) → i = 0 ∧ t = y66 f := by
    intro i t ht
    rcases y7w ht with ⟨e, e2⟩ | ⟨_, h⟩
    · injection e2 with e2; exact ⟨e, e2⟩
    · rw [List.getElem?_replicate] at h
      split at h <;> cases h
  refine ⟨⟨by simp [tab0], fun i s hs => by rw [(hx i s hs).2, yf0]⟩, fun i r t ht hr => ?_, fun i s hs => .inl (by rw [(hx i s hs).1]; simp), ⟨_, h0, .refl _⟩, fun j hj => ?_⟩
  · obtain ⟨rfl, rfl⟩ := hx i t ht
    have hr1 : r < (lst f.regs).length := by rw [← yf0]; exact (List.getElem?_eq_some_iff.1 hr).1
    rw [yod hr1] at hr
    refine ⟨Rch.base (j := 0) (by simp) (by omega) (by omega), ?_⟩
    simpa using hr
  · rw [List.mem_singleton] at hj
    subst hj
    exact ⟨by omega, by omega, _, h0⟩
theorem SInv.step (w : Wf f) {ins : Tab} {work : List Int} (I : SInv f ins work) {i : Int} (hi : work.getLast? = some i) :
    SInv f (y47 (y3h (defr (yh f i.toNat)) (ydl ins i.toNat)) (y26 f i) (y47 (ydl ins i.toNat) (yp f i) (ins, work.dropLast))).1
      (y47 (y3h (defr (yh f i.toNat)) (ydl ins i.toNat)) (y26 f i) (y47 (ydl ins i.toNat) (yp f i) (ins, work.dropLast))).2 ∧
    2 * pot (lst f.regs).length (y47 (y3h (defr (yh f i.toNat)) (ydl ins i.toNat)) (y26 f i) (y47 (ydl ins i.toNat) (yp f i) (ins, work.dropLast))).1 +
      (y47 (y3h (defr (yh f i.toNat)) (ydl ins i.toNat)) (y26 f i) (y47 (ydl ins i.toNat) (yp f i) (ins, work.dropLast))).2.length + 1 ≤ 2 * pot (lst f.regs).length ins + work.length := by
  have e := y61 hi
  obtain ⟨i0, i1, s, hs⟩ := I.wk i (by rw [e]; simp)
  have hts : ydl ins i.toNat = s := by simp [ydl, hs]
  rw [hts]
  have hsl := I.ok.rows _ _ hs
  have ei : ((i.toNat : Nat) : Int) = i := by omega
  obtain ⟨a1, a2⟩ := yc4 (n := (lst f.code).length) hsl (yp f i) (ins, work.dropLast) I.ok (fun to h => w.caught h)
  generalize y47 s (yp f i) (ins, work.dropLast) = p1 at *
  obtain ⟨b1, b2⟩ := yc4 (n := (lst f.code).length) (s := y3h (defr (yh f i.toNat)) s) (by rw [ynr]; exact hsl) (y26 f i) p1 a1.ok (fun to h => by
    rw [← ei] at h
    exact w.next (by omega) h)
  generalize y47 (y3h (defr (yh f i.toNat)) s) (y26 f i) p1 = p2 at *
  refine ⟨⟨b1.ok, fun j r t ht hr => ?_, fun j t ht => ?_, (I.st.mono a1.le).mono b1.le, fun j hj => ?_⟩, ?_⟩
  · -- what isn't set
    have old : ∀ u, ins[j]? = some (some u) → u[r]? = some false → Rch (lst f.code).length (yj1 f r) [0] j ∧ (r : Int) ∉ lst f.params := fun u h1 h2 => I.src j r u h1 h2
    have hjlt : j < (lst f.code).length := by rw [← b1.ok.len]; exact (List.getElem?_eq_some_iff.1 ht).1
    rcases b1.src j r t ht hr with ⟨u, h1, h2⟩ | ⟨h1, h2⟩
    · rcases a1.src j r u h1 h2 with ⟨v, h3, h4⟩ | ⟨h3, h4⟩
      · exact old v h3 h4
      · obtain ⟨k1, k2⟩ := I.src _ _ _ hs h3
        refine ⟨?_, k2⟩
        have := Rch.step (j := (j : Int)) k1 (by rw [yj1, ei]; exact List.mem_append_left _ h4) (by omega) (by omega)
        simpa using this
    · obtain ⟨h3, h4⟩ := yun h1
      obtain ⟨k1, k2⟩ := I.src _ _ _ hs h4
      refine ⟨?_, k2⟩
      have := Rch.step (j := (j : Int)) k1 (by rw [yj1, if_neg h3, ei]; exact List.mem_append_right _ h2) (by omega) (by omega)
      simpa using this
  · -- closed but for the work
    rcases b1.work j t ht with h | h
    · rcases a1.work j t h with h | h
      · simp only at h
        rcases I.cl j t h with hw | hw
        · rw [e, List.mem_append, List.mem_singleton] at hw
          rcases hw with hw | hw
          · exact .inl (b1.keep _ (a1.keep _ hw))
          · right
            have ej : j = i.toNat := by omega
            subst ej
            rw [hs] at h
            injection h with h; injection h with h
            subst h
            rw [y1js, ei]
            exact ⟨fun to hto => (a2 to hto).mono b1.le, fun to hto => b2 to hto⟩
        · exact .inr ((hw.mono a1.le).mono b1.le)
      · exact .inl (b1.keep _ h)
    · exact .inl h
  · rcases b1.fresh j hj with h | h
    · rcases a1.fresh j h with h | ⟨k1, k2, t, k3⟩
      · obtain ⟨k1, k2, t, k3⟩ := I.wk j (ybh h)
        obtain ⟨t2, k4, _⟩ := a1.le _ _ k3
        obtain ⟨t3, k5, _⟩ := b1.le _ _ k4
        exact ⟨k1, k2, t3, k5⟩
      · obtain ⟨t2, k4, _⟩ := b1.le _ _ k3
        exact ⟨k1, k2, t2, k4⟩
    · exact h
  · have h1 := a1.pot
    have h2 := b1.pot
    have h3 : work.length = work.dropLast.length + 1 := by rw [e]; simp
    simp only at h1
    omega
theorem ygn (w : Wf f) : ∀ (k : Nat) (ins : Tab) (work : List Int), SInv f ins work → 2 * pot (lst f.regs).length ins + work.length < k → ∃ r, yiz f k ins work = some r ∧ SInv f r []
  | 0, _, _, _, h => by omega
  | k + 1, ins, work, I, h => by
    rw [yiz]
    cases hw : work.getLast? with
    | none =>
      rw [List.getLast?_eq_none_iff] at hw
      subst hw
      exact ⟨ins, rfl, I⟩
    | some i =>
      obtain ⟨I2, hp⟩ := I.step w hw
      exact ygn w k _ _ I2 (Nat.le_trans hp (Nat.le_of_lt_succ h))
theorem SInv.tells (w : Wf f) {ins : Tab} (I : SInv f ins []) : (∀ i, i < (lst f.code).length → ∀ u ∈ yiu f i, ∀ s, ins[i]? = some (some s) → s[u.toNat]? = some true) ↔ setP f := by
  constructor
  · intro h r r0 r1 hp ⟨i, hi, hu⟩
    have er : ((r.toNat : Nat) : Int) = r := by omega
    have hle : ∀ {to : Int} {s : List Bool}, LeAt ins to s → s[r.toNat]? ≠ some true → ∃ t, ins[to.toNat]? = some (some t) ∧ t[r.toNat]? = some false := by
      intro to s ⟨t, h1, h2⟩ hne
      refine ⟨t, h1, ?_⟩
      have hl := I.ok.rows _ _ h1
      have hlt : r.toNat < t.length := by omega
      rw [List.getElem?_eq_getElem hlt]
      cases hb : t[r.toNat] with
      | false => rfl
      | true => exact (hne (h2 _ (by rw [List.getElem?_eq_getElem hlt, hb]))).elim
    have key : ∀ {i : Nat}, Rch (lst f.code).length (yj1 f r) [0] i → ∃ t, ins[i]? = some (some t) ∧ t[r.toNat]? = some false := by
      intro i hr
      induction hr with
      | base hj j0 j1 =>
        rw [List.mem_singleton] at hj
        subst hj
        refine hle I.st ?_
        rw [yod (by omega), er]
        simpa using hp
      | step hr hj j0 j1 ih =>
        rename_i i j
        obtain ⟨t, h1, h2⟩ := ih
        rcases I.cl _ _ h1 with hw | ⟨c1, c2⟩
        · cases hw
        · rw [yj1, List.mem_append] at hj
          rcases hj with hj | hj
          · exact hle (c1 _ hj) (by rw [h2]; simp)
          · split at hj
            · cases hj
            · rename_i hd
              refine hle (c2 _ hj) fun ht => ?_
              have := yvs ht (by rw [er]; exact hd)
              rw [h2] at this
              cases this
    obtain ⟨t, h1, h2⟩ := key hi
    have := h i hi.lt r hu t h1
    rw [h2] at this
    cases this
  · intro h i hi u hu s hs
    obtain ⟨u0, u1⟩ := w.uses hi hu
    have hl := I.ok.rows _ _ hs
    have hlt : u.toNat < s.length := by omega
    rw [List.getElem?_eq_getElem hlt]
    cases hb : s[u.toNat] with
    | true => rfl
    | false =>
      obtain ⟨k1, k2⟩ := I.src i u.toNat s hs (by rw [List.getElem?_eq_getElem hlt, hb])
      have eu : ((u.toNat : Nat) : Int) = u := by omega
      rw [eu] at k1 k2
      exact (h u u0 u1 k2 ⟨i, k1, hu⟩).elim
end
end Go.Vm
namespace Go.Vm
open Cel
attribute [local simp] y9 y2a yu
theorem y1ay (o : Option (List Bool)) (h : Heap) : y3q h 1 (slA o) = some ((lst o).map enc) := ye0 o h
theorem yy6 (o : Option (List Bool)) (h : (lst o).length ≤ 1000000) : (yb E).p 78 [slA o] = some (exO o) := by
  rw [y2kb]
  cases o with
  | none => rfl
  | some L =>
    simp only [y5z] at h
    have h1 : 2 * L.length ≤ 281474976710144 := by omega
    simp [y1rt, y1m3, y1q3, y12, y1f, y3y, y1ay, h1]
    exact y38 (α := Bool) (L := L) (by simp)
end Go.Vm
namespace Go.Vm
open Cel
def yld (P : Nat → Nat × Nat) (i : Nat) : Option (List Bool) → List AV
  | none => [.nils]
  | some s => [.ls (P i).1 (P i).2 1 0 s.length]
def y3n (P : Nat → Nat × Nat) (ins : Tab) : List (List AV) := (List.range ins.length).map fun i => yld P i (ins[i]?.join)
structure SRep (f : Fn) (H : Heap) (ins : Tab) (P : Nat → Nat × Nat) : Prop where
  box : H[0]? = some (AB f)
  tab : H[1]? = some ⟨1, .arr false false 1 (y3n P ins)⟩
  obj : ∀ (i : Nat) s, ins[i]? = some (some s) → H[(P i).1]? = some (AL (P i).2 s)
  inj : ∀ (i j : Nat) s t, ins[i]? = some (some s) → ins[j]? = some (some t) → i ≠ j → (P i).1 ≠ (P j).1
  far : ∀ (i : Nat) s, ins[i]? = some (some s) → (P i).1 = 2 ∨ 6 ≤ (P i).1
theorem y8e {P : Nat → Nat × Nat} {ins : Tab} {i : Nat} {x : Option (List Bool)} (h : ins[i]? = some x) : (y3n P ins)[i]? = some (yld P i x) := by
  have hi := (List.getElem?_eq_some_iff.1 h).1
  simp only [y3n, List.getElem?_map, List.getElem?_range hi, Option.map_some, h, Option.join]
  rfl
theorem ycu {P P' : Nat → Nat × Nat} {ins : Tab} {i : Nat} {x : Option (List Bool)} (hi : i < ins.length) (hP : ∀ j, j ≠ i → P' j = P j) : (y3n P ins).set i (yld P' i x) = y3n P' (ins.set i x) := by
  unfold y3n
  rw [List.length_set]
  refine yg5 ?_ fun j hj => ?_
  · simp [hi]
  · rw [List.getElem?_set_ne (fun e => hj e.symm)]
    cases h : ins[j]?.join with
    | none => rfl
    | some s => simp only [yld, hP j hj]
theorem SRep.other {f : Fn} {H : Heap} {ins : Tab} {P : Nat → Nat × Nat} (R : SRep f H ins P) {a : Nat} {x : AO} (ha : a = 3 ∨ a = 4 ∨ a = 5 ∨ H.length ≤ a) : SRep f (H.set a x) ins P := by
  have h0 := y3t R.box
  have h1 := y3t R.tab
  refine ⟨by rw [yx (by omega)]; exact R.box, by rw [yx (by omega)]; exact R.tab, fun i s hs => ?_, R.inj, R.far⟩
  have := R.far i s hs
  have h2 := y3t (R.obj i s hs)
  rw [yx (by omega)]
  exact R.obj i s hs
theorem SRep.more {f : Fn} {H : Heap} {ins : Tab} {P : Nat → Nat × Nat} (R : SRep f H ins P) (n : Nat) : SRep f (H ++ yv n) ins P :=
  ⟨by rw [y1av (y3t R.box)]; exact R.box, by rw [y1av (y3t R.tab)]; exact R.tab, fun i s hs => by rw [y1av (y3t (R.obj i s hs))]; exact R.obj i s hs, R.inj, R.far⟩
theorem SRep.beyond {f : Fn} {H : Heap} {ins : Tab} {P : Nat → Nat × Nat} (R : SRep f H ins P) {a : Nat} {x : AO} (h0 : a ≠ 0) (h1 : a ≠ 1) (ha : ∀ (i : Nat) s, ins[i]? = some (some s) → (P i).1 ≠ a) : SRep f (H.set a x) ins P :=
  ⟨by rw [yx h0]; exact R.box, by rw [yx h1]; exact R.tab, fun i s hs => by rw [yx (fun e => ha i s hs e.symm)]; exact R.obj i s hs, R.inj, R.far⟩
def andK (k : Nat) (t s : List Bool) : List Bool := (List.range t.length).map fun j => if j < k then t.getD j false && s.getD j false else t.getD j false
def ylf (k : Nat) (t s : List Bool) : Bool := (List.range k).any fun j => t.getD j false && !s.getD j false
theorem y23z (k : Nat) (t s : List Bool) : (andK k t s).length = t.length := by simp [andK]
theorem y26u (t s : List Bool) : andK 0 t s = t := by
  refine List.ext_getElem (by simp [andK]) fun i h1 h2 => ?_
  simp [andK, h2]
theorem y1x5 {k : Nat} {t s : List Bool} {j : Nat} (h : j < t.length) : (andK k t s)[j]? = some (if j < k then t.getD j false && s.getD j false else t.getD j false) := by simp [andK, h]
theorem y15q {t s : List Bool} (h : t.length = s.length) : andK t.length t s = andB t s := by
  refine List.ext_getElem (by simp [andK, andB, h]) fun i h1 h2 => ?_
  have hi : i < t.length := by simpa [andK] using h1
  have hi2 : i < s.length := by omega
  simp [andK, andB, hi, hi2]
theorem y1hv {t s : List Bool} (h : t.length = s.length) : ylf t.length t s = yw9 t s := by
  rw [Bool.eq_iff_iff, yei, ylf, List.any_eq_true]
  constructor
  · rintro ⟨j, hj, hb⟩
    rw [List.mem_range] at hj
    have hj2 : j < s.length := by omega
    simp only [List.getD_eq_getElem?_getD, List.getElem?_eq_getElem hj, List.getElem?_eq_getElem hj2, Option.getD_some, Bool.and_eq_true, Bool.not_eq_true'] at hb
    exact ⟨j, by rw [List.getElem?_eq_getElem hj, hb.1], by rw [List.getElem?_eq_getElem hj2, hb.2]⟩
  · rintro ⟨j, h1, h2⟩
    have hj := (List.getElem?_eq_some_iff.1 h1).1
    exact ⟨j, List.mem_range.2 hj, by simp [List.getD_eq_getElem?_getD, h1, h2]⟩
theorem y23f {k : Nat} {t s : List Bool} (ht : t.getD k false = true) (hs : s.getD k false = false) : (andK k t s).set k false = andK (k + 1) t s := by
  unfold andK
  refine yg5 ?_ fun j hj => ?_
  · rw [if_pos (by omega), ht, hs]; rfl
  · by_cases h1 : j < k
    · rw [if_pos (by omega), if_pos h1]
    · rw [if_neg (by omega), if_neg h1]
theorem yrp {k : Nat} {t s : List Bool} (h : (t.getD k false && !s.getD k false) = false) : andK (k + 1) t s = andK k t s := by
  refine List.map_congr_left fun j _ => ?_
  by_cases e : j = k
  · subst e
    rw [if_pos (by omega), if_neg (by omega)]
    cases ht : t.getD j false <;> cases hs : s.getD j false <;> simp_all
  · by_cases h1 : j < k
    · rw [if_pos (by omega), if_pos h1]
    · rw [if_neg (by omega), if_neg h1]
theorem ynt (k : Nat) (t s : List Bool) : ylf (k + 1) t s = (ylf k t s || (t.getD k false && !s.getD k false)) := by
  simp [ylf, List.range_succ]
theorem y1ew (fb : Nat) (v3 : AV) (n to : Nat) (hto : to < n) (id g ga : Nat) (t s : List Bool) (hl : t.length = s.length) (hn : t.length ≤ 9223372036854775806) (hid1 : id ≠ 1) (hid4 : id ≠ 4) (rows : List (List AV)) (hrow : rows[to]? = some [.ls id g 1 0 t.length]) :
    ∀ (d k : Nat) (H : Heap), k + d = t.length → H[1]? = some ⟨1, .arr false false 1 rows⟩ → H[id]? = some (AL g (andK k t s)) → H[4]? = some (AL ga s) →
    yr4 fb (.ls 1 1 1 0 n) (.int .i64 (to : Int)) (.ls 4 ga 1 0 s.length) v3 (.bool (ylf k t s)) (.ls id g 1 0 t.length) (.int .i64 t.length) (.int .i64 k) H =
      y19i fb (.int .i64 (to : Int)) v3 (.bool (yw9 t s)) (H.set id (AL g (andB t s))) := by
  intro d
  induction d with
  | zero =>
    intro k H hk h1 hi h4
    have hk' : k = t.length := by omega
    subst hk'
    have hc : ¬ ((t.length : Int) < (t.length : Int)) := by omega
    rw [yq0]
    simp only [y19y, yq, hc, decide_false, y7, y19v, y25, y1hv hl]
    rw [← y15q hl, yc1 hi]
  | succ d ih =>
    intro k H hk h1 hi h4
    have hlt : k < t.length := by omega
    have hlt2 : k < s.length := by omega
    have hc : ((k : Int) < (t.length : Int)) := by omega
    have hw := y1p hlt (by omega)
    have ixT := yd0 (n := t.length) (p := (k : Int)) (by omega) hc id g .i64
    have ixS := yd0 (n := s.length) (p := (k : Int)) (by omega) (by omega) 4 ga .i64
    have ixI := yd0 (n := n) (p := (to : Int)) (by omega) (by omega) 1 1 .i64
    rw [show ((k : Int)).toNat = k by omega] at ixT ixS
    rw [show ((to : Int)).toNat = to by omega] at ixI
    have gT := y1x5 (k := k) (s := s) hlt
    rw [if_neg (Nat.lt_irrefl _)] at gT
    have lT := y22s (α := Bool) (H := H) (id := id) (g := g) (i := k) (v := .bool (t.getD k false)) hi gT rfl
    have lS := y22s (α := Bool) (H := H) (id := 4) (g := ga) (i := k) (v := .bool (s.getD k false)) h4 (by rw [List.getD_eq_getElem?_getD, List.getElem?_eq_getElem hlt2]; rfl) rfl
    have lI := yca (i := to) h1 hrow
    have ih0 := fun H => ih (k + 1) H (by omega)
    rw [yq0]
    cases hb : (t.getD k false && !s.getD k false) with
    | true =>
      rw [Bool.and_eq_true, Bool.not_eq_true'] at hb
      obtain ⟨b1, b2⟩ := hb
      have hidl := y3t hi
      have st := ype (α := Bool) (H := H) (id := id) (g := g) (i := k) (L := andK k t s) (v := .bool false) (y := false) hi (by rw [y23z]; exact hlt) rfl
      rw [y23f b1 b2] at st
      simp only [yjy] at st
      have ls : ylf (k + 1) t s = true := by rw [ynt, b1, b2]; simp
      have := ih0 (H.set id (AL g (andK (k + 1) t s))) (by rw [yx hid1]; exact h1) (y4c hidl) (by rw [yx hid4]; exact h4)
      rw [List.set_set, ls] at this
      push_cast at this
      rw [b1] at lT
      rw [b2] at lS
      simp only [y19y, yq, hc, decide_true, y7, y19v, y1k, y1km, ixT, lT, ybm, ixS, lS, y2p, Bool.not_false, y2c, ixI, lI, st, ye, y1be, y2e, hw, this]
    | false =>
      have ls : ylf (k + 1) t s = ylf k t s := by rw [ynt, hb, Bool.or_false]
      have := ih0 H h1 (by rw [yrp hb]; exact hi) h4
      rw [ls] at this
      push_cast at this
      cases b1 : t.getD k false with
      | false =>
        rw [b1] at lT
        simp only [y19y, yq, hc, decide_true, y7, y19v, y1k, y1km, ixT, lT, yj5, ym8, y30, y25, y1be, y2e, hw, this]
      | true =>
        rw [b1] at lT
        have b2 : s.getD k false = true := by
          rw [b1] at hb
          simpa using hb
        rw [b2] at lS
        simp only [y19y, yq, hc, decide_true, y7, y19v, y1k, y1km, ixT, lT, ybm, ixS, lS, y2p, Bool.not_true, y2c, y25, y1be, y2e, hw, this]
theorem y27p {H : Heap} {fb j gw g2 : Nat} {work T : List Int} {to : Int} (h3 : H[3]? = some (AI gw (work ++ T))) (hl : H[fb + j]? = some (AI g2 [to])) (hb : work.length + 1 ≤ 137438953472) (sl : Option Nat) :
    y3y fb sl 1 8 (.ls 3 gw 1 0 work.length) (.ls (fb + j) g2 1 0 1) H = some (.ls 3 (gw + 1) 1 0 (work ++ [to]).length, H.set 3 (AI (gw + 1) (work ++ [to]))) :=
  y1r6 (α := Int) (M := [to]) (y1ey (α := Int) (L := [to]) hl) h3 (yqm (by simpa using hb))
theorem y2m4 {f : Fn} {H : Heap} {ins : Tab} {P : Nat → Nat × Nat} (Rp : SRep f H ins P) {n R : Nat} (ok : TblOk n R ins) {s : List Bool} {work T : List Int} {gw ga : Nat} {to : Int} (hs : s.length = R) (hR : R ≤ 1000000) (h3 : H[3]? = some (AI gw (work ++ T))) (h4 : H[4]? = some (AL ga s)) (h6 : 6 ≤ H.length)
    (t0 : 0 ≤ to) (t1 : to < n) (hb : work.length + 1 ≤ 137438953472) :
    ∃ H' P' gw' T', y9 E (yb E) 0 none false 80 [.ls 1 1 1 0 n, .int .i64 to, .ls 4 ga 1 0 R, .ls 3 gw 1 0 work.length] H = some (.ls 3 gw' 1 0 (yd9 s to (ins, work)).2.length, H') ∧
      SRep f H' (yd9 s to (ins, work)).1 P' ∧ H'[3]? = some (AI gw' ((yd9 s to (ins, work)).2 ++ T')) ∧ H'[4]? = some (AL ga s) ∧ H'[5]? = H[5]? ∧ 6 ≤ H'.length := by
  have R0 := Rp.more 5
  have g3 : (H ++ yv 5)[3]? = some (AI gw (work ++ T)) := by rw [y1av (by omega)]; exact h3
  have g4 : (H ++ yv 5)[4]? = some (AL ga s) := by rw [y1av (by omega)]; exact h4
  have g5 : (H ++ yv 5)[5]? = H[5]? := y1av (by omega)
  have ecall : y9 E (yb E) 0 none false 80 [.ls 1 1 1 0 n, .int .i64 to, .ls 4 ga 1 0 R, .ls 3 gw 1 0 work.length] H =
      ymh H.length (.ls 1 1 1 0 n) (.int .i64 to) (.ls 4 ga 1 0 R) (.ls 3 gw 1 0 work.length) (H ++ yv 5) := by
    rw [y9, if_neg (by simp), y2od, if_pos rfl]
    rfl
  rw [ecall]
  have hlen : (H ++ yv 5).length = H.length + 5 := by simp [yv]
  have d0 : (H ++ yv 5)[H.length + 0]? = some ⟨0, .dead⟩ := y24t (by omega)
  have d1 : (H ++ yv 5)[H.length + 1]? = some ⟨0, .dead⟩ := y24t (by omega)
  have d3 : (H ++ yv 5)[H.length + 3]? = some ⟨0, .dead⟩ := y24t (by omega)
  have dead : ∀ (i : Nat) u, ins[i]? = some (some u) → (P i).1 < H.length := fun i u hu => y3t (Rp.obj i u hu)
  generalize hH0 : H ++ yv 5 = H0 at *
  have ixI := yd0 (n := n) (p := to) t0 (by omega) 1 1 .i64
  have hlt : to.toNat < ins.length := by rw [ok.len]; omega
  obtain ⟨x, hx⟩ : ∃ x, ins[to.toNat]? = some x := ⟨_, List.getElem?_eq_getElem hlt⟩
  have hrow := y8e (P := P) hx
  cases x with
  | none =>
    have hm : yd9 s to (ins, work) = (ins.set to.toNat (some s), work ++ [to]) := by rw [yd9, hx]
    rw [hm]
    have lI := yca (i := to.toNat) R0.tab hrow
    have hE : y4q 1 false .nils .nils = some (.bool true) := rfl
    have ha : ym (fz H0 y19) [.ls 4 ga 1 0 R] = some ⟨[slA (some s)], true, [4]⟩ := by
      have hz := y27a (α := Bool) (k := 10) g4
      rw [hs] at hz
      have hz' : fz H0 y19 (.ls 4 ga 1 0 R) = some ⟨slA (some s), s.all scal, [4]⟩ := hz
      rw [yr, hz', y18]
      simp
    have c1 := ysw (α := Bool) (E := E) (C := yb E) (fb := H.length) (j := 0) (f := 78) (H := H0) (N := some s) rfl ha (yy6 (some s) (by simp only [y5z]; omega)) (by simp) d0
    simp only [ownV, ownO, yjy, hs] at c1
    have st1 := y15r (H := H0.set (H.length + 0) (AL 1 s)) (id := 1) (g := 1) (i := to.toNat) (rows := y3n P ins) (v := .ls (H.length + 0) 1 1 0 R) (w := .nils) (by rw [yx (by omega)]; exact R0.tab) hrow rfl rfl
    have hrows : (y3n P ins).set to.toNat [.ls (H.length + 0) 1 1 0 R] = y3n (fun j => if j = to.toNat then (H.length + 0, 1) else P j) (ins.set to.toNat (some s)) := by
      rw [← ycu (P := P) (P' := fun j => if j = to.toNat then (H.length + 0, 1) else P j) (x := some s) hlt (fun j hj => by rw [if_neg hj])]
      simp only [yld, if_true, hs]
    rw [hrows] at st1
    have b1 := yui (H := (H0.set (H.length + 0) (AL 1 s)).set 1 ⟨1, .arr false false 1 (y3n (fun j => if j = to.toNat then (H.length + 0, 1) else P j) (ins.set to.toNat (some s)))⟩) (fb := H.length) (j := 1) (o := ⟨0, .dead⟩) to (by
      rw [yx (by omega), yx (by omega)]; exact d1)
    have a1 := y27p (H := ((H0.set (H.length + 0) (AL 1 s)).set 1 ⟨1, .arr false false 1 (y3n (fun j => if j = to.toNat then (H.length + 0, 1) else P j) (ins.set to.toNat (some s)))⟩).set (H.length + 1) (AI 1 [to])) (fb := H.length) (j := 1) (gw := gw) (g2 := 1) (work := work) (T := T) (to := to)
      (by rw [yx (by omega), yx (by omega), yx (by omega)]; exact g3) (y4c (by rw [List.length_set, List.length_set]; omega)) hb (some 2)
    simp only [Nat.zero_add] at b1
    refine ⟨(((H0.set (H.length + 0) (AL 1 s)).set 1 ⟨1, .arr false false 1 (y3n (fun j => if j = to.toNat then (H.length + 0, 1) else P j) (ins.set to.toNat (some s)))⟩).set (H.length + 1) (AI 1 [to])).set 3 (AI (gw + 1) (work ++ [to])), fun j => if j = to.toNat then (H.length + 0, 1) else P j, gw + 1, [], ?_, ?_, ?_, ?_, ?_, ?_⟩
    · simp only [ymh, ixI, y7, lI, hE, y1k, c1, ye, st1, b1, a1]
    · have nf : ∀ (i : Nat) u, (ins.set to.toNat (some s))[i]? = some (some u) → (i = to.toNat ∧ u = s) ∨ (i ≠ to.toNat ∧ ins[i]? = some (some u)) := fun i u hu => by
        rcases y7w hu with ⟨e, e2⟩ | h
        · injection e2 with e2; exact .inl ⟨e, e2⟩
        · exact .inr h
      refine ⟨?_, ?_, fun i u hu => ?_, fun i j u v hu hv hij => ?_, fun i u hu => ?_⟩
      · rw [yx (by omega), yx (by omega), yx (by omega), yx (by omega)]; exact R0.box
      · rw [yx (by omega), yx (by omega), y4c (by rw [List.length_set]; omega)]
      · rcases nf i u hu with ⟨e, e2⟩ | ⟨e, h⟩
        · subst e2
          rw [if_pos e, yx (by omega), yx (by omega), yx (by omega), y4c (by omega)]
        · have h1 := Rp.far i u h
          have h2 := dead i u h
          rw [if_neg e, yx (by omega), yx (by omega), yx (by omega), yx (by omega)]
          exact R0.obj i u h
      · rcases nf i u hu with ⟨e, _⟩ | ⟨e, h⟩
        · rcases nf j v hv with ⟨e', _⟩ | ⟨e', h'⟩
          · omega
          · have := dead j v h'
            rw [if_pos e, if_neg e']; simp only; omega
        · rcases nf j v hv with ⟨e', _⟩ | ⟨e', h'⟩
          · have := dead i u h
            rw [if_neg e, if_pos e']; simp only; omega
          · rw [if_neg e, if_neg e']; exact Rp.inj i j u v h h' hij
      · rcases nf i u hu with ⟨e, _⟩ | ⟨e, h⟩
        · rw [if_pos e]; right; simp only; omega
        · rw [if_neg e]; exact Rp.far i u h
    · rw [y4c (by simp only [List.length_set]; omega), List.append_nil]
    · rw [yx (by omega), yx (by omega), yx (by omega), yx (by omega)]; exact g4
    · rw [yx (by omega), yx (by omega), yx (by omega), yx (by omega)]; exact g5
    · simp only [List.length_set]; omega
  | some t =>
    have ht := ok.rows _ _ hx
    have lI := yca (i := to.toNat) R0.tab hrow
    have hE : y4q 1 false (.ls (P to.toNat).1 (P to.toNat).2 1 0 t.length) .nils = some (.bool false) := rfl
    have hfar := Rp.far _ _ hx
    have hobj := R0.obj _ _ hx
    have hid := dead _ _ hx
    have eto : ((to.toNat : Nat) : Int) = to := by omega
    have lp := y1ew H.length (.ls 3 gw 1 0 work.length) n to.toNat (by omega) (P to.toNat).1 (P to.toNat).2 ga t s (by omega) (by omega) (by omega) (by omega) (y3n P ins) hrow _ 0 H0 (Nat.zero_add _) R0.tab (by rw [y26u]; exact hobj) g4
    have lk0 : ylf 0 t s = false := rfl
    rw [lk0, eto, hs] at lp
    simp only [Int.ofNat_zero] at lp
    have e12 : ymh H.length (.ls 1 1 1 0 n) (.int .i64 to) (.ls 4 ga 1 0 R) (.ls 3 gw 1 0 work.length) H0 = y19i H.length (.int .i64 to) (.ls 3 gw 1 0 work.length) (.bool (yw9 t s)) (H0.set (P to.toNat).1 (AL (P to.toNat).2 (andB t s))) := by
      rw [← lp]
      simp only [ymh, ixI, y7, lI, hE, y25, y1gy, y2g5, y48]
    rw [e12]
    have hal : (andB t s).length = t.length := y17g (by omega)
    have RA : SRep f (H0.set (P to.toNat).1 (AL (P to.toNat).2 (andB t s))) (ins.set to.toNat (some (andB t s))) P := by
      refine ⟨by rw [yx (by omega)]; exact R0.box, ?_, fun i u hu => ?_, fun i j u v hu hv hij => ?_, fun i u hu => ?_⟩
      · rw [yx (by omega), R0.tab]
        congr 3
        rw [← ycu (P := P) (P' := P) hlt (fun _ _ => rfl)]
        have : yld P to.toNat (some (andB t s)) = yld P to.toNat (some t) := by simp only [yld, hal]
        rw [this, y14l hrow]
      · rcases y7w hu with ⟨e, e2⟩ | ⟨e, h⟩
        · injection e2 with e2; subst e2; subst e
          exact y4c (by omega)
        · rw [yx (fun e3 => Rp.inj _ _ _ _ hx h (fun e4 => e e4.symm) e3)]
          exact R0.obj i u h
      · have key : ∀ (i : Nat) u, (ins.set to.toNat (some (andB t s)))[i]? = some (some u) → ∃ u', ins[i]? = some (some u') := fun i u hu => by
          rcases y7w hu with ⟨e, _⟩ | ⟨_, h⟩
          · subst e; exact ⟨t, hx⟩
          · exact ⟨u, h⟩
        obtain ⟨u', h1⟩ := key i u hu
        obtain ⟨v', h2⟩ := key j v hv
        exact Rp.inj i j u' v' h1 h2 hij
      · rcases y7w hu with ⟨e, _⟩ | ⟨_, h⟩
        · subst e; exact hfar
        · exact Rp.far i u h
    have k3 : (H0.set (P to.toNat).1 (AL (P to.toNat).2 (andB t s)))[3]? = some (AI gw (work ++ T)) := by rw [yx (by omega)]; exact g3
    have k4 : (H0.set (P to.toNat).1 (AL (P to.toNat).2 (andB t s)))[4]? = some (AL ga s) := by rw [yx (by omega)]; exact g4
    have k5 : (H0.set (P to.toNat).1 (AL (P to.toNat).2 (andB t s)))[5]? = H[5]? := by rw [yx (by omega)]; exact g5
    cases hb2 : yw9 t s with
    | true =>
      have hm : yd9 s to (ins, work) = (ins.set to.toNat (some (andB t s)), work ++ [to]) := by rw [yd9, hx]; simp [hb2]
      rw [hm]
      have b1 := yui (H := H0.set (P to.toNat).1 (AL (P to.toNat).2 (andB t s))) (fb := H.length) (j := 3) (o := ⟨0, .dead⟩) to (by rw [yx (by omega)]; exact d3)
      have a1 := y27p (H := (H0.set (P to.toNat).1 (AL (P to.toNat).2 (andB t s))).set (H.length + 3) (AI 1 [to])) (fb := H.length) (j := 3) (gw := gw) (g2 := 1) (work := work) (T := T) (to := to)
        (by rw [yx (by omega)]; exact k3) (y4c (by rw [List.length_set]; omega)) hb (some 4)
      simp only [Nat.zero_add] at b1
      refine ⟨((H0.set (P to.toNat).1 (AL (P to.toNat).2 (andB t s))).set (H.length + 3) (AI 1 [to])).set 3 (AI (gw + 1) (work ++ [to])), P, gw + 1, [], ?_, ?_, ?_, ?_, ?_, ?_⟩
      · simp only [y19i, y1k, b1, ye, a1, y1dw]
      · refine (RA.beyond (a := H.length + 3) (by omega) (by omega) (fun i u hu => ?_)).other (.inl rfl)
        rcases y7w hu with ⟨e, _⟩ | ⟨_, h⟩
        · subst e; omega
        · have := dead i u h; omega
      · rw [y4c (by simp only [List.length_set]; omega), List.append_nil]
      · rw [yx (by omega), yx (by omega)]; exact k4
      · rw [yx (by omega), yx (by omega)]; exact k5
      · simp only [List.length_set]; omega
    | false =>
      have hm : yd9 s to (ins, work) = (ins, work) := by rw [yd9, hx]; simp [hb2]
      rw [hm]
      have eA : andB t s = t := by
        rw [← y15q (by omega : t.length = s.length)]
        have : ∀ k, k ≤ t.length → andK k t s = t := by
          intro k
          induction k with
          | zero => intro _; exact y26u t s
          | succ k ih =>
            intro hk
            rw [yrp, ih (by omega)]
            cases hc : (t.getD k false && !s.getD k false) with
            | false => rfl
            | true =>
              rw [Bool.and_eq_true, Bool.not_eq_true'] at hc
              have q1 : t[k]? = some true := by
                have := hc.1
                rw [List.getD_eq_getElem?_getD, List.getElem?_eq_getElem (by omega)] at this
                rw [List.getElem?_eq_getElem (by omega)]; simpa using this
              have q2 : s[k]? = some false := by
                have := hc.2
                rw [List.getD_eq_getElem?_getD, List.getElem?_eq_getElem (by omega)] at this
                rw [List.getElem?_eq_getElem (by omega)]; simpa using this
              have := yei.2 ⟨k, q1, q2⟩
              rw [hb2] at this; cases this
        exact this _ (Nat.le_refl _)
      refine ⟨H0.set (P to.toNat).1 (AL (P to.toNat).2 (andB t s)), P, gw, T, ?_, ?_, k3, k4, k5, ?_⟩
      · simp only [y19i, y25, y1dw]
      · have : SRep f (H0.set (P to.toNat).1 (AL (P to.toNat).2 (andB t s))) ins P := by
          rw [eA, yc1 hobj]; exact R0
        exact this
      · simp only [List.length_set]; omega
end Go.Vm
namespace Go.Vm
open Cel
attribute [local simp] y9 y2a yu
theorem y2l5 (x : Ins) (h : x.op = 4 ∨ x.op = 6 ∨ x.op = 7 ∨ x.op = 8 ∨ x.op = 10 ∨ x.op = 12 ∨ x.op = 15 ∨ x.op = 16 ∨ x.op = 19 ∨ x.op = 21 ∨ x.op = 22 ∨ x.op = 31) : (yb E).p 10 [.agg (enc x)] = some (exO (uses x)) := by
  rw [yvy]
  rcases h with h|h|h|h|h|h|h|h|h|h|h|h <;> (simp [h, uses, calls, reads, yd8, ydk, yeq, yeh, yeo, ybb, ye1, yef, ye5, y4x, y6s, y3f, y74, y6z, y6v, y12, y1f]; exact y38 (α := Int) (L := [x.a]) (by simp))
theorem y2hp (x : Ins) (h : x.op = 5 ∨ x.op = 9 ∨ x.op = 11 ∨ x.op = 13 ∨ x.op = 17 ∨ x.op = 28) : (yb E).p 10 [.agg (enc x)] = some (exO (uses x)) := by
  rw [yvy]
  rcases h with h|h|h|h|h|h <;> (simp [h, uses, calls, reads, yd8, ydk, yeq, yeh, yeo, ybb, ye1, yef, ye5, y4x, y6s, y3f, y74, y6z, y6v, y12, y1f]; exact y38 (α := Int) (L := [x.a, x.b]) (by simp))
theorem y2h7 (x : Ins) (h : x.op = 14) : (yb E).p 10 [.agg (enc x)] = some (exO (uses x)) := by
  rw [yvy]
  simp [h, uses, calls, reads, yd8, ydk, yeq, yeh, yeo, ybb, ye1, yef, ye5, y4x, y6s, y3f, y74, y6z, y6v, y12, y1f]
  exact y38 (α := Int) (L := [x.a, x.b, x.c]) (by simp)
theorem y2m1 (x : Ins) (h : x.op = 23 ∨ x.op = 24 ∨ x.op = 25 ∨ x.op = 26) (hl : (lst x.args).length ≤ 17592186043904) : (yb E).p 10 [.agg (enc x)] = some (exO (uses x)) := by
  rw [yvy]
  have e : uses x = x.args := by rcases h with h|h|h|h <;> simp [h, uses, calls]
  rw [e]
  have hc := y8l x.args hl
  cases ha : x.args with
  | none =>
    rw [ha] at hc
    rcases h with h|h|h|h <;> (simp [h, yd8, ydk, yeq, yeh, yeo, ybb, ye1, yef, ye5, y4x, y6s, y3f, y74, y6z, y6v, ha, hc, exO, y2b, reloc, y8s, y2n]; done)
  | some L =>
    rw [ha] at hc
    rcases h with h|h|h|h <;> (simp [h, yd8, ydk, yeq, yeh, yeo, ybb, ye1, yef, ye5, y4x, y6s, y3f, y74, y6z, y6v, ha, hc, y2b, y4t, okOC, reloc, y8s, y2n, exO]; exact y38 (α := Int) (L := L) (by simp))
theorem y2ki (x : Ins) (h : x.op = 29) : (yb E).p 10 [.agg (enc x)] = some (exO (uses x)) := by
  rw [yvy]
  by_cases hb : x.b < 0
  · simp [hb, h, uses, calls, reads, yd8, ydk, yeq, yeh, yeo, ybb, ye1, yef, ye5, y4x, y6s, y3f, y74, y6z, y6v, y12, y1f]
    exact y38 (α := Int) (L := [x.a]) (by simp)
  · simp [hb, h, uses, calls, reads, yd8, ydk, yeq, yeh, yeo, ybb, ye1, yef, ye5, y4x, y6s, y3f, y74, y6z, y6v, y12, y1f]
    exact y38 (α := Int) (L := [x.a, x.b]) (by simp)
theorem y2kx (x : Ins) (h : x.op = 30) : (yb E).p 10 [.agg (enc x)] = some (exO (uses x)) := by
  rw [yvy]
  by_cases hb : 0 ≤ x.a
  · simp [hb, h, uses, calls, reads, yd8, ydk, yeq, yeh, yeo, ybb, ye1, yef, ye5, y4x, y6s, y3f, y74, y6z, y6v, y12, y1f]
    exact y38 (α := Int) (L := [x.a]) (by simp)
  · simp [hb, h, uses, calls, reads, yd8, ydk, yeq, yeh, yeo, ybb, ye1, yef, ye5, y4x, y6s, y3f, y74, y6z, y6v, y12, y1f, exO]
theorem y2hf (x : Ins) (h : x.op = 1 ∨ x.op = 2 ∨ x.op = 3 ∨ x.op = 18 ∨ x.op = 20 ∨ x.op = 27 ∨ x.op = 32 ∨ x.op = 33 ∨ x.op < 1 ∨ 33 < x.op) : (yb E).p 10 [.agg (enc x)] = some (exO (uses x)) := by
  rw [yvy]
  rcases h with h|h|h|h|h|h|h|h|h|h
  all_goals first | (simp [h, uses, calls, reads, yd8, ydk, yeq, yeh, yeo, ybb, ye1, yef, ye5, y4x, y6s, y3f, y74, y6z, y6v, exO]; done) | (simp [lo_f h, uses, calls, reads, yd8, ydk, yeq, yeh, yeo, ybb, ye1, yef, ye5, y4x, y6s, y3f, y74, y6z, y6v, exO]; done) | simp [hi_f h, uses, calls, reads, yd8, ydk, yeq, yeh, yeo, ybb, ye1, yef, ye5, y4x, y6s, y3f, y74, y6z, y6v, exO]
theorem y2l6 (x : Ins) (hl : (lst x.args).length ≤ 17592186043904) : (yb E).p 10 [.agg (enc x)] = some (exO (uses x)) := by
  by_cases h1 : x.op = 4 ∨ x.op = 6 ∨ x.op = 7 ∨ x.op = 8 ∨ x.op = 10 ∨ x.op = 12 ∨ x.op = 15 ∨ x.op = 16 ∨ x.op = 19 ∨ x.op = 21 ∨ x.op = 22 ∨ x.op = 31
  · exact y2l5 x h1
  by_cases h2 : x.op = 5 ∨ x.op = 9 ∨ x.op = 11 ∨ x.op = 13 ∨ x.op = 17 ∨ x.op = 28
  · exact y2hp x h2
  by_cases h4 : x.op = 23 ∨ x.op = 24 ∨ x.op = 25 ∨ x.op = 26
  · exact y2m1 x h4 hl
  by_cases h5 : x.op = 29
  · exact y2ki x h5
  by_cases h6 : x.op = 30
  · exact y2kx x h6
  by_cases h3 : x.op = 14
  · exact y2h7 x h3
  exact y2hf x (by omega)
end Go.Vm
namespace Go.Vm
open Cel
theorem ymt {f : Fn} {n R ga : Nat} {s : List Bool} (hs : s.length = R) (hR : R ≤ 1000000) {l : List Int} (hl : ∀ to ∈ l, 0 ≤ to ∧ to < (n : Int)) (G : AV → Nat → Heap → Option (Ex AV))
    (step : ∀ w k to H, l[k]? = some to → G w k H = oh (y9 E (yb E) 0 none false 80 [.ls 1 1 1 0 n, .int .i64 to, .ls 4 ga 1 0 R, w] H) fun w' H' => G w' (k + 1) H') :
    ∀ (d k : Nat) (H : Heap) (ins : Tab) (work T : List Int) (P : Nat → Nat × Nat) (gw : Nat), k + d = l.length → SRep f H ins P → TblOk n R ins → H[3]? = some (AI gw (work ++ T)) → H[4]? = some (AL ga s) → 6 ≤ H.length → 2 * pot R ins + work.length ≤ 137438953471 →
    ∃ H' P' gw' T', G (.ls 3 gw 1 0 work.length) k H = G (.ls 3 gw' 1 0 (y47 s (l.drop k) (ins, work)).2.length) l.length H' ∧ SRep f H' (y47 s (l.drop k) (ins, work)).1 P' ∧ H'[3]? = some (AI gw' ((y47 s (l.drop k) (ins, work)).2 ++ T')) ∧
      H'[4]? = some (AL ga s) ∧ 6 ≤ H'.length := by
  intro d
  induction d with
  | zero =>
    intro k H ins work T P gw hk Rp ok h3 h4 h6 hb
    have e : l.drop k = [] := List.drop_eq_nil_of_le (by omega)
    have hk' : k = l.length := by omega
    rw [e, hk']
    exact ⟨H, P, gw, T, rfl, Rp, h3, h4, h6⟩
  | succ d ih =>
    intro k H ins work T P gw hk Rp ok h3 h4 h6 hb
    have hlt : k < l.length := by omega
    have hto := hl _ (List.getElem_mem hlt)
    rw [List.drop_eq_getElem_cons hlt, y47]
    have st := step (.ls 3 gw 1 0 work.length) k _ H (List.getElem?_eq_getElem hlt)
    generalize l[k] = to at *
    obtain ⟨H1, P1, g1, T1, e1, R1, a3, a4, a5, a6⟩ := y2m4 Rp ok hs hR h3 h4 h6 hto.1 hto.2 (by omega)
    obtain ⟨m1, _⟩ := ynv (n := n) (R := R) (s := s) (to := to) (p := (ins, work)) ok hs hto.1 hto.2
    rw [e1, ye] at st
    have mp := m1.pot
    have mo := m1.ok
    generalize yd9 s to (ins, work) = q at *
    obtain ⟨q1, q2⟩ := q
    simp only at *
    obtain ⟨H2, P2, g2, T2, e2, r2⟩ := ih (k + 1) H1 q1 q2 T1 P1 g1 (by omega) R1 mo a3 a4 a6 (by omega)
    exact ⟨H2, P2, g2, T2, by rw [st, e2], r2⟩
theorem y27l {f : Fn} {H : Heap} (h : H[0]? = some (AB f)) : evLd true 5 (.lp 0 1 0 0) H = some (.agg (enc f)) := by
  have hr : yn H 0 1 = some (false, 5, [enc f]) := by simp [yn, y3m, h]
  simp [y3e, hr]
theorem yvp {f : Fn} {H : Heap} (h : H[0]? = some (AB f)) : evLd false 1 (.lp 0 1 0 3) H = some (slA f.code) := by
  have hr : yn H 0 1 = some (false, 5, [enc f]) := by simp [yn, y3m, h]
  simp [y3e, hr]
theorem y2lk (f : Fn) (i : Int) (H : Heap) : ym (fz H y19) [.agg (enc f), .int .i64 i] = some ⟨[.agg (enc f), .int .i64 i], scal f && (true && true), []⟩ := by
  rw [yr, yr, ya7, y1kw, y18]; rfl
theorem fz_x (x : Ins) (H : Heap) : ym (fz H y19) [.agg (enc x)] = some ⟨[.agg (enc x)], scal x && true, []⟩ := by
  rw [yr, ya7, y18]; rfl
section
variable {f : Fn} (w : Wf f) (hr : (lst f.rows).length ≤ 10000000000000)
include w hr
theorem y24q : ∀ (k : Nat) (H : Heap) (ins : Tab) (work T : List Int) (P : Nat → Nat × Nat) (gw : Nat) (r : Tab), SInv f ins work → SRep f H ins P → H[3]? = some (AI gw (work ++ T)) → 6 ≤ H.length → 2 * pot (lst f.regs).length ins + work.length ≤ 137438953471 → yiz f k ins work = some r →
    ∃ H' P', yey (.lp 0 1 0 0) (.ls 1 1 1 0 (lst f.code).length) (.ls 3 gw 1 0 work.length) H = ys5 (.lp 0 1 0 0) (.ls 1 1 1 0 (lst f.code).length) H' ∧ SRep f H' r P' ∧ 6 ≤ H'.length := by
  have hn := w.n2
  have hR := w.regs
  intro k
  induction k with
  | zero => intro H ins work T P gw r _ _ _ _ _ h; cases h
  | succ k ih =>
    intro H ins work T P gw r I Rp h3 h6 hb h
    rw [yiz] at h
    rw [y1b1]
    cases hop : work.getLast? with
    | none =>
      rw [hop] at h
      injection h with h
      subst h
      rw [List.getLast?_eq_none_iff] at hop
      subst hop
      refine ⟨H, P, ?_, Rp, h6⟩
      simp only [yrd, List.length_nil, y48, y7, y44, show ¬ (0 : Int) < ((0 : Nat) : Int) by omega, decide_false, y25]
    | some i =>
      rw [hop] at h
      simp only at h
      have Is := I.step w hop
      have e := y61 hop
      obtain ⟨i0, i1, s, hs⟩ := I.wk i (by rw [e]; simp)
      have hts : ydl ins i.toNat = s := by simp [ydl, hs]
      rw [hts] at h Is
      obtain ⟨Is1, Is2⟩ := Is
      have hsl := I.ok.rows _ _ hs
      have ei : ((i.toNat : Nat) : Int) = i := by omega
      generalize work.dropLast = L at *
      subst e
      have q1 : ((L ++ [i]).length : Int) = (L.length : Int) + 1 := by simp
      have q2 : (L ++ [i]).length = L.length + 1 := by simp
      rw [q2] at hb Is2
      have hp : (0 : Int) < (L.length : Int) + 1 := by omega
      have hw : IntKind.wrap .i64 ((L.length : Int) + 1 - 1) = (L.length : Int) := by rw [y33] <;> omega
      have s1 := y26q 3 gw L.length
      have s2 := y1hn 3 gw L.length
      have s3 : evLd false 1 (.lp 3 gw L.length 0) H = some (.int .i64 i) := y2m0 (T := T) (by simp [yn, y3m, h3])
      have e40 : yrd (.lp 0 1 0 0) (.ls 1 1 1 0 (lst f.code).length) (.ls 3 gw 1 0 (L ++ [i]).length) H = y17l (.lp 0 1 0 0) (.ls 1 1 1 0 (lst f.code).length) (.ls 3 gw 1 0 L.length) (.int .i64 i) H := by
        rw [yrd, y48, y7, q1, y44, y7, decide_eq_true hp, y1k, y1oy, y48, y7, q1, yi8, y7, hw, q2, s1, y7, s3, y7, y1ee, y48, y7, ← q2, q1, yi8, y7, hw, q2, s2, y7]
      rw [e40]
      -- the copy
      obtain ⟨o4, d4⟩ : ∃ o, H[0 + 4]? = some o := ⟨_, List.getElem?_eq_getElem (by omega)⟩
      have ixI := yd0 (n := (lst f.code).length) i0 i1 1 1 .i64
      have lI := yca Rp.tab (y8e (P := P) hs)
      have hz : fz H y19 (.ls (P i.toNat).1 (P i.toNat).2 1 0 s.length) = some ⟨slA (some s), s.all scal, [(P i.toNat).1]⟩ := y27a (α := Bool) (k := 10) (Rp.obj _ _ hs)
      have ha : ym (fz H y19) [.ls (P i.toNat).1 (P i.toNat).2 1 0 s.length] = some ⟨[slA (some s)], s.all scal && true, [(P i.toNat).1]⟩ := by
        rw [yr, hz, y18]; rfl
      have c1 := ysw (α := Bool) (E := E) (C := yb E) (fb := 0) (j := 4) (f := 78) (H := H) (N := some s) rfl ha (yy6 (some s) (by simp only [y5z]; omega)) (by simp) d4
      simp only [ownV, ownO, yjy, Nat.zero_add] at c1
      have R1 := Rp.other (a := 4) (x := AL (o4.gen + 1) s) (.inr (.inl rfl))
      have k3 : (H.set 4 (AL (o4.gen + 1) s))[3]? = some (AI gw (L ++ (i :: T))) := by rw [yx (by omega), h3, List.append_assoc]; rfl
      have k4 : (H.set 4 (AL (o4.gen + 1) s))[4]? = some (AL (o4.gen + 1) s) := y4c (by omega)
      have k6 : 6 ≤ (H.set 4 (AL (o4.gen + 1) s)).length := by rw [List.length_set]; exact h6
      generalize H.set 4 (AL (o4.gen + 1) s) = H1 at *
      generalize o4.gen + 1 = ga at *
      -- where a fault leads
      have cC : ∀ H, y9 E (yb E) 0 none true 79 [.agg (enc f), .int .i64 i] H = some (slA (nz (yp f i)), H) := fun H => y24 rfl (y2lk f i H) rfl (y15u f i (by omega)) ⟨_, ym9 _, rfl⟩
      have cN : ∀ H, y9 E (yb E) 0 none true 81 [.agg (enc f), .int .i64 i] H = some (slA (nz (y26 f i)), H) := fun H => y24 rfl (y2lk f i H) rfl (y26n f i (by omega)) ⟨_, ym9 _, rfl⟩
      have cD : ∀ H, y9 E (yb E) 0 none true 9 [.agg (enc (yh f i.toNat))] H = some (.int .i64 (defr (yh f i.toNat)), H) := fun H => y24 rfl (fz_x _ H) rfl (y2k4 _) ⟨_, rfl, rfl⟩
      obtain ⟨m1, _⟩ := yc4 (n := (lst f.code).length) hsl (yp f i) (ins, L) I.ok (fun to h => w.caught h)
      have lC := w.caught_len i
      have lN := yud f i
      obtain ⟨H2, P2, g2, T2, e2, R2, n3, n4, n6⟩ := ymt (f := f) (ga := ga) hsl (by omega) (l := yp f i) (fun to h => w.caught h)
        (fun v k H => yfm (.lp 0 1 0 0) (.ls 1 1 1 0 (lst f.code).length) v (.int .i64 i) (.ls 4 ga 1 0 (lst f.regs).length) (slA (nz (yp f i))) (.int .i64 (yp f i).length) (.int .i64 k) H)
        (fun v k to H hk => by
          have hlt := (List.getElem?_eq_some_iff.1 hk).1
          have hc : ((k : Int) < ((yp f i).length : Int)) := by omega
          have hw2 := y1p hlt (by omega)
          have kx := y3c (o := nz (yp f i)) (i := k) (by rw [yce]; exact hk) .i64
          have lx : evLd false 1 (.rp [.int .i64 to]) H = some (.int .i64 to) := by simp
          rw [ylo]
          simp only [y148, yq, y7, hc, decide_true, y16n, y1k, y1mv, kx, lx, y1t7, y2e, hw2]
          rfl)
        _ 0 H1 ins L (i :: T) P gw (Nat.zero_add _) R1 I.ok k3 k4 k6 (by omega)
      rw [List.drop_zero] at e2 R2 n3
      simp only [Int.ofNat_zero] at e2
      have mp := m1.pot
      have mo := m1.ok
      simp only at mp
      generalize y47 s (yp f i) (ins, L) = p1 at *
      obtain ⟨ins1, w1⟩ := p1
      simp only at h Is1 Is2 e2 R2 n3 mp mo
      -- what is written
      have hlt : i.toNat < (lst f.code).length := by omega
      have k9 := y8o (o := f.code) i0 (y5g hlt) .i64
      have lx : ∀ t : Heap, evLd true 9 (.rp (enc (yh f i.toNat))) t = some (.agg (enc (yh f i.toNat))) := fun t => by simp
      have e27 : yo7 (.lp 0 1 0 0) (.ls 1 1 1 0 (lst f.code).length) (.ls 3 g2 1 0 w1.length) (.int .i64 i) (.ls 4 ga 1 0 (lst f.regs).length) H2 =
          ymp (.lp 0 1 0 0) (.ls 1 1 1 0 (lst f.code).length) (.ls 3 g2 1 0 w1.length) (.int .i64 i) (.ls 4 ga 1 0 (lst f.regs).length) (H2.set 4 (AL ga (y3h (defr (yh f i.toNat)) s))) := by
        by_cases hd : 0 ≤ defr (yh f i.toNat)
        · have hd2 := w.def hlt hd
          have ixD := yd0 (n := (lst f.regs).length) hd hd2 4 ga .i64
          have st := ype (α := Bool) (H := H2) (id := 4) (g := ga) (i := (defr (yh f i.toNat)).toNat) (L := s) (v := .bool true) (y := true) n4 (by omega) rfl
          simp only [yjy] at st
          simp only [yo7, y51, Nat.zero_add, y7, yvp R2.box, k9, lx, cD, ye, yan, hd, decide_true, y1k, ixD, st, y3h, if_true]
        · simp only [yo7, y51, Nat.zero_add, y7, yvp R2.box, k9, lx, cD, ye, yan, hd, decide_false, y25, y3h, if_false, yc1 n4]
      have R3 := R2.other (a := 4) (x := AL ga (y3h (defr (yh f i.toNat)) s)) (.inr (.inl rfl))
      have x3 : (H2.set 4 (AL ga (y3h (defr (yh f i.toNat)) s)))[3]? = some (AI g2 (w1 ++ T2)) := by rw [yx (by omega)]; exact n3
      have x4 : (H2.set 4 (AL ga (y3h (defr (yh f i.toNat)) s)))[4]? = some (AL ga (y3h (defr (yh f i.toNat)) s)) := y4c (by omega)
      have x6 : 6 ≤ (H2.set 4 (AL ga (y3h (defr (yh f i.toNat)) s))).length := by rw [List.length_set]; exact n6
      have hwl : (y3h (defr (yh f i.toNat)) s).length = (lst f.regs).length := by rw [ynr]; exact hsl
      generalize H2.set 4 (AL ga (y3h (defr (yh f i.toNat)) s)) = H3 at *
      generalize y3h (defr (yh f i.toNat)) s = s' at *
      have hNr : ∀ to ∈ y26 f i, 0 ≤ to ∧ to < ((lst f.code).length : Int) := fun to h => by
        rw [← ei] at h
        exact w.next hlt h
      obtain ⟨H4, P4, g4, T4, e4, R4, y3, y4, y6⟩ := ymt (f := f) (ga := ga) hwl (by omega) (l := y26 f i) hNr
        (fun v k H => ycw (.lp 0 1 0 0) (.ls 1 1 1 0 (lst f.code).length) v (.ls 4 ga 1 0 (lst f.regs).length) (slA (nz (y26 f i))) (.int .i64 (y26 f i).length) (.int .i64 k) H)
        (fun v k to H hk => by
          have hlt := (List.getElem?_eq_some_iff.1 hk).1
          have hc : ((k : Int) < ((y26 f i).length : Int)) := by omega
          have hw2 := y1p hlt (by omega)
          have kx := y3c (o := nz (y26 f i)) (i := k) (by rw [yce]; exact hk) .i64
          have lx : evLd false 1 (.rp [.int .i64 to]) H = some (.int .i64 to) := by simp
          rw [ylw]
          simp only [y12i, yq, y7, hc, decide_true, y18c, y1k, y1v3, kx, lx, y1tv, y2e, hw2]
          rfl)
        _ 0 H3 ins1 w1 T2 P2 g2 (Nat.zero_add _) R3 mo x3 x4 x6 (by omega)
      rw [List.drop_zero] at e4 R4 y3
      simp only [Int.ofNat_zero] at e4
      generalize y47 s' (y26 f i) (ins1, w1) = p2 at *
      obtain ⟨ins2, w2⟩ := p2
      simp only at h Is1 Is2 e4 R4 y3
      obtain ⟨H5, P5, e5, R5, z6⟩ := ih H4 ins2 w2 T4 P4 g4 r Is1 R4 y3 y6 (by omega) h
      refine ⟨H5, P5, ?_, R5, z6⟩
      rw [← e5]
      have hc1 : ¬ (((yp f i).length : Int) < ((yp f i).length : Int)) := by omega
      have hc2 : ¬ (((y26 f i).length : Int) < ((y26 f i).length : Int)) := by omega
      have f2 : yfm (.lp 0 1 0 0) (.ls 1 1 1 0 (lst f.code).length) (.ls 3 g2 1 0 w1.length) (.int .i64 i) (.ls 4 ga 1 0 (lst f.regs).length) (slA (nz (yp f i))) (.int .i64 (yp f i).length) (.int .i64 (yp f i).length) H2 =
          yo7 (.lp 0 1 0 0) (.ls 1 1 1 0 (lst f.code).length) (.ls 3 g2 1 0 w1.length) (.int .i64 i) (.ls 4 ga 1 0 (lst f.regs).length) H2 := by
        rw [ylo]
        simp only [y148, yq, y7, hc1, decide_false, y16n, y25]
      have f4 : ycw (.lp 0 1 0 0) (.ls 1 1 1 0 (lst f.code).length) (.ls 3 g4 1 0 w2.length) (.ls 4 ga 1 0 (lst f.regs).length) (slA (nz (y26 f i))) (.int .i64 (y26 f i).length) (.int .i64 (y26 f i).length) H4 =
          yey (.lp 0 1 0 0) (.ls 1 1 1 0 (lst f.code).length) (.ls 3 g4 1 0 w2.length) H4 := by
        rw [ylw]
        simp only [y12i, yq, y7, hc2, decide_false, y18c, y25]
      rw [← f4, ← e4]
      have e26 : ymp (.lp 0 1 0 0) (.ls 1 1 1 0 (lst f.code).length) (.ls 3 g2 1 0 w1.length) (.int .i64 i) (.ls 4 ga 1 0 (lst f.regs).length) H3 =
          ycw (.lp 0 1 0 0) (.ls 1 1 1 0 (lst f.code).length) (.ls 3 g2 1 0 w1.length) (.ls 4 ga 1 0 (lst f.regs).length) (slA (nz (y26 f i))) (.int .i64 (y26 f i).length) (.int .i64 0) H3 := by
        simp only [ymp, y27l R3.box, y7, cN, ye, y4a, yce]
      rw [← e26, ← e27, ← f2, ← e2]
      rw [hsl] at c1 lI
      simp only [y17l, ixI, y7, lI, c1, ye, y1cw, y27l R1.box, cC, y4a, yce]
end
end Go.Vm
namespace Go.Vm
open Cel
theorem y1c7 (x : Ins) (h : (lst x.args).length ≤ 17592186043904) : (lst (uses x)).length ≤ 17592186043904 := by
  by_cases hc : calls x.op = true
  · simpa [uses, hc] using h
  · have := y1xk (x := x) (by simpa using hc)
    omega
end Go.Vm
namespace Go.Vm
open Cel
def okIn : Option (Option (List Bool)) → List Int → Bool
  | some (some s), us => us.all fun u => s.getD u.toNat false
  | _, _ => true
theorem y1eh (s : List Bool) (us : List Int) : okIn (some (some s)) us = us.all fun u => s.getD u.toNat false := rfl
theorem yuk (us : List Int) : okIn (some none) us = true := rfl
theorem y1yl (x : Option (Option (List Bool))) : okIn x [] = true := by
  match x with
  | none => rfl
  | some none => rfl
  | some (some s) => rfl
theorem y1he (s : List Bool) (u : Int) (us : List Int) : okIn (some (some s)) (u :: us) = (s.getD u.toNat false && okIn (some (some s)) us) := rfl
def yo9 (f : Fn) (r : Tab) (i : Nat) : Bool := okIn r[i]? (yiu f i)
def y63 (f : Fn) (r : Tab) : Nat → Nat → Bool
  | _, 0 => true
  | i, d + 1 => yo9 f r i && y63 f r (i + 1) d
theorem ygp (f : Fn) (r : Tab) : ∀ (d i : Nat), y63 f r i d = true ↔ ∀ j, i ≤ j → j < i + d → yo9 f r j = true
  | 0, i => by simp [y63]; omega
  | d + 1, i => by
    rw [y63, Bool.and_eq_true, ygp f r d (i + 1)]
    constructor
    · rintro ⟨h1, h2⟩ j a b
      by_cases e : j = i
      · rw [e]; exact h1
      · exact h2 j (by omega) (by omega)
    · intro h
      exact ⟨h i (by omega) (by omega), fun j a b => h j (by omega) (by omega)⟩
theorem ym0 {f : Fn} (w : Wf f) {r : Tab} (ok : TblOk (lst f.code).length (lst f.regs).length r) {i : Nat} (hi : i < (lst f.code).length) : yo9 f r i = true ↔ ∀ u ∈ yiu f i, ∀ s, r[i]? = some (some s) → s[u.toNat]? = some true := by
  unfold yo9
  have hlt : i < r.length := by rw [ok.len]; exact hi
  obtain ⟨x, hx⟩ : ∃ x, r[i]? = some x := ⟨_, List.getElem?_eq_getElem hlt⟩
  rw [hx]
  cases x with
  | none => simp [yuk]
  | some s =>
    have hl := ok.rows _ _ hx
    rw [y1eh]
    simp only [List.all_eq_true]
    have key : ∀ u ∈ yiu f i, (s.getD u.toNat false = true ↔ s[u.toNat]? = some true) := fun u hu => by
      obtain ⟨u0, u1⟩ := w.uses hi hu
      have hlt : u.toNat < s.length := by omega
      rw [List.getD_eq_getElem?_getD, List.getElem?_eq_getElem hlt]
      simp
    constructor
    · intro h u hu s' e
      injection e with e; injection e with e; subst e
      exact (key u hu).1 (h u hu)
    · intro h u hu
      exact (key u hu).2 (h u hu s rfl)
section
variable {f : Fn} (w : Wf f) (hs : y17k f)
include w
theorem y1yf {r : Tab} {P : Nat → Nat × Nat} (ok : TblOk (lst f.code).length (lst f.regs).length r) {i : Nat} (hi : i < (lst f.code).length) (hU : (lst (uses (yh f i))).length ≤ 9223372036854775807) {H : Heap} (Rp : SRep f H r P) : ∀ (d k : Nat), k + d = (lst (uses (yh f i))).length →
    ytg (.ls 1 1 1 0 (lst f.code).length) (.int .i64 (i : Int)) (slA f.code) (.int .i64 (lst f.code).length) (.int .i64 (i : Int)) (slA (uses (yh f i))) (.int .i64 (lst (uses (yh f i))).length) (.int .i64 (k : Int)) H =
      if okIn r[i]? ((lst (uses (yh f i))).drop k) then y1mm (.ls 1 1 1 0 (lst f.code).length) (slA f.code) (.int .i64 (lst f.code).length) (.int .i64 (i : Int)) H else some ⟨.bool false, [], true, [], []⟩ := by
  have hlt : i < r.length := by rw [ok.len]; exact hi
  obtain ⟨x, hx⟩ : ∃ x, r[i]? = some x := ⟨_, List.getElem?_eq_getElem hlt⟩
  have ixI := yd0 (n := (lst f.code).length) (p := (i : Int)) (by omega) (by omega) 1 1 .i64
  rw [show ((i : Int)).toNat = i by omega] at ixI
  intro d
  induction d with
  | zero =>
    intro k hk
    have e : (lst (uses (yh f i))).drop k = [] := List.drop_eq_nil_of_le (by omega)
    have hc : ¬ ((k : Int) < ((lst (uses (yh f i))).length : Int)) := by omega
    rw [e, y1yl, yrv]
    simp only [y1a3, yq, y7, hc, decide_false, y19g, y25, if_true]
  | succ d ih =>
    intro k hk
    have hlt2 : k < (lst (uses (yh f i))).length := by omega
    have hc : ((k : Int) < ((lst (uses (yh f i))).length : Int)) := by omega
    have hw := y1p hlt2 (by omega)
    have hmem := List.getElem_mem hlt2
    have kx := y3c (List.getElem?_eq_getElem hlt2) .i64
    have ih1 := ih (k + 1) (by omega)
    push_cast at ih1
    rw [List.drop_eq_getElem_cons hlt2, yrv]
    have hur := w.uses hi hmem
    generalize (lst (uses (yh f i)))[k] = u at *
    have lx : ∀ t : Heap, evLd false 1 (.rp [.int .i64 u]) t = some (.int .i64 u) := fun t => by simp
    rw [hx] at ih1 ⊢
    cases x with
    | none =>
      rw [yuk] at ih1 ⊢
      have lI := yca Rp.tab (y8e (P := P) hx)
      have hE : y4q 1 true .nils .nils = some (.bool false) := rfl
      simp only [y1a3, yq, y7, hc, decide_true, y19g, y1k, y1mq, kx, lx, ixI, lI, hE, yj5, y30, y25, y20e, y2e, hw, ih1]
    | some s =>
      have hl := ok.rows _ _ hx
      have lI := yca Rp.tab (y8e (P := P) hx)
      have hE : ∀ a b n, y4q 1 true (.ls a b 1 0 n) .nils = some (.bool true) := fun _ _ _ => rfl
      have ixU := yd0 (n := s.length) hur.1 (by omega) (P i).1 (P i).2 .i64
      have hut : u.toNat < s.length := by omega
      have lU := y22s (α := Bool) (H := H) (id := (P i).1) (g := (P i).2) (i := u.toNat) (v := .bool (s.getD u.toNat false)) (Rp.obj _ _ hx) (by rw [List.getD_eq_getElem?_getD, List.getElem?_eq_getElem hut]; rfl) rfl
      rw [y1he]
      cases hb : s.getD u.toNat false with
      | true =>
        rw [hb] at lU
        rw [Bool.true_and]
        simp only [y1a3, yq, y7, hc, decide_true, y19g, y1k, y1mq, kx, lx, ixI, lI, hE, ybm, ixU, lU, y2p, Bool.not_true, y2c, y25, y20e, y2e, hw, ih1]
      | false =>
        rw [hb] at lU
        rw [Bool.false_and]
        simp only [y1a3, yq, y7, hc, decide_true, y19g, y1k, y1mq, kx, lx, ixI, lI, hE, ybm, ixU, lU, y2p, Bool.not_false, y2c, y22, Bool.false_eq_true, if_false]
include hs
theorem y1dn {r : Tab} {P : Nat → Nat × Nat} (ok : TblOk (lst f.code).length (lst f.regs).length r) : ∀ (d i : Nat) (H : Heap), i + d = (lst f.code).length → SRep f H r P → 6 ≤ H.length →
    ymo (.ls 1 1 1 0 (lst f.code).length) (slA f.code) (.int .i64 (lst f.code).length) (.int .i64 (i : Int)) H = some ⟨.bool (y63 f r i d), [], true, [], []⟩ := by
  have hn := w.n2
  intro d
  induction d with
  | zero =>
    intro i H hk Rp h6
    have hc : ¬ ((i : Int) < ((lst f.code).length : Int)) := by omega
    rw [yrj]
    simp only [y18h, yq, y7, hc, decide_false, y178, y25, y291, y22, y63]
  | succ d ih =>
    intro i H hk Rp h6
    have hlt : i < (lst f.code).length := by omega
    have hc : ((i : Int) < ((lst f.code).length : Int)) := by omega
    have hw := y1p hlt (by omega)
    have hx := y5g hlt
    have kx := y8p (o := f.code) hx .i64
    have hxa := hs _ (List.mem_of_getElem? hx)
    have lx : ∀ t : Heap, evLd true 9 (.rp (enc (yh f i))) t = some (.agg (enc (yh f i))) := fun t => by simp
    obtain ⟨o5, d5⟩ : ∃ o, H[0 + 5]? = some o := ⟨_, List.getElem?_eq_getElem (by omega)⟩
    have n5 : newC 0 (some 5) [.int .i64 0, .int .i64 0, .int .i64 0, .int .i64 0, .int .i64 0, .int .i64 0, .int .i64 0, .str [], .nils] H = some (.lp 5 (o5.gen + 1) 0 0, H.set 5 ⟨o5.gen + 1, .arr true false 9 [[.int .i64 0, .int .i64 0, .int .i64 0, .int .i64 0, .int .i64 0, .int .i64 0, .int .i64 0, .str [], .nils]]⟩) := by
      simp only [Nat.zero_add] at d5
      simp [newC, y9t, place, d5]
    have hl5 : 5 < H.length := by omega
    have st5 : evSt 9 (.lp 5 (o5.gen + 1) 0 0) (.agg (enc (yh f i))) (H.set 5 ⟨o5.gen + 1, .arr true false 9 [[.int .i64 0, .int .i64 0, .int .i64 0, .int .i64 0, .int .i64 0, .int .i64 0, .int .i64 0, .str [], .nils]]⟩) =
        some (.tup [], H.set 5 ⟨o5.gen + 1, .arr true false 9 [enc (yh f i)]⟩) := by
      have hr : yn (H.set 5 ⟨o5.gen + 1, .arr true false 9 [[.int .i64 0, .int .i64 0, .int .i64 0, .int .i64 0, .int .i64 0, .int .i64 0, .int .i64 0, .str [], .nils]]⟩) 5 (o5.gen + 1) = some (false, 9, [[.int .i64 0, .int .i64 0, .int .i64 0, .int .i64 0, .int .i64 0, .int .i64 0, .int .i64 0, .str [], .nils]]) := by simp [yn, y3m, hl5]
      simp [y67, hr, y27, hl5, y16]
    have ld5 : evLd true 9 (.lp 5 (o5.gen + 1) 0 0) (H.set 5 ⟨o5.gen + 1, .arr true false 9 [enc (yh f i)]⟩) = some (.agg (enc (yh f i))) := by
      have hr : yn (H.set 5 ⟨o5.gen + 1, .arr true false 9 [enc (yh f i)]⟩) 5 (o5.gen + 1) = some (false, 9, [enc (yh f i)]) := by simp [yn, y3m, hl5]
      simp [y3e, hr]
    have R5 := Rp.other (a := 5) (x := ⟨o5.gen + 1, .arr true false 9 [enc (yh f i)]⟩) (.inr (.inr (.inl rfl)))
    have x6 : 6 ≤ (H.set 5 ⟨o5.gen + 1, .arr true false 9 [enc (yh f i)]⟩).length := by rw [List.length_set]; exact h6
    have us := y1c7 _ hxa
    have cU : ∀ H, y9 E (yb E) 0 none true 10 [.agg (enc (yh f i))] H = some (slA (uses (yh f i)), H) := fun H => y24 rfl (fz_x _ H) rfl (y2l6 _ hxa) ⟨_, ym9 _, rfl⟩
    generalize H.set 5 ⟨o5.gen + 1, .arr true false 9 [enc (yh f i)]⟩ = H1 at *
    have lp := y1yf w ok hlt (by omega) R5 _ 0 (Nat.zero_add _)
    have ih1 := ih (i + 1) H1 (by omega) R5 x6
    push_cast at ih1
    have h3 : y1mm (.ls 1 1 1 0 (lst f.code).length) (slA f.code) (.int .i64 (lst f.code).length) (.int .i64 (i : Int)) H1 = some ⟨.bool (y63 f r (i + 1) d), [], true, [], []⟩ := by
      simp only [y1mm, y2e, hw, y7, ih1]
    have hg : okIn r[i]? ((lst (uses (yh f i))).drop 0) = yo9 f r i := rfl
    rw [h3, hg] at lp
    simp only [Int.ofNat_zero] at lp
    rw [yrj, y63]
    simp only [y18h, yq, y7, hc, decide_true, y178, y1k, y1w2, kx, lx, n5, ye, st5, y1j4, ld5, cU, y4a, lp]
    cases yo9 f r i <;> simp
end
def parB (f : Fn) (k : Nat) : List Bool := (List.range (lst f.regs).length).map fun (r : Nat) => decide (((r : Nat) : Int) ∈ (lst f.params).take k)
theorem y21v (f : Fn) (k : Nat) : (parB f k).length = (lst f.regs).length := by simp [parB]
theorem y2jd (f : Fn) : parB f 0 = List.replicate (lst f.regs).length false := by
  refine List.ext_getElem (by simp [parB]) fun i h1 h2 => ?_
  simp [parB]
theorem y1z2 (f : Fn) : parB f (lst f.params).length = y66 f := by simp [parB, y66]
theorem y208 {f : Fn} {k : Nat} (hk : k < (lst f.params).length) (h0 : 0 ≤ (lst f.params)[k]) : (parB f k).set ((lst f.params)[k]).toNat true = parB f (k + 1) := by
  unfold parB
  rw [List.take_succ_eq_append_getElem hk]
  refine yg5 ?_ fun j hj => ?_
  · rw [decide_eq_true_eq, List.mem_append, List.mem_singleton]
    right; omega
  · have : ¬ ((j : Int) = (lst f.params)[k]) := by omega
    simp only [List.mem_append, List.mem_singleton, this, or_false]
theorem y1zo {f : Fn} (w : Wf f) (hp : (lst f.params).length ≤ 9223372036854775807) (x1 o3 o4 o5 : AO) : ∀ (d k : Nat), k + d = (lst f.params).length →
    yk8 (.lp 0 1 0 0) (.ls 1 1 1 0 (lst f.code).length) (.ls 2 1 1 0 (lst f.regs).length) (slA f.params) (.int .i64 (lst f.params).length) (.int .i64 (k : Int)) [AB f, x1, AL 1 (parB f k), o3, o4, o5] =
      y13f (.lp 0 1 0 0) (.ls 1 1 1 0 (lst f.code).length) (.ls 2 1 1 0 (lst f.regs).length) [AB f, x1, AL 1 (y66 f), o3, o4, o5] := by
  intro d
  induction d with
  | zero =>
    intro k hk
    have hk' : k = (lst f.params).length := by omega
    have hc : ¬ (((lst f.params).length : Int) < ((lst f.params).length : Int)) := by omega
    rw [hk', y1z2, yo8]
    simp only [y177, yq, y7, hc, decide_false, yx4, y25]
  | succ d ih =>
    intro k hk
    have hlt : k < (lst f.params).length := by omega
    have hc : ((k : Int) < ((lst f.params).length : Int)) := by omega
    have hw := y1p hlt (by omega)
    have kx := y3c (o := f.params) (List.getElem?_eq_getElem hlt) .i64
    have hr := y14u w.pars (List.getElem_mem hlt)
    have hset := y208 hlt hr.1
    have ih1 := ih (k + 1) (by omega)
    push_cast at ih1
    rw [yo8]
    generalize (lst f.params)[k] = p at *
    have lx : ∀ t : Heap, evLd false 1 (.rp [.int .i64 p]) t = some (.int .i64 p) := fun t => by simp
    have ixP := yd0 (n := (lst f.regs).length) hr.1 hr.2 2 1 .i64
    have st := ype (α := Bool) (H := [AB f, x1, AL 1 (parB f k), o3, o4, o5]) (id := 2) (g := 1) (i := p.toNat) (L := parB f k) (v := .bool true) (y := true) rfl (by rw [y21v]; omega) rfl
    rw [hset] at st
    simp only [yjy, List.set_cons_succ, List.set_cons_zero] at st
    simp only [y177, yq, y7, hc, decide_true, yx4, y1k, y1g4, kx, lx, ixP, st, ye, y1jt, y2e, hw, ih1]
theorem y1yc (H : Heap) {j : Nat} {o : AO} (h : H[j]? = some o) (n : Nat) (hn : n ≤ 1000000) : mkSC 0 (some j) 1 1 [.bool false] (.int .i64 n) (.int .i64 n) H = some (.ls j (o.gen + 1) 1 0 n, H.set j (AL (o.gen + 1) (List.replicate n false))) := by
  simp [mkSC, y46, place, h]
  refine ⟨by omega, ?_⟩
  show H.set j ⟨_, .arr false false 1 _⟩ = H.set j ⟨_, .arr false false 1 ((List.replicate n false).map enc)⟩
  rw [List.map_replicate]
  rfl
theorem y29h (H : Heap) {j : Nat} {o : AO} (h : H[j]? = some o) (n : Nat) (hn : n ≤ 1000000) : mkSC 0 (some j) 1 24 [.nils] (.int .i64 n) (.int .i64 n) H = some (.ls j (o.gen + 1) 1 0 n, H.set j ⟨o.gen + 1, .arr false false 1 (List.replicate n [.nils])⟩) := by
  simp [mkSC, y46, place, h]
  omega
theorem y1i5 (f : Fn) (hn : 1 ≤ (lst f.code).length) : (List.replicate (lst f.code).length [AV.nils]).set 0 [.ls 2 1 1 0 (lst f.regs).length] = y3n (fun _ => (2, 1)) (tab0 f) := by
  have e : List.replicate (lst f.code).length [AV.nils] = y3n (fun _ => (2, 1)) (List.replicate (lst f.code).length none) := by
    refine List.ext_getElem (by simp [y3n]) fun i h1 h2 => ?_
    simp only [List.length_replicate] at h1
    simp [y3n, yld, h1]
  rw [e, tab0, ← ycu (P := fun _ => (2, 1)) (by rw [List.length_replicate]; omega) (fun _ _ => rfl)]
  simp only [yld, yf0]
theorem y1u4 (f : Fn) (w : Wf f) : 2 * pot (lst f.regs).length (tab0 f) + 1 ≤ 137438953471 := by
  have key : ∀ (R : Nat) (l : Tab), (∀ s, some s ∈ l → s.length = R) → pot R l ≤ l.length * (R + 1) := by
    intro R l
    induction l with
    | nil => intro _; simp [pot]
    | cons a l ih =>
      intro h
      have := ih fun s hs => h s (by simp [hs])
      have h1 : wt R a ≤ R + 1 := by
        cases a with
        | none => exact Nat.le_refl _
        | some s =>
          have := h s (by simp)
          have hc : s.countP id ≤ s.length := List.countP_le_length
          simp only [wt]; omega
      simp only [pot, List.map_cons, List.sum_cons, List.length_cons, Nat.add_mul] at this ⊢
      omega
  have h := key (lst f.regs).length (tab0 f) fun s hs => by
    obtain ⟨i, hi⟩ := List.getElem?_of_mem hs
    exact (SInv.start w).ok.rows i s hi
  have hl : (tab0 f).length = (lst f.code).length := by simp [tab0]
  rw [hl] at h
  have h2 : (lst f.code).length * ((lst f.regs).length + 1) ≤ 20000 * 20001 := Nat.mul_le_mul w.n2 (by have := w.regs; omega)
  omega
theorem y2gu (f : Fn) (hf : FnFit f) (hs : y17k f) (hr : (lst f.rows).length ≤ 10000000000000) (hp : (lst f.params).length ≤ 9223372036854775807) : (yb E).p 77 [.agg (enc f)] = some ⟨.bool (setM f), [], true, [], []⟩ := by
  rw [y2o4]
  have hck := y1l8 f hf
  have ha : ∀ H : Heap, ym (fz H y19) [.agg (enc f)] = some ⟨[.agg (enc f)], scal f && true, []⟩ := fun H => by
    rw [yr, ya7, y18]; rfl
  have c8 : ∀ H, y9 E (yb E) 0 none true 8 [.agg (enc f)] H = some (.int .i64 (if wf f then 0 else 80), H) := fun H => y24 rfl (ha H) rfl hck ⟨_, rfl, rfl⟩
  have l0 : ∀ t : Heap, evLd true 5 (.lp 0 1 0 0) (AB f :: t) = some (.agg (enc f)) := fun t => by simp
  have n0 : newC 0 (some 0) (cellsOf (.agg (enc f))) [D0, D0, D0, D0, D0, D0] = some (.lp 0 1 0 0, [AB f, D0, D0, D0, D0, D0]) := by simp
  cases hw : wf f with
  | false =>
    rw [hw] at c8
    have hm : setM f = false := by rw [setM, hw]; rfl
    rw [hm]
    simp only [y18n, n0, ye, y13q, l0, y7, c8, Bool.false_eq_true, if_false, yak, show decide ((80 : Int) ≠ 0) = true from rfl, y1k, y22]
  | true =>
    rw [hw] at c8
    have w := y1od hw
    have hn1 := w.n1
    have hn2 := w.n2
    have hR := w.regs
    have l3 : ∀ t : Heap, evLd false 1 (.lp 0 1 0 3) (AB f :: t) = some (slA f.code) := fun t => by simp
    have l1 : ∀ t : Heap, evLd false 1 (.lp 0 1 0 1) (AB f :: t) = some (slA f.params) := fun t => by simp
    have lr : ∀ t : Heap, evLd false 1 (.lp 0 1 0 0) (AB f :: t) = some (slA f.regs) := fun t => by simp
    have m1 := y29h [AB f, D0, D0, D0, D0, D0] (j := 1) (o := D0) rfl (lst f.code).length (by omega)
    simp only [List.set_cons_succ, List.set_cons_zero] at m1
    have m2 := y1yc [AB f, ⟨D0.gen + 1, .arr false false 1 (List.replicate (lst f.code).length [.nils])⟩, D0, D0, D0, D0] (j := 2) (o := D0) rfl (lst f.regs).length (by omega)
    simp only [List.set_cons_succ, List.set_cons_zero] at m2
    rw [← y2jd] at m2
    have lp := y1zo w hp ⟨D0.gen + 1, .arr false false 1 (List.replicate (lst f.code).length [.nils])⟩ D0 D0 D0 _ 0 (Nat.zero_add _)
    simp only [Int.ofNat_zero] at lp
    have b3 := yui (H := [AB f, ⟨D0.gen + 1, .arr false false 1 (List.replicate (lst f.code).length [.nils])⟩, AL 1 (y66 f), D0, D0, D0]) (fb := 0) (j := 3) (o := D0) 0 rfl
    simp only [Nat.zero_add, List.set_cons_succ, List.set_cons_zero] at b3
    have ix0 := yd0 (n := (lst f.code).length) (p := 0) (by omega) (by omega) 1 1 .i64
    rw [show (0 : Int).toNat = 0 from rfl] at ix0
    have st := y15r (H := [AB f, ⟨1, .arr false false 1 (List.replicate (lst f.code).length [.nils])⟩, AL 1 (y66 f), AI 1 [0], D0, D0]) (id := 1) (g := 1) (i := 0) (rows := List.replicate (lst f.code).length [.nils]) (v := .ls 2 1 1 0 (lst f.regs).length) (w := .nils) rfl (by rw [List.getElem?_replicate, if_pos (by omega)]) rfl rfl
    rw [y1i5 f hn1] at st
    simp only [List.set_cons_succ, List.set_cons_zero] at st
    have R0 : SRep f [AB f, ⟨1, .arr false false 1 (y3n (fun _ => (2, 1)) (tab0 f))⟩, AL 1 (y66 f), AI 1 [0], D0, D0] (tab0 f) (fun _ => (2, 1)) := by
      have hx : ∀ (i : Nat) t, (tab0 f)[i]? = some (some t) → i = 0 ∧ t = y66 f := by
        intro i t ht
        rcases y7w ht with ⟨e, e2⟩ | ⟨_, h⟩
        · injection e2 with e2; exact ⟨e, e2⟩
        · rw [List.getElem?_replicate] at h
          split at h <;> cases h
      refine ⟨rfl, rfl, fun i s hs => by rw [(hx i s hs).2]; rfl, fun i j s t h1 h2 hij => ?_, fun i s hs => .inl rfl⟩
      have a := (hx i s h1).1
      have b := (hx j t h2).1
      omega
    obtain ⟨r, hr1, hr2⟩ := ygn w (2 * pot (lst f.regs).length (tab0 f) + 1 + 1) _ _ (SInv.start w) (by simp)
    obtain ⟨H', P', e1, R1, h6⟩ := y24q w hr _ _ _ [0] [] _ 1 r (SInv.start w) R0 rfl (by simp) (y1u4 f w) hr1
    have ck := y1dn w hs hr2.ok _ 0 H' (Nat.zero_add _) R1 h6
    simp only [Int.ofNat_zero] at ck
    have hm : setM f = y63 f r 0 (lst f.code).length := by
      rw [setM, hw, Bool.true_and, Bool.eq_iff_iff, @decide_eq_true_eq (setP f) (Classical.propDecidable _), ygp, ← hr2.tells w]
      constructor
      · intro h j _ hj
        have hj : j < (lst f.code).length := by omega
        exact (ym0 w hr2.ok hj).2 (h j hj)
      · intro h i hi
        exact (ym0 w hr2.ok hi).1 (h i (by omega) (by omega))
    rw [hm, ← ck]
    have e17 : ys5 (.lp 0 1 0 0) (.ls 1 1 1 0 (lst f.code).length) H' = ymo (.ls 1 1 1 0 (lst f.code).length) (slA f.code) (.int .i64 (lst f.code).length) (.int .i64 0) H' := by
      simp only [ys5, y51, Nat.zero_add, y7, yvp R1.box, y4a]
    rw [← e17, ← e1]
    simp only [y18n, n0, ye, y13q, l0, y7, c8, if_true, yak, show decide ((0 : Int) ≠ 0) = false from rfl, y25, y1wg, y51, Nat.zero_add, l3, y4a, m1, y1ki, lr, m2, y1hs, l1, lp, y13f, b3, y1mg, ix0, st]
    rfl
end Go.Vm
namespace Go.Vm
open Cel
theorem ylc (f : Fn) (hf : FnIn f) : (yb E).p 162 [.agg (enc f)] = some ⟨.bool true, [], true, [], []⟩ := by
  rw [y2px]
  have n0 : newC 0 (some 0) (cellsOf (.agg (enc f))) [⟨0, .dead⟩, ⟨0, .dead⟩] = some (.lp 0 1 0 0, [AB f, D0]) := by simp
  have l0 : ∀ t : Heap, evLd true 5 (.lp 0 1 0 0) (AB f :: t) = some (.agg (enc f)) := fun t => by simp
  have l3 : ∀ t : Heap, evLd false 1 (.lp 0 1 0 3) (AB f :: t) = some (slA f.code) := fun t => by simp
  have l4 : ∀ t : Heap, evLd false 1 (.lp 0 1 0 4) (AB f :: t) = some (slA f.rows) := fun t => by simp
  have lr : ∀ t : Heap, evLd false 1 (.lp 0 1 0 0) (AB f :: t) = some (slA f.regs) := fun t => by simp
  have ch : ∀ H : Heap, y9 E (yb E) 0 none true 165 [] H = some (.bool true, H) := fun H => y24 (fa := ⟨[], true, []⟩) rfl rfl rfl y2az ⟨_, rfl, rfl⟩
  by_cases h1 : (400 : Int) < ((lst f.code).length : Int)
  · simp only [yvf, n0, ye, y1an, ch, y2p, Bool.not_true, y7, y25, y1bf, y51, Nat.zero_add, l3, y4a, y44, h1, decide_true, yog, y2c, y1k, y22]
  by_cases h2 : (100 : Int) < ((lst f.regs).length : Int)
  · simp only [yvf, n0, ye, y1an, ch, y2p, Bool.not_true, y7, y25, y1bf, y51, Nat.zero_add, l3, lr, y4a, y44, h1, h2, decide_true, decide_false, yi4, yog, y30, y2c, y1k, y22]
  by_cases h3 : (50 : Int) < ((lst f.rows).length : Int)
  · simp only [yvf, n0, ye, y1an, ch, y2p, Bool.not_true, y7, y25, y1bf, y51, Nat.zero_add, l3, lr, l4, y4a, y44, h1, h2, h3, decide_true, decide_false, yi4, y30, y2c, y1k, y22]
  have hfit := hf.fit3
  have hsm := hf.sm (by omega) (by omega)
  have hck := y15c f hfit
  have c29 : ∀ H, y9 E (yb E) 0 none true 29 [.agg (enc f)] H = some (.int .i64 (if wf f then 0 else 80), H) := fun H => y24 rfl (fz_f f H) rfl hck ⟨_, rfl, rfl⟩
  obtain ⟨d1, d2⟩ := y1tu f hfit hsm (by omega) (by omega) (by omega)
  have e0 : yvf (.agg (enc f)) [⟨0, .dead⟩, ⟨0, .dead⟩] = y1p3 (.lp 0 1 0 0) [AB f, D0] := by
    simp only [yvf, n0, ye, y1an, ch, y2p, Bool.not_true, y7, y25, y1bf, y51, Nat.zero_add, l3, lr, l4, y4a, y44, h1, h2, h3, decide_false, yi4, y30]
  have n1 : newC 0 (some 1) [.nils, .nils, .int .i64 0, .nils, .nils] [AB f, D0] = some (.lp 1 1 0 0, [AB f, ⟨1, .arr true false 5 [[.nils, .nils, .int .i64 0, .nils, .nils]]⟩]) := by simp
  have s1 : ∀ g : Fn, evSt 5 (.lp 1 1 0 0) (.agg (enc g)) [AB f, ⟨1, .arr true false 5 [[.nils, .nils, .int .i64 0, .nils, .nils]]⟩] = some (.tup [], [AB f, AFn g]) := fun g => by simp [y67, y16]
  have lg : ∀ g : Fn, evLd true 5 (.lp 1 1 0 0) [AB f, AFn g] = some (.agg (enc g)) := fun g => by simp
  have lg3 : ∀ g : Fn, evLd false 1 (.lp 1 1 0 3) [AB f, AFn g] = some (slA g.code) := fun g => by simp
  have e2 : ∀ g : Fn, (yb E).p 166 [.agg (enc f)] = some (y2o g) → y1p3 (.lp 0 1 0 0) [AB f, D0] = y1bx (.lp 0 1 0 0) (.lp 1 1 0 0) [AB f, AFn g] := fun g hg => by
    have c1 : ∀ H, y9 E (yb E) 0 none true 166 [.agg (enc f)] H = some (.agg (enc g), H) := fun H => y24 rfl (fz_f f H) rfl hg (ynm g)
    simp only [y1p3, l0, y7, c1, ye, n1, s1]
  rw [e0]
  cases hw : wf f with
  | false =>
    rw [hw] at c29
    rw [e2 f (d1 hw)]
    have hS := y2lx f f ⟨by have := hsm.regs; omega, by have := hsm.params; omega, by omega, by omega, fun x hx => by have := hsm.args x hx; omega⟩
    rw [ywe] at hS
    have cS : ∀ H, y9 E (yb E) 0 none true 14 [.agg (enc f), .agg (enc f)] H = some (.bool true, H) := fun H => y24 rfl (y2o8 f f H) rfl hS ⟨_, rfl, rfl⟩
    simp only [y1bx, l0, y7, c29, Bool.false_eq_true, if_false, ye, yak, show decide ((80 : Int) ≠ 0) = true from rfl, y1k, lg, cS, y22]
  | true =>
    rw [hw] at c29
    obtain ⟨T, v, hg⟩ := d2 hw
    have ksw := yb5 f T
    have kwf := y1d2 (T := T) hw
    have kset := y23m (T := T) hw
    have kfit := y1zx (T := T) hfit
    have kargs := y1tj (T := T) hsm.args
    generalize knoF f T = g at *
    rw [e2 g hg]
    have w := y1od hw
    have hp := yqy w.pars
    have hpl : (lst f.params).length ≤ 21 := by
      rcases hp with h | h
      · rw [h]; simp
      · omega
    have hckg := y15c g (kfit)
    rw [kwf] at hckg
    have cg : ∀ H, y9 E (yb E) 0 none true 29 [.agg (enc g)] H = some (.int .i64 0, H) := fun H => y24 rfl (fz_f g H) rfl hckg ⟨_, rfl, rfl⟩
    have hSf := y2gu f hfit hsm.args (by omega) (by omega)
    have hSg := y2gu g (kfit) (kargs) (by rw [ksw.rows]; omega) (by rw [ksw.params]; omega)
    have cSf : ∀ H, y9 E (yb E) 0 none true 77 [.agg (enc f)] H = some (.bool (setM f), H) := fun H => y24 rfl (fz_f f H) rfl hSf ⟨_, rfl, rfl⟩
    have cSg : ∀ H, y9 E (yb E) 0 none true 77 [.agg (enc g)] H = some (.bool (setM g), H) := fun H => y24 rfl (fz_f g H) rfl hSg ⟨_, rfl, rfl⟩
    have hlen := ksw.len
    cases hs : setM f with
    | true =>
      rw [hs] at cSf
      rw [kset hs] at cSg
      simp only [y1bx, l0, y7, c29, if_true, ye, yak, show decide ((0 : Int) ≠ 0) = false from rfl, y25, y24g, lg, cg, y17, decide_true, ybm, y2i6, y51, Nat.zero_add, lg3, l3, y4a, hlen, y2c, cSf, y2p, Bool.not_true, yi4, y2pf, cSg, y30, y22]
    | false =>
      rw [hs] at cSf
      simp only [y1bx, l0, y7, c29, if_true, ye, yak, show decide ((0 : Int) ≠ 0) = false from rfl, y25, y24g, lg, cg, y17, decide_true, ybm, y2i6, y51, Nat.zero_add, lg3, l3, y4a, hlen, y2c, cSf, y2p, Bool.not_false, yog, y2r2, y22]
end Go.Vm
