/- flow.meet: what is set on one way more to a place. flow.Set: the table is made as the plain words have it. The document's answer whether an operation is a call. The document's answer which registers an instruction reads, and which one it writes. The document's Next, Caught. The document's searches: where they go on, what they look for. flow.Set: its end, its beginning, and what it says. DeadForms: the output is well formed, and sets what it reads where the input does; what isn't well formed stays as it is. -/
import Derived.Test.YtgbajicpokolcaaFX
import Derived.Test.YtgbajicpokolcaaFTe
set_option linter.unusedSimpArgs false
set_option linter.unusedVariables false
set_option linter.unusedSectionVars false
namespace Go.Vm
open Cel
def ykj (P : Nat → Nat × Nat) (i : Nat) : Option (List Bool) → List AV
  | none => [.nils]
  | some s => [.ls (P i).1 (P i).2 1 0 s.length]
def y3o (P : Nat → Nat × Nat) (ins : Tab) : List (List AV) := (List.range ins.length).map fun i => ykj P i (ins[i]?.join)
structure SRep (f : Fn) (H : Heap) (ins : Tab) (P : Nat → Nat × Nat) : Prop where
  box : H[0]? = some (AB f)
  tab : H[1]? = some ⟨1, .arr false false 1 (y3o P ins)⟩
  obj : ∀ (i : Nat) s, ins[i]? = some (some s) → H[(P i).1]? = some (AL (P i).2 s)
  inj : ∀ (i j : Nat) s t, ins[i]? = some (some s) → ins[j]? = some (some t) → i ≠ j → (P i).1 ≠ (P j).1
  far : ∀ (i : Nat) s, ins[i]? = some (some s) → (P i).1 = 2 ∨ 6 ≤ (P i).1
theorem y8e {P : Nat → Nat × Nat} {ins : Tab} {i : Nat} {x : Option (List Bool)} (h : ins[i]? = some x) : (y3o P ins)[i]? = some (ykj P i x) := by
  have hi := (List.getElem?_eq_some_iff.1 h).1
  simp only [y3o, List.getElem?_map, List.getElem?_range hi, Option.map_some, h, Option.join]
  rfl
theorem yck {P P' : Nat → Nat × Nat} {ins : Tab} {i : Nat} {x : Option (List Bool)} (hi : i < ins.length) (hP : ∀ j, j ≠ i → P' j = P j) : (y3o P ins).set i (ykj P' i x) = y3o P' (ins.set i x) := by
  unfold y3o
  rw [List.length_set]
  refine yfr ?_ fun j hj => ?_
  · simp [hi]
  · rw [List.getElem?_set_ne (fun e => hj e.symm)]
    cases h : ins[j]?.join with
    | none => rfl
    | some s => simp only [ykj, hP j hj]
theorem SRep.other {f : Fn} {H : Heap} {ins : Tab} {P : Nat → Nat × Nat} (R : SRep f H ins P) {a : Nat} {x : AO} (ha : a = 3 ∨ a = 4 ∨ a = 5 ∨ H.length ≤ a) : SRep f (H.set a x) ins P := by
  have h0 := y4m R.box
  have h1 := y4m R.tab
  refine ⟨by rw [yx (by omega)]; exact R.box, by rw [yx (by omega)]; exact R.tab, fun i s hs => ?_, R.inj, R.far⟩
  have := R.far i s hs
  have h2 := y4m (R.obj i s hs)
  rw [yx (by omega)]
  exact R.obj i s hs
theorem SRep.more {f : Fn} {H : Heap} {ins : Tab} {P : Nat → Nat × Nat} (R : SRep f H ins P) (n : Nat) : SRep f (H ++ yk n) ins P :=
  ⟨by rw [yue (y4m R.box)]; exact R.box, by rw [yue (y4m R.tab)]; exact R.tab, fun i s hs => by rw [yue (y4m (R.obj i s hs))]; exact R.obj i s hs, R.inj, R.far⟩
theorem SRep.beyond {f : Fn} {H : Heap} {ins : Tab} {P : Nat → Nat × Nat} (R : SRep f H ins P) {a : Nat} {x : AO} (h0 : a ≠ 0) (h1 : a ≠ 1) (ha : ∀ (i : Nat) s, ins[i]? = some (some s) → (P i).1 ≠ a) : SRep f (H.set a x) ins P :=
  ⟨by rw [yx h0]; exact R.box, by rw [yx h1]; exact R.tab, fun i s hs => by rw [yx (fun e => ha i s hs e.symm)]; exact R.obj i s hs, R.inj, R.far⟩
def andK (k : Nat) (t s : List Bool) : List Bool := (List.range t.length).map fun j => if j < k then t.getD j false && s.getD j false else t.getD j false
def yks (k : Nat) (t s : List Bool) : Bool := (List.range k).any fun j => t.getD j false && !s.getD j false
theorem y22g (k : Nat) (t s : List Bool) : (andK k t s).length = t.length := by simp [andK]
theorem y275 (t s : List Bool) : andK 0 t s = t := by
  refine List.ext_getElem (by simp [andK]) fun i h1 h2 => ?_
  simp [andK, h2]
theorem y1zs {k : Nat} {t s : List Bool} {j : Nat} (h : j < t.length) : (andK k t s)[j]? = some (if j < k then t.getD j false && s.getD j false else t.getD j false) := by simp [andK, h]
theorem y13w {t s : List Bool} (h : t.length = s.length) : andK t.length t s = andB t s := by
  refine List.ext_getElem (by simp [andK, andB, h]) fun i h1 h2 => ?_
  have hi : i < t.length := by simpa [andK] using h1
  have hi2 : i < s.length := by omega
  simp [andK, andB, hi, hi2]
theorem y1e1 {t s : List Bool} (h : t.length = s.length) : yks t.length t s = yuw t s := by
  rw [Bool.eq_iff_iff, ye9, yks, List.any_eq_true]
  constructor
  · rintro ⟨j, hj, hb⟩
    rw [List.mem_range] at hj
    have hj2 : j < s.length := by omega
    simp only [List.getD_eq_getElem?_getD, List.getElem?_eq_getElem hj, List.getElem?_eq_getElem hj2, Option.getD_some, Bool.and_eq_true, Bool.not_eq_true'] at hb
    exact ⟨j, by rw [List.getElem?_eq_getElem hj, hb.1], by rw [List.getElem?_eq_getElem hj2, hb.2]⟩
  · rintro ⟨j, h1, h2⟩
    have hj := (List.getElem?_eq_some_iff.1 h1).1
    exact ⟨j, List.mem_range.2 hj, by simp [List.getD_eq_getElem?_getD, h1, h2]⟩
theorem y1yl {k : Nat} {t s : List Bool} (ht : t.getD k false = true) (hs : s.getD k false = false) : (andK k t s).set k false = andK (k + 1) t s := by
  unfold andK
  refine yfr ?_ fun j hj => ?_
  · rw [if_pos (by omega), ht, hs]; rfl
  · by_cases h1 : j < k
    · rw [if_pos (by omega), if_pos h1]
    · rw [if_neg (by omega), if_neg h1]
theorem ysg {k : Nat} {t s : List Bool} (h : (t.getD k false && !s.getD k false) = false) : andK (k + 1) t s = andK k t s := by
  refine List.map_congr_left fun j _ => ?_
  by_cases e : j = k
  · subst e
    rw [if_pos (by omega), if_neg (by omega)]
    cases ht : t.getD j false <;> cases hs : s.getD j false <;> simp_all
  · by_cases h1 : j < k
    · rw [if_pos (by omega), if_pos h1]
    · rw [if_neg (by omega), if_neg h1]
theorem yl5 (k : Nat) (t s : List Bool) : yks (k + 1) t s = (yks k t s || (t.getD k false && !s.getD k false)) := by
  simp [yks, List.range_succ]
theorem y1v2 (fb : Nat) (v3 : AV) (n to : Nat) (hto : to < n) (id g ga : Nat) (t s : List Bool) (hl : t.length = s.length) (hn : t.length ≤ 9223372036854775806) (hid1 : id ≠ 1) (hid4 : id ≠ 4) (rows : List (List AV)) (hrow : rows[to]? = some [.ls id g 1 0 t.length]) :
    ∀ (d k : Nat) (H : Heap), k + d = t.length → H[1]? = some ⟨1, .arr false false 1 rows⟩ → H[id]? = some (AL g (andK k t s)) → H[4]? = some (AL ga s) →
    yq7 fb (.ls 1 1 1 0 n) (.int .i64 (to : Int)) (.ls 4 ga 1 0 s.length) v3 (.bool (yks k t s)) (.ls id g 1 0 t.length) (.int .i64 t.length) (.int .i64 k) H =
      y19a fb (.int .i64 (to : Int)) v3 (.bool (yuw t s)) (H.set id (AL g (andB t s))) := by
  intro d
  induction d with
  | zero =>
    intro k H hk h1 hi h4
    have hk' : k = t.length := by omega
    subst hk'
    have hc : ¬ ((t.length : Int) < (t.length : Int)) := by omega
    rw [yst]
    simp only [y1a8, yj, hc, decide_false, yc, y1ao, y31, y1e1 hl]
    rw [← y13w hl, y6q hi]
  | succ d ih =>
    intro k H hk h1 hi h4
    have hlt : k < t.length := by omega
    have hlt2 : k < s.length := by omega
    have hc : ((k : Int) < (t.length : Int)) := by omega
    have hw := y1d hlt (by omega)
    have ixT := ycl (n := t.length) (p := (k : Int)) (by omega) hc id g .i64
    have ixS := ycl (n := s.length) (p := (k : Int)) (by omega) (by omega) 4 ga .i64
    have ixI := ycl (n := n) (p := (to : Int)) (by omega) (by omega) 1 1 .i64
    rw [show ((k : Int)).toNat = k by omega] at ixT ixS
    rw [show ((to : Int)).toNat = to by omega] at ixI
    have gT := y1zs (k := k) (s := s) hlt
    rw [if_neg (Nat.lt_irrefl _)] at gT
    have lT := yw4 (α := Bool) (H := H) (id := id) (g := g) (i := k) (v := .bool (t.getD k false)) hi gT rfl
    have lS := yw4 (α := Bool) (H := H) (id := 4) (g := ga) (i := k) (v := .bool (s.getD k false)) h4 (by rw [List.getD_eq_getElem?_getD, List.getElem?_eq_getElem hlt2]; rfl) rfl
    have lI := yhs (i := to) h1 hrow
    have ih0 := fun H => ih (k + 1) H (by omega)
    rw [yst]
    cases hb : (t.getD k false && !s.getD k false) with
    | true =>
      rw [Bool.and_eq_true, Bool.not_eq_true'] at hb
      obtain ⟨b1, b2⟩ := hb
      have hidl := y4m hi
      have st := yd1 (α := Bool) (H := H) (id := id) (g := g) (i := k) (L := andK k t s) (v := .bool false) (y := false) hi (by rw [y22g]; exact hlt) rfl
      rw [y1yl b1 b2] at st
      simp only [yiu] at st
      have ls : yks (k + 1) t s = true := by rw [yl5, b1, b2]; simp
      have := ih0 (H.set id (AL g (andK (k + 1) t s))) (by rw [yx hid1]; exact h1) (y3u hidl) (by rw [yx hid4]; exact h4)
      rw [List.set_set, ls] at this
      push_cast at this
      rw [b1] at lT
      rw [b2] at lS
      simp only [y1a8, yj, hc, decide_true, yc, y1ao, y29, y1w4, ixT, lT, y84, ixS, lS, y2h, Bool.not_false, y1u, ixI, lI, st, yz, y1az, y1a, hw, this]
    | false =>
      have ls : yks (k + 1) t s = yks k t s := by rw [yl5, hb, Bool.or_false]
      have := ih0 H h1 (by rw [ysg hb]; exact hi) h4
      rw [ls] at this
      push_cast at this
      cases b1 : t.getD k false with
      | false =>
        rw [b1] at lT
        simp only [y1a8, yj, hc, decide_true, yc, y1ao, y29, y1w4, ixT, lT, ygn, yn2, y2o, y31, y1az, y1a, hw, this]
      | true =>
        rw [b1] at lT
        have b2 : s.getD k false = true := by
          rw [b1] at hb
          simpa using hb
        rw [b2] at lS
        simp only [y1a8, yj, hc, decide_true, yc, y1ao, y29, y1w4, ixT, lT, y84, ixS, lS, y2h, Bool.not_true, y1u, y31, y1az, y1a, hw, this]
theorem y271 {H : Heap} {fb j gw g2 : Nat} {work T : List Int} {to : Int} (h3 : H[3]? = some (AI gw (work ++ T))) (hl : H[fb + j]? = some (AI g2 [to])) (hb : work.length + 1 ≤ 137438953472) (sl : Option Nat) :
    y37 fb sl 1 8 (.ls 3 gw 1 0 work.length) (.ls (fb + j) g2 1 0 1) H = some (.ls 3 (gw + 1) 1 0 (work ++ [to]).length, H.set 3 (AI (gw + 1) (work ++ [to]))) :=
  y2as (α := Int) (M := [to]) (y1uh (α := Int) (L := [to]) hl) h3 (y1tk (by simpa using hb))
theorem y2i5 {f : Fn} {H : Heap} {ins : Tab} {P : Nat → Nat × Nat} (Rp : SRep f H ins P) {n R : Nat} (ok : TblOk n R ins) {s : List Bool} {work T : List Int} {gw ga : Nat} {to : Int} (hs : s.length = R) (hR : R ≤ 1000000) (h3 : H[3]? = some (AI gw (work ++ T))) (h4 : H[4]? = some (AL ga s)) (h6 : 6 ≤ H.length)
    (t0 : 0 ≤ to) (t1 : to < n) (hb : work.length + 1 ≤ 137438953472) :
    ∃ H' P' gw' T', y8 E (y9 E) 0 none false 80 [.ls 1 1 1 0 n, .int .i64 to, .ls 4 ga 1 0 R, .ls 3 gw 1 0 work.length] H = some (.ls 3 gw' 1 0 (ycj s to (ins, work)).2.length, H') ∧
      SRep f H' (ycj s to (ins, work)).1 P' ∧ H'[3]? = some (AI gw' ((ycj s to (ins, work)).2 ++ T')) ∧ H'[4]? = some (AL ga s) ∧ H'[5]? = H[5]? ∧ 6 ≤ H'.length := by
  have R0 := Rp.more 5
  have g3 : (H ++ yk 5)[3]? = some (AI gw (work ++ T)) := by rw [yue (by omega)]; exact h3
  have g4 : (H ++ yk 5)[4]? = some (AL ga s) := by rw [yue (by omega)]; exact h4
  have g5 : (H ++ yk 5)[5]? = H[5]? := yue (by omega)
  have ecall : y8 E (y9 E) 0 none false 80 [.ls 1 1 1 0 n, .int .i64 to, .ls 4 ga 1 0 R, .ls 3 gw 1 0 work.length] H =
      yl7 H.length (.ls 1 1 1 0 n) (.int .i64 to) (.ls 4 ga 1 0 R) (.ls 3 gw 1 0 work.length) (H ++ yk 5) := by
    rw [y8, if_neg (by simp), y2pn, if_pos rfl]
    rfl
  rw [ecall]
  have hlen : (H ++ yk 5).length = H.length + 5 := by simp [yk]
  have d0 : (H ++ yk 5)[H.length + 0]? = some ⟨0, .dead⟩ := y1xp (by omega)
  have d1 : (H ++ yk 5)[H.length + 1]? = some ⟨0, .dead⟩ := y1xp (by omega)
  have d3 : (H ++ yk 5)[H.length + 3]? = some ⟨0, .dead⟩ := y1xp (by omega)
  have dead : ∀ (i : Nat) u, ins[i]? = some (some u) → (P i).1 < H.length := fun i u hu => y4m (Rp.obj i u hu)
  generalize hH0 : H ++ yk 5 = H0 at *
  have ixI := ycl (n := n) (p := to) t0 (by omega) 1 1 .i64
  have hlt : to.toNat < ins.length := by rw [ok.len]; omega
  obtain ⟨x, hx⟩ : ∃ x, ins[to.toNat]? = some x := ⟨_, List.getElem?_eq_getElem hlt⟩
  have hrow := y8e (P := P) hx
  cases x with
  | none =>
    have hm : ycj s to (ins, work) = (ins.set to.toNat (some s), work ++ [to]) := by rw [ycj, hx]
    rw [hm]
    have lI := yhs (i := to.toNat) R0.tab hrow
    have hE : y5f 1 false .nils .nils = some (.bool true) := rfl
    have ha : yq (fz H0 y1f) [.ls 4 ga 1 0 R] = some ⟨[slA (some s)], true, [4]⟩ := by
      have hz := ymo (α := Bool) (k := 10) g4
      rw [hs] at hz
      have hz' : fz H0 y1f (.ls 4 ga 1 0 R) = some ⟨slA (some s), s.all scal, [4]⟩ := hz
      rw [yl, hz', y13]
      simp
    have c1 := ysa (α := Bool) (E := E) (C := y9 E) (fb := H.length) (j := 0) (f := 78) (H := H0) (N := some s) rfl ha (y12i (some s) (by simp only [y4v]; omega)) (by simp) d0
    simp only [ownV, ownO, yiu, hs] at c1
    have st1 := y26p (H := H0.set (H.length + 0) (AL 1 s)) (id := 1) (g := 1) (i := to.toNat) (rows := y3o P ins) (v := .ls (H.length + 0) 1 1 0 R) (w := .nils) (by rw [yx (by omega)]; exact R0.tab) hrow rfl rfl
    have hrows : (y3o P ins).set to.toNat [.ls (H.length + 0) 1 1 0 R] = y3o (fun j => if j = to.toNat then (H.length + 0, 1) else P j) (ins.set to.toNat (some s)) := by
      rw [← yck (P := P) (P' := fun j => if j = to.toNat then (H.length + 0, 1) else P j) (x := some s) hlt (fun j hj => by rw [if_neg hj])]
      simp only [ykj, if_true, hs]
    rw [hrows] at st1
    have b1 := y1ln (H := (H0.set (H.length + 0) (AL 1 s)).set 1 ⟨1, .arr false false 1 (y3o (fun j => if j = to.toNat then (H.length + 0, 1) else P j) (ins.set to.toNat (some s)))⟩) (fb := H.length) (j := 1) (o := ⟨0, .dead⟩) to (by
      rw [yx (by omega), yx (by omega)]; exact d1)
    have a1 := y271 (H := ((H0.set (H.length + 0) (AL 1 s)).set 1 ⟨1, .arr false false 1 (y3o (fun j => if j = to.toNat then (H.length + 0, 1) else P j) (ins.set to.toNat (some s)))⟩).set (H.length + 1) (AI 1 [to])) (fb := H.length) (j := 1) (gw := gw) (g2 := 1) (work := work) (T := T) (to := to)
      (by rw [yx (by omega), yx (by omega), yx (by omega)]; exact g3) (y3u (by rw [List.length_set, List.length_set]; omega)) hb (some 2)
    simp only [Nat.zero_add] at b1
    refine ⟨(((H0.set (H.length + 0) (AL 1 s)).set 1 ⟨1, .arr false false 1 (y3o (fun j => if j = to.toNat then (H.length + 0, 1) else P j) (ins.set to.toNat (some s)))⟩).set (H.length + 1) (AI 1 [to])).set 3 (AI (gw + 1) (work ++ [to])), fun j => if j = to.toNat then (H.length + 0, 1) else P j, gw + 1, [], ?_, ?_, ?_, ?_, ?_, ?_⟩
    · simp only [yl7, ixI, yc, lI, hE, y29, c1, yz, st1, b1, a1]
    · have nf : ∀ (i : Nat) u, (ins.set to.toNat (some s))[i]? = some (some u) → (i = to.toNat ∧ u = s) ∨ (i ≠ to.toNat ∧ ins[i]? = some (some u)) := fun i u hu => by
        rcases y7i hu with ⟨e, e2⟩ | h
        · injection e2 with e2; exact .inl ⟨e, e2⟩
        · exact .inr h
      refine ⟨?_, ?_, fun i u hu => ?_, fun i j u v hu hv hij => ?_, fun i u hu => ?_⟩
      · rw [yx (by omega), yx (by omega), yx (by omega), yx (by omega)]; exact R0.box
      · rw [yx (by omega), yx (by omega), y3u (by rw [List.length_set]; omega)]
      · rcases nf i u hu with ⟨e, e2⟩ | ⟨e, h⟩
        · subst e2
          rw [if_pos e, yx (by omega), yx (by omega), yx (by omega), y3u (by omega)]
        · have h1 := Rp.far i u h
          have h2 := dead i u h
          rw [if_neg e, yx (by omega), yx (by omega), yx (by omega), yx (by omega)]
          exact R0.obj i u h
      · rcases nf i u hu with ⟨e, _⟩ | ⟨e, h⟩
        · rcases nf j v hv with ⟨e', _⟩ | ⟨e', h'⟩
          · omega
          · have := dead j v h'
            rw [if_pos e, if_neg e']; simp only; omega
        · rcases nf j v hv with ⟨e', _⟩ | ⟨e', h'⟩
          · have := dead i u h
            rw [if_neg e, if_pos e']; simp only; omega
          · rw [if_neg e, if_neg e']; exact Rp.inj i j u v h h' hij
      · rcases nf i u hu with ⟨e, _⟩ | ⟨e, h⟩
        · rw [if_pos e]; right; simp only; omega
        · rw [if_neg e]; exact Rp.far i u h
    · rw [y3u (by simp only [List.length_set]; omega), List.append_nil]
    · rw [yx (by omega), yx (by omega), yx (by omega), yx (by omega)]; exact g4
    · rw [yx (by omega), yx (by omega), yx (by omega), yx (by omega)]; exact g5
    · simp only [List.length_set]; omega
  | some t =>
    have ht := ok.rows _ _ hx
    have lI := yhs (i := to.toNat) R0.tab hrow
    have hE : y5f 1 false (.ls (P to.toNat).1 (P to.toNat).2 1 0 t.length) .nils = some (.bool false) := rfl
    have hfar := Rp.far _ _ hx
    have hobj := R0.obj _ _ hx
    have hid := dead _ _ hx
    have eto : ((to.toNat : Nat) : Int) = to := by omega
    have lp := y1v2 H.length (.ls 3 gw 1 0 work.length) n to.toNat (by omega) (P to.toNat).1 (P to.toNat).2 ga t s (by omega) (by omega) (by omega) (by omega) (y3o P ins) hrow _ 0 H0 (Nat.zero_add _) R0.tab (by rw [y275]; exact hobj) g4
    have lk0 : yks 0 t s = false := rfl
    rw [lk0, eto, hs] at lp
    simp only [Int.ofNat_zero] at lp
    have e12 : yl7 H.length (.ls 1 1 1 0 n) (.int .i64 to) (.ls 4 ga 1 0 R) (.ls 3 gw 1 0 work.length) H0 = y19a H.length (.int .i64 to) (.ls 3 gw 1 0 work.length) (.bool (yuw t s)) (H0.set (P to.toNat).1 (AL (P to.toNat).2 (andB t s))) := by
      rw [← lp]
      simp only [yl7, ixI, yc, lI, hE, y31, y1tb, y2ae, y8j]
    rw [e12]
    have hal : (andB t s).length = t.length := yz2 (by omega)
    have RA : SRep f (H0.set (P to.toNat).1 (AL (P to.toNat).2 (andB t s))) (ins.set to.toNat (some (andB t s))) P := by
      refine ⟨by rw [yx (by omega)]; exact R0.box, ?_, fun i u hu => ?_, fun i j u v hu hv hij => ?_, fun i u hu => ?_⟩
      · rw [yx (by omega), R0.tab]
        congr 3
        rw [← yck (P := P) (P' := P) hlt (fun _ _ => rfl)]
        have : ykj P to.toNat (some (andB t s)) = ykj P to.toNat (some t) := by simp only [ykj, hal]
        rw [this, y12z hrow]
      · rcases y7i hu with ⟨e, e2⟩ | ⟨e, h⟩
        · injection e2 with e2; subst e2; subst e
          exact y3u (by omega)
        · rw [yx (fun e3 => Rp.inj _ _ _ _ hx h (fun e4 => e e4.symm) e3)]
          exact R0.obj i u h
      · have key : ∀ (i : Nat) u, (ins.set to.toNat (some (andB t s)))[i]? = some (some u) → ∃ u', ins[i]? = some (some u') := fun i u hu => by
          rcases y7i hu with ⟨e, _⟩ | ⟨_, h⟩
          · subst e; exact ⟨t, hx⟩
          · exact ⟨u, h⟩
        obtain ⟨u', h1⟩ := key i u hu
        obtain ⟨v', h2⟩ := key j v hv
        exact Rp.inj i j u' v' h1 h2 hij
      · rcases y7i hu with ⟨e, _⟩ | ⟨_, h⟩
        · subst e; exact hfar
        · exact Rp.far i u h
    have k3 : (H0.set (P to.toNat).1 (AL (P to.toNat).2 (andB t s)))[3]? = some (AI gw (work ++ T)) := by rw [yx (by omega)]; exact g3
    have k4 : (H0.set (P to.toNat).1 (AL (P to.toNat).2 (andB t s)))[4]? = some (AL ga s) := by rw [yx (by omega)]; exact g4
    have k5 : (H0.set (P to.toNat).1 (AL (P to.toNat).2 (andB t s)))[5]? = H[5]? := by rw [yx (by omega)]; exact g5
    cases hb2 : yuw t s with
    | true =>
      have hm : ycj s to (ins, work) = (ins.set to.toNat (some (andB t s)), work ++ [to]) := by rw [ycj, hx]; simp [hb2]
      rw [hm]
      have b1 := y1ln (H := H0.set (P to.toNat).1 (AL (P to.toNat).2 (andB t s))) (fb := H.length) (j := 3) (o := ⟨0, .dead⟩) to (by rw [yx (by omega)]; exact d3)
      have a1 := y271 (H := (H0.set (P to.toNat).1 (AL (P to.toNat).2 (andB t s))).set (H.length + 3) (AI 1 [to])) (fb := H.length) (j := 3) (gw := gw) (g2 := 1) (work := work) (T := T) (to := to)
        (by rw [yx (by omega)]; exact k3) (y3u (by rw [List.length_set]; omega)) hb (some 4)
      simp only [Nat.zero_add] at b1
      refine ⟨((H0.set (P to.toNat).1 (AL (P to.toNat).2 (andB t s))).set (H.length + 3) (AI 1 [to])).set 3 (AI (gw + 1) (work ++ [to])), P, gw + 1, [], ?_, ?_, ?_, ?_, ?_, ?_⟩
      · simp only [y19a, y29, b1, yz, a1, y1dd]
      · refine (RA.beyond (a := H.length + 3) (by omega) (by omega) (fun i u hu => ?_)).other (.inl rfl)
        rcases y7i hu with ⟨e, _⟩ | ⟨_, h⟩
        · subst e; omega
        · have := dead i u h; omega
      · rw [y3u (by simp only [List.length_set]; omega), List.append_nil]
      · rw [yx (by omega), yx (by omega)]; exact k4
      · rw [yx (by omega), yx (by omega)]; exact k5
      · simp only [List.length_set]; omega
    | false =>
      have hm : ycj s to (ins, work) = (ins, work) := by rw [ycj, hx]; simp [hb2]
      rw [hm]
      have eA : andB t s = t := by
        rw [← y13w (by omega : t.length = s.length)]
        have : ∀ k, k ≤ t.length → andK k t s = t := by
          intro k
          induction k with
          | zero => intro _; exact y275 t s
          | succ k ih =>
            intro hk
            rw [ysg, ih (by omega)]
            cases hc : (t.getD k false && !s.getD k false) with
            | false => rfl
            | true =>
              rw [Bool.and_eq_true, Bool.not_eq_true'] at hc
              have q1 : t[k]? = some true := by
                have := hc.1
                rw [List.getD_eq_getElem?_getD, List.getElem?_eq_getElem (by omega)] at this
                rw [List.getElem?_eq_getElem (by omega)]; simpa using this
              have q2 : s[k]? = some false := by
                have := hc.2
                rw [List.getD_eq_getElem?_getD, List.getElem?_eq_getElem (by omega)] at this
                rw [List.getElem?_eq_getElem (by omega)]; simpa using this
              have := ye9.2 ⟨k, q1, q2⟩
              rw [hb2] at this; cases this
        exact this _ (Nat.le_refl _)
      refine ⟨H0.set (P to.toNat).1 (AL (P to.toNat).2 (andB t s)), P, gw, T, ?_, ?_, k3, k4, k5, ?_⟩
      · simp only [y19a, y31, y1dd]
      · have : SRep f (H0.set (P to.toNat).1 (AL (P to.toNat).2 (andB t s))) ins P := by
          rw [eA, y6q hobj]; exact R0
        exact this
      · simp only [List.length_set]; omega
end Go.Vm
namespace Go.Vm
open Cel
theorem yl8 {f : Fn} {n R ga : Nat} {s : List Bool} (hs : s.length = R) (hR : R ≤ 1000000) {l : List Int} (hl : ∀ to ∈ l, 0 ≤ to ∧ to < (n : Int)) (G : AV → Nat → Heap → Option (Ex AV))
    (step : ∀ w k to H, l[k]? = some to → G w k H = oh (y8 E (y9 E) 0 none false 80 [.ls 1 1 1 0 n, .int .i64 to, .ls 4 ga 1 0 R, w] H) fun w' H' => G w' (k + 1) H') :
    ∀ (d k : Nat) (H : Heap) (ins : Tab) (work T : List Int) (P : Nat → Nat × Nat) (gw : Nat), k + d = l.length → SRep f H ins P → TblOk n R ins → H[3]? = some (AI gw (work ++ T)) → H[4]? = some (AL ga s) → 6 ≤ H.length → 2 * pot R ins + work.length ≤ 137438953471 →
    ∃ H' P' gw' T', G (.ls 3 gw 1 0 work.length) k H = G (.ls 3 gw' 1 0 (y47 s (l.drop k) (ins, work)).2.length) l.length H' ∧ SRep f H' (y47 s (l.drop k) (ins, work)).1 P' ∧ H'[3]? = some (AI gw' ((y47 s (l.drop k) (ins, work)).2 ++ T')) ∧
      H'[4]? = some (AL ga s) ∧ 6 ≤ H'.length := by
  intro d
  induction d with
  | zero =>
    intro k H ins work T P gw hk Rp ok h3 h4 h6 hb
    have e : l.drop k = [] := List.drop_eq_nil_of_le (by omega)
    have hk' : k = l.length := by omega
    rw [e, hk']
    exact ⟨H, P, gw, T, rfl, Rp, h3, h4, h6⟩
  | succ d ih =>
    intro k H ins work T P gw hk Rp ok h3 h4 h6 hb
    have hlt : k < l.length := by omega
    have hto := hl _ (List.getElem_mem hlt)
    rw [List.drop_eq_getElem_cons hlt, y47]
    have st := step (.ls 3 gw 1 0 work.length) k _ H (List.getElem?_eq_getElem hlt)
    generalize l[k] = to at *
    obtain ⟨H1, P1, g1, T1, e1, R1, a3, a4, a5, a6⟩ := y2i5 Rp ok hs hR h3 h4 h6 hto.1 hto.2 (by omega)
    obtain ⟨m1, _⟩ := ylm (n := n) (R := R) (s := s) (to := to) (p := (ins, work)) ok hs hto.1 hto.2
    rw [e1, yz] at st
    have mp := m1.pot
    have mo := m1.ok
    generalize ycj s to (ins, work) = q at *
    obtain ⟨q1, q2⟩ := q
    simp only at *
    obtain ⟨H2, P2, g2, T2, e2, r2⟩ := ih (k + 1) H1 q1 q2 T1 P1 g1 (by omega) R1 mo a3 a4 a6 (by omega)
    exact ⟨H2, P2, g2, T2, by rw [st, e2], r2⟩
theorem y27c {f : Fn} {H : Heap} (h : H[0]? = some (AB f)) : evLd true 5 (.lp 0 1 0 0) H = some (.agg (enc f)) := by
  have hr : ym H 0 1 = some (false, 5, [enc f]) := by simp [ym, y3g, h]
  simp [y35, hr]
theorem yux {f : Fn} {H : Heap} (h : H[0]? = some (AB f)) : evLd false 1 (.lp 0 1 0 3) H = some (slA f.code) := by
  have hr : ym H 0 1 = some (false, 5, [enc f]) := by simp [ym, y3g, h]
  simp [y35, hr]
theorem y2na (f : Fn) (i : Int) (H : Heap) : yq (fz H y1f) [.agg (enc f), .int .i64 i] = some ⟨[.agg (enc f), .int .i64 i], scal f && (true && true), []⟩ := by
  rw [yl, yl, y6z, yd4, y13]; rfl
theorem fz_x (x : Ins) (H : Heap) : yq (fz H y1f) [.agg (enc x)] = some ⟨[.agg (enc x)], scal x && true, []⟩ := by
  rw [yl, y6z, y13]; rfl
section
variable {f : Fn} (w : Wf f) (hr : (lst f.rows).length ≤ 10000000000000)
include w hr
theorem y1zg : ∀ (k : Nat) (H : Heap) (ins : Tab) (work T : List Int) (P : Nat → Nat × Nat) (gw : Nat) (r : Tab), SInv f ins work → SRep f H ins P → H[3]? = some (AI gw (work ++ T)) → 6 ≤ H.length → 2 * pot (lst f.regs).length ins + work.length ≤ 137438953471 → yjq f k ins work = some r →
    ∃ H' P', yfj (.lp 0 1 0 0) (.ls 1 1 1 0 (lst f.code).length) (.ls 3 gw 1 0 work.length) H = yqy (.lp 0 1 0 0) (.ls 1 1 1 0 (lst f.code).length) H' ∧ SRep f H' r P' ∧ 6 ≤ H'.length := by
  have hn := w.n2
  have hR := w.regs
  intro k
  induction k with
  | zero => intro H ins work T P gw r _ _ _ _ _ h; cases h
  | succ k ih =>
    intro H ins work T P gw r I Rp h3 h6 hb h
    rw [yjq] at h
    rw [y1af]
    cases hop : work.getLast? with
    | none =>
      rw [hop] at h
      injection h with h
      subst h
      rw [List.getLast?_eq_none_iff] at hop
      subst hop
      refine ⟨H, P, ?_, Rp, h6⟩
      simp only [ytt, List.length_nil, y8j, yc, y6h, show ¬ (0 : Int) < ((0 : Nat) : Int) by omega, decide_false, y31]
    | some i =>
      rw [hop] at h
      simp only at h
      have Is := I.step w hop
      have e := y62 hop
      obtain ⟨i0, i1, s, hs⟩ := I.wk i (by rw [e]; simp)
      have hts : ydq ins i.toNat = s := by simp [ydq, hs]
      rw [hts] at h Is
      obtain ⟨Is1, Is2⟩ := Is
      have hsl := I.ok.rows _ _ hs
      have ei : ((i.toNat : Nat) : Int) = i := by omega
      generalize work.dropLast = L at *
      subst e
      have q1 : ((L ++ [i]).length : Int) = (L.length : Int) + 1 := by simp
      have q2 : (L ++ [i]).length = L.length + 1 := by simp
      rw [q2] at hb Is2
      have hp : (0 : Int) < (L.length : Int) + 1 := by omega
      have hw : IntKind.wrap .i64 ((L.length : Int) + 1 - 1) = (L.length : Int) := by rw [y2g] <;> omega
      have s1 := y2iy 3 gw L.length
      have s2 := y2ds 3 gw L.length
      have s3 : evLd false 1 (.lp 3 gw L.length 0) H = some (.int .i64 i) := y2ie (T := T) (by simp [ym, y3g, h3])
      have e40 : ytt (.lp 0 1 0 0) (.ls 1 1 1 0 (lst f.code).length) (.ls 3 gw 1 0 (L ++ [i]).length) H = y0x (.lp 0 1 0 0) (.ls 1 1 1 0 (lst f.code).length) (.ls 3 gw 1 0 L.length) (.int .i64 i) H := by
        rw [ytt, y8j, yc, q1, y6h, yc, decide_eq_true hp, y29, y1lc, y8j, yc, q1, yeh, yc, hw, q2, s1, yc, s3, yc, y1k4, y8j, yc, ← q2, q1, yeh, yc, hw, q2, s2, yc]
      rw [e40]
      -- the copy
      obtain ⟨o4, d4⟩ : ∃ o, H[0 + 4]? = some o := ⟨_, List.getElem?_eq_getElem (by omega)⟩
      have ixI := ycl (n := (lst f.code).length) i0 i1 1 1 .i64
      have lI := yhs Rp.tab (y8e (P := P) hs)
      have hz : fz H y1f (.ls (P i.toNat).1 (P i.toNat).2 1 0 s.length) = some ⟨slA (some s), s.all scal, [(P i.toNat).1]⟩ := ymo (α := Bool) (k := 10) (Rp.obj _ _ hs)
      have ha : yq (fz H y1f) [.ls (P i.toNat).1 (P i.toNat).2 1 0 s.length] = some ⟨[slA (some s)], s.all scal && true, [(P i.toNat).1]⟩ := by
        rw [yl, hz, y13]; rfl
      have c1 := ysa (α := Bool) (E := E) (C := y9 E) (fb := 0) (j := 4) (f := 78) (H := H) (N := some s) rfl ha (y12i (some s) (by simp only [y4v]; omega)) (by simp) d4
      simp only [ownV, ownO, yiu, Nat.zero_add] at c1
      have R1 := Rp.other (a := 4) (x := AL (o4.gen + 1) s) (.inr (.inl rfl))
      have k3 : (H.set 4 (AL (o4.gen + 1) s))[3]? = some (AI gw (L ++ (i :: T))) := by rw [yx (by omega), h3, List.append_assoc]; rfl
      have k4 : (H.set 4 (AL (o4.gen + 1) s))[4]? = some (AL (o4.gen + 1) s) := y3u (by omega)
      have k6 : 6 ≤ (H.set 4 (AL (o4.gen + 1) s)).length := by rw [List.length_set]; exact h6
      generalize H.set 4 (AL (o4.gen + 1) s) = H1 at *
      generalize o4.gen + 1 = ga at *
      -- where a fault leads
      have cC : ∀ H, y8 E (y9 E) 0 none true 79 [.agg (enc f), .int .i64 i] H = some (slA (nz (yv f i)), H) := fun H => y18 rfl (y2na f i H) rfl (y16j f i (by omega)) ⟨_, yho _, rfl⟩
      have cN : ∀ H, y8 E (y9 E) 0 none true 81 [.agg (enc f), .int .i64 i] H = some (slA (nz (y1r f i)), H) := fun H => y18 rfl (y2na f i H) rfl (y26u f i (by omega)) ⟨_, yho _, rfl⟩
      have cD : ∀ H, y8 E (y9 E) 0 none true 9 [.agg (enc (yh f i.toNat))] H = some (.int .i64 (defr (yh f i.toNat)), H) := fun H => y18 rfl (fz_x _ H) rfl (y2ka _) ⟨_, rfl, rfl⟩
      obtain ⟨m1, _⟩ := ybr (n := (lst f.code).length) hsl (yv f i) (ins, L) I.ok (fun to h => w.caught h)
      have lC := w.caught_len i
      have lN := yt3 f i
      obtain ⟨H2, P2, g2, T2, e2, R2, n3, n4, n6⟩ := yl8 (f := f) (ga := ga) hsl (by omega) (l := yv f i) (fun to h => w.caught h)
        (fun v k H => yep (.lp 0 1 0 0) (.ls 1 1 1 0 (lst f.code).length) v (.int .i64 i) (.ls 4 ga 1 0 (lst f.regs).length) (slA (nz (yv f i))) (.int .i64 (yv f i).length) (.int .i64 k) H)
        (fun v k to H hk => by
          have hlt := (List.getElem?_eq_some_iff.1 hk).1
          have hc : ((k : Int) < ((yv f i).length : Int)) := by omega
          have hw2 := y1d hlt (by omega)
          have kx := y3c (o := nz (yv f i)) (i := k) (by rw [yc8]; exact hk) .i64
          have lx : evLd false 1 (.rp [.int .i64 to]) H = some (.int .i64 to) := by simp
          rw [ykt]
          simp only [y17f, yj, yc, hc, decide_true, y11y, y29, y1iy, kx, lx, y1f2, y1a, hw2]
          rfl)
        _ 0 H1 ins L (i :: T) P gw (Nat.zero_add _) R1 I.ok k3 k4 k6 (by omega)
      rw [List.drop_zero] at e2 R2 n3
      simp only [Int.ofNat_zero] at e2
      have mp := m1.pot
      have mo := m1.ok
      simp only at mp
      generalize y47 s (yv f i) (ins, L) = p1 at *
      obtain ⟨ins1, w1⟩ := p1
      simp only at h Is1 Is2 e2 R2 n3 mp mo
      -- what is written
      have hlt : i.toNat < (lst f.code).length := by omega
      have k9 := y7v (o := f.code) i0 (y63 hlt) .i64
      have lx : ∀ t : Heap, evLd true 9 (.rp (enc (yh f i.toNat))) t = some (.agg (enc (yh f i.toNat))) := fun t => by simp
      have e27 : ynl (.lp 0 1 0 0) (.ls 1 1 1 0 (lst f.code).length) (.ls 3 g2 1 0 w1.length) (.int .i64 i) (.ls 4 ga 1 0 (lst f.regs).length) H2 =
          yne (.lp 0 1 0 0) (.ls 1 1 1 0 (lst f.code).length) (.ls 3 g2 1 0 w1.length) (.int .i64 i) (.ls 4 ga 1 0 (lst f.regs).length) (H2.set 4 (AL ga (y3i (defr (yh f i.toNat)) s))) := by
        by_cases hd : 0 ≤ defr (yh f i.toNat)
        · have hd2 := w.def hlt hd
          have ixD := ycl (n := (lst f.regs).length) hd hd2 4 ga .i64
          have st := yd1 (α := Bool) (H := H2) (id := 4) (g := ga) (i := (defr (yh f i.toNat)).toNat) (L := s) (v := .bool true) (y := true) n4 (by omega) rfl
          simp only [yiu] at st
          simp only [ynl, y2b, Nat.zero_add, yc, yux R2.box, k9, lx, cD, yz, y32, hd, decide_true, y29, ixD, st, y3i, if_true]
        · simp only [ynl, y2b, Nat.zero_add, yc, yux R2.box, k9, lx, cD, yz, y32, hd, decide_false, y31, y3i, if_false, y6q n4]
      have R3 := R2.other (a := 4) (x := AL ga (y3i (defr (yh f i.toNat)) s)) (.inr (.inl rfl))
      have x3 : (H2.set 4 (AL ga (y3i (defr (yh f i.toNat)) s)))[3]? = some (AI g2 (w1 ++ T2)) := by rw [yx (by omega)]; exact n3
      have x4 : (H2.set 4 (AL ga (y3i (defr (yh f i.toNat)) s)))[4]? = some (AL ga (y3i (defr (yh f i.toNat)) s)) := y3u (by omega)
      have x6 : 6 ≤ (H2.set 4 (AL ga (y3i (defr (yh f i.toNat)) s))).length := by rw [List.length_set]; exact n6
      have hwl : (y3i (defr (yh f i.toNat)) s).length = (lst f.regs).length := by rw [ynr]; exact hsl
      generalize H2.set 4 (AL ga (y3i (defr (yh f i.toNat)) s)) = H3 at *
      generalize y3i (defr (yh f i.toNat)) s = s' at *
      have hNr : ∀ to ∈ y1r f i, 0 ≤ to ∧ to < ((lst f.code).length : Int) := fun to h => by
        rw [← ei] at h
        exact w.next hlt h
      obtain ⟨H4, P4, g4, T4, e4, R4, y3, y4, y6⟩ := yl8 (f := f) (ga := ga) hwl (by omega) (l := y1r f i) hNr
        (fun v k H => yd2 (.lp 0 1 0 0) (.ls 1 1 1 0 (lst f.code).length) v (.ls 4 ga 1 0 (lst f.regs).length) (slA (nz (y1r f i))) (.int .i64 (y1r f i).length) (.int .i64 k) H)
        (fun v k to H hk => by
          have hlt := (List.getElem?_eq_some_iff.1 hk).1
          have hc : ((k : Int) < ((y1r f i).length : Int)) := by omega
          have hw2 := y1d hlt (by omega)
          have kx := y3c (o := nz (y1r f i)) (i := k) (by rw [yc8]; exact hk) .i64
          have lx : evLd false 1 (.rp [.int .i64 to]) H = some (.int .i64 to) := by simp
          rw [ylw]
          simp only [y133, yj, yc, hc, decide_true, ywl, y29, y1sl, kx, lx, y1gf, y1a, hw2]
          rfl)
        _ 0 H3 ins1 w1 T2 P2 g2 (Nat.zero_add _) R3 mo x3 x4 x6 (by omega)
      rw [List.drop_zero] at e4 R4 y3
      simp only [Int.ofNat_zero] at e4
      generalize y47 s' (y1r f i) (ins1, w1) = p2 at *
      obtain ⟨ins2, w2⟩ := p2
      simp only at h Is1 Is2 e4 R4 y3
      obtain ⟨H5, P5, e5, R5, z6⟩ := ih H4 ins2 w2 T4 P4 g4 r Is1 R4 y3 y6 (by omega) h
      refine ⟨H5, P5, ?_, R5, z6⟩
      rw [← e5]
      have hc1 : ¬ (((yv f i).length : Int) < ((yv f i).length : Int)) := by omega
      have hc2 : ¬ (((y1r f i).length : Int) < ((y1r f i).length : Int)) := by omega
      have f2 : yep (.lp 0 1 0 0) (.ls 1 1 1 0 (lst f.code).length) (.ls 3 g2 1 0 w1.length) (.int .i64 i) (.ls 4 ga 1 0 (lst f.regs).length) (slA (nz (yv f i))) (.int .i64 (yv f i).length) (.int .i64 (yv f i).length) H2 =
          ynl (.lp 0 1 0 0) (.ls 1 1 1 0 (lst f.code).length) (.ls 3 g2 1 0 w1.length) (.int .i64 i) (.ls 4 ga 1 0 (lst f.regs).length) H2 := by
        rw [ykt]
        simp only [y17f, yj, yc, hc1, decide_false, y11y, y31]
      have f4 : yd2 (.lp 0 1 0 0) (.ls 1 1 1 0 (lst f.code).length) (.ls 3 g4 1 0 w2.length) (.ls 4 ga 1 0 (lst f.regs).length) (slA (nz (y1r f i))) (.int .i64 (y1r f i).length) (.int .i64 (y1r f i).length) H4 =
          yfj (.lp 0 1 0 0) (.ls 1 1 1 0 (lst f.code).length) (.ls 3 g4 1 0 w2.length) H4 := by
        rw [ylw]
        simp only [y133, yj, yc, hc2, decide_false, ywl, y31]
      rw [← f4, ← e4]
      have e26 : yne (.lp 0 1 0 0) (.ls 1 1 1 0 (lst f.code).length) (.ls 3 g2 1 0 w1.length) (.int .i64 i) (.ls 4 ga 1 0 (lst f.regs).length) H3 =
          yd2 (.lp 0 1 0 0) (.ls 1 1 1 0 (lst f.code).length) (.ls 3 g2 1 0 w1.length) (.ls 4 ga 1 0 (lst f.regs).length) (slA (nz (y1r f i))) (.int .i64 (y1r f i).length) (.int .i64 0) H3 := by
        simp only [yne, y27c R3.box, yc, cN, yz, y34, yc8]
      rw [← e26, ← e27, ← f2, ← e2]
      rw [hsl] at c1 lI
      simp only [y0x, ixI, yc, lI, c1, yz, y1u4, y27c R1.box, cC, y34, yc8]
end
end Go.Vm
namespace Go.Vm
@[simp] theorem y2oe (op : Int) : (y9 E).p 7 [.int .i64 op] = some ⟨.bool (calls op), [], true, [], []⟩ := by
  rw [y2i8, y1dh]
  by_cases h1 : 23 ≤ op
  · by_cases h2 : op ≤ 26 <;> simp [h1, h2, calls]
  · simp [h1, calls]
end Go.Vm
namespace Go.Vm
open Cel
end Go.Vm
namespace Go.Vm
open Cel
attribute [local simp] y8 y2d yp
@[simp] theorem y2iu (op : Int) : (y9 E).p 19 [.int .i64 op] = some ⟨.bool (throws op), [], true, [], []⟩ := by
  rw [y2j4, y1fi]
  by_cases h1 : 7 ≤ op
  · by_cases h2 : op ≤ 12
    · simp [h1, h2, throws]
    · simp [h1, h2, y11, y1b, yop 1 0 0 0, y1yx, throws]
      by_cases h3 : op = 20
      · simp [h3]
      by_cases h4 : op = 21
      · simp [h4]
      by_cases h5 : op = 31 <;> simp [h3, h4, h5]
  · have h4 : ¬ op = 20 ∧ ¬ op = 21 ∧ ¬ op = 31 := by omega
    simp [h1, y11, y1b, yop 1 0 0 0, y1yx, throws, h4]
end Go.Vm
namespace Go.Vm
open Cel
theorem y1ay (x : Ins) (h : (lst x.args).length ≤ 17592186043904) : (lst (uses x)).length ≤ 17592186043904 := by
  by_cases hc : calls x.op = true
  · simpa [uses, hc] using h
  · have := y1zj (x := x) (by simpa using hc)
    omega
end Go.Vm
namespace Go.Vm
open Cel
def okIn : Option (Option (List Bool)) → List Int → Bool
  | some (some s), us => us.all fun u => s.getD u.toNat false
  | _, _ => true
theorem y1kg (s : List Bool) (us : List Int) : okIn (some (some s)) us = us.all fun u => s.getD u.toNat false := rfl
theorem yrb (us : List Int) : okIn (some none) us = true := rfl
theorem y233 (x : Option (Option (List Bool))) : okIn x [] = true := by
  match x with
  | none => rfl
  | some none => rfl
  | some (some s) => rfl
theorem y1tt (s : List Bool) (u : Int) (us : List Int) : okIn (some (some s)) (u :: us) = (s.getD u.toNat false && okIn (some (some s)) us) := rfl
def yn8 (f : Fn) (r : Tab) (i : Nat) : Bool := okIn r[i]? (y7j f i)
def y61 (f : Fn) (r : Tab) : Nat → Nat → Bool
  | _, 0 => true
  | i, d + 1 => yn8 f r i && y61 f r (i + 1) d
theorem yfx (f : Fn) (r : Tab) : ∀ (d i : Nat), y61 f r i d = true ↔ ∀ j, i ≤ j → j < i + d → yn8 f r j = true
  | 0, i => by simp [y61]; omega
  | d + 1, i => by
    rw [y61, Bool.and_eq_true, yfx f r d (i + 1)]
    constructor
    · rintro ⟨h1, h2⟩ j a b
      by_cases e : j = i
      · rw [e]; exact h1
      · exact h2 j (by omega) (by omega)
    · intro h
      exact ⟨h i (by omega) (by omega), fun j a b => h j (by omega) (by omega)⟩
theorem ymf {f : Fn} (w : Wf f) {r : Tab} (ok : TblOk (lst f.code).length (lst f.regs).length r) {i : Nat} (hi : i < (lst f.code).length) : yn8 f r i = true ↔ ∀ u ∈ y7j f i, ∀ s, r[i]? = some (some s) → s[u.toNat]? = some true := by
  unfold yn8
  have hlt : i < r.length := by rw [ok.len]; exact hi
  obtain ⟨x, hx⟩ : ∃ x, r[i]? = some x := ⟨_, List.getElem?_eq_getElem hlt⟩
  rw [hx]
  cases x with
  | none => simp [yrb]
  | some s =>
    have hl := ok.rows _ _ hx
    rw [y1kg]
    simp only [List.all_eq_true]
    have key : ∀ u ∈ y7j f i, (s.getD u.toNat false = true ↔ s[u.toNat]? = some true) := fun u hu => by
      obtain ⟨u0, u1⟩ := w.uses hi hu
      have hlt : u.toNat < s.length := by omega
      rw [List.getD_eq_getElem?_getD, List.getElem?_eq_getElem hlt]
      simp
    constructor
    · intro h u hu s' e
      injection e with e; injection e with e; subst e
      exact (key u hu).1 (h u hu)
    · intro h u hu
      exact (key u hu).2 (h u hu s rfl)
section
variable {f : Fn} (w : Wf f) (hs : yg2 f)
include w
theorem y1zv {r : Tab} {P : Nat → Nat × Nat} (ok : TblOk (lst f.code).length (lst f.regs).length r) {i : Nat} (hi : i < (lst f.code).length) (hU : (lst (uses (yh f i))).length ≤ 9223372036854775807) {H : Heap} (Rp : SRep f H r P) : ∀ (d k : Nat), k + d = (lst (uses (yh f i))).length →
    yqs (.ls 1 1 1 0 (lst f.code).length) (.int .i64 (i : Int)) (slA f.code) (.int .i64 (lst f.code).length) (.int .i64 (i : Int)) (slA (uses (yh f i))) (.int .i64 (lst (uses (yh f i))).length) (.int .i64 (k : Int)) H =
      if okIn r[i]? ((lst (uses (yh f i))).drop k) then y1uz (.ls 1 1 1 0 (lst f.code).length) (slA f.code) (.int .i64 (lst f.code).length) (.int .i64 (i : Int)) H else some ⟨.bool false, [], true, [], []⟩ := by
  have hlt : i < r.length := by rw [ok.len]; exact hi
  obtain ⟨x, hx⟩ : ∃ x, r[i]? = some x := ⟨_, List.getElem?_eq_getElem hlt⟩
  have ixI := ycl (n := (lst f.code).length) (p := (i : Int)) (by omega) (by omega) 1 1 .i64
  rw [show ((i : Int)).toNat = i by omega] at ixI
  intro d
  induction d with
  | zero =>
    intro k hk
    have e : (lst (uses (yh f i))).drop k = [] := List.drop_eq_nil_of_le (by omega)
    have hc : ¬ ((k : Int) < ((lst (uses (yh f i))).length : Int)) := by omega
    rw [e, y233, yr1]
    simp only [y19l, yj, yc, hc, decide_false, y1au, y31, if_true]
  | succ d ih =>
    intro k hk
    have hlt2 : k < (lst (uses (yh f i))).length := by omega
    have hc : ((k : Int) < ((lst (uses (yh f i))).length : Int)) := by omega
    have hw := y1d hlt2 (by omega)
    have hmem := List.getElem_mem hlt2
    have kx := y3c (List.getElem?_eq_getElem hlt2) .i64
    have ih1 := ih (k + 1) (by omega)
    push_cast at ih1
    rw [List.drop_eq_getElem_cons hlt2, yr1]
    have hur := w.uses hi hmem
    generalize (lst (uses (yh f i)))[k] = u at *
    have lx : ∀ t : Heap, evLd false 1 (.rp [.int .i64 u]) t = some (.int .i64 u) := fun t => by simp
    rw [hx] at ih1 ⊢
    cases x with
    | none =>
      rw [yrb] at ih1 ⊢
      have lI := yhs Rp.tab (y8e (P := P) hx)
      have hE : y5f 1 true .nils .nils = some (.bool false) := rfl
      simp only [y19l, yj, yc, hc, decide_true, y1au, y29, y1n7, kx, lx, ixI, lI, hE, ygn, y2o, y31, y24k, y1a, hw, ih1]
    | some s =>
      have hl := ok.rows _ _ hx
      have lI := yhs Rp.tab (y8e (P := P) hx)
      have hE : ∀ a b n, y5f 1 true (.ls a b 1 0 n) .nils = some (.bool true) := fun _ _ _ => rfl
      have ixU := ycl (n := s.length) hur.1 (by omega) (P i).1 (P i).2 .i64
      have hut : u.toNat < s.length := by omega
      have lU := yw4 (α := Bool) (H := H) (id := (P i).1) (g := (P i).2) (i := u.toNat) (v := .bool (s.getD u.toNat false)) (Rp.obj _ _ hx) (by rw [List.getD_eq_getElem?_getD, List.getElem?_eq_getElem hut]; rfl) rfl
      rw [y1tt]
      cases hb : s.getD u.toNat false with
      | true =>
        rw [hb] at lU
        rw [Bool.true_and]
        simp only [y19l, yj, yc, hc, decide_true, y1au, y29, y1n7, kx, lx, ixI, lI, hE, y84, ixU, lU, y2h, Bool.not_true, y1u, y31, y24k, y1a, hw, ih1]
      | false =>
        rw [hb] at lU
        rw [Bool.false_and]
        simp only [y19l, yj, yc, hc, decide_true, y1au, y29, y1n7, kx, lx, ixI, lI, hE, y84, ixU, lU, y2h, Bool.not_false, y1u, y16, Bool.false_eq_true, if_false]
include hs
theorem y1eo {r : Tab} {P : Nat → Nat × Nat} (ok : TblOk (lst f.code).length (lst f.regs).length r) : ∀ (d i : Nat) (H : Heap), i + d = (lst f.code).length → SRep f H r P → 6 ≤ H.length →
    ymv (.ls 1 1 1 0 (lst f.code).length) (slA f.code) (.int .i64 (lst f.code).length) (.int .i64 (i : Int)) H = some ⟨.bool (y61 f r i d), [], true, [], []⟩ := by
  have hn := w.n2
  intro d
  induction d with
  | zero =>
    intro i H hk Rp h6
    have hc : ¬ ((i : Int) < ((lst f.code).length : Int)) := by omega
    rw [yqn]
    simp only [yxe, yj, yc, hc, decide_false, y12x, y31, y2bw, y16, y61]
  | succ d ih =>
    intro i H hk Rp h6
    have hlt : i < (lst f.code).length := by omega
    have hc : ((i : Int) < ((lst f.code).length : Int)) := by omega
    have hw := y1d hlt (by omega)
    have hx := y63 hlt
    have kx := y73 (o := f.code) hx .i64
    have hxa := hs _ (List.mem_of_getElem? hx)
    have lx : ∀ t : Heap, evLd true 9 (.rp (enc (yh f i))) t = some (.agg (enc (yh f i))) := fun t => by simp
    obtain ⟨o5, d5⟩ : ∃ o, H[0 + 5]? = some o := ⟨_, List.getElem?_eq_getElem (by omega)⟩
    have n5 : newC 0 (some 5) [.int .i64 0, .int .i64 0, .int .i64 0, .int .i64 0, .int .i64 0, .int .i64 0, .int .i64 0, .str [], .nils] H = some (.lp 5 (o5.gen + 1) 0 0, H.set 5 ⟨o5.gen + 1, .arr true false 9 [[.int .i64 0, .int .i64 0, .int .i64 0, .int .i64 0, .int .i64 0, .int .i64 0, .int .i64 0, .str [], .nils]]⟩) := by
      simp only [Nat.zero_add] at d5
      simp [newC, y9d, place, d5]
    have hl5 : 5 < H.length := by omega
    have st5 : evSt 9 (.lp 5 (o5.gen + 1) 0 0) (.agg (enc (yh f i))) (H.set 5 ⟨o5.gen + 1, .arr true false 9 [[.int .i64 0, .int .i64 0, .int .i64 0, .int .i64 0, .int .i64 0, .int .i64 0, .int .i64 0, .str [], .nils]]⟩) =
        some (.tup [], H.set 5 ⟨o5.gen + 1, .arr true false 9 [enc (yh f i)]⟩) := by
      have hr : ym (H.set 5 ⟨o5.gen + 1, .arr true false 9 [[.int .i64 0, .int .i64 0, .int .i64 0, .int .i64 0, .int .i64 0, .int .i64 0, .int .i64 0, .str [], .nils]]⟩) 5 (o5.gen + 1) = some (false, 9, [[.int .i64 0, .int .i64 0, .int .i64 0, .int .i64 0, .int .i64 0, .int .i64 0, .int .i64 0, .str [], .nils]]) := by simp [ym, y3g, hl5]
      simp [y7c, hr, y2a, hl5, y15]
    have ld5 : evLd true 9 (.lp 5 (o5.gen + 1) 0 0) (H.set 5 ⟨o5.gen + 1, .arr true false 9 [enc (yh f i)]⟩) = some (.agg (enc (yh f i))) := by
      have hr : ym (H.set 5 ⟨o5.gen + 1, .arr true false 9 [enc (yh f i)]⟩) 5 (o5.gen + 1) = some (false, 9, [enc (yh f i)]) := by simp [ym, y3g, hl5]
      simp [y35, hr]
    have R5 := Rp.other (a := 5) (x := ⟨o5.gen + 1, .arr true false 9 [enc (yh f i)]⟩) (.inr (.inr (.inl rfl)))
    have x6 : 6 ≤ (H.set 5 ⟨o5.gen + 1, .arr true false 9 [enc (yh f i)]⟩).length := by rw [List.length_set]; exact h6
    have us := y1ay _ hxa
    have cU : ∀ H, y8 E (y9 E) 0 none true 10 [.agg (enc (yh f i))] H = some (slA (uses (yh f i)), H) := fun H => y18 rfl (fz_x _ H) rfl (y26d _ hxa) ⟨_, yho _, rfl⟩
    generalize H.set 5 ⟨o5.gen + 1, .arr true false 9 [enc (yh f i)]⟩ = H1 at *
    have lp := y1zv w ok hlt (by omega) R5 _ 0 (Nat.zero_add _)
    have ih1 := ih (i + 1) H1 (by omega) R5 x6
    push_cast at ih1
    have h3 : y1uz (.ls 1 1 1 0 (lst f.code).length) (slA f.code) (.int .i64 (lst f.code).length) (.int .i64 (i : Int)) H1 = some ⟨.bool (y61 f r (i + 1) d), [], true, [], []⟩ := by
      simp only [y1uz, y1a, hw, yc, ih1]
    have hg : okIn r[i]? ((lst (uses (yh f i))).drop 0) = yn8 f r i := rfl
    rw [h3, hg] at lp
    simp only [Int.ofNat_zero] at lp
    rw [yqn, y61]
    simp only [yxe, yj, yc, hc, decide_true, y12x, y29, y1iu, kx, lx, n5, yz, st5, y1po, ld5, cU, y34, lp]
    cases yn8 f r i <;> simp
end
def parB (f : Fn) (k : Nat) : List Bool := (List.range (lst f.regs).length).map fun (r : Nat) => decide (((r : Nat) : Int) ∈ (lst f.params).take k)
theorem y25b (f : Fn) (k : Nat) : (parB f k).length = (lst f.regs).length := by simp [parB]
theorem y2l1 (f : Fn) : parB f 0 = List.replicate (lst f.regs).length false := by
  refine List.ext_getElem (by simp [parB]) fun i h1 h2 => ?_
  simp [parB]
theorem y1y7 (f : Fn) : parB f (lst f.params).length = y6g f := by simp [parB, y6g]
theorem y1xz {f : Fn} {k : Nat} (hk : k < (lst f.params).length) (h0 : 0 ≤ (lst f.params)[k]) : (parB f k).set ((lst f.params)[k]).toNat true = parB f (k + 1) := by
  unfold parB
  rw [List.take_succ_eq_append_getElem hk]
  refine yfr ?_ fun j hj => ?_
  · rw [decide_eq_true_eq, List.mem_append, List.mem_singleton]
    right; omega
  · have : ¬ ((j : Int) = (lst f.params)[k]) := by omega
    simp only [List.mem_append, List.mem_singleton, this, or_false]
theorem y24i {f : Fn} (w : Wf f) (hp : (lst f.params).length ≤ 9223372036854775807) (x1 o3 o4 o5 : AO) : ∀ (d k : Nat), k + d = (lst f.params).length →
    yii (.lp 0 1 0 0) (.ls 1 1 1 0 (lst f.code).length) (.ls 2 1 1 0 (lst f.regs).length) (slA f.params) (.int .i64 (lst f.params).length) (.int .i64 (k : Int)) [AB f, x1, AL 1 (parB f k), o3, o4, o5] =
      yxg (.lp 0 1 0 0) (.ls 1 1 1 0 (lst f.code).length) (.ls 2 1 1 0 (lst f.regs).length) [AB f, x1, AL 1 (y6g f), o3, o4, o5] := by
  intro d
  induction d with
  | zero =>
    intro k hk
    have hk' : k = (lst f.params).length := by omega
    have hc : ¬ (((lst f.params).length : Int) < ((lst f.params).length : Int)) := by omega
    rw [hk', y1y7, ynd]
    simp only [yz4, yj, yc, hc, decide_false, ywr, y31]
  | succ d ih =>
    intro k hk
    have hlt : k < (lst f.params).length := by omega
    have hc : ((k : Int) < ((lst f.params).length : Int)) := by omega
    have hw := y1d hlt (by omega)
    have kx := y3c (o := f.params) (List.getElem?_eq_getElem hlt) .i64
    have hr := y14z w.pars (List.getElem_mem hlt)
    have hset := y1xz hlt hr.1
    have ih1 := ih (k + 1) (by omega)
    push_cast at ih1
    rw [ynd]
    generalize (lst f.params)[k] = p at *
    have lx : ∀ t : Heap, evLd false 1 (.rp [.int .i64 p]) t = some (.int .i64 p) := fun t => by simp
    have ixP := ycl (n := (lst f.regs).length) hr.1 hr.2 2 1 .i64
    have st := yd1 (α := Bool) (H := [AB f, x1, AL 1 (parB f k), o3, o4, o5]) (id := 2) (g := 1) (i := p.toNat) (L := parB f k) (v := .bool true) (y := true) rfl (by rw [y25b]; omega) rfl
    rw [hset] at st
    simp only [yiu, List.set_cons_succ, List.set_cons_zero] at st
    simp only [yz4, yj, yc, hc, decide_true, ywr, y29, y1r2, kx, lx, ixP, st, yz, y1fm, y1a, hw, ih1]
theorem y1zr (H : Heap) {j : Nat} {o : AO} (h : H[j]? = some o) (n : Nat) (hn : n ≤ 1000000) : mkSC 0 (some j) 1 1 [.bool false] (.int .i64 n) (.int .i64 n) H = some (.ls j (o.gen + 1) 1 0 n, H.set j (AL (o.gen + 1) (List.replicate n false))) := by
  simp [mkSC, y3q, place, h]
  refine ⟨by omega, ?_⟩
  show H.set j ⟨_, .arr false false 1 _⟩ = H.set j ⟨_, .arr false false 1 ((List.replicate n false).map enc)⟩
  rw [List.map_replicate]
  rfl
theorem y29n (H : Heap) {j : Nat} {o : AO} (h : H[j]? = some o) (n : Nat) (hn : n ≤ 1000000) : mkSC 0 (some j) 1 24 [.nils] (.int .i64 n) (.int .i64 n) H = some (.ls j (o.gen + 1) 1 0 n, H.set j ⟨o.gen + 1, .arr false false 1 (List.replicate n [.nils])⟩) := by
  simp [mkSC, y3q, place, h]
  omega
theorem y1hl (f : Fn) (hn : 1 ≤ (lst f.code).length) : (List.replicate (lst f.code).length [AV.nils]).set 0 [.ls 2 1 1 0 (lst f.regs).length] = y3o (fun _ => (2, 1)) (tab0 f) := by
  have e : List.replicate (lst f.code).length [AV.nils] = y3o (fun _ => (2, 1)) (List.replicate (lst f.code).length none) := by
    refine List.ext_getElem (by simp [y3o]) fun i h1 h2 => ?_
    simp only [List.length_replicate] at h1
    simp [y3o, ykj, h1]
  rw [e, tab0, ← yck (P := fun _ => (2, 1)) (by rw [List.length_replicate]; omega) (fun _ _ => rfl)]
  simp only [ykj, yfo]
theorem y1dq (f : Fn) (w : Wf f) : 2 * pot (lst f.regs).length (tab0 f) + 1 ≤ 137438953471 := by
  have key : ∀ (R : Nat) (l : Tab), (∀ s, some s ∈ l → s.length = R) → pot R l ≤ l.length * (R + 1) := by
    intro R l
    induction l with
    | nil => intro _; simp [pot]
    | cons a l ih =>
      intro h
      have := ih fun s hs => h s (by simp [hs])
      have h1 : wt R a ≤ R + 1 := by
        cases a with
        | none => exact Nat.le_refl _
        | some s =>
          have := h s (by simp)
          have hc : s.countP id ≤ s.length := List.countP_le_length
          simp only [wt]; omega
      simp only [pot, List.map_cons, List.sum_cons, List.length_cons, Nat.add_mul] at this ⊢
      omega
  have h := key (lst f.regs).length (tab0 f) fun s hs => by
    obtain ⟨i, hi⟩ := List.getElem?_of_mem hs
    exact (SInv.start w).ok.rows i s hi
  have hl : (tab0 f).length = (lst f.code).length := by simp [tab0]
  rw [hl] at h
  have h2 : (lst f.code).length * ((lst f.regs).length + 1) ≤ 20000 * 20001 := Nat.mul_le_mul w.n2 (by have := w.regs; omega)
  omega
theorem y2nq (f : Fn) (hf : FnFit f) (hs : yg2 f) (hr : (lst f.rows).length ≤ 10000000000000) (hp : (lst f.params).length ≤ 9223372036854775807) : (y9 E).p 77 [.agg (enc f)] = some ⟨.bool (setM f), [], true, [], []⟩ := by
  rw [y2r3]
  have hck := yuo f hf
  have ha : ∀ H : Heap, yq (fz H y1f) [.agg (enc f)] = some ⟨[.agg (enc f)], scal f && true, []⟩ := fun H => by
    rw [yl, y6z, y13]; rfl
  have c8 : ∀ H, y8 E (y9 E) 0 none true 8 [.agg (enc f)] H = some (.int .i64 (if wf f then 0 else 80), H) := fun H => y18 rfl (ha H) rfl hck ⟨_, rfl, rfl⟩
  have l0 : ∀ t : Heap, evLd true 5 (.lp 0 1 0 0) (AB f :: t) = some (.agg (enc f)) := fun t => by simp
  have n0 : newC 0 (some 0) (cellsOf (.agg (enc f))) [D0, D0, D0, D0, D0, D0] = some (.lp 0 1 0 0, [AB f, D0, D0, D0, D0, D0]) := by simp
  cases hw : wf f with
  | false =>
    rw [hw] at c8
    have hm : setM f = false := by rw [setM, hw]; rfl
    rw [hm]
    simp only [yyi, n0, yz, y169, l0, yc, c8, Bool.false_eq_true, if_false, y4l, show decide ((80 : Int) ≠ 0) = true from rfl, y29, y16]
  | true =>
    rw [hw] at c8
    have w := ypq hw
    have hn1 := w.n1
    have hn2 := w.n2
    have hR := w.regs
    have l3 : ∀ t : Heap, evLd false 1 (.lp 0 1 0 3) (AB f :: t) = some (slA f.code) := fun t => by simp
    have l1 : ∀ t : Heap, evLd false 1 (.lp 0 1 0 1) (AB f :: t) = some (slA f.params) := fun t => by simp
    have lr : ∀ t : Heap, evLd false 1 (.lp 0 1 0 0) (AB f :: t) = some (slA f.regs) := fun t => by simp
    have m1 := y29n [AB f, D0, D0, D0, D0, D0] (j := 1) (o := D0) rfl (lst f.code).length (by omega)
    simp only [List.set_cons_succ, List.set_cons_zero] at m1
    have m2 := y1zr [AB f, ⟨D0.gen + 1, .arr false false 1 (List.replicate (lst f.code).length [.nils])⟩, D0, D0, D0, D0] (j := 2) (o := D0) rfl (lst f.regs).length (by omega)
    simp only [List.set_cons_succ, List.set_cons_zero] at m2
    rw [← y2l1] at m2
    have lp := y24i w hp ⟨D0.gen + 1, .arr false false 1 (List.replicate (lst f.code).length [.nils])⟩ D0 D0 D0 _ 0 (Nat.zero_add _)
    simp only [Int.ofNat_zero] at lp
    have b3 := y1ln (H := [AB f, ⟨D0.gen + 1, .arr false false 1 (List.replicate (lst f.code).length [.nils])⟩, AL 1 (y6g f), D0, D0, D0]) (fb := 0) (j := 3) (o := D0) 0 rfl
    simp only [Nat.zero_add, List.set_cons_succ, List.set_cons_zero] at b3
    have ix0 := ycl (n := (lst f.code).length) (p := 0) (by omega) (by omega) 1 1 .i64
    rw [show (0 : Int).toNat = 0 from rfl] at ix0
    have st := y26p (H := [AB f, ⟨1, .arr false false 1 (List.replicate (lst f.code).length [.nils])⟩, AL 1 (y6g f), AI 1 [0], D0, D0]) (id := 1) (g := 1) (i := 0) (rows := List.replicate (lst f.code).length [.nils]) (v := .ls 2 1 1 0 (lst f.regs).length) (w := .nils) rfl (by rw [List.getElem?_replicate, if_pos (by omega)]) rfl rfl
    rw [y1hl f hn1] at st
    simp only [List.set_cons_succ, List.set_cons_zero] at st
    have R0 : SRep f [AB f, ⟨1, .arr false false 1 (y3o (fun _ => (2, 1)) (tab0 f))⟩, AL 1 (y6g f), AI 1 [0], D0, D0] (tab0 f) (fun _ => (2, 1)) := by
      have hx : ∀ (i : Nat) t, (tab0 f)[i]? = some (some t) → i = 0 ∧ t = y6g f := by
        intro i t ht
        rcases y7i ht with ⟨e, e2⟩ | ⟨_, h⟩
        · injection e2 with e2; exact ⟨e, e2⟩
        · rw [List.getElem?_replicate] at h
          split at h <;> cases h
      refine ⟨rfl, rfl, fun i s hs => by rw [(hx i s hs).2]; rfl, fun i j s t h1 h2 hij => ?_, fun i s hs => .inl rfl⟩
      have a := (hx i s h1).1
      have b := (hx j t h2).1
      omega
    obtain ⟨r, hr1, hr2⟩ := yft w (2 * pot (lst f.regs).length (tab0 f) + 1 + 1) _ _ (SInv.start w) (by simp)
    obtain ⟨H', P', e1, R1, h6⟩ := y1zg w hr _ _ _ [0] [] _ 1 r (SInv.start w) R0 rfl (by simp) (y1dq f w) hr1
    have ck := y1eo w hs hr2.ok _ 0 H' (Nat.zero_add _) R1 h6
    simp only [Int.ofNat_zero] at ck
    have hm : setM f = y61 f r 0 (lst f.code).length := by
      rw [setM, hw, Bool.true_and, Bool.eq_iff_iff, @decide_eq_true_eq (setP f) (Classical.propDecidable _), yfx, ← hr2.tells w]
      constructor
      · intro h j _ hj
        have hj : j < (lst f.code).length := by omega
        exact (ymf w hr2.ok hj).2 (h j hj)
      · intro h i hi
        exact (ymf w hr2.ok hi).1 (h i (by omega) (by omega))
    rw [hm, ← ck]
    have e17 : yqy (.lp 0 1 0 0) (.ls 1 1 1 0 (lst f.code).length) H' = ymv (.ls 1 1 1 0 (lst f.code).length) (slA f.code) (.int .i64 (lst f.code).length) (.int .i64 0) H' := by
      simp only [yqy, y2b, Nat.zero_add, yc, yux R1.box, y34]
    rw [← e17, ← e1]
    simp only [yyi, n0, yz, y169, l0, yc, c8, if_true, y4l, show decide ((0 : Int) ≠ 0) = false from rfl, y31, y1qj, y2b, Nat.zero_add, l3, y34, m1, y1lf, lr, m2, y1n4, l1, lp, yxg, b3, y1o2, ix0, st]
    rfl
end Go.Vm
namespace Go.Vm
open Cel
theorem yo0 (f : Fn) (hf : FnIn f) : (y9 E).p 116 [.agg (enc f)] = some ⟨.bool true, [], true, [], []⟩ := by
  rw [y2oz]
  have n0 : newC 0 (some 0) (cellsOf (.agg (enc f))) [⟨0, .dead⟩, ⟨0, .dead⟩] = some (.lp 0 1 0 0, [AB f, D0]) := by simp
  have l0 : ∀ t : Heap, evLd true 5 (.lp 0 1 0 0) (AB f :: t) = some (.agg (enc f)) := fun t => by simp
  have l3 : ∀ t : Heap, evLd false 1 (.lp 0 1 0 3) (AB f :: t) = some (slA f.code) := fun t => by simp
  have l4 : ∀ t : Heap, evLd false 1 (.lp 0 1 0 4) (AB f :: t) = some (slA f.rows) := fun t => by simp
  have lr : ∀ t : Heap, evLd false 1 (.lp 0 1 0 0) (AB f :: t) = some (slA f.regs) := fun t => by simp
  have ch : ∀ H : Heap, y8 E (y9 E) 0 none true 117 [] H = some (.bool true, H) := fun H => y18 (fa := ⟨[], true, []⟩) rfl rfl rfl y2dg ⟨_, rfl, rfl⟩
  by_cases h1 : (400 : Int) < ((lst f.code).length : Int)
  · simp only [yw0, n0, yz, y19d, ch, y2h, Bool.not_true, yc, y31, y1c7, y2b, Nat.zero_add, l3, y34, y6h, h1, decide_true, ykp, y1u, y29, y16]
  by_cases h2 : (100 : Int) < ((lst f.regs).length : Int)
  · simp only [yw0, n0, yz, y19d, ch, y2h, Bool.not_true, yc, y31, y1c7, y2b, Nat.zero_add, l3, lr, y34, y6h, h1, h2, decide_true, decide_false, yie, ykp, y2o, y1u, y29, y16]
  by_cases h3 : (50 : Int) < ((lst f.rows).length : Int)
  · simp only [yw0, n0, yz, y19d, ch, y2h, Bool.not_true, yc, y31, y1c7, y2b, Nat.zero_add, l3, lr, l4, y34, y6h, h1, h2, h3, decide_true, decide_false, yie, y2o, y1u, y29, y16]
  have hfit := hf.fit3
  have hsm := hf.sm (by omega) (by omega)
  have hck := y134 f hfit
  have c29 : ∀ H, y8 E (y9 E) 0 none true 29 [.agg (enc f)] H = some (.int .i64 (if wf f then 0 else 80), H) := fun H => y18 rfl (fz_f f H) rfl hck ⟨_, rfl, rfl⟩
  obtain ⟨d1, d2⟩ := y2e8 f hfit hsm (by omega)
  have e0 : yw0 (.agg (enc f)) [⟨0, .dead⟩, ⟨0, .dead⟩] = y1p7 (.lp 0 1 0 0) [AB f, D0] := by
    simp only [yw0, n0, yz, y19d, ch, y2h, Bool.not_true, yc, y31, y1c7, y2b, Nat.zero_add, l3, lr, l4, y34, y6h, h1, h2, h3, decide_false, yie, y2o]
  have n1 : newC 0 (some 1) [.nils, .nils, .int .i64 0, .nils, .nils] [AB f, D0] = some (.lp 1 1 0 0, [AB f, ⟨1, .arr true false 5 [[.nils, .nils, .int .i64 0, .nils, .nils]]⟩]) := by simp
  have s1 : ∀ g : Fn, evSt 5 (.lp 1 1 0 0) (.agg (enc g)) [AB f, ⟨1, .arr true false 5 [[.nils, .nils, .int .i64 0, .nils, .nils]]⟩] = some (.tup [], [AB f, AFn g]) := fun g => by simp [y7c, y15]
  have lg : ∀ g : Fn, evLd true 5 (.lp 1 1 0 0) [AB f, AFn g] = some (.agg (enc g)) := fun g => by simp
  have lg3 : ∀ g : Fn, evLd false 1 (.lp 1 1 0 3) [AB f, AFn g] = some (slA g.code) := fun g => by simp
  have e2 : ∀ g : Fn, (y9 E).p 118 [.agg (enc f)] = some (y2m g) → y1p7 (.lp 0 1 0 0) [AB f, D0] = y1aq (.lp 0 1 0 0) (.lp 1 1 0 0) [AB f, AFn g] := fun g hg => by
    have c1 : ∀ H, y8 E (y9 E) 0 none true 118 [.agg (enc f)] H = some (.agg (enc g), H) := fun H => y18 rfl (fz_f f H) rfl hg (y19w g)
    simp only [y1p7, l0, yc, c1, yz, n1, s1]
  rw [e0]
  cases hw : wf f with
  | false =>
    rw [hw] at c29
    rw [e2 f (d1 hw)]
    have hS := y2jk f f ⟨by have := hsm.regs; omega, by have := hsm.params; omega, by omega, by omega, fun x hx => by have := hsm.args x hx; omega⟩
    rw [yuh] at hS
    have cS : ∀ H, y8 E (y9 E) 0 none true 14 [.agg (enc f), .agg (enc f)] H = some (.bool true, H) := fun H => y18 rfl (y2q1 f f H) rfl hS ⟨_, rfl, rfl⟩
    simp only [y1aq, l0, yc, c29, Bool.false_eq_true, if_false, yz, y4l, show decide ((80 : Int) ≠ 0) = true from rfl, y29, lg, cS, y16]
  | true =>
    rw [hw] at c29
    obtain ⟨g, hd, hg⟩ := d2 hw
    have k := hd.ok hw
    rw [e2 g hg]
    have w := ypq hw
    have hp := ysh w.pars
    have hpl : (lst f.params).length ≤ 21 := by
      rcases hp with h | h
      · rw [h]; simp
      · omega
    have hckg := y134 g (k.fit hfit)
    rw [k.wf] at hckg
    have cg : ∀ H, y8 E (y9 E) 0 none true 29 [.agg (enc g)] H = some (.int .i64 0, H) := fun H => y18 rfl (fz_f g H) rfl hckg ⟨_, rfl, rfl⟩
    have hSf := y2nq f hfit hsm.args (by omega) (by omega)
    have hSg := y2nq g (k.fit hfit) (k.args hsm.args) (by rw [k.swap.rows]; omega) (by rw [k.swap.params]; omega)
    have cSf : ∀ H, y8 E (y9 E) 0 none true 77 [.agg (enc f)] H = some (.bool (setM f), H) := fun H => y18 rfl (fz_f f H) rfl hSf ⟨_, rfl, rfl⟩
    have cSg : ∀ H, y8 E (y9 E) 0 none true 77 [.agg (enc g)] H = some (.bool (setM g), H) := fun H => y18 rfl (fz_f g H) rfl hSg ⟨_, rfl, rfl⟩
    have hlen := k.swap.len
    cases hs : setM f with
    | true =>
      rw [hs] at cSf
      rw [k.set hs] at cSg
      simp only [y1aq, l0, yc, c29, if_true, yz, y4l, show decide ((0 : Int) ≠ 0) = false from rfl, y31, y222, lg, cg, y4p, decide_true, y84, y1an, y2b, Nat.zero_add, lg3, l3, y34, hlen, y1u, cSf, y2h, Bool.not_true, yie, y2pu, cSg, y2o, y16]
    | false =>
      rw [hs] at cSf
      simp only [y1aq, l0, yc, c29, if_true, yz, y4l, show decide ((0 : Int) ≠ 0) = false from rfl, y31, y222, lg, cg, y4p, decide_true, y84, y1an, y2b, Nat.zero_add, lg3, l3, y34, hlen, y1u, cSf, y2h, Bool.not_false, ykp, y2ro, y16]
end Go.Vm
