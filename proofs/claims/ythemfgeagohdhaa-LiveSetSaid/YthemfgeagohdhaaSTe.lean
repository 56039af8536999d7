/- flow.meet: what is set on one way more to a place. Functions whose lists are not too long. flow.Set: the table is made as the plain words have it. The document's answer whether an operation is a call. The document's answer which registers an instruction reads, and which one it writes. The document's Next, Caught. The document's searches: where they go on, what they look for. flow.Set: its end, its beginning, and what it says. LiveSet: where a function sets all that it reads nothing but its parameters is live at its beginning. -/
import Derived.Test.YthemfgeagohdhaaSX
import Derived.Test.YthemfgeagohdhaaSTd
set_option linter.unusedSimpArgs false
set_option linter.unusedVariables false
set_option linter.unusedSectionVars false
namespace Go.Vm
open Cel
def inRow (P : Nat → Nat × Nat) (i : Nat) : Option (List Bool) → List AV
  | none => [.nils]
  | some s => [.ls (P i).1 (P i).2 1 0 s.length]
def tabRows (P : Nat → Nat × Nat) (ins : Tab) : List (List AV) := (List.range ins.length).map fun i => inRow P i (ins[i]?.join)
structure SRep (f : Fn) (H : Heap) (ins : Tab) (P : Nat → Nat × Nat) : Prop where
  box : H[0]? = some (AB f)
  tab : H[1]? = some ⟨1, .arr false false 1 (tabRows P ins)⟩
  obj : ∀ (i : Nat) s, ins[i]? = some (some s) → H[(P i).1]? = some (AL (P i).2 s)
  inj : ∀ (i j : Nat) s t, ins[i]? = some (some s) → ins[j]? = some (some t) → i ≠ j → (P i).1 ≠ (P j).1
  far : ∀ (i : Nat) s, ins[i]? = some (some s) → (P i).1 = 2 ∨ 6 ≤ (P i).1
theorem tabRows_get {P : Nat → Nat × Nat} {ins : Tab} {i : Nat} {x : Option (List Bool)} (h : ins[i]? = some x) : (tabRows P ins)[i]? = some (inRow P i x) := by
  have hi := (List.getElem?_eq_some_iff.1 h).1
  simp only [tabRows, List.getElem?_map, List.getElem?_range hi, Option.map_some, h, Option.join]
  rfl
theorem tabRows_set {P P' : Nat → Nat × Nat} {ins : Tab} {i : Nat} {x : Option (List Bool)} (hi : i < ins.length) (hP : ∀ j, j ≠ i → P' j = P j) : (tabRows P ins).set i (inRow P' i x) = tabRows P' (ins.set i x) := by
  unfold tabRows
  rw [List.length_set]
  refine range_set' ?_ fun j hj => ?_
  · simp [hi]
  · rw [List.getElem?_set_ne (fun e => hj e.symm)]
    cases h : ins[j]?.join with
    | none => rfl
    | some s => simp only [inRow, hP j hj]
theorem SRep.other {f : Fn} {H : Heap} {ins : Tab} {P : Nat → Nat × Nat} (R : SRep f H ins P) {a : Nat} {x : AO} (ha : a = 3 ∨ a = 4 ∨ a = 5 ∨ H.length ≤ a) : SRep f (H.set a x) ins P := by
  have h0 := get_lt R.box
  have h1 := get_lt R.tab
  refine ⟨by rw [gs_ne (by omega)]; exact R.box, by rw [gs_ne (by omega)]; exact R.tab, fun i s hs => ?_, R.inj, R.far⟩
  have := R.far i s hs
  have h2 := get_lt (R.obj i s hs)
  rw [gs_ne (by omega)]
  exact R.obj i s hs
theorem SRep.more {f : Fn} {H : Heap} {ins : Tab} {P : Nat → Nat × Nat} (R : SRep f H ins P) (n : Nat) : SRep f (H ++ deadSlots n) ins P :=
  ⟨by rw [ga_lt (get_lt R.box)]; exact R.box, by rw [ga_lt (get_lt R.tab)]; exact R.tab, fun i s hs => by rw [ga_lt (get_lt (R.obj i s hs))]; exact R.obj i s hs, R.inj, R.far⟩
theorem SRep.beyond {f : Fn} {H : Heap} {ins : Tab} {P : Nat → Nat × Nat} (R : SRep f H ins P) {a : Nat} {x : AO} (h0 : a ≠ 0) (h1 : a ≠ 1) (ha : ∀ (i : Nat) s, ins[i]? = some (some s) → (P i).1 ≠ a) : SRep f (H.set a x) ins P :=
  ⟨by rw [gs_ne h0]; exact R.box, by rw [gs_ne h1]; exact R.tab, fun i s hs => by rw [gs_ne (fun e => ha i s hs e.symm)]; exact R.obj i s hs, R.inj, R.far⟩
def andK (k : Nat) (t s : List Bool) : List Bool := (List.range t.length).map fun j => if j < k then t.getD j false && s.getD j false else t.getD j false
def lessK (k : Nat) (t s : List Bool) : Bool := (List.range k).any fun j => t.getD j false && !s.getD j false
theorem andK_len (k : Nat) (t s : List Bool) : (andK k t s).length = t.length := by simp [andK]
theorem andK_0 (t s : List Bool) : andK 0 t s = t := by
  refine List.ext_getElem (by simp [andK]) fun i h1 h2 => ?_
  simp [andK, h2]
theorem andK_get {k : Nat} {t s : List Bool} {j : Nat} (h : j < t.length) : (andK k t s)[j]? = some (if j < k then t.getD j false && s.getD j false else t.getD j false) := by simp [andK, h]
theorem andK_all {t s : List Bool} (h : t.length = s.length) : andK t.length t s = andB t s := by
  refine List.ext_getElem (by simp [andK, andB, h]) fun i h1 h2 => ?_
  have hi : i < t.length := by simpa [andK] using h1
  have hi2 : i < s.length := by omega
  simp [andK, andB, hi, hi2]
theorem lessK_all {t s : List Bool} (h : t.length = s.length) : lessK t.length t s = lessB t s := by
  rw [Bool.eq_iff_iff, lessB_iff, lessK, List.any_eq_true]
  constructor
  · rintro ⟨j, hj, hb⟩
    rw [List.mem_range] at hj
    have hj2 : j < s.length := by omega
    simp only [List.getD_eq_getElem?_getD, List.getElem?_eq_getElem hj, List.getElem?_eq_getElem hj2, Option.getD_some, Bool.and_eq_true, Bool.not_eq_true'] at hb
    exact ⟨j, by rw [List.getElem?_eq_getElem hj, hb.1], by rw [List.getElem?_eq_getElem hj2, hb.2]⟩
  · rintro ⟨j, h1, h2⟩
    have hj := (List.getElem?_eq_some_iff.1 h1).1
    exact ⟨j, List.mem_range.2 hj, by simp [List.getD_eq_getElem?_getD, h1, h2]⟩
theorem andK_set {k : Nat} {t s : List Bool} (ht : t.getD k false = true) (hs : s.getD k false = false) : (andK k t s).set k false = andK (k + 1) t s := by
  unfold andK
  refine range_set' ?_ fun j hj => ?_
  · rw [if_pos (by omega), ht, hs]; rfl
  · by_cases h1 : j < k
    · rw [if_pos (by omega), if_pos h1]
    · rw [if_neg (by omega), if_neg h1]
theorem andK_keep {k : Nat} {t s : List Bool} (h : (t.getD k false && !s.getD k false) = false) : andK (k + 1) t s = andK k t s := by
  refine List.map_congr_left fun j _ => ?_
  by_cases e : j = k
  · subst e
    rw [if_pos (by omega), if_neg (by omega)]
    cases ht : t.getD j false <;> cases hs : s.getD j false <;> simp_all
  · by_cases h1 : j < k
    · rw [if_pos (by omega), if_pos h1]
    · rw [if_neg (by omega), if_neg h1]
theorem lessK_succ (k : Nat) (t s : List Bool) : lessK (k + 1) t s = (lessK k t s || (t.getD k false && !s.getD k false)) := by
  simp [lessK, List.range_succ]
theorem meet_loop (fb : Nat) (v3 : AV) (n to : Nat) (hto : to < n) (id g ga : Nat) (t s : List Bool) (hl : t.length = s.length) (hn : t.length ≤ 9223372036854775806) (hid1 : id ≠ 1) (hid4 : id ≠ 4) (rows : List (List AV)) (hrow : rows[to]? = some [.ls id g 1 0 t.length]) :
    ∀ (d k : Nat) (H : Heap), k + d = t.length → H[1]? = some ⟨1, .arr false false 1 rows⟩ → H[id]? = some (AL g (andK k t s)) → H[4]? = some (AL ga s) →
    q10_L3 fb (.ls 1 1 1 0 n) (.int .i64 (to : Int)) (.ls 4 ga 1 0 s.length) v3 (.bool (lessK k t s)) (.ls id g 1 0 t.length) (.int .i64 t.length) (.int .i64 k) H =
      q10_2 fb (.int .i64 (to : Int)) v3 (.bool (lessB t s)) (H.set id (AL g (andB t s))) := by
  intro d
  induction d with
  | zero =>
    intro k H hk h1 hi h4
    have hk' : k = t.length := by omega
    subst hk'
    have hc : ¬ ((t.length : Int) < (t.length : Int)) := by omega
    rw [q10_L3_go]
    simp only [q10_7, evBin_lss, hc, decide_false, ob_some, q10_6, cnd_f, lessK_all hl]
    rw [← andK_all hl, set_same hi]
  | succ d ih =>
    intro k H hk h1 hi h4
    have hlt : k < t.length := by omega
    have hlt2 : k < s.length := by omega
    have hc : ((k : Int) < (t.length : Int)) := by omega
    have hw := wrap_up hlt (by omega)
    have ixT := ixAt' (n := t.length) (p := (k : Int)) (by omega) hc id g .i64
    have ixS := ixAt' (n := s.length) (p := (k : Int)) (by omega) (by omega) 4 ga .i64
    have ixI := ixAt' (n := n) (p := (to : Int)) (by omega) (by omega) 1 1 .i64
    rw [show ((k : Int)).toNat = k by omega] at ixT ixS
    rw [show ((to : Int)).toNat = to by omega] at ixI
    have gT := andK_get (k := k) (s := s) hlt
    rw [if_neg (Nat.lt_irrefl _)] at gT
    have lT := ld_at (α := Bool) (H := H) (id := id) (g := g) (i := k) (v := .bool (t.getD k false)) hi gT rfl
    have lS := ld_at (α := Bool) (H := H) (id := 4) (g := ga) (i := k) (v := .bool (s.getD k false)) h4 (by rw [List.getD_eq_getElem?_getD, List.getElem?_eq_getElem hlt2]; rfl) rfl
    have lI := ld_row (i := to) h1 hrow
    have ih0 := fun H => ih (k + 1) H (by omega)
    rw [q10_L3_go]
    cases hb : (t.getD k false && !s.getD k false) with
    | true =>
      rw [Bool.and_eq_true, Bool.not_eq_true'] at hb
      obtain ⟨b1, b2⟩ := hb
      have hidl := get_lt hi
      have st := evSt_at (α := Bool) (H := H) (id := id) (g := g) (i := k) (L := andK k t s) (v := .bool false) (y := false) hi (by rw [andK_len]; exact hlt) rfl
      rw [andK_set b1 b2] at st
      simp only [es_bool] at st
      have ls : lessK (k + 1) t s = true := by rw [lessK_succ, b1, b2]; simp
      have := ih0 (H.set id (AL g (andK (k + 1) t s))) (by rw [gs_ne hid1]; exact h1) (gs_eq hidl) (by rw [gs_ne hid4]; exact h4)
      rw [List.set_set, ls] at this
      push_cast at this
      rw [b1] at lT
      rw [b2] at lS
      simp only [q10_7, evBin_lss, hc, decide_true, ob_some, q10_6, cnd_t, q10_5, ixT, lT, gb_tt, ixS, lS, evUn_not, Bool.not_false, evPick_t, ixI, lI, st, oh_some, q10_4, evBin_add, hw, this]
    | false =>
      have ls : lessK (k + 1) t s = lessK k t s := by rw [lessK_succ, hb, Bool.or_false]
      have := ih0 H h1 (by rw [andK_keep hb]; exact hi) h4
      rw [ls] at this
      push_cast at this
      cases b1 : t.getD k false with
      | false =>
        rw [b1] at lT
        simp only [q10_7, evBin_lss, hc, decide_true, ob_some, q10_6, cnd_t, q10_5, ixT, lT, gb_ft, gb_tup, evPick_f, cnd_f, q10_4, evBin_add, hw, this]
      | true =>
        rw [b1] at lT
        have b2 : s.getD k false = true := by
          rw [b1] at hb
          simpa using hb
        rw [b2] at lS
        simp only [q10_7, evBin_lss, hc, decide_true, ob_some, q10_6, cnd_t, q10_5, ixT, lT, gb_tt, ixS, lS, evUn_not, Bool.not_true, evPick_t, cnd_f, q10_4, evBin_add, hw, this]
theorem app_wk {H : Heap} {fb j gw g2 : Nat} {work T : List Int} {to : Int} (h3 : H[3]? = some (AI gw (work ++ T))) (hl : H[fb + j]? = some (AI g2 [to])) (hb : work.length + 1 ≤ 137438953472) (sl : Option Nat) :
    evApp fb sl 1 8 (.ls 3 gw 1 0 work.length) (.ls (fb + j) g2 1 0 1) H = some (.ls 3 (gw + 1) 1 0 (work ++ [to]).length, H.set 3 (AI (gw + 1) (work ++ [to]))) :=
  app_stk (α := Int) (M := [to]) (rows_ls (α := Int) (L := [to]) hl) h3 (app_bound (by simpa using hb))
theorem s_meet {f : Fn} {H : Heap} {ins : Tab} {P : Nat → Nat × Nat} (Rp : SRep f H ins P) {n R : Nat} (ok : TblOk n R ins) {s : List Bool} {work T : List Int} {gw ga : Nat} {to : Int} (hs : s.length = R) (hR : R ≤ 1000000) (h3 : H[3]? = some (AI gw (work ++ T))) (h4 : H[4]? = some (AL ga s)) (h6 : 6 ≤ H.length)
    (t0 : 0 ≤ to) (t1 : to < n) (hb : work.length + 1 ≤ 137438953472) :
    ∃ H' P' gw' T', callAny E (callW E) 0 none false 80 [.ls 1 1 1 0 n, .int .i64 to, .ls 4 ga 1 0 R, .ls 3 gw 1 0 work.length] H = some (.ls 3 gw' 1 0 (meetM s to (ins, work)).2.length, H') ∧
      SRep f H' (meetM s to (ins, work)).1 P' ∧ H'[3]? = some (AI gw' ((meetM s to (ins, work)).2 ++ T')) ∧ H'[4]? = some (AL ga s) ∧ H'[5]? = H[5]? ∧ 6 ≤ H'.length := by
  have R0 := Rp.more 5
  have g3 : (H ++ deadSlots 5)[3]? = some (AI gw (work ++ T)) := by rw [ga_lt (by omega)]; exact h3
  have g4 : (H ++ deadSlots 5)[4]? = some (AL ga s) := by rw [ga_lt (by omega)]; exact h4
  have g5 : (H ++ deadSlots 5)[5]? = H[5]? := ga_lt (by omega)
  have ecall : callAny E (callW E) 0 none false 80 [.ls 1 1 1 0 n, .int .i64 to, .ls 4 ga 1 0 R, .ls 3 gw 1 0 work.length] H =
      q10_12 H.length (.ls 1 1 1 0 n) (.int .i64 to) (.ls 4 ga 1 0 R) (.ls 3 gw 1 0 work.length) (H ++ deadSlots 5) := by
    rw [callAny, if_neg (by simp), x_q10, if_pos rfl]
    rfl
  rw [ecall]
  have hlen : (H ++ deadSlots 5).length = H.length + 5 := by simp [deadSlots]
  have d0 : (H ++ deadSlots 5)[H.length + 0]? = some ⟨0, .dead⟩ := ga_ge (by omega)
  have d1 : (H ++ deadSlots 5)[H.length + 1]? = some ⟨0, .dead⟩ := ga_ge (by omega)
  have d3 : (H ++ deadSlots 5)[H.length + 3]? = some ⟨0, .dead⟩ := ga_ge (by omega)
  have dead : ∀ (i : Nat) u, ins[i]? = some (some u) → (P i).1 < H.length := fun i u hu => get_lt (Rp.obj i u hu)
  generalize hH0 : H ++ deadSlots 5 = H0 at *
  have ixI := ixAt' (n := n) (p := to) t0 (by omega) 1 1 .i64
  have hlt : to.toNat < ins.length := by rw [ok.len]; omega
  obtain ⟨x, hx⟩ : ∃ x, ins[to.toNat]? = some x := ⟨_, List.getElem?_eq_getElem hlt⟩
  have hrow := tabRows_get (P := P) hx
  cases x with
  | none =>
    have hm : meetM s to (ins, work) = (ins.set to.toNat (some s), work ++ [to]) := by rw [meetM, hx]
    rw [hm]
    have lI := ld_row (i := to.toNat) R0.tab hrow
    have hE : evEqnB 1 false .nils .nils = some (.bool true) := rfl
    have ha : fzList (fz H0 fuelF) [.ls 4 ga 1 0 R] = some ⟨[slA (some s)], true, [4]⟩ := by
      have hz := fz_ls0 (α := Bool) (k := 10) g4
      rw [hs] at hz
      have hz' : fz H0 fuelF (.ls 4 ga 1 0 R) = some ⟨slA (some s), s.all scal, [4]⟩ := hz
      rw [fzList_cons, hz', fzList_nil]
      simp
    have c1 := call_own2 (α := Bool) (E := E) (C := callW E) (fb := H.length) (j := 0) (f := 78) (H := H0) (N := some s) rfl ha (s_CloneB (some s) (by simp only [lst_some]; omega)) (by simp) d0
    simp only [ownV, ownO, es_bool, hs] at c1
    have st1 := st_row (H := H0.set (H.length + 0) (AL 1 s)) (id := 1) (g := 1) (i := to.toNat) (rows := tabRows P ins) (v := .ls (H.length + 0) 1 1 0 R) (w := .nils) (by rw [gs_ne (by omega)]; exact R0.tab) hrow rfl rfl
    have hrows : (tabRows P ins).set to.toNat [.ls (H.length + 0) 1 1 0 R] = tabRows (fun j => if j = to.toNat then (H.length + 0, 1) else P j) (ins.set to.toNat (some s)) := by
      rw [← tabRows_set (P := P) (P' := fun j => if j = to.toNat then (H.length + 0, 1) else P j) (x := some s) hlt (fun j hj => by rw [if_neg hj])]
      simp only [inRow, if_true, hs]
    rw [hrows] at st1
    have b1 := bs_one (H := (H0.set (H.length + 0) (AL 1 s)).set 1 ⟨1, .arr false false 1 (tabRows (fun j => if j = to.toNat then (H.length + 0, 1) else P j) (ins.set to.toNat (some s)))⟩) (fb := H.length) (j := 1) (o := ⟨0, .dead⟩) to (by
      rw [gs_ne (by omega), gs_ne (by omega)]; exact d1)
    have a1 := app_wk (H := ((H0.set (H.length + 0) (AL 1 s)).set 1 ⟨1, .arr false false 1 (tabRows (fun j => if j = to.toNat then (H.length + 0, 1) else P j) (ins.set to.toNat (some s)))⟩).set (H.length + 1) (AI 1 [to])) (fb := H.length) (j := 1) (gw := gw) (g2 := 1) (work := work) (T := T) (to := to)
      (by rw [gs_ne (by omega), gs_ne (by omega), gs_ne (by omega)]; exact g3) (gs_eq (by rw [List.length_set, List.length_set]; omega)) hb (some 2)
    simp only [Nat.zero_add] at b1
    refine ⟨(((H0.set (H.length + 0) (AL 1 s)).set 1 ⟨1, .arr false false 1 (tabRows (fun j => if j = to.toNat then (H.length + 0, 1) else P j) (ins.set to.toNat (some s)))⟩).set (H.length + 1) (AI 1 [to])).set 3 (AI (gw + 1) (work ++ [to])), fun j => if j = to.toNat then (H.length + 0, 1) else P j, gw + 1, [], ?_, ?_, ?_, ?_, ?_, ?_⟩
    · simp only [q10_12, ixI, ob_some, lI, hE, cnd_t, c1, oh_some, st1, b1, a1]
    · have nf : ∀ (i : Nat) u, (ins.set to.toNat (some s))[i]? = some (some u) → (i = to.toNat ∧ u = s) ∨ (i ≠ to.toNat ∧ ins[i]? = some (some u)) := fun i u hu => by
        rcases set_at hu with ⟨e, e2⟩ | h
        · injection e2 with e2; exact .inl ⟨e, e2⟩
        · exact .inr h
      refine ⟨?_, ?_, fun i u hu => ?_, fun i j u v hu hv hij => ?_, fun i u hu => ?_⟩
      · rw [gs_ne (by omega), gs_ne (by omega), gs_ne (by omega), gs_ne (by omega)]; exact R0.box
      · rw [gs_ne (by omega), gs_ne (by omega), gs_eq (by rw [List.length_set]; omega)]
      · rcases nf i u hu with ⟨e, e2⟩ | ⟨e, h⟩
        · subst e2
          rw [if_pos e, gs_ne (by omega), gs_ne (by omega), gs_ne (by omega), gs_eq (by omega)]
        · have h1 := Rp.far i u h
          have h2 := dead i u h
          rw [if_neg e, gs_ne (by omega), gs_ne (by omega), gs_ne (by omega), gs_ne (by omega)]
          exact R0.obj i u h
      · rcases nf i u hu with ⟨e, _⟩ | ⟨e, h⟩
        · rcases nf j v hv with ⟨e', _⟩ | ⟨e', h'⟩
          · omega
          · have := dead j v h'
            rw [if_pos e, if_neg e']; simp only; omega
        · rcases nf j v hv with ⟨e', _⟩ | ⟨e', h'⟩
          · have := dead i u h
            rw [if_neg e, if_pos e']; simp only; omega
          · rw [if_neg e, if_neg e']; exact Rp.inj i j u v h h' hij
      · rcases nf i u hu with ⟨e, _⟩ | ⟨e, h⟩
        · rw [if_pos e]; right; simp only; omega
        · rw [if_neg e]; exact Rp.far i u h
    · rw [gs_eq (by simp only [List.length_set]; omega), List.append_nil]
    · rw [gs_ne (by omega), gs_ne (by omega), gs_ne (by omega), gs_ne (by omega)]; exact g4
    · rw [gs_ne (by omega), gs_ne (by omega), gs_ne (by omega), gs_ne (by omega)]; exact g5
    · simp only [List.length_set]; omega
  | some t =>
    have ht := ok.rows _ _ hx
    have lI := ld_row (i := to.toNat) R0.tab hrow
    have hE : evEqnB 1 false (.ls (P to.toNat).1 (P to.toNat).2 1 0 t.length) .nils = some (.bool false) := rfl
    have hfar := Rp.far _ _ hx
    have hobj := R0.obj _ _ hx
    have hid := dead _ _ hx
    have eto : ((to.toNat : Nat) : Int) = to := by omega
    have lp := meet_loop H.length (.ls 3 gw 1 0 work.length) n to.toNat (by omega) (P to.toNat).1 (P to.toNat).2 ga t s (by omega) (by omega) (by omega) (by omega) (tabRows P ins) hrow _ 0 H0 (Nat.zero_add _) R0.tab (by rw [andK_0]; exact hobj) g4
    have lk0 : lessK 0 t s = false := rfl
    rw [lk0, eto, hs] at lp
    simp only [Int.ofNat_zero] at lp
    have e12 : q10_12 H.length (.ls 1 1 1 0 n) (.int .i64 to) (.ls 4 ga 1 0 R) (.ls 3 gw 1 0 work.length) H0 = q10_2 H.length (.int .i64 to) (.ls 3 gw 1 0 work.length) (.bool (lessB t s)) (H0.set (P to.toNat).1 (AL (P to.toNat).2 (andB t s))) := by
      rw [← lp]
      simp only [q10_12, ixI, ob_some, lI, hE, cnd_f, q10_11, q10_9, evLen_ls]
    rw [e12]
    have hal : (andB t s).length = t.length := andB_len (by omega)
    have RA : SRep f (H0.set (P to.toNat).1 (AL (P to.toNat).2 (andB t s))) (ins.set to.toNat (some (andB t s))) P := by
      refine ⟨by rw [gs_ne (by omega)]; exact R0.box, ?_, fun i u hu => ?_, fun i j u v hu hv hij => ?_, fun i u hu => ?_⟩
      · rw [gs_ne (by omega), R0.tab]
        congr 3
        rw [← tabRows_set (P := P) (P' := P) hlt (fun _ _ => rfl)]
        have : inRow P to.toNat (some (andB t s)) = inRow P to.toNat (some t) := by simp only [inRow, hal]
        rw [this, set_rows hrow]
      · rcases set_at hu with ⟨e, e2⟩ | ⟨e, h⟩
        · injection e2 with e2; subst e2; subst e
          exact gs_eq (by omega)
        · rw [gs_ne (fun e3 => Rp.inj _ _ _ _ hx h (fun e4 => e e4.symm) e3)]
          exact R0.obj i u h
      · have key : ∀ (i : Nat) u, (ins.set to.toNat (some (andB t s)))[i]? = some (some u) → ∃ u', ins[i]? = some (some u') := fun i u hu => by
          rcases set_at hu with ⟨e, _⟩ | ⟨_, h⟩
          · subst e; exact ⟨t, hx⟩
          · exact ⟨u, h⟩
        obtain ⟨u', h1⟩ := key i u hu
        obtain ⟨v', h2⟩ := key j v hv
        exact Rp.inj i j u' v' h1 h2 hij
      · rcases set_at hu with ⟨e, _⟩ | ⟨_, h⟩
        · subst e; exact hfar
        · exact Rp.far i u h
    have k3 : (H0.set (P to.toNat).1 (AL (P to.toNat).2 (andB t s)))[3]? = some (AI gw (work ++ T)) := by rw [gs_ne (by omega)]; exact g3
    have k4 : (H0.set (P to.toNat).1 (AL (P to.toNat).2 (andB t s)))[4]? = some (AL ga s) := by rw [gs_ne (by omega)]; exact g4
    have k5 : (H0.set (P to.toNat).1 (AL (P to.toNat).2 (andB t s)))[5]? = H[5]? := by rw [gs_ne (by omega)]; exact g5
    cases hb2 : lessB t s with
    | true =>
      have hm : meetM s to (ins, work) = (ins.set to.toNat (some (andB t s)), work ++ [to]) := by rw [meetM, hx]; simp [hb2]
      rw [hm]
      have b1 := bs_one (H := H0.set (P to.toNat).1 (AL (P to.toNat).2 (andB t s))) (fb := H.length) (j := 3) (o := ⟨0, .dead⟩) to (by rw [gs_ne (by omega)]; exact d3)
      have a1 := app_wk (H := (H0.set (P to.toNat).1 (AL (P to.toNat).2 (andB t s))).set (H.length + 3) (AI 1 [to])) (fb := H.length) (j := 3) (gw := gw) (g2 := 1) (work := work) (T := T) (to := to)
        (by rw [gs_ne (by omega)]; exact k3) (gs_eq (by rw [List.length_set]; omega)) hb (some 4)
      simp only [Nat.zero_add] at b1
      refine ⟨((H0.set (P to.toNat).1 (AL (P to.toNat).2 (andB t s))).set (H.length + 3) (AI 1 [to])).set 3 (AI (gw + 1) (work ++ [to])), P, gw + 1, [], ?_, ?_, ?_, ?_, ?_, ?_⟩
      · simp only [q10_2, cnd_t, b1, oh_some, a1, q10_1]
      · refine (RA.beyond (a := H.length + 3) (by omega) (by omega) (fun i u hu => ?_)).other (.inl rfl)
        rcases set_at hu with ⟨e, _⟩ | ⟨_, h⟩
        · subst e; omega
        · have := dead i u h; omega
      · rw [gs_eq (by simp only [List.length_set]; omega), List.append_nil]
      · rw [gs_ne (by omega), gs_ne (by omega)]; exact k4
      · rw [gs_ne (by omega), gs_ne (by omega)]; exact k5
      · simp only [List.length_set]; omega
    | false =>
      have hm : meetM s to (ins, work) = (ins, work) := by rw [meetM, hx]; simp [hb2]
      rw [hm]
      have eA : andB t s = t := by
        rw [← andK_all (by omega : t.length = s.length)]
        have : ∀ k, k ≤ t.length → andK k t s = t := by
          intro k
          induction k with
          | zero => intro _; exact andK_0 t s
          | succ k ih =>
            intro hk
            rw [andK_keep, ih (by omega)]
            cases hc : (t.getD k false && !s.getD k false) with
            | false => rfl
            | true =>
              rw [Bool.and_eq_true, Bool.not_eq_true'] at hc
              have q1 : t[k]? = some true := by
                have := hc.1
                rw [List.getD_eq_getElem?_getD, List.getElem?_eq_getElem (by omega)] at this
                rw [List.getElem?_eq_getElem (by omega)]; simpa using this
              have q2 : s[k]? = some false := by
                have := hc.2
                rw [List.getD_eq_getElem?_getD, List.getElem?_eq_getElem (by omega)] at this
                rw [List.getElem?_eq_getElem (by omega)]; simpa using this
              have := lessB_iff.2 ⟨k, q1, q2⟩
              rw [hb2] at this; cases this
        exact this _ (Nat.le_refl _)
      refine ⟨H0.set (P to.toNat).1 (AL (P to.toNat).2 (andB t s)), P, gw, T, ?_, ?_, k3, k4, k5, ?_⟩
      · simp only [q10_2, cnd_f, q10_1]
      · have : SRep f (H0.set (P to.toNat).1 (AL (P to.toNat).2 (andB t s))) ins P := by
          rw [eA, set_same hobj]; exact R0
        exact this
      · simp only [List.length_set]; omega
end Go.Vm
namespace Go.Vm
structure FnSm (f : Fn) : Prop where
  regs : (lst f.regs).length ≤ 17592186043904
  params : (lst f.params).length ≤ 17592186043904
  code : (lst f.code).length ≤ 2 ^ 38
  rows : (lst f.rows).length ≤ 2 ^ 38
  args : ∀ x ∈ lst f.code, (lst x.args).length ≤ 17592186043904
abbrev ArgsSm (f : Fn) : Prop := ∀ x ∈ lst f.code, (lst x.args).length ≤ 17592186043904
end Go.Vm
namespace Go.Vm
open Cel
theorem meets_loop {f : Fn} {n R ga : Nat} {s : List Bool} (hs : s.length = R) (hR : R ≤ 1000000) {l : List Int} (hl : ∀ to ∈ l, 0 ≤ to ∧ to < (n : Int)) (G : AV → Nat → Heap → Option (Ex AV))
    (step : ∀ w k to H, l[k]? = some to → G w k H = oh (callAny E (callW E) 0 none false 80 [.ls 1 1 1 0 n, .int .i64 to, .ls 4 ga 1 0 R, w] H) fun w' H' => G w' (k + 1) H') :
    ∀ (d k : Nat) (H : Heap) (ins : Tab) (work T : List Int) (P : Nat → Nat × Nat) (gw : Nat), k + d = l.length → SRep f H ins P → TblOk n R ins → H[3]? = some (AI gw (work ++ T)) → H[4]? = some (AL ga s) → 6 ≤ H.length → 2 * pot R ins + work.length ≤ 137438953471 →
    ∃ H' P' gw' T', G (.ls 3 gw 1 0 work.length) k H = G (.ls 3 gw' 1 0 (meets_ s (l.drop k) (ins, work)).2.length) l.length H' ∧ SRep f H' (meets_ s (l.drop k) (ins, work)).1 P' ∧ H'[3]? = some (AI gw' ((meets_ s (l.drop k) (ins, work)).2 ++ T')) ∧
      H'[4]? = some (AL ga s) ∧ 6 ≤ H'.length := by
  intro d
  induction d with
  | zero =>
    intro k H ins work T P gw hk Rp ok h3 h4 h6 hb
    have e : l.drop k = [] := List.drop_eq_nil_of_le (by omega)
    have hk' : k = l.length := by omega
    rw [e, hk']
    exact ⟨H, P, gw, T, rfl, Rp, h3, h4, h6⟩
  | succ d ih =>
    intro k H ins work T P gw hk Rp ok h3 h4 h6 hb
    have hlt : k < l.length := by omega
    have hto := hl _ (List.getElem_mem hlt)
    rw [List.drop_eq_getElem_cons hlt, meets_]
    have st := step (.ls 3 gw 1 0 work.length) k _ H (List.getElem?_eq_getElem hlt)
    generalize l[k] = to at *
    obtain ⟨H1, P1, g1, T1, e1, R1, a3, a4, a5, a6⟩ := s_meet Rp ok hs hR h3 h4 h6 hto.1 hto.2 (by omega)
    obtain ⟨m1, _⟩ := meetM_spec (n := n) (R := R) (s := s) (to := to) (p := (ins, work)) ok hs hto.1 hto.2
    rw [e1, oh_some] at st
    have mp := m1.pot
    have mo := m1.ok
    generalize meetM s to (ins, work) = q at *
    obtain ⟨q1, q2⟩ := q
    simp only at *
    obtain ⟨H2, P2, g2, T2, e2, r2⟩ := ih (k + 1) H1 q1 q2 T1 P1 g1 (by omega) R1 mo a3 a4 a6 (by omega)
    exact ⟨H2, P2, g2, T2, by rw [st, e2], r2⟩
theorem ld_box {f : Fn} {H : Heap} (h : H[0]? = some (AB f)) : evLd true 5 (.lp 0 1 0 0) H = some (.agg (enc f)) := by
  have hr : rowsAt H 0 1 = some (false, 5, [enc f]) := by simp [rowsAt, objAt, h]
  simp [evLd_lp, hr]
theorem ld_code {f : Fn} {H : Heap} (h : H[0]? = some (AB f)) : evLd false 1 (.lp 0 1 0 3) H = some (slA f.code) := by
  have hr : rowsAt H 0 1 = some (false, 5, [enc f]) := by simp [rowsAt, objAt, h]
  simp [evLd_lp, hr]
theorem fz_fi (f : Fn) (i : Int) (H : Heap) : fzList (fz H fuelF) [.agg (enc f), .int .i64 i] = some ⟨[.agg (enc f), .int .i64 i], scal f && (true && true), []⟩ := by
  rw [fzList_cons, fzList_cons, fz_enc, fz_int', fzList_nil]; rfl
theorem fz_x (x : Ins) (H : Heap) : fzList (fz H fuelF) [.agg (enc x)] = some ⟨[.agg (enc x)], scal x && true, []⟩ := by
  rw [fzList_cons, fz_enc, fzList_nil]; rfl
section
variable {f : Fn} (w : Wf f) (hr : (lst f.rows).length ≤ 10000000000000)
include w hr
theorem Set_work : ∀ (k : Nat) (H : Heap) (ins : Tab) (work T : List Int) (P : Nat → Nat × Nat) (gw : Nat) (r : Tab), SInv f ins work → SRep f H ins P → H[3]? = some (AI gw (work ++ T)) → 6 ≤ H.length → 2 * pot (lst f.regs).length ins + work.length ≤ 137438953471 → setLoop f k ins work = some r →
    ∃ H' P', q8_L19 (.lp 0 1 0 0) (.ls 1 1 1 0 (lst f.code).length) (.ls 3 gw 1 0 work.length) H = q8_17 (.lp 0 1 0 0) (.ls 1 1 1 0 (lst f.code).length) H' ∧ SRep f H' r P' ∧ 6 ≤ H'.length := by
  have hn := w.n2
  have hR := w.regs
  intro k
  induction k with
  | zero => intro H ins work T P gw r _ _ _ _ _ h; cases h
  | succ k ih =>
    intro H ins work T P gw r I Rp h3 h6 hb h
    rw [setLoop] at h
    rw [q8_L19_go]
    cases hop : work.getLast? with
    | none =>
      rw [hop] at h
      injection h with h
      subst h
      rw [List.getLast?_eq_none_iff] at hop
      subst hop
      refine ⟨H, P, ?_, Rp, h6⟩
      simp only [q8_40, List.length_nil, evLen_ls, ob_some, evBin_gtr, show ¬ (0 : Int) < ((0 : Nat) : Int) by omega, decide_false, cnd_f]
    | some i =>
      rw [hop] at h
      simp only at h
      have Is := I.step w hop
      have e := getLast_split hop
      obtain ⟨i0, i1, s, hs⟩ := I.wk i (by rw [e]; simp)
      have hts : tabAt ins i.toNat = s := by simp [tabAt, hs]
      rw [hts] at h Is
      obtain ⟨Is1, Is2⟩ := Is
      have hsl := I.ok.rows _ _ hs
      have ei : ((i.toNat : Nat) : Int) = i := by omega
      generalize work.dropLast = L at *
      subst e
      have q1 : ((L ++ [i]).length : Int) = (L.length : Int) + 1 := by simp
      have q2 : (L ++ [i]).length = L.length + 1 := by simp
      rw [q2] at hb Is2
      have hp : (0 : Int) < (L.length : Int) + 1 := by omega
      have hw : IntKind.wrap .i64 ((L.length : Int) + 1 - 1) = (L.length : Int) := by rw [wrap_i64] <;> omega
      have s1 := stk_ix 3 gw L.length
      have s2 := stk_slc 3 gw L.length
      have s3 : evLd false 1 (.lp 3 gw L.length 0) H = some (.int .i64 i) := stk_ld (T := T) (by simp [rowsAt, objAt, h3])
      have e40 : q8_40 (.lp 0 1 0 0) (.ls 1 1 1 0 (lst f.code).length) (.ls 3 gw 1 0 (L ++ [i]).length) H = q8_36 (.lp 0 1 0 0) (.ls 1 1 1 0 (lst f.code).length) (.ls 3 gw 1 0 L.length) (.int .i64 i) H := by
        rw [q8_40, evLen_ls, ob_some, q1, evBin_gtr, ob_some, decide_eq_true hp, cnd_t, q8_38, evLen_ls, ob_some, q1, evBin_sub, ob_some, hw, q2, s1, ob_some, s3, ob_some, q8_37, evLen_ls, ob_some, ← q2, q1, evBin_sub, ob_some, hw, q2, s2, ob_some]
      rw [e40]
      -- the copy
      obtain ⟨o4, d4⟩ : ∃ o, H[0 + 4]? = some o := ⟨_, List.getElem?_eq_getElem (by omega)⟩
      have ixI := ixAt' (n := (lst f.code).length) i0 i1 1 1 .i64
      have lI := ld_row Rp.tab (tabRows_get (P := P) hs)
      have hz : fz H fuelF (.ls (P i.toNat).1 (P i.toNat).2 1 0 s.length) = some ⟨slA (some s), s.all scal, [(P i.toNat).1]⟩ := fz_ls0 (α := Bool) (k := 10) (Rp.obj _ _ hs)
      have ha : fzList (fz H fuelF) [.ls (P i.toNat).1 (P i.toNat).2 1 0 s.length] = some ⟨[slA (some s)], s.all scal && true, [(P i.toNat).1]⟩ := by
        rw [fzList_cons, hz, fzList_nil]; rfl
      have c1 := call_own2 (α := Bool) (E := E) (C := callW E) (fb := 0) (j := 4) (f := 78) (H := H) (N := some s) rfl ha (s_CloneB (some s) (by simp only [lst_some]; omega)) (by simp) d4
      simp only [ownV, ownO, es_bool, Nat.zero_add] at c1
      have R1 := Rp.other (a := 4) (x := AL (o4.gen + 1) s) (.inr (.inl rfl))
      have k3 : (H.set 4 (AL (o4.gen + 1) s))[3]? = some (AI gw (L ++ (i :: T))) := by rw [gs_ne (by omega), h3, List.append_assoc]; rfl
      have k4 : (H.set 4 (AL (o4.gen + 1) s))[4]? = some (AL (o4.gen + 1) s) := gs_eq (by omega)
      have k6 : 6 ≤ (H.set 4 (AL (o4.gen + 1) s)).length := by rw [List.length_set]; exact h6
      generalize H.set 4 (AL (o4.gen + 1) s) = H1 at *
      generalize o4.gen + 1 = ga at *
      -- where a fault leads
      have cC : ∀ H, callAny E (callW E) 0 none true 79 [.agg (enc f), .int .i64 i] H = some (slA (nz (caughtL f i)), H) := fun H => call_reads rfl (fz_fi f i H) rfl (s_Caught f i (by omega)) ⟨_, exO_fz _, rfl⟩
      have cN : ∀ H, callAny E (callW E) 0 none true 81 [.agg (enc f), .int .i64 i] H = some (slA (nz (nextL f i)), H) := fun H => call_reads rfl (fz_fi f i H) rfl (s_Next f i (by omega)) ⟨_, exO_fz _, rfl⟩
      have cD : ∀ H, callAny E (callW E) 0 none true 9 [.agg (enc (insAt f i.toNat))] H = some (.int .i64 (defr (insAt f i.toNat)), H) := fun H => call_reads rfl (fz_x _ H) rfl (s_Def _) ⟨_, rfl, rfl⟩
      obtain ⟨m1, _⟩ := meets_spec (n := (lst f.code).length) hsl (caughtL f i) (ins, L) I.ok (fun to h => w.caught h)
      have lC := w.caught_len i
      have lN := nextL_len f i
      obtain ⟨H2, P2, g2, T2, e2, R2, n3, n4, n6⟩ := meets_loop (f := f) (ga := ga) hsl (by omega) (l := caughtL f i) (fun to h => w.caught h)
        (fun v k H => q8_L28 (.lp 0 1 0 0) (.ls 1 1 1 0 (lst f.code).length) v (.int .i64 i) (.ls 4 ga 1 0 (lst f.regs).length) (slA (nz (caughtL f i))) (.int .i64 (caughtL f i).length) (.int .i64 k) H)
        (fun v k to H hk => by
          have hlt := (List.getElem?_eq_some_iff.1 hk).1
          have hc : ((k : Int) < ((caughtL f i).length : Int)) := by omega
          have hw2 := wrap_up hlt (by omega)
          have kx := ixs_int (o := nz (caughtL f i)) (i := k) (by rw [lst_nz]; exact hk) .i64
          have lx : evLd false 1 (.rp [.int .i64 to]) H = some (.int .i64 to) := by simp
          rw [q8_L28_go]
          simp only [q8_32, evBin_lss, ob_some, hc, decide_true, q8_31, cnd_t, q8_30, kx, lx, q8_29, evBin_add, hw2]
          rfl)
        _ 0 H1 ins L (i :: T) P gw (Nat.zero_add _) R1 I.ok k3 k4 k6 (by omega)
      rw [List.drop_zero] at e2 R2 n3
      simp only [Int.ofNat_zero] at e2
      have mp := m1.pot
      have mo := m1.ok
      simp only at mp
      generalize meets_ s (caughtL f i) (ins, L) = p1 at *
      obtain ⟨ins1, w1⟩ := p1
      simp only at h Is1 Is2 e2 R2 n3 mp mo
      -- what is written
      have hlt : i.toNat < (lst f.code).length := by omega
      have k9 := ixs_insI (o := f.code) i0 (insAt_lt hlt) .i64
      have lx : ∀ t : Heap, evLd true 9 (.rp (enc (insAt f i.toNat))) t = some (.agg (enc (insAt f i.toNat))) := fun t => by simp
      have e27 : q8_27 (.lp 0 1 0 0) (.ls 1 1 1 0 (lst f.code).length) (.ls 3 g2 1 0 w1.length) (.int .i64 i) (.ls 4 ga 1 0 (lst f.regs).length) H2 =
          q8_26 (.lp 0 1 0 0) (.ls 1 1 1 0 (lst f.code).length) (.ls 3 g2 1 0 w1.length) (.int .i64 i) (.ls 4 ga 1 0 (lst f.regs).length) (H2.set 4 (AL ga (writeB (defr (insAt f i.toNat)) s))) := by
        by_cases hd : 0 ≤ defr (insAt f i.toNat)
        · have hd2 := w.def hlt hd
          have ixD := ixAt' (n := (lst f.regs).length) hd hd2 4 ga .i64
          have st := evSt_at (α := Bool) (H := H2) (id := 4) (g := ga) (i := (defr (insAt f i.toNat)).toNat) (L := s) (v := .bool true) (y := true) n4 (by omega) rfl
          simp only [es_bool] at st
          simp only [q8_27, evFa_lp, Nat.zero_add, ob_some, ld_code R2.box, k9, lx, cD, oh_some, evBin_geq, hd, decide_true, cnd_t, ixD, st, writeB, if_true]
        · simp only [q8_27, evFa_lp, Nat.zero_add, ob_some, ld_code R2.box, k9, lx, cD, oh_some, evBin_geq, hd, decide_false, cnd_f, writeB, if_false, set_same n4]
      have R3 := R2.other (a := 4) (x := AL ga (writeB (defr (insAt f i.toNat)) s)) (.inr (.inl rfl))
      have x3 : (H2.set 4 (AL ga (writeB (defr (insAt f i.toNat)) s)))[3]? = some (AI g2 (w1 ++ T2)) := by rw [gs_ne (by omega)]; exact n3
      have x4 : (H2.set 4 (AL ga (writeB (defr (insAt f i.toNat)) s)))[4]? = some (AL ga (writeB (defr (insAt f i.toNat)) s)) := gs_eq (by omega)
      have x6 : 6 ≤ (H2.set 4 (AL ga (writeB (defr (insAt f i.toNat)) s))).length := by rw [List.length_set]; exact n6
      have hwl : (writeB (defr (insAt f i.toNat)) s).length = (lst f.regs).length := by rw [writeB_len]; exact hsl
      generalize H2.set 4 (AL ga (writeB (defr (insAt f i.toNat)) s)) = H3 at *
      generalize writeB (defr (insAt f i.toNat)) s = s' at *
      have hNr : ∀ to ∈ nextL f i, 0 ≤ to ∧ to < ((lst f.code).length : Int) := fun to h => by
        rw [← ei] at h
        exact w.next hlt h
      obtain ⟨H4, P4, g4, T4, e4, R4, y3, y4, y6⟩ := meets_loop (f := f) (ga := ga) hwl (by omega) (l := nextL f i) hNr
        (fun v k H => q8_L20 (.lp 0 1 0 0) (.ls 1 1 1 0 (lst f.code).length) v (.ls 4 ga 1 0 (lst f.regs).length) (slA (nz (nextL f i))) (.int .i64 (nextL f i).length) (.int .i64 k) H)
        (fun v k to H hk => by
          have hlt := (List.getElem?_eq_some_iff.1 hk).1
          have hc : ((k : Int) < ((nextL f i).length : Int)) := by omega
          have hw2 := wrap_up hlt (by omega)
          have kx := ixs_int (o := nz (nextL f i)) (i := k) (by rw [lst_nz]; exact hk) .i64
          have lx : evLd false 1 (.rp [.int .i64 to]) H = some (.int .i64 to) := by simp
          rw [q8_L20_go]
          simp only [q8_24, evBin_lss, ob_some, hc, decide_true, q8_23, cnd_t, q8_22, kx, lx, q8_21, evBin_add, hw2]
          rfl)
        _ 0 H3 ins1 w1 T2 P2 g2 (Nat.zero_add _) R3 mo x3 x4 x6 (by omega)
      rw [List.drop_zero] at e4 R4 y3
      simp only [Int.ofNat_zero] at e4
      generalize meets_ s' (nextL f i) (ins1, w1) = p2 at *
      obtain ⟨ins2, w2⟩ := p2
      simp only at h Is1 Is2 e4 R4 y3
      obtain ⟨H5, P5, e5, R5, z6⟩ := ih H4 ins2 w2 T4 P4 g4 r Is1 R4 y3 y6 (by omega) h
      refine ⟨H5, P5, ?_, R5, z6⟩
      rw [← e5]
      have hc1 : ¬ (((caughtL f i).length : Int) < ((caughtL f i).length : Int)) := by omega
      have hc2 : ¬ (((nextL f i).length : Int) < ((nextL f i).length : Int)) := by omega
      have f2 : q8_L28 (.lp 0 1 0 0) (.ls 1 1 1 0 (lst f.code).length) (.ls 3 g2 1 0 w1.length) (.int .i64 i) (.ls 4 ga 1 0 (lst f.regs).length) (slA (nz (caughtL f i))) (.int .i64 (caughtL f i).length) (.int .i64 (caughtL f i).length) H2 =
          q8_27 (.lp 0 1 0 0) (.ls 1 1 1 0 (lst f.code).length) (.ls 3 g2 1 0 w1.length) (.int .i64 i) (.ls 4 ga 1 0 (lst f.regs).length) H2 := by
        rw [q8_L28_go]
        simp only [q8_32, evBin_lss, ob_some, hc1, decide_false, q8_31, cnd_f]
      have f4 : q8_L20 (.lp 0 1 0 0) (.ls 1 1 1 0 (lst f.code).length) (.ls 3 g4 1 0 w2.length) (.ls 4 ga 1 0 (lst f.regs).length) (slA (nz (nextL f i))) (.int .i64 (nextL f i).length) (.int .i64 (nextL f i).length) H4 =
          q8_L19 (.lp 0 1 0 0) (.ls 1 1 1 0 (lst f.code).length) (.ls 3 g4 1 0 w2.length) H4 := by
        rw [q8_L20_go]
        simp only [q8_24, evBin_lss, ob_some, hc2, decide_false, q8_23, cnd_f]
      rw [← f4, ← e4]
      have e26 : q8_26 (.lp 0 1 0 0) (.ls 1 1 1 0 (lst f.code).length) (.ls 3 g2 1 0 w1.length) (.int .i64 i) (.ls 4 ga 1 0 (lst f.regs).length) H3 =
          q8_L20 (.lp 0 1 0 0) (.ls 1 1 1 0 (lst f.code).length) (.ls 3 g2 1 0 w1.length) (.ls 4 ga 1 0 (lst f.regs).length) (slA (nz (nextL f i))) (.int .i64 (nextL f i).length) (.int .i64 0) H3 := by
        simp only [q8_26, ld_box R3.box, ob_some, cN, oh_some, evLen_sl, lst_nz]
      rw [← e26, ← e27, ← f2, ← e2]
      rw [hsl] at c1 lI
      simp only [q8_36, ixI, ob_some, lI, c1, oh_some, q8_34, ld_box R1.box, cC, evLen_sl, lst_nz]
end
end Go.Vm
namespace Go.Vm
@[simp] theorem s_RCalls (op : Int) : (callW E).p 7 [.int .i64 op] = some ⟨.bool (calls op), [], true, [], []⟩ := by
  rw [x_q59, q59_1]
  by_cases h1 : 23 ≤ op
  · by_cases h2 : op ≤ 26 <;> simp [h1, h2, calls]
  · simp [h1, calls]
end Go.Vm
namespace Go.Vm
open Cel
end Go.Vm
namespace Go.Vm
open Cel
attribute [local simp] callAny callP heapOf_nil
@[simp] theorem s_RThrows (op : Int) : (callW E).p 19 [.int .i64 op] = some ⟨.bool (throws op), [], true, [], []⟩ := by
  rw [x_q67, q67_1]
  by_cases h1 : 7 ≤ op
  · by_cases h2 : op ≤ 12
    · simp [h1, h2, throws]
    · simp [h1, h2, buildSC, fillRows, freeze3 1 0 0 0, s_in3, throws]
      by_cases h3 : op = 20
      · simp [h3]
      by_cases h4 : op = 21
      · simp [h4]
      by_cases h5 : op = 31 <;> simp [h3, h4, h5]
  · have h4 : ¬ op = 20 ∧ ¬ op = 21 ∧ ¬ op = 31 := by omega
    simp [h1, buildSC, fillRows, freeze3 1 0 0 0, s_in3, throws, h4]
end Go.Vm
namespace Go.Vm
open Cel
theorem uses_small (x : Ins) (h : (lst x.args).length ≤ 17592186043904) : (lst (uses x)).length ≤ 17592186043904 := by
  by_cases hc : calls x.op = true
  · simpa [uses, hc] using h
  · have := uses_le3 (x := x) (by simpa using hc)
    omega
end Go.Vm
namespace Go.Vm
open Cel
def okIn : Option (Option (List Bool)) → List Int → Bool
  | some (some s), us => us.all fun u => s.getD u.toNat false
  | _, _ => true
theorem okIn_some (s : List Bool) (us : List Int) : okIn (some (some s)) us = us.all fun u => s.getD u.toNat false := rfl
theorem okIn_none (us : List Int) : okIn (some none) us = true := rfl
theorem okIn_nil (x : Option (Option (List Bool))) : okIn x [] = true := by
  match x with
  | none => rfl
  | some none => rfl
  | some (some s) => rfl
theorem okIn_cons (s : List Bool) (u : Int) (us : List Int) : okIn (some (some s)) (u :: us) = (s.getD u.toNat false && okIn (some (some s)) us) := rfl
def goodAt (f : Fn) (r : Tab) (i : Nat) : Bool := okIn r[i]? (usesAt f i)
def goodFrom (f : Fn) (r : Tab) : Nat → Nat → Bool
  | _, 0 => true
  | i, d + 1 => goodAt f r i && goodFrom f r (i + 1) d
theorem goodFrom_iff (f : Fn) (r : Tab) : ∀ (d i : Nat), goodFrom f r i d = true ↔ ∀ j, i ≤ j → j < i + d → goodAt f r j = true
  | 0, i => by simp [goodFrom]; omega
  | d + 1, i => by
    rw [goodFrom, Bool.and_eq_true, goodFrom_iff f r d (i + 1)]
    constructor
    · rintro ⟨h1, h2⟩ j a b
      by_cases e : j = i
      · rw [e]; exact h1
      · exact h2 j (by omega) (by omega)
    · intro h
      exact ⟨h i (by omega) (by omega), fun j a b => h j (by omega) (by omega)⟩
theorem goodAt_iff {f : Fn} (w : Wf f) {r : Tab} (ok : TblOk (lst f.code).length (lst f.regs).length r) {i : Nat} (hi : i < (lst f.code).length) : goodAt f r i = true ↔ ∀ u ∈ usesAt f i, ∀ s, r[i]? = some (some s) → s[u.toNat]? = some true := by
  unfold goodAt
  have hlt : i < r.length := by rw [ok.len]; exact hi
  obtain ⟨x, hx⟩ : ∃ x, r[i]? = some x := ⟨_, List.getElem?_eq_getElem hlt⟩
  rw [hx]
  cases x with
  | none => simp [okIn_none]
  | some s =>
    have hl := ok.rows _ _ hx
    rw [okIn_some]
    simp only [List.all_eq_true]
    have key : ∀ u ∈ usesAt f i, (s.getD u.toNat false = true ↔ s[u.toNat]? = some true) := fun u hu => by
      obtain ⟨u0, u1⟩ := w.uses hi hu
      have hlt : u.toNat < s.length := by omega
      rw [List.getD_eq_getElem?_getD, List.getElem?_eq_getElem hlt]
      simp
    constructor
    · intro h u hu s' e
      injection e with e; injection e with e; subst e
      exact (key u hu).1 (h u hu)
    · intro h u hu
      exact (key u hu).2 (h u hu s rfl)
section
variable {f : Fn} (w : Wf f) (hs : ArgsSm f)
include w
theorem Set_uses {r : Tab} {P : Nat → Nat × Nat} (ok : TblOk (lst f.code).length (lst f.regs).length r) {i : Nat} (hi : i < (lst f.code).length) (hU : (lst (uses (insAt f i))).length ≤ 9223372036854775807) {H : Heap} (Rp : SRep f H r P) : ∀ (d k : Nat), k + d = (lst (uses (insAt f i))).length →
    q8_L4 (.ls 1 1 1 0 (lst f.code).length) (.int .i64 (i : Int)) (slA f.code) (.int .i64 (lst f.code).length) (.int .i64 (i : Int)) (slA (uses (insAt f i))) (.int .i64 (lst (uses (insAt f i))).length) (.int .i64 (k : Int)) H =
      if okIn r[i]? ((lst (uses (insAt f i))).drop k) then q8_3 (.ls 1 1 1 0 (lst f.code).length) (slA f.code) (.int .i64 (lst f.code).length) (.int .i64 (i : Int)) H else some ⟨.bool false, [], true, [], []⟩ := by
  have hlt : i < r.length := by rw [ok.len]; exact hi
  obtain ⟨x, hx⟩ : ∃ x, r[i]? = some x := ⟨_, List.getElem?_eq_getElem hlt⟩
  have ixI := ixAt' (n := (lst f.code).length) (p := (i : Int)) (by omega) (by omega) 1 1 .i64
  rw [show ((i : Int)).toNat = i by omega] at ixI
  intro d
  induction d with
  | zero =>
    intro k hk
    have e : (lst (uses (insAt f i))).drop k = [] := List.drop_eq_nil_of_le (by omega)
    have hc : ¬ ((k : Int) < ((lst (uses (insAt f i))).length : Int)) := by omega
    rw [e, okIn_nil, q8_L4_go]
    simp only [q8_8, evBin_lss, ob_some, hc, decide_false, q8_7, cnd_f, if_true]
  | succ d ih =>
    intro k hk
    have hlt2 : k < (lst (uses (insAt f i))).length := by omega
    have hc : ((k : Int) < ((lst (uses (insAt f i))).length : Int)) := by omega
    have hw := wrap_up hlt2 (by omega)
    have hmem := List.getElem_mem hlt2
    have kx := ixs_int (List.getElem?_eq_getElem hlt2) .i64
    have ih1 := ih (k + 1) (by omega)
    push_cast at ih1
    rw [List.drop_eq_getElem_cons hlt2, q8_L4_go]
    have hur := w.uses hi hmem
    generalize (lst (uses (insAt f i)))[k] = u at *
    have lx : ∀ t : Heap, evLd false 1 (.rp [.int .i64 u]) t = some (.int .i64 u) := fun t => by simp
    rw [hx] at ih1 ⊢
    cases x with
    | none =>
      rw [okIn_none] at ih1 ⊢
      have lI := ld_row Rp.tab (tabRows_get (P := P) hx)
      have hE : evEqnB 1 true .nils .nils = some (.bool false) := rfl
      simp only [q8_8, evBin_lss, ob_some, hc, decide_true, q8_7, cnd_t, q8_6, kx, lx, ixI, lI, hE, gb_ft, evPick_f, cnd_f, q8_5, evBin_add, hw, ih1]
    | some s =>
      have hl := ok.rows _ _ hx
      have lI := ld_row Rp.tab (tabRows_get (P := P) hx)
      have hE : ∀ a b n, evEqnB 1 true (.ls a b 1 0 n) .nils = some (.bool true) := fun _ _ _ => rfl
      have ixU := ixAt' (n := s.length) hur.1 (by omega) (P i).1 (P i).2 .i64
      have hut : u.toNat < s.length := by omega
      have lU := ld_at (α := Bool) (H := H) (id := (P i).1) (g := (P i).2) (i := u.toNat) (v := .bool (s.getD u.toNat false)) (Rp.obj _ _ hx) (by rw [List.getD_eq_getElem?_getD, List.getElem?_eq_getElem hut]; rfl) rfl
      rw [okIn_cons]
      cases hb : s.getD u.toNat false with
      | true =>
        rw [hb] at lU
        rw [Bool.true_and]
        simp only [q8_8, evBin_lss, ob_some, hc, decide_true, q8_7, cnd_t, q8_6, kx, lx, ixI, lI, hE, gb_tt, ixU, lU, evUn_not, Bool.not_true, evPick_t, cnd_f, q8_5, evBin_add, hw, ih1]
      | false =>
        rw [hb] at lU
        rw [Bool.false_and]
        simp only [q8_8, evBin_lss, ob_some, hc, decide_true, q8_7, cnd_t, q8_6, kx, lx, ixI, lI, hE, gb_tt, ixU, lU, evUn_not, Bool.not_false, evPick_t, expo1_bool', Bool.false_eq_true, if_false]
include hs
theorem Set_check {r : Tab} {P : Nat → Nat × Nat} (ok : TblOk (lst f.code).length (lst f.regs).length r) : ∀ (d i : Nat) (H : Heap), i + d = (lst f.code).length → SRep f H r P → 6 ≤ H.length →
    q8_L2 (.ls 1 1 1 0 (lst f.code).length) (slA f.code) (.int .i64 (lst f.code).length) (.int .i64 (i : Int)) H = some ⟨.bool (goodFrom f r i d), [], true, [], []⟩ := by
  have hn := w.n2
  intro d
  induction d with
  | zero =>
    intro i H hk Rp h6
    have hc : ¬ ((i : Int) < ((lst f.code).length : Int)) := by omega
    rw [q8_L2_go]
    simp only [q8_15, evBin_lss, ob_some, hc, decide_false, q8_14, cnd_f, q8_1, expo1_bool', goodFrom]
  | succ d ih =>
    intro i H hk Rp h6
    have hlt : i < (lst f.code).length := by omega
    have hc : ((i : Int) < ((lst f.code).length : Int)) := by omega
    have hw := wrap_up hlt (by omega)
    have hx := insAt_lt hlt
    have kx := ixs_ins (o := f.code) hx .i64
    have hxa := hs _ (List.mem_of_getElem? hx)
    have lx : ∀ t : Heap, evLd true 9 (.rp (enc (insAt f i))) t = some (.agg (enc (insAt f i))) := fun t => by simp
    obtain ⟨o5, d5⟩ : ∃ o, H[0 + 5]? = some o := ⟨_, List.getElem?_eq_getElem (by omega)⟩
    have n5 : newC 0 (some 5) [.int .i64 0, .int .i64 0, .int .i64 0, .int .i64 0, .int .i64 0, .int .i64 0, .int .i64 0, .str [], .nils] H = some (.lp 5 (o5.gen + 1) 0 0, H.set 5 ⟨o5.gen + 1, .arr true false 9 [[.int .i64 0, .int .i64 0, .int .i64 0, .int .i64 0, .int .i64 0, .int .i64 0, .int .i64 0, .str [], .nils]]⟩) := by
      simp only [Nat.zero_add] at d5
      simp [newC, newBox, place, d5]
    have hl5 : 5 < H.length := by omega
    have st5 : evSt 9 (.lp 5 (o5.gen + 1) 0 0) (.agg (enc (insAt f i))) (H.set 5 ⟨o5.gen + 1, .arr true false 9 [[.int .i64 0, .int .i64 0, .int .i64 0, .int .i64 0, .int .i64 0, .int .i64 0, .int .i64 0, .str [], .nils]]⟩) =
        some (.tup [], H.set 5 ⟨o5.gen + 1, .arr true false 9 [enc (insAt f i)]⟩) := by
      have hr : rowsAt (H.set 5 ⟨o5.gen + 1, .arr true false 9 [[.int .i64 0, .int .i64 0, .int .i64 0, .int .i64 0, .int .i64 0, .int .i64 0, .int .i64 0, .str [], .nils]]⟩) 5 (o5.gen + 1) = some (false, 9, [[.int .i64 0, .int .i64 0, .int .i64 0, .int .i64 0, .int .i64 0, .int .i64 0, .int .i64 0, .str [], .nils]]) := by simp [rowsAt, objAt, hl5]
      simp [evSt_lp, hr, setRows, hl5, spliceAt]
    have ld5 : evLd true 9 (.lp 5 (o5.gen + 1) 0 0) (H.set 5 ⟨o5.gen + 1, .arr true false 9 [enc (insAt f i)]⟩) = some (.agg (enc (insAt f i))) := by
      have hr : rowsAt (H.set 5 ⟨o5.gen + 1, .arr true false 9 [enc (insAt f i)]⟩) 5 (o5.gen + 1) = some (false, 9, [enc (insAt f i)]) := by simp [rowsAt, objAt, hl5]
      simp [evLd_lp, hr]
    have R5 := Rp.other (a := 5) (x := ⟨o5.gen + 1, .arr true false 9 [enc (insAt f i)]⟩) (.inr (.inr (.inl rfl)))
    have x6 : 6 ≤ (H.set 5 ⟨o5.gen + 1, .arr true false 9 [enc (insAt f i)]⟩).length := by rw [List.length_set]; exact h6
    have us := uses_small _ hxa
    have cU : ∀ H, callAny E (callW E) 0 none true 10 [.agg (enc (insAt f i))] H = some (slA (uses (insAt f i)), H) := fun H => call_reads rfl (fz_x _ H) rfl (s_Uses _ hxa) ⟨_, exO_fz _, rfl⟩
    generalize H.set 5 ⟨o5.gen + 1, .arr true false 9 [enc (insAt f i)]⟩ = H1 at *
    have lp := Set_uses w ok hlt (by omega) R5 _ 0 (Nat.zero_add _)
    have ih1 := ih (i + 1) H1 (by omega) R5 x6
    push_cast at ih1
    have h3 : q8_3 (.ls 1 1 1 0 (lst f.code).length) (slA f.code) (.int .i64 (lst f.code).length) (.int .i64 (i : Int)) H1 = some ⟨.bool (goodFrom f r (i + 1) d), [], true, [], []⟩ := by
      simp only [q8_3, evBin_add, hw, ob_some, ih1]
    have hg : okIn r[i]? ((lst (uses (insAt f i))).drop 0) = goodAt f r i := rfl
    rw [h3, hg] at lp
    simp only [Int.ofNat_zero] at lp
    rw [q8_L2_go, goodFrom]
    simp only [q8_15, evBin_lss, ob_some, hc, decide_true, q8_14, cnd_t, q8_11, kx, lx, n5, oh_some, st5, q8_10, ld5, cU, evLen_sl, lp]
    cases goodAt f r i <;> simp
end
def parB (f : Fn) (k : Nat) : List Bool := (List.range (lst f.regs).length).map fun (r : Nat) => decide (((r : Nat) : Int) ∈ (lst f.params).take k)
theorem parB_len (f : Fn) (k : Nat) : (parB f k).length = (lst f.regs).length := by simp [parB]
theorem parB_0 (f : Fn) : parB f 0 = List.replicate (lst f.regs).length false := by
  refine List.ext_getElem (by simp [parB]) fun i h1 h2 => ?_
  simp [parB]
theorem parB_all (f : Fn) : parB f (lst f.params).length = beginB f := by simp [parB, beginB]
theorem parB_set {f : Fn} {k : Nat} (hk : k < (lst f.params).length) (h0 : 0 ≤ (lst f.params)[k]) : (parB f k).set ((lst f.params)[k]).toNat true = parB f (k + 1) := by
  unfold parB
  rw [List.take_succ_eq_append_getElem hk]
  refine range_set' ?_ fun j hj => ?_
  · rw [decide_eq_true_eq, List.mem_append, List.mem_singleton]
    right; omega
  · have : ¬ ((j : Int) = (lst f.params)[k]) := by omega
    simp only [List.mem_append, List.mem_singleton, this, or_false]
theorem Set_pars {f : Fn} (w : Wf f) (hp : (lst f.params).length ≤ 9223372036854775807) (x1 o3 o4 o5 : AO) : ∀ (d k : Nat), k + d = (lst f.params).length →
    q8_L45 (.lp 0 1 0 0) (.ls 1 1 1 0 (lst f.code).length) (.ls 2 1 1 0 (lst f.regs).length) (slA f.params) (.int .i64 (lst f.params).length) (.int .i64 (k : Int)) [AB f, x1, AL 1 (parB f k), o3, o4, o5] =
      q8_44 (.lp 0 1 0 0) (.ls 1 1 1 0 (lst f.code).length) (.ls 2 1 1 0 (lst f.regs).length) [AB f, x1, AL 1 (beginB f), o3, o4, o5] := by
  intro d
  induction d with
  | zero =>
    intro k hk
    have hk' : k = (lst f.params).length := by omega
    have hc : ¬ (((lst f.params).length : Int) < ((lst f.params).length : Int)) := by omega
    rw [hk', parB_all, q8_L45_go]
    simp only [q8_49, evBin_lss, ob_some, hc, decide_false, q8_48, cnd_f]
  | succ d ih =>
    intro k hk
    have hlt : k < (lst f.params).length := by omega
    have hc : ((k : Int) < ((lst f.params).length : Int)) := by omega
    have hw := wrap_up hlt (by omega)
    have kx := ixs_int (o := f.params) (List.getElem?_eq_getElem hlt) .i64
    have hr := parOk_in w.pars (List.getElem_mem hlt)
    have hset := parB_set hlt hr.1
    have ih1 := ih (k + 1) (by omega)
    push_cast at ih1
    rw [q8_L45_go]
    generalize (lst f.params)[k] = p at *
    have lx : ∀ t : Heap, evLd false 1 (.rp [.int .i64 p]) t = some (.int .i64 p) := fun t => by simp
    have ixP := ixAt' (n := (lst f.regs).length) hr.1 hr.2 2 1 .i64
    have st := evSt_at (α := Bool) (H := [AB f, x1, AL 1 (parB f k), o3, o4, o5]) (id := 2) (g := 1) (i := p.toNat) (L := parB f k) (v := .bool true) (y := true) rfl (by rw [parB_len]; omega) rfl
    rw [hset] at st
    simp only [es_bool, List.set_cons_succ, List.set_cons_zero] at st
    simp only [q8_49, evBin_lss, ob_some, hc, decide_true, q8_48, cnd_t, q8_47, kx, lx, ixP, st, oh_some, q8_46, evBin_add, hw, ih1]
theorem mk_bools (H : Heap) {j : Nat} {o : AO} (h : H[j]? = some o) (n : Nat) (hn : n ≤ 1000000) : mkSC 0 (some j) 1 1 [.bool false] (.int .i64 n) (.int .i64 n) H = some (.ls j (o.gen + 1) 1 0 n, H.set j (AL (o.gen + 1) (List.replicate n false))) := by
  simp [mkSC, newArr, place, h]
  refine ⟨by omega, ?_⟩
  show H.set j ⟨_, .arr false false 1 _⟩ = H.set j ⟨_, .arr false false 1 ((List.replicate n false).map enc)⟩
  rw [List.map_replicate]
  rfl
theorem mk_nils (H : Heap) {j : Nat} {o : AO} (h : H[j]? = some o) (n : Nat) (hn : n ≤ 1000000) : mkSC 0 (some j) 1 24 [.nils] (.int .i64 n) (.int .i64 n) H = some (.ls j (o.gen + 1) 1 0 n, H.set j ⟨o.gen + 1, .arr false false 1 (List.replicate n [.nils])⟩) := by
  simp [mkSC, newArr, place, h]
  omega
theorem tab_start (f : Fn) (hn : 1 ≤ (lst f.code).length) : (List.replicate (lst f.code).length [AV.nils]).set 0 [.ls 2 1 1 0 (lst f.regs).length] = tabRows (fun _ => (2, 1)) (tab0 f) := by
  have e : List.replicate (lst f.code).length [AV.nils] = tabRows (fun _ => (2, 1)) (List.replicate (lst f.code).length none) := by
    refine List.ext_getElem (by simp [tabRows]) fun i h1 h2 => ?_
    simp only [List.length_replicate] at h1
    simp [tabRows, inRow, h1]
  rw [e, tab0, ← tabRows_set (P := fun _ => (2, 1)) (by rw [List.length_replicate]; omega) (fun _ _ => rfl)]
  simp only [inRow, beginB_len]
theorem pot_start (f : Fn) (w : Wf f) : 2 * pot (lst f.regs).length (tab0 f) + 1 ≤ 137438953471 := by
  have key : ∀ (R : Nat) (l : Tab), (∀ s, some s ∈ l → s.length = R) → pot R l ≤ l.length * (R + 1) := by
    intro R l
    induction l with
    | nil => intro _; simp [pot]
    | cons a l ih =>
      intro h
      have := ih fun s hs => h s (by simp [hs])
      have h1 : wt R a ≤ R + 1 := by
        cases a with
        | none => exact Nat.le_refl _
        | some s =>
          have := h s (by simp)
          have hc : s.countP id ≤ s.length := List.countP_le_length
          simp only [wt]; omega
      simp only [pot, List.map_cons, List.sum_cons, List.length_cons, Nat.add_mul] at this ⊢
      omega
  have h := key (lst f.regs).length (tab0 f) fun s hs => by
    obtain ⟨i, hi⟩ := List.getElem?_of_mem hs
    exact (SInv.start w).ok.rows i s hi
  have hl : (tab0 f).length = (lst f.code).length := by simp [tab0]
  rw [hl] at h
  have h2 : (lst f.code).length * ((lst f.regs).length + 1) ≤ 20000 * 20001 := Nat.mul_le_mul w.n2 (by have := w.regs; omega)
  omega
theorem s_Set (f : Fn) (hf : FnFit f) (hs : ArgsSm f) (hr : (lst f.rows).length ≤ 10000000000000) (hp : (lst f.params).length ≤ 9223372036854775807) : (callW E).p 77 [.agg (enc f)] = some ⟨.bool (setM f), [], true, [], []⟩ := by
  rw [x_q8]
  have hck := s_Check f hf
  have ha : ∀ H : Heap, fzList (fz H fuelF) [.agg (enc f)] = some ⟨[.agg (enc f)], scal f && true, []⟩ := fun H => by
    rw [fzList_cons, fz_enc, fzList_nil]; rfl
  have c8 : ∀ H, callAny E (callW E) 0 none true 8 [.agg (enc f)] H = some (.int .i64 (if wf f then 0 else 80), H) := fun H => call_reads rfl (ha H) rfl hck ⟨_, rfl, rfl⟩
  have l0 : ∀ t : Heap, evLd true 5 (.lp 0 1 0 0) (AB f :: t) = some (.agg (enc f)) := fun t => by simp
  have n0 : newC 0 (some 0) (cellsOf (.agg (enc f))) [D0, D0, D0, D0, D0, D0] = some (.lp 0 1 0 0, [AB f, D0, D0, D0, D0, D0]) := by simp
  cases hw : wf f with
  | false =>
    rw [hw] at c8
    have hm : setM f = false := by rw [setM, hw]; rfl
    rw [hm]
    simp only [q8_56, n0, oh_some, q8_55, l0, ob_some, c8, Bool.false_eq_true, if_false, evBin_neq, show decide ((80 : Int) ≠ 0) = true from rfl, cnd_t, expo1_bool']
  | true =>
    rw [hw] at c8
    have w := wf_of hw
    have hn1 := w.n1
    have hn2 := w.n2
    have hR := w.regs
    have l3 : ∀ t : Heap, evLd false 1 (.lp 0 1 0 3) (AB f :: t) = some (slA f.code) := fun t => by simp
    have l1 : ∀ t : Heap, evLd false 1 (.lp 0 1 0 1) (AB f :: t) = some (slA f.params) := fun t => by simp
    have lr : ∀ t : Heap, evLd false 1 (.lp 0 1 0 0) (AB f :: t) = some (slA f.regs) := fun t => by simp
    have m1 := mk_nils [AB f, D0, D0, D0, D0, D0] (j := 1) (o := D0) rfl (lst f.code).length (by omega)
    simp only [List.set_cons_succ, List.set_cons_zero] at m1
    have m2 := mk_bools [AB f, ⟨D0.gen + 1, .arr false false 1 (List.replicate (lst f.code).length [.nils])⟩, D0, D0, D0, D0] (j := 2) (o := D0) rfl (lst f.regs).length (by omega)
    simp only [List.set_cons_succ, List.set_cons_zero] at m2
    rw [← parB_0] at m2
    have lp := Set_pars w hp ⟨D0.gen + 1, .arr false false 1 (List.replicate (lst f.code).length [.nils])⟩ D0 D0 D0 _ 0 (Nat.zero_add _)
    simp only [Int.ofNat_zero] at lp
    have b3 := bs_one (H := [AB f, ⟨D0.gen + 1, .arr false false 1 (List.replicate (lst f.code).length [.nils])⟩, AL 1 (beginB f), D0, D0, D0]) (fb := 0) (j := 3) (o := D0) 0 rfl
    simp only [Nat.zero_add, List.set_cons_succ, List.set_cons_zero] at b3
    have ix0 := ixAt' (n := (lst f.code).length) (p := 0) (by omega) (by omega) 1 1 .i64
    rw [show (0 : Int).toNat = 0 from rfl] at ix0
    have st := st_row (H := [AB f, ⟨1, .arr false false 1 (List.replicate (lst f.code).length [.nils])⟩, AL 1 (beginB f), AI 1 [0], D0, D0]) (id := 1) (g := 1) (i := 0) (rows := List.replicate (lst f.code).length [.nils]) (v := .ls 2 1 1 0 (lst f.regs).length) (w := .nils) rfl (by rw [List.getElem?_replicate, if_pos (by omega)]) rfl rfl
    rw [tab_start f hn1] at st
    simp only [List.set_cons_succ, List.set_cons_zero] at st
    have R0 : SRep f [AB f, ⟨1, .arr false false 1 (tabRows (fun _ => (2, 1)) (tab0 f))⟩, AL 1 (beginB f), AI 1 [0], D0, D0] (tab0 f) (fun _ => (2, 1)) := by
      have hx : ∀ (i : Nat) t, (tab0 f)[i]? = some (some t) → i = 0 ∧ t = beginB f := by
        intro i t ht
        rcases set_at ht with ⟨e, e2⟩ | ⟨_, h⟩
        · injection e2 with e2; exact ⟨e, e2⟩
        · rw [List.getElem?_replicate] at h
          split at h <;> cases h
      refine ⟨rfl, rfl, fun i s hs => by rw [(hx i s hs).2]; rfl, fun i j s t h1 h2 hij => ?_, fun i s hs => .inl rfl⟩
      have a := (hx i s h1).1
      have b := (hx j t h2).1
      omega
    obtain ⟨r, hr1, hr2⟩ := setLoop_ends w (2 * pot (lst f.regs).length (tab0 f) + 1 + 1) _ _ (SInv.start w) (by simp)
    obtain ⟨H', P', e1, R1, h6⟩ := Set_work w hr _ _ _ [0] [] _ 1 r (SInv.start w) R0 rfl (by simp) (pot_start f w) hr1
    have ck := Set_check w hs hr2.ok _ 0 H' (Nat.zero_add _) R1 h6
    simp only [Int.ofNat_zero] at ck
    have hm : setM f = goodFrom f r 0 (lst f.code).length := by
      rw [setM, hw, Bool.true_and, Bool.eq_iff_iff, @decide_eq_true_eq (setP f) (Classical.propDecidable _), goodFrom_iff, ← hr2.tells w]
      constructor
      · intro h j _ hj
        have hj : j < (lst f.code).length := by omega
        exact (goodAt_iff w hr2.ok hj).2 (h j hj)
      · intro h i hi
        exact (goodAt_iff w hr2.ok hi).1 (h i (by omega) (by omega))
    rw [hm, ← ck]
    have e17 : q8_17 (.lp 0 1 0 0) (.ls 1 1 1 0 (lst f.code).length) H' = q8_L2 (.ls 1 1 1 0 (lst f.code).length) (slA f.code) (.int .i64 (lst f.code).length) (.int .i64 0) H' := by
      simp only [q8_17, evFa_lp, Nat.zero_add, ob_some, ld_code R1.box, evLen_sl]
    rw [← e17, ← e1]
    simp only [q8_56, n0, oh_some, q8_55, l0, ob_some, c8, if_true, evBin_neq, show decide ((0 : Int) ≠ 0) = false from rfl, cnd_f, q8_54, evFa_lp, Nat.zero_add, l3, evLen_sl, m1, q8_53, lr, m2, q8_51, l1, lp, q8_44, b3, q8_43, ix0, st]
    rfl
end Go.Vm
namespace Go.Vm
open Cel
theorem bef0 {f : Fn} (w : Wf f) {r : Nat} (hr : r < (lst f.regs).length) : befR f 0 r = @decide (badR f r) (Classical.propDecidable _) := by
  have h1 := w.n1
  have b : befR f 0 r = @decide (fromP f [((0 : Nat) : Int)] r) (Classical.propDecidable _) := by
    unfold befR
    simp only [Int.le_refl, show (0 : Int) < ((lst f.code).length : Int) by omega, show (0 : Int) ≤ r by omega, show (r : Int) < ((lst f.regs).length : Int) by omega, Int.toNat_natCast, decide_true, Bool.true_and]
    rfl
  rw [b]
  congr 1
open Classical in
noncomputable def setTo (f : Fn) (r : Nat) : Bool := decide (∀ q : Nat, q < r → (q : Int) ∈ lst f.params ∨ ¬ badR f q)
theorem setTo_all {f : Fn} (hw : wf f = true) : setTo f (lst f.regs).length = setM f := by
  unfold setTo setM
  rw [hw, Bool.true_and]
  rw [Bool.eq_iff_iff]
  simp only [decide_eq_true_eq]
  constructor
  · intro h q h0 h1 hp
    have := h q.toNat (by omega)
    rw [show ((q.toNat : Nat) : Int) = q by omega] at this
    rcases this with h | h
    · exact (hp h).elim
    · exact h
  · intro h q hq
    by_cases hp : (q : Int) ∈ lst f.params
    · exact .inl hp
    · exact .inr (h q (by omega) (by omega) hp)
section
variable {f : Fn} (w : Wf f) {t : Tb} (ok : TbOk (lst f.code).length ((lst f.regs).length / 64 + 1) t) (S : LvSnd f t) (C : ∀ i, i < (lst f.code).length → Cl f t i)
include w ok S C
theorem set_regs (g : Nat) (m : List (Int × Int)) (hm : ∀ r : Int, aget r m = if r ∈ lst f.params then some 1 else none) : ∀ (d r : Nat), r + d = (lst f.regs).length →
    q53_L2 (.lp 0 1 0 0) (tv t (lst f.regs).length) (.lm 1 g) (.bool (setTo f r)) (.int .i64 (lst f.regs).length) (.int .i64 r) [AB f, AM vI g m] =
      q53_1 (.lp 0 1 0 0) (.bool (setTo f (lst f.regs).length)) [AB f, AM vI g m] := by
  have hR := w.regs
  intro d
  induction d with
  | zero =>
    intro r hd
    have e : r = (lst f.regs).length := by omega
    have hc : ¬ (r : Int) < ((lst f.regs).length : Int) := by omega
    rw [q53_L2_go]
    simp only [q53_6, evBin_lss, ob_some, hc, decide_false, q53_5, cnd_f]
    rw [e]
  | succ d ih =>
    intro r hd
    have hlt : r < (lst f.regs).length := by omega
    have hc : (r : Int) < ((lst f.regs).length : Int) := by omega
    have hw := wrap_up hlt (by omega)
    have mg := mget_am (vf := vI) (H := [AB f, AM vI g m]) (id := 1) (g := g) (l := m) rfl (.int .i64 0) r
    rw [hm] at mg
    have q1 := s_Before t (R := (lst f.regs).length) (by omega) (fun i hi => ok.bw i (by rw [← ok.b]; exact hi)) 0 r
    rw [bef_eq w ok S C, bef0 w hlt] at q1
    have cB : ∀ H, callAny E (callW E) 0 none true 76 [tv t (lst f.regs).length, .int .i64 0, .int .i64 r] H = some (.bool (@decide (badR f r) (Classical.propDecidable _)), H) := fun H => call_reads rfl (fz_tir _ _ 0 r H) rfl q1 ⟨_, rfl, rfl⟩
    have st : setTo f (r + 1) = (setTo f r && (decide ((r : Int) ∈ lst f.params) || !(@decide (badR f r) (Classical.propDecidable _)))) := by
      unfold setTo
      rw [Bool.eq_iff_iff]
      simp only [Bool.and_eq_true, Bool.or_eq_true, decide_eq_true_eq, Bool.not_eq_true', decide_eq_false_iff_not]
      constructor
      · exact fun h => ⟨fun q hq => h q (by omega), h r (by omega)⟩
      · intro ⟨h1, h2⟩ q hq
        by_cases e : q = r
        · rw [e]; exact h2
        · exact h1 q (by omega)
    rw [q53_L2_go]
    refine Eq.trans ?_ (ih (r + 1) (by omega))
    rw [st]
    cases hs : setTo f r with
    | false =>
      simp only [q53_6, evBin_lss, ob_some, hc, decide_true, q53_5, cnd_t, q53_4, gb_ft, gb_tup, gh_tup, evPick_f, q53_3, evBin_add, hw, Bool.false_and]
      rfl
    | true =>
      by_cases hp : (r : Int) ∈ lst f.params
      · rw [if_pos hp] at mg
        simp only [Option.map_some, Option.getD_some] at mg
        simp only [q53_6, evBin_lss, ob_some, hc, decide_true, q53_5, cnd_t, q53_4, gb_tt, mg, evBin_eql, gb_tf, gh_tf, evPick_t, q53_3, evBin_add, hw, hp, Bool.true_or, Bool.and_self]
        rfl
      · rw [if_neg hp] at mg
        simp only [Option.map_none, Option.getD_none] at mg
        simp only [q53_6, evBin_lss, ob_some, hc, decide_true, q53_5, cnd_t, q53_4, gb_tt, mg, evBin_eql, show decide ((0 : Int) = 1) = false from rfl, gb_ff, gh_ff, cB, oh_some, evUn_not, evPick_f, evPick_t, q53_3, evBin_add, hw, hp, decide_false, Bool.true_and, Bool.false_or]
        rfl
omit ok S C in
theorem set_pars (g : Nat) : ∀ (d j : Nat) (m : List (Int × Int)), j + d = (lst f.params).length → (∀ r : Int, aget r m = if r ∈ (lst f.params).take j then some 1 else none) →
    ∃ m', (∀ r : Int, aget r m' = if r ∈ lst f.params then some 1 else none) ∧ q53_L11 (.lp 0 1 0 0) (tv t (lst f.regs).length) (.lm 1 g) (slA f.params) (.int .i64 (lst f.params).length) (.int .i64 j) [AB f, AM vI g m] =
      q53_10 (.lp 0 1 0 0) (tv t (lst f.regs).length) (.lm 1 g) [AB f, AM vI g m'] := by
  have hpl := parOk_len w.pars
  have hpl' : (lst f.params).length ≤ 21 := by
    rcases hpl with h | h
    · rw [h]; simp
    · omega
  intro d
  induction d with
  | zero =>
    intro j m hd hm
    have hc : ¬ (j : Int) < ((lst f.params).length : Int) := by omega
    refine ⟨m, by rw [List.take_of_length_le (by omega)] at hm; exact hm, ?_⟩
    rw [q53_L11_go]
    simp only [q53_15, evBin_lss, ob_some, hc, decide_false, q53_14, cnd_f]
  | succ d ih =>
    intro j m hd hm
    have hlt : j < (lst f.params).length := by omega
    have hc : (j : Int) < ((lst f.params).length : Int) := by omega
    have hw := wrap_up hlt (by omega)
    have kx := ixs_int (o := f.params) (i := j) (List.getElem?_eq_getElem hlt) .i64
    have htk : (lst f.params).take (j + 1) = (lst f.params).take j ++ [(lst f.params)[j]] := List.take_succ_eq_append_getElem hlt
    generalize (lst f.params)[j] = u at *
    have lx : ∀ H : Heap, evLd false 1 (.rp [.int .i64 u]) H = some (.int .i64 u) := fun H => by simp
    have mp := mput_am (vf := vI) (H := [AB f, AM vI g m]) (id := 1) (g := g) (l := m) rfl u 1
    simp only [List.set_cons_succ, List.set_cons_zero] at mp
    obtain ⟨m', h1, h2⟩ := ih (j + 1) (aset u 1 m) (by omega) (fun r => by
      rw [aget_aset, htk, hm]
      by_cases e : r = u
      · simp [e]
      · simp [e])
    refine ⟨m', h1, ?_⟩
    rw [q53_L11_go, ← h2]
    simp only [q53_15, evBin_lss, ob_some, hc, decide_true, q53_14, cnd_t, q53_13, kx, lx, mp, oh_some, q53_12, evBin_add, hw]
    rfl
end
theorem LiveSet_all (f : Fn) (hf : FnIn f) : (callW E).p 113 [.agg (enc f)] = some ⟨.bool true, [], true, [], []⟩ := by
  rw [x_q53]
  have n0 : newC 0 (some 0) (cellsOf (.agg (enc f))) [⟨0, .dead⟩, ⟨0, .dead⟩] = some (.lp 0 1 0 0, [AB f, D0]) := by simp
  have l0 : ∀ t : Heap, evLd true 5 (.lp 0 1 0 0) (AB f :: t) = some (.agg (enc f)) := fun t => by simp
  have l1 : ∀ t : Heap, evLd false 1 (.lp 0 1 0 1) (AB f :: t) = some (slA f.params) := fun t => by simp
  have l3 : ∀ t : Heap, evLd false 1 (.lp 0 1 0 3) (AB f :: t) = some (slA f.code) := fun t => by simp
  have lr : ∀ t : Heap, evLd false 1 (.lp 0 1 0 0) (AB f :: t) = some (slA f.regs) := fun t => by simp
  have ha : ∀ H : Heap, fzList (fz H fuelF) [.agg (enc f)] = some ⟨[.agg (enc f)], scal f && true, []⟩ := fun H => by
    rw [fzList_cons, fz_enc, fzList_nil]; rfl
  have ch : ∀ H : Heap, callAny E (callW E) 0 none true 74 [] H = some (.bool true, H) := fun H => call_reads (fa := ⟨[], true, []⟩) rfl rfl rfl holds13 ⟨_, rfl, rfl⟩
  by_cases h1 : (400 : Int) < ((lst f.code).length : Int)
  · simp only [q53_23, n0, oh_some, q53_22, ch, evUn_not, Bool.not_true, ob_some, cnd_f, q53_21, evFa_lp, Nat.zero_add, l3, evLen_sl, evBin_gtr, h1, decide_true, gb_tf, gh_tf, evPick_t, cnd_t, expo1_bool']
  by_cases h2 : (60 : Int) < ((lst f.regs).length : Int)
  · simp only [q53_23, n0, oh_some, q53_22, ch, evUn_not, Bool.not_true, ob_some, cnd_f, q53_21, evFa_lp, Nat.zero_add, l3, lr, evLen_sl, evBin_gtr, h1, h2, decide_true, decide_false, gb_ff, gb_tf, gh_tf, evPick_f, evPick_t, cnd_t, expo1_bool']
  have hck := s_RCheck f hf.fit3
  have c29 : ∀ H, callAny E (callW E) 0 none true 29 [.agg (enc f)] H = some (.int .i64 (if wf f then 0 else 80), H) := fun H => call_reads rfl (ha H) rfl hck ⟨_, rfl, rfl⟩
  have e38 : (2:Nat)^38 = 274877906944 := by decide
  have e : reachBytes = 140737488351232 := rfl
  have hi := hf.insI
  have hx : ∀ x ∈ lst f.code, (lst x.args).length ≤ 17592186043904 := fun x hx => by
    have := (hi x hx).len; omega
  cases hw : wf f with
  | false =>
    rw [hw] at c29
    simp only [q53_23, n0, oh_some, q53_22, ch, evUn_not, Bool.not_true, ob_some, cnd_f, q53_21, evFa_lp, Nat.zero_add, l3, lr, evLen_sl, evBin_gtr, h1, h2, decide_false, gb_ff, gh_ff, evPick_f, l0, c29, Bool.false_eq_true, if_false, evBin_neq, show decide ((80 : Int) ≠ 0) = true from rfl, cnd_t, expo1_bool']
  | true =>
    rw [hw] at c29
    have w := wf_of hw
    have hrw : (lst f.rows).length ≤ 10000000000000 := by have := hf.rows; omega
    obtain ⟨q, t, hO, hR, ok, S, C⟩ := s_Of f hf.fit3 hrw hx hw
    have cO : ∀ H, callAny E (callW E) 0 none true 75 [.agg (enc f)] H = some (tv t (lst f.regs).length, H) := fun H => call_reads rfl (ha H) rfl hO hR
    have hS := s_Set f hf.fit3 hx hrw (by have := hf.params; omega)
    have cS : ∀ H, callAny E (callW E) 0 none true 77 [.agg (enc f)] H = some (.bool (setM f), H) := fun H => call_reads rfl (ha H) rfl hS ⟨_, rfl, rfl⟩
    have mk := mkm_am vI (H := [AB f, D0]) (fb := 0) (j := 1) (o := D0) rfl
    simp only [Nat.zero_add, List.set_cons_succ, List.set_cons_zero] at mk
    obtain ⟨m', h3, h4⟩ := set_pars w (t := t) 1 _ 0 [] (Nat.zero_add _) (fun r => by simp [aget])
    have h5 := set_regs w ok S C 1 m' h3 _ 0 (Nat.zero_add _)
    have s0 : setTo f 0 = true := by unfold setTo; simp
    rw [s0, setTo_all hw] at h5
    simp only [Int.ofNat_zero] at h4 h5
    have e0 : q53_17 (.lp 0 1 0 0) (tv t (lst f.regs).length) (.lm 1 1) [AB f, AM vI 1 []] = q53_L11 (.lp 0 1 0 0) (tv t (lst f.regs).length) (.lm 1 1) (slA f.params) (.int .i64 (lst f.params).length) (.int .i64 0) [AB f, AM vI 1 []] := by
      simp only [q53_17, evFa_lp, Nat.zero_add, l1, ob_some, evLen_sl]
    have hee : evEqb false (.bool (setM f)) (.bool (setM f)) = some (.bool true) := by cases setM f <;> rfl
    simp only [q53_23, n0, oh_some, q53_22, ch, evUn_not, Bool.not_true, ob_some, cnd_f, q53_21, evFa_lp, Nat.zero_add, l3, lr, evLen_sl, evBin_gtr, h1, h2, decide_false, gb_ff, gh_ff, evPick_f, l0, c29, if_true, evBin_neq, show decide ((0 : Int) ≠ 0) = false from rfl, q53_20, cO, q53_19, mk, e0, h4, q53_10, q53_8, h5, q53_1, cS, hee, expo1_bool']
end Go.Vm
