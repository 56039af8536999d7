/- The value machine: new objects, loads and stores, against the model. -/
import Derived.Test.YtfmmcafccijnhaaVmE
import Derived.Laws.Cells
namespace Go.Vm

variable {P : Program} {nm : Nat → Option Nat} {w : World} {F : Nat → Prop} {m : MapT} {h : Heap}

/-- What an operation does. -/
def Does (nm : Nat → Option Nat) (w : World) (F : Nat → Prop) (m : MapT) (h : Heap) (r : Result Next) (x : AV × Heap) : Prop :=
  ∃ v w' F' m', (r = .ok (.value v) w' ∨ (v = undef ∧ r = .ok .skip w')) ∧ Inv nm w' F' m' x.2 ∧ Tr w F m (gens h) w' F' m' (gens x.2) ∧ Rep nm w' F' m' (gens x.2) v x.1

theorem Does.same (I : Inv nm w F m h) {r : Result Next} {v : Value} {a : AV} (hr : r = .ok (.value v) w) (hv : Rep nm w F m (gens h) v a) : Does nm w F m h r (a, h) :=
  ⟨v, w, F, m, .inl hr, I, Tr.refl _ _ _ _, hv⟩

theorem run_v {s : Sem Value} {w w' : World} {x : Value} (h : s.run P w = .ok x w') : (do pure (Next.value (← s)) : Sem Next).run P w = .ok (.value x) w' := by simp [h]

/-! Lists that are told cell by cell. -/

def LRep (nm : Nat → Option Nat) (w : World) (F : Nat → Prop) (m : MapT) (G : List Nat) (vs : List Value) (cs : List AV) : Prop :=
  vs.length = cs.length ∧ ∀ (j : Nat) (v : Value) (l : AV), vs[j]? = some v → cs[j]? = some l → Rep nm w F m G v l

theorem LRep.get {G : List Nat} {vs : List Value} {cs : List AV} (h : LRep nm w F m G vs cs) {j : Nat} {l : AV} (hl : cs[j]? = some l) : ∃ v, vs[j]? = some v ∧ Rep nm w F m G v l := by
  have hj : j < cs.length := (List.getElem?_eq_some_iff.1 hl).1
  have hv : vs[j]? = some (vs[j]'(by rw [h.1]; exact hj)) := List.getElem?_eq_getElem _
  exact ⟨_, hv, h.2 j _ l hv hl⟩

theorem addr_add (b o n : Nat) : (⟨b, o, none⟩ : Addr).add n = ⟨b, o + n, none⟩ := by
  unfold Addr.add; split <;> simp_all

theorem addr_eta {a : Addr} (h : a.spot = none) : a = ⟨a.block, a.off, none⟩ := by cases a; simp at h; subst h; rfl

/-- Loading cells that are told. -/
theorem run_loadCells_rep {b o n : Nat} {cs : List AV} {G : List Nat} (hn : n ≤ cs.length)
    (hc : ∀ (j : Nat) (l : AV), j < n → cs[j]? = some l → ∃ v, w.cell? ⟨b, o + j, none⟩ = some v ∧ Rep nm w F m G v l) :
    ∃ vs : Array Value, (loadCells ⟨b, o, none⟩ n).run P w = .ok vs w ∧ LRep nm w F m G vs.toList (cs.take n) := by
  have hx : ∀ j, j < n → ∃ v, w.cell? ⟨b, o + j, none⟩ = some v := fun j hj => by
    obtain ⟨v, hv, _⟩ := hc j _ hj (List.getElem?_eq_getElem (by omega))
    exact ⟨v, hv⟩
  have h1 := run_loadCells (P := P) w ⟨b, o, none⟩ n (fun j => (w.cell? ⟨b, o + j, none⟩).getD undef) (fun j hj => by
    obtain ⟨v, hv⟩ := hx j hj
    rw [addr_add, hv]; rfl)
  refine ⟨_, h1, by simp; omega, fun j v l hv hl => ?_⟩
  have hj : j < n := by
    have := (List.getElem?_eq_some_iff.1 hv).1
    simpa using this
  obtain ⟨v', hv', hr⟩ := hc j l hj (by rw [List.getElem?_take] at hl; simpa [hj] using hl)
  have : v = v' := by
    simp [hj, hv'] at hv
    exact hv.symm
  rw [this]; exact hr

theorem run_load_rep {b o : Nat} {v : Value} (hc : w.cell? ⟨b, o, none⟩ = some v) : (load ⟨b, o, none⟩).run P w = .ok v w := by
  rw [run_load, hc]

/-- Loading a variable. -/
theorem run_loadVar_rep {b o n t : Nat} {agg : Bool} {cs : List AV} {G : List Nat} {r : AV} (ha : aggIs P t agg = true) (hs : sizeIs P t n = true) (h1 : (agg || n == 1) = true)
    (hr : aggOr agg n cs = some r) (hc : ∀ (j : Nat) (l : AV), cs[j]? = some l → ∃ v, w.cell? ⟨b, o + j, none⟩ = some v ∧ Rep nm w F m G v l) :
    ∃ v, (loadVar t ⟨b, o, none⟩).run P w = .ok v w ∧ Rep nm w F m G v r := by
  simp only [loadVar, Sem.run_bind, run_isAgg ha, Result.andThen_ok]
  cases agg with
  | true =>
    simp only [aggOr, if_true] at hr
    split at hr
    · rename_i hn
      injection hr with hr
      subst hr
      obtain ⟨vs, hv, hl⟩ := run_loadCells_rep (P := P) hn (fun j l _ hl => hc j l hl)
      refine ⟨.agg vs, ?_, .agg _ _ (by simpa using hl.1) (fun j v l a b => hl.2 j v l (by simpa using a) b)⟩
      simp only [if_true, Sem.run_bind, run_sizeOf hs, Result.andThen_ok, hv, Sem.run_pure]
    · cases hr
  | false =>
    simp only [aggOr, Bool.false_eq_true, if_false] at hr
    cases cs with
    | nil => cases hr
    | cons c cs =>
      simp at hr
      subst hr
      obtain ⟨v, hv, hrep⟩ := hc 0 c rfl
      refine ⟨v, ?_, hrep⟩
      simp only [Bool.false_eq_true, if_false]
      exact run_load_rep hv

theorem rowsAt_spec {id g : Nat} {fz : Bool} {es : Nat} {rows : List (List AV)} (hr : rowsAt h id g = some (fz, es, rows)) : ∃ bx, h[id]? = some ⟨g, .arr bx fz es rows⟩ := by
  unfold rowsAt objAt at hr
  cases ho : h[id]? with
  | none => rw [ho] at hr; cases hr
  | some o =>
    rw [ho] at hr
    obtain ⟨g0, c⟩ := o
    simp only at hr
    split at hr
    · rename_i bx fz' es' rows' hg
      split at hg
      · rename_i he
        injection hg with hg
        subst hg
        injection hr with hr
        injection hr with h1 h2
        injection h2 with h2 h3
        subst h1; subst h2; subst h3
        subst he
        exact ⟨bx, rfl⟩
      · cases hg
    · cases hr

theorem mapAt_spec {id g : Nat} {fz : Bool} {es : List (AV × AV)} (hr : mapAt h id g = some (fz, es)) : h[id]? = some ⟨g, .map fz es⟩ := by
  unfold mapAt objAt at hr
  cases ho : h[id]? with
  | none => rw [ho] at hr; cases hr
  | some o =>
    rw [ho] at hr
    obtain ⟨g0, c⟩ := o
    simp only at hr
    split at hr
    · rename_i fz' es' hg
      split at hg
      · rename_i he
        injection hg with hg
        subst hg
        injection hr with hr
        injection hr with h1 h2
        subst h1; subst h2; subst he
        rfl
      · cases hg
    · cases hr

/-- The rows of an object, where they lie. -/
theorem Inv.rows (I : Inv nm w F m h) {id g : Nat} {fz : Bool} {es : Nat} {rows : List (List AV)} (hr : rowsAt h id g = some (fz, es, rows)) :
    ∃ loc, m id = some (g, loc) ∧ loc.es = es ∧ rows.length ≤ loc.cap ∧ ∃ cs ty fr, w.heap[loc.blk]? = some (.cells cs ty fr) ∧ frOk fr cs.size ∧ loc.base + loc.cap * es ≤ cs.size ∧
      ∀ (i : Nat) (row : List AV), rows[i]? = some row → row.length = es ∧ ∀ (j : Nat) (l : AV), row[j]? = some l →
        leaf1 l = true ∧ ∃ v, cs[loc.base + (i * es + j)]? = some v ∧ w.cell? ⟨loc.blk, loc.base + (i * es + j), none⟩ = some v ∧ Rep nm w F m (gens h) v l := by
  obtain ⟨bx, ho⟩ := rowsAt_spec hr
  obtain ⟨loc, hm⟩ := I.has id g _ ho rfl
  obtain ⟨o, ho2, hrep⟩ := I.live id g loc hm
  rw [ho] at ho2
  injection ho2 with ho2
  injection ho2 with _ ho2
  subst ho2
  obtain ⟨h1, cs, ty, fr, h2, h3, h4, h5, h6⟩ := hrep
  refine ⟨loc, hm, h1, h5, cs, ty, fr, h2, h3, h4, fun i row hi => ⟨(h6 i row hi).1, fun j l hl => ?_⟩⟩
  obtain ⟨a1, v, a2, a3⟩ := (h6 i row hi).2 j l hl
  exact ⟨a1, v, a2, by simp [World.cell?, h2, a2], a3⟩

theorem Rep.lp_at {G : List Nat} {v : Value} {id g i off : Nat} {loc : Loc} (hr : Rep nm w F m G v (.lp id g i off)) (hm : m id = some (g, loc)) :
    v = .pointer (some ⟨loc.blk, loc.base + i * loc.es + off, none⟩) := by
  cases hr with
  | pure h => cases h
  | lp _ _ _ _ loc' hg hl => rw [hl loc hm]

theorem Rep.lp_inv {G : List Nat} {v : Value} {id g i off : Nat} (hr : Rep nm w F m G v (.lp id g i off)) :
    ∃ loc, v = .pointer (some ⟨loc.blk, loc.base + i * loc.es + off, none⟩) ∧ (∃ g0, G[id]? = some g0 ∧ g ≤ g0) ∧ (∀ loc', m id = some (g, loc') → loc' = loc) := by
  cases hr with
  | pure h => cases h
  | lp _ _ _ _ loc' hg hl => exact ⟨loc', rfl, hg, hl⟩

theorem Rep.rp_inv {G : List Nat} {v : Value} {cs : List AV} (hr : Rep nm w F m G v (.rp cs)) :
    ∃ b o, v = .pointer (some ⟨b, o, none⟩) ∧ ∀ (j : Nat) (l : AV), cs[j]? = some l → ∃ x, F b ∧ leaf1 l = true ∧ w.cell? ⟨b, o + j, none⟩ = some x ∧ PRep nm w F x l := by
  cases hr with
  | pure h => cases h with
    | rp a _ f hs hc hr => exact ⟨a.block, a.off, by rw [addr_eta hs], fun j l hl => ⟨f j, (hc j l hl).1, (hc j l hl).2.1, (hc j l hl).2.2, hr j l hl⟩⟩

theorem evLd_sound (I : Inv nm w F m h) {t n : Nat} {agg : Bool} {av : AV} {v : Value} {r : AV} (ha : aggIs P t agg = true) (hs : sizeIs P t n = true) (h1 : (agg || n == 1) = true)
    (hv : Rep nm w F m (gens h) v av) (hr : evLd agg n av h = some r) : ∃ x, (Instr.loadAt t v).run P w = .ok x w ∧ Rep nm w F m (gens h) x r := by
  unfold evLd at hr
  split at hr
  · rename_i cs
    obtain ⟨b, o, rfl, hc⟩ := hv.rp_inv
    obtain ⟨x, hx, hrep⟩ := run_loadVar_rep (P := P) ha hs h1 hr (fun j l hl => by
      obtain ⟨x, _, _, a2, a3⟩ := hc j l hl
      exact ⟨x, a2, Rep.pure (m := m) (G := gens h) a3⟩)
    exact ⟨x, by simpa [Instr.loadAt, Instr.sureAddr] using hx, hrep⟩
  · rename_i id g i off
    split at hr
    · rename_i fz es rows hrows
      split at hr
      · rename_i row hrow
        obtain ⟨loc, hm, he, hcap, cs, ty, fr, hb, _, _, hcell⟩ := I.rows hrows
        have hp := hv.lp_at hm
        subst hp
        obtain ⟨x, hx, hrep⟩ := run_loadVar_rep (P := P) (b := loc.blk) (o := loc.base + i * loc.es + off) ha hs h1 hr (fun j l hl => by
          rw [List.getElem?_drop] at hl
          obtain ⟨_, x, _, a2, a3⟩ := (hcell i row hrow).2 (off + j) l hl
          refine ⟨x, ?_, a3⟩
          rw [he, Nat.add_assoc, Nat.add_assoc]; exact a2)
        exact ⟨x, by simpa [Instr.loadAt, Instr.sureAddr] using hx, hrep⟩
      · cases hr
    · cases hr
  · cases hr

/-! Stores. -/

def putObj (w : World) (b : Nat) (o : Obj) : World := { w with heap := w.heap.setIfInBounds b o }

theorem putObj_get (w : World) (b : Nat) (o : Obj) (k : Nat) : (putObj w b o).heap[k]? = if b = k ∧ k < w.heap.size then some o else w.heap[k]? := by
  simp only [putObj, Array.getElem?_setIfInBounds]
  split
  · rename_i h; subst h
    split
    · simp [*]
    · rename_i h; simp [h]
  · rename_i h; simp [h]

/-- The cells from o on are these. -/
def spliceA (cs : Array Value) (o : Nat) (vs : List Value) : Array Value := (cs.toList.take o ++ vs ++ cs.toList.drop (o + vs.length)).toArray

theorem spliceA_size {cs : Array Value} {o : Nat} {vs : List Value} (hl : o + vs.length ≤ cs.size) : (spliceA cs o vs).size = cs.size := by
  simp [spliceA]; omega

theorem spliceA_get {cs : Array Value} {o : Nat} {vs : List Value} (hl : o + vs.length ≤ cs.size) (k : Nat) :
    (spliceA cs o vs)[k]? = if k < o then cs[k]? else if k < o + vs.length then vs[k - o]? else cs[k]? := by
  simp only [spliceA, List.getElem?_toArray]
  rw [List.getElem?_append]
  simp only [List.length_append, List.length_take, Array.length_toList]
  have hm : min o cs.size = o := by omega
  rw [hm]
  by_cases h1 : k < o
  · rw [if_pos (by omega), List.getElem?_append, if_pos (by simp; omega), List.getElem?_take, if_pos h1, if_pos h1]; simp
  · rw [if_neg h1]
    by_cases h2 : k < o + vs.length
    · rw [if_pos h2, if_pos h2, List.getElem?_append, if_neg (by simp; omega)]; simp [hm]
    · rw [if_neg h2, if_neg h2, List.getElem?_drop]
      rw [show o + vs.length + (k - (o + vs.length)) = k by omega]; simp

theorem setCell_eq {w : World} {b o : Nat} {cs : Array Value} {ty : TypeId} {fr : Nat × Nat} (hb : w.heap[b]? = some (.cells cs ty fr)) (v : Value) :
    w.setCell ⟨b, o, none⟩ v = putObj w b (.cells (cs.setIfInBounds o v) ty fr) := by
  have hlt : b < w.heap.size := (Array.getElem?_eq_some_iff.1 hb).1
  unfold World.setCell putObj
  congr 1
  apply Array.ext_getElem?
  intro k
  rw [Array.getElem?_modify, Array.getElem?_setIfInBounds]
  by_cases hk : b = k
  · subst hk
    have hv : w.heap[b] = .cells cs ty fr := (Array.getElem?_eq_some_iff.1 hb).2
    simp [hlt, hv]
  · simp [hk]

theorem putObj_putObj (w : World) (b : Nat) (o o' : Obj) : putObj (putObj w b o) b o' = putObj w b o' := by
  unfold putObj
  congr 1
  apply Array.ext_getElem?
  intro k
  simp only [Array.getElem?_setIfInBounds, Array.size_setIfInBounds]
  split <;> rfl

theorem run_storeCells_putObj {b : Nat} {ty : TypeId} {fr : Nat × Nat} : ∀ (vs : List Value) (o i : Nat) (cs : Array Value) (w : World), w.heap[b]? = some (.cells cs ty fr) →
    frOk fr cs.size → o + i + vs.length ≤ cs.size → (∀ v ∈ vs, v.oneCell' = true) →
    (storeCells ⟨b, o, none⟩ vs i).run P w = .ok () (putObj w b (.cells (spliceA cs (o + i) vs) ty fr))
  | [], o, i, cs, w, hb, _, _, _ => by
    have : putObj w b (.cells (spliceA cs (o + i) []) ty fr) = w := by
      have : spliceA cs (o + i) [] = cs := by simp [spliceA]
      rw [this]
      unfold putObj
      cases w with
      | mk heap tape drawn os output =>
        congr 1
        apply Array.ext_getElem?
        intro k
        rw [Array.getElem?_setIfInBounds]
        split
        · rename_i hk; subst hk; split
          · exact hb.symm
          · rename_i hk; simp [hk]
        · rfl
    rw [this]
    rfl
  | v :: rest, o, i, cs, w, hb, hfr, hl, h1 => by
    have hi : o + i < cs.size := by simp at hl; omega
    have hcell : w.cell? ⟨b, o + i, none⟩ = some cs[o + i] := by simp [World.cell?, hb, hi]
    have hfro : w.frozen? ⟨b, o + i, none⟩ = false := by
      have := hfr (o + i) hi
      simp only [World.frozen?, hb]
      simpa using this
    have hst : (store ((⟨b, o, none⟩ : Addr).add i) v).run P w = .ok () (w.setCell ⟨b, o + i, none⟩ v) := by
      rw [addr_add, run_store P w _ v _ (h1 v (by simp)), hcell]
      simp [hfro]
    have hlt : b < w.heap.size := (Array.getElem?_eq_some_iff.1 hb).1
    have ih := run_storeCells_putObj (b := b) (ty := ty) (fr := fr) rest o (i + 1) (cs.setIfInBounds (o + i) v) (putObj w b (.cells (cs.setIfInBounds (o + i) v) ty fr))
      (by rw [putObj_get]; simp [hlt]) (by rw [Array.size_setIfInBounds]; exact hfr) (by rw [Array.size_setIfInBounds]; simp at hl; omega) (fun x hx => h1 x (by simp [hx]))
    simp only [storeCells, Sem.run_bind, hst, Result.andThen_ok]
    rw [setCell_eq hb, ih, putObj_putObj]
    congr 3
    apply Array.ext_getElem?
    intro k
    rw [spliceA_get (by simp at hl ⊢; omega), spliceA_get (by simp at hl ⊢; omega)]
    simp only [Array.getElem?_setIfInBounds, List.length_cons]
    by_cases hk : k < o + i
    · rw [if_pos hk, if_pos (by omega), if_neg (by omega)]
    · rw [if_neg hk]
      by_cases hk2 : k = o + i
      · subst hk2; simp [hi]
      · have : ¬ k < o + (i + 1) := by omega
        rw [if_neg this]
        by_cases hk3 : k < o + i + (rest.length + 1)
        · rw [if_pos (by omega), if_pos hk3, show k - (o + i) = (k - (o + (i + 1))) + 1 by omega]; simp
        · rw [if_neg (by omega), if_neg hk3, if_neg (by omega)]

/-- An object's cells are turned: n of them from 'o' on; what is told of its rows is told of the new ones. -/
theorem store_step (I : Inv nm w F m h) {id g : Nat} {bx : Bool} {es : Nat} {rows rows' : List (List AV)} {loc : Loc} {cs : Array Value} {ty : TypeId} {fr : Nat × Nat} {o : Nat} {vs : List Value}
    (ho : h[id]? = some ⟨g, .arr bx false es rows⟩) (hm : m id = some (g, loc)) (hb : w.heap[loc.blk]? = some (.cells cs ty fr)) (hl : o + vs.length ≤ cs.size)
    (hrows : rows'.length ≤ loc.cap)
    (hcell : ∀ (i : Nat) (row : List AV), rows'[i]? = some row → row.length = es ∧ ∀ (j : Nat) (l : AV), row[j]? = some l →
      leaf1 l = true ∧ ∃ v, (spliceA cs o vs)[loc.base + (i * es + j)]? = some v ∧ Rep nm w F m (gens h) v l) :
    Inv nm (putObj w loc.blk (.cells (spliceA cs o vs) ty fr)) F m (setRows h id rows') ∧
      Tr w F m (gens h) (putObj w loc.blk (.cells (spliceA cs o vs) ty fr)) F m (gens (setRows h id rows')) := by
  have hlt : loc.blk < w.heap.size := (Array.getElem?_eq_some_iff.1 hb).1
  obtain ⟨o1, ho1, hrep1⟩ := I.live id g loc hm
  rw [ho] at ho1
  injection ho1 with ho1
  injection ho1 with _ ho1
  subst ho1
  obtain ⟨h1, cs2, ty2, fr2, h2, h3, h4, h5, h6⟩ := hrep1
  rw [hb] at h2
  injection h2 with h2
  injection h2 with e1 e2 e3
  subst e1; subst e2; subst e3
  have hsr : setRows h id rows' = h.set id ⟨g, .arr bx false es rows'⟩ := by unfold setRows; rw [ho]
  have hidl : id < h.length := (List.getElem?_eq_some_iff.1 ho).1
  have hgens : gens (setRows h id rows') = gens h := by
    rw [hsr, gens_set]
    apply List.ext_getElem?
    intro k
    rw [List.getElem?_set]
    split
    · rename_i e; subst e; rw [gens_get, ho]; simp [gens, hidl]
    · rfl
  obtain ⟨m', hm', hI, hT⟩ := put_step (w' := putObj w loc.blk (.cells (spliceA cs o vs) ty fr)) (h' := setRows h id rows') (g' := g) (o := .arr bx false es rows') (loc := loc) (id := id) I
    rfl rfl rfl (by simp [putObj]) (fun b hne _ => by rw [putObj_get, if_neg (fun e => hne e.1.symm)]) (.inr ⟨g, loc, _, hm, ho, rfl, rfl⟩)
    (fun j hj => by rw [hsr, List.getElem?_set_ne (fun e => hj e.symm)]) (by rw [hsr]; simp [hidl]) rfl (.inr hm)
    (fun m' hm' hrep => ⟨h1, spliceA cs o vs, ty, fr, by rw [putObj_get]; simp [hlt], by rw [spliceA_size hl]; exact h3, by rw [spliceA_size hl]; exact h4, hrows, fun i row hi =>
      ⟨(hcell i row hi).1, fun j l hj => by
        obtain ⟨a1, v, a2, a3⟩ := (hcell i row hi).2 j l hj
        exact ⟨a1, v, a2, hrep _ _ a3⟩⟩⟩)
  have hmm : m' = m := by
    rw [hm']
    funext j
    split
    · rename_i e; rw [e]; exact hm.symm
    · rfl
  rw [hmm] at hI hT
  exact ⟨hI, hT⟩

theorem spliceAt_get {off : Nat} {vs row : List AV} (hl : off + vs.length ≤ row.length) (k : Nat) :
    (spliceAt off vs row)[k]? = if k < off then row[k]? else if k < off + vs.length then vs[k - off]? else row[k]? := by
  unfold spliceAt
  rw [List.getElem?_append]
  simp only [List.length_append, List.length_take]
  have hm : min off row.length = off := by omega
  rw [hm]
  by_cases h1 : k < off
  · rw [if_pos (by omega), List.getElem?_append, if_pos (by simp; omega), List.getElem?_take, if_pos h1, if_pos h1]
  · rw [if_neg h1]
    by_cases h2 : k < off + vs.length
    · rw [if_pos h2, if_pos h2, List.getElem?_append, if_neg (by simp; omega)]; simp [hm]
    · rw [if_neg h2, if_neg h2, List.getElem?_drop]
      rw [show off + vs.length + (k - (off + vs.length)) = k by omega]

theorem spliceAt_length {off : Nat} {vs row : List AV} (hl : off + vs.length ≤ row.length) : (spliceAt off vs row).length = row.length := by
  simp [spliceAt]; omega

/-- Two places of rows are one place only if they are the same. -/
theorem place_inj {es i j i' j' : Nat} (hj : j < es) (hj' : j' < es) (he : i * es + j = i' * es + j') : i = i' ∧ j = j' := by
  have h1 : (i * es + j) / es = i := by rw [Nat.mul_comm, Nat.mul_add_div (by omega)]; rw [Nat.div_eq_of_lt hj]; omega
  have h2 : (i' * es + j') / es = i' := by rw [Nat.mul_comm, Nat.mul_add_div (by omega)]; rw [Nat.div_eq_of_lt hj']; omega
  have : i = i' := by rw [← h1, ← h2, he]
  subst this
  exact ⟨rfl, by omega⟩

theorem evSt_sound (I : Inv nm w F m h) {t n : Nat} {av bv : AV} {v u : Value} {x : AV × Heap} (hs : sizeIs P t n = true)
    (hv : Rep nm w F m (gens h) v av) (hu : Rep nm w F m (gens h) u bv) (hr : evSt n av bv h = some x) :
    ∃ w', (Instr.storeAt t v u).run P w = .ok () w' ∧ Inv nm w' F m x.2 ∧ Tr w F m (gens h) w' F m (gens x.2) ∧ x.1 = .tup [] := by
  unfold evSt at hr
  split at hr
  · rename_i id g i off
    split at hr
    · rename_i es rows hrows
      split at hr
      · rename_i row hrow
        split at hr
        · rename_i hc
          obtain ⟨hc1, hc2, hc3⟩ := hc
          injection hr with hr
          subst hr
          obtain ⟨loc, hm, he, hcap, cs, ty, fr, hb, hfr, hsz, hcell⟩ := I.rows hrows
          obtain ⟨bx, ho⟩ := rowsAt_spec hrows
          have hp := hv.lp_at hm
          subst hp
          obtain ⟨hcs, hcl⟩ := hu.cells hc3
          have hil : i < rows.length := (List.getElem?_eq_some_iff.1 hrow).1
          have hrl : row.length = es := (hcell i row hrow).1
          have hbound : loc.base + i * es + off + u.cells.toList.length ≤ cs.size := by
            have : (i + 1) * es ≤ loc.cap * es := Nat.mul_le_mul_right _ (by omega)
            rw [Nat.add_mul] at this
            simp only [Array.length_toList]
            omega
          have hone : ∀ z ∈ u.cells.toList, z.oneCell' = true := by
            intro z hz
            obtain ⟨j, hj⟩ := List.getElem?_of_mem hz
            have hjl : j < (cellsOf bv).length := by rw [← hcs]; have := (List.getElem?_eq_some_iff.1 hj).1; simpa using this
            exact (hcl j z _ (by simpa using hj) (List.getElem?_eq_getElem hjl)).2.1
          have hrun := run_storeCells_putObj (P := P) u.cells.toList (loc.base + i * es + off) 0 cs w hb hfr (by omega) hone
          have hcell2 : ∀ (k : Nat) (row' : List AV), (rows.set i (spliceAt off (cellsOf bv) row))[k]? = some row' → row'.length = es ∧ ∀ (j : Nat) (l : AV), row'[j]? = some l →
              leaf1 l = true ∧ ∃ v, (spliceA cs (loc.base + i * es + off) u.cells.toList)[loc.base + (k * es + j)]? = some v ∧ Rep nm w F m (gens h) v l := by
            intro k row' hk
            rw [List.getElem?_set] at hk
            split at hk
            · rename_i e; subst e
              injection hk with hk
              subst hk
              refine ⟨by rw [spliceAt_length (by omega)]; exact hrl, fun j l hj => ?_⟩
              rw [spliceAt_get (by omega)] at hj
              rw [spliceA_get hbound]
              simp only [Array.length_toList, hcs]
              have hjl : j < es := by
                rw [← hrl]
                split at hj
                · omega
                · split at hj
                  · omega
                  · exact (List.getElem?_eq_some_iff.1 hj).1
              split at hj
              · rw [if_pos (by omega)]
                obtain ⟨a1, z, a2, _, a3⟩ := (hcell i row hrow).2 j l hj
                exact ⟨a1, z, a2, a3⟩
              · split at hj
                · rw [if_neg (by omega), if_pos (by omega)]
                  have hz : u.cells[j - off]? = some (u.cells[j - off]'(by rw [hcs]; omega)) := Array.getElem?_eq_getElem _
                  obtain ⟨b1, _, b2⟩ := hcl (j - off) _ l hz hj
                  exact ⟨b1, _, by rw [show loc.base + (i * es + j) - (loc.base + i * es + off) = j - off by omega]; first | (simp; done) | (simp; exact hz) | exact hz, b2⟩
                · rw [if_neg (by omega), if_neg (by omega)]
                  obtain ⟨a1, z, a2, _, a3⟩ := (hcell i row hrow).2 j l hj
                  exact ⟨a1, z, a2, a3⟩
            · rename_i hne
              refine ⟨(hcell k row' hk).1, fun j l hj => ?_⟩
              have hjl : j < es := by rw [← (hcell k row' hk).1]; exact (List.getElem?_eq_some_iff.1 hj).1
              obtain ⟨a1, z, a2, _, a3⟩ := (hcell k row' hk).2 j l hj
              refine ⟨a1, z, ?_, a3⟩
              rw [spliceA_get hbound]
              simp only [Array.length_toList, hcs]
              by_cases h1 : loc.base + (k * es + j) < loc.base + i * es + off
              · rw [if_pos h1]; exact a2
              · rw [if_neg h1]
                by_cases h2 : loc.base + (k * es + j) < loc.base + i * es + off + (cellsOf bv).length
                · exfalso
                  have : k * es + j = i * es + (k * es + j - i * es) := by omega
                  exact hne (place_inj hjl (by omega) this).1.symm
                · rw [if_neg h2]; exact a2
          have hst := store_step I ho hm hb hbound (rows' := rows.set i (spliceAt off (cellsOf bv) row)) (by simpa using hcap) hcell2
          refine ⟨_, ?_, hst.1, hst.2, rfl⟩
          simp only [Instr.storeAt, Instr.sureAddr, storeVar, Sem.run_bind, Sem.run_pure, Result.andThen_ok, run_sizeOf hs, he]
          rw [if_neg (by rw [hcs]; exact fun h => h hc1)]
          simpa using hrun
        · cases hr
      · cases hr
    · cases hr
  · cases hr

end Go.Vm
