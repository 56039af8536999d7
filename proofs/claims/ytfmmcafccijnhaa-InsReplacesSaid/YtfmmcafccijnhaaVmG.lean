/- The value machine: new objects, appended and copied rows, against the model. -/
import Derived.Test.YtfmmcafccijnhaaVmF
namespace Go.Vm

variable {P : Program} {nm : Nat → Option Nat} {w : World} {F : Nat → Prop} {m : MapT} {h : Heap}

theorem place_spec {fb : Nat} {sl : Option Nat} {o : OC} {id g : Nat} {h' : Heap} (hp : place fb sl o h = some (id, g, h')) :
    (∀ j, j ≠ id → h'[j]? = h[j]?) ∧ h'[id]? = some ⟨g, o⟩ ∧ (∀ g0, (gens h)[id]? = some g0 → g0 < g) := by
  unfold place at hp
  split at hp
  · injection hp with hp
    injection hp with h1 h2
    injection h2 with h2 h3
    subst h1; subst h2; subst h3
    refine ⟨fun j hj => ?_, by simp, fun g0 hg => by simp [gens] at hg⟩
    by_cases hlt : j < h.length
    · rw [List.getElem?_append_left hlt]
    · have e : h[j]? = none := List.getElem?_eq_none (by omega)
      rw [e]
      exact List.getElem?_eq_none (by simp; omega)
  · rename_i j
    split at hp
    · rename_i o0 ho
      injection hp with hp
      injection hp with h1 h2
      injection h2 with h2 h3
      subst h1; subst h2; subst h3
      have hl : fb + j < h.length := (List.getElem?_eq_some_iff.1 ho).1
      refine ⟨fun k hk => by rw [List.getElem?_set_ne (fun e => hk e.symm)], by simp [hl], fun g0 hg => ?_⟩
      rw [gens_get, ho] at hg
      injection hg with hg
      simp only at hg
      omega
    · cases hp

/-- A new block of the model, and an object for it. -/
theorem place_new (I : Inv nm w F m h) {fb : Nat} {sl : Option Nat} {o : OC} {id g : Nat} {h' : Heap} (hp : place fb sl o h = some (id, g, h')) {w' : World} {ob : Obj} {loc : Loc}
    (hheap : w'.heap = w.heap.push ob) (hos : w'.os = w.os) (htape : w'.tape = w.tape) (hout : w'.output = w.output) (hloc : loc.blk = w.heap.size) (hfz : o.fz = false)
    (ho : ∀ m' : MapT, (∀ v a, Rep nm w F m (gens h) v a → Rep nm w' F m' (gens h') v a) → OCRep nm w' F m' (gens h') loc o) :
    ∃ m' : MapT, Inv nm w' F m' h' ∧ Tr w F m (gens h) w' F m' (gens h') ∧ m' id = some (g, loc) ∧ (gens h')[id]? = some g := by
  obtain ⟨h1, h2, h3⟩ := place_spec hp
  obtain ⟨m', hm', hI, hT⟩ := put_step (w' := w') (h' := h') (g' := g) (o := o) (loc := loc) (id := id) I hos htape hout (by rw [hheap]; simp)
    (fun b hb hlt => by rw [hheap, Array.getElem?_push, if_neg (by omega)]) (.inl (by omega)) h1 h2 hfz (.inl h3) (fun m' _ hrep => ho m' hrep)
  exact ⟨m', hI, hT, by rw [hm']; simp, by rw [gens_get, h2]; rfl⟩

theorem heap_push_get (w' : World) {ob : Obj} (hheap : w'.heap = w.heap.push ob) : w'.heap[w.heap.size]? = some ob := by rw [hheap]; simp

/-- New rows. -/
theorem newRows (I : Inv nm w F m h) {fb : Nat} {sl : Option Nat} {bx : Bool} {es cap : Nat} {rows : List (List AV)} {id g : Nat} {h' : Heap} (hp : place fb sl (.arr bx false es rows) h = some (id, g, h'))
    {w' : World} {cells : Array Value} {ty : TypeId} {fr : Nat × Nat} (hheap : w'.heap = w.heap.push (.cells cells ty fr)) (hos : w'.os = w.os) (htape : w'.tape = w.tape) (hout : w'.output = w.output)
    (hfr : frOk fr cells.size) (hcap : rows.length ≤ cap) (hsz : cap * es ≤ cells.size)
    (hcell : ∀ (i : Nat) (row : List AV), rows[i]? = some row → row.length = es ∧ ∀ (j : Nat) (l : AV), row[j]? = some l → leaf1 l = true ∧ ∃ v, cells[i * es + j]? = some v ∧ Rep nm w F m (gens h) v l) :
    ∃ m' : MapT, Inv nm w' F m' h' ∧ Tr w F m (gens h) w' F m' (gens h') ∧ m' id = some (g, ⟨w.heap.size, 0, es, cap⟩) ∧ (gens h')[id]? = some g :=
  place_new I hp hheap hos htape hout (loc := ⟨w.heap.size, 0, es, cap⟩) rfl rfl fun m' hrep => ⟨rfl, cells, ty, fr, heap_push_get w' hheap, hfr, by simpa using hsz, hcap, fun i row hi =>
    ⟨(hcell i row hi).1, fun j l hl => by
      obtain ⟨a1, v, a2, a3⟩ := (hcell i row hi).2 j l hl
      exact ⟨a1, v, by simpa using a2, hrep _ _ a3⟩⟩⟩

theorem frOk_zero (n : Nat) : frOk (0, 0) n := fun x _ h => by simp at h

/-- A reference to new rows as a slice. -/
theorem rep_newSlice {w' : World} {F' : Nat → Prop} {m' : MapT} {G : List Nat} {id g es cap len : Nat} {loc : Loc} (hm : m' id = some (g, loc)) (hG : G[id]? = some g) (hb : loc.base = 0) (he : loc.es = es)
    (hc : cap = loc.cap) (hl : len ≤ cap) : Rep nm w' F' m' G (.slice (some ⟨loc.blk, 0, none⟩) len cap) (.ls id g es 0 len) :=
  .ls id g es 0 len cap ⟨loc.blk, 0, none⟩ loc ⟨g, hG, Nat.le_refl _⟩ (fun loc' h => by rw [hm] at h; injection h with h; injection h with _ h; exact h.symm) rfl rfl he (fun _ => by show 0 = loc.base + 0 * loc.es; omega) (by omega) hl

theorem rep_newPtr {w' : World} {F' : Nat → Prop} {m' : MapT} {G : List Nat} {id g : Nat} {loc : Loc} (hm : m' id = some (g, loc)) (hG : G[id]? = some g) (hb : loc.base = 0) :
    Rep nm w' F' m' G (.pointer (some ⟨loc.blk, 0, none⟩)) (.lp id g 0 0) := by
  have h := Rep.lp (nm := nm) (w := w') (F := F') (m := m') (G := G) id g 0 0 loc ⟨g, hG, Nat.le_refl _⟩ (fun loc' h => by rw [hm] at h; injection h with h; injection h with _ h; exact h.symm)
  simpa [hb] using h

/-- A new variable. -/
theorem newBox_sound (I : Inv nm w F m h) {fb : Nat} {sl : Option Nat} {cs : List AV} {x : AV × Heap} {cells : Array Value} {ty : TypeId} (hx : newBox fb sl cs h = some x) (hn : cells.size = cs.length)
    (hcell : ∀ (j : Nat) (v : Value) (l : AV), cells[j]? = some v → cs[j]? = some l → leaf1 l = true ∧ Rep nm w F m (gens h) v l) :
    Does nm w F m h (.ok (.value (.pointer (some ⟨w.heap.size, 0, none⟩))) { w with heap := w.heap.push (.cells cells ty) }) x := by
  unfold newBox at hx
  split at hx
  · rename_i id g h' hp
    injection hx with hx
    subst hx
    obtain ⟨m', hI, hT, hm, hG⟩ := newRows (w' := { w with heap := w.heap.push (.cells cells ty) }) (cap := 1) (cells := cells) (ty := ty) (fr := (0, 0)) I hp rfl rfl rfl rfl (frOk_zero _) (by simp) (by simp [hn])
      (fun i row hi => by
        cases i with
        | succ i => simp at hi
        | zero =>
          simp at hi
          subst hi
          refine ⟨rfl, fun j l hl => ?_⟩
          have hj : j < cells.size := by rw [hn]; exact (List.getElem?_eq_some_iff.1 hl).1
          have hv : cells[j]? = some cells[j] := Array.getElem?_eq_getElem _
          exact ⟨(hcell j _ l hv hl).1, cells[j], by first | (simp; done) | (simp; exact hv) | exact hv, (hcell j _ l hv hl).2⟩)
    exact ⟨_, _, F, m', .inl rfl, hI, hT, rep_newPtr hm hG rfl⟩
  · cases hx

/-- New rows as a slice's value, the world behind them told by its heap. -/
theorem newArr_sound (I : Inv nm w F m h) {fb : Nat} {sl : Option Nat} {es cap : Nat} {rows : List (List AV)} {x : AV × Heap} {w' : World} {cells : Array Value} {ty : TypeId} {fr : Nat × Nat}
    (hx : newArr fb sl es rows h = some x) (hheap : w'.heap = w.heap.push (.cells cells ty fr)) (hos : w'.os = w.os) (htape : w'.tape = w.tape) (hout : w'.output = w.output)
    (hfr : frOk fr cells.size) (hcap : rows.length ≤ cap) (hsz : cap * es ≤ cells.size)
    (hcell : ∀ (i : Nat) (row : List AV), rows[i]? = some row → row.length = es ∧ ∀ (j : Nat) (l : AV), row[j]? = some l → leaf1 l = true ∧ ∃ v, cells[i * es + j]? = some v ∧ Rep nm w F m (gens h) v l) :
    Does nm w F m h (.ok (.value (.slice (some ⟨w.heap.size, 0, none⟩) rows.length cap)) w') x := by
  unfold newArr at hx
  split at hx
  · rename_i id g h' hp
    injection hx with hx
    subst hx
    obtain ⟨m', hI, hT, hm, hG⟩ := newRows I hp hheap hos htape hout hfr hcap hsz hcell
    exact ⟨_, _, F, m', .inl rfl, hI, hT, rep_newSlice (loc := ⟨w.heap.size, 0, es, cap⟩) hm hG rfl rfl rfl hcap⟩
  · cases hx

theorem matchL_LRep {vs : List Value} {cs : List AV} {G : List Nat} (hm : matchL vs cs = true) : LRep nm w F m G vs cs := by
  obtain ⟨h1, h2⟩ := matchL_rep (nm := nm) (w := w) (F := F) hm
  exact ⟨h1, fun j v l hv hl => .pure (h2 j v l hv hl)⟩

theorem new_sound (I : Inv nm w F m h) {fb : Nat} {sl : Option Nat} {t : Nat} {cs : List AV} {x : AV × Heap} (hz : zeroIs P t cs = true) (hl : cs.all leaf1 = true) (hx : newBox fb sl cs h = some x) :
    Does nm w F m h ((do pure (Next.value (← Instr.alloc t true (.tuple #[]))) : Sem Next).run P w) x := by
  obtain ⟨i, z, hi, hz1, hz2⟩ := zeroIs_spec hz
  have hrun : (Instr.alloc t true (.tuple #[])).run P w = .ok (.pointer (some ⟨w.heap.size, 0, none⟩)) { w with heap := w.heap.push (.cells z.cells t) } := by
    simp [Instr.alloc, run_zeroValue hi hz1, newVar, newRow]
  rw [run_v hrun]
  have hL := matchL_LRep (nm := nm) (w := w) (F := F) (m := m) (G := gens h) hz2
  refine newBox_sound I hx (by simpa using hL.1) (fun j v l hv hl2 => ⟨?_, hL.2 j v l (by simpa using hv) hl2⟩)
  rw [List.all_eq_true] at hl
  exact hl l (List.mem_of_getElem? hl2)

theorem box_sound (I : Inv nm w F m h) {fb : Nat} {sl : Option Nat} {t : Nat} {v : Value} {a : AV} {x : AV × Heap} (hv : Rep nm w F m (gens h) v a) (hl : (cellsOf a).all leaf1 = true)
    (hx : newBox fb sl (cellsOf a) h = some x) : Does nm w F m h ((do pure (Next.value (← Instr.box t v)) : Sem Next).run P w) x := by
  have hrun : (Instr.box t v).run P w = .ok (.pointer (some ⟨w.heap.size, 0, none⟩)) { w with heap := w.heap.push (.cells v.cells t) } := by
    simp [Instr.box, newVar, newRow]
  rw [run_v hrun]
  obtain ⟨h1, h2⟩ := hv.cells hl
  exact newBox_sound I hx h1 (fun j x l hx hl2 => ⟨(h2 j x l hx hl2).1, (h2 j x l hx hl2).2.2⟩)

/-! Aggregates and slices out of parts. -/

theorem foldl_set_get (off : Nat) : ∀ (vs : List Value) (n : Nat) (cs : Array Value), off + n + vs.length ≤ cs.size → ∀ k,
    ((vs.zipIdx n).foldl (fun cs (p : Value × Nat) => cs.setIfInBounds (off + p.2) p.1) cs)[k]? = if k < off + n then cs[k]? else if k < off + n + vs.length then vs[k - (off + n)]? else cs[k]?
  | [], n, cs, _, k => by
    simp only [List.zipIdx_nil, List.foldl_nil, List.length_nil, Nat.add_zero]
    by_cases hk : k < off + n <;> simp [hk]
  | v :: vs, n, cs, hl, k => by
    simp only [List.zipIdx_cons, List.foldl_cons]
    rw [foldl_set_get off vs (n + 1) _ (by simp at hl ⊢; omega) k]
    simp only [Array.getElem?_setIfInBounds, List.length_cons]
    simp only [List.length_cons] at hl
    by_cases h1 : k < off + n
    · rw [if_pos (by omega), if_neg (by omega), if_pos h1]
    · by_cases h2 : k = off + n
      · subst h2
        rw [if_pos (by omega), if_pos rfl, if_pos (by omega), if_neg (by omega), if_pos (by omega)]
        simp
      · rw [if_neg (by omega), if_neg h1]
        by_cases h3 : k < off + n + (vs.length + 1)
        · rw [if_pos (by omega), if_pos h3, show k - (off + n) = (k - (off + (n + 1))) + 1 by omega]; simp
        · rw [if_neg (by omega), if_neg h3, if_neg (by omega)]

theorem foldl_set_size (off : Nat) : ∀ (vs : List (Value × Nat)) (cs : Array Value), (vs.foldl (fun cs (p : Value × Nat) => cs.setIfInBounds (off + p.2) p.1) cs).size = cs.size
  | [], _ => rfl
  | v :: vs, cs => by rw [List.foldl_cons, foldl_set_size off vs]; simp

theorem fill_sound {G : List Nat} {place : Nat → Option (Nat × Nat)} {a : Act} {t : Tmps} (hT : TRep nm w F m G a t) :
    ∀ {ps : List (Nat × Operand)} {qs : List (Nat × Nat × Opd)} {vs : Array Value} {cs r : List AV}, chkParts nm place ps qs = true → LRep nm w F m G vs.toList cs →
      fillParts (qs.map fun p => (p.1, p.2.1, p.2.2.ev t)) cs = some r →
      ∃ vs' : Array Value, Instr.fill place vs (ps.map fun p => (p.1, a.eval p.2)) = some vs' ∧ LRep nm w F m G vs'.toList r
  | [], [], vs, cs, r, _, hl, hf => by
    simp only [List.map_nil, fillParts] at hf
    injection hf with hf
    subst hf
    exact ⟨vs, rfl, hl⟩
  | (i, x) :: ps, (off, n, y) :: qs, vs, cs, r, hc, hl, hf => by
    simp only [chkParts, Bool.and_eq_true, beq_iff_eq] at hc
    obtain ⟨⟨hc1, hc2⟩, hc3⟩ := hc
    simp only [List.map_cons, fillParts] at hf
    split at hf
    · rename_i hb
      obtain ⟨hk, hb1, hb2⟩ := hb
      have hrep := chkO_rep hT hc2
      have hcells : (a.eval x).cells.size = n ∧ ∀ (j : Nat) (v : Value) (l : AV), (a.eval x).cells[j]? = some v → (cellsOf (y.ev t))[j]? = some l → Rep nm w F m G v l := by
        by_cases ha : ∃ cs, y.ev t = .agg cs
        · obtain ⟨cs0, ha⟩ := ha
          rw [ha] at hrep hb1
          obtain ⟨vs0, hv, hn, hr⟩ := hrep.agg_inv
          rw [hv, ha]
          exact ⟨by rw [← hb1]; exact hn, hr⟩
        · have hc : cellsOf (y.ev t) = [y.ev t] := by
            cases hy : y.ev t <;> first | rfl | exact (ha ⟨_, hy⟩).elim
          rw [hc] at hb1 ⊢
          have hv : (a.eval x).cells = #[a.eval x] := by
            cases hax : a.eval x with
            | agg vs0 =>
              rw [hax] at hrep
              generalize y.ev t = q at hrep ha hk
              cases hrep with
              | pure hp => cases hp; exact (ha ⟨_, rfl⟩).elim
              | undef => cases hk
              | agg => exact (ha ⟨_, rfl⟩).elim
            | _ => rfl
          rw [hv]
          refine ⟨by simpa using hb1, fun j v l h1 h2 => ?_⟩
          cases j with
          | zero => simp at h1 h2; subst h1; subst h2; exact hrep
          | succ j => simp at h1
      have hsz : (a.eval x).cells.toList.length = n := by simpa using hcells.1
      have hvl : vs.size = cs.length := by simpa using hl.1
      have hfill : off + 0 + (a.eval x).cells.toList.length ≤ vs.size := by omega
      have hsize : ((a.eval x).cells.toList.zipIdx.foldl (fun cs (p : Value × Nat) => cs.setIfInBounds (off + p.2) p.1) vs).size = vs.size := foldl_set_size _ _ _
      have hstep : LRep nm w F m G ((a.eval x).cells.toList.zipIdx.foldl (fun cs (p : Value × Nat) => cs.setIfInBounds (off + p.2) p.1) vs).toList (spliceAt off (cellsOf (y.ev t)) cs) := by
        refine ⟨by rw [Array.length_toList, hsize, spliceAt_length (by omega)]; exact hvl, fun j v l hv hl2 => ?_⟩
        rw [Array.getElem?_toList, foldl_set_get off _ 0 _ hfill] at hv
        rw [spliceAt_get (by omega)] at hl2
        simp only [Nat.add_zero, hsz, hb1] at hv hl2
        split at hv
        · rename_i h1; rw [if_pos h1] at hl2; exact hl.2 j v l (by simpa using hv) hl2
        · rename_i h1
          rw [if_neg h1] at hl2
          split at hv
          · rename_i h2; rw [if_pos h2] at hl2; exact hcells.2 _ v l (by simpa using hv) hl2
          · rename_i h2; rw [if_neg h2] at hl2; exact hl.2 j v l (by simpa using hv) hl2
      obtain ⟨vs', h1, h2⟩ := fill_sound hT hc3 hstep hf
      refine ⟨vs', ?_, h2⟩
      simp only [List.map_cons, Instr.fill, hc1]
      rw [if_neg (by simp [hcells.1]; omega)]
      rw [← h1]
      congr 1
      rw [← Array.foldl_toList]
      simp
    · cases hf
  | [], _ :: _, _, _, _, h, _, _ => by cases h
  | _ :: _, [], _, _, _, h, _, _ => by cases h

theorem mapM_sizes {fs : Array Field} (hf : fs.toList.all (fun f => (P.info? f.type).isSome) = true) (w : World) :
    (fs.mapM fun f => (do pure (f.offset, ← sizeOf f.type) : Sem (Nat × Nat))).run P w = .ok (fs.map fun f => (f.offset, P.cellsOf f.type)) w := by
  rw [Array.mapM_eq_mapM_toList]
  have key : ∀ l : List Field, l.all (fun f => (P.info? f.type).isSome) = true →
      (l.mapM fun f => (do pure (f.offset, ← sizeOf f.type) : Sem (Nat × Nat))).run P w = .ok (l.map fun f => (f.offset, P.cellsOf f.type)) w := by
    intro l hl
    induction l with
    | nil => simp
    | cons f fs ih =>
      simp only [List.all_cons, Bool.and_eq_true] at hl
      obtain ⟨i, hi⟩ := Option.isSome_iff_exists.1 hl.1
      have hf1 : (do pure (f.offset, ← sizeOf f.type) : Sem (Nat × Nat)).run P w = .ok (f.offset, P.cellsOf f.type) w := by simp [sizeOf, typeInfo, hi, Program.cellsOf]
      rw [List.mapM_cons, Sem.run_bind, hf1, Result.andThen_ok, Sem.run_bind, ih hl.2, Result.andThen_ok]
      rfl
  simp only [Sem.run_map, key _ hf, Result.andThen_ok]
  congr 1
  apply Array.ext'
  simp

theorem build_sound (I : Inv nm w F m h) {a : Act} {t : Tmps} (hT : TRep nm w F m (gens h) a t) {ty : Nat} {ps : Array (Nat × Operand)} {qs : List (Nat × Nat × Opd)} {zero r : List AV}
    (hz : zeroIs P ty zero = true)
    (hc : (match P.underlying ty with
      | some (.struct fs) => fs.toList.all (fun f => (P.info? f.type).isSome) && chkParts nm (fun i => (fs[i]?).map fun f => (f.offset, P.cellsOf f.type)) ps.toList qs
      | some (.array _ e) => (P.info? e).isSome && chkParts nm (fun i => some (i * P.cellsOf e, P.cellsOf e)) ps.toList qs
      | _ => false) = true)
    (hr : fillParts (qs.map fun p => (p.1, p.2.1, p.2.2.ev t)) zero = some r) :
    ∃ v, (Instr.build ty (ps.map fun (i, x) => (i, a.eval x))).run P w = .ok v w ∧ Rep nm w F m (gens h) v (.agg r) := by
  obtain ⟨i, z, hi, hz1, hz2⟩ := zeroIs_spec hz
  have hL := matchL_LRep (nm := nm) (w := w) (F := F) (m := m) (G := gens h) hz2
  split at hc
  · rename_i fs hu
    simp only [Bool.and_eq_true] at hc
    obtain ⟨vs', h1, h2⟩ := fill_sound hT hc.2 hL hr
    refine ⟨.agg vs', ?_, .agg _ _ (by simpa using h2.1) (fun j v l hv hl => h2.2 j v l (by simpa using hv) hl)⟩
    simp only [Instr.build, Sem.run_bind, run_zeroValue hi hz1, run_underlying hu, Result.andThen_ok, mapM_sizes hc.1]
    have hp : (fun i : Nat => (fs.map fun f : Field => (f.offset, P.cellsOf f.type))[i]?) = (fun i : Nat => (fs[i]?).map fun f : Field => (f.offset, P.cellsOf f.type)) := by funext i; simp
    rw [hp]
    simp only [Array.toList_map, h1]
    rfl
  · rename_i n e hu
    simp only [Bool.and_eq_true] at hc
    obtain ⟨ie, hie⟩ := Option.isSome_iff_exists.1 hc.1
    have hce : P.cellsOf e = ie.size := by simp [Program.cellsOf, hie]
    obtain ⟨vs', h1, h2⟩ := fill_sound hT hc.2 hL hr
    refine ⟨.agg vs', ?_, .agg _ _ (by simpa using h2.1) (fun j v l hv hl => h2.2 j v l (by simpa using hv) hl)⟩
    simp only [Instr.build, Sem.run_bind, run_zeroValue hi hz1, run_underlying hu, Result.andThen_ok]
    simp only [sizeOf, Sem.run_bind, run_typeInfo hie, Result.andThen_ok, Sem.run_pure]
    rw [hce] at h1
    simp only [Array.toList_map, h1]
    rfl
  · cases hc

/-- Rows as cells. -/
def RRep (nm : Nat → Option Nat) (w : World) (F : Nat → Prop) (m : MapT) (G : List Nat) (es : Nat) (cells : Array Value) (rows : List (List AV)) : Prop :=
  cells.size = rows.length * es ∧ ∀ (i : Nat) (row : List AV), rows[i]? = some row → row.length = es ∧ ∀ (j : Nat) (l : AV), row[j]? = some l → leaf1 l = true ∧ ∃ v, cells[i * es + j]? = some v ∧ Rep nm w F m G v l

theorem row_lt {es n i j : Nat} (hi : i < n) (hj : j < es) : i * es + j < n * es := by
  have : (i + 1) * es ≤ n * es := Nat.mul_le_mul_right _ (by omega)
  rw [Nat.add_mul] at this
  omega

theorem zeros_RRep {G : List Nat} {es n : Nat} {z : Array Value} {zero : List AV} (hes : 0 < es) (hl : zero.length = es) (hz : LRep nm w F m G z.toList zero) (h1 : zero.all leaf1 = true) :
    RRep nm w F m G es ((Array.range (n * es)).map (z[· % z.size]!)) (List.replicate n zero) := by
  refine ⟨by simp, fun i row hi => ?_⟩
  have hil : i < n := by have := (List.getElem?_eq_some_iff.1 hi).1; simpa using this
  have hr : row = zero := by
    rw [List.getElem?_replicate, if_pos hil] at hi
    injection hi with hi
    exact hi.symm
  subst hr
  refine ⟨hl, fun j l hj => ?_⟩
  have hjl : j < es := by rw [← hl]; exact (List.getElem?_eq_some_iff.1 hj).1
  have hzs : z.size = es := by rw [← hl]; simpa using hz.1
  obtain ⟨v, hv, hrep⟩ := hz.get hj
  refine ⟨?_, v, ?_, hrep⟩
  · rw [List.all_eq_true] at h1
    exact h1 l (List.mem_of_getElem? hj)
  · have hlt := row_lt (es := es) hil hjl
    have hmod : (i * es + j) % es = j := by rw [Nat.mul_comm, Nat.mul_add_mod]; exact Nat.mod_eq_of_lt hjl
    simp only [Array.getElem?_map, Array.getElem?_range, hlt, if_true, Option.map_some, hzs, hmod]
    congr 1
    have hv2 : z[j]? = some v := by simpa using hv
    have hjz : j < z.size := by omega
    rw [getElem!_pos z j hjz]
    rw [Array.getElem?_eq_getElem hjz] at hv2
    injection hv2

theorem fillRows_sound {G : List Nat} {es : Nat} {a : Act} {t : Tmps} (hT : TRep nm w F m G a t) :
    ∀ {ps : List (Nat × Operand)} {qs : List (Nat × Opd)} {vs : Array Value} {rows r : List (List AV)}, chkRows nm ps qs = true → RRep nm w F m G es vs rows →
      fillRows es (qs.map fun p => (p.1, p.2.ev t)) rows = some r →
      ∃ vs' : Array Value, Instr.fill (fun i => some (i * es, es)) vs (ps.map fun p => (p.1, a.eval p.2)) = some vs' ∧ RRep nm w F m G es vs' r ∧ r.length = rows.length
  | [], [], vs, rows, r, _, hl, hf => by
    simp only [List.map_nil, fillRows] at hf
    injection hf with hf
    subst hf
    exact ⟨vs, rfl, hl, rfl⟩
  | (i, x) :: ps, (i', y) :: qs, vs, rows, r, hc, hl, hf => by
    simp only [chkRows, Bool.and_eq_true, beq_iff_eq] at hc
    obtain ⟨⟨hc1, hc2⟩, hc3⟩ := hc
    subst hc1
    simp only [List.map_cons, fillRows] at hf
    split at hf
    · rename_i hb
      obtain ⟨hb1, hb2, hb3⟩ := hb
      obtain ⟨hcs, hcl⟩ := (chkO_rep hT hc2).cells hb3
      have hsz : (a.eval x).cells.toList.length = es := by rw [Array.length_toList, hcs, hb1]
      have hfill : i * es + 0 + (a.eval x).cells.toList.length ≤ vs.size := by
        rw [hsz, hl.1]
        have : (i + 1) * es ≤ rows.length * es := Nat.mul_le_mul_right _ (by omega)
        rw [Nat.add_mul] at this
        omega
      have hsize : ((a.eval x).cells.toList.zipIdx.foldl (fun cs (p : Value × Nat) => cs.setIfInBounds (i * es + p.2) p.1) vs).size = vs.size := foldl_set_size _ _ _
      have hstep : RRep nm w F m G es ((a.eval x).cells.toList.zipIdx.foldl (fun cs (p : Value × Nat) => cs.setIfInBounds (i * es + p.2) p.1) vs) (rows.set i (cellsOf (y.ev t))) := by
        refine ⟨by rw [hsize, hl.1]; simp, fun k row hk => ?_⟩
        rw [List.getElem?_set] at hk
        split at hk
        · rename_i e
          subst e
          injection hk with hk
          subst hk
          refine ⟨hb1, fun j l hj => ?_⟩
          have hjl : j < es := by rw [← hb1]; exact (List.getElem?_eq_some_iff.1 hj).1
          have hz : (a.eval x).cells[j]? = some ((a.eval x).cells[j]'(by rw [hcs, hb1]; exact hjl)) := Array.getElem?_eq_getElem _
          refine ⟨(hcl j _ l hz hj).1, _, ?_, (hcl j _ l hz hj).2.2⟩
          rw [foldl_set_get _ _ 0 _ hfill, if_neg (by omega), hsz, if_pos (by omega), show i * es + j - (i * es + 0) = j by omega]
          first | (simp; done) | (simp; exact hz) | exact hz
        · rename_i hne
          refine ⟨(hl.2 k row hk).1, fun j l hj => ?_⟩
          have hjl : j < es := by rw [← (hl.2 k row hk).1]; exact (List.getElem?_eq_some_iff.1 hj).1
          obtain ⟨a1, v, a2, a3⟩ := (hl.2 k row hk).2 j l hj
          refine ⟨a1, v, ?_, a3⟩
          rw [foldl_set_get _ _ 0 _ hfill, hsz]
          by_cases h1 : k * es + j < i * es + 0
          · rw [if_pos h1]; exact a2
          · rw [if_neg h1]
            by_cases h2 : k * es + j < i * es + 0 + es
            · exfalso
              have : k * es + j = i * es + (k * es + j - i * es) := by omega
              exact hne (place_inj hjl (by omega) this).1.symm
            · rw [if_neg h2]; exact a2
      obtain ⟨vs', h1, h2, h3⟩ := fillRows_sound hT hc3 hstep hf
      refine ⟨vs', ?_, h2, by rw [h3]; simp⟩
      simp only [List.map_cons, Instr.fill]
      have hcond : ((a.eval x).cells.size ≠ es || i * es + (a.eval x).cells.size > vs.size) = false := by
        rw [Array.length_toList] at hsz hfill
        simp [hsz]
        omega
      rw [if_neg (by rw [hcond]; exact Bool.false_ne_true)]
      rw [← h1]
      congr 1
      rw [← Array.foldl_toList]
      simp
    · cases hf
  | [], _ :: _, _, _, _, h, _, _ => by cases h
  | _ :: _, [], _, _, _, h, _, _ => by cases h

theorem buildS_sound (I : Inv nm w F m h) {fb : Nat} {sl : Option Nat} {a : Act} {t : Tmps} (hT : TRep nm w F m (gens h) a t) {ty e es len : Nat} {ps : Array (Nat × Operand)} {qs : List (Nat × Opd)} {zero : List AV}
    {rows : List (List AV)} {x : AV × Heap} (hu : P.underlying ty = some (.slice e)) (hs : sizeIs P e es = true) (hes : 0 < es) (hlen : len * es ≤ 2 ^ 24) (hz : zeroIs P e zero = true)
    (hzl : zero.length = es) (hz1 : zero.all leaf1 = true) (hc : chkRows nm ps.toList qs = true) (hr : fillRows es (qs.map fun p => (p.1, p.2.ev t)) (List.replicate len zero) = some rows)
    (hx : newArr fb sl es rows h = some x) :
    Does nm w F m h ((do pure (Next.value (← Instr.buildSlice ty len (ps.map fun (i, x) => (i, a.eval x)))) : Sem Next).run P w) x := by
  obtain ⟨i, z, hi, hzz, hz2⟩ := zeroIs_spec hz
  have hL := matchL_LRep (nm := nm) (w := w) (F := F) (m := m) (G := gens h) hz2
  obtain ⟨vs', h1, h2, h3⟩ := fillRows_sound hT hc (zeros_RRep (n := len) hes hzl hL hz1) hr
  have hrl : rows.length = len := by rw [h3]; simp
  have hrun : (Instr.buildSlice ty len (ps.map fun (i, x) => (i, a.eval x))).run P w = .ok (.slice (some ⟨w.heap.size, 0, none⟩) rows.length rows.length) { w with heap := w.heap.push (.cells vs' e) } := by
    simp only [Instr.buildSlice, Sem.run_bind, run_underlying hu, Result.andThen_ok, run_sizeOf hs]
    rw [if_neg (by omega)]
    by_cases hn : len = 0
    · subst hn
      simp only [Nat.zero_mul, if_true, Sem.run_bind, Sem.run_pure, Result.andThen_ok]
      simp only [Nat.zero_mul] at h1
      have : (Array.map (fun x => (#[] : Array Value)[x % (#[] : Array Value).size]!) (Array.range 0)) = (Array.map (fun x => z.cells[x % z.cells.size]!) (Array.range 0)) := by simp
      rw [this]
      simp only [Array.toList_map, h1, hrl]
      simp [newRow]
    · rw [if_neg (by have : 0 < len * es := Nat.mul_pos (by omega) hes; omega)]
      simp only [Sem.run_bind, run_zeroValue hi hzz, Result.andThen_ok, Sem.run_pure, Array.toList_map, h1, hrl]
      simp [newRow]
  rw [run_v hrun]
  exact newArr_sound I hx rfl rfl rfl rfl (frOk_zero _) (Nat.le_refl _) (by rw [h2.1]; exact Nat.le_refl _) h2.2

theorem wrap_of_le {n : Int} (h0 : 0 ≤ n) (h1 : n ≤ 2 ^ 62) : IntKind.i64.wrap n = n := by
  unfold IntKind.wrap
  simp [IntKind.signed, IntKind.bits]
  omega

theorem mkS_sound (I : Inv nm w F m h) {fb : Nat} {sl : Option Nat} {ty e es bytes : Nat} {zero : List AV} {l c : Int} {x : AV × Heap} (hu : P.underlying ty = some (.slice e)) (hs : sizeIs P e es = true) (hes : 0 < es)
    (hz : zeroIs P e zero = true) (hby : P.bytesOf e = bytes) (hzl : zero.length = es) (hz1 : zero.all leaf1 = true) (h0 : 0 ≤ l) (hlc : l ≤ c) (hcb : c * bytes ≤ 2 ^ 47) (hc62 : c ≤ 2 ^ 62)
    (hx : newArr fb sl es (List.replicate l.toNat zero) h = some x) :
    Does nm w F m h ((do pure (Next.value (← Instr.makeSlice ty (.int .i64 l) (.int .i64 c))) : Sem Next).run P w) x := by
  obtain ⟨i, z, hi, hzz, hz2⟩ := zeroIs_spec hz
  have hL := matchL_LRep (nm := nm) (w := w) (F := F) (m := m) (G := gens h) hz2
  have hbytes : i.bytes = bytes := by rw [← hby]; simp [Program.bytesOf, hi]
  have hR := zeros_RRep (n := c.toNat) hes hzl hL hz1
  have hrun : (Instr.makeSlice ty (.int .i64 l) (.int .i64 c)).run P w =
      .ok (.slice (some ⟨w.heap.size, 0, none⟩) l.toNat c.toNat) { w with heap := w.heap.push (.cells ((Array.range (c.toNat * es)).map (z.cells[· % z.cells.size]!)) e) } := by
    have hcb2 : (bytes : Int) * c ≤ 2 ^ 47 := by rw [Int.mul_comm]; exact hcb
    simp only [Instr.makeSlice, Sem.run_bind, run_underlying hu, Result.andThen_ok, asInt, asIntOf, Sem.run_pure, run_typeInfo hi, hbytes, wrap_of_le h0 (by omega), wrap_of_le (by omega : (0 : Int) ≤ c) hc62]
    rw [if_neg (by simp; omega)]
    simp only [Sem.run_bind, run_askRoom, Result.andThen_ok, run_sizeOf hs, Sem.run_pure]
    by_cases hn : c.toNat = 0
    · simp only [hn, Nat.zero_mul, if_true, Sem.run_pure, Result.andThen_ok]
      have hr0 : Array.range 0 = #[] := rfl
      simp only [hr0, Array.map_empty, newRow, Sem.run_bind, run_newObj, Result.andThen_ok, Sem.run_pure]
    · rw [if_neg (by have : 0 < c.toNat * es := Nat.mul_pos (by omega) hes; omega)]
      simp only [Sem.run_bind, run_zeroValue hi hzz, Result.andThen_ok, Sem.run_pure]
      simp [newRow]
  rw [run_v hrun]
  have hlen : l.toNat = (List.replicate l.toNat zero).length := by simp
  have := newArr_sound (cap := c.toNat) (w' := { w with heap := w.heap.push (.cells ((Array.range (c.toNat * es)).map (z.cells[· % z.cells.size]!)) e) }) I hx rfl rfl rfl rfl (frOk_zero _)
    (by simp; omega) (by rw [hR.1]; simp) (fun k row hk => by
      have hk2 : (List.replicate c.toNat zero)[k]? = some row := by
        rw [List.getElem?_replicate] at hk ⊢
        split at hk
        · rw [if_pos (by omega)]; exact hk
        · cases hk
      exact hR.2 k row hk2)
  rw [List.length_replicate] at this
  exact this

end Go.Vm
