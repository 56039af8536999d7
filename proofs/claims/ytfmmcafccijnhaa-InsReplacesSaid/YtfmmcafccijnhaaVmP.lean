/- The value machine: calls of functions with what is only read. -/
import Derived.Test.YtfmmcafccijnhaaVmO
namespace Go.Vm

variable {P : Program} {nm : Nat → Option Nat} {w : World} {F : Nat → Prop} {m : MapT} {h : Heap} {G : List Nat}

/-- The world behind a call is the world ahead of it, and more. -/
structure Same (w w' : World) : Prop where
  os : w'.os = w.os
  tape : w'.tape = w.tape
  output : w'.output = w.output
  size : w.heap.size ≤ w'.heap.size
  block : ∀ b, b < w.heap.size → w'.heap[b]? = w.heap[b]?

/-- What a function answers that was called with what is only read. -/
def PureRes (nm : Nat → Option Nat) (N : Nat) (Fk : Nat → Prop) (w : World) (v : Value) (r : Ex AV) : Prop :=
  ∃ (F2 : Nat → Prop) (m2 : MapT), Inv nm w F2 m2 (heapOf r.objs) ∧ (∀ o, o ∈ r.objs → rowsPure o) ∧ Rep nm w F2 m2 (gens (heapOf r.objs)) v r.v ∧
    (∀ b, F2 b → (r.fresh = false ∧ Fk b) ∨ N ≤ b) ∧ (∀ b, owned m2 b → N ≤ b)

def PSound (P : Program) (nm : Nat → Option Nat) (p : Nat → List AV → Option (Ex AV)) : Prop :=
  ∀ (f key : Nat) (args : List AV) (r : Ex AV), nm f = some key → p key args = some r → ∀ (w : World) (Fk : Nat → Prop) (vs : Array Value), (∀ b, Fk b → b < w.heap.size) → vs.size = args.length →
    (∀ (j : Nat) (v : Value) (l : AV), vs[j]? = some v → args[j]? = some l → PRep nm w Fk v l) →
    Calls P f vs w fun e w' => ∃ v, e = .returned v ∧ Same w w' ∧ PureRes nm w.heap.size Fk w' v r

/-- What a call in the caller's own heap does. -/
def InPost (nm : Nat → Option Nat) (w : World) (F : Nat → Prop) (m : MapT) (h : Heap) (x : AV × Heap) (e : Ending) (w' : World) : Prop :=
  ∃ v F' m', e = .returned v ∧ Inv nm w' F' m' x.2 ∧ Tr w F m (gens h) w' F' m' (gens x.2) ∧ Rep nm w' F' m' (gens x.2) v x.1

def ISound (P : Program) (nm : Nat → Option Nat) (i : Nat → List AV → Nat → Heap → Option (AV × Heap)) : Prop :=
  ∀ (f key : Nat) (args : List AV) (fb : Nat) (h : Heap) (x : AV × Heap), nm f = some key → i key args fb h = some x → ∀ (w : World) (F : Nat → Prop) (m : MapT) (vs : Array Value), Inv nm w F m h → vs.size = args.length →
    (∀ (j : Nat) (v : Value) (l : AV), vs[j]? = some v → args[j]? = some l → Rep nm w F m (gens h) v l) → Calls P f vs w (InPost nm w F m h x)

def OC.frozen : OC → OC
  | .arr bx _ es rows => .arr bx true es rows
  | .map _ es => .map true es
  | .dead => .dead

theorem freezeIds_get : ∀ (ids : List Nat) (h : Heap) (id g : Nat) (o : OC), h[id]? = some ⟨g, o⟩ → (freezeIds ids h)[id]? = some ⟨g, if id ∈ ids then o.frozen else o⟩
  | [], h, id, g, o, ho => by simpa [freezeIds] using ho
  | x :: ids, h, id, g, o, ho => by
    have hlt : id < h.length := (List.getElem?_eq_some_iff.1 ho).1
    have key : ∀ (h' : Heap) (o' : OC), freezeIds (x :: ids) h = freezeIds ids h' → h'[id]? = some ⟨g, o'⟩ → (if id = x then o' = o.frozen else o' = o) → (freezeIds (x :: ids) h)[id]? = some ⟨g, if id ∈ x :: ids then o.frozen else o⟩ := by
      intro h' o' he h1 h2
      rw [he, freezeIds_get ids h' id g o' h1]
      congr 2
      have hff : o.frozen.frozen = o.frozen := by cases o <;> rfl
      by_cases e : id = x
      · rw [if_pos e] at h2
        subst h2
        simp only [List.mem_cons, e, true_or, if_true, hff, ite_self]
      · rw [if_neg e] at h2
        subst h2
        simp [e]
    simp only [freezeIds] at key ⊢
    split at key
    · rename_i gx bx fz es rows hx
      refine key _ (if id = x then .arr bx true es rows else o) rfl ?_ ?_
      · by_cases e : id = x
        · subst e
          rw [ho] at hx
          injection hx with hx
          injection hx with h1 h2
          subst h1
          simp [hlt]
        · rw [List.getElem?_set_ne (fun e' => e e'.symm), if_neg e]; exact ho
      · by_cases e : id = x
        · subst e
          rw [ho] at hx
          injection hx with hx
          injection hx with h1 h2
          subst h2
          simp [OC.frozen]
        · simp [e]
    · rename_i gx fz es hx
      refine key _ (if id = x then .map true es else o) rfl ?_ ?_
      · by_cases e : id = x
        · subst e
          rw [ho] at hx
          injection hx with hx
          injection hx with h1 h2
          subst h1
          simp [hlt]
        · rw [List.getElem?_set_ne (fun e' => e e'.symm), if_neg e]; exact ho
      · by_cases e : id = x
        · subst e
          rw [ho] at hx
          injection hx with hx
          injection hx with h1 h2
          subst h2
          simp [OC.frozen]
        · simp [e]
    · rename_i h1 h2
      refine key _ o rfl ho ?_
      by_cases e : id = x
      · subst e
        rw [if_pos rfl]
        cases o with
        | dead => rfl
        | arr bx fz es rows => exact (h1 _ _ _ _ _ ho).elim
        | map fz es => exact (h2 _ _ _ ho).elim
      · rw [if_neg e]

theorem freezeIds_length : ∀ (ids : List Nat) (h : Heap), (freezeIds ids h).length = h.length
  | [], _ => rfl
  | x :: ids, h => by
    simp only [freezeIds]
    split <;> rw [freezeIds_length ids] <;> simp

theorem freezeIds_gens (ids : List Nat) (h : Heap) : gens (freezeIds ids h) = gens h := by
  apply List.ext_getElem?
  intro id
  rw [gens_get, gens_get]
  cases ho : h[id]? with
  | none =>
    have : h.length ≤ id := by
      rcases Nat.lt_or_ge id h.length with hl | hl
      · rw [List.getElem?_eq_getElem hl] at ho; cases ho
      · exact hl
    rw [List.getElem?_eq_none (by rw [freezeIds_length]; exact this)]
  | some x =>
    obtain ⟨g, o⟩ := x
    rw [freezeIds_get ids h id g o ho]
    rfl

theorem OCRep.frozen {loc : Loc} {o : OC} (ho : OCRep nm w F m G loc o) : OCRep nm w F m G loc o.frozen := by
  cases o with
  | dead => exact ho
  | arr => exact ho
  | map => exact ho

theorem OCRep.notDead {loc : Loc} {o : OC} (ho : OCRep nm w F m G loc o) : o.isDead = false := by
  cases o with
  | dead => exact ho.elim
  | arr => rfl
  | map => rfl

theorem frozen_fz {o : OC} (hd : o.isDead = false) : o.frozen.fz = true := by
  cases o with
  | dead => cases hd
  | arr => rfl
  | map => rfl

/-- The world behind a call with what is only read, told by the caller: F1 may take in new blocks, and those of objects that are read-only from now on. -/
theorem after_call (I : Inv nm w F m h) {w' : World} (S : Same w w') {ids : List Nat} {F1 : Nat → Prop} (hsub : ∀ b, F b → F1 b) (hnew : ∀ b, F1 b → F b ∨ blks m ids b ∨ w.heap.size ≤ b) (hids : ∀ b, blks m ids b → F1 b)
    (hbd : ∀ b, F1 b → b < w'.heap.size) : Inv nm w' F1 m (freezeIds ids h) ∧ Tr w F m (gens h) w' F1 m (gens (freezeIds ids h)) := by
  have hg := freezeIds_gens ids h
  have hrep : ∀ v a, Rep nm w F m (gens h) v a → Rep nm w' F1 m (gens (freezeIds ids h)) v a := fun v a hr =>
    hr.mono (fun b hb => S.block b (I.bd b hb)) hsub (fun id g hid => ⟨g, by rw [hg]; exact hid, Nat.le_refl _⟩) (fun _ _ _ _ h _ _ => h)
  have hlive : ∀ id g loc, m id = some (g, loc) → ∃ o, h[id]? = some ⟨g, o⟩ ∧ OCRep nm w F m (gens h) loc o ∧ (freezeIds ids h)[id]? = some ⟨g, if id ∈ ids then o.frozen else o⟩ := by
    intro id g loc hm
    obtain ⟨o, h1, h2⟩ := I.live id g loc hm
    exact ⟨o, h1, h2, freezeIds_get ids h id g o h1⟩
  refine ⟨⟨?_, ?_, I.inj, ?_, hbd⟩, ⟨S.os, S.tape, S.output, S.size, hsub, fun b hb _ => S.block b hb, fun b hb => .inl hb, fun b hb => ?_, fun id g hid => ⟨g, by rw [hg]; exact hid, Nat.le_refl _⟩, fun _ _ _ _ h _ _ => h⟩⟩
  · intro id g loc hm
    obtain ⟨o, h1, h2, h3⟩ := hlive id g loc hm
    refine ⟨_, h3, ?_⟩
    have := h2.of (S.block _ (I.blk_lt hm)) hrep
    split
    · exact this.frozen
    · exact this
  · intro id g o ho hd
    have hlt : id < h.length := by rw [← freezeIds_length ids h]; exact (List.getElem?_eq_some_iff.1 ho).1
    have h1 : h[id]? = some h[id] := List.getElem?_eq_getElem hlt
    have h2 := freezeIds_get ids h id h[id].gen h[id].c h1
    rw [ho] at h2
    injection h2 with h2
    injection h2 with h3 h4
    subst h3
    refine I.has id _ h[id].c h1 ?_
    cases hc : h[id].c with
    | dead => rw [hc] at h4; rw [h4] at hd; split at hd <;> cases hd
    | arr => rfl
    | map => rfl
  · intro id g loc o hm ho
    obtain ⟨o0, h1, h2, h3⟩ := hlive id g loc hm
    rw [ho] at h3
    injection h3 with h3
    injection h3 with _ h3
    subst h3
    have hfz := I.fz id g loc o0 hm h1
    have hlt := I.blk_lt hm
    split
    · rename_i hin
      rw [frozen_fz h2.notDead]
      exact ⟨fun _ => hids _ ⟨id, hin, g, loc, hm, rfl⟩, fun _ => rfl⟩
    · rename_i hin
      rw [hfz]
      refine ⟨hsub _, fun hb => ?_⟩
      rcases hnew _ hb with hb | ⟨id2, k1, g2, l2, k2, k3⟩ | hb
      · exact hb
      · have := I.inj id2 g2 l2 id g loc k2 hm k3
        exact (hin (this ▸ k1)).elim
      · omega
  · rcases hnew b hb with hb | ⟨id2, k1, g2, l2, k2, k3⟩ | hb
    · exact .inl hb
    · exact .inr (.inl ⟨id2, g2, l2, k2, k3⟩)
    · exact .inr (.inr hb)

theorem freezeIds_nil (h : Heap) : freezeIds [] h = h := rfl

/-! A callee's objects are laid into the caller's heap. -/

def TabOk (m2 mc : MapT) (Gc : List Nat) (tab : List (Nat × Nat)) : Prop :=
  ∀ (j id g : Nat), tab[j]? = some (id, g) → ∃ loc, m2 j = some (0, loc) ∧ mc id = some (g, loc) ∧ Gc[id]? = some g

theorem relocLeaf_rep {w : World} {F2 F1 : Nat → Prop} {m2 mc : MapT} {G2 Gc : List Nat} {tab : List (Nat × Nat)} (hF : ∀ b, F2 b → F1 b) (hT : TabOk m2 mc Gc tab) {v : Value} {a : AV} (hv : Rep nm w F2 m2 G2 v a) :
    Rep nm w F1 mc Gc v (relocLeaf tab a) := by
  unfold relocLeaf
  split
  · rename_i j es off len
    split
    · rename_i id g hj
      obtain ⟨loc, h1, h2, h3⟩ := hT j id g hj
      cases hv with
      | pure h => cases h
      | ls _ _ _ _ _ cap ad loc' hg hl hab has hes hao hac hlc =>
        have := hl loc h1
        subst this
        exact .ls id g es off len cap ad loc ⟨g, h3, Nat.le_refl _⟩ (fun l' hl' => by rw [h2] at hl'; injection hl' with hl'; injection hl' with _ hl'; exact hl'.symm) hab has hes hao hac hlc
    · exact .undef v
  · rename_i j i off
    split
    · rename_i id g hj
      obtain ⟨loc, h1, h2, h3⟩ := hT j id g hj
      have hp := hv.lp_at h1
      subst hp
      exact .lp id g i off loc ⟨g, h3, Nat.le_refl _⟩ (fun l' hl' => by rw [h2] at hl'; injection hl' with hl'; injection hl' with _ hl'; exact hl'.symm)
    · exact .undef v
  · rename_i j
    split
    · rename_i id g hj
      obtain ⟨loc, h1, h2, h3⟩ := hT j id g hj
      rw [hv.lm_at h1]
      exact .lm id g loc ⟨g, h3, Nat.le_refl _⟩ (fun l' hl' => by rw [h2] at hl'; injection hl' with hl'; injection hl' with _ hl'; exact hl'.symm)
    · exact .undef v
  · split
    · rename_i hp
      exact .pure ((hv.pure1 hp).mono (fun _ _ => rfl) hF)
    · exact .undef v

theorem relocAgg_rep {w : World} {F2 F1 : Nat → Prop} {m2 mc : MapT} {G2 Gc : List Nat} {tab : List (Nat × Nat)} (hF : ∀ b, F2 b → F1 b) (hT : TabOk m2 mc Gc tab) {v : Value} {a : AV} (hv : Rep nm w F2 m2 G2 v a) :
    Rep nm w F1 mc Gc v (relocAgg tab a) := by
  unfold relocAgg
  split
  · obtain ⟨vs, rfl, hn, hr⟩ := hv.agg_inv
    refine .agg _ _ (by simpa using hn) (fun j v l h1 h2 => ?_)
    rw [List.getElem?_map] at h2
    obtain ⟨l0, h3, rfl⟩ := map_eq h2
    exact relocLeaf_rep hF hT (hr j v l0 h1 h3)
  · exact relocLeaf_rep hF hT hv

theorem reloc_rep {w : World} {F2 F1 : Nat → Prop} {m2 mc : MapT} {G2 Gc : List Nat} {tab : List (Nat × Nat)} (hF : ∀ b, F2 b → F1 b) (hT : TabOk m2 mc Gc tab) {v : Value} {a : AV} (hv : Rep nm w F2 m2 G2 v a) :
    Rep nm w F1 mc Gc v (reloc tab a) := by
  unfold reloc
  split
  · obtain ⟨vs, rfl, hn, hr⟩ := hv.tup_inv
    refine .tup _ _ (by simpa using hn) (fun j v l h1 h2 => ?_)
    rw [List.getElem?_map] at h2
    obtain ⟨l0, h3, rfl⟩ := map_eq h2
    exact relocAgg_rep hF hT (hr j v l0 h1 h3)
  · exact relocAgg_rep hF hT hv

/-- The places that were taken so far lie ahead of the next one. -/
def tabBelow (fb : Nat) (sl : Option Nat) (h : Heap) (tab : List (Nat × Nat)) : Prop := ∀ (j id g : Nat), tab[j]? = some (id, g) → match sl with
  | some s => id < fb + s
  | none => id < h.length

theorem placeAll_sound {w w' : World} {F1 F2 : Nat → Prop} {m m2 : MapT} {G : List Nat} {objs : List OC} {N : Nat} (I2 : Inv nm w' F2 m2 (heapOf objs)) (hpure : ∀ o, o ∈ objs → rowsPure o) (hF2 : ∀ b, F2 b → F1 b)
    (hF1 : ∀ b, F1 b → F2 b ∨ b < N) (hown2 : ∀ b, owned m2 b → N ≤ b) (hbd : ∀ b, owned m b → b < N) (hN : w.heap.size = N) {fb : Nat} :
    ∀ (os done : List OC) (sl : Option Nat) (tab tab' : List (Nat × Nat)) (hc h2 : Heap) (mc : MapT), objs = done ++ os → done.length = tab.length → Inv nm w' F1 mc hc → Tr w F m G w' F1 mc (gens hc) →
      TabOk m2 mc (gens hc) tab → tabBelow fb sl hc tab → (∀ b, owned mc b → owned m b ∨ ∃ j id g loc, tab[j]? = some (id, g) ∧ m2 j = some (0, loc) ∧ loc.blk = b) →
      placeAll fb sl os tab hc = some (tab', h2) →
      ∃ mc', Inv nm w' F1 mc' h2 ∧ Tr w F m G w' F1 mc' (gens h2) ∧ TabOk m2 mc' (gens h2) tab'
  | [], done, sl, tab, tab', hc, h2, mc, _, _, I, T, K, _, _, hp => by
    simp only [placeAll] at hp
    injection hp with hp
    injection hp with h1 h2
    subst h1; subst h2
    exact ⟨mc, I, T, K⟩
  | o :: os, done, sl, tab, tab', hc, h2, mc, hobj, hdl, I, T, K, B, O, hp => by
    simp only [placeAll] at hp
    split at hp
    · rename_i id g h' hpl
      split at hpl
      · rename_i hok
        obtain ⟨p1, p2, p3⟩ := place_spec hpl
        have hget : objs[tab.length]? = some o := by rw [hobj, ← hdl]; simp
        have hgo : (heapOf objs)[tab.length]? = some ⟨0, o⟩ := by rw [heapOf_get, hget]; rfl
        have hnd : o.isDead = false := by
          cases o with
          | dead => simp [relocOC, okOC] at hok
          | arr => rfl
          | map => rfl
        obtain ⟨loc, hm2⟩ := I2.has _ _ _ hgo hnd
        obtain ⟨o', ho', hrep⟩ := I2.live _ _ _ hm2
        rw [hgo] at ho'
        injection ho' with ho'
        injection ho' with _ ho'
        subst ho'
        have hofz : o.fz = false ∧ (relocOC tab o).fz = false := by
          cases o with
          | dead => simp [relocOC, okOC] at hok
          | arr bx fz es rows => cases bx <;> cases fz <;> simp [relocOC, okOC] at hok <;> exact ⟨rfl, rfl⟩
          | map => simp [relocOC, okOC] at hok
        have hnF2 : ¬ F2 loc.blk := fun hb => by
          have := (I2.fz _ _ loc o hm2 hgo).2 hb
          rw [hofz.1] at this
          cases this
        have hge : N ≤ loc.blk := hown2 _ ⟨_, _, loc, hm2, rfl⟩
        have hnF1 : ¬ F1 loc.blk := fun hb => by
          rcases hF1 _ hb with hb | hb
          · exact hnF2 hb
          · omega
        have hnown : ¬ owned mc loc.blk := fun hb => by
          rcases O _ hb with hb | ⟨j, id2, g2, loc2, k1, k2, k3⟩
          · have := hbd _ hb; omega
          · have hj : j < tab.length := (List.getElem?_eq_some_iff.1 k1).1
            have := I2.inj j 0 loc2 tab.length 0 loc k2 hm2 k3
            omega
        have hidne : ∀ (j id2 g2 : Nat), tab[j]? = some (id2, g2) → id2 ≠ id := by
          intro j id2 g2 hj e
          have hb := B j id2 g2 hj
          subst e
          unfold place at hpl
          split at hpl
          · injection hpl with hpl
            injection hpl with e1 _
            simp only at hb
            omega
          · split at hpl
            · injection hpl with hpl
              injection hpl with e1 _
              simp only at hb
              omega
            · cases hpl
        obtain ⟨mc', hmc', I', hr', hgl', hmp'⟩ := adopt I hnown hnF1 p1 p2 hofz.2 p3 (fun m' hrep' => by
          have K' : TabOk m2 m' (gens h') tab → True := fun _ => trivial
          cases o with
          | dead => cases hnd
          | map => simp [relocOC, okOC] at hok
          | arr bx fz es rows =>
            obtain ⟨e1, cs, ty, fr, e2, e3, e4, e5, e6⟩ := hrep
            cases bx with
            | false =>
              refine ⟨e1, cs, ty, fr, e2, e3, e4, e5, fun i row hi => ⟨(e6 i row hi).1, fun j l hl => ?_⟩⟩
              obtain ⟨c1, x, c2, c3⟩ := (e6 i row hi).2 j l hl
              have hpo : rowsPure (.arr false fz es rows) := hpure _ (by rw [hobj]; simp)
              exact ⟨c1, x, c2, .pure ((c3.pure1 (hpo i row j l hi hl)).mono (fun _ _ => rfl) hF2)⟩
            | true =>
              refine ⟨e1, cs, ty, fr, e2, e3, e4, by simpa using e5, fun i row hi => ?_⟩
              rw [List.getElem?_map] at hi
              obtain ⟨row0, hi0, rfl⟩ := map_eq hi
              refine ⟨by simpa using (e6 i row0 hi0).1, fun j l hl => ?_⟩
              rw [List.getElem?_map] at hl
              obtain ⟨l0, hl0, rfl⟩ := map_eq hl
              obtain ⟨c1, x, c2, c3⟩ := (e6 i row0 hi0).2 j l0 hl0
              refine ⟨?_, x, c2, hrep' _ _ (relocLeaf_rep hF2 K c3)⟩
              have hok2 : (rows.map (·.map (relocLeaf tab))).all (·.all leaf1) = true := by
                cases fz <;> simp [relocOC, okOC] at hok ⊢
                exact hok
              rw [List.all_eq_true] at hok2
              have h3 := hok2 _ (List.mem_of_getElem? (show (rows.map (·.map (relocLeaf tab)))[i]? = some (row0.map (relocLeaf tab)) by rw [List.getElem?_map, hi0]; rfl))
              rw [List.all_eq_true] at h3
              exact h3 _ (List.mem_of_getElem? (show (row0.map (relocLeaf tab))[j]? = some (relocLeaf tab l0) by rw [List.getElem?_map, hl0]; rfl)))
        have hGid : (gens h')[id]? = some g := by rw [gens_get, p2]; rfl
        have T' : Tr w F m G w' F1 mc' (gens h') := ⟨T.os, T.tape, T.output, T.size, T.sub, T.same, fun b hb => by
            obtain ⟨j, g2, l2, k1, k2⟩ := hb
            rw [hmc'] at k1
            simp only at k1
            split at k1
            · injection k1 with k1
              injection k1 with _ k1
              subst k1
              exact .inr (by rw [← k2, hN]; exact hge)
            · exact T.own b ⟨j, g2, l2, k1, k2⟩, T.new, fun id2 g2 hg => by
            obtain ⟨g3, k1, k2⟩ := T.gl id2 g2 hg
            obtain ⟨g4, k3, k4⟩ := hgl' id2 g3 k1
            exact ⟨g4, k3, Nat.le_trans k2 k4⟩, fun id2 g2 g0 l2 k1 k2 k3 => by
            obtain ⟨g3, k4, k5⟩ := T.gl id2 g0 k2
            exact T.mp id2 g2 g0 l2 (hmp' id2 g2 g3 l2 k1 k4 (Nat.le_trans k3 k5)) k2 k3⟩
        refine placeAll_sound I2 hpure hF2 hF1 hown2 hbd hN os (done ++ [o]) (sl.map (· + 1)) (tab ++ [(id, g)]) tab' h' h2 mc' (by rw [hobj]; simp) (by simp [hdl]) I' T' ?_ ?_ ?_ hp
        · intro j id2 g2 hj
          rw [List.getElem?_append] at hj
          split at hj
          · obtain ⟨l2, k1, k2, k3⟩ := K j id2 g2 hj
            have hne := hidne j id2 g2 hj
            refine ⟨l2, k1, ?_, ?_⟩
            · rw [hmc']; simp only [if_neg hne]; exact k2
            · rw [gens_get, p1 id2 hne, ← gens_get]; exact k3
          · rename_i hlt
            have hj0 : j = tab.length := by
              have := (List.getElem?_eq_some_iff.1 hj).1
              simp at this
              omega
            subst hj0
            simp at hj
            obtain ⟨rfl, rfl⟩ := hj
            exact ⟨loc, hm2, by rw [hmc']; simp, hGid⟩
        · intro j id2 g2 hj
          have hcase : (∃ j' : Nat, tab[j']? = some (id2, g2)) ∨ id2 = id := by
            rw [List.getElem?_append] at hj
            split at hj
            · exact .inl ⟨j, hj⟩
            · have := List.mem_of_getElem? hj
              simp at this
              exact .inr this.1
          unfold place at hpl
          cases sl with
          | none =>
            simp only [Option.map_none] at hpl ⊢
            injection hpl with hpl
            injection hpl with e1 e2
            injection e2 with e2 e3
            subst e3
            simp only [List.length_append, List.length_singleton]
            rcases hcase with ⟨j', hj'⟩ | rfl
            · have := B j' id2 g2 hj'
              simp only at this
              omega
            · omega
          | some s =>
            simp only [Option.map_some] at hpl ⊢
            split at hpl
            · injection hpl with hpl
              injection hpl with e1 e2
              rcases hcase with ⟨j', hj'⟩ | rfl
              · have := B j' id2 g2 hj'
                simp only at this
                omega
              · omega
            · cases hpl
        · intro b hb
          obtain ⟨j, g2, l2, k1, k2⟩ := hb
          rw [hmc'] at k1
          simp only at k1
          split at k1
          · injection k1 with k1
            injection k1 with _ k1
            subst k1
            exact .inr ⟨tab.length, id, g, loc, by simp, hm2, k2⟩
          · rcases O b ⟨j, g2, l2, k1, k2⟩ with hb | ⟨j', id2, g3, l3, k3, k4, k5⟩
            · exact .inl hb
            · exact .inr ⟨j', id2, g3, l3, by rw [List.getElem?_append_left (List.getElem?_eq_some_iff.1 k3).1]; exact k3, k4, k5⟩
      · cases hpl
    · cases hp

/-- A call of a function with what is only read, as its caller sees it. -/
theorem callP_sound {E : Env} {C : Calls2} (hC : PSound P nm C.p) (I : Inv nm w F m h) {fb : Nat} {sl : Option Nat} {ro : Bool} {f key : Nat} {vs : Array Value} {args : List AV} {x : AV × Heap} (hk : nm f = some key) (hn : vs.size = args.length)
    (hv : ∀ (j : Nat) (v : Value) (l : AV), vs[j]? = some v → args[j]? = some l → Rep nm w F m (gens h) v l) (hx : callP E C fb sl ro key args h = some x) : Calls P f vs w (InPost nm w F m h x) := by
  unfold callP at hx
  split at hx
  · cases hx
  · rename_i fa hfa
    split at hx
    · cases hx
    · rename_i r hr
      obtain ⟨hal, har⟩ := fzArgs_sound I (vs := vs.toList) (by simpa using hn) (fun j v l h1 h2 => hv j v l (by simpa using h1) h2) hfa
      have hcall := hC f key fa.v r hk hr w (FB F m fa.fresh fa.ids) vs (fun b hb => by
        rcases hb with ⟨_, hb⟩ | ⟨id, _, g, loc, h1, h2⟩
        · exact I.bd b hb
        · rw [← h2]; exact I.blk_lt h1) (by simpa using hal) (fun j v l h1 h2 => har j v l (by simpa using h1) h2)
      refine hcall.mono fun e w' hpost => ?_
      obtain ⟨v, rfl, S, F2, m2, I2, hpure, hrep, hF2, hown2⟩ := hpost
      have hownlt : ∀ b, owned m b → b < w.heap.size := fun b ⟨id, g, loc, h1, h2⟩ => by rw [← h2]; exact I.blk_lt h1
      -- which objects are read-only from now on
      have hcase : ∃ ids, (if (r.fresh || fa.ids.isEmpty) = true then h else freezeIds fa.ids h) = freezeIds ids h ∧ (∀ b, F2 b → F b ∨ blks m ids b ∨ w.heap.size ≤ b) := by
        by_cases hcnd : (r.fresh || fa.ids.isEmpty) = true
        · refine ⟨[], by rw [if_pos hcnd]; rfl, fun b hb => ?_⟩
          rcases hF2 b hb with ⟨h1, h2⟩ | h1
          · rw [h1, Bool.false_or, List.isEmpty_iff] at hcnd
            rcases h2 with ⟨_, h2⟩ | ⟨id, h3, _⟩
            · exact .inl h2
            · rw [hcnd] at h3; cases h3
          · exact .inr (.inr h1)
        · refine ⟨fa.ids, by rw [if_neg hcnd], fun b hb => ?_⟩
          rcases hF2 b hb with ⟨h1, h2⟩ | h1
          · rcases h2 with ⟨_, h2⟩ | h2
            · exact .inl h2
            · exact .inr (.inl h2)
          · exact .inr (.inr h1)
      obtain ⟨ids, hids, hF2'⟩ := hcase
      rw [hids] at hx
      simp only at hx
      split at hx
      · -- only read from now on
        split at hx
        · rename_i q hq
          injection hx with hx
          subst hx
          have hp := fz_sound I2 hrep hq
          have hFin : ∀ b, (F b ∨ F2 b ∨ blks m ids b ∨ owned m2 b) → b < w'.heap.size := by
            rintro b (hb | hb | ⟨id, _, g, loc, h1, h2⟩ | ⟨id, g, loc, h1, h2⟩)
            · exact Nat.lt_of_lt_of_le (I.bd b hb) S.size
            · exact I2.bd b hb
            · rw [← h2]; exact Nat.lt_of_lt_of_le (I.blk_lt h1) S.size
            · rw [← h2]; exact I2.blk_lt h1
          obtain ⟨hI, hT⟩ := after_call I S (ids := ids) (F1 := fun b => F b ∨ F2 b ∨ blks m ids b ∨ owned m2 b) (fun b hb => .inl hb) (fun b hb => by
            rcases hb with hb | hb | hb | hb
            · exact .inl hb
            · exact hF2' b hb
            · exact .inr (.inl hb)
            · exact .inr (.inr (hown2 b hb))) (fun b hb => .inr (.inr (.inl hb))) hFin
          refine ⟨v, _, m, rfl, hI, hT, .pure (hp.mono (fun _ _ => rfl) (fun b hb => ?_))⟩
          rcases hb with ⟨_, hb⟩ | ⟨id, _, g, loc, h1, h2⟩
          · exact .inr (.inl hb)
          · exact .inr (.inr (.inr ⟨id, g, loc, h1, h2⟩))
        · cases hx
      · -- the caller's own
        split at hx
        · rename_i tab h2 hpl
          injection hx with hx
          subst hx
          have hFin : ∀ b, (F b ∨ F2 b ∨ blks m ids b) → b < w'.heap.size := by
            rintro b (hb | hb | ⟨id, _, g, loc, h1, h2⟩)
            · exact Nat.lt_of_lt_of_le (I.bd b hb) S.size
            · exact I2.bd b hb
            · rw [← h2]; exact Nat.lt_of_lt_of_le (I.blk_lt h1) S.size
          obtain ⟨hI, hT⟩ := after_call I S (ids := ids) (F1 := fun b => F b ∨ F2 b ∨ blks m ids b) (fun b hb => .inl hb) (fun b hb => by
            rcases hb with hb | hb | hb
            · exact .inl hb
            · exact hF2' b hb
            · exact .inr (.inl hb)) (fun b hb => .inr (.inr hb)) hFin
          obtain ⟨mc, hI', hT', hK'⟩ := placeAll_sound (F := F) (m := m) (G := gens h) I2 hpure (F1 := fun b => F b ∨ F2 b ∨ blks m ids b) (fun b hb => .inr (.inl hb)) (fun b hb => by
            rcases hb with hb | hb | ⟨id, _, g, loc, h1, h2⟩
            · exact .inr (I.bd b hb)
            · exact .inl hb
            · exact .inr (by rw [← h2]; exact I.blk_lt h1)) hown2 hownlt rfl r.objs [] sl [] tab (freezeIds ids h) h2 m rfl rfl hI hT (fun j id g hj => by simp at hj) (fun j id g hj => by simp at hj) (fun b hb => .inl hb) hpl
          exact ⟨v, _, mc, rfl, hI', hT', reloc_rep (fun b hb => .inr (.inl hb)) hK' hrep⟩
        · cases hx

end Go.Vm
