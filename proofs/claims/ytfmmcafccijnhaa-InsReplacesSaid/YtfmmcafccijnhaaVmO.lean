/- The value machine: what a callee answers is moved to its caller. -/
import Derived.Test.YtfmmcafccijnhaaVmN
namespace Go.Vm

variable {P : Program} {nm : Nat → Option Nat} {w : World} {F : Nat → Prop} {m : MapT} {h : Heap} {G : List Nat}

/-- An object is laid over a block that lies there already, and that no object has. -/
theorem adopt (I : Inv nm w F m h) {h' : Heap} {id g' : Nat} {o : OC} {loc : Loc} (hown : ¬ owned m loc.blk) (hF : ¬ F loc.blk)
    (hh : ∀ j, j ≠ id → h'[j]? = h[j]?) (hid : h'[id]? = some ⟨g', o⟩) (hfz : o.fz = false) (hgen : ∀ g0, (gens h)[id]? = some g0 → g0 < g')
    (ho : ∀ m' : MapT, (∀ v a, Rep nm w F m (gens h) v a → Rep nm w F m' (gens h') v a) → OCRep nm w F m' (gens h') loc o) :
    ∃ m' : MapT, m' = (fun j => if j = id then some (g', loc) else m j) ∧ Inv nm w F m' h' ∧ (∀ v a, Rep nm w F m (gens h) v a → Rep nm w F m' (gens h') v a) ∧
      (∀ (j g : Nat), (gens h)[j]? = some g → ∃ g2 : Nat, (gens h')[j]? = some g2 ∧ g ≤ g2) ∧
      (∀ (j g g0 : Nat) (l : Loc), m' j = some (g, l) → (gens h)[j]? = some g0 → g ≤ g0 → m j = some (g, l)) := by
  have hgl : ∀ (j g : Nat), (gens h)[j]? = some g → ∃ g2 : Nat, (gens h')[j]? = some g2 ∧ g ≤ g2 := by
    intro j g hj
    by_cases e : j = id
    · subst e
      exact ⟨g', by rw [gens_get, hid]; rfl, Nat.le_of_lt (hgen _ hj)⟩
    · exact ⟨g, by rw [gens_get, hh j e, ← gens_get]; exact hj, Nat.le_refl _⟩
  have hmp : ∀ (j g g0 : Nat) (l : Loc), (fun j => if j = id then some (g', loc) else m j) j = some (g, l) → (gens h)[j]? = some g0 → g ≤ g0 → m j = some (g, l) := by
    intro j g g0 l hm hg hl
    simp only at hm
    by_cases e : j = id
    · subst e
      rw [if_pos rfl] at hm
      injection hm with hm
      injection hm with h1 h2
      subst h1
      have := hgen g0 hg
      omega
    · rw [if_neg e] at hm; exact hm
  have hrep : ∀ v a, Rep nm w F m (gens h) v a → Rep nm w F (fun j => if j = id then some (g', loc) else m j) (gens h') v a := fun v a hr =>
    hr.mono (fun _ _ => rfl) (fun _ h => h) hgl hmp
  refine ⟨_, rfl, ⟨?_, ?_, ?_, ?_, I.bd⟩, hrep, hgl, hmp⟩
  · intro j g l hm
    by_cases e : j = id
    · subst e
      rw [if_pos rfl] at hm
      injection hm with hm
      injection hm with h1 h2
      subst h1; subst h2
      exact ⟨o, hid, ho _ hrep⟩
    · rw [if_neg e] at hm
      obtain ⟨o1, h1, h2⟩ := I.live j g l hm
      exact ⟨o1, by rw [hh j e]; exact h1, h2.of rfl hrep⟩
  · intro j g o1 hj hd
    by_cases e : j = id
    · subst e
      rw [hid] at hj
      injection hj with hj
      injection hj with h1 h2
      subst h1
      exact ⟨loc, by simp⟩
    · rw [hh j e] at hj
      simp only [if_neg e]
      exact I.has j g o1 hj hd
  · intro j g l j' g2 l2 hm hm2 hb
    by_cases e : j = id
    · by_cases e2 : j' = id
      · rw [e, e2]
      · rw [if_pos e] at hm
        rw [if_neg e2] at hm2
        injection hm with hm
        injection hm with h1 h2
        subst h2
        exact (hown ⟨j', g2, l2, hm2, hb.symm⟩).elim
    · by_cases e2 : j' = id
      · rw [if_neg e] at hm
        rw [if_pos e2] at hm2
        injection hm2 with hm2
        injection hm2 with h1 h2
        subst h2
        exact (hown ⟨j, g, l, hm, hb⟩).elim
      · rw [if_neg e] at hm
        rw [if_neg e2] at hm2
        exact I.inj j g l j' g2 l2 hm hm2 hb
  · intro j g l o1 hm hj
    by_cases e : j = id
    · subst e
      rw [if_pos rfl] at hm
      injection hm with hm
      injection hm with h1 h2
      subst h2
      rw [hid] at hj
      injection hj with hj
      injection hj with _ h3
      subst h3
      rw [hfz]
      exact ⟨fun hx => (Bool.false_ne_true hx).elim, fun hx => (hF hx).elim⟩
    · rw [if_neg e] at hm
      rw [hh j e] at hj
      exact I.fz j g l o1 hm hj

theorem heapOf_get {os : List OC} {j : Nat} : (heapOf os)[j]? = (os[j]?).map (⟨0, ·⟩) := by simp [heapOf]

/-- What lies in rows that are no variable names no object. -/
def rowsPure : OC → Prop
  | .arr false _ _ rows => ∀ (i : Nat) (row : List AV) (j : Nat) (l : AV), rows[i]? = some row → row[j]? = some l → Go.Vm.pure1 l = true
  | _ => True

theorem fz_pure : ∀ {k : Nat} {a : AV} {r : Fz AV}, fz h k a = some r → leaf1 a = true → Go.Vm.pure1 r.v = true
  | 0, _, _, hr, _ => by cases hr
  | k + 1, a, r, hr, hl => by
    simp only [fz] at hr
    split at hr <;> first
      | (cases hr; done)
      | cases hl
      | skip
    · split at hr
      · split at hr
        · split at hr
          · injection hr with hr; subst hr; rfl
          · cases hr
        · cases hr
      · cases hr
    · split at hr
      · split at hr
        · split at hr
          · injection hr with hr; subst hr; rfl
          · cases hr
        · cases hr
      · cases hr
    · split at hr
      · split at hr
        · injection hr with hr; subst hr; rfl
        · cases hr
      · cases hr
    · split at hr
      · rename_i hp; injection hr with hr; subst hr; exact hp
      · cases hr

/-- The objects that were moved out so far. -/
structure Exd (nm : Nat → Option Nat) (w : World) (F2 : Nat → Prop) (m m2 : MapT) (os : List OC) (used : List Nat) : Prop where
  inv : Inv nm w F2 m2 (heapOf os)
  con : ∀ o, o ∈ os → rowsPure o
  use : ∀ j g loc, m2 j = some (g, loc) → blks m used loc.blk

theorem blks_append {ids ids' : List Nat} {b : Nat} : blks m (ids ++ ids') b ↔ blks m ids b ∨ blks m ids' b := by
  constructor
  · rintro ⟨id, h1, h2⟩
    rcases List.mem_append.1 h1 with h1 | h1
    · exact .inl ⟨id, h1, h2⟩
    · exact .inr ⟨id, h1, h2⟩
  · rintro (⟨id, h1, h2⟩ | ⟨id, h1, h2⟩)
    · exact ⟨id, List.mem_append_left _ h1, h2⟩
    · exact ⟨id, List.mem_append_right _ h1, h2⟩

/-- One object more. -/
theorem Exd.add {F2 : Nat → Prop} {m2 : MapT} {os : List OC} {used : List Nat} (X : Exd nm w F2 m m2 os used) (I : Inv nm w F m h) {id g : Nat} {loc loc' : Loc} {o : OC} (hm : m id = some (g, loc)) (hb : loc'.blk = loc.blk)
    (hu : id ∉ used) (hF : ¬ F2 loc.blk) (hfz : o.fz = false) (hcon : rowsPure o)
    (ho : ∀ (m' : MapT) (G : List Nat), (∀ v a, Rep nm w F2 m2 (gens (heapOf os)) v a → Rep nm w F2 m' G v a) → OCRep nm w F2 m' G loc' o) :
    ∃ m2', Exd nm w F2 m m2' (os ++ [o]) (used ++ [id]) ∧ (∀ v a, Rep nm w F2 m2 (gens (heapOf os)) v a → Rep nm w F2 m2' (gens (heapOf (os ++ [o]))) v a) ∧ m2' os.length = some (0, loc') := by
  have hnown : ¬ owned m2 loc'.blk := by
    rintro ⟨j, g2, l2, h1, h2⟩
    obtain ⟨id2, k1, g3, l3, k2, k3⟩ := X.use j g2 l2 h1
    have : id2 = id := I.inj id2 g3 l3 id g loc k2 hm (by rw [k3, h2, hb])
    exact hu (this ▸ k1)
  obtain ⟨m', hm', hI, hrep, _, _⟩ := adopt X.inv (h' := heapOf (os ++ [o])) (id := os.length) (g' := 0) (o := o) (loc := loc') hnown (by rw [hb]; exact hF)
    (fun j hj => by
      rw [heapOf_get, heapOf_get]
      by_cases hlt : j < os.length
      · rw [List.getElem?_append_left hlt]
      · have h1 : (os ++ [o])[j]? = none := List.getElem?_eq_none (by rw [List.length_append, List.length_singleton]; omega)
        have h2 : os[j]? = none := List.getElem?_eq_none (by omega)
        rw [h1, h2])
    (by rw [heapOf_get]; simp) hfz (fun g0 hg => by rw [gens_get, heapOf_get] at hg; simp at hg) (fun m' hrep => ho m' _ hrep)
  refine ⟨m', ⟨hI, fun o' ho' => ?_, fun j g2 l2 hj => ?_⟩, hrep, by rw [hm']; simp⟩
  · rcases List.mem_append.1 ho' with ho' | ho'
    · exact X.con o' ho'
    · simp at ho'; subst ho'; exact hcon
  · rw [hm'] at hj
    simp only at hj
    split at hj
    · injection hj with hj
      injection hj with h1 h2
      subst h2
      exact blks_append.2 (.inr ⟨id, by simp, g, loc, hm, hb.symm⟩)
    · exact blks_append.2 (.inl (X.use j g2 l2 hj))

def Sep (F2 : Nat → Prop) (m : MapT) (used xs : List Nat) : Prop := xs.Nodup ∧ (∀ id, id ∈ xs → id ∉ used) ∧ ∀ id, id ∈ xs → ∀ g loc, m id = some (g, loc) → ¬ F2 loc.blk

theorem Sep.left {F2 : Nat → Prop} {used xs ys : List Nat} (hs : Sep F2 m used (xs ++ ys)) : Sep F2 m used xs :=
  ⟨(List.nodup_append.1 hs.1).1, fun id h => hs.2.1 id (List.mem_append_left _ h), fun id h => hs.2.2 id (List.mem_append_left _ h)⟩

theorem Sep.right {F2 : Nat → Prop} {used xs ys : List Nat} (hs : Sep F2 m used (xs ++ ys)) : Sep F2 m (used ++ xs) ys := by
  refine ⟨(List.nodup_append.1 hs.1).2.1, fun id h hu => ?_, fun id h => hs.2.2 id (List.mem_append_right _ h)⟩
  rcases List.mem_append.1 hu with hu | hu
  · exact hs.2.1 id (List.mem_append_right _ h) hu
  · exact (List.nodup_append.1 hs.1).2.2 id hu id h rfl

/-- What is moved out, one value or a list of them. -/
def ExS (nm : Nat → Option Nat) (w : World) (F : Nat → Prop) (m : MapT) (h : Heap) (F2 : Nat → Prop) (k : Nat) : Prop :=
  ∀ (v : Value) (a : AV) (os : List OC) (r : Ex AV) (m2 : MapT) (used : List Nat), Rep nm w F m (gens h) v a → expo h k a os = some r → Exd nm w F2 m m2 os used →
    (∀ b, FB F m r.fresh r.fs b → F2 b) → Sep F2 m used r.xs →
    ∃ m2', Exd nm w F2 m m2' r.objs (used ++ r.xs) ∧ (∀ v a, Rep nm w F2 m2 (gens (heapOf os)) v a → Rep nm w F2 m2' (gens (heapOf r.objs)) v a) ∧ Rep nm w F2 m2' (gens (heapOf r.objs)) v r.v ∧ (leaf1 a = true → leaf1 r.v = true)

theorem exFz_sound (I : Inv nm w F m h) {F2 : Nat → Prop} {v : Value} {a : AV} {os : List OC} {r : Ex AV} {m2 : MapT} {used : List Nat} (hv : Rep nm w F m (gens h) v a) (hr : exFz h a os = some r) (X : Exd nm w F2 m m2 os used)
    (hF : ∀ b, FB F m r.fresh r.fs b → F2 b) :
    ∃ m2', Exd nm w F2 m m2' r.objs (used ++ r.xs) ∧ (∀ v a, Rep nm w F2 m2 (gens (heapOf os)) v a → Rep nm w F2 m2' (gens (heapOf r.objs)) v a) ∧ Rep nm w F2 m2' (gens (heapOf r.objs)) v r.v ∧ (leaf1 a = true → leaf1 r.v = true) := by
  unfold exFz at hr
  split at hr
  · rename_i q hq
    injection hr with hr
    subst hr
    exact ⟨m2, by simpa using X, fun _ _ h => h, .pure ((fz_sound I hv hq).mono (fun _ _ => rfl) hF), fz_leaf hq⟩
  · cases hr

theorem exList_sound {F2 : Nat → Prop} {k : Nat} (H : ExS nm w F m h F2 k) : ∀ (vs : List Value) (as : List AV) (os : List OC) (r : Ex (List AV)) (m2 : MapT) (used : List Nat), vs.length = as.length →
    (∀ (j : Nat) (v : Value) (l : AV), vs[j]? = some v → as[j]? = some l → Rep nm w F m (gens h) v l) → exList (expo h k) as os = some r → Exd nm w F2 m m2 os used →
    (∀ b, FB F m r.fresh r.fs b → F2 b) → Sep F2 m used r.xs →
    ∃ m2', Exd nm w F2 m m2' r.objs (used ++ r.xs) ∧ (∀ v a, Rep nm w F2 m2 (gens (heapOf os)) v a → Rep nm w F2 m2' (gens (heapOf r.objs)) v a) ∧ vs.length = r.v.length ∧
      ∀ (j : Nat) (v : Value) (l : AV), vs[j]? = some v → r.v[j]? = some l → Rep nm w F2 m2' (gens (heapOf r.objs)) v l ∧ ∃ l0, as[j]? = some l0 ∧ (leaf1 l0 = true → leaf1 l = true)
  | [], [], os, r, m2, used, _, _, hr, X, _, _ => by
    simp only [exList] at hr
    injection hr with hr
    subst hr
    exact ⟨m2, by simpa using X, fun _ _ h => h, rfl, fun j v l hv => by simp at hv⟩
  | v :: vs, a :: as, os, r, m2, used, hl, hv, hr, X, hF, hS => by
    simp only [exList] at hr
    split at hr
    · rename_i q hq
      split at hr
      · rename_i p hp
        injection hr with hr
        subst hr
        simp only at hF hS
        obtain ⟨m3, X3, k3, r3, l3⟩ := H v a os q m2 used (hv 0 v a rfl rfl) hq X
          (fun b hb => hF b (FB_mono (fun hf => by simp at hf; exact hf.1) (fun i hi => List.mem_append_left _ hi) hb)) hS.left
        obtain ⟨m4, X4, k4, e4, r4⟩ := exList_sound H vs as q.objs p m3 (used ++ q.xs) (by simpa using hl) (fun j v l h1 h2 => hv (j + 1) v l h1 h2) hp X3
          (fun b hb => hF b (FB_mono (fun hf => by simp at hf; exact hf.2) (fun i hi => List.mem_append_right _ hi) hb)) hS.right
        refine ⟨m4, by simpa [List.append_assoc] using X4, fun v a hr => k4 v a (k3 v a hr), by simp [e4], fun j v' l h1 h2 => ?_⟩
        cases j with
        | zero => simp at h1 h2; subst h1; subst h2; exact ⟨k4 _ _ r3, a, rfl, l3⟩
        | succ j => simp at h1 h2; obtain ⟨c1, l0, c2, c3⟩ := r4 j v' l h1 h2; exact ⟨c1, l0, by simpa using c2, c3⟩
      · cases hr
    · cases hr
  | [], _ :: _, _, _, _, _, h, _, _, _, _, _ => by cases h
  | _ :: _, [], _, _, _, _, h, _, _, _, _, _ => by cases h

theorem expo_sound (I : Inv nm w F m h) (F2 : Nat → Prop) : ∀ k, ExS nm w F m h F2 k
  | 0 => fun _ _ _ _ _ _ _ hr => by cases hr
  | k + 1 => by
    intro v a os r m2 used hv hr X hF hS
    simp only [expo] at hr
    split at hr
    · cases hr
    · -- a slice
      rename_i id g es1 off len
      split at hr
      · exact exFz_sound I hv hr X hF
      · rename_i es rows hrows
        split at hr
        · rename_i hc
          split at hr
          · rename_i q hq
            injection hr with hr
            subst hr
            simp only at hF hS
            obtain ⟨loc, hm, he, hcap, cs, ty, fr, hb, hfr, hsz, hcell⟩ := I.rows hrows
            obtain ⟨ad, cap, rfl, hab, has, hes, hao, hac, hlc⟩ := hv.ls_at hm
            obtain ⟨hql, _⟩ := fzList_spec hq
            have hlen : ((rows.drop off).take len).length = len := by simp; omega
            have hqlen : q.v.length = len := by rw [hql, hlen]
            have hnF : ¬ F2 loc.blk := hS.2.2 id (by simp) g loc hm
            obtain ⟨m3, X3, k3, e3⟩ := X.add I (id := id) (g := g) (loc := loc) (loc' := ⟨loc.blk, loc.base + off * es, es, cap⟩) (o := .arr false false es q.v) hm rfl (hS.2.1 id (by simp)) hnF rfl (fun i row' j l hi hj => by
                obtain ⟨row, p, p1, p2, p3, p4, p5⟩ := fzList_get hq hi
                have hil : i < len := by rw [← hqlen]; exact (List.getElem?_eq_some_iff.1 hi).1
                rw [List.getElem?_take, if_pos hil, List.getElem?_drop] at p1
                subst p3
                obtain ⟨l0, q2, r1, r2, r3, r4, r5⟩ := fzList_get p2 hj
                subst r3
                exact fz_pure r2 ((hcell (off + i) row p1).2 j l0 r1).1) (fun m' G hrep =>
              ⟨rfl, cs, ty, fr, hb, hfr, by
                have : (off + cap) * es ≤ loc.cap * es := Nat.mul_le_mul_right _ hac
                rw [Nat.add_mul] at this
                simp only
                omega, by rw [hqlen]; exact hlc, fun i row' hi => by
                obtain ⟨row, p, p1, p2, p3, p4, p5⟩ := fzList_get hq hi
                have hil : i < len := by rw [← hqlen]; exact (List.getElem?_eq_some_iff.1 hi).1
                rw [List.getElem?_take, if_pos hil, List.getElem?_drop] at p1
                obtain ⟨b1, b2⟩ := hcell (off + i) row p1
                refine ⟨by rw [← p3, (fzList_spec p2).1]; exact b1, fun j l hj => ?_⟩
                subst p3
                obtain ⟨l0, q2, r1, r2, r3, r4, r5⟩ := fzList_get p2 hj
                obtain ⟨c1, x, c0, c2, c3⟩ := b2 j l0 r1
                subst r3
                refine ⟨fz_leaf r2 c1, x, ?_, .pure ((fz_sound I c3 r2).mono (fun _ _ => rfl) (fun b hb => hF b (FB_mono (fun hf => r4 (p4 hf)) (fun y hy => p5 y (r5 y hy)) hb)))⟩
                simp only
                rw [show loc.base + off * es + (i * es + j) = loc.base + ((off + i) * es + j) by rw [Nat.add_mul]; omega]
                exact c0⟩)
            refine ⟨m3, X3, k3, ?_, fun _ => rfl⟩
            exact .ls os.length 0 es 0 len cap ad ⟨loc.blk, loc.base + off * es, es, cap⟩ ⟨0, by rw [gens_get, heapOf_get]; simp, Nat.le_refl _⟩ (fun loc' hl => by rw [e3] at hl; injection hl with hl; injection hl with _ hl; exact hl.symm)
              hab has rfl (fun hc0 => by rw [hao hc0, he]; simp) (by simp) hlc
          · cases hr
        · cases hr
      · cases hr
    · -- a pointer
      rename_i id g i off
      split at hr
      · exact exFz_sound I hv hr X hF
      · rename_i es row hrows
        split at hr
        · rename_i hc
          obtain ⟨rfl, rfl⟩ := hc
          split at hr
          · rename_i q hq
            injection hr with hr
            subst hr
            simp only at hF hS
            obtain ⟨loc, hm, he, hcap, cs, ty, fr, hb, hfr, hsz, hcell⟩ := I.rows hrows
            have hp := hv.lp_at hm
            subst hp
            have hnF : ¬ F2 loc.blk := hS.2.2 id (by simp) g loc hm
            have hrow := hcell 0 row rfl
            have hvs : ∃ vs : List Value, vs.length = row.length ∧ (∀ (j : Nat) (x : Value), vs[j]? = some x → cs[loc.base + j]? = some x) ∧ ∀ (j : Nat) (v : Value) (l : AV), vs[j]? = some v → row[j]? = some l → Rep nm w F m (gens h) v l := by
              refine ⟨(List.range row.length).map fun j => (cs[loc.base + j]?).getD undef, by simp, fun j x hx => ?_, fun j x l hx hl => ?_⟩
              · have hj : j < row.length := by have := (List.getElem?_eq_some_iff.1 hx).1; simpa using this
                obtain ⟨_, y, hy, _, _⟩ := hrow.2 j _ (List.getElem?_eq_getElem hj)
                simp [hj] at hx
                simp at hy
                rw [hy] at hx ⊢
                simp at hx
                rw [hx]
              · have hj : j < row.length := (List.getElem?_eq_some_iff.1 hl).1
                obtain ⟨_, y, hy, _, hrep⟩ := hrow.2 j l hl
                simp [hj] at hx
                simp at hy
                rw [hy] at hx
                simp at hx
                rw [← hx]
                exact hrep
            obtain ⟨vs, hvl, hvc, hvr⟩ := hvs
            have hS2 : Sep F2 m used q.xs := by
              have : id :: q.xs = [id] ++ q.xs := rfl
              rw [this] at hS
              exact ⟨(List.nodup_append.1 hS.1).2.1, fun x hx => hS.2.1 x (List.mem_append_right _ hx), fun x hx => hS.2.2 x (List.mem_append_right _ hx)⟩
            obtain ⟨m3, X3, k3, e3, r3⟩ := exList_sound (expo_sound I F2 k) vs row os q m2 used hvl hvr hq X hF hS2
            have hidn : id ∉ used ++ q.xs := by
              intro hx
              rcases List.mem_append.1 hx with hx | hx
              · exact hS.2.1 id (by simp) hx
              · exact (List.nodup_cons.1 hS.1).1 hx
            obtain ⟨m4, X4, k4, e4⟩ := X3.add I (id := id) (g := g) (loc := loc) (loc' := loc) (o := .arr true false es [q.v]) hm rfl hidn hnF rfl trivial (fun m' G hrep =>
              ⟨he, cs, ty, fr, hb, hfr, hsz, by simpa using hcap, fun i row' hi => by
                cases i with
                | succ i => simp at hi
                | zero =>
                  simp at hi
                  subst hi
                  refine ⟨by rw [← e3, hvl]; exact hrow.1, fun j l hj => ?_⟩
                  have hj2 : j < vs.length := by rw [e3]; exact (List.getElem?_eq_some_iff.1 hj).1
                  obtain ⟨c1, l0, c2, c3⟩ := r3 j _ l (List.getElem?_eq_getElem hj2) hj
                  obtain ⟨d1, _⟩ := hrow.2 j l0 c2
                  exact ⟨c3 d1, _, by simpa using hvc j _ (List.getElem?_eq_getElem hj2), hrep _ _ c1⟩⟩)
            have hperm : Exd nm w F2 m m4 (q.objs ++ [.arr true false es [q.v]]) (used ++ id :: q.xs) := ⟨X4.inv, X4.con, fun j g2 l2 hj => by
              obtain ⟨x, x1, x2⟩ := X4.use j g2 l2 hj
              refine ⟨x, ?_, x2⟩
              simp at x1 ⊢
              rcases x1 with x1 | x1 | x1
              · exact .inl x1
              · exact .inr (.inr x1)
              · exact .inr (.inl x1)⟩
            refine ⟨m4, hperm, fun v a hr => k4 v a (k3 v a hr), ?_, fun _ => rfl⟩
            have := Rep.lp (nm := nm) (w := w) (F := F2) (m := m4) (G := gens (heapOf (q.objs ++ [.arr true false es [q.v]]))) q.objs.length 0 0 0 loc ⟨0, by rw [gens_get, heapOf_get]; simp, Nat.le_refl _⟩
              (fun loc' hl => by rw [e4] at hl; injection hl with hl; injection hl with _ hl; exact hl.symm)
            exact this
          · cases hr
        · cases hr
      · cases hr
    · -- a map
      rename_i id g
      split at hr
      · exact exFz_sound I hv hr X hF
      · rename_i es hes
        split at hr
        · rename_i q hq
          injection hr with hr
          subst hr
          simp only at hF hS
          obtain ⟨loc, hm, mes, clock, hh, hn, hp⟩ := mapAt_rep I hes
          have hnF : ¬ F2 loc.blk := hS.2.2 id (by simp) g loc hm
          rw [hv.lm_at hm]
          obtain ⟨m3, X3, k3, e3⟩ := X.add I (id := id) (g := g) (loc := loc) (loc' := loc) (o := .map false q.v) hm rfl (hS.2.1 id (by simp)) hnF rfl trivial (fun m' G hrep =>
            ⟨mes, clock, hh, by rw [(fzList_spec hq).1]; exact hn, fun i e p he hp2 => by
              obtain ⟨p0, q2, r1, r2, r3, r4, r5⟩ := fzList_get hq hp2
              obtain ⟨k1, k2⟩ := hp i e p0 he r1
              unfold fzEnt at r2
              split at r2
              · rename_i fa fb hfa hfb
                injection r2 with r2
                subst r2
                subst r3
                exact ⟨.pure ((fz_sound I k1 hfa).mono (fun _ _ => rfl) (fun b hb => hF b (FB_mono (fun hf => by have := r4 hf; simp at this; exact this.1) (fun y hy => r5 y (by simp [hy])) hb))),
                  .pure ((fz_sound I k2 hfb).mono (fun _ _ => rfl) (fun b hb => hF b (FB_mono (fun hf => by have := r4 hf; simp at this; exact this.2) (fun y hy => r5 y (by simp [hy])) hb)))⟩
              · cases r2⟩)
          refine ⟨m3, X3, k3, ?_, fun _ => rfl⟩
          exact .lm os.length 0 loc ⟨0, by rw [gens_get, heapOf_get]; simp, Nat.le_refl _⟩ (fun loc' hl => by rw [e3] at hl; injection hl with hl; injection hl with _ hl; exact hl.symm)
        · cases hr
      · cases hr
    · -- a struct
      rename_i cs
      split at hr
      · rename_i q hq
        injection hr with hr
        subst hr
        obtain ⟨vs, rfl, hn, hrep⟩ := hv.agg_inv
        obtain ⟨m3, X3, k3, e3, r3⟩ := exList_sound (expo_sound I F2 k) vs.toList cs os q m2 used (by simpa using hn) (fun j v l h1 h2 => hrep j v l (by simpa using h1) h2) hq X hF hS
        exact ⟨m3, X3, k3, .agg vs q.v (by simpa using e3) (fun j v l h1 h2 => (r3 j v l (by simpa using h1) h2).1), fun hl => by cases hl⟩
      · cases hr
    · -- several
      rename_i cs
      split at hr
      · rename_i q hq
        injection hr with hr
        subst hr
        obtain ⟨vs, rfl, hn, hrep⟩ := hv.tup_inv
        obtain ⟨m3, X3, k3, e3, r3⟩ := exList_sound (expo_sound I F2 k) vs.toList cs os q m2 used (by simpa using hn) (fun j v l h1 h2 => hrep j v l (by simpa using h1) h2) hq X hF hS
        exact ⟨m3, X3, k3, .tup vs q.v (by simpa using e3) (fun j v l h1 h2 => (r3 j v l (by simpa using h1) h2).1), fun hl => by cases hl⟩
      · cases hr
    · split at hr
      · rename_i hp
        injection hr with hr
        subst hr
        simp only at hF
        refine ⟨m2, by simpa using X, fun _ _ h => h, .pure ?_, fun hl => hl⟩
        have h1 := hv.pure1 hp
        cases hs : scalar1 a with
        | true => exact h1.scalar hs
        | false => exact h1.mono (fun _ _ => rfl) (fun b hb => hF b (.inl ⟨hs, hb⟩))
      · cases hr

end Go.Vm
