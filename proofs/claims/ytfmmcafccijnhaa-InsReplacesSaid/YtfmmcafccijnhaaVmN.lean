/- The value machine: values made ones that are only read; values moved out of a callee's heap. -/
import Derived.Test.YtfmmcafccijnhaaVmM
namespace Go.Vm

variable {P : Program} {nm : Nat → Option Nat} {w : World} {F : Nat → Prop} {m : MapT} {h : Heap} {G : List Nat}

/-- The blocks of these objects. -/
def blks (m : MapT) (ids : List Nat) (b : Nat) : Prop := ∃ id, id ∈ ids ∧ ∃ g loc, m id = some (g, loc) ∧ loc.blk = b

/-- Where what was made read-only may lie. -/
def FB (F : Nat → Prop) (m : MapT) (fresh : Bool) (ids : List Nat) (b : Nat) : Prop := (fresh = false ∧ F b) ∨ blks m ids b

theorem blks_mono {ids ids' : List Nat} (h : ∀ i, i ∈ ids → i ∈ ids') {b : Nat} (hb : blks m ids b) : blks m ids' b := by
  obtain ⟨id, h1, h2⟩ := hb
  exact ⟨id, h id h1, h2⟩

theorem FB_mono {fr fr' : Bool} {ids ids' : List Nat} (hf : fr' = true → fr = true) (h : ∀ i, i ∈ ids → i ∈ ids') {b : Nat} (hb : FB F m fr ids b) : FB F m fr' ids' b := by
  rcases hb with ⟨h1, h2⟩ | hb
  · refine .inl ⟨?_, h2⟩
    cases fr' with
    | false => rfl
    | true => rw [hf rfl] at h1; cases h1
  · exact .inr (blks_mono h hb)

theorem fzList_spec {α β : Type} {f : α → Option (Fz β)} : ∀ {xs : List α} {r : Fz (List β)}, fzList f xs = some r →
    r.v.length = xs.length ∧ ∀ (j : Nat) (x : α), xs[j]? = some x → ∃ q, f x = some q ∧ r.v[j]? = some q.v ∧ (r.fresh = true → q.fresh = true) ∧ ∀ i, i ∈ q.ids → i ∈ r.ids
  | [], r, h => by
    simp only [fzList] at h
    injection h with h
    subst h
    exact ⟨rfl, fun j x hx => by simp at hx⟩
  | x :: xs, r, h => by
    simp only [fzList] at h
    split at h
    · rename_i a b ha hb
      injection h with h
      subst h
      obtain ⟨h1, h2⟩ := fzList_spec hb
      refine ⟨by simp [h1], fun j y hy => ?_⟩
      cases j with
      | zero =>
        simp at hy
        subst hy
        exact ⟨a, ha, rfl, fun hf => by simp at hf; exact hf.1, fun i hi => by simp [hi]⟩
      | succ j =>
        simp at hy
        obtain ⟨q, q1, q2, q3, q4⟩ := h2 j y hy
        exact ⟨q, q1, by simpa using q2, fun hf => q3 (by simp at hf; exact hf.2), fun i hi => by simp [q4 i hi]⟩
    · cases h

theorem fzList_get {α β : Type} {f : α → Option (Fz β)} {xs : List α} {r : Fz (List β)} (h : fzList f xs = some r) {j : Nat} {y : β} (hy : r.v[j]? = some y) :
    ∃ x q, xs[j]? = some x ∧ f x = some q ∧ q.v = y ∧ (r.fresh = true → q.fresh = true) ∧ ∀ i, i ∈ q.ids → i ∈ r.ids := by
  obtain ⟨h1, h2⟩ := fzList_spec h
  have hj : j < xs.length := by rw [← h1]; exact (List.getElem?_eq_some_iff.1 hy).1
  obtain ⟨q, q1, q2, q3, q4⟩ := h2 j _ (List.getElem?_eq_getElem hj)
  rw [hy] at q2
  injection q2 with q2
  exact ⟨_, q, List.getElem?_eq_getElem hj, q1, q2.symm, q3, q4⟩

theorem fz_leaf : ∀ {k : Nat} {a : AV} {r : Fz AV}, fz h k a = some r → leaf1 a = true → leaf1 r.v = true
  | 0, _, _, hr, _ => by cases hr
  | k + 1, a, r, hr, hl => by
    simp only [fz] at hr
    split at hr <;> first
      | (cases hr; done)
      | cases hl
      | skip
    · split at hr
      · split at hr
        · split at hr
          · injection hr with hr; subst hr; rfl
          · cases hr
        · cases hr
      · cases hr
    · split at hr
      · split at hr
        · split at hr
          · injection hr with hr; subst hr; rfl
          · cases hr
        · cases hr
      · cases hr
    · split at hr
      · split at hr
        · injection hr with hr; subst hr; rfl
        · cases hr
      · cases hr
    · split at hr
      · injection hr with hr; subst hr; exact hl
      · cases hr

/-- A value that names no object, as one that is only read. -/
theorem Rep.pure1 {v : Value} {a : AV} (hv : Rep nm w F m G v a) (hp : Go.Vm.pure1 a = true) : PRep nm w F v a := by
  cases hv with
  | pure h => exact h
  | undef => cases hp
  | lp => cases hp
  | ls => cases hp
  | lm => cases hp
  | agg => cases hp
  | tup => cases hp
  | fn f key caps cs hk hn hr =>
    have hcs : cs = [] := by simpa [Go.Vm.pure1] using hp
    subst hcs
    have hc : caps = #[] := Array.eq_empty_of_size_eq_zero hn
    subst hc
    exact .fn f key hk

theorem PRep.scalar {v : Value} {a : AV} {F' : Nat → Prop} (hv : PRep nm w F v a) (hs : scalar1 a = true) : PRep nm w F' v a := by
  cases hv with
  | int => exact .int _ _
  | bool => exact .bool _
  | str => exact .str _
  | nilp => exact .nilp
  | nils => exact .nils
  | nilm => exact .nilm
  | rp a cs f h1 hc hr =>
    have : cs = [] := by simpa [scalar1] using hs
    subst this
    exact .rp a [] f h1 (fun j l hl => by simp at hl) (fun j l hl => by simp at hl)
  | rs a cap es rows f h1 h2 h3 h4 h5 =>
    have : rows = [] := by simpa [scalar1] using hs
    subst this
    exact .rs a cap es [] f h1 h2 (fun i row hi => by simp at hi) (fun i row j l hi => by simp at hi) (fun i row j l hi => by simp at hi)
  | rm => cases hs
  | agg => cases hs
  | tup => cases hs
  | fn f key h => exact .fn f key h

theorem blks_cons {id g : Nat} {loc : Loc} {ids : List Nat} (hm : m id = some (g, loc)) : blks m (id :: ids) loc.blk := ⟨id, by simp, g, loc, hm, rfl⟩

theorem fz_sound (I : Inv nm w F m h) : ∀ {k : Nat} {v : Value} {a : AV} {r : Fz AV}, Rep nm w F m (gens h) v a → fz h k a = some r → PRep nm w (FB F m r.fresh r.ids) v r.v
  | 0, _, _, _, _, hr => by cases hr
  | k + 1, v, a, r, hv, hr => by
    simp only [fz] at hr
    split at hr
    · cases hr
    · -- a slice
      rename_i id g es1 off len
      split at hr
      · rename_i fz0 es rows hrows
        split at hr
        · rename_i hc
          split at hr
          · rename_i q hq
            injection hr with hr
            subst hr
            obtain ⟨loc, hm, he, hcap, cs, ty, fr, hb, hfr, hsz, hcell⟩ := I.rows hrows
            obtain ⟨ad, cap, rfl, hab, has, hes, hao, hac, hlc⟩ := hv.ls_at hm
            obtain ⟨hql, hqs⟩ := fzList_spec hq
            have hlen : ((rows.drop off).take len).length = len := by simp; omega
            have hqlen : q.v.length = len := by rw [hql, hlen]
            have key : ∀ (i : Nat) (row' : List AV), q.v[i]? = some row' → i < len ∧ ∃ row p, rows[off + i]? = some row ∧ fzList (fz h k) row = some p ∧ p.v = row' ∧ (q.fresh = true → p.fresh = true) ∧ ∀ x, x ∈ p.ids → x ∈ q.ids := by
              intro i row' hi
              obtain ⟨row, p, p1, p2, p3, p4, p5⟩ := fzList_get hq hi
              have hil : i < len := by rw [← hqlen]; exact (List.getElem?_eq_some_iff.1 hi).1
              rw [List.getElem?_take, if_pos hil, List.getElem?_drop] at p1
              exact ⟨hil, row, p, p1, p2, p3, p4, p5⟩
            have cell : ∀ (i : Nat) (row' : List AV) (j : Nat) (l : AV), q.v[i]? = some row' → row'[j]? = some l → 0 < cap ∧ leaf1 l = true ∧ ∃ x, w.cell? ⟨ad.block, ad.off + (i * es + j), none⟩ = some x ∧ PRep nm w (FB F m q.fresh (id :: q.ids)) x l := by
              intro i row' j l hi hj
              obtain ⟨hil, row, p, p1, p2, p3, p4, p5⟩ := key i row' hi
              subst p3
              obtain ⟨l0, q2, r1, r2, r3, r4, r5⟩ := fzList_get p2 hj
              obtain ⟨c1, x, _, c2, c3⟩ := (hcell (off + i) row p1).2 j l0 r1
              subst r3
              have hcp : 0 < cap := by omega
              refine ⟨hcp, fz_leaf r2 c1, x, ?_, (fz_sound I c3 r2).mono (fun _ _ => rfl) (fun b hb => FB_mono (fun hf => r4 (p4 hf)) (fun y hy => by simp [p5 y (r5 y hy)]) hb)⟩
              rw [hab, hao hcp, he, show loc.base + off * es + (i * es + j) = loc.base + ((off + i) * es + j) by rw [Nat.add_mul]; omega]
              exact c2
            have := PRep.rs (nm := nm) (w := w) (F := FB F m q.fresh (id :: q.ids)) ad cap es q.v (fun i j => (w.cell? ⟨ad.block, ad.off + (i * es + j), none⟩).getD undef) (fun _ => has) (by omega) (fun i row' hi => by
                obtain ⟨hil, row, p, p1, p2, p3, _, _⟩ := key i row' hi
                rw [← p3, (fzList_spec p2).1]
                exact (hcell _ row p1).1)
              (fun i row' j l hi hj => by
                obtain ⟨_, c1, x, c2, c3⟩ := cell i row' j l hi hj
                exact ⟨.inr (by rw [hab]; exact blks_cons hm), c1, by rw [c2]; rfl⟩)
              (fun i row' j l hi hj => by
                obtain ⟨_, c1, x, c2, c3⟩ := cell i row' j l hi hj
                rw [c2]; exact c3)
            rw [hqlen] at this
            exact this
          · cases hr
        · cases hr
      · cases hr
    · -- a pointer
      rename_i id g i off
      split at hr
      · rename_i fz0 es rows hrows
        split at hr
        · rename_i row hrow
          split at hr
          · rename_i q hq
            injection hr with hr
            subst hr
            obtain ⟨loc, hm, he, hcap, cs, ty, fr, hb, hfr, hsz, hcell⟩ := I.rows hrows
            have hp := hv.lp_at hm
            subst hp
            have cell : ∀ (j : Nat) (l : AV), q.v[j]? = some l → leaf1 l = true ∧ ∃ x, w.cell? ⟨loc.blk, loc.base + i * loc.es + off + j, none⟩ = some x ∧ PRep nm w (FB F m q.fresh (id :: q.ids)) x l := by
              intro j l hj
              obtain ⟨l0, q2, r1, r2, r3, r4, r5⟩ := fzList_get hq hj
              rw [List.getElem?_drop] at r1
              obtain ⟨c1, x, _, c2, c3⟩ := (hcell i row hrow).2 (off + j) l0 r1
              subst r3
              refine ⟨fz_leaf r2 c1, x, ?_, (fz_sound I c3 r2).mono (fun _ _ => rfl) (fun b hb => FB_mono r4 (fun y hy => by simp [r5 y hy]) hb)⟩
              rw [he, show loc.base + i * es + off + j = loc.base + (i * es + (off + j)) by omega]
              exact c2
            exact .rp _ q.v (fun j => (w.cell? ⟨loc.blk, loc.base + i * loc.es + off + j, none⟩).getD undef) rfl
              (fun j l hj => by
                obtain ⟨c1, x, c2, c3⟩ := cell j l hj
                exact ⟨.inr (blks_cons hm), c1, by rw [c2]; rfl⟩)
              (fun j l hj => by
                obtain ⟨c1, x, c2, c3⟩ := cell j l hj
                rw [c2]; exact c3)
          · cases hr
        · cases hr
      · cases hr
    · -- a map
      rename_i id g
      split at hr
      · rename_i fz0 es hes
        split at hr
        · rename_i q hq
          injection hr with hr
          subst hr
          obtain ⟨loc, hm, mes, clock, hh, hn, hp⟩ := mapAt_rep I hes
          rw [hv.lm_at hm]
          obtain ⟨hql, _⟩ := fzList_spec hq
          have ent : ∀ (i : Nat) (e : MapEntry) (p : AV × AV), mes[i]? = some e → q.v[i]? = some p → PRep nm w (FB F m q.fresh (id :: q.ids)) e.key p.1 ∧ PRep nm w (FB F m q.fresh (id :: q.ids)) e.val p.2 := by
            intro i e p he hp2
            obtain ⟨p0, q2, r1, r2, r3, r4, r5⟩ := fzList_get hq hp2
            obtain ⟨k1, k2⟩ := hp i e p0 he r1
            split at r2
            · rename_i fa fb hfa hfb
              injection r2 with r2
              subst r2
              subst r3
              exact ⟨(fz_sound I k1 hfa).mono (fun _ _ => rfl) (fun b hb => FB_mono (fun hf => by have := r4 hf; simp at this; exact this.1) (fun y hy => by simp [r5 y (by simp [hy])]) hb),
                (fz_sound I k2 hfb).mono (fun _ _ => rfl) (fun b hb => FB_mono (fun hf => by have := r4 hf; simp at this; exact this.2) (fun y hy => by simp [r5 y (by simp [hy])]) hb)⟩
            · cases r2
          exact .rm loc.blk mes clock q.v (.inr (blks_cons hm)) hh (by rw [hql]; exact hn) (fun i e p h1 h2 => (ent i e p h1 h2).1) (fun i e p h1 h2 => (ent i e p h1 h2).2)
        · cases hr
      · cases hr
    · -- a struct
      rename_i cs
      split at hr
      · rename_i q hq
        injection hr with hr
        subst hr
        obtain ⟨vs, rfl, hn, hrep⟩ := hv.agg_inv
        refine .agg vs q.v (by rw [(fzList_spec hq).1]; exact hn) (fun j x l hx hl => ?_)
        obtain ⟨l0, q2, r1, r2, r3, r4, r5⟩ := fzList_get hq hl
        subst r3
        exact (fz_sound I (hrep j x l0 hx r1) r2).mono (fun _ _ => rfl) (fun b hb => FB_mono r4 r5 hb)
      · cases hr
    · -- several
      rename_i cs
      split at hr
      · rename_i q hq
        injection hr with hr
        subst hr
        obtain ⟨vs, rfl, hn, hrep⟩ := hv.tup_inv
        refine .tup vs q.v (by rw [(fzList_spec hq).1]; exact hn) (fun j x l hx hl => ?_)
        obtain ⟨l0, q2, r1, r2, r3, r4, r5⟩ := fzList_get hq hl
        subst r3
        exact (fz_sound I (hrep j x l0 hx r1) r2).mono (fun _ _ => rfl) (fun b hb => FB_mono r4 r5 hb)
      · cases hr
    · split at hr
      · rename_i hp
        injection hr with hr
        subst hr
        have h1 := hv.pure1 hp
        cases hs : scalar1 a with
        | true => exact h1.scalar hs
        | false => exact h1.mono (fun _ _ => rfl) (fun b hb => .inl ⟨rfl, hb⟩)
      · cases hr

/-- A list of arguments made read-only. -/
theorem fzArgs_sound (I : Inv nm w F m h) {k : Nat} {vs : List Value} {as : List AV} {r : Fz (List AV)} (hn : vs.length = as.length) (hv : ∀ (j : Nat) (v : Value) (l : AV), vs[j]? = some v → as[j]? = some l → Rep nm w F m (gens h) v l)
    (hr : fzList (fz h k) as = some r) : vs.length = r.v.length ∧ ∀ (j : Nat) (v : Value) (l : AV), vs[j]? = some v → r.v[j]? = some l → PRep nm w (FB F m r.fresh r.ids) v l := by
  refine ⟨by rw [(fzList_spec hr).1]; exact hn, fun j v l h1 h2 => ?_⟩
  obtain ⟨l0, q, r1, r2, r3, r4, r5⟩ := fzList_get hr h2
  subst r3
  exact (fz_sound I (hv j v l0 h1 r1) r2).mono (fun _ _ => rfl) (fun b hb => FB_mono r4 r5 hb)

end Go.Vm
