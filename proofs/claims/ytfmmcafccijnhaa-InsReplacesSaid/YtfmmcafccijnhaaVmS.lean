/- The value machine: what an operation looks at and turns is all that matters to it. -/
import Derived.Test.YtfmmcafccijnhaaVmP
namespace Go.Vm

/-- What an operation looks at, of the temporaries. -/
def COp.opds : COp → List Opd
  | .mv x | .box _ x | .ld _ _ x | .nilchk x | .un _ x | .cvi _ x | .s2b _ x | .b2s x | .fa _ x | .fld _ _ _ x | .ext _ x | .len _ x | .mclr x => [x]
  | .new .. | .mkm _ => []
  | .pick c a b => [c, a, b]
  | .build _ parts => parts.map (·.2.2)
  | .buildS _ _ _ _ parts => parts.map (·.2)
  | .st _ a v => [a, v]
  | .bin _ x y | .eqn _ _ x y | .eqa _ _ x y | .eqb _ x y | .ixs _ x y | .ixa _ _ x y | .ixv _ _ _ x y | .ixstr x y | .app _ _ _ x y | .cpy _ x y | .minmax _ x y => [x, y]
  | .mkS _ _ _ _ l c => [l, c]
  | .slc _ x lo hi | .sls x lo hi => x :: lo.toList ++ hi.toList
  | .call _ _ _ args => args
  | .callv _ _ f args => f :: args
  | .mkf _ caps => caps
  | .mget _ _ _ _ x k | .mdel _ _ x k => [x, k]
  | .mput _ _ m k v => [m, k, v]

theorem map_ev {t t2 : Tmps} (l : List Opd) (h : ∀ x, x ∈ l → x.ev t = x.ev t2) : l.map (·.ev t) = l.map (·.ev t2) := List.map_congr_left h

theorem optIx_ev {t t2 : Tmps} {o : Option Opd} (h : ∀ x, x ∈ o.toList → x.ev t = x.ev t2) (hi d : Nat) : optIx t hi d o = optIx t2 hi d o := by
  cases o with
  | none => rfl
  | some x => simp only [optIx]; rw [h x (by simp)]

theorem evOp_congr {E : Env} {C : Calls2} {fb : Nat} {t t2 : Tmps} {h : Heap} {op : COp} (hs : ∀ x, x ∈ op.opds → x.ev t = x.ev t2) : evOp E C fb t h op = evOp E C fb t2 h op := by
  cases op
  case build zero parts =>
    have : (parts.map fun p => (p.1, p.2.1, p.2.2.ev t)) = parts.map fun p => (p.1, p.2.1, p.2.2.ev t2) :=
      List.map_congr_left fun p hp => by rw [hs p.2.2 (List.mem_map.2 ⟨p, hp, rfl⟩)]
    simp only [evOp, this]
  case buildS sl es len zero parts =>
    have : (parts.map fun p => (p.1, p.2.ev t)) = parts.map fun p => (p.1, p.2.ev t2) :=
      List.map_congr_left fun p hp => by rw [hs p.2 (List.mem_map.2 ⟨p, hp, rfl⟩)]
    simp only [evOp, this]
  case call sl ro f args => simp only [evOp, map_ev args hs]
  case callv sl ro f args =>
    simp only [evOp, map_ev args (fun x hx => hs x (List.mem_cons_of_mem _ hx)), hs f (List.mem_cons_self ..)]
  case mkf f caps => simp only [evOp, map_ev caps hs]
  case slc es x lo hi =>
    simp only [COp.opds, List.cons_append, List.mem_cons, List.mem_append] at hs
    have h1 : ∀ hi' d, optIx t hi' d lo = optIx t2 hi' d lo := optIx_ev fun y hy => hs y (.inr (.inl hy))
    have h2 : ∀ hi' d, optIx t hi' d hi = optIx t2 hi' d hi := optIx_ev fun y hy => hs y (.inr (.inr hy))
    simp only [evOp, h1, h2, hs x (.inl rfl)]
  case sls x lo hi =>
    simp only [COp.opds, List.cons_append, List.mem_cons, List.mem_append] at hs
    have h1 : ∀ hi' d, optIx t hi' d lo = optIx t2 hi' d lo := optIx_ev fun y hy => hs y (.inr (.inl hy))
    have h2 : ∀ hi' d, optIx t hi' d hi = optIx t2 hi' d hi := optIx_ev fun y hy => hs y (.inr (.inr hy))
    simp only [evOp, h1, h2, hs x (.inl rfl)]
  all_goals
    simp only [COp.opds, List.mem_cons, List.not_mem_nil, or_false, forall_eq_or_imp, forall_eq] at hs
    simp only [evOp, hs]

/-- An operation that looks at no memory and turns none. -/
def COp.isT : COp → Bool
  | .mv _ | .pick .. | .build .. | .nilchk _ | .bin .. | .eqn .. | .eqa .. | .eqb .. | .un .. | .cvi .. | .slc .. | .ixs .. | .sls .. | .fa .. | .fld .. | .ixa .. | .ixv .. | .ixstr ..
  | .ext .. | .minmax .. | .mkf .. => true
  | _ => false

/-- An operation that turns no memory. -/
def COp.isL : COp → Bool
  | .ld .. | .b2s _ | .len .. | .mget .. => true
  | _ => false

theorem fpOf_isT {E : Env} {C : Calls2} {fb : Nat} {t : Tmps} {h : Heap} {op : COp} (hT : op.isT = true) : fpOf E C fb t h op = some ([], []) := by
  cases op <;> first | exact absurd hT Bool.false_ne_true | rfl

theorem fpOf_isL {E : Env} {C : Calls2} {fb : Nat} {t : Tmps} {h : Heap} {op : COp} {f : List Nat × List Nat} (hT : op.isL = true) (hf : fpOf E C fb t h op = some f) : f.2 = [] := by
  cases op <;> first | exact absurd hT Bool.false_ne_true | (simp only [fpOf] at hf; injection hf with hf; rw [← hf])

theorem evOp_isT {E : Env} {C : Calls2} {fb : Nat} {t : Tmps} {h : Heap} {op : COp} (hT : op.isT = true) : evOp E C fb t h op = (evOp E C fb t [] op).map fun r => (r.1, h) := by
  cases op <;> first | exact absurd hT Bool.false_ne_true | skip
  all_goals
    simp only [evOp]
    try (repeat' split) <;> simp_all [Option.map_map, Function.comp_def]

theorem objAt_local {h h2 : Heap} {id : Nat} (e : h2[id]? = h[id]?) (g : Nat) : objAt h2 id g = objAt h id g := by simp only [objAt, e]

theorem rowsAt_local {h h2 : Heap} {id : Nat} (e : h2[id]? = h[id]?) (g : Nat) : rowsAt h2 id g = rowsAt h id g := by simp only [rowsAt, objAt_local e]

theorem mapAt_local {h h2 : Heap} {id : Nat} (e : h2[id]? = h[id]?) (g : Nat) : mapAt h2 id g = mapAt h id g := by simp only [mapAt, objAt_local e]

theorem evLd_local {h h2 : Heap} {a : AV} (e : ∀ id, id ∈ ids1 a → h2[id]? = h[id]?) (agg : Bool) (n : Nat) : evLd agg n a h2 = evLd agg n a h := by
  cases a <;> simp only [evLd]
  rename_i id g i off
  rw [rowsAt_local (e id (by simp [ids1]))]

theorem rowsOf_local {h h2 : Heap} {a : AV} (e : ∀ id, id ∈ ids1 a → h2[id]? = h[id]?) (es : Nat) : rowsOf h2 es a = rowsOf h es a := by
  cases a <;> simp only [rowsOf]
  rename_i id g es' off len
  rw [rowsAt_local (e id (by simp [ids1]))]

theorem evLen_local {h h2 : Heap} {a : AV} (e : ∀ id, id ∈ ids1 a → h2[id]? = h[id]?) (k : Nat) : evLen k a h2 = evLen k a h := by
  unfold evLen
  split <;> first | rfl | (rw [mapAt_local (e _ (by simp [ids1]))])

theorem evMget_local {h h2 : Heap} {x : AV} (e : ∀ id, id ∈ ids1 x → h2[id]? = h[id]?) (agg : Bool) (ks : List Nat) (zero : AV) (ok : Bool) (k : AV) : evMget agg ks zero ok x k h2 = evMget agg ks zero ok x k h := by
  cases x <;> simp only [evMget]
  rename_i id g
  rw [mapAt_local (e id (by simp [ids1]))]

theorem fzList_local {α β : Type} {f f2 : α → Option (Fz β)} {ok : Nat → Prop} (hf : ∀ x r, f x = some r → (∀ id, id ∈ r.ids → ok id) → f2 x = some r) :
    ∀ (xs : List α) (r : Fz (List β)), fzList f xs = some r → (∀ id, id ∈ r.ids → ok id) → fzList f2 xs = some r
  | [], r, h, _ => by simpa [fzList] using h
  | x :: xs, r, h, hk => by
    simp only [fzList] at h
    split at h
    · rename_i a b ha hb
      injection h with h
      subst h
      simp only [List.mem_append] at hk
      simp only [fzList, hf x a ha (fun id hi => hk id (.inl hi)), fzList_local hf xs b hb (fun id hi => hk id (.inr hi))]
    · cases h

theorem fz_local {h h2 : Heap} : ∀ (k : Nat) (v : AV) (r : Fz AV), fz h k v = some r → (∀ id, id ∈ r.ids → h2[id]? = h[id]?) → fz h2 k v = some r := by
  intro k
  induction k with
  | zero => intro v r hx _; simp [fz] at hx
  | succ k ih =>
    intro v r hx hk
    cases v
    case ls id g es1 off len =>
      simp only [fz] at hx ⊢
      split at hx
      · rename_i es rows hro
        split at hx
        · rename_i hc
          split at hx
          · rename_i q hq
            injection hx with hx
            subst hx
            simp only [List.mem_cons] at hk
            rw [rowsAt_local (hk id (.inl rfl)), hro]
            simp only
            rw [if_pos hc, fzList_local (ok := fun id => h2[id]? = h[id]?) (fun x r => fzList_local (ok := fun id => h2[id]? = h[id]?) ih x r) _ _ hq (fun i hi => hk i (.inr hi))]
          · cases hx
        · cases hx
      · cases hx
    case lp id g i off =>
      simp only [fz] at hx ⊢
      split at hx
      · rename_i es rows hro
        split at hx
        · rename_i row hrow
          split at hx
          · rename_i q hq
            injection hx with hx
            subst hx
            simp only [List.mem_cons] at hk
            rw [rowsAt_local (hk id (.inl rfl)), hro]
            simp only
            rw [hrow]
            simp only
            rw [fzList_local (ok := fun id => h2[id]? = h[id]?) ih _ _ hq (fun i hi => hk i (.inr hi))]
          · cases hx
        · cases hx
      · cases hx
    case lm id g =>
      simp only [fz] at hx ⊢
      split at hx
      · rename_i b es hro
        split at hx
        · rename_i q hq
          injection hx with hx
          subst hx
          simp only [List.mem_cons] at hk
          rw [mapAt_local (hk id (.inl rfl)), hro]
          simp only
          rw [fzList_local (ok := fun id => h2[id]? = h[id]?) (fun x r hr hk' => by
            split at hr
            · rename_i a b ha hb
              injection hr with hr
              subst hr
              simp only [List.mem_append] at hk'
              rw [ih _ _ ha (fun i hi => hk' i (.inl hi)), ih _ _ hb (fun i hi => hk' i (.inr hi))]
            · cases hr) _ _ hq (fun i hi => hk i (.inr hi))]
        · cases hx
      · cases hx
    case agg cs =>
      simp only [fz] at hx ⊢
      split at hx
      · rename_i q hq
        injection hx with hx
        subst hx
        rw [fzList_local (ok := fun id => h2[id]? = h[id]?) ih _ _ hq hk]
      · cases hx
    case tup cs =>
      simp only [fz] at hx ⊢
      split at hx
      · rename_i q hq
        injection hx with hx
        subst hx
        rw [fzList_local (ok := fun id => h2[id]? = h[id]?) ih _ _ hq hk]
      · cases hx
    all_goals simpa only [fz] using hx

/-- Behind the same operation in another heap: the objects that it turns are as in the first one, the others as they were. -/
def Loc2 (W : List Nat) (h' h2 h2' : Heap) : Prop := h2'.length = h2.length ∧ (∀ id, id ∈ W → h2'[id]? = h'[id]?) ∧ ∀ id, id ∉ W → h2'[id]? = h2[id]?

theorem Loc2.refl (h' h : Heap) : Loc2 [] h' h h := ⟨rfl, (fun _ hi => by cases hi), fun _ _ => rfl⟩

theorem place_local {fb j : Nat} {c : OC} {h h2 h' : Heap} {id g : Nat} (hl : h2.length = h.length) (e : h2[fb + j]? = h[fb + j]?) (hp : place fb (some j) c h = some (id, g, h')) :
    id = fb + j ∧ ∃ h2', place fb (some j) c h2 = some (id, g, h2') ∧ Loc2 [fb + j] h' h2 h2' := by
  simp only [place] at hp ⊢
  split at hp
  · rename_i o ho
    injection hp with hp
    injection hp with h1 h3
    injection h3 with h3 h4
    subst h1; subst h3; subst h4
    rw [e, ho]
    refine ⟨rfl, _, rfl, by simp, fun id hi => ?_, fun id hi => ?_⟩
    · rw [List.mem_singleton] at hi
      subst hi
      rw [List.getElem?_set, List.getElem?_set, if_pos rfl, if_pos rfl, hl]
    · rw [List.mem_singleton] at hi
      rw [List.getElem?_set_ne (fun e => hi e.symm)]
  · cases hp

theorem placeAll_local {fb : Nat} : ∀ (os : List OC) (j : Nat) (tab tab' : List (Nat × Nat)) (h h2 h' : Heap), h2.length = h.length → (∀ i, i < os.length → h2[fb + j + i]? = h[fb + j + i]?) →
    placeAll fb (some j) os tab h = some (tab', h') → ∃ h2', placeAll fb (some j) os tab h2 = some (tab', h2') ∧ h2'.length = h2.length ∧ h'.length = h.length ∧
      (∀ i, i < os.length → h2'[fb + j + i]? = h'[fb + j + i]?) ∧ (∀ id, (∀ i, i < os.length → id ≠ fb + j + i) → h2'[id]? = h2[id]?) ∧ (∀ id, (∀ i, i < os.length → id ≠ fb + j + i) → h'[id]? = h[id]?)
  | [], j, tab, tab', h, h2, h', hl, e, hp => by
    simp only [placeAll] at hp ⊢
    injection hp with hp
    injection hp with h1 h3
    subst h1; subst h3
    exact ⟨h2, rfl, rfl, rfl, fun i hi => by simp at hi, fun _ _ => rfl, fun _ _ => rfl⟩
  | o :: os, j, tab, tab', h, h2, h', hl, e, hp => by
    simp only [placeAll] at hp ⊢
    split at hp
    · rename_i id g h1 hpl
      split at hpl
      · rename_i hok
        obtain ⟨hid, h21, q1, q2, q3, q4⟩ := place_local hl (show h2[fb + j]? = h[fb + j]? from e 0 (by simp)) hpl
        obtain ⟨_, h11, r1, r2, r3, r4⟩ := place_local (h2 := h) rfl rfl hpl
        rw [hpl] at r1
        injection r1 with r1
        injection r1 with _ r1
        injection r1 with _ r1
        subst r1
        rw [if_pos hok, q1]
        simp only [Option.map_some] at hp ⊢
        obtain ⟨h2', p1, p2, p3, p4, p5, p6⟩ := placeAll_local os (j + 1) _ tab' h1 h21 h' (by rw [q2, r2, hl]) (fun i hi => by
          have := e (i + 1) (by simp; omega)
          rw [q4 _ (by rw [List.mem_singleton]; omega), r4 _ (by rw [List.mem_singleton]; omega)]
          rw [show fb + (j + 1) + i = fb + j + (i + 1) by omega]
          exact this) hp
        refine ⟨h2', p1, by rw [p2, q2], by rw [p3, r2], fun i hi => ?_, fun id hid2 => ?_, fun id hid2 => ?_⟩
        · cases i with
          | zero =>
            rw [p5 _ (fun i _ => by omega), p6 _ (fun i _ => by omega)]
            exact q3 _ (by simp)
          | succ i =>
            have := p4 i (by simp at hi; omega)
            rw [show fb + j + (i + 1) = fb + (j + 1) + i by omega]
            exact this
        · rw [p5 _ (fun i hi => by have := hid2 (i + 1) (by simp; omega); omega), q4 _ (by rw [List.mem_singleton]; exact hid2 0 (by simp))]
        · rw [p6 _ (fun i hi => by have := hid2 (i + 1) (by simp; omega); omega), r4 _ (by rw [List.mem_singleton]; exact hid2 0 (by simp))]
      · cases hpl
    · cases hp

theorem setRows_local {h h2 h' : Heap} {id : Nat} {rows : List (List AV)} (hl : h2.length = h.length) (e : h2[id]? = h[id]?) (hh : setRows h id rows = h') : Loc2 [id] h' h2 (setRows h2 id rows) := by
  subst hh
  unfold setRows
  rw [e]
  split
  · refine ⟨by simp, fun i hi => ?_, fun i hi => ?_⟩
    · rw [List.mem_singleton] at hi
      subst hi
      rw [List.getElem?_set, List.getElem?_set, if_pos rfl, if_pos rfl, hl]
    · rw [List.mem_singleton] at hi
      rw [List.getElem?_set_ne (fun e => hi e.symm)]
  · refine ⟨rfl, fun i hi => ?_, fun i hi => rfl⟩
    rw [List.mem_singleton] at hi
    subst hi
    exact e

theorem newArr_local {fb j es : Nat} {rows : List (List AV)} {h h2 h' : Heap} {v : AV} (hl : h2.length = h.length) (e : ∀ id, id ∈ [fb + j] → h2[id]? = h[id]?) (hx : newArr fb (some j) es rows h = some (v, h')) :
    ∃ h2', newArr fb (some j) es rows h2 = some (v, h2') ∧ Loc2 [fb + j] h' h2 h2' := by
  simp only [newArr] at hx ⊢
  split at hx
  · rename_i id g h1 hp
    injection hx with hx
    injection hx with h3 h4
    subst h3; subst h4
    obtain ⟨_, h2', p1, p2⟩ := place_local hl (e _ (by simp)) hp
    rw [p1]
    exact ⟨h2', rfl, p2⟩
  · cases hx

theorem newBox_local {fb j : Nat} {cs : List AV} {h h2 h' : Heap} {v : AV} (hl : h2.length = h.length) (e : ∀ id, id ∈ [fb + j] → h2[id]? = h[id]?) (hx : newBox fb (some j) cs h = some (v, h')) :
    ∃ h2', newBox fb (some j) cs h2 = some (v, h2') ∧ Loc2 [fb + j] h' h2 h2' := by
  simp only [newBox] at hx ⊢
  split at hx
  · rename_i id g h1 hp
    injection hx with hx
    injection hx with h3 h4
    subst h3; subst h4
    obtain ⟨_, h2', p1, p2⟩ := place_local hl (e _ (by simp)) hp
    rw [p1]
    exact ⟨h2', rfl, p2⟩
  · cases hx

theorem evSt_local {n : Nat} {a v x : AV} {h h2 h' : Heap} (hl : h2.length = h.length) (e : ∀ id, id ∈ ids1 a → h2[id]? = h[id]?) (hx : evSt n a v h = some (x, h')) :
    ∃ h2', evSt n a v h2 = some (x, h2') ∧ Loc2 (ids1 a) h' h2 h2' := by
  cases a
  case lp id g i off =>
    have ei := e id (by simp [ids1])
    simp only [evSt, rowsAt_local ei] at hx ⊢
    split at hx
    · rename_i es rows hro
      split at hx
      · rename_i row hrow
        split at hx
        · rename_i hc
          injection hx with hx
          injection hx with h3 h4
          subst h3
          refine ⟨setRows h2 id (rows.set i (spliceAt off (cellsOf v) row)), ?_, setRows_local hl ei h4⟩
          rw [if_pos hc]
        · cases hx
      · cases hx
    · cases hx
  all_goals simp only [evSt, reduceCtorEq] at hx

theorem callP_local {E : Env} {C : Calls2} {fb : Nat} {sl : Option Nat} {ro : Bool} {f : Nat} {args : List AV} {h h2 h' : Heap} {v : AV} {fp : List Nat × List Nat} (hl : h2.length = h.length)
    (hf : (match fzList (fz h fuelF) args with
      | none => none
      | some fa =>
        match C.p f fa.v with
        | none => none
        | some r =>
          if r.fresh || fa.ids.isEmpty then
            if ro || r.objs.isEmpty then some (fa.ids, []) else
            match sl with
            | some j => some (fa.ids, (List.range r.objs.length).map (fb + j + ·))
            | none => none
          else none) = some fp)
    (e : ∀ id, id ∈ fp.1 ∨ id ∈ fp.2 → h2[id]? = h[id]?) (hx : callP E C fb sl ro f args h = some (v, h')) : ∃ h2', callP E C fb sl ro f args h2 = some (v, h2') ∧ Loc2 fp.2 h' h2 h2' := by
  split at hf
  · cases hf
  · rename_i fa hfa
    split at hf
    · cases hf
    · rename_i r hr
      split at hf
      · rename_i hnf
        have hids : ∀ id, id ∈ fa.ids → h2[id]? = h[id]? := by
          split at hf
          · injection hf with hf; subst hf; exact fun id hi => e id (.inl hi)
          · split at hf
            · injection hf with hf; subst hf; exact fun id hi => e id (.inl hi)
            · cases hf
        have hfa2 : fzList (fz h2 fuelF) args = some fa := fzList_local (ok := fun id => h2[id]? = h[id]?) (fun x r => fz_local fuelF x r) _ _ hfa hids
        simp only [callP, hfa, hr, hnf, if_true] at hx
        simp only [callP, hfa2, hr, hnf, if_true]
        split at hf
        · rename_i hro
          injection hf with hf
          subst hf
          cases hro2 : ro with
          | true =>
            simp only [hro2, if_true] at hx ⊢
            split at hx
            · rename_i q hq
              injection hx with hx
              injection hx with h3 h4
              subst h3
              exact ⟨h2, rfl, Loc2.refl _ _⟩
            · cases hx
          | false =>
            rw [hro2, Bool.false_or, List.isEmpty_iff] at hro
            simp only [hro2, hro, Bool.false_eq_true, if_false, placeAll] at hx ⊢
            injection hx with hx
            injection hx with h3 h4
            subst h3
            exact ⟨h2, rfl, Loc2.refl _ _⟩
        · rename_i hro
          split at hf
          · rename_i j
            injection hf with hf
            subst hf
            simp only [Bool.or_eq_true, not_or, Bool.not_eq_true] at hro
            simp only [hro.1, Bool.false_eq_true, if_false] at hx ⊢
            split at hx
            · rename_i tab h3 hp
              injection hx with hx
              injection hx with h4 h5
              subst h4; subst h5
              obtain ⟨h2', p1, p2, p3, p4, p5, p6⟩ := placeAll_local r.objs j [] tab h h2 _ hl (fun i hi => e _ (.inr (List.mem_map.2 ⟨i, List.mem_range.2 hi, rfl⟩))) hp
              rw [p1]
              refine ⟨h2', rfl, p2, fun id hid => ?_, fun id hid => ?_⟩
              · obtain ⟨i, hi, rfl⟩ := List.mem_map.1 hid
                exact p4 i (List.mem_range.1 hi)
              · exact p5 id (fun i hi he => hid (List.mem_map.2 ⟨i, List.mem_range.2 hi, he.symm⟩))
            · cases hx
          · cases hf
      · cases hf

theorem evOp_local {E : Env} {C : Calls2} {fb : Nat} {t : Tmps} {op : COp} {h h2 h' : Heap} {v : AV} {fp : List Nat × List Nat} (hl : h2.length = h.length) (hf : fpOf E C fb t h op = some fp)
    (e : ∀ id, id ∈ fp.1 ∨ id ∈ fp.2 → h2[id]? = h[id]?) (hx : evOp E C fb t h op = some (v, h')) : ∃ h2', evOp E C fb t h2 op = some (v, h2') ∧ Loc2 fp.2 h' h2 h2' := by
  by_cases hT : op.isT = true
  · rw [fpOf_isT hT] at hf
    injection hf with hf
    subst hf
    rw [evOp_isT hT] at hx ⊢
    cases hq : evOp E C fb t [] op with
    | none => rw [hq] at hx; cases hx
    | some q =>
      rw [hq] at hx
      simp only [Option.map_some, Option.some.injEq, Prod.mk.injEq] at hx ⊢
      obtain ⟨h3, h4⟩ := hx
      subst h3
      exact ⟨h2, ⟨rfl, rfl⟩, Loc2.refl _ _⟩
  cases op
  case new sl cs =>
    cases sl with
    | none => cases hf
    | some j =>
      simp only [fpOf, Option.some.injEq] at hf
      subst hf
      simp only [evOp] at hx ⊢
      split at hx
      · rename_i hc
        rw [if_pos hc]
        exact newBox_local hl (fun id hi => e id (.inr hi)) hx
      · cases hx
  case box sl x =>
    cases sl with
    | none => cases hf
    | some j =>
      simp only [fpOf, Option.some.injEq] at hf
      subst hf
      simp only [evOp] at hx ⊢
      split at hx
      · rename_i hc
        rw [if_pos hc]
        exact newBox_local hl (fun id hi => e id (.inr hi)) hx
      · cases hx
  case buildS sl es len zero parts =>
    cases sl with
    | none => cases hf
    | some j =>
      simp only [fpOf, Option.some.injEq] at hf
      subst hf
      simp only [evOp] at hx ⊢
      split at hx
      · rename_i hc
        rw [if_pos hc]
        split at hx
        · rename_i rows hr
          exact newArr_local hl (fun id hi => e id (.inr hi)) hx
        · cases hx
      · cases hx
  case mkS sl es bytes zero len cap =>
    cases sl with
    | none => cases hf
    | some j =>
      simp only [fpOf, Option.some.injEq] at hf
      subst hf
      simp only [evOp] at hx ⊢
      split at hx
      · rename_i l c h3 h4
        split at hx
        · rename_i hc
          rw [if_pos hc]
          exact newArr_local hl (fun id hi => e id (.inr hi)) hx
        · cases hx
      · cases hx
  case s2b sl x =>
    cases sl with
    | none => cases hf
    | some j =>
      simp only [fpOf, Option.some.injEq] at hf
      subst hf
      simp only [evOp] at hx ⊢
      split at hx
      · rename_i s hs
        exact newArr_local hl (fun id hi => e id (.inr hi)) hx
      · cases hx
  case mkm sl =>
    cases sl with
    | none => cases hf
    | some j =>
      simp only [fpOf, Option.some.injEq] at hf
      subst hf
      simp only [evOp] at hx ⊢
      split at hx
      · rename_i id g h1 hp
        injection hx with hx
        injection hx with h3 h4
        subst h3; subst h4
        obtain ⟨_, h2', p1, p2⟩ := place_local hl (e _ (.inr (by simp))) hp
        rw [p1]
        exact ⟨h2', rfl, p2⟩
      · cases hx
  case ld agg n a =>
    simp only [fpOf, Option.some.injEq] at hf
    subst hf
    simp only [evOp] at hx ⊢
    rw [evLd_local (fun id hi => e id (.inl hi))]
    cases hq : evLd agg n (a.ev t) h with
    | none => rw [hq] at hx; cases hx
    | some q =>
      rw [hq] at hx
      simp only [Option.map_some, Option.some.injEq, Prod.mk.injEq] at hx ⊢
      exact ⟨h2, ⟨hx.1, rfl⟩, Loc2.refl _ _⟩
  case len k a =>
    simp only [fpOf, Option.some.injEq] at hf
    subst hf
    simp only [evOp] at hx ⊢
    rw [evLen_local (fun id hi => e id (.inl hi))]
    cases hq : evLen k (a.ev t) h with
    | none => rw [hq] at hx; cases hx
    | some q =>
      rw [hq] at hx
      simp only [Option.map_some, Option.some.injEq, Prod.mk.injEq] at hx ⊢
      exact ⟨h2, ⟨hx.1, rfl⟩, Loc2.refl _ _⟩
  case mget agg ks zero ok x k =>
    simp only [fpOf, Option.some.injEq] at hf
    subst hf
    simp only [evOp] at hx ⊢
    rw [evMget_local (fun id hi => e id (.inl hi))]
    cases hq : evMget agg ks zero ok (x.ev t) (k.ev t) h with
    | none => rw [hq] at hx; cases hx
    | some q =>
      rw [hq] at hx
      simp only [Option.map_some, Option.some.injEq, Prod.mk.injEq] at hx ⊢
      exact ⟨h2, ⟨hx.1, rfl⟩, Loc2.refl _ _⟩
  case b2s x =>
    simp only [fpOf, Option.some.injEq] at hf
    subst hf
    simp only [evOp] at hx ⊢
    rw [rowsOf_local (fun id hi => e id (.inl hi))]
    split at hx
    · cases hx
    · rename_i hs
      rw [if_neg hs]
      split at hx
      · rename_i rows hr
        cases hq : bytesOf rows with
        | none => rw [hq] at hx; cases hx
        | some q =>
          rw [hq] at hx
          simp only [Option.map_some, Option.some.injEq, Prod.mk.injEq] at hx ⊢
          exact ⟨h2, ⟨hx.1, rfl⟩, Loc2.refl _ _⟩
      · cases hx
  case st n a x =>
    simp only [fpOf, Option.some.injEq] at hf
    subst hf
    simp only [evOp] at hx ⊢
    exact evSt_local hl (fun id hi => e id (.inr hi)) hx
  case call sl ro f args =>
    simp only [fpOf] at hf
    split at hf
    · rename_i hp
      simp only [evOp, callAny, hp, if_true] at hx ⊢
      exact callP_local hl hf e hx
    · cases hf
  all_goals first | (simp [fpOf] at hf; done) | (exfalso; exact hT rfl)

end Go.Vm
