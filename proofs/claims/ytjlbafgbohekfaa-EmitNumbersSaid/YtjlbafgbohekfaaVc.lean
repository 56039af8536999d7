/- The value machine (Vc). -/
import Derived.Test.YtjlbafgbohekfaaVb
import Derived.Maps.RangeRun
import Derived.ProofKit
import Derived.SizedLaws
import Derived.Lib.Bytealg
import Derived.MapKept
set_option linter.unusedSimpArgs false
set_option linter.unusedVariables false
set_option linter.unusedSectionVars false
/- The value machine: what an operation looks at and turns is all that matters to it. -/
namespace Go.Vm
def COp.opds : COp → List Opd
 | .mv x | .box _ x | .ld _ _ x | .nilchk x | .un _ x | .cvi _ x | .s2b _ x | .b2s x | .fa _ x | .fld _ _ _ x | .ext _ x | .len _ x | .mclr x => [x]
 | .new .. | .mkm _ => []
 | .pick c a b => [c, a, b]
 | .build _ parts => parts.map (·.2.2)
 | .buildS _ _ _ _ parts => parts.map (·.2)
 | .st _ a v => [a, v]
 | .bin _ x y | .eqn _ _ x y | .eqa _ _ x y | .eqb _ x y | .ixs _ x y | .ixa _ _ x y | .ixv _ _ _ x y | .ixstr x y | .app _ _ _ x y | .cpy _ x y | .minmax _ x y => [x, y]
 | .mkS _ _ _ _ l c => [l, c]
 | .slc _ x lo hi | .sls x lo hi => x :: lo.toList ++ hi.toList
 | .call _ _ _ args => args
 | .callv _ _ f args => f :: args
 | .mkf _ caps => caps
 | .mget _ _ _ _ x k | .mdel _ _ x k => [x, k]
 | .mput _ _ m k v => [m, k, v]
theorem y1r5 {t t2 : Tmps} (l : List Opd) (h : ∀ x, x ∈ l → x.ev t = x.ev t2) : l.map (·.ev t) = l.map (·.ev t2) := z34 h
theorem ygs {t t2 : Tmps} {o : Option Opd} (h : ∀ x, x ∈ o.toList → x.ev t = x.ev t2) (hi d : Nat) : y5p t hi d o = y5p t2 hi d o := by
 cases o with
 | none => rfl
 | some x => simp only [y5p]; rw [h x (by simp)]
theorem yb6 {E : Env} {C : Calls2} {fb : Nat} {t t2 : Tmps} {h : Heap} {op : COp} (hs : ∀ x, x ∈ op.opds → x.ev t = x.ev t2) : evOp E C fb t h op = evOp E C fb t2 h op := by
 cases op
 case build zero parts =>
  have : (parts.map fun p => (p.1, p.2.1, p.2.2.ev t)) = parts.map fun p => (p.1, p.2.1, p.2.2.ev t2) :=
   z34 fun p hp => by rw [hs p.2.2 (z1y.2 ⟨p, hp, rfl⟩)]
  simp only [evOp, this]
 case buildS sl es len zero parts =>
  have : (parts.map fun p => (p.1, p.2.ev t)) = parts.map fun p => (p.1, p.2.ev t2) :=
   z34 fun p hp => by rw [hs p.2 (z1y.2 ⟨p, hp, rfl⟩)]
  simp only [evOp, this]
 case call sl ro f args => simp only [evOp, y1r5 args hs]
 case callv sl ro f args =>
  simp only [evOp, y1r5 args (fun x hx => hs x (List.mem_cons_of_mem _ hx)), hs f (List.mem_cons_self ..)]
 case mkf f caps => simp only [evOp, y1r5 caps hs]
 case slc es x lo hi =>
  simp only [COp.opds, List.cons_append, List.mem_cons, zt] at hs
  have h1 : ∀ hi' d, y5p t hi' d lo = y5p t2 hi' d lo := ygs fun y hy => hs y (.inr (.inl hy))
  have h2 : ∀ hi' d, y5p t hi' d hi = y5p t2 hi' d hi := ygs fun y hy => hs y (.inr (.inr hy))
  simp only [evOp, h1, h2, hs x (.inl rfl)]
 case sls x lo hi =>
  simp only [COp.opds, List.cons_append, List.mem_cons, zt] at hs
  have h1 : ∀ hi' d, y5p t hi' d lo = y5p t2 hi' d lo := ygs fun y hy => hs y (.inr (.inl hy))
  have h2 : ∀ hi' d, y5p t hi' d hi = y5p t2 hi' d hi := ygs fun y hy => hs y (.inr (.inr hy))
  simp only [evOp, h1, h2, hs x (.inl rfl)]
 all_goals
  simp only [COp.opds, List.mem_cons, List.not_mem_nil, or_false, forall_eq_or_imp, forall_eq] at hs
  simp only [evOp, hs]
def COp.isT : COp → Bool
 | .mv _ | .pick .. | .build .. | .nilchk _ | .bin .. | .eqn .. | .eqa .. | .eqb .. | .un .. | .cvi .. | .slc .. | .ixs .. | .sls .. | .fa .. | .fld .. | .ixa .. | .ixv .. | .ixstr ..
 | .ext .. | .minmax .. | .mkf .. => true
 | _ => false
def COp.isL : COp → Bool
 | .ld .. | .b2s _ | .len .. | .mget .. => true
 | _ => false
theorem yx1 {E : Env} {C : Calls2} {fb : Nat} {t : Tmps} {h : Heap} {op : COp} (hT : op.isT = true) : fpOf E C fb t h op = some ([], []) := by
 cases op <;> first | exact absurd hT zv | rfl
theorem y22h {E : Env} {C : Calls2} {fb : Nat} {t : Tmps} {h : Heap} {op : COp} {f : List Nat × List Nat} (hT : op.isL = true) (hf : fpOf E C fb t h op = some f) : f.2 = [] := by
 cases op <;> first | exact absurd hT zv | (simp only [fpOf] at hf; injection hf with hf; rw [← hf])
theorem ygg {E : Env} {C : Calls2} {fb : Nat} {t : Tmps} {h : Heap} {op : COp} (hT : op.isT = true) : evOp E C fb t h op = (evOp E C fb t [] op).map fun r => (r.1, h) := by
 cases op <;> first | exact absurd hT zv | skip
 all_goals
  simp only [evOp]
  try (repeat' split) <;> simp_all [z3d, Function.comp_def]
theorem ybx {h h2 : Heap} {id : Nat} (e : h2[id]? = h[id]?) (g : Nat) : y23 h2 id g = y23 h id g := by simp only [y23, e]
theorem y4e {h h2 : Heap} {id : Nat} (e : h2[id]? = h[id]?) (g : Nat) : yr h2 id g = yr h id g := by simp only [yr, ybx e]
theorem y52 {h h2 : Heap} {id : Nat} (e : h2[id]? = h[id]?) (g : Nat) : y6l h2 id g = y6l h id g := by simp only [y6l, ybx e]
theorem y9s {h h2 : Heap} {id : Nat} (e : h2[id]? = h[id]?) (g : Nat) : y3t h2 id g = y3t h id g := by simp only [y3t, ybx e]
theorem y172 {h h2 : Heap} {a : AV} (e : ∀ id, id ∈ ids1 a → h2[id]? = h[id]?) (agg : Bool) (n : Nat) : evLd agg n a h2 = evLd agg n a h := by
 cases a <;> simp only [evLd]
 rename_i id g i off
 rw [y4e (e id (by simp [ids1]))]
theorem y9u {h h2 : Heap} {a : AV} (e : ∀ id, id ∈ ids1 a → h2[id]? = h[id]?) (es : Nat) : y28 h2 es a = y28 h es a := by
 cases a <;> simp only [y28]
 rename_i id g es' off len
 rw [y4e (e id (by simp [ids1]))]
theorem yu6 {h h2 : Heap} {a : AV} (e : ∀ id, id ∈ ids1 a → h2[id]? = h[id]?) (k : Nat) : y17 k a h2 = y17 k a h := by
 unfold y17
 split <;> first | rfl | (rw [y52 (e _ (by simp [ids1]))])
theorem yq2 {h h2 : Heap} {x : AV} (e : ∀ id, id ∈ ids1 x → h2[id]? = h[id]?) (agg : Bool) (ks : List Nat) (zero : AV) (ok : Bool) (k : AV) : y2z agg ks zero ok x k h2 = y2z agg ks zero ok x k h := by
 cases x <;> simp only [y2z]
 rename_i id g
 rw [y52 (e id (by simp [ids1])), y9s (e id (by simp [ids1]))]
theorem y2w {α β : Type} {f f2 : α → Option (Fz β)} {ok : Nat → Prop} (hf : ∀ x r, f x = some r → (∀ id, id ∈ r.ids → ok id) → f2 x = some r) :
  ∀ (xs : List α) (r : Fz (List β)), yv f xs = some r → (∀ id, id ∈ r.ids → ok id) → yv f2 xs = some r
 | [], r, h, _ => by simpa [yv] using h
 | x :: xs, r, h, hk => by
  simp only [yv] at h
  split at h
  ·rename_i a b ha hb
   injection h with h
   subst h
   simp only [zt] at hk
   simp only [yv, hf x a ha (fun id hi => hk id (.inl hi)), y2w hf xs b hb (fun id hi => hk id (.inr hi))]
  ·cases h
theorem y03 {h h2 : Heap} : ∀ (k : Nat) (v : AV) (r : Fz AV), fz h k v = some r → (∀ id, id ∈ r.ids → h2[id]? = h[id]?) → fz h2 k v = some r := by
 intro k
 induction k with
 | zero => intro v r hx _; simp [fz] at hx
 | succ k ih =>
  intro v r hx hk
  cases v
  case ls id g es1 off len =>
   simp only [fz] at hx ⊢
   split at hx
   ·rename_i es rows hro
    split at hx
    ·rename_i hc
     split at hx
     ·rename_i q hq
      injection hx with hx
      subst hx
      simp only [List.mem_cons] at hk
      rw [y4e (hk id (.inl rfl)), hro]
      simp only
      rw [if_pos hc, y2w (ok := fun id => h2[id]? = h[id]?) (fun x r => y2w (ok := fun id => h2[id]? = h[id]?) ih x r) _ _ hq (fun i hi => hk i (.inr hi))]
     ·cases hx
    ·cases hx
   ·cases hx
  case lp id g i off =>
   simp only [fz] at hx ⊢
   split at hx
   ·rename_i es rows hro
    split at hx
    ·rename_i row hrow
     split at hx
     ·rename_i q hq
      injection hx with hx
      subst hx
      simp only [List.mem_cons] at hk
      rw [y4e (hk id (.inl rfl)), hro]
      simp only
      rw [hrow]
      simp only
      rw [y2w (ok := fun id => h2[id]? = h[id]?) ih _ _ hq (fun i hi => hk i (.inr hi))]
     ·cases hx
    ·cases hx
   ·cases hx
  case lm id g =>
   simp only [fz] at hx ⊢
   split at hx
   ·rename_i b es hro
    split at hx
    ·rename_i q hq
     injection hx with hx
     subst hx
     simp only [List.mem_cons] at hk
     rw [y52 (hk id (.inl rfl)), hro]
     simp only
     rw [y2w (ok := fun id => h2[id]? = h[id]?) (fun x r hr hk' => by
      split at hr
      ·rename_i a b ha hb
       injection hr with hr
       subst hr
       simp only [zt] at hk'
       rw [ih _ _ ha (fun i hi => hk' i (.inl hi)), ih _ _ hb (fun i hi => hk' i (.inr hi))]
      ·cases hr) _ _ hq (fun i hi => hk i (.inr hi))]
    ·cases hx
   ·cases hx
  case agg cs =>
   simp only [fz] at hx ⊢
   split at hx
   ·rename_i q hq
    injection hx with hx
    subst hx
    rw [y2w (ok := fun id => h2[id]? = h[id]?) ih _ _ hq hk]
   ·cases hx
  case tup cs =>
   simp only [fz] at hx ⊢
   split at hx
   ·rename_i q hq
    injection hx with hx
    subst hx
    rw [y2w (ok := fun id => h2[id]? = h[id]?) ih _ _ hq hk]
   ·cases hx
  all_goals simpa only [fz] using hx
def Loc2 (W : List Nat) (h' h2 h2' : Heap) : Prop := h2'.length = h2.length ∧ (∀ id, id ∈ W → h2'[id]? = h'[id]?) ∧ ∀ id, id ∉ W → h2'[id]? = h2[id]?
theorem Loc2.refl (h' h : Heap) : Loc2 [] h' h h := ⟨rfl, (fun _ hi => by cases hi), fun _ _ => rfl⟩
theorem y6a {fb j : Nat} {c : OC} {h h2 h' : Heap} {id g : Nat} (hl : h2.length = h.length) (e : h2[fb + j]? = h[fb + j]?) (hp : place fb (some j) c h = some (id, g, h')) :
  id = fb + j ∧ ∃ h2', place fb (some j) c h2 = some (id, g, h2') ∧ Loc2 [fb + j] h' h2 h2' := by
 simp only [place] at hp ⊢
 split at hp
 ·rename_i o ho
  injection hp with hp
  injection hp with h1 h3
  injection h3 with h3 h4
  subst h1; subst h3; subst h4
  rw [e, ho]
  refine ⟨rfl, _, rfl, by simp, fun id hi => ?_, fun id hi => ?_⟩
  ·rw [zn] at hi
   subst hi
   rw [zu, zu, if_pos rfl, if_pos rfl, hl]
  ·rw [zn] at hi
   rw [z17 (fun e => hi e.symm)]
 ·cases hp
theorem ybm {fb : Nat} : ∀ (os : List OC) (j : Nat) (tab tab' : List (Nat × Nat)) (h h2 h' : Heap), h2.length = h.length → (∀ i, i < os.length → h2[fb + j + i]? = h[fb + j + i]?) →
  y39 fb (some j) os tab h = some (tab', h') → ∃ h2', y39 fb (some j) os tab h2 = some (tab', h2') ∧ h2'.length = h2.length ∧ h'.length = h.length ∧
   (∀ i, i < os.length → h2'[fb + j + i]? = h'[fb + j + i]?) ∧ (∀ id, (∀ i, i < os.length → id ≠ fb + j + i) → h2'[id]? = h2[id]?) ∧ (∀ id, (∀ i, i < os.length → id ≠ fb + j + i) → h'[id]? = h[id]?)
 | [], j, tab, tab', h, h2, h', hl, e, hp => by
  simp only [y39] at hp ⊢
  injection hp with hp
  injection hp with h1 h3
  subst h1; subst h3
  exact ⟨h2, rfl, rfl, rfl, fun i hi => by simp at hi, fun _ _ => rfl, fun _ _ => rfl⟩
 | o :: os, j, tab, tab', h, h2, h', hl, e, hp => by
  simp only [y39] at hp ⊢
  split at hp
  ·rename_i id g h1 hpl
   split at hpl
   ·rename_i hok
    obtain ⟨hid, h21, q1, q2, q3, q4⟩ := y6a hl (show h2[fb + j]? = h[fb + j]? from e 0 (by simp)) hpl
    obtain ⟨_, h11, r1, r2, r3, r4⟩ := y6a (h2 := h) rfl rfl hpl
    rw [hpl] at r1
    injection r1 with r1
    injection r1 with _ r1
    injection r1 with _ r1
    subst r1
    rw [if_pos hok, q1]
    simp only [Option.map_some] at hp ⊢
    obtain ⟨h2', p1, p2, p3, p4, p5, p6⟩ := ybm os (j + 1) _ tab' h1 h21 h' (by rw [q2, r2, hl]) (fun i hi => by
     have := e (i + 1) (by simp; omega)
     rw [q4 _ (by rw [zn]; omega), r4 _ (by rw [zn]; omega)]
     rw [show fb + (j + 1) + i = fb + j + (i + 1) by omega]
     exact this) hp
    refine ⟨h2', p1, by rw [p2, q2], by rw [p3, r2], fun i hi => ?_, fun id hid2 => ?_, fun id hid2 => ?_⟩
    ·cases i with
     | zero =>
      rw [p5 _ (fun i _ => by omega), p6 _ (fun i _ => by omega)]
      exact q3 _ (by simp)
     | succ i =>
      have := p4 i (by simp at hi; omega)
      rw [show fb + j + (i + 1) = fb + (j + 1) + i by omega]
      exact this
    ·rw [p5 _ (fun i hi => by have := hid2 (i + 1) (by simp; omega); omega), q4 _ (by rw [zn]; exact hid2 0 (by simp))]
    ·rw [p6 _ (fun i hi => by have := hid2 (i + 1) (by simp; omega); omega), r4 _ (by rw [zn]; exact hid2 0 (by simp))]
   ·cases hpl
  ·cases hp
theorem ydp {h h2 h' : Heap} {id : Nat} {rows : List (List AV)} (hl : h2.length = h.length) (e : h2[id]? = h[id]?) (hh : y2j h id rows = h') : Loc2 [id] h' h2 (y2j h2 id rows) := by
 subst hh
 unfold y2j
 rw [e]
 split
 ·refine ⟨by simp, fun i hi => ?_, fun i hi => ?_⟩
  ·rw [zn] at hi
   subst hi
   rw [zu, zu, if_pos rfl, if_pos rfl, hl]
  ·rw [zn] at hi
   rw [z17 (fun e => hi e.symm)]
 ·refine ⟨rfl, fun i hi => ?_, fun i hi => rfl⟩
  rw [zn] at hi
  subst hi
  exact e
theorem y6p {fb j es : Nat} {rows : List (List AV)} {h h2 h' : Heap} {v : AV} (hl : h2.length = h.length) (e : ∀ id, id ∈ [fb + j] → h2[id]? = h[id]?) (hx : y2k fb (some j) es rows h = some (v, h')) :
  ∃ h2', y2k fb (some j) es rows h2 = some (v, h2') ∧ Loc2 [fb + j] h' h2 h2' := by
 simp only [y2k] at hx ⊢
 split at hx
 ·rename_i id g h1 hp
  injection hx with hx
  injection hx with h3 h4
  subst h3; subst h4
  obtain ⟨_, h2', p1, p2⟩ := y6a hl (e _ (by simp)) hp
  rw [p1]
  exact ⟨h2', rfl, p2⟩
 ·cases hx
theorem yfm {fb j : Nat} {cs : List AV} {h h2 h' : Heap} {v : AV} (hl : h2.length = h.length) (e : ∀ id, id ∈ [fb + j] → h2[id]? = h[id]?) (hx : y8l fb (some j) cs h = some (v, h')) :
  ∃ h2', y8l fb (some j) cs h2 = some (v, h2') ∧ Loc2 [fb + j] h' h2 h2' := by
 simp only [y8l] at hx ⊢
 split at hx
 ·rename_i id g h1 hp
  injection hx with hx
  injection hx with h3 h4
  subst h3; subst h4
  obtain ⟨_, h2', p1, p2⟩ := y6a hl (e _ (by simp)) hp
  rw [p1]
  exact ⟨h2', rfl, p2⟩
 ·cases hx
theorem y16m {n : Nat} {a v x : AV} {h h2 h' : Heap} (hl : h2.length = h.length) (e : ∀ id, id ∈ ids1 a → h2[id]? = h[id]?) (hx : evSt n a v h = some (x, h')) :
  ∃ h2', evSt n a v h2 = some (x, h2') ∧ Loc2 (ids1 a) h' h2 h2' := by
 cases a
 case lp id g i off =>
  have ei := e id (by simp [ids1])
  simp only [evSt, y4e ei] at hx ⊢
  split at hx
  ·rename_i es rows hro
   split at hx
   ·rename_i row hrow
    split at hx
    ·rename_i hc
     injection hx with hx
     injection hx with h3 h4
     subst h3
     refine ⟨y2j h2 id (rows.set i (y1f off (cellsOf v) row)), ?_, ydp hl ei h4⟩
     rw [if_pos hc]
    ·cases hx
   ·cases hx
  ·cases hx
 all_goals simp only [evSt, reduceCtorEq] at hx
theorem y9x (ids : List Nat) (h : Heap) (id : Nat) : (y1e ids h)[id]? = (h[id]?).map fun o => ⟨o.gen, if id ∈ ids then o.c.frozen else o.c⟩ := by
 cases hh : h[id]? with
 | none =>
  have := List.getElem?_eq_none_iff.1 hh
  rw [z12 (by rw [y3g]; exact this)]
  rfl
 | some o => exact y4j ids h id o.gen o.c hh
theorem ypn {ids : List Nat} {h h2 : Heap} (e : ∀ id, id ∈ ids → h2[id]? = h[id]?) : Loc2 ids (y1e ids h) h2 (y1e ids h2) := by
 refine ⟨y3g _ _, fun id hi => ?_, fun id hi => ?_⟩
 ·rw [y9x, y9x, e id hi]
 ·rw [y9x]
  cases h2[id]? with
  | none => rfl
  | some o => simp only [Option.map_some, if_neg hi]
theorem ysv {E : Env} {C : Calls2} {fb : Nat} {sl : Option Nat} {ro : Bool} {f : Nat} {args : List AV} {h h2 h' : Heap} {v : AV} {fp : List Nat × List Nat} (hl : h2.length = h.length)
  (hf : (match yv (fz h y1m) args with
   | none => none
   | some fa =>
    match C.p f fa.v with
    | none => none
    | some r =>
     if r.fresh || fa.ids.isEmpty then
      if ro || r.objs.isEmpty then some (fa.ids, []) else
      match sl with
      | some j => some (fa.ids, (List.range r.objs.length).map (fb + j + ·))
      | none => none
     else if ro then some (fa.ids, fa.ids) else none) = some fp)
  (e : ∀ id, id ∈ fp.1 ∨ id ∈ fp.2 → h2[id]? = h[id]?) (hx : y38 E C fb sl ro f args h = some (v, h')) : ∃ h2', y38 E C fb sl ro f args h2 = some (v, h2') ∧ Loc2 fp.2 h' h2 h2' := by
 split at hf
 ·cases hf
 ·rename_i fa hfa
  split at hf
  ·cases hf
  ·rename_i r hr
   split at hf
   ·rename_i hnf
    have hids : ∀ id, id ∈ fa.ids → h2[id]? = h[id]? := by
     split at hf
     ·injection hf with hf; subst hf; exact fun id hi => e id (.inl hi)
     ·split at hf
      ·injection hf with hf; subst hf; exact fun id hi => e id (.inl hi)
      ·cases hf
    have hfa2 : yv (fz h2 y1m) args = some fa := y2w (ok := fun id => h2[id]? = h[id]?) (fun x r => y03 y1m x r) _ _ hfa hids
    simp only [y38, hfa, hr, hnf, if_true] at hx
    simp only [y38, hfa2, hr, hnf, if_true]
    split at hf
    ·rename_i hro
     injection hf with hf
     subst hf
     cases hro2 : ro with
     | true =>
      simp only [hro2, if_true] at hx ⊢
      split at hx
      ·rename_i q hq
       injection hx with hx
       injection hx with h3 h4
       subst h3
       exact ⟨h2, rfl, Loc2.refl _ _⟩
      ·cases hx
     | false =>
      rw [hro2, z1x, z3f] at hro
      simp only [hro2, hro, zp, if_false, y39] at hx ⊢
      injection hx with hx
      injection hx with h3 h4
      subst h3
      exact ⟨h2, rfl, Loc2.refl _ _⟩
    ·rename_i hro
     split at hf
     ·rename_i j
      injection hf with hf
      subst hf
      simp only [z1k, not_or, z3g] at hro
      simp only [hro.1, zp, if_false] at hx ⊢
      split at hx
      ·rename_i tab h3 hp
       injection hx with hx
       injection hx with h4 h5
       subst h4; subst h5
       obtain ⟨h2', p1, p2, p3, p4, p5, p6⟩ := ybm r.objs j [] tab h h2 _ hl (fun i hi => e _ (.inr (z1y.2 ⟨i, z27.2 hi, rfl⟩))) hp
       rw [p1]
       refine ⟨h2', rfl, p2, fun id hid => ?_, fun id hid => ?_⟩
       ·obtain ⟨i, hi, rfl⟩ := z1y.1 hid
        exact p4 i (z27.1 hi)
       ·exact p5 id (fun i hi he => hid (z1y.2 ⟨i, z27.2 hi, he.symm⟩))
      ·cases hx
     ·cases hf
   ·rename_i hnf
    split at hf
    ·rename_i hro
     injection hf with hf
     subst hf
     have hids : ∀ id, id ∈ fa.ids → h2[id]? = h[id]? := fun id hi => e id (.inl hi)
     have hfa2 : yv (fz h2 y1m) args = some fa := y2w (ok := fun id => h2[id]? = h[id]?) (fun x r => y03 y1m x r) _ _ hfa hids
     rw [z3g] at hnf
     simp only [y38, hfa, hr, hnf, hro, zp, if_true, if_false] at hx
     simp only [y38, hfa2, hr, hnf, hro, zp, if_true, if_false]
     split at hx
     ·rename_i q hq
      injection hx with hx
      injection hx with h3 h4
      subst h3; subst h4
      exact ⟨_, rfl, ypn hids⟩
     ·cases hx
    ·cases hf
theorem y5d {h h2 h' : Heap} {id : Nat} {es : List (AV × AV)} (hl : h2.length = h.length) (e : h2[id]? = h[id]?) (hh : y3p h id es = h') : Loc2 [id] h' h2 (y3p h2 id es) := by
 subst hh
 unfold y3p
 rw [e]
 split
 ·refine ⟨by simp, fun i hi => ?_, fun i hi => ?_⟩
  ·rw [zn] at hi
   subst hi
   rw [zu, zu, if_pos rfl, if_pos rfl, hl]
  ·rw [zn] at hi
   rw [z17 (fun e => hi e.symm)]
 ·refine ⟨by simp, fun i hi => ?_, fun i hi => ?_⟩
  ·rw [zn] at hi
   subst hi
   rw [zu, zu, if_pos rfl, if_pos rfl, hl]
  ·rw [zn] at hi
   rw [z17 (fun e => hi e.symm)]
 ·refine ⟨rfl, fun i hi => ?_, fun i hi => rfl⟩
  rw [zn] at hi
  subst hi
  exact e
theorem yui {fb j es bytes : Nat} {x y v : AV} {h h2 h' : Heap} (hl : h2.length = h.length) (e1 : ∀ id, id ∈ ids1 y → h2[id]? = h[id]?) (e2 : ∀ id, id ∈ ids1 x ++ [fb + j] → h2[id]? = h[id]?)
  (hx : y1v fb (some j) es bytes x y h = some (v, h')) : ∃ h2', y1v fb (some j) es bytes x y h2 = some (v, h2') ∧ Loc2 (ids1 x ++ [fb + j]) h' h2 h2' := by
 unfold y1v at hx ⊢
 rw [y9u e1]
 split at hx
 ·cases hx
 ·rename_i ys hys
  cases x
  case nils =>
   simp only at hx ⊢
   split at hx
   ·rename_i hc
    injection hx with hx
    injection hx with h3 h4
    subst h3; subst h4
    rw [if_pos hc]
    exact ⟨h2, rfl, rfl, fun id hi => e2 id hi, fun _ _ => rfl⟩
   ·rename_i hc
    rw [if_neg hc]
    split at hx
    ·rename_i hc2
     rw [if_pos hc2]
     exact y6p hl (fun id hi => e2 id hi) hx
    ·cases hx
  case ls id g es1 off len =>
   simp only at hx ⊢
   split at hx
   ·rename_i g' es' rows hro
    split at hx
    ·rename_i hc
     injection hx with hx
     injection hx with h3 h4
     subst h3; subst h4
     rw [(e2 id (by simp [ids1])).trans hro]
     simp only
     rw [if_pos hc]
     refine ⟨_, rfl, by simp, fun i hi => ?_, fun i hi => ?_⟩
     ·rw [zu, zu]
      by_cases hii : id = i
      ·rw [if_pos hii, if_pos hii, hl]
      ·rw [if_neg hii, if_neg hii]; exact e2 i hi
     ·rw [z17 (fun e => hi (by simp [ids1, e]))]
    ·cases hx
   ·cases hx
  all_goals cases hx
theorem yul {es : Nat} {x y v : AV} {h h2 h' : Heap} (hl : h2.length = h.length) (e1 : ∀ id, id ∈ ids1 y → h2[id]? = h[id]?) (e2 : ∀ id, id ∈ ids1 x → h2[id]? = h[id]?)
  (hx : y1f1 es x y h = some (v, h')) : ∃ h2', y1f1 es x y h2 = some (v, h2') ∧ Loc2 (ids1 x) h' h2 h2' := by
 unfold y1f1 at hx ⊢
 rw [y9u e1]
 split at hx
 ·cases hx
 ·rename_i ys hys
  cases x
  case nils =>
   simp only at hx ⊢
   injection hx with hx
   injection hx with h3 h4
   subst h3; subst h4
   exact ⟨h2, rfl, Loc2.refl _ _⟩
  case ls id g es1 off len =>
   have ei := e2 id (by simp [ids1])
   simp only [y4e ei] at hx ⊢
   split at hx
   ·rename_i fz es' rows hro
    split at hx
    ·rename_i hc
     injection hx with hx
     injection hx with h3 h4
     subst h3
     rw [if_pos hc]
     exact ⟨_, rfl, ydp hl ei h4⟩
    ·cases hx
   ·cases hx
  all_goals cases hx
theorem yrv {agg : Bool} {ks : List Nat} {x k y v : AV} {h h2 h' : Heap} (hl : h2.length = h.length) (e2 : ∀ id, id ∈ ids1 x → h2[id]? = h[id]?)
  (hx : y3x agg ks x k y h = some (v, h')) : ∃ h2', y3x agg ks x k y h2 = some (v, h2') ∧ Loc2 (ids1 x) h' h2 h2' := by
 unfold y3x at hx ⊢
 cases x
 case lm id g =>
  have ei := e2 id (by simp [ids1])
  simp only [y52 ei, y9s ei] at hx ⊢
  split at hx
  ·split at hx
   ·rename_i es' hm
    injection hx with hx
    injection hx with h3 h4
    subst h3
    exact ⟨_, rfl, y5d hl ei h4⟩
   ·cases hx
  ·cases hx
  ·split at hx
   ·split at hx
    ·rename_i es' hm
     split at hx
     ·rename_i hlen
      injection hx with hx
      injection hx with h3 h4
      subst h3
      rw [if_pos hlen]
      exact ⟨_, rfl, y5d hl ei h4⟩
     ·cases hx
    ·cases hx
   ·cases hx
 all_goals cases hx
theorem yr9 {agg : Bool} {ks : List Nat} {x k v : AV} {h h2 h' : Heap} (hl : h2.length = h.length) (e2 : ∀ id, id ∈ ids1 x → h2[id]? = h[id]?)
  (hx : y7c agg ks x k h = some (v, h')) : ∃ h2', y7c agg ks x k h2 = some (v, h2') ∧ Loc2 (ids1 x) h' h2 h2' := by
 unfold y7c at hx ⊢
 cases x
 case nilm =>
  simp only at hx ⊢
  split at hx
  ·rename_i hs
   rw [if_pos hs]
   injection hx with hx
   injection hx with h3 h4
   subst h3; subst h4
   exact ⟨h2, rfl, Loc2.refl _ _⟩
  ·cases hx
 case lm id g =>
  have ei := e2 id (by simp [ids1])
  simp only [y52 ei, y9s ei] at hx ⊢
  split at hx
  ·split at hx
   ·rename_i es' hm
    injection hx with hx
    injection hx with h3 h4
    subst h3
    exact ⟨_, rfl, y5d hl ei h4⟩
   ·cases hx
  ·cases hx
  ·split at hx
   ·split at hx
    ·rename_i es' hm
     injection hx with hx
     injection hx with h3 h4
     subst h3
     exact ⟨_, rfl, y5d hl ei h4⟩
    ·cases hx
   ·cases hx
 all_goals cases hx
theorem yrs {x v : AV} {h h2 h' : Heap} (hl : h2.length = h.length) (e2 : ∀ id, id ∈ ids1 x → h2[id]? = h[id]?)
  (hx : yr8 x h = some (v, h')) : ∃ h2', yr8 x h2 = some (v, h2') ∧ Loc2 (ids1 x) h' h2 h2' := by
 unfold yr8 at hx ⊢
 cases x
 case nilm =>
  simp only at hx ⊢
  injection hx with hx
  injection hx with h3 h4
  subst h3; subst h4
  exact ⟨h2, rfl, Loc2.refl _ _⟩
 case lm id g =>
  have ei := e2 id (by simp [ids1])
  simp only [y52 ei] at hx ⊢
  split at hx
  ·injection hx with hx
   injection hx with h3 h4
   subst h3
   exact ⟨_, rfl, y5d hl ei h4⟩
  ·cases hx
 all_goals cases hx
theorem y163 {E : Env} {C : Calls2} {fb : Nat} {t : Tmps} {op : COp} {h h2 h' : Heap} {v : AV} {fp : List Nat × List Nat} (hl : h2.length = h.length) (hf : fpOf E C fb t h op = some fp)
  (e : ∀ id, id ∈ fp.1 ∨ id ∈ fp.2 → h2[id]? = h[id]?) (hx : evOp E C fb t h op = some (v, h')) : ∃ h2', evOp E C fb t h2 op = some (v, h2') ∧ Loc2 fp.2 h' h2 h2' := by
 by_cases hT : op.isT = true
 ·rw [yx1 hT] at hf
  injection hf with hf
  subst hf
  rw [ygg hT] at hx ⊢
  cases hq : evOp E C fb t [] op with
  | none => rw [hq] at hx; cases hx
  | some q =>
   rw [hq] at hx
   simp only [Option.map_some, Option.some.injEq, Prod.mk.injEq] at hx ⊢
   obtain ⟨h3, h4⟩ := hx
   subst h3
   exact ⟨h2, ⟨rfl, rfl⟩, Loc2.refl _ _⟩
 cases op
 case new sl cs =>
  cases sl with
  | none => cases hf
  | some j =>
   simp only [fpOf, Option.some.injEq] at hf
   subst hf
   simp only [evOp] at hx ⊢
   split at hx
   ·rename_i hc
    rw [if_pos hc]
    exact yfm hl (fun id hi => e id (.inr hi)) hx
   ·cases hx
 case box sl x =>
  cases sl with
  | none => cases hf
  | some j =>
   simp only [fpOf, Option.some.injEq] at hf
   subst hf
   simp only [evOp] at hx ⊢
   split at hx
   ·rename_i hc
    rw [if_pos hc]
    exact yfm hl (fun id hi => e id (.inr hi)) hx
   ·cases hx
 case buildS sl es len zero parts =>
  cases sl with
  | none => cases hf
  | some j =>
   simp only [fpOf, Option.some.injEq] at hf
   subst hf
   simp only [evOp] at hx ⊢
   split at hx
   ·rename_i hc
    rw [if_pos hc]
    split at hx
    ·rename_i rows hr
     exact y6p hl (fun id hi => e id (.inr hi)) hx
    ·cases hx
   ·cases hx
 case mkS sl es bytes zero len cap =>
  cases sl with
  | none => cases hf
  | some j =>
   simp only [fpOf, Option.some.injEq] at hf
   subst hf
   simp only [evOp] at hx ⊢
   split at hx
   ·rename_i l c h3 h4
    split at hx
    ·rename_i hc
     rw [if_pos hc]
     exact y6p hl (fun id hi => e id (.inr hi)) hx
    ·cases hx
   ·cases hx
 case s2b sl x =>
  cases sl with
  | none => cases hf
  | some j =>
   simp only [fpOf, Option.some.injEq] at hf
   subst hf
   simp only [evOp] at hx ⊢
   split at hx
   ·rename_i s hs
    exact y6p hl (fun id hi => e id (.inr hi)) hx
   ·cases hx
 case mkm sl =>
  cases sl with
  | none => cases hf
  | some j =>
   simp only [fpOf, Option.some.injEq] at hf
   subst hf
   simp only [evOp] at hx ⊢
   split at hx
   ·rename_i id g h1 hp
    injection hx with hx
    injection hx with h3 h4
    subst h3; subst h4
    obtain ⟨_, h2', p1, p2⟩ := y6a hl (e _ (.inr (by simp))) hp
    rw [p1]
    exact ⟨h2', rfl, p2⟩
   ·cases hx
 case ld agg n a =>
  simp only [fpOf, Option.some.injEq] at hf
  subst hf
  simp only [evOp] at hx ⊢
  rw [y172 (fun id hi => e id (.inl hi))]
  cases hq : evLd agg n (a.ev t) h with
  | none => rw [hq] at hx; cases hx
  | some q =>
   rw [hq] at hx
   simp only [Option.map_some, Option.some.injEq, Prod.mk.injEq] at hx ⊢
   exact ⟨h2, ⟨hx.1, rfl⟩, Loc2.refl _ _⟩
 case len k a =>
  simp only [fpOf, Option.some.injEq] at hf
  subst hf
  simp only [evOp] at hx ⊢
  rw [yu6 (fun id hi => e id (.inl hi))]
  cases hq : y17 k (a.ev t) h with
  | none => rw [hq] at hx; cases hx
  | some q =>
   rw [hq] at hx
   simp only [Option.map_some, Option.some.injEq, Prod.mk.injEq] at hx ⊢
   exact ⟨h2, ⟨hx.1, rfl⟩, Loc2.refl _ _⟩
 case mget agg ks zero ok x k =>
  simp only [fpOf, Option.some.injEq] at hf
  subst hf
  simp only [evOp] at hx ⊢
  rw [yq2 (fun id hi => e id (.inl hi))]
  cases hq : y2z agg ks zero ok (x.ev t) (k.ev t) h with
  | none => rw [hq] at hx; cases hx
  | some q =>
   rw [hq] at hx
   simp only [Option.map_some, Option.some.injEq, Prod.mk.injEq] at hx ⊢
   exact ⟨h2, ⟨hx.1, rfl⟩, Loc2.refl _ _⟩
 case b2s x =>
  simp only [fpOf, Option.some.injEq] at hf
  subst hf
  simp only [evOp] at hx ⊢
  rw [y9u (fun id hi => e id (.inl hi))]
  split at hx
  ·cases hx
  ·rename_i hs
   rw [if_neg hs]
   split at hx
   ·rename_i rows hr
    cases hq : bytesOf rows with
    | none => rw [hq] at hx; cases hx
    | some q =>
     rw [hq] at hx
     simp only [Option.map_some, Option.some.injEq, Prod.mk.injEq] at hx ⊢
     exact ⟨h2, ⟨hx.1, rfl⟩, Loc2.refl _ _⟩
   ·cases hx
 case st n a x =>
  simp only [fpOf, Option.some.injEq] at hf
  subst hf
  simp only [evOp] at hx ⊢
  exact y16m hl (fun id hi => e id (.inr hi)) hx
 case call sl ro f args =>
  simp only [fpOf] at hf
  split at hf
  ·rename_i hp
   simp only [evOp, yc, hp, if_true] at hx ⊢
   exact ysv hl hf e hx
  ·cases hf
 case app sl es bytes x y =>
  cases sl with
  | none => cases hf
  | some j =>
   simp only [fpOf, Option.some.injEq] at hf
   subst hf
   simp only [evOp] at hx ⊢
   exact yui hl (fun id hi => e id (.inl hi)) (fun id hi => e id (.inr hi)) hx
 case cpy es x y =>
  simp only [fpOf, Option.some.injEq] at hf
  subst hf
  simp only [evOp] at hx ⊢
  exact yul hl (fun id hi => e id (.inl hi)) (fun id hi => e id (.inr hi)) hx
 case mput agg ks x k y =>
  simp only [fpOf, Option.some.injEq] at hf
  subst hf
  simp only [evOp] at hx ⊢
  exact yrv hl (fun id hi => e id (.inr hi)) hx
 case mdel agg ks x k =>
  simp only [fpOf, Option.some.injEq] at hf
  subst hf
  simp only [evOp] at hx ⊢
  exact yr9 hl (fun id hi => e id (.inr hi)) hx
 case mclr x =>
  simp only [fpOf, Option.some.injEq] at hf
  subst hf
  simp only [evOp] at hx ⊢
  exact yrs hl (fun id hi => e id (.inr hi)) hx
 all_goals first | (simp [fpOf] at hf; done) | (exfalso; exact hT rfl)
end Go.Vm
/- The value machine: operations whose order is open. -/
namespace Go.Vm
variable {P : Program} {nm : Nat → Option Nat} {w : World} {F : Nat → Prop} {m : MapT} {h : Heap} {G : List Nat}
def direct (o : Oper) : List Nat := (o.after.toList.filter (Region.binds .any)).map (·.on)
def masks : Nat → List Oper → List Nat → List Nat
 | _, [], acc => acc
 | j, o :: os, acc =>
  match (direct o).foldl (fun m i => m ||| (2 ^ i ||| acc.getD (j - 1 - i) 0)) 0 with
  | 0 => masks (j + 1) os (0 :: acc)
  | m + 1 => masks (j + 1) os ((m + 1) :: acc)
def y2ih (n m : Nat) : List Nat := (List.range n).filter fun i => m.testBit i
def ancs (os : List Oper) : List (List Nat) := (masks 0 os []).reverse.map (y2ih os.length)
def y1xv (A : List (List Nat)) : Nat → List Oper → Bool
 | _, [] => true
 | j, o :: os => (direct o).all (fun k => decide (k < j)) && (A.getD j []).all (fun i => (direct o).contains i || (direct o).any fun k => (A.getD k []).contains i) && y1xv A (j + 1) os
def Opd.tm : Opd → List Nat
 | .t n => [n]
 | .c _ => []
def CI.reads (c : CI) : List Nat := c.op.opds.flatMap Opd.tm ++ (match c.g with
 | some (d, _) => [d]
 | none => [])
def CI.wr (c : CI) : List Nat := c.dst.toList
def ysx (a b : CI) : Bool := !meets a.wr b.wr && !meets a.wr b.reads && !meets a.reads b.wr
def yhu (A : List (List Nat)) (pairs : List (Nat × Nat)) (i j : Nat) (a b : CI) : Bool :=
 (A.getD j []).contains i || (ysx a b && (a.op.isT || b.op.isT || (a.op.isL && b.op.isL) || (pairs.contains (i, j) && !a.op.isB && !b.op.isB)))
def ycz (A : List (List Nat)) (pairs : List (Nat × Nat)) (i : Nat) (a : CI) : Nat → List CI → Bool
 | _, [] => true
 | j, b :: bs => yhu A pairs i j a b && ycz A pairs i a (j + 1) bs
def ygj (A : List (List Nat)) (pairs : List (Nat × Nat)) : Nat → List CI → Bool
 | _, [] => true
 | i, a :: as => ycz A pairs i a (i + 1) as && ygj A pairs (i + 1) as
def yeq (P : Program) (nm : Nat → Option Nat) (N : FrN) (ops : Array Oper) (cs : List CI) (pairs : List (Nat × Nat)) : Bool :=
 y6i P nm N ops ops.toList cs && y1xv (ancs ops.toList) 0 ops.toList && ygj (ancs ops.toList) pairs 0 cs
theorem yej {A : List (List Nat)} : ∀ (os : List Oper) (j0 : Nat), y1xv A j0 os = true → ∀ (j : Nat) (o : Oper), os[j]? = some o →
  (∀ k, k ∈ direct o → k < j0 + j) ∧ ∀ i, i ∈ A.getD (j0 + j) [] → i ∈ direct o ∨ ∃ k, k ∈ direct o ∧ i ∈ A.getD k []
 | [], _, _, j, o, h => by simp at h
 | o0 :: os, j0, hk, j, o, h => by
  simp only [y1xv, zc, z19, decide_eq_true_eq, z1k, z39, z3h] at hk
  cases j with
  | zero =>
   simp only [List.getElem?_cons_zero, Option.some.injEq] at h
   subst h
   exact ⟨hk.1.1, fun i hi => hk.1.2 i hi⟩
  | succ j =>
   simp only [List.getElem?_cons_succ] at h
   have := yej os (j0 + 1) hk.2 j o h
   rw [show j0 + 1 + j = j0 + (j + 1) by omega] at this
   exact this
theorem ybp {A : List (List Nat)} {pairs : List (Nat × Nat)} {i : Nat} {a : CI} : ∀ (bs : List CI) (j0 : Nat), ycz A pairs i a j0 bs = true → ∀ (j : Nat) (b : CI), bs[j]? = some b → yhu A pairs i (j0 + j) a b = true
 | [], _, _, j, b, h => by simp at h
 | b0 :: bs, j0, hk, j, b, h => by
  simp only [ycz, zc] at hk
  cases j with
  | zero =>
   simp only [List.getElem?_cons_zero, Option.some.injEq] at h
   subst h
   exact hk.1
  | succ j =>
   simp only [List.getElem?_cons_succ] at h
   have := ybp bs (j0 + 1) hk.2 j b h
   rw [show j0 + 1 + j = j0 + (j + 1) by omega] at this
   exact this
theorem y7v {A : List (List Nat)} {pairs : List (Nat × Nat)} : ∀ (cs : List CI) (i0 : Nat), ygj A pairs i0 cs = true → ∀ (i j : Nat) (a b : CI), i < j → cs[i]? = some a → cs[j]? = some b → yhu A pairs (i0 + i) (i0 + j) a b = true
 | [], _, _, i, j, a, b, _, h, _ => by simp at h
 | c :: cs, i0, hk, i, j, a, b, hij, ha, hb => by
  simp only [ygj, zc] at hk
  cases j with
  | zero => omega
  | succ j =>
   simp only [List.getElem?_cons_succ] at hb
   cases i with
   | zero =>
    simp only [List.getElem?_cons_zero, Option.some.injEq] at ha
    subst ha
    have := ybp cs (i0 + 1) hk.1 j b hb
    rw [show i0 + 1 + j = i0 + (j + 1) by omega] at this
    exact this
   | succ i =>
    simp only [List.getElem?_cons_succ] at ha
    have := y7v cs (i0 + 1) hk.2 i j a b (by omega) ha hb
    rw [show i0 + 1 + i = i0 + (i + 1) by omega, show i0 + 1 + j = i0 + (j + 1) by omega] at this
    exact this
theorem y3b {a b : List Nat} (h : (!meets a b) = true) {x : Nat} (ha : x ∈ a) : x ∉ b := by
 intro hb
 simp only [meets, z1u, List.any_eq_false, z3g] at h
 have := h x ha
 rw [z31] at this
 simp [hb] at this
structure Trace (E : Env) (C : Calls2) (fb : Nat) (cs : List CI) (S : Nat → St) (fp : Nat → List Nat × List Nat) : Prop where
 step : ∀ (j : Nat) (c : CI), cs[j]? = some c → fpB E C fb c (S j) = some (fp j) ∧ y2b E C fb c (S j) = some (S (j + 1))
theorem yj6 {E : Env} {C : Calls2} {fb : Nat} : ∀ (cs : List CI) (s s' : St) (fs : List (List Nat × List Nat)), y7o E C fb cs s = some (s', fs) →
  ∃ S fp, Trace E C fb cs S fp ∧ S 0 = s ∧ S cs.length = s' ∧ ∀ (j : Nat) (f : List Nat × List Nat), j < cs.length → fs[j]? = some f → f = fp j
 | [], s, s', fs, h => by
  simp only [y7o] at h
  injection h with h
  injection h with h1 h2
  exact ⟨fun _ => s, fun _ => ([], []), ⟨fun j c hc => by simp at hc⟩, rfl, h1, fun j f hj => by simp at hj⟩
 | c :: cs, s, s', fs, h => by
  simp only [y7o] at h
  split at h
  ·rename_i f s1 hf hs
   split at h
   ·rename_i s2 fs2 hr
    injection h with h
    injection h with h1 h2
    subst h1; subst h2
    obtain ⟨S, fp, T, e0, e1, e2⟩ := yj6 cs s1 s2 fs2 hr
    refine ⟨fun j => match j with | 0 => s | j + 1 => S j, fun j => match j with | 0 => f | j + 1 => fp j, ⟨fun j c' hc => ?_⟩, rfl, e1, fun j f' hj hf' => ?_⟩
    ·cases j with
     | zero =>
      simp only [List.getElem?_cons_zero, Option.some.injEq] at hc
      subst hc
      simp only
      rw [e0]
      exact ⟨hf, hs⟩
     | succ j => exact T.step j c' (by simpa using hc)
    ·cases j with
     | zero => simp at hf'; exact hf'.symm
     | succ j => exact e2 j f' (by simp at hj; omega) (by simpa using hf')
   ·cases h
  ·cases h
theorem y2i (d : Option Nat) (v : AV) (t : Tmps) (x : Nat) : tget (tput d v t) x = if d = some x then v else tget t x := by
 cases d with
 | none => simp [tput]
 | some d =>
  simp only [tput, tget, Option.some.injEq]
theorem y14k {t t2 : Tmps} {x : Opd} (h : ∀ n, n ∈ x.tm → tget t n = tget t2 n) : x.ev t = x.ev t2 := by
 cases x with
 | t n => exact h n (by simp [Opd.tm])
 | c v => rfl
theorem y8g {t t2 : Tmps} {g : Option (Nat × Bool)} (h : ∀ d want, g = some (d, want) → tget t d = tget t2 d) : wants t g = wants t2 g := by
 cases g with
 | none => rfl
 | some p =>
  obtain ⟨d, want⟩ := p
  simp only [wants, h d want rfl]
theorem ym1 {E : Env} {C : Calls2} {fb : Nat} {c : CI} {s s' s2 : St} {f : List Nat × List Nat} (hf : fpCI E C fb c s = some f) (hx : y2b E C fb c s = some s') (ht : ∀ x, x ∈ c.reads → tget s2.t x = tget s.t x)
  (hl : s2.h.length = s.h.length) (he : ∀ id, id ∈ f.1 ∨ id ∈ f.2 → s2.h[id]? = s.h[id]?) :
  ∃ s2', y2b E C fb c s2 = some s2' ∧ (∀ x, x ∈ c.wr → tget s2'.t x = tget s'.t x) ∧ (∀ x, x ∉ c.wr → tget s2'.t x = tget s2.t x) ∧ Loc2 f.2 s'.h s2.h s2'.h := by
 have hw : wants s2.t c.g = wants s.t c.g := y8g fun d want e => ht d (by simp [CI.reads, e])
 have ho : ∀ x, x ∈ c.op.opds → x.ev s2.t = x.ev s.t := fun x hx => y14k fun n hn => ht n (z1z _ (List.mem_flatMap.2 ⟨x, hx, hn⟩))
 unfold fpCI at hf
 unfold y2b at hx ⊢
 rw [hw]
 split at hx
 ·rename_i hwt
  rw [hwt] at hf
  simp only at hf
  split at hx
  ·rename_i v h' hv
   injection hx with hx
   subst hx
   obtain ⟨h2', p1, p2⟩ := y163 hl hf he hv
   rw [yb6 (t := s2.t) (t2 := s.t) ho, p1]
   refine ⟨_, rfl, fun x hx => ?_, fun x hx => ?_, p2⟩
   ·rw [y2i, y2i]
    simp only [CI.wr, z24, z2g] at hx
    rw [if_pos hx, if_pos hx]
   ·rw [y2i]
    simp only [CI.wr, z24, z2g] at hx
    rw [if_neg hx]
  ·cases hx
 ·rename_i hwt
  rw [hwt] at hf
  simp only at hf
  injection hf with hf
  subst hf
  injection hx with hx
  subst hx
  refine ⟨_, rfl, fun x hx => ?_, fun x hx => ?_, Loc2.refl _ _⟩
  ·rw [y2i, y2i]
   simp only [CI.wr, z24, z2g] at hx
   rw [if_pos hx, if_pos hx]
  ·rw [y2i]
   simp only [CI.wr, z24, z2g] at hx
   rw [if_neg hx]
 ·cases hx
theorem ypv {E : Env} {C : Calls2} {fb : Nat} {c : CI} {s : St} (hB : c.op.isB = false) : fpB E C fb c s = fpCI E C fb c s := by
 unfold fpB; rw [hB]
theorem y1xk {E : Env} {C : Calls2} {fb : Nat} {c : CI} {s s' : St} (hx : y2b E C fb c s = some s') : ∀ x, x ∉ c.wr → tget s'.t x = tget s.t x := by
 have key : ∀ v x, x ∉ c.wr → tget (tput c.dst v s.t) x = tget s.t x := by
  intro v x hx
  rw [y2i]
  simp only [CI.wr, z24, z2g] at hx
  rw [if_neg hx]
 unfold y2b at hx
 split at hx
 ·split at hx
  ·injection hx with hx
   subst hx
   exact key _
  ·cases hx
 ·injection hx with hx
  subst hx
  exact key _
 ·cases hx
def yew (cs : List CI) (k : Nat) : Prop := ∃ c, cs[k]? = some c ∧ c.op.isB = true
def WrO (cs : List CI) (fp : Nat → List Nat × List Nat) (k id : Nat) : Prop := yew cs k ∨ id ∈ (fp k).2
def RdO (cs : List CI) (fp : Nat → List Nat × List Nat) (k id : Nat) : Prop := yew cs k ∨ id ∈ (fp k).1
theorem Trace.keep {E : Env} {C : Calls2} {fb : Nat} {cs : List CI} {S : Nat → St} {fp : Nat → List Nat × List Nat} (T : Trace E C fb cs S fp) {j : Nat} {c : CI} (hc : cs[j]? = some c) :
  (∀ x, x ∉ c.wr → tget (S (j + 1)).t x = tget (S j).t x) ∧ (¬ yew cs j → (S (j + 1)).h.length = (S j).h.length) ∧ ∀ id, ¬ WrO cs fp j id → (S (j + 1)).h[id]? = (S j).h[id]? := by
 obtain ⟨h1, h2⟩ := T.step j c hc
 refine ⟨y1xk h2, ?_⟩
 cases hB : c.op.isB with
 | true => exact ⟨fun h => (h ⟨c, hc, hB⟩).elim, fun id h => (h (.inl ⟨c, hc, hB⟩)).elim⟩
 | false =>
  rw [ypv hB] at h1
  obtain ⟨s2', p1, p2, p3, p4⟩ := ym1 h1 h2 (fun _ _ => rfl) rfl (fun _ _ => rfl)
  rw [h2] at p1
  injection p1 with p1
  subst p1
  exact ⟨fun _ => p4.1, fun id h => p4.2.2 id fun hi => h (.inr hi)⟩
def y5b {α : Type} (n : Nat) (wr : Nat → Prop) (D : Nat → Prop) (val : Nat → α) (cur : α) : Prop := ∀ j, j ≤ n → (∀ k, k < n → wr k → (D k ↔ k < j)) → cur = val j
theorem ymx {α : Type} {n : Nat} {wr : Nat → Prop} {val : Nat → α} (hk : ∀ k, k < n → ¬ wr k → val (k + 1) = val k) {i : Nat} : ∀ (d : Nat), i + d ≤ n → (∀ k, i ≤ k → k < i + d → ¬ wr k) → val (i + d) = val i
 | 0, _, _ => rfl
 | d + 1, hn, hw => by
  rw [show i + (d + 1) = i + d + 1 by omega, hk (i + d) (by omega) (hw _ (by omega) (by omega))]
  exact ymx hk d (by omega) (fun k h1 h2 => hw k h1 (by omega))
theorem y5b.start {α : Type} {n : Nat} {wr : Nat → Prop} {D : Nat → Prop} {val : Nat → α} (hk : ∀ k, k < n → ¬ wr k → val (k + 1) = val k) (hD : ∀ k, ¬ D k) : y5b n wr D val (val 0) := by
 intro j hj hw
 have := ymx (i := 0) hk j (by omega) (fun k _ hlt hwr => hD k ((hw k (by omega) hwr).2 (by omega)))
 rw [zd] at this
 exact this.symm
theorem y5b.at {α : Type} {n : Nat} {wr : Nat → Prop} {D : Nat → Prop} {val : Nat → α} {cur : α} (h : y5b n wr D val cur) {i : Nat} (hi : i < n) (hDi : ¬ D i) (hlo : ∀ k, k < i → wr k → D k) (hhi : ∀ k, i < k → k < n → wr k → ¬ D k) :
  cur = val i := by
 refine h i (by omega) fun k hk hw => ?_
 rcases Nat.lt_trichotomy k i with hlt | rfl | hgt
 ·exact ⟨fun _ => hlt, fun _ => hlo k hlt hw⟩
 ·exact ⟨fun h => (hDi h).elim, fun h => by omega⟩
 ·exact ⟨fun h => (hhi k hgt hk hw h).elim, fun h => by omega⟩
theorem y5b.done {α : Type} {n : Nat} {wr : Nat → Prop} {D D' : Nat → Prop} {val : Nat → α} {cur cur' : α} (hk : ∀ k, k < n → ¬ wr k → val (k + 1) = val k) (h : y5b n wr D val cur) {i : Nat} (hi : i < n) (hD' : ∀ k, D' k ↔ D k ∨ k = i)
  (hhi : wr i → ∀ k, i < k → k < n → wr k → ¬ D k) (h1 : wr i → cur' = val (i + 1)) (h2 : ¬ wr i → cur' = cur) : y5b n wr D' val cur' := by
 intro j hj hw
 by_cases hwi : wr i
 ·have hij : i < j := (hw i hi hwi).1 ((hD' i).2 (.inr rfl))
  rw [h1 hwi]
  have := ymx (i := i + 1) hk (j - (i + 1)) (by omega) (fun k k1 k2 k3 => hhi hwi k (by omega) (by omega) k3 (by
   have := (hD' k).1 ((hw k (by omega) k3).2 (by omega))
   rcases this with h | h
   ·exact h
   ·omega))
  rw [show i + 1 + (j - (i + 1)) = j by omega] at this
  exact this.symm
 ·rw [h2 hwi]
  refine h j hj fun k hk2 hwk => ?_
  rw [← hw k hk2 hwk, hD']
  constructor
  ·exact .inl
  ·rintro (h | rfl)
   ·exact h
   ·exact (hwi hwk).elim
structure DState (cs : List CI) (S : Nat → St) (fp : Nat → List Nat × List Nat) (D : Nat → Prop) (s : St) : Prop where
 len : y5b cs.length (yew cs) D (fun j => (S j).h.length) s.h.length
 t : ∀ x, y5b cs.length (fun k => ∃ c, cs[k]? = some c ∧ x ∈ c.wr) D (fun j => tget (S j).t x) (tget s.t x)
 o : ∀ id, y5b cs.length (fun k => WrO cs fp k id) D (fun j => (S j).h[id]?) s.h[id]?
theorem y3c {cs : List CI} {k : Nat} (h : k < cs.length) : ∃ c, cs[k]? = some c := ⟨cs[k], z9 h⟩
section
variable {E : Env} {C : Calls2} {fb : Nat} {cs : List CI} {S : Nat → St} {fp : Nat → List Nat × List Nat}
theorem Trace.keepT (T : Trace E C fb cs S fp) (x : Nat) (k : Nat) (hk : k < cs.length) (hw : ¬ ∃ c, cs[k]? = some c ∧ x ∈ c.wr) : tget (S (k + 1)).t x = tget (S k).t x := by
 obtain ⟨c, hc⟩ := y3c hk
 exact (T.keep hc).1 x (fun h => hw ⟨c, hc, h⟩)
theorem Trace.keepO (T : Trace E C fb cs S fp) (id : Nat) (k : Nat) (hk : k < cs.length) (hw : ¬ WrO cs fp k id) : (S (k + 1)).h[id]? = (S k).h[id]? := by
 obtain ⟨c, hc⟩ := y3c hk
 exact (T.keep hc).2.2 id hw
theorem Trace.keepL (T : Trace E C fb cs S fp) (k : Nat) (hk : k < cs.length) (hw : ¬ yew cs k) : (S (k + 1)).h.length = (S k).h.length := by
 obtain ⟨c, hc⟩ := y3c hk
 exact (T.keep hc).2.1 hw
structure Free (cs : List CI) (fp : Nat → List Nat × List Nat) (i j : Nat) : Prop where
 t : ∀ a b, cs[i]? = some a → cs[j]? = some b → ∀ x, (x ∈ a.wr → x ∉ b.wr ∧ x ∉ b.reads) ∧ (x ∈ a.reads → x ∉ b.wr)
 o : ∀ id, (WrO cs fp i id → ¬ RdO cs fp j id ∧ ¬ WrO cs fp j id) ∧ (RdO cs fp i id → ¬ WrO cs fp j id)
 l : ∀ a b, cs[i]? = some a → cs[j]? = some b → (a.op.isB = true → b.op.isT = true) ∧ (b.op.isB = true → a.op.isT = true)
theorem yu8 {op : COp} (h : op.isT = true) : op.isB = false := by
 cases op <;> first | rfl | cases h
theorem y1tx {op : COp} (h : op.isL = true) : op.isB = false := by
 cases op <;> first | rfl | cases h
theorem y27m {c : CI} {s : St} {f : List Nat × List Nat} (hT : c.op.isT = true) (hf : fpCI E C fb c s = some f) : f = ([], []) := by
 unfold fpCI at hf
 split at hf
 ·rw [yx1 hT] at hf; injection hf with hf; exact hf.symm
 ·injection hf with hf; exact hf.symm
 ·cases hf
theorem y2i5 {c : CI} {s : St} {f : List Nat × List Nat} (hT : c.op.isL = true) (hf : fpCI E C fb c s = some f) : f.2 = [] := by
 unfold fpCI at hf
 split at hf
 ·exact y22h hT hf
 ·injection hf with hf; rw [← hf]
 ·cases hf
theorem y1bw {A : List (List Nat)} {pairs : List (Nat × Nat)} (T : Trace E C fb cs S fp) {fs : List (List Nat × List Nat)} (hfs : ∀ (j : Nat) (f : List Nat × List Nat), j < cs.length → fs[j]? = some f → f = fp j) (hp : y1o fs pairs = true)
  {i j : Nat} {a b : CI} (ha : cs[i]? = some a) (hb : cs[j]? = some b) (hk : yhu A pairs i j a b = true) : i ∈ A.getD j [] ∨ Free cs fp i j := by
 simp only [yhu, z1k, zc, z39] at hk
 rcases hk with hk | ⟨h1, h2⟩
 ·exact .inl hk
 have nb : ∀ {k : Nat} {c : CI}, cs[k]? = some c → c.op.isB = false → ¬ yew cs k := by
  rintro k c hc hB ⟨c', hc', hB'⟩
  rw [hc] at hc'; injection hc' with hc'; subst hc'
  rw [hB] at hB'; cases hB'
 have nT : ∀ {k : Nat} {c : CI}, cs[k]? = some c → c.op.isT = true → ∀ id, ¬ WrO cs fp k id ∧ ¬ RdO cs fp k id := by
  intro k c hc hT id
  have h := (T.step k c hc).1
  rw [ypv (yu8 hT)] at h
  have e := y27m hT h
  refine ⟨?_, ?_⟩
  ·rintro (hw | hw)
   ·exact nb hc (yu8 hT) hw
   ·rw [e] at hw; cases hw
  ·rintro (hw | hw)
   ·exact nb hc (yu8 hT) hw
   ·rw [e] at hw; cases hw
 have nL : ∀ {k : Nat} {c : CI}, cs[k]? = some c → c.op.isL = true → ∀ id, ¬ WrO cs fp k id := by
  intro k c hc hT id
  have h := (T.step k c hc).1
  rw [ypv (y1tx hT)] at h
  have e := y2i5 hT h
  rintro (hw | hw)
  ·exact nb hc (y1tx hT) hw
  ·rw [e] at hw; cases hw
 refine .inr ⟨fun a' b' ha' hb' x => ?_, fun id => ?_, fun a' b' ha' hb' => ?_⟩
 ·rw [ha] at ha'; injection ha' with ha'; subst ha'
  rw [hb] at hb'; injection hb' with hb'; subst hb'
  simp only [ysx, zc] at h1
  exact ⟨fun hx => ⟨y3b h1.1.1 hx, y3b h1.1.2 hx⟩, fun hx => y3b h1.2 hx⟩
 ·rcases h2 with ((h2 | h2) | h2) | h2
  ·exact ⟨fun h => ((nT ha h2 id).1 h).elim, fun h => ((nT ha h2 id).2 h).elim⟩
  ·exact ⟨fun _ => ⟨(nT hb h2 id).2, (nT hb h2 id).1⟩, fun _ => (nT hb h2 id).1⟩
  ·exact ⟨fun h => (nL ha h2.1 id h).elim, fun _ => nL hb h2.2 id⟩
  ·obtain ⟨⟨h2, hBa⟩, hBb⟩ := h2
   simp only [z1u] at hBa hBb
   simp only [y1o, z19] at hp
   have := hp _ h2
   simp only at this
   split at this
   ·rename_i x y hx hy
    have e1 := hfs i x (zb.1 ha).1 hx
    have e2 := hfs j y (zb.1 hb).1 hy
    subst e1; subst e2
    simp only [y3a, zc] at this
    refine ⟨?_, ?_⟩
    ·rintro (h | h)
     ·exact (nb ha hBa h).elim
     ·refine ⟨?_, ?_⟩
      ·rintro (h' | h')
       ·exact nb hb hBb h'
       ·exact y3b this.1.1 h h'
      ·rintro (h' | h')
       ·exact nb hb hBb h'
       ·exact y3b this.1.2 h h'
    ·rintro (h | h) (h' | h')
     ·exact (nb ha hBa h).elim
     ·exact (nb ha hBa h).elim
     ·exact nb hb hBb h'
     ·exact y3b this.2 h h'
   ·cases this
 ·rw [ha] at ha'; injection ha' with ha'; subst ha'
  rw [hb] at hb'; injection hb' with hb'; subst hb'
  rcases h2 with ((h2 | h2) | h2) | h2
  ·exact ⟨fun h => (by rw [yu8 h2] at h; cases h), fun _ => h2⟩
  ·exact ⟨fun _ => h2, fun h => (by rw [yu8 h2] at h; cases h)⟩
  ·exact ⟨fun h => (by rw [y1tx h2.1] at h; cases h), fun h => (by rw [y1tx h2.2] at h; cases h)⟩
  ·simp only [z1u] at h2
   exact ⟨fun h => (by rw [h2.1.2] at h; cases h), fun h => (by rw [h2.2] at h; cases h)⟩
theorem Free.symm {i j : Nat} (h : Free cs fp i j) : Free cs fp j i := by
 refine ⟨fun a b ha hb x => ?_, fun id => ?_, fun a b ha hb => ((h.l b a hb ha).symm)⟩
 ·have := h.t b a hb ha x
  exact ⟨fun hx => ⟨fun hy => (this.1 hy).1 hx, fun hy => this.2 hy hx⟩, fun hx hy => (this.1 hy).2 hx⟩
 ·have := h.o id
  exact ⟨fun hx => ⟨fun hy => this.2 hy hx, fun hy => (this.1 hy).2 hx⟩, fun hx hy => (this.1 hy).1 hx⟩
theorem dstep (T : Trace E C fb cs S fp) {D : Nat → Prop} {s : St} (R : DState cs S fp D s) {i : Nat} {c : CI} (hc : cs[i]? = some c) (hDi : ¬ D i)
  (hlo : ∀ k, k < i → ¬ D k → Free cs fp k i) (hhi : ∀ k, i < k → k < cs.length → D k → Free cs fp k i) :
  ∃ s2, y2b E C fb c s = some s2 ∧ ∀ D' : Nat → Prop, (∀ k, D' k ↔ D k ∨ k = i) → DState cs S fp D' s2 := by
 have hi : i < cs.length := (zb.1 hc).1
 obtain ⟨h1, h2⟩ := T.step i c hc
 have clT : ∀ x, (x ∈ c.reads ∨ x ∈ c.wr) → (∀ k, k < i → (∃ b, cs[k]? = some b ∧ x ∈ b.wr) → D k) ∧ ∀ k, i < k → k < cs.length → (∃ b, cs[k]? = some b ∧ x ∈ b.wr) → ¬ D k := by
  intro x hx
  refine ⟨fun k hk ⟨b, hb, hw⟩ => Classical.byContradiction fun hn => ?_, fun k hk hkn ⟨b, hb, hw⟩ hD => ?_⟩
  ·have := ((hlo k hk hn).t b c hb hc x).1 hw
   rcases hx with hx | hx
   ·exact this.2 hx
   ·exact this.1 hx
  ·have := ((hhi k hk hkn hD).t b c hb hc x).1 hw
   rcases hx with hx | hx
   ·exact this.2 hx
   ·exact this.1 hx
 have clO : ∀ id, (RdO cs fp i id ∨ WrO cs fp i id) → (∀ k, k < i → WrO cs fp k id → D k) ∧ ∀ k, i < k → k < cs.length → WrO cs fp k id → ¬ D k := by
  intro id hx
  refine ⟨fun k hk hw => Classical.byContradiction fun hn => ?_, fun k hk hkn hw hD => ?_⟩
  ·have := ((hlo k hk hn).o id).1 hw
   rcases hx with hx | hx
   ·exact this.1 hx
   ·exact this.2 hx
  ·have := ((hhi k hk hkn hD).o id).1 hw
   rcases hx with hx | hx
   ·exact this.1 hx
   ·exact this.2 hx
 -- operations that look at the heap's length come behind all calls in the caller's heap that stand ahead of them
 have clL : c.op.isT = false → (∀ k, k < i → yew cs k → D k) ∧ ∀ k, i < k → k < cs.length → yew cs k → ¬ D k := by
  intro hT
  refine ⟨fun k hk ⟨b, hb, hB⟩ => Classical.byContradiction fun hn => ?_, fun k hk hkn ⟨b, hb, hB⟩ hD => ?_⟩
  ·have := ((hlo k hk hn).l b c hb hc).1 hB
   rw [hT] at this; cases this
  ·have := ((hhi k hk hkn hD).l b c hb hc).1 hB
   rw [hT] at this; cases this
 have tEq : ∀ x, x ∈ c.reads → tget s.t x = tget (S i).t x := fun x hx => (R.t x).at hi hDi (clT x (.inl hx)).1 (clT x (.inl hx)).2
 have key : ∃ s2, y2b E C fb c s = some s2 ∧ (∀ x, x ∈ c.wr → tget s2.t x = tget (S (i + 1)).t x) ∧ (∀ x, x ∉ c.wr → tget s2.t x = tget s.t x) ∧
   (yew cs i → s2.h.length = (S (i + 1)).h.length) ∧ (¬ yew cs i → s2.h.length = s.h.length) ∧
   (∀ id, WrO cs fp i id → s2.h[id]? = (S (i + 1)).h[id]?) ∧ ∀ id, ¬ WrO cs fp i id → s2.h[id]? = s.h[id]? := by
  cases hT : c.op.isT with
  | true =>
   have hB := yu8 hT
   have nb : ¬ yew cs i := by
    rintro ⟨c', hc', hB'⟩
    rw [hc] at hc'; injection hc' with hc'; subst hc'
    rw [hB] at hB'; cases hB'
   rw [ypv hB] at h1
   have ef := y27m hT h1
   have nW : ∀ id, ¬ WrO cs fp i id := by
    rintro id (h | h)
    ·exact nb h
    ·rw [ef] at h; cases h
   have ho : ∀ x, x ∈ c.op.opds → x.ev s.t = x.ev (S i).t := fun x hx => y14k fun n hn => tEq n (z1z _ (List.mem_flatMap.2 ⟨x, hx, hn⟩))
   have hw : wants s.t c.g = wants (S i).t c.g := y8g fun d want e => tEq d (by simp [CI.reads, e])
   have wr : ∀ (v : AV) (t t' : Tmps) x, x ∈ c.wr → tget (tput c.dst v t) x = tget (tput c.dst v t') x := by
    intro v t t' x hx
    rw [y2i, y2i]
    simp only [CI.wr, z24, z2g] at hx
    rw [if_pos hx, if_pos hx]
   have nwr : ∀ (v : AV) (t : Tmps) x, x ∉ c.wr → tget (tput c.dst v t) x = tget t x := by
    intro v t x hx
    rw [y2i]
    simp only [CI.wr, z24, z2g] at hx
    rw [if_neg hx]
   unfold y2b at h2 ⊢
   rw [hw]
   split at h2
   ·split at h2
    ·rename_i v h' hv
     injection h2 with h2
     rw [yb6 (t := s.t) (t2 := (S i).t) ho]
     rw [ygg hT] at hv ⊢
     cases hq : evOp E C fb (S i).t [] c.op with
     | none => rw [hq] at hv; cases hv
     | some q =>
      rw [hq] at hv
      simp only [Option.map_some, Option.some.injEq, Prod.mk.injEq] at hv
      obtain ⟨rfl, _⟩ := hv
      rw [← h2]
      exact ⟨_, rfl, fun x hx => wr _ _ _ x hx, fun x hx => nwr _ _ x hx, fun h => (nb h).elim, fun _ => rfl, fun id h => (nW id h).elim, fun _ _ => rfl⟩
    ·cases h2
   ·injection h2 with h2
    rw [← h2]
    exact ⟨_, rfl, fun x hx => wr _ _ _ x hx, fun x hx => nwr _ _ x hx, fun h => (nb h).elim, fun _ => rfl, fun id h => (nW id h).elim, fun _ _ => rfl⟩
   ·cases h2
  | false =>
   have hL : s.h.length = (S i).h.length := R.len.at hi hDi (clL hT).1 (clL hT).2
   cases hB : c.op.isB with
   | true =>
    have hb : yew cs i := ⟨c, hc, hB⟩
    have hh : s.h = (S i).h := z1r fun id => (R.o id).at hi hDi (clO id (.inl (.inl hb))).1 (clO id (.inl (.inl hb))).2
    have ho : ∀ x, x ∈ c.op.opds → x.ev s.t = x.ev (S i).t := fun x hx => y14k fun n hn => tEq n (z1z _ (List.mem_flatMap.2 ⟨x, hx, hn⟩))
    have hw : wants s.t c.g = wants (S i).t c.g := y8g fun d want e => tEq d (by simp [CI.reads, e])
    have wr : ∀ (v : AV) (t t' : Tmps) x, x ∈ c.wr → tget (tput c.dst v t) x = tget (tput c.dst v t') x := by
     intro v t t' x hx
     rw [y2i, y2i]
     simp only [CI.wr, z24, z2g] at hx
     rw [if_pos hx, if_pos hx]
    have nwr : ∀ (v : AV) (t : Tmps) x, x ∉ c.wr → tget (tput c.dst v t) x = tget t x := by
     intro v t x hx
     rw [y2i]
     simp only [CI.wr, z24, z2g] at hx
     rw [if_neg hx]
    unfold y2b at h2 ⊢
    rw [hw, hh]
    split at h2
    ·split at h2
     ·rename_i v h' hv
      injection h2 with h2
      rw [yb6 (t := s.t) (t2 := (S i).t) ho, hv]
      rw [← h2]
      exact ⟨_, rfl, fun x hx => wr _ _ _ x hx, fun x hx => nwr _ _ x hx, fun _ => rfl, fun h => (h hb).elim, fun _ _ => rfl, fun id h => (h (.inl hb)).elim⟩
     ·cases h2
    ·injection h2 with h2
     rw [← h2]
     exact ⟨_, rfl, fun x hx => wr _ _ _ x hx, fun x hx => nwr _ _ x hx, fun _ => rfl, fun h => (h hb).elim, fun _ _ => rfl, fun id h => (h (.inl hb)).elim⟩
    ·cases h2
   | false =>
    have nb : ¬ yew cs i := by
     rintro ⟨c', hc', hB'⟩
     rw [hc] at hc'; injection hc' with hc'; subst hc'
     rw [hB] at hB'; cases hB'
    rw [ypv hB] at h1
    obtain ⟨s2, p1, p2, p3, p4⟩ := ym1 (s2 := s) h1 h2 tEq hL
     (fun id hid => (R.o id).at hi hDi (clO id (hid.imp .inr .inr)).1 (clO id (hid.imp .inr .inr)).2)
    refine ⟨s2, p1, p2, p3, fun h => (nb h).elim, fun _ => p4.1, fun id hw => ?_, fun id hw => p4.2.2 id fun h => hw (.inr h)⟩
    rcases hw with h | h
    ·exact (nb h).elim
    ·exact p4.2.1 id h
 obtain ⟨s2, p1, p2, p3, p4, p5, p6, p7⟩ := key
 refine ⟨s2, p1, fun D' hD' => ⟨?_, fun x => ?_, fun id => ?_⟩⟩
 ·refine R.len.done T.keepL hi hD' (fun hw => ?_) p4 p5
  obtain ⟨c', hc', hB⟩ := hw
  rw [hc] at hc'; injection hc' with hc'; subst hc'
  refine (clL ?_).2
  cases hT : c.op.isT with
  | false => rfl
  | true => rw [yu8 hT] at hB; cases hB
 ·refine (R.t x).done (T.keepT x) hi hD' (fun hw => ?_) (fun hw => ?_) (fun hw => ?_)
  ·obtain ⟨c', hc', hx⟩ := hw
   rw [hc] at hc'; injection hc' with hc'; subst hc'
   exact (clT x (.inr hx)).2
  ·obtain ⟨c', hc', hx⟩ := hw
   rw [hc] at hc'; injection hc' with hc'; subst hc'
   exact p2 x hx
  ·exact p3 x (fun hx => hw ⟨c, hc, hx⟩)
 ·exact (R.o id).done (T.keepO id) hi hD' (fun hw => (clO id (.inr hw)).2) (fun hw => p6 id hw) (fun hw => p7 id hw)
end
theorem yh9 {α : Type} {p q : α → Bool} : ∀ (l : List α), (∀ x, q x = true → p x = true) → (∃ x, x ∈ l ∧ p x = true ∧ q x = false) → (l.filter q).length < (l.filter p).length
 | [], _, h => by obtain ⟨x, hx, _⟩ := h; cases hx
 | y :: l, hq, h => by
  have le : ∀ (l : List α), (l.filter q).length ≤ (l.filter p).length := by
   intro l
   induction l with
   | nil => simp
   | cons z l ih =>
    simp only [List.filter_cons]
    cases hz : q z with
    | true => rw [hq z hz]; simpa using ih
    | false => cases p z <;> simp <;> omega
  simp only [List.filter_cons]
  cases hy : q y with
  | true =>
   rw [hq y hy]
   obtain ⟨x, hx, h1, h2⟩ := h
   have := yh9 l hq ⟨x, by
    rcases zq.1 hx with rfl | hx
    ·rw [hy] at h2; cases h2
    ·exact hx, h1, h2⟩
   simpa using this
  | false =>
   cases hp : p y with
   | true => have := le l; simp; omega
   | false =>
    obtain ⟨x, hx, h1, h2⟩ := h
    have := yh9 l hq ⟨x, by
     rcases zq.1 hx with rfl | hx
     ·rw [hp] at h1; cases h1
     ·exact hx, h1, h2⟩
    simpa using this
def unl (n : Nat) (listed : Array Bool) : Nat := ((List.range n).filter fun j => !listed.getD j false).length
theorem yc9 {N : FrN} {ops : Array Oper} : ∀ (os : List Oper) (cs : List CI), y6i P nm N ops os cs = true → os.length = cs.length ∧ ∀ (j : Nat) (o : Oper) (c : CI), os[j]? = some o → cs[j]? = some c → y1g8 P nm N ops o c = true
 | [], [], _ => ⟨rfl, fun j o c h => by simp at h⟩
 | o :: os, c :: cs, h => by
  simp only [y6i, zc] at h
  obtain ⟨h1, h2⟩ := yc9 os cs h.2
  refine ⟨by simp [h1], fun j o' c' ho hc => ?_⟩
  cases j with
  | zero => simp at ho hc; subst ho; subst hc; exact h.1
  | succ j => exact h2 j o' c' (by simpa using ho) (by simpa using hc)
 | [], _ :: _, h => by cases h
 | _ :: _, [], h => by cases h
theorem SR.same {N : FrN} {K : Nat → Value} {a : Act} {s s' : St} (R : SR nm N K w F m a s) (h1 : s.h = s'.h) (h2 : ∀ x, tget s.t x = tget s'.t x) : SR nm N K w F m a s' :=
 ⟨h1 ▸ R.inv, fun i => by have := R.t i; rw [h1, h2] at this; exact this, R.size, R.defers, R.kept⟩
theorem yw9 (H : NmOk P nm) {E : Env} {C : Calls2} (hP : y3k P nm C.p) (hI : y7j P nm C.i) {N : FrN} {K : Nat → Value} {ops : Array Oper} {fb : Nat} {Q : Exit → Act → World → Prop} {cs : List CI} {sE : St} {X : (Nat → Prop) → St → Prop} {Fr : Nat → Nat → Prop}
  (hend : ∀ (D : Nat → Prop) (s : St), X D s → (∀ j, j < cs.length → D j) → s.h = sE.h ∧ ∀ x, tget s.t x = tget sE.t x)
  (hstep : ∀ (D : Nat → Prop) (s : St) (i : Nat) (c : CI), X D s → cs[i]? = some c → ¬ D i → (∀ k, k < i → ¬ D k → Fr k i) → (∀ k, i < k → k < cs.length → D k → Fr i k) →
   ∃ s2, y2b E C fb c s = some s2 ∧ ∀ D' : Nat → Prop, (∀ k, D' k ↔ D k ∨ k = i) → X D' s2)
  (hn : ops.size = cs.length) (hc : ∀ (j : Nat) (o : Oper) (c : CI), ops[j]? = some o → cs[j]? = some c → y1g8 P nm N ops o c = true)
  {A : List (List Nat)} (hA : ∀ (j : Nat) (o : Oper), ops[j]? = some o → (∀ k, k ∈ direct o → k < j) ∧ ∀ i, i ∈ A.getD j [] → i ∈ direct o ∨ ∃ k, k ∈ direct o ∧ i ∈ A.getD k [])
  (hF : ∀ i j, i < j → j < cs.length → i ∈ A.getD j [] ∨ Fr i j) :
  ∀ (fuel : Nat) (listed : Array Bool) (a : Act) (s : St) (w : World) (F : Nat → Prop) (m : MapT), listed.size = ops.size → unl ops.size listed ≤ fuel →
   (∀ (j : Nat) (o : Oper), ops[j]? = some o → listed.getD j false = true → ∀ k, k ∈ direct o → listed.getD k false = true) →
   X (fun k => listed.getD k false = true) s → SR nm N K w F m a s →
   (∀ a' w' F' m', SR nm N K w' F' m' a' sE → Tr w F m (gens s.h) w' F' m' (gens sE.h) → Q .normal a' w') → wpAny P .any ops Q fuel listed a w := by
 -- all is done where nothing is ready
 have hdone : ∀ (listed : Array Bool) (a : Act) (s : St) (w : World) (F : Nat → Prop) (m : MapT), listed.size = ops.size → X (fun k => listed.getD k false = true) s → SR nm N K w F m a s →
   (∀ a' w' F' m', SR nm N K w' F' m' a' sE → Tr w F m (gens s.h) w' F' m' (gens sE.h) → Q .normal a' w') → (∀ j, j < ops.size → listed.getD j false = true) → Q .normal a w := by
  intro listed a s w F m hsz hD R hQ hall
  obtain ⟨e1, e2⟩ := hend _ s hD (fun j hj => hall j (by omega))
  exact hQ a w F m (R.same e1 e2) (e1 ▸ Tr.refl _ _ _ _)
 have hready : ∀ (listed : Array Bool), listed.size = ops.size → (∃ j, j < ops.size ∧ listed.getD j false = false) → Region.ready .any ops listed ≠ [] := by
  intro listed hsz ⟨j, hj, hf⟩ he
  have key : ∀ (n j : Nat), j < n → j < ops.size → listed.getD j false = true := by
   intro n
   induction n with
   | zero => intro j h; omega
   | succ n ih =>
    intro j hjn hj
    cases hl : listed.getD j false with
    | true => rfl
    | false =>
     have hmem : j ∈ Region.ready .any ops listed := by
      rw [mem_ready]
      have hlt : j < listed.size := by omega
      have ho : ops[j]? = some ops[j] := z1c hj
      refine ⟨by simp [hlt] at hl ⊢; exact hl, ops[j], ho, fun e hea heb => ?_⟩
      have hd : e.on ∈ direct ops[j] := z1y.2 ⟨e, List.mem_filter.2 ⟨by simpa using hea, heb⟩, rfl⟩
      have := (hA j _ ho).1 _ hd
      exact ih e.on (by omega) (by omega)
     rw [he] at hmem
     cases hmem
  rw [key ops.size j hj hj] at hf
  cases hf
 intro fuel
 induction fuel with
 | zero =>
  intro listed a s w F m hsz hfu hcl hD R hQ
  have hall : ∀ j, j < ops.size → listed.getD j false = true := by
   intro j hj
   cases hl : listed.getD j false with
   | true => rfl
   | false =>
    have : j ∈ (List.range ops.size).filter fun j => !listed.getD j false := List.mem_filter.2 ⟨z27.2 hj, by rw [hl]; rfl⟩
    have := List.length_pos_of_mem this
    unfold unl at hfu
    omega
  refine ⟨?_, hdone listed a s w F m hsz hD R hQ hall⟩
  cases hr : Region.ready .any ops listed with
  | nil => rfl
  | cons x xs =>
   have : x ∈ Region.ready .any ops listed := by rw [hr]; simp
   obtain ⟨h1, o, ho, _⟩ := mem_ready.1 this
   have hx := (zo.1 ho).1
   have h2 := hall x hx
   have hlt : x < listed.size := by omega
   simp [hlt] at h1 h2
   rw [h1] at h2
   cases h2
 | succ fuel ih =>
  intro listed a s w F m hsz hfu hcl hD R hQ
  refine ⟨fun he => hdone listed a s w F m hsz hD R hQ fun j hj => ?_, fun i hi => ?_⟩
  ·cases hl : listed.getD j false with
   | true => rfl
   | false => exact (hready listed hsz ⟨j, hj, hl⟩ he).elim
  ·obtain ⟨h1, o, ho, hdeps⟩ := mem_ready.1 hi
   have hin := (zo.1 ho).1
   have hlt : i < listed.size := by omega
   have hDi : listed.getD i false = false := by simp [hlt] at h1 ⊢; exact h1
   obtain ⟨c, hcc⟩ := y3c (show i < cs.length by omega)
   have hdir : ∀ k, k ∈ direct o → listed.getD k false = true := by
    intro k hk
    obtain ⟨e, he, rfl⟩ := z1y.1 hk
    obtain ⟨he1, he2⟩ := List.mem_filter.1 he
    exact hdeps e (by simpa using he1) he2
   have hanc : ∀ (n j : Nat) (o : Oper), j < n → ops[j]? = some o → (∀ k, k ∈ direct o → listed.getD k false = true) → ∀ k, k ∈ A.getD j [] → listed.getD k false = true := by
    intro n
    induction n with
    | zero => intro j o h; omega
    | succ n ihn =>
     intro j o hjn ho hd k hk
     rcases (hA j o ho).2 k hk with h | ⟨k2, h2, h3⟩
     ·exact hd k h
     ·have hk2 := (hA j o ho).1 k2 h2
      have ho2 : ops[k2]? = some (ops[k2]'(by have := (zo.1 ho).1; omega)) := z1c _
      exact ihn k2 _ (by omega) ho2 (hcl k2 _ ho2 (hd k2 h2)) k h3
   obtain ⟨s2, p1, p2⟩ := hstep _ s i c hD hcc (by rw [hDi]; exact zv) (fun k hk hnk => by
     rcases hF k i hk (by omega) with h | h
     ·exact (hnk (hanc (i + 1) i o (by omega) ho hdir k h)).elim
     ·exact h) (fun k hk hkn hDk => by
     rcases hF i k hk hkn with h | h
     ·have hok : ops[k]? = some (ops[k]'(by omega)) := z1c _
      have := hanc (k + 1) k _ (by omega) hok (hcl k _ hok hDk) i h
      rw [hDi] at this
      cases this
     ·exact h)
   have hst := yez H hP hI R (hc i o c ho hcc) p1 (next := wpAny P .any ops Q fuel (listed.setIfInBounds i true)) (Q := Q) (fun a' w' F' m' R' T' => by
    have hset : ∀ k, (listed.setIfInBounds i true).getD k false = true ↔ listed.getD k false = true ∨ k = i := by
     intro k
     by_cases hki : i = k
     ·subst hki
      simp [hlt]
     ·rw [getD_set_ne false hki]
      constructor
      ·exact .inl
      ·rintro (h | h)
       ·exact h
       ·exact (hki h.symm).elim
    refine ih _ a' s2 w' F' m' (by simp [hsz]) ?_ ?_ (p2 _ hset) R' (fun a2 w2 F2 m2 R2 T2 => hQ a2 w2 F2 m2 R2 (T'.trans T2))
    ·have : unl ops.size (listed.setIfInBounds i true) < unl ops.size listed := by
      unfold unl
      refine yh9 _ (fun x hx => ?_) ⟨i, z27.2 hin, by rw [hDi]; rfl, by rw [(hset i).2 (.inr rfl)]; rfl⟩
      cases hl : listed.getD x false with
      | false => rfl
      | true => rw [(hset x).2 (.inl hl)] at hx; cases hx
     omega
    ·intro j o' ho' hj k hk
     rw [hset]
     rcases (hset j).1 hj with h | h
     ·exact .inl (hcl j o' ho' h k hk)
     ·subst h
      rw [ho] at ho'
      injection ho' with ho'
      subst ho'
      exact .inl (hdir k hk))
   unfold wpOp
   simp only [ho]
   split
   ·rename_i hw; rw [if_pos hw] at hst; exact .inl hst
   ·rename_i hw; rw [if_neg hw] at hst; exact hst
theorem ylc (H : NmOk P nm) {E : Env} {C : Calls2} (hP : y3k P nm C.p) (hI : y7j P nm C.i) {N : FrN} {K : Nat → Value} {ops : Array Oper} {fb id : Nat} {Q : Exit → Act → World → Prop} {cs : List CI} {pairs : List (Nat × Nat)} {a : Act} {s s' : St}
  (hc : yeq P nm N ops cs pairs = true) (R : SR nm N K w F m a s) (hx : y5n E C fb cs pairs s = some s')
  (hQ : ∀ a' w' F' m', SR nm N K w' F' m' a' s' → Tr w F m (gens s.h) w' F' m' (gens s'.h) → Q .normal a' w') : (Code.region id ops true).wp P Q a w := by
 unfold y5n at hx
 split at hx
 ·rename_i s1 fs hrun
  split at hx
  ·rename_i hpairs
   injection hx with hx
   subst hx
   simp only [yeq, zc] at hc
   obtain ⟨⟨h1, h2⟩, h3⟩ := hc
   obtain ⟨S, fp, T, e0, e1, e2⟩ := yj6 cs s s1 fs hrun
   obtain ⟨hlen, hcis⟩ := yc9 _ _ h1
   have hlen' : ops.size = cs.length := by simpa using hlen
   subst e0
   subst e1
   refine wp_region_any H.1 ?_
   have hh : ({ w with drawn := w.drawn + 1 } : World).heap = w.heap := rfl
   have hz : ∀ k, (Array.replicate ops.size false).getD k false = false := by
    intro k
    rw [z1d, Array.getElem?_replicate]
    split <;> rfl
   refine yw9 (K := K) H hP hI (X := DState cs S fp) (Fr := Free cs fp) (sE := S cs.length) (fun D s R hall => ⟨z1r fun id => R.o id cs.length (zi _) fun k hk _ => ⟨fun _ => hk, fun _ => hall k hk⟩,
     fun x => R.t x cs.length (zi _) fun k hk _ => ⟨fun _ => hk, fun _ => hall k hk⟩⟩) (fun D s i c R hc hDi hlo hhi => dstep T R hc hDi hlo (fun k hk hkn hD => (hhi k hk hkn hD).symm)) hlen' (fun j o c ho hc => hcis j o c (by simpa using ho) hc) (A := ancs ops.toList) (fun j o ho => by
     have := yej ops.toList 0 h2 j o (by simpa using ho)
     rwa [zd] at this) (fun i j hij hj => by
     obtain ⟨ca, ha⟩ := y3c (show i < cs.length by omega)
     obtain ⟨cb, hb⟩ := y3c hj
     have := y7v cs 0 h3 i j ca cb hij ha hb
     rw [zd, zd] at this
     exact y1bw T e2 hpairs ha hb this) ops.size _ a (S 0) _ F m (by simp) ?_ (fun j o _ hj => by rw [hz] at hj; cases hj) ?_ ?_ ?_
   ·unfold unl
    exact z1o (List.length_filter_le _ _) (by simp)
   ·exact ⟨y5b.start T.keepL (fun k hk => by rw [hz] at hk; cases hk), fun x => y5b.start (T.keepT x) (fun k hk => by rw [hz] at hk; cases hk), fun id => y5b.start (T.keepO id) (fun k hk => by rw [hz] at hk; cases hk)⟩
   ·exact ⟨R.inv.heap hh, R.t.tr R.inv.bd (Tr.heap hh rfl rfl rfl), R.size, R.defers, R.kept⟩
   ·exact fun a' w' F' m' R' T' => hQ a' w' F' m' R' ((Tr.heap hh rfl rfl rfl).trans T')
  ·cases hx
 ·cases hx
def CI.turns (c : CI) : Bool := !(c.op.isT || c.op.isL)
structure TraceS (E : Env) (C : Calls2) (fb : Nat) (cs : List CI) (S : Nat → St) : Prop where
 step : ∀ (j : Nat) (c : CI), cs[j]? = some c → y2b E C fb c (S j) = some (S (j + 1))
theorem yfk {E : Env} {C : Calls2} {fb : Nat} : ∀ (cs : List CI) (s s' : St), y36 E C fb cs s = some s' → ∃ S, TraceS E C fb cs S ∧ S 0 = s ∧ S cs.length = s'
 | [], s, s', h => by
  simp only [y36] at h
  injection h with h
  exact ⟨fun _ => s, ⟨fun j c hc => by simp at hc⟩, rfl, h⟩
 | c :: cs, s, s', h => by
  simp only [y36] at h
  split at h
  ·rename_i s1 hs
   obtain ⟨S, T, e0, e1⟩ := yfk cs s1 s' h
   refine ⟨fun j => match j with | 0 => s | j + 1 => S j, ⟨fun j c' hc => ?_⟩, rfl, e1⟩
   cases j with
   | zero =>
    simp only [List.getElem?_cons_zero, Option.some.injEq] at hc
    subst hc
    simp only
    rw [e0]
    exact hs
   | succ j => exact T.step j c' (by simpa using hc)
  ·cases h
structure DStateS (cs : List CI) (S : Nat → St) (D : Nat → Prop) (s : St) : Prop where
 t : ∀ x, y5b cs.length (fun k => ∃ c, cs[k]? = some c ∧ x ∈ c.wr) D (fun j => tget (S j).t x) (tget s.t x)
 o : y5b cs.length (fun k => ∃ c, cs[k]? = some c ∧ c.turns = true) D (fun j => (S j).h) s.h
structure FreeS (cs : List CI) (i j : Nat) : Prop where
 t : ∀ a b, cs[i]? = some a → cs[j]? = some b → ∀ x, (x ∈ a.wr → x ∉ b.wr ∧ x ∉ b.reads) ∧ (x ∈ a.reads → x ∉ b.wr)
 o : ∀ a b, cs[i]? = some a → cs[j]? = some b → (a.turns = true → b.op.isT = true) ∧ (b.turns = true → a.op.isT = true)
theorem FreeS.symm {cs : List CI} {i j : Nat} (h : FreeS cs i j) : FreeS cs j i := by
 refine ⟨fun a b ha hb x => ?_, fun a b ha hb => (h.o b a hb ha).symm⟩
 have := h.t b a hb ha x
 exact ⟨fun hx => ⟨fun hy => (this.1 hy).1 hx, fun hy => this.2 hy hx⟩, fun hx hy => (this.1 hy).2 hx⟩
theorem y22s {E : Env} {C : Calls2} {fb : Nat} {t : Tmps} {h h' : Heap} {op : COp} {v : AV} (hL : op.isL = true) (hx : evOp E C fb t h op = some (v, h')) : h' = h := by
 have key : ∀ {α : Type} {o : Option α} {f : α → AV}, (o.map fun x => (f x, h)) = some (v, h') → h' = h := by
  intro α o f ho
  cases o with
  | none => cases ho
  | some x => simp only [Option.map_some] at ho; injection ho with ho; injection ho with _ ho; exact ho.symm
 cases op <;> first | exact absurd hL zv | skip
 case ld => exact key (f := fun x => x) hx
 case b2s x =>
  simp only [evOp] at hx
  split at hx
  ·cases hx
  ·split at hx
   ·exact key hx
   ·cases hx
 case len => exact key (f := fun x => x) hx
 case mget => exact key (f := fun x => x) hx
section
variable {E : Env} {C : Calls2} {fb : Nat} {cs : List CI} {S : Nat → St}
theorem y50 {c : CI} {s s' : St} (hx : y2b E C fb c s = some s') : (∀ x, x ∉ c.wr → tget s'.t x = tget s.t x) ∧ (c.turns = false → s'.h = s.h) := by
 have key : ∀ v x, x ∉ c.wr → tget (tput c.dst v s.t) x = tget s.t x := by
  intro v x hx
  rw [y2i]
  simp only [CI.wr, z24, z2g] at hx
  rw [if_neg hx]
 unfold y2b at hx
 split at hx
 ·split at hx
  ·rename_i v h' hv
   injection hx with hx
   subst hx
   refine ⟨key v, fun ht => ?_⟩
   simp only [CI.turns, Bool.not_eq_false', z1k] at ht
   rcases ht with ht | ht
   ·rw [ygg ht] at hv
    cases hq : evOp E C fb s.t [] c.op with
    | none => rw [hq] at hv; cases hv
    | some q =>
     rw [hq] at hv
     simp only [Option.map_some, Option.some.injEq, Prod.mk.injEq] at hv
     exact hv.2.symm
   ·exact y22s ht hv
  ·cases hx
 ·injection hx with hx
  subst hx
  exact ⟨key _, fun _ => rfl⟩
 ·cases hx
theorem ytu {c : CI} {s s' s2 : St} (hx : y2b E C fb c s = some s') (ht : ∀ x, x ∈ c.reads → tget s2.t x = tget s.t x) (hh : c.op.isT = false → s2.h = s.h) :
  ∃ s2', y2b E C fb c s2 = some s2' ∧ (∀ x, x ∈ c.wr → tget s2'.t x = tget s'.t x) ∧ (∀ x, x ∉ c.wr → tget s2'.t x = tget s2.t x) ∧ (c.op.isT = false → s2'.h = s'.h) ∧ (c.turns = false → s2'.h = s2.h) := by
 have hw : wants s2.t c.g = wants s.t c.g := y8g fun d want e => ht d (by simp [CI.reads, e])
 have ho : ∀ x, x ∈ c.op.opds → x.ev s2.t = x.ev s.t := fun x hx => y14k fun n hn => ht n (z1z _ (List.mem_flatMap.2 ⟨x, hx, hn⟩))
 have k1 : ∀ v x, x ∈ c.wr → tget (tput c.dst v s2.t) x = tget (tput c.dst v s.t) x := by
  intro v x hx
  rw [y2i, y2i]
  simp only [CI.wr, z24, z2g] at hx
  rw [if_pos hx, if_pos hx]
 have main : ∃ s2', y2b E C fb c s2 = some s2' ∧ (∀ x, x ∈ c.wr → tget s2'.t x = tget s'.t x) ∧ (c.op.isT = false → s2'.h = s'.h) := by
  unfold y2b at hx ⊢
  rw [hw]
  split at hx
  ·split at hx
   ·rename_i v h' hv
    injection hx with hx
    subst hx
    rw [yb6 (t := s2.t) (t2 := s.t) ho]
    cases hT : c.op.isT with
    | true =>
     rw [ygg hT] at hv ⊢
     cases hq : evOp E C fb s.t [] c.op with
     | none => rw [hq] at hv; cases hv
     | some q =>
      rw [hq] at hv
      simp only [Option.map_some, Option.some.injEq, Prod.mk.injEq] at hv
      obtain ⟨h3, h4⟩ := hv
      subst h3
      exact ⟨_, rfl, k1 _, fun h => by cases h⟩
    | false =>
     rw [hh hT, hv]
     exact ⟨_, rfl, k1 _, fun _ => rfl⟩
   ·cases hx
  ·injection hx with hx
   subst hx
   exact ⟨_, rfl, k1 _, hh⟩
  ·cases hx
 obtain ⟨s2', p1, p2, p3⟩ := main
 exact ⟨s2', p1, p2, (y50 p1).1, p3, (y50 p1).2⟩
theorem y16x {A : List (List Nat)} {i j : Nat} {a b : CI} (ha : cs[i]? = some a) (hb : cs[j]? = some b) (hk : yhu A [] i j a b = true) : i ∈ A.getD j [] ∨ FreeS cs i j := by
 simp only [yhu, z1k, zc, z39, List.not_mem_nil, false_and, or_false] at hk
 rcases hk with hk | ⟨h1, h2⟩
 ·exact .inl hk
 refine .inr ⟨fun a' b' ha' hb' x => ?_, fun a' b' ha' hb' => ?_⟩
 ·rw [ha] at ha'; injection ha' with ha'; subst ha'
  rw [hb] at hb'; injection hb' with hb'; subst hb'
  simp only [ysx, zc] at h1
  exact ⟨fun hx => ⟨y3b h1.1.1 hx, y3b h1.1.2 hx⟩, fun hx => y3b h1.2 hx⟩
 ·rw [ha] at ha'; injection ha' with ha'; subst ha'
  rw [hb] at hb'; injection hb' with hb'; subst hb'
  simp only [CI.turns, z1u, z2q]
  rcases h2 with (h2 | h2) | ⟨h2, h3⟩
  ·exact ⟨(fun h => by rw [h2] at h; cases h.1), fun _ => h2⟩
  ·exact ⟨fun _ => h2, (fun h => by rw [h2] at h; cases h.1)⟩
  ·exact ⟨(fun h => by rw [h2] at h; cases h.2), (fun h => by rw [h3] at h; cases h.2)⟩
theorem y2k9 (T : TraceS E C fb cs S) {D : Nat → Prop} {s : St} (R : DStateS cs S D s) {i : Nat} {c : CI} (hc : cs[i]? = some c) (hDi : ¬ D i)
  (hlo : ∀ k, k < i → ¬ D k → FreeS cs k i) (hhi : ∀ k, i < k → k < cs.length → D k → FreeS cs k i) :
  ∃ s2, y2b E C fb c s = some s2 ∧ ∀ D' : Nat → Prop, (∀ k, D' k ↔ D k ∨ k = i) → DStateS cs S D' s2 := by
 have hi : i < cs.length := (zb.1 hc).1
 have h2 := T.step i c hc
 have keepT : ∀ x k, k < cs.length → (¬ ∃ c, cs[k]? = some c ∧ x ∈ c.wr) → tget (S (k + 1)).t x = tget (S k).t x := by
  intro x k hk hw
  obtain ⟨c, hc⟩ := y3c hk
  exact (y50 (T.step k c hc)).1 x (fun h => hw ⟨c, hc, h⟩)
 have keepO : ∀ k, k < cs.length → (¬ ∃ c, cs[k]? = some c ∧ c.turns = true) → (S (k + 1)).h = (S k).h := by
  intro k hk hw
  obtain ⟨c, hc⟩ := y3c hk
  refine (y50 (T.step k c hc)).2 ?_
  cases h : c.turns with
  | false => rfl
  | true => exact (hw ⟨c, hc, h⟩).elim
 have clT : ∀ x, (x ∈ c.reads ∨ x ∈ c.wr) → (∀ k, k < i → (∃ b, cs[k]? = some b ∧ x ∈ b.wr) → D k) ∧ ∀ k, i < k → k < cs.length → (∃ b, cs[k]? = some b ∧ x ∈ b.wr) → ¬ D k := by
  intro x hx
  refine ⟨fun k hk ⟨b, hb, hw⟩ => Classical.byContradiction fun hn => ?_, fun k hk hkn ⟨b, hb, hw⟩ hD => ?_⟩
  ·have := ((hlo k hk hn).t b c hb hc x).1 hw
   rcases hx with hx | hx
   ·exact this.2 hx
   ·exact this.1 hx
  ·have := ((hhi k hk hkn hD).t b c hb hc x).1 hw
   rcases hx with hx | hx
   ·exact this.2 hx
   ·exact this.1 hx
 have clO : c.op.isT = false → (∀ k, k < i → (∃ b, cs[k]? = some b ∧ b.turns = true) → D k) ∧ ∀ k, i < k → k < cs.length → (∃ b, cs[k]? = some b ∧ b.turns = true) → ¬ D k := by
  intro hT
  refine ⟨fun k hk ⟨b, hb, hw⟩ => Classical.byContradiction fun hn => ?_, fun k hk hkn ⟨b, hb, hw⟩ hD => ?_⟩
  ·have := ((hlo k hk hn).o b c hb hc).1 hw
   rw [hT] at this; cases this
  ·have := ((hhi k hk hkn hD).o b c hb hc).1 hw
   rw [hT] at this; cases this
 have turnsT : c.turns = true → c.op.isT = false := by
  intro h
  simp only [CI.turns, z1u, z2q] at h
  exact h.1
 obtain ⟨s2, p1, p2, p3, p4, p5⟩ := ytu (s2 := s) h2 (fun x hx => (R.t x).at hi hDi (clT x (.inl hx)).1 (clT x (.inl hx)).2) (fun hT => R.o.at hi hDi (clO hT).1 (clO hT).2)
 refine ⟨s2, p1, fun D' hD' => ⟨fun x => ?_, ?_⟩⟩
 ·refine (R.t x).done (keepT x) hi hD' (fun hw => ?_) (fun hw => ?_) (fun hw => ?_)
  ·obtain ⟨c', hc', hx⟩ := hw
   rw [hc] at hc'; injection hc' with hc'; subst hc'
   exact (clT x (.inr hx)).2
  ·obtain ⟨c', hc', hx⟩ := hw
   rw [hc] at hc'; injection hc' with hc'; subst hc'
   exact p2 x hx
  ·exact p3 x (fun hx => hw ⟨c, hc, hx⟩)
 ·refine R.o.done keepO hi hD' (fun hw => ?_) (fun hw => ?_) (fun hw => ?_)
  ·obtain ⟨c', hc', hx⟩ := hw
   rw [hc] at hc'; injection hc' with hc'; subst hc'
   exact (clO (turnsT hx)).2
  ·obtain ⟨c', hc', hx⟩ := hw
   rw [hc] at hc'; injection hc' with hc'; subst hc'
   exact p4 (turnsT hx)
  ·refine p5 ?_
   cases h : c.turns with
   | false => rfl
   | true => exact (hw ⟨c, hc, h⟩).elim
end
theorem yup (H : NmOk P nm) {E : Env} {C : Calls2} (hP : y3k P nm C.p) (hI : y7j P nm C.i) {N : FrN} {K : Nat → Value} {ops : Array Oper} {fb id : Nat} {Q : Exit → Act → World → Prop} {cs : List CI} {a : Act} {s s' : St}
  (hc : yeq P nm N ops cs [] = true) (R : SR nm N K w F m a s) (hx : y36 E C fb cs s = some s')
  (hQ : ∀ a' w' F' m', SR nm N K w' F' m' a' s' → Tr w F m (gens s.h) w' F' m' (gens s'.h) → Q .normal a' w') : (Code.region id ops true).wp P Q a w := by
 simp only [yeq, zc] at hc
 obtain ⟨⟨h1, h2⟩, h3⟩ := hc
 obtain ⟨S, T, e0, e1⟩ := yfk cs s s' hx
 obtain ⟨hlen, hcis⟩ := yc9 _ _ h1
 have hlen' : ops.size = cs.length := by simpa using hlen
 subst e0
 subst e1
 refine wp_region_any H.1 ?_
 have hh : ({ w with drawn := w.drawn + 1 } : World).heap = w.heap := rfl
 have hz : ∀ k, (Array.replicate ops.size false).getD k false = false := by
  intro k
  rw [z1d, Array.getElem?_replicate]
  split <;> rfl
 refine yw9 (K := K) H hP hI (X := DStateS cs S) (Fr := FreeS cs) (sE := S cs.length) (fun D s R hall => ⟨R.o cs.length (zi _) fun k hk _ => ⟨fun _ => hk, fun _ => hall k hk⟩,
   fun x => R.t x cs.length (zi _) fun k hk _ => ⟨fun _ => hk, fun _ => hall k hk⟩⟩) (fun D s i c R hc hDi hlo hhi => y2k9 T R hc hDi hlo (fun k hk hkn hD => (hhi k hk hkn hD).symm)) hlen' (fun j o c ho hc => hcis j o c (by simpa using ho) hc) (A := ancs ops.toList) (fun j o ho => by
   have := yej ops.toList 0 h2 j o (by simpa using ho)
   rwa [zd] at this) (fun i j hij hj => by
   obtain ⟨ca, ha⟩ := y3c (show i < cs.length by omega)
   obtain ⟨cb, hb⟩ := y3c hj
   have := y7v cs 0 h3 i j ca cb hij ha hb
   rw [zd, zd] at this
   exact y16x ha hb this) ops.size _ a (S 0) _ F m (by simp) ?_ (fun j o _ hj => by rw [hz] at hj; cases hj) ?_ ?_ ?_
 ·unfold unl
  exact z1o (List.length_filter_le _ _) (by simp)
 ·refine ⟨fun x => y5b.start (fun k hk hw => ?_) (fun k hk => by rw [hz] at hk; cases hk), y5b.start (fun k hk hw => ?_) (fun k hk => by rw [hz] at hk; cases hk)⟩
  ·obtain ⟨c, hc⟩ := y3c hk
   exact (y50 (T.step k c hc)).1 x (fun h => hw ⟨c, hc, h⟩)
  ·obtain ⟨c, hc⟩ := y3c hk
   refine (y50 (T.step k c hc)).2 ?_
   cases h : c.turns with
   | false => rfl
   | true => exact (hw ⟨c, hc, h⟩).elim
 ·exact ⟨R.inv.heap hh, R.t.tr R.inv.bd (Tr.heap hh rfl rfl rfl), R.size, R.defers, R.kept⟩
 ·exact fun a' w' F' m' R' T' => hQ a' w' F' m' R' ((Tr.heap hh rfl rfl rfl).trans T')
end Go.Vm
/- The value machine: the code of a function against the model. -/
namespace Go.Vm
variable {P : Program} {nm : Nat → Option Nat} {w : World} {F : Nat → Prop} {m : MapT} {h : Heap} {G : List Nat}
theorem yyp {n i g : Nat} {o : OC} (h : (yj n)[i]? = some ⟨g, o⟩) : g = 0 ∧ o = .dead := by
 unfold yj at h
 rw [z29] at h
 split at h
 ·injection h with h
  injection h with h1 h2
  exact ⟨h1.symm, h2.symm⟩
 ·cases h
theorem Inv.more (I : Inv nm w F m h) (n : Nat) : Inv nm w F m (h ++ yj n) ∧ Tr w F m (gens h) w F m (gens (h ++ yj n)) := by
 have hget : ∀ (id : Nat) (a : AO), h[id]? = some a → (h ++ yj n)[id]? = some a := fun id a ha => by
  rw [zx (zb.1 ha).1]; exact ha
 have hgl : ∀ (id g : Nat), (gens h)[id]? = some g → ∃ g' : Nat, (gens (h ++ yj n))[id]? = some g' ∧ g ≤ g' := by
  intro id g hg
  rw [y1n] at hg
  obtain ⟨a, ha, rfl⟩ := y4t hg
  exact ⟨a.gen, by rw [y1n, hget id a ha]; rfl, zi _⟩
 have hrep : ∀ v a, Rep nm w F m (gens h) v a → Rep nm w F m (gens (h ++ yj n)) v a := fun v a hr => hr.mono (fun _ _ => rfl) (fun _ h => h) hgl (fun _ _ _ _ h _ _ => h)
 refine ⟨⟨fun id g loc hm => ?_, fun id g o ho hd => ?_, I.inj, fun id g loc o hm ho => ?_, I.bd⟩, ⟨rfl, rfl, rfl, zi _, fun _ h => h, fun _ _ _ => rfl, fun _ h => .inl h, fun _ h => .inl h, fun _ _ _ h => .of h, hgl, fun _ _ _ _ h _ _ => h⟩⟩
 ·obtain ⟨o, h1, h2⟩ := I.live id g loc hm
  exact ⟨o, hget id _ h1, h2.of rfl hrep⟩
 ·rw [z1j] at ho
  split at ho
  ·exact I.has id g o ho hd
  ·obtain ⟨_, rfl⟩ := yyp ho
   cases hd
 ·obtain ⟨o1, h1, _⟩ := I.live id g loc hm
  rw [hget id _ h1] at ho
  injection ho with ho
  injection ho with _ ho
  subst ho
  exact I.fz id g loc o1 hm h1
def y1bn (P : Program) (nm : Nat → Option Nat) (o : Oper) (x : Opd) : Option Nat :=
 match o.op, o.dst, o.guard with
 | .range t y, some it, none => if chkO nm y x && (match P.underlying t with
   | some (.map _ _) => true
   | _ => false) then some it else none
 | _, _, _ => none
def y2l0 (N : FrN) (bar : List Nat) (o o' : Oper) (it : Nat) : Option Nat :=
 match o.op, o.dst, o.guard, o'.op, o'.dst, o'.guard with
 | .next (.tmp it') false, some n, none, .extract (.tmp n') 0, some k, none => if it' = it ∧ n' = n ∧ n < N.n ∧ k < N.n ∧ n ∉ bar ∧ k ∉ bar then some k else none
 | _, _, _, _, _, _ => none
def y272 (N : FrN) (o : Oper) (it e : Nat) : Bool :=
 match o.op, o.dst, o.guard with
 | .entry (.tmp it'), some e', none => it' == it && e' == e && decide (e < N.n) && !N.bar.contains e
 | _, _, _ => false
structure MRP where
 ops2 : Array Oper
 b0 : Nat
 ops3 : Array Oper
 c : Operand
 b2 : Nat
 ops4 : Array Oper
 body : Code
 r2 : Nat
 r3 : Nat
 r4 : Nat
def MRP.loop (p : MRP) : Code := .seq (.region p.r3 p.ops3 false) (.seq (.cond p.c .skip (.exit p.b0)) (.block p.b2 (.seq (.region p.r4 p.ops4 false) p.body)))
def MRP.code (p : MRP) : Code := .seq (.region p.r2 p.ops2 false) (.block p.b0 (.loop p.loop))
def yn3 : Code → Option MRP
 | .seq (.region r2 ops2 false) (.block b0 (.loop (.seq (.region r3 ops3 false) (.seq (.cond c .skip (.exit b1)) (.block b2 (.seq (.region r4 ops4 false) body)))))) => if b1 = b0 then some ⟨ops2, b0, ops3, c, b2, ops4, body, r2, r3, r4⟩ else none
 | _ => none
theorem yfb {c : Code} {p : MRP} (h : yn3 c = some p) : c = p.code := by
 unfold yn3 at h
 split at h
 ·split at h
  ·rename_i e
   injection h with h
   subst h
   subst e
   rfl
  ·cases h
 ·cases h
def y0o : Code → Bool → Option (MRP × Array Oper × Code)
 | c, true => (yn3 c).map (·, #[], .skip)
 | .seq c (.seq (.region _ ops5 false) z), false => (yn3 c).map (·, ops5, z)
 | _, false => none
theorem ytp {c z : Code} {b : Bool} {p : MRP} {ops5 : Array Oper} (h : y0o c b = some (p, ops5, z)) : (b = true ∧ c = p.code ∧ z = .skip) ∨ ∃ r5, b = false ∧ c = .seq p.code (.seq (.region r5 ops5 false) z) := by
 unfold y0o at h
 split at h
 ·obtain ⟨q, e1, e2⟩ := z1g.1 h
  simp only [Prod.mk.injEq] at e2
  obtain ⟨rfl, e3, e4⟩ := e2
  exact .inl ⟨rfl, yfb e1, e4.symm⟩
 ·obtain ⟨q, e1, e2⟩ := z1g.1 h
  simp only [Prod.mk.injEq] at e2
  obtain ⟨rfl, rfl, rfl⟩ := e2
  exact .inr ⟨_, rfl, by rw [yfb e1]⟩
 ·cases h
def CCode.isSkip : CCode → Bool
 | .skip => true
 | _ => false
def mrOk (P : Program) (nm : Nat → Option Nat) (N : FrN) (p : MRP) (pre : List CI) (x : Opd) (live car : List Nat) (e : Nat) (cs : List CI) : Option Nat :=
 match p.ops2.toList.getLast?, p.ops3.toList, p.ops4.toList with
 | some o2, [o3, o3'], o4 :: l4 => match y1bn P nm o2 x with
  | some it => match y2l0 N (it :: (live ++ (car ++ N.bar))) o3 o3' it with
   | some k => if (y6i P nm N p.ops2 p.ops2.toList.dropLast pre && decide (it < N.n) && !N.bar.contains it && !live.contains it && !car.contains it && chkO nm p.c (.t k) && y272 ⟨N.n, it :: (live ++ (car ++ N.bar))⟩ o4 it e && y6i P nm ⟨N.n, it :: (live ++ N.bar)⟩ p.ops4 l4 cs) = true then some it else none
   | none => none
  | none => none
 | _, _, _ => none
def y2t (P : Program) (nm : Nat → Option Nat) (N : FrN) : Code → CCode → Bool
 | .skip, .skip => true
 | .region _ ops d, .region cs => !d && y6i P nm N ops ops.toList cs
 | .region _ ops d, .draw cs pairs => d && yeq P nm N ops cs pairs
 | .region _ ops d, .drawN _ cs pairs => d && yeq P nm N ops cs pairs
 | .seq a b, .seq a' b' => y2t P nm N a a' && y2t P nm N b b'
 | .cond c a b, .cond c' a' b' => chkO nm c c' && y2t P nm N a a' && y2t P nm N b b'
 | .block id a, .block id' a' => id == id' && y2t P nm N a a'
 | .loop a, .loop _ a' => y2t P nm N a a'
 | .exit id, .exit id' => id == id'
 | .ret, .ret => true
 | c, .mrange pre x live car e cs a ts z' => match y0o c ts.isEmpty with
  | some (p, ops5, z) => (match mrOk P nm N p pre x live car e cs with
   | some it => y2t P nm N z z' && y2t P nm ⟨N.n, it :: (live ++ N.bar)⟩ p.body a && ((ts.isEmpty && z'.isSkip) || (!ts.isEmpty && y6i P nm ⟨N.n, it :: (live ++ N.bar)⟩ ops5 ops5.toList ts))
   | none => false)
  | none => false
 | c, .kill _ a => y2t P nm N c a
 | _, .bad => true
 | _, _ => false
def yv0 : Res → Exit
 | .norm => .normal
 | .exit id => .exit id
 | .ret => .ret
def ybi (P : Program) (c : Code) (Q : Exit → Act → World → Prop) (a : Act) (w : World) : Prop :=
 ∀ (b : Frame) (k : List Item) (cs : List Frame), ∃ e a' w', Q e a' w' ∧ Arrives P (lone (b.at a (.code c :: .inLoop c :: k)) cs w) b k cs e a' w'
theorem ybi.unroll {c : Code} {Q : Exit → Act → World → Prop} {a : Act} {w : World} (h : c.wp P (Exit.then (fun a' w' => ybi P c Q a' w') Q) a w) : ybi P c Q a w := by
 intro b k cs
 obtain ⟨e, a₁, w₁, hq, harr⟩ := h b (.inLoop c :: k) cs
 cases e with
 | normal =>
  obtain ⟨e₂, a₂, w₂, hq₂, harr₂⟩ := hq b k cs
  exact ⟨e₂, a₂, w₂, hq₂, .of_steps (Steps.trans harr (.one step_inLoop)) harr₂⟩
 | exit id => exact ⟨_, a₁, w₁, hq, .pass (x := .inLoop c) rfl (fun _ _ => .inl (by simp)) harr⟩
 | goto l => exact ⟨_, a₁, w₁, hq, .pass (x := .inLoop c) rfl (fun _ _ => .inl (by simp)) harr⟩
 | ret => exact ⟨_, a₁, w₁, hq, .pass (x := .inLoop c) rfl (fun _ _ => .inl (by simp)) harr⟩
 | panic ch => exact ⟨_, a₁, w₁, hq, .pass (x := .inLoop c) rfl (fun _ _ => .inl (by simp)) harr⟩
 | outgrown => exact ⟨_, a₁, w₁, hq, .pass (x := .inLoop c) rfl (fun _ _ => .inl (by simp)) harr⟩
theorem ybi.wp {c : Code} {Q : Exit → Act → World → Prop} {a : Act} {w : World} (h : ybi P c Q a w) : (Code.loop c).wp P Q a w := by
 intro b k cs
 obtain ⟨e, a', w', hq, harr⟩ := h b k cs
 exact ⟨e, a', w', hq, .of_steps (.one step_loop) harr⟩
def yps (P : Program) (nm : Nat → Option Nat) (L : y9q) : Prop :=
 ∀ (N : FrN) (K : Nat → Value) (c : Code) (cc : CCode) (live : List Nat) (fb : Nat) (a : Act) (s : St) (r : Res) (s' : St) (w : World) (F : Nat → Prop) (m : MapT) (Q : Exit → Act → World → Prop), y2t P nm N c cc = true → SR nm N K w F m a s →
  L live cc fb s = some (r, s') → (∀ a' w' F' m', SR nm N K w' F' m' a' s' → Tr w F m (gens s.h) w' F' m' (gens s'.h) → Q (yv0 r) a' w') → ybi P c Q a w
theorem SR.restrict {N : FrN} {K : Nat → Value} {a : Act} {s : St} (R : SR nm N K w F m a s) (live : List Nat) : SR nm N K w F m a ⟨restrict live s.t, s.h⟩ := by
 refine ⟨R.inv, fun i => ?_, R.size, R.defers, R.kept⟩
 have key : tget (Go.Vm.restrict live s.t) i = tget s.t i ∨ tget (Go.Vm.restrict live s.t) i = .undef := by
  unfold Go.Vm.restrict
  induction live with
  | nil => exact .inr rfl
  | cons j live ih =>
   simp only [List.map_cons, tget]
   split
   ·rename_i e; subst e; exact .inl rfl
   ·exact ih
 rcases key with e | e
 ·simp only [e]; exact R.t i
 ·simp only [e]; exact .undef _
theorem yof.refl (x : Option AO) : yof x x := by
 cases x with
 | none => trivial
 | some a => exact ⟨rfl, .inl rfl⟩
theorem y1nu {α β : Type} {R : α → β → Prop} {bs bs' : List β} (hp : bs.Perm bs') : ∀ {as : List α}, All2 R as bs → ∃ as', as'.Perm as ∧ All2 R as' bs' := by
 induction hp with
 | nil => exact fun h => ⟨_, .refl _, h⟩
 | cons x _ ih =>
  intro as h
  cases as with
  | nil => exact h.elim
  | cons a as =>
   obtain ⟨as', h1, h2⟩ := ih h.2
   exact ⟨a :: as', h1.cons a, h.1, h2⟩
 | swap x y l =>
  intro as h
  cases as with
  | nil => exact h.elim
  | cons a as =>
   cases as with
   | nil => exact h.2.elim
   | cons b as => exact ⟨b :: a :: as, List.Perm.swap a b as, h.2.1, h.1, h.2.2⟩
 | trans _ _ ih1 ih2 =>
  intro as h
  obtain ⟨as1, h1, h2⟩ := ih1 h
  obtain ⟨as2, h3, h4⟩ := ih2 h2
  exact ⟨as2, h3.trans h1, h4⟩
theorem y2c7 {p q : AV × AV} (h : KR p q) : KR q p := yjw (es := [p, q]) (.cons (fun x hx => by
  rw [zn] at hx
  subst hx
  exact h) (.cons (fun x hx => by cases hx) .nil)) (i := 1) (j := 0) rfl rfl (by omega)
theorem y5i.perm {R : Value → AV → Prop} {mes : Array MapEntry} {clock : Nat} {es es' : List (AV × AV)} (h : y5i R mes clock es) (hp : es.Perm es') : y5i R mes clock es' := by
 obtain ⟨ms, h1, h2, h3, h4, h5⟩ := h
 obtain ⟨ms', h6, h7⟩ := y1nu hp h2
 refine ⟨ms', h6.trans h1, h7, ?_, fun e he => h4 e (h6.mem_iff.1 he), ?_⟩
 ·exact (hp.pairwise_iff (fun {a b} h => y2c7 h)).1 h3
 ·exact ((h6.map _).nodup_iff).2 h5
theorem yg4.len {h h' : Heap} (hs : yg4 h h') : h.length = h'.length := by
 refine Nat.le_antisymm ?_ ?_
 ·refine Nat.le_of_not_lt fun hl => ?_
  have := hs h'.length
  rw [z9 hl, z12 (zi _)] at this
  exact this
 ·refine Nat.le_of_not_lt fun hl => ?_
  have := hs h.length
  rw [z9 hl, z12 (zi _)] at this
  exact this
theorem yg4.gens {h h' : Heap} (hs : yg4 h h') : gens h' = Go.Vm.gens h := by
 refine z1r fun i => ?_
 rw [y1n, y1n]
 have := hs i
 cases h1 : h[i]? with
 | none =>
  cases h2 : h'[i]? with
  | none => rfl
  | some b => rw [h1, h2] at this; exact this.elim
 | some a =>
  cases h2 : h'[i]? with
  | none => rw [h1, h2] at this; exact this.elim
  | some b => rw [h1, h2] at this; rw [zw, zw, this.1]
theorem Inv.same (I : Inv nm w F m h) {h' : Heap} (hs : yg4 h h') : Inv nm w F m h' := by
 have hg := hs.gens
 refine ⟨fun id g loc hm => ?_, fun id g o ho hd => ?_, I.inj, fun id g loc o hm ho => ?_, I.bd⟩
 ·obtain ⟨o, h1, h2⟩ := I.live id g loc hm
  have := hs id
  rw [h1] at this
  cases h3 : h'[id]? with
  | none => rw [h3] at this; exact this.elim
  | some b =>
   rw [h3] at this
   obtain ⟨a1, a2⟩ := this
   obtain ⟨bg, bc⟩ := b
   simp only at a1 a2
   subst a1
   refine ⟨bc, rfl, ?_⟩
   rw [hg]
   rcases a2 with e | ⟨fz, es, es', e1, e2, e3⟩
   ·rw [← e]; exact h2
   ·rw [e1] at h2
    rw [e2]
    obtain ⟨mes, clock, q1, q2⟩ := h2
    exact ⟨mes, clock, q1, q2.perm e3⟩
 ·have := hs id
  rw [ho] at this
  cases h3 : h[id]? with
  | none => rw [h3] at this; exact this.elim
  | some b =>
   rw [h3] at this
   obtain ⟨a1, a2⟩ := this
   obtain ⟨bg, bc⟩ := b
   simp only at a1 a2
   subst a1
   refine I.has id bg bc h3 ?_
   rcases a2 with e | ⟨fz, es, es', e1, e2, e3⟩
   ·rw [e]; exact hd
   ·rw [e1]; rfl
 ·have := hs id
  rw [ho] at this
  cases h3 : h[id]? with
  | none => rw [h3] at this; exact this.elim
  | some b =>
   rw [h3] at this
   obtain ⟨a1, a2⟩ := this
   obtain ⟨bg, bc⟩ := b
   simp only at a1 a2
   subst a1
   have hf := I.fz id bg loc bc hm h3
   rw [← hf]
   rcases a2 with e | ⟨fz, es, es', e1, e2, e3⟩
   ·rw [e]
   ·rw [e1, e2]; rfl
theorem Inv.turn (I : Inv nm w F m h) {r : Nat} {o : Obj} (hF : ¬ F r) (ho : ¬ owned m r) : Inv nm (ChangeMaps.setBlock w r o) F m h := by
 have hb : ∀ b, b ≠ r → (ChangeMaps.setBlock w r o).heap[b]? = w.heap[b]? := fun b hne => by
  simp only [ChangeMaps.setBlock]
  rw [z11, if_neg (fun e => hne e.symm)]
 have hrep : ∀ v a, Rep nm w F m (gens h) v a → Rep nm (ChangeMaps.setBlock w r o) F m (gens h) v a := fun v a hr =>
  hr.mono (fun b hbF => hb b (fun e => hF (e ▸ hbF))) (fun _ h => h) (fun _ g h => ⟨g, h, zi _⟩) (fun _ _ _ _ h _ _ => h)
 refine ⟨fun id g loc hm => ?_, I.has, I.inj, I.fz, fun b hbF => ?_⟩
 ·obtain ⟨c, h1, h2⟩ := I.live id g loc hm
  exact ⟨c, h1, h2.of (hb _ (fun e => ho ⟨id, g, loc, hm, e⟩)) hrep⟩
 ·have := I.bd b hbF
  simpa [ChangeMaps.setBlock] using this
theorem Inv.alloc (I : Inv nm w F m h) (o : Obj) : Inv nm (w.alloc o) F m h ∧ Tr w F m (gens h) (w.alloc o) F m (gens h) := by
 have hb : ∀ b, b < w.heap.size → (w.alloc o).heap[b]? = w.heap[b]? := fun b hlt => heap_alloc_old w o hlt
 have hsz : (w.alloc o).heap.size = w.heap.size + 1 := by
  show (w.heap.push o).size = _
  simp
 have hrep : ∀ v a, Rep nm w F m (gens h) v a → Rep nm (w.alloc o) F m (gens h) v a := fun v a hr =>
  hr.mono (fun b hbF => hb b (I.bd b hbF)) (fun _ h => h) (fun _ g h => ⟨g, h, zi _⟩) (fun _ _ _ _ h _ _ => h)
 refine ⟨⟨fun id g loc hm => ?_, I.has, I.inj, I.fz, fun b hbF => ?_⟩, ⟨rfl, rfl, rfl, by omega, fun _ h => h, fun b hlt _ => hb b hlt, fun _ h => .inl h, fun _ h => .inl h, fun b _ _ hq => .of ((hb b (zo.1 hq).1).trans hq), fun _ g h => ⟨g, h, zi _⟩, fun _ _ _ _ h _ _ => h⟩⟩
 ·obtain ⟨c, h1, h2⟩ := I.live id g loc hm
  exact ⟨c, h1, h2.of (hb _ (I.blk_lt hm)) hrep⟩
 ·have := I.bd b hbF; omega
theorem Inv.killAt (I : Inv nm w F m h) (id : Nat) : ∃ m', Inv nm w F m' (Go.Vm.killAt h id) ∧ Tr w F m (gens h) w F m' (gens (Go.Vm.killAt h id)) := by
 unfold Go.Vm.killAt
 split
 ·rename_i o ho
  have hid : id < h.length := (zb.1 ho).1
  have hg : ∀ j, j ≠ id → (h.set id ⟨o.gen + 1, .dead⟩)[j]? = h[j]? := fun j hj => by rw [zu, if_neg (fun e => hj e.symm)]
  have hgl : ∀ (j g : Nat), (gens h)[j]? = some g → ∃ g' : Nat, (gens (h.set id ⟨o.gen + 1, .dead⟩))[j]? = some g' ∧ g ≤ g' := fun j g hj => by
   rw [y1n] at hj ⊢
   by_cases e : j = id
   ·subst e
    rw [ho] at hj
    have hj : o.gen = g := by simpa using hj
    exact ⟨o.gen + 1, by simp [hid], by omega⟩
   ·rw [hg j e]
    exact ⟨g, hj, zi _⟩
  have hmp : ∀ (j g g0 : Nat) (loc : Loc), (fun j => if j = id then none else m j) j = some (g, loc) → (gens h)[j]? = some g0 → g ≤ g0 → m j = some (g, loc) := fun j g g0 loc hj _ _ => by
   simp only at hj
   split at hj
   ·cases hj
   ·exact hj
  have hm : ∀ (j g : Nat) (loc : Loc), (fun j => if j = id then none else m j) j = some (g, loc) → j ≠ id ∧ m j = some (g, loc) := fun j g loc hj => by
   simp only at hj
   split at hj
   ·cases hj
   ·rename_i e; exact ⟨e, hj⟩
  have hrep : ∀ v a, Rep nm w F m (gens h) v a → Rep nm w F (fun j => if j = id then none else m j) (gens (h.set id ⟨o.gen + 1, .dead⟩)) v a := fun v a hr => hr.mono (fun _ _ => rfl) (fun _ h => h) hgl hmp
  refine ⟨fun j => if j = id then none else m j, ⟨fun j g loc hj => ?_, fun j g o' ho' hd => ?_, fun j g loc j' g' loc' h1 h2 => I.inj _ _ _ _ _ _ (hm _ _ _ h1).2 (hm _ _ _ h2).2, fun j g loc o' hj ho' => ?_, I.bd⟩, ⟨rfl, rfl, rfl, zi _, fun _ h => h, fun _ _ _ => rfl, fun b ⟨j, g, loc, h1, h2⟩ => .inl ⟨j, g, loc, (hm _ _ _ h1).2, h2⟩, fun _ h => .inl h, fun _ _ _ h => .of h, hgl, hmp⟩⟩
  ·obtain ⟨e, hj⟩ := hm _ _ _ hj
   obtain ⟨o', h1, h2⟩ := I.live j g loc hj
   exact ⟨o', by rw [hg j e]; exact h1, h2.of rfl hrep⟩
  ·by_cases e : j = id
   ·subst e
    rw [zu, if_pos rfl, if_pos hid] at ho'
    injection ho' with ho'
    injection ho' with e1 e2
    subst e2
    cases hd
   ·rw [hg j e] at ho'
    obtain ⟨loc, h1⟩ := I.has j g o' ho' hd
    exact ⟨loc, by simp only [e, if_false]; exact h1⟩
  ·obtain ⟨e, hj⟩ := hm _ _ _ hj
   rw [hg j e] at ho'
   exact I.fz j g loc o' hj ho'
 ·exact ⟨m, I, Tr.refl _ _ _ _⟩
theorem Inv.killAll {fb : Nat} : ∀ (ks : List Nat) (m : MapT) (h : Heap), Inv nm w F m h → ∃ m', Inv nm w F m' (Go.Vm.killAll fb ks h) ∧ Tr w F m (gens h) w F m' (gens (Go.Vm.killAll fb ks h))
 | [], m, h, I => ⟨m, I, Tr.refl _ _ _ _⟩
 | k :: ks, m, h, I => by
  obtain ⟨m1, I1, T1⟩ := I.killAt (fb + k)
  obtain ⟨m2, I2, T2⟩ := Inv.killAll ks m1 _ I1
  exact ⟨m2, I2, T1.trans T2⟩
theorem yfw {σ : Type} {step : σ → AV × AV → Option σ} : ∀ {l l' : List (AV × AV)} {h x : σ}, mfold step (l ++ l') h = some x → ∃ h', mfold step l h = some h' ∧ mfold step l' h' = some x
 | [], _, h, _, hx => ⟨h, rfl, hx⟩
 | p :: l, l', h, x, hx => by
  simp only [List.cons_append, mfold] at hx ⊢
  split at hx
  ·rename_i h' hh
   obtain ⟨y, e1, e2⟩ := yfw hx
   exact ⟨y, e1, e2⟩
  ·cases hx
theorem y16s {σ : Type} {step : σ → AV × AV → Option σ} {l : List (AV × AV)} {p : AV × AV} {h h' x : σ} (h1 : mfold step l h = some h') (h2 : step h' p = some x) : mfold step (l ++ [p]) h = some x := by
 induction l generalizing h with
 | nil =>
  simp only [mfold] at h1
  injection h1 with h1
  subst h1
  simp [mfold, h2]
 | cons q l ih =>
  simp only [List.cons_append, mfold] at h1 ⊢
  split at h1
  ·exact ih h1
  ·cases h1
theorem ydk {ops : Array Oper} {Q : Exit → Act → World → Prop} {i : Nat} {rest : List Nat} {a : Act} {w w' : World} {o : Oper} {v : Value} (ho : ops[i]? = some o) (hg : o.guard = none) (hrun : (execOp a.eval o).run P w = .ok (.value v) w')
  (hn : wpOps P ops Q rest (a.put o.dst v) w') : wpOps P ops Q (i :: rest) a w := by
 simp only [wpOps, ho]
 rw [if_pos (by simp [Region.wanted, hg])]
 refine .inl ?_
 unfold Oper.wp
 rw [hrun, Oper.upon_value]
 exact hn
theorem y1lt {a : Act} {d : Nat} {v : Value} (h : d < a.tmps.size) : (a.put (some d) v).tmps.getD d undef = v := by
 simp only [Act.put]
 rw [z1d, z11]
 simp [h]
theorem yb8 {a : Act} {d : Option Nat} {v : Value} : (a.put d v).tmps.size = a.tmps.size := by
 cases d <;> simp [Act.put]
theorem y74 {a : Act} {d : Option Nat} {v : Value} : (a.put d v).defers = a.defers := by
 cases d <;> rfl
theorem y1cg (live : List Nat) (t : Tmps) (i : Nat) : (i ∈ live → tget (restrict live t) i = tget t i) ∧ (i ∉ live → tget (restrict live t) i = .undef) := by
 unfold restrict
 induction live with
 | nil => exact ⟨fun h => (by cases h), fun _ => rfl⟩
 | cons j live ih =>
  simp only [List.map_cons, tget]
  by_cases e : j = i
  ·subst e
   rw [if_pos rfl]
   exact ⟨fun _ => rfl, fun h => (h (by simp)).elim⟩
  ·rw [if_neg e]
   refine ⟨fun h => ih.1 ?_, fun h => ih.2 fun h' => h (by simp [h'])⟩
   rcases zq.1 h with h | h
   ·exact (e h.symm).elim
   ·exact h
theorem yde {live : List Nat} {t : Tmps} : ∀ {l : List Nat} {i : Nat}, i ∈ l → tget (l.map fun i => (i, tget t i)) i = tget t i
 | [], i, h => by cases h
 | j :: l, i, h => by
  simp only [List.map_cons, tget]
  split
  ·rename_i e; rw [e]
  ·rename_i e
   rcases zq.1 h with h | h
   ·exact (e h.symm).elim
   ·exact yde (live := live) h
theorem yk6 (live : List Nat) (t : Tmps) : restrict live (restrict live t) = restrict live t :=
 z34 fun i hi => by rw [restrict, yde (live := live) hi]
structure MRC (P : Program) (nm : Nat → Option Nat) (N : FrN) (p : MRP) (live car : List Nat) (it k e : Nat) (cs : List CI) : Prop where
 nit : it ∉ car
 o3 : ∃ o o' n, p.ops3.toList = [o, o'] ∧ o.op = .next (.tmp it) false ∧ o.dst = some n ∧ o.guard = none ∧ o'.op = .extract (.tmp n) 0 ∧ o'.dst = some k ∧ o'.guard = none ∧ n < N.n ∧ k < N.n ∧ n ∉ it :: (live ++ (car ++ N.bar)) ∧ k ∉ it :: (live ++ (car ++ N.bar))
 c : p.c = .tmp k
 o4 : ∃ o l, p.ops4.toList = o :: l ∧ o.op = .entry (.tmp it) ∧ o.dst = some e ∧ o.guard = none ∧ e < N.n ∧ e ∉ it :: (live ++ (car ++ N.bar)) ∧ y6i P nm ⟨N.n, it :: (live ++ N.bar)⟩ p.ops4 l cs = true
theorem y1ia {it i : Nat} {l c b : List Nat} (h : i ∈ it :: (l ++ b)) : i ∈ it :: (l ++ (c ++ b)) := by
 rcases zq.1 h with h | h
 ·simp [h]
 ·rcases zt.1 h with h | h <;> simp [h]
theorem y13x (car : List Nat) (t t0 : Tmps) (i : Nat) : (i ∈ car → tget (restrict car t ++ t0) i = tget t i) ∧ (i ∉ car → tget (restrict car t ++ t0) i = tget t0 i) := by
 unfold restrict
 induction car with
 | nil => exact ⟨fun h => (by cases h), fun _ => rfl⟩
 | cons j l ih =>
  simp only [List.map_cons, List.cons_append, tget]
  by_cases e : j = i
  ·subst e
   rw [if_pos rfl]
   exact ⟨fun _ => rfl, fun h => (h (by simp)).elim⟩
  ·rw [if_neg e]
   refine ⟨fun h => ih.1 ?_, fun h => ih.2 fun h' => h (by simp [h'])⟩
   rcases zq.1 h with h | h
   ·exact (e h.symm).elim
   ·exact h
theorem yl9 {ops : Array Oper} {i : Nat} {l : List Oper} (h : ops.toList = l) : ops[i]? = l[i]? := by rw [← h, z1f]
section
variable {N : FrN} {K : Nat → Value} {p : MRP} {live car : List Nat} {it k e : Nat} {cs : List CI} (X : MRC P nm N p live car it k e cs) {t0 : Tmps} {E : Env} {C : Calls2} {L : y9q} {fb : Nat} {ca : CCode}
 {w1 : World} {F1 : Nat → Prop} {m1 : MapT} {h0 : Heap} (B1 : ∀ b, F1 b → b < w1.heap.size)
 (ht0 : ∀ i, i ∈ live → Rep nm w1 F1 m1 (gens h0) (K i) (tget t0 i)) (ht1 : ∀ i, i ∉ live → tget t0 i = .undef)
include B1 ht0 ht1
theorem y2g8 {w : World} {F : Nat → Prop} {m : MapT} {h : Heap} {a : Act} {tc : Tmps} (I : Inv nm w F m h) (T : Tr w1 F1 m1 (gens h0) w F m (gens h)) (hs : a.tmps.size = N.n) (hd : a.defers = []) (hk : ∀ t, t ∈ it :: (live ++ N.bar) → a.tmps.getD t undef = K t)
  (hr : ∀ i, i ∈ car → Rep nm w F m (gens h) (a.tmps.getD i undef) (tget tc i)) : SR nm ⟨N.n, it :: (live ++ N.bar)⟩ K w F m a ⟨restrict car tc ++ t0, h⟩ := by
 refine ⟨I, fun i => ?_, hs, hd, hk⟩
 by_cases hc : i ∈ car
 ·show Rep nm w F m (gens h) _ (tget (restrict car tc ++ t0) i)
  rw [(y13x car tc t0 i).1 hc]
  exact hr i hc
 show Rep nm w F m (gens h) _ (tget (restrict car tc ++ t0) i)
 rw [(y13x car tc t0 i).2 hc]
 by_cases hi : i ∈ live
 ·rw [hk i (by simp [hi])]
  exact (ht0 i hi).tr B1 T
 ·rw [ht1 i hi]; exact .undef _
end
def y2md (m m' : MapT) : Prop := ∀ j g l, (m j = some (g, l) → ∃ p, m' j = some (g, { l with pin := p })) ∧ (m' j = some (g, l) → ∃ p, m j = some (g, { l with pin := p }))
theorem Rep.pin {m m' : MapT} (hp : y2md m m') {v : Value} {a : AV} (hr : Rep nm w F m G v a) : Rep nm w F m' G v a := by
 have key : ∀ {id g : Nat} {loc : Loc}, (∀ loc', m id = some (g, loc') → loc' = loc) → ∃ p, ∀ loc', m' id = some (g, loc') → loc' = { loc with pin := p } := by
  intro id g loc h
  by_cases hx : ∃ l, m id = some (g, l)
  ·obtain ⟨l, hl⟩ := hx
   obtain ⟨p, hp1⟩ := (hp id g l).1 hl
   have e := h l hl
   subst e
   refine ⟨p, fun loc' h2 => ?_⟩
   rw [hp1] at h2
   injection h2 with h2
   injection h2 with _ h2
   exact h2.symm
  ·exact ⟨0, fun loc' h2 => by
    obtain ⟨p, h3⟩ := (hp id g loc').2 h2
    exact (hx ⟨_, h3⟩).elim⟩
 induction hr with
 | pure h => exact .pure h
 | undef v => exact .undef v
 | lp id g i off loc hg h =>
  obtain ⟨p, h2⟩ := key h
  exact .lp id g i off { loc with pin := p } hg h2
 | ls id g es off len cap a loc hg h hb hs he ho hc hl =>
  obtain ⟨p, h2⟩ := key h
  exact .ls id g es off len cap a { loc with pin := p } hg h2 hb hs he ho hc hl
 | lm id g loc hg h =>
  obtain ⟨p, h2⟩ := key h
  exact .lm id g { loc with pin := p } hg h2
 | agg vs cs hn hr ih => exact .agg vs cs hn ih
 | tup vs cs hn hr ih => exact .tup vs cs hn ih
 | fn f key caps cs h hn hr ih => exact .fn f key caps cs h hn ih
def yix (m : MapT) (id g : Nat) (l : Loc) : MapT := fun j => if j = id then some (g, l) else m j
theorem y56 {m : MapT} {id g : Nat} {l : Loc} : yix m id g l id = some (g, l) := if_pos rfl
theorem y6w {m : MapT} {id g j : Nat} {l : Loc} (e : j ≠ id) : yix m id g l j = m j := if_neg e
theorem y1ez {m : MapT} {id g p : Nat} {l : Loc} (hm : m id = some (g, l)) : y2md m (yix m id g { l with pin := p }) := by
 intro j g' l'
 by_cases e : j = id
 ·subst e
  constructor
  ·intro h
   rw [hm] at h
   injection h with h
   injection h with h1 h2
   subst h1; subst h2
   exact ⟨p, y56⟩
  ·intro h
   rw [y56] at h
   injection h with h
   injection h with h1 h2
   subst h1; subst h2
   exact ⟨l.pin, hm⟩
 ·rw [y6w e]
  exact ⟨fun h => ⟨l'.pin, h⟩, fun h => ⟨l'.pin, h⟩⟩
theorem ydx {m : MapT} {id g b : Nat} {l lL : Loc} (hm : m id = some (g, l)) (hb : lL.blk = l.blk) : owned (yix m id g lL) b ↔ owned m b := by
 constructor
 ·rintro ⟨j, g', l', h1, h2⟩
  by_cases e : j = id
  ·subst e
   rw [y56] at h1
   injection h1 with h1
   injection h1 with _ h1
   subst h1
   exact ⟨j, g, l, hm, hb ▸ h2⟩
  ·rw [y6w e] at h1
   exact ⟨j, g', l', h1, h2⟩
 ·rintro ⟨j, g', l', h1, h2⟩
  by_cases e : j = id
  ·subst e
   rw [hm] at h1
   injection h1 with h1
   injection h1 with _ h1
   subst h1
   exact ⟨j, g, lL, y56, hb.trans h2⟩
  ·exact ⟨j, g', l', by rw [y6w e]; exact h1, h2⟩
theorem yjv {h : Heap} {id g : Nat} {o o' : OC} (ho : h[id]? = some ⟨g, o⟩) : gens (h.set id ⟨g, o'⟩) = gens h := by
 refine z1r fun k => ?_
 rw [yvw, zu]
 split
 ·rename_i e
  subst e
  rw [y1n, ho, if_pos (by rw [gens, zy]; exact (zb.1 ho).1)]
  rfl
 ·rfl
theorem Inv.relock (I : Inv nm w F m h) {id g p : Nat} {l : Loc} {o o' : OC} (hm : m id = some (g, l)) (ho : h[id]? = some ⟨g, o⟩) (h1 : o.fz = false) (h2 : o'.fz = false)
  (hr : ycf nm w F m (gens h) { l with pin := p } o') : Inv nm w F (yix m id g { l with pin := p }) (h.set id ⟨g, o'⟩) := by
 have hlt := (zb.1 ho).1
 have hg : gens (h.set id ⟨g, o'⟩) = gens h := yjv ho
 have hp := y1ez (p := p) hm
 have hoth : ∀ j, j ≠ id → (h.set id ⟨g, o'⟩)[j]? = h[j]? := fun j e => z17 (fun q => e q.symm)
 have hown : (h.set id ⟨g, o'⟩)[id]? = some ⟨g, o'⟩ := by simp [hlt]
 have hblk : ∀ j g' l', yix m id g { l with pin := p } j = some (g', l') → ∃ l2, m j = some (g', l2) ∧ l2.blk = l'.blk := fun j g' l' hj => by
  obtain ⟨q, hq⟩ := (hp j g' l').2 hj
  exact ⟨_, hq, rfl⟩
 refine ⟨fun j g' l' hj => ?_, fun j g' o1 hj hd => ?_, fun j g' l' j2 g2 l2 hj hj2 hb => ?_, fun j g' l' o1 hj ho1 => ?_, I.bd⟩
 ·rw [hg]
  by_cases e : j = id
  ·subst e
   rw [y56] at hj
   injection hj with hj
   injection hj with e1 e2
   subst e1; subst e2
   exact ⟨o', hown, hr.of rfl fun v a => Rep.pin hp⟩
  ·rw [y6w e] at hj
   obtain ⟨o1, q1, q2⟩ := I.live j g' l' hj
   exact ⟨o1, by rw [hoth j e]; exact q1, q2.of rfl fun v a => Rep.pin hp⟩
 ·by_cases e : j = id
  ·subst e
   rw [hown] at hj
   injection hj with hj
   injection hj with e1 _
   subst e1
   exact ⟨_, y56⟩
  ·rw [hoth j e] at hj
   rw [y6w e]
   exact I.has j g' o1 hj hd
 ·obtain ⟨l3, k1, k2⟩ := hblk j g' l' hj
  obtain ⟨l4, k3, k4⟩ := hblk j2 g2 l2 hj2
  exact I.inj _ _ _ _ _ _ k1 k3 (by rw [k2, k4, hb])
 ·by_cases e : j = id
  ·subst e
   rw [hown] at ho1
   injection ho1 with ho1
   injection ho1 with _ e1
   subst e1
   rw [y56] at hj
   injection hj with hj
   injection hj with _ e2
   subst e2
   have := I.fz j g l o hm ho
   rw [h1] at this
   rw [h2]
   exact this
  ·rw [hoth j e] at ho1
   rw [y6w e] at hj
   exact I.fz j g' l' o1 hj ho1
theorem Tr.unpin {w w' : World} {F F' : Nat → Prop} {m1 m' : MapT} {G G' : List Nat} {id g : Nat} {l lL : Loc} (hm : m1 id = some (g, l)) (hb : lL.blk = l.blk) (hm' : m' id = some (g, lL))
  (T : Tr w F (yix m1 id g lL) G w' F' m' G') : Tr w F m1 G w' F' (yix m' id g l) G' where
 os := T.os
 tape := T.tape
 output := T.output
 size := T.size
 sub := T.sub
 same b h1 h2 := T.same b h1 (h2.imp (fun q q2 => q ((ydx hm hb).1 q2)) fun q => q)
 own b h := (T.own b ((ydx hm' hb.symm).1 h)).imp (ydx hm hb).1 fun q => q
 new b h := (T.new b h).imp (fun q => q) (Or.imp (ydx hm hb).1 fun q => q)
 kp := T.kp
 gl := T.gl
 mp j g' g0 l' h1 h2 h3 := by
  by_cases e : j = id
  ·subst e
   rw [y56] at h1
   injection h1 with h1
   injection h1 with e1 e2
   subst e1; subst e2
   exact hm
  ·rw [y6w e] at h1
   have := T.mp j g' g0 l' h1 h2 h3
   rw [y6w e] at this
   exact this
theorem yr2 {w' : World} {F' : Nat → Prop} {m' : MapT} {G' : List Nat} {v : Value} {a b : AV} (h1 : Rep nm w F m G v a) (h2 : Rep nm w' F' m' G' v b) (ha : yd5 a = true) (hb : yd5 b = true) : a = b := by
 cases h1 with
 | pure h1 =>
  cases h2 with
  | pure h2 =>
   cases h1 with
   | int k n => cases h2; rfl
   | bool b => cases h2; rfl
   | str s => cases h2; rfl
   | _ => exact (zv ha).elim
  | undef => cases hb
  | lp => cases hb
  | ls => cases hb
  | lm => cases hb
  | agg => cases hb
  | tup => cases hb
  | fn => cases hb
 | undef => cases ha
 | lp => cases ha
 | ls => cases ha
 | lm => cases ha
 | agg => cases ha
 | tup => cases ha
 | fn => cases ha
theorem y28n : ∀ {es : List (AV × AV)}, es.Pairwise KR → ∀ {p q : AV × AV}, p ∈ es → q ∈ es → p.1 = q.1 → p = q
 | [], _, p, _, hp, _, _ => by cases hp
 | a :: es, h, p, q, hp, hq, e => by
  rw [List.pairwise_cons] at h
  rcases zq.1 hp with hp | hp
  ·rcases zq.1 hq with hq | hq
   ·rw [hp, hq]
   ·rw [hp] at e
    exact ((h.1 q hq).1 e).elim
  ·rcases zq.1 hq with hq | hq
   ·rw [hq] at e
    exact ((h.1 p hp).1 e.symm).elim
   ·exact y28n h.2 hp hq e
theorem y2t6 {es : List (AV × AV)} (h : es.Pairwise KR) : es.Nodup := h.imp fun h e => h.1 (by rw [e])
theorem All2.at {α β : Type} {R : α → β → Prop} {as : List α} {bs : List β} (h : All2 R as bs) {i : Nat} {a : α} (ha : as[i]? = some a) : ∃ b, bs[i]? = some b ∧ R a b := by
 have hl : i < bs.length := by rw [← h.length]; exact (zb.1 ha).1
 exact ⟨_, z9 hl, h.get ha (z9 hl)⟩
theorem All2.at' {α β : Type} {R : α → β → Prop} {as : List α} {bs : List β} (h : All2 R as bs) {i : Nat} {b : β} (hb : bs[i]? = some b) : ∃ a, as[i]? = some a ∧ R a b := by
 have hl : i < as.length := by rw [h.length]; exact (zb.1 hb).1
 exact ⟨_, z9 hl, h.get (z9 hl) hb⟩
theorem ylf {id g : Nat} {step : Heap → AV × AV → Option Heap} {h : Heap} {es : List (AV × AV)} (hk : y3t h id g = some es) : ∀ (rem : List (AV × AV)), (∀ q ∈ rem, ∀ q' ∈ es, q'.1 ≠ q.1) → mfold (ustep id g step) rem h = some h
 | [], _ => rfl
 | q :: rem, hr => by
  have e : ustep id g step h q = some h := by
   unfold ustep
   rw [hk]
   simp only
   rw [List.find?_eq_none.2 fun x hx => by simpa using hr q z1h x hx]
  rw [mfold, e]
  exact ylf hk rem fun q' hq' => hr q' (z18 _ hq')
section
variable {N : FrN} {K : Nat → Value} {p : MRP} {live : List Nat} {it k e : Nat} {cs : List CI} (X : MRC P nm N p live [] it k e cs) {t0 : Tmps} {E : Env} {C : Calls2} {L : y9q} {fb : Nat} {ca : CCode}
 {w1 : World} {F1 : Nat → Prop} {m1 : MapT} {h0 : Heap} (B1 : ∀ b, F1 b → b < w1.heap.size)
 (ht0 : ∀ i, i ∈ live → Rep nm w1 F1 m1 (gens h0) (K i) (tget t0 i)) (ht1 : ∀ i, i ∉ live → tget t0 i = .undef)
include B1 ht0 ht1
theorem y1ki {w : World} {F : Nat → Prop} {m : MapT} {h : Heap} {a : Act} (I : Inv nm w F m h) (T : Tr w1 F1 m1 (gens h0) w F m (gens h)) (hs : a.tmps.size = N.n) (hd : a.defers = []) (hk : ∀ t, t ∈ it :: (live ++ N.bar) → a.tmps.getD t undef = K t) :
  SR nm ⟨N.n, it :: (live ++ N.bar)⟩ K w F m a ⟨t0, h⟩ :=
 y2g8 (car := []) (tc := []) B1 ht0 ht1 I T hs hd hk (fun i hi => by cases hi)
variable (H : NmOk P nm) (hP : y3k P nm C.p) (hI : y7j P nm C.i)
 (body : ∀ (a : Act) (s : St) (r : Res) (s' : St) (w : World) (F : Nat → Prop) (m : MapT) (Q : Exit → Act → World → Prop), SR nm ⟨N.n, it :: (live ++ N.bar)⟩ K w F m a s → exec E C L fb ca s = some (r, s') →
  (∀ a' w' F' m', SR nm ⟨N.n, it :: (live ++ N.bar)⟩ K w' F' m' a' s' → Tr w F m (gens s.h) w' F' m' (gens s'.h) → Q (yv0 r) a' w') → p.body.wp P Q a w)
 {r bm clock id g : Nat} {lL : Loc} {mes : Array MapEntry} {ms : List MapEntry} {es : List (AV × AV)} (hK : K it = .pointer (some ⟨r, 0, none⟩)) (hr1 : w1.heap.size = r)
 (hid : m1 id = some (g, lL)) (hG : (gens h0)[id]? = some g) (hbm : lL.blk = bm) (hpin : lL.pin = clock)
 (hmes : w1.heap[bm]? = some (.map mes clock)) (hms : ms.Perm mes.toList) (hA : All2 (fun x q => Rep nm w1 F1 m1 (gens h0) x.key q.1 ∧ Rep nm w1 F1 m1 (gens h0) x.val q.2) ms es) (hkr : es.Pairwise KR) (hborn : ∀ x ∈ ms, x.born < clock)
 (hnd : (ms.map (·.born)).Nodup) (hpl : es.all (fun p => yd5 p.1) = true)
 (hall : ∀ π : List (AV × AV), π.Perm es → ∃ h', mfold (ustep id g (hstep E C fb t0 e cs fun s2 => exec E C L fb ca s2)) π h0 = some h')
 {Q : Exit → Act → World → Prop} (hQ : ∀ π h' a' w' F' m' es', π.Perm es → mfold (ustep id g (hstep E C fb t0 e cs fun s2 => exec E C L fb ca s2)) π h0 = some h' →
  SR nm ⟨N.n, it :: (live ++ N.bar)⟩ K w' F' m' a' ⟨t0, h'⟩ → Tr w1 F1 m1 (gens h0) w' F' m' (gens h') → y3t h' id g = some es' → Q .normal a' w')
include X H hP hI body hK hr1 hall hborn hnd hQ hid hG hbm hpin hmes hms hA hkr hpl
open Classical in
theorem y2gy : ∀ (n : Nat) (vis rem : List (AV × AV)) (seen : Array Nat) (h : Heap) (a : Act) (w : World) (F : Nat → Prop) (m : MapT) (es' : List (AV × AV)), rem.length = n → (vis ++ rem).Perm es →
  mfold (ustep id g (hstep E C fb t0 e cs fun s2 => exec E C L fb ca s2)) vis h0 = some h → y3t h id g = some es' → es'.all (fun p => yd5 p.1) = true → (∀ (i : Nat) (x : MapEntry) (q : AV × AV), ms[i]? = some x → es[i]? = some q → (seen.contains x.born = true ↔ q ∈ vis)) →
  Inv nm w F m h → a.tmps.size = N.n → a.defers = [] → (∀ t, t ∈ it :: (live ++ N.bar) → a.tmps.getD t undef = K t) → Tr w1 F1 m1 (gens h0) w F m (gens h) → ¬ owned m r → ¬ F r → r < w.heap.size →
  w.heap[r]? = some (.mapIter (some bm) clock seen clock) → ybi P p.loop (Exit.inBlock p.b0 Q) a w := by
 obtain ⟨o3, o3', nn, q1, q2, q3, q4, q5, q6, q7, q8, q9, q10, q11⟩ := X.o3
 obtain ⟨o4, l4, u1, u2, u3, u4, u5, u6, u7⟩ := X.o4
 have hsz3 : p.ops3.size = 2 := by rw [← z1e, q1]; rfl
 have o30 : p.ops3[0]? = some o3 := by rw [yl9 q1]; rfl
 have o31 : p.ops3[1]? = some o3' := by rw [yl9 q1]; rfl
 have r2 : List.range p.ops3.size = [0, 1] := by rw [hsz3]; rfl
 have o40 : p.ops4[0]? = some o4 := by rw [yl9 u1]; rfl
 have r4 : List.range p.ops4.size = 0 :: List.range' 1 l4.length := by
  rw [← z1e, u1, zl, List.range_eq_range', List.range'_succ]
 -- what stays of the temporaries behind 'next'
 have keep : ∀ {a : Act} {v v' : Value}, (∀ t, t ∈ it :: (live ++ N.bar) → a.tmps.getD t undef = K t) → ∀ t, t ∈ it :: (live ++ N.bar) → ((a.put o3.dst v).put o3'.dst v').tmps.getD t undef = K t := by
  intro a v v' hk t ht
  have ht := y1ia (c := []) ht
  rw [ydi (fun h => by rw [q6] at h; injection h with h; exact q11 (h ▸ ht)), ydi (fun h => by rw [q3] at h; injection h with h; exact q10 (h ▸ ht))]
  exact hk t (by simpa using ht)
 -- 'next' with its answer
 have step3 : ∀ (Q' : Exit → Act → World → Prop) (a : Act) (w w' : World) (vs : Array Value) (b : Bool), a.tmps.size = N.n → (∀ t, t ∈ it :: (live ++ N.bar) → a.tmps.getD t undef = K t) → vs[0]? = some (.bool b) →
   (Instr.next (.pointer (some ⟨r, 0, none⟩)) false o3.type).run P w = .ok (.tuple vs) w' → Q' .normal ((a.put o3.dst (.tuple vs)).put o3'.dst (.bool b)) w' → (Code.region p.r3 p.ops3 false).wp P Q' a w := by
  intro Q' a w w' vs b hsz hk hv hrun hq
  have hit : a.eval (.tmp it) = .pointer (some ⟨r, 0, none⟩) := by
   show a.tmps.getD it undef = _
   rw [hk it (by simp), hK]
  refine wp_region ?_
  rw [r2]
  refine ydk o30 q4 (v := .tuple vs) (w' := w') ?_ ?_
  ·unfold execOp
   simp only [q2, hit, Sem.run_bind, hrun, Result.andThen_ok, Sem.run_pure]
  ·refine ydk o31 q7 (v := .bool b) (w' := w') ?_ hq
   have hn : (a.put o3.dst (.tuple vs)).eval (.tmp nn) = .tuple vs := by
    rw [q3]; exact y1lt (by rw [hsz]; exact q8)
   unfold execOp
   simp only [q5, hn, Instr.extract, hv, Sem.run_bind, Sem.run_pure, Result.andThen_ok]
 have cnd3 : ∀ {a : Act} {v : Value} {b : Bool}, a.tmps.size = N.n → ((a.put o3.dst v).put o3'.dst (.bool b)).eval p.c = .bool b := by
  intro a v b hsz
  rw [X.c, q6]
  exact y1lt (by rw [yb8, hsz]; exact q9)
 have esnd := y2t6 hkr
 intro n
 induction n using Nat.strongRecOn with
 | ind n ih =>
  intro vis rem seen h a w F m es' hRn hvr hvis hk hpl' J I hsz hde hkt T ho hFr hrl hr
  -- the map as it is now
  obtain ⟨loc, hm, mest, hh, hM⟩ := y79 I hk
  have hloc : loc = lL := by
   have := T.mp id g g loc hm hG (zi _)
   rw [hid] at this
   injection this with this
   injection this with _ this
   exact this.symm
  subst hloc
  rw [hpin] at hM
  rw [hbm, hpin] at hh
  obtain ⟨mst, p1, p2, p3, p4, p5⟩ := hM
  have old : ∀ x' ∈ mst, ∃ (i : Nat) (x : MapEntry) (q : AV × AV), ms[i]? = some x ∧ es[i]? = some q ∧ x.born = x'.born ∧ x.key = x'.key ∧ Rep nm w1 F1 m1 (gens h0) x.key q.1 := by
   intro x' hx'
   obtain ⟨mes2, c2, k1, k2, k3⟩ := T.kp bm mes clock hmes
   rw [hh] at k1
   injection k1 with k1
   injection k1 with k1 k1'
   subst k1; subst k1'
   rcases k3 x' (p1.mem_iff.1 hx') with q | ⟨x, hx, e1, e2⟩
   ·have := p4 x' hx'; omega
   ·obtain ⟨i, hi⟩ := zz (hms.mem_iff.2 hx)
    obtain ⟨q, hq, hR⟩ := hA.at hi
    exact ⟨i, x, q, hi, hq, e1, e2, hR.1⟩
  have plq : ∀ q ∈ es, yd5 q.1 = true := fun q hq => z19.1 hpl q hq
  have plq' : ∀ q ∈ es', yd5 q.1 = true := fun q hq => z19.1 hpl' q hq
  rcases run_next_at (P := P) w o3.type r bm clock clock seen mest clock hr hh (fun x hx => p4 x (p1.mem_iff.2 hx)) (zi _) with ⟨h0', hrun⟩ | ⟨x', hx', wd, hwd, hrun⟩
  ·-- nobody is left
   have gone : ∀ q ∈ rem, ∀ q' ∈ es', q'.1 ≠ q.1 := by
    intro q hq q' hq' e
    obtain ⟨i', hi'⟩ := zz hq'
    obtain ⟨x', hx', hR'⟩ := p2.at' hi'
    obtain ⟨i, x, p, k1, k2, k3, k4, k5⟩ := old x' (zs hx')
    have hpm := zs k2
    have hpq : p.1 = q'.1 := yr2 k5 (k4 ▸ hR'.1) (plq p hpm) (plq' q' hq')
    have hqes : q ∈ es := hvr.mem_iff.1 (z22 _ hq)
    have : p = q := y28n hkr hpm hqes (hpq.trans e)
    subst this
    have hnv : p ∉ vis := fun hv => by
     have := (hvr.nodup_iff).2 esnd
     rw [z2e] at this
     exact this.2.2 p hv p hq rfl
    have hns : seen.contains x'.born = false := by
     cases hc : seen.contains x'.born with
     | false => rfl
     | true => exact (hnv ((J i x p k1 k2).1 (by rw [k3]; exact hc))).elim
    have hl : x' ∈ leftOf mest seen := by
     unfold leftOf
     rw [Array.mem_filter]
     exact ⟨by simpa using p1.mem_iff.1 (zs hx'), by rw [hns]; rfl⟩
    have := Array.size_pos_of_mem hl
    omega
   refine .unroll (wp_seq (step3 _ a w w #[.bool false] false hsz hkt rfl hrun ?_))
   refine wp_seq (wp_cond_false (cnd3 hsz) (wp_exit ?_))
   show Exit.inBlock p.b0 Q (.exit p.b0) _ w
   simp only [Exit.inBlock, if_true]
   refine hQ (vis ++ rem) h _ w F m es' hvr ?_ (y1ki B1 ht0 ht1 I T (by rw [yb8, yb8]; exact hsz) (by rw [y74, y74]; exact hde) (keep hkt)) T hk
   have sk := ylf (step := hstep E C fb t0 e cs fun s2 => exec E C L fb ca s2) hk rem gone
   clear hrun
   have : ∀ (l : List (AV × AV)) (h0 : Heap), mfold (ustep id g (hstep E C fb t0 e cs fun s2 => exec E C L fb ca s2)) l h0 = some h → mfold (ustep id g (hstep E C fb t0 e cs fun s2 => exec E C L fb ca s2)) (l ++ rem) h0 = some h := by
    intro l
    induction l with
    | nil => intro h0 e1; injection e1 with e1; subst e1; exact sk
    | cons q l ihl =>
     intro h0 e1
     simp only [mfold, List.cons_append] at e1 ⊢
     split at e1
     ·exact ihl _ e1
     ·cases e1
   exact this vis h0 hvis
  ·-- a round
   have hx2 := mem_left hx'
   obtain ⟨i', hi'⟩ := zz (p1.mem_iff.2 hx2.1)
   obtain ⟨q', hq', hR'⟩ := p2.at hi'
   have hqm := zs hq'
   obtain ⟨i, x, q, k1, k2, k3, k4, k5⟩ := old x' (zs hi')
   have hqes := zs k2
   have hkey : q.1 = q'.1 := yr2 k5 (k4 ▸ hR'.1) (plq q hqes) (plq' q' hqm)
   have hnv : q ∉ vis := fun hv => by
    have := (J i x q k1 k2).2 hv
    rw [k3, hx2.2] at this
    cases this
   have hqr : q ∈ rem := (zt.1 (hvr.mem_iff.2 hqes)).resolve_left hnv
   obtain ⟨j, hj⟩ := zz hqr
   have hpq := y7i hj
   have hord : (vis ++ (q :: rem.eraseIdx j)).Perm es := (hpq.append_left vis).trans hvr
   obtain ⟨hx3, f1⟩ := hall _ hord
   obtain ⟨h2, f3, f4⟩ := yfw f1
   rw [hvis] at f3
   injection f3 with f3
   subst f3
   simp only [mfold] at f4
   split at f4
   ·rename_i h3 hstep
    have hvis' := y16s hvis hstep
    unfold ustep at hstep
    rw [hk] at hstep
    simp only at hstep
    have hfind : es'.find? (fun y => decide (y.1 = q.1)) = some q' := by
     cases hf : es'.find? fun y => decide (y.1 = q.1) with
     | none =>
      have := List.find?_eq_none.1 hf q' hqm
      simp [hkey] at this
     | some y =>
      have hy := List.find?_some hf
      rw [decide_eq_true_eq] at hy
      rw [y28n p3 (List.mem_of_find?_eq_some hf) hqm (hy.trans hkey)]
    rw [hfind] at hstep
    simp only at hstep
    split at hstep
    ·rename_i h3' hst
     split at hstep
     ·rename_i es3 hk3
      split at hstep
      ·rename_i hpl3
       injection hstep with hstep
       subst hstep
       unfold hstep at hst
       split at hst
       ·rename_i s2 hs2
        obtain ⟨s3, hex, hh3⟩ := z1g.1 hst
        subst hh3
        have hex := yf5 hex
        have hwdh : wd.heap = w.heap ∧ wd.os = w.os ∧ wd.tape = w.tape ∧ wd.output = w.output := by
         rcases hwd with rfl | rfl <;> exact ⟨rfl, rfl, rfl, rfl⟩
        obtain ⟨d1, d2, d3, d4⟩ := hwdh
        have hbr : bm ≠ r := fun e1 => ho ⟨id, g, loc, hm, hbm.trans e1⟩
        have Id : Inv nm wd F m h := I.heap d1
        have I' := Id.turn (r := r) (o := .mapIter (some bm) clock (seen.push x'.born) clock) hFr ho
        have hsz' : (ChangeMaps.setBlock wd r (.mapIter (some bm) clock (seen.push x'.born) clock)).heap.size = w.heap.size := by
         simp [ChangeMaps.setBlock, d1]
        have hoth : ∀ b, b ≠ r → (ChangeMaps.setBlock wd r (.mapIter (some bm) clock (seen.push x'.born) clock)).heap[b]? = w.heap[b]? := fun b hne => by
         simp only [ChangeMaps.setBlock]
         rw [z11, if_neg (fun e1 => hne e1.symm), d1]
        have hrr : (ChangeMaps.setBlock wd r (.mapIter (some bm) clock (seen.push x'.born) clock)).heap[r]? = some (.mapIter (some bm) clock (seen.push x'.born) clock) := by
         simp only [ChangeMaps.setBlock]
         rw [z11, if_pos rfl, if_pos (by rw [d1]; exact hrl)]
        have hcw : ∀ {v : Value} {l : AV}, Rep nm w F m (gens h) v l → Rep nm (ChangeMaps.setBlock wd r (.mapIter (some bm) clock (seen.push x'.born) clock)) F m (gens h) v l := fun hr' =>
         hr'.mono (fun b hbF => hoth b (fun e => hFr (e ▸ hbF))) (fun _ h => h) (fun _ g h => ⟨g, h, zi _⟩) (fun _ _ _ _ h _ _ => h)
        have T' : Tr w1 F1 m1 (gens h0) (ChangeMaps.setBlock wd r (.mapIter (some bm) clock (seen.push x'.born) clock)) F m (gens h) :=
         ⟨d2.trans T.os, d3.trans T.tape, d4.trans T.output, by rw [hsz']; exact T.size, T.sub, fun b hb1 hb2 => by rw [hoth b (by omega)]; exact T.same b hb1 hb2, T.own, T.new, fun b ms c hq => by
          have hlt := (zo.1 hq).1
          rw [hoth b (by omega)]
          exact T.kp b ms c hq, T.gl, T.mp⟩
        generalize ChangeMaps.setBlock wd r (.mapIter (some bm) clock (seen.push x'.born) clock) = w' at *
        refine .unroll (wp_seq (step3 _ a w w' #[.bool true, x'.key, x'.val] true hsz hkt rfl hrun ?_))
        have hs3 : ((a.put o3.dst (.tuple #[.bool true, x'.key, x'.val])).put o3'.dst (.bool true)).tmps.size = N.n := by rw [yb8, yb8]; exact hsz
        have hd3 : ((a.put o3.dst (.tuple #[.bool true, x'.key, x'.val])).put o3'.dst (.bool true)).defers = [] := by rw [y74, y74]; exact hde
        have hk4 := keep (v := .tuple #[.bool true, x'.key, x'.val]) (v' := .bool true) hkt
        have hc3 := cnd3 (a := a) (v := .tuple #[.bool true, x'.key, x'.val]) (b := true) hsz
        generalize (a.put o3.dst (.tuple #[.bool true, x'.key, x'.val])).put o3'.dst (.bool true) = a3 at *
        refine wp_seq (wp_cond_true hc3 (wp_skip ?_))
        refine wp_block (wp_seq (wp_region ?_))
        rw [r4]
        have hit : a3.eval (.tmp it) = .pointer (some ⟨r, 0, none⟩) := by
         show a3.tmps.getD it undef = _
         rw [hk4 it (by simp), hK]
        have hent := run_entry_at (P := P) w' r bm clock seen mest clock x' hrr (by rw [hoth bm hbr]; exact hh) hx2.1 (((p1.map _).nodup_iff).1 p5)
        refine ydk o40 u4 (v := .tuple #[x'.key, x'.val]) (w' := w') ?_ ?_
        ·unfold execOp
         simp only [u2, hit, Sem.run_bind, hent, Result.andThen_ok, Sem.run_pure]
        ·have S3 := y1ki B1 ht0 ht1 I' T' hs3 hd3 hk4
         have hrep : Rep nm w' F m (gens h) (.tuple #[x'.key, x'.val]) (.tup [q'.1, q'.2]) := by
          refine .tup _ _ rfl (fun i v l h1 h2 => ?_)
          match i, h1, h2 with
          | 0, h1, h2 => simp at h1 h2; subst h1; subst h2; exact hcw hR'.1
          | 1, h1, h2 => simp at h1 h2; subst h1; subst h2; exact hcw hR'.2
          | i + 2, h1, _ => simp at h1
         have hp4 := S3.t.put (d := some e) (v := .tuple #[x'.key, x'.val]) (x := .tup [q'.1, q'.2]) S3.size (fun d' hd' => by injection hd' with hd'; rw [← hd']; exact u5) hrep
         have S4 : SR nm ⟨N.n, it :: (live ++ N.bar)⟩ K w' F m (a3.put o4.dst (.tuple #[x'.key, x'.val])) ⟨(e, .tup [q'.1, q'.2]) :: t0, h⟩ := by
          rw [u3]
          exact ⟨I', hp4.1, hp4.2.1, by rw [hp4.2.2]; exact hd3, ygp hk4 (fun d' hd' => by injection hd' with hd'; rw [← hd']; exact fun h => u6 (y1ia h))⟩
         refine ya7 H hP hI l4 cs 1 _ _ s2 w' F m (fun i => ?_) u7 S4 hs2 (fun a5 w5 F5 m5 S5 T5 => ?_)
         ·have h4 := yl9 (i := 1 + i) u1
          rw [h4, Nat.add_comm 1 i]
          rfl
         ·refine body a5 s2 .norm s3 w5 F5 m5 _ S5 hex (fun a6 w6 F6 m6 S6 T6 => ?_)
          have T56 := T5.trans T6
          show ybi P p.loop (Exit.inBlock p.b0 Q) a6 w6
          have hrl' : r < w'.heap.size := by rw [hsz']; exact hrl
          have hjl := (zb.1 hj).1
          refine ih (rem.eraseIdx j).length (by rw [List.length_eraseIdx_of_lt hjl]; omega) (vis ++ [q]) (rem.eraseIdx j) (seen.push x'.born) s3.h a6 w6 F6 m6 es3 rfl ?_ hvis' hk3 hpl3 ?_ S6.inv S6.size S6.defers S6.kept (T'.trans T56) ?_ ?_ (z2j hrl' T56.size) ?_
          ·rw [z1m]; exact hord
          ·intro i2 y p2' g1 g2
           rw [contains_push, z1k, J i2 y p2' g1 g2, zt, zn, beq_iff_eq]
           refine or_congr Iff.rfl ⟨fun e1 => ?_, fun e1 => ?_⟩
           ·have hl1 := (zb.1 g1).1
            have hl2 := (zb.1 k1).1
            have b1 : (ms.map (·.born))[i2]? = some y.born := by rw [z1a, g1]; rfl
            have b2 : (ms.map (·.born))[i]? = some y.born := by rw [z1a, k1, zw, k3, e1]
            have : i2 = i := (List.getElem?_inj (by rw [zy]; exact hl1) hnd).1 (b1.trans b2.symm)
            subst this
            rw [g2] at k2
            injection k2
           ·subst e1
            have hl1 := (zb.1 g2).1
            have : i2 = i := (List.getElem?_inj hl1 esnd).1 (g2.trans k2.symm)
            subst this
            rw [g1] at k1
            injection k1 with k1
            rw [k1]
            exact k3
          ·intro ho6
           rcases T56.own r ho6 with h7 | h7
           ·exact ho h7
           ·omega
          ·intro hF6
           rcases T56.new r hF6 with h7 | h7 | h7
           ·exact hFr h7
           ·exact ho h7
           ·omega
          ·rw [T56.same r hrl' (.inl ho)]; exact hrr
       ·cases hst
      ·cases hstep
     ·cases hstep
    ·cases hstep
   ·cases f4
end
theorem y1ri {N : FrN} {p : MRP} {pre : List CI} {x : Opd} {live car : List Nat} {e : Nat} {cs : List CI} {it : Nat} (h : mrOk P nm N p pre x live car e cs = some it) :
  ∃ k l o2 t y kt et, MRC P nm N p live car it k e cs ∧ p.ops2.toList = l ++ [o2] ∧ y6i P nm N p.ops2 l pre = true ∧ o2.op = .range t y ∧ o2.dst = some it ∧ o2.guard = none ∧ chkO nm y x = true ∧ P.underlying t = some (.map kt et) ∧ it < N.n ∧ it ∉ N.bar ∧ it ∉ live := by
 unfold mrOk at h
 split at h
 ·rename_i o2 o3 o3' o4 l4 e2 e3 e4
  split at h
  ·rename_i it' hr
   split at h
   ·rename_i k hn
    split at h
    ·rename_i hb
     injection h with h
     subst h
     simp only [zc, decide_eq_true_eq, z1u, z31, decide_eq_false_iff_not] at hb
     obtain ⟨⟨⟨⟨⟨⟨⟨b1, b2⟩, b3⟩, b4⟩, b8⟩, b5⟩, b6⟩, b7⟩ := hb
     have hl : p.ops2.toList = p.ops2.toList.dropLast ++ [o2] := by
      obtain ⟨ys, hys⟩ := List.getLast?_eq_some_iff.1 e2
      rw [hys, List.dropLast_concat]
     unfold y1bn at hr
     split at hr
     ·rename_i t y it2 r1 r2 r3
      generalize hcb : (chkO nm y x && (match P.underlying t with
       | some (.map _ _) => true
       | _ => false)) = cb at hr
      cases cb with
      | false => simp at hr
      | true =>
       have hc := hcb
       simp only [if_true, Option.some.injEq] at hr
       subst hr
       rw [zc] at hc
       obtain ⟨c1, c2⟩ := hc
       split at c2
       ·rename_i kt et hu
        refine ⟨k, _, o2, t, y, kt, et, ⟨b8, ?_, ?_, ?_⟩, hl, b1, r1, r2, r3, c1, hu, b2, b3, b4⟩
        ·unfold y2l0 at hn
         split at hn
         ·rename_i i1 n1 n2 k1 w1 w2 w3 w4 w5 w6
          split at hn
          ·rename_i hh
           injection hn with hn
           subst hn
           obtain ⟨z1, z2, z3, z4, z5, z6⟩ := hh
           subst z1; subst z2
           exact ⟨o3, o3', _, e3, w1, w2, w3, w4, w5, w6, z3, z4, z5, z6⟩
          ·cases hn
         ·cases hn
        ·cases hpc : p.c with
         | tmp j => rw [hpc] at b5; simp [chkO] at b5; rw [b5]
         | _ => rw [hpc] at b5; simp [chkO] at b5
        ·unfold y272 at b6
         split at b6
         ·rename_i i1 e1 w1 w2 w3
          simp only [zc, beq_iff_eq, decide_eq_true_eq, z1u, z31, decide_eq_false_iff_not] at b6
          obtain ⟨⟨⟨z1, z2⟩, z3⟩, z4⟩ := b6
          subst z1; subst z2
          exact ⟨o4, l4, e4, w1, w2, w3, z3, z4, b7⟩
         ·cases b6
       ·cases c2
     ·cases hr
    ·cases h
   ·cases h
  ·cases h
 ·cases h
theorem yf6 (H : NmOk P nm) {E : Env} {C : Calls2} {L : y9q} (hP : y3k P nm C.p) (hI : y7j P nm C.i) (hL : yps P nm L) {fb : Nat} :
  ∀ (c : Code) (cc : CCode) (N : FrN) (K : Nat → Value) (a : Act) (s : St) (r : Res) (s' : St) (w : World) (F : Nat → Prop) (m : MapT) (Q : Exit → Act → World → Prop), y2t P nm N c cc = true → SR nm N K w F m a s → exec E C L fb cc s = some (r, s') →
   (∀ a' w' F' m', SR nm N K w' F' m' a' s' → Tr w F m (gens s.h) w' F' m' (gens s'.h) → Q (yv0 r) a' w') → c.wp P Q a w := by
 intro c cc
 induction cc generalizing c with
 | bad =>
  intro N K a s r s' w F m Q hc R hx hQ
  simp only [exec] at hx
  cases hx
 | skip =>
  intro N K a s r s' w F m Q hc R hx hQ
  simp only [exec] at hx
  injection hx with hx
  injection hx with h1 h2
  subst h1; subst h2
  cases c <;> first | cases hc | skip
  exact wp_skip (hQ a w F m R (Tr.refl _ _ _ _))
 | region cs =>
  intro N K a s r s' w F m Q hc R hx hQ
  simp only [exec] at hx
  split at hx
  ·rename_i s1 hs1
   injection hx with hx
   injection hx with h1 h2
   subst h1; subst h2
   cases c <;> first | cases hc | skip
   rename_i id ops draw
   simp only [y2t, zc, z1u] at hc
   obtain ⟨hd, hc⟩ := hc
   subst hd
   have := ya7 H hP hI ops.toList cs 0 a s s1 w F m (fun j => by simp) hc R hs1 hQ
   exact wp_region (by rw [← z1e, List.range_eq_range']; exact this)
  ·cases hx
 | draw cs pairs =>
  intro N K a s r s' w F m Q hc R hx hQ
  simp only [exec] at hx
  split at hx
  ·rename_i s1 hs1
   injection hx with hx
   injection hx with h1 h2
   subst h1; subst h2
   cases c <;> first | cases hc | skip
   rename_i id ops draw
   simp only [y2t, zc] at hc
   obtain ⟨hd, hc⟩ := hc
   subst hd
   split at hs1
   ·rename_i hp
    rw [z3f] at hp
    subst hp
    exact yup H hP hI hc R hs1 hQ
   ·exact ylc H hP hI hc R hs1 hQ
  ·cases hx
 | drawN k cs pairs =>
  intro N K a s r s' w F m Q hc R hx hQ
  simp only [exec] at hx
  split at hx
  ·rename_i s1 hs1
   injection hx with hx
   injection hx with h1 h2
   subst h1; subst h2
   cases c <;> first | cases hc | skip
   rename_i id ops draw
   simp only [y2t, zc] at hc
   obtain ⟨hd, hc⟩ := hc
   subst hd
   obtain ⟨I2, T2⟩ := R.inv.more k
   have R2 : SR nm N K w F m a ⟨s.t, s.h ++ yj k⟩ := ⟨I2, R.t.tr R.inv.bd T2, R.size, R.defers, R.kept⟩
   exact ylc H hP hI hc R2 hs1 (fun a' w' F' m' R' T' => hQ a' w' F' m' R' (T2.trans T'))
  ·cases hx
 | seq x y ihx ihy =>
  intro N K a s r s' w F m Q hc R hx hQ
  cases c <;> first | cases hc | skip
  rename_i cx cy
  simp only [y2t, zc] at hc
  simp only [exec] at hx
  split at hx
  ·rename_i s1 hs1
   exact wp_seq (ihx cx N K a s .norm s1 w F m _ hc.1 R hs1 (fun a1 w1 F1 m1 R1 T1 =>
    ihy cy N K a1 s1 r s' w1 F1 m1 Q hc.2 R1 hx (fun a2 w2 F2 m2 R2 T2 => hQ a2 w2 F2 m2 R2 (T1.trans T2))))
  ·rename_i hne
   refine wp_seq (ihx cx N K a s r s' w F m _ hc.1 R hx (fun a1 w1 F1 m1 R1 T1 => ?_))
   have hq := hQ a1 w1 F1 m1 R1 T1
   cases r with
   | norm => exact (hne s' hx).elim
   | exit id => exact hq
   | ret => exact hq
 | cond d x y ihx ihy =>
  intro N K a s r s' w F m Q hc R hx hQ
  cases c <;> first | cases hc | skip
  rename_i c0 cx cy
  simp only [y2t, zc] at hc
  obtain ⟨⟨h1, h2⟩, h3⟩ := hc
  simp only [exec] at hx
  have hr := yt R.t h1
  split at hx
  ·rename_i b hb
   rw [hb] at hr
   refine wp_cond hr.bool_inv ?_
   cases b with
   | true => exact ihx cx N K a s r s' w F m Q h2 R hx hQ
   | false => exact ihy cy N K a s r s' w F m Q h3 R hx hQ
  ·cases hx
 | block id x ihx =>
  intro N K a s r s' w F m Q hc R hx hQ
  cases c <;> first | cases hc | skip
  rename_i id' cx
  simp only [y2t, zc, beq_iff_eq] at hc
  obtain ⟨h1, h2⟩ := hc
  subst h1
  simp only [exec] at hx
  split at hx
  ·rename_i id2 s1 hs1
   refine wp_block (ihx cx N K a s (.exit id2) s1 w F m _ h2 R hs1 (fun a1 w1 F1 m1 R1 T1 => ?_))
   simp only [yv0, Exit.inBlock]
   split at hx
   ·rename_i e
    injection hx with hx
    injection hx with h3 h4
    subst h3; subst h4
    rw [if_pos e]
    exact hQ a1 w1 F1 m1 R1 T1
   ·rename_i e
    injection hx with hx
    injection hx with h3 h4
    subst h3; subst h4
    rw [if_neg e]
    exact hQ a1 w1 F1 m1 R1 T1
  ·rename_i hne
   refine wp_block (ihx cx N K a s r s' w F m _ h2 R hx (fun a1 w1 F1 m1 R1 T1 => ?_))
   have hq := hQ a1 w1 F1 m1 R1 T1
   cases r with
   | norm => exact hq
   | exit id3 => exact (hne id3 s' hx).elim
   | ret => exact hq
 | loop live x _ =>
  intro N K a s r s' w F m Q hc R hx hQ
  cases c <;> first | cases hc | skip
  rename_i cx
  simp only [exec] at hx
  exact (hL N K cx x live fb a s r s' w F m Q hc R hx hQ).wp
 | kill ks x ihx =>
  intro N K a s r s' w F m Q hc R hx hQ
  have hc' : y2t P nm N c x = true := by cases c <;> exact hc
  simp only [exec] at hx
  split at hx
  ·rename_i r1 s1 hs1
   injection hx with hx
   injection hx with h1 h2
   subst h1; subst h2
   refine ihx c N K a s _ s1 w F m Q hc' R hs1 (fun a1 w1 F1 m1 R1 T1 => ?_)
   obtain ⟨m2, I2, T2⟩ := Inv.killAll (fb := fb) ks m1 _ R1.inv
   exact hQ a1 w1 F1 m2 ⟨I2, R1.t.tr R1.inv.bd T2, R1.size, R1.defers, R1.kept⟩ (T1.trans T2)
  ·cases hx
 | mrange pre x live car e cs ca ts z' ihb ihz =>
  intro N K a s r s' w F m Q hc R hx hQ
  have hc' : (match y0o c ts.isEmpty with
   | some (p, ops5, z) => (match mrOk P nm N p pre x live car e cs with
    | some it => y2t P nm N z z' && y2t P nm ⟨N.n, it :: (live ++ N.bar)⟩ p.body ca && ((ts.isEmpty && z'.isSkip) || (!ts.isEmpty && y6i P nm ⟨N.n, it :: (live ++ N.bar)⟩ ops5 ops5.toList ts))
    | none => false)
   | none => false) = true := by
   cases c <;> exact hc
  split at hc'
  ·rename_i p ops5 z hp
   split at hc'
   ·rename_i it hok
    rw [zc, zc] at hc'
    obtain ⟨⟨hcz, hc'⟩, htail⟩ := hc'
    obtain ⟨k, l, o2, t, y, kt, et, X, e2, e3, e4, e5, e6, e7, e8, e9, e10, e11⟩ := y1ri hok
    simp only [exec] at hx
    split at hx
    ·rename_i s1 hs1
     split at hx
     ·rename_i id g es hmi
      split at hmi
      ·rename_i hct
       rw [zc, z3f, z3f] at hct
       obtain ⟨hcar, hts0⟩ := hct
       subst hcar; subst hts0
       split at hx
       ·rename_i hf hall
        rw [yag] at hall
        have core : ∀ Q0 : Exit → Act → World → Prop, (∀ K2 a' w' F' m', (∀ i, i ∈ N.bar → K2 i = K i) → SR nm ⟨N.n, it :: (live ++ N.bar)⟩ K2 w' F' m' a' ⟨restrict live s1.t, hf⟩ → Tr w F m (gens s.h) w' F' m' (gens hf) → Q0 .normal a' w') → p.code.wp P Q0 a w := by
         intro Q0 hQ0
         have r2 : List.range p.ops2.size = List.range' 0 l.length ++ [l.length] := by
          rw [← z1e, e2, zg, zj, List.range_succ, List.range_eq_range']
         have o2at : p.ops2[l.length]? = some o2 := by rw [yl9 e2]; simp
         refine wp_seq (wp_region ?_)
         rw [r2]
         refine yi1 H hP hI l pre 0 a s s1 w F m (fun j o hj => ?_) e3 R hs1 (fun a1 w1 F1 m1 R1 T1 => ?_)
         ·rw [yl9 e2, zd, zx (zb.1 hj).1]; exact hj
         ·have hv := yt R1.t e7
          -- behind 'range'
          have goon : ∀ (mi : Obj), (Instr.range t (a1.eval y)).run P w1 = .ok (.pointer (some ⟨w1.heap.size, 0, none⟩)) (w1.alloc mi) →
            (ybi P p.loop (Exit.inBlock p.b0 Q0) (a1.put (some it) (.pointer (some ⟨w1.heap.size, 0, none⟩))) (w1.alloc mi)) → wpOps P p.ops2 (Exit.then ((Code.block p.b0 (.loop p.loop)).wp P Q0) Q0) [l.length] a1 w1 := by
           intro mi hrun hgo
           refine ydk o2at e6 (v := .pointer (some ⟨w1.heap.size, 0, none⟩)) (w' := w1.alloc mi) ?_ ?_
           ·unfold execOp
            simp only [e4, hrun, Sem.run_bind, Result.andThen_ok, Sem.run_pure]
           ·rw [e5]
            exact wp_block hgo.wp
          have hsz : (a1.put (some it) (.pointer (some ⟨w1.heap.size, 0, none⟩))).tmps.size = N.n := by rw [yb8]; exact R1.size
          have hde : (a1.put (some it) (.pointer (some ⟨w1.heap.size, 0, none⟩))).defers = [] := by rw [y74]; exact R1.defers
          have hit : (a1.put (some it) (.pointer (some ⟨w1.heap.size, 0, none⟩))).tmps.getD it undef = .pointer (some ⟨w1.heap.size, 0, none⟩) := y1lt (by rw [R1.size]; exact e9)
          have hoth : ∀ i, i ≠ it → (a1.put (some it) (.pointer (some ⟨w1.heap.size, 0, none⟩))).tmps.getD i undef = a1.tmps.getD i undef := fun i hne => ydi (fun h => by injection h with h; exact hne h.symm)
          generalize a1.put (some it) (.pointer (some ⟨w1.heap.size, 0, none⟩)) = a2 at *
          have hlv : ∀ i, i ∈ live → i ≠ it := fun i hi h => e11 (h ▸ hi)
          have hbv : ∀ i, i ∈ N.bar → i ≠ it := fun i hi h => e10 (h ▸ hi)
          have ht0 : ∀ i, i ∈ live → Rep nm w1 F1 m1 (gens s1.h) (a2.tmps.getD i undef) (tget (restrict live s1.t) i) := fun i hi => by
           rw [(y1cg live s1.t i).1 hi, hoth i (hlv i hi)]
           exact R1.t i
          have ht1 : ∀ i, i ∉ live → tget (restrict live s1.t) i = .undef := fun i hi => (y1cg live s1.t i).2 hi
          have hK2 : ∀ i, i ∈ N.bar → a2.tmps.getD i undef = K i := fun i hi => by
           rw [hoth i (hbv i hi)]
           exact R1.kept i hi
          -- the map, set apart
          unfold ylq at hmi
          split at hmi
          ·rename_i id' g' hxe
           split at hmi
           ·rename_i es' hma
            split at hmi
            ·rename_i hpl
             injection hmi with hmi
             injection hmi with z1 hmi
             injection hmi with z2 z3
             subst z1; subst z2; subst z3
             obtain ⟨loc, hm, mes, clock, hh, hM⟩ := y61 R1.inv hma
             have hob := y7f hma
             rw [hxe] at hv
             rw [hv.lm_at hm] at goon
             have hlock : ydu s1.h id' = s1.h.set id' ⟨g', .kmap es'⟩ := by unfold ydu; rw [hob]
             have hgL : gens (s1.h.set id' ⟨g', .kmap es'⟩) = gens s1.h := yjv hob
             have hpq := y1ez (p := clock) hm
             have IL := R1.inv.relock (p := clock) (o' := .kmap es') hm hob rfl rfl ⟨mes, hh, hM⟩
             rw [hlock] at hall
             have hMm := hM
             obtain ⟨ms, g1, g2, g3, g4, g5⟩ := hM
             refine goon _ (run_range_map w1 t kt et loc.blk mes clock e8 hh) ?_
             obtain ⟨I2, T2⟩ := IL.alloc (.mapIter (some loc.blk) clock #[] clock)
             have hno : ¬ owned (yix m1 id' g' { loc with pin := clock }) w1.heap.size := fun ⟨id2, g2, loc2, h1, h2⟩ => by
              have := IL.blk_lt h1
              omega
             have hnF : ¬ F1 w1.heap.size := fun h => by
              have := R1.inv.bd _ h
              omega
             have hszw : (w1.alloc (.mapIter (some loc.blk) clock #[] clock)).heap.size = w1.heap.size + 1 := by
              show (w1.heap.push _).size = _
              simp
             have hkm : y3t (s1.h.set id' ⟨g', .kmap es'⟩) id' g' = some es' := by
              have hlt := (zb.1 hob).1
              simp [y3t, y23, hlt]
             have hG0 : (gens (s1.h.set id' ⟨g', .kmap es'⟩))[id']? = some g' := by rw [hgL, y1n, hob]; rfl
             refine y2gy (K := fun i => a2.tmps.getD i undef) (t0 := restrict live s1.t) (E := E) (C := C) (L := L) (fb := fb) (ca := ca) (es := es') (mes := mes) (ms := ms) (bm := loc.blk) (clock := clock) (id := id') (g := g') (lL := { loc with pin := clock })
              (w1 := w1) (F1 := F1) (m1 := yix m1 id' g' { loc with pin := clock }) (h0 := s1.h.set id' ⟨g', .kmap es'⟩) X IL.bd (fun i hi => by rw [hgL]; exact (ht0 i hi).pin hpq) ht1 H hP hI
              (fun a' s0 r0 s0' w' F' m' Q' hs he hq => ihb p.body ⟨N.n, it :: (live ++ N.bar)⟩ (fun i => a2.tmps.getD i undef) a' s0 r0 s0' w' F' m' Q' hc' hs he hq) hit rfl y56 hG0 rfl rfl hh g1
              (g2.mono fun x q hr => by rw [hgL]; exact ⟨hr.1.pin hpq, hr.2.pin hpq⟩) g3 g4 g5 hpl
              (fun π hp => (hall.2 π hp).elim fun h' hh => (z2i.1 hh.1).elim fun h1 h2 => ⟨h1, h2.1⟩)
              (fun π h' a' w' F' m' es2 hπ hfo S' T' hk2 => ?_) es'.length [] es' #[] (s1.h.set id' ⟨g', .kmap es'⟩) a2 _ F1 _ es' rfl (.refl _) rfl hkm hpl (fun i x q _ _ => by simp) I2 hsz hde (fun _ _ => rfl) T2 hno hnF (by rw [hszw]; exact Nat.lt_succ_self _) (heap_alloc_new w1 _)
             obtain ⟨h2, f1, f2⟩ := hall.2 π hπ
             rw [hfo, Option.bind_some] at f1
             unfold y6q at f1
             rw [hk2] at f1
             injection f1 with f1
             have ho2 := y7p hk2
             obtain ⟨loc2, hm2, mes2, hh2, hM2⟩ := y79 S'.inv hk2
             have hl2 : loc2 = { loc with pin := clock } := by
              have := T'.mp id' g' g' loc2 hm2 hG0 (zi _)
              rw [y56] at this
              injection this with this
              injection this with _ this
              exact this.symm
             subst hl2
             have IU := S'.inv.relock (p := loc.pin) (o' := .map false es2) hm2 ho2 rfl rfl ⟨mes2, _, hh2, hM2⟩
             have hpu := y1ez (p := loc.pin) hm2
             have hg2 : gens h2 = gens h' := by rw [← f1]; exact yjv ho2
             rw [hgL] at T'
             have TU := Tr.unpin (lL := { loc with pin := clock }) hm rfl hm2 T'
             refine hQ0 (fun i => a2.tmps.getD i undef) a' w' F' (yix m' id' g' loc) hK2 ⟨?_, fun i => ?_, S'.size, S'.defers, S'.kept⟩ (T1.trans ?_)
             ·exact (f1 ▸ IU : Inv nm w' F' _ h2).same f2
             ·show Rep nm w' F' _ (gens hf) _ _
              rw [f2.gens, hg2]
              exact (S'.t i).pin hpu
             ·rw [f2.gens, hg2]
              exact TU
            ·cases hmi
           ·cases hmi
          ·cases hmi
        rcases ytp hp with ⟨hts, hcode, hz⟩ | ⟨r5, hts, hcode⟩
        ·subst hcode; subst hz
         refine core Q fun K2 a' w' F' m' hK2 S' T' => ?_
         have hsk : (r, s') = (Res.norm, (⟨restrict live s1.t, hf⟩ : St)) := by
          simp only [List.isEmpty_nil, z23, z1w, z2z, Bool.or_false] at htail
          cases z' <;> first | cases htail | skip
          simp only [exec, Option.some.injEq] at hx
          exact hx.symm
         injection hsk with hsk1 hsk2
         subst hsk1; subst hsk2
         exact hQ a' w' F' m' ⟨S'.inv, S'.t, S'.size, S'.defers, fun i hi => (S'.kept i (by simp [hi])).trans (hK2 i hi)⟩ T'
        ·simp at hts
       ·cases hx
      ·cases hmi
     ·cases hx
    ·cases hx
   ·cases hc'
  ·cases hc'
 | exit id =>
  intro N K a s r s' w F m Q hc R hx hQ
  cases c <;> first | cases hc | skip
  rename_i id'
  simp only [y2t, beq_iff_eq] at hc
  subst hc
  simp only [exec] at hx
  injection hx with hx
  injection hx with h1 h2
  subst h1; subst h2
  exact wp_exit (hQ a w F m R (Tr.refl _ _ _ _))
 | ret =>
  intro N K a s r s' w F m Q hc R hx hQ
  cases c <;> first | cases hc | skip
  simp only [exec] at hx
  injection hx with hx
  injection hx with h1 h2
  subst h1; subst h2
  exact wp_ret (hQ a w F m R (Tr.refl _ _ _ _))
theorem ymw (H : NmOk P nm) {E : Env} {C : Calls2} {L : y9q} (hP : y3k P nm C.p) (hI : y7j P nm C.i) (hL : yps P nm L) : yps P nm (y5k E C L) := by
 intro N K c cc live fb a s r s' w F m Q hc R hx hQ
 unfold y5k at hx
 apply ybi.unroll
 split at hx
 ·rename_i s1 hs1
  exact yf6 H hP hI hL c cc N K a _ .norm s1 w F m _ hc (R.restrict live) hs1 (fun a1 w1 F1 m1 R1 T1 =>
   hL N K c cc live fb a1 s1 r s' w1 F1 m1 Q hc R1 hx (fun a2 w2 F2 m2 R2 T2 => hQ a2 w2 F2 m2 R2 (T1.trans T2)))
 ·rename_i hne
  refine yf6 H hP hI hL c cc N K a _ r s' w F m _ hc (R.restrict live) hx (fun a1 w1 F1 m1 R1 T1 => ?_)
  have hq := hQ a1 w1 F1 m1 R1 T1
  cases r with
  | norm => exact (hne s' hx).elim
  | exit id => exact hq
  | ret => exact hq
end Go.Vm
/- The value machine: functions. What it answers with any fuel, the model's calls do. -/
namespace Go.Vm
variable {P : Program} {nm : Nat → Option Nat} {w : World} {F : Nat → Prop} {m : MapT} {h : Heap} {G : List Nat}
def yfr (P : Program) : List ResultVar → List CRes → Bool
 | [], [] => true
 | .tmp t :: rs, .t n :: cs => t == n && yfr P rs cs
 | .cell a ty :: rs, .cell n agg size :: cs => a == n && yjz P ty agg && y3w P ty size && (agg || size == 1) && yfr P rs cs
 | _, _ => false
def yjh (P : Program) (nm : Nat → Option Nat) (fn : Func) (cf : CFunc) : Bool :=
 match fn.body with
 | some c => decide (cf.params ≤ fn.ntmps) && y2t P nm ⟨fn.ntmps, []⟩ c cf.body && yfr P fn.results.toList cf.results
 | none => false
def resF (a : Act) : ResultVar → Sem Value
 | .tmp t => pure (a.tmps.getD t undef)
 | .cell x ty => do loadVar ty (← asAddr (a.tmps.getD x undef))
theorem ycn (I : Inv nm w F m h) {a : Act} {t : Tmps} (hT : TRep nm w F m (gens h) a t) : ∀ {rs : List ResultVar} {cs : List CRes} {vs : List AV}, yfr P rs cs = true → y3y h t cs = some vs →
  ∃ xs : List Value, (rs.mapM (resF a)).run P w = .ok xs w ∧ xs.length = vs.length ∧ ∀ (j : Nat) (v : Value) (l : AV), xs[j]? = some v → vs[j]? = some l → Rep nm w F m (gens h) v l
 | [], [], vs, _, hr => by
  simp only [y3y] at hr
  injection hr with hr
  subst hr
  exact ⟨[], by simp, rfl, fun j v l h1 => by simp at h1⟩
 | r :: rs, c :: cs, vs, hc, hr => by
  simp only [y3y] at hr
  split at hr
  ·rename_i x xs hx hxs
   injection hr with hr
   subst hr
   have hone : ∃ v, (resF a r).run P w = .ok v w ∧ Rep nm w F m (gens h) v x ∧ yfr P rs cs = true := by
    cases r with
    | tmp t0 =>
     cases c with
     | t n =>
      simp only [yfr, zc, beq_iff_eq] at hc
      obtain ⟨h1, h2⟩ := hc
      subst h1
      simp only [y1ag] at hx
      injection hx with hx
      subst hx
      exact ⟨_, rfl, hT _, h2⟩
     | cell => cases hc
    | cell a0 ty =>
     cases c with
     | t => cases hc
     | cell n agg size =>
      simp only [yfr, zc, beq_iff_eq] at hc
      obtain ⟨⟨⟨⟨h1, h2⟩, h3⟩, h4⟩, h5⟩ := hc
      subst h1
      simp only [y1ag] at hx
      obtain ⟨v, hv, hrep⟩ := ymd (P := P) I h2 h3 (by simpa using h4) (hT a0) hx
      refine ⟨v, ?_, hrep, h5⟩
      have hptr : ∃ ad, a.tmps.getD a0 undef = .pointer (some ad) := by
       have hr := hT a0
       unfold evLd at hx
       split at hx
       ·rename_i e; rw [e] at hr; obtain ⟨b, o, hb, _⟩ := hr.rp_inv; exact ⟨_, hb⟩
       ·rename_i e; rw [e] at hr; obtain ⟨loc, hb, _⟩ := hr.lp_inv; exact ⟨_, hb⟩
       ·cases hx
      obtain ⟨ad, had⟩ := hptr
      rw [had] at hv
      simp only [Instr.loadAt, Instr.sureAddr, Sem.run_bind, Sem.run_pure, Result.andThen_ok] at hv
      simp only [resF, had, asAddr, Sem.run_bind, Sem.run_pure, Result.andThen_ok, hv]
   obtain ⟨v, hv, hrep, hrest⟩ := hone
   obtain ⟨ys, h1, h2, h3⟩ := ycn I hT hrest hxs
   refine ⟨v :: ys, ?_, by simp [h2], fun j u l h4 h5 => ?_⟩
   ·rw [List.mapM_cons]
    simp only [Sem.run_bind, hv, h1, Result.andThen_ok, Sem.run_pure]
   ·cases j with
    | zero => simp at h4 h5; subst h4; subst h5; exact hrep
    | succ j => simp at h4 h5; exact h3 j u l h4 h5
  ·cases hr
 | [], _ :: _, _, h, _ => by cases h
 | .tmp _ :: _, [], _, h, _ => by cases h
 | .cell _ _ :: _, [], _, h, _ => by cases h
theorem ynz (I : Inv nm w F m h) {a : Act} {t : Tmps} (hT : TRep nm w F m (gens h) a t) {fn : Func} {cs : List CRes} {vs : List AV} (hc : yfr P fn.results.toList cs = true) (hr : y3y h t cs = some vs) :
  ∃ v, (results fn a.tmps).run P w = .ok v w ∧ Rep nm w F m (gens h) v (ysn vs) := by
 obtain ⟨xs, h1, h2, h3⟩ := ycn I hT hc hr
 refine ⟨if h : xs.toArray.size = 1 then xs.toArray[0] else .tuple xs.toArray, ?_, ?_⟩
 ·have he : results fn a.tmps = (do
    let vs ← fn.results.mapM (resF a)
    pure (if h : vs.size = 1 then vs[0] else .tuple vs)) := by
   unfold results
   congr 2
  rw [he, Array.mapM_eq_mapM_toList]
  simp only [Sem.run_bind, Sem.run_map, h1, Result.andThen_ok, Sem.run_pure]
 ·by_cases h1' : vs.length = 1
  ·match vs, h1' with
   | [x], _ =>
    match xs, h2 with
    | [y], _ =>
     simp only [ysn]
     exact h3 0 y x rfl rfl
  ·rw [dif_neg (by rw [List.size_toArray, h2]; exact h1')]
   have : ysn vs = .tup vs := by
    match vs with
    | [] => rfl
    | [x] => exact (h1' rfl).elim
    | x :: y :: r => rfl
   rw [this]
   exact .tup _ _ (by simpa using h2) (fun j v l a1 a2 => h3 j v l (by simpa using a1) a2)
theorem ycs : ∀ (vs : List AV) (n i : Nat), tget (y4a n vs) i = if n ≤ i then (vs[i - n]?).getD .undef else .undef
 | [], n, i => by simp [y4a, tget]
 | v :: vs, n, i => by
  simp only [y4a, tget]
  by_cases e : n = i
  ·subst e; simp
  ·rw [if_neg e, ycs vs (n + 1) i]
   by_cases h1 : n ≤ i
   ·rw [if_pos h1, if_pos (by omega), show i - n = (i - (n + 1)) + 1 by omega]; simp
   ·rw [if_neg h1, if_neg (by omega)]
theorem SR.begin {N : Nat} {K : Nat → Value} {h : Heap} (I : Inv nm w F m h) {vs : Array Value} {args : List AV} (hn : vs.size = args.length) (hN : args.length ≤ N)
  (hv : ∀ (j : Nat) (v : Value) (l : AV), vs[j]? = some v → args[j]? = some l → Rep nm w F m (gens h) v l) :
  SR nm ⟨N, []⟩ K w F m { tmps := vs ++ Array.replicate (N - vs.size) undef, defers := [] } ⟨y4a 0 args, h⟩ := by
 refine ⟨I, fun i => ?_, by simp [hn]; omega, rfl, fun t h => by cases h⟩
 rw [ycs, if_pos (z2s _), Nat.sub_zero]
 cases hl : args[i]? with
 | none => exact .undef _
 | some l =>
  have hlt : i < vs.size := by rw [hn]; exact (zb.1 hl).1
  have h1 : vs[i]? = some vs[i] := z1c hlt
  have : (vs ++ Array.replicate (N - vs.size) undef).getD i undef = vs[i] := by
   rw [z1d, z2l, if_pos hlt, h1]
   rfl
  simp only [this]
  exact hv i _ l h1 hl
theorem y7l (H : NmOk P nm) {E : Env} {C : Calls2} {L : y9q} (hP : y3k P nm C.p) (hI : y7j P nm C.i) (hL : yps P nm L) (I : Inv nm w F m h) {f : Nat} {fn : Func} {cf : CFunc} (hf : P.funcs[f]? = some fn) (hc : yjh P nm fn cf = true)
  {vs : Array Value} {args : List AV} {fb : Nat} {x : AV × Heap} (hn : vs.size = args.length) (hv : ∀ (j : Nat) (v : Value) (l : AV), vs[j]? = some v → args[j]? = some l → Rep nm w F m (gens h) v l)
  (hx : y4c E C L cf args fb h = some x) : Calls P f vs w (ym9 nm w F m h x) := by
 unfold yjh at hc
 split at hc
 ·rename_i c hb
  simp only [zc, decide_eq_true_eq] at hc
  obtain ⟨⟨h1, h2⟩, h3⟩ := hc
  unfold y4c at hx
  split at hx
  ·rename_i hp
   have R := SR.begin (N := fn.ntmps) (K := fun _ => undef) I hn (by omega) hv
   have fin : ∀ (r : Res) (s : St), (r = .norm ∨ r = .ret) → exec E C L fb cf.body ⟨y4a 0 args, h⟩ = some (r, s) → (match y3y s.h s.t cf.results with
     | some vs => some (ysn vs, s.h)
     | none => none) = some x → Calls P f vs w (ym9 nm w F m h x) := by
    intro r s hr hex hres
    split at hres
    ·rename_i rs hrs
     injection hres with hres
     subst hres
     refine calls_of_wp hf hb (yf6 H hP hI hL c cf.body _ _ _ _ r s w F m _ h2 R hex (fun a1 w1 F1 m1 R1 T1 => ?_))
     obtain ⟨v, hv1, hv2⟩ := ynz (P := P) R1.inv R1.t (fn := fn) h3 hrs
     rcases hr with rfl | rfl
     ·exact ⟨R1.defers, v, hv1, v, F1, m1, rfl, R1.inv, T1, hv2⟩
     ·exact ⟨R1.defers, v, hv1, v, F1, m1, rfl, R1.inv, T1, hv2⟩
    ·cases hres
   split at hx
   ·rename_i s hex; exact fin .norm s (.inl rfl) hex hx
   ·rename_i s hex; exact fin .ret s (.inr rfl) hex hx
   ·cases hx
  ·cases hx
 ·cases hc
theorem Inv.none (n : Nat) {Fk : Nat → Prop} (hb : ∀ b, Fk b → b < w.heap.size) : Inv nm w Fk (fun _ => Option.none) (yj n) where
 live id g loc hm := by cases hm
 has id g o ho hd := by
  obtain ⟨_, rfl⟩ := yyp ho
  cases hd
 inj id g loc id' g' loc' hm := by cases hm
 fz id g loc o hm := by cases hm
 bd := hb
def ExU (h : Heap) (k : Nat) : Prop := ∀ (a : AV) (os : List OC) (r : Ex AV), expo h k a os = some r → ∀ id, id ∈ r.xs → ∃ g o, h[id]? = some ⟨g, o⟩ ∧ o.fz = false ∧ o.isDead = false
theorem yb7 {k : Nat} (H : ExU h k) : ∀ (as : List AV) (os : List OC) (r : Ex (List AV)), y30 (expo h k) as os = some r → ∀ id, id ∈ r.xs → ∃ g o, h[id]? = some ⟨g, o⟩ ∧ o.fz = false ∧ o.isDead = false
 | [], os, r, hr, id, hid => by
  simp only [y30] at hr
  injection hr with hr
  subst hr
  cases hid
 | a :: as, os, r, hr, id, hid => by
  simp only [y30] at hr
  split at hr
  ·rename_i q hq
   split at hr
   ·rename_i p hp
    injection hr with hr
    subst hr
    rcases zt.1 hid with hid | hid
    ·exact H a os q hq id hid
    ·exact yb7 H as q.objs p hp id hid
   ·cases hr
  ·cases hr
theorem yu3 {a : AV} {os : List OC} {r : Ex AV} (hr : exFz h a os = some r) : r.xs = [] := by
 unfold exFz at hr
 split at hr
 ·injection hr with hr; subst hr; rfl
 ·cases hr
theorem ygi : ∀ k, ExU h k
 | 0 => fun _ _ _ hr => by cases hr
 | k + 1 => by
  intro a os r hr id hid
  simp only [expo] at hr
  split at hr
  ·cases hr
  ·split at hr
   ·rw [yu3 hr] at hid; cases hid
   ·rename_i es rows hrows
    split at hr
    ·split at hr
     ·injection hr with hr
      subst hr
      simp at hid
      subst hid
      obtain ⟨bx, ho⟩ := y7s hrows
      exact ⟨_, _, ho, rfl, rfl⟩
     ·cases hr
    ·cases hr
   ·cases hr
  ·split at hr
   ·rw [yu3 hr] at hid; cases hid
   ·rename_i es row hrows
    split at hr
    ·split at hr
     ·rename_i q hq
      injection hr with hr
      subst hr
      simp at hid
      rcases hid with rfl | hid
      ·obtain ⟨bx, ho⟩ := y7s hrows
       exact ⟨_, _, ho, rfl, rfl⟩
      ·exact yb7 (ygi k) row os q hq id hid
     ·cases hr
    ·cases hr
   ·cases hr
  ·split at hr
   ·rw [yu3 hr] at hid; cases hid
   ·rename_i es hes
    split at hr
    ·injection hr with hr
     subst hr
     simp at hid
     subst hid
     exact ⟨_, _, y7f hes, rfl, rfl⟩
    ·cases hr
   ·cases hr
  ·split at hr
   ·rename_i q hq
    injection hr with hr
    subst hr
    exact yb7 (ygi k) _ os q hq id hid
   ·cases hr
  ·split at hr
   ·rename_i q hq
    injection hr with hr
    subst hr
    exact yb7 (ygi k) _ os q hq id hid
   ·cases hr
  ·split at hr
   ·injection hr with hr
    subst hr
    cases hid
   ·cases hr
theorem yd6 : ∀ {xs fs : List Nat}, y3l xs fs = true → xs.Nodup ∧ ∀ id, id ∈ xs → id ∉ fs
 | [], fs, _ => ⟨List.nodup_nil, fun id h => by cases h⟩
 | x :: xs, fs, h => by
  simp only [y3l, zc, z1u, z31, decide_eq_false_iff_not] at h
  obtain ⟨⟨h1, h2⟩, h3⟩ := h
  obtain ⟨h4, h5⟩ := yd6 h3
  refine ⟨z21.2 ⟨h1, h4⟩, fun id hid => ?_⟩
  rcases zq.1 hid with rfl | hid
  ·exact h2
  ·exact h5 id hid
theorem ytb {w0 : World} {Fk : Nat → Prop} {G0 : List Nat} (I : Inv nm w F m h) (T : Tr w0 Fk (fun _ => Option.none) G0 w F m (gens h)) {v : Value} {a : AV} {r : Ex AV} (hv : Rep nm w F m (gens h) v a) (hr : yo h a = some r) : y1sv nm w0.heap.size Fk w v r := by
 unfold yo at hr
 split at hr
 ·rename_i q hq
  split at hr
  ·rename_i hap
   injection hr with hr
   subst hr
   obtain ⟨hnd, hdis⟩ := yd6 hap
   have hown : ∀ b, owned m b → w0.heap.size ≤ b := fun b hb => by
    rcases T.own b hb with ⟨_, _, _, h1, _⟩ | hb
    ·cases h1
    ·exact hb
   have hF : ∀ b, F b → Fk b ∨ w0.heap.size ≤ b := fun b hb => by
    rcases T.new b hb with hb | ⟨_, _, _, h1, _⟩ | hb
    ·exact .inl hb
    ·cases h1
    ·exact .inr hb
   have hsep : Sep (FB F m q.fresh q.fs) m [] q.xs := ⟨hnd, fun id _ h => (by cases h), fun id hid g loc hm hb => by
    obtain ⟨g1, o1, h1, h2, h3⟩ := ygi y1m a [] q hq id hid
    obtain ⟨o, h4, _⟩ := I.live id g loc hm
    rw [h1] at h4
    injection h4 with h4
    injection h4 with h5 h6
    subst h6
    rcases hb with ⟨_, hb⟩ | ⟨id2, k1, g2, l2, k2, k3⟩
    ·have := (I.fz id g loc o1 hm (by rw [← h5]; exact h1)).2 hb
     rw [h2] at this
     cases this
    ·have := I.inj id2 g2 l2 id g loc k2 hm k3
     exact hdis id hid (this ▸ k1)⟩
   have X0 : Exd nm w (FB F m q.fresh q.fs) m (fun _ => Option.none) [] [] := ⟨Inv.none 0 (fun b hb => by
    rcases hb with ⟨_, hb⟩ | ⟨id, _, g, loc, h1, h2⟩
    ·exact I.bd b hb
    ·rw [← h2]; exact I.blk_lt h1), fun o ho => (by cases ho), fun j g loc hj => (by cases hj)⟩
   obtain ⟨m2, X, _, hrep, _⟩ := yb5 I (FB F m q.fresh q.fs) y1m v a [] q _ [] hv hq X0 (fun b hb => hb) hsep
   refine ⟨FB F m q.fresh q.fs, m2, X.inv, X.con, hrep, fun b hb => ?_, fun b hb => ?_⟩
   ·rcases hb with ⟨h1, hb⟩ | ⟨id, _, g, loc, h1, h2⟩
    ·rcases hF b hb with hb | hb
     ·exact .inl ⟨h1, hb⟩
     ·exact .inr hb
    ·exact .inr (hown b ⟨id, g, loc, h1, h2⟩)
   ·obtain ⟨j, g, loc, h1, h2⟩ := hb
    obtain ⟨id, _, g2, l2, k2, k3⟩ := X.use j g loc h1
    exact hown b ⟨id, g2, l2, k2, k3.trans h2⟩
  ·cases hr
 ·cases hr
structure EnvOk (P : Program) (nm : Nat → Option Nat) (E : Env) : Prop where
 ok : NmOk P nm
 fn : ∀ f key cf, nm f = some key → E.fn key = some cf → ∃ fn, P.funcs[f]? = some fn ∧ yjh P nm fn cf = true
 xp : y3k P nm fun key args => if (E.fn key).isSome then Option.none else E.xp key args
 xi : y7j P nm fun key args fb h => if (E.fn key).isSome then Option.none else E.xi key args fb h
theorem yll {E : Env} (H : EnvOk P nm E) : ∀ k, y3k P nm (both E k).1.p ∧ y7j P nm (both E k).1.i ∧ yps P nm (both E k).2
 | 0 => ⟨fun _ _ _ _ _ h => (by cases h), fun _ _ _ _ _ _ _ h => (by cases h), fun _ _ _ _ _ _ _ _ _ _ _ _ _ _ _ _ h => (by cases h)⟩
 | k + 1 => by
  obtain ⟨hP, hI, hL⟩ := yll H k
  refine ⟨?_, ?_, ymw H.ok hP hI hL⟩
  ·intro f key args r hk hr w Fk vs hb hn hv
   have hr' : y70 E (both E k).1 (both E k).2 key args = some r := hr
   unfold y70 at hr'
   split at hr'
   ·rename_i hf
    exact H.xp f key args r hk (by simp [hf, hr']) w Fk vs hb hn hv
   ·rename_i cf hf
    split at hr'
    ·rename_i v h' hbd
     obtain ⟨fn, h1, h2⟩ := H.fn f key cf hk hf
     have hcall := y7l H.ok hP hI hL (Inv.none cf.slots hb) h1 h2 hn (fun j v l h3 h4 => .pure (hv j v l h3 h4)) hbd
     refine hcall.mono fun e w' hp => ?_
     obtain ⟨x, F', m', rfl, hI', hT', hr2⟩ := hp
     refine ⟨x, rfl, ⟨hT'.os, hT'.tape, hT'.output, hT'.size, fun b hlt => hT'.same b hlt (.inl fun ⟨_, _, _, h3, _⟩ => by cases h3)⟩, ytb hI' hT' hr2 hr'⟩
    ·cases hr'
  ·intro f key args fb h x hk hx w F m vs I hn hv
   have hx' : yk4 E (both E k).1 (both E k).2 key args fb h = some x := hx
   unfold yk4 at hx'
   split at hx'
   ·rename_i hf
    exact H.xi f key args fb h x hk (by simp [hf, hx']) w F m vs I hn hv
   ·rename_i cf hf
    obtain ⟨fn, h1, h2⟩ := H.fn f key cf hk hf
    split at hx'
    ·obtain ⟨I2, T2⟩ := I.more cf.slots
     have hcall := y7l H.ok hP hI hL I2 h1 h2 hn (fun j v l h3 h4 => (hv j v l h3 h4).tr I.bd T2) hx'
     refine hcall.mono fun e w' hp => ?_
     obtain ⟨y, F', m', rfl, hI', hT', hr2⟩ := hp
     exact ⟨y, F', m', rfl, hI', T2.trans hT', hr2⟩
    ·exact y7l H.ok hP hI hL I h1 h2 hn hv hx'
theorem y16r {E : Env} (H : EnvOk P nm E) : y3k P nm (yd E).p := by
 intro f key args r hk hr
 obtain ⟨k, hk2⟩ := (yek _ _ _).1 hr
 exact (yll H k).1 f key args r hk hk2
end Go.Vm
/- The value machine: what an open row hands in, as values that are only read; and how such a row is shut. -/
namespace Go.Vm
open Go.ChangeShapes Go.WideShapes Go.ChangeAt Go.RowKit
inductive Ty where
 | int (k : IntKind)
 | bool
 | str
 | slice (es : Nat) (e : Ty)
 | struct (b : Ty)
 | sNil
 | sCons (f r : Ty)
def Ty.size : Ty → Nat
 | .int _ | .bool | .str | .slice .. => 1
 | .struct b => b.size
 | .sNil => 0
 | .sCons f r => f.size + r.size
def Ty.bytes : Ty → Nat
 | .int k => k.bits / 8
 | .bool => 1
 | .str => 16
 | .slice .. => 24
 | .struct b => b.bytes
 | .sNil => 0
 | .sCons f r => f.bytes + r.bytes
def Ty.has : Ty → List AV → Prop
 | .int k, cs => ∃ n, cs = [.int k n] ∧ k.min ≤ n ∧ n ≤ k.max
 | .bool, cs => ∃ b, cs = [.bool b]
 | .str, cs => ∃ s : List UInt8, cs = [.str s] ∧ s.length ≤ reachBytes
 | .slice es e, cs => cs = [.nils] ∨ ∃ rows, cs = [.rs es rows] ∧ rows.length ≤ maxLen ∧ rows.length * e.bytes ≤ reachBytes ∧ ∀ row, row ∈ rows → e.has row
 | .struct b, cs => b.has cs
 | .sNil, cs => cs = []
 | .sCons f r, cs => ∃ a b, cs = a ++ b ∧ f.has a ∧ r.has b
def tyOk (P : Program) : Ty → Sum TypeId (List Field × Nat × Nat) → Bool
 | .int k, .inl t => match P.underlying t with
  | some (.int k') => decide (k' = k)
  | _ => false
 | .bool, .inl t => match P.underlying t with
  | some .bool => true
  | _ => false
 | .str, .inl t => match P.underlying t with
  | some .string => true
  | _ => false
 | .slice es e, .inl t => match P.underlying t with
  | some (.slice u) => P.cellsOf u == es && e.size == es && decide (0 < es) && P.bytesOf u == e.bytes && tyOk P e (.inl u)
  | _ => false
 | .struct b, .inl t => match P.underlying t with
  | some (.struct fs) => tyOk P b (.inr (fs.toList, 0, P.cellsOf t))
  | _ => false
 | .sNil, .inr (fs, off, n) => fs.isEmpty && off == n
 | .sCons f r, .inr (x :: fs, off, n) => x.offset == off && P.cellsOf x.type == f.size && tyOk P f (.inl x.type) && tyOk P r (.inr (fs, off + f.size, n))
 | _, _ => false
variable {H : Type} {enc : TypeId × Value → H} {P : Program} {nm : Nat → Option Nat} {w : World} {held : Bool}
def CRep (nm : Nat → Option Nat) (w : World) (cs : List Value) (as : List AV) : Prop :=
 as.length = cs.length ∧ ∀ (j : Nat) (v : Value) (l : AV), cs[j]? = some v → as[j]? = some l → y19 l = true ∧ PRep nm w (fun b => b < w.heap.size) v l
theorem CRep.one {v : Value} {l : AV} (h1 : y19 l = true) (h2 : PRep nm w (fun b => b < w.heap.size) v l) : CRep nm w [v] [l] := by
 refine ⟨rfl, fun j v' l' hv hl => ?_⟩
 cases j with
 | zero => simp at hv hl; subst hv; subst hl; exact ⟨h1, h2⟩
 | succ j => simp at hv
theorem CRep.append {cs cs' : List Value} {as as' : List AV} (h : CRep nm w cs as) (h' : CRep nm w cs' as') : CRep nm w (cs ++ cs') (as ++ as') := by
 refine ⟨by simp [h.1, h'.1], fun j v l hv hl => ?_⟩
 rw [z1j] at hv hl
 split at hv
 ·rename_i hlt
  rw [if_pos (by rw [h.1]; exact hlt)] at hl
  exact h.2 j v l hv hl
 ·rename_i hlt
  rw [if_neg (by rw [h.1]; exact hlt), h.1] at hl
  exact h'.2 _ v l hv hl
theorem yqu {a : Addr} {v : Value} (h : w.cell? a = some v) : a.spot = none ∧ a.block < w.heap.size := by
 unfold World.cell? at h
 split at h
 ·rename_i c _ _ hb
  split at h
  ·cases h
  ·rename_i hs
   refine ⟨by simpa using hs, ?_⟩
   exact (zo.1 hb).1
 ·cases h
theorem yw6 {a : Addr} (h : a.spot = none) (n : Nat) : a.add n = ⟨a.block, a.off + n, none⟩ := by
 obtain ⟨b, o, s⟩ := a
 simp only at h
 subst h
 unfold Addr.add
 split
 ·rename_i h0; subst h0; rfl
 ·rfl
theorem ygy {e : TypeId} : ∀ {l : List (DataW H)} {d : DataW H}, d ∈ l → ∀ n, n ∈ d.weights P e → n ∈ DataW.weightsAll P e l
 | d0 :: l, d, h, n, hn => by
  simp only [DataW.weightsAll, zt]
  rcases zq.1 h with rfl | h
  ·exact .inl hn
  ·exact .inr (ygy h n hn)
 | [], _, h, _, _ => by cases h
theorem y1yo : ∀ (T : Ty),
  (∀ t, tyOk P T (.inl t) = true → ∀ (fuel : Nat) (cs : List Value) (x : DataW H × List MemPlace), DataW.trod enc P w 0 (fun _ => true) held fuel t cs = some x → (∀ n, n ∈ x.1.weights P t → n ≤ reachBytes) → ∃ as, T.has as ∧ as.length = T.size ∧ CRep nm w cs as) ∧
  (∀ fs off n, tyOk P T (.inr (fs, off, n)) = true → ∀ (fuel : Nat) (cs : List Value) (off0 : Nat), cs.length = n → (∀ f, f ∈ fs → ∃ x, DataW.trod enc P w 0 (fun _ => true) held fuel f.type ((cs.drop f.offset).take (P.cellsOf f.type)) = some x ∧ ∀ n, n ∈ x.1.weights P f.type → n ≤ reachBytes) →
   off0 = off → off ≤ n → ∃ as, T.has as ∧ as.length = T.size ∧ CRep nm w (cs.drop off) as) := by
 intro T
 induction T with
 | int k =>
  refine ⟨fun t ht fuel cs x h hz => ?_, fun fs off n h => (by cases h)⟩
  simp only [tyOk] at ht
  split at ht
  ·rename_i k' hu
   have hk : k' = k := by simpa using ht
   subst hk
   obtain ⟨n, rfl, _, hw⟩ := DataW.trod_int hu h
   simp only [Lit.wf, zc, decide_eq_true_eq] at hw
   exact ⟨[.int k' n], ⟨n, rfl, hw⟩, rfl, .one rfl (.int _ _)⟩
  ·cases ht
 | bool =>
  refine ⟨fun t ht fuel cs x h hz => ?_, fun fs off n h => (by cases h)⟩
  simp only [tyOk] at ht
  split at ht
  ·rename_i hu
   obtain ⟨b, rfl, _⟩ := DataW.trod_bool hu h
   exact ⟨[.bool b], ⟨b, rfl⟩, rfl, .one rfl (.bool _)⟩
  ·cases ht
 | str =>
  refine ⟨fun t ht fuel cs x h hz => ?_, fun fs off n h => (by cases h)⟩
  simp only [tyOk] at ht
  split at ht
  ·rename_i hu
   obtain ⟨s, rfl, rfl, hs⟩ := DataW.trod_string hu h
   have := hz s.data.toList.length (by simp [DataW.weights])
   exact ⟨[.str s.data.toList], ⟨_, rfl, this⟩, rfl, .one rfl (.str _)⟩
  ·cases ht
 | slice es e ih =>
  refine ⟨fun t ht fuel cs x h hz => ?_, fun fs off n h => (by cases h)⟩
  simp only [tyOk] at ht
  split at ht
  ·rename_i u hu
   simp only [zc, beq_iff_eq, decide_eq_true_eq] at ht
   obtain ⟨⟨⟨⟨h1, h2⟩, h3⟩, h5⟩, h4⟩ := ht
   rcases DataW.trod_slice hu h with ⟨rfl, _⟩ | ⟨a, len, cap, elems, rest, n, rfl, rfl, hx, hbl, hlc, hcm, hel, hget, _, _⟩
   ·exact ⟨[.nils], .inl rfl, rfl, .one rfl .nils⟩
   ·-- one row
    have row : ∀ i, i < len → ∃ as, e.has as ∧ as.length = es ∧ ∀ (j : Nat) (l : AV), as[j]? = some l → y19 l = true ∧ ∃ v, w.cell? ((a.add (i * es)).add j) = some v ∧ PRep nm w (fun b => b < w.heap.size) v l := by
     intro i hi
     have hg := hget i hi
     obtain ⟨y, hy⟩ : ∃ y, elems[i]? = some y := ⟨_, z9 (by omega)⟩
     rw [hy, h1, z2i] at hg
     obtain ⟨cs', hc1, hc2⟩ := hg
     obtain ⟨_, hc3, hc4⟩ := World.cells?_some hc1
     have hy2 : y.1 ∈ elems.map (·.1) := z1y.2 ⟨y, zs hy, rfl⟩
     obtain ⟨as, ha1, ha2, ha3⟩ := ih.1 u h4 n cs' y hc2 (fun n hn => hz n (by
      rw [hx]
      simp only [DataW.weights, hu, List.mem_cons, zt]
      exact .inr (.inl (ygy hy2 n hn))))
     refine ⟨as, ha1, by rw [ha2, h2], fun j l hl => ?_⟩
     have hj : j < cs'.length := by rw [← ha3.1]; exact (zb.1 hl).1
     obtain ⟨r1, r2⟩ := ha3.2 j cs'[j] l (z9 hj) hl
     exact ⟨r1, _, by rw [hc4 j (by omega)]; exact z9 hj, r2⟩
    have hcho : ∃ g : Nat → List AV, ∀ i, i < len → e.has (g i) ∧ (g i).length = es ∧ ∀ (j : Nat) (l : AV), (g i)[j]? = some l → y19 l = true ∧ ∃ v, w.cell? ((a.add (i * es)).add j) = some v ∧ PRep nm w (fun b => b < w.heap.size) v l := by
     refine ⟨fun i => if hi : i < len then Classical.choose (row i hi) else [], fun i hi => ?_⟩
     simp only [dif_pos hi]
     exact Classical.choose_spec (row i hi)
    obtain ⟨g, hg⟩ := hcho
    have hlen : ((List.range len).map g).length = len := by simp
    have hrow : ∀ (i : Nat) (r : List AV), ((List.range len).map g)[i]? = some r → i < len ∧ r = g i := by
     intro i r hr
     have hi : i < len := by rw [← hlen]; exact (zb.1 hr).1
     rw [z1a, List.getElem?_range hi] at hr
     exact ⟨hi, by simpa using hr.symm⟩
    have hspot : 0 < len → a.spot = none ∧ a.block < w.heap.size := by
     intro h0
     obtain ⟨_, g2, g3⟩ := hg 0 h0
     obtain ⟨_, v, hv, _⟩ := g3 0 (g 0)[0] (z9 (by omega))
     rw [z3m] at hv
     have e0 : (a.add 0).add 0 = a := rfl
     rw [e0] at hv
     exact yqu hv
    have hsz : ((List.range len).map g).length * e.bytes ≤ reachBytes := by
     rw [hlen, ← h5]
     have := hz ((elems.length + rest.length) * P.bytesOf u) (by rw [hx]; simp [DataW.weights, hu])
     rw [hel] at this
     exact z1o (z1q _ (Nat.le_add_right _ _)) this
    refine ⟨[.rs es ((List.range len).map g)], .inr ⟨_, rfl, by rw [hlen]; omega, hsz, fun r hr => ?_⟩, rfl, .one rfl ?_⟩
    ·obtain ⟨i, hi, rfl⟩ := z1y.1 hr
     exact (hg i (z27.1 hi)).1
    ·have hkey : ∀ (i : Nat) (r : List AV) (j : Nat) (l : AV), ((List.range len).map g)[i]? = some r → r[j]? = some l → a.block < w.heap.size ∧ y19 l = true ∧ ∃ v, w.cell? ⟨a.block, a.off + (i * es + j), none⟩ = some v ∧ PRep nm w (fun b => b < w.heap.size) v l := by
      intro i r j l hr hl
      obtain ⟨hi, rfl⟩ := hrow i r hr
      obtain ⟨g1, v, g2, g3⟩ := (hg i hi).2.2 j l hl
      obtain ⟨s1, s2⟩ := hspot (by omega)
      rw [yw6 s1, yw6 rfl] at g2
      refine ⟨s2, g1, v, ?_, g3⟩
      simp only at g2
      rw [← z33]
      exact g2
     have := PRep.rs (nm := nm) (w := w) (F := fun b => b < w.heap.size) a cap es ((List.range len).map g) (fun i j => (w.cell? ⟨a.block, a.off + (i * es + j), none⟩).getD undef)
      (fun hne => (hspot (by
       rcases Nat.eq_zero_or_pos len with h0 | h0
       ·subst h0; exact (hne rfl).elim
       ·exact h0)).1) (by rw [hlen]; exact hlc)
      (fun i r hr => by obtain ⟨hi, rfl⟩ := hrow i r hr; exact (hg i hi).2.1)
      (fun i r j l hr hl => by
       obtain ⟨k1, k2, v, k3, _⟩ := hkey i r j l hr hl
       exact ⟨k1, k2, by rw [k3]; rfl⟩)
      (fun i r j l hr hl => by
       obtain ⟨_, _, v, k3, k4⟩ := hkey i r j l hr hl
       rw [k3]
       exact k4)
     rw [hlen] at this
     exact this
  ·cases ht
 | struct b ih =>
  refine ⟨fun t ht fuel cs x h hz => ?_, fun fs off n h => (by cases h)⟩
  simp only [tyOk] at ht
  split at ht
  ·rename_i fs hu
   obtain ⟨xs, n, rfl, hx, hl, hxl, hf⟩ := DataW.trod_struct hu h
   have := ih.2 fs.toList 0 (P.cellsOf t) ht n cs 0 hl (fun f hfm => by
    obtain ⟨i, hi, rfl⟩ := List.getElem_of_mem hfm
    have hi' : i < fs.size := by simpa using hi
    have := hf i fs[i] (z1c hi')
    rw [z9 (by omega)] at this
    refine ⟨_, by simpa using this, fun n hn => hz n ?_⟩
    rw [hx]
    simp only [DataW.weights, hu]
    refine DataW.weights_mem_each (j := i) (t := fs[i].type) (d := xs[i].1) ?_ ?_ n (by simpa using hn)
    ·simp [hi']
    ·rw [z1a, z9 (by omega)]; rfl) rfl (z2s _)
   exact this
  ·cases ht
 | sNil =>
  refine ⟨fun t h => (by cases h), fun fs off n h fuel cs off0 hl _ _ hle => ?_⟩
  simp only [tyOk, zc, beq_iff_eq] at h
  refine ⟨[], rfl, rfl, ?_⟩
  rw [z1b (by omega)]
  exact ⟨rfl, fun j v l hv => by simp at hv⟩
 | sCons f r ihf ihr =>
  refine ⟨fun t h => (by cases h), fun fs off n h fuel cs off0 hl hfs _ hle => ?_⟩
  cases fs with
  | nil => cases h
  | cons x fs =>
   simp only [tyOk, zc, beq_iff_eq] at h
   obtain ⟨⟨⟨h1, h2⟩, h3⟩, h4⟩ := h
   obtain ⟨y, hy, hyz⟩ := hfs x (by simp)
   obtain ⟨as, a1, a2, a3⟩ := ihf.1 x.type h3 fuel _ y hy hyz
   have hlen : ((cs.drop x.offset).take (P.cellsOf x.type)).length = f.size := by rw [← a3.1, a2]
   have hle2 : off + f.size ≤ n := by
    rw [h1, h2] at hlen
    simp at hlen
    omega
   obtain ⟨bs, b1, b2, b3⟩ := ihr.2 fs (off + f.size) n h4 fuel cs _ hl (fun g hg => hfs g (by simp [hg])) rfl hle2
   refine ⟨as ++ bs, ⟨as, bs, rfl, a1, b1⟩, by simp [a2, b2, Ty.size], ?_⟩
   have := a3.append b3
   rw [h1, h2] at this
   have e : List.take f.size (List.drop off cs) ++ List.drop (off + f.size) cs = List.drop off cs := by
    rw [← List.drop_drop]
    exact List.take_append_drop _ _
   rw [e] at this
   exact this
end Go.Vm
/- The value machine: a row 'it returns true, and what it was given reads as it did', shut by the machine's answer. -/
namespace Go.Vm
open Go.ChangeShapes Go.WideShapes Go.ChangeAt Go.RowKit
variable {H : Type} {enc : TypeId × Value → H} {P : Program} {nm : Nat → Option Nat} {w : World} {held : Bool}
def Ty.arg : Ty → List AV → AV
 | .struct _, cs => .agg cs
 | _, cs => cs.headD .undef
def yux : List Ty → List AV → Prop
 | [], ls => ls = []
 | T :: Ts, ls => ∃ as ls', ls = T.arg as :: ls' ∧ T.has as ∧ yux Ts ls'
def y22w (P : Program) : List Ty → List TypeId → Bool
 | [], [] => true
 | T :: Ts, t :: ts => tyOk P T (.inl t) && y22w P Ts ts
 | _, _ => false
theorem y1ut {T : Ty} {t : TypeId} {v : Value} {d : DataW H} {ps : List MemPlace} {base : Nat} (hT : tyOk P T (.inl t) = true) (hval : Value.okWide P w .any base t v) (hd : DataW.Trod enc P w 0 (fun _ => true) held t v d ps) (hz : ∀ n, n ∈ d.weights P t → n ≤ reachBytes) :
  ∃ as, T.has as ∧ PRep nm w (fun b => b < w.heap.size) v (T.arg as) := by
 obtain ⟨fuel, hf⟩ := hd
 obtain ⟨as, h1, h2, h3⟩ := (y1yo (nm := nm) T).1 t hT fuel _ _ hf hz
 have scalar : v.cells.toList = [v] → T.size = 1 → (∀ as, T.arg as = as.headD .undef) → ∃ as, T.has as ∧ PRep nm w (fun b => b < w.heap.size) v (T.arg as) := by
  intro hc hs ha
  refine ⟨as, h1, ?_⟩
  rw [ha]
  rw [hc] at h3
  match as, h2.trans hs with
  | [l], _ => exact (h3.2 0 v l rfl rfl).2
 cases T with
 | int k =>
  simp only [tyOk] at hT
  split at hT
  ·rename_i k' hu
   obtain ⟨n, rfl⟩ := okWide_int hu hval
   exact scalar rfl rfl (fun _ => rfl)
  ·cases hT
 | bool =>
  simp only [tyOk] at hT
  split at hT
  ·rename_i hu
   have : ∃ b, v = .bool b := by
    simp only [Value.okWide, hu, Cell.okWide] at hval
    cases v <;> simp [Cell.ok, hu] at hval
    exact ⟨_, rfl⟩
   obtain ⟨b, rfl⟩ := this
   exact scalar rfl rfl (fun _ => rfl)
  ·cases hT
 | str =>
  simp only [tyOk] at hT
  split at hT
  ·rename_i hu
   have : ∃ b, v = .string b := by
    simp only [Value.okWide, hu, Cell.okWide] at hval
    cases v <;> simp [Cell.ok, hu] at hval
    exact ⟨_, rfl⟩
   obtain ⟨b, rfl⟩ := this
   exact scalar rfl rfl (fun _ => rfl)
  ·cases hT
 | slice es e =>
  simp only [tyOk] at hT
  split at hT
  ·rename_i u hu
   have : ∃ a n c, v = .slice a n c := by
    simp only [Value.okWide, hu, Cell.okWide] at hval
    cases v <;> simp [Cell.ok, hu] at hval
    exact ⟨_, _, _, rfl⟩
   obtain ⟨a, n, c, rfl⟩ := this
   exact scalar rfl rfl (fun _ => rfl)
  ·cases hT
 | struct b =>
  simp only [tyOk] at hT
  split at hT
  ·rename_i fs hu
   simp only [Value.okWide, hu] at hval
   obtain ⟨cs, rfl, _, _⟩ := hval
   refine ⟨as, h1, ?_⟩
   refine .agg cs as (by have := h3.1; simpa [Value.cells] using this.symm) (fun j v l hv hl => (h3.2 j v l ?_ hl).2)
   simpa [Value.cells] using hv
  ·cases hT
 | sNil => cases hT
 | sCons => cases hT
theorem y13v {base : Nat} : ∀ (Ts : List Ty) (ts : List TypeId) (vs : List Value) (ds : List (DataW H)) (p : List MemPlace), y22w P Ts ts = true → DataW.TrodAll enc P w 0 (fun _ => true) held ts vs ds p →
  (∀ (j : Nat) t v, ts[j]? = some t → vs[j]? = some v → Value.okWide P w .any base t v) → (∀ (j : Nat) t d, ts[j]? = some t → ds[j]? = some d → ∀ n, n ∈ DataW.weights P t d → n ≤ reachBytes) →
  ∃ ls, yux Ts ls ∧ vs.length = ls.length ∧ ds.length = Ts.length ∧ ∀ (j : Nat) (v : Value) (l : AV), vs[j]? = some v → ls[j]? = some l → PRep nm w (fun b => b < w.heap.size) v l
 | [], [], vs, ds, p, _, h, _, _ => by
  obtain ⟨rfl, rfl, rfl⟩ := trodAll_nil h
  exact ⟨[], rfl, rfl, rfl, fun j v l hv => by simp at hv⟩
 | T :: Ts, t :: ts, vs, ds, p, hT, h, hval, hz => by
  simp only [y22w, zc] at hT
  obtain ⟨v, vs1, d, ds1, a, b, rfl, rfl, rfl, h1, h2⟩ := trodAll_cons h
  obtain ⟨as, a1, a2⟩ := y1ut (nm := nm) hT.1 (hval 0 t v rfl rfl) h1 (hz 0 t d rfl rfl)
  obtain ⟨ls, l1, l2, l3, l4⟩ := y13v Ts ts vs1 ds1 b hT.2 h2 (fun j t v ht hv => hval (j + 1) t v (by simpa using ht) (by simpa using hv)) (fun j t d ht hd => hz (j + 1) t d (by simpa using ht) (by simpa using hd))
  refine ⟨T.arg as :: ls, ⟨as, ls, rfl, a1, l1⟩, by simp [l2], by simp [l3], fun j v' l hv hl => ?_⟩
  cases j with
  | zero => simp at hv hl; subst hv; subst hl; exact a2
  | succ j => exact l4 j v' l (by simpa using hv) (by simpa using hl)
 | [], _ :: _, _, _, _, h, _, _, _ => by cases h
 | _ :: _, [], _, _, _, h, _, _, _ => by cases h
theorem ydl {w' : World} {sp : Nat → Bool} (hl : laidOutB P = true) : ∀ (ts : List TypeId) (vs : List Value) (ds : List (DataW H)) (p : List MemPlace), (∀ t, t ∈ ts → P.readableRec t = true ∧ t < P.types.size) →
  DataW.TrodAll enc P w 0 (fun _ => true) true ts vs ds p → (∀ x, x ∈ p → w.sameAt w' x) → (∀ x, x ∈ p → sp x.block = true) → DataW.TrodAll enc P w' 0 sp true ts vs ds p
 | [], vs, ds, p, _, h, _, _ => by
  obtain ⟨rfl, rfl, rfl⟩ := trodAll_nil h
  exact rfl
 | t :: ts, vs, ds, p, hr, h, h1, h2 => by
  obtain ⟨v, vs1, d, ds1, a, b, rfl, rfl, rfl, k1, k2⟩ := trodAll_cons h
  have ht := hr t (by simp)
  exact ⟨a, b, Go.WideElems.Trod_stays hl ht.1 ht.2 k1 (fun x hx => h1 x (by simp [hx])) (fun x hx => h2 x (by simp [hx])),
   ydl hl ts vs1 ds1 b (fun t ht => hr t (by simp [ht])) k2 (fun x hx => h1 x (by simp [hx])) (fun x hx => h2 x (by simp [hx])), rfl⟩
theorem Same.keptBut {W W' : World} (h : Same W W') (may : MemPlace → Prop) : W.keptBut W' may := by
 refine ⟨h.os, h.output, fun i hi => ?_⟩
 rw [h.block i hi]
 cases W.heap[i]? with
 | none => exact rfl
 | some o =>
  cases o with
  | cells c t fr => exact ⟨rfl, rfl, rfl, fun _ _ => rfl⟩
  | map es clock => exact .inr ⟨rfl, rfl⟩
  | _ => exact rfl
theorem Same.sameAt {W W' : World} (h : Same W W') {x : MemPlace} (hx : x.block < W.heap.size) : W.sameAt W' x := by
 cases x with
 | cell b off =>
  have := h.block b hx
  simp only [World.sameAt, World.cell?, this]
 | map b => exact h.block b hx
theorem y161 {C : Checked} {os : Os} {f : FuncId} {fn : Func} {s : ChangeSpec} {conds : List PathCond} (own : ownKnob C.prog.godebug = none) (started : os.Started) (noInit : C.prog.inits.idxOf? f = none) (hfn : C.prog.funcs[f]? = some fn)
  (witness : ∃ (w : World) (tape : Tape) (i : Input), w.os = os ∧ (w.forCall tape i).Shaped C.prog ∧ i.vars = [] ∧ Input.okWide C.prog (w.forCall tape i) .any w.heap.size f i ∧
   s.pre6 enc C.prog fn conds false (w.forCall tape i).memory i.args ∧ ({} : Assume).holds C.prog (lone (Frame.enter C.prog f i.args .normal) [] (w.forCall tape i)))
  (hl : laidOutB C.prog = true) {E : Env} (hE : EnvOk C.prog nm E) {key : Nat} (hk : nm f = some key) {Ts : List Ty} (hT : y22w C.prog Ts fn.params.toList = true) {tb : TypeId} (hres : fn.resultTypes = #[tb]) (hb : C.prog.underlying tb = some .bool)
  (hs : ∀ ds : List (DataW H), ds.length = Ts.length → s.fn H ds = { results := [.lit (.bool true)], args := ds }) (hvars : s.vars = []) (hread : fn.params.toList.all (fun t => C.prog.readableRec t && decide (t < C.prog.types.size)) = true)
  (hlaw : ∀ ls, yux Ts ls → ∃ r, (yd E).p key ls = some r ∧ r.v = .bool true) :
  ReturnsInHanded {} C os f .any (s.pre6 enc C.prog fn conds false) (s.post enc C.prog fn false true false false) := by
 refine returnsInHanded_of_change_sized (C := C) own started noInit hfn witness ?_
 intro W base args ds gs before hval hW hcnd hsz _
 have hW' := hW
 obtain ⟨p, q, hA, hV, rfl, hfz, hnd⟩ := hW
 rw [hvars] at hV
 obtain ⟨rfl, rfl⟩ := trodVars_none hV
 obtain ⟨ls, l1, l2, l3, l4⟩ := y13v (nm := nm) Ts _ _ _ _ hT hA (fun j t v ht hv => hval j t v (by simpa using ht) (by simpa using hv)) (fun j t d ht hd n hn => by
  have := z19.1 hsz n (DataW.weights_mem_each (j := j) (t := t) (d := d) (by rw [zx (zb.1 ht).1]; exact ht) (by rw [zx (zb.1 hd).1]; exact hd) n hn)
  simpa using this)
 obtain ⟨r, r1, r2⟩ := hlaw ls l1
 have hcall := y16r hE f key ls r hk r1 W (fun b => b < W.heap.size) args (fun b hb => hb) (by simpa using l2) (fun j v l hv hl => l4 j v l (by simpa using hv) hl)
 refine hcall.mono fun e W' hp => ?_
 obtain ⟨v, rfl, S, F2, m2, I2, _, hrep, _, _⟩ := hp
 rw [r2] at hrep
 obtain rfl := hrep.bool_inv
 refine ⟨_, rfl, ?_⟩
 simp only [List.append_nil] at hW'
 have hlt : ∀ x, x ∈ p → x.block < W.heap.size := fun x hx => hW'.lt x hx
 have hargs : ∀ sp : Nat → Bool, (∀ x, x ∈ p → sp x.block = true) → DataW.TrodAll enc C.prog W' 0 sp true fn.params.toList args.toList ds p := fun sp hsp =>
  ydl hl _ _ _ _ (fun t ht => by
   have := z19.1 hread t ht
   simpa using this) hA (fun x hx => S.sameAt (hlt x hx)) hsp
 have hds := hs ds l3
 refine ⟨ds, [], p, [], p, [], hW', ?_, ?_, ?_, ?_, fun h => by cases h⟩
 ·rw [hres]
  simp only [List.append_nil, hds]
  exact trodAll_mk1 (shut_bool hb true)
 ·simp only [List.append_nil, hds]
  exact hargs _ (fun x hx => by simpa using hlt x hx)
 ·simp only [List.append_nil, hds, hvars]
  exact rfl
 ·exact S.keptBut _
end Go.Vm
/- The value machine: an environment made of a table of functions. -/
namespace Go.Vm
def FnOk (P : Program) (nm : Nat → Option Nat) (fnE : Nat → Option CFunc) (f key : Nat) : Prop :=
 ∃ fn, P.funcs[f]? = some fn ∧ (∃ c, fn.body = some c) ∧ fn.name ≠ "runtime.NumGoroutine" ∧ ∀ cf, fnE key = some cf → yjh P nm fn cf = true
theorem FnOk.of {P : Program} {nm : Nat → Option Nat} {fnE : Nat → Option CFunc} {f key : Nat} {fn : Func} {cf : CFunc} (h1 : P.funcs[f]? = some fn) (h2 : fn.body.isSome = true) (h3 : (fn.name == "runtime.NumGoroutine") = false)
  (h4 : fnE key = some cf) (h5 : yjh P nm fn cf = true) : FnOk P nm fnE f key :=
 ⟨fn, h1, z2d.1 h2, by simpa using h3, fun cf' h => by rw [h4] at h; injection h with h; subst h; exact h5⟩
def AllF (P : Program) (nm : Nat → Option Nat) (fnE : Nat → Option CFunc) : Nat → List (Option Nat) → Prop
 | _, [] => True
 | f, none :: r => AllF P nm fnE (f + 1) r
 | f, some key :: r => FnOk P nm fnE f key ∧ AllF P nm fnE (f + 1) r
def nmOf (tbl : List (Option Nat)) (f : Nat) : Option Nat := (tbl[f]?).join
theorem AllF.get {P : Program} {nm : Nat → Option Nat} {fnE : Nat → Option CFunc} : ∀ (l : List (Option Nat)) (f0 : Nat), AllF P nm fnE f0 l → ∀ (i key : Nat), (l[i]?).join = some key → FnOk P nm fnE (f0 + i) key
 | [], f0, _, i, key, h => by simp at h
 | none :: r, f0, ha, i, key, h => by
  cases i with
  | zero => simp at h
  | succ i =>
   have := AllF.get r (f0 + 1) ha i key (by simpa using h)
   rwa [show f0 + 1 + i = f0 + (i + 1) by omega] at this
 | some k :: r, f0, ha, i, key, h => by
  cases i with
  | zero => simp at h; subst h; exact ha.1
  | succ i =>
   have := AllF.get r (f0 + 1) ha.2 i key (by simpa using h)
   rwa [show f0 + 1 + i = f0 + (i + 1) by omega] at this
end Go.Vm
/- The value machine: small facts for stepping through a function's code. -/
namespace Go.Vm
theorem fz_p {v : AV} (hp : pure1 v = true) (h : Heap) (k : Nat) : fz h (k + 1) v = some ⟨v, y1u v, []⟩ := by
 cases v <;> simp_all [fz, pure1]
theorem y11p {cs : List AV} (h : Heap) (k : Nat) (hp : cs.all pure1 = true) : yv (fz h (k + 1)) cs = some ⟨cs, cs.all y1u, []⟩ := by
 induction cs with
 | nil => rfl
 | cons c cs ih =>
  simp only [List.all_cons, zc] at hp
  rw [yv, fz_p hp.1, ih hp.2]; rfl
theorem ycy (h : Heap) (k : Nat) (cs : List AV) : fz h (k + 1) (.agg cs) = match yv (fz h k) cs with
  | some r => some ⟨.agg r.v, r.fresh, r.ids⟩
  | none => none := by simp only [fz]; rfl
theorem y2ji {cs : List AV} (h : Heap) (hp : cs.all pure1 = true) : fz h y1m (.agg cs) = some ⟨.agg cs, cs.all y1u, []⟩ := by
 show fz h (11 + 1) _ = _
 rw [ycy, y11p h 10 hp]
theorem y2sa {v : AV} (hp : pure1 v = true) (h : Heap) : fz h y1m v = some ⟨v, y1u v, []⟩ := fz_p hp h 11
theorem y1t : y2n [] = [] := rfl
theorem y8b (h : Heap) (k : Nat) : ∀ {rows : List (List AV)}, rows.all (·.all pure1) = true → yv (yv (fz h (k + 1))) rows = some ⟨rows, rows.all (·.all y1u), []⟩
 | [], _ => rfl
 | r :: rows, hp => by
  simp only [List.all_cons, zc] at hp
  rw [yv, y11p h k hp.1, y8b h k hp.2]; rfl
theorem y2jx {E : Env} {f : Nat} {args : List AV} {r : Ex AV} (k : Nat) (h : (both E k).1.p f args = some r) : (yd E).p f args = some r := (yek _ _ _).2 ⟨k, h⟩
theorem y2ga {E : Env} {f : Nat} {cf : CFunc} {args : List AV} (h : E.fn f = some cf) : (yd E).p f args = match y4c E (yd E) (y7b E) cf args 0 (yj cf.slots) with
  | some (v, h) => yo h v
  | none => none := by
 rw [y16l, y70, h]; rfl
theorem y1ys (h : Heap) (es : Nat) (rows : List (List AV)) : yo h (.rs es rows) = some ⟨.rs es rows, [], rows.isEmpty, [], []⟩ := rfl
theorem y2ej (h : Heap) (id g es1 off len : Nat) : fz h y1m (.ls id g es1 off len) = match yr h id g with
  | some (_, es, rows) => if es1 = es ∧ off + len ≤ rows.length then (match yv (yv (fz h 11)) ((rows.drop off).take len) with
   | some r => some ⟨.rs es r.v, r.fresh, id :: r.ids⟩
   | none => none) else none
  | none => none := by
 show fz h (11 + 1) _ = _
 rw [fz]
 rfl
theorem y1ek {rows : List (List AV)} (h : Heap) (hp : rows.all (·.all pure1) = true) : yv (yv (fz h 11)) rows = some ⟨rows, rows.all (·.all y1u), []⟩ := y8b h 10 hp
theorem y1qb {rows : List (List AV)} (h : Heap) (hp : rows.all (·.all pure1) = true) : yv (yv (fz h y1m)) rows = some ⟨rows, rows.all (·.all y1u), []⟩ := y8b h 11 hp
theorem yjj (h : Heap) (id g es1 off len : Nat) : yo h (.ls id g es1 off len) = match yr h id g with
  | some (false, es, rows) => if es1 = es ∧ off + len ≤ rows.length then (match yv (yv (fz h y1m)) ((rows.drop off).take len) with
   | some r => if r.ids.contains id then none else some ⟨.ls 0 0 es 0 len, [.arr false false es r.v], r.fresh, [], []⟩
   | none => none) else none
  | some (true, _, _) => (match exFz h (.ls id g es1 off len) [] with
   | some r => if y3l r.xs r.fs then some ⟨r.v, r.objs, r.fresh, [], []⟩ else none
   | none => none)
  | none => none := by
 unfold yo
 conv => lhs; rw [show y1m = 11 + 1 from rfl, expo]
 cases yr h id g with
 | none => rfl
 | some p =>
  obtain ⟨b, es, rows⟩ := p
  cases b with
  | true => rfl
  | false =>
   by_cases hc : es1 = es ∧ off + len ≤ rows.length
   ·simp only [if_pos hc]
    cases yv (yv (fz h y1m)) (List.take len (List.drop off rows)) with
    | none => rfl
    | some r =>
     simp only [List.length_nil, List.nil_append, y3l, List.contains_nil, z28, z23, Bool.and_true]
     cases r.ids.contains id <;> rfl
   ·simp only [if_neg hc]
end Go.Vm
/- The value machine: code as plain functions that go on with what follows; nothing here speaks of a program. -/
namespace Go.Vm
def ob {α : Type} (x : Option AV) (K : AV → Option α) : Option α :=
 match x with
 | some v => K v
 | none => none
def oh {α : Type} (x : Option (AV × Heap)) (K : AV → Heap → Option α) : Option α :=
 match x with
 | some (v, h) => K v h
 | none => none
def yry : AV → Bool → Option Bool
 | .bool b, w => some (b == w)
 | .tup [], _ => some false
 | _, _ => none
def gb {α : Type} (g : AV) (w : Bool) (x : Option AV) (K : AV → Option α) : Option α :=
 match yry g w with
 | some true => ob x K
 | some false => K (.tup [])
 | none => none
def gh {α : Type} (g : AV) (w : Bool) (x : Option (AV × Heap)) (h : Heap) (K : AV → Heap → Option α) : Option α :=
 match yry g w with
 | some true => oh x K
 | some false => K (.tup []) h
 | none => none
def cnd {α : Type} (c : AV) (a b : Option α) : Option α :=
 match c with
 | .bool true => a
 | .bool false => b
 | _ => none
def ofp {α β : Type} (x : Option β) (K : β → Option α) : Option α :=
 match x with
 | some v => K v
 | none => none
def fgd (g : AV) (w : Bool) (x : Option (List Nat × List Nat)) : Option (List Nat × List Nat) :=
 match yry g w with
 | some true => x
 | some false => some ([], [])
 | none => none
theorem yly (t : Tmps) (d : Nat) (w : Bool) : wants t (some (d, w)) = yry (tget t d) w := by
 simp only [wants]
 generalize tget t d = v
 cases v <;> try rfl
 rename_i l
 cases l <;> rfl
def yh (c a b : AV) : Option AV :=
 match c with
 | .bool true => some a
 | .bool false => some b
 | _ => none
def yq (zero : List AV) (parts : List (Nat × Nat × AV)) : Option AV := (y63 parts zero).map .agg
def yp : AV → Option AV
 | .rp cs => some (.rp cs)
 | .lp id g i off => some (.lp id g i off)
 | _ => none
def yg0 (k : Nat) (neq : Bool) (x y : AV) : Option AV := (y168 k x y).map fun b => .bool (if neq then !b else b)
def y2ml (neq : Bool) (ks : List Nat) (x y : AV) : Option AV :=
 match x, y with
 | .agg a, .agg b => (yx ks a b).map fun b => .bool (if neq then !b else b)
 | _, _ => none
def y1uj (neq : Bool) (x y : AV) : Option AV :=
 match x, y with
 | .bool a, .bool b => some (.bool (if neq then !(a == b) else a == b))
 | _, _ => none
def evUn (op : UnOp) (x : AV) : Option AV :=
 match op, x with
 | .not, .bool b => some (.bool (!b))
 | .neg, .int k n => some (.int k (k.wrap (0 - n)))
 | .xor, .int k n => some (.int k (k.wrap (BitVec.ofInt k.bits (if k.signed then -1 else k.max) ^^^ BitVec.ofInt k.bits n).toNat))
 | _, _ => none
def y80 (k : IntKind) (x : AV) : Option AV :=
 match x with
 | .int _ n => some (.int k (k.wrap n))
 | _ => none
def y2mn (x : AV) (h : Heap) : Option AV :=
 if y2k0 x then none else match y28 h 1 x with
  | some rows => (bytesOf rows).map .str
  | none => none
def ybv (hi dflt : Nat) : Option AV → Option Nat
 | none => some dflt
 | some x => yoo x hi
def y75 (es : Nat) (x : AV) (lo hi : Option AV) : Option AV := yqq es x (fun b => ybv b 0 lo) (fun n => ybv n n hi)
def y1pk (x : AV) (lo hi : Option AV) : Option AV :=
 match x with
 | .str s => match ybv s.length s.length hi with
  | some b => match ybv b 0 lo with
   | some a => some (.str ((s.take b).drop a))
   | none => none
  | none => none
 | _ => none
def y2og (agg : Bool) (off n : Nat) (x : AV) : Option AV :=
 match x with
 | .agg cs => y4w agg n (cs.drop off)
 | _ => none
def yo9 (agg : Bool) (len es : Nat) (x i : AV) : Option AV :=
 match x, i with
 | .agg cs, .int _ n => if 0 ≤ n ∧ n < len then y4w agg es (cs.drop (n.toNat * es)) else none
 | _, _ => none
def yav (x i : AV) : Option AV :=
 match x, i with
 | .str s, .int _ n => if 0 ≤ n then (s[n.toNat]?).map fun b => .int .u8 b.toNat else none
 | _, _ => none
def y29 (i : Nat) (x : AV) : Option AV :=
 match x with
 | .tup vs => vs[i]?
 | _ => none
def ye7 (isMax : Bool) (x y : AV) : Option AV :=
 match x, y with
 | .int k a, .int k' b => if k = k' then some (.int k (if isMax then max a b else min a b)) else none
 | _, _ => none
def yp1 : COp → Option (Tmps → Heap → Option AV)
 | .pick c a b => some fun t _ => yh (c.ev t) (a.ev t) (b.ev t)
 | .build zero parts => some fun t _ => yq zero (parts.map fun p => (p.1, p.2.1, p.2.2.ev t))
 | .ld agg n a => some fun t h => evLd agg n (a.ev t) h
 | .nilchk x => some fun t _ => yp (x.ev t)
 | .bin op x y => some fun t _ => yb op (x.ev t) (y.ev t)
 | .eqn k neq x y => some fun t _ => yg0 k neq (x.ev t) (y.ev t)
 | .eqa neq ks x y => some fun t _ => y2ml neq ks (x.ev t) (y.ev t)
 | .eqb neq x y => some fun t _ => y1uj neq (x.ev t) (y.ev t)
 | .un op x => some fun t _ => evUn op (x.ev t)
 | .cvi k x => some fun t _ => y80 k (x.ev t)
 | .b2s x => some fun t h => y2mn (x.ev t) h
 | .slc es x lo hi => some fun t _ => y75 es (x.ev t) (lo.map (·.ev t)) (hi.map (·.ev t))
 | .sls x lo hi => some fun t _ => y1pk (x.ev t) (lo.map (·.ev t)) (hi.map (·.ev t))
 | .fa off x => some fun t _ => evFa off (x.ev t)
 | .fld agg off n x => some fun t _ => y2og agg off n (x.ev t)
 | .ixs es x i => some fun t _ => y10 es (x.ev t) (i.ev t)
 | .ixa len es x i => some fun t _ => yn8 len es (x.ev t) (i.ev t)
 | .ixv agg len es x i => some fun t _ => yo9 agg len es (x.ev t) (i.ev t)
 | .ixstr x i => some fun t _ => yav (x.ev t) (i.ev t)
 | .ext i x => some fun t _ => y29 i (x.ev t)
 | .len k x => some fun t h => y17 k (x.ev t) h
 | .minmax isMax x y => some fun t _ => ye7 isMax (x.ev t) (y.ev t)
 | .mget agg ks zero ok x k => some fun t h => y2z agg ks zero ok (x.ev t) (k.ev t) h
 | .mkf f caps => some fun t _ => some (.fn f (caps.map (·.ev t)))
 | _ => none
def newC (fb : Nat) (sl : Option Nat) (cs : List AV) (h : Heap) : Option (AV × Heap) := if cs.all y19 then y8l fb sl cs h else none
def yl (fb : Nat) (sl : Option Nat) (es len : Nat) (zero : List AV) (parts : List (Nat × AV)) (h : Heap) : Option (AV × Heap) :=
 if zero.length = es ∧ zero.all y19 = true then
  match y1i es parts (List.replicate len zero) with
  | some rows => y2k fb sl es rows h
  | none => none
 else none
def s2bC (fb : Nat) (sl : Option Nat) (x : AV) (h : Heap) : Option (AV × Heap) :=
 match x with
 | .str s => y2k fb sl 1 (s.map fun b => [.int .u8 b.toNat]) h
 | _ => none
def mkSC (fb : Nat) (sl : Option Nat) (es bytes : Nat) (zero : List AV) (len cap : AV) (h : Heap) : Option (AV × Heap) :=
 match len, cap with
 | .int .i64 l, .int .i64 c =>
  if zero.length = es ∧ zero.all y19 = true ∧ 0 ≤ l ∧ l ≤ c ∧ c * bytes ≤ 2 ^ 47 ∧ c ≤ 2 ^ 62 then y2k fb sl es (List.replicate l.toNat zero) h else none
 | _, _ => none
def yyi (E : Env) (C : Calls2) (fb : Nat) (sl : Option Nat) (ro : Bool) (f : AV) (args : List AV) (h : Heap) : Option (AV × Heap) :=
 match f with
 | .fn f caps => yc E C fb sl ro f (args ++ caps) h
 | _ => none
def mkmC (fb : Nat) (sl : Option Nat) (h : Heap) : Option (AV × Heap) :=
 match place fb sl (.map false []) h with
 | some (id, g, h') => some (.lm id g, h')
 | none => none
def yko (E : Env) (C : Calls2) (fb : Nat) (t : Tmps) (h : Heap) : COp → Option (AV × Heap)
 | .new sl cs => newC fb sl cs h
 | .box sl x => newC fb sl (cellsOf (x.ev t)) h
 | .buildS sl es len zero parts => yl fb sl es len zero (parts.map fun p => (p.1, p.2.ev t)) h
 | .st n a v => evSt n (a.ev t) (v.ev t) h
 | .s2b sl x => s2bC fb sl (x.ev t) h
 | .mkS sl es bytes zero len cap => mkSC fb sl es bytes zero (len.ev t) (cap.ev t) h
 | .app sl es bytes x y => y1v fb sl es bytes (x.ev t) (y.ev t) h
 | .cpy es x y => y1f1 es (x.ev t) (y.ev t) h
 | .call sl ro f args => yc E C fb sl ro f (args.map (·.ev t)) h
 | .callv sl ro f args => yyi E C fb sl ro (f.ev t) (args.map (·.ev t)) h
 | .mkm sl => mkmC fb sl h
 | .mput agg ks m k v => y3x agg ks (m.ev t) (k.ev t) (v.ev t) h
 | .mdel agg ks m k => y7c agg ks (m.ev t) (k.ev t) h
 | .mclr m => yr8 (m.ev t) h
 | op => evOp E C fb t h op
theorem y1rd (t : Tmps) (hi d : Nat) (o : Option Opd) : y5p t hi d o = ybv hi d (o.map (·.ev t)) := by cases o <;> rfl
variable {E : Env} {C : Calls2} {L : y9q} {fb : Nat} {α : Type}
theorem y1b0 {op : COp} {f : Tmps → Heap → Option AV} (hf : yp1 op = some f) (t : Tmps) (h : Heap) : evOp E C fb t h op = (f t h).map (·, h) := by
 cases op <;> simp only [yp1, reduceCtorEq] at hf <;> (injection hf with hf; subst hf; simp only [evOp])
 case pick c a b => unfold yh; split <;> simp_all
 case build => simp only [yq, z3d]; rfl
 case nilchk x => unfold yp; split <;> simp_all
 case eqn => simp only [yg0, z3d]; rfl
 case eqa => unfold y2ml; split <;> simp_all [z3d, Function.comp_def]
 case eqb => unfold y1uj; split <;> simp_all
 case un => unfold evUn; split <;> simp_all
 case cvi => unfold y80; split <;> simp_all
 case b2s x =>
  unfold y2mn
  split
  ·simp_all
  ·split <;> simp_all [z3d, Function.comp_def]
 case slc => simp only [y75, y1rd]
 case sls x lo hi =>
  unfold y1pk
  split
  ·rename_i hx
   simp only [hx, y1rd]
   split
   ·split <;> simp_all
   ·simp_all
  ·rename_i hx
   simp only [Option.map_none]
 case fld => unfold y2og; split <;> simp_all
 case ixv len es x i =>
  cases x.ev t <;> try rfl
  cases i.ev t <;> try rfl
  rename_i n
  by_cases hc : 0 ≤ n ∧ n < len
  ·simp only [yo9, if_pos hc]
  ·simp only [yo9, if_neg hc]; rfl
 case ixstr x i =>
  cases x.ev t <;> try rfl
  cases i.ev t <;> try rfl
  rename_i n
  by_cases hc : 0 ≤ n
  ·simp only [yav, if_pos hc, z3d]; rfl
  ·simp only [yav, if_neg hc]; rfl
 case ext => unfold y29; split <;> simp_all
 case minmax =>
  unfold ye7
  split
  ·split <;> simp_all
  ·simp_all
 case mkf => rfl
theorem y1qm {op : COp} (t : Tmps) (h : Heap) : evOp E C fb t h op = yko E C fb t h op := by
 cases op <;> rfl
def y90 (E : Env) (C : Calls2) (fb : Nat) (sl : Option Nat) (ro : Bool) (f : Nat) (args : List AV) (h : Heap) : Option (List Nat × List Nat) :=
 if E.pure f && !(ro && sl.isSome) then
  match yv (fz h y1m) args with
  | none => none
  | some fa =>
   match C.p f fa.v with
   | none => none
   | some r =>
    if r.fresh || fa.ids.isEmpty then
     if ro || r.objs.isEmpty then some (fa.ids, []) else
     match sl with
     | some j => some (fa.ids, (List.range r.objs.length).map (fb + j + ·))
     | none => none
    else if ro then some (fa.ids, fa.ids) else none
 else none
def wkO (E : Env) (C : Calls2) (fb : Nat) (o : CI) (s : St) (n : St → Option α) : Option α :=
 match o.g with
 | none => match o.op with
  | .mv x => n ⟨tput o.dst (x.ev s.t) s.t, s.h⟩
  | op => match yp1 op with
   | some f => ob (f s.t s.h) fun v => n ⟨tput o.dst v s.t, s.h⟩
   | none => oh (yko E C fb s.t s.h op) fun v h => n ⟨tput o.dst v s.t, h⟩
 | some (d, w) => match o.op with
  | .mv x => gb (tget s.t d) w (some (x.ev s.t)) fun v => n ⟨tput o.dst v s.t, s.h⟩
  | op => match yp1 op with
   | some f => gb (tget s.t d) w (f s.t s.h) fun v => n ⟨tput o.dst v s.t, s.h⟩
   | none => gh (tget s.t d) w (yko E C fb s.t s.h op) s.h fun v h => n ⟨tput o.dst v s.t, h⟩
theorem yxq (o : CI) (s : St) (n : St → Option α) : wkO E C fb o s n = match y2b E C fb o s with
  | some s' => n s'
  | none => none := by
 obtain ⟨dst, op, g⟩ := o
 unfold y2b wkO
 have key : ∀ (f : Tmps → Heap → Option AV), yp1 op = some f → evOp E C fb s.t s.h op = (f s.t s.h).map (·, s.h) := fun f hf => y1b0 hf _ _
 have k2 : evOp E C fb s.t s.h op = yko E C fb s.t s.h op := y1qm _ _
 cases g with
 | none =>
  simp only [wants]
  split
  ·simp only [evOp]
  ·split
   ·rename_i f hf
    rw [key f hf]
    simp only [ob]
    cases f s.t s.h <;> rfl
   ·simp only [k2, oh]
    cases yko E C fb s.t s.h op <;> rfl
 | some p =>
  obtain ⟨d, w⟩ := p
  simp only [yly]
  split
  ·simp only [evOp, gb, ob]
   split <;> simp_all
  ·split
   ·rename_i f hf
    rw [key f hf]
    simp only [gb, ob]
    split <;> simp_all
    cases f s.t s.h <;> simp
   ·simp only [k2, gh, oh]
    split <;> simp_all
    cases yko E C fb s.t s.h op <;> simp
def wkR (E : Env) (C : Calls2) (fb : Nat) : List CI → St → (St → Option α) → Option α
 | [], s, n => n s
 | o :: r, s, n => wkO E C fb o s fun s' => wkR E C fb r s' n
theorem ys4 : ∀ (l : List CI) (s : St) (n : St → Option α), wkR E C fb l s n = match y36 E C fb l s with
  | some s' => n s'
  | none => none
 | [], _, _ => rfl
 | o :: r, s, n => by
  rw [wkR, yxq, y36]
  cases y2b E C fb o s with
  | none => rfl
  | some s' => exact ys4 r s' n
def wkD (E : Env) (C : Calls2) (fb : Nat) : List CI → List (List Nat × List Nat) → St → (List (List Nat × List Nat) → St → Option α) → Option α
 | [], fs, s, n => n fs.reverse s
 | o :: r, fs, s, n =>
  match o.op.isB with
  | true => wkO E C fb o s fun s' => wkD E C fb r (([], []) :: fs) s' n
  | false =>
  match o.g with
  | none => ofp (fpOf E C fb s.t s.h o.op) fun f => wkO E C fb o s fun s' => wkD E C fb r (f :: fs) s' n
  | some (d, w) => ofp (fgd (tget s.t d) w (fpOf E C fb s.t s.h o.op)) fun f => wkO E C fb o s fun s' => wkD E C fb r (f :: fs) s' n
theorem y2p3 (d : Nat) (w : Bool) (dst : Option Nat) (op : COp) (s : St) : fpCI E C fb ⟨dst, op, some (d, w)⟩ s = fgd (tget s.t d) w (fpOf E C fb s.t s.h op) := by
 simp only [fpCI, yly, fgd]
 cases yry (tget s.t d) w with
 | none => rfl
 | some b => cases b <;> rfl
theorem y1oi : ∀ (l : List CI) (fs : List (List Nat × List Nat)) (s : St) (n : List (List Nat × List Nat) → St → Option α), wkD E C fb l fs s n = match y7o E C fb l s with
  | some (s', gs) => n (fs.reverse ++ gs) s'
  | none => none
 | [], fs, s, n => by simp [wkD, y7o]
 | ⟨dst, op, g⟩ :: r, fs, s, n => by
  have step : ∀ f, (match y2b E C fb ⟨dst, op, g⟩ s with
    | some s' => wkD E C fb r (f :: fs) s' n
    | none => none) = match (match some f, y2b E C fb ⟨dst, op, g⟩ s with
    | some f, some s' => match y7o E C fb r s' with
     | some (s'', fs) => some (s'', f :: fs)
     | none => none
    | _, _ => none) with
    | some (s', gs) => n (fs.reverse ++ gs) s'
    | none => none := by
   intro f
   cases y2b E C fb ⟨dst, op, g⟩ s with
   | none => rfl
   | some s' =>
    simp only [y1oi r (f :: fs) s' n]
    cases y7o E C fb r s' with
    | none => rfl
    | some p => obtain ⟨s2, gs⟩ := p; simp
  rw [wkD, y7o, fpB]
  simp only
  cases hB : op.isB with
  | true => simp only [yxq]; exact step _
  | false =>
  simp only
  cases g with
  | none =>
   have : fpCI E C fb ⟨dst, op, none⟩ s = fpOf E C fb s.t s.h op := rfl
   rw [this]
   simp only
   cases hf : fpOf E C fb s.t s.h op with
   | none => rfl
   | some f => simp only [ofp, yxq]; exact step f
  | some p =>
   obtain ⟨d, w⟩ := p
   rw [y2p3]
   simp only
   cases hf : fgd (tget s.t d) w (fpOf E C fb s.t s.h op) with
   | none => rfl
   | some f => simp only [ofp, yxq]; exact step f
def lpK (x : Option (Res × St)) (n : St → Option α) (e : Nat → St → Option α) (r : St → Option α) : Option α :=
 match x with
 | some (.norm, s) => n s
 | some (.exit i, s) => e i s
 | some (.ret, s) => r s
 | none => none
def okK (b : Bool) (x : Option α) : Option α := match b with
 | true => x
 | false => none
def y6 (id : Nat) (n : St → Option α) (e : Nat → St → Option α) (i : Nat) (s : St) : Option α :=
 match Nat.decEq i id with
 | isTrue _ => n s
 | isFalse _ => e i s
noncomputable def wk (E : Env) (C : Calls2) (L : y9q) (fb : Nat) : CCode → St → (St → Option α) → (Nat → St → Option α) → (St → Option α) → Option α
 | .skip, s, n, _, _ => n s
 | .region ops, s, n, _, _ => wkR E C fb ops s n
 | .draw ops pairs, s, n, _, _ => match pairs.isEmpty with
  | true => wkR E C fb ops s n
  | false => wkD E C fb ops [] s fun fs s' => okK (y1o fs pairs) (n s')
 | .drawN k ops pairs, s, n, _, _ => wkD E C s.h.length ops [] ⟨s.t, s.h ++ yj k⟩ fun fs s' => okK (y1o fs pairs) (n s')
 | .seq a b, s, n, e, r => wk E C L fb a s (fun s' => wk E C L fb b s' n e r) e r
 | .cond c a b, s, n, e, r => cnd (c.ev s.t) (wk E C L fb a s n e r) (wk E C L fb b s n e r)
 | .block id a, s, n, e, r => wk E C L fb a s n (y6 id n e) r
 | .loop live a, s, n, e, r => lpK (L live a fb s) n e r
 | .mrange pre x live car i cs a ts z, s, n, e, r => lpK (exec E C L fb (.mrange pre x live car i cs a ts z) s) n e r
 | .kill ks a, s, n, e, r => lpK (exec E C L fb (.kill ks a) s) n e r
 | .exit id, s, _, e, _ => e id s
 | .ret, s, _, _, r => r s
 | .bad, _, _, _, _ => none
theorem y16g : ∀ (c : CCode) (s : St) (n : St → Option α) (e : Nat → St → Option α) (r : St → Option α), wk E C L fb c s n e r = lpK (exec E C L fb c s) n e r := by
 intro c
 induction c with
 | skip => exact fun _ _ _ _ => rfl
 | bad => exact fun _ _ _ _ => rfl
 | region ops =>
  intro s n e r
  rw [wk, ys4, exec]
  cases y36 E C fb ops s <;> rfl
 | draw ops pairs =>
  intro s n e r
  rw [wk, exec]
  cases hb : pairs.isEmpty with
  | true =>
   simp only [ys4, if_true]
   cases y36 E C fb ops s <;> rfl
  | false =>
   simp only [y1oi, y5n, zp, if_false]
   cases y7o E C fb ops s with
   | none => rfl
   | some p =>
    obtain ⟨s', fs⟩ := p
    simp only [List.reverse_nil, List.nil_append]
    cases y1o fs pairs <;> rfl
 | drawN k ops pairs =>
  intro s n e r
  rw [wk, exec]
  simp only [y1oi, y5n]
  cases y7o E C s.h.length ops ⟨s.t, s.h ++ yj k⟩ with
  | none => rfl
  | some p =>
   obtain ⟨s', fs⟩ := p
   simp only [List.reverse_nil, List.nil_append]
   cases y1o fs pairs <;> rfl
 | seq a b iha ihb =>
  intro s n e r
  rw [wk, iha, exec]
  cases exec E C L fb a s with
  | none => rfl
  | some p =>
   obtain ⟨q, s'⟩ := p
   cases q with
   | norm => simp only [lpK]; exact ihb s' n e r
   | exit i => rfl
   | ret => rfl
 | cond c a b iha ihb =>
  intro s n e r
  rw [wk, iha, ihb, exec]
  cases c.ev s.t <;> try rfl
  rename_i b'
  cases b' <;> rfl
 | block id a iha =>
  intro s n e r
  rw [wk, iha, exec]
  cases exec E C L fb a s with
  | none => rfl
  | some p =>
   obtain ⟨q, s'⟩ := p
   cases q with
   | norm => rfl
   | exit i =>
    simp only [lpK, y6]
    cases h : Nat.decEq i id with
    | isTrue h1 => simp [h1]
    | isFalse h1 => simp [h1]
   | ret => rfl
 | loop live a _ => exact fun _ _ _ _ => rfl
 | mrange => exact fun _ _ _ _ => rfl
 | kill => exact fun _ _ _ _ => rfl
 | exit id => exact fun _ _ _ _ => rfl
 | ret => exact fun _ _ _ _ => rfl
noncomputable def W (E : Env) (fb : Nat) (c : CCode) (s : St) (n : St → Option α) (e : Nat → St → Option α) (r : St → Option α) : Option α :=
 wk E (yd E) (y7b E) fb c s n e r
theorem y1q (fb : Nat) (c : CCode) (s : St) {n n' : St → Option α} {e : Nat → St → Option α} {r : St → Option α} (hn : ∀ s, n s = n' s) : W E fb c s n e r = W E fb c s n' e r := by
 rw [show n = n' from funext hn]
theorem y32 {fb : Nat} {a b : CCode} {s : St} {n : St → Option α} {e : Nat → St → Option α} {r : St → Option α} {k : St → Option α} (h : ∀ s, W E fb b s n e r = k s) : W E fb (.seq a b) s n e r = W E fb a s k e r :=
 y1q fb a s h
theorem y1s {fb : Nat} {c : Opd} {a b : CCode} {s : St} {n : St → Option α} {e : Nat → St → Option α} {r : St → Option α} {x y : Option α} (ha : W E fb a s n e r = x) (hb : W E fb b s n e r = y) :
  W E fb (.cond c a b) s n e r = cnd (c.ev s.t) x y := by
 rw [← ha, ← hb]; rfl
theorem y11 {fb id : Nat} {a : CCode} {s : St} {n : St → Option α} {e : Nat → St → Option α} {r : St → Option α} :
  W E fb (.block id a) s n e r = W E fb a s n (y6 id n e) r := rfl
theorem y27 {fb : Nat} {live : List Nat} {a : CCode} {s : St} {n : St → Option α} {e : Nat → St → Option α} {r : St → Option α} :
  W E fb (.loop live a) s n e r = W E fb a ⟨restrict live s.t, s.h⟩ (fun s' => W E fb (.loop live a) s' n e r) e r := by
 unfold W
 conv => lhs; rw [wk, y1to, y5k]
 rw [y16g a]
 cases hx : exec E (yd E) (y7b E) fb a ⟨restrict live s.t, s.h⟩ with
 | none => rfl
 | some p =>
  obtain ⟨q, s'⟩ := p
  cases q <;> rfl
noncomputable def orm (x : AV) (step : AV × AV → Heap → Option Heap) (h : Heap) (K : Heap → Option α) : Option α :=
 match ylq h x with
 | some (id, g, es) => match mall yg4 (ustep id g fun h q => step q h) (y6q id g) es (ydu h id) with
  | some h' => K h'
  | none => none
 | none => none
theorem y1v6 {fb : Nat} {pre cs : List CI} {x : Opd} {live : List Nat} {i : Nat} {a : CCode} {s : St} {n nk : St → Option α} {e : Nat → St → Option α} {r : St → Option α} {bk : St → Option Heap}
  (hb : ∀ s2, W E fb a s2 (fun s3 => some s3.h) (fun _ _ => none) (fun _ => none) = bk s2) (hn : ∀ s, n s = nk s) :
  W E fb (.mrange pre x live [] i cs a [] .skip) s n e r = wkR E (yd E) fb pre s fun s1 => orm (x.ev s1.t) (fun q h => wkR E (yd E) fb cs ⟨(i, .tup [q.1, q.2]) :: restrict live s1.t, h⟩ bk) s1.h fun h => nk ⟨restrict live s1.t, h⟩ := by
 have hbk : bk = fun s2 => (ynl (exec E (yd E) (y7b E) fb a s2)).map (·.h) := by
  funext s2
  rw [← hb, W, y16g]
  cases exec E (yd E) (y7b E) fb a s2 with
  | none => rfl
  | some q =>
   obtain ⟨q, s'⟩ := q
   cases q <;> rfl
 subst hbk
 obtain rfl : n = nk := funext hn
 unfold W
 rw [wk, exec, ys4]
 cases y36 E (yd E) fb pre s with
 | none => rfl
 | some s1 =>
  have hcs : (fun (h : Heap) (q : AV × AV) => wkR E (yd E) fb cs ⟨(i, .tup [q.1, q.2]) :: restrict live s1.t, h⟩ fun s2 => (ynl (exec E (yd E) (y7b E) fb a s2)).map (·.h)) =
    hstep E (yd E) fb (restrict live s1.t) i cs fun s2 => exec E (yd E) (y7b E) fb a s2 := by
   funext h q
   rw [ys4, hstep]
   rfl
  simp only [orm, List.isEmpty_nil, z3r, if_true]
  rw [hcs]
  cases ylq s1.h (x.ev s1.t) with
  | none => rfl
  | some q =>
   obtain ⟨id, g, es⟩ := q
   simp only
   generalize mall yg4 (ustep id g (hstep E (yd E) fb (restrict live s1.t) i cs fun s2 => exec E (yd E) (y7b E) fb a s2)) (y6q id g) es (ydu s1.h id) = o
   cases o with
   | none => rfl
   | some hf => rfl
theorem y2hu {α : Type} {fb : Nat} {a : CCode} {ks : List Nat} {f : St → Option α} {bk : St → Option α} (hb : ∀ s2, W E fb a s2 (fun s3 => f ⟨s3.t, killAll fb ks s3.h⟩) (fun _ _ => none) (fun _ => none) = bk s2) (s2 : St) :
  W E fb (.kill ks a) s2 f (fun _ _ => none) (fun _ => none) = bk s2 := by
 rw [← hb, W, W, y16g, y16g, exec]
 cases exec E (yd E) (y7b E) fb a s2 with
 | none => rfl
 | some q =>
  obtain ⟨q, s'⟩ := q
  cases q <;> rfl
theorem ysd {fb : Nat} {pre cs : List CI} {x : Opd} {live ks : List Nat} {i : Nat} {a : CCode} {s : St} {n nk : St → Option α} {e : Nat → St → Option α} {r : St → Option α} {bk : St → Option Heap}
  (hb : ∀ s2, W E fb a s2 (fun s3 => some (killAll fb ks s3.h)) (fun _ _ => none) (fun _ => none) = bk s2) (hn : ∀ s, n s = nk s) :
  W E fb (.mrange pre x live [] i cs (.kill ks a) [] .skip) s n e r = wkR E (yd E) fb pre s fun s1 => orm (x.ev s1.t) (fun q h => wkR E (yd E) fb cs ⟨(i, .tup [q.1, q.2]) :: restrict live s1.t, h⟩ bk) s1.h fun h => nk ⟨restrict live s1.t, h⟩ :=
 y1v6 (y2hu hb) hn
theorem yu {fb : Nat} {live : List Nat} {a : CCode} {s : St} {n : St → Option α} {e : Nat → St → Option α} {r : St → Option α} :
  W E fb (.loop live a) s n e r = W E fb (.loop live a) ⟨restrict live s.t, s.h⟩ n e r := by
 rw [y27, y27 (s := ⟨restrict live s.t, s.h⟩), yk6]
def resK : List CRes → Heap → Tmps → (List AV → Option α) → Option α
 | [], _, _, K => K []
 | .t n :: rs, h, t, K => resK rs h t fun vs => K (tget t n :: vs)
 | .cell n agg size :: rs, h, t, K => ob (evLd agg size (tget t n) h) fun v => resK rs h t fun vs => K (v :: vs)
theorem yf2 {h : Heap} {t : Tmps} : ∀ (rs : List CRes) (K : List AV → Option α), resK rs h t K = match y3y h t rs with
  | some vs => K vs
  | none => none
 | [], _ => rfl
 | .t n :: rs, K => by
  rw [resK, yf2 rs, y3y, y1ag]
  cases y3y h t rs <;> rfl
 | .cell n agg size :: rs, K => by
  simp only [resK, y3y, y1ag, ob]
  cases evLd agg size (tget t n) h with
  | none => rfl
  | some v =>
   simp only [yf2 rs]
   cases y3y h t rs <;> rfl
def finP (rs : List CRes) (s : St) : Option (Ex AV) := resK rs s.h s.t fun vs => yo s.h (ysn vs)
def finI (rs : List CRes) (s : St) : Option (AV × Heap) := resK rs s.h s.t fun vs => some (ysn vs, s.h)
theorem y1r {f : Nat} {cf : CFunc} {args : List AV} (hf : E.fn f = some cf) (hn : args.length = cf.params) :
  (yd E).p f args = W E 0 cf.body ⟨y4a 0 args, yj cf.slots⟩ (finP cf.results) (fun _ _ => none) (finP cf.results) := by
 rw [y2ga hf, y4c, if_pos hn, W, y16g]
 cases exec E (yd E) (y7b E) 0 cf.body ⟨y4a 0 args, yj cf.slots⟩ with
 | none => rfl
 | some p =>
  obtain ⟨q, s'⟩ := p
  cases q with
  | norm =>
   simp only [lpK, finP, yf2]
   cases y3y s'.h s'.t cf.results <;> rfl
  | exit i => rfl
  | ret =>
   simp only [lpK, finP, yf2]
   cases y3y s'.h s'.t cf.results <;> rfl
theorem y6b {f : Nat} {cf : CFunc} {args : List AV} {fb : Nat} {h : Heap} (hf : E.fn f = some cf) (hn : args.length = cf.params) :
  (yd E).i f args fb h = W E fb cf.body ⟨y4a 0 args, if fb = h.length then h ++ yj cf.slots else h⟩ (finI cf.results) (fun _ _ => none) (finI cf.results) := by
 rw [y16o, yk4, hf]
 have key : ∀ h', y4c E (yd E) (y7b E) cf args fb h' = W E fb cf.body ⟨y4a 0 args, h'⟩ (finI cf.results) (fun _ _ => none) (finI cf.results) := by
  intro h'
  rw [y4c, if_pos hn, W, y16g]
  cases exec E (yd E) (y7b E) fb cf.body ⟨y4a 0 args, h'⟩ with
  | none => rfl
  | some p =>
   obtain ⟨q, s'⟩ := p
   cases q with
   | norm =>
    simp only [lpK, finI, yf2]
    cases y3y s'.h s'.t cf.results <;> rfl
   | exit i => rfl
   | ret =>
    simp only [lpK, finI, yf2]
    cases y3y s'.h s'.t cf.results <;> rfl
 simp only
 split
 ·exact key _
 ·exact key _
end Go.Vm
/- The value machine: environments in which some functions are called in their caller's heap, and some of the library are told by what they answer. -/
namespace Go.Vm
variable {P : Program} {nm : Nat → Option Nat}
def envX (fnE : Nat → Option CFunc) (imp : List Nat) (xp : Nat → List AV → Option (Ex AV)) : Env := ⟨fnE, fun k => !imp.contains k, xp, fun _ _ _ _ => none⟩
theorem y28d {tbl : List (Option Nat)} {fnE : Nat → Option CFunc} {imp : List Nat} {xp : Nat → List AV → Option (Ex AV)} (hm : P.follows .mixedOrders = true) (h : AllF P (nmOf tbl) fnE 0 tbl) (hx : y3k P (nmOf tbl) xp) :
  EnvOk P (nmOf tbl) (envX fnE imp xp) := by
 have key : ∀ f k, nmOf tbl f = some k → FnOk P (nmOf tbl) fnE f k := by
  intro f k hk
  have := h.get tbl 0 f k hk
  rwa [zd] at this
 refine ⟨⟨hm, fun f k hk => ?_⟩, fun f k cf hk hf => ?_, fun f k args r hk hr => ?_, fun f k args fb h x _ hx => ?_⟩
 ·obtain ⟨fn, h1, ⟨c, h2⟩, h3, _⟩ := key f k hk
  exact ⟨fn, c, h1, h2, h3⟩
 ·obtain ⟨fn, h1, _, _, h4⟩ := key f k hk
  exact ⟨fn, h1, h4 cf hf⟩
 ·refine hx f k args r hk ?_
  by_cases hs : (fnE k).isSome = true <;> simp [envX, hs] at hr
  exact hr
 ·by_cases hs : (fnE k).isSome = true <;> simp [envX, hs] at hx
theorem y3k.nothing : y3k P nm fun _ _ => Option.none := fun _ _ _ _ _ h => by cases h
theorem FnOk.ext {fnE : Nat → Option CFunc} {f key : Nat} {fn : Func} (h1 : P.funcs[f]? = some fn) (h2 : fn.body.isSome = true) (h3 : (fn.name == "runtime.NumGoroutine") = false)
  (h4 : fnE key = none) : FnOk P nm fnE f key :=
 ⟨fn, h1, z2d.1 h2, by simpa using h3, fun cf' h => by rw [h4] at h; cases h⟩
def xpC : Nat → List AV → Option (Ex AV)
 | 53, [.str s, .str [c]] => some ⟨.bool (s.contains c), [], true, [], []⟩
 | _, _ => none
theorem ycx (l : List UInt8) (c : UInt8) : decide (0 ≤ Lib.indexByte l c) = l.contains c := by
 induction l with
 | nil => rfl
 | cons b l ih =>
  unfold Lib.indexByte
  rw [List.contains_cons]
  by_cases hb : (b == c) = true
  ·have hb2 : (c == b) = true := by rw [beq_iff_eq] at hb ⊢; exact hb.symm
   simp [hb, hb2]
  ·have hb2 : (c == b) = false := by
    rw [Bool.eq_false_iff]; intro h; rw [beq_iff_eq] at h hb; exact hb h.symm
   have hb3 : (b == c) = false := by simpa using hb
   rw [hb2, z1x, ← ih, hb3]
   simp only [zp, if_false]
   have := Lib.indexByte_ge l c
   by_cases h1 : (Lib.indexByte l c == -1) = true
   ·rw [if_pos h1]
    rw [beq_iff_eq] at h1
    rw [h1]
   ·rw [if_neg h1]
    rw [beq_iff_eq] at h1
    have h3 : 0 ≤ Lib.indexByte l c := by omega
    have h4 : 0 ≤ Lib.indexByte l c + 1 := by omega
    simp [h3, h4]
theorem y3k.contains {f : Nat} (hf : ∀ g, nm g = some 53 → g = f)
  (hc : ∀ (s : ByteArray) (c : UInt8) (w : World), Calls P f #[.string s, .string ⟨#[c]⟩] w fun e w' => e = .returned (.bool (decide (0 ≤ Lib.indexByte s.data.toList c))) ∧ w' = w) : y3k P nm xpC := by
 intro g key args r hg hr w Fk vs hb hn hv
 unfold xpC at hr
 split at hr
 ·rename_i s c
  injection hr with hr
  subst hr
  obtain rfl := hf g hg
  have hn2 : vs.size = 2 := hn
  obtain ⟨v0, v1, rfl⟩ : ∃ v0 v1, vs = #[v0, v1] := by
   match vs, hn2 with
   | ⟨[a, b]⟩, _ => exact ⟨a, b, rfl⟩
  have h0 := hv 0 v0 (.str s) rfl rfl
  have h1 := hv 1 v1 (.str [c]) rfl rfl
  generalize hs : AV.str s = x at h0
  cases h0 <;> cases hs
  rename_i b0
  generalize hs : AV.str [c] = x at h1
  cases h1 <;> try cases hs
  rename_i b1
  injection hs with hs
  have e1 : b1 = ⟨#[c]⟩ := by
   obtain ⟨⟨l⟩⟩ := b1
   have : l = [c] := hs.symm
   subst this
   rfl
  subst e1
  refine (hc b0 c w).mono fun e w' he => ?_
  obtain ⟨rfl, rfl⟩ := he
  refine ⟨_, rfl, ⟨rfl, rfl, rfl, zi _, fun _ _ => rfl⟩, fun b => (False : Prop), fun _ => none, ?_, fun o ho => (by cases ho), ?_, fun b hb => hb.elim, fun b hb => ?_⟩
  ·exact Inv.none 0 (fun b (hb : False) => hb.elim)
  ·rw [ycx]
   exact .pure (.bool _)
  ·obtain ⟨id, g, loc, h1, _⟩ := hb
   cases h1
 ·cases hr
def xpOr (p q : Nat → List AV → Option (Ex AV)) : Nat → List AV → Option (Ex AV) := fun k args => match p k args with
 | some r => some r
 | none => q k args
theorem y3k.or {p q : Nat → List AV → Option (Ex AV)} (hp : y3k P nm p) (hq : y3k P nm q) : y3k P nm (xpOr p q) := by
 intro g key args r hg hr
 unfold xpOr at hr
 split at hr
 ·rename_i r' h'
  injection hr with hr
  subst hr
  exact hp g key args _ hg h'
 ·exact hq g key args r hg hr
abbrev OX := Option (Ex AV)
def kO (d : Nat) (o : COp) : CI := ⟨some d, o, none⟩
def cs (d : Nat) : List COp → List CI
 | [] => []
 | o :: r => ⟨some d, o, none⟩ :: cs (d + 1) r
def cg (d g : Nat) (w : Bool) : List COp → List CI
 | [] => []
 | o :: r => ⟨some d, o, some (g, w)⟩ :: cg (d + 1) g w r
abbrev lf (x : Opd) : COp := .ld false 1 x
def kU (o : COp) : CI := ⟨none, o, none⟩
def ci (n : Int) : Opd := .c (.int .i64 n)
def xN {α : Type} : Nat → St → Option α := fun _ _ => none
instance {n : Nat} : OfNat Opd n := ⟨.t n⟩
instance : CoeFun St fun _ => Nat → AV := ⟨fun s i => tget s.t i⟩
end Go.Vm
