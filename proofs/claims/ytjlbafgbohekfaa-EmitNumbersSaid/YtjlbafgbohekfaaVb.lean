/- The value machine (Vb). -/
import Derived.Test.YtjlbafgbohekfaaVa
set_option linter.unusedSimpArgs false
set_option linter.unusedVariables false
set_option linter.unusedSectionVars false
/- The value machine: comparisons, conversions, parts of values, against the model. -/
namespace Go.Vm
variable {P : Program} {nm : Nat → Option Nat} {w : World} {F : Nat → Prop} {m : MapT} {h : Heap} {G : List Nat}
theorem ymy (t : TypeId) (x y : Value) : Op.equal t x y = Op.equalIn (9999 + 1) t x y := rfl
theorem yp9 (d : Nat) {t : Nat} (ht : P.underlying t = some .bool) (a b : Bool) : (Op.equalIn (d + 1) t (.bool a) (.bool b)).run P w = .ok (a == b) w := by
 simp [Op.equalIn, yf ht]
theorem y20g (d : Nat) {t : Nat} {k0 k : IntKind} (ht : P.underlying t = some (.int k0)) (a b : Int) : (Op.equalIn (d + 1) t (.int k a) (.int k b)).run P w = .ok (a == b) w := by
 simp [Op.equalIn, yf ht]
theorem y224 (d : Nat) {t : Nat} (ht : P.underlying t = some .string) (a b : ByteArray) : (Op.equalIn (d + 1) t (.string a) (.string b)).run P w = .ok (a == b) w := by
 simp [Op.equalIn, yf ht]
theorem yjg (op : BinOp) (t : TypeId) (ox oy : Operand) (v u : Value) (h1 : v.oneCell' = true) (h2 : v ≠ .nilIface) : (eqGuard op t ox oy v u).run P w = .ok () w := by
 unfold eqGuard
 cases op <;> simp <;> (cases v <;> first | rfl | exact (h2 rfl).elim | exact absurd h1 zv)
theorem yxt {op : BinOp} {neq : Bool} (hop : op = if neq then .neq else .eql) {t : TypeId} {v u : Value} {b : Bool} (hi : ∀ k n, v ≠ .int k n) (hs : ∀ s, v ≠ .string s) (hf : ∀ k n, v ≠ .float k n) (hc : ∀ k n l, v ≠ .complex k n l)
  (he : (Op.equal t v u).run P w = .ok b w) : (binOp op t v u).run P w = .ok (.bool (if neq then !b else b)) w := by
 subst hop
 cases neq with
 | false =>
  simp only [zp, if_false]
  cases v <;> first
   | exact (hi _ _ rfl).elim
   | exact (hs _ rfl).elim
   | exact (hf _ _ rfl).elim
   | exact (hc _ _ _ rfl).elim
   | (cases u <;> (simp only [binOp, Sem.run_bind, he, Result.andThen_ok, Sem.run_pure]))
 | true =>
  simp only [if_true]
  cases v <;> first
   | exact (hi _ _ rfl).elim
   | exact (hs _ rfl).elim
   | exact (hf _ _ rfl).elim
   | exact (hc _ _ _ rfl).elim
   | (cases u <;> (simp only [binOp, Sem.run_bind, he, Result.andThen_ok, Sem.run_pure]))
theorem y183 {t : Nat} {op : BinOp} {neq : Bool} {ox oy : Operand} {v u : Value} {a b : Bool} (hop : op = if neq then .neq else .eql) (ht : P.underlying t = some .bool)
  (hv : Rep nm w F m G v (.bool a)) (hu : Rep nm w F m G u (.bool b)) :
  (do eqGuard op t ox oy v u; binOp op t v u : Sem Value).run P w = .ok (.bool (if neq then !(a == b) else a == b)) w := by
 have e1 := hv.bool_inv
 have e2 := hu.bool_inv
 subst e1; subst e2
 rw [Sem.run_bind, yjg _ _ _ _ _ _ rfl (by simp), Result.andThen_ok]
 exact yxt hop (by simp) (by simp) (by simp) (by simp) (by rw [ymy]; exact yp9 _ ht a b)
theorem Rep.ls_shape {v : Value} {id g es off len : Nat} (hv : Rep nm w F m G v (.ls id g es off len)) : ∃ p l c, v = .slice (some p) l c := by
 cases hv with
 | pure h => cases h
 | ls => exact ⟨_, _, _, rfl⟩
theorem Rep.lm_shape {v : Value} {id g : Nat} (hv : Rep nm w F m G v (.lm id g)) : ∃ p, v = .map (some p) := by
 cases hv with
 | pure h => cases h
 | lm => exact ⟨_, rfl⟩
theorem Rep.rm_shape {v : Value} {es : List (AV × AV)} (hv : Rep nm w F m G v (.rm es)) : ∃ p, v = .map (some p) := by
 cases hv with
 | pure h =>
  cases h with
  | rm => exact ⟨_, rfl⟩
theorem yax {k : Nat} {v : Value} {a : AV} {b : Bool} (hv : Rep nm w F m G v a) (hb : yp8 k a = some b) :
  (k = 0 ∧ ((b = true ∧ v = .pointer none) ∨ (b = false ∧ ∃ p, v = .pointer (some p)))) ∨
  (k = 1 ∧ ((b = true ∧ v = .slice none 0 0) ∨ (b = false ∧ ∃ p l c, v = .slice (some p) l c))) ∨
  (k = 2 ∧ ((b = true ∧ v = .map none) ∨ (b = false ∧ ∃ p, v = .map (some p)))) := by
 unfold yp8 at hb
 split at hb <;> first
  | (injection hb with hb; subst hb; exact .inl ⟨rfl, .inl ⟨rfl, hv.nilp_inv⟩⟩)
  | (injection hb with hb; subst hb; obtain ⟨x, y, hx, _⟩ := hv.rp_inv; exact .inl ⟨rfl, .inr ⟨rfl, _, hx⟩⟩)
  | (injection hb with hb; subst hb; obtain ⟨x, hx, _⟩ := hv.lp_inv; exact .inl ⟨rfl, .inr ⟨rfl, _, hx⟩⟩)
  | (injection hb with hb; subst hb; exact .inr (.inl ⟨rfl, .inl ⟨rfl, hv.nils_inv⟩⟩))
  | (injection hb with hb; subst hb; obtain ⟨x, y, hx, _⟩ := hv.rs_inv; exact .inr (.inl ⟨rfl, .inr ⟨rfl, _, _, _, hx⟩⟩))
  | (injection hb with hb; subst hb; exact .inr (.inl ⟨rfl, .inr ⟨rfl, hv.ls_shape⟩⟩))
  | (injection hb with hb; subst hb; exact .inr (.inr ⟨rfl, .inl ⟨rfl, hv.nilm_inv⟩⟩))
  | (injection hb with hb; subst hb; exact .inr (.inr ⟨rfl, .inr ⟨rfl, hv.rm_shape⟩⟩))
  | (injection hb with hb; subst hb; exact .inr (.inr ⟨rfl, .inr ⟨rfl, hv.lm_shape⟩⟩))
  | cases hb
theorem yqx {k : Nat} {va ua : AV} {b : Bool} (hb : y168 k va ua = some b) : ∃ x y, yp8 k va = some x ∧ yp8 k ua = some y ∧ (x || y) = true ∧ b = (x && y) := by
 unfold y168 at hb
 cases h1 : yp8 k va with
 | none => rw [h1] at hb; simp at hb
 | some x =>
  cases h2 : yp8 k ua with
  | none => rw [h1, h2] at hb; cases x <;> simp at hb
  | some y =>
   rw [h1, h2] at hb
   refine ⟨x, y, rfl, rfl, ?_, ?_⟩ <;> cases x <;> cases y <;> simp at hb ⊢ <;> first | exact hb | exact hb.symm
theorem y1w7 (d : Nat) {t k : Nat} {v u : Value} {va ua : AV} {b : Bool}
  (ht : (match P.underlying t with
   | some (.pointer _) => k == 0
   | some (.slice _) => k == 1
   | some (.map _ _) => k == 2
   | _ => false) = true)
  (hv : Rep nm w F m G v va) (hu : Rep nm w F m G u ua) (hb : y168 k va ua = some b) : (Op.equalIn (d + 1) t v u).run P w = .ok b w := by
 obtain ⟨x, y, h1, h2, hxy, rfl⟩ := yqx hb
 rcases yax hv h1 with ⟨rfl, h3⟩ | ⟨rfl, h3⟩ | ⟨rfl, h3⟩
 ·rcases yax hu h2 with ⟨_, h4⟩ | ⟨h5, _⟩ | ⟨h5, _⟩
  ·split at ht <;> first
    | exact absurd ht zv
    | (rename_i hx
       rcases h3 with ⟨rfl, rfl⟩ | ⟨rfl, p, rfl⟩ <;> rcases h4 with ⟨rfl, rfl⟩ | ⟨rfl, q, rfl⟩ <;> first
         | (simp [Op.equalIn, yf hx]; done)
         | (simp at hxy; done))
    | exact absurd ht (by decide)
  ·omega
  ·omega
 ·rcases yax hu h2 with ⟨h5, _⟩ | ⟨_, h4⟩ | ⟨h5, _⟩
  ·omega
  ·split at ht <;> first
    | exact absurd ht zv
    | (rename_i hx
       rcases h3 with ⟨rfl, rfl⟩ | ⟨rfl, p, l, c, rfl⟩ <;> rcases h4 with ⟨rfl, rfl⟩ | ⟨rfl, q, l2, c2, rfl⟩ <;> first
         | (simp [Op.equalIn, yf hx]; done)
         | (simp at hxy; done))
    | exact absurd ht (by decide)
  ·omega
 ·rcases yax hu h2 with ⟨h5, _⟩ | ⟨h5, _⟩ | ⟨_, h4⟩
  ·omega
  ·omega
  ·split at ht <;> first
    | exact absurd ht zv
    | (rename_i hx
       rcases h3 with ⟨rfl, rfl⟩ | ⟨rfl, p, rfl⟩ <;> rcases h4 with ⟨rfl, rfl⟩ | ⟨rfl, q, rfl⟩ <;> first
         | (simp [Op.equalIn, yf hx]; done)
         | (simp at hxy; done))
    | exact absurd ht (by decide)
theorem y1nj {t k : Nat} {op : BinOp} {neq : Bool} {ox oy : Operand} {v u : Value} {va ua : AV} {b : Bool} (hop : op = if neq then .neq else .eql)
  (ht : (match P.underlying t with
   | some (.pointer _) => k == 0
   | some (.slice _) => k == 1
   | some (.map _ _) => k == 2
   | _ => false) = true)
  (hv : Rep nm w F m G v va) (hu : Rep nm w F m G u ua) (hb : y168 k va ua = some b) :
  (do eqGuard op t ox oy v u; binOp op t v u : Sem Value).run P w = .ok (.bool (if neq then !b else b)) w := by
 obtain ⟨b0, _, hb0, _⟩ := yqx hb
 have hshape : v.oneCell' = true ∧ v ≠ .nilIface ∧ (∀ k n, v ≠ .int k n) ∧ (∀ s, v ≠ .string s) ∧ (∀ k n, v ≠ .float k n) ∧ (∀ k n l, v ≠ .complex k n l) := by
  rcases yax hv hb0 with ⟨_, h3⟩ | ⟨_, h3⟩ | ⟨_, h3⟩
  ·rcases h3 with ⟨_, rfl⟩ | ⟨_, p, rfl⟩ <;> exact ⟨rfl, by simp, by simp, by simp, by simp, by simp⟩
  ·rcases h3 with ⟨_, rfl⟩ | ⟨_, p, l, c, rfl⟩ <;> exact ⟨rfl, by simp, by simp, by simp, by simp, by simp⟩
  ·rcases h3 with ⟨_, rfl⟩ | ⟨_, p, rfl⟩ <;> exact ⟨rfl, by simp, by simp, by simp, by simp, by simp⟩
 obtain ⟨s1, s2, s3, s4, s5, s6⟩ := hshape
 rw [Sem.run_bind, yjg _ _ _ _ _ _ s1 s2, Result.andThen_ok]
 exact yxt hop s3 s4 s5 s6 (by rw [ymy]; exact y1w7 _ ht hv hu hb)
theorem ycq (a b : ByteArray) : (a == b) = (a.data.toList == b.data.toList) := by
 cases a with
 | mk d =>
  cases b with
  | mk e =>
   have h1 : ((ByteArray.mk d) == (ByteArray.mk e)) = (d == e) := rfl
   rw [h1]
   exact (Array.beq_toList d e).symm
theorem yqt (d : Nat) {t k : Nat} {v u : Value} {a b : AV} {r : Bool} (ht : yat P t = some k) (hv : Rep nm w F m G v a) (hu : Rep nm w F m G u b) (hr : y21 k a b = some r) :
  (Op.equalIn (d + 1) t v u).run P w = .ok r w := by
 unfold yat at ht
 split at ht
 ·rename_i k0 hx
  injection ht with ht
  subst ht
  cases a <;> cases b <;> simp only [y21] at hr <;> first
   | (split at hr
      · rename_i e
        subst e
        injection hr with hr
        subst hr
        rw [hv.int_inv, hu.int_inv]
        exact y20g d hx _ _
      · cases hr)
   | cases hr
 ·rename_i hx
  injection ht with ht
  subst ht
  cases a <;> cases b <;> simp only [y21] at hr <;> first
   | (injection hr with hr
      subst hr
      rw [hv.bool_inv, hu.bool_inv]
      exact yp9 d hx _ _)
   | cases hr
 ·rename_i hx
  injection ht with ht
  subst ht
  cases a <;> cases b <;> simp only [y21] at hr <;> first
   | (injection hr with hr
      subst hr
      obtain ⟨x', rfl, hx'⟩ := hv.str_inv
      obtain ⟨y', rfl, hy'⟩ := hu.str_inv
      rw [y224 d hx, ycq, hx', hy'])
   | cases hr
 ·cases ht
theorem LRep.of_agg {v : Value} {cs : List AV} (hv : Rep nm w F m G v (.agg cs)) : ∃ vs : Array Value, v = .agg vs ∧ LRep nm w F m G vs.toList cs := by
 obtain ⟨vs, rfl, hn, hr⟩ := hv.agg_inv
 exact ⟨vs, rfl, by simpa using hn, fun j v l h1 h2 => hr j v l (by simpa using h1) h2⟩
theorem y16t {t n off : Nat} {agg : Bool} {vs : Array Value} {cs : List AV} {r : AV} (ha : yjz P t agg = true) (hs : y3w P t n = true) (h1 : (agg || n == 1) = true) (hl : LRep nm w F m G vs.toList cs)
  (hr : y4w agg n (cs.drop off) = some r) : ∃ x, (part t vs off).run P w = .ok x w ∧ Rep nm w F m G x r := by
 have hsz : vs.size = cs.length := by simpa using hl.1
 simp only [part, Sem.run_bind, yh3 ha, Result.andThen_ok]
 cases agg with
 | true =>
  simp only [y4w, if_true] at hr
  split at hr
  ·rename_i hn
   injection hr with hr
   subst hr
   refine ⟨.agg (vs.extract off (off + n)), by simp only [if_true, Sem.run_bind, y37 hs, Result.andThen_ok, Sem.run_pure], .agg _ _ ?_ (fun j v l hv hl2 => ?_)⟩
   ·simp at hn ⊢; omega
   ·rw [Array.getElem?_extract] at hv
    rw [z1v] at hl2
    split at hl2
    ·rename_i hj
     rw [z1l] at hl2
     split at hv
     ·exact hl.2 (off + j) v l (by simpa using hv) hl2
     ·cases hv
    ·cases hl2
  ·cases hr
 | false =>
  simp only [y4w, zp, if_false, List.head?_drop] at hr
  obtain ⟨v, hv, hrep⟩ := hl.get hr
  refine ⟨v, ?_, hrep⟩
  have hv2 : vs[off]? = some v := by simpa using hv
  simp only [zp, if_false, hv2, Sem.run_pure]
theorem yuk {x : AV} {v : Value} {hi n : Nat} (hv : Rep nm w F m G v x) (hn : yoo x hi = some n) (code : BoundsCode) : (Instr.sliceBound v hi code).run P w = .ok n w ∧ n ≤ hi := by
 unfold yoo at hn
 split at hn
 ·rename_i k i
  split at hn
  ·rename_i hc
   injection hn with hn
   subst hn
   rw [hv.int_inv]
   refine ⟨by simp [Instr.sliceBound, asIntOf, hc], by omega⟩
  ·cases hn
 ·cases hn
theorem yi7 {a : Act} {t : Tmps} (hT : TRep nm w F m G a t) {o : Option Operand} {o' : Option Opd} (hc : y93 nm o o' = true) {hi dflt n : Nat} (hn : y5p t hi dflt o' = some n) (hd : dflt ≤ hi) :
  n ≤ hi ∧ ((o = none ∧ n = dflt) ∨ ∃ x, o = some x ∧ ∀ code, (Instr.sliceBound (a.eval x) hi code).run P w = .ok n w) := by
 unfold y93 at hc
 split at hc
 ·simp [y5p] at hn
  subst hn
  exact ⟨hd, .inl ⟨rfl, rfl⟩⟩
 ·rename_i x y
  simp only [y5p] at hn
  have := fun code => yuk (P := P) (yt hT hc) hn code
  exact ⟨(this .index).2, .inr ⟨x, rfl, fun code => (this code).1⟩⟩
 ·cases hc
theorem y3v {a : Act} {t : Tmps} (hT : TRep nm w F m G a t) {lo hi : Option Operand} {lo' hi' : Option Opd} (h1 : y93 nm lo lo' = true) (h2 : y93 nm hi hi' = true) {isS : Bool} {len cap b l : Nat}
  (hb : y5p t len len hi' = some b) (hl : y5p t b 0 lo' = some l) (hcap : len ≤ cap) :
  (Instr.sliceBounds isS len cap (lo.map a.eval) (hi.map a.eval) none).run P w = .ok (l, b, cap) w ∧ l ≤ b ∧ b ≤ len := by
 obtain ⟨hbl, hb2⟩ := yi7 (P := P) hT h2 hb (zi _)
 obtain ⟨hlb, hl2⟩ := yi7 (P := P) hT h1 hl (z2s _)
 refine ⟨?_, hlb, hbl⟩
 have hbc : ∀ x, hi = some x → ∀ code, (Instr.sliceBound (a.eval x) cap code).run P w = .ok b w := by
  intro x hx code
  rcases hb2 with ⟨e, _⟩ | ⟨x', e, hrun⟩
  ·rw [hx] at e; cases e
  ·rw [hx] at e
   injection e with e
   subst e
   have h3 := hrun code
   unfold Instr.sliceBound at h3 ⊢
   cases hev : a.eval x with
   | int k i =>
    rw [hev] at h3
    simp only [asIntOf, Sem.run_bind, Sem.run_pure, Result.andThen_ok, Sem.run_ite] at h3 ⊢
    split at h3
    ·rename_i hc
     rw [if_pos ⟨hc.1, by omega⟩]; exact h3
    ·exfalso
     unfold boundsPanic runtimePanic at h3
     split at h3 <;> simp at h3 <;> (try (split at h3 <;> simp at h3))
   | pointer p => rw [hev] at h3; cases p <;> simp [asIntOf] at h3
   | _ => rw [hev] at h3; simp [asIntOf] at h3
 unfold Instr.sliceBounds
 rcases hb2 with ⟨rfl, rfl⟩ | ⟨x, rfl, _⟩
 ·rcases hl2 with ⟨rfl, rfl⟩ | ⟨y, rfl, hy⟩
  ·simp
  ·simp [hy]
 ·rcases hl2 with ⟨rfl, rfl⟩ | ⟨y, rfl, hy⟩
  ·simp [hbc x rfl]
  ·simp [hbc x rfl, hy]
end Go.Vm
/- The value machine: structs compared, conversions, slices cut, places in slices and arrays, maps, against the model. -/
namespace Go.Vm
variable {P : Program} {nm : Nat → Option Nat} {w : World} {F : Nat → Prop} {m : MapT} {h : Heap} {G : List Nat}
theorem yhf {t off : Nat} {vs : Array Value} {v : Value} (ha : yjz P t false = true) (hv : vs[off]? = some v) : (part t vs off).run P w = .ok v w := by
 simp only [part, Sem.run_bind, yh3 ha, Result.andThen_ok, zp, if_false, hv, Sem.run_pure]
theorem yuh {d d1 : Nat} (hd : d1 = d + 1) {t : Nat} {ks : List Nat} {vs us : Array Value} {as bs : List AV} {r : Bool} (ht : y7g P t ks = true) (hv : LRep nm w F m G vs.toList as) (hu : LRep nm w F m G us.toList bs)
  (hr : yx ks as bs = some r) : (Op.equalIn (d1 + 1) t (.agg vs) (.agg us)).run P w = .ok r w := by
 unfold y7g at ht
 split at ht
 ·rename_i fs hx
  simp only [zc, z1u] at ht
  obtain ⟨h1, h2⟩ := ht
  have key : ∀ (l : List Field) (n : Nat) (ks : List Nat) (as' bs' : List AV) (r : Bool), y5x P l n ks = true → (∀ j a, as'[j]? = some a → as[n + j]? = some a) → (∀ j a, bs'[j]? = some a → bs[n + j]? = some a) →
    yx ks as' bs' = some r →
    (forIn l (none, ()) (fun f (_ : Option Bool × Unit) =>
     (if f.name ≠ "_" then do
      let __do_lift ← part f.type vs f.offset
      let __do_lift_1 ← part f.type us f.offset
      let __do_lift ← Op.equalIn d1 f.type __do_lift __do_lift_1
      if (!__do_lift) = true then pure (ForInStep.done (some false, ())) else pure (ForInStep.yield (none, ()))
     else pure (ForInStep.yield (none, ())) : Sem (ForInStep (Option Bool × Unit))))).run P w = .ok (if r then none else some false, ()) w := by
   intro l
   induction l with
   | nil =>
    intro n ks as' bs' r hf _ _ hr
    cases ks with
    | cons => cases hf
    | nil =>
     cases as' <;> cases bs' <;> simp [yx] at hr
     subst hr
     simp
   | cons f l ih =>
    intro n ks as' bs' r hf ha hb hr
    cases ks with
    | nil => cases hf
    | cons k ks =>
     simp only [y5x, zc, bne_iff_ne, ne_eq, beq_iff_eq] at hf
     obtain ⟨⟨⟨⟨⟨f1, f2⟩, f3⟩, f4⟩, f5⟩, f6⟩ := hf
     cases as' with
     | nil => simp [yx] at hr
     | cons a as' =>
      cases bs' with
      | nil => simp [yx] at hr
      | cons b bs' =>
       simp only [yx] at hr
       split at hr
       ·rename_i x y hxx hyy
        injection hr with hr
        subst hr
        obtain ⟨v, hv1, hv2⟩ := hv.get (ha 0 a rfl)
        obtain ⟨u, hu1, hu2⟩ := hu.get (hb 0 b rfl)
        have hp1 : (part f.type vs f.offset).run P w = .ok v w := yhf f5 (by rw [f2]; simpa using hv1)
        have hp2 : (part f.type us f.offset).run P w = .ok u w := yhf f5 (by rw [f2]; simpa using hu1)
        have he := yqt (P := P) d f3 hv2 hu2 hxx
        rw [← hd] at he
        have ih' := ih (n + 1) ks as' bs' y f6 (fun j c hc => by have := ha (j + 1) c hc; rwa [show n + (j + 1) = n + 1 + j by omega] at this)
         (fun j c hc => by have := hb (j + 1) c hc; rwa [show n + (j + 1) = n + 1 + j by omega] at this) hyy
        rw [List.forIn_cons, Sem.run_bind, if_pos f1]
        simp only [Sem.run_bind, hp1, hp2, he, Result.andThen_ok]
        cases x with
        | true => simp only [z1w, zp, if_false, Sem.run_pure, Result.andThen_ok, z23]; exact ih'
        | false => simp
       ·cases hr
  have := key fs.toList 0 ks as bs r h1 (fun j a h => by simpa using h) (fun j a h => by simpa using h) hr
  simp only [Op.equalIn, Sem.run_bind, yf hx, Result.andThen_ok, run_program, h2, zp, if_false]
  rw [← Array.forIn_toList]
  rw [this]
  cases r <;> simp
 ·cases ht
theorem y1lh {s d : Nat} {k : IntKind} {v : Value} {k0 : IntKind} {n : Int} (hs : (P.underlying s).isSome = true) (hd : P.underlying d = some (.int k)) (hv : Rep nm w F m G v (.int k0 n)) :
  (convert s d v).run P w = .ok (.int k (k.wrap n)) w := by
 obtain ⟨ds, hs⟩ := z2d.1 hs
 rw [hv.int_inv]
 simp [convert, yf hs, yf hd, Conv.intToInt]
theorem y1do (I : Inv nm w F m h) {fb : Nat} {sl : Option Nat} {s d e : Nat} {v : Value} {l : List UInt8} {x : AV × Heap} (hs : (P.underlying s).isSome = true) (hd : P.underlying d = some (.slice e)) (he : P.underlying e = some (.int .u8))
  (hv : Rep nm w F m (gens h) v (.str l)) (hx : y2k fb sl 1 (l.map fun b => [.int .u8 b.toNat]) h = some x) :
  Does nm w F m h ((do pure (Next.value (← convert s d v)) : Sem Next).run P w) x := by
 obtain ⟨ds, hs⟩ := z2d.1 hs
 obtain ⟨b, rfl, hb⟩ := hv.str_inv
 have hsz : b.size = l.length := by rw [← hb]; simp
 have hcut := y1t1 b.size 0 e (w.tape w.drawn (.appendCap b.size 0 e))
 generalize hcap : (Question.appendCap b.size 0 e).cut (w.tape w.drawn (.appendCap b.size 0 e)) = cap at hcut
 have hrun : ∃ w' : World, ∃ fr : Nat × Nat, (convert s d (.string b)).run P w = .ok (.slice (some ⟨w.heap.size, 0, none⟩) b.size cap) w' ∧
   w'.heap = w.heap.push (.cells ((b.data.map fun c : UInt8 => Value.int .u8 c.toNat) ++ Array.replicate (cap - b.size) (Value.int .u8 0)) e fr) ∧ w'.os = w.os ∧ w'.tape = w.tape ∧ w'.output = w.output ∧
   frOk fr ((b.data.map fun c : UInt8 => Value.int .u8 c.toNat) ++ Array.replicate (cap - b.size) (Value.int .u8 0)).size := by
  generalize hc : ((b.data.map fun c : UInt8 => Value.int .u8 c.toNat) ++ Array.replicate (cap - b.size) (Value.int .u8 0)) = cells
  refine ⟨{ w.drew with heap := w.heap.push (.cells cells e (cells.size, cells.size + 1)) }, (cells.size, cells.size + 1), ?_, rfl, rfl, rfl, rfl, fun x hx => by simp; omega⟩
  simp only [convert, Sem.run_bind, yf hs, yf hd, Result.andThen_ok, yf he, Conv.stringToBytes, run_choose, Question.forced, zp, if_false, hcap, newRow, run_newObj, Sem.run_pure, hc]
  simp [markStringish, World.shape?, World.freeze]
  refine ⟨?_, rfl, rfl⟩
  apply z37
  intro k
  rw [z2u]
  by_cases hk : w.heap.size = k
  ·subst hk; simp
  ·rw [if_neg hk, z3i, z3i, if_neg (fun e => hk e.symm), if_neg (fun e => hk e.symm)]
 obtain ⟨w', fr, h1, h2, h3, h4, h5, h6⟩ := hrun
 rw [yhs h1]
 have := y6m (cap := cap) (w' := w') I hx h2 h3 h4 h5 h6 (by simp [← hsz]; omega) (by simp; omega) (fun i row hi => by
  rw [z1a] at hi
  cases hbi : l[i]? with
  | none => rw [hbi] at hi; cases hi
  | some c =>
   rw [hbi] at hi
   injection hi with hi
   subst hi
   refine ⟨rfl, fun j a hj => ?_⟩
   cases j with
   | succ j => simp at hj
   | zero =>
    simp at hj
    subst hj
    refine ⟨rfl, .int .u8 c.toNat, ?_, .pure (.int _ _)⟩
    have hil : i < l.length := (zb.1 hbi).1
    have hbd : b.data[i]? = some c := by rw [← hb] at hbi; simpa using hbi
    rw [Nat.mul_one, z1p, z2l, if_pos (by simp; have : b.size = b.data.size := rfl; omega), Array.getElem?_map, hbd]
    rfl)
 rw [zy, ← hsz] at this
 exact this
theorem y1jy {a : Act} {t : Tmps} (hT : TRep nm w F m G a t) {ty es : Nat} {v : Value} {va r : AV} {lo hi : Option Operand} {lo' hi' : Option Opd} (he : ykl P ty es = true) (h1 : y93 nm lo lo' = true) (h2 : y93 nm hi hi' = true)
  (hv : Rep nm w F m G v va) (hr : yqq es va (fun b => y5p t b 0 lo') (fun n => y5p t n n hi') = some r) :
  ∃ x, (Instr.sliceAt ty v (lo.map a.eval) (hi.map a.eval) none).run P w = .ok x w ∧ Rep nm w F m G x r := by
 obtain ⟨e, hu, hs⟩ := yjp he
 have hcut : ∀ (base : Option Addr) (len cap l b : Nat), (Instr.sliceBounds true len cap (lo.map a.eval) (hi.map a.eval) none).run P w = .ok (l, b, cap) w →
   (Instr.sliceAt ty (.slice base len cap) (lo.map a.eval) (hi.map a.eval) none).run P w = .ok (.slice (if cap = l then base else base.map (·.add (l * es))) (b - l) (cap - l)) w := by
  intro base len cap l b hb
  simp only [Instr.sliceAt, Instr.slice, Sem.run_bind, yf hu, Result.andThen_ok, hb, y37 hs, Sem.run_pure]
 unfold yqq at hr
 split at hr
 ·split at hr
  ·rename_i b hb
   split at hr
   ·rename_i l hl
    injection hr with hr
    subst hr
    rw [hv.nils_inv]
    obtain ⟨hrun, hlb, hbl⟩ := y3v (P := P) (isS := true) hT h1 h2 hb hl (zi 0)
    have hb0 : b = 0 := by omega
    have hl0 : l = 0 := by omega
    subst hb0; subst hl0
    exact ⟨_, hcut none 0 0 0 0 hrun, .pure (by simpa using PRep.nils)⟩
   ·cases hr
  ·cases hr
 ·rename_i es' rows
  split at hr
  ·rename_i hes
   subst hes
   split at hr
   ·rename_i b hb
    split at hr
    ·rename_i l hl
     injection hr with hr
     subst hr
     obtain ⟨ad, cap, rfl, hcap, hsp0, hc⟩ := hv.rs_inv
     obtain ⟨hrun, hlb, hbl⟩ := y3v (P := P) (isS := true) (cap := cap) hT h1 h2 hb hl hcap
     refine ⟨_, hcut _ _ _ _ _ hrun, .pure ?_⟩
     have hlen : ((rows.take b).drop l).length = b - l := by simp; omega
     have hget : ∀ (i : Nat) (row : List AV), ((rows.take b).drop l)[i]? = some row → i < b - l ∧ rows[l + i]? = some row := by
      intro i row hi
      have hil : i < b - l := by rw [← hlen]; exact (zb.1 hi).1
      rw [z1l, z1v] at hi
      rw [if_pos (by omega)] at hi
      exact ⟨hil, hi⟩
     have hgen : ∀ a' : Addr, (0 < b - l → a'.spot = none) → (∀ i, i < b - l → a'.block = ad.block ∧ a'.off = ad.off + l * es') → PRep nm w F (.slice (some a') (b - l) (cap - l)) (.rs es' ((rows.take b).drop l)) := by
      intro a' hsp ha'
      rw [← hlen]
      refine .rs a' (cap - l) es' _ (fun i j => (w.cell? ⟨ad.block, ad.off + ((l + i) * es' + j), none⟩).getD undef) (fun hne => hsp (by rw [← hlen]; exact List.length_pos_iff.2 hne)) (by rw [hlen]; omega) (fun i row hi => (hc (l + i) row (hget i row hi).2).1) (fun i row j c hi hj => ?_) (fun i row j c hi hj => ?_)
      ·obtain ⟨hil, hi2⟩ := hget i row hi
       obtain ⟨c1, x, c2, c3, c4⟩ := (hc (l + i) row hi2).2 j c hj
       obtain ⟨e1, e2⟩ := ha' i hil
       rw [e1, e2]
       refine ⟨c2, c1, ?_⟩
       rw [c3]
       rw [show ad.off + l * es' + (i * es' + j) = ad.off + ((l + i) * es' + j) by rw [z25]; omega, c3]
       rfl
      ·obtain ⟨hil, hi2⟩ := hget i row hi
       obtain ⟨c1, x, c2, c3, c4⟩ := (hc (l + i) row hi2).2 j c hj
       rw [c3]
       exact c4
     by_cases hcl : cap = l
     ·rw [if_pos hcl]
      exact hgen _ (fun h0 => by omega) (fun i hi => by omega)
     ·rw [if_neg hcl]
      simp only [Option.map_some]
      have hne : 0 < b - l → ad.spot = none := fun h0 => hsp0 (by rintro rfl; simp at hlen; omega)
      refine hgen _ (fun h0 => ?_) (fun i hi => ?_)
      ·rw [y5v (hne h0), y3u]
      ·rw [y5v (hne (by omega)), y3u]
       exact ⟨rfl, rfl⟩
    ·cases hr
   ·cases hr
  ·cases hr
 ·rename_i id g es' off len
  split at hr
  ·rename_i hes
   subst hes
   split at hr
   ·rename_i b hb
    split at hr
    ·rename_i l hl
     injection hr with hr
     subst hr
     cases hv with
     | pure hp => cases hp
     | ls _ _ _ _ _ cap a' loc hg hm hab has hloc hao hac hlc =>
      obtain ⟨hrun, hlb, hbl⟩ := y3v (P := P) (isS := true) (cap := cap) hT h1 h2 hb hl hlc
      refine ⟨_, hcut _ _ _ _ _ hrun, ?_⟩
      by_cases hcl : cap = l
      ·rw [if_pos hcl]
       exact .ls id g es' (off + l) (b - l) (cap - l) a' loc hg hm hab has hloc (fun hc => by omega) (by omega) (by omega)
      ·rw [if_neg hcl]
       have hae : a' = ⟨a'.block, a'.off, none⟩ := y5v has
       rw [hae]
       simp only [Option.map_some, y3u]
       refine .ls id g es' (off + l) (b - l) (cap - l) _ loc hg hm hab rfl hloc (fun hc => ?_) (by omega) (by omega)
       simp only
       rw [hao (by omega), hloc, z25]
       omega
    ·cases hr
   ·cases hr
  ·cases hr
 ·cases hr
theorem y1gf {a : Act} {t : Tmps} (hT : TRep nm w F m G a t) {ty : Nat} {v : Value} {s : List UInt8} {l b : Nat} {lo hi : Option Operand} {lo' hi' : Option Opd} (hu : P.underlying ty = some .string) (h1 : y93 nm lo lo' = true) (h2 : y93 nm hi hi' = true)
  (hv : Rep nm w F m G v (.str s)) (hb : y5p t s.length s.length hi' = some b) (hl : y5p t b 0 lo' = some l) :
  ∃ x, (Instr.sliceAt ty v (lo.map a.eval) (hi.map a.eval) none).run P w = .ok x w ∧ Rep nm w F m G x (.str ((s.take b).drop l)) := by
 obtain ⟨x, rfl, hx⟩ := hv.str_inv
 have hsz : x.size = s.length := by rw [← hx]; simp
 obtain ⟨hrun, hlb, hbl⟩ := y3v (P := P) (isS := false) (cap := s.length) hT h1 h2 hb hl (zi _)
 refine ⟨.string (x.extract l b), ?_, .pure ?_⟩
 ·simp only [Instr.sliceAt, Instr.slice, Sem.run_bind, yf hu, Result.andThen_ok, hsz]
  simp [hrun]
 ·have := PRep.str (nm := nm) (w := w) (F := F) (x.extract l b)
  rw [show (x.extract l b).data.toList = (s.take b).drop l by rw [ByteArray.data_extract, ← hx]; simp [List.drop_take]] at this
  exact this
theorem y1ks {ty es : Nat} {v u : Value} {va ua r : AV} (he : ykl P ty es = true) (hv : Rep nm w F m G v va) (hu : Rep nm w F m G u ua) (hr : y10 es va ua = some r) :
  ∃ x, (Instr.indexAt ty v u).run P w = .ok x w ∧ Rep nm w F m G x r := by
 obtain ⟨e, hue, hs⟩ := yjp he
 have hrun : ∀ (a : Addr) (len cap : Nat) (k : IntKind) (n : Int), 0 ≤ n → n < len → (Instr.indexAt ty (.slice (some a) len cap) (.int k n)).run P w = .ok (.pointer (some (a.add (n.toNat * es)))) w := by
  intro a len cap k n h0 h1
  simp [Instr.indexAt, asIntOf, yf hue, h0, h1, y37 hs]
 unfold y10 at hr
 split at hr
 ·rename_i es' rows k n
  split at hr
  ·rename_i hc
   obtain ⟨rfl, h0⟩ := hc
   rw [hu.int_inv]
   obtain ⟨ad, cap, rfl, hcap, hsp, hc⟩ := hv.rs_inv
   cases hrow : rows[n.toNat]? with
   | none => rw [hrow] at hr; cases hr
   | some row =>
    rw [hrow] at hr
    injection hr with hr
    subst hr
    have hlt : n.toNat < rows.length := (zb.1 hrow).1
    refine ⟨_, hrun _ _ _ _ _ h0 (by omega), .pure ?_⟩
    rw [y5v (hsp (by rintro rfl; simp at hlt)), y3u]
    have hcell := (hc n.toNat row hrow).2
    refine .rp _ _ (fun j => (w.cell? ⟨ad.block, ad.off + (n.toNat * es' + j), none⟩).getD undef) rfl (fun j l hl => ?_) (fun j l hl => ?_)
    ·obtain ⟨c1, x, c2, c3, c4⟩ := hcell j l hl
     refine ⟨c2, c1, ?_⟩
     simp only
     rw [z33, c3]
     rfl
    ·obtain ⟨c1, x, c2, c3, c4⟩ := hcell j l hl
     rw [c3]
     exact c4
  ·cases hr
 ·rename_i id g es' off len k n
  split at hr
  ·rename_i hc
   obtain ⟨rfl, h0, h1⟩ := hc
   injection hr with hr
   subst hr
   rw [hu.int_inv]
   cases hv with
   | pure hp => cases hp
   | ls _ _ _ _ _ cap a loc hg hm hab has hloc hao hac hlc =>
    refine ⟨_, hrun _ _ _ _ _ h0 h1, ?_⟩
    have hae : a = ⟨a.block, a.off, none⟩ := y5v has
    rw [hae, y3u, hab, hao (by omega)]
    have := Rep.lp (nm := nm) (w := w) (F := F) (m := m) (G := G) id g (off + n.toNat) 0 loc hg hm
    rw [show loc.base + (off + n.toNat) * loc.es + 0 = loc.base + off * loc.es + n.toNat * es' by rw [hloc, z25]; omega] at this
    exact this
  ·cases hr
 ·cases hr
theorem y1fh {ty e len es : Nat} {v u : Value} {va ua r : AV} (hu : P.underlying ty = some (.array len e)) (hs : y3w P e es = true) (hv : Rep nm w F m G v va) (hi : Rep nm w F m G u ua) (hr : yn8 len es va ua = some r) :
  ∃ x, (Instr.indexAt ty v u).run P w = .ok x w ∧ Rep nm w F m G x r := by
 have hrun : ∀ (a : Addr) (k : IntKind) (n : Int), 0 ≤ n → n < len → (Instr.indexAt ty (.pointer (some a)) (.int k n)).run P w = .ok (.pointer (some (a.add (n.toNat * es)))) w := by
  intro a k n h0 h1
  simp [Instr.indexAt, asIntOf, yf hu, h0, h1, y37 hs, Instr.sureAddr]
 unfold yn8 at hr
 split at hr
 ·rename_i cs k n
  split at hr
  ·rename_i hc
   injection hr with hr
   subst hr
   rw [hi.int_inv]
   obtain ⟨b, o, rfl, hc2⟩ := hv.rp_inv
   refine ⟨_, hrun _ _ _ hc.1 hc.2, .pure ?_⟩
   rw [y3u]
   refine .rp _ _ (fun j => (w.cell? ⟨b, o + (n.toNat * es + j), none⟩).getD undef) rfl (fun j l hl => ?_) (fun j l hl => ?_)
   ·rw [z1l] at hl
    obtain ⟨x, c2, c1, c3, c4⟩ := hc2 _ l hl
    refine ⟨c2, c1, ?_⟩
    simp only
    rw [z33, c3]
    rfl
   ·rw [z1l] at hl
    obtain ⟨x, c2, c1, c3, c4⟩ := hc2 _ l hl
    rw [c3]
    exact c4
  ·cases hr
 ·rename_i id g i off k n
  split at hr
  ·rename_i hc
   injection hr with hr
   subst hr
   rw [hi.int_inv]
   obtain ⟨loc, rfl, hg, hm⟩ := hv.lp_inv
   refine ⟨_, hrun _ _ _ hc.1 hc.2, ?_⟩
   rw [y3u]
   have := Rep.lp (nm := nm) (w := w) (F := F) (m := m) (G := G) id g i (off + n.toNat * es) loc hg hm
   rw [← z33] at this
   exact this
  ·cases hr
 ·cases hr
theorem y1yp {ty e off : Nat} {i : Nat} {fs : Array Field} {f : Field} {v : Value} {va r : AV} {ti : TypeInfo} (hu : P.underlying ty = some (.struct fs)) (hf : fs[i]? = some f) (ho : f.offset = off) (hi : P.info? f.type = some ti) (hz : ti.size ≠ 0)
  (hv : Rep nm w F m G v va) (hr : evFa off va = some r) :
  ∃ x, (Instr.fieldAt ty v i).run P w = .ok x w ∧ Rep nm w F m G x r := by
 have hrun : ∀ a : Addr, (Instr.fieldAt ty (.pointer (some a)) i).run P w = .ok (.pointer (some (a.add off))) w := by
  intro a
  simp [Instr.fieldAt, yf hu, hf, Instr.sureAddr, fieldPlace, sizeOf, typeInfo, hi, hz, ho]
 unfold evFa at hr
 split at hr
 ·rename_i cs
  injection hr with hr
  subst hr
  obtain ⟨b, o, rfl, hc2⟩ := hv.rp_inv
  refine ⟨_, hrun _, .pure ?_⟩
  rw [y3u]
  refine .rp _ _ (fun j => (w.cell? ⟨b, o + (off + j), none⟩).getD undef) rfl (fun j l hl => ?_) (fun j l hl => ?_)
  ·rw [z1l] at hl
   obtain ⟨x, c2, c1, c3, c4⟩ := hc2 _ l hl
   refine ⟨c2, c1, ?_⟩
   simp only
   rw [z33, c3]
   rfl
  ·rw [z1l] at hl
   obtain ⟨x, c2, c1, c3, c4⟩ := hc2 _ l hl
   rw [c3]
   exact c4
 ·rename_i id g i' o
  injection hr with hr
  subst hr
  obtain ⟨loc, rfl, hg, hm⟩ := hv.lp_inv
  refine ⟨_, hrun _, ?_⟩
  rw [y3u]
  have := Rep.lp (nm := nm) (w := w) (F := F) (m := m) (G := G) id g i' (o + off) loc hg hm
  rw [← z33] at this
  exact this
 ·cases hr
end Go.Vm
/- The value machine: the rest of the operations, and all of them. -/
namespace Go.Vm
variable {P : Program} {nm : Nat → Option Nat} {w : World} {F : Nat → Prop} {m : MapT} {h : Heap} {G : List Nat}
theorem yun {ty : Nat} {v u : Value} {s : List UInt8} {k : IntKind} {n : Int} {b : UInt8} (hu : P.underlying ty = some .string) (hv : Rep nm w F m G v (.str s)) (hi : Rep nm w F m G u (.int k n)) (h0 : 0 ≤ n) (hb : s[n.toNat]? = some b) :
  (Instr.index ty v u).run P w = .ok (.int .u8 b.toNat) w := by
 obtain ⟨x, rfl, hx⟩ := hv.str_inv
 rw [hi.int_inv]
 have hget : x[n.toNat]? = some b := by
  have hlt : n.toNat < s.length := (zb.1 hb).1
  have hlt2 : n.toNat < x.size := by rw [show x.size = s.length by rw [← hx]; simp]; exact hlt
  rw [getElem?_pos x n.toNat hlt2]
  congr 1
  rw [← hx] at hb
  have : x.data[n.toNat]? = some b := by simpa using hb
  rw [z1c hlt2] at this
  injection this
 simp [Instr.index, asIntOf, yf hu, h0, hget]
theorem y61 (I : Inv nm w F m h) {id g : Nat} {fz : Bool} {es : List (AV × AV)} (hr : y6l h id g = some (fz, es)) :
  ∃ loc, m id = some (g, loc) ∧ ∃ mes clock, w.heap[loc.blk]? = some (.map mes clock) ∧ y5i (Rep nm w F m (gens h)) mes clock es := by
 have ho := y7f hr
 obtain ⟨loc, hm⟩ := I.has id g _ ho rfl
 obtain ⟨o, ho2, hrep⟩ := I.live id g loc hm
 rw [ho] at ho2
 injection ho2 with ho2
 injection ho2 with _ ho2
 subst ho2
 exact ⟨loc, hm, hrep⟩
theorem y7p {id g : Nat} {es : List (AV × AV)} (hr : y3t h id g = some es) : h[id]? = some ⟨g, .kmap es⟩ := by
 unfold y3t y23 at hr
 cases ho : h[id]? with
 | none => rw [ho] at hr; cases hr
 | some o =>
  obtain ⟨g', c⟩ := o
  rw [ho] at hr
  simp only at hr
  split at hr
  ·rename_i es' he
   injection hr with hr
   subst hr
   split at he
   ·rename_i e
    injection he with he
    rw [he, e]
   ·cases he
  ·cases hr
theorem y79 (I : Inv nm w F m h) {id g : Nat} {es : List (AV × AV)} (hr : y3t h id g = some es) :
  ∃ loc, m id = some (g, loc) ∧ ∃ mes, w.heap[loc.blk]? = some (.map mes loc.pin) ∧ y5i (Rep nm w F m (gens h)) mes loc.pin es := by
 have ho := y7p hr
 obtain ⟨loc, hm⟩ := I.has id g _ ho rfl
 obtain ⟨o, ho2, hrep⟩ := I.live id g loc hm
 rw [ho] at ho2
 injection ho2 with ho2
 injection ho2 with _ ho2
 subst ho2
 exact ⟨loc, hm, hrep⟩
theorem Rep.lm_at {v : Value} {id g : Nat} {loc : Loc} (hr : Rep nm w F m G v (.lm id g)) (hm : m id = some (g, loc)) : v = .map (some loc.blk) := by
 cases hr with
 | pure h => cases h
 | lm _ _ loc' hg hl => rw [hl loc hm]
theorem Rep.rm_inv {v : Value} {es : List (AV × AV)} (hr : Rep nm w F m G v (.rm es)) : ∃ r mes clock, v = .map (some r) ∧ F r ∧ w.heap[r]? = some (.map mes clock) ∧ y5i (PRep nm w F) mes clock es := by
 cases hr with
 | pure h =>
  cases h with
  | rm r mes clock ms _ hF hh hp hn hk hv hkr hb hd => exact ⟨r, mes, clock, rfl, hF, hh, ms, hp, .of hn fun i e p h1 h2 => ⟨hk i e p h1 h2, hv i e p h1 h2⟩, hkr, hb, hd⟩
theorem y3h {r : Nat} {mes : Array MapEntry} {clock : Nat} (hh : w.heap[r]? = some (.map mes clock)) : (getObj r).run P w = .ok (.map mes clock) w := by
 simp [getObj, Sem.run, hh]
theorem y4y {r : Nat} {mes mes' : Array MapEntry} {clock clock' : Nat} (hh : w.heap[r]? = some (.map mes clock)) : (setObj r (.map mes' clock')).run P w = .ok () (y2y w r (.map mes' clock')) := by
 simp [setObj, Sem.run, hh, y2y]
theorem yt3 (I : Inv nm w F m h) {t k : Nat} {ty : TypeId} {v : Value} {va r : AV}
  (ht : (match P.underlying t with
   | some .string => k == 0
   | some (.slice _) => k == 1
   | some (.map _ _) => k == 2
   | _ => false) = true) (hv : Rep nm w F m (gens h) v va) (hr : y17 k va h = some r) :
  ∃ x, (Builtin.len_ #[t] ty #[v]).run P w = .ok x w ∧ Rep nm w F m (gens h) x r := by
 split at ht
 ·rename_i hx
  have hk : k = 0 := by simpa using ht
  subst hk
  cases va <;> simp only [y17] at hr <;> first | (cases hr; done) | skip
  injection hr with hr
  subst hr
  obtain ⟨b, rfl, hb⟩ := hv.str_inv
  refine ⟨.int .i64 b.size, by simp [Builtin.len_, yf hx, goInt], ?_⟩
  rw [← hb]
  simp only [z1e]
  exact .pure (.int _ _)
 ·rename_i e hx
  have hk : k = 1 := by simpa using ht
  subst hk
  have hrun : ∀ base n cap, (Builtin.len_ #[t] ty #[.slice base n cap]).run P w = .ok (.int .i64 n) w := fun base n cap => by simp [Builtin.len_, yf hx, goInt]
  cases va <;> simp only [y17] at hr <;> first | (cases hr; done) | skip
  ·injection hr with hr
   subst hr
   rw [hv.nils_inv]
   exact ⟨_, hrun _ _ _, .pure (.int _ _)⟩
  ·injection hr with hr
   subst hr
   obtain ⟨b, cap, rfl, _⟩ := hv.rs_inv
   exact ⟨_, hrun _ _ _, .pure (.int _ _)⟩
  ·injection hr with hr
   subst hr
   cases hv with
   | pure hp => cases hp
   | ls => exact ⟨_, hrun _ _ _, .pure (.int _ _)⟩
 ·rename_i kt e hx
  have hk : k = 2 := by simpa using ht
  subst hk
  cases va <;> simp only [y17] at hr <;> first | (cases hr; done) | skip
  ·injection hr with hr
   subst hr
   rw [hv.nilm_inv]
   exact ⟨.int .i64 0, by simp [Builtin.len_, yf hx, goInt], .pure (.int _ _)⟩
  ·injection hr with hr
   subst hr
   obtain ⟨r, mes, clock, rfl, _, hh, hn⟩ := hv.rm_inv
   exact ⟨.int .i64 mes.size, by simp [Builtin.len_, yf hx, goInt, y3h hh], by rw [hn.size]; exact .pure (.int _ _)⟩
  ·split at hr
   ·rename_i fz es hes
    injection hr with hr
    subst hr
    obtain ⟨loc, hm, mes, clock, hh, hn⟩ := y61 I hes
    rw [hv.lm_at hm]
    exact ⟨.int .i64 mes.size, by simp [Builtin.len_, yf hx, goInt, y3h hh], by rw [hn.size]; exact .pure (.int _ _)⟩
   ·cases hr
 ·exact absurd ht zv
theorem ynx {t k : Nat} {d : TypeDesc} {v u : Value} {a b : AV} {r : Bool} (hd : P.underlying t = some d) (ht : yat P t = some k) (hv : Rep nm w F m G v a) (hu : Rep nm w F m G u b) (hr : y21 k a b = some r) :
  Instr.sameNow d v u = some r ∧ (r = true → v = u) := by
 unfold yat at ht
 rw [hd] at ht
 split at ht
 ·rename_i k0 hx
  injection ht with ht
  injection hx with hx
  subst ht; subst hx
  cases a <;> cases b <;> simp only [y21] at hr <;> first
   | (split at hr
      · rename_i e
        subst e
        injection hr with hr
        subst hr
        rw [hv.int_inv, hu.int_inv]
        refine ⟨by simp [Instr.sameNow], fun e => ?_⟩
        rw [beq_iff_eq] at e
        rw [e]
      · cases hr)
   | cases hr
 ·rename_i hx
  injection ht with ht
  injection hx with hx
  subst ht; subst hx
  cases a <;> cases b <;> simp only [y21] at hr <;> first
   | (injection hr with hr
      subst hr
      rw [hv.bool_inv, hu.bool_inv]
      refine ⟨by simp [Instr.sameNow], fun e => ?_⟩
      rw [beq_iff_eq] at e
      rw [e])
   | cases hr
 ·rename_i hx
  injection ht with ht
  injection hx with hx
  subst ht; subst hx
  cases a <;> cases b <;> simp only [y21] at hr <;> first
   | (injection hr with hr
      subst hr
      obtain ⟨x', rfl, hx'⟩ := hv.str_inv
      obtain ⟨y', rfl, hy'⟩ := hu.str_inv
      refine ⟨by simp only [Instr.sameNow, ycq, hx', hy'], fun e => ?_⟩
      rw [beq_iff_eq, ← hx', ← hy'] at e
      cases x'; cases y'
      simp at e
      rw [e])
   | cases hr
 ·cases ht
theorem yf0 {k : Nat} {a b : AV} {r : Bool} (h : y21 k a b = some r) : r = true ↔ a = b := by
 unfold y21 at h
 split at h
 ·split at h
  ·rename_i e
   subst e
   injection h with h
   subst h
   simp
  ·cases h
 ·injection h with h
  subst h
  simp
 ·injection h with h
  subst h
  simp
 ·cases h
theorem yis {k k' : Nat} {a q : AV} {r : Bool} (h : y21 k a a = some true) (h' : y21 k' a q = some r) : y21 k a q = some r := by
 cases a <;> cases q <;> first
  | (match k, k', h, h' with
     | 0, 0, _, h' => exact h'
     | 0, 1, _, h' => cases h'
     | 0, 2, _, h' => cases h'
     | 0, _ + 3, _, h' => cases h'
     | 1, _, h, _ => cases h
     | 2, _, h, _ => cases h
     | _ + 3, _, h, _ => cases h)
  | (match k, k', h, h' with
     | 1, 1, _, h' => exact h'
     | 1, 0, _, h' => cases h'
     | 1, 2, _, h' => cases h'
     | 1, _ + 3, _, h' => cases h'
     | 0, _, h, _ => cases h
     | 2, _, h, _ => cases h
     | _ + 3, _, h, _ => cases h)
  | (match k, k', h, h' with
     | 2, 2, _, h' => exact h'
     | 2, 0, _, h' => cases h'
     | 2, 1, _, h' => cases h'
     | 2, _ + 3, _, h' => cases h'
     | 0, _, h, _ => cases h
     | 1, _, h, _ => cases h
     | _ + 3, _, h, _ => cases h)
  | (match k', h' with
     | 0, h' => cases h'
     | 1, h' => cases h'
     | 2, h' => cases h'
     | _ + 3, h' => cases h')
  | (match k, h with
     | 0, h => cases h
     | 1, h => cases h
     | 2, h => cases h
     | _ + 3, h => cases h)
theorem yfq : ∀ {ks : List Nat} {a b : List AV} {r : Bool}, yx ks a b = some r → (r = true ↔ a = b)
 | [], [], [], r, h => by
  simp only [yx] at h
  injection h with h
  subst h
  simp
 | k :: ks, x :: xs, y :: ys, r, h => by
  simp only [yx] at h
  split at h
  ·rename_i p q h1 h2
   injection h with h
   subst h
   have e1 := yf0 h1
   have e2 := yfq h2
   rw [zc, e1, e2, List.cons.injEq]
  ·cases h
 | [], [], _ :: _, _, h | [], _ :: _, _, _, h | _ :: _, [], _, _, h | _ :: _, _ :: _, [], _, h => by simp [yx] at h
theorem ye3 : ∀ {ks ks' : List Nat} {a q : List AV} {r : Bool}, yx ks a a = some true → yx ks' a q = some r → yx ks a q = some r
 | [], [], [], [], r, _, h => h
 | k :: ks, k' :: ks', x :: xs, y :: ys, r, h, h' => by
  simp only [yx] at h h'
  split at h
  ·rename_i p q h1 h2
   injection h with h
   rw [zc] at h
   rw [h.1] at h1
   rw [h.2] at h2
   split at h'
   ·rename_i p' q' h3 h4
    rw [yx, yis h1 h3, ye3 h2 h4]
    exact h'
   ·cases h'
  ·cases h
 | [], _, _ :: _, _, _, h, _ | _ :: _, _, [], _, _, h, _ => by simp [yx] at h
 | [], _ :: _, [], _, _, _, h | [], [], [], _ :: _, _, _, h | _ :: _, [], _ :: _, _, _, _, h | _ :: _, _ :: _, _ :: _, [], _, _, h => by simp [yx] at h
theorem y6c {agg : Bool} {ks : List Nat} {a b : AV} {r : Bool} (h : y2f agg ks a b = some r) : r = true ↔ a = b := by
 unfold y2f at h
 split at h
 ·split at h
  ·rw [yfq h, AV.agg.injEq]
  ·cases h
 ·split at h
  ·exact yf0 h
  ·cases h
theorem ylt {k : Nat} {x : List AV} {b : AV} : y21 k (.agg x) b = none := by
 match k with
 | 0 => rfl
 | 1 => rfl
 | 2 => rfl
 | _ + 3 => rfl
theorem y68 {ks : List Nat} {a b : AV} {r : Bool} (h : y2f true ks a b = some r) : ∃ x y, a = .agg x ∧ b = .agg y ∧ yx ks x y = some r := by
 unfold y2f at h
 simp only [if_true] at h
 split at h
 ·exact ⟨_, _, rfl, rfl, h⟩
 ·cases h
theorem y4x {ks : List Nat} {a b : AV} {r : Bool} (h : y2f false ks a b = some r) : ∃ k, ks = [k] ∧ y21 k a b = some r := by
 unfold y2f at h
 simp only [zp, if_false] at h
 split at h
 ·exact ⟨_, rfl, h⟩
 ·cases h
theorem ykd {agg agg' : Bool} {ks ks' : List Nat} {a q : AV} {r : Bool} (h : y2f agg ks a a = some true) (h' : y2f agg' ks' a q = some r) : y2f agg ks a q = some r := by
 cases agg with
 | true =>
  obtain ⟨x, y, e1, e2, h1⟩ := y68 h
  rw [e1] at e2
  injection e2 with e2
  subst e2; subst e1
  cases agg' with
  | true =>
   obtain ⟨x', y', e3, e4, h2⟩ := y68 h'
   injection e3 with e3
   subst e3; subst e4
   exact ye3 h1 h2
  | false =>
   obtain ⟨k, _, h2⟩ := y4x h'
   rw [ylt] at h2
   cases h2
 | false =>
  obtain ⟨k, e1, h1⟩ := y4x h
  subst e1
  cases agg' with
  | true =>
   obtain ⟨x', y', e3, e4, h2⟩ := y68 h'
   subst e3
   rw [ylt] at h1
   cases h1
  | false =>
   obtain ⟨k', e2, h2⟩ := y4x h'
   exact yis h1 h2
def y2d7 (a : AV) : Prop := ∃ agg ks, y2f agg ks a a = some true
theorem yiv {k : Nat} {a b : AV} {r : Bool} (h : y21 k a b = some r) : y21 k a a = some true ∧ y21 k b b = some true := by
 unfold y21 at h
 split at h
 ·exact ⟨by simp [y21], by simp [y21]⟩
 ·exact ⟨by simp [y21], by simp [y21]⟩
 ·exact ⟨by simp [y21], by simp [y21]⟩
 ·cases h
theorem yd9 : ∀ {ks : List Nat} {a b : List AV} {r : Bool}, yx ks a b = some r → yx ks a a = some true ∧ yx ks b b = some true
 | [], [], [], r, h => ⟨rfl, rfl⟩
 | k :: ks, x :: xs, y :: ys, r, h => by
  simp only [yx] at h
  split at h
  ·rename_i p q h1 h2
   obtain ⟨a1, a2⟩ := yiv h1
   obtain ⟨b1, b2⟩ := yd9 h2
   exact ⟨by rw [yx, a1, b1]; rfl, by rw [yx, a2, b2]; rfl⟩
  ·cases h
 | [], [], _ :: _, _, h | [], _ :: _, _, _, h | _ :: _, [], _, _, h | _ :: _, _ :: _, [], _, h => by simp [yx] at h
theorem y15y {agg : Bool} {ks : List Nat} {a b : AV} {r : Bool} (h : y2f agg ks a b = some r) : y2d7 a ∧ y2d7 b := by
 cases agg with
 | true =>
  obtain ⟨x, y, rfl, rfl, h1⟩ := y68 h
  obtain ⟨a1, a2⟩ := yd9 h1
  exact ⟨⟨true, ks, a1⟩, ⟨true, ks, a2⟩⟩
 | false =>
  obtain ⟨k, rfl, h1⟩ := y4x h
  obtain ⟨a1, a2⟩ := yiv h1
  exact ⟨⟨false, [k], a1⟩, ⟨false, [k], a2⟩⟩
theorem ywq {v : Value} {a b : AV} {k : Nat} {r : Bool} (h1 : Rep nm w F m G v a) (h2 : Rep nm w F m G v b) (hr : y21 k a b = some r) : r = true := by
 rw [yf0 hr]
 unfold y21 at hr
 split at hr
 ·have e1 := h1.int_inv
  have e2 := h2.int_inv
  rw [e1] at e2
  injection e2 with e3 e4
  rw [e3, e4]
 ·have e1 := h1.bool_inv
  have e2 := h2.bool_inv
  rw [e1] at e2
  injection e2 with e3
  rw [e3]
 ·obtain ⟨x, e1, f1⟩ := h1.str_inv
  obtain ⟨y, e2, f2⟩ := h2.str_inv
  rw [e1] at e2
  injection e2 with e3
  rw [← f1, ← f2, e3]
 ·cases hr
theorem y12i {v u : Value} {a : AV} {k : Nat} {r : Bool} (h1 : Rep nm w F m G v a) (h2 : Rep nm w F m G u a) (hr : y21 k a a = some r) : v = u := by
 unfold y21 at hr
 split at hr
 ·rw [h1.int_inv, h2.int_inv]
 ·rw [h1.bool_inv, h2.bool_inv]
 ·obtain ⟨x, e1, f1⟩ := h1.str_inv
  obtain ⟨y, e2, f2⟩ := h2.str_inv
  rw [e1, e2]
  have : x.data = y.data := by
   apply Array.toList_inj.1
   rw [f1, f2]
  cases x; cases y
  simp at this
  rw [this]
 ·cases hr
theorem ym3 : ∀ {ks : List Nat} {vs : List Value} {as bs : List AV} {r : Bool}, vs.length = as.length → vs.length = bs.length → (∀ (j : Nat) (v : Value) (l : AV), vs[j]? = some v → as[j]? = some l → Rep nm w F m G v l) →
  (∀ (j : Nat) (v : Value) (l : AV), vs[j]? = some v → bs[j]? = some l → Rep nm w F m G v l) → yx ks as bs = some r → r = true
 | [], [], [], [], r, _, _, _, _, h => by
  simp only [yx] at h
  injection h with h
  exact h.symm
 | k :: ks, v :: vs, a :: as, b :: bs, r, hl, hl', h1, h2, h => by
  simp only [yx] at h
  split at h
  ·rename_i p q e1 e2
   injection h with h
   subst h
   rw [ywq (h1 0 v a rfl rfl) (h2 0 v b rfl rfl) e1, ym3 (by simpa using hl) (by simpa using hl') (fun j x l c d => h1 (j + 1) x l (by simpa using c) (by simpa using d)) (fun j x l c d => h2 (j + 1) x l (by simpa using c) (by simpa using d)) e2]
   rfl
  ·cases h
 | _, [], _ :: _, _, _, h, _, _, _, _ | _, _ :: _, [], _, _, h, _, _, _, _ => by cases h
 | _, [], [], _ :: _, _, _, h, _, _, _ | _, _ :: _, _ :: _, [], _, _, h, _, _, _ => by cases h
 | [], _ :: _, _ :: _, _ :: _, _, _, _, _, _, h | _ :: _, [], [], [], _, _, _, _, _, h => by simp [yx] at h
theorem ykp : ∀ {ks : List Nat} {vs us : List Value} {as : List AV} {r : Bool}, vs.length = as.length → us.length = as.length → (∀ (j : Nat) (v : Value) (l : AV), vs[j]? = some v → as[j]? = some l → Rep nm w F m G v l) →
  (∀ (j : Nat) (v : Value) (l : AV), us[j]? = some v → as[j]? = some l → Rep nm w F m G v l) → yx ks as as = some r → vs = us
 | _, [], [], [], _, _, _, _, _, _ => rfl
 | k :: ks, v :: vs, u :: us, a :: as, r, hl, hl', h1, h2, h => by
  simp only [yx] at h
  split at h
  ·rename_i p q e1 e2
   have e3 : v = u := y12i (h1 0 v a rfl rfl) (h2 0 u a rfl rfl) e1
   have e4 : vs = us := ykp (by simpa using hl) (by simpa using hl') (fun j x l c d => h1 (j + 1) x l (by simpa using c) (by simpa using d)) (fun j x l c d => h2 (j + 1) x l (by simpa using c) (by simpa using d)) e2
   rw [e3, e4]
  ·cases h
 | _, [], _, _ :: _, _, h, _, _, _, _ | _, _ :: _, _, [], _, h, _, _, _, _ => by cases h
 | _, _, [], _ :: _, _, _, h, _, _, _ | _, _, _ :: _, [], _, _, h, _, _, _ => by cases h
 | [], _ :: _, _ :: _, _ :: _, _, _, _, _, _, h => by simp [yx] at h
theorem ycl {v u : Value} {a b : AV} {agg : Bool} {ks : List Nat} {r : Bool} (h1 : Rep nm w F m G v a) (h2 : Rep nm w F m G u b) (hr : y2f agg ks a b = some r) : r = true ↔ v = u := by
 constructor
 ·intro e
  have hab := (y6c hr).1 e
  subst hab
  cases agg with
  | true =>
   obtain ⟨x, y, e1, e2, h3⟩ := y68 hr
   rw [e1] at e2
   injection e2 with e2
   subst e2; subst e1
   obtain ⟨vs, rfl, n1, r1⟩ := h1.agg_inv
   obtain ⟨us, rfl, n2, r2⟩ := h2.agg_inv
   have := ykp (vs := vs.toList) (us := us.toList) (by simpa using n1) (by simpa using n2) (fun j x l c d => r1 j x l (by simpa using c) d) (fun j x l c d => r2 j x l (by simpa using c) d) h3
   rw [Array.toList_inj.1 this]
  | false =>
   obtain ⟨k, _, h3⟩ := y4x hr
   exact y12i h1 h2 h3
 ·intro e
  subst e
  cases agg with
  | true =>
   obtain ⟨x, y, e1, e2, h3⟩ := y68 hr
   subst e1; subst e2
   obtain ⟨vs, e1, n1, r1⟩ := h1.agg_inv
   obtain ⟨us, e2, n2, r2⟩ := h2.agg_inv
   rw [e1] at e2
   injection e2 with e2
   subst e2
   exact ym3 (vs := vs.toList) (by simpa using n1) (by simpa using n2) (fun j x l c d => r1 j x l (by simpa using c) d) (fun j x l c d => r2 j x l (by simpa using c) d) h3
  | false =>
   obtain ⟨k, _, h3⟩ := y4x hr
   exact ywq h1 h2 h3
def y4n (B : MapEntry → Bool) : List MapEntry → Nat → Option (Nat × Value)
 | [], _ => none
 | e :: l, i => if B e then some (i, e.val) else y4n B l (i + 1)
theorem y60 {B : MapEntry → Bool} : ∀ {l : List MapEntry} {i : Nat}, (∀ e ∈ l, B e = false) → y4n B l i = none
 | [], _, _ => rfl
 | e :: l, i, h => by rw [y4n, h e (by simp), if_neg zv, y60 fun x hx => h x (by simp [hx])]
theorem yhy {B : MapEntry → Bool} : ∀ {l : List MapEntry} {i : Nat}, (∃ e ∈ l, B e = true) → ∃ j e, y4n B l i = some (i + j, e.val) ∧ l[j]? = some e ∧ B e = true
 | [], _, h => by obtain ⟨e, h, _⟩ := h; cases h
 | e :: l, i, h => by
  by_cases hb : B e = true
  ·exact ⟨0, e, by rw [y4n, if_pos hb]; rfl, rfl, hb⟩
  ·obtain ⟨x, hx, hx2⟩ := h
   rcases zq.1 hx with rfl | hx
   ·exact (hb hx2).elim
   ·obtain ⟨j, y, h1, h2, h3⟩ := yhy (i := i + 1) ⟨x, hx, hx2⟩
    exact ⟨j + 1, y, by rw [y4n, if_neg hb, h1]; congr 2; omega, by simpa using h2, h3⟩
theorem yfv {t k : Nat} (ht : yat P t = some k) : ∃ d, P.underlying t = some d := by
 unfold yat at ht
 cases hu : P.underlying t with
 | none => rw [hu] at ht; cases ht
 | some d => exact ⟨d, rfl⟩
open Classical in
theorem y66 {t : Nat} {agg : Bool} {ks : List Nat} {v : Value} {a : AV} (hk : yj3 P t agg ks = true) (hv : Rep nm w F m G v a) (l : List MapEntry)
  (hl : ∀ e ∈ l, ∃ b, Rep nm w F m G e.key b ∧ y2f agg ks a b = some (decide (v = e.key))) : (Instr.findKey t v l).run P w = .ok (y4n (fun e => decide (v = e.key)) l 0) w := by
 unfold yj3 at hk
 split at hk
 ·rename_i ha
  subst ha
  have hk' := hk
  unfold y7g at hk
  split at hk
  ·rename_i fs hx
   have ask : ∀ (l : List MapEntry) (i : Nat), (∀ e ∈ l, ∃ b, Rep nm w F m G e.key b ∧ y2f true ks a b = some (decide (v = e.key))) → (Instr.findAsking t v l i).run P w = .ok (y4n (fun e => decide (v = e.key)) l i) w := by
    intro l
    induction l with
    | nil => intro i _; simp [Instr.findAsking, y4n]
    | cons e l ih =>
     intro i h
     obtain ⟨b, hb, hq⟩ := h e (by simp)
     have ih' := ih (i + 1) fun x hx => h x (by simp [hx])
     have hq' := hq
     unfold y2f at hq
     simp only [if_true] at hq
     split at hq
     ·rename_i xs ys
      obtain ⟨vs, rfl, hv2⟩ := LRep.of_agg hv
      obtain ⟨us, hus, hu2⟩ := LRep.of_agg hb
      rw [hus] at hq
      have heq := yuh (P := P) (d := 9998) (d1 := 9999) rfl hk' hv2 hu2 hq
      rw [← ymy] at heq
      simp only [Instr.findAsking, Sem.run_bind, hus, heq, Result.andThen_ok, y4n]
      by_cases e1 : (Value.agg vs) = .agg us
      ·simp [e1]
      ·simp only [e1, decide_false, zp, if_false]
       exact ih'
     ·cases hq
   cases l with
   | nil => simp [Instr.findKey, yf hx, Instr.findNow, y4n]
   | cons e l =>
    obtain ⟨b, hb, hq⟩ := hl e (by simp)
    have hn : Instr.findNow (.struct fs) v (e :: l) 0 = none := by
     simp only [Instr.findNow]
     have : Instr.sameNow (.struct fs) v e.key = none := rfl
     rw [this]
    simp only [Instr.findKey, Sem.run_bind, yf hx, Result.andThen_ok, hn]
    exact ask _ 0 hl
  ·cases hk
 ·rename_i ha
  have ha : agg = false := by simpa using ha
  subst ha
  split at hk
  ·rename_i k
   have hkk : yat P t = some k := by simpa using hk
   obtain ⟨d, hd⟩ := yfv hkk
   have now : ∀ (l : List MapEntry) (i : Nat), (∀ e ∈ l, ∃ b, Rep nm w F m G e.key b ∧ y2f false [k] a b = some (decide (v = e.key))) → Instr.findNow d v l i = some (y4n (fun e => decide (v = e.key)) l i) := by
    intro l
    induction l with
    | nil => intro i _; rfl
    | cons e l ih =>
     intro i h
     obtain ⟨b, hb, hq⟩ := h e (by simp)
     have hs := (ynx hd hkk hv hb (show y21 k a b = some _ from hq)).1
     have ih' := ih (i + 1) fun x hx => h x (by simp [hx])
     simp only [Instr.findNow, hs, y4n]
     by_cases e1 : v = e.key
     ·simp [e1]
     ·simp [e1, ih']
   simp [Instr.findKey, yf hd, now l 0 hl]
  ·cases hk
def midx (agg : Bool) (ks : List Nat) (a : AV) : List (AV × AV) → Nat → Option (Option Nat)
 | [], _ => if y58 agg ks a then some none else none
 | e :: r, i => match y2f agg ks a e.1 with
  | some true => some (some i)
  | some false => midx agg ks a r (i + 1)
  | none => none
theorem y69 {agg : Bool} {ks : List Nat} {a : AV} : ∀ {es : List (AV × AV)} {i : Nat}, midx agg ks a es i = some none → ∀ p ∈ es, y2f agg ks a p.1 = some false
 | [], _, _, p, hp => by cases hp
 | e :: r, i, h, p, hp => by
  simp only [midx] at h
  split at h
  ·cases h
  ·rename_i he
   rcases zq.1 hp with rfl | hp
   ·exact he
   ·exact y69 h p hp
  ·cases h
theorem y5z {agg : Bool} {ks : List Nat} {a : AV} : ∀ {es : List (AV × AV)} {i j : Nat}, midx agg ks a es i = some (some j) → ∃ k p, j = i + k ∧ es[k]? = some p ∧ y2f agg ks a p.1 = some true
 | [], _, _, h => by
  simp only [midx] at h
  split at h
  ·injection h with h; cases h
  ·cases h
 | e :: r, i, j, h => by
  simp only [midx] at h
  split at h
  ·rename_i he
   injection h with h
   injection h with h
   exact ⟨0, e, h.symm, rfl, he⟩
  ·obtain ⟨k, p, h1, h2, h3⟩ := y5z h
   exact ⟨k + 1, p, by omega, by simpa using h2, h3⟩
  ·cases h
theorem yhi {agg : Bool} {ks : List Nat} {a : AV} : ∀ (es : List (AV × AV)) (i : Nat) (r : Option AV), mfind agg ks a es = some r → ∃ o, midx agg ks a es i = some o ∧ ((o = none ∧ r = none) ∨ ∃ j p, o = some (i + j) ∧ es[j]? = some p ∧ r = some p.2)
 | [], i, r, h => by
  simp only [mfind] at h
  split at h
  ·rename_i hs
   injection h with h
   exact ⟨none, by rw [midx, if_pos hs], .inl ⟨rfl, h.symm⟩⟩
  ·cases h
 | (k', v') :: es, i, r, h => by
  simp only [mfind] at h
  simp only [midx]
  cases hle : y2f agg ks a k' with
  | none => rw [hle] at h; cases h
  | some b =>
   rw [hle] at h
   cases b with
   | true =>
    injection h with h
    exact ⟨some i, rfl, .inr ⟨0, (k', v'), rfl, rfl, h.symm⟩⟩
   | false =>
    obtain ⟨o, h1, h2⟩ := yhi es (i + 1) r h
    refine ⟨o, h1, ?_⟩
    rcases h2 with h2 | ⟨j, p, h3, h4, h5⟩
    ·exact .inl h2
    ·exact .inr ⟨j + 1, p, by rw [h3]; congr 1; omega, h4, h5⟩
theorem ymz {agg : Bool} {ks : List Nat} {a v : AV} : ∀ (es : List (AV × AV)) (i : Nat) (r : List (AV × AV)), mset agg ks a v es = some r →
  ∃ o, midx agg ks a es i = some o ∧ ((o = none ∧ r = es ++ [(a, v)]) ∨ ∃ j, o = some (i + j) ∧ j < es.length ∧ r = es.set j (a, v))
 | [], i, r, h => by
  simp only [mset] at h
  split at h
  ·rename_i hs
   injection h with h
   exact ⟨none, by rw [midx, if_pos hs], .inl ⟨rfl, h.symm⟩⟩
  ·cases h
 | (k', v') :: es, i, r, h => by
  simp only [mset] at h
  simp only [midx]
  cases hle : y2f agg ks a k' with
  | none => rw [hle] at h; cases h
  | some b =>
   rw [hle] at h
   cases b with
   | true =>
    injection h with h
    exact ⟨some i, rfl, .inr ⟨0, rfl, by simp, h.symm⟩⟩
   | false =>
    simp only [Option.map_eq_some_iff] at h
    obtain ⟨r', h0, rfl⟩ := h
    obtain ⟨o, h1, h2⟩ := ymz es (i + 1) r' h0
    refine ⟨o, h1, ?_⟩
    rcases h2 with ⟨h2, h3⟩ | ⟨j, h3, h4, h5⟩
    ·exact .inl ⟨h2, by rw [h3]; rfl⟩
    ·exact .inr ⟨j + 1, by rw [h3]; congr 1; omega, by simp; omega, by rw [h5]; rfl⟩
theorem yha {agg : Bool} {ks : List Nat} {a : AV} : ∀ (es : List (AV × AV)) (i : Nat) (r : List (AV × AV)), mdrop agg ks a es = some r →
  ∃ o, midx agg ks a es i = some o ∧ ((o = none ∧ r = es) ∨ ∃ j, o = some (i + j) ∧ j < es.length ∧ r = es.eraseIdx j)
 | [], i, r, h => by
  simp only [mdrop] at h
  split at h
  ·rename_i hs
   injection h with h
   exact ⟨none, by rw [midx, if_pos hs], .inl ⟨rfl, h.symm⟩⟩
  ·cases h
 | (k', v') :: es, i, r, h => by
  simp only [mdrop] at h
  simp only [midx]
  cases hle : y2f agg ks a k' with
  | none => rw [hle] at h; cases h
  | some b =>
   rw [hle] at h
   cases b with
   | true =>
    injection h with h
    exact ⟨some i, rfl, .inr ⟨0, rfl, by simp, h.symm⟩⟩
   | false =>
    simp only [Option.map_eq_some_iff] at h
    obtain ⟨r', h0, rfl⟩ := h
    obtain ⟨o, h1, h2⟩ := yha es (i + 1) r' h0
    refine ⟨o, h1, ?_⟩
    rcases h2 with ⟨h2, h3⟩ | ⟨j, h3, h4, h5⟩
    ·exact .inl ⟨h2, by rw [h3]⟩
    ·exact .inr ⟨j + 1, by rw [h3]; congr 1; omega, by simp; omega, by rw [h5]; rfl⟩
theorem yjw {es : List (AV × AV)} (hp : es.Pairwise KR) {i j : Nat} {p q : AV × AV} (h1 : es[i]? = some p) (h2 : es[j]? = some q) (hne : i ≠ j) : p.1 ≠ q.1 ∧ ∃ agg ks r, y2f agg ks p.1 q.1 = some r := by
 have li := (zb.1 h1)
 have lj := (zb.1 h2)
 obtain ⟨li, e1⟩ := li
 obtain ⟨lj, e2⟩ := lj
 have key := List.pairwise_iff_getElem.1 hp
 rcases Nat.lt_or_gt_of_ne hne with hlt | hlt
 ·have := key i j li lj hlt
  rw [e1, e2] at this
  exact this
 ·have := key j i lj li hlt
  rw [e1, e2] at this
  obtain ⟨a1, agg, ks, r, a2⟩ := this
  refine ⟨fun e => a1 e.symm, agg, ks, r, ?_⟩
  have hs : ∀ {a b : AV}, y2f agg ks a b = some r → y2f agg ks b a = some r := by
   intro a b hab
   unfold y2f at hab ⊢
   have leafs : ∀ {k : Nat} {a b : AV} {r : Bool}, y21 k a b = some r → y21 k b a = some r := by
    intro k a b r h
    unfold y21 at h
    split at h
    ·split at h
     ·rename_i e
      subst e
      simp only [y21, if_true]
      rw [← h]
      congr 1
      exact Bool.beq_comm
     ·cases h
    ·simp only [y21]
     rw [← h]
     congr 1
     exact Bool.beq_comm
    ·simp only [y21]
     rw [← h]
     congr 1
     exact Bool.beq_comm
    ·cases h
   have leavess : ∀ {ks : List Nat} {a b : List AV} {r : Bool}, yx ks a b = some r → yx ks b a = some r := by
    intro ks
    induction ks with
    | nil => intro a b r h; cases a <;> cases b <;> simp [yx] at h ⊢; exact h
    | cons k ks ih =>
     intro a b r h
     cases a with
     | nil => simp [yx] at h
     | cons x xs =>
      cases b with
      | nil => simp [yx] at h
      | cons y ys =>
       simp only [yx] at h ⊢
       split at h
       ·rename_i p q e1 e2
        rw [leafs e1, ih e2]
        exact h
       ·cases h
   split at hab
   ·split at hab
    ·simp only [*, if_true]
     exact leavess hab
    ·cases hab
   ·rename_i hag
    simp only [hag, zp, if_false]
    split at hab
    ·exact leafs hab
    ·cases hab
  exact hs a2
open Classical in
theorem yeu {v : Value} {a : AV} {agg : Bool} {ks : List Nat} {mes : Array MapEntry} {clock : Nat} {es : List (AV × AV)} {o : Option Nat} (hv : Rep nm w F m G v a) (M : y5i (Rep nm w F m G) mes clock es) (ho : midx agg ks a es 0 = some o) :
  ∀ e ∈ mes.toList, ∃ b, Rep nm w F m G e.key b ∧ y2f agg ks a b = some (decide (v = e.key)) := by
 obtain ⟨ms, h1, h2, h3, _⟩ := M
 intro e he
 obtain ⟨i, hi⟩ := zz (h1.mem_iff.2 he)
 have hil : i < es.length := by rw [← h2.length]; exact (zb.1 hi).1
 have hp : es[i]? = some es[i] := z9 hil
 have hr := (h2.get hi hp).1
 refine ⟨es[i].1, hr, ?_⟩
 have fin : ∀ {r : Bool}, y2f agg ks a es[i].1 = some r → y2f agg ks a es[i].1 = some (decide (v = e.key)) := by
  intro r hq
  rw [hq]
  have := ycl hv hr hq
  congr 1
  cases r with
  | true => exact (decide_eq_true (this.1 rfl)).symm
  | false => exact (decide_eq_false (fun h => zv (this.2 h))).symm
 cases o with
 | none => exact fin (y69 ho _ (z1n hil))
 | some j =>
  obtain ⟨k, p, hj, hk, hq⟩ := y5z ho
  by_cases e1 : k = i
  ·subst e1
   rw [hp] at hk
   injection hk with hk
   rw [← hk] at hq
   exact fin hq
  ·obtain ⟨_, agg', ks', r, hr'⟩ := yjw h3 hk hp e1
   have hap := (y6c hq).1 rfl
   rw [hap] at hq
   rw [← hap] at hr' hq
   exact fin (ykd hq hr')
theorem ybk {t k : Nat} {empty : Bool} {n : Nat} {v : Value} (ht : yat P t = some k) : (Instr.checkKey empty (n + 1) t v).run P w = .ok () w := by
 obtain ⟨d, hd⟩ := yfv ht
 unfold yat at ht
 rw [hd] at ht
 simp only [Instr.checkKey, Sem.run_bind, yf hd, Result.andThen_ok]
 split at ht
 ·rename_i k0 hx; injection hx with hx; subst hx; rfl
 ·rename_i hx; injection hx with hx; subst hx; rfl
 ·rename_i hx; injection hx with hx; subst hx; rfl
 ·cases ht
theorem y4g {t : Nat} {agg : Bool} {ks : List Nat} {v : Value} {a : AV} {empty : Bool} {n : Nat} (hk : yj3 P t agg ks = true) (hv : Rep nm w F m G v a) (ha : agg = true → ∃ cs, a = .agg cs ∧ ks.length = cs.length) :
  (Instr.checkKey empty (n + 2) t v).run P w = .ok () w := by
 unfold yj3 at hk
 split at hk
 ·rename_i hag
  obtain ⟨cs, rfl, hcl⟩ := ha hag
  obtain ⟨vs, rfl, hvn, _⟩ := hv.agg_inv
  unfold y7g at hk
  split at hk
  ·rename_i fs hx
   simp only [zc, z1u] at hk
   have key : ∀ (l : List Field) (k : Nat) (ks : List Nat), y5x P l k ks = true → k + ks.length ≤ vs.size →
     (forIn l () (fun f (_ : Unit) => (if f.name ≠ "_" then do
       let __do_lift ← part f.type vs f.offset
       Instr.checkKey empty (n + 1) f.type __do_lift
       pure (ForInStep.yield ())
      else pure (ForInStep.yield ()) : Sem (ForInStep Unit)))).run P w = .ok () w := by
    intro l
    induction l with
    | nil => intro k ks _ _; simp
    | cons f l ih =>
     intro k ks hf hle
     cases ks with
     | nil => cases hf
     | cons k0 ks =>
      simp only [y5x, zc, bne_iff_ne, ne_eq, beq_iff_eq] at hf
      obtain ⟨⟨⟨⟨⟨f1, f2⟩, f3⟩, f4⟩, f5⟩, f6⟩ := hf
      simp only [List.length_cons] at hle
      have hlt : f.offset < vs.size := by omega
      have hp1 : (part f.type vs f.offset).run P w = .ok vs[f.offset] w := yhf f5 (z1c hlt)
      have hc := ybk (P := P) (w := w) (empty := empty) (n := n) (v := vs[f.offset]) f3
      rw [List.forIn_cons, Sem.run_bind, if_pos f1]
      simp only [Sem.run_bind, hp1, Result.andThen_ok, hc, Sem.run_pure]
      exact ih (k + 1) ks f6 (by omega)
   have := key fs.toList 0 ks hk.1 (by omega)
   rw [Instr.checkKey]
   simp only [Sem.run_bind, yf hx, Result.andThen_ok]
   rw [← Array.forIn_toList, this]
   rfl
  ·cases hk
 ·split at hk
  ·exact ybk (by simpa using hk)
  ·cases hk
theorem ygx {agg : Bool} {ks : List Nat} {a b : AV} {r : Bool} (h : y2f agg ks a b = some r) : agg = true → ∃ cs, a = .agg cs ∧ ks.length = cs.length := by
 intro e
 subst e
 unfold y2f at h
 simp only [if_true] at h
 split at h
 ·rename_i x y
  refine ⟨x, rfl, ?_⟩
  have key : ∀ {ks : List Nat} {x y : List AV} {r : Bool}, yx ks x y = some r → ks.length = x.length := by
   intro ks
   induction ks with
   | nil => intro x y r h; cases x <;> cases y <;> simp [yx] at h ⊢
   | cons k ks ih =>
    intro x y r h
    cases x with
    | nil => simp [yx] at h
    | cons a x =>
     cases y with
     | nil => simp [yx] at h
     | cons b y =>
      simp only [yx] at h
      split at h
      ·rename_i p q e1 e2
       rw [zl, zl, ih e2]
      ·cases h
  exact key h
 ·cases h
theorem yms {agg : Bool} {ks : List Nat} {a : AV} (hs : y58 agg ks a = true) : agg = true → ∃ cs, a = .agg cs ∧ ks.length = cs.length := by
 intro e
 subst e
 unfold y58 at hs
 simp only [z1w, z1x] at hs
 split at hs
 ·rename_i cs
  exact ⟨cs, rfl, (beq_iff_eq.1 hs).symm⟩
 ·cases hs
theorem y76 {agg : Bool} {ks : List Nat} {a : AV} {es : List (AV × AV)} {i : Nat} {o : Option Nat} (h : midx agg ks a es i = some o) : agg = true → ∃ cs, a = .agg cs ∧ ks.length = cs.length := by
 cases es with
 | nil =>
  intro e
  subst e
  simp only [midx] at h
  split at h
  ·rename_i hs
   unfold y58 at hs
   simp only [z1w, z1x] at hs
   split at hs
   ·rename_i cs
    exact ⟨cs, rfl, (beq_iff_eq.1 hs).symm⟩
   ·cases hs
  ·cases h
 | cons p es =>
  simp only [midx] at h
  split at h
  ·rename_i hq; exact ygx hq
  ·rename_i hq; exact ygx hq
  ·cases h
open Classical in
theorem y6e {v : Value} {a : AV} {agg : Bool} {ks : List Nat} {mes : Array MapEntry} {es : List (AV × AV)} {ms : List MapEntry} (hv : Rep nm w F m G v a)
  (h1 : ms.Perm mes.toList) (h2 : All2 (fun e p => Rep nm w F m G e.key p.1 ∧ Rep nm w F m G e.val p.2) ms es) (h3 : es.Pairwise KR) {j : Nat} {p : AV × AV} (hj : es[j]? = some p) (hq : y2f agg ks a p.1 = some true) :
  ∃ i e, y4n (fun e => decide (v = e.key)) mes.toList 0 = some (i, e.val) ∧ mes[i]? = some e ∧ ms[j]? = some e ∧ v = e.key := by
 have hjl : j < ms.length := by rw [h2.length]; exact (zb.1 hj).1
 have he0 : ms[j]? = some ms[j] := z9 hjl
 have hk0 := (ycl hv (h2.get he0 hj).1 hq).1 rfl
 obtain ⟨i, e, f1, f2, f3⟩ := yhy (B := fun e => decide (v = e.key)) (l := mes.toList) (i := 0) ⟨ms[j], h1.mem_iff.1 (z1n hjl), decide_eq_true hk0⟩
 have hve : v = e.key := by simpa using f3
 refine ⟨i, e, by rw [f1, zd], by simpa using f2, ?_, hve⟩
 obtain ⟨j2, hj2⟩ := zz (h1.mem_iff.2 (zs f2))
 by_cases e1 : j = j2
 ·rw [e1]; exact hj2
 ·have hl2 : j2 < es.length := by rw [← h2.length]; exact (zb.1 hj2).1
  have hp2 : es[j2]? = some es[j2] := z9 hl2
  obtain ⟨a1, agg', ks', r, a2⟩ := yjw h3 hj hp2 e1
  have hap := (y6c hq).1 rfl
  rw [← hap] at a1 a2 hq
  have hk2 := ykd hq a2
  have := (ycl hv (h2.get hj2 hp2).1 hk2).2 hve
  subst this
  exact (a1 ((y6c hk2).1 rfl)).elim
open Classical in
theorem y17e (I : Inv nm w F m h) {t kt e : Nat} {agg : Bool} {ks : List Nat} {zero : AV} {ok : Bool} {v u : Value} {va ua r : AV} {i : TypeInfo} {z : Value} (hu : P.underlying t = some (.map kt e)) (hk : yj3 P kt agg ks = true)
  (hi : P.info? e = some i) (hz : i.zero = some z) (hmz : yr0 z zero = true) (hv : Rep nm w F m (gens h) v va) (hkv : Rep nm w F m (gens h) u ua) (hr : y2z agg ks zero ok va ua h = some r) :
  ∃ x, (Instr.lookup t v u ok).run P w = .ok x w ∧ Rep nm w F m (gens h) x r := by
 unfold y2z at hr
 split at hr
 ·cases hr
 ·rename_i es hes
  have hent : ∃ (mes : Array MapEntry) (clock : Nat), ((v = .map none ∧ mes = #[]) ∨ ∃ r, v = .map (some r) ∧ w.heap[r]? = some (.map mes clock)) ∧ y5i (Rep nm w F m (gens h)) mes clock es := by
   split at hes
   ·injection hes with hes
    subst hes
    exact ⟨#[], 0, .inl ⟨hv.nilm_inv, rfl⟩, [], .refl _, trivial, .nil, fun e h => (by cases h), .nil⟩
   ·rename_i es'
    injection hes with hes
    subst hes
    obtain ⟨r, mes, clock, hvr, _, hh, hM⟩ := hv.rm_inv
    exact ⟨mes, clock, .inr ⟨r, hvr, hh⟩, hM.mono fun _ _ h => .pure h⟩
   ·rename_i id g
    split at hes
    ·rename_i es2 hk2
     injection hes with hes
     subst hes
     obtain ⟨loc, hm, mes, hh, hM⟩ := y79 I hk2
     exact ⟨mes, loc.pin, .inr ⟨loc.blk, hv.lm_at hm, hh⟩, hM⟩
    ·simp only [Option.map_eq_some_iff] at hes
     obtain ⟨⟨fz, es'⟩, h1, h2⟩ := hes
     simp only at h2
     subst h2
     obtain ⟨loc, hm, mes, clock, hh, hM⟩ := y61 I h1
     exact ⟨mes, clock, .inr ⟨loc.blk, hv.lm_at hm, hh⟩, hM⟩
   ·cases hes
  obtain ⟨mes, clock, hmes, hM⟩ := hent
  have hhead : ∀ o : Option Nat, midx agg ks ua es 0 = some o → (Instr.lookup t v u ok).run P w =
    .ok (if ok then .tuple #[(match y4n (fun e => decide (u = e.key)) mes.toList 0 with | some (_, v) => v | none => z), .bool (y4n (fun e => decide (u = e.key)) mes.toList 0).isSome] else (match y4n (fun e => decide (u = e.key)) mes.toList 0 with | some (_, v) => v | none => z)) w := by
   intro o ho
   have hck := fun b => y4g (P := P) (w := w) (empty := b) (n := 9998) hk hkv (y76 ho)
   have hfk := y66 (P := P) hk hkv mes.toList (yeu hkv hM ho)
   generalize y4n (fun e => decide (u = e.key)) mes.toList 0 = fi at *
   rcases hmes with ⟨rfl, rfl⟩ | ⟨r, rfl, hh⟩
   ·simp only [Instr.lookup, Sem.run_bind, yf hu, Result.andThen_ok, Sem.run_pure, hck, hfk]
    cases fi with
    | none => simp only [Sem.run_bind, y2u hi hz, Result.andThen_ok, Sem.run_pure]; rfl
    | some p => obtain ⟨j, x⟩ := p; simp only [Sem.run_bind, Result.andThen_ok, Sem.run_pure]; rfl
   ·simp only [Instr.lookup, Sem.run_bind, yf hu, Result.andThen_ok, Sem.run_pure, y3h hh, hck, hfk]
    cases fi with
    | none => simp only [Sem.run_bind, y2u hi hz, Result.andThen_ok, Sem.run_pure]; rfl
    | some p => obtain ⟨j, x⟩ := p; simp only [Sem.run_bind, Result.andThen_ok, Sem.run_pure]; rfl
  have two : ∀ (x : Value) (y : AV) (b : Bool), Rep nm w F m (gens h) x y → Rep nm w F m (gens h) (if ok then .tuple #[x, .bool b] else x) (if ok then .tup [y, .bool b] else y) := by
   intro x y b hrep
   cases ok with
   | false => exact hrep
   | true =>
    refine .tup _ _ rfl (fun k v l hv2 hl2 => ?_)
    cases k with
    | zero => simp at hv2 hl2; subst hv2; subst hl2; exact hrep
    | succ k =>
     cases k with
     | zero => simp at hv2 hl2; subst hv2; subst hl2; exact .pure (.bool _)
     | succ k => simp at hl2
  obtain ⟨ms, h1, h2, h3, h4⟩ := hM
  split at hr
  ·cases hr
  ·rename_i x hf
   injection hr with hr
   subst hr
   obtain ⟨o, ho, hx⟩ := yhi es 0 _ hf
   rcases hx with ⟨_, hx⟩ | ⟨j, p, e1, e2, e3⟩
   ·cases hx
   ·subst e1
    obtain ⟨k, p', e4, e5, e6⟩ := y5z ho
    have : k = j := by omega
    subst this
    obtain ⟨i', e, f1, f2, f3, f4⟩ := y6e hkv h1 h2 h3 e5 e6
    have hh := hhead _ ho
    rw [f1] at hh
    refine ⟨_, hh, ?_⟩
    rw [e2] at e5
    injection e5 with e5
    injection e3 with e3
    subst e5
    subst e3
    exact two _ _ _ (h2.get f3 e2).2
  ·rename_i hf
   injection hr with hr
   subst hr
   obtain ⟨o, ho, hx⟩ := yhi es 0 _ hf
   rcases hx with ⟨hx, _⟩ | ⟨j, p, _, _, e3⟩
   ·subst hx
    have hnone : y4n (fun e => decide (u = e.key)) mes.toList 0 = none := y60 fun e he => by
     obtain ⟨b, b1, b2⟩ := yeu hkv ⟨ms, h1, h2, h3, h4⟩ ho e he
     obtain ⟨i, hi⟩ := zz (h1.mem_iff.2 he)
     have hil : i < es.length := by rw [← h2.length]; exact (zb.1 hi).1
     have hp : es[i]? = some es[i] := z9 hil
     have hf := y69 ho _ (z1n hil)
     have := ycl hkv (h2.get hi hp).1 hf
     exact decide_eq_false fun hc => zv (this.2 hc)
    have hh := hhead _ ho
    rw [hnone] at hh
    exact ⟨_, hh, two _ _ _ (.pure (yme hmz))⟩
   ·cases e3
theorem Kp.sub {mes mes' : Array MapEntry} {c : Nat} (h : ∀ x ∈ mes'.toList, x ∈ mes.toList) : Kp mes c (some (.map mes' c)) := ⟨mes', c, rfl, zi _, fun x hx => .inr ⟨x, h x hx, rfl, rfl⟩⟩
theorem Kp.push (mes : Array MapEntry) (c : Nat) (u z : Value) : Kp mes c (some (.map (mes.push { key := u, val := z, born := c }) (c + 1))) := by
 refine ⟨_, _, rfl, Nat.le_succ c, fun x hx => ?_⟩
 rw [Array.toList_push] at hx
 rcases zt.1 hx with hx | hx
 ·exact .inr ⟨x, hx, rfl, rfl⟩
 ·rw [zn] at hx
  subst hx
  exact .inl (zi _)
theorem yoa {mes : Array MapEntry} {i : Nat} {e' : MapEntry} {u z : Value} (f2 : mes[i]? = some e') : (mes.modify i fun e => { e with key := u, val := z }).toList = mes.toList.set i { e' with key := u, val := z } := by
 refine z1r fun q => ?_
 rw [z1f, z2u, zu, z1f]
 by_cases e1 : i = q
 ·subst e1
  rw [if_pos rfl, if_pos rfl, f2, if_pos (by simpa using (zo.1 f2).1)]
  rfl
 ·rw [if_neg e1, if_neg e1]
theorem Kp.modify (mes : Array MapEntry) (c : Nat) (u z : Value) (i : Nat) {e' : MapEntry} (f2 : mes[i]? = some e') (f4 : u = e'.key) : Kp mes c (some (.map (mes.modify i fun e => { e with key := u, val := z }) c)) := by
 refine ⟨_, _, rfl, zi c, fun x hx => .inr ?_⟩
 rw [yoa f2] at hx
 rcases z3c hx with hx | hx
 ·exact ⟨x, hx, rfl, rfl⟩
 ·subst hx
  exact ⟨e', by rw [← z1f] at f2; exact zs f2, rfl, f4.symm⟩
theorem ygn (I : Inv nm w F m h) {id g : Nat} {es es' : List (AV × AV)} {loc : Loc} {mes mes' : Array MapEntry} {clock clock' : Nat} (ho : h[id]? = some ⟨g, .map false es⟩) (hm : m id = some (g, loc))
  (hh : w.heap[loc.blk]? = some (.map mes clock)) (hp : y5i (Rep nm w F m (gens h)) mes' clock' es') (hk : Kp mes clock (some (.map mes' clock'))) :
  Inv nm (y2y w loc.blk (.map mes' clock')) F m (y3p h id es') ∧ Tr w F m (gens h) (y2y w loc.blk (.map mes' clock')) F m (gens (y3p h id es')) := by
 have hlt : loc.blk < w.heap.size := (zo.1 hh).1
 have hsr : y3p h id es' = h.set id ⟨g, .map false es'⟩ := by unfold y3p; rw [ho]
 have hidl : id < h.length := (zb.1 ho).1
 obtain ⟨m', hm', hI, hT⟩ := ybc (w' := y2y w loc.blk (.map mes' clock')) (h' := y3p h id es') (g' := g) (o := .map false es') (loc := loc) (id := id) I
  rfl rfl rfl (by simp [y2y]) (fun b hne _ => by rw [y35, if_neg (fun e => hne e.1.symm)]) (.inr ⟨g, loc, _, hm, ho, rfl, rfl⟩)
  (fun j hj => by rw [hsr, z17 (fun e => hj e.symm)]) (by rw [hsr]; simp [hidl]) rfl (.inr hm)
  (fun ms c hq => by
   rw [hh] at hq
   injection hq with hq
   injection hq with q1 q2
   subst q1; subst q2
   rw [y35, if_pos ⟨rfl, hlt⟩]
   exact hk)
  (fun m' hm' hrep => ⟨mes', clock', by rw [y35]; simp [hlt], hp.mono hrep⟩)
 have hmm : m' = m := by
  rw [hm']
  funext j
  split
  ·rename_i e; rw [e]; exact hm.symm
  ·rfl
 rw [hmm] at hI hT
 exact ⟨hI, hT⟩
theorem yik (I : Inv nm w F m h) {id g : Nat} {es es' : List (AV × AV)} {loc : Loc} {mes mes' : Array MapEntry} (ho : h[id]? = some ⟨g, .kmap es⟩) (hm : m id = some (g, loc))
  (hh : w.heap[loc.blk]? = some (.map mes loc.pin)) (hp : y5i (Rep nm w F m (gens h)) mes' loc.pin es') (hk : Kp mes loc.pin (some (.map mes' loc.pin))) :
  Inv nm (y2y w loc.blk (.map mes' loc.pin)) F m (y3p h id es') ∧ Tr w F m (gens h) (y2y w loc.blk (.map mes' loc.pin)) F m (gens (y3p h id es')) := by
 have hlt : loc.blk < w.heap.size := (zo.1 hh).1
 have hsr : y3p h id es' = h.set id ⟨g, .kmap es'⟩ := by unfold y3p; rw [ho]
 have hidl : id < h.length := (zb.1 ho).1
 obtain ⟨m', hm', hI, hT⟩ := ybc (w' := y2y w loc.blk (.map mes' loc.pin)) (h' := y3p h id es') (g' := g) (o := .kmap es') (loc := loc) (id := id) I
  rfl rfl rfl (by simp [y2y]) (fun b hne _ => by rw [y35, if_neg (fun e => hne e.1.symm)]) (.inr ⟨g, loc, _, hm, ho, rfl, rfl⟩)
  (fun j hj => by rw [hsr, z17 (fun e => hj e.symm)]) (by rw [hsr]; simp [hidl]) rfl (.inr hm)
  (fun ms c hq => by
   rw [hh] at hq
   injection hq with hq
   injection hq with q1 q2
   subst q1; subst q2
   rw [y35, if_pos ⟨rfl, hlt⟩]
   exact hk)
  (fun m' hm' hrep => ⟨mes', by rw [y35]; simp [hlt], hp.mono hrep⟩)
 have hmm : m' = m := by
  rw [hm']
  funext j
  split
  ·rename_i e; rw [e]; exact hm.symm
  ·rfl
 rw [hmm] at hI hT
 exact ⟨hI, hT⟩
theorem Inv.drew (I : Inv nm w F m h) : Inv nm w.drew F m h := I.heap rfl
theorem KR.symm {p q : AV × AV} (h : KR p q) (hs : ∀ {agg : Bool} {ks : List Nat} {r : Bool}, y2f agg ks p.1 q.1 = some r → y2f agg ks q.1 p.1 = some r) : KR q p := by
 obtain ⟨a1, agg, ks, r, a2⟩ := h
 exact ⟨fun e => a1 e.symm, agg, ks, r, hs a2⟩
theorem All2.set {α β : Type} {R : α → β → Prop} {as : List α} {bs : List β} (h : All2 R as bs) {i : Nat} {x : α} {y : β} (hr : R x y) : All2 R (as.set i x) (bs.set i y) := by
 refine .of (by simp [h.length]) fun j a b h1 h2 => ?_
 rw [zu] at h1 h2
 by_cases e : i = j
 ·subst e
  rw [if_pos rfl] at h1 h2
  split at h1
  ·rename_i hl
   rw [if_pos (by rw [← h.length]; exact hl)] at h2
   injection h1 with h1
   injection h2 with h2
   subst h1; subst h2
   exact hr
  ·cases h1
 ·rw [if_neg e] at h1 h2
  exact h.get h1 h2
theorem All2.append {α β : Type} {R : α → β → Prop} {as : List α} {bs : List β} (h : All2 R as bs) {x : α} {y : β} (hr : R x y) : All2 R (as ++ [x]) (bs ++ [y]) := by
 refine .of (by simp [h.length]) fun j a b h1 h2 => ?_
 rw [z1j] at h1 h2
 split at h1
 ·rename_i hl
  rw [if_pos (by rw [← h.length]; exact hl)] at h2
  exact h.get h1 h2
 ·rename_i hl
  rw [if_neg (by rw [← h.length]; exact hl)] at h2
  rw [h.length] at h1
  cases hj : j - bs.length with
  | zero =>
   rw [hj] at h1 h2
   simp at h1 h2
   subst h1; subst h2
   exact hr
  | succ k => rw [hj] at h1; simp at h1
theorem All2.erase {α β : Type} {R : α → β → Prop} {as : List α} {bs : List β} (h : All2 R as bs) (i : Nat) : All2 R (as.eraseIdx i) (bs.eraseIdx i) := by
 have hl : (as.eraseIdx i).length = (bs.eraseIdx i).length := by rw [List.length_eraseIdx, List.length_eraseIdx, h.length]
 refine .of hl fun j a b h1 h2 => ?_
 rw [List.getElem?_eraseIdx] at h1 h2
 split at h1
 ·rename_i hj; rw [if_pos hj] at h2; exact h.get h1 h2
 ·rename_i hj; rw [if_neg hj] at h2; exact h.get h1 h2
theorem y7i {α : Type} : ∀ {l : List α} {i : Nat} {e : α}, l[i]? = some e → (e :: l.eraseIdx i).Perm l
 | [], _, _, h => by simp at h
 | a :: l, 0, e, h => by simp at h; subst h; exact .refl _
 | a :: l, i + 1, e, h => by
  have := y7i (l := l) (i := i) (by simpa using h)
  exact (List.Perm.swap a e _).trans (this.cons a)
theorem yhc {α : Type} : ∀ {l : List α} {i : Nat} {x : α}, i < l.length → (l.set i x).Perm (x :: l.eraseIdx i)
 | [], _, _, h => by simp at h
 | a :: l, 0, x, h => .refl _
 | a :: l, i + 1, x, h => by
  have := yhc (l := l) (i := i) (x := x) (by simpa using h)
  exact (this.cons a).trans (List.Perm.swap x a _)
theorem ygw {α : Type} {as bs : List α} {i j : Nat} {e x : α} (h : as.Perm bs) (h1 : as[i]? = some e) (h2 : bs[j]? = some e) : (as.set i x).Perm (bs.set j x) ∧ (as.eraseIdx i).Perm (bs.eraseIdx j) := by
 have l1 := (zb.1 h1).1
 have l2 := (zb.1 h2).1
 have p3 : (as.eraseIdx i).Perm (bs.eraseIdx j) := (((y7i h1).trans h).trans (y7i h2).symm).cons_inv
 exact ⟨(yhc l1).trans ((p3.cons x).trans (yhc l2).symm), p3⟩
theorem yvi {ms : List MapEntry} {j : Nat} {e x : MapEntry} (h : ms[j]? = some e) (hb : x.born = e.born) : (ms.set j x).map (·.born) = ms.map (·.born) := by
 refine z1r fun i => ?_
 rw [z1a, z1a, zu]
 by_cases e1 : j = i
 ·subst e1
  rw [if_pos rfl, if_pos (zb.1 h).1, h, zw, zw, hb]
 ·rw [if_neg e1]
open Classical in
theorem ylm (I : Inv nm w F m h) {t kt e : Nat} {agg : Bool} {ks : List Nat} {v u z : Value} {va ua za : AV} {x : AV × Heap} (hu : P.underlying t = some (.map kt e)) (hk : yj3 P kt agg ks = true)
  (hv : Rep nm w F m (gens h) v va) (hkv : Rep nm w F m (gens h) u ua) (hz : Rep nm w F m (gens h) z za) (hr : y3x agg ks va ua za h = some x) :
  ∃ w', (Instr.mapUpdate t v u z).run P w = .ok () w' ∧ Inv nm w' F m x.2 ∧ Tr w F m (gens h) w' F m (gens x.2) ∧ x.1 = .tup [] := by
 unfold y3x at hr
 split at hr
 ·rename_i id g
  split at hr
  ·rename_i es hes
   split at hr
   ·rename_i es' hset
    injection hr with hr
    subst hr
    obtain ⟨loc, hm, mes, clock, hh, hM⟩ := y61 I hes
    have ho := y7f hes
    rw [hv.lm_at hm]
    obtain ⟨o, hi, h2⟩ := ymz es 0 _ hset
    have hck0 := y4g (P := P) (w := w) (empty := false) (n := 9998) hk hkv (y76 hi)
    have hall := yeu hkv hM hi
    have hfk := y66 (P := P) hk hkv mes.toList hall
    obtain ⟨ms, p1, p2, p3, p4, p5⟩ := hM
    rcases h2 with ⟨hn, hes'⟩ | ⟨j, hj, hjl, hes'⟩
    ·subst hn; subst hes'
     have hfalse : ∀ e ∈ mes.toList, decide (u = e.key) = false := fun e he => by
      obtain ⟨i, hi2⟩ := zz (p1.mem_iff.2 he)
      have hil : i < es.length := by rw [← p2.length]; exact (zb.1 hi2).1
      have hp : es[i]? = some es[i] := z9 hil
      have hf := y69 hi _ (z1n hil)
      exact decide_eq_false fun hc => zv ((ycl hkv (p2.get hi2 hp).1 hf).2 hc)
     rw [y60 hfalse] at hfk
     have hM' : y5i (Rep nm w F m (gens h)) (mes.push { key := u, val := z, born := clock }) (clock + 1) (es ++ [(ua, za)]) := by
      refine ⟨ms ++ [{ key := u, val := z, born := clock }], by rw [Array.toList_push]; exact p1.append_right _, p2.append ⟨hkv, hz⟩, ?_, fun e he => ?_, ?_⟩
      ·rw [List.pairwise_append]
       refine ⟨p3, by simp, fun p hp q hq => ?_⟩
       rw [zn] at hq
       subst hq
       have hf := y69 hi _ hp
       obtain ⟨i, hi2⟩ := zz hp
       have hne : ua ≠ p.1 := fun e => zv ((y6c hf).2 e)
       have hrev : KR (ua, za) p := ⟨hne, agg, ks, false, hf⟩
       have hpw : [(ua, za), p].Pairwise KR := by
        refine .cons (fun q hq => ?_) (.cons (fun q hq => by cases hq) .nil)
        rw [zn] at hq
        subst hq
        exact hrev
       have := yjw hpw (i := 1) (j := 0) (p := p) (q := (ua, za)) rfl rfl (by omega)
       exact this
      ·rcases zt.1 he with he | he
       ·have := p4 e he; omega
       ·rw [zn] at he; subst he; exact Nat.lt_succ_self _
      ·rw [z2m, z2e]
       refine ⟨p5, by simp, fun a ha b hb => ?_⟩
       simp only [List.map_cons, List.map_nil, List.mem_singleton] at hb
       subst hb
       obtain ⟨e, he, rfl⟩ := z1y.1 ha
       exact Nat.ne_of_lt (p4 e he)
     have hst := ygn I ho hm hh hM' (Kp.push mes clock u z)
     refine ⟨_, ?_, hst.1, hst.2, rfl⟩
     simp only [Instr.mapUpdate, Sem.run_bind, yf hu, Result.andThen_ok, y3h hh, hck0, hfk, y4y hh]
    ·subst hj; subst hes'
     obtain ⟨k, p, e4, e5, e6⟩ := y5z hi
     have : k = j := by omega
     subst this
     obtain ⟨i, e', f1, f2, f3, f4⟩ := y6e hkv p1 p2 p3 e5 e6
     rw [f1] at hfk
     have hkey : ((mes[i]?).map (·.key)).getD u = u := by rw [f2]; exact f4.symm
     have hstay : ∃ w1 : World, (Instr.keyThatStays u u).run P w = .ok u w1 ∧ w1.heap = w.heap ∧ w1.os = w.os ∧ w1.tape = w.tape ∧ w1.output = w.output := by
      unfold Instr.keyThatStays
      split
      ·exact ⟨w, rfl, rfl, rfl, rfl, rfl⟩
      ·exact ⟨w.drew, by simp [Question.forced], rfl, rfl, rfl, rfl⟩
     obtain ⟨w1, hs1, hs2, hs3, hs4, hs5⟩ := hstay
     have I1 : Inv nm w1 F m h := I.heap hs2
     have hmono : ∀ v a, Rep nm w F m (gens h) v a → Rep nm w1 F m (gens h) v a := fun v a hr => hr.mono (fun _ _ => by rw [hs2]) (fun _ h => h) (fun _ g h => ⟨g, h, zi _⟩) (fun _ _ _ _ h _ _ => h)
     have hap := (y6c e6).1 rfl
     have hM' : y5i (Rep nm w F m (gens h)) (mes.modify i fun e => { e with key := u, val := z }) clock (es.set k (ua, za)) := by
      have hmod : (mes.modify i fun e => { e with key := u, val := z }).toList = mes.toList.set i { e' with key := u, val := z } := by
       refine z1r fun q => ?_
       rw [z1f, z2u, zu, z1f]
       by_cases e1 : i = q
       ·subst e1
        rw [if_pos rfl, if_pos rfl, f2, if_pos (by simpa using (zo.1 f2).1)]
        rfl
       ·rw [if_neg e1, if_neg e1]
      refine ⟨ms.set k { e' with key := u, val := z }, ?_, p2.set ⟨hkv, hz⟩, ?_, fun e he => ?_, ?_⟩
      ·rw [hmod]
       exact (ygw p1 f3 (by simpa using f2)).1
      ·have hmap : (es.set k (ua, za)).map (·.1) = es.map (·.1) := by
        refine z1r fun q => ?_
        rw [z1a, z1a, zu]
        by_cases e1 : k = q
        ·subst e1
         rw [if_pos rfl, if_pos (zb.1 e5).1, e5, zw, zw, hap]
        ·rw [if_neg e1]
       have pm : ∀ l : List (AV × AV), l.Pairwise KR ↔ (l.map (·.1)).Pairwise fun a b => a ≠ b ∧ ∃ agg ks r, y2f agg ks a b = some r := fun l => by
        rw [z3b]
        rfl
       rw [pm, hmap, ← pm]
       exact p3
      ·rcases z3c he with he | he
       ·exact p4 e he
       ·subst he; exact p4 e' (zs f3)
      ·rw [yvi (x := { e' with key := u, val := z }) f3 rfl]; exact p5
     have hst := ygn I1 ho hm (by rw [hs2]; exact hh) (hM'.mono hmono) (Kp.modify mes clock u z i f2 f4)
     refine ⟨_, ?_, hst.1, (Tr.heap hs2 hs3 hs4 hs5).trans hst.2, rfl⟩
     simp only [Instr.mapUpdate, Sem.run_bind, yf hu, Result.andThen_ok, y3h hh, hck0, hfk, hkey, hs1]
     rw [y4y (by rw [hs2]; exact hh)]
   ·cases hr
  ·cases hr
  ·split at hr
   ·rename_i es hes
    split at hr
    ·rename_i es' hset
     split at hr
     ·rename_i hlen
      injection hr with hr
      subst hr
      obtain ⟨loc, hm, mes, hh, hM⟩ := y79 I hes
      have ho := y7p hes
      rw [hv.lm_at hm]
      obtain ⟨o, hi, h2⟩ := ymz es 0 _ hset
      have hck0 := y4g (P := P) (w := w) (empty := false) (n := 9998) hk hkv (y76 hi)
      have hall := yeu hkv hM hi
      have hfk := y66 (P := P) hk hkv mes.toList hall
      obtain ⟨ms, p1, p2, p3, p4, p5⟩ := hM
      rcases h2 with ⟨hn, hes'⟩ | ⟨j, hj, hjl, hes'⟩
      ·rw [hes', zg] at hlen
       simp at hlen
      ·subst hj; subst hes'
       obtain ⟨k, p, e4, e5, e6⟩ := y5z hi
       have : k = j := by omega
       subst this
       obtain ⟨i, e', f1, f2, f3, f4⟩ := y6e hkv p1 p2 p3 e5 e6
       rw [f1] at hfk
       have hkey : ((mes[i]?).map (·.key)).getD u = u := by rw [f2]; exact f4.symm
       have hstay : ∃ w1 : World, (Instr.keyThatStays u u).run P w = .ok u w1 ∧ w1.heap = w.heap ∧ w1.os = w.os ∧ w1.tape = w.tape ∧ w1.output = w.output := by
        unfold Instr.keyThatStays
        split
        ·exact ⟨w, rfl, rfl, rfl, rfl, rfl⟩
        ·exact ⟨w.drew, by simp [Question.forced], rfl, rfl, rfl, rfl⟩
       obtain ⟨w1, hs1, hs2, hs3, hs4, hs5⟩ := hstay
       have I1 : Inv nm w1 F m h := I.heap hs2
       have hmono : ∀ v a, Rep nm w F m (gens h) v a → Rep nm w1 F m (gens h) v a := fun v a hr => hr.mono (fun _ _ => by rw [hs2]) (fun _ h => h) (fun _ g h => ⟨g, h, zi _⟩) (fun _ _ _ _ h _ _ => h)
       have hap := (y6c e6).1 rfl
       have hM' : y5i (Rep nm w F m (gens h)) (mes.modify i fun e => { e with key := u, val := z }) loc.pin (es.set k (ua, za)) := by
        have hmod : (mes.modify i fun e => { e with key := u, val := z }).toList = mes.toList.set i { e' with key := u, val := z } := by
         refine z1r fun q => ?_
         rw [z1f, z2u, zu, z1f]
         by_cases e1 : i = q
         ·subst e1
          rw [if_pos rfl, if_pos rfl, f2, if_pos (by simpa using (zo.1 f2).1)]
          rfl
         ·rw [if_neg e1, if_neg e1]
        refine ⟨ms.set k { e' with key := u, val := z }, ?_, p2.set ⟨hkv, hz⟩, ?_, fun e he => ?_, ?_⟩
        ·rw [hmod]
         exact (ygw p1 f3 (by simpa using f2)).1
        ·have hmap : (es.set k (ua, za)).map (·.1) = es.map (·.1) := by
          refine z1r fun q => ?_
          rw [z1a, z1a, zu]
          by_cases e1 : k = q
          ·subst e1
           rw [if_pos rfl, if_pos (zb.1 e5).1, e5, zw, zw, hap]
          ·rw [if_neg e1]
         have pm : ∀ l : List (AV × AV), l.Pairwise KR ↔ (l.map (·.1)).Pairwise fun a b => a ≠ b ∧ ∃ agg ks r, y2f agg ks a b = some r := fun l => by
          rw [z3b]
          rfl
         rw [pm, hmap, ← pm]
         exact p3
        ·rcases z3c he with he | he
         ·exact p4 e he
         ·subst he; exact p4 e' (zs f3)
        ·rw [yvi (x := { e' with key := u, val := z }) f3 rfl]; exact p5
       have hst := yik I1 ho hm (by rw [hs2]; exact hh) (hM'.mono hmono) (Kp.modify mes loc.pin u z i f2 f4)
       refine ⟨_, ?_, hst.1, (Tr.heap hs2 hs3 hs4 hs5).trans hst.2, rfl⟩
       simp only [Instr.mapUpdate, Sem.run_bind, yf hu, Result.andThen_ok, y3h hh, hck0, hfk, hkey, hs1]
       rw [y4y (by rw [hs2]; exact hh)]
     ·cases hr
    ·cases hr
   ·cases hr
 ·cases hr
theorem y1se (I : Inv nm w F m h) {fb : Nat} {sl : Option Nat} {t : Nat} {id g : Nat} {h' : Heap} (hp : place fb sl (.map false []) h = some (id, g, h')) :
  Does nm w F m h ((do pure (Next.value (← Instr.makeMap t none)) : Sem Next).run P w) (.lm id g, h') := by
 have hrun : (Instr.makeMap t none).run P w = .ok (.map (some w.heap.size)) { w with heap := w.heap.push (.map #[] 0) } := by
  simp [Instr.makeMap]
 rw [yhs hrun]
 obtain ⟨m', hI, hT, hm, hG⟩ := yqp (w' := { w with heap := w.heap.push (.map #[] 0) }) (ob := .map #[] 0) (loc := ⟨w.heap.size, 0, 0, 0, 0⟩) I hp rfl rfl rfl rfl rfl rfl
  (fun m' hrep => ⟨#[], 0, ydq _ rfl, [], .refl _, trivial, .nil, fun e h => (by cases h), .nil⟩)
 exact ⟨_, _, F, m', .inl rfl, hI, hT, .lm id g ⟨w.heap.size, 0, 0, 0, 0⟩ ⟨g, hG, zi _⟩ (fun loc' hl => by rw [hm] at hl; injection hl with hl; injection hl with _ hl; exact hl.symm)⟩
open Classical in
theorem y165 (I : Inv nm w F m h) {t kt e : Nat} {ty : TypeId} {agg : Bool} {ks : List Nat} {v u : Value} {va ua : AV} {x : AV × Heap} {ts : Array TypeId} (ht : ts[0]? = some t) (hu : P.underlying t = some (.map kt e)) (hk : yj3 P kt agg ks = true)
  (hv : Rep nm w F m (gens h) v va) (hkv : Rep nm w F m (gens h) u ua) (hr : y7c agg ks va ua h = some x) :
  ∃ w', (Builtin.delete_ ts ty #[v, u]).run P w = .ok (.tuple #[]) w' ∧ Inv nm w' F m x.2 ∧ Tr w F m (gens h) w' F m (gens x.2) ∧ x.1 = .tup [] := by
 unfold y7c at hr
 split at hr
 ·split at hr
  ·rename_i hs
   injection hr with hr
   subst hr
   rw [hv.nilm_inv]
   have hck0 := fun b => y4g (P := P) (w := w) (empty := b) (n := 9998) hk hkv (yms hs)
   refine ⟨w, ?_, I, Tr.refl _ _ _ _, rfl⟩
   simp [Builtin.delete_, ht, yf hu, hck0]
  ·cases hr
 ·rename_i id g
  split at hr
  ·rename_i es hes
   split at hr
   ·rename_i es' hset
    injection hr with hr
    subst hr
    obtain ⟨loc, hm, mes, clock, hh, hM⟩ := y61 I hes
    have ho := y7f hes
    rw [hv.lm_at hm]
    obtain ⟨o, hi, h2⟩ := yha es 0 _ hset
    have hck0 := fun b => y4g (P := P) (w := w) (empty := b) (n := 9998) hk hkv (y76 hi)
    have hfk := y66 (P := P) hk hkv mes.toList (yeu hkv hM hi)
    have hM0 := hM
    obtain ⟨ms, p1, p2, p3, p4, p5⟩ := hM
    rcases h2 with ⟨hn, hes'⟩ | ⟨j, hj, hjl, hes'⟩
    ·subst hn; subst hes'
     have hfalse : ∀ e ∈ mes.toList, decide (u = e.key) = false := fun e he => by
      obtain ⟨i, hi2⟩ := zz (p1.mem_iff.2 he)
      have hil : i < es'.length := by rw [← p2.length]; exact (zb.1 hi2).1
      have hp : es'[i]? = some es'[i] := z9 hil
      have hf := y69 hi _ (z1n hil)
      exact decide_eq_false fun hc => zv ((ycl hkv (p2.get hi2 hp).1 hf).2 hc)
     rw [y60 hfalse] at hfk
     have hst := ygn I ho hm hh hM0 (.refl _ _)
     refine ⟨_, ?_, hst.1, hst.2, rfl⟩
     simp [Builtin.delete_, ht, yf hu, y3h hh, hck0, hfk, y4y hh]
    ·subst hj; subst hes'
     obtain ⟨k, p, e4, e5, e6⟩ := y5z hi
     have : k = j := by omega
     subst this
     obtain ⟨i, e', f1, f2, f3, f4⟩ := y6e hkv p1 p2 p3 e5 e6
     rw [f1] at hfk
     have him : i < mes.size := (zo.1 f2).1
     have hel : (mes.eraseIdxIfInBounds i).toList = mes.toList.eraseIdx i := by
      rw [Array.eraseIdxIfInBounds_eq, dif_pos him, Array.toList_eraseIdx]
     have hM' : y5i (Rep nm w F m (gens h)) (mes.eraseIdxIfInBounds i) clock (es.eraseIdx k) := by
      refine ⟨ms.eraseIdx k, by rw [hel]; exact (ygw (x := e') p1 f3 (by simpa using f2)).2, p2.erase k, p3.sublist (z26 _ _), fun e he => p4 e ((z26 _ _).mem he), ?_⟩
      exact p5.sublist ((z26 _ _).map _)
     have hst := ygn I ho hm hh hM' (Kp.sub fun x hx => by rw [hel] at hx; exact (z26 _ _).mem hx)
     refine ⟨_, ?_, hst.1, hst.2, rfl⟩
     simp [Builtin.delete_, ht, yf hu, y3h hh, hck0, hfk, y4y hh]
   ·cases hr
  ·cases hr
  ·split at hr
   ·rename_i es hes
    split at hr
    ·rename_i es' hset
     injection hr with hr
     subst hr
     obtain ⟨loc, hm, mes, hh, hM⟩ := y79 I hes
     have ho := y7p hes
     rw [hv.lm_at hm]
     obtain ⟨o, hi, h2⟩ := yha es 0 _ hset
     have hck0 := fun b => y4g (P := P) (w := w) (empty := b) (n := 9998) hk hkv (y76 hi)
     have hfk := y66 (P := P) hk hkv mes.toList (yeu hkv hM hi)
     have hM0 := hM
     obtain ⟨ms, p1, p2, p3, p4, p5⟩ := hM
     rcases h2 with ⟨hn, hes'⟩ | ⟨j, hj, hjl, hes'⟩
     ·subst hn; subst hes'
      have hfalse : ∀ e ∈ mes.toList, decide (u = e.key) = false := fun e he => by
       obtain ⟨i, hi2⟩ := zz (p1.mem_iff.2 he)
       have hil : i < es'.length := by rw [← p2.length]; exact (zb.1 hi2).1
       have hp : es'[i]? = some es'[i] := z9 hil
       have hf := y69 hi _ (z1n hil)
       exact decide_eq_false fun hc => zv ((ycl hkv (p2.get hi2 hp).1 hf).2 hc)
      rw [y60 hfalse] at hfk
      have hst := yik I ho hm hh hM0 (.refl _ _)
      refine ⟨_, ?_, hst.1, hst.2, rfl⟩
      simp [Builtin.delete_, ht, yf hu, y3h hh, hck0, hfk, y4y hh]
     ·subst hj; subst hes'
      obtain ⟨k, p, e4, e5, e6⟩ := y5z hi
      have : k = j := by omega
      subst this
      obtain ⟨i, e', f1, f2, f3, f4⟩ := y6e hkv p1 p2 p3 e5 e6
      rw [f1] at hfk
      have him : i < mes.size := (zo.1 f2).1
      have hel : (mes.eraseIdxIfInBounds i).toList = mes.toList.eraseIdx i := by
       rw [Array.eraseIdxIfInBounds_eq, dif_pos him, Array.toList_eraseIdx]
      have hM' : y5i (Rep nm w F m (gens h)) (mes.eraseIdxIfInBounds i) loc.pin (es.eraseIdx k) := by
       refine ⟨ms.eraseIdx k, by rw [hel]; exact (ygw (x := e') p1 f3 (by simpa using f2)).2, p2.erase k, p3.sublist (z26 _ _), fun e he => p4 e ((z26 _ _).mem he), ?_⟩
       exact p5.sublist ((z26 _ _).map _)
      have hst := yik I ho hm hh hM' (Kp.sub fun x hx => by rw [hel] at hx; exact (z26 _ _).mem hx)
      refine ⟨_, ?_, hst.1, hst.2, rfl⟩
      simp [Builtin.delete_, ht, yf hu, y3h hh, hck0, hfk, y4y hh]
    ·cases hr
   ·cases hr
 ·cases hr
end Go.Vm
/- The value machine: each operation but calls does what the model's does. -/
namespace Go.Vm
variable {P : Program} {nm : Nat → Option Nat} {w : World} {F : Nat → Prop} {m : MapT} {h : Heap}
def y25b : COp → Bool
 | .call .. | .callv .. => true
 | _ => false
theorem y4t {α β : Type} {o : Option α} {f : α → β} {x : β} (h : o.map f = some x) : ∃ a, o = some a ∧ f a = x := z1g.1 h
theorem y26 (I : Inv nm w F m h) {s : Sem Value} {r : AV} (hs : ∃ v, s.run P w = .ok v w ∧ Rep nm w F m (gens h) v r) : Does nm w F m h ((do pure (Next.value (← s)) : Sem Next).run P w) (r, h) := by
 obtain ⟨v, h1, h2⟩ := hs
 rw [yhs h1]
 exact Does.same I rfl h2
theorem ylg {α : Type} {a : Array α} {x : α} (h : a.toList = [x]) : a = #[x] := by cases a; simp at h; subst h; rfl
theorem y7e {α : Type} {a : Array α} {x y : α} (h : a.toList = [x, y]) : a = #[x, y] := by cases a; simp at h; subst h; rfl
theorem y1ue (I : Inv nm w F m h) {E : Env} {C : Calls2} {fb : Nat} {a : Act} {t : Tmps} (hT : TRep nm w F m (gens h) a t) {o : Oper} {c : COp} {x : AV × Heap} (hc : y177 P nm o c = true) (hn : y25b c = false)
  (hx : evOp E C fb t h c = some x) : Does nm w F m h ((execOp a.eval o).run P w) x := by
 obtain ⟨dst, op, ty, pos, after, guard⟩ := o
 unfold y177 at hc
 simp only at hc
 split at hc
 ·-- move
  simp only [evOp] at hx
  injection hx with hx
  subst hx
  exact Does.same I rfl (yt hT hc)
 ·-- assign
  simp only [evOp] at hx
  injection hx with hx
  subst hx
  exact Does.same I rfl (yt hT hc)
 ·-- pick
  simp only [zc] at hc
  obtain ⟨⟨h1, h2⟩, h3⟩ := hc
  simp only [evOp] at hx
  have r1 := yt hT h1
  split at hx
  ·rename_i hb
   injection hx with hx
   subst hx
   rw [hb] at r1
   exact Does.same I (by simp [execOp, r1.bool_inv, asBool]) (yt hT h2)
  ·rename_i hb
   injection hx with hx
   subst hx
   rw [hb] at r1
   exact Does.same I (by simp [execOp, r1.bool_inv, asBool]) (yt hT h3)
  ·cases hx
 ·-- alloc
  simp only [evOp] at hx
  split at hx
  ·rename_i hl; exact y1ss I hc hl hx
  ·cases hx
 ·-- box
  simp only [evOp] at hx
  split at hx
  ·rename_i hl; exact y1hv I (yt hT hc) hl hx
  ·cases hx
 ·-- build
  simp only [evOp] at hx
  simp only [zc] at hc
  obtain ⟨h1, h2⟩ := hc
  obtain ⟨r, hr, rfl⟩ := y4t hx
  exact y26 I (yuj I hT h1 h2 hr)
 ·-- buildSlice
  simp only [evOp] at hx
  simp only [zc, beq_iff_eq, decide_eq_true_eq] at hc
  obtain ⟨⟨⟨⟨h1, h2⟩, h3⟩, h4⟩, h5⟩ := hc
  split at hx
  ·rename_i hz
   split at hx
   ·rename_i rows hrows
    split at h5
    ·rename_i e hu
     simp only [zc] at h5
     subst h1
     exact ype I hT hu h5.1 h3 h2 h5.2 hz.1 hz.2 h4 hrows hx
    ·cases h5
   ·cases hx
  ·cases hx
 ·-- load
  simp only [evOp] at hx
  simp only [zc] at hc
  obtain ⟨⟨⟨h1, h2⟩, h3⟩, h4⟩ := hc
  obtain ⟨r, hr, rfl⟩ := y4t hx
  exact y26 I (ymd I h1 h2 h3 (yt hT h4) hr)
 ·-- store
  simp only [evOp] at hx
  simp only [zc] at hc
  obtain ⟨⟨h1, h2⟩, h3⟩ := hc
  obtain ⟨w', s1, s2, s3, s4⟩ := y16w I h1 (yt hT h2) (yt hT h3) hx
  refine ⟨undef, w', F, m, .inr ⟨rfl, by simp [execOp, s1]⟩, s2, s3, ?_⟩
  rw [s4]
  exact .pure (.tup #[] [] rfl (fun j v l h1 _ => by simp at h1))
 ·-- nilCheck
  simp only [evOp] at hx
  have r1 := yt hT hc
  split at hx
  ·rename_i cs hcs
   injection hx with hx
   subst hx
   rw [hcs] at r1
   obtain ⟨b, o, hv, _⟩ := r1.rp_inv
   refine Does.same I (v := .pointer (some ⟨b, o, none⟩)) (by simp only [execOp, hv, Sem.run_pure]) ?_
   rw [← hv]; exact r1
  ·rename_i id g i off hcs
   injection hx with hx
   subst hx
   rw [hcs] at r1
   obtain ⟨loc, hv, _⟩ := r1.lp_inv
   refine Does.same I (v := .pointer (some ⟨loc.blk, loc.base + i * loc.es + off, none⟩)) (by simp only [execOp, hv, Sem.run_pure]) ?_
   rw [← hv]; exact r1
  ·cases hx
 ·-- binOp
  simp only [evOp] at hx
  simp only [zc, beq_iff_eq] at hc
  obtain ⟨⟨h1, h2⟩, h3⟩ := hc
  subst h1
  obtain ⟨r, hr, rfl⟩ := y4t hx
  exact y26 I (yuo (yt hT h2) (yt hT h3) hr)
 ·-- bools
  simp only [evOp] at hx
  simp only [zc, beq_iff_eq] at hc
  obtain ⟨⟨⟨h1, h2⟩, h3⟩, h4⟩ := hc
  split at h4
  ·rename_i hu
   have r1 := yt hT h2
   have r2 := yt hT h3
   split at hx
   ·rename_i ea eb
    injection hx with hx
    subst hx
    rw [ea] at r1
    rw [eb] at r2
    exact y26 I ⟨_, y183 h1 hu r1 r2, .pure (.bool _)⟩
   ·cases hx
  ·cases h4
 ·-- nothing?
  simp only [evOp] at hx
  simp only [zc] at hc
  obtain ⟨⟨⟨h1, h2⟩, h3⟩, h4⟩ := hc
  obtain ⟨r, hr, rfl⟩ := y4t hx
  exact y26 I ⟨_, y1nj (beq_iff_eq.1 h1) h4 (yt hT h2) (yt hT h3) hr, .pure (.bool _)⟩
 ·-- unOp
  simp only [evOp] at hx
  simp only [zc, beq_iff_eq] at hc
  obtain ⟨h1, h2⟩ := hc
  subst h1
  have r1 := yt hT h2
  split at hx
  ·rename_i hb
   injection hx with hx
   subst hx
   rw [hb] at r1
   exact y26 I ⟨_, by rw [r1.bool_inv]; rfl, .pure (.bool _)⟩
  ·rename_i hb
   injection hx with hx
   subst hx
   rw [hb] at r1
   exact y26 I ⟨_, by rw [r1.int_inv]; rfl, .pure (.int _ _)⟩
  ·rename_i hb
   injection hx with hx
   subst hx
   rw [hb] at r1
   exact y26 I ⟨_, by rw [r1.int_inv]; rfl, .pure (.int _ _)⟩
  ·cases hx
 ·-- whole numbers converted
  simp only [evOp] at hx
  simp only [zc] at hc
  obtain ⟨⟨h1, h2⟩, h3⟩ := hc
  have r1 := yt hT h1
  split at h3
  ·rename_i k' hu
   have hk := beq_iff_eq.1 h3
   subst hk
   split at hx
   ·rename_i hb
    injection hx with hx
    subst hx
    rw [hb] at r1
    exact y26 I ⟨_, y1lh h2 hu r1, .pure (.int _ _)⟩
   ·cases hx
  ·cases h3
 ·-- a text's bytes
  simp only [evOp] at hx
  simp only [zc] at hc
  obtain ⟨⟨h1, h2⟩, h3⟩ := hc
  have r1 := yt hT h1
  split at h3
  ·rename_i e hu
   split at h3
   ·rename_i he
    split at hx
    ·rename_i hb
     rw [hb] at r1
     exact y1do I h2 hu he r1 hx
    ·cases hx
   ·cases h3
  ·cases h3
 ·-- makeSlice
  simp only [evOp] at hx
  simp only [zc, decide_eq_true_eq] at hc
  obtain ⟨⟨⟨h1, h2⟩, h3⟩, h4⟩ := hc
  have r1 := yt hT h1
  have r2 := yt hT h2
  split at h4
  ·rename_i e hu
   simp only [zc, beq_iff_eq] at h4
   split at hx
   ·rename_i ea eb
    split at hx
    ·rename_i hcond
     rw [ea] at r1
     rw [eb] at r2
     have := y1pt (P := P) I hu h4.1.1 h3 h4.1.2 h4.2 hcond.1 hcond.2.1 hcond.2.2.1 hcond.2.2.2.1 hcond.2.2.2.2.1 hcond.2.2.2.2.2 hx
     rw [← r1.int_inv, ← r2.int_inv] at this
     exact this
    ·cases hx
   ·cases hx
  ·cases h4
 ·-- a slice cut
  simp only [evOp] at hx
  simp only [zc] at hc
  obtain ⟨⟨⟨h1, h2⟩, h3⟩, h4⟩ := hc
  obtain ⟨r, hr, rfl⟩ := y4t hx
  exact y26 I (y1jy hT h1 h3 h4 (yt hT h2) hr)
 ·-- a text cut
  simp only [evOp] at hx
  simp only [zc] at hc
  obtain ⟨⟨⟨h1, h2⟩, h3⟩, h4⟩ := hc
  have r1 := yt hT h2
  split at h1
  ·rename_i hu
   split at hx
   ·rename_i hb
    split at hx
    ·rename_i b hb2
     split at hx
     ·rename_i l hl
      injection hx with hx
      subst hx
      rw [hb] at r1
      exact y26 I (y1gf hT hu h3 h4 r1 hb2 hl)
     ·cases hx
    ·cases hx
   ·cases hx
  ·cases h1
 ·-- a field's place
  simp only [evOp] at hx
  simp only [zc] at hc
  obtain ⟨h1, h2⟩ := hc
  split at h2
  ·rename_i fs hu
   split at h2
   ·rename_i f hf
    simp only [zc, beq_iff_eq] at h2
    obtain ⟨h3, h4⟩ := h2
    split at h4
    ·rename_i ti hi
     obtain ⟨r, hr, rfl⟩ := y4t hx
     exact y26 I (y1yp (e := 0) hu hf h3 hi (by simpa using h4) (yt hT h1) hr)
    ·cases h4
   ·cases h2
  ·cases h2
 ·-- a slice's element's place
  simp only [evOp] at hx
  simp only [zc] at hc
  obtain ⟨⟨h1, h2⟩, h3⟩ := hc
  obtain ⟨r, hr, rfl⟩ := y4t hx
  exact y26 I (y1ks h1 (yt hT h2) (yt hT h3) hr)
 ·-- an array's element's place
  simp only [evOp] at hx
  simp only [zc] at hc
  obtain ⟨⟨h1, h2⟩, h3⟩ := hc
  split at h3
  ·rename_i n e hu
   simp only [zc, beq_iff_eq] at h3
   obtain ⟨h4, h5⟩ := h3
   subst h4
   obtain ⟨r, hr, rfl⟩ := y4t hx
   exact y26 I (y1fh hu h5 (yt hT h1) (yt hT h2) hr)
  ·cases h3
 ·-- an array's element
  simp only [evOp] at hx
  simp only [zc] at hc
  obtain ⟨⟨h1, h2⟩, h3⟩ := hc
  have r1 := yt hT h1
  have r2 := yt hT h2
  split at h3
  ·rename_i n e hu
   simp only [zc, beq_iff_eq] at h3
   obtain ⟨⟨⟨h4, h5⟩, h6⟩, h7⟩ := h3
   subst h4
   split at hx
   ·rename_i ea eb
    split at hx
    ·rename_i hcond
     obtain ⟨r, hr, rfl⟩ := y4t hx
     rw [ea] at r1
     rw [eb] at r2
     obtain ⟨vs, hv, hl⟩ := LRep.of_agg r1
     obtain ⟨v, hv2, hrep⟩ := y16t (P := P) h5 h6 (by simpa using h7) hl hr
     refine y26 I ⟨v, ?_, hrep⟩
     simp only [Instr.index, r2.int_inv, asIntOf, Sem.run_bind, Sem.run_pure, yf hu, Result.andThen_ok, hv, if_pos hcond, y37 h6, hv2]
    ·cases hx
   ·cases hx
  ·cases h3
 ·-- a text's byte
  simp only [evOp] at hx
  simp only [zc] at hc
  obtain ⟨⟨h1, h2⟩, h3⟩ := hc
  have r1 := yt hT h1
  have r2 := yt hT h2
  split at h3
  ·rename_i hu
   split at hx
   ·rename_i ea eb
    split at hx
    ·rename_i h0
     obtain ⟨b, hb, rfl⟩ := y4t hx
     rw [ea] at r1
     rw [eb] at r2
     exact y26 I ⟨_, yun hu r1 r2 h0 hb, .pure (.int _ _)⟩
    ·cases hx
   ·cases hx
  ·cases h3
 ·-- extract
  simp only [evOp] at hx
  simp only [zc, beq_iff_eq] at hc
  obtain ⟨h1, h2⟩ := hc
  subst h2
  have r1 := yt hT h1
  split at hx
  ·rename_i hb
   obtain ⟨r, hr, rfl⟩ := y4t hx
   rw [hb] at r1
   obtain ⟨vs, hv, hn2, hl⟩ := r1.tup_inv
   rename_i i _ _ _
   have hlt : i < vs.size := by rw [hn2]; exact (zb.1 hr).1
   have hget : vs[i]? = some vs[i] := z1c hlt
   refine y26 I ⟨vs[i], ?_, hl i _ r hget hr⟩
   simp only [Instr.extract, hv, hget, Sem.run_pure]
  ·cases hx
 ·-- makeFunc
  simp only [evOp] at hx
  simp only [zc, beq_iff_eq] at hc
  obtain ⟨⟨h1, h2⟩, h3⟩ := hc
  injection hx with hx
  subst hx
  obtain ⟨hl, hr⟩ := ydb hT h3
  rename_i f first caps key caps'
  have hfe : first = #[] := z32 h2
  subst hfe
  refine y26 I ⟨.func (.func f) #[] (caps.map a.eval), by simp [Instr.makeFunc], .fn f key _ _ h1 (by simpa using hl) (fun j v l a1 a2 => hr j v l (by simpa using a1) a2)⟩
 ·-- makeMap
  simp only [evOp] at hx
  split at hx
  ·rename_i id g h' hp
   injection hx with hx
   subst hx
   exact y1se I hp
  ·cases hx
 ·-- lookup
  simp only [evOp] at hx
  simp only [zc, beq_iff_eq] at hc
  obtain ⟨⟨⟨h1, h2⟩, h3⟩, h4⟩ := hc
  subst h1
  split at h4
  ·rename_i kt e hu
   simp only [zc] at h4
   obtain ⟨h5, h6⟩ := h4
   split at h6
   ·rename_i i hi
    split at h6
    ·rename_i z hz
     obtain ⟨r, hr, rfl⟩ := y4t hx
     exact y26 I (y17e I hu h5 hi hz h6 (yt hT h2) (yt hT h3) hr)
    ·cases h6
   ·cases h6
  ·cases h4
 ·-- mapUpdate
  simp only [evOp] at hx
  simp only [zc] at hc
  obtain ⟨⟨⟨h1, h2⟩, h3⟩, h4⟩ := hc
  split at h4
  ·rename_i kt e hu
   obtain ⟨w', s1, s2, s3, s4⟩ := ylm I hu h4 (yt hT h1) (yt hT h2) (yt hT h3) hx
   refine ⟨undef, w', F, m, .inr ⟨rfl, by simp [execOp, s1]⟩, s2, s3, ?_⟩
   rw [s4]
   exact .pure (.tup #[] [] rfl (fun j v l h1 _ => by simp at h1))
  ·cases h4
 ·-- insert
  simp only [evOp] at hx
  simp only [zc] at hc
  obtain ⟨⟨⟨h1, h2⟩, h3⟩, h4⟩ := hc
  split at h4
  ·rename_i kt e hu
   obtain ⟨w', s1, s2, s3, s4⟩ := ylm I hu h4 (yt hT h1) (yt hT h2) (yt hT h3) hx
   refine ⟨undef, w', F, m, .inr ⟨rfl, by simp [execOp, s1]⟩, s2, s3, ?_⟩
   rw [s4]
   exact .pure (.tup #[] [] rfl (fun j v l h1 _ => by simp at h1))
  ·cases h4
 ·-- len
  simp only [evOp] at hx
  split at hc
  ·rename_i x0 t0 hxs hts
   simp only [zc] at hc
   obtain ⟨h1, h2⟩ := hc
   obtain ⟨r, hr, rfl⟩ := y4t hx
   have e1 := ylg hxs
   have e2 := ylg hts
   subst e1; subst e2
   obtain ⟨v, hv, hrep⟩ := yt3 (P := P) (ty := ty) I h2 (yt hT h1) hr
   exact ⟨v, w, F, m, .inl (by simp [execOp, resolve, invoke, builtin, hv]), I, Tr.refl _ _ _ _, hrep⟩
  ·cases hc
 ·-- append
  simp only [evOp] at hx
  split at hc
  ·rename_i x0 y0 t0 u0 hxs hts
   simp only [zc, decide_eq_true_eq] at hc
   obtain ⟨⟨⟨⟨h1, h2⟩, h3⟩, h4⟩, h5⟩ := hc
   have e1 := y7e hxs
   have e2 := y7e hts
   subst e1; subst e2
   split at h5
   ·rename_i e hu
    simp only [zc, beq_iff_eq, decide_eq_true_eq] at h5
    obtain ⟨⟨⟨h6, h7⟩, h8⟩, h9⟩ := h5
    split at h9
    ·rename_i i hi
     rw [Option.any_eq_true] at h9
     obtain ⟨z, hz, hzs⟩ := h9
     have hd : ∃ d, P.underlying u0 = some d ∧ ∀ k, d ≠ .int k := by
      split at h4
      ·cases h4
      ·rename_i d hne hd; exact ⟨d, hd, fun k e => hne k e⟩
      ·cases h4
     have H : AppT P t0 u0 e _ _ := ⟨hu, h6, h3, h7, h8, ⟨i, z, hi, hz, by simpa using hzs⟩, hd⟩
     have := yut (ty := ty) I H (yt hT h1) (yt hT h2) hx
     simpa [execOp, resolve, invoke, builtin] using this
    ·cases h9
   ·cases h5
  ·cases hc
 ·-- delete
  simp only [evOp] at hx
  split at hc
  ·rename_i x0 y0 t0 ts hxs hts
   simp only [zc] at hc
   obtain ⟨⟨h1, h2⟩, h3⟩ := hc
   have e1 := y7e hxs
   subst e1
   split at h3
   ·rename_i kt e hu
    obtain ⟨w', s1, s2, s3, s4⟩ := y165 (ty := ty) I (ts := _) (by rw [← z1f, hts]; rfl) hu h3 (yt hT h1) (yt hT h2) hx
    refine ⟨.tuple #[], w', F, m, .inl (by simp [execOp, resolve, invoke, builtin, s1]), s2, s3, ?_⟩
    rw [s4]
    exact .pure (.tup #[] [] rfl (fun j v l h1 _ => by simp at h1))
   ·cases h3
  ·cases hc
 ·-- max
  simp only [evOp] at hx
  simp only [zc] at hc
  obtain ⟨hb, hc⟩ := hc
  subst hb
  split at hc
  ·rename_i x0 y0 hxs
   simp only [zc] at hc
   have e1 := y7e hxs
   subst e1
   split at hx
   ·rename_i k a' k' b' ha hb
    split at hx
    ·rename_i hk
     subst hk
     injection hx with hx
     subst hx
     have r1 := yt hT hc.1
     have r2 := yt hT hc.2
     rw [ha] at r1
     rw [hb] at r2
     have e1 := r1.int_inv
     have e2 := r2.int_inv
     refine ⟨.int k (max a' b'), w, F, m, .inl ?_, I, Tr.refl _ _ _ _, .pure (.int _ _)⟩
     simp only [execOp, resolve, invoke, builtin, Builtin.max_, Builtin.max2, e1, e2, List.map, z35, List.foldlM]
     by_cases hab : b' > a'
     ·rw [show max a' b' = b' by omega]; simp [e1, e2, Builtin.max2, hab]
     ·rw [show max a' b' = a' by omega]; simp [e1, e2, Builtin.max2, hab]
    ·cases hx
   ·cases hx
  ·cases hc
 ·-- min
  simp only [evOp] at hx
  simp only [zc, z1u] at hc
  obtain ⟨hb, hc⟩ := hc
  subst hb
  split at hc
  ·rename_i x0 y0 hxs
   simp only [zc] at hc
   have e1 := y7e hxs
   subst e1
   split at hx
   ·rename_i k a' k' b' ha hb
    split at hx
    ·rename_i hk
     subst hk
     injection hx with hx
     subst hx
     have r1 := yt hT hc.1
     have r2 := yt hT hc.2
     rw [ha] at r1
     rw [hb] at r2
     have e1 := r1.int_inv
     have e2 := r2.int_inv
     refine ⟨.int k (min a' b'), w, F, m, .inl ?_, I, Tr.refl _ _ _ _, .pure (.int _ _)⟩
     simp only [execOp, resolve, invoke, builtin, Builtin.min_, Builtin.min2, e1, e2, List.map, z35, List.foldlM]
     by_cases hab : b' < a'
     ·rw [show min a' b' = b' by omega]; simp [e1, e2, Builtin.min2, hab]
     ·rw [show min a' b' = a' by omega]; simp [e1, e2, Builtin.min2, hab]
    ·cases hx
   ·cases hx
  ·cases hc
 ·cases hn
 ·cases hn
 ·cases hc
end Go.Vm
/- The value machine: values made ones that are only read; values moved out of a callee's heap. -/
namespace Go.Vm
variable {P : Program} {nm : Nat → Option Nat} {w : World} {F : Nat → Prop} {m : MapT} {h : Heap} {G : List Nat}
def blks (m : MapT) (ids : List Nat) (b : Nat) : Prop := ∃ id, id ∈ ids ∧ ∃ g loc, m id = some (g, loc) ∧ loc.blk = b
def FB (F : Nat → Prop) (m : MapT) (fresh : Bool) (ids : List Nat) (b : Nat) : Prop := (fresh = false ∧ F b) ∨ blks m ids b
theorem y1ih {ids ids' : List Nat} (h : ∀ i, i ∈ ids → i ∈ ids') {b : Nat} (hb : blks m ids b) : blks m ids' b := by
 obtain ⟨id, h1, h2⟩ := hb
 exact ⟨id, h id h1, h2⟩
theorem y5l {fr fr' : Bool} {ids ids' : List Nat} (hf : fr' = true → fr = true) (h : ∀ i, i ∈ ids → i ∈ ids') {b : Nat} (hb : FB F m fr ids b) : FB F m fr' ids' b := by
 rcases hb with ⟨h1, h2⟩ | hb
 ·refine .inl ⟨?_, h2⟩
  cases fr' with
  | false => rfl
  | true => rw [hf rfl] at h1; cases h1
 ·exact .inr (y1ih h hb)
theorem y2d {α β : Type} {f : α → Option (Fz β)} : ∀ {xs : List α} {r : Fz (List β)}, yv f xs = some r →
  r.v.length = xs.length ∧ ∀ (j : Nat) (x : α), xs[j]? = some x → ∃ q, f x = some q ∧ r.v[j]? = some q.v ∧ (r.fresh = true → q.fresh = true) ∧ ∀ i, i ∈ q.ids → i ∈ r.ids
 | [], r, h => by
  simp only [yv] at h
  injection h with h
  subst h
  exact ⟨rfl, fun j x hx => by simp at hx⟩
 | x :: xs, r, h => by
  simp only [yv] at h
  split at h
  ·rename_i a b ha hb
   injection h with h
   subst h
   obtain ⟨h1, h2⟩ := y2d hb
   refine ⟨by simp [h1], fun j y hy => ?_⟩
   cases j with
   | zero =>
    simp at hy
    subst hy
    exact ⟨a, ha, rfl, fun hf => by simp at hf; exact hf.1, fun i hi => by simp [hi]⟩
   | succ j =>
    simp at hy
    obtain ⟨q, q1, q2, q3, q4⟩ := h2 j y hy
    exact ⟨q, q1, by simpa using q2, fun hf => q3 (by simp at hf; exact hf.2), fun i hi => by simp [q4 i hi]⟩
  ·cases h
theorem y2c {α β : Type} {f : α → Option (Fz β)} {xs : List α} {r : Fz (List β)} (h : yv f xs = some r) {j : Nat} {y : β} (hy : r.v[j]? = some y) :
  ∃ x q, xs[j]? = some x ∧ f x = some q ∧ q.v = y ∧ (r.fresh = true → q.fresh = true) ∧ ∀ i, i ∈ q.ids → i ∈ r.ids := by
 obtain ⟨h1, h2⟩ := y2d h
 have hj : j < xs.length := by rw [← h1]; exact (zb.1 hy).1
 obtain ⟨q, q1, q2, q3, q4⟩ := h2 j _ (z9 hj)
 rw [hy] at q2
 injection q2 with q2
 exact ⟨_, q, z9 hj, q1, q2.symm, q3, q4⟩
theorem yo0 : ∀ {k : Nat} {a : AV} {r : Fz AV}, fz h k a = some r → y19 a = true → y19 r.v = true
 | 0, _, _, hr, _ => by cases hr
 | k + 1, a, r, hr, hl => by
  simp only [fz] at hr
  split at hr <;> first
   | (cases hr; done)
   | cases hl
   | skip
  ·split at hr
   ·split at hr
    ·split at hr
     ·injection hr with hr; subst hr; rfl
     ·cases hr
    ·cases hr
   ·cases hr
  ·split at hr
   ·split at hr
    ·split at hr
     ·injection hr with hr; subst hr; rfl
     ·cases hr
    ·cases hr
   ·cases hr
  ·split at hr
   ·split at hr
    ·injection hr with hr; subst hr; rfl
    ·cases hr
   ·cases hr
  ·split at hr
   ·injection hr with hr; subst hr; exact hl
   ·cases hr
theorem yl5 {k j : Nat} {a : AV} {q : Fz AV} (hk : y21 j a a = some true) (h0 : fz h k a = some q) : q.v = a := by
 cases k with
 | zero => cases h0
 | succ k =>
  cases a <;> first
   | (simp only [fz] at h0
      split at h0
      · injection h0 with h0; subst h0; rfl
      · cases h0)
   | (match j, hk with
      | 0, hk => cases hk
      | 1, hk => cases hk
      | 2, hk => cases hk
      | _ + 3, hk => cases hk)
theorem yqv {k : Nat} : ∀ {ks : List Nat} {xs : List AV} {q : Fz (List AV)}, yx ks xs xs = some true → yv (fz h k) xs = some q → q.v = xs
 | [], [], q, _, h0 => by
  simp only [yv] at h0
  injection h0 with h0
  subst h0
  rfl
 | j :: ks, x :: xs, q, hk, h0 => by
  simp only [yx] at hk
  split at hk
  ·rename_i a b e1 e2
   injection hk with hk
   rw [zc] at hk
   rw [hk.1] at e1
   rw [hk.2] at e2
   simp only [yv] at h0
   split at h0
   ·rename_i p r f1 f2
    injection h0 with h0
    subst h0
    rw [yl5 e1 f1, yqv e2 f2]
   ·cases h0
  ·cases hk
 | [], _ :: _, _, hk, _ | _ :: _, [], _, hk, _ => by simp [yx] at hk
theorem y26x {k : Nat} {a : AV} {q : Fz AV} (hk : y2d7 a) (h0 : fz h k a = some q) : q.v = a := by
 obtain ⟨agg, ks, hk⟩ := hk
 cases agg with
 | true =>
  obtain ⟨x, y, e1, e2, h1⟩ := y68 hk
  rw [e1] at e2
  injection e2 with e2
  subst e2; subst e1
  cases k with
  | zero => cases h0
  | succ k =>
   simp only [fz] at h0
   split at h0
   ·rename_i r hr
    injection h0 with h0
    subst h0
    rw [yqv h1 hr]
   ·cases h0
 | false =>
  obtain ⟨j, _, h1⟩ := y4x hk
  exact yl5 h1 h0
theorem y2j7 {k : Nat} {es : List (AV × AV)} {q : Fz (List (AV × AV))} (hp : es.Pairwise KR) (hl : q.v.length = es.length)
  (hq : ∀ (j : Nat) (y : AV × AV), q.v[j]? = some y → ∃ p fa, es[j]? = some p ∧ fz h k p.1 = some fa ∧ y.1 = fa.v) : q.v.Pairwise KR := by
 rw [List.pairwise_iff_getElem]
 intro i j hi hj hij
 obtain ⟨p, fa, a1, a2, a3⟩ := hq i _ (z9 hi)
 obtain ⟨p', fb, b1, b2, b3⟩ := hq j _ (z9 hj)
 have hk := yjw hp a1 b1 (by omega)
 obtain ⟨n1, agg, ks, r, n2⟩ := hk
 obtain ⟨k1, k2⟩ := y15y n2
 have e1 := y26x k1 a2
 have e2 := y26x k2 b2
 refine ⟨?_, agg, ks, r, ?_⟩
 ·rw [a3, b3, e1, e2]; exact n1
 ·rw [a3, b3, e1, e2]; exact n2
theorem Rep.pure1 {v : Value} {a : AV} (hv : Rep nm w F m G v a) (hp : Go.Vm.pure1 a = true) : PRep nm w F v a := by
 cases hv with
 | pure h => exact h
 | undef => cases hp
 | lp => cases hp
 | ls => cases hp
 | lm => cases hp
 | agg => cases hp
 | tup => cases hp
 | fn f key caps cs hk hn hr =>
  have hcs : cs = [] := by simpa [Go.Vm.pure1] using hp
  subst hcs
  have hc : caps = #[] := z32 hn
  subst hc
  exact .fn f key hk
theorem PRep.scalar {v : Value} {a : AV} {F' : Nat → Prop} (hv : PRep nm w F v a) (hs : y1u a = true) : PRep nm w F' v a := by
 cases hv with
 | int => exact .int _ _
 | bool => exact .bool _
 | str => exact .str _
 | nilp => exact .nilp
 | nils => exact .nils
 | nilm => exact .nilm
 | rp a cs f h1 hc hr =>
  have : cs = [] := by simpa [y1u] using hs
  subst this
  exact .rp a [] f h1 (fun j l hl => by simp at hl) (fun j l hl => by simp at hl)
 | rs a cap es rows f h1 h2 h3 h4 h5 =>
  have : rows = [] := by simpa [y1u] using hs
  subst this
  exact .rs a cap es [] f h1 h2 (fun i row hi => by simp at hi) (fun i row j l hi => by simp at hi) (fun i row j l hi => by simp at hi)
 | rm => cases hs
 | agg => cases hs
 | tup => cases hs
 | fn f key h => exact .fn f key h
theorem yi9 {id g : Nat} {loc : Loc} {ids : List Nat} (hm : m id = some (g, loc)) : blks m (id :: ids) loc.blk := ⟨id, by simp, g, loc, hm, rfl⟩
theorem y4b (I : Inv nm w F m h) : ∀ {k : Nat} {v : Value} {a : AV} {r : Fz AV}, Rep nm w F m (gens h) v a → fz h k a = some r → PRep nm w (FB F m r.fresh r.ids) v r.v
 | 0, _, _, _, _, hr => by cases hr
 | k + 1, v, a, r, hv, hr => by
  simp only [fz] at hr
  split at hr
  ·cases hr
  ·-- a slice
   rename_i id g es1 off len
   split at hr
   ·rename_i fz0 es rows hrows
    split at hr
    ·rename_i hc
     split at hr
     ·rename_i q hq
      injection hr with hr
      subst hr
      obtain ⟨loc, hm, he, hcap, cs, ty, fr, hb, hfr, hsz, hcell⟩ := I.rows hrows
      obtain ⟨ad, cap, rfl, hab, has, hes, hao, hac, hlc⟩ := hv.ls_at hm
      obtain ⟨hql, hqs⟩ := y2d hq
      have hlen : ((rows.drop off).take len).length = len := by simp; omega
      have hqlen : q.v.length = len := by rw [hql, hlen]
      have key : ∀ (i : Nat) (row' : List AV), q.v[i]? = some row' → i < len ∧ ∃ row p, rows[off + i]? = some row ∧ yv (fz h k) row = some p ∧ p.v = row' ∧ (q.fresh = true → p.fresh = true) ∧ ∀ x, x ∈ p.ids → x ∈ q.ids := by
       intro i row' hi
       obtain ⟨row, p, p1, p2, p3, p4, p5⟩ := y2c hq hi
       have hil : i < len := by rw [← hqlen]; exact (zb.1 hi).1
       rw [z1v, if_pos hil, z1l] at p1
       exact ⟨hil, row, p, p1, p2, p3, p4, p5⟩
      have cell : ∀ (i : Nat) (row' : List AV) (j : Nat) (l : AV), q.v[i]? = some row' → row'[j]? = some l → 0 < cap ∧ y19 l = true ∧ ∃ x, w.cell? ⟨ad.block, ad.off + (i * es + j), none⟩ = some x ∧ PRep nm w (FB F m q.fresh (id :: q.ids)) x l := by
       intro i row' j l hi hj
       obtain ⟨hil, row, p, p1, p2, p3, p4, p5⟩ := key i row' hi
       subst p3
       obtain ⟨l0, q2, r1, r2, r3, r4, r5⟩ := y2c p2 hj
       obtain ⟨c1, x, _, c2, c3⟩ := (hcell (off + i) row p1).2 j l0 r1
       subst r3
       have hcp : 0 < cap := by omega
       refine ⟨hcp, yo0 r2 c1, x, ?_, (y4b I c3 r2).mono (fun _ _ => rfl) (fun b hb => y5l (fun hf => r4 (p4 hf)) (fun y hy => by simp [p5 y (r5 y hy)]) hb)⟩
       rw [hab, hao hcp, he, show loc.base + off * es + (i * es + j) = loc.base + ((off + i) * es + j) by rw [z25]; omega]
       exact c2
      have := PRep.rs (nm := nm) (w := w) (F := FB F m q.fresh (id :: q.ids)) ad cap es q.v (fun i j => (w.cell? ⟨ad.block, ad.off + (i * es + j), none⟩).getD undef) (fun _ => has) (by omega) (fun i row' hi => by
        obtain ⟨hil, row, p, p1, p2, p3, _, _⟩ := key i row' hi
        rw [← p3, (y2d p2).1]
        exact (hcell _ row p1).1)
       (fun i row' j l hi hj => by
        obtain ⟨_, c1, x, c2, c3⟩ := cell i row' j l hi hj
        exact ⟨.inr (by rw [hab]; exact yi9 hm), c1, by rw [c2]; rfl⟩)
       (fun i row' j l hi hj => by
        obtain ⟨_, c1, x, c2, c3⟩ := cell i row' j l hi hj
        rw [c2]; exact c3)
      rw [hqlen] at this
      exact this
     ·cases hr
    ·cases hr
   ·cases hr
  ·-- a pointer
   rename_i id g i off
   split at hr
   ·rename_i fz0 es rows hrows
    split at hr
    ·rename_i row hrow
     split at hr
     ·rename_i q hq
      injection hr with hr
      subst hr
      obtain ⟨loc, hm, he, hcap, cs, ty, fr, hb, hfr, hsz, hcell⟩ := I.rows hrows
      have hp := hv.lp_at hm
      subst hp
      have cell : ∀ (j : Nat) (l : AV), q.v[j]? = some l → y19 l = true ∧ ∃ x, w.cell? ⟨loc.blk, loc.base + i * loc.es + off + j, none⟩ = some x ∧ PRep nm w (FB F m q.fresh (id :: q.ids)) x l := by
       intro j l hj
       obtain ⟨l0, q2, r1, r2, r3, r4, r5⟩ := y2c hq hj
       rw [z1l] at r1
       obtain ⟨c1, x, _, c2, c3⟩ := (hcell i row hrow).2 (off + j) l0 r1
       subst r3
       refine ⟨yo0 r2 c1, x, ?_, (y4b I c3 r2).mono (fun _ _ => rfl) (fun b hb => y5l r4 (fun y hy => by simp [r5 y hy]) hb)⟩
       rw [he, show loc.base + i * es + off + j = loc.base + (i * es + (off + j)) by omega]
       exact c2
      exact .rp _ q.v (fun j => (w.cell? ⟨loc.blk, loc.base + i * loc.es + off + j, none⟩).getD undef) rfl
       (fun j l hj => by
        obtain ⟨c1, x, c2, c3⟩ := cell j l hj
        exact ⟨.inr (yi9 hm), c1, by rw [c2]; rfl⟩)
       (fun j l hj => by
        obtain ⟨c1, x, c2, c3⟩ := cell j l hj
        rw [c2]; exact c3)
     ·cases hr
    ·cases hr
   ·cases hr
  ·-- a map
   rename_i id g
   split at hr
   ·rename_i fz0 es hes
    split at hr
    ·rename_i q hq
     injection hr with hr
     subst hr
     obtain ⟨loc, hm, mes, clock, hh, ms, p1, p2, p3, p4, p5⟩ := y61 I hes
     rw [hv.lm_at hm]
     obtain ⟨hql, _⟩ := y2d hq
     have ent : ∀ (i : Nat) (e : MapEntry) (p : AV × AV), ms[i]? = some e → q.v[i]? = some p → PRep nm w (FB F m q.fresh (id :: q.ids)) e.key p.1 ∧ PRep nm w (FB F m q.fresh (id :: q.ids)) e.val p.2 := by
      intro i e p he hp2
      obtain ⟨p0, q2, r1, r2, r3, r4, r5⟩ := y2c hq hp2
      obtain ⟨k1, k2⟩ := p2.get he r1
      split at r2
      ·rename_i fa fb hfa hfb
       injection r2 with r2
       subst r2
       subst r3
       exact ⟨(y4b I k1 hfa).mono (fun _ _ => rfl) (fun b hb => y5l (fun hf => by have := r4 hf; simp at this; exact this.1) (fun y hy => by simp [r5 y (by simp [hy])]) hb),
        (y4b I k2 hfb).mono (fun _ _ => rfl) (fun b hb => y5l (fun hf => by have := r4 hf; simp at this; exact this.2) (fun y hy => by simp [r5 y (by simp [hy])]) hb)⟩
      ·cases r2
     refine .rm loc.blk mes clock ms q.v (.inr (yi9 hm)) hh p1 (by rw [hql]; exact p2.length) (fun i e p h1 h2 => (ent i e p h1 h2).1) (fun i e p h1 h2 => (ent i e p h1 h2).2) ?_ p4 p5
     refine y2j7 (h := h) (k := k) p3 hql fun j y hy => ?_
     obtain ⟨p0, q2, r1, r2, r3, r4, r5⟩ := y2c hq hy
     split at r2
     ·rename_i fa fb hfa hfb
      injection r2 with r2
      subst r2
      subst r3
      exact ⟨p0, fa, r1, hfa, rfl⟩
     ·cases r2
    ·cases hr
   ·cases hr
  ·-- a struct
   rename_i cs
   split at hr
   ·rename_i q hq
    injection hr with hr
    subst hr
    obtain ⟨vs, rfl, hn, hrep⟩ := hv.agg_inv
    refine .agg vs q.v (by rw [(y2d hq).1]; exact hn) (fun j x l hx hl => ?_)
    obtain ⟨l0, q2, r1, r2, r3, r4, r5⟩ := y2c hq hl
    subst r3
    exact (y4b I (hrep j x l0 hx r1) r2).mono (fun _ _ => rfl) (fun b hb => y5l r4 r5 hb)
   ·cases hr
  ·-- several
   rename_i cs
   split at hr
   ·rename_i q hq
    injection hr with hr
    subst hr
    obtain ⟨vs, rfl, hn, hrep⟩ := hv.tup_inv
    refine .tup vs q.v (by rw [(y2d hq).1]; exact hn) (fun j x l hx hl => ?_)
    obtain ⟨l0, q2, r1, r2, r3, r4, r5⟩ := y2c hq hl
    subst r3
    exact (y4b I (hrep j x l0 hx r1) r2).mono (fun _ _ => rfl) (fun b hb => y5l r4 r5 hb)
   ·cases hr
  ·split at hr
   ·rename_i hp
    injection hr with hr
    subst hr
    have h1 := hv.pure1 hp
    cases hs : y1u a with
    | true => exact h1.scalar hs
    | false => exact h1.mono (fun _ _ => rfl) (fun b hb => .inl ⟨rfl, hb⟩)
   ·cases hr
theorem ys1 (I : Inv nm w F m h) {k : Nat} {vs : List Value} {as : List AV} {r : Fz (List AV)} (hn : vs.length = as.length) (hv : ∀ (j : Nat) (v : Value) (l : AV), vs[j]? = some v → as[j]? = some l → Rep nm w F m (gens h) v l)
  (hr : yv (fz h k) as = some r) : vs.length = r.v.length ∧ ∀ (j : Nat) (v : Value) (l : AV), vs[j]? = some v → r.v[j]? = some l → PRep nm w (FB F m r.fresh r.ids) v l := by
 refine ⟨by rw [(y2d hr).1]; exact hn, fun j v l h1 h2 => ?_⟩
 obtain ⟨l0, q, r1, r2, r3, r4, r5⟩ := y2c hr h2
 subst r3
 exact (y4b I (hv j v l0 h1 r1) r2).mono (fun _ _ => rfl) (fun b hb => y5l r4 r5 hb)
end Go.Vm
/- The value machine: what a callee answers is moved to its caller. -/
namespace Go.Vm
variable {P : Program} {nm : Nat → Option Nat} {w : World} {F : Nat → Prop} {m : MapT} {h : Heap} {G : List Nat}
theorem adopt (I : Inv nm w F m h) {h' : Heap} {id g' : Nat} {o : OC} {loc : Loc} (hown : ¬ owned m loc.blk) (hF : ¬ F loc.blk)
  (hh : ∀ j, j ≠ id → h'[j]? = h[j]?) (hid : h'[id]? = some ⟨g', o⟩) (hfz : o.fz = false) (hgen : ∀ g0, (gens h)[id]? = some g0 → g0 < g')
  (ho : ∀ m' : MapT, (∀ v a, Rep nm w F m (gens h) v a → Rep nm w F m' (gens h') v a) → ycf nm w F m' (gens h') loc o) :
  ∃ m' : MapT, m' = (fun j => if j = id then some (g', loc) else m j) ∧ Inv nm w F m' h' ∧ (∀ v a, Rep nm w F m (gens h) v a → Rep nm w F m' (gens h') v a) ∧
   (∀ (j g : Nat), (gens h)[j]? = some g → ∃ g2 : Nat, (gens h')[j]? = some g2 ∧ g ≤ g2) ∧
   (∀ (j g g0 : Nat) (l : Loc), m' j = some (g, l) → (gens h)[j]? = some g0 → g ≤ g0 → m j = some (g, l)) := by
 have hgl : ∀ (j g : Nat), (gens h)[j]? = some g → ∃ g2 : Nat, (gens h')[j]? = some g2 ∧ g ≤ g2 := by
  intro j g hj
  by_cases e : j = id
  ·subst e
   exact ⟨g', by rw [y1n, hid]; rfl, Nat.le_of_lt (hgen _ hj)⟩
  ·exact ⟨g, by rw [y1n, hh j e, ← y1n]; exact hj, zi _⟩
 have hmp : ∀ (j g g0 : Nat) (l : Loc), (fun j => if j = id then some (g', loc) else m j) j = some (g, l) → (gens h)[j]? = some g0 → g ≤ g0 → m j = some (g, l) := by
  intro j g g0 l hm hg hl
  simp only at hm
  by_cases e : j = id
  ·subst e
   rw [if_pos rfl] at hm
   injection hm with hm
   injection hm with h1 h2
   subst h1
   have := hgen g0 hg
   omega
  ·rw [if_neg e] at hm; exact hm
 have hrep : ∀ v a, Rep nm w F m (gens h) v a → Rep nm w F (fun j => if j = id then some (g', loc) else m j) (gens h') v a := fun v a hr =>
  hr.mono (fun _ _ => rfl) (fun _ h => h) hgl hmp
 refine ⟨_, rfl, ⟨?_, ?_, ?_, ?_, I.bd⟩, hrep, hgl, hmp⟩
 ·intro j g l hm
  by_cases e : j = id
  ·subst e
   rw [if_pos rfl] at hm
   injection hm with hm
   injection hm with h1 h2
   subst h1; subst h2
   exact ⟨o, hid, ho _ hrep⟩
  ·rw [if_neg e] at hm
   obtain ⟨o1, h1, h2⟩ := I.live j g l hm
   exact ⟨o1, by rw [hh j e]; exact h1, h2.of rfl hrep⟩
 ·intro j g o1 hj hd
  by_cases e : j = id
  ·subst e
   rw [hid] at hj
   injection hj with hj
   injection hj with h1 h2
   subst h1
   exact ⟨loc, by simp⟩
  ·rw [hh j e] at hj
   simp only [if_neg e]
   exact I.has j g o1 hj hd
 ·intro j g l j' g2 l2 hm hm2 hb
  by_cases e : j = id
  ·by_cases e2 : j' = id
   ·rw [e, e2]
   ·rw [if_pos e] at hm
    rw [if_neg e2] at hm2
    injection hm with hm
    injection hm with h1 h2
    subst h2
    exact (hown ⟨j', g2, l2, hm2, hb.symm⟩).elim
  ·by_cases e2 : j' = id
   ·rw [if_neg e] at hm
    rw [if_pos e2] at hm2
    injection hm2 with hm2
    injection hm2 with h1 h2
    subst h2
    exact (hown ⟨j, g, l, hm, hb⟩).elim
   ·rw [if_neg e] at hm
    rw [if_neg e2] at hm2
    exact I.inj j g l j' g2 l2 hm hm2 hb
 ·intro j g l o1 hm hj
  by_cases e : j = id
  ·subst e
   rw [if_pos rfl] at hm
   injection hm with hm
   injection hm with h1 h2
   subst h2
   rw [hid] at hj
   injection hj with hj
   injection hj with _ h3
   subst h3
   rw [hfz]
   exact ⟨fun hx => (zv hx).elim, fun hx => (hF hx).elim⟩
  ·rw [if_neg e] at hm
   rw [hh j e] at hj
   exact I.fz j g l o1 hm hj
theorem y4f {os : List OC} {j : Nat} : (y2n os)[j]? = (os[j]?).map (⟨0, ·⟩) := by simp [y2n]
def ye4 : OC → Prop
 | .arr false _ _ rows => ∀ (i : Nat) (row : List AV) (j : Nat) (l : AV), rows[i]? = some row → row[j]? = some l → Go.Vm.pure1 l = true
 | _ => True
theorem y2b1 : ∀ {k : Nat} {a : AV} {r : Fz AV}, fz h k a = some r → y19 a = true → Go.Vm.pure1 r.v = true
 | 0, _, _, hr, _ => by cases hr
 | k + 1, a, r, hr, hl => by
  simp only [fz] at hr
  split at hr <;> first
   | (cases hr; done)
   | cases hl
   | skip
  ·split at hr
   ·split at hr
    ·split at hr
     ·injection hr with hr; subst hr; rfl
     ·cases hr
    ·cases hr
   ·cases hr
  ·split at hr
   ·split at hr
    ·split at hr
     ·injection hr with hr; subst hr; rfl
     ·cases hr
    ·cases hr
   ·cases hr
  ·split at hr
   ·split at hr
    ·injection hr with hr; subst hr; rfl
    ·cases hr
   ·cases hr
  ·split at hr
   ·rename_i hp; injection hr with hr; subst hr; exact hp
   ·cases hr
structure Exd (nm : Nat → Option Nat) (w : World) (F2 : Nat → Prop) (m m2 : MapT) (os : List OC) (used : List Nat) : Prop where
 inv : Inv nm w F2 m2 (y2n os)
 con : ∀ o, o ∈ os → ye4 o
 use : ∀ j g loc, m2 j = some (g, loc) → blks m used loc.blk
theorem yjq {ids ids' : List Nat} {b : Nat} : blks m (ids ++ ids') b ↔ blks m ids b ∨ blks m ids' b := by
 constructor
 ·rintro ⟨id, h1, h2⟩
  rcases zt.1 h1 with h1 | h1
  ·exact .inl ⟨id, h1, h2⟩
  ·exact .inr ⟨id, h1, h2⟩
 ·rintro (⟨id, h1, h2⟩ | ⟨id, h1, h2⟩)
  ·exact ⟨id, z1z _ h1, h2⟩
  ·exact ⟨id, z22 _ h1, h2⟩
theorem Exd.add {F2 : Nat → Prop} {m2 : MapT} {os : List OC} {used : List Nat} (X : Exd nm w F2 m m2 os used) (I : Inv nm w F m h) {id g : Nat} {loc loc' : Loc} {o : OC} (hm : m id = some (g, loc)) (hb : loc'.blk = loc.blk)
  (hu : id ∉ used) (hF : ¬ F2 loc.blk) (hfz : o.fz = false) (hcon : ye4 o)
  (ho : ∀ (m' : MapT) (G : List Nat), (∀ v a, Rep nm w F2 m2 (gens (y2n os)) v a → Rep nm w F2 m' G v a) → ycf nm w F2 m' G loc' o) :
  ∃ m2', Exd nm w F2 m m2' (os ++ [o]) (used ++ [id]) ∧ (∀ v a, Rep nm w F2 m2 (gens (y2n os)) v a → Rep nm w F2 m2' (gens (y2n (os ++ [o]))) v a) ∧ m2' os.length = some (0, loc') := by
 have hnown : ¬ owned m2 loc'.blk := by
  rintro ⟨j, g2, l2, h1, h2⟩
  obtain ⟨id2, k1, g3, l3, k2, k3⟩ := X.use j g2 l2 h1
  have : id2 = id := I.inj id2 g3 l3 id g loc k2 hm (by rw [k3, h2, hb])
  exact hu (this ▸ k1)
 obtain ⟨m', hm', hI, hrep, _, _⟩ := adopt X.inv (h' := y2n (os ++ [o])) (id := os.length) (g' := 0) (o := o) (loc := loc') hnown (by rw [hb]; exact hF)
  (fun j hj => by
   rw [y4f, y4f]
   by_cases hlt : j < os.length
   ·rw [zx hlt]
   ·have h1 : (os ++ [o])[j]? = none := z12 (by rw [zg, zj]; omega)
    have h2 : os[j]? = none := z12 (by omega)
    rw [h1, h2])
  (by rw [y4f]; simp) hfz (fun g0 hg => by rw [y1n, y4f] at hg; simp at hg) (fun m' hrep => ho m' _ hrep)
 refine ⟨m', ⟨hI, fun o' ho' => ?_, fun j g2 l2 hj => ?_⟩, hrep, by rw [hm']; simp⟩
 ·rcases zt.1 ho' with ho' | ho'
  ·exact X.con o' ho'
  ·simp at ho'; subst ho'; exact hcon
 ·rw [hm'] at hj
  simp only at hj
  split at hj
  ·injection hj with hj
   injection hj with h1 h2
   subst h2
   exact yjq.2 (.inr ⟨id, by simp, g, loc, hm, hb.symm⟩)
  ·exact yjq.2 (.inl (X.use j g2 l2 hj))
def Sep (F2 : Nat → Prop) (m : MapT) (used xs : List Nat) : Prop := xs.Nodup ∧ (∀ id, id ∈ xs → id ∉ used) ∧ ∀ id, id ∈ xs → ∀ g loc, m id = some (g, loc) → ¬ F2 loc.blk
theorem Sep.left {F2 : Nat → Prop} {used xs ys : List Nat} (hs : Sep F2 m used (xs ++ ys)) : Sep F2 m used xs :=
 ⟨(z2e.1 hs.1).1, fun id h => hs.2.1 id (z1z _ h), fun id h => hs.2.2 id (z1z _ h)⟩
theorem Sep.right {F2 : Nat → Prop} {used xs ys : List Nat} (hs : Sep F2 m used (xs ++ ys)) : Sep F2 m (used ++ xs) ys := by
 refine ⟨(z2e.1 hs.1).2.1, fun id h hu => ?_, fun id h => hs.2.2 id (z22 _ h)⟩
 rcases zt.1 hu with hu | hu
 ·exact hs.2.1 id (z22 _ h) hu
 ·exact (z2e.1 hs.1).2.2 id hu id h rfl
def ExS (nm : Nat → Option Nat) (w : World) (F : Nat → Prop) (m : MapT) (h : Heap) (F2 : Nat → Prop) (k : Nat) : Prop :=
 ∀ (v : Value) (a : AV) (os : List OC) (r : Ex AV) (m2 : MapT) (used : List Nat), Rep nm w F m (gens h) v a → expo h k a os = some r → Exd nm w F2 m m2 os used →
  (∀ b, FB F m r.fresh r.fs b → F2 b) → Sep F2 m used r.xs →
  ∃ m2', Exd nm w F2 m m2' r.objs (used ++ r.xs) ∧ (∀ v a, Rep nm w F2 m2 (gens (y2n os)) v a → Rep nm w F2 m2' (gens (y2n r.objs)) v a) ∧ Rep nm w F2 m2' (gens (y2n r.objs)) v r.v ∧ (y19 a = true → y19 r.v = true)
theorem yev (I : Inv nm w F m h) {F2 : Nat → Prop} {v : Value} {a : AV} {os : List OC} {r : Ex AV} {m2 : MapT} {used : List Nat} (hv : Rep nm w F m (gens h) v a) (hr : exFz h a os = some r) (X : Exd nm w F2 m m2 os used)
  (hF : ∀ b, FB F m r.fresh r.fs b → F2 b) :
  ∃ m2', Exd nm w F2 m m2' r.objs (used ++ r.xs) ∧ (∀ v a, Rep nm w F2 m2 (gens (y2n os)) v a → Rep nm w F2 m2' (gens (y2n r.objs)) v a) ∧ Rep nm w F2 m2' (gens (y2n r.objs)) v r.v ∧ (y19 a = true → y19 r.v = true) := by
 unfold exFz at hr
 split at hr
 ·rename_i q hq
  injection hr with hr
  subst hr
  exact ⟨m2, by simpa using X, fun _ _ h => h, .pure ((y4b I hv hq).mono (fun _ _ => rfl) hF), yo0 hq⟩
 ·cases hr
theorem y6r {F2 : Nat → Prop} {k : Nat} (H : ExS nm w F m h F2 k) : ∀ (vs : List Value) (as : List AV) (os : List OC) (r : Ex (List AV)) (m2 : MapT) (used : List Nat), vs.length = as.length →
  (∀ (j : Nat) (v : Value) (l : AV), vs[j]? = some v → as[j]? = some l → Rep nm w F m (gens h) v l) → y30 (expo h k) as os = some r → Exd nm w F2 m m2 os used →
  (∀ b, FB F m r.fresh r.fs b → F2 b) → Sep F2 m used r.xs →
  ∃ m2', Exd nm w F2 m m2' r.objs (used ++ r.xs) ∧ (∀ v a, Rep nm w F2 m2 (gens (y2n os)) v a → Rep nm w F2 m2' (gens (y2n r.objs)) v a) ∧ vs.length = r.v.length ∧
   ∀ (j : Nat) (v : Value) (l : AV), vs[j]? = some v → r.v[j]? = some l → Rep nm w F2 m2' (gens (y2n r.objs)) v l ∧ ∃ l0, as[j]? = some l0 ∧ (y19 l0 = true → y19 l = true)
 | [], [], os, r, m2, used, _, _, hr, X, _, _ => by
  simp only [y30] at hr
  injection hr with hr
  subst hr
  exact ⟨m2, by simpa using X, fun _ _ h => h, rfl, fun j v l hv => by simp at hv⟩
 | v :: vs, a :: as, os, r, m2, used, hl, hv, hr, X, hF, hS => by
  simp only [y30] at hr
  split at hr
  ·rename_i q hq
   split at hr
   ·rename_i p hp
    injection hr with hr
    subst hr
    simp only at hF hS
    obtain ⟨m3, X3, k3, r3, l3⟩ := H v a os q m2 used (hv 0 v a rfl rfl) hq X
     (fun b hb => hF b (y5l (fun hf => by simp at hf; exact hf.1) (fun i hi => z1z _ hi) hb)) hS.left
    obtain ⟨m4, X4, k4, e4, r4⟩ := y6r H vs as q.objs p m3 (used ++ q.xs) (by simpa using hl) (fun j v l h1 h2 => hv (j + 1) v l h1 h2) hp X3
     (fun b hb => hF b (y5l (fun hf => by simp at hf; exact hf.2) (fun i hi => z22 _ hi) hb)) hS.right
    refine ⟨m4, by simpa [z1m] using X4, fun v a hr => k4 v a (k3 v a hr), by simp [e4], fun j v' l h1 h2 => ?_⟩
    cases j with
    | zero => simp at h1 h2; subst h1; subst h2; exact ⟨k4 _ _ r3, a, rfl, l3⟩
    | succ j => simp at h1 h2; obtain ⟨c1, l0, c2, c3⟩ := r4 j v' l h1 h2; exact ⟨c1, l0, by simpa using c2, c3⟩
   ·cases hr
  ·cases hr
 | [], _ :: _, _, _, _, _, h, _, _, _, _, _ => by cases h
 | _ :: _, [], _, _, _, _, h, _, _, _, _, _ => by cases h
theorem yb5 (I : Inv nm w F m h) (F2 : Nat → Prop) : ∀ k, ExS nm w F m h F2 k
 | 0 => fun _ _ _ _ _ _ _ hr => by cases hr
 | k + 1 => by
  intro v a os r m2 used hv hr X hF hS
  simp only [expo] at hr
  split at hr
  ·cases hr
  ·-- a slice
   rename_i id g es1 off len
   split at hr
   ·exact yev I hv hr X hF
   ·rename_i es rows hrows
    split at hr
    ·rename_i hc
     split at hr
     ·rename_i q hq
      injection hr with hr
      subst hr
      simp only at hF hS
      obtain ⟨loc, hm, he, hcap, cs, ty, fr, hb, hfr, hsz, hcell⟩ := I.rows hrows
      obtain ⟨ad, cap, rfl, hab, has, hes, hao, hac, hlc⟩ := hv.ls_at hm
      obtain ⟨hql, _⟩ := y2d hq
      have hlen : ((rows.drop off).take len).length = len := by simp; omega
      have hqlen : q.v.length = len := by rw [hql, hlen]
      have hnF : ¬ F2 loc.blk := hS.2.2 id (by simp) g loc hm
      obtain ⟨m3, X3, k3, e3⟩ := X.add I (id := id) (g := g) (loc := loc) (loc' := ⟨loc.blk, loc.base + off * es, es, cap, 0⟩) (o := .arr false false es q.v) hm rfl (hS.2.1 id (by simp)) hnF rfl (fun i row' j l hi hj => by
        obtain ⟨row, p, p1, p2, p3, p4, p5⟩ := y2c hq hi
        have hil : i < len := by rw [← hqlen]; exact (zb.1 hi).1
        rw [z1v, if_pos hil, z1l] at p1
        subst p3
        obtain ⟨l0, q2, r1, r2, r3, r4, r5⟩ := y2c p2 hj
        subst r3
        exact y2b1 r2 ((hcell (off + i) row p1).2 j l0 r1).1) (fun m' G hrep =>
       ⟨rfl, cs, ty, fr, hb, hfr, by
        have : (off + cap) * es ≤ loc.cap * es := z1q _ hac
        rw [z25] at this
        simp only
        omega, by rw [hqlen]; exact hlc, fun i row' hi => by
        obtain ⟨row, p, p1, p2, p3, p4, p5⟩ := y2c hq hi
        have hil : i < len := by rw [← hqlen]; exact (zb.1 hi).1
        rw [z1v, if_pos hil, z1l] at p1
        obtain ⟨b1, b2⟩ := hcell (off + i) row p1
        refine ⟨by rw [← p3, (y2d p2).1]; exact b1, fun j l hj => ?_⟩
        subst p3
        obtain ⟨l0, q2, r1, r2, r3, r4, r5⟩ := y2c p2 hj
        obtain ⟨c1, x, c0, c2, c3⟩ := b2 j l0 r1
        subst r3
        refine ⟨yo0 r2 c1, x, ?_, .pure ((y4b I c3 r2).mono (fun _ _ => rfl) (fun b hb => hF b (y5l (fun hf => r4 (p4 hf)) (fun y hy => p5 y (r5 y hy)) hb)))⟩
        simp only
        rw [show loc.base + off * es + (i * es + j) = loc.base + ((off + i) * es + j) by rw [z25]; omega]
        exact c0⟩)
      refine ⟨m3, X3, k3, ?_, fun _ => rfl⟩
      exact .ls os.length 0 es 0 len cap ad ⟨loc.blk, loc.base + off * es, es, cap, 0⟩ ⟨0, by rw [y1n, y4f]; simp, zi _⟩ (fun loc' hl => by rw [e3] at hl; injection hl with hl; injection hl with _ hl; exact hl.symm)
       hab has rfl (fun hc0 => by rw [hao hc0, he]; simp) (by simp) hlc
     ·cases hr
    ·cases hr
   ·cases hr
  ·-- a pointer
   rename_i id g i off
   split at hr
   ·exact yev I hv hr X hF
   ·rename_i es row hrows
    split at hr
    ·rename_i hc
     obtain ⟨rfl, rfl⟩ := hc
     split at hr
     ·rename_i q hq
      injection hr with hr
      subst hr
      simp only at hF hS
      obtain ⟨loc, hm, he, hcap, cs, ty, fr, hb, hfr, hsz, hcell⟩ := I.rows hrows
      have hp := hv.lp_at hm
      subst hp
      have hnF : ¬ F2 loc.blk := hS.2.2 id (by simp) g loc hm
      have hrow := hcell 0 row rfl
      have hvs : ∃ vs : List Value, vs.length = row.length ∧ (∀ (j : Nat) (x : Value), vs[j]? = some x → cs[loc.base + j]? = some x) ∧ ∀ (j : Nat) (v : Value) (l : AV), vs[j]? = some v → row[j]? = some l → Rep nm w F m (gens h) v l := by
       refine ⟨(List.range row.length).map fun j => (cs[loc.base + j]?).getD undef, by simp, fun j x hx => ?_, fun j x l hx hl => ?_⟩
       ·have hj : j < row.length := by have := (zb.1 hx).1; simpa using this
        obtain ⟨_, y, hy, _, _⟩ := hrow.2 j _ (z9 hj)
        simp [hj] at hx
        simp at hy
        rw [hy] at hx ⊢
        simp at hx
        rw [hx]
       ·have hj : j < row.length := (zb.1 hl).1
        obtain ⟨_, y, hy, _, hrep⟩ := hrow.2 j l hl
        simp [hj] at hx
        simp at hy
        rw [hy] at hx
        simp at hx
        rw [← hx]
        exact hrep
      obtain ⟨vs, hvl, hvc, hvr⟩ := hvs
      have hS2 : Sep F2 m used q.xs := by
       have : id :: q.xs = [id] ++ q.xs := rfl
       rw [this] at hS
       exact ⟨(z2e.1 hS.1).2.1, fun x hx => hS.2.1 x (z22 _ hx), fun x hx => hS.2.2 x (z22 _ hx)⟩
      obtain ⟨m3, X3, k3, e3, r3⟩ := y6r (yb5 I F2 k) vs row os q m2 used hvl hvr hq X hF hS2
      have hidn : id ∉ used ++ q.xs := by
       intro hx
       rcases zt.1 hx with hx | hx
       ·exact hS.2.1 id (by simp) hx
       ·exact (z21.1 hS.1).1 hx
      obtain ⟨m4, X4, k4, e4⟩ := X3.add I (id := id) (g := g) (loc := loc) (loc' := loc) (o := .arr true false es [q.v]) hm rfl hidn hnF rfl trivial (fun m' G hrep =>
       ⟨he, cs, ty, fr, hb, hfr, hsz, by simpa using hcap, fun i row' hi => by
        cases i with
        | succ i => simp at hi
        | zero =>
         simp at hi
         subst hi
         refine ⟨by rw [← e3, hvl]; exact hrow.1, fun j l hj => ?_⟩
         have hj2 : j < vs.length := by rw [e3]; exact (zb.1 hj).1
         obtain ⟨c1, l0, c2, c3⟩ := r3 j _ l (z9 hj2) hj
         obtain ⟨d1, _⟩ := hrow.2 j l0 c2
         exact ⟨c3 d1, _, by simpa using hvc j _ (z9 hj2), hrep _ _ c1⟩⟩)
      have hperm : Exd nm w F2 m m4 (q.objs ++ [.arr true false es [q.v]]) (used ++ id :: q.xs) := ⟨X4.inv, X4.con, fun j g2 l2 hj => by
       obtain ⟨x, x1, x2⟩ := X4.use j g2 l2 hj
       refine ⟨x, ?_, x2⟩
       simp at x1 ⊢
       rcases x1 with x1 | x1 | x1
       ·exact .inl x1
       ·exact .inr (.inr x1)
       ·exact .inr (.inl x1)⟩
      refine ⟨m4, hperm, fun v a hr => k4 v a (k3 v a hr), ?_, fun _ => rfl⟩
      have := Rep.lp (nm := nm) (w := w) (F := F2) (m := m4) (G := gens (y2n (q.objs ++ [.arr true false es [q.v]]))) q.objs.length 0 0 0 loc ⟨0, by rw [y1n, y4f]; simp, zi _⟩
       (fun loc' hl => by rw [e4] at hl; injection hl with hl; injection hl with _ hl; exact hl.symm)
      exact this
     ·cases hr
    ·cases hr
   ·cases hr
  ·-- a map
   rename_i id g
   split at hr
   ·exact yev I hv hr X hF
   ·rename_i es hes
    split at hr
    ·rename_i q hq
     injection hr with hr
     subst hr
     simp only at hF hS
     obtain ⟨loc, hm, mes, clock, hh, ms, p1, p2, p3, p4, p5⟩ := y61 I hes
     have hnF : ¬ F2 loc.blk := hS.2.2 id (by simp) g loc hm
     rw [hv.lm_at hm]
     obtain ⟨m3, X3, k3, e3⟩ := X.add I (id := id) (g := g) (loc := loc) (loc' := loc) (o := .map false q.v) hm rfl (hS.2.1 id (by simp)) hnF rfl trivial (fun m' G hrep =>
      ⟨mes, clock, hh, ms, p1, .of (by rw [(y2d hq).1]; exact p2.length) (fun i e p he hp2 => by
       obtain ⟨p0, q2, r1, r2, r3, r4, r5⟩ := y2c hq hp2
       obtain ⟨k1, k2⟩ := p2.get he r1
       unfold y2e7 at r2
       split at r2
       ·rename_i fa fb hfa hfb
        injection r2 with r2
        subst r2
        subst r3
        exact ⟨.pure ((y4b I k1 hfa).mono (fun _ _ => rfl) (fun b hb => hF b (y5l (fun hf => by have := r4 hf; simp at this; exact this.1) (fun y hy => r5 y (by simp [hy])) hb))),
         .pure ((y4b I k2 hfb).mono (fun _ _ => rfl) (fun b hb => hF b (y5l (fun hf => by have := r4 hf; simp at this; exact this.2) (fun y hy => r5 y (by simp [hy])) hb)))⟩
       ·cases r2), by
       refine ⟨y2j7 (h := h) (k := y1m) p3 (y2d hq).1 fun j y hy => ?_, p4, p5⟩
       obtain ⟨p0, q2, r1, r2, r3, r4, r5⟩ := y2c hq hy
       unfold y2e7 at r2
       split at r2
       ·rename_i fa fb hfa hfb
        injection r2 with r2
        subst r2
        subst r3
        exact ⟨p0, fa, r1, hfa, rfl⟩
       ·cases r2⟩)
     refine ⟨m3, X3, k3, ?_, fun _ => rfl⟩
     exact .lm os.length 0 loc ⟨0, by rw [y1n, y4f]; simp, zi _⟩ (fun loc' hl => by rw [e3] at hl; injection hl with hl; injection hl with _ hl; exact hl.symm)
    ·cases hr
   ·cases hr
  ·-- a struct
   rename_i cs
   split at hr
   ·rename_i q hq
    injection hr with hr
    subst hr
    obtain ⟨vs, rfl, hn, hrep⟩ := hv.agg_inv
    obtain ⟨m3, X3, k3, e3, r3⟩ := y6r (yb5 I F2 k) vs.toList cs os q m2 used (by simpa using hn) (fun j v l h1 h2 => hrep j v l (by simpa using h1) h2) hq X hF hS
    exact ⟨m3, X3, k3, .agg vs q.v (by simpa using e3) (fun j v l h1 h2 => (r3 j v l (by simpa using h1) h2).1), fun hl => by cases hl⟩
   ·cases hr
  ·-- several
   rename_i cs
   split at hr
   ·rename_i q hq
    injection hr with hr
    subst hr
    obtain ⟨vs, rfl, hn, hrep⟩ := hv.tup_inv
    obtain ⟨m3, X3, k3, e3, r3⟩ := y6r (yb5 I F2 k) vs.toList cs os q m2 used (by simpa using hn) (fun j v l h1 h2 => hrep j v l (by simpa using h1) h2) hq X hF hS
    exact ⟨m3, X3, k3, .tup vs q.v (by simpa using e3) (fun j v l h1 h2 => (r3 j v l (by simpa using h1) h2).1), fun hl => by cases hl⟩
   ·cases hr
  ·split at hr
   ·rename_i hp
    injection hr with hr
    subst hr
    simp only at hF
    refine ⟨m2, by simpa using X, fun _ _ h => h, .pure ?_, fun hl => hl⟩
    have h1 := hv.pure1 hp
    cases hs : y1u a with
    | true => exact h1.scalar hs
    | false => exact h1.mono (fun _ _ => rfl) (fun b hb => hF b (.inl ⟨hs, hb⟩))
   ·cases hr
end Go.Vm
/- The value machine: calls of functions with what is only read. -/
namespace Go.Vm
variable {P : Program} {nm : Nat → Option Nat} {w : World} {F : Nat → Prop} {m : MapT} {h : Heap} {G : List Nat}
structure Same (w w' : World) : Prop where
 os : w'.os = w.os
 tape : w'.tape = w.tape
 output : w'.output = w.output
 size : w.heap.size ≤ w'.heap.size
 block : ∀ b, b < w.heap.size → w'.heap[b]? = w.heap[b]?
def y1sv (nm : Nat → Option Nat) (N : Nat) (Fk : Nat → Prop) (w : World) (v : Value) (r : Ex AV) : Prop :=
 ∃ (F2 : Nat → Prop) (m2 : MapT), Inv nm w F2 m2 (y2n r.objs) ∧ (∀ o, o ∈ r.objs → ye4 o) ∧ Rep nm w F2 m2 (gens (y2n r.objs)) v r.v ∧
  (∀ b, F2 b → (r.fresh = false ∧ Fk b) ∨ N ≤ b) ∧ (∀ b, owned m2 b → N ≤ b)
def y3k (P : Program) (nm : Nat → Option Nat) (p : Nat → List AV → Option (Ex AV)) : Prop :=
 ∀ (f key : Nat) (args : List AV) (r : Ex AV), nm f = some key → p key args = some r → ∀ (w : World) (Fk : Nat → Prop) (vs : Array Value), (∀ b, Fk b → b < w.heap.size) → vs.size = args.length →
  (∀ (j : Nat) (v : Value) (l : AV), vs[j]? = some v → args[j]? = some l → PRep nm w Fk v l) →
  Calls P f vs w fun e w' => ∃ v, e = .returned v ∧ Same w w' ∧ y1sv nm w.heap.size Fk w' v r
def ym9 (nm : Nat → Option Nat) (w : World) (F : Nat → Prop) (m : MapT) (h : Heap) (x : AV × Heap) (e : Ending) (w' : World) : Prop :=
 ∃ v F' m', e = .returned v ∧ Inv nm w' F' m' x.2 ∧ Tr w F m (gens h) w' F' m' (gens x.2) ∧ Rep nm w' F' m' (gens x.2) v x.1
def y7j (P : Program) (nm : Nat → Option Nat) (i : Nat → List AV → Nat → Heap → Option (AV × Heap)) : Prop :=
 ∀ (f key : Nat) (args : List AV) (fb : Nat) (h : Heap) (x : AV × Heap), nm f = some key → i key args fb h = some x → ∀ (w : World) (F : Nat → Prop) (m : MapT) (vs : Array Value), Inv nm w F m h → vs.size = args.length →
  (∀ (j : Nat) (v : Value) (l : AV), vs[j]? = some v → args[j]? = some l → Rep nm w F m (gens h) v l) → Calls P f vs w (ym9 nm w F m h x)
def OC.frozen : OC → OC
 | .arr bx _ es rows => .arr bx true es rows
 | .map _ es => .map true es
 | .kmap es => .map true es
 | .dead => .dead
theorem y4j : ∀ (ids : List Nat) (h : Heap) (id g : Nat) (o : OC), h[id]? = some ⟨g, o⟩ → (y1e ids h)[id]? = some ⟨g, if id ∈ ids then o.frozen else o⟩
 | [], h, id, g, o, ho => by simpa [y1e] using ho
 | x :: ids, h, id, g, o, ho => by
  have hlt : id < h.length := (zb.1 ho).1
  have key : ∀ (h' : Heap) (o' : OC), y1e (x :: ids) h = y1e ids h' → h'[id]? = some ⟨g, o'⟩ → (if id = x then o' = o.frozen else o' = o) → (y1e (x :: ids) h)[id]? = some ⟨g, if id ∈ x :: ids then o.frozen else o⟩ := by
   intro h' o' he h1 h2
   rw [he, y4j ids h' id g o' h1]
   congr 2
   have hff : o.frozen.frozen = o.frozen := by cases o <;> rfl
   by_cases e : id = x
   ·rw [if_pos e] at h2
    subst h2
    simp only [List.mem_cons, e, true_or, if_true, hff, ite_self]
   ·rw [if_neg e] at h2
    subst h2
    simp [e]
  simp only [y1e] at key ⊢
  split at key
  ·rename_i gx bx fz es rows hx
   refine key _ (if id = x then .arr bx true es rows else o) rfl ?_ ?_
   ·by_cases e : id = x
    ·subst e
     rw [ho] at hx
     injection hx with hx
     injection hx with h1 h2
     subst h1
     simp [hlt]
    ·rw [z17 (fun e' => e e'.symm), if_neg e]; exact ho
   ·by_cases e : id = x
    ·subst e
     rw [ho] at hx
     injection hx with hx
     injection hx with h1 h2
     subst h2
     simp [OC.frozen]
    ·simp [e]
  ·rename_i gx fz es hx
   refine key _ (if id = x then .map true es else o) rfl ?_ ?_
   ·by_cases e : id = x
    ·subst e
     rw [ho] at hx
     injection hx with hx
     injection hx with h1 h2
     subst h1
     simp [hlt]
    ·rw [z17 (fun e' => e e'.symm), if_neg e]; exact ho
   ·by_cases e : id = x
    ·subst e
     rw [ho] at hx
     injection hx with hx
     injection hx with h1 h2
     subst h2
     simp [OC.frozen]
    ·simp [e]
  ·rename_i gx es hx
   refine key _ (if id = x then .map true es else o) rfl ?_ ?_
   ·by_cases e : id = x
    ·subst e
     rw [ho] at hx
     injection hx with hx
     injection hx with h1 h2
     subst h1
     simp [hlt]
    ·rw [z17 (fun e' => e e'.symm), if_neg e]; exact ho
   ·by_cases e : id = x
    ·subst e
     rw [ho] at hx
     injection hx with hx
     injection hx with h1 h2
     subst h2
     simp [OC.frozen]
    ·simp [e]
  ·rename_i h1 h2 h3
   refine key _ o rfl ho ?_
   by_cases e : id = x
   ·subst e
    rw [if_pos rfl]
    cases o with
    | dead => rfl
    | arr bx fz es rows => exact (h1 _ _ _ _ _ ho).elim
    | map fz es => exact (h2 _ _ _ ho).elim
    | kmap es => exact (h3 _ _ ho).elim
   ·rw [if_neg e]
theorem y3g : ∀ (ids : List Nat) (h : Heap), (y1e ids h).length = h.length
 | [], _ => rfl
 | x :: ids, h => by
  simp only [y1e]
  split <;> rw [y3g ids] <;> simp
theorem yk9 (ids : List Nat) (h : Heap) : gens (y1e ids h) = gens h := by
 apply z1r
 intro id
 rw [y1n, y1n]
 cases ho : h[id]? with
 | none =>
  have : h.length ≤ id := by
   rcases Nat.lt_or_ge id h.length with hl | hl
   ·rw [z9 hl] at ho; cases ho
   ·exact hl
  rw [z12 (by rw [y3g]; exact this)]
 | some x =>
  obtain ⟨g, o⟩ := x
  rw [y4j ids h id g o ho]
  rfl
theorem ycf.frozen {loc : Loc} {o : OC} (ho : ycf nm w F m G loc o) : ycf nm w F m G loc o.frozen := by
 cases o with
 | dead => exact ho
 | arr => exact ho
 | map => exact ho
 | kmap => obtain ⟨mes, h1, h2⟩ := ho; exact ⟨mes, _, h1, h2⟩
theorem ycf.notDead {loc : Loc} {o : OC} (ho : ycf nm w F m G loc o) : o.isDead = false := by
 cases o with
 | dead => exact ho.elim
 | arr => rfl
 | map => rfl
 | kmap => rfl
theorem y1gk {o : OC} (hd : o.isDead = false) : o.frozen.fz = true := by
 cases o with
 | dead => cases hd
 | arr => rfl
 | map => rfl
 | kmap => rfl
theorem ymn (I : Inv nm w F m h) {w' : World} (S : Same w w') {ids : List Nat} {F1 : Nat → Prop} (hsub : ∀ b, F b → F1 b) (hnew : ∀ b, F1 b → F b ∨ blks m ids b ∨ w.heap.size ≤ b) (hids : ∀ b, blks m ids b → F1 b)
  (hbd : ∀ b, F1 b → b < w'.heap.size) : Inv nm w' F1 m (y1e ids h) ∧ Tr w F m (gens h) w' F1 m (gens (y1e ids h)) := by
 have hg := yk9 ids h
 have hrep : ∀ v a, Rep nm w F m (gens h) v a → Rep nm w' F1 m (gens (y1e ids h)) v a := fun v a hr =>
  hr.mono (fun b hb => S.block b (I.bd b hb)) hsub (fun id g hid => ⟨g, by rw [hg]; exact hid, zi _⟩) (fun _ _ _ _ h _ _ => h)
 have hlive : ∀ id g loc, m id = some (g, loc) → ∃ o, h[id]? = some ⟨g, o⟩ ∧ ycf nm w F m (gens h) loc o ∧ (y1e ids h)[id]? = some ⟨g, if id ∈ ids then o.frozen else o⟩ := by
  intro id g loc hm
  obtain ⟨o, h1, h2⟩ := I.live id g loc hm
  exact ⟨o, h1, h2, y4j ids h id g o h1⟩
 refine ⟨⟨?_, ?_, I.inj, ?_, hbd⟩, ⟨S.os, S.tape, S.output, S.size, hsub, fun b hb _ => S.block b hb, fun b hb => .inl hb, fun b hb => ?_, fun b _ _ hq => .of ((S.block b (zo.1 hq).1).trans hq), fun id g hid => ⟨g, by rw [hg]; exact hid, zi _⟩, fun _ _ _ _ h _ _ => h⟩⟩
 ·intro id g loc hm
  obtain ⟨o, h1, h2, h3⟩ := hlive id g loc hm
  refine ⟨_, h3, ?_⟩
  have := h2.of (S.block _ (I.blk_lt hm)) hrep
  split
  ·exact this.frozen
  ·exact this
 ·intro id g o ho hd
  have hlt : id < h.length := by rw [← y3g ids h]; exact (zb.1 ho).1
  have h1 : h[id]? = some h[id] := z9 hlt
  have h2 := y4j ids h id h[id].gen h[id].c h1
  rw [ho] at h2
  injection h2 with h2
  injection h2 with h3 h4
  subst h3
  refine I.has id _ h[id].c h1 ?_
  cases hc : h[id].c with
  | dead => rw [hc] at h4; rw [h4] at hd; split at hd <;> cases hd
  | arr => rfl
  | map => rfl
  | kmap => rfl
 ·intro id g loc o hm ho
  obtain ⟨o0, h1, h2, h3⟩ := hlive id g loc hm
  rw [ho] at h3
  injection h3 with h3
  injection h3 with _ h3
  subst h3
  have hfz := I.fz id g loc o0 hm h1
  have hlt := I.blk_lt hm
  split
  ·rename_i hin
   rw [y1gk h2.notDead]
   exact ⟨fun _ => hids _ ⟨id, hin, g, loc, hm, rfl⟩, fun _ => rfl⟩
  ·rename_i hin
   rw [hfz]
   refine ⟨hsub _, fun hb => ?_⟩
   rcases hnew _ hb with hb | ⟨id2, k1, g2, l2, k2, k3⟩ | hb
   ·exact hb
   ·have := I.inj id2 g2 l2 id g loc k2 hm k3
    exact (hin (this ▸ k1)).elim
   ·omega
 ·rcases hnew b hb with hb | ⟨id2, k1, g2, l2, k2, k3⟩ | hb
  ·exact .inl hb
  ·exact .inr (.inl ⟨id2, g2, l2, k2, k3⟩)
  ·exact .inr (.inr hb)
def y15l (m2 mc : MapT) (Gc : List Nat) (tab : List (Nat × Nat)) : Prop :=
 ∀ (j id g : Nat), tab[j]? = some (id, g) → ∃ loc, m2 j = some (0, loc) ∧ mc id = some (g, loc) ∧ Gc[id]? = some g
theorem y87 {w : World} {F2 F1 : Nat → Prop} {m2 mc : MapT} {G2 Gc : List Nat} {tab : List (Nat × Nat)} (hF : ∀ b, F2 b → F1 b) (hT : y15l m2 mc Gc tab) {v : Value} {a : AV} (hv : Rep nm w F2 m2 G2 v a) :
  Rep nm w F1 mc Gc v (y3d tab a) := by
 unfold y3d
 split
 ·rename_i j es off len
  split
  ·rename_i id g hj
   obtain ⟨loc, h1, h2, h3⟩ := hT j id g hj
   cases hv with
   | pure h => cases h
   | ls _ _ _ _ _ cap ad loc' hg hl hab has hes hao hac hlc =>
    have := hl loc h1
    subst this
    exact .ls id g es off len cap ad loc ⟨g, h3, zi _⟩ (fun l' hl' => by rw [h2] at hl'; injection hl' with hl'; injection hl' with _ hl'; exact hl'.symm) hab has hes hao hac hlc
  ·exact .undef v
 ·rename_i j i off
  split
  ·rename_i id g hj
   obtain ⟨loc, h1, h2, h3⟩ := hT j id g hj
   have hp := hv.lp_at h1
   subst hp
   exact .lp id g i off loc ⟨g, h3, zi _⟩ (fun l' hl' => by rw [h2] at hl'; injection hl' with hl'; injection hl' with _ hl'; exact hl'.symm)
  ·exact .undef v
 ·rename_i j
  split
  ·rename_i id g hj
   obtain ⟨loc, h1, h2, h3⟩ := hT j id g hj
   rw [hv.lm_at h1]
   exact .lm id g loc ⟨g, h3, zi _⟩ (fun l' hl' => by rw [h2] at hl'; injection hl' with hl'; injection hl' with _ hl'; exact hl'.symm)
  ·exact .undef v
 ·split
  ·rename_i hp
   exact .pure ((hv.pure1 hp).mono (fun _ _ => rfl) hF)
  ·exact .undef v
theorem yfa {w : World} {F2 F1 : Nat → Prop} {m2 mc : MapT} {G2 Gc : List Nat} {tab : List (Nat × Nat)} (hF : ∀ b, F2 b → F1 b) (hT : y15l m2 mc Gc tab) {v : Value} {a : AV} (hv : Rep nm w F2 m2 G2 v a) :
  Rep nm w F1 mc Gc v (ybb tab a) := by
 unfold ybb
 split
 ·obtain ⟨vs, rfl, hn, hr⟩ := hv.agg_inv
  refine .agg _ _ (by simpa using hn) (fun j v l h1 h2 => ?_)
  rw [z1a] at h2
  obtain ⟨l0, h3, rfl⟩ := y4t h2
  exact y87 hF hT (hr j v l0 h1 h3)
 ·exact y87 hF hT hv
theorem y1ak {w : World} {F2 F1 : Nat → Prop} {m2 mc : MapT} {G2 Gc : List Nat} {tab : List (Nat × Nat)} (hF : ∀ b, F2 b → F1 b) (hT : y15l m2 mc Gc tab) {v : Value} {a : AV} (hv : Rep nm w F2 m2 G2 v a) :
  Rep nm w F1 mc Gc v (reloc tab a) := by
 unfold reloc
 split
 ·obtain ⟨vs, rfl, hn, hr⟩ := hv.tup_inv
  refine .tup _ _ (by simpa using hn) (fun j v l h1 h2 => ?_)
  rw [z1a] at h2
  obtain ⟨l0, h3, rfl⟩ := y4t h2
  exact yfa hF hT (hr j v l0 h1 h3)
 ·exact yfa hF hT hv
theorem PRep.scal1 {w w' : World} {F F' : Nat → Prop} {v : Value} {a : AV} (h : PRep nm w F v a) (ha : y1u a = true) : PRep nm w' F' v a :=
 (h.scalar (F' := fun _ => False) ha).mono (fun _ hb => hb.elim) fun _ hb => hb.elim
theorem PRep.scal {w w' : World} {F F' : Nat → Prop} {v : Value} {a : AV} (h : PRep nm w F v a) (ha : yrp a = true) : PRep nm w' F' v a := by
 unfold yrp at ha
 split at ha
 ·cases h with | agg vs cs hn hr => exact .agg vs _ hn fun j v l h1 h2 => (hr j v l h1 h2).scal1 (z19.1 ha _ (zs h2))
 ·exact h.scal1 ha
theorem Rep.scal1 {w w' : World} {F F' : Nat → Prop} {m : MapT} {G : List Nat} {v : Value} {a : AV} (h : Rep nm w F m G v a) (ha : y1u a = true) : PRep nm w' F' v a := by
 refine PRep.scal1 (w := w) (F := F) (h.pure1 ?_) ha
 cases a <;> first
  | rfl
  | exact ha
  | cases ha
theorem Rep.scal {w w' : World} {F F' : Nat → Prop} {m : MapT} {G : List Nat} {v : Value} {a : AV} (h : Rep nm w F m G v a) (ha : yrp a = true) : PRep nm w' F' v a := by
 unfold yrp at ha
 split at ha
 ·obtain ⟨vs, rfl, hn, hr⟩ := h.agg_inv
  exact .agg vs _ hn fun j v l h1 h2 => (hr j v l h1 h2).scal1 (z19.1 ha _ (zs h2))
 ·exact h.scal1 ha
theorem y5i.scal {w w' : World} {F F' : Nat → Prop} {m m' : MapT} {G G' : List Nat} {mes : Array MapEntry} {clock : Nat} {es : List (AV × AV)} (h : y5i (Rep nm w F m G) mes clock es) (he : (es.all fun p => yrp p.1 && yrp p.2) = true) :
  y5i (Rep nm w' F' m' G') mes clock es := by
 obtain ⟨ms, h1, h2, h3⟩ := h
 refine ⟨ms, h1, .of h2.length fun i a b e1 e2 => ?_, h3⟩
 have hb := z19.1 he _ (zs e2)
 rw [zc] at hb
 exact ⟨.pure ((h2.get e1 e2).1.scal hb.1), .pure ((h2.get e1 e2).2.scal hb.2)⟩
def y20n (fb : Nat) (sl : Option Nat) (h : Heap) (tab : List (Nat × Nat)) : Prop := ∀ (j id g : Nat), tab[j]? = some (id, g) → match sl with
 | some s => id < fb + s
 | none => id < h.length
theorem ybh {w w' : World} {F1 F2 : Nat → Prop} {m m2 : MapT} {G : List Nat} {objs : List OC} {N : Nat} (I2 : Inv nm w' F2 m2 (y2n objs)) (hpure : ∀ o, o ∈ objs → ye4 o) (hF2 : ∀ b, F2 b → F1 b)
  (hF1 : ∀ b, F1 b → F2 b ∨ b < N) (hown2 : ∀ b, owned m2 b → N ≤ b) (hbd : ∀ b, owned m b → b < N) (hN : w.heap.size = N) {fb : Nat} :
  ∀ (os done : List OC) (sl : Option Nat) (tab tab' : List (Nat × Nat)) (hc h2 : Heap) (mc : MapT), objs = done ++ os → done.length = tab.length → Inv nm w' F1 mc hc → Tr w F m G w' F1 mc (gens hc) →
   y15l m2 mc (gens hc) tab → y20n fb sl hc tab → (∀ b, owned mc b → owned m b ∨ ∃ j id g loc, tab[j]? = some (id, g) ∧ m2 j = some (0, loc) ∧ loc.blk = b) →
   y39 fb sl os tab hc = some (tab', h2) →
   ∃ mc', Inv nm w' F1 mc' h2 ∧ Tr w F m G w' F1 mc' (gens h2) ∧ y15l m2 mc' (gens h2) tab'
 | [], done, sl, tab, tab', hc, h2, mc, _, _, I, T, K, _, _, hp => by
  simp only [y39] at hp
  injection hp with hp
  injection hp with h1 h2
  subst h1; subst h2
  exact ⟨mc, I, T, K⟩
 | o :: os, done, sl, tab, tab', hc, h2, mc, hobj, hdl, I, T, K, B, O, hp => by
  simp only [y39] at hp
  split at hp
  ·rename_i id g h' hpl
   split at hpl
   ·rename_i hok
    obtain ⟨p1, p2, p3⟩ := ykn hpl
    have hget : objs[tab.length]? = some o := by rw [hobj, ← hdl]; simp
    have hgo : (y2n objs)[tab.length]? = some ⟨0, o⟩ := by rw [y4f, hget]; rfl
    have hnd : o.isDead = false := by
     cases o with
     | dead => simp [y53, okOC] at hok
     | arr => rfl
     | map => rfl
     | kmap => rfl
    obtain ⟨loc, hm2⟩ := I2.has _ _ _ hgo hnd
    obtain ⟨o', ho', hrep⟩ := I2.live _ _ _ hm2
    rw [hgo] at ho'
    injection ho' with ho'
    injection ho' with _ ho'
    subst ho'
    have hofz : o.fz = false ∧ (y53 tab o).fz = false := by
     cases o with
     | dead => simp [y53, okOC] at hok
     | arr bx fz es rows => cases bx <;> cases fz <;> simp [y53, okOC] at hok <;> exact ⟨rfl, rfl⟩
     | map fz es => cases fz with
      | true => simp [y53, okOC] at hok
      | false => exact ⟨rfl, rfl⟩
     | kmap es => simp [y53, okOC] at hok
    have hnF2 : ¬ F2 loc.blk := fun hb => by
     have := (I2.fz _ _ loc o hm2 hgo).2 hb
     rw [hofz.1] at this
     cases this
    have hge : N ≤ loc.blk := hown2 _ ⟨_, _, loc, hm2, rfl⟩
    have hnF1 : ¬ F1 loc.blk := fun hb => by
     rcases hF1 _ hb with hb | hb
     ·exact hnF2 hb
     ·omega
    have hnown : ¬ owned mc loc.blk := fun hb => by
     rcases O _ hb with hb | ⟨j, id2, g2, loc2, k1, k2, k3⟩
     ·have := hbd _ hb; omega
     ·have hj : j < tab.length := (zb.1 k1).1
      have := I2.inj j 0 loc2 tab.length 0 loc k2 hm2 k3
      omega
    have hidne : ∀ (j id2 g2 : Nat), tab[j]? = some (id2, g2) → id2 ≠ id := by
     intro j id2 g2 hj e
     have hb := B j id2 g2 hj
     subst e
     unfold place at hpl
     split at hpl
     ·injection hpl with hpl
      injection hpl with e1 _
      simp only at hb
      omega
     ·split at hpl
      ·injection hpl with hpl
       injection hpl with e1 _
       simp only at hb
       omega
      ·cases hpl
    obtain ⟨mc', hmc', I', hr', hgl', hmp'⟩ := adopt I hnown hnF1 p1 p2 hofz.2 p3 (fun m' hrep' => by
     have K' : y15l m2 m' (gens h') tab → True := fun _ => trivial
     cases o with
     | dead => cases hnd
     | kmap es => simp [y53, okOC] at hok
     | map fz es =>
      cases fz with
      | true => simp [y53, okOC] at hok
      | false =>
       obtain ⟨mes, clock, e1, e2⟩ := hrep
       exact ⟨mes, clock, e1, e2.scal hok⟩
     | arr bx fz es rows =>
      obtain ⟨e1, cs, ty, fr, e2, e3, e4, e5, e6⟩ := hrep
      cases bx with
      | false =>
       refine ⟨e1, cs, ty, fr, e2, e3, e4, e5, fun i row hi => ⟨(e6 i row hi).1, fun j l hl => ?_⟩⟩
       obtain ⟨c1, x, c2, c3⟩ := (e6 i row hi).2 j l hl
       have hpo : ye4 (.arr false fz es rows) := hpure _ (by rw [hobj]; simp)
       exact ⟨c1, x, c2, .pure ((c3.pure1 (hpo i row j l hi hl)).mono (fun _ _ => rfl) hF2)⟩
      | true =>
       refine ⟨e1, cs, ty, fr, e2, e3, e4, by simpa using e5, fun i row hi => ?_⟩
       rw [z1a] at hi
       obtain ⟨row0, hi0, rfl⟩ := y4t hi
       refine ⟨by simpa using (e6 i row0 hi0).1, fun j l hl => ?_⟩
       rw [z1a] at hl
       obtain ⟨l0, hl0, rfl⟩ := y4t hl
       obtain ⟨c1, x, c2, c3⟩ := (e6 i row0 hi0).2 j l0 hl0
       refine ⟨?_, x, c2, hrep' _ _ (y87 hF2 K c3)⟩
       have hok2 : (rows.map (·.map (y3d tab))).all (·.all y19) = true := by
        cases fz <;> simp [y53, okOC] at hok ⊢
        exact hok
       rw [z19] at hok2
       have h3 := hok2 _ (zs (show (rows.map (·.map (y3d tab)))[i]? = some (row0.map (y3d tab)) by rw [z1a, hi0]; rfl))
       rw [z19] at h3
       exact h3 _ (zs (show (row0.map (y3d tab))[j]? = some (y3d tab l0) by rw [z1a, hl0]; rfl)))
    have hGid : (gens h')[id]? = some g := by rw [y1n, p2]; rfl
    have T' : Tr w F m G w' F1 mc' (gens h') := ⟨T.os, T.tape, T.output, T.size, T.sub, T.same, fun b hb => by
      obtain ⟨j, g2, l2, k1, k2⟩ := hb
      rw [hmc'] at k1
      simp only at k1
      split at k1
      ·injection k1 with k1
       injection k1 with _ k1
       subst k1
       exact .inr (by rw [← k2, hN]; exact hge)
      ·exact T.own b ⟨j, g2, l2, k1, k2⟩, T.new, T.kp, fun id2 g2 hg => by
      obtain ⟨g3, k1, k2⟩ := T.gl id2 g2 hg
      obtain ⟨g4, k3, k4⟩ := hgl' id2 g3 k1
      exact ⟨g4, k3, z1o k2 k4⟩, fun id2 g2 g0 l2 k1 k2 k3 => by
      obtain ⟨g3, k4, k5⟩ := T.gl id2 g0 k2
      exact T.mp id2 g2 g0 l2 (hmp' id2 g2 g3 l2 k1 k4 (z1o k3 k5)) k2 k3⟩
    refine ybh I2 hpure hF2 hF1 hown2 hbd hN os (done ++ [o]) (sl.map (· + 1)) (tab ++ [(id, g)]) tab' h' h2 mc' (by rw [hobj]; simp) (by simp [hdl]) I' T' ?_ ?_ ?_ hp
    ·intro j id2 g2 hj
     rw [z1j] at hj
     split at hj
     ·obtain ⟨l2, k1, k2, k3⟩ := K j id2 g2 hj
      have hne := hidne j id2 g2 hj
      refine ⟨l2, k1, ?_, ?_⟩
      ·rw [hmc']; simp only [if_neg hne]; exact k2
      ·rw [y1n, p1 id2 hne, ← y1n]; exact k3
     ·rename_i hlt
      have hj0 : j = tab.length := by
       have := (zb.1 hj).1
       simp at this
       omega
      subst hj0
      simp at hj
      obtain ⟨rfl, rfl⟩ := hj
      exact ⟨loc, hm2, by rw [hmc']; simp, hGid⟩
    ·intro j id2 g2 hj
     have hcase : (∃ j' : Nat, tab[j']? = some (id2, g2)) ∨ id2 = id := by
      rw [z1j] at hj
      split at hj
      ·exact .inl ⟨j, hj⟩
      ·have := zs hj
       simp at this
       exact .inr this.1
     unfold place at hpl
     cases sl with
     | none =>
      simp only [Option.map_none] at hpl ⊢
      injection hpl with hpl
      injection hpl with e1 e2
      injection e2 with e2 e3
      subst e3
      simp only [zg, List.length_singleton]
      rcases hcase with ⟨j', hj'⟩ | rfl
      ·have := B j' id2 g2 hj'
       simp only at this
       omega
      ·omega
     | some s =>
      simp only [Option.map_some] at hpl ⊢
      split at hpl
      ·injection hpl with hpl
       injection hpl with e1 e2
       rcases hcase with ⟨j', hj'⟩ | rfl
       ·have := B j' id2 g2 hj'
        simp only at this
        omega
       ·omega
      ·cases hpl
    ·intro b hb
     obtain ⟨j, g2, l2, k1, k2⟩ := hb
     rw [hmc'] at k1
     simp only at k1
     split at k1
     ·injection k1 with k1
      injection k1 with _ k1
      subst k1
      exact .inr ⟨tab.length, id, g, loc, by simp, hm2, k2⟩
     ·rcases O b ⟨j, g2, l2, k1, k2⟩ with hb | ⟨j', id2, g3, l3, k3, k4, k5⟩
      ·exact .inl hb
      ·exact .inr ⟨j', id2, g3, l3, by rw [zx (zb.1 k3).1]; exact k3, k4, k5⟩
   ·cases hpl
  ·cases hp
theorem yu0 {E : Env} {C : Calls2} (hC : y3k P nm C.p) (I : Inv nm w F m h) {fb : Nat} {sl : Option Nat} {ro : Bool} {f key : Nat} {vs : Array Value} {args : List AV} {x : AV × Heap} (hk : nm f = some key) (hn : vs.size = args.length)
  (hv : ∀ (j : Nat) (v : Value) (l : AV), vs[j]? = some v → args[j]? = some l → Rep nm w F m (gens h) v l) (hx : y38 E C fb sl ro key args h = some x) : Calls P f vs w (ym9 nm w F m h x) := by
 unfold y38 at hx
 split at hx
 ·cases hx
 ·rename_i fa hfa
  split at hx
  ·cases hx
  ·rename_i r hr
   obtain ⟨hal, har⟩ := ys1 I (vs := vs.toList) (by simpa using hn) (fun j v l h1 h2 => hv j v l (by simpa using h1) h2) hfa
   have hcall := hC f key fa.v r hk hr w (FB F m fa.fresh fa.ids) vs (fun b hb => by
    rcases hb with ⟨_, hb⟩ | ⟨id, _, g, loc, h1, h2⟩
    ·exact I.bd b hb
    ·rw [← h2]; exact I.blk_lt h1) (by simpa using hal) (fun j v l h1 h2 => har j v l (by simpa using h1) h2)
   refine hcall.mono fun e w' hpost => ?_
   obtain ⟨v, rfl, S, F2, m2, I2, hpure, hrep, hF2, hown2⟩ := hpost
   have hownlt : ∀ b, owned m b → b < w.heap.size := fun b ⟨id, g, loc, h1, h2⟩ => by rw [← h2]; exact I.blk_lt h1
   -- which objects are read-only from now on
   have hcase : ∃ ids, (if (r.fresh || fa.ids.isEmpty) = true then h else y1e fa.ids h) = y1e ids h ∧ (∀ b, F2 b → F b ∨ blks m ids b ∨ w.heap.size ≤ b) := by
    by_cases hcnd : (r.fresh || fa.ids.isEmpty) = true
    ·refine ⟨[], by rw [if_pos hcnd]; rfl, fun b hb => ?_⟩
     rcases hF2 b hb with ⟨h1, h2⟩ | h1
     ·rw [h1, z1x, z3f] at hcnd
      rcases h2 with ⟨_, h2⟩ | ⟨id, h3, _⟩
      ·exact .inl h2
      ·rw [hcnd] at h3; cases h3
     ·exact .inr (.inr h1)
    ·refine ⟨fa.ids, by rw [if_neg hcnd], fun b hb => ?_⟩
     rcases hF2 b hb with ⟨h1, h2⟩ | h1
     ·rcases h2 with ⟨_, h2⟩ | h2
      ·exact .inl h2
      ·exact .inr (.inl h2)
     ·exact .inr (.inr h1)
   obtain ⟨ids, hids, hF2'⟩ := hcase
   rw [hids] at hx
   simp only at hx
   split at hx
   ·-- only read from now on
    split at hx
    ·rename_i q hq
     injection hx with hx
     subst hx
     have hp := y4b I2 hrep hq
     have hFin : ∀ b, (F b ∨ F2 b ∨ blks m ids b ∨ owned m2 b) → b < w'.heap.size := by
      rintro b (hb | hb | ⟨id, _, g, loc, h1, h2⟩ | ⟨id, g, loc, h1, h2⟩)
      ·exact z2j (I.bd b hb) S.size
      ·exact I2.bd b hb
      ·rw [← h2]; exact z2j (I.blk_lt h1) S.size
      ·rw [← h2]; exact I2.blk_lt h1
     obtain ⟨hI, hT⟩ := ymn I S (ids := ids) (F1 := fun b => F b ∨ F2 b ∨ blks m ids b ∨ owned m2 b) (fun b hb => .inl hb) (fun b hb => by
      rcases hb with hb | hb | hb | hb
      ·exact .inl hb
      ·exact hF2' b hb
      ·exact .inr (.inl hb)
      ·exact .inr (.inr (hown2 b hb))) (fun b hb => .inr (.inr (.inl hb))) hFin
     refine ⟨v, _, m, rfl, hI, hT, .pure (hp.mono (fun _ _ => rfl) (fun b hb => ?_))⟩
     rcases hb with ⟨_, hb⟩ | ⟨id, _, g, loc, h1, h2⟩
     ·exact .inr (.inl hb)
     ·exact .inr (.inr (.inr ⟨id, g, loc, h1, h2⟩))
    ·cases hx
   ·-- the caller's own
    split at hx
    ·rename_i tab h2 hpl
     injection hx with hx
     subst hx
     have hFin : ∀ b, (F b ∨ F2 b ∨ blks m ids b) → b < w'.heap.size := by
      rintro b (hb | hb | ⟨id, _, g, loc, h1, h2⟩)
      ·exact z2j (I.bd b hb) S.size
      ·exact I2.bd b hb
      ·rw [← h2]; exact z2j (I.blk_lt h1) S.size
     obtain ⟨hI, hT⟩ := ymn I S (ids := ids) (F1 := fun b => F b ∨ F2 b ∨ blks m ids b) (fun b hb => .inl hb) (fun b hb => by
      rcases hb with hb | hb | hb
      ·exact .inl hb
      ·exact hF2' b hb
      ·exact .inr (.inl hb)) (fun b hb => .inr (.inr hb)) hFin
     obtain ⟨mc, hI', hT', hK'⟩ := ybh (F := F) (m := m) (G := gens h) I2 hpure (F1 := fun b => F b ∨ F2 b ∨ blks m ids b) (fun b hb => .inr (.inl hb)) (fun b hb => by
      rcases hb with hb | hb | ⟨id, _, g, loc, h1, h2⟩
      ·exact .inr (I.bd b hb)
      ·exact .inl hb
      ·exact .inr (by rw [← h2]; exact I.blk_lt h1)) hown2 hownlt rfl r.objs [] sl [] tab (y1e ids h) h2 m rfl rfl hI hT (fun j id g hj => by simp at hj) (fun j id g hj => by simp at hj) (fun b hb => .inl hb) hpl
     exact ⟨v, _, mc, rfl, hI', hT', y1ak (fun b hb => .inr (.inl hb)) hK' hrep⟩
    ·cases hx
end Go.Vm
/- The value machine: the code of a function, and calls, against the model. -/
namespace Go.Vm
variable {P : Program} {nm : Nat → Option Nat} {w : World} {F : Nat → Prop} {m : MapT} {h : Heap} {G : List Nat}
def chkG (ops : Array Oper) : Option (Nat × Bool) → Option (Nat × Bool) → Bool
 | none, none => true
 | some (j, want), some (d, want') => want == want' && (match ops[j]? with
  | some o => o.dst == some d
  | none => false)
 | _, _ => false
structure FrN where
 n : Nat
 bar : List Nat
def y1g8 (P : Program) (nm : Nat → Option Nat) (N : FrN) (ops : Array Oper) (o : Oper) (c : CI) : Bool :=
 o.dst == c.dst && (match c.dst with
  | some d => decide (d < N.n) && !N.bar.contains d
  | none => true) && chkG ops o.guard c.g && y177 P nm o c.op
def y6i (P : Program) (nm : Nat → Option Nat) (N : FrN) (ops : Array Oper) : List Oper → List CI → Bool
 | [], [] => true
 | o :: os, c :: cs => y1g8 P nm N ops o c && y6i P nm N ops os cs
 | _, _ => false
structure SR (nm : Nat → Option Nat) (N : FrN) (K : Nat → Value) (w : World) (F : Nat → Prop) (m : MapT) (a : Act) (s : St) : Prop where
 inv : Inv nm w F m s.h
 t : TRep nm w F m (gens s.h) a s.t
 size : a.tmps.size = N.n
 defers : a.defers = []
 kept : ∀ t, t ∈ N.bar → a.tmps.getD t undef = K t
theorem ydi {a : Act} {d : Option Nat} {v : Value} {t : Nat} (h : d ≠ some t) : (a.put d v).tmps.getD t undef = a.tmps.getD t undef := by
 cases d with
 | none => rfl
 | some d =>
  have e : d ≠ t := fun e => h (by rw [e])
  simp only [Act.put]
  rw [z1d, z1d, z11, if_neg e]
theorem ygp {N : FrN} {K : Nat → Value} {a : Act} {d : Option Nat} {v : Value} (hk : ∀ t, t ∈ N.bar → a.tmps.getD t undef = K t) (hd : ∀ d', d = some d' → d' ∉ N.bar) : ∀ t, t ∈ N.bar → (a.put d v).tmps.getD t undef = K t := fun t ht => by
 rw [ydi (fun e => hd t e ht)]
 exact hk t ht
theorem TRep.put {a : Act} {t : Tmps} {d : Option Nat} {v : Value} {x : AV} {N : Nat} (hT : TRep nm w F m G a t) (hs : a.tmps.size = N) (hd : ∀ d', d = some d' → d' < N) (hv : Rep nm w F m G v x) :
  TRep nm w F m G (a.put d v) (tput d x t) ∧ (a.put d v).tmps.size = N ∧ (a.put d v).defers = a.defers := by
 cases d with
 | none => exact ⟨hT, hs, rfl⟩
 | some d =>
  refine ⟨fun i => ?_, by simp [Act.put, hs], rfl⟩
  have hlt := hd d rfl
  simp only [Act.put, tput, tget]
  by_cases e : d = i
  ·subst e
   rw [if_pos rfl]
   have : (a.tmps.setIfInBounds d v).getD d undef = v := by
    rw [z1d, z11]
    simp [hs, hlt]
   rw [this]
   exact hv
  ·rw [if_neg e]
   have : (a.tmps.setIfInBounds d v).getD i undef = a.tmps.getD i undef := by
    rw [z1d, z1d, z11, if_neg e]
   rw [this]
   exact hT i
theorem TRep.tr {a : Act} {t : Tmps} {w' : World} {F' : Nat → Prop} {m' : MapT} {G' : List Nat} (hT : TRep nm w F m G a t) (hb : ∀ b, F b → b < w.heap.size) (T : Tr w F m G w' F' m' G') : TRep nm w' F' m' G' a t :=
 fun i => (hT i).tr hb T
theorem getD_some {a : Array Value} {d : Nat} {v : Value} (h : a.getD d undef = v) (hv : v ≠ undef) : a[d]? = some v := by
 rw [z1d] at h
 cases hx : a[d]? with
 | none => rw [hx] at h; exact (hv h.symm).elim
 | some x => rw [hx] at h; simp at h; rw [h]
theorem yil {N : FrN} {K : Nat → Value} {ops : Array Oper} {a : Act} {s : St} (R : SR nm N K w F m a s) {o : Oper} {g : Option (Nat × Bool)} {b : Bool} (hc : chkG ops o.guard g = true) (hw : wants s.t g = some b) :
  Region.wanted o (yielded ops a.tmps) = b := by
 unfold chkG at hc
 unfold Region.wanted
 split at hc
 ·rename_i h1
  simp only [wants] at hw
  injection hw with hw
  rw [h1]
  exact hw
 ·rename_i j want d want' h1
  simp only [zc, beq_iff_eq] at hc
  obtain ⟨rfl, h2⟩ := hc
  split at h2
  ·rename_i oj hoj
   have hd : oj.dst = some d := by simpa using h2
   have hr := R.t d
   simp only [wants] at hw
   have hy : yielded ops a.tmps j = match a.tmps[d]? with | some (.bool b) => some b | _ => none := by
    simp only [yielded, hoj, Option.bind_some, hd]
    rfl
   rw [h1]
   simp only
   split at hw
   ·rename_i b' hb'
    injection hw with hw
    rw [hb'] at hr
    have := getD_some hr.bool_inv (by simp [undef])
    rw [hy, this]
    simp only
    rw [← hw]
    cases b' <;> cases want <;> rfl
   ·rename_i hb'
    injection hw with hw
    rw [hb'] at hr
    obtain ⟨vs, hv, hn, _⟩ := hr.tup_inv
    rw [hy, ← hw]
    have hne : ∀ b, a.tmps[d]? ≠ some (.bool b) := by
     intro b hb
     rw [z1d, hb] at hv
     cases hv
    split
    ·rename_i b hb; exact (hne b hb).elim
    ·rfl
   ·cases hw
  ·cases h2
 ·cases hc
def NmOk (P : Program) (nm : Nat → Option Nat) : Prop := P.follows .mixedOrders = true ∧ ∀ f key, nm f = some key → ∃ fn c, P.funcs[f]? = some fn ∧ fn.body = some c ∧ fn.name ≠ "runtime.NumGoroutine"
theorem yfe (H : NmOk P nm) {f key : Nat} (hk : nm f = some key) (args : Array Value) : (callFunc f args).run P w = .ok (.enter f args) w := by
 obtain ⟨fn, c, h1, h2, h3⟩ := H.2 f key hk
 simp [callFunc, h1, h3, h2]
theorem y16q {o : Oper} {sl : Option Nat} {ro : Bool} {key : Nat} {args : List Opd} (h : y177 P nm o (.call sl ro key args) = true) :
  ∃ f cargs ts, o.op = .call { callee := .value (.func f), args := cargs, argTypes := ts } ∧ nm f = some key ∧ yo3 nm cargs.toList args = true := by
 obtain ⟨dst, op, ty, pos, after, guard⟩ := o
 cases op with
 | call c =>
  obtain ⟨callee, cargs, ts⟩ := c
  cases callee with
  | value x =>
   cases x with
   | func f =>
    simp only [y177, zc, beq_iff_eq] at h
    exact ⟨f, cargs, ts, rfl, h.1, h.2⟩
   | _ => cases h
  | builtin b => cases b <;> cases h
  | invoke => cases h
 | slice xt x lo hi mx => cases mx <;> cases h
 | makeMap t r => cases r <;> cases h
 | makeFunc fn fi ca => cases fn <;> cases h
 | _ => cases h
theorem ytd {o : Oper} {sl : Option Nat} {ro : Bool} {f : Opd} {args : List Opd} (h : y177 P nm o (.callv sl ro f args) = true) :
  ∃ x cargs ts, o.op = .call { callee := .value x, args := cargs, argTypes := ts } ∧ chkO nm x f = true ∧ yo3 nm cargs.toList args = true := by
 obtain ⟨dst, op, ty, pos, after, guard⟩ := o
 cases op with
 | call c =>
  obtain ⟨callee, cargs, ts⟩ := c
  cases callee with
  | value x =>
   have h2 : (chkO nm x f && yo3 nm cargs.toList args) = true := by cases x <;> exact h
   rw [zc] at h2
   exact ⟨x, cargs, ts, rfl, h2.1, h2.2⟩
  | builtin b => cases b <;> cases h
  | invoke => cases h
 | slice xt x lo hi mx => cases mx <;> cases h
 | makeMap t r => cases r <;> cases h
 | makeFunc fn fi ca => cases fn <;> cases h
 | _ => cases h
theorem ydn {E : Env} {C : Calls2} (hP : y3k P nm C.p) (hI : y7j P nm C.i) (I : Inv nm w F m h) {fb : Nat} {sl : Option Nat} {ro : Bool} {f key : Nat} {vs : Array Value} {args : List AV} {x : AV × Heap} (hk : nm f = some key) (hn : vs.size = args.length)
  (hv : ∀ (j : Nat) (v : Value) (l : AV), vs[j]? = some v → args[j]? = some l → Rep nm w F m (gens h) v l) (hx : yc E C fb sl ro key args h = some x) : Calls P f vs w (ym9 nm w F m h x) := by
 unfold yc at hx
 split at hx
 ·exact yu0 hP I hk hn hv hx
 ·exact hI f key args _ h x hk hx w F m vs I hn hv
theorem yez (H : NmOk P nm) {E : Env} {C : Calls2} (hP : y3k P nm C.p) (hI : y7j P nm C.i) {N : FrN} {K : Nat → Value} {ops : Array Oper} {o : Oper} {c : CI} {fb : Nat} {a : Act} {s s' : St} (R : SR nm N K w F m a s) (hc : y1g8 P nm N ops o c = true)
  (hx : y2b E C fb c s = some s') {next : Act → World → Prop} {Q : Exit → Act → World → Prop}
  (hnext : ∀ a' w' F' m', SR nm N K w' F' m' a' s' → Tr w F m (gens s.h) w' F' m' (gens s'.h) → next a' w') :
  if Region.wanted o (yielded ops a.tmps) then o.wp P a w next Q else next (a.put o.dst undef) w := by
 simp only [y1g8, zc] at hc
 obtain ⟨⟨⟨h1, h2⟩, h3⟩, h4⟩ := hc
 have hd : o.dst = c.dst := by simpa using h1
 have hdl2 : ∀ d', c.dst = some d' → d' < N.n ∧ d' ∉ N.bar := by
  intro d' he
  rw [he] at h2
  simpa using h2
 have hdl : ∀ d', c.dst = some d' → d' < N.n := fun d' he => (hdl2 d' he).1
 have hdb : ∀ d', c.dst = some d' → d' ∉ N.bar := fun d' he => (hdl2 d' he).2
 unfold y2b at hx
 split at hx
 ·rename_i hw
  rw [if_pos (yil R h3 hw)]
  split at hx
  ·rename_i v h' hv
   injection hx with hx
   subst hx
   by_cases hcall : y25b c.op = true
   ·-- a call
    have fin : ∀ {f : Nat} {vs : Array Value}, (execOp a.eval o).run P w = .ok (.enter f vs) w → Calls P f vs w (ym9 nm w F m s.h (v, h')) → o.wp P a w next Q := by
     intro f vs hrun hcalls
     unfold Oper.wp
     rw [hrun, Oper.upon_enter]
     refine hcalls.mono fun e w' hp => ?_
     obtain ⟨v', F', m', rfl, hI', hT', hr'⟩ := hp
     obtain ⟨p1, p2, p3⟩ := (R.t.tr R.inv.bd hT').put (d := c.dst) R.size hdl hr'
     rw [hd]
     exact hnext _ _ F' m' ⟨hI', p1, p2, by rw [p3]; exact R.defers, ygp R.kept hdb⟩ hT'
    obtain ⟨dst, op, g⟩ := c
    cases op <;> first | cases hcall | skip
    ·-- a function
     rename_i sl ro key args
     simp only [evOp] at hv
     obtain ⟨f, cargs, ts, hop, hk, hargs⟩ := y16q h4
     obtain ⟨a1, a2⟩ := ydb R.t hargs
     refine fin (f := f) (vs := cargs.map a.eval) ?_ (ydn hP hI R.inv hk (by simpa using a1) (fun j v l h1 h2 => a2 j v l (by simpa using h1) h2) hv)
     simp [execOp, hop, resolve, Act.eval, Deferred.ofValue, invoke, yfe H hk]
    ·-- a function value
     rename_i sl ro f args
     simp only [evOp] at hv
     obtain ⟨x, cargs, ts, hop, hfo, hargs⟩ := ytd h4
     obtain ⟨a1, a2⟩ := ydb R.t hargs
     have hfr := yt R.t hfo
     split at hv
     ·rename_i key caps hfv
      rw [hfv] at hfr
      have hfn : ∀ av, Rep nm w F m (gens s.h) av (.fn key caps) → ∃ (f : Nat) (cv : Array Value), av = .func (.func f) #[] cv ∧ nm f = some key ∧ cv.size = caps.length ∧
        ∀ (j : Nat) (v : Value) (l : AV), cv[j]? = some v → caps[j]? = some l → Rep nm w F m (gens s.h) v l := by
       intro av hav
       cases hav with
       | pure hp =>
        cases hp with
        | fn f key hk => exact ⟨f, #[], rfl, hk, rfl, fun j v l h1 _ => by simp at h1⟩
       | fn f key cv caps hk hn hr => exact ⟨f, cv, rfl, hk, hn, hr⟩
      obtain ⟨f', cv, hev, hk, hcn, hcr⟩ := hfn _ hfr
      have a1' : cargs.size = args.length := by simpa using a1
      refine fin (f := f') (vs := cargs.map a.eval ++ cv) ?_ (ydn hP hI R.inv hk (by simp [a1', hcn]) (fun j v l h1 h2 => ?_) hv)
      ·simp [execOp, hop, resolve, hev, Deferred.ofValue, invoke, yfe H hk]
      ·rw [z2l] at h1
       rw [z1j] at h2
       simp only [Array.size_map] at h1
       simp only [zy] at h2
       rw [a1'] at h1
       split at h1
       ·rename_i hlt
        rw [if_pos hlt] at h2
        exact a2 j v l (by simpa using h1) h2
       ·rename_i hlt
        rw [if_neg hlt] at h2
        exact hcr _ v l h1 h2
     ·cases hv
   ·have hdo := y1ue R.inv R.t h4 (by simpa using hcall) hv
    obtain ⟨v', w', F', m', hrun, hI', hT', hr'⟩ := hdo
    obtain ⟨p1, p2, p3⟩ := (R.t.tr R.inv.bd hT').put (d := c.dst) R.size hdl hr'
    have hn := hnext _ _ F' m' ⟨hI', p1, p2, by rw [p3]; exact R.defers, ygp R.kept hdb⟩ hT'
    unfold Oper.wp
    rcases hrun with hrun | ⟨rfl, hrun⟩
    ·rw [hrun, Oper.upon_value, hd]; exact hn
    ·rw [hrun, Oper.upon_skip, hd]; exact hn
  ·cases hx
 ·rename_i hw
  rw [if_neg (by rw [yil R h3 hw]; exact zv)]
  injection hx with hx
  subst hx
  have hr : Rep nm w F m (gens s.h) undef (.tup []) := .pure (.tup #[] [] rfl (fun j v l h1 _ => by simp at h1))
  obtain ⟨p1, p2, p3⟩ := R.t.put (d := c.dst) R.size hdl hr
  rw [hd]
  exact hnext _ _ F m ⟨R.inv, p1, p2, by rw [p3]; exact R.defers, ygp R.kept hdb⟩ (Tr.refl _ _ _ _)
 ·cases hx
theorem yi1 (H : NmOk P nm) {E : Env} {C : Calls2} (hP : y3k P nm C.p) (hI : y7j P nm C.i) {N : FrN} {K : Nat → Value} {ops : Array Oper} {fb : Nat} {Q : Exit → Act → World → Prop} {rest : List Nat} :
  ∀ (l : List Oper) (cs : List CI) (k : Nat) (a : Act) (s s' : St) (w : World) (F : Nat → Prop) (m : MapT), (∀ j o, l[j]? = some o → ops[k + j]? = some o) → y6i P nm N ops l cs = true → SR nm N K w F m a s → y36 E C fb cs s = some s' →
   (∀ a' w' F' m', SR nm N K w' F' m' a' s' → Tr w F m (gens s.h) w' F' m' (gens s'.h) → wpOps P ops Q rest a' w') → wpOps P ops Q (List.range' k l.length ++ rest) a w
 | [], [], k, a, s, s', w, F, m, _, _, R, hx, hQ => by
  simp only [y36, Option.some.injEq] at hx
  subst hx
  simp only [List.length_nil, List.range'_zero, List.nil_append]
  exact hQ a w F m R (Tr.refl _ _ _ _)
 | o :: l, c :: cs, k, a, s, s', w, F, m, hl, hc, R, hx, hQ => by
  simp only [y6i, zc] at hc
  simp only [y36] at hx
  split at hx
  ·rename_i s1 hs1
   have ho : ops[k]? = some o := by have := hl 0 o rfl; simpa using this
   have hst := yez H hP hI R hc.1 hs1 (next := wpOps P ops Q (List.range' (k + 1) l.length ++ rest)) (Q := Q) (fun a' w' F' m' R' T' =>
    yi1 H hP hI l cs (k + 1) a' s1 s' w' F' m' (fun j x hj => by have := hl (j + 1) x (by simpa using hj); rw [show k + (j + 1) = k + 1 + j by omega] at this; exact this) hc.2 R' hx
     (fun a2 w2 F2 m2 R2 T2 => hQ a2 w2 F2 m2 R2 (T'.trans T2)))
   rw [zl, List.range'_succ, z20]
   simp only [wpOps, ho]
   split
   ·rename_i hw; rw [if_pos hw] at hst; exact .inl hst
   ·rename_i hw; rw [if_neg hw] at hst; exact hst
  ·cases hx
 | [], _ :: _, _, _, _, _, _, _, _, _, h, _, _, _ => by cases h
 | _ :: _, [], _, _, _, _, _, _, _, _, h, _, _, _ => by cases h
theorem ya7 (H : NmOk P nm) {E : Env} {C : Calls2} (hP : y3k P nm C.p) (hI : y7j P nm C.i) {N : FrN} {K : Nat → Value} {ops : Array Oper} {fb : Nat} {Q : Exit → Act → World → Prop} :
  ∀ (l : List Oper) (cs : List CI) (k : Nat) (a : Act) (s s' : St) (w : World) (F : Nat → Prop) (m : MapT), (∀ j, l[j]? = ops[k + j]?) → y6i P nm N ops l cs = true → SR nm N K w F m a s → y36 E C fb cs s = some s' →
   (∀ a' w' F' m', SR nm N K w' F' m' a' s' → Tr w F m (gens s.h) w' F' m' (gens s'.h) → Q .normal a' w') → wpOps P ops Q (List.range' k l.length) a w
 | [], [], k, a, s, s', w, F, m, _, _, R, hx, hQ => by
  simp only [y36] at hx
  injection hx with hx
  subst hx
  exact hQ a w F m R (Tr.refl _ _ _ _)
 | o :: l, c :: cs, k, a, s, s', w, F, m, hl, hc, R, hx, hQ => by
  simp only [y6i, zc] at hc
  simp only [y36] at hx
  split at hx
  ·rename_i s1 hs1
   have ho : ops[k]? = some o := by have := hl 0; simpa using this.symm
   have hst := yez H hP hI R hc.1 hs1 (next := wpOps P ops Q (List.range' (k + 1) l.length)) (Q := Q) (fun a' w' F' m' R' T' =>
    ya7 H hP hI l cs (k + 1) a' s1 s' w' F' m' (fun j => by have := hl (j + 1); rw [show k + (j + 1) = k + 1 + j by omega] at this; simpa using this) hc.2 R' hx
     (fun a2 w2 F2 m2 R2 T2 => hQ a2 w2 F2 m2 R2 (T'.trans T2)))
   rw [zl, List.range'_succ]
   simp only [wpOps, ho]
   split
   ·rename_i hw; rw [if_pos hw] at hst; exact .inl hst
   ·rename_i hw; rw [if_neg hw] at hst; exact hst
  ·cases hx
 | [], _ :: _, _, _, _, _, _, _, _, _, h, _, _, _ => by cases h
 | _ :: _, [], _, _, _, _, _, _, _, _, h, _, _, _ => by cases h
end Go.Vm
