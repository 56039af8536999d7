/- The value machine: comparisons, conversions, parts of values, against the model. -/
import Derived.Test.YtfmmcafccijnhaaVmI
namespace Go.Vm

variable {P : Program} {nm : Nat → Option Nat} {w : World} {F : Nat → Prop} {m : MapT} {h : Heap} {G : List Nat}

theorem equal_eq (t : TypeId) (x y : Value) : Op.equal t x y = Op.equalIn (9999 + 1) t x y := rfl

theorem eqIn_bool (d : Nat) {t : Nat} (ht : P.underlying t = some .bool) (a b : Bool) : (Op.equalIn (d + 1) t (.bool a) (.bool b)).run P w = .ok (a == b) w := by
  simp [Op.equalIn, run_underlying ht]

theorem eqIn_int (d : Nat) {t : Nat} {k0 k : IntKind} (ht : P.underlying t = some (.int k0)) (a b : Int) : (Op.equalIn (d + 1) t (.int k a) (.int k b)).run P w = .ok (a == b) w := by
  simp [Op.equalIn, run_underlying ht]

theorem eqIn_str (d : Nat) {t : Nat} (ht : P.underlying t = some .string) (a b : ByteArray) : (Op.equalIn (d + 1) t (.string a) (.string b)).run P w = .ok (a == b) w := by
  simp [Op.equalIn, run_underlying ht]

theorem guard_plain (op : BinOp) (t : TypeId) (ox oy : Operand) (v u : Value) (h1 : v.oneCell' = true) (h2 : v ≠ .nilIface) : (eqGuard op t ox oy v u).run P w = .ok () w := by
  unfold eqGuard
  cases op <;> simp <;> (cases v <;> first | rfl | exact (h2 rfl).elim | exact absurd h1 Bool.false_ne_true)

theorem binOp_eq {op : BinOp} {neq : Bool} (hop : op = if neq then .neq else .eql) {t : TypeId} {v u : Value} {b : Bool} (hi : ∀ k n, v ≠ .int k n) (hs : ∀ s, v ≠ .string s) (hf : ∀ k n, v ≠ .float k n) (hc : ∀ k n l, v ≠ .complex k n l)
    (he : (Op.equal t v u).run P w = .ok b w) : (binOp op t v u).run P w = .ok (.bool (if neq then !b else b)) w := by
  subst hop
  cases neq with
  | false =>
    simp only [Bool.false_eq_true, if_false]
    cases v <;> first
      | exact (hi _ _ rfl).elim
      | exact (hs _ rfl).elim
      | exact (hf _ _ rfl).elim
      | exact (hc _ _ _ rfl).elim
      | (cases u <;> (simp only [binOp, Sem.run_bind, he, Result.andThen_ok, Sem.run_pure]))
  | true =>
    simp only [if_true]
    cases v <;> first
      | exact (hi _ _ rfl).elim
      | exact (hs _ rfl).elim
      | exact (hf _ _ rfl).elim
      | exact (hc _ _ _ rfl).elim
      | (cases u <;> (simp only [binOp, Sem.run_bind, he, Result.andThen_ok, Sem.run_pure]))

theorem eqb_sound {t : Nat} {op : BinOp} {neq : Bool} {ox oy : Operand} {v u : Value} {a b : Bool} (hop : op = if neq then .neq else .eql) (ht : P.underlying t = some .bool)
    (hv : Rep nm w F m G v (.bool a)) (hu : Rep nm w F m G u (.bool b)) :
    (do eqGuard op t ox oy v u; binOp op t v u : Sem Value).run P w = .ok (.bool (if neq then !(a == b) else a == b)) w := by
  have e1 := hv.bool_inv
  have e2 := hu.bool_inv
  subst e1; subst e2
  rw [Sem.run_bind, guard_plain _ _ _ _ _ _ rfl (by simp), Result.andThen_ok]
  exact binOp_eq hop (by simp) (by simp) (by simp) (by simp) (by rw [equal_eq]; exact eqIn_bool _ ht a b)

theorem Rep.ls_shape {v : Value} {id g es off len : Nat} (hv : Rep nm w F m G v (.ls id g es off len)) : ∃ p l c, v = .slice (some p) l c := by
  cases hv with
  | pure h => cases h
  | ls => exact ⟨_, _, _, rfl⟩

theorem Rep.lm_shape {v : Value} {id g : Nat} (hv : Rep nm w F m G v (.lm id g)) : ∃ p, v = .map (some p) := by
  cases hv with
  | pure h => cases h
  | lm => exact ⟨_, rfl⟩

theorem Rep.rm_shape {v : Value} {es : List (AV × AV)} (hv : Rep nm w F m G v (.rm es)) : ∃ p, v = .map (some p) := by
  cases hv with
  | pure h =>
    cases h with
    | rm => exact ⟨_, rfl⟩

/-- A value of one of the kinds that may be nothing. -/
theorem isNil_inv {k : Nat} {v : Value} {a : AV} {b : Bool} (hv : Rep nm w F m G v a) (hb : isNil k a = some b) :
    (k = 0 ∧ ((b = true ∧ v = .pointer none) ∨ (b = false ∧ ∃ p, v = .pointer (some p)))) ∨
    (k = 1 ∧ ((b = true ∧ v = .slice none 0 0) ∨ (b = false ∧ ∃ p l c, v = .slice (some p) l c))) ∨
    (k = 2 ∧ ((b = true ∧ v = .map none) ∨ (b = false ∧ ∃ p, v = .map (some p)))) := by
  unfold isNil at hb
  split at hb <;> first
    | (injection hb with hb; subst hb; exact .inl ⟨rfl, .inl ⟨rfl, hv.nilp_inv⟩⟩)
    | (injection hb with hb; subst hb; obtain ⟨x, y, hx, _⟩ := hv.rp_inv; exact .inl ⟨rfl, .inr ⟨rfl, _, hx⟩⟩)
    | (injection hb with hb; subst hb; obtain ⟨x, hx, _⟩ := hv.lp_inv; exact .inl ⟨rfl, .inr ⟨rfl, _, hx⟩⟩)
    | (injection hb with hb; subst hb; exact .inr (.inl ⟨rfl, .inl ⟨rfl, hv.nils_inv⟩⟩))
    | (injection hb with hb; subst hb; obtain ⟨x, y, hx, _⟩ := hv.rs_inv; exact .inr (.inl ⟨rfl, .inr ⟨rfl, _, _, _, hx⟩⟩))
    | (injection hb with hb; subst hb; exact .inr (.inl ⟨rfl, .inr ⟨rfl, hv.ls_shape⟩⟩))
    | (injection hb with hb; subst hb; exact .inr (.inr ⟨rfl, .inl ⟨rfl, hv.nilm_inv⟩⟩))
    | (injection hb with hb; subst hb; exact .inr (.inr ⟨rfl, .inr ⟨rfl, hv.rm_shape⟩⟩))
    | (injection hb with hb; subst hb; exact .inr (.inr ⟨rfl, .inr ⟨rfl, hv.lm_shape⟩⟩))
    | cases hb

theorem evEqn_inv {k : Nat} {va ua : AV} {b : Bool} (hb : evEqn k va ua = some b) : ∃ x y, isNil k va = some x ∧ isNil k ua = some y ∧ (x || y) = true ∧ b = (x && y) := by
  unfold evEqn at hb
  cases h1 : isNil k va with
  | none => rw [h1] at hb; simp at hb
  | some x =>
    cases h2 : isNil k ua with
    | none => rw [h1, h2] at hb; cases x <;> simp at hb
    | some y =>
      rw [h1, h2] at hb
      refine ⟨x, y, rfl, rfl, ?_, ?_⟩ <;> cases x <;> cases y <;> simp at hb ⊢ <;> first | exact hb | exact hb.symm

theorem eqIn_nil (d : Nat) {t k : Nat} {v u : Value} {va ua : AV} {b : Bool}
    (ht : (match P.underlying t with
     | some (.pointer _) => k == 0
     | some (.slice _) => k == 1
     | some (.map _ _) => k == 2
     | _ => false) = true)
    (hv : Rep nm w F m G v va) (hu : Rep nm w F m G u ua) (hb : evEqn k va ua = some b) : (Op.equalIn (d + 1) t v u).run P w = .ok b w := by
  obtain ⟨x, y, h1, h2, hxy, rfl⟩ := evEqn_inv hb
  rcases isNil_inv hv h1 with ⟨rfl, h3⟩ | ⟨rfl, h3⟩ | ⟨rfl, h3⟩
  · rcases isNil_inv hu h2 with ⟨_, h4⟩ | ⟨h5, _⟩ | ⟨h5, _⟩
    · split at ht <;> first
        | exact absurd ht Bool.false_ne_true
        | (rename_i hx
           rcases h3 with ⟨rfl, rfl⟩ | ⟨rfl, p, rfl⟩ <;> rcases h4 with ⟨rfl, rfl⟩ | ⟨rfl, q, rfl⟩ <;> first
             | (simp [Op.equalIn, run_underlying hx]; done)
             | (simp at hxy; done))
        | exact absurd ht (by decide)
    · omega
    · omega
  · rcases isNil_inv hu h2 with ⟨h5, _⟩ | ⟨_, h4⟩ | ⟨h5, _⟩
    · omega
    · split at ht <;> first
        | exact absurd ht Bool.false_ne_true
        | (rename_i hx
           rcases h3 with ⟨rfl, rfl⟩ | ⟨rfl, p, l, c, rfl⟩ <;> rcases h4 with ⟨rfl, rfl⟩ | ⟨rfl, q, l2, c2, rfl⟩ <;> first
             | (simp [Op.equalIn, run_underlying hx]; done)
             | (simp at hxy; done))
        | exact absurd ht (by decide)
    · omega
  · rcases isNil_inv hu h2 with ⟨h5, _⟩ | ⟨h5, _⟩ | ⟨_, h4⟩
    · omega
    · omega
    · split at ht <;> first
        | exact absurd ht Bool.false_ne_true
        | (rename_i hx
           rcases h3 with ⟨rfl, rfl⟩ | ⟨rfl, p, rfl⟩ <;> rcases h4 with ⟨rfl, rfl⟩ | ⟨rfl, q, rfl⟩ <;> first
             | (simp [Op.equalIn, run_underlying hx]; done)
             | (simp at hxy; done))
        | exact absurd ht (by decide)

theorem eqn_sound {t k : Nat} {op : BinOp} {neq : Bool} {ox oy : Operand} {v u : Value} {va ua : AV} {b : Bool} (hop : op = if neq then .neq else .eql)
    (ht : (match P.underlying t with
     | some (.pointer _) => k == 0
     | some (.slice _) => k == 1
     | some (.map _ _) => k == 2
     | _ => false) = true)
    (hv : Rep nm w F m G v va) (hu : Rep nm w F m G u ua) (hb : evEqn k va ua = some b) :
    (do eqGuard op t ox oy v u; binOp op t v u : Sem Value).run P w = .ok (.bool (if neq then !b else b)) w := by
  obtain ⟨b0, _, hb0, _⟩ := evEqn_inv hb
  have hshape : v.oneCell' = true ∧ v ≠ .nilIface ∧ (∀ k n, v ≠ .int k n) ∧ (∀ s, v ≠ .string s) ∧ (∀ k n, v ≠ .float k n) ∧ (∀ k n l, v ≠ .complex k n l) := by
    rcases isNil_inv hv hb0 with ⟨_, h3⟩ | ⟨_, h3⟩ | ⟨_, h3⟩
    · rcases h3 with ⟨_, rfl⟩ | ⟨_, p, rfl⟩ <;> exact ⟨rfl, by simp, by simp, by simp, by simp, by simp⟩
    · rcases h3 with ⟨_, rfl⟩ | ⟨_, p, l, c, rfl⟩ <;> exact ⟨rfl, by simp, by simp, by simp, by simp, by simp⟩
    · rcases h3 with ⟨_, rfl⟩ | ⟨_, p, rfl⟩ <;> exact ⟨rfl, by simp, by simp, by simp, by simp, by simp⟩
  obtain ⟨s1, s2, s3, s4, s5, s6⟩ := hshape
  rw [Sem.run_bind, guard_plain _ _ _ _ _ _ s1 s2, Result.andThen_ok]
  exact binOp_eq hop s3 s4 s5 s6 (by rw [equal_eq]; exact eqIn_nil _ ht hv hu hb)

/-! Leaves of structs. -/

theorem byteArray_beq (a b : ByteArray) : (a == b) = (a.data.toList == b.data.toList) := by
  cases a with
  | mk d =>
    cases b with
    | mk e =>
      have h1 : ((ByteArray.mk d) == (ByteArray.mk e)) = (d == e) := rfl
      rw [h1]
      exact (Array.beq_toList d e).symm

/-- Two leaves of a plain type. -/
theorem leafEq_sound (d : Nat) {t k : Nat} {v u : Value} {a b : AV} {r : Bool} (ht : kindOf P t = some k) (hv : Rep nm w F m G v a) (hu : Rep nm w F m G u b) (hr : leafEq k a b = some r) :
    (Op.equalIn (d + 1) t v u).run P w = .ok r w := by
  unfold kindOf at ht
  split at ht
  · rename_i k0 hx
    injection ht with ht
    subst ht
    cases a <;> cases b <;> simp only [leafEq] at hr <;> first
      | (split at hr
         · rename_i e
           subst e
           injection hr with hr
           subst hr
           rw [hv.int_inv, hu.int_inv]
           exact eqIn_int d hx _ _
         · cases hr)
      | cases hr
  · rename_i hx
    injection ht with ht
    subst ht
    cases a <;> cases b <;> simp only [leafEq] at hr <;> first
      | (injection hr with hr
         subst hr
         rw [hv.bool_inv, hu.bool_inv]
         exact eqIn_bool d hx _ _)
      | cases hr
  · rename_i hx
    injection ht with ht
    subst ht
    cases a <;> cases b <;> simp only [leafEq] at hr <;> first
      | (injection hr with hr
         subst hr
         obtain ⟨x', rfl, hx'⟩ := hv.str_inv
         obtain ⟨y', rfl, hy'⟩ := hu.str_inv
         rw [eqIn_str d hx, byteArray_beq, hx', hy'])
      | cases hr
  · cases ht

/-! Parts of values. -/

theorem LRep.of_agg {v : Value} {cs : List AV} (hv : Rep nm w F m G v (.agg cs)) : ∃ vs : Array Value, v = .agg vs ∧ LRep nm w F m G vs.toList cs := by
  obtain ⟨vs, rfl, hn, hr⟩ := hv.agg_inv
  exact ⟨vs, rfl, by simpa using hn, fun j v l h1 h2 => hr j v l (by simpa using h1) h2⟩

theorem part_sound {t n off : Nat} {agg : Bool} {vs : Array Value} {cs : List AV} {r : AV} (ha : aggIs P t agg = true) (hs : sizeIs P t n = true) (h1 : (agg || n == 1) = true) (hl : LRep nm w F m G vs.toList cs)
    (hr : aggOr agg n (cs.drop off) = some r) : ∃ x, (part t vs off).run P w = .ok x w ∧ Rep nm w F m G x r := by
  have hsz : vs.size = cs.length := by simpa using hl.1
  simp only [part, Sem.run_bind, run_isAgg ha, Result.andThen_ok]
  cases agg with
  | true =>
    simp only [aggOr, if_true] at hr
    split at hr
    · rename_i hn
      injection hr with hr
      subst hr
      refine ⟨.agg (vs.extract off (off + n)), by simp only [if_true, Sem.run_bind, run_sizeOf hs, Result.andThen_ok, Sem.run_pure], .agg _ _ ?_ (fun j v l hv hl2 => ?_)⟩
      · simp at hn ⊢; omega
      · rw [Array.getElem?_extract] at hv
        rw [List.getElem?_take] at hl2
        split at hl2
        · rename_i hj
          rw [List.getElem?_drop] at hl2
          split at hv
          · exact hl.2 (off + j) v l (by simpa using hv) hl2
          · cases hv
        · cases hl2
    · cases hr
  | false =>
    simp only [aggOr, Bool.false_eq_true, if_false, List.head?_drop] at hr
    obtain ⟨v, hv, hrep⟩ := hl.get hr
    refine ⟨v, ?_, hrep⟩
    have hv2 : vs[off]? = some v := by simpa using hv
    simp only [Bool.false_eq_true, if_false, hv2, Sem.run_pure]

theorem asNat_sound {x : AV} {v : Value} {hi n : Nat} (hv : Rep nm w F m G v x) (hn : asNat x hi = some n) (code : BoundsCode) : (Instr.sliceBound v hi code).run P w = .ok n w ∧ n ≤ hi := by
  unfold asNat at hn
  split at hn
  · rename_i k i
    split at hn
    · rename_i hc
      injection hn with hn
      subst hn
      rw [hv.int_inv]
      refine ⟨by simp [Instr.sliceBound, asIntOf, hc], by omega⟩
    · cases hn
  · cases hn

theorem optIx_sound {a : Act} {t : Tmps} (hT : TRep nm w F m G a t) {o : Option Operand} {o' : Option Opd} (hc : chkOpt nm o o' = true) {hi dflt n : Nat} (hn : optIx t hi dflt o' = some n) (hd : dflt ≤ hi) :
    n ≤ hi ∧ ((o = none ∧ n = dflt) ∨ ∃ x, o = some x ∧ ∀ code, (Instr.sliceBound (a.eval x) hi code).run P w = .ok n w) := by
  unfold chkOpt at hc
  split at hc
  · simp [optIx] at hn
    subst hn
    exact ⟨hd, .inl ⟨rfl, rfl⟩⟩
  · rename_i x y
    simp only [optIx] at hn
    have := fun code => asNat_sound (P := P) (chkO_rep hT hc) hn code
    exact ⟨(this .index).2, .inr ⟨x, rfl, fun code => (this code).1⟩⟩
  · cases hc

/-- The bounds of a slice expression. -/
theorem sliceBounds_sound {a : Act} {t : Tmps} (hT : TRep nm w F m G a t) {lo hi : Option Operand} {lo' hi' : Option Opd} (h1 : chkOpt nm lo lo' = true) (h2 : chkOpt nm hi hi' = true) {isS : Bool} {len cap b l : Nat}
    (hb : optIx t len len hi' = some b) (hl : optIx t b 0 lo' = some l) (hcap : len ≤ cap) :
    (Instr.sliceBounds isS len cap (lo.map a.eval) (hi.map a.eval) none).run P w = .ok (l, b, cap) w ∧ l ≤ b ∧ b ≤ len := by
  obtain ⟨hbl, hb2⟩ := optIx_sound (P := P) hT h2 hb (Nat.le_refl _)
  obtain ⟨hlb, hl2⟩ := optIx_sound (P := P) hT h1 hl (Nat.zero_le _)
  refine ⟨?_, hlb, hbl⟩
  have hbc : ∀ x, hi = some x → ∀ code, (Instr.sliceBound (a.eval x) cap code).run P w = .ok b w := by
    intro x hx code
    rcases hb2 with ⟨e, _⟩ | ⟨x', e, hrun⟩
    · rw [hx] at e; cases e
    · rw [hx] at e
      injection e with e
      subst e
      have h3 := hrun code
      unfold Instr.sliceBound at h3 ⊢
      cases hev : a.eval x with
      | int k i =>
        rw [hev] at h3
        simp only [asIntOf, Sem.run_bind, Sem.run_pure, Result.andThen_ok, Sem.run_ite] at h3 ⊢
        split at h3
        · rename_i hc
          rw [if_pos ⟨hc.1, by omega⟩]; exact h3
        · exfalso
          unfold boundsPanic runtimePanic at h3
          split at h3 <;> simp at h3 <;> (try (split at h3 <;> simp at h3))
      | pointer p => rw [hev] at h3; cases p <;> simp [asIntOf] at h3
      | _ => rw [hev] at h3; simp [asIntOf] at h3
  unfold Instr.sliceBounds
  rcases hb2 with ⟨rfl, rfl⟩ | ⟨x, rfl, _⟩
  · rcases hl2 with ⟨rfl, rfl⟩ | ⟨y, rfl, hy⟩
    · simp
    · simp [hy]
  · rcases hl2 with ⟨rfl, rfl⟩ | ⟨y, rfl, hy⟩
    · simp [hbc x rfl]
    · simp [hbc x rfl, hy]

end Go.Vm
