/- The value machine: the rest of the operations, and all of them. -/
import Derived.Test.YtfmmcafccijnhaaVmK
namespace Go.Vm

variable {P : Program} {nm : Nat → Option Nat} {w : World} {F : Nat → Prop} {m : MapT} {h : Heap} {G : List Nat}

theorem ixstr_sound {ty : Nat} {v u : Value} {s : List UInt8} {k : IntKind} {n : Int} {b : UInt8} (hu : P.underlying ty = some .string) (hv : Rep nm w F m G v (.str s)) (hi : Rep nm w F m G u (.int k n)) (h0 : 0 ≤ n) (hb : s[n.toNat]? = some b) :
    (Instr.index ty v u).run P w = .ok (.int .u8 b.toNat) w := by
  obtain ⟨x, rfl, hx⟩ := hv.str_inv
  rw [hi.int_inv]
  have hget : x[n.toNat]? = some b := by
    have hlt : n.toNat < s.length := (List.getElem?_eq_some_iff.1 hb).1
    have hlt2 : n.toNat < x.size := by rw [show x.size = s.length by rw [← hx]; simp]; exact hlt
    rw [getElem?_pos x n.toNat hlt2]
    congr 1
    rw [← hx] at hb
    have : x.data[n.toNat]? = some b := by simpa using hb
    rw [Array.getElem?_eq_getElem hlt2] at this
    injection this
  simp [Instr.index, asIntOf, run_underlying hu, h0, hget]

/-! Maps. -/

theorem mapAt_rep (I : Inv nm w F m h) {id g : Nat} {fz : Bool} {es : List (AV × AV)} (hr : mapAt h id g = some (fz, es)) :
    ∃ loc, m id = some (g, loc) ∧ ∃ mes clock, w.heap[loc.blk]? = some (.map mes clock) ∧ mes.size = es.length ∧
      ∀ (i : Nat) (e : MapEntry) (p : AV × AV), mes[i]? = some e → es[i]? = some p → Rep nm w F m (gens h) e.key p.1 ∧ Rep nm w F m (gens h) e.val p.2 := by
  have ho := mapAt_spec hr
  obtain ⟨loc, hm⟩ := I.has id g _ ho rfl
  obtain ⟨o, ho2, hrep⟩ := I.live id g loc hm
  rw [ho] at ho2
  injection ho2 with ho2
  injection ho2 with _ ho2
  subst ho2
  exact ⟨loc, hm, hrep⟩

theorem Rep.lm_at {v : Value} {id g : Nat} {loc : Loc} (hr : Rep nm w F m G v (.lm id g)) (hm : m id = some (g, loc)) : v = .map (some loc.blk) := by
  cases hr with
  | pure h => cases h
  | lm _ _ loc' hg hl => rw [hl loc hm]

theorem Rep.rm_inv {v : Value} {es : List (AV × AV)} (hr : Rep nm w F m G v (.rm es)) : ∃ r mes clock, v = .map (some r) ∧ w.heap[r]? = some (.map mes clock) ∧ mes.size = es.length ∧
    ∀ (i : Nat) (e : MapEntry) (p : AV × AV), mes[i]? = some e → es[i]? = some p → PRep nm w F e.key p.1 ∧ PRep nm w F e.val p.2 := by
  cases hr with
  | pure h =>
    cases h with
    | rm r mes clock _ hF hh hn hk hv => exact ⟨r, mes, clock, rfl, hh, hn, fun i e p h1 h2 => ⟨hk i e p h1 h2, hv i e p h1 h2⟩⟩

theorem run_getMap {r : Nat} {mes : Array MapEntry} {clock : Nat} (hh : w.heap[r]? = some (.map mes clock)) : (getObj r).run P w = .ok (.map mes clock) w := by
  simp [getObj, Sem.run, hh]

theorem run_setMap {r : Nat} {mes mes' : Array MapEntry} {clock clock' : Nat} (hh : w.heap[r]? = some (.map mes clock)) : (setObj r (.map mes' clock')).run P w = .ok () (putObj w r (.map mes' clock')) := by
  simp [setObj, Sem.run, hh, putObj]

theorem evLen_sound (I : Inv nm w F m h) {t k : Nat} {ty : TypeId} {v : Value} {va r : AV}
    (ht : (match P.underlying t with
      | some .string => k == 0
      | some (.slice _) => k == 1
      | some (.map _ _) => k == 2
      | _ => false) = true) (hv : Rep nm w F m (gens h) v va) (hr : evLen k va h = some r) :
    ∃ x, (Builtin.len_ #[t] ty #[v]).run P w = .ok x w ∧ Rep nm w F m (gens h) x r := by
  split at ht
  · rename_i hx
    have hk : k = 0 := by simpa using ht
    subst hk
    cases va <;> simp only [evLen] at hr <;> first | (cases hr; done) | skip
    injection hr with hr
    subst hr
    obtain ⟨b, rfl, hb⟩ := hv.str_inv
    refine ⟨.int .i64 b.size, by simp [Builtin.len_, run_underlying hx, goInt], ?_⟩
    rw [← hb]
    simp only [Array.length_toList]
    exact .pure (.int _ _)
  · rename_i e hx
    have hk : k = 1 := by simpa using ht
    subst hk
    have hrun : ∀ base n cap, (Builtin.len_ #[t] ty #[.slice base n cap]).run P w = .ok (.int .i64 n) w := fun base n cap => by simp [Builtin.len_, run_underlying hx, goInt]
    cases va <;> simp only [evLen] at hr <;> first | (cases hr; done) | skip
    · injection hr with hr
      subst hr
      rw [hv.nils_inv]
      exact ⟨_, hrun _ _ _, .pure (.int _ _)⟩
    · injection hr with hr
      subst hr
      obtain ⟨b, cap, rfl, _⟩ := hv.rs_inv
      exact ⟨_, hrun _ _ _, .pure (.int _ _)⟩
    · injection hr with hr
      subst hr
      cases hv with
      | pure hp => cases hp
      | ls => exact ⟨_, hrun _ _ _, .pure (.int _ _)⟩
  · rename_i kt e hx
    have hk : k = 2 := by simpa using ht
    subst hk
    cases va <;> simp only [evLen] at hr <;> first | (cases hr; done) | skip
    · injection hr with hr
      subst hr
      rw [hv.nilm_inv]
      exact ⟨.int .i64 0, by simp [Builtin.len_, run_underlying hx, goInt], .pure (.int _ _)⟩
    · injection hr with hr
      subst hr
      obtain ⟨r, mes, clock, rfl, hh, hn, _⟩ := hv.rm_inv
      exact ⟨.int .i64 mes.size, by simp [Builtin.len_, run_underlying hx, goInt, run_getMap hh], by rw [hn]; exact .pure (.int _ _)⟩
    · split at hr
      · rename_i fz es hes
        injection hr with hr
        subst hr
        obtain ⟨loc, hm, mes, clock, hh, hn, _⟩ := mapAt_rep I hes
        rw [hv.lm_at hm]
        exact ⟨.int .i64 mes.size, by simp [Builtin.len_, run_underlying hx, goInt, run_getMap hh], by rw [hn]; exact .pure (.int _ _)⟩
      · cases hr
  · exact absurd ht Bool.false_ne_true

theorem sameNow_sound {t k : Nat} {d : TypeDesc} {v u : Value} {a b : AV} {r : Bool} (hd : P.underlying t = some d) (ht : kindOf P t = some k) (hv : Rep nm w F m G v a) (hu : Rep nm w F m G u b) (hr : leafEq k a b = some r) :
    Instr.sameNow d v u = some r ∧ (r = true → v = u) := by
  unfold kindOf at ht
  rw [hd] at ht
  split at ht
  · rename_i k0 hx
    injection ht with ht
    injection hx with hx
    subst ht; subst hx
    cases a <;> cases b <;> simp only [leafEq] at hr <;> first
      | (split at hr
         · rename_i e
           subst e
           injection hr with hr
           subst hr
           rw [hv.int_inv, hu.int_inv]
           refine ⟨by simp [Instr.sameNow], fun e => ?_⟩
           rw [beq_iff_eq] at e
           rw [e]
         · cases hr)
      | cases hr
  · rename_i hx
    injection ht with ht
    injection hx with hx
    subst ht; subst hx
    cases a <;> cases b <;> simp only [leafEq] at hr <;> first
      | (injection hr with hr
         subst hr
         rw [hv.bool_inv, hu.bool_inv]
         refine ⟨by simp [Instr.sameNow], fun e => ?_⟩
         rw [beq_iff_eq] at e
         rw [e])
      | cases hr
  · rename_i hx
    injection ht with ht
    injection hx with hx
    subst ht; subst hx
    cases a <;> cases b <;> simp only [leafEq] at hr <;> first
      | (injection hr with hr
         subst hr
         obtain ⟨x', rfl, hx'⟩ := hv.str_inv
         obtain ⟨y', rfl, hy'⟩ := hu.str_inv
         refine ⟨by simp only [Instr.sameNow, byteArray_beq, hx', hy'], fun e => ?_⟩
         rw [beq_iff_eq, ← hx', ← hy'] at e
         cases x'; cases y'
         simp at e
         rw [e])
      | cases hr
  · cases ht

/-- Where a key stands. -/
def midx (k : Nat) (a : AV) : List (AV × AV) → Nat → Option (Option Nat)
  | [], _ => some none
  | e :: r, i => match leafEq k a e.1 with
    | some true => some (some i)
    | some false => midx k a r (i + 1)
    | none => none

theorem findNow_sound {t k : Nat} {d : TypeDesc} {v : Value} {a : AV} (hd : P.underlying t = some d) (ht : kindOf P t = some k) (hv : Rep nm w F m G v a) :
    ∀ (mes : List MapEntry) (es : List (AV × AV)) (i : Nat) (o : Option Nat), mes.length = es.length → (∀ (j : Nat) (e : MapEntry) (p : AV × AV), mes[j]? = some e → es[j]? = some p → Rep nm w F m G e.key p.1) → midx k a es i = some o →
      (o = none ∧ Instr.findNow d v mes i = some none) ∨ (∃ j e p, o = some (i + j) ∧ mes[j]? = some e ∧ es[j]? = some p ∧ v = e.key ∧ Instr.findNow d v mes i = some (some (i + j, e.val)))
  | [], [], i, o, _, _, hm => by
    simp only [midx] at hm
    injection hm with hm
    exact .inl ⟨hm.symm, rfl⟩
  | e :: mes, p :: es, i, o, hl, hk, hm => by
    simp only [midx] at hm
    have h0 := hk 0 e p rfl rfl
    cases hle : leafEq k a p.1 with
    | none => rw [hle] at hm; cases hm
    | some r =>
      obtain ⟨h1, h2⟩ := sameNow_sound hd ht hv h0 hle
      rw [hle] at hm
      cases r with
      | true =>
        injection hm with hm
        exact .inr ⟨0, e, p, hm.symm, rfl, rfl, h2 rfl, by simp [Instr.findNow, h1]⟩
      | false =>
        rcases findNow_sound hd ht hv mes es (i + 1) o (by simpa using hl) (fun j e' p' h3 h4 => hk (j + 1) e' p' h3 h4) hm with ⟨h3, h4⟩ | ⟨j, e', p', h3, h4, h5, h6, h7⟩
        · exact .inl ⟨h3, by simp [Instr.findNow, h1, h4]⟩
        · exact .inr ⟨j + 1, e', p', by rw [h3]; congr 1; omega, h4, h5, h6, by simp only [Instr.findNow, h1, h7]; congr 3; omega⟩
  | [], _ :: _, _, _, h, _, _ => by cases h
  | _ :: _, [], _, _, h, _, _ => by cases h

theorem mfind_idx {k : Nat} {a : AV} : ∀ (es : List (AV × AV)) (i : Nat) (r : Option AV), mfind false [k] a es = some r → ∃ o, midx k a es i = some o ∧ ((o = none ∧ r = none) ∨ ∃ j p, o = some (i + j) ∧ es[j]? = some p ∧ r = some p.2)
  | [], i, r, h => by
    simp only [mfind] at h
    injection h with h
    exact ⟨none, rfl, .inl ⟨rfl, h.symm⟩⟩
  | (k', v') :: es, i, r, h => by
    simp only [mfind, keyEq, Bool.false_eq_true, if_false] at h
    simp only [midx]
    cases hle : leafEq k a k' with
    | none => rw [hle] at h; cases h
    | some b =>
      rw [hle] at h
      cases b with
      | true =>
        injection h with h
        exact ⟨some i, rfl, .inr ⟨0, (k', v'), rfl, rfl, h.symm⟩⟩
      | false =>
        obtain ⟨o, h1, h2⟩ := mfind_idx es (i + 1) r h
        refine ⟨o, h1, ?_⟩
        rcases h2 with h2 | ⟨j, p, h3, h4, h5⟩
        · exact .inl h2
        · exact .inr ⟨j + 1, p, by rw [h3]; congr 1; omega, h4, h5⟩

theorem mset_idx {k : Nat} {a v : AV} : ∀ (es : List (AV × AV)) (i : Nat) (r : List (AV × AV)), mset false [k] a v es = some r →
    ∃ o, midx k a es i = some o ∧ ((o = none ∧ r = es ++ [(a, v)]) ∨ ∃ j, o = some (i + j) ∧ j < es.length ∧ r = es.set j (a, v))
  | [], i, r, h => by
    simp only [mset] at h
    injection h with h
    exact ⟨none, rfl, .inl ⟨rfl, h.symm⟩⟩
  | (k', v') :: es, i, r, h => by
    simp only [mset, keyEq, Bool.false_eq_true, if_false] at h
    simp only [midx]
    cases hle : leafEq k a k' with
    | none => rw [hle] at h; cases h
    | some b =>
      rw [hle] at h
      cases b with
      | true =>
        injection h with h
        exact ⟨some i, rfl, .inr ⟨0, rfl, by simp, h.symm⟩⟩
      | false =>
        simp only [Option.map_eq_some_iff] at h
        obtain ⟨r', h0, rfl⟩ := h
        obtain ⟨o, h1, h2⟩ := mset_idx es (i + 1) r' h0
        refine ⟨o, h1, ?_⟩
        rcases h2 with ⟨h2, h3⟩ | ⟨j, h3, h4, h5⟩
        · exact .inl ⟨h2, by rw [h3]; rfl⟩
        · exact .inr ⟨j + 1, by rw [h3]; congr 1; omega, by simp; omega, by rw [h5]; rfl⟩

theorem checkKey_plain {t k : Nat} {d : TypeDesc} {empty : Bool} {n : Nat} {v : Value} {a : AV} {b : AV} {r : Bool} (hd : P.underlying t = some d) (ht : kindOf P t = some k) : (Instr.checkKey empty (n + 1) t v).run P w = .ok () w := by
  unfold kindOf at ht
  rw [hd] at ht
  simp only [Instr.checkKey, Sem.run_bind, run_underlying hd, Result.andThen_ok]
  split at ht
  · rename_i k0 hx; injection hx with hx; subst hx; rfl
  · rename_i hx; injection hx with hx; subst hx; rfl
  · rename_i hx; injection hx with hx; subst hx; rfl
  · cases ht

theorem kindOf_under {t k : Nat} (ht : kindOf P t = some k) : ∃ d, P.underlying t = some d := by
  unfold kindOf at ht
  cases hu : P.underlying t with
  | none => rw [hu] at ht; cases ht
  | some d => exact ⟨d, rfl⟩

theorem keyOk_spec {t : Nat} {agg : Bool} {ks : List Nat} (h : keyOk P t agg ks = true) : agg = false ∧ ∃ k, ks = [k] ∧ kindOf P t = some k := by
  unfold keyOk at h
  simp only [Bool.and_eq_true, Bool.not_eq_true'] at h
  obtain ⟨h1, h2⟩ := h
  refine ⟨h1, ?_⟩
  split at h2
  · rename_i k; exact ⟨k, rfl, by simpa using h2⟩
  · cases h2

theorem run_findKey {t : Nat} {d : TypeDesc} {v : Value} {mes : List MapEntry} {o : Option (Nat × Value)} (hd : P.underlying t = some d) (hf : Instr.findNow d v mes 0 = some o) : (Instr.findKey t v mes).run P w = .ok o w := by
  simp [Instr.findKey, run_underlying hd, hf]

theorem mget_sound (I : Inv nm w F m h) {t kt e : Nat} {agg : Bool} {ks : List Nat} {zero : AV} {ok : Bool} {v u : Value} {va ua r : AV} {i : TypeInfo} {z : Value} (hu : P.underlying t = some (.map kt e)) (hk : keyOk P kt agg ks = true)
    (hi : P.info? e = some i) (hz : i.zero = some z) (hmz : matchV z zero = true) (hv : Rep nm w F m (gens h) v va) (hkv : Rep nm w F m (gens h) u ua) (hr : evMget agg ks zero ok va ua h = some r) :
    ∃ x, (Instr.lookup t v u ok).run P w = .ok x w ∧ Rep nm w F m (gens h) x r := by
  obtain ⟨rfl, k, rfl, hkk⟩ := keyOk_spec hk
  obtain ⟨d, hd⟩ := kindOf_under hkk
  unfold evMget at hr
  split at hr
  · cases hr
  · rename_i es hes
    have hent : ∃ mes : Array MapEntry, ((v = .map none ∧ mes = #[]) ∨ ∃ r clock, v = .map (some r) ∧ w.heap[r]? = some (.map mes clock)) ∧ mes.size = es.length ∧
        ∀ (i : Nat) (e : MapEntry) (p : AV × AV), mes[i]? = some e → es[i]? = some p → Rep nm w F m (gens h) e.key p.1 ∧ Rep nm w F m (gens h) e.val p.2 := by
      split at hes
      · injection hes with hes
        subst hes
        exact ⟨#[], .inl ⟨hv.nilm_inv, rfl⟩, rfl, fun i e p h => by simp at h⟩
      · rename_i es'
        injection hes with hes
        subst hes
        obtain ⟨r, mes, clock, hvr, hh, hn, hp⟩ := hv.rm_inv
        exact ⟨mes, .inr ⟨r, clock, hvr, hh⟩, hn, fun i e p h1 h2 => ⟨.pure (hp i e p h1 h2).1, .pure (hp i e p h1 h2).2⟩⟩
      · rename_i id g
        simp only [Option.map_eq_some_iff] at hes
        obtain ⟨⟨fz, es'⟩, h1, h2⟩ := hes
        simp only at h2
        subst h2
        obtain ⟨loc, hm, mes, clock, hh, hn, hp⟩ := mapAt_rep I h1
        exact ⟨mes, .inr ⟨loc.blk, clock, hv.lm_at hm, hh⟩, hn, hp⟩
      · cases hes
    obtain ⟨mes, hmes, hn, hp⟩ := hent
    have hhead : ∀ o : Option (Nat × Value), Instr.findNow d u mes.toList 0 = some o → (Instr.lookup t v u ok).run P w =
        .ok (if ok then .tuple #[(match o with | some (_, v) => v | none => z), .bool o.isSome] else (match o with | some (_, v) => v | none => z)) w := by
      intro o ho
      have hck := fun b => checkKey_plain (P := P) (w := w) (empty := b) (n := 9999) (v := u) (a := ua) (b := ua) (r := true) hd hkk
      have hfk := run_findKey (P := P) (w := w) hd ho
      rcases hmes with ⟨rfl, rfl⟩ | ⟨r, clock, rfl, hh⟩
      · simp only [Instr.lookup, Sem.run_bind, run_underlying hu, Result.andThen_ok, Sem.run_pure, hck, hfk]
        cases o with
        | none => simp only [Sem.run_bind, run_zeroValue hi hz, Result.andThen_ok, Sem.run_pure]; rfl
        | some p => obtain ⟨j, x⟩ := p; simp only [Sem.run_bind, Result.andThen_ok, Sem.run_pure]; rfl
      · simp only [Instr.lookup, Sem.run_bind, run_underlying hu, Result.andThen_ok, Sem.run_pure, run_getMap hh, hck, hfk]
        cases o with
        | none => simp only [Sem.run_bind, run_zeroValue hi hz, Result.andThen_ok, Sem.run_pure]; rfl
        | some p => obtain ⟨j, x⟩ := p; simp only [Sem.run_bind, Result.andThen_ok, Sem.run_pure]; rfl
    split at hr
    · cases hr
    · rename_i x hf
      injection hr with hr
      subst hr
      obtain ⟨o, h1, h2⟩ := mfind_idx es 0 _ hf
      rcases findNow_sound hd hkk hkv mes.toList es 0 o (by simpa using hn) (fun j e p h3 h4 => (hp j e p (by simpa using h3) h4).1) h1 with ⟨h3, h4⟩ | ⟨j, e', p', h3, h4, h5, h6, h7⟩
      · rcases h2 with ⟨_, h2⟩ | ⟨j, p, h2, _⟩
        · cases h2
        · rw [h3] at h2; cases h2
      · rcases h2 with ⟨h2, _⟩ | ⟨j2, p, h2, h8, h9⟩
        · rw [h3] at h2; cases h2
        · rw [h3] at h2
          injection h2 with h2
          have hj : j = j2 := by omega
          subst hj
          injection h9 with h9
          have hrep := (hp j e' p (by simpa using h4) h8).2
          rw [← h9] at hrep
          refine ⟨_, hhead _ h7, ?_⟩
          cases ok with
          | false => exact hrep
          | true =>
            refine .tup _ _ rfl (fun k v l hv2 hl2 => ?_)
            cases k with
            | zero => simp at hv2 hl2; subst hv2; subst hl2; exact hrep
            | succ k =>
              cases k with
              | zero => simp at hv2 hl2; subst hv2; subst hl2; exact .pure (.bool _)
              | succ k => simp at hl2
    · rename_i hf
      injection hr with hr
      subst hr
      obtain ⟨o, h1, h2⟩ := mfind_idx es 0 _ hf
      have hrep : Rep nm w F m (gens h) z zero := .pure (matchV_rep hmz)
      rcases findNow_sound hd hkk hkv mes.toList es 0 o (by simpa using hn) (fun j e p h3 h4 => (hp j e p (by simpa using h3) h4).1) h1 with ⟨h3, h4⟩ | ⟨j, e', p', h3, h4, h5, h6, h7⟩
      · refine ⟨_, hhead _ h4, ?_⟩
        cases ok with
        | false => exact hrep
        | true =>
          refine .tup _ _ rfl (fun k v l hv2 hl2 => ?_)
          cases k with
          | zero => simp at hv2 hl2; subst hv2; subst hl2; exact hrep
          | succ k =>
            cases k with
            | zero => simp at hv2 hl2; subst hv2; subst hl2; exact .pure (.bool _)
            | succ k => simp at hl2
      · rcases h2 with ⟨h2, _⟩ | ⟨j2, p, _, _, h9⟩
        · rw [h3] at h2; cases h2
        · cases h9

/-- A map is turned. -/
theorem map_step (I : Inv nm w F m h) {id g : Nat} {es es' : List (AV × AV)} {loc : Loc} {mes mes' : Array MapEntry} {clock clock' : Nat} (ho : h[id]? = some ⟨g, .map false es⟩) (hm : m id = some (g, loc))
    (hh : w.heap[loc.blk]? = some (.map mes clock)) (hn : mes'.size = es'.length)
    (hp : ∀ (i : Nat) (e : MapEntry) (p : AV × AV), mes'[i]? = some e → es'[i]? = some p → Rep nm w F m (gens h) e.key p.1 ∧ Rep nm w F m (gens h) e.val p.2) :
    Inv nm (putObj w loc.blk (.map mes' clock')) F m (setMap h id es') ∧ Tr w F m (gens h) (putObj w loc.blk (.map mes' clock')) F m (gens (setMap h id es')) := by
  have hlt : loc.blk < w.heap.size := (Array.getElem?_eq_some_iff.1 hh).1
  have hsr : setMap h id es' = h.set id ⟨g, .map false es'⟩ := by unfold setMap; rw [ho]
  have hidl : id < h.length := (List.getElem?_eq_some_iff.1 ho).1
  obtain ⟨m', hm', hI, hT⟩ := put_step (w' := putObj w loc.blk (.map mes' clock')) (h' := setMap h id es') (g' := g) (o := .map false es') (loc := loc) (id := id) I
    rfl rfl rfl (by simp [putObj]) (fun b hne _ => by rw [putObj_get, if_neg (fun e => hne e.1.symm)]) (.inr ⟨g, loc, _, hm, ho, rfl, rfl⟩)
    (fun j hj => by rw [hsr, List.getElem?_set_ne (fun e => hj e.symm)]) (by rw [hsr]; simp [hidl]) rfl (.inr hm)
    (fun m' hm' hrep => ⟨mes', clock', by rw [putObj_get]; simp [hlt], hn, fun i e p h1 h2 => ⟨hrep _ _ (hp i e p h1 h2).1, hrep _ _ (hp i e p h1 h2).2⟩⟩)
  have hmm : m' = m := by
    rw [hm']
    funext j
    split
    · rename_i e; rw [e]; exact hm.symm
    · rfl
  rw [hmm] at hI hT
  exact ⟨hI, hT⟩

theorem Inv.drew (I : Inv nm w F m h) : Inv nm w.drew F m h := I.heap rfl

theorem mput_sound (I : Inv nm w F m h) {t kt e : Nat} {agg : Bool} {ks : List Nat} {v u z : Value} {va ua za : AV} {x : AV × Heap} (hu : P.underlying t = some (.map kt e)) (hk : keyOk P kt agg ks = true)
    (hv : Rep nm w F m (gens h) v va) (hkv : Rep nm w F m (gens h) u ua) (hz : Rep nm w F m (gens h) z za) (hr : evMput agg ks va ua za h = some x) :
    ∃ w', (Instr.mapUpdate t v u z).run P w = .ok () w' ∧ Inv nm w' F m x.2 ∧ Tr w F m (gens h) w' F m (gens x.2) ∧ x.1 = .tup [] := by
  obtain ⟨rfl, k, rfl, hkk⟩ := keyOk_spec hk
  obtain ⟨d, hd⟩ := kindOf_under hkk
  unfold evMput at hr
  split at hr
  · rename_i id g
    split at hr
    · rename_i es hes
      split at hr
      · rename_i es' hset
        injection hr with hr
        subst hr
        obtain ⟨loc, hm, mes, clock, hh, hn, hp⟩ := mapAt_rep I hes
        have ho := mapAt_spec hes
        rw [hv.lm_at hm]
        obtain ⟨o, h1, h2⟩ := mset_idx es 0 _ hset
        have hck := fun w => checkKey_plain (P := P) (w := w) (empty := false) (n := 9999) (v := u) (a := ua) (b := ua) (r := true) hd hkk
        rcases findNow_sound hd hkk hkv mes.toList es 0 o (by simpa using hn) (fun j e p h3 h4 => (hp j e p (by simpa using h3) h4).1) h1 with ⟨h3, h4⟩ | ⟨j, e', p', h3, h4, h5, h6, h7⟩
        · rcases h2 with ⟨_, h2⟩ | ⟨j, h2, _⟩
          · subst h2
            have hst := map_step I ho hm hh (es' := es ++ [(ua, za)]) (mes' := mes.push { key := u, val := z, born := clock }) (clock' := clock + 1) (by simp [hn]) (fun i e p h5 h6 => by
              rw [Array.getElem?_push] at h5
              rw [List.getElem?_append] at h6
              split at h5
              · rename_i hi
                injection h5 with h5
                subst h5
                rw [if_neg (by omega), hi, hn] at h6
                simp at h6
                subst h6
                exact ⟨hkv, hz⟩
              · rename_i hi
                have : i < mes.size := (Array.getElem?_eq_some_iff.1 h5).1
                rw [if_pos (by omega)] at h6
                exact hp i e p h5 h6)
            refine ⟨_, ?_, hst.1, hst.2, rfl⟩
            simp only [Instr.mapUpdate, Sem.run_bind, run_underlying hu, Result.andThen_ok, run_getMap hh, hck, run_findKey hd h4, run_setMap hh]
          · rw [h3] at h2; cases h2
        · rcases h2 with ⟨h2, _⟩ | ⟨j2, h2, h8, h9⟩
          · rw [h3] at h2; cases h2
          · rw [h3] at h2
            injection h2 with h2
            have hj : j = j2 := by omega
            subst hj
            subst h9
            have h4' : mes[j]? = some e' := by simpa using h4
            have hkey : ((mes[0 + j]?).map (·.key)).getD u = u := by rw [Nat.zero_add, h4', h6]; rfl
            have hstay : ∃ w1 : World, (Instr.keyThatStays u u).run P w = .ok u w1 ∧ w1.heap = w.heap ∧ w1.os = w.os ∧ w1.tape = w.tape ∧ w1.output = w.output := by
              unfold Instr.keyThatStays
              split
              · exact ⟨w, rfl, rfl, rfl, rfl, rfl⟩
              · exact ⟨w.drew, by simp [Question.forced], rfl, rfl, rfl, rfl⟩
            obtain ⟨w1, hs1, hs2, hs3, hs4, hs5⟩ := hstay
            have I1 : Inv nm w1 F m h := I.heap hs2
            have hmono : ∀ {v a}, Rep nm w F m (gens h) v a → Rep nm w1 F m (gens h) v a := fun hr => hr.mono (fun _ _ => by rw [hs2]) (fun _ h => h) (fun _ g h => ⟨g, h, Nat.le_refl _⟩) (fun _ _ _ _ h _ _ => h)
            have hst := map_step I1 ho hm (by rw [hs2]; exact hh) (es' := es.set j (ua, za)) (mes' := mes.modify (0 + j) fun e => { e with key := u, val := z }) (clock' := clock) (by simp [hn]) (fun i e p h10 h11 => by
              rw [Array.getElem?_modify] at h10
              rw [List.getElem?_set] at h11
              rw [Nat.zero_add] at h10
              by_cases hij : j = i
              · subst hij
                rw [if_pos rfl, h4'] at h10
                rw [if_pos rfl] at h11
                simp only [h8, if_true] at h11
                injection h10 with h10
                injection h11 with h11
                subst h10; subst h11
                exact ⟨hmono hkv, hmono hz⟩
              · rw [if_neg hij] at h10 h11
                obtain ⟨a1, a2⟩ := hp i e p h10 h11
                exact ⟨hmono a1, hmono a2⟩)
            refine ⟨_, ?_, hst.1, (Tr.heap hs2 hs3 hs4 hs5).trans hst.2, rfl⟩
            simp only [Instr.mapUpdate, Sem.run_bind, run_underlying hu, Result.andThen_ok, run_getMap hh, hck, run_findKey hd h7, hkey, hs1]
            rw [run_setMap (by rw [hs2]; exact hh)]
      · cases hr
    · cases hr
  · cases hr

theorem mkm_sound (I : Inv nm w F m h) {fb : Nat} {sl : Option Nat} {t : Nat} {id g : Nat} {h' : Heap} (hp : place fb sl (.map false []) h = some (id, g, h')) :
    Does nm w F m h ((do pure (Next.value (← Instr.makeMap t none)) : Sem Next).run P w) (.lm id g, h') := by
  have hrun : (Instr.makeMap t none).run P w = .ok (.map (some w.heap.size)) { w with heap := w.heap.push (.map #[] 0) } := by
    simp [Instr.makeMap]
  rw [run_v hrun]
  obtain ⟨m', hI, hT, hm, hG⟩ := place_new (w' := { w with heap := w.heap.push (.map #[] 0) }) (ob := .map #[] 0) (loc := ⟨w.heap.size, 0, 0, 0⟩) I hp rfl rfl rfl rfl rfl rfl
    (fun m' hrep => ⟨#[], 0, heap_push_get _ rfl, rfl, fun i e p h1 _ => by simp at h1⟩)
  exact ⟨_, _, F, m', .inl rfl, hI, hT, .lm id g ⟨w.heap.size, 0, 0, 0⟩ ⟨g, hG, Nat.le_refl _⟩ (fun loc' hl => by rw [hm] at hl; injection hl with hl; injection hl with _ hl; exact hl.symm)⟩

end Go.Vm
