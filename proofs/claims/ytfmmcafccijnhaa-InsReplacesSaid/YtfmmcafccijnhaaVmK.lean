/- The value machine: structs compared, conversions, slices cut, places in slices and arrays, maps, against the model. -/
import Derived.Test.YtfmmcafccijnhaaVmJ
namespace Go.Vm

variable {P : Program} {nm : Nat → Option Nat} {w : World} {F : Nat → Prop} {m : MapT} {h : Heap} {G : List Nat}

theorem part_leaf {t off : Nat} {vs : Array Value} {v : Value} (ha : aggIs P t false = true) (hv : vs[off]? = some v) : (part t vs off).run P w = .ok v w := by
  simp only [part, Sem.run_bind, run_isAgg ha, Result.andThen_ok, Bool.false_eq_true, if_false, hv, Sem.run_pure]

theorem eqIn_struct {d d1 : Nat} (hd : d1 = d + 1) {t : Nat} {ks : List Nat} {vs us : Array Value} {as bs : List AV} {r : Bool} (ht : flatStruct P t ks = true) (hv : LRep nm w F m G vs.toList as) (hu : LRep nm w F m G us.toList bs)
    (hr : leavesEq ks as bs = some r) : (Op.equalIn (d1 + 1) t (.agg vs) (.agg us)).run P w = .ok r w := by
  unfold flatStruct at ht
  split at ht
  · rename_i fs hx
    simp only [Bool.and_eq_true, Bool.not_eq_true'] at ht
    obtain ⟨h1, h2⟩ := ht
    have key : ∀ (l : List Field) (n : Nat) (ks : List Nat) (as' bs' : List AV) (r : Bool), flatFields P l n ks = true → (∀ j a, as'[j]? = some a → as[n + j]? = some a) → (∀ j a, bs'[j]? = some a → bs[n + j]? = some a) →
        leavesEq ks as' bs' = some r →
        (forIn l (none, ()) (fun f (_ : Option Bool × Unit) =>
          (if f.name ≠ "_" then do
            let __do_lift ← part f.type vs f.offset
            let __do_lift_1 ← part f.type us f.offset
            let __do_lift ← Op.equalIn d1 f.type __do_lift __do_lift_1
            if (!__do_lift) = true then pure (ForInStep.done (some false, ())) else pure (ForInStep.yield (none, ()))
          else pure (ForInStep.yield (none, ())) : Sem (ForInStep (Option Bool × Unit))))).run P w = .ok (if r then none else some false, ()) w := by
      intro l
      induction l with
      | nil =>
        intro n ks as' bs' r hf _ _ hr
        cases ks with
        | cons => cases hf
        | nil =>
          cases as' <;> cases bs' <;> simp [leavesEq] at hr
          subst hr
          simp
      | cons f l ih =>
        intro n ks as' bs' r hf ha hb hr
        cases ks with
        | nil => cases hf
        | cons k ks =>
          simp only [flatFields, Bool.and_eq_true, bne_iff_ne, ne_eq, beq_iff_eq] at hf
          obtain ⟨⟨⟨⟨⟨f1, f2⟩, f3⟩, f4⟩, f5⟩, f6⟩ := hf
          cases as' with
          | nil => simp [leavesEq] at hr
          | cons a as' =>
            cases bs' with
            | nil => simp [leavesEq] at hr
            | cons b bs' =>
              simp only [leavesEq] at hr
              split at hr
              · rename_i x y hxx hyy
                injection hr with hr
                subst hr
                obtain ⟨v, hv1, hv2⟩ := hv.get (ha 0 a rfl)
                obtain ⟨u, hu1, hu2⟩ := hu.get (hb 0 b rfl)
                have hp1 : (part f.type vs f.offset).run P w = .ok v w := part_leaf f5 (by rw [f2]; simpa using hv1)
                have hp2 : (part f.type us f.offset).run P w = .ok u w := part_leaf f5 (by rw [f2]; simpa using hu1)
                have he := leafEq_sound (P := P) d f3 hv2 hu2 hxx
                rw [← hd] at he
                have ih' := ih (n + 1) ks as' bs' y f6 (fun j c hc => by have := ha (j + 1) c hc; rwa [show n + (j + 1) = n + 1 + j by omega] at this)
                  (fun j c hc => by have := hb (j + 1) c hc; rwa [show n + (j + 1) = n + 1 + j by omega] at this) hyy
                rw [List.forIn_cons, Sem.run_bind, if_pos f1]
                simp only [Sem.run_bind, hp1, hp2, he, Result.andThen_ok]
                cases x with
                | true => simp only [Bool.not_true, Bool.false_eq_true, if_false, Sem.run_pure, Result.andThen_ok, Bool.true_and]; exact ih'
                | false => simp
              · cases hr
    have := key fs.toList 0 ks as bs r h1 (fun j a h => by simpa using h) (fun j a h => by simpa using h) hr
    simp only [Op.equalIn, Sem.run_bind, run_underlying hx, Result.andThen_ok, run_program, h2, Bool.false_eq_true, if_false]
    rw [← Array.forIn_toList]
    rw [this]
    cases r <;> simp
  · cases ht

theorem eqa_sound {t : Nat} {ks : List Nat} {op : BinOp} {neq : Bool} {ox oy : Operand} {v u : Value} {a b : List AV} {r : Bool} (hop : op = if neq then .neq else .eql) (ht : flatStruct P t ks = true)
    (hg : P.eqGuardType P.depth t = false) (hv : Rep nm w F m G v (.agg a)) (hu : Rep nm w F m G u (.agg b)) (hr : leavesEq ks a b = some r) :
    (do eqGuard op t ox oy v u; binOp op t v u : Sem Value).run P w = .ok (.bool (if neq then !r else r)) w := by
  obtain ⟨vs, rfl, hv2⟩ := LRep.of_agg hv
  obtain ⟨us, rfl, hu2⟩ := LRep.of_agg hu
  have h1 : (eqGuard op t ox oy (.agg vs) (.agg us)).run P w = .ok () w := by
    unfold eqGuard
    cases op <;> simp [hg]
  rw [Sem.run_bind, h1, Result.andThen_ok]
  exact binOp_eq hop (by simp) (by simp) (by simp) (by simp) (by rw [equal_eq]; exact eqIn_struct (d := 9998) rfl ht hv2 hu2 hr)

/-! Conversions. -/

theorem cvi_sound {s d : Nat} {k : IntKind} {v : Value} {k0 : IntKind} {n : Int} (hs : (P.underlying s).isSome = true) (hd : P.underlying d = some (.int k)) (hv : Rep nm w F m G v (.int k0 n)) :
    (convert s d v).run P w = .ok (.int k (k.wrap n)) w := by
  obtain ⟨ds, hs⟩ := Option.isSome_iff_exists.1 hs
  rw [hv.int_inv]
  simp [convert, run_underlying hs, run_underlying hd, Conv.intToInt]

theorem s2b_sound (I : Inv nm w F m h) {fb : Nat} {sl : Option Nat} {s d e : Nat} {v : Value} {l : List UInt8} {x : AV × Heap} (hs : (P.underlying s).isSome = true) (hd : P.underlying d = some (.slice e)) (he : P.underlying e = some (.int .u8))
    (hv : Rep nm w F m (gens h) v (.str l)) (hx : newArr fb sl 1 (l.map fun b => [.int .u8 b.toNat]) h = some x) :
    Does nm w F m h ((do pure (Next.value (← convert s d v)) : Sem Next).run P w) x := by
  obtain ⟨ds, hs⟩ := Option.isSome_iff_exists.1 hs
  obtain ⟨b, rfl, hb⟩ := hv.str_inv
  have hsz : b.size = l.length := by rw [← hb]; simp
  have hcut := cut_cap b.size 0 e (w.tape w.drawn (.appendCap b.size 0 e))
  generalize hcap : (Question.appendCap b.size 0 e).cut (w.tape w.drawn (.appendCap b.size 0 e)) = cap at hcut
  have hrun : ∃ w' : World, ∃ fr : Nat × Nat, (convert s d (.string b)).run P w = .ok (.slice (some ⟨w.heap.size, 0, none⟩) b.size cap) w' ∧
      w'.heap = w.heap.push (.cells ((b.data.map fun c : UInt8 => Value.int .u8 c.toNat) ++ Array.replicate (cap - b.size) (Value.int .u8 0)) e fr) ∧ w'.os = w.os ∧ w'.tape = w.tape ∧ w'.output = w.output ∧
      frOk fr ((b.data.map fun c : UInt8 => Value.int .u8 c.toNat) ++ Array.replicate (cap - b.size) (Value.int .u8 0)).size := by
    generalize hc : ((b.data.map fun c : UInt8 => Value.int .u8 c.toNat) ++ Array.replicate (cap - b.size) (Value.int .u8 0)) = cells
    refine ⟨{ w.drew with heap := w.heap.push (.cells cells e (cells.size, cells.size + 1)) }, (cells.size, cells.size + 1), ?_, rfl, rfl, rfl, rfl, fun x hx => by simp; omega⟩
    simp only [convert, Sem.run_bind, run_underlying hs, run_underlying hd, Result.andThen_ok, run_underlying he, Conv.stringToBytes, run_choose, Question.forced, Bool.false_eq_true, if_false, hcap, newRow, run_newObj, Sem.run_pure, hc]
    simp [markStringish, World.shape?, World.freeze]
    refine ⟨?_, rfl, rfl⟩
    apply Array.ext_getElem?
    intro k
    rw [Array.getElem?_modify]
    by_cases hk : w.heap.size = k
    · subst hk; simp
    · rw [if_neg hk, Array.getElem?_push, Array.getElem?_push, if_neg (fun e => hk e.symm), if_neg (fun e => hk e.symm)]
  obtain ⟨w', fr, h1, h2, h3, h4, h5, h6⟩ := hrun
  rw [run_v h1]
  have := newArr_sound (cap := cap) (w' := w') I hx h2 h3 h4 h5 h6 (by simp [← hsz]; omega) (by simp; omega) (fun i row hi => by
    rw [List.getElem?_map] at hi
    cases hbi : l[i]? with
    | none => rw [hbi] at hi; cases hi
    | some c =>
      rw [hbi] at hi
      injection hi with hi
      subst hi
      refine ⟨rfl, fun j a hj => ?_⟩
      cases j with
      | succ j => simp at hj
      | zero =>
        simp at hj
        subst hj
        refine ⟨rfl, .int .u8 c.toNat, ?_, .pure (.int _ _)⟩
        have hil : i < l.length := (List.getElem?_eq_some_iff.1 hbi).1
        have hbd : b.data[i]? = some c := by rw [← hb] at hbi; simpa using hbi
        rw [Nat.mul_one, Nat.add_zero, Array.getElem?_append, if_pos (by simp; have : b.size = b.data.size := rfl; omega), Array.getElem?_map, hbd]
        rfl)
  rw [List.length_map, ← hsz] at this
  exact this

/-! Cutting, and places. -/

theorem slc_sound {a : Act} {t : Tmps} (hT : TRep nm w F m G a t) {ty es : Nat} {v : Value} {va r : AV} {lo hi : Option Operand} {lo' hi' : Option Opd} (he : elemIs P ty es = true) (h1 : chkOpt nm lo lo' = true) (h2 : chkOpt nm hi hi' = true)
    (hv : Rep nm w F m G v va) (hr : evSlc es va (fun b => optIx t b 0 lo') (fun n => optIx t n n hi') = some r) :
    ∃ x, (Instr.sliceAt ty v (lo.map a.eval) (hi.map a.eval) none).run P w = .ok x w ∧ Rep nm w F m G x r := by
  obtain ⟨e, hu, hs⟩ := elemIs_spec he
  have hcut : ∀ (base : Option Addr) (len cap l b : Nat), (Instr.sliceBounds true len cap (lo.map a.eval) (hi.map a.eval) none).run P w = .ok (l, b, cap) w →
      (Instr.sliceAt ty (.slice base len cap) (lo.map a.eval) (hi.map a.eval) none).run P w = .ok (.slice (if cap = l then base else base.map (·.add (l * es))) (b - l) (cap - l)) w := by
    intro base len cap l b hb
    simp only [Instr.sliceAt, Instr.slice, Sem.run_bind, run_underlying hu, Result.andThen_ok, hb, run_sizeOf hs, Sem.run_pure]
  unfold evSlc at hr
  split at hr
  · split at hr
    · rename_i b hb
      split at hr
      · rename_i l hl
        injection hr with hr
        subst hr
        rw [hv.nils_inv]
        obtain ⟨hrun, hlb, hbl⟩ := sliceBounds_sound (P := P) (isS := true) hT h1 h2 hb hl (Nat.le_refl 0)
        have hb0 : b = 0 := by omega
        have hl0 : l = 0 := by omega
        subst hb0; subst hl0
        exact ⟨_, hcut none 0 0 0 0 hrun, .pure (by simpa using PRep.nils)⟩
      · cases hr
    · cases hr
  · rename_i es' rows
    split at hr
    · rename_i hes
      subst hes
      split at hr
      · rename_i b hb
        split at hr
        · rename_i l hl
          injection hr with hr
          subst hr
          obtain ⟨ad, cap, rfl, hcap, hsp0, hc⟩ := hv.rs_inv
          obtain ⟨hrun, hlb, hbl⟩ := sliceBounds_sound (P := P) (isS := true) (cap := cap) hT h1 h2 hb hl hcap
          refine ⟨_, hcut _ _ _ _ _ hrun, .pure ?_⟩
          have hlen : ((rows.take b).drop l).length = b - l := by simp; omega
          have hget : ∀ (i : Nat) (row : List AV), ((rows.take b).drop l)[i]? = some row → i < b - l ∧ rows[l + i]? = some row := by
            intro i row hi
            have hil : i < b - l := by rw [← hlen]; exact (List.getElem?_eq_some_iff.1 hi).1
            rw [List.getElem?_drop, List.getElem?_take] at hi
            rw [if_pos (by omega)] at hi
            exact ⟨hil, hi⟩
          have hgen : ∀ a' : Addr, (0 < b - l → a'.spot = none) → (∀ i, i < b - l → a'.block = ad.block ∧ a'.off = ad.off + l * es') → PRep nm w F (.slice (some a') (b - l) (cap - l)) (.rs es' ((rows.take b).drop l)) := by
            intro a' hsp ha'
            rw [← hlen]
            refine .rs a' (cap - l) es' _ (fun i j => (w.cell? ⟨ad.block, ad.off + ((l + i) * es' + j), none⟩).getD undef) (fun hne => hsp (by rw [← hlen]; exact List.length_pos_iff.2 hne)) (by rw [hlen]; omega) (fun i row hi => (hc (l + i) row (hget i row hi).2).1) (fun i row j c hi hj => ?_) (fun i row j c hi hj => ?_)
            · obtain ⟨hil, hi2⟩ := hget i row hi
              obtain ⟨c1, x, c2, c3, c4⟩ := (hc (l + i) row hi2).2 j c hj
              obtain ⟨e1, e2⟩ := ha' i hil
              rw [e1, e2]
              refine ⟨c2, c1, ?_⟩
              rw [c3]
              rw [show ad.off + l * es' + (i * es' + j) = ad.off + ((l + i) * es' + j) by rw [Nat.add_mul]; omega, c3]
              rfl
            · obtain ⟨hil, hi2⟩ := hget i row hi
              obtain ⟨c1, x, c2, c3, c4⟩ := (hc (l + i) row hi2).2 j c hj
              rw [c3]
              exact c4
          by_cases hcl : cap = l
          · rw [if_pos hcl]
            exact hgen _ (fun h0 => by omega) (fun i hi => by omega)
          · rw [if_neg hcl]
            simp only [Option.map_some]
            have hne : 0 < b - l → ad.spot = none := fun h0 => hsp0 (by rintro rfl; simp at hlen; omega)
            refine hgen _ (fun h0 => ?_) (fun i hi => ?_)
            · rw [addr_eta (hne h0), addr_add]
            · rw [addr_eta (hne (by omega)), addr_add]
              exact ⟨rfl, rfl⟩
        · cases hr
      · cases hr
    · cases hr
  · rename_i id g es' off len
    split at hr
    · rename_i hes
      subst hes
      split at hr
      · rename_i b hb
        split at hr
        · rename_i l hl
          injection hr with hr
          subst hr
          cases hv with
          | pure hp => cases hp
          | ls _ _ _ _ _ cap a' loc hg hm hab has hloc hao hac hlc =>
            obtain ⟨hrun, hlb, hbl⟩ := sliceBounds_sound (P := P) (isS := true) (cap := cap) hT h1 h2 hb hl hlc
            refine ⟨_, hcut _ _ _ _ _ hrun, ?_⟩
            by_cases hcl : cap = l
            · rw [if_pos hcl]
              exact .ls id g es' (off + l) (b - l) (cap - l) a' loc hg hm hab has hloc (fun hc => by omega) (by omega) (by omega)
            · rw [if_neg hcl]
              have hae : a' = ⟨a'.block, a'.off, none⟩ := addr_eta has
              rw [hae]
              simp only [Option.map_some, addr_add]
              refine .ls id g es' (off + l) (b - l) (cap - l) _ loc hg hm hab rfl hloc (fun hc => ?_) (by omega) (by omega)
              simp only
              rw [hao (by omega), hloc, Nat.add_mul]
              omega
        · cases hr
      · cases hr
    · cases hr
  · cases hr

theorem sls_sound {a : Act} {t : Tmps} (hT : TRep nm w F m G a t) {ty : Nat} {v : Value} {s : List UInt8} {l b : Nat} {lo hi : Option Operand} {lo' hi' : Option Opd} (hu : P.underlying ty = some .string) (h1 : chkOpt nm lo lo' = true) (h2 : chkOpt nm hi hi' = true)
    (hv : Rep nm w F m G v (.str s)) (hb : optIx t s.length s.length hi' = some b) (hl : optIx t b 0 lo' = some l) :
    ∃ x, (Instr.sliceAt ty v (lo.map a.eval) (hi.map a.eval) none).run P w = .ok x w ∧ Rep nm w F m G x (.str ((s.take b).drop l)) := by
  obtain ⟨x, rfl, hx⟩ := hv.str_inv
  have hsz : x.size = s.length := by rw [← hx]; simp
  obtain ⟨hrun, hlb, hbl⟩ := sliceBounds_sound (P := P) (isS := false) (cap := s.length) hT h1 h2 hb hl (Nat.le_refl _)
  refine ⟨.string (x.extract l b), ?_, .pure ?_⟩
  · simp only [Instr.sliceAt, Instr.slice, Sem.run_bind, run_underlying hu, Result.andThen_ok, hsz]
    simp [hrun]
  · have := PRep.str (nm := nm) (w := w) (F := F) (x.extract l b)
    rw [show (x.extract l b).data.toList = (s.take b).drop l by rw [ByteArray.data_extract, ← hx]; simp [List.drop_take]] at this
    exact this

theorem ixs_sound {ty es : Nat} {v u : Value} {va ua r : AV} (he : elemIs P ty es = true) (hv : Rep nm w F m G v va) (hu : Rep nm w F m G u ua) (hr : evIxs es va ua = some r) :
    ∃ x, (Instr.indexAt ty v u).run P w = .ok x w ∧ Rep nm w F m G x r := by
  obtain ⟨e, hue, hs⟩ := elemIs_spec he
  have hrun : ∀ (a : Addr) (len cap : Nat) (k : IntKind) (n : Int), 0 ≤ n → n < len → (Instr.indexAt ty (.slice (some a) len cap) (.int k n)).run P w = .ok (.pointer (some (a.add (n.toNat * es)))) w := by
    intro a len cap k n h0 h1
    simp [Instr.indexAt, asIntOf, run_underlying hue, h0, h1, run_sizeOf hs]
  unfold evIxs at hr
  split at hr
  · rename_i es' rows k n
    split at hr
    · rename_i hc
      obtain ⟨rfl, h0⟩ := hc
      rw [hu.int_inv]
      obtain ⟨ad, cap, rfl, hcap, hsp, hc⟩ := hv.rs_inv
      cases hrow : rows[n.toNat]? with
      | none => rw [hrow] at hr; cases hr
      | some row =>
        rw [hrow] at hr
        injection hr with hr
        subst hr
        have hlt : n.toNat < rows.length := (List.getElem?_eq_some_iff.1 hrow).1
        refine ⟨_, hrun _ _ _ _ _ h0 (by omega), .pure ?_⟩
        rw [addr_eta (hsp (by rintro rfl; simp at hlt)), addr_add]
        have hcell := (hc n.toNat row hrow).2
        refine .rp _ _ (fun j => (w.cell? ⟨ad.block, ad.off + (n.toNat * es' + j), none⟩).getD undef) rfl (fun j l hl => ?_) (fun j l hl => ?_)
        · obtain ⟨c1, x, c2, c3, c4⟩ := hcell j l hl
          refine ⟨c2, c1, ?_⟩
          simp only
          rw [Nat.add_assoc, c3]
          rfl
        · obtain ⟨c1, x, c2, c3, c4⟩ := hcell j l hl
          rw [c3]
          exact c4
    · cases hr
  · rename_i id g es' off len k n
    split at hr
    · rename_i hc
      obtain ⟨rfl, h0, h1⟩ := hc
      injection hr with hr
      subst hr
      rw [hu.int_inv]
      cases hv with
      | pure hp => cases hp
      | ls _ _ _ _ _ cap a loc hg hm hab has hloc hao hac hlc =>
        refine ⟨_, hrun _ _ _ _ _ h0 h1, ?_⟩
        have hae : a = ⟨a.block, a.off, none⟩ := addr_eta has
        rw [hae, addr_add, hab, hao (by omega)]
        have := Rep.lp (nm := nm) (w := w) (F := F) (m := m) (G := G) id g (off + n.toNat) 0 loc hg hm
        rw [show loc.base + (off + n.toNat) * loc.es + 0 = loc.base + off * loc.es + n.toNat * es' by rw [hloc, Nat.add_mul]; omega] at this
        exact this
    · cases hr
  · cases hr

theorem ixa_sound {ty e len es : Nat} {v u : Value} {va ua r : AV} (hu : P.underlying ty = some (.array len e)) (hs : sizeIs P e es = true) (hv : Rep nm w F m G v va) (hi : Rep nm w F m G u ua) (hr : evIxa len es va ua = some r) :
    ∃ x, (Instr.indexAt ty v u).run P w = .ok x w ∧ Rep nm w F m G x r := by
  have hrun : ∀ (a : Addr) (k : IntKind) (n : Int), 0 ≤ n → n < len → (Instr.indexAt ty (.pointer (some a)) (.int k n)).run P w = .ok (.pointer (some (a.add (n.toNat * es)))) w := by
    intro a k n h0 h1
    simp [Instr.indexAt, asIntOf, run_underlying hu, h0, h1, run_sizeOf hs, Instr.sureAddr]
  unfold evIxa at hr
  split at hr
  · rename_i cs k n
    split at hr
    · rename_i hc
      injection hr with hr
      subst hr
      rw [hi.int_inv]
      obtain ⟨b, o, rfl, hc2⟩ := hv.rp_inv
      refine ⟨_, hrun _ _ _ hc.1 hc.2, .pure ?_⟩
      rw [addr_add]
      refine .rp _ _ (fun j => (w.cell? ⟨b, o + (n.toNat * es + j), none⟩).getD undef) rfl (fun j l hl => ?_) (fun j l hl => ?_)
      · rw [List.getElem?_drop] at hl
        obtain ⟨x, c2, c1, c3, c4⟩ := hc2 _ l hl
        refine ⟨c2, c1, ?_⟩
        simp only
        rw [Nat.add_assoc, c3]
        rfl
      · rw [List.getElem?_drop] at hl
        obtain ⟨x, c2, c1, c3, c4⟩ := hc2 _ l hl
        rw [c3]
        exact c4
    · cases hr
  · rename_i id g i off k n
    split at hr
    · rename_i hc
      injection hr with hr
      subst hr
      rw [hi.int_inv]
      obtain ⟨loc, rfl, hg, hm⟩ := hv.lp_inv
      refine ⟨_, hrun _ _ _ hc.1 hc.2, ?_⟩
      rw [addr_add]
      have := Rep.lp (nm := nm) (w := w) (F := F) (m := m) (G := G) id g i (off + n.toNat * es) loc hg hm
      rw [← Nat.add_assoc] at this
      exact this
    · cases hr
  · cases hr

theorem fa_sound {ty e off : Nat} {i : Nat} {fs : Array Field} {f : Field} {v : Value} {va r : AV} {ti : TypeInfo} (hu : P.underlying ty = some (.struct fs)) (hf : fs[i]? = some f) (ho : f.offset = off) (hi : P.info? f.type = some ti) (hz : ti.size ≠ 0)
    (hv : Rep nm w F m G v va) (hr : evFa off va = some r) :
    ∃ x, (Instr.fieldAt ty v i).run P w = .ok x w ∧ Rep nm w F m G x r := by
  have hrun : ∀ a : Addr, (Instr.fieldAt ty (.pointer (some a)) i).run P w = .ok (.pointer (some (a.add off))) w := by
    intro a
    simp [Instr.fieldAt, run_underlying hu, hf, Instr.sureAddr, fieldPlace, sizeOf, typeInfo, hi, hz, ho]
  unfold evFa at hr
  split at hr
  · rename_i cs
    injection hr with hr
    subst hr
    obtain ⟨b, o, rfl, hc2⟩ := hv.rp_inv
    refine ⟨_, hrun _, .pure ?_⟩
    rw [addr_add]
    refine .rp _ _ (fun j => (w.cell? ⟨b, o + (off + j), none⟩).getD undef) rfl (fun j l hl => ?_) (fun j l hl => ?_)
    · rw [List.getElem?_drop] at hl
      obtain ⟨x, c2, c1, c3, c4⟩ := hc2 _ l hl
      refine ⟨c2, c1, ?_⟩
      simp only
      rw [Nat.add_assoc, c3]
      rfl
    · rw [List.getElem?_drop] at hl
      obtain ⟨x, c2, c1, c3, c4⟩ := hc2 _ l hl
      rw [c3]
      exact c4
  · rename_i id g i' o
    injection hr with hr
    subst hr
    obtain ⟨loc, rfl, hg, hm⟩ := hv.lp_inv
    refine ⟨_, hrun _, ?_⟩
    rw [addr_add]
    have := Rep.lp (nm := nm) (w := w) (F := F) (m := m) (G := G) id g i' (o + off) loc hg hm
    rw [← Nat.add_assoc] at this
    exact this
  · cases hr

end Go.Vm
