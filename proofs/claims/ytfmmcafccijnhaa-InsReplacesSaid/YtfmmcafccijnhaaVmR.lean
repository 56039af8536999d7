/- The value machine: functions. What it answers with any fuel, the model's calls do. -/
import Derived.Test.YtfmmcafccijnhaaVmU
namespace Go.Vm

variable {P : Program} {nm : Nat → Option Nat} {w : World} {F : Nat → Prop} {m : MapT} {h : Heap} {G : List Nat}

def chkRes (P : Program) : List ResultVar → List CRes → Bool
  | [], [] => true
  | .tmp t :: rs, .t n :: cs => t == n && chkRes P rs cs
  | .cell a ty :: rs, .cell n agg size :: cs => a == n && aggIs P ty agg && sizeIs P ty size && (agg || size == 1) && chkRes P rs cs
  | _, _ => false

def chkFunc (P : Program) (nm : Nat → Option Nat) (fn : Func) (cf : CFunc) : Bool :=
  match fn.body with
  | some c => decide (cf.params ≤ fn.ntmps) && chkCode P nm fn.ntmps c cf.body && chkRes P fn.results.toList cf.results
  | none => false

def resF (a : Act) : ResultVar → Sem Value
  | .tmp t => pure (a.tmps.getD t undef)
  | .cell x ty => do loadVar ty (← asAddr (a.tmps.getD x undef))

theorem resList_sound (I : Inv nm w F m h) {a : Act} {t : Tmps} (hT : TRep nm w F m (gens h) a t) : ∀ {rs : List ResultVar} {cs : List CRes} {vs : List AV}, chkRes P rs cs = true → resList h t cs = some vs →
    ∃ xs : List Value, (rs.mapM (resF a)).run P w = .ok xs w ∧ xs.length = vs.length ∧ ∀ (j : Nat) (v : Value) (l : AV), xs[j]? = some v → vs[j]? = some l → Rep nm w F m (gens h) v l
  | [], [], vs, _, hr => by
    simp only [resList] at hr
    injection hr with hr
    subst hr
    exact ⟨[], by simp, rfl, fun j v l h1 => by simp at h1⟩
  | r :: rs, c :: cs, vs, hc, hr => by
    simp only [resList] at hr
    split at hr
    · rename_i x xs hx hxs
      injection hr with hr
      subst hr
      have hone : ∃ v, (resF a r).run P w = .ok v w ∧ Rep nm w F m (gens h) v x ∧ chkRes P rs cs = true := by
        cases r with
        | tmp t0 =>
          cases c with
          | t n =>
            simp only [chkRes, Bool.and_eq_true, beq_iff_eq] at hc
            obtain ⟨h1, h2⟩ := hc
            subst h1
            simp only [resOf] at hx
            injection hx with hx
            subst hx
            exact ⟨_, rfl, hT _, h2⟩
          | cell => cases hc
        | cell a0 ty =>
          cases c with
          | t => cases hc
          | cell n agg size =>
            simp only [chkRes, Bool.and_eq_true, beq_iff_eq] at hc
            obtain ⟨⟨⟨⟨h1, h2⟩, h3⟩, h4⟩, h5⟩ := hc
            subst h1
            simp only [resOf] at hx
            obtain ⟨v, hv, hrep⟩ := evLd_sound (P := P) I h2 h3 (by simpa using h4) (hT a0) hx
            refine ⟨v, ?_, hrep, h5⟩
            have hptr : ∃ ad, a.tmps.getD a0 undef = .pointer (some ad) := by
              have hr := hT a0
              unfold evLd at hx
              split at hx
              · rename_i e; rw [e] at hr; obtain ⟨b, o, hb, _⟩ := hr.rp_inv; exact ⟨_, hb⟩
              · rename_i e; rw [e] at hr; obtain ⟨loc, hb, _⟩ := hr.lp_inv; exact ⟨_, hb⟩
              · cases hx
            obtain ⟨ad, had⟩ := hptr
            rw [had] at hv
            simp only [Instr.loadAt, Instr.sureAddr, Sem.run_bind, Sem.run_pure, Result.andThen_ok] at hv
            simp only [resF, had, asAddr, Sem.run_bind, Sem.run_pure, Result.andThen_ok, hv]
      obtain ⟨v, hv, hrep, hrest⟩ := hone
      obtain ⟨ys, h1, h2, h3⟩ := resList_sound I hT hrest hxs
      refine ⟨v :: ys, ?_, by simp [h2], fun j u l h4 h5 => ?_⟩
      · rw [List.mapM_cons]
        simp only [Sem.run_bind, hv, h1, Result.andThen_ok, Sem.run_pure]
      · cases j with
        | zero => simp at h4 h5; subst h4; subst h5; exact hrep
        | succ j => simp at h4 h5; exact h3 j u l h4 h5
    · cases hr
  | [], _ :: _, _, h, _ => by cases h
  | .tmp _ :: _, [], _, h, _ => by cases h
  | .cell _ _ :: _, [], _, h, _ => by cases h

theorem results_sound (I : Inv nm w F m h) {a : Act} {t : Tmps} (hT : TRep nm w F m (gens h) a t) {fn : Func} {cs : List CRes} {vs : List AV} (hc : chkRes P fn.results.toList cs = true) (hr : resList h t cs = some vs) :
    ∃ v, (results fn a.tmps).run P w = .ok v w ∧ Rep nm w F m (gens h) v (tupOf vs) := by
  obtain ⟨xs, h1, h2, h3⟩ := resList_sound I hT hc hr
  refine ⟨if h : xs.toArray.size = 1 then xs.toArray[0] else .tuple xs.toArray, ?_, ?_⟩
  · have he : results fn a.tmps = (do
        let vs ← fn.results.mapM (resF a)
        pure (if h : vs.size = 1 then vs[0] else .tuple vs)) := by
      unfold results
      congr 2
    rw [he, Array.mapM_eq_mapM_toList]
    simp only [Sem.run_bind, Sem.run_map, h1, Result.andThen_ok, Sem.run_pure]
  · by_cases h1' : vs.length = 1
    · match vs, h1' with
      | [x], _ =>
        match xs, h2 with
        | [y], _ =>
          simp only [tupOf]
          exact h3 0 y x rfl rfl
    · rw [dif_neg (by rw [List.size_toArray, h2]; exact h1')]
      have : tupOf vs = .tup vs := by
        match vs with
        | [] => rfl
        | [x] => exact (h1' rfl).elim
        | x :: y :: r => rfl
      rw [this]
      exact .tup _ _ (by simpa using h2) (fun j v l a1 a2 => h3 j v l (by simpa using a1) a2)

/-! Calls. -/

theorem tget_enumFrom : ∀ (vs : List AV) (n i : Nat), tget (enumFrom n vs) i = if n ≤ i then (vs[i - n]?).getD .undef else .undef
  | [], n, i => by simp [enumFrom, tget]
  | v :: vs, n, i => by
    simp only [enumFrom, tget]
    by_cases e : n = i
    · subst e; simp
    · rw [if_neg e, tget_enumFrom vs (n + 1) i]
      by_cases h1 : n ≤ i
      · rw [if_pos h1, if_pos (by omega), show i - n = (i - (n + 1)) + 1 by omega]; simp
      · rw [if_neg h1, if_neg (by omega)]

/-- A function's frame at its beginning. -/
theorem SR.begin {N : Nat} {h : Heap} (I : Inv nm w F m h) {vs : Array Value} {args : List AV} (hn : vs.size = args.length) (hN : args.length ≤ N)
    (hv : ∀ (j : Nat) (v : Value) (l : AV), vs[j]? = some v → args[j]? = some l → Rep nm w F m (gens h) v l) :
    SR nm N w F m { tmps := vs ++ Array.replicate (N - vs.size) undef, defers := [] } ⟨enumFrom 0 args, h⟩ := by
  refine ⟨I, fun i => ?_, by simp [hn]; omega, rfl⟩
  rw [tget_enumFrom, if_pos (Nat.zero_le _), Nat.sub_zero]
  cases hl : args[i]? with
  | none => exact .undef _
  | some l =>
    have hlt : i < vs.size := by rw [hn]; exact (List.getElem?_eq_some_iff.1 hl).1
    have h1 : vs[i]? = some vs[i] := Array.getElem?_eq_getElem hlt
    have : (vs ++ Array.replicate (N - vs.size) undef).getD i undef = vs[i] := by
      rw [Array.getD_eq_getD_getElem?, Array.getElem?_append, if_pos hlt, h1]
      rfl
    simp only [this]
    exact hv i _ l h1 hl

/-- A function's body, run. -/
theorem runBody_sound (H : NmOk P nm) {E : Env} {C : Calls2} {L : LoopT} (hP : PSound P nm C.p) (hI : ISound P nm C.i) (hL : LSound P nm L) (I : Inv nm w F m h) {f : Nat} {fn : Func} {cf : CFunc} (hf : P.funcs[f]? = some fn) (hc : chkFunc P nm fn cf = true)
    {vs : Array Value} {args : List AV} {fb : Nat} {x : AV × Heap} (hn : vs.size = args.length) (hv : ∀ (j : Nat) (v : Value) (l : AV), vs[j]? = some v → args[j]? = some l → Rep nm w F m (gens h) v l)
    (hx : runBody E C L cf args fb h = some x) : Calls P f vs w (InPost nm w F m h x) := by
  unfold chkFunc at hc
  split at hc
  · rename_i c hb
    simp only [Bool.and_eq_true, decide_eq_true_eq] at hc
    obtain ⟨⟨h1, h2⟩, h3⟩ := hc
    unfold runBody at hx
    split at hx
    · rename_i hp
      have R := SR.begin (N := fn.ntmps) I hn (by omega) hv
      have fin : ∀ (r : Res) (s : St), (r = .norm ∨ r = .ret) → exec E C L fb cf.body ⟨enumFrom 0 args, h⟩ = some (r, s) → (match resList s.h s.t cf.results with
          | some vs => some (tupOf vs, s.h)
          | none => none) = some x → Calls P f vs w (InPost nm w F m h x) := by
        intro r s hr hex hres
        split at hres
        · rename_i rs hrs
          injection hres with hres
          subst hres
          refine calls_of_wp hf hb (exec_sound H hP hI hL c cf.body _ _ r s w F m _ h2 R hex (fun a1 w1 F1 m1 R1 T1 => ?_))
          obtain ⟨v, hv1, hv2⟩ := results_sound (P := P) R1.inv R1.t (fn := fn) h3 hrs
          rcases hr with rfl | rfl
          · exact ⟨R1.defers, v, hv1, v, F1, m1, rfl, R1.inv, T1, hv2⟩
          · exact ⟨R1.defers, v, hv1, v, F1, m1, rfl, R1.inv, T1, hv2⟩
        · cases hres
      split at hx
      · rename_i s hex; exact fin .norm s (.inl rfl) hex hx
      · rename_i s hex; exact fin .ret s (.inr rfl) hex hx
      · cases hx
    · cases hx
  · cases hc

theorem dead_get {n i g : Nat} {o : OC} (h : (deadSlots n)[i]? = some ⟨g, o⟩) : g = 0 ∧ o = .dead := by
  unfold deadSlots at h
  rw [List.getElem?_replicate] at h
  split at h
  · injection h with h
    injection h with h1 h2
    exact ⟨h1.symm, h2.symm⟩
  · cases h

/-- More places, with nothing in them. -/
theorem Inv.more (I : Inv nm w F m h) (n : Nat) : Inv nm w F m (h ++ deadSlots n) ∧ Tr w F m (gens h) w F m (gens (h ++ deadSlots n)) := by
  have hget : ∀ (id : Nat) (a : AO), h[id]? = some a → (h ++ deadSlots n)[id]? = some a := fun id a ha => by
    rw [List.getElem?_append_left (List.getElem?_eq_some_iff.1 ha).1]; exact ha
  have hgl : ∀ (id g : Nat), (gens h)[id]? = some g → ∃ g' : Nat, (gens (h ++ deadSlots n))[id]? = some g' ∧ g ≤ g' := by
    intro id g hg
    rw [gens_get] at hg
    obtain ⟨a, ha, rfl⟩ := map_eq hg
    exact ⟨a.gen, by rw [gens_get, hget id a ha]; rfl, Nat.le_refl _⟩
  have hrep : ∀ v a, Rep nm w F m (gens h) v a → Rep nm w F m (gens (h ++ deadSlots n)) v a := fun v a hr => hr.mono (fun _ _ => rfl) (fun _ h => h) hgl (fun _ _ _ _ h _ _ => h)
  refine ⟨⟨fun id g loc hm => ?_, fun id g o ho hd => ?_, I.inj, fun id g loc o hm ho => ?_, I.bd⟩, ⟨rfl, rfl, rfl, Nat.le_refl _, fun _ h => h, fun _ _ _ => rfl, fun _ h => .inl h, fun _ h => .inl h, hgl, fun _ _ _ _ h _ _ => h⟩⟩
  · obtain ⟨o, h1, h2⟩ := I.live id g loc hm
    exact ⟨o, hget id _ h1, h2.of rfl hrep⟩
  · rw [List.getElem?_append] at ho
    split at ho
    · exact I.has id g o ho hd
    · obtain ⟨_, rfl⟩ := dead_get ho
      cases hd
  · obtain ⟨o1, h1, _⟩ := I.live id g loc hm
    rw [hget id _ h1] at ho
    injection ho with ho
    injection ho with _ ho
    subst ho
    exact I.fz id g loc o1 hm h1

theorem Inv.none (n : Nat) {Fk : Nat → Prop} (hb : ∀ b, Fk b → b < w.heap.size) : Inv nm w Fk (fun _ => Option.none) (deadSlots n) where
  live id g loc hm := by cases hm
  has id g o ho hd := by
    obtain ⟨_, rfl⟩ := dead_get ho
    cases hd
  inj id g loc id' g' loc' hm := by cases hm
  fz id g loc o hm := by cases hm
  bd := hb

/-- What is moved out is not read-only. -/
def ExU (h : Heap) (k : Nat) : Prop := ∀ (a : AV) (os : List OC) (r : Ex AV), expo h k a os = some r → ∀ id, id ∈ r.xs → ∃ g o, h[id]? = some ⟨g, o⟩ ∧ o.fz = false ∧ o.isDead = false

theorem exList_unf {k : Nat} (H : ExU h k) : ∀ (as : List AV) (os : List OC) (r : Ex (List AV)), exList (expo h k) as os = some r → ∀ id, id ∈ r.xs → ∃ g o, h[id]? = some ⟨g, o⟩ ∧ o.fz = false ∧ o.isDead = false
  | [], os, r, hr, id, hid => by
    simp only [exList] at hr
    injection hr with hr
    subst hr
    cases hid
  | a :: as, os, r, hr, id, hid => by
    simp only [exList] at hr
    split at hr
    · rename_i q hq
      split at hr
      · rename_i p hp
        injection hr with hr
        subst hr
        rcases List.mem_append.1 hid with hid | hid
        · exact H a os q hq id hid
        · exact exList_unf H as q.objs p hp id hid
      · cases hr
    · cases hr

theorem exFz_xs {a : AV} {os : List OC} {r : Ex AV} (hr : exFz h a os = some r) : r.xs = [] := by
  unfold exFz at hr
  split at hr
  · injection hr with hr; subst hr; rfl
  · cases hr

theorem expo_unf : ∀ k, ExU h k
  | 0 => fun _ _ _ hr => by cases hr
  | k + 1 => by
    intro a os r hr id hid
    simp only [expo] at hr
    split at hr
    · cases hr
    · split at hr
      · rw [exFz_xs hr] at hid; cases hid
      · rename_i es rows hrows
        split at hr
        · split at hr
          · injection hr with hr
            subst hr
            simp at hid
            subst hid
            obtain ⟨bx, ho⟩ := rowsAt_spec hrows
            exact ⟨_, _, ho, rfl, rfl⟩
          · cases hr
        · cases hr
      · cases hr
    · split at hr
      · rw [exFz_xs hr] at hid; cases hid
      · rename_i es row hrows
        split at hr
        · split at hr
          · rename_i q hq
            injection hr with hr
            subst hr
            simp at hid
            rcases hid with rfl | hid
            · obtain ⟨bx, ho⟩ := rowsAt_spec hrows
              exact ⟨_, _, ho, rfl, rfl⟩
            · exact exList_unf (expo_unf k) row os q hq id hid
          · cases hr
        · cases hr
      · cases hr
    · split at hr
      · rw [exFz_xs hr] at hid; cases hid
      · rename_i es hes
        split at hr
        · injection hr with hr
          subst hr
          simp at hid
          subst hid
          exact ⟨_, _, mapAt_spec hes, rfl, rfl⟩
        · cases hr
      · cases hr
    · split at hr
      · rename_i q hq
        injection hr with hr
        subst hr
        exact exList_unf (expo_unf k) _ os q hq id hid
      · cases hr
    · split at hr
      · rename_i q hq
        injection hr with hr
        subst hr
        exact exList_unf (expo_unf k) _ os q hq id hid
      · cases hr
    · split at hr
      · injection hr with hr
        subst hr
        cases hid
      · cases hr

theorem apartIds_spec : ∀ {xs fs : List Nat}, apartIds xs fs = true → xs.Nodup ∧ ∀ id, id ∈ xs → id ∉ fs
  | [], fs, _ => ⟨List.nodup_nil, fun id h => by cases h⟩
  | x :: xs, fs, h => by
    simp only [apartIds, Bool.and_eq_true, Bool.not_eq_true', List.contains_eq_mem, decide_eq_false_iff_not] at h
    obtain ⟨⟨h1, h2⟩, h3⟩ := h
    obtain ⟨h4, h5⟩ := apartIds_spec h3
    refine ⟨List.nodup_cons.2 ⟨h1, h4⟩, fun id hid => ?_⟩
    rcases List.mem_cons.1 hid with rfl | hid
    · exact h2
    · exact h5 id hid

/-- What a function leaves behind, moved to its caller. -/
theorem expo1_sound {w0 : World} {Fk : Nat → Prop} {G0 : List Nat} (I : Inv nm w F m h) (T : Tr w0 Fk (fun _ => Option.none) G0 w F m (gens h)) {v : Value} {a : AV} {r : Ex AV} (hv : Rep nm w F m (gens h) v a) (hr : expo1 h a = some r) : PureRes nm w0.heap.size Fk w v r := by
  unfold expo1 at hr
  split at hr
  · rename_i q hq
    split at hr
    · rename_i hap
      injection hr with hr
      subst hr
      obtain ⟨hnd, hdis⟩ := apartIds_spec hap
      have hown : ∀ b, owned m b → w0.heap.size ≤ b := fun b hb => by
        rcases T.own b hb with ⟨_, _, _, h1, _⟩ | hb
        · cases h1
        · exact hb
      have hF : ∀ b, F b → Fk b ∨ w0.heap.size ≤ b := fun b hb => by
        rcases T.new b hb with hb | ⟨_, _, _, h1, _⟩ | hb
        · exact .inl hb
        · cases h1
        · exact .inr hb
      have hsep : Sep (FB F m q.fresh q.fs) m [] q.xs := ⟨hnd, fun id _ h => (by cases h), fun id hid g loc hm hb => by
        obtain ⟨g1, o1, h1, h2, h3⟩ := expo_unf fuelF a [] q hq id hid
        obtain ⟨o, h4, _⟩ := I.live id g loc hm
        rw [h1] at h4
        injection h4 with h4
        injection h4 with h5 h6
        subst h6
        rcases hb with ⟨_, hb⟩ | ⟨id2, k1, g2, l2, k2, k3⟩
        · have := (I.fz id g loc o1 hm (by rw [← h5]; exact h1)).2 hb
          rw [h2] at this
          cases this
        · have := I.inj id2 g2 l2 id g loc k2 hm k3
          exact hdis id hid (this ▸ k1)⟩
      have X0 : Exd nm w (FB F m q.fresh q.fs) m (fun _ => Option.none) [] [] := ⟨Inv.none 0 (fun b hb => by
        rcases hb with ⟨_, hb⟩ | ⟨id, _, g, loc, h1, h2⟩
        · exact I.bd b hb
        · rw [← h2]; exact I.blk_lt h1), fun o ho => (by cases ho), fun j g loc hj => (by cases hj)⟩
      obtain ⟨m2, X, _, hrep, _⟩ := expo_sound I (FB F m q.fresh q.fs) fuelF v a [] q _ [] hv hq X0 (fun b hb => hb) hsep
      refine ⟨FB F m q.fresh q.fs, m2, X.inv, X.con, hrep, fun b hb => ?_, fun b hb => ?_⟩
      · rcases hb with ⟨h1, hb⟩ | ⟨id, _, g, loc, h1, h2⟩
        · rcases hF b hb with hb | hb
          · exact .inl ⟨h1, hb⟩
          · exact .inr hb
        · exact .inr (hown b ⟨id, g, loc, h1, h2⟩)
      · obtain ⟨j, g, loc, h1, h2⟩ := hb
        obtain ⟨id, _, g2, l2, k2, k3⟩ := X.use j g loc h1
        exact hown b ⟨id, g2, l2, k2, k3.trans h2⟩
    · cases hr
  · cases hr

/-- The functions that the machine knows are the model's; of those that it doesn't know it is told what they do. -/
structure EnvOk (P : Program) (nm : Nat → Option Nat) (E : Env) : Prop where
  ok : NmOk P nm
  fn : ∀ f key cf, nm f = some key → E.fn key = some cf → ∃ fn, P.funcs[f]? = some fn ∧ chkFunc P nm fn cf = true
  xp : PSound P nm fun key args => if (E.fn key).isSome then Option.none else E.xp key args
  xi : ISound P nm fun key args fb h => if (E.fn key).isSome then Option.none else E.xi key args fb h

theorem both_sound {E : Env} (H : EnvOk P nm E) : ∀ k, PSound P nm (both E k).1.p ∧ ISound P nm (both E k).1.i ∧ LSound P nm (both E k).2
  | 0 => ⟨fun _ _ _ _ _ h => (by cases h), fun _ _ _ _ _ _ _ h => (by cases h), fun _ _ _ _ _ _ _ _ _ _ _ _ _ _ _ h => (by cases h)⟩
  | k + 1 => by
    obtain ⟨hP, hI, hL⟩ := both_sound H k
    refine ⟨?_, ?_, runLoop_sound H.ok hP hI hL⟩
    · intro f key args r hk hr w Fk vs hb hn hv
      have hr' : runPure E (both E k).1 (both E k).2 key args = some r := hr
      unfold runPure at hr'
      split at hr'
      · rename_i hf
        exact H.xp f key args r hk (by simp [hf, hr']) w Fk vs hb hn hv
      · rename_i cf hf
        split at hr'
        · rename_i v h' hbd
          obtain ⟨fn, h1, h2⟩ := H.fn f key cf hk hf
          have hcall := runBody_sound H.ok hP hI hL (Inv.none cf.slots hb) h1 h2 hn (fun j v l h3 h4 => .pure (hv j v l h3 h4)) hbd
          refine hcall.mono fun e w' hp => ?_
          obtain ⟨x, F', m', rfl, hI', hT', hr2⟩ := hp
          refine ⟨x, rfl, ⟨hT'.os, hT'.tape, hT'.output, hT'.size, fun b hlt => hT'.same b hlt (.inl fun ⟨_, _, _, h3, _⟩ => by cases h3)⟩, expo1_sound hI' hT' hr2 hr'⟩
        · cases hr'
    · intro f key args fb h x hk hx w F m vs I hn hv
      have hx' : runIn E (both E k).1 (both E k).2 key args fb h = some x := hx
      unfold runIn at hx'
      split at hx'
      · rename_i hf
        exact H.xi f key args fb h x hk (by simp [hf, hx']) w F m vs I hn hv
      · rename_i cf hf
        obtain ⟨fn, h1, h2⟩ := H.fn f key cf hk hf
        split at hx'
        · obtain ⟨I2, T2⟩ := I.more cf.slots
          have hcall := runBody_sound H.ok hP hI hL I2 h1 h2 hn (fun j v l h3 h4 => (hv j v l h3 h4).tr I.bd T2) hx'
          refine hcall.mono fun e w' hp => ?_
          obtain ⟨y, F', m', rfl, hI', hT', hr2⟩ := hp
          exact ⟨y, F', m', rfl, hI', T2.trans hT', hr2⟩
        · exact runBody_sound H.ok hP hI hL I h1 h2 hn hv hx'

/-- What the machine answers, the model's call answers. -/
theorem call_sound {E : Env} (H : EnvOk P nm E) : PSound P nm (callW E).p := by
  intro f key args r hk hr
  obtain ⟨k, hk2⟩ := (callW_p _ _ _).1 hr
  exact (both_sound H k).1 f key args r hk hk2

end Go.Vm
