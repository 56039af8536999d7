/- The value machine: the code of a function, and calls, against the model. -/
import Derived.Test.YtfmmcafccijnhaaVmP
namespace Go.Vm

variable {P : Program} {nm : Nat → Option Nat} {w : World} {F : Nat → Prop} {m : MapT} {h : Heap} {G : List Nat}

def chkG (ops : Array Oper) : Option (Nat × Bool) → Option (Nat × Bool) → Bool
  | none, none => true
  | some (j, want), some (d, want') => want == want' && (match ops[j]? with
    | some o => o.dst == some d
    | none => false)
  | _, _ => false

def chkCI (P : Program) (nm : Nat → Option Nat) (N : Nat) (ops : Array Oper) (o : Oper) (c : CI) : Bool :=
  o.dst == c.dst && (match c.dst with
    | some d => decide (d < N)
    | none => true) && chkG ops o.guard c.g && chkOp P nm o c.op

def chkCIs (P : Program) (nm : Nat → Option Nat) (N : Nat) (ops : Array Oper) : List Oper → List CI → Bool
  | [], [] => true
  | o :: os, c :: cs => chkCI P nm N ops o c && chkCIs P nm N ops os cs
  | _, _ => false

/-- A state of the model, told by one of the machine. -/
structure SR (nm : Nat → Option Nat) (N : Nat) (w : World) (F : Nat → Prop) (m : MapT) (a : Act) (s : St) : Prop where
  inv : Inv nm w F m s.h
  t : TRep nm w F m (gens s.h) a s.t
  size : a.tmps.size = N
  defers : a.defers = []

theorem TRep.put {a : Act} {t : Tmps} {d : Option Nat} {v : Value} {x : AV} {N : Nat} (hT : TRep nm w F m G a t) (hs : a.tmps.size = N) (hd : ∀ d', d = some d' → d' < N) (hv : Rep nm w F m G v x) :
    TRep nm w F m G (a.put d v) (tput d x t) ∧ (a.put d v).tmps.size = N ∧ (a.put d v).defers = a.defers := by
  cases d with
  | none => exact ⟨hT, hs, rfl⟩
  | some d =>
    refine ⟨fun i => ?_, by simp [Act.put, hs], rfl⟩
    have hlt := hd d rfl
    simp only [Act.put, tput, tget]
    by_cases e : d = i
    · subst e
      rw [if_pos rfl]
      have : (a.tmps.setIfInBounds d v).getD d undef = v := by
        rw [Array.getD_eq_getD_getElem?, Array.getElem?_setIfInBounds]
        simp [hs, hlt]
      rw [this]
      exact hv
    · rw [if_neg e]
      have : (a.tmps.setIfInBounds d v).getD i undef = a.tmps.getD i undef := by
        rw [Array.getD_eq_getD_getElem?, Array.getD_eq_getD_getElem?, Array.getElem?_setIfInBounds, if_neg e]
      rw [this]
      exact hT i

theorem TRep.tr {a : Act} {t : Tmps} {w' : World} {F' : Nat → Prop} {m' : MapT} {G' : List Nat} (hT : TRep nm w F m G a t) (hb : ∀ b, F b → b < w.heap.size) (T : Tr w F m G w' F' m' G') : TRep nm w' F' m' G' a t :=
  fun i => (hT i).tr hb T

theorem getD_some {a : Array Value} {d : Nat} {v : Value} (h : a.getD d undef = v) (hv : v ≠ undef) : a[d]? = some v := by
  rw [Array.getD_eq_getD_getElem?] at h
  cases hx : a[d]? with
  | none => rw [hx] at h; exact (hv h.symm).elim
  | some x => rw [hx] at h; simp at h; rw [h]

theorem wants_sound {N : Nat} {ops : Array Oper} {a : Act} {s : St} (R : SR nm N w F m a s) {o : Oper} {g : Option (Nat × Bool)} {b : Bool} (hc : chkG ops o.guard g = true) (hw : wants s.t g = some b) :
    Region.wanted o (yielded ops a.tmps) = b := by
  unfold chkG at hc
  unfold Region.wanted
  split at hc
  · rename_i h1
    simp only [wants] at hw
    injection hw with hw
    rw [h1]
    exact hw
  · rename_i j want d want' h1
    simp only [Bool.and_eq_true, beq_iff_eq] at hc
    obtain ⟨rfl, h2⟩ := hc
    split at h2
    · rename_i oj hoj
      have hd : oj.dst = some d := by simpa using h2
      have hr := R.t d
      simp only [wants] at hw
      have hy : yielded ops a.tmps j = match a.tmps[d]? with | some (.bool b) => some b | _ => none := by
        simp only [yielded, hoj, Option.bind_some, hd]
        rfl
      rw [h1]
      simp only
      split at hw
      · rename_i b' hb'
        injection hw with hw
        rw [hb'] at hr
        have := getD_some hr.bool_inv (by simp [undef])
        rw [hy, this]
        simp only
        rw [← hw]
        cases b' <;> cases want <;> rfl
      · rename_i hb'
        injection hw with hw
        rw [hb'] at hr
        obtain ⟨vs, hv, hn, _⟩ := hr.tup_inv
        rw [hy, ← hw]
        have hne : ∀ b, a.tmps[d]? ≠ some (.bool b) := by
          intro b hb
          rw [Array.getD_eq_getD_getElem?, hb] at hv
          cases hv
        split
        · rename_i b hb; exact (hne b hb).elim
        · rfl
      · cases hw
    · cases h2
  · cases hc

def NmOk (P : Program) (nm : Nat → Option Nat) : Prop := P.follows .mixedOrders = true ∧ ∀ f key, nm f = some key → ∃ fn c, P.funcs[f]? = some fn ∧ fn.body = some c ∧ fn.name ≠ "runtime.NumGoroutine"

theorem run_callFunc (H : NmOk P nm) {f key : Nat} (hk : nm f = some key) (args : Array Value) : (callFunc f args).run P w = .ok (.enter f args) w := by
  obtain ⟨fn, c, h1, h2, h3⟩ := H.2 f key hk
  simp [callFunc, h1, h3, h2]

theorem chkOp_call {o : Oper} {sl : Option Nat} {ro : Bool} {key : Nat} {args : List Opd} (h : chkOp P nm o (.call sl ro key args) = true) :
    ∃ f cargs ts, o.op = .call { callee := .value (.func f), args := cargs, argTypes := ts } ∧ nm f = some key ∧ chkOs nm cargs.toList args = true := by
  obtain ⟨dst, op, ty, pos, after, guard⟩ := o
  cases op with
  | call c =>
    obtain ⟨callee, cargs, ts⟩ := c
    cases callee with
    | value x =>
      cases x with
      | func f =>
        simp only [chkOp, Bool.and_eq_true, beq_iff_eq] at h
        exact ⟨f, cargs, ts, rfl, h.1, h.2⟩
      | _ => cases h
    | builtin b => cases b <;> cases h
    | invoke => cases h
  | slice xt x lo hi mx => cases mx <;> cases h
  | makeMap t r => cases r <;> cases h
  | makeFunc fn fi ca => cases fn <;> cases h
  | _ => cases h

theorem chkOp_callv {o : Oper} {sl : Option Nat} {ro : Bool} {f : Opd} {args : List Opd} (h : chkOp P nm o (.callv sl ro f args) = true) :
    ∃ x cargs ts, o.op = .call { callee := .value x, args := cargs, argTypes := ts } ∧ chkO nm x f = true ∧ chkOs nm cargs.toList args = true := by
  obtain ⟨dst, op, ty, pos, after, guard⟩ := o
  cases op with
  | call c =>
    obtain ⟨callee, cargs, ts⟩ := c
    cases callee with
    | value x =>
      have h2 : (chkO nm x f && chkOs nm cargs.toList args) = true := by cases x <;> exact h
      rw [Bool.and_eq_true] at h2
      exact ⟨x, cargs, ts, rfl, h2.1, h2.2⟩
    | builtin b => cases b <;> cases h
    | invoke => cases h
  | slice xt x lo hi mx => cases mx <;> cases h
  | makeMap t r => cases r <;> cases h
  | makeFunc fn fi ca => cases fn <;> cases h
  | _ => cases h

theorem callAny_sound {E : Env} {C : Calls2} (hP : PSound P nm C.p) (hI : ISound P nm C.i) (I : Inv nm w F m h) {fb : Nat} {sl : Option Nat} {ro : Bool} {f key : Nat} {vs : Array Value} {args : List AV} {x : AV × Heap} (hk : nm f = some key) (hn : vs.size = args.length)
    (hv : ∀ (j : Nat) (v : Value) (l : AV), vs[j]? = some v → args[j]? = some l → Rep nm w F m (gens h) v l) (hx : callAny E C fb sl ro key args h = some x) : Calls P f vs w (InPost nm w F m h x) := by
  unfold callAny at hx
  split at hx
  · exact callP_sound hP I hk hn hv hx
  · exact hI f key args _ h x hk hx w F m vs I hn hv

/-- One operation. -/
theorem step_sound (H : NmOk P nm) {E : Env} {C : Calls2} (hP : PSound P nm C.p) (hI : ISound P nm C.i) {N : Nat} {ops : Array Oper} {o : Oper} {c : CI} {fb : Nat} {a : Act} {s s' : St} (R : SR nm N w F m a s) (hc : chkCI P nm N ops o c = true)
    (hx : stepCI E C fb c s = some s') {next : Act → World → Prop} {Q : Exit → Act → World → Prop}
    (hnext : ∀ a' w' F' m', SR nm N w' F' m' a' s' → Tr w F m (gens s.h) w' F' m' (gens s'.h) → next a' w') :
    if Region.wanted o (yielded ops a.tmps) then o.wp P a w next Q else next (a.put o.dst undef) w := by
  simp only [chkCI, Bool.and_eq_true] at hc
  obtain ⟨⟨⟨h1, h2⟩, h3⟩, h4⟩ := hc
  have hd : o.dst = c.dst := by simpa using h1
  have hdl : ∀ d', c.dst = some d' → d' < N := by
    intro d' he
    rw [he] at h2
    simpa using h2
  unfold stepCI at hx
  split at hx
  · rename_i hw
    rw [if_pos (wants_sound R h3 hw)]
    split at hx
    · rename_i v h' hv
      injection hx with hx
      subst hx
      by_cases hcall : isCall c.op = true
      · -- a call
        have fin : ∀ {f : Nat} {vs : Array Value}, (execOp a.eval o).run P w = .ok (.enter f vs) w → Calls P f vs w (InPost nm w F m s.h (v, h')) → o.wp P a w next Q := by
          intro f vs hrun hcalls
          unfold Oper.wp
          rw [hrun, Oper.upon_enter]
          refine hcalls.mono fun e w' hp => ?_
          obtain ⟨v', F', m', rfl, hI', hT', hr'⟩ := hp
          obtain ⟨p1, p2, p3⟩ := (R.t.tr R.inv.bd hT').put (d := c.dst) R.size hdl hr'
          rw [hd]
          exact hnext _ _ F' m' ⟨hI', p1, p2, by rw [p3]; exact R.defers⟩ hT'
        obtain ⟨dst, op, g⟩ := c
        cases op <;> first | cases hcall | skip
        · -- a function
          rename_i sl ro key args
          simp only [evOp] at hv
          obtain ⟨f, cargs, ts, hop, hk, hargs⟩ := chkOp_call h4
          obtain ⟨a1, a2⟩ := chkOs_rep R.t hargs
          refine fin (f := f) (vs := cargs.map a.eval) ?_ (callAny_sound hP hI R.inv hk (by simpa using a1) (fun j v l h1 h2 => a2 j v l (by simpa using h1) h2) hv)
          simp [execOp, hop, resolve, Act.eval, Deferred.ofValue, invoke, run_callFunc H hk]
        · -- a function value
          rename_i sl ro f args
          simp only [evOp] at hv
          obtain ⟨x, cargs, ts, hop, hfo, hargs⟩ := chkOp_callv h4
          obtain ⟨a1, a2⟩ := chkOs_rep R.t hargs
          have hfr := chkO_rep R.t hfo
          split at hv
          · rename_i key caps hfv
            rw [hfv] at hfr
            have hfn : ∀ av, Rep nm w F m (gens s.h) av (.fn key caps) → ∃ (f : Nat) (cv : Array Value), av = .func (.func f) #[] cv ∧ nm f = some key ∧ cv.size = caps.length ∧
                ∀ (j : Nat) (v : Value) (l : AV), cv[j]? = some v → caps[j]? = some l → Rep nm w F m (gens s.h) v l := by
              intro av hav
              cases hav with
              | pure hp =>
                cases hp with
                | fn f key hk => exact ⟨f, #[], rfl, hk, rfl, fun j v l h1 _ => by simp at h1⟩
              | fn f key cv caps hk hn hr => exact ⟨f, cv, rfl, hk, hn, hr⟩
            obtain ⟨f', cv, hev, hk, hcn, hcr⟩ := hfn _ hfr
            have a1' : cargs.size = args.length := by simpa using a1
            refine fin (f := f') (vs := cargs.map a.eval ++ cv) ?_ (callAny_sound hP hI R.inv hk (by simp [a1', hcn]) (fun j v l h1 h2 => ?_) hv)
            · simp [execOp, hop, resolve, hev, Deferred.ofValue, invoke, run_callFunc H hk]
            · rw [Array.getElem?_append] at h1
              rw [List.getElem?_append] at h2
              simp only [Array.size_map] at h1
              simp only [List.length_map] at h2
              rw [a1'] at h1
              split at h1
              · rename_i hlt
                rw [if_pos hlt] at h2
                exact a2 j v l (by simpa using h1) h2
              · rename_i hlt
                rw [if_neg hlt] at h2
                exact hcr _ v l h1 h2
          · cases hv
      · have hdo := op_sound R.inv R.t h4 (by simpa using hcall) hv
        obtain ⟨v', w', F', m', hrun, hI', hT', hr'⟩ := hdo
        obtain ⟨p1, p2, p3⟩ := (R.t.tr R.inv.bd hT').put (d := c.dst) R.size hdl hr'
        have hn := hnext _ _ F' m' ⟨hI', p1, p2, by rw [p3]; exact R.defers⟩ hT'
        unfold Oper.wp
        rcases hrun with hrun | ⟨rfl, hrun⟩
        · rw [hrun, Oper.upon_value, hd]; exact hn
        · rw [hrun, Oper.upon_skip, hd]; exact hn
    · cases hx
  · rename_i hw
    rw [if_neg (by rw [wants_sound R h3 hw]; exact Bool.false_ne_true)]
    injection hx with hx
    subst hx
    have hr : Rep nm w F m (gens s.h) undef (.tup []) := .pure (.tup #[] [] rfl (fun j v l h1 _ => by simp at h1))
    obtain ⟨p1, p2, p3⟩ := R.t.put (d := c.dst) R.size hdl hr
    rw [hd]
    exact hnext _ _ F m ⟨R.inv, p1, p2, by rw [p3]; exact R.defers⟩ (Tr.refl _ _ _ _)
  · cases hx

/-- Operations one behind the other. -/
theorem runCIs_sound (H : NmOk P nm) {E : Env} {C : Calls2} (hP : PSound P nm C.p) (hI : ISound P nm C.i) {N : Nat} {ops : Array Oper} {fb : Nat} {Q : Exit → Act → World → Prop} :
    ∀ (l : List Oper) (cs : List CI) (k : Nat) (a : Act) (s s' : St) (w : World) (F : Nat → Prop) (m : MapT), (∀ j, l[j]? = ops[k + j]?) → chkCIs P nm N ops l cs = true → SR nm N w F m a s → runCIs E C fb cs s = some s' →
      (∀ a' w' F' m', SR nm N w' F' m' a' s' → Tr w F m (gens s.h) w' F' m' (gens s'.h) → Q .normal a' w') → wpOps P ops Q (List.range' k l.length) a w
  | [], [], k, a, s, s', w, F, m, _, _, R, hx, hQ => by
    simp only [runCIs] at hx
    injection hx with hx
    subst hx
    exact hQ a w F m R (Tr.refl _ _ _ _)
  | o :: l, c :: cs, k, a, s, s', w, F, m, hl, hc, R, hx, hQ => by
    simp only [chkCIs, Bool.and_eq_true] at hc
    simp only [runCIs] at hx
    split at hx
    · rename_i s1 hs1
      have ho : ops[k]? = some o := by have := hl 0; simpa using this.symm
      have hst := step_sound H hP hI R hc.1 hs1 (next := wpOps P ops Q (List.range' (k + 1) l.length)) (Q := Q) (fun a' w' F' m' R' T' =>
        runCIs_sound H hP hI l cs (k + 1) a' s1 s' w' F' m' (fun j => by have := hl (j + 1); rw [show k + (j + 1) = k + 1 + j by omega] at this; simpa using this) hc.2 R' hx
          (fun a2 w2 F2 m2 R2 T2 => hQ a2 w2 F2 m2 R2 (T'.trans T2)))
      rw [List.length_cons, List.range'_succ]
      simp only [wpOps, ho]
      split
      · rename_i hw; rw [if_pos hw] at hst; exact .inl hst
      · rename_i hw; rw [if_neg hw] at hst; exact hst
    · cases hx
  | [], _ :: _, _, _, _, _, _, _, _, _, h, _, _, _ => by cases h
  | _ :: _, [], _, _, _, _, _, _, _, _, h, _, _, _ => by cases h

end Go.Vm
