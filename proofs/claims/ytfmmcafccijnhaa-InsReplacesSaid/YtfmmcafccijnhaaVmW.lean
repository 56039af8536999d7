/- The value machine: a row 'it returns true, and what it was given reads as it did', shut by the machine's answer. -/
import Derived.Test.YtfmmcafccijnhaaVmV
namespace Go.Vm
open Go.ChangeShapes Go.WideShapes Go.ChangeAt Go.RowKit

variable {H : Type} {enc : TypeId × Value → H} {P : Program} {nm : Nat → Option Nat} {w : World} {held : Bool}

/-- The argument that these cells make. -/
def Ty.arg : Ty → List AV → AV
  | .struct _, cs => .agg cs
  | _, cs => cs.headD .undef

def hasAll : List Ty → List AV → Prop
  | [], ls => ls = []
  | T :: Ts, ls => ∃ as ls', ls = T.arg as :: ls' ∧ T.has as ∧ hasAll Ts ls'

def tysOk (P : Program) : List Ty → List TypeId → Bool
  | [], [] => true
  | T :: Ts, t :: ts => tyOk P T (.inl t) && tysOk P Ts ts
  | _, _ => false

theorem open_arg {T : Ty} {t : TypeId} {v : Value} {d : DataW H} {ps : List MemPlace} {base : Nat} (hT : tyOk P T (.inl t) = true) (hval : Value.okWide P w .any base t v) (hd : DataW.Trod enc P w 0 (fun _ => true) held t v d ps) :
    ∃ as, T.has as ∧ PRep nm w (fun b => b < w.heap.size) v (T.arg as) := by
  obtain ⟨fuel, hf⟩ := hd
  obtain ⟨as, h1, h2, h3⟩ := (trod_has (nm := nm) T).1 t hT fuel _ _ hf
  have scalar : v.cells.toList = [v] → T.size = 1 → (∀ as, T.arg as = as.headD .undef) → ∃ as, T.has as ∧ PRep nm w (fun b => b < w.heap.size) v (T.arg as) := by
    intro hc hs ha
    refine ⟨as, h1, ?_⟩
    rw [ha]
    rw [hc] at h3
    match as, h2.trans hs with
    | [l], _ => exact (h3.2 0 v l rfl rfl).2
  cases T with
  | int k =>
    simp only [tyOk] at hT
    split at hT
    · rename_i k' hu
      obtain ⟨n, rfl⟩ := okWide_int hu hval
      exact scalar rfl rfl (fun _ => rfl)
    · cases hT
  | bool =>
    simp only [tyOk] at hT
    split at hT
    · rename_i hu
      have : ∃ b, v = .bool b := by
        simp only [Value.okWide, hu, Cell.okWide] at hval
        cases v <;> simp [Cell.ok, hu] at hval
        exact ⟨_, rfl⟩
      obtain ⟨b, rfl⟩ := this
      exact scalar rfl rfl (fun _ => rfl)
    · cases hT
  | str =>
    simp only [tyOk] at hT
    split at hT
    · rename_i hu
      have : ∃ b, v = .string b := by
        simp only [Value.okWide, hu, Cell.okWide] at hval
        cases v <;> simp [Cell.ok, hu] at hval
        exact ⟨_, rfl⟩
      obtain ⟨b, rfl⟩ := this
      exact scalar rfl rfl (fun _ => rfl)
    · cases hT
  | slice es e =>
    simp only [tyOk] at hT
    split at hT
    · rename_i u hu
      have : ∃ a n c, v = .slice a n c := by
        simp only [Value.okWide, hu, Cell.okWide] at hval
        cases v <;> simp [Cell.ok, hu] at hval
        exact ⟨_, _, _, rfl⟩
      obtain ⟨a, n, c, rfl⟩ := this
      exact scalar rfl rfl (fun _ => rfl)
    · cases hT
  | struct b =>
    simp only [tyOk] at hT
    split at hT
    · rename_i fs hu
      simp only [Value.okWide, hu] at hval
      obtain ⟨cs, rfl, _, _⟩ := hval
      refine ⟨as, h1, ?_⟩
      refine .agg cs as (by have := h3.1; simpa [Value.cells] using this.symm) (fun j v l hv hl => (h3.2 j v l ?_ hl).2)
      simpa [Value.cells] using hv
    · cases hT
  | sNil => cases hT
  | sCons => cases hT

theorem open_all {base : Nat} : ∀ (Ts : List Ty) (ts : List TypeId) (vs : List Value) (ds : List (DataW H)) (p : List MemPlace), tysOk P Ts ts = true → DataW.TrodAll enc P w 0 (fun _ => true) held ts vs ds p →
    (∀ (j : Nat) t v, ts[j]? = some t → vs[j]? = some v → Value.okWide P w .any base t v) →
    ∃ ls, hasAll Ts ls ∧ vs.length = ls.length ∧ ds.length = Ts.length ∧ ∀ (j : Nat) (v : Value) (l : AV), vs[j]? = some v → ls[j]? = some l → PRep nm w (fun b => b < w.heap.size) v l
  | [], [], vs, ds, p, _, h, _ => by
    obtain ⟨rfl, rfl, rfl⟩ := trodAll_nil h
    exact ⟨[], rfl, rfl, rfl, fun j v l hv => by simp at hv⟩
  | T :: Ts, t :: ts, vs, ds, p, hT, h, hval => by
    simp only [tysOk, Bool.and_eq_true] at hT
    obtain ⟨v, vs1, d, ds1, a, b, rfl, rfl, rfl, h1, h2⟩ := trodAll_cons h
    obtain ⟨as, a1, a2⟩ := open_arg (nm := nm) hT.1 (hval 0 t v rfl rfl) h1
    obtain ⟨ls, l1, l2, l3, l4⟩ := open_all Ts ts vs1 ds1 b hT.2 h2 (fun j t v ht hv => hval (j + 1) t v (by simpa using ht) (by simpa using hv))
    refine ⟨T.arg as :: ls, ⟨as, ls, rfl, a1, l1⟩, by simp [l2], by simp [l3], fun j v' l hv hl => ?_⟩
    cases j with
    | zero => simp at hv hl; subst hv; subst hl; exact a2
    | succ j => exact l4 j v' l (by simpa using hv) (by simpa using hl)
  | [], _ :: _, _, _, _, h, _, _ => by cases h
  | _ :: _, [], _, _, _, h, _, _ => by cases h

theorem trodAll_stays {w' : World} {sp : Nat → Bool} (hl : laidOutB P = true) : ∀ (ts : List TypeId) (vs : List Value) (ds : List (DataW H)) (p : List MemPlace), (∀ t, t ∈ ts → P.readableRec t = true ∧ t < P.types.size) →
    DataW.TrodAll enc P w 0 (fun _ => true) true ts vs ds p → (∀ x, x ∈ p → w.sameAt w' x) → (∀ x, x ∈ p → sp x.block = true) → DataW.TrodAll enc P w' 0 sp true ts vs ds p
  | [], vs, ds, p, _, h, _, _ => by
    obtain ⟨rfl, rfl, rfl⟩ := trodAll_nil h
    exact rfl
  | t :: ts, vs, ds, p, hr, h, h1, h2 => by
    obtain ⟨v, vs1, d, ds1, a, b, rfl, rfl, rfl, k1, k2⟩ := trodAll_cons h
    have ht := hr t (by simp)
    exact ⟨a, b, Go.WideElems.Trod_stays hl ht.1 ht.2 k1 (fun x hx => h1 x (by simp [hx])) (fun x hx => h2 x (by simp [hx])),
      trodAll_stays hl ts vs1 ds1 b (fun t ht => hr t (by simp [ht])) k2 (fun x hx => h1 x (by simp [hx])) (fun x hx => h2 x (by simp [hx])), rfl⟩

theorem Same.keptBut {W W' : World} (h : Same W W') (may : MemPlace → Prop) : W.keptBut W' may := by
  refine ⟨h.os, h.output, fun i hi => ?_⟩
  rw [h.block i hi]
  cases W.heap[i]? with
  | none => exact rfl
  | some o =>
    cases o with
    | cells c t fr => exact ⟨rfl, rfl, rfl, fun _ _ => rfl⟩
    | map es clock => exact .inr ⟨rfl, rfl⟩
    | _ => exact rfl

theorem Same.sameAt {W W' : World} (h : Same W W') {x : MemPlace} (hx : x.block < W.heap.size) : W.sameAt W' x := by
  cases x with
  | cell b off =>
    have := h.block b hx
    simp only [World.sameAt, World.cell?, this]
  | map b => exact h.block b hx

theorem law_lifted {C : Checked} {os : Os} {f : FuncId} {fn : Func} {s : ChangeSpec} {conds : List PathCond} (own : ownKnob C.prog.godebug = none) (started : os.Started) (noInit : C.prog.inits.idxOf? f = none) (hfn : C.prog.funcs[f]? = some fn)
    (witness : ∃ (w : World) (tape : Tape) (i : Input), w.os = os ∧ (w.forCall tape i).Shaped C.prog ∧ i.vars = [] ∧ Input.okWide C.prog (w.forCall tape i) .any w.heap.size f i ∧
      s.pre6 enc C.prog fn conds false (w.forCall tape i).memory i.args ∧ ({} : Assume).holds C.prog (lone (Frame.enter C.prog f i.args .normal) [] (w.forCall tape i)))
    (hl : laidOutB C.prog = true) {E : Env} (hE : EnvOk C.prog nm E) {key : Nat} (hk : nm f = some key) {Ts : List Ty} (hT : tysOk C.prog Ts fn.params.toList = true) {tb : TypeId} (hres : fn.resultTypes = #[tb]) (hb : C.prog.underlying tb = some .bool)
    (hs : ∀ ds : List (DataW H), ds.length = Ts.length → s.fn H ds = { results := [.lit (.bool true)], args := ds }) (hvars : s.vars = []) (hread : fn.params.toList.all (fun t => C.prog.readableRec t && decide (t < C.prog.types.size)) = true)
    (hlaw : ∀ ls, hasAll Ts ls → ∃ r, (callW E).p key ls = some r ∧ r.v = .bool true) :
    ReturnsInHanded {} C os f .any (s.pre6 enc C.prog fn conds false) (s.post enc C.prog fn false true false false) := by
  refine returnsInHanded_of_change (C := C) own started noInit hfn witness ?_
  intro W base args ds gs before hval hW hcnd _
  have hW' := hW
  obtain ⟨p, q, hA, hV, rfl, hfz, hnd⟩ := hW
  rw [hvars] at hV
  obtain ⟨rfl, rfl⟩ := trodVars_none hV
  obtain ⟨ls, l1, l2, l3, l4⟩ := open_all (nm := nm) Ts _ _ _ _ hT hA (fun j t v ht hv => hval j t v (by simpa using ht) (by simpa using hv))
  obtain ⟨r, r1, r2⟩ := hlaw ls l1
  have hcall := call_sound hE f key ls r hk r1 W (fun b => b < W.heap.size) args (fun b hb => hb) (by simpa using l2) (fun j v l hv hl => l4 j v l (by simpa using hv) hl)
  refine hcall.mono fun e W' hp => ?_
  obtain ⟨v, rfl, S, F2, m2, I2, _, hrep, _, _⟩ := hp
  rw [r2] at hrep
  obtain rfl := hrep.bool_inv
  refine ⟨_, rfl, ?_⟩
  simp only [List.append_nil] at hW'
  have hlt : ∀ x, x ∈ p → x.block < W.heap.size := fun x hx => hW'.lt x hx
  have hargs : ∀ sp : Nat → Bool, (∀ x, x ∈ p → sp x.block = true) → DataW.TrodAll enc C.prog W' 0 sp true fn.params.toList args.toList ds p := fun sp hsp =>
    trodAll_stays hl _ _ _ _ (fun t ht => by
      have := List.all_eq_true.1 hread t ht
      simpa using this) hA (fun x hx => S.sameAt (hlt x hx)) hsp
  have hds := hs ds l3
  refine ⟨ds, [], p, [], p, [], hW', ?_, ?_, ?_, ?_, fun h => by cases h⟩
  · rw [hres]
    simp only [List.append_nil, hds]
    exact trodAll_mk1 (shut_bool hb true)
  · simp only [List.append_nil, hds]
    exact hargs _ (fun x hx => by simpa using hlt x hx)
  · simp only [List.append_nil, hds, hvars]
    exact rfl
  · exact S.keptBut _

end Go.Vm
