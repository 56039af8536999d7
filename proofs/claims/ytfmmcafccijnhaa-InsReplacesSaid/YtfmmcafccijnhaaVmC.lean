/- The value machine: more fuel gives the same answers, and the answers that any fuel gives satisfy the machine's own equations. -/
import Derived.Test.YtfmmcafccijnhaaVmB
namespace Go.Vm

def Le {α : Type} (a b : Option α) : Prop := ∀ r, a = some r → b = some r

theorem Le.refl {α : Type} (a : Option α) : Le a a := fun _ h => h
theorem Le.trans {α : Type} {a b c : Option α} (h : Le a b) (h' : Le b c) : Le a c := fun r hr => h' r (h r hr)

structure CLe (C C' : Calls2) : Prop where
  p : ∀ f a, Le (C.p f a) (C'.p f a)
  i : ∀ f a fb h, Le (C.i f a fb h) (C'.i f a fb h)

def LLe (L L' : LoopT) : Prop := ∀ live a fb s, Le (L live a fb s) (L' live a fb s)

variable {E : Env} {C C' : Calls2} {L L' : LoopT}

theorem callP_mono (hC : CLe C C') (fb : Nat) (sl : Option Nat) (ro : Bool) (f : Nat) (args : List AV) (h : Heap) :
    Le (callP E C fb sl ro f args h) (callP E C' fb sl ro f args h) := by
  intro r hr
  unfold callP at hr ⊢
  split at hr
  · cases hr
  · rename_i fa hfa
    split at hr
    · cases hr
    · rename_i q hq
      rw [hC.p _ _ _ hq]
      exact hr

theorem callAny_mono (hC : CLe C C') (fb : Nat) (sl : Option Nat) (ro : Bool) (f : Nat) (args : List AV) (h : Heap) :
    Le (callAny E C fb sl ro f args h) (callAny E C' fb sl ro f args h) := by
  intro r hr
  unfold callAny at hr ⊢
  split
  · rename_i hp; rw [if_pos hp] at hr; exact callP_mono hC _ _ _ _ _ _ _ hr
  · rename_i hp; rw [if_neg hp] at hr; exact hC.i _ _ _ _ _ hr

theorem evOp_mono (hC : CLe C C') (fb : Nat) (t : Tmps) (h : Heap) (op : COp) : Le (evOp E C fb t h op) (evOp E C' fb t h op) := by
  intro r hr
  cases op with
  | call sl ro f args => exact callAny_mono hC _ _ _ _ _ _ _ hr
  | callv sl ro f args =>
    simp only [evOp] at hr ⊢
    split at hr
    · exact callAny_mono hC _ _ _ _ _ _ _ hr
    · cases hr
  | _ => exact hr

theorem stepCI_mono (hC : CLe C C') (fb : Nat) (o : CI) (s : St) : Le (stepCI E C fb o s) (stepCI E C' fb o s) := by
  intro r hr
  unfold stepCI at hr ⊢
  split at hr
  · split at hr
    · rename_i hv; rw [evOp_mono hC _ _ _ _ _ hv]; exact hr
    · cases hr
  · exact hr
  · cases hr

theorem runCIs_mono (hC : CLe C C') (fb : Nat) : ∀ (l : List CI) (s : St), Le (runCIs E C fb l s) (runCIs E C' fb l s)
  | [], _ => Le.refl _
  | o :: r, s => by
    intro x hx
    simp only [runCIs] at hx ⊢
    split at hx
    · rename_i hs; rw [stepCI_mono hC _ _ _ _ hs]; exact runCIs_mono hC fb r _ _ hx
    · cases hx

theorem fpOf_mono (hC : CLe C C') (fb : Nat) (t : Tmps) (h : Heap) (op : COp) : Le (fpOf E C fb t h op) (fpOf E C' fb t h op) := by
  intro r hr
  cases op with
  | call sl ro f args =>
    simp only [fpOf] at hr ⊢
    split
    · rename_i hp
      rw [if_pos hp] at hr
      split at hr
      · cases hr
      · split at hr
        · cases hr
        · rename_i q hq; rw [hC.p _ _ _ hq]; exact hr
    · rename_i hp; rw [if_neg hp] at hr; cases hr
  | new sl _ => cases sl <;> exact hr
  | box sl _ => cases sl <;> exact hr
  | buildS sl _ _ _ _ => cases sl <;> exact hr
  | mkS sl _ _ _ _ _ => cases sl <;> exact hr
  | s2b sl _ => cases sl <;> exact hr
  | mkm sl => cases sl <;> exact hr
  | _ => exact hr

theorem fpCI_mono (hC : CLe C C') (fb : Nat) (o : CI) (s : St) : Le (fpCI E C fb o s) (fpCI E C' fb o s) := by
  intro r hr
  unfold fpCI at hr ⊢
  split at hr
  · exact fpOf_mono hC _ _ _ _ _ hr
  · exact hr
  · cases hr

theorem runFp_mono (hC : CLe C C') (fb : Nat) : ∀ (l : List CI) (s : St), Le (runFp E C fb l s) (runFp E C' fb l s)
  | [], _ => Le.refl _
  | o :: r, s => by
    intro x hx
    simp only [runFp] at hx ⊢
    split at hx
    · rename_i hf hs
      rw [fpCI_mono hC _ _ _ _ hf, stepCI_mono hC _ _ _ _ hs]
      split at hx
      · rename_i hr; simp only [runFp_mono hC fb r _ _ hr]; exact hx
      · cases hx
    · cases hx

theorem exec_mono (hC : CLe C C') (hL : LLe L L') (fb : Nat) : ∀ (c : CCode) (s : St), Le (exec E C L fb c s) (exec E C' L' fb c s) := by
  intro c
  induction c with
  | skip => exact fun _ => Le.refl _
  | region ops =>
    intro s x hx
    simp only [exec] at hx ⊢
    split at hx
    · rename_i hr; rw [runCIs_mono hC _ _ _ _ hr]; exact hx
    · cases hx
  | draw ops pairs =>
    intro s x hx
    simp only [exec, runDraw] at hx ⊢
    split at hx
    · rename_i hr
      split at hr
      · rename_i hf; simp only [runFp_mono hC _ _ _ _ hf]; rw [hr]; exact hx
      · cases hr
    · cases hx
  | seq a b iha ihb =>
    intro s x hx
    simp only [exec] at hx ⊢
    split at hx
    · rename_i hr; rw [iha _ _ hr]; exact ihb _ _ hx
    · rename_i r hne
      rw [iha _ _ hx]
      split
      · rename_i s' he; exact (hne s' (hx.trans he)).elim
      · rfl
  | cond c a b iha ihb =>
    intro s x hx
    simp only [exec] at hx ⊢
    split at hx
    · split
      · rename_i hb; rw [if_pos hb] at hx; exact iha _ _ hx
      · rename_i hb; rw [if_neg hb] at hx; exact ihb _ _ hx
    · cases hx
  | block id a iha =>
    intro s x hx
    simp only [exec] at hx ⊢
    split at hx
    · rename_i hr; rw [iha _ _ hr]; exact hx
    · rename_i r hne
      rw [iha _ _ hx]
      split
      · rename_i id' s' he; exact (hne id' s' (hx.trans he)).elim
      · rfl
  | loop live a _ => exact fun s => hL _ _ _ _
  | exit id => exact fun _ => Le.refl _
  | ret => exact fun _ => Le.refl _

theorem runBody_mono (hC : CLe C C') (hL : LLe L L') (cf : CFunc) (args : List AV) (fb : Nat) (h : Heap) :
    Le (runBody E C L cf args fb h) (runBody E C' L' cf args fb h) := by
  intro x hx
  unfold runBody at hx ⊢
  split
  · rename_i hp
    rw [if_pos hp] at hx
    split at hx
    · rename_i hr; rw [exec_mono hC hL _ _ _ _ hr]; exact hx
    · rename_i hr; rw [exec_mono hC hL _ _ _ _ hr]; exact hx
    · cases hx
  · rename_i hp; rw [if_neg hp] at hx; cases hx

theorem runPure_mono (hC : CLe C C') (hL : LLe L L') (f : Nat) (args : List AV) : Le (runPure E C L f args) (runPure E C' L' f args) := by
  intro x hx
  unfold runPure at hx ⊢
  split
  · rename_i hf; rw [hf] at hx; exact hx
  · rename_i cf hf
    rw [hf] at hx
    simp only at hx
    split at hx
    · rename_i hr; rw [runBody_mono hC hL _ _ _ _ _ hr]; exact hx
    · cases hx

theorem runIn_mono (hC : CLe C C') (hL : LLe L L') (f : Nat) (args : List AV) (fb : Nat) (h : Heap) : Le (runIn E C L f args fb h) (runIn E C' L' f args fb h) := by
  intro x hx
  unfold runIn at hx ⊢
  split
  · rename_i hf; rw [hf] at hx; exact hx
  · rename_i cf hf
    rw [hf] at hx
    simp only at hx
    split
    · rename_i hb; rw [if_pos hb] at hx; exact runBody_mono hC hL _ _ _ _ _ hx
    · rename_i hb; rw [if_neg hb] at hx; exact runBody_mono hC hL _ _ _ _ _ hx

theorem runLoop_mono (hC : CLe C C') (hL : LLe L L') : LLe (runLoop E C L) (runLoop E C' L') := by
  intro live a fb s x hx
  unfold runLoop at hx ⊢
  split at hx
  · rename_i hr; rw [exec_mono hC hL _ _ _ _ hr]; exact hL _ _ _ _ _ hx
  · rename_i r hne
    rw [exec_mono hC hL _ _ _ _ hx]
    split
    · rename_i s' he; exact (hne s' (hx.trans he)).elim
    · rfl

theorem both_succ (E : Env) : ∀ k, CLe (both E k).1 (both E (k + 1)).1 ∧ LLe (both E k).2 (both E (k + 1)).2
  | 0 => ⟨⟨fun _ _ _ h => by simp [both] at h, fun _ _ _ _ _ h => by simp [both] at h⟩, fun _ _ _ _ _ h => by simp [both] at h⟩
  | k + 1 => by
    obtain ⟨hc, hl⟩ := both_succ E k
    exact ⟨⟨runPure_mono hc hl, runIn_mono hc hl⟩, runLoop_mono hc hl⟩

theorem both_le (E : Env) {k k' : Nat} (h : k ≤ k') : CLe (both E k).1 (both E k').1 ∧ LLe (both E k).2 (both E k').2 := by
  induction h with
  | refl => exact ⟨⟨fun _ _ => Le.refl _, fun _ _ _ _ => Le.refl _⟩, fun _ _ _ _ => Le.refl _⟩
  | step _ ih =>
    obtain ⟨hc, hl⟩ := both_succ E _
    exact ⟨⟨fun f a => (ih.1.p f a).trans (hc.p f a), fun f a fb h => (ih.1.i f a fb h).trans (hc.i f a fb h)⟩,
      fun l a fb s => (ih.2 l a fb s).trans (hl l a fb s)⟩

theorem lim_eq {α : Type} {f : Nat → Option α} (hm : ∀ k k', k ≤ k' → Le (f k) (f k')) (r : α) : lim f = some r ↔ ∃ k, f k = some r := by
  unfold lim
  constructor
  · intro h
    split at h
    · rename_i hex
      injection h with h
      subst h
      exact ⟨_, Classical.choose_spec (Classical.choose_spec hex)⟩
    · cases h
  · rintro ⟨k, hk⟩
    have hex : ∃ k r, f k = some r := ⟨k, r, hk⟩
    rw [dif_pos hex]
    have h2 := Classical.choose_spec (Classical.choose_spec hex)
    have a := hm k (max k (Classical.choose hex)) (Nat.le_max_left _ _) _ hk
    have b := hm (Classical.choose hex) (max k (Classical.choose hex)) (Nat.le_max_right _ _) _ h2
    rw [a] at b
    exact b.symm

theorem callW_p (f : Nat) (args : List AV) (r : Ex AV) : (callW E).p f args = some r ↔ ∃ k, (both E k).1.p f args = some r :=
  lim_eq (fun _ _ h => (both_le E h).1.p f args) r
theorem callW_i (f : Nat) (args : List AV) (fb : Nat) (h : Heap) (r : AV × Heap) : (callW E).i f args fb h = some r ↔ ∃ k, (both E k).1.i f args fb h = some r :=
  lim_eq (fun _ _ hk => (both_le E hk).1.i f args fb h) r
theorem loopW_k (live : List Nat) (a : CCode) (fb : Nat) (s : St) (r : Res × St) : loopW E live a fb s = some r ↔ ∃ k, (both E k).2 live a fb s = some r :=
  lim_eq (fun _ _ hk => (both_le E hk).2 live a fb s) r

theorem le_callW (k : Nat) : CLe (both E k).1 (callW E) := ⟨fun _ _ _ h => (callW_p _ _ _).2 ⟨k, h⟩, fun _ _ _ _ _ h => (callW_i _ _ _ _ _).2 ⟨k, h⟩⟩
theorem le_loopW (k : Nat) : LLe (both E k).2 (loopW E) := fun _ _ _ _ _ h => (loopW_k _ _ _ _ _).2 ⟨k, h⟩

/-! Back: what is made of what any fuel gives is made of what some fuel gives. -/

theorem callP_back {fb : Nat} {sl : Option Nat} {ro : Bool} {f : Nat} {args : List AV} {h : Heap} {r : AV × Heap}
    (hr : callP E (callW E) fb sl ro f args h = some r) : ∃ k, callP E (both E k).1 fb sl ro f args h = some r := by
  unfold callP at hr
  split at hr
  · cases hr
  · rename_i fa hfa
    split at hr
    · cases hr
    · rename_i q hq
      obtain ⟨k, hk⟩ := (callW_p _ _ _).1 hq
      refine ⟨k, ?_⟩
      unfold callP
      rw [hfa]
      simp only [hk]
      exact hr

theorem callAny_back {fb : Nat} {sl : Option Nat} {ro : Bool} {f : Nat} {args : List AV} {h : Heap} {r : AV × Heap}
    (hr : callAny E (callW E) fb sl ro f args h = some r) : ∃ k, callAny E (both E k).1 fb sl ro f args h = some r := by
  unfold callAny at hr ⊢
  split at hr
  · rename_i hp; simp only [if_pos hp]; exact callP_back hr
  · rename_i hp; simp only [if_neg hp]; exact (callW_i _ _ _ _ _).1 hr

theorem evOp_back {fb : Nat} {t : Tmps} {h : Heap} {op : COp} {r : AV × Heap} (hr : evOp E (callW E) fb t h op = some r) : ∃ k, evOp E (both E k).1 fb t h op = some r := by
  cases op with
  | call sl ro f args => exact callAny_back hr
  | callv sl ro f args =>
    simp only [evOp] at hr ⊢
    split at hr
    · exact callAny_back hr
    · cases hr
  | _ => exact ⟨0, hr⟩

theorem stepCI_back {fb : Nat} {o : CI} {s s' : St} (hr : stepCI E (callW E) fb o s = some s') : ∃ k, stepCI E (both E k).1 fb o s = some s' := by
  unfold stepCI at hr ⊢
  split at hr
  · split at hr
    · rename_i hv
      obtain ⟨k, hk⟩ := evOp_back hv
      exact ⟨k, by rw [hk]; exact hr⟩
    · cases hr
  · exact ⟨0, hr⟩
  · cases hr

theorem runCIs_back {fb : Nat} : ∀ {l : List CI} {s s' : St}, runCIs E (callW E) fb l s = some s' → ∃ k, runCIs E (both E k).1 fb l s = some s'
  | [], _, _, h => ⟨0, h⟩
  | o :: r, s, s', h => by
    simp only [runCIs] at h
    split at h
    · rename_i hs
      obtain ⟨k, hk⟩ := stepCI_back hs
      obtain ⟨k2, hk2⟩ := runCIs_back h
      refine ⟨max k k2, ?_⟩
      simp only [runCIs]
      rw [stepCI_mono (both_le E (Nat.le_max_left k k2)).1 _ _ _ _ hk]
      exact runCIs_mono (both_le E (Nat.le_max_right k k2)).1 _ _ _ _ hk2
    · cases h

theorem fpOf_back {fb : Nat} {t : Tmps} {h : Heap} {op : COp} {r : List Nat × List Nat} (hr : fpOf E (callW E) fb t h op = some r) : ∃ k, fpOf E (both E k).1 fb t h op = some r := by
  cases op with
  | call sl ro f args =>
    simp only [fpOf] at hr ⊢
    split at hr
    · rename_i hp
      simp only [if_pos hp]
      split at hr
      · cases hr
      · split at hr
        · cases hr
        · rename_i q hq
          obtain ⟨k, hk⟩ := (callW_p _ _ _).1 hq
          exact ⟨k, by rw [hk]; exact hr⟩
    · cases hr
  | new sl _ => cases sl <;> exact ⟨0, hr⟩
  | box sl _ => cases sl <;> exact ⟨0, hr⟩
  | buildS sl _ _ _ _ => cases sl <;> exact ⟨0, hr⟩
  | mkS sl _ _ _ _ _ => cases sl <;> exact ⟨0, hr⟩
  | s2b sl _ => cases sl <;> exact ⟨0, hr⟩
  | mkm sl => cases sl <;> exact ⟨0, hr⟩
  | _ => exact ⟨0, hr⟩

theorem runFp_back {fb : Nat} : ∀ {l : List CI} {s : St} {x : St × List (List Nat × List Nat)}, runFp E (callW E) fb l s = some x → ∃ k, runFp E (both E k).1 fb l s = some x
  | [], _, _, h => ⟨0, h⟩
  | o :: r, s, x, h => by
    simp only [runFp] at h
    split at h
    · rename_i hf hs
      split at h
      · rename_i hr
        obtain ⟨k1, hk1⟩ : ∃ k, fpCI E (both E k).1 fb o s = some _ := by
          unfold fpCI at hf ⊢
          split at hf
          · exact fpOf_back hf
          · exact ⟨0, hf⟩
          · cases hf
        obtain ⟨k2, hk2⟩ := stepCI_back hs
        obtain ⟨k3, hk3⟩ := runFp_back hr
        refine ⟨max k1 (max k2 k3), ?_⟩
        simp only [runFp]
        rw [fpCI_mono (both_le E (Nat.le_max_left k1 (max k2 k3))).1 _ _ _ _ hk1,
          stepCI_mono (both_le E (Nat.le_trans (Nat.le_max_left k2 k3) (Nat.le_max_right k1 _))).1 _ _ _ _ hk2]
        simp only [runFp_mono (both_le E (Nat.le_trans (Nat.le_max_right k2 k3) (Nat.le_max_right k1 _))).1 _ _ _ _ hk3]
        exact h
      · cases h
    · cases h

theorem exec_back {fb : Nat} : ∀ (c : CCode) {s : St} {x : Res × St}, exec E (callW E) (loopW E) fb c s = some x → ∃ k, exec E (both E k).1 (both E k).2 fb c s = some x := by
  intro c
  induction c with
  | skip => exact fun h => ⟨0, h⟩
  | region ops =>
    intro s x hx
    simp only [exec] at hx ⊢
    split at hx
    · rename_i hr
      obtain ⟨k, hk⟩ := runCIs_back hr
      exact ⟨k, by rw [hk]; exact hx⟩
    · cases hx
  | draw ops pairs =>
    intro s x hx
    simp only [exec, runDraw] at hx ⊢
    split at hx
    · rename_i hr
      split at hr
      · rename_i hf
        obtain ⟨k, hk⟩ := runFp_back hf
        exact ⟨k, by simp only [hk]; rw [hr]; exact hx⟩
      · cases hr
    · cases hx
  | seq a b iha ihb =>
    intro s x hx
    simp only [exec] at hx
    split at hx
    · rename_i s' hr
      obtain ⟨k, hk⟩ := iha hr
      obtain ⟨k2, hk2⟩ := ihb hx
      refine ⟨max k k2, ?_⟩
      simp only [exec]
      rw [exec_mono (both_le E (Nat.le_max_left k k2)).1 (both_le E (Nat.le_max_left k k2)).2 _ _ _ _ hk]
      exact exec_mono (both_le E (Nat.le_max_right k k2)).1 (both_le E (Nat.le_max_right k k2)).2 _ _ _ _ hk2
    · rename_i r hne
      obtain ⟨k, hk⟩ := iha hx
      refine ⟨k, ?_⟩
      simp only [exec]
      rw [hk]
      split
      · rename_i s' he; exact (hne s' (hx.trans he)).elim
      · rfl
  | cond c a b iha ihb =>
    intro s x hx
    simp only [exec] at hx ⊢
    split at hx
    · rename_i bb hc
      cases bb with
      | true => obtain ⟨k, hk⟩ := iha hx; exact ⟨k, hk⟩
      | false => obtain ⟨k, hk⟩ := ihb hx; exact ⟨k, hk⟩
    · cases hx
  | block id a iha =>
    intro s x hx
    simp only [exec] at hx
    split at hx
    · rename_i hr
      obtain ⟨k, hk⟩ := iha hr
      exact ⟨k, by simp only [exec]; rw [hk]; exact hx⟩
    · rename_i r hne
      obtain ⟨k, hk⟩ := iha hx
      refine ⟨k, ?_⟩
      simp only [exec]
      rw [hk]
      split
      · rename_i id' s' he; exact (hne id' s' (hx.trans he)).elim
      · rfl
  | loop live a _ => exact fun h => (loopW_k _ _ _ _ _).1 h
  | exit id => exact fun h => ⟨0, h⟩
  | ret => exact fun h => ⟨0, h⟩

theorem runBody_back {cf : CFunc} {args : List AV} {fb : Nat} {h : Heap} {r : AV × Heap} (hx : runBody E (callW E) (loopW E) cf args fb h = some r) :
    ∃ k, runBody E (both E k).1 (both E k).2 cf args fb h = some r := by
  unfold runBody at hx ⊢
  split at hx
  · rename_i hp
    simp only [if_pos hp]
    split at hx
    · rename_i hr; obtain ⟨k, hk⟩ := exec_back _ hr; exact ⟨k, by rw [hk]; exact hx⟩
    · rename_i hr; obtain ⟨k, hk⟩ := exec_back _ hr; exact ⟨k, by rw [hk]; exact hx⟩
    · cases hx
  · cases hx

theorem opt_ext {α : Type} {a b : Option α} (h : ∀ r, a = some r ↔ b = some r) : a = b := by
  cases a with
  | none =>
    cases b with
    | none => rfl
    | some y => exact ((h y).2 rfl)
  | some x => exact ((h x).1 rfl).symm

/-- A function that is called with what is only read. -/
theorem callW_p_eq (f : Nat) (args : List AV) : (callW E).p f args = runPure E (callW E) (loopW E) f args := by
  apply opt_ext
  intro r
  rw [callW_p]
  constructor
  · rintro ⟨k, hk⟩
    cases k with
    | zero => simp [both] at hk
    | succ k => exact runPure_mono (le_callW k) (le_loopW k) _ _ _ hk
  · intro h
    suffices h2 : ∃ k, runPure E (both E k).1 (both E k).2 f args = some r by
      obtain ⟨k, hk⟩ := h2; exact ⟨k + 1, hk⟩
    unfold runPure at h ⊢
    split at h
    · rename_i hf; exact ⟨0, by simpa [hf] using h⟩
    · rename_i cf hf
      split at h
      · rename_i hr; obtain ⟨k, hk⟩ := runBody_back hr; exact ⟨k, by simp only [hf, hk]; exact h⟩
      · cases h

theorem callW_i_eq (f : Nat) (args : List AV) (fb : Nat) (h : Heap) : (callW E).i f args fb h = runIn E (callW E) (loopW E) f args fb h := by
  apply opt_ext
  intro r
  rw [callW_i]
  constructor
  · rintro ⟨k, hk⟩
    cases k with
    | zero => simp [both] at hk
    | succ k => exact runIn_mono (le_callW k) (le_loopW k) _ _ _ _ _ hk
  · intro hx
    suffices h2 : ∃ k, runIn E (both E k).1 (both E k).2 f args fb h = some r by
      obtain ⟨k, hk⟩ := h2; exact ⟨k + 1, hk⟩
    unfold runIn at hx ⊢
    split at hx
    · rename_i hf; exact ⟨0, by simpa [hf] using hx⟩
    · rename_i cf hf
      split at hx
      · rename_i hb; obtain ⟨k, hk⟩ := runBody_back hx; exact ⟨k, by simp only [hf, if_pos hb]; exact hk⟩
      · rename_i hb; obtain ⟨k, hk⟩ := runBody_back hx; exact ⟨k, by simp only [hf, if_neg hb]; exact hk⟩

theorem loopW_eq (live : List Nat) (a : CCode) (fb : Nat) (s : St) : loopW E live a fb s = runLoop E (callW E) (loopW E) live a fb s := by
  apply opt_ext
  intro r
  rw [loopW_k]
  constructor
  · rintro ⟨k, hk⟩
    cases k with
    | zero => simp [both] at hk
    | succ k => exact runLoop_mono (le_callW k) (le_loopW k) _ _ _ _ _ hk
  · intro hx
    suffices h2 : ∃ k, runLoop E (both E k).1 (both E k).2 live a fb s = some r by
      obtain ⟨k, hk⟩ := h2; exact ⟨k + 1, hk⟩
    unfold runLoop at hx
    split at hx
    · rename_i hr
      obtain ⟨k, hk⟩ := exec_back _ hr
      obtain ⟨k2, hk2⟩ := (loopW_k _ _ _ _ _).1 hx
      refine ⟨max k k2, ?_⟩
      unfold runLoop
      rw [exec_mono (both_le E (Nat.le_max_left k k2)).1 (both_le E (Nat.le_max_left k k2)).2 _ _ _ _ hk]
      exact (both_le E (Nat.le_max_right k k2)).2 _ _ _ _ _ hk2
    · rename_i x hne
      obtain ⟨k, hk⟩ := exec_back _ hx
      refine ⟨k, ?_⟩
      unfold runLoop
      rw [hk]
      split
      · rename_i s' he; exact (hne s' (hx.trans he)).elim
      · rfl

end Go.Vm
