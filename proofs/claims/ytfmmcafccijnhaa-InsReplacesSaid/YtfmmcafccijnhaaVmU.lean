/- The value machine: the code of a function against the model. -/
import Derived.Test.YtfmmcafccijnhaaVmT
namespace Go.Vm

variable {P : Program} {nm : Nat → Option Nat} {w : World} {F : Nat → Prop} {m : MapT} {h : Heap} {G : List Nat}

/-! Code. -/

def chkCode (P : Program) (nm : Nat → Option Nat) (N : Nat) : Code → CCode → Bool
  | .skip, .skip => true
  | .region _ ops d, .region cs => !d && chkCIs P nm N ops ops.toList cs
  | .region _ ops d, .draw cs pairs => d && chkDraw P nm N ops cs pairs
  | .seq a b, .seq a' b' => chkCode P nm N a a' && chkCode P nm N b b'
  | .cond c a b, .cond c' a' b' => chkO nm c c' && chkCode P nm N a a' && chkCode P nm N b b'
  | .block id a, .block id' a' => id == id' && chkCode P nm N a a'
  | .loop a, .loop _ a' => chkCode P nm N a a'
  | .exit id, .exit id' => id == id'
  | .ret, .ret => true
  | _, _ => false

def exitOf : Res → Exit
  | .norm => .normal
  | .exit id => .exit id
  | .ret => .ret

/-- What a loop's round leads to, from its head on. -/
def LoopGo (P : Program) (c : Code) (Q : Exit → Act → World → Prop) (a : Act) (w : World) : Prop :=
  ∀ (b : Frame) (k : List Item) (cs : List Frame), ∃ e a' w', Q e a' w' ∧ Arrives P (lone (b.at a (.code c :: .inLoop c :: k)) cs w) b k cs e a' w'

theorem LoopGo.unroll {c : Code} {Q : Exit → Act → World → Prop} {a : Act} {w : World} (h : c.wp P (Exit.then (fun a' w' => LoopGo P c Q a' w') Q) a w) : LoopGo P c Q a w := by
  intro b k cs
  obtain ⟨e, a₁, w₁, hq, harr⟩ := h b (.inLoop c :: k) cs
  cases e with
  | normal =>
    obtain ⟨e₂, a₂, w₂, hq₂, harr₂⟩ := hq b k cs
    exact ⟨e₂, a₂, w₂, hq₂, .of_steps (Steps.trans harr (.one step_inLoop)) harr₂⟩
  | exit id => exact ⟨_, a₁, w₁, hq, .pass (x := .inLoop c) rfl (fun _ _ => .inl (by simp)) harr⟩
  | goto l => exact ⟨_, a₁, w₁, hq, .pass (x := .inLoop c) rfl (fun _ _ => .inl (by simp)) harr⟩
  | ret => exact ⟨_, a₁, w₁, hq, .pass (x := .inLoop c) rfl (fun _ _ => .inl (by simp)) harr⟩
  | panic ch => exact ⟨_, a₁, w₁, hq, .pass (x := .inLoop c) rfl (fun _ _ => .inl (by simp)) harr⟩
  | outgrown => exact ⟨_, a₁, w₁, hq, .pass (x := .inLoop c) rfl (fun _ _ => .inl (by simp)) harr⟩

theorem LoopGo.wp {c : Code} {Q : Exit → Act → World → Prop} {a : Act} {w : World} (h : LoopGo P c Q a w) : (Code.loop c).wp P Q a w := by
  intro b k cs
  obtain ⟨e, a', w', hq, harr⟩ := h b k cs
  exact ⟨e, a', w', hq, .of_steps (.one step_loop) harr⟩

def LSound (P : Program) (nm : Nat → Option Nat) (L : LoopT) : Prop :=
  ∀ (N : Nat) (c : Code) (cc : CCode) (live : List Nat) (fb : Nat) (a : Act) (s : St) (r : Res) (s' : St) (w : World) (F : Nat → Prop) (m : MapT) (Q : Exit → Act → World → Prop), chkCode P nm N c cc = true → SR nm N w F m a s →
    L live cc fb s = some (r, s') → (∀ a' w' F' m', SR nm N w' F' m' a' s' → Tr w F m (gens s.h) w' F' m' (gens s'.h) → Q (exitOf r) a' w') → LoopGo P c Q a w

theorem SR.restrict {N : Nat} {a : Act} {s : St} (R : SR nm N w F m a s) (live : List Nat) : SR nm N w F m a ⟨restrict live s.t, s.h⟩ := by
  refine ⟨R.inv, fun i => ?_, R.size, R.defers⟩
  have key : tget (Go.Vm.restrict live s.t) i = tget s.t i ∨ tget (Go.Vm.restrict live s.t) i = .undef := by
    unfold Go.Vm.restrict
    induction live with
    | nil => exact .inr rfl
    | cons j live ih =>
      simp only [List.map_cons, tget]
      split
      · rename_i e; subst e; exact .inl rfl
      · exact ih
  rcases key with e | e
  · simp only [e]; exact R.t i
  · simp only [e]; exact .undef _

theorem exec_sound (H : NmOk P nm) {E : Env} {C : Calls2} {L : LoopT} (hP : PSound P nm C.p) (hI : ISound P nm C.i) (hL : LSound P nm L) {N fb : Nat} :
    ∀ (c : Code) (cc : CCode) (a : Act) (s : St) (r : Res) (s' : St) (w : World) (F : Nat → Prop) (m : MapT) (Q : Exit → Act → World → Prop), chkCode P nm N c cc = true → SR nm N w F m a s → exec E C L fb cc s = some (r, s') →
      (∀ a' w' F' m', SR nm N w' F' m' a' s' → Tr w F m (gens s.h) w' F' m' (gens s'.h) → Q (exitOf r) a' w') → c.wp P Q a w := by
  intro c cc
  induction cc generalizing c with
  | skip =>
    intro a s r s' w F m Q hc R hx hQ
    simp only [exec] at hx
    injection hx with hx
    injection hx with h1 h2
    subst h1; subst h2
    cases c <;> first | cases hc | skip
    exact wp_skip (hQ a w F m R (Tr.refl _ _ _ _))
  | region cs =>
    intro a s r s' w F m Q hc R hx hQ
    simp only [exec] at hx
    split at hx
    · rename_i s1 hs1
      injection hx with hx
      injection hx with h1 h2
      subst h1; subst h2
      cases c <;> first | cases hc | skip
      rename_i id ops draw
      simp only [chkCode, Bool.and_eq_true, Bool.not_eq_true'] at hc
      obtain ⟨hd, hc⟩ := hc
      subst hd
      have := runCIs_sound H hP hI ops.toList cs 0 a s s1 w F m (fun j => by simp) hc R hs1 hQ
      exact wp_region (by rw [← Array.length_toList, List.range_eq_range']; exact this)
    · cases hx
  | draw cs pairs =>
    intro a s r s' w F m Q hc R hx hQ
    simp only [exec] at hx
    split at hx
    · rename_i s1 hs1
      injection hx with hx
      injection hx with h1 h2
      subst h1; subst h2
      cases c <;> first | cases hc | skip
      rename_i id ops draw
      simp only [chkCode, Bool.and_eq_true] at hc
      obtain ⟨hd, hc⟩ := hc
      subst hd
      exact draw_sound H hP hI hc R hs1 hQ
    · cases hx
  | seq x y ihx ihy =>
    intro a s r s' w F m Q hc R hx hQ
    cases c <;> first | cases hc | skip
    rename_i cx cy
    simp only [chkCode, Bool.and_eq_true] at hc
    simp only [exec] at hx
    split at hx
    · rename_i s1 hs1
      exact wp_seq (ihx cx a s .norm s1 w F m _ hc.1 R hs1 (fun a1 w1 F1 m1 R1 T1 =>
        ihy cy a1 s1 r s' w1 F1 m1 Q hc.2 R1 hx (fun a2 w2 F2 m2 R2 T2 => hQ a2 w2 F2 m2 R2 (T1.trans T2))))
    · rename_i hne
      refine wp_seq (ihx cx a s r s' w F m _ hc.1 R hx (fun a1 w1 F1 m1 R1 T1 => ?_))
      have hq := hQ a1 w1 F1 m1 R1 T1
      cases r with
      | norm => exact (hne s' hx).elim
      | exit id => exact hq
      | ret => exact hq
  | cond d x y ihx ihy =>
    intro a s r s' w F m Q hc R hx hQ
    cases c <;> first | cases hc | skip
    rename_i c0 cx cy
    simp only [chkCode, Bool.and_eq_true] at hc
    obtain ⟨⟨h1, h2⟩, h3⟩ := hc
    simp only [exec] at hx
    have hr := chkO_rep R.t h1
    split at hx
    · rename_i b hb
      rw [hb] at hr
      refine wp_cond hr.bool_inv ?_
      cases b with
      | true => exact ihx cx a s r s' w F m Q h2 R hx hQ
      | false => exact ihy cy a s r s' w F m Q h3 R hx hQ
    · cases hx
  | block id x ihx =>
    intro a s r s' w F m Q hc R hx hQ
    cases c <;> first | cases hc | skip
    rename_i id' cx
    simp only [chkCode, Bool.and_eq_true, beq_iff_eq] at hc
    obtain ⟨h1, h2⟩ := hc
    subst h1
    simp only [exec] at hx
    split at hx
    · rename_i id2 s1 hs1
      refine wp_block (ihx cx a s (.exit id2) s1 w F m _ h2 R hs1 (fun a1 w1 F1 m1 R1 T1 => ?_))
      simp only [exitOf, Exit.inBlock]
      split at hx
      · rename_i e
        injection hx with hx
        injection hx with h3 h4
        subst h3; subst h4
        rw [if_pos e]
        exact hQ a1 w1 F1 m1 R1 T1
      · rename_i e
        injection hx with hx
        injection hx with h3 h4
        subst h3; subst h4
        rw [if_neg e]
        exact hQ a1 w1 F1 m1 R1 T1
    · rename_i hne
      refine wp_block (ihx cx a s r s' w F m _ h2 R hx (fun a1 w1 F1 m1 R1 T1 => ?_))
      have hq := hQ a1 w1 F1 m1 R1 T1
      cases r with
      | norm => exact hq
      | exit id3 => exact (hne id3 s' hx).elim
      | ret => exact hq
  | loop live x _ =>
    intro a s r s' w F m Q hc R hx hQ
    cases c <;> first | cases hc | skip
    rename_i cx
    simp only [exec] at hx
    exact (hL N cx x live fb a s r s' w F m Q hc R hx hQ).wp
  | exit id =>
    intro a s r s' w F m Q hc R hx hQ
    cases c <;> first | cases hc | skip
    rename_i id'
    simp only [chkCode, beq_iff_eq] at hc
    subst hc
    simp only [exec] at hx
    injection hx with hx
    injection hx with h1 h2
    subst h1; subst h2
    exact wp_exit (hQ a w F m R (Tr.refl _ _ _ _))
  | ret =>
    intro a s r s' w F m Q hc R hx hQ
    cases c <;> first | cases hc | skip
    simp only [exec] at hx
    injection hx with hx
    injection hx with h1 h2
    subst h1; subst h2
    exact wp_ret (hQ a w F m R (Tr.refl _ _ _ _))

theorem runLoop_sound (H : NmOk P nm) {E : Env} {C : Calls2} {L : LoopT} (hP : PSound P nm C.p) (hI : ISound P nm C.i) (hL : LSound P nm L) : LSound P nm (runLoop E C L) := by
  intro N c cc live fb a s r s' w F m Q hc R hx hQ
  unfold runLoop at hx
  apply LoopGo.unroll
  split at hx
  · rename_i s1 hs1
    exact exec_sound H hP hI hL c cc a _ .norm s1 w F m _ hc (R.restrict live) hs1 (fun a1 w1 F1 m1 R1 T1 =>
      hL N c cc live fb a1 s1 r s' w1 F1 m1 Q hc R1 hx (fun a2 w2 F2 m2 R2 T2 => hQ a2 w2 F2 m2 R2 (T1.trans T2)))
  · rename_i hne
    refine exec_sound H hP hI hL c cc a _ r s' w F m _ hc (R.restrict live) hx (fun a1 w1 F1 m1 R1 T1 => ?_)
    have hq := hQ a1 w1 F1 m1 R1 T1
    cases r with
    | norm => exact (hne s' hx).elim
    | exit id => exact hq
    | ret => exact hq

end Go.Vm
