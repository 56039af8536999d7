/- The value machine: environments in which some functions are called in their caller's heap, and some of the library are told by what they answer. -/
import Derived.Test.YtfmmcafccijnhaaVmZ
import Derived.Lib.Bytealg
namespace Go.Vm

variable {P : Program} {nm : Nat → Option Nat}

def envX (fnE : Nat → Option CFunc) (imp : List Nat) (xp : Nat → List AV → Option (Ex AV)) : Env := ⟨fnE, fun k => !imp.contains k, xp, fun _ _ _ _ => none⟩

theorem envX_ok {tbl : List (Option Nat)} {fnE : Nat → Option CFunc} {imp : List Nat} {xp : Nat → List AV → Option (Ex AV)} (hm : P.follows .mixedOrders = true) (h : AllF P (nmOf tbl) fnE 0 tbl) (hx : PSound P (nmOf tbl) xp) :
    EnvOk P (nmOf tbl) (envX fnE imp xp) := by
  have key : ∀ f k, nmOf tbl f = some k → FnOk P (nmOf tbl) fnE f k := by
    intro f k hk
    have := h.get tbl 0 f k hk
    rwa [Nat.zero_add] at this
  refine ⟨⟨hm, fun f k hk => ?_⟩, fun f k cf hk hf => ?_, fun f k args r hk hr => ?_, fun f k args fb h x _ hx => ?_⟩
  · obtain ⟨fn, h1, ⟨c, h2⟩, h3, _⟩ := key f k hk
    exact ⟨fn, c, h1, h2, h3⟩
  · obtain ⟨fn, h1, _, _, h4⟩ := key f k hk
    exact ⟨fn, h1, h4 cf hf⟩
  · refine hx f k args r hk ?_
    by_cases hs : (fnE k).isSome = true <;> simp [envX, hs] at hr
    exact hr
  · by_cases hs : (fnE k).isSome = true <;> simp [envX, hs] at hx

theorem PSound.nothing : PSound P nm fun _ _ => Option.none := fun _ _ _ _ _ h => by cases h

/-- A function of the program whose answer is told otherwise. -/
theorem FnOk.ext {fnE : Nat → Option CFunc} {f key : Nat} {fn : Func} (h1 : P.funcs[f]? = some fn) (h2 : fn.body.isSome = true) (h3 : (fn.name == "runtime.NumGoroutine") = false)
    (h4 : fnE key = none) : FnOk P nm fnE f key :=
  ⟨fn, h1, Option.isSome_iff_exists.1 h2, by simpa using h3, fun cf' h => by rw [h4] at h; cases h⟩

/-- strings.Contains, at a text of one byte. -/
def xpC : Nat → List AV → Option (Ex AV)
  | 53, [.str s, .str [c]] => some ⟨.bool (s.contains c), [], true, [], []⟩
  | _, _ => none

theorem indexByte_contains (l : List UInt8) (c : UInt8) : decide (0 ≤ Lib.indexByte l c) = l.contains c := by
  induction l with
  | nil => rfl
  | cons b l ih =>
    unfold Lib.indexByte
    rw [List.contains_cons]
    by_cases hb : (b == c) = true
    · have hb2 : (c == b) = true := by rw [beq_iff_eq] at hb ⊢; exact hb.symm
      simp [hb, hb2]
    · have hb2 : (c == b) = false := by
        rw [Bool.eq_false_iff]; intro h; rw [beq_iff_eq] at h hb; exact hb h.symm
      have hb3 : (b == c) = false := by simpa using hb
      rw [hb2, Bool.false_or, ← ih, hb3]
      simp only [Bool.false_eq_true, if_false]
      have := Lib.indexByte_ge l c
      by_cases h1 : (Lib.indexByte l c == -1) = true
      · rw [if_pos h1]
        rw [beq_iff_eq] at h1
        rw [h1]
      · rw [if_neg h1]
        rw [beq_iff_eq] at h1
        have h3 : 0 ≤ Lib.indexByte l c := by omega
        have h4 : 0 ≤ Lib.indexByte l c + 1 := by omega
        simp [h3, h4]

theorem uniq_of {tbl : List (Option Nat)} {k f : Nat} (h : ((List.range tbl.length).all fun g => nmOf tbl g != some k || g == f) = true) (g : Nat) (hg : nmOf tbl g = some k) : g = f := by
  rw [List.all_eq_true] at h
  have hlt : g < tbl.length := by
    apply Decidable.byContradiction
    intro hn
    have : tbl[g]? = none := List.getElem?_eq_none (by omega)
    simp [nmOf, this] at hg
  have := h g (List.mem_range.2 hlt)
  simp [hg] at this
  exact this

theorem PSound.contains {f : Nat} (hf : ∀ g, nm g = some 53 → g = f)
    (hc : ∀ (s : ByteArray) (c : UInt8) (w : World), Calls P f #[.string s, .string ⟨#[c]⟩] w fun e w' => e = .returned (.bool (decide (0 ≤ Lib.indexByte s.data.toList c))) ∧ w' = w) : PSound P nm xpC := by
  intro g key args r hg hr w Fk vs hb hn hv
  unfold xpC at hr
  split at hr
  · rename_i s c
    injection hr with hr
    subst hr
    obtain rfl := hf g hg
    have hn2 : vs.size = 2 := hn
    obtain ⟨v0, v1, rfl⟩ : ∃ v0 v1, vs = #[v0, v1] := by
      match vs, hn2 with
      | ⟨[a, b]⟩, _ => exact ⟨a, b, rfl⟩
    have h0 := hv 0 v0 (.str s) rfl rfl
    have h1 := hv 1 v1 (.str [c]) rfl rfl
    generalize hs : AV.str s = x at h0
    cases h0 <;> cases hs
    rename_i b0
    generalize hs : AV.str [c] = x at h1
    cases h1 <;> try cases hs
    rename_i b1
    injection hs with hs
    have e1 : b1 = ⟨#[c]⟩ := by
      obtain ⟨⟨l⟩⟩ := b1
      have : l = [c] := hs.symm
      subst this
      rfl
    subst e1
    refine (hc b0 c w).mono fun e w' he => ?_
    obtain ⟨rfl, rfl⟩ := he
    refine ⟨_, rfl, ⟨rfl, rfl, rfl, Nat.le_refl _, fun _ _ => rfl⟩, fun b => (False : Prop), fun _ => none, ?_, fun o ho => (by cases ho), ?_, fun b hb => hb.elim, fun b hb => ?_⟩
    · exact Inv.none 0 (fun b (hb : False) => hb.elim)
    · rw [indexByte_contains]
      exact .pure (.bool _)
    · obtain ⟨id, g, loc, h1, _⟩ := hb
      cases h1
  · cases hr

end Go.Vm
