/- The value machine: an environment made of a table of functions. -/
import Derived.Test.YtfmmcafccijnhaaVmW
namespace Go.Vm

/-- A function of the program is the one that the machine knows by this key. -/
def FnOk (P : Program) (nm : Nat → Option Nat) (fnE : Nat → Option CFunc) (f key : Nat) : Prop :=
  ∃ fn, P.funcs[f]? = some fn ∧ (∃ c, fn.body = some c) ∧ fn.name ≠ "runtime.NumGoroutine" ∧ ∀ cf, fnE key = some cf → chkFunc P nm fn cf = true

theorem FnOk.of {P : Program} {nm : Nat → Option Nat} {fnE : Nat → Option CFunc} {f key : Nat} {fn : Func} {cf : CFunc} (h1 : P.funcs[f]? = some fn) (h2 : fn.body.isSome = true) (h3 : (fn.name == "runtime.NumGoroutine") = false)
    (h4 : fnE key = some cf) (h5 : chkFunc P nm fn cf = true) : FnOk P nm fnE f key :=
  ⟨fn, h1, Option.isSome_iff_exists.1 h2, by simpa using h3, fun cf' h => by rw [h4] at h; injection h with h; subst h; exact h5⟩

def AllF (P : Program) (nm : Nat → Option Nat) (fnE : Nat → Option CFunc) : Nat → List (Option Nat) → Prop
  | _, [] => True
  | f, none :: r => AllF P nm fnE (f + 1) r
  | f, some key :: r => FnOk P nm fnE f key ∧ AllF P nm fnE (f + 1) r

def nmOf (tbl : List (Option Nat)) (f : Nat) : Option Nat := (tbl[f]?).join

theorem AllF.get {P : Program} {nm : Nat → Option Nat} {fnE : Nat → Option CFunc} : ∀ (l : List (Option Nat)) (f0 : Nat), AllF P nm fnE f0 l → ∀ (i key : Nat), (l[i]?).join = some key → FnOk P nm fnE (f0 + i) key
  | [], f0, _, i, key, h => by simp at h
  | none :: r, f0, ha, i, key, h => by
    cases i with
    | zero => simp at h
    | succ i =>
      have := AllF.get r (f0 + 1) ha i key (by simpa using h)
      rwa [show f0 + 1 + i = f0 + (i + 1) by omega] at this
  | some k :: r, f0, ha, i, key, h => by
    cases i with
    | zero => simp at h; subst h; exact ha.1
    | succ i =>
      have := AllF.get r (f0 + 1) ha.2 i key (by simpa using h)
      rwa [show f0 + 1 + i = f0 + (i + 1) by omega] at this

/-- An environment of functions alone. -/
def envOf (fnE : Nat → Option CFunc) : Env := ⟨fnE, fun _ => true, fun _ _ => none, fun _ _ _ _ => none⟩

theorem envOf_ok {P : Program} {tbl : List (Option Nat)} {fnE : Nat → Option CFunc} (hm : P.follows .mixedOrders = true) (h : AllF P (nmOf tbl) fnE 0 tbl) : EnvOk P (nmOf tbl) (envOf fnE) := by
  have key : ∀ f k, nmOf tbl f = some k → FnOk P (nmOf tbl) fnE f k := by
    intro f k hk
    have := h.get tbl 0 f k hk
    rwa [Nat.zero_add] at this
  refine ⟨⟨hm, fun f k hk => ?_⟩, fun f k cf hk hf => ?_, fun f k args r _ hr => ?_, fun f k args fb h x _ hx => ?_⟩
  · obtain ⟨fn, h1, ⟨c, h2⟩, h3, _⟩ := key f k hk
    exact ⟨fn, c, h1, h2, h3⟩
  · obtain ⟨fn, h1, _, _, h4⟩ := key f k hk
    exact ⟨fn, h1, h4 cf hf⟩
  · by_cases hs : (fnE k).isSome = true <;> simp [envOf, hs] at hr
  · by_cases hs : (fnE k).isSome = true <;> simp [envOf, hs] at hx

end Go.Vm
