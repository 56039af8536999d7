/-
  No cell of these rows narrows 'for every input' (looked for: loops, veiled, ifaces, maps, wideKeys, modest, calm, conditions, laid).
  DERIVED. THE GIVEN ROWS OF THIS SEAT. 12 by the template 'for every input the law returns true; each argument reads behind the call as it read before'; 0 by the template 'total and deterministic' (their statements: YtgbajicpokolcaaTotals.lean).
  GIVEN WITH THE SEED: the statements are not yours to turn. If you find one false, say at which input.
  Laid BY PROGRAM, IN A SANDBOX (cutbox-rows.mjs): the forced cells as the released guide's own fill.sh prints them over the translation 63421dc6d18b0614… (all of the seat's roots in one cut). By AI agents, Wed Nov 11 2026. No macro, syntax, notation, axiom, sorry.
-/
import Derived.Test.YtgbajicpokolcaaChecked
import GoSem.Claim
import GoSem.ClaimJoined
import GoSem.ClaimMapViews
import Derived.JoinedTies
import Derived.KernelRfl
namespace Go.Proofs.Ytgbajicpokolcaa
/- THE CELL 'sum', in the pinned program and in every row, IS THE sha256 OF THE DUMP (.gsa) THAT YtgbajicpokolcaaProg.lean LOADS. Nothing in Lean hashes anything: it is a label: what it is worth is what the hold of that sum in a sandbox is worth. -/
noncomputable def Try.pinned : Pinned := { name := "ytgbajicpokolcaa", sum := "63421dc6d18b06147ab6a79b79de819dcbaeeed038ce4e421e8494b4215b4765", checked := Try.checked }
namespace Rows
def none {H : Type} : Left H := { results := [], args := [] }

/-- 'regletlaw10.InsCopies': WHATEVER THE INPUT: true; the input reads as it did. -/
def insCopiesSpec : ChangeSpec := { name := "insCopies", fn := fun _ => fun
  | [d] => { results := [.lit (.bool true)], args := [d] }
  | _ => none }
def insCopiesRow : OpenClaim := { program := "ytgbajicpokolcaa", sum := "63421dc6d18b06147ab6a79b79de819dcbaeeed038ce4e421e8494b4215b4765", func := "reglet/regletlaw10.InsCopies", spec := "insCopies", plainKeys := false, apart := false }
def InsCopiesSaid : Prop := insCopiesRow.holds Try.pinned (OpenSpec.ofChange insCopiesSpec)

/-- ITS FALSE NEIGHBOUR: 'it returns false'. Refute it at one input. -/
def insCopiesWrong : ChangeSpec := { name := "insCopies", fn := fun _ => fun
  | [d] => { results := [.lit (.bool false)], args := [d] }
  | _ => none }
def InsCopiesWrongFalsely : Prop := insCopiesRow.holds Try.pinned (OpenSpec.ofChange insCopiesWrong)

/-- 'regletlaw16.DeadChains': WHATEVER THE INPUT: true; the input reads as it did. -/
def deadChainsSpec : ChangeSpec := { name := "deadChains", fn := fun _ => fun
  | [d1, d2] => { results := [.lit (.bool true)], args := [d1, d2] }
  | _ => none }
def deadChainsRow : OpenClaim := { program := "ytgbajicpokolcaa", sum := "63421dc6d18b06147ab6a79b79de819dcbaeeed038ce4e421e8494b4215b4765", func := "reglet/regletlaw16.DeadChains", spec := "deadChains", plainKeys := false, apart := false }
def DeadChainsSaid : Prop := deadChainsRow.holds Try.pinned (OpenSpec.ofChange deadChainsSpec)

/-- ITS FALSE NEIGHBOUR: 'it returns false'. Refute it at one input. -/
def deadChainsWrong : ChangeSpec := { name := "deadChains", fn := fun _ => fun
  | [d1, d2] => { results := [.lit (.bool false)], args := [d1, d2] }
  | _ => none }
def DeadChainsWrongFalsely : Prop := deadChainsRow.holds Try.pinned (OpenSpec.ofChange deadChainsWrong)

/-- 'regletlaw17.KnownOnce': WHATEVER THE INPUT: true; the input reads as it did. -/
def knownOnceSpec : ChangeSpec := { name := "knownOnce", fn := fun _ => fun
  | [d1, d2, d3] => { results := [.lit (.bool true)], args := [d1, d2, d3] }
  | _ => none }
def knownOnceRow : OpenClaim := { program := "ytgbajicpokolcaa", sum := "63421dc6d18b06147ab6a79b79de819dcbaeeed038ce4e421e8494b4215b4765", func := "reglet/regletlaw17.KnownOnce", spec := "knownOnce", inPlace := ["maps.clone"], unfollowed := true, recurses := true, plainKeys := false, apart := false }
def KnownOnceSaid : Prop := knownOnceRow.holds Try.pinned (OpenSpec.ofChange knownOnceSpec)

/-- ITS FALSE NEIGHBOUR: 'it returns false'. Refute it at one input. -/
def knownOnceWrong : ChangeSpec := { name := "knownOnce", fn := fun _ => fun
  | [d1, d2, d3] => { results := [.lit (.bool false)], args := [d1, d2, d3] }
  | _ => none }
def KnownOnceWrongFalsely : Prop := knownOnceRow.holds Try.pinned (OpenSpec.ofChange knownOnceWrong)

/-- 'regletlaw15.FoldChains': WHATEVER THE INPUT: true; the input reads as it did. -/
def foldChainsSpec : ChangeSpec := { name := "foldChains", fn := fun _ => fun
  | [d1, d2] => { results := [.lit (.bool true)], args := [d1, d2] }
  | _ => none }
def foldChainsRow : OpenClaim := { program := "ytgbajicpokolcaa", sum := "63421dc6d18b06147ab6a79b79de819dcbaeeed038ce4e421e8494b4215b4765", func := "reglet/regletlaw15.FoldChains", spec := "foldChains", plainKeys := false, apart := false }
def FoldChainsSaid : Prop := foldChainsRow.holds Try.pinned (OpenSpec.ofChange foldChainsSpec)

/-- ITS FALSE NEIGHBOUR: 'it returns false'. Refute it at one input. -/
def foldChainsWrong : ChangeSpec := { name := "foldChains", fn := fun _ => fun
  | [d1, d2] => { results := [.lit (.bool false)], args := [d1, d2] }
  | _ => none }
def FoldChainsWrongFalsely : Prop := foldChainsRow.holds Try.pinned (OpenSpec.ofChange foldChainsWrong)

/-- 'regletlaw16.DeadBare': WHATEVER THE INPUT: true; the input reads as it did. -/
def deadBareSpec : ChangeSpec := { name := "deadBare", fn := fun _ => fun
  | [d] => { results := [.lit (.bool true)], args := [d] }
  | _ => none }
def deadBareRow : OpenClaim := { program := "ytgbajicpokolcaa", sum := "63421dc6d18b06147ab6a79b79de819dcbaeeed038ce4e421e8494b4215b4765", func := "reglet/regletlaw16.DeadBare", spec := "deadBare", inPlace := ["internal/bytealg.IndexByteString", "internal/bytealg.IndexString"], named := ["internal/bytealg.MaxLen"], plainKeys := false, apart := false }
def DeadBareSaid : Prop := deadBareRow.holds Try.pinned (OpenSpec.ofChange deadBareSpec)

/-- ITS FALSE NEIGHBOUR: 'it returns false'. Refute it at one input. -/
def deadBareWrong : ChangeSpec := { name := "deadBare", fn := fun _ => fun
  | [d] => { results := [.lit (.bool false)], args := [d] }
  | _ => none }
def DeadBareWrongFalsely : Prop := deadBareRow.holds Try.pinned (OpenSpec.ofChange deadBareWrong)

/-- 'regletlaw17.KnownFewer': WHATEVER THE INPUT: true; the input reads as it did. -/
def knownFewerSpec : ChangeSpec := { name := "knownFewer", fn := fun _ => fun
  | [d] => { results := [.lit (.bool true)], args := [d] }
  | _ => none }
def knownFewerRow : OpenClaim := { program := "ytgbajicpokolcaa", sum := "63421dc6d18b06147ab6a79b79de819dcbaeeed038ce4e421e8494b4215b4765", func := "reglet/regletlaw17.KnownFewer", spec := "knownFewer", inPlace := ["maps.clone", "internal/bytealg.IndexByteString", "internal/bytealg.IndexString"], unfollowed := true, recurses := true, named := ["internal/bytealg.MaxLen"], plainKeys := false, apart := false }
def KnownFewerSaid : Prop := knownFewerRow.holds Try.pinned (OpenSpec.ofChange knownFewerSpec)

/-- ITS FALSE NEIGHBOUR: 'it returns false'. Refute it at one input. -/
def knownFewerWrong : ChangeSpec := { name := "knownFewer", fn := fun _ => fun
  | [d] => { results := [.lit (.bool false)], args := [d] }
  | _ => none }
def KnownFewerWrongFalsely : Prop := knownFewerRow.holds Try.pinned (OpenSpec.ofChange knownFewerWrong)

/-- 'regletlaw16.DeadForms': WHATEVER THE INPUT: true; the input reads as it did. -/
def deadFormsSpec : ChangeSpec := { name := "deadForms", fn := fun _ => fun
  | [d] => { results := [.lit (.bool true)], args := [d] }
  | _ => none }
def deadFormsRow : OpenClaim := { program := "ytgbajicpokolcaa", sum := "63421dc6d18b06147ab6a79b79de819dcbaeeed038ce4e421e8494b4215b4765", func := "reglet/regletlaw16.DeadForms", spec := "deadForms", inPlace := ["internal/bytealg.IndexByteString", "internal/bytealg.IndexString"], named := ["internal/bytealg.MaxLen"], plainKeys := false, apart := false }
def DeadFormsSaid : Prop := deadFormsRow.holds Try.pinned (OpenSpec.ofChange deadFormsSpec)

/-- ITS FALSE NEIGHBOUR: 'it returns false'. Refute it at one input. -/
def deadFormsWrong : ChangeSpec := { name := "deadForms", fn := fun _ => fun
  | [d] => { results := [.lit (.bool false)], args := [d] }
  | _ => none }
def DeadFormsWrongFalsely : Prop := deadFormsRow.holds Try.pinned (OpenSpec.ofChange deadFormsWrong)

/-- 'regletlaw15.FoldWays': WHATEVER THE INPUT: true; the input reads as it did. -/
def foldWaysSpec : ChangeSpec := { name := "foldWays", fn := fun _ => fun
  | [d1, d2, d3] => { results := [.lit (.bool true)], args := [d1, d2, d3] }
  | _ => none }
def foldWaysRow : OpenClaim := { program := "ytgbajicpokolcaa", sum := "63421dc6d18b06147ab6a79b79de819dcbaeeed038ce4e421e8494b4215b4765", func := "reglet/regletlaw15.FoldWays", spec := "foldWays", plainKeys := false, apart := false }
def FoldWaysSaid : Prop := foldWaysRow.holds Try.pinned (OpenSpec.ofChange foldWaysSpec)

/-- ITS FALSE NEIGHBOUR: 'it returns false'. Refute it at one input. -/
def foldWaysWrong : ChangeSpec := { name := "foldWays", fn := fun _ => fun
  | [d1, d2, d3] => { results := [.lit (.bool false)], args := [d1, d2, d3] }
  | _ => none }
def FoldWaysWrongFalsely : Prop := foldWaysRow.holds Try.pinned (OpenSpec.ofChange foldWaysWrong)

/-- 'regletlaw17.KnownForms': WHATEVER THE INPUT: true; the input reads as it did. -/
def knownFormsSpec : ChangeSpec := { name := "knownForms", fn := fun _ => fun
  | [d] => { results := [.lit (.bool true)], args := [d] }
  | _ => none }
def knownFormsRow : OpenClaim := { program := "ytgbajicpokolcaa", sum := "63421dc6d18b06147ab6a79b79de819dcbaeeed038ce4e421e8494b4215b4765", func := "reglet/regletlaw17.KnownForms", spec := "knownForms", inPlace := ["maps.clone", "internal/bytealg.IndexByteString", "internal/bytealg.IndexString"], unfollowed := true, recurses := true, named := ["internal/bytealg.MaxLen"], plainKeys := false, apart := false }
def KnownFormsSaid : Prop := knownFormsRow.holds Try.pinned (OpenSpec.ofChange knownFormsSpec)

/-- ITS FALSE NEIGHBOUR: 'it returns false'. Refute it at one input. -/
def knownFormsWrong : ChangeSpec := { name := "knownForms", fn := fun _ => fun
  | [d] => { results := [.lit (.bool false)], args := [d] }
  | _ => none }
def KnownFormsWrongFalsely : Prop := knownFormsRow.holds Try.pinned (OpenSpec.ofChange knownFormsWrong)

/-- 'regletlaw14.CarryChains': WHATEVER THE INPUT: true; the input reads as it did. -/
def carryChainsSpec : ChangeSpec := { name := "carryChains", fn := fun _ => fun
  | [d1, d2] => { results := [.lit (.bool true)], args := [d1, d2] }
  | _ => none }
def carryChainsRow : OpenClaim := { program := "ytgbajicpokolcaa", sum := "63421dc6d18b06147ab6a79b79de819dcbaeeed038ce4e421e8494b4215b4765", func := "reglet/regletlaw14.CarryChains", spec := "carryChains", inPlace := ["internal/bytealg.IndexByteString", "internal/bytealg.IndexString"], unfollowed := true, recurses := true, named := ["internal/bytealg.MaxLen"], plainKeys := false, apart := false }
def CarryChainsSaid : Prop := carryChainsRow.holds Try.pinned (OpenSpec.ofChange carryChainsSpec)

/-- ITS FALSE NEIGHBOUR: 'it returns false'. Refute it at one input. -/
def carryChainsWrong : ChangeSpec := { name := "carryChains", fn := fun _ => fun
  | [d1, d2] => { results := [.lit (.bool false)], args := [d1, d2] }
  | _ => none }
def CarryChainsWrongFalsely : Prop := carryChainsRow.holds Try.pinned (OpenSpec.ofChange carryChainsWrong)

/-- 'regletlaw15.FoldForms': WHATEVER THE INPUT: true; the input reads as it did. -/
def foldFormsSpec : ChangeSpec := { name := "foldForms", fn := fun _ => fun
  | [d] => { results := [.lit (.bool true)], args := [d] }
  | _ => none }
def foldFormsRow : OpenClaim := { program := "ytgbajicpokolcaa", sum := "63421dc6d18b06147ab6a79b79de819dcbaeeed038ce4e421e8494b4215b4765", func := "reglet/regletlaw15.FoldForms", spec := "foldForms", inPlace := ["internal/bytealg.IndexByteString", "internal/bytealg.IndexString"], named := ["internal/bytealg.MaxLen"], plainKeys := false, apart := false }
def FoldFormsSaid : Prop := foldFormsRow.holds Try.pinned (OpenSpec.ofChange foldFormsSpec)

/-- ITS FALSE NEIGHBOUR: 'it returns false'. Refute it at one input. -/
def foldFormsWrong : ChangeSpec := { name := "foldForms", fn := fun _ => fun
  | [d] => { results := [.lit (.bool false)], args := [d] }
  | _ => none }
def FoldFormsWrongFalsely : Prop := foldFormsRow.holds Try.pinned (OpenSpec.ofChange foldFormsWrong)

/-- 'regletlaw14.CarryForms': WHATEVER THE INPUT: true; the input reads as it did. -/
def carryFormsSpec : ChangeSpec := { name := "carryForms", fn := fun _ => fun
  | [d] => { results := [.lit (.bool true)], args := [d] }
  | _ => none }
def carryFormsRow : OpenClaim := { program := "ytgbajicpokolcaa", sum := "63421dc6d18b06147ab6a79b79de819dcbaeeed038ce4e421e8494b4215b4765", func := "reglet/regletlaw14.CarryForms", spec := "carryForms", inPlace := ["internal/bytealg.IndexByteString", "internal/bytealg.IndexString"], unfollowed := true, recurses := true, named := ["internal/bytealg.MaxLen"], plainKeys := false, apart := false }
def CarryFormsSaid : Prop := carryFormsRow.holds Try.pinned (OpenSpec.ofChange carryFormsSpec)

/-- ITS FALSE NEIGHBOUR: 'it returns false'. Refute it at one input. -/
def carryFormsWrong : ChangeSpec := { name := "carryForms", fn := fun _ => fun
  | [d] => { results := [.lit (.bool false)], args := [d] }
  | _ => none }
def CarryFormsWrongFalsely : Prop := carryFormsRow.holds Try.pinned (OpenSpec.ofChange carryFormsWrong)

/- THE SECOND FORM. 'bulk': how many values and letters a reading holds, each counted each time it is reached (what is shared counts as often as it is met; a slice's spare places count too). A statement '..UptoSaid' is the law's where the arguments, and the package variables that the reading takes, are together of bulk at most 1048576: NARROWER than '..Said'. Prove '..Said' where nothing that the law and all that it calls make is longer than what came in: it says more and counts as full. Else prove '..UptoSaid'. A law counts once. -/
mutual
def uptoBulk {H : Type} : DataW H → Nat
  | .lit (.string bytes) => bytes.length + 1
  | .lit _ => 1
  | .nil => 1
  | .ptr d => uptoBulk d + 1
  | .slice elems spare => uptoBulkAll elems + uptoBulkAll spare + 1
  | .agg parts => uptoBulkAll parts + 1
  | .iface _ d => uptoBulk d + 1
  | .map entries => uptoBulkEntries entries + 1
  | .held _ => 1
def uptoBulkAll {H : Type} : List (DataW H) → Nat
  | [] => 0
  | d :: r => uptoBulk d + uptoBulkAll r
def uptoBulkEntries {H : Type} : List (Lit × DataW H) → Nat
  | [] => 0
  | x :: r => uptoBulkEntry x + uptoBulkEntries r
def uptoBulkEntry {H : Type} : Lit × DataW H → Nat
  | (.string bytes, d) => bytes.length + uptoBulk d + 1
  | (_, d) => uptoBulk d + 1
 end
def uptoSmall : (H : Type) → List (DataW H) → Bool := fun _ ds => decide (uptoBulkAll ds ≤ 1048576)
def OpenSpec.upto (s : _root_.Go.ChangeSpec) : _root_.Go.OpenSpec := { _root_.Go.OpenSpec.ofChange s with cond := some uptoSmall }

/-- 'regletlaw10.InsCopies', WHERE WHAT IT READS IS OF BULK AT MOST 1048576: true; the input reads as it did. -/
def insCopiesUptoRow : OpenClaim := { program := "ytgbajicpokolcaa", sum := "63421dc6d18b06147ab6a79b79de819dcbaeeed038ce4e421e8494b4215b4765", func := "reglet/regletlaw10.InsCopies", spec := "insCopies", plainKeys := false, apart := false, narrowed := true }
def InsCopiesUptoSaid : Prop := insCopiesUptoRow.holds Try.pinned (OpenSpec.upto insCopiesSpec)

/-- 'regletlaw16.DeadChains', WHERE WHAT IT READS IS OF BULK AT MOST 1048576: true; the input reads as it did. -/
def deadChainsUptoRow : OpenClaim := { program := "ytgbajicpokolcaa", sum := "63421dc6d18b06147ab6a79b79de819dcbaeeed038ce4e421e8494b4215b4765", func := "reglet/regletlaw16.DeadChains", spec := "deadChains", plainKeys := false, apart := false, narrowed := true }
def DeadChainsUptoSaid : Prop := deadChainsUptoRow.holds Try.pinned (OpenSpec.upto deadChainsSpec)

/-- 'regletlaw17.KnownOnce', WHERE WHAT IT READS IS OF BULK AT MOST 1048576: true; the input reads as it did. -/
def knownOnceUptoRow : OpenClaim := { program := "ytgbajicpokolcaa", sum := "63421dc6d18b06147ab6a79b79de819dcbaeeed038ce4e421e8494b4215b4765", func := "reglet/regletlaw17.KnownOnce", spec := "knownOnce", inPlace := ["maps.clone"], unfollowed := true, recurses := true, plainKeys := false, apart := false, narrowed := true }
def KnownOnceUptoSaid : Prop := knownOnceUptoRow.holds Try.pinned (OpenSpec.upto knownOnceSpec)

/-- 'regletlaw15.FoldChains', WHERE WHAT IT READS IS OF BULK AT MOST 1048576: true; the input reads as it did. -/
def foldChainsUptoRow : OpenClaim := { program := "ytgbajicpokolcaa", sum := "63421dc6d18b06147ab6a79b79de819dcbaeeed038ce4e421e8494b4215b4765", func := "reglet/regletlaw15.FoldChains", spec := "foldChains", plainKeys := false, apart := false, narrowed := true }
def FoldChainsUptoSaid : Prop := foldChainsUptoRow.holds Try.pinned (OpenSpec.upto foldChainsSpec)

/-- 'regletlaw16.DeadBare', WHERE WHAT IT READS IS OF BULK AT MOST 1048576: true; the input reads as it did. -/
def deadBareUptoRow : OpenClaim := { program := "ytgbajicpokolcaa", sum := "63421dc6d18b06147ab6a79b79de819dcbaeeed038ce4e421e8494b4215b4765", func := "reglet/regletlaw16.DeadBare", spec := "deadBare", inPlace := ["internal/bytealg.IndexByteString", "internal/bytealg.IndexString"], named := ["internal/bytealg.MaxLen"], plainKeys := false, apart := false, narrowed := true }
def DeadBareUptoSaid : Prop := deadBareUptoRow.holds Try.pinned (OpenSpec.upto deadBareSpec)

/-- 'regletlaw17.KnownFewer', WHERE WHAT IT READS IS OF BULK AT MOST 1048576: true; the input reads as it did. -/
def knownFewerUptoRow : OpenClaim := { program := "ytgbajicpokolcaa", sum := "63421dc6d18b06147ab6a79b79de819dcbaeeed038ce4e421e8494b4215b4765", func := "reglet/regletlaw17.KnownFewer", spec := "knownFewer", inPlace := ["maps.clone", "internal/bytealg.IndexByteString", "internal/bytealg.IndexString"], unfollowed := true, recurses := true, named := ["internal/bytealg.MaxLen"], plainKeys := false, apart := false, narrowed := true }
def KnownFewerUptoSaid : Prop := knownFewerUptoRow.holds Try.pinned (OpenSpec.upto knownFewerSpec)

/-- 'regletlaw16.DeadForms', WHERE WHAT IT READS IS OF BULK AT MOST 1048576: true; the input reads as it did. -/
def deadFormsUptoRow : OpenClaim := { program := "ytgbajicpokolcaa", sum := "63421dc6d18b06147ab6a79b79de819dcbaeeed038ce4e421e8494b4215b4765", func := "reglet/regletlaw16.DeadForms", spec := "deadForms", inPlace := ["internal/bytealg.IndexByteString", "internal/bytealg.IndexString"], named := ["internal/bytealg.MaxLen"], plainKeys := false, apart := false, narrowed := true }
def DeadFormsUptoSaid : Prop := deadFormsUptoRow.holds Try.pinned (OpenSpec.upto deadFormsSpec)

/-- 'regletlaw15.FoldWays', WHERE WHAT IT READS IS OF BULK AT MOST 1048576: true; the input reads as it did. -/
def foldWaysUptoRow : OpenClaim := { program := "ytgbajicpokolcaa", sum := "63421dc6d18b06147ab6a79b79de819dcbaeeed038ce4e421e8494b4215b4765", func := "reglet/regletlaw15.FoldWays", spec := "foldWays", plainKeys := false, apart := false, narrowed := true }
def FoldWaysUptoSaid : Prop := foldWaysUptoRow.holds Try.pinned (OpenSpec.upto foldWaysSpec)

/-- 'regletlaw17.KnownForms', WHERE WHAT IT READS IS OF BULK AT MOST 1048576: true; the input reads as it did. -/
def knownFormsUptoRow : OpenClaim := { program := "ytgbajicpokolcaa", sum := "63421dc6d18b06147ab6a79b79de819dcbaeeed038ce4e421e8494b4215b4765", func := "reglet/regletlaw17.KnownForms", spec := "knownForms", inPlace := ["maps.clone", "internal/bytealg.IndexByteString", "internal/bytealg.IndexString"], unfollowed := true, recurses := true, named := ["internal/bytealg.MaxLen"], plainKeys := false, apart := false, narrowed := true }
def KnownFormsUptoSaid : Prop := knownFormsUptoRow.holds Try.pinned (OpenSpec.upto knownFormsSpec)

/-- 'regletlaw14.CarryChains', WHERE WHAT IT READS IS OF BULK AT MOST 1048576: true; the input reads as it did. -/
def carryChainsUptoRow : OpenClaim := { program := "ytgbajicpokolcaa", sum := "63421dc6d18b06147ab6a79b79de819dcbaeeed038ce4e421e8494b4215b4765", func := "reglet/regletlaw14.CarryChains", spec := "carryChains", inPlace := ["internal/bytealg.IndexByteString", "internal/bytealg.IndexString"], unfollowed := true, recurses := true, named := ["internal/bytealg.MaxLen"], plainKeys := false, apart := false, narrowed := true }
def CarryChainsUptoSaid : Prop := carryChainsUptoRow.holds Try.pinned (OpenSpec.upto carryChainsSpec)

/-- 'regletlaw15.FoldForms', WHERE WHAT IT READS IS OF BULK AT MOST 1048576: true; the input reads as it did. -/
def foldFormsUptoRow : OpenClaim := { program := "ytgbajicpokolcaa", sum := "63421dc6d18b06147ab6a79b79de819dcbaeeed038ce4e421e8494b4215b4765", func := "reglet/regletlaw15.FoldForms", spec := "foldForms", inPlace := ["internal/bytealg.IndexByteString", "internal/bytealg.IndexString"], named := ["internal/bytealg.MaxLen"], plainKeys := false, apart := false, narrowed := true }
def FoldFormsUptoSaid : Prop := foldFormsUptoRow.holds Try.pinned (OpenSpec.upto foldFormsSpec)

/-- 'regletlaw14.CarryForms', WHERE WHAT IT READS IS OF BULK AT MOST 1048576: true; the input reads as it did. -/
def carryFormsUptoRow : OpenClaim := { program := "ytgbajicpokolcaa", sum := "63421dc6d18b06147ab6a79b79de819dcbaeeed038ce4e421e8494b4215b4765", func := "reglet/regletlaw14.CarryForms", spec := "carryForms", inPlace := ["internal/bytealg.IndexByteString", "internal/bytealg.IndexString"], unfollowed := true, recurses := true, named := ["internal/bytealg.MaxLen"], plainKeys := false, apart := false, narrowed := true }
def CarryFormsUptoSaid : Prop := carryFormsUptoRow.holds Try.pinned (OpenSpec.upto carryFormsSpec)

end Rows
end Go.Proofs.Ytgbajicpokolcaa
