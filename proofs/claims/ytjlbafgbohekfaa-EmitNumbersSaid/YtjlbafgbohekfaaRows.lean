/-
  No cell of these rows narrows 'for every input' (looked for: loops, veiled, ifaces, maps, wideKeys, modest, calm, conditions, laid).
  DERIVED. THE GIVEN ROWS OF THIS SEAT. 5 by the template 'for every input the law returns true; each argument reads behind the call as it read before'; 0 by the template 'total and deterministic' (their statements: YtjlbafgbohekfaaTotals.lean).
  GIVEN WITH THE SEED: the statements are not yours to turn. If you find one false, say at which input.
  Laid BY PROGRAM, IN A SANDBOX (cutbox-rows.mjs): the forced cells as the released guide's own fill.sh prints them over the translation a5d9343d8cd813e9… (all of the seat's roots in one cut). By AI agents, Wed Nov 11 2026. No macro, syntax, notation, axiom, sorry.
-/
import Derived.Test.YtjlbafgbohekfaaChecked
import GoSem.Claim
import GoSem.ClaimJoined
import GoSem.ClaimMapViews
import Derived.JoinedTies
import Derived.KernelRfl
namespace Go.Proofs.Ytjlbafgbohekfaa
/- THE CELL 'sum', in the pinned program and in every row, IS THE sha256 OF THE DUMP (.gsa) THAT YtjlbafgbohekfaaProg.lean LOADS. Nothing in Lean hashes anything: it is a label: what it is worth is what the hold of that sum in a sandbox is worth. -/
noncomputable def Try.pinned : Pinned := { name := "ytjlbafgbohekfaa", sum := "a5d9343d8cd813e99e33c797e995d953c2c1cebfd49ed98ef1964cb496f870bf", checked := Try.checked }
namespace Rows
def none {H : Type} : Left H := { results := [], args := [] }

/-- 'regletlaw20.EmitNumbers': WHATEVER THE INPUT: true; the input reads as it did. -/
def emitNumbersSpec : ChangeSpec := { name := "emitNumbers", fn := fun _ => fun
  | [d1, d2] => { results := [.lit (.bool true)], args := [d1, d2] }
  | _ => none }
def emitNumbersRow : OpenClaim := { program := "ytjlbafgbohekfaa", sum := "a5d9343d8cd813e99e33c797e995d953c2c1cebfd49ed98ef1964cb496f870bf", func := "reglet/regletlaw20.EmitNumbers", spec := "emitNumbers", unfollowed := true, recurses := true, apart := false }
def EmitNumbersSaid : Prop := emitNumbersRow.holds Try.pinned (OpenSpec.ofChange emitNumbersSpec)

/-- ITS FALSE NEIGHBOUR: 'it returns false'. Refute it at one input. -/
def emitNumbersWrong : ChangeSpec := { name := "emitNumbers", fn := fun _ => fun
  | [d1, d2] => { results := [.lit (.bool false)], args := [d1, d2] }
  | _ => none }
def EmitNumbersWrongFalsely : Prop := emitNumbersRow.holds Try.pinned (OpenSpec.ofChange emitNumbersWrong)

/-- 'regletlaw20.EmitArgs': WHATEVER THE INPUT: true; the input reads as it did. -/
def emitArgsSpec : ChangeSpec := { name := "emitArgs", fn := fun _ => fun
  | [d1, d2] => { results := [.lit (.bool true)], args := [d1, d2] }
  | _ => none }
def emitArgsRow : OpenClaim := { program := "ytjlbafgbohekfaa", sum := "a5d9343d8cd813e99e33c797e995d953c2c1cebfd49ed98ef1964cb496f870bf", func := "reglet/regletlaw20.EmitArgs", spec := "emitArgs", inPlace := ["internal/bytealg.IndexByteString", "internal/bytealg.IndexString"], unfollowed := true, recurses := true, named := ["internal/bytealg.MaxLen"], apart := false }
def EmitArgsSaid : Prop := emitArgsRow.holds Try.pinned (OpenSpec.ofChange emitArgsSpec)

/-- ITS FALSE NEIGHBOUR: 'it returns false'. Refute it at one input. -/
def emitArgsWrong : ChangeSpec := { name := "emitArgs", fn := fun _ => fun
  | [d1, d2] => { results := [.lit (.bool false)], args := [d1, d2] }
  | _ => none }
def EmitArgsWrongFalsely : Prop := emitArgsRow.holds Try.pinned (OpenSpec.ofChange emitArgsWrong)

/-- 'regletlaw20.EmitAgain': WHATEVER THE INPUT: true; the input reads as it did. -/
def emitAgainSpec : ChangeSpec := { name := "emitAgain", fn := fun _ => fun
  | [d] => { results := [.lit (.bool true)], args := [d] }
  | _ => none }
def emitAgainRow : OpenClaim := { program := "ytjlbafgbohekfaa", sum := "a5d9343d8cd813e99e33c797e995d953c2c1cebfd49ed98ef1964cb496f870bf", func := "reglet/regletlaw20.EmitAgain", spec := "emitAgain", inPlace := ["internal/bytealg.IndexByteString", "internal/bytealg.IndexString"], unfollowed := true, recurses := true, named := ["internal/bytealg.MaxLen"], apart := false }
def EmitAgainSaid : Prop := emitAgainRow.holds Try.pinned (OpenSpec.ofChange emitAgainSpec)

/-- ITS FALSE NEIGHBOUR: 'it returns false'. Refute it at one input. -/
def emitAgainWrong : ChangeSpec := { name := "emitAgain", fn := fun _ => fun
  | [d] => { results := [.lit (.bool false)], args := [d] }
  | _ => none }
def EmitAgainWrongFalsely : Prop := emitAgainRow.holds Try.pinned (OpenSpec.ofChange emitAgainWrong)

/-- 'regletlaw20.EmitMaps': WHATEVER THE INPUT: true; the input reads as it did. -/
def emitMapsSpec : ChangeSpec := { name := "emitMaps", fn := fun _ => fun
  | [d] => { results := [.lit (.bool true)], args := [d] }
  | _ => none }
def emitMapsRow : OpenClaim := { program := "ytjlbafgbohekfaa", sum := "a5d9343d8cd813e99e33c797e995d953c2c1cebfd49ed98ef1964cb496f870bf", func := "reglet/regletlaw20.EmitMaps", spec := "emitMaps", inPlace := ["internal/bytealg.IndexByteString", "internal/bytealg.IndexString"], unfollowed := true, recurses := true, named := ["internal/bytealg.MaxLen"], apart := false }
def EmitMapsSaid : Prop := emitMapsRow.holds Try.pinned (OpenSpec.ofChange emitMapsSpec)

/-- ITS FALSE NEIGHBOUR: 'it returns false'. Refute it at one input. -/
def emitMapsWrong : ChangeSpec := { name := "emitMaps", fn := fun _ => fun
  | [d] => { results := [.lit (.bool false)], args := [d] }
  | _ => none }
def EmitMapsWrongFalsely : Prop := emitMapsRow.holds Try.pinned (OpenSpec.ofChange emitMapsWrong)

/-- 'regletlaw20.EmitRefuses': WHATEVER THE INPUT: true; the input reads as it did. -/
def emitRefusesSpec : ChangeSpec := { name := "emitRefuses", fn := fun _ => fun
  | [d1, d2, d3] => { results := [.lit (.bool true)], args := [d1, d2, d3] }
  | _ => none }
def emitRefusesRow : OpenClaim := { program := "ytjlbafgbohekfaa", sum := "a5d9343d8cd813e99e33c797e995d953c2c1cebfd49ed98ef1964cb496f870bf", func := "reglet/regletlaw20.EmitRefuses", spec := "emitRefuses", inPlace := ["internal/bytealg.IndexByteString", "internal/bytealg.IndexString"], unfollowed := true, recurses := true, named := ["internal/bytealg.MaxLen"], apart := false }
def EmitRefusesSaid : Prop := emitRefusesRow.holds Try.pinned (OpenSpec.ofChange emitRefusesSpec)

/-- ITS FALSE NEIGHBOUR: 'it returns false'. Refute it at one input. -/
def emitRefusesWrong : ChangeSpec := { name := "emitRefuses", fn := fun _ => fun
  | [d1, d2, d3] => { results := [.lit (.bool false)], args := [d1, d2, d3] }
  | _ => none }
def EmitRefusesWrongFalsely : Prop := emitRefusesRow.holds Try.pinned (OpenSpec.ofChange emitRefusesWrong)

/- THE SECOND FORM. 'bulk': how many values and letters a reading holds, each counted each time it is reached (what is shared counts as often as it is met; a slice's spare places count too). A statement '..UptoSaid' is the law's where the arguments, and the package variables that the reading takes, are together of bulk at most 1048576: NARROWER than '..Said'. Prove '..Said' where nothing that the law and all that it calls make is longer than what came in: it says more and counts as full. Else prove '..UptoSaid'. A law counts once. -/
mutual
def uptoBulk {H : Type} : DataW H → Nat
  | .lit (.string bytes) => bytes.length + 1
  | .lit _ => 1
  | .nil => 1
  | .ptr d => uptoBulk d + 1
  | .slice elems spare => uptoBulkAll elems + uptoBulkAll spare + 1
  | .agg parts => uptoBulkAll parts + 1
  | .iface _ d => uptoBulk d + 1
  | .map entries => uptoBulkEntries entries + 1
  | .held _ => 1
def uptoBulkAll {H : Type} : List (DataW H) → Nat
  | [] => 0
  | d :: r => uptoBulk d + uptoBulkAll r
def uptoBulkEntries {H : Type} : List (Lit × DataW H) → Nat
  | [] => 0
  | x :: r => uptoBulkEntry x + uptoBulkEntries r
def uptoBulkEntry {H : Type} : Lit × DataW H → Nat
  | (.string bytes, d) => bytes.length + uptoBulk d + 1
  | (_, d) => uptoBulk d + 1
 end
def uptoSmall : (H : Type) → List (DataW H) → Bool := fun _ ds => decide (uptoBulkAll ds ≤ 1048576)
def OpenSpec.upto (s : _root_.Go.ChangeSpec) : _root_.Go.OpenSpec := { _root_.Go.OpenSpec.ofChange s with cond := some uptoSmall }

/-- 'regletlaw20.EmitNumbers', WHERE WHAT IT READS IS OF BULK AT MOST 1048576: true; the input reads as it did. -/
def emitNumbersUptoRow : OpenClaim := { program := "ytjlbafgbohekfaa", sum := "a5d9343d8cd813e99e33c797e995d953c2c1cebfd49ed98ef1964cb496f870bf", func := "reglet/regletlaw20.EmitNumbers", spec := "emitNumbers", unfollowed := true, recurses := true, apart := false, narrowed := true }
def EmitNumbersUptoSaid : Prop := emitNumbersUptoRow.holds Try.pinned (OpenSpec.upto emitNumbersSpec)

/-- 'regletlaw20.EmitArgs', WHERE WHAT IT READS IS OF BULK AT MOST 1048576: true; the input reads as it did. -/
def emitArgsUptoRow : OpenClaim := { program := "ytjlbafgbohekfaa", sum := "a5d9343d8cd813e99e33c797e995d953c2c1cebfd49ed98ef1964cb496f870bf", func := "reglet/regletlaw20.EmitArgs", spec := "emitArgs", inPlace := ["internal/bytealg.IndexByteString", "internal/bytealg.IndexString"], unfollowed := true, recurses := true, named := ["internal/bytealg.MaxLen"], apart := false, narrowed := true }
def EmitArgsUptoSaid : Prop := emitArgsUptoRow.holds Try.pinned (OpenSpec.upto emitArgsSpec)

/-- 'regletlaw20.EmitAgain', WHERE WHAT IT READS IS OF BULK AT MOST 1048576: true; the input reads as it did. -/
def emitAgainUptoRow : OpenClaim := { program := "ytjlbafgbohekfaa", sum := "a5d9343d8cd813e99e33c797e995d953c2c1cebfd49ed98ef1964cb496f870bf", func := "reglet/regletlaw20.EmitAgain", spec := "emitAgain", inPlace := ["internal/bytealg.IndexByteString", "internal/bytealg.IndexString"], unfollowed := true, recurses := true, named := ["internal/bytealg.MaxLen"], apart := false, narrowed := true }
def EmitAgainUptoSaid : Prop := emitAgainUptoRow.holds Try.pinned (OpenSpec.upto emitAgainSpec)

/-- 'regletlaw20.EmitMaps', WHERE WHAT IT READS IS OF BULK AT MOST 1048576: true; the input reads as it did. -/
def emitMapsUptoRow : OpenClaim := { program := "ytjlbafgbohekfaa", sum := "a5d9343d8cd813e99e33c797e995d953c2c1cebfd49ed98ef1964cb496f870bf", func := "reglet/regletlaw20.EmitMaps", spec := "emitMaps", inPlace := ["internal/bytealg.IndexByteString", "internal/bytealg.IndexString"], unfollowed := true, recurses := true, named := ["internal/bytealg.MaxLen"], apart := false, narrowed := true }
def EmitMapsUptoSaid : Prop := emitMapsUptoRow.holds Try.pinned (OpenSpec.upto emitMapsSpec)

/-- 'regletlaw20.EmitRefuses', WHERE WHAT IT READS IS OF BULK AT MOST 1048576: true; the input reads as it did. -/
def emitRefusesUptoRow : OpenClaim := { program := "ytjlbafgbohekfaa", sum := "a5d9343d8cd813e99e33c797e995d953c2c1cebfd49ed98ef1964cb496f870bf", func := "reglet/regletlaw20.EmitRefuses", spec := "emitRefuses", inPlace := ["internal/bytealg.IndexByteString", "internal/bytealg.IndexString"], unfollowed := true, recurses := true, named := ["internal/bytealg.MaxLen"], apart := false, narrowed := true }
def EmitRefusesUptoSaid : Prop := emitRefusesUptoRow.holds Try.pinned (OpenSpec.upto emitRefusesSpec)

end Rows
end Go.Proofs.Ytjlbafgbohekfaa
