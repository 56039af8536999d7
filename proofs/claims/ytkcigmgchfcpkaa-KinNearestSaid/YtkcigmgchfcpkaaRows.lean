/-
  No cell of these rows narrows 'for every input' (looked for: loops, veiled, ifaces, maps, wideKeys, modest, calm, conditions, laid).
  DERIVED. THE GIVEN ROWS OF THIS SEAT. 4 by the template 'for every input the law returns true; each argument reads behind the call as it read before'; 0 by the template 'total and deterministic' (their statements: YtkcigmgchfcpkaaTotals.lean).
  GIVEN WITH THE SEED: the statements are not yours to turn. If you find one false, say at which input.
  Laid BY PROGRAM, IN A SANDBOX (cutbox-rows.mjs): the forced cells as the released guide's own fill.sh prints them over the translation 8d2bfea6cf83daa0… (all of the seat's roots in one cut). By AI agents, Wed Nov 11 2026. No macro, syntax, notation, axiom, sorry.
-/
import Derived.Test.YtkcigmgchfcpkaaChecked
import GoSem.Claim
import GoSem.ClaimJoined
import GoSem.ClaimMapViews
import Derived.JoinedTies
import Derived.KernelRfl
namespace Go.Proofs.Ytkcigmgchfcpkaa
/- THE CELL 'sum', in the pinned program and in every row, IS THE sha256 OF THE DUMP (.gsa) THAT YtkcigmgchfcpkaaProg.lean LOADS. Nothing in Lean hashes anything: it is a label: what it is worth is what the hold of that sum in a sandbox is worth. -/
noncomputable def Try.pinned : Pinned := { name := "ytkcigmgchfcpkaa", sum := "8d2bfea6cf83daa0578991ec4021eb62b86864748e904f2bea6e870094647137", checked := Try.checked }
namespace Rows
def none {H : Type} : Left H := { results := [], args := [] }

/-- 'regletlaw07.KinFits': WHATEVER THE INPUT: true; the input reads as it did. -/
def kinFitsSpec : ChangeSpec := { name := "kinFits", fn := fun _ => fun
  | [d1, d2] => { results := [.lit (.bool true)], args := [d1, d2] }
  | _ => none }
def kinFitsRow : OpenClaim := { program := "ytkcigmgchfcpkaa", sum := "8d2bfea6cf83daa0578991ec4021eb62b86864748e904f2bea6e870094647137", func := "reglet/regletlaw07.KinFits", spec := "kinFits", recurses := true, apart := false }
def KinFitsSaid : Prop := kinFitsRow.holds Try.pinned (OpenSpec.ofChange kinFitsSpec)

/-- ITS FALSE NEIGHBOUR: 'it returns false'. Refute it at one input. -/
def kinFitsWrong : ChangeSpec := { name := "kinFits", fn := fun _ => fun
  | [d1, d2] => { results := [.lit (.bool false)], args := [d1, d2] }
  | _ => none }
def KinFitsWrongFalsely : Prop := kinFitsRow.holds Try.pinned (OpenSpec.ofChange kinFitsWrong)

/-- 'regletlaw07.KinAbove': WHATEVER THE INPUT: true; the input reads as it did. -/
def kinAboveSpec : ChangeSpec := { name := "kinAbove", fn := fun _ => fun
  | [d] => { results := [.lit (.bool true)], args := [d] }
  | _ => none }
def kinAboveRow : OpenClaim := { program := "ytkcigmgchfcpkaa", sum := "8d2bfea6cf83daa0578991ec4021eb62b86864748e904f2bea6e870094647137", func := "reglet/regletlaw07.KinAbove", spec := "kinAbove", recurses := true, apart := false }
def KinAboveSaid : Prop := kinAboveRow.holds Try.pinned (OpenSpec.ofChange kinAboveSpec)

/-- ITS FALSE NEIGHBOUR: 'it returns false'. Refute it at one input. -/
def kinAboveWrong : ChangeSpec := { name := "kinAbove", fn := fun _ => fun
  | [d] => { results := [.lit (.bool false)], args := [d] }
  | _ => none }
def KinAboveWrongFalsely : Prop := kinAboveRow.holds Try.pinned (OpenSpec.ofChange kinAboveWrong)

/-- 'regletlaw07.KinNearest': WHATEVER THE INPUT: true; the input reads as it did. -/
def kinNearestSpec : ChangeSpec := { name := "kinNearest", fn := fun _ => fun
  | [d1, d2] => { results := [.lit (.bool true)], args := [d1, d2] }
  | _ => none }
def kinNearestRow : OpenClaim := { program := "ytkcigmgchfcpkaa", sum := "8d2bfea6cf83daa0578991ec4021eb62b86864748e904f2bea6e870094647137", func := "reglet/regletlaw07.KinNearest", spec := "kinNearest", unfollowed := true, recurses := true, apart := false }
def KinNearestSaid : Prop := kinNearestRow.holds Try.pinned (OpenSpec.ofChange kinNearestSpec)

/-- ITS FALSE NEIGHBOUR: 'it returns false'. Refute it at one input. -/
def kinNearestWrong : ChangeSpec := { name := "kinNearest", fn := fun _ => fun
  | [d1, d2] => { results := [.lit (.bool false)], args := [d1, d2] }
  | _ => none }
def KinNearestWrongFalsely : Prop := kinNearestRow.holds Try.pinned (OpenSpec.ofChange kinNearestWrong)

/-- 'regletlaw07.KinGrows': WHATEVER THE INPUT: true; the input reads as it did. -/
def kinGrowsSpec : ChangeSpec := { name := "kinGrows", fn := fun _ => fun
  | [d1, d2] => { results := [.lit (.bool true)], args := [d1, d2] }
  | _ => none }
def kinGrowsRow : OpenClaim := { program := "ytkcigmgchfcpkaa", sum := "8d2bfea6cf83daa0578991ec4021eb62b86864748e904f2bea6e870094647137", func := "reglet/regletlaw07.KinGrows", spec := "kinGrows", inPlace := ["internal/bytealg.IndexByteString", "internal/bytealg.IndexString"], recurses := true, named := ["internal/bytealg.MaxLen"], apart := false }
def KinGrowsSaid : Prop := kinGrowsRow.holds Try.pinned (OpenSpec.ofChange kinGrowsSpec)

/-- ITS FALSE NEIGHBOUR: 'it returns false'. Refute it at one input. -/
def kinGrowsWrong : ChangeSpec := { name := "kinGrows", fn := fun _ => fun
  | [d1, d2] => { results := [.lit (.bool false)], args := [d1, d2] }
  | _ => none }
def KinGrowsWrongFalsely : Prop := kinGrowsRow.holds Try.pinned (OpenSpec.ofChange kinGrowsWrong)

/- THE SECOND FORM. 'bulk': how many values and letters a reading holds, each counted each time it is reached (what is shared counts as often as it is met; a slice's spare places count too). A statement '..UptoSaid' is the law's where the arguments, and the package variables that the reading takes, are together of bulk at most 1048576: NARROWER than '..Said'. Prove '..Said' where nothing that the law and all that it calls make is longer than what came in: it says more and counts as full. Else prove '..UptoSaid'. A law counts once. -/
mutual
def uptoBulk {H : Type} : DataW H → Nat
  | .lit (.string bytes) => bytes.length + 1
  | .lit _ => 1
  | .nil => 1
  | .ptr d => uptoBulk d + 1
  | .slice elems spare => uptoBulkAll elems + uptoBulkAll spare + 1
  | .agg parts => uptoBulkAll parts + 1
  | .iface _ d => uptoBulk d + 1
  | .map entries => uptoBulkEntries entries + 1
  | .held _ => 1
def uptoBulkAll {H : Type} : List (DataW H) → Nat
  | [] => 0
  | d :: r => uptoBulk d + uptoBulkAll r
def uptoBulkEntries {H : Type} : List (Lit × DataW H) → Nat
  | [] => 0
  | x :: r => uptoBulkEntry x + uptoBulkEntries r
def uptoBulkEntry {H : Type} : Lit × DataW H → Nat
  | (.string bytes, d) => bytes.length + uptoBulk d + 1
  | (_, d) => uptoBulk d + 1
 end
def uptoSmall : (H : Type) → List (DataW H) → Bool := fun _ ds => decide (uptoBulkAll ds ≤ 1048576)
def OpenSpec.upto (s : _root_.Go.ChangeSpec) : _root_.Go.OpenSpec := { _root_.Go.OpenSpec.ofChange s with cond := some uptoSmall }

/-- 'regletlaw07.KinFits', WHERE WHAT IT READS IS OF BULK AT MOST 1048576: true; the input reads as it did. -/
def kinFitsUptoRow : OpenClaim := { program := "ytkcigmgchfcpkaa", sum := "8d2bfea6cf83daa0578991ec4021eb62b86864748e904f2bea6e870094647137", func := "reglet/regletlaw07.KinFits", spec := "kinFits", recurses := true, apart := false, narrowed := true }
def KinFitsUptoSaid : Prop := kinFitsUptoRow.holds Try.pinned (OpenSpec.upto kinFitsSpec)

/-- 'regletlaw07.KinAbove', WHERE WHAT IT READS IS OF BULK AT MOST 1048576: true; the input reads as it did. -/
def kinAboveUptoRow : OpenClaim := { program := "ytkcigmgchfcpkaa", sum := "8d2bfea6cf83daa0578991ec4021eb62b86864748e904f2bea6e870094647137", func := "reglet/regletlaw07.KinAbove", spec := "kinAbove", recurses := true, apart := false, narrowed := true }
def KinAboveUptoSaid : Prop := kinAboveUptoRow.holds Try.pinned (OpenSpec.upto kinAboveSpec)

/-- 'regletlaw07.KinNearest', WHERE WHAT IT READS IS OF BULK AT MOST 1048576: true; the input reads as it did. -/
def kinNearestUptoRow : OpenClaim := { program := "ytkcigmgchfcpkaa", sum := "8d2bfea6cf83daa0578991ec4021eb62b86864748e904f2bea6e870094647137", func := "reglet/regletlaw07.KinNearest", spec := "kinNearest", unfollowed := true, recurses := true, apart := false, narrowed := true }
def KinNearestUptoSaid : Prop := kinNearestUptoRow.holds Try.pinned (OpenSpec.upto kinNearestSpec)

/-- 'regletlaw07.KinGrows', WHERE WHAT IT READS IS OF BULK AT MOST 1048576: true; the input reads as it did. -/
def kinGrowsUptoRow : OpenClaim := { program := "ytkcigmgchfcpkaa", sum := "8d2bfea6cf83daa0578991ec4021eb62b86864748e904f2bea6e870094647137", func := "reglet/regletlaw07.KinGrows", spec := "kinGrows", inPlace := ["internal/bytealg.IndexByteString", "internal/bytealg.IndexString"], recurses := true, named := ["internal/bytealg.MaxLen"], apart := false, narrowed := true }
def KinGrowsUptoSaid : Prop := kinGrowsUptoRow.holds Try.pinned (OpenSpec.upto kinGrowsSpec)

end Rows
end Go.Proofs.Ytkcigmgchfcpkaa
