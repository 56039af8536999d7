/-
  No cell of these rows narrows 'for every input' (looked for: loops, veiled, ifaces, maps, wideKeys, modest, calm, conditions, laid).
  DERIVED. THE GIVEN ROWS OF THIS SEAT. 7 by the template 'for every input the law returns true; each argument reads behind the call as it read before'; 0 by the template 'total and deterministic' (their statements: YthemfgeagohdhaaTotals.lean).
  GIVEN WITH THE SEED: the statements are not yours to turn. If you find one false, say at which input.
  Laid BY PROGRAM, IN A SANDBOX (cutbox-rows.mjs): the forced cells as the released guide's own fill.sh prints them over the translation 7e94b52cbbf4db67… (all of the seat's roots in one cut). By AI agents, Wed Nov 11 2026. No macro, syntax, notation, axiom, sorry.
-/
import Derived.Test.YthemfgeagohdhaaChecked
import GoSem.Claim
import GoSem.ClaimJoined
import GoSem.ClaimMapViews
import Derived.JoinedTies
import Derived.KernelRfl
namespace Go.Proofs.Ythemfgeagohdhaa
/- THE CELL 'sum', in the pinned program and in every row, IS THE sha256 OF THE DUMP (.gsa) THAT YthemfgeagohdhaaProg.lean LOADS. Nothing in Lean hashes anything: it is a label: what it is worth is what the hold of that sum in a sandbox is worth. -/
noncomputable def Try.pinned : Pinned := { name := "ythemfgeagohdhaa", sum := "7e94b52cbbf4db6737a03e3adfc80203f5ec6fc23db90d830449411d0819274d", checked := Try.checked }
namespace Rows
def none {H : Type} : Left H := { results := [], args := [] }

/-- 'regletlaw11.FlowLeads': WHATEVER THE INPUT: true; the input reads as it did. -/
def flowLeadsSpec : ChangeSpec := { name := "flowLeads", fn := fun _ => fun
  | [d1, d2] => { results := [.lit (.bool true)], args := [d1, d2] }
  | _ => none }
def flowLeadsRow : OpenClaim := { program := "ythemfgeagohdhaa", sum := "7e94b52cbbf4db6737a03e3adfc80203f5ec6fc23db90d830449411d0819274d", func := "reglet/regletlaw11.FlowLeads", spec := "flowLeads", apart := false }
def FlowLeadsSaid : Prop := flowLeadsRow.holds Try.pinned (OpenSpec.ofChange flowLeadsSpec)

/-- ITS FALSE NEIGHBOUR: 'it returns false'. Refute it at one input. -/
def flowLeadsWrong : ChangeSpec := { name := "flowLeads", fn := fun _ => fun
  | [d1, d2] => { results := [.lit (.bool false)], args := [d1, d2] }
  | _ => none }
def FlowLeadsWrongFalsely : Prop := flowLeadsRow.holds Try.pinned (OpenSpec.ofChange flowLeadsWrong)

/-- 'regletlaw11.FlowTrims': WHATEVER THE INPUT: true; the input reads as it did. -/
def flowTrimsSpec : ChangeSpec := { name := "flowTrims", fn := fun _ => fun
  | [d] => { results := [.lit (.bool true)], args := [d] }
  | _ => none }
def flowTrimsRow : OpenClaim := { program := "ythemfgeagohdhaa", sum := "7e94b52cbbf4db6737a03e3adfc80203f5ec6fc23db90d830449411d0819274d", func := "reglet/regletlaw11.FlowTrims", spec := "flowTrims", inPlace := ["internal/bytealg.IndexByteString", "internal/bytealg.IndexString"], named := ["internal/bytealg.MaxLen"], apart := false }
def FlowTrimsSaid : Prop := flowTrimsRow.holds Try.pinned (OpenSpec.ofChange flowTrimsSpec)

/-- ITS FALSE NEIGHBOUR: 'it returns false'. Refute it at one input. -/
def flowTrimsWrong : ChangeSpec := { name := "flowTrims", fn := fun _ => fun
  | [d] => { results := [.lit (.bool false)], args := [d] }
  | _ => none }
def FlowTrimsWrongFalsely : Prop := flowTrimsRow.holds Try.pinned (OpenSpec.ofChange flowTrimsWrong)

/-- 'regletlaw13.LiveTells': WHATEVER THE INPUT: true; the input reads as it did. -/
def liveTellsSpec : ChangeSpec := { name := "liveTells", fn := fun _ => fun
  | [d] => { results := [.lit (.bool true)], args := [d] }
  | _ => none }
def liveTellsRow : OpenClaim := { program := "ythemfgeagohdhaa", sum := "7e94b52cbbf4db6737a03e3adfc80203f5ec6fc23db90d830449411d0819274d", func := "reglet/regletlaw13.LiveTells", spec := "liveTells", inPlace := ["internal/bytealg.IndexByteString", "internal/bytealg.IndexString"], named := ["internal/bytealg.MaxLen"], apart := false }
def LiveTellsSaid : Prop := liveTellsRow.holds Try.pinned (OpenSpec.ofChange liveTellsSpec)

/-- ITS FALSE NEIGHBOUR: 'it returns false'. Refute it at one input. -/
def liveTellsWrong : ChangeSpec := { name := "liveTells", fn := fun _ => fun
  | [d] => { results := [.lit (.bool false)], args := [d] }
  | _ => none }
def LiveTellsWrongFalsely : Prop := liveTellsRow.holds Try.pinned (OpenSpec.ofChange liveTellsWrong)

/-- 'regletlaw13.LiveReads': WHATEVER THE INPUT: true; the input reads as it did. -/
def liveReadsSpec : ChangeSpec := { name := "liveReads", fn := fun _ => fun
  | [d1, d2, d3] => { results := [.lit (.bool true)], args := [d1, d2, d3] }
  | _ => none }
def liveReadsRow : OpenClaim := { program := "ythemfgeagohdhaa", sum := "7e94b52cbbf4db6737a03e3adfc80203f5ec6fc23db90d830449411d0819274d", func := "reglet/regletlaw13.LiveReads", spec := "liveReads", inPlace := ["internal/bytealg.IndexByteString", "internal/bytealg.IndexString"], named := ["internal/bytealg.MaxLen"], apart := false }
def LiveReadsSaid : Prop := liveReadsRow.holds Try.pinned (OpenSpec.ofChange liveReadsSpec)

/-- ITS FALSE NEIGHBOUR: 'it returns false'. Refute it at one input. -/
def liveReadsWrong : ChangeSpec := { name := "liveReads", fn := fun _ => fun
  | [d1, d2, d3] => { results := [.lit (.bool false)], args := [d1, d2, d3] }
  | _ => none }
def LiveReadsWrongFalsely : Prop := liveReadsRow.holds Try.pinned (OpenSpec.ofChange liveReadsWrong)

/-- 'regletlaw11.FlowBlocks': WHATEVER THE INPUT: true; the input reads as it did. -/
def flowBlocksSpec : ChangeSpec := { name := "flowBlocks", fn := fun _ => fun
  | [d] => { results := [.lit (.bool true)], args := [d] }
  | _ => none }
def flowBlocksRow : OpenClaim := { program := "ythemfgeagohdhaa", sum := "7e94b52cbbf4db6737a03e3adfc80203f5ec6fc23db90d830449411d0819274d", func := "reglet/regletlaw11.FlowBlocks", spec := "flowBlocks", inPlace := ["internal/bytealg.IndexByteString", "internal/bytealg.IndexString"], named := ["internal/bytealg.MaxLen"], apart := false }
def FlowBlocksSaid : Prop := flowBlocksRow.holds Try.pinned (OpenSpec.ofChange flowBlocksSpec)

/-- ITS FALSE NEIGHBOUR: 'it returns false'. Refute it at one input. -/
def flowBlocksWrong : ChangeSpec := { name := "flowBlocks", fn := fun _ => fun
  | [d] => { results := [.lit (.bool false)], args := [d] }
  | _ => none }
def FlowBlocksWrongFalsely : Prop := flowBlocksRow.holds Try.pinned (OpenSpec.ofChange flowBlocksWrong)

/-- 'regletlaw13.LiveSet': WHATEVER THE INPUT: true; the input reads as it did. -/
def liveSetSpec : ChangeSpec := { name := "liveSet", fn := fun _ => fun
  | [d] => { results := [.lit (.bool true)], args := [d] }
  | _ => none }
def liveSetRow : OpenClaim := { program := "ythemfgeagohdhaa", sum := "7e94b52cbbf4db6737a03e3adfc80203f5ec6fc23db90d830449411d0819274d", func := "reglet/regletlaw13.LiveSet", spec := "liveSet", inPlace := ["internal/bytealg.IndexByteString", "internal/bytealg.IndexString"], named := ["internal/bytealg.MaxLen"], apart := false }
def LiveSetSaid : Prop := liveSetRow.holds Try.pinned (OpenSpec.ofChange liveSetSpec)

/-- ITS FALSE NEIGHBOUR: 'it returns false'. Refute it at one input. -/
def liveSetWrong : ChangeSpec := { name := "liveSet", fn := fun _ => fun
  | [d] => { results := [.lit (.bool false)], args := [d] }
  | _ => none }
def LiveSetWrongFalsely : Prop := liveSetRow.holds Try.pinned (OpenSpec.ofChange liveSetWrong)

/-- 'regletlaw11.FlowSets': WHATEVER THE INPUT: true; the input reads as it did. -/
def flowSetsSpec : ChangeSpec := { name := "flowSets", fn := fun _ => fun
  | [d] => { results := [.lit (.bool true)], args := [d] }
  | _ => none }
def flowSetsRow : OpenClaim := { program := "ythemfgeagohdhaa", sum := "7e94b52cbbf4db6737a03e3adfc80203f5ec6fc23db90d830449411d0819274d", func := "reglet/regletlaw11.FlowSets", spec := "flowSets", inPlace := ["internal/bytealg.IndexByteString", "internal/bytealg.IndexString"], named := ["internal/bytealg.MaxLen"], apart := false }
def FlowSetsSaid : Prop := flowSetsRow.holds Try.pinned (OpenSpec.ofChange flowSetsSpec)

/-- ITS FALSE NEIGHBOUR: 'it returns false'. Refute it at one input. -/
def flowSetsWrong : ChangeSpec := { name := "flowSets", fn := fun _ => fun
  | [d] => { results := [.lit (.bool false)], args := [d] }
  | _ => none }
def FlowSetsWrongFalsely : Prop := flowSetsRow.holds Try.pinned (OpenSpec.ofChange flowSetsWrong)

/- THE SECOND FORM. 'bulk': how many values and letters a reading holds, each counted each time it is reached (what is shared counts as often as it is met; a slice's spare places count too). A statement '..UptoSaid' is the law's where the arguments, and the package variables that the reading takes, are together of bulk at most 1048576: NARROWER than '..Said'. Prove '..Said' where nothing that the law and all that it calls make is longer than what came in: it says more and counts as full. Else prove '..UptoSaid'. A law counts once. -/
mutual
def uptoBulk {H : Type} : DataW H → Nat
  | .lit (.string bytes) => bytes.length + 1
  | .lit _ => 1
  | .nil => 1
  | .ptr d => uptoBulk d + 1
  | .slice elems spare => uptoBulkAll elems + uptoBulkAll spare + 1
  | .agg parts => uptoBulkAll parts + 1
  | .iface _ d => uptoBulk d + 1
  | .map entries => uptoBulkEntries entries + 1
  | .held _ => 1
def uptoBulkAll {H : Type} : List (DataW H) → Nat
  | [] => 0
  | d :: r => uptoBulk d + uptoBulkAll r
def uptoBulkEntries {H : Type} : List (Lit × DataW H) → Nat
  | [] => 0
  | x :: r => uptoBulkEntry x + uptoBulkEntries r
def uptoBulkEntry {H : Type} : Lit × DataW H → Nat
  | (.string bytes, d) => bytes.length + uptoBulk d + 1
  | (_, d) => uptoBulk d + 1
 end
def uptoSmall : (H : Type) → List (DataW H) → Bool := fun _ ds => decide (uptoBulkAll ds ≤ 1048576)
def OpenSpec.upto (s : _root_.Go.ChangeSpec) : _root_.Go.OpenSpec := { _root_.Go.OpenSpec.ofChange s with cond := some uptoSmall }

/-- 'regletlaw11.FlowLeads', WHERE WHAT IT READS IS OF BULK AT MOST 1048576: true; the input reads as it did. -/
def flowLeadsUptoRow : OpenClaim := { program := "ythemfgeagohdhaa", sum := "7e94b52cbbf4db6737a03e3adfc80203f5ec6fc23db90d830449411d0819274d", func := "reglet/regletlaw11.FlowLeads", spec := "flowLeads", apart := false, narrowed := true }
def FlowLeadsUptoSaid : Prop := flowLeadsUptoRow.holds Try.pinned (OpenSpec.upto flowLeadsSpec)

/-- 'regletlaw11.FlowTrims', WHERE WHAT IT READS IS OF BULK AT MOST 1048576: true; the input reads as it did. -/
def flowTrimsUptoRow : OpenClaim := { program := "ythemfgeagohdhaa", sum := "7e94b52cbbf4db6737a03e3adfc80203f5ec6fc23db90d830449411d0819274d", func := "reglet/regletlaw11.FlowTrims", spec := "flowTrims", inPlace := ["internal/bytealg.IndexByteString", "internal/bytealg.IndexString"], named := ["internal/bytealg.MaxLen"], apart := false, narrowed := true }
def FlowTrimsUptoSaid : Prop := flowTrimsUptoRow.holds Try.pinned (OpenSpec.upto flowTrimsSpec)

/-- 'regletlaw13.LiveTells', WHERE WHAT IT READS IS OF BULK AT MOST 1048576: true; the input reads as it did. -/
def liveTellsUptoRow : OpenClaim := { program := "ythemfgeagohdhaa", sum := "7e94b52cbbf4db6737a03e3adfc80203f5ec6fc23db90d830449411d0819274d", func := "reglet/regletlaw13.LiveTells", spec := "liveTells", inPlace := ["internal/bytealg.IndexByteString", "internal/bytealg.IndexString"], named := ["internal/bytealg.MaxLen"], apart := false, narrowed := true }
def LiveTellsUptoSaid : Prop := liveTellsUptoRow.holds Try.pinned (OpenSpec.upto liveTellsSpec)

/-- 'regletlaw13.LiveReads', WHERE WHAT IT READS IS OF BULK AT MOST 1048576: true; the input reads as it did. -/
def liveReadsUptoRow : OpenClaim := { program := "ythemfgeagohdhaa", sum := "7e94b52cbbf4db6737a03e3adfc80203f5ec6fc23db90d830449411d0819274d", func := "reglet/regletlaw13.LiveReads", spec := "liveReads", inPlace := ["internal/bytealg.IndexByteString", "internal/bytealg.IndexString"], named := ["internal/bytealg.MaxLen"], apart := false, narrowed := true }
def LiveReadsUptoSaid : Prop := liveReadsUptoRow.holds Try.pinned (OpenSpec.upto liveReadsSpec)

/-- 'regletlaw11.FlowBlocks', WHERE WHAT IT READS IS OF BULK AT MOST 1048576: true; the input reads as it did. -/
def flowBlocksUptoRow : OpenClaim := { program := "ythemfgeagohdhaa", sum := "7e94b52cbbf4db6737a03e3adfc80203f5ec6fc23db90d830449411d0819274d", func := "reglet/regletlaw11.FlowBlocks", spec := "flowBlocks", inPlace := ["internal/bytealg.IndexByteString", "internal/bytealg.IndexString"], named := ["internal/bytealg.MaxLen"], apart := false, narrowed := true }
def FlowBlocksUptoSaid : Prop := flowBlocksUptoRow.holds Try.pinned (OpenSpec.upto flowBlocksSpec)

/-- 'regletlaw13.LiveSet', WHERE WHAT IT READS IS OF BULK AT MOST 1048576: true; the input reads as it did. -/
def liveSetUptoRow : OpenClaim := { program := "ythemfgeagohdhaa", sum := "7e94b52cbbf4db6737a03e3adfc80203f5ec6fc23db90d830449411d0819274d", func := "reglet/regletlaw13.LiveSet", spec := "liveSet", inPlace := ["internal/bytealg.IndexByteString", "internal/bytealg.IndexString"], named := ["internal/bytealg.MaxLen"], apart := false, narrowed := true }
def LiveSetUptoSaid : Prop := liveSetUptoRow.holds Try.pinned (OpenSpec.upto liveSetSpec)

/-- 'regletlaw11.FlowSets', WHERE WHAT IT READS IS OF BULK AT MOST 1048576: true; the input reads as it did. -/
def flowSetsUptoRow : OpenClaim := { program := "ythemfgeagohdhaa", sum := "7e94b52cbbf4db6737a03e3adfc80203f5ec6fc23db90d830449411d0819274d", func := "reglet/regletlaw11.FlowSets", spec := "flowSets", inPlace := ["internal/bytealg.IndexByteString", "internal/bytealg.IndexString"], named := ["internal/bytealg.MaxLen"], apart := false, narrowed := true }
def FlowSetsUptoSaid : Prop := flowSetsUptoRow.holds Try.pinned (OpenSpec.upto flowSetsSpec)

end Rows
end Go.Proofs.Ythemfgeagohdhaa
