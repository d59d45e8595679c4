/-
  No cell of these rows narrows 'for every input' (looked for: loops, veiled, ifaces, maps, wideKeys, modest, calm, conditions, laid).
  DERIVED. THE GIVEN ROWS OF THIS SEAT. 9 by the template 'for every input the law returns true; each argument reads behind the call as it read before'; 0 by the template 'total and deterministic' (their statements: YticmfflnenoplaaTotals.lean).
  GIVEN WITH THE SEED: the statements are not yours to turn. If you find one false, say at which input.
  Laid BY PROGRAM, IN A SANDBOX (cutbox-rows.mjs): the forced cells as the released guide's own fill.sh prints them over the translation d25a21c8ea0d9f0b… (all of the seat's roots in one cut). By AI agents, Wed Nov 11 2026. No macro, syntax, notation, axiom, sorry.
-/
import Derived.Test.YticmfflnenoplaaChecked
import GoSem.Claim
import GoSem.ClaimJoined
import GoSem.ClaimMapViews
import Derived.JoinedTies
import Derived.KernelRfl
namespace Go.Proofs.Yticmfflnenoplaa
/- THE CELL 'sum', in the pinned program and in every row, IS THE sha256 OF THE DUMP (.gsa) THAT YticmfflnenoplaaProg.lean LOADS. Nothing in Lean hashes anything: it is a label: what it is worth is what the hold of that sum in a sandbox is worth. -/
noncomputable def Try.pinned : Pinned := { name := "yticmfflnenoplaa", sum := "d25a21c8ea0d9f0bf5524fb7e50abdc1f3c7a7ad28a64eecb80e47c669937208", checked := Try.checked }
namespace Rows
def none {H : Type} : Left H := { results := [], args := [] }

/-- 'ostlerylaw.DiskSays': WHATEVER THE INPUT: true; the input reads as it did. -/
def diskSaysSpec : ChangeSpec := { name := "diskSays", fn := fun _ => fun
  | [d] => { results := [.lit (.bool true)], args := [d] }
  | _ => none }
def diskSaysRow : OpenClaim := { program := "yticmfflnenoplaa", sum := "d25a21c8ea0d9f0bf5524fb7e50abdc1f3c7a7ad28a64eecb80e47c669937208", func := "ostlery/ostlerylaw.DiskSays", spec := "diskSays", apart := false }
def DiskSaysSaid : Prop := diskSaysRow.holds Try.pinned (OpenSpec.ofChange diskSaysSpec)

/-- ITS FALSE NEIGHBOUR: 'it returns false'. Refute it at one input. -/
def diskSaysWrong : ChangeSpec := { name := "diskSays", fn := fun _ => fun
  | [d] => { results := [.lit (.bool false)], args := [d] }
  | _ => none }
def DiskSaysWrongFalsely : Prop := diskSaysRow.holds Try.pinned (OpenSpec.ofChange diskSaysWrong)

/-- 'ostlerylaw.TopoSays': WHATEVER THE INPUT: true; the input reads as it did. -/
def topoSaysSpec : ChangeSpec := { name := "topoSays", fn := fun _ => fun
  | [d1, d2, d3, d4] => { results := [.lit (.bool true)], args := [d1, d2, d3, d4] }
  | _ => none }
def topoSaysRow : OpenClaim := { program := "yticmfflnenoplaa", sum := "d25a21c8ea0d9f0bf5524fb7e50abdc1f3c7a7ad28a64eecb80e47c669937208", func := "ostlery/ostlerylaw.TopoSays", spec := "topoSays", unfollowed := true, recurses := true, apart := false }
def TopoSaysSaid : Prop := topoSaysRow.holds Try.pinned (OpenSpec.ofChange topoSaysSpec)

/-- ITS FALSE NEIGHBOUR: 'it returns false'. Refute it at one input. -/
def topoSaysWrong : ChangeSpec := { name := "topoSays", fn := fun _ => fun
  | [d1, d2, d3, d4] => { results := [.lit (.bool false)], args := [d1, d2, d3, d4] }
  | _ => none }
def TopoSaysWrongFalsely : Prop := topoSaysRow.holds Try.pinned (OpenSpec.ofChange topoSaysWrong)

/-- 'ostlerylaw.HintsSays': WHATEVER THE INPUT: true; the input reads as it did. -/
def hintsSaysSpec : ChangeSpec := { name := "hintsSays", fn := fun _ => fun
  | [d1, d2, d3, d4] => { results := [.lit (.bool true)], args := [d1, d2, d3, d4] }
  | _ => none }
def hintsSaysRow : OpenClaim := { program := "yticmfflnenoplaa", sum := "d25a21c8ea0d9f0bf5524fb7e50abdc1f3c7a7ad28a64eecb80e47c669937208", func := "ostlery/ostlerylaw.HintsSays", spec := "hintsSays", recurses := true, apart := false }
def HintsSaysSaid : Prop := hintsSaysRow.holds Try.pinned (OpenSpec.ofChange hintsSaysSpec)

/-- ITS FALSE NEIGHBOUR: 'it returns false'. Refute it at one input. -/
def hintsSaysWrong : ChangeSpec := { name := "hintsSays", fn := fun _ => fun
  | [d1, d2, d3, d4] => { results := [.lit (.bool false)], args := [d1, d2, d3, d4] }
  | _ => none }
def HintsSaysWrongFalsely : Prop := hintsSaysRow.holds Try.pinned (OpenSpec.ofChange hintsSaysWrong)

/-- 'ostlerylaw.MergeSays': WHATEVER THE INPUT: true; the input reads as it did. -/
def mergeSaysSpec : ChangeSpec := { name := "mergeSays", fn := fun _ => fun
  | [d1, d2, d3] => { results := [.lit (.bool true)], args := [d1, d2, d3] }
  | _ => none }
def mergeSaysRow : OpenClaim := { program := "yticmfflnenoplaa", sum := "d25a21c8ea0d9f0bf5524fb7e50abdc1f3c7a7ad28a64eecb80e47c669937208", func := "ostlery/ostlerylaw.MergeSays", spec := "mergeSays", recurses := true, apart := false }
def MergeSaysSaid : Prop := mergeSaysRow.holds Try.pinned (OpenSpec.ofChange mergeSaysSpec)

/-- ITS FALSE NEIGHBOUR: 'it returns false'. Refute it at one input. -/
def mergeSaysWrong : ChangeSpec := { name := "mergeSays", fn := fun _ => fun
  | [d1, d2, d3] => { results := [.lit (.bool false)], args := [d1, d2, d3] }
  | _ => none }
def MergeSaysWrongFalsely : Prop := mergeSaysRow.holds Try.pinned (OpenSpec.ofChange mergeSaysWrong)

/-- 'ostlerylaw.QosSays': WHATEVER THE INPUT: true; the input reads as it did. -/
def qosSaysSpec : ChangeSpec := { name := "qosSays", fn := fun _ => fun
  | [d1, d2] => { results := [.lit (.bool true)], args := [d1, d2] }
  | _ => none }
def qosSaysRow : OpenClaim := { program := "yticmfflnenoplaa", sum := "d25a21c8ea0d9f0bf5524fb7e50abdc1f3c7a7ad28a64eecb80e47c669937208", func := "ostlery/ostlerylaw.QosSays", spec := "qosSays", apart := false }
def QosSaysSaid : Prop := qosSaysRow.holds Try.pinned (OpenSpec.ofChange qosSaysSpec)

/-- ITS FALSE NEIGHBOUR: 'it returns false'. Refute it at one input. -/
def qosSaysWrong : ChangeSpec := { name := "qosSays", fn := fun _ => fun
  | [d1, d2] => { results := [.lit (.bool false)], args := [d1, d2] }
  | _ => none }
def QosSaysWrongFalsely : Prop := qosSaysRow.holds Try.pinned (OpenSpec.ofChange qosSaysWrong)

/-- 'ostlerylaw.EngineSays': WHATEVER THE INPUT: true; the input reads as it did. -/
def engineSaysSpec : ChangeSpec := { name := "engineSays", fn := fun _ => fun
  | [d] => { results := [.lit (.bool true)], args := [d] }
  | _ => none }
def engineSaysRow : OpenClaim := { program := "yticmfflnenoplaa", sum := "d25a21c8ea0d9f0bf5524fb7e50abdc1f3c7a7ad28a64eecb80e47c669937208", func := "ostlery/ostlerylaw.EngineSays", spec := "engineSays", inPlace := ["slices.overlaps[ostlery/api.Running]"], apart := false }
def EngineSaysSaid : Prop := engineSaysRow.holds Try.pinned (OpenSpec.ofChange engineSaysSpec)

/-- ITS FALSE NEIGHBOUR: 'it returns false'. Refute it at one input. -/
def engineSaysWrong : ChangeSpec := { name := "engineSays", fn := fun _ => fun
  | [d] => { results := [.lit (.bool false)], args := [d] }
  | _ => none }
def EngineSaysWrongFalsely : Prop := engineSaysRow.holds Try.pinned (OpenSpec.ofChange engineSaysWrong)

/-- 'ostlerylaw.EvictSays': WHATEVER THE INPUT: true; the input reads as it did. -/
def evictSaysSpec : ChangeSpec := { name := "evictSays", fn := fun _ => fun
  | [d1, d2, d3] => { results := [.lit (.bool true)], args := [d1, d2, d3] }
  | _ => none }
def evictSaysRow : OpenClaim := { program := "yticmfflnenoplaa", sum := "d25a21c8ea0d9f0bf5524fb7e50abdc1f3c7a7ad28a64eecb80e47c669937208", func := "ostlery/ostlerylaw.EvictSays", spec := "evictSays", unfollowed := true, recurses := true, apart := false }
def EvictSaysSaid : Prop := evictSaysRow.holds Try.pinned (OpenSpec.ofChange evictSaysSpec)

/-- ITS FALSE NEIGHBOUR: 'it returns false'. Refute it at one input. -/
def evictSaysWrong : ChangeSpec := { name := "evictSays", fn := fun _ => fun
  | [d1, d2, d3] => { results := [.lit (.bool false)], args := [d1, d2, d3] }
  | _ => none }
def EvictSaysWrongFalsely : Prop := evictSaysRow.holds Try.pinned (OpenSpec.ofChange evictSaysWrong)

/-- 'ostlerytop.TopHints': WHATEVER THE INPUT: true; the input reads as it did. -/
def topHintsSpec : ChangeSpec := { name := "topHints", fn := fun _ => fun
  | [d1, d2, d3, d4] => { results := [.lit (.bool true)], args := [d1, d2, d3, d4] }
  | _ => none }
def topHintsRow : OpenClaim := { program := "yticmfflnenoplaa", sum := "d25a21c8ea0d9f0bf5524fb7e50abdc1f3c7a7ad28a64eecb80e47c669937208", func := "ostlery/ostlerytop.TopHints", spec := "topHints", apart := false }
def TopHintsSaid : Prop := topHintsRow.holds Try.pinned (OpenSpec.ofChange topHintsSpec)

/-- ITS FALSE NEIGHBOUR: 'it returns false'. Refute it at one input. -/
def topHintsWrong : ChangeSpec := { name := "topHints", fn := fun _ => fun
  | [d1, d2, d3, d4] => { results := [.lit (.bool false)], args := [d1, d2, d3, d4] }
  | _ => none }
def TopHintsWrongFalsely : Prop := topHintsRow.holds Try.pinned (OpenSpec.ofChange topHintsWrong)

/-- 'ostlerylaw.DevicesSays': WHATEVER THE INPUT: true; the input reads as it did. -/
def devicesSaysSpec : ChangeSpec := { name := "devicesSays", fn := fun _ => fun
  | [d1, d2] => { results := [.lit (.bool true)], args := [d1, d2] }
  | _ => none }
def devicesSaysRow : OpenClaim := { program := "yticmfflnenoplaa", sum := "d25a21c8ea0d9f0bf5524fb7e50abdc1f3c7a7ad28a64eecb80e47c669937208", func := "ostlery/ostlerylaw.DevicesSays", spec := "devicesSays", recurses := true, apart := false }
def DevicesSaysSaid : Prop := devicesSaysRow.holds Try.pinned (OpenSpec.ofChange devicesSaysSpec)

/-- ITS FALSE NEIGHBOUR: 'it returns false'. Refute it at one input. -/
def devicesSaysWrong : ChangeSpec := { name := "devicesSays", fn := fun _ => fun
  | [d1, d2] => { results := [.lit (.bool false)], args := [d1, d2] }
  | _ => none }
def DevicesSaysWrongFalsely : Prop := devicesSaysRow.holds Try.pinned (OpenSpec.ofChange devicesSaysWrong)

/- THE SECOND FORM. 'bulk': how many values and letters a reading holds, each counted each time it is reached (what is shared counts as often as it is met; a slice's spare places count too). A statement '..UptoSaid' is the law's where the arguments, and the package variables that the reading takes, are together of bulk at most 1048576: NARROWER than '..Said'. Prove '..Said' where nothing that the law and all that it calls make is longer than what came in: it says more and counts as full. Else prove '..UptoSaid'. A law counts once. -/
mutual
def uptoBulk {H : Type} : DataW H → Nat
  | .lit (.string bytes) => bytes.length + 1
  | .lit _ => 1
  | .nil => 1
  | .ptr d => uptoBulk d + 1
  | .slice elems spare => uptoBulkAll elems + uptoBulkAll spare + 1
  | .agg parts => uptoBulkAll parts + 1
  | .iface _ d => uptoBulk d + 1
  | .map entries => uptoBulkEntries entries + 1
  | .held _ => 1
def uptoBulkAll {H : Type} : List (DataW H) → Nat
  | [] => 0
  | d :: r => uptoBulk d + uptoBulkAll r
def uptoBulkEntries {H : Type} : List (Lit × DataW H) → Nat
  | [] => 0
  | x :: r => uptoBulkEntry x + uptoBulkEntries r
def uptoBulkEntry {H : Type} : Lit × DataW H → Nat
  | (.string bytes, d) => bytes.length + uptoBulk d + 1
  | (_, d) => uptoBulk d + 1
 end
def uptoSmall : (H : Type) → List (DataW H) → Bool := fun _ ds => decide (uptoBulkAll ds ≤ 1048576)
def OpenSpec.upto (s : _root_.Go.ChangeSpec) : _root_.Go.OpenSpec := { _root_.Go.OpenSpec.ofChange s with cond := some uptoSmall }

/-- 'ostlerylaw.DiskSays', WHERE WHAT IT READS IS OF BULK AT MOST 1048576: true; the input reads as it did. -/
def diskSaysUptoRow : OpenClaim := { program := "yticmfflnenoplaa", sum := "d25a21c8ea0d9f0bf5524fb7e50abdc1f3c7a7ad28a64eecb80e47c669937208", func := "ostlery/ostlerylaw.DiskSays", spec := "diskSays", apart := false, narrowed := true }
def DiskSaysUptoSaid : Prop := diskSaysUptoRow.holds Try.pinned (OpenSpec.upto diskSaysSpec)

/-- 'ostlerylaw.TopoSays', WHERE WHAT IT READS IS OF BULK AT MOST 1048576: true; the input reads as it did. -/
def topoSaysUptoRow : OpenClaim := { program := "yticmfflnenoplaa", sum := "d25a21c8ea0d9f0bf5524fb7e50abdc1f3c7a7ad28a64eecb80e47c669937208", func := "ostlery/ostlerylaw.TopoSays", spec := "topoSays", unfollowed := true, recurses := true, apart := false, narrowed := true }
def TopoSaysUptoSaid : Prop := topoSaysUptoRow.holds Try.pinned (OpenSpec.upto topoSaysSpec)

/-- 'ostlerylaw.HintsSays', WHERE WHAT IT READS IS OF BULK AT MOST 1048576: true; the input reads as it did. -/
def hintsSaysUptoRow : OpenClaim := { program := "yticmfflnenoplaa", sum := "d25a21c8ea0d9f0bf5524fb7e50abdc1f3c7a7ad28a64eecb80e47c669937208", func := "ostlery/ostlerylaw.HintsSays", spec := "hintsSays", recurses := true, apart := false, narrowed := true }
def HintsSaysUptoSaid : Prop := hintsSaysUptoRow.holds Try.pinned (OpenSpec.upto hintsSaysSpec)

/-- 'ostlerylaw.MergeSays', WHERE WHAT IT READS IS OF BULK AT MOST 1048576: true; the input reads as it did. -/
def mergeSaysUptoRow : OpenClaim := { program := "yticmfflnenoplaa", sum := "d25a21c8ea0d9f0bf5524fb7e50abdc1f3c7a7ad28a64eecb80e47c669937208", func := "ostlery/ostlerylaw.MergeSays", spec := "mergeSays", recurses := true, apart := false, narrowed := true }
def MergeSaysUptoSaid : Prop := mergeSaysUptoRow.holds Try.pinned (OpenSpec.upto mergeSaysSpec)

/-- 'ostlerylaw.QosSays', WHERE WHAT IT READS IS OF BULK AT MOST 1048576: true; the input reads as it did. -/
def qosSaysUptoRow : OpenClaim := { program := "yticmfflnenoplaa", sum := "d25a21c8ea0d9f0bf5524fb7e50abdc1f3c7a7ad28a64eecb80e47c669937208", func := "ostlery/ostlerylaw.QosSays", spec := "qosSays", apart := false, narrowed := true }
def QosSaysUptoSaid : Prop := qosSaysUptoRow.holds Try.pinned (OpenSpec.upto qosSaysSpec)

/-- 'ostlerylaw.EngineSays', WHERE WHAT IT READS IS OF BULK AT MOST 1048576: true; the input reads as it did. -/
def engineSaysUptoRow : OpenClaim := { program := "yticmfflnenoplaa", sum := "d25a21c8ea0d9f0bf5524fb7e50abdc1f3c7a7ad28a64eecb80e47c669937208", func := "ostlery/ostlerylaw.EngineSays", spec := "engineSays", inPlace := ["slices.overlaps[ostlery/api.Running]"], apart := false, narrowed := true }
def EngineSaysUptoSaid : Prop := engineSaysUptoRow.holds Try.pinned (OpenSpec.upto engineSaysSpec)

/-- 'ostlerylaw.EvictSays', WHERE WHAT IT READS IS OF BULK AT MOST 1048576: true; the input reads as it did. -/
def evictSaysUptoRow : OpenClaim := { program := "yticmfflnenoplaa", sum := "d25a21c8ea0d9f0bf5524fb7e50abdc1f3c7a7ad28a64eecb80e47c669937208", func := "ostlery/ostlerylaw.EvictSays", spec := "evictSays", unfollowed := true, recurses := true, apart := false, narrowed := true }
def EvictSaysUptoSaid : Prop := evictSaysUptoRow.holds Try.pinned (OpenSpec.upto evictSaysSpec)

/-- 'ostlerytop.TopHints', WHERE WHAT IT READS IS OF BULK AT MOST 1048576: true; the input reads as it did. -/
def topHintsUptoRow : OpenClaim := { program := "yticmfflnenoplaa", sum := "d25a21c8ea0d9f0bf5524fb7e50abdc1f3c7a7ad28a64eecb80e47c669937208", func := "ostlery/ostlerytop.TopHints", spec := "topHints", apart := false, narrowed := true }
def TopHintsUptoSaid : Prop := topHintsUptoRow.holds Try.pinned (OpenSpec.upto topHintsSpec)

/-- 'ostlerylaw.DevicesSays', WHERE WHAT IT READS IS OF BULK AT MOST 1048576: true; the input reads as it did. -/
def devicesSaysUptoRow : OpenClaim := { program := "yticmfflnenoplaa", sum := "d25a21c8ea0d9f0bf5524fb7e50abdc1f3c7a7ad28a64eecb80e47c669937208", func := "ostlery/ostlerylaw.DevicesSays", spec := "devicesSays", recurses := true, apart := false, narrowed := true }
def DevicesSaysUptoSaid : Prop := devicesSaysUptoRow.holds Try.pinned (OpenSpec.upto devicesSaysSpec)

end Rows
end Go.Proofs.Yticmfflnenoplaa
