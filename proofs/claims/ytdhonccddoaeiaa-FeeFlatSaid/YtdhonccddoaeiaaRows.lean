/-
  No cell of these rows narrows 'for every input' (looked for: loops, veiled, ifaces, maps, wideKeys, modest, calm, conditions, laid).
  DERIVED. THE GIVEN ROWS OF THIS SEAT. 7 by the template 'for every input the law returns true; each argument reads behind the call as it read before'; 0 by the template 'total and deterministic' (their statements: YtdhonccddoaeiaaTotals.lean).
  GIVEN WITH THE SEED: the statements are not yours to turn. If you find one false, say at which input.
  Laid BY PROGRAM, IN A SANDBOX (cutbox-rows.mjs): the forced cells as the released guide's own fill.sh prints them over the translation b42cfa1ee68fec2b… (all of the seat's roots in one cut). By AI agents, Wed Nov 11 2026. No macro, syntax, notation, axiom, sorry.
-/
import Derived.Test.YtdhonccddoaeiaaChecked
import GoSem.Claim
import GoSem.ClaimJoined
import GoSem.ClaimMapViews
import Derived.JoinedTies
import Derived.KernelRfl
namespace Go.Proofs.Ytdhonccddoaeiaa
/- THE CELL 'sum', in the pinned program and in every row, IS THE sha256 OF THE DUMP (.gsa) THAT YtdhonccddoaeiaaProg.lean LOADS. Nothing in Lean hashes anything: it is a label: what it is worth is what the hold of that sum in a sandbox is worth. -/
noncomputable def Try.pinned : Pinned := { name := "ytdhonccddoaeiaa", sum := "b42cfa1ee68fec2b00c66fc70a80380031cee14d5838f49ef915e582511350a4", checked := Try.checked }
namespace Rows
def none {H : Type} : Left H := { results := [], args := [] }

/-- 'tarnlaw2.FeeFakes': WHATEVER THE INPUT: true; the input reads as it did. -/
def feeFakesSpec : ChangeSpec := { name := "feeFakes", fn := fun _ => fun
  | [d] => { results := [.lit (.bool true)], args := [d] }
  | _ => none }
def feeFakesRow : OpenClaim := { program := "ytdhonccddoaeiaa", sum := "b42cfa1ee68fec2b00c66fc70a80380031cee14d5838f49ef915e582511350a4", func := "tarn/tarnlaw2.FeeFakes", spec := "feeFakes", inPlace := ["math/bits.Add64", "math/bits.Sub64"], named := ["math/bits.divideError", "math/bits.overflowError"], apart := false }
def FeeFakesSaid : Prop := feeFakesRow.holds Try.pinned (OpenSpec.ofChange feeFakesSpec)

/-- ITS FALSE NEIGHBOUR: 'it returns false'. Refute it at one input. -/
def feeFakesWrong : ChangeSpec := { name := "feeFakes", fn := fun _ => fun
  | [d] => { results := [.lit (.bool false)], args := [d] }
  | _ => none }
def FeeFakesWrongFalsely : Prop := feeFakesRow.holds Try.pinned (OpenSpec.ofChange feeFakesWrong)

/-- 'tarnlaw2.FeeBlobs': WHATEVER THE INPUT: true; the input reads as it did. -/
def feeBlobsSpec : ChangeSpec := { name := "feeBlobs", fn := fun _ => fun
  | [d] => { results := [.lit (.bool true)], args := [d] }
  | _ => none }
def feeBlobsRow : OpenClaim := { program := "ytdhonccddoaeiaa", sum := "b42cfa1ee68fec2b00c66fc70a80380031cee14d5838f49ef915e582511350a4", func := "tarn/tarnlaw2.FeeBlobs", spec := "feeBlobs", inPlace := ["math/bits.Add64", "math/bits.Sub64"], named := ["math/bits.divideError", "math/bits.overflowError"], apart := false }
def FeeBlobsSaid : Prop := feeBlobsRow.holds Try.pinned (OpenSpec.ofChange feeBlobsSpec)

/-- ITS FALSE NEIGHBOUR: 'it returns false'. Refute it at one input. -/
def feeBlobsWrong : ChangeSpec := { name := "feeBlobs", fn := fun _ => fun
  | [d] => { results := [.lit (.bool false)], args := [d] }
  | _ => none }
def FeeBlobsWrongFalsely : Prop := feeBlobsRow.holds Try.pinned (OpenSpec.ofChange feeBlobsWrong)

/-- 'tarnlaw2.FeeExcess': WHATEVER THE INPUT: true; the input reads as it did. -/
def feeExcessSpec : ChangeSpec := { name := "feeExcess", fn := fun _ => fun
  | [d] => { results := [.lit (.bool true)], args := [d] }
  | _ => none }
def feeExcessRow : OpenClaim := { program := "ytdhonccddoaeiaa", sum := "b42cfa1ee68fec2b00c66fc70a80380031cee14d5838f49ef915e582511350a4", func := "tarn/tarnlaw2.FeeExcess", spec := "feeExcess", inPlace := ["math/bits.Add64", "math/bits.Sub64"], named := ["math/bits.divideError", "math/bits.overflowError"], apart := false }
def FeeExcessSaid : Prop := feeExcessRow.holds Try.pinned (OpenSpec.ofChange feeExcessSpec)

/-- ITS FALSE NEIGHBOUR: 'it returns false'. Refute it at one input. -/
def feeExcessWrong : ChangeSpec := { name := "feeExcess", fn := fun _ => fun
  | [d] => { results := [.lit (.bool false)], args := [d] }
  | _ => none }
def FeeExcessWrongFalsely : Prop := feeExcessRow.holds Try.pinned (OpenSpec.ofChange feeExcessWrong)

/-- 'tarnlaw2.FeeRises': WHATEVER THE INPUT: true; the input reads as it did. -/
def feeRisesSpec : ChangeSpec := { name := "feeRises", fn := fun _ => fun
  | [d] => { results := [.lit (.bool true)], args := [d] }
  | _ => none }
def feeRisesRow : OpenClaim := { program := "ytdhonccddoaeiaa", sum := "b42cfa1ee68fec2b00c66fc70a80380031cee14d5838f49ef915e582511350a4", func := "tarn/tarnlaw2.FeeRises", spec := "feeRises", inPlace := ["math/bits.Add64", "math/bits.Sub64"], named := ["math/bits.divideError", "math/bits.overflowError"], apart := false }
def FeeRisesSaid : Prop := feeRisesRow.holds Try.pinned (OpenSpec.ofChange feeRisesSpec)

/-- ITS FALSE NEIGHBOUR: 'it returns false'. Refute it at one input. -/
def feeRisesWrong : ChangeSpec := { name := "feeRises", fn := fun _ => fun
  | [d] => { results := [.lit (.bool false)], args := [d] }
  | _ => none }
def FeeRisesWrongFalsely : Prop := feeRisesRow.holds Try.pinned (OpenSpec.ofChange feeRisesWrong)

/-- 'tarnlaw2.FeeSteps': WHATEVER THE INPUT: true; the input reads as it did. -/
def feeStepsSpec : ChangeSpec := { name := "feeSteps", fn := fun _ => fun
  | [d] => { results := [.lit (.bool true)], args := [d] }
  | _ => none }
def feeStepsRow : OpenClaim := { program := "ytdhonccddoaeiaa", sum := "b42cfa1ee68fec2b00c66fc70a80380031cee14d5838f49ef915e582511350a4", func := "tarn/tarnlaw2.FeeSteps", spec := "feeSteps", inPlace := ["math/bits.Add64", "math/bits.Sub64"], named := ["math/bits.divideError", "math/bits.overflowError"], apart := false }
def FeeStepsSaid : Prop := feeStepsRow.holds Try.pinned (OpenSpec.ofChange feeStepsSpec)

/-- ITS FALSE NEIGHBOUR: 'it returns false'. Refute it at one input. -/
def feeStepsWrong : ChangeSpec := { name := "feeSteps", fn := fun _ => fun
  | [d] => { results := [.lit (.bool false)], args := [d] }
  | _ => none }
def FeeStepsWrongFalsely : Prop := feeStepsRow.holds Try.pinned (OpenSpec.ofChange feeStepsWrong)

/-- 'tarnlaw2.FeeNexts': WHATEVER THE INPUT: true; the input reads as it did. -/
def feeNextsSpec : ChangeSpec := { name := "feeNexts", fn := fun _ => fun
  | [d] => { results := [.lit (.bool true)], args := [d] }
  | _ => none }
def feeNextsRow : OpenClaim := { program := "ytdhonccddoaeiaa", sum := "b42cfa1ee68fec2b00c66fc70a80380031cee14d5838f49ef915e582511350a4", func := "tarn/tarnlaw2.FeeNexts", spec := "feeNexts", inPlace := ["math/bits.Add64", "math/bits.Sub64"], named := ["math/bits.divideError", "math/bits.overflowError"], apart := false }
def FeeNextsSaid : Prop := feeNextsRow.holds Try.pinned (OpenSpec.ofChange feeNextsSpec)

/-- ITS FALSE NEIGHBOUR: 'it returns false'. Refute it at one input. -/
def feeNextsWrong : ChangeSpec := { name := "feeNexts", fn := fun _ => fun
  | [d] => { results := [.lit (.bool false)], args := [d] }
  | _ => none }
def FeeNextsWrongFalsely : Prop := feeNextsRow.holds Try.pinned (OpenSpec.ofChange feeNextsWrong)

/-- 'tarnlaw2.FeeFlat': WHATEVER THE INPUT: true; the input reads as it did. -/
def feeFlatSpec : ChangeSpec := { name := "feeFlat", fn := fun _ => fun
  | [d] => { results := [.lit (.bool true)], args := [d] }
  | _ => none }
def feeFlatRow : OpenClaim := { program := "ytdhonccddoaeiaa", sum := "b42cfa1ee68fec2b00c66fc70a80380031cee14d5838f49ef915e582511350a4", func := "tarn/tarnlaw2.FeeFlat", spec := "feeFlat", inPlace := ["math/bits.Add64", "math/bits.Sub64"], named := ["math/bits.divideError", "math/bits.overflowError"], apart := false }
def FeeFlatSaid : Prop := feeFlatRow.holds Try.pinned (OpenSpec.ofChange feeFlatSpec)

/-- ITS FALSE NEIGHBOUR: 'it returns false'. Refute it at one input. -/
def feeFlatWrong : ChangeSpec := { name := "feeFlat", fn := fun _ => fun
  | [d] => { results := [.lit (.bool false)], args := [d] }
  | _ => none }
def FeeFlatWrongFalsely : Prop := feeFlatRow.holds Try.pinned (OpenSpec.ofChange feeFlatWrong)

/- THE SECOND FORM. 'bulk': how many values and letters a reading holds, each counted each time it is reached (what is shared counts as often as it is met; a slice's spare places count too). A statement '..UptoSaid' is the law's where the arguments, and the package variables that the reading takes, are together of bulk at most 1048576: NARROWER than '..Said'. Prove '..Said' where nothing that the law and all that it calls make is longer than what came in: it says more and counts as full. Else prove '..UptoSaid'. A law counts once. -/
mutual
def uptoBulk {H : Type} : DataW H → Nat
  | .lit (.string bytes) => bytes.length + 1
  | .lit _ => 1
  | .nil => 1
  | .ptr d => uptoBulk d + 1
  | .slice elems spare => uptoBulkAll elems + uptoBulkAll spare + 1
  | .agg parts => uptoBulkAll parts + 1
  | .iface _ d => uptoBulk d + 1
  | .map entries => uptoBulkEntries entries + 1
  | .held _ => 1
def uptoBulkAll {H : Type} : List (DataW H) → Nat
  | [] => 0
  | d :: r => uptoBulk d + uptoBulkAll r
def uptoBulkEntries {H : Type} : List (Lit × DataW H) → Nat
  | [] => 0
  | x :: r => uptoBulkEntry x + uptoBulkEntries r
def uptoBulkEntry {H : Type} : Lit × DataW H → Nat
  | (.string bytes, d) => bytes.length + uptoBulk d + 1
  | (_, d) => uptoBulk d + 1
 end
def uptoSmall : (H : Type) → List (DataW H) → Bool := fun _ ds => decide (uptoBulkAll ds ≤ 1048576)
def OpenSpec.upto (s : _root_.Go.ChangeSpec) : _root_.Go.OpenSpec := { _root_.Go.OpenSpec.ofChange s with cond := some uptoSmall }

/-- 'tarnlaw2.FeeFakes', WHERE WHAT IT READS IS OF BULK AT MOST 1048576: true; the input reads as it did. -/
def feeFakesUptoRow : OpenClaim := { program := "ytdhonccddoaeiaa", sum := "b42cfa1ee68fec2b00c66fc70a80380031cee14d5838f49ef915e582511350a4", func := "tarn/tarnlaw2.FeeFakes", spec := "feeFakes", inPlace := ["math/bits.Add64", "math/bits.Sub64"], named := ["math/bits.divideError", "math/bits.overflowError"], apart := false, narrowed := true }
def FeeFakesUptoSaid : Prop := feeFakesUptoRow.holds Try.pinned (OpenSpec.upto feeFakesSpec)

/-- 'tarnlaw2.FeeBlobs', WHERE WHAT IT READS IS OF BULK AT MOST 1048576: true; the input reads as it did. -/
def feeBlobsUptoRow : OpenClaim := { program := "ytdhonccddoaeiaa", sum := "b42cfa1ee68fec2b00c66fc70a80380031cee14d5838f49ef915e582511350a4", func := "tarn/tarnlaw2.FeeBlobs", spec := "feeBlobs", inPlace := ["math/bits.Add64", "math/bits.Sub64"], named := ["math/bits.divideError", "math/bits.overflowError"], apart := false, narrowed := true }
def FeeBlobsUptoSaid : Prop := feeBlobsUptoRow.holds Try.pinned (OpenSpec.upto feeBlobsSpec)

/-- 'tarnlaw2.FeeExcess', WHERE WHAT IT READS IS OF BULK AT MOST 1048576: true; the input reads as it did. -/
def feeExcessUptoRow : OpenClaim := { program := "ytdhonccddoaeiaa", sum := "b42cfa1ee68fec2b00c66fc70a80380031cee14d5838f49ef915e582511350a4", func := "tarn/tarnlaw2.FeeExcess", spec := "feeExcess", inPlace := ["math/bits.Add64", "math/bits.Sub64"], named := ["math/bits.divideError", "math/bits.overflowError"], apart := false, narrowed := true }
def FeeExcessUptoSaid : Prop := feeExcessUptoRow.holds Try.pinned (OpenSpec.upto feeExcessSpec)

/-- 'tarnlaw2.FeeRises', WHERE WHAT IT READS IS OF BULK AT MOST 1048576: true; the input reads as it did. -/
def feeRisesUptoRow : OpenClaim := { program := "ytdhonccddoaeiaa", sum := "b42cfa1ee68fec2b00c66fc70a80380031cee14d5838f49ef915e582511350a4", func := "tarn/tarnlaw2.FeeRises", spec := "feeRises", inPlace := ["math/bits.Add64", "math/bits.Sub64"], named := ["math/bits.divideError", "math/bits.overflowError"], apart := false, narrowed := true }
def FeeRisesUptoSaid : Prop := feeRisesUptoRow.holds Try.pinned (OpenSpec.upto feeRisesSpec)

/-- 'tarnlaw2.FeeSteps', WHERE WHAT IT READS IS OF BULK AT MOST 1048576: true; the input reads as it did. -/
def feeStepsUptoRow : OpenClaim := { program := "ytdhonccddoaeiaa", sum := "b42cfa1ee68fec2b00c66fc70a80380031cee14d5838f49ef915e582511350a4", func := "tarn/tarnlaw2.FeeSteps", spec := "feeSteps", inPlace := ["math/bits.Add64", "math/bits.Sub64"], named := ["math/bits.divideError", "math/bits.overflowError"], apart := false, narrowed := true }
def FeeStepsUptoSaid : Prop := feeStepsUptoRow.holds Try.pinned (OpenSpec.upto feeStepsSpec)

/-- 'tarnlaw2.FeeNexts', WHERE WHAT IT READS IS OF BULK AT MOST 1048576: true; the input reads as it did. -/
def feeNextsUptoRow : OpenClaim := { program := "ytdhonccddoaeiaa", sum := "b42cfa1ee68fec2b00c66fc70a80380031cee14d5838f49ef915e582511350a4", func := "tarn/tarnlaw2.FeeNexts", spec := "feeNexts", inPlace := ["math/bits.Add64", "math/bits.Sub64"], named := ["math/bits.divideError", "math/bits.overflowError"], apart := false, narrowed := true }
def FeeNextsUptoSaid : Prop := feeNextsUptoRow.holds Try.pinned (OpenSpec.upto feeNextsSpec)

/-- 'tarnlaw2.FeeFlat', WHERE WHAT IT READS IS OF BULK AT MOST 1048576: true; the input reads as it did. -/
def feeFlatUptoRow : OpenClaim := { program := "ytdhonccddoaeiaa", sum := "b42cfa1ee68fec2b00c66fc70a80380031cee14d5838f49ef915e582511350a4", func := "tarn/tarnlaw2.FeeFlat", spec := "feeFlat", inPlace := ["math/bits.Add64", "math/bits.Sub64"], named := ["math/bits.divideError", "math/bits.overflowError"], apart := false, narrowed := true }
def FeeFlatUptoSaid : Prop := feeFlatUptoRow.holds Try.pinned (OpenSpec.upto feeFlatSpec)

end Rows
end Go.Proofs.Ytdhonccddoaeiaa
