/-
  No cell of these rows narrows 'for every input' (looked for: loops, veiled, ifaces, maps, wideKeys, modest, calm, conditions, laid).
  DERIVED. THE GIVEN ROWS OF THIS SEAT. 11 by the template 'for every input the law returns true; each argument reads behind the call as it read before'; 0 by the template 'total and deterministic' (their statements: YtemlnaipcdajeaaGreatTotals.lean).
  GIVEN WITH THE SEED: the statements are not yours to turn. If you find one false, say at which input.
  Laid BY PROGRAM, IN A SANDBOX (cutbox-rows.mjs): the forced cells as the released guide's own fill.sh prints them over the translation 0980b7b1e58902ee… (all of the seat's roots in one cut). By AI agents, Wed Nov 11 2026. No macro, syntax, notation, axiom, sorry.
-/
import Derived.Test.YtemlnaipcdajeaaGreatChecked
import GoSem.Claim
import GoSem.ClaimJoined
import GoSem.ClaimMapViews
import Derived.JoinedTies
import Derived.KernelRfl
namespace Go.Proofs.YtemlnaipcdajeaaGreat
/- THE CELL 'sum', in the pinned program and in every row, IS THE sha256 OF THE DUMP (.gsa) THAT YtemlnaipcdajeaaGreatProg.lean LOADS. Nothing in Lean hashes anything: it is a label: what it is worth is what the hold of that sum in a sandbox is worth. -/
noncomputable def Tryz.pinned : Pinned := { name := "ytemlnaipcdajeaagreat", sum := "0980b7b1e58902ee8fb962ec9b25e00a531f92deedad23a52adbc6c084f1794c", checked := Tryz.checked }
namespace Rows
def none {H : Type} : Left H := { results := [], args := [] }

/-- 'tarnlaw23.ViewTells': WHATEVER THE INPUT: true; the input reads as it did. -/
def viewTellsSpec : ChangeSpec := { name := "viewTells", fn := fun _ => fun
  | [d] => { results := [.lit (.bool true)], args := [d] }
  | _ => none }
def viewTellsRow : OpenClaim := { program := "ytemlnaipcdajeaagreat", sum := "0980b7b1e58902ee8fb962ec9b25e00a531f92deedad23a52adbc6c084f1794c", func := "tarn/tarnlaw23.ViewTells", spec := "viewTells", inPlace := ["math/bits.Add64"], unfollowed := true, recurses := true, apart := false }
def ViewTellsSaid : Prop := viewTellsRow.holds Tryz.pinned (OpenSpec.ofChange viewTellsSpec)

/-- ITS FALSE NEIGHBOUR: 'it returns false'. Refute it at one input. -/
def viewTellsWrong : ChangeSpec := { name := "viewTells", fn := fun _ => fun
  | [d] => { results := [.lit (.bool false)], args := [d] }
  | _ => none }
def ViewTellsWrongFalsely : Prop := viewTellsRow.holds Tryz.pinned (OpenSpec.ofChange viewTellsWrong)

/-- 'tarnlaw23.ViewFronts': WHATEVER THE INPUT: true; the input reads as it did. -/
def viewFrontsSpec : ChangeSpec := { name := "viewFronts", fn := fun _ => fun
  | [d] => { results := [.lit (.bool true)], args := [d] }
  | _ => none }
def viewFrontsRow : OpenClaim := { program := "ytemlnaipcdajeaagreat", sum := "0980b7b1e58902ee8fb962ec9b25e00a531f92deedad23a52adbc6c084f1794c", func := "tarn/tarnlaw23.ViewFronts", spec := "viewFronts", inPlace := ["math/bits.Add64"], unfollowed := true, recurses := true, apart := false }
def ViewFrontsSaid : Prop := viewFrontsRow.holds Tryz.pinned (OpenSpec.ofChange viewFrontsSpec)

/-- ITS FALSE NEIGHBOUR: 'it returns false'. Refute it at one input. -/
def viewFrontsWrong : ChangeSpec := { name := "viewFronts", fn := fun _ => fun
  | [d] => { results := [.lit (.bool false)], args := [d] }
  | _ => none }
def ViewFrontsWrongFalsely : Prop := viewFrontsRow.holds Tryz.pinned (OpenSpec.ofChange viewFrontsWrong)

/-- 'tarnlaw17.AdmitMays': WHATEVER THE INPUT: true; the input reads as it did. -/
def admitMaysSpec : ChangeSpec := { name := "admitMays", fn := fun _ => fun
  | [d] => { results := [.lit (.bool true)], args := [d] }
  | _ => none }
def admitMaysRow : OpenClaim := { program := "ytemlnaipcdajeaagreat", sum := "0980b7b1e58902ee8fb962ec9b25e00a531f92deedad23a52adbc6c084f1794c", func := "tarn/tarnlaw17.AdmitMays", spec := "admitMays", inPlace := ["math/bits.Add64"], unfollowed := true, recurses := true, apart := false }
def AdmitMaysSaid : Prop := admitMaysRow.holds Tryz.pinned (OpenSpec.ofChange admitMaysSpec)

/-- ITS FALSE NEIGHBOUR: 'it returns false'. Refute it at one input. -/
def admitMaysWrong : ChangeSpec := { name := "admitMays", fn := fun _ => fun
  | [d] => { results := [.lit (.bool false)], args := [d] }
  | _ => none }
def AdmitMaysWrongFalsely : Prop := admitMaysRow.holds Tryz.pinned (OpenSpec.ofChange admitMaysWrong)

/-- 'tarnlaw17.AdmitMakes': WHATEVER THE INPUT: true; the input reads as it did. -/
def admitMakesSpec : ChangeSpec := { name := "admitMakes", fn := fun _ => fun
  | [d] => { results := [.lit (.bool true)], args := [d] }
  | _ => none }
def admitMakesRow : OpenClaim := { program := "ytemlnaipcdajeaagreat", sum := "0980b7b1e58902ee8fb962ec9b25e00a531f92deedad23a52adbc6c084f1794c", func := "tarn/tarnlaw17.AdmitMakes", spec := "admitMakes", inPlace := ["math/bits.Add64"], unfollowed := true, recurses := true, apart := false }
def AdmitMakesSaid : Prop := admitMakesRow.holds Tryz.pinned (OpenSpec.ofChange admitMakesSpec)

/-- ITS FALSE NEIGHBOUR: 'it returns false'. Refute it at one input. -/
def admitMakesWrong : ChangeSpec := { name := "admitMakes", fn := fun _ => fun
  | [d] => { results := [.lit (.bool false)], args := [d] }
  | _ => none }
def AdmitMakesWrongFalsely : Prop := admitMakesRow.holds Tryz.pinned (OpenSpec.ofChange admitMakesWrong)

/-- 'tarnlaw17.AdmitStale': WHATEVER THE INPUT: true; the input reads as it did. -/
def admitStaleSpec : ChangeSpec := { name := "admitStale", fn := fun _ => fun
  | [d] => { results := [.lit (.bool true)], args := [d] }
  | _ => none }
def admitStaleRow : OpenClaim := { program := "ytemlnaipcdajeaagreat", sum := "0980b7b1e58902ee8fb962ec9b25e00a531f92deedad23a52adbc6c084f1794c", func := "tarn/tarnlaw17.AdmitStale", spec := "admitStale", inPlace := ["math/bits.Add64"], unfollowed := true, recurses := true, apart := false }
def AdmitStaleSaid : Prop := admitStaleRow.holds Tryz.pinned (OpenSpec.ofChange admitStaleSpec)

/-- ITS FALSE NEIGHBOUR: 'it returns false'. Refute it at one input. -/
def admitStaleWrong : ChangeSpec := { name := "admitStale", fn := fun _ => fun
  | [d] => { results := [.lit (.bool false)], args := [d] }
  | _ => none }
def AdmitStaleWrongFalsely : Prop := admitStaleRow.holds Tryz.pinned (OpenSpec.ofChange admitStaleWrong)

/-- 'tarnlaw17.AdmitGap': WHATEVER THE INPUT: true; the input reads as it did. -/
def admitGapSpec : ChangeSpec := { name := "admitGap", fn := fun _ => fun
  | [d] => { results := [.lit (.bool true)], args := [d] }
  | _ => none }
def admitGapRow : OpenClaim := { program := "ytemlnaipcdajeaagreat", sum := "0980b7b1e58902ee8fb962ec9b25e00a531f92deedad23a52adbc6c084f1794c", func := "tarn/tarnlaw17.AdmitGap", spec := "admitGap", inPlace := ["math/bits.Add64"], unfollowed := true, recurses := true, apart := false }
def AdmitGapSaid : Prop := admitGapRow.holds Tryz.pinned (OpenSpec.ofChange admitGapSpec)

/-- ITS FALSE NEIGHBOUR: 'it returns false'. Refute it at one input. -/
def admitGapWrong : ChangeSpec := { name := "admitGap", fn := fun _ => fun
  | [d] => { results := [.lit (.bool false)], args := [d] }
  | _ => none }
def AdmitGapWrongFalsely : Prop := admitGapRow.holds Tryz.pinned (OpenSpec.ofChange admitGapWrong)

/-- 'tarnlaw17.AdmitLow': WHATEVER THE INPUT: true; the input reads as it did. -/
def admitLowSpec : ChangeSpec := { name := "admitLow", fn := fun _ => fun
  | [d] => { results := [.lit (.bool true)], args := [d] }
  | _ => none }
def admitLowRow : OpenClaim := { program := "ytemlnaipcdajeaagreat", sum := "0980b7b1e58902ee8fb962ec9b25e00a531f92deedad23a52adbc6c084f1794c", func := "tarn/tarnlaw17.AdmitLow", spec := "admitLow", inPlace := ["math/bits.Add64"], unfollowed := true, recurses := true, apart := false }
def AdmitLowSaid : Prop := admitLowRow.holds Tryz.pinned (OpenSpec.ofChange admitLowSpec)

/-- ITS FALSE NEIGHBOUR: 'it returns false'. Refute it at one input. -/
def admitLowWrong : ChangeSpec := { name := "admitLow", fn := fun _ => fun
  | [d] => { results := [.lit (.bool false)], args := [d] }
  | _ => none }
def AdmitLowWrongFalsely : Prop := admitLowRow.holds Tryz.pinned (OpenSpec.ofChange admitLowWrong)

/-- 'tarnlaw17.AdmitThere': WHATEVER THE INPUT: true; the input reads as it did. -/
def admitThereSpec : ChangeSpec := { name := "admitThere", fn := fun _ => fun
  | [d] => { results := [.lit (.bool true)], args := [d] }
  | _ => none }
def admitThereRow : OpenClaim := { program := "ytemlnaipcdajeaagreat", sum := "0980b7b1e58902ee8fb962ec9b25e00a531f92deedad23a52adbc6c084f1794c", func := "tarn/tarnlaw17.AdmitThere", spec := "admitThere", inPlace := ["math/bits.Add64"], unfollowed := true, recurses := true, apart := false }
def AdmitThereSaid : Prop := admitThereRow.holds Tryz.pinned (OpenSpec.ofChange admitThereSpec)

/-- ITS FALSE NEIGHBOUR: 'it returns false'. Refute it at one input. -/
def admitThereWrong : ChangeSpec := { name := "admitThere", fn := fun _ => fun
  | [d] => { results := [.lit (.bool false)], args := [d] }
  | _ => none }
def AdmitThereWrongFalsely : Prop := admitThereRow.holds Tryz.pinned (OpenSpec.ofChange admitThereWrong)

/-- 'tarnlaw24.BuildFronts': WHATEVER THE INPUT: true; the input reads as it did. -/
def buildFrontsSpec : ChangeSpec := { name := "buildFronts", fn := fun _ => fun
  | [d] => { results := [.lit (.bool true)], args := [d] }
  | _ => none }
def buildFrontsRow : OpenClaim := { program := "ytemlnaipcdajeaagreat", sum := "0980b7b1e58902ee8fb962ec9b25e00a531f92deedad23a52adbc6c084f1794c", func := "tarn/tarnlaw24.BuildFronts", spec := "buildFronts", inPlace := ["math/bits.Add64", "math/bits.Sub64"], unfollowed := true, recurses := true, apart := false }
def BuildFrontsSaid : Prop := buildFrontsRow.holds Tryz.pinned (OpenSpec.ofChange buildFrontsSpec)

/-- ITS FALSE NEIGHBOUR: 'it returns false'. Refute it at one input. -/
def buildFrontsWrong : ChangeSpec := { name := "buildFronts", fn := fun _ => fun
  | [d] => { results := [.lit (.bool false)], args := [d] }
  | _ => none }
def BuildFrontsWrongFalsely : Prop := buildFrontsRow.holds Tryz.pinned (OpenSpec.ofChange buildFrontsWrong)

/-- 'tarnlaw16.PoolBytes': WHATEVER THE INPUT: true; the input reads as it did. -/
def poolBytesSpec : ChangeSpec := { name := "poolBytes", fn := fun _ => fun
  | [d] => { results := [.lit (.bool true)], args := [d] }
  | _ => none }
def poolBytesRow : OpenClaim := { program := "ytemlnaipcdajeaagreat", sum := "0980b7b1e58902ee8fb962ec9b25e00a531f92deedad23a52adbc6c084f1794c", func := "tarn/tarnlaw16.PoolBytes", spec := "poolBytes", inPlace := ["math/bits.Add64", "slices.overlaps[tarn/api.Tx]"], unfollowed := true, recurses := true, apart := false }
def PoolBytesSaid : Prop := poolBytesRow.holds Tryz.pinned (OpenSpec.ofChange poolBytesSpec)

/-- ITS FALSE NEIGHBOUR: 'it returns false'. Refute it at one input. -/
def poolBytesWrong : ChangeSpec := { name := "poolBytes", fn := fun _ => fun
  | [d] => { results := [.lit (.bool false)], args := [d] }
  | _ => none }
def PoolBytesWrongFalsely : Prop := poolBytesRow.holds Tryz.pinned (OpenSpec.ofChange poolBytesWrong)

/-- 'tarnlaw16.PoolChains': WHATEVER THE INPUT: true; the input reads as it did. -/
def poolChainsSpec : ChangeSpec := { name := "poolChains", fn := fun _ => fun
  | [d] => { results := [.lit (.bool true)], args := [d] }
  | _ => none }
def poolChainsRow : OpenClaim := { program := "ytemlnaipcdajeaagreat", sum := "0980b7b1e58902ee8fb962ec9b25e00a531f92deedad23a52adbc6c084f1794c", func := "tarn/tarnlaw16.PoolChains", spec := "poolChains", inPlace := ["math/bits.Add64", "slices.overlaps[tarn/api.Tx]"], unfollowed := true, recurses := true, apart := false }
def PoolChainsSaid : Prop := poolChainsRow.holds Tryz.pinned (OpenSpec.ofChange poolChainsSpec)

/-- ITS FALSE NEIGHBOUR: 'it returns false'. Refute it at one input. -/
def poolChainsWrong : ChangeSpec := { name := "poolChains", fn := fun _ => fun
  | [d] => { results := [.lit (.bool false)], args := [d] }
  | _ => none }
def PoolChainsWrongFalsely : Prop := poolChainsRow.holds Tryz.pinned (OpenSpec.ofChange poolChainsWrong)

/- THE SECOND FORM. 'bulk': how many values and letters a reading holds, each counted each time it is reached (what is shared counts as often as it is met; a slice's spare places count too). A statement '..UptoSaid' is the law's where the arguments, and the package variables that the reading takes, are together of bulk at most 1048576: NARROWER than '..Said'. Prove '..Said' where nothing that the law and all that it calls make is longer than what came in: it says more and counts as full. Else prove '..UptoSaid'. A law counts once. -/
mutual
def uptoBulk {H : Type} : DataW H → Nat
  | .lit (.string bytes) => bytes.length + 1
  | .lit _ => 1
  | .nil => 1
  | .ptr d => uptoBulk d + 1
  | .slice elems spare => uptoBulkAll elems + uptoBulkAll spare + 1
  | .agg parts => uptoBulkAll parts + 1
  | .iface _ d => uptoBulk d + 1
  | .map entries => uptoBulkEntries entries + 1
  | .held _ => 1
def uptoBulkAll {H : Type} : List (DataW H) → Nat
  | [] => 0
  | d :: r => uptoBulk d + uptoBulkAll r
def uptoBulkEntries {H : Type} : List (Lit × DataW H) → Nat
  | [] => 0
  | x :: r => uptoBulkEntry x + uptoBulkEntries r
def uptoBulkEntry {H : Type} : Lit × DataW H → Nat
  | (.string bytes, d) => bytes.length + uptoBulk d + 1
  | (_, d) => uptoBulk d + 1
 end
def uptoSmall : (H : Type) → List (DataW H) → Bool := fun _ ds => decide (uptoBulkAll ds ≤ 1048576)
def OpenSpec.upto (s : _root_.Go.ChangeSpec) : _root_.Go.OpenSpec := { _root_.Go.OpenSpec.ofChange s with cond := some uptoSmall }

/-- 'tarnlaw23.ViewTells', WHERE WHAT IT READS IS OF BULK AT MOST 1048576: true; the input reads as it did. -/
def viewTellsUptoRow : OpenClaim := { program := "ytemlnaipcdajeaagreat", sum := "0980b7b1e58902ee8fb962ec9b25e00a531f92deedad23a52adbc6c084f1794c", func := "tarn/tarnlaw23.ViewTells", spec := "viewTells", inPlace := ["math/bits.Add64"], unfollowed := true, recurses := true, apart := false, narrowed := true }
def ViewTellsUptoSaid : Prop := viewTellsUptoRow.holds Tryz.pinned (OpenSpec.upto viewTellsSpec)

/-- 'tarnlaw23.ViewFronts', WHERE WHAT IT READS IS OF BULK AT MOST 1048576: true; the input reads as it did. -/
def viewFrontsUptoRow : OpenClaim := { program := "ytemlnaipcdajeaagreat", sum := "0980b7b1e58902ee8fb962ec9b25e00a531f92deedad23a52adbc6c084f1794c", func := "tarn/tarnlaw23.ViewFronts", spec := "viewFronts", inPlace := ["math/bits.Add64"], unfollowed := true, recurses := true, apart := false, narrowed := true }
def ViewFrontsUptoSaid : Prop := viewFrontsUptoRow.holds Tryz.pinned (OpenSpec.upto viewFrontsSpec)

/-- 'tarnlaw17.AdmitMays', WHERE WHAT IT READS IS OF BULK AT MOST 1048576: true; the input reads as it did. -/
def admitMaysUptoRow : OpenClaim := { program := "ytemlnaipcdajeaagreat", sum := "0980b7b1e58902ee8fb962ec9b25e00a531f92deedad23a52adbc6c084f1794c", func := "tarn/tarnlaw17.AdmitMays", spec := "admitMays", inPlace := ["math/bits.Add64"], unfollowed := true, recurses := true, apart := false, narrowed := true }
def AdmitMaysUptoSaid : Prop := admitMaysUptoRow.holds Tryz.pinned (OpenSpec.upto admitMaysSpec)

/-- 'tarnlaw17.AdmitMakes', WHERE WHAT IT READS IS OF BULK AT MOST 1048576: true; the input reads as it did. -/
def admitMakesUptoRow : OpenClaim := { program := "ytemlnaipcdajeaagreat", sum := "0980b7b1e58902ee8fb962ec9b25e00a531f92deedad23a52adbc6c084f1794c", func := "tarn/tarnlaw17.AdmitMakes", spec := "admitMakes", inPlace := ["math/bits.Add64"], unfollowed := true, recurses := true, apart := false, narrowed := true }
def AdmitMakesUptoSaid : Prop := admitMakesUptoRow.holds Tryz.pinned (OpenSpec.upto admitMakesSpec)

/-- 'tarnlaw17.AdmitStale', WHERE WHAT IT READS IS OF BULK AT MOST 1048576: true; the input reads as it did. -/
def admitStaleUptoRow : OpenClaim := { program := "ytemlnaipcdajeaagreat", sum := "0980b7b1e58902ee8fb962ec9b25e00a531f92deedad23a52adbc6c084f1794c", func := "tarn/tarnlaw17.AdmitStale", spec := "admitStale", inPlace := ["math/bits.Add64"], unfollowed := true, recurses := true, apart := false, narrowed := true }
def AdmitStaleUptoSaid : Prop := admitStaleUptoRow.holds Tryz.pinned (OpenSpec.upto admitStaleSpec)

/-- 'tarnlaw17.AdmitGap', WHERE WHAT IT READS IS OF BULK AT MOST 1048576: true; the input reads as it did. -/
def admitGapUptoRow : OpenClaim := { program := "ytemlnaipcdajeaagreat", sum := "0980b7b1e58902ee8fb962ec9b25e00a531f92deedad23a52adbc6c084f1794c", func := "tarn/tarnlaw17.AdmitGap", spec := "admitGap", inPlace := ["math/bits.Add64"], unfollowed := true, recurses := true, apart := false, narrowed := true }
def AdmitGapUptoSaid : Prop := admitGapUptoRow.holds Tryz.pinned (OpenSpec.upto admitGapSpec)

/-- 'tarnlaw17.AdmitLow', WHERE WHAT IT READS IS OF BULK AT MOST 1048576: true; the input reads as it did. -/
def admitLowUptoRow : OpenClaim := { program := "ytemlnaipcdajeaagreat", sum := "0980b7b1e58902ee8fb962ec9b25e00a531f92deedad23a52adbc6c084f1794c", func := "tarn/tarnlaw17.AdmitLow", spec := "admitLow", inPlace := ["math/bits.Add64"], unfollowed := true, recurses := true, apart := false, narrowed := true }
def AdmitLowUptoSaid : Prop := admitLowUptoRow.holds Tryz.pinned (OpenSpec.upto admitLowSpec)

/-- 'tarnlaw17.AdmitThere', WHERE WHAT IT READS IS OF BULK AT MOST 1048576: true; the input reads as it did. -/
def admitThereUptoRow : OpenClaim := { program := "ytemlnaipcdajeaagreat", sum := "0980b7b1e58902ee8fb962ec9b25e00a531f92deedad23a52adbc6c084f1794c", func := "tarn/tarnlaw17.AdmitThere", spec := "admitThere", inPlace := ["math/bits.Add64"], unfollowed := true, recurses := true, apart := false, narrowed := true }
def AdmitThereUptoSaid : Prop := admitThereUptoRow.holds Tryz.pinned (OpenSpec.upto admitThereSpec)

/-- 'tarnlaw24.BuildFronts', WHERE WHAT IT READS IS OF BULK AT MOST 1048576: true; the input reads as it did. -/
def buildFrontsUptoRow : OpenClaim := { program := "ytemlnaipcdajeaagreat", sum := "0980b7b1e58902ee8fb962ec9b25e00a531f92deedad23a52adbc6c084f1794c", func := "tarn/tarnlaw24.BuildFronts", spec := "buildFronts", inPlace := ["math/bits.Add64", "math/bits.Sub64"], unfollowed := true, recurses := true, apart := false, narrowed := true }
def BuildFrontsUptoSaid : Prop := buildFrontsUptoRow.holds Tryz.pinned (OpenSpec.upto buildFrontsSpec)

/-- 'tarnlaw16.PoolBytes', WHERE WHAT IT READS IS OF BULK AT MOST 1048576: true; the input reads as it did. -/
def poolBytesUptoRow : OpenClaim := { program := "ytemlnaipcdajeaagreat", sum := "0980b7b1e58902ee8fb962ec9b25e00a531f92deedad23a52adbc6c084f1794c", func := "tarn/tarnlaw16.PoolBytes", spec := "poolBytes", inPlace := ["math/bits.Add64", "slices.overlaps[tarn/api.Tx]"], unfollowed := true, recurses := true, apart := false, narrowed := true }
def PoolBytesUptoSaid : Prop := poolBytesUptoRow.holds Tryz.pinned (OpenSpec.upto poolBytesSpec)

/-- 'tarnlaw16.PoolChains', WHERE WHAT IT READS IS OF BULK AT MOST 1048576: true; the input reads as it did. -/
def poolChainsUptoRow : OpenClaim := { program := "ytemlnaipcdajeaagreat", sum := "0980b7b1e58902ee8fb962ec9b25e00a531f92deedad23a52adbc6c084f1794c", func := "tarn/tarnlaw16.PoolChains", spec := "poolChains", inPlace := ["math/bits.Add64", "slices.overlaps[tarn/api.Tx]"], unfollowed := true, recurses := true, apart := false, narrowed := true }
def PoolChainsUptoSaid : Prop := poolChainsUptoRow.holds Tryz.pinned (OpenSpec.upto poolChainsSpec)

end Rows
end Go.Proofs.YtemlnaipcdajeaaGreat
