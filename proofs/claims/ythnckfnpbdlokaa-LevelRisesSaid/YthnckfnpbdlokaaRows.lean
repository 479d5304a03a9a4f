/-
  No cell of these rows narrows 'for every input' (looked for: loops, veiled, ifaces, maps, wideKeys, modest, calm, conditions, laid).
  DERIVED. THE GIVEN ROWS OF THIS SEAT. 14 by the template 'for every input the law returns true; each argument reads behind the call as it read before'; 0 by the template 'total and deterministic' (their statements: YthnckfnpbdlokaaTotals.lean).
  GIVEN WITH THE SEED: the statements are not yours to turn. If you find one false, say at which input.
  Laid BY PROGRAM, IN A SANDBOX (cutbox-rows.mjs): the forced cells as the released guide's own fill.sh prints them over the translation 2013440fb3082686… (all of the seat's roots in one cut). By AI agents, Wed Nov 11 2026. No macro, syntax, notation, axiom, sorry.
-/
import Derived.Test.YthnckfnpbdlokaaChecked
import GoSem.Claim
import GoSem.ClaimJoined
import GoSem.ClaimMapViews
import Derived.JoinedTies
import Derived.KernelRfl
namespace Go.Proofs.Ythnckfnpbdlokaa
/- THE CELL 'sum', in the pinned program and in every row, IS THE sha256 OF THE DUMP (.gsa) THAT YthnckfnpbdlokaaProg.lean LOADS. Nothing in Lean hashes anything: it is a label: what it is worth is what the hold of that sum in a sandbox is worth. -/
noncomputable def Try.pinned : Pinned := { name := "ythnckfnpbdlokaa", sum := "2013440fb3082686ec445705869826f3f87f4039765ca5334d957eab635e7f60", checked := Try.checked }
namespace Rows
def none {H : Type} : Left H := { results := [], args := [] }

/-- 'tarnlaw1.NumTexts': WHATEVER THE INPUT: true; the input reads as it did. -/
def numTextsSpec : ChangeSpec := { name := "numTexts", fn := fun _ => fun
  | [d] => { results := [.lit (.bool true)], args := [d] }
  | _ => none }
def numTextsRow : OpenClaim := { program := "ythnckfnpbdlokaa", sum := "2013440fb3082686ec445705869826f3f87f4039765ca5334d957eab635e7f60", func := "tarn/tarnlaw1.NumTexts", spec := "numTexts", apart := false }
def NumTextsSaid : Prop := numTextsRow.holds Try.pinned (OpenSpec.ofChange numTextsSpec)

/-- ITS FALSE NEIGHBOUR: 'it returns false'. Refute it at one input. -/
def numTextsWrong : ChangeSpec := { name := "numTexts", fn := fun _ => fun
  | [d] => { results := [.lit (.bool false)], args := [d] }
  | _ => none }
def NumTextsWrongFalsely : Prop := numTextsRow.holds Try.pinned (OpenSpec.ofChange numTextsWrong)

/-- 'tarnlaw1.NumTakes': WHATEVER THE INPUT: true; the input reads as it did. -/
def numTakesSpec : ChangeSpec := { name := "numTakes", fn := fun _ => fun
  | [d] => { results := [.lit (.bool true)], args := [d] }
  | _ => none }
def numTakesRow : OpenClaim := { program := "ythnckfnpbdlokaa", sum := "2013440fb3082686ec445705869826f3f87f4039765ca5334d957eab635e7f60", func := "tarn/tarnlaw1.NumTakes", spec := "numTakes", apart := false }
def NumTakesSaid : Prop := numTakesRow.holds Try.pinned (OpenSpec.ofChange numTakesSpec)

/-- ITS FALSE NEIGHBOUR: 'it returns false'. Refute it at one input. -/
def numTakesWrong : ChangeSpec := { name := "numTakes", fn := fun _ => fun
  | [d] => { results := [.lit (.bool false)], args := [d] }
  | _ => none }
def NumTakesWrongFalsely : Prop := numTakesRow.holds Try.pinned (OpenSpec.ofChange numTakesWrong)

/-- 'tarnlaw1.NumBits': WHATEVER THE INPUT: true; the input reads as it did. -/
def numBitsSpec : ChangeSpec := { name := "numBits", fn := fun _ => fun
  | [d] => { results := [.lit (.bool true)], args := [d] }
  | _ => none }
def numBitsRow : OpenClaim := { program := "ythnckfnpbdlokaa", sum := "2013440fb3082686ec445705869826f3f87f4039765ca5334d957eab635e7f60", func := "tarn/tarnlaw1.NumBits", spec := "numBits", apart := false }
def NumBitsSaid : Prop := numBitsRow.holds Try.pinned (OpenSpec.ofChange numBitsSpec)

/-- ITS FALSE NEIGHBOUR: 'it returns false'. Refute it at one input. -/
def numBitsWrong : ChangeSpec := { name := "numBits", fn := fun _ => fun
  | [d] => { results := [.lit (.bool false)], args := [d] }
  | _ => none }
def NumBitsWrongFalsely : Prop := numBitsRow.holds Try.pinned (OpenSpec.ofChange numBitsWrong)

/-- 'tarnlaw3.LevelDists': WHATEVER THE INPUT: true; the input reads as it did. -/
def levelDistsSpec : ChangeSpec := { name := "levelDists", fn := fun _ => fun
  | [d] => { results := [.lit (.bool true)], args := [d] }
  | _ => none }
def levelDistsRow : OpenClaim := { program := "ythnckfnpbdlokaa", sum := "2013440fb3082686ec445705869826f3f87f4039765ca5334d957eab635e7f60", func := "tarn/tarnlaw3.LevelDists", spec := "levelDists", unfollowed := true, recurses := true, apart := false }
def LevelDistsSaid : Prop := levelDistsRow.holds Try.pinned (OpenSpec.ofChange levelDistsSpec)

/-- ITS FALSE NEIGHBOUR: 'it returns false'. Refute it at one input. -/
def levelDistsWrong : ChangeSpec := { name := "levelDists", fn := fun _ => fun
  | [d] => { results := [.lit (.bool false)], args := [d] }
  | _ => none }
def LevelDistsWrongFalsely : Prop := levelDistsRow.holds Try.pinned (OpenSpec.ofChange levelDistsWrong)

/-- 'tarnlaw3.LevelDoubles': WHATEVER THE INPUT: true; the input reads as it did. -/
def levelDoublesSpec : ChangeSpec := { name := "levelDoubles", fn := fun _ => fun
  | [d] => { results := [.lit (.bool true)], args := [d] }
  | _ => none }
def levelDoublesRow : OpenClaim := { program := "ythnckfnpbdlokaa", sum := "2013440fb3082686ec445705869826f3f87f4039765ca5334d957eab635e7f60", func := "tarn/tarnlaw3.LevelDoubles", spec := "levelDoubles", inPlace := ["math/bits.Add64"], unfollowed := true, recurses := true, apart := false }
def LevelDoublesSaid : Prop := levelDoublesRow.holds Try.pinned (OpenSpec.ofChange levelDoublesSpec)

/-- ITS FALSE NEIGHBOUR: 'it returns false'. Refute it at one input. -/
def levelDoublesWrong : ChangeSpec := { name := "levelDoubles", fn := fun _ => fun
  | [d] => { results := [.lit (.bool false)], args := [d] }
  | _ => none }
def LevelDoublesWrongFalsely : Prop := levelDoublesRow.holds Try.pinned (OpenSpec.ofChange levelDoublesWrong)

/-- 'tarnlaw3.LevelTells': WHATEVER THE INPUT: true; the input reads as it did. -/
def levelTellsSpec : ChangeSpec := { name := "levelTells", fn := fun _ => fun
  | [d] => { results := [.lit (.bool true)], args := [d] }
  | _ => none }
def levelTellsRow : OpenClaim := { program := "ythnckfnpbdlokaa", sum := "2013440fb3082686ec445705869826f3f87f4039765ca5334d957eab635e7f60", func := "tarn/tarnlaw3.LevelTells", spec := "levelTells", inPlace := ["math/bits.Add64"], unfollowed := true, recurses := true, apart := false }
def LevelTellsSaid : Prop := levelTellsRow.holds Try.pinned (OpenSpec.ofChange levelTellsSpec)

/-- ITS FALSE NEIGHBOUR: 'it returns false'. Refute it at one input. -/
def levelTellsWrong : ChangeSpec := { name := "levelTells", fn := fun _ => fun
  | [d] => { results := [.lit (.bool false)], args := [d] }
  | _ => none }
def LevelTellsWrongFalsely : Prop := levelTellsRow.holds Try.pinned (OpenSpec.ofChange levelTellsWrong)

/-- 'tarnlaw1.NumProducts': WHATEVER THE INPUT: true; the input reads as it did. -/
def numProductsSpec : ChangeSpec := { name := "numProducts", fn := fun _ => fun
  | [d] => { results := [.lit (.bool true)], args := [d] }
  | _ => none }
def numProductsRow : OpenClaim := { program := "ythnckfnpbdlokaa", sum := "2013440fb3082686ec445705869826f3f87f4039765ca5334d957eab635e7f60", func := "tarn/tarnlaw1.NumProducts", spec := "numProducts", inPlace := ["math/bits.Add64"], apart := false }
def NumProductsSaid : Prop := numProductsRow.holds Try.pinned (OpenSpec.ofChange numProductsSpec)

/-- ITS FALSE NEIGHBOUR: 'it returns false'. Refute it at one input. -/
def numProductsWrong : ChangeSpec := { name := "numProducts", fn := fun _ => fun
  | [d] => { results := [.lit (.bool false)], args := [d] }
  | _ => none }
def NumProductsWrongFalsely : Prop := numProductsRow.holds Try.pinned (OpenSpec.ofChange numProductsWrong)

/-- 'tarnlaw1.NumSums': WHATEVER THE INPUT: true; the input reads as it did. -/
def numSumsSpec : ChangeSpec := { name := "numSums", fn := fun _ => fun
  | [d] => { results := [.lit (.bool true)], args := [d] }
  | _ => none }
def numSumsRow : OpenClaim := { program := "ythnckfnpbdlokaa", sum := "2013440fb3082686ec445705869826f3f87f4039765ca5334d957eab635e7f60", func := "tarn/tarnlaw1.NumSums", spec := "numSums", inPlace := ["math/bits.Add64", "math/bits.Sub64"], apart := false }
def NumSumsSaid : Prop := numSumsRow.holds Try.pinned (OpenSpec.ofChange numSumsSpec)

/-- ITS FALSE NEIGHBOUR: 'it returns false'. Refute it at one input. -/
def numSumsWrong : ChangeSpec := { name := "numSums", fn := fun _ => fun
  | [d] => { results := [.lit (.bool false)], args := [d] }
  | _ => none }
def NumSumsWrongFalsely : Prop := numSumsRow.holds Try.pinned (OpenSpec.ofChange numSumsWrong)

/-- 'tarnlaw1.NumAdds': WHATEVER THE INPUT: true; the input reads as it did. -/
def numAddsSpec : ChangeSpec := { name := "numAdds", fn := fun _ => fun
  | [d] => { results := [.lit (.bool true)], args := [d] }
  | _ => none }
def numAddsRow : OpenClaim := { program := "ythnckfnpbdlokaa", sum := "2013440fb3082686ec445705869826f3f87f4039765ca5334d957eab635e7f60", func := "tarn/tarnlaw1.NumAdds", spec := "numAdds", inPlace := ["math/bits.Add64", "math/bits.Sub64"], apart := false }
def NumAddsSaid : Prop := numAddsRow.holds Try.pinned (OpenSpec.ofChange numAddsSpec)

/-- ITS FALSE NEIGHBOUR: 'it returns false'. Refute it at one input. -/
def numAddsWrong : ChangeSpec := { name := "numAdds", fn := fun _ => fun
  | [d] => { results := [.lit (.bool false)], args := [d] }
  | _ => none }
def NumAddsWrongFalsely : Prop := numAddsRow.holds Try.pinned (OpenSpec.ofChange numAddsWrong)

/-- 'tarnlaw1.NumSubs': WHATEVER THE INPUT: true; the input reads as it did. -/
def numSubsSpec : ChangeSpec := { name := "numSubs", fn := fun _ => fun
  | [d] => { results := [.lit (.bool true)], args := [d] }
  | _ => none }
def numSubsRow : OpenClaim := { program := "ythnckfnpbdlokaa", sum := "2013440fb3082686ec445705869826f3f87f4039765ca5334d957eab635e7f60", func := "tarn/tarnlaw1.NumSubs", spec := "numSubs", inPlace := ["math/bits.Add64", "math/bits.Sub64"], apart := false }
def NumSubsSaid : Prop := numSubsRow.holds Try.pinned (OpenSpec.ofChange numSubsSpec)

/-- ITS FALSE NEIGHBOUR: 'it returns false'. Refute it at one input. -/
def numSubsWrong : ChangeSpec := { name := "numSubs", fn := fun _ => fun
  | [d] => { results := [.lit (.bool false)], args := [d] }
  | _ => none }
def NumSubsWrongFalsely : Prop := numSubsRow.holds Try.pinned (OpenSpec.ofChange numSubsWrong)

/-- 'tarnlaw1.NumCmps': WHATEVER THE INPUT: true; the input reads as it did. -/
def numCmpsSpec : ChangeSpec := { name := "numCmps", fn := fun _ => fun
  | [d] => { results := [.lit (.bool true)], args := [d] }
  | _ => none }
def numCmpsRow : OpenClaim := { program := "ythnckfnpbdlokaa", sum := "2013440fb3082686ec445705869826f3f87f4039765ca5334d957eab635e7f60", func := "tarn/tarnlaw1.NumCmps", spec := "numCmps", inPlace := ["math/bits.Add64", "math/bits.Sub64"], apart := false }
def NumCmpsSaid : Prop := numCmpsRow.holds Try.pinned (OpenSpec.ofChange numCmpsSpec)

/-- ITS FALSE NEIGHBOUR: 'it returns false'. Refute it at one input. -/
def numCmpsWrong : ChangeSpec := { name := "numCmps", fn := fun _ => fun
  | [d] => { results := [.lit (.bool false)], args := [d] }
  | _ => none }
def NumCmpsWrongFalsely : Prop := numCmpsRow.holds Try.pinned (OpenSpec.ofChange numCmpsWrong)

/-- 'tarnlaw1.NumQuotients': WHATEVER THE INPUT: true; the input reads as it did. -/
def numQuotientsSpec : ChangeSpec := { name := "numQuotients", fn := fun _ => fun
  | [d] => { results := [.lit (.bool true)], args := [d] }
  | _ => none }
def numQuotientsRow : OpenClaim := { program := "ythnckfnpbdlokaa", sum := "2013440fb3082686ec445705869826f3f87f4039765ca5334d957eab635e7f60", func := "tarn/tarnlaw1.NumQuotients", spec := "numQuotients", inPlace := ["math/bits.Add64", "math/bits.Sub64"], named := ["math/bits.divideError", "math/bits.overflowError"], apart := false }
def NumQuotientsSaid : Prop := numQuotientsRow.holds Try.pinned (OpenSpec.ofChange numQuotientsSpec)

/-- ITS FALSE NEIGHBOUR: 'it returns false'. Refute it at one input. -/
def numQuotientsWrong : ChangeSpec := { name := "numQuotients", fn := fun _ => fun
  | [d] => { results := [.lit (.bool false)], args := [d] }
  | _ => none }
def NumQuotientsWrongFalsely : Prop := numQuotientsRow.holds Try.pinned (OpenSpec.ofChange numQuotientsWrong)

/-- 'tarnlaw3.LevelRises': WHATEVER THE INPUT: true; the input reads as it did. -/
def levelRisesSpec : ChangeSpec := { name := "levelRises", fn := fun _ => fun
  | [d] => { results := [.lit (.bool true)], args := [d] }
  | _ => none }
def levelRisesRow : OpenClaim := { program := "ythnckfnpbdlokaa", sum := "2013440fb3082686ec445705869826f3f87f4039765ca5334d957eab635e7f60", func := "tarn/tarnlaw3.LevelRises", spec := "levelRises", inPlace := ["math/bits.Add64", "math/bits.Sub64"], unfollowed := true, recurses := true, named := ["math/bits.divideError", "math/bits.overflowError"], apart := false }
def LevelRisesSaid : Prop := levelRisesRow.holds Try.pinned (OpenSpec.ofChange levelRisesSpec)

/-- ITS FALSE NEIGHBOUR: 'it returns false'. Refute it at one input. -/
def levelRisesWrong : ChangeSpec := { name := "levelRises", fn := fun _ => fun
  | [d] => { results := [.lit (.bool false)], args := [d] }
  | _ => none }
def LevelRisesWrongFalsely : Prop := levelRisesRow.holds Try.pinned (OpenSpec.ofChange levelRisesWrong)

/-- 'tarnlaw1.NumLaws': WHATEVER THE INPUT: true; the input reads as it did. -/
def numLawsSpec : ChangeSpec := { name := "numLaws", fn := fun _ => fun
  | [d] => { results := [.lit (.bool true)], args := [d] }
  | _ => none }
def numLawsRow : OpenClaim := { program := "ythnckfnpbdlokaa", sum := "2013440fb3082686ec445705869826f3f87f4039765ca5334d957eab635e7f60", func := "tarn/tarnlaw1.NumLaws", spec := "numLaws", inPlace := ["math/bits.Add64", "math/bits.Sub64"], named := ["math/bits.divideError", "math/bits.overflowError"], apart := false }
def NumLawsSaid : Prop := numLawsRow.holds Try.pinned (OpenSpec.ofChange numLawsSpec)

/-- ITS FALSE NEIGHBOUR: 'it returns false'. Refute it at one input. -/
def numLawsWrong : ChangeSpec := { name := "numLaws", fn := fun _ => fun
  | [d] => { results := [.lit (.bool false)], args := [d] }
  | _ => none }
def NumLawsWrongFalsely : Prop := numLawsRow.holds Try.pinned (OpenSpec.ofChange numLawsWrong)

/- THE SECOND FORM. 'bulk': how many values and letters a reading holds, each counted each time it is reached (what is shared counts as often as it is met; a slice's spare places count too). A statement '..UptoSaid' is the law's where the arguments, and the package variables that the reading takes, are together of bulk at most 1048576: NARROWER than '..Said'. Prove '..Said' where nothing that the law and all that it calls make is longer than what came in: it says more and counts as full. Else prove '..UptoSaid'. A law counts once. -/
mutual
def uptoBulk {H : Type} : DataW H → Nat
  | .lit (.string bytes) => bytes.length + 1
  | .lit _ => 1
  | .nil => 1
  | .ptr d => uptoBulk d + 1
  | .slice elems spare => uptoBulkAll elems + uptoBulkAll spare + 1
  | .agg parts => uptoBulkAll parts + 1
  | .iface _ d => uptoBulk d + 1
  | .map entries => uptoBulkEntries entries + 1
  | .held _ => 1
def uptoBulkAll {H : Type} : List (DataW H) → Nat
  | [] => 0
  | d :: r => uptoBulk d + uptoBulkAll r
def uptoBulkEntries {H : Type} : List (Lit × DataW H) → Nat
  | [] => 0
  | x :: r => uptoBulkEntry x + uptoBulkEntries r
def uptoBulkEntry {H : Type} : Lit × DataW H → Nat
  | (.string bytes, d) => bytes.length + uptoBulk d + 1
  | (_, d) => uptoBulk d + 1
 end
def uptoSmall : (H : Type) → List (DataW H) → Bool := fun _ ds => decide (uptoBulkAll ds ≤ 1048576)
def OpenSpec.upto (s : _root_.Go.ChangeSpec) : _root_.Go.OpenSpec := { _root_.Go.OpenSpec.ofChange s with cond := some uptoSmall }

/-- 'tarnlaw1.NumTexts', WHERE WHAT IT READS IS OF BULK AT MOST 1048576: true; the input reads as it did. -/
def numTextsUptoRow : OpenClaim := { program := "ythnckfnpbdlokaa", sum := "2013440fb3082686ec445705869826f3f87f4039765ca5334d957eab635e7f60", func := "tarn/tarnlaw1.NumTexts", spec := "numTexts", apart := false, narrowed := true }
def NumTextsUptoSaid : Prop := numTextsUptoRow.holds Try.pinned (OpenSpec.upto numTextsSpec)

/-- 'tarnlaw1.NumTakes', WHERE WHAT IT READS IS OF BULK AT MOST 1048576: true; the input reads as it did. -/
def numTakesUptoRow : OpenClaim := { program := "ythnckfnpbdlokaa", sum := "2013440fb3082686ec445705869826f3f87f4039765ca5334d957eab635e7f60", func := "tarn/tarnlaw1.NumTakes", spec := "numTakes", apart := false, narrowed := true }
def NumTakesUptoSaid : Prop := numTakesUptoRow.holds Try.pinned (OpenSpec.upto numTakesSpec)

/-- 'tarnlaw1.NumBits', WHERE WHAT IT READS IS OF BULK AT MOST 1048576: true; the input reads as it did. -/
def numBitsUptoRow : OpenClaim := { program := "ythnckfnpbdlokaa", sum := "2013440fb3082686ec445705869826f3f87f4039765ca5334d957eab635e7f60", func := "tarn/tarnlaw1.NumBits", spec := "numBits", apart := false, narrowed := true }
def NumBitsUptoSaid : Prop := numBitsUptoRow.holds Try.pinned (OpenSpec.upto numBitsSpec)

/-- 'tarnlaw3.LevelDists', WHERE WHAT IT READS IS OF BULK AT MOST 1048576: true; the input reads as it did. -/
def levelDistsUptoRow : OpenClaim := { program := "ythnckfnpbdlokaa", sum := "2013440fb3082686ec445705869826f3f87f4039765ca5334d957eab635e7f60", func := "tarn/tarnlaw3.LevelDists", spec := "levelDists", unfollowed := true, recurses := true, apart := false, narrowed := true }
def LevelDistsUptoSaid : Prop := levelDistsUptoRow.holds Try.pinned (OpenSpec.upto levelDistsSpec)

/-- 'tarnlaw3.LevelDoubles', WHERE WHAT IT READS IS OF BULK AT MOST 1048576: true; the input reads as it did. -/
def levelDoublesUptoRow : OpenClaim := { program := "ythnckfnpbdlokaa", sum := "2013440fb3082686ec445705869826f3f87f4039765ca5334d957eab635e7f60", func := "tarn/tarnlaw3.LevelDoubles", spec := "levelDoubles", inPlace := ["math/bits.Add64"], unfollowed := true, recurses := true, apart := false, narrowed := true }
def LevelDoublesUptoSaid : Prop := levelDoublesUptoRow.holds Try.pinned (OpenSpec.upto levelDoublesSpec)

/-- 'tarnlaw3.LevelTells', WHERE WHAT IT READS IS OF BULK AT MOST 1048576: true; the input reads as it did. -/
def levelTellsUptoRow : OpenClaim := { program := "ythnckfnpbdlokaa", sum := "2013440fb3082686ec445705869826f3f87f4039765ca5334d957eab635e7f60", func := "tarn/tarnlaw3.LevelTells", spec := "levelTells", inPlace := ["math/bits.Add64"], unfollowed := true, recurses := true, apart := false, narrowed := true }
def LevelTellsUptoSaid : Prop := levelTellsUptoRow.holds Try.pinned (OpenSpec.upto levelTellsSpec)

/-- 'tarnlaw1.NumProducts', WHERE WHAT IT READS IS OF BULK AT MOST 1048576: true; the input reads as it did. -/
def numProductsUptoRow : OpenClaim := { program := "ythnckfnpbdlokaa", sum := "2013440fb3082686ec445705869826f3f87f4039765ca5334d957eab635e7f60", func := "tarn/tarnlaw1.NumProducts", spec := "numProducts", inPlace := ["math/bits.Add64"], apart := false, narrowed := true }
def NumProductsUptoSaid : Prop := numProductsUptoRow.holds Try.pinned (OpenSpec.upto numProductsSpec)

/-- 'tarnlaw1.NumSums', WHERE WHAT IT READS IS OF BULK AT MOST 1048576: true; the input reads as it did. -/
def numSumsUptoRow : OpenClaim := { program := "ythnckfnpbdlokaa", sum := "2013440fb3082686ec445705869826f3f87f4039765ca5334d957eab635e7f60", func := "tarn/tarnlaw1.NumSums", spec := "numSums", inPlace := ["math/bits.Add64", "math/bits.Sub64"], apart := false, narrowed := true }
def NumSumsUptoSaid : Prop := numSumsUptoRow.holds Try.pinned (OpenSpec.upto numSumsSpec)

/-- 'tarnlaw1.NumAdds', WHERE WHAT IT READS IS OF BULK AT MOST 1048576: true; the input reads as it did. -/
def numAddsUptoRow : OpenClaim := { program := "ythnckfnpbdlokaa", sum := "2013440fb3082686ec445705869826f3f87f4039765ca5334d957eab635e7f60", func := "tarn/tarnlaw1.NumAdds", spec := "numAdds", inPlace := ["math/bits.Add64", "math/bits.Sub64"], apart := false, narrowed := true }
def NumAddsUptoSaid : Prop := numAddsUptoRow.holds Try.pinned (OpenSpec.upto numAddsSpec)

/-- 'tarnlaw1.NumSubs', WHERE WHAT IT READS IS OF BULK AT MOST 1048576: true; the input reads as it did. -/
def numSubsUptoRow : OpenClaim := { program := "ythnckfnpbdlokaa", sum := "2013440fb3082686ec445705869826f3f87f4039765ca5334d957eab635e7f60", func := "tarn/tarnlaw1.NumSubs", spec := "numSubs", inPlace := ["math/bits.Add64", "math/bits.Sub64"], apart := false, narrowed := true }
def NumSubsUptoSaid : Prop := numSubsUptoRow.holds Try.pinned (OpenSpec.upto numSubsSpec)

/-- 'tarnlaw1.NumCmps', WHERE WHAT IT READS IS OF BULK AT MOST 1048576: true; the input reads as it did. -/
def numCmpsUptoRow : OpenClaim := { program := "ythnckfnpbdlokaa", sum := "2013440fb3082686ec445705869826f3f87f4039765ca5334d957eab635e7f60", func := "tarn/tarnlaw1.NumCmps", spec := "numCmps", inPlace := ["math/bits.Add64", "math/bits.Sub64"], apart := false, narrowed := true }
def NumCmpsUptoSaid : Prop := numCmpsUptoRow.holds Try.pinned (OpenSpec.upto numCmpsSpec)

/-- 'tarnlaw1.NumQuotients', WHERE WHAT IT READS IS OF BULK AT MOST 1048576: true; the input reads as it did. -/
def numQuotientsUptoRow : OpenClaim := { program := "ythnckfnpbdlokaa", sum := "2013440fb3082686ec445705869826f3f87f4039765ca5334d957eab635e7f60", func := "tarn/tarnlaw1.NumQuotients", spec := "numQuotients", inPlace := ["math/bits.Add64", "math/bits.Sub64"], named := ["math/bits.divideError", "math/bits.overflowError"], apart := false, narrowed := true }
def NumQuotientsUptoSaid : Prop := numQuotientsUptoRow.holds Try.pinned (OpenSpec.upto numQuotientsSpec)

/-- 'tarnlaw3.LevelRises', WHERE WHAT IT READS IS OF BULK AT MOST 1048576: true; the input reads as it did. -/
def levelRisesUptoRow : OpenClaim := { program := "ythnckfnpbdlokaa", sum := "2013440fb3082686ec445705869826f3f87f4039765ca5334d957eab635e7f60", func := "tarn/tarnlaw3.LevelRises", spec := "levelRises", inPlace := ["math/bits.Add64", "math/bits.Sub64"], unfollowed := true, recurses := true, named := ["math/bits.divideError", "math/bits.overflowError"], apart := false, narrowed := true }
def LevelRisesUptoSaid : Prop := levelRisesUptoRow.holds Try.pinned (OpenSpec.upto levelRisesSpec)

/-- 'tarnlaw1.NumLaws', WHERE WHAT IT READS IS OF BULK AT MOST 1048576: true; the input reads as it did. -/
def numLawsUptoRow : OpenClaim := { program := "ythnckfnpbdlokaa", sum := "2013440fb3082686ec445705869826f3f87f4039765ca5334d957eab635e7f60", func := "tarn/tarnlaw1.NumLaws", spec := "numLaws", inPlace := ["math/bits.Add64", "math/bits.Sub64"], named := ["math/bits.divideError", "math/bits.overflowError"], apart := false, narrowed := true }
def NumLawsUptoSaid : Prop := numLawsUptoRow.holds Try.pinned (OpenSpec.upto numLawsSpec)

end Rows
end Go.Proofs.Ythnckfnpbdlokaa
