/- The laws of layer 3 on levels and distances: the walks. -/
import Derived.Test.YtpaehjjkfjgfiaaL1
set_option linter.unusedVariables false
set_option linter.unusedSimpArgs false
namespace Go.Abs
open Go Go.Proofs

theorem uvs3 {m : Nat} (h : m < 18446744073709551616) : uv m = .agg [.int .u64 (m : Nat), .int .u64 0, .int .u64 0, .int .u64 0] :=
  (uv_congr (a := m) (b := 0) (c := 0) (d := 0) (n := m) h (by omega) (by omega) (by omega) (by unfold num4; omega)).symm
end Go.Abs
