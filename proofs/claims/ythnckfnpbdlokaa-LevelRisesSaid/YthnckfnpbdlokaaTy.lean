/- The table of types: written by mkty.py. -/
import Derived.Test.YthnckfnpbdlokaaA9
import Derived.Test.YthnckfnpbdlokaaProg
import Derived.KernelRfl
namespace Go.Abs
open Go Go.Proofs

/-- int64 -/
theorem ty_row2 : TyRow Try.prog 2 ⟨.int .i64, 1, 8, [.int .i64 0], false⟩ := tyRow (z := (.int .i64 0)) (by kernel_rfl) (by kernel_rfl) rfl rfl (fun h => by cases h)
/-- int -/
theorem ty_row3 : TyRow Try.prog 3 ⟨.int .i64, 1, 8, [.int .i64 0], false⟩ := tyRow (z := (.int .i64 0)) (by kernel_rfl) (by kernel_rfl) rfl rfl (fun h => by cases h)
/-- bool -/
theorem ty_row4 : TyRow Try.prog 4 ⟨.bool, 1, 1, [.bool false], false⟩ := tyRow (z := (.bool false)) (by kernel_rfl) (by kernel_rfl) rfl rfl (fun h => by cases h)
/-- uint8 -/
theorem ty_row5 : TyRow Try.prog 5 ⟨.int .u8, 1, 1, [.int .u8 0], false⟩ := tyRow (z := (.int .u8 0)) (by kernel_rfl) (by kernel_rfl) rfl rfl (fun h => by cases h)
/-- string -/
theorem ty_row9 : TyRow Try.prog 9 ⟨.string, 1, 16, [.str ByteArray.empty], false⟩ := tyRow (z := (.string ByteArray.empty)) (by kernel_rfl) (by kernel_rfl) rfl rfl (fun h => by cases h)
/-- uintptr -/
theorem ty_row12 : TyRow Try.prog 12 ⟨.int .u64, 1, 8, [.int .u64 0], false⟩ := tyRow (z := (.int .u64 0)) (by kernel_rfl) (by kernel_rfl) rfl rfl (fun h => by cases h)
/-- int32 -/
theorem ty_row21 : TyRow Try.prog 21 ⟨.int .i32, 1, 4, [.int .i32 0], false⟩ := tyRow (z := (.int .i32 0)) (by kernel_rfl) (by kernel_rfl) rfl rfl (fun h => by cases h)
/-- []api.U256 -/
theorem ty_row22 : TyRow Try.prog 22 ⟨.slice 27, 1, 24, [.nils], false⟩ := tyRow (z := (.slice none 0 0)) (by kernel_rfl) (by kernel_rfl) rfl rfl (fun h => by cases h)
/-- uint64 -/
theorem ty_row25 : TyRow Try.prog 25 ⟨.int .u64, 1, 8, [.int .u64 0], false⟩ := tyRow (z := (.int .u64 0)) (by kernel_rfl) (by kernel_rfl) rfl rfl (fun h => by cases h)
/-- [4]uint64 -/
theorem ty_row26 : TyRow Try.prog 26 ⟨.array 4 25, 4, 32, [.int .u64 0, .int .u64 0, .int .u64 0, .int .u64 0], true⟩ := tyRow (z := (.agg #[.int .u64 0, .int .u64 0, .int .u64 0, .int .u64 0])) (by kernel_rfl) (by kernel_rfl) rfl rfl (fun _ => ⟨by kernel_rfl, by kernel_rfl⟩)
/-- api.U256 -/
theorem ty_row27 : TyRow Try.prog 27 ⟨.array 4 25, 4, 32, [.int .u64 0, .int .u64 0, .int .u64 0, .int .u64 0], true⟩ := tyRow (z := (.agg #[.int .u64 0, .int .u64 0, .int .u64 0, .int .u64 0])) (by kernel_rfl) (by kernel_rfl) rfl rfl (fun _ => ⟨by kernel_rfl, by kernel_rfl⟩)
/-- api.Errno -/
theorem ty_row28 : TyRow Try.prog 28 ⟨.int .i64, 1, 8, [.int .i64 0], false⟩ := tyRow (z := (.int .i64 0)) (by kernel_rfl) (by kernel_rfl) rfl rfl (fun h => by cases h)
/-- []string -/
theorem ty_row35 : TyRow Try.prog 35 ⟨.slice 9, 1, 24, [.nils], false⟩ := tyRow (z := (.slice none 0 0)) (by kernel_rfl) (by kernel_rfl) rfl rfl (fun h => by cases h)
/-- uint -/
theorem ty_row51 : TyRow Try.prog 51 ⟨.int .u64, 1, 8, [.int .u64 0], false⟩ := tyRow (z := (.int .u64 0)) (by kernel_rfl) (by kernel_rfl) rfl rfl (fun h => by cases h)
/-- []uint8 -/
theorem ty_row54 : TyRow Try.prog 54 ⟨.slice 5, 1, 24, [.nils], false⟩ := tyRow (z := (.slice none 0 0)) (by kernel_rfl) (by kernel_rfl) rfl rfl (fun h => by cases h)
/-- [8]uint64 -/
theorem ty_row60 : TyRow Try.prog 60 ⟨.array 8 25, 8, 64, [.int .u64 0, .int .u64 0, .int .u64 0, .int .u64 0, .int .u64 0, .int .u64 0, .int .u64 0, .int .u64 0], true⟩ := tyRow (z := (.agg #[.int .u64 0, .int .u64 0, .int .u64 0, .int .u64 0, .int .u64 0, .int .u64 0, .int .u64 0, .int .u64 0])) (by kernel_rfl) (by kernel_rfl) rfl rfl (fun _ => ⟨by kernel_rfl, by kernel_rfl⟩)
/-- [16]uint64 -/
theorem ty_row64 : TyRow Try.prog 64 ⟨.array 16 25, 16, 128, [.int .u64 0, .int .u64 0, .int .u64 0, .int .u64 0, .int .u64 0, .int .u64 0, .int .u64 0, .int .u64 0, .int .u64 0, .int .u64 0, .int .u64 0, .int .u64 0, .int .u64 0, .int .u64 0, .int .u64 0, .int .u64 0], true⟩ := tyRow (z := (.agg #[.int .u64 0, .int .u64 0, .int .u64 0, .int .u64 0, .int .u64 0, .int .u64 0, .int .u64 0, .int .u64 0, .int .u64 0, .int .u64 0, .int .u64 0, .int .u64 0, .int .u64 0, .int .u64 0, .int .u64 0, .int .u64 0])) (by kernel_rfl) (by kernel_rfl) rfl rfl (fun _ => ⟨by kernel_rfl, by kernel_rfl⟩)
/-- [5]uint64 -/
theorem ty_row66 : TyRow Try.prog 66 ⟨.array 5 25, 5, 40, [.int .u64 0, .int .u64 0, .int .u64 0, .int .u64 0, .int .u64 0], true⟩ := tyRow (z := (.agg #[.int .u64 0, .int .u64 0, .int .u64 0, .int .u64 0, .int .u64 0])) (by kernel_rfl) (by kernel_rfl) rfl rfl (fun _ => ⟨by kernel_rfl, by kernel_rfl⟩)
/-- []uint64 -/
theorem ty_row69 : TyRow Try.prog 69 ⟨.slice 25, 1, 24, [.nils], false⟩ := tyRow (z := (.slice none 0 0)) (by kernel_rfl) (by kernel_rfl) rfl rfl (fun h => by cases h)
/-- uint32 -/
theorem ty_row82 : TyRow Try.prog 82 ⟨.int .u32, 1, 4, [.int .u32 0], false⟩ := tyRow (z := (.int .u32 0)) (by kernel_rfl) (by kernel_rfl) rfl rfl (fun h => by cases h)
/-- *uint8 -/
theorem ty_row86 : TyRow Try.prog 86 ⟨.pointer 5, 1, 8, [.nilp], false⟩ := tyRow (z := (.pointer none)) (by kernel_rfl) (by kernel_rfl) rfl rfl (fun h => by cases h)

def ty : Tab
  | 2 => some ⟨.int .i64, 1, 8, [.int .i64 0], false⟩
  | 3 => some ⟨.int .i64, 1, 8, [.int .i64 0], false⟩
  | 4 => some ⟨.bool, 1, 1, [.bool false], false⟩
  | 5 => some ⟨.int .u8, 1, 1, [.int .u8 0], false⟩
  | 9 => some ⟨.string, 1, 16, [.str ByteArray.empty], false⟩
  | 12 => some ⟨.int .u64, 1, 8, [.int .u64 0], false⟩
  | 21 => some ⟨.int .i32, 1, 4, [.int .i32 0], false⟩
  | 22 => some ⟨.slice 27, 1, 24, [.nils], false⟩
  | 25 => some ⟨.int .u64, 1, 8, [.int .u64 0], false⟩
  | 26 => some ⟨.array 4 25, 4, 32, [.int .u64 0, .int .u64 0, .int .u64 0, .int .u64 0], true⟩
  | 27 => some ⟨.array 4 25, 4, 32, [.int .u64 0, .int .u64 0, .int .u64 0, .int .u64 0], true⟩
  | 28 => some ⟨.int .i64, 1, 8, [.int .i64 0], false⟩
  | 35 => some ⟨.slice 9, 1, 24, [.nils], false⟩
  | 51 => some ⟨.int .u64, 1, 8, [.int .u64 0], false⟩
  | 54 => some ⟨.slice 5, 1, 24, [.nils], false⟩
  | 60 => some ⟨.array 8 25, 8, 64, [.int .u64 0, .int .u64 0, .int .u64 0, .int .u64 0, .int .u64 0, .int .u64 0, .int .u64 0, .int .u64 0], true⟩
  | 64 => some ⟨.array 16 25, 16, 128, [.int .u64 0, .int .u64 0, .int .u64 0, .int .u64 0, .int .u64 0, .int .u64 0, .int .u64 0, .int .u64 0, .int .u64 0, .int .u64 0, .int .u64 0, .int .u64 0, .int .u64 0, .int .u64 0, .int .u64 0, .int .u64 0], true⟩
  | 66 => some ⟨.array 5 25, 5, 40, [.int .u64 0, .int .u64 0, .int .u64 0, .int .u64 0, .int .u64 0], true⟩
  | 69 => some ⟨.slice 25, 1, 24, [.nils], false⟩
  | 82 => some ⟨.int .u32, 1, 4, [.int .u32 0], false⟩
  | 86 => some ⟨.pointer 5, 1, 8, [.nilp], false⟩
  | _ => none
theorem ty2 : ty 2 = some ⟨.int .i64, 1, 8, [.int .i64 0], false⟩ := rfl
theorem ty3 : ty 3 = some ⟨.int .i64, 1, 8, [.int .i64 0], false⟩ := rfl
theorem ty4 : ty 4 = some ⟨.bool, 1, 1, [.bool false], false⟩ := rfl
theorem ty5 : ty 5 = some ⟨.int .u8, 1, 1, [.int .u8 0], false⟩ := rfl
theorem ty9 : ty 9 = some ⟨.string, 1, 16, [.str ByteArray.empty], false⟩ := rfl
theorem ty12 : ty 12 = some ⟨.int .u64, 1, 8, [.int .u64 0], false⟩ := rfl
theorem ty21 : ty 21 = some ⟨.int .i32, 1, 4, [.int .i32 0], false⟩ := rfl
theorem ty22 : ty 22 = some ⟨.slice 27, 1, 24, [.nils], false⟩ := rfl
theorem ty25 : ty 25 = some ⟨.int .u64, 1, 8, [.int .u64 0], false⟩ := rfl
theorem ty26 : ty 26 = some ⟨.array 4 25, 4, 32, [.int .u64 0, .int .u64 0, .int .u64 0, .int .u64 0], true⟩ := rfl
theorem ty27 : ty 27 = some ⟨.array 4 25, 4, 32, [.int .u64 0, .int .u64 0, .int .u64 0, .int .u64 0], true⟩ := rfl
theorem ty28 : ty 28 = some ⟨.int .i64, 1, 8, [.int .i64 0], false⟩ := rfl
theorem ty35 : ty 35 = some ⟨.slice 9, 1, 24, [.nils], false⟩ := rfl
theorem ty51 : ty 51 = some ⟨.int .u64, 1, 8, [.int .u64 0], false⟩ := rfl
theorem ty54 : ty 54 = some ⟨.slice 5, 1, 24, [.nils], false⟩ := rfl
theorem ty60 : ty 60 = some ⟨.array 8 25, 8, 64, [.int .u64 0, .int .u64 0, .int .u64 0, .int .u64 0, .int .u64 0, .int .u64 0, .int .u64 0, .int .u64 0], true⟩ := rfl
theorem ty64 : ty 64 = some ⟨.array 16 25, 16, 128, [.int .u64 0, .int .u64 0, .int .u64 0, .int .u64 0, .int .u64 0, .int .u64 0, .int .u64 0, .int .u64 0, .int .u64 0, .int .u64 0, .int .u64 0, .int .u64 0, .int .u64 0, .int .u64 0, .int .u64 0, .int .u64 0], true⟩ := rfl
theorem ty66 : ty 66 = some ⟨.array 5 25, 5, 40, [.int .u64 0, .int .u64 0, .int .u64 0, .int .u64 0, .int .u64 0], true⟩ := rfl
theorem ty69 : ty 69 = some ⟨.slice 25, 1, 24, [.nils], false⟩ := rfl
theorem ty82 : ty 82 = some ⟨.int .u32, 1, 4, [.int .u32 0], false⟩ := rfl
theorem ty86 : ty 86 = some ⟨.pointer 5, 1, 8, [.nilp], false⟩ := rfl
theorem ty_ok : TyOK Try.prog ty := by
  intro t i h
  unfold ty at h
  split at h <;> first | (cases h; done) | (cases h; first | exact ty_row2 | exact ty_row3 | exact ty_row4 | exact ty_row5 | exact ty_row9 | exact ty_row12 | exact ty_row21 | exact ty_row22 | exact ty_row25 | exact ty_row26 | exact ty_row27 | exact ty_row28 | exact ty_row35 | exact ty_row51 | exact ty_row54 | exact ty_row60 | exact ty_row64 | exact ty_row66 | exact ty_row69 | exact ty_row82 | exact ty_row86)
/-- Functions that are met by contracts that neither read nor write the heap. -/
def pureL : List FuncId := [0, 1, 2, 3, 4, 5, 6, 7, 8, 9, 10, 11, 12, 13, 14, 15, 16, 17, 18, 19, 20, 21, 22, 23, 24, 25, 26, 27, 28, 29, 30, 31, 32, 33, 34, 35, 36, 37, 38, 39, 40, 41, 42, 43, 44, 45, 46, 47, 48, 49, 50, 51, 52, 53, 54, 55, 56, 57, 58, 60, 61, 62, 63, 64, 65, 66, 67, 68, 69, 70, 71, 72, 73, 74, 75, 76, 77, 78]
end Go.Abs
