/- The table of types: written by mkty.py. -/
import Derived.Test.YtdhonccddoaeiaaA9
import Derived.Test.YtdhonccddoaeiaaProg
import Derived.KernelRfl
namespace Go.Abs
open Go Go.Proofs

/-- int64 -/
theorem ty_row2 : TyRow Try.prog 2 ⟨.int .i64, 1, 8, [.int .i64 0], false⟩ := tyRow (z := (.int .i64 0)) (by kernel_rfl) (by kernel_rfl) rfl rfl (fun h => by cases h)
/-- int -/
theorem ty_row3 : TyRow Try.prog 3 ⟨.int .i64, 1, 8, [.int .i64 0], false⟩ := tyRow (z := (.int .i64 0)) (by kernel_rfl) (by kernel_rfl) rfl rfl (fun h => by cases h)
/-- bool -/
theorem ty_row4 : TyRow Try.prog 4 ⟨.bool, 1, 1, [.bool false], false⟩ := tyRow (z := (.bool false)) (by kernel_rfl) (by kernel_rfl) rfl rfl (fun h => by cases h)
/-- uint8 -/
theorem ty_row5 : TyRow Try.prog 5 ⟨.int .u8, 1, 1, [.int .u8 0], false⟩ := tyRow (z := (.int .u8 0)) (by kernel_rfl) (by kernel_rfl) rfl rfl (fun h => by cases h)
/-- string -/
theorem ty_row9 : TyRow Try.prog 9 ⟨.string, 1, 16, [.str ByteArray.empty], false⟩ := tyRow (z := (.string ByteArray.empty)) (by kernel_rfl) (by kernel_rfl) rfl rfl (fun h => by cases h)
/-- uintptr -/
theorem ty_row12 : TyRow Try.prog 12 ⟨.int .u64, 1, 8, [.int .u64 0], false⟩ := tyRow (z := (.int .u64 0)) (by kernel_rfl) (by kernel_rfl) rfl rfl (fun h => by cases h)
/-- int32 -/
theorem ty_row21 : TyRow Try.prog 21 ⟨.int .i32, 1, 4, [.int .i32 0], false⟩ := tyRow (z := (.int .i32 0)) (by kernel_rfl) (by kernel_rfl) rfl rfl (fun h => by cases h)
/-- []tarnlaw2.Ask -/
theorem ty_row22 : TyRow Try.prog 22 ⟨.slice 30, 1, 24, [.nils], false⟩ := tyRow (z := (.slice none 0 0)) (by kernel_rfl) (by kernel_rfl) rfl rfl (fun h => by cases h)
/-- uint64 -/
theorem ty_row23 : TyRow Try.prog 23 ⟨.int .u64, 1, 8, [.int .u64 0], false⟩ := tyRow (z := (.int .u64 0)) (by kernel_rfl) (by kernel_rfl) rfl rfl (fun h => by cases h)
/-- [4]uint64 -/
theorem ty_row24 : TyRow Try.prog 24 ⟨.array 4 23, 4, 32, [.int .u64 0, .int .u64 0, .int .u64 0, .int .u64 0], true⟩ := tyRow (z := (.agg #[.int .u64 0, .int .u64 0, .int .u64 0, .int .u64 0])) (by kernel_rfl) (by kernel_rfl) rfl rfl (fun _ => ⟨by kernel_rfl, by kernel_rfl⟩)
/-- api.U256 -/
theorem ty_row25 : TyRow Try.prog 25 ⟨.array 4 23, 4, 32, [.int .u64 0, .int .u64 0, .int .u64 0, .int .u64 0], true⟩ := tyRow (z := (.agg #[.int .u64 0, .int .u64 0, .int .u64 0, .int .u64 0])) (by kernel_rfl) (by kernel_rfl) rfl rfl (fun _ => ⟨by kernel_rfl, by kernel_rfl⟩)
/-- api.Errno -/
theorem ty_row26 : TyRow Try.prog 26 ⟨.int .i64, 1, 8, [.int .i64 0], false⟩ := tyRow (z := (.int .i64 0)) (by kernel_rfl) (by kernel_rfl) rfl rfl (fun h => by cases h)
/-- struct { A api.U256; B api.U256; C api.U256; Excess int; Used int; To int } -/
theorem ty_row29 : TyRow Try.prog 29 ⟨TypeDesc.struct #[{ name := "A", type := 25, offset := 0, embedded := false, tag := "", pkgPath := "", byteOffset := 0 }, { name := "B", type := 25, offset := 4, embedded := false, tag := "", pkgPath := "", byteOffset := 32 }, { name := "C", type := 25, offset := 8, embedded := false, tag := "", pkgPath := "", byteOffset := 64 }, { name := "Excess", type := 3, offset := 12, embedded := false, tag := "", pkgPath := "", byteOffset := 96 }, { name := "Used", type := 3, offset := 13, embedded := false, tag := "", pkgPath := "", byteOffset := 104 }, { name := "To", type := 3, offset := 14, embedded := false, tag := "", pkgPath := "", byteOffset := 112 }], 15, 120, [.int .u64 0, .int .u64 0, .int .u64 0, .int .u64 0, .int .u64 0, .int .u64 0, .int .u64 0, .int .u64 0, .int .u64 0, .int .u64 0, .int .u64 0, .int .u64 0, .int .i64 0, .int .i64 0, .int .i64 0], true⟩ := tyRow (z := (.agg #[.int .u64 0, .int .u64 0, .int .u64 0, .int .u64 0, .int .u64 0, .int .u64 0, .int .u64 0, .int .u64 0, .int .u64 0, .int .u64 0, .int .u64 0, .int .u64 0, .int .i64 0, .int .i64 0, .int .i64 0])) (by kernel_rfl) (by kernel_rfl) rfl rfl (fun _ => ⟨by kernel_rfl, by kernel_rfl⟩)
/-- tarnlaw2.Ask -/
theorem ty_row30 : TyRow Try.prog 30 ⟨TypeDesc.struct #[{ name := "A", type := 25, offset := 0, embedded := false, tag := "", pkgPath := "", byteOffset := 0 }, { name := "B", type := 25, offset := 4, embedded := false, tag := "", pkgPath := "", byteOffset := 32 }, { name := "C", type := 25, offset := 8, embedded := false, tag := "", pkgPath := "", byteOffset := 64 }, { name := "Excess", type := 3, offset := 12, embedded := false, tag := "", pkgPath := "", byteOffset := 96 }, { name := "Used", type := 3, offset := 13, embedded := false, tag := "", pkgPath := "", byteOffset := 104 }, { name := "To", type := 3, offset := 14, embedded := false, tag := "", pkgPath := "", byteOffset := 112 }], 15, 120, [.int .u64 0, .int .u64 0, .int .u64 0, .int .u64 0, .int .u64 0, .int .u64 0, .int .u64 0, .int .u64 0, .int .u64 0, .int .u64 0, .int .u64 0, .int .u64 0, .int .i64 0, .int .i64 0, .int .i64 0], true⟩ := tyRow (z := (.agg #[.int .u64 0, .int .u64 0, .int .u64 0, .int .u64 0, .int .u64 0, .int .u64 0, .int .u64 0, .int .u64 0, .int .u64 0, .int .u64 0, .int .u64 0, .int .u64 0, .int .i64 0, .int .i64 0, .int .i64 0])) (by kernel_rfl) (by kernel_rfl) rfl rfl (fun _ => ⟨by kernel_rfl, by kernel_rfl⟩)
/-- uint -/
theorem ty_row44 : TyRow Try.prog 44 ⟨.int .u64, 1, 8, [.int .u64 0], false⟩ := tyRow (z := (.int .u64 0)) (by kernel_rfl) (by kernel_rfl) rfl rfl (fun h => by cases h)
/-- [8]uint64 -/
theorem ty_row55 : TyRow Try.prog 55 ⟨.array 8 23, 8, 64, [.int .u64 0, .int .u64 0, .int .u64 0, .int .u64 0, .int .u64 0, .int .u64 0, .int .u64 0, .int .u64 0], true⟩ := tyRow (z := (.agg #[.int .u64 0, .int .u64 0, .int .u64 0, .int .u64 0, .int .u64 0, .int .u64 0, .int .u64 0, .int .u64 0])) (by kernel_rfl) (by kernel_rfl) rfl rfl (fun _ => ⟨by kernel_rfl, by kernel_rfl⟩)
/-- [5]uint64 -/
theorem ty_row61 : TyRow Try.prog 61 ⟨.array 5 23, 5, 40, [.int .u64 0, .int .u64 0, .int .u64 0, .int .u64 0, .int .u64 0], true⟩ := tyRow (z := (.agg #[.int .u64 0, .int .u64 0, .int .u64 0, .int .u64 0, .int .u64 0])) (by kernel_rfl) (by kernel_rfl) rfl rfl (fun _ => ⟨by kernel_rfl, by kernel_rfl⟩)
/-- []uint64 -/
theorem ty_row64 : TyRow Try.prog 64 ⟨.slice 23, 1, 24, [.nils], false⟩ := tyRow (z := (.slice none 0 0)) (by kernel_rfl) (by kernel_rfl) rfl rfl (fun h => by cases h)
/-- [16]uint64 -/
theorem ty_row66 : TyRow Try.prog 66 ⟨.array 16 23, 16, 128, [.int .u64 0, .int .u64 0, .int .u64 0, .int .u64 0, .int .u64 0, .int .u64 0, .int .u64 0, .int .u64 0, .int .u64 0, .int .u64 0, .int .u64 0, .int .u64 0, .int .u64 0, .int .u64 0, .int .u64 0, .int .u64 0], true⟩ := tyRow (z := (.agg #[.int .u64 0, .int .u64 0, .int .u64 0, .int .u64 0, .int .u64 0, .int .u64 0, .int .u64 0, .int .u64 0, .int .u64 0, .int .u64 0, .int .u64 0, .int .u64 0, .int .u64 0, .int .u64 0, .int .u64 0, .int .u64 0])) (by kernel_rfl) (by kernel_rfl) rfl rfl (fun _ => ⟨by kernel_rfl, by kernel_rfl⟩)
/-- uint32 -/
theorem ty_row79 : TyRow Try.prog 79 ⟨.int .u32, 1, 4, [.int .u32 0], false⟩ := tyRow (z := (.int .u32 0)) (by kernel_rfl) (by kernel_rfl) rfl rfl (fun h => by cases h)
/-- *uint8 -/
theorem ty_row83 : TyRow Try.prog 83 ⟨.pointer 5, 1, 8, [.nilp], false⟩ := tyRow (z := (.pointer none)) (by kernel_rfl) (by kernel_rfl) rfl rfl (fun h => by cases h)

def ty : Tab
  | 2 => some ⟨.int .i64, 1, 8, [.int .i64 0], false⟩
  | 3 => some ⟨.int .i64, 1, 8, [.int .i64 0], false⟩
  | 4 => some ⟨.bool, 1, 1, [.bool false], false⟩
  | 5 => some ⟨.int .u8, 1, 1, [.int .u8 0], false⟩
  | 9 => some ⟨.string, 1, 16, [.str ByteArray.empty], false⟩
  | 12 => some ⟨.int .u64, 1, 8, [.int .u64 0], false⟩
  | 21 => some ⟨.int .i32, 1, 4, [.int .i32 0], false⟩
  | 22 => some ⟨.slice 30, 1, 24, [.nils], false⟩
  | 23 => some ⟨.int .u64, 1, 8, [.int .u64 0], false⟩
  | 24 => some ⟨.array 4 23, 4, 32, [.int .u64 0, .int .u64 0, .int .u64 0, .int .u64 0], true⟩
  | 25 => some ⟨.array 4 23, 4, 32, [.int .u64 0, .int .u64 0, .int .u64 0, .int .u64 0], true⟩
  | 26 => some ⟨.int .i64, 1, 8, [.int .i64 0], false⟩
  | 29 => some ⟨TypeDesc.struct #[{ name := "A", type := 25, offset := 0, embedded := false, tag := "", pkgPath := "", byteOffset := 0 }, { name := "B", type := 25, offset := 4, embedded := false, tag := "", pkgPath := "", byteOffset := 32 }, { name := "C", type := 25, offset := 8, embedded := false, tag := "", pkgPath := "", byteOffset := 64 }, { name := "Excess", type := 3, offset := 12, embedded := false, tag := "", pkgPath := "", byteOffset := 96 }, { name := "Used", type := 3, offset := 13, embedded := false, tag := "", pkgPath := "", byteOffset := 104 }, { name := "To", type := 3, offset := 14, embedded := false, tag := "", pkgPath := "", byteOffset := 112 }], 15, 120, [.int .u64 0, .int .u64 0, .int .u64 0, .int .u64 0, .int .u64 0, .int .u64 0, .int .u64 0, .int .u64 0, .int .u64 0, .int .u64 0, .int .u64 0, .int .u64 0, .int .i64 0, .int .i64 0, .int .i64 0], true⟩
  | 30 => some ⟨TypeDesc.struct #[{ name := "A", type := 25, offset := 0, embedded := false, tag := "", pkgPath := "", byteOffset := 0 }, { name := "B", type := 25, offset := 4, embedded := false, tag := "", pkgPath := "", byteOffset := 32 }, { name := "C", type := 25, offset := 8, embedded := false, tag := "", pkgPath := "", byteOffset := 64 }, { name := "Excess", type := 3, offset := 12, embedded := false, tag := "", pkgPath := "", byteOffset := 96 }, { name := "Used", type := 3, offset := 13, embedded := false, tag := "", pkgPath := "", byteOffset := 104 }, { name := "To", type := 3, offset := 14, embedded := false, tag := "", pkgPath := "", byteOffset := 112 }], 15, 120, [.int .u64 0, .int .u64 0, .int .u64 0, .int .u64 0, .int .u64 0, .int .u64 0, .int .u64 0, .int .u64 0, .int .u64 0, .int .u64 0, .int .u64 0, .int .u64 0, .int .i64 0, .int .i64 0, .int .i64 0], true⟩
  | 44 => some ⟨.int .u64, 1, 8, [.int .u64 0], false⟩
  | 55 => some ⟨.array 8 23, 8, 64, [.int .u64 0, .int .u64 0, .int .u64 0, .int .u64 0, .int .u64 0, .int .u64 0, .int .u64 0, .int .u64 0], true⟩
  | 61 => some ⟨.array 5 23, 5, 40, [.int .u64 0, .int .u64 0, .int .u64 0, .int .u64 0, .int .u64 0], true⟩
  | 64 => some ⟨.slice 23, 1, 24, [.nils], false⟩
  | 66 => some ⟨.array 16 23, 16, 128, [.int .u64 0, .int .u64 0, .int .u64 0, .int .u64 0, .int .u64 0, .int .u64 0, .int .u64 0, .int .u64 0, .int .u64 0, .int .u64 0, .int .u64 0, .int .u64 0, .int .u64 0, .int .u64 0, .int .u64 0, .int .u64 0], true⟩
  | 79 => some ⟨.int .u32, 1, 4, [.int .u32 0], false⟩
  | 83 => some ⟨.pointer 5, 1, 8, [.nilp], false⟩
  | _ => none
theorem ty2 : ty 2 = some ⟨.int .i64, 1, 8, [.int .i64 0], false⟩ := rfl
theorem ty3 : ty 3 = some ⟨.int .i64, 1, 8, [.int .i64 0], false⟩ := rfl
theorem ty4 : ty 4 = some ⟨.bool, 1, 1, [.bool false], false⟩ := rfl
theorem ty5 : ty 5 = some ⟨.int .u8, 1, 1, [.int .u8 0], false⟩ := rfl
theorem ty9 : ty 9 = some ⟨.string, 1, 16, [.str ByteArray.empty], false⟩ := rfl
theorem ty12 : ty 12 = some ⟨.int .u64, 1, 8, [.int .u64 0], false⟩ := rfl
theorem ty21 : ty 21 = some ⟨.int .i32, 1, 4, [.int .i32 0], false⟩ := rfl
theorem ty22 : ty 22 = some ⟨.slice 30, 1, 24, [.nils], false⟩ := rfl
theorem ty23 : ty 23 = some ⟨.int .u64, 1, 8, [.int .u64 0], false⟩ := rfl
theorem ty24 : ty 24 = some ⟨.array 4 23, 4, 32, [.int .u64 0, .int .u64 0, .int .u64 0, .int .u64 0], true⟩ := rfl
theorem ty25 : ty 25 = some ⟨.array 4 23, 4, 32, [.int .u64 0, .int .u64 0, .int .u64 0, .int .u64 0], true⟩ := rfl
theorem ty26 : ty 26 = some ⟨.int .i64, 1, 8, [.int .i64 0], false⟩ := rfl
theorem ty29 : ty 29 = some ⟨TypeDesc.struct #[{ name := "A", type := 25, offset := 0, embedded := false, tag := "", pkgPath := "", byteOffset := 0 }, { name := "B", type := 25, offset := 4, embedded := false, tag := "", pkgPath := "", byteOffset := 32 }, { name := "C", type := 25, offset := 8, embedded := false, tag := "", pkgPath := "", byteOffset := 64 }, { name := "Excess", type := 3, offset := 12, embedded := false, tag := "", pkgPath := "", byteOffset := 96 }, { name := "Used", type := 3, offset := 13, embedded := false, tag := "", pkgPath := "", byteOffset := 104 }, { name := "To", type := 3, offset := 14, embedded := false, tag := "", pkgPath := "", byteOffset := 112 }], 15, 120, [.int .u64 0, .int .u64 0, .int .u64 0, .int .u64 0, .int .u64 0, .int .u64 0, .int .u64 0, .int .u64 0, .int .u64 0, .int .u64 0, .int .u64 0, .int .u64 0, .int .i64 0, .int .i64 0, .int .i64 0], true⟩ := rfl
theorem ty30 : ty 30 = some ⟨TypeDesc.struct #[{ name := "A", type := 25, offset := 0, embedded := false, tag := "", pkgPath := "", byteOffset := 0 }, { name := "B", type := 25, offset := 4, embedded := false, tag := "", pkgPath := "", byteOffset := 32 }, { name := "C", type := 25, offset := 8, embedded := false, tag := "", pkgPath := "", byteOffset := 64 }, { name := "Excess", type := 3, offset := 12, embedded := false, tag := "", pkgPath := "", byteOffset := 96 }, { name := "Used", type := 3, offset := 13, embedded := false, tag := "", pkgPath := "", byteOffset := 104 }, { name := "To", type := 3, offset := 14, embedded := false, tag := "", pkgPath := "", byteOffset := 112 }], 15, 120, [.int .u64 0, .int .u64 0, .int .u64 0, .int .u64 0, .int .u64 0, .int .u64 0, .int .u64 0, .int .u64 0, .int .u64 0, .int .u64 0, .int .u64 0, .int .u64 0, .int .i64 0, .int .i64 0, .int .i64 0], true⟩ := rfl
theorem ty44 : ty 44 = some ⟨.int .u64, 1, 8, [.int .u64 0], false⟩ := rfl
theorem ty55 : ty 55 = some ⟨.array 8 23, 8, 64, [.int .u64 0, .int .u64 0, .int .u64 0, .int .u64 0, .int .u64 0, .int .u64 0, .int .u64 0, .int .u64 0], true⟩ := rfl
theorem ty61 : ty 61 = some ⟨.array 5 23, 5, 40, [.int .u64 0, .int .u64 0, .int .u64 0, .int .u64 0, .int .u64 0], true⟩ := rfl
theorem ty64 : ty 64 = some ⟨.slice 23, 1, 24, [.nils], false⟩ := rfl
theorem ty66 : ty 66 = some ⟨.array 16 23, 16, 128, [.int .u64 0, .int .u64 0, .int .u64 0, .int .u64 0, .int .u64 0, .int .u64 0, .int .u64 0, .int .u64 0, .int .u64 0, .int .u64 0, .int .u64 0, .int .u64 0, .int .u64 0, .int .u64 0, .int .u64 0, .int .u64 0], true⟩ := rfl
theorem ty79 : ty 79 = some ⟨.int .u32, 1, 4, [.int .u32 0], false⟩ := rfl
theorem ty83 : ty 83 = some ⟨.pointer 5, 1, 8, [.nilp], false⟩ := rfl
theorem ty_ok : TyOK Try.prog ty := by
  intro t i h
  unfold ty at h
  split at h <;> first | (cases h; done) | (cases h; first | exact ty_row2 | exact ty_row3 | exact ty_row4 | exact ty_row5 | exact ty_row9 | exact ty_row12 | exact ty_row21 | exact ty_row22 | exact ty_row23 | exact ty_row24 | exact ty_row25 | exact ty_row26 | exact ty_row29 | exact ty_row30 | exact ty_row44 | exact ty_row55 | exact ty_row61 | exact ty_row64 | exact ty_row66 | exact ty_row79 | exact ty_row83)
/-- Functions that are met by contracts that neither read nor write the heap. -/
def pureL : List FuncId := [0, 1, 2, 3, 4, 5, 6, 7, 8, 9, 10, 11, 12, 13, 14, 15, 16, 17, 18, 19, 20, 21, 22, 23, 24, 25, 26, 27, 28, 29, 30, 31, 32, 33, 34, 35, 36, 37, 38, 39, 40, 42, 43, 44, 45, 46, 47, 48, 49, 50, 51, 52, 53, 54, 55, 56, 57, 58, 59, 60, 61, 62, 63, 64, 65]
end Go.Abs
