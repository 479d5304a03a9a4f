/- The table of types: written by mkty.py. -/
import Derived.Test.YtpaehjjkfjgfiaaA9
import Derived.Test.YtpaehjjkfjgfiaaProg
import Derived.KernelRfl
namespace Go.Abs
open Go Go.Proofs

/-- int64 -/
theorem ty_row2 : TyRow Try.prog 2 ⟨.int .i64, 1, 8, [.int .i64 0], false⟩ := tyRow (z := (.int .i64 0)) (by kernel_rfl) (by kernel_rfl) rfl rfl (fun h => by cases h)
/-- int -/
theorem ty_row3 : TyRow Try.prog 3 ⟨.int .i64, 1, 8, [.int .i64 0], false⟩ := tyRow (z := (.int .i64 0)) (by kernel_rfl) (by kernel_rfl) rfl rfl (fun h => by cases h)
/-- bool -/
theorem ty_row4 : TyRow Try.prog 4 ⟨.bool, 1, 1, [.bool false], false⟩ := tyRow (z := (.bool false)) (by kernel_rfl) (by kernel_rfl) rfl rfl (fun h => by cases h)
/-- uint8 -/
theorem ty_row5 : TyRow Try.prog 5 ⟨.int .u8, 1, 1, [.int .u8 0], false⟩ := tyRow (z := (.int .u8 0)) (by kernel_rfl) (by kernel_rfl) rfl rfl (fun h => by cases h)
/-- string -/
theorem ty_row9 : TyRow Try.prog 9 ⟨.string, 1, 16, [.str ByteArray.empty], false⟩ := tyRow (z := (.string ByteArray.empty)) (by kernel_rfl) (by kernel_rfl) rfl rfl (fun h => by cases h)
/-- uintptr -/
theorem ty_row12 : TyRow Try.prog 12 ⟨.int .u64, 1, 8, [.int .u64 0], false⟩ := tyRow (z := (.int .u64 0)) (by kernel_rfl) (by kernel_rfl) rfl rfl (fun h => by cases h)
/-- int32 -/
theorem ty_row21 : TyRow Try.prog 21 ⟨.int .i32, 1, 4, [.int .i32 0], false⟩ := tyRow (z := (.int .i32 0)) (by kernel_rfl) (by kernel_rfl) rfl rfl (fun h => by cases h)
/-- []tarnlaw12.Ask -/
theorem ty_row22 : TyRow Try.prog 22 ⟨.slice 32, 1, 24, [.nils], false⟩ := tyRow (z := (.slice none 0 0)) (by kernel_rfl) (by kernel_rfl) rfl rfl (fun h => by cases h)
/-- []api.Tx -/
theorem ty_row23 : TyRow Try.prog 23 ⟨.slice 38, 1, 24, [.nils], false⟩ := tyRow (z := (.slice none 0 0)) (by kernel_rfl) (by kernel_rfl) rfl rfl (fun h => by cases h)
/-- uint64 -/
theorem ty_row24 : TyRow Try.prog 24 ⟨.int .u64, 1, 8, [.int .u64 0], false⟩ := tyRow (z := (.int .u64 0)) (by kernel_rfl) (by kernel_rfl) rfl rfl (fun h => by cases h)
/-- [4]uint64 -/
theorem ty_row25 : TyRow Try.prog 25 ⟨.array 4 24, 4, 32, [.int .u64 0, .int .u64 0, .int .u64 0, .int .u64 0], true⟩ := tyRow (z := (.agg #[.int .u64 0, .int .u64 0, .int .u64 0, .int .u64 0])) (by kernel_rfl) (by kernel_rfl) rfl rfl (fun _ => ⟨by kernel_rfl, by kernel_rfl⟩)
/-- api.U256 -/
theorem ty_row26 : TyRow Try.prog 26 ⟨.array 4 24, 4, 32, [.int .u64 0, .int .u64 0, .int .u64 0, .int .u64 0], true⟩ := tyRow (z := (.agg #[.int .u64 0, .int .u64 0, .int .u64 0, .int .u64 0])) (by kernel_rfl) (by kernel_rfl) rfl rfl (fun _ => ⟨by kernel_rfl, by kernel_rfl⟩)
/-- struct { Number int; Base api.U256; Excess int } -/
theorem ty_row27 : TyRow Try.prog 27 ⟨TypeDesc.struct #[{ name := "Number", type := 3, offset := 0, embedded := false, tag := "", pkgPath := "", byteOffset := 0 }, { name := "Base", type := 26, offset := 1, embedded := false, tag := "", pkgPath := "", byteOffset := 8 }, { name := "Excess", type := 3, offset := 5, embedded := false, tag := "", pkgPath := "", byteOffset := 40 }], 6, 48, [.int .i64 0, .int .u64 0, .int .u64 0, .int .u64 0, .int .u64 0, .int .i64 0], true⟩ := tyRow (z := (.agg #[.int .i64 0, .int .u64 0, .int .u64 0, .int .u64 0, .int .u64 0, .int .i64 0])) (by kernel_rfl) (by kernel_rfl) rfl rfl (fun _ => ⟨by kernel_rfl, by kernel_rfl⟩)
/-- api.Head -/
theorem ty_row28 : TyRow Try.prog 28 ⟨TypeDesc.struct #[{ name := "Number", type := 3, offset := 0, embedded := false, tag := "", pkgPath := "", byteOffset := 0 }, { name := "Base", type := 26, offset := 1, embedded := false, tag := "", pkgPath := "", byteOffset := 8 }, { name := "Excess", type := 3, offset := 5, embedded := false, tag := "", pkgPath := "", byteOffset := 40 }], 6, 48, [.int .i64 0, .int .u64 0, .int .u64 0, .int .u64 0, .int .u64 0, .int .i64 0], true⟩ := tyRow (z := (.agg #[.int .i64 0, .int .u64 0, .int .u64 0, .int .u64 0, .int .u64 0, .int .i64 0])) (by kernel_rfl) (by kernel_rfl) rfl rfl (fun _ => ⟨by kernel_rfl, by kernel_rfl⟩)
/-- struct { Dist int; Tip api.U256 } -/
theorem ty_row29 : TyRow Try.prog 29 ⟨TypeDesc.struct #[{ name := "Dist", type := 3, offset := 0, embedded := false, tag := "", pkgPath := "", byteOffset := 0 }, { name := "Tip", type := 26, offset := 1, embedded := false, tag := "", pkgPath := "", byteOffset := 8 }], 5, 40, [.int .i64 0, .int .u64 0, .int .u64 0, .int .u64 0, .int .u64 0], true⟩ := tyRow (z := (.agg #[.int .i64 0, .int .u64 0, .int .u64 0, .int .u64 0, .int .u64 0])) (by kernel_rfl) (by kernel_rfl) rfl rfl (fun _ => ⟨by kernel_rfl, by kernel_rfl⟩)
/-- api.Rank -/
theorem ty_row30 : TyRow Try.prog 30 ⟨TypeDesc.struct #[{ name := "Dist", type := 3, offset := 0, embedded := false, tag := "", pkgPath := "", byteOffset := 0 }, { name := "Tip", type := 26, offset := 1, embedded := false, tag := "", pkgPath := "", byteOffset := 8 }], 5, 40, [.int .i64 0, .int .u64 0, .int .u64 0, .int .u64 0, .int .u64 0], true⟩ := tyRow (z := (.agg #[.int .i64 0, .int .u64 0, .int .u64 0, .int .u64 0, .int .u64 0])) (by kernel_rfl) (by kernel_rfl) rfl rfl (fun _ => ⟨by kernel_rfl, by kernel_rfl⟩)
/-- struct { L []api.Tx; H api.Head; R api.Rank; S api.Rank } -/
theorem ty_row31 : TyRow Try.prog 31 ⟨TypeDesc.struct #[{ name := "L", type := 23, offset := 0, embedded := false, tag := "", pkgPath := "", byteOffset := 0 }, { name := "H", type := 28, offset := 1, embedded := false, tag := "", pkgPath := "", byteOffset := 24 }, { name := "R", type := 30, offset := 7, embedded := false, tag := "", pkgPath := "", byteOffset := 72 }, { name := "S", type := 30, offset := 12, embedded := false, tag := "", pkgPath := "", byteOffset := 112 }], 17, 152, [.nils, .int .i64 0, .int .u64 0, .int .u64 0, .int .u64 0, .int .u64 0, .int .i64 0, .int .i64 0, .int .u64 0, .int .u64 0, .int .u64 0, .int .u64 0, .int .i64 0, .int .u64 0, .int .u64 0, .int .u64 0, .int .u64 0], true⟩ := tyRow (z := (.agg #[.slice none 0 0, .int .i64 0, .int .u64 0, .int .u64 0, .int .u64 0, .int .u64 0, .int .i64 0, .int .i64 0, .int .u64 0, .int .u64 0, .int .u64 0, .int .u64 0, .int .i64 0, .int .u64 0, .int .u64 0, .int .u64 0, .int .u64 0])) (by kernel_rfl) (by kernel_rfl) rfl rfl (fun _ => ⟨by kernel_rfl, by kernel_rfl⟩)
/-- tarnlaw12.Ask -/
theorem ty_row32 : TyRow Try.prog 32 ⟨TypeDesc.struct #[{ name := "L", type := 23, offset := 0, embedded := false, tag := "", pkgPath := "", byteOffset := 0 }, { name := "H", type := 28, offset := 1, embedded := false, tag := "", pkgPath := "", byteOffset := 24 }, { name := "R", type := 30, offset := 7, embedded := false, tag := "", pkgPath := "", byteOffset := 72 }, { name := "S", type := 30, offset := 12, embedded := false, tag := "", pkgPath := "", byteOffset := 112 }], 17, 152, [.nils, .int .i64 0, .int .u64 0, .int .u64 0, .int .u64 0, .int .u64 0, .int .i64 0, .int .i64 0, .int .u64 0, .int .u64 0, .int .u64 0, .int .u64 0, .int .i64 0, .int .u64 0, .int .u64 0, .int .u64 0, .int .u64 0], true⟩ := tyRow (z := (.agg #[.slice none 0 0, .int .i64 0, .int .u64 0, .int .u64 0, .int .u64 0, .int .u64 0, .int .i64 0, .int .i64 0, .int .u64 0, .int .u64 0, .int .u64 0, .int .u64 0, .int .i64 0, .int .u64 0, .int .u64 0, .int .u64 0, .int .u64 0])) (by kernel_rfl) (by kernel_rfl) rfl rfl (fun _ => ⟨by kernel_rfl, by kernel_rfl⟩)
/-- []uint64 -/
theorem ty_row35 : TyRow Try.prog 35 ⟨.slice 24, 1, 24, [.nils], false⟩ := tyRow (z := (.slice none 0 0)) (by kernel_rfl) (by kernel_rfl) rfl rfl (fun h => by cases h)
/-- []string -/
theorem ty_row36 : TyRow Try.prog 36 ⟨.slice 9, 1, 24, [.nils], false⟩ := tyRow (z := (.slice none 0 0)) (by kernel_rfl) (by kernel_rfl) rfl rfl (fun h => by cases h)
/-- struct { From int; Nonce int; Tip api.U256; Cap api.U256; BlobCap api.U256; Value api.U256; Gas int; Hashes []uint64; Blobs []string } -/
theorem ty_row37 : TyRow Try.prog 37 ⟨TypeDesc.struct #[{ name := "From", type := 3, offset := 0, embedded := false, tag := "", pkgPath := "", byteOffset := 0 }, { name := "Nonce", type := 3, offset := 1, embedded := false, tag := "", pkgPath := "", byteOffset := 8 }, { name := "Tip", type := 26, offset := 2, embedded := false, tag := "", pkgPath := "", byteOffset := 16 }, { name := "Cap", type := 26, offset := 6, embedded := false, tag := "", pkgPath := "", byteOffset := 48 }, { name := "BlobCap", type := 26, offset := 10, embedded := false, tag := "", pkgPath := "", byteOffset := 80 }, { name := "Value", type := 26, offset := 14, embedded := false, tag := "", pkgPath := "", byteOffset := 112 }, { name := "Gas", type := 3, offset := 18, embedded := false, tag := "", pkgPath := "", byteOffset := 144 }, { name := "Hashes", type := 35, offset := 19, embedded := false, tag := "", pkgPath := "", byteOffset := 152 }, { name := "Blobs", type := 36, offset := 20, embedded := false, tag := "", pkgPath := "", byteOffset := 176 }], 21, 200, [.int .i64 0, .int .i64 0, .int .u64 0, .int .u64 0, .int .u64 0, .int .u64 0, .int .u64 0, .int .u64 0, .int .u64 0, .int .u64 0, .int .u64 0, .int .u64 0, .int .u64 0, .int .u64 0, .int .u64 0, .int .u64 0, .int .u64 0, .int .u64 0, .int .i64 0, .nils, .nils], true⟩ := tyRow (z := (.agg #[.int .i64 0, .int .i64 0, .int .u64 0, .int .u64 0, .int .u64 0, .int .u64 0, .int .u64 0, .int .u64 0, .int .u64 0, .int .u64 0, .int .u64 0, .int .u64 0, .int .u64 0, .int .u64 0, .int .u64 0, .int .u64 0, .int .u64 0, .int .u64 0, .int .i64 0, .slice none 0 0, .slice none 0 0])) (by kernel_rfl) (by kernel_rfl) rfl rfl (fun _ => ⟨by kernel_rfl, by kernel_rfl⟩)
/-- api.Tx -/
theorem ty_row38 : TyRow Try.prog 38 ⟨TypeDesc.struct #[{ name := "From", type := 3, offset := 0, embedded := false, tag := "", pkgPath := "", byteOffset := 0 }, { name := "Nonce", type := 3, offset := 1, embedded := false, tag := "", pkgPath := "", byteOffset := 8 }, { name := "Tip", type := 26, offset := 2, embedded := false, tag := "", pkgPath := "", byteOffset := 16 }, { name := "Cap", type := 26, offset := 6, embedded := false, tag := "", pkgPath := "", byteOffset := 48 }, { name := "BlobCap", type := 26, offset := 10, embedded := false, tag := "", pkgPath := "", byteOffset := 80 }, { name := "Value", type := 26, offset := 14, embedded := false, tag := "", pkgPath := "", byteOffset := 112 }, { name := "Gas", type := 3, offset := 18, embedded := false, tag := "", pkgPath := "", byteOffset := 144 }, { name := "Hashes", type := 35, offset := 19, embedded := false, tag := "", pkgPath := "", byteOffset := 152 }, { name := "Blobs", type := 36, offset := 20, embedded := false, tag := "", pkgPath := "", byteOffset := 176 }], 21, 200, [.int .i64 0, .int .i64 0, .int .u64 0, .int .u64 0, .int .u64 0, .int .u64 0, .int .u64 0, .int .u64 0, .int .u64 0, .int .u64 0, .int .u64 0, .int .u64 0, .int .u64 0, .int .u64 0, .int .u64 0, .int .u64 0, .int .u64 0, .int .u64 0, .int .i64 0, .nils, .nils], true⟩ := tyRow (z := (.agg #[.int .i64 0, .int .i64 0, .int .u64 0, .int .u64 0, .int .u64 0, .int .u64 0, .int .u64 0, .int .u64 0, .int .u64 0, .int .u64 0, .int .u64 0, .int .u64 0, .int .u64 0, .int .u64 0, .int .u64 0, .int .u64 0, .int .u64 0, .int .u64 0, .int .i64 0, .slice none 0 0, .slice none 0 0])) (by kernel_rfl) (by kernel_rfl) rfl rfl (fun _ => ⟨by kernel_rfl, by kernel_rfl⟩)
/-- api.Errno -/
theorem ty_row40 : TyRow Try.prog 40 ⟨.int .i64, 1, 8, [.int .i64 0], false⟩ := tyRow (z := (.int .i64 0)) (by kernel_rfl) (by kernel_rfl) rfl rfl (fun h => by cases h)
/-- struct { Gas int; Blob int } -/
theorem ty_row64 : TyRow Try.prog 64 ⟨TypeDesc.struct #[{ name := "Gas", type := 3, offset := 0, embedded := false, tag := "", pkgPath := "", byteOffset := 0 }, { name := "Blob", type := 3, offset := 1, embedded := false, tag := "", pkgPath := "", byteOffset := 8 }], 2, 16, [.int .i64 0, .int .i64 0], true⟩ := tyRow (z := (.agg #[.int .i64 0, .int .i64 0])) (by kernel_rfl) (by kernel_rfl) rfl rfl (fun _ => ⟨by kernel_rfl, by kernel_rfl⟩)
/-- tarnref12.Fees -/
theorem ty_row65 : TyRow Try.prog 65 ⟨TypeDesc.struct #[{ name := "Gas", type := 3, offset := 0, embedded := false, tag := "", pkgPath := "", byteOffset := 0 }, { name := "Blob", type := 3, offset := 1, embedded := false, tag := "", pkgPath := "", byteOffset := 8 }], 2, 16, [.int .i64 0, .int .i64 0], true⟩ := tyRow (z := (.agg #[.int .i64 0, .int .i64 0])) (by kernel_rfl) (by kernel_rfl) rfl rfl (fun _ => ⟨by kernel_rfl, by kernel_rfl⟩)
/-- [16]uint64 -/
theorem ty_row76 : TyRow Try.prog 76 ⟨.array 16 24, 16, 128, [.int .u64 0, .int .u64 0, .int .u64 0, .int .u64 0, .int .u64 0, .int .u64 0, .int .u64 0, .int .u64 0, .int .u64 0, .int .u64 0, .int .u64 0, .int .u64 0, .int .u64 0, .int .u64 0, .int .u64 0, .int .u64 0], true⟩ := tyRow (z := (.agg #[.int .u64 0, .int .u64 0, .int .u64 0, .int .u64 0, .int .u64 0, .int .u64 0, .int .u64 0, .int .u64 0, .int .u64 0, .int .u64 0, .int .u64 0, .int .u64 0, .int .u64 0, .int .u64 0, .int .u64 0, .int .u64 0])) (by kernel_rfl) (by kernel_rfl) rfl rfl (fun _ => ⟨by kernel_rfl, by kernel_rfl⟩)
/-- uint -/
theorem ty_row78 : TyRow Try.prog 78 ⟨.int .u64, 1, 8, [.int .u64 0], false⟩ := tyRow (z := (.int .u64 0)) (by kernel_rfl) (by kernel_rfl) rfl rfl (fun h => by cases h)
/-- [4]api.Errno -/
theorem ty_row87 : TyRow Try.prog 87 ⟨.array 4 40, 4, 32, [.int .i64 0, .int .i64 0, .int .i64 0, .int .i64 0], true⟩ := tyRow (z := (.agg #[.int .i64 0, .int .i64 0, .int .i64 0, .int .i64 0])) (by kernel_rfl) (by kernel_rfl) rfl rfl (fun _ => ⟨by kernel_rfl, by kernel_rfl⟩)
/-- [8]uint64 -/
theorem ty_row94 : TyRow Try.prog 94 ⟨.array 8 24, 8, 64, [.int .u64 0, .int .u64 0, .int .u64 0, .int .u64 0, .int .u64 0, .int .u64 0, .int .u64 0, .int .u64 0], true⟩ := tyRow (z := (.agg #[.int .u64 0, .int .u64 0, .int .u64 0, .int .u64 0, .int .u64 0, .int .u64 0, .int .u64 0, .int .u64 0])) (by kernel_rfl) (by kernel_rfl) rfl rfl (fun _ => ⟨by kernel_rfl, by kernel_rfl⟩)
/-- [5]uint64 -/
theorem ty_row99 : TyRow Try.prog 99 ⟨.array 5 24, 5, 40, [.int .u64 0, .int .u64 0, .int .u64 0, .int .u64 0, .int .u64 0], true⟩ := tyRow (z := (.agg #[.int .u64 0, .int .u64 0, .int .u64 0, .int .u64 0, .int .u64 0])) (by kernel_rfl) (by kernel_rfl) rfl rfl (fun _ => ⟨by kernel_rfl, by kernel_rfl⟩)
/-- uint32 -/
theorem ty_row116 : TyRow Try.prog 116 ⟨.int .u32, 1, 4, [.int .u32 0], false⟩ := tyRow (z := (.int .u32 0)) (by kernel_rfl) (by kernel_rfl) rfl rfl (fun h => by cases h)
/-- *uint8 -/
theorem ty_row120 : TyRow Try.prog 120 ⟨.pointer 5, 1, 8, [.nilp], false⟩ := tyRow (z := (.pointer none)) (by kernel_rfl) (by kernel_rfl) rfl rfl (fun h => by cases h)

def ty : Tab
  | 2 => some ⟨.int .i64, 1, 8, [.int .i64 0], false⟩
  | 3 => some ⟨.int .i64, 1, 8, [.int .i64 0], false⟩
  | 4 => some ⟨.bool, 1, 1, [.bool false], false⟩
  | 5 => some ⟨.int .u8, 1, 1, [.int .u8 0], false⟩
  | 9 => some ⟨.string, 1, 16, [.str ByteArray.empty], false⟩
  | 12 => some ⟨.int .u64, 1, 8, [.int .u64 0], false⟩
  | 21 => some ⟨.int .i32, 1, 4, [.int .i32 0], false⟩
  | 22 => some ⟨.slice 32, 1, 24, [.nils], false⟩
  | 23 => some ⟨.slice 38, 1, 24, [.nils], false⟩
  | 24 => some ⟨.int .u64, 1, 8, [.int .u64 0], false⟩
  | 25 => some ⟨.array 4 24, 4, 32, [.int .u64 0, .int .u64 0, .int .u64 0, .int .u64 0], true⟩
  | 26 => some ⟨.array 4 24, 4, 32, [.int .u64 0, .int .u64 0, .int .u64 0, .int .u64 0], true⟩
  | 27 => some ⟨TypeDesc.struct #[{ name := "Number", type := 3, offset := 0, embedded := false, tag := "", pkgPath := "", byteOffset := 0 }, { name := "Base", type := 26, offset := 1, embedded := false, tag := "", pkgPath := "", byteOffset := 8 }, { name := "Excess", type := 3, offset := 5, embedded := false, tag := "", pkgPath := "", byteOffset := 40 }], 6, 48, [.int .i64 0, .int .u64 0, .int .u64 0, .int .u64 0, .int .u64 0, .int .i64 0], true⟩
  | 28 => some ⟨TypeDesc.struct #[{ name := "Number", type := 3, offset := 0, embedded := false, tag := "", pkgPath := "", byteOffset := 0 }, { name := "Base", type := 26, offset := 1, embedded := false, tag := "", pkgPath := "", byteOffset := 8 }, { name := "Excess", type := 3, offset := 5, embedded := false, tag := "", pkgPath := "", byteOffset := 40 }], 6, 48, [.int .i64 0, .int .u64 0, .int .u64 0, .int .u64 0, .int .u64 0, .int .i64 0], true⟩
  | 29 => some ⟨TypeDesc.struct #[{ name := "Dist", type := 3, offset := 0, embedded := false, tag := "", pkgPath := "", byteOffset := 0 }, { name := "Tip", type := 26, offset := 1, embedded := false, tag := "", pkgPath := "", byteOffset := 8 }], 5, 40, [.int .i64 0, .int .u64 0, .int .u64 0, .int .u64 0, .int .u64 0], true⟩
  | 30 => some ⟨TypeDesc.struct #[{ name := "Dist", type := 3, offset := 0, embedded := false, tag := "", pkgPath := "", byteOffset := 0 }, { name := "Tip", type := 26, offset := 1, embedded := false, tag := "", pkgPath := "", byteOffset := 8 }], 5, 40, [.int .i64 0, .int .u64 0, .int .u64 0, .int .u64 0, .int .u64 0], true⟩
  | 31 => some ⟨TypeDesc.struct #[{ name := "L", type := 23, offset := 0, embedded := false, tag := "", pkgPath := "", byteOffset := 0 }, { name := "H", type := 28, offset := 1, embedded := false, tag := "", pkgPath := "", byteOffset := 24 }, { name := "R", type := 30, offset := 7, embedded := false, tag := "", pkgPath := "", byteOffset := 72 }, { name := "S", type := 30, offset := 12, embedded := false, tag := "", pkgPath := "", byteOffset := 112 }], 17, 152, [.nils, .int .i64 0, .int .u64 0, .int .u64 0, .int .u64 0, .int .u64 0, .int .i64 0, .int .i64 0, .int .u64 0, .int .u64 0, .int .u64 0, .int .u64 0, .int .i64 0, .int .u64 0, .int .u64 0, .int .u64 0, .int .u64 0], true⟩
  | 32 => some ⟨TypeDesc.struct #[{ name := "L", type := 23, offset := 0, embedded := false, tag := "", pkgPath := "", byteOffset := 0 }, { name := "H", type := 28, offset := 1, embedded := false, tag := "", pkgPath := "", byteOffset := 24 }, { name := "R", type := 30, offset := 7, embedded := false, tag := "", pkgPath := "", byteOffset := 72 }, { name := "S", type := 30, offset := 12, embedded := false, tag := "", pkgPath := "", byteOffset := 112 }], 17, 152, [.nils, .int .i64 0, .int .u64 0, .int .u64 0, .int .u64 0, .int .u64 0, .int .i64 0, .int .i64 0, .int .u64 0, .int .u64 0, .int .u64 0, .int .u64 0, .int .i64 0, .int .u64 0, .int .u64 0, .int .u64 0, .int .u64 0], true⟩
  | 35 => some ⟨.slice 24, 1, 24, [.nils], false⟩
  | 36 => some ⟨.slice 9, 1, 24, [.nils], false⟩
  | 37 => some ⟨TypeDesc.struct #[{ name := "From", type := 3, offset := 0, embedded := false, tag := "", pkgPath := "", byteOffset := 0 }, { name := "Nonce", type := 3, offset := 1, embedded := false, tag := "", pkgPath := "", byteOffset := 8 }, { name := "Tip", type := 26, offset := 2, embedded := false, tag := "", pkgPath := "", byteOffset := 16 }, { name := "Cap", type := 26, offset := 6, embedded := false, tag := "", pkgPath := "", byteOffset := 48 }, { name := "BlobCap", type := 26, offset := 10, embedded := false, tag := "", pkgPath := "", byteOffset := 80 }, { name := "Value", type := 26, offset := 14, embedded := false, tag := "", pkgPath := "", byteOffset := 112 }, { name := "Gas", type := 3, offset := 18, embedded := false, tag := "", pkgPath := "", byteOffset := 144 }, { name := "Hashes", type := 35, offset := 19, embedded := false, tag := "", pkgPath := "", byteOffset := 152 }, { name := "Blobs", type := 36, offset := 20, embedded := false, tag := "", pkgPath := "", byteOffset := 176 }], 21, 200, [.int .i64 0, .int .i64 0, .int .u64 0, .int .u64 0, .int .u64 0, .int .u64 0, .int .u64 0, .int .u64 0, .int .u64 0, .int .u64 0, .int .u64 0, .int .u64 0, .int .u64 0, .int .u64 0, .int .u64 0, .int .u64 0, .int .u64 0, .int .u64 0, .int .i64 0, .nils, .nils], true⟩
  | 38 => some ⟨TypeDesc.struct #[{ name := "From", type := 3, offset := 0, embedded := false, tag := "", pkgPath := "", byteOffset := 0 }, { name := "Nonce", type := 3, offset := 1, embedded := false, tag := "", pkgPath := "", byteOffset := 8 }, { name := "Tip", type := 26, offset := 2, embedded := false, tag := "", pkgPath := "", byteOffset := 16 }, { name := "Cap", type := 26, offset := 6, embedded := false, tag := "", pkgPath := "", byteOffset := 48 }, { name := "BlobCap", type := 26, offset := 10, embedded := false, tag := "", pkgPath := "", byteOffset := 80 }, { name := "Value", type := 26, offset := 14, embedded := false, tag := "", pkgPath := "", byteOffset := 112 }, { name := "Gas", type := 3, offset := 18, embedded := false, tag := "", pkgPath := "", byteOffset := 144 }, { name := "Hashes", type := 35, offset := 19, embedded := false, tag := "", pkgPath := "", byteOffset := 152 }, { name := "Blobs", type := 36, offset := 20, embedded := false, tag := "", pkgPath := "", byteOffset := 176 }], 21, 200, [.int .i64 0, .int .i64 0, .int .u64 0, .int .u64 0, .int .u64 0, .int .u64 0, .int .u64 0, .int .u64 0, .int .u64 0, .int .u64 0, .int .u64 0, .int .u64 0, .int .u64 0, .int .u64 0, .int .u64 0, .int .u64 0, .int .u64 0, .int .u64 0, .int .i64 0, .nils, .nils], true⟩
  | 40 => some ⟨.int .i64, 1, 8, [.int .i64 0], false⟩
  | 64 => some ⟨TypeDesc.struct #[{ name := "Gas", type := 3, offset := 0, embedded := false, tag := "", pkgPath := "", byteOffset := 0 }, { name := "Blob", type := 3, offset := 1, embedded := false, tag := "", pkgPath := "", byteOffset := 8 }], 2, 16, [.int .i64 0, .int .i64 0], true⟩
  | 65 => some ⟨TypeDesc.struct #[{ name := "Gas", type := 3, offset := 0, embedded := false, tag := "", pkgPath := "", byteOffset := 0 }, { name := "Blob", type := 3, offset := 1, embedded := false, tag := "", pkgPath := "", byteOffset := 8 }], 2, 16, [.int .i64 0, .int .i64 0], true⟩
  | 76 => some ⟨.array 16 24, 16, 128, [.int .u64 0, .int .u64 0, .int .u64 0, .int .u64 0, .int .u64 0, .int .u64 0, .int .u64 0, .int .u64 0, .int .u64 0, .int .u64 0, .int .u64 0, .int .u64 0, .int .u64 0, .int .u64 0, .int .u64 0, .int .u64 0], true⟩
  | 78 => some ⟨.int .u64, 1, 8, [.int .u64 0], false⟩
  | 87 => some ⟨.array 4 40, 4, 32, [.int .i64 0, .int .i64 0, .int .i64 0, .int .i64 0], true⟩
  | 94 => some ⟨.array 8 24, 8, 64, [.int .u64 0, .int .u64 0, .int .u64 0, .int .u64 0, .int .u64 0, .int .u64 0, .int .u64 0, .int .u64 0], true⟩
  | 99 => some ⟨.array 5 24, 5, 40, [.int .u64 0, .int .u64 0, .int .u64 0, .int .u64 0, .int .u64 0], true⟩
  | 116 => some ⟨.int .u32, 1, 4, [.int .u32 0], false⟩
  | 120 => some ⟨.pointer 5, 1, 8, [.nilp], false⟩
  | _ => none
theorem ty2 : ty 2 = some ⟨.int .i64, 1, 8, [.int .i64 0], false⟩ := rfl
theorem ty3 : ty 3 = some ⟨.int .i64, 1, 8, [.int .i64 0], false⟩ := rfl
theorem ty4 : ty 4 = some ⟨.bool, 1, 1, [.bool false], false⟩ := rfl
theorem ty5 : ty 5 = some ⟨.int .u8, 1, 1, [.int .u8 0], false⟩ := rfl
theorem ty9 : ty 9 = some ⟨.string, 1, 16, [.str ByteArray.empty], false⟩ := rfl
theorem ty12 : ty 12 = some ⟨.int .u64, 1, 8, [.int .u64 0], false⟩ := rfl
theorem ty21 : ty 21 = some ⟨.int .i32, 1, 4, [.int .i32 0], false⟩ := rfl
theorem ty22 : ty 22 = some ⟨.slice 32, 1, 24, [.nils], false⟩ := rfl
theorem ty23 : ty 23 = some ⟨.slice 38, 1, 24, [.nils], false⟩ := rfl
theorem ty24 : ty 24 = some ⟨.int .u64, 1, 8, [.int .u64 0], false⟩ := rfl
theorem ty25 : ty 25 = some ⟨.array 4 24, 4, 32, [.int .u64 0, .int .u64 0, .int .u64 0, .int .u64 0], true⟩ := rfl
theorem ty26 : ty 26 = some ⟨.array 4 24, 4, 32, [.int .u64 0, .int .u64 0, .int .u64 0, .int .u64 0], true⟩ := rfl
theorem ty27 : ty 27 = some ⟨TypeDesc.struct #[{ name := "Number", type := 3, offset := 0, embedded := false, tag := "", pkgPath := "", byteOffset := 0 }, { name := "Base", type := 26, offset := 1, embedded := false, tag := "", pkgPath := "", byteOffset := 8 }, { name := "Excess", type := 3, offset := 5, embedded := false, tag := "", pkgPath := "", byteOffset := 40 }], 6, 48, [.int .i64 0, .int .u64 0, .int .u64 0, .int .u64 0, .int .u64 0, .int .i64 0], true⟩ := rfl
theorem ty28 : ty 28 = some ⟨TypeDesc.struct #[{ name := "Number", type := 3, offset := 0, embedded := false, tag := "", pkgPath := "", byteOffset := 0 }, { name := "Base", type := 26, offset := 1, embedded := false, tag := "", pkgPath := "", byteOffset := 8 }, { name := "Excess", type := 3, offset := 5, embedded := false, tag := "", pkgPath := "", byteOffset := 40 }], 6, 48, [.int .i64 0, .int .u64 0, .int .u64 0, .int .u64 0, .int .u64 0, .int .i64 0], true⟩ := rfl
theorem ty29 : ty 29 = some ⟨TypeDesc.struct #[{ name := "Dist", type := 3, offset := 0, embedded := false, tag := "", pkgPath := "", byteOffset := 0 }, { name := "Tip", type := 26, offset := 1, embedded := false, tag := "", pkgPath := "", byteOffset := 8 }], 5, 40, [.int .i64 0, .int .u64 0, .int .u64 0, .int .u64 0, .int .u64 0], true⟩ := rfl
theorem ty30 : ty 30 = some ⟨TypeDesc.struct #[{ name := "Dist", type := 3, offset := 0, embedded := false, tag := "", pkgPath := "", byteOffset := 0 }, { name := "Tip", type := 26, offset := 1, embedded := false, tag := "", pkgPath := "", byteOffset := 8 }], 5, 40, [.int .i64 0, .int .u64 0, .int .u64 0, .int .u64 0, .int .u64 0], true⟩ := rfl
theorem ty31 : ty 31 = some ⟨TypeDesc.struct #[{ name := "L", type := 23, offset := 0, embedded := false, tag := "", pkgPath := "", byteOffset := 0 }, { name := "H", type := 28, offset := 1, embedded := false, tag := "", pkgPath := "", byteOffset := 24 }, { name := "R", type := 30, offset := 7, embedded := false, tag := "", pkgPath := "", byteOffset := 72 }, { name := "S", type := 30, offset := 12, embedded := false, tag := "", pkgPath := "", byteOffset := 112 }], 17, 152, [.nils, .int .i64 0, .int .u64 0, .int .u64 0, .int .u64 0, .int .u64 0, .int .i64 0, .int .i64 0, .int .u64 0, .int .u64 0, .int .u64 0, .int .u64 0, .int .i64 0, .int .u64 0, .int .u64 0, .int .u64 0, .int .u64 0], true⟩ := rfl
theorem ty32 : ty 32 = some ⟨TypeDesc.struct #[{ name := "L", type := 23, offset := 0, embedded := false, tag := "", pkgPath := "", byteOffset := 0 }, { name := "H", type := 28, offset := 1, embedded := false, tag := "", pkgPath := "", byteOffset := 24 }, { name := "R", type := 30, offset := 7, embedded := false, tag := "", pkgPath := "", byteOffset := 72 }, { name := "S", type := 30, offset := 12, embedded := false, tag := "", pkgPath := "", byteOffset := 112 }], 17, 152, [.nils, .int .i64 0, .int .u64 0, .int .u64 0, .int .u64 0, .int .u64 0, .int .i64 0, .int .i64 0, .int .u64 0, .int .u64 0, .int .u64 0, .int .u64 0, .int .i64 0, .int .u64 0, .int .u64 0, .int .u64 0, .int .u64 0], true⟩ := rfl
theorem ty35 : ty 35 = some ⟨.slice 24, 1, 24, [.nils], false⟩ := rfl
theorem ty36 : ty 36 = some ⟨.slice 9, 1, 24, [.nils], false⟩ := rfl
theorem ty37 : ty 37 = some ⟨TypeDesc.struct #[{ name := "From", type := 3, offset := 0, embedded := false, tag := "", pkgPath := "", byteOffset := 0 }, { name := "Nonce", type := 3, offset := 1, embedded := false, tag := "", pkgPath := "", byteOffset := 8 }, { name := "Tip", type := 26, offset := 2, embedded := false, tag := "", pkgPath := "", byteOffset := 16 }, { name := "Cap", type := 26, offset := 6, embedded := false, tag := "", pkgPath := "", byteOffset := 48 }, { name := "BlobCap", type := 26, offset := 10, embedded := false, tag := "", pkgPath := "", byteOffset := 80 }, { name := "Value", type := 26, offset := 14, embedded := false, tag := "", pkgPath := "", byteOffset := 112 }, { name := "Gas", type := 3, offset := 18, embedded := false, tag := "", pkgPath := "", byteOffset := 144 }, { name := "Hashes", type := 35, offset := 19, embedded := false, tag := "", pkgPath := "", byteOffset := 152 }, { name := "Blobs", type := 36, offset := 20, embedded := false, tag := "", pkgPath := "", byteOffset := 176 }], 21, 200, [.int .i64 0, .int .i64 0, .int .u64 0, .int .u64 0, .int .u64 0, .int .u64 0, .int .u64 0, .int .u64 0, .int .u64 0, .int .u64 0, .int .u64 0, .int .u64 0, .int .u64 0, .int .u64 0, .int .u64 0, .int .u64 0, .int .u64 0, .int .u64 0, .int .i64 0, .nils, .nils], true⟩ := rfl
theorem ty38 : ty 38 = some ⟨TypeDesc.struct #[{ name := "From", type := 3, offset := 0, embedded := false, tag := "", pkgPath := "", byteOffset := 0 }, { name := "Nonce", type := 3, offset := 1, embedded := false, tag := "", pkgPath := "", byteOffset := 8 }, { name := "Tip", type := 26, offset := 2, embedded := false, tag := "", pkgPath := "", byteOffset := 16 }, { name := "Cap", type := 26, offset := 6, embedded := false, tag := "", pkgPath := "", byteOffset := 48 }, { name := "BlobCap", type := 26, offset := 10, embedded := false, tag := "", pkgPath := "", byteOffset := 80 }, { name := "Value", type := 26, offset := 14, embedded := false, tag := "", pkgPath := "", byteOffset := 112 }, { name := "Gas", type := 3, offset := 18, embedded := false, tag := "", pkgPath := "", byteOffset := 144 }, { name := "Hashes", type := 35, offset := 19, embedded := false, tag := "", pkgPath := "", byteOffset := 152 }, { name := "Blobs", type := 36, offset := 20, embedded := false, tag := "", pkgPath := "", byteOffset := 176 }], 21, 200, [.int .i64 0, .int .i64 0, .int .u64 0, .int .u64 0, .int .u64 0, .int .u64 0, .int .u64 0, .int .u64 0, .int .u64 0, .int .u64 0, .int .u64 0, .int .u64 0, .int .u64 0, .int .u64 0, .int .u64 0, .int .u64 0, .int .u64 0, .int .u64 0, .int .i64 0, .nils, .nils], true⟩ := rfl
theorem ty40 : ty 40 = some ⟨.int .i64, 1, 8, [.int .i64 0], false⟩ := rfl
theorem ty64 : ty 64 = some ⟨TypeDesc.struct #[{ name := "Gas", type := 3, offset := 0, embedded := false, tag := "", pkgPath := "", byteOffset := 0 }, { name := "Blob", type := 3, offset := 1, embedded := false, tag := "", pkgPath := "", byteOffset := 8 }], 2, 16, [.int .i64 0, .int .i64 0], true⟩ := rfl
theorem ty65 : ty 65 = some ⟨TypeDesc.struct #[{ name := "Gas", type := 3, offset := 0, embedded := false, tag := "", pkgPath := "", byteOffset := 0 }, { name := "Blob", type := 3, offset := 1, embedded := false, tag := "", pkgPath := "", byteOffset := 8 }], 2, 16, [.int .i64 0, .int .i64 0], true⟩ := rfl
theorem ty76 : ty 76 = some ⟨.array 16 24, 16, 128, [.int .u64 0, .int .u64 0, .int .u64 0, .int .u64 0, .int .u64 0, .int .u64 0, .int .u64 0, .int .u64 0, .int .u64 0, .int .u64 0, .int .u64 0, .int .u64 0, .int .u64 0, .int .u64 0, .int .u64 0, .int .u64 0], true⟩ := rfl
theorem ty78 : ty 78 = some ⟨.int .u64, 1, 8, [.int .u64 0], false⟩ := rfl
theorem ty87 : ty 87 = some ⟨.array 4 40, 4, 32, [.int .i64 0, .int .i64 0, .int .i64 0, .int .i64 0], true⟩ := rfl
theorem ty94 : ty 94 = some ⟨.array 8 24, 8, 64, [.int .u64 0, .int .u64 0, .int .u64 0, .int .u64 0, .int .u64 0, .int .u64 0, .int .u64 0, .int .u64 0], true⟩ := rfl
theorem ty99 : ty 99 = some ⟨.array 5 24, 5, 40, [.int .u64 0, .int .u64 0, .int .u64 0, .int .u64 0, .int .u64 0], true⟩ := rfl
theorem ty116 : ty 116 = some ⟨.int .u32, 1, 4, [.int .u32 0], false⟩ := rfl
theorem ty120 : ty 120 = some ⟨.pointer 5, 1, 8, [.nilp], false⟩ := rfl
theorem ty_ok : TyOK Try.prog ty := by
  intro t i h
  unfold ty at h
  split at h
  · cases h; exact ty_row2
  · cases h; exact ty_row3
  · cases h; exact ty_row4
  · cases h; exact ty_row5
  · cases h; exact ty_row9
  · cases h; exact ty_row12
  · cases h; exact ty_row21
  · cases h; exact ty_row22
  · cases h; exact ty_row23
  · cases h; exact ty_row24
  · cases h; exact ty_row25
  · cases h; exact ty_row26
  · cases h; exact ty_row27
  · cases h; exact ty_row28
  · cases h; exact ty_row29
  · cases h; exact ty_row30
  · cases h; exact ty_row31
  · cases h; exact ty_row32
  · cases h; exact ty_row35
  · cases h; exact ty_row36
  · cases h; exact ty_row37
  · cases h; exact ty_row38
  · cases h; exact ty_row40
  · cases h; exact ty_row64
  · cases h; exact ty_row65
  · cases h; exact ty_row76
  · cases h; exact ty_row78
  · cases h; exact ty_row87
  · cases h; exact ty_row94
  · cases h; exact ty_row99
  · cases h; exact ty_row116
  · cases h; exact ty_row120
  · cases h
/-- Functions that are met by contracts that neither read nor write the heap. -/
def pureL : List FuncId := [0, 1, 2, 3, 4, 5, 6, 7, 8, 9, 10, 11, 12, 13, 14, 15, 16, 17, 18, 19, 20, 21, 22, 23, 25, 26, 27, 28, 29, 30, 31, 32, 33, 34, 35, 37, 38, 39, 40, 41, 42, 43, 44, 45, 46, 47, 48, 49, 50, 51, 52, 53, 54, 55, 56, 57, 58, 59, 60, 61, 62, 63, 64, 65, 67, 68, 69, 70, 71, 72, 73, 74, 75, 76, 77, 78, 79, 80, 81, 82, 83, 84, 85, 86, 87, 88, 89]
end Go.Abs
