/- The table of types: written by mkty.py. -/
import Derived.Test.YtemlnaipcdajeaaGreatM5
import Derived.Test.YtemlnaipcdajeaaGreatProg
import Derived.KernelRfl
set_option linter.unusedVariables false
set_option linter.unusedSimpArgs false
namespace Go.Abs
open Go Go.Proofs

/-- int64 -/
theorem ty_row2 : TyRow Tryz.prog 2 ⟨.int .i64, 1, 8, [.int .i64 0], false⟩ := tyRow (z := (.int .i64 0)) (by kernel_rfl) (by kernel_rfl) rfl rfl (fun h => by cases h)
/-- int -/
theorem ty_row3 : TyRow Tryz.prog 3 ⟨.int .i64, 1, 8, [.int .i64 0], false⟩ := tyRow (z := (.int .i64 0)) (by kernel_rfl) (by kernel_rfl) rfl rfl (fun h => by cases h)
/-- bool -/
theorem ty_row4 : TyRow Tryz.prog 4 ⟨.bool, 1, 1, [.bool false], false⟩ := tyRow (z := (.bool false)) (by kernel_rfl) (by kernel_rfl) rfl rfl (fun h => by cases h)
/-- uint8 -/
theorem ty_row5 : TyRow Tryz.prog 5 ⟨.int .u8, 1, 1, [.int .u8 0], false⟩ := tyRow (z := (.int .u8 0)) (by kernel_rfl) (by kernel_rfl) rfl rfl (fun h => by cases h)
/-- string -/
theorem ty_row9 : TyRow Tryz.prog 9 ⟨.string, 1, 16, [.str ByteArray.empty], false⟩ := tyRow (z := (.string ByteArray.empty)) (by kernel_rfl) (by kernel_rfl) rfl rfl (fun h => by cases h)
/-- uintptr -/
theorem ty_row12 : TyRow Tryz.prog 12 ⟨.int .u64, 1, 8, [.int .u64 0], false⟩ := tyRow (z := (.int .u64 0)) (by kernel_rfl) (by kernel_rfl) rfl rfl (fun h => by cases h)
/-- int32 -/
theorem ty_row21 : TyRow Tryz.prog 21 ⟨.int .i32, 1, 4, [.int .i32 0], false⟩ := tyRow (z := (.int .i32 0)) (by kernel_rfl) (by kernel_rfl) rfl rfl (fun h => by cases h)
/-- uint64 -/
theorem ty_row22 : TyRow Tryz.prog 22 ⟨.int .u64, 1, 8, [.int .u64 0], false⟩ := tyRow (z := (.int .u64 0)) (by kernel_rfl) (by kernel_rfl) rfl rfl (fun h => by cases h)
/-- [4]uint64 -/
theorem ty_row23 : TyRow Tryz.prog 23 ⟨.array 4 22, 4, 32, [.int .u64 0, .int .u64 0, .int .u64 0, .int .u64 0], true⟩ := tyRow (z := (.agg #[.int .u64 0, .int .u64 0, .int .u64 0, .int .u64 0])) (by kernel_rfl) (by kernel_rfl) rfl rfl (fun _ => ⟨by kernel_rfl, by kernel_rfl⟩)
/-- api.U256 -/
theorem ty_row24 : TyRow Tryz.prog 24 ⟨.array 4 22, 4, 32, [.int .u64 0, .int .u64 0, .int .u64 0, .int .u64 0], true⟩ := tyRow (z := (.agg #[.int .u64 0, .int .u64 0, .int .u64 0, .int .u64 0])) (by kernel_rfl) (by kernel_rfl) rfl rfl (fun _ => ⟨by kernel_rfl, by kernel_rfl⟩)
/-- struct { Number int; Base api.U256; Excess int } -/
theorem ty_row25 : TyRow Tryz.prog 25 ⟨TypeDesc.struct #[{ name := "Number", type := 3, offset := 0, embedded := false, tag := "", pkgPath := "", byteOffset := 0 }, { name := "Base", type := 24, offset := 1, embedded := false, tag := "", pkgPath := "", byteOffset := 8 }, { name := "Excess", type := 3, offset := 5, embedded := false, tag := "", pkgPath := "", byteOffset := 40 }], 6, 48, [.int .i64 0, .int .u64 0, .int .u64 0, .int .u64 0, .int .u64 0, .int .i64 0], true⟩ := tyRow (z := (.agg #[.int .i64 0, .int .u64 0, .int .u64 0, .int .u64 0, .int .u64 0, .int .i64 0])) (by kernel_rfl) (by kernel_rfl) rfl rfl (fun _ => ⟨by kernel_rfl, by kernel_rfl⟩)
/-- api.Head -/
theorem ty_row26 : TyRow Tryz.prog 26 ⟨TypeDesc.struct #[{ name := "Number", type := 3, offset := 0, embedded := false, tag := "", pkgPath := "", byteOffset := 0 }, { name := "Base", type := 24, offset := 1, embedded := false, tag := "", pkgPath := "", byteOffset := 8 }, { name := "Excess", type := 3, offset := 5, embedded := false, tag := "", pkgPath := "", byteOffset := 40 }], 6, 48, [.int .i64 0, .int .u64 0, .int .u64 0, .int .u64 0, .int .u64 0, .int .i64 0], true⟩ := tyRow (z := (.agg #[.int .i64 0, .int .u64 0, .int .u64 0, .int .u64 0, .int .u64 0, .int .i64 0])) (by kernel_rfl) (by kernel_rfl) rfl rfl (fun _ => ⟨by kernel_rfl, by kernel_rfl⟩)
/-- []api.Acct -/
theorem ty_row27 : TyRow Tryz.prog 27 ⟨.slice 107, 1, 24, [.nils], false⟩ := tyRow (z := (.slice none 0 0)) (by kernel_rfl) (by kernel_rfl) rfl rfl (fun h => by cases h)
/-- []api.Tx -/
theorem ty_row28 : TyRow Tryz.prog 28 ⟨.slice 56, 1, 24, [.nils], false⟩ := tyRow (z := (.slice none 0 0)) (by kernel_rfl) (by kernel_rfl) rfl rfl (fun h => by cases h)
/-- []api.Held -/
theorem ty_row29 : TyRow Tryz.prog 29 ⟨.slice 64, 1, 24, [.nils], false⟩ := tyRow (z := (.slice none 0 0)) (by kernel_rfl) (by kernel_rfl) rfl rfl (fun h => by cases h)
/-- struct { Room int; Head api.Head; Accts []api.Acct; Txs []api.Tx; Limbo []api.Held } -/
theorem ty_row30 : TyRow Tryz.prog 30 ⟨TypeDesc.struct #[{ name := "Room", type := 3, offset := 0, embedded := false, tag := "", pkgPath := "", byteOffset := 0 }, { name := "Head", type := 26, offset := 1, embedded := false, tag := "", pkgPath := "", byteOffset := 8 }, { name := "Accts", type := 27, offset := 7, embedded := false, tag := "", pkgPath := "", byteOffset := 56 }, { name := "Txs", type := 28, offset := 8, embedded := false, tag := "", pkgPath := "", byteOffset := 80 }, { name := "Limbo", type := 29, offset := 9, embedded := false, tag := "", pkgPath := "", byteOffset := 104 }], 10, 128, [.int .i64 0, .int .i64 0, .int .u64 0, .int .u64 0, .int .u64 0, .int .u64 0, .int .i64 0, .nils, .nils, .nils], true⟩ := tyRow (z := (.agg #[.int .i64 0, .int .i64 0, .int .u64 0, .int .u64 0, .int .u64 0, .int .u64 0, .int .i64 0, .slice none 0 0, .slice none 0 0, .slice none 0 0])) (by kernel_rfl) (by kernel_rfl) rfl rfl (fun _ => ⟨by kernel_rfl, by kernel_rfl⟩)
/-- api.Book -/
theorem ty_row31 : TyRow Tryz.prog 31 ⟨TypeDesc.struct #[{ name := "Room", type := 3, offset := 0, embedded := false, tag := "", pkgPath := "", byteOffset := 0 }, { name := "Head", type := 26, offset := 1, embedded := false, tag := "", pkgPath := "", byteOffset := 8 }, { name := "Accts", type := 27, offset := 7, embedded := false, tag := "", pkgPath := "", byteOffset := 56 }, { name := "Txs", type := 28, offset := 8, embedded := false, tag := "", pkgPath := "", byteOffset := 80 }, { name := "Limbo", type := 29, offset := 9, embedded := false, tag := "", pkgPath := "", byteOffset := 104 }], 10, 128, [.int .i64 0, .int .i64 0, .int .u64 0, .int .u64 0, .int .u64 0, .int .u64 0, .int .i64 0, .nils, .nils, .nils], true⟩ := tyRow (z := (.agg #[.int .i64 0, .int .i64 0, .int .u64 0, .int .u64 0, .int .u64 0, .int .u64 0, .int .i64 0, .slice none 0 0, .slice none 0 0, .slice none 0 0])) (by kernel_rfl) (by kernel_rfl) rfl rfl (fun _ => ⟨by kernel_rfl, by kernel_rfl⟩)
/-- [][2]api.U256 -/
theorem ty_row32 : TyRow Tryz.prog 32 ⟨.slice 36, 1, 24, [.nils], false⟩ := tyRow (z := (.slice none 0 0)) (by kernel_rfl) (by kernel_rfl) rfl rfl (fun h => by cases h)
/-- struct { B api.Book; Fees [][2]api.U256 } -/
theorem ty_row33 : TyRow Tryz.prog 33 ⟨TypeDesc.struct #[{ name := "B", type := 31, offset := 0, embedded := false, tag := "", pkgPath := "", byteOffset := 0 }, { name := "Fees", type := 32, offset := 10, embedded := false, tag := "", pkgPath := "", byteOffset := 128 }], 11, 152, [.int .i64 0, .int .i64 0, .int .u64 0, .int .u64 0, .int .u64 0, .int .u64 0, .int .i64 0, .nils, .nils, .nils, .nils], true⟩ := tyRow (z := (.agg #[.int .i64 0, .int .i64 0, .int .u64 0, .int .u64 0, .int .u64 0, .int .u64 0, .int .i64 0, .slice none 0 0, .slice none 0 0, .slice none 0 0, .slice none 0 0])) (by kernel_rfl) (by kernel_rfl) rfl rfl (fun _ => ⟨by kernel_rfl, by kernel_rfl⟩)
/-- tarnlaw23.Ask -/
theorem ty_row34 : TyRow Tryz.prog 34 ⟨TypeDesc.struct #[{ name := "B", type := 31, offset := 0, embedded := false, tag := "", pkgPath := "", byteOffset := 0 }, { name := "Fees", type := 32, offset := 10, embedded := false, tag := "", pkgPath := "", byteOffset := 128 }], 11, 152, [.int .i64 0, .int .i64 0, .int .u64 0, .int .u64 0, .int .u64 0, .int .u64 0, .int .i64 0, .nils, .nils, .nils, .nils], true⟩ := tyRow (z := (.agg #[.int .i64 0, .int .i64 0, .int .u64 0, .int .u64 0, .int .u64 0, .int .u64 0, .int .i64 0, .slice none 0 0, .slice none 0 0, .slice none 0 0, .slice none 0 0])) (by kernel_rfl) (by kernel_rfl) rfl rfl (fun _ => ⟨by kernel_rfl, by kernel_rfl⟩)
/-- [2]api.U256 -/
theorem ty_row36 : TyRow Tryz.prog 36 ⟨.array 2 24, 8, 64, [.int .u64 0, .int .u64 0, .int .u64 0, .int .u64 0, .int .u64 0, .int .u64 0, .int .u64 0, .int .u64 0], true⟩ := tyRow (z := (.agg #[.int .u64 0, .int .u64 0, .int .u64 0, .int .u64 0, .int .u64 0, .int .u64 0, .int .u64 0, .int .u64 0])) (by kernel_rfl) (by kernel_rfl) rfl rfl (fun _ => ⟨by kernel_rfl, by kernel_rfl⟩)
/-- api.Errno -/
theorem ty_row38 : TyRow Tryz.prog 38 ⟨.int .i64, 1, 8, [.int .i64 0], false⟩ := tyRow (z := (.int .i64 0)) (by kernel_rfl) (by kernel_rfl) rfl rfl (fun h => by cases h)
/-- []uint64 -/
theorem ty_row53 : TyRow Tryz.prog 53 ⟨.slice 22, 1, 24, [.nils], false⟩ := tyRow (z := (.slice none 0 0)) (by kernel_rfl) (by kernel_rfl) rfl rfl (fun h => by cases h)
/-- []string -/
theorem ty_row54 : TyRow Tryz.prog 54 ⟨.slice 9, 1, 24, [.nils], false⟩ := tyRow (z := (.slice none 0 0)) (by kernel_rfl) (by kernel_rfl) rfl rfl (fun h => by cases h)
/-- struct { From int; Nonce int; Tip api.U256; Cap api.U256; BlobCap api.U256; Value api.U256; Gas int; Hashes []uint64; Blobs []string } -/
theorem ty_row55 : TyRow Tryz.prog 55 ⟨TypeDesc.struct #[{ name := "From", type := 3, offset := 0, embedded := false, tag := "", pkgPath := "", byteOffset := 0 }, { name := "Nonce", type := 3, offset := 1, embedded := false, tag := "", pkgPath := "", byteOffset := 8 }, { name := "Tip", type := 24, offset := 2, embedded := false, tag := "", pkgPath := "", byteOffset := 16 }, { name := "Cap", type := 24, offset := 6, embedded := false, tag := "", pkgPath := "", byteOffset := 48 }, { name := "BlobCap", type := 24, offset := 10, embedded := false, tag := "", pkgPath := "", byteOffset := 80 }, { name := "Value", type := 24, offset := 14, embedded := false, tag := "", pkgPath := "", byteOffset := 112 }, { name := "Gas", type := 3, offset := 18, embedded := false, tag := "", pkgPath := "", byteOffset := 144 }, { name := "Hashes", type := 53, offset := 19, embedded := false, tag := "", pkgPath := "", byteOffset := 152 }, { name := "Blobs", type := 54, offset := 20, embedded := false, tag := "", pkgPath := "", byteOffset := 176 }], 21, 200, [.int .i64 0, .int .i64 0, .int .u64 0, .int .u64 0, .int .u64 0, .int .u64 0, .int .u64 0, .int .u64 0, .int .u64 0, .int .u64 0, .int .u64 0, .int .u64 0, .int .u64 0, .int .u64 0, .int .u64 0, .int .u64 0, .int .u64 0, .int .u64 0, .int .i64 0, .nils, .nils], true⟩ := tyRow (z := (.agg #[.int .i64 0, .int .i64 0, .int .u64 0, .int .u64 0, .int .u64 0, .int .u64 0, .int .u64 0, .int .u64 0, .int .u64 0, .int .u64 0, .int .u64 0, .int .u64 0, .int .u64 0, .int .u64 0, .int .u64 0, .int .u64 0, .int .u64 0, .int .u64 0, .int .i64 0, .slice none 0 0, .slice none 0 0])) (by kernel_rfl) (by kernel_rfl) rfl rfl (fun _ => ⟨by kernel_rfl, by kernel_rfl⟩)
/-- api.Tx -/
theorem ty_row56 : TyRow Tryz.prog 56 ⟨TypeDesc.struct #[{ name := "From", type := 3, offset := 0, embedded := false, tag := "", pkgPath := "", byteOffset := 0 }, { name := "Nonce", type := 3, offset := 1, embedded := false, tag := "", pkgPath := "", byteOffset := 8 }, { name := "Tip", type := 24, offset := 2, embedded := false, tag := "", pkgPath := "", byteOffset := 16 }, { name := "Cap", type := 24, offset := 6, embedded := false, tag := "", pkgPath := "", byteOffset := 48 }, { name := "BlobCap", type := 24, offset := 10, embedded := false, tag := "", pkgPath := "", byteOffset := 80 }, { name := "Value", type := 24, offset := 14, embedded := false, tag := "", pkgPath := "", byteOffset := 112 }, { name := "Gas", type := 3, offset := 18, embedded := false, tag := "", pkgPath := "", byteOffset := 144 }, { name := "Hashes", type := 53, offset := 19, embedded := false, tag := "", pkgPath := "", byteOffset := 152 }, { name := "Blobs", type := 54, offset := 20, embedded := false, tag := "", pkgPath := "", byteOffset := 176 }], 21, 200, [.int .i64 0, .int .i64 0, .int .u64 0, .int .u64 0, .int .u64 0, .int .u64 0, .int .u64 0, .int .u64 0, .int .u64 0, .int .u64 0, .int .u64 0, .int .u64 0, .int .u64 0, .int .u64 0, .int .u64 0, .int .u64 0, .int .u64 0, .int .u64 0, .int .i64 0, .nils, .nils], true⟩ := tyRow (z := (.agg #[.int .i64 0, .int .i64 0, .int .u64 0, .int .u64 0, .int .u64 0, .int .u64 0, .int .u64 0, .int .u64 0, .int .u64 0, .int .u64 0, .int .u64 0, .int .u64 0, .int .u64 0, .int .u64 0, .int .u64 0, .int .u64 0, .int .u64 0, .int .u64 0, .int .i64 0, .slice none 0 0, .slice none 0 0])) (by kernel_rfl) (by kernel_rfl) rfl rfl (fun _ => ⟨by kernel_rfl, by kernel_rfl⟩)
/-- []int -/
theorem ty_row57 : TyRow Tryz.prog 57 ⟨.slice 3, 1, 24, [.nils], false⟩ := tyRow (z := (.slice none 0 0)) (by kernel_rfl) (by kernel_rfl) rfl rfl (fun h => by cases h)
/-- struct { B api.Book; L []api.Tx; N []int } -/
theorem ty_row58 : TyRow Tryz.prog 58 ⟨TypeDesc.struct #[{ name := "B", type := 31, offset := 0, embedded := false, tag := "", pkgPath := "", byteOffset := 0 }, { name := "L", type := 28, offset := 10, embedded := false, tag := "", pkgPath := "", byteOffset := 128 }, { name := "N", type := 57, offset := 11, embedded := false, tag := "", pkgPath := "", byteOffset := 152 }], 12, 176, [.int .i64 0, .int .i64 0, .int .u64 0, .int .u64 0, .int .u64 0, .int .u64 0, .int .i64 0, .nils, .nils, .nils, .nils, .nils], true⟩ := tyRow (z := (.agg #[.int .i64 0, .int .i64 0, .int .u64 0, .int .u64 0, .int .u64 0, .int .u64 0, .int .i64 0, .slice none 0 0, .slice none 0 0, .slice none 0 0, .slice none 0 0, .slice none 0 0])) (by kernel_rfl) (by kernel_rfl) rfl rfl (fun _ => ⟨by kernel_rfl, by kernel_rfl⟩)
/-- tarnlaw16.Ask -/
theorem ty_row59 : TyRow Tryz.prog 59 ⟨TypeDesc.struct #[{ name := "B", type := 31, offset := 0, embedded := false, tag := "", pkgPath := "", byteOffset := 0 }, { name := "L", type := 28, offset := 10, embedded := false, tag := "", pkgPath := "", byteOffset := 128 }, { name := "N", type := 57, offset := 11, embedded := false, tag := "", pkgPath := "", byteOffset := 152 }], 12, 176, [.int .i64 0, .int .i64 0, .int .u64 0, .int .u64 0, .int .u64 0, .int .u64 0, .int .i64 0, .nils, .nils, .nils, .nils, .nils], true⟩ := tyRow (z := (.agg #[.int .i64 0, .int .i64 0, .int .u64 0, .int .u64 0, .int .u64 0, .int .u64 0, .int .i64 0, .slice none 0 0, .slice none 0 0, .slice none 0 0, .slice none 0 0, .slice none 0 0])) (by kernel_rfl) (by kernel_rfl) rfl rfl (fun _ => ⟨by kernel_rfl, by kernel_rfl⟩)
/-- struct { Tx api.Tx; Block int } -/
theorem ty_row63 : TyRow Tryz.prog 63 ⟨TypeDesc.struct #[{ name := "Tx", type := 56, offset := 0, embedded := false, tag := "", pkgPath := "", byteOffset := 0 }, { name := "Block", type := 3, offset := 21, embedded := false, tag := "", pkgPath := "", byteOffset := 200 }], 22, 208, [.int .i64 0, .int .i64 0, .int .u64 0, .int .u64 0, .int .u64 0, .int .u64 0, .int .u64 0, .int .u64 0, .int .u64 0, .int .u64 0, .int .u64 0, .int .u64 0, .int .u64 0, .int .u64 0, .int .u64 0, .int .u64 0, .int .u64 0, .int .u64 0, .int .i64 0, .nils, .nils, .int .i64 0], true⟩ := tyRow (z := (.agg #[.int .i64 0, .int .i64 0, .int .u64 0, .int .u64 0, .int .u64 0, .int .u64 0, .int .u64 0, .int .u64 0, .int .u64 0, .int .u64 0, .int .u64 0, .int .u64 0, .int .u64 0, .int .u64 0, .int .u64 0, .int .u64 0, .int .u64 0, .int .u64 0, .int .i64 0, .slice none 0 0, .slice none 0 0, .int .i64 0])) (by kernel_rfl) (by kernel_rfl) rfl rfl (fun _ => ⟨by kernel_rfl, by kernel_rfl⟩)
/-- api.Held -/
theorem ty_row64 : TyRow Tryz.prog 64 ⟨TypeDesc.struct #[{ name := "Tx", type := 56, offset := 0, embedded := false, tag := "", pkgPath := "", byteOffset := 0 }, { name := "Block", type := 3, offset := 21, embedded := false, tag := "", pkgPath := "", byteOffset := 200 }], 22, 208, [.int .i64 0, .int .i64 0, .int .u64 0, .int .u64 0, .int .u64 0, .int .u64 0, .int .u64 0, .int .u64 0, .int .u64 0, .int .u64 0, .int .u64 0, .int .u64 0, .int .u64 0, .int .u64 0, .int .u64 0, .int .u64 0, .int .u64 0, .int .u64 0, .int .i64 0, .nils, .nils, .int .i64 0], true⟩ := tyRow (z := (.agg #[.int .i64 0, .int .i64 0, .int .u64 0, .int .u64 0, .int .u64 0, .int .u64 0, .int .u64 0, .int .u64 0, .int .u64 0, .int .u64 0, .int .u64 0, .int .u64 0, .int .u64 0, .int .u64 0, .int .u64 0, .int .u64 0, .int .u64 0, .int .u64 0, .int .i64 0, .slice none 0 0, .slice none 0 0, .int .i64 0])) (by kernel_rfl) (by kernel_rfl) rfl rfl (fun _ => ⟨by kernel_rfl, by kernel_rfl⟩)
/-- struct { B api.Book; Fees [][2]api.U256; Gas []int } -/
theorem ty_row73 : TyRow Tryz.prog 73 ⟨TypeDesc.struct #[{ name := "B", type := 31, offset := 0, embedded := false, tag := "", pkgPath := "", byteOffset := 0 }, { name := "Fees", type := 32, offset := 10, embedded := false, tag := "", pkgPath := "", byteOffset := 128 }, { name := "Gas", type := 57, offset := 11, embedded := false, tag := "", pkgPath := "", byteOffset := 152 }], 12, 176, [.int .i64 0, .int .i64 0, .int .u64 0, .int .u64 0, .int .u64 0, .int .u64 0, .int .i64 0, .nils, .nils, .nils, .nils, .nils], true⟩ := tyRow (z := (.agg #[.int .i64 0, .int .i64 0, .int .u64 0, .int .u64 0, .int .u64 0, .int .u64 0, .int .i64 0, .slice none 0 0, .slice none 0 0, .slice none 0 0, .slice none 0 0, .slice none 0 0])) (by kernel_rfl) (by kernel_rfl) rfl rfl (fun _ => ⟨by kernel_rfl, by kernel_rfl⟩)
/-- tarnlaw24.Ask -/
theorem ty_row74 : TyRow Tryz.prog 74 ⟨TypeDesc.struct #[{ name := "B", type := 31, offset := 0, embedded := false, tag := "", pkgPath := "", byteOffset := 0 }, { name := "Fees", type := 32, offset := 10, embedded := false, tag := "", pkgPath := "", byteOffset := 128 }, { name := "Gas", type := 57, offset := 11, embedded := false, tag := "", pkgPath := "", byteOffset := 152 }], 12, 176, [.int .i64 0, .int .i64 0, .int .u64 0, .int .u64 0, .int .u64 0, .int .u64 0, .int .i64 0, .nils, .nils, .nils, .nils, .nils], true⟩ := tyRow (z := (.agg #[.int .i64 0, .int .i64 0, .int .u64 0, .int .u64 0, .int .u64 0, .int .u64 0, .int .i64 0, .slice none 0 0, .slice none 0 0, .slice none 0 0, .slice none 0 0, .slice none 0 0])) (by kernel_rfl) (by kernel_rfl) rfl rfl (fun _ => ⟨by kernel_rfl, by kernel_rfl⟩)
/-- [8]int -/
theorem ty_row76 : TyRow Tryz.prog 76 ⟨.array 8 3, 8, 64, [.int .i64 0, .int .i64 0, .int .i64 0, .int .i64 0, .int .i64 0, .int .i64 0, .int .i64 0, .int .i64 0], true⟩ := tyRow (z := (.agg #[.int .i64 0, .int .i64 0, .int .i64 0, .int .i64 0, .int .i64 0, .int .i64 0, .int .i64 0, .int .i64 0])) (by kernel_rfl) (by kernel_rfl) rfl rfl (fun _ => ⟨by kernel_rfl, by kernel_rfl⟩)
/-- struct { Nonce int; Balance api.U256 } -/
theorem ty_row106 : TyRow Tryz.prog 106 ⟨TypeDesc.struct #[{ name := "Nonce", type := 3, offset := 0, embedded := false, tag := "", pkgPath := "", byteOffset := 0 }, { name := "Balance", type := 24, offset := 1, embedded := false, tag := "", pkgPath := "", byteOffset := 8 }], 5, 40, [.int .i64 0, .int .u64 0, .int .u64 0, .int .u64 0, .int .u64 0], true⟩ := tyRow (z := (.agg #[.int .i64 0, .int .u64 0, .int .u64 0, .int .u64 0, .int .u64 0])) (by kernel_rfl) (by kernel_rfl) rfl rfl (fun _ => ⟨by kernel_rfl, by kernel_rfl⟩)
/-- api.Acct -/
theorem ty_row107 : TyRow Tryz.prog 107 ⟨TypeDesc.struct #[{ name := "Nonce", type := 3, offset := 0, embedded := false, tag := "", pkgPath := "", byteOffset := 0 }, { name := "Balance", type := 24, offset := 1, embedded := false, tag := "", pkgPath := "", byteOffset := 8 }], 5, 40, [.int .i64 0, .int .u64 0, .int .u64 0, .int .u64 0, .int .u64 0], true⟩ := tyRow (z := (.agg #[.int .i64 0, .int .u64 0, .int .u64 0, .int .u64 0, .int .u64 0])) (by kernel_rfl) (by kernel_rfl) rfl rfl (fun _ => ⟨by kernel_rfl, by kernel_rfl⟩)
/-- uint -/
theorem ty_row124 : TyRow Tryz.prog 124 ⟨.int .u64, 1, 8, [.int .u64 0], false⟩ := tyRow (z := (.int .u64 0)) (by kernel_rfl) (by kernel_rfl) rfl rfl (fun h => by cases h)
/-- [8][]api.Tx -/
theorem ty_row125 : TyRow Tryz.prog 125 ⟨.array 8 28, 8, 192, [.nils, .nils, .nils, .nils, .nils, .nils, .nils, .nils], true⟩ := tyRow (z := (.agg #[.slice none 0 0, .slice none 0 0, .slice none 0 0, .slice none 0 0, .slice none 0 0, .slice none 0 0, .slice none 0 0, .slice none 0 0])) (by kernel_rfl) (by kernel_rfl) rfl rfl (fun _ => ⟨by kernel_rfl, by kernel_rfl⟩)
/-- [3]api.U256 -/
theorem ty_row155 : TyRow Tryz.prog 155 ⟨.array 3 24, 12, 96, [.int .u64 0, .int .u64 0, .int .u64 0, .int .u64 0, .int .u64 0, .int .u64 0, .int .u64 0, .int .u64 0, .int .u64 0, .int .u64 0, .int .u64 0, .int .u64 0], true⟩ := tyRow (z := (.agg #[.int .u64 0, .int .u64 0, .int .u64 0, .int .u64 0, .int .u64 0, .int .u64 0, .int .u64 0, .int .u64 0, .int .u64 0, .int .u64 0, .int .u64 0, .int .u64 0])) (by kernel_rfl) (by kernel_rfl) rfl rfl (fun _ => ⟨by kernel_rfl, by kernel_rfl⟩)
/-- [16]uint64 -/
theorem ty_row170 : TyRow Tryz.prog 170 ⟨.array 16 22, 16, 128, [.int .u64 0, .int .u64 0, .int .u64 0, .int .u64 0, .int .u64 0, .int .u64 0, .int .u64 0, .int .u64 0, .int .u64 0, .int .u64 0, .int .u64 0, .int .u64 0, .int .u64 0, .int .u64 0, .int .u64 0, .int .u64 0], true⟩ := tyRow (z := (.agg #[.int .u64 0, .int .u64 0, .int .u64 0, .int .u64 0, .int .u64 0, .int .u64 0, .int .u64 0, .int .u64 0, .int .u64 0, .int .u64 0, .int .u64 0, .int .u64 0, .int .u64 0, .int .u64 0, .int .u64 0, .int .u64 0])) (by kernel_rfl) (by kernel_rfl) rfl rfl (fun _ => ⟨by kernel_rfl, by kernel_rfl⟩)
/-- []api.Item -/
theorem ty_row172 : TyRow Tryz.prog 172 ⟨.slice 174, 1, 24, [.nils], false⟩ := tyRow (z := (.slice none 0 0)) (by kernel_rfl) (by kernel_rfl) rfl rfl (fun h => by cases h)
/-- struct { List bool; Text string; Items []api.Item } -/
theorem ty_row173 : TyRow Tryz.prog 173 ⟨TypeDesc.struct #[{ name := "List", type := 4, offset := 0, embedded := false, tag := "", pkgPath := "", byteOffset := 0 }, { name := "Text", type := 9, offset := 1, embedded := false, tag := "", pkgPath := "", byteOffset := 8 }, { name := "Items", type := 172, offset := 2, embedded := false, tag := "", pkgPath := "", byteOffset := 24 }], 3, 48, [.bool false, .str ByteArray.empty, .nils], true⟩ := tyRow (z := (.agg #[.bool false, .string ByteArray.empty, .slice none 0 0])) (by kernel_rfl) (by kernel_rfl) rfl rfl (fun _ => ⟨by kernel_rfl, by kernel_rfl⟩)
/-- api.Item -/
theorem ty_row174 : TyRow Tryz.prog 174 ⟨TypeDesc.struct #[{ name := "List", type := 4, offset := 0, embedded := false, tag := "", pkgPath := "", byteOffset := 0 }, { name := "Text", type := 9, offset := 1, embedded := false, tag := "", pkgPath := "", byteOffset := 8 }, { name := "Items", type := 172, offset := 2, embedded := false, tag := "", pkgPath := "", byteOffset := 24 }], 3, 48, [.bool false, .str ByteArray.empty, .nils], true⟩ := tyRow (z := (.agg #[.bool false, .string ByteArray.empty, .slice none 0 0])) (by kernel_rfl) (by kernel_rfl) rfl rfl (fun _ => ⟨by kernel_rfl, by kernel_rfl⟩)
/-- [4]api.Errno -/
theorem ty_row187 : TyRow Tryz.prog 187 ⟨.array 4 38, 4, 32, [.int .i64 0, .int .i64 0, .int .i64 0, .int .i64 0], true⟩ := tyRow (z := (.agg #[.int .i64 0, .int .i64 0, .int .i64 0, .int .i64 0])) (by kernel_rfl) (by kernel_rfl) rfl rfl (fun _ => ⟨by kernel_rfl, by kernel_rfl⟩)
/-- []uint8 -/
theorem ty_row193 : TyRow Tryz.prog 193 ⟨.slice 5, 1, 24, [.nils], false⟩ := tyRow (z := (.slice none 0 0)) (by kernel_rfl) (by kernel_rfl) rfl rfl (fun h => by cases h)
/-- [8]uint8 -/
theorem ty_row196 : TyRow Tryz.prog 196 ⟨.array 8 5, 8, 8, [.int .u8 0, .int .u8 0, .int .u8 0, .int .u8 0, .int .u8 0, .int .u8 0, .int .u8 0, .int .u8 0], true⟩ := tyRow (z := (.agg #[.int .u8 0, .int .u8 0, .int .u8 0, .int .u8 0, .int .u8 0, .int .u8 0, .int .u8 0, .int .u8 0])) (by kernel_rfl) (by kernel_rfl) rfl rfl (fun _ => ⟨by kernel_rfl, by kernel_rfl⟩)
/-- [8]uint64 -/
theorem ty_row199 : TyRow Tryz.prog 199 ⟨.array 8 22, 8, 64, [.int .u64 0, .int .u64 0, .int .u64 0, .int .u64 0, .int .u64 0, .int .u64 0, .int .u64 0, .int .u64 0], true⟩ := tyRow (z := (.agg #[.int .u64 0, .int .u64 0, .int .u64 0, .int .u64 0, .int .u64 0, .int .u64 0, .int .u64 0, .int .u64 0])) (by kernel_rfl) (by kernel_rfl) rfl rfl (fun _ => ⟨by kernel_rfl, by kernel_rfl⟩)
/-- slices.sortedHint -/
theorem ty_row203 : TyRow Tryz.prog 203 ⟨.int .i64, 1, 8, [.int .i64 0], false⟩ := tyRow (z := (.int .i64 0)) (by kernel_rfl) (by kernel_rfl) rfl rfl (fun h => by cases h)
/-- uint32 -/
theorem ty_row211 : TyRow Tryz.prog 211 ⟨.int .u32, 1, 4, [.int .u32 0], false⟩ := tyRow (z := (.int .u32 0)) (by kernel_rfl) (by kernel_rfl) rfl rfl (fun h => by cases h)
/-- slices.xorshift -/
theorem ty_row221 : TyRow Tryz.prog 221 ⟨.int .u64, 1, 8, [.int .u64 0], false⟩ := tyRow (z := (.int .u64 0)) (by kernel_rfl) (by kernel_rfl) rfl rfl (fun h => by cases h)
/-- *int -/
theorem ty_row225 : TyRow Tryz.prog 225 ⟨.pointer 3, 1, 8, [.nilp], false⟩ := tyRow (z := (.pointer none)) (by kernel_rfl) (by kernel_rfl) rfl rfl (fun h => by cases h)
/-- *slices.xorshift -/
theorem ty_row231 : TyRow Tryz.prog 231 ⟨.pointer 221, 1, 8, [.nilp], false⟩ := tyRow (z := (.pointer none)) (by kernel_rfl) (by kernel_rfl) rfl rfl (fun h => by cases h)
/-- *uint8 -/
theorem ty_row244 : TyRow Tryz.prog 244 ⟨.pointer 5, 1, 8, [.nilp], false⟩ := tyRow (z := (.pointer none)) (by kernel_rfl) (by kernel_rfl) rfl rfl (fun h => by cases h)

def ty : Tab
  | 2 => some ⟨.int .i64, 1, 8, [.int .i64 0], false⟩
  | 3 => some ⟨.int .i64, 1, 8, [.int .i64 0], false⟩
  | 4 => some ⟨.bool, 1, 1, [.bool false], false⟩
  | 5 => some ⟨.int .u8, 1, 1, [.int .u8 0], false⟩
  | 9 => some ⟨.string, 1, 16, [.str ByteArray.empty], false⟩
  | 12 => some ⟨.int .u64, 1, 8, [.int .u64 0], false⟩
  | 21 => some ⟨.int .i32, 1, 4, [.int .i32 0], false⟩
  | 22 => some ⟨.int .u64, 1, 8, [.int .u64 0], false⟩
  | 23 => some ⟨.array 4 22, 4, 32, [.int .u64 0, .int .u64 0, .int .u64 0, .int .u64 0], true⟩
  | 24 => some ⟨.array 4 22, 4, 32, [.int .u64 0, .int .u64 0, .int .u64 0, .int .u64 0], true⟩
  | 25 => some ⟨TypeDesc.struct #[{ name := "Number", type := 3, offset := 0, embedded := false, tag := "", pkgPath := "", byteOffset := 0 }, { name := "Base", type := 24, offset := 1, embedded := false, tag := "", pkgPath := "", byteOffset := 8 }, { name := "Excess", type := 3, offset := 5, embedded := false, tag := "", pkgPath := "", byteOffset := 40 }], 6, 48, [.int .i64 0, .int .u64 0, .int .u64 0, .int .u64 0, .int .u64 0, .int .i64 0], true⟩
  | 26 => some ⟨TypeDesc.struct #[{ name := "Number", type := 3, offset := 0, embedded := false, tag := "", pkgPath := "", byteOffset := 0 }, { name := "Base", type := 24, offset := 1, embedded := false, tag := "", pkgPath := "", byteOffset := 8 }, { name := "Excess", type := 3, offset := 5, embedded := false, tag := "", pkgPath := "", byteOffset := 40 }], 6, 48, [.int .i64 0, .int .u64 0, .int .u64 0, .int .u64 0, .int .u64 0, .int .i64 0], true⟩
  | 27 => some ⟨.slice 107, 1, 24, [.nils], false⟩
  | 28 => some ⟨.slice 56, 1, 24, [.nils], false⟩
  | 29 => some ⟨.slice 64, 1, 24, [.nils], false⟩
  | 30 => some ⟨TypeDesc.struct #[{ name := "Room", type := 3, offset := 0, embedded := false, tag := "", pkgPath := "", byteOffset := 0 }, { name := "Head", type := 26, offset := 1, embedded := false, tag := "", pkgPath := "", byteOffset := 8 }, { name := "Accts", type := 27, offset := 7, embedded := false, tag := "", pkgPath := "", byteOffset := 56 }, { name := "Txs", type := 28, offset := 8, embedded := false, tag := "", pkgPath := "", byteOffset := 80 }, { name := "Limbo", type := 29, offset := 9, embedded := false, tag := "", pkgPath := "", byteOffset := 104 }], 10, 128, [.int .i64 0, .int .i64 0, .int .u64 0, .int .u64 0, .int .u64 0, .int .u64 0, .int .i64 0, .nils, .nils, .nils], true⟩
  | 31 => some ⟨TypeDesc.struct #[{ name := "Room", type := 3, offset := 0, embedded := false, tag := "", pkgPath := "", byteOffset := 0 }, { name := "Head", type := 26, offset := 1, embedded := false, tag := "", pkgPath := "", byteOffset := 8 }, { name := "Accts", type := 27, offset := 7, embedded := false, tag := "", pkgPath := "", byteOffset := 56 }, { name := "Txs", type := 28, offset := 8, embedded := false, tag := "", pkgPath := "", byteOffset := 80 }, { name := "Limbo", type := 29, offset := 9, embedded := false, tag := "", pkgPath := "", byteOffset := 104 }], 10, 128, [.int .i64 0, .int .i64 0, .int .u64 0, .int .u64 0, .int .u64 0, .int .u64 0, .int .i64 0, .nils, .nils, .nils], true⟩
  | 32 => some ⟨.slice 36, 1, 24, [.nils], false⟩
  | 33 => some ⟨TypeDesc.struct #[{ name := "B", type := 31, offset := 0, embedded := false, tag := "", pkgPath := "", byteOffset := 0 }, { name := "Fees", type := 32, offset := 10, embedded := false, tag := "", pkgPath := "", byteOffset := 128 }], 11, 152, [.int .i64 0, .int .i64 0, .int .u64 0, .int .u64 0, .int .u64 0, .int .u64 0, .int .i64 0, .nils, .nils, .nils, .nils], true⟩
  | 34 => some ⟨TypeDesc.struct #[{ name := "B", type := 31, offset := 0, embedded := false, tag := "", pkgPath := "", byteOffset := 0 }, { name := "Fees", type := 32, offset := 10, embedded := false, tag := "", pkgPath := "", byteOffset := 128 }], 11, 152, [.int .i64 0, .int .i64 0, .int .u64 0, .int .u64 0, .int .u64 0, .int .u64 0, .int .i64 0, .nils, .nils, .nils, .nils], true⟩
  | 36 => some ⟨.array 2 24, 8, 64, [.int .u64 0, .int .u64 0, .int .u64 0, .int .u64 0, .int .u64 0, .int .u64 0, .int .u64 0, .int .u64 0], true⟩
  | 38 => some ⟨.int .i64, 1, 8, [.int .i64 0], false⟩
  | 53 => some ⟨.slice 22, 1, 24, [.nils], false⟩
  | 54 => some ⟨.slice 9, 1, 24, [.nils], false⟩
  | 55 => some ⟨TypeDesc.struct #[{ name := "From", type := 3, offset := 0, embedded := false, tag := "", pkgPath := "", byteOffset := 0 }, { name := "Nonce", type := 3, offset := 1, embedded := false, tag := "", pkgPath := "", byteOffset := 8 }, { name := "Tip", type := 24, offset := 2, embedded := false, tag := "", pkgPath := "", byteOffset := 16 }, { name := "Cap", type := 24, offset := 6, embedded := false, tag := "", pkgPath := "", byteOffset := 48 }, { name := "BlobCap", type := 24, offset := 10, embedded := false, tag := "", pkgPath := "", byteOffset := 80 }, { name := "Value", type := 24, offset := 14, embedded := false, tag := "", pkgPath := "", byteOffset := 112 }, { name := "Gas", type := 3, offset := 18, embedded := false, tag := "", pkgPath := "", byteOffset := 144 }, { name := "Hashes", type := 53, offset := 19, embedded := false, tag := "", pkgPath := "", byteOffset := 152 }, { name := "Blobs", type := 54, offset := 20, embedded := false, tag := "", pkgPath := "", byteOffset := 176 }], 21, 200, [.int .i64 0, .int .i64 0, .int .u64 0, .int .u64 0, .int .u64 0, .int .u64 0, .int .u64 0, .int .u64 0, .int .u64 0, .int .u64 0, .int .u64 0, .int .u64 0, .int .u64 0, .int .u64 0, .int .u64 0, .int .u64 0, .int .u64 0, .int .u64 0, .int .i64 0, .nils, .nils], true⟩
  | 56 => some ⟨TypeDesc.struct #[{ name := "From", type := 3, offset := 0, embedded := false, tag := "", pkgPath := "", byteOffset := 0 }, { name := "Nonce", type := 3, offset := 1, embedded := false, tag := "", pkgPath := "", byteOffset := 8 }, { name := "Tip", type := 24, offset := 2, embedded := false, tag := "", pkgPath := "", byteOffset := 16 }, { name := "Cap", type := 24, offset := 6, embedded := false, tag := "", pkgPath := "", byteOffset := 48 }, { name := "BlobCap", type := 24, offset := 10, embedded := false, tag := "", pkgPath := "", byteOffset := 80 }, { name := "Value", type := 24, offset := 14, embedded := false, tag := "", pkgPath := "", byteOffset := 112 }, { name := "Gas", type := 3, offset := 18, embedded := false, tag := "", pkgPath := "", byteOffset := 144 }, { name := "Hashes", type := 53, offset := 19, embedded := false, tag := "", pkgPath := "", byteOffset := 152 }, { name := "Blobs", type := 54, offset := 20, embedded := false, tag := "", pkgPath := "", byteOffset := 176 }], 21, 200, [.int .i64 0, .int .i64 0, .int .u64 0, .int .u64 0, .int .u64 0, .int .u64 0, .int .u64 0, .int .u64 0, .int .u64 0, .int .u64 0, .int .u64 0, .int .u64 0, .int .u64 0, .int .u64 0, .int .u64 0, .int .u64 0, .int .u64 0, .int .u64 0, .int .i64 0, .nils, .nils], true⟩
  | 57 => some ⟨.slice 3, 1, 24, [.nils], false⟩
  | 58 => some ⟨TypeDesc.struct #[{ name := "B", type := 31, offset := 0, embedded := false, tag := "", pkgPath := "", byteOffset := 0 }, { name := "L", type := 28, offset := 10, embedded := false, tag := "", pkgPath := "", byteOffset := 128 }, { name := "N", type := 57, offset := 11, embedded := false, tag := "", pkgPath := "", byteOffset := 152 }], 12, 176, [.int .i64 0, .int .i64 0, .int .u64 0, .int .u64 0, .int .u64 0, .int .u64 0, .int .i64 0, .nils, .nils, .nils, .nils, .nils], true⟩
  | 59 => some ⟨TypeDesc.struct #[{ name := "B", type := 31, offset := 0, embedded := false, tag := "", pkgPath := "", byteOffset := 0 }, { name := "L", type := 28, offset := 10, embedded := false, tag := "", pkgPath := "", byteOffset := 128 }, { name := "N", type := 57, offset := 11, embedded := false, tag := "", pkgPath := "", byteOffset := 152 }], 12, 176, [.int .i64 0, .int .i64 0, .int .u64 0, .int .u64 0, .int .u64 0, .int .u64 0, .int .i64 0, .nils, .nils, .nils, .nils, .nils], true⟩
  | 63 => some ⟨TypeDesc.struct #[{ name := "Tx", type := 56, offset := 0, embedded := false, tag := "", pkgPath := "", byteOffset := 0 }, { name := "Block", type := 3, offset := 21, embedded := false, tag := "", pkgPath := "", byteOffset := 200 }], 22, 208, [.int .i64 0, .int .i64 0, .int .u64 0, .int .u64 0, .int .u64 0, .int .u64 0, .int .u64 0, .int .u64 0, .int .u64 0, .int .u64 0, .int .u64 0, .int .u64 0, .int .u64 0, .int .u64 0, .int .u64 0, .int .u64 0, .int .u64 0, .int .u64 0, .int .i64 0, .nils, .nils, .int .i64 0], true⟩
  | 64 => some ⟨TypeDesc.struct #[{ name := "Tx", type := 56, offset := 0, embedded := false, tag := "", pkgPath := "", byteOffset := 0 }, { name := "Block", type := 3, offset := 21, embedded := false, tag := "", pkgPath := "", byteOffset := 200 }], 22, 208, [.int .i64 0, .int .i64 0, .int .u64 0, .int .u64 0, .int .u64 0, .int .u64 0, .int .u64 0, .int .u64 0, .int .u64 0, .int .u64 0, .int .u64 0, .int .u64 0, .int .u64 0, .int .u64 0, .int .u64 0, .int .u64 0, .int .u64 0, .int .u64 0, .int .i64 0, .nils, .nils, .int .i64 0], true⟩
  | 73 => some ⟨TypeDesc.struct #[{ name := "B", type := 31, offset := 0, embedded := false, tag := "", pkgPath := "", byteOffset := 0 }, { name := "Fees", type := 32, offset := 10, embedded := false, tag := "", pkgPath := "", byteOffset := 128 }, { name := "Gas", type := 57, offset := 11, embedded := false, tag := "", pkgPath := "", byteOffset := 152 }], 12, 176, [.int .i64 0, .int .i64 0, .int .u64 0, .int .u64 0, .int .u64 0, .int .u64 0, .int .i64 0, .nils, .nils, .nils, .nils, .nils], true⟩
  | 74 => some ⟨TypeDesc.struct #[{ name := "B", type := 31, offset := 0, embedded := false, tag := "", pkgPath := "", byteOffset := 0 }, { name := "Fees", type := 32, offset := 10, embedded := false, tag := "", pkgPath := "", byteOffset := 128 }, { name := "Gas", type := 57, offset := 11, embedded := false, tag := "", pkgPath := "", byteOffset := 152 }], 12, 176, [.int .i64 0, .int .i64 0, .int .u64 0, .int .u64 0, .int .u64 0, .int .u64 0, .int .i64 0, .nils, .nils, .nils, .nils, .nils], true⟩
  | 76 => some ⟨.array 8 3, 8, 64, [.int .i64 0, .int .i64 0, .int .i64 0, .int .i64 0, .int .i64 0, .int .i64 0, .int .i64 0, .int .i64 0], true⟩
  | 106 => some ⟨TypeDesc.struct #[{ name := "Nonce", type := 3, offset := 0, embedded := false, tag := "", pkgPath := "", byteOffset := 0 }, { name := "Balance", type := 24, offset := 1, embedded := false, tag := "", pkgPath := "", byteOffset := 8 }], 5, 40, [.int .i64 0, .int .u64 0, .int .u64 0, .int .u64 0, .int .u64 0], true⟩
  | 107 => some ⟨TypeDesc.struct #[{ name := "Nonce", type := 3, offset := 0, embedded := false, tag := "", pkgPath := "", byteOffset := 0 }, { name := "Balance", type := 24, offset := 1, embedded := false, tag := "", pkgPath := "", byteOffset := 8 }], 5, 40, [.int .i64 0, .int .u64 0, .int .u64 0, .int .u64 0, .int .u64 0], true⟩
  | 124 => some ⟨.int .u64, 1, 8, [.int .u64 0], false⟩
  | 125 => some ⟨.array 8 28, 8, 192, [.nils, .nils, .nils, .nils, .nils, .nils, .nils, .nils], true⟩
  | 155 => some ⟨.array 3 24, 12, 96, [.int .u64 0, .int .u64 0, .int .u64 0, .int .u64 0, .int .u64 0, .int .u64 0, .int .u64 0, .int .u64 0, .int .u64 0, .int .u64 0, .int .u64 0, .int .u64 0], true⟩
  | 170 => some ⟨.array 16 22, 16, 128, [.int .u64 0, .int .u64 0, .int .u64 0, .int .u64 0, .int .u64 0, .int .u64 0, .int .u64 0, .int .u64 0, .int .u64 0, .int .u64 0, .int .u64 0, .int .u64 0, .int .u64 0, .int .u64 0, .int .u64 0, .int .u64 0], true⟩
  | 172 => some ⟨.slice 174, 1, 24, [.nils], false⟩
  | 173 => some ⟨TypeDesc.struct #[{ name := "List", type := 4, offset := 0, embedded := false, tag := "", pkgPath := "", byteOffset := 0 }, { name := "Text", type := 9, offset := 1, embedded := false, tag := "", pkgPath := "", byteOffset := 8 }, { name := "Items", type := 172, offset := 2, embedded := false, tag := "", pkgPath := "", byteOffset := 24 }], 3, 48, [.bool false, .str ByteArray.empty, .nils], true⟩
  | 174 => some ⟨TypeDesc.struct #[{ name := "List", type := 4, offset := 0, embedded := false, tag := "", pkgPath := "", byteOffset := 0 }, { name := "Text", type := 9, offset := 1, embedded := false, tag := "", pkgPath := "", byteOffset := 8 }, { name := "Items", type := 172, offset := 2, embedded := false, tag := "", pkgPath := "", byteOffset := 24 }], 3, 48, [.bool false, .str ByteArray.empty, .nils], true⟩
  | 187 => some ⟨.array 4 38, 4, 32, [.int .i64 0, .int .i64 0, .int .i64 0, .int .i64 0], true⟩
  | 193 => some ⟨.slice 5, 1, 24, [.nils], false⟩
  | 196 => some ⟨.array 8 5, 8, 8, [.int .u8 0, .int .u8 0, .int .u8 0, .int .u8 0, .int .u8 0, .int .u8 0, .int .u8 0, .int .u8 0], true⟩
  | 199 => some ⟨.array 8 22, 8, 64, [.int .u64 0, .int .u64 0, .int .u64 0, .int .u64 0, .int .u64 0, .int .u64 0, .int .u64 0, .int .u64 0], true⟩
  | 203 => some ⟨.int .i64, 1, 8, [.int .i64 0], false⟩
  | 211 => some ⟨.int .u32, 1, 4, [.int .u32 0], false⟩
  | 221 => some ⟨.int .u64, 1, 8, [.int .u64 0], false⟩
  | 225 => some ⟨.pointer 3, 1, 8, [.nilp], false⟩
  | 231 => some ⟨.pointer 221, 1, 8, [.nilp], false⟩
  | 244 => some ⟨.pointer 5, 1, 8, [.nilp], false⟩
  | _ => none
theorem ty2 : ty 2 = some ⟨.int .i64, 1, 8, [.int .i64 0], false⟩ := rfl
theorem ty3 : ty 3 = some ⟨.int .i64, 1, 8, [.int .i64 0], false⟩ := rfl
theorem ty4 : ty 4 = some ⟨.bool, 1, 1, [.bool false], false⟩ := rfl
theorem ty5 : ty 5 = some ⟨.int .u8, 1, 1, [.int .u8 0], false⟩ := rfl
theorem ty9 : ty 9 = some ⟨.string, 1, 16, [.str ByteArray.empty], false⟩ := rfl
theorem ty12 : ty 12 = some ⟨.int .u64, 1, 8, [.int .u64 0], false⟩ := rfl
theorem ty21 : ty 21 = some ⟨.int .i32, 1, 4, [.int .i32 0], false⟩ := rfl
theorem ty22 : ty 22 = some ⟨.int .u64, 1, 8, [.int .u64 0], false⟩ := rfl
theorem ty23 : ty 23 = some ⟨.array 4 22, 4, 32, [.int .u64 0, .int .u64 0, .int .u64 0, .int .u64 0], true⟩ := rfl
theorem ty24 : ty 24 = some ⟨.array 4 22, 4, 32, [.int .u64 0, .int .u64 0, .int .u64 0, .int .u64 0], true⟩ := rfl
theorem ty25 : ty 25 = some ⟨TypeDesc.struct #[{ name := "Number", type := 3, offset := 0, embedded := false, tag := "", pkgPath := "", byteOffset := 0 }, { name := "Base", type := 24, offset := 1, embedded := false, tag := "", pkgPath := "", byteOffset := 8 }, { name := "Excess", type := 3, offset := 5, embedded := false, tag := "", pkgPath := "", byteOffset := 40 }], 6, 48, [.int .i64 0, .int .u64 0, .int .u64 0, .int .u64 0, .int .u64 0, .int .i64 0], true⟩ := rfl
theorem ty26 : ty 26 = some ⟨TypeDesc.struct #[{ name := "Number", type := 3, offset := 0, embedded := false, tag := "", pkgPath := "", byteOffset := 0 }, { name := "Base", type := 24, offset := 1, embedded := false, tag := "", pkgPath := "", byteOffset := 8 }, { name := "Excess", type := 3, offset := 5, embedded := false, tag := "", pkgPath := "", byteOffset := 40 }], 6, 48, [.int .i64 0, .int .u64 0, .int .u64 0, .int .u64 0, .int .u64 0, .int .i64 0], true⟩ := rfl
theorem ty27 : ty 27 = some ⟨.slice 107, 1, 24, [.nils], false⟩ := rfl
theorem ty28 : ty 28 = some ⟨.slice 56, 1, 24, [.nils], false⟩ := rfl
theorem ty29 : ty 29 = some ⟨.slice 64, 1, 24, [.nils], false⟩ := rfl
theorem ty30 : ty 30 = some ⟨TypeDesc.struct #[{ name := "Room", type := 3, offset := 0, embedded := false, tag := "", pkgPath := "", byteOffset := 0 }, { name := "Head", type := 26, offset := 1, embedded := false, tag := "", pkgPath := "", byteOffset := 8 }, { name := "Accts", type := 27, offset := 7, embedded := false, tag := "", pkgPath := "", byteOffset := 56 }, { name := "Txs", type := 28, offset := 8, embedded := false, tag := "", pkgPath := "", byteOffset := 80 }, { name := "Limbo", type := 29, offset := 9, embedded := false, tag := "", pkgPath := "", byteOffset := 104 }], 10, 128, [.int .i64 0, .int .i64 0, .int .u64 0, .int .u64 0, .int .u64 0, .int .u64 0, .int .i64 0, .nils, .nils, .nils], true⟩ := rfl
theorem ty31 : ty 31 = some ⟨TypeDesc.struct #[{ name := "Room", type := 3, offset := 0, embedded := false, tag := "", pkgPath := "", byteOffset := 0 }, { name := "Head", type := 26, offset := 1, embedded := false, tag := "", pkgPath := "", byteOffset := 8 }, { name := "Accts", type := 27, offset := 7, embedded := false, tag := "", pkgPath := "", byteOffset := 56 }, { name := "Txs", type := 28, offset := 8, embedded := false, tag := "", pkgPath := "", byteOffset := 80 }, { name := "Limbo", type := 29, offset := 9, embedded := false, tag := "", pkgPath := "", byteOffset := 104 }], 10, 128, [.int .i64 0, .int .i64 0, .int .u64 0, .int .u64 0, .int .u64 0, .int .u64 0, .int .i64 0, .nils, .nils, .nils], true⟩ := rfl
theorem ty32 : ty 32 = some ⟨.slice 36, 1, 24, [.nils], false⟩ := rfl
theorem ty33 : ty 33 = some ⟨TypeDesc.struct #[{ name := "B", type := 31, offset := 0, embedded := false, tag := "", pkgPath := "", byteOffset := 0 }, { name := "Fees", type := 32, offset := 10, embedded := false, tag := "", pkgPath := "", byteOffset := 128 }], 11, 152, [.int .i64 0, .int .i64 0, .int .u64 0, .int .u64 0, .int .u64 0, .int .u64 0, .int .i64 0, .nils, .nils, .nils, .nils], true⟩ := rfl
theorem ty34 : ty 34 = some ⟨TypeDesc.struct #[{ name := "B", type := 31, offset := 0, embedded := false, tag := "", pkgPath := "", byteOffset := 0 }, { name := "Fees", type := 32, offset := 10, embedded := false, tag := "", pkgPath := "", byteOffset := 128 }], 11, 152, [.int .i64 0, .int .i64 0, .int .u64 0, .int .u64 0, .int .u64 0, .int .u64 0, .int .i64 0, .nils, .nils, .nils, .nils], true⟩ := rfl
theorem ty36 : ty 36 = some ⟨.array 2 24, 8, 64, [.int .u64 0, .int .u64 0, .int .u64 0, .int .u64 0, .int .u64 0, .int .u64 0, .int .u64 0, .int .u64 0], true⟩ := rfl
theorem ty38 : ty 38 = some ⟨.int .i64, 1, 8, [.int .i64 0], false⟩ := rfl
theorem ty53 : ty 53 = some ⟨.slice 22, 1, 24, [.nils], false⟩ := rfl
theorem ty54 : ty 54 = some ⟨.slice 9, 1, 24, [.nils], false⟩ := rfl
theorem ty55 : ty 55 = some ⟨TypeDesc.struct #[{ name := "From", type := 3, offset := 0, embedded := false, tag := "", pkgPath := "", byteOffset := 0 }, { name := "Nonce", type := 3, offset := 1, embedded := false, tag := "", pkgPath := "", byteOffset := 8 }, { name := "Tip", type := 24, offset := 2, embedded := false, tag := "", pkgPath := "", byteOffset := 16 }, { name := "Cap", type := 24, offset := 6, embedded := false, tag := "", pkgPath := "", byteOffset := 48 }, { name := "BlobCap", type := 24, offset := 10, embedded := false, tag := "", pkgPath := "", byteOffset := 80 }, { name := "Value", type := 24, offset := 14, embedded := false, tag := "", pkgPath := "", byteOffset := 112 }, { name := "Gas", type := 3, offset := 18, embedded := false, tag := "", pkgPath := "", byteOffset := 144 }, { name := "Hashes", type := 53, offset := 19, embedded := false, tag := "", pkgPath := "", byteOffset := 152 }, { name := "Blobs", type := 54, offset := 20, embedded := false, tag := "", pkgPath := "", byteOffset := 176 }], 21, 200, [.int .i64 0, .int .i64 0, .int .u64 0, .int .u64 0, .int .u64 0, .int .u64 0, .int .u64 0, .int .u64 0, .int .u64 0, .int .u64 0, .int .u64 0, .int .u64 0, .int .u64 0, .int .u64 0, .int .u64 0, .int .u64 0, .int .u64 0, .int .u64 0, .int .i64 0, .nils, .nils], true⟩ := rfl
theorem ty56 : ty 56 = some ⟨TypeDesc.struct #[{ name := "From", type := 3, offset := 0, embedded := false, tag := "", pkgPath := "", byteOffset := 0 }, { name := "Nonce", type := 3, offset := 1, embedded := false, tag := "", pkgPath := "", byteOffset := 8 }, { name := "Tip", type := 24, offset := 2, embedded := false, tag := "", pkgPath := "", byteOffset := 16 }, { name := "Cap", type := 24, offset := 6, embedded := false, tag := "", pkgPath := "", byteOffset := 48 }, { name := "BlobCap", type := 24, offset := 10, embedded := false, tag := "", pkgPath := "", byteOffset := 80 }, { name := "Value", type := 24, offset := 14, embedded := false, tag := "", pkgPath := "", byteOffset := 112 }, { name := "Gas", type := 3, offset := 18, embedded := false, tag := "", pkgPath := "", byteOffset := 144 }, { name := "Hashes", type := 53, offset := 19, embedded := false, tag := "", pkgPath := "", byteOffset := 152 }, { name := "Blobs", type := 54, offset := 20, embedded := false, tag := "", pkgPath := "", byteOffset := 176 }], 21, 200, [.int .i64 0, .int .i64 0, .int .u64 0, .int .u64 0, .int .u64 0, .int .u64 0, .int .u64 0, .int .u64 0, .int .u64 0, .int .u64 0, .int .u64 0, .int .u64 0, .int .u64 0, .int .u64 0, .int .u64 0, .int .u64 0, .int .u64 0, .int .u64 0, .int .i64 0, .nils, .nils], true⟩ := rfl
theorem ty57 : ty 57 = some ⟨.slice 3, 1, 24, [.nils], false⟩ := rfl
theorem ty58 : ty 58 = some ⟨TypeDesc.struct #[{ name := "B", type := 31, offset := 0, embedded := false, tag := "", pkgPath := "", byteOffset := 0 }, { name := "L", type := 28, offset := 10, embedded := false, tag := "", pkgPath := "", byteOffset := 128 }, { name := "N", type := 57, offset := 11, embedded := false, tag := "", pkgPath := "", byteOffset := 152 }], 12, 176, [.int .i64 0, .int .i64 0, .int .u64 0, .int .u64 0, .int .u64 0, .int .u64 0, .int .i64 0, .nils, .nils, .nils, .nils, .nils], true⟩ := rfl
theorem ty59 : ty 59 = some ⟨TypeDesc.struct #[{ name := "B", type := 31, offset := 0, embedded := false, tag := "", pkgPath := "", byteOffset := 0 }, { name := "L", type := 28, offset := 10, embedded := false, tag := "", pkgPath := "", byteOffset := 128 }, { name := "N", type := 57, offset := 11, embedded := false, tag := "", pkgPath := "", byteOffset := 152 }], 12, 176, [.int .i64 0, .int .i64 0, .int .u64 0, .int .u64 0, .int .u64 0, .int .u64 0, .int .i64 0, .nils, .nils, .nils, .nils, .nils], true⟩ := rfl
theorem ty63 : ty 63 = some ⟨TypeDesc.struct #[{ name := "Tx", type := 56, offset := 0, embedded := false, tag := "", pkgPath := "", byteOffset := 0 }, { name := "Block", type := 3, offset := 21, embedded := false, tag := "", pkgPath := "", byteOffset := 200 }], 22, 208, [.int .i64 0, .int .i64 0, .int .u64 0, .int .u64 0, .int .u64 0, .int .u64 0, .int .u64 0, .int .u64 0, .int .u64 0, .int .u64 0, .int .u64 0, .int .u64 0, .int .u64 0, .int .u64 0, .int .u64 0, .int .u64 0, .int .u64 0, .int .u64 0, .int .i64 0, .nils, .nils, .int .i64 0], true⟩ := rfl
theorem ty64 : ty 64 = some ⟨TypeDesc.struct #[{ name := "Tx", type := 56, offset := 0, embedded := false, tag := "", pkgPath := "", byteOffset := 0 }, { name := "Block", type := 3, offset := 21, embedded := false, tag := "", pkgPath := "", byteOffset := 200 }], 22, 208, [.int .i64 0, .int .i64 0, .int .u64 0, .int .u64 0, .int .u64 0, .int .u64 0, .int .u64 0, .int .u64 0, .int .u64 0, .int .u64 0, .int .u64 0, .int .u64 0, .int .u64 0, .int .u64 0, .int .u64 0, .int .u64 0, .int .u64 0, .int .u64 0, .int .i64 0, .nils, .nils, .int .i64 0], true⟩ := rfl
theorem ty73 : ty 73 = some ⟨TypeDesc.struct #[{ name := "B", type := 31, offset := 0, embedded := false, tag := "", pkgPath := "", byteOffset := 0 }, { name := "Fees", type := 32, offset := 10, embedded := false, tag := "", pkgPath := "", byteOffset := 128 }, { name := "Gas", type := 57, offset := 11, embedded := false, tag := "", pkgPath := "", byteOffset := 152 }], 12, 176, [.int .i64 0, .int .i64 0, .int .u64 0, .int .u64 0, .int .u64 0, .int .u64 0, .int .i64 0, .nils, .nils, .nils, .nils, .nils], true⟩ := rfl
theorem ty74 : ty 74 = some ⟨TypeDesc.struct #[{ name := "B", type := 31, offset := 0, embedded := false, tag := "", pkgPath := "", byteOffset := 0 }, { name := "Fees", type := 32, offset := 10, embedded := false, tag := "", pkgPath := "", byteOffset := 128 }, { name := "Gas", type := 57, offset := 11, embedded := false, tag := "", pkgPath := "", byteOffset := 152 }], 12, 176, [.int .i64 0, .int .i64 0, .int .u64 0, .int .u64 0, .int .u64 0, .int .u64 0, .int .i64 0, .nils, .nils, .nils, .nils, .nils], true⟩ := rfl
theorem ty76 : ty 76 = some ⟨.array 8 3, 8, 64, [.int .i64 0, .int .i64 0, .int .i64 0, .int .i64 0, .int .i64 0, .int .i64 0, .int .i64 0, .int .i64 0], true⟩ := rfl
theorem ty106 : ty 106 = some ⟨TypeDesc.struct #[{ name := "Nonce", type := 3, offset := 0, embedded := false, tag := "", pkgPath := "", byteOffset := 0 }, { name := "Balance", type := 24, offset := 1, embedded := false, tag := "", pkgPath := "", byteOffset := 8 }], 5, 40, [.int .i64 0, .int .u64 0, .int .u64 0, .int .u64 0, .int .u64 0], true⟩ := rfl
theorem ty107 : ty 107 = some ⟨TypeDesc.struct #[{ name := "Nonce", type := 3, offset := 0, embedded := false, tag := "", pkgPath := "", byteOffset := 0 }, { name := "Balance", type := 24, offset := 1, embedded := false, tag := "", pkgPath := "", byteOffset := 8 }], 5, 40, [.int .i64 0, .int .u64 0, .int .u64 0, .int .u64 0, .int .u64 0], true⟩ := rfl
theorem ty124 : ty 124 = some ⟨.int .u64, 1, 8, [.int .u64 0], false⟩ := rfl
theorem ty125 : ty 125 = some ⟨.array 8 28, 8, 192, [.nils, .nils, .nils, .nils, .nils, .nils, .nils, .nils], true⟩ := rfl
theorem ty155 : ty 155 = some ⟨.array 3 24, 12, 96, [.int .u64 0, .int .u64 0, .int .u64 0, .int .u64 0, .int .u64 0, .int .u64 0, .int .u64 0, .int .u64 0, .int .u64 0, .int .u64 0, .int .u64 0, .int .u64 0], true⟩ := rfl
theorem ty170 : ty 170 = some ⟨.array 16 22, 16, 128, [.int .u64 0, .int .u64 0, .int .u64 0, .int .u64 0, .int .u64 0, .int .u64 0, .int .u64 0, .int .u64 0, .int .u64 0, .int .u64 0, .int .u64 0, .int .u64 0, .int .u64 0, .int .u64 0, .int .u64 0, .int .u64 0], true⟩ := rfl
theorem ty172 : ty 172 = some ⟨.slice 174, 1, 24, [.nils], false⟩ := rfl
theorem ty173 : ty 173 = some ⟨TypeDesc.struct #[{ name := "List", type := 4, offset := 0, embedded := false, tag := "", pkgPath := "", byteOffset := 0 }, { name := "Text", type := 9, offset := 1, embedded := false, tag := "", pkgPath := "", byteOffset := 8 }, { name := "Items", type := 172, offset := 2, embedded := false, tag := "", pkgPath := "", byteOffset := 24 }], 3, 48, [.bool false, .str ByteArray.empty, .nils], true⟩ := rfl
theorem ty174 : ty 174 = some ⟨TypeDesc.struct #[{ name := "List", type := 4, offset := 0, embedded := false, tag := "", pkgPath := "", byteOffset := 0 }, { name := "Text", type := 9, offset := 1, embedded := false, tag := "", pkgPath := "", byteOffset := 8 }, { name := "Items", type := 172, offset := 2, embedded := false, tag := "", pkgPath := "", byteOffset := 24 }], 3, 48, [.bool false, .str ByteArray.empty, .nils], true⟩ := rfl
theorem ty187 : ty 187 = some ⟨.array 4 38, 4, 32, [.int .i64 0, .int .i64 0, .int .i64 0, .int .i64 0], true⟩ := rfl
theorem ty193 : ty 193 = some ⟨.slice 5, 1, 24, [.nils], false⟩ := rfl
theorem ty196 : ty 196 = some ⟨.array 8 5, 8, 8, [.int .u8 0, .int .u8 0, .int .u8 0, .int .u8 0, .int .u8 0, .int .u8 0, .int .u8 0, .int .u8 0], true⟩ := rfl
theorem ty199 : ty 199 = some ⟨.array 8 22, 8, 64, [.int .u64 0, .int .u64 0, .int .u64 0, .int .u64 0, .int .u64 0, .int .u64 0, .int .u64 0, .int .u64 0], true⟩ := rfl
theorem ty203 : ty 203 = some ⟨.int .i64, 1, 8, [.int .i64 0], false⟩ := rfl
theorem ty211 : ty 211 = some ⟨.int .u32, 1, 4, [.int .u32 0], false⟩ := rfl
theorem ty221 : ty 221 = some ⟨.int .u64, 1, 8, [.int .u64 0], false⟩ := rfl
theorem ty225 : ty 225 = some ⟨.pointer 3, 1, 8, [.nilp], false⟩ := rfl
theorem ty231 : ty 231 = some ⟨.pointer 221, 1, 8, [.nilp], false⟩ := rfl
theorem ty244 : ty 244 = some ⟨.pointer 5, 1, 8, [.nilp], false⟩ := rfl
theorem ty_ok : TyOK Tryz.prog ty := by
  intro t i h
  unfold ty at h
  split at h
  · cases h; exact ty_row2
  · cases h; exact ty_row3
  · cases h; exact ty_row4
  · cases h; exact ty_row5
  · cases h; exact ty_row9
  · cases h; exact ty_row12
  · cases h; exact ty_row21
  · cases h; exact ty_row22
  · cases h; exact ty_row23
  · cases h; exact ty_row24
  · cases h; exact ty_row25
  · cases h; exact ty_row26
  · cases h; exact ty_row27
  · cases h; exact ty_row28
  · cases h; exact ty_row29
  · cases h; exact ty_row30
  · cases h; exact ty_row31
  · cases h; exact ty_row32
  · cases h; exact ty_row33
  · cases h; exact ty_row34
  · cases h; exact ty_row36
  · cases h; exact ty_row38
  · cases h; exact ty_row53
  · cases h; exact ty_row54
  · cases h; exact ty_row55
  · cases h; exact ty_row56
  · cases h; exact ty_row57
  · cases h; exact ty_row58
  · cases h; exact ty_row59
  · cases h; exact ty_row63
  · cases h; exact ty_row64
  · cases h; exact ty_row73
  · cases h; exact ty_row74
  · cases h; exact ty_row76
  · cases h; exact ty_row106
  · cases h; exact ty_row107
  · cases h; exact ty_row124
  · cases h; exact ty_row125
  · cases h; exact ty_row155
  · cases h; exact ty_row170
  · cases h; exact ty_row172
  · cases h; exact ty_row173
  · cases h; exact ty_row174
  · cases h; exact ty_row187
  · cases h; exact ty_row193
  · cases h; exact ty_row196
  · cases h; exact ty_row199
  · cases h; exact ty_row203
  · cases h; exact ty_row211
  · cases h; exact ty_row221
  · cases h; exact ty_row225
  · cases h; exact ty_row231
  · cases h; exact ty_row244
  · cases h
/-- Functions that are met by contracts that neither read nor write the heap. -/
def pureL : List FuncId := [0, 1, 2, 3, 4, 5, 6, 7, 8, 9, 10, 11, 12, 13, 14, 15, 16, 17, 18, 19, 20, 21, 23, 24, 25, 26, 27, 29, 30, 31, 32, 33, 34, 35, 36, 37, 38, 39, 40, 41, 42, 43, 44, 45, 46, 47, 48, 49, 50, 51, 52, 54, 55, 56, 58, 59, 61, 62, 64, 65, 66, 67, 68, 69, 70, 71, 72, 73, 74, 75, 76, 77, 78, 79, 80, 81, 82, 83, 84, 85, 86, 87, 88, 89, 90, 91, 92, 93, 94, 95, 96, 97, 98, 99, 100, 101, 102, 104, 105, 107, 108, 109, 111, 112, 113, 114, 115, 116, 117, 118, 119, 120, 121, 122, 123, 124, 125, 126, 127, 128, 129, 130, 131, 132, 133, 134, 135, 136, 137, 138, 139, 140, 141, 144, 145, 146, 147, 148, 149, 152, 153, 154, 155, 156, 157, 158, 159, 160, 161, 162, 163, 164, 165, 166, 167, 168, 169, 170, 172, 173, 174, 176, 177, 178, 179, 180, 182, 184, 191, 194, 195, 196, 197, 198, 199, 201, 204, 207, 208, 209, 210, 211, 212, 214, 215, 216, 217, 218, 219, 220, 221, 222, 223, 224, 225, 226, 227, 228, 229, 230]
end Go.Abs
