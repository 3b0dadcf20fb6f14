/- A part of the proofs over this seat. -/
import Derived.Test.YthicacphcljdmaaQAbsSim
import Derived.Test.YthicacphcljdmaaProg
import Derived.KernelRfl
import Derived.IntWalk
namespace Go.Proofs.Ythicacphcljdmaa
open Go Go.Abs Go.Proofs
set_option maxRecDepth 100000
set_option linter.unusedVariables false
theorem agg118 : aggT Try.prog 118 = some false := by kernel_rfl
theorem agg3 : aggT Try.prog 3 = some false := by kernel_rfl
theorem agg4 : aggT Try.prog 4 = some false := by kernel_rfl
theorem agg60 : aggT Try.prog 60 = some false := by kernel_rfl
theorem agg61 : aggT Try.prog 61 = some false := by kernel_rfl
theorem agg64 : aggT Try.prog 64 = some false := by kernel_rfl
theorem agg66 : aggT Try.prog 66 = some true := by kernel_rfl
theorem agg71 : aggT Try.prog 71 = some true := by kernel_rfl
theorem bytes3 : Try.prog.bytesOf 3 = 8 := by kernel_rfl
theorem bytes64 : Try.prog.bytesOf 64 = 8 := by kernel_rfl
theorem bytes71 : Try.prog.bytesOf 71 = 48 := by kernel_rfl
theorem call10 : callable Try.prog 10 = true := by kernel_rfl
theorem call11 : callable Try.prog 11 = true := by kernel_rfl
theorem call12 : callable Try.prog 12 = true := by kernel_rfl
theorem call13 : callable Try.prog 13 = true := by kernel_rfl
theorem call14 : callable Try.prog 14 = true := by kernel_rfl
theorem call15 : callable Try.prog 15 = true := by kernel_rfl
theorem call16 : callable Try.prog 16 = true := by kernel_rfl
theorem call17 : callable Try.prog 17 = true := by kernel_rfl
theorem call18 : callable Try.prog 18 = true := by kernel_rfl
theorem call20 : callable Try.prog 20 = true := by kernel_rfl
theorem call21 : callable Try.prog 21 = true := by kernel_rfl
theorem call22 : callable Try.prog 22 = true := by kernel_rfl
theorem call23 : callable Try.prog 23 = true := by kernel_rfl
theorem call24 : callable Try.prog 24 = true := by kernel_rfl
theorem call25 : callable Try.prog 25 = true := by kernel_rfl
theorem call26 : callable Try.prog 26 = true := by kernel_rfl
theorem call27 : callable Try.prog 27 = true := by kernel_rfl
theorem call28 : callable Try.prog 28 = true := by kernel_rfl
theorem call29 : callable Try.prog 29 = true := by kernel_rfl
theorem call3 : callable Try.prog 3 = true := by kernel_rfl
theorem call30 : callable Try.prog 30 = true := by kernel_rfl
theorem call31 : callable Try.prog 31 = true := by kernel_rfl
theorem call32 : callable Try.prog 32 = true := by kernel_rfl
theorem call33 : callable Try.prog 33 = true := by kernel_rfl
theorem call42 : callable Try.prog 42 = true := by kernel_rfl
theorem call43 : callable Try.prog 43 = true := by kernel_rfl
theorem call44 : callable Try.prog 44 = true := by kernel_rfl
theorem call45 : callable Try.prog 45 = true := by kernel_rfl
theorem call46 : callable Try.prog 46 = true := by kernel_rfl
theorem call47 : callable Try.prog 47 = true := by kernel_rfl
theorem call48 : callable Try.prog 48 = true := by kernel_rfl
theorem call49 : callable Try.prog 49 = true := by kernel_rfl
theorem call50 : callable Try.prog 50 = true := by kernel_rfl
theorem call57 : callable Try.prog 57 = true := by kernel_rfl
theorem call58 : callable Try.prog 58 = true := by kernel_rfl
theorem call59 : callable Try.prog 59 = true := by kernel_rfl
theorem call6 : callable Try.prog 6 = true := by kernel_rfl
theorem call60 : callable Try.prog 60 = true := by kernel_rfl
theorem call61 : callable Try.prog 61 = true := by kernel_rfl
theorem call62 : callable Try.prog 62 = true := by kernel_rfl
theorem call63 : callable Try.prog 63 = true := by kernel_rfl
theorem call64 : callable Try.prog 64 = true := by kernel_rfl
theorem call65 : callable Try.prog 65 = true := by kernel_rfl
theorem call66 : callable Try.prog 66 = true := by kernel_rfl
theorem call67 : callable Try.prog 67 = true := by kernel_rfl
theorem call68 : callable Try.prog 68 = true := by kernel_rfl
theorem call69 : callable Try.prog 69 = true := by kernel_rfl
theorem call7 : callable Try.prog 7 = true := by kernel_rfl
theorem call70 : callable Try.prog 70 = true := by kernel_rfl
theorem call71 : callable Try.prog 71 = true := by kernel_rfl
theorem call72 : callable Try.prog 72 = true := by kernel_rfl
theorem call73 : callable Try.prog 73 = true := by kernel_rfl
theorem call8 : callable Try.prog 8 = true := by kernel_rfl
theorem call9 : callable Try.prog 9 = true := by kernel_rfl
theorem field34_1 : fieldT Try.prog 34 1 = some (1, 3) := by kernel_rfl
theorem field34_2 : fieldT Try.prog 34 2 = some (2, 3) := by kernel_rfl
theorem field34_3 : fieldT Try.prog 34 3 = some (3, 3) := by kernel_rfl
theorem field34_4 : fieldT Try.prog 34 4 = some (4, 4) := by kernel_rfl
theorem field63_0 : fieldT Try.prog 63 0 = some (0, 60) := by kernel_rfl
theorem field63_1 : fieldT Try.prog 63 1 = some (1, 61) := by kernel_rfl
theorem field63_2 : fieldT Try.prog 63 2 = some (2, 61) := by kernel_rfl
theorem field63_3 : fieldT Try.prog 63 3 = some (3, 3) := by kernel_rfl
theorem field66_0 : fieldT Try.prog 66 0 = some (0, 3) := by kernel_rfl
theorem field66_1 : fieldT Try.prog 66 1 = some (1, 3) := by kernel_rfl
theorem field68_0 : fieldT Try.prog 68 0 = some (0, 66) := by kernel_rfl
theorem field71_0 : fieldT Try.prog 71 0 = some (0, 66) := by kernel_rfl
theorem field71_1 : fieldT Try.prog 71 1 = some (2, 3) := by kernel_rfl
theorem field71_2 : fieldT Try.prog 71 2 = some (3, 3) := by kernel_rfl
theorem field71_3 : fieldT Try.prog 71 3 = some (4, 3) := by kernel_rfl
theorem field71_4 : fieldT Try.prog 71 4 = some (5, 4) := by kernel_rfl
theorem ix37 : ixT Try.prog 37 = .sl 3 := by kernel_rfl
theorem ix60 : ixT Try.prog 60 = .sl 64 := by kernel_rfl
theorem ix61 : ixT Try.prog 61 = .sl 71 := by kernel_rfl
theorem ix9 : ixT Try.prog 9 = .str := by kernel_rfl
theorem lay63 : layT Try.prog 63 = some ([.nils, .nils, .nils, (.int .i64 0)], .st [(0, 1), (1, 1), (2, 1), (3, 1)]) := by kernel_rfl
theorem lay66 : layT Try.prog 66 = some ([(.int .i64 0), (.int .i64 0)], .st [(0, 1), (1, 1)]) := by kernel_rfl
theorem lay68 : layT Try.prog 68 = some ([(.int .i64 0), (.int .i64 0)], .st [(0, 2)]) := by kernel_rfl
theorem lay71 : layT Try.prog 71 = some ([(.int .i64 0), (.int .i64 0), (.int .i64 0), (.int .i64 0), (.int .i64 0), (.bool false)], .st [(0, 2), (2, 1), (3, 1), (4, 1), (5, 1)]) := by kernel_rfl
theorem size118 : sizeT Try.prog 118 = 1 := by kernel_rfl
theorem size3 : sizeT Try.prog 3 = 1 := by kernel_rfl
theorem size34 : sizeT Try.prog 34 = 5 := by kernel_rfl
theorem size4 : sizeT Try.prog 4 = 1 := by kernel_rfl
theorem size60 : sizeT Try.prog 60 = 1 := by kernel_rfl
theorem size61 : sizeT Try.prog 61 = 1 := by kernel_rfl
theorem size63 : sizeT Try.prog 63 = 4 := by kernel_rfl
theorem size64 : sizeT Try.prog 64 = 1 := by kernel_rfl
theorem size66 : sizeT Try.prog 66 = 2 := by kernel_rfl
theorem size68 : sizeT Try.prog 68 = 2 := by kernel_rfl
theorem size71 : sizeT Try.prog 71 = 6 := by kernel_rfl
theorem tk108 : tk Try.prog 108 = .int .i64 := by kernel_rfl
theorem tk115 : tk Try.prog 115 = .int .u32 := by kernel_rfl
theorem tk117 : tk Try.prog 117 = .int .u64 := by kernel_rfl
theorem tk118 : tk Try.prog 118 = .int .u64 := by kernel_rfl
theorem tk23 : tk Try.prog 23 = .ptr := by kernel_rfl
theorem tk25 : tk Try.prog 25 = .int .i64 := by kernel_rfl
theorem tk3 : tk Try.prog 3 = .int .i64 := by kernel_rfl
theorem tk37 : tk Try.prog 37 = .slice 3 := by kernel_rfl
theorem tk5 : tk Try.prog 5 = .int .u8 := by kernel_rfl
theorem tk60 : tk Try.prog 60 = .slice 64 := by kernel_rfl
theorem tk61 : tk Try.prog 61 = .slice 71 := by kernel_rfl
theorem tk9 : tk Try.prog 9 = .str := by kernel_rfl
theorem tk95 : tk Try.prog 95 = .int .u64 := by kernel_rfl
theorem zero118 : zeroT Try.prog 118 = (.int .u64 0) := by kernel_rfl
theorem zero3 : zeroT Try.prog 3 = (.int .i64 0) := by kernel_rfl
theorem zero64 : zeroT Try.prog 64 = .nilp := by kernel_rfl
theorem zero71 : zeroT Try.prog 71 = (.agg [(.int .i64 0), (.int .i64 0), (.int .i64 0), (.int .i64 0), (.int .i64 0), (.bool false)]) := by kernel_rfl
theorem room3 (n : Nat) : elemOk Try.prog 3 n = (decide (n * 8 ≤ 70368744177664) && decide (n ≤ 4611686018427387904)) := by
  have h1 : (Try.prog.cellsOf 3 != 0 && okV (zeroT Try.prog 3) && (zeroT Try.prog 3).width == sizeT Try.prog 3) = true := by kernel_rfl
  unfold elemOk
  rw [h1, bytes3]; rfl
theorem room64 (n : Nat) : elemOk Try.prog 64 n = (decide (n * 8 ≤ 70368744177664) && decide (n ≤ 4611686018427387904)) := by
  have h1 : (Try.prog.cellsOf 64 != 0 && okV (zeroT Try.prog 64) && (zeroT Try.prog 64).width == sizeT Try.prog 64) = true := by kernel_rfl
  unfold elemOk
  rw [h1, bytes64]; rfl
theorem room71 (n : Nat) : elemOk Try.prog 71 n = (decide (n * 48 ≤ 70368744177664) && decide (n ≤ 4611686018427387904)) := by
  have h1 : (Try.prog.cellsOf 71 != 0 && okV (zeroT Try.prog 71) && (zeroT Try.prog 71).width == sizeT Try.prog 71) = true := by kernel_rfl
  unfold elemOk
  rw [h1, bytes71]; rfl
def notes : Notes where
 kill f r := match f, r with
  | 3, 7 => [1, 2, 5, 6, 7, 8, 9, 10, 11, 12, 13, 14, 15, 16, 17, 18, 19, 20, 21, 22, 23, 24, 25, 26, 27, 28, 29, 30, 31, 32, 33, 34, 35, 36, 37, 38, 39, 40, 41, 42, 43, 44, 45, 46, 47, 48, 49, 50, 51, 52]
  | 22, 3 => [1, 2, 4, 5, 6, 7, 8, 9, 10, 11, 15, 16, 17, 18, 19, 20, 21, 22, 23, 24, 25, 26, 27, 28, 29, 30, 31, 32, 33, 34, 35, 36, 37, 38, 39, 40, 41, 42, 43, 44, 45, 46, 47, 48, 49, 50, 51, 52, 53, 54]
  | 23, 4 => [2, 3, 4, 6, 7, 8, 9, 10, 11, 12, 13, 14, 15, 16, 17, 18, 19, 20, 21, 22, 23, 24, 25]
  | 27, 2 => [0, 2, 3, 6, 7, 11, 12, 13, 14, 15, 16, 17, 18, 19, 20, 21, 22, 23, 24, 25, 26, 27]
  | 29, 3 => [1, 3, 4, 5, 6, 8, 9, 13, 14, 15, 16, 17, 18, 19, 20, 21, 22, 23, 24, 25, 26, 27, 28, 29, 30, 31, 32, 33, 34, 35]
  | 43, 5 => [2, 3, 7, 8, 9, 10, 11, 12, 13, 14, 15, 16, 17, 18, 19, 20, 21, 22, 23, 24, 25, 26, 27, 28, 29, 30, 31, 32]
  | 45, 2 => [2, 3, 4, 5, 6, 9, 10, 11, 12, 13, 14, 15, 16, 17, 18]
  | 47, 2 => [5, 6, 7, 8, 9, 12, 13, 14, 15, 16, 17, 18, 19, 20, 21, 22, 23, 24, 25, 26, 27, 28, 29, 30, 31, 32, 33, 34, 35, 36, 37, 38, 39, 40, 41, 42, 43, 44, 45, 46, 47, 48, 49, 50, 51, 52, 53, 54, 55, 56, 57, 58, 59, 60, 61, 62, 63, 64, 65, 66, 67, 68, 69, 70, 71, 72, 73, 74, 75, 76, 77, 78, 79, 80, 81, 82, 83, 84, 85, 86, 87, 88, 89, 90, 91, 92, 93, 94, 95, 96, 97, 98, 99, 100, 101, 102, 103, 104, 105, 106, 107, 108, 109, 110, 111, 112, 113, 114, 115, 116, 117, 118, 119, 120, 121, 122, 123, 124, 125, 126, 127, 128, 129, 130, 131, 132, 133, 134, 135, 136, 137, 138, 139, 140, 141, 142, 143, 144, 145, 146, 147]
  | 49, 3 => [0, 1, 2, 4, 5, 9, 10, 11, 12, 13, 14, 15, 16, 17]
  | 57, 1 => [4, 5, 6, 7, 9, 10, 11, 12, 13, 14, 15, 16, 17, 18, 19, 20, 21, 22, 23, 24, 25, 26, 27, 28, 29, 30, 31, 32, 33, 34, 35, 36, 37, 38, 39, 40, 41, 42, 43, 44, 45, 46, 47, 48, 49, 50, 51, 52]
  | 57, 4 => [4, 5, 6, 7, 10, 11, 12, 13, 14, 15, 16, 17, 18, 19, 20, 21, 22, 23, 24, 25, 26, 27, 28, 29, 30, 31, 32, 33, 34, 35, 36, 37, 38, 39, 40, 41, 42, 43, 44, 45, 46, 47, 48, 49, 50, 51, 52]
  | 58, 4 => [1, 2, 4, 5, 6, 7, 12, 13, 14, 15, 16, 17, 18, 19, 20, 21, 22, 23, 24, 25, 26, 27, 28, 29, 30, 31, 32, 33, 34, 35, 36, 37, 38, 39, 40, 41, 42, 43, 44, 45, 46, 47, 48, 49, 50, 51, 52, 53, 54, 55, 56, 57, 58, 59]
  | 58, 8 => [1, 2, 4, 5, 6, 7, 10, 11, 13, 14, 15, 16, 17, 18, 19, 20, 21, 22, 23, 24, 25, 26, 27, 28, 29, 30, 31, 32, 33, 34, 35, 36, 37, 38, 39, 40, 41, 42, 43, 44, 45, 46, 47, 48, 49, 50, 51, 52, 53, 54, 55, 56, 57, 58, 59]
  | 59, 5 => [2, 3, 4, 5, 6, 7, 12, 13, 14, 15, 16, 17, 18, 19, 20, 21, 22, 23, 24, 25, 26, 27, 28, 29, 30, 31, 32, 33, 34, 35, 36, 37, 38, 39, 40, 41, 42, 43, 44, 45, 46, 47, 48, 49, 50, 51, 52, 53, 54, 55, 56, 57, 58, 59, 60, 61, 62, 63, 64, 65, 66]
  | 61, 2 => [1, 2, 3, 4, 5, 6, 7, 10, 11, 12, 13, 14, 15, 16, 17, 18, 19, 20, 21, 22, 23, 24, 25, 26, 27, 28, 29, 30, 31, 32, 33]
  | 62, 3 => [4, 5, 6, 7, 8, 11, 12, 13, 14, 15, 16, 17, 18, 19, 20, 21, 22, 23, 24, 25, 26, 27, 28, 29, 30, 31, 32, 33, 34, 35, 36, 37, 38, 39, 40, 41, 42, 43, 44, 45, 46, 47, 48, 49, 50, 51, 52, 53, 54, 55, 56, 57, 58, 59, 60, 61, 62, 63, 64, 65, 66, 67, 68, 69, 70, 71, 72, 73, 74, 75, 76, 77, 78, 79, 80, 81, 82, 83, 84, 85, 86, 87, 88, 89, 90, 91, 92, 93, 94, 95, 96, 97, 98, 99, 100, 101, 102, 103, 104, 105, 106, 107, 108, 109, 110, 111, 112, 113, 114, 115, 116, 117, 118, 119, 120, 121, 122, 123, 124, 125, 126, 127, 128, 129, 130, 131, 132, 133, 134, 135, 136, 137, 138, 139, 140]
  | 62, 5 => [4, 5, 6, 7, 8, 11, 12, 13, 14, 15, 16, 17, 18, 19, 20, 21, 22, 23, 24, 25, 26, 27, 28, 29, 30, 31, 32, 33, 34, 35, 36, 37, 38, 39, 40, 41, 42, 43, 44, 45, 46, 47, 48, 49, 50, 51, 52, 53, 54, 55, 56, 57, 58, 59, 60, 61, 62, 63, 64, 65, 66, 67, 68, 69, 70, 71, 72, 73, 74, 75, 76, 77, 78, 79, 80, 81, 82, 83, 84, 85, 86, 87, 88, 89, 90, 91, 92, 93, 94, 95, 96, 97, 98, 99, 100, 101, 102, 103, 104, 105, 106, 107, 108, 109, 110, 111, 112, 113, 114, 115, 116, 117, 118, 119, 120, 121, 122, 123, 124, 125, 126, 127, 128, 129, 130, 131, 132, 133, 134, 135, 136, 137, 138, 139, 140]
  | 62, 14 => [4, 5, 6, 7, 8, 12, 13, 14, 15, 16, 17, 18, 19, 20, 21, 22, 23, 24, 25, 26, 27, 28, 29, 30, 31, 32, 33, 34, 35, 36, 37, 38, 39, 40, 41, 42, 43, 44, 45, 46, 47, 48, 49, 50, 51, 52, 53, 54, 55, 56, 57, 58, 59, 60, 61, 62, 63, 64, 65, 66, 67, 68, 69, 70, 71, 72, 73, 74, 75, 76, 77, 78, 79, 80, 81, 82, 83, 84, 85, 86, 87, 88, 89, 90, 91, 92, 93, 94, 95, 96, 97, 98, 99, 100, 101, 102, 103, 104, 105, 106, 107, 108, 109, 110, 111, 112, 113, 114, 115, 116, 117, 118, 119, 120, 121, 122, 123, 124, 125, 126, 127, 128, 129, 130, 131, 132, 133, 134, 135, 136, 137, 138, 139, 140]
  | 62, 20 => [4, 5, 6, 7, 8, 11, 13, 14, 15, 16, 17, 18, 19, 20, 21, 22, 23, 24, 25, 26, 27, 28, 29, 30, 31, 32, 33, 34, 35, 36, 37, 38, 39, 40, 41, 42, 43, 44, 45, 46, 47, 48, 49, 50, 51, 52, 53, 54, 55, 56, 57, 58, 59, 60, 61, 62, 63, 64, 65, 66, 67, 68, 69, 70, 71, 72, 73, 74, 75, 76, 77, 78, 79, 80, 81, 82, 83, 84, 85, 86, 87, 88, 89, 90, 91, 92, 93, 94, 95, 96, 97, 98, 99, 100, 101, 102, 103, 104, 105, 106, 107, 108, 109, 110, 111, 112, 113, 114, 115, 116, 117, 118, 119, 120, 121, 122, 123, 124, 125, 126, 127, 128, 129, 130, 131, 132, 133, 134, 135, 136, 137, 138, 139, 140]
  | 63, 3 => [2, 3, 5, 6, 7, 8, 9, 10, 13, 14, 15, 16, 17, 18, 19, 20, 21, 22, 23, 24, 25, 26, 27, 28, 29, 30, 31, 32, 33, 34, 35, 36, 37, 38, 39, 40, 41, 42, 43, 44, 45, 46, 47, 48, 49, 50, 51, 52, 53, 54, 55, 56, 57, 58, 59, 60, 61, 62, 63, 64, 65, 66, 67, 68, 69, 70, 71, 72, 73, 74, 75, 76, 77, 78, 79, 80, 81, 82, 83, 84, 85, 86, 87, 88, 89]
  | 63, 5 => [2, 3, 5, 6, 7, 8, 9, 10, 13, 14, 15, 16, 17, 18, 19, 20, 21, 22, 23, 24, 25, 26, 27, 28, 29, 30, 31, 32, 33, 34, 35, 36, 37, 38, 39, 40, 41, 42, 43, 44, 45, 46, 47, 48, 49, 50, 51, 52, 53, 54, 55, 56, 57, 58, 59, 60, 61, 62, 63, 64, 65, 66, 67, 68, 69, 70, 71, 72, 73, 74, 75, 76, 77, 78, 79, 80, 81, 82, 83, 84, 85, 86, 87, 88, 89]
  | 64, 3 => [2, 3, 5, 6, 7, 8, 9, 10, 11, 14, 15, 16, 17, 18, 19, 20, 21, 22, 23, 24, 25, 26, 27, 28, 29, 30, 31, 32, 33, 34, 35, 36, 37, 38, 39, 40, 41, 42, 43, 44, 45, 46, 47, 48, 49, 50, 51, 52, 53, 54, 55, 56, 57, 58, 59, 60, 61, 62, 63, 64, 65, 66, 67, 68, 69, 70, 71, 72, 73, 74, 75, 76, 77, 78, 79, 80, 81, 82, 83, 84, 85, 86, 87, 88, 89, 90, 91, 92, 93, 94, 95, 96, 97, 98, 99, 100, 101, 102, 103, 104, 105, 106, 107, 108, 109, 110, 111, 112, 113, 114, 115, 116, 117, 118, 119, 120, 121, 122, 123, 124, 125, 126, 127, 128, 129, 130, 131, 132, 133, 134, 135, 136, 137, 138, 139, 140, 141, 142, 143, 144, 145, 146, 147, 148, 149, 150, 151, 152, 153, 154, 155, 156, 157, 158, 159, 160, 161, 162, 163, 164, 165, 166, 167, 168, 169, 170, 171, 172, 173, 174, 175, 176, 177]
  | 64, 5 => [2, 3, 5, 6, 7, 8, 9, 10, 11, 14, 15, 16, 17, 18, 19, 20, 21, 22, 23, 24, 25, 26, 27, 28, 29, 30, 31, 32, 33, 34, 35, 36, 37, 38, 39, 40, 41, 42, 43, 44, 45, 46, 47, 48, 49, 50, 51, 52, 53, 54, 55, 56, 57, 58, 59, 60, 61, 62, 63, 64, 65, 66, 67, 68, 69, 70, 71, 72, 73, 74, 75, 76, 77, 78, 79, 80, 81, 82, 83, 84, 85, 86, 87, 88, 89, 90, 91, 92, 93, 94, 95, 96, 97, 98, 99, 100, 101, 102, 103, 104, 105, 106, 107, 108, 109, 110, 111, 112, 113, 114, 115, 116, 117, 118, 119, 120, 121, 122, 123, 124, 125, 126, 127, 128, 129, 130, 131, 132, 133, 134, 135, 136, 137, 138, 139, 140, 141, 142, 143, 144, 145, 146, 147, 148, 149, 150, 151, 152, 153, 154, 155, 156, 157, 158, 159, 160, 161, 162, 163, 164, 165, 166, 167, 168, 169, 170, 171, 172, 173, 174, 175, 176, 177]
  | 64, 13 => [2, 3, 5, 6, 7, 8, 9, 10, 11, 14, 15, 16, 17, 18, 19, 20, 21, 22, 23, 24, 25, 26, 27, 28, 29, 30, 31, 32, 33, 34, 35, 36, 37, 38, 39, 40, 41, 42, 43, 44, 45, 46, 47, 48, 49, 50, 51, 52, 53, 54, 55, 56, 57, 58, 59, 60, 61, 62, 63, 64, 65, 66, 67, 68, 69, 70, 71, 72, 73, 74, 75, 76, 77, 78, 79, 80, 81, 82, 83, 84, 85, 86, 87, 88, 89, 90, 91, 92, 93, 94, 95, 96, 97, 98, 99, 100, 101, 102, 103, 104, 105, 106, 107, 108, 109, 110, 111, 112, 113, 114, 115, 116, 117, 118, 119, 120, 121, 122, 123, 124, 125, 126, 127, 128, 129, 130, 131, 132, 133, 134, 135, 136, 137, 138, 139, 140, 141, 142, 143, 144, 145, 146, 147, 148, 149, 150, 151, 152, 153, 154, 155, 156, 157, 158, 159, 160, 161, 162, 163, 164, 165, 166, 167, 168, 169, 170, 171, 172, 173, 174, 175, 176, 177]
  | 64, 15 => [2, 3, 5, 6, 7, 8, 9, 10, 11, 14, 15, 16, 17, 18, 19, 20, 21, 22, 23, 24, 25, 26, 27, 28, 29, 30, 31, 32, 33, 34, 35, 36, 37, 38, 39, 40, 41, 42, 43, 44, 45, 46, 47, 48, 49, 50, 51, 52, 53, 54, 55, 56, 57, 58, 59, 60, 61, 62, 63, 64, 65, 66, 67, 68, 69, 70, 71, 72, 73, 74, 75, 76, 77, 78, 79, 80, 81, 82, 83, 84, 85, 86, 87, 88, 89, 90, 91, 92, 93, 94, 95, 96, 97, 98, 99, 100, 101, 102, 103, 104, 105, 106, 107, 108, 109, 110, 111, 112, 113, 114, 115, 116, 117, 118, 119, 120, 121, 122, 123, 124, 125, 126, 127, 128, 129, 130, 131, 132, 133, 134, 135, 136, 137, 138, 139, 140, 141, 142, 143, 144, 145, 146, 147, 148, 149, 150, 151, 152, 153, 154, 155, 156, 157, 158, 159, 160, 161, 162, 163, 164, 165, 166, 167, 168, 169, 170, 171, 172, 173, 174, 175, 176, 177]
  | 68, 1 => [1, 5, 6, 7, 8, 9, 11, 12, 13, 14, 15, 16, 17, 18, 19, 20, 21, 22, 23, 24, 25, 26, 27, 28, 29, 30, 31, 32, 33, 34, 35, 36, 37, 38, 39, 40, 41, 42, 43, 44, 45, 46, 47, 48, 49, 50, 51, 52, 53, 54, 55, 56, 57, 58, 59, 60, 61, 62, 63, 64, 65, 66, 67, 68, 69, 70, 71, 72, 73, 74, 75, 76, 77, 78, 79, 80, 81]
  | _, _ => []
 grow f r := match f, r with
  | 27, 2 => [(4, none), (5, none)]
  | 29, 3 => [(7, none)]
  | _, _ => []
 mode f d := match f, d with
  | 7, 65 => .imm
  | 8, 2 => .heap
  | 9, 21 => .heap
  | 9, 23 => .heap
  | 13, 50 => .heap
  | 14, 5 => .heap
  | 14, 7 => .heap
  | 14, 11 => .heap
  | 15, 3 => .heap
  | 22, 3 => .heap
  | 25, 3 => .heap
  | 29, 25 => .heap
  | 32, 15 => .imm
  | 59, 9 => .heap
  | 60, 11 => .heap
  | _, _ => .priv
 pure f := match f with
  | 7 => true
  | _ => false
theorem gl_none : notes.gl = fun _ => .undef := rfl
theorem kill3_7 : notes.kill 3 7 = [1, 2, 5, 6, 7, 8, 9, 10, 11, 12, 13, 14, 15, 16, 17, 18, 19, 20, 21, 22, 23, 24, 25, 26, 27, 28, 29, 30, 31, 32, 33, 34, 35, 36, 37, 38, 39, 40, 41, 42, 43, 44, 45, 46, 47, 48, 49, 50, 51, 52] := rfl
theorem grow3_7 : notes.grow 3 7 = [] := rfl
/-- f3, loop at region 7: lives 0:n 3:x 4:i -/
def L3_7 (s0 s3 s4 : Slot) : List Slot := [s0, .v .undef, .v .undef, s3, s4, .v .undef, .v .undef, .v .undef, .v .undef, .v .undef, .v .undef, .v .undef, .v .undef, .v .undef, .v .undef, .v .undef, .v .undef, .v .undef, .v .undef, .v .undef, .v .undef, .v .undef, .v .undef, .v .undef, .v .undef, .v .undef, .v .undef, .v .undef, .v .undef, .v .undef, .v .undef, .v .undef, .v .undef, .v .undef, .v .undef, .v .undef, .v .undef, .v .undef, .v .undef, .v .undef, .v .undef, .v .undef, .v .undef, .v .undef, .v .undef, .v .undef, .v .undef, .v .undef, .v .undef, .v .undef, .v .undef, .v .undef, .v .undef]
theorem mode3_13 : notes.mode 3 13 = .priv := rfl
theorem mode3_14 : notes.mode 3 14 = .priv := rfl
theorem mode3_24 : notes.mode 3 24 = .priv := rfl
theorem mode3_25 : notes.mode 3 25 = .priv := rfl
theorem mode3_26 : notes.mode 3 26 = .priv := rfl
theorem mode3_35 : notes.mode 3 35 = .priv := rfl
theorem mode3_47 : notes.mode 3 47 = .priv := rfl
theorem mode3_52 : notes.mode 3 52 = .priv := rfl
theorem f3 : Try.prog.funcs[3]? = some Try.f3 := by kernel_rfl
theorem r3 : Try.f3.results.toList = [.tmp 2] := rfl
theorem n3 : Try.f3.ntmps = 53 := rfl
theorem b3 : Try.f3.body = some (bodyOf Try.f3) := rfl
theorem mode6_1 : notes.mode 6 1 = .priv := rfl
theorem mode6_18 : notes.mode 6 18 = .priv := rfl
theorem mode6_19 : notes.mode 6 19 = .priv := rfl
theorem mode6_20 : notes.mode 6 20 = .priv := rfl
theorem mode6_29 : notes.mode 6 29 = .priv := rfl
theorem mode6_30 : notes.mode 6 30 = .priv := rfl
theorem mode6_31 : notes.mode 6 31 = .priv := rfl
theorem mode6_36 : notes.mode 6 36 = .priv := rfl
theorem mode6_37 : notes.mode 6 37 = .priv := rfl
theorem mode6_38 : notes.mode 6 38 = .priv := rfl
theorem mode6_39 : notes.mode 6 39 = .priv := rfl
theorem mode6_44 : notes.mode 6 44 = .priv := rfl
theorem mode6_45 : notes.mode 6 45 = .priv := rfl
theorem mode6_46 : notes.mode 6 46 = .priv := rfl
theorem mode6_47 : notes.mode 6 47 = .priv := rfl
theorem mode6_50 : notes.mode 6 50 = .priv := rfl
theorem mode6_51 : notes.mode 6 51 = .priv := rfl
theorem mode6_52 : notes.mode 6 52 = .priv := rfl
theorem mode6_56 : notes.mode 6 56 = .priv := rfl
theorem mode6_72 : notes.mode 6 72 = .priv := rfl
theorem mode6_94 : notes.mode 6 94 = .priv := rfl
theorem mode6_99 : notes.mode 6 99 = .priv := rfl
theorem mode6_104 : notes.mode 6 104 = .priv := rfl
theorem mode6_109 : notes.mode 6 109 = .priv := rfl
theorem mode6_118 : notes.mode 6 118 = .priv := rfl
theorem mode6_119 : notes.mode 6 119 = .priv := rfl
theorem mode6_128 : notes.mode 6 128 = .priv := rfl
theorem mode6_129 : notes.mode 6 129 = .priv := rfl
theorem mode6_140 : notes.mode 6 140 = .priv := rfl
theorem mode6_141 : notes.mode 6 141 = .priv := rfl
theorem mode6_148 : notes.mode 6 148 = .priv := rfl
theorem mode6_149 : notes.mode 6 149 = .priv := rfl
theorem mode6_153 : notes.mode 6 153 = .priv := rfl
theorem f6 : Try.prog.funcs[6]? = some Try.f6 := by kernel_rfl
theorem r6 : Try.f6.results.toList = [.tmp 2] := rfl
theorem n6 : Try.f6.ntmps = 155 := rfl
theorem b6 : Try.f6.body = some (bodyOf Try.f6) := rfl
theorem mode7_11 : notes.mode 7 11 = .priv := rfl
theorem mode7_16 : notes.mode 7 16 = .priv := rfl
theorem mode7_17 : notes.mode 7 17 = .priv := rfl
theorem mode7_18 : notes.mode 7 18 = .priv := rfl
theorem mode7_21 : notes.mode 7 21 = .priv := rfl
theorem mode7_24 : notes.mode 7 24 = .priv := rfl
theorem mode7_27 : notes.mode 7 27 = .priv := rfl
theorem mode7_30 : notes.mode 7 30 = .priv := rfl
theorem mode7_34 : notes.mode 7 34 = .priv := rfl
theorem mode7_35 : notes.mode 7 35 = .priv := rfl
theorem mode7_36 : notes.mode 7 36 = .priv := rfl
theorem mode7_38 : notes.mode 7 38 = .priv := rfl
theorem mode7_41 : notes.mode 7 41 = .priv := rfl
theorem mode7_43 : notes.mode 7 43 = .priv := rfl
theorem mode7_47 : notes.mode 7 47 = .priv := rfl
theorem mode7_48 : notes.mode 7 48 = .priv := rfl
theorem mode7_49 : notes.mode 7 49 = .priv := rfl
theorem mode7_50 : notes.mode 7 50 = .priv := rfl
theorem mode7_52 : notes.mode 7 52 = .priv := rfl
theorem mode7_54 : notes.mode 7 54 = .priv := rfl
theorem mode7_57 : notes.mode 7 57 = .priv := rfl
theorem mode7_60 : notes.mode 7 60 = .priv := rfl
theorem mode7_65 : notes.mode 7 65 = .imm := rfl
theorem mode7_66 : notes.mode 7 66 = .priv := rfl
theorem mode7_70 : notes.mode 7 70 = .priv := rfl
theorem f7 : Try.prog.funcs[7]? = some Try.f7 := by kernel_rfl
theorem r7 : Try.f7.results.toList = [.tmp 0] := rfl
theorem n7 : Try.f7.ntmps = 81 := rfl
theorem b7 : Try.f7.body = some (bodyOf Try.f7) := rfl
theorem mode8_2 : notes.mode 8 2 = .heap := rfl
theorem f8 : Try.prog.funcs[8]? = some Try.f8 := by kernel_rfl
theorem r8 : Try.f8.results.toList = [.tmp 0] := rfl
theorem n8 : Try.f8.ntmps = 3 := rfl
theorem b8 : Try.f8.body = some (bodyOf Try.f8) := rfl
theorem mode9_21 : notes.mode 9 21 = .heap := rfl
theorem mode9_22 : notes.mode 9 22 = .priv := rfl
theorem mode9_23 : notes.mode 9 23 = .heap := rfl
theorem f9 : Try.prog.funcs[9]? = some Try.f9 := by kernel_rfl
theorem r9 : Try.f9.results.toList = [.tmp 2, .tmp 3] := rfl
theorem n9 : Try.f9.ntmps = 32 := rfl
theorem b9 : Try.f9.body = some (bodyOf Try.f9) := rfl
theorem f10 : Try.prog.funcs[10]? = some Try.f10 := by kernel_rfl
theorem r10 : Try.f10.results.toList = [.tmp 2] := rfl
theorem n10 : Try.f10.ntmps = 4 := rfl
theorem b10 : Try.f10.body = some (bodyOf Try.f10) := rfl
theorem mode11_11 : notes.mode 11 11 = .priv := rfl
theorem mode11_19 : notes.mode 11 19 = .priv := rfl
theorem mode11_26 : notes.mode 11 26 = .priv := rfl
theorem mode11_33 : notes.mode 11 33 = .priv := rfl
theorem f11 : Try.prog.funcs[11]? = some Try.f11 := by kernel_rfl
theorem r11 : Try.f11.results.toList = [.tmp 6] := rfl
theorem n11 : Try.f11.ntmps = 71 := rfl
theorem b11 : Try.f11.body = some (bodyOf Try.f11) := rfl
def alts11_10 : List (Nat × Nat × Nat) := []
theorem mode12_11 : notes.mode 12 11 = .priv := rfl
theorem f12 : Try.prog.funcs[12]? = some Try.f12 := by kernel_rfl
theorem r12 : Try.f12.results.toList = [.tmp 6] := rfl
theorem n12 : Try.f12.ntmps = 52 := rfl
theorem b12 : Try.f12.body = some (bodyOf Try.f12) := rfl
theorem mode13_14 : notes.mode 13 14 = .priv := rfl
theorem mode13_23 : notes.mode 13 23 = .priv := rfl
theorem mode13_49 : notes.mode 13 49 = .priv := rfl
theorem mode13_50 : notes.mode 13 50 = .heap := rfl
theorem f13 : Try.prog.funcs[13]? = some Try.f13 := by kernel_rfl
theorem r13 : Try.f13.results.toList = [.tmp 8] := rfl
theorem n13 : Try.f13.ntmps = 70 := rfl
theorem b13 : Try.f13.body = some (bodyOf Try.f13) := rfl
def alts13_9 : List (Nat × Nat × Nat) := [(4, 0, 1)]
theorem mode14_5 : notes.mode 14 5 = .heap := rfl
theorem mode14_7 : notes.mode 14 7 = .heap := rfl
theorem mode14_17 : notes.mode 14 17 = .priv := rfl
theorem mode14_11 : notes.mode 14 11 = .heap := rfl
theorem mode14_27 : notes.mode 14 27 = .priv := rfl
theorem mode14_28 : notes.mode 14 28 = .priv := rfl
theorem mode14_29 : notes.mode 14 29 = .priv := rfl
theorem mode14_36 : notes.mode 14 36 = .priv := rfl
theorem f14 : Try.prog.funcs[14]? = some Try.f14 := by kernel_rfl
theorem r14 : Try.f14.results.toList = [.tmp 8, .tmp 9] := rfl
theorem n14 : Try.f14.ntmps = 37 := rfl
theorem b14 : Try.f14.body = some (bodyOf Try.f14) := rfl
theorem mode15_3 : notes.mode 15 3 = .heap := rfl
theorem mode15_15 : notes.mode 15 15 = .priv := rfl
theorem mode15_16 : notes.mode 15 16 = .priv := rfl
theorem mode15_17 : notes.mode 15 17 = .priv := rfl
theorem mode15_23 : notes.mode 15 23 = .priv := rfl
theorem mode15_26 : notes.mode 15 26 = .priv := rfl
theorem f15 : Try.prog.funcs[15]? = some Try.f15 := by kernel_rfl
theorem r15 : Try.f15.results.toList = [.tmp 4] := rfl
theorem n15 : Try.f15.ntmps = 27 := rfl
theorem b15 : Try.f15.body = some (bodyOf Try.f15) := rfl
theorem mode16_21 : notes.mode 16 21 = .priv := rfl
theorem mode16_35 : notes.mode 16 35 = .priv := rfl
theorem mode16_70 : notes.mode 16 70 = .priv := rfl
theorem f16 : Try.prog.funcs[16]? = some Try.f16 := by kernel_rfl
theorem r16 : Try.f16.results.toList = [.tmp 4] := rfl
theorem n16 : Try.f16.ntmps = 73 := rfl
theorem b16 : Try.f16.body = some (bodyOf Try.f16) := rfl
def alts16_8 : List (Nat × Nat × Nat) := []
theorem mode17_10 : notes.mode 17 10 = .priv := rfl
theorem f17 : Try.prog.funcs[17]? = some Try.f17 := by kernel_rfl
theorem r17 : Try.f17.results.toList = [.tmp 4, .tmp 5, .tmp 6] := rfl
theorem n17 : Try.f17.ntmps = 36 := rfl
theorem b17 : Try.f17.body = some (bodyOf Try.f17) := rfl
def alts17_4 : List (Nat × Nat × Nat) := []
theorem mode18_15 : notes.mode 18 15 = .priv := rfl
theorem f18 : Try.prog.funcs[18]? = some Try.f18 := by kernel_rfl
theorem r18 : Try.f18.results.toList = [.tmp 4, .tmp 5, .tmp 6] := rfl
theorem n18 : Try.f18.ntmps = 34 := rfl
theorem b18 : Try.f18.body = some (bodyOf Try.f18) := rfl
def alts18_6 : List (Nat × Nat × Nat) := []
theorem mode20_10 : notes.mode 20 10 = .priv := rfl
theorem f20 : Try.prog.funcs[20]? = some Try.f20 := by kernel_rfl
theorem r20 : Try.f20.results.toList = [.tmp 6] := rfl
theorem n20 : Try.f20.ntmps = 41 := rfl
theorem b20 : Try.f20.body = some (bodyOf Try.f20) := rfl
theorem mode21_13 : notes.mode 21 13 = .priv := rfl
theorem mode21_14 : notes.mode 21 14 = .priv := rfl
theorem mode21_15 : notes.mode 21 15 = .priv := rfl
theorem mode21_20 : notes.mode 21 20 = .priv := rfl
theorem f21 : Try.prog.funcs[21]? = some Try.f21 := by kernel_rfl
theorem r21 : Try.f21.results.toList = [.tmp 2, .tmp 3] := rfl
theorem n21 : Try.f21.ntmps = 22 := rfl
theorem b21 : Try.f21.body = some (bodyOf Try.f21) := rfl
theorem kill22_3 : notes.kill 22 3 = [1, 2, 4, 5, 6, 7, 8, 9, 10, 11, 15, 16, 17, 18, 19, 20, 21, 22, 23, 24, 25, 26, 27, 28, 29, 30, 31, 32, 33, 34, 35, 36, 37, 38, 39, 40, 41, 42, 43, 44, 45, 46, 47, 48, 49, 50, 51, 52, 53, 54] := rfl
theorem grow22_3 : notes.grow 22 3 = [] := rfl
/-- f22, loop at region 3: lives 0:l 3:t 12: 13: 14: -/
def L22_3 (s0 s3 s12 s13 s14 : Slot) : List Slot := [s0, .v .undef, .v .undef, s3, .v .undef, .v .undef, .v .undef, .v .undef, .v .undef, .v .undef, .v .undef, .v .undef, s12, s13, s14, .v .undef, .v .undef, .v .undef, .v .undef, .v .undef, .v .undef, .v .undef, .v .undef, .v .undef, .v .undef, .v .undef, .v .undef, .v .undef, .v .undef, .v .undef, .v .undef, .v .undef, .v .undef, .v .undef, .v .undef, .v .undef, .v .undef, .v .undef, .v .undef, .v .undef, .v .undef, .v .undef, .v .undef, .v .undef, .v .undef, .v .undef, .v .undef, .v .undef, .v .undef, .v .undef, .v .undef, .v .undef, .v .undef, .v .undef, .v .undef]
theorem mode22_3 : notes.mode 22 3 = .heap := rfl
theorem mode22_38 : notes.mode 22 38 = .priv := rfl
theorem mode22_39 : notes.mode 22 39 = .priv := rfl
theorem mode22_40 : notes.mode 22 40 = .priv := rfl
theorem mode22_50 : notes.mode 22 50 = .priv := rfl
theorem mode22_51 : notes.mode 22 51 = .priv := rfl
theorem mode22_52 : notes.mode 22 52 = .priv := rfl
theorem f22 : Try.prog.funcs[22]? = some Try.f22 := by kernel_rfl
theorem r22 : Try.f22.results.toList = [] := rfl
theorem n22 : Try.f22.ntmps = 55 := rfl
theorem b22 : Try.f22.body = some (bodyOf Try.f22) := rfl
def alts22_5 : List (Nat × Nat × Nat) := []
theorem kill23_4 : notes.kill 23 4 = [2, 3, 4, 6, 7, 8, 9, 10, 11, 12, 13, 14, 15, 16, 17, 18, 19, 20, 21, 22, 23, 24, 25] := rfl
theorem grow23_4 : notes.grow 23 4 = [] := rfl
/-- f23, loop at region 4: lives 0:a 1:b 5:i -/
def L23_4 (s0 s1 s5 : Slot) : List Slot := [s0, s1, .v .undef, .v .undef, .v .undef, s5, .v .undef, .v .undef, .v .undef, .v .undef, .v .undef, .v .undef, .v .undef, .v .undef, .v .undef, .v .undef, .v .undef, .v .undef, .v .undef, .v .undef, .v .undef, .v .undef, .v .undef, .v .undef, .v .undef, .v .undef]
theorem f23 : Try.prog.funcs[23]? = some Try.f23 := by kernel_rfl
theorem r23 : Try.f23.results.toList = [.tmp 4] := rfl
theorem n23 : Try.f23.ntmps = 26 := rfl
theorem b23 : Try.f23.body = some (bodyOf Try.f23) := rfl
def alts23_6 : List (Nat × Nat × Nat) := []
theorem f24 : Try.prog.funcs[24]? = some Try.f24 := by kernel_rfl
theorem r24 : Try.f24.results.toList = [.tmp 6] := rfl
theorem n24 : Try.f24.ntmps = 28 := rfl
theorem b24 : Try.f24.body = some (bodyOf Try.f24) := rfl
theorem mode25_3 : notes.mode 25 3 = .heap := rfl
theorem mode25_7 : notes.mode 25 7 = .priv := rfl
theorem f25 : Try.prog.funcs[25]? = some Try.f25 := by kernel_rfl
theorem r25 : Try.f25.results.toList = [.tmp 4] := rfl
theorem n25 : Try.f25.ntmps = 8 := rfl
theorem b25 : Try.f25.body = some (bodyOf Try.f25) := rfl
theorem mode26_11 : notes.mode 26 11 = .priv := rfl
theorem f26 : Try.prog.funcs[26]? = some Try.f26 := by kernel_rfl
theorem r26 : Try.f26.results.toList = [.tmp 6] := rfl
theorem n26 : Try.f26.ntmps = 42 := rfl
theorem b26 : Try.f26.body = some (bodyOf Try.f26) := rfl
theorem kill27_2 : notes.kill 27 2 = [0, 2, 3, 6, 7, 11, 12, 13, 14, 15, 16, 17, 18, 19, 20, 21, 22, 23, 24, 25, 26, 27] := rfl
theorem grow27_2 : notes.grow 27 2 = [(4, none), (5, none)] := rfl
/-- f27, loop at region 2: lives 1:such 4:yes 5:no 8: 9: 10: -/
def L27_2 (s1 s4 s5 s8 s9 s10 : Slot) : List Slot := [.v .undef, s1, .v .undef, .v .undef, s4, s5, .v .undef, .v .undef, s8, s9, s10, .v .undef, .v .undef, .v .undef, .v .undef, .v .undef, .v .undef, .v .undef, .v .undef, .v .undef, .v .undef, .v .undef, .v .undef, .v .undef, .v .undef, .v .undef, .v .undef, .v .undef]
theorem mode27_7 : notes.mode 27 7 = .priv := rfl
theorem mode27_16 : notes.mode 27 16 = .priv := rfl
theorem mode27_19 : notes.mode 27 19 = .priv := rfl
theorem mode27_20 : notes.mode 27 20 = .priv := rfl
theorem mode27_23 : notes.mode 27 23 = .priv := rfl
theorem mode27_24 : notes.mode 27 24 = .priv := rfl
theorem f27 : Try.prog.funcs[27]? = some Try.f27 := by kernel_rfl
theorem r27 : Try.f27.results.toList = [.tmp 4, .tmp 5] := rfl
theorem n27 : Try.f27.ntmps = 28 := rfl
theorem b27 : Try.f27.body = some (bodyOf Try.f27) := rfl
theorem mode28_4 : notes.mode 28 4 = .priv := rfl
theorem f28 : Try.prog.funcs[28]? = some Try.f28 := by kernel_rfl
theorem r28 : Try.f28.results.toList = [.tmp 5] := rfl
theorem n28 : Try.f28.ntmps = 20 := rfl
theorem b28 : Try.f28.body = some (bodyOf Try.f28) := rfl
theorem kill29_3 : notes.kill 29 3 = [1, 3, 4, 5, 6, 8, 9, 13, 14, 15, 16, 17, 18, 19, 20, 21, 22, 23, 24, 25, 26, 27, 28, 29, 30, 31, 32, 33, 34, 35] := rfl
theorem grow29_3 : notes.grow 29 3 = [(7, none)] := rfl
/-- f29, loop at region 3: lives 0:l 2:told 7:out 10: 11: 12: -/
def L29_3 (s0 s2 s7 s10 s11 s12 : Slot) : List Slot := [s0, .v .undef, s2, .v .undef, .v .undef, .v .undef, .v .undef, s7, .v .undef, .v .undef, s10, s11, s12, .v .undef, .v .undef, .v .undef, .v .undef, .v .undef, .v .undef, .v .undef, .v .undef, .v .undef, .v .undef, .v .undef, .v .undef, .v .undef, .v .undef, .v .undef, .v .undef, .v .undef, .v .undef, .v .undef, .v .undef, .v .undef, .v .undef, .v .undef]
theorem mode29_9 : notes.mode 29 9 = .priv := rfl
theorem mode29_24 : notes.mode 29 24 = .priv := rfl
theorem mode29_25 : notes.mode 29 25 = .heap := rfl
theorem mode29_32 : notes.mode 29 32 = .priv := rfl
theorem mode29_33 : notes.mode 29 33 = .priv := rfl
theorem f29 : Try.prog.funcs[29]? = some Try.f29 := by kernel_rfl
theorem r29 : Try.f29.results.toList = [.tmp 6] := rfl
theorem n29 : Try.f29.ntmps = 36 := rfl
theorem b29 : Try.f29.body = some (bodyOf Try.f29) := rfl
def alts29_6 : List (Nat × Nat × Nat) := [(4, 0, 1)]
theorem mode30_2 : notes.mode 30 2 = .priv := rfl
theorem f30 : Try.prog.funcs[30]? = some Try.f30 := by kernel_rfl
theorem r30 : Try.f30.results.toList = [.tmp 3] := rfl
theorem n30 : Try.f30.ntmps = 13 := rfl
theorem b30 : Try.f30.body = some (bodyOf Try.f30) := rfl
theorem mode31_10 : notes.mode 31 10 = .priv := rfl
theorem mode31_11 : notes.mode 31 11 = .priv := rfl
theorem mode31_13 : notes.mode 31 13 = .priv := rfl
theorem f31 : Try.prog.funcs[31]? = some Try.f31 := by kernel_rfl
theorem r31 : Try.f31.results.toList = [] := rfl
theorem n31 : Try.f31.ntmps = 14 := rfl
theorem b31 : Try.f31.body = some (bodyOf Try.f31) := rfl
theorem mode32_2 : notes.mode 32 2 = .priv := rfl
theorem mode32_3 : notes.mode 32 3 = .priv := rfl
theorem mode32_9 : notes.mode 32 9 = .priv := rfl
theorem mode32_14 : notes.mode 32 14 = .priv := rfl
theorem mode32_15 : notes.mode 32 15 = .imm := rfl
theorem mode32_16 : notes.mode 32 16 = .priv := rfl
theorem f32 : Try.prog.funcs[32]? = some Try.f32 := by kernel_rfl
theorem r32 : Try.f32.results.toList = [.tmp 4] := rfl
theorem n32 : Try.f32.ntmps = 17 := rfl
theorem b32 : Try.f32.body = some (bodyOf Try.f32) := rfl
def alts32_1 : List (Nat × Nat × Nat) := [(6, 0, 0), (8, 0, 0)]
theorem mode33_26 : notes.mode 33 26 = .priv := rfl
theorem f33 : Try.prog.funcs[33]? = some Try.f33 := by kernel_rfl
theorem r33 : Try.f33.results.toList = [.tmp 6] := rfl
theorem n33 : Try.f33.ntmps = 33 := rfl
theorem b33 : Try.f33.body = some (bodyOf Try.f33) := rfl
def alts33_5 : List (Nat × Nat × Nat) := []
theorem mode42_1 : notes.mode 42 1 = .priv := rfl
theorem f42 : Try.prog.funcs[42]? = some Try.f42 := by kernel_rfl
theorem r42 : Try.f42.results.toList = [.tmp 2] := rfl
theorem n42 : Try.f42.ntmps = 6 := rfl
theorem b42 : Try.f42.body = some (bodyOf Try.f42) := rfl
theorem kill43_5 : notes.kill 43 5 = [2, 3, 7, 8, 9, 10, 11, 12, 13, 14, 15, 16, 17, 18, 19, 20, 21, 22, 23, 24, 25, 26, 27, 28, 29, 30, 31, 32] := rfl
theorem grow43_5 : notes.grow 43 5 = [] := rfl
/-- f43, loop at region 5: lives 0:x 1:cmp 4: 5:m 6:i -/
def L43_5 (s0 s1 s4 s5 s6 : Slot) : List Slot := [s0, s1, .v .undef, .v .undef, s4, s5, s6, .v .undef, .v .undef, .v .undef, .v .undef, .v .undef, .v .undef, .v .undef, .v .undef, .v .undef, .v .undef, .v .undef, .v .undef, .v .undef, .v .undef, .v .undef, .v .undef, .v .undef, .v .undef, .v .undef, .v .undef, .v .undef, .v .undef, .v .undef, .v .undef, .v .undef, .v .undef]
theorem mode43_4 : notes.mode 43 4 = .priv := rfl
theorem mode43_5 : notes.mode 43 5 = .priv := rfl
theorem mode43_26 : notes.mode 43 26 = .priv := rfl
theorem f43 : Try.prog.funcs[43]? = some Try.f43 := by kernel_rfl
theorem r43 : Try.f43.results.toList = [.cell 4 71] := rfl
theorem n43 : Try.f43.ntmps = 33 := rfl
theorem b43 : Try.f43.body = some (bodyOf Try.f43) := rfl
def alts43_7 : List (Nat × Nat × Nat) := []
theorem mode44_2 : notes.mode 44 2 = .priv := rfl
theorem f44 : Try.prog.funcs[44]? = some Try.f44 := by kernel_rfl
theorem r44 : Try.f44.results.toList = [.tmp 3] := rfl
theorem n44 : Try.f44.ntmps = 9 := rfl
theorem b44 : Try.f44.body = some (bodyOf Try.f44) := rfl
theorem kill45_2 : notes.kill 45 2 = [2, 3, 4, 5, 6, 9, 10, 11, 12, 13, 14, 15, 16, 17, 18] := rfl
theorem grow45_2 : notes.grow 45 2 = [] := rfl
/-- f45, loop at region 2: lives 0:s 1:f 7: 8: -/
def L45_2 (s0 s1 s7 s8 : Slot) : List Slot := [s0, s1, .v .undef, .v .undef, .v .undef, .v .undef, .v .undef, s7, s8, .v .undef, .v .undef, .v .undef, .v .undef, .v .undef, .v .undef, .v .undef, .v .undef, .v .undef, .v .undef]
theorem mode45_16 : notes.mode 45 16 = .priv := rfl
theorem f45 : Try.prog.funcs[45]? = some Try.f45 := by kernel_rfl
theorem r45 : Try.f45.results.toList = [.tmp 4] := rfl
theorem n45 : Try.f45.ntmps = 19 := rfl
theorem b45 : Try.f45.body = some (bodyOf Try.f45) := rfl
theorem mode46_2 : notes.mode 46 2 = .priv := rfl
theorem f46 : Try.prog.funcs[46]? = some Try.f46 := by kernel_rfl
theorem r46 : Try.f46.results.toList = [.tmp 3] := rfl
theorem n46 : Try.f46.ntmps = 9 := rfl
theorem b46 : Try.f46.body = some (bodyOf Try.f46) := rfl
theorem kill47_2 : notes.kill 47 2 = [5, 6, 7, 8, 9, 12, 13, 14, 15, 16, 17, 18, 19, 20, 21, 22, 23, 24, 25, 26, 27, 28, 29, 30, 31, 32, 33, 34, 35, 36, 37, 38, 39, 40, 41, 42, 43, 44, 45, 46, 47, 48, 49, 50, 51, 52, 53, 54, 55, 56, 57, 58, 59, 60, 61, 62, 63, 64, 65, 66, 67, 68, 69, 70, 71, 72, 73, 74, 75, 76, 77, 78, 79, 80, 81, 82, 83, 84, 85, 86, 87, 88, 89, 90, 91, 92, 93, 94, 95, 96, 97, 98, 99, 100, 101, 102, 103, 104, 105, 106, 107, 108, 109, 110, 111, 112, 113, 114, 115, 116, 117, 118, 119, 120, 121, 122, 123, 124, 125, 126, 127, 128, 129, 130, 131, 132, 133, 134, 135, 136, 137, 138, 139, 140, 141, 142, 143, 144, 145, 146, 147] := rfl
theorem grow47_2 : notes.grow 47 2 = [] := rfl
/-- f47, loop at region 2: lives 0:data 1:a 2:b 3:limit 4:cmp 10:wasBalanced 11:wasPartitioned -/
def L47_2 (s0 s1 s2 s3 s4 s10 s11 : Slot) : List Slot := [s0, s1, s2, s3, s4, .v .undef, .v .undef, .v .undef, .v .undef, .v .undef, s10, s11, .v .undef, .v .undef, .v .undef, .v .undef, .v .undef, .v .undef, .v .undef, .v .undef, .v .undef, .v .undef, .v .undef, .v .undef, .v .undef, .v .undef, .v .undef, .v .undef, .v .undef, .v .undef, .v .undef, .v .undef, .v .undef, .v .undef, .v .undef, .v .undef, .v .undef, .v .undef, .v .undef, .v .undef, .v .undef, .v .undef, .v .undef, .v .undef, .v .undef, .v .undef, .v .undef, .v .undef, .v .undef, .v .undef, .v .undef, .v .undef, .v .undef, .v .undef, .v .undef, .v .undef, .v .undef, .v .undef, .v .undef, .v .undef, .v .undef, .v .undef, .v .undef, .v .undef, .v .undef, .v .undef, .v .undef, .v .undef, .v .undef, .v .undef, .v .undef, .v .undef, .v .undef, .v .undef, .v .undef, .v .undef, .v .undef, .v .undef, .v .undef, .v .undef, .v .undef, .v .undef, .v .undef, .v .undef, .v .undef, .v .undef, .v .undef, .v .undef, .v .undef, .v .undef, .v .undef, .v .undef, .v .undef, .v .undef, .v .undef, .v .undef, .v .undef, .v .undef, .v .undef, .v .undef, .v .undef, .v .undef, .v .undef, .v .undef, .v .undef, .v .undef, .v .undef, .v .undef, .v .undef, .v .undef, .v .undef, .v .undef, .v .undef, .v .undef, .v .undef, .v .undef, .v .undef, .v .undef, .v .undef, .v .undef, .v .undef, .v .undef, .v .undef, .v .undef, .v .undef, .v .undef, .v .undef, .v .undef, .v .undef, .v .undef, .v .undef, .v .undef, .v .undef, .v .undef, .v .undef, .v .undef, .v .undef, .v .undef, .v .undef, .v .undef, .v .undef, .v .undef, .v .undef, .v .undef, .v .undef, .v .undef, .v .undef, .v .undef]
theorem mode47_30 : notes.mode 47 30 = .priv := rfl
theorem mode47_37 : notes.mode 47 37 = .priv := rfl
theorem mode47_44 : notes.mode 47 44 = .priv := rfl
theorem mode47_52 : notes.mode 47 52 = .priv := rfl
theorem mode47_53 : notes.mode 47 53 = .priv := rfl
theorem mode47_54 : notes.mode 47 54 = .priv := rfl
theorem mode47_61 : notes.mode 47 61 = .priv := rfl
theorem mode47_80 : notes.mode 47 80 = .priv := rfl
theorem mode47_94 : notes.mode 47 94 = .priv := rfl
theorem mode47_103 : notes.mode 47 103 = .priv := rfl
theorem mode47_111 : notes.mode 47 111 = .priv := rfl
theorem mode47_112 : notes.mode 47 112 = .priv := rfl
theorem mode47_113 : notes.mode 47 113 = .priv := rfl
theorem mode47_134 : notes.mode 47 134 = .priv := rfl
theorem mode47_146 : notes.mode 47 146 = .priv := rfl
theorem f47 : Try.prog.funcs[47]? = some Try.f47 := by kernel_rfl
theorem r47 : Try.f47.results.toList = [] := rfl
theorem n47 : Try.f47.ntmps = 148 := rfl
theorem b47 : Try.f47.body = some (bodyOf Try.f47) := rfl
def alts47_17 : List (Nat × Nat × Nat) := []
theorem mode48_4 : notes.mode 48 4 = .priv := rfl
theorem mode48_5 : notes.mode 48 5 = .priv := rfl
theorem mode48_7 : notes.mode 48 7 = .priv := rfl
theorem f48 : Try.prog.funcs[48]? = some Try.f48 := by kernel_rfl
theorem r48 : Try.f48.results.toList = [.tmp 2] := rfl
theorem n48 : Try.f48.ntmps = 8 := rfl
theorem b48 : Try.f48.body = some (bodyOf Try.f48) := rfl
theorem kill49_3 : notes.kill 49 3 = [0, 1, 2, 4, 5, 9, 10, 11, 12, 13, 14, 15, 16, 17] := rfl
theorem grow49_3 : notes.grow 49 3 = [] := rfl
/-- f49, loop at region 3: lives 3:zero 6: 7: 8: -/
def L49_3 (s3 s6 s7 s8 : Slot) : List Slot := [.v .undef, .v .undef, .v .undef, s3, .v .undef, .v .undef, s6, s7, s8, .v .undef, .v .undef, .v .undef, .v .undef, .v .undef, .v .undef, .v .undef, .v .undef, .v .undef]
theorem f49 : Try.prog.funcs[49]? = some Try.f49 := by kernel_rfl
theorem r49 : Try.f49.results.toList = [.tmp 2] := rfl
theorem n49 : Try.f49.ntmps = 18 := rfl
theorem b49 : Try.f49.body = some (bodyOf Try.f49) := rfl
theorem mode50_8 : notes.mode 50 8 = .priv := rfl
theorem mode50_10 : notes.mode 50 10 = .priv := rfl
theorem f50 : Try.prog.funcs[50]? = some Try.f50 := by kernel_rfl
theorem r50 : Try.f50.results.toList = [.tmp 4] := rfl
theorem n50 : Try.f50.ntmps = 20 := rfl
theorem b50 : Try.f50.body = some (bodyOf Try.f50) := rfl
theorem kill57_1 : notes.kill 57 1 = [4, 5, 6, 7, 9, 10, 11, 12, 13, 14, 15, 16, 17, 18, 19, 20, 21, 22, 23, 24, 25, 26, 27, 28, 29, 30, 31, 32, 33, 34, 35, 36, 37, 38, 39, 40, 41, 42, 43, 44, 45, 46, 47, 48, 49, 50, 51, 52] := rfl
theorem grow57_1 : notes.grow 57 1 = [] := rfl
/-- f57, loop at region 1: lives 0:data 1:a 2:b 3:cmp 8:i -/
def L57_1 (s0 s1 s2 s3 s8 : Slot) : List Slot := [s0, s1, s2, s3, .v .undef, .v .undef, .v .undef, .v .undef, s8, .v .undef, .v .undef, .v .undef, .v .undef, .v .undef, .v .undef, .v .undef, .v .undef, .v .undef, .v .undef, .v .undef, .v .undef, .v .undef, .v .undef, .v .undef, .v .undef, .v .undef, .v .undef, .v .undef, .v .undef, .v .undef, .v .undef, .v .undef, .v .undef, .v .undef, .v .undef, .v .undef, .v .undef, .v .undef, .v .undef, .v .undef, .v .undef, .v .undef, .v .undef, .v .undef, .v .undef, .v .undef, .v .undef, .v .undef, .v .undef, .v .undef, .v .undef, .v .undef, .v .undef]
theorem kill57_4 : notes.kill 57 4 = [4, 5, 6, 7, 10, 11, 12, 13, 14, 15, 16, 17, 18, 19, 20, 21, 22, 23, 24, 25, 26, 27, 28, 29, 30, 31, 32, 33, 34, 35, 36, 37, 38, 39, 40, 41, 42, 43, 44, 45, 46, 47, 48, 49, 50, 51, 52] := rfl
theorem grow57_4 : notes.grow 57 4 = [] := rfl
/-- f57, loop at region 4: lives 0:data 1:a 2:b 3:cmp 8:i 9:j -/
def L57_4 (s0 s1 s2 s3 s8 s9 : Slot) : List Slot := [s0, s1, s2, s3, .v .undef, .v .undef, .v .undef, .v .undef, s8, s9, .v .undef, .v .undef, .v .undef, .v .undef, .v .undef, .v .undef, .v .undef, .v .undef, .v .undef, .v .undef, .v .undef, .v .undef, .v .undef, .v .undef, .v .undef, .v .undef, .v .undef, .v .undef, .v .undef, .v .undef, .v .undef, .v .undef, .v .undef, .v .undef, .v .undef, .v .undef, .v .undef, .v .undef, .v .undef, .v .undef, .v .undef, .v .undef, .v .undef, .v .undef, .v .undef, .v .undef, .v .undef, .v .undef, .v .undef, .v .undef, .v .undef, .v .undef, .v .undef]
theorem mode57_32 : notes.mode 57 32 = .priv := rfl
theorem f57 : Try.prog.funcs[57]? = some Try.f57 := by kernel_rfl
theorem r57 : Try.f57.results.toList = [] := rfl
theorem n57 : Try.f57.ntmps = 53 := rfl
theorem b57 : Try.f57.body = some (bodyOf Try.f57) := rfl
def alts57_4 : List (Nat × Nat × Nat) := []
def alts57_6 : List (Nat × Nat × Nat) := [(4, 0, 1), (4, 1, 0), (4, 1, 1)]
theorem kill58_4 : notes.kill 58 4 = [1, 2, 4, 5, 6, 7, 12, 13, 14, 15, 16, 17, 18, 19, 20, 21, 22, 23, 24, 25, 26, 27, 28, 29, 30, 31, 32, 33, 34, 35, 36, 37, 38, 39, 40, 41, 42, 43, 44, 45, 46, 47, 48, 49, 50, 51, 52, 53, 54, 55, 56, 57, 58, 59] := rfl
theorem grow58_4 : notes.grow 58 4 = [] := rfl
/-- f58, loop at region 4: lives 0:data 3:cmp 8:first 9:lo 10:hi 11:i -/
def L58_4 (s0 s3 s8 s9 s10 s11 : Slot) : List Slot := [s0, .v .undef, .v .undef, s3, .v .undef, .v .undef, .v .undef, .v .undef, s8, s9, s10, s11, .v .undef, .v .undef, .v .undef, .v .undef, .v .undef, .v .undef, .v .undef, .v .undef, .v .undef, .v .undef, .v .undef, .v .undef, .v .undef, .v .undef, .v .undef, .v .undef, .v .undef, .v .undef, .v .undef, .v .undef, .v .undef, .v .undef, .v .undef, .v .undef, .v .undef, .v .undef, .v .undef, .v .undef, .v .undef, .v .undef, .v .undef, .v .undef, .v .undef, .v .undef, .v .undef, .v .undef, .v .undef, .v .undef, .v .undef, .v .undef, .v .undef, .v .undef, .v .undef, .v .undef, .v .undef, .v .undef, .v .undef, .v .undef]
theorem kill58_8 : notes.kill 58 8 = [1, 2, 4, 5, 6, 7, 10, 11, 13, 14, 15, 16, 17, 18, 19, 20, 21, 22, 23, 24, 25, 26, 27, 28, 29, 30, 31, 32, 33, 34, 35, 36, 37, 38, 39, 40, 41, 42, 43, 44, 45, 46, 47, 48, 49, 50, 51, 52, 53, 54, 55, 56, 57, 58, 59] := rfl
theorem grow58_8 : notes.grow 58 8 = [] := rfl
/-- f58, loop at region 8: lives 0:data 3:cmp 8:first 9:lo 12:i -/
def L58_8 (s0 s3 s8 s9 s12 : Slot) : List Slot := [s0, .v .undef, .v .undef, s3, .v .undef, .v .undef, .v .undef, .v .undef, s8, s9, .v .undef, .v .undef, s12, .v .undef, .v .undef, .v .undef, .v .undef, .v .undef, .v .undef, .v .undef, .v .undef, .v .undef, .v .undef, .v .undef, .v .undef, .v .undef, .v .undef, .v .undef, .v .undef, .v .undef, .v .undef, .v .undef, .v .undef, .v .undef, .v .undef, .v .undef, .v .undef, .v .undef, .v .undef, .v .undef, .v .undef, .v .undef, .v .undef, .v .undef, .v .undef, .v .undef, .v .undef, .v .undef, .v .undef, .v .undef, .v .undef, .v .undef, .v .undef, .v .undef, .v .undef, .v .undef, .v .undef, .v .undef, .v .undef, .v .undef]
theorem mode58_29 : notes.mode 58 29 = .priv := rfl
theorem mode58_59 : notes.mode 58 59 = .priv := rfl
theorem f58 : Try.prog.funcs[58]? = some Try.f58 := by kernel_rfl
theorem r58 : Try.f58.results.toList = [] := rfl
theorem n58 : Try.f58.ntmps = 60 := rfl
theorem b58 : Try.f58.body = some (bodyOf Try.f58) := rfl
def alts58_10 : List (Nat × Nat × Nat) := [(5, 0, 1), (5, 1, 0), (5, 1, 1)]
theorem kill59_5 : notes.kill 59 5 = [2, 3, 4, 5, 6, 7, 12, 13, 14, 15, 16, 17, 18, 19, 20, 21, 22, 23, 24, 25, 26, 27, 28, 29, 30, 31, 32, 33, 34, 35, 36, 37, 38, 39, 40, 41, 42, 43, 44, 45, 46, 47, 48, 49, 50, 51, 52, 53, 54, 55, 56, 57, 58, 59, 60, 61, 62, 63, 64, 65, 66] := rfl
theorem grow59_5 : notes.grow 59 5 = [] := rfl
/-- f59, loop at region 5: lives 0:data 1:a 8:length 9:random 10:modulus 11:idx -/
def L59_5 (s0 s1 s8 s9 s10 s11 : Slot) : List Slot := [s0, s1, .v .undef, .v .undef, .v .undef, .v .undef, .v .undef, .v .undef, s8, s9, s10, s11, .v .undef, .v .undef, .v .undef, .v .undef, .v .undef, .v .undef, .v .undef, .v .undef, .v .undef, .v .undef, .v .undef, .v .undef, .v .undef, .v .undef, .v .undef, .v .undef, .v .undef, .v .undef, .v .undef, .v .undef, .v .undef, .v .undef, .v .undef, .v .undef, .v .undef, .v .undef, .v .undef, .v .undef, .v .undef, .v .undef, .v .undef, .v .undef, .v .undef, .v .undef, .v .undef, .v .undef, .v .undef, .v .undef, .v .undef, .v .undef, .v .undef, .v .undef, .v .undef, .v .undef, .v .undef, .v .undef, .v .undef, .v .undef, .v .undef, .v .undef, .v .undef, .v .undef, .v .undef, .v .undef, .v .undef]
theorem mode59_19 : notes.mode 59 19 = .priv := rfl
theorem mode59_9 : notes.mode 59 9 = .heap := rfl
theorem mode59_21 : notes.mode 59 21 = .priv := rfl
theorem mode59_38 : notes.mode 59 38 = .priv := rfl
theorem mode59_42 : notes.mode 59 42 = .priv := rfl
theorem f59 : Try.prog.funcs[59]? = some Try.f59 := by kernel_rfl
theorem r59 : Try.f59.results.toList = [] := rfl
theorem n59 : Try.f59.ntmps = 67 := rfl
theorem b59 : Try.f59.body = some (bodyOf Try.f59) := rfl
def alts59_10 : List (Nat × Nat × Nat) := [(5, 0, 1), (5, 1, 0), (5, 1, 1)]
theorem mode60_11 : notes.mode 60 11 = .heap := rfl
theorem mode60_40 : notes.mode 60 40 = .priv := rfl
theorem mode60_44 : notes.mode 60 44 = .priv := rfl
theorem mode60_48 : notes.mode 60 48 = .priv := rfl
theorem mode60_54 : notes.mode 60 54 = .priv := rfl
theorem f60 : Try.prog.funcs[60]? = some Try.f60 := by kernel_rfl
theorem r60 : Try.f60.results.toList = [.tmp 8, .tmp 9] := rfl
theorem n60 : Try.f60.ntmps = 63 := rfl
theorem b60 : Try.f60.body = some (bodyOf Try.f60) := rfl
theorem kill61_2 : notes.kill 61 2 = [1, 2, 3, 4, 5, 6, 7, 10, 11, 12, 13, 14, 15, 16, 17, 18, 19, 20, 21, 22, 23, 24, 25, 26, 27, 28, 29, 30, 31, 32, 33] := rfl
theorem grow61_2 : notes.grow 61 2 = [] := rfl
/-- f61, loop at region 2: lives 0:data 8:i 9:j -/
def L61_2 (s0 s8 s9 : Slot) : List Slot := [s0, .v .undef, .v .undef, .v .undef, .v .undef, .v .undef, .v .undef, .v .undef, s8, s9, .v .undef, .v .undef, .v .undef, .v .undef, .v .undef, .v .undef, .v .undef, .v .undef, .v .undef, .v .undef, .v .undef, .v .undef, .v .undef, .v .undef, .v .undef, .v .undef, .v .undef, .v .undef, .v .undef, .v .undef, .v .undef, .v .undef, .v .undef, .v .undef]
theorem f61 : Try.prog.funcs[61]? = some Try.f61 := by kernel_rfl
theorem r61 : Try.f61.results.toList = [] := rfl
theorem n61 : Try.f61.ntmps = 34 := rfl
theorem b61 : Try.f61.body = some (bodyOf Try.f61) := rfl
def alts61_3 : List (Nat × Nat × Nat) := []
theorem kill62_3 : notes.kill 62 3 = [4, 5, 6, 7, 8, 11, 12, 13, 14, 15, 16, 17, 18, 19, 20, 21, 22, 23, 24, 25, 26, 27, 28, 29, 30, 31, 32, 33, 34, 35, 36, 37, 38, 39, 40, 41, 42, 43, 44, 45, 46, 47, 48, 49, 50, 51, 52, 53, 54, 55, 56, 57, 58, 59, 60, 61, 62, 63, 64, 65, 66, 67, 68, 69, 70, 71, 72, 73, 74, 75, 76, 77, 78, 79, 80, 81, 82, 83, 84, 85, 86, 87, 88, 89, 90, 91, 92, 93, 94, 95, 96, 97, 98, 99, 100, 101, 102, 103, 104, 105, 106, 107, 108, 109, 110, 111, 112, 113, 114, 115, 116, 117, 118, 119, 120, 121, 122, 123, 124, 125, 126, 127, 128, 129, 130, 131, 132, 133, 134, 135, 136, 137, 138, 139, 140] := rfl
theorem grow62_3 : notes.grow 62 3 = [] := rfl
/-- f62, loop at region 3: lives 0:data 1:a 2:b 3:cmp 9:i 10:j -/
def L62_3 (s0 s1 s2 s3 s9 s10 : Slot) : List Slot := [s0, s1, s2, s3, .v .undef, .v .undef, .v .undef, .v .undef, .v .undef, s9, s10, .v .undef, .v .undef, .v .undef, .v .undef, .v .undef, .v .undef, .v .undef, .v .undef, .v .undef, .v .undef, .v .undef, .v .undef, .v .undef, .v .undef, .v .undef, .v .undef, .v .undef, .v .undef, .v .undef, .v .undef, .v .undef, .v .undef, .v .undef, .v .undef, .v .undef, .v .undef, .v .undef, .v .undef, .v .undef, .v .undef, .v .undef, .v .undef, .v .undef, .v .undef, .v .undef, .v .undef, .v .undef, .v .undef, .v .undef, .v .undef, .v .undef, .v .undef, .v .undef, .v .undef, .v .undef, .v .undef, .v .undef, .v .undef, .v .undef, .v .undef, .v .undef, .v .undef, .v .undef, .v .undef, .v .undef, .v .undef, .v .undef, .v .undef, .v .undef, .v .undef, .v .undef, .v .undef, .v .undef, .v .undef, .v .undef, .v .undef, .v .undef, .v .undef, .v .undef, .v .undef, .v .undef, .v .undef, .v .undef, .v .undef, .v .undef, .v .undef, .v .undef, .v .undef, .v .undef, .v .undef, .v .undef, .v .undef, .v .undef, .v .undef, .v .undef, .v .undef, .v .undef, .v .undef, .v .undef, .v .undef, .v .undef, .v .undef, .v .undef, .v .undef, .v .undef, .v .undef, .v .undef, .v .undef, .v .undef, .v .undef, .v .undef, .v .undef, .v .undef, .v .undef, .v .undef, .v .undef, .v .undef, .v .undef, .v .undef, .v .undef, .v .undef, .v .undef, .v .undef, .v .undef, .v .undef, .v .undef, .v .undef, .v .undef, .v .undef, .v .undef, .v .undef, .v .undef, .v .undef, .v .undef, .v .undef, .v .undef, .v .undef, .v .undef, .v .undef, .v .undef]
theorem kill62_5 : notes.kill 62 5 = [4, 5, 6, 7, 8, 11, 12, 13, 14, 15, 16, 17, 18, 19, 20, 21, 22, 23, 24, 25, 26, 27, 28, 29, 30, 31, 32, 33, 34, 35, 36, 37, 38, 39, 40, 41, 42, 43, 44, 45, 46, 47, 48, 49, 50, 51, 52, 53, 54, 55, 56, 57, 58, 59, 60, 61, 62, 63, 64, 65, 66, 67, 68, 69, 70, 71, 72, 73, 74, 75, 76, 77, 78, 79, 80, 81, 82, 83, 84, 85, 86, 87, 88, 89, 90, 91, 92, 93, 94, 95, 96, 97, 98, 99, 100, 101, 102, 103, 104, 105, 106, 107, 108, 109, 110, 111, 112, 113, 114, 115, 116, 117, 118, 119, 120, 121, 122, 123, 124, 125, 126, 127, 128, 129, 130, 131, 132, 133, 134, 135, 136, 137, 138, 139, 140] := rfl
theorem grow62_5 : notes.grow 62 5 = [] := rfl
/-- f62, loop at region 5: lives 0:data 1:a 2:b 3:cmp 9:i 10:j -/
def L62_5 (s0 s1 s2 s3 s9 s10 : Slot) : List Slot := [s0, s1, s2, s3, .v .undef, .v .undef, .v .undef, .v .undef, .v .undef, s9, s10, .v .undef, .v .undef, .v .undef, .v .undef, .v .undef, .v .undef, .v .undef, .v .undef, .v .undef, .v .undef, .v .undef, .v .undef, .v .undef, .v .undef, .v .undef, .v .undef, .v .undef, .v .undef, .v .undef, .v .undef, .v .undef, .v .undef, .v .undef, .v .undef, .v .undef, .v .undef, .v .undef, .v .undef, .v .undef, .v .undef, .v .undef, .v .undef, .v .undef, .v .undef, .v .undef, .v .undef, .v .undef, .v .undef, .v .undef, .v .undef, .v .undef, .v .undef, .v .undef, .v .undef, .v .undef, .v .undef, .v .undef, .v .undef, .v .undef, .v .undef, .v .undef, .v .undef, .v .undef, .v .undef, .v .undef, .v .undef, .v .undef, .v .undef, .v .undef, .v .undef, .v .undef, .v .undef, .v .undef, .v .undef, .v .undef, .v .undef, .v .undef, .v .undef, .v .undef, .v .undef, .v .undef, .v .undef, .v .undef, .v .undef, .v .undef, .v .undef, .v .undef, .v .undef, .v .undef, .v .undef, .v .undef, .v .undef, .v .undef, .v .undef, .v .undef, .v .undef, .v .undef, .v .undef, .v .undef, .v .undef, .v .undef, .v .undef, .v .undef, .v .undef, .v .undef, .v .undef, .v .undef, .v .undef, .v .undef, .v .undef, .v .undef, .v .undef, .v .undef, .v .undef, .v .undef, .v .undef, .v .undef, .v .undef, .v .undef, .v .undef, .v .undef, .v .undef, .v .undef, .v .undef, .v .undef, .v .undef, .v .undef, .v .undef, .v .undef, .v .undef, .v .undef, .v .undef, .v .undef, .v .undef, .v .undef, .v .undef, .v .undef, .v .undef, .v .undef, .v .undef]
theorem kill62_14 : notes.kill 62 14 = [4, 5, 6, 7, 8, 12, 13, 14, 15, 16, 17, 18, 19, 20, 21, 22, 23, 24, 25, 26, 27, 28, 29, 30, 31, 32, 33, 34, 35, 36, 37, 38, 39, 40, 41, 42, 43, 44, 45, 46, 47, 48, 49, 50, 51, 52, 53, 54, 55, 56, 57, 58, 59, 60, 61, 62, 63, 64, 65, 66, 67, 68, 69, 70, 71, 72, 73, 74, 75, 76, 77, 78, 79, 80, 81, 82, 83, 84, 85, 86, 87, 88, 89, 90, 91, 92, 93, 94, 95, 96, 97, 98, 99, 100, 101, 102, 103, 104, 105, 106, 107, 108, 109, 110, 111, 112, 113, 114, 115, 116, 117, 118, 119, 120, 121, 122, 123, 124, 125, 126, 127, 128, 129, 130, 131, 132, 133, 134, 135, 136, 137, 138, 139, 140] := rfl
theorem grow62_14 : notes.grow 62 14 = [] := rfl
/-- f62, loop at region 14: lives 0:data 1:a 2:b 3:cmp 9:i 10:j 11:j -/
def L62_14 (s0 s1 s2 s3 s9 s10 s11 : Slot) : List Slot := [s0, s1, s2, s3, .v .undef, .v .undef, .v .undef, .v .undef, .v .undef, s9, s10, s11, .v .undef, .v .undef, .v .undef, .v .undef, .v .undef, .v .undef, .v .undef, .v .undef, .v .undef, .v .undef, .v .undef, .v .undef, .v .undef, .v .undef, .v .undef, .v .undef, .v .undef, .v .undef, .v .undef, .v .undef, .v .undef, .v .undef, .v .undef, .v .undef, .v .undef, .v .undef, .v .undef, .v .undef, .v .undef, .v .undef, .v .undef, .v .undef, .v .undef, .v .undef, .v .undef, .v .undef, .v .undef, .v .undef, .v .undef, .v .undef, .v .undef, .v .undef, .v .undef, .v .undef, .v .undef, .v .undef, .v .undef, .v .undef, .v .undef, .v .undef, .v .undef, .v .undef, .v .undef, .v .undef, .v .undef, .v .undef, .v .undef, .v .undef, .v .undef, .v .undef, .v .undef, .v .undef, .v .undef, .v .undef, .v .undef, .v .undef, .v .undef, .v .undef, .v .undef, .v .undef, .v .undef, .v .undef, .v .undef, .v .undef, .v .undef, .v .undef, .v .undef, .v .undef, .v .undef, .v .undef, .v .undef, .v .undef, .v .undef, .v .undef, .v .undef, .v .undef, .v .undef, .v .undef, .v .undef, .v .undef, .v .undef, .v .undef, .v .undef, .v .undef, .v .undef, .v .undef, .v .undef, .v .undef, .v .undef, .v .undef, .v .undef, .v .undef, .v .undef, .v .undef, .v .undef, .v .undef, .v .undef, .v .undef, .v .undef, .v .undef, .v .undef, .v .undef, .v .undef, .v .undef, .v .undef, .v .undef, .v .undef, .v .undef, .v .undef, .v .undef, .v .undef, .v .undef, .v .undef, .v .undef, .v .undef, .v .undef, .v .undef, .v .undef, .v .undef]
theorem kill62_20 : notes.kill 62 20 = [4, 5, 6, 7, 8, 11, 13, 14, 15, 16, 17, 18, 19, 20, 21, 22, 23, 24, 25, 26, 27, 28, 29, 30, 31, 32, 33, 34, 35, 36, 37, 38, 39, 40, 41, 42, 43, 44, 45, 46, 47, 48, 49, 50, 51, 52, 53, 54, 55, 56, 57, 58, 59, 60, 61, 62, 63, 64, 65, 66, 67, 68, 69, 70, 71, 72, 73, 74, 75, 76, 77, 78, 79, 80, 81, 82, 83, 84, 85, 86, 87, 88, 89, 90, 91, 92, 93, 94, 95, 96, 97, 98, 99, 100, 101, 102, 103, 104, 105, 106, 107, 108, 109, 110, 111, 112, 113, 114, 115, 116, 117, 118, 119, 120, 121, 122, 123, 124, 125, 126, 127, 128, 129, 130, 131, 132, 133, 134, 135, 136, 137, 138, 139, 140] := rfl
theorem grow62_20 : notes.grow 62 20 = [] := rfl
/-- f62, loop at region 20: lives 0:data 1:a 2:b 3:cmp 9:i 10:j 12:j -/
def L62_20 (s0 s1 s2 s3 s9 s10 s12 : Slot) : List Slot := [s0, s1, s2, s3, .v .undef, .v .undef, .v .undef, .v .undef, .v .undef, s9, s10, .v .undef, s12, .v .undef, .v .undef, .v .undef, .v .undef, .v .undef, .v .undef, .v .undef, .v .undef, .v .undef, .v .undef, .v .undef, .v .undef, .v .undef, .v .undef, .v .undef, .v .undef, .v .undef, .v .undef, .v .undef, .v .undef, .v .undef, .v .undef, .v .undef, .v .undef, .v .undef, .v .undef, .v .undef, .v .undef, .v .undef, .v .undef, .v .undef, .v .undef, .v .undef, .v .undef, .v .undef, .v .undef, .v .undef, .v .undef, .v .undef, .v .undef, .v .undef, .v .undef, .v .undef, .v .undef, .v .undef, .v .undef, .v .undef, .v .undef, .v .undef, .v .undef, .v .undef, .v .undef, .v .undef, .v .undef, .v .undef, .v .undef, .v .undef, .v .undef, .v .undef, .v .undef, .v .undef, .v .undef, .v .undef, .v .undef, .v .undef, .v .undef, .v .undef, .v .undef, .v .undef, .v .undef, .v .undef, .v .undef, .v .undef, .v .undef, .v .undef, .v .undef, .v .undef, .v .undef, .v .undef, .v .undef, .v .undef, .v .undef, .v .undef, .v .undef, .v .undef, .v .undef, .v .undef, .v .undef, .v .undef, .v .undef, .v .undef, .v .undef, .v .undef, .v .undef, .v .undef, .v .undef, .v .undef, .v .undef, .v .undef, .v .undef, .v .undef, .v .undef, .v .undef, .v .undef, .v .undef, .v .undef, .v .undef, .v .undef, .v .undef, .v .undef, .v .undef, .v .undef, .v .undef, .v .undef, .v .undef, .v .undef, .v .undef, .v .undef, .v .undef, .v .undef, .v .undef, .v .undef, .v .undef, .v .undef, .v .undef, .v .undef, .v .undef, .v .undef]
theorem mode62_33 : notes.mode 62 33 = .priv := rfl
theorem mode62_82 : notes.mode 62 82 = .priv := rfl
theorem mode62_122 : notes.mode 62 122 = .priv := rfl
theorem f62 : Try.prog.funcs[62]? = some Try.f62 := by kernel_rfl
theorem r62 : Try.f62.results.toList = [.tmp 8] := rfl
theorem n62 : Try.f62.ntmps = 141 := rfl
theorem b62 : Try.f62.body = some (bodyOf Try.f62) := rfl
def alts62_5 : List (Nat × Nat × Nat) := []
def alts62_11 : List (Nat × Nat × Nat) := [(4, 0, 1), (4, 1, 0), (4, 1, 1)]
def alts62_16 : List (Nat × Nat × Nat) := []
def alts62_17 : List (Nat × Nat × Nat) := [(4, 0, 1), (4, 1, 0), (4, 1, 1)]
def alts62_22 : List (Nat × Nat × Nat) := []
def alts62_23 : List (Nat × Nat × Nat) := [(4, 0, 1), (4, 1, 0), (4, 1, 1)]
theorem kill63_3 : notes.kill 63 3 = [2, 3, 5, 6, 7, 8, 9, 10, 13, 14, 15, 16, 17, 18, 19, 20, 21, 22, 23, 24, 25, 26, 27, 28, 29, 30, 31, 32, 33, 34, 35, 36, 37, 38, 39, 40, 41, 42, 43, 44, 45, 46, 47, 48, 49, 50, 51, 52, 53, 54, 55, 56, 57, 58, 59, 60, 61, 62, 63, 64, 65, 66, 67, 68, 69, 70, 71, 72, 73, 74, 75, 76, 77, 78, 79, 80, 81, 82, 83, 84, 85, 86, 87, 88, 89] := rfl
theorem grow63_3 : notes.grow 63 3 = [] := rfl
/-- f63, loop at region 3: lives 0:data 1:a 4:cmp 11:i 12:j -/
def L63_3 (s0 s1 s4 s11 s12 : Slot) : List Slot := [s0, s1, .v .undef, .v .undef, s4, .v .undef, .v .undef, .v .undef, .v .undef, .v .undef, .v .undef, s11, s12, .v .undef, .v .undef, .v .undef, .v .undef, .v .undef, .v .undef, .v .undef, .v .undef, .v .undef, .v .undef, .v .undef, .v .undef, .v .undef, .v .undef, .v .undef, .v .undef, .v .undef, .v .undef, .v .undef, .v .undef, .v .undef, .v .undef, .v .undef, .v .undef, .v .undef, .v .undef, .v .undef, .v .undef, .v .undef, .v .undef, .v .undef, .v .undef, .v .undef, .v .undef, .v .undef, .v .undef, .v .undef, .v .undef, .v .undef, .v .undef, .v .undef, .v .undef, .v .undef, .v .undef, .v .undef, .v .undef, .v .undef, .v .undef, .v .undef, .v .undef, .v .undef, .v .undef, .v .undef, .v .undef, .v .undef, .v .undef, .v .undef, .v .undef, .v .undef, .v .undef, .v .undef, .v .undef, .v .undef, .v .undef, .v .undef, .v .undef, .v .undef, .v .undef, .v .undef, .v .undef, .v .undef, .v .undef, .v .undef, .v .undef, .v .undef, .v .undef, .v .undef]
theorem kill63_5 : notes.kill 63 5 = [2, 3, 5, 6, 7, 8, 9, 10, 13, 14, 15, 16, 17, 18, 19, 20, 21, 22, 23, 24, 25, 26, 27, 28, 29, 30, 31, 32, 33, 34, 35, 36, 37, 38, 39, 40, 41, 42, 43, 44, 45, 46, 47, 48, 49, 50, 51, 52, 53, 54, 55, 56, 57, 58, 59, 60, 61, 62, 63, 64, 65, 66, 67, 68, 69, 70, 71, 72, 73, 74, 75, 76, 77, 78, 79, 80, 81, 82, 83, 84, 85, 86, 87, 88, 89] := rfl
theorem grow63_5 : notes.grow 63 5 = [] := rfl
/-- f63, loop at region 5: lives 0:data 1:a 4:cmp 11:i 12:j -/
def L63_5 (s0 s1 s4 s11 s12 : Slot) : List Slot := [s0, s1, .v .undef, .v .undef, s4, .v .undef, .v .undef, .v .undef, .v .undef, .v .undef, .v .undef, s11, s12, .v .undef, .v .undef, .v .undef, .v .undef, .v .undef, .v .undef, .v .undef, .v .undef, .v .undef, .v .undef, .v .undef, .v .undef, .v .undef, .v .undef, .v .undef, .v .undef, .v .undef, .v .undef, .v .undef, .v .undef, .v .undef, .v .undef, .v .undef, .v .undef, .v .undef, .v .undef, .v .undef, .v .undef, .v .undef, .v .undef, .v .undef, .v .undef, .v .undef, .v .undef, .v .undef, .v .undef, .v .undef, .v .undef, .v .undef, .v .undef, .v .undef, .v .undef, .v .undef, .v .undef, .v .undef, .v .undef, .v .undef, .v .undef, .v .undef, .v .undef, .v .undef, .v .undef, .v .undef, .v .undef, .v .undef, .v .undef, .v .undef, .v .undef, .v .undef, .v .undef, .v .undef, .v .undef, .v .undef, .v .undef, .v .undef, .v .undef, .v .undef, .v .undef, .v .undef, .v .undef, .v .undef, .v .undef, .v .undef, .v .undef, .v .undef, .v .undef, .v .undef]
theorem mode63_44 : notes.mode 63 44 = .priv := rfl
theorem mode63_63 : notes.mode 63 63 = .priv := rfl
theorem f63 : Try.prog.funcs[63]? = some Try.f63 := by kernel_rfl
theorem r63 : Try.f63.results.toList = [.tmp 10] := rfl
theorem n63 : Try.f63.ntmps = 90 := rfl
theorem b63 : Try.f63.body = some (bodyOf Try.f63) := rfl
def alts63_1 : List (Nat × Nat × Nat) := []
def alts63_3 : List (Nat × Nat × Nat) := []
def alts63_5 : List (Nat × Nat × Nat) := []
def alts63_8 : List (Nat × Nat × Nat) := []
theorem kill64_3 : notes.kill 64 3 = [2, 3, 5, 6, 7, 8, 9, 10, 11, 14, 15, 16, 17, 18, 19, 20, 21, 22, 23, 24, 25, 26, 27, 28, 29, 30, 31, 32, 33, 34, 35, 36, 37, 38, 39, 40, 41, 42, 43, 44, 45, 46, 47, 48, 49, 50, 51, 52, 53, 54, 55, 56, 57, 58, 59, 60, 61, 62, 63, 64, 65, 66, 67, 68, 69, 70, 71, 72, 73, 74, 75, 76, 77, 78, 79, 80, 81, 82, 83, 84, 85, 86, 87, 88, 89, 90, 91, 92, 93, 94, 95, 96, 97, 98, 99, 100, 101, 102, 103, 104, 105, 106, 107, 108, 109, 110, 111, 112, 113, 114, 115, 116, 117, 118, 119, 120, 121, 122, 123, 124, 125, 126, 127, 128, 129, 130, 131, 132, 133, 134, 135, 136, 137, 138, 139, 140, 141, 142, 143, 144, 145, 146, 147, 148, 149, 150, 151, 152, 153, 154, 155, 156, 157, 158, 159, 160, 161, 162, 163, 164, 165, 166, 167, 168, 169, 170, 171, 172, 173, 174, 175, 176, 177] := rfl
theorem grow64_3 : notes.grow 64 3 = [] := rfl
/-- f64, loop at region 3: lives 0:data 1:a 4:cmp 12:i 13:j -/
def L64_3 (s0 s1 s4 s12 s13 : Slot) : List Slot := [s0, s1, .v .undef, .v .undef, s4, .v .undef, .v .undef, .v .undef, .v .undef, .v .undef, .v .undef, .v .undef, s12, s13, .v .undef, .v .undef, .v .undef, .v .undef, .v .undef, .v .undef, .v .undef, .v .undef, .v .undef, .v .undef, .v .undef, .v .undef, .v .undef, .v .undef, .v .undef, .v .undef, .v .undef, .v .undef, .v .undef, .v .undef, .v .undef, .v .undef, .v .undef, .v .undef, .v .undef, .v .undef, .v .undef, .v .undef, .v .undef, .v .undef, .v .undef, .v .undef, .v .undef, .v .undef, .v .undef, .v .undef, .v .undef, .v .undef, .v .undef, .v .undef, .v .undef, .v .undef, .v .undef, .v .undef, .v .undef, .v .undef, .v .undef, .v .undef, .v .undef, .v .undef, .v .undef, .v .undef, .v .undef, .v .undef, .v .undef, .v .undef, .v .undef, .v .undef, .v .undef, .v .undef, .v .undef, .v .undef, .v .undef, .v .undef, .v .undef, .v .undef, .v .undef, .v .undef, .v .undef, .v .undef, .v .undef, .v .undef, .v .undef, .v .undef, .v .undef, .v .undef, .v .undef, .v .undef, .v .undef, .v .undef, .v .undef, .v .undef, .v .undef, .v .undef, .v .undef, .v .undef, .v .undef, .v .undef, .v .undef, .v .undef, .v .undef, .v .undef, .v .undef, .v .undef, .v .undef, .v .undef, .v .undef, .v .undef, .v .undef, .v .undef, .v .undef, .v .undef, .v .undef, .v .undef, .v .undef, .v .undef, .v .undef, .v .undef, .v .undef, .v .undef, .v .undef, .v .undef, .v .undef, .v .undef, .v .undef, .v .undef, .v .undef, .v .undef, .v .undef, .v .undef, .v .undef, .v .undef, .v .undef, .v .undef, .v .undef, .v .undef, .v .undef, .v .undef, .v .undef, .v .undef, .v .undef, .v .undef, .v .undef, .v .undef, .v .undef, .v .undef, .v .undef, .v .undef, .v .undef, .v .undef, .v .undef, .v .undef, .v .undef, .v .undef, .v .undef, .v .undef, .v .undef, .v .undef, .v .undef, .v .undef, .v .undef, .v .undef, .v .undef, .v .undef, .v .undef, .v .undef, .v .undef, .v .undef, .v .undef, .v .undef, .v .undef, .v .undef, .v .undef, .v .undef]
theorem kill64_5 : notes.kill 64 5 = [2, 3, 5, 6, 7, 8, 9, 10, 11, 14, 15, 16, 17, 18, 19, 20, 21, 22, 23, 24, 25, 26, 27, 28, 29, 30, 31, 32, 33, 34, 35, 36, 37, 38, 39, 40, 41, 42, 43, 44, 45, 46, 47, 48, 49, 50, 51, 52, 53, 54, 55, 56, 57, 58, 59, 60, 61, 62, 63, 64, 65, 66, 67, 68, 69, 70, 71, 72, 73, 74, 75, 76, 77, 78, 79, 80, 81, 82, 83, 84, 85, 86, 87, 88, 89, 90, 91, 92, 93, 94, 95, 96, 97, 98, 99, 100, 101, 102, 103, 104, 105, 106, 107, 108, 109, 110, 111, 112, 113, 114, 115, 116, 117, 118, 119, 120, 121, 122, 123, 124, 125, 126, 127, 128, 129, 130, 131, 132, 133, 134, 135, 136, 137, 138, 139, 140, 141, 142, 143, 144, 145, 146, 147, 148, 149, 150, 151, 152, 153, 154, 155, 156, 157, 158, 159, 160, 161, 162, 163, 164, 165, 166, 167, 168, 169, 170, 171, 172, 173, 174, 175, 176, 177] := rfl
theorem grow64_5 : notes.grow 64 5 = [] := rfl
/-- f64, loop at region 5: lives 0:data 1:a 4:cmp 12:i 13:j -/
def L64_5 (s0 s1 s4 s12 s13 : Slot) : List Slot := [s0, s1, .v .undef, .v .undef, s4, .v .undef, .v .undef, .v .undef, .v .undef, .v .undef, .v .undef, .v .undef, s12, s13, .v .undef, .v .undef, .v .undef, .v .undef, .v .undef, .v .undef, .v .undef, .v .undef, .v .undef, .v .undef, .v .undef, .v .undef, .v .undef, .v .undef, .v .undef, .v .undef, .v .undef, .v .undef, .v .undef, .v .undef, .v .undef, .v .undef, .v .undef, .v .undef, .v .undef, .v .undef, .v .undef, .v .undef, .v .undef, .v .undef, .v .undef, .v .undef, .v .undef, .v .undef, .v .undef, .v .undef, .v .undef, .v .undef, .v .undef, .v .undef, .v .undef, .v .undef, .v .undef, .v .undef, .v .undef, .v .undef, .v .undef, .v .undef, .v .undef, .v .undef, .v .undef, .v .undef, .v .undef, .v .undef, .v .undef, .v .undef, .v .undef, .v .undef, .v .undef, .v .undef, .v .undef, .v .undef, .v .undef, .v .undef, .v .undef, .v .undef, .v .undef, .v .undef, .v .undef, .v .undef, .v .undef, .v .undef, .v .undef, .v .undef, .v .undef, .v .undef, .v .undef, .v .undef, .v .undef, .v .undef, .v .undef, .v .undef, .v .undef, .v .undef, .v .undef, .v .undef, .v .undef, .v .undef, .v .undef, .v .undef, .v .undef, .v .undef, .v .undef, .v .undef, .v .undef, .v .undef, .v .undef, .v .undef, .v .undef, .v .undef, .v .undef, .v .undef, .v .undef, .v .undef, .v .undef, .v .undef, .v .undef, .v .undef, .v .undef, .v .undef, .v .undef, .v .undef, .v .undef, .v .undef, .v .undef, .v .undef, .v .undef, .v .undef, .v .undef, .v .undef, .v .undef, .v .undef, .v .undef, .v .undef, .v .undef, .v .undef, .v .undef, .v .undef, .v .undef, .v .undef, .v .undef, .v .undef, .v .undef, .v .undef, .v .undef, .v .undef, .v .undef, .v .undef, .v .undef, .v .undef, .v .undef, .v .undef, .v .undef, .v .undef, .v .undef, .v .undef, .v .undef, .v .undef, .v .undef, .v .undef, .v .undef, .v .undef, .v .undef, .v .undef, .v .undef, .v .undef, .v .undef, .v .undef, .v .undef, .v .undef, .v .undef, .v .undef, .v .undef, .v .undef]
theorem kill64_13 : notes.kill 64 13 = [2, 3, 5, 6, 7, 8, 9, 10, 11, 14, 15, 16, 17, 18, 19, 20, 21, 22, 23, 24, 25, 26, 27, 28, 29, 30, 31, 32, 33, 34, 35, 36, 37, 38, 39, 40, 41, 42, 43, 44, 45, 46, 47, 48, 49, 50, 51, 52, 53, 54, 55, 56, 57, 58, 59, 60, 61, 62, 63, 64, 65, 66, 67, 68, 69, 70, 71, 72, 73, 74, 75, 76, 77, 78, 79, 80, 81, 82, 83, 84, 85, 86, 87, 88, 89, 90, 91, 92, 93, 94, 95, 96, 97, 98, 99, 100, 101, 102, 103, 104, 105, 106, 107, 108, 109, 110, 111, 112, 113, 114, 115, 116, 117, 118, 119, 120, 121, 122, 123, 124, 125, 126, 127, 128, 129, 130, 131, 132, 133, 134, 135, 136, 137, 138, 139, 140, 141, 142, 143, 144, 145, 146, 147, 148, 149, 150, 151, 152, 153, 154, 155, 156, 157, 158, 159, 160, 161, 162, 163, 164, 165, 166, 167, 168, 169, 170, 171, 172, 173, 174, 175, 176, 177] := rfl
theorem grow64_13 : notes.grow 64 13 = [] := rfl
/-- f64, loop at region 13: lives 0:data 1:a 4:cmp 12:i 13:j -/
def L64_13 (s0 s1 s4 s12 s13 : Slot) : List Slot := [s0, s1, .v .undef, .v .undef, s4, .v .undef, .v .undef, .v .undef, .v .undef, .v .undef, .v .undef, .v .undef, s12, s13, .v .undef, .v .undef, .v .undef, .v .undef, .v .undef, .v .undef, .v .undef, .v .undef, .v .undef, .v .undef, .v .undef, .v .undef, .v .undef, .v .undef, .v .undef, .v .undef, .v .undef, .v .undef, .v .undef, .v .undef, .v .undef, .v .undef, .v .undef, .v .undef, .v .undef, .v .undef, .v .undef, .v .undef, .v .undef, .v .undef, .v .undef, .v .undef, .v .undef, .v .undef, .v .undef, .v .undef, .v .undef, .v .undef, .v .undef, .v .undef, .v .undef, .v .undef, .v .undef, .v .undef, .v .undef, .v .undef, .v .undef, .v .undef, .v .undef, .v .undef, .v .undef, .v .undef, .v .undef, .v .undef, .v .undef, .v .undef, .v .undef, .v .undef, .v .undef, .v .undef, .v .undef, .v .undef, .v .undef, .v .undef, .v .undef, .v .undef, .v .undef, .v .undef, .v .undef, .v .undef, .v .undef, .v .undef, .v .undef, .v .undef, .v .undef, .v .undef, .v .undef, .v .undef, .v .undef, .v .undef, .v .undef, .v .undef, .v .undef, .v .undef, .v .undef, .v .undef, .v .undef, .v .undef, .v .undef, .v .undef, .v .undef, .v .undef, .v .undef, .v .undef, .v .undef, .v .undef, .v .undef, .v .undef, .v .undef, .v .undef, .v .undef, .v .undef, .v .undef, .v .undef, .v .undef, .v .undef, .v .undef, .v .undef, .v .undef, .v .undef, .v .undef, .v .undef, .v .undef, .v .undef, .v .undef, .v .undef, .v .undef, .v .undef, .v .undef, .v .undef, .v .undef, .v .undef, .v .undef, .v .undef, .v .undef, .v .undef, .v .undef, .v .undef, .v .undef, .v .undef, .v .undef, .v .undef, .v .undef, .v .undef, .v .undef, .v .undef, .v .undef, .v .undef, .v .undef, .v .undef, .v .undef, .v .undef, .v .undef, .v .undef, .v .undef, .v .undef, .v .undef, .v .undef, .v .undef, .v .undef, .v .undef, .v .undef, .v .undef, .v .undef, .v .undef, .v .undef, .v .undef, .v .undef, .v .undef, .v .undef, .v .undef, .v .undef, .v .undef, .v .undef]
theorem kill64_15 : notes.kill 64 15 = [2, 3, 5, 6, 7, 8, 9, 10, 11, 14, 15, 16, 17, 18, 19, 20, 21, 22, 23, 24, 25, 26, 27, 28, 29, 30, 31, 32, 33, 34, 35, 36, 37, 38, 39, 40, 41, 42, 43, 44, 45, 46, 47, 48, 49, 50, 51, 52, 53, 54, 55, 56, 57, 58, 59, 60, 61, 62, 63, 64, 65, 66, 67, 68, 69, 70, 71, 72, 73, 74, 75, 76, 77, 78, 79, 80, 81, 82, 83, 84, 85, 86, 87, 88, 89, 90, 91, 92, 93, 94, 95, 96, 97, 98, 99, 100, 101, 102, 103, 104, 105, 106, 107, 108, 109, 110, 111, 112, 113, 114, 115, 116, 117, 118, 119, 120, 121, 122, 123, 124, 125, 126, 127, 128, 129, 130, 131, 132, 133, 134, 135, 136, 137, 138, 139, 140, 141, 142, 143, 144, 145, 146, 147, 148, 149, 150, 151, 152, 153, 154, 155, 156, 157, 158, 159, 160, 161, 162, 163, 164, 165, 166, 167, 168, 169, 170, 171, 172, 173, 174, 175, 176, 177] := rfl
theorem grow64_15 : notes.grow 64 15 = [] := rfl
/-- f64, loop at region 15: lives 0:data 1:a 4:cmp 12:i 13:j -/
def L64_15 (s0 s1 s4 s12 s13 : Slot) : List Slot := [s0, s1, .v .undef, .v .undef, s4, .v .undef, .v .undef, .v .undef, .v .undef, .v .undef, .v .undef, .v .undef, s12, s13, .v .undef, .v .undef, .v .undef, .v .undef, .v .undef, .v .undef, .v .undef, .v .undef, .v .undef, .v .undef, .v .undef, .v .undef, .v .undef, .v .undef, .v .undef, .v .undef, .v .undef, .v .undef, .v .undef, .v .undef, .v .undef, .v .undef, .v .undef, .v .undef, .v .undef, .v .undef, .v .undef, .v .undef, .v .undef, .v .undef, .v .undef, .v .undef, .v .undef, .v .undef, .v .undef, .v .undef, .v .undef, .v .undef, .v .undef, .v .undef, .v .undef, .v .undef, .v .undef, .v .undef, .v .undef, .v .undef, .v .undef, .v .undef, .v .undef, .v .undef, .v .undef, .v .undef, .v .undef, .v .undef, .v .undef, .v .undef, .v .undef, .v .undef, .v .undef, .v .undef, .v .undef, .v .undef, .v .undef, .v .undef, .v .undef, .v .undef, .v .undef, .v .undef, .v .undef, .v .undef, .v .undef, .v .undef, .v .undef, .v .undef, .v .undef, .v .undef, .v .undef, .v .undef, .v .undef, .v .undef, .v .undef, .v .undef, .v .undef, .v .undef, .v .undef, .v .undef, .v .undef, .v .undef, .v .undef, .v .undef, .v .undef, .v .undef, .v .undef, .v .undef, .v .undef, .v .undef, .v .undef, .v .undef, .v .undef, .v .undef, .v .undef, .v .undef, .v .undef, .v .undef, .v .undef, .v .undef, .v .undef, .v .undef, .v .undef, .v .undef, .v .undef, .v .undef, .v .undef, .v .undef, .v .undef, .v .undef, .v .undef, .v .undef, .v .undef, .v .undef, .v .undef, .v .undef, .v .undef, .v .undef, .v .undef, .v .undef, .v .undef, .v .undef, .v .undef, .v .undef, .v .undef, .v .undef, .v .undef, .v .undef, .v .undef, .v .undef, .v .undef, .v .undef, .v .undef, .v .undef, .v .undef, .v .undef, .v .undef, .v .undef, .v .undef, .v .undef, .v .undef, .v .undef, .v .undef, .v .undef, .v .undef, .v .undef, .v .undef, .v .undef, .v .undef, .v .undef, .v .undef, .v .undef, .v .undef, .v .undef, .v .undef, .v .undef, .v .undef, .v .undef]
theorem mode64_45 : notes.mode 64 45 = .priv := rfl
theorem mode64_63 : notes.mode 64 63 = .priv := rfl
theorem mode64_118 : notes.mode 64 118 = .priv := rfl
theorem mode64_136 : notes.mode 64 136 = .priv := rfl
theorem f64 : Try.prog.funcs[64]? = some Try.f64 := by kernel_rfl
theorem r64 : Try.f64.results.toList = [.tmp 10, .tmp 11] := rfl
theorem n64 : Try.f64.ntmps = 178 := rfl
theorem b64 : Try.f64.body = some (bodyOf Try.f64) := rfl
def alts64_1 : List (Nat × Nat × Nat) := []
def alts64_3 : List (Nat × Nat × Nat) := []
def alts64_5 : List (Nat × Nat × Nat) := []
def alts64_8 : List (Nat × Nat × Nat) := []
def alts64_10 : List (Nat × Nat × Nat) := []
def alts64_13 : List (Nat × Nat × Nat) := []
def alts64_15 : List (Nat × Nat × Nat) := []
def alts64_18 : List (Nat × Nat × Nat) := []
def alts64_21 : List (Nat × Nat × Nat) := []
theorem mode65_15 : notes.mode 65 15 = .priv := rfl
theorem mode65_17 : notes.mode 65 17 = .priv := rfl
theorem f65 : Try.prog.funcs[65]? = some Try.f65 := by kernel_rfl
theorem r65 : Try.f65.results.toList = [.tmp 2] := rfl
theorem n65 : Try.f65.ntmps = 19 := rfl
theorem b65 : Try.f65.body = some (bodyOf Try.f65) := rfl
theorem mode66_21 : notes.mode 66 21 = .priv := rfl
theorem mode66_23 : notes.mode 66 23 = .priv := rfl
theorem f66 : Try.prog.funcs[66]? = some Try.f66 := by kernel_rfl
theorem r66 : Try.f66.results.toList = [.tmp 2] := rfl
theorem n66 : Try.f66.ntmps = 25 := rfl
theorem b66 : Try.f66.body = some (bodyOf Try.f66) := rfl
theorem f67 : Try.prog.funcs[67]? = some Try.f67 := by kernel_rfl
theorem r67 : Try.f67.results.toList = [.tmp 2] := rfl
theorem n67 : Try.f67.ntmps = 6 := rfl
theorem b67 : Try.f67.body = some (bodyOf Try.f67) := rfl
theorem kill68_1 : notes.kill 68 1 = [1, 5, 6, 7, 8, 9, 11, 12, 13, 14, 15, 16, 17, 18, 19, 20, 21, 22, 23, 24, 25, 26, 27, 28, 29, 30, 31, 32, 33, 34, 35, 36, 37, 38, 39, 40, 41, 42, 43, 44, 45, 46, 47, 48, 49, 50, 51, 52, 53, 54, 55, 56, 57, 58, 59, 60, 61, 62, 63, 64, 65, 66, 67, 68, 69, 70, 71, 72, 73, 74, 75, 76, 77, 78, 79, 80, 81] := rfl
theorem grow68_1 : notes.grow 68 1 = [] := rfl
/-- f68, loop at region 1: lives 0:data 2:hi 3:first 4:cmp 10:root -/
def L68_1 (s0 s2 s3 s4 s10 : Slot) : List Slot := [s0, .v .undef, s2, s3, s4, .v .undef, .v .undef, .v .undef, .v .undef, .v .undef, s10, .v .undef, .v .undef, .v .undef, .v .undef, .v .undef, .v .undef, .v .undef, .v .undef, .v .undef, .v .undef, .v .undef, .v .undef, .v .undef, .v .undef, .v .undef, .v .undef, .v .undef, .v .undef, .v .undef, .v .undef, .v .undef, .v .undef, .v .undef, .v .undef, .v .undef, .v .undef, .v .undef, .v .undef, .v .undef, .v .undef, .v .undef, .v .undef, .v .undef, .v .undef, .v .undef, .v .undef, .v .undef, .v .undef, .v .undef, .v .undef, .v .undef, .v .undef, .v .undef, .v .undef, .v .undef, .v .undef, .v .undef, .v .undef, .v .undef, .v .undef, .v .undef, .v .undef, .v .undef, .v .undef, .v .undef, .v .undef, .v .undef, .v .undef, .v .undef, .v .undef, .v .undef, .v .undef, .v .undef, .v .undef, .v .undef, .v .undef, .v .undef, .v .undef, .v .undef, .v .undef, .v .undef]
theorem mode68_38 : notes.mode 68 38 = .priv := rfl
theorem mode68_56 : notes.mode 68 56 = .priv := rfl
theorem f68 : Try.prog.funcs[68]? = some Try.f68 := by kernel_rfl
theorem r68 : Try.f68.results.toList = [] := rfl
theorem n68 : Try.f68.ntmps = 82 := rfl
theorem b68 : Try.f68.body = some (bodyOf Try.f68) := rfl
def alts68_3 : List (Nat × Nat × Nat) := []
def alts68_5 : List (Nat × Nat × Nat) := []
def alts68_6 : List (Nat × Nat × Nat) := [(7, 0, 1), (7, 1, 0), (7, 1, 1)]
theorem mode69_4 : notes.mode 69 4 = .priv := rfl
theorem mode69_5 : notes.mode 69 5 = .priv := rfl
theorem f69 : Try.prog.funcs[69]? = some Try.f69 := by kernel_rfl
theorem r69 : Try.f69.results.toList = [.tmp 2] := rfl
theorem n69 : Try.f69.ntmps = 7 := rfl
theorem b69 : Try.f69.body = some (bodyOf Try.f69) := rfl
theorem f70 : Try.prog.funcs[70]? = some Try.f70 := by kernel_rfl
theorem r70 : Try.f70.results.toList = [.tmp 2] := rfl
theorem n70 : Try.f70.ntmps = 33 := rfl
theorem b70 : Try.f70.body = some (bodyOf Try.f70) := rfl
def alts70_1 : List (Nat × Nat × Nat) := []
def alts70_2 : List (Nat × Nat × Nat) := []
def alts70_3 : List (Nat × Nat × Nat) := []
theorem mode71_17 : notes.mode 71 17 = .priv := rfl
theorem f71 : Try.prog.funcs[71]? = some Try.f71 := by kernel_rfl
theorem r71 : Try.f71.results.toList = [.tmp 8] := rfl
theorem n71 : Try.f71.ntmps = 18 := rfl
theorem b71 : Try.f71.body = some (bodyOf Try.f71) := rfl
theorem mode72_19 : notes.mode 72 19 = .priv := rfl
theorem mode72_20 : notes.mode 72 20 = .priv := rfl
theorem mode72_21 : notes.mode 72 21 = .priv := rfl
theorem mode72_28 : notes.mode 72 28 = .priv := rfl
theorem mode72_29 : notes.mode 72 29 = .priv := rfl
theorem mode72_30 : notes.mode 72 30 = .priv := rfl
theorem mode72_37 : notes.mode 72 37 = .priv := rfl
theorem mode72_38 : notes.mode 72 38 = .priv := rfl
theorem mode72_39 : notes.mode 72 39 = .priv := rfl
theorem f72 : Try.prog.funcs[72]? = some Try.f72 := by kernel_rfl
theorem r72 : Try.f72.results.toList = [.tmp 12] := rfl
theorem n72 : Try.f72.ntmps = 41 := rfl
theorem b72 : Try.f72.body = some (bodyOf Try.f72) := rfl
theorem mode73_21 : notes.mode 73 21 = .priv := rfl
theorem f73 : Try.prog.funcs[73]? = some Try.f73 := by kernel_rfl
theorem r73 : Try.f73.results.toList = [.tmp 10, .tmp 11] := rfl
theorem n73 : Try.f73.ntmps = 32 := rfl
theorem b73 : Try.f73.body = some (bodyOf Try.f73) := rfl
def alts73_1 : List (Nat × Nat × Nat) := []
theorem F3 : type_of% @call10 ∧ type_of% @call7 ∧ type_of% @call8 ∧ type_of% @call9 ∧ type_of% @tk23 ∧ type_of% @tk3 ∧ type_of% @kill3_7 ∧ type_of% @grow3_7 ∧ type_of% @mode3_13 ∧ type_of% @mode3_14 ∧ type_of% @mode3_24 ∧ type_of% @mode3_25 ∧ type_of% @mode3_26 ∧ type_of% @mode3_35 ∧ type_of% @mode3_47 ∧ type_of% @mode3_52 := ⟨@call10, @call7, @call8, @call9, @tk23, @tk3, @kill3_7, @grow3_7, @mode3_13, @mode3_14, @mode3_24, @mode3_25, @mode3_26, @mode3_35, @mode3_47, @mode3_52⟩
theorem F6 : type_of% @agg3 ∧ type_of% @agg4 ∧ type_of% @call10 ∧ type_of% @call11 ∧ type_of% @call12 ∧ type_of% @call13 ∧ type_of% @call14 ∧ type_of% @call15 ∧ type_of% @call16 ∧ type_of% @call17 ∧ type_of% @call18 ∧ type_of% @call20 ∧ type_of% @call21 ∧ type_of% @call22 ∧ type_of% @call7 ∧ type_of% @call9 ∧ type_of% @field34_1 ∧ type_of% @field34_2 ∧ type_of% @field34_3 ∧ type_of% @field34_4 ∧ type_of% @size3 ∧ type_of% @size34 ∧ type_of% @size4 ∧ type_of% @tk3 ∧ type_of% @tk37 ∧ type_of% @mode6_1 ∧ type_of% @mode6_18 ∧ type_of% @mode6_19 ∧ type_of% @mode6_20 ∧ type_of% @mode6_29 ∧ type_of% @mode6_30 ∧ type_of% @mode6_31 ∧ type_of% @mode6_36 ∧ type_of% @mode6_37 ∧ type_of% @mode6_38 ∧ type_of% @mode6_39 ∧ type_of% @mode6_44 ∧ type_of% @mode6_45 ∧ type_of% @mode6_46 ∧ type_of% @mode6_47 ∧ type_of% @mode6_50 ∧ type_of% @mode6_51 ∧ type_of% @mode6_52 ∧ type_of% @mode6_56 ∧ type_of% @mode6_72 ∧ type_of% @mode6_94 ∧ type_of% @mode6_99 ∧ type_of% @mode6_104 ∧ type_of% @mode6_109 ∧ type_of% @mode6_118 ∧ type_of% @mode6_119 ∧ type_of% @mode6_128 ∧ type_of% @mode6_129 ∧ type_of% @mode6_140 ∧ type_of% @mode6_141 ∧ type_of% @mode6_148 ∧ type_of% @mode6_149 ∧ type_of% @mode6_153 := ⟨@agg3, @agg4, @call10, @call11, @call12, @call13, @call14, @call15, @call16, @call17, @call18, @call20, @call21, @call22, @call7, @call9, @field34_1, @field34_2, @field34_3, @field34_4, @size3, @size34, @size4, @tk3, @tk37, @mode6_1, @mode6_18, @mode6_19, @mode6_20, @mode6_29, @mode6_30, @mode6_31, @mode6_36, @mode6_37, @mode6_38, @mode6_39, @mode6_44, @mode6_45, @mode6_46, @mode6_47, @mode6_50, @mode6_51, @mode6_52, @mode6_56, @mode6_72, @mode6_94, @mode6_99, @mode6_104, @mode6_109, @mode6_118, @mode6_119, @mode6_128, @mode6_129, @mode6_140, @mode6_141, @mode6_148, @mode6_149, @mode6_153⟩
theorem F7 : type_of% @call10 ∧ type_of% @call11 ∧ type_of% @call12 ∧ type_of% @call13 ∧ type_of% @call14 ∧ type_of% @call16 ∧ type_of% @call17 ∧ type_of% @call23 ∧ type_of% @call8 ∧ type_of% @call9 ∧ type_of% @ix37 ∧ type_of% @size3 ∧ type_of% @zero3 ∧ type_of% @room3 ∧ type_of% @bytes3 ∧ type_of% @tk23 ∧ type_of% @tk3 ∧ type_of% @mode7_11 ∧ type_of% @mode7_16 ∧ type_of% @mode7_17 ∧ type_of% @mode7_18 ∧ type_of% @mode7_21 ∧ type_of% @mode7_24 ∧ type_of% @mode7_27 ∧ type_of% @mode7_30 ∧ type_of% @mode7_34 ∧ type_of% @mode7_35 ∧ type_of% @mode7_36 ∧ type_of% @mode7_38 ∧ type_of% @mode7_41 ∧ type_of% @mode7_43 ∧ type_of% @mode7_47 ∧ type_of% @mode7_48 ∧ type_of% @mode7_49 ∧ type_of% @mode7_50 ∧ type_of% @mode7_52 ∧ type_of% @mode7_54 ∧ type_of% @mode7_57 ∧ type_of% @mode7_60 ∧ type_of% @mode7_65 ∧ type_of% @mode7_66 ∧ type_of% @mode7_70 := ⟨@call10, @call11, @call12, @call13, @call14, @call16, @call17, @call23, @call8, @call9, @ix37, @size3, @zero3, @room3, @bytes3, @tk23, @tk3, @mode7_11, @mode7_16, @mode7_17, @mode7_18, @mode7_21, @mode7_24, @mode7_27, @mode7_30, @mode7_34, @mode7_35, @mode7_36, @mode7_38, @mode7_41, @mode7_43, @mode7_47, @mode7_48, @mode7_49, @mode7_50, @mode7_52, @mode7_54, @mode7_57, @mode7_60, @mode7_65, @mode7_66, @mode7_70⟩
theorem F8 : type_of% @lay63 ∧ type_of% @size63 ∧ type_of% @mode8_2 := ⟨@lay63, @size63, @mode8_2⟩
theorem F9 : type_of% @agg60 ∧ type_of% @field63_0 ∧ type_of% @ix60 ∧ type_of% @size64 ∧ type_of% @zero64 ∧ type_of% @room64 ∧ type_of% @bytes64 ∧ type_of% @lay66 ∧ type_of% @lay68 ∧ type_of% @size60 ∧ type_of% @size68 ∧ type_of% @tk23 ∧ type_of% @tk3 ∧ type_of% @tk60 ∧ type_of% @mode9_21 ∧ type_of% @mode9_22 ∧ type_of% @mode9_23 := ⟨@agg60, @field63_0, @ix60, @size64, @zero64, @room64, @bytes64, @lay66, @lay68, @size60, @size68, @tk23, @tk3, @tk60, @mode9_21, @mode9_22, @mode9_23⟩
theorem F11 : type_of% @agg3 ∧ type_of% @agg60 ∧ type_of% @agg61 ∧ type_of% @agg64 ∧ type_of% @agg66 ∧ type_of% @call20 ∧ type_of% @call24 ∧ type_of% @call25 ∧ type_of% @field63_0 ∧ type_of% @field63_1 ∧ type_of% @field63_2 ∧ type_of% @field66_1 ∧ type_of% @field68_0 ∧ type_of% @ix60 ∧ type_of% @size64 ∧ type_of% @zero64 ∧ type_of% @room64 ∧ type_of% @bytes64 ∧ type_of% @lay66 ∧ type_of% @size3 ∧ type_of% @size60 ∧ type_of% @size61 ∧ type_of% @size66 ∧ type_of% @tk25 ∧ type_of% @tk3 ∧ type_of% @mode11_11 ∧ type_of% @mode11_19 ∧ type_of% @mode11_26 ∧ type_of% @mode11_33 := ⟨@agg3, @agg60, @agg61, @agg64, @agg66, @call20, @call24, @call25, @field63_0, @field63_1, @field63_2, @field66_1, @field68_0, @ix60, @size64, @zero64, @room64, @bytes64, @lay66, @size3, @size60, @size61, @size66, @tk25, @tk3, @mode11_11, @mode11_19, @mode11_26, @mode11_33⟩
theorem F12 : type_of% @agg3 ∧ type_of% @agg60 ∧ type_of% @agg64 ∧ type_of% @call26 ∧ type_of% @field63_0 ∧ type_of% @field66_0 ∧ type_of% @field66_1 ∧ type_of% @field68_0 ∧ type_of% @ix60 ∧ type_of% @size64 ∧ type_of% @zero64 ∧ type_of% @room64 ∧ type_of% @bytes64 ∧ type_of% @size3 ∧ type_of% @size60 ∧ type_of% @tk25 ∧ type_of% @tk3 ∧ type_of% @mode12_11 := ⟨@agg3, @agg60, @agg64, @call26, @field63_0, @field66_0, @field66_1, @field68_0, @ix60, @size64, @zero64, @room64, @bytes64, @size3, @size60, @tk25, @tk3, @mode12_11⟩
theorem F13 : type_of% @agg3 ∧ type_of% @agg60 ∧ type_of% @agg61 ∧ type_of% @agg64 ∧ type_of% @agg66 ∧ type_of% @call24 ∧ type_of% @call26 ∧ type_of% @field63_0 ∧ type_of% @field63_1 ∧ type_of% @field63_3 ∧ type_of% @field68_0 ∧ type_of% @ix60 ∧ type_of% @size64 ∧ type_of% @zero64 ∧ type_of% @room64 ∧ type_of% @bytes64 ∧ type_of% @ix61 ∧ type_of% @size71 ∧ type_of% @zero71 ∧ type_of% @room71 ∧ type_of% @bytes71 ∧ type_of% @lay66 ∧ type_of% @lay71 ∧ type_of% @size3 ∧ type_of% @size60 ∧ type_of% @size61 ∧ type_of% @size66 ∧ type_of% @tk25 ∧ type_of% @tk3 ∧ type_of% @mode13_14 ∧ type_of% @mode13_23 ∧ type_of% @mode13_49 ∧ type_of% @mode13_50 := ⟨@agg3, @agg60, @agg61, @agg64, @agg66, @call24, @call26, @field63_0, @field63_1, @field63_3, @field68_0, @ix60, @size64, @zero64, @room64, @bytes64, @ix61, @size71, @zero71, @room71, @bytes71, @lay66, @lay71, @size3, @size60, @size61, @size66, @tk25, @tk3, @mode13_14, @mode13_23, @mode13_49, @mode13_50⟩
theorem F14 : type_of% @agg3 ∧ type_of% @agg61 ∧ type_of% @call26 ∧ type_of% @call27 ∧ type_of% @call28 ∧ type_of% @call29 ∧ type_of% @field63_1 ∧ type_of% @size3 ∧ type_of% @size4 ∧ type_of% @size61 ∧ type_of% @tk25 ∧ type_of% @zero3 ∧ type_of% @mode14_5 ∧ type_of% @mode14_7 ∧ type_of% @mode14_17 ∧ type_of% @mode14_11 ∧ type_of% @mode14_27 ∧ type_of% @mode14_28 ∧ type_of% @mode14_29 ∧ type_of% @mode14_36 := ⟨@agg3, @agg61, @call26, @call27, @call28, @call29, @field63_1, @size3, @size4, @size61, @tk25, @zero3, @mode14_5, @mode14_7, @mode14_17, @mode14_11, @mode14_27, @mode14_28, @mode14_29, @mode14_36⟩
theorem F15 : type_of% @agg61 ∧ type_of% @call27 ∧ type_of% @call29 ∧ type_of% @call30 ∧ type_of% @call31 ∧ type_of% @call32 ∧ type_of% @field63_1 ∧ type_of% @size3 ∧ type_of% @size61 ∧ type_of% @tk23 ∧ type_of% @mode15_3 ∧ type_of% @mode15_15 ∧ type_of% @mode15_16 ∧ type_of% @mode15_17 ∧ type_of% @mode15_23 ∧ type_of% @mode15_26 := ⟨@agg61, @call27, @call29, @call30, @call31, @call32, @field63_1, @size3, @size61, @tk23, @mode15_3, @mode15_15, @mode15_16, @mode15_17, @mode15_23, @mode15_26⟩
theorem F16 : type_of% @agg3 ∧ type_of% @agg60 ∧ type_of% @agg61 ∧ type_of% @agg64 ∧ type_of% @agg66 ∧ type_of% @call20 ∧ type_of% @call25 ∧ type_of% @call33 ∧ type_of% @field63_0 ∧ type_of% @field63_2 ∧ type_of% @field68_0 ∧ type_of% @field71_0 ∧ type_of% @field71_1 ∧ type_of% @ix60 ∧ type_of% @size64 ∧ type_of% @zero64 ∧ type_of% @room64 ∧ type_of% @bytes64 ∧ type_of% @ix61 ∧ type_of% @size71 ∧ type_of% @zero71 ∧ type_of% @room71 ∧ type_of% @bytes71 ∧ type_of% @size3 ∧ type_of% @size60 ∧ type_of% @size61 ∧ type_of% @size66 ∧ type_of% @tk23 ∧ type_of% @tk3 ∧ type_of% @mode16_21 ∧ type_of% @mode16_35 ∧ type_of% @mode16_70 := ⟨@agg3, @agg60, @agg61, @agg64, @agg66, @call20, @call25, @call33, @field63_0, @field63_2, @field68_0, @field71_0, @field71_1, @ix60, @size64, @zero64, @room64, @bytes64, @ix61, @size71, @zero71, @room71, @bytes71, @size3, @size60, @size61, @size66, @tk23, @tk3, @mode16_21, @mode16_35, @mode16_70⟩
theorem F17 : type_of% @agg3 ∧ type_of% @agg60 ∧ type_of% @agg64 ∧ type_of% @call24 ∧ type_of% @field63_0 ∧ type_of% @field66_0 ∧ type_of% @field66_1 ∧ type_of% @field68_0 ∧ type_of% @ix60 ∧ type_of% @size64 ∧ type_of% @zero64 ∧ type_of% @room64 ∧ type_of% @bytes64 ∧ type_of% @size3 ∧ type_of% @size60 ∧ type_of% @tk25 ∧ type_of% @mode17_10 := ⟨@agg3, @agg60, @agg64, @call24, @field63_0, @field66_0, @field66_1, @field68_0, @ix60, @size64, @zero64, @room64, @bytes64, @size3, @size60, @tk25, @mode17_10⟩
theorem F18 : type_of% @agg3 ∧ type_of% @agg4 ∧ type_of% @agg61 ∧ type_of% @call25 ∧ type_of% @field63_2 ∧ type_of% @field71_1 ∧ type_of% @field71_4 ∧ type_of% @ix61 ∧ type_of% @size71 ∧ type_of% @zero71 ∧ type_of% @room71 ∧ type_of% @bytes71 ∧ type_of% @size3 ∧ type_of% @size4 ∧ type_of% @size61 ∧ type_of% @tk23 ∧ type_of% @tk3 ∧ type_of% @mode18_15 := ⟨@agg3, @agg4, @agg61, @call25, @field63_2, @field71_1, @field71_4, @ix61, @size71, @zero71, @room71, @bytes71, @size3, @size4, @size61, @tk23, @tk3, @mode18_15⟩
theorem F20 : type_of% @agg3 ∧ type_of% @agg60 ∧ type_of% @agg64 ∧ type_of% @call24 ∧ type_of% @field63_0 ∧ type_of% @field66_0 ∧ type_of% @field66_1 ∧ type_of% @field68_0 ∧ type_of% @ix60 ∧ type_of% @size64 ∧ type_of% @zero64 ∧ type_of% @room64 ∧ type_of% @bytes64 ∧ type_of% @size3 ∧ type_of% @size60 ∧ type_of% @tk25 ∧ type_of% @tk3 ∧ type_of% @mode20_10 := ⟨@agg3, @agg60, @agg64, @call24, @field63_0, @field66_0, @field66_1, @field68_0, @ix60, @size64, @zero64, @room64, @bytes64, @size3, @size60, @tk25, @tk3, @mode20_10⟩
theorem F21 : type_of% @agg61 ∧ type_of% @call27 ∧ type_of% @call32 ∧ type_of% @call42 ∧ type_of% @call43 ∧ type_of% @field63_1 ∧ type_of% @field71_2 ∧ type_of% @agg3 ∧ type_of% @size3 ∧ type_of% @size61 ∧ type_of% @tk23 ∧ type_of% @tk3 ∧ type_of% @tk61 ∧ type_of% @mode21_13 ∧ type_of% @mode21_14 ∧ type_of% @mode21_15 ∧ type_of% @mode21_20 := ⟨@agg61, @call27, @call32, @call42, @call43, @field63_1, @field71_2, @agg3, @size3, @size61, @tk23, @tk3, @tk61, @mode21_13, @mode21_14, @mode21_15, @mode21_20⟩
theorem F22 : type_of% @agg3 ∧ type_of% @agg60 ∧ type_of% @agg61 ∧ type_of% @agg64 ∧ type_of% @agg66 ∧ type_of% @call27 ∧ type_of% @call44 ∧ type_of% @field63_0 ∧ type_of% @field63_1 ∧ type_of% @field63_2 ∧ type_of% @field66_0 ∧ type_of% @field68_0 ∧ type_of% @ix60 ∧ type_of% @size64 ∧ type_of% @zero64 ∧ type_of% @room64 ∧ type_of% @bytes64 ∧ type_of% @lay66 ∧ type_of% @size3 ∧ type_of% @size60 ∧ type_of% @size61 ∧ type_of% @size66 ∧ type_of% @tk23 ∧ type_of% @tk3 ∧ type_of% @tk60 ∧ type_of% @kill22_3 ∧ type_of% @grow22_3 ∧ type_of% @mode22_3 ∧ type_of% @mode22_38 ∧ type_of% @mode22_39 ∧ type_of% @mode22_40 ∧ type_of% @mode22_50 ∧ type_of% @mode22_51 ∧ type_of% @mode22_52 := ⟨@agg3, @agg60, @agg61, @agg64, @agg66, @call27, @call44, @field63_0, @field63_1, @field63_2, @field66_0, @field68_0, @ix60, @size64, @zero64, @room64, @bytes64, @lay66, @size3, @size60, @size61, @size66, @tk23, @tk3, @tk60, @kill22_3, @grow22_3, @mode22_3, @mode22_38, @mode22_39, @mode22_40, @mode22_50, @mode22_51, @mode22_52⟩
theorem F23 : type_of% @agg3 ∧ type_of% @ix37 ∧ type_of% @size3 ∧ type_of% @zero3 ∧ type_of% @room3 ∧ type_of% @bytes3 ∧ type_of% @tk3 ∧ type_of% @tk37 ∧ type_of% @kill23_4 ∧ type_of% @grow23_4 := ⟨@agg3, @ix37, @size3, @zero3, @room3, @bytes3, @tk3, @tk37, @kill23_4, @grow23_4⟩
theorem F24 : type_of% @agg60 ∧ type_of% @field63_0 ∧ type_of% @size60 ∧ type_of% @tk23 ∧ type_of% @tk3 ∧ type_of% @tk60 := ⟨@agg60, @field63_0, @size60, @tk23, @tk3, @tk60⟩
theorem F25 : type_of% @call45 ∧ type_of% @call46 ∧ type_of% @size3 ∧ type_of% @mode25_3 ∧ type_of% @mode25_7 := ⟨@call45, @call46, @size3, @mode25_3, @mode25_7⟩
theorem F26 : type_of% @agg3 ∧ type_of% @agg60 ∧ type_of% @agg64 ∧ type_of% @call24 ∧ type_of% @field63_0 ∧ type_of% @field66_0 ∧ type_of% @field66_1 ∧ type_of% @field68_0 ∧ type_of% @ix60 ∧ type_of% @size64 ∧ type_of% @zero64 ∧ type_of% @room64 ∧ type_of% @bytes64 ∧ type_of% @size3 ∧ type_of% @size60 ∧ type_of% @tk25 ∧ type_of% @tk3 ∧ type_of% @mode26_11 := ⟨@agg3, @agg60, @agg64, @call24, @field63_0, @field66_0, @field66_1, @field68_0, @ix60, @size64, @zero64, @room64, @bytes64, @size3, @size60, @tk25, @tk3, @mode26_11⟩
theorem F27 : type_of% @agg71 ∧ type_of% @ix61 ∧ type_of% @size71 ∧ type_of% @zero71 ∧ type_of% @room71 ∧ type_of% @bytes71 ∧ type_of% @tk3 ∧ type_of% @tk61 ∧ type_of% @kill27_2 ∧ type_of% @grow27_2 ∧ type_of% @mode27_7 ∧ type_of% @mode27_16 ∧ type_of% @mode27_19 ∧ type_of% @mode27_20 ∧ type_of% @mode27_23 ∧ type_of% @mode27_24 := ⟨@agg71, @ix61, @size71, @zero71, @room71, @bytes71, @tk3, @tk61, @kill27_2, @grow27_2, @mode27_7, @mode27_16, @mode27_19, @mode27_20, @mode27_23, @mode27_24⟩
theorem F28 : type_of% @agg3 ∧ type_of% @agg4 ∧ type_of% @field71_1 ∧ type_of% @size3 ∧ type_of% @size4 ∧ type_of% @size71 ∧ type_of% @tk3 ∧ type_of% @mode28_4 := ⟨@agg3, @agg4, @field71_1, @size3, @size4, @size71, @tk3, @mode28_4⟩
theorem F29 : type_of% @agg3 ∧ type_of% @agg4 ∧ type_of% @agg61 ∧ type_of% @agg71 ∧ type_of% @field63_2 ∧ type_of% @field66_0 ∧ type_of% @field71_0 ∧ type_of% @field71_4 ∧ type_of% @ix37 ∧ type_of% @size3 ∧ type_of% @zero3 ∧ type_of% @room3 ∧ type_of% @bytes3 ∧ type_of% @ix61 ∧ type_of% @size71 ∧ type_of% @zero71 ∧ type_of% @room71 ∧ type_of% @bytes71 ∧ type_of% @size4 ∧ type_of% @size61 ∧ type_of% @tk3 ∧ type_of% @tk61 ∧ type_of% @kill29_3 ∧ type_of% @grow29_3 ∧ type_of% @mode29_9 ∧ type_of% @mode29_24 ∧ type_of% @mode29_25 ∧ type_of% @mode29_32 ∧ type_of% @mode29_33 := ⟨@agg3, @agg4, @agg61, @agg71, @field63_2, @field66_0, @field71_0, @field71_4, @ix37, @size3, @zero3, @room3, @bytes3, @ix61, @size71, @zero71, @room71, @bytes71, @size4, @size61, @tk3, @tk61, @kill29_3, @grow29_3, @mode29_9, @mode29_24, @mode29_25, @mode29_32, @mode29_33⟩
theorem F30 : type_of% @agg3 ∧ type_of% @field71_2 ∧ type_of% @size3 ∧ type_of% @size71 ∧ type_of% @tk3 ∧ type_of% @mode30_2 := ⟨@agg3, @field71_2, @size3, @size71, @tk3, @mode30_2⟩
theorem F31 : type_of% @call47 ∧ type_of% @call48 ∧ type_of% @tk3 ∧ type_of% @tk61 ∧ type_of% @tk95 ∧ type_of% @mode31_10 ∧ type_of% @mode31_11 ∧ type_of% @mode31_13 := ⟨@call47, @call48, @tk3, @tk61, @tk95, @mode31_10, @mode31_11, @mode31_13⟩
theorem F32 : type_of% @agg3 ∧ type_of% @call49 ∧ type_of% @call50 ∧ type_of% @field71_2 ∧ type_of% @field71_3 ∧ type_of% @ix37 ∧ type_of% @size3 ∧ type_of% @zero3 ∧ type_of% @room3 ∧ type_of% @bytes3 ∧ type_of% @size71 ∧ type_of% @mode32_2 ∧ type_of% @mode32_3 ∧ type_of% @mode32_9 ∧ type_of% @mode32_14 ∧ type_of% @mode32_15 ∧ type_of% @mode32_16 := ⟨@agg3, @call49, @call50, @field71_2, @field71_3, @ix37, @size3, @zero3, @room3, @bytes3, @size71, @mode32_2, @mode32_3, @mode32_9, @mode32_14, @mode32_15, @mode32_16⟩
theorem F33 : type_of% @ix61 ∧ type_of% @size71 ∧ type_of% @zero71 ∧ type_of% @room71 ∧ type_of% @bytes71 ∧ type_of% @tk3 ∧ type_of% @tk61 ∧ type_of% @mode33_26 := ⟨@ix61, @size71, @zero71, @room71, @bytes71, @tk3, @tk61, @mode33_26⟩
theorem F42 : type_of% @agg3 ∧ type_of% @field71_2 ∧ type_of% @size3 ∧ type_of% @size71 ∧ type_of% @tk3 ∧ type_of% @mode42_1 := ⟨@agg3, @field71_2, @size3, @size71, @tk3, @mode42_1⟩
theorem F43 : type_of% @agg71 ∧ type_of% @ix61 ∧ type_of% @size71 ∧ type_of% @zero71 ∧ type_of% @room71 ∧ type_of% @bytes71 ∧ type_of% @tk3 ∧ type_of% @tk61 ∧ type_of% @tk9 ∧ type_of% @kill43_5 ∧ type_of% @grow43_5 ∧ type_of% @mode43_4 ∧ type_of% @mode43_5 ∧ type_of% @mode43_26 := ⟨@agg71, @ix61, @size71, @zero71, @room71, @bytes71, @tk3, @tk61, @tk9, @kill43_5, @grow43_5, @mode43_4, @mode43_5, @mode43_26⟩
theorem F44 : type_of% @agg3 ∧ type_of% @field66_0 ∧ type_of% @field71_0 ∧ type_of% @size3 ∧ type_of% @size71 ∧ type_of% @tk3 ∧ type_of% @mode44_2 := ⟨@agg3, @field66_0, @field71_0, @size3, @size71, @tk3, @mode44_2⟩
theorem F45 : type_of% @agg71 ∧ type_of% @ix61 ∧ type_of% @size71 ∧ type_of% @zero71 ∧ type_of% @room71 ∧ type_of% @bytes71 ∧ type_of% @tk3 ∧ type_of% @tk61 ∧ type_of% @kill45_2 ∧ type_of% @grow45_2 ∧ type_of% @mode45_16 := ⟨@agg71, @ix61, @size71, @zero71, @room71, @bytes71, @tk3, @tk61, @kill45_2, @grow45_2, @mode45_16⟩
theorem F46 : type_of% @agg3 ∧ type_of% @field66_0 ∧ type_of% @field71_0 ∧ type_of% @size3 ∧ type_of% @size71 ∧ type_of% @tk3 ∧ type_of% @mode46_2 := ⟨@agg3, @field66_0, @field71_0, @size3, @size71, @tk3, @mode46_2⟩
theorem F47 : type_of% @agg71 ∧ type_of% @call47 ∧ type_of% @call57 ∧ type_of% @call58 ∧ type_of% @call59 ∧ type_of% @call60 ∧ type_of% @call61 ∧ type_of% @call62 ∧ type_of% @call63 ∧ type_of% @call64 ∧ type_of% @ix61 ∧ type_of% @size71 ∧ type_of% @zero71 ∧ type_of% @room71 ∧ type_of% @bytes71 ∧ type_of% @tk108 ∧ type_of% @tk3 ∧ type_of% @kill47_2 ∧ type_of% @grow47_2 ∧ type_of% @mode47_30 ∧ type_of% @mode47_37 ∧ type_of% @mode47_44 ∧ type_of% @mode47_52 ∧ type_of% @mode47_53 ∧ type_of% @mode47_54 ∧ type_of% @mode47_61 ∧ type_of% @mode47_80 ∧ type_of% @mode47_94 ∧ type_of% @mode47_103 ∧ type_of% @mode47_111 ∧ type_of% @mode47_112 ∧ type_of% @mode47_113 ∧ type_of% @mode47_134 ∧ type_of% @mode47_146 := ⟨@agg71, @call47, @call57, @call58, @call59, @call60, @call61, @call62, @call63, @call64, @ix61, @size71, @zero71, @room71, @bytes71, @tk108, @tk3, @kill47_2, @grow47_2, @mode47_30, @mode47_37, @mode47_44, @mode47_52, @mode47_53, @mode47_54, @mode47_61, @mode47_80, @mode47_94, @mode47_103, @mode47_111, @mode47_112, @mode47_113, @mode47_134, @mode47_146⟩
theorem F48 : type_of% @call65 ∧ type_of% @call66 ∧ type_of% @tk115 ∧ type_of% @tk95 ∧ type_of% @mode48_4 ∧ type_of% @mode48_5 ∧ type_of% @mode48_7 := ⟨@call65, @call66, @tk115, @tk95, @mode48_4, @mode48_5, @mode48_7⟩
theorem F49 : type_of% @agg3 ∧ type_of% @ix37 ∧ type_of% @size3 ∧ type_of% @zero3 ∧ type_of% @room3 ∧ type_of% @bytes3 ∧ type_of% @tk3 ∧ type_of% @tk37 ∧ type_of% @kill49_3 ∧ type_of% @grow49_3 := ⟨@agg3, @ix37, @size3, @zero3, @room3, @bytes3, @tk3, @tk37, @kill49_3, @grow49_3⟩
theorem F50 : type_of% @call67 ∧ type_of% @tk3 ∧ type_of% @mode50_8 ∧ type_of% @mode50_10 := ⟨@call67, @tk3, @mode50_8, @mode50_10⟩
theorem F57 : type_of% @agg71 ∧ type_of% @ix61 ∧ type_of% @size71 ∧ type_of% @zero71 ∧ type_of% @room71 ∧ type_of% @bytes71 ∧ type_of% @tk3 ∧ type_of% @kill57_4 ∧ type_of% @grow57_4 ∧ type_of% @kill57_1 ∧ type_of% @grow57_1 ∧ type_of% @mode57_32 := ⟨@agg71, @ix61, @size71, @zero71, @room71, @bytes71, @tk3, @kill57_4, @grow57_4, @kill57_1, @grow57_1, @mode57_32⟩
theorem F58 : type_of% @agg71 ∧ type_of% @call68 ∧ type_of% @ix61 ∧ type_of% @size71 ∧ type_of% @zero71 ∧ type_of% @room71 ∧ type_of% @bytes71 ∧ type_of% @tk3 ∧ type_of% @kill58_8 ∧ type_of% @grow58_8 ∧ type_of% @kill58_4 ∧ type_of% @grow58_4 ∧ type_of% @mode58_29 ∧ type_of% @mode58_59 := ⟨@agg71, @call68, @ix61, @size71, @zero71, @room71, @bytes71, @tk3, @kill58_8, @grow58_8, @kill58_4, @grow58_4, @mode58_29, @mode58_59⟩
theorem F59 : type_of% @agg118 ∧ type_of% @agg71 ∧ type_of% @call69 ∧ type_of% @call70 ∧ type_of% @ix61 ∧ type_of% @size71 ∧ type_of% @zero71 ∧ type_of% @room71 ∧ type_of% @bytes71 ∧ type_of% @size118 ∧ type_of% @tk118 ∧ type_of% @tk3 ∧ type_of% @tk95 ∧ type_of% @zero118 ∧ type_of% @kill59_5 ∧ type_of% @grow59_5 ∧ type_of% @mode59_19 ∧ type_of% @mode59_9 ∧ type_of% @mode59_21 ∧ type_of% @mode59_38 ∧ type_of% @mode59_42 := ⟨@agg118, @agg71, @call69, @call70, @ix61, @size71, @zero71, @room71, @bytes71, @size118, @tk118, @tk3, @tk95, @zero118, @kill59_5, @grow59_5, @mode59_19, @mode59_9, @mode59_21, @mode59_38, @mode59_42⟩
theorem F60 : type_of% @agg3 ∧ type_of% @call71 ∧ type_of% @call72 ∧ type_of% @size3 ∧ type_of% @tk3 ∧ type_of% @zero3 ∧ type_of% @mode60_11 ∧ type_of% @mode60_40 ∧ type_of% @mode60_44 ∧ type_of% @mode60_48 ∧ type_of% @mode60_54 := ⟨@agg3, @call71, @call72, @size3, @tk3, @zero3, @mode60_11, @mode60_40, @mode60_44, @mode60_48, @mode60_54⟩
theorem F61 : type_of% @agg71 ∧ type_of% @ix61 ∧ type_of% @size71 ∧ type_of% @zero71 ∧ type_of% @room71 ∧ type_of% @bytes71 ∧ type_of% @tk3 ∧ type_of% @kill61_2 ∧ type_of% @grow61_2 := ⟨@agg71, @ix61, @size71, @zero71, @room71, @bytes71, @tk3, @kill61_2, @grow61_2⟩
theorem F62 : type_of% @agg71 ∧ type_of% @ix61 ∧ type_of% @size71 ∧ type_of% @zero71 ∧ type_of% @room71 ∧ type_of% @bytes71 ∧ type_of% @tk3 ∧ type_of% @kill62_20 ∧ type_of% @grow62_20 ∧ type_of% @kill62_14 ∧ type_of% @grow62_14 ∧ type_of% @kill62_5 ∧ type_of% @grow62_5 ∧ type_of% @kill62_3 ∧ type_of% @grow62_3 ∧ type_of% @mode62_33 ∧ type_of% @mode62_82 ∧ type_of% @mode62_122 := ⟨@agg71, @ix61, @size71, @zero71, @room71, @bytes71, @tk3, @kill62_20, @grow62_20, @kill62_14, @grow62_14, @kill62_5, @grow62_5, @kill62_3, @grow62_3, @mode62_33, @mode62_82, @mode62_122⟩
theorem F63 : type_of% @agg71 ∧ type_of% @ix61 ∧ type_of% @size71 ∧ type_of% @zero71 ∧ type_of% @room71 ∧ type_of% @bytes71 ∧ type_of% @tk3 ∧ type_of% @kill63_5 ∧ type_of% @grow63_5 ∧ type_of% @kill63_3 ∧ type_of% @grow63_3 ∧ type_of% @mode63_44 ∧ type_of% @mode63_63 := ⟨@agg71, @ix61, @size71, @zero71, @room71, @bytes71, @tk3, @kill63_5, @grow63_5, @kill63_3, @grow63_3, @mode63_44, @mode63_63⟩
theorem F64 : type_of% @agg71 ∧ type_of% @ix61 ∧ type_of% @size71 ∧ type_of% @zero71 ∧ type_of% @room71 ∧ type_of% @bytes71 ∧ type_of% @tk3 ∧ type_of% @kill64_15 ∧ type_of% @grow64_15 ∧ type_of% @kill64_13 ∧ type_of% @grow64_13 ∧ type_of% @kill64_5 ∧ type_of% @grow64_5 ∧ type_of% @kill64_3 ∧ type_of% @grow64_3 ∧ type_of% @mode64_45 ∧ type_of% @mode64_63 ∧ type_of% @mode64_118 ∧ type_of% @mode64_136 := ⟨@agg71, @ix61, @size71, @zero71, @room71, @bytes71, @tk3, @kill64_15, @grow64_15, @kill64_13, @grow64_13, @kill64_5, @grow64_5, @kill64_3, @grow64_3, @mode64_45, @mode64_63, @mode64_118, @mode64_136⟩
theorem F65 : type_of% @ix9 ∧ type_of% @tk115 ∧ type_of% @tk3 ∧ type_of% @tk5 ∧ type_of% @mode65_15 ∧ type_of% @mode65_17 := ⟨@ix9, @tk115, @tk3, @tk5, @mode65_15, @mode65_17⟩
theorem F66 : type_of% @ix9 ∧ type_of% @tk117 ∧ type_of% @tk3 ∧ type_of% @tk5 ∧ type_of% @mode66_21 ∧ type_of% @mode66_23 := ⟨@ix9, @tk117, @tk3, @tk5, @mode66_21, @mode66_23⟩
theorem F67 : type_of% @tk3 := @tk3
theorem F68 : type_of% @agg71 ∧ type_of% @ix61 ∧ type_of% @size71 ∧ type_of% @zero71 ∧ type_of% @room71 ∧ type_of% @bytes71 ∧ type_of% @tk3 ∧ type_of% @kill68_1 ∧ type_of% @grow68_1 ∧ type_of% @mode68_38 ∧ type_of% @mode68_56 := ⟨@agg71, @ix61, @size71, @zero71, @room71, @bytes71, @tk3, @kill68_1, @grow68_1, @mode68_38, @mode68_56⟩
theorem F69 : type_of% @call48 ∧ type_of% @tk3 ∧ type_of% @tk95 ∧ type_of% @mode69_4 ∧ type_of% @mode69_5 := ⟨@call48, @tk3, @tk95, @mode69_4, @mode69_5⟩
theorem F70 : type_of% @agg118 ∧ type_of% @size118 ∧ type_of% @tk118 := ⟨@agg118, @size118, @tk118⟩
theorem F71 : type_of% @call72 ∧ type_of% @tk3 ∧ type_of% @mode71_17 := ⟨@call72, @tk3, @mode71_17⟩
theorem F72 : type_of% @call73 ∧ type_of% @mode72_19 ∧ type_of% @mode72_20 ∧ type_of% @mode72_21 ∧ type_of% @mode72_28 ∧ type_of% @mode72_29 ∧ type_of% @mode72_30 ∧ type_of% @mode72_37 ∧ type_of% @mode72_38 ∧ type_of% @mode72_39 := ⟨@call73, @mode72_19, @mode72_20, @mode72_21, @mode72_28, @mode72_29, @mode72_30, @mode72_37, @mode72_38, @mode72_39⟩
theorem F73 : type_of% @agg3 ∧ type_of% @agg71 ∧ type_of% @ix61 ∧ type_of% @size71 ∧ type_of% @zero71 ∧ type_of% @room71 ∧ type_of% @bytes71 ∧ type_of% @size3 ∧ type_of% @tk3 ∧ type_of% @mode73_21 := ⟨@agg3, @agg71, @ix61, @size71, @zero71, @room71, @bytes71, @size3, @tk3, @mode73_21⟩
end Go.Proofs.Ythicacphcljdmaa
