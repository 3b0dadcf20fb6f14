/- A part of the proofs over this seat. -/
import Derived.Test.YtcmndnkeoepmoaaDoorQAbsSim
import Derived.Test.YtcmndnkeoepmoaaDoorProg
import Derived.KernelRfl
import Derived.IntWalk
namespace Go.Proofs.YtcmndnkeoepmoaaDoor
open Go Go.Abs Go.Proofs
set_option maxRecDepth 100000
set_option linter.unusedVariables false
theorem agg22 : aggT Tryd.prog 22 = some false := by kernel_rfl
theorem agg3 : aggT Tryd.prog 3 = some false := by kernel_rfl
theorem agg36 : aggT Tryd.prog 36 = some true := by kernel_rfl
theorem agg5 : aggT Tryd.prog 5 = some false := by kernel_rfl
theorem agg50 : aggT Tryd.prog 50 = some true := by kernel_rfl
theorem agg57 : aggT Tryd.prog 57 = some true := by kernel_rfl
theorem agg9 : aggT Tryd.prog 9 = some false := by kernel_rfl
theorem bytes36 : Tryd.prog.bytesOf 36 = 40 := by kernel_rfl
theorem bytes5 : Tryd.prog.bytesOf 5 = 1 := by kernel_rfl
theorem call10 : callable Tryd.prog 10 = true := by kernel_rfl
theorem call11 : callable Tryd.prog 11 = true := by kernel_rfl
theorem call12 : callable Tryd.prog 12 = true := by kernel_rfl
theorem call13 : callable Tryd.prog 13 = true := by kernel_rfl
theorem call14 : callable Tryd.prog 14 = true := by kernel_rfl
theorem call15 : callable Tryd.prog 15 = true := by kernel_rfl
theorem call16 : callable Tryd.prog 16 = true := by kernel_rfl
theorem call17 : callable Tryd.prog 17 = true := by kernel_rfl
theorem call18 : callable Tryd.prog 18 = true := by kernel_rfl
theorem call19 : callable Tryd.prog 19 = true := by kernel_rfl
theorem call20 : callable Tryd.prog 20 = true := by kernel_rfl
theorem call21 : callable Tryd.prog 21 = true := by kernel_rfl
theorem call22 : callable Tryd.prog 22 = true := by kernel_rfl
theorem call23 : callable Tryd.prog 23 = true := by kernel_rfl
theorem call24 : callable Tryd.prog 24 = true := by kernel_rfl
theorem call25 : callable Tryd.prog 25 = true := by kernel_rfl
theorem call26 : callable Tryd.prog 26 = true := by kernel_rfl
theorem call27 : callable Tryd.prog 27 = true := by kernel_rfl
theorem call28 : callable Tryd.prog 28 = true := by kernel_rfl
theorem call29 : callable Tryd.prog 29 = true := by kernel_rfl
theorem call3 : callable Tryd.prog 3 = true := by kernel_rfl
theorem call30 : callable Tryd.prog 30 = true := by kernel_rfl
theorem call31 : callable Tryd.prog 31 = true := by kernel_rfl
theorem call32 : callable Tryd.prog 32 = true := by kernel_rfl
theorem call33 : callable Tryd.prog 33 = true := by kernel_rfl
theorem call34 : callable Tryd.prog 34 = true := by kernel_rfl
theorem call35 : callable Tryd.prog 35 = true := by kernel_rfl
theorem call36 : callable Tryd.prog 36 = true := by kernel_rfl
theorem call37 : callable Tryd.prog 37 = true := by kernel_rfl
theorem call38 : callable Tryd.prog 38 = true := by kernel_rfl
theorem call39 : callable Tryd.prog 39 = true := by kernel_rfl
theorem call4 : callable Tryd.prog 4 = true := by kernel_rfl
theorem call40 : callable Tryd.prog 40 = true := by kernel_rfl
theorem call41 : callable Tryd.prog 41 = true := by kernel_rfl
theorem call5 : callable Tryd.prog 5 = true := by kernel_rfl
theorem call6 : callable Tryd.prog 6 = true := by kernel_rfl
theorem call7 : callable Tryd.prog 7 = true := by kernel_rfl
theorem call8 : callable Tryd.prog 8 = true := by kernel_rfl
theorem call9 : callable Tryd.prog 9 = true := by kernel_rfl
theorem field36_0 : fieldT Tryd.prog 36 0 = some (0, 3) := by kernel_rfl
theorem field36_1 : fieldT Tryd.prog 36 1 = some (1, 9) := by kernel_rfl
theorem field36_2 : fieldT Tryd.prog 36 2 = some (2, 3) := by kernel_rfl
theorem field36_3 : fieldT Tryd.prog 36 3 = some (3, 3) := by kernel_rfl
theorem field43_0 : fieldT Tryd.prog 43 0 = some (0, 22) := by kernel_rfl
theorem field43_1 : fieldT Tryd.prog 43 1 = some (1, 3) := by kernel_rfl
theorem ix22 : ixT Tryd.prog 22 = .sl 5 := by kernel_rfl
theorem ix24 : ixT Tryd.prog 24 = .sl 36 := by kernel_rfl
theorem ix50 : ixT Tryd.prog 50 = .arr 18 9 := by kernel_rfl
theorem ix57 : ixT Tryd.prog 57 = .arr 22 9 := by kernel_rfl
theorem ix9 : ixT Tryd.prog 9 = .str := by kernel_rfl
theorem lay36 : layT Tryd.prog 36 = some ([(.int .i64 0), (.str ByteArray.empty), (.int .i64 0), (.int .i64 0)], .st [(0, 1), (1, 1), (2, 1), (3, 1)]) := by kernel_rfl
theorem lay43 : layT Tryd.prog 43 = some ([.nils, (.int .i64 0)], .st [(0, 1), (1, 1)]) := by kernel_rfl
theorem lay50 : layT Tryd.prog 50 = some ([(.str ByteArray.empty), (.str ByteArray.empty), (.str ByteArray.empty), (.str ByteArray.empty), (.str ByteArray.empty), (.str ByteArray.empty), (.str ByteArray.empty), (.str ByteArray.empty), (.str ByteArray.empty), (.str ByteArray.empty), (.str ByteArray.empty), (.str ByteArray.empty), (.str ByteArray.empty), (.str ByteArray.empty), (.str ByteArray.empty), (.str ByteArray.empty), (.str ByteArray.empty), (.str ByteArray.empty)], .ar 1) := by kernel_rfl
theorem size22 : sizeT Tryd.prog 22 = 1 := by kernel_rfl
theorem size3 : sizeT Tryd.prog 3 = 1 := by kernel_rfl
theorem size36 : sizeT Tryd.prog 36 = 4 := by kernel_rfl
theorem size43 : sizeT Tryd.prog 43 = 2 := by kernel_rfl
theorem size5 : sizeT Tryd.prog 5 = 1 := by kernel_rfl
theorem size50 : sizeT Tryd.prog 50 = 18 := by kernel_rfl
theorem size57 : sizeT Tryd.prog 57 = 22 := by kernel_rfl
theorem size9 : sizeT Tryd.prog 9 = 1 := by kernel_rfl
theorem tk22 : tk Tryd.prog 22 = .slice 5 := by kernel_rfl
theorem tk24 : tk Tryd.prog 24 = .slice 36 := by kernel_rfl
theorem tk25 : tk Tryd.prog 25 = .int .i64 := by kernel_rfl
theorem tk3 : tk Tryd.prog 3 = .int .i64 := by kernel_rfl
theorem tk4 : tk Tryd.prog 4 = .bool := by kernel_rfl
theorem tk5 : tk Tryd.prog 5 = .int .u8 := by kernel_rfl
theorem tk9 : tk Tryd.prog 9 = .str := by kernel_rfl
theorem zero36 : zeroT Tryd.prog 36 = (.agg [(.int .i64 0), (.str ByteArray.empty), (.int .i64 0), (.int .i64 0)]) := by kernel_rfl
theorem zero5 : zeroT Tryd.prog 5 = (.int .u8 0) := by kernel_rfl
theorem zero50 : zeroT Tryd.prog 50 = (.agg [(.str ByteArray.empty), (.str ByteArray.empty), (.str ByteArray.empty), (.str ByteArray.empty), (.str ByteArray.empty), (.str ByteArray.empty), (.str ByteArray.empty), (.str ByteArray.empty), (.str ByteArray.empty), (.str ByteArray.empty), (.str ByteArray.empty), (.str ByteArray.empty), (.str ByteArray.empty), (.str ByteArray.empty), (.str ByteArray.empty), (.str ByteArray.empty), (.str ByteArray.empty), (.str ByteArray.empty)]) := by kernel_rfl
theorem room36 (n : Nat) : elemOk Tryd.prog 36 n = (decide (n * 40 ≤ 70368744177664) && decide (n ≤ 4611686018427387904)) := by
  have h1 : (Tryd.prog.cellsOf 36 != 0 && okV (zeroT Tryd.prog 36) && (zeroT Tryd.prog 36).width == sizeT Tryd.prog 36) = true := by kernel_rfl
  unfold elemOk
  rw [h1, bytes36]; rfl
theorem room5 (n : Nat) : elemOk Tryd.prog 5 n = (decide (n * 1 ≤ 70368744177664) && decide (n ≤ 4611686018427387904)) := by
  have h1 : (Tryd.prog.cellsOf 5 != 0 && okV (zeroT Tryd.prog 5) && (zeroT Tryd.prog 5).width == sizeT Tryd.prog 5) = true := by kernel_rfl
  unfold elemOk
  rw [h1, bytes5]; rfl
def notes : Notes where
 kill f r := match f, r with
  | 5, 5 => [2, 3, 4, 7, 8, 9, 10, 11, 12, 13, 14, 15, 16, 17, 18, 19, 20, 21, 22, 23, 24, 25, 26, 27, 28, 29, 30, 31, 32, 33, 34, 35, 36, 37, 38, 39, 40, 41, 42, 43, 44, 45, 46, 47, 48, 49, 50, 51, 52, 53, 54, 55, 56, 57, 58, 59, 60, 61, 62, 63, 64, 65, 66, 67, 68, 69, 70, 71, 72, 73, 74, 75, 76, 77, 78, 79, 80, 81, 82, 83, 84, 85, 86, 87, 88, 89, 90, 91, 92, 93, 94, 95, 96, 97, 98, 99, 100, 101, 102, 103, 104, 105, 106, 107, 108, 109, 110, 111, 112, 113, 114, 115, 116, 117, 118, 119, 120, 121, 122, 123]
  | 6, 14 => [0, 1, 2, 3, 4, 6, 7, 8, 10, 11, 14, 17, 18, 19, 20, 21, 22, 23, 24, 25, 26, 27, 28, 29, 30, 31, 32, 33, 34, 35, 36, 37, 38, 39, 40, 41, 42, 43, 44, 45, 46, 47, 48, 49, 50, 51, 52, 53, 54, 55, 56, 57, 58, 59, 60, 61, 62, 63, 64, 65, 66, 67, 68, 69, 70, 71, 72, 73, 74, 75, 76, 77, 78, 79, 80, 81, 82, 83, 84, 85, 86, 87, 88, 89, 90, 91, 92, 93, 94, 95, 96, 97, 98, 99, 100, 101, 102, 103, 104, 105, 106, 107, 108, 109, 110, 111, 112, 113, 114, 115, 116, 117, 118, 119, 120, 121, 122, 123, 124, 125, 126, 127, 128, 129, 130, 131, 132, 133, 134]
  | 10, 4 => [1, 3, 4, 6, 7, 8, 9, 10, 11, 12, 13, 14, 15, 16, 17, 18, 19, 20, 21, 22, 23, 24, 25, 26, 27, 28, 29, 30, 31, 32, 33, 34, 35, 36, 37, 38, 39, 40, 41, 42, 43, 44, 45, 46, 47, 48, 49, 50, 51, 52, 53]
  | 11, 5 => [1, 2, 3, 4, 7, 8, 9, 10, 11, 12, 13, 14, 15, 16, 17, 18, 19, 20, 21, 22, 23, 24, 25, 26, 27, 28, 29, 30, 31, 32, 33, 34, 35, 36, 37, 38, 39, 40, 41, 42, 43, 44, 45, 46, 47, 48, 49, 50, 51, 52, 53, 54, 55, 56, 57, 58, 59, 60, 61, 62, 63, 64, 65, 66, 67, 68, 69, 70, 71, 72, 73, 74, 75, 76, 77, 78, 79, 80, 81, 82, 83, 84, 85, 86, 87, 88, 89, 90, 91, 92, 93, 94, 95, 96, 97, 98, 99, 100, 101, 102, 103, 104, 105, 106, 107, 108, 109, 110, 111, 112]
  | 11, 12 => [1, 2, 3, 4, 10, 11, 12, 13, 14, 15, 16, 17, 18, 19, 20, 21, 22, 23, 24, 25, 26, 27, 28, 29, 30, 31, 32, 33, 34, 35, 36, 37, 38, 39, 40, 41, 42, 43, 44, 45, 46, 47, 48, 49, 50, 51, 52, 53, 54, 55, 56, 57, 58, 59, 60, 61, 62, 63, 64, 65, 66, 67, 68, 69, 70, 71, 72, 73, 74, 75, 76, 77, 78, 79, 80, 81, 82, 83, 84, 85, 86, 87, 88, 89, 90, 91, 92, 93, 94, 95, 96, 97, 98, 99, 100, 101, 102, 103, 104, 105, 106, 107, 108, 109, 110, 111, 112]
  | 12, 4 => [3, 4, 5, 6, 8, 9, 10, 11, 12, 13, 14, 15, 16, 17, 18, 19, 20, 21, 22, 23, 24, 25, 26, 27, 28, 29, 30, 31, 32, 33, 34, 35, 36, 37, 38, 39, 40, 41, 42, 43, 44, 45, 46, 47, 48, 49, 50, 51, 52, 53, 54, 55, 56, 57, 58, 59, 60, 61, 62, 63, 64, 65, 66, 67, 68, 69, 70, 71]
  | 15, 3 => [1, 2, 5, 6, 7, 8, 9, 10, 11, 12, 13, 14]
  | 16, 2 => [1, 2, 3, 4, 7, 8, 9, 10, 11, 12, 13, 14, 15, 16, 17, 18, 19, 20, 21, 22, 23, 24, 25, 26, 27, 28, 29, 30, 31, 32]
  | 17, 4 => [1, 2, 4, 5, 6, 7, 8, 9, 10, 11, 12, 13, 14, 15, 16, 17, 18, 19, 20, 21, 22, 23, 24, 25, 26, 27, 28, 29, 30, 31, 32, 33]
  | 18, 3 => [1, 2, 5, 6, 7, 8, 9, 10, 11, 12, 13, 14, 15, 16, 17, 18, 19, 20, 21, 22, 23, 24, 25, 26, 27, 28, 29, 30, 31, 32, 33, 34, 35, 36, 37, 38, 39, 40, 41, 42, 43, 44, 45, 46, 47, 48, 49, 50, 51, 52, 53, 54, 55, 56, 57, 58, 59, 60, 61, 62, 63, 64]
  | 20, 1 => [1, 3, 4, 5, 6, 7, 8, 9, 10, 11, 12, 13, 14, 15, 16, 17, 18, 19, 20, 21, 22, 23, 24, 25, 26, 27, 28, 29, 30, 31, 32, 33, 34, 35, 36, 37, 38, 39, 40, 41, 42, 43, 44, 45, 46, 47, 48, 49, 50]
  | 22, 1 => [2, 3, 4, 5, 6, 7, 8, 9, 10, 11, 12, 13, 14, 15, 16, 17, 18, 19, 20, 21, 22, 23, 24, 25, 26, 27, 28, 29, 30, 31, 32, 33, 34, 35, 36, 37, 38, 39, 40, 41, 42, 43, 44, 45, 46]
  | 22, 4 => [2, 3, 4, 5, 6, 7, 8, 9, 10, 11, 12, 13, 14, 15, 16, 17, 18, 19, 20, 21, 22, 23, 24, 25, 26, 27, 28, 29, 30, 31, 32, 33, 34, 35, 36, 37, 38, 39, 40, 41, 42, 43, 44, 45, 46]
  | 25, 3 => [2, 3, 5, 6, 9, 10, 11, 12, 13, 14, 15, 16, 17, 18, 19, 20, 21, 22, 23, 24, 25, 26, 27, 28, 29, 30, 31, 32, 33, 34, 35, 36, 37, 38, 39, 40, 41, 42, 43, 44, 45, 46, 47, 48, 49, 50, 51, 52, 53, 54, 55, 56, 57, 58, 59, 60, 61, 62, 63, 64, 65, 66, 67, 68, 69, 70, 71, 72, 73, 74, 75, 76, 77, 78, 79, 80, 81]
  | 25, 10 => [2, 3, 5, 6, 10, 11, 12, 13, 14, 15, 16, 17, 18, 19, 20, 21, 22, 23, 24, 25, 26, 27, 28, 29, 30, 31, 32, 33, 34, 35, 36, 37, 38, 39, 40, 41, 42, 43, 44, 45, 46, 47, 48, 49, 50, 51, 52, 53, 54, 55, 56, 57, 58, 59, 60, 61, 62, 63, 64, 65, 66, 67, 68, 69, 70, 71, 72, 73, 74, 75, 76, 77, 78, 79, 80, 81]
  | 26, 4 => [1, 2, 3, 5, 6, 10, 11, 12, 13, 14, 15, 16, 17, 18, 19, 20, 21, 22, 23, 24, 25, 26, 27, 28, 29, 30, 31, 32, 33, 34, 35, 36, 37, 38, 39, 40, 41, 42, 43, 44, 45, 46, 47, 48, 49, 50, 51, 52, 53, 54, 55, 56, 57, 58, 59, 60, 61, 62, 63, 64, 65, 66, 67, 68, 69, 70, 71, 72, 73, 74, 75, 76, 77, 78, 79, 80, 81, 82, 83, 84, 85, 86, 87, 88, 89, 90, 91, 92, 93, 94, 95, 96, 97, 98, 99, 100, 101, 102, 103, 104, 105, 106, 107, 108, 109, 110, 111, 112, 113, 114, 115, 116, 117, 118, 119, 120, 121, 122, 123, 124, 125, 126, 127, 128, 129, 130, 131, 132, 133, 134, 135]
  | 26, 25 => [1, 2, 3, 5, 6, 12, 13, 14, 15, 16, 17, 18, 19, 20, 21, 22, 23, 24, 25, 26, 27, 28, 29, 30, 31, 32, 33, 34, 35, 36, 37, 38, 39, 40, 41, 42, 43, 44, 45, 46, 47, 48, 49, 50, 51, 52, 53, 54, 55, 56, 57, 58, 59, 60, 61, 62, 63, 64, 65, 66, 67, 68, 69, 70, 71, 72, 73, 74, 75, 76, 77, 78, 79, 80, 81, 82, 83, 84, 85, 86, 87, 88, 89, 90, 91, 92, 93, 94, 95, 96, 97, 98, 99, 100, 101, 102, 103, 104, 105, 106, 107, 108, 109, 110, 111, 112, 113, 114, 115, 116, 117, 118, 119, 120, 121, 122, 123, 124, 125, 126, 127, 128, 129, 130, 131, 132, 133, 134, 135]
  | 27, 8 => [2, 3, 5, 6, 11, 12, 13, 14, 15, 16, 17, 18, 19, 20, 21, 22, 23, 24, 25, 26, 27, 28, 29, 30, 31, 32, 33, 34, 35, 36, 37, 38, 39, 40, 41, 42, 43, 44, 45, 46, 47, 48, 49, 50, 51, 52, 53, 54, 55, 56, 57, 58, 59, 60, 61, 62, 63, 64, 65, 66, 67, 68, 69, 70, 71, 72, 73, 74, 75, 76, 77, 78, 79, 80, 81, 82, 83]
  | 32, 10 => [1, 3, 7, 8, 9, 10, 11, 12, 13, 14, 15, 16, 17, 18, 19, 20, 21, 22, 23, 24, 25, 26, 27, 28, 29, 30, 31, 32, 33, 34, 35, 36, 37, 38, 39, 40, 41, 42, 43, 44, 45, 46, 47, 48, 49, 50, 51, 52, 53, 54, 55, 56, 57, 58, 61, 62, 63, 64, 65, 66, 67, 68, 69, 70, 71, 72, 73, 74, 75, 76, 77, 78, 79, 80, 81, 82, 83, 84, 85, 86]
  | 33, 4 => [1, 3, 6, 7, 8, 9, 10, 11, 12, 13, 14, 15, 16, 17, 18, 19, 20, 21, 22, 23, 24, 25, 26, 27, 28, 29, 30, 31, 32, 33, 34, 35, 36, 37, 38, 39, 40, 41, 42, 43, 44, 45, 46, 47, 48, 49, 50, 51, 52, 53, 54, 55, 56, 57, 58, 59, 60, 61, 62, 63, 64, 65, 66, 67, 68, 69, 70, 71, 72, 73, 74, 75, 76, 77, 78, 79, 80, 81, 82, 83, 84, 85, 86, 87, 88]
  | 34, 4 => [1, 3, 6, 7, 8, 9, 10, 11, 12, 13, 14, 15, 16, 17, 18, 19, 20, 21, 22, 23, 24, 25, 26, 27, 28, 29, 30, 31, 32, 33, 36, 37, 38, 39, 40, 41, 42, 43, 44, 45, 46, 47, 48, 49, 50, 51, 52, 53, 54, 55, 56, 57, 58, 59, 60, 61, 62, 63, 64]
  | 35, 3 => [1, 2, 5, 6, 7, 8, 9, 10, 11, 12, 13, 14, 15, 16, 17, 18, 19, 20]
  | 36, 2 => [2, 3, 4, 6, 7, 8, 9, 10, 11, 12, 13, 14, 15, 16, 17, 18, 19, 20, 21, 22, 23, 24, 25, 26, 27, 28, 29, 30, 31, 32, 33, 34, 35, 36, 37, 38, 39, 40, 41, 42, 43, 44, 45, 46, 47, 48, 49, 50, 51]
  | 38, 15 => [1, 2, 3, 4, 6, 7, 8, 9, 10, 11, 12, 13, 14, 15, 16, 17, 18, 19, 20, 21, 22, 23, 24, 25, 26, 27, 28, 29, 30, 31, 32, 33, 34, 35, 37, 38, 39, 40, 41, 42, 43, 44, 45, 46, 47, 48, 49, 50, 51, 52, 53, 54, 55, 56, 57, 58, 59, 60, 61, 62, 63, 64, 65, 66, 67, 68, 69, 70, 71, 72, 73, 74, 75, 76, 77, 78, 79, 80, 81, 82, 83, 84, 85, 86, 87, 88, 89, 90, 91, 92, 93]
  | _, _ => []
 grow f r := match f, r with
  | 6, 14 => [(15, none)]
  | 10, 4 => [(2, none)]
  | 11, 5 => [(5, none)]
  | 26, 4 => [(8, none)]
  | 33, 4 => [(5, none)]
  | _, _ => []
 mode f d := match f, d with
  | 9, 11 => .heap
  | 9, 18 => .heap
  | 9, 25 => .heap
  | 10, 13 => .heap
  | 19, 12 => .imm
  | 19, 24 => .imm
  | 19, 32 => .imm
  | 19, 41 => .imm
  | _, _ => .priv
 gl g := match g with
  | 0 => .agg [.str ⟨#[61, 61]⟩, .str ⟨#[33, 61]⟩, .str ⟨#[60, 61]⟩, .str ⟨#[62, 61]⟩, .str ⟨#[43]⟩, .str ⟨#[45]⟩, .str ⟨#[42]⟩, .str ⟨#[47]⟩, .str ⟨#[37]⟩, .str ⟨#[60]⟩, .str ⟨#[62]⟩, .str ⟨#[61]⟩, .str ⟨#[40]⟩, .str ⟨#[41]⟩, .str ⟨#[91]⟩, .str ⟨#[93]⟩, .str ⟨#[123]⟩, .str ⟨#[125]⟩, .str ⟨#[44]⟩, .str ⟨#[59]⟩, .str ⟨#[58]⟩, .str ⟨#[46]⟩]
  | _ => .undef
 pure f := match f with
  | 9 => true
  | 11 => true
  | 12 => true
  | 15 => true
  | 17 => true
  | 18 => true
  | 19 => true
  | 22 => true
  | 23 => true
  | 24 => true
  | 25 => true
  | 26 => true
  | 27 => true
  | 30 => true
  | 35 => true
  | 28 => true
  | 29 => true
  | 14 => true
  | 16 => true
  | 40 => true
  | 39 => true
  | 41 => true
  | _ => false
theorem gl0 : notes.gl 0 = .agg [.str ⟨#[61, 61]⟩, .str ⟨#[33, 61]⟩, .str ⟨#[60, 61]⟩, .str ⟨#[62, 61]⟩, .str ⟨#[43]⟩, .str ⟨#[45]⟩, .str ⟨#[42]⟩, .str ⟨#[47]⟩, .str ⟨#[37]⟩, .str ⟨#[60]⟩, .str ⟨#[62]⟩, .str ⟨#[61]⟩, .str ⟨#[40]⟩, .str ⟨#[41]⟩, .str ⟨#[91]⟩, .str ⟨#[93]⟩, .str ⟨#[123]⟩, .str ⟨#[125]⟩, .str ⟨#[44]⟩, .str ⟨#[59]⟩, .str ⟨#[58]⟩, .str ⟨#[46]⟩] := rfl
theorem mode3_13 : notes.mode 3 13 = .priv := rfl
theorem mode3_14 : notes.mode 3 14 = .priv := rfl
theorem mode3_16 : notes.mode 3 16 = .priv := rfl
theorem mode3_19 : notes.mode 3 19 = .priv := rfl
theorem mode3_20 : notes.mode 3 20 = .priv := rfl
theorem mode3_21 : notes.mode 3 21 = .priv := rfl
theorem mode3_22 : notes.mode 3 22 = .priv := rfl
theorem mode3_25 : notes.mode 3 25 = .priv := rfl
theorem mode3_26 : notes.mode 3 26 = .priv := rfl
theorem mode3_27 : notes.mode 3 27 = .priv := rfl
theorem mode3_28 : notes.mode 3 28 = .priv := rfl
theorem mode3_31 : notes.mode 3 31 = .priv := rfl
theorem mode3_34 : notes.mode 3 34 = .priv := rfl
theorem mode3_45 : notes.mode 3 45 = .priv := rfl
theorem mode3_47 : notes.mode 3 47 = .priv := rfl
theorem mode3_51 : notes.mode 3 51 = .priv := rfl
theorem f3 : Tryd.prog.funcs[3]? = some Tryd.f3 := by kernel_rfl
theorem r3 : Tryd.f3.results.toList = [.tmp 2] := rfl
theorem n3 : Tryd.f3.ntmps = 53 := rfl
theorem b3 : Tryd.f3.body = some (bodyOf Tryd.f3) := rfl
theorem mode4_6 : notes.mode 4 6 = .priv := rfl
theorem mode4_8 : notes.mode 4 8 = .priv := rfl
theorem mode4_10 : notes.mode 4 10 = .priv := rfl
theorem mode4_14 : notes.mode 4 14 = .priv := rfl
theorem mode4_16 : notes.mode 4 16 = .priv := rfl
theorem mode4_20 : notes.mode 4 20 = .priv := rfl
theorem f4 : Tryd.prog.funcs[4]? = some Tryd.f4 := by kernel_rfl
theorem r4 : Tryd.f4.results.toList = [.tmp 2] := rfl
theorem n4 : Tryd.f4.ntmps = 22 := rfl
theorem b4 : Tryd.f4.body = some (bodyOf Tryd.f4) := rfl
theorem kill5_5 : notes.kill 5 5 = [2, 3, 4, 7, 8, 9, 10, 11, 12, 13, 14, 15, 16, 17, 18, 19, 20, 21, 22, 23, 24, 25, 26, 27, 28, 29, 30, 31, 32, 33, 34, 35, 36, 37, 38, 39, 40, 41, 42, 43, 44, 45, 46, 47, 48, 49, 50, 51, 52, 53, 54, 55, 56, 57, 58, 59, 60, 61, 62, 63, 64, 65, 66, 67, 68, 69, 70, 71, 72, 73, 74, 75, 76, 77, 78, 79, 80, 81, 82, 83, 84, 85, 86, 87, 88, 89, 90, 91, 92, 93, 94, 95, 96, 97, 98, 99, 100, 101, 102, 103, 104, 105, 106, 107, 108, 109, 110, 111, 112, 113, 114, 115, 116, 117, 118, 119, 120, 121, 122, 123] := rfl
theorem grow5_5 : notes.grow 5 5 = [] := rfl
/-- f5, loop at region 5: lives 0:n 1:blanks 5:b 6:i -/
def L5_5 (s0 s1 s5 s6 : Slot) : List Slot := [s0, s1, .v .undef, .v .undef, .v .undef, s5, s6, .v .undef, .v .undef, .v .undef, .v .undef, .v .undef, .v .undef, .v .undef, .v .undef, .v .undef, .v .undef, .v .undef, .v .undef, .v .undef, .v .undef, .v .undef, .v .undef, .v .undef, .v .undef, .v .undef, .v .undef, .v .undef, .v .undef, .v .undef, .v .undef, .v .undef, .v .undef, .v .undef, .v .undef, .v .undef, .v .undef, .v .undef, .v .undef, .v .undef, .v .undef, .v .undef, .v .undef, .v .undef, .v .undef, .v .undef, .v .undef, .v .undef, .v .undef, .v .undef, .v .undef, .v .undef, .v .undef, .v .undef, .v .undef, .v .undef, .v .undef, .v .undef, .v .undef, .v .undef, .v .undef, .v .undef, .v .undef, .v .undef, .v .undef, .v .undef, .v .undef, .v .undef, .v .undef, .v .undef, .v .undef, .v .undef, .v .undef, .v .undef, .v .undef, .v .undef, .v .undef, .v .undef, .v .undef, .v .undef, .v .undef, .v .undef, .v .undef, .v .undef, .v .undef, .v .undef, .v .undef, .v .undef, .v .undef, .v .undef, .v .undef, .v .undef, .v .undef, .v .undef, .v .undef, .v .undef, .v .undef, .v .undef, .v .undef, .v .undef, .v .undef, .v .undef, .v .undef, .v .undef, .v .undef, .v .undef, .v .undef, .v .undef, .v .undef, .v .undef, .v .undef, .v .undef, .v .undef, .v .undef, .v .undef, .v .undef, .v .undef, .v .undef, .v .undef, .v .undef, .v .undef, .v .undef, .v .undef, .v .undef]
theorem mode5_31 : notes.mode 5 31 = .priv := rfl
theorem mode5_49 : notes.mode 5 49 = .priv := rfl
theorem mode5_50 : notes.mode 5 50 = .priv := rfl
theorem mode5_51 : notes.mode 5 51 = .priv := rfl
theorem mode5_52 : notes.mode 5 52 = .priv := rfl
theorem mode5_59 : notes.mode 5 59 = .priv := rfl
theorem mode5_71 : notes.mode 5 71 = .priv := rfl
theorem mode5_80 : notes.mode 5 80 = .priv := rfl
theorem mode5_92 : notes.mode 5 92 = .priv := rfl
theorem mode5_95 : notes.mode 5 95 = .priv := rfl
theorem mode5_122 : notes.mode 5 122 = .priv := rfl
theorem f5 : Tryd.prog.funcs[5]? = some Tryd.f5 := by kernel_rfl
theorem r5 : Tryd.f5.results.toList = [.tmp 4] := rfl
theorem n5 : Tryd.f5.ntmps = 124 := rfl
theorem b5 : Tryd.f5.body = some (bodyOf Tryd.f5) := rfl
theorem kill6_14 : notes.kill 6 14 = [0, 1, 2, 3, 4, 6, 7, 8, 10, 11, 14, 17, 18, 19, 20, 21, 22, 23, 24, 25, 26, 27, 28, 29, 30, 31, 32, 33, 34, 35, 36, 37, 38, 39, 40, 41, 42, 43, 44, 45, 46, 47, 48, 49, 50, 51, 52, 53, 54, 55, 56, 57, 58, 59, 60, 61, 62, 63, 64, 65, 66, 67, 68, 69, 70, 71, 72, 73, 74, 75, 76, 77, 78, 79, 80, 81, 82, 83, 84, 85, 86, 87, 88, 89, 90, 91, 92, 93, 94, 95, 96, 97, 98, 99, 100, 101, 102, 103, 104, 105, 106, 107, 108, 109, 110, 111, 112, 113, 114, 115, 116, 117, 118, 119, 120, 121, 122, 123, 124, 125, 126, 127, 128, 129, 130, 131, 132, 133, 134] := rfl
theorem grow6_14 : notes.grow 6 14 = [(15, none)] := rfl
/-- f6, loop at region 14: lives 5:first 9:m 12:n 13:g 15:all 16:i -/
def L6_14 (s5 s9 s12 s13 s15 s16 : Slot) : List Slot := [.v .undef, .v .undef, .v .undef, .v .undef, .v .undef, s5, .v .undef, .v .undef, .v .undef, s9, .v .undef, .v .undef, s12, s13, .v .undef, s15, s16, .v .undef, .v .undef, .v .undef, .v .undef, .v .undef, .v .undef, .v .undef, .v .undef, .v .undef, .v .undef, .v .undef, .v .undef, .v .undef, .v .undef, .v .undef, .v .undef, .v .undef, .v .undef, .v .undef, .v .undef, .v .undef, .v .undef, .v .undef, .v .undef, .v .undef, .v .undef, .v .undef, .v .undef, .v .undef, .v .undef, .v .undef, .v .undef, .v .undef, .v .undef, .v .undef, .v .undef, .v .undef, .v .undef, .v .undef, .v .undef, .v .undef, .v .undef, .v .undef, .v .undef, .v .undef, .v .undef, .v .undef, .v .undef, .v .undef, .v .undef, .v .undef, .v .undef, .v .undef, .v .undef, .v .undef, .v .undef, .v .undef, .v .undef, .v .undef, .v .undef, .v .undef, .v .undef, .v .undef, .v .undef, .v .undef, .v .undef, .v .undef, .v .undef, .v .undef, .v .undef, .v .undef, .v .undef, .v .undef, .v .undef, .v .undef, .v .undef, .v .undef, .v .undef, .v .undef, .v .undef, .v .undef, .v .undef, .v .undef, .v .undef, .v .undef, .v .undef, .v .undef, .v .undef, .v .undef, .v .undef, .v .undef, .v .undef, .v .undef, .v .undef, .v .undef, .v .undef, .v .undef, .v .undef, .v .undef, .v .undef, .v .undef, .v .undef, .v .undef, .v .undef, .v .undef, .v .undef, .v .undef, .v .undef, .v .undef, .v .undef, .v .undef, .v .undef, .v .undef, .v .undef, .v .undef, .v .undef, .v .undef, .v .undef]
theorem mode6_26 : notes.mode 6 26 = .priv := rfl
theorem mode6_27 : notes.mode 6 27 = .priv := rfl
theorem mode6_29 : notes.mode 6 29 = .priv := rfl
theorem mode6_30 : notes.mode 6 30 = .priv := rfl
theorem mode6_31 : notes.mode 6 31 = .priv := rfl
theorem mode6_34 : notes.mode 6 34 = .priv := rfl
theorem mode6_35 : notes.mode 6 35 = .priv := rfl
theorem mode6_36 : notes.mode 6 36 = .priv := rfl
theorem mode6_37 : notes.mode 6 37 = .priv := rfl
theorem mode6_40 : notes.mode 6 40 = .priv := rfl
theorem mode6_41 : notes.mode 6 41 = .priv := rfl
theorem mode6_42 : notes.mode 6 42 = .priv := rfl
theorem mode6_43 : notes.mode 6 43 = .priv := rfl
theorem mode6_45 : notes.mode 6 45 = .priv := rfl
theorem mode6_47 : notes.mode 6 47 = .priv := rfl
theorem mode6_49 : notes.mode 6 49 = .priv := rfl
theorem mode6_50 : notes.mode 6 50 = .priv := rfl
theorem mode6_51 : notes.mode 6 51 = .priv := rfl
theorem mode6_52 : notes.mode 6 52 = .priv := rfl
theorem mode6_53 : notes.mode 6 53 = .priv := rfl
theorem mode6_55 : notes.mode 6 55 = .priv := rfl
theorem mode6_63 : notes.mode 6 63 = .priv := rfl
theorem mode6_71 : notes.mode 6 71 = .priv := rfl
theorem mode6_74 : notes.mode 6 74 = .priv := rfl
theorem mode6_77 : notes.mode 6 77 = .priv := rfl
theorem mode6_79 : notes.mode 6 79 = .priv := rfl
theorem mode6_95 : notes.mode 6 95 = .priv := rfl
theorem mode6_103 : notes.mode 6 103 = .priv := rfl
theorem mode6_17 : notes.mode 6 17 = .priv := rfl
theorem mode6_122 : notes.mode 6 122 = .priv := rfl
theorem mode6_123 : notes.mode 6 123 = .priv := rfl
theorem mode6_125 : notes.mode 6 125 = .priv := rfl
theorem mode6_130 : notes.mode 6 130 = .priv := rfl
theorem mode6_133 : notes.mode 6 133 = .priv := rfl
theorem f6 : Tryd.prog.funcs[6]? = some Tryd.f6 := by kernel_rfl
theorem r6 : Tryd.f6.results.toList = [.tmp 4] := rfl
theorem n6 : Tryd.f6.ntmps = 135 := rfl
theorem b6 : Tryd.f6.body = some (bodyOf Tryd.f6) := rfl
theorem mode7_10 : notes.mode 7 10 = .priv := rfl
theorem mode7_12 : notes.mode 7 12 = .priv := rfl
theorem mode7_15 : notes.mode 7 15 = .priv := rfl
theorem mode7_16 : notes.mode 7 16 = .priv := rfl
theorem mode7_17 : notes.mode 7 17 = .priv := rfl
theorem mode7_18 : notes.mode 7 18 = .priv := rfl
theorem mode7_20 : notes.mode 7 20 = .priv := rfl
theorem mode7_46 : notes.mode 7 46 = .priv := rfl
theorem mode7_57 : notes.mode 7 57 = .priv := rfl
theorem f7 : Tryd.prog.funcs[7]? = some Tryd.f7 := by kernel_rfl
theorem r7 : Tryd.f7.results.toList = [.tmp 2] := rfl
theorem n7 : Tryd.f7.ntmps = 59 := rfl
theorem b7 : Tryd.f7.body = some (bodyOf Tryd.f7) := rfl
def alts7_5 : List (Nat × Nat × Nat) := []
theorem mode8_9 : notes.mode 8 9 = .priv := rfl
theorem mode8_11 : notes.mode 8 11 = .priv := rfl
theorem mode8_12 : notes.mode 8 12 = .priv := rfl
theorem mode8_15 : notes.mode 8 15 = .priv := rfl
theorem mode8_16 : notes.mode 8 16 = .priv := rfl
theorem mode8_17 : notes.mode 8 17 = .priv := rfl
theorem mode8_18 : notes.mode 8 18 = .priv := rfl
theorem mode8_22 : notes.mode 8 22 = .priv := rfl
theorem mode8_34 : notes.mode 8 34 = .priv := rfl
theorem mode8_37 : notes.mode 8 37 = .priv := rfl
theorem mode8_66 : notes.mode 8 66 = .priv := rfl
theorem f8 : Tryd.prog.funcs[8]? = some Tryd.f8 := by kernel_rfl
theorem r8 : Tryd.f8.results.toList = [.tmp 2] := rfl
theorem n8 : Tryd.f8.ntmps = 68 := rfl
theorem b8 : Tryd.f8.body = some (bodyOf Tryd.f8) := rfl
theorem mode9_11 : notes.mode 9 11 = .heap := rfl
theorem mode9_12 : notes.mode 9 12 = .priv := rfl
theorem mode9_13 : notes.mode 9 13 = .priv := rfl
theorem mode9_14 : notes.mode 9 14 = .priv := rfl
theorem mode9_15 : notes.mode 9 15 = .priv := rfl
theorem mode9_16 : notes.mode 9 16 = .priv := rfl
theorem mode9_18 : notes.mode 9 18 = .heap := rfl
theorem mode9_19 : notes.mode 9 19 = .priv := rfl
theorem mode9_20 : notes.mode 9 20 = .priv := rfl
theorem mode9_21 : notes.mode 9 21 = .priv := rfl
theorem mode9_22 : notes.mode 9 22 = .priv := rfl
theorem mode9_23 : notes.mode 9 23 = .priv := rfl
theorem mode9_25 : notes.mode 9 25 = .heap := rfl
theorem mode9_26 : notes.mode 9 26 = .priv := rfl
theorem mode9_27 : notes.mode 9 27 = .priv := rfl
theorem mode9_28 : notes.mode 9 28 = .priv := rfl
theorem mode9_29 : notes.mode 9 29 = .priv := rfl
theorem mode9_30 : notes.mode 9 30 = .priv := rfl
theorem mode9_32 : notes.mode 9 32 = .priv := rfl
theorem mode9_34 : notes.mode 9 34 = .priv := rfl
theorem mode9_62 : notes.mode 9 62 = .priv := rfl
theorem mode9_77 : notes.mode 9 77 = .priv := rfl
theorem mode9_80 : notes.mode 9 80 = .priv := rfl
theorem f9 : Tryd.prog.funcs[9]? = some Tryd.f9 := by kernel_rfl
theorem r9 : Tryd.f9.results.toList = [.tmp 0] := rfl
theorem n9 : Tryd.f9.ntmps = 82 := rfl
theorem b9 : Tryd.f9.body = some (bodyOf Tryd.f9) := rfl
theorem kill10_4 : notes.kill 10 4 = [1, 3, 4, 6, 7, 8, 9, 10, 11, 12, 13, 14, 15, 16, 17, 18, 19, 20, 21, 22, 23, 24, 25, 26, 27, 28, 29, 30, 31, 32, 33, 34, 35, 36, 37, 38, 39, 40, 41, 42, 43, 44, 45, 46, 47, 48, 49, 50, 51, 52, 53] := rfl
theorem grow10_4 : notes.grow 10 4 = [(2, none)] := rfl
/-- f10, loop at region 4: lives 0:b 2:l 5:c -/
def L10_4 (s0 s2 s5 : Slot) : List Slot := [s0, .v .undef, s2, .v .undef, .v .undef, s5, .v .undef, .v .undef, .v .undef, .v .undef, .v .undef, .v .undef, .v .undef, .v .undef, .v .undef, .v .undef, .v .undef, .v .undef, .v .undef, .v .undef, .v .undef, .v .undef, .v .undef, .v .undef, .v .undef, .v .undef, .v .undef, .v .undef, .v .undef, .v .undef, .v .undef, .v .undef, .v .undef, .v .undef, .v .undef, .v .undef, .v .undef, .v .undef, .v .undef, .v .undef, .v .undef, .v .undef, .v .undef, .v .undef, .v .undef, .v .undef, .v .undef, .v .undef, .v .undef, .v .undef, .v .undef, .v .undef, .v .undef, .v .undef]
theorem mode10_13 : notes.mode 10 13 = .heap := rfl
theorem mode10_15 : notes.mode 10 15 = .priv := rfl
theorem mode10_27 : notes.mode 10 27 = .priv := rfl
theorem mode10_28 : notes.mode 10 28 = .priv := rfl
theorem mode10_40 : notes.mode 10 40 = .priv := rfl
theorem mode10_41 : notes.mode 10 41 = .priv := rfl
theorem mode10_42 : notes.mode 10 42 = .priv := rfl
theorem mode10_6 : notes.mode 10 6 = .priv := rfl
theorem mode10_52 : notes.mode 10 52 = .priv := rfl
theorem mode10_53 : notes.mode 10 53 = .priv := rfl
theorem f10 : Tryd.prog.funcs[10]? = some Tryd.f10 := by kernel_rfl
theorem r10 : Tryd.f10.results.toList = [.tmp 2, .tmp 3, .tmp 4] := rfl
theorem n10 : Tryd.f10.ntmps = 54 := rfl
theorem b10 : Tryd.f10.body = some (bodyOf Tryd.f10) := rfl
def alts10_8 : List (Nat × Nat × Nat) := []
def alts10_11 : List (Nat × Nat × Nat) := []
theorem kill11_5 : notes.kill 11 5 = [1, 2, 3, 4, 7, 8, 9, 10, 11, 12, 13, 14, 15, 16, 17, 18, 19, 20, 21, 22, 23, 24, 25, 26, 27, 28, 29, 30, 31, 32, 33, 34, 35, 36, 37, 38, 39, 40, 41, 42, 43, 44, 45, 46, 47, 48, 49, 50, 51, 52, 53, 54, 55, 56, 57, 58, 59, 60, 61, 62, 63, 64, 65, 66, 67, 68, 69, 70, 71, 72, 73, 74, 75, 76, 77, 78, 79, 80, 81, 82, 83, 84, 85, 86, 87, 88, 89, 90, 91, 92, 93, 94, 95, 96, 97, 98, 99, 100, 101, 102, 103, 104, 105, 106, 107, 108, 109, 110, 111, 112] := rfl
theorem grow11_5 : notes.grow 11 5 = [(5, none)] := rfl
/-- f11, loop at region 5: lives 0:b 5:out 6:at -/
def L11_5 (s0 s5 s6 : Slot) : List Slot := [s0, .v .undef, .v .undef, .v .undef, .v .undef, s5, s6, .v .undef, .v .undef, .v .undef, .v .undef, .v .undef, .v .undef, .v .undef, .v .undef, .v .undef, .v .undef, .v .undef, .v .undef, .v .undef, .v .undef, .v .undef, .v .undef, .v .undef, .v .undef, .v .undef, .v .undef, .v .undef, .v .undef, .v .undef, .v .undef, .v .undef, .v .undef, .v .undef, .v .undef, .v .undef, .v .undef, .v .undef, .v .undef, .v .undef, .v .undef, .v .undef, .v .undef, .v .undef, .v .undef, .v .undef, .v .undef, .v .undef, .v .undef, .v .undef, .v .undef, .v .undef, .v .undef, .v .undef, .v .undef, .v .undef, .v .undef, .v .undef, .v .undef, .v .undef, .v .undef, .v .undef, .v .undef, .v .undef, .v .undef, .v .undef, .v .undef, .v .undef, .v .undef, .v .undef, .v .undef, .v .undef, .v .undef, .v .undef, .v .undef, .v .undef, .v .undef, .v .undef, .v .undef, .v .undef, .v .undef, .v .undef, .v .undef, .v .undef, .v .undef, .v .undef, .v .undef, .v .undef, .v .undef, .v .undef, .v .undef, .v .undef, .v .undef, .v .undef, .v .undef, .v .undef, .v .undef, .v .undef, .v .undef, .v .undef, .v .undef, .v .undef, .v .undef, .v .undef, .v .undef, .v .undef, .v .undef, .v .undef, .v .undef, .v .undef, .v .undef, .v .undef, .v .undef]
theorem kill11_12 : notes.kill 11 12 = [1, 2, 3, 4, 10, 11, 12, 13, 14, 15, 16, 17, 18, 19, 20, 21, 22, 23, 24, 25, 26, 27, 28, 29, 30, 31, 32, 33, 34, 35, 36, 37, 38, 39, 40, 41, 42, 43, 44, 45, 46, 47, 48, 49, 50, 51, 52, 53, 54, 55, 56, 57, 58, 59, 60, 61, 62, 63, 64, 65, 66, 67, 68, 69, 70, 71, 72, 73, 74, 75, 76, 77, 78, 79, 80, 81, 82, 83, 84, 85, 86, 87, 88, 89, 90, 91, 92, 93, 94, 95, 96, 97, 98, 99, 100, 101, 102, 103, 104, 105, 106, 107, 108, 109, 110, 111, 112] := rfl
theorem grow11_12 : notes.grow 11 12 = [] := rfl
/-- f11, loop at region 12: lives 0:b 5:out 6:at 7:t 8:next 9:e -/
def L11_12 (s0 s5 s6 s7 s8 s9 : Slot) : List Slot := [s0, .v .undef, .v .undef, .v .undef, .v .undef, s5, s6, s7, s8, s9, .v .undef, .v .undef, .v .undef, .v .undef, .v .undef, .v .undef, .v .undef, .v .undef, .v .undef, .v .undef, .v .undef, .v .undef, .v .undef, .v .undef, .v .undef, .v .undef, .v .undef, .v .undef, .v .undef, .v .undef, .v .undef, .v .undef, .v .undef, .v .undef, .v .undef, .v .undef, .v .undef, .v .undef, .v .undef, .v .undef, .v .undef, .v .undef, .v .undef, .v .undef, .v .undef, .v .undef, .v .undef, .v .undef, .v .undef, .v .undef, .v .undef, .v .undef, .v .undef, .v .undef, .v .undef, .v .undef, .v .undef, .v .undef, .v .undef, .v .undef, .v .undef, .v .undef, .v .undef, .v .undef, .v .undef, .v .undef, .v .undef, .v .undef, .v .undef, .v .undef, .v .undef, .v .undef, .v .undef, .v .undef, .v .undef, .v .undef, .v .undef, .v .undef, .v .undef, .v .undef, .v .undef, .v .undef, .v .undef, .v .undef, .v .undef, .v .undef, .v .undef, .v .undef, .v .undef, .v .undef, .v .undef, .v .undef, .v .undef, .v .undef, .v .undef, .v .undef, .v .undef, .v .undef, .v .undef, .v .undef, .v .undef, .v .undef, .v .undef, .v .undef, .v .undef, .v .undef, .v .undef, .v .undef, .v .undef, .v .undef, .v .undef, .v .undef, .v .undef]
theorem mode11_14 : notes.mode 11 14 = .priv := rfl
theorem mode11_7 : notes.mode 11 7 = .priv := rfl
theorem mode11_36 : notes.mode 11 36 = .priv := rfl
theorem mode11_46 : notes.mode 11 46 = .priv := rfl
theorem mode11_52 : notes.mode 11 52 = .priv := rfl
theorem mode11_61 : notes.mode 11 61 = .priv := rfl
theorem mode11_66 : notes.mode 11 66 = .priv := rfl
theorem mode11_73 : notes.mode 11 73 = .priv := rfl
theorem mode11_77 : notes.mode 11 77 = .priv := rfl
theorem mode11_78 : notes.mode 11 78 = .priv := rfl
theorem mode11_79 : notes.mode 11 79 = .priv := rfl
theorem mode11_80 : notes.mode 11 80 = .priv := rfl
theorem mode11_90 : notes.mode 11 90 = .priv := rfl
theorem mode11_91 : notes.mode 11 91 = .priv := rfl
theorem mode11_92 : notes.mode 11 92 = .priv := rfl
theorem mode11_93 : notes.mode 11 93 = .priv := rfl
theorem mode11_27 : notes.mode 11 27 = .priv := rfl
theorem mode11_28 : notes.mode 11 28 = .priv := rfl
theorem mode11_29 : notes.mode 11 29 = .priv := rfl
theorem mode11_30 : notes.mode 11 30 = .priv := rfl
theorem mode11_100 : notes.mode 11 100 = .priv := rfl
theorem mode11_101 : notes.mode 11 101 = .priv := rfl
theorem mode11_104 : notes.mode 11 104 = .priv := rfl
theorem mode11_109 : notes.mode 11 109 = .priv := rfl
theorem mode11_110 : notes.mode 11 110 = .priv := rfl
theorem f11 : Tryd.prog.funcs[11]? = some Tryd.f11 := by kernel_rfl
theorem r11 : Tryd.f11.results.toList = [.tmp 2, .tmp 3, .tmp 4] := rfl
theorem n11 : Tryd.f11.ntmps = 113 := rfl
theorem b11 : Tryd.f11.body = some (bodyOf Tryd.f11) := rfl
theorem kill12_4 : notes.kill 12 4 = [3, 4, 5, 6, 8, 9, 10, 11, 12, 13, 14, 15, 16, 17, 18, 19, 20, 21, 22, 23, 24, 25, 26, 27, 28, 29, 30, 31, 32, 33, 34, 35, 36, 37, 38, 39, 40, 41, 42, 43, 44, 45, 46, 47, 48, 49, 50, 51, 52, 53, 54, 55, 56, 57, 58, 59, 60, 61, 62, 63, 64, 65, 66, 67, 68, 69, 70, 71] := rfl
theorem grow12_4 : notes.grow 12 4 = [] := rfl
/-- f12, loop at region 4: lives 0:a 1:b 2:places 7:i -/
def L12_4 (s0 s1 s2 s7 : Slot) : List Slot := [s0, s1, s2, .v .undef, .v .undef, .v .undef, .v .undef, s7, .v .undef, .v .undef, .v .undef, .v .undef, .v .undef, .v .undef, .v .undef, .v .undef, .v .undef, .v .undef, .v .undef, .v .undef, .v .undef, .v .undef, .v .undef, .v .undef, .v .undef, .v .undef, .v .undef, .v .undef, .v .undef, .v .undef, .v .undef, .v .undef, .v .undef, .v .undef, .v .undef, .v .undef, .v .undef, .v .undef, .v .undef, .v .undef, .v .undef, .v .undef, .v .undef, .v .undef, .v .undef, .v .undef, .v .undef, .v .undef, .v .undef, .v .undef, .v .undef, .v .undef, .v .undef, .v .undef, .v .undef, .v .undef, .v .undef, .v .undef, .v .undef, .v .undef, .v .undef, .v .undef, .v .undef, .v .undef, .v .undef, .v .undef, .v .undef, .v .undef, .v .undef, .v .undef, .v .undef, .v .undef]
theorem f12 : Tryd.prog.funcs[12]? = some Tryd.f12 := by kernel_rfl
theorem r12 : Tryd.f12.results.toList = [.tmp 6] := rfl
theorem n12 : Tryd.f12.ntmps = 72 := rfl
theorem b12 : Tryd.f12.body = some (bodyOf Tryd.f12) := rfl
def alts12_6 : List (Nat × Nat × Nat) := []
theorem f13 : Tryd.prog.funcs[13]? = some Tryd.f13 := by kernel_rfl
theorem r13 : Tryd.f13.results.toList = [.tmp 2] := rfl
theorem n13 : Tryd.f13.ntmps = 4 := rfl
theorem b13 : Tryd.f13.body = some (bodyOf Tryd.f13) := rfl
theorem f14 : Tryd.prog.funcs[14]? = some Tryd.f14 := by kernel_rfl
theorem r14 : Tryd.f14.results.toList = [.tmp 2] := rfl
theorem n14 : Tryd.f14.ntmps = 23 := rfl
theorem b14 : Tryd.f14.body = some (bodyOf Tryd.f14) := rfl
theorem kill15_3 : notes.kill 15 3 = [1, 2, 5, 6, 7, 8, 9, 10, 11, 12, 13, 14] := rfl
theorem grow15_3 : notes.grow 15 3 = [] := rfl
/-- f15, loop at region 3: lives 0:s 3:l 4:i -/
def L15_3 (s0 s3 s4 : Slot) : List Slot := [s0, .v .undef, .v .undef, s3, s4, .v .undef, .v .undef, .v .undef, .v .undef, .v .undef, .v .undef, .v .undef, .v .undef, .v .undef, .v .undef]
theorem mode15_3 : notes.mode 15 3 = .priv := rfl
theorem f15 : Tryd.prog.funcs[15]? = some Tryd.f15 := by kernel_rfl
theorem r15 : Tryd.f15.results.toList = [.tmp 2] := rfl
theorem n15 : Tryd.f15.ntmps = 15 := rfl
theorem b15 : Tryd.f15.body = some (bodyOf Tryd.f15) := rfl
theorem kill16_2 : notes.kill 16 2 = [1, 2, 3, 4, 7, 8, 9, 10, 11, 12, 13, 14, 15, 16, 17, 18, 19, 20, 21, 22, 23, 24, 25, 26, 27, 28, 29, 30, 31, 32] := rfl
theorem grow16_2 : notes.grow 16 2 = [] := rfl
/-- f16, loop at region 2: lives 0:s 5: 6: -/
def L16_2 (s0 s5 s6 : Slot) : List Slot := [s0, .v .undef, .v .undef, .v .undef, .v .undef, s5, s6, .v .undef, .v .undef, .v .undef, .v .undef, .v .undef, .v .undef, .v .undef, .v .undef, .v .undef, .v .undef, .v .undef, .v .undef, .v .undef, .v .undef, .v .undef, .v .undef, .v .undef, .v .undef, .v .undef, .v .undef, .v .undef, .v .undef, .v .undef, .v .undef, .v .undef, .v .undef]
theorem mode16_12 : notes.mode 16 12 = .priv := rfl
theorem mode16_21 : notes.mode 16 21 = .priv := rfl
theorem mode16_30 : notes.mode 16 30 = .priv := rfl
theorem f16 : Tryd.prog.funcs[16]? = some Tryd.f16 := by kernel_rfl
theorem r16 : Tryd.f16.results.toList = [.tmp 2] := rfl
theorem n16 : Tryd.f16.ntmps = 33 := rfl
theorem b16 : Tryd.f16.body = some (bodyOf Tryd.f16) := rfl
theorem kill17_4 : notes.kill 17 4 = [1, 2, 4, 5, 6, 7, 8, 9, 10, 11, 12, 13, 14, 15, 16, 17, 18, 19, 20, 21, 22, 23, 24, 25, 26, 27, 28, 29, 30, 31, 32, 33] := rfl
theorem grow17_4 : notes.grow 17 4 = [] := rfl
/-- f17, loop at region 4: lives 0:s 3:i -/
def L17_4 (s0 s3 : Slot) : List Slot := [s0, .v .undef, .v .undef, s3, .v .undef, .v .undef, .v .undef, .v .undef, .v .undef, .v .undef, .v .undef, .v .undef, .v .undef, .v .undef, .v .undef, .v .undef, .v .undef, .v .undef, .v .undef, .v .undef, .v .undef, .v .undef, .v .undef, .v .undef, .v .undef, .v .undef, .v .undef, .v .undef, .v .undef, .v .undef, .v .undef, .v .undef, .v .undef, .v .undef]
theorem mode17_10 : notes.mode 17 10 = .priv := rfl
theorem mode17_14 : notes.mode 17 14 = .priv := rfl
theorem mode17_25 : notes.mode 17 25 = .priv := rfl
theorem mode17_31 : notes.mode 17 31 = .priv := rfl
theorem f17 : Tryd.prog.funcs[17]? = some Tryd.f17 := by kernel_rfl
theorem r17 : Tryd.f17.results.toList = [.tmp 2] := rfl
theorem n17 : Tryd.f17.ntmps = 34 := rfl
theorem b17 : Tryd.f17.body = some (bodyOf Tryd.f17) := rfl
theorem kill18_3 : notes.kill 18 3 = [1, 2, 5, 6, 7, 8, 9, 10, 11, 12, 13, 14, 15, 16, 17, 18, 19, 20, 21, 22, 23, 24, 25, 26, 27, 28, 29, 30, 31, 32, 33, 34, 35, 36, 37, 38, 39, 40, 41, 42, 43, 44, 45, 46, 47, 48, 49, 50, 51, 52, 53, 54, 55, 56, 57, 58, 59, 60, 61, 62, 63, 64] := rfl
theorem grow18_3 : notes.grow 18 3 = [] := rfl
/-- f18, loop at region 3: lives 0:b 3:out 4:i -/
def L18_3 (s0 s3 s4 : Slot) : List Slot := [s0, .v .undef, .v .undef, s3, s4, .v .undef, .v .undef, .v .undef, .v .undef, .v .undef, .v .undef, .v .undef, .v .undef, .v .undef, .v .undef, .v .undef, .v .undef, .v .undef, .v .undef, .v .undef, .v .undef, .v .undef, .v .undef, .v .undef, .v .undef, .v .undef, .v .undef, .v .undef, .v .undef, .v .undef, .v .undef, .v .undef, .v .undef, .v .undef, .v .undef, .v .undef, .v .undef, .v .undef, .v .undef, .v .undef, .v .undef, .v .undef, .v .undef, .v .undef, .v .undef, .v .undef, .v .undef, .v .undef, .v .undef, .v .undef, .v .undef, .v .undef, .v .undef, .v .undef, .v .undef, .v .undef, .v .undef, .v .undef, .v .undef, .v .undef, .v .undef, .v .undef, .v .undef, .v .undef, .v .undef]
theorem mode18_6 : notes.mode 18 6 = .priv := rfl
theorem mode18_25 : notes.mode 18 25 = .priv := rfl
theorem mode18_26 : notes.mode 18 26 = .priv := rfl
theorem mode18_31 : notes.mode 18 31 = .priv := rfl
theorem mode18_32 : notes.mode 18 32 = .priv := rfl
theorem mode18_42 : notes.mode 18 42 = .priv := rfl
theorem mode18_43 : notes.mode 18 43 = .priv := rfl
theorem mode18_53 : notes.mode 18 53 = .priv := rfl
theorem mode18_55 : notes.mode 18 55 = .priv := rfl
theorem mode18_57 : notes.mode 18 57 = .priv := rfl
theorem mode18_59 : notes.mode 18 59 = .priv := rfl
theorem mode18_60 : notes.mode 18 60 = .priv := rfl
theorem mode18_61 : notes.mode 18 61 = .priv := rfl
theorem mode18_19 : notes.mode 18 19 = .priv := rfl
theorem mode18_20 : notes.mode 18 20 = .priv := rfl
theorem mode18_63 : notes.mode 18 63 = .priv := rfl
theorem mode18_64 : notes.mode 18 64 = .priv := rfl
theorem f18 : Tryd.prog.funcs[18]? = some Tryd.f18 := by kernel_rfl
theorem r18 : Tryd.f18.results.toList = [.tmp 2] := rfl
theorem n18 : Tryd.f18.ntmps = 65 := rfl
theorem b18 : Tryd.f18.body = some (bodyOf Tryd.f18) := rfl
theorem mode19_11 : notes.mode 19 11 = .priv := rfl
theorem mode19_12 : notes.mode 19 12 = .imm := rfl
theorem mode19_13 : notes.mode 19 13 = .priv := rfl
theorem mode19_19 : notes.mode 19 19 = .priv := rfl
theorem mode19_23 : notes.mode 19 23 = .priv := rfl
theorem mode19_24 : notes.mode 19 24 = .imm := rfl
theorem mode19_25 : notes.mode 19 25 = .priv := rfl
theorem mode19_31 : notes.mode 19 31 = .priv := rfl
theorem mode19_32 : notes.mode 19 32 = .imm := rfl
theorem mode19_33 : notes.mode 19 33 = .priv := rfl
theorem mode19_36 : notes.mode 19 36 = .priv := rfl
theorem mode19_40 : notes.mode 19 40 = .priv := rfl
theorem mode19_41 : notes.mode 19 41 = .imm := rfl
theorem mode19_42 : notes.mode 19 42 = .priv := rfl
theorem f19 : Tryd.prog.funcs[19]? = some Tryd.f19 := by kernel_rfl
theorem r19 : Tryd.f19.results.toList = [.tmp 2] := rfl
theorem n19 : Tryd.f19.ntmps = 44 := rfl
theorem b19 : Tryd.f19.body = some (bodyOf Tryd.f19) := rfl
def alts19_4 : List (Nat × Nat × Nat) := [(4, 0, 0), (5, 0, 0), (6, 0, 0), (7, 0, 0), (8, 0, 0)]
def alts19_7 : List (Nat × Nat × Nat) := [(4, 0, 0), (5, 0, 0), (6, 0, 0), (7, 0, 0), (8, 0, 0)]
theorem kill20_1 : notes.kill 20 1 = [1, 3, 4, 5, 6, 7, 8, 9, 10, 11, 12, 13, 14, 15, 16, 17, 18, 19, 20, 21, 22, 23, 24, 25, 26, 27, 28, 29, 30, 31, 32, 33, 34, 35, 36, 37, 38, 39, 40, 41, 42, 43, 44, 45, 46, 47, 48, 49, 50] := rfl
theorem grow20_1 : notes.grow 20 1 = [] := rfl
/-- f20, loop at region 1: lives 0:c 2:note -/
def L20_1 (s0 s2 : Slot) : List Slot := [s0, .v .undef, s2, .v .undef, .v .undef, .v .undef, .v .undef, .v .undef, .v .undef, .v .undef, .v .undef, .v .undef, .v .undef, .v .undef, .v .undef, .v .undef, .v .undef, .v .undef, .v .undef, .v .undef, .v .undef, .v .undef, .v .undef, .v .undef, .v .undef, .v .undef, .v .undef, .v .undef, .v .undef, .v .undef, .v .undef, .v .undef, .v .undef, .v .undef, .v .undef, .v .undef, .v .undef, .v .undef, .v .undef, .v .undef, .v .undef, .v .undef, .v .undef, .v .undef, .v .undef, .v .undef, .v .undef, .v .undef, .v .undef, .v .undef, .v .undef]
theorem f20 : Tryd.prog.funcs[20]? = some Tryd.f20 := by kernel_rfl
theorem r20 : Tryd.f20.results.toList = [] := rfl
theorem n20 : Tryd.f20.ntmps = 51 := rfl
theorem b20 : Tryd.f20.body = some (bodyOf Tryd.f20) := rfl
def alts20_1 : List (Nat × Nat × Nat) := []
def alts20_3 : List (Nat × Nat × Nat) := []
theorem mode21_2 : notes.mode 21 2 = .priv := rfl
theorem mode21_17 : notes.mode 21 17 = .priv := rfl
theorem mode21_19 : notes.mode 21 19 = .priv := rfl
theorem mode21_22 : notes.mode 21 22 = .priv := rfl
theorem mode21_24 : notes.mode 21 24 = .priv := rfl
theorem mode21_25 : notes.mode 21 25 = .priv := rfl
theorem mode21_26 : notes.mode 21 26 = .priv := rfl
theorem mode21_31 : notes.mode 21 31 = .priv := rfl
theorem mode21_32 : notes.mode 21 32 = .priv := rfl
theorem mode21_33 : notes.mode 21 33 = .priv := rfl
theorem mode21_35 : notes.mode 21 35 = .priv := rfl
theorem mode21_36 : notes.mode 21 36 = .priv := rfl
theorem mode21_37 : notes.mode 21 37 = .priv := rfl
theorem f21 : Tryd.prog.funcs[21]? = some Tryd.f21 := by kernel_rfl
theorem r21 : Tryd.f21.results.toList = [.cell 2 36, .tmp 3] := rfl
theorem n21 : Tryd.f21.ntmps = 38 := rfl
theorem b21 : Tryd.f21.body = some (bodyOf Tryd.f21) := rfl
def alts21_1 : List (Nat × Nat × Nat) := []
theorem kill22_1 : notes.kill 22 1 = [2, 3, 4, 5, 6, 7, 8, 9, 10, 11, 12, 13, 14, 15, 16, 17, 18, 19, 20, 21, 22, 23, 24, 25, 26, 27, 28, 29, 30, 31, 32, 33, 34, 35, 36, 37, 38, 39, 40, 41, 42, 43, 44, 45, 46] := rfl
theorem grow22_1 : notes.grow 22 1 = [] := rfl
/-- f22, loop at region 1: lives 0:b 1:at -/
def L22_1 (s0 s1 : Slot) : List Slot := [s0, s1, .v .undef, .v .undef, .v .undef, .v .undef, .v .undef, .v .undef, .v .undef, .v .undef, .v .undef, .v .undef, .v .undef, .v .undef, .v .undef, .v .undef, .v .undef, .v .undef, .v .undef, .v .undef, .v .undef, .v .undef, .v .undef, .v .undef, .v .undef, .v .undef, .v .undef, .v .undef, .v .undef, .v .undef, .v .undef, .v .undef, .v .undef, .v .undef, .v .undef, .v .undef, .v .undef, .v .undef, .v .undef, .v .undef, .v .undef, .v .undef, .v .undef, .v .undef, .v .undef, .v .undef, .v .undef]
theorem kill22_4 : notes.kill 22 4 = [2, 3, 4, 5, 6, 7, 8, 9, 10, 11, 12, 13, 14, 15, 16, 17, 18, 19, 20, 21, 22, 23, 24, 25, 26, 27, 28, 29, 30, 31, 32, 33, 34, 35, 36, 37, 38, 39, 40, 41, 42, 43, 44, 45, 46] := rfl
theorem grow22_4 : notes.grow 22 4 = [] := rfl
/-- f22, loop at region 4: lives 0:b 1:at -/
def L22_4 (s0 s1 : Slot) : List Slot := [s0, s1, .v .undef, .v .undef, .v .undef, .v .undef, .v .undef, .v .undef, .v .undef, .v .undef, .v .undef, .v .undef, .v .undef, .v .undef, .v .undef, .v .undef, .v .undef, .v .undef, .v .undef, .v .undef, .v .undef, .v .undef, .v .undef, .v .undef, .v .undef, .v .undef, .v .undef, .v .undef, .v .undef, .v .undef, .v .undef, .v .undef, .v .undef, .v .undef, .v .undef, .v .undef, .v .undef, .v .undef, .v .undef, .v .undef, .v .undef, .v .undef, .v .undef, .v .undef, .v .undef, .v .undef, .v .undef]
theorem f22 : Tryd.prog.funcs[22]? = some Tryd.f22 := by kernel_rfl
theorem r22 : Tryd.f22.results.toList = [.tmp 4] := rfl
theorem n22 : Tryd.f22.ntmps = 47 := rfl
theorem b22 : Tryd.f22.body = some (bodyOf Tryd.f22) := rfl
theorem f23 : Tryd.prog.funcs[23]? = some Tryd.f23 := by kernel_rfl
theorem r23 : Tryd.f23.results.toList = [.tmp 2] := rfl
theorem n23 : Tryd.f23.ntmps = 21 := rfl
theorem b23 : Tryd.f23.body = some (bodyOf Tryd.f23) := rfl
theorem f24 : Tryd.prog.funcs[24]? = some Tryd.f24 := by kernel_rfl
theorem r24 : Tryd.f24.results.toList = [.tmp 2] := rfl
theorem n24 : Tryd.f24.ntmps = 9 := rfl
theorem b24 : Tryd.f24.body = some (bodyOf Tryd.f24) := rfl
theorem kill25_3 : notes.kill 25 3 = [2, 3, 5, 6, 9, 10, 11, 12, 13, 14, 15, 16, 17, 18, 19, 20, 21, 22, 23, 24, 25, 26, 27, 28, 29, 30, 31, 32, 33, 34, 35, 36, 37, 38, 39, 40, 41, 42, 43, 44, 45, 46, 47, 48, 49, 50, 51, 52, 53, 54, 55, 56, 57, 58, 59, 60, 61, 62, 63, 64, 65, 66, 67, 68, 69, 70, 71, 72, 73, 74, 75, 76, 77, 78, 79, 80, 81] := rfl
theorem grow25_3 : notes.grow 25 3 = [] := rfl
/-- f25, loop at region 3: lives 0:b 1:at 4: 7:t 8:end -/
def L25_3 (s0 s1 s4 s7 s8 : Slot) : List Slot := [s0, s1, .v .undef, .v .undef, s4, .v .undef, .v .undef, s7, s8, .v .undef, .v .undef, .v .undef, .v .undef, .v .undef, .v .undef, .v .undef, .v .undef, .v .undef, .v .undef, .v .undef, .v .undef, .v .undef, .v .undef, .v .undef, .v .undef, .v .undef, .v .undef, .v .undef, .v .undef, .v .undef, .v .undef, .v .undef, .v .undef, .v .undef, .v .undef, .v .undef, .v .undef, .v .undef, .v .undef, .v .undef, .v .undef, .v .undef, .v .undef, .v .undef, .v .undef, .v .undef, .v .undef, .v .undef, .v .undef, .v .undef, .v .undef, .v .undef, .v .undef, .v .undef, .v .undef, .v .undef, .v .undef, .v .undef, .v .undef, .v .undef, .v .undef, .v .undef, .v .undef, .v .undef, .v .undef, .v .undef, .v .undef, .v .undef, .v .undef, .v .undef, .v .undef, .v .undef, .v .undef, .v .undef, .v .undef, .v .undef, .v .undef, .v .undef, .v .undef, .v .undef, .v .undef, .v .undef]
theorem kill25_10 : notes.kill 25 10 = [2, 3, 5, 6, 10, 11, 12, 13, 14, 15, 16, 17, 18, 19, 20, 21, 22, 23, 24, 25, 26, 27, 28, 29, 30, 31, 32, 33, 34, 35, 36, 37, 38, 39, 40, 41, 42, 43, 44, 45, 46, 47, 48, 49, 50, 51, 52, 53, 54, 55, 56, 57, 58, 59, 60, 61, 62, 63, 64, 65, 66, 67, 68, 69, 70, 71, 72, 73, 74, 75, 76, 77, 78, 79, 80, 81] := rfl
theorem grow25_10 : notes.grow 25 10 = [] := rfl
/-- f25, loop at region 10: lives 0:b 1:at 4: 7:t 8:end 9:i -/
def L25_10 (s0 s1 s4 s7 s8 s9 : Slot) : List Slot := [s0, s1, .v .undef, .v .undef, s4, .v .undef, .v .undef, s7, s8, s9, .v .undef, .v .undef, .v .undef, .v .undef, .v .undef, .v .undef, .v .undef, .v .undef, .v .undef, .v .undef, .v .undef, .v .undef, .v .undef, .v .undef, .v .undef, .v .undef, .v .undef, .v .undef, .v .undef, .v .undef, .v .undef, .v .undef, .v .undef, .v .undef, .v .undef, .v .undef, .v .undef, .v .undef, .v .undef, .v .undef, .v .undef, .v .undef, .v .undef, .v .undef, .v .undef, .v .undef, .v .undef, .v .undef, .v .undef, .v .undef, .v .undef, .v .undef, .v .undef, .v .undef, .v .undef, .v .undef, .v .undef, .v .undef, .v .undef, .v .undef, .v .undef, .v .undef, .v .undef, .v .undef, .v .undef, .v .undef, .v .undef, .v .undef, .v .undef, .v .undef, .v .undef, .v .undef, .v .undef, .v .undef, .v .undef, .v .undef, .v .undef, .v .undef, .v .undef, .v .undef, .v .undef, .v .undef]
theorem mode25_4 : notes.mode 25 4 = .priv := rfl
theorem mode25_7 : notes.mode 25 7 = .priv := rfl
theorem mode25_23 : notes.mode 25 23 = .priv := rfl
theorem mode25_50 : notes.mode 25 50 = .priv := rfl
theorem mode25_65 : notes.mode 25 65 = .priv := rfl
theorem f25 : Tryd.prog.funcs[25]? = some Tryd.f25 := by kernel_rfl
theorem r25 : Tryd.f25.results.toList = [.cell 4 36, .tmp 5, .tmp 6] := rfl
theorem n25 : Tryd.f25.ntmps = 82 := rfl
theorem b25 : Tryd.f25.body = some (bodyOf Tryd.f25) := rfl
theorem kill26_4 : notes.kill 26 4 = [1, 2, 3, 5, 6, 10, 11, 12, 13, 14, 15, 16, 17, 18, 19, 20, 21, 22, 23, 24, 25, 26, 27, 28, 29, 30, 31, 32, 33, 34, 35, 36, 37, 38, 39, 40, 41, 42, 43, 44, 45, 46, 47, 48, 49, 50, 51, 52, 53, 54, 55, 56, 57, 58, 59, 60, 61, 62, 63, 64, 65, 66, 67, 68, 69, 70, 71, 72, 73, 74, 75, 76, 77, 78, 79, 80, 81, 82, 83, 84, 85, 86, 87, 88, 89, 90, 91, 92, 93, 94, 95, 96, 97, 98, 99, 100, 101, 102, 103, 104, 105, 106, 107, 108, 109, 110, 111, 112, 113, 114, 115, 116, 117, 118, 119, 120, 121, 122, 123, 124, 125, 126, 127, 128, 129, 130, 131, 132, 133, 134, 135] := rfl
theorem grow26_4 : notes.grow 26 4 = [(8, none)] := rfl
/-- f26, loop at region 4: lives 0:b 4: 7:t 8:out 9:i -/
def L26_4 (s0 s4 s7 s8 s9 : Slot) : List Slot := [s0, .v .undef, .v .undef, .v .undef, s4, .v .undef, .v .undef, s7, s8, s9, .v .undef, .v .undef, .v .undef, .v .undef, .v .undef, .v .undef, .v .undef, .v .undef, .v .undef, .v .undef, .v .undef, .v .undef, .v .undef, .v .undef, .v .undef, .v .undef, .v .undef, .v .undef, .v .undef, .v .undef, .v .undef, .v .undef, .v .undef, .v .undef, .v .undef, .v .undef, .v .undef, .v .undef, .v .undef, .v .undef, .v .undef, .v .undef, .v .undef, .v .undef, .v .undef, .v .undef, .v .undef, .v .undef, .v .undef, .v .undef, .v .undef, .v .undef, .v .undef, .v .undef, .v .undef, .v .undef, .v .undef, .v .undef, .v .undef, .v .undef, .v .undef, .v .undef, .v .undef, .v .undef, .v .undef, .v .undef, .v .undef, .v .undef, .v .undef, .v .undef, .v .undef, .v .undef, .v .undef, .v .undef, .v .undef, .v .undef, .v .undef, .v .undef, .v .undef, .v .undef, .v .undef, .v .undef, .v .undef, .v .undef, .v .undef, .v .undef, .v .undef, .v .undef, .v .undef, .v .undef, .v .undef, .v .undef, .v .undef, .v .undef, .v .undef, .v .undef, .v .undef, .v .undef, .v .undef, .v .undef, .v .undef, .v .undef, .v .undef, .v .undef, .v .undef, .v .undef, .v .undef, .v .undef, .v .undef, .v .undef, .v .undef, .v .undef, .v .undef, .v .undef, .v .undef, .v .undef, .v .undef, .v .undef, .v .undef, .v .undef, .v .undef, .v .undef, .v .undef, .v .undef, .v .undef, .v .undef, .v .undef, .v .undef, .v .undef, .v .undef, .v .undef, .v .undef, .v .undef, .v .undef, .v .undef, .v .undef]
theorem kill26_25 : notes.kill 26 25 = [1, 2, 3, 5, 6, 12, 13, 14, 15, 16, 17, 18, 19, 20, 21, 22, 23, 24, 25, 26, 27, 28, 29, 30, 31, 32, 33, 34, 35, 36, 37, 38, 39, 40, 41, 42, 43, 44, 45, 46, 47, 48, 49, 50, 51, 52, 53, 54, 55, 56, 57, 58, 59, 60, 61, 62, 63, 64, 65, 66, 67, 68, 69, 70, 71, 72, 73, 74, 75, 76, 77, 78, 79, 80, 81, 82, 83, 84, 85, 86, 87, 88, 89, 90, 91, 92, 93, 94, 95, 96, 97, 98, 99, 100, 101, 102, 103, 104, 105, 106, 107, 108, 109, 110, 111, 112, 113, 114, 115, 116, 117, 118, 119, 120, 121, 122, 123, 124, 125, 126, 127, 128, 129, 130, 131, 132, 133, 134, 135] := rfl
theorem grow26_25 : notes.grow 26 25 = [] := rfl
/-- f26, loop at region 25: lives 0:b 4: 7:t 8:out 9:i 10:n 11:k -/
def L26_25 (s0 s4 s7 s8 s9 s10 s11 : Slot) : List Slot := [s0, .v .undef, .v .undef, .v .undef, s4, .v .undef, .v .undef, s7, s8, s9, s10, s11, .v .undef, .v .undef, .v .undef, .v .undef, .v .undef, .v .undef, .v .undef, .v .undef, .v .undef, .v .undef, .v .undef, .v .undef, .v .undef, .v .undef, .v .undef, .v .undef, .v .undef, .v .undef, .v .undef, .v .undef, .v .undef, .v .undef, .v .undef, .v .undef, .v .undef, .v .undef, .v .undef, .v .undef, .v .undef, .v .undef, .v .undef, .v .undef, .v .undef, .v .undef, .v .undef, .v .undef, .v .undef, .v .undef, .v .undef, .v .undef, .v .undef, .v .undef, .v .undef, .v .undef, .v .undef, .v .undef, .v .undef, .v .undef, .v .undef, .v .undef, .v .undef, .v .undef, .v .undef, .v .undef, .v .undef, .v .undef, .v .undef, .v .undef, .v .undef, .v .undef, .v .undef, .v .undef, .v .undef, .v .undef, .v .undef, .v .undef, .v .undef, .v .undef, .v .undef, .v .undef, .v .undef, .v .undef, .v .undef, .v .undef, .v .undef, .v .undef, .v .undef, .v .undef, .v .undef, .v .undef, .v .undef, .v .undef, .v .undef, .v .undef, .v .undef, .v .undef, .v .undef, .v .undef, .v .undef, .v .undef, .v .undef, .v .undef, .v .undef, .v .undef, .v .undef, .v .undef, .v .undef, .v .undef, .v .undef, .v .undef, .v .undef, .v .undef, .v .undef, .v .undef, .v .undef, .v .undef, .v .undef, .v .undef, .v .undef, .v .undef, .v .undef, .v .undef, .v .undef, .v .undef, .v .undef, .v .undef, .v .undef, .v .undef, .v .undef, .v .undef, .v .undef, .v .undef, .v .undef, .v .undef]
theorem mode26_4 : notes.mode 26 4 = .priv := rfl
theorem mode26_7 : notes.mode 26 7 = .priv := rfl
theorem mode26_44 : notes.mode 26 44 = .priv := rfl
theorem mode26_45 : notes.mode 26 45 = .priv := rfl
theorem mode26_65 : notes.mode 26 65 = .priv := rfl
theorem mode26_66 : notes.mode 26 66 = .priv := rfl
theorem mode26_70 : notes.mode 26 70 = .priv := rfl
theorem mode26_71 : notes.mode 26 71 = .priv := rfl
theorem mode26_80 : notes.mode 26 80 = .priv := rfl
theorem mode26_81 : notes.mode 26 81 = .priv := rfl
theorem mode26_101 : notes.mode 26 101 = .priv := rfl
theorem mode26_112 : notes.mode 26 112 = .priv := rfl
theorem mode26_116 : notes.mode 26 116 = .priv := rfl
theorem mode26_117 : notes.mode 26 117 = .priv := rfl
theorem mode26_118 : notes.mode 26 118 = .priv := rfl
theorem mode26_131 : notes.mode 26 131 = .priv := rfl
theorem f26 : Tryd.prog.funcs[26]? = some Tryd.f26 := by kernel_rfl
theorem r26 : Tryd.f26.results.toList = [.cell 4 36, .tmp 5, .tmp 6] := rfl
theorem n26 : Tryd.f26.ntmps = 136 := rfl
theorem b26 : Tryd.f26.body = some (bodyOf Tryd.f26) := rfl
theorem kill27_8 : notes.kill 27 8 = [2, 3, 5, 6, 11, 12, 13, 14, 15, 16, 17, 18, 19, 20, 21, 22, 23, 24, 25, 26, 27, 28, 29, 30, 31, 32, 33, 34, 35, 36, 37, 38, 39, 40, 41, 42, 43, 44, 45, 46, 47, 48, 49, 50, 51, 52, 53, 54, 55, 56, 57, 58, 59, 60, 61, 62, 63, 64, 65, 66, 67, 68, 69, 70, 71, 72, 73, 74, 75, 76, 77, 78, 79, 80, 81, 82, 83] := rfl
theorem grow27_8 : notes.grow 27 8 = [] := rfl
/-- f27, loop at region 8: lives 0:b 1:at 4: 7:t 8:c 9:s 10:i -/
def L27_8 (s0 s1 s4 s7 s8 s9 s10 : Slot) : List Slot := [s0, s1, .v .undef, .v .undef, s4, .v .undef, .v .undef, s7, s8, s9, s10, .v .undef, .v .undef, .v .undef, .v .undef, .v .undef, .v .undef, .v .undef, .v .undef, .v .undef, .v .undef, .v .undef, .v .undef, .v .undef, .v .undef, .v .undef, .v .undef, .v .undef, .v .undef, .v .undef, .v .undef, .v .undef, .v .undef, .v .undef, .v .undef, .v .undef, .v .undef, .v .undef, .v .undef, .v .undef, .v .undef, .v .undef, .v .undef, .v .undef, .v .undef, .v .undef, .v .undef, .v .undef, .v .undef, .v .undef, .v .undef, .v .undef, .v .undef, .v .undef, .v .undef, .v .undef, .v .undef, .v .undef, .v .undef, .v .undef, .v .undef, .v .undef, .v .undef, .v .undef, .v .undef, .v .undef, .v .undef, .v .undef, .v .undef, .v .undef, .v .undef, .v .undef, .v .undef, .v .undef, .v .undef, .v .undef, .v .undef, .v .undef, .v .undef, .v .undef, .v .undef, .v .undef, .v .undef, .v .undef]
theorem mode27_4 : notes.mode 27 4 = .priv := rfl
theorem mode27_7 : notes.mode 27 7 = .priv := rfl
theorem mode27_51 : notes.mode 27 51 = .priv := rfl
theorem mode27_72 : notes.mode 27 72 = .priv := rfl
theorem f27 : Tryd.prog.funcs[27]? = some Tryd.f27 := by kernel_rfl
theorem r27 : Tryd.f27.results.toList = [.cell 4 36, .tmp 5, .tmp 6] := rfl
theorem n27 : Tryd.f27.ntmps = 84 := rfl
theorem b27 : Tryd.f27.body = some (bodyOf Tryd.f27) := rfl
theorem f28 : Tryd.prog.funcs[28]? = some Tryd.f28 := by kernel_rfl
theorem r28 : Tryd.f28.results.toList = [.tmp 2] := rfl
theorem n28 : Tryd.f28.ntmps = 21 := rfl
theorem b28 : Tryd.f28.body = some (bodyOf Tryd.f28) := rfl
theorem f29 : Tryd.prog.funcs[29]? = some Tryd.f29 := by kernel_rfl
theorem r29 : Tryd.f29.results.toList = [.tmp 2] := rfl
theorem n29 : Tryd.f29.ntmps = 9 := rfl
theorem b29 : Tryd.f29.body = some (bodyOf Tryd.f29) := rfl
theorem f30 : Tryd.prog.funcs[30]? = some Tryd.f30 := by kernel_rfl
theorem r30 : Tryd.f30.results.toList = [.tmp 2] := rfl
theorem n30 : Tryd.f30.ntmps = 5 := rfl
theorem b30 : Tryd.f30.body = some (bodyOf Tryd.f30) := rfl
theorem mode31_2 : notes.mode 31 2 = .priv := rfl
theorem mode31_3 : notes.mode 31 3 = .priv := rfl
theorem mode31_10 : notes.mode 31 10 = .priv := rfl
theorem mode31_14 : notes.mode 31 14 = .priv := rfl
theorem f31 : Tryd.prog.funcs[31]? = some Tryd.f31 := by kernel_rfl
theorem r31 : Tryd.f31.results.toList = [.cell 2 36] := rfl
theorem n31 : Tryd.f31.ntmps = 17 := rfl
theorem b31 : Tryd.f31.body = some (bodyOf Tryd.f31) := rfl
theorem kill32_10 : notes.kill 32 10 = [1, 3, 7, 8, 9, 10, 11, 12, 13, 14, 15, 16, 17, 18, 19, 20, 21, 22, 23, 24, 25, 26, 27, 28, 29, 30, 31, 32, 33, 34, 35, 36, 37, 38, 39, 40, 41, 42, 43, 44, 45, 46, 47, 48, 49, 50, 51, 52, 53, 54, 55, 56, 57, 58, 61, 62, 63, 64, 65, 66, 67, 68, 69, 70, 71, 72, 73, 74, 75, 76, 77, 78, 79, 80, 81, 82, 83, 84, 85, 86] := rfl
theorem grow32_10 : notes.grow 32 10 = [] := rfl
/-- f32, loop at region 10: lives 0:c 2: 4:t 5:from 6:s 59: 60: -/
def L32_10 (s0 s2 s4 s5 s6 s59 s60 : Slot) : List Slot := [s0, .v .undef, s2, .v .undef, s4, s5, s6, .v .undef, .v .undef, .v .undef, .v .undef, .v .undef, .v .undef, .v .undef, .v .undef, .v .undef, .v .undef, .v .undef, .v .undef, .v .undef, .v .undef, .v .undef, .v .undef, .v .undef, .v .undef, .v .undef, .v .undef, .v .undef, .v .undef, .v .undef, .v .undef, .v .undef, .v .undef, .v .undef, .v .undef, .v .undef, .v .undef, .v .undef, .v .undef, .v .undef, .v .undef, .v .undef, .v .undef, .v .undef, .v .undef, .v .undef, .v .undef, .v .undef, .v .undef, .v .undef, .v .undef, .v .undef, .v .undef, .v .undef, .v .undef, .v .undef, .v .undef, .v .undef, .v .undef, s59, s60, .v .undef, .v .undef, .v .undef, .v .undef, .v .undef, .v .undef, .v .undef, .v .undef, .v .undef, .v .undef, .v .undef, .v .undef, .v .undef, .v .undef, .v .undef, .v .undef, .v .undef, .v .undef, .v .undef, .v .undef, .v .undef, .v .undef, .v .undef, .v .undef, .v .undef, .v .undef]
theorem mode32_2 : notes.mode 32 2 = .priv := rfl
theorem mode32_4 : notes.mode 32 4 = .priv := rfl
theorem mode32_19 : notes.mode 32 19 = .priv := rfl
theorem mode32_55 : notes.mode 32 55 = .priv := rfl
theorem mode32_67 : notes.mode 32 67 = .priv := rfl
theorem f32 : Tryd.prog.funcs[32]? = some Tryd.f32 := by kernel_rfl
theorem r32 : Tryd.f32.results.toList = [.cell 2 36, .tmp 3] := rfl
theorem n32 : Tryd.f32.ntmps = 87 := rfl
theorem b32 : Tryd.f32.body = some (bodyOf Tryd.f32) := rfl
def alts32_7 : List (Nat × Nat × Nat) := []
theorem kill33_4 : notes.kill 33 4 = [1, 3, 6, 7, 8, 9, 10, 11, 12, 13, 14, 15, 16, 17, 18, 19, 20, 21, 22, 23, 24, 25, 26, 27, 28, 29, 30, 31, 32, 33, 34, 35, 36, 37, 38, 39, 40, 41, 42, 43, 44, 45, 46, 47, 48, 49, 50, 51, 52, 53, 54, 55, 56, 57, 58, 59, 60, 61, 62, 63, 64, 65, 66, 67, 68, 69, 70, 71, 72, 73, 74, 75, 76, 77, 78, 79, 80, 81, 82, 83, 84, 85, 86, 87, 88] := rfl
theorem grow33_4 : notes.grow 33 4 = [(5, none)] := rfl
/-- f33, loop at region 4: lives 0:c 2: 4:t 5:out -/
def L33_4 (s0 s2 s4 s5 : Slot) : List Slot := [s0, .v .undef, s2, .v .undef, s4, s5, .v .undef, .v .undef, .v .undef, .v .undef, .v .undef, .v .undef, .v .undef, .v .undef, .v .undef, .v .undef, .v .undef, .v .undef, .v .undef, .v .undef, .v .undef, .v .undef, .v .undef, .v .undef, .v .undef, .v .undef, .v .undef, .v .undef, .v .undef, .v .undef, .v .undef, .v .undef, .v .undef, .v .undef, .v .undef, .v .undef, .v .undef, .v .undef, .v .undef, .v .undef, .v .undef, .v .undef, .v .undef, .v .undef, .v .undef, .v .undef, .v .undef, .v .undef, .v .undef, .v .undef, .v .undef, .v .undef, .v .undef, .v .undef, .v .undef, .v .undef, .v .undef, .v .undef, .v .undef, .v .undef, .v .undef, .v .undef, .v .undef, .v .undef, .v .undef, .v .undef, .v .undef, .v .undef, .v .undef, .v .undef, .v .undef, .v .undef, .v .undef, .v .undef, .v .undef, .v .undef, .v .undef, .v .undef, .v .undef, .v .undef, .v .undef, .v .undef, .v .undef, .v .undef, .v .undef, .v .undef, .v .undef, .v .undef, .v .undef]
theorem mode33_2 : notes.mode 33 2 = .priv := rfl
theorem mode33_4 : notes.mode 33 4 = .priv := rfl
theorem mode33_65 : notes.mode 33 65 = .priv := rfl
theorem mode33_79 : notes.mode 33 79 = .priv := rfl
theorem mode33_80 : notes.mode 33 80 = .priv := rfl
theorem mode33_81 : notes.mode 33 81 = .priv := rfl
theorem mode33_86 : notes.mode 33 86 = .priv := rfl
theorem mode33_87 : notes.mode 33 87 = .priv := rfl
theorem mode33_44 : notes.mode 33 44 = .priv := rfl
theorem mode33_45 : notes.mode 33 45 = .priv := rfl
theorem f33 : Tryd.prog.funcs[33]? = some Tryd.f33 := by kernel_rfl
theorem r33 : Tryd.f33.results.toList = [.cell 2 36, .tmp 3] := rfl
theorem n33 : Tryd.f33.ntmps = 89 := rfl
theorem b33 : Tryd.f33.body = some (bodyOf Tryd.f33) := rfl
def alts33_4 : List (Nat × Nat × Nat) := []
def alts33_5 : List (Nat × Nat × Nat) := []
theorem kill34_4 : notes.kill 34 4 = [1, 3, 6, 7, 8, 9, 10, 11, 12, 13, 14, 15, 16, 17, 18, 19, 20, 21, 22, 23, 24, 25, 26, 27, 28, 29, 30, 31, 32, 33, 36, 37, 38, 39, 40, 41, 42, 43, 44, 45, 46, 47, 48, 49, 50, 51, 52, 53, 54, 55, 56, 57, 58, 59, 60, 61, 62, 63, 64] := rfl
theorem grow34_4 : notes.grow 34 4 = [] := rfl
/-- f34, loop at region 4: lives 0:c 2: 4:t 5:rest 34: 35: -/
def L34_4 (s0 s2 s4 s5 s34 s35 : Slot) : List Slot := [s0, .v .undef, s2, .v .undef, s4, s5, .v .undef, .v .undef, .v .undef, .v .undef, .v .undef, .v .undef, .v .undef, .v .undef, .v .undef, .v .undef, .v .undef, .v .undef, .v .undef, .v .undef, .v .undef, .v .undef, .v .undef, .v .undef, .v .undef, .v .undef, .v .undef, .v .undef, .v .undef, .v .undef, .v .undef, .v .undef, .v .undef, .v .undef, s34, s35, .v .undef, .v .undef, .v .undef, .v .undef, .v .undef, .v .undef, .v .undef, .v .undef, .v .undef, .v .undef, .v .undef, .v .undef, .v .undef, .v .undef, .v .undef, .v .undef, .v .undef, .v .undef, .v .undef, .v .undef, .v .undef, .v .undef, .v .undef, .v .undef, .v .undef, .v .undef, .v .undef, .v .undef, .v .undef]
theorem mode34_2 : notes.mode 34 2 = .priv := rfl
theorem mode34_4 : notes.mode 34 4 = .priv := rfl
theorem mode34_33 : notes.mode 34 33 = .priv := rfl
theorem mode34_40 : notes.mode 34 40 = .priv := rfl
theorem f34 : Tryd.prog.funcs[34]? = some Tryd.f34 := by kernel_rfl
theorem r34 : Tryd.f34.results.toList = [.cell 2 36, .tmp 3] := rfl
theorem n34 : Tryd.f34.ntmps = 65 := rfl
theorem b34 : Tryd.f34.body = some (bodyOf Tryd.f34) := rfl
def alts34_2 : List (Nat × Nat × Nat) := []
theorem kill35_3 : notes.kill 35 3 = [1, 2, 5, 6, 7, 8, 9, 10, 11, 12, 13, 14, 15, 16, 17, 18, 19, 20] := rfl
theorem grow35_3 : notes.grow 35 3 = [] := rfl
/-- f35, loop at region 3: lives 0:c 3:s 4:i -/
def L35_3 (s0 s3 s4 : Slot) : List Slot := [s0, .v .undef, .v .undef, s3, s4, .v .undef, .v .undef, .v .undef, .v .undef, .v .undef, .v .undef, .v .undef, .v .undef, .v .undef, .v .undef, .v .undef, .v .undef, .v .undef, .v .undef, .v .undef, .v .undef]
theorem f35 : Tryd.prog.funcs[35]? = some Tryd.f35 := by kernel_rfl
theorem r35 : Tryd.f35.results.toList = [.tmp 2] := rfl
theorem n35 : Tryd.f35.ntmps = 21 := rfl
theorem b35 : Tryd.f35.body = some (bodyOf Tryd.f35) := rfl
theorem kill36_2 : notes.kill 36 2 = [2, 3, 4, 6, 7, 8, 9, 10, 11, 12, 13, 14, 15, 16, 17, 18, 19, 20, 21, 22, 23, 24, 25, 26, 27, 28, 29, 30, 31, 32, 33, 34, 35, 36, 37, 38, 39, 40, 41, 42, 43, 44, 45, 46, 47, 48, 49, 50, 51] := rfl
theorem grow36_2 : notes.grow 36 2 = [] := rfl
/-- f36, loop at region 2: lives 0:c 1:such 5:from -/
def L36_2 (s0 s1 s5 : Slot) : List Slot := [s0, s1, .v .undef, .v .undef, .v .undef, s5, .v .undef, .v .undef, .v .undef, .v .undef, .v .undef, .v .undef, .v .undef, .v .undef, .v .undef, .v .undef, .v .undef, .v .undef, .v .undef, .v .undef, .v .undef, .v .undef, .v .undef, .v .undef, .v .undef, .v .undef, .v .undef, .v .undef, .v .undef, .v .undef, .v .undef, .v .undef, .v .undef, .v .undef, .v .undef, .v .undef, .v .undef, .v .undef, .v .undef, .v .undef, .v .undef, .v .undef, .v .undef, .v .undef, .v .undef, .v .undef, .v .undef, .v .undef, .v .undef, .v .undef, .v .undef, .v .undef]
theorem mode36_32 : notes.mode 36 32 = .priv := rfl
theorem mode36_51 : notes.mode 36 51 = .priv := rfl
theorem f36 : Tryd.prog.funcs[36]? = some Tryd.f36 := by kernel_rfl
theorem r36 : Tryd.f36.results.toList = [.tmp 4] := rfl
theorem n36 : Tryd.f36.ntmps = 52 := rfl
theorem b36 : Tryd.f36.body = some (bodyOf Tryd.f36) := rfl
def alts36_2 : List (Nat × Nat × Nat) := []
def alts36_4 : List (Nat × Nat × Nat) := []
theorem mode37_4 : notes.mode 37 4 = .priv := rfl
theorem mode37_7 : notes.mode 37 7 = .priv := rfl
theorem f37 : Tryd.prog.funcs[37]? = some Tryd.f37 := by kernel_rfl
theorem r37 : Tryd.f37.results.toList = [.tmp 2] := rfl
theorem n37 : Tryd.f37.ntmps = 9 := rfl
theorem b37 : Tryd.f37.body = some (bodyOf Tryd.f37) := rfl
theorem kill38_15 : notes.kill 38 15 = [1, 2, 3, 4, 6, 7, 8, 9, 10, 11, 12, 13, 14, 15, 16, 17, 18, 19, 20, 21, 22, 23, 24, 25, 26, 27, 28, 29, 30, 31, 32, 33, 34, 35, 37, 38, 39, 40, 41, 42, 43, 44, 45, 46, 47, 48, 49, 50, 51, 52, 53, 54, 55, 56, 57, 58, 59, 60, 61, 62, 63, 64, 65, 66, 67, 68, 69, 70, 71, 72, 73, 74, 75, 76, 77, 78, 79, 80, 81, 82, 83, 84, 85, 86, 87, 88, 89, 90, 91, 92, 93] := rfl
theorem grow38_15 : notes.grow 38 15 = [] := rfl
/-- f38, loop at region 15: lives 0:c 5:n 36: -/
def L38_15 (s0 s5 s36 : Slot) : List Slot := [s0, .v .undef, .v .undef, .v .undef, .v .undef, s5, .v .undef, .v .undef, .v .undef, .v .undef, .v .undef, .v .undef, .v .undef, .v .undef, .v .undef, .v .undef, .v .undef, .v .undef, .v .undef, .v .undef, .v .undef, .v .undef, .v .undef, .v .undef, .v .undef, .v .undef, .v .undef, .v .undef, .v .undef, .v .undef, .v .undef, .v .undef, .v .undef, .v .undef, .v .undef, .v .undef, s36, .v .undef, .v .undef, .v .undef, .v .undef, .v .undef, .v .undef, .v .undef, .v .undef, .v .undef, .v .undef, .v .undef, .v .undef, .v .undef, .v .undef, .v .undef, .v .undef, .v .undef, .v .undef, .v .undef, .v .undef, .v .undef, .v .undef, .v .undef, .v .undef, .v .undef, .v .undef, .v .undef, .v .undef, .v .undef, .v .undef, .v .undef, .v .undef, .v .undef, .v .undef, .v .undef, .v .undef, .v .undef, .v .undef, .v .undef, .v .undef, .v .undef, .v .undef, .v .undef, .v .undef, .v .undef, .v .undef, .v .undef, .v .undef, .v .undef, .v .undef, .v .undef, .v .undef, .v .undef, .v .undef, .v .undef, .v .undef, .v .undef]
theorem mode38_66 : notes.mode 38 66 = .priv := rfl
theorem mode38_81 : notes.mode 38 81 = .priv := rfl
theorem mode38_85 : notes.mode 38 85 = .priv := rfl
theorem f38 : Tryd.prog.funcs[38]? = some Tryd.f38 := by kernel_rfl
theorem r38 : Tryd.f38.results.toList = [.tmp 2, .tmp 3] := rfl
theorem n38 : Tryd.f38.ntmps = 94 := rfl
theorem b38 : Tryd.f38.body = some (bodyOf Tryd.f38) := rfl
def alts38_1 : List (Nat × Nat × Nat) := []
def alts38_3 : List (Nat × Nat × Nat) := []
def alts38_17 : List (Nat × Nat × Nat) := []
def alts38_19 : List (Nat × Nat × Nat) := [(1, 0, 1)]
theorem mode39_7 : notes.mode 39 7 = .priv := rfl
theorem f39 : Tryd.prog.funcs[39]? = some Tryd.f39 := by kernel_rfl
theorem r39 : Tryd.f39.results.toList = [.tmp 4] := rfl
theorem n39 : Tryd.f39.ntmps = 8 := rfl
theorem b39 : Tryd.f39.body = some (bodyOf Tryd.f39) := rfl
theorem mode40_5 : notes.mode 40 5 = .priv := rfl
theorem mode40_8 : notes.mode 40 8 = .priv := rfl
theorem mode40_18 : notes.mode 40 18 = .priv := rfl
theorem mode40_29 : notes.mode 40 29 = .priv := rfl
theorem f40 : Tryd.prog.funcs[40]? = some Tryd.f40 := by kernel_rfl
theorem r40 : Tryd.f40.results.toList = [.tmp 2] := rfl
theorem n40 : Tryd.f40.ntmps = 31 := rfl
theorem b40 : Tryd.f40.body = some (bodyOf Tryd.f40) := rfl
theorem f41 : Tryd.prog.funcs[41]? = some Tryd.f41 := by kernel_rfl
theorem r41 : Tryd.f41.results.toList = [.tmp 4] := rfl
theorem n41 : Tryd.f41.ntmps = 18 := rfl
theorem b41 : Tryd.f41.body = some (bodyOf Tryd.f41) := rfl
theorem F3 : type_of% @call10 ∧ type_of% @call11 ∧ type_of% @call12 ∧ type_of% @call13 ∧ type_of% @call9 ∧ type_of% @ix22 ∧ type_of% @size5 ∧ type_of% @zero5 ∧ type_of% @room5 ∧ type_of% @bytes5 ∧ type_of% @tk22 ∧ type_of% @tk3 ∧ type_of% @tk9 ∧ type_of% @tk5 ∧ type_of% @mode3_13 ∧ type_of% @mode3_14 ∧ type_of% @mode3_16 ∧ type_of% @mode3_19 ∧ type_of% @mode3_20 ∧ type_of% @mode3_21 ∧ type_of% @mode3_22 ∧ type_of% @mode3_25 ∧ type_of% @mode3_26 ∧ type_of% @mode3_27 ∧ type_of% @mode3_28 ∧ type_of% @mode3_31 ∧ type_of% @mode3_34 ∧ type_of% @mode3_45 ∧ type_of% @mode3_47 ∧ type_of% @mode3_51 := ⟨@call10, @call11, @call12, @call13, @call9, @ix22, @size5, @zero5, @room5, @bytes5, @tk22, @tk3, @tk9, @tk5, @mode3_13, @mode3_14, @mode3_16, @mode3_19, @mode3_20, @mode3_21, @mode3_22, @mode3_25, @mode3_26, @mode3_27, @mode3_28, @mode3_31, @mode3_34, @mode3_45, @mode3_47, @mode3_51⟩
theorem F4 : type_of% @call14 ∧ type_of% @call15 ∧ type_of% @call16 ∧ type_of% @call17 ∧ type_of% @call9 ∧ type_of% @tk3 ∧ type_of% @tk4 ∧ type_of% @tk9 ∧ type_of% @mode4_6 ∧ type_of% @mode4_8 ∧ type_of% @mode4_10 ∧ type_of% @mode4_14 ∧ type_of% @mode4_16 ∧ type_of% @mode4_20 := ⟨@call14, @call15, @call16, @call17, @call9, @tk3, @tk4, @tk9, @mode4_6, @mode4_8, @mode4_10, @mode4_14, @mode4_16, @mode4_20⟩
theorem F5 : type_of% @agg5 ∧ type_of% @call10 ∧ type_of% @call13 ∧ type_of% @call9 ∧ type_of% @ix22 ∧ type_of% @size5 ∧ type_of% @zero5 ∧ type_of% @room5 ∧ type_of% @bytes5 ∧ type_of% @tk24 ∧ type_of% @tk3 ∧ type_of% @kill5_5 ∧ type_of% @grow5_5 ∧ type_of% @mode5_31 ∧ type_of% @mode5_49 ∧ type_of% @mode5_50 ∧ type_of% @mode5_51 ∧ type_of% @mode5_52 ∧ type_of% @mode5_59 ∧ type_of% @mode5_71 ∧ type_of% @mode5_80 ∧ type_of% @mode5_92 ∧ type_of% @mode5_95 ∧ type_of% @mode5_122 := ⟨@agg5, @call10, @call13, @call9, @ix22, @size5, @zero5, @room5, @bytes5, @tk24, @tk3, @kill5_5, @grow5_5, @mode5_31, @mode5_49, @mode5_50, @mode5_51, @mode5_52, @mode5_59, @mode5_71, @mode5_80, @mode5_92, @mode5_95, @mode5_122⟩
theorem F6 : type_of% @agg3 ∧ type_of% @agg36 ∧ type_of% @call10 ∧ type_of% @call12 ∧ type_of% @call13 ∧ type_of% @call9 ∧ type_of% @field36_3 ∧ type_of% @ix22 ∧ type_of% @size5 ∧ type_of% @zero5 ∧ type_of% @room5 ∧ type_of% @bytes5 ∧ type_of% @ix24 ∧ type_of% @size36 ∧ type_of% @zero36 ∧ type_of% @room36 ∧ type_of% @bytes36 ∧ type_of% @size3 ∧ type_of% @tk22 ∧ type_of% @tk24 ∧ type_of% @tk3 ∧ type_of% @kill6_14 ∧ type_of% @grow6_14 ∧ type_of% @mode6_26 ∧ type_of% @mode6_27 ∧ type_of% @mode6_29 ∧ type_of% @mode6_30 ∧ type_of% @mode6_31 ∧ type_of% @mode6_34 ∧ type_of% @mode6_35 ∧ type_of% @mode6_36 ∧ type_of% @mode6_37 ∧ type_of% @mode6_40 ∧ type_of% @mode6_41 ∧ type_of% @mode6_42 ∧ type_of% @mode6_43 ∧ type_of% @mode6_45 ∧ type_of% @mode6_47 ∧ type_of% @mode6_49 ∧ type_of% @mode6_50 ∧ type_of% @mode6_51 ∧ type_of% @mode6_52 ∧ type_of% @mode6_53 ∧ type_of% @mode6_55 ∧ type_of% @mode6_63 ∧ type_of% @mode6_71 ∧ type_of% @mode6_74 ∧ type_of% @mode6_77 ∧ type_of% @mode6_79 ∧ type_of% @mode6_95 ∧ type_of% @mode6_103 ∧ type_of% @mode6_17 ∧ type_of% @mode6_122 ∧ type_of% @mode6_123 ∧ type_of% @mode6_125 ∧ type_of% @mode6_130 ∧ type_of% @mode6_133 := ⟨@agg3, @agg36, @call10, @call12, @call13, @call9, @field36_3, @ix22, @size5, @zero5, @room5, @bytes5, @ix24, @size36, @zero36, @room36, @bytes36, @size3, @tk22, @tk24, @tk3, @kill6_14, @grow6_14, @mode6_26, @mode6_27, @mode6_29, @mode6_30, @mode6_31, @mode6_34, @mode6_35, @mode6_36, @mode6_37, @mode6_40, @mode6_41, @mode6_42, @mode6_43, @mode6_45, @mode6_47, @mode6_49, @mode6_50, @mode6_51, @mode6_52, @mode6_53, @mode6_55, @mode6_63, @mode6_71, @mode6_74, @mode6_77, @mode6_79, @mode6_95, @mode6_103, @mode6_17, @mode6_122, @mode6_123, @mode6_125, @mode6_130, @mode6_133⟩
theorem F7 : type_of% @agg3 ∧ type_of% @agg9 ∧ type_of% @call10 ∧ type_of% @call13 ∧ type_of% @call18 ∧ type_of% @call9 ∧ type_of% @field36_0 ∧ type_of% @field36_1 ∧ type_of% @field36_3 ∧ type_of% @ix24 ∧ type_of% @size36 ∧ type_of% @zero36 ∧ type_of% @room36 ∧ type_of% @bytes36 ∧ type_of% @size3 ∧ type_of% @size9 ∧ type_of% @tk22 ∧ type_of% @tk24 ∧ type_of% @tk3 ∧ type_of% @tk9 ∧ type_of% @tk5 ∧ type_of% @mode7_10 ∧ type_of% @mode7_12 ∧ type_of% @mode7_15 ∧ type_of% @mode7_16 ∧ type_of% @mode7_17 ∧ type_of% @mode7_18 ∧ type_of% @mode7_20 ∧ type_of% @mode7_46 ∧ type_of% @mode7_57 := ⟨@agg3, @agg9, @call10, @call13, @call18, @call9, @field36_0, @field36_1, @field36_3, @ix24, @size36, @zero36, @room36, @bytes36, @size3, @size9, @tk22, @tk24, @tk3, @tk9, @tk5, @mode7_10, @mode7_12, @mode7_15, @mode7_16, @mode7_17, @mode7_18, @mode7_20, @mode7_46, @mode7_57⟩
theorem F8 : type_of% @agg3 ∧ type_of% @call10 ∧ type_of% @call13 ∧ type_of% @call19 ∧ type_of% @call9 ∧ type_of% @field36_0 ∧ type_of% @field36_2 ∧ type_of% @ix24 ∧ type_of% @size36 ∧ type_of% @zero36 ∧ type_of% @room36 ∧ type_of% @bytes36 ∧ type_of% @size3 ∧ type_of% @tk22 ∧ type_of% @tk24 ∧ type_of% @tk3 ∧ type_of% @tk9 ∧ type_of% @tk5 ∧ type_of% @mode8_9 ∧ type_of% @mode8_11 ∧ type_of% @mode8_12 ∧ type_of% @mode8_15 ∧ type_of% @mode8_16 ∧ type_of% @mode8_17 ∧ type_of% @mode8_18 ∧ type_of% @mode8_22 ∧ type_of% @mode8_34 ∧ type_of% @mode8_37 ∧ type_of% @mode8_66 := ⟨@agg3, @call10, @call13, @call19, @call9, @field36_0, @field36_2, @ix24, @size36, @zero36, @room36, @bytes36, @size3, @tk22, @tk24, @tk3, @tk9, @tk5, @mode8_9, @mode8_11, @mode8_12, @mode8_15, @mode8_16, @mode8_17, @mode8_18, @mode8_22, @mode8_34, @mode8_37, @mode8_66⟩
theorem F9 : type_of% @agg3 ∧ type_of% @agg9 ∧ type_of% @call10 ∧ type_of% @call13 ∧ type_of% @call14 ∧ type_of% @call16 ∧ type_of% @field36_1 ∧ type_of% @field36_3 ∧ type_of% @ix22 ∧ type_of% @size5 ∧ type_of% @zero5 ∧ type_of% @room5 ∧ type_of% @bytes5 ∧ type_of% @ix24 ∧ type_of% @size36 ∧ type_of% @zero36 ∧ type_of% @room36 ∧ type_of% @bytes36 ∧ type_of% @size3 ∧ type_of% @size9 ∧ type_of% @tk22 ∧ type_of% @tk24 ∧ type_of% @tk3 ∧ type_of% @tk9 ∧ type_of% @tk5 ∧ type_of% @mode9_11 ∧ type_of% @mode9_12 ∧ type_of% @mode9_13 ∧ type_of% @mode9_14 ∧ type_of% @mode9_15 ∧ type_of% @mode9_16 ∧ type_of% @mode9_18 ∧ type_of% @mode9_19 ∧ type_of% @mode9_20 ∧ type_of% @mode9_21 ∧ type_of% @mode9_22 ∧ type_of% @mode9_23 ∧ type_of% @mode9_25 ∧ type_of% @mode9_26 ∧ type_of% @mode9_27 ∧ type_of% @mode9_28 ∧ type_of% @mode9_29 ∧ type_of% @mode9_30 ∧ type_of% @mode9_32 ∧ type_of% @mode9_34 ∧ type_of% @mode9_62 ∧ type_of% @mode9_77 ∧ type_of% @mode9_80 := ⟨@agg3, @agg9, @call10, @call13, @call14, @call16, @field36_1, @field36_3, @ix22, @size5, @zero5, @room5, @bytes5, @ix24, @size36, @zero36, @room36, @bytes36, @size3, @size9, @tk22, @tk24, @tk3, @tk9, @tk5, @mode9_11, @mode9_12, @mode9_13, @mode9_14, @mode9_15, @mode9_16, @mode9_18, @mode9_19, @mode9_20, @mode9_21, @mode9_22, @mode9_23, @mode9_25, @mode9_26, @mode9_27, @mode9_28, @mode9_29, @mode9_30, @mode9_32, @mode9_34, @mode9_62, @mode9_77, @mode9_80⟩
theorem F10 : type_of% @agg3 ∧ type_of% @agg36 ∧ type_of% @call20 ∧ type_of% @call21 ∧ type_of% @field43_1 ∧ type_of% @ix24 ∧ type_of% @size36 ∧ type_of% @zero36 ∧ type_of% @room36 ∧ type_of% @bytes36 ∧ type_of% @lay36 ∧ type_of% @lay43 ∧ type_of% @size3 ∧ type_of% @size43 ∧ type_of% @tk22 ∧ type_of% @tk24 ∧ type_of% @tk25 ∧ type_of% @tk3 ∧ type_of% @kill10_4 ∧ type_of% @grow10_4 ∧ type_of% @mode10_13 ∧ type_of% @mode10_15 ∧ type_of% @mode10_27 ∧ type_of% @mode10_28 ∧ type_of% @mode10_40 ∧ type_of% @mode10_41 ∧ type_of% @mode10_42 ∧ type_of% @mode10_6 ∧ type_of% @mode10_52 ∧ type_of% @mode10_53 := ⟨@agg3, @agg36, @call20, @call21, @field43_1, @ix24, @size36, @zero36, @room36, @bytes36, @lay36, @lay43, @size3, @size43, @tk22, @tk24, @tk25, @tk3, @kill10_4, @grow10_4, @mode10_13, @mode10_15, @mode10_27, @mode10_28, @mode10_40, @mode10_41, @mode10_42, @mode10_6, @mode10_52, @mode10_53⟩
theorem F11 : type_of% @agg3 ∧ type_of% @agg36 ∧ type_of% @agg5 ∧ type_of% @agg9 ∧ type_of% @call15 ∧ type_of% @call22 ∧ type_of% @call23 ∧ type_of% @call24 ∧ type_of% @call25 ∧ type_of% @call26 ∧ type_of% @call27 ∧ type_of% @field36_0 ∧ type_of% @field36_1 ∧ type_of% @ix22 ∧ type_of% @size5 ∧ type_of% @zero5 ∧ type_of% @room5 ∧ type_of% @bytes5 ∧ type_of% @ix24 ∧ type_of% @size36 ∧ type_of% @zero36 ∧ type_of% @room36 ∧ type_of% @bytes36 ∧ type_of% @lay36 ∧ type_of% @size3 ∧ type_of% @size9 ∧ type_of% @tk22 ∧ type_of% @tk24 ∧ type_of% @tk3 ∧ type_of% @tk5 ∧ type_of% @tk9 ∧ type_of% @kill11_12 ∧ type_of% @grow11_12 ∧ type_of% @kill11_5 ∧ type_of% @grow11_5 ∧ type_of% @mode11_14 ∧ type_of% @mode11_7 ∧ type_of% @mode11_36 ∧ type_of% @mode11_46 ∧ type_of% @mode11_52 ∧ type_of% @mode11_61 ∧ type_of% @mode11_66 ∧ type_of% @mode11_73 ∧ type_of% @mode11_77 ∧ type_of% @mode11_78 ∧ type_of% @mode11_79 ∧ type_of% @mode11_80 ∧ type_of% @mode11_90 ∧ type_of% @mode11_91 ∧ type_of% @mode11_92 ∧ type_of% @mode11_93 ∧ type_of% @mode11_27 ∧ type_of% @mode11_28 ∧ type_of% @mode11_29 ∧ type_of% @mode11_30 ∧ type_of% @mode11_100 ∧ type_of% @mode11_101 ∧ type_of% @mode11_104 ∧ type_of% @mode11_109 ∧ type_of% @mode11_110 := ⟨@agg3, @agg36, @agg5, @agg9, @call15, @call22, @call23, @call24, @call25, @call26, @call27, @field36_0, @field36_1, @ix22, @size5, @zero5, @room5, @bytes5, @ix24, @size36, @zero36, @room36, @bytes36, @lay36, @size3, @size9, @tk22, @tk24, @tk3, @tk5, @tk9, @kill11_12, @grow11_12, @kill11_5, @grow11_5, @mode11_14, @mode11_7, @mode11_36, @mode11_46, @mode11_52, @mode11_61, @mode11_66, @mode11_73, @mode11_77, @mode11_78, @mode11_79, @mode11_80, @mode11_90, @mode11_91, @mode11_92, @mode11_93, @mode11_27, @mode11_28, @mode11_29, @mode11_30, @mode11_100, @mode11_101, @mode11_104, @mode11_109, @mode11_110⟩
theorem F12 : type_of% @agg3 ∧ type_of% @agg9 ∧ type_of% @field36_0 ∧ type_of% @field36_1 ∧ type_of% @field36_2 ∧ type_of% @field36_3 ∧ type_of% @ix24 ∧ type_of% @size36 ∧ type_of% @zero36 ∧ type_of% @room36 ∧ type_of% @bytes36 ∧ type_of% @size3 ∧ type_of% @size9 ∧ type_of% @tk24 ∧ type_of% @tk3 ∧ type_of% @tk9 ∧ type_of% @kill12_4 ∧ type_of% @grow12_4 := ⟨@agg3, @agg9, @field36_0, @field36_1, @field36_2, @field36_3, @ix24, @size36, @zero36, @room36, @bytes36, @size3, @size9, @tk24, @tk3, @tk9, @kill12_4, @grow12_4⟩
theorem F14 : type_of% @tk9 := @tk9
theorem F15 : type_of% @agg50 ∧ type_of% @agg9 ∧ type_of% @ix50 ∧ type_of% @size9 ∧ type_of% @lay50 ∧ type_of% @size50 ∧ type_of% @tk3 ∧ type_of% @tk9 ∧ type_of% @zero50 ∧ type_of% @kill15_3 ∧ type_of% @grow15_3 ∧ type_of% @mode15_3 := ⟨@agg50, @agg9, @ix50, @size9, @lay50, @size50, @tk3, @tk9, @zero50, @kill15_3, @grow15_3, @mode15_3⟩
theorem F16 : type_of% @call14 ∧ type_of% @call28 ∧ type_of% @call29 ∧ type_of% @ix9 ∧ type_of% @tk3 ∧ type_of% @tk9 ∧ type_of% @kill16_2 ∧ type_of% @grow16_2 ∧ type_of% @mode16_12 ∧ type_of% @mode16_21 ∧ type_of% @mode16_30 := ⟨@call14, @call28, @call29, @ix9, @tk3, @tk9, @kill16_2, @grow16_2, @mode16_12, @mode16_21, @mode16_30⟩
theorem F17 : type_of% @call15 ∧ type_of% @call23 ∧ type_of% @call24 ∧ type_of% @ix9 ∧ type_of% @tk3 ∧ type_of% @tk9 ∧ type_of% @kill17_4 ∧ type_of% @grow17_4 ∧ type_of% @mode17_10 ∧ type_of% @mode17_14 ∧ type_of% @mode17_25 ∧ type_of% @mode17_31 := ⟨@call15, @call23, @call24, @ix9, @tk3, @tk9, @kill17_4, @grow17_4, @mode17_10, @mode17_14, @mode17_25, @mode17_31⟩
theorem F18 : type_of% @agg5 ∧ type_of% @call30 ∧ type_of% @ix22 ∧ type_of% @size5 ∧ type_of% @zero5 ∧ type_of% @room5 ∧ type_of% @bytes5 ∧ type_of% @tk22 ∧ type_of% @tk3 ∧ type_of% @tk5 ∧ type_of% @kill18_3 ∧ type_of% @grow18_3 ∧ type_of% @mode18_6 ∧ type_of% @mode18_25 ∧ type_of% @mode18_26 ∧ type_of% @mode18_31 ∧ type_of% @mode18_32 ∧ type_of% @mode18_42 ∧ type_of% @mode18_43 ∧ type_of% @mode18_53 ∧ type_of% @mode18_55 ∧ type_of% @mode18_57 ∧ type_of% @mode18_59 ∧ type_of% @mode18_60 ∧ type_of% @mode18_61 ∧ type_of% @mode18_19 ∧ type_of% @mode18_20 ∧ type_of% @mode18_63 ∧ type_of% @mode18_64 := ⟨@agg5, @call30, @ix22, @size5, @zero5, @room5, @bytes5, @tk22, @tk3, @tk5, @kill18_3, @grow18_3, @mode18_6, @mode18_25, @mode18_26, @mode18_31, @mode18_32, @mode18_42, @mode18_43, @mode18_53, @mode18_55, @mode18_57, @mode18_59, @mode18_60, @mode18_61, @mode18_19, @mode18_20, @mode18_63, @mode18_64⟩
theorem F19 : type_of% @call19 ∧ type_of% @ix22 ∧ type_of% @size5 ∧ type_of% @zero5 ∧ type_of% @room5 ∧ type_of% @bytes5 ∧ type_of% @tk22 ∧ type_of% @tk3 ∧ type_of% @tk5 ∧ type_of% @tk9 ∧ type_of% @mode19_11 ∧ type_of% @mode19_12 ∧ type_of% @mode19_13 ∧ type_of% @mode19_19 ∧ type_of% @mode19_23 ∧ type_of% @mode19_24 ∧ type_of% @mode19_25 ∧ type_of% @mode19_31 ∧ type_of% @mode19_32 ∧ type_of% @mode19_33 ∧ type_of% @mode19_36 ∧ type_of% @mode19_40 ∧ type_of% @mode19_41 ∧ type_of% @mode19_42 := ⟨@call19, @ix22, @size5, @zero5, @room5, @bytes5, @tk22, @tk3, @tk5, @tk9, @mode19_11, @mode19_12, @mode19_13, @mode19_19, @mode19_23, @mode19_24, @mode19_25, @mode19_31, @mode19_32, @mode19_33, @mode19_36, @mode19_40, @mode19_41, @mode19_42⟩
theorem F20 : type_of% @agg22 ∧ type_of% @agg3 ∧ type_of% @agg5 ∧ type_of% @field43_0 ∧ type_of% @field43_1 ∧ type_of% @ix22 ∧ type_of% @size5 ∧ type_of% @zero5 ∧ type_of% @room5 ∧ type_of% @bytes5 ∧ type_of% @size22 ∧ type_of% @size3 ∧ type_of% @tk22 ∧ type_of% @tk3 ∧ type_of% @tk5 ∧ type_of% @kill20_1 ∧ type_of% @grow20_1 := ⟨@agg22, @agg3, @agg5, @field43_0, @field43_1, @ix22, @size5, @zero5, @room5, @bytes5, @size22, @size3, @tk22, @tk3, @tk5, @kill20_1, @grow20_1⟩
theorem F21 : type_of% @agg22 ∧ type_of% @agg3 ∧ type_of% @agg36 ∧ type_of% @agg5 ∧ type_of% @call28 ∧ type_of% @call29 ∧ type_of% @call31 ∧ type_of% @call32 ∧ type_of% @call33 ∧ type_of% @call34 ∧ type_of% @field43_0 ∧ type_of% @field43_1 ∧ type_of% @ix22 ∧ type_of% @size5 ∧ type_of% @zero5 ∧ type_of% @room5 ∧ type_of% @bytes5 ∧ type_of% @size22 ∧ type_of% @size3 ∧ type_of% @size36 ∧ type_of% @tk5 ∧ type_of% @zero36 ∧ type_of% @mode21_2 ∧ type_of% @mode21_17 ∧ type_of% @mode21_19 ∧ type_of% @mode21_22 ∧ type_of% @mode21_24 ∧ type_of% @mode21_25 ∧ type_of% @mode21_26 ∧ type_of% @mode21_31 ∧ type_of% @mode21_32 ∧ type_of% @mode21_33 ∧ type_of% @mode21_35 ∧ type_of% @mode21_36 ∧ type_of% @mode21_37 := ⟨@agg22, @agg3, @agg36, @agg5, @call28, @call29, @call31, @call32, @call33, @call34, @field43_0, @field43_1, @ix22, @size5, @zero5, @room5, @bytes5, @size22, @size3, @size36, @tk5, @zero36, @mode21_2, @mode21_17, @mode21_19, @mode21_22, @mode21_24, @mode21_25, @mode21_26, @mode21_31, @mode21_32, @mode21_33, @mode21_35, @mode21_36, @mode21_37⟩
theorem F22 : type_of% @agg5 ∧ type_of% @ix22 ∧ type_of% @size5 ∧ type_of% @zero5 ∧ type_of% @room5 ∧ type_of% @bytes5 ∧ type_of% @tk22 ∧ type_of% @tk3 ∧ type_of% @tk5 ∧ type_of% @kill22_4 ∧ type_of% @grow22_4 ∧ type_of% @kill22_1 ∧ type_of% @grow22_1 := ⟨@agg5, @ix22, @size5, @zero5, @room5, @bytes5, @tk22, @tk3, @tk5, @kill22_4, @grow22_4, @kill22_1, @grow22_1⟩
theorem F23 : type_of% @tk5 := @tk5
theorem F24 : type_of% @tk5 := @tk5
theorem F25 : type_of% @agg3 ∧ type_of% @agg36 ∧ type_of% @agg5 ∧ type_of% @call23 ∧ type_of% @call24 ∧ type_of% @field36_2 ∧ type_of% @ix22 ∧ type_of% @size5 ∧ type_of% @zero5 ∧ type_of% @room5 ∧ type_of% @bytes5 ∧ type_of% @lay36 ∧ type_of% @size3 ∧ type_of% @size36 ∧ type_of% @tk22 ∧ type_of% @tk3 ∧ type_of% @tk5 ∧ type_of% @zero36 ∧ type_of% @kill25_10 ∧ type_of% @grow25_10 ∧ type_of% @kill25_3 ∧ type_of% @grow25_3 ∧ type_of% @mode25_4 ∧ type_of% @mode25_7 ∧ type_of% @mode25_23 ∧ type_of% @mode25_50 ∧ type_of% @mode25_65 := ⟨@agg3, @agg36, @agg5, @call23, @call24, @field36_2, @ix22, @size5, @zero5, @room5, @bytes5, @lay36, @size3, @size36, @tk22, @tk3, @tk5, @zero36, @kill25_10, @grow25_10, @kill25_3, @grow25_3, @mode25_4, @mode25_7, @mode25_23, @mode25_50, @mode25_65⟩
theorem F26 : type_of% @agg36 ∧ type_of% @agg5 ∧ type_of% @agg9 ∧ type_of% @call35 ∧ type_of% @field36_1 ∧ type_of% @ix22 ∧ type_of% @size5 ∧ type_of% @zero5 ∧ type_of% @room5 ∧ type_of% @bytes5 ∧ type_of% @lay36 ∧ type_of% @size36 ∧ type_of% @size9 ∧ type_of% @tk22 ∧ type_of% @tk3 ∧ type_of% @tk5 ∧ type_of% @tk9 ∧ type_of% @zero36 ∧ type_of% @kill26_25 ∧ type_of% @grow26_25 ∧ type_of% @kill26_4 ∧ type_of% @grow26_4 ∧ type_of% @mode26_4 ∧ type_of% @mode26_7 ∧ type_of% @mode26_44 ∧ type_of% @mode26_45 ∧ type_of% @mode26_65 ∧ type_of% @mode26_66 ∧ type_of% @mode26_70 ∧ type_of% @mode26_71 ∧ type_of% @mode26_80 ∧ type_of% @mode26_81 ∧ type_of% @mode26_101 ∧ type_of% @mode26_112 ∧ type_of% @mode26_116 ∧ type_of% @mode26_117 ∧ type_of% @mode26_118 ∧ type_of% @mode26_131 := ⟨@agg36, @agg5, @agg9, @call35, @field36_1, @ix22, @size5, @zero5, @room5, @bytes5, @lay36, @size36, @size9, @tk22, @tk3, @tk5, @tk9, @zero36, @kill26_25, @grow26_25, @kill26_4, @grow26_4, @mode26_4, @mode26_7, @mode26_44, @mode26_45, @mode26_65, @mode26_66, @mode26_70, @mode26_71, @mode26_80, @mode26_81, @mode26_101, @mode26_112, @mode26_116, @mode26_117, @mode26_118, @mode26_131⟩
theorem F27 : type_of% @agg36 ∧ type_of% @agg5 ∧ type_of% @agg9 ∧ type_of% @field36_1 ∧ type_of% @ix22 ∧ type_of% @size5 ∧ type_of% @zero5 ∧ type_of% @room5 ∧ type_of% @bytes5 ∧ type_of% @ix9 ∧ type_of% @lay36 ∧ type_of% @size36 ∧ type_of% @size9 ∧ type_of% @tk22 ∧ type_of% @tk3 ∧ type_of% @tk5 ∧ type_of% @tk9 ∧ type_of% @zero36 ∧ type_of% @kill27_8 ∧ type_of% @grow27_8 ∧ type_of% @mode27_4 ∧ type_of% @mode27_7 ∧ type_of% @mode27_51 ∧ type_of% @mode27_72 := ⟨@agg36, @agg5, @agg9, @field36_1, @ix22, @size5, @zero5, @room5, @bytes5, @ix9, @lay36, @size36, @size9, @tk22, @tk3, @tk5, @tk9, @zero36, @kill27_8, @grow27_8, @mode27_4, @mode27_7, @mode27_51, @mode27_72⟩
theorem F28 : type_of% @tk5 := @tk5
theorem F29 : type_of% @tk5 := @tk5
theorem F30 : type_of% @ix9 := @ix9
theorem F31 : type_of% @agg3 ∧ type_of% @agg36 ∧ type_of% @agg9 ∧ type_of% @call14 ∧ type_of% @call36 ∧ type_of% @call37 ∧ type_of% @field36_0 ∧ type_of% @field36_1 ∧ type_of% @field43_1 ∧ type_of% @lay36 ∧ type_of% @size3 ∧ type_of% @size36 ∧ type_of% @size9 ∧ type_of% @zero36 ∧ type_of% @mode31_2 ∧ type_of% @mode31_3 ∧ type_of% @mode31_10 ∧ type_of% @mode31_14 := ⟨@agg3, @agg36, @agg9, @call14, @call36, @call37, @field36_0, @field36_1, @field43_1, @lay36, @size3, @size36, @size9, @zero36, @mode31_2, @mode31_3, @mode31_10, @mode31_14⟩
theorem F32 : type_of% @agg22 ∧ type_of% @agg3 ∧ type_of% @agg36 ∧ type_of% @agg5 ∧ type_of% @call28 ∧ type_of% @call29 ∧ type_of% @call36 ∧ type_of% @field36_2 ∧ type_of% @field43_0 ∧ type_of% @field43_1 ∧ type_of% @ix22 ∧ type_of% @size5 ∧ type_of% @zero5 ∧ type_of% @room5 ∧ type_of% @bytes5 ∧ type_of% @ix9 ∧ type_of% @lay36 ∧ type_of% @size22 ∧ type_of% @size3 ∧ type_of% @size36 ∧ type_of% @tk22 ∧ type_of% @tk3 ∧ type_of% @tk5 ∧ type_of% @tk9 ∧ type_of% @zero36 ∧ type_of% @kill32_10 ∧ type_of% @grow32_10 ∧ type_of% @mode32_2 ∧ type_of% @mode32_4 ∧ type_of% @mode32_19 ∧ type_of% @mode32_55 ∧ type_of% @mode32_67 := ⟨@agg22, @agg3, @agg36, @agg5, @call28, @call29, @call36, @field36_2, @field43_0, @field43_1, @ix22, @size5, @zero5, @room5, @bytes5, @ix9, @lay36, @size22, @size3, @size36, @tk22, @tk3, @tk5, @tk9, @zero36, @kill32_10, @grow32_10, @mode32_2, @mode32_4, @mode32_19, @mode32_55, @mode32_67⟩
theorem F33 : type_of% @agg22 ∧ type_of% @agg3 ∧ type_of% @agg36 ∧ type_of% @agg5 ∧ type_of% @agg9 ∧ type_of% @call38 ∧ type_of% @field36_1 ∧ type_of% @field43_0 ∧ type_of% @field43_1 ∧ type_of% @ix22 ∧ type_of% @size5 ∧ type_of% @zero5 ∧ type_of% @room5 ∧ type_of% @bytes5 ∧ type_of% @lay36 ∧ type_of% @size22 ∧ type_of% @size3 ∧ type_of% @size36 ∧ type_of% @size9 ∧ type_of% @tk22 ∧ type_of% @tk3 ∧ type_of% @tk5 ∧ type_of% @tk9 ∧ type_of% @zero36 ∧ type_of% @kill33_4 ∧ type_of% @grow33_4 ∧ type_of% @mode33_2 ∧ type_of% @mode33_4 ∧ type_of% @mode33_65 ∧ type_of% @mode33_79 ∧ type_of% @mode33_80 ∧ type_of% @mode33_81 ∧ type_of% @mode33_86 ∧ type_of% @mode33_87 ∧ type_of% @mode33_44 ∧ type_of% @mode33_45 := ⟨@agg22, @agg3, @agg36, @agg5, @agg9, @call38, @field36_1, @field43_0, @field43_1, @ix22, @size5, @zero5, @room5, @bytes5, @lay36, @size22, @size3, @size36, @size9, @tk22, @tk3, @tk5, @tk9, @zero36, @kill33_4, @grow33_4, @mode33_2, @mode33_4, @mode33_65, @mode33_79, @mode33_80, @mode33_81, @mode33_86, @mode33_87, @mode33_44, @mode33_45⟩
theorem F34 : type_of% @agg22 ∧ type_of% @agg3 ∧ type_of% @agg36 ∧ type_of% @agg57 ∧ type_of% @agg9 ∧ type_of% @call39 ∧ type_of% @field36_1 ∧ type_of% @field43_0 ∧ type_of% @field43_1 ∧ type_of% @ix22 ∧ type_of% @size5 ∧ type_of% @zero5 ∧ type_of% @room5 ∧ type_of% @bytes5 ∧ type_of% @ix57 ∧ type_of% @size9 ∧ type_of% @ix9 ∧ type_of% @lay36 ∧ type_of% @size22 ∧ type_of% @size3 ∧ type_of% @size36 ∧ type_of% @size57 ∧ type_of% @tk22 ∧ type_of% @tk3 ∧ type_of% @tk5 ∧ type_of% @tk9 ∧ type_of% @zero36 ∧ type_of% @gl0 ∧ type_of% @kill34_4 ∧ type_of% @grow34_4 ∧ type_of% @mode34_2 ∧ type_of% @mode34_4 ∧ type_of% @mode34_33 ∧ type_of% @mode34_40 := ⟨@agg22, @agg3, @agg36, @agg57, @agg9, @call39, @field36_1, @field43_0, @field43_1, @ix22, @size5, @zero5, @room5, @bytes5, @ix57, @size9, @ix9, @lay36, @size22, @size3, @size36, @size57, @tk22, @tk3, @tk5, @tk9, @zero36, @gl0, @kill34_4, @grow34_4, @mode34_2, @mode34_4, @mode34_33, @mode34_40⟩
theorem F35 : type_of% @ix9 ∧ type_of% @tk3 ∧ type_of% @tk5 ∧ type_of% @tk9 ∧ type_of% @kill35_3 ∧ type_of% @grow35_3 := ⟨@ix9, @tk3, @tk5, @tk9, @kill35_3, @grow35_3⟩
theorem F36 : type_of% @agg22 ∧ type_of% @agg3 ∧ type_of% @agg5 ∧ type_of% @field43_0 ∧ type_of% @field43_1 ∧ type_of% @ix22 ∧ type_of% @size5 ∧ type_of% @zero5 ∧ type_of% @room5 ∧ type_of% @bytes5 ∧ type_of% @size22 ∧ type_of% @size3 ∧ type_of% @tk22 ∧ type_of% @tk3 ∧ type_of% @tk9 ∧ type_of% @tk5 ∧ type_of% @kill36_2 ∧ type_of% @grow36_2 ∧ type_of% @mode36_32 ∧ type_of% @mode36_51 := ⟨@agg22, @agg3, @agg5, @field43_0, @field43_1, @ix22, @size5, @zero5, @room5, @bytes5, @size22, @size3, @tk22, @tk3, @tk9, @tk5, @kill36_2, @grow36_2, @mode36_32, @mode36_51⟩
theorem F37 : type_of% @call28 ∧ type_of% @call29 ∧ type_of% @mode37_4 ∧ type_of% @mode37_7 := ⟨@call28, @call29, @mode37_4, @mode37_7⟩
theorem F38 : type_of% @agg22 ∧ type_of% @agg3 ∧ type_of% @agg5 ∧ type_of% @call40 ∧ type_of% @field43_0 ∧ type_of% @field43_1 ∧ type_of% @ix22 ∧ type_of% @size5 ∧ type_of% @zero5 ∧ type_of% @room5 ∧ type_of% @bytes5 ∧ type_of% @size22 ∧ type_of% @size3 ∧ type_of% @tk22 ∧ type_of% @tk3 ∧ type_of% @tk5 ∧ type_of% @kill38_15 ∧ type_of% @grow38_15 ∧ type_of% @mode38_66 ∧ type_of% @mode38_81 ∧ type_of% @mode38_85 := ⟨@agg22, @agg3, @agg5, @call40, @field43_0, @field43_1, @ix22, @size5, @zero5, @room5, @bytes5, @size22, @size3, @tk22, @tk3, @tk5, @kill38_15, @grow38_15, @mode38_66, @mode38_81, @mode38_85⟩
theorem F39 : type_of% @call41 ∧ type_of% @mode39_7 := ⟨@call41, @mode39_7⟩
theorem F40 : type_of% @call29 ∧ type_of% @tk3 ∧ type_of% @tk5 ∧ type_of% @mode40_5 ∧ type_of% @mode40_8 ∧ type_of% @mode40_18 ∧ type_of% @mode40_29 := ⟨@call29, @tk3, @tk5, @mode40_5, @mode40_8, @mode40_18, @mode40_29⟩
theorem F41 : type_of% @ix9 ∧ type_of% @tk3 ∧ type_of% @tk9 := ⟨@ix9, @tk3, @tk9⟩
end Go.Proofs.YtcmndnkeoepmoaaDoor
