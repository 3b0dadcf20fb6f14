/- A part of the proofs over this seat. -/
import Derived.Test.YtfjbgmcdkhepkaaQAbsSim
import Derived.Test.YtfjbgmcdkhepkaaProg
import Derived.KernelRfl
import Derived.IntWalk
namespace Go.Proofs.Ytfjbgmcdkhepkaa
open Go Go.Abs Go.Proofs
set_option maxRecDepth 100000
set_option linter.unusedVariables false
theorem agg22 : aggT Try.prog 22 = some false := by kernel_rfl
theorem agg24 : aggT Try.prog 24 = some false := by kernel_rfl
theorem agg26 : aggT Try.prog 26 = some false := by kernel_rfl
theorem agg3 : aggT Try.prog 3 = some false := by kernel_rfl
theorem agg34 : aggT Try.prog 34 = some true := by kernel_rfl
theorem agg37 : aggT Try.prog 37 = some false := by kernel_rfl
theorem agg4 : aggT Try.prog 4 = some false := by kernel_rfl
theorem agg45 : aggT Try.prog 45 = some true := by kernel_rfl
theorem agg48 : aggT Try.prog 48 = some false := by kernel_rfl
theorem agg50 : aggT Try.prog 50 = some true := by kernel_rfl
theorem agg57 : aggT Try.prog 57 = some true := by kernel_rfl
theorem agg66 : aggT Try.prog 66 = some false := by kernel_rfl
theorem agg70 : aggT Try.prog 70 = some false := by kernel_rfl
theorem bytes3 : Try.prog.bytesOf 3 = 8 := by kernel_rfl
theorem bytes34 : Try.prog.bytesOf 34 = 16 := by kernel_rfl
theorem bytes4 : Try.prog.bytesOf 4 = 1 := by kernel_rfl
theorem bytes45 : Try.prog.bytesOf 45 = 48 := by kernel_rfl
theorem bytes57 : Try.prog.bytesOf 57 = 40 := by kernel_rfl
theorem bytes70 : Try.prog.bytesOf 70 = 8 := by kernel_rfl
theorem call10 : callable Try.prog 10 = true := by kernel_rfl
theorem call11 : callable Try.prog 11 = true := by kernel_rfl
theorem call12 : callable Try.prog 12 = true := by kernel_rfl
theorem call13 : callable Try.prog 13 = true := by kernel_rfl
theorem call14 : callable Try.prog 14 = true := by kernel_rfl
theorem call15 : callable Try.prog 15 = true := by kernel_rfl
theorem call16 : callable Try.prog 16 = true := by kernel_rfl
theorem call17 : callable Try.prog 17 = true := by kernel_rfl
theorem call18 : callable Try.prog 18 = true := by kernel_rfl
theorem call19 : callable Try.prog 19 = true := by kernel_rfl
theorem call20 : callable Try.prog 20 = true := by kernel_rfl
theorem call21 : callable Try.prog 21 = true := by kernel_rfl
theorem call22 : callable Try.prog 22 = true := by kernel_rfl
theorem call23 : callable Try.prog 23 = true := by kernel_rfl
theorem call24 : callable Try.prog 24 = true := by kernel_rfl
theorem call25 : callable Try.prog 25 = true := by kernel_rfl
theorem call26 : callable Try.prog 26 = true := by kernel_rfl
theorem call27 : callable Try.prog 27 = true := by kernel_rfl
theorem call28 : callable Try.prog 28 = true := by kernel_rfl
theorem call29 : callable Try.prog 29 = true := by kernel_rfl
theorem call3 : callable Try.prog 3 = true := by kernel_rfl
theorem call30 : callable Try.prog 30 = true := by kernel_rfl
theorem call31 : callable Try.prog 31 = true := by kernel_rfl
theorem call32 : callable Try.prog 32 = true := by kernel_rfl
theorem call33 : callable Try.prog 33 = true := by kernel_rfl
theorem call34 : callable Try.prog 34 = true := by kernel_rfl
theorem call35 : callable Try.prog 35 = true := by kernel_rfl
theorem call4 : callable Try.prog 4 = true := by kernel_rfl
theorem call5 : callable Try.prog 5 = true := by kernel_rfl
theorem call51 : callable Try.prog 51 = true := by kernel_rfl
theorem call52 : callable Try.prog 52 = true := by kernel_rfl
theorem call53 : callable Try.prog 53 = true := by kernel_rfl
theorem call6 : callable Try.prog 6 = true := by kernel_rfl
theorem call7 : callable Try.prog 7 = true := by kernel_rfl
theorem call8 : callable Try.prog 8 = true := by kernel_rfl
theorem call9 : callable Try.prog 9 = true := by kernel_rfl
theorem eql34 : eqLay Try.prog 34 = some [(0, .i), (1, .i)] := by kernel_rfl
theorem field34_0 : fieldT Try.prog 34 0 = some (0, 3) := by kernel_rfl
theorem field34_1 : fieldT Try.prog 34 1 = some (1, 24) := by kernel_rfl
theorem field45_0 : fieldT Try.prog 45 0 = some (0, 3) := by kernel_rfl
theorem field45_1 : fieldT Try.prog 45 1 = some (1, 3) := by kernel_rfl
theorem field45_2 : fieldT Try.prog 45 2 = some (2, 22) := by kernel_rfl
theorem field45_3 : fieldT Try.prog 45 3 = some (3, 24) := by kernel_rfl
theorem field50_0 : fieldT Try.prog 50 0 = some (0, 3) := by kernel_rfl
theorem field50_1 : fieldT Try.prog 50 1 = some (1, 3) := by kernel_rfl
theorem field50_2 : fieldT Try.prog 50 2 = some (2, 48) := by kernel_rfl
theorem field57_0 : fieldT Try.prog 57 0 = some (0, 3) := by kernel_rfl
theorem field57_1 : fieldT Try.prog 57 1 = some (1, 22) := by kernel_rfl
theorem field57_2 : fieldT Try.prog 57 2 = some (2, 4) := by kernel_rfl
theorem field68_0 : fieldT Try.prog 68 0 = some (0, 3) := by kernel_rfl
theorem field68_1 : fieldT Try.prog 68 1 = some (1, 66) := by kernel_rfl
theorem field68_2 : fieldT Try.prog 68 2 = some (2, 37) := by kernel_rfl
theorem field73_0 : fieldT Try.prog 73 0 = some (0, 3) := by kernel_rfl
theorem field73_1 : fieldT Try.prog 73 1 = some (1, 22) := by kernel_rfl
theorem field73_2 : fieldT Try.prog 73 2 = some (2, 4) := by kernel_rfl
theorem field76_0 : fieldT Try.prog 76 0 = some (0, 3) := by kernel_rfl
theorem field76_1 : fieldT Try.prog 76 1 = some (1, 24) := by kernel_rfl
theorem ix22 : ixT Try.prog 22 = .sl 34 := by kernel_rfl
theorem ix37 : ixT Try.prog 37 = .sl 3 := by kernel_rfl
theorem ix42 : ixT Try.prog 42 = .sl 45 := by kernel_rfl
theorem ix48 : ixT Try.prog 48 = .sl 57 := by kernel_rfl
theorem ix63 : ixT Try.prog 63 = .sl 4 := by kernel_rfl
theorem ix64 : ixT Try.prog 64 = .arr 4 3 := by kernel_rfl
theorem ix66 : ixT Try.prog 66 = .sl 70 := by kernel_rfl
theorem ix93 : ixT Try.prog 93 = .map 3 3 := by kernel_rfl
theorem lay34 : layT Try.prog 34 = some ([(.int .i64 0), (.int .u64 0)], .st [(0, 1), (1, 1)]) := by kernel_rfl
theorem lay50 : layT Try.prog 50 = some ([(.int .i64 0), (.int .i64 0), .nils], .st [(0, 1), (1, 1), (2, 1)]) := by kernel_rfl
theorem lay57 : layT Try.prog 57 = some ([(.int .i64 0), .nils, (.bool false)], .st [(0, 1), (1, 1), (2, 1)]) := by kernel_rfl
theorem lay68 : layT Try.prog 68 = some ([(.int .i64 0), .nils, .nils], .st [(0, 1), (1, 1), (2, 1)]) := by kernel_rfl
theorem lay73 : layT Try.prog 73 = some ([(.int .i64 0), .nils, (.bool false)], .st [(0, 1), (1, 1), (2, 1)]) := by kernel_rfl
theorem lay76 : layT Try.prog 76 = some ([(.int .i64 0), (.int .u64 0)], .st [(0, 1), (1, 1)]) := by kernel_rfl
theorem size22 : sizeT Try.prog 22 = 1 := by kernel_rfl
theorem size24 : sizeT Try.prog 24 = 1 := by kernel_rfl
theorem size26 : sizeT Try.prog 26 = 1 := by kernel_rfl
theorem size3 : sizeT Try.prog 3 = 1 := by kernel_rfl
theorem size34 : sizeT Try.prog 34 = 2 := by kernel_rfl
theorem size37 : sizeT Try.prog 37 = 1 := by kernel_rfl
theorem size4 : sizeT Try.prog 4 = 1 := by kernel_rfl
theorem size45 : sizeT Try.prog 45 = 4 := by kernel_rfl
theorem size48 : sizeT Try.prog 48 = 1 := by kernel_rfl
theorem size50 : sizeT Try.prog 50 = 3 := by kernel_rfl
theorem size57 : sizeT Try.prog 57 = 3 := by kernel_rfl
theorem size64 : sizeT Try.prog 64 = 4 := by kernel_rfl
theorem size66 : sizeT Try.prog 66 = 1 := by kernel_rfl
theorem size68 : sizeT Try.prog 68 = 3 := by kernel_rfl
theorem size70 : sizeT Try.prog 70 = 1 := by kernel_rfl
theorem size73 : sizeT Try.prog 73 = 3 := by kernel_rfl
theorem size76 : sizeT Try.prog 76 = 2 := by kernel_rfl
theorem tk22 : tk Try.prog 22 = .slice 34 := by kernel_rfl
theorem tk24 : tk Try.prog 24 = .int .u64 := by kernel_rfl
theorem tk26 : tk Try.prog 26 = .ptr := by kernel_rfl
theorem tk3 : tk Try.prog 3 = .int .i64 := by kernel_rfl
theorem tk34 : tk Try.prog 34 = .agg := by kernel_rfl
theorem tk37 : tk Try.prog 37 = .slice 3 := by kernel_rfl
theorem tk4 : tk Try.prog 4 = .bool := by kernel_rfl
theorem tk42 : tk Try.prog 42 = .slice 45 := by kernel_rfl
theorem tk48 : tk Try.prog 48 = .slice 57 := by kernel_rfl
theorem tk66 : tk Try.prog 66 = .slice 70 := by kernel_rfl
theorem tk76 : tk Try.prog 76 = .agg := by kernel_rfl
theorem tk77 : tk Try.prog 77 = .int .i64 := by kernel_rfl
theorem tk93 : tk Try.prog 93 = .map := by kernel_rfl
theorem zero3 : zeroT Try.prog 3 = (.int .i64 0) := by kernel_rfl
theorem zero34 : zeroT Try.prog 34 = (.agg [(.int .i64 0), (.int .u64 0)]) := by kernel_rfl
theorem zero4 : zeroT Try.prog 4 = (.bool false) := by kernel_rfl
theorem zero45 : zeroT Try.prog 45 = (.agg [(.int .i64 0), (.int .i64 0), .nils, (.int .u64 0)]) := by kernel_rfl
theorem zero50 : zeroT Try.prog 50 = (.agg [(.int .i64 0), (.int .i64 0), .nils]) := by kernel_rfl
theorem zero57 : zeroT Try.prog 57 = (.agg [(.int .i64 0), .nils, (.bool false)]) := by kernel_rfl
theorem zero64 : zeroT Try.prog 64 = (.agg [(.int .i64 0), (.int .i64 0), (.int .i64 0), (.int .i64 0)]) := by kernel_rfl
theorem zero70 : zeroT Try.prog 70 = .nilp := by kernel_rfl
theorem room3 (n : Nat) : elemOk Try.prog 3 n = (decide (n * 8 ≤ 70368744177664) && decide (n ≤ 4611686018427387904)) := by
  have h1 : (Try.prog.cellsOf 3 != 0 && okV (zeroT Try.prog 3) && (zeroT Try.prog 3).width == sizeT Try.prog 3) = true := by kernel_rfl
  unfold elemOk
  rw [h1, bytes3]; rfl
theorem room34 (n : Nat) : elemOk Try.prog 34 n = (decide (n * 16 ≤ 70368744177664) && decide (n ≤ 4611686018427387904)) := by
  have h1 : (Try.prog.cellsOf 34 != 0 && okV (zeroT Try.prog 34) && (zeroT Try.prog 34).width == sizeT Try.prog 34) = true := by kernel_rfl
  unfold elemOk
  rw [h1, bytes34]; rfl
theorem room4 (n : Nat) : elemOk Try.prog 4 n = (decide (n * 1 ≤ 70368744177664) && decide (n ≤ 4611686018427387904)) := by
  have h1 : (Try.prog.cellsOf 4 != 0 && okV (zeroT Try.prog 4) && (zeroT Try.prog 4).width == sizeT Try.prog 4) = true := by kernel_rfl
  unfold elemOk
  rw [h1, bytes4]; rfl
theorem room45 (n : Nat) : elemOk Try.prog 45 n = (decide (n * 48 ≤ 70368744177664) && decide (n ≤ 4611686018427387904)) := by
  have h1 : (Try.prog.cellsOf 45 != 0 && okV (zeroT Try.prog 45) && (zeroT Try.prog 45).width == sizeT Try.prog 45) = true := by kernel_rfl
  unfold elemOk
  rw [h1, bytes45]; rfl
theorem room57 (n : Nat) : elemOk Try.prog 57 n = (decide (n * 40 ≤ 70368744177664) && decide (n ≤ 4611686018427387904)) := by
  have h1 : (Try.prog.cellsOf 57 != 0 && okV (zeroT Try.prog 57) && (zeroT Try.prog 57).width == sizeT Try.prog 57) = true := by kernel_rfl
  unfold elemOk
  rw [h1, bytes57]; rfl
theorem room70 (n : Nat) : elemOk Try.prog 70 n = (decide (n * 8 ≤ 70368744177664) && decide (n ≤ 4611686018427387904)) := by
  have h1 : (Try.prog.cellsOf 70 != 0 && okV (zeroT Try.prog 70) && (zeroT Try.prog 70).width == sizeT Try.prog 70) = true := by kernel_rfl
  unfold elemOk
  rw [h1, bytes70]; rfl
def notes : Notes where
 kill f r := match f, r with
  | 3, 11 => [1, 2, 3, 4, 6, 9, 11, 12, 13, 14, 15, 16, 17, 18, 19, 20, 21, 22, 23, 24, 25, 26, 27, 28, 29, 30, 31, 32, 33, 34, 35, 36, 37, 38, 39, 40, 41, 42, 43, 44, 45, 46, 47, 48, 49, 50, 51, 52, 53, 54, 55, 56, 57, 58, 59, 60, 61, 62, 63, 64, 65, 66, 67, 68, 69, 70, 71, 72, 73, 74, 75, 76, 77, 78, 79, 80, 81, 82, 83, 84, 85, 86, 87, 88, 89, 90, 91, 92, 93, 94, 95, 96, 97, 98, 99, 100, 101, 102, 103, 104, 105, 106, 107, 108, 109, 110, 111, 112, 113, 114, 115, 116, 117, 118, 119, 120, 121]
  | 3, 16 => [1, 2, 3, 4, 6, 7, 9, 10, 13, 14, 15, 16, 17, 18, 19, 20, 21, 22, 23, 24, 25, 26, 27, 28, 29, 30, 31, 32, 33, 34, 35, 36, 37, 38, 39, 40, 41, 42, 43, 44, 45, 46, 47, 48, 49, 50, 51, 52, 53, 54, 55, 56, 57, 58, 59, 60, 61, 62, 63, 64, 65, 66, 67, 68, 69, 70, 71, 72, 73, 74, 75, 76, 77, 78, 79, 80, 81, 82, 83, 84, 85, 86, 87, 88, 89, 90, 91, 92, 93, 94, 95, 96, 97, 98, 99, 100, 101, 102, 103, 104, 105, 106, 107, 108, 109, 110, 111, 112, 113, 114, 115, 116, 117, 118, 119, 120, 121]
  | 3, 25 => [0, 1, 2, 3, 4, 6, 7, 9, 10, 11, 12, 16, 17, 18, 19, 20, 21, 22, 23, 24, 25, 26, 27, 28, 29, 30, 31, 32, 33, 34, 35, 36, 37, 38, 39, 40, 41, 42, 43, 44, 45, 46, 47, 48, 49, 50, 51, 52, 53, 54, 55, 56, 57, 58, 59, 60, 61, 62, 63, 64, 65, 66, 67, 68, 69, 70, 71, 72, 73, 74, 75, 76, 77, 78, 79, 80, 81, 82, 83, 84, 85, 86, 87, 88, 89, 90, 91, 92, 93, 94, 95, 96, 97, 98, 99, 100, 101, 102, 103, 104, 105, 106, 107, 108, 109, 110, 111, 112, 113, 114, 115, 116, 117, 118, 119, 120, 121]
  | 4, 7 => [3, 4, 5, 6, 8, 10, 11, 12, 13, 14, 15, 16, 17, 18, 19, 20, 21, 22, 23, 24, 25, 26, 27, 28, 29, 30, 31, 32, 33, 34, 35, 36, 37, 38, 39, 40, 41, 42, 43, 44, 45, 46, 47, 48, 49, 50, 51, 52, 53, 54, 55, 56, 57, 58, 59, 60, 61, 62, 63, 64, 65, 66, 67, 68, 69, 70, 71, 72, 73, 74, 75, 76, 77, 78, 79, 80, 81, 82, 83, 84, 85, 86, 87, 88, 89, 90, 91, 92, 93, 94, 95, 96, 97, 98, 99, 100, 101, 102, 103, 104, 105, 106, 107, 108, 109, 110, 111, 112, 113, 114, 115, 116, 117, 118, 119, 120, 121, 122, 123, 124, 125, 126, 127, 128, 129, 130, 131, 132, 133, 134, 135, 136, 137, 138, 139, 140, 141, 142, 143, 144, 145, 146, 147, 148]
  | 4, 20 => [0, 3, 4, 5, 6, 8, 9, 11, 13, 14, 15, 16, 17, 18, 19, 20, 21, 22, 23, 24, 25, 26, 27, 28, 29, 30, 31, 32, 33, 34, 35, 36, 37, 38, 39, 40, 41, 42, 43, 44, 45, 46, 47, 48, 49, 50, 51, 52, 53, 54, 55, 56, 57, 58, 59, 60, 61, 62, 63, 64, 65, 66, 67, 68, 69, 70, 71, 72, 73, 74, 75, 76, 77, 78, 79, 80, 81, 82, 83, 84, 85, 86, 87, 88, 89, 90, 91, 92, 93, 94, 95, 96, 97, 98, 99, 100, 101, 102, 103, 104, 105, 106, 107, 108, 109, 110, 111, 112, 113, 114, 115, 116, 117, 118, 119, 120, 121, 122, 123, 124, 125, 126, 127, 128, 129, 130, 131, 132, 133, 134, 135, 136, 137, 138, 139, 140, 141, 142, 143, 144, 145, 146, 147, 148]
  | 5, 12 => [0, 1, 3, 4, 5, 6, 8, 10, 12, 13, 14, 15, 16, 17, 18, 19, 20, 21, 22, 23, 24, 25, 26, 27, 28, 29, 30, 31, 32, 33, 34, 35, 36, 37, 38, 39, 40, 41, 42, 43, 44, 45, 46, 47, 48, 49, 50, 51, 52, 53, 54, 55, 56, 57, 58, 59, 60, 61, 62, 63, 64, 65, 66, 67, 68, 69, 70, 71, 72, 73, 74, 75, 76, 77, 78, 79, 80, 81, 82, 83, 84, 85, 86, 87, 88, 89, 90, 91, 92, 93, 94, 95, 96, 97, 98, 99, 100, 101, 102, 103, 104, 105, 106]
  | 5, 19 => [0, 1, 3, 4, 5, 6, 8, 10, 12, 13, 15, 16, 17, 18, 19, 20, 21, 22, 23, 24, 25, 26, 27, 28, 29, 30, 31, 32, 33, 34, 35, 36, 37, 38, 39, 40, 41, 42, 43, 44, 45, 46, 47, 48, 49, 50, 51, 52, 53, 54, 55, 56, 57, 58, 59, 60, 61, 62, 63, 64, 65, 66, 67, 68, 69, 70, 71, 72, 73, 74, 75, 76, 77, 78, 79, 80, 81, 82, 83, 84, 85, 86, 87, 88, 89, 90, 91, 92, 93, 94, 95, 96, 97, 98, 99, 100, 101, 102, 103, 104, 105, 106]
  | 7, 9 => [1, 2, 4, 8, 9, 10, 11, 12, 13, 14, 15, 16, 17, 18, 19, 20, 21, 22, 23, 24, 25, 26, 27, 28, 29, 30, 31, 32, 33, 34, 35, 36, 37, 38, 39, 40, 41, 42, 43, 44, 45, 46, 47, 48, 49, 50, 51, 52, 53, 54, 55, 56, 57, 58, 59, 60, 61, 62, 63, 64, 65, 66, 67, 68, 69, 70, 71, 72, 73, 74, 75, 76, 77, 78, 79, 80, 81, 82, 83, 84, 85, 86, 87, 88, 89, 90, 91, 92, 93, 94, 95, 96, 97, 98, 99, 100, 101, 102, 103, 104, 105, 106, 107, 108, 109, 110, 111, 112, 113, 114, 115, 116, 117, 118, 119, 120, 121, 122, 123, 124, 125, 126, 127, 128, 129, 130, 131, 132, 133, 134, 135, 136, 137, 138, 139, 140, 141, 142, 143, 144, 145, 146, 147, 148, 149, 150, 151, 152, 153, 154, 155, 156, 157, 158, 159, 160, 161, 162, 163, 164, 165, 166, 167, 168]
  | 7, 26 => [1, 2, 4, 9, 10, 13, 14, 15, 16, 17, 18, 19, 20, 21, 22, 23, 24, 25, 26, 27, 28, 29, 30, 31, 32, 33, 34, 35, 36, 37, 38, 39, 40, 41, 42, 43, 44, 45, 46, 47, 48, 49, 50, 51, 52, 53, 54, 55, 56, 57, 58, 59, 60, 61, 62, 63, 64, 65, 66, 67, 68, 69, 70, 71, 72, 73, 74, 75, 76, 77, 78, 79, 80, 81, 82, 83, 84, 85, 86, 87, 88, 89, 90, 91, 92, 93, 94, 95, 96, 97, 98, 99, 100, 101, 102, 103, 104, 105, 106, 107, 108, 109, 110, 111, 112, 113, 114, 115, 116, 117, 118, 119, 120, 121, 122, 123, 124, 125, 126, 127, 128, 129, 130, 131, 132, 133, 134, 135, 136, 137, 138, 139, 140, 141, 142, 143, 144, 145, 146, 147, 148, 149, 150, 151, 152, 153, 154, 155, 156, 157, 158, 159, 160, 161, 162, 163, 164, 165, 166, 167, 168]
  | 7, 36 => [1, 2, 4, 9, 10, 16, 17, 18, 19, 20, 21, 22, 23, 24, 25, 26, 27, 28, 29, 30, 31, 32, 33, 34, 35, 36, 37, 38, 39, 40, 41, 42, 43, 44, 45, 46, 47, 48, 49, 50, 51, 52, 53, 54, 55, 56, 57, 58, 59, 60, 61, 62, 63, 64, 65, 66, 67, 68, 69, 70, 71, 72, 73, 74, 75, 76, 77, 78, 79, 80, 81, 82, 83, 84, 85, 86, 87, 88, 89, 90, 91, 92, 93, 94, 95, 96, 97, 98, 99, 100, 101, 102, 103, 104, 105, 106, 107, 108, 109, 110, 111, 112, 113, 114, 115, 116, 117, 118, 119, 120, 121, 122, 123, 124, 125, 126, 127, 128, 129, 130, 131, 132, 133, 134, 135, 136, 137, 138, 139, 140, 141, 142, 143, 144, 145, 146, 147, 148, 149, 150, 151, 152, 153, 154, 155, 156, 157, 158, 159, 160, 161, 162, 163, 164, 165, 166, 167, 168]
  | 7, 41 => [1, 2, 4, 8, 9, 10, 12, 13, 14, 15, 17, 18, 19, 20, 21, 22, 23, 24, 25, 26, 27, 28, 29, 30, 31, 32, 33, 34, 35, 36, 37, 38, 39, 40, 41, 42, 43, 44, 45, 46, 47, 48, 49, 50, 51, 52, 53, 54, 55, 56, 57, 58, 59, 60, 61, 62, 63, 64, 65, 66, 67, 68, 69, 70, 71, 72, 73, 74, 75, 76, 77, 78, 79, 80, 81, 82, 83, 84, 85, 86, 87, 88, 89, 90, 91, 92, 93, 94, 95, 96, 97, 98, 99, 100, 101, 102, 103, 104, 105, 106, 107, 108, 109, 110, 111, 112, 113, 114, 115, 116, 117, 118, 119, 120, 121, 122, 123, 124, 125, 126, 127, 128, 129, 130, 131, 132, 133, 134, 135, 136, 137, 138, 139, 140, 141, 142, 143, 144, 145, 146, 147, 148, 149, 150, 151, 152, 153, 154, 155, 156, 157, 158, 159, 160, 161, 162, 163, 164, 165, 166, 167, 168]
  | 13, 4 => [2, 3, 4, 6, 7, 8, 9, 10, 11, 12, 13, 14, 15, 16, 17, 18, 19, 20, 21, 22, 23, 24, 25]
  | 16, 4 => [1, 2, 4, 5, 6, 7, 8, 9, 10, 11, 12, 13, 14, 15, 16, 17, 18, 19]
  | 22, 4 => [0, 2, 3, 4, 5, 6, 7, 8, 9, 10, 11, 12, 16, 17, 18, 19, 20, 21, 22, 23, 24, 25, 26, 27, 28, 29, 30, 31, 32, 33]
  | 23, 4 => [2, 3, 4, 6, 7, 8, 9, 10, 11, 12, 13, 14, 15, 16, 17, 18, 19, 20, 21, 22, 23, 24, 25]
  | 26, 3 => [0, 2, 3, 4, 6, 7, 8, 9, 10, 14, 15, 16, 17, 18, 19, 20, 21, 22, 23, 24, 25, 26, 27, 28, 29, 30, 31, 32, 33, 34, 35, 36]
  | 27, 4 => [0, 4, 5, 7, 8, 10, 11, 12, 13, 14, 15, 16, 17, 18, 19, 20, 21, 22, 23, 24, 25, 26, 27, 28, 29, 30, 31, 32, 33, 34, 35, 36, 37, 38, 39, 40, 41, 42, 43, 44, 45, 46, 47, 48, 49, 50, 51, 52, 53, 54, 55, 56, 57, 58, 59, 60, 61, 62, 63, 64, 65, 66, 67, 68, 69, 70, 71, 72, 73, 74, 75, 76, 77, 78, 79, 80, 81, 82, 83, 84, 85, 86, 87, 88, 89, 90, 91, 92]
  | 27, 9 => [0, 4, 5, 7, 8, 11, 12, 13, 14, 15, 16, 17, 18, 19, 20, 21, 22, 23, 24, 25, 26, 27, 28, 29, 30, 31, 32, 33, 34, 35, 36, 37, 38, 39, 40, 41, 42, 43, 44, 45, 46, 47, 48, 49, 50, 51, 52, 53, 54, 55, 56, 57, 58, 59, 60, 61, 62, 63, 64, 65, 66, 67, 68, 69, 70, 71, 72, 73, 74, 75, 76, 77, 78, 79, 80, 81, 82, 83, 84, 85, 86, 87, 88, 89, 90, 91, 92]
  | 28, 6 => [0, 4, 5, 7, 8, 12, 13, 14, 15, 16, 17, 18, 19, 20, 21, 22, 23, 24, 25, 26, 27, 28, 29, 30, 31, 32, 33, 34, 35, 36, 37, 38, 39, 40, 41, 42, 43, 44, 45, 46, 47, 48, 49, 50, 51, 52, 53, 54, 55, 56, 57, 58, 59, 60, 61, 62, 63, 64, 65, 66, 67, 68, 69, 70, 71, 72, 73, 74, 75, 76, 77, 78, 79, 80, 81, 82, 83, 84, 85, 86, 87, 88, 89]
  | 28, 10 => [0, 4, 5, 7, 8, 14, 15, 16, 17, 18, 19, 20, 21, 22, 23, 24, 25, 26, 27, 28, 29, 30, 31, 32, 33, 34, 35, 36, 37, 38, 39, 40, 41, 42, 43, 44, 45, 46, 47, 48, 49, 50, 51, 52, 53, 54, 55, 56, 57, 58, 59, 60, 61, 62, 63, 64, 65, 66, 67, 68, 69, 70, 71, 72, 73, 74, 75, 76, 77, 78, 79, 80, 81, 82, 83, 84, 85, 86, 87, 88, 89]
  | 30, 3 => [0, 3, 4, 5, 9, 10, 11, 12, 13, 14, 15, 16, 17, 18, 19, 20, 21, 22, 23, 24, 25, 26, 27, 28, 29, 30, 31, 32, 33, 34]
  | 33, 3 => [2, 3, 4, 6, 7, 8, 12, 13, 14, 15, 16, 17, 18, 19, 20, 21, 22, 23, 24, 25, 26]
  | 35, 2 => [2, 3, 4, 5, 6, 9, 10, 11, 12, 13, 14, 15, 16, 17, 18]
  | _, _ => []
 grow f r := match f, r with
  | 7, 9 => [(5, none)]
  | 28, 6 => [(9, none)]
  | _, _ => []
 mode f d := match f, d with
  | 3, 33 => .heap
  | 7, 70 => .heap
  | 8, 26 => .imm
  | 8, 71 => .imm
  | 9, 24 => .heap
  | 11, 47 => .imm
  | 11, 49 => .heap
  | 11, 51 => .priv
  | 24, 3 => .imm
  | 25, 7 => .heap
  | 26, 34 => .heap
  | 27, 85 => .imm
  | 27, 86 => .priv
  | 28, 26 => .heap
  | 29, 19 => .heap
  | 51, 3 => .imm
  | _, _ => .priv
 pure f := match f with
  | 8 => true
  | 18 => true
  | _ => false
theorem gl_none : notes.gl = fun _ => .undef := rfl
theorem kill3_11 : notes.kill 3 11 = [1, 2, 3, 4, 6, 9, 11, 12, 13, 14, 15, 16, 17, 18, 19, 20, 21, 22, 23, 24, 25, 26, 27, 28, 29, 30, 31, 32, 33, 34, 35, 36, 37, 38, 39, 40, 41, 42, 43, 44, 45, 46, 47, 48, 49, 50, 51, 52, 53, 54, 55, 56, 57, 58, 59, 60, 61, 62, 63, 64, 65, 66, 67, 68, 69, 70, 71, 72, 73, 74, 75, 76, 77, 78, 79, 80, 81, 82, 83, 84, 85, 86, 87, 88, 89, 90, 91, 92, 93, 94, 95, 96, 97, 98, 99, 100, 101, 102, 103, 104, 105, 106, 107, 108, 109, 110, 111, 112, 113, 114, 115, 116, 117, 118, 119, 120, 121] := rfl
theorem grow3_11 : notes.grow 3 11 = [] := rfl
/-- f3, loop at region 11: lives 0:l 5:d 7:c 8:id 10:i -/
def L3_11 (s0 s5 s7 s8 s10 : Slot) : List Slot := [s0, .v .undef, .v .undef, .v .undef, .v .undef, s5, .v .undef, s7, s8, .v .undef, s10, .v .undef, .v .undef, .v .undef, .v .undef, .v .undef, .v .undef, .v .undef, .v .undef, .v .undef, .v .undef, .v .undef, .v .undef, .v .undef, .v .undef, .v .undef, .v .undef, .v .undef, .v .undef, .v .undef, .v .undef, .v .undef, .v .undef, .v .undef, .v .undef, .v .undef, .v .undef, .v .undef, .v .undef, .v .undef, .v .undef, .v .undef, .v .undef, .v .undef, .v .undef, .v .undef, .v .undef, .v .undef, .v .undef, .v .undef, .v .undef, .v .undef, .v .undef, .v .undef, .v .undef, .v .undef, .v .undef, .v .undef, .v .undef, .v .undef, .v .undef, .v .undef, .v .undef, .v .undef, .v .undef, .v .undef, .v .undef, .v .undef, .v .undef, .v .undef, .v .undef, .v .undef, .v .undef, .v .undef, .v .undef, .v .undef, .v .undef, .v .undef, .v .undef, .v .undef, .v .undef, .v .undef, .v .undef, .v .undef, .v .undef, .v .undef, .v .undef, .v .undef, .v .undef, .v .undef, .v .undef, .v .undef, .v .undef, .v .undef, .v .undef, .v .undef, .v .undef, .v .undef, .v .undef, .v .undef, .v .undef, .v .undef, .v .undef, .v .undef, .v .undef, .v .undef, .v .undef, .v .undef, .v .undef, .v .undef, .v .undef, .v .undef, .v .undef, .v .undef, .v .undef, .v .undef, .v .undef, .v .undef, .v .undef, .v .undef, .v .undef, .v .undef]
theorem kill3_16 : notes.kill 3 16 = [1, 2, 3, 4, 6, 7, 9, 10, 13, 14, 15, 16, 17, 18, 19, 20, 21, 22, 23, 24, 25, 26, 27, 28, 29, 30, 31, 32, 33, 34, 35, 36, 37, 38, 39, 40, 41, 42, 43, 44, 45, 46, 47, 48, 49, 50, 51, 52, 53, 54, 55, 56, 57, 58, 59, 60, 61, 62, 63, 64, 65, 66, 67, 68, 69, 70, 71, 72, 73, 74, 75, 76, 77, 78, 79, 80, 81, 82, 83, 84, 85, 86, 87, 88, 89, 90, 91, 92, 93, 94, 95, 96, 97, 98, 99, 100, 101, 102, 103, 104, 105, 106, 107, 108, 109, 110, 111, 112, 113, 114, 115, 116, 117, 118, 119, 120, 121] := rfl
theorem grow3_16 : notes.grow 3 16 = [] := rfl
/-- f3, loop at region 16: lives 0:l 5:d 8:id 11:x 12:i -/
def L3_16 (s0 s5 s8 s11 s12 : Slot) : List Slot := [s0, .v .undef, .v .undef, .v .undef, .v .undef, s5, .v .undef, .v .undef, s8, .v .undef, .v .undef, s11, s12, .v .undef, .v .undef, .v .undef, .v .undef, .v .undef, .v .undef, .v .undef, .v .undef, .v .undef, .v .undef, .v .undef, .v .undef, .v .undef, .v .undef, .v .undef, .v .undef, .v .undef, .v .undef, .v .undef, .v .undef, .v .undef, .v .undef, .v .undef, .v .undef, .v .undef, .v .undef, .v .undef, .v .undef, .v .undef, .v .undef, .v .undef, .v .undef, .v .undef, .v .undef, .v .undef, .v .undef, .v .undef, .v .undef, .v .undef, .v .undef, .v .undef, .v .undef, .v .undef, .v .undef, .v .undef, .v .undef, .v .undef, .v .undef, .v .undef, .v .undef, .v .undef, .v .undef, .v .undef, .v .undef, .v .undef, .v .undef, .v .undef, .v .undef, .v .undef, .v .undef, .v .undef, .v .undef, .v .undef, .v .undef, .v .undef, .v .undef, .v .undef, .v .undef, .v .undef, .v .undef, .v .undef, .v .undef, .v .undef, .v .undef, .v .undef, .v .undef, .v .undef, .v .undef, .v .undef, .v .undef, .v .undef, .v .undef, .v .undef, .v .undef, .v .undef, .v .undef, .v .undef, .v .undef, .v .undef, .v .undef, .v .undef, .v .undef, .v .undef, .v .undef, .v .undef, .v .undef, .v .undef, .v .undef, .v .undef, .v .undef, .v .undef, .v .undef, .v .undef, .v .undef, .v .undef, .v .undef, .v .undef, .v .undef, .v .undef]
theorem kill3_25 : notes.kill 3 25 = [0, 1, 2, 3, 4, 6, 7, 9, 10, 11, 12, 16, 17, 18, 19, 20, 21, 22, 23, 24, 25, 26, 27, 28, 29, 30, 31, 32, 33, 34, 35, 36, 37, 38, 39, 40, 41, 42, 43, 44, 45, 46, 47, 48, 49, 50, 51, 52, 53, 54, 55, 56, 57, 58, 59, 60, 61, 62, 63, 64, 65, 66, 67, 68, 69, 70, 71, 72, 73, 74, 75, 76, 77, 78, 79, 80, 81, 82, 83, 84, 85, 86, 87, 88, 89, 90, 91, 92, 93, 94, 95, 96, 97, 98, 99, 100, 101, 102, 103, 104, 105, 106, 107, 108, 109, 110, 111, 112, 113, 114, 115, 116, 117, 118, 119, 120, 121] := rfl
theorem grow3_25 : notes.grow 3 25 = [] := rfl
/-- f3, loop at region 25: lives 5:d 8:id 13:y 14:g 15:i -/
def L3_25 (s5 s8 s13 s14 s15 : Slot) : List Slot := [.v .undef, .v .undef, .v .undef, .v .undef, .v .undef, s5, .v .undef, .v .undef, s8, .v .undef, .v .undef, .v .undef, .v .undef, s13, s14, s15, .v .undef, .v .undef, .v .undef, .v .undef, .v .undef, .v .undef, .v .undef, .v .undef, .v .undef, .v .undef, .v .undef, .v .undef, .v .undef, .v .undef, .v .undef, .v .undef, .v .undef, .v .undef, .v .undef, .v .undef, .v .undef, .v .undef, .v .undef, .v .undef, .v .undef, .v .undef, .v .undef, .v .undef, .v .undef, .v .undef, .v .undef, .v .undef, .v .undef, .v .undef, .v .undef, .v .undef, .v .undef, .v .undef, .v .undef, .v .undef, .v .undef, .v .undef, .v .undef, .v .undef, .v .undef, .v .undef, .v .undef, .v .undef, .v .undef, .v .undef, .v .undef, .v .undef, .v .undef, .v .undef, .v .undef, .v .undef, .v .undef, .v .undef, .v .undef, .v .undef, .v .undef, .v .undef, .v .undef, .v .undef, .v .undef, .v .undef, .v .undef, .v .undef, .v .undef, .v .undef, .v .undef, .v .undef, .v .undef, .v .undef, .v .undef, .v .undef, .v .undef, .v .undef, .v .undef, .v .undef, .v .undef, .v .undef, .v .undef, .v .undef, .v .undef, .v .undef, .v .undef, .v .undef, .v .undef, .v .undef, .v .undef, .v .undef, .v .undef, .v .undef, .v .undef, .v .undef, .v .undef, .v .undef, .v .undef, .v .undef, .v .undef, .v .undef, .v .undef, .v .undef, .v .undef, .v .undef]
theorem mode3_19 : notes.mode 3 19 = .priv := rfl
theorem mode3_21 : notes.mode 3 21 = .priv := rfl
theorem mode3_22 : notes.mode 3 22 = .priv := rfl
theorem mode3_23 : notes.mode 3 23 = .priv := rfl
theorem mode3_25 : notes.mode 3 25 = .priv := rfl
theorem mode3_31 : notes.mode 3 31 = .priv := rfl
theorem mode3_33 : notes.mode 3 33 = .heap := rfl
theorem mode3_37 : notes.mode 3 37 = .priv := rfl
theorem mode3_38 : notes.mode 3 38 = .priv := rfl
theorem mode3_39 : notes.mode 3 39 = .priv := rfl
theorem mode3_41 : notes.mode 3 41 = .priv := rfl
theorem mode3_44 : notes.mode 3 44 = .priv := rfl
theorem mode3_47 : notes.mode 3 47 = .priv := rfl
theorem mode3_61 : notes.mode 3 61 = .priv := rfl
theorem mode3_74 : notes.mode 3 74 = .priv := rfl
theorem mode3_76 : notes.mode 3 76 = .priv := rfl
theorem mode3_81 : notes.mode 3 81 = .priv := rfl
theorem mode3_93 : notes.mode 3 93 = .priv := rfl
theorem mode3_94 : notes.mode 3 94 = .priv := rfl
theorem mode3_95 : notes.mode 3 95 = .priv := rfl
theorem mode3_106 : notes.mode 3 106 = .priv := rfl
theorem mode3_116 : notes.mode 3 116 = .priv := rfl
theorem mode3_120 : notes.mode 3 120 = .priv := rfl
theorem f3 : Try.prog.funcs[3]? = some Try.f3 := by kernel_rfl
theorem r3 : Try.f3.results.toList = [.tmp 4] := rfl
theorem n3 : Try.f3.ntmps = 122 := rfl
theorem b3 : Try.f3.body = some (bodyOf Try.f3) := rfl
def alts3_23 : List (Nat × Nat × Nat) := []
theorem kill4_7 : notes.kill 4 7 = [3, 4, 5, 6, 8, 10, 11, 12, 13, 14, 15, 16, 17, 18, 19, 20, 21, 22, 23, 24, 25, 26, 27, 28, 29, 30, 31, 32, 33, 34, 35, 36, 37, 38, 39, 40, 41, 42, 43, 44, 45, 46, 47, 48, 49, 50, 51, 52, 53, 54, 55, 56, 57, 58, 59, 60, 61, 62, 63, 64, 65, 66, 67, 68, 69, 70, 71, 72, 73, 74, 75, 76, 77, 78, 79, 80, 81, 82, 83, 84, 85, 86, 87, 88, 89, 90, 91, 92, 93, 94, 95, 96, 97, 98, 99, 100, 101, 102, 103, 104, 105, 106, 107, 108, 109, 110, 111, 112, 113, 114, 115, 116, 117, 118, 119, 120, 121, 122, 123, 124, 125, 126, 127, 128, 129, 130, 131, 132, 133, 134, 135, 136, 137, 138, 139, 140, 141, 142, 143, 144, 145, 146, 147, 148] := rfl
theorem grow4_7 : notes.grow 4 7 = [] := rfl
/-- f4, loop at region 7: lives 0:l 1:g 2:v 7:d 9:i -/
def L4_7 (s0 s1 s2 s7 s9 : Slot) : List Slot := [s0, s1, s2, .v .undef, .v .undef, .v .undef, .v .undef, s7, .v .undef, s9, .v .undef, .v .undef, .v .undef, .v .undef, .v .undef, .v .undef, .v .undef, .v .undef, .v .undef, .v .undef, .v .undef, .v .undef, .v .undef, .v .undef, .v .undef, .v .undef, .v .undef, .v .undef, .v .undef, .v .undef, .v .undef, .v .undef, .v .undef, .v .undef, .v .undef, .v .undef, .v .undef, .v .undef, .v .undef, .v .undef, .v .undef, .v .undef, .v .undef, .v .undef, .v .undef, .v .undef, .v .undef, .v .undef, .v .undef, .v .undef, .v .undef, .v .undef, .v .undef, .v .undef, .v .undef, .v .undef, .v .undef, .v .undef, .v .undef, .v .undef, .v .undef, .v .undef, .v .undef, .v .undef, .v .undef, .v .undef, .v .undef, .v .undef, .v .undef, .v .undef, .v .undef, .v .undef, .v .undef, .v .undef, .v .undef, .v .undef, .v .undef, .v .undef, .v .undef, .v .undef, .v .undef, .v .undef, .v .undef, .v .undef, .v .undef, .v .undef, .v .undef, .v .undef, .v .undef, .v .undef, .v .undef, .v .undef, .v .undef, .v .undef, .v .undef, .v .undef, .v .undef, .v .undef, .v .undef, .v .undef, .v .undef, .v .undef, .v .undef, .v .undef, .v .undef, .v .undef, .v .undef, .v .undef, .v .undef, .v .undef, .v .undef, .v .undef, .v .undef, .v .undef, .v .undef, .v .undef, .v .undef, .v .undef, .v .undef, .v .undef, .v .undef, .v .undef, .v .undef, .v .undef, .v .undef, .v .undef, .v .undef, .v .undef, .v .undef, .v .undef, .v .undef, .v .undef, .v .undef, .v .undef, .v .undef, .v .undef, .v .undef, .v .undef, .v .undef, .v .undef, .v .undef, .v .undef, .v .undef, .v .undef, .v .undef, .v .undef, .v .undef, .v .undef, .v .undef]
theorem kill4_20 : notes.kill 4 20 = [0, 3, 4, 5, 6, 8, 9, 11, 13, 14, 15, 16, 17, 18, 19, 20, 21, 22, 23, 24, 25, 26, 27, 28, 29, 30, 31, 32, 33, 34, 35, 36, 37, 38, 39, 40, 41, 42, 43, 44, 45, 46, 47, 48, 49, 50, 51, 52, 53, 54, 55, 56, 57, 58, 59, 60, 61, 62, 63, 64, 65, 66, 67, 68, 69, 70, 71, 72, 73, 74, 75, 76, 77, 78, 79, 80, 81, 82, 83, 84, 85, 86, 87, 88, 89, 90, 91, 92, 93, 94, 95, 96, 97, 98, 99, 100, 101, 102, 103, 104, 105, 106, 107, 108, 109, 110, 111, 112, 113, 114, 115, 116, 117, 118, 119, 120, 121, 122, 123, 124, 125, 126, 127, 128, 129, 130, 131, 132, 133, 134, 135, 136, 137, 138, 139, 140, 141, 142, 143, 144, 145, 146, 147, 148] := rfl
theorem grow4_20 : notes.grow 4 20 = [] := rfl
/-- f4, loop at region 20: lives 1:g 2:v 7:d 10:x 12:i -/
def L4_20 (s1 s2 s7 s10 s12 : Slot) : List Slot := [.v .undef, s1, s2, .v .undef, .v .undef, .v .undef, .v .undef, s7, .v .undef, .v .undef, s10, .v .undef, s12, .v .undef, .v .undef, .v .undef, .v .undef, .v .undef, .v .undef, .v .undef, .v .undef, .v .undef, .v .undef, .v .undef, .v .undef, .v .undef, .v .undef, .v .undef, .v .undef, .v .undef, .v .undef, .v .undef, .v .undef, .v .undef, .v .undef, .v .undef, .v .undef, .v .undef, .v .undef, .v .undef, .v .undef, .v .undef, .v .undef, .v .undef, .v .undef, .v .undef, .v .undef, .v .undef, .v .undef, .v .undef, .v .undef, .v .undef, .v .undef, .v .undef, .v .undef, .v .undef, .v .undef, .v .undef, .v .undef, .v .undef, .v .undef, .v .undef, .v .undef, .v .undef, .v .undef, .v .undef, .v .undef, .v .undef, .v .undef, .v .undef, .v .undef, .v .undef, .v .undef, .v .undef, .v .undef, .v .undef, .v .undef, .v .undef, .v .undef, .v .undef, .v .undef, .v .undef, .v .undef, .v .undef, .v .undef, .v .undef, .v .undef, .v .undef, .v .undef, .v .undef, .v .undef, .v .undef, .v .undef, .v .undef, .v .undef, .v .undef, .v .undef, .v .undef, .v .undef, .v .undef, .v .undef, .v .undef, .v .undef, .v .undef, .v .undef, .v .undef, .v .undef, .v .undef, .v .undef, .v .undef, .v .undef, .v .undef, .v .undef, .v .undef, .v .undef, .v .undef, .v .undef, .v .undef, .v .undef, .v .undef, .v .undef, .v .undef, .v .undef, .v .undef, .v .undef, .v .undef, .v .undef, .v .undef, .v .undef, .v .undef, .v .undef, .v .undef, .v .undef, .v .undef, .v .undef, .v .undef, .v .undef, .v .undef, .v .undef, .v .undef, .v .undef, .v .undef, .v .undef, .v .undef, .v .undef, .v .undef, .v .undef, .v .undef, .v .undef]
theorem mode4_16 : notes.mode 4 16 = .priv := rfl
theorem mode4_17 : notes.mode 4 17 = .priv := rfl
theorem mode4_19 : notes.mode 4 19 = .priv := rfl
theorem mode4_20 : notes.mode 4 20 = .priv := rfl
theorem mode4_21 : notes.mode 4 21 = .priv := rfl
theorem mode4_23 : notes.mode 4 23 = .priv := rfl
theorem mode4_53 : notes.mode 4 53 = .priv := rfl
theorem mode4_67 : notes.mode 4 67 = .priv := rfl
theorem mode4_76 : notes.mode 4 76 = .priv := rfl
theorem mode4_81 : notes.mode 4 81 = .priv := rfl
theorem mode4_82 : notes.mode 4 82 = .priv := rfl
theorem mode4_83 : notes.mode 4 83 = .priv := rfl
theorem mode4_85 : notes.mode 4 85 = .priv := rfl
theorem mode4_91 : notes.mode 4 91 = .priv := rfl
theorem mode4_104 : notes.mode 4 104 = .priv := rfl
theorem mode4_127 : notes.mode 4 127 = .priv := rfl
theorem mode4_128 : notes.mode 4 128 = .priv := rfl
theorem mode4_135 : notes.mode 4 135 = .priv := rfl
theorem mode4_136 : notes.mode 4 136 = .priv := rfl
theorem mode4_137 : notes.mode 4 137 = .priv := rfl
theorem mode4_139 : notes.mode 4 139 = .priv := rfl
theorem mode4_147 : notes.mode 4 147 = .priv := rfl
theorem f4 : Try.prog.funcs[4]? = some Try.f4 := by kernel_rfl
theorem r4 : Try.f4.results.toList = [.tmp 6] := rfl
theorem n4 : Try.f4.ntmps = 149 := rfl
theorem b4 : Try.f4.body = some (bodyOf Try.f4) := rfl
def alts4_11 : List (Nat × Nat × Nat) := []
def alts4_13 : List (Nat × Nat × Nat) := []
def alts4_22 : List (Nat × Nat × Nat) := []
theorem kill5_12 : notes.kill 5 12 = [0, 1, 3, 4, 5, 6, 8, 10, 12, 13, 14, 15, 16, 17, 18, 19, 20, 21, 22, 23, 24, 25, 26, 27, 28, 29, 30, 31, 32, 33, 34, 35, 36, 37, 38, 39, 40, 41, 42, 43, 44, 45, 46, 47, 48, 49, 50, 51, 52, 53, 54, 55, 56, 57, 58, 59, 60, 61, 62, 63, 64, 65, 66, 67, 68, 69, 70, 71, 72, 73, 74, 75, 76, 77, 78, 79, 80, 81, 82, 83, 84, 85, 86, 87, 88, 89, 90, 91, 92, 93, 94, 95, 96, 97, 98, 99, 100, 101, 102, 103, 104, 105, 106] := rfl
theorem grow5_12 : notes.grow 5 12 = [] := rfl
/-- f5, loop at region 12: lives 2:l 7:d 9:r 11:i -/
def L5_12 (s2 s7 s9 s11 : Slot) : List Slot := [.v .undef, .v .undef, s2, .v .undef, .v .undef, .v .undef, .v .undef, s7, .v .undef, s9, .v .undef, s11, .v .undef, .v .undef, .v .undef, .v .undef, .v .undef, .v .undef, .v .undef, .v .undef, .v .undef, .v .undef, .v .undef, .v .undef, .v .undef, .v .undef, .v .undef, .v .undef, .v .undef, .v .undef, .v .undef, .v .undef, .v .undef, .v .undef, .v .undef, .v .undef, .v .undef, .v .undef, .v .undef, .v .undef, .v .undef, .v .undef, .v .undef, .v .undef, .v .undef, .v .undef, .v .undef, .v .undef, .v .undef, .v .undef, .v .undef, .v .undef, .v .undef, .v .undef, .v .undef, .v .undef, .v .undef, .v .undef, .v .undef, .v .undef, .v .undef, .v .undef, .v .undef, .v .undef, .v .undef, .v .undef, .v .undef, .v .undef, .v .undef, .v .undef, .v .undef, .v .undef, .v .undef, .v .undef, .v .undef, .v .undef, .v .undef, .v .undef, .v .undef, .v .undef, .v .undef, .v .undef, .v .undef, .v .undef, .v .undef, .v .undef, .v .undef, .v .undef, .v .undef, .v .undef, .v .undef, .v .undef, .v .undef, .v .undef, .v .undef, .v .undef, .v .undef, .v .undef, .v .undef, .v .undef, .v .undef, .v .undef, .v .undef, .v .undef, .v .undef, .v .undef, .v .undef]
theorem kill5_19 : notes.kill 5 19 = [0, 1, 3, 4, 5, 6, 8, 10, 12, 13, 15, 16, 17, 18, 19, 20, 21, 22, 23, 24, 25, 26, 27, 28, 29, 30, 31, 32, 33, 34, 35, 36, 37, 38, 39, 40, 41, 42, 43, 44, 45, 46, 47, 48, 49, 50, 51, 52, 53, 54, 55, 56, 57, 58, 59, 60, 61, 62, 63, 64, 65, 66, 67, 68, 69, 70, 71, 72, 73, 74, 75, 76, 77, 78, 79, 80, 81, 82, 83, 84, 85, 86, 87, 88, 89, 90, 91, 92, 93, 94, 95, 96, 97, 98, 99, 100, 101, 102, 103, 104, 105, 106] := rfl
theorem grow5_19 : notes.grow 5 19 = [] := rfl
/-- f5, loop at region 19: lives 2:l 7:d 9:r 11:i 14:k -/
def L5_19 (s2 s7 s9 s11 s14 : Slot) : List Slot := [.v .undef, .v .undef, s2, .v .undef, .v .undef, .v .undef, .v .undef, s7, .v .undef, s9, .v .undef, s11, .v .undef, .v .undef, s14, .v .undef, .v .undef, .v .undef, .v .undef, .v .undef, .v .undef, .v .undef, .v .undef, .v .undef, .v .undef, .v .undef, .v .undef, .v .undef, .v .undef, .v .undef, .v .undef, .v .undef, .v .undef, .v .undef, .v .undef, .v .undef, .v .undef, .v .undef, .v .undef, .v .undef, .v .undef, .v .undef, .v .undef, .v .undef, .v .undef, .v .undef, .v .undef, .v .undef, .v .undef, .v .undef, .v .undef, .v .undef, .v .undef, .v .undef, .v .undef, .v .undef, .v .undef, .v .undef, .v .undef, .v .undef, .v .undef, .v .undef, .v .undef, .v .undef, .v .undef, .v .undef, .v .undef, .v .undef, .v .undef, .v .undef, .v .undef, .v .undef, .v .undef, .v .undef, .v .undef, .v .undef, .v .undef, .v .undef, .v .undef, .v .undef, .v .undef, .v .undef, .v .undef, .v .undef, .v .undef, .v .undef, .v .undef, .v .undef, .v .undef, .v .undef, .v .undef, .v .undef, .v .undef, .v .undef, .v .undef, .v .undef, .v .undef, .v .undef, .v .undef, .v .undef, .v .undef, .v .undef, .v .undef, .v .undef, .v .undef, .v .undef, .v .undef]
theorem mode5_16 : notes.mode 5 16 = .priv := rfl
theorem mode5_33 : notes.mode 5 33 = .priv := rfl
theorem mode5_37 : notes.mode 5 37 = .priv := rfl
theorem mode5_38 : notes.mode 5 38 = .priv := rfl
theorem mode5_39 : notes.mode 5 39 = .priv := rfl
theorem mode5_43 : notes.mode 5 43 = .priv := rfl
theorem mode5_44 : notes.mode 5 44 = .priv := rfl
theorem mode5_45 : notes.mode 5 45 = .priv := rfl
theorem mode5_9 : notes.mode 5 9 = .priv := rfl
theorem mode5_47 : notes.mode 5 47 = .priv := rfl
theorem mode5_55 : notes.mode 5 55 = .priv := rfl
theorem mode5_72 : notes.mode 5 72 = .priv := rfl
theorem mode5_73 : notes.mode 5 73 = .priv := rfl
theorem mode5_74 : notes.mode 5 74 = .priv := rfl
theorem mode5_12 : notes.mode 5 12 = .priv := rfl
theorem mode5_86 : notes.mode 5 86 = .priv := rfl
theorem mode5_98 : notes.mode 5 98 = .priv := rfl
theorem mode5_106 : notes.mode 5 106 = .priv := rfl
theorem f5 : Try.prog.funcs[5]? = some Try.f5 := by kernel_rfl
theorem r5 : Try.f5.results.toList = [.tmp 6] := rfl
theorem n5 : Try.f5.ntmps = 107 := rfl
theorem b5 : Try.f5.body = some (bodyOf Try.f5) := rfl
def alts5_14 : List (Nat × Nat × Nat) := [(1, 1, 0), (4, 1, 0), (5, 1, 0), (6, 1, 0), (8, 1, 1), (9, 0, 2), (9, 1, 1), (9, 1, 2), (9, 2, 1), (9, 2, 2), (10, 0, 0)]
def alts5_16 : List (Nat × Nat × Nat) := []
def alts5_21 : List (Nat × Nat × Nat) := [(4, 0, 0), (6, 0, 0), (8, 0, 0)]
theorem mode6_1 : notes.mode 6 1 = .priv := rfl
theorem mode6_18 : notes.mode 6 18 = .priv := rfl
theorem mode6_19 : notes.mode 6 19 = .priv := rfl
theorem mode6_20 : notes.mode 6 20 = .priv := rfl
theorem mode6_27 : notes.mode 6 27 = .priv := rfl
theorem mode6_28 : notes.mode 6 28 = .priv := rfl
theorem mode6_29 : notes.mode 6 29 = .priv := rfl
theorem mode6_34 : notes.mode 6 34 = .priv := rfl
theorem mode6_35 : notes.mode 6 35 = .priv := rfl
theorem mode6_36 : notes.mode 6 36 = .priv := rfl
theorem mode6_41 : notes.mode 6 41 = .priv := rfl
theorem mode6_42 : notes.mode 6 42 = .priv := rfl
theorem mode6_43 : notes.mode 6 43 = .priv := rfl
theorem mode6_55 : notes.mode 6 55 = .priv := rfl
theorem mode6_67 : notes.mode 6 67 = .priv := rfl
theorem mode6_72 : notes.mode 6 72 = .priv := rfl
theorem mode6_77 : notes.mode 6 77 = .priv := rfl
theorem mode6_82 : notes.mode 6 82 = .priv := rfl
theorem mode6_89 : notes.mode 6 89 = .priv := rfl
theorem mode6_90 : notes.mode 6 90 = .priv := rfl
theorem mode6_94 : notes.mode 6 94 = .priv := rfl
theorem f6 : Try.prog.funcs[6]? = some Try.f6 := by kernel_rfl
theorem r6 : Try.f6.results.toList = [.tmp 2] := rfl
theorem n6 : Try.f6.ntmps = 96 := rfl
theorem b6 : Try.f6.body = some (bodyOf Try.f6) := rfl
theorem kill7_9 : notes.kill 7 9 = [1, 2, 4, 8, 9, 10, 11, 12, 13, 14, 15, 16, 17, 18, 19, 20, 21, 22, 23, 24, 25, 26, 27, 28, 29, 30, 31, 32, 33, 34, 35, 36, 37, 38, 39, 40, 41, 42, 43, 44, 45, 46, 47, 48, 49, 50, 51, 52, 53, 54, 55, 56, 57, 58, 59, 60, 61, 62, 63, 64, 65, 66, 67, 68, 69, 70, 71, 72, 73, 74, 75, 76, 77, 78, 79, 80, 81, 82, 83, 84, 85, 86, 87, 88, 89, 90, 91, 92, 93, 94, 95, 96, 97, 98, 99, 100, 101, 102, 103, 104, 105, 106, 107, 108, 109, 110, 111, 112, 113, 114, 115, 116, 117, 118, 119, 120, 121, 122, 123, 124, 125, 126, 127, 128, 129, 130, 131, 132, 133, 134, 135, 136, 137, 138, 139, 140, 141, 142, 143, 144, 145, 146, 147, 148, 149, 150, 151, 152, 153, 154, 155, 156, 157, 158, 159, 160, 161, 162, 163, 164, 165, 166, 167, 168] := rfl
theorem grow7_9 : notes.grow 7 9 = [(5, none)] := rfl
/-- f7, loop at region 9: lives 0:l 3:d 5:funs 6:valid 7:i -/
def L7_9 (s0 s3 s5 s6 s7 : Slot) : List Slot := [s0, .v .undef, .v .undef, s3, .v .undef, s5, s6, s7, .v .undef, .v .undef, .v .undef, .v .undef, .v .undef, .v .undef, .v .undef, .v .undef, .v .undef, .v .undef, .v .undef, .v .undef, .v .undef, .v .undef, .v .undef, .v .undef, .v .undef, .v .undef, .v .undef, .v .undef, .v .undef, .v .undef, .v .undef, .v .undef, .v .undef, .v .undef, .v .undef, .v .undef, .v .undef, .v .undef, .v .undef, .v .undef, .v .undef, .v .undef, .v .undef, .v .undef, .v .undef, .v .undef, .v .undef, .v .undef, .v .undef, .v .undef, .v .undef, .v .undef, .v .undef, .v .undef, .v .undef, .v .undef, .v .undef, .v .undef, .v .undef, .v .undef, .v .undef, .v .undef, .v .undef, .v .undef, .v .undef, .v .undef, .v .undef, .v .undef, .v .undef, .v .undef, .v .undef, .v .undef, .v .undef, .v .undef, .v .undef, .v .undef, .v .undef, .v .undef, .v .undef, .v .undef, .v .undef, .v .undef, .v .undef, .v .undef, .v .undef, .v .undef, .v .undef, .v .undef, .v .undef, .v .undef, .v .undef, .v .undef, .v .undef, .v .undef, .v .undef, .v .undef, .v .undef, .v .undef, .v .undef, .v .undef, .v .undef, .v .undef, .v .undef, .v .undef, .v .undef, .v .undef, .v .undef, .v .undef, .v .undef, .v .undef, .v .undef, .v .undef, .v .undef, .v .undef, .v .undef, .v .undef, .v .undef, .v .undef, .v .undef, .v .undef, .v .undef, .v .undef, .v .undef, .v .undef, .v .undef, .v .undef, .v .undef, .v .undef, .v .undef, .v .undef, .v .undef, .v .undef, .v .undef, .v .undef, .v .undef, .v .undef, .v .undef, .v .undef, .v .undef, .v .undef, .v .undef, .v .undef, .v .undef, .v .undef, .v .undef, .v .undef, .v .undef, .v .undef, .v .undef, .v .undef, .v .undef, .v .undef, .v .undef, .v .undef, .v .undef, .v .undef, .v .undef, .v .undef, .v .undef, .v .undef, .v .undef, .v .undef, .v .undef, .v .undef, .v .undef, .v .undef, .v .undef, .v .undef, .v .undef]
theorem kill7_26 : notes.kill 7 26 = [1, 2, 4, 9, 10, 13, 14, 15, 16, 17, 18, 19, 20, 21, 22, 23, 24, 25, 26, 27, 28, 29, 30, 31, 32, 33, 34, 35, 36, 37, 38, 39, 40, 41, 42, 43, 44, 45, 46, 47, 48, 49, 50, 51, 52, 53, 54, 55, 56, 57, 58, 59, 60, 61, 62, 63, 64, 65, 66, 67, 68, 69, 70, 71, 72, 73, 74, 75, 76, 77, 78, 79, 80, 81, 82, 83, 84, 85, 86, 87, 88, 89, 90, 91, 92, 93, 94, 95, 96, 97, 98, 99, 100, 101, 102, 103, 104, 105, 106, 107, 108, 109, 110, 111, 112, 113, 114, 115, 116, 117, 118, 119, 120, 121, 122, 123, 124, 125, 126, 127, 128, 129, 130, 131, 132, 133, 134, 135, 136, 137, 138, 139, 140, 141, 142, 143, 144, 145, 146, 147, 148, 149, 150, 151, 152, 153, 154, 155, 156, 157, 158, 159, 160, 161, 162, 163, 164, 165, 166, 167, 168] := rfl
theorem grow7_26 : notes.grow 7 26 = [] := rfl
/-- f7, loop at region 26: lives 0:l 3:d 5:funs 6:valid 7:i 8:a 11:now 12:k -/
def L7_26 (s0 s3 s5 s6 s7 s8 s11 s12 : Slot) : List Slot := [s0, .v .undef, .v .undef, s3, .v .undef, s5, s6, s7, s8, .v .undef, .v .undef, s11, s12, .v .undef, .v .undef, .v .undef, .v .undef, .v .undef, .v .undef, .v .undef, .v .undef, .v .undef, .v .undef, .v .undef, .v .undef, .v .undef, .v .undef, .v .undef, .v .undef, .v .undef, .v .undef, .v .undef, .v .undef, .v .undef, .v .undef, .v .undef, .v .undef, .v .undef, .v .undef, .v .undef, .v .undef, .v .undef, .v .undef, .v .undef, .v .undef, .v .undef, .v .undef, .v .undef, .v .undef, .v .undef, .v .undef, .v .undef, .v .undef, .v .undef, .v .undef, .v .undef, .v .undef, .v .undef, .v .undef, .v .undef, .v .undef, .v .undef, .v .undef, .v .undef, .v .undef, .v .undef, .v .undef, .v .undef, .v .undef, .v .undef, .v .undef, .v .undef, .v .undef, .v .undef, .v .undef, .v .undef, .v .undef, .v .undef, .v .undef, .v .undef, .v .undef, .v .undef, .v .undef, .v .undef, .v .undef, .v .undef, .v .undef, .v .undef, .v .undef, .v .undef, .v .undef, .v .undef, .v .undef, .v .undef, .v .undef, .v .undef, .v .undef, .v .undef, .v .undef, .v .undef, .v .undef, .v .undef, .v .undef, .v .undef, .v .undef, .v .undef, .v .undef, .v .undef, .v .undef, .v .undef, .v .undef, .v .undef, .v .undef, .v .undef, .v .undef, .v .undef, .v .undef, .v .undef, .v .undef, .v .undef, .v .undef, .v .undef, .v .undef, .v .undef, .v .undef, .v .undef, .v .undef, .v .undef, .v .undef, .v .undef, .v .undef, .v .undef, .v .undef, .v .undef, .v .undef, .v .undef, .v .undef, .v .undef, .v .undef, .v .undef, .v .undef, .v .undef, .v .undef, .v .undef, .v .undef, .v .undef, .v .undef, .v .undef, .v .undef, .v .undef, .v .undef, .v .undef, .v .undef, .v .undef, .v .undef, .v .undef, .v .undef, .v .undef, .v .undef, .v .undef, .v .undef, .v .undef, .v .undef, .v .undef, .v .undef, .v .undef, .v .undef, .v .undef, .v .undef]
theorem kill7_36 : notes.kill 7 36 = [1, 2, 4, 9, 10, 16, 17, 18, 19, 20, 21, 22, 23, 24, 25, 26, 27, 28, 29, 30, 31, 32, 33, 34, 35, 36, 37, 38, 39, 40, 41, 42, 43, 44, 45, 46, 47, 48, 49, 50, 51, 52, 53, 54, 55, 56, 57, 58, 59, 60, 61, 62, 63, 64, 65, 66, 67, 68, 69, 70, 71, 72, 73, 74, 75, 76, 77, 78, 79, 80, 81, 82, 83, 84, 85, 86, 87, 88, 89, 90, 91, 92, 93, 94, 95, 96, 97, 98, 99, 100, 101, 102, 103, 104, 105, 106, 107, 108, 109, 110, 111, 112, 113, 114, 115, 116, 117, 118, 119, 120, 121, 122, 123, 124, 125, 126, 127, 128, 129, 130, 131, 132, 133, 134, 135, 136, 137, 138, 139, 140, 141, 142, 143, 144, 145, 146, 147, 148, 149, 150, 151, 152, 153, 154, 155, 156, 157, 158, 159, 160, 161, 162, 163, 164, 165, 166, 167, 168] := rfl
theorem grow7_36 : notes.grow 7 36 = [] := rfl
/-- f7, loop at region 36: lives 0:l 3:d 5:funs 6:valid 7:i 8:a 11:now 12:k 13:ok 14:on 15:j -/
def L7_36 (s0 s3 s5 s6 s7 s8 s11 s12 s13 s14 s15 : Slot) : List Slot := [s0, .v .undef, .v .undef, s3, .v .undef, s5, s6, s7, s8, .v .undef, .v .undef, s11, s12, s13, s14, s15, .v .undef, .v .undef, .v .undef, .v .undef, .v .undef, .v .undef, .v .undef, .v .undef, .v .undef, .v .undef, .v .undef, .v .undef, .v .undef, .v .undef, .v .undef, .v .undef, .v .undef, .v .undef, .v .undef, .v .undef, .v .undef, .v .undef, .v .undef, .v .undef, .v .undef, .v .undef, .v .undef, .v .undef, .v .undef, .v .undef, .v .undef, .v .undef, .v .undef, .v .undef, .v .undef, .v .undef, .v .undef, .v .undef, .v .undef, .v .undef, .v .undef, .v .undef, .v .undef, .v .undef, .v .undef, .v .undef, .v .undef, .v .undef, .v .undef, .v .undef, .v .undef, .v .undef, .v .undef, .v .undef, .v .undef, .v .undef, .v .undef, .v .undef, .v .undef, .v .undef, .v .undef, .v .undef, .v .undef, .v .undef, .v .undef, .v .undef, .v .undef, .v .undef, .v .undef, .v .undef, .v .undef, .v .undef, .v .undef, .v .undef, .v .undef, .v .undef, .v .undef, .v .undef, .v .undef, .v .undef, .v .undef, .v .undef, .v .undef, .v .undef, .v .undef, .v .undef, .v .undef, .v .undef, .v .undef, .v .undef, .v .undef, .v .undef, .v .undef, .v .undef, .v .undef, .v .undef, .v .undef, .v .undef, .v .undef, .v .undef, .v .undef, .v .undef, .v .undef, .v .undef, .v .undef, .v .undef, .v .undef, .v .undef, .v .undef, .v .undef, .v .undef, .v .undef, .v .undef, .v .undef, .v .undef, .v .undef, .v .undef, .v .undef, .v .undef, .v .undef, .v .undef, .v .undef, .v .undef, .v .undef, .v .undef, .v .undef, .v .undef, .v .undef, .v .undef, .v .undef, .v .undef, .v .undef, .v .undef, .v .undef, .v .undef, .v .undef, .v .undef, .v .undef, .v .undef, .v .undef, .v .undef, .v .undef, .v .undef, .v .undef, .v .undef, .v .undef, .v .undef, .v .undef, .v .undef, .v .undef, .v .undef, .v .undef, .v .undef]
theorem kill7_41 : notes.kill 7 41 = [1, 2, 4, 8, 9, 10, 12, 13, 14, 15, 17, 18, 19, 20, 21, 22, 23, 24, 25, 26, 27, 28, 29, 30, 31, 32, 33, 34, 35, 36, 37, 38, 39, 40, 41, 42, 43, 44, 45, 46, 47, 48, 49, 50, 51, 52, 53, 54, 55, 56, 57, 58, 59, 60, 61, 62, 63, 64, 65, 66, 67, 68, 69, 70, 71, 72, 73, 74, 75, 76, 77, 78, 79, 80, 81, 82, 83, 84, 85, 86, 87, 88, 89, 90, 91, 92, 93, 94, 95, 96, 97, 98, 99, 100, 101, 102, 103, 104, 105, 106, 107, 108, 109, 110, 111, 112, 113, 114, 115, 116, 117, 118, 119, 120, 121, 122, 123, 124, 125, 126, 127, 128, 129, 130, 131, 132, 133, 134, 135, 136, 137, 138, 139, 140, 141, 142, 143, 144, 145, 146, 147, 148, 149, 150, 151, 152, 153, 154, 155, 156, 157, 158, 159, 160, 161, 162, 163, 164, 165, 166, 167, 168] := rfl
theorem grow7_41 : notes.grow 7 41 = [] := rfl
/-- f7, loop at region 41: lives 0:l 3:d 5:funs 6:valid 7:i 11:now 16:f -/
def L7_41 (s0 s3 s5 s6 s7 s11 s16 : Slot) : List Slot := [s0, .v .undef, .v .undef, s3, .v .undef, s5, s6, s7, .v .undef, .v .undef, .v .undef, s11, .v .undef, .v .undef, .v .undef, .v .undef, s16, .v .undef, .v .undef, .v .undef, .v .undef, .v .undef, .v .undef, .v .undef, .v .undef, .v .undef, .v .undef, .v .undef, .v .undef, .v .undef, .v .undef, .v .undef, .v .undef, .v .undef, .v .undef, .v .undef, .v .undef, .v .undef, .v .undef, .v .undef, .v .undef, .v .undef, .v .undef, .v .undef, .v .undef, .v .undef, .v .undef, .v .undef, .v .undef, .v .undef, .v .undef, .v .undef, .v .undef, .v .undef, .v .undef, .v .undef, .v .undef, .v .undef, .v .undef, .v .undef, .v .undef, .v .undef, .v .undef, .v .undef, .v .undef, .v .undef, .v .undef, .v .undef, .v .undef, .v .undef, .v .undef, .v .undef, .v .undef, .v .undef, .v .undef, .v .undef, .v .undef, .v .undef, .v .undef, .v .undef, .v .undef, .v .undef, .v .undef, .v .undef, .v .undef, .v .undef, .v .undef, .v .undef, .v .undef, .v .undef, .v .undef, .v .undef, .v .undef, .v .undef, .v .undef, .v .undef, .v .undef, .v .undef, .v .undef, .v .undef, .v .undef, .v .undef, .v .undef, .v .undef, .v .undef, .v .undef, .v .undef, .v .undef, .v .undef, .v .undef, .v .undef, .v .undef, .v .undef, .v .undef, .v .undef, .v .undef, .v .undef, .v .undef, .v .undef, .v .undef, .v .undef, .v .undef, .v .undef, .v .undef, .v .undef, .v .undef, .v .undef, .v .undef, .v .undef, .v .undef, .v .undef, .v .undef, .v .undef, .v .undef, .v .undef, .v .undef, .v .undef, .v .undef, .v .undef, .v .undef, .v .undef, .v .undef, .v .undef, .v .undef, .v .undef, .v .undef, .v .undef, .v .undef, .v .undef, .v .undef, .v .undef, .v .undef, .v .undef, .v .undef, .v .undef, .v .undef, .v .undef, .v .undef, .v .undef, .v .undef, .v .undef, .v .undef, .v .undef, .v .undef, .v .undef, .v .undef, .v .undef, .v .undef, .v .undef]
theorem mode7_20 : notes.mode 7 20 = .priv := rfl
theorem mode7_21 : notes.mode 7 21 = .priv := rfl
theorem mode7_23 : notes.mode 7 23 = .priv := rfl
theorem mode7_24 : notes.mode 7 24 = .priv := rfl
theorem mode7_25 : notes.mode 7 25 = .priv := rfl
theorem mode7_27 : notes.mode 7 27 = .priv := rfl
theorem mode7_8 : notes.mode 7 8 = .priv := rfl
theorem mode7_53 : notes.mode 7 53 = .priv := rfl
theorem mode7_54 : notes.mode 7 54 = .priv := rfl
theorem mode7_55 : notes.mode 7 55 = .priv := rfl
theorem mode7_57 : notes.mode 7 57 = .priv := rfl
theorem mode7_66 : notes.mode 7 66 = .priv := rfl
theorem mode7_67 : notes.mode 7 67 = .priv := rfl
theorem mode7_69 : notes.mode 7 69 = .priv := rfl
theorem mode7_70 : notes.mode 7 70 = .heap := rfl
theorem mode7_78 : notes.mode 7 78 = .priv := rfl
theorem mode7_84 : notes.mode 7 84 = .priv := rfl
theorem mode7_11 : notes.mode 7 11 = .priv := rfl
theorem mode7_93 : notes.mode 7 93 = .priv := rfl
theorem mode7_117 : notes.mode 7 117 = .priv := rfl
theorem mode7_157 : notes.mode 7 157 = .priv := rfl
theorem mode7_158 : notes.mode 7 158 = .priv := rfl
theorem mode7_159 : notes.mode 7 159 = .priv := rfl
theorem mode7_168 : notes.mode 7 168 = .priv := rfl
theorem f7 : Try.prog.funcs[7]? = some Try.f7 := by kernel_rfl
theorem r7 : Try.f7.results.toList = [.tmp 2] := rfl
theorem n7 : Try.f7.ntmps = 169 := rfl
theorem b7 : Try.f7.body = some (bodyOf Try.f7) := rfl
def alts7_38 : List (Nat × Nat × Nat) := []
theorem mode8_13 : notes.mode 8 13 = .priv := rfl
theorem mode8_14 : notes.mode 8 14 = .priv := rfl
theorem mode8_15 : notes.mode 8 15 = .priv := rfl
theorem mode8_17 : notes.mode 8 17 = .priv := rfl
theorem mode8_26 : notes.mode 8 26 = .imm := rfl
theorem mode8_27 : notes.mode 8 27 = .priv := rfl
theorem mode8_28 : notes.mode 8 28 = .priv := rfl
theorem mode8_29 : notes.mode 8 29 = .priv := rfl
theorem mode8_32 : notes.mode 8 32 = .priv := rfl
theorem mode8_33 : notes.mode 8 33 = .priv := rfl
theorem mode8_34 : notes.mode 8 34 = .priv := rfl
theorem mode8_36 : notes.mode 8 36 = .priv := rfl
theorem mode8_39 : notes.mode 8 39 = .priv := rfl
theorem mode8_40 : notes.mode 8 40 = .priv := rfl
theorem mode8_41 : notes.mode 8 41 = .priv := rfl
theorem mode8_44 : notes.mode 8 44 = .priv := rfl
theorem mode8_45 : notes.mode 8 45 = .priv := rfl
theorem mode8_46 : notes.mode 8 46 = .priv := rfl
theorem mode8_48 : notes.mode 8 48 = .priv := rfl
theorem mode8_50 : notes.mode 8 50 = .priv := rfl
theorem mode8_71 : notes.mode 8 71 = .imm := rfl
theorem mode8_72 : notes.mode 8 72 = .priv := rfl
theorem mode8_76 : notes.mode 8 76 = .priv := rfl
theorem mode8_81 : notes.mode 8 81 = .priv := rfl
theorem f8 : Try.prog.funcs[8]? = some Try.f8 := by kernel_rfl
theorem r8 : Try.f8.results.toList = [.tmp 0] := rfl
theorem n8 : Try.f8.ntmps = 83 := rfl
theorem b8 : Try.f8.body = some (bodyOf Try.f8) := rfl
theorem mode9_24 : notes.mode 9 24 = .heap := rfl
theorem f9 : Try.prog.funcs[9]? = some Try.f9 := by kernel_rfl
theorem r9 : Try.f9.results.toList = [.tmp 4, .tmp 5] := rfl
theorem n9 : Try.f9.ntmps = 25 := rfl
theorem b9 : Try.f9.body = some (bodyOf Try.f9) := rfl
theorem f10 : Try.prog.funcs[10]? = some Try.f10 := by kernel_rfl
theorem r10 : Try.f10.results.toList = [.tmp 2] := rfl
theorem n10 : Try.f10.ntmps = 4 := rfl
theorem b10 : Try.f10.body = some (bodyOf Try.f10) := rfl
theorem mode11_15 : notes.mode 11 15 = .priv := rfl
theorem mode11_19 : notes.mode 11 19 = .priv := rfl
theorem mode11_20 : notes.mode 11 20 = .priv := rfl
theorem mode11_21 : notes.mode 11 21 = .priv := rfl
theorem mode11_47 : notes.mode 11 47 = .imm := rfl
theorem mode11_49 : notes.mode 11 49 = .heap := rfl
theorem mode11_50 : notes.mode 11 50 = .priv := rfl
theorem mode11_51 : notes.mode 11 51 = .priv := rfl
theorem f11 : Try.prog.funcs[11]? = some Try.f11 := by kernel_rfl
theorem r11 : Try.f11.results.toList = [.tmp 6, .tmp 7] := rfl
theorem n11 : Try.f11.ntmps = 60 := rfl
theorem b11 : Try.f11.body = some (bodyOf Try.f11) := rfl
def alts11_11 : List (Nat × Nat × Nat) := [(4, 0, 1), (4, 0, 2), (4, 0, 3)]
theorem mode12_30 : notes.mode 12 30 = .priv := rfl
theorem f12 : Try.prog.funcs[12]? = some Try.f12 := by kernel_rfl
theorem r12 : Try.f12.results.toList = [.tmp 4] := rfl
theorem n12 : Try.f12.ntmps = 31 := rfl
theorem b12 : Try.f12.body = some (bodyOf Try.f12) := rfl
theorem kill13_4 : notes.kill 13 4 = [2, 3, 4, 6, 7, 8, 9, 10, 11, 12, 13, 14, 15, 16, 17, 18, 19, 20, 21, 22, 23, 24, 25] := rfl
theorem grow13_4 : notes.grow 13 4 = [] := rfl
/-- f13, loop at region 4: lives 0:a 1:b 5:i -/
def L13_4 (s0 s1 s5 : Slot) : List Slot := [s0, s1, .v .undef, .v .undef, .v .undef, s5, .v .undef, .v .undef, .v .undef, .v .undef, .v .undef, .v .undef, .v .undef, .v .undef, .v .undef, .v .undef, .v .undef, .v .undef, .v .undef, .v .undef, .v .undef, .v .undef, .v .undef, .v .undef, .v .undef, .v .undef]
theorem f13 : Try.prog.funcs[13]? = some Try.f13 := by kernel_rfl
theorem r13 : Try.f13.results.toList = [.tmp 4] := rfl
theorem n13 : Try.f13.ntmps = 26 := rfl
theorem b13 : Try.f13.body = some (bodyOf Try.f13) := rfl
def alts13_6 : List (Nat × Nat × Nat) := []
theorem mode14_27 : notes.mode 14 27 = .priv := rfl
theorem f14 : Try.prog.funcs[14]? = some Try.f14 := by kernel_rfl
theorem r14 : Try.f14.results.toList = [.tmp 6, .tmp 7] := rfl
theorem n14 : Try.f14.ntmps = 28 := rfl
theorem b14 : Try.f14.body = some (bodyOf Try.f14) := rfl
theorem f15 : Try.prog.funcs[15]? = some Try.f15 := by kernel_rfl
theorem r15 : Try.f15.results.toList = [.tmp 4] := rfl
theorem n15 : Try.f15.ntmps = 32 := rfl
theorem b15 : Try.f15.body = some (bodyOf Try.f15) := rfl
theorem kill16_4 : notes.kill 16 4 = [1, 2, 4, 5, 6, 7, 8, 9, 10, 11, 12, 13, 14, 15, 16, 17, 18, 19] := rfl
theorem grow16_4 : notes.grow 16 4 = [] := rfl
/-- f16, loop at region 4: lives 0:l 3:i -/
def L16_4 (s0 s3 : Slot) : List Slot := [s0, .v .undef, .v .undef, s3, .v .undef, .v .undef, .v .undef, .v .undef, .v .undef, .v .undef, .v .undef, .v .undef, .v .undef, .v .undef, .v .undef, .v .undef, .v .undef, .v .undef, .v .undef, .v .undef]
theorem f16 : Try.prog.funcs[16]? = some Try.f16 := by kernel_rfl
theorem r16 : Try.f16.results.toList = [.tmp 2] := rfl
theorem n16 : Try.f16.ntmps = 20 := rfl
theorem b16 : Try.f16.body = some (bodyOf Try.f16) := rfl
theorem mode17_23 : notes.mode 17 23 = .priv := rfl
theorem f17 : Try.prog.funcs[17]? = some Try.f17 := by kernel_rfl
theorem r17 : Try.f17.results.toList = [.tmp 4] := rfl
theorem n17 : Try.f17.ntmps = 24 := rfl
theorem b17 : Try.f17.body = some (bodyOf Try.f17) := rfl
theorem mode18_4 : notes.mode 18 4 = .priv := rfl
theorem f18 : Try.prog.funcs[18]? = some Try.f18 := by kernel_rfl
theorem r18 : Try.f18.results.toList = [.cell 4 50, .tmp 5] := rfl
theorem n18 : Try.f18.ntmps = 24 := rfl
theorem b18 : Try.f18.body = some (bodyOf Try.f18) := rfl
theorem mode19_4 : notes.mode 19 4 = .priv := rfl
theorem mode19_5 : notes.mode 19 5 = .priv := rfl
theorem mode19_6 : notes.mode 19 6 = .priv := rfl
theorem mode19_31 : notes.mode 19 31 = .priv := rfl
theorem mode19_32 : notes.mode 19 32 = .priv := rfl
theorem mode19_33 : notes.mode 19 33 = .priv := rfl
theorem mode19_40 : notes.mode 19 40 = .priv := rfl
theorem mode19_41 : notes.mode 19 41 = .priv := rfl
theorem mode19_42 : notes.mode 19 42 = .priv := rfl
theorem mode19_43 : notes.mode 19 43 = .priv := rfl
theorem mode19_10 : notes.mode 19 10 = .priv := rfl
theorem mode19_50 : notes.mode 19 50 = .priv := rfl
theorem mode19_62 : notes.mode 19 62 = .priv := rfl
theorem mode19_63 : notes.mode 19 63 = .priv := rfl
theorem mode19_64 : notes.mode 19 64 = .priv := rfl
theorem mode19_71 : notes.mode 19 71 = .priv := rfl
theorem mode19_72 : notes.mode 19 72 = .priv := rfl
theorem mode19_73 : notes.mode 19 73 = .priv := rfl
theorem mode19_74 : notes.mode 19 74 = .priv := rfl
theorem mode19_15 : notes.mode 19 15 = .priv := rfl
theorem mode19_78 : notes.mode 19 78 = .priv := rfl
theorem mode19_81 : notes.mode 19 81 = .priv := rfl
theorem mode19_90 : notes.mode 19 90 = .priv := rfl
theorem mode19_95 : notes.mode 19 95 = .priv := rfl
theorem mode19_96 : notes.mode 19 96 = .priv := rfl
theorem mode19_97 : notes.mode 19 97 = .priv := rfl
theorem mode19_19 : notes.mode 19 19 = .priv := rfl
theorem mode19_100 : notes.mode 19 100 = .priv := rfl
theorem f19 : Try.prog.funcs[19]? = some Try.f19 := by kernel_rfl
theorem r19 : Try.f19.results.toList = [.cell 6 50, .tmp 7] := rfl
theorem n19 : Try.f19.ntmps = 104 := rfl
theorem b19 : Try.f19.body = some (bodyOf Try.f19) := rfl
def alts19_5 : List (Nat × Nat × Nat) := [(0, 0, 1), (8, 0, 2), (8, 1, 1), (8, 1, 2), (9, 0, 2), (9, 1, 1), (9, 1, 2)]
def alts19_9 : List (Nat × Nat × Nat) := [(0, 0, 1), (0, 0, 2), (8, 0, 3), (8, 1, 2), (8, 1, 3), (9, 0, 3), (9, 1, 2), (9, 1, 3)]
def alts19_13 : List (Nat × Nat × Nat) := [(0, 0, 1), (4, 0, 2), (4, 1, 1), (4, 1, 2)]
theorem mode20_4 : notes.mode 20 4 = .priv := rfl
theorem mode20_26 : notes.mode 20 26 = .priv := rfl
theorem mode20_41 : notes.mode 20 41 = .priv := rfl
theorem mode20_48 : notes.mode 20 48 = .priv := rfl
theorem mode20_57 : notes.mode 20 57 = .priv := rfl
theorem mode20_73 : notes.mode 20 73 = .priv := rfl
theorem mode20_74 : notes.mode 20 74 = .priv := rfl
theorem mode20_75 : notes.mode 20 75 = .priv := rfl
theorem mode20_79 : notes.mode 20 79 = .priv := rfl
theorem mode20_80 : notes.mode 20 80 = .priv := rfl
theorem mode20_81 : notes.mode 20 81 = .priv := rfl
theorem mode20_85 : notes.mode 20 85 = .priv := rfl
theorem mode20_86 : notes.mode 20 86 = .priv := rfl
theorem mode20_87 : notes.mode 20 87 = .priv := rfl
theorem mode20_89 : notes.mode 20 89 = .priv := rfl
theorem f20 : Try.prog.funcs[20]? = some Try.f20 := by kernel_rfl
theorem r20 : Try.f20.results.toList = [.tmp 6] := rfl
theorem n20 : Try.f20.ntmps = 132 := rfl
theorem b20 : Try.f20.body = some (bodyOf Try.f20) := rfl
def alts20_4 : List (Nat × Nat × Nat) := [(6, 0, 0), (8, 0, 0), (10, 0, 0)]
theorem f21 : Try.prog.funcs[21]? = some Try.f21 := by kernel_rfl
theorem r21 : Try.f21.results.toList = [.tmp 4, .tmp 5] := rfl
theorem n21 : Try.f21.ntmps = 28 := rfl
theorem b21 : Try.f21.body = some (bodyOf Try.f21) := rfl
theorem kill22_4 : notes.kill 22 4 = [0, 2, 3, 4, 5, 6, 7, 8, 9, 10, 11, 12, 16, 17, 18, 19, 20, 21, 22, 23, 24, 25, 26, 27, 28, 29, 30, 31, 32, 33] := rfl
theorem grow22_4 : notes.grow 22 4 = [] := rfl
/-- f22, loop at region 4: lives 1:f 13: 14: 15: -/
def L22_4 (s1 s13 s14 s15 : Slot) : List Slot := [.v .undef, s1, .v .undef, .v .undef, .v .undef, .v .undef, .v .undef, .v .undef, .v .undef, .v .undef, .v .undef, .v .undef, .v .undef, s13, s14, s15, .v .undef, .v .undef, .v .undef, .v .undef, .v .undef, .v .undef, .v .undef, .v .undef, .v .undef, .v .undef, .v .undef, .v .undef, .v .undef, .v .undef, .v .undef, .v .undef, .v .undef, .v .undef]
theorem f22 : Try.prog.funcs[22]? = some Try.f22 := by kernel_rfl
theorem r22 : Try.f22.results.toList = [.tmp 4, .tmp 5] := rfl
theorem n22 : Try.f22.ntmps = 34 := rfl
theorem b22 : Try.f22.body = some (bodyOf Try.f22) := rfl
theorem kill23_4 : notes.kill 23 4 = [2, 3, 4, 6, 7, 8, 9, 10, 11, 12, 13, 14, 15, 16, 17, 18, 19, 20, 21, 22, 23, 24, 25] := rfl
theorem grow23_4 : notes.grow 23 4 = [] := rfl
/-- f23, loop at region 4: lives 0:a 1:b 5:i -/
def L23_4 (s0 s1 s5 : Slot) : List Slot := [s0, s1, .v .undef, .v .undef, .v .undef, s5, .v .undef, .v .undef, .v .undef, .v .undef, .v .undef, .v .undef, .v .undef, .v .undef, .v .undef, .v .undef, .v .undef, .v .undef, .v .undef, .v .undef, .v .undef, .v .undef, .v .undef, .v .undef, .v .undef, .v .undef]
theorem f23 : Try.prog.funcs[23]? = some Try.f23 := by kernel_rfl
theorem r23 : Try.f23.results.toList = [.tmp 4] := rfl
theorem n23 : Try.f23.ntmps = 26 := rfl
theorem b23 : Try.f23.body = some (bodyOf Try.f23) := rfl
def alts23_6 : List (Nat × Nat × Nat) := []
theorem mode24_3 : notes.mode 24 3 = .imm := rfl
theorem mode24_20 : notes.mode 24 20 = .priv := rfl
theorem mode24_22 : notes.mode 24 22 = .priv := rfl
theorem f24 : Try.prog.funcs[24]? = some Try.f24 := by kernel_rfl
theorem r24 : Try.f24.results.toList = [.tmp 6] := rfl
theorem n24 : Try.f24.ntmps = 24 := rfl
theorem b24 : Try.f24.body = some (bodyOf Try.f24) := rfl
theorem mode25_5 : notes.mode 25 5 = .priv := rfl
theorem mode25_7 : notes.mode 25 7 = .heap := rfl
theorem f25 : Try.prog.funcs[25]? = some Try.f25 := by kernel_rfl
theorem r25 : Try.f25.results.toList = [.tmp 2] := rfl
theorem n25 : Try.f25.ntmps = 8 := rfl
theorem b25 : Try.f25.body = some (bodyOf Try.f25) := rfl
theorem kill26_3 : notes.kill 26 3 = [0, 2, 3, 4, 6, 7, 8, 9, 10, 14, 15, 16, 17, 18, 19, 20, 21, 22, 23, 24, 25, 26, 27, 28, 29, 30, 31, 32, 33, 34, 35, 36] := rfl
theorem grow26_3 : notes.grow 26 3 = [] := rfl
/-- f26, loop at region 3: lives 1:x 5:out 11: 12: 13: -/
def L26_3 (s1 s5 s11 s12 s13 : Slot) : List Slot := [.v .undef, s1, .v .undef, .v .undef, .v .undef, s5, .v .undef, .v .undef, .v .undef, .v .undef, .v .undef, s11, s12, s13, .v .undef, .v .undef, .v .undef, .v .undef, .v .undef, .v .undef, .v .undef, .v .undef, .v .undef, .v .undef, .v .undef, .v .undef, .v .undef, .v .undef, .v .undef, .v .undef, .v .undef, .v .undef, .v .undef, .v .undef, .v .undef, .v .undef, .v .undef]
theorem mode26_26 : notes.mode 26 26 = .priv := rfl
theorem mode26_33 : notes.mode 26 33 = .priv := rfl
theorem mode26_34 : notes.mode 26 34 = .heap := rfl
theorem f26 : Try.prog.funcs[26]? = some Try.f26 := by kernel_rfl
theorem r26 : Try.f26.results.toList = [.tmp 4] := rfl
theorem n26 : Try.f26.ntmps = 37 := rfl
theorem b26 : Try.f26.body = some (bodyOf Try.f26) := rfl
theorem kill27_4 : notes.kill 27 4 = [0, 4, 5, 7, 8, 10, 11, 12, 13, 14, 15, 16, 17, 18, 19, 20, 21, 22, 23, 24, 25, 26, 27, 28, 29, 30, 31, 32, 33, 34, 35, 36, 37, 38, 39, 40, 41, 42, 43, 44, 45, 46, 47, 48, 49, 50, 51, 52, 53, 54, 55, 56, 57, 58, 59, 60, 61, 62, 63, 64, 65, 66, 67, 68, 69, 70, 71, 72, 73, 74, 75, 76, 77, 78, 79, 80, 81, 82, 83, 84, 85, 86, 87, 88, 89, 90, 91, 92] := rfl
theorem grow27_4 : notes.grow 27 4 = [] := rfl
/-- f27, loop at region 4: lives 1:f 2:l 3:d 6: 9:i -/
def L27_4 (s1 s2 s3 s6 s9 : Slot) : List Slot := [.v .undef, s1, s2, s3, .v .undef, .v .undef, s6, .v .undef, .v .undef, s9, .v .undef, .v .undef, .v .undef, .v .undef, .v .undef, .v .undef, .v .undef, .v .undef, .v .undef, .v .undef, .v .undef, .v .undef, .v .undef, .v .undef, .v .undef, .v .undef, .v .undef, .v .undef, .v .undef, .v .undef, .v .undef, .v .undef, .v .undef, .v .undef, .v .undef, .v .undef, .v .undef, .v .undef, .v .undef, .v .undef, .v .undef, .v .undef, .v .undef, .v .undef, .v .undef, .v .undef, .v .undef, .v .undef, .v .undef, .v .undef, .v .undef, .v .undef, .v .undef, .v .undef, .v .undef, .v .undef, .v .undef, .v .undef, .v .undef, .v .undef, .v .undef, .v .undef, .v .undef, .v .undef, .v .undef, .v .undef, .v .undef, .v .undef, .v .undef, .v .undef, .v .undef, .v .undef, .v .undef, .v .undef, .v .undef, .v .undef, .v .undef, .v .undef, .v .undef, .v .undef, .v .undef, .v .undef, .v .undef, .v .undef, .v .undef, .v .undef, .v .undef, .v .undef, .v .undef, .v .undef, .v .undef, .v .undef, .v .undef]
theorem kill27_9 : notes.kill 27 9 = [0, 4, 5, 7, 8, 11, 12, 13, 14, 15, 16, 17, 18, 19, 20, 21, 22, 23, 24, 25, 26, 27, 28, 29, 30, 31, 32, 33, 34, 35, 36, 37, 38, 39, 40, 41, 42, 43, 44, 45, 46, 47, 48, 49, 50, 51, 52, 53, 54, 55, 56, 57, 58, 59, 60, 61, 62, 63, 64, 65, 66, 67, 68, 69, 70, 71, 72, 73, 74, 75, 76, 77, 78, 79, 80, 81, 82, 83, 84, 85, 86, 87, 88, 89, 90, 91, 92] := rfl
theorem grow27_9 : notes.grow 27 9 = [] := rfl
/-- f27, loop at region 9: lives 1:f 2:l 3:d 6: 9:i 10:k -/
def L27_9 (s1 s2 s3 s6 s9 s10 : Slot) : List Slot := [.v .undef, s1, s2, s3, .v .undef, .v .undef, s6, .v .undef, .v .undef, s9, s10, .v .undef, .v .undef, .v .undef, .v .undef, .v .undef, .v .undef, .v .undef, .v .undef, .v .undef, .v .undef, .v .undef, .v .undef, .v .undef, .v .undef, .v .undef, .v .undef, .v .undef, .v .undef, .v .undef, .v .undef, .v .undef, .v .undef, .v .undef, .v .undef, .v .undef, .v .undef, .v .undef, .v .undef, .v .undef, .v .undef, .v .undef, .v .undef, .v .undef, .v .undef, .v .undef, .v .undef, .v .undef, .v .undef, .v .undef, .v .undef, .v .undef, .v .undef, .v .undef, .v .undef, .v .undef, .v .undef, .v .undef, .v .undef, .v .undef, .v .undef, .v .undef, .v .undef, .v .undef, .v .undef, .v .undef, .v .undef, .v .undef, .v .undef, .v .undef, .v .undef, .v .undef, .v .undef, .v .undef, .v .undef, .v .undef, .v .undef, .v .undef, .v .undef, .v .undef, .v .undef, .v .undef, .v .undef, .v .undef, .v .undef, .v .undef, .v .undef, .v .undef, .v .undef, .v .undef, .v .undef, .v .undef, .v .undef]
theorem mode27_3 : notes.mode 27 3 = .priv := rfl
theorem mode27_6 : notes.mode 27 6 = .priv := rfl
theorem mode27_66 : notes.mode 27 66 = .priv := rfl
theorem mode27_67 : notes.mode 27 67 = .priv := rfl
theorem mode27_68 : notes.mode 27 68 = .priv := rfl
theorem mode27_76 : notes.mode 27 76 = .priv := rfl
theorem mode27_78 : notes.mode 27 78 = .priv := rfl
theorem mode27_13 : notes.mode 27 13 = .priv := rfl
theorem mode27_80 : notes.mode 27 80 = .priv := rfl
theorem mode27_83 : notes.mode 27 83 = .priv := rfl
theorem mode27_85 : notes.mode 27 85 = .imm := rfl
theorem mode27_86 : notes.mode 27 86 = .priv := rfl
theorem f27 : Try.prog.funcs[27]? = some Try.f27 := by kernel_rfl
theorem r27 : Try.f27.results.toList = [.cell 6 50, .tmp 7, .tmp 8] := rfl
theorem n27 : Try.f27.ntmps = 93 := rfl
theorem b27 : Try.f27.body = some (bodyOf Try.f27) := rfl
def alts27_6 : List (Nat × Nat × Nat) := []
def alts27_11 : List (Nat × Nat × Nat) := []
def alts27_19 : List (Nat × Nat × Nat) := [(2, 0, 0), (4, 0, 0), (4, 0, 1), (5, 0, 0), (5, 0, 1)]
def alts27_20 : List (Nat × Nat × Nat) := [(2, 0, 1), (2, 1, 0), (2, 1, 1), (3, 0, 1), (3, 1, 0), (3, 1, 1), (4, 0, 1), (4, 1, 0), (4, 1, 1)]
theorem kill28_6 : notes.kill 28 6 = [0, 4, 5, 7, 8, 12, 13, 14, 15, 16, 17, 18, 19, 20, 21, 22, 23, 24, 25, 26, 27, 28, 29, 30, 31, 32, 33, 34, 35, 36, 37, 38, 39, 40, 41, 42, 43, 44, 45, 46, 47, 48, 49, 50, 51, 52, 53, 54, 55, 56, 57, 58, 59, 60, 61, 62, 63, 64, 65, 66, 67, 68, 69, 70, 71, 72, 73, 74, 75, 76, 77, 78, 79, 80, 81, 82, 83, 84, 85, 86, 87, 88, 89] := rfl
theorem grow28_6 : notes.grow 28 6 = [(9, none)] := rfl
/-- f28, loop at region 6: lives 1:g 2:v 3:d 6: 9:out 10:all 11:i -/
def L28_6 (s1 s2 s3 s6 s9 s10 s11 : Slot) : List Slot := [.v .undef, s1, s2, s3, .v .undef, .v .undef, s6, .v .undef, .v .undef, s9, s10, s11, .v .undef, .v .undef, .v .undef, .v .undef, .v .undef, .v .undef, .v .undef, .v .undef, .v .undef, .v .undef, .v .undef, .v .undef, .v .undef, .v .undef, .v .undef, .v .undef, .v .undef, .v .undef, .v .undef, .v .undef, .v .undef, .v .undef, .v .undef, .v .undef, .v .undef, .v .undef, .v .undef, .v .undef, .v .undef, .v .undef, .v .undef, .v .undef, .v .undef, .v .undef, .v .undef, .v .undef, .v .undef, .v .undef, .v .undef, .v .undef, .v .undef, .v .undef, .v .undef, .v .undef, .v .undef, .v .undef, .v .undef, .v .undef, .v .undef, .v .undef, .v .undef, .v .undef, .v .undef, .v .undef, .v .undef, .v .undef, .v .undef, .v .undef, .v .undef, .v .undef, .v .undef, .v .undef, .v .undef, .v .undef, .v .undef, .v .undef, .v .undef, .v .undef, .v .undef, .v .undef, .v .undef, .v .undef, .v .undef, .v .undef, .v .undef, .v .undef, .v .undef, .v .undef]
theorem kill28_10 : notes.kill 28 10 = [0, 4, 5, 7, 8, 14, 15, 16, 17, 18, 19, 20, 21, 22, 23, 24, 25, 26, 27, 28, 29, 30, 31, 32, 33, 34, 35, 36, 37, 38, 39, 40, 41, 42, 43, 44, 45, 46, 47, 48, 49, 50, 51, 52, 53, 54, 55, 56, 57, 58, 59, 60, 61, 62, 63, 64, 65, 66, 67, 68, 69, 70, 71, 72, 73, 74, 75, 76, 77, 78, 79, 80, 81, 82, 83, 84, 85, 86, 87, 88, 89] := rfl
theorem grow28_10 : notes.grow 28 10 = [] := rfl
/-- f28, loop at region 10: lives 1:g 2:v 3:d 6: 9:out 10:all 11:i 12:hit 13:k -/
def L28_10 (s1 s2 s3 s6 s9 s10 s11 s12 s13 : Slot) : List Slot := [.v .undef, s1, s2, s3, .v .undef, .v .undef, s6, .v .undef, .v .undef, s9, s10, s11, s12, s13, .v .undef, .v .undef, .v .undef, .v .undef, .v .undef, .v .undef, .v .undef, .v .undef, .v .undef, .v .undef, .v .undef, .v .undef, .v .undef, .v .undef, .v .undef, .v .undef, .v .undef, .v .undef, .v .undef, .v .undef, .v .undef, .v .undef, .v .undef, .v .undef, .v .undef, .v .undef, .v .undef, .v .undef, .v .undef, .v .undef, .v .undef, .v .undef, .v .undef, .v .undef, .v .undef, .v .undef, .v .undef, .v .undef, .v .undef, .v .undef, .v .undef, .v .undef, .v .undef, .v .undef, .v .undef, .v .undef, .v .undef, .v .undef, .v .undef, .v .undef, .v .undef, .v .undef, .v .undef, .v .undef, .v .undef, .v .undef, .v .undef, .v .undef, .v .undef, .v .undef, .v .undef, .v .undef, .v .undef, .v .undef, .v .undef, .v .undef, .v .undef, .v .undef, .v .undef, .v .undef, .v .undef, .v .undef, .v .undef, .v .undef, .v .undef, .v .undef]
theorem mode28_3 : notes.mode 28 3 = .priv := rfl
theorem mode28_6 : notes.mode 28 6 = .priv := rfl
theorem mode28_23 : notes.mode 28 23 = .priv := rfl
theorem mode28_26 : notes.mode 28 26 = .heap := rfl
theorem mode28_84 : notes.mode 28 84 = .priv := rfl
theorem mode28_85 : notes.mode 28 85 = .priv := rfl
theorem f28 : Try.prog.funcs[28]? = some Try.f28 := by kernel_rfl
theorem r28 : Try.f28.results.toList = [.cell 6 50, .tmp 7, .tmp 8] := rfl
theorem n28 : Try.f28.ntmps = 90 := rfl
theorem b28 : Try.f28.body = some (bodyOf Try.f28) := rfl
theorem mode29_2 : notes.mode 29 2 = .priv := rfl
theorem mode29_4 : notes.mode 29 4 = .priv := rfl
theorem mode29_16 : notes.mode 29 16 = .priv := rfl
theorem mode29_19 : notes.mode 29 19 = .heap := rfl
theorem f29 : Try.prog.funcs[29]? = some Try.f29 := by kernel_rfl
theorem r29 : Try.f29.results.toList = [.cell 4 50, .tmp 5] := rfl
theorem n29 : Try.f29.ntmps = 27 := rfl
theorem b29 : Try.f29.body = some (bodyOf Try.f29) := rfl
theorem kill30_3 : notes.kill 30 3 = [0, 3, 4, 5, 9, 10, 11, 12, 13, 14, 15, 16, 17, 18, 19, 20, 21, 22, 23, 24, 25, 26, 27, 28, 29, 30, 31, 32, 33, 34] := rfl
theorem grow30_3 : notes.grow 30 3 = [] := rfl
/-- f30, loop at region 3: lives 1:f 2:d 6:n 7:id 8:i -/
def L30_3 (s1 s2 s6 s7 s8 : Slot) : List Slot := [.v .undef, s1, s2, .v .undef, .v .undef, .v .undef, s6, s7, s8, .v .undef, .v .undef, .v .undef, .v .undef, .v .undef, .v .undef, .v .undef, .v .undef, .v .undef, .v .undef, .v .undef, .v .undef, .v .undef, .v .undef, .v .undef, .v .undef, .v .undef, .v .undef, .v .undef, .v .undef, .v .undef, .v .undef, .v .undef, .v .undef, .v .undef, .v .undef]
theorem mode30_2 : notes.mode 30 2 = .priv := rfl
theorem f30 : Try.prog.funcs[30]? = some Try.f30 := by kernel_rfl
theorem r30 : Try.f30.results.toList = [.tmp 4, .tmp 5] := rfl
theorem n30 : Try.f30.ntmps = 35 := rfl
theorem b30 : Try.f30.body = some (bodyOf Try.f30) := rfl
theorem mode31_7 : notes.mode 31 7 = .priv := rfl
theorem f31 : Try.prog.funcs[31]? = some Try.f31 := by kernel_rfl
theorem r31 : Try.f31.results.toList = [.tmp 4] := rfl
theorem n31 : Try.f31.ntmps = 9 := rfl
theorem b31 : Try.f31.body = some (bodyOf Try.f31) := rfl
theorem mode32_2 : notes.mode 32 2 = .priv := rfl
theorem f32 : Try.prog.funcs[32]? = some Try.f32 := by kernel_rfl
theorem r32 : Try.f32.results.toList = [.tmp 3] := rfl
theorem n32 : Try.f32.ntmps = 16 := rfl
theorem b32 : Try.f32.body = some (bodyOf Try.f32) := rfl
def alts32_1 : List (Nat × Nat × Nat) := []
theorem kill33_3 : notes.kill 33 3 = [2, 3, 4, 6, 7, 8, 12, 13, 14, 15, 16, 17, 18, 19, 20, 21, 22, 23, 24, 25, 26] := rfl
theorem grow33_3 : notes.grow 33 3 = [] := rfl
/-- f33, loop at region 3: lives 0:l 1:key 5:seen 9: 10: 11: -/
def L33_3 (s0 s1 s5 s9 s10 s11 : Slot) : List Slot := [s0, s1, .v .undef, .v .undef, .v .undef, s5, .v .undef, .v .undef, .v .undef, s9, s10, s11, .v .undef, .v .undef, .v .undef, .v .undef, .v .undef, .v .undef, .v .undef, .v .undef, .v .undef, .v .undef, .v .undef, .v .undef, .v .undef, .v .undef, .v .undef]
theorem mode33_7 : notes.mode 33 7 = .priv := rfl
theorem mode33_18 : notes.mode 33 18 = .priv := rfl
theorem f33 : Try.prog.funcs[33]? = some Try.f33 := by kernel_rfl
theorem r33 : Try.f33.results.toList = [.tmp 4] := rfl
theorem n33 : Try.f33.ntmps = 27 := rfl
theorem b33 : Try.f33.body = some (bodyOf Try.f33) := rfl
theorem mode34_1 : notes.mode 34 1 = .priv := rfl
theorem f34 : Try.prog.funcs[34]? = some Try.f34 := by kernel_rfl
theorem r34 : Try.f34.results.toList = [.tmp 2] := rfl
theorem n34 : Try.f34.ntmps = 5 := rfl
theorem b34 : Try.f34.body = some (bodyOf Try.f34) := rfl
theorem kill35_2 : notes.kill 35 2 = [2, 3, 4, 5, 6, 9, 10, 11, 12, 13, 14, 15, 16, 17, 18] := rfl
theorem grow35_2 : notes.grow 35 2 = [] := rfl
/-- f35, loop at region 2: lives 0:s 1:f 7: 8: -/
def L35_2 (s0 s1 s7 s8 : Slot) : List Slot := [s0, s1, .v .undef, .v .undef, .v .undef, .v .undef, .v .undef, s7, s8, .v .undef, .v .undef, .v .undef, .v .undef, .v .undef, .v .undef, .v .undef, .v .undef, .v .undef, .v .undef]
theorem mode35_16 : notes.mode 35 16 = .priv := rfl
theorem f35 : Try.prog.funcs[35]? = some Try.f35 := by kernel_rfl
theorem r35 : Try.f35.results.toList = [.tmp 4] := rfl
theorem n35 : Try.f35.ntmps = 19 := rfl
theorem b35 : Try.f35.body = some (bodyOf Try.f35) := rfl
theorem mode51_3 : notes.mode 51 3 = .imm := rfl
theorem mode51_12 : notes.mode 51 12 = .priv := rfl
theorem f51 : Try.prog.funcs[51]? = some Try.f51 := by kernel_rfl
theorem r51 : Try.f51.results.toList = [.tmp 6] := rfl
theorem n51 : Try.f51.ntmps = 13 := rfl
theorem b51 : Try.f51.body = some (bodyOf Try.f51) := rfl
theorem mode52_2 : notes.mode 52 2 = .priv := rfl
theorem f52 : Try.prog.funcs[52]? = some Try.f52 := by kernel_rfl
theorem r52 : Try.f52.results.toList = [.tmp 3] := rfl
theorem n52 : Try.f52.ntmps = 16 := rfl
theorem b52 : Try.f52.body = some (bodyOf Try.f52) := rfl
theorem f53 : Try.prog.funcs[53]? = some Try.f53 := by kernel_rfl
theorem r53 : Try.f53.results.toList = [.tmp 6] := rfl
theorem n53 : Try.f53.ntmps = 10 := rfl
theorem b53 : Try.f53.body = some (bodyOf Try.f53) := rfl
theorem F3 : type_of% @agg24 ∧ type_of% @agg3 ∧ type_of% @call10 ∧ type_of% @call11 ∧ type_of% @call12 ∧ type_of% @call13 ∧ type_of% @call14 ∧ type_of% @call15 ∧ type_of% @call8 ∧ type_of% @call9 ∧ type_of% @field34_0 ∧ type_of% @field34_1 ∧ type_of% @ix22 ∧ type_of% @size34 ∧ type_of% @zero34 ∧ type_of% @room34 ∧ type_of% @bytes34 ∧ type_of% @ix37 ∧ type_of% @size3 ∧ type_of% @zero3 ∧ type_of% @room3 ∧ type_of% @bytes3 ∧ type_of% @size24 ∧ type_of% @tk22 ∧ type_of% @tk24 ∧ type_of% @tk26 ∧ type_of% @tk3 ∧ type_of% @tk37 ∧ type_of% @kill3_25 ∧ type_of% @grow3_25 ∧ type_of% @kill3_16 ∧ type_of% @grow3_16 ∧ type_of% @kill3_11 ∧ type_of% @grow3_11 ∧ type_of% @mode3_19 ∧ type_of% @mode3_21 ∧ type_of% @mode3_22 ∧ type_of% @mode3_23 ∧ type_of% @mode3_25 ∧ type_of% @mode3_31 ∧ type_of% @mode3_33 ∧ type_of% @mode3_37 ∧ type_of% @mode3_38 ∧ type_of% @mode3_39 ∧ type_of% @mode3_41 ∧ type_of% @mode3_44 ∧ type_of% @mode3_47 ∧ type_of% @mode3_61 ∧ type_of% @mode3_74 ∧ type_of% @mode3_76 ∧ type_of% @mode3_81 ∧ type_of% @mode3_93 ∧ type_of% @mode3_94 ∧ type_of% @mode3_95 ∧ type_of% @mode3_106 ∧ type_of% @mode3_116 ∧ type_of% @mode3_120 := ⟨@agg24, @agg3, @call10, @call11, @call12, @call13, @call14, @call15, @call8, @call9, @field34_0, @field34_1, @ix22, @size34, @zero34, @room34, @bytes34, @ix37, @size3, @zero3, @room3, @bytes3, @size24, @tk22, @tk24, @tk26, @tk3, @tk37, @kill3_25, @grow3_25, @kill3_16, @grow3_16, @kill3_11, @grow3_11, @mode3_19, @mode3_21, @mode3_22, @mode3_23, @mode3_25, @mode3_31, @mode3_33, @mode3_37, @mode3_38, @mode3_39, @mode3_41, @mode3_44, @mode3_47, @mode3_61, @mode3_74, @mode3_76, @mode3_81, @mode3_93, @mode3_94, @mode3_95, @mode3_106, @mode3_116, @mode3_120⟩
theorem F4 : type_of% @agg22 ∧ type_of% @agg24 ∧ type_of% @agg3 ∧ type_of% @call10 ∧ type_of% @call11 ∧ type_of% @call14 ∧ type_of% @call15 ∧ type_of% @call16 ∧ type_of% @call17 ∧ type_of% @call8 ∧ type_of% @call9 ∧ type_of% @field45_0 ∧ type_of% @field45_1 ∧ type_of% @field45_2 ∧ type_of% @field45_3 ∧ type_of% @ix37 ∧ type_of% @size3 ∧ type_of% @zero3 ∧ type_of% @room3 ∧ type_of% @bytes3 ∧ type_of% @ix42 ∧ type_of% @size45 ∧ type_of% @zero45 ∧ type_of% @room45 ∧ type_of% @bytes45 ∧ type_of% @size22 ∧ type_of% @size24 ∧ type_of% @tk26 ∧ type_of% @tk3 ∧ type_of% @tk37 ∧ type_of% @tk42 ∧ type_of% @kill4_20 ∧ type_of% @grow4_20 ∧ type_of% @kill4_7 ∧ type_of% @grow4_7 ∧ type_of% @mode4_16 ∧ type_of% @mode4_17 ∧ type_of% @mode4_19 ∧ type_of% @mode4_20 ∧ type_of% @mode4_21 ∧ type_of% @mode4_23 ∧ type_of% @mode4_53 ∧ type_of% @mode4_67 ∧ type_of% @mode4_76 ∧ type_of% @mode4_81 ∧ type_of% @mode4_82 ∧ type_of% @mode4_83 ∧ type_of% @mode4_85 ∧ type_of% @mode4_91 ∧ type_of% @mode4_104 ∧ type_of% @mode4_127 ∧ type_of% @mode4_128 ∧ type_of% @mode4_135 ∧ type_of% @mode4_136 ∧ type_of% @mode4_137 ∧ type_of% @mode4_139 ∧ type_of% @mode4_147 := ⟨@agg22, @agg24, @agg3, @call10, @call11, @call14, @call15, @call16, @call17, @call8, @call9, @field45_0, @field45_1, @field45_2, @field45_3, @ix37, @size3, @zero3, @room3, @bytes3, @ix42, @size45, @zero45, @room45, @bytes45, @size22, @size24, @tk26, @tk3, @tk37, @tk42, @kill4_20, @grow4_20, @kill4_7, @grow4_7, @mode4_16, @mode4_17, @mode4_19, @mode4_20, @mode4_21, @mode4_23, @mode4_53, @mode4_67, @mode4_76, @mode4_81, @mode4_82, @mode4_83, @mode4_85, @mode4_91, @mode4_104, @mode4_127, @mode4_128, @mode4_135, @mode4_136, @mode4_137, @mode4_139, @mode4_147⟩
theorem F5 : type_of% @agg3 ∧ type_of% @agg4 ∧ type_of% @agg45 ∧ type_of% @agg48 ∧ type_of% @agg50 ∧ type_of% @call10 ∧ type_of% @call15 ∧ type_of% @call16 ∧ type_of% @call18 ∧ type_of% @call19 ∧ type_of% @call20 ∧ type_of% @call8 ∧ type_of% @call9 ∧ type_of% @field45_1 ∧ type_of% @field50_2 ∧ type_of% @field57_2 ∧ type_of% @ix42 ∧ type_of% @size45 ∧ type_of% @zero45 ∧ type_of% @room45 ∧ type_of% @bytes45 ∧ type_of% @ix48 ∧ type_of% @size57 ∧ type_of% @zero57 ∧ type_of% @room57 ∧ type_of% @bytes57 ∧ type_of% @size3 ∧ type_of% @size4 ∧ type_of% @size48 ∧ type_of% @size50 ∧ type_of% @tk26 ∧ type_of% @tk3 ∧ type_of% @tk4 ∧ type_of% @tk42 ∧ type_of% @tk48 ∧ type_of% @zero50 ∧ type_of% @kill5_19 ∧ type_of% @grow5_19 ∧ type_of% @kill5_12 ∧ type_of% @grow5_12 ∧ type_of% @mode5_16 ∧ type_of% @mode5_33 ∧ type_of% @mode5_37 ∧ type_of% @mode5_38 ∧ type_of% @mode5_39 ∧ type_of% @mode5_43 ∧ type_of% @mode5_44 ∧ type_of% @mode5_45 ∧ type_of% @mode5_9 ∧ type_of% @mode5_47 ∧ type_of% @mode5_55 ∧ type_of% @mode5_72 ∧ type_of% @mode5_73 ∧ type_of% @mode5_74 ∧ type_of% @mode5_12 ∧ type_of% @mode5_86 ∧ type_of% @mode5_98 ∧ type_of% @mode5_106 := ⟨@agg3, @agg4, @agg45, @agg48, @agg50, @call10, @call15, @call16, @call18, @call19, @call20, @call8, @call9, @field45_1, @field50_2, @field57_2, @ix42, @size45, @zero45, @room45, @bytes45, @ix48, @size57, @zero57, @room57, @bytes57, @size3, @size4, @size48, @size50, @tk26, @tk3, @tk4, @tk42, @tk48, @zero50, @kill5_19, @grow5_19, @kill5_12, @grow5_12, @mode5_16, @mode5_33, @mode5_37, @mode5_38, @mode5_39, @mode5_43, @mode5_44, @mode5_45, @mode5_9, @mode5_47, @mode5_55, @mode5_72, @mode5_73, @mode5_74, @mode5_12, @mode5_86, @mode5_98, @mode5_106⟩
theorem F6 : type_of% @agg22 ∧ type_of% @agg24 ∧ type_of% @agg3 ∧ type_of% @call10 ∧ type_of% @call11 ∧ type_of% @call12 ∧ type_of% @call14 ∧ type_of% @call15 ∧ type_of% @call17 ∧ type_of% @call21 ∧ type_of% @call22 ∧ type_of% @call8 ∧ type_of% @field45_1 ∧ type_of% @field45_2 ∧ type_of% @field45_3 ∧ type_of% @size22 ∧ type_of% @size24 ∧ type_of% @size3 ∧ type_of% @size45 ∧ type_of% @tk22 ∧ type_of% @tk3 ∧ type_of% @tk37 ∧ type_of% @mode6_1 ∧ type_of% @mode6_18 ∧ type_of% @mode6_19 ∧ type_of% @mode6_20 ∧ type_of% @mode6_27 ∧ type_of% @mode6_28 ∧ type_of% @mode6_29 ∧ type_of% @mode6_34 ∧ type_of% @mode6_35 ∧ type_of% @mode6_36 ∧ type_of% @mode6_41 ∧ type_of% @mode6_42 ∧ type_of% @mode6_43 ∧ type_of% @mode6_55 ∧ type_of% @mode6_67 ∧ type_of% @mode6_72 ∧ type_of% @mode6_77 ∧ type_of% @mode6_82 ∧ type_of% @mode6_89 ∧ type_of% @mode6_90 ∧ type_of% @mode6_94 := ⟨@agg22, @agg24, @agg3, @call10, @call11, @call12, @call14, @call15, @call17, @call21, @call22, @call8, @field45_1, @field45_2, @field45_3, @size22, @size24, @size3, @size45, @tk22, @tk3, @tk37, @mode6_1, @mode6_18, @mode6_19, @mode6_20, @mode6_27, @mode6_28, @mode6_29, @mode6_34, @mode6_35, @mode6_36, @mode6_41, @mode6_42, @mode6_43, @mode6_55, @mode6_67, @mode6_72, @mode6_77, @mode6_82, @mode6_89, @mode6_90, @mode6_94⟩
theorem F7 : type_of% @agg22 ∧ type_of% @agg24 ∧ type_of% @agg3 ∧ type_of% @agg4 ∧ type_of% @agg45 ∧ type_of% @call10 ∧ type_of% @call11 ∧ type_of% @call12 ∧ type_of% @call14 ∧ type_of% @call15 ∧ type_of% @call16 ∧ type_of% @call17 ∧ type_of% @call21 ∧ type_of% @call8 ∧ type_of% @call9 ∧ type_of% @field34_0 ∧ type_of% @field34_1 ∧ type_of% @field45_0 ∧ type_of% @field45_1 ∧ type_of% @field45_2 ∧ type_of% @field45_3 ∧ type_of% @ix22 ∧ type_of% @size34 ∧ type_of% @zero34 ∧ type_of% @room34 ∧ type_of% @bytes34 ∧ type_of% @ix37 ∧ type_of% @size3 ∧ type_of% @zero3 ∧ type_of% @room3 ∧ type_of% @bytes3 ∧ type_of% @ix42 ∧ type_of% @size45 ∧ type_of% @zero45 ∧ type_of% @room45 ∧ type_of% @bytes45 ∧ type_of% @ix63 ∧ type_of% @size4 ∧ type_of% @zero4 ∧ type_of% @room4 ∧ type_of% @bytes4 ∧ type_of% @ix64 ∧ type_of% @size22 ∧ type_of% @size24 ∧ type_of% @size64 ∧ type_of% @tk22 ∧ type_of% @tk24 ∧ type_of% @tk26 ∧ type_of% @tk3 ∧ type_of% @tk37 ∧ type_of% @tk42 ∧ type_of% @zero64 ∧ type_of% @kill7_41 ∧ type_of% @grow7_41 ∧ type_of% @kill7_36 ∧ type_of% @grow7_36 ∧ type_of% @kill7_26 ∧ type_of% @grow7_26 ∧ type_of% @kill7_9 ∧ type_of% @grow7_9 ∧ type_of% @mode7_20 ∧ type_of% @mode7_21 ∧ type_of% @mode7_23 ∧ type_of% @mode7_24 ∧ type_of% @mode7_25 ∧ type_of% @mode7_27 ∧ type_of% @mode7_8 ∧ type_of% @mode7_53 ∧ type_of% @mode7_54 ∧ type_of% @mode7_55 ∧ type_of% @mode7_57 ∧ type_of% @mode7_66 ∧ type_of% @mode7_67 ∧ type_of% @mode7_69 ∧ type_of% @mode7_70 ∧ type_of% @mode7_78 ∧ type_of% @mode7_84 ∧ type_of% @mode7_11 ∧ type_of% @mode7_93 ∧ type_of% @mode7_117 ∧ type_of% @mode7_157 ∧ type_of% @mode7_158 ∧ type_of% @mode7_159 ∧ type_of% @mode7_168 := ⟨@agg22, @agg24, @agg3, @agg4, @agg45, @call10, @call11, @call12, @call14, @call15, @call16, @call17, @call21, @call8, @call9, @field34_0, @field34_1, @field45_0, @field45_1, @field45_2, @field45_3, @ix22, @size34, @zero34, @room34, @bytes34, @ix37, @size3, @zero3, @room3, @bytes3, @ix42, @size45, @zero45, @room45, @bytes45, @ix63, @size4, @zero4, @room4, @bytes4, @ix64, @size22, @size24, @size64, @tk22, @tk24, @tk26, @tk3, @tk37, @tk42, @zero64, @kill7_41, @grow7_41, @kill7_36, @grow7_36, @kill7_26, @grow7_26, @kill7_9, @grow7_9, @mode7_20, @mode7_21, @mode7_23, @mode7_24, @mode7_25, @mode7_27, @mode7_8, @mode7_53, @mode7_54, @mode7_55, @mode7_57, @mode7_66, @mode7_67, @mode7_69, @mode7_70, @mode7_78, @mode7_84, @mode7_11, @mode7_93, @mode7_117, @mode7_157, @mode7_158, @mode7_159, @mode7_168⟩
theorem F8 : type_of% @call10 ∧ type_of% @call11 ∧ type_of% @call14 ∧ type_of% @call15 ∧ type_of% @call23 ∧ type_of% @call9 ∧ type_of% @ix22 ∧ type_of% @size34 ∧ type_of% @zero34 ∧ type_of% @room34 ∧ type_of% @bytes34 ∧ type_of% @ix37 ∧ type_of% @size3 ∧ type_of% @zero3 ∧ type_of% @room3 ∧ type_of% @bytes3 ∧ type_of% @lay34 ∧ type_of% @tk26 ∧ type_of% @tk3 ∧ type_of% @tk37 ∧ type_of% @mode8_13 ∧ type_of% @mode8_14 ∧ type_of% @mode8_15 ∧ type_of% @mode8_17 ∧ type_of% @mode8_26 ∧ type_of% @mode8_27 ∧ type_of% @mode8_28 ∧ type_of% @mode8_29 ∧ type_of% @mode8_32 ∧ type_of% @mode8_33 ∧ type_of% @mode8_34 ∧ type_of% @mode8_36 ∧ type_of% @mode8_39 ∧ type_of% @mode8_40 ∧ type_of% @mode8_41 ∧ type_of% @mode8_44 ∧ type_of% @mode8_45 ∧ type_of% @mode8_46 ∧ type_of% @mode8_48 ∧ type_of% @mode8_50 ∧ type_of% @mode8_71 ∧ type_of% @mode8_72 ∧ type_of% @mode8_76 ∧ type_of% @mode8_81 := ⟨@call10, @call11, @call14, @call15, @call23, @call9, @ix22, @size34, @zero34, @room34, @bytes34, @ix37, @size3, @zero3, @room3, @bytes3, @lay34, @tk26, @tk3, @tk37, @mode8_13, @mode8_14, @mode8_15, @mode8_17, @mode8_26, @mode8_27, @mode8_28, @mode8_29, @mode8_32, @mode8_33, @mode8_34, @mode8_36, @mode8_39, @mode8_40, @mode8_41, @mode8_44, @mode8_45, @mode8_46, @mode8_48, @mode8_50, @mode8_71, @mode8_72, @mode8_76, @mode8_81⟩
theorem F9 : type_of% @ix37 ∧ type_of% @size3 ∧ type_of% @zero3 ∧ type_of% @room3 ∧ type_of% @bytes3 ∧ type_of% @lay68 ∧ type_of% @size68 ∧ type_of% @tk3 ∧ type_of% @mode9_24 := ⟨@ix37, @size3, @zero3, @room3, @bytes3, @lay68, @size68, @tk3, @mode9_24⟩
theorem F11 : type_of% @agg3 ∧ type_of% @agg37 ∧ type_of% @agg66 ∧ type_of% @call22 ∧ type_of% @call24 ∧ type_of% @call25 ∧ type_of% @field68_1 ∧ type_of% @field68_2 ∧ type_of% @ix37 ∧ type_of% @size3 ∧ type_of% @zero3 ∧ type_of% @room3 ∧ type_of% @bytes3 ∧ type_of% @ix66 ∧ type_of% @size70 ∧ type_of% @zero70 ∧ type_of% @room70 ∧ type_of% @bytes70 ∧ type_of% @lay73 ∧ type_of% @size37 ∧ type_of% @size66 ∧ type_of% @size73 ∧ type_of% @tk26 ∧ type_of% @tk3 ∧ type_of% @tk66 ∧ type_of% @mode11_15 ∧ type_of% @mode11_19 ∧ type_of% @mode11_20 ∧ type_of% @mode11_21 ∧ type_of% @mode11_47 ∧ type_of% @mode11_49 ∧ type_of% @mode11_50 ∧ type_of% @mode11_51 := ⟨@agg3, @agg37, @agg66, @call22, @call24, @call25, @field68_1, @field68_2, @ix37, @size3, @zero3, @room3, @bytes3, @ix66, @size70, @zero70, @room70, @bytes70, @lay73, @size37, @size66, @size73, @tk26, @tk3, @tk66, @mode11_15, @mode11_19, @mode11_20, @mode11_21, @mode11_47, @mode11_49, @mode11_50, @mode11_51⟩
theorem F12 : type_of% @agg22 ∧ type_of% @agg66 ∧ type_of% @agg70 ∧ type_of% @call25 ∧ type_of% @field68_1 ∧ type_of% @field73_1 ∧ type_of% @ix66 ∧ type_of% @size70 ∧ type_of% @zero70 ∧ type_of% @room70 ∧ type_of% @bytes70 ∧ type_of% @size22 ∧ type_of% @size66 ∧ type_of% @tk26 ∧ type_of% @tk3 ∧ type_of% @tk66 ∧ type_of% @mode12_30 := ⟨@agg22, @agg66, @agg70, @call25, @field68_1, @field73_1, @ix66, @size70, @zero70, @room70, @bytes70, @size22, @size66, @tk26, @tk3, @tk66, @mode12_30⟩
theorem F13 : type_of% @agg34 ∧ type_of% @eql34 ∧ type_of% @ix22 ∧ type_of% @size34 ∧ type_of% @zero34 ∧ type_of% @room34 ∧ type_of% @bytes34 ∧ type_of% @tk22 ∧ type_of% @tk3 ∧ type_of% @tk34 ∧ type_of% @kill13_4 ∧ type_of% @grow13_4 := ⟨@agg34, @eql34, @ix22, @size34, @zero34, @room34, @bytes34, @tk22, @tk3, @tk34, @kill13_4, @grow13_4⟩
theorem F14 : type_of% @agg3 ∧ type_of% @call26 ∧ type_of% @field68_0 ∧ type_of% @lay76 ∧ type_of% @size3 ∧ type_of% @tk26 ∧ type_of% @tk3 ∧ type_of% @tk76 ∧ type_of% @mode14_27 := ⟨@agg3, @call26, @field68_0, @lay76, @size3, @tk26, @tk3, @tk76, @mode14_27⟩
theorem F15 : type_of% @agg4 ∧ type_of% @agg66 ∧ type_of% @agg70 ∧ type_of% @field68_1 ∧ type_of% @field73_2 ∧ type_of% @ix66 ∧ type_of% @size70 ∧ type_of% @zero70 ∧ type_of% @room70 ∧ type_of% @bytes70 ∧ type_of% @size4 ∧ type_of% @size66 ∧ type_of% @tk26 ∧ type_of% @tk3 ∧ type_of% @tk66 := ⟨@agg4, @agg66, @agg70, @field68_1, @field73_2, @ix66, @size70, @zero70, @room70, @bytes70, @size4, @size66, @tk26, @tk3, @tk66⟩
theorem F16 : type_of% @agg22 ∧ type_of% @field45_2 ∧ type_of% @ix42 ∧ type_of% @size45 ∧ type_of% @zero45 ∧ type_of% @room45 ∧ type_of% @bytes45 ∧ type_of% @size22 ∧ type_of% @tk22 ∧ type_of% @tk3 ∧ type_of% @tk42 ∧ type_of% @kill16_4 ∧ type_of% @grow16_4 := ⟨@agg22, @field45_2, @ix42, @size45, @zero45, @room45, @bytes45, @size22, @tk22, @tk3, @tk42, @kill16_4, @grow16_4⟩
theorem F17 : type_of% @agg66 ∧ type_of% @call26 ∧ type_of% @field68_1 ∧ type_of% @size66 ∧ type_of% @tk26 ∧ type_of% @tk3 ∧ type_of% @tk66 ∧ type_of% @tk77 ∧ type_of% @mode17_23 := ⟨@agg66, @call26, @field68_1, @size66, @tk26, @tk3, @tk66, @tk77, @mode17_23⟩
theorem F18 : type_of% @agg50 ∧ type_of% @lay50 ∧ type_of% @size50 ∧ type_of% @tk3 ∧ type_of% @zero50 ∧ type_of% @mode18_4 := ⟨@agg50, @lay50, @size50, @tk3, @zero50, @mode18_4⟩
theorem F19 : type_of% @agg22 ∧ type_of% @agg24 ∧ type_of% @agg3 ∧ type_of% @agg50 ∧ type_of% @call10 ∧ type_of% @call11 ∧ type_of% @call14 ∧ type_of% @call17 ∧ type_of% @call23 ∧ type_of% @call27 ∧ type_of% @call28 ∧ type_of% @call29 ∧ type_of% @field45_0 ∧ type_of% @field45_1 ∧ type_of% @field45_2 ∧ type_of% @field45_3 ∧ type_of% @size22 ∧ type_of% @size24 ∧ type_of% @size3 ∧ type_of% @size45 ∧ type_of% @size50 ∧ type_of% @tk3 ∧ type_of% @zero50 ∧ type_of% @mode19_4 ∧ type_of% @mode19_5 ∧ type_of% @mode19_6 ∧ type_of% @mode19_31 ∧ type_of% @mode19_32 ∧ type_of% @mode19_33 ∧ type_of% @mode19_40 ∧ type_of% @mode19_41 ∧ type_of% @mode19_42 ∧ type_of% @mode19_43 ∧ type_of% @mode19_10 ∧ type_of% @mode19_50 ∧ type_of% @mode19_62 ∧ type_of% @mode19_63 ∧ type_of% @mode19_64 ∧ type_of% @mode19_71 ∧ type_of% @mode19_72 ∧ type_of% @mode19_73 ∧ type_of% @mode19_74 ∧ type_of% @mode19_15 ∧ type_of% @mode19_78 ∧ type_of% @mode19_81 ∧ type_of% @mode19_90 ∧ type_of% @mode19_95 ∧ type_of% @mode19_96 ∧ type_of% @mode19_97 ∧ type_of% @mode19_19 ∧ type_of% @mode19_100 := ⟨@agg22, @agg24, @agg3, @agg50, @call10, @call11, @call14, @call17, @call23, @call27, @call28, @call29, @field45_0, @field45_1, @field45_2, @field45_3, @size22, @size24, @size3, @size45, @size50, @tk3, @zero50, @mode19_4, @mode19_5, @mode19_6, @mode19_31, @mode19_32, @mode19_33, @mode19_40, @mode19_41, @mode19_42, @mode19_43, @mode19_10, @mode19_50, @mode19_62, @mode19_63, @mode19_64, @mode19_71, @mode19_72, @mode19_73, @mode19_74, @mode19_15, @mode19_78, @mode19_81, @mode19_90, @mode19_95, @mode19_96, @mode19_97, @mode19_19, @mode19_100⟩
theorem F20 : type_of% @agg22 ∧ type_of% @agg3 ∧ type_of% @agg4 ∧ type_of% @agg48 ∧ type_of% @agg50 ∧ type_of% @call10 ∧ type_of% @call12 ∧ type_of% @call13 ∧ type_of% @call15 ∧ type_of% @call21 ∧ type_of% @call22 ∧ type_of% @call30 ∧ type_of% @field50_0 ∧ type_of% @field50_2 ∧ type_of% @field57_1 ∧ type_of% @field57_2 ∧ type_of% @ix48 ∧ type_of% @size57 ∧ type_of% @zero57 ∧ type_of% @room57 ∧ type_of% @bytes57 ∧ type_of% @size22 ∧ type_of% @size3 ∧ type_of% @size4 ∧ type_of% @size48 ∧ type_of% @size50 ∧ type_of% @tk22 ∧ type_of% @tk3 ∧ type_of% @tk4 ∧ type_of% @tk48 ∧ type_of% @mode20_4 ∧ type_of% @mode20_26 ∧ type_of% @mode20_41 ∧ type_of% @mode20_48 ∧ type_of% @mode20_57 ∧ type_of% @mode20_73 ∧ type_of% @mode20_74 ∧ type_of% @mode20_75 ∧ type_of% @mode20_79 ∧ type_of% @mode20_80 ∧ type_of% @mode20_81 ∧ type_of% @mode20_85 ∧ type_of% @mode20_86 ∧ type_of% @mode20_87 ∧ type_of% @mode20_89 := ⟨@agg22, @agg3, @agg4, @agg48, @agg50, @call10, @call12, @call13, @call15, @call21, @call22, @call30, @field50_0, @field50_2, @field57_1, @field57_2, @ix48, @size57, @zero57, @room57, @bytes57, @size22, @size3, @size4, @size48, @size50, @tk22, @tk3, @tk4, @tk48, @mode20_4, @mode20_26, @mode20_41, @mode20_48, @mode20_57, @mode20_73, @mode20_74, @mode20_75, @mode20_79, @mode20_80, @mode20_81, @mode20_85, @mode20_86, @mode20_87, @mode20_89⟩
theorem F21 : type_of% @agg3 ∧ type_of% @agg37 ∧ type_of% @field68_2 ∧ type_of% @ix37 ∧ type_of% @size3 ∧ type_of% @zero3 ∧ type_of% @room3 ∧ type_of% @bytes3 ∧ type_of% @size37 ∧ type_of% @tk26 ∧ type_of% @tk3 ∧ type_of% @tk37 := ⟨@agg3, @agg37, @field68_2, @ix37, @size3, @zero3, @room3, @bytes3, @size37, @tk26, @tk3, @tk37⟩
theorem F22 : type_of% @agg3 ∧ type_of% @agg4 ∧ type_of% @agg66 ∧ type_of% @agg70 ∧ type_of% @field68_1 ∧ type_of% @field73_0 ∧ type_of% @field73_2 ∧ type_of% @ix66 ∧ type_of% @size70 ∧ type_of% @zero70 ∧ type_of% @room70 ∧ type_of% @bytes70 ∧ type_of% @size3 ∧ type_of% @size4 ∧ type_of% @size66 ∧ type_of% @tk26 ∧ type_of% @tk3 ∧ type_of% @tk66 ∧ type_of% @kill22_4 ∧ type_of% @grow22_4 := ⟨@agg3, @agg4, @agg66, @agg70, @field68_1, @field73_0, @field73_2, @ix66, @size70, @zero70, @room70, @bytes70, @size3, @size4, @size66, @tk26, @tk3, @tk66, @kill22_4, @grow22_4⟩
theorem F23 : type_of% @agg3 ∧ type_of% @ix37 ∧ type_of% @size3 ∧ type_of% @zero3 ∧ type_of% @room3 ∧ type_of% @bytes3 ∧ type_of% @tk3 ∧ type_of% @tk37 ∧ type_of% @kill23_4 ∧ type_of% @grow23_4 := ⟨@agg3, @ix37, @size3, @zero3, @room3, @bytes3, @tk3, @tk37, @kill23_4, @grow23_4⟩
theorem F24 : type_of% @agg26 ∧ type_of% @agg37 ∧ type_of% @call31 ∧ type_of% @call32 ∧ type_of% @call33 ∧ type_of% @call34 ∧ type_of% @field68_2 ∧ type_of% @size26 ∧ type_of% @size37 ∧ type_of% @tk3 ∧ type_of% @tk37 ∧ type_of% @mode24_3 ∧ type_of% @mode24_20 ∧ type_of% @mode24_22 := ⟨@agg26, @agg37, @call31, @call32, @call33, @call34, @field68_2, @size26, @size37, @tk3, @tk37, @mode24_3, @mode24_20, @mode24_22⟩
theorem F25 : type_of% @ix22 ∧ type_of% @size34 ∧ type_of% @zero34 ∧ type_of% @room34 ∧ type_of% @bytes34 ∧ type_of% @tk22 ∧ type_of% @mode25_5 ∧ type_of% @mode25_7 := ⟨@ix22, @size34, @zero34, @room34, @bytes34, @tk22, @mode25_5, @mode25_7⟩
theorem F26 : type_of% @agg4 ∧ type_of% @agg66 ∧ type_of% @agg70 ∧ type_of% @field68_1 ∧ type_of% @field73_2 ∧ type_of% @ix37 ∧ type_of% @size3 ∧ type_of% @zero3 ∧ type_of% @room3 ∧ type_of% @bytes3 ∧ type_of% @ix66 ∧ type_of% @size70 ∧ type_of% @zero70 ∧ type_of% @room70 ∧ type_of% @bytes70 ∧ type_of% @size4 ∧ type_of% @size66 ∧ type_of% @tk3 ∧ type_of% @tk66 ∧ type_of% @kill26_3 ∧ type_of% @grow26_3 ∧ type_of% @mode26_26 ∧ type_of% @mode26_33 ∧ type_of% @mode26_34 := ⟨@agg4, @agg66, @agg70, @field68_1, @field73_2, @ix37, @size3, @zero3, @room3, @bytes3, @ix66, @size70, @zero70, @room70, @bytes70, @size4, @size66, @tk3, @tk66, @kill26_3, @grow26_3, @mode26_26, @mode26_33, @mode26_34⟩
theorem F27 : type_of% @agg3 ∧ type_of% @agg48 ∧ type_of% @agg50 ∧ type_of% @agg57 ∧ type_of% @call30 ∧ type_of% @field34_0 ∧ type_of% @field50_0 ∧ type_of% @field50_1 ∧ type_of% @field50_2 ∧ type_of% @ix22 ∧ type_of% @size34 ∧ type_of% @zero34 ∧ type_of% @room34 ∧ type_of% @bytes34 ∧ type_of% @ix48 ∧ type_of% @size57 ∧ type_of% @zero57 ∧ type_of% @room57 ∧ type_of% @bytes57 ∧ type_of% @lay57 ∧ type_of% @size3 ∧ type_of% @size48 ∧ type_of% @size50 ∧ type_of% @tk22 ∧ type_of% @tk3 ∧ type_of% @tk48 ∧ type_of% @zero50 ∧ type_of% @kill27_9 ∧ type_of% @grow27_9 ∧ type_of% @kill27_4 ∧ type_of% @grow27_4 ∧ type_of% @mode27_3 ∧ type_of% @mode27_6 ∧ type_of% @mode27_66 ∧ type_of% @mode27_67 ∧ type_of% @mode27_68 ∧ type_of% @mode27_76 ∧ type_of% @mode27_78 ∧ type_of% @mode27_13 ∧ type_of% @mode27_80 ∧ type_of% @mode27_83 ∧ type_of% @mode27_85 ∧ type_of% @mode27_86 := ⟨@agg3, @agg48, @agg50, @agg57, @call30, @field34_0, @field50_0, @field50_1, @field50_2, @ix22, @size34, @zero34, @room34, @bytes34, @ix48, @size57, @zero57, @room57, @bytes57, @lay57, @size3, @size48, @size50, @tk22, @tk3, @tk48, @zero50, @kill27_9, @grow27_9, @kill27_4, @grow27_4, @mode27_3, @mode27_6, @mode27_66, @mode27_67, @mode27_68, @mode27_76, @mode27_78, @mode27_13, @mode27_80, @mode27_83, @mode27_85, @mode27_86⟩
theorem F28 : type_of% @agg22 ∧ type_of% @agg24 ∧ type_of% @agg3 ∧ type_of% @agg4 ∧ type_of% @agg48 ∧ type_of% @agg50 ∧ type_of% @field34_0 ∧ type_of% @field34_1 ∧ type_of% @field50_1 ∧ type_of% @field50_2 ∧ type_of% @field57_1 ∧ type_of% @field57_2 ∧ type_of% @ix22 ∧ type_of% @size34 ∧ type_of% @zero34 ∧ type_of% @room34 ∧ type_of% @bytes34 ∧ type_of% @ix37 ∧ type_of% @size3 ∧ type_of% @zero3 ∧ type_of% @room3 ∧ type_of% @bytes3 ∧ type_of% @ix48 ∧ type_of% @size57 ∧ type_of% @zero57 ∧ type_of% @room57 ∧ type_of% @bytes57 ∧ type_of% @size22 ∧ type_of% @size24 ∧ type_of% @size4 ∧ type_of% @size48 ∧ type_of% @size50 ∧ type_of% @tk22 ∧ type_of% @tk24 ∧ type_of% @tk3 ∧ type_of% @tk48 ∧ type_of% @zero50 ∧ type_of% @kill28_10 ∧ type_of% @grow28_10 ∧ type_of% @kill28_6 ∧ type_of% @grow28_6 ∧ type_of% @mode28_3 ∧ type_of% @mode28_6 ∧ type_of% @mode28_23 ∧ type_of% @mode28_26 ∧ type_of% @mode28_84 ∧ type_of% @mode28_85 := ⟨@agg22, @agg24, @agg3, @agg4, @agg48, @agg50, @field34_0, @field34_1, @field50_1, @field50_2, @field57_1, @field57_2, @ix22, @size34, @zero34, @room34, @bytes34, @ix37, @size3, @zero3, @room3, @bytes3, @ix48, @size57, @zero57, @room57, @bytes57, @size22, @size24, @size4, @size48, @size50, @tk22, @tk24, @tk3, @tk48, @zero50, @kill28_10, @grow28_10, @kill28_6, @grow28_6, @mode28_3, @mode28_6, @mode28_23, @mode28_26, @mode28_84, @mode28_85⟩
theorem F29 : type_of% @agg4 ∧ type_of% @agg48 ∧ type_of% @agg50 ∧ type_of% @field50_2 ∧ type_of% @field57_2 ∧ type_of% @ix48 ∧ type_of% @size57 ∧ type_of% @zero57 ∧ type_of% @room57 ∧ type_of% @bytes57 ∧ type_of% @size4 ∧ type_of% @size48 ∧ type_of% @size50 ∧ type_of% @tk3 ∧ type_of% @tk48 ∧ type_of% @zero50 ∧ type_of% @mode29_2 ∧ type_of% @mode29_4 ∧ type_of% @mode29_16 ∧ type_of% @mode29_19 := ⟨@agg4, @agg48, @agg50, @field50_2, @field57_2, @ix48, @size57, @zero57, @room57, @bytes57, @size4, @size48, @size50, @tk3, @tk48, @zero50, @mode29_2, @mode29_4, @mode29_16, @mode29_19⟩
theorem F30 : type_of% @agg3 ∧ type_of% @agg4 ∧ type_of% @agg48 ∧ type_of% @field50_2 ∧ type_of% @field57_0 ∧ type_of% @field57_2 ∧ type_of% @ix48 ∧ type_of% @size57 ∧ type_of% @zero57 ∧ type_of% @room57 ∧ type_of% @bytes57 ∧ type_of% @size3 ∧ type_of% @size4 ∧ type_of% @size48 ∧ type_of% @size50 ∧ type_of% @tk3 ∧ type_of% @tk48 ∧ type_of% @kill30_3 ∧ type_of% @grow30_3 ∧ type_of% @mode30_2 := ⟨@agg3, @agg4, @agg48, @field50_2, @field57_0, @field57_2, @ix48, @size57, @zero57, @room57, @bytes57, @size3, @size4, @size48, @size50, @tk3, @tk48, @kill30_3, @grow30_3, @mode30_2⟩
theorem F31 : type_of% @call35 ∧ type_of% @tk3 ∧ type_of% @mode31_7 := ⟨@call35, @tk3, @mode31_7⟩
theorem F32 : type_of% @agg26 ∧ type_of% @agg3 ∧ type_of% @field34_0 ∧ type_of% @field68_0 ∧ type_of% @size26 ∧ type_of% @size3 ∧ type_of% @size34 ∧ type_of% @tk3 ∧ type_of% @mode32_2 := ⟨@agg26, @agg3, @field34_0, @field68_0, @size26, @size3, @size34, @tk3, @mode32_2⟩
theorem F33 : type_of% @agg34 ∧ type_of% @ix22 ∧ type_of% @size34 ∧ type_of% @zero34 ∧ type_of% @room34 ∧ type_of% @bytes34 ∧ type_of% @ix93 ∧ type_of% @tk3 ∧ type_of% @zero3 ∧ type_of% @tk22 ∧ type_of% @tk93 ∧ type_of% @kill33_3 ∧ type_of% @grow33_3 ∧ type_of% @mode33_7 ∧ type_of% @mode33_18 := ⟨@agg34, @ix22, @size34, @zero34, @room34, @bytes34, @ix93, @tk3, @zero3, @tk22, @tk93, @kill33_3, @grow33_3, @mode33_7, @mode33_18⟩
theorem F34 : type_of% @agg3 ∧ type_of% @field34_0 ∧ type_of% @size3 ∧ type_of% @size34 ∧ type_of% @mode34_1 := ⟨@agg3, @field34_0, @size3, @size34, @mode34_1⟩
theorem F35 : type_of% @agg34 ∧ type_of% @ix22 ∧ type_of% @size34 ∧ type_of% @zero34 ∧ type_of% @room34 ∧ type_of% @bytes34 ∧ type_of% @tk22 ∧ type_of% @tk3 ∧ type_of% @kill35_2 ∧ type_of% @grow35_2 ∧ type_of% @mode35_16 := ⟨@agg34, @ix22, @size34, @zero34, @room34, @bytes34, @tk22, @tk3, @kill35_2, @grow35_2, @mode35_16⟩
theorem F51 : type_of% @agg22 ∧ type_of% @call31 ∧ type_of% @call52 ∧ type_of% @field73_1 ∧ type_of% @size22 ∧ type_of% @size76 ∧ type_of% @mode51_3 ∧ type_of% @mode51_12 := ⟨@agg22, @call31, @call52, @field73_1, @size22, @size76, @mode51_3, @mode51_12⟩
theorem F52 : type_of% @agg24 ∧ type_of% @agg3 ∧ type_of% @field34_0 ∧ type_of% @field34_1 ∧ type_of% @field76_0 ∧ type_of% @field76_1 ∧ type_of% @size24 ∧ type_of% @size3 ∧ type_of% @size34 ∧ type_of% @tk24 ∧ type_of% @tk3 ∧ type_of% @mode52_2 := ⟨@agg24, @agg3, @field34_0, @field34_1, @field76_0, @field76_1, @size24, @size3, @size34, @tk24, @tk3, @mode52_2⟩
theorem F53 : type_of% @tk3 := @tk3
end Go.Proofs.Ytfjbgmcdkhepkaa
