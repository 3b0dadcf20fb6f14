/- A part of the proofs over this seat. -/
import Derived.Test.YtgjobbmbbedecaaDoorQAbsSim
import Derived.Test.YtgjobbmbbedecaaDoorProg
import Derived.KernelRfl
import Derived.IntWalk
namespace Go.Proofs.YtgjobbmbbedecaaDoor
open Go Go.Abs Go.Proofs
set_option maxRecDepth 100000
set_option linter.unusedVariables false
theorem agg105 : aggT Tryd.prog 105 = some true := by kernel_rfl
theorem agg107 : aggT Tryd.prog 107 = some true := by kernel_rfl
theorem agg22 : aggT Tryd.prog 22 = some false := by kernel_rfl
theorem agg23 : aggT Tryd.prog 23 = some false := by kernel_rfl
theorem agg24 : aggT Tryd.prog 24 = some false := by kernel_rfl
theorem agg26 : aggT Tryd.prog 26 = some true := by kernel_rfl
theorem agg29 : aggT Tryd.prog 29 = some false := by kernel_rfl
theorem agg3 : aggT Tryd.prog 3 = some false := by kernel_rfl
theorem agg30 : aggT Tryd.prog 30 = some false := by kernel_rfl
theorem agg45 : aggT Tryd.prog 45 = some false := by kernel_rfl
theorem agg46 : aggT Tryd.prog 46 = some false := by kernel_rfl
theorem agg47 : aggT Tryd.prog 47 = some false := by kernel_rfl
theorem agg48 : aggT Tryd.prog 48 = some false := by kernel_rfl
theorem agg5 : aggT Tryd.prog 5 = some false := by kernel_rfl
theorem agg50 : aggT Tryd.prog 50 = some true := by kernel_rfl
theorem agg52 : aggT Tryd.prog 52 = some true := by kernel_rfl
theorem agg65 : aggT Tryd.prog 65 = some false := by kernel_rfl
theorem agg82 : aggT Tryd.prog 82 = some false := by kernel_rfl
theorem agg9 : aggT Tryd.prog 9 = some false := by kernel_rfl
theorem bytes105 : Tryd.prog.bytesOf 105 = 16 := by kernel_rfl
theorem bytes107 : Tryd.prog.bytesOf 107 = 32 := by kernel_rfl
theorem bytes3 : Tryd.prog.bytesOf 3 = 8 := by kernel_rfl
theorem bytes45 : Tryd.prog.bytesOf 45 = 24 := by kernel_rfl
theorem bytes5 : Tryd.prog.bytesOf 5 = 1 := by kernel_rfl
theorem bytes50 : Tryd.prog.bytesOf 50 = 112 := by kernel_rfl
theorem bytes52 : Tryd.prog.bytesOf 52 = 24 := by kernel_rfl
theorem bytes9 : Tryd.prog.bytesOf 9 = 16 := by kernel_rfl
theorem call11 : callable Tryd.prog 11 = true := by kernel_rfl
theorem call12 : callable Tryd.prog 12 = true := by kernel_rfl
theorem call13 : callable Tryd.prog 13 = true := by kernel_rfl
theorem call15 : callable Tryd.prog 15 = true := by kernel_rfl
theorem call16 : callable Tryd.prog 16 = true := by kernel_rfl
theorem call18 : callable Tryd.prog 18 = true := by kernel_rfl
theorem call20 : callable Tryd.prog 20 = true := by kernel_rfl
theorem call22 : callable Tryd.prog 22 = true := by kernel_rfl
theorem call25 : callable Tryd.prog 25 = true := by kernel_rfl
theorem call26 : callable Tryd.prog 26 = true := by kernel_rfl
theorem call27 : callable Tryd.prog 27 = true := by kernel_rfl
theorem call28 : callable Tryd.prog 28 = true := by kernel_rfl
theorem call29 : callable Tryd.prog 29 = true := by kernel_rfl
theorem call30 : callable Tryd.prog 30 = true := by kernel_rfl
theorem call31 : callable Tryd.prog 31 = true := by kernel_rfl
theorem call32 : callable Tryd.prog 32 = true := by kernel_rfl
theorem call33 : callable Tryd.prog 33 = true := by kernel_rfl
theorem call34 : callable Tryd.prog 34 = true := by kernel_rfl
theorem call41 : callable Tryd.prog 41 = true := by kernel_rfl
theorem call42 : callable Tryd.prog 42 = true := by kernel_rfl
theorem call43 : callable Tryd.prog 43 = true := by kernel_rfl
theorem call44 : callable Tryd.prog 44 = true := by kernel_rfl
theorem call45 : callable Tryd.prog 45 = true := by kernel_rfl
theorem call46 : callable Tryd.prog 46 = true := by kernel_rfl
theorem call47 : callable Tryd.prog 47 = true := by kernel_rfl
theorem call48 : callable Tryd.prog 48 = true := by kernel_rfl
theorem call49 : callable Tryd.prog 49 = true := by kernel_rfl
theorem call55 : callable Tryd.prog 55 = true := by kernel_rfl
theorem call56 : callable Tryd.prog 56 = true := by kernel_rfl
theorem call57 : callable Tryd.prog 57 = true := by kernel_rfl
theorem call58 : callable Tryd.prog 58 = true := by kernel_rfl
theorem call59 : callable Tryd.prog 59 = true := by kernel_rfl
theorem call60 : callable Tryd.prog 60 = true := by kernel_rfl
theorem call61 : callable Tryd.prog 61 = true := by kernel_rfl
theorem call62 : callable Tryd.prog 62 = true := by kernel_rfl
theorem call63 : callable Tryd.prog 63 = true := by kernel_rfl
theorem call64 : callable Tryd.prog 64 = true := by kernel_rfl
theorem call67 : callable Tryd.prog 67 = true := by kernel_rfl
theorem call68 : callable Tryd.prog 68 = true := by kernel_rfl
theorem call69 : callable Tryd.prog 69 = true := by kernel_rfl
theorem call7 : callable Tryd.prog 7 = true := by kernel_rfl
theorem call70 : callable Tryd.prog 70 = true := by kernel_rfl
theorem call71 : callable Tryd.prog 71 = true := by kernel_rfl
theorem call72 : callable Tryd.prog 72 = true := by kernel_rfl
theorem call73 : callable Tryd.prog 73 = true := by kernel_rfl
theorem call74 : callable Tryd.prog 74 = true := by kernel_rfl
theorem eql105 : eqLay Tryd.prog 105 = some [(0, .i), (1, .i)] := by kernel_rfl
theorem eql107 : eqLay Tryd.prog 107 = some [(0, .i), (1, .i), (2, .i), (3, .i)] := by kernel_rfl
theorem eql52 : eqLay Tryd.prog 52 = some [(0, .i), (1, .i), (2, .i)] := by kernel_rfl
theorem field105_0 : fieldT Tryd.prog 105 0 = some (0, 3) := by kernel_rfl
theorem field105_1 : fieldT Tryd.prog 105 1 = some (1, 3) := by kernel_rfl
theorem field107_0 : fieldT Tryd.prog 107 0 = some (0, 3) := by kernel_rfl
theorem field107_1 : fieldT Tryd.prog 107 1 = some (1, 3) := by kernel_rfl
theorem field107_2 : fieldT Tryd.prog 107 2 = some (2, 3) := by kernel_rfl
theorem field107_3 : fieldT Tryd.prog 107 3 = some (3, 3) := by kernel_rfl
theorem field26_0 : fieldT Tryd.prog 26 0 = some (0, 22) := by kernel_rfl
theorem field26_1 : fieldT Tryd.prog 26 1 = some (1, 23) := by kernel_rfl
theorem field26_2 : fieldT Tryd.prog 26 2 = some (2, 24) := by kernel_rfl
theorem field26_3 : fieldT Tryd.prog 26 3 = some (3, 3) := by kernel_rfl
theorem field50_0 : fieldT Tryd.prog 50 0 = some (0, 3) := by kernel_rfl
theorem field50_1 : fieldT Tryd.prog 50 1 = some (1, 3) := by kernel_rfl
theorem field50_2 : fieldT Tryd.prog 50 2 = some (2, 45) := by kernel_rfl
theorem field50_3 : fieldT Tryd.prog 50 3 = some (3, 46) := by kernel_rfl
theorem field50_4 : fieldT Tryd.prog 50 4 = some (4, 47) := by kernel_rfl
theorem field50_5 : fieldT Tryd.prog 50 5 = some (5, 48) := by kernel_rfl
theorem field52_0 : fieldT Tryd.prog 52 0 = some (0, 3) := by kernel_rfl
theorem field52_1 : fieldT Tryd.prog 52 1 = some (1, 3) := by kernel_rfl
theorem field52_2 : fieldT Tryd.prog 52 2 = some (2, 3) := by kernel_rfl
theorem field67_0 : fieldT Tryd.prog 67 0 = some (0, 29) := by kernel_rfl
theorem field67_1 : fieldT Tryd.prog 67 1 = some (1, 30) := by kernel_rfl
theorem field84_0 : fieldT Tryd.prog 84 0 = some (0, 29) := by kernel_rfl
theorem field84_1 : fieldT Tryd.prog 84 1 = some (1, 3) := by kernel_rfl
theorem field84_2 : fieldT Tryd.prog 84 2 = some (2, 30) := by kernel_rfl
theorem ix101 : ixT Tryd.prog 101 = .arr 33 3 := by kernel_rfl
theorem ix102 : ixT Tryd.prog 102 = .arr 33 9 := by kernel_rfl
theorem ix22 : ixT Tryd.prog 22 = .sl 50 := by kernel_rfl
theorem ix23 : ixT Tryd.prog 23 = .sl 9 := by kernel_rfl
theorem ix24 : ixT Tryd.prog 24 = .sl 45 := by kernel_rfl
theorem ix29 : ixT Tryd.prog 29 = .sl 5 := by kernel_rfl
theorem ix45 : ixT Tryd.prog 45 = .sl 3 := by kernel_rfl
theorem ix46 : ixT Tryd.prog 46 = .sl 105 := by kernel_rfl
theorem ix47 : ixT Tryd.prog 47 = .sl 52 := by kernel_rfl
theorem ix48 : ixT Tryd.prog 48 = .sl 107 := by kernel_rfl
theorem ix9 : ixT Tryd.prog 9 = .str := by kernel_rfl
theorem lay105 : layT Tryd.prog 105 = some ([(.int .i64 0), (.int .i64 0)], .st [(0, 1), (1, 1)]) := by kernel_rfl
theorem lay107 : layT Tryd.prog 107 = some ([(.int .i64 0), (.int .i64 0), (.int .i64 0), (.int .i64 0)], .st [(0, 1), (1, 1), (2, 1), (3, 1)]) := by kernel_rfl
theorem lay26 : layT Tryd.prog 26 = some ([.nils, .nils, .nils, (.int .i64 0)], .st [(0, 1), (1, 1), (2, 1), (3, 1)]) := by kernel_rfl
theorem lay50 : layT Tryd.prog 50 = some ([(.int .i64 0), (.int .i64 0), .nils, .nils, .nils, .nils], .st [(0, 1), (1, 1), (2, 1), (3, 1), (4, 1), (5, 1)]) := by kernel_rfl
theorem lay52 : layT Tryd.prog 52 = some ([(.int .i64 0), (.int .i64 0), (.int .i64 0)], .st [(0, 1), (1, 1), (2, 1)]) := by kernel_rfl
theorem lay67 : layT Tryd.prog 67 = some ([.nils, (.int .i64 0)], .st [(0, 1), (1, 1)]) := by kernel_rfl
theorem lay84 : layT Tryd.prog 84 = some ([.nils, (.int .i64 0), (.int .i64 0)], .st [(0, 1), (1, 1), (2, 1)]) := by kernel_rfl
theorem size105 : sizeT Tryd.prog 105 = 2 := by kernel_rfl
theorem size107 : sizeT Tryd.prog 107 = 4 := by kernel_rfl
theorem size22 : sizeT Tryd.prog 22 = 1 := by kernel_rfl
theorem size23 : sizeT Tryd.prog 23 = 1 := by kernel_rfl
theorem size24 : sizeT Tryd.prog 24 = 1 := by kernel_rfl
theorem size26 : sizeT Tryd.prog 26 = 4 := by kernel_rfl
theorem size29 : sizeT Tryd.prog 29 = 1 := by kernel_rfl
theorem size3 : sizeT Tryd.prog 3 = 1 := by kernel_rfl
theorem size30 : sizeT Tryd.prog 30 = 1 := by kernel_rfl
theorem size45 : sizeT Tryd.prog 45 = 1 := by kernel_rfl
theorem size46 : sizeT Tryd.prog 46 = 1 := by kernel_rfl
theorem size47 : sizeT Tryd.prog 47 = 1 := by kernel_rfl
theorem size48 : sizeT Tryd.prog 48 = 1 := by kernel_rfl
theorem size5 : sizeT Tryd.prog 5 = 1 := by kernel_rfl
theorem size50 : sizeT Tryd.prog 50 = 6 := by kernel_rfl
theorem size52 : sizeT Tryd.prog 52 = 3 := by kernel_rfl
theorem size65 : sizeT Tryd.prog 65 = 1 := by kernel_rfl
theorem size67 : sizeT Tryd.prog 67 = 2 := by kernel_rfl
theorem size82 : sizeT Tryd.prog 82 = 1 := by kernel_rfl
theorem size84 : sizeT Tryd.prog 84 = 3 := by kernel_rfl
theorem size9 : sizeT Tryd.prog 9 = 1 := by kernel_rfl
theorem tk105 : tk Tryd.prog 105 = .agg := by kernel_rfl
theorem tk107 : tk Tryd.prog 107 = .agg := by kernel_rfl
theorem tk22 : tk Tryd.prog 22 = .slice 50 := by kernel_rfl
theorem tk23 : tk Tryd.prog 23 = .slice 9 := by kernel_rfl
theorem tk24 : tk Tryd.prog 24 = .slice 45 := by kernel_rfl
theorem tk29 : tk Tryd.prog 29 = .slice 5 := by kernel_rfl
theorem tk3 : tk Tryd.prog 3 = .int .i64 := by kernel_rfl
theorem tk30 : tk Tryd.prog 30 = .int .i64 := by kernel_rfl
theorem tk45 : tk Tryd.prog 45 = .slice 3 := by kernel_rfl
theorem tk46 : tk Tryd.prog 46 = .slice 105 := by kernel_rfl
theorem tk47 : tk Tryd.prog 47 = .slice 52 := by kernel_rfl
theorem tk48 : tk Tryd.prog 48 = .slice 107 := by kernel_rfl
theorem tk5 : tk Tryd.prog 5 = .int .u8 := by kernel_rfl
theorem tk52 : tk Tryd.prog 52 = .agg := by kernel_rfl
theorem tk9 : tk Tryd.prog 9 = .str := by kernel_rfl
theorem zero105 : zeroT Tryd.prog 105 = (.agg [(.int .i64 0), (.int .i64 0)]) := by kernel_rfl
theorem zero107 : zeroT Tryd.prog 107 = (.agg [(.int .i64 0), (.int .i64 0), (.int .i64 0), (.int .i64 0)]) := by kernel_rfl
theorem zero26 : zeroT Tryd.prog 26 = (.agg [.nils, .nils, .nils, (.int .i64 0)]) := by kernel_rfl
theorem zero3 : zeroT Tryd.prog 3 = (.int .i64 0) := by kernel_rfl
theorem zero45 : zeroT Tryd.prog 45 = .nils := by kernel_rfl
theorem zero5 : zeroT Tryd.prog 5 = (.int .u8 0) := by kernel_rfl
theorem zero50 : zeroT Tryd.prog 50 = (.agg [(.int .i64 0), (.int .i64 0), .nils, .nils, .nils, .nils]) := by kernel_rfl
theorem zero52 : zeroT Tryd.prog 52 = (.agg [(.int .i64 0), (.int .i64 0), (.int .i64 0)]) := by kernel_rfl
theorem zero65 : zeroT Tryd.prog 65 = .nilp := by kernel_rfl
theorem zero82 : zeroT Tryd.prog 82 = .nilp := by kernel_rfl
theorem zero9 : zeroT Tryd.prog 9 = (.str ByteArray.empty) := by kernel_rfl
theorem room105 (n : Nat) : elemOk Tryd.prog 105 n = (decide (n * 16 ≤ 70368744177664) && decide (n ≤ 4611686018427387904)) := by
  have h1 : (Tryd.prog.cellsOf 105 != 0 && okV (zeroT Tryd.prog 105) && (zeroT Tryd.prog 105).width == sizeT Tryd.prog 105) = true := by kernel_rfl
  unfold elemOk
  rw [h1, bytes105]; rfl
theorem room107 (n : Nat) : elemOk Tryd.prog 107 n = (decide (n * 32 ≤ 70368744177664) && decide (n ≤ 4611686018427387904)) := by
  have h1 : (Tryd.prog.cellsOf 107 != 0 && okV (zeroT Tryd.prog 107) && (zeroT Tryd.prog 107).width == sizeT Tryd.prog 107) = true := by kernel_rfl
  unfold elemOk
  rw [h1, bytes107]; rfl
theorem room3 (n : Nat) : elemOk Tryd.prog 3 n = (decide (n * 8 ≤ 70368744177664) && decide (n ≤ 4611686018427387904)) := by
  have h1 : (Tryd.prog.cellsOf 3 != 0 && okV (zeroT Tryd.prog 3) && (zeroT Tryd.prog 3).width == sizeT Tryd.prog 3) = true := by kernel_rfl
  unfold elemOk
  rw [h1, bytes3]; rfl
theorem room45 (n : Nat) : elemOk Tryd.prog 45 n = (decide (n * 24 ≤ 70368744177664) && decide (n ≤ 4611686018427387904)) := by
  have h1 : (Tryd.prog.cellsOf 45 != 0 && okV (zeroT Tryd.prog 45) && (zeroT Tryd.prog 45).width == sizeT Tryd.prog 45) = true := by kernel_rfl
  unfold elemOk
  rw [h1, bytes45]; rfl
theorem room5 (n : Nat) : elemOk Tryd.prog 5 n = (decide (n * 1 ≤ 70368744177664) && decide (n ≤ 4611686018427387904)) := by
  have h1 : (Tryd.prog.cellsOf 5 != 0 && okV (zeroT Tryd.prog 5) && (zeroT Tryd.prog 5).width == sizeT Tryd.prog 5) = true := by kernel_rfl
  unfold elemOk
  rw [h1, bytes5]; rfl
theorem room50 (n : Nat) : elemOk Tryd.prog 50 n = (decide (n * 112 ≤ 70368744177664) && decide (n ≤ 4611686018427387904)) := by
  have h1 : (Tryd.prog.cellsOf 50 != 0 && okV (zeroT Tryd.prog 50) && (zeroT Tryd.prog 50).width == sizeT Tryd.prog 50) = true := by kernel_rfl
  unfold elemOk
  rw [h1, bytes50]; rfl
theorem room52 (n : Nat) : elemOk Tryd.prog 52 n = (decide (n * 24 ≤ 70368744177664) && decide (n ≤ 4611686018427387904)) := by
  have h1 : (Tryd.prog.cellsOf 52 != 0 && okV (zeroT Tryd.prog 52) && (zeroT Tryd.prog 52).width == sizeT Tryd.prog 52) = true := by kernel_rfl
  unfold elemOk
  rw [h1, bytes52]; rfl
theorem room9 (n : Nat) : elemOk Tryd.prog 9 n = (decide (n * 16 ≤ 70368744177664) && decide (n ≤ 4611686018427387904)) := by
  have h1 : (Tryd.prog.cellsOf 9 != 0 && okV (zeroT Tryd.prog 9) && (zeroT Tryd.prog 9).width == sizeT Tryd.prog 9) = true := by kernel_rfl
  unfold elemOk
  rw [h1, bytes9]; rfl
def namesL : List ByteArray := [⟨#[105, 110, 116]⟩, ⟨#[97, 116, 111, 109]⟩, ⟨#[115, 116, 114]⟩, ⟨#[112, 114, 105, 109]⟩, ⟨#[112, 111, 112]⟩, ⟨#[108, 111, 97, 100]⟩, ⟨#[115, 116, 111, 114, 101]⟩, ⟨#[98, 111, 120]⟩, ⟨#[108, 111, 97, 100, 99, 101, 108, 108]⟩, ⟨#[115, 116, 111, 114, 101, 99, 101, 108, 108]⟩, ⟨#[108, 111, 97, 100, 99, 97, 112]⟩, ⟨#[115, 116, 111, 114, 101, 99, 97, 112]⟩, ⟨#[108, 111, 97, 100, 103, 108, 111, 98, 97, 108]⟩, ⟨#[115, 116, 111, 114, 101, 103, 108, 111, 98, 97, 108]⟩, ⟨#[108, 105, 115, 116]⟩, ⟨#[114, 101, 99]⟩, ⟨#[102, 117, 110]⟩, ⟨#[98, 105, 110]⟩, ⟨#[110, 111, 116]⟩, ⟨#[110, 101, 103]⟩, ⟨#[106, 117, 109, 112]⟩, ⟨#[102, 97, 108, 115, 101]⟩, ⟨#[107, 101, 101, 112, 102, 97, 108, 115, 101]⟩, ⟨#[107, 101, 101, 112, 116, 114, 117, 101]⟩, ⟨#[108, 111, 111, 112]⟩, ⟨#[99, 97, 108, 108]⟩, ⟨#[115, 112, 97, 119, 110]⟩, ⟨#[114, 101, 116, 117, 114, 110]⟩, ⟨#[116, 104, 114, 111, 119]⟩, ⟨#[105, 110, 100, 101, 120]⟩, ⟨#[115, 101, 116, 105, 110, 100, 101, 120]⟩, ⟨#[102, 105, 101, 108, 100]⟩, ⟨#[115, 101, 116, 102, 105, 101, 108, 100]⟩]
def takesL : List Int := [0, 0, 0, 0, 1, 0, 1, 0, 0, 1, 0, 1, 0, 1, 0, 0, 0, 2, 1, 1, 0, 1, 1, 1, 0, 1, 1, 1, 1, 2, 3, 1, 2]
def putsL : List Int := [1, 1, 1, 1, 0, 1, 0, 0, 1, 0, 1, 0, 1, 0, 1, 1, 1, 1, 1, 1, 0, 0, 0, 0, 0, 1, 1, 0, 0, 1, 0, 1, 0]
def notes : Notes where
 kill f r := match f, r with
  | 7, 9 => [0, 2, 4, 8, 10, 11, 12, 13, 14, 15, 16, 17, 18, 19, 20, 21, 22, 23, 24, 25, 26, 27, 28, 29, 30, 31, 32, 33, 34, 35, 36, 37, 38, 39, 40, 41, 42, 43, 44, 45, 46, 47, 48, 49, 50, 51, 52, 53, 54, 55, 56, 57, 58, 59, 60, 61, 62, 63, 64, 65, 66, 67, 68, 69, 70, 71, 72, 73, 74, 75, 76, 77, 78, 79, 80, 81, 82, 83, 84, 85, 86, 87, 88, 89, 90, 91, 92, 93, 94, 95, 96, 97]
  | 7, 15 => [0, 2, 4, 5, 7, 8, 9, 11, 12, 13, 14, 15, 16, 17, 18, 19, 20, 21, 22, 23, 24, 25, 26, 27, 28, 29, 30, 31, 32, 33, 34, 35, 36, 37, 38, 39, 40, 41, 42, 43, 44, 45, 46, 47, 48, 49, 50, 51, 52, 53, 54, 55, 56, 57, 58, 59, 60, 61, 62, 63, 64, 65, 66, 67, 68, 69, 70, 71, 72, 73, 74, 75, 76, 77, 78, 79, 80, 81, 82, 83, 84, 85, 86, 87, 88, 89, 90, 91, 92, 93, 94, 95, 96, 97]
  | 7, 18 => [0, 2, 4, 5, 7, 8, 9, 12, 13, 14, 15, 16, 17, 18, 19, 20, 21, 22, 23, 24, 25, 26, 27, 28, 29, 30, 31, 32, 33, 34, 35, 36, 37, 38, 39, 40, 41, 42, 43, 44, 45, 46, 47, 48, 49, 50, 51, 52, 53, 54, 55, 56, 57, 58, 59, 60, 61, 62, 63, 64, 65, 66, 67, 68, 69, 70, 71, 72, 73, 74, 75, 76, 77, 78, 79, 80, 81, 82, 83, 84, 85, 86, 87, 88, 89, 90, 91, 92, 93, 94, 95, 96, 97]
  | 11, 5 => [0, 2, 5, 6, 7, 8, 9, 10, 11, 12, 13, 14, 15, 16, 17, 18, 19, 20, 21, 22, 23, 24, 25, 26, 27, 28, 29, 30, 31, 32, 33, 34, 35, 36, 37, 38, 39, 40, 41, 42, 43, 44, 45, 46, 47, 48, 49, 50, 51, 52, 53, 54, 55, 56, 57, 58, 59, 60, 61, 62, 63, 64, 65, 66, 67, 68, 69, 70, 71, 72, 73, 74, 75, 76, 77, 78, 79, 80, 81, 82, 83, 84, 85, 86, 87, 88, 89, 90, 91, 92]
  | 11, 10 => [0, 2, 4, 6, 7, 8, 9, 10, 11, 12, 13, 14, 15, 16, 17, 18, 19, 20, 21, 22, 23, 24, 25, 26, 27, 28, 29, 30, 31, 32, 33, 34, 35, 36, 37, 38, 39, 40, 41, 42, 43, 44, 45, 46, 47, 48, 49, 50, 51, 52, 53, 54, 55, 56, 57, 58, 59, 60, 61, 62, 63, 64, 65, 66, 67, 68, 69, 70, 71, 72, 73, 74, 75, 76, 77, 78, 79, 80, 81, 82, 83, 84, 85, 86, 87, 88, 89, 90, 91, 92]
  | 11, 15 => [0, 2, 4, 5, 7, 8, 9, 10, 11, 12, 13, 14, 15, 16, 17, 18, 19, 20, 21, 22, 23, 24, 25, 26, 27, 28, 29, 30, 31, 32, 33, 34, 35, 36, 37, 38, 39, 40, 41, 42, 43, 44, 45, 46, 47, 48, 49, 50, 51, 52, 53, 54, 55, 56, 57, 58, 59, 60, 61, 62, 63, 64, 65, 66, 67, 68, 69, 70, 71, 72, 73, 74, 75, 76, 77, 78, 79, 80, 81, 82, 83, 84, 85, 86, 87, 88, 89, 90, 91, 92]
  | 16, 5 => [1, 3, 4, 6, 7, 8, 9, 10, 11, 12, 13, 15, 16, 17, 18, 19, 20, 21, 22, 23, 24, 25, 26, 27, 28, 29, 30, 31, 32, 33, 34, 35, 36, 37, 38, 39, 40, 41, 42, 43, 44, 45, 46, 47, 48, 49, 50, 51, 52, 53, 54, 55, 56, 57, 58, 59, 60, 61, 62, 63, 64, 65, 66, 67, 68, 69, 70, 71, 72, 73, 74, 75, 76, 77, 78, 79, 80, 81, 82, 83, 84, 85, 86, 87, 88, 89, 90, 91, 92, 93, 94, 95, 96, 97, 98, 99, 100, 101, 102, 103, 104, 105, 106, 107, 108, 109, 110, 111, 112, 113, 114, 115]
  | 18, 4 => [0, 1, 4, 6, 7, 8, 9, 10, 11, 12, 13, 14, 15, 16, 17, 18, 19, 20, 21, 22, 23, 24, 25, 26, 27, 28, 29, 30, 31, 32, 33, 34, 35, 36, 37, 38, 39, 40, 41, 42, 43, 44, 45, 46, 47, 48, 49, 50, 51, 52, 53, 54, 55, 56, 57, 58, 59, 60, 61, 62, 63, 64, 65, 66, 67, 68, 69, 70, 71, 72, 73, 74, 75, 76, 77, 78, 79, 80, 81, 82, 83, 84, 85, 86, 87, 88, 89, 90, 91, 92, 93, 94, 95]
  | 18, 9 => [0, 1, 4, 5, 7, 8, 9, 10, 11, 12, 13, 14, 15, 16, 17, 18, 19, 20, 21, 22, 23, 24, 25, 26, 27, 28, 29, 30, 31, 32, 33, 34, 35, 36, 37, 38, 39, 40, 41, 42, 43, 44, 45, 46, 47, 48, 49, 50, 51, 52, 53, 54, 55, 56, 57, 58, 59, 60, 61, 62, 63, 64, 65, 66, 67, 68, 69, 70, 71, 72, 73, 74, 75, 76, 77, 78, 79, 80, 81, 82, 83, 84, 85, 86, 87, 88, 89, 90, 91, 92, 93, 94, 95]
  | 18, 14 => [0, 1, 4, 5, 6, 8, 9, 10, 11, 12, 13, 14, 15, 16, 17, 18, 19, 20, 21, 22, 23, 24, 25, 26, 27, 28, 29, 30, 31, 32, 33, 34, 35, 36, 37, 38, 39, 40, 41, 42, 43, 44, 45, 46, 47, 48, 49, 50, 51, 52, 53, 54, 55, 56, 57, 58, 59, 60, 61, 62, 63, 64, 65, 66, 67, 68, 69, 70, 71, 72, 73, 74, 75, 76, 77, 78, 79, 80, 81, 82, 83, 84, 85, 86, 87, 88, 89, 90, 91, 92, 93, 94, 95]
  | 25, 4 => [0, 2, 5, 6, 7, 8, 9, 10, 11, 12, 13, 14, 15, 16, 17, 18, 22, 23, 24, 25, 26, 27, 28, 29, 30, 31, 32, 33, 34, 35, 36, 37, 38, 39, 40, 41, 42, 43, 44, 45, 46, 47, 48, 49, 50, 51, 52, 53, 54, 55, 56, 57, 58, 59, 60, 61, 62, 63, 64, 65, 66, 67, 68, 69, 70, 71, 72, 73, 74, 75, 76, 77, 78, 79, 80, 81, 82, 83, 84, 85, 86, 87, 88, 89, 90, 91, 92, 93, 94, 95, 96, 97, 98, 99, 100, 101, 102, 103, 104, 105, 106, 107, 108, 109, 110, 111, 112, 113, 114, 115, 116, 117, 118, 119, 120]
  | 25, 10 => [0, 1, 2, 5, 6, 7, 8, 9, 10, 11, 12, 13, 14, 15, 16, 17, 18, 19, 20, 21, 22, 23, 24, 25, 26, 27, 28, 29, 30, 31, 32, 33, 34, 38, 39, 40, 41, 42, 43, 44, 45, 46, 47, 48, 49, 50, 51, 52, 53, 54, 55, 56, 57, 58, 59, 60, 61, 62, 63, 64, 65, 66, 67, 68, 69, 70, 71, 72, 73, 74, 75, 76, 77, 78, 79, 80, 81, 82, 83, 84, 85, 86, 87, 88, 89, 90, 91, 92, 93, 94, 95, 96, 97, 98, 99, 100, 101, 102, 103, 104, 105, 106, 107, 108, 109, 110, 111, 112, 113, 114, 115, 116, 117, 118, 119, 120]
  | 25, 15 => [0, 1, 2, 5, 6, 7, 9, 10, 11, 12, 13, 14, 15, 16, 17, 18, 19, 20, 21, 22, 23, 24, 25, 26, 27, 28, 29, 30, 31, 32, 33, 34, 38, 39, 40, 41, 42, 43, 44, 45, 46, 47, 48, 49, 50, 51, 52, 56, 57, 58, 59, 60, 61, 62, 63, 64, 65, 66, 67, 68, 69, 70, 71, 72, 73, 74, 75, 76, 77, 78, 79, 80, 81, 82, 83, 84, 85, 86, 87, 88, 89, 90, 91, 92, 93, 94, 95, 96, 97, 98, 99, 100, 101, 102, 103, 104, 105, 106, 107, 108, 109, 110, 111, 112, 113, 114, 115, 116, 117, 118, 119, 120]
  | 25, 20 => [0, 1, 2, 5, 6, 7, 9, 10, 11, 12, 13, 14, 15, 16, 17, 18, 19, 20, 21, 22, 23, 24, 25, 26, 27, 28, 29, 30, 31, 32, 33, 34, 38, 39, 40, 41, 42, 43, 44, 45, 46, 47, 48, 49, 50, 51, 52, 53, 54, 55, 56, 57, 58, 59, 60, 61, 62, 63, 64, 65, 66, 67, 71, 72, 73, 74, 75, 76, 77, 78, 79, 80, 81, 82, 83, 84, 85, 86, 87, 88, 89, 90, 91, 92, 93, 94, 95, 96, 97, 98, 99, 100, 101, 102, 103, 104, 105, 106, 107, 108, 109, 110, 111, 112, 113, 114, 115, 116, 117, 118, 119, 120]
  | 25, 28 => [0, 1, 2, 5, 6, 7, 8, 9, 10, 11, 12, 13, 14, 15, 16, 17, 18, 19, 20, 21, 22, 23, 24, 25, 26, 27, 28, 29, 30, 31, 32, 33, 34, 38, 39, 40, 41, 42, 43, 44, 45, 46, 47, 48, 49, 50, 51, 52, 53, 54, 55, 56, 57, 58, 59, 60, 61, 62, 63, 64, 65, 66, 67, 68, 69, 70, 71, 72, 73, 74, 75, 76, 77, 78, 79, 80, 81, 82, 83, 84, 85, 86, 87, 88, 89, 90, 91, 92, 93, 94, 95, 96, 100, 101, 102, 103, 104, 105, 106, 107, 108, 109, 110, 111, 112, 113, 114, 115, 116, 117, 118, 119, 120]
  | 26, 2 => [1, 3, 4, 5, 6, 7, 8, 9, 10, 11, 15, 16, 17, 18, 19, 20, 21, 22, 23, 24, 25, 26, 27, 28, 29, 30, 31, 32, 33, 34]
  | 28, 3 => [2, 3, 4, 5, 6, 7, 8, 9, 10, 11, 12, 13, 14, 15, 16, 17, 18, 19, 20, 21, 22, 23, 24, 25, 26, 27, 28, 29, 30, 31, 32, 33, 34, 35, 36, 37, 38, 39, 40, 41, 42, 43]
  | 30, 2 => [1, 3, 4, 5, 6, 7, 8, 9, 10, 11, 15, 16, 17, 18, 19, 20, 21, 22, 23, 24, 25, 26, 27, 28, 29, 30, 31, 32, 33, 34]
  | 32, 2 => [1, 3, 4, 5, 6, 7, 8, 9, 10, 11, 15, 16, 17, 18, 19, 20, 21, 22, 23, 24, 25, 26, 27, 28, 29, 30, 31, 32, 33, 34]
  | 33, 2 => [1, 3, 4, 5, 6, 7, 8, 9, 10, 11, 15, 16, 17, 18, 19, 20, 21, 22, 23, 24, 25, 26, 27, 28, 29, 30, 31, 32, 33, 34]
  | 42, 3 => [2, 3, 4, 7, 8, 9, 10, 11, 12, 13, 14, 15, 16, 17, 18, 19, 20, 21, 22, 23, 24, 25]
  | 44, 3 => [2, 3, 4, 7, 8, 9, 10, 11, 12, 13, 14, 15, 16, 17, 18, 19, 20, 21, 22, 23, 24, 25]
  | 46, 3 => [2, 3, 4, 7, 8, 9, 10, 11, 12, 13, 14, 15, 16, 17, 18, 19, 20, 21, 22, 23, 24, 25]
  | 47, 3 => [1, 2, 5, 6, 7, 8, 9, 10, 11, 12, 13, 14, 15, 16, 17, 18, 19, 20, 21, 22, 23, 24, 25, 26, 27, 28, 29, 30, 31, 32, 33, 34, 35, 36, 37, 38, 39, 40, 41, 42, 43, 44, 45, 46, 47, 48, 49, 50, 51, 52, 53, 54, 55, 56, 57, 58, 59, 60, 61, 62, 63, 64, 65, 66, 67, 68, 69, 70, 71, 72, 73, 74, 75, 76]
  | 48, 3 => [2, 3, 4, 7, 8, 9, 10, 11, 12, 13, 14, 15, 16, 17, 18, 19, 20, 21, 22, 23, 24, 25]
  | 55, 4 => [2, 3, 4, 6, 7, 8, 9, 10, 11, 12, 13, 14, 15, 16, 17, 18, 19, 20, 21, 22, 23, 24, 25]
  | 56, 4 => [0, 1, 4, 6, 7, 8, 9, 10, 11, 12, 13, 14, 15, 16, 17, 18, 19, 20, 21, 22, 23, 24, 25, 26, 27, 28, 29, 30, 31, 32, 33, 34, 35, 36, 37, 38, 39, 40, 41, 42, 43, 44, 45, 46, 47, 48, 49, 50, 51, 52, 53, 54, 55, 56, 57, 58, 59, 60, 61, 62, 63, 64, 65, 66, 67, 68, 69, 70, 71, 72, 73, 74, 75, 76, 77, 78, 79, 80, 81, 82, 83, 84, 85, 86, 87, 88, 89, 90, 91, 92, 93, 94, 95, 96, 97, 98, 99, 100, 101, 102, 103, 104, 105, 106, 107, 108]
  | 56, 9 => [0, 1, 4, 5, 7, 8, 9, 10, 11, 12, 13, 14, 15, 16, 17, 18, 19, 20, 21, 22, 23, 24, 25, 26, 27, 28, 29, 30, 31, 32, 33, 34, 35, 36, 37, 38, 39, 40, 41, 42, 43, 44, 45, 46, 47, 48, 49, 50, 51, 52, 53, 54, 55, 56, 57, 58, 59, 60, 61, 62, 63, 64, 65, 66, 67, 68, 69, 70, 71, 72, 73, 74, 75, 76, 77, 78, 79, 80, 81, 82, 83, 84, 85, 86, 87, 88, 89, 90, 91, 92, 93, 94, 95, 96, 97, 98, 99, 100, 101, 102, 103, 104, 105, 106, 107, 108]
  | 56, 14 => [0, 1, 4, 5, 6, 8, 9, 10, 11, 12, 13, 14, 15, 16, 17, 18, 19, 20, 21, 22, 23, 24, 25, 26, 27, 28, 29, 30, 31, 32, 33, 34, 35, 36, 37, 38, 39, 40, 41, 42, 43, 44, 45, 46, 47, 48, 49, 50, 51, 52, 53, 54, 55, 56, 57, 58, 59, 60, 61, 62, 63, 64, 65, 66, 67, 68, 69, 70, 71, 72, 73, 74, 75, 76, 77, 78, 79, 80, 81, 82, 83, 84, 85, 86, 87, 88, 89, 90, 91, 92, 93, 94, 95, 96, 97, 98, 99, 100, 101, 102, 103, 104, 105, 106, 107, 108]
  | 57, 1 => [0, 2, 3, 4, 8, 9, 10, 11, 12, 13, 14, 15, 16, 17, 18, 19, 20, 21, 22]
  | 59, 2 => [1, 3, 4, 5, 6, 7, 8, 9, 10, 11, 15, 16, 17, 18, 19, 20, 21, 22, 23, 24, 25, 26, 27, 28, 29, 30, 31, 32, 33, 34]
  | 61, 2 => [1, 3, 4, 5, 6, 7, 8, 9, 10, 11, 15, 16, 17, 18, 19, 20, 21, 22, 23, 24, 25, 26, 27, 28, 29, 30, 31, 32, 33, 34]
  | 63, 2 => [1, 3, 4, 5, 6, 7, 8, 9, 10, 11, 15, 16, 17, 18, 19, 20, 21, 22, 23, 24, 25, 26, 27, 28, 29, 30, 31, 32, 33, 34]
  | 64, 2 => [0, 2, 3, 4, 5, 6, 7, 8, 9, 10, 11, 12, 16, 17, 18, 19, 20, 21, 22]
  | 68, 3 => [2, 3, 4, 7, 8, 9, 10, 11, 12, 13, 14, 15, 16, 17, 18, 19, 20, 21, 22, 23, 24, 25]
  | 70, 3 => [2, 3, 4, 7, 8, 9, 10, 11, 12, 13, 14, 15, 16, 17, 18, 19, 20, 21, 22, 23, 24, 25]
  | 73, 3 => [2, 3, 4, 7, 8, 9, 10, 11, 12, 13, 14, 15, 16, 17, 18, 19, 20, 21, 22, 23, 24, 25]
  | _, _ => []
 grow f r := match f, r with

  | _, _ => []
 mode f d := match f, d with
  | 7, 29 => .heap
  | 12, 12 => .imm
  | 13, 4 => .heap
  | 13, 7 => .heap
  | 13, 10 => .heap
  | 16, 5 => .heap
  | 16, 13 => .heap
  | 16, 65 => .imm
  | 16, 69 => .imm
  | 25, 3 => .heap
  | 25, 16 => .heap
  | 25, 32 => .imm
  | 25, 46 => .imm
  | 25, 64 => .imm
  | 25, 77 => .imm
  | 25, 112 => .imm
  | 27, 18 => .heap
  | 28, 30 => .heap
  | 28, 41 => .heap
  | 34, 2 => .heap
  | 42, 23 => .imm
  | 42, 24 => .heap
  | 44, 23 => .imm
  | 44, 24 => .heap
  | 45, 5 => .imm
  | 46, 23 => .imm
  | 46, 24 => .heap
  | 48, 23 => .imm
  | 48, 24 => .heap
  | 49, 1 => .heap
  | 49, 13 => .imm
  | 49, 17 => .imm
  | 49, 25 => .imm
  | 64, 13 => .imm
  | 68, 23 => .imm
  | 68, 24 => .heap
  | 70, 23 => .imm
  | 70, 24 => .heap
  | 73, 23 => .imm
  | 73, 24 => .heap
  | _, _ => .priv
 gl g := match g with
  | 2 => .agg (namesL.map .str)
  | 0 => .agg (takesL.map (.int .i64))
  | 1 => .agg (putsL.map (.int .i64))
  | _ => .undef
 pure f := match f with
  | 12 => true
  | 15 => true
  | 22 => true
  | _ => false
theorem gl2 : notes.gl 2 = .agg (namesL.map .str) := rfl
theorem gl0 : notes.gl 0 = .agg (takesL.map (.int .i64)) := rfl
theorem gl1 : notes.gl 1 = .agg (putsL.map (.int .i64)) := rfl
theorem kill7_9 : notes.kill 7 9 = [0, 2, 4, 8, 10, 11, 12, 13, 14, 15, 16, 17, 18, 19, 20, 21, 22, 23, 24, 25, 26, 27, 28, 29, 30, 31, 32, 33, 34, 35, 36, 37, 38, 39, 40, 41, 42, 43, 44, 45, 46, 47, 48, 49, 50, 51, 52, 53, 54, 55, 56, 57, 58, 59, 60, 61, 62, 63, 64, 65, 66, 67, 68, 69, 70, 71, 72, 73, 74, 75, 76, 77, 78, 79, 80, 81, 82, 83, 84, 85, 86, 87, 88, 89, 90, 91, 92, 93, 94, 95, 96, 97] := rfl
theorem grow7_9 : notes.grow 7 9 = [] := rfl
/-- f7, loop at region 9: lives 1:im 3:x 5:b 6:y 7:f 9:i -/
def L7_9 (s1 s3 s5 s6 s7 s9 : Slot) : List Slot := [.v .undef, s1, .v .undef, s3, .v .undef, s5, s6, s7, .v .undef, s9, .v .undef, .v .undef, .v .undef, .v .undef, .v .undef, .v .undef, .v .undef, .v .undef, .v .undef, .v .undef, .v .undef, .v .undef, .v .undef, .v .undef, .v .undef, .v .undef, .v .undef, .v .undef, .v .undef, .v .undef, .v .undef, .v .undef, .v .undef, .v .undef, .v .undef, .v .undef, .v .undef, .v .undef, .v .undef, .v .undef, .v .undef, .v .undef, .v .undef, .v .undef, .v .undef, .v .undef, .v .undef, .v .undef, .v .undef, .v .undef, .v .undef, .v .undef, .v .undef, .v .undef, .v .undef, .v .undef, .v .undef, .v .undef, .v .undef, .v .undef, .v .undef, .v .undef, .v .undef, .v .undef, .v .undef, .v .undef, .v .undef, .v .undef, .v .undef, .v .undef, .v .undef, .v .undef, .v .undef, .v .undef, .v .undef, .v .undef, .v .undef, .v .undef, .v .undef, .v .undef, .v .undef, .v .undef, .v .undef, .v .undef, .v .undef, .v .undef, .v .undef, .v .undef, .v .undef, .v .undef, .v .undef, .v .undef, .v .undef, .v .undef, .v .undef, .v .undef, .v .undef, .v .undef]
theorem kill7_15 : notes.kill 7 15 = [0, 2, 4, 5, 7, 8, 9, 11, 12, 13, 14, 15, 16, 17, 18, 19, 20, 21, 22, 23, 24, 25, 26, 27, 28, 29, 30, 31, 32, 33, 34, 35, 36, 37, 38, 39, 40, 41, 42, 43, 44, 45, 46, 47, 48, 49, 50, 51, 52, 53, 54, 55, 56, 57, 58, 59, 60, 61, 62, 63, 64, 65, 66, 67, 68, 69, 70, 71, 72, 73, 74, 75, 76, 77, 78, 79, 80, 81, 82, 83, 84, 85, 86, 87, 88, 89, 90, 91, 92, 93, 94, 95, 96, 97] := rfl
theorem grow7_15 : notes.grow 7 15 = [] := rfl
/-- f7, loop at region 15: lives 1:im 3:x 6:y 10:i -/
def L7_15 (s1 s3 s6 s10 : Slot) : List Slot := [.v .undef, s1, .v .undef, s3, .v .undef, .v .undef, s6, .v .undef, .v .undef, .v .undef, s10, .v .undef, .v .undef, .v .undef, .v .undef, .v .undef, .v .undef, .v .undef, .v .undef, .v .undef, .v .undef, .v .undef, .v .undef, .v .undef, .v .undef, .v .undef, .v .undef, .v .undef, .v .undef, .v .undef, .v .undef, .v .undef, .v .undef, .v .undef, .v .undef, .v .undef, .v .undef, .v .undef, .v .undef, .v .undef, .v .undef, .v .undef, .v .undef, .v .undef, .v .undef, .v .undef, .v .undef, .v .undef, .v .undef, .v .undef, .v .undef, .v .undef, .v .undef, .v .undef, .v .undef, .v .undef, .v .undef, .v .undef, .v .undef, .v .undef, .v .undef, .v .undef, .v .undef, .v .undef, .v .undef, .v .undef, .v .undef, .v .undef, .v .undef, .v .undef, .v .undef, .v .undef, .v .undef, .v .undef, .v .undef, .v .undef, .v .undef, .v .undef, .v .undef, .v .undef, .v .undef, .v .undef, .v .undef, .v .undef, .v .undef, .v .undef, .v .undef, .v .undef, .v .undef, .v .undef, .v .undef, .v .undef, .v .undef, .v .undef, .v .undef, .v .undef, .v .undef, .v .undef]
theorem kill7_18 : notes.kill 7 18 = [0, 2, 4, 5, 7, 8, 9, 12, 13, 14, 15, 16, 17, 18, 19, 20, 21, 22, 23, 24, 25, 26, 27, 28, 29, 30, 31, 32, 33, 34, 35, 36, 37, 38, 39, 40, 41, 42, 43, 44, 45, 46, 47, 48, 49, 50, 51, 52, 53, 54, 55, 56, 57, 58, 59, 60, 61, 62, 63, 64, 65, 66, 67, 68, 69, 70, 71, 72, 73, 74, 75, 76, 77, 78, 79, 80, 81, 82, 83, 84, 85, 86, 87, 88, 89, 90, 91, 92, 93, 94, 95, 96, 97] := rfl
theorem grow7_18 : notes.grow 7 18 = [] := rfl
/-- f7, loop at region 18: lives 1:im 3:x 6:y 10:i 11:k -/
def L7_18 (s1 s3 s6 s10 s11 : Slot) : List Slot := [.v .undef, s1, .v .undef, s3, .v .undef, .v .undef, s6, .v .undef, .v .undef, .v .undef, s10, s11, .v .undef, .v .undef, .v .undef, .v .undef, .v .undef, .v .undef, .v .undef, .v .undef, .v .undef, .v .undef, .v .undef, .v .undef, .v .undef, .v .undef, .v .undef, .v .undef, .v .undef, .v .undef, .v .undef, .v .undef, .v .undef, .v .undef, .v .undef, .v .undef, .v .undef, .v .undef, .v .undef, .v .undef, .v .undef, .v .undef, .v .undef, .v .undef, .v .undef, .v .undef, .v .undef, .v .undef, .v .undef, .v .undef, .v .undef, .v .undef, .v .undef, .v .undef, .v .undef, .v .undef, .v .undef, .v .undef, .v .undef, .v .undef, .v .undef, .v .undef, .v .undef, .v .undef, .v .undef, .v .undef, .v .undef, .v .undef, .v .undef, .v .undef, .v .undef, .v .undef, .v .undef, .v .undef, .v .undef, .v .undef, .v .undef, .v .undef, .v .undef, .v .undef, .v .undef, .v .undef, .v .undef, .v .undef, .v .undef, .v .undef, .v .undef, .v .undef, .v .undef, .v .undef, .v .undef, .v .undef, .v .undef, .v .undef, .v .undef, .v .undef, .v .undef, .v .undef]
theorem mode7_1 : notes.mode 7 1 = .priv := rfl
theorem mode7_16 : notes.mode 7 16 = .priv := rfl
theorem mode7_17 : notes.mode 7 17 = .priv := rfl
theorem mode7_20 : notes.mode 7 20 = .priv := rfl
theorem mode7_21 : notes.mode 7 21 = .priv := rfl
theorem mode7_22 : notes.mode 7 22 = .priv := rfl
theorem mode7_24 : notes.mode 7 24 = .priv := rfl
theorem mode7_26 : notes.mode 7 26 = .priv := rfl
theorem mode7_27 : notes.mode 7 27 = .priv := rfl
theorem mode7_29 : notes.mode 7 29 = .heap := rfl
theorem mode7_32 : notes.mode 7 32 = .priv := rfl
theorem mode7_33 : notes.mode 7 33 = .priv := rfl
theorem mode7_34 : notes.mode 7 34 = .priv := rfl
theorem mode7_35 : notes.mode 7 35 = .priv := rfl
theorem mode7_6 : notes.mode 7 6 = .priv := rfl
theorem mode7_46 : notes.mode 7 46 = .priv := rfl
theorem mode7_51 : notes.mode 7 51 = .priv := rfl
theorem mode7_83 : notes.mode 7 83 = .priv := rfl
theorem mode7_84 : notes.mode 7 84 = .priv := rfl
theorem mode7_85 : notes.mode 7 85 = .priv := rfl
theorem mode7_86 : notes.mode 7 86 = .priv := rfl
theorem mode7_12 : notes.mode 7 12 = .priv := rfl
theorem mode7_88 : notes.mode 7 88 = .priv := rfl
theorem mode7_93 : notes.mode 7 93 = .priv := rfl
theorem mode7_96 : notes.mode 7 96 = .priv := rfl
theorem f7 : Tryd.prog.funcs[7]? = some Tryd.f7 := by kernel_rfl
theorem r7 : Tryd.f7.results.toList = [.tmp 2] := rfl
theorem n7 : Tryd.f7.ntmps = 98 := rfl
theorem b7 : Tryd.f7.body = some (bodyOf Tryd.f7) := rfl
theorem kill11_5 : notes.kill 11 5 = [0, 2, 5, 6, 7, 8, 9, 10, 11, 12, 13, 14, 15, 16, 17, 18, 19, 20, 21, 22, 23, 24, 25, 26, 27, 28, 29, 30, 31, 32, 33, 34, 35, 36, 37, 38, 39, 40, 41, 42, 43, 44, 45, 46, 47, 48, 49, 50, 51, 52, 53, 54, 55, 56, 57, 58, 59, 60, 61, 62, 63, 64, 65, 66, 67, 68, 69, 70, 71, 72, 73, 74, 75, 76, 77, 78, 79, 80, 81, 82, 83, 84, 85, 86, 87, 88, 89, 90, 91, 92] := rfl
theorem grow11_5 : notes.grow 11 5 = [] := rfl
/-- f11, loop at region 5: lives 1:im 3:n 4:i -/
def L11_5 (s1 s3 s4 : Slot) : List Slot := [.v .undef, s1, .v .undef, s3, s4, .v .undef, .v .undef, .v .undef, .v .undef, .v .undef, .v .undef, .v .undef, .v .undef, .v .undef, .v .undef, .v .undef, .v .undef, .v .undef, .v .undef, .v .undef, .v .undef, .v .undef, .v .undef, .v .undef, .v .undef, .v .undef, .v .undef, .v .undef, .v .undef, .v .undef, .v .undef, .v .undef, .v .undef, .v .undef, .v .undef, .v .undef, .v .undef, .v .undef, .v .undef, .v .undef, .v .undef, .v .undef, .v .undef, .v .undef, .v .undef, .v .undef, .v .undef, .v .undef, .v .undef, .v .undef, .v .undef, .v .undef, .v .undef, .v .undef, .v .undef, .v .undef, .v .undef, .v .undef, .v .undef, .v .undef, .v .undef, .v .undef, .v .undef, .v .undef, .v .undef, .v .undef, .v .undef, .v .undef, .v .undef, .v .undef, .v .undef, .v .undef, .v .undef, .v .undef, .v .undef, .v .undef, .v .undef, .v .undef, .v .undef, .v .undef, .v .undef, .v .undef, .v .undef, .v .undef, .v .undef, .v .undef, .v .undef, .v .undef, .v .undef, .v .undef, .v .undef, .v .undef, .v .undef]
theorem kill11_10 : notes.kill 11 10 = [0, 2, 4, 6, 7, 8, 9, 10, 11, 12, 13, 14, 15, 16, 17, 18, 19, 20, 21, 22, 23, 24, 25, 26, 27, 28, 29, 30, 31, 32, 33, 34, 35, 36, 37, 38, 39, 40, 41, 42, 43, 44, 45, 46, 47, 48, 49, 50, 51, 52, 53, 54, 55, 56, 57, 58, 59, 60, 61, 62, 63, 64, 65, 66, 67, 68, 69, 70, 71, 72, 73, 74, 75, 76, 77, 78, 79, 80, 81, 82, 83, 84, 85, 86, 87, 88, 89, 90, 91, 92] := rfl
theorem grow11_10 : notes.grow 11 10 = [] := rfl
/-- f11, loop at region 10: lives 1:im 3:n 5:i -/
def L11_10 (s1 s3 s5 : Slot) : List Slot := [.v .undef, s1, .v .undef, s3, .v .undef, s5, .v .undef, .v .undef, .v .undef, .v .undef, .v .undef, .v .undef, .v .undef, .v .undef, .v .undef, .v .undef, .v .undef, .v .undef, .v .undef, .v .undef, .v .undef, .v .undef, .v .undef, .v .undef, .v .undef, .v .undef, .v .undef, .v .undef, .v .undef, .v .undef, .v .undef, .v .undef, .v .undef, .v .undef, .v .undef, .v .undef, .v .undef, .v .undef, .v .undef, .v .undef, .v .undef, .v .undef, .v .undef, .v .undef, .v .undef, .v .undef, .v .undef, .v .undef, .v .undef, .v .undef, .v .undef, .v .undef, .v .undef, .v .undef, .v .undef, .v .undef, .v .undef, .v .undef, .v .undef, .v .undef, .v .undef, .v .undef, .v .undef, .v .undef, .v .undef, .v .undef, .v .undef, .v .undef, .v .undef, .v .undef, .v .undef, .v .undef, .v .undef, .v .undef, .v .undef, .v .undef, .v .undef, .v .undef, .v .undef, .v .undef, .v .undef, .v .undef, .v .undef, .v .undef, .v .undef, .v .undef, .v .undef, .v .undef, .v .undef, .v .undef, .v .undef, .v .undef, .v .undef]
theorem kill11_15 : notes.kill 11 15 = [0, 2, 4, 5, 7, 8, 9, 10, 11, 12, 13, 14, 15, 16, 17, 18, 19, 20, 21, 22, 23, 24, 25, 26, 27, 28, 29, 30, 31, 32, 33, 34, 35, 36, 37, 38, 39, 40, 41, 42, 43, 44, 45, 46, 47, 48, 49, 50, 51, 52, 53, 54, 55, 56, 57, 58, 59, 60, 61, 62, 63, 64, 65, 66, 67, 68, 69, 70, 71, 72, 73, 74, 75, 76, 77, 78, 79, 80, 81, 82, 83, 84, 85, 86, 87, 88, 89, 90, 91, 92] := rfl
theorem grow11_15 : notes.grow 11 15 = [] := rfl
/-- f11, loop at region 15: lives 1:im 3:n 6:i -/
def L11_15 (s1 s3 s6 : Slot) : List Slot := [.v .undef, s1, .v .undef, s3, .v .undef, .v .undef, s6, .v .undef, .v .undef, .v .undef, .v .undef, .v .undef, .v .undef, .v .undef, .v .undef, .v .undef, .v .undef, .v .undef, .v .undef, .v .undef, .v .undef, .v .undef, .v .undef, .v .undef, .v .undef, .v .undef, .v .undef, .v .undef, .v .undef, .v .undef, .v .undef, .v .undef, .v .undef, .v .undef, .v .undef, .v .undef, .v .undef, .v .undef, .v .undef, .v .undef, .v .undef, .v .undef, .v .undef, .v .undef, .v .undef, .v .undef, .v .undef, .v .undef, .v .undef, .v .undef, .v .undef, .v .undef, .v .undef, .v .undef, .v .undef, .v .undef, .v .undef, .v .undef, .v .undef, .v .undef, .v .undef, .v .undef, .v .undef, .v .undef, .v .undef, .v .undef, .v .undef, .v .undef, .v .undef, .v .undef, .v .undef, .v .undef, .v .undef, .v .undef, .v .undef, .v .undef, .v .undef, .v .undef, .v .undef, .v .undef, .v .undef, .v .undef, .v .undef, .v .undef, .v .undef, .v .undef, .v .undef, .v .undef, .v .undef, .v .undef, .v .undef, .v .undef, .v .undef]
theorem mode11_1 : notes.mode 11 1 = .priv := rfl
theorem mode11_7 : notes.mode 11 7 = .priv := rfl
theorem f11 : Tryd.prog.funcs[11]? = some Tryd.f11 := by kernel_rfl
theorem r11 : Tryd.f11.results.toList = [.tmp 2] := rfl
theorem n11 : Tryd.f11.ntmps = 93 := rfl
theorem b11 : Tryd.f11.body = some (bodyOf Tryd.f11) := rfl
theorem mode12_11 : notes.mode 12 11 = .priv := rfl
theorem mode12_12 : notes.mode 12 12 = .imm := rfl
theorem mode12_13 : notes.mode 12 13 = .priv := rfl
theorem mode12_16 : notes.mode 12 16 = .priv := rfl
theorem mode12_17 : notes.mode 12 17 = .priv := rfl
theorem mode12_18 : notes.mode 12 18 = .priv := rfl
theorem mode12_19 : notes.mode 12 19 = .priv := rfl
theorem mode12_3 : notes.mode 12 3 = .priv := rfl
theorem mode12_23 : notes.mode 12 23 = .priv := rfl
theorem mode12_24 : notes.mode 12 24 = .priv := rfl
theorem mode12_25 : notes.mode 12 25 = .priv := rfl
theorem mode12_26 : notes.mode 12 26 = .priv := rfl
theorem mode12_28 : notes.mode 12 28 = .priv := rfl
theorem mode12_30 : notes.mode 12 30 = .priv := rfl
theorem mode12_33 : notes.mode 12 33 = .priv := rfl
theorem mode12_38 : notes.mode 12 38 = .priv := rfl
theorem mode12_54 : notes.mode 12 54 = .priv := rfl
theorem f12 : Tryd.prog.funcs[12]? = some Tryd.f12 := by kernel_rfl
theorem r12 : Tryd.f12.results.toList = [.tmp 0] := rfl
theorem n12 : Tryd.f12.ntmps = 57 := rfl
theorem b12 : Tryd.f12.body = some (bodyOf Tryd.f12) := rfl
theorem mode13_1 : notes.mode 13 1 = .priv := rfl
theorem mode13_6 : notes.mode 13 6 = .priv := rfl
theorem mode13_7 : notes.mode 13 7 = .heap := rfl
theorem mode13_8 : notes.mode 13 8 = .priv := rfl
theorem mode13_10 : notes.mode 13 10 = .heap := rfl
theorem mode13_4 : notes.mode 13 4 = .heap := rfl
theorem mode13_15 : notes.mode 13 15 = .priv := rfl
theorem mode13_20 : notes.mode 13 20 = .priv := rfl
theorem mode13_24 : notes.mode 13 24 = .priv := rfl
theorem mode13_30 : notes.mode 13 30 = .priv := rfl
theorem f13 : Tryd.prog.funcs[13]? = some Tryd.f13 := by kernel_rfl
theorem r13 : Tryd.f13.results.toList = [.tmp 2, .tmp 3] := rfl
theorem n13 : Tryd.f13.ntmps = 48 := rfl
theorem b13 : Tryd.f13.body = some (bodyOf Tryd.f13) := rfl
theorem f15 : Tryd.prog.funcs[15]? = some Tryd.f15 := by kernel_rfl
theorem r15 : Tryd.f15.results.toList = [.tmp 2] := rfl
theorem n15 : Tryd.f15.ntmps = 4 := rfl
theorem b15 : Tryd.f15.body = some (bodyOf Tryd.f15) := rfl
theorem kill16_5 : notes.kill 16 5 = [1, 3, 4, 6, 7, 8, 9, 10, 11, 12, 13, 15, 16, 17, 18, 19, 20, 21, 22, 23, 24, 25, 26, 27, 28, 29, 30, 31, 32, 33, 34, 35, 36, 37, 38, 39, 40, 41, 42, 43, 44, 45, 46, 47, 48, 49, 50, 51, 52, 53, 54, 55, 56, 57, 58, 59, 60, 61, 62, 63, 64, 65, 66, 67, 68, 69, 70, 71, 72, 73, 74, 75, 76, 77, 78, 79, 80, 81, 82, 83, 84, 85, 86, 87, 88, 89, 90, 91, 92, 93, 94, 95, 96, 97, 98, 99, 100, 101, 102, 103, 104, 105, 106, 107, 108, 109, 110, 111, 112, 113, 114, 115] := rfl
theorem grow16_5 : notes.grow 16 5 = [] := rfl
/-- f16, loop at region 5: lives 0:b 2:im 5:r 14: -/
def L16_5 (s0 s2 s5 s14 : Slot) : List Slot := [s0, .v .undef, s2, .v .undef, .v .undef, s5, .v .undef, .v .undef, .v .undef, .v .undef, .v .undef, .v .undef, .v .undef, .v .undef, s14, .v .undef, .v .undef, .v .undef, .v .undef, .v .undef, .v .undef, .v .undef, .v .undef, .v .undef, .v .undef, .v .undef, .v .undef, .v .undef, .v .undef, .v .undef, .v .undef, .v .undef, .v .undef, .v .undef, .v .undef, .v .undef, .v .undef, .v .undef, .v .undef, .v .undef, .v .undef, .v .undef, .v .undef, .v .undef, .v .undef, .v .undef, .v .undef, .v .undef, .v .undef, .v .undef, .v .undef, .v .undef, .v .undef, .v .undef, .v .undef, .v .undef, .v .undef, .v .undef, .v .undef, .v .undef, .v .undef, .v .undef, .v .undef, .v .undef, .v .undef, .v .undef, .v .undef, .v .undef, .v .undef, .v .undef, .v .undef, .v .undef, .v .undef, .v .undef, .v .undef, .v .undef, .v .undef, .v .undef, .v .undef, .v .undef, .v .undef, .v .undef, .v .undef, .v .undef, .v .undef, .v .undef, .v .undef, .v .undef, .v .undef, .v .undef, .v .undef, .v .undef, .v .undef, .v .undef, .v .undef, .v .undef, .v .undef, .v .undef, .v .undef, .v .undef, .v .undef, .v .undef, .v .undef, .v .undef, .v .undef, .v .undef, .v .undef, .v .undef, .v .undef, .v .undef, .v .undef, .v .undef, .v .undef, .v .undef, .v .undef, .v .undef]
theorem mode16_2 : notes.mode 16 2 = .priv := rfl
theorem mode16_13 : notes.mode 16 13 = .heap := rfl
theorem mode16_5 : notes.mode 16 5 = .heap := rfl
theorem mode16_48 : notes.mode 16 48 = .priv := rfl
theorem mode16_65 : notes.mode 16 65 = .imm := rfl
theorem mode16_69 : notes.mode 16 69 = .imm := rfl
theorem mode16_72 : notes.mode 16 72 = .priv := rfl
theorem mode16_77 : notes.mode 16 77 = .priv := rfl
theorem mode16_98 : notes.mode 16 98 = .priv := rfl
theorem f16 : Tryd.prog.funcs[16]? = some Tryd.f16 := by kernel_rfl
theorem r16 : Tryd.f16.results.toList = [.cell 2 26, .tmp 3, .tmp 4] := rfl
theorem n16 : Tryd.f16.ntmps = 116 := rfl
theorem b16 : Tryd.f16.body = some (bodyOf Tryd.f16) := rfl
def alts16_7 : List (Nat × Nat × Nat) := []
def alts16_8 : List (Nat × Nat × Nat) := []
def alts16_17 : List (Nat × Nat × Nat) := []
def alts16_19 : List (Nat × Nat × Nat) := [(1, 0, 1), (1, 1, 0), (1, 1, 1), (4, 0, 1), (4, 1, 0), (4, 1, 1), (5, 0, 1), (5, 1, 0), (5, 1, 1), (8, 0, 1), (8, 1, 0), (8, 1, 1)]
theorem kill18_4 : notes.kill 18 4 = [0, 1, 4, 6, 7, 8, 9, 10, 11, 12, 13, 14, 15, 16, 17, 18, 19, 20, 21, 22, 23, 24, 25, 26, 27, 28, 29, 30, 31, 32, 33, 34, 35, 36, 37, 38, 39, 40, 41, 42, 43, 44, 45, 46, 47, 48, 49, 50, 51, 52, 53, 54, 55, 56, 57, 58, 59, 60, 61, 62, 63, 64, 65, 66, 67, 68, 69, 70, 71, 72, 73, 74, 75, 76, 77, 78, 79, 80, 81, 82, 83, 84, 85, 86, 87, 88, 89, 90, 91, 92, 93, 94, 95] := rfl
theorem grow18_4 : notes.grow 18 4 = [] := rfl
/-- f18, loop at region 4: lives 2:a 3:b 5:i -/
def L18_4 (s2 s3 s5 : Slot) : List Slot := [.v .undef, .v .undef, s2, s3, .v .undef, s5, .v .undef, .v .undef, .v .undef, .v .undef, .v .undef, .v .undef, .v .undef, .v .undef, .v .undef, .v .undef, .v .undef, .v .undef, .v .undef, .v .undef, .v .undef, .v .undef, .v .undef, .v .undef, .v .undef, .v .undef, .v .undef, .v .undef, .v .undef, .v .undef, .v .undef, .v .undef, .v .undef, .v .undef, .v .undef, .v .undef, .v .undef, .v .undef, .v .undef, .v .undef, .v .undef, .v .undef, .v .undef, .v .undef, .v .undef, .v .undef, .v .undef, .v .undef, .v .undef, .v .undef, .v .undef, .v .undef, .v .undef, .v .undef, .v .undef, .v .undef, .v .undef, .v .undef, .v .undef, .v .undef, .v .undef, .v .undef, .v .undef, .v .undef, .v .undef, .v .undef, .v .undef, .v .undef, .v .undef, .v .undef, .v .undef, .v .undef, .v .undef, .v .undef, .v .undef, .v .undef, .v .undef, .v .undef, .v .undef, .v .undef, .v .undef, .v .undef, .v .undef, .v .undef, .v .undef, .v .undef, .v .undef, .v .undef, .v .undef, .v .undef, .v .undef, .v .undef, .v .undef, .v .undef, .v .undef, .v .undef]
theorem kill18_9 : notes.kill 18 9 = [0, 1, 4, 5, 7, 8, 9, 10, 11, 12, 13, 14, 15, 16, 17, 18, 19, 20, 21, 22, 23, 24, 25, 26, 27, 28, 29, 30, 31, 32, 33, 34, 35, 36, 37, 38, 39, 40, 41, 42, 43, 44, 45, 46, 47, 48, 49, 50, 51, 52, 53, 54, 55, 56, 57, 58, 59, 60, 61, 62, 63, 64, 65, 66, 67, 68, 69, 70, 71, 72, 73, 74, 75, 76, 77, 78, 79, 80, 81, 82, 83, 84, 85, 86, 87, 88, 89, 90, 91, 92, 93, 94, 95] := rfl
theorem grow18_9 : notes.grow 18 9 = [] := rfl
/-- f18, loop at region 9: lives 2:a 3:b 6:i -/
def L18_9 (s2 s3 s6 : Slot) : List Slot := [.v .undef, .v .undef, s2, s3, .v .undef, .v .undef, s6, .v .undef, .v .undef, .v .undef, .v .undef, .v .undef, .v .undef, .v .undef, .v .undef, .v .undef, .v .undef, .v .undef, .v .undef, .v .undef, .v .undef, .v .undef, .v .undef, .v .undef, .v .undef, .v .undef, .v .undef, .v .undef, .v .undef, .v .undef, .v .undef, .v .undef, .v .undef, .v .undef, .v .undef, .v .undef, .v .undef, .v .undef, .v .undef, .v .undef, .v .undef, .v .undef, .v .undef, .v .undef, .v .undef, .v .undef, .v .undef, .v .undef, .v .undef, .v .undef, .v .undef, .v .undef, .v .undef, .v .undef, .v .undef, .v .undef, .v .undef, .v .undef, .v .undef, .v .undef, .v .undef, .v .undef, .v .undef, .v .undef, .v .undef, .v .undef, .v .undef, .v .undef, .v .undef, .v .undef, .v .undef, .v .undef, .v .undef, .v .undef, .v .undef, .v .undef, .v .undef, .v .undef, .v .undef, .v .undef, .v .undef, .v .undef, .v .undef, .v .undef, .v .undef, .v .undef, .v .undef, .v .undef, .v .undef, .v .undef, .v .undef, .v .undef, .v .undef, .v .undef, .v .undef, .v .undef]
theorem kill18_14 : notes.kill 18 14 = [0, 1, 4, 5, 6, 8, 9, 10, 11, 12, 13, 14, 15, 16, 17, 18, 19, 20, 21, 22, 23, 24, 25, 26, 27, 28, 29, 30, 31, 32, 33, 34, 35, 36, 37, 38, 39, 40, 41, 42, 43, 44, 45, 46, 47, 48, 49, 50, 51, 52, 53, 54, 55, 56, 57, 58, 59, 60, 61, 62, 63, 64, 65, 66, 67, 68, 69, 70, 71, 72, 73, 74, 75, 76, 77, 78, 79, 80, 81, 82, 83, 84, 85, 86, 87, 88, 89, 90, 91, 92, 93, 94, 95] := rfl
theorem grow18_14 : notes.grow 18 14 = [] := rfl
/-- f18, loop at region 14: lives 2:a 3:b 7:i -/
def L18_14 (s2 s3 s7 : Slot) : List Slot := [.v .undef, .v .undef, s2, s3, .v .undef, .v .undef, .v .undef, s7, .v .undef, .v .undef, .v .undef, .v .undef, .v .undef, .v .undef, .v .undef, .v .undef, .v .undef, .v .undef, .v .undef, .v .undef, .v .undef, .v .undef, .v .undef, .v .undef, .v .undef, .v .undef, .v .undef, .v .undef, .v .undef, .v .undef, .v .undef, .v .undef, .v .undef, .v .undef, .v .undef, .v .undef, .v .undef, .v .undef, .v .undef, .v .undef, .v .undef, .v .undef, .v .undef, .v .undef, .v .undef, .v .undef, .v .undef, .v .undef, .v .undef, .v .undef, .v .undef, .v .undef, .v .undef, .v .undef, .v .undef, .v .undef, .v .undef, .v .undef, .v .undef, .v .undef, .v .undef, .v .undef, .v .undef, .v .undef, .v .undef, .v .undef, .v .undef, .v .undef, .v .undef, .v .undef, .v .undef, .v .undef, .v .undef, .v .undef, .v .undef, .v .undef, .v .undef, .v .undef, .v .undef, .v .undef, .v .undef, .v .undef, .v .undef, .v .undef, .v .undef, .v .undef, .v .undef, .v .undef, .v .undef, .v .undef, .v .undef, .v .undef, .v .undef, .v .undef, .v .undef, .v .undef]
theorem mode18_2 : notes.mode 18 2 = .priv := rfl
theorem mode18_3 : notes.mode 18 3 = .priv := rfl
theorem mode18_75 : notes.mode 18 75 = .priv := rfl
theorem mode18_94 : notes.mode 18 94 = .priv := rfl
theorem f18 : Tryd.prog.funcs[18]? = some Tryd.f18 := by kernel_rfl
theorem r18 : Tryd.f18.results.toList = [.tmp 4] := rfl
theorem n18 : Tryd.f18.ntmps = 96 := rfl
theorem b18 : Tryd.f18.body = some (bodyOf Tryd.f18) := rfl
def alts18_6 : List (Nat × Nat × Nat) := []
def alts18_11 : List (Nat × Nat × Nat) := []
def alts18_16 : List (Nat × Nat × Nat) := []
theorem mode20_2 : notes.mode 20 2 = .priv := rfl
theorem mode20_3 : notes.mode 20 3 = .priv := rfl
theorem f20 : Tryd.prog.funcs[20]? = some Tryd.f20 := by kernel_rfl
theorem r20 : Tryd.f20.results.toList = [.tmp 4, .tmp 5, .tmp 6] := rfl
theorem n20 : Tryd.f20.ntmps = 63 := rfl
theorem b20 : Tryd.f20.body = some (bodyOf Tryd.f20) := rfl
def alts20_3 : List (Nat × Nat × Nat) := []
theorem f22 : Tryd.prog.funcs[22]? = some Tryd.f22 := by kernel_rfl
theorem r22 : Tryd.f22.results.toList = [.tmp 2] := rfl
theorem n22 : Tryd.f22.ntmps = 12 := rfl
theorem b22 : Tryd.f22.body = some (bodyOf Tryd.f22) := rfl
theorem kill25_4 : notes.kill 25 4 = [0, 2, 5, 6, 7, 8, 9, 10, 11, 12, 13, 14, 15, 16, 17, 18, 22, 23, 24, 25, 26, 27, 28, 29, 30, 31, 32, 33, 34, 35, 36, 37, 38, 39, 40, 41, 42, 43, 44, 45, 46, 47, 48, 49, 50, 51, 52, 53, 54, 55, 56, 57, 58, 59, 60, 61, 62, 63, 64, 65, 66, 67, 68, 69, 70, 71, 72, 73, 74, 75, 76, 77, 78, 79, 80, 81, 82, 83, 84, 85, 86, 87, 88, 89, 90, 91, 92, 93, 94, 95, 96, 97, 98, 99, 100, 101, 102, 103, 104, 105, 106, 107, 108, 109, 110, 111, 112, 113, 114, 115, 116, 117, 118, 119, 120] := rfl
theorem grow25_4 : notes.grow 25 4 = [] := rfl
/-- f25, loop at region 4: lives 1:im 3:w 4:try 19: 20: 21: -/
def L25_4 (s1 s3 s4 s19 s20 s21 : Slot) : List Slot := [.v .undef, s1, .v .undef, s3, s4, .v .undef, .v .undef, .v .undef, .v .undef, .v .undef, .v .undef, .v .undef, .v .undef, .v .undef, .v .undef, .v .undef, .v .undef, .v .undef, .v .undef, s19, s20, s21, .v .undef, .v .undef, .v .undef, .v .undef, .v .undef, .v .undef, .v .undef, .v .undef, .v .undef, .v .undef, .v .undef, .v .undef, .v .undef, .v .undef, .v .undef, .v .undef, .v .undef, .v .undef, .v .undef, .v .undef, .v .undef, .v .undef, .v .undef, .v .undef, .v .undef, .v .undef, .v .undef, .v .undef, .v .undef, .v .undef, .v .undef, .v .undef, .v .undef, .v .undef, .v .undef, .v .undef, .v .undef, .v .undef, .v .undef, .v .undef, .v .undef, .v .undef, .v .undef, .v .undef, .v .undef, .v .undef, .v .undef, .v .undef, .v .undef, .v .undef, .v .undef, .v .undef, .v .undef, .v .undef, .v .undef, .v .undef, .v .undef, .v .undef, .v .undef, .v .undef, .v .undef, .v .undef, .v .undef, .v .undef, .v .undef, .v .undef, .v .undef, .v .undef, .v .undef, .v .undef, .v .undef, .v .undef, .v .undef, .v .undef, .v .undef, .v .undef, .v .undef, .v .undef, .v .undef, .v .undef, .v .undef, .v .undef, .v .undef, .v .undef, .v .undef, .v .undef, .v .undef, .v .undef, .v .undef, .v .undef, .v .undef, .v .undef, .v .undef, .v .undef, .v .undef, .v .undef, .v .undef, .v .undef, .v .undef]
theorem kill25_10 : notes.kill 25 10 = [0, 1, 2, 5, 6, 7, 8, 9, 10, 11, 12, 13, 14, 15, 16, 17, 18, 19, 20, 21, 22, 23, 24, 25, 26, 27, 28, 29, 30, 31, 32, 33, 34, 38, 39, 40, 41, 42, 43, 44, 45, 46, 47, 48, 49, 50, 51, 52, 53, 54, 55, 56, 57, 58, 59, 60, 61, 62, 63, 64, 65, 66, 67, 68, 69, 70, 71, 72, 73, 74, 75, 76, 77, 78, 79, 80, 81, 82, 83, 84, 85, 86, 87, 88, 89, 90, 91, 92, 93, 94, 95, 96, 97, 98, 99, 100, 101, 102, 103, 104, 105, 106, 107, 108, 109, 110, 111, 112, 113, 114, 115, 116, 117, 118, 119, 120] := rfl
theorem grow25_10 : notes.grow 25 10 = [] := rfl
/-- f25, loop at region 10: lives 3:w 4:try 35: 36: 37: -/
def L25_10 (s3 s4 s35 s36 s37 : Slot) : List Slot := [.v .undef, .v .undef, .v .undef, s3, s4, .v .undef, .v .undef, .v .undef, .v .undef, .v .undef, .v .undef, .v .undef, .v .undef, .v .undef, .v .undef, .v .undef, .v .undef, .v .undef, .v .undef, .v .undef, .v .undef, .v .undef, .v .undef, .v .undef, .v .undef, .v .undef, .v .undef, .v .undef, .v .undef, .v .undef, .v .undef, .v .undef, .v .undef, .v .undef, .v .undef, s35, s36, s37, .v .undef, .v .undef, .v .undef, .v .undef, .v .undef, .v .undef, .v .undef, .v .undef, .v .undef, .v .undef, .v .undef, .v .undef, .v .undef, .v .undef, .v .undef, .v .undef, .v .undef, .v .undef, .v .undef, .v .undef, .v .undef, .v .undef, .v .undef, .v .undef, .v .undef, .v .undef, .v .undef, .v .undef, .v .undef, .v .undef, .v .undef, .v .undef, .v .undef, .v .undef, .v .undef, .v .undef, .v .undef, .v .undef, .v .undef, .v .undef, .v .undef, .v .undef, .v .undef, .v .undef, .v .undef, .v .undef, .v .undef, .v .undef, .v .undef, .v .undef, .v .undef, .v .undef, .v .undef, .v .undef, .v .undef, .v .undef, .v .undef, .v .undef, .v .undef, .v .undef, .v .undef, .v .undef, .v .undef, .v .undef, .v .undef, .v .undef, .v .undef, .v .undef, .v .undef, .v .undef, .v .undef, .v .undef, .v .undef, .v .undef, .v .undef, .v .undef, .v .undef, .v .undef, .v .undef, .v .undef, .v .undef, .v .undef, .v .undef]
theorem kill25_15 : notes.kill 25 15 = [0, 1, 2, 5, 6, 7, 9, 10, 11, 12, 13, 14, 15, 16, 17, 18, 19, 20, 21, 22, 23, 24, 25, 26, 27, 28, 29, 30, 31, 32, 33, 34, 38, 39, 40, 41, 42, 43, 44, 45, 46, 47, 48, 49, 50, 51, 52, 56, 57, 58, 59, 60, 61, 62, 63, 64, 65, 66, 67, 68, 69, 70, 71, 72, 73, 74, 75, 76, 77, 78, 79, 80, 81, 82, 83, 84, 85, 86, 87, 88, 89, 90, 91, 92, 93, 94, 95, 96, 97, 98, 99, 100, 101, 102, 103, 104, 105, 106, 107, 108, 109, 110, 111, 112, 113, 114, 115, 116, 117, 118, 119, 120] := rfl
theorem grow25_15 : notes.grow 25 15 = [] := rfl
/-- f25, loop at region 15: lives 3:w 4:try 8:c 35: 36: 37: 53: 54: 55: -/
def L25_15 (s3 s4 s8 s35 s36 s37 s53 s54 s55 : Slot) : List Slot := [.v .undef, .v .undef, .v .undef, s3, s4, .v .undef, .v .undef, .v .undef, s8, .v .undef, .v .undef, .v .undef, .v .undef, .v .undef, .v .undef, .v .undef, .v .undef, .v .undef, .v .undef, .v .undef, .v .undef, .v .undef, .v .undef, .v .undef, .v .undef, .v .undef, .v .undef, .v .undef, .v .undef, .v .undef, .v .undef, .v .undef, .v .undef, .v .undef, .v .undef, s35, s36, s37, .v .undef, .v .undef, .v .undef, .v .undef, .v .undef, .v .undef, .v .undef, .v .undef, .v .undef, .v .undef, .v .undef, .v .undef, .v .undef, .v .undef, .v .undef, s53, s54, s55, .v .undef, .v .undef, .v .undef, .v .undef, .v .undef, .v .undef, .v .undef, .v .undef, .v .undef, .v .undef, .v .undef, .v .undef, .v .undef, .v .undef, .v .undef, .v .undef, .v .undef, .v .undef, .v .undef, .v .undef, .v .undef, .v .undef, .v .undef, .v .undef, .v .undef, .v .undef, .v .undef, .v .undef, .v .undef, .v .undef, .v .undef, .v .undef, .v .undef, .v .undef, .v .undef, .v .undef, .v .undef, .v .undef, .v .undef, .v .undef, .v .undef, .v .undef, .v .undef, .v .undef, .v .undef, .v .undef, .v .undef, .v .undef, .v .undef, .v .undef, .v .undef, .v .undef, .v .undef, .v .undef, .v .undef, .v .undef, .v .undef, .v .undef, .v .undef, .v .undef, .v .undef, .v .undef, .v .undef, .v .undef, .v .undef]
theorem kill25_20 : notes.kill 25 20 = [0, 1, 2, 5, 6, 7, 9, 10, 11, 12, 13, 14, 15, 16, 17, 18, 19, 20, 21, 22, 23, 24, 25, 26, 27, 28, 29, 30, 31, 32, 33, 34, 38, 39, 40, 41, 42, 43, 44, 45, 46, 47, 48, 49, 50, 51, 52, 53, 54, 55, 56, 57, 58, 59, 60, 61, 62, 63, 64, 65, 66, 67, 71, 72, 73, 74, 75, 76, 77, 78, 79, 80, 81, 82, 83, 84, 85, 86, 87, 88, 89, 90, 91, 92, 93, 94, 95, 96, 97, 98, 99, 100, 101, 102, 103, 104, 105, 106, 107, 108, 109, 110, 111, 112, 113, 114, 115, 116, 117, 118, 119, 120] := rfl
theorem grow25_20 : notes.grow 25 20 = [] := rfl
/-- f25, loop at region 20: lives 3:w 4:try 8:c 35: 36: 37: 68: 69: 70: -/
def L25_20 (s3 s4 s8 s35 s36 s37 s68 s69 s70 : Slot) : List Slot := [.v .undef, .v .undef, .v .undef, s3, s4, .v .undef, .v .undef, .v .undef, s8, .v .undef, .v .undef, .v .undef, .v .undef, .v .undef, .v .undef, .v .undef, .v .undef, .v .undef, .v .undef, .v .undef, .v .undef, .v .undef, .v .undef, .v .undef, .v .undef, .v .undef, .v .undef, .v .undef, .v .undef, .v .undef, .v .undef, .v .undef, .v .undef, .v .undef, .v .undef, s35, s36, s37, .v .undef, .v .undef, .v .undef, .v .undef, .v .undef, .v .undef, .v .undef, .v .undef, .v .undef, .v .undef, .v .undef, .v .undef, .v .undef, .v .undef, .v .undef, .v .undef, .v .undef, .v .undef, .v .undef, .v .undef, .v .undef, .v .undef, .v .undef, .v .undef, .v .undef, .v .undef, .v .undef, .v .undef, .v .undef, .v .undef, s68, s69, s70, .v .undef, .v .undef, .v .undef, .v .undef, .v .undef, .v .undef, .v .undef, .v .undef, .v .undef, .v .undef, .v .undef, .v .undef, .v .undef, .v .undef, .v .undef, .v .undef, .v .undef, .v .undef, .v .undef, .v .undef, .v .undef, .v .undef, .v .undef, .v .undef, .v .undef, .v .undef, .v .undef, .v .undef, .v .undef, .v .undef, .v .undef, .v .undef, .v .undef, .v .undef, .v .undef, .v .undef, .v .undef, .v .undef, .v .undef, .v .undef, .v .undef, .v .undef, .v .undef, .v .undef, .v .undef, .v .undef, .v .undef, .v .undef, .v .undef, .v .undef]
theorem kill25_28 : notes.kill 25 28 = [0, 1, 2, 5, 6, 7, 8, 9, 10, 11, 12, 13, 14, 15, 16, 17, 18, 19, 20, 21, 22, 23, 24, 25, 26, 27, 28, 29, 30, 31, 32, 33, 34, 38, 39, 40, 41, 42, 43, 44, 45, 46, 47, 48, 49, 50, 51, 52, 53, 54, 55, 56, 57, 58, 59, 60, 61, 62, 63, 64, 65, 66, 67, 68, 69, 70, 71, 72, 73, 74, 75, 76, 77, 78, 79, 80, 81, 82, 83, 84, 85, 86, 87, 88, 89, 90, 91, 92, 93, 94, 95, 96, 100, 101, 102, 103, 104, 105, 106, 107, 108, 109, 110, 111, 112, 113, 114, 115, 116, 117, 118, 119, 120] := rfl
theorem grow25_28 : notes.grow 25 28 = [] := rfl
/-- f25, loop at region 28: lives 3:w 4:try 35: 36: 37: 97: 98: 99: -/
def L25_28 (s3 s4 s35 s36 s37 s97 s98 s99 : Slot) : List Slot := [.v .undef, .v .undef, .v .undef, s3, s4, .v .undef, .v .undef, .v .undef, .v .undef, .v .undef, .v .undef, .v .undef, .v .undef, .v .undef, .v .undef, .v .undef, .v .undef, .v .undef, .v .undef, .v .undef, .v .undef, .v .undef, .v .undef, .v .undef, .v .undef, .v .undef, .v .undef, .v .undef, .v .undef, .v .undef, .v .undef, .v .undef, .v .undef, .v .undef, .v .undef, s35, s36, s37, .v .undef, .v .undef, .v .undef, .v .undef, .v .undef, .v .undef, .v .undef, .v .undef, .v .undef, .v .undef, .v .undef, .v .undef, .v .undef, .v .undef, .v .undef, .v .undef, .v .undef, .v .undef, .v .undef, .v .undef, .v .undef, .v .undef, .v .undef, .v .undef, .v .undef, .v .undef, .v .undef, .v .undef, .v .undef, .v .undef, .v .undef, .v .undef, .v .undef, .v .undef, .v .undef, .v .undef, .v .undef, .v .undef, .v .undef, .v .undef, .v .undef, .v .undef, .v .undef, .v .undef, .v .undef, .v .undef, .v .undef, .v .undef, .v .undef, .v .undef, .v .undef, .v .undef, .v .undef, .v .undef, .v .undef, .v .undef, .v .undef, .v .undef, .v .undef, s97, s98, s99, .v .undef, .v .undef, .v .undef, .v .undef, .v .undef, .v .undef, .v .undef, .v .undef, .v .undef, .v .undef, .v .undef, .v .undef, .v .undef, .v .undef, .v .undef, .v .undef, .v .undef, .v .undef, .v .undef, .v .undef, .v .undef]
theorem mode25_1 : notes.mode 25 1 = .priv := rfl
theorem mode25_16 : notes.mode 25 16 = .heap := rfl
theorem mode25_3 : notes.mode 25 3 = .heap := rfl
theorem mode25_27 : notes.mode 25 27 = .priv := rfl
theorem mode25_32 : notes.mode 25 32 = .imm := rfl
theorem mode25_33 : notes.mode 25 33 = .priv := rfl
theorem mode25_8 : notes.mode 25 8 = .priv := rfl
theorem mode25_46 : notes.mode 25 46 = .imm := rfl
theorem mode25_47 : notes.mode 25 47 = .priv := rfl
theorem mode25_51 : notes.mode 25 51 = .priv := rfl
theorem mode25_10 : notes.mode 25 10 = .priv := rfl
theorem mode25_64 : notes.mode 25 64 = .imm := rfl
theorem mode25_65 : notes.mode 25 65 = .priv := rfl
theorem mode25_12 : notes.mode 25 12 = .priv := rfl
theorem mode25_77 : notes.mode 25 77 = .imm := rfl
theorem mode25_78 : notes.mode 25 78 = .priv := rfl
theorem mode25_82 : notes.mode 25 82 = .priv := rfl
theorem mode25_86 : notes.mode 25 86 = .priv := rfl
theorem mode25_14 : notes.mode 25 14 = .priv := rfl
theorem mode25_112 : notes.mode 25 112 = .imm := rfl
theorem mode25_113 : notes.mode 25 113 = .priv := rfl
theorem f25 : Tryd.prog.funcs[25]? = some Tryd.f25 := by kernel_rfl
theorem r25 : Tryd.f25.results.toList = [.tmp 2] := rfl
theorem n25 : Tryd.f25.ntmps = 121 := rfl
theorem b25 : Tryd.f25.body = some (bodyOf Tryd.f25) := rfl
def alts25_25 : List (Nat × Nat × Nat) := []
theorem kill26_2 : notes.kill 26 2 = [1, 3, 4, 5, 6, 7, 8, 9, 10, 11, 15, 16, 17, 18, 19, 20, 21, 22, 23, 24, 25, 26, 27, 28, 29, 30, 31, 32, 33, 34] := rfl
theorem grow26_2 : notes.grow 26 2 = [] := rfl
/-- f26, loop at region 2: lives 0:w 2:each 12: 13: 14: -/
def L26_2 (s0 s2 s12 s13 s14 : Slot) : List Slot := [s0, .v .undef, s2, .v .undef, .v .undef, .v .undef, .v .undef, .v .undef, .v .undef, .v .undef, .v .undef, .v .undef, s12, s13, s14, .v .undef, .v .undef, .v .undef, .v .undef, .v .undef, .v .undef, .v .undef, .v .undef, .v .undef, .v .undef, .v .undef, .v .undef, .v .undef, .v .undef, .v .undef, .v .undef, .v .undef, .v .undef, .v .undef, .v .undef]
theorem mode26_11 : notes.mode 26 11 = .priv := rfl
theorem mode26_33 : notes.mode 26 33 = .priv := rfl
theorem f26 : Tryd.prog.funcs[26]? = some Tryd.f26 := by kernel_rfl
theorem r26 : Tryd.f26.results.toList = [] := rfl
theorem n26 : Tryd.f26.ntmps = 35 := rfl
theorem b26 : Tryd.f26.body = some (bodyOf Tryd.f26) := rfl
theorem mode27_6 : notes.mode 27 6 = .priv := rfl
theorem mode27_11 : notes.mode 27 11 = .priv := rfl
theorem mode27_18 : notes.mode 27 18 = .heap := rfl
theorem f27 : Tryd.prog.funcs[27]? = some Tryd.f27 := by kernel_rfl
theorem r27 : Tryd.f27.results.toList = [] := rfl
theorem n27 : Tryd.f27.ntmps = 21 := rfl
theorem b27 : Tryd.f27.body = some (bodyOf Tryd.f27) := rfl
def alts27_3 : List (Nat × Nat × Nat) := [(0, 0, 1)]
theorem kill28_3 : notes.kill 28 3 = [2, 3, 4, 5, 6, 7, 8, 9, 10, 11, 12, 13, 14, 15, 16, 17, 18, 19, 20, 21, 22, 23, 24, 25, 26, 27, 28, 29, 30, 31, 32, 33, 34, 35, 36, 37, 38, 39, 40, 41, 42, 43] := rfl
theorem grow28_3 : notes.grow 28 3 = [] := rfl
/-- f28, loop at region 3: lives 0:w 1:n -/
def L28_3 (s0 s1 : Slot) : List Slot := [s0, s1, .v .undef, .v .undef, .v .undef, .v .undef, .v .undef, .v .undef, .v .undef, .v .undef, .v .undef, .v .undef, .v .undef, .v .undef, .v .undef, .v .undef, .v .undef, .v .undef, .v .undef, .v .undef, .v .undef, .v .undef, .v .undef, .v .undef, .v .undef, .v .undef, .v .undef, .v .undef, .v .undef, .v .undef, .v .undef, .v .undef, .v .undef, .v .undef, .v .undef, .v .undef, .v .undef, .v .undef, .v .undef, .v .undef, .v .undef, .v .undef, .v .undef, .v .undef]
theorem mode28_11 : notes.mode 28 11 = .priv := rfl
theorem mode28_27 : notes.mode 28 27 = .priv := rfl
theorem mode28_29 : notes.mode 28 29 = .priv := rfl
theorem mode28_30 : notes.mode 28 30 = .heap := rfl
theorem mode28_39 : notes.mode 28 39 = .priv := rfl
theorem mode28_40 : notes.mode 28 40 = .priv := rfl
theorem mode28_41 : notes.mode 28 41 = .heap := rfl
theorem f28 : Tryd.prog.funcs[28]? = some Tryd.f28 := by kernel_rfl
theorem r28 : Tryd.f28.results.toList = [] := rfl
theorem n28 : Tryd.f28.ntmps = 44 := rfl
theorem b28 : Tryd.f28.body = some (bodyOf Tryd.f28) := rfl
theorem f29 : Tryd.prog.funcs[29]? = some Tryd.f29 := by kernel_rfl
theorem r29 : Tryd.f29.results.toList = [] := rfl
theorem n29 : Tryd.f29.ntmps = 13 := rfl
theorem b29 : Tryd.f29.body = some (bodyOf Tryd.f29) := rfl
theorem kill30_2 : notes.kill 30 2 = [1, 3, 4, 5, 6, 7, 8, 9, 10, 11, 15, 16, 17, 18, 19, 20, 21, 22, 23, 24, 25, 26, 27, 28, 29, 30, 31, 32, 33, 34] := rfl
theorem grow30_2 : notes.grow 30 2 = [] := rfl
/-- f30, loop at region 2: lives 0:w 2:each 12: 13: 14: -/
def L30_2 (s0 s2 s12 s13 s14 : Slot) : List Slot := [s0, .v .undef, s2, .v .undef, .v .undef, .v .undef, .v .undef, .v .undef, .v .undef, .v .undef, .v .undef, .v .undef, s12, s13, s14, .v .undef, .v .undef, .v .undef, .v .undef, .v .undef, .v .undef, .v .undef, .v .undef, .v .undef, .v .undef, .v .undef, .v .undef, .v .undef, .v .undef, .v .undef, .v .undef, .v .undef, .v .undef, .v .undef, .v .undef]
theorem mode30_11 : notes.mode 30 11 = .priv := rfl
theorem mode30_33 : notes.mode 30 33 = .priv := rfl
theorem f30 : Tryd.prog.funcs[30]? = some Tryd.f30 := by kernel_rfl
theorem r30 : Tryd.f30.results.toList = [] := rfl
theorem n30 : Tryd.f30.ntmps = 35 := rfl
theorem b30 : Tryd.f30.body = some (bodyOf Tryd.f30) := rfl
theorem mode31_7 : notes.mode 31 7 = .priv := rfl
theorem f31 : Tryd.prog.funcs[31]? = some Tryd.f31 := by kernel_rfl
theorem r31 : Tryd.f31.results.toList = [] := rfl
theorem n31 : Tryd.f31.ntmps = 8 := rfl
theorem b31 : Tryd.f31.body = some (bodyOf Tryd.f31) := rfl
theorem kill32_2 : notes.kill 32 2 = [1, 3, 4, 5, 6, 7, 8, 9, 10, 11, 15, 16, 17, 18, 19, 20, 21, 22, 23, 24, 25, 26, 27, 28, 29, 30, 31, 32, 33, 34] := rfl
theorem grow32_2 : notes.grow 32 2 = [] := rfl
/-- f32, loop at region 2: lives 0:w 2:each 12: 13: 14: -/
def L32_2 (s0 s2 s12 s13 s14 : Slot) : List Slot := [s0, .v .undef, s2, .v .undef, .v .undef, .v .undef, .v .undef, .v .undef, .v .undef, .v .undef, .v .undef, .v .undef, s12, s13, s14, .v .undef, .v .undef, .v .undef, .v .undef, .v .undef, .v .undef, .v .undef, .v .undef, .v .undef, .v .undef, .v .undef, .v .undef, .v .undef, .v .undef, .v .undef, .v .undef, .v .undef, .v .undef, .v .undef, .v .undef]
theorem mode32_11 : notes.mode 32 11 = .priv := rfl
theorem mode32_33 : notes.mode 32 33 = .priv := rfl
theorem f32 : Tryd.prog.funcs[32]? = some Tryd.f32 := by kernel_rfl
theorem r32 : Tryd.f32.results.toList = [] := rfl
theorem n32 : Tryd.f32.ntmps = 35 := rfl
theorem b32 : Tryd.f32.body = some (bodyOf Tryd.f32) := rfl
theorem kill33_2 : notes.kill 33 2 = [1, 3, 4, 5, 6, 7, 8, 9, 10, 11, 15, 16, 17, 18, 19, 20, 21, 22, 23, 24, 25, 26, 27, 28, 29, 30, 31, 32, 33, 34] := rfl
theorem grow33_2 : notes.grow 33 2 = [] := rfl
/-- f33, loop at region 2: lives 0:w 2:each 12: 13: 14: -/
def L33_2 (s0 s2 s12 s13 s14 : Slot) : List Slot := [s0, .v .undef, s2, .v .undef, .v .undef, .v .undef, .v .undef, .v .undef, .v .undef, .v .undef, .v .undef, .v .undef, s12, s13, s14, .v .undef, .v .undef, .v .undef, .v .undef, .v .undef, .v .undef, .v .undef, .v .undef, .v .undef, .v .undef, .v .undef, .v .undef, .v .undef, .v .undef, .v .undef, .v .undef, .v .undef, .v .undef, .v .undef, .v .undef]
theorem mode33_11 : notes.mode 33 11 = .priv := rfl
theorem mode33_7 : notes.mode 33 7 = .priv := rfl
theorem mode33_33 : notes.mode 33 33 = .priv := rfl
theorem f33 : Tryd.prog.funcs[33]? = some Tryd.f33 := by kernel_rfl
theorem r33 : Tryd.f33.results.toList = [] := rfl
theorem n33 : Tryd.f33.ntmps = 35 := rfl
theorem b33 : Tryd.f33.body = some (bodyOf Tryd.f33) := rfl
theorem mode34_2 : notes.mode 34 2 = .heap := rfl
theorem mode34_3 : notes.mode 34 3 = .priv := rfl
theorem mode34_7 : notes.mode 34 7 = .priv := rfl
theorem mode34_11 : notes.mode 34 11 = .priv := rfl
theorem mode34_17 : notes.mode 34 17 = .priv := rfl
theorem mode34_22 : notes.mode 34 22 = .priv := rfl
theorem mode34_27 : notes.mode 34 27 = .priv := rfl
theorem mode34_32 : notes.mode 34 32 = .priv := rfl
theorem f34 : Tryd.prog.funcs[34]? = some Tryd.f34 := by kernel_rfl
theorem r34 : Tryd.f34.results.toList = [] := rfl
theorem n34 : Tryd.f34.ntmps = 33 := rfl
theorem b34 : Tryd.f34.body = some (bodyOf Tryd.f34) := rfl
theorem f41 : Tryd.prog.funcs[41]? = some Tryd.f41 := by kernel_rfl
theorem r41 : Tryd.f41.results.toList = [] := rfl
theorem n41 : Tryd.f41.ntmps = 19 := rfl
theorem b41 : Tryd.f41.body = some (bodyOf Tryd.f41) := rfl
theorem kill42_3 : notes.kill 42 3 = [2, 3, 4, 7, 8, 9, 10, 11, 12, 13, 14, 15, 16, 17, 18, 19, 20, 21, 22, 23, 24, 25] := rfl
theorem grow42_3 : notes.grow 42 3 = [] := rfl
/-- f42, loop at region 3: lives 0:r 1:each 5:out 6:n -/
def L42_3 (s0 s1 s5 s6 : Slot) : List Slot := [s0, s1, .v .undef, .v .undef, .v .undef, s5, s6, .v .undef, .v .undef, .v .undef, .v .undef, .v .undef, .v .undef, .v .undef, .v .undef, .v .undef, .v .undef, .v .undef, .v .undef, .v .undef, .v .undef, .v .undef, .v .undef, .v .undef, .v .undef, .v .undef]
theorem mode42_8 : notes.mode 42 8 = .priv := rfl
theorem mode42_22 : notes.mode 42 22 = .priv := rfl
theorem mode42_23 : notes.mode 42 23 = .imm := rfl
theorem mode42_24 : notes.mode 42 24 = .heap := rfl
theorem f42 : Tryd.prog.funcs[42]? = some Tryd.f42 := by kernel_rfl
theorem r42 : Tryd.f42.results.toList = [.tmp 4] := rfl
theorem n42 : Tryd.f42.ntmps = 26 := rfl
theorem b42 : Tryd.f42.body = some (bodyOf Tryd.f42) := rfl
theorem mode43_6 : notes.mode 43 6 = .priv := rfl
theorem mode43_22 : notes.mode 43 22 = .priv := rfl
theorem f43 : Tryd.prog.funcs[43]? = some Tryd.f43 := by kernel_rfl
theorem r43 : Tryd.f43.results.toList = [.tmp 2] := rfl
theorem n43 : Tryd.f43.ntmps = 37 := rfl
theorem b43 : Tryd.f43.body = some (bodyOf Tryd.f43) := rfl
def alts43_2 : List (Nat × Nat × Nat) := []
theorem kill44_3 : notes.kill 44 3 = [2, 3, 4, 7, 8, 9, 10, 11, 12, 13, 14, 15, 16, 17, 18, 19, 20, 21, 22, 23, 24, 25] := rfl
theorem grow44_3 : notes.grow 44 3 = [] := rfl
/-- f44, loop at region 3: lives 0:r 1:each 5:out 6:n -/
def L44_3 (s0 s1 s5 s6 : Slot) : List Slot := [s0, s1, .v .undef, .v .undef, .v .undef, s5, s6, .v .undef, .v .undef, .v .undef, .v .undef, .v .undef, .v .undef, .v .undef, .v .undef, .v .undef, .v .undef, .v .undef, .v .undef, .v .undef, .v .undef, .v .undef, .v .undef, .v .undef, .v .undef, .v .undef]
theorem mode44_8 : notes.mode 44 8 = .priv := rfl
theorem mode44_22 : notes.mode 44 22 = .priv := rfl
theorem mode44_23 : notes.mode 44 23 = .imm := rfl
theorem mode44_24 : notes.mode 44 24 = .heap := rfl
theorem f44 : Tryd.prog.funcs[44]? = some Tryd.f44 := by kernel_rfl
theorem r44 : Tryd.f44.results.toList = [.tmp 4] := rfl
theorem n44 : Tryd.f44.ntmps = 26 := rfl
theorem b44 : Tryd.f44.body = some (bodyOf Tryd.f44) := rfl
theorem mode45_5 : notes.mode 45 5 = .imm := rfl
theorem f45 : Tryd.prog.funcs[45]? = some Tryd.f45 := by kernel_rfl
theorem r45 : Tryd.f45.results.toList = [.tmp 1] := rfl
theorem n45 : Tryd.f45.ntmps = 6 := rfl
theorem b45 : Tryd.f45.body = some (bodyOf Tryd.f45) := rfl
theorem kill46_3 : notes.kill 46 3 = [2, 3, 4, 7, 8, 9, 10, 11, 12, 13, 14, 15, 16, 17, 18, 19, 20, 21, 22, 23, 24, 25] := rfl
theorem grow46_3 : notes.grow 46 3 = [] := rfl
/-- f46, loop at region 3: lives 0:r 1:each 5:out 6:n -/
def L46_3 (s0 s1 s5 s6 : Slot) : List Slot := [s0, s1, .v .undef, .v .undef, .v .undef, s5, s6, .v .undef, .v .undef, .v .undef, .v .undef, .v .undef, .v .undef, .v .undef, .v .undef, .v .undef, .v .undef, .v .undef, .v .undef, .v .undef, .v .undef, .v .undef, .v .undef, .v .undef, .v .undef, .v .undef]
theorem mode46_8 : notes.mode 46 8 = .priv := rfl
theorem mode46_22 : notes.mode 46 22 = .priv := rfl
theorem mode46_23 : notes.mode 46 23 = .imm := rfl
theorem mode46_24 : notes.mode 46 24 = .heap := rfl
theorem f46 : Tryd.prog.funcs[46]? = some Tryd.f46 := by kernel_rfl
theorem r46 : Tryd.f46.results.toList = [.tmp 4] := rfl
theorem n46 : Tryd.f46.ntmps = 26 := rfl
theorem b46 : Tryd.f46.body = some (bodyOf Tryd.f46) := rfl
theorem kill47_3 : notes.kill 47 3 = [1, 2, 5, 6, 7, 8, 9, 10, 11, 12, 13, 14, 15, 16, 17, 18, 19, 20, 21, 22, 23, 24, 25, 26, 27, 28, 29, 30, 31, 32, 33, 34, 35, 36, 37, 38, 39, 40, 41, 42, 43, 44, 45, 46, 47, 48, 49, 50, 51, 52, 53, 54, 55, 56, 57, 58, 59, 60, 61, 62, 63, 64, 65, 66, 67, 68, 69, 70, 71, 72, 73, 74, 75, 76] := rfl
theorem grow47_3 : notes.grow 47 3 = [] := rfl
/-- f47, loop at region 3: lives 0:r 3:n 4:i -/
def L47_3 (s0 s3 s4 : Slot) : List Slot := [s0, .v .undef, .v .undef, s3, s4, .v .undef, .v .undef, .v .undef, .v .undef, .v .undef, .v .undef, .v .undef, .v .undef, .v .undef, .v .undef, .v .undef, .v .undef, .v .undef, .v .undef, .v .undef, .v .undef, .v .undef, .v .undef, .v .undef, .v .undef, .v .undef, .v .undef, .v .undef, .v .undef, .v .undef, .v .undef, .v .undef, .v .undef, .v .undef, .v .undef, .v .undef, .v .undef, .v .undef, .v .undef, .v .undef, .v .undef, .v .undef, .v .undef, .v .undef, .v .undef, .v .undef, .v .undef, .v .undef, .v .undef, .v .undef, .v .undef, .v .undef, .v .undef, .v .undef, .v .undef, .v .undef, .v .undef, .v .undef, .v .undef, .v .undef, .v .undef, .v .undef, .v .undef, .v .undef, .v .undef, .v .undef, .v .undef, .v .undef, .v .undef, .v .undef, .v .undef, .v .undef, .v .undef, .v .undef, .v .undef, .v .undef, .v .undef]
theorem mode47_28 : notes.mode 47 28 = .priv := rfl
theorem mode47_58 : notes.mode 47 58 = .priv := rfl
theorem mode47_62 : notes.mode 47 62 = .priv := rfl
theorem f47 : Tryd.prog.funcs[47]? = some Tryd.f47 := by kernel_rfl
theorem r47 : Tryd.f47.results.toList = [.tmp 2] := rfl
theorem n47 : Tryd.f47.ntmps = 77 := rfl
theorem b47 : Tryd.f47.body = some (bodyOf Tryd.f47) := rfl
def alts47_5 : List (Nat × Nat × Nat) := []
def alts47_7 : List (Nat × Nat × Nat) := []
theorem kill48_3 : notes.kill 48 3 = [2, 3, 4, 7, 8, 9, 10, 11, 12, 13, 14, 15, 16, 17, 18, 19, 20, 21, 22, 23, 24, 25] := rfl
theorem grow48_3 : notes.grow 48 3 = [] := rfl
/-- f48, loop at region 3: lives 0:r 1:each 5:out 6:n -/
def L48_3 (s0 s1 s5 s6 : Slot) : List Slot := [s0, s1, .v .undef, .v .undef, .v .undef, s5, s6, .v .undef, .v .undef, .v .undef, .v .undef, .v .undef, .v .undef, .v .undef, .v .undef, .v .undef, .v .undef, .v .undef, .v .undef, .v .undef, .v .undef, .v .undef, .v .undef, .v .undef, .v .undef, .v .undef]
theorem mode48_8 : notes.mode 48 8 = .priv := rfl
theorem mode48_22 : notes.mode 48 22 = .priv := rfl
theorem mode48_23 : notes.mode 48 23 = .imm := rfl
theorem mode48_24 : notes.mode 48 24 = .heap := rfl
theorem f48 : Tryd.prog.funcs[48]? = some Tryd.f48 := by kernel_rfl
theorem r48 : Tryd.f48.results.toList = [.tmp 4] := rfl
theorem n48 : Tryd.f48.ntmps = 26 := rfl
theorem b48 : Tryd.f48.body = some (bodyOf Tryd.f48) := rfl
theorem mode49_1 : notes.mode 49 1 = .heap := rfl
theorem mode49_2 : notes.mode 49 2 = .priv := rfl
theorem mode49_5 : notes.mode 49 5 = .priv := rfl
theorem mode49_3 : notes.mode 49 3 = .priv := rfl
theorem mode49_8 : notes.mode 49 8 = .priv := rfl
theorem mode49_13 : notes.mode 49 13 = .imm := rfl
theorem mode49_17 : notes.mode 49 17 = .imm := rfl
theorem mode49_21 : notes.mode 49 21 = .priv := rfl
theorem mode49_25 : notes.mode 49 25 = .imm := rfl
theorem f49 : Tryd.prog.funcs[49]? = some Tryd.f49 := by kernel_rfl
theorem r49 : Tryd.f49.results.toList = [.cell 2 50] := rfl
theorem n49 : Tryd.f49.ntmps = 28 := rfl
theorem b49 : Tryd.f49.body = some (bodyOf Tryd.f49) := rfl
theorem kill55_4 : notes.kill 55 4 = [2, 3, 4, 6, 7, 8, 9, 10, 11, 12, 13, 14, 15, 16, 17, 18, 19, 20, 21, 22, 23, 24, 25] := rfl
theorem grow55_4 : notes.grow 55 4 = [] := rfl
/-- f55, loop at region 4: lives 0:a 1:b 5:i -/
def L55_4 (s0 s1 s5 : Slot) : List Slot := [s0, s1, .v .undef, .v .undef, .v .undef, s5, .v .undef, .v .undef, .v .undef, .v .undef, .v .undef, .v .undef, .v .undef, .v .undef, .v .undef, .v .undef, .v .undef, .v .undef, .v .undef, .v .undef, .v .undef, .v .undef, .v .undef, .v .undef, .v .undef, .v .undef]
theorem f55 : Tryd.prog.funcs[55]? = some Tryd.f55 := by kernel_rfl
theorem r55 : Tryd.f55.results.toList = [.tmp 4] := rfl
theorem n55 : Tryd.f55.ntmps = 26 := rfl
theorem b55 : Tryd.f55.body = some (bodyOf Tryd.f55) := rfl
def alts55_6 : List (Nat × Nat × Nat) := []
theorem kill56_4 : notes.kill 56 4 = [0, 1, 4, 6, 7, 8, 9, 10, 11, 12, 13, 14, 15, 16, 17, 18, 19, 20, 21, 22, 23, 24, 25, 26, 27, 28, 29, 30, 31, 32, 33, 34, 35, 36, 37, 38, 39, 40, 41, 42, 43, 44, 45, 46, 47, 48, 49, 50, 51, 52, 53, 54, 55, 56, 57, 58, 59, 60, 61, 62, 63, 64, 65, 66, 67, 68, 69, 70, 71, 72, 73, 74, 75, 76, 77, 78, 79, 80, 81, 82, 83, 84, 85, 86, 87, 88, 89, 90, 91, 92, 93, 94, 95, 96, 97, 98, 99, 100, 101, 102, 103, 104, 105, 106, 107, 108] := rfl
theorem grow56_4 : notes.grow 56 4 = [] := rfl
/-- f56, loop at region 4: lives 2:a 3:b 5:i -/
def L56_4 (s2 s3 s5 : Slot) : List Slot := [.v .undef, .v .undef, s2, s3, .v .undef, s5, .v .undef, .v .undef, .v .undef, .v .undef, .v .undef, .v .undef, .v .undef, .v .undef, .v .undef, .v .undef, .v .undef, .v .undef, .v .undef, .v .undef, .v .undef, .v .undef, .v .undef, .v .undef, .v .undef, .v .undef, .v .undef, .v .undef, .v .undef, .v .undef, .v .undef, .v .undef, .v .undef, .v .undef, .v .undef, .v .undef, .v .undef, .v .undef, .v .undef, .v .undef, .v .undef, .v .undef, .v .undef, .v .undef, .v .undef, .v .undef, .v .undef, .v .undef, .v .undef, .v .undef, .v .undef, .v .undef, .v .undef, .v .undef, .v .undef, .v .undef, .v .undef, .v .undef, .v .undef, .v .undef, .v .undef, .v .undef, .v .undef, .v .undef, .v .undef, .v .undef, .v .undef, .v .undef, .v .undef, .v .undef, .v .undef, .v .undef, .v .undef, .v .undef, .v .undef, .v .undef, .v .undef, .v .undef, .v .undef, .v .undef, .v .undef, .v .undef, .v .undef, .v .undef, .v .undef, .v .undef, .v .undef, .v .undef, .v .undef, .v .undef, .v .undef, .v .undef, .v .undef, .v .undef, .v .undef, .v .undef, .v .undef, .v .undef, .v .undef, .v .undef, .v .undef, .v .undef, .v .undef, .v .undef, .v .undef, .v .undef, .v .undef, .v .undef, .v .undef]
theorem kill56_9 : notes.kill 56 9 = [0, 1, 4, 5, 7, 8, 9, 10, 11, 12, 13, 14, 15, 16, 17, 18, 19, 20, 21, 22, 23, 24, 25, 26, 27, 28, 29, 30, 31, 32, 33, 34, 35, 36, 37, 38, 39, 40, 41, 42, 43, 44, 45, 46, 47, 48, 49, 50, 51, 52, 53, 54, 55, 56, 57, 58, 59, 60, 61, 62, 63, 64, 65, 66, 67, 68, 69, 70, 71, 72, 73, 74, 75, 76, 77, 78, 79, 80, 81, 82, 83, 84, 85, 86, 87, 88, 89, 90, 91, 92, 93, 94, 95, 96, 97, 98, 99, 100, 101, 102, 103, 104, 105, 106, 107, 108] := rfl
theorem grow56_9 : notes.grow 56 9 = [] := rfl
/-- f56, loop at region 9: lives 2:a 3:b 6:i -/
def L56_9 (s2 s3 s6 : Slot) : List Slot := [.v .undef, .v .undef, s2, s3, .v .undef, .v .undef, s6, .v .undef, .v .undef, .v .undef, .v .undef, .v .undef, .v .undef, .v .undef, .v .undef, .v .undef, .v .undef, .v .undef, .v .undef, .v .undef, .v .undef, .v .undef, .v .undef, .v .undef, .v .undef, .v .undef, .v .undef, .v .undef, .v .undef, .v .undef, .v .undef, .v .undef, .v .undef, .v .undef, .v .undef, .v .undef, .v .undef, .v .undef, .v .undef, .v .undef, .v .undef, .v .undef, .v .undef, .v .undef, .v .undef, .v .undef, .v .undef, .v .undef, .v .undef, .v .undef, .v .undef, .v .undef, .v .undef, .v .undef, .v .undef, .v .undef, .v .undef, .v .undef, .v .undef, .v .undef, .v .undef, .v .undef, .v .undef, .v .undef, .v .undef, .v .undef, .v .undef, .v .undef, .v .undef, .v .undef, .v .undef, .v .undef, .v .undef, .v .undef, .v .undef, .v .undef, .v .undef, .v .undef, .v .undef, .v .undef, .v .undef, .v .undef, .v .undef, .v .undef, .v .undef, .v .undef, .v .undef, .v .undef, .v .undef, .v .undef, .v .undef, .v .undef, .v .undef, .v .undef, .v .undef, .v .undef, .v .undef, .v .undef, .v .undef, .v .undef, .v .undef, .v .undef, .v .undef, .v .undef, .v .undef, .v .undef, .v .undef, .v .undef, .v .undef]
theorem kill56_14 : notes.kill 56 14 = [0, 1, 4, 5, 6, 8, 9, 10, 11, 12, 13, 14, 15, 16, 17, 18, 19, 20, 21, 22, 23, 24, 25, 26, 27, 28, 29, 30, 31, 32, 33, 34, 35, 36, 37, 38, 39, 40, 41, 42, 43, 44, 45, 46, 47, 48, 49, 50, 51, 52, 53, 54, 55, 56, 57, 58, 59, 60, 61, 62, 63, 64, 65, 66, 67, 68, 69, 70, 71, 72, 73, 74, 75, 76, 77, 78, 79, 80, 81, 82, 83, 84, 85, 86, 87, 88, 89, 90, 91, 92, 93, 94, 95, 96, 97, 98, 99, 100, 101, 102, 103, 104, 105, 106, 107, 108] := rfl
theorem grow56_14 : notes.grow 56 14 = [] := rfl
/-- f56, loop at region 14: lives 2:a 3:b 7:i -/
def L56_14 (s2 s3 s7 : Slot) : List Slot := [.v .undef, .v .undef, s2, s3, .v .undef, .v .undef, .v .undef, s7, .v .undef, .v .undef, .v .undef, .v .undef, .v .undef, .v .undef, .v .undef, .v .undef, .v .undef, .v .undef, .v .undef, .v .undef, .v .undef, .v .undef, .v .undef, .v .undef, .v .undef, .v .undef, .v .undef, .v .undef, .v .undef, .v .undef, .v .undef, .v .undef, .v .undef, .v .undef, .v .undef, .v .undef, .v .undef, .v .undef, .v .undef, .v .undef, .v .undef, .v .undef, .v .undef, .v .undef, .v .undef, .v .undef, .v .undef, .v .undef, .v .undef, .v .undef, .v .undef, .v .undef, .v .undef, .v .undef, .v .undef, .v .undef, .v .undef, .v .undef, .v .undef, .v .undef, .v .undef, .v .undef, .v .undef, .v .undef, .v .undef, .v .undef, .v .undef, .v .undef, .v .undef, .v .undef, .v .undef, .v .undef, .v .undef, .v .undef, .v .undef, .v .undef, .v .undef, .v .undef, .v .undef, .v .undef, .v .undef, .v .undef, .v .undef, .v .undef, .v .undef, .v .undef, .v .undef, .v .undef, .v .undef, .v .undef, .v .undef, .v .undef, .v .undef, .v .undef, .v .undef, .v .undef, .v .undef, .v .undef, .v .undef, .v .undef, .v .undef, .v .undef, .v .undef, .v .undef, .v .undef, .v .undef, .v .undef, .v .undef, .v .undef]
theorem mode56_2 : notes.mode 56 2 = .priv := rfl
theorem mode56_3 : notes.mode 56 3 = .priv := rfl
theorem mode56_25 : notes.mode 56 25 = .priv := rfl
theorem f56 : Tryd.prog.funcs[56]? = some Tryd.f56 := by kernel_rfl
theorem r56 : Tryd.f56.results.toList = [.tmp 4] := rfl
theorem n56 : Tryd.f56.ntmps = 109 := rfl
theorem b56 : Tryd.f56.body = some (bodyOf Tryd.f56) := rfl
def alts56_6 : List (Nat × Nat × Nat) := []
def alts56_11 : List (Nat × Nat × Nat) := []
def alts56_16 : List (Nat × Nat × Nat) := []
theorem kill57_1 : notes.kill 57 1 = [0, 2, 3, 4, 8, 9, 10, 11, 12, 13, 14, 15, 16, 17, 18, 19, 20, 21, 22] := rfl
theorem grow57_1 : notes.grow 57 1 = [] := rfl
/-- f57, loop at region 1: lives 1: 5: 6: 7: -/
def L57_1 (s1 s5 s6 s7 : Slot) : List Slot := [.v .undef, s1, .v .undef, .v .undef, .v .undef, s5, s6, s7, .v .undef, .v .undef, .v .undef, .v .undef, .v .undef, .v .undef, .v .undef, .v .undef, .v .undef, .v .undef, .v .undef, .v .undef, .v .undef, .v .undef, .v .undef]
theorem mode57_13 : notes.mode 57 13 = .priv := rfl
theorem f57 : Tryd.prog.funcs[57]? = some Tryd.f57 := by kernel_rfl
theorem r57 : Tryd.f57.results.toList = [] := rfl
theorem n57 : Tryd.f57.ntmps = 23 := rfl
theorem b57 : Tryd.f57.body = some (bodyOf Tryd.f57) := rfl
def alts57_5 : List (Nat × Nat × Nat) := []
theorem mode58_11 : notes.mode 58 11 = .priv := rfl
theorem mode58_23 : notes.mode 58 23 = .priv := rfl
theorem mode58_27 : notes.mode 58 27 = .priv := rfl
theorem f58 : Tryd.prog.funcs[58]? = some Tryd.f58 := by kernel_rfl
theorem r58 : Tryd.f58.results.toList = [] := rfl
theorem n58 : Tryd.f58.ntmps = 28 := rfl
theorem b58 : Tryd.f58.body = some (bodyOf Tryd.f58) := rfl
theorem kill59_2 : notes.kill 59 2 = [1, 3, 4, 5, 6, 7, 8, 9, 10, 11, 15, 16, 17, 18, 19, 20, 21, 22, 23, 24, 25, 26, 27, 28, 29, 30, 31, 32, 33, 34] := rfl
theorem grow59_2 : notes.grow 59 2 = [] := rfl
/-- f59, loop at region 2: lives 0:w 2:each 12: 13: 14: -/
def L59_2 (s0 s2 s12 s13 s14 : Slot) : List Slot := [s0, .v .undef, s2, .v .undef, .v .undef, .v .undef, .v .undef, .v .undef, .v .undef, .v .undef, .v .undef, .v .undef, s12, s13, s14, .v .undef, .v .undef, .v .undef, .v .undef, .v .undef, .v .undef, .v .undef, .v .undef, .v .undef, .v .undef, .v .undef, .v .undef, .v .undef, .v .undef, .v .undef, .v .undef, .v .undef, .v .undef, .v .undef, .v .undef]
theorem mode59_11 : notes.mode 59 11 = .priv := rfl
theorem mode59_7 : notes.mode 59 7 = .priv := rfl
theorem mode59_33 : notes.mode 59 33 = .priv := rfl
theorem f59 : Tryd.prog.funcs[59]? = some Tryd.f59 := by kernel_rfl
theorem r59 : Tryd.f59.results.toList = [] := rfl
theorem n59 : Tryd.f59.ntmps = 35 := rfl
theorem b59 : Tryd.f59.body = some (bodyOf Tryd.f59) := rfl
theorem mode60_2 : notes.mode 60 2 = .priv := rfl
theorem mode60_6 : notes.mode 60 6 = .priv := rfl
theorem mode60_10 : notes.mode 60 10 = .priv := rfl
theorem f60 : Tryd.prog.funcs[60]? = some Tryd.f60 := by kernel_rfl
theorem r60 : Tryd.f60.results.toList = [] := rfl
theorem n60 : Tryd.f60.ntmps = 11 := rfl
theorem b60 : Tryd.f60.body = some (bodyOf Tryd.f60) := rfl
theorem kill61_2 : notes.kill 61 2 = [1, 3, 4, 5, 6, 7, 8, 9, 10, 11, 15, 16, 17, 18, 19, 20, 21, 22, 23, 24, 25, 26, 27, 28, 29, 30, 31, 32, 33, 34] := rfl
theorem grow61_2 : notes.grow 61 2 = [] := rfl
/-- f61, loop at region 2: lives 0:w 2:each 12: 13: 14: -/
def L61_2 (s0 s2 s12 s13 s14 : Slot) : List Slot := [s0, .v .undef, s2, .v .undef, .v .undef, .v .undef, .v .undef, .v .undef, .v .undef, .v .undef, .v .undef, .v .undef, s12, s13, s14, .v .undef, .v .undef, .v .undef, .v .undef, .v .undef, .v .undef, .v .undef, .v .undef, .v .undef, .v .undef, .v .undef, .v .undef, .v .undef, .v .undef, .v .undef, .v .undef, .v .undef, .v .undef, .v .undef, .v .undef]
theorem mode61_11 : notes.mode 61 11 = .priv := rfl
theorem mode61_7 : notes.mode 61 7 = .priv := rfl
theorem mode61_33 : notes.mode 61 33 = .priv := rfl
theorem f61 : Tryd.prog.funcs[61]? = some Tryd.f61 := by kernel_rfl
theorem r61 : Tryd.f61.results.toList = [] := rfl
theorem n61 : Tryd.f61.ntmps = 35 := rfl
theorem b61 : Tryd.f61.body = some (bodyOf Tryd.f61) := rfl
theorem mode62_2 : notes.mode 62 2 = .priv := rfl
theorem mode62_6 : notes.mode 62 6 = .priv := rfl
theorem mode62_10 : notes.mode 62 10 = .priv := rfl
theorem mode62_14 : notes.mode 62 14 = .priv := rfl
theorem f62 : Tryd.prog.funcs[62]? = some Tryd.f62 := by kernel_rfl
theorem r62 : Tryd.f62.results.toList = [] := rfl
theorem n62 : Tryd.f62.ntmps = 15 := rfl
theorem b62 : Tryd.f62.body = some (bodyOf Tryd.f62) := rfl
theorem kill63_2 : notes.kill 63 2 = [1, 3, 4, 5, 6, 7, 8, 9, 10, 11, 15, 16, 17, 18, 19, 20, 21, 22, 23, 24, 25, 26, 27, 28, 29, 30, 31, 32, 33, 34] := rfl
theorem grow63_2 : notes.grow 63 2 = [] := rfl
/-- f63, loop at region 2: lives 0:w 2:each 12: 13: 14: -/
def L63_2 (s0 s2 s12 s13 s14 : Slot) : List Slot := [s0, .v .undef, s2, .v .undef, .v .undef, .v .undef, .v .undef, .v .undef, .v .undef, .v .undef, .v .undef, .v .undef, s12, s13, s14, .v .undef, .v .undef, .v .undef, .v .undef, .v .undef, .v .undef, .v .undef, .v .undef, .v .undef, .v .undef, .v .undef, .v .undef, .v .undef, .v .undef, .v .undef, .v .undef, .v .undef, .v .undef, .v .undef, .v .undef]
theorem mode63_11 : notes.mode 63 11 = .priv := rfl
theorem mode63_7 : notes.mode 63 7 = .priv := rfl
theorem mode63_33 : notes.mode 63 33 = .priv := rfl
theorem f63 : Tryd.prog.funcs[63]? = some Tryd.f63 := by kernel_rfl
theorem r63 : Tryd.f63.results.toList = [] := rfl
theorem n63 : Tryd.f63.ntmps = 35 := rfl
theorem b63 : Tryd.f63.body = some (bodyOf Tryd.f63) := rfl
theorem kill64_2 : notes.kill 64 2 = [0, 2, 3, 4, 5, 6, 7, 8, 9, 10, 11, 12, 16, 17, 18, 19, 20, 21, 22] := rfl
theorem grow64_2 : notes.grow 64 2 = [] := rfl
/-- f64, loop at region 2: lives 1: 13: 14: 15: -/
def L64_2 (s1 s13 s14 s15 : Slot) : List Slot := [.v .undef, s1, .v .undef, .v .undef, .v .undef, .v .undef, .v .undef, .v .undef, .v .undef, .v .undef, .v .undef, .v .undef, .v .undef, s13, s14, s15, .v .undef, .v .undef, .v .undef, .v .undef, .v .undef, .v .undef, .v .undef]
theorem mode64_2 : notes.mode 64 2 = .priv := rfl
theorem mode64_13 : notes.mode 64 13 = .imm := rfl
theorem mode64_21 : notes.mode 64 21 = .priv := rfl
theorem f64 : Tryd.prog.funcs[64]? = some Tryd.f64 := by kernel_rfl
theorem r64 : Tryd.f64.results.toList = [] := rfl
theorem n64 : Tryd.f64.ntmps = 23 := rfl
theorem b64 : Tryd.f64.body = some (bodyOf Tryd.f64) := rfl
theorem mode67_10 : notes.mode 67 10 = .priv := rfl
theorem mode67_25 : notes.mode 67 25 = .priv := rfl
theorem f67 : Tryd.prog.funcs[67]? = some Tryd.f67 := by kernel_rfl
theorem r67 : Tryd.f67.results.toList = [.tmp 2] := rfl
theorem n67 : Tryd.f67.ntmps = 32 := rfl
theorem b67 : Tryd.f67.body = some (bodyOf Tryd.f67) := rfl
def alts67_3 : List (Nat × Nat × Nat) := []
theorem kill68_3 : notes.kill 68 3 = [2, 3, 4, 7, 8, 9, 10, 11, 12, 13, 14, 15, 16, 17, 18, 19, 20, 21, 22, 23, 24, 25] := rfl
theorem grow68_3 : notes.grow 68 3 = [] := rfl
/-- f68, loop at region 3: lives 0:r 1:each 5:out 6:n -/
def L68_3 (s0 s1 s5 s6 : Slot) : List Slot := [s0, s1, .v .undef, .v .undef, .v .undef, s5, s6, .v .undef, .v .undef, .v .undef, .v .undef, .v .undef, .v .undef, .v .undef, .v .undef, .v .undef, .v .undef, .v .undef, .v .undef, .v .undef, .v .undef, .v .undef, .v .undef, .v .undef, .v .undef, .v .undef]
theorem mode68_8 : notes.mode 68 8 = .priv := rfl
theorem mode68_22 : notes.mode 68 22 = .priv := rfl
theorem mode68_23 : notes.mode 68 23 = .imm := rfl
theorem mode68_24 : notes.mode 68 24 = .heap := rfl
theorem f68 : Tryd.prog.funcs[68]? = some Tryd.f68 := by kernel_rfl
theorem r68 : Tryd.f68.results.toList = [.tmp 4] := rfl
theorem n68 : Tryd.f68.ntmps = 26 := rfl
theorem b68 : Tryd.f68.body = some (bodyOf Tryd.f68) := rfl
theorem mode69_1 : notes.mode 69 1 = .priv := rfl
theorem mode69_4 : notes.mode 69 4 = .priv := rfl
theorem mode69_7 : notes.mode 69 7 = .priv := rfl
theorem f69 : Tryd.prog.funcs[69]? = some Tryd.f69 := by kernel_rfl
theorem r69 : Tryd.f69.results.toList = [.cell 1 105] := rfl
theorem n69 : Tryd.f69.ntmps = 9 := rfl
theorem b69 : Tryd.f69.body = some (bodyOf Tryd.f69) := rfl
theorem kill70_3 : notes.kill 70 3 = [2, 3, 4, 7, 8, 9, 10, 11, 12, 13, 14, 15, 16, 17, 18, 19, 20, 21, 22, 23, 24, 25] := rfl
theorem grow70_3 : notes.grow 70 3 = [] := rfl
/-- f70, loop at region 3: lives 0:r 1:each 5:out 6:n -/
def L70_3 (s0 s1 s5 s6 : Slot) : List Slot := [s0, s1, .v .undef, .v .undef, .v .undef, s5, s6, .v .undef, .v .undef, .v .undef, .v .undef, .v .undef, .v .undef, .v .undef, .v .undef, .v .undef, .v .undef, .v .undef, .v .undef, .v .undef, .v .undef, .v .undef, .v .undef, .v .undef, .v .undef, .v .undef]
theorem mode70_8 : notes.mode 70 8 = .priv := rfl
theorem mode70_22 : notes.mode 70 22 = .priv := rfl
theorem mode70_23 : notes.mode 70 23 = .imm := rfl
theorem mode70_24 : notes.mode 70 24 = .heap := rfl
theorem f70 : Tryd.prog.funcs[70]? = some Tryd.f70 := by kernel_rfl
theorem r70 : Tryd.f70.results.toList = [.tmp 4] := rfl
theorem n70 : Tryd.f70.ntmps = 26 := rfl
theorem b70 : Tryd.f70.body = some (bodyOf Tryd.f70) := rfl
theorem mode71_1 : notes.mode 71 1 = .priv := rfl
theorem mode71_4 : notes.mode 71 4 = .priv := rfl
theorem mode71_2 : notes.mode 71 2 = .priv := rfl
theorem mode71_7 : notes.mode 71 7 = .priv := rfl
theorem mode71_10 : notes.mode 71 10 = .priv := rfl
theorem f71 : Tryd.prog.funcs[71]? = some Tryd.f71 := by kernel_rfl
theorem r71 : Tryd.f71.results.toList = [.cell 1 52] := rfl
theorem n71 : Tryd.f71.ntmps = 13 := rfl
theorem b71 : Tryd.f71.body = some (bodyOf Tryd.f71) := rfl
theorem mode72_5 : notes.mode 72 5 = .priv := rfl
theorem f72 : Tryd.prog.funcs[72]? = some Tryd.f72 := by kernel_rfl
theorem r72 : Tryd.f72.results.toList = [.tmp 2] := rfl
theorem n72 : Tryd.f72.ntmps = 15 := rfl
theorem b72 : Tryd.f72.body = some (bodyOf Tryd.f72) := rfl
theorem kill73_3 : notes.kill 73 3 = [2, 3, 4, 7, 8, 9, 10, 11, 12, 13, 14, 15, 16, 17, 18, 19, 20, 21, 22, 23, 24, 25] := rfl
theorem grow73_3 : notes.grow 73 3 = [] := rfl
/-- f73, loop at region 3: lives 0:r 1:each 5:out 6:n -/
def L73_3 (s0 s1 s5 s6 : Slot) : List Slot := [s0, s1, .v .undef, .v .undef, .v .undef, s5, s6, .v .undef, .v .undef, .v .undef, .v .undef, .v .undef, .v .undef, .v .undef, .v .undef, .v .undef, .v .undef, .v .undef, .v .undef, .v .undef, .v .undef, .v .undef, .v .undef, .v .undef, .v .undef, .v .undef]
theorem mode73_8 : notes.mode 73 8 = .priv := rfl
theorem mode73_22 : notes.mode 73 22 = .priv := rfl
theorem mode73_23 : notes.mode 73 23 = .imm := rfl
theorem mode73_24 : notes.mode 73 24 = .heap := rfl
theorem f73 : Tryd.prog.funcs[73]? = some Tryd.f73 := by kernel_rfl
theorem r73 : Tryd.f73.results.toList = [.tmp 4] := rfl
theorem n73 : Tryd.f73.ntmps = 26 := rfl
theorem b73 : Tryd.f73.body = some (bodyOf Tryd.f73) := rfl
theorem mode74_1 : notes.mode 74 1 = .priv := rfl
theorem mode74_4 : notes.mode 74 4 = .priv := rfl
theorem mode74_2 : notes.mode 74 2 = .priv := rfl
theorem mode74_7 : notes.mode 74 7 = .priv := rfl
theorem mode74_10 : notes.mode 74 10 = .priv := rfl
theorem mode74_13 : notes.mode 74 13 = .priv := rfl
theorem f74 : Tryd.prog.funcs[74]? = some Tryd.f74 := by kernel_rfl
theorem r74 : Tryd.f74.results.toList = [.cell 1 107] := rfl
theorem n74 : Tryd.f74.ntmps = 16 := rfl
theorem b74 : Tryd.f74.body = some (bodyOf Tryd.f74) := rfl
theorem F7 : type_of% @agg22 ∧ type_of% @agg26 ∧ type_of% @agg47 ∧ type_of% @agg5 ∧ type_of% @agg52 ∧ type_of% @call11 ∧ type_of% @call12 ∧ type_of% @call13 ∧ type_of% @call15 ∧ type_of% @call16 ∧ type_of% @call18 ∧ type_of% @field26_0 ∧ type_of% @field50_4 ∧ type_of% @ix22 ∧ type_of% @size50 ∧ type_of% @zero50 ∧ type_of% @room50 ∧ type_of% @bytes50 ∧ type_of% @ix29 ∧ type_of% @size5 ∧ type_of% @zero5 ∧ type_of% @room5 ∧ type_of% @bytes5 ∧ type_of% @ix47 ∧ type_of% @size52 ∧ type_of% @zero52 ∧ type_of% @room52 ∧ type_of% @bytes52 ∧ type_of% @lay52 ∧ type_of% @size22 ∧ type_of% @size26 ∧ type_of% @size47 ∧ type_of% @tk22 ∧ type_of% @tk29 ∧ type_of% @tk3 ∧ type_of% @tk47 ∧ type_of% @zero26 ∧ type_of% @kill7_18 ∧ type_of% @grow7_18 ∧ type_of% @kill7_15 ∧ type_of% @grow7_15 ∧ type_of% @kill7_9 ∧ type_of% @grow7_9 ∧ type_of% @mode7_1 ∧ type_of% @mode7_16 ∧ type_of% @mode7_17 ∧ type_of% @mode7_20 ∧ type_of% @mode7_21 ∧ type_of% @mode7_22 ∧ type_of% @mode7_24 ∧ type_of% @mode7_26 ∧ type_of% @mode7_27 ∧ type_of% @mode7_29 ∧ type_of% @mode7_32 ∧ type_of% @mode7_33 ∧ type_of% @mode7_34 ∧ type_of% @mode7_35 ∧ type_of% @mode7_6 ∧ type_of% @mode7_46 ∧ type_of% @mode7_51 ∧ type_of% @mode7_83 ∧ type_of% @mode7_84 ∧ type_of% @mode7_85 ∧ type_of% @mode7_86 ∧ type_of% @mode7_12 ∧ type_of% @mode7_88 ∧ type_of% @mode7_93 ∧ type_of% @mode7_96 := ⟨@agg22, @agg26, @agg47, @agg5, @agg52, @call11, @call12, @call13, @call15, @call16, @call18, @field26_0, @field50_4, @ix22, @size50, @zero50, @room50, @bytes50, @ix29, @size5, @zero5, @room5, @bytes5, @ix47, @size52, @zero52, @room52, @bytes52, @lay52, @size22, @size26, @size47, @tk22, @tk29, @tk3, @tk47, @zero26, @kill7_18, @grow7_18, @kill7_15, @grow7_15, @kill7_9, @grow7_9, @mode7_1, @mode7_16, @mode7_17, @mode7_20, @mode7_21, @mode7_22, @mode7_24, @mode7_26, @mode7_27, @mode7_29, @mode7_32, @mode7_33, @mode7_34, @mode7_35, @mode7_6, @mode7_46, @mode7_51, @mode7_83, @mode7_84, @mode7_85, @mode7_86, @mode7_12, @mode7_88, @mode7_93, @mode7_96⟩
theorem F11 : type_of% @agg22 ∧ type_of% @agg23 ∧ type_of% @agg24 ∧ type_of% @agg45 ∧ type_of% @agg46 ∧ type_of% @agg47 ∧ type_of% @agg48 ∧ type_of% @agg50 ∧ type_of% @agg9 ∧ type_of% @field26_0 ∧ type_of% @field26_1 ∧ type_of% @field26_2 ∧ type_of% @field50_2 ∧ type_of% @field50_3 ∧ type_of% @field50_4 ∧ type_of% @field50_5 ∧ type_of% @ix22 ∧ type_of% @size50 ∧ type_of% @zero50 ∧ type_of% @room50 ∧ type_of% @bytes50 ∧ type_of% @ix23 ∧ type_of% @size9 ∧ type_of% @zero9 ∧ type_of% @room9 ∧ type_of% @bytes9 ∧ type_of% @ix24 ∧ type_of% @size45 ∧ type_of% @zero45 ∧ type_of% @room45 ∧ type_of% @bytes45 ∧ type_of% @size22 ∧ type_of% @size23 ∧ type_of% @size24 ∧ type_of% @size26 ∧ type_of% @size46 ∧ type_of% @size47 ∧ type_of% @size48 ∧ type_of% @tk22 ∧ type_of% @tk23 ∧ type_of% @tk24 ∧ type_of% @tk3 ∧ type_of% @tk45 ∧ type_of% @tk46 ∧ type_of% @tk47 ∧ type_of% @tk48 ∧ type_of% @tk9 ∧ type_of% @kill11_15 ∧ type_of% @grow11_15 ∧ type_of% @kill11_10 ∧ type_of% @grow11_10 ∧ type_of% @kill11_5 ∧ type_of% @grow11_5 ∧ type_of% @mode11_1 ∧ type_of% @mode11_7 := ⟨@agg22, @agg23, @agg24, @agg45, @agg46, @agg47, @agg48, @agg50, @agg9, @field26_0, @field26_1, @field26_2, @field50_2, @field50_3, @field50_4, @field50_5, @ix22, @size50, @zero50, @room50, @bytes50, @ix23, @size9, @zero9, @room9, @bytes9, @ix24, @size45, @zero45, @room45, @bytes45, @size22, @size23, @size24, @size26, @size46, @size47, @size48, @tk22, @tk23, @tk24, @tk3, @tk45, @tk46, @tk47, @tk48, @tk9, @kill11_15, @grow11_15, @kill11_10, @grow11_10, @kill11_5, @grow11_5, @mode11_1, @mode11_7⟩
theorem F12 : type_of% @agg26 ∧ type_of% @call13 ∧ type_of% @call15 ∧ type_of% @call16 ∧ type_of% @call20 ∧ type_of% @call22 ∧ type_of% @lay26 ∧ type_of% @lay52 ∧ type_of% @size26 ∧ type_of% @tk29 ∧ type_of% @tk3 ∧ type_of% @tk9 ∧ type_of% @tk5 ∧ type_of% @zero26 ∧ type_of% @mode12_11 ∧ type_of% @mode12_12 ∧ type_of% @mode12_13 ∧ type_of% @mode12_16 ∧ type_of% @mode12_17 ∧ type_of% @mode12_18 ∧ type_of% @mode12_19 ∧ type_of% @mode12_3 ∧ type_of% @mode12_23 ∧ type_of% @mode12_24 ∧ type_of% @mode12_25 ∧ type_of% @mode12_26 ∧ type_of% @mode12_28 ∧ type_of% @mode12_30 ∧ type_of% @mode12_33 ∧ type_of% @mode12_38 ∧ type_of% @mode12_54 := ⟨@agg26, @call13, @call15, @call16, @call20, @call22, @lay26, @lay52, @size26, @tk29, @tk3, @tk9, @tk5, @zero26, @mode12_11, @mode12_12, @mode12_13, @mode12_16, @mode12_17, @mode12_18, @mode12_19, @mode12_3, @mode12_23, @mode12_24, @mode12_25, @mode12_26, @mode12_28, @mode12_30, @mode12_33, @mode12_38, @mode12_54⟩
theorem F13 : type_of% @agg22 ∧ type_of% @agg23 ∧ type_of% @agg24 ∧ type_of% @agg26 ∧ type_of% @agg29 ∧ type_of% @agg3 ∧ type_of% @agg30 ∧ type_of% @agg65 ∧ type_of% @call25 ∧ type_of% @call26 ∧ type_of% @call27 ∧ type_of% @call28 ∧ type_of% @call30 ∧ type_of% @call31 ∧ type_of% @call33 ∧ type_of% @call34 ∧ type_of% @field26_0 ∧ type_of% @field26_1 ∧ type_of% @field26_2 ∧ type_of% @field26_3 ∧ type_of% @field67_0 ∧ type_of% @field67_1 ∧ type_of% @ix29 ∧ type_of% @size5 ∧ type_of% @zero5 ∧ type_of% @room5 ∧ type_of% @bytes5 ∧ type_of% @lay67 ∧ type_of% @size22 ∧ type_of% @size23 ∧ type_of% @size24 ∧ type_of% @size26 ∧ type_of% @size29 ∧ type_of% @size3 ∧ type_of% @size30 ∧ type_of% @size65 ∧ type_of% @size67 ∧ type_of% @tk29 ∧ type_of% @tk3 ∧ type_of% @tk30 ∧ type_of% @tk5 ∧ type_of% @zero65 ∧ type_of% @mode13_1 ∧ type_of% @mode13_6 ∧ type_of% @mode13_7 ∧ type_of% @mode13_8 ∧ type_of% @mode13_10 ∧ type_of% @mode13_4 ∧ type_of% @mode13_15 ∧ type_of% @mode13_20 ∧ type_of% @mode13_24 ∧ type_of% @mode13_30 := ⟨@agg22, @agg23, @agg24, @agg26, @agg29, @agg3, @agg30, @agg65, @call25, @call26, @call27, @call28, @call30, @call31, @call33, @call34, @field26_0, @field26_1, @field26_2, @field26_3, @field67_0, @field67_1, @ix29, @size5, @zero5, @room5, @bytes5, @lay67, @size22, @size23, @size24, @size26, @size29, @size3, @size30, @size65, @size67, @tk29, @tk3, @tk30, @tk5, @zero65, @mode13_1, @mode13_6, @mode13_7, @mode13_8, @mode13_10, @mode13_4, @mode13_15, @mode13_20, @mode13_24, @mode13_30⟩
theorem F16 : type_of% @agg22 ∧ type_of% @agg23 ∧ type_of% @agg24 ∧ type_of% @agg26 ∧ type_of% @agg3 ∧ type_of% @agg30 ∧ type_of% @agg5 ∧ type_of% @agg82 ∧ type_of% @call41 ∧ type_of% @call42 ∧ type_of% @call43 ∧ type_of% @call44 ∧ type_of% @call45 ∧ type_of% @call47 ∧ type_of% @call48 ∧ type_of% @call49 ∧ type_of% @field26_0 ∧ type_of% @field26_1 ∧ type_of% @field26_2 ∧ type_of% @field26_3 ∧ type_of% @field84_1 ∧ type_of% @field84_2 ∧ type_of% @ix29 ∧ type_of% @size5 ∧ type_of% @zero5 ∧ type_of% @room5 ∧ type_of% @bytes5 ∧ type_of% @ix9 ∧ type_of% @lay26 ∧ type_of% @lay84 ∧ type_of% @size22 ∧ type_of% @size23 ∧ type_of% @size24 ∧ type_of% @size26 ∧ type_of% @size3 ∧ type_of% @size30 ∧ type_of% @size82 ∧ type_of% @size84 ∧ type_of% @tk29 ∧ type_of% @tk3 ∧ type_of% @tk30 ∧ type_of% @tk5 ∧ type_of% @zero26 ∧ type_of% @zero82 ∧ type_of% @kill16_5 ∧ type_of% @grow16_5 ∧ type_of% @mode16_2 ∧ type_of% @mode16_13 ∧ type_of% @mode16_5 ∧ type_of% @mode16_48 ∧ type_of% @mode16_65 ∧ type_of% @mode16_69 ∧ type_of% @mode16_72 ∧ type_of% @mode16_77 ∧ type_of% @mode16_98 := ⟨@agg22, @agg23, @agg24, @agg26, @agg3, @agg30, @agg5, @agg82, @call41, @call42, @call43, @call44, @call45, @call47, @call48, @call49, @field26_0, @field26_1, @field26_2, @field26_3, @field84_1, @field84_2, @ix29, @size5, @zero5, @room5, @bytes5, @ix9, @lay26, @lay84, @size22, @size23, @size24, @size26, @size3, @size30, @size82, @size84, @tk29, @tk3, @tk30, @tk5, @zero26, @zero82, @kill16_5, @grow16_5, @mode16_2, @mode16_13, @mode16_5, @mode16_48, @mode16_65, @mode16_69, @mode16_72, @mode16_77, @mode16_98⟩
theorem F18 : type_of% @agg22 ∧ type_of% @agg23 ∧ type_of% @agg24 ∧ type_of% @agg3 ∧ type_of% @agg45 ∧ type_of% @agg50 ∧ type_of% @agg9 ∧ type_of% @call55 ∧ type_of% @call56 ∧ type_of% @field26_0 ∧ type_of% @field26_1 ∧ type_of% @field26_2 ∧ type_of% @field26_3 ∧ type_of% @ix22 ∧ type_of% @size50 ∧ type_of% @zero50 ∧ type_of% @room50 ∧ type_of% @bytes50 ∧ type_of% @ix23 ∧ type_of% @size9 ∧ type_of% @zero9 ∧ type_of% @room9 ∧ type_of% @bytes9 ∧ type_of% @ix24 ∧ type_of% @size45 ∧ type_of% @zero45 ∧ type_of% @room45 ∧ type_of% @bytes45 ∧ type_of% @size22 ∧ type_of% @size23 ∧ type_of% @size24 ∧ type_of% @size26 ∧ type_of% @size3 ∧ type_of% @tk22 ∧ type_of% @tk23 ∧ type_of% @tk24 ∧ type_of% @tk3 ∧ type_of% @tk9 ∧ type_of% @kill18_14 ∧ type_of% @grow18_14 ∧ type_of% @kill18_9 ∧ type_of% @grow18_9 ∧ type_of% @kill18_4 ∧ type_of% @grow18_4 ∧ type_of% @mode18_2 ∧ type_of% @mode18_3 ∧ type_of% @mode18_75 ∧ type_of% @mode18_94 := ⟨@agg22, @agg23, @agg24, @agg3, @agg45, @agg50, @agg9, @call55, @call56, @field26_0, @field26_1, @field26_2, @field26_3, @ix22, @size50, @zero50, @room50, @bytes50, @ix23, @size9, @zero9, @room9, @bytes9, @ix24, @size45, @zero45, @room45, @bytes45, @size22, @size23, @size24, @size26, @size3, @tk22, @tk23, @tk24, @tk3, @tk9, @kill18_14, @grow18_14, @kill18_9, @grow18_9, @kill18_4, @grow18_4, @mode18_2, @mode18_3, @mode18_75, @mode18_94⟩
theorem F20 : type_of% @agg24 ∧ type_of% @agg3 ∧ type_of% @agg45 ∧ type_of% @field26_2 ∧ type_of% @field52_0 ∧ type_of% @field52_1 ∧ type_of% @ix101 ∧ type_of% @size3 ∧ type_of% @ix24 ∧ type_of% @size45 ∧ type_of% @zero45 ∧ type_of% @room45 ∧ type_of% @bytes45 ∧ type_of% @size24 ∧ type_of% @size26 ∧ type_of% @size52 ∧ type_of% @tk24 ∧ type_of% @tk3 ∧ type_of% @tk45 ∧ type_of% @gl0 ∧ type_of% @gl1 ∧ type_of% @mode20_2 ∧ type_of% @mode20_3 := ⟨@agg24, @agg3, @agg45, @field26_2, @field52_0, @field52_1, @ix101, @size3, @ix24, @size45, @zero45, @room45, @bytes45, @size24, @size26, @size52, @tk24, @tk3, @tk45, @gl0, @gl1, @mode20_2, @mode20_3⟩
theorem F22 : type_of% @agg9 ∧ type_of% @ix102 ∧ type_of% @size9 ∧ type_of% @tk3 ∧ type_of% @gl2 := ⟨@agg9, @ix102, @size9, @tk3, @gl2⟩
theorem F25 : type_of% @agg105 ∧ type_of% @agg107 ∧ type_of% @agg22 ∧ type_of% @agg24 ∧ type_of% @agg29 ∧ type_of% @agg3 ∧ type_of% @agg30 ∧ type_of% @agg45 ∧ type_of% @agg46 ∧ type_of% @agg47 ∧ type_of% @agg48 ∧ type_of% @agg50 ∧ type_of% @agg52 ∧ type_of% @agg65 ∧ type_of% @call57 ∧ type_of% @call58 ∧ type_of% @field105_0 ∧ type_of% @field105_1 ∧ type_of% @field107_0 ∧ type_of% @field107_1 ∧ type_of% @field107_2 ∧ type_of% @field107_3 ∧ type_of% @field26_0 ∧ type_of% @field26_2 ∧ type_of% @field26_3 ∧ type_of% @field50_0 ∧ type_of% @field50_1 ∧ type_of% @field50_2 ∧ type_of% @field50_3 ∧ type_of% @field50_4 ∧ type_of% @field50_5 ∧ type_of% @field52_0 ∧ type_of% @field52_1 ∧ type_of% @field52_2 ∧ type_of% @field67_0 ∧ type_of% @field67_1 ∧ type_of% @ix22 ∧ type_of% @size50 ∧ type_of% @zero50 ∧ type_of% @room50 ∧ type_of% @bytes50 ∧ type_of% @ix24 ∧ type_of% @size45 ∧ type_of% @zero45 ∧ type_of% @room45 ∧ type_of% @bytes45 ∧ type_of% @ix29 ∧ type_of% @size5 ∧ type_of% @zero5 ∧ type_of% @room5 ∧ type_of% @bytes5 ∧ type_of% @ix45 ∧ type_of% @size3 ∧ type_of% @zero3 ∧ type_of% @room3 ∧ type_of% @bytes3 ∧ type_of% @ix46 ∧ type_of% @size105 ∧ type_of% @zero105 ∧ type_of% @room105 ∧ type_of% @bytes105 ∧ type_of% @ix47 ∧ type_of% @size52 ∧ type_of% @zero52 ∧ type_of% @room52 ∧ type_of% @bytes52 ∧ type_of% @ix48 ∧ type_of% @size107 ∧ type_of% @zero107 ∧ type_of% @room107 ∧ type_of% @bytes107 ∧ type_of% @lay67 ∧ type_of% @size22 ∧ type_of% @size24 ∧ type_of% @size26 ∧ type_of% @size29 ∧ type_of% @size30 ∧ type_of% @size46 ∧ type_of% @size47 ∧ type_of% @size48 ∧ type_of% @size65 ∧ type_of% @size67 ∧ type_of% @tk22 ∧ type_of% @tk24 ∧ type_of% @tk3 ∧ type_of% @tk30 ∧ type_of% @tk46 ∧ type_of% @tk47 ∧ type_of% @tk48 ∧ type_of% @zero65 ∧ type_of% @kill25_28 ∧ type_of% @grow25_28 ∧ type_of% @kill25_20 ∧ type_of% @grow25_20 ∧ type_of% @kill25_15 ∧ type_of% @grow25_15 ∧ type_of% @kill25_10 ∧ type_of% @grow25_10 ∧ type_of% @kill25_4 ∧ type_of% @grow25_4 ∧ type_of% @mode25_1 ∧ type_of% @mode25_16 ∧ type_of% @mode25_3 ∧ type_of% @mode25_27 ∧ type_of% @mode25_32 ∧ type_of% @mode25_33 ∧ type_of% @mode25_8 ∧ type_of% @mode25_46 ∧ type_of% @mode25_47 ∧ type_of% @mode25_51 ∧ type_of% @mode25_10 ∧ type_of% @mode25_64 ∧ type_of% @mode25_65 ∧ type_of% @mode25_12 ∧ type_of% @mode25_77 ∧ type_of% @mode25_78 ∧ type_of% @mode25_82 ∧ type_of% @mode25_86 ∧ type_of% @mode25_14 ∧ type_of% @mode25_112 ∧ type_of% @mode25_113 := ⟨@agg105, @agg107, @agg22, @agg24, @agg29, @agg3, @agg30, @agg45, @agg46, @agg47, @agg48, @agg50, @agg52, @agg65, @call57, @call58, @field105_0, @field105_1, @field107_0, @field107_1, @field107_2, @field107_3, @field26_0, @field26_2, @field26_3, @field50_0, @field50_1, @field50_2, @field50_3, @field50_4, @field50_5, @field52_0, @field52_1, @field52_2, @field67_0, @field67_1, @ix22, @size50, @zero50, @room50, @bytes50, @ix24, @size45, @zero45, @room45, @bytes45, @ix29, @size5, @zero5, @room5, @bytes5, @ix45, @size3, @zero3, @room3, @bytes3, @ix46, @size105, @zero105, @room105, @bytes105, @ix47, @size52, @zero52, @room52, @bytes52, @ix48, @size107, @zero107, @room107, @bytes107, @lay67, @size22, @size24, @size26, @size29, @size30, @size46, @size47, @size48, @size65, @size67, @tk22, @tk24, @tk3, @tk30, @tk46, @tk47, @tk48, @zero65, @kill25_28, @grow25_28, @kill25_20, @grow25_20, @kill25_15, @grow25_15, @kill25_10, @grow25_10, @kill25_4, @grow25_4, @mode25_1, @mode25_16, @mode25_3, @mode25_27, @mode25_32, @mode25_33, @mode25_8, @mode25_46, @mode25_47, @mode25_51, @mode25_10, @mode25_64, @mode25_65, @mode25_12, @mode25_77, @mode25_78, @mode25_82, @mode25_86, @mode25_14, @mode25_112, @mode25_113⟩
theorem F26 : type_of% @agg29 ∧ type_of% @agg30 ∧ type_of% @agg9 ∧ type_of% @call28 ∧ type_of% @field67_0 ∧ type_of% @field67_1 ∧ type_of% @ix23 ∧ type_of% @size9 ∧ type_of% @zero9 ∧ type_of% @room9 ∧ type_of% @bytes9 ∧ type_of% @size29 ∧ type_of% @size30 ∧ type_of% @tk23 ∧ type_of% @tk29 ∧ type_of% @tk3 ∧ type_of% @tk30 ∧ type_of% @kill26_2 ∧ type_of% @grow26_2 ∧ type_of% @mode26_11 ∧ type_of% @mode26_33 := ⟨@agg29, @agg30, @agg9, @call28, @field67_0, @field67_1, @ix23, @size9, @zero9, @room9, @bytes9, @size29, @size30, @tk23, @tk29, @tk3, @tk30, @kill26_2, @grow26_2, @mode26_11, @mode26_33⟩
theorem F27 : type_of% @agg29 ∧ type_of% @agg65 ∧ type_of% @call28 ∧ type_of% @call29 ∧ type_of% @field67_0 ∧ type_of% @ix29 ∧ type_of% @size5 ∧ type_of% @zero5 ∧ type_of% @room5 ∧ type_of% @bytes5 ∧ type_of% @ix9 ∧ type_of% @size29 ∧ type_of% @size65 ∧ type_of% @tk3 ∧ type_of% @tk9 ∧ type_of% @mode27_6 ∧ type_of% @mode27_11 ∧ type_of% @mode27_18 := ⟨@agg29, @agg65, @call28, @call29, @field67_0, @ix29, @size5, @zero5, @room5, @bytes5, @ix9, @size29, @size65, @tk3, @tk9, @mode27_6, @mode27_11, @mode27_18⟩
theorem F28 : type_of% @agg29 ∧ type_of% @agg30 ∧ type_of% @call29 ∧ type_of% @field67_0 ∧ type_of% @field67_1 ∧ type_of% @ix29 ∧ type_of% @size5 ∧ type_of% @zero5 ∧ type_of% @room5 ∧ type_of% @bytes5 ∧ type_of% @size29 ∧ type_of% @size30 ∧ type_of% @tk3 ∧ type_of% @tk30 ∧ type_of% @tk5 ∧ type_of% @kill28_3 ∧ type_of% @grow28_3 ∧ type_of% @mode28_11 ∧ type_of% @mode28_27 ∧ type_of% @mode28_29 ∧ type_of% @mode28_30 ∧ type_of% @mode28_39 ∧ type_of% @mode28_40 ∧ type_of% @mode28_41 := ⟨@agg29, @agg30, @call29, @field67_0, @field67_1, @ix29, @size5, @zero5, @room5, @bytes5, @size29, @size30, @tk3, @tk30, @tk5, @kill28_3, @grow28_3, @mode28_11, @mode28_27, @mode28_29, @mode28_30, @mode28_39, @mode28_40, @mode28_41⟩
theorem F29 : type_of% @agg30 ∧ type_of% @field67_1 ∧ type_of% @size30 ∧ type_of% @tk30 := ⟨@agg30, @field67_1, @size30, @tk30⟩
theorem F30 : type_of% @agg29 ∧ type_of% @agg30 ∧ type_of% @agg45 ∧ type_of% @call28 ∧ type_of% @field67_0 ∧ type_of% @field67_1 ∧ type_of% @ix24 ∧ type_of% @size45 ∧ type_of% @zero45 ∧ type_of% @room45 ∧ type_of% @bytes45 ∧ type_of% @size29 ∧ type_of% @size30 ∧ type_of% @tk24 ∧ type_of% @tk29 ∧ type_of% @tk3 ∧ type_of% @tk30 ∧ type_of% @kill30_2 ∧ type_of% @grow30_2 ∧ type_of% @mode30_11 ∧ type_of% @mode30_33 := ⟨@agg29, @agg30, @agg45, @call28, @field67_0, @field67_1, @ix24, @size45, @zero45, @room45, @bytes45, @size29, @size30, @tk24, @tk29, @tk3, @tk30, @kill30_2, @grow30_2, @mode30_11, @mode30_33⟩
theorem F31 : type_of% @agg65 ∧ type_of% @call28 ∧ type_of% @call32 ∧ type_of% @size65 ∧ type_of% @mode31_7 := ⟨@agg65, @call28, @call32, @size65, @mode31_7⟩
theorem F32 : type_of% @agg29 ∧ type_of% @agg3 ∧ type_of% @agg30 ∧ type_of% @call28 ∧ type_of% @field67_0 ∧ type_of% @field67_1 ∧ type_of% @ix45 ∧ type_of% @size3 ∧ type_of% @zero3 ∧ type_of% @room3 ∧ type_of% @bytes3 ∧ type_of% @size29 ∧ type_of% @size30 ∧ type_of% @tk29 ∧ type_of% @tk3 ∧ type_of% @tk30 ∧ type_of% @tk45 ∧ type_of% @kill32_2 ∧ type_of% @grow32_2 ∧ type_of% @mode32_11 ∧ type_of% @mode32_33 := ⟨@agg29, @agg3, @agg30, @call28, @field67_0, @field67_1, @ix45, @size3, @zero3, @room3, @bytes3, @size29, @size30, @tk29, @tk3, @tk30, @tk45, @kill32_2, @grow32_2, @mode32_11, @mode32_33⟩
theorem F33 : type_of% @agg29 ∧ type_of% @agg30 ∧ type_of% @agg50 ∧ type_of% @call28 ∧ type_of% @field67_0 ∧ type_of% @field67_1 ∧ type_of% @ix22 ∧ type_of% @size50 ∧ type_of% @zero50 ∧ type_of% @room50 ∧ type_of% @bytes50 ∧ type_of% @size29 ∧ type_of% @size30 ∧ type_of% @tk22 ∧ type_of% @tk29 ∧ type_of% @tk3 ∧ type_of% @tk30 ∧ type_of% @kill33_2 ∧ type_of% @grow33_2 ∧ type_of% @mode33_11 ∧ type_of% @mode33_7 ∧ type_of% @mode33_33 := ⟨@agg29, @agg30, @agg50, @call28, @field67_0, @field67_1, @ix22, @size50, @zero50, @room50, @bytes50, @size29, @size30, @tk22, @tk29, @tk3, @tk30, @kill33_2, @grow33_2, @mode33_11, @mode33_7, @mode33_33⟩
theorem F34 : type_of% @agg3 ∧ type_of% @agg45 ∧ type_of% @agg46 ∧ type_of% @agg47 ∧ type_of% @agg48 ∧ type_of% @agg65 ∧ type_of% @call28 ∧ type_of% @call32 ∧ type_of% @call59 ∧ type_of% @call60 ∧ type_of% @call61 ∧ type_of% @call62 ∧ type_of% @call63 ∧ type_of% @call64 ∧ type_of% @field50_0 ∧ type_of% @field50_1 ∧ type_of% @field50_2 ∧ type_of% @field50_3 ∧ type_of% @field50_4 ∧ type_of% @field50_5 ∧ type_of% @size3 ∧ type_of% @size45 ∧ type_of% @size46 ∧ type_of% @size47 ∧ type_of% @size48 ∧ type_of% @size50 ∧ type_of% @size65 ∧ type_of% @mode34_2 ∧ type_of% @mode34_3 ∧ type_of% @mode34_7 ∧ type_of% @mode34_11 ∧ type_of% @mode34_17 ∧ type_of% @mode34_22 ∧ type_of% @mode34_27 ∧ type_of% @mode34_32 := ⟨@agg3, @agg45, @agg46, @agg47, @agg48, @agg65, @call28, @call32, @call59, @call60, @call61, @call62, @call63, @call64, @field50_0, @field50_1, @field50_2, @field50_3, @field50_4, @field50_5, @size3, @size45, @size46, @size47, @size48, @size50, @size65, @mode34_2, @mode34_3, @mode34_7, @mode34_11, @mode34_17, @mode34_22, @mode34_27, @mode34_32⟩
theorem F41 : type_of% @agg3 ∧ type_of% @agg30 ∧ type_of% @field84_1 ∧ type_of% @field84_2 ∧ type_of% @size3 ∧ type_of% @size30 ∧ type_of% @tk30 := ⟨@agg3, @agg30, @field84_1, @field84_2, @size3, @size30, @tk30⟩
theorem F42 : type_of% @agg30 ∧ type_of% @call67 ∧ type_of% @field84_2 ∧ type_of% @ix23 ∧ type_of% @size9 ∧ type_of% @zero9 ∧ type_of% @room9 ∧ type_of% @bytes9 ∧ type_of% @size30 ∧ type_of% @tk3 ∧ type_of% @tk30 ∧ type_of% @kill42_3 ∧ type_of% @grow42_3 ∧ type_of% @mode42_8 ∧ type_of% @mode42_22 ∧ type_of% @mode42_23 ∧ type_of% @mode42_24 := ⟨@agg30, @call67, @field84_2, @ix23, @size9, @zero9, @room9, @bytes9, @size30, @tk3, @tk30, @kill42_3, @grow42_3, @mode42_8, @mode42_22, @mode42_23, @mode42_24⟩
theorem F43 : type_of% @agg29 ∧ type_of% @agg3 ∧ type_of% @agg30 ∧ type_of% @call67 ∧ type_of% @field84_0 ∧ type_of% @field84_1 ∧ type_of% @field84_2 ∧ type_of% @ix29 ∧ type_of% @size5 ∧ type_of% @zero5 ∧ type_of% @room5 ∧ type_of% @bytes5 ∧ type_of% @size29 ∧ type_of% @size3 ∧ type_of% @size30 ∧ type_of% @tk29 ∧ type_of% @tk3 ∧ type_of% @tk30 ∧ type_of% @tk9 ∧ type_of% @tk5 ∧ type_of% @mode43_6 ∧ type_of% @mode43_22 := ⟨@agg29, @agg3, @agg30, @call67, @field84_0, @field84_1, @field84_2, @ix29, @size5, @zero5, @room5, @bytes5, @size29, @size3, @size30, @tk29, @tk3, @tk30, @tk9, @tk5, @mode43_6, @mode43_22⟩
theorem F44 : type_of% @agg30 ∧ type_of% @call67 ∧ type_of% @field84_2 ∧ type_of% @ix24 ∧ type_of% @size45 ∧ type_of% @zero45 ∧ type_of% @room45 ∧ type_of% @bytes45 ∧ type_of% @size30 ∧ type_of% @tk3 ∧ type_of% @tk30 ∧ type_of% @kill44_3 ∧ type_of% @grow44_3 ∧ type_of% @mode44_8 ∧ type_of% @mode44_22 ∧ type_of% @mode44_23 ∧ type_of% @mode44_24 := ⟨@agg30, @call67, @field84_2, @ix24, @size45, @zero45, @room45, @bytes45, @size30, @tk3, @tk30, @kill44_3, @grow44_3, @mode44_8, @mode44_22, @mode44_23, @mode44_24⟩
theorem F45 : type_of% @agg82 ∧ type_of% @call46 ∧ type_of% @call47 ∧ type_of% @size82 ∧ type_of% @mode45_5 := ⟨@agg82, @call46, @call47, @size82, @mode45_5⟩
theorem F46 : type_of% @agg30 ∧ type_of% @call67 ∧ type_of% @field84_2 ∧ type_of% @ix45 ∧ type_of% @size3 ∧ type_of% @zero3 ∧ type_of% @room3 ∧ type_of% @bytes3 ∧ type_of% @size30 ∧ type_of% @tk3 ∧ type_of% @tk30 ∧ type_of% @kill46_3 ∧ type_of% @grow46_3 ∧ type_of% @mode46_8 ∧ type_of% @mode46_22 ∧ type_of% @mode46_23 ∧ type_of% @mode46_24 := ⟨@agg30, @call67, @field84_2, @ix45, @size3, @zero3, @room3, @bytes3, @size30, @tk3, @tk30, @kill46_3, @grow46_3, @mode46_8, @mode46_22, @mode46_23, @mode46_24⟩
theorem F47 : type_of% @agg29 ∧ type_of% @agg3 ∧ type_of% @agg30 ∧ type_of% @agg5 ∧ type_of% @call41 ∧ type_of% @field84_0 ∧ type_of% @field84_1 ∧ type_of% @field84_2 ∧ type_of% @ix29 ∧ type_of% @size5 ∧ type_of% @zero5 ∧ type_of% @room5 ∧ type_of% @bytes5 ∧ type_of% @size29 ∧ type_of% @size3 ∧ type_of% @size30 ∧ type_of% @tk29 ∧ type_of% @tk3 ∧ type_of% @tk30 ∧ type_of% @tk5 ∧ type_of% @kill47_3 ∧ type_of% @grow47_3 ∧ type_of% @mode47_28 ∧ type_of% @mode47_58 ∧ type_of% @mode47_62 := ⟨@agg29, @agg3, @agg30, @agg5, @call41, @field84_0, @field84_1, @field84_2, @ix29, @size5, @zero5, @room5, @bytes5, @size29, @size3, @size30, @tk29, @tk3, @tk30, @tk5, @kill47_3, @grow47_3, @mode47_28, @mode47_58, @mode47_62⟩
theorem F48 : type_of% @agg30 ∧ type_of% @call67 ∧ type_of% @field84_2 ∧ type_of% @ix22 ∧ type_of% @size50 ∧ type_of% @zero50 ∧ type_of% @room50 ∧ type_of% @bytes50 ∧ type_of% @size30 ∧ type_of% @tk3 ∧ type_of% @tk30 ∧ type_of% @kill48_3 ∧ type_of% @grow48_3 ∧ type_of% @mode48_8 ∧ type_of% @mode48_22 ∧ type_of% @mode48_23 ∧ type_of% @mode48_24 := ⟨@agg30, @call67, @field84_2, @ix22, @size50, @zero50, @room50, @bytes50, @size30, @tk3, @tk30, @kill48_3, @grow48_3, @mode48_8, @mode48_22, @mode48_23, @mode48_24⟩
theorem F49 : type_of% @agg3 ∧ type_of% @agg45 ∧ type_of% @agg46 ∧ type_of% @agg47 ∧ type_of% @agg48 ∧ type_of% @agg50 ∧ type_of% @agg82 ∧ type_of% @call46 ∧ type_of% @call47 ∧ type_of% @call68 ∧ type_of% @call69 ∧ type_of% @call70 ∧ type_of% @call71 ∧ type_of% @call73 ∧ type_of% @call74 ∧ type_of% @field50_1 ∧ type_of% @field50_2 ∧ type_of% @field50_3 ∧ type_of% @field50_4 ∧ type_of% @field50_5 ∧ type_of% @lay50 ∧ type_of% @size3 ∧ type_of% @size45 ∧ type_of% @size46 ∧ type_of% @size47 ∧ type_of% @size48 ∧ type_of% @size50 ∧ type_of% @size82 ∧ type_of% @zero50 ∧ type_of% @mode49_1 ∧ type_of% @mode49_2 ∧ type_of% @mode49_5 ∧ type_of% @mode49_3 ∧ type_of% @mode49_8 ∧ type_of% @mode49_13 ∧ type_of% @mode49_17 ∧ type_of% @mode49_21 ∧ type_of% @mode49_25 := ⟨@agg3, @agg45, @agg46, @agg47, @agg48, @agg50, @agg82, @call46, @call47, @call68, @call69, @call70, @call71, @call73, @call74, @field50_1, @field50_2, @field50_3, @field50_4, @field50_5, @lay50, @size3, @size45, @size46, @size47, @size48, @size50, @size82, @zero50, @mode49_1, @mode49_2, @mode49_5, @mode49_3, @mode49_8, @mode49_13, @mode49_17, @mode49_21, @mode49_25⟩
theorem F55 : type_of% @agg3 ∧ type_of% @ix45 ∧ type_of% @size3 ∧ type_of% @zero3 ∧ type_of% @room3 ∧ type_of% @bytes3 ∧ type_of% @tk3 ∧ type_of% @tk45 ∧ type_of% @kill55_4 ∧ type_of% @grow55_4 := ⟨@agg3, @ix45, @size3, @zero3, @room3, @bytes3, @tk3, @tk45, @kill55_4, @grow55_4⟩
theorem F56 : type_of% @agg105 ∧ type_of% @agg107 ∧ type_of% @agg3 ∧ type_of% @agg45 ∧ type_of% @agg46 ∧ type_of% @agg47 ∧ type_of% @agg48 ∧ type_of% @agg52 ∧ type_of% @call55 ∧ type_of% @eql105 ∧ type_of% @eql107 ∧ type_of% @eql52 ∧ type_of% @field50_0 ∧ type_of% @field50_1 ∧ type_of% @field50_2 ∧ type_of% @field50_3 ∧ type_of% @field50_4 ∧ type_of% @field50_5 ∧ type_of% @ix46 ∧ type_of% @size105 ∧ type_of% @zero105 ∧ type_of% @room105 ∧ type_of% @bytes105 ∧ type_of% @ix47 ∧ type_of% @size52 ∧ type_of% @zero52 ∧ type_of% @room52 ∧ type_of% @bytes52 ∧ type_of% @ix48 ∧ type_of% @size107 ∧ type_of% @zero107 ∧ type_of% @room107 ∧ type_of% @bytes107 ∧ type_of% @size3 ∧ type_of% @size45 ∧ type_of% @size46 ∧ type_of% @size47 ∧ type_of% @size48 ∧ type_of% @size50 ∧ type_of% @tk105 ∧ type_of% @tk107 ∧ type_of% @tk3 ∧ type_of% @tk46 ∧ type_of% @tk47 ∧ type_of% @tk48 ∧ type_of% @tk52 ∧ type_of% @kill56_14 ∧ type_of% @grow56_14 ∧ type_of% @kill56_9 ∧ type_of% @grow56_9 ∧ type_of% @kill56_4 ∧ type_of% @grow56_4 ∧ type_of% @mode56_2 ∧ type_of% @mode56_3 ∧ type_of% @mode56_25 := ⟨@agg105, @agg107, @agg3, @agg45, @agg46, @agg47, @agg48, @agg52, @call55, @eql105, @eql107, @eql52, @field50_0, @field50_1, @field50_2, @field50_3, @field50_4, @field50_5, @ix46, @size105, @zero105, @room105, @bytes105, @ix47, @size52, @zero52, @room52, @bytes52, @ix48, @size107, @zero107, @room107, @bytes107, @size3, @size45, @size46, @size47, @size48, @size50, @tk105, @tk107, @tk3, @tk46, @tk47, @tk48, @tk52, @kill56_14, @grow56_14, @kill56_9, @grow56_9, @kill56_4, @grow56_4, @mode56_2, @mode56_3, @mode56_25⟩
theorem F57 : type_of% @agg29 ∧ type_of% @agg3 ∧ type_of% @agg65 ∧ type_of% @call28 ∧ type_of% @field67_0 ∧ type_of% @ix29 ∧ type_of% @size5 ∧ type_of% @zero5 ∧ type_of% @room5 ∧ type_of% @bytes5 ∧ type_of% @ix45 ∧ type_of% @size3 ∧ type_of% @zero3 ∧ type_of% @room3 ∧ type_of% @bytes3 ∧ type_of% @size29 ∧ type_of% @size65 ∧ type_of% @tk3 ∧ type_of% @tk45 ∧ type_of% @kill57_1 ∧ type_of% @grow57_1 ∧ type_of% @mode57_13 := ⟨@agg29, @agg3, @agg65, @call28, @field67_0, @ix29, @size5, @zero5, @room5, @bytes5, @ix45, @size3, @zero3, @room3, @bytes3, @size29, @size65, @tk3, @tk45, @kill57_1, @grow57_1, @mode57_13⟩
theorem F58 : type_of% @agg30 ∧ type_of% @call28 ∧ type_of% @call29 ∧ type_of% @field67_1 ∧ type_of% @size30 ∧ type_of% @tk3 ∧ type_of% @tk30 ∧ type_of% @mode58_11 ∧ type_of% @mode58_23 ∧ type_of% @mode58_27 := ⟨@agg30, @call28, @call29, @field67_1, @size30, @tk3, @tk30, @mode58_11, @mode58_23, @mode58_27⟩
theorem F59 : type_of% @agg105 ∧ type_of% @agg29 ∧ type_of% @agg30 ∧ type_of% @call28 ∧ type_of% @field67_0 ∧ type_of% @field67_1 ∧ type_of% @ix46 ∧ type_of% @size105 ∧ type_of% @zero105 ∧ type_of% @room105 ∧ type_of% @bytes105 ∧ type_of% @size29 ∧ type_of% @size30 ∧ type_of% @tk29 ∧ type_of% @tk3 ∧ type_of% @tk30 ∧ type_of% @tk46 ∧ type_of% @kill59_2 ∧ type_of% @grow59_2 ∧ type_of% @mode59_11 ∧ type_of% @mode59_7 ∧ type_of% @mode59_33 := ⟨@agg105, @agg29, @agg30, @call28, @field67_0, @field67_1, @ix46, @size105, @zero105, @room105, @bytes105, @size29, @size30, @tk29, @tk3, @tk30, @tk46, @kill59_2, @grow59_2, @mode59_11, @mode59_7, @mode59_33⟩
theorem F60 : type_of% @agg3 ∧ type_of% @agg65 ∧ type_of% @call28 ∧ type_of% @field105_0 ∧ type_of% @field105_1 ∧ type_of% @size105 ∧ type_of% @size3 ∧ type_of% @size65 ∧ type_of% @mode60_2 ∧ type_of% @mode60_6 ∧ type_of% @mode60_10 := ⟨@agg3, @agg65, @call28, @field105_0, @field105_1, @size105, @size3, @size65, @mode60_2, @mode60_6, @mode60_10⟩
theorem F61 : type_of% @agg29 ∧ type_of% @agg30 ∧ type_of% @agg52 ∧ type_of% @call28 ∧ type_of% @field67_0 ∧ type_of% @field67_1 ∧ type_of% @ix47 ∧ type_of% @size52 ∧ type_of% @zero52 ∧ type_of% @room52 ∧ type_of% @bytes52 ∧ type_of% @size29 ∧ type_of% @size30 ∧ type_of% @tk29 ∧ type_of% @tk3 ∧ type_of% @tk30 ∧ type_of% @tk47 ∧ type_of% @kill61_2 ∧ type_of% @grow61_2 ∧ type_of% @mode61_11 ∧ type_of% @mode61_7 ∧ type_of% @mode61_33 := ⟨@agg29, @agg30, @agg52, @call28, @field67_0, @field67_1, @ix47, @size52, @zero52, @room52, @bytes52, @size29, @size30, @tk29, @tk3, @tk30, @tk47, @kill61_2, @grow61_2, @mode61_11, @mode61_7, @mode61_33⟩
theorem F62 : type_of% @agg3 ∧ type_of% @agg65 ∧ type_of% @call28 ∧ type_of% @call58 ∧ type_of% @field52_0 ∧ type_of% @field52_1 ∧ type_of% @field52_2 ∧ type_of% @size3 ∧ type_of% @size52 ∧ type_of% @size65 ∧ type_of% @mode62_2 ∧ type_of% @mode62_6 ∧ type_of% @mode62_10 ∧ type_of% @mode62_14 := ⟨@agg3, @agg65, @call28, @call58, @field52_0, @field52_1, @field52_2, @size3, @size52, @size65, @mode62_2, @mode62_6, @mode62_10, @mode62_14⟩
theorem F63 : type_of% @agg107 ∧ type_of% @agg29 ∧ type_of% @agg30 ∧ type_of% @call28 ∧ type_of% @field67_0 ∧ type_of% @field67_1 ∧ type_of% @ix48 ∧ type_of% @size107 ∧ type_of% @zero107 ∧ type_of% @room107 ∧ type_of% @bytes107 ∧ type_of% @size29 ∧ type_of% @size30 ∧ type_of% @tk29 ∧ type_of% @tk3 ∧ type_of% @tk30 ∧ type_of% @tk48 ∧ type_of% @kill63_2 ∧ type_of% @grow63_2 ∧ type_of% @mode63_11 ∧ type_of% @mode63_7 ∧ type_of% @mode63_33 := ⟨@agg107, @agg29, @agg30, @call28, @field67_0, @field67_1, @ix48, @size107, @zero107, @room107, @bytes107, @size29, @size30, @tk29, @tk3, @tk30, @tk48, @kill63_2, @grow63_2, @mode63_11, @mode63_7, @mode63_33⟩
theorem F64 : type_of% @agg3 ∧ type_of% @agg65 ∧ type_of% @call28 ∧ type_of% @field107_0 ∧ type_of% @field107_1 ∧ type_of% @field107_2 ∧ type_of% @field107_3 ∧ type_of% @ix45 ∧ type_of% @size3 ∧ type_of% @zero3 ∧ type_of% @room3 ∧ type_of% @bytes3 ∧ type_of% @size107 ∧ type_of% @size65 ∧ type_of% @tk3 ∧ type_of% @tk45 ∧ type_of% @kill64_2 ∧ type_of% @grow64_2 ∧ type_of% @mode64_2 ∧ type_of% @mode64_13 ∧ type_of% @mode64_21 := ⟨@agg3, @agg65, @call28, @field107_0, @field107_1, @field107_2, @field107_3, @ix45, @size3, @zero3, @room3, @bytes3, @size107, @size65, @tk3, @tk45, @kill64_2, @grow64_2, @mode64_2, @mode64_13, @mode64_21⟩
theorem F67 : type_of% @agg29 ∧ type_of% @agg3 ∧ type_of% @agg30 ∧ type_of% @call41 ∧ type_of% @call47 ∧ type_of% @field84_0 ∧ type_of% @field84_1 ∧ type_of% @field84_2 ∧ type_of% @size29 ∧ type_of% @size3 ∧ type_of% @size30 ∧ type_of% @tk29 ∧ type_of% @tk3 ∧ type_of% @tk30 ∧ type_of% @mode67_10 ∧ type_of% @mode67_25 := ⟨@agg29, @agg3, @agg30, @call41, @call47, @field84_0, @field84_1, @field84_2, @size29, @size3, @size30, @tk29, @tk3, @tk30, @mode67_10, @mode67_25⟩
theorem F68 : type_of% @agg30 ∧ type_of% @call67 ∧ type_of% @field84_2 ∧ type_of% @ix46 ∧ type_of% @size105 ∧ type_of% @zero105 ∧ type_of% @room105 ∧ type_of% @bytes105 ∧ type_of% @size30 ∧ type_of% @tk3 ∧ type_of% @tk30 ∧ type_of% @kill68_3 ∧ type_of% @grow68_3 ∧ type_of% @mode68_8 ∧ type_of% @mode68_22 ∧ type_of% @mode68_23 ∧ type_of% @mode68_24 := ⟨@agg30, @call67, @field84_2, @ix46, @size105, @zero105, @room105, @bytes105, @size30, @tk3, @tk30, @kill68_3, @grow68_3, @mode68_8, @mode68_22, @mode68_23, @mode68_24⟩
theorem F69 : type_of% @agg105 ∧ type_of% @agg82 ∧ type_of% @call47 ∧ type_of% @lay105 ∧ type_of% @size105 ∧ type_of% @size82 ∧ type_of% @zero105 ∧ type_of% @mode69_1 ∧ type_of% @mode69_4 ∧ type_of% @mode69_7 := ⟨@agg105, @agg82, @call47, @lay105, @size105, @size82, @zero105, @mode69_1, @mode69_4, @mode69_7⟩
theorem F70 : type_of% @agg30 ∧ type_of% @call67 ∧ type_of% @field84_2 ∧ type_of% @ix47 ∧ type_of% @size52 ∧ type_of% @zero52 ∧ type_of% @room52 ∧ type_of% @bytes52 ∧ type_of% @size30 ∧ type_of% @tk3 ∧ type_of% @tk30 ∧ type_of% @kill70_3 ∧ type_of% @grow70_3 ∧ type_of% @mode70_8 ∧ type_of% @mode70_22 ∧ type_of% @mode70_23 ∧ type_of% @mode70_24 := ⟨@agg30, @call67, @field84_2, @ix47, @size52, @zero52, @room52, @bytes52, @size30, @tk3, @tk30, @kill70_3, @grow70_3, @mode70_8, @mode70_22, @mode70_23, @mode70_24⟩
theorem F71 : type_of% @agg3 ∧ type_of% @agg52 ∧ type_of% @agg82 ∧ type_of% @call47 ∧ type_of% @call72 ∧ type_of% @field52_1 ∧ type_of% @field52_2 ∧ type_of% @lay52 ∧ type_of% @size3 ∧ type_of% @size52 ∧ type_of% @size82 ∧ type_of% @zero52 ∧ type_of% @mode71_1 ∧ type_of% @mode71_4 ∧ type_of% @mode71_2 ∧ type_of% @mode71_7 ∧ type_of% @mode71_10 := ⟨@agg3, @agg52, @agg82, @call47, @call72, @field52_1, @field52_2, @lay52, @size3, @size52, @size82, @zero52, @mode71_1, @mode71_4, @mode71_2, @mode71_7, @mode71_10⟩
theorem F72 : type_of% @call47 ∧ type_of% @tk3 ∧ type_of% @mode72_5 := ⟨@call47, @tk3, @mode72_5⟩
theorem F73 : type_of% @agg30 ∧ type_of% @call67 ∧ type_of% @field84_2 ∧ type_of% @ix48 ∧ type_of% @size107 ∧ type_of% @zero107 ∧ type_of% @room107 ∧ type_of% @bytes107 ∧ type_of% @size30 ∧ type_of% @tk3 ∧ type_of% @tk30 ∧ type_of% @kill73_3 ∧ type_of% @grow73_3 ∧ type_of% @mode73_8 ∧ type_of% @mode73_22 ∧ type_of% @mode73_23 ∧ type_of% @mode73_24 := ⟨@agg30, @call67, @field84_2, @ix48, @size107, @zero107, @room107, @bytes107, @size30, @tk3, @tk30, @kill73_3, @grow73_3, @mode73_8, @mode73_22, @mode73_23, @mode73_24⟩
theorem F74 : type_of% @agg107 ∧ type_of% @agg3 ∧ type_of% @agg82 ∧ type_of% @call47 ∧ type_of% @field107_1 ∧ type_of% @field107_2 ∧ type_of% @field107_3 ∧ type_of% @lay107 ∧ type_of% @size107 ∧ type_of% @size3 ∧ type_of% @size82 ∧ type_of% @zero107 ∧ type_of% @mode74_1 ∧ type_of% @mode74_4 ∧ type_of% @mode74_2 ∧ type_of% @mode74_7 ∧ type_of% @mode74_10 ∧ type_of% @mode74_13 := ⟨@agg107, @agg3, @agg82, @call47, @field107_1, @field107_2, @field107_3, @lay107, @size107, @size3, @size82, @zero107, @mode74_1, @mode74_4, @mode74_2, @mode74_7, @mode74_10, @mode74_13⟩
end Go.Proofs.YtgjobbmbbedecaaDoor
