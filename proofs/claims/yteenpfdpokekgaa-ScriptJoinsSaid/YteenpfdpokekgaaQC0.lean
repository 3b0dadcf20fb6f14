/- A part of the proofs over this seat. -/
import Derived.Test.YteenpfdpokekgaaQAbsSim
import Derived.Test.YteenpfdpokekgaaProg
import Derived.KernelRfl
import Derived.IntWalk
namespace Go.Proofs.Yteenpfdpokekgaa
open Go Go.Abs Go.Proofs
set_option maxRecDepth 100000
set_option linter.unusedVariables false
theorem agg22 : aggT Try.prog 22 = some false := by kernel_rfl
theorem agg24 : aggT Try.prog 24 = some false := by kernel_rfl
theorem agg25 : aggT Try.prog 25 = some false := by kernel_rfl
theorem agg27 : aggT Try.prog 27 = some true := by kernel_rfl
theorem agg28 : aggT Try.prog 28 = some false := by kernel_rfl
theorem agg3 : aggT Try.prog 3 = some false := by kernel_rfl
theorem agg38 : aggT Try.prog 38 = some true := by kernel_rfl
theorem agg40 : aggT Try.prog 40 = some true := by kernel_rfl
theorem agg5 : aggT Try.prog 5 = some false := by kernel_rfl
theorem bytes3 : Try.prog.bytesOf 3 = 8 := by kernel_rfl
theorem bytes40 : Try.prog.bytesOf 40 = 48 := by kernel_rfl
theorem bytes5 : Try.prog.bytesOf 5 = 1 := by kernel_rfl
theorem call10 : callable Try.prog 10 = true := by kernel_rfl
theorem call11 : callable Try.prog 11 = true := by kernel_rfl
theorem call12 : callable Try.prog 12 = true := by kernel_rfl
theorem call13 : callable Try.prog 13 = true := by kernel_rfl
theorem call14 : callable Try.prog 14 = true := by kernel_rfl
theorem call17 : callable Try.prog 17 = true := by kernel_rfl
theorem call18 : callable Try.prog 18 = true := by kernel_rfl
theorem call19 : callable Try.prog 19 = true := by kernel_rfl
theorem call23 : callable Try.prog 23 = true := by kernel_rfl
theorem call26 : callable Try.prog 26 = true := by kernel_rfl
theorem call27 : callable Try.prog 27 = true := by kernel_rfl
theorem call28 : callable Try.prog 28 = true := by kernel_rfl
theorem call29 : callable Try.prog 29 = true := by kernel_rfl
theorem call3 : callable Try.prog 3 = true := by kernel_rfl
theorem call30 : callable Try.prog 30 = true := by kernel_rfl
theorem call31 : callable Try.prog 31 = true := by kernel_rfl
theorem call32 : callable Try.prog 32 = true := by kernel_rfl
theorem call33 : callable Try.prog 33 = true := by kernel_rfl
theorem call4 : callable Try.prog 4 = true := by kernel_rfl
theorem call7 : callable Try.prog 7 = true := by kernel_rfl
theorem call8 : callable Try.prog 8 = true := by kernel_rfl
theorem call9 : callable Try.prog 9 = true := by kernel_rfl
theorem eql40 : eqLay Try.prog 40 = some [(0, .i), (1, .i), (2, .i), (3, .i), (4, .i), (5, .i)] := by kernel_rfl
theorem field27_0 : fieldT Try.prog 27 0 = some (0, 24) := by kernel_rfl
theorem field27_1 : fieldT Try.prog 27 1 = some (1, 25) := by kernel_rfl
theorem field38_0 : fieldT Try.prog 38 0 = some (0, 3) := by kernel_rfl
theorem field38_1 : fieldT Try.prog 38 1 = some (1, 3) := by kernel_rfl
theorem field38_2 : fieldT Try.prog 38 2 = some (2, 3) := by kernel_rfl
theorem field40_0 : fieldT Try.prog 40 0 = some (0, 3) := by kernel_rfl
theorem field40_1 : fieldT Try.prog 40 1 = some (1, 3) := by kernel_rfl
theorem field40_2 : fieldT Try.prog 40 2 = some (2, 3) := by kernel_rfl
theorem field40_3 : fieldT Try.prog 40 3 = some (3, 38) := by kernel_rfl
theorem field48_0 : fieldT Try.prog 48 0 = some (0, 22) := by kernel_rfl
theorem field48_1 : fieldT Try.prog 48 1 = some (1, 3) := by kernel_rfl
theorem field48_2 : fieldT Try.prog 48 2 = some (2, 28) := by kernel_rfl
theorem ix22 : ixT Try.prog 22 = .sl 5 := by kernel_rfl
theorem ix24 : ixT Try.prog 24 = .sl 40 := by kernel_rfl
theorem ix25 : ixT Try.prog 25 = .sl 3 := by kernel_rfl
theorem ix9 : ixT Try.prog 9 = .str := by kernel_rfl
theorem lay27 : layT Try.prog 27 = some ([.nils, .nils], .st [(0, 1), (1, 1)]) := by kernel_rfl
theorem lay40 : layT Try.prog 40 = some ([(.int .i64 0), (.int .i64 0), (.int .i64 0), (.int .i64 0), (.int .i64 0), (.int .i64 0)], .st [(0, 1), (1, 1), (2, 1), (3, 3)]) := by kernel_rfl
theorem lay48 : layT Try.prog 48 = some ([.nils, (.int .i64 0), (.int .i64 0)], .st [(0, 1), (1, 1), (2, 1)]) := by kernel_rfl
theorem size22 : sizeT Try.prog 22 = 1 := by kernel_rfl
theorem size24 : sizeT Try.prog 24 = 1 := by kernel_rfl
theorem size25 : sizeT Try.prog 25 = 1 := by kernel_rfl
theorem size27 : sizeT Try.prog 27 = 2 := by kernel_rfl
theorem size28 : sizeT Try.prog 28 = 1 := by kernel_rfl
theorem size3 : sizeT Try.prog 3 = 1 := by kernel_rfl
theorem size38 : sizeT Try.prog 38 = 3 := by kernel_rfl
theorem size40 : sizeT Try.prog 40 = 6 := by kernel_rfl
theorem size48 : sizeT Try.prog 48 = 3 := by kernel_rfl
theorem size5 : sizeT Try.prog 5 = 1 := by kernel_rfl
theorem tk22 : tk Try.prog 22 = .slice 5 := by kernel_rfl
theorem tk24 : tk Try.prog 24 = .slice 40 := by kernel_rfl
theorem tk25 : tk Try.prog 25 = .slice 3 := by kernel_rfl
theorem tk28 : tk Try.prog 28 = .int .i64 := by kernel_rfl
theorem tk3 : tk Try.prog 3 = .int .i64 := by kernel_rfl
theorem tk40 : tk Try.prog 40 = .agg := by kernel_rfl
theorem tk5 : tk Try.prog 5 = .int .u8 := by kernel_rfl
theorem tk9 : tk Try.prog 9 = .str := by kernel_rfl
theorem zero27 : zeroT Try.prog 27 = (.agg [.nils, .nils]) := by kernel_rfl
theorem zero3 : zeroT Try.prog 3 = (.int .i64 0) := by kernel_rfl
theorem zero40 : zeroT Try.prog 40 = (.agg [(.int .i64 0), (.int .i64 0), (.int .i64 0), (.int .i64 0), (.int .i64 0), (.int .i64 0)]) := by kernel_rfl
theorem zero5 : zeroT Try.prog 5 = (.int .u8 0) := by kernel_rfl
theorem room3 (n : Nat) : elemOk Try.prog 3 n = (decide (n * 8 ≤ 70368744177664) && decide (n ≤ 4611686018427387904)) := by
  have h1 : (Try.prog.cellsOf 3 != 0 && okV (zeroT Try.prog 3) && (zeroT Try.prog 3).width == sizeT Try.prog 3) = true := by kernel_rfl
  unfold elemOk
  rw [h1, bytes3]; rfl
theorem room40 (n : Nat) : elemOk Try.prog 40 n = (decide (n * 48 ≤ 70368744177664) && decide (n ≤ 4611686018427387904)) := by
  have h1 : (Try.prog.cellsOf 40 != 0 && okV (zeroT Try.prog 40) && (zeroT Try.prog 40).width == sizeT Try.prog 40) = true := by kernel_rfl
  unfold elemOk
  rw [h1, bytes40]; rfl
theorem room5 (n : Nat) : elemOk Try.prog 5 n = (decide (n * 1 ≤ 70368744177664) && decide (n ≤ 4611686018427387904)) := by
  have h1 : (Try.prog.cellsOf 5 != 0 && okV (zeroT Try.prog 5) && (zeroT Try.prog 5).width == sizeT Try.prog 5) = true := by kernel_rfl
  unfold elemOk
  rw [h1, bytes5]; rfl
def notes : Notes where
 kill f r := match f, r with
  | 4, 8 => [0, 2, 6, 7, 8, 9, 10, 11, 12, 13, 14, 15, 16, 17, 18, 19, 20, 21, 22, 23, 24, 25, 26, 27, 28, 29, 30, 31, 32, 33, 34, 35, 36, 37, 38, 39, 40, 41, 42, 43, 44, 45, 46, 47, 48, 49, 50, 51, 52, 53, 54, 55, 56, 57, 58, 59, 60, 61, 62, 63, 64, 65, 66, 67, 68, 69, 70, 71, 72, 73, 74, 75, 76, 77, 78, 79, 80, 81, 82, 83, 84]
  | 4, 14 => [0, 2, 5, 7, 8, 9, 10, 11, 12, 13, 14, 15, 16, 17, 18, 19, 20, 21, 22, 23, 24, 25, 26, 27, 28, 29, 30, 31, 32, 33, 34, 35, 36, 37, 38, 39, 40, 41, 42, 43, 44, 45, 46, 47, 48, 49, 50, 51, 52, 53, 54, 55, 56, 57, 58, 59, 60, 61, 62, 63, 64, 65, 66, 67, 68, 69, 70, 71, 72, 73, 74, 75, 76, 77, 78, 79, 80, 81, 82, 83, 84]
  | 8, 4 => [1, 3, 4, 6, 7, 8, 9, 10, 11, 12, 13, 14, 15, 16, 17, 18, 19, 20, 21, 22, 23, 24, 25, 26, 27, 28, 29, 30, 31, 32, 33, 34, 35, 36, 37, 38, 39, 40, 41, 42, 43, 44, 45]
  | 10, 4 => [0, 1, 5, 6, 8, 9, 10, 11, 12, 13, 14, 15, 16, 17, 18, 19, 20, 21, 22, 23, 24, 25, 26, 27, 28, 29, 30, 31, 32, 33, 34, 35, 36, 37, 38, 39, 40, 41, 42, 43, 44, 45, 46, 47, 48, 49, 50, 51, 52, 53, 54, 55, 56, 57, 58, 59, 60, 61, 62, 63, 64, 65, 66, 67, 68, 69]
  | 10, 12 => [0, 1, 2, 5, 6, 7, 8, 9, 11, 12, 13, 14, 15, 16, 17, 18, 19, 20, 21, 22, 23, 24, 25, 26, 27, 28, 29, 30, 31, 32, 33, 34, 35, 36, 37, 38, 39, 40, 41, 42, 43, 44, 45, 46, 47, 48, 49, 50, 51, 52, 53, 54, 55, 56, 57, 58, 59, 60, 61, 62, 63, 64, 65, 66, 67, 68, 69]
  | 11, 3 => [0, 1, 2, 4, 5, 6, 10, 11, 12, 13, 14, 15, 16, 17, 18, 19]
  | 13, 3 => [0, 4, 5, 6, 10, 11, 12, 13, 14, 15, 16, 17, 18, 19, 20, 21, 22, 23, 24, 25, 26, 27]
  | 14, 3 => [0, 5, 6, 7, 8, 9, 10, 11, 12, 13, 14, 15, 16, 17, 18, 19, 20, 21, 22, 23, 24, 25, 26, 27, 28, 29, 30, 31, 32, 33, 34]
  | 27, 1 => [2, 3, 5, 6, 7, 8, 9, 10, 11, 12, 13, 14, 15, 16, 17, 18, 19, 20, 21, 22, 23, 24, 25, 26, 27, 28, 29, 30, 31, 32, 33, 34, 35, 36, 37, 38, 39, 40, 41, 42, 43, 44, 45, 46, 47, 48, 49, 50, 51, 52, 53, 54, 55, 56]
  | 29, 13 => [3, 4, 5, 6, 10, 11, 12, 13, 14, 15, 16, 17, 18, 19, 20, 21, 22, 23, 24, 25, 26, 27, 28, 29, 30, 31, 32, 33, 34, 35, 36, 37, 38, 39, 40, 41, 42, 43, 44, 45, 46, 47, 48, 49, 50, 51, 52, 53, 54, 55, 56, 57, 58, 59, 60, 61, 62, 63, 64, 65, 66, 67, 68, 69, 70, 71, 72, 73, 74, 75, 76, 77, 78, 79, 80, 81, 82, 83, 84, 85, 86, 87, 88, 89, 90, 91, 92, 93, 94, 95, 96, 97, 98, 99, 100, 101, 102, 103, 104, 105, 106, 107, 108, 109, 110, 111, 112, 113, 114, 115, 116, 117, 118, 119, 120, 121, 122, 123, 124, 125, 126, 127, 128, 129, 130, 131, 132, 133, 134, 135, 136, 137, 138, 139, 140, 141, 142, 143, 144, 145, 146, 147]
  | _, _ => []
 grow f r := match f, r with

  | _, _ => []
 mode f d := match f, d with
  | 3, 37 => .imm
  | 3, 39 => .imm
  | 3, 41 => .heap
  | 3, 69 => .imm
  | 3, 72 => .imm
  | 3, 75 => .heap
  | 3, 76 => .imm
  | 3, 79 => .imm
  | 3, 82 => .heap
  | 4, 10 => .imm
  | 4, 13 => .heap
  | 4, 14 => .imm
  | 4, 17 => .heap
  | 7, 8 => .heap
  | 7, 15 => .heap
  | 8, 2 => .heap
  | 8, 12 => .heap
  | 10, 9 => .heap
  | 13, 20 => .heap
  | 14, 5 => .imm
  | 14, 8 => .heap
  | 14, 31 => .imm
  | 14, 32 => .heap
  | 17, 46 => .heap
  | 17, 51 => .heap
  | 17, 72 => .heap
  | 17, 140 => .heap
  | 17, 164 => .heap
  | 19, 5 => .imm
  | 19, 7 => .heap
  | _, _ => .priv
 pure f := match f with
  | 7 => true
  | _ => false
theorem gl_none : notes.gl = fun _ => .undef := rfl
theorem mode3_23 : notes.mode 3 23 = .priv := rfl
theorem mode3_26 : notes.mode 3 26 = .priv := rfl
theorem mode3_27 : notes.mode 3 27 = .priv := rfl
theorem mode3_28 : notes.mode 3 28 = .priv := rfl
theorem mode3_29 : notes.mode 3 29 = .priv := rfl
theorem mode3_5 : notes.mode 3 5 = .priv := rfl
theorem mode3_32 : notes.mode 3 32 = .priv := rfl
theorem mode3_33 : notes.mode 3 33 = .priv := rfl
theorem mode3_34 : notes.mode 3 34 = .priv := rfl
theorem mode3_35 : notes.mode 3 35 = .priv := rfl
theorem mode3_8 : notes.mode 3 8 = .priv := rfl
theorem mode3_37 : notes.mode 3 37 = .imm := rfl
theorem mode3_39 : notes.mode 3 39 = .imm := rfl
theorem mode3_41 : notes.mode 3 41 = .heap := rfl
theorem mode3_42 : notes.mode 3 42 = .priv := rfl
theorem mode3_43 : notes.mode 3 43 = .priv := rfl
theorem mode3_44 : notes.mode 3 44 = .priv := rfl
theorem mode3_45 : notes.mode 3 45 = .priv := rfl
theorem mode3_11 : notes.mode 3 11 = .priv := rfl
theorem mode3_47 : notes.mode 3 47 = .priv := rfl
theorem mode3_49 : notes.mode 3 49 = .priv := rfl
theorem mode3_51 : notes.mode 3 51 = .priv := rfl
theorem mode3_54 : notes.mode 3 54 = .priv := rfl
theorem mode3_56 : notes.mode 3 56 = .priv := rfl
theorem mode3_67 : notes.mode 3 67 = .priv := rfl
theorem mode3_69 : notes.mode 3 69 = .imm := rfl
theorem mode3_72 : notes.mode 3 72 = .imm := rfl
theorem mode3_75 : notes.mode 3 75 = .heap := rfl
theorem mode3_76 : notes.mode 3 76 = .imm := rfl
theorem mode3_79 : notes.mode 3 79 = .imm := rfl
theorem mode3_82 : notes.mode 3 82 = .heap := rfl
theorem mode3_14 : notes.mode 3 14 = .priv := rfl
theorem mode3_85 : notes.mode 3 85 = .priv := rfl
theorem mode3_99 : notes.mode 3 99 = .priv := rfl
theorem mode3_103 : notes.mode 3 103 = .priv := rfl
theorem mode3_105 : notes.mode 3 105 = .priv := rfl
theorem mode3_107 : notes.mode 3 107 = .priv := rfl
theorem mode3_112 : notes.mode 3 112 = .priv := rfl
theorem f3 : Try.prog.funcs[3]? = some Try.f3 := by kernel_rfl
theorem r3 : Try.f3.results.toList = [.tmp 4] := rfl
theorem n3 : Try.f3.ntmps = 114 := rfl
theorem b3 : Try.f3.body = some (bodyOf Try.f3) := rfl
def alts3_10 : List (Nat × Nat × Nat) := [(0, 1, 0), (2, 1, 0), (3, 1, 0), (5, 0, 0), (5, 1, 0), (5, 1, 1), (6, 1, 1), (7, 0, 0), (7, 0, 1), (7, 1, 0), (7, 1, 1), (7, 1, 2), (9, 0, 0), (9, 0, 1), (9, 1, 0), (9, 1, 1), (9, 1, 2), (10, 1, 2), (12, 0, 0), (12, 0, 1), (12, 0, 2), (12, 1, 0), (12, 1, 1), (12, 1, 2), (12, 1, 3), (13, 1, 3), (14, 1, 4), (15, 0, 0), (15, 0, 1), (15, 0, 2), (15, 0, 3)]
def alts3_11 : List (Nat × Nat × Nat) := [(20, 0, 2), (22, 0, 2), (22, 0, 3)]
theorem kill4_8 : notes.kill 4 8 = [0, 2, 6, 7, 8, 9, 10, 11, 12, 13, 14, 15, 16, 17, 18, 19, 20, 21, 22, 23, 24, 25, 26, 27, 28, 29, 30, 31, 32, 33, 34, 35, 36, 37, 38, 39, 40, 41, 42, 43, 44, 45, 46, 47, 48, 49, 50, 51, 52, 53, 54, 55, 56, 57, 58, 59, 60, 61, 62, 63, 64, 65, 66, 67, 68, 69, 70, 71, 72, 73, 74, 75, 76, 77, 78, 79, 80, 81, 82, 83, 84] := rfl
theorem grow4_8 : notes.grow 4 8 = [] := rfl
/-- f4, loop at region 8: lives 1:s 3:c 4:a 5:i -/
def L4_8 (s1 s3 s4 s5 : Slot) : List Slot := [.v .undef, s1, .v .undef, s3, s4, s5, .v .undef, .v .undef, .v .undef, .v .undef, .v .undef, .v .undef, .v .undef, .v .undef, .v .undef, .v .undef, .v .undef, .v .undef, .v .undef, .v .undef, .v .undef, .v .undef, .v .undef, .v .undef, .v .undef, .v .undef, .v .undef, .v .undef, .v .undef, .v .undef, .v .undef, .v .undef, .v .undef, .v .undef, .v .undef, .v .undef, .v .undef, .v .undef, .v .undef, .v .undef, .v .undef, .v .undef, .v .undef, .v .undef, .v .undef, .v .undef, .v .undef, .v .undef, .v .undef, .v .undef, .v .undef, .v .undef, .v .undef, .v .undef, .v .undef, .v .undef, .v .undef, .v .undef, .v .undef, .v .undef, .v .undef, .v .undef, .v .undef, .v .undef, .v .undef, .v .undef, .v .undef, .v .undef, .v .undef, .v .undef, .v .undef, .v .undef, .v .undef, .v .undef, .v .undef, .v .undef, .v .undef, .v .undef, .v .undef, .v .undef, .v .undef, .v .undef, .v .undef, .v .undef, .v .undef]
theorem kill4_14 : notes.kill 4 14 = [0, 2, 5, 7, 8, 9, 10, 11, 12, 13, 14, 15, 16, 17, 18, 19, 20, 21, 22, 23, 24, 25, 26, 27, 28, 29, 30, 31, 32, 33, 34, 35, 36, 37, 38, 39, 40, 41, 42, 43, 44, 45, 46, 47, 48, 49, 50, 51, 52, 53, 54, 55, 56, 57, 58, 59, 60, 61, 62, 63, 64, 65, 66, 67, 68, 69, 70, 71, 72, 73, 74, 75, 76, 77, 78, 79, 80, 81, 82, 83, 84] := rfl
theorem grow4_14 : notes.grow 4 14 = [] := rfl
/-- f4, loop at region 14: lives 1:s 3:c 4:a 6:i -/
def L4_14 (s1 s3 s4 s6 : Slot) : List Slot := [.v .undef, s1, .v .undef, s3, s4, .v .undef, s6, .v .undef, .v .undef, .v .undef, .v .undef, .v .undef, .v .undef, .v .undef, .v .undef, .v .undef, .v .undef, .v .undef, .v .undef, .v .undef, .v .undef, .v .undef, .v .undef, .v .undef, .v .undef, .v .undef, .v .undef, .v .undef, .v .undef, .v .undef, .v .undef, .v .undef, .v .undef, .v .undef, .v .undef, .v .undef, .v .undef, .v .undef, .v .undef, .v .undef, .v .undef, .v .undef, .v .undef, .v .undef, .v .undef, .v .undef, .v .undef, .v .undef, .v .undef, .v .undef, .v .undef, .v .undef, .v .undef, .v .undef, .v .undef, .v .undef, .v .undef, .v .undef, .v .undef, .v .undef, .v .undef, .v .undef, .v .undef, .v .undef, .v .undef, .v .undef, .v .undef, .v .undef, .v .undef, .v .undef, .v .undef, .v .undef, .v .undef, .v .undef, .v .undef, .v .undef, .v .undef, .v .undef, .v .undef, .v .undef, .v .undef, .v .undef, .v .undef, .v .undef, .v .undef]
theorem mode4_1 : notes.mode 4 1 = .priv := rfl
theorem mode4_8 : notes.mode 4 8 = .priv := rfl
theorem mode4_9 : notes.mode 4 9 = .priv := rfl
theorem mode4_10 : notes.mode 4 10 = .imm := rfl
theorem mode4_13 : notes.mode 4 13 = .heap := rfl
theorem mode4_14 : notes.mode 4 14 = .imm := rfl
theorem mode4_17 : notes.mode 4 17 = .heap := rfl
theorem mode4_3 : notes.mode 4 3 = .priv := rfl
theorem mode4_20 : notes.mode 4 20 = .priv := rfl
theorem mode4_4 : notes.mode 4 4 = .priv := rfl
theorem mode4_23 : notes.mode 4 23 = .priv := rfl
theorem mode4_24 : notes.mode 4 24 = .priv := rfl
theorem mode4_29 : notes.mode 4 29 = .priv := rfl
theorem mode4_34 : notes.mode 4 34 = .priv := rfl
theorem mode4_36 : notes.mode 4 36 = .priv := rfl
theorem mode4_74 : notes.mode 4 74 = .priv := rfl
theorem mode4_77 : notes.mode 4 77 = .priv := rfl
theorem mode4_79 : notes.mode 4 79 = .priv := rfl
theorem mode4_80 : notes.mode 4 80 = .priv := rfl
theorem mode4_83 : notes.mode 4 83 = .priv := rfl
theorem f4 : Try.prog.funcs[4]? = some Try.f4 := by kernel_rfl
theorem r4 : Try.f4.results.toList = [.tmp 2] := rfl
theorem n4 : Try.f4.ntmps = 85 := rfl
theorem b4 : Try.f4.body = some (bodyOf Try.f4) := rfl
def alts4_3 : List (Nat × Nat × Nat) := [(0, 1, 0), (2, 1, 0), (3, 1, 0), (4, 0, 0), (4, 1, 0), (4, 1, 1), (6, 0, 0), (6, 1, 0), (6, 1, 1), (7, 1, 1), (8, 1, 2), (9, 0, 0), (9, 0, 1)]
def alts4_5 : List (Nat × Nat × Nat) := [(0, 0, 1), (14, 0, 3)]
def alts4_17 : List (Nat × Nat × Nat) := [(6, 0, 1)]
theorem mode7_8 : notes.mode 7 8 = .heap := rfl
theorem mode7_9 : notes.mode 7 9 = .priv := rfl
theorem mode7_10 : notes.mode 7 10 = .priv := rfl
theorem mode7_11 : notes.mode 7 11 = .priv := rfl
theorem mode7_12 : notes.mode 7 12 = .priv := rfl
theorem mode7_13 : notes.mode 7 13 = .priv := rfl
theorem mode7_1 : notes.mode 7 1 = .priv := rfl
theorem mode7_15 : notes.mode 7 15 = .heap := rfl
theorem mode7_16 : notes.mode 7 16 = .priv := rfl
theorem mode7_17 : notes.mode 7 17 = .priv := rfl
theorem mode7_18 : notes.mode 7 18 = .priv := rfl
theorem mode7_19 : notes.mode 7 19 = .priv := rfl
theorem mode7_20 : notes.mode 7 20 = .priv := rfl
theorem mode7_4 : notes.mode 7 4 = .priv := rfl
theorem mode7_22 : notes.mode 7 22 = .priv := rfl
theorem mode7_58 : notes.mode 7 58 = .priv := rfl
theorem mode7_67 : notes.mode 7 67 = .priv := rfl
theorem f7 : Try.prog.funcs[7]? = some Try.f7 := by kernel_rfl
theorem r7 : Try.f7.results.toList = [.tmp 0] := rfl
theorem n7 : Try.f7.ntmps = 70 := rfl
theorem b7 : Try.f7.body = some (bodyOf Try.f7) := rfl
theorem kill8_4 : notes.kill 8 4 = [1, 3, 4, 6, 7, 8, 9, 10, 11, 12, 13, 14, 15, 16, 17, 18, 19, 20, 21, 22, 23, 24, 25, 26, 27, 28, 29, 30, 31, 32, 33, 34, 35, 36, 37, 38, 39, 40, 41, 42, 43, 44, 45] := rfl
theorem grow8_4 : notes.grow 8 4 = [] := rfl
/-- f8, loop at region 4: lives 0:b 2:s 5:r -/
def L8_4 (s0 s2 s5 : Slot) : List Slot := [s0, .v .undef, s2, .v .undef, .v .undef, s5, .v .undef, .v .undef, .v .undef, .v .undef, .v .undef, .v .undef, .v .undef, .v .undef, .v .undef, .v .undef, .v .undef, .v .undef, .v .undef, .v .undef, .v .undef, .v .undef, .v .undef, .v .undef, .v .undef, .v .undef, .v .undef, .v .undef, .v .undef, .v .undef, .v .undef, .v .undef, .v .undef, .v .undef, .v .undef, .v .undef, .v .undef, .v .undef, .v .undef, .v .undef, .v .undef, .v .undef, .v .undef, .v .undef, .v .undef, .v .undef]
theorem mode8_2 : notes.mode 8 2 = .heap := rfl
theorem mode8_12 : notes.mode 8 12 = .heap := rfl
theorem mode8_28 : notes.mode 8 28 = .priv := rfl
theorem f8 : Try.prog.funcs[8]? = some Try.f8 := by kernel_rfl
theorem r8 : Try.f8.results.toList = [.cell 2 27, .tmp 3, .tmp 4] := rfl
theorem n8 : Try.f8.ntmps = 46 := rfl
theorem b8 : Try.f8.body = some (bodyOf Try.f8) := rfl
def alts8_7 : List (Nat × Nat × Nat) := []
theorem f9 : Try.prog.funcs[9]? = some Try.f9 := by kernel_rfl
theorem r9 : Try.f9.results.toList = [.tmp 2] := rfl
theorem n9 : Try.f9.ntmps = 4 := rfl
theorem b9 : Try.f9.body = some (bodyOf Try.f9) := rfl
theorem kill10_4 : notes.kill 10 4 = [0, 1, 5, 6, 8, 9, 10, 11, 12, 13, 14, 15, 16, 17, 18, 19, 20, 21, 22, 23, 24, 25, 26, 27, 28, 29, 30, 31, 32, 33, 34, 35, 36, 37, 38, 39, 40, 41, 42, 43, 44, 45, 46, 47, 48, 49, 50, 51, 52, 53, 54, 55, 56, 57, 58, 59, 60, 61, 62, 63, 64, 65, 66, 67, 68, 69] := rfl
theorem grow10_4 : notes.grow 10 4 = [] := rfl
/-- f10, loop at region 4: lives 2:plain 3:a 4:b 7:i -/
def L10_4 (s2 s3 s4 s7 : Slot) : List Slot := [.v .undef, .v .undef, s2, s3, s4, .v .undef, .v .undef, s7, .v .undef, .v .undef, .v .undef, .v .undef, .v .undef, .v .undef, .v .undef, .v .undef, .v .undef, .v .undef, .v .undef, .v .undef, .v .undef, .v .undef, .v .undef, .v .undef, .v .undef, .v .undef, .v .undef, .v .undef, .v .undef, .v .undef, .v .undef, .v .undef, .v .undef, .v .undef, .v .undef, .v .undef, .v .undef, .v .undef, .v .undef, .v .undef, .v .undef, .v .undef, .v .undef, .v .undef, .v .undef, .v .undef, .v .undef, .v .undef, .v .undef, .v .undef, .v .undef, .v .undef, .v .undef, .v .undef, .v .undef, .v .undef, .v .undef, .v .undef, .v .undef, .v .undef, .v .undef, .v .undef, .v .undef, .v .undef, .v .undef, .v .undef, .v .undef, .v .undef, .v .undef, .v .undef]
theorem kill10_12 : notes.kill 10 12 = [0, 1, 2, 5, 6, 7, 8, 9, 11, 12, 13, 14, 15, 16, 17, 18, 19, 20, 21, 22, 23, 24, 25, 26, 27, 28, 29, 30, 31, 32, 33, 34, 35, 36, 37, 38, 39, 40, 41, 42, 43, 44, 45, 46, 47, 48, 49, 50, 51, 52, 53, 54, 55, 56, 57, 58, 59, 60, 61, 62, 63, 64, 65, 66, 67, 68, 69] := rfl
theorem grow10_12 : notes.grow 10 12 = [] := rfl
/-- f10, loop at region 12: lives 3:a 4:b 10:i -/
def L10_12 (s3 s4 s10 : Slot) : List Slot := [.v .undef, .v .undef, .v .undef, s3, s4, .v .undef, .v .undef, .v .undef, .v .undef, .v .undef, s10, .v .undef, .v .undef, .v .undef, .v .undef, .v .undef, .v .undef, .v .undef, .v .undef, .v .undef, .v .undef, .v .undef, .v .undef, .v .undef, .v .undef, .v .undef, .v .undef, .v .undef, .v .undef, .v .undef, .v .undef, .v .undef, .v .undef, .v .undef, .v .undef, .v .undef, .v .undef, .v .undef, .v .undef, .v .undef, .v .undef, .v .undef, .v .undef, .v .undef, .v .undef, .v .undef, .v .undef, .v .undef, .v .undef, .v .undef, .v .undef, .v .undef, .v .undef, .v .undef, .v .undef, .v .undef, .v .undef, .v .undef, .v .undef, .v .undef, .v .undef, .v .undef, .v .undef, .v .undef, .v .undef, .v .undef, .v .undef, .v .undef, .v .undef, .v .undef]
theorem mode10_3 : notes.mode 10 3 = .priv := rfl
theorem mode10_4 : notes.mode 10 4 = .priv := rfl
theorem mode10_8 : notes.mode 10 8 = .priv := rfl
theorem mode10_9 : notes.mode 10 9 = .heap := rfl
theorem mode10_46 : notes.mode 10 46 = .priv := rfl
theorem mode10_48 : notes.mode 10 48 = .priv := rfl
theorem f10 : Try.prog.funcs[10]? = some Try.f10 := by kernel_rfl
theorem r10 : Try.f10.results.toList = [.tmp 6] := rfl
theorem n10 : Try.f10.ntmps = 70 := rfl
theorem b10 : Try.f10.body = some (bodyOf Try.f10) := rfl
def alts10_6 : List (Nat × Nat × Nat) := [(1, 0, 1), (1, 1, 0), (1, 1, 1), (3, 0, 1), (3, 1, 0), (3, 1, 1), (4, 0, 1), (4, 1, 0), (4, 1, 1), (6, 0, 1), (6, 0, 2), (6, 1, 0), (6, 1, 1), (6, 1, 2), (6, 2, 0), (6, 2, 1), (6, 2, 2), (8, 0, 1), (8, 0, 2), (8, 1, 0), (8, 1, 1), (8, 1, 2), (8, 2, 0), (8, 2, 1), (8, 2, 2), (9, 0, 1), (9, 0, 2), (9, 1, 0), (9, 1, 1), (9, 1, 2), (9, 2, 0), (9, 2, 1), (9, 2, 2), (10, 0, 1), (11, 0, 0)]
def alts10_8 : List (Nat × Nat × Nat) := [(2, 0, 0)]
def alts10_14 : List (Nat × Nat × Nat) := []
theorem kill11_3 : notes.kill 11 3 = [0, 1, 2, 4, 5, 6, 10, 11, 12, 13, 14, 15, 16, 17, 18, 19] := rfl
theorem grow11_3 : notes.grow 11 3 = [] := rfl
/-- f11, loop at region 3: lives 3:n 7: 8: 9: -/
def L11_3 (s3 s7 s8 s9 : Slot) : List Slot := [.v .undef, .v .undef, .v .undef, s3, .v .undef, .v .undef, .v .undef, s7, s8, s9, .v .undef, .v .undef, .v .undef, .v .undef, .v .undef, .v .undef, .v .undef, .v .undef, .v .undef, .v .undef]
theorem mode11_1 : notes.mode 11 1 = .priv := rfl
theorem mode11_5 : notes.mode 11 5 = .priv := rfl
theorem f11 : Try.prog.funcs[11]? = some Try.f11 := by kernel_rfl
theorem r11 : Try.f11.results.toList = [.tmp 2] := rfl
theorem n11 : Try.f11.ntmps = 20 := rfl
theorem b11 : Try.f11.body = some (bodyOf Try.f11) := rfl
theorem mode12_1 : notes.mode 12 1 = .priv := rfl
theorem f12 : Try.prog.funcs[12]? = some Try.f12 := by kernel_rfl
theorem r12 : Try.f12.results.toList = [.tmp 2] := rfl
theorem n12 : Try.f12.ntmps = 13 := rfl
theorem b12 : Try.f12.body = some (bodyOf Try.f12) := rfl
theorem kill13_3 : notes.kill 13 3 = [0, 4, 5, 6, 10, 11, 12, 13, 14, 15, 16, 17, 18, 19, 20, 21, 22, 23, 24, 25, 26, 27] := rfl
theorem grow13_3 : notes.grow 13 3 = [] := rfl
/-- f13, loop at region 3: lives 1:s 2: 3:out 7: 8: 9: -/
def L13_3 (s1 s2 s3 s7 s8 s9 : Slot) : List Slot := [.v .undef, s1, s2, s3, .v .undef, .v .undef, .v .undef, s7, s8, s9, .v .undef, .v .undef, .v .undef, .v .undef, .v .undef, .v .undef, .v .undef, .v .undef, .v .undef, .v .undef, .v .undef, .v .undef, .v .undef, .v .undef, .v .undef, .v .undef, .v .undef, .v .undef]
theorem mode13_1 : notes.mode 13 1 = .priv := rfl
theorem mode13_2 : notes.mode 13 2 = .priv := rfl
theorem mode13_3 : notes.mode 13 3 = .priv := rfl
theorem mode13_5 : notes.mode 13 5 = .priv := rfl
theorem mode13_19 : notes.mode 13 19 = .priv := rfl
theorem mode13_20 : notes.mode 13 20 = .heap := rfl
theorem mode13_25 : notes.mode 13 25 = .priv := rfl
theorem f13 : Try.prog.funcs[13]? = some Try.f13 := by kernel_rfl
theorem r13 : Try.f13.results.toList = [.cell 2 27] := rfl
theorem n13 : Try.f13.ntmps = 28 := rfl
theorem b13 : Try.f13.body = some (bodyOf Try.f13) := rfl
theorem kill14_3 : notes.kill 14 3 = [0, 5, 6, 7, 8, 9, 10, 11, 12, 13, 14, 15, 16, 17, 18, 19, 20, 21, 22, 23, 24, 25, 26, 27, 28, 29, 30, 31, 32, 33, 34] := rfl
theorem grow14_3 : notes.grow 14 3 = [] := rfl
/-- f14, loop at region 3: lives 1:s 2: 3:out 4:i -/
def L14_3 (s1 s2 s3 s4 : Slot) : List Slot := [.v .undef, s1, s2, s3, s4, .v .undef, .v .undef, .v .undef, .v .undef, .v .undef, .v .undef, .v .undef, .v .undef, .v .undef, .v .undef, .v .undef, .v .undef, .v .undef, .v .undef, .v .undef, .v .undef, .v .undef, .v .undef, .v .undef, .v .undef, .v .undef, .v .undef, .v .undef, .v .undef, .v .undef, .v .undef, .v .undef, .v .undef, .v .undef, .v .undef]
theorem mode14_1 : notes.mode 14 1 = .priv := rfl
theorem mode14_2 : notes.mode 14 2 = .priv := rfl
theorem mode14_5 : notes.mode 14 5 = .imm := rfl
theorem mode14_8 : notes.mode 14 8 = .heap := rfl
theorem mode14_3 : notes.mode 14 3 = .priv := rfl
theorem mode14_31 : notes.mode 14 31 = .imm := rfl
theorem mode14_32 : notes.mode 14 32 = .heap := rfl
theorem f14 : Try.prog.funcs[14]? = some Try.f14 := by kernel_rfl
theorem r14 : Try.f14.results.toList = [.cell 2 27] := rfl
theorem n14 : Try.f14.ntmps = 35 := rfl
theorem b14 : Try.f14.body = some (bodyOf Try.f14) := rfl
def alts14_6 : List (Nat × Nat × Nat) := []
theorem mode17_6 : notes.mode 17 6 = .priv := rfl
theorem mode17_51 : notes.mode 17 51 = .heap := rfl
theorem mode17_52 : notes.mode 17 52 = .priv := rfl
theorem mode17_53 : notes.mode 17 53 = .priv := rfl
theorem mode17_55 : notes.mode 17 55 = .priv := rfl
theorem mode17_63 : notes.mode 17 63 = .priv := rfl
theorem mode17_65 : notes.mode 17 65 = .priv := rfl
theorem mode17_68 : notes.mode 17 68 = .priv := rfl
theorem mode17_72 : notes.mode 17 72 = .heap := rfl
theorem mode17_73 : notes.mode 17 73 = .priv := rfl
theorem mode17_74 : notes.mode 17 74 = .priv := rfl
theorem mode17_76 : notes.mode 17 76 = .priv := rfl
theorem mode17_101 : notes.mode 17 101 = .priv := rfl
theorem mode17_109 : notes.mode 17 109 = .priv := rfl
theorem mode17_111 : notes.mode 17 111 = .priv := rfl
theorem mode17_114 : notes.mode 17 114 = .priv := rfl
theorem mode17_118 : notes.mode 17 118 = .priv := rfl
theorem mode17_122 : notes.mode 17 122 = .priv := rfl
theorem mode17_126 : notes.mode 17 126 = .priv := rfl
theorem mode17_134 : notes.mode 17 134 = .priv := rfl
theorem mode17_136 : notes.mode 17 136 = .priv := rfl
theorem mode17_140 : notes.mode 17 140 = .heap := rfl
theorem mode17_141 : notes.mode 17 141 = .priv := rfl
theorem mode17_142 : notes.mode 17 142 = .priv := rfl
theorem mode17_144 : notes.mode 17 144 = .priv := rfl
theorem mode17_23 : notes.mode 17 23 = .priv := rfl
theorem mode17_31 : notes.mode 17 31 = .priv := rfl
theorem mode17_33 : notes.mode 17 33 = .priv := rfl
theorem mode17_45 : notes.mode 17 45 = .priv := rfl
theorem mode17_46 : notes.mode 17 46 = .heap := rfl
theorem mode17_146 : notes.mode 17 146 = .priv := rfl
theorem mode17_163 : notes.mode 17 163 = .priv := rfl
theorem mode17_164 : notes.mode 17 164 = .heap := rfl
theorem f17 : Try.prog.funcs[17]? = some Try.f17 := by kernel_rfl
theorem r17 : Try.f17.results.toList = [] := rfl
theorem n17 : Try.f17.ntmps = 167 := rfl
theorem b17 : Try.f17.body = some (bodyOf Try.f17) := rfl
def alts17_1 : List (Nat × Nat × Nat) := []
def alts17_15 : List (Nat × Nat × Nat) := []
def alts17_29 : List (Nat × Nat × Nat) := [(4, 0, 1)]
theorem mode18_1 : notes.mode 18 1 = .priv := rfl
theorem mode18_2 : notes.mode 18 2 = .priv := rfl
theorem f18 : Try.prog.funcs[18]? = some Try.f18 := by kernel_rfl
theorem r18 : Try.f18.results.toList = [.cell 2 40] := rfl
theorem n18 : Try.f18.ntmps = 25 := rfl
theorem b18 : Try.f18.body = some (bodyOf Try.f18) := rfl
theorem mode19_5 : notes.mode 19 5 = .imm := rfl
theorem mode19_7 : notes.mode 19 7 = .heap := rfl
theorem f19 : Try.prog.funcs[19]? = some Try.f19 := by kernel_rfl
theorem r19 : Try.f19.results.toList = [.tmp 2] := rfl
theorem n19 : Try.f19.ntmps = 8 := rfl
theorem b19 : Try.f19.body = some (bodyOf Try.f19) := rfl
theorem f23 : Try.prog.funcs[23]? = some Try.f23 := by kernel_rfl
theorem r23 : Try.f23.results.toList = [.tmp 6] := rfl
theorem n23 : Try.f23.ntmps = 15 := rfl
theorem b23 : Try.f23.body = some (bodyOf Try.f23) := rfl
theorem mode26_16 : notes.mode 26 16 = .priv := rfl
theorem f26 : Try.prog.funcs[26]? = some Try.f26 := by kernel_rfl
theorem r26 : Try.f26.results.toList = [.tmp 4] := rfl
theorem n26 : Try.f26.ntmps = 18 := rfl
theorem b26 : Try.f26.body = some (bodyOf Try.f26) := rfl
theorem kill27_1 : notes.kill 27 1 = [2, 3, 5, 6, 7, 8, 9, 10, 11, 12, 13, 14, 15, 16, 17, 18, 19, 20, 21, 22, 23, 24, 25, 26, 27, 28, 29, 30, 31, 32, 33, 34, 35, 36, 37, 38, 39, 40, 41, 42, 43, 44, 45, 46, 47, 48, 49, 50, 51, 52, 53, 54, 55, 56] := rfl
theorem grow27_1 : notes.grow 27 1 = [] := rfl
/-- f27, loop at region 1: lives 0:r 1:s 4:i -/
def L27_1 (s0 s1 s4 : Slot) : List Slot := [s0, s1, .v .undef, .v .undef, s4, .v .undef, .v .undef, .v .undef, .v .undef, .v .undef, .v .undef, .v .undef, .v .undef, .v .undef, .v .undef, .v .undef, .v .undef, .v .undef, .v .undef, .v .undef, .v .undef, .v .undef, .v .undef, .v .undef, .v .undef, .v .undef, .v .undef, .v .undef, .v .undef, .v .undef, .v .undef, .v .undef, .v .undef, .v .undef, .v .undef, .v .undef, .v .undef, .v .undef, .v .undef, .v .undef, .v .undef, .v .undef, .v .undef, .v .undef, .v .undef, .v .undef, .v .undef, .v .undef, .v .undef, .v .undef, .v .undef, .v .undef, .v .undef, .v .undef, .v .undef, .v .undef, .v .undef]
theorem mode27_49 : notes.mode 27 49 = .priv := rfl
theorem f27 : Try.prog.funcs[27]? = some Try.f27 := by kernel_rfl
theorem r27 : Try.f27.results.toList = [] := rfl
theorem n27 : Try.f27.ntmps = 57 := rfl
theorem b27 : Try.f27.body = some (bodyOf Try.f27) := rfl
def alts27_3 : List (Nat × Nat × Nat) := []
theorem mode28_7 : notes.mode 28 7 = .priv := rfl
theorem mode28_19 : notes.mode 28 19 = .priv := rfl
theorem f28 : Try.prog.funcs[28]? = some Try.f28 := by kernel_rfl
theorem r28 : Try.f28.results.toList = [] := rfl
theorem n28 : Try.f28.ntmps = 20 := rfl
theorem b28 : Try.f28.body = some (bodyOf Try.f28) := rfl
theorem kill29_13 : notes.kill 29 13 = [3, 4, 5, 6, 10, 11, 12, 13, 14, 15, 16, 17, 18, 19, 20, 21, 22, 23, 24, 25, 26, 27, 28, 29, 30, 31, 32, 33, 34, 35, 36, 37, 38, 39, 40, 41, 42, 43, 44, 45, 46, 47, 48, 49, 50, 51, 52, 53, 54, 55, 56, 57, 58, 59, 60, 61, 62, 63, 64, 65, 66, 67, 68, 69, 70, 71, 72, 73, 74, 75, 76, 77, 78, 79, 80, 81, 82, 83, 84, 85, 86, 87, 88, 89, 90, 91, 92, 93, 94, 95, 96, 97, 98, 99, 100, 101, 102, 103, 104, 105, 106, 107, 108, 109, 110, 111, 112, 113, 114, 115, 116, 117, 118, 119, 120, 121, 122, 123, 124, 125, 126, 127, 128, 129, 130, 131, 132, 133, 134, 135, 136, 137, 138, 139, 140, 141, 142, 143, 144, 145, 146, 147] := rfl
theorem grow29_13 : notes.grow 29 13 = [] := rfl
/-- f29, loop at region 13: lives 0:r 1:low 2:high 7:n 8:from 9:sign -/
def L29_13 (s0 s1 s2 s7 s8 s9 : Slot) : List Slot := [s0, s1, s2, .v .undef, .v .undef, .v .undef, .v .undef, s7, s8, s9, .v .undef, .v .undef, .v .undef, .v .undef, .v .undef, .v .undef, .v .undef, .v .undef, .v .undef, .v .undef, .v .undef, .v .undef, .v .undef, .v .undef, .v .undef, .v .undef, .v .undef, .v .undef, .v .undef, .v .undef, .v .undef, .v .undef, .v .undef, .v .undef, .v .undef, .v .undef, .v .undef, .v .undef, .v .undef, .v .undef, .v .undef, .v .undef, .v .undef, .v .undef, .v .undef, .v .undef, .v .undef, .v .undef, .v .undef, .v .undef, .v .undef, .v .undef, .v .undef, .v .undef, .v .undef, .v .undef, .v .undef, .v .undef, .v .undef, .v .undef, .v .undef, .v .undef, .v .undef, .v .undef, .v .undef, .v .undef, .v .undef, .v .undef, .v .undef, .v .undef, .v .undef, .v .undef, .v .undef, .v .undef, .v .undef, .v .undef, .v .undef, .v .undef, .v .undef, .v .undef, .v .undef, .v .undef, .v .undef, .v .undef, .v .undef, .v .undef, .v .undef, .v .undef, .v .undef, .v .undef, .v .undef, .v .undef, .v .undef, .v .undef, .v .undef, .v .undef, .v .undef, .v .undef, .v .undef, .v .undef, .v .undef, .v .undef, .v .undef, .v .undef, .v .undef, .v .undef, .v .undef, .v .undef, .v .undef, .v .undef, .v .undef, .v .undef, .v .undef, .v .undef, .v .undef, .v .undef, .v .undef, .v .undef, .v .undef, .v .undef, .v .undef, .v .undef, .v .undef, .v .undef, .v .undef, .v .undef, .v .undef, .v .undef, .v .undef, .v .undef, .v .undef, .v .undef, .v .undef, .v .undef, .v .undef, .v .undef, .v .undef, .v .undef, .v .undef, .v .undef, .v .undef, .v .undef, .v .undef, .v .undef, .v .undef, .v .undef, .v .undef, .v .undef]
theorem mode29_54 : notes.mode 29 54 = .priv := rfl
theorem mode29_78 : notes.mode 29 78 = .priv := rfl
theorem mode29_98 : notes.mode 29 98 = .priv := rfl
theorem mode29_104 : notes.mode 29 104 = .priv := rfl
theorem mode29_106 : notes.mode 29 106 = .priv := rfl
theorem mode29_129 : notes.mode 29 129 = .priv := rfl
theorem mode29_139 : notes.mode 29 139 = .priv := rfl
theorem mode29_144 : notes.mode 29 144 = .priv := rfl
theorem f29 : Try.prog.funcs[29]? = some Try.f29 := by kernel_rfl
theorem r29 : Try.f29.results.toList = [.tmp 6] := rfl
theorem n29 : Try.f29.ntmps = 148 := rfl
theorem b29 : Try.f29.body = some (bodyOf Try.f29) := rfl
def alts29_4 : List (Nat × Nat × Nat) := []
def alts29_7 : List (Nat × Nat × Nat) := []
def alts29_9 : List (Nat × Nat × Nat) := []
def alts29_16 : List (Nat × Nat × Nat) := []
theorem mode30_8 : notes.mode 30 8 = .priv := rfl
theorem mode30_12 : notes.mode 30 12 = .priv := rfl
theorem f30 : Try.prog.funcs[30]? = some Try.f30 := by kernel_rfl
theorem r30 : Try.f30.results.toList = [.tmp 6] := rfl
theorem n30 : Try.f30.ntmps = 13 := rfl
theorem b30 : Try.f30.body = some (bodyOf Try.f30) := rfl
theorem mode31_6 : notes.mode 31 6 = .priv := rfl
theorem mode31_8 : notes.mode 31 8 = .priv := rfl
theorem f31 : Try.prog.funcs[31]? = some Try.f31 := by kernel_rfl
theorem r31 : Try.f31.results.toList = [.tmp 4] := rfl
theorem n31 : Try.f31.ntmps = 10 := rfl
theorem b31 : Try.f31.body = some (bodyOf Try.f31) := rfl
theorem f32 : Try.prog.funcs[32]? = some Try.f32 := by kernel_rfl
theorem r32 : Try.f32.results.toList = [] := rfl
theorem n32 : Try.f32.ntmps = 19 := rfl
theorem b32 : Try.f32.body = some (bodyOf Try.f32) := rfl
theorem f33 : Try.prog.funcs[33]? = some Try.f33 := by kernel_rfl
theorem r33 : Try.f33.results.toList = [.tmp 2] := rfl
theorem n33 : Try.f33.ntmps = 39 := rfl
theorem b33 : Try.f33.body = some (bodyOf Try.f33) := rfl
def alts33_1 : List (Nat × Nat × Nat) := []
theorem F3 : type_of% @agg24 ∧ type_of% @agg25 ∧ type_of% @agg27 ∧ type_of% @call10 ∧ type_of% @call11 ∧ type_of% @call7 ∧ type_of% @call8 ∧ type_of% @call9 ∧ type_of% @field27_0 ∧ type_of% @field27_1 ∧ type_of% @ix22 ∧ type_of% @size5 ∧ type_of% @zero5 ∧ type_of% @room5 ∧ type_of% @bytes5 ∧ type_of% @ix24 ∧ type_of% @size40 ∧ type_of% @zero40 ∧ type_of% @room40 ∧ type_of% @bytes40 ∧ type_of% @ix25 ∧ type_of% @size3 ∧ type_of% @zero3 ∧ type_of% @room3 ∧ type_of% @bytes3 ∧ type_of% @lay27 ∧ type_of% @size24 ∧ type_of% @size25 ∧ type_of% @size27 ∧ type_of% @tk22 ∧ type_of% @tk3 ∧ type_of% @zero27 ∧ type_of% @mode3_23 ∧ type_of% @mode3_26 ∧ type_of% @mode3_27 ∧ type_of% @mode3_28 ∧ type_of% @mode3_29 ∧ type_of% @mode3_5 ∧ type_of% @mode3_32 ∧ type_of% @mode3_33 ∧ type_of% @mode3_34 ∧ type_of% @mode3_35 ∧ type_of% @mode3_8 ∧ type_of% @mode3_37 ∧ type_of% @mode3_39 ∧ type_of% @mode3_41 ∧ type_of% @mode3_42 ∧ type_of% @mode3_43 ∧ type_of% @mode3_44 ∧ type_of% @mode3_45 ∧ type_of% @mode3_11 ∧ type_of% @mode3_47 ∧ type_of% @mode3_49 ∧ type_of% @mode3_51 ∧ type_of% @mode3_54 ∧ type_of% @mode3_56 ∧ type_of% @mode3_67 ∧ type_of% @mode3_69 ∧ type_of% @mode3_72 ∧ type_of% @mode3_75 ∧ type_of% @mode3_76 ∧ type_of% @mode3_79 ∧ type_of% @mode3_82 ∧ type_of% @mode3_14 ∧ type_of% @mode3_85 ∧ type_of% @mode3_99 ∧ type_of% @mode3_103 ∧ type_of% @mode3_105 ∧ type_of% @mode3_107 ∧ type_of% @mode3_112 := ⟨@agg24, @agg25, @agg27, @call10, @call11, @call7, @call8, @call9, @field27_0, @field27_1, @ix22, @size5, @zero5, @room5, @bytes5, @ix24, @size40, @zero40, @room40, @bytes40, @ix25, @size3, @zero3, @room3, @bytes3, @lay27, @size24, @size25, @size27, @tk22, @tk3, @zero27, @mode3_23, @mode3_26, @mode3_27, @mode3_28, @mode3_29, @mode3_5, @mode3_32, @mode3_33, @mode3_34, @mode3_35, @mode3_8, @mode3_37, @mode3_39, @mode3_41, @mode3_42, @mode3_43, @mode3_44, @mode3_45, @mode3_11, @mode3_47, @mode3_49, @mode3_51, @mode3_54, @mode3_56, @mode3_67, @mode3_69, @mode3_72, @mode3_75, @mode3_76, @mode3_79, @mode3_82, @mode3_14, @mode3_85, @mode3_99, @mode3_103, @mode3_105, @mode3_107, @mode3_112⟩
theorem F4 : type_of% @agg24 ∧ type_of% @agg25 ∧ type_of% @agg27 ∧ type_of% @agg3 ∧ type_of% @call10 ∧ type_of% @call11 ∧ type_of% @call12 ∧ type_of% @call13 ∧ type_of% @call14 ∧ type_of% @call7 ∧ type_of% @field27_0 ∧ type_of% @field27_1 ∧ type_of% @field40_0 ∧ type_of% @field40_1 ∧ type_of% @ix24 ∧ type_of% @size40 ∧ type_of% @zero40 ∧ type_of% @room40 ∧ type_of% @bytes40 ∧ type_of% @ix25 ∧ type_of% @size3 ∧ type_of% @zero3 ∧ type_of% @room3 ∧ type_of% @bytes3 ∧ type_of% @lay27 ∧ type_of% @size24 ∧ type_of% @size25 ∧ type_of% @size27 ∧ type_of% @tk24 ∧ type_of% @tk25 ∧ type_of% @tk3 ∧ type_of% @zero27 ∧ type_of% @kill4_14 ∧ type_of% @grow4_14 ∧ type_of% @kill4_8 ∧ type_of% @grow4_8 ∧ type_of% @mode4_1 ∧ type_of% @mode4_8 ∧ type_of% @mode4_9 ∧ type_of% @mode4_10 ∧ type_of% @mode4_13 ∧ type_of% @mode4_14 ∧ type_of% @mode4_17 ∧ type_of% @mode4_3 ∧ type_of% @mode4_20 ∧ type_of% @mode4_4 ∧ type_of% @mode4_23 ∧ type_of% @mode4_24 ∧ type_of% @mode4_29 ∧ type_of% @mode4_34 ∧ type_of% @mode4_36 ∧ type_of% @mode4_74 ∧ type_of% @mode4_77 ∧ type_of% @mode4_79 ∧ type_of% @mode4_80 ∧ type_of% @mode4_83 := ⟨@agg24, @agg25, @agg27, @agg3, @call10, @call11, @call12, @call13, @call14, @call7, @field27_0, @field27_1, @field40_0, @field40_1, @ix24, @size40, @zero40, @room40, @bytes40, @ix25, @size3, @zero3, @room3, @bytes3, @lay27, @size24, @size25, @size27, @tk24, @tk25, @tk3, @zero27, @kill4_14, @grow4_14, @kill4_8, @grow4_8, @mode4_1, @mode4_8, @mode4_9, @mode4_10, @mode4_13, @mode4_14, @mode4_17, @mode4_3, @mode4_20, @mode4_4, @mode4_23, @mode4_24, @mode4_29, @mode4_34, @mode4_36, @mode4_74, @mode4_77, @mode4_79, @mode4_80, @mode4_83⟩
theorem F7 : type_of% @agg24 ∧ type_of% @agg25 ∧ type_of% @agg27 ∧ type_of% @agg3 ∧ type_of% @call11 ∧ type_of% @call8 ∧ type_of% @call9 ∧ type_of% @field27_0 ∧ type_of% @field27_1 ∧ type_of% @field38_2 ∧ type_of% @field40_3 ∧ type_of% @ix22 ∧ type_of% @size5 ∧ type_of% @zero5 ∧ type_of% @room5 ∧ type_of% @bytes5 ∧ type_of% @ix24 ∧ type_of% @size40 ∧ type_of% @zero40 ∧ type_of% @room40 ∧ type_of% @bytes40 ∧ type_of% @ix25 ∧ type_of% @size3 ∧ type_of% @zero3 ∧ type_of% @room3 ∧ type_of% @bytes3 ∧ type_of% @size24 ∧ type_of% @size25 ∧ type_of% @size27 ∧ type_of% @tk22 ∧ type_of% @tk24 ∧ type_of% @tk25 ∧ type_of% @tk3 ∧ type_of% @tk5 ∧ type_of% @zero27 ∧ type_of% @mode7_8 ∧ type_of% @mode7_9 ∧ type_of% @mode7_10 ∧ type_of% @mode7_11 ∧ type_of% @mode7_12 ∧ type_of% @mode7_13 ∧ type_of% @mode7_1 ∧ type_of% @mode7_15 ∧ type_of% @mode7_16 ∧ type_of% @mode7_17 ∧ type_of% @mode7_18 ∧ type_of% @mode7_19 ∧ type_of% @mode7_20 ∧ type_of% @mode7_4 ∧ type_of% @mode7_22 ∧ type_of% @mode7_58 ∧ type_of% @mode7_67 := ⟨@agg24, @agg25, @agg27, @agg3, @call11, @call8, @call9, @field27_0, @field27_1, @field38_2, @field40_3, @ix22, @size5, @zero5, @room5, @bytes5, @ix24, @size40, @zero40, @room40, @bytes40, @ix25, @size3, @zero3, @room3, @bytes3, @size24, @size25, @size27, @tk22, @tk24, @tk25, @tk3, @tk5, @zero27, @mode7_8, @mode7_9, @mode7_10, @mode7_11, @mode7_12, @mode7_13, @mode7_1, @mode7_15, @mode7_16, @mode7_17, @mode7_18, @mode7_19, @mode7_20, @mode7_4, @mode7_22, @mode7_58, @mode7_67⟩
theorem F8 : type_of% @agg27 ∧ type_of% @agg28 ∧ type_of% @agg3 ∧ type_of% @call17 ∧ type_of% @field48_1 ∧ type_of% @field48_2 ∧ type_of% @lay27 ∧ type_of% @lay48 ∧ type_of% @size27 ∧ type_of% @size28 ∧ type_of% @size3 ∧ type_of% @size48 ∧ type_of% @tk22 ∧ type_of% @tk28 ∧ type_of% @tk3 ∧ type_of% @zero27 ∧ type_of% @kill8_4 ∧ type_of% @grow8_4 ∧ type_of% @mode8_2 ∧ type_of% @mode8_12 ∧ type_of% @mode8_28 := ⟨@agg27, @agg28, @agg3, @call17, @field48_1, @field48_2, @lay27, @lay48, @size27, @size28, @size3, @size48, @tk22, @tk28, @tk3, @zero27, @kill8_4, @grow8_4, @mode8_2, @mode8_12, @mode8_28⟩
theorem F10 : type_of% @agg24 ∧ type_of% @agg25 ∧ type_of% @agg3 ∧ type_of% @agg40 ∧ type_of% @call18 ∧ type_of% @eql40 ∧ type_of% @field27_0 ∧ type_of% @field27_1 ∧ type_of% @ix24 ∧ type_of% @size40 ∧ type_of% @zero40 ∧ type_of% @room40 ∧ type_of% @bytes40 ∧ type_of% @ix25 ∧ type_of% @size3 ∧ type_of% @zero3 ∧ type_of% @room3 ∧ type_of% @bytes3 ∧ type_of% @size24 ∧ type_of% @size25 ∧ type_of% @size27 ∧ type_of% @tk24 ∧ type_of% @tk25 ∧ type_of% @tk3 ∧ type_of% @tk40 ∧ type_of% @kill10_12 ∧ type_of% @grow10_12 ∧ type_of% @kill10_4 ∧ type_of% @grow10_4 ∧ type_of% @mode10_3 ∧ type_of% @mode10_4 ∧ type_of% @mode10_8 ∧ type_of% @mode10_9 ∧ type_of% @mode10_46 ∧ type_of% @mode10_48 := ⟨@agg24, @agg25, @agg3, @agg40, @call18, @eql40, @field27_0, @field27_1, @ix24, @size40, @zero40, @room40, @bytes40, @ix25, @size3, @zero3, @room3, @bytes3, @size24, @size25, @size27, @tk24, @tk25, @tk3, @tk40, @kill10_12, @grow10_12, @kill10_4, @grow10_4, @mode10_3, @mode10_4, @mode10_8, @mode10_9, @mode10_46, @mode10_48⟩
theorem F11 : type_of% @agg24 ∧ type_of% @agg3 ∧ type_of% @agg40 ∧ type_of% @field27_0 ∧ type_of% @field40_0 ∧ type_of% @ix24 ∧ type_of% @size40 ∧ type_of% @zero40 ∧ type_of% @room40 ∧ type_of% @bytes40 ∧ type_of% @size24 ∧ type_of% @size27 ∧ type_of% @size3 ∧ type_of% @tk24 ∧ type_of% @tk3 ∧ type_of% @kill11_3 ∧ type_of% @grow11_3 ∧ type_of% @mode11_1 ∧ type_of% @mode11_5 := ⟨@agg24, @agg3, @agg40, @field27_0, @field40_0, @ix24, @size40, @zero40, @room40, @bytes40, @size24, @size27, @size3, @tk24, @tk3, @kill11_3, @grow11_3, @mode11_1, @mode11_5⟩
theorem F12 : type_of% @agg24 ∧ type_of% @agg25 ∧ type_of% @field27_0 ∧ type_of% @field27_1 ∧ type_of% @size24 ∧ type_of% @size25 ∧ type_of% @size27 ∧ type_of% @tk24 ∧ type_of% @tk25 ∧ type_of% @tk3 ∧ type_of% @mode12_1 := ⟨@agg24, @agg25, @field27_0, @field27_1, @size24, @size25, @size27, @tk24, @tk25, @tk3, @mode12_1⟩
theorem F13 : type_of% @agg24 ∧ type_of% @agg25 ∧ type_of% @agg27 ∧ type_of% @agg3 ∧ type_of% @agg40 ∧ type_of% @call19 ∧ type_of% @field27_0 ∧ type_of% @field27_1 ∧ type_of% @field40_0 ∧ type_of% @ix24 ∧ type_of% @size40 ∧ type_of% @zero40 ∧ type_of% @room40 ∧ type_of% @bytes40 ∧ type_of% @size24 ∧ type_of% @size25 ∧ type_of% @size27 ∧ type_of% @size3 ∧ type_of% @tk24 ∧ type_of% @tk3 ∧ type_of% @zero27 ∧ type_of% @kill13_3 ∧ type_of% @grow13_3 ∧ type_of% @mode13_1 ∧ type_of% @mode13_2 ∧ type_of% @mode13_3 ∧ type_of% @mode13_5 ∧ type_of% @mode13_19 ∧ type_of% @mode13_20 ∧ type_of% @mode13_25 := ⟨@agg24, @agg25, @agg27, @agg3, @agg40, @call19, @field27_0, @field27_1, @field40_0, @ix24, @size40, @zero40, @room40, @bytes40, @size24, @size25, @size27, @size3, @tk24, @tk3, @zero27, @kill13_3, @grow13_3, @mode13_1, @mode13_2, @mode13_3, @mode13_5, @mode13_19, @mode13_20, @mode13_25⟩
theorem F14 : type_of% @agg24 ∧ type_of% @agg25 ∧ type_of% @agg27 ∧ type_of% @agg3 ∧ type_of% @agg40 ∧ type_of% @field27_0 ∧ type_of% @field27_1 ∧ type_of% @field40_0 ∧ type_of% @ix24 ∧ type_of% @size40 ∧ type_of% @zero40 ∧ type_of% @room40 ∧ type_of% @bytes40 ∧ type_of% @ix25 ∧ type_of% @size3 ∧ type_of% @zero3 ∧ type_of% @room3 ∧ type_of% @bytes3 ∧ type_of% @lay27 ∧ type_of% @size24 ∧ type_of% @size25 ∧ type_of% @size27 ∧ type_of% @tk24 ∧ type_of% @tk3 ∧ type_of% @zero27 ∧ type_of% @kill14_3 ∧ type_of% @grow14_3 ∧ type_of% @mode14_1 ∧ type_of% @mode14_2 ∧ type_of% @mode14_5 ∧ type_of% @mode14_8 ∧ type_of% @mode14_3 ∧ type_of% @mode14_31 ∧ type_of% @mode14_32 := ⟨@agg24, @agg25, @agg27, @agg3, @agg40, @field27_0, @field27_1, @field40_0, @ix24, @size40, @zero40, @room40, @bytes40, @ix25, @size3, @zero3, @room3, @bytes3, @lay27, @size24, @size25, @size27, @tk24, @tk3, @zero27, @kill14_3, @grow14_3, @mode14_1, @mode14_2, @mode14_5, @mode14_8, @mode14_3, @mode14_31, @mode14_32⟩
theorem F17 : type_of% @agg22 ∧ type_of% @agg24 ∧ type_of% @agg25 ∧ type_of% @agg28 ∧ type_of% @agg3 ∧ type_of% @agg40 ∧ type_of% @agg5 ∧ type_of% @call26 ∧ type_of% @call27 ∧ type_of% @call28 ∧ type_of% @call29 ∧ type_of% @call30 ∧ type_of% @field27_0 ∧ type_of% @field27_1 ∧ type_of% @field38_0 ∧ type_of% @field38_1 ∧ type_of% @field38_2 ∧ type_of% @field40_0 ∧ type_of% @field40_2 ∧ type_of% @field40_3 ∧ type_of% @field48_0 ∧ type_of% @field48_1 ∧ type_of% @field48_2 ∧ type_of% @ix22 ∧ type_of% @size5 ∧ type_of% @zero5 ∧ type_of% @room5 ∧ type_of% @bytes5 ∧ type_of% @ix24 ∧ type_of% @size40 ∧ type_of% @zero40 ∧ type_of% @room40 ∧ type_of% @bytes40 ∧ type_of% @ix25 ∧ type_of% @size3 ∧ type_of% @zero3 ∧ type_of% @room3 ∧ type_of% @bytes3 ∧ type_of% @lay40 ∧ type_of% @size22 ∧ type_of% @size24 ∧ type_of% @size25 ∧ type_of% @size28 ∧ type_of% @tk22 ∧ type_of% @tk24 ∧ type_of% @tk25 ∧ type_of% @tk28 ∧ type_of% @tk3 ∧ type_of% @tk5 ∧ type_of% @mode17_6 ∧ type_of% @mode17_51 ∧ type_of% @mode17_52 ∧ type_of% @mode17_53 ∧ type_of% @mode17_55 ∧ type_of% @mode17_63 ∧ type_of% @mode17_65 ∧ type_of% @mode17_68 ∧ type_of% @mode17_72 ∧ type_of% @mode17_73 ∧ type_of% @mode17_74 ∧ type_of% @mode17_76 ∧ type_of% @mode17_101 ∧ type_of% @mode17_109 ∧ type_of% @mode17_111 ∧ type_of% @mode17_114 ∧ type_of% @mode17_118 ∧ type_of% @mode17_122 ∧ type_of% @mode17_126 ∧ type_of% @mode17_134 ∧ type_of% @mode17_136 ∧ type_of% @mode17_140 ∧ type_of% @mode17_141 ∧ type_of% @mode17_142 ∧ type_of% @mode17_144 ∧ type_of% @mode17_23 ∧ type_of% @mode17_31 ∧ type_of% @mode17_33 ∧ type_of% @mode17_45 ∧ type_of% @mode17_46 ∧ type_of% @mode17_146 ∧ type_of% @mode17_163 ∧ type_of% @mode17_164 := ⟨@agg22, @agg24, @agg25, @agg28, @agg3, @agg40, @agg5, @call26, @call27, @call28, @call29, @call30, @field27_0, @field27_1, @field38_0, @field38_1, @field38_2, @field40_0, @field40_2, @field40_3, @field48_0, @field48_1, @field48_2, @ix22, @size5, @zero5, @room5, @bytes5, @ix24, @size40, @zero40, @room40, @bytes40, @ix25, @size3, @zero3, @room3, @bytes3, @lay40, @size22, @size24, @size25, @size28, @tk22, @tk24, @tk25, @tk28, @tk3, @tk5, @mode17_6, @mode17_51, @mode17_52, @mode17_53, @mode17_55, @mode17_63, @mode17_65, @mode17_68, @mode17_72, @mode17_73, @mode17_74, @mode17_76, @mode17_101, @mode17_109, @mode17_111, @mode17_114, @mode17_118, @mode17_122, @mode17_126, @mode17_134, @mode17_136, @mode17_140, @mode17_141, @mode17_142, @mode17_144, @mode17_23, @mode17_31, @mode17_33, @mode17_45, @mode17_46, @mode17_146, @mode17_163, @mode17_164⟩
theorem F18 : type_of% @agg3 ∧ type_of% @agg38 ∧ type_of% @agg40 ∧ type_of% @field40_0 ∧ type_of% @field40_1 ∧ type_of% @field40_2 ∧ type_of% @field40_3 ∧ type_of% @lay40 ∧ type_of% @size3 ∧ type_of% @size38 ∧ type_of% @size40 ∧ type_of% @tk3 ∧ type_of% @zero40 ∧ type_of% @mode18_1 ∧ type_of% @mode18_2 := ⟨@agg3, @agg38, @agg40, @field40_0, @field40_1, @field40_2, @field40_3, @lay40, @size3, @size38, @size40, @tk3, @zero40, @mode18_1, @mode18_2⟩
theorem F19 : type_of% @ix25 ∧ type_of% @size3 ∧ type_of% @zero3 ∧ type_of% @room3 ∧ type_of% @bytes3 ∧ type_of% @tk25 ∧ type_of% @mode19_5 ∧ type_of% @mode19_7 := ⟨@ix25, @size3, @zero3, @room3, @bytes3, @tk25, @mode19_5, @mode19_7⟩
theorem F23 : type_of% @tk3 := @tk3
theorem F26 : type_of% @call31 ∧ type_of% @ix22 ∧ type_of% @size5 ∧ type_of% @zero5 ∧ type_of% @room5 ∧ type_of% @bytes5 ∧ type_of% @tk22 ∧ type_of% @tk3 ∧ type_of% @mode26_16 := ⟨@call31, @ix22, @size5, @zero5, @room5, @bytes5, @tk22, @tk3, @mode26_16⟩
theorem F27 : type_of% @agg22 ∧ type_of% @agg28 ∧ type_of% @agg3 ∧ type_of% @agg5 ∧ type_of% @call32 ∧ type_of% @field48_0 ∧ type_of% @field48_1 ∧ type_of% @field48_2 ∧ type_of% @ix22 ∧ type_of% @size5 ∧ type_of% @zero5 ∧ type_of% @room5 ∧ type_of% @bytes5 ∧ type_of% @ix9 ∧ type_of% @size22 ∧ type_of% @size28 ∧ type_of% @size3 ∧ type_of% @tk22 ∧ type_of% @tk28 ∧ type_of% @tk3 ∧ type_of% @tk5 ∧ type_of% @tk9 ∧ type_of% @kill27_1 ∧ type_of% @grow27_1 ∧ type_of% @mode27_49 := ⟨@agg22, @agg28, @agg3, @agg5, @call32, @field48_0, @field48_1, @field48_2, @ix22, @size5, @zero5, @room5, @bytes5, @ix9, @size22, @size28, @size3, @tk22, @tk28, @tk3, @tk5, @tk9, @kill27_1, @grow27_1, @mode27_49⟩
theorem F28 : type_of% @agg28 ∧ type_of% @call27 ∧ type_of% @call32 ∧ type_of% @field48_2 ∧ type_of% @size28 ∧ type_of% @tk28 ∧ type_of% @tk3 ∧ type_of% @mode28_7 ∧ type_of% @mode28_19 := ⟨@agg28, @call27, @call32, @field48_2, @size28, @tk28, @tk3, @mode28_7, @mode28_19⟩
theorem F29 : type_of% @agg22 ∧ type_of% @agg28 ∧ type_of% @agg3 ∧ type_of% @agg5 ∧ type_of% @call23 ∧ type_of% @call32 ∧ type_of% @call33 ∧ type_of% @field48_0 ∧ type_of% @field48_1 ∧ type_of% @field48_2 ∧ type_of% @ix22 ∧ type_of% @size5 ∧ type_of% @zero5 ∧ type_of% @room5 ∧ type_of% @bytes5 ∧ type_of% @size22 ∧ type_of% @size28 ∧ type_of% @size3 ∧ type_of% @tk22 ∧ type_of% @tk28 ∧ type_of% @tk3 ∧ type_of% @tk5 ∧ type_of% @kill29_13 ∧ type_of% @grow29_13 ∧ type_of% @mode29_54 ∧ type_of% @mode29_78 ∧ type_of% @mode29_98 ∧ type_of% @mode29_104 ∧ type_of% @mode29_106 ∧ type_of% @mode29_129 ∧ type_of% @mode29_139 ∧ type_of% @mode29_144 := ⟨@agg22, @agg28, @agg3, @agg5, @call23, @call32, @call33, @field48_0, @field48_1, @field48_2, @ix22, @size5, @zero5, @room5, @bytes5, @size22, @size28, @size3, @tk22, @tk28, @tk3, @tk5, @kill29_13, @grow29_13, @mode29_54, @mode29_78, @mode29_98, @mode29_104, @mode29_106, @mode29_129, @mode29_139, @mode29_144⟩
theorem F30 : type_of% @call27 ∧ type_of% @call29 ∧ type_of% @mode30_8 ∧ type_of% @mode30_12 := ⟨@call27, @call29, @mode30_8, @mode30_12⟩
theorem F31 : type_of% @tk22 ∧ type_of% @tk9 ∧ type_of% @tk5 ∧ type_of% @mode31_6 ∧ type_of% @mode31_8 := ⟨@tk22, @tk9, @tk5, @mode31_6, @mode31_8⟩
theorem F32 : type_of% @agg28 ∧ type_of% @agg3 ∧ type_of% @field48_1 ∧ type_of% @field48_2 ∧ type_of% @size28 ∧ type_of% @size3 ∧ type_of% @tk28 := ⟨@agg28, @agg3, @field48_1, @field48_2, @size28, @size3, @tk28⟩
theorem F33 : type_of% @agg22 ∧ type_of% @agg3 ∧ type_of% @agg5 ∧ type_of% @field48_0 ∧ type_of% @field48_1 ∧ type_of% @ix22 ∧ type_of% @size5 ∧ type_of% @zero5 ∧ type_of% @room5 ∧ type_of% @bytes5 ∧ type_of% @size22 ∧ type_of% @size3 ∧ type_of% @tk22 ∧ type_of% @tk3 ∧ type_of% @tk5 := ⟨@agg22, @agg3, @agg5, @field48_0, @field48_1, @ix22, @size5, @zero5, @room5, @bytes5, @size22, @size3, @tk22, @tk3, @tk5⟩
end Go.Proofs.Yteenpfdpokekgaa
