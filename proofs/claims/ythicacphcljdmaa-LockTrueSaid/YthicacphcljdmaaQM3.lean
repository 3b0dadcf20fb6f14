/- A part of the proofs over this seat. -/
import Derived.Test.YthicacphcljdmaaQM2
import Derived.Test.YthicacphcljdmaaQAbsNm
/- LockTrue: whose the monitors are, who was woken. -/
namespace Go.Proofs.Ythicacphcljdmaa
open Go Go.Abs Go.Proofs
set_option maxRecDepth 100000
set_option maxHeartbeats 8000000
set_option linter.unusedVariables false
set_option linter.unusedSimpArgs false
def iv (z : Int) : V := .int .i64 z
def ivs (l : List Int) : List V := l.map iv
def actC (a : Act) : List V := [.int .i64 a.d, .int .i64 a.m, .int .i64 a.t, .int .i64 a.n, .bool a.all]
theorem ivs_at {l : List Int} {i : Nat} {v : Int} (h : l[i]? = some v) : (ivs l)[i]? = some (.int .i64 v) := by
  unfold ivs; rw [List.getElem?_map, h]; rfl
theorem ivs_clip (l : List Int) (n : Nat) : (ivs l).map (clipV n) = ivs l := by
  unfold ivs; rw [List.map_map]; rfl
def bits4_7 : List Bool := [false, true, true, false, false, true, true, true, true, true, true, true, true, true, true, true, true, true, true, true, true, true, true, true, true, true, true, true, true, true, true, true, true, true, true, true, true, true, true, true, true, true, true, true, true, true, true, true, true, true, true, true, true, true, true, true, true, true, true, true, true, true, true, true, true, true, true, true, true, true, true, true, true, true, true, true, true, true, true, true, true, true, true, true, true, true, true, true, true, true, true, true, true, true, true, true, true, true, true, true, true, true, true, true, true, true, true, true, true, true, true, true, true, true, true, true, true, true, true, true, true, true, true, true, true, true, true, true, true, true, true, true, true, true, true, true, true, true, true, true, true, true, true, true, true, true, true, true, true, true, true, true, true, true, true, true, true, true, true, true, true, true, true, true, true, true, true, true, true, true, true, true, true, true, true, true, true, true, true, true, true, true, true, true, true, true, true, true, true, true, true, true, true, true, true, true, true, true, true, true, true, true, true, true, true, true, true, true, true, true, true, true, true, true, true, true, true, true, true, true, true, true, true, true, true, true, true, true, true, true, true, true, true, true, true, true, true, true, true, true, true, true, true, true, true, true, true, true, true, true, true, true, true, true, true, true, true, true, true, true, true, true, true, true, true, true, true, true, true, true, true, true, true, true, true, true, true, true, true, true, true, true, true, true, true, true, true, true, true, true, true, true, true, true, true, true, true, true, true, true, true, true, true, true, true, true, true, true, true, true, true, true, true, true, true, true, true, true, true, true, true, true, true, true, true, true, true, true, true, true, true, true, true, true, true, true, true, true, true, true, true, true, true, true, true, true, true, true, true, true]
theorem nm4_7 (nb nr : Nat) (st : St) : norm (notes.kill 4 7) nb nr st = ⟨maskC nb nr bits4_7 st.s, (st.b.take nb).map (·.map (clipV nr)), st.r.take nr⟩ := norm_mask bits4_7 (by kernel_rfl) (by kernel_rfl)
theorem nk4_7 (nb nr : Nat) (st : St) : norm [1, 2, 5, 6, 7, 8, 9, 10, 11, 12, 13, 14, 15, 16, 17, 18, 19, 20, 21, 22, 23, 24, 25, 26, 27, 28, 29, 30, 31, 32, 33, 34, 35, 36, 37, 38, 39, 40, 41, 42, 43, 44, 45, 46, 47, 48, 49, 50, 51, 52, 53, 54, 55, 56, 57, 58, 59, 60, 61, 62, 63, 64, 65, 66, 67, 68, 69, 70, 71, 72, 73, 74, 75, 76, 77, 78, 79, 80, 81, 82, 83, 84, 85, 86, 87, 88, 89, 90, 91, 92, 93, 94, 95, 96, 97, 98, 99, 100, 101, 102, 103, 104, 105, 106, 107, 108, 109, 110, 111, 112, 113, 114, 115, 116, 117, 118, 119, 120, 121, 122, 123, 124, 125, 126, 127, 128, 129, 130, 131, 132, 133, 134, 135, 136, 137, 138, 139, 140, 141, 142, 143, 144, 145, 146, 147, 148, 149, 150, 151, 152, 153, 154, 155, 156, 157, 158, 159, 160, 161, 162, 163, 164, 165, 166, 167, 168, 169, 170, 171, 172, 173, 174, 175, 176, 177, 178, 179, 180, 181, 182, 183, 184, 185, 186, 187, 188, 189, 190, 191, 192, 193, 194, 195, 196, 197, 198, 199, 200, 201, 202, 203, 204, 205, 206, 207, 208, 209, 210, 211, 212, 213, 214, 215, 216, 217, 218, 219, 220, 221, 222, 223, 224, 225, 226, 227, 228, 229, 230, 231, 232, 233, 234, 235, 236, 237, 238, 239, 240, 241, 242, 243, 244, 245, 246, 247, 248, 249, 250, 251, 252, 253, 254, 255, 256, 257, 258, 259, 260, 261, 262, 263, 264, 265, 266, 267, 268, 269, 270, 271, 272, 273, 274, 275, 276, 277, 278, 279, 280, 281, 282, 283, 284, 285, 286, 287, 288, 289, 290, 291, 292, 293, 294, 295, 296, 297, 298, 299, 300, 301, 302, 303, 304, 305, 306, 307, 308, 309, 310, 311, 312, 313, 314, 315, 316, 317, 318, 319, 320, 321, 322, 323, 324, 325, 326, 327, 328, 329, 330, 331, 332, 333, 334, 335, 336, 337, 338, 339, 340, 341, 342, 343, 344, 345, 346, 347, 348, 349] nb nr st = ⟨maskC nb nr bits4_7 st.s, (st.b.take nb).map (·.map (clipV nr)), st.r.take nr⟩ := norm_mask bits4_7 (by kernel_rfl) (by kernel_rfl)
def bits4_14 : List Bool := [false, true, true, false, true, false, false, false, false, true, true, true, true, true, true, true, true, true, true, true, true, true, true, true, true, true, true, true, true, true, true, true, true, true, true, true, true, true, true, true, true, true, true, true, true, true, true, true, true, true, true, true, true, true, true, true, true, true, true, true, true, true, true, true, true, true, true, true, true, true, true, true, true, true, true, true, true, true, true, true, true, true, true, true, true, true, true, true, true, true, true, true, true, true, true, true, true, true, true, true, true, true, true, true, true, true, true, true, true, true, true, true, true, true, true, true, true, true, true, true, true, true, true, true, true, true, true, true, true, true, true, true, true, true, true, true, true, true, true, true, true, true, true, true, true, true, true, true, true, true, true, true, true, true, true, true, true, true, true, true, true, true, true, true, true, true, true, true, true, true, true, true, true, true, true, true, true, true, true, true, true, true, true, true, true, true, true, true, true, true, true, true, true, true, true, true, true, true, true, true, true, true, true, true, true, true, true, true, true, true, true, true, true, true, true, true, true, true, true, true, true, true, true, true, true, true, true, true, true, true, true, true, true, true, true, true, true, true, true, true, true, true, true, true, true, true, true, true, true, true, true, true, true, true, true, true, true, true, true, true, true, true, true, true, true, true, true, true, true, true, true, true, true, true, true, true, true, true, true, true, true, true, true, true, true, true, true, true, true, true, true, true, true, true, true, true, true, true, true, true, true, true, true, true, true, true, true, true, true, true, true, true, true, true, true, true, true, true, true, true, true, true, true, true, true, true, true, true, true, true, true, true, true, true, true, true, true, true, true, true, true, true, true, true, true, true, true, true, true, true]
theorem nm4_14 (nb nr : Nat) (st : St) : norm (notes.kill 4 14) nb nr st = ⟨maskC nb nr bits4_14 st.s, (st.b.take nb).map (·.map (clipV nr)), st.r.take nr⟩ := norm_mask bits4_14 (by kernel_rfl) (by kernel_rfl)
theorem nk4_14 (nb nr : Nat) (st : St) : norm [1, 2, 4, 9, 10, 11, 12, 13, 14, 15, 16, 17, 18, 19, 20, 21, 22, 23, 24, 25, 26, 27, 28, 29, 30, 31, 32, 33, 34, 35, 36, 37, 38, 39, 40, 41, 42, 43, 44, 45, 46, 47, 48, 49, 50, 51, 52, 53, 54, 55, 56, 57, 58, 59, 60, 61, 62, 63, 64, 65, 66, 67, 68, 69, 70, 71, 72, 73, 74, 75, 76, 77, 78, 79, 80, 81, 82, 83, 84, 85, 86, 87, 88, 89, 90, 91, 92, 93, 94, 95, 96, 97, 98, 99, 100, 101, 102, 103, 104, 105, 106, 107, 108, 109, 110, 111, 112, 113, 114, 115, 116, 117, 118, 119, 120, 121, 122, 123, 124, 125, 126, 127, 128, 129, 130, 131, 132, 133, 134, 135, 136, 137, 138, 139, 140, 141, 142, 143, 144, 145, 146, 147, 148, 149, 150, 151, 152, 153, 154, 155, 156, 157, 158, 159, 160, 161, 162, 163, 164, 165, 166, 167, 168, 169, 170, 171, 172, 173, 174, 175, 176, 177, 178, 179, 180, 181, 182, 183, 184, 185, 186, 187, 188, 189, 190, 191, 192, 193, 194, 195, 196, 197, 198, 199, 200, 201, 202, 203, 204, 205, 206, 207, 208, 209, 210, 211, 212, 213, 214, 215, 216, 217, 218, 219, 220, 221, 222, 223, 224, 225, 226, 227, 228, 229, 230, 231, 232, 233, 234, 235, 236, 237, 238, 239, 240, 241, 242, 243, 244, 245, 246, 247, 248, 249, 250, 251, 252, 253, 254, 255, 256, 257, 258, 259, 260, 261, 262, 263, 264, 265, 266, 267, 268, 269, 270, 271, 272, 273, 274, 275, 276, 277, 278, 279, 280, 281, 282, 283, 284, 285, 286, 287, 288, 289, 290, 291, 292, 293, 294, 295, 296, 297, 298, 299, 300, 301, 302, 303, 304, 305, 306, 307, 308, 309, 310, 311, 312, 313, 314, 315, 316, 317, 318, 319, 320, 321, 322, 323, 324, 325, 326, 327, 328, 329, 330, 331, 332, 333, 334, 335, 336, 337, 338, 339, 340, 341, 342, 343, 344, 345, 346, 347, 348, 349] nb nr st = ⟨maskC nb nr bits4_14 st.s, (st.b.take nb).map (·.map (clipV nr)), st.r.take nr⟩ := norm_mask bits4_14 (by kernel_rfl) (by kernel_rfl)
def bits4_35 : List Bool := [false, true, true, false, true, false, false, false, false, false, false, true, false, true, true, true, true, true, true, true, true, true, true, true, true, true, true, true, true, true, true, true, true, true, true, true, true, true, true, true, true, true, true, true, true, true, true, true, true, true, true, true, true, true, true, true, true, true, true, true, true, true, true, true, true, true, true, true, true, true, true, true, true, true, true, true, true, true, true, true, true, true, true, true, true, true, true, true, true, true, true, true, true, true, true, true, true, true, true, true, true, true, true, true, true, true, true, true, true, true, true, true, true, true, true, true, true, true, true, true, true, true, true, true, true, true, true, true, true, true, true, true, true, true, true, true, true, true, true, true, true, true, true, true, true, true, true, true, true, true, true, true, true, true, true, true, true, true, true, true, true, true, true, true, true, true, true, true, true, true, true, true, true, true, true, true, true, true, true, true, true, true, true, true, true, true, true, true, true, true, true, true, true, true, true, true, true, true, true, true, true, true, true, true, true, true, true, true, true, true, true, true, true, true, true, true, true, true, true, true, true, true, true, true, true, true, true, true, true, true, true, true, true, true, true, true, true, true, true, true, true, true, true, true, true, true, true, true, true, true, true, true, true, true, true, true, true, true, true, true, true, true, true, true, true, true, true, true, true, true, true, true, true, true, true, true, true, true, true, true, true, true, true, true, true, true, true, true, true, true, true, true, true, true, true, true, true, true, true, true, true, true, true, true, true, true, true, true, true, true, true, true, true, true, true, true, true, true, true, true, true, true, true, true, true, true, true, true, true, true, true, true, true, true, true, true, true, true, true, true, true, true, true, true, true, true, true, true, true, true]
theorem nm4_35 (nb nr : Nat) (st : St) : norm (notes.kill 4 35) nb nr st = ⟨maskC nb nr bits4_35 st.s, (st.b.take nb).map (·.map (clipV nr)), st.r.take nr⟩ := norm_mask bits4_35 (by kernel_rfl) (by kernel_rfl)
theorem nk4_35 (nb nr : Nat) (st : St) : norm [1, 2, 4, 11, 13, 14, 15, 16, 17, 18, 19, 20, 21, 22, 23, 24, 25, 26, 27, 28, 29, 30, 31, 32, 33, 34, 35, 36, 37, 38, 39, 40, 41, 42, 43, 44, 45, 46, 47, 48, 49, 50, 51, 52, 53, 54, 55, 56, 57, 58, 59, 60, 61, 62, 63, 64, 65, 66, 67, 68, 69, 70, 71, 72, 73, 74, 75, 76, 77, 78, 79, 80, 81, 82, 83, 84, 85, 86, 87, 88, 89, 90, 91, 92, 93, 94, 95, 96, 97, 98, 99, 100, 101, 102, 103, 104, 105, 106, 107, 108, 109, 110, 111, 112, 113, 114, 115, 116, 117, 118, 119, 120, 121, 122, 123, 124, 125, 126, 127, 128, 129, 130, 131, 132, 133, 134, 135, 136, 137, 138, 139, 140, 141, 142, 143, 144, 145, 146, 147, 148, 149, 150, 151, 152, 153, 154, 155, 156, 157, 158, 159, 160, 161, 162, 163, 164, 165, 166, 167, 168, 169, 170, 171, 172, 173, 174, 175, 176, 177, 178, 179, 180, 181, 182, 183, 184, 185, 186, 187, 188, 189, 190, 191, 192, 193, 194, 195, 196, 197, 198, 199, 200, 201, 202, 203, 204, 205, 206, 207, 208, 209, 210, 211, 212, 213, 214, 215, 216, 217, 218, 219, 220, 221, 222, 223, 224, 225, 226, 227, 228, 229, 230, 231, 232, 233, 234, 235, 236, 237, 238, 239, 240, 241, 242, 243, 244, 245, 246, 247, 248, 249, 250, 251, 252, 253, 254, 255, 256, 257, 258, 259, 260, 261, 262, 263, 264, 265, 266, 267, 268, 269, 270, 271, 272, 273, 274, 275, 276, 277, 278, 279, 280, 281, 282, 283, 284, 285, 286, 287, 288, 289, 290, 291, 292, 293, 294, 295, 296, 297, 298, 299, 300, 301, 302, 303, 304, 305, 306, 307, 308, 309, 310, 311, 312, 313, 314, 315, 316, 317, 318, 319, 320, 321, 322, 323, 324, 325, 326, 327, 328, 329, 330, 331, 332, 333, 334, 335, 336, 337, 338, 339, 340, 341, 342, 343, 344, 345, 346, 347, 348, 349] nb nr st = ⟨maskC nb nr bits4_35 st.s, (st.b.take nb).map (·.map (clipV nr)), st.r.take nr⟩ := norm_mask bits4_35 (by kernel_rfl) (by kernel_rfl)
def bits4_43 : List Bool := [false, true, true, false, true, false, false, false, false, true, true, true, true, false, false, true, true, true, true, true, true, true, true, true, true, true, true, true, true, true, true, true, true, true, true, true, true, true, true, true, true, true, true, true, true, true, true, true, true, true, true, true, true, true, true, true, true, true, true, true, true, true, true, true, true, true, true, true, true, true, true, true, true, true, true, true, true, true, true, true, true, true, true, true, true, true, true, true, true, true, true, true, true, true, true, true, true, true, true, true, true, true, true, true, true, true, true, true, true, true, true, true, true, true, true, true, true, true, true, true, true, true, true, true, true, true, true, true, true, true, true, true, true, true, true, true, true, true, true, true, true, true, true, true, true, true, true, true, true, true, true, true, true, true, true, true, true, true, true, true, true, true, true, true, true, true, true, true, true, true, true, true, true, true, true, true, true, true, true, true, true, true, true, true, true, true, true, true, true, true, true, true, true, true, true, true, true, true, true, true, true, true, true, true, true, true, true, true, true, true, true, true, true, true, true, true, true, true, true, true, true, true, true, true, true, true, true, true, true, true, true, true, true, true, true, true, true, true, true, true, true, true, true, true, true, true, true, true, true, true, true, true, true, true, true, true, true, true, true, true, true, true, true, true, true, true, true, true, true, true, true, true, true, true, true, true, true, true, true, true, true, true, true, true, true, true, true, true, true, true, true, true, true, true, true, true, true, true, true, true, true, true, true, true, true, true, true, true, true, true, true, true, true, true, true, true, true, true, true, true, true, true, true, true, true, true, true, true, true, true, true, true, true, true, true, true, true, true, true, true, true, true, true, true, true, true, true, true, true, true]
theorem nm4_43 (nb nr : Nat) (st : St) : norm (notes.kill 4 43) nb nr st = ⟨maskC nb nr bits4_43 st.s, (st.b.take nb).map (·.map (clipV nr)), st.r.take nr⟩ := norm_mask bits4_43 (by kernel_rfl) (by kernel_rfl)
theorem nk4_43 (nb nr : Nat) (st : St) : norm [1, 2, 4, 9, 10, 11, 12, 15, 16, 17, 18, 19, 20, 21, 22, 23, 24, 25, 26, 27, 28, 29, 30, 31, 32, 33, 34, 35, 36, 37, 38, 39, 40, 41, 42, 43, 44, 45, 46, 47, 48, 49, 50, 51, 52, 53, 54, 55, 56, 57, 58, 59, 60, 61, 62, 63, 64, 65, 66, 67, 68, 69, 70, 71, 72, 73, 74, 75, 76, 77, 78, 79, 80, 81, 82, 83, 84, 85, 86, 87, 88, 89, 90, 91, 92, 93, 94, 95, 96, 97, 98, 99, 100, 101, 102, 103, 104, 105, 106, 107, 108, 109, 110, 111, 112, 113, 114, 115, 116, 117, 118, 119, 120, 121, 122, 123, 124, 125, 126, 127, 128, 129, 130, 131, 132, 133, 134, 135, 136, 137, 138, 139, 140, 141, 142, 143, 144, 145, 146, 147, 148, 149, 150, 151, 152, 153, 154, 155, 156, 157, 158, 159, 160, 161, 162, 163, 164, 165, 166, 167, 168, 169, 170, 171, 172, 173, 174, 175, 176, 177, 178, 179, 180, 181, 182, 183, 184, 185, 186, 187, 188, 189, 190, 191, 192, 193, 194, 195, 196, 197, 198, 199, 200, 201, 202, 203, 204, 205, 206, 207, 208, 209, 210, 211, 212, 213, 214, 215, 216, 217, 218, 219, 220, 221, 222, 223, 224, 225, 226, 227, 228, 229, 230, 231, 232, 233, 234, 235, 236, 237, 238, 239, 240, 241, 242, 243, 244, 245, 246, 247, 248, 249, 250, 251, 252, 253, 254, 255, 256, 257, 258, 259, 260, 261, 262, 263, 264, 265, 266, 267, 268, 269, 270, 271, 272, 273, 274, 275, 276, 277, 278, 279, 280, 281, 282, 283, 284, 285, 286, 287, 288, 289, 290, 291, 292, 293, 294, 295, 296, 297, 298, 299, 300, 301, 302, 303, 304, 305, 306, 307, 308, 309, 310, 311, 312, 313, 314, 315, 316, 317, 318, 319, 320, 321, 322, 323, 324, 325, 326, 327, 328, 329, 330, 331, 332, 333, 334, 335, 336, 337, 338, 339, 340, 341, 342, 343, 344, 345, 346, 347, 348, 349] nb nr st = ⟨maskC nb nr bits4_43 st.s, (st.b.take nb).map (·.map (clipV nr)), st.r.take nr⟩ := norm_mask bits4_43 (by kernel_rfl) (by kernel_rfl)
def bits4_55 : List Bool := [false, true, true, false, true, false, false, false, false, true, true, true, true, true, true, false, true, true, true, true, true, true, true, true, true, true, true, true, true, true, true, true, true, true, true, true, true, true, true, true, true, true, true, true, true, true, true, true, true, true, true, true, true, true, true, true, true, true, true, true, true, true, true, true, true, true, true, true, true, true, true, true, true, true, true, true, true, true, true, true, true, true, true, true, true, true, true, true, true, true, true, true, true, true, true, true, true, true, true, true, true, true, true, true, true, true, true, true, true, true, true, true, true, true, true, true, true, true, true, true, true, true, true, true, true, true, true, true, true, true, true, true, true, true, true, true, true, true, true, true, true, true, true, true, true, true, true, true, true, true, true, true, true, true, true, true, true, true, true, true, true, true, true, true, true, true, true, true, true, true, true, true, true, true, true, true, true, true, true, true, true, true, true, true, true, true, true, true, true, true, true, true, true, true, true, true, true, true, true, true, true, true, true, true, true, true, true, true, true, true, true, true, true, true, true, true, true, true, true, true, true, true, true, true, true, true, true, true, true, true, true, true, true, true, true, true, true, true, true, true, true, true, true, true, true, true, true, true, true, true, true, true, true, true, true, true, true, true, true, true, true, true, true, true, true, true, true, true, true, true, true, true, true, true, true, true, true, true, true, true, true, true, true, true, true, true, true, true, true, true, true, true, true, true, true, true, true, true, true, true, true, true, true, true, true, true, true, true, true, true, true, true, true, true, true, true, true, true, true, true, true, true, true, true, true, true, true, true, true, true, true, true, true, true, true, true, true, true, true, true, true, true, true, true, true, true, true, true, true, true]
theorem nm4_55 (nb nr : Nat) (st : St) : norm (notes.kill 4 55) nb nr st = ⟨maskC nb nr bits4_55 st.s, (st.b.take nb).map (·.map (clipV nr)), st.r.take nr⟩ := norm_mask bits4_55 (by kernel_rfl) (by kernel_rfl)
theorem nk4_55 (nb nr : Nat) (st : St) : norm [1, 2, 4, 9, 10, 11, 12, 13, 14, 16, 17, 18, 19, 20, 21, 22, 23, 24, 25, 26, 27, 28, 29, 30, 31, 32, 33, 34, 35, 36, 37, 38, 39, 40, 41, 42, 43, 44, 45, 46, 47, 48, 49, 50, 51, 52, 53, 54, 55, 56, 57, 58, 59, 60, 61, 62, 63, 64, 65, 66, 67, 68, 69, 70, 71, 72, 73, 74, 75, 76, 77, 78, 79, 80, 81, 82, 83, 84, 85, 86, 87, 88, 89, 90, 91, 92, 93, 94, 95, 96, 97, 98, 99, 100, 101, 102, 103, 104, 105, 106, 107, 108, 109, 110, 111, 112, 113, 114, 115, 116, 117, 118, 119, 120, 121, 122, 123, 124, 125, 126, 127, 128, 129, 130, 131, 132, 133, 134, 135, 136, 137, 138, 139, 140, 141, 142, 143, 144, 145, 146, 147, 148, 149, 150, 151, 152, 153, 154, 155, 156, 157, 158, 159, 160, 161, 162, 163, 164, 165, 166, 167, 168, 169, 170, 171, 172, 173, 174, 175, 176, 177, 178, 179, 180, 181, 182, 183, 184, 185, 186, 187, 188, 189, 190, 191, 192, 193, 194, 195, 196, 197, 198, 199, 200, 201, 202, 203, 204, 205, 206, 207, 208, 209, 210, 211, 212, 213, 214, 215, 216, 217, 218, 219, 220, 221, 222, 223, 224, 225, 226, 227, 228, 229, 230, 231, 232, 233, 234, 235, 236, 237, 238, 239, 240, 241, 242, 243, 244, 245, 246, 247, 248, 249, 250, 251, 252, 253, 254, 255, 256, 257, 258, 259, 260, 261, 262, 263, 264, 265, 266, 267, 268, 269, 270, 271, 272, 273, 274, 275, 276, 277, 278, 279, 280, 281, 282, 283, 284, 285, 286, 287, 288, 289, 290, 291, 292, 293, 294, 295, 296, 297, 298, 299, 300, 301, 302, 303, 304, 305, 306, 307, 308, 309, 310, 311, 312, 313, 314, 315, 316, 317, 318, 319, 320, 321, 322, 323, 324, 325, 326, 327, 328, 329, 330, 331, 332, 333, 334, 335, 336, 337, 338, 339, 340, 341, 342, 343, 344, 345, 346, 347, 348, 349] nb nr st = ⟨maskC nb nr bits4_55 st.s, (st.b.take nb).map (·.map (clipV nr)), st.r.take nr⟩ := norm_mask bits4_55 (by kernel_rfl) (by kernel_rfl)
def bits4_60 : List Bool := [false, true, true, false, true, false, false, false, false, true, true, true, true, true, true, false, false, false, true, false, false, true, true, true, true, true, true, true, true, true, true, true, true, true, true, true, true, true, true, true, true, true, true, true, true, true, true, true, true, true, true, true, true, true, true, true, true, true, true, true, true, true, true, true, true, true, true, true, true, true, true, true, true, true, true, true, true, true, true, true, true, true, true, true, true, true, true, true, true, true, true, true, true, true, true, true, true, true, true, true, true, true, true, true, true, true, true, true, true, true, true, true, true, true, true, true, true, true, true, true, true, true, true, true, true, true, true, true, true, true, true, true, true, true, true, true, true, true, true, true, true, true, true, true, true, true, true, true, true, true, true, true, true, true, true, true, true, true, true, true, true, true, true, true, true, true, true, true, true, true, true, true, true, true, true, true, true, true, true, true, true, true, true, true, true, true, true, true, true, true, true, true, true, true, true, true, true, true, true, true, true, true, true, true, true, true, true, true, true, true, true, true, true, true, true, true, true, true, true, true, true, true, true, true, true, true, true, true, true, true, true, true, true, true, true, true, true, true, true, true, true, true, true, true, true, true, true, true, true, true, true, true, true, true, true, true, true, true, true, true, true, true, true, true, true, true, true, true, true, true, true, true, true, true, true, true, true, true, true, true, true, true, true, true, true, true, true, true, true, true, true, true, true, true, true, true, true, true, true, true, true, true, true, true, true, true, true, true, true, true, true, true, true, true, true, true, true, true, true, true, true, true, true, true, true, true, true, true, true, true, true, true, true, true, true, true, true, true, true, true, true, true, true, true, true, true, true, true, true, true]
theorem nm4_60 (nb nr : Nat) (st : St) : norm (notes.kill 4 60) nb nr st = ⟨maskC nb nr bits4_60 st.s, (st.b.take nb).map (·.map (clipV nr)), st.r.take nr⟩ := norm_mask bits4_60 (by kernel_rfl) (by kernel_rfl)
theorem nk4_60 (nb nr : Nat) (st : St) : norm [1, 2, 4, 9, 10, 11, 12, 13, 14, 18, 21, 22, 23, 24, 25, 26, 27, 28, 29, 30, 31, 32, 33, 34, 35, 36, 37, 38, 39, 40, 41, 42, 43, 44, 45, 46, 47, 48, 49, 50, 51, 52, 53, 54, 55, 56, 57, 58, 59, 60, 61, 62, 63, 64, 65, 66, 67, 68, 69, 70, 71, 72, 73, 74, 75, 76, 77, 78, 79, 80, 81, 82, 83, 84, 85, 86, 87, 88, 89, 90, 91, 92, 93, 94, 95, 96, 97, 98, 99, 100, 101, 102, 103, 104, 105, 106, 107, 108, 109, 110, 111, 112, 113, 114, 115, 116, 117, 118, 119, 120, 121, 122, 123, 124, 125, 126, 127, 128, 129, 130, 131, 132, 133, 134, 135, 136, 137, 138, 139, 140, 141, 142, 143, 144, 145, 146, 147, 148, 149, 150, 151, 152, 153, 154, 155, 156, 157, 158, 159, 160, 161, 162, 163, 164, 165, 166, 167, 168, 169, 170, 171, 172, 173, 174, 175, 176, 177, 178, 179, 180, 181, 182, 183, 184, 185, 186, 187, 188, 189, 190, 191, 192, 193, 194, 195, 196, 197, 198, 199, 200, 201, 202, 203, 204, 205, 206, 207, 208, 209, 210, 211, 212, 213, 214, 215, 216, 217, 218, 219, 220, 221, 222, 223, 224, 225, 226, 227, 228, 229, 230, 231, 232, 233, 234, 235, 236, 237, 238, 239, 240, 241, 242, 243, 244, 245, 246, 247, 248, 249, 250, 251, 252, 253, 254, 255, 256, 257, 258, 259, 260, 261, 262, 263, 264, 265, 266, 267, 268, 269, 270, 271, 272, 273, 274, 275, 276, 277, 278, 279, 280, 281, 282, 283, 284, 285, 286, 287, 288, 289, 290, 291, 292, 293, 294, 295, 296, 297, 298, 299, 300, 301, 302, 303, 304, 305, 306, 307, 308, 309, 310, 311, 312, 313, 314, 315, 316, 317, 318, 319, 320, 321, 322, 323, 324, 325, 326, 327, 328, 329, 330, 331, 332, 333, 334, 335, 336, 337, 338, 339, 340, 341, 342, 343, 344, 345, 346, 347, 348, 349] nb nr st = ⟨maskC nb nr bits4_60 st.s, (st.b.take nb).map (·.map (clipV nr)), st.r.take nr⟩ := norm_mask bits4_60 (by kernel_rfl) (by kernel_rfl)
def bits4_69 : List Bool := [false, true, true, false, true, false, false, false, false, true, true, true, true, true, true, true, true, true, true, true, true, false, true, true, true, true, true, true, true, true, true, true, true, true, true, true, true, true, true, true, true, true, true, true, true, true, true, true, true, true, true, true, true, true, true, true, true, true, true, true, true, true, true, true, true, true, true, true, true, true, true, true, true, true, true, true, true, true, true, true, true, true, true, true, true, true, true, true, true, true, true, true, true, true, true, true, true, true, true, true, true, true, true, true, true, true, true, true, true, true, true, true, true, true, true, true, true, true, true, true, true, true, true, true, true, true, true, true, true, true, true, true, true, true, true, true, true, true, true, true, true, true, true, true, true, true, true, true, true, true, true, true, true, true, true, true, true, true, true, true, true, true, true, true, true, true, true, true, true, true, true, true, true, true, true, true, true, true, true, true, true, true, true, true, true, true, true, true, true, true, true, true, true, true, true, true, true, true, true, true, true, true, true, true, true, true, true, true, true, true, true, true, true, true, true, true, true, true, true, true, true, true, true, true, true, true, true, true, true, true, true, true, true, true, true, true, true, true, true, true, true, true, true, true, true, true, true, true, true, true, true, true, true, true, true, true, true, true, true, true, true, true, true, true, true, true, true, true, true, true, true, true, true, true, true, true, true, true, true, true, true, true, true, true, true, true, true, true, true, true, true, true, true, true, true, true, true, true, true, true, true, true, true, true, true, true, true, true, true, true, true, true, true, true, true, true, true, true, true, true, true, true, true, true, true, true, true, true, true, true, true, true, true, true, true, true, true, true, true, true, true, true, true, true, true, true, true, true, true, true]
theorem nm4_69 (nb nr : Nat) (st : St) : norm (notes.kill 4 69) nb nr st = ⟨maskC nb nr bits4_69 st.s, (st.b.take nb).map (·.map (clipV nr)), st.r.take nr⟩ := norm_mask bits4_69 (by kernel_rfl) (by kernel_rfl)
theorem nk4_69 (nb nr : Nat) (st : St) : norm [1, 2, 4, 9, 10, 11, 12, 13, 14, 15, 16, 17, 18, 19, 20, 22, 23, 24, 25, 26, 27, 28, 29, 30, 31, 32, 33, 34, 35, 36, 37, 38, 39, 40, 41, 42, 43, 44, 45, 46, 47, 48, 49, 50, 51, 52, 53, 54, 55, 56, 57, 58, 59, 60, 61, 62, 63, 64, 65, 66, 67, 68, 69, 70, 71, 72, 73, 74, 75, 76, 77, 78, 79, 80, 81, 82, 83, 84, 85, 86, 87, 88, 89, 90, 91, 92, 93, 94, 95, 96, 97, 98, 99, 100, 101, 102, 103, 104, 105, 106, 107, 108, 109, 110, 111, 112, 113, 114, 115, 116, 117, 118, 119, 120, 121, 122, 123, 124, 125, 126, 127, 128, 129, 130, 131, 132, 133, 134, 135, 136, 137, 138, 139, 140, 141, 142, 143, 144, 145, 146, 147, 148, 149, 150, 151, 152, 153, 154, 155, 156, 157, 158, 159, 160, 161, 162, 163, 164, 165, 166, 167, 168, 169, 170, 171, 172, 173, 174, 175, 176, 177, 178, 179, 180, 181, 182, 183, 184, 185, 186, 187, 188, 189, 190, 191, 192, 193, 194, 195, 196, 197, 198, 199, 200, 201, 202, 203, 204, 205, 206, 207, 208, 209, 210, 211, 212, 213, 214, 215, 216, 217, 218, 219, 220, 221, 222, 223, 224, 225, 226, 227, 228, 229, 230, 231, 232, 233, 234, 235, 236, 237, 238, 239, 240, 241, 242, 243, 244, 245, 246, 247, 248, 249, 250, 251, 252, 253, 254, 255, 256, 257, 258, 259, 260, 261, 262, 263, 264, 265, 266, 267, 268, 269, 270, 271, 272, 273, 274, 275, 276, 277, 278, 279, 280, 281, 282, 283, 284, 285, 286, 287, 288, 289, 290, 291, 292, 293, 294, 295, 296, 297, 298, 299, 300, 301, 302, 303, 304, 305, 306, 307, 308, 309, 310, 311, 312, 313, 314, 315, 316, 317, 318, 319, 320, 321, 322, 323, 324, 325, 326, 327, 328, 329, 330, 331, 332, 333, 334, 335, 336, 337, 338, 339, 340, 341, 342, 343, 344, 345, 346, 347, 348, 349] nb nr st = ⟨maskC nb nr bits4_69 st.s, (st.b.take nb).map (·.map (clipV nr)), st.r.take nr⟩ := norm_mask bits4_69 (by kernel_rfl) (by kernel_rfl)
/-- The last slots of the check of whose the monitors are -/
theorem loop60 {Q : Post} {st : St} {H : Hp} {x : V} {i : Nat} {a : Act} {hs kp inn : List Int} {m : Nat} {t n : Int}
    (hst : norm (notes.kill 4 60) st.b.length st.r.length st = ⟨L4_60 (.v x) (.v (.ptr 0 0 0)) (.box 0) (.box 1) (.box 2) (.v (.int .i64 (i : Int))) (.v (.int .i64 (m : Int))) (.v (.int .i64 t)) (.v (.int .i64 n)) (.v (.int .i64 0)) (.v (.int .i64 0)), [ivs hs, ivs kp, ivs inn, actC a], []⟩)
    (hb : st.b.length = 4) (hr : st.r.length = 0) (hx : ∀ p q, clip p q (.v x) = .v x) (hm : m < 3)
    (hrow : ∀ k : Nat, k < 4 → ∃ v, hs[4 * m + k]? = some v ∧ ((v = 0 ∧ t ≠ k) ∨ (0 < v ∧ t = k ∧ n = v)))
    (hq : ∀ o : Nat, (o = 0 ∨ o = 1) → (o = 0 → ∀ k : Nat, k < 4 → t ≠ k) → Q (.exit 11) ⟨(((L4_60 (.v x) (.v (.ptr 0 0 0)) (.box 0) (.box 1) (.box 2) (.v (.int .i64 (i : Int))) (.v (.int .i64 (m : Int))) (.v (.int .i64 t)) (.v (.int .i64 n)) (.v (.int .i64 (o : Int))) (.v (.int .i64 4))).set 286 (.v (.int .i64 4))).set 287 (.v (.bool false))), [ivs hs, ivs kp, ivs inn, actC a], []⟩ H) :
    wpC (envOf Try.prog notes (evW Try.prog notes) 4) (.loop (loopOf Try.f4 60)) st H Q := by
  have hcA : ∀ n, (actC a).map (clipV n) = actC a := fun n => rfl
  have c1 := ivs_clip hs
  have c2 := ivs_clip kp
  have c3 := ivs_clip inn
  simp only [loopOf, bodyOf, Try.f4, Option.getD_some, findLoop, firstReg, orC_some, orC_none, Nat.reduceEqDiff, decide_true, decide_false]
  refine wC_loop _ (fun j st' H' => ∃ (k o : Nat), st' = ⟨L4_60 (.v x) (.v (.ptr 0 0 0)) (.box 0) (.box 1) (.box 2) (.v (.int .i64 (i : Int))) (.v (.int .i64 (m : Int))) (.v (.int .i64 t)) (.v (.int .i64 n)) (.v (.int .i64 (o : Int))) (.v (.int .i64 (k : Int))), [ivs hs, ivs kp, ivs inn, actC a], []⟩ ∧ H' = H ∧ k ≤ 4 ∧ j = 4 - k ∧ ((o = 0 ∧ ∀ e : Nat, e < k → t ≠ e) ∨ (o = 1 ∧ ∃ e : Nat, e < k ∧ t = e))) 4 ⟨0, 0, ?_, rfl, by omega, rfl, .inl ⟨rfl, fun e he => by omega⟩⟩ ?_
  · simp only [envG, envK, firstReg, grow4_60, growAll, List.foldl_nil]
    exact hst
  · simp only [envG, envK, firstReg, grow4_60, growAll, List.foldl_nil, hb, hr]
    rintro j st' H' ⟨k, o, rfl, rfl, hk, rfl, ho⟩
    simp only [L4_60]
    by_cases hlt : k < 4
    · have g1 : decide ((k : Int) < 4) = true := decide_eq_true (by omega)
      have hk1 : IntKind.i64.wrap ((k : Int) + 1) = ((k + 1 : Nat) : Int) := by rw [IntWalk.i64_in _ (by omega)]; omega
      obtain ⟨v, hv, hcase⟩ := hrow k hlt
      have hg : (ivs hs)[m * 4 + k * 1]? = some (.int .i64 v) := by rw [show m * 4 + k * 1 = 4 * m + k by omega]; exact ivs_at hv
      have b3 : ((m : Int) < ((3 : Nat) : Int)) = True := eq_true (by omega)
      have b4 : ((k : Int) < ((4 : Nat) : Int)) = True := eq_true (by omega)
      rcases hcase with ⟨rfl, hne⟩ | ⟨hpos, hte, hn⟩
      · simp only [WW, partV, eqCells, eqLf, minV, maxV, ifcV, zaa, zab, zac, zad, zae, zaf, zag, zah, zai, ofConst, ofConst1, List.replicate, zaj, zak, loadOp, Go.Abs.loadCells, binV, zal, pickV, zam, zan, zao, zap, zaq, zar, zas, zat, zau, outR, resAll, resOne, zav, zaw, zax, zay, zaz, zba, zbb, zbc, zbd, zbe, zbf, zbg, zbh, zbi, zbj, zbk, storeOp, storeCell, overlay, zbl, zbm, zbn, lookupOp, keyT, okRes, mapUpdateOp, zbo, zbp, zbq, zbr, zbs, zbt, zbu, Nat.reduceSub, Nat.reduceAdd, Int.reduceLT, Int.reduceLE, Int.reduceAdd, Int.reduceSub, Int.reduceToNat, Int.reduceBEq, Int.reduceBNe, Int.reduceMul, Nat.reduceBEq, Nat.reduceBNe, Nat.reduceLT, Nat.reduceLeDiff, Nat.reduceMul, Nat.reduceEqDiff, WD, effB, effH, isPriv, isHeap, isImm, zbx, zby, zbz, chkO, setD, dslot, zca, zcb, zcc, zcd, ptrCells_some, F4, g1, hg, b3, b4, hk1, Int.lt_irrefl]
        refine ⟨4 - (k + 1), by omega, k + 1, o, ?_, by omega, rfl, ?_⟩
        · first | rw [nm4_60] | rw [nk4_60]
          simp only [bits4_60, maskC_nil, maskC_t, maskC_f, WN, firstReg, growAll, zbv, zbw, norm, killS, zag, zah, zaa, zab, zbl, zat, zad, growOne, zae, zaf, zac, zas, zak, Nat.reduceLT, Nat.reduceAdd, zbj, zav, L4_60, hx, c1, c2, c3, hcA]
          try rfl
        · rcases ho with ⟨o1, o2⟩ | ⟨o1, e, e1, e2⟩
          · refine .inl ⟨o1, fun e he => ?_⟩
            by_cases q : e = k
            · subst q; exact hne
            · exact o2 e (by omega)
          · exact .inr ⟨o1, e, by omega, e2⟩
      · have hpos' : decide (0 < v) = true := decide_eq_true hpos
        have o0 : o = 0 := by
          rcases ho with ⟨o1, o2⟩ | ⟨o1, e, e1, e2⟩
          · exact o1
          · omega
        subst o0
        subst hte
        subst hn
        have w1 : IntKind.i64.wrap (((0 : Nat) : Int) + 1) = ((1 : Nat) : Int) := rfl
        have w2 : ((k : Int) != (k : Int)) = false := by simp
        have w3 : (n != n) = false := by simp
        simp only [WW, partV, eqCells, eqLf, minV, maxV, ifcV, zaa, zab, zac, zad, zae, zaf, zag, zah, zai, ofConst, ofConst1, List.replicate, zaj, zak, loadOp, Go.Abs.loadCells, binV, zal, pickV, zam, zan, zao, zap, zaq, zar, zas, zat, zau, outR, resAll, resOne, zav, zaw, zax, zay, zaz, zba, zbb, zbc, zbd, zbe, zbf, zbg, zbh, zbi, zbj, zbk, storeOp, storeCell, overlay, zbl, zbm, zbn, lookupOp, keyT, okRes, mapUpdateOp, zbo, zbp, zbq, zbr, zbs, zbt, zbu, Nat.reduceSub, Nat.reduceAdd, Int.reduceLT, Int.reduceLE, Int.reduceAdd, Int.reduceSub, Int.reduceToNat, Int.reduceBEq, Int.reduceBNe, Int.reduceMul, Nat.reduceBEq, Nat.reduceBNe, Nat.reduceLT, Nat.reduceLeDiff, Nat.reduceMul, Nat.reduceEqDiff, WD, effB, effH, isPriv, isHeap, isImm, zbx, zby, zbz, chkO, setD, dslot, zca, zcb, zcc, zcd, ptrCells_some, F4, g1, hg, b3, b4, hk1, hpos', w1, w2, w3]
        refine ⟨4 - (k + 1), by omega, k + 1, 1, ?_, by omega, rfl, .inr ⟨rfl, k, by omega, rfl⟩⟩
        first | rw [nm4_60] | rw [nk4_60]
        simp only [bits4_60, maskC_nil, maskC_t, maskC_f, WN, firstReg, growAll, zbv, zbw, norm, killS, zag, zah, zaa, zab, zbl, zat, zad, growOne, zae, zaf, zac, zas, zak, Nat.reduceLT, Nat.reduceAdd, zbj, zav, L4_60, hx, c1, c2, c3, hcA]
        try rfl
    · have g1 : decide ((k : Int) < 4) = false := decide_eq_false (by omega)
      obtain rfl : k = 4 := by omega
      simp only [WW, partV, eqCells, eqLf, minV, maxV, ifcV, zaa, zab, zac, zad, zae, zaf, zag, zah, zai, ofConst, ofConst1, List.replicate, zaj, zak, loadOp, Go.Abs.loadCells, binV, zal, pickV, zam, zan, zao, zap, zaq, zar, zas, zat, zau, outR, resAll, resOne, zav, zaw, zax, zay, zaz, zba, zbb, zbc, zbd, zbe, zbf, zbg, zbh, zbi, zbj, zbk, storeOp, storeCell, overlay, zbl, zbm, zbn, lookupOp, keyT, okRes, mapUpdateOp, zbo, zbp, zbq, zbr, zbs, zbt, zbu, Nat.reduceSub, Nat.reduceAdd, Int.reduceLT, Int.reduceLE, Int.reduceAdd, Int.reduceSub, Int.reduceToNat, Int.reduceBEq, Int.reduceBNe, Int.reduceMul, Nat.reduceBEq, Nat.reduceBNe, Nat.reduceLT, Nat.reduceLeDiff, Nat.reduceMul, Nat.reduceEqDiff, WD, effB, effH, isPriv, isHeap, isImm, zbx, zby, zbz, chkO, setD, dslot, zca, zcb, zcc, zcd, ptrCells_some, F4, g1]
      refine hq o ?_ ?_
      · rcases ho with ⟨o1, o2⟩ | ⟨o1, e, e1, e2⟩
        · exact .inl o1
        · exact .inr o1
      · intro o0
        rcases ho with ⟨o1, o2⟩ | ⟨o1, e, e1, e2⟩
        · exact o2
        · omega
theorem TI.row {ms : List Mon} {ws wk : List Slp} {hs kp inn : List Int} (h : TI ms ws wk hs kp inn) {m : Nat} (hm : m < 3) :
    ∃ x, ms[m]? = some x ∧ (∀ k : Nat, k < 4 → ∃ v, hs[4 * m + k]? = some v ∧ ((v = 0 ∧ x.t ≠ k) ∨ (0 < v ∧ x.t = k ∧ x.n = v))) ∧ ((∀ k : Nat, k < 4 → x.t ≠ k) → x.t = -1) := by
  have hl : m < ms.length := by have := h.lm; omega
  refine ⟨ms[m], List.getElem?_eq_getElem hl, fun k hk => ?_, fun hno => ?_⟩
  · obtain ⟨x, v, h1, h2, h3, h4, h5⟩ := h.hget hm hk
    rw [List.getElem?_eq_getElem hl] at h1
    cases h1
    refine ⟨v, h2, ?_⟩
    rcases h5 with ⟨a, b, c⟩ | ⟨a, b⟩
    · exact .inr ⟨a, b, c⟩
    · exact .inl ⟨a, b⟩
  · rcases h.mon m _ (List.getElem?_eq_getElem hl) with ⟨a, _⟩ | ⟨d, hd, a, _⟩
    · exact a
    · exact absurd a (hno d hd)
/-- Whose the monitors are -/
theorem loop55 {Q : Post} {st : St} {H : Hp} {x : V} {i : Nat} {a : Act} {hs kp inn : List Int} {ms : List Mon} {ws wk : List Slp} {came : Int} {all wa wo : V}
    (hst : norm (notes.kill 4 55) st.b.length st.r.length st = ⟨L4_55 (.v x) (.v (.ptr 0 0 0)) (.box 0) (.box 1) (.box 2) (.v (.int .i64 (i : Int))) (.v (.int .i64 0)), [ivs hs, ivs kp, ivs inn, actC a], []⟩)
    (hb : st.b.length = 4) (hr : st.r.length = 0) (hx : ∀ p q, clip p q (.v x) = .v x)
    (L : LK H 0 ms ws wk came all wa wo) (T : TI ms ws wk hs kp inn)
    (hq : Q (.exit 9) ⟨(((L4_55 (.v x) (.v (.ptr 0 0 0)) (.box 0) (.box 1) (.box 2) (.v (.int .i64 (i : Int))) (.v (.int .i64 3))).set 275 (.v (.int .i64 3))).set 276 (.v (.bool false))), [ivs hs, ivs kp, ivs inn, actC a], []⟩ H) :
    wpC (envOf Try.prog notes (evW Try.prog notes) 4) (.loop (loopOf Try.f4 55)) st H Q := by
  have hcA : ∀ n, (actC a).map (clipV n) = actC a := fun n => rfl
  have c1 := ivs_clip hs
  have c2 := ivs_clip kp
  have c3 := ivs_clip inn
  simp only [loopOf, bodyOf, Try.f4, Option.getD_some, findLoop, firstReg, orC_some, orC_none, Nat.reduceEqDiff, decide_true, decide_false]
  refine wC_loop _ (fun j st' H' => ∃ (k : Nat), st' = ⟨L4_55 (.v x) (.v (.ptr 0 0 0)) (.box 0) (.box 1) (.box 2) (.v (.int .i64 (i : Int))) (.v (.int .i64 (k : Int))), [ivs hs, ivs kp, ivs inn, actC a], []⟩ ∧ H' = H ∧ k ≤ 3 ∧ j = 3 - k) 3 ⟨0, ?_, rfl, by omega, rfl⟩ ?_
  · simp only [envG, envK, firstReg, grow4_55, growAll, List.foldl_nil]
    exact hst
  · simp only [envG, envK, firstReg, grow4_55, growAll, List.foldl_nil, hb, hr]
    rintro j st' H' ⟨k, rfl, rfl, hk, rfl⟩
    simp only [L4_55]
    by_cases hlt : k < 3
    · have g1 : decide ((k : Int) < 3) = true := decide_eq_true (by omega)
      have hk1 : IntKind.i64.wrap ((k : Int) + 1) = ((k + 1 : Nat) : Int) := by rw [IntWalk.i64_in _ (by omega)]; omega
      obtain ⟨y, hy, hrow, hno⟩ := T.row hlt
      have how := owner_eq L hy
      simp only [WW, partV, eqCells, eqLf, minV, maxV, ifcV, zaa, zab, zac, zad, zae, zaf, zag, zah, zai, ofConst, ofConst1, List.replicate, zaj, zak, loadOp, Go.Abs.loadCells, binV, zal, pickV, zam, zan, zao, zap, zaq, zar, zas, zat, zau, outR, resAll, resOne, zav, zaw, zax, zay, zaz, zba, zbb, zbc, zbd, zbe, zbf, zbg, zbh, zbi, zbj, zbk, storeOp, storeCell, overlay, zbl, zbm, zbn, lookupOp, keyT, okRes, mapUpdateOp, zbo, zbp, zbq, zbr, zbs, zbt, zbu, Nat.reduceSub, Nat.reduceAdd, Int.reduceLT, Int.reduceLE, Int.reduceAdd, Int.reduceSub, Int.reduceToNat, Int.reduceBEq, Int.reduceBNe, Int.reduceMul, Nat.reduceBEq, Nat.reduceBNe, Nat.reduceLT, Nat.reduceLeDiff, Nat.reduceMul, Nat.reduceEqDiff, WD, effB, effH, isPriv, isHeap, isImm, zbx, zby, zbz, chkO, setD, dslot, zca, zcb, zcc, zcd, ptrCells_some, F4, g1]
      rw [wpCall_eq how]
      simp only [WW, partV, eqCells, eqLf, minV, maxV, ifcV, zaa, zab, zac, zad, zae, zaf, zag, zah, zai, ofConst, ofConst1, List.replicate, zaj, zak, loadOp, Go.Abs.loadCells, binV, zal, pickV, zam, zan, zao, zap, zaq, zar, zas, zat, zau, outR, resAll, resOne, zav, zaw, zax, zay, zaz, zba, zbb, zbc, zbd, zbe, zbf, zbg, zbh, zbi, zbj, zbk, storeOp, storeCell, overlay, zbl, zbm, zbn, lookupOp, keyT, okRes, mapUpdateOp, zbo, zbp, zbq, zbr, zbs, zbt, zbu, Nat.reduceSub, Nat.reduceAdd, Int.reduceLT, Int.reduceLE, Int.reduceAdd, Int.reduceSub, Int.reduceToNat, Int.reduceBEq, Int.reduceBNe, Int.reduceMul, Nat.reduceBEq, Nat.reduceBNe, Nat.reduceLT, Nat.reduceLeDiff, Nat.reduceMul, Nat.reduceEqDiff, WD, effB, effH, isPriv, isHeap, isImm, zbx, zby, zbz, chkO, setD, dslot, zca, zcb, zcc, zcd, ptrCells_some, F4]
      refine loop60 (x := x) (i := i) (a := a) (hs := hs) (kp := kp) (inn := inn) (m := k) (t := y.t) (n := y.n) ?_ rfl rfl hx hlt hrow ?_
      · first | rw [nm4_60] | rw [nk4_60]
        simp only [bits4_60, maskC_nil, maskC_t, maskC_f, WN, firstReg, growAll, zbv, zbw, norm, killS, zag, zah, zaa, zab, zbl, zat, zad, growOne, zae, zaf, zac, zas, zak, Nat.reduceLT, Nat.reduceAdd, zbj, zav, L4_60, hx, c1, c2, c3, hcA]
        try rfl
      · intro o ho hoz
        simp only [L4_60]
        rcases ho with rfl | rfl
        · have hy1 := hno (hoz rfl)
          have w1 : (y.t != -1) = false := by simp [hy1]
          have z0 : ((0 : Nat) : Int) = 0 := rfl
          simp only [WW, partV, eqCells, eqLf, minV, maxV, ifcV, zaa, zab, zac, zad, zae, zaf, zag, zah, zai, ofConst, ofConst1, List.replicate, zaj, zak, loadOp, Go.Abs.loadCells, binV, zal, pickV, zam, zan, zao, zap, zaq, zar, zas, zat, zau, outR, resAll, resOne, zav, zaw, zax, zay, zaz, zba, zbb, zbc, zbd, zbe, zbf, zbg, zbh, zbi, zbj, zbk, storeOp, storeCell, overlay, zbl, zbm, zbn, lookupOp, keyT, okRes, mapUpdateOp, zbo, zbp, zbq, zbr, zbs, zbt, zbu, Nat.reduceSub, Nat.reduceAdd, Int.reduceLT, Int.reduceLE, Int.reduceAdd, Int.reduceSub, Int.reduceToNat, Int.reduceBEq, Int.reduceBNe, Int.reduceMul, Nat.reduceBEq, Nat.reduceBNe, Nat.reduceLT, Nat.reduceLeDiff, Nat.reduceMul, Nat.reduceEqDiff, WD, effB, effH, isPriv, isHeap, isImm, zbx, zby, zbz, chkO, setD, dslot, zca, zcb, zcc, zcd, ptrCells_some, F4, w1, hk1, z0]
          refine ⟨3 - (k + 1), by omega, k + 1, ?_, by omega, rfl⟩
          first | rw [nm4_55] | rw [nk4_55]
          simp only [bits4_55, maskC_nil, maskC_t, maskC_f, WN, firstReg, growAll, zbv, zbw, norm, killS, zag, zah, zaa, zab, zbl, zat, zad, growOne, zae, zaf, zac, zas, zak, Nat.reduceLT, Nat.reduceAdd, zbj, zav, L4_55, hx, c1, c2, c3, hcA]
          try rfl
        · have z0 : ((1 : Nat) : Int) = 1 := rfl
          simp only [WW, partV, eqCells, eqLf, minV, maxV, ifcV, zaa, zab, zac, zad, zae, zaf, zag, zah, zai, ofConst, ofConst1, List.replicate, zaj, zak, loadOp, Go.Abs.loadCells, binV, zal, pickV, zam, zan, zao, zap, zaq, zar, zas, zat, zau, outR, resAll, resOne, zav, zaw, zax, zay, zaz, zba, zbb, zbc, zbd, zbe, zbf, zbg, zbh, zbi, zbj, zbk, storeOp, storeCell, overlay, zbl, zbm, zbn, lookupOp, keyT, okRes, mapUpdateOp, zbo, zbp, zbq, zbr, zbs, zbt, zbu, Nat.reduceSub, Nat.reduceAdd, Int.reduceLT, Int.reduceLE, Int.reduceAdd, Int.reduceSub, Int.reduceToNat, Int.reduceBEq, Int.reduceBNe, Int.reduceMul, Nat.reduceBEq, Nat.reduceBNe, Nat.reduceLT, Nat.reduceLeDiff, Nat.reduceMul, Nat.reduceEqDiff, WD, effB, effH, isPriv, isHeap, isImm, zbx, zby, zbz, chkO, setD, dslot, zca, zcb, zcc, zcd, ptrCells_some, F4, hk1, z0]
          refine ⟨3 - (k + 1), by omega, k + 1, ?_, by omega, rfl⟩
          first | rw [nm4_55] | rw [nk4_55]
          simp only [bits4_55, maskC_nil, maskC_t, maskC_f, WN, firstReg, growAll, zbv, zbw, norm, killS, zag, zah, zaa, zab, zbl, zat, zad, growOne, zae, zaf, zac, zas, zak, Nat.reduceLT, Nat.reduceAdd, zbj, zav, L4_55, hx, c1, c2, c3, hcA]
          try rfl
    · have g1 : decide ((k : Int) < 3) = false := decide_eq_false (by omega)
      obtain rfl : k = 3 := by omega
      simp only [WW, partV, eqCells, eqLf, minV, maxV, ifcV, zaa, zab, zac, zad, zae, zaf, zag, zah, zai, ofConst, ofConst1, List.replicate, zaj, zak, loadOp, Go.Abs.loadCells, binV, zal, pickV, zam, zan, zao, zap, zaq, zar, zas, zat, zau, outR, resAll, resOne, zav, zaw, zax, zay, zaz, zba, zbb, zbc, zbd, zbe, zbf, zbg, zbh, zbi, zbj, zbk, storeOp, storeCell, overlay, zbl, zbm, zbn, lookupOp, keyT, okRes, mapUpdateOp, zbo, zbp, zbq, zbr, zbs, zbt, zbu, Nat.reduceSub, Nat.reduceAdd, Int.reduceLT, Int.reduceLE, Int.reduceAdd, Int.reduceSub, Int.reduceToNat, Int.reduceBEq, Int.reduceBNe, Int.reduceMul, Nat.reduceBEq, Nat.reduceBNe, Nat.reduceLT, Nat.reduceLeDiff, Nat.reduceMul, Nat.reduceEqDiff, WD, effB, effH, isPriv, isHeap, isImm, zbx, zby, zbz, chkO, setD, dslot, zca, zcb, zcc, zcd, ptrCells_some, F4, g1]
      exact hq
/-- Who was woken -/
theorem TI.woke {ms : List Mon} {ws wk : List Slp} {hs kp inn : List Int} (h : TI ms ws wk hs kp inn) {k : Nat} (hk : k < 4) :
    ∃ v, inn[k]? = some v ∧ -3 ≤ v ∧ v ≤ 3 ∧ (v < 0 ↔ 0 ≤ findT wk k) ∧ ∀ s, 0 ≤ findT wk k → wk[(findT wk k).toNat]? = some s → s.m = -v - 1 := by
  have hz : cS wk k = 0 → ¬ (0 ≤ findT wk k) := fun e => by rw [findT_cS e]; omega
  have hnz : cS wk k = 1 → 0 ≤ findT wk k := fun e => by
    rcases findT_cases wk k with h | h
    · have := cS_findT (l := wk) (t := k) (by omega); omega
    · exact h
  have key : ∀ v, inn[k]? = some v → ∀ s, 0 ≤ findT wk k → wk[(findT wk k).toNat]? = some s → s.m = -v - 1 := by
    intro v hv s h0 hs
    obtain ⟨i, s', e1, e2, e3⟩ := findT_at h0
    rw [e1, show ((i : Nat) : Int).toNat = i from rfl, e2] at hs
    cases hs
    obtain ⟨d, c, a1, a2, a3, a4, a5, _⟩ := h.wkI s (List.mem_of_getElem? e2)
    obtain rfl : d = k := by omega
    rw [hv] at a5
    have := Option.some.inj a5
    omega
  rcases h.at hk with ⟨a, b, c⟩ | ⟨m, hm, a, b, c⟩ | ⟨m, hm, a, b, c⟩
  · have := hz c
    exact ⟨_, a, by omega, by omega, by omega, key _ a⟩
  · have := hz c
    exact ⟨_, a, by omega, by omega, by omega, key _ a⟩
  · have := hnz c
    exact ⟨_, a, by omega, by omega, by omega, key _ a⟩
theorem loop69 {Q : Post} {st : St} {H : Hp} {x : V} {i : Nat} {a : Act} {hs kp inn : List Int} {ms : List Mon} {ws wk : List Slp} {came : Int} {all wa wo : V}
    (hst : norm (notes.kill 4 69) st.b.length st.r.length st = ⟨L4_69 (.v x) (.v (.ptr 0 0 0)) (.box 0) (.box 1) (.box 2) (.v (.int .i64 (i : Int))) (.v (.int .i64 0)), [ivs hs, ivs kp, ivs inn, actC a], []⟩)
    (hb : st.b.length = 4) (hr : st.r.length = 0) (hx : ∀ p q, clip p q (.v x) = .v x)
    (L : LK H 0 ms ws wk came all wa wo) (T : TI ms ws wk hs kp inn)
    (hq : ∀ H', LK H' 0 ms ws wk came all wa wo → Q (.exit 13) ⟨(((L4_69 (.v x) (.v (.ptr 0 0 0)) (.box 0) (.box 1) (.box 2) (.v (.int .i64 (i : Int))) (.v (.int .i64 4))).set 320 (.v (.int .i64 4))).set 321 (.v (.bool false))), [ivs hs, ivs kp, ivs inn, actC a], []⟩ H') :
    wpC (envOf Try.prog notes (evW Try.prog notes) 4) (.loop (loopOf Try.f4 69)) st H Q := by
  have hcA : ∀ n, (actC a).map (clipV n) = actC a := fun n => rfl
  have c1 := ivs_clip hs
  have c2 := ivs_clip kp
  have c3 := ivs_clip inn
  have hsm := T.small
  simp only [loopOf, bodyOf, Try.f4, Option.getD_some, findLoop, firstReg, orC_some, orC_none, Nat.reduceEqDiff, decide_true, decide_false]
  refine wC_loop _ (fun j st' H' => ∃ (k : Nat), st' = ⟨L4_69 (.v x) (.v (.ptr 0 0 0)) (.box 0) (.box 1) (.box 2) (.v (.int .i64 (i : Int))) (.v (.int .i64 (k : Int))), [ivs hs, ivs kp, ivs inn, actC a], []⟩ ∧ LK H' 0 ms ws wk came all wa wo ∧ k ≤ 4 ∧ j = 4 - k) 4 ⟨0, ?_, L, by omega, rfl⟩ ?_
  · simp only [envG, envK, firstReg, grow4_69, growAll, List.foldl_nil]
    exact hst
  · simp only [envG, envK, firstReg, grow4_69, growAll, List.foldl_nil, hb, hr]
    rintro j st' H' ⟨k, rfl, L', hk, rfl⟩
    simp only [L4_69]
    by_cases hlt : k < 4
    · have g1 : decide ((k : Int) < 4) = true := decide_eq_true (by omega)
      have hk1 : IntKind.i64.wrap ((k : Int) + 1) = ((k + 1 : Nat) : Int) := by rw [IntWalk.i64_in _ (by omega)]; omega
      have b4 : ((k : Int) < ((4 : Nat) : Int)) = True := eq_true (by omega)
      obtain ⟨v, hv, v1, v2, hiff, hm⟩ := T.woke hlt
      have hg : (ivs inn)[k * 1]? = some (.int .i64 v) := by rw [Nat.mul_one]; exact ivs_at hv
      obtain ⟨m, told, hwo, hwm⟩ := woken_eq L' (k : Int) (by omega)
      have L2 := L'.app [.cells [.int .i64 (k : Int)]]
      have wn : IntKind.i64.wrap (0 - v) = -v := by rw [IntWalk.i64_in _ (by omega)]; omega
      have wn1 : IntKind.i64.wrap (-v - 1) = -v - 1 := IntWalk.i64_in _ (by omega)
      cases g2 : decide (0 ≤ findT wk k) with
      | true =>
        have h0 := of_decide_eq_true g2
        have g3 : decide (v < 0) = true := decide_eq_true (hiff.2 h0)
        obtain ⟨s, e1, e2, e3⟩ := hwm h0
        have hmv : (m != -v - 1) = false := by have := hm s h0 e1; simp; omega
        rw [g2] at hwo
        simp only [WW, partV, eqCells, eqLf, minV, maxV, ifcV, zaa, zab, zac, zad, zae, zaf, zag, zah, zai, ofConst, ofConst1, List.replicate, zaj, zak, loadOp, Go.Abs.loadCells, binV, zal, pickV, zam, zan, zao, zap, zaq, zar, zas, zat, zau, outR, resAll, resOne, zav, zaw, zax, zay, zaz, zba, zbb, zbc, zbd, zbe, zbf, zbg, zbh, zbi, zbj, zbk, storeOp, storeCell, overlay, zbl, zbm, zbn, lookupOp, keyT, okRes, mapUpdateOp, zbo, zbp, zbq, zbr, zbs, zbt, zbu, Nat.reduceSub, Nat.reduceAdd, Int.reduceLT, Int.reduceLE, Int.reduceAdd, Int.reduceSub, Int.reduceToNat, Int.reduceBEq, Int.reduceBNe, Int.reduceMul, Nat.reduceBEq, Nat.reduceBNe, Nat.reduceLT, Nat.reduceLeDiff, Nat.reduceMul, Nat.reduceEqDiff, WD, effB, effH, isPriv, isHeap, isImm, zbx, zby, zbz, chkO, setD, dslot, zca, zcb, zcc, zcd, ptrCells_some, F4, g1]
        rw [wpCall_eq hwo]
        simp only [WW, partV, eqCells, eqLf, minV, maxV, ifcV, zaa, zab, zac, zad, zae, zaf, zag, zah, zai, ofConst, ofConst1, List.replicate, zaj, zak, loadOp, Go.Abs.loadCells, binV, zal, pickV, zam, zan, zao, zap, zaq, zar, zas, zat, zau, outR, resAll, resOne, zav, zaw, zax, zay, zaz, zba, zbb, zbc, zbd, zbe, zbf, zbg, zbh, zbi, zbj, zbk, storeOp, storeCell, overlay, zbl, zbm, zbn, lookupOp, keyT, okRes, mapUpdateOp, zbo, zbp, zbq, zbr, zbs, zbt, zbu, Nat.reduceSub, Nat.reduceAdd, Int.reduceLT, Int.reduceLE, Int.reduceAdd, Int.reduceSub, Int.reduceToNat, Int.reduceBEq, Int.reduceBNe, Int.reduceMul, Nat.reduceBEq, Nat.reduceBNe, Nat.reduceLT, Nat.reduceLeDiff, Nat.reduceMul, Nat.reduceEqDiff, WD, effB, effH, isPriv, isHeap, isImm, zbx, zby, zbz, chkO, setD, dslot, zca, zcb, zcc, zcd, ptrCells_some, F4, hg, b4, g3, wn, wn1, hmv, hk1]
        refine ⟨4 - (k + 1), by omega, k + 1, ?_, L2, by omega, rfl⟩
        first | rw [nm4_69] | rw [nk4_69]
        simp only [bits4_69, maskC_nil, maskC_t, maskC_f, WN, firstReg, growAll, zbv, zbw, norm, killS, zag, zah, zaa, zab, zbl, zat, zad, growOne, zae, zaf, zac, zas, zak, Nat.reduceLT, Nat.reduceAdd, zbj, zav, L4_69, hx, c1, c2, c3, hcA]
        try rfl
      | false =>
        have h0 := of_decide_eq_false g2
        have g3 : decide (v < 0) = false := decide_eq_false (fun e => h0 (hiff.1 e))
        rw [g2] at hwo
        simp only [WW, partV, eqCells, eqLf, minV, maxV, ifcV, zaa, zab, zac, zad, zae, zaf, zag, zah, zai, ofConst, ofConst1, List.replicate, zaj, zak, loadOp, Go.Abs.loadCells, binV, zal, pickV, zam, zan, zao, zap, zaq, zar, zas, zat, zau, outR, resAll, resOne, zav, zaw, zax, zay, zaz, zba, zbb, zbc, zbd, zbe, zbf, zbg, zbh, zbi, zbj, zbk, storeOp, storeCell, overlay, zbl, zbm, zbn, lookupOp, keyT, okRes, mapUpdateOp, zbo, zbp, zbq, zbr, zbs, zbt, zbu, Nat.reduceSub, Nat.reduceAdd, Int.reduceLT, Int.reduceLE, Int.reduceAdd, Int.reduceSub, Int.reduceToNat, Int.reduceBEq, Int.reduceBNe, Int.reduceMul, Nat.reduceBEq, Nat.reduceBNe, Nat.reduceLT, Nat.reduceLeDiff, Nat.reduceMul, Nat.reduceEqDiff, WD, effB, effH, isPriv, isHeap, isImm, zbx, zby, zbz, chkO, setD, dslot, zca, zcb, zcc, zcd, ptrCells_some, F4, g1]
        rw [wpCall_eq hwo]
        simp only [WW, partV, eqCells, eqLf, minV, maxV, ifcV, zaa, zab, zac, zad, zae, zaf, zag, zah, zai, ofConst, ofConst1, List.replicate, zaj, zak, loadOp, Go.Abs.loadCells, binV, zal, pickV, zam, zan, zao, zap, zaq, zar, zas, zat, zau, outR, resAll, resOne, zav, zaw, zax, zay, zaz, zba, zbb, zbc, zbd, zbe, zbf, zbg, zbh, zbi, zbj, zbk, storeOp, storeCell, overlay, zbl, zbm, zbn, lookupOp, keyT, okRes, mapUpdateOp, zbo, zbp, zbq, zbr, zbs, zbt, zbu, Nat.reduceSub, Nat.reduceAdd, Int.reduceLT, Int.reduceLE, Int.reduceAdd, Int.reduceSub, Int.reduceToNat, Int.reduceBEq, Int.reduceBNe, Int.reduceMul, Nat.reduceBEq, Nat.reduceBNe, Nat.reduceLT, Nat.reduceLeDiff, Nat.reduceMul, Nat.reduceEqDiff, WD, effB, effH, isPriv, isHeap, isImm, zbx, zby, zbz, chkO, setD, dslot, zca, zcb, zcc, zcd, ptrCells_some, F4, hg, b4, g3, wn, wn1, hk1]
        refine ⟨4 - (k + 1), by omega, k + 1, ?_, L2, by omega, rfl⟩
        first | rw [nm4_69] | rw [nk4_69]
        simp only [bits4_69, maskC_nil, maskC_t, maskC_f, WN, firstReg, growAll, zbv, zbw, norm, killS, zag, zah, zaa, zab, zbl, zat, zad, growOne, zae, zaf, zac, zas, zak, Nat.reduceLT, Nat.reduceAdd, zbj, zav, L4_69, hx, c1, c2, c3, hcA]
        try rfl
    · have g1 : decide ((k : Int) < 4) = false := decide_eq_false (by omega)
      obtain rfl : k = 4 := by omega
      simp only [WW, partV, eqCells, eqLf, minV, maxV, ifcV, zaa, zab, zac, zad, zae, zaf, zag, zah, zai, ofConst, ofConst1, List.replicate, zaj, zak, loadOp, Go.Abs.loadCells, binV, zal, pickV, zam, zan, zao, zap, zaq, zar, zas, zat, zau, outR, resAll, resOne, zav, zaw, zax, zay, zaz, zba, zbb, zbc, zbd, zbe, zbf, zbg, zbh, zbi, zbj, zbk, storeOp, storeCell, overlay, zbl, zbm, zbn, lookupOp, keyT, okRes, mapUpdateOp, zbo, zbp, zbq, zbr, zbs, zbt, zbu, Nat.reduceSub, Nat.reduceAdd, Int.reduceLT, Int.reduceLE, Int.reduceAdd, Int.reduceSub, Int.reduceToNat, Int.reduceBEq, Int.reduceBNe, Int.reduceMul, Nat.reduceBEq, Nat.reduceBNe, Nat.reduceLT, Nat.reduceLeDiff, Nat.reduceMul, Nat.reduceEqDiff, WD, effB, effH, isPriv, isHeap, isImm, zbx, zby, zbz, chkO, setD, dslot, zca, zcb, zcc, zcd, ptrCells_some, F4, g1]
      exact hq _ L'
end Go.Proofs.Ythicacphcljdmaa

/- LockTrue: the acts. -/
namespace Go.Proofs.Ythicacphcljdmaa
open Go Go.Abs Go.Proofs
set_option maxRecDepth 100000
set_option maxHeartbeats 16000000
set_option linter.unusedVariables false
set_option linter.unusedSimpArgs false
/-- The next turn -/
def Nx (Q : Post) (x : V) (i : Nat) : Prop := ∀ st' H' ms ws wk came all wa wo hs kp inn, norm (notes.kill 4 14) 3 0 st' = ⟨L4_14 (.v x) (.v (.ptr 0 0 0)) (.box 0) (.box 1) (.box 2) (.v (.int .i64 ((i + 1 : Nat) : Int))), [ivs hs, ivs kp, ivs inn], []⟩ → LK H' 0 ms ws wk came all wa wo → TI ms ws wk hs kp inn → Q .normal st' H'
theorem ivs_len (l : List Int) : (ivs l).length = l.length := by simp [ivs]
theorem ivs_set {l : List Int} {i : Nat} {v : Int} (h : i < l.length) : overlay (ivs l) i [.int .i64 v] = ivs (l.set i v) := by
  unfold overlay ivs
  rw [List.map_set, List.set_eq_take_append_cons_drop, if_pos (by simpa using h)]
  simp [iv]
/-- What an act finds -/
structure Tn (x : V) (l : List Act) (i : Nat) (a : Act) (H : Hp) (ms : List Mon) (ws wk : List Slp) (came : Int) (all wa wo : V) (hs kp inn : List Int) : Prop where
  hx : ∀ H, Rd H x (l.map actV)
  hd : l[i]? = some a
  hi : i < 60
  L : LK H 0 ms ws wk came all wa wo
  T : TI ms ws wk hs kp inn
def st14 (x : V) (i : Nat) (hs kp inn : List Int) : St := ⟨L4_14 (.v x) (.v (.ptr 0 0 0)) (.box 0) (.box 1) (.box 2) (.v (.int .i64 (i : Int))), [ivs hs, ivs kp, ivs inn], []⟩
theorem Tn.len {x : V} {l : List Act} {i : Nat} {a : Act} {H : Hp} {ms : List Mon} {ws wk : List Slp} {came : Int} {all wa wo : V} {hs kp inn : List Int} (h : Tn x l i a H ms ws wk came all wa wo hs kp inn) : (∀ H e, lenK H (.slice e) x = some (.int .i64 (l.length : Int))) ∧ decide ((i : Int) < (l.length : Int)) = true ∧ IntKind.i64.wrap ((i : Int) + 1) = ((i + 1 : Nat) : Int) ∧ (∀ p q, clip p q (.v x) = .v x) ∧ RdAt H x 5 i (actV a) := by
  have hlt := (List.getElem?_eq_some_iff.1 h.hd).1
  have hi := h.hi
  refine ⟨fun H e => by have := (h.hx H).len e; rwa [List.length_map] at this, decide_eq_true (by omega), by rw [IntWalk.i64_in _ (by omega)]; omega, (h.hx H).clip2, ?_⟩
  exact (h.hx H).at_ (by rw [List.getElem?_map, h.hd]; rfl) rfl
theorem wpCall_run {C : Abs.Callee} {f : FuncId} {args : List V} {H : Hp} {K : Out → Hp → Prop} (h : wpCall C f args H K) : ∃ out H', C f args H = some (out, H') ∧ K out H' := by
  unfold wpCall at h
  cases hc : C f args H with
  | none => rw [hc] at h; exact h.elim
  | some r => rw [hc] at h; exact ⟨r.1, r.2, rfl, h⟩
theorem ivs_put {l : List Int} {i : Nat} {v : Int} (h : i < l.length) : List.take i (ivs l) ++ [.int .i64 v] ++ List.drop (i + 1) (ivs l) = ivs (l.set i v) := ivs_set h
theorem ysel_sel {sel : Nat → Slp → Bool} {l : List Slp} {s : Slp} : ∀ i, s ∈ ysel sel l i → ∃ j, sel j s = true
  | 0, h => by simp [ysel] at h
  | i + 1, h => by
    rw [ysel] at h
    rcases List.mem_append.1 h with h | h
    · exact ysel_sel i h
    · split at h
      · rename_i x hx
        split at h
        · rename_i hs
          rw [List.mem_singleton.1 h]; exact ⟨i, hs⟩
        · cases h
      · cases h
/-- Those that are woken: who they are -/
structure Wok (ys : List Slp) (inn : List Int) (p : Nat → Prop) : Prop where
  mem : ∀ s ∈ ys, ∃ d c : Nat, s.t = d ∧ d < 4 ∧ c < 3 ∧ p c ∧ inn[d]? = some ((c : Int) + 1)
  one : ∀ d : Nat, d < 4 → cS ys d ≤ 1
theorem notify_ti {H : Hp} {ms : List Mon} {ws wk : List Slp} {came : Int} {al wa wo : V} {hs kp inn : List Int} (L : LK H 0 ms ws wk came al wa wo) (T : TI ms ws wk hs kp inn) (c d : Nat) (all : Bool) :
    wpCall EW 14 [.ptr 0 0 0, .int .i64 c, .int .i64 d, .bool all] H (fun out H' => ∃ o e ys wa' wo' ws' wk', out = .ret (.tup [o, .int .i64 e]) false ∧ LK H' 0 ms ws' wk' came al wa' wo' ∧ TI ms ws' wk' hs kp (flipIn inn ys) ∧ Sx H' o (ys.map timV) ∧ Wok ys inn (· = c) ∧ ys.length ≤ 4) := by
  have hsm := T.small
  refine wpCall_of (notify_spec L c d all (by omega)) (fun out H' ho => ?_)
  by_cases hh : hasB ms c d = 0
  · rw [if_pos hh] at ho
    obtain ⟨o, wa', wo', rfl, L1, hx⟩ := ho
    obtain ⟨T2, m1, m2⟩ := T.wake (selN c all ws) true (List.Perm.refl _)
    refine ⟨o, 0, _, wa', wo', _, _, rfl, L1, T2, hx, ⟨fun s hs => ?_, m2⟩, ?_⟩
    · obtain ⟨d', c', e1, e2, e3, e4, e5⟩ := m1 s hs
      obtain ⟨j, hj⟩ := ysel_sel _ hs
      unfold selN at hj
      simp only [Bool.and_eq_true, beq_iff_eq] at hj
      exact ⟨d', c', e1, e2, e4, by have := hj.1; omega, e5⟩
    · have := ysel_len (selN c all ws) ws ws.length; omega
  · rw [if_neg hh] at ho
    obtain ⟨rfl, L1⟩ := ho
    exact ⟨.nils, _, [], wa, wo, ws, wk, rfl, L1, by rw [flip_nil]; exact T, .nils, ⟨fun s hs => (by cases hs), fun d hd => Nat.zero_le _⟩, by simp⟩
theorem expire_ti {H : Hp} {ms : List Mon} {ws wk : List Slp} {came : Int} {al wa wo : V} {hs kp inn : List Int} (L : LK H 0 ms ws wk came al wa wo) (T : TI ms ws wk hs kp inn) (now : Int) :
    wpCall EW 15 [.ptr 0 0 0, .int .i64 now] H (fun out H' => ∃ o ys wa' wo' ws' wk', out = .ret o false ∧ LK H' 0 ms ws' wk' came al wa' wo' ∧ TI ms ws' wk' hs kp (flipIn inn ys) ∧ Sx H' o (ys.map timV) ∧ Wok ys inn (fun _ => True) ∧ ys.length ≤ 4) := by
  have hsm := T.small
  refine wpCall_of (expire_spec L now (by omega) (by omega)) (fun out H' ho => ?_)
  obtain ⟨l', o, wa', wo', hp, rfl, L1, hx⟩ := ho
  obtain ⟨T2, m1, m2⟩ := T.wake (dueB now) false hp
  refine ⟨o, l', wa', wo', _, _, rfl, L1, T2, hx, ⟨fun s hs => ?_, m2⟩, ?_⟩
  · obtain ⟨d', c', e1, e2, e3, e4, e5⟩ := m1 s hs
    exact ⟨d', c', e1, e2, e4, trivial, e5⟩
  · have := ysel_len (dueB now) ws ws.length
    have := hp.length_eq
    omega
end Go.Proofs.Ythicacphcljdmaa

/- LockTrue: a lock. -/
namespace Go.Proofs.Ythicacphcljdmaa
open Go Go.Abs Go.Proofs
set_option maxRecDepth 100000
set_option maxHeartbeats 16000000
set_option linter.unusedVariables false
set_option linter.unusedSimpArgs false
theorem act_lock {Q : Post} {x : V} {l : List Act} {i : Nat} {a : Act} {H : Hp} {ms : List Mon} {ws wk : List Slp} {came : Int} {all wa wo : V} {hs kp inn : List Int} (h : Tn x l i a H ms ws wk came all wa wo hs kp inn) (hq : Nx Q x i) {c d : Nat} {n : Int} {al : Bool} (ha : a = ⟨1, c, d, n, al⟩) (hc : c < 3) (hd4 : d < 4) :
    wpC (envOf Try.prog notes (evW Try.prog notes) 4) (loopOf Try.f4 14) (st14 x i hs kp inn) H Q := by
  obtain ⟨hlen, g1, hi1, hcx, hat⟩ := h.len
  obtain ⟨hx, hd, hi, L, T⟩ := h
  have h1' := hx H
  have hcA : ∀ m, (actC ⟨1, c, d, n, al⟩).map (clipV m) = actC ⟨1, c, d, n, al⟩ := fun _ => rfl
  have hcl := fun l => ivs_clip l
  simp only [actV] at hat
  subst ha
  have b0 : decide ((c : Int) < 0) = false := decide_eq_false (by omega)
  have b1 : decide ((2 : Int) < (c : Int)) = false := decide_eq_false (by omega)
  have b2 : decide ((d : Int) < 0) = false := decide_eq_false (by omega)
  have b3 : decide ((3 : Int) < (d : Int)) = false := decide_eq_false (by omega)
  have p3 : ((c : Int) < ((3 : Nat) : Int)) = True := eq_true (by omega)
  have p4 : ((d : Int) < ((4 : Nat) : Int)) = True := eq_true (by omega)
  have q1 : (c * 4 + d * 1 + 1 ≤ 12) = True := eq_true (by omega)
  have q2 : (d * 1 + 1 ≤ 4) = True := eq_true (by omega)
  have k1 : (ivs hs).length = 12 := by rw [ivs_len]; exact T.lh
  have k2 : (ivs kp).length = 4 := by rw [ivs_len]; exact T.lk
  have k3 : (ivs inn).length = 4 := by rw [ivs_len]; exact T.li
  have hcd : c * 4 + d * 1 = 4 * c + d := by omega
  have hsl := T.small
  obtain ⟨v, hv, hcase⟩ := T.lock hc hd4
  have hl := lock_spec L (c : Int) (d : Int) (by omega) (by omega)
  have hg : (ivs hs)[c * 4 + d * 1]? = some (.int .i64 v) := by rw [hcd]; exact ivs_at hv
  simp only [loopOf, bodyOf, Try.f4, Option.getD_some, findLoop, firstReg, orC_some, orC_none, Nat.reduceEqDiff, decide_true, decide_false]
  simp only [st14, L4_14]
  rcases hcase with ⟨e1, e2⟩ | ⟨e1, e2, e3, T2⟩
  · have g2 : ((lockM ms ws wk c d).1 == 0) = false := by simpa using e1
    rw [e2] at hl
    simp only [WW, partV, eqCells, eqLf, minV, maxV, ifcV, zaa, zab, zac, zad, zae, zaf, zag, zah, zai, ofConst, ofConst1, List.replicate, zaj, zak, loadOp, Go.Abs.loadCells, binV, zal, pickV, zam, zan, zao, zap, zaq, zar, zas, zat, zau, outR, resAll, resOne, zav, zaw, zax, zay, zaz, zba, zbb, zbc, zbd, zbe, zbf, zbg, zbh, zbi, zbj, zbk, storeOp, storeCell, overlay, zbl, zbm, zbn, lookupOp, keyT, okRes, mapUpdateOp, zbo, zbp, zbq, zbr, zbs, zbt, zbu, Nat.reduceSub, Nat.reduceAdd, Int.reduceLT, Int.reduceLE, Int.reduceAdd, Int.reduceSub, Int.reduceToNat, Int.reduceBEq, Int.reduceBNe, Int.reduceMul, Nat.reduceBEq, Nat.reduceBNe, Nat.reduceLT, Nat.reduceLeDiff, Nat.reduceMul, Nat.reduceEqDiff, WD, effB, effH, isPriv, isHeap, isImm, zbx, zby, zbz, chkO, setD, dslot, zca, zcb, zcc, zcd, ptrCells_some, F4, g1, hlen, h1'.shutIn, hat.at1 h1', hat.fa, hat.cells, b0, b1, b2, b3, p3, p4]
    refine wpCall_of hl ?_
    rintro out H1 ⟨rfl, L1⟩
    simp only [WW, partV, eqCells, eqLf, minV, maxV, ifcV, zaa, zab, zac, zad, zae, zaf, zag, zah, zai, ofConst, ofConst1, List.replicate, zaj, zak, loadOp, Go.Abs.loadCells, binV, zal, pickV, zam, zan, zao, zap, zaq, zar, zas, zat, zau, outR, resAll, resOne, zav, zaw, zax, zay, zaz, zba, zbb, zbc, zbd, zbe, zbf, zbg, zbh, zbi, zbj, zbk, storeOp, storeCell, overlay, zbl, zbm, zbn, lookupOp, keyT, okRes, mapUpdateOp, zbo, zbp, zbq, zbr, zbs, zbt, zbu, Nat.reduceSub, Nat.reduceAdd, Int.reduceLT, Int.reduceLE, Int.reduceAdd, Int.reduceSub, Int.reduceToNat, Int.reduceBEq, Int.reduceBNe, Int.reduceMul, Nat.reduceBEq, Nat.reduceBNe, Nat.reduceLT, Nat.reduceLeDiff, Nat.reduceMul, Nat.reduceEqDiff, WD, effB, effH, isPriv, isHeap, isImm, zbx, zby, zbz, chkO, setD, dslot, zca, zcb, zcc, zcd, ptrCells_some, F4, wpCall_eq (num_eq _ _), g2]
    refine loop55 (x := x) (i := i) (a := ⟨1, c, d, n, al⟩) (hs := hs) (kp := kp) (inn := inn) ?_ rfl rfl hcx L1 T ?_
    · first | rw [nm4_55] | rw [nk4_55]
      simp only [bits4_55, maskC_nil, maskC_t, maskC_f, WN, firstReg, growAll, zbv, zbw, norm, killS, zag, zah, zaa, zab, zbl, zat, zad, growOne, zae, zaf, zac, zas, zak, Nat.reduceLT, Nat.reduceAdd, zbj, zav, L4_55, hcx, hcl, hcA, actC]
      try rfl
    · simp only [L4_55]
      simp only [WW, partV, eqCells, eqLf, minV, maxV, ifcV, zaa, zab, zac, zad, zae, zaf, zag, zah, zai, ofConst, ofConst1, List.replicate, zaj, zak, loadOp, Go.Abs.loadCells, binV, zal, pickV, zam, zan, zao, zap, zaq, zar, zas, zat, zau, outR, resAll, resOne, zav, zaw, zax, zay, zaz, zba, zbb, zbc, zbd, zbe, zbf, zbg, zbh, zbi, zbj, zbk, storeOp, storeCell, overlay, zbl, zbm, zbn, lookupOp, keyT, okRes, mapUpdateOp, zbo, zbp, zbq, zbr, zbs, zbt, zbu, Nat.reduceSub, Nat.reduceAdd, Int.reduceLT, Int.reduceLE, Int.reduceAdd, Int.reduceSub, Int.reduceToNat, Int.reduceBEq, Int.reduceBNe, Int.reduceMul, Nat.reduceBEq, Nat.reduceBNe, Nat.reduceLT, Nat.reduceLeDiff, Nat.reduceMul, Nat.reduceEqDiff, WD, effB, effH, isPriv, isHeap, isImm, zbx, zby, zbz, chkO, setD, dslot, zca, zcb, zcc, zcd, ptrCells_some, F4]
      refine loop69 (x := x) (i := i) (a := ⟨1, c, d, n, al⟩) (hs := hs) (kp := kp) (inn := inn) ?_ rfl rfl hcx L1 T ?_
      · first | rw [nm4_69] | rw [nk4_69]
        simp only [bits4_69, maskC_nil, maskC_t, maskC_f, WN, firstReg, growAll, zbv, zbw, norm, killS, zag, zah, zaa, zab, zbl, zat, zad, growOne, zae, zaf, zac, zas, zak, Nat.reduceLT, Nat.reduceAdd, zbj, zav, L4_69, hcx, hcl, hcA, actC]
        try rfl
      · intro H9 L9
        simp only [L4_69]
        simp only [WW, partV, eqCells, eqLf, minV, maxV, ifcV, zaa, zab, zac, zad, zae, zaf, zag, zah, zai, ofConst, ofConst1, List.replicate, zaj, zak, loadOp, Go.Abs.loadCells, binV, zal, pickV, zam, zan, zao, zap, zaq, zar, zas, zat, zau, outR, resAll, resOne, zav, zaw, zax, zay, zaz, zba, zbb, zbc, zbd, zbe, zbf, zbg, zbh, zbi, zbj, zbk, storeOp, storeCell, overlay, zbl, zbm, zbn, lookupOp, keyT, okRes, mapUpdateOp, zbo, zbp, zbq, zbr, zbs, zbt, zbu, Nat.reduceSub, Nat.reduceAdd, Int.reduceLT, Int.reduceLE, Int.reduceAdd, Int.reduceSub, Int.reduceToNat, Int.reduceBEq, Int.reduceBNe, Int.reduceMul, Nat.reduceBEq, Nat.reduceBNe, Nat.reduceLT, Nat.reduceLeDiff, Nat.reduceMul, Nat.reduceEqDiff, WD, effB, effH, isPriv, isHeap, isImm, zbx, zby, zbz, chkO, setD, dslot, zca, zcb, zcc, zcd, ptrCells_some, F4, hi1]
        refine hq _ H9 _ _ _ _ _ _ _ _ _ _ ?_ L9 T
        first | rw [nm4_14] | rw [nk4_14]
        simp only [bits4_14, maskC_nil, maskC_t, maskC_f, WN, firstReg, growAll, zbv, zbw, norm, killS, zag, zah, zaa, zab, zbl, zat, zad, growOne, zae, zaf, zac, zas, zak, Nat.reduceLT, Nat.reduceAdd, zbj, zav, L4_14, hcx, hcl]
        try rfl
  · rw [e1] at hl
    have ho : List.take (c * 4 + d * 1) (ivs hs) ++ [.int .i64 (v + 1)] ++ List.drop (c * 4 + d * 1 + 1) (ivs hs) = ivs (hs.set (4 * c + d) (v + 1)) := by rw [hcd]; exact ivs_put (by have := T.lh; omega)
    have hi0 : (ivs inn)[d * 1]? = some (.int .i64 0) := by rw [Nat.mul_one]; exact ivs_at e3
    simp only [WW, partV, eqCells, eqLf, minV, maxV, ifcV, zaa, zab, zac, zad, zae, zaf, zag, zah, zai, ofConst, ofConst1, List.replicate, zaj, zak, loadOp, Go.Abs.loadCells, binV, zal, pickV, zam, zan, zao, zap, zaq, zar, zas, zat, zau, outR, resAll, resOne, zav, zaw, zax, zay, zaz, zba, zbb, zbc, zbd, zbe, zbf, zbg, zbh, zbi, zbj, zbk, storeOp, storeCell, overlay, zbl, zbm, zbn, lookupOp, keyT, okRes, mapUpdateOp, zbo, zbp, zbq, zbr, zbs, zbt, zbu, Nat.reduceSub, Nat.reduceAdd, Int.reduceLT, Int.reduceLE, Int.reduceAdd, Int.reduceSub, Int.reduceToNat, Int.reduceBEq, Int.reduceBNe, Int.reduceMul, Nat.reduceBEq, Nat.reduceBNe, Nat.reduceLT, Nat.reduceLeDiff, Nat.reduceMul, Nat.reduceEqDiff, WD, effB, effH, isPriv, isHeap, isImm, zbx, zby, zbz, chkO, setD, dslot, zca, zcb, zcc, zcd, ptrCells_some, F4, g1, hlen, h1'.shutIn, hat.at1 h1', hat.fa, hat.cells, b0, b1, b2, b3, p3, p4]
    refine wpCall_of hl ?_
    rintro out H1 ⟨rfl, L1⟩
    simp only [WW, partV, eqCells, eqLf, minV, maxV, ifcV, zaa, zab, zac, zad, zae, zaf, zag, zah, zai, ofConst, ofConst1, List.replicate, zaj, zak, loadOp, Go.Abs.loadCells, binV, zal, pickV, zam, zan, zao, zap, zaq, zar, zas, zat, zau, outR, resAll, resOne, zav, zaw, zax, zay, zaz, zba, zbb, zbc, zbd, zbe, zbf, zbg, zbh, zbi, zbj, zbk, storeOp, storeCell, overlay, zbl, zbm, zbn, lookupOp, keyT, okRes, mapUpdateOp, zbo, zbp, zbq, zbr, zbs, zbt, zbu, Nat.reduceSub, Nat.reduceAdd, Int.reduceLT, Int.reduceLE, Int.reduceAdd, Int.reduceSub, Int.reduceToNat, Int.reduceBEq, Int.reduceBNe, Int.reduceMul, Nat.reduceBEq, Nat.reduceBNe, Nat.reduceLT, Nat.reduceLeDiff, Nat.reduceMul, Nat.reduceEqDiff, WD, effB, effH, isPriv, isHeap, isImm, zbx, zby, zbz, chkO, setD, dslot, zca, zcb, zcc, zcd, ptrCells_some, F4, wpCall_eq (num_eq _ _)]
    refine wC_dr alts4_21 (by kernel_rfl) ?_
    simp only [WW, partV, eqCells, eqLf, minV, maxV, ifcV, zaa, zab, zac, zad, zae, zaf, zag, zah, zai, ofConst, ofConst1, List.replicate, zaj, zak, loadOp, Go.Abs.loadCells, binV, zal, pickV, zam, zan, zao, zap, zaq, zar, zas, zat, zau, outR, resAll, resOne, zav, zaw, zax, zay, zaz, zba, zbb, zbc, zbd, zbe, zbf, zbg, zbh, zbi, zbj, zbk, storeOp, storeCell, overlay, zbl, zbm, zbn, lookupOp, keyT, okRes, mapUpdateOp, zbo, zbp, zbq, zbr, zbs, zbt, zbu, Nat.reduceSub, Nat.reduceAdd, Int.reduceLT, Int.reduceLE, Int.reduceAdd, Int.reduceSub, Int.reduceToNat, Int.reduceBEq, Int.reduceBNe, Int.reduceMul, Nat.reduceBEq, Nat.reduceBNe, Nat.reduceLT, Nat.reduceLeDiff, Nat.reduceMul, Nat.reduceEqDiff, WD, effB, effH, isPriv, isHeap, isImm, zbx, zby, zbz, chkO, setD, dslot, zca, zcb, zcc, zcd, ptrCells_some, F4, alts4_21, p3, p4, hg, e2, k1, q1, ho, hi0]
    refine loop55 (x := x) (i := i) (a := ⟨1, c, d, n, al⟩) (hs := hs.set (4 * c + d) (v + 1)) (kp := kp) (inn := inn) ?_ rfl rfl hcx L1 T2 ?_
    · first | rw [nm4_55] | rw [nk4_55]
      simp only [bits4_55, maskC_nil, maskC_t, maskC_f, WN, firstReg, growAll, zbv, zbw, norm, killS, zag, zah, zaa, zab, zbl, zat, zad, growOne, zae, zaf, zac, zas, zak, Nat.reduceLT, Nat.reduceAdd, zbj, zav, L4_55, hcx, hcl, hcA, actC]
      try rfl
    · simp only [L4_55]
      simp only [WW, partV, eqCells, eqLf, minV, maxV, ifcV, zaa, zab, zac, zad, zae, zaf, zag, zah, zai, ofConst, ofConst1, List.replicate, zaj, zak, loadOp, Go.Abs.loadCells, binV, zal, pickV, zam, zan, zao, zap, zaq, zar, zas, zat, zau, outR, resAll, resOne, zav, zaw, zax, zay, zaz, zba, zbb, zbc, zbd, zbe, zbf, zbg, zbh, zbi, zbj, zbk, storeOp, storeCell, overlay, zbl, zbm, zbn, lookupOp, keyT, okRes, mapUpdateOp, zbo, zbp, zbq, zbr, zbs, zbt, zbu, Nat.reduceSub, Nat.reduceAdd, Int.reduceLT, Int.reduceLE, Int.reduceAdd, Int.reduceSub, Int.reduceToNat, Int.reduceBEq, Int.reduceBNe, Int.reduceMul, Nat.reduceBEq, Nat.reduceBNe, Nat.reduceLT, Nat.reduceLeDiff, Nat.reduceMul, Nat.reduceEqDiff, WD, effB, effH, isPriv, isHeap, isImm, zbx, zby, zbz, chkO, setD, dslot, zca, zcb, zcc, zcd, ptrCells_some, F4]
      refine loop69 (x := x) (i := i) (a := ⟨1, c, d, n, al⟩) (hs := hs.set (4 * c + d) (v + 1)) (kp := kp) (inn := inn) ?_ rfl rfl hcx L1 T2 ?_
      · first | rw [nm4_69] | rw [nk4_69]
        simp only [bits4_69, maskC_nil, maskC_t, maskC_f, WN, firstReg, growAll, zbv, zbw, norm, killS, zag, zah, zaa, zab, zbl, zat, zad, growOne, zae, zaf, zac, zas, zak, Nat.reduceLT, Nat.reduceAdd, zbj, zav, L4_69, hcx, hcl, hcA, actC]
        try rfl
      · intro H9 L9
        simp only [L4_69]
        simp only [WW, partV, eqCells, eqLf, minV, maxV, ifcV, zaa, zab, zac, zad, zae, zaf, zag, zah, zai, ofConst, ofConst1, List.replicate, zaj, zak, loadOp, Go.Abs.loadCells, binV, zal, pickV, zam, zan, zao, zap, zaq, zar, zas, zat, zau, outR, resAll, resOne, zav, zaw, zax, zay, zaz, zba, zbb, zbc, zbd, zbe, zbf, zbg, zbh, zbi, zbj, zbk, storeOp, storeCell, overlay, zbl, zbm, zbn, lookupOp, keyT, okRes, mapUpdateOp, zbo, zbp, zbq, zbr, zbs, zbt, zbu, Nat.reduceSub, Nat.reduceAdd, Int.reduceLT, Int.reduceLE, Int.reduceAdd, Int.reduceSub, Int.reduceToNat, Int.reduceBEq, Int.reduceBNe, Int.reduceMul, Nat.reduceBEq, Nat.reduceBNe, Nat.reduceLT, Nat.reduceLeDiff, Nat.reduceMul, Nat.reduceEqDiff, WD, effB, effH, isPriv, isHeap, isImm, zbx, zby, zbz, chkO, setD, dslot, zca, zcb, zcc, zcd, ptrCells_some, F4, hi1]
        refine hq _ H9 _ _ _ _ _ _ _ _ _ _ ?_ L9 T2
        first | rw [nm4_14] | rw [nk4_14]
        simp only [bits4_14, maskC_nil, maskC_t, maskC_f, WN, firstReg, growAll, zbv, zbw, norm, killS, zag, zah, zaa, zab, zbl, zat, zad, growOne, zae, zaf, zac, zas, zak, Nat.reduceLT, Nat.reduceAdd, zbj, zav, L4_14, hcx, hcl]
        try rfl
end Go.Proofs.Ythicacphcljdmaa

/- LockTrue: an unlock. -/
namespace Go.Proofs.Ythicacphcljdmaa
open Go Go.Abs Go.Proofs
set_option maxRecDepth 100000
set_option maxHeartbeats 16000000
set_option linter.unusedVariables false
set_option linter.unusedSimpArgs false
theorem act_unlock {Q : Post} {x : V} {l : List Act} {i : Nat} {a : Act} {H : Hp} {ms : List Mon} {ws wk : List Slp} {came : Int} {all wa wo : V} {hs kp inn : List Int} (h : Tn x l i a H ms ws wk came all wa wo hs kp inn) (hq : Nx Q x i) {c d : Nat} {n : Int} {al : Bool} (ha : a = ⟨2, c, d, n, al⟩) (hc : c < 3) (hd4 : d < 4) :
    wpC (envOf Try.prog notes (evW Try.prog notes) 4) (loopOf Try.f4 14) (st14 x i hs kp inn) H Q := by
  obtain ⟨hlen, g1, hi1, hcx, hat⟩ := h.len
  obtain ⟨hx, hd, hi, L, T⟩ := h
  have h1' := hx H
  have hcA : ∀ m, (actC ⟨2, c, d, n, al⟩).map (clipV m) = actC ⟨2, c, d, n, al⟩ := fun _ => rfl
  have hcl := fun l => ivs_clip l
  simp only [actV] at hat
  subst ha
  have b0 : decide ((c : Int) < 0) = false := decide_eq_false (by omega)
  have b1 : decide ((2 : Int) < (c : Int)) = false := decide_eq_false (by omega)
  have b2 : decide ((d : Int) < 0) = false := decide_eq_false (by omega)
  have b3 : decide ((3 : Int) < (d : Int)) = false := decide_eq_false (by omega)
  have p3 : ((c : Int) < ((3 : Nat) : Int)) = True := eq_true (by omega)
  have p4 : ((d : Int) < ((4 : Nat) : Int)) = True := eq_true (by omega)
  have q1 : (c * 4 + d * 1 + 1 ≤ 12) = True := eq_true (by omega)
  have q2 : (d * 1 + 1 ≤ 4) = True := eq_true (by omega)
  have k1 : (ivs hs).length = 12 := by rw [ivs_len]; exact T.lh
  have k2 : (ivs kp).length = 4 := by rw [ivs_len]; exact T.lk
  have k3 : (ivs inn).length = 4 := by rw [ivs_len]; exact T.li
  have hcd : c * 4 + d * 1 = 4 * c + d := by omega
  have hsl := T.small
  obtain ⟨v, hv, hcase⟩ := T.unlock hc hd4
  obtain ⟨out, H1, heq, rfl, L1⟩ := wpCall_run (unlock_spec L (c : Int) (d : Int))
  have hg : (ivs hs)[c * 4 + d * 1]? = some (.int .i64 v) := by rw [hcd]; exact ivs_at hv
  simp only [loopOf, bodyOf, Try.f4, Option.getD_some, findLoop, firstReg, orC_some, orC_none, Nat.reduceEqDiff, decide_true, decide_false]
  simp only [st14, L4_14]
  rcases hcase with ⟨e1, e2, e3⟩ | ⟨e1, e2, e3, T2⟩
  · have g2 : ((unlockM ms c d).1 == 0) = false := by simpa using e1
    subst e2
    rw [e3] at L1
    simp only [WW, partV, eqCells, eqLf, minV, maxV, ifcV, zaa, zab, zac, zad, zae, zaf, zag, zah, zai, ofConst, ofConst1, List.replicate, zaj, zak, loadOp, Go.Abs.loadCells, binV, zal, pickV, zam, zan, zao, zap, zaq, zar, zas, zat, zau, outR, resAll, resOne, zav, zaw, zax, zay, zaz, zba, zbb, zbc, zbd, zbe, zbf, zbg, zbh, zbi, zbj, zbk, storeOp, storeCell, overlay, zbl, zbm, zbn, lookupOp, keyT, okRes, mapUpdateOp, zbo, zbp, zbq, zbr, zbs, zbt, zbu, Nat.reduceSub, Nat.reduceAdd, Int.reduceLT, Int.reduceLE, Int.reduceAdd, Int.reduceSub, Int.reduceToNat, Int.reduceBEq, Int.reduceBNe, Int.reduceMul, Nat.reduceBEq, Nat.reduceBNe, Nat.reduceLT, Nat.reduceLeDiff, Nat.reduceMul, Nat.reduceEqDiff, WD, effB, effH, isPriv, isHeap, isImm, zbx, zby, zbz, chkO, setD, dslot, zca, zcb, zcc, zcd, ptrCells_some, F4, g1, hlen, h1'.shutIn, hat.at1 h1', hat.fa, hat.cells, b0, b1, b2, b3, p3, p4]
    refine wC_dr alts4_25 (by kernel_rfl) ?_
    simp only [WW, partV, eqCells, eqLf, minV, maxV, ifcV, zaa, zab, zac, zad, zae, zaf, zag, zah, zai, ofConst, ofConst1, List.replicate, zaj, zak, loadOp, Go.Abs.loadCells, binV, zal, pickV, zam, zan, zao, zap, zaq, zar, zas, zat, zau, outR, resAll, resOne, zav, zaw, zax, zay, zaz, zba, zbb, zbc, zbd, zbe, zbf, zbg, zbh, zbi, zbj, zbk, storeOp, storeCell, overlay, zbl, zbm, zbn, lookupOp, keyT, okRes, mapUpdateOp, zbo, zbp, zbq, zbr, zbs, zbt, zbu, Nat.reduceSub, Nat.reduceAdd, Int.reduceLT, Int.reduceLE, Int.reduceAdd, Int.reduceSub, Int.reduceToNat, Int.reduceBEq, Int.reduceBNe, Int.reduceMul, Nat.reduceBEq, Nat.reduceBNe, Nat.reduceLT, Nat.reduceLeDiff, Nat.reduceMul, Nat.reduceEqDiff, WD, effB, effH, isPriv, isHeap, isImm, zbx, zby, zbz, chkO, setD, dslot, zca, zcb, zcc, zcd, ptrCells_some, F4, alts4_25, p3, p4, hg, wpCall_eq heq, wpCall_eq (num_eq _ _), g2]
    refine wC_dr alts4_27 (by kernel_rfl) ?_
    simp only [WW, partV, eqCells, eqLf, minV, maxV, ifcV, zaa, zab, zac, zad, zae, zaf, zag, zah, zai, ofConst, ofConst1, List.replicate, zaj, zak, loadOp, Go.Abs.loadCells, binV, zal, pickV, zam, zan, zao, zap, zaq, zar, zas, zat, zau, outR, resAll, resOne, zav, zaw, zax, zay, zaz, zba, zbb, zbc, zbd, zbe, zbf, zbg, zbh, zbi, zbj, zbk, storeOp, storeCell, overlay, zbl, zbm, zbn, lookupOp, keyT, okRes, mapUpdateOp, zbo, zbp, zbq, zbr, zbs, zbt, zbu, Nat.reduceSub, Nat.reduceAdd, Int.reduceLT, Int.reduceLE, Int.reduceAdd, Int.reduceSub, Int.reduceToNat, Int.reduceBEq, Int.reduceBNe, Int.reduceMul, Nat.reduceBEq, Nat.reduceBNe, Nat.reduceLT, Nat.reduceLeDiff, Nat.reduceMul, Nat.reduceEqDiff, WD, effB, effH, isPriv, isHeap, isImm, zbx, zby, zbz, chkO, setD, dslot, zca, zcb, zcc, zcd, ptrCells_some, F4, alts4_27, p3, p4, hg, Int.lt_irrefl]
    refine loop55 (x := x) (i := i) (a := ⟨2, c, d, n, al⟩) (hs := hs) (kp := kp) (inn := inn) ?_ rfl rfl hcx L1 T ?_
    · first | rw [nm4_55] | rw [nk4_55]
      simp only [bits4_55, maskC_nil, maskC_t, maskC_f, WN, firstReg, growAll, zbv, zbw, norm, killS, zag, zah, zaa, zab, zbl, zat, zad, growOne, zae, zaf, zac, zas, zak, Nat.reduceLT, Nat.reduceAdd, zbj, zav, L4_55, hcx, hcl, hcA, actC]
      try rfl
    · simp only [L4_55]
      simp only [WW, partV, eqCells, eqLf, minV, maxV, ifcV, zaa, zab, zac, zad, zae, zaf, zag, zah, zai, ofConst, ofConst1, List.replicate, zaj, zak, loadOp, Go.Abs.loadCells, binV, zal, pickV, zam, zan, zao, zap, zaq, zar, zas, zat, zau, outR, resAll, resOne, zav, zaw, zax, zay, zaz, zba, zbb, zbc, zbd, zbe, zbf, zbg, zbh, zbi, zbj, zbk, storeOp, storeCell, overlay, zbl, zbm, zbn, lookupOp, keyT, okRes, mapUpdateOp, zbo, zbp, zbq, zbr, zbs, zbt, zbu, Nat.reduceSub, Nat.reduceAdd, Int.reduceLT, Int.reduceLE, Int.reduceAdd, Int.reduceSub, Int.reduceToNat, Int.reduceBEq, Int.reduceBNe, Int.reduceMul, Nat.reduceBEq, Nat.reduceBNe, Nat.reduceLT, Nat.reduceLeDiff, Nat.reduceMul, Nat.reduceEqDiff, WD, effB, effH, isPriv, isHeap, isImm, zbx, zby, zbz, chkO, setD, dslot, zca, zcb, zcc, zcd, ptrCells_some, F4]
      refine loop69 (x := x) (i := i) (a := ⟨2, c, d, n, al⟩) (hs := hs) (kp := kp) (inn := inn) ?_ rfl rfl hcx L1 T ?_
      · first | rw [nm4_69] | rw [nk4_69]
        simp only [bits4_69, maskC_nil, maskC_t, maskC_f, WN, firstReg, growAll, zbv, zbw, norm, killS, zag, zah, zaa, zab, zbl, zat, zad, growOne, zae, zaf, zac, zas, zak, Nat.reduceLT, Nat.reduceAdd, zbj, zav, L4_69, hcx, hcl, hcA, actC]
        try rfl
      · intro H9 L9
        simp only [L4_69]
        simp only [WW, partV, eqCells, eqLf, minV, maxV, ifcV, zaa, zab, zac, zad, zae, zaf, zag, zah, zai, ofConst, ofConst1, List.replicate, zaj, zak, loadOp, Go.Abs.loadCells, binV, zal, pickV, zam, zan, zao, zap, zaq, zar, zas, zat, zau, outR, resAll, resOne, zav, zaw, zax, zay, zaz, zba, zbb, zbc, zbd, zbe, zbf, zbg, zbh, zbi, zbj, zbk, storeOp, storeCell, overlay, zbl, zbm, zbn, lookupOp, keyT, okRes, mapUpdateOp, zbo, zbp, zbq, zbr, zbs, zbt, zbu, Nat.reduceSub, Nat.reduceAdd, Int.reduceLT, Int.reduceLE, Int.reduceAdd, Int.reduceSub, Int.reduceToNat, Int.reduceBEq, Int.reduceBNe, Int.reduceMul, Nat.reduceBEq, Nat.reduceBNe, Nat.reduceLT, Nat.reduceLeDiff, Nat.reduceMul, Nat.reduceEqDiff, WD, effB, effH, isPriv, isHeap, isImm, zbx, zby, zbz, chkO, setD, dslot, zca, zcb, zcc, zcd, ptrCells_some, F4, hi1]
        refine hq _ H9 _ _ _ _ _ _ _ _ _ _ ?_ L9 T
        first | rw [nm4_14] | rw [nk4_14]
        simp only [bits4_14, maskC_nil, maskC_t, maskC_f, WN, firstReg, growAll, zbv, zbw, norm, killS, zag, zah, zaa, zab, zbl, zat, zad, growOne, zae, zaf, zac, zas, zak, Nat.reduceLT, Nat.reduceAdd, zbj, zav, L4_14, hcx, hcl]
        try rfl
  · rw [e1] at heq
    have g2 : decide (0 < v) = true := decide_eq_true e2
    have ho : List.take (c * 4 + d * 1) (ivs hs) ++ [.int .i64 (v - 1)] ++ List.drop (c * 4 + d * 1 + 1) (ivs hs) = ivs (hs.set (4 * c + d) (v - 1)) := by rw [hcd]; exact ivs_put (by have := T.lh; omega)
    simp only [WW, partV, eqCells, eqLf, minV, maxV, ifcV, zaa, zab, zac, zad, zae, zaf, zag, zah, zai, ofConst, ofConst1, List.replicate, zaj, zak, loadOp, Go.Abs.loadCells, binV, zal, pickV, zam, zan, zao, zap, zaq, zar, zas, zat, zau, outR, resAll, resOne, zav, zaw, zax, zay, zaz, zba, zbb, zbc, zbd, zbe, zbf, zbg, zbh, zbi, zbj, zbk, storeOp, storeCell, overlay, zbl, zbm, zbn, lookupOp, keyT, okRes, mapUpdateOp, zbo, zbp, zbq, zbr, zbs, zbt, zbu, Nat.reduceSub, Nat.reduceAdd, Int.reduceLT, Int.reduceLE, Int.reduceAdd, Int.reduceSub, Int.reduceToNat, Int.reduceBEq, Int.reduceBNe, Int.reduceMul, Nat.reduceBEq, Nat.reduceBNe, Nat.reduceLT, Nat.reduceLeDiff, Nat.reduceMul, Nat.reduceEqDiff, WD, effB, effH, isPriv, isHeap, isImm, zbx, zby, zbz, chkO, setD, dslot, zca, zcb, zcc, zcd, ptrCells_some, F4, g1, hlen, h1'.shutIn, hat.at1 h1', hat.fa, hat.cells, b0, b1, b2, b3, p3, p4]
    refine wC_dr alts4_25 (by kernel_rfl) ?_
    simp only [WW, partV, eqCells, eqLf, minV, maxV, ifcV, zaa, zab, zac, zad, zae, zaf, zag, zah, zai, ofConst, ofConst1, List.replicate, zaj, zak, loadOp, Go.Abs.loadCells, binV, zal, pickV, zam, zan, zao, zap, zaq, zar, zas, zat, zau, outR, resAll, resOne, zav, zaw, zax, zay, zaz, zba, zbb, zbc, zbd, zbe, zbf, zbg, zbh, zbi, zbj, zbk, storeOp, storeCell, overlay, zbl, zbm, zbn, lookupOp, keyT, okRes, mapUpdateOp, zbo, zbp, zbq, zbr, zbs, zbt, zbu, Nat.reduceSub, Nat.reduceAdd, Int.reduceLT, Int.reduceLE, Int.reduceAdd, Int.reduceSub, Int.reduceToNat, Int.reduceBEq, Int.reduceBNe, Int.reduceMul, Nat.reduceBEq, Nat.reduceBNe, Nat.reduceLT, Nat.reduceLeDiff, Nat.reduceMul, Nat.reduceEqDiff, WD, effB, effH, isPriv, isHeap, isImm, zbx, zby, zbz, chkO, setD, dslot, zca, zcb, zcc, zcd, ptrCells_some, F4, alts4_25, p3, p4, hg, wpCall_eq heq, wpCall_eq (num_eq _ _), g2]
    refine wC_dr alts4_27 (by kernel_rfl) ?_
    simp only [WW, partV, eqCells, eqLf, minV, maxV, ifcV, zaa, zab, zac, zad, zae, zaf, zag, zah, zai, ofConst, ofConst1, List.replicate, zaj, zak, loadOp, Go.Abs.loadCells, binV, zal, pickV, zam, zan, zao, zap, zaq, zar, zas, zat, zau, outR, resAll, resOne, zav, zaw, zax, zay, zaz, zba, zbb, zbc, zbd, zbe, zbf, zbg, zbh, zbi, zbj, zbk, storeOp, storeCell, overlay, zbl, zbm, zbn, lookupOp, keyT, okRes, mapUpdateOp, zbo, zbp, zbq, zbr, zbs, zbt, zbu, Nat.reduceSub, Nat.reduceAdd, Int.reduceLT, Int.reduceLE, Int.reduceAdd, Int.reduceSub, Int.reduceToNat, Int.reduceBEq, Int.reduceBNe, Int.reduceMul, Nat.reduceBEq, Nat.reduceBNe, Nat.reduceLT, Nat.reduceLeDiff, Nat.reduceMul, Nat.reduceEqDiff, WD, effB, effH, isPriv, isHeap, isImm, zbx, zby, zbz, chkO, setD, dslot, zca, zcb, zcc, zcd, ptrCells_some, F4, alts4_27, p3, p4, hg, g2]
    refine wC_dr alts4_28 (by kernel_rfl) ?_
    simp only [WW, partV, eqCells, eqLf, minV, maxV, ifcV, zaa, zab, zac, zad, zae, zaf, zag, zah, zai, ofConst, ofConst1, List.replicate, zaj, zak, loadOp, Go.Abs.loadCells, binV, zal, pickV, zam, zan, zao, zap, zaq, zar, zas, zat, zau, outR, resAll, resOne, zav, zaw, zax, zay, zaz, zba, zbb, zbc, zbd, zbe, zbf, zbg, zbh, zbi, zbj, zbk, storeOp, storeCell, overlay, zbl, zbm, zbn, lookupOp, keyT, okRes, mapUpdateOp, zbo, zbp, zbq, zbr, zbs, zbt, zbu, Nat.reduceSub, Nat.reduceAdd, Int.reduceLT, Int.reduceLE, Int.reduceAdd, Int.reduceSub, Int.reduceToNat, Int.reduceBEq, Int.reduceBNe, Int.reduceMul, Nat.reduceBEq, Nat.reduceBNe, Nat.reduceLT, Nat.reduceLeDiff, Nat.reduceMul, Nat.reduceEqDiff, WD, effB, effH, isPriv, isHeap, isImm, zbx, zby, zbz, chkO, setD, dslot, zca, zcb, zcc, zcd, ptrCells_some, F4, alts4_28, p3, p4, hg, e3, k1, q1, ho]
    refine loop55 (x := x) (i := i) (a := ⟨2, c, d, n, al⟩) (hs := hs.set (4 * c + d) (v - 1)) (kp := kp) (inn := inn) ?_ rfl rfl hcx L1 T2 ?_
    · first | rw [nm4_55] | rw [nk4_55]
      simp only [bits4_55, maskC_nil, maskC_t, maskC_f, WN, firstReg, growAll, zbv, zbw, norm, killS, zag, zah, zaa, zab, zbl, zat, zad, growOne, zae, zaf, zac, zas, zak, Nat.reduceLT, Nat.reduceAdd, zbj, zav, L4_55, hcx, hcl, hcA, actC]
      try rfl
    · simp only [L4_55]
      simp only [WW, partV, eqCells, eqLf, minV, maxV, ifcV, zaa, zab, zac, zad, zae, zaf, zag, zah, zai, ofConst, ofConst1, List.replicate, zaj, zak, loadOp, Go.Abs.loadCells, binV, zal, pickV, zam, zan, zao, zap, zaq, zar, zas, zat, zau, outR, resAll, resOne, zav, zaw, zax, zay, zaz, zba, zbb, zbc, zbd, zbe, zbf, zbg, zbh, zbi, zbj, zbk, storeOp, storeCell, overlay, zbl, zbm, zbn, lookupOp, keyT, okRes, mapUpdateOp, zbo, zbp, zbq, zbr, zbs, zbt, zbu, Nat.reduceSub, Nat.reduceAdd, Int.reduceLT, Int.reduceLE, Int.reduceAdd, Int.reduceSub, Int.reduceToNat, Int.reduceBEq, Int.reduceBNe, Int.reduceMul, Nat.reduceBEq, Nat.reduceBNe, Nat.reduceLT, Nat.reduceLeDiff, Nat.reduceMul, Nat.reduceEqDiff, WD, effB, effH, isPriv, isHeap, isImm, zbx, zby, zbz, chkO, setD, dslot, zca, zcb, zcc, zcd, ptrCells_some, F4]
      refine loop69 (x := x) (i := i) (a := ⟨2, c, d, n, al⟩) (hs := hs.set (4 * c + d) (v - 1)) (kp := kp) (inn := inn) ?_ rfl rfl hcx L1 T2 ?_
      · first | rw [nm4_69] | rw [nk4_69]
        simp only [bits4_69, maskC_nil, maskC_t, maskC_f, WN, firstReg, growAll, zbv, zbw, norm, killS, zag, zah, zaa, zab, zbl, zat, zad, growOne, zae, zaf, zac, zas, zak, Nat.reduceLT, Nat.reduceAdd, zbj, zav, L4_69, hcx, hcl, hcA, actC]
        try rfl
      · intro H9 L9
        simp only [L4_69]
        simp only [WW, partV, eqCells, eqLf, minV, maxV, ifcV, zaa, zab, zac, zad, zae, zaf, zag, zah, zai, ofConst, ofConst1, List.replicate, zaj, zak, loadOp, Go.Abs.loadCells, binV, zal, pickV, zam, zan, zao, zap, zaq, zar, zas, zat, zau, outR, resAll, resOne, zav, zaw, zax, zay, zaz, zba, zbb, zbc, zbd, zbe, zbf, zbg, zbh, zbi, zbj, zbk, storeOp, storeCell, overlay, zbl, zbm, zbn, lookupOp, keyT, okRes, mapUpdateOp, zbo, zbp, zbq, zbr, zbs, zbt, zbu, Nat.reduceSub, Nat.reduceAdd, Int.reduceLT, Int.reduceLE, Int.reduceAdd, Int.reduceSub, Int.reduceToNat, Int.reduceBEq, Int.reduceBNe, Int.reduceMul, Nat.reduceBEq, Nat.reduceBNe, Nat.reduceLT, Nat.reduceLeDiff, Nat.reduceMul, Nat.reduceEqDiff, WD, effB, effH, isPriv, isHeap, isImm, zbx, zby, zbz, chkO, setD, dslot, zca, zcb, zcc, zcd, ptrCells_some, F4, hi1]
        refine hq _ H9 _ _ _ _ _ _ _ _ _ _ ?_ L9 T2
        first | rw [nm4_14] | rw [nk4_14]
        simp only [bits4_14, maskC_nil, maskC_t, maskC_f, WN, firstReg, growAll, zbv, zbw, norm, killS, zag, zah, zaa, zab, zbl, zat, zad, growOne, zae, zaf, zac, zas, zak, Nat.reduceLT, Nat.reduceAdd, zbj, zav, L4_14, hcx, hcl]
        try rfl
end Go.Proofs.Ythicacphcljdmaa

/- LockTrue: a wait. -/
namespace Go.Proofs.Ythicacphcljdmaa
open Go Go.Abs Go.Proofs
set_option maxRecDepth 100000
set_option maxHeartbeats 16000000
set_option linter.unusedVariables false
set_option linter.unusedSimpArgs false
theorem act_wait {Q : Post} {x : V} {l : List Act} {i : Nat} {a : Act} {H : Hp} {ms : List Mon} {ws wk : List Slp} {came : Int} {all wa wo : V} {hs kp inn : List Int} (h : Tn x l i a H ms ws wk came all wa wo hs kp inn) (hq : Nx Q x i) {c d : Nat} {n : Int} {al : Bool} (ha : a = ⟨3, c, d, n, al⟩) (hc : c < 3) (hd4 : d < 4) :
    wpC (envOf Try.prog notes (evW Try.prog notes) 4) (loopOf Try.f4 14) (st14 x i hs kp inn) H Q := by
  obtain ⟨hlen, g1, hi1, hcx, hat⟩ := h.len
  obtain ⟨hx, hd, hi, L, T⟩ := h
  have h1' := hx H
  have hcA : ∀ m, (actC ⟨3, c, d, n, al⟩).map (clipV m) = actC ⟨3, c, d, n, al⟩ := fun _ => rfl
  have hcl := fun l => ivs_clip l
  simp only [actV] at hat
  subst ha
  have b0 : decide ((c : Int) < 0) = false := decide_eq_false (by omega)
  have b1 : decide ((2 : Int) < (c : Int)) = false := decide_eq_false (by omega)
  have b2 : decide ((d : Int) < 0) = false := decide_eq_false (by omega)
  have b3 : decide ((3 : Int) < (d : Int)) = false := decide_eq_false (by omega)
  have p3 : ((c : Int) < ((3 : Nat) : Int)) = True := eq_true (by omega)
  have p4 : ((d : Int) < ((4 : Nat) : Int)) = True := eq_true (by omega)
  have q1 : (c * 4 + d * 1 + 1 ≤ 12) = True := eq_true (by omega)
  have q2 : (d * 1 + 1 ≤ 4) = True := eq_true (by omega)
  have k1 : (ivs hs).length = 12 := by rw [ivs_len]; exact T.lh
  have k2 : (ivs kp).length = 4 := by rw [ivs_len]; exact T.lk
  have k3 : (ivs inn).length = 4 := by rw [ivs_len]; exact T.li
  have hcd : c * 4 + d * 1 = 4 * c + d := by omega
  have hsl := T.small
  have hdl : d < inn.length := by have := T.li; omega
  obtain ⟨z, hz⟩ : ∃ z, inn[d]? = some z := ⟨_, List.getElem?_eq_getElem hdl⟩
  have hi0 : (ivs inn)[d * 1]? = some (.int .i64 z) := by rw [Nat.mul_one]; exact ivs_at hz
  by_cases z0 : z = 0
  case neg =>
    have g2 : (z == 0) = false := by simpa using z0
    simp only [loopOf, bodyOf, Try.f4, Option.getD_some, findLoop, firstReg, orC_some, orC_none, Nat.reduceEqDiff, decide_true, decide_false]
    simp only [st14, L4_14]
    simp only [WW, partV, eqCells, eqLf, minV, maxV, ifcV, zaa, zab, zac, zad, zae, zaf, zag, zah, zai, ofConst, ofConst1, List.replicate, zaj, zak, loadOp, Go.Abs.loadCells, binV, zal, pickV, zam, zan, zao, zap, zaq, zar, zas, zat, zau, outR, resAll, resOne, zav, zaw, zax, zay, zaz, zba, zbb, zbc, zbd, zbe, zbf, zbg, zbh, zbi, zbj, zbk, storeOp, storeCell, overlay, zbl, zbm, zbn, lookupOp, keyT, okRes, mapUpdateOp, zbo, zbp, zbq, zbr, zbs, zbt, zbu, Nat.reduceSub, Nat.reduceAdd, Int.reduceLT, Int.reduceLE, Int.reduceAdd, Int.reduceSub, Int.reduceToNat, Int.reduceBEq, Int.reduceBNe, Int.reduceMul, Nat.reduceBEq, Nat.reduceBNe, Nat.reduceLT, Nat.reduceLeDiff, Nat.reduceMul, Nat.reduceEqDiff, WD, effB, effH, isPriv, isHeap, isImm, zbx, zby, zbz, chkO, setD, dslot, zca, zcb, zcc, zcd, ptrCells_some, F4, g1, hlen, h1'.shutIn, hat.at1 h1', hat.fa, hat.cells, b0, b1, b2, b3, p3, p4, hi0, g2]
    refine loop55 (x := x) (i := i) (a := ⟨3, c, d, n, al⟩) (hs := hs) (kp := kp) (inn := inn) ?_ rfl rfl hcx L T ?_
    · first | rw [nm4_55] | rw [nk4_55]
      simp only [bits4_55, maskC_nil, maskC_t, maskC_f, WN, firstReg, growAll, zbv, zbw, norm, killS, zag, zah, zaa, zab, zbl, zat, zad, growOne, zae, zaf, zac, zas, zak, Nat.reduceLT, Nat.reduceAdd, zbj, zav, L4_55, hcx, hcl, hcA, actC]
      try rfl
    · simp only [L4_55]
      simp only [WW, partV, eqCells, eqLf, minV, maxV, ifcV, zaa, zab, zac, zad, zae, zaf, zag, zah, zai, ofConst, ofConst1, List.replicate, zaj, zak, loadOp, Go.Abs.loadCells, binV, zal, pickV, zam, zan, zao, zap, zaq, zar, zas, zat, zau, outR, resAll, resOne, zav, zaw, zax, zay, zaz, zba, zbb, zbc, zbd, zbe, zbf, zbg, zbh, zbi, zbj, zbk, storeOp, storeCell, overlay, zbl, zbm, zbn, lookupOp, keyT, okRes, mapUpdateOp, zbo, zbp, zbq, zbr, zbs, zbt, zbu, Nat.reduceSub, Nat.reduceAdd, Int.reduceLT, Int.reduceLE, Int.reduceAdd, Int.reduceSub, Int.reduceToNat, Int.reduceBEq, Int.reduceBNe, Int.reduceMul, Nat.reduceBEq, Nat.reduceBNe, Nat.reduceLT, Nat.reduceLeDiff, Nat.reduceMul, Nat.reduceEqDiff, WD, effB, effH, isPriv, isHeap, isImm, zbx, zby, zbz, chkO, setD, dslot, zca, zcb, zcc, zcd, ptrCells_some, F4]
      refine loop69 (x := x) (i := i) (a := ⟨3, c, d, n, al⟩) (hs := hs) (kp := kp) (inn := inn) ?_ rfl rfl hcx L T ?_
      · first | rw [nm4_69] | rw [nk4_69]
        simp only [bits4_69, maskC_nil, maskC_t, maskC_f, WN, firstReg, growAll, zbv, zbw, norm, killS, zag, zah, zaa, zab, zbl, zat, zad, growOne, zae, zaf, zac, zas, zak, Nat.reduceLT, Nat.reduceAdd, zbj, zav, L4_69, hcx, hcl, hcA, actC]
        try rfl
      · intro H9 L9
        simp only [L4_69]
        simp only [WW, partV, eqCells, eqLf, minV, maxV, ifcV, zaa, zab, zac, zad, zae, zaf, zag, zah, zai, ofConst, ofConst1, List.replicate, zaj, zak, loadOp, Go.Abs.loadCells, binV, zal, pickV, zam, zan, zao, zap, zaq, zar, zas, zat, zau, outR, resAll, resOne, zav, zaw, zax, zay, zaz, zba, zbb, zbc, zbd, zbe, zbf, zbg, zbh, zbi, zbj, zbk, storeOp, storeCell, overlay, zbl, zbm, zbn, lookupOp, keyT, okRes, mapUpdateOp, zbo, zbp, zbq, zbr, zbs, zbt, zbu, Nat.reduceSub, Nat.reduceAdd, Int.reduceLT, Int.reduceLE, Int.reduceAdd, Int.reduceSub, Int.reduceToNat, Int.reduceBEq, Int.reduceBNe, Int.reduceMul, Nat.reduceBEq, Nat.reduceBNe, Nat.reduceLT, Nat.reduceLeDiff, Nat.reduceMul, Nat.reduceEqDiff, WD, effB, effH, isPriv, isHeap, isImm, zbx, zby, zbz, chkO, setD, dslot, zca, zcb, zcc, zcd, ptrCells_some, F4, hi1]
        refine hq _ H9 _ _ _ _ _ _ _ _ _ _ ?_ L9 T
        first | rw [nm4_14] | rw [nk4_14]
        simp only [bits4_14, maskC_nil, maskC_t, maskC_f, WN, firstReg, growAll, zbv, zbw, norm, killS, zag, zah, zaa, zab, zbl, zat, zad, growOne, zae, zaf, zac, zas, zak, Nat.reduceLT, Nat.reduceAdd, zbj, zav, L4_14, hcx, hcl]
        try rfl
  subst z0
  by_cases n0 : -1 ≤ n
  case neg =>
    have g2 : decide ((-1 : Int) ≤ n) = false := decide_eq_false n0
    simp only [loopOf, bodyOf, Try.f4, Option.getD_some, findLoop, firstReg, orC_some, orC_none, Nat.reduceEqDiff, decide_true, decide_false]
    simp only [st14, L4_14]
    simp only [WW, partV, eqCells, eqLf, minV, maxV, ifcV, zaa, zab, zac, zad, zae, zaf, zag, zah, zai, ofConst, ofConst1, List.replicate, zaj, zak, loadOp, Go.Abs.loadCells, binV, zal, pickV, zam, zan, zao, zap, zaq, zar, zas, zat, zau, outR, resAll, resOne, zav, zaw, zax, zay, zaz, zba, zbb, zbc, zbd, zbe, zbf, zbg, zbh, zbi, zbj, zbk, storeOp, storeCell, overlay, zbl, zbm, zbn, lookupOp, keyT, okRes, mapUpdateOp, zbo, zbp, zbq, zbr, zbs, zbt, zbu, Nat.reduceSub, Nat.reduceAdd, Int.reduceLT, Int.reduceLE, Int.reduceAdd, Int.reduceSub, Int.reduceToNat, Int.reduceBEq, Int.reduceBNe, Int.reduceMul, Nat.reduceBEq, Nat.reduceBNe, Nat.reduceLT, Nat.reduceLeDiff, Nat.reduceMul, Nat.reduceEqDiff, WD, effB, effH, isPriv, isHeap, isImm, zbx, zby, zbz, chkO, setD, dslot, zca, zcb, zcc, zcd, ptrCells_some, F4, g1, hlen, h1'.shutIn, hat.at1 h1', hat.fa, hat.cells, b0, b1, b2, b3, p3, p4, hi0, g2]
    refine loop55 (x := x) (i := i) (a := ⟨3, c, d, n, al⟩) (hs := hs) (kp := kp) (inn := inn) ?_ rfl rfl hcx L T ?_
    · first | rw [nm4_55] | rw [nk4_55]
      simp only [bits4_55, maskC_nil, maskC_t, maskC_f, WN, firstReg, growAll, zbv, zbw, norm, killS, zag, zah, zaa, zab, zbl, zat, zad, growOne, zae, zaf, zac, zas, zak, Nat.reduceLT, Nat.reduceAdd, zbj, zav, L4_55, hcx, hcl, hcA, actC]
      try rfl
    · simp only [L4_55]
      simp only [WW, partV, eqCells, eqLf, minV, maxV, ifcV, zaa, zab, zac, zad, zae, zaf, zag, zah, zai, ofConst, ofConst1, List.replicate, zaj, zak, loadOp, Go.Abs.loadCells, binV, zal, pickV, zam, zan, zao, zap, zaq, zar, zas, zat, zau, outR, resAll, resOne, zav, zaw, zax, zay, zaz, zba, zbb, zbc, zbd, zbe, zbf, zbg, zbh, zbi, zbj, zbk, storeOp, storeCell, overlay, zbl, zbm, zbn, lookupOp, keyT, okRes, mapUpdateOp, zbo, zbp, zbq, zbr, zbs, zbt, zbu, Nat.reduceSub, Nat.reduceAdd, Int.reduceLT, Int.reduceLE, Int.reduceAdd, Int.reduceSub, Int.reduceToNat, Int.reduceBEq, Int.reduceBNe, Int.reduceMul, Nat.reduceBEq, Nat.reduceBNe, Nat.reduceLT, Nat.reduceLeDiff, Nat.reduceMul, Nat.reduceEqDiff, WD, effB, effH, isPriv, isHeap, isImm, zbx, zby, zbz, chkO, setD, dslot, zca, zcb, zcc, zcd, ptrCells_some, F4]
      refine loop69 (x := x) (i := i) (a := ⟨3, c, d, n, al⟩) (hs := hs) (kp := kp) (inn := inn) ?_ rfl rfl hcx L T ?_
      · first | rw [nm4_69] | rw [nk4_69]
        simp only [bits4_69, maskC_nil, maskC_t, maskC_f, WN, firstReg, growAll, zbv, zbw, norm, killS, zag, zah, zaa, zab, zbl, zat, zad, growOne, zae, zaf, zac, zas, zak, Nat.reduceLT, Nat.reduceAdd, zbj, zav, L4_69, hcx, hcl, hcA, actC]
        try rfl
      · intro H9 L9
        simp only [L4_69]
        simp only [WW, partV, eqCells, eqLf, minV, maxV, ifcV, zaa, zab, zac, zad, zae, zaf, zag, zah, zai, ofConst, ofConst1, List.replicate, zaj, zak, loadOp, Go.Abs.loadCells, binV, zal, pickV, zam, zan, zao, zap, zaq, zar, zas, zat, zau, outR, resAll, resOne, zav, zaw, zax, zay, zaz, zba, zbb, zbc, zbd, zbe, zbf, zbg, zbh, zbi, zbj, zbk, storeOp, storeCell, overlay, zbl, zbm, zbn, lookupOp, keyT, okRes, mapUpdateOp, zbo, zbp, zbq, zbr, zbs, zbt, zbu, Nat.reduceSub, Nat.reduceAdd, Int.reduceLT, Int.reduceLE, Int.reduceAdd, Int.reduceSub, Int.reduceToNat, Int.reduceBEq, Int.reduceBNe, Int.reduceMul, Nat.reduceBEq, Nat.reduceBNe, Nat.reduceLT, Nat.reduceLeDiff, Nat.reduceMul, Nat.reduceEqDiff, WD, effB, effH, isPriv, isHeap, isImm, zbx, zby, zbz, chkO, setD, dslot, zca, zcb, zcc, zcd, ptrCells_some, F4, hi1]
        refine hq _ H9 _ _ _ _ _ _ _ _ _ _ ?_ L9 T
        first | rw [nm4_14] | rw [nk4_14]
        simp only [bits4_14, maskC_nil, maskC_t, maskC_f, WN, firstReg, growAll, zbv, zbw, norm, killS, zag, zah, zaa, zab, zbl, zat, zad, growOne, zae, zaf, zac, zas, zak, Nat.reduceLT, Nat.reduceAdd, zbj, zav, L4_14, hcx, hcl]
        try rfl
  have g2 : decide ((-1 : Int) ≤ n) = true := decide_eq_true n0
  obtain ⟨v, hv, hcase⟩ := T.wait hc hd4 hz came n
  have hl := wait_spec L (c : Int) (d : Int) n (by omega)
  have hg : (ivs hs)[c * 4 + d * 1]? = some (.int .i64 v) := by rw [hcd]; exact ivs_at hv
  simp only [loopOf, bodyOf, Try.f4, Option.getD_some, findLoop, firstReg, orC_some, orC_none, Nat.reduceEqDiff, decide_true, decide_false]
  simp only [st14, L4_14]
  rcases hcase with ⟨e1, e2⟩ | ⟨e1, T2⟩
  · have g3 : ((waitM ms ws came c d n).1 == 0) = false := by simpa using e1
    rw [e2] at hl
    simp only [WW, partV, eqCells, eqLf, minV, maxV, ifcV, zaa, zab, zac, zad, zae, zaf, zag, zah, zai, ofConst, ofConst1, List.replicate, zaj, zak, loadOp, Go.Abs.loadCells, binV, zal, pickV, zam, zan, zao, zap, zaq, zar, zas, zat, zau, outR, resAll, resOne, zav, zaw, zax, zay, zaz, zba, zbb, zbc, zbd, zbe, zbf, zbg, zbh, zbi, zbj, zbk, storeOp, storeCell, overlay, zbl, zbm, zbn, lookupOp, keyT, okRes, mapUpdateOp, zbo, zbp, zbq, zbr, zbs, zbt, zbu, Nat.reduceSub, Nat.reduceAdd, Int.reduceLT, Int.reduceLE, Int.reduceAdd, Int.reduceSub, Int.reduceToNat, Int.reduceBEq, Int.reduceBNe, Int.reduceMul, Nat.reduceBEq, Nat.reduceBNe, Nat.reduceLT, Nat.reduceLeDiff, Nat.reduceMul, Nat.reduceEqDiff, WD, effB, effH, isPriv, isHeap, isImm, zbx, zby, zbz, chkO, setD, dslot, zca, zcb, zcc, zcd, ptrCells_some, F4, g1, hlen, h1'.shutIn, hat.at1 h1', hat.fa, hat.cells, b0, b1, b2, b3, p3, p4, hi0, g2]
    refine wpCall_of hl ?_
    rintro out H1 ⟨rfl, wa', L1⟩
    simp only [WW, partV, eqCells, eqLf, minV, maxV, ifcV, zaa, zab, zac, zad, zae, zaf, zag, zah, zai, ofConst, ofConst1, List.replicate, zaj, zak, loadOp, Go.Abs.loadCells, binV, zal, pickV, zam, zan, zao, zap, zaq, zar, zas, zat, zau, outR, resAll, resOne, zav, zaw, zax, zay, zaz, zba, zbb, zbc, zbd, zbe, zbf, zbg, zbh, zbi, zbj, zbk, storeOp, storeCell, overlay, zbl, zbm, zbn, lookupOp, keyT, okRes, mapUpdateOp, zbo, zbp, zbq, zbr, zbs, zbt, zbu, Nat.reduceSub, Nat.reduceAdd, Int.reduceLT, Int.reduceLE, Int.reduceAdd, Int.reduceSub, Int.reduceToNat, Int.reduceBEq, Int.reduceBNe, Int.reduceMul, Nat.reduceBEq, Nat.reduceBNe, Nat.reduceLT, Nat.reduceLeDiff, Nat.reduceMul, Nat.reduceEqDiff, WD, effB, effH, isPriv, isHeap, isImm, zbx, zby, zbz, chkO, setD, dslot, zca, zcb, zcc, zcd, ptrCells_some, F4, wpCall_eq (num_eq _ _), g3]
    refine loop55 (x := x) (i := i) (a := ⟨3, c, d, n, al⟩) (hs := hs) (kp := kp) (inn := inn) ?_ rfl rfl hcx L1 T ?_
    · first | rw [nm4_55] | rw [nk4_55]
      simp only [bits4_55, maskC_nil, maskC_t, maskC_f, WN, firstReg, growAll, zbv, zbw, norm, killS, zag, zah, zaa, zab, zbl, zat, zad, growOne, zae, zaf, zac, zas, zak, Nat.reduceLT, Nat.reduceAdd, zbj, zav, L4_55, hcx, hcl, hcA, actC]
      try rfl
    · simp only [L4_55]
      simp only [WW, partV, eqCells, eqLf, minV, maxV, ifcV, zaa, zab, zac, zad, zae, zaf, zag, zah, zai, ofConst, ofConst1, List.replicate, zaj, zak, loadOp, Go.Abs.loadCells, binV, zal, pickV, zam, zan, zao, zap, zaq, zar, zas, zat, zau, outR, resAll, resOne, zav, zaw, zax, zay, zaz, zba, zbb, zbc, zbd, zbe, zbf, zbg, zbh, zbi, zbj, zbk, storeOp, storeCell, overlay, zbl, zbm, zbn, lookupOp, keyT, okRes, mapUpdateOp, zbo, zbp, zbq, zbr, zbs, zbt, zbu, Nat.reduceSub, Nat.reduceAdd, Int.reduceLT, Int.reduceLE, Int.reduceAdd, Int.reduceSub, Int.reduceToNat, Int.reduceBEq, Int.reduceBNe, Int.reduceMul, Nat.reduceBEq, Nat.reduceBNe, Nat.reduceLT, Nat.reduceLeDiff, Nat.reduceMul, Nat.reduceEqDiff, WD, effB, effH, isPriv, isHeap, isImm, zbx, zby, zbz, chkO, setD, dslot, zca, zcb, zcc, zcd, ptrCells_some, F4]
      refine loop69 (x := x) (i := i) (a := ⟨3, c, d, n, al⟩) (hs := hs) (kp := kp) (inn := inn) ?_ rfl rfl hcx L1 T ?_
      · first | rw [nm4_69] | rw [nk4_69]
        simp only [bits4_69, maskC_nil, maskC_t, maskC_f, WN, firstReg, growAll, zbv, zbw, norm, killS, zag, zah, zaa, zab, zbl, zat, zad, growOne, zae, zaf, zac, zas, zak, Nat.reduceLT, Nat.reduceAdd, zbj, zav, L4_69, hcx, hcl, hcA, actC]
        try rfl
      · intro H9 L9
        simp only [L4_69]
        simp only [WW, partV, eqCells, eqLf, minV, maxV, ifcV, zaa, zab, zac, zad, zae, zaf, zag, zah, zai, ofConst, ofConst1, List.replicate, zaj, zak, loadOp, Go.Abs.loadCells, binV, zal, pickV, zam, zan, zao, zap, zaq, zar, zas, zat, zau, outR, resAll, resOne, zav, zaw, zax, zay, zaz, zba, zbb, zbc, zbd, zbe, zbf, zbg, zbh, zbi, zbj, zbk, storeOp, storeCell, overlay, zbl, zbm, zbn, lookupOp, keyT, okRes, mapUpdateOp, zbo, zbp, zbq, zbr, zbs, zbt, zbu, Nat.reduceSub, Nat.reduceAdd, Int.reduceLT, Int.reduceLE, Int.reduceAdd, Int.reduceSub, Int.reduceToNat, Int.reduceBEq, Int.reduceBNe, Int.reduceMul, Nat.reduceBEq, Nat.reduceBNe, Nat.reduceLT, Nat.reduceLeDiff, Nat.reduceMul, Nat.reduceEqDiff, WD, effB, effH, isPriv, isHeap, isImm, zbx, zby, zbz, chkO, setD, dslot, zca, zcb, zcc, zcd, ptrCells_some, F4, hi1]
        refine hq _ H9 _ _ _ _ _ _ _ _ _ _ ?_ L9 T
        first | rw [nm4_14] | rw [nk4_14]
        simp only [bits4_14, maskC_nil, maskC_t, maskC_f, WN, firstReg, growAll, zbv, zbw, norm, killS, zag, zah, zaa, zab, zbl, zat, zad, growOne, zae, zaf, zac, zas, zak, Nat.reduceLT, Nat.reduceAdd, zbj, zav, L4_14, hcx, hcl]
        try rfl
  · rw [e1] at hl
    have o1 : List.take (c * 4 + d * 1) (ivs hs) ++ [.int .i64 0] ++ List.drop (c * 4 + d * 1 + 1) (ivs hs) = ivs (hs.set (4 * c + d) 0) := by rw [hcd]; exact ivs_put (by have := T.lh; omega)
    have o2 : List.take (d * 1) (ivs kp) ++ [.int .i64 v] ++ List.drop (d * 1 + 1) (ivs kp) = ivs (kp.set d v) := by rw [Nat.mul_one]; exact ivs_put (by have := T.lk; omega)
    have o3 : List.take (d * 1) (ivs inn) ++ [.int .i64 ((c : Int) + 1)] ++ List.drop (d * 1 + 1) (ivs inn) = ivs (inn.set d ((c : Int) + 1)) := by rw [Nat.mul_one]; exact ivs_put (by have := T.li; omega)
    have w1 : IntKind.i64.wrap ((c : Int) + 1) = (c : Int) + 1 := IntWalk.i64_in _ (by omega)
    simp only [WW, partV, eqCells, eqLf, minV, maxV, ifcV, zaa, zab, zac, zad, zae, zaf, zag, zah, zai, ofConst, ofConst1, List.replicate, zaj, zak, loadOp, Go.Abs.loadCells, binV, zal, pickV, zam, zan, zao, zap, zaq, zar, zas, zat, zau, outR, resAll, resOne, zav, zaw, zax, zay, zaz, zba, zbb, zbc, zbd, zbe, zbf, zbg, zbh, zbi, zbj, zbk, storeOp, storeCell, overlay, zbl, zbm, zbn, lookupOp, keyT, okRes, mapUpdateOp, zbo, zbp, zbq, zbr, zbs, zbt, zbu, Nat.reduceSub, Nat.reduceAdd, Int.reduceLT, Int.reduceLE, Int.reduceAdd, Int.reduceSub, Int.reduceToNat, Int.reduceBEq, Int.reduceBNe, Int.reduceMul, Nat.reduceBEq, Nat.reduceBNe, Nat.reduceLT, Nat.reduceLeDiff, Nat.reduceMul, Nat.reduceEqDiff, WD, effB, effH, isPriv, isHeap, isImm, zbx, zby, zbz, chkO, setD, dslot, zca, zcb, zcc, zcd, ptrCells_some, F4, g1, hlen, h1'.shutIn, hat.at1 h1', hat.fa, hat.cells, b0, b1, b2, b3, p3, p4, hi0, g2]
    refine wpCall_of hl ?_
    rintro out H1 ⟨rfl, wa', L1⟩
    simp only [WW, partV, eqCells, eqLf, minV, maxV, ifcV, zaa, zab, zac, zad, zae, zaf, zag, zah, zai, ofConst, ofConst1, List.replicate, zaj, zak, loadOp, Go.Abs.loadCells, binV, zal, pickV, zam, zan, zao, zap, zaq, zar, zas, zat, zau, outR, resAll, resOne, zav, zaw, zax, zay, zaz, zba, zbb, zbc, zbd, zbe, zbf, zbg, zbh, zbi, zbj, zbk, storeOp, storeCell, overlay, zbl, zbm, zbn, lookupOp, keyT, okRes, mapUpdateOp, zbo, zbp, zbq, zbr, zbs, zbt, zbu, Nat.reduceSub, Nat.reduceAdd, Int.reduceLT, Int.reduceLE, Int.reduceAdd, Int.reduceSub, Int.reduceToNat, Int.reduceBEq, Int.reduceBNe, Int.reduceMul, Nat.reduceBEq, Nat.reduceBNe, Nat.reduceLT, Nat.reduceLeDiff, Nat.reduceMul, Nat.reduceEqDiff, WD, effB, effH, isPriv, isHeap, isImm, zbx, zby, zbz, chkO, setD, dslot, zca, zcb, zcc, zcd, ptrCells_some, F4, wpCall_eq (num_eq _ _)]
    refine wC_dr alts4_31 (by kernel_rfl) ?_
    simp only [WW, partV, eqCells, eqLf, minV, maxV, ifcV, zaa, zab, zac, zad, zae, zaf, zag, zah, zai, ofConst, ofConst1, List.replicate, zaj, zak, loadOp, Go.Abs.loadCells, binV, zal, pickV, zam, zan, zao, zap, zaq, zar, zas, zat, zau, outR, resAll, resOne, zav, zaw, zax, zay, zaz, zba, zbb, zbc, zbd, zbe, zbf, zbg, zbh, zbi, zbj, zbk, storeOp, storeCell, overlay, zbl, zbm, zbn, lookupOp, keyT, okRes, mapUpdateOp, zbo, zbp, zbq, zbr, zbs, zbt, zbu, Nat.reduceSub, Nat.reduceAdd, Int.reduceLT, Int.reduceLE, Int.reduceAdd, Int.reduceSub, Int.reduceToNat, Int.reduceBEq, Int.reduceBNe, Int.reduceMul, Nat.reduceBEq, Nat.reduceBNe, Nat.reduceLT, Nat.reduceLeDiff, Nat.reduceMul, Nat.reduceEqDiff, WD, effB, effH, isPriv, isHeap, isImm, zbx, zby, zbz, chkO, setD, dslot, zca, zcb, zcc, zcd, ptrCells_some, F4, alts4_31, p3, p4, hg, w1, k1, k2, k3, q1, q2, o1, o2, o3]
    refine loop55 (x := x) (i := i) (a := ⟨3, c, d, n, al⟩) (hs := hs.set (4 * c + d) 0) (kp := kp.set d v) (inn := inn.set d ((c : Int) + 1)) ?_ rfl rfl hcx L1 T2 ?_
    · first | rw [nm4_55] | rw [nk4_55]
      simp only [bits4_55, maskC_nil, maskC_t, maskC_f, WN, firstReg, growAll, zbv, zbw, norm, killS, zag, zah, zaa, zab, zbl, zat, zad, growOne, zae, zaf, zac, zas, zak, Nat.reduceLT, Nat.reduceAdd, zbj, zav, L4_55, hcx, hcl, hcA, actC]
      try rfl
    · simp only [L4_55]
      simp only [WW, partV, eqCells, eqLf, minV, maxV, ifcV, zaa, zab, zac, zad, zae, zaf, zag, zah, zai, ofConst, ofConst1, List.replicate, zaj, zak, loadOp, Go.Abs.loadCells, binV, zal, pickV, zam, zan, zao, zap, zaq, zar, zas, zat, zau, outR, resAll, resOne, zav, zaw, zax, zay, zaz, zba, zbb, zbc, zbd, zbe, zbf, zbg, zbh, zbi, zbj, zbk, storeOp, storeCell, overlay, zbl, zbm, zbn, lookupOp, keyT, okRes, mapUpdateOp, zbo, zbp, zbq, zbr, zbs, zbt, zbu, Nat.reduceSub, Nat.reduceAdd, Int.reduceLT, Int.reduceLE, Int.reduceAdd, Int.reduceSub, Int.reduceToNat, Int.reduceBEq, Int.reduceBNe, Int.reduceMul, Nat.reduceBEq, Nat.reduceBNe, Nat.reduceLT, Nat.reduceLeDiff, Nat.reduceMul, Nat.reduceEqDiff, WD, effB, effH, isPriv, isHeap, isImm, zbx, zby, zbz, chkO, setD, dslot, zca, zcb, zcc, zcd, ptrCells_some, F4]
      refine loop69 (x := x) (i := i) (a := ⟨3, c, d, n, al⟩) (hs := hs.set (4 * c + d) 0) (kp := kp.set d v) (inn := inn.set d ((c : Int) + 1)) ?_ rfl rfl hcx L1 T2 ?_
      · first | rw [nm4_69] | rw [nk4_69]
        simp only [bits4_69, maskC_nil, maskC_t, maskC_f, WN, firstReg, growAll, zbv, zbw, norm, killS, zag, zah, zaa, zab, zbl, zat, zad, growOne, zae, zaf, zac, zas, zak, Nat.reduceLT, Nat.reduceAdd, zbj, zav, L4_69, hcx, hcl, hcA, actC]
        try rfl
      · intro H9 L9
        simp only [L4_69]
        simp only [WW, partV, eqCells, eqLf, minV, maxV, ifcV, zaa, zab, zac, zad, zae, zaf, zag, zah, zai, ofConst, ofConst1, List.replicate, zaj, zak, loadOp, Go.Abs.loadCells, binV, zal, pickV, zam, zan, zao, zap, zaq, zar, zas, zat, zau, outR, resAll, resOne, zav, zaw, zax, zay, zaz, zba, zbb, zbc, zbd, zbe, zbf, zbg, zbh, zbi, zbj, zbk, storeOp, storeCell, overlay, zbl, zbm, zbn, lookupOp, keyT, okRes, mapUpdateOp, zbo, zbp, zbq, zbr, zbs, zbt, zbu, Nat.reduceSub, Nat.reduceAdd, Int.reduceLT, Int.reduceLE, Int.reduceAdd, Int.reduceSub, Int.reduceToNat, Int.reduceBEq, Int.reduceBNe, Int.reduceMul, Nat.reduceBEq, Nat.reduceBNe, Nat.reduceLT, Nat.reduceLeDiff, Nat.reduceMul, Nat.reduceEqDiff, WD, effB, effH, isPriv, isHeap, isImm, zbx, zby, zbz, chkO, setD, dslot, zca, zcb, zcc, zcd, ptrCells_some, F4, hi1]
        refine hq _ H9 _ _ _ _ _ _ _ _ _ _ ?_ L9 T2
        first | rw [nm4_14] | rw [nk4_14]
        simp only [bits4_14, maskC_nil, maskC_t, maskC_f, WN, firstReg, growAll, zbv, zbw, norm, killS, zag, zah, zaa, zab, zbl, zat, zad, growOne, zae, zaf, zac, zas, zak, Nat.reduceLT, Nat.reduceAdd, zbj, zav, L4_14, hcx, hcl]
        try rfl
end Go.Proofs.Ythicacphcljdmaa

/- LockTrue: threads that are told. -/
namespace Go.Proofs.Ythicacphcljdmaa
open Go Go.Abs Go.Proofs
set_option maxRecDepth 100000
set_option maxHeartbeats 16000000
set_option linter.unusedVariables false
set_option linter.unusedSimpArgs false
theorem loop35 {Q : Post} {st : St} {H : Hp} {x o : V} {i : Nat} {a : Act} {hs kp inn : List Int} {ys : List Slp} {c : Nat}
    (hst : norm (notes.kill 4 35) st.b.length st.r.length st = ⟨L4_35 (.v x) (.v (.ptr 0 0 0)) (.box 0) (.box 1) (.box 2) (.v (.int .i64 (i : Int))) (.box 3) (.v o) (.v (.int .i64 0)), [ivs hs, ivs kp, ivs inn, actC a], []⟩)
    (hb : st.b.length = 4) (hr : st.r.length = 0) (hx : ∀ p q, clip p q (.v x) = .v x) (ho : Sx H o (ys.map timV)) (W : Wok ys inn (· = c)) (hl : ys.length ≤ 4) (hil : inn.length = 4) (ham : a.m = c)
    (hq : Q (.exit 5) ⟨((((L4_35 (.v x) (.v (.ptr 0 0 0)) (.box 0) (.box 1) (.box 2) (.v (.int .i64 (i : Int))) (.box 3) (.v o) (.v (.int .i64 (ys.length : Int)))).set 189 (.v (.int .i64 (ys.length : Int)))).set 190 (.v o)).set 191 (.v (.int .i64 (ys.length : Int)))).set 192 (.v (.bool false)), [ivs hs, ivs kp, ivs (flipIn inn ys), actC a], []⟩ H) :
    wpC (envOf Try.prog notes (evW Try.prog notes) 4) (.loop (loopOf Try.f4 35)) st H Q := by
  have hcA : ∀ n, (actC a).map (clipV n) = actC a := fun n => rfl
  have hcl := fun l => ivs_clip l
  have hor := ho.rd
  have holen : ∀ e, lenK H (.slice e) o = some (.int .i64 (ys.length : Int)) := fun e => by have := hor.len e; rwa [List.length_map] at this
  simp only [loopOf, bodyOf, Try.f4, Option.getD_some, findLoop, firstReg, orC_some, orC_none, Nat.reduceEqDiff, decide_true, decide_false]
  refine wC_loop _ (fun j st' H' => ∃ (k : Nat), st' = ⟨L4_35 (.v x) (.v (.ptr 0 0 0)) (.box 0) (.box 1) (.box 2) (.v (.int .i64 (i : Int))) (.box 3) (.v o) (.v (.int .i64 (k : Int))), [ivs hs, ivs kp, ivs (flipIn inn (ys.take k)), actC a], []⟩ ∧ H' = H ∧ k ≤ ys.length ∧ j = ys.length - k) ys.length ⟨0, ?_, rfl, by omega, rfl⟩ ?_
  · simp only [envG, envK, firstReg, grow4_35, growAll, List.foldl_nil, List.take_zero, flip_nil]
    exact hst
  · simp only [envG, envK, firstReg, grow4_35, growAll, List.foldl_nil, hb, hr]
    rintro j st' H' ⟨k, rfl, rfl, hk, rfl⟩
    simp only [L4_35]
    by_cases hlt : k < ys.length
    · have g1 : decide ((k : Int) < (ys.length : Int)) = true := decide_eq_true (by omega)
      have hk1 : IntKind.i64.wrap ((k : Int) + 1) = ((k + 1 : Nat) : Int) := by rw [IntWalk.i64_in _ (by omega)]; omega
      have hd : ys[k]? = some ys[k] := List.getElem?_eq_getElem hlt
      generalize ys[k] = s at hd
      have hat := hor.at_ (sz := 1) (i := k) (e := timV s) (by rw [List.getElem?_map, hd]; rfl) rfl
      obtain ⟨d, c', e1, e2, e3, e4, e5⟩ := W.mem s (List.mem_of_getElem? hd)
      have htk : ys.take (k + 1) = ys.take k ++ [s] := by rw [List.take_add_one, hd]; rfl
      have hz : cS (ys.take k) d = 0 := by
        have h1 := W.one d e2
        have h2 : cS ys d = cS (ys.take k) d + cS (ys.drop k) d := by rw [← cS_app, List.take_append_drop]
        have h3 : 0 < cS (ys.drop k) d := by
          have hm : s ∈ ys.drop k := List.mem_of_getElem? (i := 0) (by rw [List.getElem?_drop]; exact hd)
          have := cS_mem hm
          rwa [e1] at this
        omega
      have hv : (flipIn inn (ys.take k))[d]? = some ((c' : Int) + 1) := by rw [flip_at _ e5, if_pos hz]
      have hg : (ivs (flipIn inn (ys.take k)))[d * 1]? = some (.int .i64 ((c' : Int) + 1)) := by rw [Nat.mul_one]; exact ivs_at hv
      have hfl := flip_snoc (ys := ys.take k) e1 hz e5
      have ho2 : List.take (d * 1) (ivs (flipIn inn (ys.take k))) ++ [.int .i64 (-((c' : Int) + 1))] ++ List.drop (d * 1 + 1) (ivs (flipIn inn (ys.take k))) = ivs (flipIn inn (ys.take (k + 1))) := by
        rw [Nat.mul_one, htk, hfl]; exact ivs_put (by rw [flip_len]; omega)
      have p4 : ((d : Int) < ((4 : Nat) : Int)) = True := eq_true (by omega)
      have q2 : (d * 1 + 1 ≤ 4) = True := eq_true (by omega)
      have k3 : (ivs (flipIn inn (ys.take k))).length = 4 := by rw [ivs_len, flip_len]; exact hil
      obtain rfl : c' = c := e4
      have w1 : IntKind.i64.wrap ((c' : Int) + 1) = (c' : Int) + 1 := IntWalk.i64_in _ (by omega)
      have w2 : (((c' : Int) + 1) != ((c' : Int) + 1)) = false := by simp
      have w3 : IntKind.i64.wrap (IntKind.i64.wrap (0 - (c' : Int)) - 1) = -((c' : Int) + 1) := by rw [IntWalk.i64_in (0 - (c' : Int)) (by omega), IntWalk.i64_in _ (by omega)]; omega
      simp only [WW, partV, eqCells, eqLf, minV, maxV, ifcV, zaa, zab, zac, zad, zae, zaf, zag, zah, zai, ofConst, ofConst1, List.replicate, zaj, zak, loadOp, Go.Abs.loadCells, binV, zal, pickV, zam, zan, zao, zap, zaq, zar, zas, zat, zau, outR, resAll, resOne, zav, zaw, zax, zay, zaz, zba, zbb, zbc, zbd, zbe, zbf, zbg, zbh, zbi, zbj, zbk, storeOp, storeCell, overlay, zbl, zbm, zbn, lookupOp, keyT, okRes, mapUpdateOp, zbo, zbp, zbq, zbr, zbs, zbt, zbu, Nat.reduceSub, Nat.reduceAdd, Int.reduceLT, Int.reduceLE, Int.reduceAdd, Int.reduceSub, Int.reduceToNat, Int.reduceBEq, Int.reduceBNe, Int.reduceMul, Nat.reduceBEq, Nat.reduceBNe, Nat.reduceLT, Nat.reduceLeDiff, Nat.reduceMul, Nat.reduceEqDiff, WD, effB, effH, isPriv, isHeap, isImm, zbx, zby, zbz, chkO, setD, dslot, zca, zcb, zcc, zcd, ptrCells_some, F4, g1, hor.shutIn, holen]
      refine wC_dr alts4_37 (by kernel_rfl) ?_
      simp only [WW, partV, eqCells, eqLf, minV, maxV, ifcV, zaa, zab, zac, zad, zae, zaf, zag, zah, zai, ofConst, ofConst1, List.replicate, zaj, zak, loadOp, Go.Abs.loadCells, binV, zal, pickV, zam, zan, zao, zap, zaq, zar, zas, zat, zau, outR, resAll, resOne, zav, zaw, zax, zay, zaz, zba, zbb, zbc, zbd, zbe, zbf, zbg, zbh, zbi, zbj, zbk, storeOp, storeCell, overlay, zbl, zbm, zbn, lookupOp, keyT, okRes, mapUpdateOp, zbo, zbp, zbq, zbr, zbs, zbt, zbu, Nat.reduceSub, Nat.reduceAdd, Int.reduceLT, Int.reduceLE, Int.reduceAdd, Int.reduceSub, Int.reduceToNat, Int.reduceBEq, Int.reduceBNe, Int.reduceMul, Nat.reduceBEq, Nat.reduceBNe, Nat.reduceLT, Nat.reduceLeDiff, Nat.reduceMul, Nat.reduceEqDiff, WD, effB, effH, isPriv, isHeap, isImm, zbx, zby, zbz, chkO, setD, dslot, zca, zcb, zcc, zcd, ptrCells_some, F4, alts4_37, hor.shutIn, hat.at1 hor, hat.cells, timV, e1, p4, hg, actC, ham, w1, w2]
      refine wC_dr alts4_39 (by kernel_rfl) ?_
      simp only [WW, partV, eqCells, eqLf, minV, maxV, ifcV, zaa, zab, zac, zad, zae, zaf, zag, zah, zai, ofConst, ofConst1, List.replicate, zaj, zak, loadOp, Go.Abs.loadCells, binV, zal, pickV, zam, zan, zao, zap, zaq, zar, zas, zat, zau, outR, resAll, resOne, zav, zaw, zax, zay, zaz, zba, zbb, zbc, zbd, zbe, zbf, zbg, zbh, zbi, zbj, zbk, storeOp, storeCell, overlay, zbl, zbm, zbn, lookupOp, keyT, okRes, mapUpdateOp, zbo, zbp, zbq, zbr, zbs, zbt, zbu, Nat.reduceSub, Nat.reduceAdd, Int.reduceLT, Int.reduceLE, Int.reduceAdd, Int.reduceSub, Int.reduceToNat, Int.reduceBEq, Int.reduceBNe, Int.reduceMul, Nat.reduceBEq, Nat.reduceBNe, Nat.reduceLT, Nat.reduceLeDiff, Nat.reduceMul, Nat.reduceEqDiff, WD, effB, effH, isPriv, isHeap, isImm, zbx, zby, zbz, chkO, setD, dslot, zca, zcb, zcc, zcd, ptrCells_some, F4, alts4_39, hor.shutIn, hat.at1 hor, hat.cells, timV, e1, p4, hg, actC, ham, w3, k3, q2, ho2, hk1]
      refine ⟨ys.length - (k + 1), by omega, k + 1, ?_, by omega, rfl⟩
      first | rw [nm4_35] | rw [nk4_35]
      simp only [bits4_35, maskC_nil, maskC_t, maskC_f, WN, firstReg, growAll, zbv, zbw, norm, killS, zag, zah, zaa, zab, zbl, zat, zad, growOne, zae, zaf, zac, zas, zak, Nat.reduceLT, Nat.reduceAdd, zbj, zav, L4_35, hx, hcl, hcA, hor.clip2]
      try rfl
    · have g1 : decide ((k : Int) < (ys.length : Int)) = false := decide_eq_false (by omega)
      obtain rfl : k = ys.length := by omega
      rw [List.take_length]
      simp only [WW, partV, eqCells, eqLf, minV, maxV, ifcV, zaa, zab, zac, zad, zae, zaf, zag, zah, zai, ofConst, ofConst1, List.replicate, zaj, zak, loadOp, Go.Abs.loadCells, binV, zal, pickV, zam, zan, zao, zap, zaq, zar, zas, zat, zau, outR, resAll, resOne, zav, zaw, zax, zay, zaz, zba, zbb, zbc, zbd, zbe, zbf, zbg, zbh, zbi, zbj, zbk, storeOp, storeCell, overlay, zbl, zbm, zbn, lookupOp, keyT, okRes, mapUpdateOp, zbo, zbp, zbq, zbr, zbs, zbt, zbu, Nat.reduceSub, Nat.reduceAdd, Int.reduceLT, Int.reduceLE, Int.reduceAdd, Int.reduceSub, Int.reduceToNat, Int.reduceBEq, Int.reduceBNe, Int.reduceMul, Nat.reduceBEq, Nat.reduceBNe, Nat.reduceLT, Nat.reduceLeDiff, Nat.reduceMul, Nat.reduceEqDiff, WD, effB, effH, isPriv, isHeap, isImm, zbx, zby, zbz, chkO, setD, dslot, zca, zcb, zcc, zcd, ptrCells_some, F4, g1, hor.shutIn, holen]
      exact hq
theorem act_notify {Q : Post} {x : V} {l : List Act} {i : Nat} {a : Act} {H : Hp} {ms : List Mon} {ws wk : List Slp} {came : Int} {all wa wo : V} {hs kp inn : List Int} (h : Tn x l i a H ms ws wk came all wa wo hs kp inn) (hq : Nx Q x i) {c d : Nat} {n : Int} {al : Bool} (ha : a = ⟨4, c, d, n, al⟩) (hc : c < 3) (hd4 : d < 4) :
    wpC (envOf Try.prog notes (evW Try.prog notes) 4) (loopOf Try.f4 14) (st14 x i hs kp inn) H Q := by
  obtain ⟨hlen, g1, hi1, hcx, hat⟩ := h.len
  obtain ⟨hx, hd, hi, L, T⟩ := h
  have h1' := hx H
  have hcA : ∀ m, (actC ⟨4, c, d, n, al⟩).map (clipV m) = actC ⟨4, c, d, n, al⟩ := fun _ => rfl
  have hcl := fun l => ivs_clip l
  simp only [actV] at hat
  subst ha
  have b0 : decide ((c : Int) < 0) = false := decide_eq_false (by omega)
  have b1 : decide ((2 : Int) < (c : Int)) = false := decide_eq_false (by omega)
  have b2 : decide ((d : Int) < 0) = false := decide_eq_false (by omega)
  have b3 : decide ((3 : Int) < (d : Int)) = false := decide_eq_false (by omega)
  have p3 : ((c : Int) < ((3 : Nat) : Int)) = True := eq_true (by omega)
  have p4 : ((d : Int) < ((4 : Nat) : Int)) = True := eq_true (by omega)
  have q1 : (c * 4 + d * 1 + 1 ≤ 12) = True := eq_true (by omega)
  have q2 : (d * 1 + 1 ≤ 4) = True := eq_true (by omega)
  have k1 : (ivs hs).length = 12 := by rw [ivs_len]; exact T.lh
  have k2 : (ivs kp).length = 4 := by rw [ivs_len]; exact T.lk
  have k3 : (ivs inn).length = 4 := by rw [ivs_len]; exact T.li
  have hcd : c * 4 + d * 1 = 4 * c + d := by omega
  have hsl := T.small
  have hl := notify_ti L T c d al
  simp only [loopOf, bodyOf, Try.f4, Option.getD_some, findLoop, firstReg, orC_some, orC_none, Nat.reduceEqDiff, decide_true, decide_false]
  simp only [st14, L4_14]
  simp only [WW, partV, eqCells, eqLf, minV, maxV, ifcV, zaa, zab, zac, zad, zae, zaf, zag, zah, zai, ofConst, ofConst1, List.replicate, zaj, zak, loadOp, Go.Abs.loadCells, binV, zal, pickV, zam, zan, zao, zap, zaq, zar, zas, zat, zau, outR, resAll, resOne, zav, zaw, zax, zay, zaz, zba, zbb, zbc, zbd, zbe, zbf, zbg, zbh, zbi, zbj, zbk, storeOp, storeCell, overlay, zbl, zbm, zbn, lookupOp, keyT, okRes, mapUpdateOp, zbo, zbp, zbq, zbr, zbs, zbt, zbu, Nat.reduceSub, Nat.reduceAdd, Int.reduceLT, Int.reduceLE, Int.reduceAdd, Int.reduceSub, Int.reduceToNat, Int.reduceBEq, Int.reduceBNe, Int.reduceMul, Nat.reduceBEq, Nat.reduceBNe, Nat.reduceLT, Nat.reduceLeDiff, Nat.reduceMul, Nat.reduceEqDiff, WD, effB, effH, isPriv, isHeap, isImm, zbx, zby, zbz, chkO, setD, dslot, zca, zcb, zcc, zcd, ptrCells_some, F4, g1, hlen, h1'.shutIn, hat.at1 h1', hat.fa, hat.cells, b0, b1, b2, b3, p3, p4]
  refine wpCall_of hl ?_
  rintro out H1 ⟨o, e, ys, wa', wo', ws', wk', rfl, L1, T1, hox, W, hl4⟩
  simp only [WW, partV, eqCells, eqLf, minV, maxV, ifcV, zaa, zab, zac, zad, zae, zaf, zag, zah, zai, ofConst, ofConst1, List.replicate, zaj, zak, loadOp, Go.Abs.loadCells, binV, zal, pickV, zam, zan, zao, zap, zaq, zar, zas, zat, zau, outR, resAll, resOne, zav, zaw, zax, zay, zaz, zba, zbb, zbc, zbd, zbe, zbf, zbg, zbh, zbi, zbj, zbk, storeOp, storeCell, overlay, zbl, zbm, zbn, lookupOp, keyT, okRes, mapUpdateOp, zbo, zbp, zbq, zbr, zbs, zbt, zbu, Nat.reduceSub, Nat.reduceAdd, Int.reduceLT, Int.reduceLE, Int.reduceAdd, Int.reduceSub, Int.reduceToNat, Int.reduceBEq, Int.reduceBNe, Int.reduceMul, Nat.reduceBEq, Nat.reduceBNe, Nat.reduceLT, Nat.reduceLeDiff, Nat.reduceMul, Nat.reduceEqDiff, WD, effB, effH, isPriv, isHeap, isImm, zbx, zby, zbz, chkO, setD, dslot, zca, zcb, zcc, zcd, ptrCells_some, F4, hox.rd.clip2, hox.rd.shutIn]
  refine loop35 (x := x) (o := o) (i := i) (a := ⟨4, c, d, n, al⟩) (hs := hs) (kp := kp) (inn := inn) (ys := ys) (c := c) ?_ rfl rfl hcx hox W hl4 T.li rfl ?_
  · first | rw [nm4_35] | rw [nk4_35]
    simp only [bits4_35, maskC_nil, maskC_t, maskC_f, WN, firstReg, growAll, zbv, zbw, norm, killS, zag, zah, zaa, zab, zbl, zat, zad, growOne, zae, zaf, zac, zas, zak, Nat.reduceLT, Nat.reduceAdd, zbj, zav, L4_35, hcx, hcl, hcA, actC, hox.rd.clip2]
    try rfl
  · simp only [L4_35]
    simp only [WW, partV, eqCells, eqLf, minV, maxV, ifcV, zaa, zab, zac, zad, zae, zaf, zag, zah, zai, ofConst, ofConst1, List.replicate, zaj, zak, loadOp, Go.Abs.loadCells, binV, zal, pickV, zam, zan, zao, zap, zaq, zar, zas, zat, zau, outR, resAll, resOne, zav, zaw, zax, zay, zaz, zba, zbb, zbc, zbd, zbe, zbf, zbg, zbh, zbi, zbj, zbk, storeOp, storeCell, overlay, zbl, zbm, zbn, lookupOp, keyT, okRes, mapUpdateOp, zbo, zbp, zbq, zbr, zbs, zbt, zbu, Nat.reduceSub, Nat.reduceAdd, Int.reduceLT, Int.reduceLE, Int.reduceAdd, Int.reduceSub, Int.reduceToNat, Int.reduceBEq, Int.reduceBNe, Int.reduceMul, Nat.reduceBEq, Nat.reduceBNe, Nat.reduceLT, Nat.reduceLeDiff, Nat.reduceMul, Nat.reduceEqDiff, WD, effB, effH, isPriv, isHeap, isImm, zbx, zby, zbz, chkO, setD, dslot, zca, zcb, zcc, zcd, ptrCells_some, F4]
    refine loop55 (x := x) (i := i) (a := ⟨4, c, d, n, al⟩) (hs := hs) (kp := kp) (inn := flipIn inn ys) ?_ rfl rfl hcx L1 T1 ?_
    · first | rw [nm4_55] | rw [nk4_55]
      simp only [bits4_55, maskC_nil, maskC_t, maskC_f, WN, firstReg, growAll, zbv, zbw, norm, killS, zag, zah, zaa, zab, zbl, zat, zad, growOne, zae, zaf, zac, zas, zak, Nat.reduceLT, Nat.reduceAdd, zbj, zav, L4_55, hcx, hcl, hcA, actC]
      try rfl
    · simp only [L4_55]
      simp only [WW, partV, eqCells, eqLf, minV, maxV, ifcV, zaa, zab, zac, zad, zae, zaf, zag, zah, zai, ofConst, ofConst1, List.replicate, zaj, zak, loadOp, Go.Abs.loadCells, binV, zal, pickV, zam, zan, zao, zap, zaq, zar, zas, zat, zau, outR, resAll, resOne, zav, zaw, zax, zay, zaz, zba, zbb, zbc, zbd, zbe, zbf, zbg, zbh, zbi, zbj, zbk, storeOp, storeCell, overlay, zbl, zbm, zbn, lookupOp, keyT, okRes, mapUpdateOp, zbo, zbp, zbq, zbr, zbs, zbt, zbu, Nat.reduceSub, Nat.reduceAdd, Int.reduceLT, Int.reduceLE, Int.reduceAdd, Int.reduceSub, Int.reduceToNat, Int.reduceBEq, Int.reduceBNe, Int.reduceMul, Nat.reduceBEq, Nat.reduceBNe, Nat.reduceLT, Nat.reduceLeDiff, Nat.reduceMul, Nat.reduceEqDiff, WD, effB, effH, isPriv, isHeap, isImm, zbx, zby, zbz, chkO, setD, dslot, zca, zcb, zcc, zcd, ptrCells_some, F4]
      refine loop69 (x := x) (i := i) (a := ⟨4, c, d, n, al⟩) (hs := hs) (kp := kp) (inn := flipIn inn ys) ?_ rfl rfl hcx L1 T1 ?_
      · first | rw [nm4_69] | rw [nk4_69]
        simp only [bits4_69, maskC_nil, maskC_t, maskC_f, WN, firstReg, growAll, zbv, zbw, norm, killS, zag, zah, zaa, zab, zbl, zat, zad, growOne, zae, zaf, zac, zas, zak, Nat.reduceLT, Nat.reduceAdd, zbj, zav, L4_69, hcx, hcl, hcA, actC]
        try rfl
      · intro H9 L9
        simp only [L4_69]
        simp only [WW, partV, eqCells, eqLf, minV, maxV, ifcV, zaa, zab, zac, zad, zae, zaf, zag, zah, zai, ofConst, ofConst1, List.replicate, zaj, zak, loadOp, Go.Abs.loadCells, binV, zal, pickV, zam, zan, zao, zap, zaq, zar, zas, zat, zau, outR, resAll, resOne, zav, zaw, zax, zay, zaz, zba, zbb, zbc, zbd, zbe, zbf, zbg, zbh, zbi, zbj, zbk, storeOp, storeCell, overlay, zbl, zbm, zbn, lookupOp, keyT, okRes, mapUpdateOp, zbo, zbp, zbq, zbr, zbs, zbt, zbu, Nat.reduceSub, Nat.reduceAdd, Int.reduceLT, Int.reduceLE, Int.reduceAdd, Int.reduceSub, Int.reduceToNat, Int.reduceBEq, Int.reduceBNe, Int.reduceMul, Nat.reduceBEq, Nat.reduceBNe, Nat.reduceLT, Nat.reduceLeDiff, Nat.reduceMul, Nat.reduceEqDiff, WD, effB, effH, isPriv, isHeap, isImm, zbx, zby, zbz, chkO, setD, dslot, zca, zcb, zcc, zcd, ptrCells_some, F4, hi1]
        refine hq _ H9 _ _ _ _ _ _ _ _ _ _ ?_ L9 T1
        first | rw [nm4_14] | rw [nk4_14]
        simp only [bits4_14, maskC_nil, maskC_t, maskC_f, WN, firstReg, growAll, zbv, zbw, norm, killS, zag, zah, zaa, zab, zbl, zat, zad, growOne, zae, zaf, zac, zas, zak, Nat.reduceLT, Nat.reduceAdd, zbj, zav, L4_14, hcx, hcl]
        try rfl
end Go.Proofs.Ythicacphcljdmaa

/- LockTrue: threads whose time has come. -/
namespace Go.Proofs.Ythicacphcljdmaa
open Go Go.Abs Go.Proofs
set_option maxRecDepth 100000
set_option maxHeartbeats 16000000
set_option linter.unusedVariables false
set_option linter.unusedSimpArgs false
theorem loop43 {Q : Post} {st : St} {H : Hp} {x o : V} {i : Nat} {a : Act} {hs kp inn : List Int} {ys : List Slp}
    (hst : norm (notes.kill 4 43) st.b.length st.r.length st = ⟨L4_43 (.v x) (.v (.ptr 0 0 0)) (.box 0) (.box 1) (.box 2) (.v (.int .i64 (i : Int))) (.v o) (.v (.int .i64 0)), [ivs hs, ivs kp, ivs inn, actC a], []⟩)
    (hb : st.b.length = 4) (hr : st.r.length = 0) (hx : ∀ p q, clip p q (.v x) = .v x) (ho : Sx H o (ys.map timV)) (W : Wok ys inn (fun _ => True)) (hl : ys.length ≤ 4) (hil : inn.length = 4)
    (hq : Q (.exit 7) ⟨((((L4_43 (.v x) (.v (.ptr 0 0 0)) (.box 0) (.box 1) (.box 2) (.v (.int .i64 (i : Int))) (.v o) (.v (.int .i64 (ys.length : Int)))).set 220 (.v (.int .i64 (ys.length : Int)))).set 221 (.v o)).set 222 (.v (.int .i64 (ys.length : Int)))).set 223 (.v (.bool false)), [ivs hs, ivs kp, ivs (flipIn inn ys), actC a], []⟩ H) :
    wpC (envOf Try.prog notes (evW Try.prog notes) 4) (.loop (loopOf Try.f4 43)) st H Q := by
  have hcA : ∀ n, (actC a).map (clipV n) = actC a := fun n => rfl
  have hcl := fun l => ivs_clip l
  have hor := ho.rd
  have holen : ∀ e, lenK H (.slice e) o = some (.int .i64 (ys.length : Int)) := fun e => by have := hor.len e; rwa [List.length_map] at this
  simp only [loopOf, bodyOf, Try.f4, Option.getD_some, findLoop, firstReg, orC_some, orC_none, Nat.reduceEqDiff, decide_true, decide_false]
  refine wC_loop _ (fun j st' H' => ∃ (k : Nat), st' = ⟨L4_43 (.v x) (.v (.ptr 0 0 0)) (.box 0) (.box 1) (.box 2) (.v (.int .i64 (i : Int))) (.v o) (.v (.int .i64 (k : Int))), [ivs hs, ivs kp, ivs (flipIn inn (ys.take k)), actC a], []⟩ ∧ H' = H ∧ k ≤ ys.length ∧ j = ys.length - k) ys.length ⟨0, ?_, rfl, by omega, rfl⟩ ?_
  · simp only [envG, envK, firstReg, grow4_43, growAll, List.foldl_nil, List.take_zero, flip_nil]
    exact hst
  · simp only [envG, envK, firstReg, grow4_43, growAll, List.foldl_nil, hb, hr]
    rintro j st' H' ⟨k, rfl, rfl, hk, rfl⟩
    simp only [L4_43]
    by_cases hlt : k < ys.length
    · have g1 : decide ((k : Int) < (ys.length : Int)) = true := decide_eq_true (by omega)
      have hk1 : IntKind.i64.wrap ((k : Int) + 1) = ((k + 1 : Nat) : Int) := by rw [IntWalk.i64_in _ (by omega)]; omega
      have hd : ys[k]? = some ys[k] := List.getElem?_eq_getElem hlt
      generalize ys[k] = s at hd
      have hat := hor.at_ (sz := 1) (i := k) (e := timV s) (by rw [List.getElem?_map, hd]; rfl) rfl
      obtain ⟨d, c', e1, e2, e3, e4, e5⟩ := W.mem s (List.mem_of_getElem? hd)
      have htk : ys.take (k + 1) = ys.take k ++ [s] := by rw [List.take_add_one, hd]; rfl
      have hz : cS (ys.take k) d = 0 := by
        have h1 := W.one d e2
        have h2 : cS ys d = cS (ys.take k) d + cS (ys.drop k) d := by rw [← cS_app, List.take_append_drop]
        have h3 : 0 < cS (ys.drop k) d := by
          have hm : s ∈ ys.drop k := List.mem_of_getElem? (i := 0) (by rw [List.getElem?_drop]; exact hd)
          have := cS_mem hm
          rwa [e1] at this
        omega
      have hv : (flipIn inn (ys.take k))[d]? = some ((c' : Int) + 1) := by rw [flip_at _ e5, if_pos hz]
      have hg : (ivs (flipIn inn (ys.take k)))[d * 1]? = some (.int .i64 ((c' : Int) + 1)) := by rw [Nat.mul_one]; exact ivs_at hv
      have hfl := flip_snoc (ys := ys.take k) e1 hz e5
      have ho2 : List.take (d * 1) (ivs (flipIn inn (ys.take k))) ++ [.int .i64 (-((c' : Int) + 1))] ++ List.drop (d * 1 + 1) (ivs (flipIn inn (ys.take k))) = ivs (flipIn inn (ys.take (k + 1))) := by
        rw [Nat.mul_one, htk, hfl]; exact ivs_put (by rw [flip_len]; omega)
      have p4 : ((d : Int) < ((4 : Nat) : Int)) = True := eq_true (by omega)
      have q2 : (d * 1 + 1 ≤ 4) = True := eq_true (by omega)
      have k3 : (ivs (flipIn inn (ys.take k))).length = 4 := by rw [ivs_len, flip_len]; exact hil
      have w1 : decide (((c' : Int) + 1) ≤ 0) = false := decide_eq_false (by omega)
      have w3 : IntKind.i64.wrap (0 - ((c' : Int) + 1)) = -((c' : Int) + 1) := by rw [IntWalk.i64_in _ (by omega)]; omega
      simp only [WW, partV, eqCells, eqLf, minV, maxV, ifcV, zaa, zab, zac, zad, zae, zaf, zag, zah, zai, ofConst, ofConst1, List.replicate, zaj, zak, loadOp, Go.Abs.loadCells, binV, zal, pickV, zam, zan, zao, zap, zaq, zar, zas, zat, zau, outR, resAll, resOne, zav, zaw, zax, zay, zaz, zba, zbb, zbc, zbd, zbe, zbf, zbg, zbh, zbi, zbj, zbk, storeOp, storeCell, overlay, zbl, zbm, zbn, lookupOp, keyT, okRes, mapUpdateOp, zbo, zbp, zbq, zbr, zbs, zbt, zbu, Nat.reduceSub, Nat.reduceAdd, Int.reduceLT, Int.reduceLE, Int.reduceAdd, Int.reduceSub, Int.reduceToNat, Int.reduceBEq, Int.reduceBNe, Int.reduceMul, Nat.reduceBEq, Nat.reduceBNe, Nat.reduceLT, Nat.reduceLeDiff, Nat.reduceMul, Nat.reduceEqDiff, WD, effB, effH, isPriv, isHeap, isImm, zbx, zby, zbz, chkO, setD, dslot, zca, zcb, zcc, zcd, ptrCells_some, F4, g1, hor.shutIn, holen]
      simp only [WW, partV, eqCells, eqLf, minV, maxV, ifcV, zaa, zab, zac, zad, zae, zaf, zag, zah, zai, ofConst, ofConst1, List.replicate, zaj, zak, loadOp, Go.Abs.loadCells, binV, zal, pickV, zam, zan, zao, zap, zaq, zar, zas, zat, zau, outR, resAll, resOne, zav, zaw, zax, zay, zaz, zba, zbb, zbc, zbd, zbe, zbf, zbg, zbh, zbi, zbj, zbk, storeOp, storeCell, overlay, zbl, zbm, zbn, lookupOp, keyT, okRes, mapUpdateOp, zbo, zbp, zbq, zbr, zbs, zbt, zbu, Nat.reduceSub, Nat.reduceAdd, Int.reduceLT, Int.reduceLE, Int.reduceAdd, Int.reduceSub, Int.reduceToNat, Int.reduceBEq, Int.reduceBNe, Int.reduceMul, Nat.reduceBEq, Nat.reduceBNe, Nat.reduceLT, Nat.reduceLeDiff, Nat.reduceMul, Nat.reduceEqDiff, WD, effB, effH, isPriv, isHeap, isImm, zbx, zby, zbz, chkO, setD, dslot, zca, zcb, zcc, zcd, ptrCells_some, F4, hor.shutIn, hat.at1 hor, hat.cells, timV, e1, p4, hg, w1]
      refine wC_dr alts4_47 (by kernel_rfl) ?_
      simp only [WW, partV, eqCells, eqLf, minV, maxV, ifcV, zaa, zab, zac, zad, zae, zaf, zag, zah, zai, ofConst, ofConst1, List.replicate, zaj, zak, loadOp, Go.Abs.loadCells, binV, zal, pickV, zam, zan, zao, zap, zaq, zar, zas, zat, zau, outR, resAll, resOne, zav, zaw, zax, zay, zaz, zba, zbb, zbc, zbd, zbe, zbf, zbg, zbh, zbi, zbj, zbk, storeOp, storeCell, overlay, zbl, zbm, zbn, lookupOp, keyT, okRes, mapUpdateOp, zbo, zbp, zbq, zbr, zbs, zbt, zbu, Nat.reduceSub, Nat.reduceAdd, Int.reduceLT, Int.reduceLE, Int.reduceAdd, Int.reduceSub, Int.reduceToNat, Int.reduceBEq, Int.reduceBNe, Int.reduceMul, Nat.reduceBEq, Nat.reduceBNe, Nat.reduceLT, Nat.reduceLeDiff, Nat.reduceMul, Nat.reduceEqDiff, WD, effB, effH, isPriv, isHeap, isImm, zbx, zby, zbz, chkO, setD, dslot, zca, zcb, zcc, zcd, ptrCells_some, F4, alts4_47, hor.shutIn, hat.at1 hor, hat.cells, timV, e1, p4, hg, w3, k3, q2, ho2, hk1]
      refine ⟨ys.length - (k + 1), by omega, k + 1, ?_, by omega, rfl⟩
      first | rw [nm4_43] | rw [nk4_43]
      simp only [bits4_43, maskC_nil, maskC_t, maskC_f, WN, firstReg, growAll, zbv, zbw, norm, killS, zag, zah, zaa, zab, zbl, zat, zad, growOne, zae, zaf, zac, zas, zak, Nat.reduceLT, Nat.reduceAdd, zbj, zav, L4_43, hx, hcl, hcA, hor.clip2]
      try rfl
    · have g1 : decide ((k : Int) < (ys.length : Int)) = false := decide_eq_false (by omega)
      obtain rfl : k = ys.length := by omega
      rw [List.take_length]
      simp only [WW, partV, eqCells, eqLf, minV, maxV, ifcV, zaa, zab, zac, zad, zae, zaf, zag, zah, zai, ofConst, ofConst1, List.replicate, zaj, zak, loadOp, Go.Abs.loadCells, binV, zal, pickV, zam, zan, zao, zap, zaq, zar, zas, zat, zau, outR, resAll, resOne, zav, zaw, zax, zay, zaz, zba, zbb, zbc, zbd, zbe, zbf, zbg, zbh, zbi, zbj, zbk, storeOp, storeCell, overlay, zbl, zbm, zbn, lookupOp, keyT, okRes, mapUpdateOp, zbo, zbp, zbq, zbr, zbs, zbt, zbu, Nat.reduceSub, Nat.reduceAdd, Int.reduceLT, Int.reduceLE, Int.reduceAdd, Int.reduceSub, Int.reduceToNat, Int.reduceBEq, Int.reduceBNe, Int.reduceMul, Nat.reduceBEq, Nat.reduceBNe, Nat.reduceLT, Nat.reduceLeDiff, Nat.reduceMul, Nat.reduceEqDiff, WD, effB, effH, isPriv, isHeap, isImm, zbx, zby, zbz, chkO, setD, dslot, zca, zcb, zcc, zcd, ptrCells_some, F4, g1, hor.shutIn, holen]
      exact hq
theorem act_expire {Q : Post} {x : V} {l : List Act} {i : Nat} {a : Act} {H : Hp} {ms : List Mon} {ws wk : List Slp} {came : Int} {all wa wo : V} {hs kp inn : List Int} (h : Tn x l i a H ms ws wk came all wa wo hs kp inn) (hq : Nx Q x i) {c d : Nat} {n : Int} {al : Bool} (ha : a = ⟨5, c, d, n, al⟩) (hc : c < 3) (hd4 : d < 4) :
    wpC (envOf Try.prog notes (evW Try.prog notes) 4) (loopOf Try.f4 14) (st14 x i hs kp inn) H Q := by
  obtain ⟨hlen, g1, hi1, hcx, hat⟩ := h.len
  obtain ⟨hx, hd, hi, L, T⟩ := h
  have h1' := hx H
  have hcA : ∀ m, (actC ⟨5, c, d, n, al⟩).map (clipV m) = actC ⟨5, c, d, n, al⟩ := fun _ => rfl
  have hcl := fun l => ivs_clip l
  simp only [actV] at hat
  subst ha
  have b0 : decide ((c : Int) < 0) = false := decide_eq_false (by omega)
  have b1 : decide ((2 : Int) < (c : Int)) = false := decide_eq_false (by omega)
  have b2 : decide ((d : Int) < 0) = false := decide_eq_false (by omega)
  have b3 : decide ((3 : Int) < (d : Int)) = false := decide_eq_false (by omega)
  have p3 : ((c : Int) < ((3 : Nat) : Int)) = True := eq_true (by omega)
  have p4 : ((d : Int) < ((4 : Nat) : Int)) = True := eq_true (by omega)
  have q1 : (c * 4 + d * 1 + 1 ≤ 12) = True := eq_true (by omega)
  have q2 : (d * 1 + 1 ≤ 4) = True := eq_true (by omega)
  have k1 : (ivs hs).length = 12 := by rw [ivs_len]; exact T.lh
  have k2 : (ivs kp).length = 4 := by rw [ivs_len]; exact T.lk
  have k3 : (ivs inn).length = 4 := by rw [ivs_len]; exact T.li
  have hcd : c * 4 + d * 1 = 4 * c + d := by omega
  have hsl := T.small
  have hl := expire_ti L T n
  simp only [loopOf, bodyOf, Try.f4, Option.getD_some, findLoop, firstReg, orC_some, orC_none, Nat.reduceEqDiff, decide_true, decide_false]
  simp only [st14, L4_14]
  simp only [WW, partV, eqCells, eqLf, minV, maxV, ifcV, zaa, zab, zac, zad, zae, zaf, zag, zah, zai, ofConst, ofConst1, List.replicate, zaj, zak, loadOp, Go.Abs.loadCells, binV, zal, pickV, zam, zan, zao, zap, zaq, zar, zas, zat, zau, outR, resAll, resOne, zav, zaw, zax, zay, zaz, zba, zbb, zbc, zbd, zbe, zbf, zbg, zbh, zbi, zbj, zbk, storeOp, storeCell, overlay, zbl, zbm, zbn, lookupOp, keyT, okRes, mapUpdateOp, zbo, zbp, zbq, zbr, zbs, zbt, zbu, Nat.reduceSub, Nat.reduceAdd, Int.reduceLT, Int.reduceLE, Int.reduceAdd, Int.reduceSub, Int.reduceToNat, Int.reduceBEq, Int.reduceBNe, Int.reduceMul, Nat.reduceBEq, Nat.reduceBNe, Nat.reduceLT, Nat.reduceLeDiff, Nat.reduceMul, Nat.reduceEqDiff, WD, effB, effH, isPriv, isHeap, isImm, zbx, zby, zbz, chkO, setD, dslot, zca, zcb, zcc, zcd, ptrCells_some, F4, g1, hlen, h1'.shutIn, hat.at1 h1', hat.fa, hat.cells, b0, b1, b2, b3, p3, p4]
  refine wpCall_of hl ?_
  rintro out H1 ⟨o, ys, wa', wo', ws', wk', rfl, L1, T1, hox, W, hl4⟩
  simp only [WW, partV, eqCells, eqLf, minV, maxV, ifcV, zaa, zab, zac, zad, zae, zaf, zag, zah, zai, ofConst, ofConst1, List.replicate, zaj, zak, loadOp, Go.Abs.loadCells, binV, zal, pickV, zam, zan, zao, zap, zaq, zar, zas, zat, zau, outR, resAll, resOne, zav, zaw, zax, zay, zaz, zba, zbb, zbc, zbd, zbe, zbf, zbg, zbh, zbi, zbj, zbk, storeOp, storeCell, overlay, zbl, zbm, zbn, lookupOp, keyT, okRes, mapUpdateOp, zbo, zbp, zbq, zbr, zbs, zbt, zbu, Nat.reduceSub, Nat.reduceAdd, Int.reduceLT, Int.reduceLE, Int.reduceAdd, Int.reduceSub, Int.reduceToNat, Int.reduceBEq, Int.reduceBNe, Int.reduceMul, Nat.reduceBEq, Nat.reduceBNe, Nat.reduceLT, Nat.reduceLeDiff, Nat.reduceMul, Nat.reduceEqDiff, WD, effB, effH, isPriv, isHeap, isImm, zbx, zby, zbz, chkO, setD, dslot, zca, zcb, zcc, zcd, ptrCells_some, F4, hox.rd.clip2, hox.rd.shutIn]
  refine loop43 (x := x) (o := o) (i := i) (a := ⟨5, c, d, n, al⟩) (hs := hs) (kp := kp) (inn := inn) (ys := ys) ?_ rfl rfl hcx hox W hl4 T.li ?_
  · first | rw [nm4_43] | rw [nk4_43]
    simp only [bits4_43, maskC_nil, maskC_t, maskC_f, WN, firstReg, growAll, zbv, zbw, norm, killS, zag, zah, zaa, zab, zbl, zat, zad, growOne, zae, zaf, zac, zas, zak, Nat.reduceLT, Nat.reduceAdd, zbj, zav, L4_43, hcx, hcl, hcA, actC, hox.rd.clip2]
    try rfl
  · simp only [L4_43]
    simp only [WW, partV, eqCells, eqLf, minV, maxV, ifcV, zaa, zab, zac, zad, zae, zaf, zag, zah, zai, ofConst, ofConst1, List.replicate, zaj, zak, loadOp, Go.Abs.loadCells, binV, zal, pickV, zam, zan, zao, zap, zaq, zar, zas, zat, zau, outR, resAll, resOne, zav, zaw, zax, zay, zaz, zba, zbb, zbc, zbd, zbe, zbf, zbg, zbh, zbi, zbj, zbk, storeOp, storeCell, overlay, zbl, zbm, zbn, lookupOp, keyT, okRes, mapUpdateOp, zbo, zbp, zbq, zbr, zbs, zbt, zbu, Nat.reduceSub, Nat.reduceAdd, Int.reduceLT, Int.reduceLE, Int.reduceAdd, Int.reduceSub, Int.reduceToNat, Int.reduceBEq, Int.reduceBNe, Int.reduceMul, Nat.reduceBEq, Nat.reduceBNe, Nat.reduceLT, Nat.reduceLeDiff, Nat.reduceMul, Nat.reduceEqDiff, WD, effB, effH, isPriv, isHeap, isImm, zbx, zby, zbz, chkO, setD, dslot, zca, zcb, zcc, zcd, ptrCells_some, F4]
    refine loop55 (x := x) (i := i) (a := ⟨5, c, d, n, al⟩) (hs := hs) (kp := kp) (inn := flipIn inn ys) ?_ rfl rfl hcx L1 T1 ?_
    · first | rw [nm4_55] | rw [nk4_55]
      simp only [bits4_55, maskC_nil, maskC_t, maskC_f, WN, firstReg, growAll, zbv, zbw, norm, killS, zag, zah, zaa, zab, zbl, zat, zad, growOne, zae, zaf, zac, zas, zak, Nat.reduceLT, Nat.reduceAdd, zbj, zav, L4_55, hcx, hcl, hcA, actC]
      try rfl
    · simp only [L4_55]
      simp only [WW, partV, eqCells, eqLf, minV, maxV, ifcV, zaa, zab, zac, zad, zae, zaf, zag, zah, zai, ofConst, ofConst1, List.replicate, zaj, zak, loadOp, Go.Abs.loadCells, binV, zal, pickV, zam, zan, zao, zap, zaq, zar, zas, zat, zau, outR, resAll, resOne, zav, zaw, zax, zay, zaz, zba, zbb, zbc, zbd, zbe, zbf, zbg, zbh, zbi, zbj, zbk, storeOp, storeCell, overlay, zbl, zbm, zbn, lookupOp, keyT, okRes, mapUpdateOp, zbo, zbp, zbq, zbr, zbs, zbt, zbu, Nat.reduceSub, Nat.reduceAdd, Int.reduceLT, Int.reduceLE, Int.reduceAdd, Int.reduceSub, Int.reduceToNat, Int.reduceBEq, Int.reduceBNe, Int.reduceMul, Nat.reduceBEq, Nat.reduceBNe, Nat.reduceLT, Nat.reduceLeDiff, Nat.reduceMul, Nat.reduceEqDiff, WD, effB, effH, isPriv, isHeap, isImm, zbx, zby, zbz, chkO, setD, dslot, zca, zcb, zcc, zcd, ptrCells_some, F4]
      refine loop69 (x := x) (i := i) (a := ⟨5, c, d, n, al⟩) (hs := hs) (kp := kp) (inn := flipIn inn ys) ?_ rfl rfl hcx L1 T1 ?_
      · first | rw [nm4_69] | rw [nk4_69]
        simp only [bits4_69, maskC_nil, maskC_t, maskC_f, WN, firstReg, growAll, zbv, zbw, norm, killS, zag, zah, zaa, zab, zbl, zat, zad, growOne, zae, zaf, zac, zas, zak, Nat.reduceLT, Nat.reduceAdd, zbj, zav, L4_69, hcx, hcl, hcA, actC]
        try rfl
      · intro H9 L9
        simp only [L4_69]
        simp only [WW, partV, eqCells, eqLf, minV, maxV, ifcV, zaa, zab, zac, zad, zae, zaf, zag, zah, zai, ofConst, ofConst1, List.replicate, zaj, zak, loadOp, Go.Abs.loadCells, binV, zal, pickV, zam, zan, zao, zap, zaq, zar, zas, zat, zau, outR, resAll, resOne, zav, zaw, zax, zay, zaz, zba, zbb, zbc, zbd, zbe, zbf, zbg, zbh, zbi, zbj, zbk, storeOp, storeCell, overlay, zbl, zbm, zbn, lookupOp, keyT, okRes, mapUpdateOp, zbo, zbp, zbq, zbr, zbs, zbt, zbu, Nat.reduceSub, Nat.reduceAdd, Int.reduceLT, Int.reduceLE, Int.reduceAdd, Int.reduceSub, Int.reduceToNat, Int.reduceBEq, Int.reduceBNe, Int.reduceMul, Nat.reduceBEq, Nat.reduceBNe, Nat.reduceLT, Nat.reduceLeDiff, Nat.reduceMul, Nat.reduceEqDiff, WD, effB, effH, isPriv, isHeap, isImm, zbx, zby, zbz, chkO, setD, dslot, zca, zcb, zcc, zcd, ptrCells_some, F4, hi1]
        refine hq _ H9 _ _ _ _ _ _ _ _ _ _ ?_ L9 T1
        first | rw [nm4_14] | rw [nk4_14]
        simp only [bits4_14, maskC_nil, maskC_t, maskC_f, WN, firstReg, growAll, zbv, zbw, norm, killS, zag, zah, zaa, zab, zbl, zat, zad, growOne, zae, zaf, zac, zas, zak, Nat.reduceLT, Nat.reduceAdd, zbj, zav, L4_14, hcx, hcl]
        try rfl
end Go.Proofs.Ythicacphcljdmaa

/- LockTrue: one that has its monitor again. -/
namespace Go.Proofs.Ythicacphcljdmaa
open Go Go.Abs Go.Proofs
set_option maxRecDepth 100000
set_option maxHeartbeats 16000000
set_option linter.unusedVariables false
set_option linter.unusedSimpArgs false
theorem act_relock {Q : Post} {x : V} {l : List Act} {i : Nat} {a : Act} {H : Hp} {ms : List Mon} {ws wk : List Slp} {came : Int} {all wa wo : V} {hs kp inn : List Int} (h : Tn x l i a H ms ws wk came all wa wo hs kp inn) (hq : Nx Q x i) {c d : Nat} {n : Int} {al : Bool} (ha : a = ⟨6, c, d, n, al⟩) (hc : c < 3) (hd4 : d < 4) :
    wpC (envOf Try.prog notes (evW Try.prog notes) 4) (loopOf Try.f4 14) (st14 x i hs kp inn) H Q := by
  obtain ⟨hlen, g1, hi1, hcx, hat⟩ := h.len
  obtain ⟨hx, hd, hi, L, T⟩ := h
  have h1' := hx H
  have hcA : ∀ m, (actC ⟨6, c, d, n, al⟩).map (clipV m) = actC ⟨6, c, d, n, al⟩ := fun _ => rfl
  have hcl := fun l => ivs_clip l
  simp only [actV] at hat
  subst ha
  have b0 : decide ((c : Int) < 0) = false := decide_eq_false (by omega)
  have b1 : decide ((2 : Int) < (c : Int)) = false := decide_eq_false (by omega)
  have b2 : decide ((d : Int) < 0) = false := decide_eq_false (by omega)
  have b3 : decide ((3 : Int) < (d : Int)) = false := decide_eq_false (by omega)
  have p3 : ((c : Int) < ((3 : Nat) : Int)) = True := eq_true (by omega)
  have p4 : ((d : Int) < ((4 : Nat) : Int)) = True := eq_true (by omega)
  have q1 : (c * 4 + d * 1 + 1 ≤ 12) = True := eq_true (by omega)
  have q2 : (d * 1 + 1 ≤ 4) = True := eq_true (by omega)
  have k1 : (ivs hs).length = 12 := by rw [ivs_len]; exact T.lh
  have k2 : (ivs kp).length = 4 := by rw [ivs_len]; exact T.lk
  have k3 : (ivs inn).length = 4 := by rw [ivs_len]; exact T.li
  have hcd : c * 4 + d * 1 = 4 * c + d := by omega
  have hsl := T.small
  have hl := relock_spec L (d : Int) (by omega)
  simp only [loopOf, bodyOf, Try.f4, Option.getD_some, findLoop, firstReg, orC_some, orC_none, Nat.reduceEqDiff, decide_true, decide_false]
  simp only [st14, L4_14]
  rcases T.relock hd4 with ⟨e1, e2⟩ | ⟨m, v, e1, e2, e3, e4, T2⟩
  · have g2 : ((relockM ms wk d).1 == 0) = false := by simpa using e1
    rw [e2] at hl
    simp only [WW, partV, eqCells, eqLf, minV, maxV, ifcV, zaa, zab, zac, zad, zae, zaf, zag, zah, zai, ofConst, ofConst1, List.replicate, zaj, zak, loadOp, Go.Abs.loadCells, binV, zal, pickV, zam, zan, zao, zap, zaq, zar, zas, zat, zau, outR, resAll, resOne, zav, zaw, zax, zay, zaz, zba, zbb, zbc, zbd, zbe, zbf, zbg, zbh, zbi, zbj, zbk, storeOp, storeCell, overlay, zbl, zbm, zbn, lookupOp, keyT, okRes, mapUpdateOp, zbo, zbp, zbq, zbr, zbs, zbt, zbu, Nat.reduceSub, Nat.reduceAdd, Int.reduceLT, Int.reduceLE, Int.reduceAdd, Int.reduceSub, Int.reduceToNat, Int.reduceBEq, Int.reduceBNe, Int.reduceMul, Nat.reduceBEq, Nat.reduceBNe, Nat.reduceLT, Nat.reduceLeDiff, Nat.reduceMul, Nat.reduceEqDiff, WD, effB, effH, isPriv, isHeap, isImm, zbx, zby, zbz, chkO, setD, dslot, zca, zcb, zcc, zcd, ptrCells_some, F4, g1, hlen, h1'.shutIn, hat.at1 h1', hat.fa, hat.cells, b0, b1, b2, b3, p3, p4]
    refine wpCall_of hl ?_
    rintro out H1 ⟨rfl, wo', L1⟩
    simp only [WW, partV, eqCells, eqLf, minV, maxV, ifcV, zaa, zab, zac, zad, zae, zaf, zag, zah, zai, ofConst, ofConst1, List.replicate, zaj, zak, loadOp, Go.Abs.loadCells, binV, zal, pickV, zam, zan, zao, zap, zaq, zar, zas, zat, zau, outR, resAll, resOne, zav, zaw, zax, zay, zaz, zba, zbb, zbc, zbd, zbe, zbf, zbg, zbh, zbi, zbj, zbk, storeOp, storeCell, overlay, zbl, zbm, zbn, lookupOp, keyT, okRes, mapUpdateOp, zbo, zbp, zbq, zbr, zbs, zbt, zbu, Nat.reduceSub, Nat.reduceAdd, Int.reduceLT, Int.reduceLE, Int.reduceAdd, Int.reduceSub, Int.reduceToNat, Int.reduceBEq, Int.reduceBNe, Int.reduceMul, Nat.reduceBEq, Nat.reduceBNe, Nat.reduceLT, Nat.reduceLeDiff, Nat.reduceMul, Nat.reduceEqDiff, WD, effB, effH, isPriv, isHeap, isImm, zbx, zby, zbz, chkO, setD, dslot, zca, zcb, zcc, zcd, ptrCells_some, F4, wpCall_eq (num_eq _ _), g2]
    refine loop55 (x := x) (i := i) (a := ⟨6, c, d, n, al⟩) (hs := hs) (kp := kp) (inn := inn) ?_ rfl rfl hcx L1 T ?_
    · first | rw [nm4_55] | rw [nk4_55]
      simp only [bits4_55, maskC_nil, maskC_t, maskC_f, WN, firstReg, growAll, zbv, zbw, norm, killS, zag, zah, zaa, zab, zbl, zat, zad, growOne, zae, zaf, zac, zas, zak, Nat.reduceLT, Nat.reduceAdd, zbj, zav, L4_55, hcx, hcl, hcA, actC]
      try rfl
    · simp only [L4_55]
      simp only [WW, partV, eqCells, eqLf, minV, maxV, ifcV, zaa, zab, zac, zad, zae, zaf, zag, zah, zai, ofConst, ofConst1, List.replicate, zaj, zak, loadOp, Go.Abs.loadCells, binV, zal, pickV, zam, zan, zao, zap, zaq, zar, zas, zat, zau, outR, resAll, resOne, zav, zaw, zax, zay, zaz, zba, zbb, zbc, zbd, zbe, zbf, zbg, zbh, zbi, zbj, zbk, storeOp, storeCell, overlay, zbl, zbm, zbn, lookupOp, keyT, okRes, mapUpdateOp, zbo, zbp, zbq, zbr, zbs, zbt, zbu, Nat.reduceSub, Nat.reduceAdd, Int.reduceLT, Int.reduceLE, Int.reduceAdd, Int.reduceSub, Int.reduceToNat, Int.reduceBEq, Int.reduceBNe, Int.reduceMul, Nat.reduceBEq, Nat.reduceBNe, Nat.reduceLT, Nat.reduceLeDiff, Nat.reduceMul, Nat.reduceEqDiff, WD, effB, effH, isPriv, isHeap, isImm, zbx, zby, zbz, chkO, setD, dslot, zca, zcb, zcc, zcd, ptrCells_some, F4]
      refine loop69 (x := x) (i := i) (a := ⟨6, c, d, n, al⟩) (hs := hs) (kp := kp) (inn := inn) ?_ rfl rfl hcx L1 T ?_
      · first | rw [nm4_69] | rw [nk4_69]
        simp only [bits4_69, maskC_nil, maskC_t, maskC_f, WN, firstReg, growAll, zbv, zbw, norm, killS, zag, zah, zaa, zab, zbl, zat, zad, growOne, zae, zaf, zac, zas, zak, Nat.reduceLT, Nat.reduceAdd, zbj, zav, L4_69, hcx, hcl, hcA, actC]
        try rfl
      · intro H9 L9
        simp only [L4_69]
        simp only [WW, partV, eqCells, eqLf, minV, maxV, ifcV, zaa, zab, zac, zad, zae, zaf, zag, zah, zai, ofConst, ofConst1, List.replicate, zaj, zak, loadOp, Go.Abs.loadCells, binV, zal, pickV, zam, zan, zao, zap, zaq, zar, zas, zat, zau, outR, resAll, resOne, zav, zaw, zax, zay, zaz, zba, zbb, zbc, zbd, zbe, zbf, zbg, zbh, zbi, zbj, zbk, storeOp, storeCell, overlay, zbl, zbm, zbn, lookupOp, keyT, okRes, mapUpdateOp, zbo, zbp, zbq, zbr, zbs, zbt, zbu, Nat.reduceSub, Nat.reduceAdd, Int.reduceLT, Int.reduceLE, Int.reduceAdd, Int.reduceSub, Int.reduceToNat, Int.reduceBEq, Int.reduceBNe, Int.reduceMul, Nat.reduceBEq, Nat.reduceBNe, Nat.reduceLT, Nat.reduceLeDiff, Nat.reduceMul, Nat.reduceEqDiff, WD, effB, effH, isPriv, isHeap, isImm, zbx, zby, zbz, chkO, setD, dslot, zca, zcb, zcc, zcd, ptrCells_some, F4, hi1]
        refine hq _ H9 _ _ _ _ _ _ _ _ _ _ ?_ L9 T
        first | rw [nm4_14] | rw [nk4_14]
        simp only [bits4_14, maskC_nil, maskC_t, maskC_f, WN, firstReg, growAll, zbv, zbw, norm, killS, zag, zah, zaa, zab, zbl, zat, zad, growOne, zae, zaf, zac, zas, zak, Nat.reduceLT, Nat.reduceAdd, zbj, zav, L4_14, hcx, hcl]
        try rfl
  · rw [e1] at hl
    have hg : (ivs inn)[d * 1]? = some (.int .i64 (-((m : Int) + 1))) := by rw [Nat.mul_one]; exact ivs_at e3
    have hk : (ivs kp)[d * 1]? = some (.int .i64 v) := by rw [Nat.mul_one]; exact ivs_at e4
    have g2 : decide ((0 : Int) ≤ -((m : Int) + 1)) = false := decide_eq_false (by omega)
    have w3 : IntKind.i64.wrap (IntKind.i64.wrap (0 - -((m : Int) + 1)) - 1) = (m : Int) := by rw [IntWalk.i64_in (0 - -((m : Int) + 1)) (by omega), IntWalk.i64_in _ (by omega)]; omega
    have p5 : ((m : Int) < ((3 : Nat) : Int)) = True := eq_true (by omega)
    have q3 : (m * 4 + d * 1 + 1 ≤ 12) = True := eq_true (by omega)
    have ho : List.take (m * 4 + d * 1) (ivs hs) ++ [.int .i64 v] ++ List.drop (m * 4 + d * 1 + 1) (ivs hs) = ivs (hs.set (4 * m + d) v) := by
      rw [show m * 4 + d * 1 = 4 * m + d by omega]; exact ivs_put (by have := T.lh; omega)
    have ho2 : List.take (d * 1) (ivs inn) ++ [.int .i64 0] ++ List.drop (d * 1 + 1) (ivs inn) = ivs (inn.set d 0) := by rw [Nat.mul_one]; exact ivs_put (by have := T.li; omega)
    simp only [WW, partV, eqCells, eqLf, minV, maxV, ifcV, zaa, zab, zac, zad, zae, zaf, zag, zah, zai, ofConst, ofConst1, List.replicate, zaj, zak, loadOp, Go.Abs.loadCells, binV, zal, pickV, zam, zan, zao, zap, zaq, zar, zas, zat, zau, outR, resAll, resOne, zav, zaw, zax, zay, zaz, zba, zbb, zbc, zbd, zbe, zbf, zbg, zbh, zbi, zbj, zbk, storeOp, storeCell, overlay, zbl, zbm, zbn, lookupOp, keyT, okRes, mapUpdateOp, zbo, zbp, zbq, zbr, zbs, zbt, zbu, Nat.reduceSub, Nat.reduceAdd, Int.reduceLT, Int.reduceLE, Int.reduceAdd, Int.reduceSub, Int.reduceToNat, Int.reduceBEq, Int.reduceBNe, Int.reduceMul, Nat.reduceBEq, Nat.reduceBNe, Nat.reduceLT, Nat.reduceLeDiff, Nat.reduceMul, Nat.reduceEqDiff, WD, effB, effH, isPriv, isHeap, isImm, zbx, zby, zbz, chkO, setD, dslot, zca, zcb, zcc, zcd, ptrCells_some, F4, g1, hlen, h1'.shutIn, hat.at1 h1', hat.fa, hat.cells, b0, b1, b2, b3, p3, p4]
    refine wpCall_of hl ?_
    rintro out H1 ⟨rfl, wo', L1⟩
    simp only [WW, partV, eqCells, eqLf, minV, maxV, ifcV, zaa, zab, zac, zad, zae, zaf, zag, zah, zai, ofConst, ofConst1, List.replicate, zaj, zak, loadOp, Go.Abs.loadCells, binV, zal, pickV, zam, zan, zao, zap, zaq, zar, zas, zat, zau, outR, resAll, resOne, zav, zaw, zax, zay, zaz, zba, zbb, zbc, zbd, zbe, zbf, zbg, zbh, zbi, zbj, zbk, storeOp, storeCell, overlay, zbl, zbm, zbn, lookupOp, keyT, okRes, mapUpdateOp, zbo, zbp, zbq, zbr, zbs, zbt, zbu, Nat.reduceSub, Nat.reduceAdd, Int.reduceLT, Int.reduceLE, Int.reduceAdd, Int.reduceSub, Int.reduceToNat, Int.reduceBEq, Int.reduceBNe, Int.reduceMul, Nat.reduceBEq, Nat.reduceBNe, Nat.reduceLT, Nat.reduceLeDiff, Nat.reduceMul, Nat.reduceEqDiff, WD, effB, effH, isPriv, isHeap, isImm, zbx, zby, zbz, chkO, setD, dslot, zca, zcb, zcc, zcd, ptrCells_some, F4, wpCall_eq (num_eq _ _), hg, p4, g2]
    refine wC_dr alts4_52 (by kernel_rfl) ?_
    simp only [WW, partV, eqCells, eqLf, minV, maxV, ifcV, zaa, zab, zac, zad, zae, zaf, zag, zah, zai, ofConst, ofConst1, List.replicate, zaj, zak, loadOp, Go.Abs.loadCells, binV, zal, pickV, zam, zan, zao, zap, zaq, zar, zas, zat, zau, outR, resAll, resOne, zav, zaw, zax, zay, zaz, zba, zbb, zbc, zbd, zbe, zbf, zbg, zbh, zbi, zbj, zbk, storeOp, storeCell, overlay, zbl, zbm, zbn, lookupOp, keyT, okRes, mapUpdateOp, zbo, zbp, zbq, zbr, zbs, zbt, zbu, Nat.reduceSub, Nat.reduceAdd, Int.reduceLT, Int.reduceLE, Int.reduceAdd, Int.reduceSub, Int.reduceToNat, Int.reduceBEq, Int.reduceBNe, Int.reduceMul, Nat.reduceBEq, Nat.reduceBNe, Nat.reduceLT, Nat.reduceLeDiff, Nat.reduceMul, Nat.reduceEqDiff, WD, effB, effH, isPriv, isHeap, isImm, zbx, zby, zbz, chkO, setD, dslot, zca, zcb, zcc, zcd, ptrCells_some, F4, alts4_52, hg, hk, p4, p5, w3, k1, k3, q3, q2, ho, ho2]
    refine loop55 (x := x) (i := i) (a := ⟨6, c, d, n, al⟩) (hs := hs.set (4 * m + d) v) (kp := kp) (inn := inn.set d 0) ?_ rfl rfl hcx L1 T2 ?_
    · first | rw [nm4_55] | rw [nk4_55]
      simp only [bits4_55, maskC_nil, maskC_t, maskC_f, WN, firstReg, growAll, zbv, zbw, norm, killS, zag, zah, zaa, zab, zbl, zat, zad, growOne, zae, zaf, zac, zas, zak, Nat.reduceLT, Nat.reduceAdd, zbj, zav, L4_55, hcx, hcl, hcA, actC]
      try rfl
    · simp only [L4_55]
      simp only [WW, partV, eqCells, eqLf, minV, maxV, ifcV, zaa, zab, zac, zad, zae, zaf, zag, zah, zai, ofConst, ofConst1, List.replicate, zaj, zak, loadOp, Go.Abs.loadCells, binV, zal, pickV, zam, zan, zao, zap, zaq, zar, zas, zat, zau, outR, resAll, resOne, zav, zaw, zax, zay, zaz, zba, zbb, zbc, zbd, zbe, zbf, zbg, zbh, zbi, zbj, zbk, storeOp, storeCell, overlay, zbl, zbm, zbn, lookupOp, keyT, okRes, mapUpdateOp, zbo, zbp, zbq, zbr, zbs, zbt, zbu, Nat.reduceSub, Nat.reduceAdd, Int.reduceLT, Int.reduceLE, Int.reduceAdd, Int.reduceSub, Int.reduceToNat, Int.reduceBEq, Int.reduceBNe, Int.reduceMul, Nat.reduceBEq, Nat.reduceBNe, Nat.reduceLT, Nat.reduceLeDiff, Nat.reduceMul, Nat.reduceEqDiff, WD, effB, effH, isPriv, isHeap, isImm, zbx, zby, zbz, chkO, setD, dslot, zca, zcb, zcc, zcd, ptrCells_some, F4]
      refine loop69 (x := x) (i := i) (a := ⟨6, c, d, n, al⟩) (hs := hs.set (4 * m + d) v) (kp := kp) (inn := inn.set d 0) ?_ rfl rfl hcx L1 T2 ?_
      · first | rw [nm4_69] | rw [nk4_69]
        simp only [bits4_69, maskC_nil, maskC_t, maskC_f, WN, firstReg, growAll, zbv, zbw, norm, killS, zag, zah, zaa, zab, zbl, zat, zad, growOne, zae, zaf, zac, zas, zak, Nat.reduceLT, Nat.reduceAdd, zbj, zav, L4_69, hcx, hcl, hcA, actC]
        try rfl
      · intro H9 L9
        simp only [L4_69]
        simp only [WW, partV, eqCells, eqLf, minV, maxV, ifcV, zaa, zab, zac, zad, zae, zaf, zag, zah, zai, ofConst, ofConst1, List.replicate, zaj, zak, loadOp, Go.Abs.loadCells, binV, zal, pickV, zam, zan, zao, zap, zaq, zar, zas, zat, zau, outR, resAll, resOne, zav, zaw, zax, zay, zaz, zba, zbb, zbc, zbd, zbe, zbf, zbg, zbh, zbi, zbj, zbk, storeOp, storeCell, overlay, zbl, zbm, zbn, lookupOp, keyT, okRes, mapUpdateOp, zbo, zbp, zbq, zbr, zbs, zbt, zbu, Nat.reduceSub, Nat.reduceAdd, Int.reduceLT, Int.reduceLE, Int.reduceAdd, Int.reduceSub, Int.reduceToNat, Int.reduceBEq, Int.reduceBNe, Int.reduceMul, Nat.reduceBEq, Nat.reduceBNe, Nat.reduceLT, Nat.reduceLeDiff, Nat.reduceMul, Nat.reduceEqDiff, WD, effB, effH, isPriv, isHeap, isImm, zbx, zby, zbz, chkO, setD, dslot, zca, zcb, zcc, zcd, ptrCells_some, F4, hi1]
        refine hq _ H9 _ _ _ _ _ _ _ _ _ _ ?_ L9 T2
        first | rw [nm4_14] | rw [nk4_14]
        simp only [bits4_14, maskC_nil, maskC_t, maskC_f, WN, firstReg, growAll, zbv, zbw, norm, killS, zag, zah, zaa, zab, zbl, zat, zad, growOne, zae, zaf, zac, zas, zak, Nat.reduceLT, Nat.reduceAdd, zbj, zav, L4_14, hcx, hcl]
        try rfl
end Go.Proofs.Ythicacphcljdmaa

/- LockTrue: acts that do nothing. -/
namespace Go.Proofs.Ythicacphcljdmaa
open Go Go.Abs Go.Proofs
set_option maxRecDepth 100000
set_option maxHeartbeats 16000000
set_option linter.unusedVariables false
set_option linter.unusedSimpArgs false
theorem act_none {Q : Post} {x : V} {l : List Act} {i : Nat} {a : Act} {H : Hp} {ms : List Mon} {ws wk : List Slp} {came : Int} {all wa wo : V} {hs kp inn : List Int} (h : Tn x l i a H ms ws wk came all wa wo hs kp inn) (hq : Nx Q x i) {c d : Nat} {o n : Int} {al : Bool} (ha : a = ⟨o, c, d, n, al⟩) (hc : c < 3) (hd4 : d < 4) (h1 : o ≠ 1) (h2 : o ≠ 2) (h3 : o ≠ 3) (h4 : o ≠ 4) (h5 : o ≠ 5) (h6 : o ≠ 6) :
    wpC (envOf Try.prog notes (evW Try.prog notes) 4) (loopOf Try.f4 14) (st14 x i hs kp inn) H Q := by
  obtain ⟨hlen, g1, hi1, hcx, hat⟩ := h.len
  obtain ⟨hx, hd, hi, L, T⟩ := h
  have h1' := hx H
  have hcA : ∀ m, (actC ⟨o, c, d, n, al⟩).map (clipV m) = actC ⟨o, c, d, n, al⟩ := fun _ => rfl
  have hcl := fun l => ivs_clip l
  simp only [actV] at hat
  subst ha
  have b0 : decide ((c : Int) < 0) = false := decide_eq_false (by omega)
  have b1 : decide ((2 : Int) < (c : Int)) = false := decide_eq_false (by omega)
  have b2 : decide ((d : Int) < 0) = false := decide_eq_false (by omega)
  have b3 : decide ((3 : Int) < (d : Int)) = false := decide_eq_false (by omega)
  have p3 : ((c : Int) < ((3 : Nat) : Int)) = True := eq_true (by omega)
  have p4 : ((d : Int) < ((4 : Nat) : Int)) = True := eq_true (by omega)
  have q1 : (c * 4 + d * 1 + 1 ≤ 12) = True := eq_true (by omega)
  have q2 : (d * 1 + 1 ≤ 4) = True := eq_true (by omega)
  have k1 : (ivs hs).length = 12 := by rw [ivs_len]; exact T.lh
  have k2 : (ivs kp).length = 4 := by rw [ivs_len]; exact T.lk
  have k3 : (ivs inn).length = 4 := by rw [ivs_len]; exact T.li
  have hcd : c * 4 + d * 1 = 4 * c + d := by omega
  have hsl := T.small
  have g10 : (o == 1) = false := by simpa using h1
  have g20 : (o == 2) = false := by simpa using h2
  have g30 : (o == 3) = false := by simpa using h3
  have g40 : (o == 4) = false := by simpa using h4
  have g50 : (o == 5) = false := by simpa using h5
  have g60 : (o == 6) = false := by simpa using h6
  simp only [loopOf, bodyOf, Try.f4, Option.getD_some, findLoop, firstReg, orC_some, orC_none, Nat.reduceEqDiff, decide_true, decide_false]
  simp only [st14, L4_14]
  simp only [WW, partV, eqCells, eqLf, minV, maxV, ifcV, zaa, zab, zac, zad, zae, zaf, zag, zah, zai, ofConst, ofConst1, List.replicate, zaj, zak, loadOp, Go.Abs.loadCells, binV, zal, pickV, zam, zan, zao, zap, zaq, zar, zas, zat, zau, outR, resAll, resOne, zav, zaw, zax, zay, zaz, zba, zbb, zbc, zbd, zbe, zbf, zbg, zbh, zbi, zbj, zbk, storeOp, storeCell, overlay, zbl, zbm, zbn, lookupOp, keyT, okRes, mapUpdateOp, zbo, zbp, zbq, zbr, zbs, zbt, zbu, Nat.reduceSub, Nat.reduceAdd, Int.reduceLT, Int.reduceLE, Int.reduceAdd, Int.reduceSub, Int.reduceToNat, Int.reduceBEq, Int.reduceBNe, Int.reduceMul, Nat.reduceBEq, Nat.reduceBNe, Nat.reduceLT, Nat.reduceLeDiff, Nat.reduceMul, Nat.reduceEqDiff, WD, effB, effH, isPriv, isHeap, isImm, zbx, zby, zbz, chkO, setD, dslot, zca, zcb, zcc, zcd, ptrCells_some, F4, g1, hlen, h1'.shutIn, hat.at1 h1', hat.fa, hat.cells, b0, b1, b2, b3, p3, p4, g10, g20, g30, g40, g50, g60]
  refine loop55 (x := x) (i := i) (a := ⟨o, c, d, n, al⟩) (hs := hs) (kp := kp) (inn := inn) ?_ rfl rfl hcx L T ?_
  · first | rw [nm4_55] | rw [nk4_55]
    simp only [bits4_55, maskC_nil, maskC_t, maskC_f, WN, firstReg, growAll, zbv, zbw, norm, killS, zag, zah, zaa, zab, zbl, zat, zad, growOne, zae, zaf, zac, zas, zak, Nat.reduceLT, Nat.reduceAdd, zbj, zav, L4_55, hcx, hcl, hcA, actC]
    try rfl
  · simp only [L4_55]
    simp only [WW, partV, eqCells, eqLf, minV, maxV, ifcV, zaa, zab, zac, zad, zae, zaf, zag, zah, zai, ofConst, ofConst1, List.replicate, zaj, zak, loadOp, Go.Abs.loadCells, binV, zal, pickV, zam, zan, zao, zap, zaq, zar, zas, zat, zau, outR, resAll, resOne, zav, zaw, zax, zay, zaz, zba, zbb, zbc, zbd, zbe, zbf, zbg, zbh, zbi, zbj, zbk, storeOp, storeCell, overlay, zbl, zbm, zbn, lookupOp, keyT, okRes, mapUpdateOp, zbo, zbp, zbq, zbr, zbs, zbt, zbu, Nat.reduceSub, Nat.reduceAdd, Int.reduceLT, Int.reduceLE, Int.reduceAdd, Int.reduceSub, Int.reduceToNat, Int.reduceBEq, Int.reduceBNe, Int.reduceMul, Nat.reduceBEq, Nat.reduceBNe, Nat.reduceLT, Nat.reduceLeDiff, Nat.reduceMul, Nat.reduceEqDiff, WD, effB, effH, isPriv, isHeap, isImm, zbx, zby, zbz, chkO, setD, dslot, zca, zcb, zcc, zcd, ptrCells_some, F4]
    refine loop69 (x := x) (i := i) (a := ⟨o, c, d, n, al⟩) (hs := hs) (kp := kp) (inn := inn) ?_ rfl rfl hcx L T ?_
    · first | rw [nm4_69] | rw [nk4_69]
      simp only [bits4_69, maskC_nil, maskC_t, maskC_f, WN, firstReg, growAll, zbv, zbw, norm, killS, zag, zah, zaa, zab, zbl, zat, zad, growOne, zae, zaf, zac, zas, zak, Nat.reduceLT, Nat.reduceAdd, zbj, zav, L4_69, hcx, hcl, hcA, actC]
      try rfl
    · intro H9 L9
      simp only [L4_69]
      simp only [WW, partV, eqCells, eqLf, minV, maxV, ifcV, zaa, zab, zac, zad, zae, zaf, zag, zah, zai, ofConst, ofConst1, List.replicate, zaj, zak, loadOp, Go.Abs.loadCells, binV, zal, pickV, zam, zan, zao, zap, zaq, zar, zas, zat, zau, outR, resAll, resOne, zav, zaw, zax, zay, zaz, zba, zbb, zbc, zbd, zbe, zbf, zbg, zbh, zbi, zbj, zbk, storeOp, storeCell, overlay, zbl, zbm, zbn, lookupOp, keyT, okRes, mapUpdateOp, zbo, zbp, zbq, zbr, zbs, zbt, zbu, Nat.reduceSub, Nat.reduceAdd, Int.reduceLT, Int.reduceLE, Int.reduceAdd, Int.reduceSub, Int.reduceToNat, Int.reduceBEq, Int.reduceBNe, Int.reduceMul, Nat.reduceBEq, Nat.reduceBNe, Nat.reduceLT, Nat.reduceLeDiff, Nat.reduceMul, Nat.reduceEqDiff, WD, effB, effH, isPriv, isHeap, isImm, zbx, zby, zbz, chkO, setD, dslot, zca, zcb, zcc, zcd, ptrCells_some, F4, hi1]
      refine hq _ H9 _ _ _ _ _ _ _ _ _ _ ?_ L9 T
      first | rw [nm4_14] | rw [nk4_14]
      simp only [bits4_14, maskC_nil, maskC_t, maskC_f, WN, firstReg, growAll, zbv, zbw, norm, killS, zag, zah, zaa, zab, zbl, zat, zad, growOne, zae, zaf, zac, zas, zak, Nat.reduceLT, Nat.reduceAdd, zbj, zav, L4_14, hcx, hcl]
      try rfl
theorem act_skip {Q : Post} {x : V} {l : List Act} {i : Nat} {a : Act} {H : Hp} {ms : List Mon} {ws wk : List Slp} {came : Int} {all wa wo : V} {hs kp inn : List Int} (h : Tn x l i a H ms ws wk came all wa wo hs kp inn) (hq : Nx Q x i) {o m t n : Int} {al : Bool} (ha : a = ⟨o, m, t, n, al⟩) (hc : m < 0 ∨ 2 < m ∨ t < 0 ∨ 3 < t) :
    wpC (envOf Try.prog notes (evW Try.prog notes) 4) (loopOf Try.f4 14) (st14 x i hs kp inn) H Q := by
  obtain ⟨hlen, g1, hi1, hcx, hat⟩ := h.len
  obtain ⟨hx, hd, hi, L, T⟩ := h
  have h1' := hx H
  have hcA : ∀ z, (actC ⟨o, m, t, n, al⟩).map (clipV z) = actC ⟨o, m, t, n, al⟩ := fun _ => rfl
  have hcl := fun l => ivs_clip l
  simp only [actV] at hat
  subst ha
  simp only [loopOf, bodyOf, Try.f4, Option.getD_some, findLoop, firstReg, orC_some, orC_none, Nat.reduceEqDiff, decide_true, decide_false]
  simp only [st14, L4_14]
  cases b0 : decide (m < 0) with
  | true =>
    simp only [WW, partV, eqCells, eqLf, minV, maxV, ifcV, zaa, zab, zac, zad, zae, zaf, zag, zah, zai, ofConst, ofConst1, List.replicate, zaj, zak, loadOp, Go.Abs.loadCells, binV, zal, pickV, zam, zan, zao, zap, zaq, zar, zas, zat, zau, outR, resAll, resOne, zav, zaw, zax, zay, zaz, zba, zbb, zbc, zbd, zbe, zbf, zbg, zbh, zbi, zbj, zbk, storeOp, storeCell, overlay, zbl, zbm, zbn, lookupOp, keyT, okRes, mapUpdateOp, zbo, zbp, zbq, zbr, zbs, zbt, zbu, Nat.reduceSub, Nat.reduceAdd, Int.reduceLT, Int.reduceLE, Int.reduceAdd, Int.reduceSub, Int.reduceToNat, Int.reduceBEq, Int.reduceBNe, Int.reduceMul, Nat.reduceBEq, Nat.reduceBNe, Nat.reduceLT, Nat.reduceLeDiff, Nat.reduceMul, Nat.reduceEqDiff, WD, effB, effH, isPriv, isHeap, isImm, zbx, zby, zbz, chkO, setD, dslot, zca, zcb, zcc, zcd, ptrCells_some, F4, g1, hlen, h1'.shutIn, hat.at1 h1', hat.fa, hat.cells, b0, hi1]
    refine hq _ _ _ _ _ _ _ _ _ _ _ _ ?_ L T
    first | rw [nm4_14] | rw [nk4_14]
    simp only [bits4_14, maskC_nil, maskC_t, maskC_f, WN, firstReg, growAll, zbv, zbw, norm, killS, zag, zah, zaa, zab, zbl, zat, zad, growOne, zae, zaf, zac, zas, zak, Nat.reduceLT, Nat.reduceAdd, zbj, zav, L4_14, hcx, hcl]
    try rfl
  | false =>
    cases b1 : decide ((2 : Int) < m) with
    | true =>
      simp only [WW, partV, eqCells, eqLf, minV, maxV, ifcV, zaa, zab, zac, zad, zae, zaf, zag, zah, zai, ofConst, ofConst1, List.replicate, zaj, zak, loadOp, Go.Abs.loadCells, binV, zal, pickV, zam, zan, zao, zap, zaq, zar, zas, zat, zau, outR, resAll, resOne, zav, zaw, zax, zay, zaz, zba, zbb, zbc, zbd, zbe, zbf, zbg, zbh, zbi, zbj, zbk, storeOp, storeCell, overlay, zbl, zbm, zbn, lookupOp, keyT, okRes, mapUpdateOp, zbo, zbp, zbq, zbr, zbs, zbt, zbu, Nat.reduceSub, Nat.reduceAdd, Int.reduceLT, Int.reduceLE, Int.reduceAdd, Int.reduceSub, Int.reduceToNat, Int.reduceBEq, Int.reduceBNe, Int.reduceMul, Nat.reduceBEq, Nat.reduceBNe, Nat.reduceLT, Nat.reduceLeDiff, Nat.reduceMul, Nat.reduceEqDiff, WD, effB, effH, isPriv, isHeap, isImm, zbx, zby, zbz, chkO, setD, dslot, zca, zcb, zcc, zcd, ptrCells_some, F4, g1, hlen, h1'.shutIn, hat.at1 h1', hat.fa, hat.cells, b0, b1, hi1]
      refine hq _ _ _ _ _ _ _ _ _ _ _ _ ?_ L T
      first | rw [nm4_14] | rw [nk4_14]
      simp only [bits4_14, maskC_nil, maskC_t, maskC_f, WN, firstReg, growAll, zbv, zbw, norm, killS, zag, zah, zaa, zab, zbl, zat, zad, growOne, zae, zaf, zac, zas, zak, Nat.reduceLT, Nat.reduceAdd, zbj, zav, L4_14, hcx, hcl]
      try rfl
    | false =>
      cases b2 : decide (t < 0) with
      | true =>
        simp only [WW, partV, eqCells, eqLf, minV, maxV, ifcV, zaa, zab, zac, zad, zae, zaf, zag, zah, zai, ofConst, ofConst1, List.replicate, zaj, zak, loadOp, Go.Abs.loadCells, binV, zal, pickV, zam, zan, zao, zap, zaq, zar, zas, zat, zau, outR, resAll, resOne, zav, zaw, zax, zay, zaz, zba, zbb, zbc, zbd, zbe, zbf, zbg, zbh, zbi, zbj, zbk, storeOp, storeCell, overlay, zbl, zbm, zbn, lookupOp, keyT, okRes, mapUpdateOp, zbo, zbp, zbq, zbr, zbs, zbt, zbu, Nat.reduceSub, Nat.reduceAdd, Int.reduceLT, Int.reduceLE, Int.reduceAdd, Int.reduceSub, Int.reduceToNat, Int.reduceBEq, Int.reduceBNe, Int.reduceMul, Nat.reduceBEq, Nat.reduceBNe, Nat.reduceLT, Nat.reduceLeDiff, Nat.reduceMul, Nat.reduceEqDiff, WD, effB, effH, isPriv, isHeap, isImm, zbx, zby, zbz, chkO, setD, dslot, zca, zcb, zcc, zcd, ptrCells_some, F4, g1, hlen, h1'.shutIn, hat.at1 h1', hat.fa, hat.cells, b0, b1, b2, hi1]
        refine hq _ _ _ _ _ _ _ _ _ _ _ _ ?_ L T
        first | rw [nm4_14] | rw [nk4_14]
        simp only [bits4_14, maskC_nil, maskC_t, maskC_f, WN, firstReg, growAll, zbv, zbw, norm, killS, zag, zah, zaa, zab, zbl, zat, zad, growOne, zae, zaf, zac, zas, zak, Nat.reduceLT, Nat.reduceAdd, zbj, zav, L4_14, hcx, hcl]
        try rfl
      | false =>
        cases b3 : decide ((3 : Int) < t) with
        | true =>
          simp only [WW, partV, eqCells, eqLf, minV, maxV, ifcV, zaa, zab, zac, zad, zae, zaf, zag, zah, zai, ofConst, ofConst1, List.replicate, zaj, zak, loadOp, Go.Abs.loadCells, binV, zal, pickV, zam, zan, zao, zap, zaq, zar, zas, zat, zau, outR, resAll, resOne, zav, zaw, zax, zay, zaz, zba, zbb, zbc, zbd, zbe, zbf, zbg, zbh, zbi, zbj, zbk, storeOp, storeCell, overlay, zbl, zbm, zbn, lookupOp, keyT, okRes, mapUpdateOp, zbo, zbp, zbq, zbr, zbs, zbt, zbu, Nat.reduceSub, Nat.reduceAdd, Int.reduceLT, Int.reduceLE, Int.reduceAdd, Int.reduceSub, Int.reduceToNat, Int.reduceBEq, Int.reduceBNe, Int.reduceMul, Nat.reduceBEq, Nat.reduceBNe, Nat.reduceLT, Nat.reduceLeDiff, Nat.reduceMul, Nat.reduceEqDiff, WD, effB, effH, isPriv, isHeap, isImm, zbx, zby, zbz, chkO, setD, dslot, zca, zcb, zcc, zcd, ptrCells_some, F4, g1, hlen, h1'.shutIn, hat.at1 h1', hat.fa, hat.cells, b0, b1, b2, b3, hi1]
          refine hq _ _ _ _ _ _ _ _ _ _ _ _ ?_ L T
          first | rw [nm4_14] | rw [nk4_14]
          simp only [bits4_14, maskC_nil, maskC_t, maskC_f, WN, firstReg, growAll, zbv, zbw, norm, killS, zag, zah, zaa, zab, zbl, zat, zad, growOne, zae, zaf, zac, zas, zak, Nat.reduceLT, Nat.reduceAdd, zbj, zav, L4_14, hcx, hcl]
          try rfl
        | false =>
          exfalso
          simp at b0 b1 b2 b3
          omega
end Go.Proofs.Ythicacphcljdmaa

/- LockTrue: the law. -/
namespace Go.Proofs.Ythicacphcljdmaa
open Go Go.Abs Go.Proofs
set_option maxRecDepth 100000
set_option maxHeartbeats 16000000
set_option linter.unusedVariables false
set_option linter.unusedSimpArgs false
theorem ti_start (a b c : Nat) : TI [⟨a, -1, 0⟩, ⟨b, -1, 0⟩, ⟨c, -1, 0⟩] [] [] (List.replicate 12 0) (List.replicate 4 0) (List.replicate 4 0) := by
  refine ⟨rfl, rfl, rfl, rfl, fun m x hx => ?_, fun s hs => (by cases hs), fun s hs => (by cases hs), fun d hd => Nat.zero_le _, fun d hd _ => by rw [List.getElem?_replicate, if_pos hd]⟩
  have hm := (List.getElem?_eq_some_iff.1 hx).1
  simp only [List.length_cons, List.length_nil] at hm
  have hc : m = 0 ∨ m = 1 ∨ m = 2 := by omega
  refine .inl ?_
  have hz : ∀ d : Nat, d < 4 → (List.replicate 12 (0 : Int))[4 * m + d]? = some 0 := fun d hd => by rw [List.getElem?_replicate, if_pos (by omega)]
  rcases hc with rfl | rfl | rfl <;> (cases hx; exact ⟨rfl, rfl, hz⟩)
theorem trues_eq (x : V) (l : List Act) (hx : ∀ H, Rd H x (l.map actV)) : wpCall EW 4 [x] [] (fun out H' => out = .ret (.bool true) false) := by
  have hs := (hx []).shutIn
  have hlen : ∀ H e, lenK H (.slice e) x = some (.int .i64 (l.length : Int)) := fun H e => by have := (hx H).len e; rwa [List.length_map] at this
  have hcx := (hx []).clip2
  have hcl := fun l => ivs_clip l
  refine runs f4 b4 r4 n4 _ _ ?_
  simp only [bodyOf, Try.f4, Option.getD_some]
  simp only [WW, partV, eqCells, eqLf, minV, maxV, ifcV, zaa, zab, zac, zad, zae, zaf, zag, zah, zai, ofConst, ofConst1, List.replicate, zaj, zak, loadOp, Go.Abs.loadCells, binV, zal, pickV, zam, zan, zao, zap, zaq, zar, zas, zat, zau, outR, resAll, resOne, zav, zaw, zax, zay, zaz, zba, zbb, zbc, zbd, zbe, zbf, zbg, zbh, zbi, zbj, zbk, storeOp, storeCell, overlay, zbl, zbm, zbn, lookupOp, keyT, okRes, mapUpdateOp, zbo, zbp, zbq, zbr, zbs, zbt, zbu, Nat.reduceSub, Nat.reduceAdd, Int.reduceLT, Int.reduceLE, Int.reduceAdd, Int.reduceSub, Int.reduceToNat, Int.reduceBEq, Int.reduceBNe, Int.reduceMul, Nat.reduceBEq, Nat.reduceBNe, Nat.reduceLT, Nat.reduceLeDiff, Nat.reduceMul, Nat.reduceEqDiff, WD, effB, effH, isPriv, isHeap, isImm, zbx, zby, zbz, chkO, setD, dslot, zca, zcb, zcc, zcd, ptrCells_some, F4, hs, hlen]
  refine cSplit (fun h0 => ?_) (fun h0 => ?_)
  · simp only [h0]
    simp only [WW, partV, eqCells, eqLf, minV, maxV, ifcV, zaa, zab, zac, zad, zae, zaf, zag, zah, zai, ofConst, ofConst1, List.replicate, zaj, zak, loadOp, Go.Abs.loadCells, binV, zal, pickV, zam, zan, zao, zap, zaq, zar, zas, zat, zau, outR, resAll, resOne, zav, zaw, zax, zay, zaz, zba, zbb, zbc, zbd, zbe, zbf, zbg, zbh, zbi, zbj, zbk, storeOp, storeCell, overlay, zbl, zbm, zbn, lookupOp, keyT, okRes, mapUpdateOp, zbo, zbp, zbq, zbr, zbs, zbt, zbu, Nat.reduceSub, Nat.reduceAdd, Int.reduceLT, Int.reduceLE, Int.reduceAdd, Int.reduceSub, Int.reduceToNat, Int.reduceBEq, Int.reduceBNe, Int.reduceMul, Nat.reduceBEq, Nat.reduceBNe, Nat.reduceLT, Nat.reduceLeDiff, Nat.reduceMul, Nat.reduceEqDiff, WD, effB, effH, isPriv, isHeap, isImm, zbx, zby, zbz, chkO, setD, dslot, zca, zcb, zcc, zcd, ptrCells_some, F4]
    rw [wpCall_eq (live_eq _)]
    simp only [WW, partV, eqCells, eqLf, minV, maxV, ifcV, zaa, zab, zac, zad, zae, zaf, zag, zah, zai, ofConst, ofConst1, List.replicate, zaj, zak, loadOp, Go.Abs.loadCells, binV, zal, pickV, zam, zan, zao, zap, zaq, zar, zas, zat, zau, outR, resAll, resOne, zav, zaw, zax, zay, zaz, zba, zbb, zbc, zbd, zbe, zbf, zbg, zbh, zbi, zbj, zbk, storeOp, storeCell, overlay, zbl, zbm, zbn, lookupOp, keyT, okRes, mapUpdateOp, zbo, zbp, zbq, zbr, zbs, zbt, zbu, Nat.reduceSub, Nat.reduceAdd, Int.reduceLT, Int.reduceLE, Int.reduceAdd, Int.reduceSub, Int.reduceToNat, Int.reduceBEq, Int.reduceBNe, Int.reduceMul, Nat.reduceBEq, Nat.reduceBNe, Nat.reduceLT, Nat.reduceLeDiff, Nat.reduceMul, Nat.reduceEqDiff, WD, effB, effH, isPriv, isHeap, isImm, zbx, zby, zbz, chkO, setD, dslot, zca, zcb, zcc, zcd, ptrCells_some, F4]
  simp only [h0]
  have e0 : l.length ≤ 60 := by simp at h0; omega
  simp only [WW, partV, eqCells, eqLf, minV, maxV, ifcV, zaa, zab, zac, zad, zae, zaf, zag, zah, zai, ofConst, ofConst1, List.replicate, zaj, zak, loadOp, Go.Abs.loadCells, binV, zal, pickV, zam, zan, zao, zap, zaq, zar, zas, zat, zau, outR, resAll, resOne, zav, zaw, zax, zay, zaz, zba, zbb, zbc, zbd, zbe, zbf, zbg, zbh, zbi, zbj, zbk, storeOp, storeCell, overlay, zbl, zbm, zbn, lookupOp, keyT, okRes, mapUpdateOp, zbo, zbp, zbq, zbr, zbs, zbt, zbu, Nat.reduceSub, Nat.reduceAdd, Int.reduceLT, Int.reduceLE, Int.reduceAdd, Int.reduceSub, Int.reduceToNat, Int.reduceBEq, Int.reduceBNe, Int.reduceMul, Nat.reduceBEq, Nat.reduceBNe, Nat.reduceLT, Nat.reduceLeDiff, Nat.reduceMul, Nat.reduceEqDiff, WD, effB, effH, isPriv, isHeap, isImm, zbx, zby, zbz, chkO, setD, dslot, zca, zcb, zcc, zcd, ptrCells_some, F4]
  rw [wpCall_eq (new_eq _)]
  simp only [WW, partV, eqCells, eqLf, minV, maxV, ifcV, zaa, zab, zac, zad, zae, zaf, zag, zah, zai, ofConst, ofConst1, List.replicate, zaj, zak, loadOp, Go.Abs.loadCells, binV, zal, pickV, zam, zan, zao, zap, zaq, zar, zas, zat, zau, outR, resAll, resOne, zav, zaw, zax, zay, zaz, zba, zbb, zbc, zbd, zbe, zbf, zbg, zbh, zbi, zbj, zbk, storeOp, storeCell, overlay, zbl, zbm, zbn, lookupOp, keyT, okRes, mapUpdateOp, zbo, zbp, zbq, zbr, zbs, zbt, zbu, Nat.reduceSub, Nat.reduceAdd, Int.reduceLT, Int.reduceLE, Int.reduceAdd, Int.reduceSub, Int.reduceToNat, Int.reduceBEq, Int.reduceBNe, Int.reduceMul, Nat.reduceBEq, Nat.reduceBNe, Nat.reduceLT, Nat.reduceLeDiff, Nat.reduceMul, Nat.reduceEqDiff, WD, effB, effH, isPriv, isHeap, isImm, zbx, zby, zbz, chkO, setD, dslot, zca, zcb, zcc, zcd, ptrCells_some, F4]
  refine wC_loop _ (fun j st' H' => ∃ (k : Nat) (ms : List Mon) (all : V), st' = ⟨L4_7 (.v x) (.v (.ptr 0 0 0)) (.v (.int .i64 (k : Int))), [], []⟩ ∧ LK H' 0 ms [] [] 0 all .nils .nils ∧ ms.length = k ∧ (∀ y ∈ ms, y.t = -1 ∧ y.n = 0) ∧ k ≤ 3 ∧ j = 3 - k) 3 ⟨0, [], .nils, ?_, new_lk [], rfl, fun y hy => (by cases hy), by omega, rfl⟩ ?_
  · simp only [envG, envK, firstReg, grow4_7, growAll, List.foldl_nil]
    rw [nm4_7]
    simp only [bits4_7, maskC_nil, maskC_t, maskC_f, WN, firstReg, growAll, zbv, zbw, norm, killS, zag, zah, zaa, zab, zbl, zat, zad, growOne, zae, zaf, zac, zas, zak, Nat.reduceLT, Nat.reduceAdd, zbj, zav, L4_7, hcx]
    try rfl
  · simp only [envG, envK, firstReg, grow4_7, growAll, List.foldl_nil]
    rintro j st' H' ⟨k, ms, all, rfl, L, hml, hmz, hk, rfl⟩
    simp only [L4_7]
    by_cases hlt : k < 3
    · have g1 : decide ((k : Int) < 3) = true := decide_eq_true (by omega)
      have hk1 : IntKind.i64.wrap ((k : Int) + 1) = ((k + 1 : Nat) : Int) := by rw [IntWalk.i64_in _ (by omega)]; omega
      simp only [WW, partV, eqCells, eqLf, minV, maxV, ifcV, zaa, zab, zac, zad, zae, zaf, zag, zah, zai, ofConst, ofConst1, List.replicate, zaj, zak, loadOp, Go.Abs.loadCells, binV, zal, pickV, zam, zan, zao, zap, zaq, zar, zas, zat, zau, outR, resAll, resOne, zav, zaw, zax, zay, zaz, zba, zbb, zbc, zbd, zbe, zbf, zbg, zbh, zbi, zbj, zbk, storeOp, storeCell, overlay, zbl, zbm, zbn, lookupOp, keyT, okRes, mapUpdateOp, zbo, zbp, zbq, zbr, zbs, zbt, zbu, Nat.reduceSub, Nat.reduceAdd, Int.reduceLT, Int.reduceLE, Int.reduceAdd, Int.reduceSub, Int.reduceToNat, Int.reduceBEq, Int.reduceBNe, Int.reduceMul, Nat.reduceBEq, Nat.reduceBNe, Nat.reduceLT, Nat.reduceLeDiff, Nat.reduceMul, Nat.reduceEqDiff, WD, effB, effH, isPriv, isHeap, isImm, zbx, zby, zbz, chkO, setD, dslot, zca, zcb, zcc, zcd, ptrCells_some, F4, g1]
      refine wpCall_of (make_lk L (by omega)) ?_
      rintro out H1 ⟨rfl, all', L1⟩
      simp only [WW, partV, eqCells, eqLf, minV, maxV, ifcV, zaa, zab, zac, zad, zae, zaf, zag, zah, zai, ofConst, ofConst1, List.replicate, zaj, zak, loadOp, Go.Abs.loadCells, binV, zal, pickV, zam, zan, zao, zap, zaq, zar, zas, zat, zau, outR, resAll, resOne, zav, zaw, zax, zay, zaz, zba, zbb, zbc, zbd, zbe, zbf, zbg, zbh, zbi, zbj, zbk, storeOp, storeCell, overlay, zbl, zbm, zbn, lookupOp, keyT, okRes, mapUpdateOp, zbo, zbp, zbq, zbr, zbs, zbt, zbu, Nat.reduceSub, Nat.reduceAdd, Int.reduceLT, Int.reduceLE, Int.reduceAdd, Int.reduceSub, Int.reduceToNat, Int.reduceBEq, Int.reduceBNe, Int.reduceMul, Nat.reduceBEq, Nat.reduceBNe, Nat.reduceLT, Nat.reduceLeDiff, Nat.reduceMul, Nat.reduceEqDiff, WD, effB, effH, isPriv, isHeap, isImm, zbx, zby, zbz, chkO, setD, dslot, zca, zcb, zcc, zcd, ptrCells_some, F4, hk1]
      refine ⟨3 - (k + 1), by omega, k + 1, _, all', ?_, L1, by simp [hml], fun y hy => ?_, by omega, rfl⟩
      · first | rw [nm4_7] | rw [nk4_7]
        simp only [bits4_7, maskC_nil, maskC_t, maskC_f, WN, firstReg, growAll, zbv, zbw, norm, killS, zag, zah, zaa, zab, zbl, zat, zad, growOne, zae, zaf, zac, zas, zak, Nat.reduceLT, Nat.reduceAdd, zbj, zav, L4_7, hcx]
        try rfl
      · rcases List.mem_append.1 hy with hy | hy
        · exact hmz y hy
        · rw [List.mem_singleton.1 hy]; exact ⟨rfl, rfl⟩
    · have g1 : decide ((k : Int) < 3) = false := decide_eq_false (by omega)
      have hm3 : ms.length = 3 := by omega
      have T0 : TI ms [] [] (List.replicate 12 0) (List.replicate 4 0) (List.replicate 4 0) := by
        match ms, hm3 with
        | [⟨a, at', an⟩, ⟨b, bt, bn⟩, ⟨c, ct, cn⟩], _ =>
          obtain ⟨rfl, rfl⟩ := hmz ⟨a, at', an⟩ (by simp)
          obtain ⟨rfl, rfl⟩ := hmz ⟨b, bt, bn⟩ (by simp)
          obtain ⟨rfl, rfl⟩ := hmz ⟨c, ct, cn⟩ (by simp)
          exact ti_start a b c
      simp only [WW, partV, eqCells, eqLf, minV, maxV, ifcV, zaa, zab, zac, zad, zae, zaf, zag, zah, zai, ofConst, ofConst1, List.replicate, zaj, zak, loadOp, Go.Abs.loadCells, binV, zal, pickV, zam, zan, zao, zap, zaq, zar, zas, zat, zau, outR, resAll, resOne, zav, zaw, zax, zay, zaz, zba, zbb, zbc, zbd, zbe, zbf, zbg, zbh, zbi, zbj, zbk, storeOp, storeCell, overlay, zbl, zbm, zbn, lookupOp, keyT, okRes, mapUpdateOp, zbo, zbp, zbq, zbr, zbs, zbt, zbu, Nat.reduceSub, Nat.reduceAdd, Int.reduceLT, Int.reduceLE, Int.reduceAdd, Int.reduceSub, Int.reduceToNat, Int.reduceBEq, Int.reduceBNe, Int.reduceMul, Nat.reduceBEq, Nat.reduceBNe, Nat.reduceLT, Nat.reduceLeDiff, Nat.reduceMul, Nat.reduceEqDiff, WD, effB, effH, isPriv, isHeap, isImm, zbx, zby, zbz, chkO, setD, dslot, zca, zcb, zcc, zcd, ptrCells_some, F4, g1]
      refine wC_loop _ (fun j st' H' => ∃ (i : Nat) (ms : List Mon) (ws wk : List Slp) (came : Int) (all wa wo : V) (hs kp inn : List Int), st' = st14 x i hs kp inn ∧ LK H' 0 ms ws wk came all wa wo ∧ TI ms ws wk hs kp inn ∧ i ≤ l.length ∧ j = l.length - i) l.length ⟨0, ms, [], [], 0, all, .nils, .nils, List.replicate 12 0, List.replicate 4 0, List.replicate 4 0, ?_, L, T0, by omega, rfl⟩ ?_
      · simp only [envG, envK, firstReg, grow4_14, growAll, List.foldl_nil, st14]
        rw [nm4_14]
        simp only [bits4_14, maskC_nil, maskC_t, maskC_f, WN, firstReg, growAll, zbv, zbw, norm, killS, zag, zah, zaa, zab, zbl, zat, zad, growOne, zae, zaf, zac, zas, zak, Nat.reduceLT, Nat.reduceAdd, zbj, zav, L4_14, hcx, hcl]
        try rfl
      · simp only [envG, envK, firstReg, grow4_14, growAll, List.foldl_nil]
        rintro j st' H2 ⟨i, ms2, ws, wk, came, all2, wa, wo, hs2, kp, inn, rfl, L2, T2, hi, rfl⟩
        by_cases hlt2 : i < l.length
        · have hd : l[i]? = some l[i] := List.getElem?_eq_getElem hlt2
          generalize l[i] = a at hd
          have Tn1 : Tn x l i a H2 ms2 ws wk came all2 wa wo hs2 kp inn := ⟨hx, hd, by omega, L2, T2⟩
          have step : ∀ Q, Nx Q x i → wpC (envOf Try.prog notes (evW Try.prog notes) 4) (loopOf Try.f4 14) (st14 x i hs2 kp inn) H2 Q := by
            intro Q hq
            obtain ⟨o, m, t, n, al⟩ := a
            by_cases hc : m < 0 ∨ 2 < m ∨ t < 0 ∨ 3 < t
            · exact act_skip Tn1 hq rfl hc
            obtain ⟨c, rfl⟩ : ∃ c : Nat, m = c := ⟨m.toNat, by omega⟩
            obtain ⟨d, rfl⟩ : ∃ d : Nat, t = d := ⟨t.toNat, by omega⟩
            by_cases o1 : o = 1
            · subst o1; exact act_lock Tn1 hq rfl (by omega) (by omega)
            by_cases o2 : o = 2
            · subst o2; exact act_unlock Tn1 hq rfl (by omega) (by omega)
            by_cases o3 : o = 3
            · subst o3; exact act_wait Tn1 hq rfl (by omega) (by omega)
            by_cases o4 : o = 4
            · subst o4; exact act_notify Tn1 hq rfl (by omega) (by omega)
            by_cases o5 : o = 5
            · subst o5; exact act_expire Tn1 hq rfl (by omega) (by omega)
            by_cases o6 : o = 6
            · subst o6; exact act_relock Tn1 hq rfl (by omega) (by omega)
            exact act_none Tn1 hq rfl (by omega) (by omega) o1 o2 o3 o4 o5 o6
          refine step _ ?_
          intro st' H' ms ws wk came all wa wo hs kp inn hn L' T'
          rw [kLp_normal]
          refine ⟨l.length - (i + 1), by omega, i + 1, ms, ws, wk, came, all, wa, wo, hs, kp, inn, ?_, L', T', by omega, rfl⟩
          exact hn
        · have g2 : decide ((i : Int) < (l.length : Int)) = false := decide_eq_false (by omega)
          simp only [st14, L4_14]
          simp only [WW, partV, eqCells, eqLf, minV, maxV, ifcV, zaa, zab, zac, zad, zae, zaf, zag, zah, zai, ofConst, ofConst1, List.replicate, zaj, zak, loadOp, Go.Abs.loadCells, binV, zal, pickV, zam, zan, zao, zap, zaq, zar, zas, zat, zau, outR, resAll, resOne, zav, zaw, zax, zay, zaz, zba, zbb, zbc, zbd, zbe, zbf, zbg, zbh, zbi, zbj, zbk, storeOp, storeCell, overlay, zbl, zbm, zbn, lookupOp, keyT, okRes, mapUpdateOp, zbo, zbp, zbq, zbr, zbs, zbt, zbu, Nat.reduceSub, Nat.reduceAdd, Int.reduceLT, Int.reduceLE, Int.reduceAdd, Int.reduceSub, Int.reduceToNat, Int.reduceBEq, Int.reduceBNe, Int.reduceMul, Nat.reduceBEq, Nat.reduceBNe, Nat.reduceLT, Nat.reduceLeDiff, Nat.reduceMul, Nat.reduceEqDiff, WD, effB, effH, isPriv, isHeap, isImm, zbx, zby, zbz, chkO, setD, dslot, zca, zcb, zcc, zcd, ptrCells_some, F4, g2, (hx H2).shutIn, hlen]
          rw [wpCall_eq (live_eq _)]
          simp only [WW, partV, eqCells, eqLf, minV, maxV, ifcV, zaa, zab, zac, zad, zae, zaf, zag, zah, zai, ofConst, ofConst1, List.replicate, zaj, zak, loadOp, Go.Abs.loadCells, binV, zal, pickV, zam, zan, zao, zap, zaq, zar, zas, zat, zau, outR, resAll, resOne, zav, zaw, zax, zay, zaz, zba, zbb, zbc, zbd, zbe, zbf, zbg, zbh, zbi, zbj, zbk, storeOp, storeCell, overlay, zbl, zbm, zbn, lookupOp, keyT, okRes, mapUpdateOp, zbo, zbp, zbq, zbr, zbs, zbt, zbu, Nat.reduceSub, Nat.reduceAdd, Int.reduceLT, Int.reduceLE, Int.reduceAdd, Int.reduceSub, Int.reduceToNat, Int.reduceBEq, Int.reduceBNe, Int.reduceMul, Nat.reduceBEq, Nat.reduceBNe, Nat.reduceLT, Nat.reduceLeDiff, Nat.reduceMul, Nat.reduceEqDiff, WD, effB, effH, isPriv, isHeap, isImm, zbx, zby, zbz, chkO, setD, dslot, zca, zcb, zcc, zcd, ptrCells_some, F4]
/-- The law at any argument -/
theorem lockTrue_main {v0 : List V} (h0 : Tv Try.prog 8 30 v0) : wpCall (evW Try.prog notes) 4 [mkV (isAggT Try.prog 30) v0] [] (fun out H' => out = .ret (.bool true) false) := by
  have g30 : isAggT Try.prog 30 = false := by kernel_rfl
  obtain ⟨x, l, rfl, hx, _⟩ := open_acts h0
  rw [g30]
  exact trues_eq x l hx
end Go.Proofs.Ythicacphcljdmaa
