/- The statement DepsTwice: for every list of acts and every write the law of layer 15 answers true. No conditions but the statement's own. -/
import Derived.Test.YtfjbgmcdkhepkaaRows
import Derived.Test.YtfjbgmcdkhepkaaC13
import Derived.Test.YtfjbgmcdkhepkaaAbsOp
import Derived.WalkKit
import Derived.ProofKit
import Derived.OpenShut
import Derived.ShutString
import Derived.ChangeOld
import Derived.Below
import Derived.SizedLaws
import Derived.Carry
namespace Go.Proofs.Ytfjbgmcdkhepkaa.depsTwice
open Go.ChangeShapes Go.WideShapes Go.ChangeAt Go.RowKit Go.Abs
set_option linter.unusedVariables false
theorem own : ownKnob Try.prog.godebug = none := by kernel_rfl
theorem laidOut : laidOutB Try.prog = true := by kernel_rfl
theorem mixed : Try.prog.follows .mixedOrders = true := by kernel_rfl
section
variable {H : Type} {enc : TypeId × Value → H} {w : World} {base : Nat} {spare : Nat → Bool} {held : Bool}
def depC (d : Int × Int) : List Value := [.int .i64 d.1, .int .u64 d.2]
theorem el34 (n : Nat) (cs : List Value) (x : DataW H × List MemPlace) (h : DataW.trod enc Try.prog w base spare held n 34 cs = some x) : ∃ a, cs = depC a := by
  obtain ⟨xs, m, _, _, hl, hlen, hf⟩ := DataW.trod_struct Try.underlying34 h
  obtain ⟨v0, v1, rfl⟩ : ∃ v0 v1, cs = [v0, v1] := by
    have hc : Try.prog.cellsOf 34 = 2 := by kernel_rfl
    rw [hc] at hl
    match cs, hl with
    | [a, b], _ => exact ⟨a, b, rfl⟩
  obtain ⟨y0, y1, rfl⟩ : ∃ y0 y1, xs = [y0, y1] := by
    match xs, hlen with
    | [a, b], _ => exact ⟨a, b, rfl⟩
  obtain ⟨a0, e0, _, _⟩ := DataW.trod_int Try.underlying3 (hf 0 _ rfl)
  obtain ⟨a1, e1, _, _⟩ := DataW.trod_int Try.underlying24 (hf 1 _ rfl)
  have h1 : Try.prog.cellsOf 3 = 1 := by kernel_rfl
  have h2 : Try.prog.cellsOf 24 = 1 := by kernel_rfl
  replace e0 : List.take (Try.prog.cellsOf 3) (List.drop 0 [v0, v1]) = [.int .i64 a0] := e0
  replace e1 : List.take (Try.prog.cellsOf 24) (List.drop 1 [v0, v1]) = [.int .u64 a1] := e1
  rw [h1] at e0
  rw [h2] at e1
  obtain rfl := List.head_eq_of_cons_eq e0
  obtain rfl := List.head_eq_of_cons_eq e1
  exact ⟨(a0, a1), rfl⟩
theorem depCells (G : Gh) (d : Int × Int) : CellsR G (depV d).cells (depC d) := ⟨rfl, (fun u hu => by simp [depC] at hu; rcases hu with rfl | rfl <;> rfl), (fun j c u hc hu => by
  match j with
  | 0 => simp [depV, V.cells, depC] at hc hu; subst hc hu; exact fun _ => .int _ _
  | 1 => simp [depV, V.cells, depC] at hc hu; subst hc hu; exact fun _ => .int _ _
  | j + 2 => simp [depV, V.cells] at hc)⟩
theorem open22 {v : Value} {n : Nat} {x : DataW H × List MemPlace} (h : DataW.trod enc Try.prog w base spare held n 22 [v] = some x) :
    ∃ y l, IsDeps y l ∧ VR (g0 w) y v := by
  obtain ⟨l, hl, _⟩ := open_rsl2 (sz := 2) depC depV (fun _ => rfl) (fun d => depCells _ d) Try.underlying22 (by kernel_rfl) (by decide) (fun n cs x hx => el34 n cs x hx) h
  rcases hl with hl | ⟨hl, rfl⟩
  · exact ⟨_, l, .rsl l, hl⟩
  · exact ⟨_, [], .nils, hl⟩
abbrev ActW (w : World) := { p : ActR × Value // VR (g0 w) p.1.x p.2 }
instance (w : World) : Inhabited (ActW w) := ⟨⟨(⟨0, 0, .nils, [], 0, .nils⟩, .slice none 0 0), .nils⟩⟩
def actC {w : World} (p : ActW w) : List Value := [.int .i64 p.1.1.d, .int .i64 p.1.1.f, p.1.2, .int .u64 p.1.1.v]
theorem actCells (p : ActW w) : CellsR (g0 w) (actV p.1.1).cells (actC p) := by
  have h1 : p.1.2.oneCell' = true := p.2.oneCell (fun cs e => by have := p.1.1.h; rw [e] at this; cases this) (fun cs e => by have := p.1.1.h; rw [e] at this; cases this)
  exact ⟨rfl, (fun u hu => by simp [actC] at hu; rcases hu with rfl | rfl | rfl | rfl <;> first | rfl | exact h1), (fun j c u hc hu => by
    match j with
    | 0 => simp [actV, V.cells, actC] at hc hu; subst hc hu; exact fun _ => .int _ _
    | 1 => simp [actV, V.cells, actC] at hc hu; subst hc hu; exact fun _ => .int _ _
    | 2 => simp [actV, V.cells, actC] at hc hu; subst hc hu; exact fun _ => p.2
    | 3 => simp [actV, V.cells, actC] at hc hu; subst hc hu; exact fun _ => .int _ _
    | j + 4 => simp [actV, V.cells] at hc)⟩
theorem el45 (n : Nat) (cs : List Value) (x : DataW H × List MemPlace) (h : DataW.trod enc Try.prog w base spare held n 45 cs = some x) : ∃ a : ActW w, cs = actC a := by
  obtain ⟨xs, m, _, _, hl, hlen, hf⟩ := DataW.trod_struct Try.underlying45 h
  obtain ⟨v0, v1, v2, v3, rfl⟩ : ∃ v0 v1 v2 v3, cs = [v0, v1, v2, v3] := by
    have hc : Try.prog.cellsOf 45 = 4 := by kernel_rfl
    rw [hc] at hl
    match cs, hl with
    | [a, b, c, d], _ => exact ⟨a, b, c, d, rfl⟩
  obtain ⟨y0, y1, y2, y3, rfl⟩ : ∃ y0 y1 y2 y3, xs = [y0, y1, y2, y3] := by
    match xs, hlen with
    | [a, b, c, d], _ => exact ⟨a, b, c, d, rfl⟩
  obtain ⟨a0, e0, _, _⟩ := DataW.trod_int Try.underlying3 (hf 0 _ rfl)
  obtain ⟨a1, e1, _, _⟩ := DataW.trod_int Try.underlying3 (hf 1 _ rfl)
  have t2 := hf 2 _ rfl
  obtain ⟨a3, e3, _, _⟩ := DataW.trod_int Try.underlying24 (hf 3 _ rfl)
  have h1 : Try.prog.cellsOf 3 = 1 := by kernel_rfl
  have h2 : Try.prog.cellsOf 24 = 1 := by kernel_rfl
  have h3 : Try.prog.cellsOf 22 = 1 := by kernel_rfl
  replace e0 : List.take (Try.prog.cellsOf 3) (List.drop 0 [v0, v1, v2, v3]) = [.int .i64 a0] := e0
  replace e1 : List.take (Try.prog.cellsOf 3) (List.drop 1 [v0, v1, v2, v3]) = [.int .i64 a1] := e1
  replace t2 : DataW.trod enc Try.prog w base spare held m 22 (List.take (Try.prog.cellsOf 22) (List.drop 2 [v0, v1, v2, v3])) = some y2 := t2
  replace e3 : List.take (Try.prog.cellsOf 24) (List.drop 3 [v0, v1, v2, v3]) = [.int .u64 a3] := e3
  rw [h1] at e0 e1
  rw [h2] at e3
  rw [h3] at t2
  obtain rfl := List.head_eq_of_cons_eq e0
  obtain rfl := List.head_eq_of_cons_eq e1
  obtain rfl := List.head_eq_of_cons_eq e3
  obtain ⟨y, l, hy, hvr⟩ := open22 t2
  exact ⟨⟨(⟨a0, a1, y, l, a3, hy⟩, v2), hvr⟩, rfl⟩
theorem open42 {v : Value} {n : Nat} {x : DataW H × List MemPlace} (h : DataW.trod enc Try.prog w base spare held n 42 [v] = some x) :
    ∃ y l, IsActs y l ∧ VR (g0 w) y v := by
  obtain ⟨l, hl, _⟩ := open_rsl2 (sz := 4) (α := ActW w) actC (fun p => actV p.1.1) (fun _ => rfl) (fun d => actCells d) Try.underlying42 (by kernel_rfl) (by decide) (fun n cs x hx => el45 n cs x hx) h
  rcases hl with hl | ⟨hl, rfl⟩
  · have : l.map (fun p => actV p.1.1) = (l.map fun p => p.1.1).map actV := by rw [List.map_map]; rfl
    rw [this] at hl
    exact ⟨_, _, .rsl _, hl⟩
  · exact ⟨_, [], .nils, hl⟩
end
set_option maxRecDepth 100000 in
theorem lifted (os : Os) (started : os.Started) (H : Type) (enc : TypeId × Value → H) :
    ReturnsInHanded {} Try.checked os 4 .any (Rows.depsTwiceSpec.pre6 enc Try.prog Try.f4 Rows.depsTwiceRow.domain false) (Rows.depsTwiceSpec.post enc Try.prog Try.f4 false true false false) := by
  refine returnsInHanded_of_change_sized (C := Try.checked) own started (by kernel_rfl) Try.func4
    (ChangeSpec.witness6 (enc := enc) (C := Try.checked) false ⟨#[], #[.slice none 0 0, .int .i64 0, .int .u64 0], []⟩ 8 (by kernel_rfl) (by kernel_rfl) (by kernel_rfl) (by kernel_rfl)) ?_
  intro W base args ds gs before hval0 hW hcnd hsz0 _
  have hval : ∀ (j : Nat) t v, Try.f4.params[j]? = some t → args[j]? = some v → Value.okWide Try.prog W .any base t v := hval0
  have hW' := hW
  obtain ⟨p, q, hA0, hV, rfl, hfz, hnd⟩ := hW
  have hA : DataW.TrodAll enc Try.prog W 0 (fun _ => true) true Try.f4.params.toList args.toList ds p := hA0
  rw [Try.params4] at hA hval
  obtain ⟨v0, vs0, d0, ds0, p0, q0, hargs, rfl, rfl, h0, r0⟩ := trodAll_cons hA
  obtain ⟨v1, vs1, d1, ds1, p1, q1, rfl, rfl, rfl, h1, r1⟩ := trodAll_cons r0
  obtain ⟨v2, vs2, d2, ds2, p2, q2, rfl, rfl, rfl, h2, r2⟩ := trodAll_cons r1
  obtain ⟨rfl, rfl, rfl⟩ := trodAll_nil r2
  obtain rfl : args = #[v0, v1, v2] := by cases args; simp_all
  obtain ⟨rfl, rfl⟩ := trodVars_none hV
  obtain ⟨a1, rfl, rfl, rfl, w1⟩ := open_int Try.underlying3 (hval 1 3 v1 rfl rfl) h1
  obtain ⟨a2, rfl, rfl, rfl, w2⟩ := open_int Try.underlying24 (hval 2 24 v2 rfl rfl) h2
  have k0 := h0
  have lt0 : ∀ x ∈ p0, x.block < W.heap.size := by obtain ⟨m, hm⟩ := k0; exact DataW.trod_lt m _ _ _ hm
  have hc0 : ∃ n x, DataW.trod enc Try.prog W 0 (fun _ => true) true n 42 [v0] = some x := by
    obtain ⟨n, hn⟩ := k0
    have hone := hval 0 42 v0 rfl rfl
    unfold Value.okWide at hone
    rw [Try.underlying42] at hone
    refine ⟨n, (d0, p0), ?_⟩
    unfold Cell.okWide at hone
    rw [Try.underlying42] at hone
    cases v0 <;> first | exact hn | (simp [Cell.ok, Try.underlying42] at hone)
  obtain ⟨n, x, hx⟩ := hc0
  obtain ⟨y, l, hy, hvr⟩ := open42 hx
  clear hA0 hval0 hsz0
  have hrun := run_bool (P := Try.prog) (A := notes) mixed (depsTwice_eq y l hy a1 a2 []) (W := W) (us := #[v0, .int .i64 a1, .int .u64 a2]) rfl (fun j v u hj hu => by
    match j with
    | 0 => simp at hj hu; subst hj hu; exact fun _ => hvr
    | 1 => simp at hj hu; subst hj hu; exact fun _ => .int _ _
    | 2 => simp at hj hu; subst hj hu; exact fun _ => .int _ _
    | j + 3 => simp at hj)
  refine hrun.mono fun e W' ⟨he, bel⟩ => ?_
  subst he
  exact ⟨_, rfl, _, _, _, [], _, [], hW', trodAll_mk1 (shut_bool Try.underlying4 _), (trodAll_cons_mk (Below.trod laidOut (by kernel_rfl) (of_decide_eq_true (by kernel_rfl)) k0 bel lt0) (trodAll_cons_mk (shut_int Try.underlying3 w1) (trodAll_cons_mk (shut_int Try.underlying24 w2) trodAll_mk0))), rfl, bel.frame _, fun h => by cases h⟩
theorem over : Rows.depsTwiceRow.holds Try.pinned (OpenSpec.ofChange Rows.depsTwiceSpec) :=
  OpenClaim.holds_of_wide 4 Try.f4 rfl rfl rfl rfl rfl rfl rfl ⟨rfl, rfl, rfl, rfl, rfl⟩ rfl rfl rfl rfl rfl (by kernel_rfl) Try.func4 (by kernel_rfl)
    (of_decide_eq_true (by kernel_rfl)) (by unfold Func.isWrapper; first | (rw [if_pos (by decide +kernel)]; kernel_rfl) | (rw [if_neg (by decide +kernel)]; exact ⟨rfl, rfl⟩))
    (fun os started H enc _ => lifted os started H enc)
theorem proved : Rows.DepsTwiceSaid := over
#print axioms proved
end Go.Proofs.Ytfjbgmcdkhepkaa.depsTwice
namespace Go.Proofs.Ytfjbgmcdkhepkaa
/-- The row, under a short name, for the claim. -/
theorem depsTwice_holds : Rows.DepsTwiceSaid := depsTwice.proved
end Go.Proofs.Ytfjbgmcdkhepkaa
