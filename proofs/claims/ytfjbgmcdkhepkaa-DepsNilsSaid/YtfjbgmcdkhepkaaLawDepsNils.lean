/- The statement DepsNils: for every act the law of layer 15 on a nil registry answers true. No conditions but the statement's own. -/
import Derived.Test.YtfjbgmcdkhepkaaRows
import Derived.Test.YtfjbgmcdkhepkaaC10
import Derived.Test.YtfjbgmcdkhepkaaAbsOp
import Derived.WalkKit
import Derived.ProofKit
import Derived.OpenShut
import Derived.ShutString
import Derived.ChangeOld
import Derived.Below
import Derived.SizedLaws
import Derived.Carry
namespace Go.Proofs.Ytfjbgmcdkhepkaa.depsNils
open Go.ChangeShapes Go.WideShapes Go.ChangeAt Go.RowKit Go.Abs
set_option linter.unusedVariables false
theorem own : ownKnob Try.prog.godebug = none := by kernel_rfl
theorem laidOut : laidOutB Try.prog = true := by kernel_rfl
theorem mixed : Try.prog.follows .mixedOrders = true := by kernel_rfl
section
variable {H : Type} {enc : TypeId × Value → H} {w : World} {base : Nat} {spare : Nat → Bool} {held : Bool}
def depC (d : Int × Int) : List Value := [.int .i64 d.1, .int .u64 d.2]
theorem el34 (n : Nat) (cs : List Value) (x : DataW H × List MemPlace) (h : DataW.trod enc Try.prog w base spare held n 34 cs = some x) : ∃ a, cs = depC a := by
  obtain ⟨xs, m, _, _, hl, hlen, hf⟩ := DataW.trod_struct Try.underlying34 h
  obtain ⟨v0, v1, rfl⟩ : ∃ v0 v1, cs = [v0, v1] := by
    have hc : Try.prog.cellsOf 34 = 2 := by kernel_rfl
    rw [hc] at hl
    match cs, hl with
    | [a, b], _ => exact ⟨a, b, rfl⟩
  obtain ⟨y0, y1, rfl⟩ : ∃ y0 y1, xs = [y0, y1] := by
    match xs, hlen with
    | [a, b], _ => exact ⟨a, b, rfl⟩
  obtain ⟨a0, e0, _, _⟩ := DataW.trod_int Try.underlying3 (hf 0 _ rfl)
  obtain ⟨a1, e1, _, _⟩ := DataW.trod_int Try.underlying24 (hf 1 _ rfl)
  have h1 : Try.prog.cellsOf 3 = 1 := by kernel_rfl
  have h2 : Try.prog.cellsOf 24 = 1 := by kernel_rfl
  replace e0 : List.take (Try.prog.cellsOf 3) (List.drop 0 [v0, v1]) = [.int .i64 a0] := e0
  replace e1 : List.take (Try.prog.cellsOf 24) (List.drop 1 [v0, v1]) = [.int .u64 a1] := e1
  rw [h1] at e0
  rw [h2] at e1
  obtain rfl := List.head_eq_of_cons_eq e0
  obtain rfl := List.head_eq_of_cons_eq e1
  exact ⟨(a0, a1), rfl⟩
theorem depCells (G : Gh) (d : Int × Int) : CellsR G (depV d).cells (depC d) := ⟨rfl, (fun u hu => by simp [depC] at hu; rcases hu with rfl | rfl <;> rfl), (fun j c u hc hu => by
  match j with
  | 0 => simp [depV, V.cells, depC] at hc hu; subst hc hu; exact fun _ => .int _ _
  | 1 => simp [depV, V.cells, depC] at hc hu; subst hc hu; exact fun _ => .int _ _
  | j + 2 => simp [depV, V.cells] at hc)⟩
theorem open22 {v : Value} {n : Nat} {x : DataW H × List MemPlace} (h : DataW.trod enc Try.prog w base spare held n 22 [v] = some x) (hspot : ∀ a len cap, v = .slice (some a) len cap → a.spot = none) :
    ∃ y l, IsDeps y l ∧ VR (g0 w) y v := by
  obtain ⟨l, hl, _⟩ := open_rsl (sz := 2) depC depV (fun _ => rfl) (fun d => depCells _ d) Try.underlying22 (by kernel_rfl) (fun n cs x hx => el34 n cs x hx) h hspot
  rcases hl with hl | ⟨hl, rfl⟩
  · exact ⟨_, l, .rsl l, hl⟩
  · exact ⟨_, [], .nils, hl⟩
end
set_option maxRecDepth 100000 in
theorem lifted (os : Os) (started : os.Started) (H : Type) (enc : TypeId × Value → H) :
    ReturnsInHanded {} Try.checked os 6 .any (Rows.depsNilsSpec.pre6 enc Try.prog Try.f6 Rows.depsNilsRow.domain false) (Rows.depsNilsSpec.post enc Try.prog Try.f6 false true false false) := by
  refine returnsInHanded_of_change_sized (C := Try.checked) own started (by kernel_rfl) Try.func6
    (ChangeSpec.witness6 (enc := enc) (C := Try.checked) false ⟨#[], #[.agg #[.int .i64 0, .int .i64 0, .slice none 0 0, .int .u64 0]], []⟩ 8 (by kernel_rfl) (by kernel_rfl) (by kernel_rfl) (by kernel_rfl)) ?_
  intro W base args ds gs before hval0 hW hcnd hsz0 _
  have hval : ∀ (j : Nat) t v, Try.f6.params[j]? = some t → args[j]? = some v → Value.okWide Try.prog W .any base t v := hval0
  have hW' := hW
  obtain ⟨p, q, hA0, hV, rfl, hfz, hnd⟩ := hW
  have hA : DataW.TrodAll enc Try.prog W 0 (fun _ => true) true Try.f6.params.toList args.toList ds p := hA0
  rw [Try.params6] at hA hval
  obtain ⟨v0, vs0, d0, ds0, p0, q0, hargs, rfl, rfl, h0, r0⟩ := trodAll_cons hA
  obtain ⟨rfl, rfl, rfl⟩ := trodAll_nil r0
  obtain rfl : args = #[v0] := by cases args; simp_all
  obtain ⟨rfl, rfl⟩ := trodVars_none hV
  have k0 := h0
  have lt0 : ∀ x ∈ p0, x.block < W.heap.size := by obtain ⟨m, hm⟩ := k0; exact DataW.trod_lt m _ _ _ hm
  have hv0 := hval 0 45 v0 rfl rfl
  obtain ⟨u0, u1, u2, u3, y0, y1, y2, y3, n, rfl, _, _, t0, t1, t2, t3⟩ := Go.Joins.open_agg4 Try.underlying45 (by kernel_rfl) (by kernel_rfl) hv0 h0
  obtain ⟨a0, e0, _, _⟩ := DataW.trod_int Try.underlying3 t0
  obtain ⟨a1, e1, _, _⟩ := DataW.trod_int Try.underlying3 t1
  obtain ⟨a3, e3, _, _⟩ := DataW.trod_int Try.underlying24 t3
  obtain rfl := List.head_eq_of_cons_eq e0
  obtain rfl := List.head_eq_of_cons_eq e1
  obtain rfl := List.head_eq_of_cons_eq e3
  have hspot : ∀ a len cap, u2 = .slice (some a) len cap → a.spot = none := fun a len cap hu => by
    unfold Value.okWide at hv0
    rw [Try.underlying45] at hv0
    obtain ⟨cs, hcs, hsz, ts, hts, _, hrow⟩ := hv0
    cases hcs
    have htt : Try.prog.cellTypes Try.prog.depth 45 = some [3, 3, 22, 24] := by kernel_rfl
    rw [htt] at hts
    cases hts
    obtain ⟨u, hu1, hu2⟩ := hrow 2 u2 rfl
    cases hu1
    unfold Cell.okWide at hu2
    rw [Try.underlying22, hu] at hu2
    simp only [Cell.ok] at hu2
    rw [Try.underlying22] at hu2
    exact hu2.2.2.2.1
  obtain ⟨y, l, hy, hvr⟩ := open22 t2 hspot
  clear hA0 hval0 hsz0
  have hrun := run_bool (P := Try.prog) (A := notes) mixed (depsNils_eq a0 a1 a3 y l hy []) (W := W) (us := #[.agg #[.int .i64 a0, .int .i64 a1, u2, .int .u64 a3]]) rfl (fun j v u hj hu => by
    match j with
    | 0 =>
      simp at hj hu
      subst hj hu
      refine fun _ => VR.agg _ _ rfl (fun j u hu => ?_) (fun j c u hc hu => ?_)
      · match j with
        | 0 => simp at hu; subst hu; rfl
        | 1 => simp at hu; subst hu; rfl
        | 2 => simp at hu; subst hu; exact hvr.oneCell (fun cs e => by cases hy <;> cases e) (fun cs e => by cases hy <;> cases e)
        | 3 => simp at hu; subst hu; rfl
        | j + 4 => simp at hu
      · match j with
        | 0 => simp at hc hu; subst hc hu; exact fun _ => .int _ _
        | 1 => simp at hc hu; subst hc hu; exact fun _ => .int _ _
        | 2 => simp at hc hu; subst hc hu; exact fun _ => hvr
        | 3 => simp at hc hu; subst hc hu; exact fun _ => .int _ _
        | j + 4 => simp at hc
    | j + 1 => simp at hj)
  refine hrun.mono fun e W' ⟨he, bel⟩ => ?_
  subst he
  exact ⟨_, rfl, _, _, _, [], _, [], hW', trodAll_mk1 (shut_bool Try.underlying4 _), (trodAll_cons_mk (Below.trod laidOut (by kernel_rfl) (of_decide_eq_true (by kernel_rfl)) k0 bel lt0) trodAll_mk0), rfl, bel.frame _, fun h => by cases h⟩
theorem over : Rows.depsNilsRow.holds Try.pinned (OpenSpec.ofChange Rows.depsNilsSpec) :=
  OpenClaim.holds_of_wide 6 Try.f6 rfl rfl rfl rfl rfl rfl rfl ⟨rfl, rfl, rfl, rfl, rfl⟩ rfl rfl rfl rfl rfl (by kernel_rfl) Try.func6 (by kernel_rfl)
    (of_decide_eq_true (by kernel_rfl)) (by unfold Func.isWrapper; first | (rw [if_pos (by decide +kernel)]; kernel_rfl) | (rw [if_neg (by decide +kernel)]; exact ⟨rfl, rfl⟩))
    (fun os started H enc _ => lifted os started H enc)
theorem proved : Rows.DepsNilsSaid := over
#print axioms proved
end Go.Proofs.Ytfjbgmcdkhepkaa.depsNils
namespace Go.Proofs.Ytfjbgmcdkhepkaa
/-- The row, under a short name, for the claim. -/
theorem depsNils_holds : Rows.DepsNilsSaid := depsNils.proved
end Go.Proofs.Ytfjbgmcdkhepkaa
