/- The statement LockTrue: a monitor is one thread's at a time, and was locked by it; what was waited with comes back just so; each that waits is woken, by a call or a time, or dropped; no condition No conditions but the statement's own. -/
import Derived.Test.YthicacphcljdmaaRows
import Derived.Test.YthicacphcljdmaaQM3
import Derived.Test.YthicacphcljdmaaQAbsOpen
namespace Go.Proofs.Ythicacphcljdmaa.lockTrue
open Go.ChangeShapes Go.WideShapes Go.ChangeAt Go.RowKit Go.Abs
set_option linter.unusedVariables false
theorem own : ownKnob Try.prog.godebug = none := by kernel_rfl
theorem laidOut : laidOutB Try.prog = true := by kernel_rfl
theorem mixed : Try.prog.follows .mixedOrders = true := by kernel_rfl
set_option maxRecDepth 100000 in
theorem lifted (os : Os) (started : os.Started) (H : Type) (enc : TypeId × Value → H) :
    ReturnsInHanded {} Try.checked os 4 .any (Rows.lockTrueSpec.pre6 enc Try.prog Try.f4 Rows.lockTrueRow.domain false) (Rows.lockTrueSpec.post enc Try.prog Try.f4 false true false false) := by
  refine returnsInHanded_of_change_sized (C := Try.checked) own started (by kernel_rfl) Try.func4
    (ChangeSpec.witness6 (enc := enc) (C := Try.checked) false ⟨#[], #[.slice none 0 0], []⟩ 8 (by kernel_rfl) (by kernel_rfl) (by kernel_rfl) (by kernel_rfl)) ?_
  intro W base args ds gs before hval0 hW hcnd hsz0 _
  have hval : ∀ (j : Nat) t v, Try.f4.params[j]? = some t → args[j]? = some v → Value.okWide Try.prog W .any base t v := hval0
  have hW' := hW
  obtain ⟨p, q, hA0, hV, rfl, hfz, hnd⟩ := hW
  have hA : DataW.TrodAll enc Try.prog W 0 (fun _ => true) true Try.f4.params.toList args.toList ds p := hA0
  rw [Try.params4] at hA hval
  obtain ⟨v0, vs0, d0, ds0, p0, q0, hargs, rfl, rfl, h0, r0⟩ := trodAll_cons hA
  obtain ⟨rfl, rfl, rfl⟩ := trodAll_nil r0
  obtain rfl : args = #[v0] := by cases args; simp_all
  obtain ⟨rfl, rfl⟩ := trodVars_none hV
  have hgl : GlOK notes.gl (g0 W) := by rw [gl_none]; exact glOK_none _
  have lt0 : ∀ x ∈ p0, x.block < W.heap.size := by obtain ⟨m, hm⟩ := h0; exact DataW.trod_lt m _ _ _ hm
  obtain ⟨c0, t0, a0⟩ := open_arg (d := 8) (by kernel_rfl) (hval 0 30 v0 rfl rfl) h0
  clear hA0 hval0 hsz0
  have hrun := run_bool (P := Try.prog) (A := notes) mixed hgl (lockTrue_main t0) (us := #[v0]) rfl (fun j v u hj hu => by
    match j with
    | 0 => simp at hj hu; subst hj hu; exact a0
    | j + 1 => simp at hj)
  refine hrun.mono fun e W' ⟨he, bel⟩ => ?_
  subst he
  exact ⟨_, rfl, _, _, _, [], _, [], hW', trodAll_mk1 (shut_bool Try.underlying4 _), (trodAll_cons_mk (Below.trod laidOut (by kernel_rfl) (of_decide_eq_true (by kernel_rfl)) h0 bel lt0) trodAll_mk0), rfl, bel.frame _, fun h => by cases h⟩
theorem over : Rows.lockTrueRow.holds Try.pinned (OpenSpec.ofChange Rows.lockTrueSpec) :=
  OpenClaim.holds_of_wide 4 Try.f4 rfl rfl rfl rfl rfl rfl rfl ⟨rfl, rfl, rfl, rfl, rfl⟩ rfl rfl rfl rfl rfl (by kernel_rfl) Try.func4 (by kernel_rfl)
    (of_decide_eq_true (by kernel_rfl)) (by unfold Func.isWrapper; first | (rw [if_pos (by decide +kernel)]; kernel_rfl) | (rw [if_neg (by decide +kernel)]; exact ⟨rfl, rfl⟩))
    (fun os started H enc _ => lifted os started H enc)
theorem proved : Rows.LockTrueSaid := over
#print axioms proved
end Go.Proofs.Ythicacphcljdmaa.lockTrue
namespace Go.Proofs.Ythicacphcljdmaa
/-- The row, under a short name, for the claim. -/
theorem lockTrue_holds : Rows.LockTrueSaid := lockTrue.proved
end Go.Proofs.Ythicacphcljdmaa
