/- The statement ScriptChecks: for every script the law of layer 21 answers true, and the script reads as it did. No conditions but the statement's own. -/
import Derived.Test.YteenpfdpokekgaaRows
import Derived.Test.YteenpfdpokekgaaPureScriptChecks
import Derived.Test.YteenpfdpokekgaaOpen
import Derived.WalkKit
import Derived.ProofKit
import Derived.OpenShut
import Derived.ShutString
import Derived.ChangeOld
import Derived.Below
import Derived.SizedLaws
import Derived.Carry
namespace Go.Proofs.Yteenpfdpokekgaa.scriptChecks
open Go.ChangeShapes Go.WideShapes Go.ChangeAt Go.RowKit Go.Proofs.YteenpfdpokekgaaW.PrintWords
open Go.ChangeMaps (open_string shut_string)
set_option linter.unusedVariables false
theorem own : ownKnob Try.prog.godebug = none := by kernel_rfl
theorem laidOut : laidOutB Try.prog = true := by kernel_rfl
instance : Inhabited PC.S40 := ⟨PC.z40⟩
section
variable {H : Type} {enc : TypeId × Value → H} {w : World} {base : Nat} {spare : Nat → Bool} {held : Bool}
theorem el38 (n : Nat) (cs : List Value) (x : DataW H × List MemPlace) (h : DataW.trod enc Try.prog w base spare held n 38 cs = some x) : ∃ a, PC.k38.K w a cs := by
  obtain ⟨xs, m, _, _, hl, hlen, hf⟩ := DataW.trod_struct Try.underlying38 h
  obtain ⟨v0, v1, v2, rfl⟩ : ∃ v0 v1 v2, cs = [v0, v1, v2] := by
    have hc : Try.prog.cellsOf 38 = 3 := by kernel_rfl
    rw [hc] at hl
    match cs, hl with
    | [a, b, c], _ => exact ⟨a, b, c, rfl⟩
  obtain ⟨y0, y1, y2, rfl⟩ : ∃ y0 y1 y2, xs = [y0, y1, y2] := by
    match xs, hlen with
    | [a, b, c], _ => exact ⟨a, b, c, rfl⟩
  obtain ⟨a0, e0, _, _⟩ := DataW.trod_int Try.underlying3 (hf 0 _ rfl)
  obtain ⟨a1, e1, _, _⟩ := DataW.trod_int Try.underlying3 (hf 1 _ rfl)
  obtain ⟨a2, e2, _, _⟩ := DataW.trod_int Try.underlying3 (hf 2 _ rfl)
  have h1 : Try.prog.cellsOf 3 = 1 := by kernel_rfl
  replace e0 : List.take (Try.prog.cellsOf 3) (List.drop 0 [v0, v1, v2]) = [.int .i64 a0] := e0
  replace e1 : List.take (Try.prog.cellsOf 3) (List.drop 1 [v0, v1, v2]) = [.int .i64 a1] := e1
  replace e2 : List.take (Try.prog.cellsOf 3) (List.drop 2 [v0, v1, v2]) = [.int .i64 a2] := e2
  rw [h1] at e0 e1 e2
  obtain rfl := List.head_eq_of_cons_eq e0
  obtain rfl := List.head_eq_of_cons_eq e1
  obtain rfl := List.head_eq_of_cons_eq e2
  exact ⟨⟨a0, a1, a2⟩, PC.k38_mk w _⟩
theorem el40 (n : Nat) (cs : List Value) (x : DataW H × List MemPlace) (h : DataW.trod enc Try.prog w base spare held n 40 cs = some x) : ∃ a, PC.k40.K w a cs ∧ True := by
  obtain ⟨xs, m, _, _, hl, hlen, hf⟩ := DataW.trod_struct Try.underlying40 h
  obtain ⟨v0, v1, v2, v3, v4, v5, rfl⟩ : ∃ v0 v1 v2 v3 v4 v5, cs = [v0, v1, v2, v3, v4, v5] := by
    have hc : Try.prog.cellsOf 40 = 6 := by kernel_rfl
    rw [hc] at hl
    match cs, hl with
    | [a, b, c, d, e, f], _ => exact ⟨a, b, c, d, e, f, rfl⟩
  obtain ⟨y0, y1, y2, y3, rfl⟩ : ∃ y0 y1 y2 y3, xs = [y0, y1, y2, y3] := by
    match xs, hlen with
    | [a, b, c, d], _ => exact ⟨a, b, c, d, rfl⟩
  obtain ⟨a0, e0, _, _⟩ := DataW.trod_int Try.underlying3 (hf 0 _ rfl)
  obtain ⟨a1, e1, _, _⟩ := DataW.trod_int Try.underlying3 (hf 1 _ rfl)
  obtain ⟨a2, e2, _, _⟩ := DataW.trod_int Try.underlying3 (hf 2 _ rfl)
  obtain ⟨q, hq⟩ := el38 _ _ _ (hf 3 _ rfl)
  have h1 : Try.prog.cellsOf 3 = 1 := by kernel_rfl
  have h3 : Try.prog.cellsOf 38 = 3 := by kernel_rfl
  replace e0 : List.take (Try.prog.cellsOf 3) (List.drop 0 [v0, v1, v2, v3, v4, v5]) = [.int .i64 a0] := e0
  replace e1 : List.take (Try.prog.cellsOf 3) (List.drop 1 [v0, v1, v2, v3, v4, v5]) = [.int .i64 a1] := e1
  replace e2 : List.take (Try.prog.cellsOf 3) (List.drop 2 [v0, v1, v2, v3, v4, v5]) = [.int .i64 a2] := e2
  rw [h1] at e0 e1 e2
  obtain rfl := List.head_eq_of_cons_eq e0
  obtain rfl := List.head_eq_of_cons_eq e1
  obtain rfl := List.head_eq_of_cons_eq e2
  have hq2 : [v3, v4, v5] = [Value.int .i64 q.f0, .int .i64 q.f1, .int .i64 q.f2] := by
    have h4 : List.take (Try.prog.cellsOf 38) (List.drop 3 [Value.int .i64 a0, .int .i64 a1, .int .i64 a2, v3, v4, v5]) = [Value.int .i64 q.f0, .int .i64 q.f1, .int .i64 q.f2] := PC.k38_open hq
    rw [h3] at h4
    exact h4
  simp only [List.cons.injEq, and_true] at hq2
  obtain ⟨rfl, rfl, rfl⟩ := hq2
  exact ⟨⟨a0, a1, a2, q⟩, PC.k40_mk w _, trivial⟩
theorem arg27 {W : World} {v : Value} {d : DataW H} {p : List MemPlace} (hval : Value.okWide Try.prog W .any 0 27 v) (h : DataW.Trod enc Try.prog W base spare held 27 v d p) :
    ∃ A0 c0 es A1 c1 ds, v = .agg #[.slice A0 es.length c0, .slice A1 ds.length c1] ∧ es.length ≤ c0 ∧ Kd.C PC.k40 W A0 es.length es ∧ ds.length ≤ c1 ∧ Kd.C (Kd.int .i64) W A1 ds.length ds := by
  obtain ⟨u0, u1, y0, y1, n, rfl, _, _, t0, t1⟩ := Go.Joins.open_agg2 Try.underlying27 (by kernel_rfl) (by kernel_rfl) hval h
  obtain ⟨A0, c0, es, rfl, h0, hC0, _⟩ := Open.row_C PC.k40 (fun _ => True) Try.underlying24 (by kernel_rfl) (fun n cs x hx => el40 n cs x hx) t0
  obtain ⟨A1, c1, ds, rfl, h1, hC1, _⟩ := Open.ints_C .i64 Try.underlying25 Try.underlying3 (by kernel_rfl) t1
  exact ⟨A0, c0, es, A1, c1, ds, rfl, h0, hC0, h1, hC1⟩
end
set_option maxRecDepth 100000 in
theorem lifted (os : Os) (started : os.Started) (H : Type) (enc : TypeId × Value → H) :
    ReturnsInHanded {} Try.checked os 5 .any (Rows.scriptChecksSpec.pre6 enc Try.prog Try.f5 Rows.scriptChecksRow.domain false) (Rows.scriptChecksSpec.post enc Try.prog Try.f5 false true false false) := by
  refine returnsInHanded_of_change_sized (C := Try.checked) own started (by kernel_rfl) Try.func5
    (ChangeSpec.witness6 (enc := enc) (C := Try.checked) false ⟨#[], #[.agg #[.slice none 0 0, .slice none 0 0]], []⟩ 8 (by kernel_rfl) (by kernel_rfl) (by kernel_rfl) (by kernel_rfl)) ?_
  intro W base args ds gs before hval0 hW hcnd hsz0 _
  have hval : ∀ (j : Nat) t v, Try.f5.params[j]? = some t → args[j]? = some v → Value.okWide Try.prog W .any base t v := hval0
  have hW' := hW
  obtain ⟨p, q, hA0, hV, rfl, hfz, hnd⟩ := hW
  have hA : DataW.TrodAll enc Try.prog W 0 (fun _ => true) true Try.f5.params.toList args.toList ds p := hA0
  rw [Try.params5] at hA hval
  obtain ⟨v0, vs0, d0, ds0, p0, q0, hargs, rfl, rfl, h0, r0⟩ := trodAll_cons hA
  obtain ⟨rfl, rfl, rfl⟩ := trodAll_nil r0
  obtain rfl : args = #[v0] := by cases args; simp_all
  obtain ⟨rfl, rfl⟩ := trodVars_none hV
  have k0 := h0
  have lt0 : ∀ x ∈ p0, x.block < W.heap.size := by obtain ⟨m, hm⟩ := k0; exact DataW.trod_lt m _ _ _ hm
  obtain ⟨A0, c0, es, A1, c1, dr, rfl, hc0, hC0, hc1, hC1⟩ := arg27 (hval 0 27 v0 rfl rfl) h0
  clear hA0 hval0 hsz0
  obtain ⟨k, hk⟩ := Pure.ScriptChecks es dr
  refine (PC.jacquardlaw21_ScriptChecks.calls k A0 c0 es A1 c1 dr true W hC0 hc0 hC1 hc1 hk).mono fun e W' ⟨he, bel⟩ => ?_
  subst he
  exact ⟨_, rfl, _, _, _, [], _, [], hW', trodAll_mk1 (shut_bool Try.underlying4 _), (trodAll_cons_mk (Below.trod laidOut (by kernel_rfl) (of_decide_eq_true (by kernel_rfl)) k0 bel lt0) trodAll_mk0), rfl, bel.frame _, fun h => by cases h⟩
theorem over : Rows.scriptChecksRow.holds Try.pinned (OpenSpec.ofChange Rows.scriptChecksSpec) :=
  OpenClaim.holds_of_wide 5 Try.f5 rfl rfl rfl rfl rfl rfl rfl ⟨rfl, rfl, rfl, rfl, rfl⟩ rfl rfl rfl rfl rfl (by kernel_rfl) Try.func5 (by kernel_rfl)
    (of_decide_eq_true (by kernel_rfl)) (by unfold Func.isWrapper; first | (rw [if_pos (by decide +kernel)]; kernel_rfl) | (rw [if_neg (by decide +kernel)]; exact ⟨rfl, rfl⟩))
    (fun os started H enc _ => lifted os started H enc)
theorem proved : Rows.ScriptChecksSaid := over
#print axioms proved
end Go.Proofs.Yteenpfdpokekgaa.scriptChecks
namespace Go.Proofs.Yteenpfdpokekgaa
/-- The row, under a short name, for the claim. -/
theorem scriptChecks_holds : Rows.ScriptChecksSaid := scriptChecks.proved
end Go.Proofs.Yteenpfdpokekgaa
