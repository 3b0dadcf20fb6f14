/- The statement LexCuts: any text as tokens, or the first fault and its place; the text stays. No conditions but the statement's own. -/
import Derived.Test.YtcmndnkeoepmoaaDoorRows
import Derived.Test.YtcmndnkeoepmoaaDoorQM2
import Derived.Test.YtcmndnkeoepmoaaDoorQAbsOpen
import Derived.Test.YtcmndnkeoepmoaaDoorQAbsGl
import Derived.ProofKit
import Derived.Test.YtcmndnkeoepmoaaDoorCards
import Derived.Test.YtcmndnkeoepmoaaDoorTie
namespace Go.Proofs.YtcmndnkeoepmoaaDoor.lexCuts
open Go.ChangeShapes Go.WideShapes Go.ChangeAt Go.RowKit Go.Abs
set_option linter.unusedVariables false
theorem own : ownKnob Tryd.prog.godebug = none := by kernel_rfl
theorem laidOut : laidOutB Tryd.prog = true := by kernel_rfl
theorem mixed : Tryd.prog.follows .mixedOrders = true := by kernel_rfl
theorem gl_else (g : Nat) (h0 : ¬ g = 0) : notes.gl g = .undef := by
  match g with
  | 0 => exact absurd rfl h0
  | g + 1 => rfl
theorem glOK {W : World} (hL : laidMet Tryd.prog Rows.lexCutsRow.laid W) : GlOK notes.gl (g0 W) := by
  have a0 := gl_strings hL (name := "jacquard/lex.signs") (ss := [⟨#[61, 61]⟩, ⟨#[33, 61]⟩, ⟨#[60, 61]⟩, ⟨#[62, 61]⟩, ⟨#[43]⟩, ⟨#[45]⟩, ⟨#[42]⟩, ⟨#[47]⟩, ⟨#[37]⟩, ⟨#[60]⟩, ⟨#[62]⟩, ⟨#[61]⟩, ⟨#[40]⟩, ⟨#[41]⟩, ⟨#[91]⟩, ⟨#[93]⟩, ⟨#[123]⟩, ⟨#[125]⟩, ⟨#[44]⟩, ⟨#[59]⟩, ⟨#[58]⟩, ⟨#[46]⟩]) (g := 0) (n := 22) (t := 57) (e := 9) (.head _) (by kernel_rfl) (by kernel_rfl) (by kernel_rfl) (by kernel_rfl) (by kernel_rfl) (by kernel_rfl) rfl
  intro g hg
  by_cases e0 : g = 0
  · subst e0; exact a0
  exact absurd (gl_else g e0) hg
theorem metH (W : World) (h : laidMet Tryd.prog Rows.lexCutsRow.laid W) : laidMetH Tryd.prog Rows.lexCutsRow.laid W := h
set_option maxRecDepth 100000 in
theorem lifted (os : Os) (started : os.Started) (H : Type) (enc : TypeId × Value → H) :
    ReturnsInHanded {} Tryd.checked os 3 .any (fun w args => (Rows.lexCutsSpec.pre enc Tryd.prog Tryd.f3 Rows.lexCutsRow.domain false w args ∧ laidMetH Tryd.prog Rows.lexCutsRow.laid w) ∧ sizedMet enc Tryd.prog Tryd.f3 (OpenSpec.ofChange Rows.lexCutsSpec) false w args) (Rows.lexCutsSpec.post enc Tryd.prog Tryd.f3 false true false false) := by
  refine returnsInHanded_of_change_and (C := Tryd.checked) (X := fun w _ => laidMetH Tryd.prog Rows.lexCutsRow.laid w) (fun _ _ _ hh h => h.of_heap hh) own started (by kernel_rfl) Tryd.func3
    (ChangeSpec.witness_at (enc := enc) (C := Tryd.checked) (os := os) (X := fun w _ => laidMetH Tryd.prog Rows.lexCutsRow.laid w) false (World.laidAll Tryd.prog os Rows.lexCutsRow.laid) #[.slice none 0 0] 8 (World.laidAll_os _ _ _) (by kernel_rfl) (by kernel_rfl) (by kernel_rfl) (by kernel_rfl) (by kernel_rfl) (metH _ (laidMet_laidAll _ (by kernel_rfl) (by kernel_rfl)))) ?_
  intro W base args ds gs before hval0 hW hcnd hsz0 hL0 _
  have hL : laidMet Tryd.prog Rows.lexCutsRow.laid W := hL0
  have hval : ∀ (j : Nat) t v, Tryd.f3.params[j]? = some t → args[j]? = some v → Value.okWide Tryd.prog W .any base t v := hval0
  have hW' := hW
  obtain ⟨p, q, hA0, hV, rfl, hfz, hnd⟩ := hW
  have hA : DataW.TrodAll enc Tryd.prog W 0 (fun _ => true) true Tryd.f3.params.toList args.toList ds p := hA0
  rw [Tryd.params3] at hA hval
  obtain ⟨v0, vs0, d0, ds0, p0, q0, hargs, rfl, rfl, h0, r0⟩ := trodAll_cons hA
  obtain ⟨rfl, rfl, rfl⟩ := trodAll_nil r0
  obtain rfl : args = #[v0] := by cases args; simp_all
  obtain ⟨rfl, rfl⟩ := trodVars_none hV
  have hgl : GlOK notes.gl (g0 W) := glOK hL
  have lt0 : ∀ x ∈ p0, x.block < W.heap.size := by obtain ⟨m, hm⟩ := h0; exact DataW.trod_lt m _ _ _ hm
  obtain ⟨c0, t0, a0⟩ := open_arg (d := 8) (by kernel_rfl) (hval 0 22 v0 rfl rfl) h0
  clear hA0 hval0 hsz0
  have hrun := run_bool (P := Tryd.prog) (A := notes) mixed hgl (lexCuts_main t0) (us := #[v0]) rfl (fun j v u hj hu => by
    match j with
    | 0 => simp at hj hu; subst hj hu; exact a0
    | j + 1 => simp at hj)
  refine hrun.mono fun e W' ⟨he, bel⟩ => ?_
  subst he
  exact ⟨_, rfl, _, _, _, [], _, [], hW', trodAll_mk1 (shut_bool Tryd.underlying4 _), (trodAll_cons_mk (Below.trod laidOut (by kernel_rfl) (of_decide_eq_true (by kernel_rfl)) h0 bel lt0) trodAll_mk0), rfl, bel.frame _, fun h => by cases h⟩
theorem over : Rows.lexCutsRow.holds Tryd.pinned (OpenSpec.ofChange Rows.lexCutsSpec) :=
  OpenClaim.holds_of_wide 3 Tryd.f3 rfl rfl rfl rfl rfl rfl rfl ⟨rfl, rfl, rfl, rfl, rfl⟩ rfl rfl rfl rfl rfl (by kernel_rfl) Tryd.func3 (by kernel_rfl)
    (of_decide_eq_true (by kernel_rfl)) (by unfold Func.isWrapper; first | (rw [if_pos (by decide +kernel)]; kernel_rfl) | (rw [if_neg (by decide +kernel)]; exact ⟨rfl, rfl⟩))
    (fun os started H enc _ => lifted os started H enc)
theorem proved : Rows.LexCutsSaid := over
#print axioms proved
end Go.Proofs.YtcmndnkeoepmoaaDoor.lexCuts
namespace Go.Proofs.YtcmndnkeoepmoaaDoor
/-- The row, under a short name, for the claim. -/
theorem lexCuts_holds : Rows.LexCutsSaid := lexCuts.proved
/-- The tied card. -/
theorem lexCuts_card : Rows.LexCutsCardSaid :=
  Claim7.holds_tied_plain_at .later [] [.data] true (true, "4dcf0888adac32330f1e15ec013639b0f790a6c2324175f66af8dfa2f1e5b5d7") false
    lexCuts_holds (fun _ h => by cases h) (by kernel_rfl) (fun _ h => by cases h) lexCuts_row_tie rfl ⟨rfl, rfl⟩ (by kernel_rfl) rfl
    (fun f fn hf hfn => by
      obtain rfl : f = 3 := Option.some.inj ((show Tryd.prog.funcNamed "jacquard/jacquardlaw05.LexCuts" = some 3 by kernel_rfl).symm.trans hf) |>.symm
      obtain rfl : fn = Tryd.f3 := (Option.some.inj (Tryd.func3.symm.trans hfn)).symm
      exact ⟨by kernel_rfl, fun j t ht => by
        have ht : Tryd.f3.params[j]? = some t := ht
        rw [Tryd.params3] at ht
        match j with
        | 0 =>
          obtain rfl : t = 22 := by simpa using ht.symm
          exact (show Tryd.prog.wantsStandIn 22 = false by kernel_rfl)
        | j + 1 => simp at ht⟩)
    (by kernel_rfl)
#print axioms lexCuts_card
end Go.Proofs.YtcmndnkeoepmoaaDoor
