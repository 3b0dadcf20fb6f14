/- The statement CodeOwn: The law's statement from its walk No conditions but the statement's own. -/
import Derived.Test.YtgjobbmbbedecaaDoorRows
import Derived.Test.YtgjobbmbbedecaaDoorQM3
import Derived.Test.YtgjobbmbbedecaaDoorQAbsOpen
import Derived.Test.YtgjobbmbbedecaaDoorQAbsGl
import Derived.ProofKit
import Derived.Test.YtgjobbmbbedecaaDoorCards
import Derived.Test.YtgjobbmbbedecaaDoorTie
namespace Go.Proofs.YtgjobbmbbedecaaDoor.codeOwn
open Go.ChangeShapes Go.WideShapes Go.ChangeAt Go.RowKit Go.Abs
set_option linter.unusedVariables false
theorem own : ownKnob Tryd.prog.godebug = none := by kernel_rfl
theorem laidOut : laidOutB Tryd.prog = true := by kernel_rfl
theorem mixed : Tryd.prog.follows .mixedOrders = true := by kernel_rfl
theorem gl_else (g : Nat) (h2 : ¬ g = 2) (h0 : ¬ g = 0) (h1 : ¬ g = 1) : notes.gl g = .undef := by
  match g with
  | 0 => exact absurd rfl h0
  | 1 => exact absurd rfl h1
  | 2 => exact absurd rfl h2
  | g + 3 => rfl
theorem glOK {W : World} (hL : laidMet Tryd.prog Rows.codeOwnRow.laid W) : GlOK notes.gl (g0 W) := by
  have a2 := gl_strings hL (name := "jacquard/code.names") (ss := [⟨#[105, 110, 116]⟩, ⟨#[97, 116, 111, 109]⟩, ⟨#[115, 116, 114]⟩, ⟨#[112, 114, 105, 109]⟩, ⟨#[112, 111, 112]⟩, ⟨#[108, 111, 97, 100]⟩, ⟨#[115, 116, 111, 114, 101]⟩, ⟨#[98, 111, 120]⟩, ⟨#[108, 111, 97, 100, 99, 101, 108, 108]⟩, ⟨#[115, 116, 111, 114, 101, 99, 101, 108, 108]⟩, ⟨#[108, 111, 97, 100, 99, 97, 112]⟩, ⟨#[115, 116, 111, 114, 101, 99, 97, 112]⟩, ⟨#[108, 111, 97, 100, 103, 108, 111, 98, 97, 108]⟩, ⟨#[115, 116, 111, 114, 101, 103, 108, 111, 98, 97, 108]⟩, ⟨#[108, 105, 115, 116]⟩, ⟨#[114, 101, 99]⟩, ⟨#[102, 117, 110]⟩, ⟨#[98, 105, 110]⟩, ⟨#[110, 111, 116]⟩, ⟨#[110, 101, 103]⟩, ⟨#[106, 117, 109, 112]⟩, ⟨#[102, 97, 108, 115, 101]⟩, ⟨#[107, 101, 101, 112, 102, 97, 108, 115, 101]⟩, ⟨#[107, 101, 101, 112, 116, 114, 117, 101]⟩, ⟨#[108, 111, 111, 112]⟩, ⟨#[99, 97, 108, 108]⟩, ⟨#[115, 112, 97, 119, 110]⟩, ⟨#[114, 101, 116, 117, 114, 110]⟩, ⟨#[116, 104, 114, 111, 119]⟩, ⟨#[105, 110, 100, 101, 120]⟩, ⟨#[115, 101, 116, 105, 110, 100, 101, 120]⟩, ⟨#[102, 105, 101, 108, 100]⟩, ⟨#[115, 101, 116, 102, 105, 101, 108, 100]⟩]) (g := 2) (n := 33) (t := 102) (e := 9) (.head _) (by kernel_rfl) (by kernel_rfl) (by kernel_rfl) (by kernel_rfl) (by kernel_rfl) (by kernel_rfl) rfl
  have a0 := gl_ints hL (name := "jacquard/code.takes") (k := .i64) (ss := [0, 0, 0, 0, 1, 0, 1, 0, 0, 1, 0, 1, 0, 1, 0, 0, 0, 2, 1, 1, 0, 1, 1, 1, 0, 1, 1, 1, 1, 2, 3, 1, 2]) (g := 0) (n := 33) (t := 101) (e := 3) (.tail _ (.head _)) (by kernel_rfl) (by kernel_rfl) (by kernel_rfl) (by kernel_rfl) (by kernel_rfl) (by kernel_rfl) rfl
  have a1 := gl_ints hL (name := "jacquard/code.puts") (k := .i64) (ss := [1, 1, 1, 1, 0, 1, 0, 0, 1, 0, 1, 0, 1, 0, 1, 1, 1, 1, 1, 1, 0, 0, 0, 0, 0, 1, 1, 0, 0, 1, 0, 1, 0]) (g := 1) (n := 33) (t := 101) (e := 3) (.tail _ (.tail _ (.head _))) (by kernel_rfl) (by kernel_rfl) (by kernel_rfl) (by kernel_rfl) (by kernel_rfl) (by kernel_rfl) rfl
  intro g hg
  by_cases e2 : g = 2
  · subst e2; exact a2
  by_cases e0 : g = 0
  · subst e0; exact a0
  by_cases e1 : g = 1
  · subst e1; exact a1
  exact absurd (gl_else g e2 e0 e1) hg
theorem metH (W : World) (h : laidMet Tryd.prog Rows.codeOwnRow.laid W) : laidMetH Tryd.prog Rows.codeOwnRow.laid W := h
set_option maxRecDepth 100000 in
theorem lifted (os : Os) (started : os.Started) (H : Type) (enc : TypeId × Value → H) :
    ReturnsInHanded {} Tryd.checked os 7 .any (fun w args => (Rows.codeOwnSpec.pre enc Tryd.prog Tryd.f7 Rows.codeOwnRow.domain false w args ∧ laidMetH Tryd.prog Rows.codeOwnRow.laid w) ∧ sizedMet enc Tryd.prog Tryd.f7 (OpenSpec.ofChange Rows.codeOwnSpec) false w args) (Rows.codeOwnSpec.post enc Tryd.prog Tryd.f7 false true false false) := by
  refine returnsInHanded_of_change_and (C := Tryd.checked) (X := fun w _ => laidMetH Tryd.prog Rows.codeOwnRow.laid w) (fun _ _ _ hh h => h.of_heap hh) own started (by kernel_rfl) Tryd.func7
    (ChangeSpec.witness_at (enc := enc) (C := Tryd.checked) (os := os) (X := fun w _ => laidMetH Tryd.prog Rows.codeOwnRow.laid w) false (World.laidAll Tryd.prog os Rows.codeOwnRow.laid) #[.agg #[.slice none 0 0, .slice none 0 0, .slice none 0 0, .int .i64 0]] 8 (World.laidAll_os _ _ _) (by kernel_rfl) (by kernel_rfl) (by kernel_rfl) (by kernel_rfl) (by kernel_rfl) (metH _ (laidMet_laidAll _ (by kernel_rfl) (by kernel_rfl)))) ?_
  intro W base args ds gs before hval0 hW hcnd hsz0 hL0 _
  have hL : laidMet Tryd.prog Rows.codeOwnRow.laid W := hL0
  have hval : ∀ (j : Nat) t v, Tryd.f7.params[j]? = some t → args[j]? = some v → Value.okWide Tryd.prog W .any base t v := hval0
  have hW' := hW
  obtain ⟨p, q, hA0, hV, rfl, hfz, hnd⟩ := hW
  have hA : DataW.TrodAll enc Tryd.prog W 0 (fun _ => true) true Tryd.f7.params.toList args.toList ds p := hA0
  rw [Tryd.params7] at hA hval
  obtain ⟨v0, vs0, d0, ds0, p0, q0, hargs, rfl, rfl, h0, r0⟩ := trodAll_cons hA
  obtain ⟨rfl, rfl, rfl⟩ := trodAll_nil r0
  obtain rfl : args = #[v0] := by cases args; simp_all
  obtain ⟨rfl, rfl⟩ := trodVars_none hV
  have hgl : GlOK notes.gl (g0 W) := glOK hL
  have lt0 : ∀ x ∈ p0, x.block < W.heap.size := by obtain ⟨m, hm⟩ := h0; exact DataW.trod_lt m _ _ _ hm
  obtain ⟨c0, t0, a0⟩ := open_arg (d := 8) (by kernel_rfl) (hval 0 26 v0 rfl rfl) h0
  clear hA0 hval0 hsz0
  have hrun := run_bool (P := Tryd.prog) (A := notes) mixed hgl (codeOwn_main t0) (us := #[v0]) rfl (fun j v u hj hu => by
    match j with
    | 0 => simp at hj hu; subst hj hu; exact a0
    | j + 1 => simp at hj)
  refine hrun.mono fun e W' ⟨he, bel⟩ => ?_
  subst he
  exact ⟨_, rfl, _, _, _, [], _, [], hW', trodAll_mk1 (shut_bool Tryd.underlying4 _), (trodAll_cons_mk (Below.trod laidOut (by kernel_rfl) (of_decide_eq_true (by kernel_rfl)) h0 bel lt0) trodAll_mk0), rfl, bel.frame _, fun h => by cases h⟩
theorem over : Rows.codeOwnRow.holds Tryd.pinned (OpenSpec.ofChange Rows.codeOwnSpec) :=
  OpenClaim.holds_of_wide 7 Tryd.f7 rfl rfl rfl rfl rfl rfl rfl ⟨rfl, rfl, rfl, rfl, rfl⟩ rfl rfl rfl rfl rfl (by kernel_rfl) Tryd.func7 (by kernel_rfl)
    (of_decide_eq_true (by kernel_rfl)) (by unfold Func.isWrapper; first | (rw [if_pos (by decide +kernel)]; kernel_rfl) | (rw [if_neg (by decide +kernel)]; exact ⟨rfl, rfl⟩))
    (fun os started H enc _ => lifted os started H enc)
theorem proved : Rows.CodeOwnSaid := over
#print axioms proved
end Go.Proofs.YtgjobbmbbedecaaDoor.codeOwn
namespace Go.Proofs.YtgjobbmbbedecaaDoor
/-- The row, under a short name, for the claim. -/
theorem codeOwn_holds : Rows.CodeOwnSaid := codeOwn.proved
/-- The tied card. -/
theorem codeOwn_card : Rows.CodeOwnCardSaid :=
  Claim7.holds_tied_plain_at .later [] [.data, .data, .data] true (true, "c1015e2176da6448272e35157ef7e36b6f20de91f6d395d08a7cabd0e3b0b58a") false
    codeOwn_holds (fun _ h => by cases h) (by kernel_rfl) (fun _ h => by cases h) codeOwn_row_tie rfl ⟨rfl, rfl⟩ (by kernel_rfl) rfl
    (fun f fn hf hfn => by
      obtain rfl : f = 7 := Option.some.inj ((show Tryd.prog.funcNamed "jacquard/jacquardlaw10.CodeOwn" = some 7 by kernel_rfl).symm.trans hf) |>.symm
      obtain rfl : fn = Tryd.f7 := (Option.some.inj (Tryd.func7.symm.trans hfn)).symm
      exact ⟨by kernel_rfl, fun j t ht => by
        have ht : Tryd.f7.params[j]? = some t := ht
        rw [Tryd.params7] at ht
        match j with
        | 0 =>
          obtain rfl : t = 26 := by simpa using ht.symm
          exact (show Tryd.prog.wantsStandIn 26 = false by kernel_rfl)
        | j + 1 => simp at ht⟩)
    (by kernel_rfl)
#print axioms codeOwn_card
end Go.Proofs.YtgjobbmbbedecaaDoor
