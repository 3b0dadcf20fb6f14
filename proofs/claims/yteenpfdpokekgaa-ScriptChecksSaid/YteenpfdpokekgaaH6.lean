import Derived.Test.YteenpfdpokekgaaH5
namespace Go.Proofs.Yteenpfdpokekgaa.PS0
open Go.RowKit Go.Proofs.YteenpfdpokekgaaW.PrintWords Go.Proofs.YteenpfdpokekgaaW.PrintLast Go.Proofs.YteenpfdpokekgaaW.PrintMore
set_option linter.unusedVariables false
set_option linter.unusedSimpArgs false
/-! struct types 38 and 40, as the print has them -/
structure T38 where
  f0 : Int
  f1 : Int
  f2 : Int
def k38' : Kd T38 := Kd.iso (Kd.pair (Kd.int .i64) (Kd.pair (Kd.int .i64) (Kd.int .i64))) (fun x : T38 => (x.f0, x.f1, x.f2))
structure T40 where
  f0 : Int
  f1 : Int
  f2 : Int
  f3 : T38
def k40' : Kd T40 := Kd.iso (Kd.pair (Kd.int .i64) (Kd.pair (Kd.int .i64) (Kd.pair (Kd.int .i64) k38'))) (fun x : T40 => (x.f0, x.f1, x.f2, x.f3))
def cells40 (x : T40) : Array Value := #[.int .i64 x.f0, .int .i64 x.f1, .int .i64 x.f2, .int .i64 x.f3.f0, .int .i64 x.f3.f1, .int .i64 x.f3.f2]
structure Env (w0 W : World) (g gs bx : Nat) (b : List Int) (i e : Int) (es : List T40) (ds : List Int) (x : T40) : Prop where
  st : IsS48 w0 W g b i e
  bw : Below w0.heap.size w0 W
  inb : InB b i
  okb : OkB b
  sc : ∃ ve vd, W.heap[gs]? = some (.cells #[ve, vd] 27 (0, 0)) ∧ w0.heap.size ≤ gs ∧ Kd.R k40' 40 W w0.heap.size (fun k => k ≠ bx) ve es ∧ Kd.R (Kd.int .i64) 3 W w0.heap.size (fun _ => True) vd ds
  xb : W.heap[bx]? = some (.cells (cells40 x) 40 (0, 0)) ∧ w0.heap.size ≤ bx
section
variable {w0 W W1 : World} {g gs bx : Nat} {b : List Int} {i e i' e' : Int} {es : List T40} {ds : List Int} {x : T40}
theorem E40 : ∀ q, q ∈ 40 :: k40'.E → q = 40 := by
  intro q hq
  simpa [k40', k38', Kd.iso, Kd.pair, Kd.int, Kd.scalar] using hq
theorem E3 : ∀ q, q ∈ 3 :: (Kd.int .i64).E → q = 3 := by
  intro q hq
  simpa [Kd.int, Kd.scalar] using hq
theorem Env.call (h : Env w0 W g gs bx b i e es ds x) (hi : IsS48 w0 W1 g b i' e') (hb : Below w0.heap.size w0 W1) (hk : KeepBut W W1 g none) (hn : InB b i') : Env w0 W1 g gs bx b i' e' es ds x := by
  obtain ⟨A, c, hgb, hg0, hr⟩ := h.st
  obtain ⟨ve, vd, h1, h2, h3, h4⟩ := h.sc
  refine ⟨hi, hb, hn, h.okb, ⟨ve, vd, KeepBut.blk hk h1 (blk_ne h1 hgb (by decide)) (by simp), h2, ?_, ?_⟩, KeepBut.blk hk h.xb.1 (blk_ne h.xb.1 hgb (by decide)) (by simp), h.xb.2⟩
  · exact Kd.R_mono (Kd.R_keep (Kd.R_types h3 hgb (fun q hq => by rw [E40 q hq]; decide)) hk (fun _ h => h.2)) (fun _ h => h.1)
  · exact Kd.R_mono (Kd.R_keep (Kd.R_types h4 hgb (fun q hq => by rw [E3 q hq]; decide)) hk (fun _ h => h.2)) (fun _ h => h.1)
theorem Env.drewN (h : Env w0 W g gs bx b i e es ds x) (n : Nat) : Env w0 (W.drewN n) g gs bx b i e es ds x := by
  obtain ⟨ve, vd, h1, h2, h3, h4⟩ := h.sc
  exact ⟨h.st.drewN n, pw_below_drewN h.bw n, h.inb, h.okb, ⟨ve, vd, h1, h2, Kd.R_drewN h3 n, Kd.R_drewN h4 n⟩, h.xb⟩
theorem Env.alloc (h : Env w0 W g gs bx b i e es ds x) (o : Obj) : Env w0 (W.alloc o) g gs bx b i e es ds x := by
  obtain ⟨ve, vd, h1, h2, h3, h4⟩ := h.sc
  exact ⟨h.st.alloc o, below_alloc h.bw o, h.inb, h.okb, ⟨ve, vd, blk_alloc h1 o, h2, Kd.R_alloc h3 o, Kd.R_alloc h4 o⟩, blk_alloc h.xb.1 o, h.xb.2⟩
/-- A store into x's block. -/
theorem Env.setx (h : Env w0 W g gs bx b i e es ds x) (j : Nat) (u : Value) (x' : T40) (hx : (cells40 x).setIfInBounds j u = cells40 x') : Env w0 (W.setCell ⟨bx, j, none⟩ u) g gs bx b i e es ds x' := by
  obtain ⟨A, c, hgb, hg0, hr⟩ := h.st
  obtain ⟨ve, vd, h1, h2, h3, h4⟩ := h.sc
  refine ⟨h.st.far (blk_ne hgb h.xb.1 (by decide)) u, below_set h.bw h.xb.2, h.inb, h.okb, ⟨ve, vd, blk_far h1 (blk_ne h1 h.xb.1 (by decide)) u, h2, Kd.R_far h3 (fun k hk => hk) u, ?_⟩, blk_put h.xb.1 j u hx, h.xb.2⟩
  exact Kd.R_set h4 h.xb.1 (fun q hq => by rw [E3 q hq]; decide) j u
end
end Go.Proofs.Yteenpfdpokekgaa.PS0
