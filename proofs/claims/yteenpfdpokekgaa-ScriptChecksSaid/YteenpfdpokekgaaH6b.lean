import Derived.Test.YteenpfdpokekgaaH6
namespace Go.Proofs.Yteenpfdpokekgaa.PS0
open Go.RowKit Go.Proofs.YteenpfdpokekgaaW.PrintWords Go.Proofs.YteenpfdpokekgaaW.PrintLast Go.Proofs.YteenpfdpokekgaaW.PrintMore
set_option linter.unusedVariables false
set_option linter.unusedSimpArgs false
theorem k40'_mkM (w : World) (base : Nat) (ok : Nat → Prop) (x : T40)  : k40'.M w base ok x [.int .i64 x.f0, .int .i64 x.f1, .int .i64 x.f2, .int .i64 x.f3.f0, .int .i64 x.f3.f1, .int .i64 x.f3.f2] := ⟨[.int .i64 x.f0], [.int .i64 x.f1, .int .i64 x.f2, .int .i64 x.f3.f0, .int .i64 x.f3.f1, .int .i64 x.f3.f2], rfl, rfl, ⟨[.int .i64 x.f1], [.int .i64 x.f2, .int .i64 x.f3.f0, .int .i64 x.f3.f1, .int .i64 x.f3.f2], rfl, rfl, ⟨[.int .i64 x.f2], [.int .i64 x.f3.f0, .int .i64 x.f3.f1, .int .i64 x.f3.f2], rfl, rfl, ⟨[.int .i64 x.f3.f0], [.int .i64 x.f3.f1, .int .i64 x.f3.f2], rfl, rfl, ⟨[.int .i64 x.f3.f1], [.int .i64 x.f3.f2], rfl, rfl, rfl⟩⟩⟩⟩⟩
/-- The parser's state between two lines. -/
structure Scr (w0 W : World) (g gs : Nat) (b : List Int) (i e : Int) (es : List T40) (ds : List Int) : Prop where
  st : IsS48 w0 W g b i e
  bw : Below w0.heap.size w0 W
  inb : InB b i
  okb : OkB b
  sc : ∃ ve vd, W.heap[gs]? = some (.cells #[ve, vd] 27 (0, 0)) ∧ w0.heap.size ≤ gs ∧ Kd.R k40' 40 W w0.heap.size (fun _ => True) ve es ∧ Kd.R (Kd.int .i64) 3 W w0.heap.size (fun _ => True) vd ds
section
variable {w0 W W1 : World} {g gs bx : Nat} {b : List Int} {i e i' e' : Int} {es : List T40} {ds : List Int} {x : T40}
theorem Env.toScr (h : Env w0 W g gs bx b i e es ds x) : Scr w0 W g gs b i e es ds := by
  obtain ⟨ve, vd, h1, h2, h3, h4⟩ := h.sc
  exact ⟨h.st, h.bw, h.inb, h.okb, ve, vd, h1, h2, Kd.R_mono h3 (fun _ _ => trivial), h4⟩
theorem Scr.toEnv (h : Scr w0 W g gs b i e es ds) (x : T40) : Env w0 (W.alloc (.cells (cells40 x) 40 (0, 0))) g gs W.heap.size b i e es ds x := by
  obtain ⟨ve, vd, h1, h2, h3, h4⟩ := h.sc
  exact ⟨h.st.alloc _, below_alloc h.bw _, h.inb, h.okb, ⟨ve, vd, blk_alloc h1 _, h2, Kd.R_mono (Kd.R_alloc (Kd.R_elderB h3 W.heap.size (Nat.le_refl _)) _) (fun _ hk => hk.2), Kd.R_alloc h4 _⟩, blk_new _ _, below_size h.bw⟩
theorem Scr.box (h : Scr w0 W g gs b i e es ds) (x : T40) {w3 : World} (hg : bx = W.heap.size) (hbox : w3.heap[bx]? = some (.cells (cells40 x) 40 (0, 0))) (hb : Below W.heap.size W w3) : Env w0 w3 g gs bx b i e es ds x := by
  obtain ⟨ve, vd, h1, h2, h3, h4⟩ := h.sc
  refine ⟨h.st.below hb, below_step h.bw hb, h.inb, h.okb, ⟨ve, vd, blk_below h1 hb, h2, Kd.R_mono (Kd.R_below (Kd.R_elderB h3 bx (Nat.le_of_eq hg.symm)) hb) (fun _ hk => hk.2), Kd.R_below h4 hb⟩, hbox, by rw [hg]; exact below_size h.bw⟩
theorem Scr.call (h : Scr w0 W g gs b i e es ds) (hi : IsS48 w0 W1 g b i' e') (hb : Below w0.heap.size w0 W1) (hk : KeepBut W W1 g none) (hn : InB b i') : Scr w0 W1 g gs b i' e' es ds := by
  obtain ⟨A, c, hgb, hg0, hr⟩ := h.st
  obtain ⟨ve, vd, h1, h2, h3, h4⟩ := h.sc
  refine ⟨hi, hb, hn, h.okb, ⟨ve, vd, KeepBut.blk hk h1 (blk_ne h1 hgb (by decide)) (by simp), h2, ?_, ?_⟩⟩
  · exact Kd.R_mono (Kd.R_keep (Kd.R_types h3 hgb (fun q hq => by rw [E40 q hq]; decide)) hk (fun _ h => h.2)) (fun _ h => h.1)
  · exact Kd.R_mono (Kd.R_keep (Kd.R_types h4 hgb (fun q hq => by rw [E3 q hq]; decide)) hk (fun _ h => h.2)) (fun _ h => h.1)
theorem Scr.drewN (h : Scr w0 W g gs b i e es ds) (n : Nat) : Scr w0 (W.drewN n) g gs b i e es ds := by
  obtain ⟨ve, vd, h1, h2, h3, h4⟩ := h.sc
  exact ⟨h.st.drewN n, pw_below_drewN h.bw n, h.inb, h.okb, ⟨ve, vd, h1, h2, Kd.R_drewN h3 n, Kd.R_drewN h4 n⟩⟩
theorem Scr.drew (h : Scr w0 W g gs b i e es ds) : Scr w0 W.drew g gs b i e es ds := by
  obtain ⟨ve, vd, h1, h2, h3, h4⟩ := h.sc
  exact ⟨h.st.drew, below_drew1 h.bw, h.inb, h.okb, ⟨ve, vd, blk_drew h1, h2, Kd.R_drew h3, Kd.R_drew h4⟩⟩
theorem Env.drew (h : Env w0 W g gs bx b i e es ds x) : Env w0 W.drew g gs bx b i e es ds x := by
  obtain ⟨ve, vd, h1, h2, h3, h4⟩ := h.sc
  exact ⟨h.st.drew, below_drew1 h.bw, h.inb, h.okb, ⟨ve, vd, blk_drew h1, h2, Kd.R_drew h3, Kd.R_drew h4⟩, blk_drew h.xb.1, h.xb.2⟩
theorem Scr.alloc (h : Scr w0 W g gs b i e es ds) (o : Obj) : Scr w0 (W.alloc o) g gs b i e es ds := by
  obtain ⟨ve, vd, h1, h2, h3, h4⟩ := h.sc
  exact ⟨h.st.alloc o, below_alloc h.bw o, h.inb, h.okb, ⟨ve, vd, blk_alloc h1 o, h2, Kd.R_alloc h3 o, Kd.R_alloc h4 o⟩⟩
theorem Env.set0 (h : Env w0 W g gs bx b i e es ds x) (v : Int) : Env w0 (W.setCell ⟨bx, 0, none⟩ (.int .i64 v)) g gs bx b i e es ds ⟨v, x.f1, x.f2, x.f3⟩ := h.setx 0 _ _ rfl
theorem Env.set1 (h : Env w0 W g gs bx b i e es ds x) (v : Int) : Env w0 (W.setCell ⟨bx, 1, none⟩ (.int .i64 v)) g gs bx b i e es ds ⟨x.f0, v, x.f2, x.f3⟩ := h.setx 1 _ _ rfl
theorem Env.set2 (h : Env w0 W g gs bx b i e es ds x) (v : Int) : Env w0 (W.setCell ⟨bx, 2, none⟩ (.int .i64 v)) g gs bx b i e es ds ⟨x.f0, x.f1, v, x.f3⟩ := h.setx 2 _ _ rfl
theorem Env.set3 (h : Env w0 W g gs bx b i e es ds x) (v : Int) : Env w0 (W.setCell ⟨bx, 3, none⟩ (.int .i64 v)) g gs bx b i e es ds ⟨x.f0, x.f1, x.f2, ⟨v, x.f3.f1, x.f3.f2⟩⟩ := h.setx 3 _ _ rfl
theorem Env.set4 (h : Env w0 W g gs bx b i e es ds x) (v : Int) : Env w0 (W.setCell ⟨bx, 4, none⟩ (.int .i64 v)) g gs bx b i e es ds ⟨x.f0, x.f1, x.f2, ⟨x.f3.f0, v, x.f3.f2⟩⟩ := h.setx 4 _ _ rfl
theorem Env.set5 (h : Env w0 W g gs bx b i e es ds x) (v : Int) : Env w0 (W.setCell ⟨bx, 5, none⟩ (.int .i64 v)) g gs bx b i e es ds ⟨x.f0, x.f1, x.f2, ⟨x.f3.f0, x.f3.f1, v⟩⟩ := h.setx 5 _ _ rfl
theorem E403 : ∀ q, q ∈ 40 :: k40'.E → q ≠ 3 := fun q hq => by rw [E40 q hq]; decide
theorem E340 : ∀ q, q ∈ 3 :: (Kd.int .i64).E → q ≠ 40 := fun q hq => by rw [E3 q hq]; decide
theorem E4027 : ∀ q, q ∈ 40 :: k40'.E → q ≠ 27 := fun q hq => by rw [E40 q hq]; decide
theorem E327 : ∀ q, q ∈ 3 :: (Kd.int .i64).E → q ≠ 27 := fun q hq => by rw [E3 q hq]; decide
theorem Env.appD (h : Env w0 W g gs bx b i e es ds x) {ve vd v1 : Value} {w1 : World} {ds' : List Int} (hs1 : W.heap[gs]? = some (.cells #[ve, vd] 27 (0, 0))) (hs2 : w0.heap.size ≤ gs) (hs3 : Kd.R k40' 40 W w0.heap.size (fun k => k ≠ bx) ve es) (hs4 : Kd.R (Kd.int .i64) 3 W w0.heap.size (fun _ => True) vd ds)
    (ho : Kd.R (Kd.int .i64) 3 w1 w0.heap.size (fun _ => True) v1 ds') (hb : Below w0.heap.size w0 w1) (hg : W.grownBy w1 vd.ownBlock) :
    Env w0 (w1.setCell ⟨gs, 1, none⟩ v1) g gs bx b i e es ds' x ∧ w1.heap[gs]? = some (.cells #[ve, vd] 27 (0, 0)) := by
  obtain ⟨A, c, hgb, hg0, hr⟩ := h.st
  have n1 := blk_grown hs1 hg (Kd.R_ne hs4 hs1 (by decide))
  have n2 := blk_grown hgb hg (Kd.R_ne hs4 hgb (by decide))
  have n3 := blk_grown h.xb.1 hg (Kd.R_ne hs4 h.xb.1 (by decide))
  have r3 := Kd.R_over' hs3 (Kd.R_typed hs4) E403 hg
  refine ⟨⟨⟨A, c, blk_far n2 (blk_ne n2 n1 (by decide)) _, hg0, hr⟩, below_set hb hs2, h.inb, h.okb, ⟨ve, v1, blk_put n1 1 _ rfl, hs2, Kd.R_set r3 n1 E4027 1 _, Kd.R_set ho n1 E327 1 _⟩, blk_far n3 (blk_ne n3 n1 (by decide)) _, h.xb.2⟩, n1⟩
theorem Scr.appE (h : Scr w0 W g gs b i e es ds) {ve vd v1 : Value} {w1 : World} {es' : List T40} (hs1 : W.heap[gs]? = some (.cells #[ve, vd] 27 (0, 0))) (hs2 : w0.heap.size ≤ gs) (hs3 : Kd.R k40' 40 W w0.heap.size (fun _ => True) ve es) (hs4 : Kd.R (Kd.int .i64) 3 W w0.heap.size (fun _ => True) vd ds)
    (ho : Kd.R k40' 40 w1 w0.heap.size (fun _ => True) v1 es') (hb : Below w0.heap.size w0 w1) (hg : W.grownBy w1 ve.ownBlock) :
    Scr w0 (w1.setCell ⟨gs, 0, none⟩ v1) g gs b i e es' ds ∧ w1.heap[gs]? = some (.cells #[ve, vd] 27 (0, 0)) := by
  obtain ⟨A, c, hgb, hg0, hr⟩ := h.st
  have n1 := blk_grown hs1 hg (Kd.R_ne hs3 hs1 (by decide))
  have n2 := blk_grown hgb hg (Kd.R_ne hs3 hgb (by decide))
  have r4 := Kd.R_over' hs4 (Kd.R_typed hs3) E340 hg
  refine ⟨⟨⟨A, c, blk_far n2 (blk_ne n2 n1 (by decide)) _, hg0, hr⟩, below_set hb hs2, h.inb, h.okb, ⟨v1, vd, blk_put n1 0 _ rfl, hs2, Kd.R_set ho n1 E4027 0 _, Kd.R_set r4 n1 E327 0 _⟩⟩, n1⟩
theorem store40 {ops : Array Oper} {rest : List Oper} {o : Oper} {a : Act} {Q : Exit → Act → World → Prop} (h : Env w0 W g gs bx b i e es ds x) (x' : T40) (hgd : o.guard = none) (hN : o.dst = none) (p y : Operand) (ho : o.op = .store 40 p y)
    (hp : a.eval p = .pointer (some ⟨bx, 0, none⟩)) (hy : a.eval y = .agg (cells40 x')) (hc : ∀ w1, Env w0 w1 g gs bx b i e es ds x' → wpList Try.prog ops Q rest a w1) : wpList Try.prog ops Q (o :: rest) a W := by
  refine wpList_plain hgd fun K hK => ?_
  have hrun : (Instr.storeAt 40 (.pointer (some ⟨bx, 0, none⟩)) (.agg (cells40 x'))).run Try.prog W = .ok () (W.setCells bx 0 (cells40 x').toList) :=
    run_store_run 40 _ _ h.xb.1 rfl (by kernel_rfl) (by simp [cells40]) (by intro q hq; simp [cells40] at hq; rcases hq with rfl | rfl | rfl | rfl | rfl | rfl <;> rfl)
  unfold Oper.wp execOp
  simp only [ho, hp, hy, Sem.run_bind, Sem.run_pure, Result.andThen_ok, hrun]
  show K (a.put o.dst undef) _
  rw [hN]
  exact hK a _ (hc _ ((((((h.set0 x'.f0).set1 x'.f1).set2 x'.f2).set3 x'.f3.f0).set4 x'.f3.f1).set5 x'.f3.f2))
theorem Env.cast {ds' : List Int} {x' : T40} (h : Env w0 W g gs bx b i e es ds x) (h1 : i = i') (h2 : e = e') (h3 : ds = ds') (h4 : x = x') : Env w0 W g gs bx b i' e' es ds' x' := by
  subst h1 h2 h3 h4
  exact h
/-- The four calls of the reader, in the words of Env. -/
theorem wantX (h : Env w0 W g gs bx b i e es ds x) (s : ByteArray) (cs : List Int) (hs : s.size ≤ 100) (hcs : (s.data.toList.map fun c => (c.toNat : Int)) = cs) :
    Calls Try.prog 27 #[.pointer (some ⟨g, 0, none⟩), .string s] W fun e' w' => e' = .returned (.tuple #[]) ∧ Env w0 w' g gs bx b (wantS b i e cs).1 (wantS b i e cs).2 es ds x := by
  subst hcs
  refine (want_q g b i e s hs w0 W h.st h.bw h.okb h.inb).mono ?_
  rintro e' w' ⟨rfl, h1, h2, h3⟩
  exact ⟨rfl, h.call h1 h2 h3 (want_inB _ _ _ _ h.inb)⟩
theorem moreX (h : Env w0 W g gs bx b i e es ds x) (n fr : Int) (hf : InB b fr) :
    Calls Try.prog 28 #[.pointer (some ⟨g, 0, none⟩), .int .i64 n, .int .i64 fr] W fun e' w' => e' = .returned (.tuple #[]) ∧ Env w0 w' g gs bx b (moreS b i e n fr).1 (moreS b i e n fr).2 es ds x := by
  refine (more_q g b i e n fr w0 W h.st h.bw h.okb h.inb).mono ?_
  rintro e' w' ⟨rfl, h1, h2, h3⟩
  exact ⟨rfl, h.call h1 h2 h3 (more_inB _ _ _ _ _ h.inb hf)⟩
theorem numX (h : Env w0 W g gs bx b i e es ds x) (low high : Int) :
    Calls Try.prog 29 #[.pointer (some ⟨g, 0, none⟩), .int .i64 low, .int .i64 high] W fun e' w' => e' = .returned (.int .i64 (numS b i e low high).1) ∧ Env w0 w' g gs bx b (numS b i e low high).2.1 (numS b i e low high).2.2 es ds x := by
  refine (number_q g b i e low high w0 W h.st h.bw h.okb h.inb).mono ?_
  rintro e' w' ⟨rfl, h1, h2, h3⟩
  exact ⟨rfl, h.call h1 h2 h3 (num_inB _ _ _ _ _ h.inb)⟩
theorem nextX (h : Env w0 W g gs bx b i e es ds x) (low high : Int) :
    Calls Try.prog 30 #[.pointer (some ⟨g, 0, none⟩), .int .i64 low, .int .i64 high] W fun e' w' => e' = .returned (.int .i64 (nextS b i e low high).1) ∧ Env w0 w' g gs bx b (nextS b i e low high).2.1 (nextS b i e low high).2.2 es ds x := by
  refine (next_q g b i e low high w0 W h.st h.bw h.okb h.inb).mono ?_
  rintro e' w' ⟨rfl, h1, h2, h3⟩
  exact ⟨rfl, h.call h1 h2 h3 (next_inB _ _ _ _ _ h.inb)⟩
end
end Go.Proofs.Yteenpfdpokekgaa.PS0
