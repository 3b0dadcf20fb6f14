/- A part of the proofs over this seat. -/
import Derived.Test.YtgjobbmbbedecaaDoorQM2
import Derived.Test.YtgjobbmbbedecaaDoorQM1
/- Reading, where the functions and their code stay slices of the heap. -/
namespace Go.Proofs.YtgjobbmbbedecaaDoor
open Go Go.Abs Go.Proofs
set_option maxRecDepth 100000
set_option maxHeartbeats 4000000
set_option linter.unusedVariables false
set_option linter.unusedSimpArgs false
theorem Own.weaken {H : Hp} {n0 n1 : Nat} {y : V} {l : List V} (h : Own H n0 y l) (hn : n1 ≤ n0) : Own H n1 y l := by
  rcases h with h | ⟨s, h1, h2, h3⟩
  · exact .inl h
  · exact .inr ⟨s, h1, Nat.le_trans hn h2, h3⟩
theorem Own.ok {H : Hp} {n0 : Nat} {y : V} {l : List V} (h : Own H n0 y l) : okV y = true := by
  rcases h with ⟨rfl, _⟩ | ⟨s, rfl, _⟩ <;> rfl
theorem Own.cells1 {H : Hp} {n0 : Nat} {y : V} {l : List V} (h : Own H n0 y l) : y.cells = [y] := by
  rcases h with ⟨rfl, _⟩ | ⟨s, rfl, _⟩ <;> rfl
theorem Own.rd {H : Hp} {n0 : Nat} {y : V} {l : List V} (h : Own H n0 y l) : Rd H y l := by
  rcases h with ⟨rfl, rfl⟩ | ⟨s, rfl, _, h3, _⟩
  · exact .nils
  · exact Rd.whole h3
/-- As own_app; all blocks but the list's own are as they were. -/
theorem own_app2 {e : TypeId} {sz : Nat} {H : Hp} {n0 : Nat} {y v : V} {l : List V} {d : Option Nat} (hsz : sizeT Tryd.prog e = sz) (hy : Own H n0 y l) (hn : n0 ≤ H.length) (hv : v.width = sz) (hl : wideAll l sz = true) (hel : elemOk Tryd.prog e (l.length + 1) = true) :
    ∃ y' H', (∀ st, appendOp Tryd.prog .heap st H d e y [v] = some (putS st d (.v y'), H')) ∧ Own H' n0 y' (l ++ [v]) ∧ H.length ≤ H'.length ∧ ∀ i, i < H.length → y ≠ .sl i 0 l.length → H'[i]? = H[i]? := by
  have hw1 : wideAll [v] sz = true := by simp [wideAll, hv]
  rcases hy with ⟨rfl, rfl⟩ | ⟨s, rfl, h2, h3, h4⟩
  · refine ⟨.sl H.length 0 1, H ++ [.cells [v]], fun st => ?_, .inr ⟨H.length, rfl, hn, by simp, by simp⟩, by simp, fun i hi _ => List.getElem?_append_left hi⟩
    have hel : elemOk Tryd.prog e 1 = true := by simpa using hel
    simp [appendOp, hsz, hw1, newSl, hel]
  · have hsl := (List.getElem?_eq_some_iff.1 h3).1
    have he : l.isEmpty = false := by cases l <;> simp_all
    refine ⟨.sl H.length 0 (l.length + 1), H.set s .dead ++ [.cells (l ++ [v])], fun st => ?_, .inr ⟨H.length, by simp, by omega, by rw [List.getElem?_append_right (by simp)]; simp, by simp⟩, by simp, fun i hi hne => ?_⟩
    · simp [appendOp, hsz, hw1, h3, appendSl, hl, he, hel]
      omega
    · have his : s ≠ i := fun h => hne (by rw [h])
      rw [List.getElem?_append_left (by simpa using hi), List.getElem?_set_ne his]
/-- A function as it was read: its code a slice of the heap -/
def VH (H : Hp) (nb : Nat) (v : V) (c : FnM) : Prop := ∃ y, v = .agg [.int .i64 c.params, .int .i64 c.slots, repL (c.boxes.map intV), repL (c.caps.map capV), y, repL (c.tries.map tryV)] ∧ Own H nb y (c.code.map inV)
theorem VH.width {H : Hp} {nb : Nat} {v : V} {c : FnM} (h : VH H nb v c) : v.width = 6 := by obtain ⟨y, rfl, _⟩ := h; rfl
theorem VH.shut {H : Hp} {nb : Nat} {v : V} {c : FnM} (h : VH H nb v c) (st : St) : sealV st v = v := by obtain ⟨y, rfl, _⟩ := h; rfl
theorem VH.ok {H : Hp} {nb : Nat} {v : V} {c : FnM} (h : VH H nb v c) : okV v = true := by obtain ⟨y, rfl, _⟩ := h; rfl
theorem VH.mov {H H' : Hp} {nb w : Nat} {v : V} {c : FnM} (h : VH H nb v c) (hw : w < nb) (hf : Ff w H H') : VH H' nb v c := by
  obtain ⟨y, h1, h2⟩ := h
  exact ⟨y, h1, h2.mov hw hf⟩
theorem All2.wide {H : Hp} {nb : Nat} {vs : List V} {us : List FnM} (h : All2 (VH H nb) vs us) : wideAll vs 6 = true := by
  induction h with
  | nil => rfl
  | cons h1 _ ih => simp only [wideAll, List.all_cons, h1.width, beq_self_eq_true, Bool.true_and]; exact ih
theorem All2.app {α : Type} {R : V → α → Prop} {v : V} {a : α} (h1 : R v a) : ∀ {vs : List V} {us : List α}, All2 R vs us → All2 R (vs ++ [v]) (us ++ [a])
  | _, _, .nil => .cons h1 .nil
  | _, _, .cons p q => .cons p (All2.app h1 q)
/-- A block of code is not the block of the functions. -/
theorem VH.away {H H' : Hp} {nb n0 : Nat} {v yo : V} {c : FnM} {lo : List V} (h : VH H nb v c) (ho : Own H n0 yo lo) (hwo : wideAll lo 6 = true) (hk : ∀ i, i < H.length → yo ≠ .sl i 0 lo.length → H'[i]? = H[i]?) : VH H' nb v c := by
  obtain ⟨y, h1, h2⟩ := h
  refine ⟨y, h1, ?_⟩
  rcases h2 with h2 | ⟨s, a1, a2, a3, a4⟩
  · exact .inl h2
  · refine .inr ⟨s, a1, a2, ?_, a4⟩
    rw [hk s (List.getElem?_eq_some_iff.1 a3).1 fun e => ?_]
    · exact a3
    · rcases ho with ⟨rfl, _⟩ | ⟨q, rfl, b2, b3, b4⟩
      · cases e
      · cases e
        rw [a3] at b3
        cases b3
        cases hc : c.code with
        | nil => rw [hc] at a4; exact a4 rfl
        | cons z r =>
          rw [hc] at hwo
          have h36 : (inV z).width = 6 := by
            have := wideAll_iff.1 hwo (inV z) (by simp)
            exact this
          exact absurd h36 (by show ¬ (3 = 6); omega)
theorem Rr.app {H : Hp} {w : Nat} {x : V} {L : List Nat} {s : S} (h : Rr H w x L s) (b : Blk) : Rr (H ++ [b]) w x L s :=
  h.mov (Ff.app b) (List.getElem?_append_left h.lt)
theorem function49H {H : Hp} {w nb : Nat} (hnb : nb ≤ H.length) {x : V} {L : List Nat} {s : S} (hR : Rr H w x L s) (hL : ∀ y ∈ L, y < 256) (hlen : L.length ≤ 5000000) :
    wpCall EW 49 [.ptr w 0 0] H (fun out H' => ∃ v, out = .ret v false ∧ VH H' nb v (fnS L s).1 ∧ Ff w H H' ∧ Rr H' w x L (fnS L s).2) := by
  refine runs f49 b49 r49 n49 _ _ ?_
  simp only [bodyOf, Tryd.f49, Option.getD_some]
  have hR0 := hR.app (.cells [.ptr w 0 0])
  have hf0 : Ff w H (H ++ [Blk.cells [.ptr w 0 0]]) := Ff.app _
  have hC0 : (H ++ [Blk.cells [.ptr w 0 0]])[H.length]? = some (.cells [.ptr w 0 0]) := List.getElem?_concat_length
  have hcw : H.length ≠ w := by have := hR.lt; omega
  have hc0 : H.length < (H ++ [Blk.cells [.ptr w 0 0]]).length := by simp
  simp only [WW, partV, eqCells, eqLf, minV, maxV, ifcV, zaa, zab, zac, zad, zae, zaf, zag, zah, zai, ofConst, ofConst1, List.replicate, zaj, zak, loadOp, Go.Abs.loadCells, binV, zal, pickV, zam, zan, zao, zap, zaq, zar, zas, zat, zau, outR, resAll, resOne, zav, zaw, zax, zay, zaz, zba, zbb, zbc, zbd, zbe, zbf, zbg, zbh, zbi, zbj, zbk, storeOp, storeCell, overlay, zbl, zbm, zbn, lookupOp, keyT, okRes, mapUpdateOp, zbo, zbp, zbq, zbr, zbs, zbt, zbu, Nat.reduceSub, Nat.reduceAdd, Int.reduceLT, Int.reduceLE, Int.reduceAdd, Int.reduceSub, Int.reduceToNat, Int.reduceBEq, Int.reduceBNe, Int.reduceMul, Nat.reduceBEq, Nat.reduceBNe, Nat.reduceLT, Nat.reduceLeDiff, Nat.reduceMul, Nat.reduceEqDiff, WD, effB, effH, isPriv, isHeap, isImm, zbx, zby, zbz, chkO, setD, dslot, zca, zcb, zcc, zcd, ptrCells_some, F49]
  generalize (H ++ [Blk.cells [.ptr w 0 0]]) = H0 at *
  generalize H.length = c at *
  simp only [WW, partV, eqCells, eqLf, minV, maxV, ifcV, zaa, zab, zac, zad, zae, zaf, zag, zah, zai, ofConst, ofConst1, List.replicate, zaj, zak, loadOp, Go.Abs.loadCells, binV, zal, pickV, zam, zan, zao, zap, zaq, zar, zas, zat, zau, outR, resAll, resOne, zav, zaw, zax, zay, zaz, zba, zbb, zbc, zbd, zbe, zbf, zbg, zbh, zbi, zbj, zbk, storeOp, storeCell, overlay, zbl, zbm, zbn, lookupOp, keyT, okRes, mapUpdateOp, zbo, zbp, zbq, zbr, zbs, zbt, zbu, Nat.reduceSub, Nat.reduceAdd, Int.reduceLT, Int.reduceLE, Int.reduceAdd, Int.reduceSub, Int.reduceToNat, Int.reduceBEq, Int.reduceBNe, Int.reduceMul, Nat.reduceBEq, Nat.reduceBNe, Nat.reduceLT, Nat.reduceLeDiff, Nat.reduceMul, Nat.reduceEqDiff, WD, effB, effH, isPriv, isHeap, isImm, zbx, zby, zbz, chkO, setD, dslot, zca, zcb, zcc, zcd, ptrCells_some, F49, hC0]
  refine wpCall_of (numR hR0 hL hlen) ?_
  rintro out H1 ⟨rfl, g1, hR1⟩
  have hf1 := hf0.trans g1
  have hC1 := (g1.2 c hc0 hcw).trans hC0
  have hc1 := Nat.lt_of_lt_of_le hc0 g1.1
  simp only [WW, partV, eqCells, eqLf, minV, maxV, ifcV, zaa, zab, zac, zad, zae, zaf, zag, zah, zai, ofConst, ofConst1, List.replicate, zaj, zak, loadOp, Go.Abs.loadCells, binV, zal, pickV, zam, zan, zao, zap, zaq, zar, zas, zat, zau, outR, resAll, resOne, zav, zaw, zax, zay, zaz, zba, zbb, zbc, zbd, zbe, zbf, zbg, zbh, zbi, zbj, zbk, storeOp, storeCell, overlay, zbl, zbm, zbn, lookupOp, keyT, okRes, mapUpdateOp, zbo, zbp, zbq, zbr, zbs, zbt, zbu, Nat.reduceSub, Nat.reduceAdd, Int.reduceLT, Int.reduceLE, Int.reduceAdd, Int.reduceSub, Int.reduceToNat, Int.reduceBEq, Int.reduceBNe, Int.reduceMul, Nat.reduceBEq, Nat.reduceBNe, Nat.reduceLT, Nat.reduceLeDiff, Nat.reduceMul, Nat.reduceEqDiff, WD, effB, effH, isPriv, isHeap, isImm, zbx, zby, zbz, chkO, setD, dslot, zca, zcb, zcc, zcd, ptrCells_some, F49, hC1, buildOp, fillV, Lay.place, Bool.or_self, Bool.or_false, Bool.false_or, decide_not, ne_eq, not_true_eq_false, decide_eq_true_eq, Nat.lt_irrefl]
  refine wpCall_of (numR hR1 hL hlen) ?_
  rintro out H2 ⟨rfl, g2, hR2⟩
  have hf2 := hf1.trans g2
  have hC2 := (g2.2 c hc1 hcw).trans hC1
  have hc2 := Nat.lt_of_lt_of_le hc1 g2.1
  simp only [WW, partV, eqCells, eqLf, minV, maxV, ifcV, zaa, zab, zac, zad, zae, zaf, zag, zah, zai, ofConst, ofConst1, List.replicate, zaj, zak, loadOp, Go.Abs.loadCells, binV, zal, pickV, zam, zan, zao, zap, zaq, zar, zas, zat, zau, outR, resAll, resOne, zav, zaw, zax, zay, zaz, zba, zbb, zbc, zbd, zbe, zbf, zbg, zbh, zbi, zbj, zbk, storeOp, storeCell, overlay, zbl, zbm, zbn, lookupOp, keyT, okRes, mapUpdateOp, zbo, zbp, zbq, zbr, zbs, zbt, zbu, Nat.reduceSub, Nat.reduceAdd, Int.reduceLT, Int.reduceLE, Int.reduceAdd, Int.reduceSub, Int.reduceToNat, Int.reduceBEq, Int.reduceBNe, Int.reduceMul, Nat.reduceBEq, Nat.reduceBNe, Nat.reduceLT, Nat.reduceLeDiff, Nat.reduceMul, Nat.reduceEqDiff, WD, effB, effH, isPriv, isHeap, isImm, zbx, zby, zbz, chkO, setD, dslot, zca, zcb, zcc, zcd, ptrCells_some, F49, hC2, buildOp, fillV, Lay.place, Bool.or_self, Bool.or_false, Bool.false_or, decide_not, ne_eq, not_true_eq_false, decide_eq_true_eq, Nat.lt_irrefl]
  refine wpCall_of (allR46 (intS L) intV (fun _ _ => rfl) (fun _ => rfl) (fun _ => rfl) call47 hR2 hL hlen (fun H1 s1 h1 h2 => numR h2 hL hlen)) ?_
  rintro out H3' ⟨y, rfl, g3', hR3', hO3⟩
  obtain ⟨H3, e3, g3, hR3⟩ := own_done g3' hR2.lt hR2.r hR3' hO3
  have hf3 := hf2.trans g3
  have hC3 := (g3.2 c hc2 hcw).trans hC2
  have hc3 := Nat.lt_of_lt_of_le hc2 g3.1
  simp only [WW, partV, eqCells, eqLf, minV, maxV, ifcV, zaa, zab, zac, zad, zae, zaf, zag, zah, zai, ofConst, ofConst1, List.replicate, zaj, zak, loadOp, Go.Abs.loadCells, binV, zal, pickV, zam, zan, zao, zap, zaq, zar, zas, zat, zau, outR, resAll, resOne, zav, zaw, zax, zay, zaz, zba, zbb, zbc, zbd, zbe, zbf, zbg, zbh, zbi, zbj, zbk, storeOp, storeCell, overlay, zbl, zbm, zbn, lookupOp, keyT, okRes, mapUpdateOp, zbo, zbp, zbq, zbr, zbs, zbt, zbu, Nat.reduceSub, Nat.reduceAdd, Int.reduceLT, Int.reduceLE, Int.reduceAdd, Int.reduceSub, Int.reduceToNat, Int.reduceBEq, Int.reduceBNe, Int.reduceMul, Nat.reduceBEq, Nat.reduceBNe, Nat.reduceLT, Nat.reduceLeDiff, Nat.reduceMul, Nat.reduceEqDiff, WD, effB, effH, isPriv, isHeap, isImm, zbx, zby, zbz, chkO, setD, dslot, zca, zcb, zcc, zcd, ptrCells_some, F49, e3, hC3, buildOp, fillV, Lay.place, Bool.or_self, Bool.or_false, Bool.false_or, decide_not, ne_eq, not_true_eq_false, decide_eq_true_eq, Nat.lt_irrefl, repL_shut, repL_ok, repL_cells, repL_width]
  refine wpCall_of (allR68 (capS L) capV (fun _ _ => rfl) (fun _ => rfl) (fun _ => rfl) call69 hR3 hL hlen (fun H1 s1 h1 h2 => clos69 ((h1.2 c hc3 hcw).trans hC3) hcw h2 hL hlen)) ?_
  rintro out H4' ⟨y4, rfl, g4', hR4', hO4⟩
  obtain ⟨H4, e4, g4, hR4⟩ := own_done g4' hR3.lt hR3.r hR4' hO4
  have hf4 := hf3.trans g4
  have hC4 := (g4.2 c hc3 hcw).trans hC3
  have hc4 := Nat.lt_of_lt_of_le hc3 g4.1
  simp only [WW, partV, eqCells, eqLf, minV, maxV, ifcV, zaa, zab, zac, zad, zae, zaf, zag, zah, zai, ofConst, ofConst1, List.replicate, zaj, zak, loadOp, Go.Abs.loadCells, binV, zal, pickV, zam, zan, zao, zap, zaq, zar, zas, zat, zau, outR, resAll, resOne, zav, zaw, zax, zay, zaz, zba, zbb, zbc, zbd, zbe, zbf, zbg, zbh, zbi, zbj, zbk, storeOp, storeCell, overlay, zbl, zbm, zbn, lookupOp, keyT, okRes, mapUpdateOp, zbo, zbp, zbq, zbr, zbs, zbt, zbu, Nat.reduceSub, Nat.reduceAdd, Int.reduceLT, Int.reduceLE, Int.reduceAdd, Int.reduceSub, Int.reduceToNat, Int.reduceBEq, Int.reduceBNe, Int.reduceMul, Nat.reduceBEq, Nat.reduceBNe, Nat.reduceLT, Nat.reduceLeDiff, Nat.reduceMul, Nat.reduceEqDiff, WD, effB, effH, isPriv, isHeap, isImm, zbx, zby, zbz, chkO, setD, dslot, zca, zcb, zcc, zcd, ptrCells_some, F49, e4, hC4, buildOp, fillV, Lay.place, Bool.or_self, Bool.or_false, Bool.false_or, decide_not, ne_eq, not_true_eq_false, decide_eq_true_eq, Nat.lt_irrefl, repL_shut, repL_ok, repL_cells, repL_width]
  refine wpCall_of (allR70 (insS L) inV (fun _ _ => rfl) (fun _ => rfl) (fun _ => rfl) call71 hR4 hL hlen (fun H1 s1 h1 h2 => clos71 ((h1.2 c hc4 hcw).trans hC4) hcw h2 hL hlen)) ?_
  rintro out H5 ⟨y5, rfl, g5x, hR5x, hO5⟩
  have g5 := g5x
  have hR5 := hR5x
  have q1 := hO5.shut
  have q2 := hO5.ok
  have q3 := hO5.cells1
  have hf5 := hf4.trans g5
  have hC5 := (g5.2 c hc4 hcw).trans hC4
  have hc5 := Nat.lt_of_lt_of_le hc4 g5.1
  simp only [WW, partV, eqCells, eqLf, minV, maxV, ifcV, zaa, zab, zac, zad, zae, zaf, zag, zah, zai, ofConst, ofConst1, List.replicate, zaj, zak, loadOp, Go.Abs.loadCells, binV, zal, pickV, zam, zan, zao, zap, zaq, zar, zas, zat, zau, outR, resAll, resOne, zav, zaw, zax, zay, zaz, zba, zbb, zbc, zbd, zbe, zbf, zbg, zbh, zbi, zbj, zbk, storeOp, storeCell, overlay, zbl, zbm, zbn, lookupOp, keyT, okRes, mapUpdateOp, zbo, zbp, zbq, zbr, zbs, zbt, zbu, Nat.reduceSub, Nat.reduceAdd, Int.reduceLT, Int.reduceLE, Int.reduceAdd, Int.reduceSub, Int.reduceToNat, Int.reduceBEq, Int.reduceBNe, Int.reduceMul, Nat.reduceBEq, Nat.reduceBNe, Nat.reduceLT, Nat.reduceLeDiff, Nat.reduceMul, Nat.reduceEqDiff, WD, effB, effH, isPriv, isHeap, isImm, zbx, zby, zbz, chkO, setD, dslot, zca, zcb, zcc, zcd, ptrCells_some, F49, hC5, q1, q2, q3, buildOp, fillV, Lay.place, Bool.or_self, Bool.or_false, Bool.false_or, decide_not, ne_eq, not_true_eq_false, decide_eq_true_eq, Nat.lt_irrefl, repL_shut, repL_ok, repL_cells, repL_width]
  refine wpCall_of (allR73 (tryS L) tryV (fun _ _ => rfl) (fun _ => rfl) (fun _ => rfl) call74 hR5 hL hlen (fun H1 s1 h1 h2 => clos74 ((h1.2 c hc5 hcw).trans hC5) hcw h2 hL hlen)) ?_
  rintro out H6' ⟨y6, rfl, g6', hR6', hO6⟩
  obtain ⟨H6, e6, g6, hR6⟩ := own_done g6' hR5.lt hR5.r hR6' hO6
  simp only [WW, partV, eqCells, eqLf, minV, maxV, ifcV, zaa, zab, zac, zad, zae, zaf, zag, zah, zai, ofConst, ofConst1, List.replicate, zaj, zak, loadOp, Go.Abs.loadCells, binV, zal, pickV, zam, zan, zao, zap, zaq, zar, zas, zat, zau, outR, resAll, resOne, zav, zaw, zax, zay, zaz, zba, zbb, zbc, zbd, zbe, zbf, zbg, zbh, zbi, zbj, zbk, storeOp, storeCell, overlay, zbl, zbm, zbn, lookupOp, keyT, okRes, mapUpdateOp, zbo, zbp, zbq, zbr, zbs, zbt, zbu, Nat.reduceSub, Nat.reduceAdd, Int.reduceLT, Int.reduceLE, Int.reduceAdd, Int.reduceSub, Int.reduceToNat, Int.reduceBEq, Int.reduceBNe, Int.reduceMul, Nat.reduceBEq, Nat.reduceBNe, Nat.reduceLT, Nat.reduceLeDiff, Nat.reduceMul, Nat.reduceEqDiff, WD, effB, effH, isPriv, isHeap, isImm, zbx, zby, zbz, chkO, setD, dslot, zca, zcb, zcc, zcd, ptrCells_some, F49, e6, buildOp, fillV, Lay.place, Bool.or_self, Bool.or_false, Bool.false_or, decide_not, ne_eq, not_true_eq_false, decide_eq_true_eq, Nat.lt_irrefl, repL_shut, repL_ok, repL_cells, repL_width, q1, q2, q3]
  exact ⟨_, rfl, ⟨y5, rfl, (hO5.mov (by have := hR4.lt; omega) g6).weaken (by have := hf4.1; omega)⟩, hf5.trans g6, hR6⟩
theorem allH48 {H : Hp} {w nb : Nat} {x : V} {L : List Nat} {s : S} (hnb : nb ≤ H.length) (hwnb : w < nb)
    (hR : Rr H w x L s) (hL : ∀ y ∈ L, y < 256) (hlen : L.length ≤ 5000000) :
    wpCall EW 48 [.ptr w 0 0, .fn 49 [.ptr w 0 0] []] H (fun out H' => ∃ y, out = .ret y false ∧ Ff w H H' ∧ Rr H' w x L (allS L (fnS L) s).2 ∧ ∃ vs, Own H' H.length y vs ∧ All2 (VH H' nb) vs (allS L (fnS L) s).1) := by
  have hcl := count_le hR.o
  have hwl := hR.lt
  refine runs f48 b48 r48 n48 _ _ ?_
  simp only [bodyOf, Tryd.f48, Option.getD_some]
  simp only [WW, partV, eqCells, eqLf, minV, maxV, ifcV, zaa, zab, zac, zad, zae, zaf, zag, zah, zai, ofConst, ofConst1, List.replicate, zaj, zak, loadOp, Go.Abs.loadCells, binV, zal, pickV, zam, zan, zao, zap, zaq, zar, zas, zat, zau, outR, resAll, resOne, zav, zaw, zax, zay, zaz, zba, zbb, zbc, zbd, zbe, zbf, zbg, zbh, zbi, zbj, zbk, storeOp, storeCell, overlay, zbl, zbm, zbn, lookupOp, keyT, okRes, mapUpdateOp, zbo, zbp, zbq, zbr, zbs, zbt, zbu, Nat.reduceSub, Nat.reduceAdd, Int.reduceLT, Int.reduceLE, Int.reduceAdd, Int.reduceSub, Int.reduceToNat, Int.reduceBEq, Int.reduceBNe, Int.reduceMul, Nat.reduceBEq, Nat.reduceBNe, Nat.reduceLT, Nat.reduceLeDiff, Nat.reduceMul, Nat.reduceEqDiff, WD, effB, effH, isPriv, isHeap, isImm, zbx, zby, zbz, chkO, setD, dslot, zca, zcb, zcc, zcd, ptrCells_some, F48]
  refine wpCall_of (countR hR hL hlen) ?_
  rintro out H0 ⟨rfl, hf0, hR0⟩
  simp only [WW, partV, eqCells, eqLf, minV, maxV, ifcV, zaa, zab, zac, zad, zae, zaf, zag, zah, zai, ofConst, ofConst1, List.replicate, zaj, zak, loadOp, Go.Abs.loadCells, binV, zal, pickV, zam, zan, zao, zap, zaq, zar, zas, zat, zau, outR, resAll, resOne, zav, zaw, zax, zay, zaz, zba, zbb, zbc, zbd, zbe, zbf, zbg, zbh, zbi, zbj, zbk, storeOp, storeCell, overlay, zbl, zbm, zbn, lookupOp, keyT, okRes, mapUpdateOp, zbo, zbp, zbq, zbr, zbs, zbt, zbu, Nat.reduceSub, Nat.reduceAdd, Int.reduceLT, Int.reduceLE, Int.reduceAdd, Int.reduceSub, Int.reduceToNat, Int.reduceBEq, Int.reduceBNe, Int.reduceMul, Nat.reduceBEq, Nat.reduceBNe, Nat.reduceLT, Nat.reduceLeDiff, Nat.reduceMul, Nat.reduceEqDiff, WD, effB, effH, isPriv, isHeap, isImm, zbx, zby, zbz, chkO, setD, dslot, zca, zcb, zcc, zcd, ptrCells_some, F48]
  refine wC_loop _ (fun k st' H' => ∃ (n : Nat) (s1 : S) (acc : List FnM) (vs : List V) (y : V), st' = ⟨L48_3 (.v (.ptr w 0 0)) (.v (.fn 49 [.ptr w 0 0] [])) (.v y) (.v (.int .i64 n)), [], []⟩ ∧ k = n ∧ Ff w H H' ∧ Rr H' w x L s1 ∧ Own H' H.length y vs ∧ All2 (VH H' nb) vs acc ∧ acc ++ (allG (fnS L) n s1).1 = (allS L (fnS L) s).1 ∧ (allG (fnS L) n s1).2 = (allS L (fnS L) s).2 ∧ acc.length + n ≤ 5000000) (count L s).1 ⟨(count L s).1, (count L s).2, [], [], .nils, ?_, rfl, hf0, hR0, .inl ⟨rfl, rfl⟩, .nil, rfl, rfl, by simp only [List.length_nil]; omega⟩ ?_
  · simp only [WN, firstReg, growAll, zbv, zbw, norm, killS, zag, zah, zaa, zab, zbl, zat, zad, growOne, zae, zaf, zac, zas, zak, Nat.reduceLT, Nat.reduceAdd, zbj, zav, F48, L48_3]
  · rintro k st' H' ⟨n, s1, acc, vs, y, rfl, rfl, hf, hR', hO, hA, hl1, hl2, hle⟩
    simp only [L48_3]
    have hb := hR'.b
    simp only [rdr] at hb
    cases k with
    | zero =>
      have g0 : decide ((0 : Int) < ((0 : Nat) : Int)) = false := rfl
      simp only [allG, List.append_nil] at hl1 hl2
      simp only [WW, partV, eqCells, eqLf, minV, maxV, ifcV, zaa, zab, zac, zad, zae, zaf, zag, zah, zai, ofConst, ofConst1, List.replicate, zaj, zak, loadOp, Go.Abs.loadCells, binV, zal, pickV, zam, zan, zao, zap, zaq, zar, zas, zat, zau, outR, resAll, resOne, zav, zaw, zax, zay, zaz, zba, zbb, zbc, zbd, zbe, zbf, zbg, zbh, zbi, zbj, zbk, storeOp, storeCell, overlay, zbl, zbm, zbn, lookupOp, keyT, okRes, mapUpdateOp, zbo, zbp, zbq, zbr, zbs, zbt, zbu, Nat.reduceSub, Nat.reduceAdd, Int.reduceLT, Int.reduceLE, Int.reduceAdd, Int.reduceSub, Int.reduceToNat, Int.reduceBEq, Int.reduceBNe, Int.reduceMul, Nat.reduceBEq, Nat.reduceBNe, Nat.reduceLT, Nat.reduceLeDiff, Nat.reduceMul, Nat.reduceEqDiff, WD, effB, effH, isPriv, isHeap, isImm, zbx, zby, zbz, chkO, setD, dslot, zca, zcb, zcc, zcd, ptrCells_some, F48, g0, hO.shut, hO.grows]
      rw [← hl2, ← hl1]
      exact ⟨y, rfl, hf, hR', vs, hO, hA⟩
    | succ n =>
      have g1 : decide ((0 : Int) < ((n + 1 : Nat) : Int)) = true := decide_eq_true (by omega)
      cases he : s1.e with
      | succ e1 =>
        rw [he] at hb
        have g2 : (((e1 + 1 : Nat) : Int) == 0) = false := by rw [beq_eq_false_iff_ne]; omega
        simp only [allG, he, List.append_nil] at hl1 hl2
        simp only [WW, partV, eqCells, eqLf, minV, maxV, ifcV, zaa, zab, zac, zad, zae, zaf, zag, zah, zai, ofConst, ofConst1, List.replicate, zaj, zak, loadOp, Go.Abs.loadCells, binV, zal, pickV, zam, zan, zao, zap, zaq, zar, zas, zat, zau, outR, resAll, resOne, zav, zaw, zax, zay, zaz, zba, zbb, zbc, zbd, zbe, zbf, zbg, zbh, zbi, zbj, zbk, storeOp, storeCell, overlay, zbl, zbm, zbn, lookupOp, keyT, okRes, mapUpdateOp, zbo, zbp, zbq, zbr, zbs, zbt, zbu, Nat.reduceSub, Nat.reduceAdd, Int.reduceLT, Int.reduceLE, Int.reduceAdd, Int.reduceSub, Int.reduceToNat, Int.reduceBEq, Int.reduceBNe, Int.reduceMul, Nat.reduceBEq, Nat.reduceBNe, Nat.reduceLT, Nat.reduceLeDiff, Nat.reduceMul, Nat.reduceEqDiff, WD, effB, effH, isPriv, isHeap, isImm, zbx, zby, zbz, chkO, setD, dslot, zca, zcb, zcc, zcd, ptrCells_some, F48, g1, g2, hb, hO.shut, hO.grows]
        rw [← hl2, ← hl1]
        exact ⟨y, rfl, hf, hR', vs, hO, hA⟩
      | zero =>
        rw [he] at hb
        have g2 : (((0 : Nat) : Int) == 0) = true := rfl
        simp only [allG, he] at hl1 hl2
        simp only [WW, partV, eqCells, eqLf, minV, maxV, ifcV, zaa, zab, zac, zad, zae, zaf, zag, zah, zai, ofConst, ofConst1, List.replicate, zaj, zak, loadOp, Go.Abs.loadCells, binV, zal, pickV, zam, zan, zao, zap, zaq, zar, zas, zat, zau, outR, resAll, resOne, zav, zaw, zax, zay, zaz, zba, zbb, zbc, zbd, zbe, zbf, zbg, zbh, zbi, zbj, zbk, storeOp, storeCell, overlay, zbl, zbm, zbn, lookupOp, keyT, okRes, mapUpdateOp, zbo, zbp, zbq, zbr, zbs, zbt, zbu, Nat.reduceSub, Nat.reduceAdd, Int.reduceLT, Int.reduceLE, Int.reduceAdd, Int.reduceSub, Int.reduceToNat, Int.reduceBEq, Int.reduceBNe, Int.reduceMul, Nat.reduceBEq, Nat.reduceBNe, Nat.reduceLT, Nat.reduceLeDiff, Nat.reduceMul, Nat.reduceEqDiff, WD, effB, effH, isPriv, isHeap, isImm, zbx, zby, zbz, chkO, setD, dslot, zca, zcb, zcc, zcd, ptrCells_some, F48, g1, g2, hb]
        refine ⟨call49, wpCall_of (function49H (nb := nb) (by have := hf.1; omega) hR' hL hlen) ?_⟩
        rintro out H2 ⟨v, rfl, hV, hf2, hR2⟩
        have hO2 := hO.mov hwl hf2
        have hA2 : All2 (VH H2 nb) vs acc := All2.imp (fun v c h => h.mov hwnb hf2) hA
        have hwd := hA2.wide
        have hvl := hA.len
        obtain ⟨y3, H3, ha, hO3, hl3, hk3⟩ := own_app2 (d := some 24) (e := 50) (v := v) size50 hO2 (by have := (hf.trans hf2).1; omega) hV.width hwd (by rw [room50]; simp; omega)
        have hk4 : ∀ i, i < H.length → H3[i]? = H2[i]? := fun i hi => hk3 i (by have := (hf.trans hf2).1; omega) (by
          rintro rfl
          rcases hO2 with ⟨h, _⟩ | ⟨q, h, b2, _⟩
          · cases h
          · cases h; omega)
        have hA3 : All2 (VH H3 nb) (vs ++ [v]) (acc ++ [(fnS L s1).1]) := All2.app (hV.away hO2 hwd hk3) (All2.imp (fun v c h => h.away hO2 hwd hk3) hA2)
        have hrs := hV.shut
        have hro := hV.ok
        have hrc : v.cells.length = 6 := hV.width
        have hrw := hV.width
        have hsub : IntKind.i64.wrap (((n + 1 : Nat) : Int) - 1) = (n : Int) := by rw [IntWalk.i64_in _ (by omega)]; omega
        have hsp : ∀ H, sealH .priv v H = (v, H) := fun _ => rfl
        simp only [WW, partV, eqCells, eqLf, minV, maxV, ifcV, zaa, zab, zac, zad, zae, zaf, zag, zah, zai, ofConst, ofConst1, List.replicate, zaj, zak, loadOp, Go.Abs.loadCells, binV, zal, pickV, zam, zan, zao, zap, zaq, zar, zas, zat, zau, outR, resAll, resOne, zav, zaw, zax, zay, zaz, zba, zbb, zbc, zbd, zbe, zbf, zbg, zbh, zbi, zbj, zbk, storeOp, storeCell, overlay, zbl, zbm, zbn, lookupOp, keyT, okRes, mapUpdateOp, zbo, zbp, zbq, zbr, zbs, zbt, zbu, Nat.reduceSub, Nat.reduceAdd, Int.reduceLT, Int.reduceLE, Int.reduceAdd, Int.reduceSub, Int.reduceToNat, Int.reduceBEq, Int.reduceBNe, Int.reduceMul, Nat.reduceBEq, Nat.reduceBNe, Nat.reduceLT, Nat.reduceLeDiff, Nat.reduceMul, Nat.reduceEqDiff, WD, effB, effH, isPriv, isHeap, isImm, zbx, zby, zbz, chkO, setD, dslot, zca, zcb, zcc, zcd, ptrCells_some, F48, hsp, hrs, hro, hrw, hrc, buildSliceV, lits, srcV_eq, srcK_sl, srcK_str, srcSl_nils, srcSl_rsl, srcSl_sl, frow, zbv, zbw, List.all_nil, List.all_cons, rowV, Bool.false_and, Bool.and_false, ne_eq, not_false_eq_true, grows_lr, callOut_t, hO.shut, hO2.shut, ha, hsub]
        have hf3 : Ff w H H3 := ⟨by have := (hf.trans hf2).1; omega, fun i h1 h2 => by rw [hk4 i h1]; exact (hf.trans hf2).2 i h1 h2⟩
        refine ⟨n, by omega, n, (fnS L s1).2, acc ++ [(fnS L s1).1], vs ++ [v], y3, ?_, rfl, hf3, ?_, hO3, hA3, by rw [List.append_assoc]; exact hl1, hl2, by simp; omega⟩
        · simp only [WN, firstReg, growAll, zbv, zbw, norm, killS, zag, zah, zaa, zab, zbl, zat, zad, growOne, zae, zaf, zac, zas, zak, Nat.reduceLT, Nat.reduceAdd, zbj, zav, F48, hO3.clip2, hsub]
          try rfl
        · exact ⟨by rw [hk4 w hwl]; exact hR2.b, fun H4 h4 => hR.r H4 (hf3.trans h4), hR2.o⟩
end Go.Proofs.YtgjobbmbbedecaaDoor

/- Plain law: what is told is read as it was. -/
namespace Go.Proofs.YtgjobbmbbedecaaDoor
open Go Go.Abs Go.Proofs
set_option maxRecDepth 100000
set_option maxHeartbeats 2000000
set_option linter.unusedVariables false
set_option linter.unusedSimpArgs false
theorem drop_head {L R : List Nat} {p x : Nat} (h : L.drop p = x :: R) : L[p]? = some x ∧ L.drop (p + 1) = R := by
  refine ⟨?_, ?_⟩
  · have := congrArg (fun l => l[0]?) h
    simpa using this
  · rw [← List.drop_drop, h]; rfl
theorem drop_len {L A R : List Nat} {p : Nat} (h : L.drop p = A ++ R) : L.drop (p + A.length) = R := by
  rw [← List.drop_drop, h, List.drop_left]
theorem drop_le {L A R : List Nat} {p : Nat} (h : L.drop p = A ++ R) (ha : 0 < A.length) : p + A.length + R.length = L.length := by
  have := congrArg List.length h
  simp only [List.length_drop, List.length_append] at this
  omega
theorem numG_enc {L : List Nat} : ∀ (k i v m p : Nat) (R : List Nat), i + k = 9 → L.drop p = encN m ++ R → v + m * 2 ^ (7 * i) ≤ 4611686018427387903 → (0 < i → 0 < m) → numG L k i v p = (v + m * 2 ^ (7 * i), ⟨p + (encN m).length, 0⟩)
  | 0, i, v, m, p, R, hk, hd, hle, hpos => by
    exfalso
    have hi : i = 9 := by omega
    subst hi
    have := hpos (by omega)
    have e : (2 : Nat) ^ (7 * 9) = 9223372036854775808 := by decide
    rw [e] at hle
    have : 1 * 9223372036854775808 ≤ m * 9223372036854775808 := Nat.mul_le_mul_right _ this
    omega
  | k + 1, i, v, m, p, R, hk, hd, hle, hpos => by
    have h8 : i = 8 → m < 64 := fun h => by
      subst h
      have e : (2 : Nat) ^ (7 * 8) = 72057594037927936 := by decide
      rw [e] at hle
      omega
    unfold numG
    by_cases hm : m < 128
    · rw [encN_small hm] at hd ⊢
      obtain ⟨h1, h2⟩ := drop_head hd
      have hb : badN i m = false := by
        simp only [badN, Bool.or_eq_false_iff, Bool.and_eq_false_iff, decide_eq_false_iff_not]
        refine ⟨?_, ?_⟩
        · by_cases h0 : 0 < i
          · exact .inr (by have := hpos h0; omega)
          · exact .inl h0
        · by_cases h0 : i = 8
          · exact .inr (by have := h8 h0; omega)
          · exact .inl h0
      rw [h1]
      simp only [hb, decide_eq_true hm]
      rw [Nat.mod_eq_of_lt hm]; rfl
    · rw [encN_big hm] at hd ⊢
      obtain ⟨h1, h2⟩ := drop_head hd
      have hb : badN i (128 + m % 128) = false := by
        simp only [badN, Bool.or_eq_false_iff, Bool.and_eq_false_iff, decide_eq_false_iff_not]
        refine ⟨.inr (by omega), ?_⟩
        by_cases h0 : i = 8
        · have := h8 h0; omega
        · exact .inl h0
      have hx : decide (128 + m % 128 < 128) = false := decide_eq_false (by omega)
      have e7 : 2 ^ (7 * (i + 1)) = 2 ^ (7 * i) * 128 := by rw [Nat.mul_add, Nat.pow_add]
      have em : (128 + m % 128) % 128 = m % 128 := by omega
      have etot : v + m % 128 * 2 ^ (7 * i) + m / 128 * 2 ^ (7 * (i + 1)) = v + m * 2 ^ (7 * i) := by
        have : m * 2 ^ (7 * i) = m % 128 * 2 ^ (7 * i) + m / 128 * 2 ^ (7 * (i + 1)) := by
          rw [e7, Nat.mul_comm (2 ^ (7 * i)) 128, ← Nat.mul_assoc, ← Nat.add_mul]
          congr 1; omega
        omega
      rw [h1]
      simp only [hb, hx, em]
      rw [numG_enc k (i + 1) _ (m / 128) (p + 1) R (by omega) h2 (by omega) (fun _ => by omega), etot, List.length_cons]
      congr 2; omega
theorem num_enc {L : List Nat} {n p : Nat} {R : List Nat} (hn : n ≤ 4611686018427387903) (hd : L.drop p = encN n ++ R) : num L ⟨p, 0⟩ = (n, ⟨p + (encN n).length, 0⟩) := by
  have := numG_enc 9 0 0 n p R rfl hd (by simpa using hn) (fun h => absurd h (by omega))
  simpa [num] using this
theorem encN_pos (n : Nat) : 0 < (encN n).length := by
  by_cases h : n < 128
  · rw [encN_small h]; simp
  · rw [encN_big h]; simp
theorem encI_pos (n : Int) : 0 < (encI n).length := encN_pos _
theorem count_enc {L : List Nat} {n p : Nat} {R : List Nat} (hn : n ≤ R.length) (hl : L.length ≤ 4000000000) (hd : L.drop p = encN n ++ R) : count L ⟨p, 0⟩ = (n, ⟨p + (encN n).length, 0⟩) := by
  have hle := drop_le hd (encN_pos n)
  unfold count
  rw [num_enc (by omega) hd]
  unfold countOf
  have : decide (L.length - (p + (encN n).length) < n) = false := decide_eq_false (by omega)
  simp only [this]
theorem allG_enc {α : Type} {L : List Nat} {f : S → α × S} {enc : α → List Nat} : ∀ (l : List α) (p : Nat) (R : List Nat), (∀ a ∈ l, ∀ p R, L.drop p = enc a ++ R → f ⟨p, 0⟩ = (a, ⟨p + (enc a).length, 0⟩)) → L.drop p = l.flatMap enc ++ R → allG f l.length ⟨p, 0⟩ = (l, ⟨p + (l.flatMap enc).length, 0⟩)
  | [], p, R, _, _ => by simp [allG]
  | a :: l, p, R, hA, hd => by
    rw [List.flatMap_cons, List.append_assoc] at hd
    have h1 := hA a (List.mem_cons_self ..) p _ hd
    have h2 := allG_enc l _ R (fun b hb => hA b (List.mem_cons_of_mem _ hb)) (drop_len hd)
    simp only [List.length_cons, allG, h1, h2, List.flatMap_cons, List.length_append]
    congr 2; omega
theorem flat_ge {α : Type} {enc : α → List Nat} (hp : ∀ a, 0 < (enc a).length) : ∀ l : List α, l.length ≤ (l.flatMap enc).length
  | [] => by simp
  | a :: l => by
    have := flat_ge hp l
    have := hp a
    simp only [List.flatMap_cons, List.length_append, List.length_cons]; omega
theorem allS_enc {α : Type} {L : List Nat} {f : S → α × S} {enc : α → List Nat} (hp : ∀ a, 0 < (enc a).length) (hl : L.length ≤ 4000000000) {l : List α} {p : Nat} {R : List Nat} (hA : ∀ a ∈ l, ∀ p R, L.drop p = enc a ++ R → f ⟨p, 0⟩ = (a, ⟨p + (enc a).length, 0⟩)) (hd : L.drop p = encL enc l ++ R) : allS L f ⟨p, 0⟩ = (l, ⟨p + (encL enc l).length, 0⟩) := by
  unfold encL at hd ⊢
  rw [List.append_assoc] at hd
  unfold allS
  have hge := flat_ge hp l
  rw [count_enc (by rw [List.length_append]; omega) hl hd]
  simp only
  rw [allG_enc l _ R hA (drop_len hd), List.length_append, Nat.add_assoc]
theorem encL_pos {α : Type} (f : α → List Nat) (l : List α) : 0 < (encL f l).length := by
  have := encN_pos l.length
  simp only [encL, List.length_append]; omega
section
variable {L : List Nat}
theorem int_enc {n : Int} (h : plain n = true) {p : Nat} {R : List Nat} (hd : L.drop p = encI n ++ R) : num L ⟨p, 0⟩ = (n.toNat, ⟨p + (encI n).length, 0⟩) ∧ ((n.toNat : Nat) : Int) = n := by
  obtain ⟨h1, h2⟩ := plain_iff.1 h
  exact ⟨num_enc (by omega) hd, by omega⟩
theorem intS_enc {n : Int} (h : plain n = true) (p : Nat) (R : List Nat) (hd : L.drop p = encI n ++ R) : intS L ⟨p, 0⟩ = (n, ⟨p + (encI n).length, 0⟩) := by
  obtain ⟨h1, h2⟩ := int_enc h hd
  simp only [intS, natI, h1, h2]
theorem unzz_zz (z : Int) : unzz (zz z).toNat = z := by
  unfold unzz zz
  split
  · have : (-2 * z - 1).toNat % 2 = 1 := by omega
    rw [if_pos this]; omega
  · have : ¬ (2 * z).toNat % 2 = 1 := by omega
    rw [if_neg this]; omega
theorem sgn_enc {z : Int} (h : signedOk z = true) {p : Nat} {R : List Nat} (hd : L.drop p = encZ z ++ R) : sgn L ⟨p, 0⟩ = (z, ⟨p + (encZ z).length, 0⟩) := by
  obtain ⟨h1, h2⟩ := int_enc (zz_plain h) hd
  simp only [sgn, h1, unzz_zz]; rfl
theorem capS_enc {a : Int × Int} (h : capOk a = true) (p : Nat) (R : List Nat) (hd : L.drop p = encCap a ++ R) : capS L ⟨p, 0⟩ = (a, ⟨p + (encCap a).length, 0⟩) := by
  simp only [capOk, Bool.and_eq_true] at h
  unfold encCap at hd ⊢
  rw [List.append_assoc] at hd
  obtain ⟨h1, e1⟩ := int_enc h.1 hd
  obtain ⟨h2, e2⟩ := int_enc h.2 (drop_len hd)
  simp only [capS, h1, h2, e1, e2, List.length_append, Nat.add_assoc]
theorem insS_enc {a : Int × Int × Int} (h : inOk a = true) (p : Nat) (R : List Nat) (hd : L.drop p = encIn a ++ R) : insS L ⟨p, 0⟩ = (a, ⟨p + (encIn a).length, 0⟩) := by
  simp only [inOk, Bool.and_eq_true] at h
  unfold encIn at hd ⊢
  simp only [List.append_assoc] at hd
  obtain ⟨h1, e1⟩ := int_enc h.1 hd
  have d2 := drop_len hd
  have h2 := sgn_enc h.2.1 d2
  have h3 := sgn_enc h.2.2 (drop_len d2)
  simp only [insS, h1, h2, h3, e1]
  simp only [List.length_append, Nat.add_assoc]
theorem tryS_enc {a : Int × Int × Int × Int} (h : tryOk a = true) (p : Nat) (R : List Nat) (hd : L.drop p = encTry a ++ R) : tryS L ⟨p, 0⟩ = (a, ⟨p + (encTry a).length, 0⟩) := by
  simp only [tryOk, Bool.and_eq_true] at h
  unfold encTry at hd ⊢
  simp only [List.append_assoc] at hd
  obtain ⟨h1, e1⟩ := int_enc h.1 hd
  have d2 := drop_len hd
  obtain ⟨h2, e2⟩ := int_enc h.2.1 d2
  have d3 := drop_len d2
  obtain ⟨h3, e3⟩ := int_enc h.2.2.1 d3
  obtain ⟨h4, e4⟩ := int_enc h.2.2.2 (drop_len d3)
  simp only [tryS, h1, h2, h3, h4, e1, e2, e3, e4]
  simp only [List.length_append, Nat.add_assoc]
theorem encCap_pos (a : Int × Int) : 0 < (encCap a).length := by have := encI_pos a.1; simp only [encCap, List.length_append]; omega
theorem encIn_pos (a : Int × Int × Int) : 0 < (encIn a).length := by have := encI_pos a.1; simp only [encIn, List.length_append]; omega
theorem encTry_pos (a : Int × Int × Int × Int) : 0 < (encTry a).length := by have := encI_pos a.1; simp only [encTry, List.length_append]; omega
theorem encFn_pos (c : FnM) : 0 < (encFn c).length := by have := encI_pos c.params; simp only [encFn, List.length_append]; omega
theorem encS_pos (s : ByteArray) : 0 < (encS s).length := by have := encN_pos s.size; simp only [encS, List.length_append]; omega
theorem keysS_enc (hl : L.length ≤ 4000000000) {k : List Int} (h : k.all plain = true) (p : Nat) (R : List Nat) (hd : L.drop p = encL encI k ++ R) : keysS L ⟨p, 0⟩ = (k, ⟨p + (encL encI k).length, 0⟩) :=
  allS_enc encI_pos hl (fun a ha p R hd => intS_enc (all_mem h ha) p R hd) hd
theorem fnS_enc (hl : L.length ≤ 4000000000) {c : FnM} (h : fnOk c = true) (p : Nat) (R : List Nat) (hd : L.drop p = encFn c ++ R) : fnS L ⟨p, 0⟩ = (c, ⟨p + (encFn c).length, 0⟩) := by
  simp only [fnOk, Bool.and_eq_true] at h
  obtain ⟨o1, o2, o3, o4, o5, o6⟩ := h
  unfold encFn at hd ⊢
  simp only [List.append_assoc] at hd
  obtain ⟨h1, e1⟩ := int_enc o1 hd
  have d2 := drop_len hd
  obtain ⟨h2, e2⟩ := int_enc o2 d2
  have d3 := drop_len d2
  have h3 := allS_enc (f := intS L) encI_pos hl (fun a ha p R hd => intS_enc (all_mem o3 ha) p R hd) d3
  have d4 := drop_len d3
  have h4 := allS_enc (f := capS L) encCap_pos hl (fun a ha p R hd => capS_enc (all_mem o4 ha) p R hd) d4
  have d5 := drop_len d4
  have h5 := allS_enc (f := insS L) encIn_pos hl (fun a ha p R hd => insS_enc (all_mem o5 ha) p R hd) d5
  have h6 := allS_enc (f := tryS L) encTry_pos hl (fun a ha p R hd => tryS_enc (all_mem o6 ha) p R hd) (drop_len d5)
  simp only [fnS, h1, h2, h3, h4, h5, h6, e1, e2]
  simp only [List.length_append, Nat.add_assoc]
theorem strL_strB (s : ByteArray) : strL (strB s) = s := by
  unfold strL strB
  rw [List.map_map]
  have : (UInt8.ofNat ∘ fun (x : UInt8) => x.toNat) = id := by funext x; simp
  rw [this, List.map_id]
theorem textS_enc (hl : L.length ≤ 4000000000) {s : ByteArray} (p : Nat) (R : List Nat) (hd : L.drop p = encS s ++ R) : textS L ⟨p, 0⟩ = (s, ⟨p + (encS s).length, 0⟩) := by
  unfold encS at hd ⊢
  rw [List.append_assoc] at hd
  have hc := count_enc (n := s.size) (by rw [List.length_append, strB_len]; omega) hl hd
  have d2 := drop_len hd
  simp only [textS, hc, d2]
  have : (strB s ++ R).take s.size = strB s := by rw [← strB_len, List.take_left]
  rw [this, strL_strB, List.length_append, strB_len, Nat.add_assoc]
theorem magG_enc (ms R : List Nat) : ∀ p, magG ms (ms ++ R) p = ⟨p + ms.length, 0⟩ := by
  induction ms with
  | nil => intro p; rfl
  | cons m ms ih =>
    intro p
    simp only [List.cons_append, magG, if_true, ih, List.length_cons]
    congr 1; omega
theorem imgS_enc {im : ImM} (h : imOk im = true) {R : List Nat} (hL : L = encIm im ++ R) (hl : L.length ≤ 4000000000) : imgS L (magG magicB L 0) = (im, ⟨(encIm im).length, 0⟩) := by
  simp only [imOk, Bool.and_eq_true] at h
  obtain ⟨o1, o2, o3⟩ := h
  have hm : magG magicB L 0 = ⟨magicB.length, 0⟩ := by
    rw [hL, encIm, List.append_assoc, magG_enc, Nat.zero_add]
  have hd : L.drop magicB.length = encL encS im.strs ++ (encL (encL encI) im.keys ++ (encI im.globals ++ (encL encFn im.funs ++ R))) := by
    rw [hL, encIm]
    simp only [List.append_assoc]
    exact List.drop_left
  rw [hm]
  have h1 := allS_enc (f := textS L) encS_pos hl (fun a ha p R hd => textS_enc hl p R hd) hd
  have d2 := drop_len hd
  have h2 := allS_enc (f := keysS L) (encL_pos encI) hl (fun a ha p R hd => keysS_enc hl (all_mem o1 ha) p R hd) d2
  have d3 := drop_len d2
  obtain ⟨h3, e3⟩ := int_enc o2 d3
  have h4 := allS_enc (f := fnS L) encFn_pos hl (fun a ha p R hd => fnS_enc hl (all_mem o3 ha) p R hd) (drop_len d3)
  simp only [imgS, h1, h2, h3, h4, e3]
  simp only [encIm, List.length_append, Nat.add_assoc]
end
theorem decS_enc {im : ImM} (h : imOk im = true) (hl : (encIm im).length ≤ 4000000000) : decS (encIm im) = (im, ⟨(encIm im).length, 0⟩) := by
  have hi := imgS_enc h (List.append_nil (encIm im)).symm hl
  unfold decS
  rw [hi]
  simp only [endS, Nat.lt_irrefl, if_false]
/-- One byte more -/
theorem decS_more {im : ImM} (h : imOk im = true) (m : Nat) (hl : (encIm im).length ≤ 3000000000) : (decS (encIm im ++ [m])).2 = ⟨(encIm im).length, 6⟩ := by
  have hi := imgS_enc h (L := encIm im ++ [m]) (R := [m]) rfl (by rw [List.length_append]; simp; omega)
  unfold decS
  rw [hi]
  simp only [endS, List.length_append, List.length_singleton]
  rw [if_pos (by omega)]
end Go.Proofs.YtgjobbmbbedecaaDoor

/- Plain law: what is read is told by the same bytes. -/
namespace Go.Proofs.YtgjobbmbbedecaaDoor
open Go Go.Abs Go.Proofs
set_option maxRecDepth 100000
set_option maxHeartbeats 2000000
set_option linter.unusedVariables false
set_option linter.unusedSimpArgs false
section
variable {L : List Nat}
/-! a fault stays -/
theorem num_e {s : S} (h : (num L s).2.e = 0) : s.e = 0 := by
  unfold num at h
  cases he : s.e with
  | zero => rfl
  | succ e => rw [he] at h; simp only at h; rw [he] at h; cases h
theorem failS_e {s : S} {e p : Nat} (h : (failS s (e + 1) p).e = 0) : False := by
  unfold failS at h
  cases he : s.e with
  | zero => rw [he] at h; cases h
  | succ e => rw [he] at h; simp only at h; rw [he] at h; cases h
theorem countOf_e {p : Nat} {r : Nat × S} (h : (countOf L p r).2.e = 0) : r.2.e = 0 ∧ countOf L p r = r ∧ r.1 ≤ L.length - r.2.at_ := by
  unfold countOf at h ⊢
  cases hd : decide (L.length - r.2.at_ < r.1) with
  | true => rw [hd] at h; exact (failS_e h).elim
  | false =>
    have := of_decide_eq_false hd
    rw [hd] at h
    simp only at h ⊢
    cases he : r.2.e with
    | zero => exact ⟨rfl, rfl, by omega⟩
    | succ e => rw [he] at h; simp only at h; rw [he] at h; cases h
theorem count_e {s : S} (h : (count L s).2.e = 0) : (num L s).2.e = 0 ∧ count L s = num L s ∧ (num L s).1 ≤ L.length - (num L s).2.at_ := countOf_e h
theorem allG_e {α : Type} {f : S → α × S} (hf : ∀ s, (f s).2.e = 0 → s.e = 0) : ∀ (n : Nat) (s : S), (allG f n s).2.e = 0 → s.e = 0
  | 0, s, h => h
  | n + 1, s, h => by
    unfold allG at h
    cases he : s.e with
    | zero => rfl
    | succ e => rw [he] at h; simp only at h; rw [he] at h; cases h
theorem allS_e {α : Type} {f : S → α × S} (hf : ∀ s, (f s).2.e = 0 → s.e = 0) {s : S} (h : (allS L f s).2.e = 0) : s.e = 0 := num_e (count_e (allG_e hf _ _ h)).1
theorem intS_e (s : S) (h : (intS L s).2.e = 0) : s.e = 0 := num_e h
theorem sgn_e {s : S} (h : (sgn L s).2.e = 0) : s.e = 0 := num_e h
theorem capS_e (s : S) (h : (capS L s).2.e = 0) : s.e = 0 := num_e (num_e h)
theorem insS_e (s : S) (h : (insS L s).2.e = 0) : s.e = 0 := num_e (sgn_e (sgn_e h))
theorem tryS_e (s : S) (h : (tryS L s).2.e = 0) : s.e = 0 := num_e (num_e (num_e (num_e h)))
theorem keysS_e (s : S) (h : (keysS L s).2.e = 0) : s.e = 0 := allS_e intS_e h
theorem fnS_e (s : S) (h : (fnS L s).2.e = 0) : s.e = 0 := num_e (num_e (allS_e intS_e (allS_e capS_e (allS_e insS_e (allS_e tryS_e h)))))
theorem textS_e (s : S) (h : (textS L s).2.e = 0) : s.e = 0 := by
  unfold textS at h
  simp only at h
  cases he : (count L s).2.e with
  | zero => exact num_e (count_e he).1
  | succ e => rw [he] at h; simp only at h; rw [he] at h; cases h
/-! what was read is what is told -/
/-- From p on the bytes of a stand, ahead of where s is -/
def Can (L : List Nat) (p : Nat) (b : List Nat) (s : S) : Prop := L.drop p = b ++ L.drop s.at_
theorem numG_can (hL : ∀ x ∈ L, x < 256) : ∀ (k i v p : Nat), (numG L k i v p).2.e = 0 → ∃ m, (numG L k i v p).1 = v + m * 2 ^ (7 * i) ∧ Can L p (encN m) (numG L k i v p).2 ∧ (0 < i → 0 < m)
  | 0, i, v, p, h => by simp [numG] at h
  | k + 1, i, v, p, h => by
    unfold numG at h ⊢
    cases hx : L[p]? with
    | none => rw [hx] at h; cases h
    | some x =>
      rw [hx] at h
      have hlt := (List.getElem?_eq_some_iff.1 hx).1
      have hdp : L.drop p = x :: L.drop (p + 1) := by rw [List.drop_eq_getElem_cons hlt, (List.getElem?_eq_some_iff.1 hx).2]
      have hx256 := hL x (List.mem_of_getElem? hx)
      simp only at h ⊢
      cases hb : badN i x with
      | true => rw [hb] at h; cases h
      | false =>
        rw [hb] at h
        simp only at h ⊢
        have hx0 : 0 < i → x ≠ 0 := fun hi h0 => by
          simp only [badN, Bool.or_eq_false_iff, Bool.and_eq_false_iff, decide_eq_false_iff_not] at hb
          rcases hb.1 with h1 | h1
          · exact h1 hi
          · exact h1 h0
        cases hd : decide (x < 128) with
        | true =>
          have hx128 := of_decide_eq_true hd
          refine ⟨x, by simp only; rw [Nat.mod_eq_of_lt hx128], ?_, fun hi => by have := hx0 hi; omega⟩
          show L.drop p = encN x ++ L.drop (p + 1)
          rw [encN_small hx128, hdp]; rfl
        | false =>
          have hx128 := of_decide_eq_false hd
          rw [hd] at h
          simp only at h ⊢
          obtain ⟨m, h1, h2, h3⟩ := numG_can hL k (i + 1) _ (p + 1) h
          have hm := h3 (by omega)
          refine ⟨x % 128 + m * 128, ?_, ?_, fun _ => by omega⟩
          · rw [h1]
            have e7 : 2 ^ (7 * (i + 1)) = 2 ^ (7 * i) * 128 := by rw [Nat.mul_add, Nat.pow_add]
            rw [e7, Nat.add_mul, Nat.mul_comm (2 ^ (7 * i)) 128, Nat.mul_assoc, Nat.add_assoc]
          · unfold Can at h2 ⊢
            rw [encN_big (by omega), hdp, h2]
            have e1 : 128 + (x % 128 + m * 128) % 128 = x := by omega
            have e2 : (x % 128 + m * 128) / 128 = m := by omega
            rw [e1, e2]; rfl
theorem num_can (hL : ∀ x ∈ L, x < 256) {s : S} (h : (num L s).2.e = 0) : Can L s.at_ (encN (num L s).1) (num L s).2 := by
  have hs := num_e h
  unfold num at h ⊢
  rw [hs] at h ⊢
  simp only at h ⊢
  obtain ⟨m, h1, h2, _⟩ := numG_can hL 9 0 0 s.at_ h
  have : (numG L 9 0 0 s.at_).1 = m := by rw [h1]; simp
  rw [this]; exact h2
theorem Can.trans {p : Nat} {a b : List Nat} {s t : S} (h1 : Can L p a s) (h2 : Can L s.at_ b t) : Can L p (a ++ b) t := by
  unfold Can at *
  rw [h1, h2, List.append_assoc]
theorem plain_nat {n : Nat} (h : n ≤ 4611686018427387903) : plain (n : Int) = true ∧ encI (n : Int) = encN n := ⟨plain_iff.2 ⟨by omega, by omega⟩, rfl⟩
theorem int_can (hL : ∀ x ∈ L, x < 256) {s : S} (h : (num L s).2.e = 0) : plain ((num L s).1 : Int) = true ∧ Can L s.at_ (encI ((num L s).1 : Int)) (num L s).2 :=
  ⟨(plain_nat (num_lt hL s)).1, num_can hL h⟩
theorem sgn_can (hL : ∀ x ∈ L, x < 256) {s : S} (h : (sgn L s).2.e = 0) : signedOk (sgn L s).1 = true ∧ Can L s.at_ (encZ (sgn L s).1) (sgn L s).2 := by
  have h1 := num_can hL h
  have h2 := num_lt hL s
  have e : zz (sgn L s).1 = ((num L s).1 : Int) := by
    simp only [sgn, unzz]
    unfold zz
    split <;> split <;> omega
  refine ⟨?_, ?_⟩
  · rw [signed_iff]
    simp only [sgn, unzz]
    split <;> omega
  · rw [encZ, e]; exact h1
theorem count_can (hL : ∀ x ∈ L, x < 256) {s : S} (h : (count L s).2.e = 0) : Can L s.at_ (encN (count L s).1) (count L s).2 := by
  obtain ⟨h1, h2, _⟩ := count_e h
  rw [h2]; exact num_can hL h1
theorem allG_can {α : Type} {f : S → α × S} {enc : α → List Nat} {ok : α → Bool} (hf : ∀ s, (f s).2.e = 0 → s.e = 0) (hc : ∀ s, (f s).2.e = 0 → ok (f s).1 = true ∧ Can L s.at_ (enc (f s).1) (f s).2) : ∀ (n : Nat) (s : S), (allG f n s).2.e = 0 → (allG f n s).1.length = n ∧ (allG f n s).1.all ok = true ∧ Can L s.at_ ((allG f n s).1.flatMap enc) (allG f n s).2
  | 0, s, h => ⟨rfl, rfl, rfl⟩
  | n + 1, s, h => by
    have hs := allG_e hf _ _ h
    unfold allG at h ⊢
    rw [hs] at h ⊢
    simp only at h ⊢
    obtain ⟨h1, h2, h3⟩ := allG_can hf hc n (f s).2 h
    obtain ⟨h4, h5⟩ := hc s (allG_e hf _ _ h)
    refine ⟨by simp [h1], by simp [h4, h2], ?_⟩
    rw [List.flatMap_cons]
    exact h5.trans h3
theorem allS_can (hL : ∀ x ∈ L, x < 256) {α : Type} {f : S → α × S} {enc : α → List Nat} {ok : α → Bool} (hf : ∀ s, (f s).2.e = 0 → s.e = 0) (hc : ∀ s, (f s).2.e = 0 → ok (f s).1 = true ∧ Can L s.at_ (enc (f s).1) (f s).2) {s : S} (h : (allS L f s).2.e = 0) : (allS L f s).1.all ok = true ∧ Can L s.at_ (encL enc (allS L f s).1) (allS L f s).2 := by
  unfold allS at h ⊢
  have h0 := allG_e hf _ _ h
  obtain ⟨h1, h2, h3⟩ := allG_can hf hc _ _ h
  refine ⟨h2, ?_⟩
  unfold encL
  rw [h1]
  exact (count_can hL h0).trans h3
theorem intS_can (hL : ∀ x ∈ L, x < 256) (s : S) (h : (intS L s).2.e = 0) : plain (intS L s).1 = true ∧ Can L s.at_ (encI (intS L s).1) (intS L s).2 := int_can hL h
theorem capS_can (hL : ∀ x ∈ L, x < 256) (s : S) (h : (capS L s).2.e = 0) : capOk (capS L s).1 = true ∧ Can L s.at_ (encCap (capS L s).1) (capS L s).2 := by
  have h1 := num_e h
  obtain ⟨a1, a2⟩ := int_can hL h1
  obtain ⟨b1, b2⟩ := int_can hL (s := (num L s).2) h
  exact ⟨by simp only [capOk, capS, a1, b1, Bool.and_self], a2.trans b2⟩
theorem insS_can (hL : ∀ x ∈ L, x < 256) (s : S) (h : (insS L s).2.e = 0) : inOk (insS L s).1 = true ∧ Can L s.at_ (encIn (insS L s).1) (insS L s).2 := by
  have h2 := sgn_e (s := (sgn L (num L s).2).2) h
  have h1 := sgn_e (s := (num L s).2) h2
  obtain ⟨a1, a2⟩ := int_can hL h1
  obtain ⟨b1, b2⟩ := sgn_can hL h2
  obtain ⟨c1, c2⟩ := sgn_can hL (s := (sgn L (num L s).2).2) h
  exact ⟨by simp only [inOk, insS, a1, b1, c1, Bool.and_self], a2.trans (b2.trans c2)⟩
theorem tryS_can (hL : ∀ x ∈ L, x < 256) (s : S) (h : (tryS L s).2.e = 0) : tryOk (tryS L s).1 = true ∧ Can L s.at_ (encTry (tryS L s).1) (tryS L s).2 := by
  have h3 := num_e (s := (num L (num L (num L s).2).2).2) h
  have h2 := num_e (s := (num L (num L s).2).2) h3
  have h1 := num_e (s := (num L s).2) h2
  obtain ⟨a1, a2⟩ := int_can hL h1
  obtain ⟨b1, b2⟩ := int_can hL h2
  obtain ⟨c1, c2⟩ := int_can hL h3
  obtain ⟨d1, d2⟩ := int_can hL (s := (num L (num L (num L s).2).2).2) h
  exact ⟨by simp only [tryOk, tryS, a1, b1, c1, d1, Bool.and_self], a2.trans (b2.trans (c2.trans d2))⟩
theorem keysS_can (hL : ∀ x ∈ L, x < 256) (s : S) (h : (keysS L s).2.e = 0) : (keysS L s).1.all plain = true ∧ Can L s.at_ (encL encI (keysS L s).1) (keysS L s).2 := allS_can hL intS_e (intS_can hL) h
theorem fnS_can (hL : ∀ x ∈ L, x < 256) (s : S) (h : (fnS L s).2.e = 0) : fnOk (fnS L s).1 = true ∧ Can L s.at_ (encFn (fnS L s).1) (fnS L s).2 := by
  simp only [fnS] at h ⊢
  have h5 := allS_e tryS_e h
  have h4 := allS_e insS_e h5
  have h3 := allS_e capS_e h4
  have h2 := allS_e intS_e h3
  have h1 := num_e h2
  obtain ⟨a1, a2⟩ := int_can hL h1
  obtain ⟨b1, b2⟩ := int_can hL h2
  obtain ⟨c1, c2⟩ := allS_can hL intS_e (intS_can hL) h3
  obtain ⟨d1, d2⟩ := allS_can hL capS_e (capS_can hL) h4
  obtain ⟨e1, e2⟩ := allS_can hL insS_e (insS_can hL) h5
  obtain ⟨f1, f2⟩ := allS_can hL tryS_e (tryS_can hL) h
  exact ⟨by simp only [fnOk, a1, b1, c1, d1, e1, f1, Bool.and_self], a2.trans (b2.trans (c2.trans (d2.trans (e2.trans f2))))⟩
theorem strB_strL {l : List Nat} (h : ∀ x ∈ l, x < 256) : strB (strL l) = l := by
  unfold strB strL
  simp only [List.map_map]
  rw [show l.map ((fun (x : UInt8) => x.toNat) ∘ UInt8.ofNat) = l.map id from List.map_congr_left fun a ha => by
    have := h a ha
    simp [UInt8.toNat_ofNat, Nat.mod_eq_of_lt this]]
  simp
theorem strL_size (l : List Nat) : (strL l).size = l.length := by
  show (l.map UInt8.ofNat).toArray.size = _
  simp
theorem textS_can (hL : ∀ x ∈ L, x < 256) (s : S) (h : (textS L s).2.e = 0) : True ∧ Can L s.at_ (encS (textS L s).1) (textS L s).2 := by
  refine ⟨trivial, ?_⟩
  have h0 : (count L s).2.e = 0 := by
    unfold textS at h
    simp only at h
    cases he : (count L s).2.e with
    | zero => rfl
    | succ e => rw [he] at h; simp only at h; rw [he] at h; cases h
  have hc := count_can hL h0
  obtain ⟨h1, h2, h3⟩ := count_e h0
  rw [← h2] at h3
  unfold textS
  simp only [h0]
  have hlen : ((L.drop (count L s).2.at_).take (count L s).1).length = (count L s).1 := by rw [List.length_take, List.length_drop]; omega
  have hsub : ∀ x ∈ (L.drop (count L s).2.at_).take (count L s).1, x < 256 := fun x hx => hL x (List.mem_of_mem_drop (List.mem_of_mem_take hx))
  unfold encS
  rw [strL_size, hlen, strB_strL hsub]
  refine hc.trans ?_
  show L.drop _ = _ ++ L.drop ((count L s).2.at_ + (count L s).1)
  rw [← List.drop_drop, List.take_append_drop]
theorem magG_can : ∀ (ms xs : List Nat) (p : Nat), (magG ms xs p).e = 0 → ∃ ys, xs = ms ++ ys ∧ magG ms xs p = ⟨p + ms.length, 0⟩
  | [], xs, p, _ => ⟨xs, rfl, rfl⟩
  | m :: ms, [], p, h => by cases h
  | m :: ms, x :: xs, p, h => by
    unfold magG at h ⊢
    by_cases hx : x = m
    · rw [if_pos hx] at h ⊢
      obtain ⟨ys, h1, h2⟩ := magG_can ms xs (p + 1) h
      refine ⟨ys, by rw [hx, h1]; rfl, ?_⟩
      rw [h2, List.length_cons]; congr 1; omega
    · rw [if_neg hx] at h; cases h
theorem imgS_e {s : S} (h : (imgS L s).2.e = 0) : s.e = 0 := allS_e textS_e (allS_e keysS_e (num_e (allS_e fnS_e h)))
theorem imgS_can (hL : ∀ x ∈ L, x < 256) (h : (imgS L (magG magicB L 0)).2.e = 0) : imOk (imgS L (magG magicB L 0)).1 = true ∧ Can L 0 (encIm (imgS L (magG magicB L 0)).1) (imgS L (magG magicB L 0)).2 := by
  obtain ⟨ys, hL2, hm⟩ := magG_can magicB L 0 (imgS_e h)
  rw [hm] at h ⊢
  simp only [imgS] at h ⊢
  have h3 := allS_e fnS_e h
  have h2 := num_e h3
  have h1 := allS_e keysS_e h2
  obtain ⟨_, a2⟩ := allS_can hL (ok := fun _ => true) textS_e (fun s hs => ⟨rfl, (textS_can hL s hs).2⟩) h1
  obtain ⟨b1, b2⟩ := allS_can hL (ok := fun k => k.all plain) (enc := encL encI) keysS_e (keysS_can hL) h2
  obtain ⟨c1, c2⟩ := int_can hL h3
  obtain ⟨d1, d2⟩ := allS_can hL fnS_e (fnS_can hL) h
  have h0 : Can L 0 magicB ⟨0 + magicB.length, 0⟩ := by
    show L.drop 0 = magicB ++ L.drop (0 + magicB.length)
    rw [hL2, Nat.zero_add, List.drop_left]; rfl
  exact ⟨by simp only [imOk, b1, c1, d1, Bool.and_self], h0.trans (a2.trans (b2.trans (c2.trans d2)))⟩
/-- What is read is told by the same bytes -/
theorem decS_can (hL : ∀ x ∈ L, x < 256) (h : (decS L).2.e = 0) : imOk (decS L).1 = true ∧ encIm (decS L).1 = L ∧ (decS L).2 = ⟨L.length, 0⟩ := by
  unfold decS at h ⊢
  simp only at h ⊢
  have ho := imgS_ok (L := L) _ (mag_ok L)
  have he : (imgS L (magG magicB L 0)).2.e = 0 ∧ (imgS L (magG magicB L 0)).2.at_ = L.length := by
    have ho' : (imgS L (magG magicB L 0)).2.at_ ≤ L.length := ho
    unfold endS at h
    cases hz : (imgS L (magG magicB L 0)).2.e with
    | zero =>
      rw [hz] at h
      simp only at h
      by_cases hlt : (imgS L (magG magicB L 0)).2.at_ < L.length
      · rw [if_pos hlt] at h; cases h
      · exact ⟨rfl, by omega⟩
    | succ e => rw [hz] at h; simp only at h; rw [hz] at h; cases h
  obtain ⟨h1, h2⟩ := imgS_can hL he.1
  refine ⟨h1, ?_, ?_⟩
  · unfold Can at h2
    rw [he.2, List.drop_length, List.append_nil] at h2
    exact h2.symm
  · unfold endS
    rw [he.1]
    simp only [he.2, Nat.lt_irrefl, if_false]
    generalize (imgS L (magG magicB L 0)).2 = s at *
    obtain ⟨p, e⟩ := s
    obtain ⟨rfl, rfl⟩ := he
    rfl
end
end Go.Proofs.YtgjobbmbbedecaaDoor

/- Plain law: bytes cut short are none; which faults there are. -/
namespace Go.Proofs.YtgjobbmbbedecaaDoor
open Go Go.Abs Go.Proofs
set_option maxRecDepth 100000
set_option maxHeartbeats 2000000
set_option linter.unusedVariables false
set_option linter.unusedSimpArgs false
section
variable {L R : List Nat}
theorem numG_ext : ∀ (k i v p : Nat), (numG L k i v p).2.e = 0 → numG (L ++ R) k i v p = numG L k i v p
  | 0, i, v, p, h => by cases h
  | k + 1, i, v, p, h => by
    unfold numG at h ⊢
    cases hx : L[p]? with
    | none => rw [hx] at h; cases h
    | some x =>
      have hx2 : (L ++ R)[p]? = some x := by rw [List.getElem?_append_left (List.getElem?_eq_some_iff.1 hx).1]; exact hx
      rw [hx] at h
      rw [hx2]
      simp only at h ⊢
      cases hb : badN i x with
      | true => rfl
      | false =>
        rw [hb] at h
        simp only at h ⊢
        cases hd : decide (x < 128) with
        | true => rfl
        | false => rw [hd] at h; exact numG_ext k _ _ _ h
theorem num_ext {s : S} (h : (num L s).2.e = 0) : num (L ++ R) s = num L s := by
  have hs := num_e h
  unfold num at h ⊢
  rw [hs] at h ⊢
  exact numG_ext _ _ _ _ h
theorem count_ext {s : S} (h : (count L s).2.e = 0) : count (L ++ R) s = count L s := by
  obtain ⟨h1, h2, h3⟩ := count_e h
  rw [h2]
  unfold count
  rw [num_ext h1]
  unfold countOf
  have hd : decide ((L ++ R).length - (num L s).2.at_ < (num L s).1) = false := decide_eq_false (by rw [List.length_append]; omega)
  simp only [hd, h1]
theorem allG_ext {α : Type} {f g : S → α × S} (hf : ∀ s, (f s).2.e = 0 → s.e = 0) (hx : ∀ s, (f s).2.e = 0 → g s = f s) : ∀ (n : Nat) (s : S), (allG f n s).2.e = 0 → allG g n s = allG f n s
  | 0, s, h => rfl
  | n + 1, s, h => by
    have hs := allG_e hf _ _ h
    unfold allG at h ⊢
    rw [hs] at h ⊢
    simp only at h ⊢
    have h0 := allG_e hf _ _ h
    rw [hx s h0, allG_ext hf hx n _ h]
theorem allS_ext {α : Type} {f g : S → α × S} (hf : ∀ s, (f s).2.e = 0 → s.e = 0) (hx : ∀ s, (f s).2.e = 0 → g s = f s) {s : S} (h : (allS L f s).2.e = 0) : allS (L ++ R) g s = allS L f s := by
  unfold allS at h ⊢
  rw [count_ext (allG_e hf _ _ h)]
  exact allG_ext hf hx _ _ h
theorem intS_ext (s : S) (h : (intS L s).2.e = 0) : intS (L ++ R) s = intS L s := by
  have : (num L s).2.e = 0 := h
  simp only [intS, num_ext this]
theorem sgn_ext {s : S} (h : (sgn L s).2.e = 0) : sgn (L ++ R) s = sgn L s := by
  have : (num L s).2.e = 0 := h
  simp only [sgn, num_ext this]
theorem capS_ext (s : S) (h : (capS L s).2.e = 0) : capS (L ++ R) s = capS L s := by
  have h1 := num_e (s := (num L s).2) h
  have h2 : (num L (num L s).2).2.e = 0 := h
  simp only [capS, num_ext h1, num_ext h2]
theorem insS_ext (s : S) (h : (insS L s).2.e = 0) : insS (L ++ R) s = insS L s := by
  have h3 : (sgn L (sgn L (num L s).2).2).2.e = 0 := h
  have h2 := sgn_e h3
  have h1 := sgn_e h2
  simp only [insS, num_ext h1, sgn_ext h2, sgn_ext h3]
theorem tryS_ext (s : S) (h : (tryS L s).2.e = 0) : tryS (L ++ R) s = tryS L s := by
  have h4 : (num L (num L (num L (num L s).2).2).2).2.e = 0 := h
  have h3 := num_e h4
  have h2 := num_e h3
  have h1 := num_e h2
  simp only [tryS, num_ext h1, num_ext h2, num_ext h3, num_ext h4]
theorem keysS_ext (s : S) (h : (keysS L s).2.e = 0) : keysS (L ++ R) s = keysS L s := allS_ext intS_e intS_ext h
theorem fnS_ext (s : S) (h : (fnS L s).2.e = 0) : fnS (L ++ R) s = fnS L s := by
  simp only [fnS] at h ⊢
  have h5 := allS_e tryS_e h
  have h4 := allS_e insS_e h5
  have h3 := allS_e capS_e h4
  have h2 := allS_e intS_e h3
  have h1 := num_e h2
  rw [num_ext h1, num_ext h2, allS_ext intS_e intS_ext h3, allS_ext capS_e capS_ext h4, allS_ext insS_e insS_ext h5, allS_ext tryS_e tryS_ext h]
theorem textS_ext (s : S) (h : (textS L s).2.e = 0) : textS (L ++ R) s = textS L s := by
  have h0 : (count L s).2.e = 0 := by
    unfold textS at h
    simp only at h
    cases he : (count L s).2.e with
    | zero => rfl
    | succ e => rw [he] at h; simp only at h; rw [he] at h; cases h
  obtain ⟨h1, h2, h3⟩ := count_e h0
  rw [← h2] at h3
  unfold textS
  simp only [count_ext h0, h0]
  by_cases hq : (count L s).2.at_ ≤ L.length
  · rw [List.drop_append_of_le_length hq, List.take_append_of_le_length (by rw [List.length_drop]; exact h3)]
  · have : (count L s).1 = 0 := by omega
    rw [this]; simp
theorem magG_ext : ∀ (ms xs : List Nat) (p : Nat), (magG ms xs p).e = 0 → magG ms (xs ++ R) p = magG ms xs p
  | [], xs, p, _ => rfl
  | m :: ms, [], p, h => by cases h
  | m :: ms, x :: xs, p, h => by
    simp only [magG, List.cons_append] at h ⊢
    by_cases hx : x = m
    · rw [if_pos hx] at h ⊢
      rw [if_pos hx]
      exact magG_ext ms xs (p + 1) h
    · rw [if_neg hx] at h; cases h
theorem imgS_ext (h : (imgS L (magG magicB L 0)).2.e = 0) : imgS (L ++ R) (magG magicB (L ++ R) 0) = imgS L (magG magicB L 0) := by
  rw [magG_ext _ _ _ (imgS_e h)]
  generalize magG magicB L 0 = s at *
  simp only [imgS] at h ⊢
  have h3 := allS_e fnS_e h
  have h2 := num_e h3
  have h1 := allS_e keysS_e h2
  rw [allS_ext textS_e textS_ext h1, allS_ext keysS_e keysS_ext h2, num_ext h3, allS_ext fnS_e fnS_ext h]
end
theorem endS_e {L : List Nat} {s : S} (h : (endS L s).e = 0) : s.e = 0 ∧ ¬ s.at_ < L.length := by
  unfold endS at h
  cases he : s.e with
  | zero =>
    rw [he] at h
    simp only at h
    by_cases hp : s.at_ < L.length
    · rw [if_pos hp] at h; cases h
    · exact ⟨rfl, hp⟩
  | succ e => rw [he] at h; simp only at h; rw [he] at h; cases h
/-- An image's bytes cut short are none -/
theorem decS_cut {im : ImM} (h : imOk im = true) (hl : (encIm im).length ≤ 3000000000) {n : Nat} (hn : n < (encIm im).length) : (decS ((encIm im).take n)).2.e ≠ 0 := by
  intro h0
  unfold decS at h0
  simp only at h0
  obtain ⟨h1, h2⟩ := endS_e h0
  have hx := imgS_ext (R := (encIm im).drop n) h1
  rw [List.take_append_drop] at hx
  have he := imgS_enc h (List.append_nil (encIm im)).symm (by omega)
  rw [he] at hx
  have ho := imgS_ok (L := (encIm im).take n) _ (mag_ok _)
  rw [← hx] at ho
  have : (encIm im).length ≤ ((encIm im).take n).length := ho
  rw [List.length_take] at this
  omega
/-! which faults there are -/
def Cd (s : S) : Prop := s.e = 0 ∨ s.e = 3 ∨ s.e = 6
section
variable {L : List Nat}
theorem numG_cd : ∀ (k i v p : Nat), Cd (numG L k i v p).2
  | 0, i, v, p => .inr (.inr rfl)
  | k + 1, i, v, p => by
    unfold numG
    cases L[p]? with
    | none => exact .inr (.inr rfl)
    | some x =>
      simp only
      cases badN i x with
      | true => exact .inr (.inr rfl)
      | false =>
        simp only
        cases decide (x < 128) with
        | true => exact .inl rfl
        | false => exact numG_cd k _ _ _
theorem num_cd {s : S} (h : Cd s) : Cd (num L s).2 := by
  unfold num
  cases he : s.e with
  | zero => exact numG_cd _ _ _ _
  | succ e => exact h
theorem count_cd {s : S} (h : Cd s) : Cd (count L s).2 := by
  have hn := num_cd (L := L) h
  unfold count countOf
  cases decide (L.length - (num L s).2.at_ < (num L s).1) with
  | true =>
    simp only [failS]
    cases he : (num L s).2.e with
    | zero => exact .inr (.inl rfl)
    | succ e => exact hn
  | false =>
    simp only
    cases he : (num L s).2.e with
    | zero => exact hn
    | succ e => exact hn
theorem allG_cd {α : Type} {f : S → α × S} (hf : ∀ s, Cd s → Cd (f s).2) : ∀ (n : Nat) (s : S), Cd s → Cd (allG f n s).2
  | 0, s, h => h
  | n + 1, s, h => by
    unfold allG
    cases s.e with
    | zero => exact allG_cd hf n _ (hf s h)
    | succ e => exact h
theorem allS_cd {α : Type} {f : S → α × S} (hf : ∀ s, Cd s → Cd (f s).2) {s : S} (h : Cd s) : Cd (allS L f s).2 := allG_cd hf _ _ (count_cd h)
theorem textS_cd (s : S) (h : Cd s) : Cd (textS L s).2 := by
  have hc := count_cd (L := L) h
  unfold textS
  simp only
  cases (count L s).2.e with
  | zero => exact .inl rfl
  | succ e => exact hc
theorem fnS_cd (s : S) (h : Cd s) : Cd (fnS L s).2 :=
  allS_cd (f := tryS L) (fun s h => num_cd (num_cd (num_cd (num_cd h)))) (allS_cd (f := insS L) (fun s h => num_cd (num_cd (num_cd h))) (allS_cd (f := capS L) (fun s h => num_cd (num_cd h)) (allS_cd (f := intS L) (fun s h => num_cd h) (num_cd (num_cd h)))))
theorem magG_cd : ∀ (ms xs : List Nat) (p : Nat), Cd (magG ms xs p)
  | [], xs, p => .inl rfl
  | m :: ms, [], p => .inr (.inr rfl)
  | m :: ms, x :: xs, p => by
    unfold magG
    split
    · exact magG_cd ms xs (p + 1)
    · exact .inr (.inr rfl)
theorem decS_cd : Cd (decS L).2 := by
  have h : Cd (imgS L (magG magicB L 0)).2 := allS_cd (f := fnS L) fnS_cd (num_cd (allS_cd (f := keysS L) (fun s h => allS_cd (f := intS L) (fun s h => num_cd h) h) (allS_cd (f := textS L) textS_cd (magG_cd _ _ _))))
  unfold decS
  simp only
  unfold endS
  cases he : (imgS L (magG magicB L 0)).2.e with
  | zero =>
    simp only
    split
    · exact .inr (.inr rfl)
    · exact h
  | succ e => exact h
theorem decS_ok : (decS L).2.at_ ≤ L.length := endS_ok (imgS_ok _ (mag_ok L))
end
end Go.Proofs.YtgjobbmbbedecaaDoor

/- The program's reader: an image whose functions stay in the heap. -/
namespace Go.Proofs.YtgjobbmbbedecaaDoor
open Go Go.Abs Go.Proofs
set_option maxRecDepth 100000
set_option maxHeartbeats 4000000
set_option linter.unusedVariables false
set_option linter.unusedSimpArgs false
def contG (ms : List Nat) (L : List Nat) (s : S) : S := match s.e with
  | 0 => magG ms (L.drop s.at_) s.at_
  | _ + 1 => s
theorem magic_at {i : Nat} (hi : i < 4) : ∃ (u : UInt8) (m : Nat), (⟨#[74, 81, 48, 49]⟩ : ByteArray).data.toList[i]? = some u ∧ u.toNat = m ∧ magicB.drop i = m :: magicB.drop (i + 1) := by
  obtain rfl | rfl | rfl | rfl : i = 0 ∨ i = 1 ∨ i = 2 ∨ i = 3 := by omega
  all_goals exact ⟨_, _, rfl, rfl, rfl⟩
theorem set_last2 {α : Type} (l : List α) (a b : α) : (l ++ [a]).set l.length b = l ++ [b] := by
  rw [List.set_append_right _ _ (Nat.le_refl _), Nat.sub_self]; rfl
/-- Nothing of what was there is written to -/
def Kp (H H' : Hp) : Prop := H.length ≤ H'.length ∧ ∀ i, i < H.length → H'[i]? = H[i]?
theorem Kp.refl {H : Hp} : Kp H H := ⟨Nat.le_refl _, fun _ _ => rfl⟩
theorem Kp.trans {H H1 H2 : Hp} (a : Kp H H1) (b : Kp H1 H2) : Kp H H2 := ⟨Nat.le_trans a.1 b.1, fun i h => (b.2 i (Nat.lt_of_lt_of_le h a.1)).trans (a.2 i h)⟩
theorem decodeH {H : Hp} {x : V} {L : List Nat} {im : ImM} (hx : ∀ H', Kp H H' → RdB H' x L) (hL : ∀ y ∈ L, y < 256) (hlen : L.length ≤ 4194304) (hdec : decS L = (im, ⟨L.length, 0⟩)) :
    wpCall EW 16 [x] H (fun out H' => ∃ y vs, out = .ret (.tup [.agg [y, repL (im.strs.map .str), repL (im.keys.map keyV), .int .i64 im.globals], .int .i64 0, .int .i64 (L.length : Nat)]) false ∧ Kp H H' ∧ Own H' (H.length + 2) y vs ∧ All2 (VH H' (H.length + 2)) vs im.funs) := by
  have hx0 := (hx H Kp.refl).1
  have hxs := hx0.shutIn
  have hxc := hx0.clip2
  have hxl : ∀ (H' : Hp), lenK H' (.slice 5) x = some (.int .i64 (L.length : Nat)) := fun H' => by
    have := hx0.len 5
    rw [bs_len] at this
    cases x <;> first | exact this | (cases this)
  refine runs f16 b16 r16 n16 _ _ ?_
  simp only [bodyOf, Tryd.f16, Option.getD_some]
  have hb4 : decide ((4194304 : Int) < (L.length : Int)) = false := decide_eq_false (by omega)
  simp only [WW, partV, eqCells, eqLf, minV, maxV, ifcV, zaa, zab, zac, zad, zae, zaf, zag, zah, zai, ofConst, ofConst1, List.replicate, zaj, zak, loadOp, Go.Abs.loadCells, binV, zal, pickV, zam, zan, zao, zap, zaq, zar, zas, zat, zau, outR, resAll, resOne, zav, zaw, zax, zay, zaz, zba, zbb, zbc, zbd, zbe, zbf, zbg, zbh, zbi, zbj, zbk, storeOp, storeCell, overlay, zbl, zbm, zbn, lookupOp, keyT, okRes, mapUpdateOp, zbo, zbp, zbq, zbr, zbs, zbt, zbu, Nat.reduceSub, Nat.reduceAdd, Int.reduceLT, Int.reduceLE, Int.reduceAdd, Int.reduceSub, Int.reduceToNat, Int.reduceBEq, Int.reduceBNe, Int.reduceMul, Nat.reduceBEq, Nat.reduceBNe, Nat.reduceLT, Nat.reduceLeDiff, Nat.reduceMul, Nat.reduceEqDiff, WD, effB, effH, isPriv, isHeap, isImm, zbx, zby, zbz, chkO, setD, dslot, zca, zcb, zcc, zcd, ptrCells_some, F16, hxs, hxl, hb4, hx0.ok, hx0.cells1, hx0.width1, buildOp, fillV, Lay.place, Bool.or_self, Bool.or_false, Bool.false_or, decide_not, ne_eq, not_true_eq_false, decide_eq_true_eq, Nat.lt_irrefl, storeHeap, promote, heapSet, elemSet, List.getElem?_concat_length, set_last2]
  have l1 : (H ++ [Blk.cells [V.agg [x, .int .i64 0, .int .i64 0]]]).length = H.length + 1 := by simp
  rw [l1]
  have hW : (H ++ [Blk.cells [V.agg [x, .int .i64 0, .int .i64 0]]] ++ [Blk.cells [V.ptr H.length 0 0]])[H.length]? = some (.cells [.agg [x, .int .i64 0, .int .i64 0]]) := by
    rw [List.getElem?_append_left (by simp)]; exact List.getElem?_concat_length
  have hC : (H ++ [Blk.cells [V.agg [x, .int .i64 0, .int .i64 0]]] ++ [Blk.cells [V.ptr H.length 0 0]])[H.length + 1]? = some (.cells [.ptr H.length 0 0]) := by
    rw [← l1]; exact List.getElem?_concat_length
  have hk1 : ∀ H', Ff H.length (H ++ [Blk.cells [V.agg [x, .int .i64 0, .int .i64 0]]] ++ [Blk.cells [V.ptr H.length 0 0]]) H' → Kp H H' := fun H' hf => by
    refine ⟨by have := hf.1; simp at this; omega, fun i hi => ?_⟩
    rw [hf.2 i (by simp; omega) (by omega), List.getElem?_append_left (by simp; omega), List.getElem?_append_left hi]
  have hln : (H ++ [Blk.cells [V.agg [x, .int .i64 0, .int .i64 0]]] ++ [Blk.cells [V.ptr H.length 0 0]]).length = H.length + 2 := by simp
  have hR : Rr (H ++ [Blk.cells [V.agg [x, .int .i64 0, .int .i64 0]]] ++ [Blk.cells [V.ptr H.length 0 0]]) H.length x L ⟨0, 0⟩ :=
    ⟨hW, fun H' hf => hx H' (hk1 H' hf), Nat.zero_le _⟩
  clear hW
  generalize (H ++ [Blk.cells [V.agg [x, .int .i64 0, .int .i64 0]]] ++ [Blk.cells [V.ptr H.length 0 0]]) = H1 at *
  generalize hw : H.length = w at *
  have hcw : w + 1 ≠ w := by omega
  refine wC_loop _ (fun k st' H' => ∃ (i : Nat) (s1 : S), (st' = ⟨L16_5 (.v x) (.box 0) (.v (.ptr (w + 1) 0 0)) (.v (.int .i64 i)), [[.nils, .nils, .nils, .int .i64 0]], []⟩) ∧ Ff w H1 H' ∧ Rr H' w x L s1 ∧ i ≤ 4 ∧ k = 4 - i ∧ contG (magicB.drop i) L s1 = magG magicB L 0 ∧ (s1.e = 0 → s1.at_ = i)) 4 ⟨0, ⟨0, 0⟩, ?_, Ff.refl, hR, by omega, rfl, rfl, fun _ => rfl⟩ ?_
  · simp only [WN, firstReg, growAll, zbv, zbw, norm, killS, zag, zah, zaa, zab, zbl, zat, zad, growOne, zae, zaf, zac, zas, zak, Nat.reduceLT, Nat.reduceAdd, zbj, zav, F16, L16_5, hxc]
    rfl
  · rintro k st' H' ⟨i, s1, rfl, hf, hR', hi4, rfl, hm, hat0⟩
    simp only [L16_5]
    simp only [WW, partV, eqCells, eqLf, minV, maxV, ifcV, zaa, zab, zac, zad, zae, zaf, zag, zah, zai, ofConst, ofConst1, List.replicate, zaj, zak, loadOp, Go.Abs.loadCells, binV, zal, pickV, zam, zan, zao, zap, zaq, zar, zas, zat, zau, outR, resAll, resOne, zav, zaw, zax, zay, zaz, zba, zbb, zbc, zbd, zbe, zbf, zbg, zbh, zbi, zbj, zbk, storeOp, storeCell, overlay, zbl, zbm, zbn, lookupOp, keyT, okRes, mapUpdateOp, zbo, zbp, zbq, zbr, zbs, zbt, zbu, Nat.reduceSub, Nat.reduceAdd, Int.reduceLT, Int.reduceLE, Int.reduceAdd, Int.reduceSub, Int.reduceToNat, Int.reduceBEq, Int.reduceBNe, Int.reduceMul, Nat.reduceBEq, Nat.reduceBNe, Nat.reduceLT, Nat.reduceLeDiff, Nat.reduceMul, Nat.reduceEqDiff, WD, effB, effH, isPriv, isHeap, isImm, zbx, zby, zbz, chkO, setD, dslot, zca, zcb, zcc, zcd, ptrCells_some, F16]
    have hC' : H'[w + 1]? = some (.cells [.ptr w 0 0]) := (hf.2 (w + 1) (by omega) hcw).trans hC
    have hb := hR'.b
    simp only [rdr] at hb
    refine cSplit (fun hlt => ?_) (fun hge => ?_)
    · have hi : i < 4 := by have := of_decide_eq_true hlt; omega
      simp only [hlt]
      obtain ⟨u, m, hu, hum, hmd⟩ := magic_at hi
      rw [hmd] at hm
      simp only [WW, partV, eqCells, eqLf, minV, maxV, ifcV, zaa, zab, zac, zad, zae, zaf, zag, zah, zai, ofConst, ofConst1, List.replicate, zaj, zak, loadOp, Go.Abs.loadCells, binV, zal, pickV, zam, zan, zao, zap, zaq, zar, zas, zat, zau, outR, resAll, resOne, zav, zaw, zax, zay, zaz, zba, zbb, zbc, zbd, zbe, zbf, zbg, zbh, zbi, zbj, zbk, storeOp, storeCell, overlay, zbl, zbm, zbn, lookupOp, keyT, okRes, mapUpdateOp, zbo, zbp, zbq, zbr, zbs, zbt, zbu, Nat.reduceSub, Nat.reduceAdd, Int.reduceLT, Int.reduceLE, Int.reduceAdd, Int.reduceSub, Int.reduceToNat, Int.reduceBEq, Int.reduceBNe, Int.reduceMul, Nat.reduceBEq, Nat.reduceBNe, Nat.reduceLT, Nat.reduceLeDiff, Nat.reduceMul, Nat.reduceEqDiff, WD, effB, effH, isPriv, isHeap, isImm, zbx, zby, zbz, chkO, setD, dslot, zca, zcb, zcc, zcd, ptrCells_some, F16]
      refine wC_dr alts16_7 (by kernel_rfl) ?_
      obtain ⟨p, e⟩ := s1
      simp only at hat0 hb
      have hnx : IntKind.i64.wrap ((i : Int) + 1) = ((i + 1 : Nat) : Int) := by rw [IntWalk.i64_in _ (by omega)]; omega
      cases e with
      | succ e1 =>
        have g0 : (((e1 + 1 : Nat) : Int) == 0) = false := by rw [beq_eq_false_iff_ne]; omega
        simp only [WW, partV, eqCells, eqLf, minV, maxV, ifcV, zaa, zab, zac, zad, zae, zaf, zag, zah, zai, ofConst, ofConst1, List.replicate, zaj, zak, loadOp, Go.Abs.loadCells, binV, zal, pickV, zam, zan, zao, zap, zaq, zar, zas, zat, zau, outR, resAll, resOne, zav, zaw, zax, zay, zaz, zba, zbb, zbc, zbd, zbe, zbf, zbg, zbh, zbi, zbj, zbk, storeOp, storeCell, overlay, zbl, zbm, zbn, lookupOp, keyT, okRes, mapUpdateOp, zbo, zbp, zbq, zbr, zbs, zbt, zbu, Nat.reduceSub, Nat.reduceAdd, Int.reduceLT, Int.reduceLE, Int.reduceAdd, Int.reduceSub, Int.reduceToNat, Int.reduceBEq, Int.reduceBNe, Int.reduceMul, Nat.reduceBEq, Nat.reduceBNe, Nat.reduceLT, Nat.reduceLeDiff, Nat.reduceMul, Nat.reduceEqDiff, WD, effB, effH, isPriv, isHeap, isImm, zbx, zby, zbz, chkO, setD, dslot, zca, zcb, zcc, zcd, ptrCells_some, F16, hb, hC', g0, alts16_7]
        refine ⟨4 - (i + 1), by omega, i + 1, ⟨p, e1 + 1⟩, ?_, hf, hR', by omega, rfl, hm, fun h => by cases h⟩
        simp only [WN, firstReg, growAll, zbv, zbw, norm, killS, zag, zah, zaa, zab, zbl, zat, zad, growOne, zae, zaf, zac, zas, zak, Nat.reduceLT, Nat.reduceAdd, zbj, zav, F16, hxc, hnx]
        try rfl
      | zero =>
        obtain rfl := hat0 rfl
        have g0 : (((0 : Nat) : Int) == 0) = true := rfl
        simp only [contG] at hm
        have hfl := fun p => failR hR' 6 p
        have h6 : ((6 : Nat) : Int) = 6 := rfl
        rw [h6] at hfl
        have hfw : ∀ K, wpCall (evW Tryd.prog notes) 41 [.ptr w 0 0, .int .i64 6, .int .i64 (p : Nat)] H' K = K (.ret (.tup []) false) (H'.set w (rdr x ⟨p, 6⟩)) := fun K => wpCall_eq (hfl p)
        have hR6 := hR'.to (s' := ⟨p, 6⟩) hR'.o
        have hb6 : (H'.set w (rdr x ⟨p, 6⟩))[w]? = some (.cells [.agg [x, .int .i64 (p : Nat), .int .i64 6]]) := hR6.b
        have hC6 : (H'.set w (rdr x ⟨p, 6⟩))[w + 1]? = some (.cells [.ptr w 0 0]) := by rw [List.getElem?_set, if_neg (by omega)]; exact hC'
        have g6 : ((6 : Int) == 0) = false := rfl
        cases hLp : L[p]? with
        | none =>
          have hpl : p = L.length := by
            have := List.getElem?_eq_none_iff.1 hLp
            have : p ≤ L.length := hR'.o
            omega
          have g1 : ((p : Int) == (L.length : Int)) = true := by rw [hpl]; simp
          rw [List.drop_of_length_le (show L.length ≤ p by omega)] at hm
          simp only [WW, partV, eqCells, eqLf, minV, maxV, ifcV, zaa, zab, zac, zad, zae, zaf, zag, zah, zai, ofConst, ofConst1, List.replicate, zaj, zak, loadOp, Go.Abs.loadCells, binV, zal, pickV, zam, zan, zao, zap, zaq, zar, zas, zat, zau, outR, resAll, resOne, zav, zaw, zax, zay, zaz, zba, zbb, zbc, zbd, zbe, zbf, zbg, zbh, zbi, zbj, zbk, storeOp, storeCell, overlay, zbl, zbm, zbn, lookupOp, keyT, okRes, mapUpdateOp, zbo, zbp, zbq, zbr, zbs, zbt, zbu, Nat.reduceSub, Nat.reduceAdd, Int.reduceLT, Int.reduceLE, Int.reduceAdd, Int.reduceSub, Int.reduceToNat, Int.reduceBEq, Int.reduceBNe, Int.reduceMul, Nat.reduceBEq, Nat.reduceBNe, Nat.reduceLT, Nat.reduceLeDiff, Nat.reduceMul, Nat.reduceEqDiff, WD, effB, effH, isPriv, isHeap, isImm, zbx, zby, zbz, chkO, setD, dslot, zca, zcb, zcc, zcd, ptrCells_some, F16, hb, hC', g0, hxs, hxl, g1, alts16_7]
          refine wC_dr alts16_8 (by kernel_rfl) ?_
          simp only [WW, partV, eqCells, eqLf, minV, maxV, ifcV, zaa, zab, zac, zad, zae, zaf, zag, zah, zai, ofConst, ofConst1, List.replicate, zaj, zak, loadOp, Go.Abs.loadCells, binV, zal, pickV, zam, zan, zao, zap, zaq, zar, zas, zat, zau, outR, resAll, resOne, zav, zaw, zax, zay, zaz, zba, zbb, zbc, zbd, zbe, zbf, zbg, zbh, zbi, zbj, zbk, storeOp, storeCell, overlay, zbl, zbm, zbn, lookupOp, keyT, okRes, mapUpdateOp, zbo, zbp, zbq, zbr, zbs, zbt, zbu, Nat.reduceSub, Nat.reduceAdd, Int.reduceLT, Int.reduceLE, Int.reduceAdd, Int.reduceSub, Int.reduceToNat, Int.reduceBEq, Int.reduceBNe, Int.reduceMul, Nat.reduceBEq, Nat.reduceBNe, Nat.reduceLT, Nat.reduceLeDiff, Nat.reduceMul, Nat.reduceEqDiff, WD, effB, effH, isPriv, isHeap, isImm, zbx, zby, zbz, chkO, setD, dslot, zca, zcb, zcc, zcd, ptrCells_some, F16, hb, hC', hb6, hC6, g0, g6, hfw, alts16_8]
          refine ⟨4 - (p + 1), by omega, p + 1, ⟨p, 6⟩, ?_, hf.trans (Ff.set _), hR6, by omega, rfl, hm, fun h => by cases h⟩
          simp only [WN, firstReg, growAll, zbv, zbw, norm, killS, zag, zah, zaa, zab, zbl, zat, zad, growOne, zae, zaf, zac, zas, zak, Nat.reduceLT, Nat.reduceAdd, zbj, zav, F16, hxc, hnx]
          try rfl
        | some c =>
          have hpl : p < L.length := (List.getElem?_eq_some_iff.1 hLp).1
          have g1 : ((p : Int) == (L.length : Int)) = false := by rw [beq_eq_false_iff_ne]; omega
          rw [drop_get hLp, magG] at hm
          have hxr := hR'.rd
          have hat := hxr.at_ (sz := 1) (i := p) (e := .int .u8 (c : Nat)) (by simp [bs, hLp]) rfl
          by_cases hcm : c = m
          · rw [if_pos hcm] at hm
            have g2 : (((c : Nat) : Int) != (u.toNat : Int)) = false := by rw [hum, hcm]; simp
            have hR2 := hR'.to (s' := ⟨p + 1, 0⟩) hpl
            have hb2 : (H'.set w (.cells [.agg [x, .int .i64 ((p + 1 : Nat) : Int), .int .i64 ((0 : Nat) : Int)]]))[w]? = some (.cells [.agg [x, .int .i64 ((p + 1 : Nat) : Int), .int .i64 ((0 : Nat) : Int)]]) := List.getElem?_set_self hR'.lt
            simp only [WW, partV, eqCells, eqLf, minV, maxV, ifcV, zaa, zab, zac, zad, zae, zaf, zag, zah, zai, ofConst, ofConst1, List.replicate, zaj, zak, loadOp, Go.Abs.loadCells, binV, zal, pickV, zam, zan, zao, zap, zaq, zar, zas, zat, zau, outR, resAll, resOne, zav, zaw, zax, zay, zaz, zba, zbb, zbc, zbd, zbe, zbf, zbg, zbh, zbi, zbj, zbk, storeOp, storeCell, overlay, zbl, zbm, zbn, lookupOp, keyT, okRes, mapUpdateOp, zbo, zbp, zbq, zbr, zbs, zbt, zbu, Nat.reduceSub, Nat.reduceAdd, Int.reduceLT, Int.reduceLE, Int.reduceAdd, Int.reduceSub, Int.reduceToNat, Int.reduceBEq, Int.reduceBNe, Int.reduceMul, Nat.reduceBEq, Nat.reduceBNe, Nat.reduceLT, Nat.reduceLeDiff, Nat.reduceMul, Nat.reduceEqDiff, WD, effB, effH, isPriv, isHeap, isImm, zbx, zby, zbz, chkO, setD, dslot, zca, zcb, zcc, zcd, ptrCells_some, F16, hb, hC', g0, hxs, hxl, g1, hat.at1 hxr, hat.cells, hu, byteV, g2, alts16_7]
            simp only [WW, partV, eqCells, eqLf, minV, maxV, ifcV, zaa, zab, zac, zad, zae, zaf, zag, zah, zai, ofConst, ofConst1, List.replicate, zaj, zak, loadOp, Go.Abs.loadCells, binV, zal, pickV, zam, zan, zao, zap, zaq, zar, zas, zat, zau, outR, resAll, resOne, zav, zaw, zax, zay, zaz, zba, zbb, zbc, zbd, zbe, zbf, zbg, zbh, zbi, zbj, zbk, storeOp, storeCell, overlay, zbl, zbm, zbn, lookupOp, keyT, okRes, mapUpdateOp, zbo, zbp, zbq, zbr, zbs, zbt, zbu, Nat.reduceSub, Nat.reduceAdd, Int.reduceLT, Int.reduceLE, Int.reduceAdd, Int.reduceSub, Int.reduceToNat, Int.reduceBEq, Int.reduceBNe, Int.reduceMul, Nat.reduceBEq, Nat.reduceBNe, Nat.reduceLT, Nat.reduceLeDiff, Nat.reduceMul, Nat.reduceEqDiff, WD, effB, effH, isPriv, isHeap, isImm, zbx, zby, zbz, chkO, setD, dslot, zca, zcb, zcc, zcd, ptrCells_some, F16, hb, hC', g0, hnx, storeHeap, promote, heapSet, elemSet, hb2]
            refine ⟨4 - (p + 1), by omega, p + 1, ⟨p + 1, 0⟩, ?_, hf.trans (Ff.set _), hR2, by omega, rfl, hm, fun _ => rfl⟩
            simp only [WN, firstReg, growAll, zbv, zbw, norm, killS, zag, zah, zaa, zab, zbl, zat, zad, growOne, zae, zaf, zac, zas, zak, Nat.reduceLT, Nat.reduceAdd, zbj, zav, F16, hxc, hnx]
            try rfl
          · rw [if_neg hcm] at hm
            have g2 : (((c : Nat) : Int) != (u.toNat : Int)) = true := by rw [hum]; simp; omega
            simp only [WW, partV, eqCells, eqLf, minV, maxV, ifcV, zaa, zab, zac, zad, zae, zaf, zag, zah, zai, ofConst, ofConst1, List.replicate, zaj, zak, loadOp, Go.Abs.loadCells, binV, zal, pickV, zam, zan, zao, zap, zaq, zar, zas, zat, zau, outR, resAll, resOne, zav, zaw, zax, zay, zaz, zba, zbb, zbc, zbd, zbe, zbf, zbg, zbh, zbi, zbj, zbk, storeOp, storeCell, overlay, zbl, zbm, zbn, lookupOp, keyT, okRes, mapUpdateOp, zbo, zbp, zbq, zbr, zbs, zbt, zbu, Nat.reduceSub, Nat.reduceAdd, Int.reduceLT, Int.reduceLE, Int.reduceAdd, Int.reduceSub, Int.reduceToNat, Int.reduceBEq, Int.reduceBNe, Int.reduceMul, Nat.reduceBEq, Nat.reduceBNe, Nat.reduceLT, Nat.reduceLeDiff, Nat.reduceMul, Nat.reduceEqDiff, WD, effB, effH, isPriv, isHeap, isImm, zbx, zby, zbz, chkO, setD, dslot, zca, zcb, zcc, zcd, ptrCells_some, F16, hb, hC', g0, hxs, hxl, g1, hat.at1 hxr, hat.cells, hu, byteV, g2, alts16_7]
            refine wC_dr alts16_8 (by kernel_rfl) ?_
            simp only [WW, partV, eqCells, eqLf, minV, maxV, ifcV, zaa, zab, zac, zad, zae, zaf, zag, zah, zai, ofConst, ofConst1, List.replicate, zaj, zak, loadOp, Go.Abs.loadCells, binV, zal, pickV, zam, zan, zao, zap, zaq, zar, zas, zat, zau, outR, resAll, resOne, zav, zaw, zax, zay, zaz, zba, zbb, zbc, zbd, zbe, zbf, zbg, zbh, zbi, zbj, zbk, storeOp, storeCell, overlay, zbl, zbm, zbn, lookupOp, keyT, okRes, mapUpdateOp, zbo, zbp, zbq, zbr, zbs, zbt, zbu, Nat.reduceSub, Nat.reduceAdd, Int.reduceLT, Int.reduceLE, Int.reduceAdd, Int.reduceSub, Int.reduceToNat, Int.reduceBEq, Int.reduceBNe, Int.reduceMul, Nat.reduceBEq, Nat.reduceBNe, Nat.reduceLT, Nat.reduceLeDiff, Nat.reduceMul, Nat.reduceEqDiff, WD, effB, effH, isPriv, isHeap, isImm, zbx, zby, zbz, chkO, setD, dslot, zca, zcb, zcc, zcd, ptrCells_some, F16, hb, hC', hb6, hC6, g0, g6, hfw, alts16_8]
            refine ⟨4 - (p + 1), by omega, p + 1, ⟨p, 6⟩, ?_, hf.trans (Ff.set _), hR6, by omega, rfl, hm, fun h => by cases h⟩
            simp only [WN, firstReg, growAll, zbv, zbw, norm, killS, zag, zah, zaa, zab, zbl, zat, zad, growOne, zae, zaf, zac, zas, zak, Nat.reduceLT, Nat.reduceAdd, zbj, zav, F16, hxc, hnx]
            try rfl
    · have hi : i = 4 := by have := of_decide_eq_false hge; omega
      subst hi
      have hs1 : s1 = magG magicB L 0 := by
        rw [← hm]; unfold contG
        obtain ⟨p, e⟩ := s1
        cases e <;> rfl
      subst hs1
      simp only [hge]
      have h5m : L.length ≤ 5000000 := by omega
      have hc1 : w + 1 < H'.length := by have := hf.1; omega
      clear hm hat0 hb
      simp only [WW, partV, eqCells, eqLf, minV, maxV, ifcV, zaa, zab, zac, zad, zae, zaf, zag, zah, zai, ofConst, ofConst1, List.replicate, zaj, zak, loadOp, Go.Abs.loadCells, binV, zal, pickV, zam, zan, zao, zap, zaq, zar, zas, zat, zau, outR, resAll, resOne, zav, zaw, zax, zay, zaz, zba, zbb, zbc, zbd, zbe, zbf, zbg, zbh, zbi, zbj, zbk, storeOp, storeCell, overlay, zbl, zbm, zbn, lookupOp, keyT, okRes, mapUpdateOp, zbo, zbp, zbq, zbr, zbs, zbt, zbu, Nat.reduceSub, Nat.reduceAdd, Int.reduceLT, Int.reduceLE, Int.reduceAdd, Int.reduceSub, Int.reduceToNat, Int.reduceBEq, Int.reduceBNe, Int.reduceMul, Nat.reduceBEq, Nat.reduceBNe, Nat.reduceLT, Nat.reduceLeDiff, Nat.reduceMul, Nat.reduceEqDiff, WD, effB, effH, isPriv, isHeap, isImm, zbx, zby, zbz, chkO, setD, dslot, zca, zcb, zcc, zcd, ptrCells_some, F16, hC']
      refine wpCall_of (allR42 (textS L) V.str (fun _ _ => rfl) (fun _ => rfl) (fun _ => rfl) call43 hR' hL h5m (fun H1 s1 h1 h2 => text43 h2 hL h5m)) ?_
      rintro out H2' ⟨y2, rfl, g2', hR2', hO2⟩
      obtain ⟨H2, e2, g2, hR2⟩ := own_done g2' hR'.lt hR'.r hR2' hO2
      have hf2 := hf.trans g2
      have hC2 := (g2.2 (w + 1) hc1 hcw).trans hC'
      have hc2 := Nat.lt_of_lt_of_le hc1 g2.1
      simp only [WW, partV, eqCells, eqLf, minV, maxV, ifcV, zaa, zab, zac, zad, zae, zaf, zag, zah, zai, ofConst, ofConst1, List.replicate, zaj, zak, loadOp, Go.Abs.loadCells, binV, zal, pickV, zam, zan, zao, zap, zaq, zar, zas, zat, zau, outR, resAll, resOne, zav, zaw, zax, zay, zaz, zba, zbb, zbc, zbd, zbe, zbf, zbg, zbh, zbi, zbj, zbk, storeOp, storeCell, overlay, zbl, zbm, zbn, lookupOp, keyT, okRes, mapUpdateOp, zbo, zbp, zbq, zbr, zbs, zbt, zbu, Nat.reduceSub, Nat.reduceAdd, Int.reduceLT, Int.reduceLE, Int.reduceAdd, Int.reduceSub, Int.reduceToNat, Int.reduceBEq, Int.reduceBNe, Int.reduceMul, Nat.reduceBEq, Nat.reduceBNe, Nat.reduceLT, Nat.reduceLeDiff, Nat.reduceMul, Nat.reduceEqDiff, WD, effB, effH, isPriv, isHeap, isImm, zbx, zby, zbz, chkO, setD, dslot, zca, zcb, zcc, zcd, ptrCells_some, F16, e2, hC2, buildOp, fillV, Lay.place, Bool.or_self, Bool.or_false, Bool.false_or, decide_not, ne_eq, not_true_eq_false, decide_eq_true_eq, Nat.lt_irrefl, repL_shut, repL_ok, repL_cells, repL_width]
      refine wpCall_of (allR44 (keysS L) keyV (fun _ st => repL_shut _ st) (fun _ => repL_ok _) (fun _ => repL_width _) call45 hR2 hL h5m (fun H1 s1 h1 h2 => clos45 ((h1.2 (w + 1) hc2 hcw).trans hC2) h2 hL h5m)) ?_
      rintro out H3' ⟨y3, rfl, g3', hR3', hO3⟩
      obtain ⟨H3, e3, g3, hR3⟩ := own_done g3' hR2.lt hR2.r hR3' hO3
      have hf3 := hf2.trans g3
      have hC3 := (g3.2 (w + 1) hc2 hcw).trans hC2
      have hc3 := Nat.lt_of_lt_of_le hc2 g3.1
      simp only [WW, partV, eqCells, eqLf, minV, maxV, ifcV, zaa, zab, zac, zad, zae, zaf, zag, zah, zai, ofConst, ofConst1, List.replicate, zaj, zak, loadOp, Go.Abs.loadCells, binV, zal, pickV, zam, zan, zao, zap, zaq, zar, zas, zat, zau, outR, resAll, resOne, zav, zaw, zax, zay, zaz, zba, zbb, zbc, zbd, zbe, zbf, zbg, zbh, zbi, zbj, zbk, storeOp, storeCell, overlay, zbl, zbm, zbn, lookupOp, keyT, okRes, mapUpdateOp, zbo, zbp, zbq, zbr, zbs, zbt, zbu, Nat.reduceSub, Nat.reduceAdd, Int.reduceLT, Int.reduceLE, Int.reduceAdd, Int.reduceSub, Int.reduceToNat, Int.reduceBEq, Int.reduceBNe, Int.reduceMul, Nat.reduceBEq, Nat.reduceBNe, Nat.reduceLT, Nat.reduceLeDiff, Nat.reduceMul, Nat.reduceEqDiff, WD, effB, effH, isPriv, isHeap, isImm, zbx, zby, zbz, chkO, setD, dslot, zca, zcb, zcc, zcd, ptrCells_some, F16, e3, hC3, buildOp, fillV, Lay.place, Bool.or_self, Bool.or_false, Bool.false_or, decide_not, ne_eq, not_true_eq_false, decide_eq_true_eq, Nat.lt_irrefl, repL_shut, repL_ok, repL_cells, repL_width]
      refine wpCall_of (numR hR3 hL h5m) ?_
      rintro out H4 ⟨rfl, g4, hR4⟩
      have hf4 := hf3.trans g4
      have hC4 := (g4.2 (w + 1) hc3 hcw).trans hC3
      have hc4 := Nat.lt_of_lt_of_le hc3 g4.1
      simp only [WW, partV, eqCells, eqLf, minV, maxV, ifcV, zaa, zab, zac, zad, zae, zaf, zag, zah, zai, ofConst, ofConst1, List.replicate, zaj, zak, loadOp, Go.Abs.loadCells, binV, zal, pickV, zam, zan, zao, zap, zaq, zar, zas, zat, zau, outR, resAll, resOne, zav, zaw, zax, zay, zaz, zba, zbb, zbc, zbd, zbe, zbf, zbg, zbh, zbi, zbj, zbk, storeOp, storeCell, overlay, zbl, zbm, zbn, lookupOp, keyT, okRes, mapUpdateOp, zbo, zbp, zbq, zbr, zbs, zbt, zbu, Nat.reduceSub, Nat.reduceAdd, Int.reduceLT, Int.reduceLE, Int.reduceAdd, Int.reduceSub, Int.reduceToNat, Int.reduceBEq, Int.reduceBNe, Int.reduceMul, Nat.reduceBEq, Nat.reduceBNe, Nat.reduceLT, Nat.reduceLeDiff, Nat.reduceMul, Nat.reduceEqDiff, WD, effB, effH, isPriv, isHeap, isImm, zbx, zby, zbz, chkO, setD, dslot, zca, zcb, zcc, zcd, ptrCells_some, F16, hC4, buildOp, fillV, Lay.place, Bool.or_self, Bool.or_false, Bool.false_or, decide_not, ne_eq, not_true_eq_false, decide_eq_true_eq, Nat.lt_irrefl, repL_shut, repL_ok, repL_cells, repL_width]
      refine wpCall_of (allH48 (nb := w + 2) (by have := hf4.1; omega) (by omega) hR4 hL h5m) ?_
      rintro out H5 ⟨y5, rfl, g5, hR5, vs, hO5, hA5⟩
      have q1 := hO5.shut
      have q2 := hO5.ok
      have q3 := hO5.cells1
      have hf5 := hf4.trans g5
      have hC5 := (g5.2 (w + 1) hc4 hcw).trans hC4
      have hc5 := Nat.lt_of_lt_of_le hc4 g5.1
      have him : (imgS L (magG magicB L 0)).2 = (allS L (fnS L) (num L (allS L (keysS L) (allS L (textS L) (magG magicB L 0)).2).2).2).2 := rfl
      have h1 := congrArg Prod.fst hdec
      have h2 := congrArg Prod.snd hdec
      have e1 : im = ⟨(allS L (fnS L) (num L (allS L (keysS L) (allS L (textS L) (magG magicB L 0)).2).2).2).1, (allS L (textS L) (magG magicB L 0)).1, (allS L (keysS L) (allS L (textS L) (magG magicB L 0)).2).1, ((num L (allS L (keysS L) (allS L (textS L) (magG magicB L 0)).2).2).1 : Int)⟩ := h1.symm
      have e2 : endS L (allS L (fnS L) (num L (allS L (keysS L) (allS L (textS L) (magG magicB L 0)).2).2).2).2 = ⟨L.length, 0⟩ := h2
      obtain ⟨f1, f2⟩ := endS_e (s := (allS L (fnS L) (num L (allS L (keysS L) (allS L (textS L) (magG magicB L 0)).2).2).2).2) (by rw [e2])
      rw [e1]
      clear h1 h2 e2 hdec
      generalize (allS L (fnS L) (num L (allS L (keysS L) (allS L (textS L) (magG magicB L 0)).2).2).2).2 = s5 at *
      obtain ⟨p, e⟩ := s5
      simp only at f1 f2
      subst f1
      have hb5 := hR5.b
      simp only [rdr] at hb5
      have hend : Kp H H5 := hk1 H5 hf5
      have h00 : (((0 : Nat) : Int) == 0) = true := rfl
      have h01 : (((0 : Nat) : Int) != 0) = false := rfl
      have hd : decide ((p : Int) < (L.length : Int)) = false := decide_eq_false (by omega)
      simp only [WW, partV, eqCells, eqLf, minV, maxV, ifcV, zaa, zab, zac, zad, zae, zaf, zag, zah, zai, ofConst, ofConst1, List.replicate, zaj, zak, loadOp, Go.Abs.loadCells, binV, zal, pickV, zam, zan, zao, zap, zaq, zar, zas, zat, zau, outR, resAll, resOne, zav, zaw, zax, zay, zaz, zba, zbb, zbc, zbd, zbe, zbf, zbg, zbh, zbi, zbj, zbk, storeOp, storeCell, overlay, zbl, zbm, zbn, lookupOp, keyT, okRes, mapUpdateOp, zbo, zbp, zbq, zbr, zbs, zbt, zbu, Nat.reduceSub, Nat.reduceAdd, Int.reduceLT, Int.reduceLE, Int.reduceAdd, Int.reduceSub, Int.reduceToNat, Int.reduceBEq, Int.reduceBNe, Int.reduceMul, Nat.reduceBEq, Nat.reduceBNe, Nat.reduceLT, Nat.reduceLeDiff, Nat.reduceMul, Nat.reduceEqDiff, WD, effB, effH, isPriv, isHeap, isImm, zbx, zby, zbz, chkO, setD, dslot, zca, zcb, zcc, zcd, ptrCells_some, F16, hC5, hb5, h00, h01, hd, hxs, hxl, buildOp, fillV, Lay.place, Bool.or_self, Bool.or_false, Bool.false_or, decide_not, ne_eq, not_true_eq_false, decide_eq_true_eq, Nat.lt_irrefl, repL_shut, repL_ok, repL_cells, repL_width, q1, q2, q3]
      exact ⟨y5, vs, rfl, hend, hO5.weaken (by have := hf4.1; omega), hA5⟩
end Go.Proofs.YtgjobbmbbedecaaDoor

/- What is too big to be asked. -/
namespace Go.Proofs.YtgjobbmbbedecaaDoor
open Go Go.Abs Go.Proofs
set_option maxRecDepth 100000
set_option maxHeartbeats 8000000
set_option linter.unusedVariables false
set_option linter.unusedSimpArgs false
theorem big_spec {v : V} {im : ImM} (q : ImV v im) (H : Hp) : wpCall EW 11 [v] H (fun out H' => ∃ b, out = .ret (.bool b) false ∧ H' = H ∧ (b = false → imSm im)) := by
  obtain ⟨fu, st, ke, fs, ks, rfl, hf, hs, hk, f2, k2⟩ := q
  have z1 := fun st => (hf []).shutIn st
  have z2 := fun s => (hs []).shutIn s
  have z3 := fun st => (hk []).shutIn st
  have y1 := fun n => (hf []).clip n
  have y2 := fun n => (hs []).clip n
  have y3 := fun n => (hk []).clip n
  have x1 := (hf []).cells1
  have x2 := (hs []).cells1
  have x3 := (hk []).cells1
  have w1 := (hf []).ok
  have w2 := (hs []).ok
  have w3 := (hk []).ok
  have fl := f2.len
  have kl := k2.len
  have sl : (im.strs.map V.str).length = im.strs.length := List.length_map ..
  have no : ∀ {p : Prop}, (true = false → p) := fun h => by cases h
  refine runs f11 b11 r11 n11 _ _ ?_
  simp only [bodyOf, Tryd.f11, Option.getD_some]
  have l1 := (hf H).len 50
  have l2 := (hs H).len 9
  have l3 := (hk H).len 45
  rw [fl] at l1
  rw [sl] at l2
  rw [kl] at l3
  cases g1 : decide ((30 : Int) < (im.funs.length : Int)) with
  | true =>
    simp only [WW, partV, eqCells, eqLf, minV, maxV, ifcV, zaa, zab, zac, zad, zae, zaf, zag, zah, zai, ofConst, ofConst1, List.replicate, zaj, zak, loadOp, Go.Abs.loadCells, binV, zal, pickV, zam, zan, zao, zap, zaq, zar, zas, zat, zau, outR, resAll, resOne, zav, zaw, zax, zay, zaz, zba, zbb, zbc, zbd, zbe, zbf, zbg, zbh, zbi, zbj, zbk, storeOp, storeCell, overlay, zbl, zbm, zbn, lookupOp, keyT, okRes, mapUpdateOp, zbo, zbp, zbq, zbr, zbs, zbt, zbu, Nat.reduceSub, Nat.reduceAdd, Int.reduceLT, Int.reduceLE, Int.reduceAdd, Int.reduceSub, Int.reduceToNat, Int.reduceBEq, Int.reduceBNe, Int.reduceMul, Nat.reduceBEq, Nat.reduceBNe, Nat.reduceLT, Nat.reduceLeDiff, Nat.reduceMul, Nat.reduceEqDiff, WD, effB, effH, isPriv, isHeap, isImm, zbx, zby, zbz, chkO, setD, dslot, zca, zcb, zcc, zcd, ptrCells_some, F11, z1, z2, z3, x1, x2, x3, w1, w2, w3, l1, l2, l3, g1]
    exact ⟨_, rfl, no⟩
  | false =>
  cases g2 : decide ((100 : Int) < (im.strs.length : Int)) with
  | true =>
    simp only [WW, partV, eqCells, eqLf, minV, maxV, ifcV, zaa, zab, zac, zad, zae, zaf, zag, zah, zai, ofConst, ofConst1, List.replicate, zaj, zak, loadOp, Go.Abs.loadCells, binV, zal, pickV, zam, zan, zao, zap, zaq, zar, zas, zat, zau, outR, resAll, resOne, zav, zaw, zax, zay, zaz, zba, zbb, zbc, zbd, zbe, zbf, zbg, zbh, zbi, zbj, zbk, storeOp, storeCell, overlay, zbl, zbm, zbn, lookupOp, keyT, okRes, mapUpdateOp, zbo, zbp, zbq, zbr, zbs, zbt, zbu, Nat.reduceSub, Nat.reduceAdd, Int.reduceLT, Int.reduceLE, Int.reduceAdd, Int.reduceSub, Int.reduceToNat, Int.reduceBEq, Int.reduceBNe, Int.reduceMul, Nat.reduceBEq, Nat.reduceBNe, Nat.reduceLT, Nat.reduceLeDiff, Nat.reduceMul, Nat.reduceEqDiff, WD, effB, effH, isPriv, isHeap, isImm, zbx, zby, zbz, chkO, setD, dslot, zca, zcb, zcc, zcd, ptrCells_some, F11, z1, z2, z3, x1, x2, x3, w1, w2, w3, l1, l2, l3, g1, g2]
    exact ⟨_, rfl, no⟩
  | false =>
  cases g3 : decide ((50 : Int) < (im.keys.length : Int)) with
  | true =>
    simp only [WW, partV, eqCells, eqLf, minV, maxV, ifcV, zaa, zab, zac, zad, zae, zaf, zag, zah, zai, ofConst, ofConst1, List.replicate, zaj, zak, loadOp, Go.Abs.loadCells, binV, zal, pickV, zam, zan, zao, zap, zaq, zar, zas, zat, zau, outR, resAll, resOne, zav, zaw, zax, zay, zaz, zba, zbb, zbc, zbd, zbe, zbf, zbg, zbh, zbi, zbj, zbk, storeOp, storeCell, overlay, zbl, zbm, zbn, lookupOp, keyT, okRes, mapUpdateOp, zbo, zbp, zbq, zbr, zbs, zbt, zbu, Nat.reduceSub, Nat.reduceAdd, Int.reduceLT, Int.reduceLE, Int.reduceAdd, Int.reduceSub, Int.reduceToNat, Int.reduceBEq, Int.reduceBNe, Int.reduceMul, Nat.reduceBEq, Nat.reduceBNe, Nat.reduceLT, Nat.reduceLeDiff, Nat.reduceMul, Nat.reduceEqDiff, WD, effB, effH, isPriv, isHeap, isImm, zbx, zby, zbz, chkO, setD, dslot, zca, zcb, zcc, zcd, ptrCells_some, F11, z1, z2, z3, x1, x2, x3, w1, w2, w3, l1, l2, l3, g1, g2, g3]
    exact ⟨_, rfl, no⟩
  | false =>
  have m1 : im.funs.length ≤ 30 := by have := of_decide_eq_false g1; omega
  have m2 : im.strs.length ≤ 100 := by have := of_decide_eq_false g2; omega
  have m3 : im.keys.length ≤ 50 := by have := of_decide_eq_false g3; omega
  simp only [WW, partV, eqCells, eqLf, minV, maxV, ifcV, zaa, zab, zac, zad, zae, zaf, zag, zah, zai, ofConst, ofConst1, List.replicate, zaj, zak, loadOp, Go.Abs.loadCells, binV, zal, pickV, zam, zan, zao, zap, zaq, zar, zas, zat, zau, outR, resAll, resOne, zav, zaw, zax, zay, zaz, zba, zbb, zbc, zbd, zbe, zbf, zbg, zbh, zbi, zbj, zbk, storeOp, storeCell, overlay, zbl, zbm, zbn, lookupOp, keyT, okRes, mapUpdateOp, zbo, zbp, zbq, zbr, zbs, zbt, zbu, Nat.reduceSub, Nat.reduceAdd, Int.reduceLT, Int.reduceLE, Int.reduceAdd, Int.reduceSub, Int.reduceToNat, Int.reduceBEq, Int.reduceBNe, Int.reduceMul, Nat.reduceBEq, Nat.reduceBNe, Nat.reduceLT, Nat.reduceLeDiff, Nat.reduceMul, Nat.reduceEqDiff, WD, effB, effH, isPriv, isHeap, isImm, zbx, zby, zbz, chkO, setD, dslot, zca, zcb, zcc, zcd, ptrCells_some, F11, z1, z2, z3, x1, x2, x3, w1, w2, w3, l1, l2, l3, g1, g2, g3]
  refine wC_loop _ (fun k st' H' => ∃ (i : Nat) (z : Int), st' = ⟨L11_5 (.box 0) (.v (.int .i64 z)) (.v (.int .i64 i)), [[fu, st, ke, .int .i64 im.globals]], []⟩ ∧ H' = H ∧ i ≤ im.strs.length ∧ k = im.strs.length - i ∧ ∀ (j : Nat) s, im.strs[j]? = some s → j < i → s.size ≤ 2000) im.strs.length ⟨0, 0, ?_, rfl, by omega, by omega, fun _ _ _ h => absurd h (by omega)⟩ ?_
  · simp only [WN, firstReg, growAll, zbv, zbw, norm, killS, zag, zah, zaa, zab, zbl, zat, zad, growOne, zae, zaf, zac, zas, zak, Nat.reduceLT, Nat.reduceAdd, zbj, zav, F11, L11_5, y1, y2, y3]
    rfl
  · rintro k st' H ⟨i, z, rfl, rfl, hi, rfl, hall⟩
    simp only [L11_5]
    simp only [WW, partV, eqCells, eqLf, minV, maxV, ifcV, zaa, zab, zac, zad, zae, zaf, zag, zah, zai, ofConst, ofConst1, List.replicate, zaj, zak, loadOp, Go.Abs.loadCells, binV, zal, pickV, zam, zan, zao, zap, zaq, zar, zas, zat, zau, outR, resAll, resOne, zav, zaw, zax, zay, zaz, zba, zbb, zbc, zbd, zbe, zbf, zbg, zbh, zbi, zbj, zbk, storeOp, storeCell, overlay, zbl, zbm, zbn, lookupOp, keyT, okRes, mapUpdateOp, zbo, zbp, zbq, zbr, zbs, zbt, zbu, Nat.reduceSub, Nat.reduceAdd, Int.reduceLT, Int.reduceLE, Int.reduceAdd, Int.reduceSub, Int.reduceToNat, Int.reduceBEq, Int.reduceBNe, Int.reduceMul, Nat.reduceBEq, Nat.reduceBNe, Nat.reduceLT, Nat.reduceLeDiff, Nat.reduceMul, Nat.reduceEqDiff, WD, effB, effH, isPriv, isHeap, isImm, zbx, zby, zbz, chkO, setD, dslot, zca, zcb, zcc, zcd, ptrCells_some, F11, z1, z2, z3, l2]
    refine cSplit (fun hlt => ?_) (fun hge => ?_)
    · have hi2 : i < im.strs.length := by have := of_decide_eq_true hlt; omega
      have hsk : im.strs[i]? = some im.strs[i] := List.getElem?_eq_getElem hi2
      generalize im.strs[i] = a at hsk
      simp only [hlt]
      have hat := (hs H).at_ (sz := 1) (i := i) (e := .str a) (by rw [List.getElem?_map, hsk]; rfl) rfl
      simp only [WW, partV, eqCells, eqLf, minV, maxV, ifcV, zaa, zab, zac, zad, zae, zaf, zag, zah, zai, ofConst, ofConst1, List.replicate, zaj, zak, loadOp, Go.Abs.loadCells, binV, zal, pickV, zam, zan, zao, zap, zaq, zar, zas, zat, zau, outR, resAll, resOne, zav, zaw, zax, zay, zaz, zba, zbb, zbc, zbd, zbe, zbf, zbg, zbh, zbi, zbj, zbk, storeOp, storeCell, overlay, zbl, zbm, zbn, lookupOp, keyT, okRes, mapUpdateOp, zbo, zbp, zbq, zbr, zbs, zbt, zbu, Nat.reduceSub, Nat.reduceAdd, Int.reduceLT, Int.reduceLE, Int.reduceAdd, Int.reduceSub, Int.reduceToNat, Int.reduceBEq, Int.reduceBNe, Int.reduceMul, Nat.reduceBEq, Nat.reduceBNe, Nat.reduceLT, Nat.reduceLeDiff, Nat.reduceMul, Nat.reduceEqDiff, WD, effB, effH, isPriv, isHeap, isImm, zbx, zby, zbz, chkO, setD, dslot, zca, zcb, zcc, zcd, ptrCells_some, F11, z2, hat.at1 (hs H), hat.cells]
      refine cSplit (fun h3 => ?_) (fun h3 => ?_)
      · simp only [h3]
        simp only [WW, partV, eqCells, eqLf, minV, maxV, ifcV, zaa, zab, zac, zad, zae, zaf, zag, zah, zai, ofConst, ofConst1, List.replicate, zaj, zak, loadOp, Go.Abs.loadCells, binV, zal, pickV, zam, zan, zao, zap, zaq, zar, zas, zat, zau, outR, resAll, resOne, zav, zaw, zax, zay, zaz, zba, zbb, zbc, zbd, zbe, zbf, zbg, zbh, zbi, zbj, zbk, storeOp, storeCell, overlay, zbl, zbm, zbn, lookupOp, keyT, okRes, mapUpdateOp, zbo, zbp, zbq, zbr, zbs, zbt, zbu, Nat.reduceSub, Nat.reduceAdd, Int.reduceLT, Int.reduceLE, Int.reduceAdd, Int.reduceSub, Int.reduceToNat, Int.reduceBEq, Int.reduceBNe, Int.reduceMul, Nat.reduceBEq, Nat.reduceBNe, Nat.reduceLT, Nat.reduceLeDiff, Nat.reduceMul, Nat.reduceEqDiff, WD, effB, effH, isPriv, isHeap, isImm, zbx, zby, zbz, chkO, setD, dslot, zca, zcb, zcc, zcd, ptrCells_some, F11]
        exact ⟨_, rfl, no⟩
      · have h4 := of_decide_eq_false h3
        simp only [h3]
        simp only [WW, partV, eqCells, eqLf, minV, maxV, ifcV, zaa, zab, zac, zad, zae, zaf, zag, zah, zai, ofConst, ofConst1, List.replicate, zaj, zak, loadOp, Go.Abs.loadCells, binV, zal, pickV, zam, zan, zao, zap, zaq, zar, zas, zat, zau, outR, resAll, resOne, zav, zaw, zax, zay, zaz, zba, zbb, zbc, zbd, zbe, zbf, zbg, zbh, zbi, zbj, zbk, storeOp, storeCell, overlay, zbl, zbm, zbn, lookupOp, keyT, okRes, mapUpdateOp, zbo, zbp, zbq, zbr, zbs, zbt, zbu, Nat.reduceSub, Nat.reduceAdd, Int.reduceLT, Int.reduceLE, Int.reduceAdd, Int.reduceSub, Int.reduceToNat, Int.reduceBEq, Int.reduceBNe, Int.reduceMul, Nat.reduceBEq, Nat.reduceBNe, Nat.reduceLT, Nat.reduceLeDiff, Nat.reduceMul, Nat.reduceEqDiff, WD, effB, effH, isPriv, isHeap, isImm, zbx, zby, zbz, chkO, setD, dslot, zca, zcb, zcc, zcd, ptrCells_some, F11]
        refine ⟨im.strs.length - (i + 1), by omega, i + 1, z, ?_, by omega, rfl, fun j s hj hlt => ?_⟩
        · simp only [WN, firstReg, growAll, zbv, zbw, norm, killS, zag, zah, zaa, zab, zbl, zat, zad, growOne, zae, zaf, zac, zas, zak, Nat.reduceLT, Nat.reduceAdd, zbj, zav, F11, y1, y2, y3]
          rw [IntWalk.i64_in ((i : Int) + 1) (by omega)]; rfl
        · rcases Nat.lt_or_ge j i with h | h
          · exact hall j s hj h
          · obtain rfl : j = i := by omega
            rw [hsk] at hj; cases hj; omega
    · have hi2 : i = im.strs.length := by have := of_decide_eq_false hge; omega
      have m4 : ∀ s ∈ im.strs, s.size ≤ 2000 := fun s hs => by
        obtain ⟨j, hj⟩ := List.getElem?_of_mem hs
        exact hall j s hj (by rw [hi2]; exact (List.getElem?_eq_some_iff.1 hj).1)
      clear hall
      simp only [hge]
      simp only [WW, partV, eqCells, eqLf, minV, maxV, ifcV, zaa, zab, zac, zad, zae, zaf, zag, zah, zai, ofConst, ofConst1, List.replicate, zaj, zak, loadOp, Go.Abs.loadCells, binV, zal, pickV, zam, zan, zao, zap, zaq, zar, zas, zat, zau, outR, resAll, resOne, zav, zaw, zax, zay, zaz, zba, zbb, zbc, zbd, zbe, zbf, zbg, zbh, zbi, zbj, zbk, storeOp, storeCell, overlay, zbl, zbm, zbn, lookupOp, keyT, okRes, mapUpdateOp, zbo, zbp, zbq, zbr, zbs, zbt, zbu, Nat.reduceSub, Nat.reduceAdd, Int.reduceLT, Int.reduceLE, Int.reduceAdd, Int.reduceSub, Int.reduceToNat, Int.reduceBEq, Int.reduceBNe, Int.reduceMul, Nat.reduceBEq, Nat.reduceBNe, Nat.reduceLT, Nat.reduceLeDiff, Nat.reduceMul, Nat.reduceEqDiff, WD, effB, effH, isPriv, isHeap, isImm, zbx, zby, zbz, chkO, setD, dslot, zca, zcb, zcc, zcd, ptrCells_some, F11]
      refine wC_loop _ (fun k st' H' => ∃ (i : Nat) (z : Int), st' = ⟨L11_10 (.box 0) (.v (.int .i64 z)) (.v (.int .i64 i)), [[fu, st, ke, .int .i64 im.globals]], []⟩ ∧ H' = H ∧ i ≤ im.keys.length ∧ k = im.keys.length - i ∧ ∀ (j : Nat) s, im.keys[j]? = some s → j < i → s.length ≤ 100) im.keys.length ⟨0, z, ?_, rfl, by omega, by omega, fun _ _ _ h => absurd h (by omega)⟩ ?_
      · simp only [WN, firstReg, growAll, zbv, zbw, norm, killS, zag, zah, zaa, zab, zbl, zat, zad, growOne, zae, zaf, zac, zas, zak, Nat.reduceLT, Nat.reduceAdd, zbj, zav, F11, L11_10, y1, y2, y3]
        rfl
      · rintro k st' H ⟨i, z, rfl, rfl, hi, rfl, hall⟩
        simp only [L11_10]
        simp only [WW, partV, eqCells, eqLf, minV, maxV, ifcV, zaa, zab, zac, zad, zae, zaf, zag, zah, zai, ofConst, ofConst1, List.replicate, zaj, zak, loadOp, Go.Abs.loadCells, binV, zal, pickV, zam, zan, zao, zap, zaq, zar, zas, zat, zau, outR, resAll, resOne, zav, zaw, zax, zay, zaz, zba, zbb, zbc, zbd, zbe, zbf, zbg, zbh, zbi, zbj, zbk, storeOp, storeCell, overlay, zbl, zbm, zbn, lookupOp, keyT, okRes, mapUpdateOp, zbo, zbp, zbq, zbr, zbs, zbt, zbu, Nat.reduceSub, Nat.reduceAdd, Int.reduceLT, Int.reduceLE, Int.reduceAdd, Int.reduceSub, Int.reduceToNat, Int.reduceBEq, Int.reduceBNe, Int.reduceMul, Nat.reduceBEq, Nat.reduceBNe, Nat.reduceLT, Nat.reduceLeDiff, Nat.reduceMul, Nat.reduceEqDiff, WD, effB, effH, isPriv, isHeap, isImm, zbx, zby, zbz, chkO, setD, dslot, zca, zcb, zcc, zcd, ptrCells_some, F11, z1, z2, z3, l3]
        refine cSplit (fun hlt => ?_) (fun hge => ?_)
        · have hi2 : i < im.keys.length := by have := of_decide_eq_true hlt; omega
          have hsk : im.keys[i]? = some im.keys[i] := List.getElem?_eq_getElem hi2
          generalize im.keys[i] = a at hsk
          obtain ⟨u, hu, hR⟩ := k2.get hsk
          simp only [hlt]
          have hat := (hk H).at_ (sz := 1) (i := i) (e := u) hu (hR []).width1
          have lu := (hR H).len 3
          rw [List.length_map] at lu
          simp only [WW, partV, eqCells, eqLf, minV, maxV, ifcV, zaa, zab, zac, zad, zae, zaf, zag, zah, zai, ofConst, ofConst1, List.replicate, zaj, zak, loadOp, Go.Abs.loadCells, binV, zal, pickV, zam, zan, zao, zap, zaq, zar, zas, zat, zau, outR, resAll, resOne, zav, zaw, zax, zay, zaz, zba, zbb, zbc, zbd, zbe, zbf, zbg, zbh, zbi, zbj, zbk, storeOp, storeCell, overlay, zbl, zbm, zbn, lookupOp, keyT, okRes, mapUpdateOp, zbo, zbp, zbq, zbr, zbs, zbt, zbu, Nat.reduceSub, Nat.reduceAdd, Int.reduceLT, Int.reduceLE, Int.reduceAdd, Int.reduceSub, Int.reduceToNat, Int.reduceBEq, Int.reduceBNe, Int.reduceMul, Nat.reduceBEq, Nat.reduceBNe, Nat.reduceLT, Nat.reduceLeDiff, Nat.reduceMul, Nat.reduceEqDiff, WD, effB, effH, isPriv, isHeap, isImm, zbx, zby, zbz, chkO, setD, dslot, zca, zcb, zcc, zcd, ptrCells_some, F11, z3, hat.at1 (hk H), hat.cells, (hR []).cells1, (hR []).shutIn, lu]
          refine cSplit (fun h3 => ?_) (fun h3 => ?_)
          · simp only [h3]
            simp only [WW, partV, eqCells, eqLf, minV, maxV, ifcV, zaa, zab, zac, zad, zae, zaf, zag, zah, zai, ofConst, ofConst1, List.replicate, zaj, zak, loadOp, Go.Abs.loadCells, binV, zal, pickV, zam, zan, zao, zap, zaq, zar, zas, zat, zau, outR, resAll, resOne, zav, zaw, zax, zay, zaz, zba, zbb, zbc, zbd, zbe, zbf, zbg, zbh, zbi, zbj, zbk, storeOp, storeCell, overlay, zbl, zbm, zbn, lookupOp, keyT, okRes, mapUpdateOp, zbo, zbp, zbq, zbr, zbs, zbt, zbu, Nat.reduceSub, Nat.reduceAdd, Int.reduceLT, Int.reduceLE, Int.reduceAdd, Int.reduceSub, Int.reduceToNat, Int.reduceBEq, Int.reduceBNe, Int.reduceMul, Nat.reduceBEq, Nat.reduceBNe, Nat.reduceLT, Nat.reduceLeDiff, Nat.reduceMul, Nat.reduceEqDiff, WD, effB, effH, isPriv, isHeap, isImm, zbx, zby, zbz, chkO, setD, dslot, zca, zcb, zcc, zcd, ptrCells_some, F11]
            exact ⟨_, rfl, no⟩
          · have h4 := of_decide_eq_false h3
            simp only [h3]
            simp only [WW, partV, eqCells, eqLf, minV, maxV, ifcV, zaa, zab, zac, zad, zae, zaf, zag, zah, zai, ofConst, ofConst1, List.replicate, zaj, zak, loadOp, Go.Abs.loadCells, binV, zal, pickV, zam, zan, zao, zap, zaq, zar, zas, zat, zau, outR, resAll, resOne, zav, zaw, zax, zay, zaz, zba, zbb, zbc, zbd, zbe, zbf, zbg, zbh, zbi, zbj, zbk, storeOp, storeCell, overlay, zbl, zbm, zbn, lookupOp, keyT, okRes, mapUpdateOp, zbo, zbp, zbq, zbr, zbs, zbt, zbu, Nat.reduceSub, Nat.reduceAdd, Int.reduceLT, Int.reduceLE, Int.reduceAdd, Int.reduceSub, Int.reduceToNat, Int.reduceBEq, Int.reduceBNe, Int.reduceMul, Nat.reduceBEq, Nat.reduceBNe, Nat.reduceLT, Nat.reduceLeDiff, Nat.reduceMul, Nat.reduceEqDiff, WD, effB, effH, isPriv, isHeap, isImm, zbx, zby, zbz, chkO, setD, dslot, zca, zcb, zcc, zcd, ptrCells_some, F11]
            refine ⟨im.keys.length - (i + 1), by omega, i + 1, z, ?_, by omega, rfl, fun j s hj hlt => ?_⟩
            · simp only [WN, firstReg, growAll, zbv, zbw, norm, killS, zag, zah, zaa, zab, zbl, zat, zad, growOne, zae, zaf, zac, zas, zak, Nat.reduceLT, Nat.reduceAdd, zbj, zav, F11, y1, y2, y3]
              rw [IntWalk.i64_in ((i : Int) + 1) (by omega)]; rfl
            · rcases Nat.lt_or_ge j i with h | h
              · exact hall j s hj h
              · obtain rfl : j = i := by omega
                rw [hsk] at hj; cases hj; omega
        · have hi2 : i = im.keys.length := by have := of_decide_eq_false hge; omega
          have m5 : ∀ s ∈ im.keys, s.length ≤ 100 := fun s hs => by
            obtain ⟨j, hj⟩ := List.getElem?_of_mem hs
            exact hall j s hj (by rw [hi2]; exact (List.getElem?_eq_some_iff.1 hj).1)
          clear hall
          simp only [hge]
          simp only [WW, partV, eqCells, eqLf, minV, maxV, ifcV, zaa, zab, zac, zad, zae, zaf, zag, zah, zai, ofConst, ofConst1, List.replicate, zaj, zak, loadOp, Go.Abs.loadCells, binV, zal, pickV, zam, zan, zao, zap, zaq, zar, zas, zat, zau, outR, resAll, resOne, zav, zaw, zax, zay, zaz, zba, zbb, zbc, zbd, zbe, zbf, zbg, zbh, zbi, zbj, zbk, storeOp, storeCell, overlay, zbl, zbm, zbn, lookupOp, keyT, okRes, mapUpdateOp, zbo, zbp, zbq, zbr, zbs, zbt, zbu, Nat.reduceSub, Nat.reduceAdd, Int.reduceLT, Int.reduceLE, Int.reduceAdd, Int.reduceSub, Int.reduceToNat, Int.reduceBEq, Int.reduceBNe, Int.reduceMul, Nat.reduceBEq, Nat.reduceBNe, Nat.reduceLT, Nat.reduceLeDiff, Nat.reduceMul, Nat.reduceEqDiff, WD, effB, effH, isPriv, isHeap, isImm, zbx, zby, zbz, chkO, setD, dslot, zca, zcb, zcc, zcd, ptrCells_some, F11]
          refine wC_loop _ (fun k st' H' => ∃ (i : Nat) (z : Int), st' = ⟨L11_15 (.box 0) (.v (.int .i64 z)) (.v (.int .i64 i)), [[fu, st, ke, .int .i64 im.globals]], []⟩ ∧ H' = H ∧ i ≤ im.funs.length ∧ k = im.funs.length - i ∧ ∀ (j : Nat) s, im.funs[j]? = some s → j < i → fnSm s) im.funs.length ⟨0, z, ?_, rfl, by omega, by omega, fun _ _ _ h => absurd h (by omega)⟩ ?_
          · simp only [WN, firstReg, growAll, zbv, zbw, norm, killS, zag, zah, zaa, zab, zbl, zat, zad, growOne, zae, zaf, zac, zas, zak, Nat.reduceLT, Nat.reduceAdd, zbj, zav, F11, L11_15, y1, y2, y3]
            rfl
          · rintro k st' H ⟨i, z, rfl, rfl, hi, rfl, hall⟩
            simp only [L11_15]
            simp only [WW, partV, eqCells, eqLf, minV, maxV, ifcV, zaa, zab, zac, zad, zae, zaf, zag, zah, zai, ofConst, ofConst1, List.replicate, zaj, zak, loadOp, Go.Abs.loadCells, binV, zal, pickV, zam, zan, zao, zap, zaq, zar, zas, zat, zau, outR, resAll, resOne, zav, zaw, zax, zay, zaz, zba, zbb, zbc, zbd, zbe, zbf, zbg, zbh, zbi, zbj, zbk, storeOp, storeCell, overlay, zbl, zbm, zbn, lookupOp, keyT, okRes, mapUpdateOp, zbo, zbp, zbq, zbr, zbs, zbt, zbu, Nat.reduceSub, Nat.reduceAdd, Int.reduceLT, Int.reduceLE, Int.reduceAdd, Int.reduceSub, Int.reduceToNat, Int.reduceBEq, Int.reduceBNe, Int.reduceMul, Nat.reduceBEq, Nat.reduceBNe, Nat.reduceLT, Nat.reduceLeDiff, Nat.reduceMul, Nat.reduceEqDiff, WD, effB, effH, isPriv, isHeap, isImm, zbx, zby, zbz, chkO, setD, dslot, zca, zcb, zcc, zcd, ptrCells_some, F11, z1, z2, z3, l1]
            refine cSplit (fun hlt => ?_) (fun hge => ?_)
            · have hi2 : i < im.funs.length := by have := of_decide_eq_true hlt; omega
              have hsk : im.funs[i]? = some im.funs[i] := List.getElem?_eq_getElem hi2
              generalize im.funs[i] = a at hsk
              obtain ⟨u, hu, ⟨⟨k1, k2', k3, k4, rfl, q1, q2, q3, q4⟩⟩⟩ := f2.get hsk
              simp only [hlt]
              have hat := (hf H).at_ (sz := 6) (i := i) hu rfl
              have r1 := (q1 H).len 3
              have r2 := (q2 H).len 105
              have r3 := (q3 H).len 52
              have r4 := (q4 H).len 107
              rw [List.length_map] at r1 r2 r3 r4
              simp only [WW, partV, eqCells, eqLf, minV, maxV, ifcV, zaa, zab, zac, zad, zae, zaf, zag, zah, zai, ofConst, ofConst1, List.replicate, zaj, zak, loadOp, Go.Abs.loadCells, binV, zal, pickV, zam, zan, zao, zap, zaq, zar, zas, zat, zau, outR, resAll, resOne, zav, zaw, zax, zay, zaz, zba, zbb, zbc, zbd, zbe, zbf, zbg, zbh, zbi, zbj, zbk, storeOp, storeCell, overlay, zbl, zbm, zbn, lookupOp, keyT, okRes, mapUpdateOp, zbo, zbp, zbq, zbr, zbs, zbt, zbu, Nat.reduceSub, Nat.reduceAdd, Int.reduceLT, Int.reduceLE, Int.reduceAdd, Int.reduceSub, Int.reduceToNat, Int.reduceBEq, Int.reduceBNe, Int.reduceMul, Nat.reduceBEq, Nat.reduceBNe, Nat.reduceLT, Nat.reduceLeDiff, Nat.reduceMul, Nat.reduceEqDiff, WD, effB, effH, isPriv, isHeap, isImm, zbx, zby, zbz, chkO, setD, dslot, zca, zcb, zcc, zcd, ptrCells_some, F11, z1, hat.at1 (hf H), hat.cells, (q1 []).cells1, (q2 []).cells1, (q3 []).cells1, (q4 []).cells1, (q1 []).shutIn, (q2 []).shutIn, (q3 []).shutIn, (q4 []).shutIn, (q1 []).ok, (q2 []).ok, (q3 []).ok, (q4 []).ok, r1, r2, r3, r4]
              refine gSplit (fun h0 => ?_) (fun h0 => ?_)
              · simp only [h0]
                simp only [WW, partV, eqCells, eqLf, minV, maxV, ifcV, zaa, zab, zac, zad, zae, zaf, zag, zah, zai, ofConst, ofConst1, List.replicate, zaj, zak, loadOp, Go.Abs.loadCells, binV, zal, pickV, zam, zan, zao, zap, zaq, zar, zas, zat, zau, outR, resAll, resOne, zav, zaw, zax, zay, zaz, zba, zbb, zbc, zbd, zbe, zbf, zbg, zbh, zbi, zbj, zbk, storeOp, storeCell, overlay, zbl, zbm, zbn, lookupOp, keyT, okRes, mapUpdateOp, zbo, zbp, zbq, zbr, zbs, zbt, zbu, Nat.reduceSub, Nat.reduceAdd, Int.reduceLT, Int.reduceLE, Int.reduceAdd, Int.reduceSub, Int.reduceToNat, Int.reduceBEq, Int.reduceBNe, Int.reduceMul, Nat.reduceBEq, Nat.reduceBNe, Nat.reduceLT, Nat.reduceLeDiff, Nat.reduceMul, Nat.reduceEqDiff, WD, effB, effH, isPriv, isHeap, isImm, zbx, zby, zbz, chkO, setD, dslot, zca, zcb, zcc, zcd, ptrCells_some, F11, (q1 []).cells1, (q2 []).cells1, (q3 []).cells1, (q4 []).cells1, (q1 []).shutIn, (q2 []).shutIn, (q3 []).shutIn, (q4 []).shutIn, r1, r2, r3, r4]
                exact ⟨_, rfl, no⟩
              · simp only [h0]
                simp only [WW, partV, eqCells, eqLf, minV, maxV, ifcV, zaa, zab, zac, zad, zae, zaf, zag, zah, zai, ofConst, ofConst1, List.replicate, zaj, zak, loadOp, Go.Abs.loadCells, binV, zal, pickV, zam, zan, zao, zap, zaq, zar, zas, zat, zau, outR, resAll, resOne, zav, zaw, zax, zay, zaz, zba, zbb, zbc, zbd, zbe, zbf, zbg, zbh, zbi, zbj, zbk, storeOp, storeCell, overlay, zbl, zbm, zbn, lookupOp, keyT, okRes, mapUpdateOp, zbo, zbp, zbq, zbr, zbs, zbt, zbu, Nat.reduceSub, Nat.reduceAdd, Int.reduceLT, Int.reduceLE, Int.reduceAdd, Int.reduceSub, Int.reduceToNat, Int.reduceBEq, Int.reduceBNe, Int.reduceMul, Nat.reduceBEq, Nat.reduceBNe, Nat.reduceLT, Nat.reduceLeDiff, Nat.reduceMul, Nat.reduceEqDiff, WD, effB, effH, isPriv, isHeap, isImm, zbx, zby, zbz, chkO, setD, dslot, zca, zcb, zcc, zcd, ptrCells_some, F11, (q1 []).cells1, (q2 []).cells1, (q3 []).cells1, (q4 []).cells1, (q1 []).shutIn, (q2 []).shutIn, (q3 []).shutIn, (q4 []).shutIn, r1, r2, r3, r4]
                refine gSplit (fun h1 => ?_) (fun h1 => ?_)
                · simp only [h1]
                  simp only [WW, partV, eqCells, eqLf, minV, maxV, ifcV, zaa, zab, zac, zad, zae, zaf, zag, zah, zai, ofConst, ofConst1, List.replicate, zaj, zak, loadOp, Go.Abs.loadCells, binV, zal, pickV, zam, zan, zao, zap, zaq, zar, zas, zat, zau, outR, resAll, resOne, zav, zaw, zax, zay, zaz, zba, zbb, zbc, zbd, zbe, zbf, zbg, zbh, zbi, zbj, zbk, storeOp, storeCell, overlay, zbl, zbm, zbn, lookupOp, keyT, okRes, mapUpdateOp, zbo, zbp, zbq, zbr, zbs, zbt, zbu, Nat.reduceSub, Nat.reduceAdd, Int.reduceLT, Int.reduceLE, Int.reduceAdd, Int.reduceSub, Int.reduceToNat, Int.reduceBEq, Int.reduceBNe, Int.reduceMul, Nat.reduceBEq, Nat.reduceBNe, Nat.reduceLT, Nat.reduceLeDiff, Nat.reduceMul, Nat.reduceEqDiff, WD, effB, effH, isPriv, isHeap, isImm, zbx, zby, zbz, chkO, setD, dslot, zca, zcb, zcc, zcd, ptrCells_some, F11, (q1 []).cells1, (q2 []).cells1, (q3 []).cells1, (q4 []).cells1, (q1 []).shutIn, (q2 []).shutIn, (q3 []).shutIn, (q4 []).shutIn, r1, r2, r3, r4]
                  exact ⟨_, rfl, no⟩
                · simp only [h1]
                  simp only [WW, partV, eqCells, eqLf, minV, maxV, ifcV, zaa, zab, zac, zad, zae, zaf, zag, zah, zai, ofConst, ofConst1, List.replicate, zaj, zak, loadOp, Go.Abs.loadCells, binV, zal, pickV, zam, zan, zao, zap, zaq, zar, zas, zat, zau, outR, resAll, resOne, zav, zaw, zax, zay, zaz, zba, zbb, zbc, zbd, zbe, zbf, zbg, zbh, zbi, zbj, zbk, storeOp, storeCell, overlay, zbl, zbm, zbn, lookupOp, keyT, okRes, mapUpdateOp, zbo, zbp, zbq, zbr, zbs, zbt, zbu, Nat.reduceSub, Nat.reduceAdd, Int.reduceLT, Int.reduceLE, Int.reduceAdd, Int.reduceSub, Int.reduceToNat, Int.reduceBEq, Int.reduceBNe, Int.reduceMul, Nat.reduceBEq, Nat.reduceBNe, Nat.reduceLT, Nat.reduceLeDiff, Nat.reduceMul, Nat.reduceEqDiff, WD, effB, effH, isPriv, isHeap, isImm, zbx, zby, zbz, chkO, setD, dslot, zca, zcb, zcc, zcd, ptrCells_some, F11, (q1 []).cells1, (q2 []).cells1, (q3 []).cells1, (q4 []).cells1, (q1 []).shutIn, (q2 []).shutIn, (q3 []).shutIn, (q4 []).shutIn, r1, r2, r3, r4]
                  refine gSplit (fun h2 => ?_) (fun h2 => ?_)
                  · simp only [h2]
                    simp only [WW, partV, eqCells, eqLf, minV, maxV, ifcV, zaa, zab, zac, zad, zae, zaf, zag, zah, zai, ofConst, ofConst1, List.replicate, zaj, zak, loadOp, Go.Abs.loadCells, binV, zal, pickV, zam, zan, zao, zap, zaq, zar, zas, zat, zau, outR, resAll, resOne, zav, zaw, zax, zay, zaz, zba, zbb, zbc, zbd, zbe, zbf, zbg, zbh, zbi, zbj, zbk, storeOp, storeCell, overlay, zbl, zbm, zbn, lookupOp, keyT, okRes, mapUpdateOp, zbo, zbp, zbq, zbr, zbs, zbt, zbu, Nat.reduceSub, Nat.reduceAdd, Int.reduceLT, Int.reduceLE, Int.reduceAdd, Int.reduceSub, Int.reduceToNat, Int.reduceBEq, Int.reduceBNe, Int.reduceMul, Nat.reduceBEq, Nat.reduceBNe, Nat.reduceLT, Nat.reduceLeDiff, Nat.reduceMul, Nat.reduceEqDiff, WD, effB, effH, isPriv, isHeap, isImm, zbx, zby, zbz, chkO, setD, dslot, zca, zcb, zcc, zcd, ptrCells_some, F11, (q1 []).cells1, (q2 []).cells1, (q3 []).cells1, (q4 []).cells1, (q1 []).shutIn, (q2 []).shutIn, (q3 []).shutIn, (q4 []).shutIn, r1, r2, r3, r4]
                    exact ⟨_, rfl, no⟩
                  · simp only [h2]
                    simp only [WW, partV, eqCells, eqLf, minV, maxV, ifcV, zaa, zab, zac, zad, zae, zaf, zag, zah, zai, ofConst, ofConst1, List.replicate, zaj, zak, loadOp, Go.Abs.loadCells, binV, zal, pickV, zam, zan, zao, zap, zaq, zar, zas, zat, zau, outR, resAll, resOne, zav, zaw, zax, zay, zaz, zba, zbb, zbc, zbd, zbe, zbf, zbg, zbh, zbi, zbj, zbk, storeOp, storeCell, overlay, zbl, zbm, zbn, lookupOp, keyT, okRes, mapUpdateOp, zbo, zbp, zbq, zbr, zbs, zbt, zbu, Nat.reduceSub, Nat.reduceAdd, Int.reduceLT, Int.reduceLE, Int.reduceAdd, Int.reduceSub, Int.reduceToNat, Int.reduceBEq, Int.reduceBNe, Int.reduceMul, Nat.reduceBEq, Nat.reduceBNe, Nat.reduceLT, Nat.reduceLeDiff, Nat.reduceMul, Nat.reduceEqDiff, WD, effB, effH, isPriv, isHeap, isImm, zbx, zby, zbz, chkO, setD, dslot, zca, zcb, zcc, zcd, ptrCells_some, F11, (q1 []).cells1, (q2 []).cells1, (q3 []).cells1, (q4 []).cells1, (q1 []).shutIn, (q2 []).shutIn, (q3 []).shutIn, (q4 []).shutIn, r1, r2, r3, r4]
                    refine cSplit (fun h3 => ?_) (fun h3 => ?_)
                    · simp only [h3]
                      simp only [WW, partV, eqCells, eqLf, minV, maxV, ifcV, zaa, zab, zac, zad, zae, zaf, zag, zah, zai, ofConst, ofConst1, List.replicate, zaj, zak, loadOp, Go.Abs.loadCells, binV, zal, pickV, zam, zan, zao, zap, zaq, zar, zas, zat, zau, outR, resAll, resOne, zav, zaw, zax, zay, zaz, zba, zbb, zbc, zbd, zbe, zbf, zbg, zbh, zbi, zbj, zbk, storeOp, storeCell, overlay, zbl, zbm, zbn, lookupOp, keyT, okRes, mapUpdateOp, zbo, zbp, zbq, zbr, zbs, zbt, zbu, Nat.reduceSub, Nat.reduceAdd, Int.reduceLT, Int.reduceLE, Int.reduceAdd, Int.reduceSub, Int.reduceToNat, Int.reduceBEq, Int.reduceBNe, Int.reduceMul, Nat.reduceBEq, Nat.reduceBNe, Nat.reduceLT, Nat.reduceLeDiff, Nat.reduceMul, Nat.reduceEqDiff, WD, effB, effH, isPriv, isHeap, isImm, zbx, zby, zbz, chkO, setD, dslot, zca, zcb, zcc, zcd, ptrCells_some, F11, (q1 []).cells1, (q2 []).cells1, (q3 []).cells1, (q4 []).cells1, (q1 []).shutIn, (q2 []).shutIn, (q3 []).shutIn, (q4 []).shutIn, r1, r2, r3, r4]
                      exact ⟨_, rfl, no⟩
                    · simp only [h3]
                      simp only [WW, partV, eqCells, eqLf, minV, maxV, ifcV, zaa, zab, zac, zad, zae, zaf, zag, zah, zai, ofConst, ofConst1, List.replicate, zaj, zak, loadOp, Go.Abs.loadCells, binV, zal, pickV, zam, zan, zao, zap, zaq, zar, zas, zat, zau, outR, resAll, resOne, zav, zaw, zax, zay, zaz, zba, zbb, zbc, zbd, zbe, zbf, zbg, zbh, zbi, zbj, zbk, storeOp, storeCell, overlay, zbl, zbm, zbn, lookupOp, keyT, okRes, mapUpdateOp, zbo, zbp, zbq, zbr, zbs, zbt, zbu, Nat.reduceSub, Nat.reduceAdd, Int.reduceLT, Int.reduceLE, Int.reduceAdd, Int.reduceSub, Int.reduceToNat, Int.reduceBEq, Int.reduceBNe, Int.reduceMul, Nat.reduceBEq, Nat.reduceBNe, Nat.reduceLT, Nat.reduceLeDiff, Nat.reduceMul, Nat.reduceEqDiff, WD, effB, effH, isPriv, isHeap, isImm, zbx, zby, zbz, chkO, setD, dslot, zca, zcb, zcc, zcd, ptrCells_some, F11, (q1 []).cells1, (q2 []).cells1, (q3 []).cells1, (q4 []).cells1, (q1 []).shutIn, (q2 []).shutIn, (q3 []).shutIn, (q4 []).shutIn, r1, r2, r3, r4]
                      have t0 := of_decide_eq_false h0
                      have t1 := of_decide_eq_false h1
                      have t2 := of_decide_eq_false h2
                      have t3 := of_decide_eq_false h3
                      refine ⟨im.funs.length - (i + 1), by omega, i + 1, IntKind.i64.wrap (z + (a.code.length : Nat)), ?_, by omega, rfl, fun j s hj hlt => ?_⟩
                      · simp only [WN, firstReg, growAll, zbv, zbw, norm, killS, zag, zah, zaa, zab, zbl, zat, zad, growOne, zae, zaf, zac, zas, zak, Nat.reduceLT, Nat.reduceAdd, zbj, zav, F11, y1, y2, y3]
                        rw [IntWalk.i64_in ((i : Int) + 1) (by omega)]; rfl
                      · rcases Nat.lt_or_ge j i with h | h
                        · exact hall j s hj h
                        · obtain rfl : j = i := by omega
                          rw [hsk] at hj; cases hj; exact ⟨by omega, by omega, by omega, by omega⟩
            · have hi2 : i = im.funs.length := by have := of_decide_eq_false hge; omega
              have m6 : ∀ s ∈ im.funs, fnSm s := fun s hs => by
                obtain ⟨j, hj⟩ := List.getElem?_of_mem hs
                exact hall j s hj (by rw [hi2]; exact (List.getElem?_eq_some_iff.1 hj).1)
              simp only [hge]
              simp only [WW, partV, eqCells, eqLf, minV, maxV, ifcV, zaa, zab, zac, zad, zae, zaf, zag, zah, zai, ofConst, ofConst1, List.replicate, zaj, zak, loadOp, Go.Abs.loadCells, binV, zal, pickV, zam, zan, zao, zap, zaq, zar, zas, zat, zau, outR, resAll, resOne, zav, zaw, zax, zay, zaz, zba, zbb, zbc, zbd, zbe, zbf, zbg, zbh, zbi, zbj, zbk, storeOp, storeCell, overlay, zbl, zbm, zbn, lookupOp, keyT, okRes, mapUpdateOp, zbo, zbp, zbq, zbr, zbs, zbt, zbu, Nat.reduceSub, Nat.reduceAdd, Int.reduceLT, Int.reduceLE, Int.reduceAdd, Int.reduceSub, Int.reduceToNat, Int.reduceBEq, Int.reduceBNe, Int.reduceMul, Nat.reduceBEq, Nat.reduceBNe, Nat.reduceLT, Nat.reduceLeDiff, Nat.reduceMul, Nat.reduceEqDiff, WD, effB, effH, isPriv, isHeap, isImm, zbx, zby, zbz, chkO, setD, dslot, zca, zcb, zcc, zcd, ptrCells_some, F11]
              exact ⟨_, rfl, fun _ => ⟨m1, m2, m3, m4, m5, m6⟩⟩
theorem strOf_bs (l : List Nat) : ∃ s, strOf (bs l) = some s := by
  have h0 : ∀ l : List Nat, ∃ s, Abs.bytesOf (bs l) = some s := fun l => by
    induction l with
    | nil => exact ⟨[], rfl⟩
    | cons a l ih =>
      obtain ⟨s, hs⟩ := ih
      refine ⟨UInt8.ofNat a :: s, ?_⟩
      show ((some (UInt8.ofNat (a : Int).toNat)).bind fun b => (Abs.bytesOf (bs l)).map (b :: ·)) = _
      rw [hs, Int.toNat_natCast]; rfl
  obtain ⟨s, hs⟩ := h0 l
  exact ⟨⟨s.toArray⟩, by simp [strOf, hs]⟩
theorem liveW (H : Hp) (K : Out → Hp → Prop) : wpCall (evW Tryd.prog notes) 12 [] H K = K (.ret (.bool true) false) H := wpCall_eq (live_eq H)
theorem numW (n : Int) (H : Hp) (K : Out → Hp → Prop) : wpCall (evW Tryd.prog notes) 15 [.int .i64 n] H K = K (.ret (.int .i64 n) false) H := wpCall_eq (num_eq n H)
theorem u3 : Tryd.prog.underlying 3 = some (.int .i64) := by kernel_rfl
theorem u9 : Tryd.prog.underlying 9 = some .string := by kernel_rfl
theorem u22 : Tryd.prog.underlying 22 = some (.slice 50) := by kernel_rfl
theorem u23 : Tryd.prog.underlying 23 = some (.slice 9) := by kernel_rfl
theorem u24 : Tryd.prog.underlying 24 = some (.slice 45) := by kernel_rfl
theorem u45 : Tryd.prog.underlying 45 = some (.slice 3) := by kernel_rfl
theorem u46 : Tryd.prog.underlying 46 = some (.slice 105) := by kernel_rfl
theorem u47 : Tryd.prog.underlying 47 = some (.slice 52) := by kernel_rfl
theorem u48 : Tryd.prog.underlying 48 = some (.slice 107) := by kernel_rfl
theorem s26 : tysOf Tryd.prog 26 = some [22, 23, 24, 3] := by kernel_rfl
theorem s50 : tysOf Tryd.prog 50 = some [3, 3, 45, 46, 47, 48] := by kernel_rfl
theorem s52 : tysOf Tryd.prog 52 = some [3, 3, 3] := by kernel_rfl
theorem s105 : tysOf Tryd.prog 105 = some [3, 3] := by kernel_rfl
theorem s107 : tysOf Tryd.prog 107 = some [3, 3, 3, 3] := by kernel_rfl
theorem ag26 : isAggT Tryd.prog 26 = true := by kernel_rfl
theorem ag50 : isAggT Tryd.prog 50 = true := by kernel_rfl
theorem ag52 : isAggT Tryd.prog 52 = true := by kernel_rfl
theorem ag105 : isAggT Tryd.prog 105 = true := by kernel_rfl
theorem ag107 : isAggT Tryd.prog 107 = true := by kernel_rfl
theorem ag3 : isAggT Tryd.prog 3 = false := by kernel_rfl
theorem ag9 : isAggT Tryd.prog 9 = false := by kernel_rfl
theorem ag45 : isAggT Tryd.prog 45 = false := by kernel_rfl
theorem all2_rows {α : Type} {R : V → α → Prop} {f : List V → V} : ∀ {rows : List (List V)}, (∀ r ∈ rows, ∃ a, R (f r) a) → ∃ us : List α, All2 R (rows.map f) us
  | [], _ => ⟨[], .nil⟩
  | r :: rows, h => by
    obtain ⟨a, ha⟩ := h r (List.mem_cons_self ..)
    obtain ⟨us, hus⟩ := all2_rows (rows := rows) fun q hq => h q (List.mem_cons_of_mem _ hq)
    exact ⟨a :: us, .cons ha hus⟩
theorem all2_eq {α : Type} {g : α → V} : ∀ {vs : List V} {us : List α}, All2 (fun v a => v = g a) vs us → vs = us.map g
  | _, _, .nil => rfl
  | _, _, .cons h t => by rw [List.map_cons, h, all2_eq t]
theorem rows_as {α : Type} {g : α → V} {f : List V → V} {rows : List (List V)} (h : ∀ r ∈ rows, ∃ a, f r = g a) : ∃ us : List α, rows.map f = us.map g := by
  obtain ⟨us, hus⟩ := all2_rows (R := fun v a => v = g a) h
  exact ⟨us, all2_eq hus⟩
theorem ints_tv {d : Nat} {vs : List V} (h : Tv Tryd.prog (d + 2) 45 vs) : ∃ (x : V) (ns : List Int), vs = [x] ∧ RdA x (ns.map intV) := by
  obtain ⟨x, rows, rfl, hx, _, hr⟩ := tv_slice h u45
  rw [ag3] at hx
  obtain ⟨ns, e⟩ := rows_as (f := mkV false) (g := intV) (rows := rows) fun r hr' => by
    obtain ⟨n, rfl, _⟩ := tv_int (hr r hr') u3
    exact ⟨n, rfl⟩
  rw [e] at hx
  exact ⟨x, ns, rfl, hx⟩
theorem fn_tv {vs : List V} (h : Tv Tryd.prog 6 50 vs) : ∃ c, Nonempty (FnV (.agg vs) c) := by
  obtain ⟨a1, _, rfl, h1, a2, _, rfl, h2, a3, _, rfl, h3, a4, _, rfl, h4, a5, _, rfl, h5, a6, _, rfl, h6, rfl⟩ := tv_fields h s50
  obtain ⟨n1, rfl, _⟩ := tv_int h1 u3
  obtain ⟨n2, rfl, _⟩ := tv_int h2 u3
  obtain ⟨k1, boxes, rfl, q1⟩ := ints_tv h3
  obtain ⟨k2, r2, rfl, q2, _, t2⟩ := tv_slice h4 u46
  obtain ⟨k3, r3, rfl, q3, _, t3⟩ := tv_slice h5 u47
  obtain ⟨k4, r4, rfl, q4, _, t4⟩ := tv_slice h6 u48
  rw [ag105] at q2
  rw [ag52] at q3
  rw [ag107] at q4
  obtain ⟨caps, e2⟩ := rows_as (f := mkV true) (g := capV) (rows := r2) fun r hr => by
    obtain ⟨b1, _, rfl, g1, b2, _, rfl, g2, rfl⟩ := tv_fields (t2 r hr) s105
    obtain ⟨x1, rfl, _⟩ := tv_int g1 u3
    obtain ⟨x2, rfl, _⟩ := tv_int g2 u3
    exact ⟨(x1, x2), rfl⟩
  obtain ⟨code, e3⟩ := rows_as (f := mkV true) (g := inV) (rows := r3) fun r hr => by
    obtain ⟨b1, _, rfl, g1, b2, _, rfl, g2, b3, _, rfl, g3, rfl⟩ := tv_fields (t3 r hr) s52
    obtain ⟨x1, rfl, _⟩ := tv_int g1 u3
    obtain ⟨x2, rfl, _⟩ := tv_int g2 u3
    obtain ⟨x3, rfl, _⟩ := tv_int g3 u3
    exact ⟨(x1, x2, x3), rfl⟩
  obtain ⟨tries, e4⟩ := rows_as (f := mkV true) (g := tryV) (rows := r4) fun r hr => by
    obtain ⟨b1, _, rfl, g1, b2, _, rfl, g2, b3, _, rfl, g3, b4, _, rfl, g4, rfl⟩ := tv_fields (t4 r hr) s107
    obtain ⟨x1, rfl, _⟩ := tv_int g1 u3
    obtain ⟨x2, rfl, _⟩ := tv_int g2 u3
    obtain ⟨x3, rfl, _⟩ := tv_int g3 u3
    obtain ⟨x4, rfl, _⟩ := tv_int g4 u3
    exact ⟨(x1, x2, x3, x4), rfl⟩
  rw [e2] at q2
  rw [e3] at q3
  rw [e4] at q4
  exact ⟨⟨n1, n2, boxes, caps, code, tries⟩, ⟨⟨k1, k2, k3, k4, rfl, q1, q2, q3, q4⟩⟩⟩
theorem im_tv {v0 : List V} (h0 : Tv Tryd.prog 8 26 v0) : ∃ im, Nonempty (ImV (mkV (isAggT Tryd.prog 26) v0) im) := by
  obtain ⟨a, _, rfl, ha, b, _, rfl, hb, c, _, rfl, hc, d, _, rfl, hd, rfl⟩ := tv_fields h0 s26
  obtain ⟨g, rfl, _⟩ := tv_int hd u3
  obtain ⟨fu, fr, rfl, hfu, hfl, hfr⟩ := tv_slice ha u22
  obtain ⟨st, sr, rfl, hst, hsl, hsr⟩ := tv_slice hb u23
  obtain ⟨ke, kr, rfl, hke, hkl, hkr⟩ := tv_slice hc u24
  rw [ag26]
  rw [ag50] at hfu
  rw [ag9] at hst
  rw [ag45] at hke
  obtain ⟨strs, es⟩ := rows_as (f := mkV false) (g := V.str) (rows := sr) fun r hr => by
    obtain ⟨s, rfl, _⟩ := tv_str (hsr r hr) u9
    exact ⟨s, rfl⟩
  obtain ⟨keys, k2⟩ := all2_rows (R := fun v (l : List Int) => RdA v (l.map intV)) (f := mkV false) (rows := kr) fun r hr => by
    obtain ⟨x, ns, rfl, hx⟩ := ints_tv (hkr r hr)
    exact ⟨ns, hx⟩
  obtain ⟨funs, f2⟩ := all2_rows (R := fun v (c : FnM) => Nonempty (FnV v c)) (f := mkV true) (rows := fr) fun r hr => fn_tv (hfr r hr)
  rw [es] at hst
  exact ⟨⟨funs, strs, keys, g⟩, ⟨⟨fu, st, ke, _, _, rfl, hfu, hst, hke, f2, k2⟩⟩⟩
theorem u29 : Tryd.prog.underlying 29 = some (.slice 5) := by kernel_rfl
theorem u5 : Tryd.prog.underlying 5 = some (.int .u8) := by kernel_rfl
theorem ag5 : isAggT Tryd.prog 5 = false := by kernel_rfl
theorem ag29 : isAggT Tryd.prog 29 = false := by kernel_rfl
theorem bytes_tv {v : List V} (h : Tv Tryd.prog 8 29 v) : ∃ (x : V) (L : List Nat), mkV (isAggT Tryd.prog 29) v = x ∧ RdA x (bs L) ∧ ∀ y ∈ L, y < 256 := by
  obtain ⟨x, rows, rfl, hx, _, hr⟩ := tv_slice h u29
  rw [ag5] at hx
  obtain ⟨ns, hns⟩ := all2_rows (R := fun v (n : Nat) => v = .int .u8 (n : Nat) ∧ n < 256) (f := mkV false) (rows := rows) fun r hr' => by
    obtain ⟨n, rfl, hw⟩ := tv_int (hr r hr') u5
    simp [Lit.wf, IntKind.min, IntKind.max, IntKind.signed, IntKind.bits] at hw
    exact ⟨n.toNat, by show V.int .u8 n = _; congr 1; omega, by omega⟩
  have key : ∀ (vs : List V) (us : List Nat), All2 (fun v (n : Nat) => v = .int .u8 (n : Nat) ∧ n < 256) vs us → vs = bs us ∧ ∀ y ∈ us, y < 256 := by
    intro vs us h
    induction h with
    | nil => exact ⟨rfl, fun y hy => by cases hy⟩
    | cons h _ ih =>
      refine ⟨by rw [h.1, ih.1]; rfl, fun y hy => ?_⟩
      rcases List.mem_cons.1 hy with rfl | hy
      · exact h.2
      · exact ih.2 y hy
  obtain ⟨e, hl⟩ := key _ _ hns
  rw [e] at hx
  exact ⟨x, ns, by rw [ag29]; rfl, hx, hl⟩
end Go.Proofs.YtgjobbmbbedecaaDoor

/- The statement on answers as new memory. -/
namespace Go.Proofs.YtgjobbmbbedecaaDoor
open Go Go.Abs Go.Proofs
set_option maxRecDepth 100000
set_option maxHeartbeats 8000000
set_option linter.unusedVariables false
set_option linter.unusedSimpArgs false
theorem encN_lt : ∀ (k n : Nat), n < k → ∀ y ∈ encN n, y < 256
  | 0, n, h, y, hy => absurd h (by omega)
  | k + 1, n, h, y, hy => by
    by_cases hn : n < 128
    · rw [encN_small hn] at hy; simp at hy; omega
    · rw [encN_big hn] at hy
      rcases List.mem_cons.1 hy with rfl | hy
      · omega
      · exact encN_lt k (n / 128) (by omega) y hy
theorem encN_lt' {n : Nat} : ∀ y ∈ encN n, y < 256 := encN_lt (n + 1) n (by omega)
def Bt (l : List Nat) : Prop := ∀ y ∈ l, y < 256
theorem Bt.app {a b : List Nat} (h1 : Bt a) (h2 : Bt b) : Bt (a ++ b) := fun y hy => by
  rcases List.mem_append.1 hy with h | h
  · exact h1 y h
  · exact h2 y h
theorem Bt.flat {α : Type} {f : α → List Nat} (h : ∀ a, Bt (f a)) (l : List α) : Bt (l.flatMap f) := fun y hy => by
  obtain ⟨a, _, h2⟩ := List.mem_flatMap.1 hy
  exact h a y h2
theorem Bt.encL {α : Type} {f : α → List Nat} (h : ∀ a, Bt (f a)) (l : List α) : Bt (encL f l) := Bt.app encN_lt' (Bt.flat h l)
theorem bt_strB (s : ByteArray) : Bt (strB s) := fun y hy => by
  simp only [strB, List.mem_map] at hy
  obtain ⟨u, _, rfl⟩ := hy
  exact u.toNat_lt
theorem bt_fn (c : FnM) : Bt (encFn c) := Bt.app encN_lt' (Bt.app encN_lt' (Bt.app (Bt.encL (fun _ => encN_lt') _) (Bt.app (Bt.encL (fun _ => Bt.app encN_lt' encN_lt') _) (Bt.app (Bt.encL (fun _ => Bt.app encN_lt' (Bt.app encN_lt' encN_lt')) _) (Bt.encL (fun _ => Bt.app encN_lt' (Bt.app encN_lt' (Bt.app encN_lt' encN_lt'))) _)))))
theorem bt_im (im : ImM) : Bt (encIm im) := Bt.app (fun y hy => by simp [magicB] at hy; omega) (Bt.app (Bt.encL (fun s => Bt.app encN_lt' (bt_strB s)) _) (Bt.app (Bt.encL (fun k => Bt.encL (fun _ => encN_lt') k) _) (Bt.app encN_lt' (Bt.encL bt_fn _))))
theorem slw_cut {H : Hp} {N : Nat → Prop} {x : V} {L : List Nat} (h : SlW 1 H N x (bs L)) : ∀ H', Kp H H' → RdB H' x L := fun H' hk => by
  have hrd : Rd H' x (bs L) := h.rd.more fun id b hb _ => by rw [hk.2 id (List.getElem?_eq_some_iff.1 hb).1]; exact hb
  refine ⟨hrd, fun id lo n es hx hb => ?_⟩
  rcases h with ⟨rfl, _⟩ | ⟨s, es', h1, h2, h3, h4, h5, h6, h7⟩
  · cases hx
  · rw [h1] at hx
    cases hx
    rw [hk.2 _ (List.getElem?_eq_some_iff.1 h3).1, h3] at hb
    cases hb
    exact h7
theorem Own.clip {H : Hp} {n0 : Nat} {y : V} {l : List V} (h : Own H n0 y l) (n : Nat) : clipV n y = y := by
  rcases h with ⟨rfl, _⟩ | ⟨s, rfl, _⟩ <;> rfl
theorem All2.ex {α : Type} {R R' : V → α → Prop} (h : ∀ v a, R v a → ∃ b, R' v b) : ∀ {vs : List V} {us : List α}, All2 R vs us → ∃ us', All2 R' vs us'
  | _, _, .nil => ⟨[], .nil⟩
  | _, _, .cons p q => by
    obtain ⟨b, hb⟩ := h _ _ p
    obtain ⟨r, hr⟩ := All2.ex h q
    exact ⟨b :: r, .cons hb hr⟩
theorem All2.getV {α : Type} {R : V → α → Prop} : ∀ {vs : List V} {us : List α}, All2 R vs us → ∀ {i : Nat} {v : V}, vs[i]? = some v → ∃ a, R v a
  | _, _, .nil, i, v, h => by simp at h
  | _, _, .cons p q, 0, v, h => by simp at h; subst h; exact ⟨_, p⟩
  | _, _, .cons p q, i + 1, v, h => All2.getV q (by simpa using h)
theorem All2.getM {α : Type} {R : V → α → Prop} : ∀ {vs : List V} {us : List α}, All2 R vs us → ∀ {i : Nat} {v : V}, vs[i]? = some v → ∃ a ∈ us, R v a
  | _, _, .nil, i, v, h => by simp at h
  | _, _, .cons p q, 0, v, h => by simp at h; subst h; exact ⟨_, List.mem_cons_self, p⟩
  | _, _, .cons p q, i + 1, v, h => by
    obtain ⟨a, h1, h2⟩ := All2.getM q (i := i) (v := v) (by simpa using h)
    exact ⟨a, List.mem_cons_of_mem _ h1, h2⟩
/-- One value: one length of code, at whatever heap. -/
theorem VH.len {H H' : Hp} {nb nb' : Nat} {v : V} {c c' : FnM} (h : VH H nb v c) (h' : VH H' nb' v c') : c.code.length = c'.code.length := by
  obtain ⟨y, rfl, h1⟩ := h
  obtain ⟨y', e, h2⟩ := h'
  obtain ⟨-, -, -, -, rfl, -⟩ : (V.int .i64 c.params = V.int .i64 c'.params ∧ V.int .i64 c.slots = V.int .i64 c'.slots ∧ repL (c.boxes.map intV) = repL (c'.boxes.map intV) ∧ repL (c.caps.map capV) = repL (c'.caps.map capV) ∧ y = y' ∧ repL (c.tries.map tryV) = repL (c'.tries.map tryV)) := by
    simpa only [V.agg.injEq, List.cons.injEq, and_true] using e
  rcases h1 with ⟨rfl, h1⟩ | ⟨s, rfl, _⟩
  · rcases h2 with ⟨_, h3⟩ | ⟨s, h3, _⟩
    · have a1 : c.code.length = 0 := by simpa using congrArg List.length h1
      have a2 : c'.code.length = 0 := by simpa using congrArg List.length h3
      omega
    · cases h3
  · rcases h2 with ⟨h3, _⟩ | ⟨s', h3, _⟩
    · cases h3
    · have : (c.code.map inV).length = (c'.code.map inV).length := by
        first
        | exact (V.sl.inj h3).2.2
        | exact (V.sl.inj h3).2.2.symm
      simpa using this
/-- An instruction of a block of code is written over. -/
theorem VH.put {H : Hp} {nb s k : Nat} {v : V} {c : FnM} {l : List (Int × Int × Int)} {a : Int × Int × Int} (h : VH H nb v c) (hs : H[s]? = some (.cells (l.map inV))) : ∃ c', VH (H.set s (.cells ((l.map inV).set k (inV a)))) nb v c' := by
  obtain ⟨y, h1, h2⟩ := h
  have hsl := (List.getElem?_eq_some_iff.1 hs).1
  have hm : (l.map inV).set k (inV a) = (l.set k a).map inV := by rw [List.map_set]
  rw [hm]
  rcases h2 with ⟨e1, e2⟩ | ⟨q, e1, e2, e3, e4⟩
  · exact ⟨c, y, h1, .inl ⟨e1, e2⟩⟩
  · by_cases hq : q = s
    · subst hq
      rw [hs] at e3
      have e5 : l.map inV = c.code.map inV := by
        first
        | exact Blk.cells.inj (Option.some.inj e3)
        | exact (Blk.cells.inj (Option.some.inj e3)).symm
      have e6 : l.length = c.code.length := by have := congrArg List.length e5; simpa using this
      refine ⟨{ c with code := l.set k a }, y, h1, .inr ⟨q, ?_, e2, List.getElem?_set_self hsl, ?_⟩⟩
      · rw [e1]; simp [e6]
      · intro h0
        have := congrArg List.length h0
        simp at this
        have : c.code.map inV = [] := by rw [← e5, this]; rfl
        exact e4 this
    · exact ⟨c, y, h1, .inr ⟨q, e1, e2, by rw [List.getElem?_set_ne (by omega)]; exact e3, e4⟩⟩
def imH_of {H : Hp} {nb : Nat} {y : V} {vs : List V} {im : ImM} (hO : Own H nb y vs) (hA : All2 (VH H nb) vs im.funs) : ImH H (.agg [y, repL (im.strs.map .str), repL (im.keys.map keyV), .int .i64 im.globals]) im :=
  ⟨y, _, _, vs, im.keys.map keyV, rfl, hO.rd, repL_rd _ H, repL_rd _ H, All2.imp (fun v c h => by
    obtain ⟨z, e, h2⟩ := h
    exact ⟨⟨_, _, z, _, e, repL_rd _ H, repL_rd _ H, h2.rd, repL_rd _ H⟩⟩) hA, All2.map keyV im.keys fun k _ => repL_rd _ H⟩
theorem app_new {l : List Nat} (hl : l ≠ []) (hb : l.length ≤ 70368744177664) (s : List Slot) (b : List (List V)) (tl : List LRow) (H : Hp) (d : Nat) :
    appendOp Tryd.prog .heap ⟨s, b, ⟨true, false, []⟩ :: tl⟩ H (some d) 5 (.lr 0 0) (bs l) = some (⟨s.set d (.v (.sl H.length 0 l.length)), b, ⟨true, false, []⟩ :: tl⟩, H ++ [.cells (bs l)]) := by
  have he : (bs l).isEmpty = false := by cases l with
    | nil => exact absurd rfl hl
    | cons a r => rfl
  have hel := elemOk5 (n := l.length) hb
  simp only [appendOp, size5, wide_bs, he, List.getElem?_cons_zero, newSl, hel, List.isEmpty_nil, beq_self_eq_true, Bool.and_self, Bool.not_true, Bool.false_eq_true, if_false, if_true, put_some, bs_len]
theorem bs_set (f : List Nat) (i n : Nat) : (bs f).set i (.int .u8 n) = bs (f.set i n) := by simp [bs, List.map_set]
theorem codeOwn_eq {v : V} {im : ImM} (q : ImV v im) : wpCall EW 7 [v] [] (fun out H' => out = .ret (.bool true) false) := by
  have hbig := big_spec q []
  have hno := fun hs ho => encode_no (H := []) q (imSm.sz hs) ho
  have hyes := fun hs ho => encode_ok (H := []) q (imSm.sz hs) ho (encIm_len ho hs)
  have hsame : imSz im → ∀ {H : Hp} {nb : Nat} {y : V} {vs : List V}, Own H nb y vs → All2 (VH H nb) vs im.funs → EW 18 [.agg [y, repL (im.strs.map .str), repL (im.keys.map keyV), .int .i64 im.globals], v] H = some (.ret (.bool true) false, H) := fun hs H nb y vs hO hA => hsame_im (imH_of hO hA) (q.to H) hs
  obtain ⟨fu, st, ke, fs, ks, rfl, hf, hs, hk, f2, k2⟩ := q
  have z1 := fun st => (hf []).shutIn st
  have z2 := fun s => (hs []).shutIn s
  have z3 := fun st => (hk []).shutIn st
  have u1 := fun n => (hf []).clip n
  have u2 := fun n => (hs []).clip n
  have u3 := fun n => (hk []).clip n
  have x1 := (hf []).cells1
  have x2 := (hs []).cells1
  have x3 := (hk []).cells1
  have w1 := (hf []).ok
  have w2 := (hs []).ok
  have w3 := (hk []).ok
  have h00 : ((0 : Int) == 0) = true := rfl
  have h01 : ((0 : Int) != 0) = false := rfl
  have h11 : ((1 : Int) != 0) = true := rfl
  refine runs f7 b7 r7 n7 _ _ ?_
  simp only [bodyOf, Tryd.f7, Option.getD_some]
  simp only [WW, partV, eqCells, eqLf, minV, maxV, ifcV, zaa, zab, zac, zad, zae, zaf, zag, zah, zai, ofConst, ofConst1, List.replicate, zaj, zak, loadOp, Go.Abs.loadCells, binV, zal, pickV, zam, zan, zao, zap, zaq, zar, zas, zat, zau, outR, resAll, resOne, zav, zaw, zax, zay, zaz, zba, zbb, zbc, zbd, zbe, zbf, zbg, zbh, zbi, zbj, zbk, storeOp, storeCell, overlay, zbl, zbm, zbn, lookupOp, keyT, okRes, mapUpdateOp, zbo, zbp, zbq, zbr, zbs, zbt, zbu, Nat.reduceSub, Nat.reduceAdd, Int.reduceLT, Int.reduceLE, Int.reduceAdd, Int.reduceSub, Int.reduceToNat, Int.reduceBEq, Int.reduceBNe, Int.reduceMul, Nat.reduceBEq, Nat.reduceBNe, Nat.reduceLT, Nat.reduceLeDiff, Nat.reduceMul, Nat.reduceEqDiff, WD, effB, effH, isPriv, isHeap, isImm, zbx, zby, zbz, chkO, setD, dslot, zca, zcb, zcc, zcd, ptrCells_some, F7, z1, z2, z3, x1, x2, x3, w1, w2, w3]
  refine wpCall_of hbig ?_
  rintro out H' ⟨b, rfl, rfl, hb⟩
  cases b with
  | true =>
    simp only [WW, partV, eqCells, eqLf, minV, maxV, ifcV, zaa, zab, zac, zad, zae, zaf, zag, zah, zai, ofConst, ofConst1, List.replicate, zaj, zak, loadOp, Go.Abs.loadCells, binV, zal, pickV, zam, zan, zao, zap, zaq, zar, zas, zat, zau, outR, resAll, resOne, zav, zaw, zax, zay, zaz, zba, zbb, zbc, zbd, zbe, zbf, zbg, zbh, zbi, zbj, zbk, storeOp, storeCell, overlay, zbl, zbm, zbn, lookupOp, keyT, okRes, mapUpdateOp, zbo, zbp, zbq, zbr, zbs, zbt, zbu, Nat.reduceSub, Nat.reduceAdd, Int.reduceLT, Int.reduceLE, Int.reduceAdd, Int.reduceSub, Int.reduceToNat, Int.reduceBEq, Int.reduceBNe, Int.reduceMul, Nat.reduceBEq, Nat.reduceBNe, Nat.reduceLT, Nat.reduceLeDiff, Nat.reduceMul, Nat.reduceEqDiff, WD, effB, effH, isPriv, isHeap, isImm, zbx, zby, zbz, chkO, setD, dslot, zca, zcb, zcc, zcd, ptrCells_some, F7, liveW]
  | false =>
  have hsm := hb rfl
  simp only [WW, partV, eqCells, eqLf, minV, maxV, ifcV, zaa, zab, zac, zad, zae, zaf, zag, zah, zai, ofConst, ofConst1, List.replicate, zaj, zak, loadOp, Go.Abs.loadCells, binV, zal, pickV, zam, zan, zao, zap, zaq, zar, zas, zat, zau, outR, resAll, resOne, zav, zaw, zax, zay, zaz, zba, zbb, zbc, zbd, zbe, zbf, zbg, zbh, zbi, zbj, zbk, storeOp, storeCell, overlay, zbl, zbm, zbn, lookupOp, keyT, okRes, mapUpdateOp, zbo, zbp, zbq, zbr, zbs, zbt, zbu, Nat.reduceSub, Nat.reduceAdd, Int.reduceLT, Int.reduceLE, Int.reduceAdd, Int.reduceSub, Int.reduceToNat, Int.reduceBEq, Int.reduceBNe, Int.reduceMul, Nat.reduceBEq, Nat.reduceBNe, Nat.reduceLT, Nat.reduceLeDiff, Nat.reduceMul, Nat.reduceEqDiff, WD, effB, effH, isPriv, isHeap, isImm, zbx, zby, zbz, chkO, setD, dslot, zca, zcb, zcc, zcd, ptrCells_some, F7, z1, z2, z3]
  cases hok : imOk im with
  | false =>
    refine wpCall_of (hno hsm hok) ?_
    rintro out H1 ⟨rfl, _, _⟩
    simp only [WW, partV, eqCells, eqLf, minV, maxV, ifcV, zaa, zab, zac, zad, zae, zaf, zag, zah, zai, ofConst, ofConst1, List.replicate, zaj, zak, loadOp, Go.Abs.loadCells, binV, zal, pickV, zam, zan, zao, zap, zaq, zar, zas, zat, zau, outR, resAll, resOne, zav, zaw, zax, zay, zaz, zba, zbb, zbc, zbd, zbe, zbf, zbg, zbh, zbi, zbj, zbk, storeOp, storeCell, overlay, zbl, zbm, zbn, lookupOp, keyT, okRes, mapUpdateOp, zbo, zbp, zbq, zbr, zbs, zbt, zbu, Nat.reduceSub, Nat.reduceAdd, Int.reduceLT, Int.reduceLE, Int.reduceAdd, Int.reduceSub, Int.reduceToNat, Int.reduceBEq, Int.reduceBNe, Int.reduceMul, Nat.reduceBEq, Nat.reduceBNe, Nat.reduceLT, Nat.reduceLeDiff, Nat.reduceMul, Nat.reduceEqDiff, WD, effB, effH, isPriv, isHeap, isImm, zbx, zby, zbz, chkO, setD, dslot, zca, zcb, zcc, zcd, ptrCells_some, F7, numW, h11, liveW]
  | true =>
    refine wpCall_of (hyes hsm hok) ?_
    rintro out H1 ⟨y1, rfl, hy1, _, _⟩
    have hlen := encIm_len hok hsm
    have hpos : 4 ≤ (encIm im).length := by simp only [encIm, magicB, List.length_append, List.length_cons, List.length_nil]; omega
    have hbt := bt_im im
    have hdec := decS_enc hok (by omega)
    have hsame := @hsame hsm.sz
    have hfs : ∀ c ∈ im.funs, fnSm c := hsm.2.2.2.2.2
    have hf30 : im.funs.length ≤ 30 := hsm.1
    generalize encIm im = E at *
    have hyc := sl_clip2 hy1
    have hyr : Rd H1 y1 (bs E) := hy1.rd
    have hE0 : E ≠ [] := by rintro rfl; simp at hpos
    have hap := app_new hE0 (by omega)
    simp only [WW, partV, eqCells, eqLf, minV, maxV, ifcV, zaa, zab, zac, zad, zae, zaf, zag, zah, zai, ofConst, ofConst1, List.replicate, zaj, zak, loadOp, Go.Abs.loadCells, binV, zal, pickV, zam, zan, zao, zap, zaq, zar, zas, zat, zau, outR, resAll, resOne, zav, zaw, zax, zay, zaz, zba, zbb, zbc, zbd, zbe, zbf, zbg, zbh, zbi, zbj, zbk, storeOp, storeCell, overlay, zbl, zbm, zbn, lookupOp, keyT, okRes, mapUpdateOp, zbo, zbp, zbq, zbr, zbs, zbt, zbu, Nat.reduceSub, Nat.reduceAdd, Int.reduceLT, Int.reduceLE, Int.reduceAdd, Int.reduceSub, Int.reduceToNat, Int.reduceBEq, Int.reduceBNe, Int.reduceMul, Nat.reduceBEq, Nat.reduceBNe, Nat.reduceLT, Nat.reduceLeDiff, Nat.reduceMul, Nat.reduceEqDiff, WD, effB, effH, isPriv, isHeap, isImm, zbx, zby, zbz, chkO, setD, dslot, zca, zcb, zcc, zcd, ptrCells_some, F7, numW, h01, hy1.shut, buildSliceV, lits, srcV_eq, srcK_sl, srcK_str, srcSl_nils, srcSl_rsl, srcSl_sl, frow, zbv, zbw, List.all_nil, List.all_cons, rowV, Bool.false_and, Bool.and_false, ne_eq, not_false_eq_true, grows_lr, callOut_t, hyr.srcSl, hap]
    have hnew : (H1 ++ [Blk.cells (bs E)])[H1.length]? = some (.cells (bs E)) := List.getElem?_concat_length
    have hxB : ∀ H', Kp (H1 ++ [Blk.cells (bs E)]) H' → RdB H' (.sl H1.length 0 E.length) E := fun H' hk => by
      have h1 : H'[H1.length]? = some (.cells (bs E)) := by rw [hk.2 _ (by simp)]; exact hnew
      refine ⟨?_, fun id lo n es hx hb => ?_⟩
      · have := Rd.whole h1; rwa [bs_len] at this
      · cases hx; rw [h1] at hb; cases hb; exact wide_bs E
    have hlb : (H1 ++ [Blk.cells (bs E)]).length = H1.length + 1 := by simp
    refine wpCall_of (decodeH hxB hbt (by omega) hdec) ?_
    rintro out H2 ⟨y5, vs, rfl, hk2, hO, hA⟩
    rw [hlb] at hO hA
    have hlen2 : H1.length + 3 ≤ H2.length ∨ True := .inr trivial
    have hB2 : ∀ j, j < H1.length → H2[j]? = H1[j]? := fun j hj => by rw [hk2.2 j (by rw [hlb]; omega), List.getElem?_append_left hj]
    have hP2 : H2[H1.length]? = some (.cells (bs E)) := by rw [hk2.2 _ (by rw [hlb]; omega)]; exact hnew
    have hl2 : H1.length + 1 ≤ H2.length := by have := hk2.1; rw [hlb] at this; exact this
    have o1 := hO.shut
    have o2 := hO.ok
    have o3 := hO.cells1
    have o4 := hO.clip
    simp only [WW, partV, eqCells, eqLf, minV, maxV, ifcV, zaa, zab, zac, zad, zae, zaf, zag, zah, zai, ofConst, ofConst1, List.replicate, zaj, zak, loadOp, Go.Abs.loadCells, binV, zal, pickV, zam, zan, zao, zap, zaq, zar, zas, zat, zau, outR, resAll, resOne, zav, zaw, zax, zay, zaz, zba, zbb, zbc, zbd, zbe, zbf, zbg, zbh, zbi, zbj, zbk, storeOp, storeCell, overlay, zbl, zbm, zbn, lookupOp, keyT, okRes, mapUpdateOp, zbo, zbp, zbq, zbr, zbs, zbt, zbu, Nat.reduceSub, Nat.reduceAdd, Int.reduceLT, Int.reduceLE, Int.reduceAdd, Int.reduceSub, Int.reduceToNat, Int.reduceBEq, Int.reduceBNe, Int.reduceMul, Nat.reduceBEq, Nat.reduceBNe, Nat.reduceLT, Nat.reduceLeDiff, Nat.reduceMul, Nat.reduceEqDiff, WD, effB, effH, isPriv, isHeap, isImm, zbx, zby, zbz, chkO, setD, dslot, zca, zcb, zcc, zcd, ptrCells_some, F7, o1, o2, o3, repL_shut, repL_ok, repL_cells]
    have hkp : ∀ H', H1.length ≤ H'.length → (∀ j, j < H1.length → H'[j]? = H1[j]?) → ∀ H'', Kp H' H'' → RdB H'' y1 E := fun H' h1 h2 H'' h3 => slw_cut hy1 H'' (Kp.trans ⟨h1, h2⟩ h3)
    have hdec2 := hdec
    clear hap hxB hk2 hnew hlb hyr hdec
    generalize hp : H1.length = p at *
    refine wC_loop _ (fun k st' H' => ∃ (i : Nat) (f : List Nat), st' = ⟨L7_9 (.box 0) (.v y1) (.v (.sl p 0 E.length)) (.box 1) (.v (.int .i64 0)) (.v (.int .i64 i)), [[fu, st, ke, .int .i64 im.globals], [y5, repL (im.strs.map .str), repL (im.keys.map keyV), .int .i64 im.globals]], [⟨true, false, []⟩]⟩ ∧ i ≤ E.length ∧ k = E.length - i ∧ Ff p H2 H' ∧ H'[p]? = some (.cells (bs f)) ∧ f.length = E.length) E.length ⟨0, E, ?_, by omega, by omega, Ff.refl, hP2, rfl⟩ ?_
    · simp only [WN, firstReg, growAll, zbv, zbw, norm, killS, zag, zah, zaa, zab, zbl, zat, zad, growOne, zae, zaf, zac, zas, zak, Nat.reduceLT, Nat.reduceAdd, zbj, zav, F7, L7_9, hyc, u1, u2, u3, o4, repL_clip]
      rfl
    · rintro k st' H' ⟨i, f, rfl, hi, rfl, hff, hP, hfl⟩
      simp only [L7_9]
      simp only [WW, partV, eqCells, eqLf, minV, maxV, ifcV, zaa, zab, zac, zad, zae, zaf, zag, zah, zai, ofConst, ofConst1, List.replicate, zaj, zak, loadOp, Go.Abs.loadCells, binV, zal, pickV, zam, zan, zao, zap, zaq, zar, zas, zat, zau, outR, resAll, resOne, zav, zaw, zax, zay, zaz, zba, zbb, zbc, zbd, zbe, zbf, zbg, zbh, zbi, zbj, zbk, storeOp, storeCell, overlay, zbl, zbm, zbn, lookupOp, keyT, okRes, mapUpdateOp, zbo, zbp, zbq, zbr, zbs, zbt, zbu, Nat.reduceSub, Nat.reduceAdd, Int.reduceLT, Int.reduceLE, Int.reduceAdd, Int.reduceSub, Int.reduceToNat, Int.reduceBEq, Int.reduceBNe, Int.reduceMul, Nat.reduceBEq, Nat.reduceBNe, Nat.reduceLT, Nat.reduceLeDiff, Nat.reduceMul, Nat.reduceEqDiff, WD, effB, effH, isPriv, isHeap, isImm, zbx, zby, zbz, chkO, setD, dslot, zca, zcb, zcc, zcd, ptrCells_some, F7]
      refine cSplit (fun hlt => ?_) (fun hge => ?_)
      · have hi2 : i < E.length := by have := of_decide_eq_true hlt; omega
        have hfi : (bs f)[i]? = some (.int .u8 ((f.getD i 0 : Nat) : Int)) := by
          simp [bs, List.getD_eq_getElem?_getD, List.getElem?_eq_getElem (show i < f.length by omega)]
        simp only [hlt]
        have hi3 : (i : Int) < (E.length : Int) := by omega
        simp only [WW, partV, eqCells, eqLf, minV, maxV, ifcV, zaa, zab, zac, zad, zae, zaf, zag, zah, zai, ofConst, ofConst1, List.replicate, zaj, zak, loadOp, Go.Abs.loadCells, binV, zal, pickV, zam, zan, zao, zap, zaq, zar, zas, zat, zau, outR, resAll, resOne, zav, zaw, zax, zay, zaz, zba, zbb, zbc, zbd, zbe, zbf, zbg, zbh, zbi, zbj, zbk, storeOp, storeCell, overlay, zbl, zbm, zbn, lookupOp, keyT, okRes, mapUpdateOp, zbo, zbp, zbq, zbr, zbs, zbt, zbu, Nat.reduceSub, Nat.reduceAdd, Int.reduceLT, Int.reduceLE, Int.reduceAdd, Int.reduceSub, Int.reduceToNat, Int.reduceBEq, Int.reduceBNe, Int.reduceMul, Nat.reduceBEq, Nat.reduceBNe, Nat.reduceLT, Nat.reduceLeDiff, Nat.reduceMul, Nat.reduceEqDiff, WD, effB, effH, isPriv, isHeap, isImm, zbx, zby, zbz, chkO, setD, dslot, zca, zcb, zcc, zcd, ptrCells_some, F7, slAt_sl, hi3, hP, slIn_some, hfi, storeHeap, promote, heapSet, elemSet]
        have hset := bs_set f i 255
        refine ⟨E.length - (i + 1), by omega, i + 1, f.set i 255, ?_, by omega, rfl, hff.trans (Ff.set _), ?_, by simpa using hfl⟩
        · simp only [WN, firstReg, growAll, zbv, zbw, norm, killS, zag, zah, zaa, zab, zbl, zat, zad, growOne, zae, zaf, zac, zas, zak, Nat.reduceLT, Nat.reduceAdd, zbj, zav, F7, hyc, u1, u2, u3, o4, repL_clip]
          rw [IntWalk.i64_in ((i : Int) + 1) (by omega)]; rfl
        · rw [List.getElem?_set_self (List.getElem?_eq_some_iff.1 hP).1]; exact congrArg (fun z => some (Blk.cells z)) hset
      · simp only [hge]
        have hO' := hO.mov (w := p) (by omega) hff
        have hA' : All2 (VH H' (p + 1 + 2)) vs im.funs := All2.imp (fun v c h => h.mov (by omega) hff) hA
        have hB' : ∀ j, j < p → H'[j]? = H1[j]? := fun j hj => by rw [hff.2 j (by omega) (by omega)]; exact hB2 j hj
        have hl' : p + 1 ≤ H'.length := by have := hff.1; omega
        have hsw : ∀ K, wpCall (evW Tryd.prog notes) 18 [.agg [y5, repL (im.strs.map .str), repL (im.keys.map keyV), .int .i64 im.globals], .agg [fu, st, ke, .int .i64 im.globals]] H' K = K (.ret (.bool true) false) H' := fun K => wpCall_eq (hsame hO' hA')
        simp only [WW, partV, eqCells, eqLf, minV, maxV, ifcV, zaa, zab, zac, zad, zae, zaf, zag, zah, zai, ofConst, ofConst1, List.replicate, zaj, zak, loadOp, Go.Abs.loadCells, binV, zal, pickV, zam, zan, zao, zap, zaq, zar, zas, zat, zau, outR, resAll, resOne, zav, zaw, zax, zay, zaz, zba, zbb, zbc, zbd, zbe, zbf, zbg, zbh, zbi, zbj, zbk, storeOp, storeCell, overlay, zbl, zbm, zbn, lookupOp, keyT, okRes, mapUpdateOp, zbo, zbp, zbq, zbr, zbs, zbt, zbu, Nat.reduceSub, Nat.reduceAdd, Int.reduceLT, Int.reduceLE, Int.reduceAdd, Int.reduceSub, Int.reduceToNat, Int.reduceBEq, Int.reduceBNe, Int.reduceMul, Nat.reduceBEq, Nat.reduceBNe, Nat.reduceLT, Nat.reduceLeDiff, Nat.reduceMul, Nat.reduceEqDiff, WD, effB, effH, isPriv, isHeap, isImm, zbx, zby, zbz, chkO, setD, dslot, zca, zcb, zcc, zcd, ptrCells_some, F7, numW, h01, o1, repL_shut, z1, z2, z3, hsw]
        clear hsw hO hA hff hP hfl hge hi hB2 hP2 hl2
        have hcode : ∀ {us : List FnM} {H3 : Hp}, All2 (VH H3 (p + 1 + 2)) vs us → ∀ {i : Nat} {v : V}, vs[i]? = some v → ∃ c, VH H3 (p + 1 + 2) v c := fun h i v hv => h.getV hv
        have hvl := hA'.len
        have hcl : ∀ {us : List FnM} {H3 : Hp} {i : Nat} {v : V} {c0 : FnM}, vs[i]? = some v → VH H3 (p + 1 + 2) v c0 → c0.code.length ≤ 500 := fun hv h0 => by
          obtain ⟨a, h1, h2⟩ := hA'.getM hv
          rw [VH.len h0 h2]; exact (hfs a h1).2.2.1
        refine wC_loop _ (fun k st' H3 => ∃ (i : Nat) (us : List FnM), st' = ⟨L7_15 (.box 0) (.v y1) (.box 1) (.v (.int .i64 i)), [[fu, st, ke, .int .i64 im.globals], [y5, repL (im.strs.map .str), repL (im.keys.map keyV), .int .i64 im.globals]], [⟨true, false, []⟩]⟩ ∧ i ≤ vs.length ∧ k = vs.length - i ∧ p + 1 ≤ H3.length ∧ (∀ j, j < p → H3[j]? = H1[j]?) ∧ Own H3 (p + 1 + 2) y5 vs ∧ All2 (VH H3 (p + 1 + 2)) vs us) vs.length ⟨0, im.funs, ?_, by omega, by omega, hl', hB', hO', hA'⟩ ?_
        · simp only [WN, firstReg, growAll, zbv, zbw, norm, killS, zag, zah, zaa, zab, zbl, zat, zad, growOne, zae, zaf, zac, zas, zak, Nat.reduceLT, Nat.reduceAdd, zbj, zav, F7, L7_15, hyc, u1, u2, u3, o4, repL_clip]
          rfl
        · clear hl' hB' hO' hA'
          rintro k st' H3 ⟨i, us, rfl, hi, rfl, hl3, hB3, hO3, hA3⟩
          simp only [L7_15]
          simp only [WW, partV, eqCells, eqLf, minV, maxV, ifcV, zaa, zab, zac, zad, zae, zaf, zag, zah, zai, ofConst, ofConst1, List.replicate, zaj, zak, loadOp, Go.Abs.loadCells, binV, zal, pickV, zam, zan, zao, zap, zaq, zar, zas, zat, zau, outR, resAll, resOne, zav, zaw, zax, zay, zaz, zba, zbb, zbc, zbd, zbe, zbf, zbg, zbh, zbi, zbj, zbk, storeOp, storeCell, overlay, zbl, zbm, zbn, lookupOp, keyT, okRes, mapUpdateOp, zbo, zbp, zbq, zbr, zbs, zbt, zbu, Nat.reduceSub, Nat.reduceAdd, Int.reduceLT, Int.reduceLE, Int.reduceAdd, Int.reduceSub, Int.reduceToNat, Int.reduceBEq, Int.reduceBNe, Int.reduceMul, Nat.reduceBEq, Nat.reduceBNe, Nat.reduceLT, Nat.reduceLeDiff, Nat.reduceMul, Nat.reduceEqDiff, WD, effB, effH, isPriv, isHeap, isImm, zbx, zby, zbz, chkO, setD, dslot, zca, zcb, zcc, zcd, ptrCells_some, F7, o1, (hO3.rd).len]
          refine cSplit (fun hlt => ?_) (fun hge => ?_)
          · have hi2 : i < vs.length := by have := of_decide_eq_true hlt; omega
            have hv : vs[i]? = some vs[i] := List.getElem?_eq_getElem hi2
            generalize vs[i] = vv at hv
            simp only [hlt]
            obtain ⟨c0, hv0⟩ := hA3.getV hv
            have hcb := hcl (us := us) hv hv0
            obtain ⟨y, rfl, hy0⟩ := hv0
            have hyS := hy0.shut
            have hyC := hy0.cells1
            simp only [WW, partV, eqCells, eqLf, minV, maxV, ifcV, zaa, zab, zac, zad, zae, zaf, zag, zah, zai, ofConst, ofConst1, List.replicate, zaj, zak, loadOp, Go.Abs.loadCells, binV, zal, pickV, zam, zan, zao, zap, zaq, zar, zas, zat, zau, outR, resAll, resOne, zav, zaw, zax, zay, zaz, zba, zbb, zbc, zbd, zbe, zbf, zbg, zbh, zbi, zbj, zbk, storeOp, storeCell, overlay, zbl, zbm, zbn, lookupOp, keyT, okRes, mapUpdateOp, zbo, zbp, zbq, zbr, zbs, zbt, zbu, Nat.reduceSub, Nat.reduceAdd, Int.reduceLT, Int.reduceLE, Int.reduceAdd, Int.reduceSub, Int.reduceToNat, Int.reduceBEq, Int.reduceBNe, Int.reduceMul, Nat.reduceBEq, Nat.reduceBNe, Nat.reduceLT, Nat.reduceLeDiff, Nat.reduceMul, Nat.reduceEqDiff, WD, effB, effH, isPriv, isHeap, isImm, zbx, zby, zbz, chkO, setD, dslot, zca, zcb, zcc, zcd, ptrCells_some, F7]
            refine wC_loop _ (fun k st' H4 => ∃ (j : Nat) (us : List FnM), st' = ⟨L7_18 (.box 0) (.v y1) (.box 1) (.v (.int .i64 i)) (.v (.int .i64 j)), [[fu, st, ke, .int .i64 im.globals], [y5, repL (im.strs.map .str), repL (im.keys.map keyV), .int .i64 im.globals]], [⟨true, false, []⟩]⟩ ∧ j ≤ c0.code.length ∧ k = c0.code.length - j ∧ p + 1 ≤ H4.length ∧ (∀ j, j < p → H4[j]? = H1[j]?) ∧ Own H4 (p + 1 + 2) y5 vs ∧ All2 (VH H4 (p + 1 + 2)) vs us) c0.code.length ⟨0, us, ?_, by omega, by omega, hl3, hB3, hO3, hA3⟩ ?_
            · simp only [WN, firstReg, growAll, zbv, zbw, norm, killS, zag, zah, zaa, zab, zbl, zat, zad, growOne, zae, zaf, zac, zas, zak, Nat.reduceLT, Nat.reduceAdd, zbj, zav, F7, L7_18, hyc, u1, u2, u3, o4, repL_clip]
              rfl
            · clear hA3 hO3 hB3 hl3
              rintro k st' H4 ⟨j, us4, rfl, hj, rfl, hl4, hB4, hO4, hA4⟩
              simp only [L7_18]
              obtain ⟨c4, y4, e4, hy4⟩ := hA4.getV hv
              obtain ⟨-, -, -, -, rfl, -⟩ : (V.int .i64 c0.params = V.int .i64 c4.params ∧ V.int .i64 c0.slots = V.int .i64 c4.slots ∧ repL (c0.boxes.map intV) = repL (c4.boxes.map intV) ∧ repL (c0.caps.map capV) = repL (c4.caps.map capV) ∧ y = y4 ∧ repL (c0.tries.map tryV) = repL (c4.tries.map tryV)) := by
                simpa only [V.agg.injEq, List.cons.injEq, and_true] using e4
              have hn : c4.code.length = c0.code.length := by
                rcases hy4 with ⟨rfl, h2⟩ | ⟨s, rfl, _⟩
                · rcases hy0 with ⟨_, h3⟩ | ⟨s, h3, _⟩
                  · have a1 : c4.code.length = 0 := by simpa using congrArg List.length h2
                    have a2 : c0.code.length = 0 := by simpa using congrArg List.length h3
                    omega
                  · cases h3
                · rcases hy0 with ⟨h3, _⟩ | ⟨s', h3, _⟩
                  · cases h3
                  · have : (c4.code.map inV).length = (c0.code.map inV).length := by
                      first
                      | exact (V.sl.inj h3).2.2
                      | exact (V.sl.inj h3).2.2.symm
                    simpa using this
              have hat := (hO4.rd).at_ (sz := 6) (i := i) hv rfl
              have lmc : (c4.code.map inV).length = c4.code.length := List.length_map ..
              simp only [WW, partV, eqCells, eqLf, minV, maxV, ifcV, zaa, zab, zac, zad, zae, zaf, zag, zah, zai, ofConst, ofConst1, List.replicate, zaj, zak, loadOp, Go.Abs.loadCells, binV, zal, pickV, zam, zan, zao, zap, zaq, zar, zas, zat, zau, outR, resAll, resOne, zav, zaw, zax, zay, zaz, zba, zbb, zbc, zbd, zbe, zbf, zbg, zbh, zbi, zbj, zbk, storeOp, storeCell, overlay, zbl, zbm, zbn, lookupOp, keyT, okRes, mapUpdateOp, zbo, zbp, zbq, zbr, zbs, zbt, zbu, Nat.reduceSub, Nat.reduceAdd, Int.reduceLT, Int.reduceLE, Int.reduceAdd, Int.reduceSub, Int.reduceToNat, Int.reduceBEq, Int.reduceBNe, Int.reduceMul, Nat.reduceBEq, Nat.reduceBNe, Nat.reduceLT, Nat.reduceLeDiff, Nat.reduceMul, Nat.reduceEqDiff, WD, effB, effH, isPriv, isHeap, isImm, zbx, zby, zbz, chkO, setD, dslot, zca, zcb, zcc, zcd, ptrCells_some, F7, o1, hat.at1 hO4.rd, hat.fa, hat.cells, hyS, (hy4.rd).len, lmc, hn]
              refine cSplit (fun hlt => ?_) (fun hge => ?_)
              · have hj2 : j < c0.code.length := by have := of_decide_eq_true hlt; omega
                simp only [hlt]
                rcases hy4 with ⟨rfl, h2⟩ | ⟨s, rfl, s1, s2, s3⟩
                · have a1 : c4.code.length = 0 := by simpa using congrArg List.length h2
                  omega
                · have hel : (c4.code.map inV)[j]? = some (inV (c4.code[j]'(by omega))) := by rw [List.getElem?_map, List.getElem?_eq_getElem (by omega)]; rfl
                  generalize c4.code[j]'(by omega) = ii at hel
                  simp only [inV] at hel
                  have hj3 : (j : Int) < (c0.code.length : Int) := by omega
                  have hsv : ∀ st, sealV st (.sl s 0 (c4.code.map inV).length) = .sl s 0 (c4.code.map inV).length := fun _ => rfl
                  simp only [WW, partV, eqCells, eqLf, minV, maxV, ifcV, zaa, zab, zac, zad, zae, zaf, zag, zah, zai, ofConst, ofConst1, List.replicate, zaj, zak, loadOp, Go.Abs.loadCells, binV, zal, pickV, zam, zan, zao, zap, zaq, zar, zas, zat, zau, outR, resAll, resOne, zav, zaw, zax, zay, zaz, zba, zbb, zbc, zbd, zbe, zbf, zbg, zbh, zbi, zbj, zbk, storeOp, storeCell, overlay, zbl, zbm, zbn, lookupOp, keyT, okRes, mapUpdateOp, zbo, zbp, zbq, zbr, zbs, zbt, zbu, Nat.reduceSub, Nat.reduceAdd, Int.reduceLT, Int.reduceLE, Int.reduceAdd, Int.reduceSub, Int.reduceToNat, Int.reduceBEq, Int.reduceBNe, Int.reduceMul, Nat.reduceBEq, Nat.reduceBNe, Nat.reduceLT, Nat.reduceLeDiff, Nat.reduceMul, Nat.reduceEqDiff, WD, effB, effH, isPriv, isHeap, isImm, zbx, zby, zbz, chkO, setD, dslot, zca, zcb, zcc, zcd, ptrCells_some, F7, o1, hat.at1 hO4.rd, hat.fa, hat.cells, hsv, lmc, hn, slAt_sl, hj3, s2, slIn_some, hel, buildOp, fillV, Lay.place, Bool.or_self, Bool.or_false, Bool.false_or, decide_not, ne_eq, not_true_eq_false, decide_eq_true_eq, Nat.lt_irrefl, storeHeap, promote, heapSet, elemSet]
                  have hput := fun v c (h : VH H4 (p + 1 + 2) v c) => VH.put (k := j) (a := (1, 0, 0)) h s2
                  obtain ⟨us5, hA5⟩ := All2.ex hput hA4
                  have hsl := (List.getElem?_eq_some_iff.1 s2).1
                  refine ⟨c0.code.length - (j + 1), by omega, j + 1, us5, ?_, by omega, rfl, by rw [List.length_set]; exact hl4, fun r hr => ?_, ?_, hA5⟩
                  · simp only [WN, firstReg, growAll, zbv, zbw, norm, killS, zag, zah, zaa, zab, zbl, zat, zad, growOne, zae, zaf, zac, zas, zak, Nat.reduceLT, Nat.reduceAdd, zbj, zav, F7, hyc, u1, u2, u3, o4, repL_clip]
                    rw [IntWalk.i64_in ((j : Int) + 1) (by omega)]; rfl
                  · rw [List.getElem?_set_ne (by omega)]; exact hB4 r hr
                  · have hwo := hA4.wide
                    rcases hO4 with h | ⟨q, g1, g2, g3, g4⟩
                    · exact .inl h
                    · refine .inr ⟨q, g1, g2, ?_, g4⟩
                      rw [List.getElem?_set_ne]
                      · exact g3
                      · rintro rfl
                        rw [s2] at g3
                        have e5 : c4.code.map inV = vs := by
                          first
                          | exact Blk.cells.inj (Option.some.inj g3)
                          | exact (Blk.cells.inj (Option.some.inj g3)).symm
                        rw [← e5] at hwo
                        have h36 := wideAll_iff.1 hwo _ (List.mem_of_getElem? hel)
                        exact absurd h36 (by show ¬ (3 = 6); omega)
              · have hj2 : j = c0.code.length := by have := of_decide_eq_false hge; omega
                simp only [hge]
                simp only [WW, partV, eqCells, eqLf, minV, maxV, ifcV, zaa, zab, zac, zad, zae, zaf, zag, zah, zai, ofConst, ofConst1, List.replicate, zaj, zak, loadOp, Go.Abs.loadCells, binV, zal, pickV, zam, zan, zao, zap, zaq, zar, zas, zat, zau, outR, resAll, resOne, zav, zaw, zax, zay, zaz, zba, zbb, zbc, zbd, zbe, zbf, zbg, zbh, zbi, zbj, zbk, storeOp, storeCell, overlay, zbl, zbm, zbn, lookupOp, keyT, okRes, mapUpdateOp, zbo, zbp, zbq, zbr, zbs, zbt, zbu, Nat.reduceSub, Nat.reduceAdd, Int.reduceLT, Int.reduceLE, Int.reduceAdd, Int.reduceSub, Int.reduceToNat, Int.reduceBEq, Int.reduceBNe, Int.reduceMul, Nat.reduceBEq, Nat.reduceBNe, Nat.reduceLT, Nat.reduceLeDiff, Nat.reduceMul, Nat.reduceEqDiff, WD, effB, effH, isPriv, isHeap, isImm, zbx, zby, zbz, chkO, setD, dslot, zca, zcb, zcc, zcd, ptrCells_some, F7]
                refine ⟨vs.length - (i + 1), by omega, i + 1, us4, ?_, by omega, rfl, hl4, hB4, hO4, hA4⟩
                simp only [WN, firstReg, growAll, zbv, zbw, norm, killS, zag, zah, zaa, zab, zbl, zat, zad, growOne, zae, zaf, zac, zas, zak, Nat.reduceLT, Nat.reduceAdd, zbj, zav, F7, hyc, u1, u2, u3, o4, repL_clip]
                rw [IntWalk.i64_in ((i : Int) + 1) (by omega)]; rfl
          · simp only [hge]
            simp only [WW, partV, eqCells, eqLf, minV, maxV, ifcV, zaa, zab, zac, zad, zae, zaf, zag, zah, zai, ofConst, ofConst1, List.replicate, zaj, zak, loadOp, Go.Abs.loadCells, binV, zal, pickV, zam, zan, zao, zap, zaq, zar, zas, zat, zau, outR, resAll, resOne, zav, zaw, zax, zay, zaz, zba, zbb, zbc, zbd, zbe, zbf, zbg, zbh, zbi, zbj, zbk, storeOp, storeCell, overlay, zbl, zbm, zbn, lookupOp, keyT, okRes, mapUpdateOp, zbo, zbp, zbq, zbr, zbs, zbt, zbu, Nat.reduceSub, Nat.reduceAdd, Int.reduceLT, Int.reduceLE, Int.reduceAdd, Int.reduceSub, Int.reduceToNat, Int.reduceBEq, Int.reduceBNe, Int.reduceMul, Nat.reduceBEq, Nat.reduceBNe, Nat.reduceLT, Nat.reduceLeDiff, Nat.reduceMul, Nat.reduceEqDiff, WD, effB, effH, isPriv, isHeap, isImm, zbx, zby, zbz, chkO, setD, dslot, zca, zcb, zcc, zcd, ptrCells_some, F7, hy1.shut]
            refine wpCall_of (decodeH (hkp H3 (by omega) hB3) hbt (by omega) hdec2) ?_
            rintro out H9 ⟨y9, vs9, rfl, hk9, hO9, hA9⟩
            have hsw : ∀ K, wpCall (evW Tryd.prog notes) 18 [.agg [y9, repL (im.strs.map .str), repL (im.keys.map keyV), .int .i64 im.globals], .agg [fu, st, ke, .int .i64 im.globals]] H9 K = K (.ret (.bool true) false) H9 := fun K => wpCall_eq (hsame hO9 hA9)
            simp only [WW, partV, eqCells, eqLf, minV, maxV, ifcV, zaa, zab, zac, zad, zae, zaf, zag, zah, zai, ofConst, ofConst1, List.replicate, zaj, zak, loadOp, Go.Abs.loadCells, binV, zal, pickV, zam, zan, zao, zap, zaq, zar, zas, zat, zau, outR, resAll, resOne, zav, zaw, zax, zay, zaz, zba, zbb, zbc, zbd, zbe, zbf, zbg, zbh, zbi, zbj, zbk, storeOp, storeCell, overlay, zbl, zbm, zbn, lookupOp, keyT, okRes, mapUpdateOp, zbo, zbp, zbq, zbr, zbs, zbt, zbu, Nat.reduceSub, Nat.reduceAdd, Int.reduceLT, Int.reduceLE, Int.reduceAdd, Int.reduceSub, Int.reduceToNat, Int.reduceBEq, Int.reduceBNe, Int.reduceMul, Nat.reduceBEq, Nat.reduceBNe, Nat.reduceLT, Nat.reduceLeDiff, Nat.reduceMul, Nat.reduceEqDiff, WD, effB, effH, isPriv, isHeap, isImm, zbx, zby, zbz, chkO, setD, dslot, zca, zcb, zcc, zcd, ptrCells_some, F7, numW, h00, hO9.shut, hO9.ok, hO9.cells1, repL_shut, repL_ok, repL_cells, z1, z2, z3, hsw, liveW]
theorem codeOwn_main {v0 : List V} (h0 : Tv Tryd.prog 8 26 v0) :
    wpCall (evW Tryd.prog notes) 7 [mkV (isAggT Tryd.prog 26) v0] [] (fun out H' => out = .ret (.bool true) false) := by
  obtain ⟨im, ⟨q⟩⟩ := im_tv h0
  exact codeOwn_eq q
end Go.Proofs.YtgjobbmbbedecaaDoor
