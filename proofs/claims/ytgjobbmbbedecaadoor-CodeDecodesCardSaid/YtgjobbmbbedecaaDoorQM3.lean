/- A part of the proofs over this seat. -/
import Derived.Test.YtgjobbmbbedecaaDoorQM2
import Derived.Test.YtgjobbmbbedecaaDoorQM1
/- The document's reader: an image. -/
namespace Go.Proofs.YtgjobbmbbedecaaDoor
open Go Go.Abs Go.Proofs
set_option maxRecDepth 100000
set_option maxHeartbeats 16000000
set_option linter.unusedVariables false
set_option linter.unusedSimpArgs false
/-- Strings one by one; what fails is not among them -/
def allT (L : List Nat) : Nat → S → List ByteArray × S
  | 0, s => ([], s)
  | n + 1, s => match s.e with
    | _ + 1 => ([], s)
    | 0 => match (count L s).2.e with
      | 0 => (strL ((L.drop (count L s).2.at_).take (count L s).1) :: (allT L n ⟨(count L s).2.at_ + (count L s).1, 0⟩).1, (allT L n ⟨(count L s).2.at_ + (count L s).1, 0⟩).2)
      | _ + 1 => ([], (count L s).2)
theorem allT_eq {L : List Nat} : ∀ (n : Nat) (s : S), (allT L n s).2 = (allG (textS L) n s).2 ∧ ((allG (textS L) n s).2.e = 0 → (allT L n s).1 = (allG (textS L) n s).1)
  | 0, s => ⟨rfl, fun _ => rfl⟩
  | n + 1, s => by
    unfold allT allG
    cases he : s.e with
    | succ e => exact ⟨rfl, fun _ => rfl⟩
    | zero =>
      simp only
      cases hc : (count L s).2.e with
      | zero =>
        have ht : textS L s = (strL ((L.drop (count L s).2.at_).take (count L s).1), ⟨(count L s).2.at_ + (count L s).1, 0⟩) := by simp only [textS, hc]
        rw [ht]
        obtain ⟨h1, h2⟩ := allT_eq (L := L) n ⟨(count L s).2.at_ + (count L s).1, 0⟩
        exact ⟨h1, fun h => by rw [h2 h]⟩
      | succ e =>
        have ht : (textS L s).2 = (count L s).2 := by simp only [textS, hc]
        rw [ht]
        have hn : ∀ n, (allG (textS L) n (count L s).2) = ([], (count L s).2) := fun n => by
          cases n with
          | zero => rfl
          | succ n => simp only [allG, hc]
        rw [hn]
        exact ⟨rfl, fun h => by rw [hc] at h; cases h⟩
theorem allT_ok {L : List Nat} (n : Nat) {s : S} (h : Ok L s) : Ok L (allT L n s).2 := by
  rw [(allT_eq n s).1]; exact allG_ok textS_ok n s h
theorem decT_T {L : List Nat} (hm4 : magG magicB L 0 = ⟨4, 0⟩) :
    (∀ e1 p, (allS L (fnS L) (num L (allS L (keysS L) (allT L (count L (⟨4, 0⟩ : S)).1 (count L (⟨4, 0⟩ : S)).2).2).2).2).2 = ⟨p, e1 + 1⟩ → decT L (decS L) = [.agg [.nils, .nils, .nils, .int .i64 0], .int .i64 ((e1 + 1 : Nat) : Int), .int .i64 (p : Nat)]) ∧
    (∀ p, (allS L (fnS L) (num L (allS L (keysS L) (allT L (count L (⟨4, 0⟩ : S)).1 (count L (⟨4, 0⟩ : S)).2).2).2).2).2 = ⟨p, 0⟩ → p < L.length → decT L (decS L) = [.agg [.nils, .nils, .nils, .int .i64 0], .int .i64 6, .int .i64 (p : Nat)]) ∧
    (∀ p, (allS L (fnS L) (num L (allS L (keysS L) (allT L (count L (⟨4, 0⟩ : S)).1 (count L (⟨4, 0⟩ : S)).2).2).2).2).2 = ⟨p, 0⟩ → ¬ p < L.length → decT L (decS L) = [imVal ⟨(allS L (fnS L) (num L (allS L (keysS L) (allT L (count L (⟨4, 0⟩ : S)).1 (count L (⟨4, 0⟩ : S)).2).2).2).2).1, (allT L (count L (⟨4, 0⟩ : S)).1 (count L (⟨4, 0⟩ : S)).2).1, (allS L (keysS L) (allT L (count L (⟨4, 0⟩ : S)).1 (count L (⟨4, 0⟩ : S)).2).2).1, ((num L (allS L (keysS L) (allT L (count L (⟨4, 0⟩ : S)).1 (count L (⟨4, 0⟩ : S)).2).2).2).1 : Nat)⟩, .int .i64 0, .int .i64 (L.length : Nat)]) := by
  obtain ⟨h1, h2⟩ := allT_eq (L := L) (count L (⟨4, 0⟩ : S)).1 (count L (⟨4, 0⟩ : S)).2
  have hi : imgS L (magG magicB L 0) = (⟨(allS L (fnS L) (num L (allS L (keysS L) (allT L (count L (⟨4, 0⟩ : S)).1 (count L (⟨4, 0⟩ : S)).2).2).2).2).1, (allS L (textS L) ⟨4, 0⟩).1, (allS L (keysS L) (allT L (count L (⟨4, 0⟩ : S)).1 (count L (⟨4, 0⟩ : S)).2).2).1, ((num L (allS L (keysS L) (allT L (count L (⟨4, 0⟩ : S)).1 (count L (⟨4, 0⟩ : S)).2).2).2).1 : Nat)⟩, (allS L (fnS L) (num L (allS L (keysS L) (allT L (count L (⟨4, 0⟩ : S)).1 (count L (⟨4, 0⟩ : S)).2).2).2).2).2) := by
    rw [hm4, h1]; rfl
  refine ⟨fun e1 p h => ?_, fun p h hp => ?_, fun p h hp => ?_⟩
  · simp only [decS, hi, h, endS, decT]; rfl
  · simp only [decS, hi, h, endS, hp, if_true, decT]; rfl
  · have he : (allG (textS L) (count L (⟨4, 0⟩ : S)).1 (count L (⟨4, 0⟩ : S)).2).2.e = 0 := by
      rw [← h1]
      exact allS_e keysS_e (num_e (allS_e fnS_e (by rw [h])))
    have h3 : (allS L (textS L) ⟨4, 0⟩).1 = (allT L (count L (⟨4, 0⟩ : S)).1 (count L (⟨4, 0⟩ : S)).2).1 := (h2 he).symm
    simp only [decS, hi, h, endS, hp, if_false, decT, h3]
theorem magic_arr {i : Nat} (hi : i < 4) : ∃ (m : Nat), [V.int .u8 74, V.int .u8 81, V.int .u8 48, V.int .u8 49][i]? = some (.int .u8 (m : Nat)) ∧ magicB.drop i = m :: magicB.drop (i + 1) := by
  obtain rfl | rfl | rfl | rfl : i = 0 ∨ i = 1 ∨ i = 2 ∨ i = 3 := by omega
  all_goals exact ⟨_, rfl, rfl⟩
theorem ddecode17 {H : Hp} {x : V} {L : List Nat} (hx : ∀ H', Kp H H' → RdB H' x L) (hL : ∀ y ∈ L, y < 256) (hlen : L.length ≤ 4194304) :
    wpCall EW 17 [x] H (fun out H' => out = .ret (.tup (decT L (decS L))) false ∧ Kp H H') := by
  have hx0 := (hx H Kp.refl).1
  have hxs := hx0.shutIn
  have hxc := hx0.clip2
  have hxl : ∀ (H' : Hp), lenK H' (.slice 5) x = some (.int .i64 (L.length : Nat)) := fun H' => by
    have := hx0.len 5
    rw [bs_len] at this
    cases x <;> first | exact this | (cases this)
  have h5m : L.length ≤ 5000000 := by omega
  refine runs f17 b17 r17 n17 _ _ ?_
  simp only [bodyOf, Tryd.f17, Option.getD_some]
  have hb4 : decide ((4194304 : Int) < (L.length : Int)) = false := decide_eq_false (by omega)
  simp only [WW, partV, eqCells, eqLf, minV, maxV, ifcV, zaa, zab, zac, zad, zae, zaf, zag, zah, zai, ofConst, ofConst1, List.replicate, zaj, zak, loadOp, Go.Abs.loadCells, binV, zal, pickV, zam, zan, zao, zap, zaq, zar, zas, zat, zau, outR, resAll, resOne, zav, zaw, zax, zay, zaz, zba, zbb, zbc, zbd, zbe, zbf, zbg, zbh, zbi, zbj, zbk, storeOp, storeCell, overlay, zbl, zbm, zbn, lookupOp, keyT, okRes, mapUpdateOp, zbo, zbp, zbq, zbr, zbs, zbt, zbu, Nat.reduceSub, Nat.reduceAdd, Int.reduceLT, Int.reduceLE, Int.reduceAdd, Int.reduceSub, Int.reduceToNat, Int.reduceBEq, Int.reduceBNe, Int.reduceMul, Nat.reduceBEq, Nat.reduceBNe, Nat.reduceLT, Nat.reduceLeDiff, Nat.reduceMul, Nat.reduceEqDiff, WD, effB, effH, isPriv, isHeap, isImm, zbx, zby, zbz, chkO, setD, dslot, zca, zcb, zcc, zcd, ptrCells_some, F17, hxs, hxl, hb4, hx0.ok, hx0.cells1, hx0.width1, buildOp, fillV, Lay.place, Bool.or_self, Bool.or_false, Bool.false_or, decide_not, ne_eq, not_true_eq_false, decide_eq_true_eq, Nat.lt_irrefl]
  refine wC_loop _ (fun k st' H' => ∃ (i : Nat), st' = ⟨L17_5 (.v x) (.box 0) (.box 1) (.v (.int .i64 i)), [[.nils, .nils, .nils, .int .i64 0], [.int .u8 74, .int .u8 81, .int .u8 48, .int .u8 49]], []⟩ ∧ H' = H ∧ i ≤ 4 ∧ k = 4 - i ∧ i ≤ L.length ∧ magG (magicB.drop i) (L.drop i) i = magG magicB L 0) 4 ⟨0, ?_, rfl, by omega, rfl, Nat.zero_le _, rfl⟩ ?_
  · simp only [WN, firstReg, growAll, zbv, zbw, norm, killS, zag, zah, zaa, zab, zbl, zat, zad, growOne, zae, zaf, zac, zas, zak, Nat.reduceLT, Nat.reduceAdd, zbj, zav, F17, L17_5, hxc]
    rfl
  · rintro k st' H' ⟨i, rfl, rfl, hi4, rfl, hil, hm⟩
    simp only [L17_5]
    simp only [WW, partV, eqCells, eqLf, minV, maxV, ifcV, zaa, zab, zac, zad, zae, zaf, zag, zah, zai, ofConst, ofConst1, List.replicate, zaj, zak, loadOp, Go.Abs.loadCells, binV, zal, pickV, zam, zan, zao, zap, zaq, zar, zas, zat, zau, outR, resAll, resOne, zav, zaw, zax, zay, zaz, zba, zbb, zbc, zbd, zbe, zbf, zbg, zbh, zbi, zbj, zbk, storeOp, storeCell, overlay, zbl, zbm, zbn, lookupOp, keyT, okRes, mapUpdateOp, zbo, zbp, zbq, zbr, zbs, zbt, zbu, Nat.reduceSub, Nat.reduceAdd, Int.reduceLT, Int.reduceLE, Int.reduceAdd, Int.reduceSub, Int.reduceToNat, Int.reduceBEq, Int.reduceBNe, Int.reduceMul, Nat.reduceBEq, Nat.reduceBNe, Nat.reduceLT, Nat.reduceLeDiff, Nat.reduceMul, Nat.reduceEqDiff, WD, effB, effH, isPriv, isHeap, isImm, zbx, zby, zbz, chkO, setD, dslot, zca, zcb, zcc, zcd, ptrCells_some, F17]
    refine cSplit (fun hlt => ?_) (fun hge => ?_)
    · have hi : i < 4 := by have := of_decide_eq_true hlt; omega
      simp only [hlt]
      obtain ⟨m, hu, hmd⟩ := magic_arr hi
      rw [hmd] at hm
      have hi0 : (0 : Int) ≤ (i : Int) := by omega
      have hi44 : (i : Int) < ((4 : Nat) : Int) := by omega
      simp only [WW, partV, eqCells, eqLf, minV, maxV, ifcV, zaa, zab, zac, zad, zae, zaf, zag, zah, zai, ofConst, ofConst1, List.replicate, zaj, zak, loadOp, Go.Abs.loadCells, binV, zal, pickV, zam, zan, zao, zap, zaq, zar, zas, zat, zau, outR, resAll, resOne, zav, zaw, zax, zay, zaz, zba, zbb, zbc, zbd, zbe, zbf, zbg, zbh, zbi, zbj, zbk, storeOp, storeCell, overlay, zbl, zbm, zbn, lookupOp, keyT, okRes, mapUpdateOp, zbo, zbp, zbq, zbr, zbs, zbt, zbu, Nat.reduceSub, Nat.reduceAdd, Int.reduceLT, Int.reduceLE, Int.reduceAdd, Int.reduceSub, Int.reduceToNat, Int.reduceBEq, Int.reduceBNe, Int.reduceMul, Nat.reduceBEq, Nat.reduceBNe, Nat.reduceLT, Nat.reduceLeDiff, Nat.reduceMul, Nat.reduceEqDiff, WD, effB, effH, isPriv, isHeap, isImm, zbx, zby, zbz, chkO, setD, dslot, zca, zcb, zcc, zcd, ptrCells_some, F17]
      refine wC_dr alts17_7 (by kernel_rfl) ?_
      have hbad : magG magicB L 0 = ⟨i, 6⟩ → decT L (decS L) = [.agg [.nils, .nils, .nils, .int .i64 0], .int .i64 6, .int .i64 (i : Nat)] := fun h => by
        have hs : ∀ (k : Nat) (α : Type) (f : S → α × S), allG f k (⟨i, 6⟩ : S) = ([], ⟨i, 6⟩) := fun k α f => by cases k <;> rfl
        have hn : num L (⟨i, 6⟩ : S) = (0, ⟨i, 6⟩) := rfl
        have hc : count L (⟨i, 6⟩ : S) = (0, ⟨i, 6⟩) := by
          unfold count; rw [hn]
          have : decide (L.length - i < 0) = false := decide_eq_false (by omega)
          simp only [countOf, this]
        have ha : ∀ (α : Type) (f : S → α × S), allS L f (⟨i, 6⟩ : S) = ([], ⟨i, 6⟩) := fun α f => by unfold allS; rw [hc]; rfl
        simp only [decS, imgS, h, ha, hn, endS, decT]
        rfl
      cases hLp : L[i]? with
      | none =>
        have hpl : i = L.length := by have := List.getElem?_eq_none_iff.1 hLp; omega
        have g1 : decide ((L.length : Int) ≤ (i : Int)) = true := decide_eq_true (by omega)
        rw [List.drop_of_length_le (show L.length ≤ i by omega)] at hm
        simp only [WW, partV, eqCells, eqLf, minV, maxV, ifcV, zaa, zab, zac, zad, zae, zaf, zag, zah, zai, ofConst, ofConst1, List.replicate, zaj, zak, loadOp, Go.Abs.loadCells, binV, zal, pickV, zam, zan, zao, zap, zaq, zar, zas, zat, zau, outR, resAll, resOne, zav, zaw, zax, zay, zaz, zba, zbb, zbc, zbd, zbe, zbf, zbg, zbh, zbi, zbj, zbk, storeOp, storeCell, overlay, zbl, zbm, zbn, lookupOp, keyT, okRes, mapUpdateOp, zbo, zbp, zbq, zbr, zbs, zbt, zbu, Nat.reduceSub, Nat.reduceAdd, Int.reduceLT, Int.reduceLE, Int.reduceAdd, Int.reduceSub, Int.reduceToNat, Int.reduceBEq, Int.reduceBNe, Int.reduceMul, Nat.reduceBEq, Nat.reduceBNe, Nat.reduceLT, Nat.reduceLeDiff, Nat.reduceMul, Nat.reduceEqDiff, WD, effB, effH, isPriv, isHeap, isImm, zbx, zby, zbz, chkO, setD, dslot, zca, zcb, zcc, zcd, ptrCells_some, F17, hxs, hxl, g1, buildOp, fillV, Lay.place, Bool.or_self, Bool.or_false, Bool.false_or, decide_not, ne_eq, not_true_eq_false, decide_eq_true_eq, Nat.lt_irrefl, alts17_7]
        rw [hbad hm.symm]
        exact ⟨rfl, Kp.refl⟩
      | some c =>
        have hpl : i < L.length := (List.getElem?_eq_some_iff.1 hLp).1
        have g1 : decide ((L.length : Int) ≤ (i : Int)) = false := decide_eq_false (by omega)
        rw [drop_get hLp, magG] at hm
        have hat := hx0.at_ (sz := 1) (i := i) (e := .int .u8 (c : Nat)) (by simp [bs, hLp]) rfl
        by_cases hcm : c = m
        · rw [if_pos hcm] at hm
          have g2 : (((c : Nat) : Int) != (m : Int)) = false := by rw [hcm]; simp
          simp only [WW, partV, eqCells, eqLf, minV, maxV, ifcV, zaa, zab, zac, zad, zae, zaf, zag, zah, zai, ofConst, ofConst1, List.replicate, zaj, zak, loadOp, Go.Abs.loadCells, binV, zal, pickV, zam, zan, zao, zap, zaq, zar, zas, zat, zau, outR, resAll, resOne, zav, zaw, zax, zay, zaz, zba, zbb, zbc, zbd, zbe, zbf, zbg, zbh, zbi, zbj, zbk, storeOp, storeCell, overlay, zbl, zbm, zbn, lookupOp, keyT, okRes, mapUpdateOp, zbo, zbp, zbq, zbr, zbs, zbt, zbu, Nat.reduceSub, Nat.reduceAdd, Int.reduceLT, Int.reduceLE, Int.reduceAdd, Int.reduceSub, Int.reduceToNat, Int.reduceBEq, Int.reduceBNe, Int.reduceMul, Nat.reduceBEq, Nat.reduceBNe, Nat.reduceLT, Nat.reduceLeDiff, Nat.reduceMul, Nat.reduceEqDiff, WD, effB, effH, isPriv, isHeap, isImm, zbx, zby, zbz, chkO, setD, dslot, zca, zcb, zcc, zcd, ptrCells_some, F17, hxs, hxl, g1, hat.at1 hx0, hat.cells, hi0, hi44, Nat.mul_one, hu, g2, alts17_7]
          refine ⟨4 - (i + 1), by omega, i + 1, ?_, by omega, rfl, by omega, hm⟩
          simp only [WN, firstReg, growAll, zbv, zbw, norm, killS, zag, zah, zaa, zab, zbl, zat, zad, growOne, zae, zaf, zac, zas, zak, Nat.reduceLT, Nat.reduceAdd, zbj, zav, F17, hxc]
          rw [IntWalk.i64_in ((i : Int) + 1) (by omega)]; rfl
        · rw [if_neg hcm] at hm
          have g2 : (((c : Nat) : Int) != (m : Int)) = true := by simp; omega
          simp only [WW, partV, eqCells, eqLf, minV, maxV, ifcV, zaa, zab, zac, zad, zae, zaf, zag, zah, zai, ofConst, ofConst1, List.replicate, zaj, zak, loadOp, Go.Abs.loadCells, binV, zal, pickV, zam, zan, zao, zap, zaq, zar, zas, zat, zau, outR, resAll, resOne, zav, zaw, zax, zay, zaz, zba, zbb, zbc, zbd, zbe, zbf, zbg, zbh, zbi, zbj, zbk, storeOp, storeCell, overlay, zbl, zbm, zbn, lookupOp, keyT, okRes, mapUpdateOp, zbo, zbp, zbq, zbr, zbs, zbt, zbu, Nat.reduceSub, Nat.reduceAdd, Int.reduceLT, Int.reduceLE, Int.reduceAdd, Int.reduceSub, Int.reduceToNat, Int.reduceBEq, Int.reduceBNe, Int.reduceMul, Nat.reduceBEq, Nat.reduceBNe, Nat.reduceLT, Nat.reduceLeDiff, Nat.reduceMul, Nat.reduceEqDiff, WD, effB, effH, isPriv, isHeap, isImm, zbx, zby, zbz, chkO, setD, dslot, zca, zcb, zcc, zcd, ptrCells_some, F17, hxs, hxl, g1, hat.at1 hx0, hat.cells, hi0, hi44, Nat.mul_one, hu, g2, buildOp, fillV, Lay.place, Bool.or_self, Bool.or_false, Bool.false_or, decide_not, ne_eq, not_true_eq_false, decide_eq_true_eq, Nat.lt_irrefl, alts17_7]
          rw [hbad hm.symm]
          exact ⟨rfl, Kp.refl⟩
    · have hi : i = 4 := by have := of_decide_eq_false hge; omega
      subst hi
      have hm4 : magG magicB L 0 = ⟨4, 0⟩ := by rw [← hm]; rfl
      simp only [hge]
      simp only [WW, partV, eqCells, eqLf, minV, maxV, ifcV, zaa, zab, zac, zad, zae, zaf, zag, zah, zai, ofConst, ofConst1, List.replicate, zaj, zak, loadOp, Go.Abs.loadCells, binV, zal, pickV, zam, zan, zao, zap, zaq, zar, zas, zat, zau, outR, resAll, resOne, zav, zaw, zax, zay, zaz, zba, zbb, zbc, zbd, zbe, zbf, zbg, zbh, zbi, zbj, zbk, storeOp, storeCell, overlay, zbl, zbm, zbn, lookupOp, keyT, okRes, mapUpdateOp, zbo, zbp, zbq, zbr, zbs, zbt, zbu, Nat.reduceSub, Nat.reduceAdd, Int.reduceLT, Int.reduceLE, Int.reduceAdd, Int.reduceSub, Int.reduceToNat, Int.reduceBEq, Int.reduceBNe, Int.reduceMul, Nat.reduceBEq, Nat.reduceBNe, Nat.reduceLT, Nat.reduceLeDiff, Nat.reduceMul, Nat.reduceEqDiff, WD, effB, effH, isPriv, isHeap, isImm, zbx, zby, zbz, chkO, setD, dslot, zca, zcb, zcc, zcd, ptrCells_some, F17, hxs, hx0.ok, hx0.cells1, hx0.width1, buildOp, fillV, Lay.place, Bool.or_self, Bool.or_false, Bool.false_or, decide_not, ne_eq, not_true_eq_false, decide_eq_true_eq, Nat.lt_irrefl]
      have hb0 : (H' ++ [Blk.cells [V.agg [x, .int .i64 4, .int .i64 0]]])[H'.length]? = some (.cells [.agg [x, .int .i64 ((4 : Nat) : Int), .int .i64 ((0 : Nat) : Int)]]) := List.getElem?_concat_length
      have hk1 : ∀ H2, Ff H'.length (H' ++ [Blk.cells [V.agg [x, .int .i64 4, .int .i64 0]]]) H2 → Kp H' H2 := fun H2 hf => by
        refine ⟨by have := hf.1; simp at this; omega, fun i hi => ?_⟩
        rw [hf.2 i (by simp; omega) (by omega), List.getElem?_append_left hi]
      have hR : Rr (H' ++ [Blk.cells [V.agg [x, .int .i64 4, .int .i64 0]]]) H'.length x L ⟨4, 0⟩ := ⟨hb0, fun H2 hf => hx H2 (hk1 H2 hf), hil⟩
      clear hb0
      generalize (H' ++ [Blk.cells [V.agg [x, .int .i64 4, .int .i64 0]]]) = Hb at *
      generalize H'.length = w at *
      refine wpCall_of (dcountR hR hL h5m) ?_
      rintro out H4 ⟨rfl, hf4, hR4⟩
      have hcl := count_le hR.o
      simp only [WW, partV, eqCells, eqLf, minV, maxV, ifcV, zaa, zab, zac, zad, zae, zaf, zag, zah, zai, ofConst, ofConst1, List.replicate, zaj, zak, loadOp, Go.Abs.loadCells, binV, zal, pickV, zam, zan, zao, zap, zaq, zar, zas, zat, zau, outR, resAll, resOne, zav, zaw, zax, zay, zaz, zba, zbb, zbc, zbd, zbe, zbf, zbg, zbh, zbi, zbj, zbk, storeOp, storeCell, overlay, zbl, zbm, zbn, lookupOp, keyT, okRes, mapUpdateOp, zbo, zbp, zbq, zbr, zbs, zbt, zbu, Nat.reduceSub, Nat.reduceAdd, Int.reduceLT, Int.reduceLE, Int.reduceAdd, Int.reduceSub, Int.reduceToNat, Int.reduceBEq, Int.reduceBNe, Int.reduceMul, Nat.reduceBEq, Nat.reduceBNe, Nat.reduceLT, Nat.reduceLeDiff, Nat.reduceMul, Nat.reduceEqDiff, WD, effB, effH, isPriv, isHeap, isImm, zbx, zby, zbz, chkO, setD, dslot, zca, zcb, zcc, zcd, ptrCells_some, F17]
      refine wC_loopG (st1 := _) (nb := 3) (nr := 1) (by simp only [envG, firstReg, grow17_12, growAll, List.foldl_cons, List.foldl_nil]; exact growOne_box (by rfl) (by rfl)) rfl rfl (fun k st' H2 => ∃ (n : Nat) (s1 : S) (acc : List ByteArray), st' = ⟨L17_12 (.v x) (.box 0) (.v (.ptr w 0 0)) (.box 2) (.v (.int .i64 n)), [[.nils, .nils, .nils, .int .i64 0], [.int .u8 74, .int .u8 81, .int .u8 48, .int .u8 49], [.nils, (.lr 0 acc.length), .nils, .int .i64 0]], [⟨true, true, acc.map V.str⟩]⟩ ∧ k = n ∧ Ff w Hb H2 ∧ Rr H2 w x L s1 ∧ acc ++ (allT L n s1).1 = (allT L (count L (⟨4, 0⟩ : S)).1 (count L (⟨4, 0⟩ : S)).2).1 ∧ (allT L n s1).2 = (allT L (count L (⟨4, 0⟩ : S)).1 (count L (⟨4, 0⟩ : S)).2).2 ∧ acc.length + n ≤ 5000000) (count L (⟨4, 0⟩ : S)).1 ⟨(count L (⟨4, 0⟩ : S)).1, (count L (⟨4, 0⟩ : S)).2, [], ?_, rfl, hf4, hR4, rfl, rfl, by simp only [List.length_nil]; omega⟩ ?_
      · simp only [WN, firstReg, growAll, zbv, zbw, norm, killS, zag, zah, zaa, zab, zbl, zat, zad, growOne, zae, zaf, zac, zas, zak, Nat.reduceLT, Nat.reduceAdd, zbj, zav, F17, L17_12, hxc]
        rfl
      · clear hf4 hR4 hcl
        rintro k st' H2 ⟨n, s1, acc, rfl, rfl, hf, hR', hl1, hl2, hle⟩
        simp only [L17_12]
        have hb := hR'.b
        simp only [rdr] at hb
        have cont : (k = 0 ∨ s1.e ≠ 0) → acc = (allT L (count L (⟨4, 0⟩ : S)).1 (count L (⟨4, 0⟩ : S)).2).1 ∧ s1 = (allT L (count L (⟨4, 0⟩ : S)).1 (count L (⟨4, 0⟩ : S)).2).2 := fun h => by
          cases k with
          | zero => simp only [allG, allT, List.append_nil] at hl1 hl2; exact ⟨hl1, hl2⟩
          | succ n =>
            cases he : s1.e with
            | zero => rw [he] at h; simp at h
            | succ e1 => simp only [allG, allT, he, List.append_nil] at hl1 hl2; exact ⟨hl1, hl2⟩
        by_cases hgo : k ≠ 0 ∧ s1.e = 0
        · obtain ⟨n, rfl⟩ : ∃ n, k = n + 1 := ⟨k - 1, by omega⟩
          have he := hgo.2
          rw [he] at hb
          have g1 : decide ((0 : Int) < ((n + 1 : Nat) : Int)) = true := decide_eq_true (by omega)
          have g2 : (((0 : Nat) : Int) == 0) = true := rfl
          have hsub : IntKind.i64.wrap (((n + 1 : Nat) : Int) - 1) = (n : Int) := by rw [IntWalk.i64_in _ (by omega)]; omega
          simp only [allG, allT, he] at hl1 hl2
          simp only [WW, partV, eqCells, eqLf, minV, maxV, ifcV, zaa, zab, zac, zad, zae, zaf, zag, zah, zai, ofConst, ofConst1, List.replicate, zaj, zak, loadOp, Go.Abs.loadCells, binV, zal, pickV, zam, zan, zao, zap, zaq, zar, zas, zat, zau, outR, resAll, resOne, zav, zaw, zax, zay, zaz, zba, zbb, zbc, zbd, zbe, zbf, zbg, zbh, zbi, zbj, zbk, storeOp, storeCell, overlay, zbl, zbm, zbn, lookupOp, keyT, okRes, mapUpdateOp, zbo, zbp, zbq, zbr, zbs, zbt, zbu, Nat.reduceSub, Nat.reduceAdd, Int.reduceLT, Int.reduceLE, Int.reduceAdd, Int.reduceSub, Int.reduceToNat, Int.reduceBEq, Int.reduceBNe, Int.reduceMul, Nat.reduceBEq, Nat.reduceBNe, Nat.reduceLT, Nat.reduceLeDiff, Nat.reduceMul, Nat.reduceEqDiff, WD, effB, effH, isPriv, isHeap, isImm, zbx, zby, zbz, chkO, setD, dslot, zca, zcb, zcc, zcd, ptrCells_some, F17, g1, g2, hb]
          refine wpCall_of (dcountR hR' hL h5m) ?_
          rintro out G0 ⟨rfl, u0, hQ0⟩
          have hle2 := count_le hR'.o
          have hb2 := hQ0.b
          simp only [rdr] at hb2
          cases hce : (count L s1).2.e with
          | succ e1 =>
            rw [hce] at hb2
            have g3 : (((e1 + 1 : Nat) : Int) == 0) = false := by rw [beq_eq_false_iff_ne]; omega
            simp only [hce, List.append_nil] at hl1 hl2
            simp only [WW, partV, eqCells, eqLf, minV, maxV, ifcV, zaa, zab, zac, zad, zae, zaf, zag, zah, zai, ofConst, ofConst1, List.replicate, zaj, zak, loadOp, Go.Abs.loadCells, binV, zal, pickV, zam, zan, zao, zap, zaq, zar, zas, zat, zau, outR, resAll, resOne, zav, zaw, zax, zay, zaz, zba, zbb, zbc, zbd, zbe, zbf, zbg, zbh, zbi, zbj, zbk, storeOp, storeCell, overlay, zbl, zbm, zbn, lookupOp, keyT, okRes, mapUpdateOp, zbo, zbp, zbq, zbr, zbs, zbt, zbu, Nat.reduceSub, Nat.reduceAdd, Int.reduceLT, Int.reduceLE, Int.reduceAdd, Int.reduceSub, Int.reduceToNat, Int.reduceBEq, Int.reduceBNe, Int.reduceMul, Nat.reduceBEq, Nat.reduceBNe, Nat.reduceLT, Nat.reduceLeDiff, Nat.reduceMul, Nat.reduceEqDiff, WD, effB, effH, isPriv, isHeap, isImm, zbx, zby, zbz, chkO, setD, dslot, zca, zcb, zcc, zcd, ptrCells_some, F17, hb2, g3, hsub]
            have hz0 : allT L n (count L s1).2 = ([], (count L s1).2) := by
              cases n with
              | zero => rfl
              | succ n => simp only [allT, hce]
            refine ⟨n, by omega, n, (count L s1).2, acc, ?_, rfl, hf.trans u0, hQ0, by rw [hz0, List.append_nil]; exact hl1, by rw [hz0]; exact hl2, by omega⟩
            simp only [WN, firstReg, growAll, zbv, zbw, norm, killS, zag, zah, zaa, zab, zbl, zat, zad, growOne, zae, zaf, zac, zas, zak, Nat.reduceLT, Nat.reduceAdd, zbj, zav, F17, hxc, hsub]
            try rfl
          | zero =>
            rw [hce] at hb2
            have g3 : (((0 : Nat) : Int) == 0) = true := rfl
            simp only [hce] at hl1 hl2
            obtain ⟨z, hz, hzc, hzs⟩ := rd_part (hQ0.r _ Ff.refl) hle2
            generalize hq : (count L s1).2.at_ = q at *
            generalize hm' : (count L s1).1 = m at *
            have hadd : IntKind.i64.wrap ((q : Int) + (m : Int)) = ((q + m : Nat) : Int) := by rw [IntWalk.i64_in _ (by omega)]; omega
            have hwa : wideAll (acc.map V.str) 1 = true := wide_mapN (f := V.str) (fun a => rfl) acc
            have hwv : wideAll [V.str (strL ((L.drop q).take m))] 1 = true := rfl
            have hel : elemOk Tryd.prog 9 (acc.length + [V.str (strL ((L.drop q).take m))].length) = true := by rw [room9]; simp; omega
            have hap : ∀ (s : List Slot) (b : List (List V)) (H : Hp), appendOp Tryd.prog .priv ⟨s, b, [⟨true, true, acc.map V.str⟩]⟩ H (some 77) 9 (.lr 0 acc.length) [V.str (strL ((L.drop q).take m))] = some (⟨s.set 77 (.v (.lr 0 (acc.length + 1))), b, [⟨true, true, acc.map V.str ++ [V.str (strL ((L.drop q).take m))]⟩]⟩, H) := fun s b H => app_own (q := ⟨true, true, acc.map V.str⟩) rfl rfl (List.length_map ..).symm hel (by rw [size9]; exact hwa) (by rw [size9]; exact hwv)
            simp only [WW, partV, eqCells, eqLf, minV, maxV, ifcV, zaa, zab, zac, zad, zae, zaf, zag, zah, zai, ofConst, ofConst1, List.replicate, zaj, zak, loadOp, Go.Abs.loadCells, binV, zal, pickV, zam, zan, zao, zap, zaq, zar, zas, zat, zau, outR, resAll, resOne, zav, zaw, zax, zay, zaz, zba, zbb, zbc, zbd, zbe, zbf, zbg, zbh, zbi, zbj, zbk, storeOp, storeCell, overlay, zbl, zbm, zbn, lookupOp, keyT, okRes, mapUpdateOp, zbo, zbp, zbq, zbr, zbs, zbt, zbu, Nat.reduceSub, Nat.reduceAdd, Int.reduceLT, Int.reduceLE, Int.reduceAdd, Int.reduceSub, Int.reduceToNat, Int.reduceBEq, Int.reduceBNe, Int.reduceMul, Nat.reduceBEq, Nat.reduceBNe, Nat.reduceLT, Nat.reduceLeDiff, Nat.reduceMul, Nat.reduceEqDiff, WD, effB, effH, isPriv, isHeap, isImm, zbx, zby, zbz, chkO, setD, dslot, zca, zcb, zcc, zcd, ptrCells_some, F17, hb2, g3]
            refine wC_dr alts17_16 (by kernel_rfl) ?_
            have hR2 := hQ0.to (s' := ⟨q + m, 0⟩) hle2
            have hb3 : (G0.set w (.cells [.agg [x, .int .i64 ((q + m : Nat) : Int), .int .i64 ((0 : Nat) : Int)]]))[w]? = some (.cells [.agg [x, .int .i64 ((q + m : Nat) : Int), .int .i64 ((0 : Nat) : Int)]]) := List.getElem?_set_self hQ0.lt
            simp only [WW, partV, eqCells, eqLf, minV, maxV, ifcV, zaa, zab, zac, zad, zae, zaf, zag, zah, zai, ofConst, ofConst1, List.replicate, zaj, zak, loadOp, Go.Abs.loadCells, binV, zal, pickV, zam, zan, zao, zap, zaq, zar, zas, zat, zau, outR, resAll, resOne, zav, zaw, zax, zay, zaz, zba, zbb, zbc, zbd, zbe, zbf, zbg, zbh, zbi, zbj, zbk, storeOp, storeCell, overlay, zbl, zbm, zbn, lookupOp, keyT, okRes, mapUpdateOp, zbo, zbp, zbq, zbr, zbs, zbt, zbu, Nat.reduceSub, Nat.reduceAdd, Int.reduceLT, Int.reduceLE, Int.reduceAdd, Int.reduceSub, Int.reduceToNat, Int.reduceBEq, Int.reduceBNe, Int.reduceMul, Nat.reduceBEq, Nat.reduceBNe, Nat.reduceLT, Nat.reduceLeDiff, Nat.reduceMul, Nat.reduceEqDiff, WD, effB, effH, isPriv, isHeap, isImm, zbx, zby, zbz, chkO, setD, dslot, zca, zcb, zcc, zcd, ptrCells_some, F17, hb2, hxs, hadd, Option.map_none, hz, hzs, convertOp, hzc, strOf_bsL, buildOp, fillV, Lay.place, Bool.or_self, Bool.or_false, Bool.false_or, decide_not, ne_eq, not_true_eq_false, decide_eq_true_eq, Nat.lt_irrefl, buildSliceV, lits, srcV_eq, srcK_sl, srcK_str, srcSl_nils, srcSl_rsl, srcSl_sl, frow, zbv, zbw, List.all_nil, List.all_cons, rowV, Bool.false_and, Bool.and_false, not_false_eq_true, grows_lr, callOut_t, hap, alts17_16]
            simp only [WW, partV, eqCells, eqLf, minV, maxV, ifcV, zaa, zab, zac, zad, zae, zaf, zag, zah, zai, ofConst, ofConst1, List.replicate, zaj, zak, loadOp, Go.Abs.loadCells, binV, zal, pickV, zam, zan, zao, zap, zaq, zar, zas, zat, zau, outR, resAll, resOne, zav, zaw, zax, zay, zaz, zba, zbb, zbc, zbd, zbe, zbf, zbg, zbh, zbi, zbj, zbk, storeOp, storeCell, overlay, zbl, zbm, zbn, lookupOp, keyT, okRes, mapUpdateOp, zbo, zbp, zbq, zbr, zbs, zbt, zbu, Nat.reduceSub, Nat.reduceAdd, Int.reduceLT, Int.reduceLE, Int.reduceAdd, Int.reduceSub, Int.reduceToNat, Int.reduceBEq, Int.reduceBNe, Int.reduceMul, Nat.reduceBEq, Nat.reduceBNe, Nat.reduceLT, Nat.reduceLeDiff, Nat.reduceMul, Nat.reduceEqDiff, WD, effB, effH, isPriv, isHeap, isImm, zbx, zby, zbz, chkO, setD, dslot, zca, zcb, zcc, zcd, ptrCells_some, F17, hb2, hadd, storeHeap, promote, heapSet, elemSet, hb3, hsub]
            refine ⟨n, by omega, n, ⟨q + m, 0⟩, acc ++ [strL ((L.drop q).take m)], ?_, rfl, (hf.trans u0).trans (Ff.set _), hR2, by rw [List.append_assoc]; exact hl1, hl2, by rw [List.length_append, List.length_singleton]; omega⟩
            simp only [WN, firstReg, growAll, zbv, zbw, norm, killS, zag, zah, zaa, zab, zbl, zat, zad, growOne, zae, zaf, zac, zas, zak, Nat.reduceLT, Nat.reduceAdd, zbj, zav, F17, hxc, hsub, List.map_append, List.length_append, List.length_singleton]
            try rfl
        · obtain ⟨ha, hs⟩ := cont (by
            by_cases h0 : k = 0
            · exact .inl h0
            · exact .inr fun h => hgo ⟨h0, h⟩)
          have hbr : (k = 0) ∨ (k ≠ 0 ∧ s1.e ≠ 0) := by
            by_cases h0 : k = 0
            · exact .inl h0
            · exact .inr ⟨h0, fun h => hgo ⟨h0, h⟩⟩
          clear cont hgo hl1 hl2 hle
          subst hs
          have g0 : (decide ((0 : Int) < (k : Int)) = false) ∨ (decide ((0 : Int) < (k : Int)) = true ∧ (((allT L (count L (⟨4, 0⟩ : S)).1 (count L (⟨4, 0⟩ : S)).2).2.e : Int) == 0) = false) := by
            rcases hbr with h | ⟨h1, h2⟩
            · exact .inl (decide_eq_false (by omega))
            · exact .inr ⟨decide_eq_true (by omega), by rw [beq_eq_false_iff_ne]; omega⟩
          subst ha
          rcases g0 with g0 | ⟨g0, g00⟩
          · simp only [WW, partV, eqCells, eqLf, minV, maxV, ifcV, zaa, zab, zac, zad, zae, zaf, zag, zah, zai, ofConst, ofConst1, List.replicate, zaj, zak, loadOp, Go.Abs.loadCells, binV, zal, pickV, zam, zan, zao, zap, zaq, zar, zas, zat, zau, outR, resAll, resOne, zav, zaw, zax, zay, zaz, zba, zbb, zbc, zbd, zbe, zbf, zbg, zbh, zbi, zbj, zbk, storeOp, storeCell, overlay, zbl, zbm, zbn, lookupOp, keyT, okRes, mapUpdateOp, zbo, zbp, zbq, zbr, zbs, zbt, zbu, Nat.reduceSub, Nat.reduceAdd, Int.reduceLT, Int.reduceLE, Int.reduceAdd, Int.reduceSub, Int.reduceToNat, Int.reduceBEq, Int.reduceBNe, Int.reduceMul, Nat.reduceBEq, Nat.reduceBNe, Nat.reduceLT, Nat.reduceLeDiff, Nat.reduceMul, Nat.reduceEqDiff, WD, effB, effH, isPriv, isHeap, isImm, zbx, zby, zbz, chkO, setD, dslot, zca, zcb, zcc, zcd, ptrCells_some, F17, g0]
            refine wpCall_of (dcountR hR' hL h5m) ?_
            rintro out H4 ⟨rfl, g4, hR4⟩
            have hf4 := hf.trans g4
            have hcl := count_le hR'.o
            simp only [WW, partV, eqCells, eqLf, minV, maxV, ifcV, zaa, zab, zac, zad, zae, zaf, zag, zah, zai, ofConst, ofConst1, List.replicate, zaj, zak, loadOp, Go.Abs.loadCells, binV, zal, pickV, zam, zan, zao, zap, zaq, zar, zas, zat, zau, outR, resAll, resOne, zav, zaw, zax, zay, zaz, zba, zbb, zbc, zbd, zbe, zbf, zbg, zbh, zbi, zbj, zbk, storeOp, storeCell, overlay, zbl, zbm, zbn, lookupOp, keyT, okRes, mapUpdateOp, zbo, zbp, zbq, zbr, zbs, zbt, zbu, Nat.reduceSub, Nat.reduceAdd, Int.reduceLT, Int.reduceLE, Int.reduceAdd, Int.reduceSub, Int.reduceToNat, Int.reduceBEq, Int.reduceBNe, Int.reduceMul, Nat.reduceBEq, Nat.reduceBNe, Nat.reduceLT, Nat.reduceLeDiff, Nat.reduceMul, Nat.reduceEqDiff, WD, effB, effH, isPriv, isHeap, isImm, zbx, zby, zbz, chkO, setD, dslot, zca, zcb, zcc, zcd, ptrCells_some, F17]
            refine wC_loopG (st1 := _) (nb := 3) (nr := 2) (by simp only [envG, firstReg, grow17_19, growAll, List.foldl_cons, List.foldl_nil]; exact growOne_box (by rfl) (by rfl)) rfl rfl (fun k st' H2 => ∃ (n : Nat) (s1 : S) (acc : List (List Int)), st' = ⟨L17_19 (.v x) (.box 0) (.v (.ptr w 0 0)) (.box 2) (.v (.int .i64 n)), [[.nils, .nils, .nils, .int .i64 0], [.int .u8 74, .int .u8 81, .int .u8 48, .int .u8 49], [.nils, .lr 0 (allT L (count L (⟨4, 0⟩ : S)).1 (count L (⟨4, 0⟩ : S)).2).1.length, (.lr 1 acc.length), .int .i64 0]], [⟨true, true, (allT L (count L (⟨4, 0⟩ : S)).1 (count L (⟨4, 0⟩ : S)).2).1.map V.str⟩, ⟨true, true, acc.map keyV⟩]⟩ ∧ k = n ∧ Ff w Hb H2 ∧ Rr H2 w x L s1 ∧ acc ++ (allG (keysS L) n s1).1 = (allS L (keysS L) (allT L (count L (⟨4, 0⟩ : S)).1 (count L (⟨4, 0⟩ : S)).2).2).1 ∧ (allG (keysS L) n s1).2 = (allS L (keysS L) (allT L (count L (⟨4, 0⟩ : S)).1 (count L (⟨4, 0⟩ : S)).2).2).2 ∧ acc.length + n ≤ 5000000) (count L (allT L (count L (⟨4, 0⟩ : S)).1 (count L (⟨4, 0⟩ : S)).2).2).1 ⟨(count L (allT L (count L (⟨4, 0⟩ : S)).1 (count L (⟨4, 0⟩ : S)).2).2).1, (count L (allT L (count L (⟨4, 0⟩ : S)).1 (count L (⟨4, 0⟩ : S)).2).2).2, [], ?_, rfl, hf4, hR4, rfl, rfl, by simp only [List.length_nil]; omega⟩ ?_
            · simp only [WN, firstReg, growAll, zbv, zbw, norm, killS, zag, zah, zaa, zab, zbl, zat, zad, growOne, zae, zaf, zac, zas, zak, Nat.reduceLT, Nat.reduceAdd, zbj, zav, F17, L17_19, hxc]
              rfl
            · clear hf4 hR4 hcl
              rintro k st' H2 ⟨n, s1, acc, rfl, rfl, hf, hR', hl1, hl2, hle⟩
              simp only [L17_19]
              have hb := hR'.b
              simp only [rdr] at hb
              have cont : (k = 0 ∨ s1.e ≠ 0) → acc = (allS L (keysS L) (allT L (count L (⟨4, 0⟩ : S)).1 (count L (⟨4, 0⟩ : S)).2).2).1 ∧ s1 = (allS L (keysS L) (allT L (count L (⟨4, 0⟩ : S)).1 (count L (⟨4, 0⟩ : S)).2).2).2 := fun h => by
                cases k with
                | zero => simp only [allG, allT, List.append_nil] at hl1 hl2; exact ⟨hl1, hl2⟩
                | succ n =>
                  cases he : s1.e with
                  | zero => rw [he] at h; simp at h
                  | succ e1 => simp only [allG, allT, he, List.append_nil] at hl1 hl2; exact ⟨hl1, hl2⟩
              by_cases hgo : k ≠ 0 ∧ s1.e = 0
              · obtain ⟨n, rfl⟩ : ∃ n, k = n + 1 := ⟨k - 1, by omega⟩
                have he := hgo.2
                rw [he] at hb
                have g1 : decide ((0 : Int) < ((n + 1 : Nat) : Int)) = true := decide_eq_true (by omega)
                have g2 : (((0 : Nat) : Int) == 0) = true := rfl
                have hsub : IntKind.i64.wrap (((n + 1 : Nat) : Int) - 1) = (n : Int) := by rw [IntWalk.i64_in _ (by omega)]; omega
                simp only [allG, allT, he] at hl1 hl2
                simp only [WW, partV, eqCells, eqLf, minV, maxV, ifcV, zaa, zab, zac, zad, zae, zaf, zag, zah, zai, ofConst, ofConst1, List.replicate, zaj, zak, loadOp, Go.Abs.loadCells, binV, zal, pickV, zam, zan, zao, zap, zaq, zar, zas, zat, zau, outR, resAll, resOne, zav, zaw, zax, zay, zaz, zba, zbb, zbc, zbd, zbe, zbf, zbg, zbh, zbi, zbj, zbk, storeOp, storeCell, overlay, zbl, zbm, zbn, lookupOp, keyT, okRes, mapUpdateOp, zbo, zbp, zbq, zbr, zbs, zbt, zbu, Nat.reduceSub, Nat.reduceAdd, Int.reduceLT, Int.reduceLE, Int.reduceAdd, Int.reduceSub, Int.reduceToNat, Int.reduceBEq, Int.reduceBNe, Int.reduceMul, Nat.reduceBEq, Nat.reduceBNe, Nat.reduceLT, Nat.reduceLeDiff, Nat.reduceMul, Nat.reduceEqDiff, WD, effB, effH, isPriv, isHeap, isImm, zbx, zby, zbz, chkO, setD, dslot, zca, zcb, zcc, zcd, ptrCells_some, F17, g1, g2, hb]
                obtain ⟨out, G0', hc, ⟨y, rfl, u0', hQ0', hO⟩⟩ := wpCall_run (dlistR hR' hL h5m)
                obtain ⟨G0, e3, u0, hQ0⟩ := own_done u0' hR'.lt hR'.r hQ0' hO
                have hcw : ∀ K, wpCall (evW Tryd.prog notes) 51 [.ptr w 0 0] H2 K = K _ G0' := fun K => wpCall_eq hc
                simp only at hcw
                have hwa : wideAll (acc.map keyV) 1 = true := wide_mapN (f := keyV) (fun a => repL_width _) acc
                have hwv : wideAll [keyV (keysS L s1).1] 1 = true := by simp [wideAll, keyV, repL_width]
                have hel : elemOk Tryd.prog 45 (acc.length + [keyV (keysS L s1).1].length) = true := by rw [room45]; simp; omega
                have hap : ∀ (s : List Slot) (b : List (List V)) (H : Hp), appendOp Tryd.prog .priv ⟨s, b, [⟨true, true, (allT L (count L (⟨4, 0⟩ : S)).1 (count L (⟨4, 0⟩ : S)).2).1.map V.str⟩, ⟨true, true, acc.map keyV⟩]⟩ H (some 106) 45 (.lr 1 acc.length) [keyV (keysS L s1).1] = some (⟨s.set 106 (.v (.lr 1 (acc.length + 1))), b, [⟨true, true, (allT L (count L (⟨4, 0⟩ : S)).1 (count L (⟨4, 0⟩ : S)).2).1.map V.str⟩, ⟨true, true, acc.map keyV ++ [keyV (keysS L s1).1]⟩]⟩, H) := fun s b H => app_own (q := ⟨true, true, acc.map keyV⟩) rfl rfl (List.length_map ..).symm hel (by rw [size45]; exact hwa) (by rw [size45]; exact hwv)
                change sealH .imm y G0' = (keyV (keysS L s1).1, G0) at e3
                have hk1' := repL_shut ((keysS L s1).1.map intV)
                have hk2 := repL_ok ((keysS L s1).1.map intV)
                have hk3 := repL_cells ((keysS L s1).1.map intV)
                change ∀ st, sealV st (keyV (keysS L s1).1) = keyV (keysS L s1).1 at hk1'
                change okV (keyV (keysS L s1).1) = true at hk2
                change (keyV (keysS L s1).1).cells = [keyV (keysS L s1).1] at hk3
                refine wC_dr alts17_21 (by kernel_rfl) ?_
                simp only [WW, partV, eqCells, eqLf, minV, maxV, ifcV, zaa, zab, zac, zad, zae, zaf, zag, zah, zai, ofConst, ofConst1, List.replicate, zaj, zak, loadOp, Go.Abs.loadCells, binV, zal, pickV, zam, zan, zao, zap, zaq, zar, zas, zat, zau, outR, resAll, resOne, zav, zaw, zax, zay, zaz, zba, zbb, zbc, zbd, zbe, zbf, zbg, zbh, zbi, zbj, zbk, storeOp, storeCell, overlay, zbl, zbm, zbn, lookupOp, keyT, okRes, mapUpdateOp, zbo, zbp, zbq, zbr, zbs, zbt, zbu, Nat.reduceSub, Nat.reduceAdd, Int.reduceLT, Int.reduceLE, Int.reduceAdd, Int.reduceSub, Int.reduceToNat, Int.reduceBEq, Int.reduceBNe, Int.reduceMul, Nat.reduceBEq, Nat.reduceBNe, Nat.reduceLT, Nat.reduceLeDiff, Nat.reduceMul, Nat.reduceEqDiff, WD, effB, effH, isPriv, isHeap, isImm, zbx, zby, zbz, chkO, setD, dslot, zca, zcb, zcc, zcd, ptrCells_some, F17, hcw, e3, hk1', hk2, hk3, buildOp, fillV, Lay.place, Bool.or_self, Bool.or_false, Bool.false_or, decide_not, ne_eq, not_true_eq_false, decide_eq_true_eq, Nat.lt_irrefl, buildSliceV, lits, srcV_eq, srcK_sl, srcK_str, srcSl_nils, srcSl_rsl, srcSl_sl, frow, zbv, zbw, List.all_nil, List.all_cons, rowV, Bool.false_and, Bool.and_false, not_false_eq_true, grows_lr, callOut_t, hap, alts17_21, hsub]
                refine ⟨n, by omega, n, (keysS L s1).2, acc ++ [(keysS L s1).1], ?_, rfl, hf.trans u0, hQ0, by rw [List.append_assoc]; exact hl1, hl2, by rw [List.length_append, List.length_singleton]; omega⟩
                simp only [WN, firstReg, growAll, zbv, zbw, norm, killS, zag, zah, zaa, zab, zbl, zat, zad, growOne, zae, zaf, zac, zas, zak, Nat.reduceLT, Nat.reduceAdd, zbj, zav, F17, hxc, hsub, List.map_append, List.length_append, List.length_singleton]
                try rfl
              · obtain ⟨ha, hs⟩ := cont (by
                  by_cases h0 : k = 0
                  · exact .inl h0
                  · exact .inr fun h => hgo ⟨h0, h⟩)
                have hbr : (k = 0) ∨ (k ≠ 0 ∧ s1.e ≠ 0) := by
                  by_cases h0 : k = 0
                  · exact .inl h0
                  · exact .inr ⟨h0, fun h => hgo ⟨h0, h⟩⟩
                clear cont hgo hl1 hl2 hle
                subst hs
                have g0 : (decide ((0 : Int) < (k : Int)) = false) ∨ (decide ((0 : Int) < (k : Int)) = true ∧ (((allS L (keysS L) (allT L (count L (⟨4, 0⟩ : S)).1 (count L (⟨4, 0⟩ : S)).2).2).2.e : Int) == 0) = false) := by
                  rcases hbr with h | ⟨h1, h2⟩
                  · exact .inl (decide_eq_false (by omega))
                  · exact .inr ⟨decide_eq_true (by omega), by rw [beq_eq_false_iff_ne]; omega⟩
                subst ha
                rcases g0 with g0 | ⟨g0, g00⟩
                · simp only [WW, partV, eqCells, eqLf, minV, maxV, ifcV, zaa, zab, zac, zad, zae, zaf, zag, zah, zai, ofConst, ofConst1, List.replicate, zaj, zak, loadOp, Go.Abs.loadCells, binV, zal, pickV, zam, zan, zao, zap, zaq, zar, zas, zat, zau, outR, resAll, resOne, zav, zaw, zax, zay, zaz, zba, zbb, zbc, zbd, zbe, zbf, zbg, zbh, zbi, zbj, zbk, storeOp, storeCell, overlay, zbl, zbm, zbn, lookupOp, keyT, okRes, mapUpdateOp, zbo, zbp, zbq, zbr, zbs, zbt, zbu, Nat.reduceSub, Nat.reduceAdd, Int.reduceLT, Int.reduceLE, Int.reduceAdd, Int.reduceSub, Int.reduceToNat, Int.reduceBEq, Int.reduceBNe, Int.reduceMul, Nat.reduceBEq, Nat.reduceBNe, Nat.reduceLT, Nat.reduceLeDiff, Nat.reduceMul, Nat.reduceEqDiff, WD, effB, effH, isPriv, isHeap, isImm, zbx, zby, zbz, chkO, setD, dslot, zca, zcb, zcc, zcd, ptrCells_some, F17, g0]
                  refine wpCall_of (dnumR hR' hL h5m) ?_
                  rintro out H3 ⟨rfl, g3, hR3⟩
                  have hf3 := hf.trans g3
                  simp only [WW, partV, eqCells, eqLf, minV, maxV, ifcV, zaa, zab, zac, zad, zae, zaf, zag, zah, zai, ofConst, ofConst1, List.replicate, zaj, zak, loadOp, Go.Abs.loadCells, binV, zal, pickV, zam, zan, zao, zap, zaq, zar, zas, zat, zau, outR, resAll, resOne, zav, zaw, zax, zay, zaz, zba, zbb, zbc, zbd, zbe, zbf, zbg, zbh, zbi, zbj, zbk, storeOp, storeCell, overlay, zbl, zbm, zbn, lookupOp, keyT, okRes, mapUpdateOp, zbo, zbp, zbq, zbr, zbs, zbt, zbu, Nat.reduceSub, Nat.reduceAdd, Int.reduceLT, Int.reduceLE, Int.reduceAdd, Int.reduceSub, Int.reduceToNat, Int.reduceBEq, Int.reduceBNe, Int.reduceMul, Nat.reduceBEq, Nat.reduceBNe, Nat.reduceLT, Nat.reduceLeDiff, Nat.reduceMul, Nat.reduceEqDiff, WD, effB, effH, isPriv, isHeap, isImm, zbx, zby, zbz, chkO, setD, dslot, zca, zcb, zcc, zcd, ptrCells_some, F17]
                  refine wpCall_of (dcountR hR3 hL h5m) ?_
                  rintro out H4 ⟨rfl, g4, hR4⟩
                  have hf4 := hf3.trans g4
                  have hcl := count_le hR3.o
                  simp only [WW, partV, eqCells, eqLf, minV, maxV, ifcV, zaa, zab, zac, zad, zae, zaf, zag, zah, zai, ofConst, ofConst1, List.replicate, zaj, zak, loadOp, Go.Abs.loadCells, binV, zal, pickV, zam, zan, zao, zap, zaq, zar, zas, zat, zau, outR, resAll, resOne, zav, zaw, zax, zay, zaz, zba, zbb, zbc, zbd, zbe, zbf, zbg, zbh, zbi, zbj, zbk, storeOp, storeCell, overlay, zbl, zbm, zbn, lookupOp, keyT, okRes, mapUpdateOp, zbo, zbp, zbq, zbr, zbs, zbt, zbu, Nat.reduceSub, Nat.reduceAdd, Int.reduceLT, Int.reduceLE, Int.reduceAdd, Int.reduceSub, Int.reduceToNat, Int.reduceBEq, Int.reduceBNe, Int.reduceMul, Nat.reduceBEq, Nat.reduceBNe, Nat.reduceLT, Nat.reduceLeDiff, Nat.reduceMul, Nat.reduceEqDiff, WD, effB, effH, isPriv, isHeap, isImm, zbx, zby, zbz, chkO, setD, dslot, zca, zcb, zcc, zcd, ptrCells_some, F17]
                  refine wC_loopG (st1 := _) (nb := 3) (nr := 3) (by simp only [envG, firstReg, grow17_24, growAll, List.foldl_cons, List.foldl_nil]; exact growOne_box (by rfl) (by rfl)) rfl rfl (fun k st' H2 => ∃ (n : Nat) (s1 : S) (acc : List FnM), st' = ⟨L17_24 (.v x) (.box 0) (.v (.ptr w 0 0)) (.box 2) (.v (.int .i64 n)), [[.nils, .nils, .nils, .int .i64 0], [.int .u8 74, .int .u8 81, .int .u8 48, .int .u8 49], [(.lr 2 acc.length), .lr 0 (allT L (count L (⟨4, 0⟩ : S)).1 (count L (⟨4, 0⟩ : S)).2).1.length, .lr 1 (allS L (keysS L) (allT L (count L (⟨4, 0⟩ : S)).1 (count L (⟨4, 0⟩ : S)).2).2).1.length, .int .i64 ((num L (allS L (keysS L) (allT L (count L (⟨4, 0⟩ : S)).1 (count L (⟨4, 0⟩ : S)).2).2).2).1 : Nat)]], [⟨true, true, (allT L (count L (⟨4, 0⟩ : S)).1 (count L (⟨4, 0⟩ : S)).2).1.map V.str⟩, ⟨true, true, (allS L (keysS L) (allT L (count L (⟨4, 0⟩ : S)).1 (count L (⟨4, 0⟩ : S)).2).2).1.map keyV⟩, ⟨true, true, acc.map fnVal⟩]⟩ ∧ k = n ∧ Ff w Hb H2 ∧ Rr H2 w x L s1 ∧ acc ++ (allG (fnS L) n s1).1 = (allS L (fnS L) (num L (allS L (keysS L) (allT L (count L (⟨4, 0⟩ : S)).1 (count L (⟨4, 0⟩ : S)).2).2).2).2).1 ∧ (allG (fnS L) n s1).2 = (allS L (fnS L) (num L (allS L (keysS L) (allT L (count L (⟨4, 0⟩ : S)).1 (count L (⟨4, 0⟩ : S)).2).2).2).2).2 ∧ acc.length + n ≤ 5000000) (count L (num L (allS L (keysS L) (allT L (count L (⟨4, 0⟩ : S)).1 (count L (⟨4, 0⟩ : S)).2).2).2).2).1 ⟨(count L (num L (allS L (keysS L) (allT L (count L (⟨4, 0⟩ : S)).1 (count L (⟨4, 0⟩ : S)).2).2).2).2).1, (count L (num L (allS L (keysS L) (allT L (count L (⟨4, 0⟩ : S)).1 (count L (⟨4, 0⟩ : S)).2).2).2).2).2, [], ?_, rfl, hf4, hR4, rfl, rfl, by simp only [List.length_nil]; omega⟩ ?_
                  · simp only [WN, firstReg, growAll, zbv, zbw, norm, killS, zag, zah, zaa, zab, zbl, zat, zad, growOne, zae, zaf, zac, zas, zak, Nat.reduceLT, Nat.reduceAdd, zbj, zav, F17, L17_24, hxc]
                    rfl
                  · clear hf4 hR4 hcl
                    rintro k st' H2 ⟨n, s1, acc, rfl, rfl, hf, hR', hl1, hl2, hle⟩
                    simp only [L17_24]
                    have hb := hR'.b
                    simp only [rdr] at hb
                    have cont : (k = 0 ∨ s1.e ≠ 0) → acc = (allS L (fnS L) (num L (allS L (keysS L) (allT L (count L (⟨4, 0⟩ : S)).1 (count L (⟨4, 0⟩ : S)).2).2).2).2).1 ∧ s1 = (allS L (fnS L) (num L (allS L (keysS L) (allT L (count L (⟨4, 0⟩ : S)).1 (count L (⟨4, 0⟩ : S)).2).2).2).2).2 := fun h => by
                      cases k with
                      | zero => simp only [allG, allT, List.append_nil] at hl1 hl2; exact ⟨hl1, hl2⟩
                      | succ n =>
                        cases he : s1.e with
                        | zero => rw [he] at h; simp at h
                        | succ e1 => simp only [allG, allT, he, List.append_nil] at hl1 hl2; exact ⟨hl1, hl2⟩
                    by_cases hgo : k ≠ 0 ∧ s1.e = 0
                    · obtain ⟨n, rfl⟩ : ∃ n, k = n + 1 := ⟨k - 1, by omega⟩
                      have he := hgo.2
                      rw [he] at hb
                      have g1 : decide ((0 : Int) < ((n + 1 : Nat) : Int)) = true := decide_eq_true (by omega)
                      have g2 : (((0 : Nat) : Int) == 0) = true := rfl
                      have hsub : IntKind.i64.wrap (((n + 1 : Nat) : Int) - 1) = (n : Int) := by rw [IntWalk.i64_in _ (by omega)]; omega
                      simp only [allG, allT, he] at hl1 hl2
                      simp only [WW, partV, eqCells, eqLf, minV, maxV, ifcV, zaa, zab, zac, zad, zae, zaf, zag, zah, zai, ofConst, ofConst1, List.replicate, zaj, zak, loadOp, Go.Abs.loadCells, binV, zal, pickV, zam, zan, zao, zap, zaq, zar, zas, zat, zau, outR, resAll, resOne, zav, zaw, zax, zay, zaz, zba, zbb, zbc, zbd, zbe, zbf, zbg, zbh, zbi, zbj, zbk, storeOp, storeCell, overlay, zbl, zbm, zbn, lookupOp, keyT, okRes, mapUpdateOp, zbo, zbp, zbq, zbr, zbs, zbt, zbu, Nat.reduceSub, Nat.reduceAdd, Int.reduceLT, Int.reduceLE, Int.reduceAdd, Int.reduceSub, Int.reduceToNat, Int.reduceBEq, Int.reduceBNe, Int.reduceMul, Nat.reduceBEq, Nat.reduceBNe, Nat.reduceLT, Nat.reduceLeDiff, Nat.reduceMul, Nat.reduceEqDiff, WD, effB, effH, isPriv, isHeap, isImm, zbx, zby, zbz, chkO, setD, dslot, zca, zcb, zcc, zcd, ptrCells_some, F17, g1, g2, hb]
                      obtain ⟨out, G0, hc, rfl, u0, hQ0⟩ := wpCall_run (dfunctionR hR' hL h5m)
                      have hcw : ∀ K, wpCall (evW Tryd.prog notes) 53 [.ptr w 0 0] H2 K = K _ G0 := fun K => wpCall_eq hc
                      simp only at hcw
                      have hwa : wideAll (acc.map fnVal) 6 = true := wide_mapN (f := fnVal) (fun a => rfl) acc
                      have hwv : wideAll [fnVal (fnS L s1).1] 6 = true := rfl
                      have hel : elemOk Tryd.prog 50 (acc.length + [fnVal (fnS L s1).1].length) = true := by rw [room50]; simp; omega
                      have hap : ∀ (s : List Slot) (b : List (List V)) (H : Hp), appendOp Tryd.prog .priv ⟨s, b, [⟨true, true, (allT L (count L (⟨4, 0⟩ : S)).1 (count L (⟨4, 0⟩ : S)).2).1.map V.str⟩, ⟨true, true, (allS L (keysS L) (allT L (count L (⟨4, 0⟩ : S)).1 (count L (⟨4, 0⟩ : S)).2).2).1.map keyV⟩, ⟨true, true, acc.map fnVal⟩]⟩ H (some 129) 50 (.lr 2 acc.length) [fnVal (fnS L s1).1] = some (⟨s.set 129 (.v (.lr 2 (acc.length + 1))), b, [⟨true, true, (allT L (count L (⟨4, 0⟩ : S)).1 (count L (⟨4, 0⟩ : S)).2).1.map V.str⟩, ⟨true, true, (allS L (keysS L) (allT L (count L (⟨4, 0⟩ : S)).1 (count L (⟨4, 0⟩ : S)).2).2).1.map keyV⟩, ⟨true, true, acc.map fnVal ++ [fnVal (fnS L s1).1]⟩]⟩, H) := fun s b H => app_own (q := ⟨true, true, acc.map fnVal⟩) rfl rfl (List.length_map ..).symm hel (by rw [size50]; exact hwa) (by rw [size50]; exact hwv)
                      refine wC_dr alts17_26 (by kernel_rfl) ?_
                      have hfs : ∀ st, sealV st (fnVal (fnS L s1).1) = fnVal (fnS L s1).1 := fun _ => rfl
                      have hfo : okV (fnVal (fnS L s1).1) = true := rfl
                      have hfc : (fnVal (fnS L s1).1).cells.length = 6 := rfl
                      have hf1 : sealH .priv (fnVal (fnS L s1).1) G0 = (fnVal (fnS L s1).1, G0) := rfl
                      simp only [WW, partV, eqCells, eqLf, minV, maxV, ifcV, zaa, zab, zac, zad, zae, zaf, zag, zah, zai, ofConst, ofConst1, List.replicate, zaj, zak, loadOp, Go.Abs.loadCells, binV, zal, pickV, zam, zan, zao, zap, zaq, zar, zas, zat, zau, outR, resAll, resOne, zav, zaw, zax, zay, zaz, zba, zbb, zbc, zbd, zbe, zbf, zbg, zbh, zbi, zbj, zbk, storeOp, storeCell, overlay, zbl, zbm, zbn, lookupOp, keyT, okRes, mapUpdateOp, zbo, zbp, zbq, zbr, zbs, zbt, zbu, Nat.reduceSub, Nat.reduceAdd, Int.reduceLT, Int.reduceLE, Int.reduceAdd, Int.reduceSub, Int.reduceToNat, Int.reduceBEq, Int.reduceBNe, Int.reduceMul, Nat.reduceBEq, Nat.reduceBNe, Nat.reduceLT, Nat.reduceLeDiff, Nat.reduceMul, Nat.reduceEqDiff, WD, effB, effH, isPriv, isHeap, isImm, zbx, zby, zbz, chkO, setD, dslot, zca, zcb, zcc, zcd, ptrCells_some, F17, hcw, hfs, hfo, hfc, hf1, buildOp, fillV, Lay.place, Bool.or_self, Bool.or_false, Bool.false_or, decide_not, ne_eq, not_true_eq_false, decide_eq_true_eq, Nat.lt_irrefl, buildSliceV, lits, srcV_eq, srcK_sl, srcK_str, srcSl_nils, srcSl_rsl, srcSl_sl, frow, zbv, zbw, List.all_nil, List.all_cons, rowV, Bool.false_and, Bool.and_false, not_false_eq_true, grows_lr, callOut_t, hap, alts17_26, hsub]
                      refine ⟨n, by omega, n, (fnS L s1).2, acc ++ [(fnS L s1).1], ?_, rfl, hf.trans u0, hQ0, by rw [List.append_assoc]; exact hl1, hl2, by rw [List.length_append, List.length_singleton]; omega⟩
                      simp only [WN, firstReg, growAll, zbv, zbw, norm, killS, zag, zah, zaa, zab, zbl, zat, zad, growOne, zae, zaf, zac, zas, zak, Nat.reduceLT, Nat.reduceAdd, zbj, zav, F17, hxc, hsub, List.map_append, List.length_append, List.length_singleton]
                      try rfl
                    · obtain ⟨ha, hs⟩ := cont (by
                        by_cases h0 : k = 0
                        · exact .inl h0
                        · exact .inr fun h => hgo ⟨h0, h⟩)
                      have hbr : (k = 0) ∨ (k ≠ 0 ∧ s1.e ≠ 0) := by
                        by_cases h0 : k = 0
                        · exact .inl h0
                        · exact .inr ⟨h0, fun h => hgo ⟨h0, h⟩⟩
                      clear cont hgo hl1 hl2 hle
                      subst hs
                      have g0 : (decide ((0 : Int) < (k : Int)) = false) ∨ (decide ((0 : Int) < (k : Int)) = true ∧ (((allS L (fnS L) (num L (allS L (keysS L) (allT L (count L (⟨4, 0⟩ : S)).1 (count L (⟨4, 0⟩ : S)).2).2).2).2).2.e : Int) == 0) = false) := by
                        rcases hbr with h | ⟨h1, h2⟩
                        · exact .inl (decide_eq_false (by omega))
                        · exact .inr ⟨decide_eq_true (by omega), by rw [beq_eq_false_iff_ne]; omega⟩
                      subst ha
                      rcases g0 with g0 | ⟨g0, g00⟩
                      · have hT := decT_T hm4
                        generalize hs5 : (allS L (fnS L) (num L (allS L (keysS L) (allT L (count L (⟨4, 0⟩ : S)).1 (count L (⟨4, 0⟩ : S)).2).2).2).2).2 = s5 at *
                        obtain ⟨p, e⟩ := s5
                        have hp5 : p ≤ L.length := hR'.o
                        simp only [rdr] at hb
                        cases e with
                        | succ e1 =>
                          have h00 : (((e1 + 1 : Nat) : Int) == 0) = false := by rw [beq_eq_false_iff_ne]; omega
                          have h01 : (((e1 + 1 : Nat) : Int) != 0) = true := by simp only [bne_iff_ne, ne_eq]; omega
                          rw [hT.1 e1 p rfl]
                          simp only [WW, partV, eqCells, eqLf, minV, maxV, ifcV, zaa, zab, zac, zad, zae, zaf, zag, zah, zai, ofConst, ofConst1, List.replicate, zaj, zak, loadOp, Go.Abs.loadCells, binV, zal, pickV, zam, zan, zao, zap, zaq, zar, zas, zat, zau, outR, resAll, resOne, zav, zaw, zax, zay, zaz, zba, zbb, zbc, zbd, zbe, zbf, zbg, zbh, zbi, zbj, zbk, storeOp, storeCell, overlay, zbl, zbm, zbn, lookupOp, keyT, okRes, mapUpdateOp, zbo, zbp, zbq, zbr, zbs, zbt, zbu, Nat.reduceSub, Nat.reduceAdd, Int.reduceLT, Int.reduceLE, Int.reduceAdd, Int.reduceSub, Int.reduceToNat, Int.reduceBEq, Int.reduceBNe, Int.reduceMul, Nat.reduceBEq, Nat.reduceBNe, Nat.reduceLT, Nat.reduceLeDiff, Nat.reduceMul, Nat.reduceEqDiff, WD, effB, effH, isPriv, isHeap, isImm, zbx, zby, zbz, chkO, setD, dslot, zca, zcb, zcc, zcd, ptrCells_some, F17, g0, hb, h00, h01]
                          refine wC_dr alts17_30 (by kernel_rfl) ?_
                          simp only [WW, partV, eqCells, eqLf, minV, maxV, ifcV, zaa, zab, zac, zad, zae, zaf, zag, zah, zai, ofConst, ofConst1, List.replicate, zaj, zak, loadOp, Go.Abs.loadCells, binV, zal, pickV, zam, zan, zao, zap, zaq, zar, zas, zat, zau, outR, resAll, resOne, zav, zaw, zax, zay, zaz, zba, zbb, zbc, zbd, zbe, zbf, zbg, zbh, zbi, zbj, zbk, storeOp, storeCell, overlay, zbl, zbm, zbn, lookupOp, keyT, okRes, mapUpdateOp, zbo, zbp, zbq, zbr, zbs, zbt, zbu, Nat.reduceSub, Nat.reduceAdd, Int.reduceLT, Int.reduceLE, Int.reduceAdd, Int.reduceSub, Int.reduceToNat, Int.reduceBEq, Int.reduceBNe, Int.reduceMul, Nat.reduceBEq, Nat.reduceBNe, Nat.reduceLT, Nat.reduceLeDiff, Nat.reduceMul, Nat.reduceEqDiff, WD, effB, effH, isPriv, isHeap, isImm, zbx, zby, zbz, chkO, setD, dslot, zca, zcb, zcc, zcd, ptrCells_some, F17, hb, alts17_30, buildOp, fillV, Lay.place, Bool.or_self, Bool.or_false, Bool.false_or, decide_not, ne_eq, not_true_eq_false, decide_eq_true_eq, Nat.lt_irrefl]
                          first | exact hk1 _ hf | exact ⟨rfl, hk1 _ hf⟩
                        | zero =>
                          have h00 : (((0 : Nat) : Int) == 0) = true := rfl
                          have h01 : (((0 : Nat) : Int) != 0) = false := rfl
                          by_cases hpl : p < L.length
                          · have hd : decide ((p : Int) < (L.length : Int)) = true := decide_eq_true (by omega)
                            have hfw : ∀ K, wpCall (evW Tryd.prog notes) 54 [.ptr w 0 0, .int .i64 6, .int .i64 (p : Nat)] H2 K = K (.ret (.tup []) false) (H2.set w (rdr x ⟨p, 6⟩)) := fun K => wpCall_eq (badD hR' 6 p)
                            have hR6 := hR'.to (s' := ⟨p, 6⟩) hR'.o
                            have hb6 : (H2.set w (rdr x ⟨p, 6⟩))[w]? = some (.cells [.agg [x, .int .i64 (p : Nat), .int .i64 6]]) := hR6.b
                            have g6 : ((6 : Int) != 0) = true := rfl
                            rw [hT.2.1 p rfl hpl]
                            simp only [WW, partV, eqCells, eqLf, minV, maxV, ifcV, zaa, zab, zac, zad, zae, zaf, zag, zah, zai, ofConst, ofConst1, List.replicate, zaj, zak, loadOp, Go.Abs.loadCells, binV, zal, pickV, zam, zan, zao, zap, zaq, zar, zas, zat, zau, outR, resAll, resOne, zav, zaw, zax, zay, zaz, zba, zbb, zbc, zbd, zbe, zbf, zbg, zbh, zbi, zbj, zbk, storeOp, storeCell, overlay, zbl, zbm, zbn, lookupOp, keyT, okRes, mapUpdateOp, zbo, zbp, zbq, zbr, zbs, zbt, zbu, Nat.reduceSub, Nat.reduceAdd, Int.reduceLT, Int.reduceLE, Int.reduceAdd, Int.reduceSub, Int.reduceToNat, Int.reduceBEq, Int.reduceBNe, Int.reduceMul, Nat.reduceBEq, Nat.reduceBNe, Nat.reduceLT, Nat.reduceLeDiff, Nat.reduceMul, Nat.reduceEqDiff, WD, effB, effH, isPriv, isHeap, isImm, zbx, zby, zbz, chkO, setD, dslot, zca, zcb, zcc, zcd, ptrCells_some, F17, g0, hb, h00, hd, hxs, hxl, hfw, hb6, g6]
                            refine wC_dr alts17_30 (by kernel_rfl) ?_
                            simp only [WW, partV, eqCells, eqLf, minV, maxV, ifcV, zaa, zab, zac, zad, zae, zaf, zag, zah, zai, ofConst, ofConst1, List.replicate, zaj, zak, loadOp, Go.Abs.loadCells, binV, zal, pickV, zam, zan, zao, zap, zaq, zar, zas, zat, zau, outR, resAll, resOne, zav, zaw, zax, zay, zaz, zba, zbb, zbc, zbd, zbe, zbf, zbg, zbh, zbi, zbj, zbk, storeOp, storeCell, overlay, zbl, zbm, zbn, lookupOp, keyT, okRes, mapUpdateOp, zbo, zbp, zbq, zbr, zbs, zbt, zbu, Nat.reduceSub, Nat.reduceAdd, Int.reduceLT, Int.reduceLE, Int.reduceAdd, Int.reduceSub, Int.reduceToNat, Int.reduceBEq, Int.reduceBNe, Int.reduceMul, Nat.reduceBEq, Nat.reduceBNe, Nat.reduceLT, Nat.reduceLeDiff, Nat.reduceMul, Nat.reduceEqDiff, WD, effB, effH, isPriv, isHeap, isImm, zbx, zby, zbz, chkO, setD, dslot, zca, zcb, zcc, zcd, ptrCells_some, F17, hb6, alts17_30, buildOp, fillV, Lay.place, Bool.or_self, Bool.or_false, Bool.false_or, decide_not, ne_eq, not_true_eq_false, decide_eq_true_eq, Nat.lt_irrefl]
                            first | exact hk1 _ (hf.trans (Ff.set _)) | exact ⟨rfl, hk1 _ (hf.trans (Ff.set _))⟩
                          · have hd : decide ((p : Int) < (L.length : Int)) = false := decide_eq_false (by omega)
                            rw [hT.2.2 p rfl hpl]
                            simp only [imVal]
                            simp only [WW, partV, eqCells, eqLf, minV, maxV, ifcV, zaa, zab, zac, zad, zae, zaf, zag, zah, zai, ofConst, ofConst1, List.replicate, zaj, zak, loadOp, Go.Abs.loadCells, binV, zal, pickV, zam, zan, zao, zap, zaq, zar, zas, zat, zau, outR, resAll, resOne, zav, zaw, zax, zay, zaz, zba, zbb, zbc, zbd, zbe, zbf, zbg, zbh, zbi, zbj, zbk, storeOp, storeCell, overlay, zbl, zbm, zbn, lookupOp, keyT, okRes, mapUpdateOp, zbo, zbp, zbq, zbr, zbs, zbt, zbu, Nat.reduceSub, Nat.reduceAdd, Int.reduceLT, Int.reduceLE, Int.reduceAdd, Int.reduceSub, Int.reduceToNat, Int.reduceBEq, Int.reduceBNe, Int.reduceMul, Nat.reduceBEq, Nat.reduceBNe, Nat.reduceLT, Nat.reduceLeDiff, Nat.reduceMul, Nat.reduceEqDiff, WD, effB, effH, isPriv, isHeap, isImm, zbx, zby, zbz, chkO, setD, dslot, zca, zcb, zcc, zcd, ptrCells_some, F17, g0, hb, h00, h01, hd, hxs, hxl, rowV_map, repL_ok, repL_cells, repL_shut]
                            first | exact hk1 _ hf | exact ⟨rfl, hk1 _ hf⟩
                      · have hT := decT_T hm4
                        generalize hs5 : (allS L (fnS L) (num L (allS L (keysS L) (allT L (count L (⟨4, 0⟩ : S)).1 (count L (⟨4, 0⟩ : S)).2).2).2).2).2 = s5 at *
                        obtain ⟨p, e⟩ := s5
                        have hp5 : p ≤ L.length := hR'.o
                        simp only [rdr] at hb
                        cases e with
                        | succ e1 =>
                          have h00 : (((e1 + 1 : Nat) : Int) == 0) = false := by rw [beq_eq_false_iff_ne]; omega
                          have h01 : (((e1 + 1 : Nat) : Int) != 0) = true := by simp only [bne_iff_ne, ne_eq]; omega
                          rw [hT.1 e1 p rfl]
                          simp only [WW, partV, eqCells, eqLf, minV, maxV, ifcV, zaa, zab, zac, zad, zae, zaf, zag, zah, zai, ofConst, ofConst1, List.replicate, zaj, zak, loadOp, Go.Abs.loadCells, binV, zal, pickV, zam, zan, zao, zap, zaq, zar, zas, zat, zau, outR, resAll, resOne, zav, zaw, zax, zay, zaz, zba, zbb, zbc, zbd, zbe, zbf, zbg, zbh, zbi, zbj, zbk, storeOp, storeCell, overlay, zbl, zbm, zbn, lookupOp, keyT, okRes, mapUpdateOp, zbo, zbp, zbq, zbr, zbs, zbt, zbu, Nat.reduceSub, Nat.reduceAdd, Int.reduceLT, Int.reduceLE, Int.reduceAdd, Int.reduceSub, Int.reduceToNat, Int.reduceBEq, Int.reduceBNe, Int.reduceMul, Nat.reduceBEq, Nat.reduceBNe, Nat.reduceLT, Nat.reduceLeDiff, Nat.reduceMul, Nat.reduceEqDiff, WD, effB, effH, isPriv, isHeap, isImm, zbx, zby, zbz, chkO, setD, dslot, zca, zcb, zcc, zcd, ptrCells_some, F17, g0, g00, hb, h00, h01]
                          refine wC_dr alts17_30 (by kernel_rfl) ?_
                          simp only [WW, partV, eqCells, eqLf, minV, maxV, ifcV, zaa, zab, zac, zad, zae, zaf, zag, zah, zai, ofConst, ofConst1, List.replicate, zaj, zak, loadOp, Go.Abs.loadCells, binV, zal, pickV, zam, zan, zao, zap, zaq, zar, zas, zat, zau, outR, resAll, resOne, zav, zaw, zax, zay, zaz, zba, zbb, zbc, zbd, zbe, zbf, zbg, zbh, zbi, zbj, zbk, storeOp, storeCell, overlay, zbl, zbm, zbn, lookupOp, keyT, okRes, mapUpdateOp, zbo, zbp, zbq, zbr, zbs, zbt, zbu, Nat.reduceSub, Nat.reduceAdd, Int.reduceLT, Int.reduceLE, Int.reduceAdd, Int.reduceSub, Int.reduceToNat, Int.reduceBEq, Int.reduceBNe, Int.reduceMul, Nat.reduceBEq, Nat.reduceBNe, Nat.reduceLT, Nat.reduceLeDiff, Nat.reduceMul, Nat.reduceEqDiff, WD, effB, effH, isPriv, isHeap, isImm, zbx, zby, zbz, chkO, setD, dslot, zca, zcb, zcc, zcd, ptrCells_some, F17, hb, alts17_30, buildOp, fillV, Lay.place, Bool.or_self, Bool.or_false, Bool.false_or, decide_not, ne_eq, not_true_eq_false, decide_eq_true_eq, Nat.lt_irrefl]
                          first | exact hk1 _ hf | exact ⟨rfl, hk1 _ hf⟩
                        | zero => exact absurd g00 (by show ¬ ((((0 : Nat) : Int) == 0) = false); decide)
                · simp only [WW, partV, eqCells, eqLf, minV, maxV, ifcV, zaa, zab, zac, zad, zae, zaf, zag, zah, zai, ofConst, ofConst1, List.replicate, zaj, zak, loadOp, Go.Abs.loadCells, binV, zal, pickV, zam, zan, zao, zap, zaq, zar, zas, zat, zau, outR, resAll, resOne, zav, zaw, zax, zay, zaz, zba, zbb, zbc, zbd, zbe, zbf, zbg, zbh, zbi, zbj, zbk, storeOp, storeCell, overlay, zbl, zbm, zbn, lookupOp, keyT, okRes, mapUpdateOp, zbo, zbp, zbq, zbr, zbs, zbt, zbu, Nat.reduceSub, Nat.reduceAdd, Int.reduceLT, Int.reduceLE, Int.reduceAdd, Int.reduceSub, Int.reduceToNat, Int.reduceBEq, Int.reduceBNe, Int.reduceMul, Nat.reduceBEq, Nat.reduceBNe, Nat.reduceLT, Nat.reduceLeDiff, Nat.reduceMul, Nat.reduceEqDiff, WD, effB, effH, isPriv, isHeap, isImm, zbx, zby, zbz, chkO, setD, dslot, zca, zcb, zcc, zcd, ptrCells_some, F17, g0, g00, hb]
                  refine wpCall_of (dnumR hR' hL h5m) ?_
                  rintro out H3 ⟨rfl, g3, hR3⟩
                  have hf3 := hf.trans g3
                  simp only [WW, partV, eqCells, eqLf, minV, maxV, ifcV, zaa, zab, zac, zad, zae, zaf, zag, zah, zai, ofConst, ofConst1, List.replicate, zaj, zak, loadOp, Go.Abs.loadCells, binV, zal, pickV, zam, zan, zao, zap, zaq, zar, zas, zat, zau, outR, resAll, resOne, zav, zaw, zax, zay, zaz, zba, zbb, zbc, zbd, zbe, zbf, zbg, zbh, zbi, zbj, zbk, storeOp, storeCell, overlay, zbl, zbm, zbn, lookupOp, keyT, okRes, mapUpdateOp, zbo, zbp, zbq, zbr, zbs, zbt, zbu, Nat.reduceSub, Nat.reduceAdd, Int.reduceLT, Int.reduceLE, Int.reduceAdd, Int.reduceSub, Int.reduceToNat, Int.reduceBEq, Int.reduceBNe, Int.reduceMul, Nat.reduceBEq, Nat.reduceBNe, Nat.reduceLT, Nat.reduceLeDiff, Nat.reduceMul, Nat.reduceEqDiff, WD, effB, effH, isPriv, isHeap, isImm, zbx, zby, zbz, chkO, setD, dslot, zca, zcb, zcc, zcd, ptrCells_some, F17]
                  refine wpCall_of (dcountR hR3 hL h5m) ?_
                  rintro out H4 ⟨rfl, g4, hR4⟩
                  have hf4 := hf3.trans g4
                  have hcl := count_le hR3.o
                  simp only [WW, partV, eqCells, eqLf, minV, maxV, ifcV, zaa, zab, zac, zad, zae, zaf, zag, zah, zai, ofConst, ofConst1, List.replicate, zaj, zak, loadOp, Go.Abs.loadCells, binV, zal, pickV, zam, zan, zao, zap, zaq, zar, zas, zat, zau, outR, resAll, resOne, zav, zaw, zax, zay, zaz, zba, zbb, zbc, zbd, zbe, zbf, zbg, zbh, zbi, zbj, zbk, storeOp, storeCell, overlay, zbl, zbm, zbn, lookupOp, keyT, okRes, mapUpdateOp, zbo, zbp, zbq, zbr, zbs, zbt, zbu, Nat.reduceSub, Nat.reduceAdd, Int.reduceLT, Int.reduceLE, Int.reduceAdd, Int.reduceSub, Int.reduceToNat, Int.reduceBEq, Int.reduceBNe, Int.reduceMul, Nat.reduceBEq, Nat.reduceBNe, Nat.reduceLT, Nat.reduceLeDiff, Nat.reduceMul, Nat.reduceEqDiff, WD, effB, effH, isPriv, isHeap, isImm, zbx, zby, zbz, chkO, setD, dslot, zca, zcb, zcc, zcd, ptrCells_some, F17]
                  refine wC_loopG (st1 := _) (nb := 3) (nr := 3) (by simp only [envG, firstReg, grow17_24, growAll, List.foldl_cons, List.foldl_nil]; exact growOne_box (by rfl) (by rfl)) rfl rfl (fun k st' H2 => ∃ (n : Nat) (s1 : S) (acc : List FnM), st' = ⟨L17_24 (.v x) (.box 0) (.v (.ptr w 0 0)) (.box 2) (.v (.int .i64 n)), [[.nils, .nils, .nils, .int .i64 0], [.int .u8 74, .int .u8 81, .int .u8 48, .int .u8 49], [(.lr 2 acc.length), .lr 0 (allT L (count L (⟨4, 0⟩ : S)).1 (count L (⟨4, 0⟩ : S)).2).1.length, .lr 1 (allS L (keysS L) (allT L (count L (⟨4, 0⟩ : S)).1 (count L (⟨4, 0⟩ : S)).2).2).1.length, .int .i64 ((num L (allS L (keysS L) (allT L (count L (⟨4, 0⟩ : S)).1 (count L (⟨4, 0⟩ : S)).2).2).2).1 : Nat)]], [⟨true, true, (allT L (count L (⟨4, 0⟩ : S)).1 (count L (⟨4, 0⟩ : S)).2).1.map V.str⟩, ⟨true, true, (allS L (keysS L) (allT L (count L (⟨4, 0⟩ : S)).1 (count L (⟨4, 0⟩ : S)).2).2).1.map keyV⟩, ⟨true, true, acc.map fnVal⟩]⟩ ∧ k = n ∧ Ff w Hb H2 ∧ Rr H2 w x L s1 ∧ acc ++ (allG (fnS L) n s1).1 = (allS L (fnS L) (num L (allS L (keysS L) (allT L (count L (⟨4, 0⟩ : S)).1 (count L (⟨4, 0⟩ : S)).2).2).2).2).1 ∧ (allG (fnS L) n s1).2 = (allS L (fnS L) (num L (allS L (keysS L) (allT L (count L (⟨4, 0⟩ : S)).1 (count L (⟨4, 0⟩ : S)).2).2).2).2).2 ∧ acc.length + n ≤ 5000000) (count L (num L (allS L (keysS L) (allT L (count L (⟨4, 0⟩ : S)).1 (count L (⟨4, 0⟩ : S)).2).2).2).2).1 ⟨(count L (num L (allS L (keysS L) (allT L (count L (⟨4, 0⟩ : S)).1 (count L (⟨4, 0⟩ : S)).2).2).2).2).1, (count L (num L (allS L (keysS L) (allT L (count L (⟨4, 0⟩ : S)).1 (count L (⟨4, 0⟩ : S)).2).2).2).2).2, [], ?_, rfl, hf4, hR4, rfl, rfl, by simp only [List.length_nil]; omega⟩ ?_
                  · simp only [WN, firstReg, growAll, zbv, zbw, norm, killS, zag, zah, zaa, zab, zbl, zat, zad, growOne, zae, zaf, zac, zas, zak, Nat.reduceLT, Nat.reduceAdd, zbj, zav, F17, L17_24, hxc]
                    rfl
                  · clear hf4 hR4 hcl
                    rintro k st' H2 ⟨n, s1, acc, rfl, rfl, hf, hR', hl1, hl2, hle⟩
                    simp only [L17_24]
                    have hb := hR'.b
                    simp only [rdr] at hb
                    have cont : (k = 0 ∨ s1.e ≠ 0) → acc = (allS L (fnS L) (num L (allS L (keysS L) (allT L (count L (⟨4, 0⟩ : S)).1 (count L (⟨4, 0⟩ : S)).2).2).2).2).1 ∧ s1 = (allS L (fnS L) (num L (allS L (keysS L) (allT L (count L (⟨4, 0⟩ : S)).1 (count L (⟨4, 0⟩ : S)).2).2).2).2).2 := fun h => by
                      cases k with
                      | zero => simp only [allG, allT, List.append_nil] at hl1 hl2; exact ⟨hl1, hl2⟩
                      | succ n =>
                        cases he : s1.e with
                        | zero => rw [he] at h; simp at h
                        | succ e1 => simp only [allG, allT, he, List.append_nil] at hl1 hl2; exact ⟨hl1, hl2⟩
                    by_cases hgo : k ≠ 0 ∧ s1.e = 0
                    · obtain ⟨n, rfl⟩ : ∃ n, k = n + 1 := ⟨k - 1, by omega⟩
                      have he := hgo.2
                      rw [he] at hb
                      have g1 : decide ((0 : Int) < ((n + 1 : Nat) : Int)) = true := decide_eq_true (by omega)
                      have g2 : (((0 : Nat) : Int) == 0) = true := rfl
                      have hsub : IntKind.i64.wrap (((n + 1 : Nat) : Int) - 1) = (n : Int) := by rw [IntWalk.i64_in _ (by omega)]; omega
                      simp only [allG, allT, he] at hl1 hl2
                      simp only [WW, partV, eqCells, eqLf, minV, maxV, ifcV, zaa, zab, zac, zad, zae, zaf, zag, zah, zai, ofConst, ofConst1, List.replicate, zaj, zak, loadOp, Go.Abs.loadCells, binV, zal, pickV, zam, zan, zao, zap, zaq, zar, zas, zat, zau, outR, resAll, resOne, zav, zaw, zax, zay, zaz, zba, zbb, zbc, zbd, zbe, zbf, zbg, zbh, zbi, zbj, zbk, storeOp, storeCell, overlay, zbl, zbm, zbn, lookupOp, keyT, okRes, mapUpdateOp, zbo, zbp, zbq, zbr, zbs, zbt, zbu, Nat.reduceSub, Nat.reduceAdd, Int.reduceLT, Int.reduceLE, Int.reduceAdd, Int.reduceSub, Int.reduceToNat, Int.reduceBEq, Int.reduceBNe, Int.reduceMul, Nat.reduceBEq, Nat.reduceBNe, Nat.reduceLT, Nat.reduceLeDiff, Nat.reduceMul, Nat.reduceEqDiff, WD, effB, effH, isPriv, isHeap, isImm, zbx, zby, zbz, chkO, setD, dslot, zca, zcb, zcc, zcd, ptrCells_some, F17, g1, g2, hb]
                      obtain ⟨out, G0, hc, rfl, u0, hQ0⟩ := wpCall_run (dfunctionR hR' hL h5m)
                      have hcw : ∀ K, wpCall (evW Tryd.prog notes) 53 [.ptr w 0 0] H2 K = K _ G0 := fun K => wpCall_eq hc
                      simp only at hcw
                      have hwa : wideAll (acc.map fnVal) 6 = true := wide_mapN (f := fnVal) (fun a => rfl) acc
                      have hwv : wideAll [fnVal (fnS L s1).1] 6 = true := rfl
                      have hel : elemOk Tryd.prog 50 (acc.length + [fnVal (fnS L s1).1].length) = true := by rw [room50]; simp; omega
                      have hap : ∀ (s : List Slot) (b : List (List V)) (H : Hp), appendOp Tryd.prog .priv ⟨s, b, [⟨true, true, (allT L (count L (⟨4, 0⟩ : S)).1 (count L (⟨4, 0⟩ : S)).2).1.map V.str⟩, ⟨true, true, (allS L (keysS L) (allT L (count L (⟨4, 0⟩ : S)).1 (count L (⟨4, 0⟩ : S)).2).2).1.map keyV⟩, ⟨true, true, acc.map fnVal⟩]⟩ H (some 129) 50 (.lr 2 acc.length) [fnVal (fnS L s1).1] = some (⟨s.set 129 (.v (.lr 2 (acc.length + 1))), b, [⟨true, true, (allT L (count L (⟨4, 0⟩ : S)).1 (count L (⟨4, 0⟩ : S)).2).1.map V.str⟩, ⟨true, true, (allS L (keysS L) (allT L (count L (⟨4, 0⟩ : S)).1 (count L (⟨4, 0⟩ : S)).2).2).1.map keyV⟩, ⟨true, true, acc.map fnVal ++ [fnVal (fnS L s1).1]⟩]⟩, H) := fun s b H => app_own (q := ⟨true, true, acc.map fnVal⟩) rfl rfl (List.length_map ..).symm hel (by rw [size50]; exact hwa) (by rw [size50]; exact hwv)
                      refine wC_dr alts17_26 (by kernel_rfl) ?_
                      have hfs : ∀ st, sealV st (fnVal (fnS L s1).1) = fnVal (fnS L s1).1 := fun _ => rfl
                      have hfo : okV (fnVal (fnS L s1).1) = true := rfl
                      have hfc : (fnVal (fnS L s1).1).cells.length = 6 := rfl
                      have hf1 : sealH .priv (fnVal (fnS L s1).1) G0 = (fnVal (fnS L s1).1, G0) := rfl
                      simp only [WW, partV, eqCells, eqLf, minV, maxV, ifcV, zaa, zab, zac, zad, zae, zaf, zag, zah, zai, ofConst, ofConst1, List.replicate, zaj, zak, loadOp, Go.Abs.loadCells, binV, zal, pickV, zam, zan, zao, zap, zaq, zar, zas, zat, zau, outR, resAll, resOne, zav, zaw, zax, zay, zaz, zba, zbb, zbc, zbd, zbe, zbf, zbg, zbh, zbi, zbj, zbk, storeOp, storeCell, overlay, zbl, zbm, zbn, lookupOp, keyT, okRes, mapUpdateOp, zbo, zbp, zbq, zbr, zbs, zbt, zbu, Nat.reduceSub, Nat.reduceAdd, Int.reduceLT, Int.reduceLE, Int.reduceAdd, Int.reduceSub, Int.reduceToNat, Int.reduceBEq, Int.reduceBNe, Int.reduceMul, Nat.reduceBEq, Nat.reduceBNe, Nat.reduceLT, Nat.reduceLeDiff, Nat.reduceMul, Nat.reduceEqDiff, WD, effB, effH, isPriv, isHeap, isImm, zbx, zby, zbz, chkO, setD, dslot, zca, zcb, zcc, zcd, ptrCells_some, F17, hcw, hfs, hfo, hfc, hf1, buildOp, fillV, Lay.place, Bool.or_self, Bool.or_false, Bool.false_or, decide_not, ne_eq, not_true_eq_false, decide_eq_true_eq, Nat.lt_irrefl, buildSliceV, lits, srcV_eq, srcK_sl, srcK_str, srcSl_nils, srcSl_rsl, srcSl_sl, frow, zbv, zbw, List.all_nil, List.all_cons, rowV, Bool.false_and, Bool.and_false, not_false_eq_true, grows_lr, callOut_t, hap, alts17_26, hsub]
                      refine ⟨n, by omega, n, (fnS L s1).2, acc ++ [(fnS L s1).1], ?_, rfl, hf.trans u0, hQ0, by rw [List.append_assoc]; exact hl1, hl2, by rw [List.length_append, List.length_singleton]; omega⟩
                      simp only [WN, firstReg, growAll, zbv, zbw, norm, killS, zag, zah, zaa, zab, zbl, zat, zad, growOne, zae, zaf, zac, zas, zak, Nat.reduceLT, Nat.reduceAdd, zbj, zav, F17, hxc, hsub, List.map_append, List.length_append, List.length_singleton]
                      try rfl
                    · obtain ⟨ha, hs⟩ := cont (by
                        by_cases h0 : k = 0
                        · exact .inl h0
                        · exact .inr fun h => hgo ⟨h0, h⟩)
                      have hbr : (k = 0) ∨ (k ≠ 0 ∧ s1.e ≠ 0) := by
                        by_cases h0 : k = 0
                        · exact .inl h0
                        · exact .inr ⟨h0, fun h => hgo ⟨h0, h⟩⟩
                      clear cont hgo hl1 hl2 hle
                      subst hs
                      have g0 : (decide ((0 : Int) < (k : Int)) = false) ∨ (decide ((0 : Int) < (k : Int)) = true ∧ (((allS L (fnS L) (num L (allS L (keysS L) (allT L (count L (⟨4, 0⟩ : S)).1 (count L (⟨4, 0⟩ : S)).2).2).2).2).2.e : Int) == 0) = false) := by
                        rcases hbr with h | ⟨h1, h2⟩
                        · exact .inl (decide_eq_false (by omega))
                        · exact .inr ⟨decide_eq_true (by omega), by rw [beq_eq_false_iff_ne]; omega⟩
                      subst ha
                      rcases g0 with g0 | ⟨g0, g00⟩
                      · have hT := decT_T hm4
                        generalize hs5 : (allS L (fnS L) (num L (allS L (keysS L) (allT L (count L (⟨4, 0⟩ : S)).1 (count L (⟨4, 0⟩ : S)).2).2).2).2).2 = s5 at *
                        obtain ⟨p, e⟩ := s5
                        have hp5 : p ≤ L.length := hR'.o
                        simp only [rdr] at hb
                        cases e with
                        | succ e1 =>
                          have h00 : (((e1 + 1 : Nat) : Int) == 0) = false := by rw [beq_eq_false_iff_ne]; omega
                          have h01 : (((e1 + 1 : Nat) : Int) != 0) = true := by simp only [bne_iff_ne, ne_eq]; omega
                          rw [hT.1 e1 p rfl]
                          simp only [WW, partV, eqCells, eqLf, minV, maxV, ifcV, zaa, zab, zac, zad, zae, zaf, zag, zah, zai, ofConst, ofConst1, List.replicate, zaj, zak, loadOp, Go.Abs.loadCells, binV, zal, pickV, zam, zan, zao, zap, zaq, zar, zas, zat, zau, outR, resAll, resOne, zav, zaw, zax, zay, zaz, zba, zbb, zbc, zbd, zbe, zbf, zbg, zbh, zbi, zbj, zbk, storeOp, storeCell, overlay, zbl, zbm, zbn, lookupOp, keyT, okRes, mapUpdateOp, zbo, zbp, zbq, zbr, zbs, zbt, zbu, Nat.reduceSub, Nat.reduceAdd, Int.reduceLT, Int.reduceLE, Int.reduceAdd, Int.reduceSub, Int.reduceToNat, Int.reduceBEq, Int.reduceBNe, Int.reduceMul, Nat.reduceBEq, Nat.reduceBNe, Nat.reduceLT, Nat.reduceLeDiff, Nat.reduceMul, Nat.reduceEqDiff, WD, effB, effH, isPriv, isHeap, isImm, zbx, zby, zbz, chkO, setD, dslot, zca, zcb, zcc, zcd, ptrCells_some, F17, g0, hb, h00, h01]
                          refine wC_dr alts17_30 (by kernel_rfl) ?_
                          simp only [WW, partV, eqCells, eqLf, minV, maxV, ifcV, zaa, zab, zac, zad, zae, zaf, zag, zah, zai, ofConst, ofConst1, List.replicate, zaj, zak, loadOp, Go.Abs.loadCells, binV, zal, pickV, zam, zan, zao, zap, zaq, zar, zas, zat, zau, outR, resAll, resOne, zav, zaw, zax, zay, zaz, zba, zbb, zbc, zbd, zbe, zbf, zbg, zbh, zbi, zbj, zbk, storeOp, storeCell, overlay, zbl, zbm, zbn, lookupOp, keyT, okRes, mapUpdateOp, zbo, zbp, zbq, zbr, zbs, zbt, zbu, Nat.reduceSub, Nat.reduceAdd, Int.reduceLT, Int.reduceLE, Int.reduceAdd, Int.reduceSub, Int.reduceToNat, Int.reduceBEq, Int.reduceBNe, Int.reduceMul, Nat.reduceBEq, Nat.reduceBNe, Nat.reduceLT, Nat.reduceLeDiff, Nat.reduceMul, Nat.reduceEqDiff, WD, effB, effH, isPriv, isHeap, isImm, zbx, zby, zbz, chkO, setD, dslot, zca, zcb, zcc, zcd, ptrCells_some, F17, hb, alts17_30, buildOp, fillV, Lay.place, Bool.or_self, Bool.or_false, Bool.false_or, decide_not, ne_eq, not_true_eq_false, decide_eq_true_eq, Nat.lt_irrefl]
                          first | exact hk1 _ hf | exact ⟨rfl, hk1 _ hf⟩
                        | zero =>
                          have h00 : (((0 : Nat) : Int) == 0) = true := rfl
                          have h01 : (((0 : Nat) : Int) != 0) = false := rfl
                          by_cases hpl : p < L.length
                          · have hd : decide ((p : Int) < (L.length : Int)) = true := decide_eq_true (by omega)
                            have hfw : ∀ K, wpCall (evW Tryd.prog notes) 54 [.ptr w 0 0, .int .i64 6, .int .i64 (p : Nat)] H2 K = K (.ret (.tup []) false) (H2.set w (rdr x ⟨p, 6⟩)) := fun K => wpCall_eq (badD hR' 6 p)
                            have hR6 := hR'.to (s' := ⟨p, 6⟩) hR'.o
                            have hb6 : (H2.set w (rdr x ⟨p, 6⟩))[w]? = some (.cells [.agg [x, .int .i64 (p : Nat), .int .i64 6]]) := hR6.b
                            have g6 : ((6 : Int) != 0) = true := rfl
                            rw [hT.2.1 p rfl hpl]
                            simp only [WW, partV, eqCells, eqLf, minV, maxV, ifcV, zaa, zab, zac, zad, zae, zaf, zag, zah, zai, ofConst, ofConst1, List.replicate, zaj, zak, loadOp, Go.Abs.loadCells, binV, zal, pickV, zam, zan, zao, zap, zaq, zar, zas, zat, zau, outR, resAll, resOne, zav, zaw, zax, zay, zaz, zba, zbb, zbc, zbd, zbe, zbf, zbg, zbh, zbi, zbj, zbk, storeOp, storeCell, overlay, zbl, zbm, zbn, lookupOp, keyT, okRes, mapUpdateOp, zbo, zbp, zbq, zbr, zbs, zbt, zbu, Nat.reduceSub, Nat.reduceAdd, Int.reduceLT, Int.reduceLE, Int.reduceAdd, Int.reduceSub, Int.reduceToNat, Int.reduceBEq, Int.reduceBNe, Int.reduceMul, Nat.reduceBEq, Nat.reduceBNe, Nat.reduceLT, Nat.reduceLeDiff, Nat.reduceMul, Nat.reduceEqDiff, WD, effB, effH, isPriv, isHeap, isImm, zbx, zby, zbz, chkO, setD, dslot, zca, zcb, zcc, zcd, ptrCells_some, F17, g0, hb, h00, hd, hxs, hxl, hfw, hb6, g6]
                            refine wC_dr alts17_30 (by kernel_rfl) ?_
                            simp only [WW, partV, eqCells, eqLf, minV, maxV, ifcV, zaa, zab, zac, zad, zae, zaf, zag, zah, zai, ofConst, ofConst1, List.replicate, zaj, zak, loadOp, Go.Abs.loadCells, binV, zal, pickV, zam, zan, zao, zap, zaq, zar, zas, zat, zau, outR, resAll, resOne, zav, zaw, zax, zay, zaz, zba, zbb, zbc, zbd, zbe, zbf, zbg, zbh, zbi, zbj, zbk, storeOp, storeCell, overlay, zbl, zbm, zbn, lookupOp, keyT, okRes, mapUpdateOp, zbo, zbp, zbq, zbr, zbs, zbt, zbu, Nat.reduceSub, Nat.reduceAdd, Int.reduceLT, Int.reduceLE, Int.reduceAdd, Int.reduceSub, Int.reduceToNat, Int.reduceBEq, Int.reduceBNe, Int.reduceMul, Nat.reduceBEq, Nat.reduceBNe, Nat.reduceLT, Nat.reduceLeDiff, Nat.reduceMul, Nat.reduceEqDiff, WD, effB, effH, isPriv, isHeap, isImm, zbx, zby, zbz, chkO, setD, dslot, zca, zcb, zcc, zcd, ptrCells_some, F17, hb6, alts17_30, buildOp, fillV, Lay.place, Bool.or_self, Bool.or_false, Bool.false_or, decide_not, ne_eq, not_true_eq_false, decide_eq_true_eq, Nat.lt_irrefl]
                            first | exact hk1 _ (hf.trans (Ff.set _)) | exact ⟨rfl, hk1 _ (hf.trans (Ff.set _))⟩
                          · have hd : decide ((p : Int) < (L.length : Int)) = false := decide_eq_false (by omega)
                            rw [hT.2.2 p rfl hpl]
                            simp only [imVal]
                            simp only [WW, partV, eqCells, eqLf, minV, maxV, ifcV, zaa, zab, zac, zad, zae, zaf, zag, zah, zai, ofConst, ofConst1, List.replicate, zaj, zak, loadOp, Go.Abs.loadCells, binV, zal, pickV, zam, zan, zao, zap, zaq, zar, zas, zat, zau, outR, resAll, resOne, zav, zaw, zax, zay, zaz, zba, zbb, zbc, zbd, zbe, zbf, zbg, zbh, zbi, zbj, zbk, storeOp, storeCell, overlay, zbl, zbm, zbn, lookupOp, keyT, okRes, mapUpdateOp, zbo, zbp, zbq, zbr, zbs, zbt, zbu, Nat.reduceSub, Nat.reduceAdd, Int.reduceLT, Int.reduceLE, Int.reduceAdd, Int.reduceSub, Int.reduceToNat, Int.reduceBEq, Int.reduceBNe, Int.reduceMul, Nat.reduceBEq, Nat.reduceBNe, Nat.reduceLT, Nat.reduceLeDiff, Nat.reduceMul, Nat.reduceEqDiff, WD, effB, effH, isPriv, isHeap, isImm, zbx, zby, zbz, chkO, setD, dslot, zca, zcb, zcc, zcd, ptrCells_some, F17, g0, hb, h00, h01, hd, hxs, hxl, rowV_map, repL_ok, repL_cells, repL_shut]
                            first | exact hk1 _ hf | exact ⟨rfl, hk1 _ hf⟩
                      · have hT := decT_T hm4
                        generalize hs5 : (allS L (fnS L) (num L (allS L (keysS L) (allT L (count L (⟨4, 0⟩ : S)).1 (count L (⟨4, 0⟩ : S)).2).2).2).2).2 = s5 at *
                        obtain ⟨p, e⟩ := s5
                        have hp5 : p ≤ L.length := hR'.o
                        simp only [rdr] at hb
                        cases e with
                        | succ e1 =>
                          have h00 : (((e1 + 1 : Nat) : Int) == 0) = false := by rw [beq_eq_false_iff_ne]; omega
                          have h01 : (((e1 + 1 : Nat) : Int) != 0) = true := by simp only [bne_iff_ne, ne_eq]; omega
                          rw [hT.1 e1 p rfl]
                          simp only [WW, partV, eqCells, eqLf, minV, maxV, ifcV, zaa, zab, zac, zad, zae, zaf, zag, zah, zai, ofConst, ofConst1, List.replicate, zaj, zak, loadOp, Go.Abs.loadCells, binV, zal, pickV, zam, zan, zao, zap, zaq, zar, zas, zat, zau, outR, resAll, resOne, zav, zaw, zax, zay, zaz, zba, zbb, zbc, zbd, zbe, zbf, zbg, zbh, zbi, zbj, zbk, storeOp, storeCell, overlay, zbl, zbm, zbn, lookupOp, keyT, okRes, mapUpdateOp, zbo, zbp, zbq, zbr, zbs, zbt, zbu, Nat.reduceSub, Nat.reduceAdd, Int.reduceLT, Int.reduceLE, Int.reduceAdd, Int.reduceSub, Int.reduceToNat, Int.reduceBEq, Int.reduceBNe, Int.reduceMul, Nat.reduceBEq, Nat.reduceBNe, Nat.reduceLT, Nat.reduceLeDiff, Nat.reduceMul, Nat.reduceEqDiff, WD, effB, effH, isPriv, isHeap, isImm, zbx, zby, zbz, chkO, setD, dslot, zca, zcb, zcc, zcd, ptrCells_some, F17, g0, g00, hb, h00, h01]
                          refine wC_dr alts17_30 (by kernel_rfl) ?_
                          simp only [WW, partV, eqCells, eqLf, minV, maxV, ifcV, zaa, zab, zac, zad, zae, zaf, zag, zah, zai, ofConst, ofConst1, List.replicate, zaj, zak, loadOp, Go.Abs.loadCells, binV, zal, pickV, zam, zan, zao, zap, zaq, zar, zas, zat, zau, outR, resAll, resOne, zav, zaw, zax, zay, zaz, zba, zbb, zbc, zbd, zbe, zbf, zbg, zbh, zbi, zbj, zbk, storeOp, storeCell, overlay, zbl, zbm, zbn, lookupOp, keyT, okRes, mapUpdateOp, zbo, zbp, zbq, zbr, zbs, zbt, zbu, Nat.reduceSub, Nat.reduceAdd, Int.reduceLT, Int.reduceLE, Int.reduceAdd, Int.reduceSub, Int.reduceToNat, Int.reduceBEq, Int.reduceBNe, Int.reduceMul, Nat.reduceBEq, Nat.reduceBNe, Nat.reduceLT, Nat.reduceLeDiff, Nat.reduceMul, Nat.reduceEqDiff, WD, effB, effH, isPriv, isHeap, isImm, zbx, zby, zbz, chkO, setD, dslot, zca, zcb, zcc, zcd, ptrCells_some, F17, hb, alts17_30, buildOp, fillV, Lay.place, Bool.or_self, Bool.or_false, Bool.false_or, decide_not, ne_eq, not_true_eq_false, decide_eq_true_eq, Nat.lt_irrefl]
                          first | exact hk1 _ hf | exact ⟨rfl, hk1 _ hf⟩
                        | zero => exact absurd g00 (by show ¬ ((((0 : Nat) : Int) == 0) = false); decide)
          · simp only [WW, partV, eqCells, eqLf, minV, maxV, ifcV, zaa, zab, zac, zad, zae, zaf, zag, zah, zai, ofConst, ofConst1, List.replicate, zaj, zak, loadOp, Go.Abs.loadCells, binV, zal, pickV, zam, zan, zao, zap, zaq, zar, zas, zat, zau, outR, resAll, resOne, zav, zaw, zax, zay, zaz, zba, zbb, zbc, zbd, zbe, zbf, zbg, zbh, zbi, zbj, zbk, storeOp, storeCell, overlay, zbl, zbm, zbn, lookupOp, keyT, okRes, mapUpdateOp, zbo, zbp, zbq, zbr, zbs, zbt, zbu, Nat.reduceSub, Nat.reduceAdd, Int.reduceLT, Int.reduceLE, Int.reduceAdd, Int.reduceSub, Int.reduceToNat, Int.reduceBEq, Int.reduceBNe, Int.reduceMul, Nat.reduceBEq, Nat.reduceBNe, Nat.reduceLT, Nat.reduceLeDiff, Nat.reduceMul, Nat.reduceEqDiff, WD, effB, effH, isPriv, isHeap, isImm, zbx, zby, zbz, chkO, setD, dslot, zca, zcb, zcc, zcd, ptrCells_some, F17, g0, g00, hb]
            refine wpCall_of (dcountR hR' hL h5m) ?_
            rintro out H4 ⟨rfl, g4, hR4⟩
            have hf4 := hf.trans g4
            have hcl := count_le hR'.o
            simp only [WW, partV, eqCells, eqLf, minV, maxV, ifcV, zaa, zab, zac, zad, zae, zaf, zag, zah, zai, ofConst, ofConst1, List.replicate, zaj, zak, loadOp, Go.Abs.loadCells, binV, zal, pickV, zam, zan, zao, zap, zaq, zar, zas, zat, zau, outR, resAll, resOne, zav, zaw, zax, zay, zaz, zba, zbb, zbc, zbd, zbe, zbf, zbg, zbh, zbi, zbj, zbk, storeOp, storeCell, overlay, zbl, zbm, zbn, lookupOp, keyT, okRes, mapUpdateOp, zbo, zbp, zbq, zbr, zbs, zbt, zbu, Nat.reduceSub, Nat.reduceAdd, Int.reduceLT, Int.reduceLE, Int.reduceAdd, Int.reduceSub, Int.reduceToNat, Int.reduceBEq, Int.reduceBNe, Int.reduceMul, Nat.reduceBEq, Nat.reduceBNe, Nat.reduceLT, Nat.reduceLeDiff, Nat.reduceMul, Nat.reduceEqDiff, WD, effB, effH, isPriv, isHeap, isImm, zbx, zby, zbz, chkO, setD, dslot, zca, zcb, zcc, zcd, ptrCells_some, F17]
            refine wC_loopG (st1 := _) (nb := 3) (nr := 2) (by simp only [envG, firstReg, grow17_19, growAll, List.foldl_cons, List.foldl_nil]; exact growOne_box (by rfl) (by rfl)) rfl rfl (fun k st' H2 => ∃ (n : Nat) (s1 : S) (acc : List (List Int)), st' = ⟨L17_19 (.v x) (.box 0) (.v (.ptr w 0 0)) (.box 2) (.v (.int .i64 n)), [[.nils, .nils, .nils, .int .i64 0], [.int .u8 74, .int .u8 81, .int .u8 48, .int .u8 49], [.nils, .lr 0 (allT L (count L (⟨4, 0⟩ : S)).1 (count L (⟨4, 0⟩ : S)).2).1.length, (.lr 1 acc.length), .int .i64 0]], [⟨true, true, (allT L (count L (⟨4, 0⟩ : S)).1 (count L (⟨4, 0⟩ : S)).2).1.map V.str⟩, ⟨true, true, acc.map keyV⟩]⟩ ∧ k = n ∧ Ff w Hb H2 ∧ Rr H2 w x L s1 ∧ acc ++ (allG (keysS L) n s1).1 = (allS L (keysS L) (allT L (count L (⟨4, 0⟩ : S)).1 (count L (⟨4, 0⟩ : S)).2).2).1 ∧ (allG (keysS L) n s1).2 = (allS L (keysS L) (allT L (count L (⟨4, 0⟩ : S)).1 (count L (⟨4, 0⟩ : S)).2).2).2 ∧ acc.length + n ≤ 5000000) (count L (allT L (count L (⟨4, 0⟩ : S)).1 (count L (⟨4, 0⟩ : S)).2).2).1 ⟨(count L (allT L (count L (⟨4, 0⟩ : S)).1 (count L (⟨4, 0⟩ : S)).2).2).1, (count L (allT L (count L (⟨4, 0⟩ : S)).1 (count L (⟨4, 0⟩ : S)).2).2).2, [], ?_, rfl, hf4, hR4, rfl, rfl, by simp only [List.length_nil]; omega⟩ ?_
            · simp only [WN, firstReg, growAll, zbv, zbw, norm, killS, zag, zah, zaa, zab, zbl, zat, zad, growOne, zae, zaf, zac, zas, zak, Nat.reduceLT, Nat.reduceAdd, zbj, zav, F17, L17_19, hxc]
              rfl
            · clear hf4 hR4 hcl
              rintro k st' H2 ⟨n, s1, acc, rfl, rfl, hf, hR', hl1, hl2, hle⟩
              simp only [L17_19]
              have hb := hR'.b
              simp only [rdr] at hb
              have cont : (k = 0 ∨ s1.e ≠ 0) → acc = (allS L (keysS L) (allT L (count L (⟨4, 0⟩ : S)).1 (count L (⟨4, 0⟩ : S)).2).2).1 ∧ s1 = (allS L (keysS L) (allT L (count L (⟨4, 0⟩ : S)).1 (count L (⟨4, 0⟩ : S)).2).2).2 := fun h => by
                cases k with
                | zero => simp only [allG, allT, List.append_nil] at hl1 hl2; exact ⟨hl1, hl2⟩
                | succ n =>
                  cases he : s1.e with
                  | zero => rw [he] at h; simp at h
                  | succ e1 => simp only [allG, allT, he, List.append_nil] at hl1 hl2; exact ⟨hl1, hl2⟩
              by_cases hgo : k ≠ 0 ∧ s1.e = 0
              · obtain ⟨n, rfl⟩ : ∃ n, k = n + 1 := ⟨k - 1, by omega⟩
                have he := hgo.2
                rw [he] at hb
                have g1 : decide ((0 : Int) < ((n + 1 : Nat) : Int)) = true := decide_eq_true (by omega)
                have g2 : (((0 : Nat) : Int) == 0) = true := rfl
                have hsub : IntKind.i64.wrap (((n + 1 : Nat) : Int) - 1) = (n : Int) := by rw [IntWalk.i64_in _ (by omega)]; omega
                simp only [allG, allT, he] at hl1 hl2
                simp only [WW, partV, eqCells, eqLf, minV, maxV, ifcV, zaa, zab, zac, zad, zae, zaf, zag, zah, zai, ofConst, ofConst1, List.replicate, zaj, zak, loadOp, Go.Abs.loadCells, binV, zal, pickV, zam, zan, zao, zap, zaq, zar, zas, zat, zau, outR, resAll, resOne, zav, zaw, zax, zay, zaz, zba, zbb, zbc, zbd, zbe, zbf, zbg, zbh, zbi, zbj, zbk, storeOp, storeCell, overlay, zbl, zbm, zbn, lookupOp, keyT, okRes, mapUpdateOp, zbo, zbp, zbq, zbr, zbs, zbt, zbu, Nat.reduceSub, Nat.reduceAdd, Int.reduceLT, Int.reduceLE, Int.reduceAdd, Int.reduceSub, Int.reduceToNat, Int.reduceBEq, Int.reduceBNe, Int.reduceMul, Nat.reduceBEq, Nat.reduceBNe, Nat.reduceLT, Nat.reduceLeDiff, Nat.reduceMul, Nat.reduceEqDiff, WD, effB, effH, isPriv, isHeap, isImm, zbx, zby, zbz, chkO, setD, dslot, zca, zcb, zcc, zcd, ptrCells_some, F17, g1, g2, hb]
                obtain ⟨out, G0', hc, ⟨y, rfl, u0', hQ0', hO⟩⟩ := wpCall_run (dlistR hR' hL h5m)
                obtain ⟨G0, e3, u0, hQ0⟩ := own_done u0' hR'.lt hR'.r hQ0' hO
                have hcw : ∀ K, wpCall (evW Tryd.prog notes) 51 [.ptr w 0 0] H2 K = K _ G0' := fun K => wpCall_eq hc
                simp only at hcw
                have hwa : wideAll (acc.map keyV) 1 = true := wide_mapN (f := keyV) (fun a => repL_width _) acc
                have hwv : wideAll [keyV (keysS L s1).1] 1 = true := by simp [wideAll, keyV, repL_width]
                have hel : elemOk Tryd.prog 45 (acc.length + [keyV (keysS L s1).1].length) = true := by rw [room45]; simp; omega
                have hap : ∀ (s : List Slot) (b : List (List V)) (H : Hp), appendOp Tryd.prog .priv ⟨s, b, [⟨true, true, (allT L (count L (⟨4, 0⟩ : S)).1 (count L (⟨4, 0⟩ : S)).2).1.map V.str⟩, ⟨true, true, acc.map keyV⟩]⟩ H (some 106) 45 (.lr 1 acc.length) [keyV (keysS L s1).1] = some (⟨s.set 106 (.v (.lr 1 (acc.length + 1))), b, [⟨true, true, (allT L (count L (⟨4, 0⟩ : S)).1 (count L (⟨4, 0⟩ : S)).2).1.map V.str⟩, ⟨true, true, acc.map keyV ++ [keyV (keysS L s1).1]⟩]⟩, H) := fun s b H => app_own (q := ⟨true, true, acc.map keyV⟩) rfl rfl (List.length_map ..).symm hel (by rw [size45]; exact hwa) (by rw [size45]; exact hwv)
                change sealH .imm y G0' = (keyV (keysS L s1).1, G0) at e3
                have hk1' := repL_shut ((keysS L s1).1.map intV)
                have hk2 := repL_ok ((keysS L s1).1.map intV)
                have hk3 := repL_cells ((keysS L s1).1.map intV)
                change ∀ st, sealV st (keyV (keysS L s1).1) = keyV (keysS L s1).1 at hk1'
                change okV (keyV (keysS L s1).1) = true at hk2
                change (keyV (keysS L s1).1).cells = [keyV (keysS L s1).1] at hk3
                refine wC_dr alts17_21 (by kernel_rfl) ?_
                simp only [WW, partV, eqCells, eqLf, minV, maxV, ifcV, zaa, zab, zac, zad, zae, zaf, zag, zah, zai, ofConst, ofConst1, List.replicate, zaj, zak, loadOp, Go.Abs.loadCells, binV, zal, pickV, zam, zan, zao, zap, zaq, zar, zas, zat, zau, outR, resAll, resOne, zav, zaw, zax, zay, zaz, zba, zbb, zbc, zbd, zbe, zbf, zbg, zbh, zbi, zbj, zbk, storeOp, storeCell, overlay, zbl, zbm, zbn, lookupOp, keyT, okRes, mapUpdateOp, zbo, zbp, zbq, zbr, zbs, zbt, zbu, Nat.reduceSub, Nat.reduceAdd, Int.reduceLT, Int.reduceLE, Int.reduceAdd, Int.reduceSub, Int.reduceToNat, Int.reduceBEq, Int.reduceBNe, Int.reduceMul, Nat.reduceBEq, Nat.reduceBNe, Nat.reduceLT, Nat.reduceLeDiff, Nat.reduceMul, Nat.reduceEqDiff, WD, effB, effH, isPriv, isHeap, isImm, zbx, zby, zbz, chkO, setD, dslot, zca, zcb, zcc, zcd, ptrCells_some, F17, hcw, e3, hk1', hk2, hk3, buildOp, fillV, Lay.place, Bool.or_self, Bool.or_false, Bool.false_or, decide_not, ne_eq, not_true_eq_false, decide_eq_true_eq, Nat.lt_irrefl, buildSliceV, lits, srcV_eq, srcK_sl, srcK_str, srcSl_nils, srcSl_rsl, srcSl_sl, frow, zbv, zbw, List.all_nil, List.all_cons, rowV, Bool.false_and, Bool.and_false, not_false_eq_true, grows_lr, callOut_t, hap, alts17_21, hsub]
                refine ⟨n, by omega, n, (keysS L s1).2, acc ++ [(keysS L s1).1], ?_, rfl, hf.trans u0, hQ0, by rw [List.append_assoc]; exact hl1, hl2, by rw [List.length_append, List.length_singleton]; omega⟩
                simp only [WN, firstReg, growAll, zbv, zbw, norm, killS, zag, zah, zaa, zab, zbl, zat, zad, growOne, zae, zaf, zac, zas, zak, Nat.reduceLT, Nat.reduceAdd, zbj, zav, F17, hxc, hsub, List.map_append, List.length_append, List.length_singleton]
                try rfl
              · obtain ⟨ha, hs⟩ := cont (by
                  by_cases h0 : k = 0
                  · exact .inl h0
                  · exact .inr fun h => hgo ⟨h0, h⟩)
                have hbr : (k = 0) ∨ (k ≠ 0 ∧ s1.e ≠ 0) := by
                  by_cases h0 : k = 0
                  · exact .inl h0
                  · exact .inr ⟨h0, fun h => hgo ⟨h0, h⟩⟩
                clear cont hgo hl1 hl2 hle
                subst hs
                have g0 : (decide ((0 : Int) < (k : Int)) = false) ∨ (decide ((0 : Int) < (k : Int)) = true ∧ (((allS L (keysS L) (allT L (count L (⟨4, 0⟩ : S)).1 (count L (⟨4, 0⟩ : S)).2).2).2.e : Int) == 0) = false) := by
                  rcases hbr with h | ⟨h1, h2⟩
                  · exact .inl (decide_eq_false (by omega))
                  · exact .inr ⟨decide_eq_true (by omega), by rw [beq_eq_false_iff_ne]; omega⟩
                subst ha
                rcases g0 with g0 | ⟨g0, g00⟩
                · simp only [WW, partV, eqCells, eqLf, minV, maxV, ifcV, zaa, zab, zac, zad, zae, zaf, zag, zah, zai, ofConst, ofConst1, List.replicate, zaj, zak, loadOp, Go.Abs.loadCells, binV, zal, pickV, zam, zan, zao, zap, zaq, zar, zas, zat, zau, outR, resAll, resOne, zav, zaw, zax, zay, zaz, zba, zbb, zbc, zbd, zbe, zbf, zbg, zbh, zbi, zbj, zbk, storeOp, storeCell, overlay, zbl, zbm, zbn, lookupOp, keyT, okRes, mapUpdateOp, zbo, zbp, zbq, zbr, zbs, zbt, zbu, Nat.reduceSub, Nat.reduceAdd, Int.reduceLT, Int.reduceLE, Int.reduceAdd, Int.reduceSub, Int.reduceToNat, Int.reduceBEq, Int.reduceBNe, Int.reduceMul, Nat.reduceBEq, Nat.reduceBNe, Nat.reduceLT, Nat.reduceLeDiff, Nat.reduceMul, Nat.reduceEqDiff, WD, effB, effH, isPriv, isHeap, isImm, zbx, zby, zbz, chkO, setD, dslot, zca, zcb, zcc, zcd, ptrCells_some, F17, g0]
                  refine wpCall_of (dnumR hR' hL h5m) ?_
                  rintro out H3 ⟨rfl, g3, hR3⟩
                  have hf3 := hf.trans g3
                  simp only [WW, partV, eqCells, eqLf, minV, maxV, ifcV, zaa, zab, zac, zad, zae, zaf, zag, zah, zai, ofConst, ofConst1, List.replicate, zaj, zak, loadOp, Go.Abs.loadCells, binV, zal, pickV, zam, zan, zao, zap, zaq, zar, zas, zat, zau, outR, resAll, resOne, zav, zaw, zax, zay, zaz, zba, zbb, zbc, zbd, zbe, zbf, zbg, zbh, zbi, zbj, zbk, storeOp, storeCell, overlay, zbl, zbm, zbn, lookupOp, keyT, okRes, mapUpdateOp, zbo, zbp, zbq, zbr, zbs, zbt, zbu, Nat.reduceSub, Nat.reduceAdd, Int.reduceLT, Int.reduceLE, Int.reduceAdd, Int.reduceSub, Int.reduceToNat, Int.reduceBEq, Int.reduceBNe, Int.reduceMul, Nat.reduceBEq, Nat.reduceBNe, Nat.reduceLT, Nat.reduceLeDiff, Nat.reduceMul, Nat.reduceEqDiff, WD, effB, effH, isPriv, isHeap, isImm, zbx, zby, zbz, chkO, setD, dslot, zca, zcb, zcc, zcd, ptrCells_some, F17]
                  refine wpCall_of (dcountR hR3 hL h5m) ?_
                  rintro out H4 ⟨rfl, g4, hR4⟩
                  have hf4 := hf3.trans g4
                  have hcl := count_le hR3.o
                  simp only [WW, partV, eqCells, eqLf, minV, maxV, ifcV, zaa, zab, zac, zad, zae, zaf, zag, zah, zai, ofConst, ofConst1, List.replicate, zaj, zak, loadOp, Go.Abs.loadCells, binV, zal, pickV, zam, zan, zao, zap, zaq, zar, zas, zat, zau, outR, resAll, resOne, zav, zaw, zax, zay, zaz, zba, zbb, zbc, zbd, zbe, zbf, zbg, zbh, zbi, zbj, zbk, storeOp, storeCell, overlay, zbl, zbm, zbn, lookupOp, keyT, okRes, mapUpdateOp, zbo, zbp, zbq, zbr, zbs, zbt, zbu, Nat.reduceSub, Nat.reduceAdd, Int.reduceLT, Int.reduceLE, Int.reduceAdd, Int.reduceSub, Int.reduceToNat, Int.reduceBEq, Int.reduceBNe, Int.reduceMul, Nat.reduceBEq, Nat.reduceBNe, Nat.reduceLT, Nat.reduceLeDiff, Nat.reduceMul, Nat.reduceEqDiff, WD, effB, effH, isPriv, isHeap, isImm, zbx, zby, zbz, chkO, setD, dslot, zca, zcb, zcc, zcd, ptrCells_some, F17]
                  refine wC_loopG (st1 := _) (nb := 3) (nr := 3) (by simp only [envG, firstReg, grow17_24, growAll, List.foldl_cons, List.foldl_nil]; exact growOne_box (by rfl) (by rfl)) rfl rfl (fun k st' H2 => ∃ (n : Nat) (s1 : S) (acc : List FnM), st' = ⟨L17_24 (.v x) (.box 0) (.v (.ptr w 0 0)) (.box 2) (.v (.int .i64 n)), [[.nils, .nils, .nils, .int .i64 0], [.int .u8 74, .int .u8 81, .int .u8 48, .int .u8 49], [(.lr 2 acc.length), .lr 0 (allT L (count L (⟨4, 0⟩ : S)).1 (count L (⟨4, 0⟩ : S)).2).1.length, .lr 1 (allS L (keysS L) (allT L (count L (⟨4, 0⟩ : S)).1 (count L (⟨4, 0⟩ : S)).2).2).1.length, .int .i64 ((num L (allS L (keysS L) (allT L (count L (⟨4, 0⟩ : S)).1 (count L (⟨4, 0⟩ : S)).2).2).2).1 : Nat)]], [⟨true, true, (allT L (count L (⟨4, 0⟩ : S)).1 (count L (⟨4, 0⟩ : S)).2).1.map V.str⟩, ⟨true, true, (allS L (keysS L) (allT L (count L (⟨4, 0⟩ : S)).1 (count L (⟨4, 0⟩ : S)).2).2).1.map keyV⟩, ⟨true, true, acc.map fnVal⟩]⟩ ∧ k = n ∧ Ff w Hb H2 ∧ Rr H2 w x L s1 ∧ acc ++ (allG (fnS L) n s1).1 = (allS L (fnS L) (num L (allS L (keysS L) (allT L (count L (⟨4, 0⟩ : S)).1 (count L (⟨4, 0⟩ : S)).2).2).2).2).1 ∧ (allG (fnS L) n s1).2 = (allS L (fnS L) (num L (allS L (keysS L) (allT L (count L (⟨4, 0⟩ : S)).1 (count L (⟨4, 0⟩ : S)).2).2).2).2).2 ∧ acc.length + n ≤ 5000000) (count L (num L (allS L (keysS L) (allT L (count L (⟨4, 0⟩ : S)).1 (count L (⟨4, 0⟩ : S)).2).2).2).2).1 ⟨(count L (num L (allS L (keysS L) (allT L (count L (⟨4, 0⟩ : S)).1 (count L (⟨4, 0⟩ : S)).2).2).2).2).1, (count L (num L (allS L (keysS L) (allT L (count L (⟨4, 0⟩ : S)).1 (count L (⟨4, 0⟩ : S)).2).2).2).2).2, [], ?_, rfl, hf4, hR4, rfl, rfl, by simp only [List.length_nil]; omega⟩ ?_
                  · simp only [WN, firstReg, growAll, zbv, zbw, norm, killS, zag, zah, zaa, zab, zbl, zat, zad, growOne, zae, zaf, zac, zas, zak, Nat.reduceLT, Nat.reduceAdd, zbj, zav, F17, L17_24, hxc]
                    rfl
                  · clear hf4 hR4 hcl
                    rintro k st' H2 ⟨n, s1, acc, rfl, rfl, hf, hR', hl1, hl2, hle⟩
                    simp only [L17_24]
                    have hb := hR'.b
                    simp only [rdr] at hb
                    have cont : (k = 0 ∨ s1.e ≠ 0) → acc = (allS L (fnS L) (num L (allS L (keysS L) (allT L (count L (⟨4, 0⟩ : S)).1 (count L (⟨4, 0⟩ : S)).2).2).2).2).1 ∧ s1 = (allS L (fnS L) (num L (allS L (keysS L) (allT L (count L (⟨4, 0⟩ : S)).1 (count L (⟨4, 0⟩ : S)).2).2).2).2).2 := fun h => by
                      cases k with
                      | zero => simp only [allG, allT, List.append_nil] at hl1 hl2; exact ⟨hl1, hl2⟩
                      | succ n =>
                        cases he : s1.e with
                        | zero => rw [he] at h; simp at h
                        | succ e1 => simp only [allG, allT, he, List.append_nil] at hl1 hl2; exact ⟨hl1, hl2⟩
                    by_cases hgo : k ≠ 0 ∧ s1.e = 0
                    · obtain ⟨n, rfl⟩ : ∃ n, k = n + 1 := ⟨k - 1, by omega⟩
                      have he := hgo.2
                      rw [he] at hb
                      have g1 : decide ((0 : Int) < ((n + 1 : Nat) : Int)) = true := decide_eq_true (by omega)
                      have g2 : (((0 : Nat) : Int) == 0) = true := rfl
                      have hsub : IntKind.i64.wrap (((n + 1 : Nat) : Int) - 1) = (n : Int) := by rw [IntWalk.i64_in _ (by omega)]; omega
                      simp only [allG, allT, he] at hl1 hl2
                      simp only [WW, partV, eqCells, eqLf, minV, maxV, ifcV, zaa, zab, zac, zad, zae, zaf, zag, zah, zai, ofConst, ofConst1, List.replicate, zaj, zak, loadOp, Go.Abs.loadCells, binV, zal, pickV, zam, zan, zao, zap, zaq, zar, zas, zat, zau, outR, resAll, resOne, zav, zaw, zax, zay, zaz, zba, zbb, zbc, zbd, zbe, zbf, zbg, zbh, zbi, zbj, zbk, storeOp, storeCell, overlay, zbl, zbm, zbn, lookupOp, keyT, okRes, mapUpdateOp, zbo, zbp, zbq, zbr, zbs, zbt, zbu, Nat.reduceSub, Nat.reduceAdd, Int.reduceLT, Int.reduceLE, Int.reduceAdd, Int.reduceSub, Int.reduceToNat, Int.reduceBEq, Int.reduceBNe, Int.reduceMul, Nat.reduceBEq, Nat.reduceBNe, Nat.reduceLT, Nat.reduceLeDiff, Nat.reduceMul, Nat.reduceEqDiff, WD, effB, effH, isPriv, isHeap, isImm, zbx, zby, zbz, chkO, setD, dslot, zca, zcb, zcc, zcd, ptrCells_some, F17, g1, g2, hb]
                      obtain ⟨out, G0, hc, rfl, u0, hQ0⟩ := wpCall_run (dfunctionR hR' hL h5m)
                      have hcw : ∀ K, wpCall (evW Tryd.prog notes) 53 [.ptr w 0 0] H2 K = K _ G0 := fun K => wpCall_eq hc
                      simp only at hcw
                      have hwa : wideAll (acc.map fnVal) 6 = true := wide_mapN (f := fnVal) (fun a => rfl) acc
                      have hwv : wideAll [fnVal (fnS L s1).1] 6 = true := rfl
                      have hel : elemOk Tryd.prog 50 (acc.length + [fnVal (fnS L s1).1].length) = true := by rw [room50]; simp; omega
                      have hap : ∀ (s : List Slot) (b : List (List V)) (H : Hp), appendOp Tryd.prog .priv ⟨s, b, [⟨true, true, (allT L (count L (⟨4, 0⟩ : S)).1 (count L (⟨4, 0⟩ : S)).2).1.map V.str⟩, ⟨true, true, (allS L (keysS L) (allT L (count L (⟨4, 0⟩ : S)).1 (count L (⟨4, 0⟩ : S)).2).2).1.map keyV⟩, ⟨true, true, acc.map fnVal⟩]⟩ H (some 129) 50 (.lr 2 acc.length) [fnVal (fnS L s1).1] = some (⟨s.set 129 (.v (.lr 2 (acc.length + 1))), b, [⟨true, true, (allT L (count L (⟨4, 0⟩ : S)).1 (count L (⟨4, 0⟩ : S)).2).1.map V.str⟩, ⟨true, true, (allS L (keysS L) (allT L (count L (⟨4, 0⟩ : S)).1 (count L (⟨4, 0⟩ : S)).2).2).1.map keyV⟩, ⟨true, true, acc.map fnVal ++ [fnVal (fnS L s1).1]⟩]⟩, H) := fun s b H => app_own (q := ⟨true, true, acc.map fnVal⟩) rfl rfl (List.length_map ..).symm hel (by rw [size50]; exact hwa) (by rw [size50]; exact hwv)
                      refine wC_dr alts17_26 (by kernel_rfl) ?_
                      have hfs : ∀ st, sealV st (fnVal (fnS L s1).1) = fnVal (fnS L s1).1 := fun _ => rfl
                      have hfo : okV (fnVal (fnS L s1).1) = true := rfl
                      have hfc : (fnVal (fnS L s1).1).cells.length = 6 := rfl
                      have hf1 : sealH .priv (fnVal (fnS L s1).1) G0 = (fnVal (fnS L s1).1, G0) := rfl
                      simp only [WW, partV, eqCells, eqLf, minV, maxV, ifcV, zaa, zab, zac, zad, zae, zaf, zag, zah, zai, ofConst, ofConst1, List.replicate, zaj, zak, loadOp, Go.Abs.loadCells, binV, zal, pickV, zam, zan, zao, zap, zaq, zar, zas, zat, zau, outR, resAll, resOne, zav, zaw, zax, zay, zaz, zba, zbb, zbc, zbd, zbe, zbf, zbg, zbh, zbi, zbj, zbk, storeOp, storeCell, overlay, zbl, zbm, zbn, lookupOp, keyT, okRes, mapUpdateOp, zbo, zbp, zbq, zbr, zbs, zbt, zbu, Nat.reduceSub, Nat.reduceAdd, Int.reduceLT, Int.reduceLE, Int.reduceAdd, Int.reduceSub, Int.reduceToNat, Int.reduceBEq, Int.reduceBNe, Int.reduceMul, Nat.reduceBEq, Nat.reduceBNe, Nat.reduceLT, Nat.reduceLeDiff, Nat.reduceMul, Nat.reduceEqDiff, WD, effB, effH, isPriv, isHeap, isImm, zbx, zby, zbz, chkO, setD, dslot, zca, zcb, zcc, zcd, ptrCells_some, F17, hcw, hfs, hfo, hfc, hf1, buildOp, fillV, Lay.place, Bool.or_self, Bool.or_false, Bool.false_or, decide_not, ne_eq, not_true_eq_false, decide_eq_true_eq, Nat.lt_irrefl, buildSliceV, lits, srcV_eq, srcK_sl, srcK_str, srcSl_nils, srcSl_rsl, srcSl_sl, frow, zbv, zbw, List.all_nil, List.all_cons, rowV, Bool.false_and, Bool.and_false, not_false_eq_true, grows_lr, callOut_t, hap, alts17_26, hsub]
                      refine ⟨n, by omega, n, (fnS L s1).2, acc ++ [(fnS L s1).1], ?_, rfl, hf.trans u0, hQ0, by rw [List.append_assoc]; exact hl1, hl2, by rw [List.length_append, List.length_singleton]; omega⟩
                      simp only [WN, firstReg, growAll, zbv, zbw, norm, killS, zag, zah, zaa, zab, zbl, zat, zad, growOne, zae, zaf, zac, zas, zak, Nat.reduceLT, Nat.reduceAdd, zbj, zav, F17, hxc, hsub, List.map_append, List.length_append, List.length_singleton]
                      try rfl
                    · obtain ⟨ha, hs⟩ := cont (by
                        by_cases h0 : k = 0
                        · exact .inl h0
                        · exact .inr fun h => hgo ⟨h0, h⟩)
                      have hbr : (k = 0) ∨ (k ≠ 0 ∧ s1.e ≠ 0) := by
                        by_cases h0 : k = 0
                        · exact .inl h0
                        · exact .inr ⟨h0, fun h => hgo ⟨h0, h⟩⟩
                      clear cont hgo hl1 hl2 hle
                      subst hs
                      have g0 : (decide ((0 : Int) < (k : Int)) = false) ∨ (decide ((0 : Int) < (k : Int)) = true ∧ (((allS L (fnS L) (num L (allS L (keysS L) (allT L (count L (⟨4, 0⟩ : S)).1 (count L (⟨4, 0⟩ : S)).2).2).2).2).2.e : Int) == 0) = false) := by
                        rcases hbr with h | ⟨h1, h2⟩
                        · exact .inl (decide_eq_false (by omega))
                        · exact .inr ⟨decide_eq_true (by omega), by rw [beq_eq_false_iff_ne]; omega⟩
                      subst ha
                      rcases g0 with g0 | ⟨g0, g00⟩
                      · have hT := decT_T hm4
                        generalize hs5 : (allS L (fnS L) (num L (allS L (keysS L) (allT L (count L (⟨4, 0⟩ : S)).1 (count L (⟨4, 0⟩ : S)).2).2).2).2).2 = s5 at *
                        obtain ⟨p, e⟩ := s5
                        have hp5 : p ≤ L.length := hR'.o
                        simp only [rdr] at hb
                        cases e with
                        | succ e1 =>
                          have h00 : (((e1 + 1 : Nat) : Int) == 0) = false := by rw [beq_eq_false_iff_ne]; omega
                          have h01 : (((e1 + 1 : Nat) : Int) != 0) = true := by simp only [bne_iff_ne, ne_eq]; omega
                          rw [hT.1 e1 p rfl]
                          simp only [WW, partV, eqCells, eqLf, minV, maxV, ifcV, zaa, zab, zac, zad, zae, zaf, zag, zah, zai, ofConst, ofConst1, List.replicate, zaj, zak, loadOp, Go.Abs.loadCells, binV, zal, pickV, zam, zan, zao, zap, zaq, zar, zas, zat, zau, outR, resAll, resOne, zav, zaw, zax, zay, zaz, zba, zbb, zbc, zbd, zbe, zbf, zbg, zbh, zbi, zbj, zbk, storeOp, storeCell, overlay, zbl, zbm, zbn, lookupOp, keyT, okRes, mapUpdateOp, zbo, zbp, zbq, zbr, zbs, zbt, zbu, Nat.reduceSub, Nat.reduceAdd, Int.reduceLT, Int.reduceLE, Int.reduceAdd, Int.reduceSub, Int.reduceToNat, Int.reduceBEq, Int.reduceBNe, Int.reduceMul, Nat.reduceBEq, Nat.reduceBNe, Nat.reduceLT, Nat.reduceLeDiff, Nat.reduceMul, Nat.reduceEqDiff, WD, effB, effH, isPriv, isHeap, isImm, zbx, zby, zbz, chkO, setD, dslot, zca, zcb, zcc, zcd, ptrCells_some, F17, g0, hb, h00, h01]
                          refine wC_dr alts17_30 (by kernel_rfl) ?_
                          simp only [WW, partV, eqCells, eqLf, minV, maxV, ifcV, zaa, zab, zac, zad, zae, zaf, zag, zah, zai, ofConst, ofConst1, List.replicate, zaj, zak, loadOp, Go.Abs.loadCells, binV, zal, pickV, zam, zan, zao, zap, zaq, zar, zas, zat, zau, outR, resAll, resOne, zav, zaw, zax, zay, zaz, zba, zbb, zbc, zbd, zbe, zbf, zbg, zbh, zbi, zbj, zbk, storeOp, storeCell, overlay, zbl, zbm, zbn, lookupOp, keyT, okRes, mapUpdateOp, zbo, zbp, zbq, zbr, zbs, zbt, zbu, Nat.reduceSub, Nat.reduceAdd, Int.reduceLT, Int.reduceLE, Int.reduceAdd, Int.reduceSub, Int.reduceToNat, Int.reduceBEq, Int.reduceBNe, Int.reduceMul, Nat.reduceBEq, Nat.reduceBNe, Nat.reduceLT, Nat.reduceLeDiff, Nat.reduceMul, Nat.reduceEqDiff, WD, effB, effH, isPriv, isHeap, isImm, zbx, zby, zbz, chkO, setD, dslot, zca, zcb, zcc, zcd, ptrCells_some, F17, hb, alts17_30, buildOp, fillV, Lay.place, Bool.or_self, Bool.or_false, Bool.false_or, decide_not, ne_eq, not_true_eq_false, decide_eq_true_eq, Nat.lt_irrefl]
                          first | exact hk1 _ hf | exact ⟨rfl, hk1 _ hf⟩
                        | zero =>
                          have h00 : (((0 : Nat) : Int) == 0) = true := rfl
                          have h01 : (((0 : Nat) : Int) != 0) = false := rfl
                          by_cases hpl : p < L.length
                          · have hd : decide ((p : Int) < (L.length : Int)) = true := decide_eq_true (by omega)
                            have hfw : ∀ K, wpCall (evW Tryd.prog notes) 54 [.ptr w 0 0, .int .i64 6, .int .i64 (p : Nat)] H2 K = K (.ret (.tup []) false) (H2.set w (rdr x ⟨p, 6⟩)) := fun K => wpCall_eq (badD hR' 6 p)
                            have hR6 := hR'.to (s' := ⟨p, 6⟩) hR'.o
                            have hb6 : (H2.set w (rdr x ⟨p, 6⟩))[w]? = some (.cells [.agg [x, .int .i64 (p : Nat), .int .i64 6]]) := hR6.b
                            have g6 : ((6 : Int) != 0) = true := rfl
                            rw [hT.2.1 p rfl hpl]
                            simp only [WW, partV, eqCells, eqLf, minV, maxV, ifcV, zaa, zab, zac, zad, zae, zaf, zag, zah, zai, ofConst, ofConst1, List.replicate, zaj, zak, loadOp, Go.Abs.loadCells, binV, zal, pickV, zam, zan, zao, zap, zaq, zar, zas, zat, zau, outR, resAll, resOne, zav, zaw, zax, zay, zaz, zba, zbb, zbc, zbd, zbe, zbf, zbg, zbh, zbi, zbj, zbk, storeOp, storeCell, overlay, zbl, zbm, zbn, lookupOp, keyT, okRes, mapUpdateOp, zbo, zbp, zbq, zbr, zbs, zbt, zbu, Nat.reduceSub, Nat.reduceAdd, Int.reduceLT, Int.reduceLE, Int.reduceAdd, Int.reduceSub, Int.reduceToNat, Int.reduceBEq, Int.reduceBNe, Int.reduceMul, Nat.reduceBEq, Nat.reduceBNe, Nat.reduceLT, Nat.reduceLeDiff, Nat.reduceMul, Nat.reduceEqDiff, WD, effB, effH, isPriv, isHeap, isImm, zbx, zby, zbz, chkO, setD, dslot, zca, zcb, zcc, zcd, ptrCells_some, F17, g0, hb, h00, hd, hxs, hxl, hfw, hb6, g6]
                            refine wC_dr alts17_30 (by kernel_rfl) ?_
                            simp only [WW, partV, eqCells, eqLf, minV, maxV, ifcV, zaa, zab, zac, zad, zae, zaf, zag, zah, zai, ofConst, ofConst1, List.replicate, zaj, zak, loadOp, Go.Abs.loadCells, binV, zal, pickV, zam, zan, zao, zap, zaq, zar, zas, zat, zau, outR, resAll, resOne, zav, zaw, zax, zay, zaz, zba, zbb, zbc, zbd, zbe, zbf, zbg, zbh, zbi, zbj, zbk, storeOp, storeCell, overlay, zbl, zbm, zbn, lookupOp, keyT, okRes, mapUpdateOp, zbo, zbp, zbq, zbr, zbs, zbt, zbu, Nat.reduceSub, Nat.reduceAdd, Int.reduceLT, Int.reduceLE, Int.reduceAdd, Int.reduceSub, Int.reduceToNat, Int.reduceBEq, Int.reduceBNe, Int.reduceMul, Nat.reduceBEq, Nat.reduceBNe, Nat.reduceLT, Nat.reduceLeDiff, Nat.reduceMul, Nat.reduceEqDiff, WD, effB, effH, isPriv, isHeap, isImm, zbx, zby, zbz, chkO, setD, dslot, zca, zcb, zcc, zcd, ptrCells_some, F17, hb6, alts17_30, buildOp, fillV, Lay.place, Bool.or_self, Bool.or_false, Bool.false_or, decide_not, ne_eq, not_true_eq_false, decide_eq_true_eq, Nat.lt_irrefl]
                            first | exact hk1 _ (hf.trans (Ff.set _)) | exact ⟨rfl, hk1 _ (hf.trans (Ff.set _))⟩
                          · have hd : decide ((p : Int) < (L.length : Int)) = false := decide_eq_false (by omega)
                            rw [hT.2.2 p rfl hpl]
                            simp only [imVal]
                            simp only [WW, partV, eqCells, eqLf, minV, maxV, ifcV, zaa, zab, zac, zad, zae, zaf, zag, zah, zai, ofConst, ofConst1, List.replicate, zaj, zak, loadOp, Go.Abs.loadCells, binV, zal, pickV, zam, zan, zao, zap, zaq, zar, zas, zat, zau, outR, resAll, resOne, zav, zaw, zax, zay, zaz, zba, zbb, zbc, zbd, zbe, zbf, zbg, zbh, zbi, zbj, zbk, storeOp, storeCell, overlay, zbl, zbm, zbn, lookupOp, keyT, okRes, mapUpdateOp, zbo, zbp, zbq, zbr, zbs, zbt, zbu, Nat.reduceSub, Nat.reduceAdd, Int.reduceLT, Int.reduceLE, Int.reduceAdd, Int.reduceSub, Int.reduceToNat, Int.reduceBEq, Int.reduceBNe, Int.reduceMul, Nat.reduceBEq, Nat.reduceBNe, Nat.reduceLT, Nat.reduceLeDiff, Nat.reduceMul, Nat.reduceEqDiff, WD, effB, effH, isPriv, isHeap, isImm, zbx, zby, zbz, chkO, setD, dslot, zca, zcb, zcc, zcd, ptrCells_some, F17, g0, hb, h00, h01, hd, hxs, hxl, rowV_map, repL_ok, repL_cells, repL_shut]
                            first | exact hk1 _ hf | exact ⟨rfl, hk1 _ hf⟩
                      · have hT := decT_T hm4
                        generalize hs5 : (allS L (fnS L) (num L (allS L (keysS L) (allT L (count L (⟨4, 0⟩ : S)).1 (count L (⟨4, 0⟩ : S)).2).2).2).2).2 = s5 at *
                        obtain ⟨p, e⟩ := s5
                        have hp5 : p ≤ L.length := hR'.o
                        simp only [rdr] at hb
                        cases e with
                        | succ e1 =>
                          have h00 : (((e1 + 1 : Nat) : Int) == 0) = false := by rw [beq_eq_false_iff_ne]; omega
                          have h01 : (((e1 + 1 : Nat) : Int) != 0) = true := by simp only [bne_iff_ne, ne_eq]; omega
                          rw [hT.1 e1 p rfl]
                          simp only [WW, partV, eqCells, eqLf, minV, maxV, ifcV, zaa, zab, zac, zad, zae, zaf, zag, zah, zai, ofConst, ofConst1, List.replicate, zaj, zak, loadOp, Go.Abs.loadCells, binV, zal, pickV, zam, zan, zao, zap, zaq, zar, zas, zat, zau, outR, resAll, resOne, zav, zaw, zax, zay, zaz, zba, zbb, zbc, zbd, zbe, zbf, zbg, zbh, zbi, zbj, zbk, storeOp, storeCell, overlay, zbl, zbm, zbn, lookupOp, keyT, okRes, mapUpdateOp, zbo, zbp, zbq, zbr, zbs, zbt, zbu, Nat.reduceSub, Nat.reduceAdd, Int.reduceLT, Int.reduceLE, Int.reduceAdd, Int.reduceSub, Int.reduceToNat, Int.reduceBEq, Int.reduceBNe, Int.reduceMul, Nat.reduceBEq, Nat.reduceBNe, Nat.reduceLT, Nat.reduceLeDiff, Nat.reduceMul, Nat.reduceEqDiff, WD, effB, effH, isPriv, isHeap, isImm, zbx, zby, zbz, chkO, setD, dslot, zca, zcb, zcc, zcd, ptrCells_some, F17, g0, g00, hb, h00, h01]
                          refine wC_dr alts17_30 (by kernel_rfl) ?_
                          simp only [WW, partV, eqCells, eqLf, minV, maxV, ifcV, zaa, zab, zac, zad, zae, zaf, zag, zah, zai, ofConst, ofConst1, List.replicate, zaj, zak, loadOp, Go.Abs.loadCells, binV, zal, pickV, zam, zan, zao, zap, zaq, zar, zas, zat, zau, outR, resAll, resOne, zav, zaw, zax, zay, zaz, zba, zbb, zbc, zbd, zbe, zbf, zbg, zbh, zbi, zbj, zbk, storeOp, storeCell, overlay, zbl, zbm, zbn, lookupOp, keyT, okRes, mapUpdateOp, zbo, zbp, zbq, zbr, zbs, zbt, zbu, Nat.reduceSub, Nat.reduceAdd, Int.reduceLT, Int.reduceLE, Int.reduceAdd, Int.reduceSub, Int.reduceToNat, Int.reduceBEq, Int.reduceBNe, Int.reduceMul, Nat.reduceBEq, Nat.reduceBNe, Nat.reduceLT, Nat.reduceLeDiff, Nat.reduceMul, Nat.reduceEqDiff, WD, effB, effH, isPriv, isHeap, isImm, zbx, zby, zbz, chkO, setD, dslot, zca, zcb, zcc, zcd, ptrCells_some, F17, hb, alts17_30, buildOp, fillV, Lay.place, Bool.or_self, Bool.or_false, Bool.false_or, decide_not, ne_eq, not_true_eq_false, decide_eq_true_eq, Nat.lt_irrefl]
                          first | exact hk1 _ hf | exact ⟨rfl, hk1 _ hf⟩
                        | zero => exact absurd g00 (by show ¬ ((((0 : Nat) : Int) == 0) = false); decide)
                · simp only [WW, partV, eqCells, eqLf, minV, maxV, ifcV, zaa, zab, zac, zad, zae, zaf, zag, zah, zai, ofConst, ofConst1, List.replicate, zaj, zak, loadOp, Go.Abs.loadCells, binV, zal, pickV, zam, zan, zao, zap, zaq, zar, zas, zat, zau, outR, resAll, resOne, zav, zaw, zax, zay, zaz, zba, zbb, zbc, zbd, zbe, zbf, zbg, zbh, zbi, zbj, zbk, storeOp, storeCell, overlay, zbl, zbm, zbn, lookupOp, keyT, okRes, mapUpdateOp, zbo, zbp, zbq, zbr, zbs, zbt, zbu, Nat.reduceSub, Nat.reduceAdd, Int.reduceLT, Int.reduceLE, Int.reduceAdd, Int.reduceSub, Int.reduceToNat, Int.reduceBEq, Int.reduceBNe, Int.reduceMul, Nat.reduceBEq, Nat.reduceBNe, Nat.reduceLT, Nat.reduceLeDiff, Nat.reduceMul, Nat.reduceEqDiff, WD, effB, effH, isPriv, isHeap, isImm, zbx, zby, zbz, chkO, setD, dslot, zca, zcb, zcc, zcd, ptrCells_some, F17, g0, g00, hb]
                  refine wpCall_of (dnumR hR' hL h5m) ?_
                  rintro out H3 ⟨rfl, g3, hR3⟩
                  have hf3 := hf.trans g3
                  simp only [WW, partV, eqCells, eqLf, minV, maxV, ifcV, zaa, zab, zac, zad, zae, zaf, zag, zah, zai, ofConst, ofConst1, List.replicate, zaj, zak, loadOp, Go.Abs.loadCells, binV, zal, pickV, zam, zan, zao, zap, zaq, zar, zas, zat, zau, outR, resAll, resOne, zav, zaw, zax, zay, zaz, zba, zbb, zbc, zbd, zbe, zbf, zbg, zbh, zbi, zbj, zbk, storeOp, storeCell, overlay, zbl, zbm, zbn, lookupOp, keyT, okRes, mapUpdateOp, zbo, zbp, zbq, zbr, zbs, zbt, zbu, Nat.reduceSub, Nat.reduceAdd, Int.reduceLT, Int.reduceLE, Int.reduceAdd, Int.reduceSub, Int.reduceToNat, Int.reduceBEq, Int.reduceBNe, Int.reduceMul, Nat.reduceBEq, Nat.reduceBNe, Nat.reduceLT, Nat.reduceLeDiff, Nat.reduceMul, Nat.reduceEqDiff, WD, effB, effH, isPriv, isHeap, isImm, zbx, zby, zbz, chkO, setD, dslot, zca, zcb, zcc, zcd, ptrCells_some, F17]
                  refine wpCall_of (dcountR hR3 hL h5m) ?_
                  rintro out H4 ⟨rfl, g4, hR4⟩
                  have hf4 := hf3.trans g4
                  have hcl := count_le hR3.o
                  simp only [WW, partV, eqCells, eqLf, minV, maxV, ifcV, zaa, zab, zac, zad, zae, zaf, zag, zah, zai, ofConst, ofConst1, List.replicate, zaj, zak, loadOp, Go.Abs.loadCells, binV, zal, pickV, zam, zan, zao, zap, zaq, zar, zas, zat, zau, outR, resAll, resOne, zav, zaw, zax, zay, zaz, zba, zbb, zbc, zbd, zbe, zbf, zbg, zbh, zbi, zbj, zbk, storeOp, storeCell, overlay, zbl, zbm, zbn, lookupOp, keyT, okRes, mapUpdateOp, zbo, zbp, zbq, zbr, zbs, zbt, zbu, Nat.reduceSub, Nat.reduceAdd, Int.reduceLT, Int.reduceLE, Int.reduceAdd, Int.reduceSub, Int.reduceToNat, Int.reduceBEq, Int.reduceBNe, Int.reduceMul, Nat.reduceBEq, Nat.reduceBNe, Nat.reduceLT, Nat.reduceLeDiff, Nat.reduceMul, Nat.reduceEqDiff, WD, effB, effH, isPriv, isHeap, isImm, zbx, zby, zbz, chkO, setD, dslot, zca, zcb, zcc, zcd, ptrCells_some, F17]
                  refine wC_loopG (st1 := _) (nb := 3) (nr := 3) (by simp only [envG, firstReg, grow17_24, growAll, List.foldl_cons, List.foldl_nil]; exact growOne_box (by rfl) (by rfl)) rfl rfl (fun k st' H2 => ∃ (n : Nat) (s1 : S) (acc : List FnM), st' = ⟨L17_24 (.v x) (.box 0) (.v (.ptr w 0 0)) (.box 2) (.v (.int .i64 n)), [[.nils, .nils, .nils, .int .i64 0], [.int .u8 74, .int .u8 81, .int .u8 48, .int .u8 49], [(.lr 2 acc.length), .lr 0 (allT L (count L (⟨4, 0⟩ : S)).1 (count L (⟨4, 0⟩ : S)).2).1.length, .lr 1 (allS L (keysS L) (allT L (count L (⟨4, 0⟩ : S)).1 (count L (⟨4, 0⟩ : S)).2).2).1.length, .int .i64 ((num L (allS L (keysS L) (allT L (count L (⟨4, 0⟩ : S)).1 (count L (⟨4, 0⟩ : S)).2).2).2).1 : Nat)]], [⟨true, true, (allT L (count L (⟨4, 0⟩ : S)).1 (count L (⟨4, 0⟩ : S)).2).1.map V.str⟩, ⟨true, true, (allS L (keysS L) (allT L (count L (⟨4, 0⟩ : S)).1 (count L (⟨4, 0⟩ : S)).2).2).1.map keyV⟩, ⟨true, true, acc.map fnVal⟩]⟩ ∧ k = n ∧ Ff w Hb H2 ∧ Rr H2 w x L s1 ∧ acc ++ (allG (fnS L) n s1).1 = (allS L (fnS L) (num L (allS L (keysS L) (allT L (count L (⟨4, 0⟩ : S)).1 (count L (⟨4, 0⟩ : S)).2).2).2).2).1 ∧ (allG (fnS L) n s1).2 = (allS L (fnS L) (num L (allS L (keysS L) (allT L (count L (⟨4, 0⟩ : S)).1 (count L (⟨4, 0⟩ : S)).2).2).2).2).2 ∧ acc.length + n ≤ 5000000) (count L (num L (allS L (keysS L) (allT L (count L (⟨4, 0⟩ : S)).1 (count L (⟨4, 0⟩ : S)).2).2).2).2).1 ⟨(count L (num L (allS L (keysS L) (allT L (count L (⟨4, 0⟩ : S)).1 (count L (⟨4, 0⟩ : S)).2).2).2).2).1, (count L (num L (allS L (keysS L) (allT L (count L (⟨4, 0⟩ : S)).1 (count L (⟨4, 0⟩ : S)).2).2).2).2).2, [], ?_, rfl, hf4, hR4, rfl, rfl, by simp only [List.length_nil]; omega⟩ ?_
                  · simp only [WN, firstReg, growAll, zbv, zbw, norm, killS, zag, zah, zaa, zab, zbl, zat, zad, growOne, zae, zaf, zac, zas, zak, Nat.reduceLT, Nat.reduceAdd, zbj, zav, F17, L17_24, hxc]
                    rfl
                  · clear hf4 hR4 hcl
                    rintro k st' H2 ⟨n, s1, acc, rfl, rfl, hf, hR', hl1, hl2, hle⟩
                    simp only [L17_24]
                    have hb := hR'.b
                    simp only [rdr] at hb
                    have cont : (k = 0 ∨ s1.e ≠ 0) → acc = (allS L (fnS L) (num L (allS L (keysS L) (allT L (count L (⟨4, 0⟩ : S)).1 (count L (⟨4, 0⟩ : S)).2).2).2).2).1 ∧ s1 = (allS L (fnS L) (num L (allS L (keysS L) (allT L (count L (⟨4, 0⟩ : S)).1 (count L (⟨4, 0⟩ : S)).2).2).2).2).2 := fun h => by
                      cases k with
                      | zero => simp only [allG, allT, List.append_nil] at hl1 hl2; exact ⟨hl1, hl2⟩
                      | succ n =>
                        cases he : s1.e with
                        | zero => rw [he] at h; simp at h
                        | succ e1 => simp only [allG, allT, he, List.append_nil] at hl1 hl2; exact ⟨hl1, hl2⟩
                    by_cases hgo : k ≠ 0 ∧ s1.e = 0
                    · obtain ⟨n, rfl⟩ : ∃ n, k = n + 1 := ⟨k - 1, by omega⟩
                      have he := hgo.2
                      rw [he] at hb
                      have g1 : decide ((0 : Int) < ((n + 1 : Nat) : Int)) = true := decide_eq_true (by omega)
                      have g2 : (((0 : Nat) : Int) == 0) = true := rfl
                      have hsub : IntKind.i64.wrap (((n + 1 : Nat) : Int) - 1) = (n : Int) := by rw [IntWalk.i64_in _ (by omega)]; omega
                      simp only [allG, allT, he] at hl1 hl2
                      simp only [WW, partV, eqCells, eqLf, minV, maxV, ifcV, zaa, zab, zac, zad, zae, zaf, zag, zah, zai, ofConst, ofConst1, List.replicate, zaj, zak, loadOp, Go.Abs.loadCells, binV, zal, pickV, zam, zan, zao, zap, zaq, zar, zas, zat, zau, outR, resAll, resOne, zav, zaw, zax, zay, zaz, zba, zbb, zbc, zbd, zbe, zbf, zbg, zbh, zbi, zbj, zbk, storeOp, storeCell, overlay, zbl, zbm, zbn, lookupOp, keyT, okRes, mapUpdateOp, zbo, zbp, zbq, zbr, zbs, zbt, zbu, Nat.reduceSub, Nat.reduceAdd, Int.reduceLT, Int.reduceLE, Int.reduceAdd, Int.reduceSub, Int.reduceToNat, Int.reduceBEq, Int.reduceBNe, Int.reduceMul, Nat.reduceBEq, Nat.reduceBNe, Nat.reduceLT, Nat.reduceLeDiff, Nat.reduceMul, Nat.reduceEqDiff, WD, effB, effH, isPriv, isHeap, isImm, zbx, zby, zbz, chkO, setD, dslot, zca, zcb, zcc, zcd, ptrCells_some, F17, g1, g2, hb]
                      obtain ⟨out, G0, hc, rfl, u0, hQ0⟩ := wpCall_run (dfunctionR hR' hL h5m)
                      have hcw : ∀ K, wpCall (evW Tryd.prog notes) 53 [.ptr w 0 0] H2 K = K _ G0 := fun K => wpCall_eq hc
                      simp only at hcw
                      have hwa : wideAll (acc.map fnVal) 6 = true := wide_mapN (f := fnVal) (fun a => rfl) acc
                      have hwv : wideAll [fnVal (fnS L s1).1] 6 = true := rfl
                      have hel : elemOk Tryd.prog 50 (acc.length + [fnVal (fnS L s1).1].length) = true := by rw [room50]; simp; omega
                      have hap : ∀ (s : List Slot) (b : List (List V)) (H : Hp), appendOp Tryd.prog .priv ⟨s, b, [⟨true, true, (allT L (count L (⟨4, 0⟩ : S)).1 (count L (⟨4, 0⟩ : S)).2).1.map V.str⟩, ⟨true, true, (allS L (keysS L) (allT L (count L (⟨4, 0⟩ : S)).1 (count L (⟨4, 0⟩ : S)).2).2).1.map keyV⟩, ⟨true, true, acc.map fnVal⟩]⟩ H (some 129) 50 (.lr 2 acc.length) [fnVal (fnS L s1).1] = some (⟨s.set 129 (.v (.lr 2 (acc.length + 1))), b, [⟨true, true, (allT L (count L (⟨4, 0⟩ : S)).1 (count L (⟨4, 0⟩ : S)).2).1.map V.str⟩, ⟨true, true, (allS L (keysS L) (allT L (count L (⟨4, 0⟩ : S)).1 (count L (⟨4, 0⟩ : S)).2).2).1.map keyV⟩, ⟨true, true, acc.map fnVal ++ [fnVal (fnS L s1).1]⟩]⟩, H) := fun s b H => app_own (q := ⟨true, true, acc.map fnVal⟩) rfl rfl (List.length_map ..).symm hel (by rw [size50]; exact hwa) (by rw [size50]; exact hwv)
                      refine wC_dr alts17_26 (by kernel_rfl) ?_
                      have hfs : ∀ st, sealV st (fnVal (fnS L s1).1) = fnVal (fnS L s1).1 := fun _ => rfl
                      have hfo : okV (fnVal (fnS L s1).1) = true := rfl
                      have hfc : (fnVal (fnS L s1).1).cells.length = 6 := rfl
                      have hf1 : sealH .priv (fnVal (fnS L s1).1) G0 = (fnVal (fnS L s1).1, G0) := rfl
                      simp only [WW, partV, eqCells, eqLf, minV, maxV, ifcV, zaa, zab, zac, zad, zae, zaf, zag, zah, zai, ofConst, ofConst1, List.replicate, zaj, zak, loadOp, Go.Abs.loadCells, binV, zal, pickV, zam, zan, zao, zap, zaq, zar, zas, zat, zau, outR, resAll, resOne, zav, zaw, zax, zay, zaz, zba, zbb, zbc, zbd, zbe, zbf, zbg, zbh, zbi, zbj, zbk, storeOp, storeCell, overlay, zbl, zbm, zbn, lookupOp, keyT, okRes, mapUpdateOp, zbo, zbp, zbq, zbr, zbs, zbt, zbu, Nat.reduceSub, Nat.reduceAdd, Int.reduceLT, Int.reduceLE, Int.reduceAdd, Int.reduceSub, Int.reduceToNat, Int.reduceBEq, Int.reduceBNe, Int.reduceMul, Nat.reduceBEq, Nat.reduceBNe, Nat.reduceLT, Nat.reduceLeDiff, Nat.reduceMul, Nat.reduceEqDiff, WD, effB, effH, isPriv, isHeap, isImm, zbx, zby, zbz, chkO, setD, dslot, zca, zcb, zcc, zcd, ptrCells_some, F17, hcw, hfs, hfo, hfc, hf1, buildOp, fillV, Lay.place, Bool.or_self, Bool.or_false, Bool.false_or, decide_not, ne_eq, not_true_eq_false, decide_eq_true_eq, Nat.lt_irrefl, buildSliceV, lits, srcV_eq, srcK_sl, srcK_str, srcSl_nils, srcSl_rsl, srcSl_sl, frow, zbv, zbw, List.all_nil, List.all_cons, rowV, Bool.false_and, Bool.and_false, not_false_eq_true, grows_lr, callOut_t, hap, alts17_26, hsub]
                      refine ⟨n, by omega, n, (fnS L s1).2, acc ++ [(fnS L s1).1], ?_, rfl, hf.trans u0, hQ0, by rw [List.append_assoc]; exact hl1, hl2, by rw [List.length_append, List.length_singleton]; omega⟩
                      simp only [WN, firstReg, growAll, zbv, zbw, norm, killS, zag, zah, zaa, zab, zbl, zat, zad, growOne, zae, zaf, zac, zas, zak, Nat.reduceLT, Nat.reduceAdd, zbj, zav, F17, hxc, hsub, List.map_append, List.length_append, List.length_singleton]
                      try rfl
                    · obtain ⟨ha, hs⟩ := cont (by
                        by_cases h0 : k = 0
                        · exact .inl h0
                        · exact .inr fun h => hgo ⟨h0, h⟩)
                      have hbr : (k = 0) ∨ (k ≠ 0 ∧ s1.e ≠ 0) := by
                        by_cases h0 : k = 0
                        · exact .inl h0
                        · exact .inr ⟨h0, fun h => hgo ⟨h0, h⟩⟩
                      clear cont hgo hl1 hl2 hle
                      subst hs
                      have g0 : (decide ((0 : Int) < (k : Int)) = false) ∨ (decide ((0 : Int) < (k : Int)) = true ∧ (((allS L (fnS L) (num L (allS L (keysS L) (allT L (count L (⟨4, 0⟩ : S)).1 (count L (⟨4, 0⟩ : S)).2).2).2).2).2.e : Int) == 0) = false) := by
                        rcases hbr with h | ⟨h1, h2⟩
                        · exact .inl (decide_eq_false (by omega))
                        · exact .inr ⟨decide_eq_true (by omega), by rw [beq_eq_false_iff_ne]; omega⟩
                      subst ha
                      rcases g0 with g0 | ⟨g0, g00⟩
                      · have hT := decT_T hm4
                        generalize hs5 : (allS L (fnS L) (num L (allS L (keysS L) (allT L (count L (⟨4, 0⟩ : S)).1 (count L (⟨4, 0⟩ : S)).2).2).2).2).2 = s5 at *
                        obtain ⟨p, e⟩ := s5
                        have hp5 : p ≤ L.length := hR'.o
                        simp only [rdr] at hb
                        cases e with
                        | succ e1 =>
                          have h00 : (((e1 + 1 : Nat) : Int) == 0) = false := by rw [beq_eq_false_iff_ne]; omega
                          have h01 : (((e1 + 1 : Nat) : Int) != 0) = true := by simp only [bne_iff_ne, ne_eq]; omega
                          rw [hT.1 e1 p rfl]
                          simp only [WW, partV, eqCells, eqLf, minV, maxV, ifcV, zaa, zab, zac, zad, zae, zaf, zag, zah, zai, ofConst, ofConst1, List.replicate, zaj, zak, loadOp, Go.Abs.loadCells, binV, zal, pickV, zam, zan, zao, zap, zaq, zar, zas, zat, zau, outR, resAll, resOne, zav, zaw, zax, zay, zaz, zba, zbb, zbc, zbd, zbe, zbf, zbg, zbh, zbi, zbj, zbk, storeOp, storeCell, overlay, zbl, zbm, zbn, lookupOp, keyT, okRes, mapUpdateOp, zbo, zbp, zbq, zbr, zbs, zbt, zbu, Nat.reduceSub, Nat.reduceAdd, Int.reduceLT, Int.reduceLE, Int.reduceAdd, Int.reduceSub, Int.reduceToNat, Int.reduceBEq, Int.reduceBNe, Int.reduceMul, Nat.reduceBEq, Nat.reduceBNe, Nat.reduceLT, Nat.reduceLeDiff, Nat.reduceMul, Nat.reduceEqDiff, WD, effB, effH, isPriv, isHeap, isImm, zbx, zby, zbz, chkO, setD, dslot, zca, zcb, zcc, zcd, ptrCells_some, F17, g0, hb, h00, h01]
                          refine wC_dr alts17_30 (by kernel_rfl) ?_
                          simp only [WW, partV, eqCells, eqLf, minV, maxV, ifcV, zaa, zab, zac, zad, zae, zaf, zag, zah, zai, ofConst, ofConst1, List.replicate, zaj, zak, loadOp, Go.Abs.loadCells, binV, zal, pickV, zam, zan, zao, zap, zaq, zar, zas, zat, zau, outR, resAll, resOne, zav, zaw, zax, zay, zaz, zba, zbb, zbc, zbd, zbe, zbf, zbg, zbh, zbi, zbj, zbk, storeOp, storeCell, overlay, zbl, zbm, zbn, lookupOp, keyT, okRes, mapUpdateOp, zbo, zbp, zbq, zbr, zbs, zbt, zbu, Nat.reduceSub, Nat.reduceAdd, Int.reduceLT, Int.reduceLE, Int.reduceAdd, Int.reduceSub, Int.reduceToNat, Int.reduceBEq, Int.reduceBNe, Int.reduceMul, Nat.reduceBEq, Nat.reduceBNe, Nat.reduceLT, Nat.reduceLeDiff, Nat.reduceMul, Nat.reduceEqDiff, WD, effB, effH, isPriv, isHeap, isImm, zbx, zby, zbz, chkO, setD, dslot, zca, zcb, zcc, zcd, ptrCells_some, F17, hb, alts17_30, buildOp, fillV, Lay.place, Bool.or_self, Bool.or_false, Bool.false_or, decide_not, ne_eq, not_true_eq_false, decide_eq_true_eq, Nat.lt_irrefl]
                          first | exact hk1 _ hf | exact ⟨rfl, hk1 _ hf⟩
                        | zero =>
                          have h00 : (((0 : Nat) : Int) == 0) = true := rfl
                          have h01 : (((0 : Nat) : Int) != 0) = false := rfl
                          by_cases hpl : p < L.length
                          · have hd : decide ((p : Int) < (L.length : Int)) = true := decide_eq_true (by omega)
                            have hfw : ∀ K, wpCall (evW Tryd.prog notes) 54 [.ptr w 0 0, .int .i64 6, .int .i64 (p : Nat)] H2 K = K (.ret (.tup []) false) (H2.set w (rdr x ⟨p, 6⟩)) := fun K => wpCall_eq (badD hR' 6 p)
                            have hR6 := hR'.to (s' := ⟨p, 6⟩) hR'.o
                            have hb6 : (H2.set w (rdr x ⟨p, 6⟩))[w]? = some (.cells [.agg [x, .int .i64 (p : Nat), .int .i64 6]]) := hR6.b
                            have g6 : ((6 : Int) != 0) = true := rfl
                            rw [hT.2.1 p rfl hpl]
                            simp only [WW, partV, eqCells, eqLf, minV, maxV, ifcV, zaa, zab, zac, zad, zae, zaf, zag, zah, zai, ofConst, ofConst1, List.replicate, zaj, zak, loadOp, Go.Abs.loadCells, binV, zal, pickV, zam, zan, zao, zap, zaq, zar, zas, zat, zau, outR, resAll, resOne, zav, zaw, zax, zay, zaz, zba, zbb, zbc, zbd, zbe, zbf, zbg, zbh, zbi, zbj, zbk, storeOp, storeCell, overlay, zbl, zbm, zbn, lookupOp, keyT, okRes, mapUpdateOp, zbo, zbp, zbq, zbr, zbs, zbt, zbu, Nat.reduceSub, Nat.reduceAdd, Int.reduceLT, Int.reduceLE, Int.reduceAdd, Int.reduceSub, Int.reduceToNat, Int.reduceBEq, Int.reduceBNe, Int.reduceMul, Nat.reduceBEq, Nat.reduceBNe, Nat.reduceLT, Nat.reduceLeDiff, Nat.reduceMul, Nat.reduceEqDiff, WD, effB, effH, isPriv, isHeap, isImm, zbx, zby, zbz, chkO, setD, dslot, zca, zcb, zcc, zcd, ptrCells_some, F17, g0, hb, h00, hd, hxs, hxl, hfw, hb6, g6]
                            refine wC_dr alts17_30 (by kernel_rfl) ?_
                            simp only [WW, partV, eqCells, eqLf, minV, maxV, ifcV, zaa, zab, zac, zad, zae, zaf, zag, zah, zai, ofConst, ofConst1, List.replicate, zaj, zak, loadOp, Go.Abs.loadCells, binV, zal, pickV, zam, zan, zao, zap, zaq, zar, zas, zat, zau, outR, resAll, resOne, zav, zaw, zax, zay, zaz, zba, zbb, zbc, zbd, zbe, zbf, zbg, zbh, zbi, zbj, zbk, storeOp, storeCell, overlay, zbl, zbm, zbn, lookupOp, keyT, okRes, mapUpdateOp, zbo, zbp, zbq, zbr, zbs, zbt, zbu, Nat.reduceSub, Nat.reduceAdd, Int.reduceLT, Int.reduceLE, Int.reduceAdd, Int.reduceSub, Int.reduceToNat, Int.reduceBEq, Int.reduceBNe, Int.reduceMul, Nat.reduceBEq, Nat.reduceBNe, Nat.reduceLT, Nat.reduceLeDiff, Nat.reduceMul, Nat.reduceEqDiff, WD, effB, effH, isPriv, isHeap, isImm, zbx, zby, zbz, chkO, setD, dslot, zca, zcb, zcc, zcd, ptrCells_some, F17, hb6, alts17_30, buildOp, fillV, Lay.place, Bool.or_self, Bool.or_false, Bool.false_or, decide_not, ne_eq, not_true_eq_false, decide_eq_true_eq, Nat.lt_irrefl]
                            first | exact hk1 _ (hf.trans (Ff.set _)) | exact ⟨rfl, hk1 _ (hf.trans (Ff.set _))⟩
                          · have hd : decide ((p : Int) < (L.length : Int)) = false := decide_eq_false (by omega)
                            rw [hT.2.2 p rfl hpl]
                            simp only [imVal]
                            simp only [WW, partV, eqCells, eqLf, minV, maxV, ifcV, zaa, zab, zac, zad, zae, zaf, zag, zah, zai, ofConst, ofConst1, List.replicate, zaj, zak, loadOp, Go.Abs.loadCells, binV, zal, pickV, zam, zan, zao, zap, zaq, zar, zas, zat, zau, outR, resAll, resOne, zav, zaw, zax, zay, zaz, zba, zbb, zbc, zbd, zbe, zbf, zbg, zbh, zbi, zbj, zbk, storeOp, storeCell, overlay, zbl, zbm, zbn, lookupOp, keyT, okRes, mapUpdateOp, zbo, zbp, zbq, zbr, zbs, zbt, zbu, Nat.reduceSub, Nat.reduceAdd, Int.reduceLT, Int.reduceLE, Int.reduceAdd, Int.reduceSub, Int.reduceToNat, Int.reduceBEq, Int.reduceBNe, Int.reduceMul, Nat.reduceBEq, Nat.reduceBNe, Nat.reduceLT, Nat.reduceLeDiff, Nat.reduceMul, Nat.reduceEqDiff, WD, effB, effH, isPriv, isHeap, isImm, zbx, zby, zbz, chkO, setD, dslot, zca, zcb, zcc, zcd, ptrCells_some, F17, g0, hb, h00, h01, hd, hxs, hxl, rowV_map, repL_ok, repL_cells, repL_shut]
                            first | exact hk1 _ hf | exact ⟨rfl, hk1 _ hf⟩
                      · have hT := decT_T hm4
                        generalize hs5 : (allS L (fnS L) (num L (allS L (keysS L) (allT L (count L (⟨4, 0⟩ : S)).1 (count L (⟨4, 0⟩ : S)).2).2).2).2).2 = s5 at *
                        obtain ⟨p, e⟩ := s5
                        have hp5 : p ≤ L.length := hR'.o
                        simp only [rdr] at hb
                        cases e with
                        | succ e1 =>
                          have h00 : (((e1 + 1 : Nat) : Int) == 0) = false := by rw [beq_eq_false_iff_ne]; omega
                          have h01 : (((e1 + 1 : Nat) : Int) != 0) = true := by simp only [bne_iff_ne, ne_eq]; omega
                          rw [hT.1 e1 p rfl]
                          simp only [WW, partV, eqCells, eqLf, minV, maxV, ifcV, zaa, zab, zac, zad, zae, zaf, zag, zah, zai, ofConst, ofConst1, List.replicate, zaj, zak, loadOp, Go.Abs.loadCells, binV, zal, pickV, zam, zan, zao, zap, zaq, zar, zas, zat, zau, outR, resAll, resOne, zav, zaw, zax, zay, zaz, zba, zbb, zbc, zbd, zbe, zbf, zbg, zbh, zbi, zbj, zbk, storeOp, storeCell, overlay, zbl, zbm, zbn, lookupOp, keyT, okRes, mapUpdateOp, zbo, zbp, zbq, zbr, zbs, zbt, zbu, Nat.reduceSub, Nat.reduceAdd, Int.reduceLT, Int.reduceLE, Int.reduceAdd, Int.reduceSub, Int.reduceToNat, Int.reduceBEq, Int.reduceBNe, Int.reduceMul, Nat.reduceBEq, Nat.reduceBNe, Nat.reduceLT, Nat.reduceLeDiff, Nat.reduceMul, Nat.reduceEqDiff, WD, effB, effH, isPriv, isHeap, isImm, zbx, zby, zbz, chkO, setD, dslot, zca, zcb, zcc, zcd, ptrCells_some, F17, g0, g00, hb, h00, h01]
                          refine wC_dr alts17_30 (by kernel_rfl) ?_
                          simp only [WW, partV, eqCells, eqLf, minV, maxV, ifcV, zaa, zab, zac, zad, zae, zaf, zag, zah, zai, ofConst, ofConst1, List.replicate, zaj, zak, loadOp, Go.Abs.loadCells, binV, zal, pickV, zam, zan, zao, zap, zaq, zar, zas, zat, zau, outR, resAll, resOne, zav, zaw, zax, zay, zaz, zba, zbb, zbc, zbd, zbe, zbf, zbg, zbh, zbi, zbj, zbk, storeOp, storeCell, overlay, zbl, zbm, zbn, lookupOp, keyT, okRes, mapUpdateOp, zbo, zbp, zbq, zbr, zbs, zbt, zbu, Nat.reduceSub, Nat.reduceAdd, Int.reduceLT, Int.reduceLE, Int.reduceAdd, Int.reduceSub, Int.reduceToNat, Int.reduceBEq, Int.reduceBNe, Int.reduceMul, Nat.reduceBEq, Nat.reduceBNe, Nat.reduceLT, Nat.reduceLeDiff, Nat.reduceMul, Nat.reduceEqDiff, WD, effB, effH, isPriv, isHeap, isImm, zbx, zby, zbz, chkO, setD, dslot, zca, zcb, zcc, zcd, ptrCells_some, F17, hb, alts17_30, buildOp, fillV, Lay.place, Bool.or_self, Bool.or_false, Bool.false_or, decide_not, ne_eq, not_true_eq_false, decide_eq_true_eq, Nat.lt_irrefl]
                          first | exact hk1 _ hf | exact ⟨rfl, hk1 _ hf⟩
                        | zero => exact absurd g00 (by show ¬ ((((0 : Nat) : Int) == 0) = false); decide)
end Go.Proofs.YtgjobbmbbedecaaDoor

/- Images that are the same are told to be so. -/
namespace Go.Proofs.YtgjobbmbbedecaaDoor
open Go Go.Abs Go.Proofs
set_option maxRecDepth 100000
set_option maxHeartbeats 4000000
set_option linter.unusedVariables false
set_option linter.unusedSimpArgs false
theorem same_ints {v1 v2 : V} {ns : List Int} (h1 : RdA v1 (ns.map intV)) (h2 : RdA v2 (ns.map intV)) (hn : ns.length ≤ 4000000) (H : Hp) : EW 55 [v1, v2] H = some (.ret (.bool true) false, H) := by
  refine eqOf (runs f55 b55 r55 n55 _ _ ?_)
  simp only [bodyOf, Tryd.f55, Option.getD_some]
  have z1 := fun st => (h1 []).shutIn st
  have z2 := fun st => (h2 []).shutIn st
  have hlm : (ns.map intV).length = ns.length := List.length_map ..
  simp only [WW, partV, eqCells, eqLf, minV, maxV, ifcV, zaa, zab, zac, zad, zae, zaf, zag, zah, zai, ofConst, ofConst1, List.replicate, zaj, zak, loadOp, Go.Abs.loadCells, binV, zal, pickV, zam, zan, zao, zap, zaq, zar, zas, zat, zau, outR, resAll, resOne, zav, zaw, zax, zay, zaz, zba, zbb, zbc, zbd, zbe, zbf, zbg, zbh, zbi, zbj, zbk, storeOp, storeCell, overlay, zbl, zbm, zbn, lookupOp, keyT, okRes, mapUpdateOp, zbo, zbp, zbq, zbr, zbs, zbt, zbu, Nat.reduceSub, Nat.reduceAdd, Int.reduceLT, Int.reduceLE, Int.reduceAdd, Int.reduceSub, Int.reduceToNat, Int.reduceBEq, Int.reduceBNe, Int.reduceMul, Nat.reduceBEq, Nat.reduceBNe, Nat.reduceLT, Nat.reduceLeDiff, Nat.reduceMul, Nat.reduceEqDiff, WD, effB, effH, isPriv, isHeap, isImm, zbx, zby, zbz, chkO, setD, dslot, zca, zcb, zcc, zcd, ptrCells_some, F55, z1, z2, (h1 H).len, (h2 H).len, hlm, bne_self_eq_false]
  refine wC_loop _ (fun k st' H' => ∃ (i : Nat), st' = ⟨L55_4 (.v v1) (.v v2) (.v (.int .i64 i)), [], []⟩ ∧ H' = H ∧ i ≤ ns.length ∧ k = ns.length - i) ns.length ⟨0, ?_, rfl, by omega, by omega⟩ ?_
  · simp only [WN, firstReg, growAll, zbv, zbw, norm, killS, zag, zah, zaa, zab, zbl, zat, zad, growOne, zae, zaf, zac, zas, zak, Nat.reduceLT, Nat.reduceAdd, zbj, zav, F55, L55_4, (h1 []).clip2, (h2 []).clip2]
    rfl
  · rintro k st' H ⟨i, rfl, rfl, hi, rfl⟩
    simp only [L55_4]
    simp only [WW, partV, eqCells, eqLf, minV, maxV, ifcV, zaa, zab, zac, zad, zae, zaf, zag, zah, zai, ofConst, ofConst1, List.replicate, zaj, zak, loadOp, Go.Abs.loadCells, binV, zal, pickV, zam, zan, zao, zap, zaq, zar, zas, zat, zau, outR, resAll, resOne, zav, zaw, zax, zay, zaz, zba, zbb, zbc, zbd, zbe, zbf, zbg, zbh, zbi, zbj, zbk, storeOp, storeCell, overlay, zbl, zbm, zbn, lookupOp, keyT, okRes, mapUpdateOp, zbo, zbp, zbq, zbr, zbs, zbt, zbu, Nat.reduceSub, Nat.reduceAdd, Int.reduceLT, Int.reduceLE, Int.reduceAdd, Int.reduceSub, Int.reduceToNat, Int.reduceBEq, Int.reduceBNe, Int.reduceMul, Nat.reduceBEq, Nat.reduceBNe, Nat.reduceLT, Nat.reduceLeDiff, Nat.reduceMul, Nat.reduceEqDiff, WD, effB, effH, isPriv, isHeap, isImm, zbx, zby, zbz, chkO, setD, dslot, zca, zcb, zcc, zcd, ptrCells_some, F55, z1, z2, (h1 H).len, (h2 H).len, hlm]
    refine cSplit (fun hlt => ?_) (fun hge => ?_)
    · have hi2 : i < ns.length := by have := of_decide_eq_true hlt; omega
      have hs : ns[i]? = some ns[i] := List.getElem?_eq_getElem hi2
      generalize ns[i] = n at hs
      simp only [hlt]
      have e1 := (h1 H).at_ (sz := 1) (i := i) (e := .int .i64 n) (by rw [List.getElem?_map, hs]; rfl) rfl
      have e2 := (h2 H).at_ (sz := 1) (i := i) (e := .int .i64 n) (by rw [List.getElem?_map, hs]; rfl) rfl
      simp only [WW, partV, eqCells, eqLf, minV, maxV, ifcV, zaa, zab, zac, zad, zae, zaf, zag, zah, zai, ofConst, ofConst1, List.replicate, zaj, zak, loadOp, Go.Abs.loadCells, binV, zal, pickV, zam, zan, zao, zap, zaq, zar, zas, zat, zau, outR, resAll, resOne, zav, zaw, zax, zay, zaz, zba, zbb, zbc, zbd, zbe, zbf, zbg, zbh, zbi, zbj, zbk, storeOp, storeCell, overlay, zbl, zbm, zbn, lookupOp, keyT, okRes, mapUpdateOp, zbo, zbp, zbq, zbr, zbs, zbt, zbu, Nat.reduceSub, Nat.reduceAdd, Int.reduceLT, Int.reduceLE, Int.reduceAdd, Int.reduceSub, Int.reduceToNat, Int.reduceBEq, Int.reduceBNe, Int.reduceMul, Nat.reduceBEq, Nat.reduceBNe, Nat.reduceLT, Nat.reduceLeDiff, Nat.reduceMul, Nat.reduceEqDiff, WD, effB, effH, isPriv, isHeap, isImm, zbx, zby, zbz, chkO, setD, dslot, zca, zcb, zcc, zcd, ptrCells_some, F55]
      refine wC_dr alts55_6 (by kernel_rfl) ?_
      simp only [WW, partV, eqCells, eqLf, minV, maxV, ifcV, zaa, zab, zac, zad, zae, zaf, zag, zah, zai, ofConst, ofConst1, List.replicate, zaj, zak, loadOp, Go.Abs.loadCells, binV, zal, pickV, zam, zan, zao, zap, zaq, zar, zas, zat, zau, outR, resAll, resOne, zav, zaw, zax, zay, zaz, zba, zbb, zbc, zbd, zbe, zbf, zbg, zbh, zbi, zbj, zbk, storeOp, storeCell, overlay, zbl, zbm, zbn, lookupOp, keyT, okRes, mapUpdateOp, zbo, zbp, zbq, zbr, zbs, zbt, zbu, Nat.reduceSub, Nat.reduceAdd, Int.reduceLT, Int.reduceLE, Int.reduceAdd, Int.reduceSub, Int.reduceToNat, Int.reduceBEq, Int.reduceBNe, Int.reduceMul, Nat.reduceBEq, Nat.reduceBNe, Nat.reduceLT, Nat.reduceLeDiff, Nat.reduceMul, Nat.reduceEqDiff, WD, effB, effH, isPriv, isHeap, isImm, zbx, zby, zbz, chkO, setD, dslot, zca, zcb, zcc, zcd, ptrCells_some, F55, z1, z2, e1.at1 (h1 H), e1.cells, e2.at1 (h2 H), e2.cells, alts55_6, bne_self_eq_false]
      refine ⟨ns.length - (i + 1), by omega, i + 1, ?_, by omega, rfl⟩
      simp only [WN, firstReg, growAll, zbv, zbw, norm, killS, zag, zah, zaa, zab, zbl, zat, zad, growOne, zae, zaf, zac, zas, zak, Nat.reduceLT, Nat.reduceAdd, zbj, zav, F55, (h1 []).clip2, (h2 []).clip2]
      rw [IntWalk.i64_in ((i : Int) + 1) (by omega)]; rfl
    · simp only [hge]
      simp only [WW, partV, eqCells, eqLf, minV, maxV, ifcV, zaa, zab, zac, zad, zae, zaf, zag, zah, zai, ofConst, ofConst1, List.replicate, zaj, zak, loadOp, Go.Abs.loadCells, binV, zal, pickV, zam, zan, zao, zap, zaq, zar, zas, zat, zau, outR, resAll, resOne, zav, zaw, zax, zay, zaz, zba, zbb, zbc, zbd, zbe, zbf, zbg, zbh, zbi, zbj, zbk, storeOp, storeCell, overlay, zbl, zbm, zbn, lookupOp, keyT, okRes, mapUpdateOp, zbo, zbp, zbq, zbr, zbs, zbt, zbu, Nat.reduceSub, Nat.reduceAdd, Int.reduceLT, Int.reduceLE, Int.reduceAdd, Int.reduceSub, Int.reduceToNat, Int.reduceBEq, Int.reduceBNe, Int.reduceMul, Nat.reduceBEq, Nat.reduceBNe, Nat.reduceLT, Nat.reduceLeDiff, Nat.reduceMul, Nat.reduceEqDiff, WD, effB, effH, isPriv, isHeap, isImm, zbx, zby, zbz, chkO, setD, dslot, zca, zcb, zcc, zcd, ptrCells_some, F55]
theorem same_intsW {v1 v2 : V} {ns : List Int} (h1 : RdA v1 (ns.map intV)) (h2 : RdA v2 (ns.map intV)) (hn : ns.length ≤ 4000000) (H : Hp) (K : Out → Hp → Prop) : wpCall (evW Tryd.prog notes) 55 [v1, v2] H K = K (.ret (.bool true) false) H := wpCall_eq (same_ints h1 h2 hn H)
theorem same_code {v u : V} {c : FnM} (hq : Nonempty (FnV v c)) (hp : Nonempty (FnV u c)) (hs : fnSz c) (H : Hp) : EW 56 [v, u] H = some (.ret (.bool true) false, H) := by
  obtain ⟨⟨k1, k2, k3, k4, rfl, q1, q2, q3, q4⟩⟩ := hq
  obtain ⟨⟨j1, j2, j3, j4, rfl, p1, p2, p3, p4⟩⟩ := hp
  obtain ⟨s1, s2, s3, s4⟩ := hs
  have zq1 := fun st => (q1 []).shutIn st
  have yq1 := fun n => (q1 []).clip n
  have cq1 := (q1 []).cells1
  have dq1 := (q1 []).ok
  have zq2 := fun st => (q2 []).shutIn st
  have yq2 := fun n => (q2 []).clip n
  have cq2 := (q2 []).cells1
  have dq2 := (q2 []).ok
  have zq3 := fun st => (q3 []).shutIn st
  have yq3 := fun n => (q3 []).clip n
  have cq3 := (q3 []).cells1
  have dq3 := (q3 []).ok
  have zq4 := fun st => (q4 []).shutIn st
  have yq4 := fun n => (q4 []).clip n
  have cq4 := (q4 []).cells1
  have dq4 := (q4 []).ok
  have zp1 := fun st => (p1 []).shutIn st
  have yp1 := fun n => (p1 []).clip n
  have cp1 := (p1 []).cells1
  have dp1 := (p1 []).ok
  have zp2 := fun st => (p2 []).shutIn st
  have yp2 := fun n => (p2 []).clip n
  have cp2 := (p2 []).cells1
  have dp2 := (p2 []).ok
  have zp3 := fun st => (p3 []).shutIn st
  have yp3 := fun n => (p3 []).clip n
  have cp3 := (p3 []).cells1
  have dp3 := (p3 []).ok
  have zp4 := fun st => (p4 []).shutIn st
  have yp4 := fun n => (p4 []).clip n
  have cp4 := (p4 []).cells1
  have dp4 := (p4 []).ok
  have hnw := same_intsW q1 p1 (by omega)
  have lm2 : (c.caps.map capV).length = c.caps.length := List.length_map ..
  have lm3 : (c.code.map inV).length = c.code.length := List.length_map ..
  have lm4 : (c.tries.map tryV).length = c.tries.length := List.length_map ..
  refine eqOf (runs f56 b56 r56 n56 _ _ ?_)
  simp only [bodyOf, Tryd.f56, Option.getD_some]
  simp only [WW, partV, eqCells, eqLf, minV, maxV, ifcV, zaa, zab, zac, zad, zae, zaf, zag, zah, zai, ofConst, ofConst1, List.replicate, zaj, zak, loadOp, Go.Abs.loadCells, binV, zal, pickV, zam, zan, zao, zap, zaq, zar, zas, zat, zau, outR, resAll, resOne, zav, zaw, zax, zay, zaz, zba, zbb, zbc, zbd, zbe, zbf, zbg, zbh, zbi, zbj, zbk, storeOp, storeCell, overlay, zbl, zbm, zbn, lookupOp, keyT, okRes, mapUpdateOp, zbo, zbp, zbq, zbr, zbs, zbt, zbu, Nat.reduceSub, Nat.reduceAdd, Int.reduceLT, Int.reduceLE, Int.reduceAdd, Int.reduceSub, Int.reduceToNat, Int.reduceBEq, Int.reduceBNe, Int.reduceMul, Nat.reduceBEq, Nat.reduceBNe, Nat.reduceLT, Nat.reduceLeDiff, Nat.reduceMul, Nat.reduceEqDiff, WD, effB, effH, isPriv, isHeap, isImm, zbx, zby, zbz, chkO, setD, dslot, zca, zcb, zcc, zcd, ptrCells_some, F56, zq1, zq2, zq3, zq4, zp1, zp2, zp3, zp4, cq1, cq2, cq3, cq4, cp1, cp2, cp3, cp4, dq1, dq2, dq3, dq4, dp1, dp2, dp3, dp4, hnw, bne_self_eq_false, (q2 H).len, (q3 H).len, (q4 H).len, (p2 H).len, (p3 H).len, (p4 H).len, lm2, lm3, lm4]
  refine wC_loop _ (fun k st' H' => ∃ (i : Nat), st' = ⟨L56_4 (.box 0) (.box 1) (.v (.int .i64 i)), [[.int .i64 c.params, .int .i64 c.slots, k1, k2, k3, k4], [.int .i64 c.params, .int .i64 c.slots, j1, j2, j3, j4]], []⟩ ∧ H' = H ∧ i ≤ c.caps.length ∧ k = c.caps.length - i) c.caps.length ⟨0, ?_, rfl, by omega, by omega⟩ ?_
  · simp only [WN, firstReg, growAll, zbv, zbw, norm, killS, zag, zah, zaa, zab, zbl, zat, zad, growOne, zae, zaf, zac, zas, zak, Nat.reduceLT, Nat.reduceAdd, zbj, zav, F56, L56_4, yq1, yq2, yq3, yq4, yp1, yp2, yp3, yp4]
    rfl
  · rintro k st' H ⟨i, rfl, rfl, hi, rfl⟩
    simp only [L56_4]
    simp only [WW, partV, eqCells, eqLf, minV, maxV, ifcV, zaa, zab, zac, zad, zae, zaf, zag, zah, zai, ofConst, ofConst1, List.replicate, zaj, zak, loadOp, Go.Abs.loadCells, binV, zal, pickV, zam, zan, zao, zap, zaq, zar, zas, zat, zau, outR, resAll, resOne, zav, zaw, zax, zay, zaz, zba, zbb, zbc, zbd, zbe, zbf, zbg, zbh, zbi, zbj, zbk, storeOp, storeCell, overlay, zbl, zbm, zbn, lookupOp, keyT, okRes, mapUpdateOp, zbo, zbp, zbq, zbr, zbs, zbt, zbu, Nat.reduceSub, Nat.reduceAdd, Int.reduceLT, Int.reduceLE, Int.reduceAdd, Int.reduceSub, Int.reduceToNat, Int.reduceBEq, Int.reduceBNe, Int.reduceMul, Nat.reduceBEq, Nat.reduceBNe, Nat.reduceLT, Nat.reduceLeDiff, Nat.reduceMul, Nat.reduceEqDiff, WD, effB, effH, isPriv, isHeap, isImm, zbx, zby, zbz, chkO, setD, dslot, zca, zcb, zcc, zcd, ptrCells_some, F56, zq2, zp2, (q2 H).len, lm2]
    refine cSplit (fun hlt => ?_) (fun hge => ?_)
    · have hi2 : i < c.caps.length := by have := of_decide_eq_true hlt; omega
      have hs : c.caps[i]? = some c.caps[i] := List.getElem?_eq_getElem hi2
      generalize c.caps[i] = y at hs
      simp only [hlt]
      have e1 := (q2 H).at_ (sz := 2) (i := i) (e := .agg [.int .i64 y.1, .int .i64 y.2]) (by rw [List.getElem?_map, hs]; rfl) rfl
      have e2 := (p2 H).at_ (sz := 2) (i := i) (e := .agg [.int .i64 y.1, .int .i64 y.2]) (by rw [List.getElem?_map, hs]; rfl) rfl
      simp only [WW, partV, eqCells, eqLf, minV, maxV, ifcV, zaa, zab, zac, zad, zae, zaf, zag, zah, zai, ofConst, ofConst1, List.replicate, zaj, zak, loadOp, Go.Abs.loadCells, binV, zal, pickV, zam, zan, zao, zap, zaq, zar, zas, zat, zau, outR, resAll, resOne, zav, zaw, zax, zay, zaz, zba, zbb, zbc, zbd, zbe, zbf, zbg, zbh, zbi, zbj, zbk, storeOp, storeCell, overlay, zbl, zbm, zbn, lookupOp, keyT, okRes, mapUpdateOp, zbo, zbp, zbq, zbr, zbs, zbt, zbu, Nat.reduceSub, Nat.reduceAdd, Int.reduceLT, Int.reduceLE, Int.reduceAdd, Int.reduceSub, Int.reduceToNat, Int.reduceBEq, Int.reduceBNe, Int.reduceMul, Nat.reduceBEq, Nat.reduceBNe, Nat.reduceLT, Nat.reduceLeDiff, Nat.reduceMul, Nat.reduceEqDiff, WD, effB, effH, isPriv, isHeap, isImm, zbx, zby, zbz, chkO, setD, dslot, zca, zcb, zcc, zcd, ptrCells_some, F56]
      refine wC_dr alts56_6 (by kernel_rfl) ?_
      simp only [WW, partV, eqCells, eqLf, minV, maxV, ifcV, zaa, zab, zac, zad, zae, zaf, zag, zah, zai, ofConst, ofConst1, List.replicate, zaj, zak, loadOp, Go.Abs.loadCells, binV, zal, pickV, zam, zan, zao, zap, zaq, zar, zas, zat, zau, outR, resAll, resOne, zav, zaw, zax, zay, zaz, zba, zbb, zbc, zbd, zbe, zbf, zbg, zbh, zbi, zbj, zbk, storeOp, storeCell, overlay, zbl, zbm, zbn, lookupOp, keyT, okRes, mapUpdateOp, zbo, zbp, zbq, zbr, zbs, zbt, zbu, Nat.reduceSub, Nat.reduceAdd, Int.reduceLT, Int.reduceLE, Int.reduceAdd, Int.reduceSub, Int.reduceToNat, Int.reduceBEq, Int.reduceBNe, Int.reduceMul, Nat.reduceBEq, Nat.reduceBNe, Nat.reduceLT, Nat.reduceLeDiff, Nat.reduceMul, Nat.reduceEqDiff, WD, effB, effH, isPriv, isHeap, isImm, zbx, zby, zbz, chkO, setD, dslot, zca, zcb, zcc, zcd, ptrCells_some, F56, zq2, zp2, e1.at1 (q2 H), e1.cells, e2.at1 (p2 H), e2.cells, alts56_6]
      refine ⟨c.caps.length - (i + 1), by omega, i + 1, ?_, by omega, rfl⟩
      simp only [WN, firstReg, growAll, zbv, zbw, norm, killS, zag, zah, zaa, zab, zbl, zat, zad, growOne, zae, zaf, zac, zas, zak, Nat.reduceLT, Nat.reduceAdd, zbj, zav, F56, yq1, yq2, yq3, yq4, yp1, yp2, yp3, yp4]
      rw [IntWalk.i64_in ((i : Int) + 1) (by omega)]; rfl
    · simp only [hge]
      simp only [WW, partV, eqCells, eqLf, minV, maxV, ifcV, zaa, zab, zac, zad, zae, zaf, zag, zah, zai, ofConst, ofConst1, List.replicate, zaj, zak, loadOp, Go.Abs.loadCells, binV, zal, pickV, zam, zan, zao, zap, zaq, zar, zas, zat, zau, outR, resAll, resOne, zav, zaw, zax, zay, zaz, zba, zbb, zbc, zbd, zbe, zbf, zbg, zbh, zbi, zbj, zbk, storeOp, storeCell, overlay, zbl, zbm, zbn, lookupOp, keyT, okRes, mapUpdateOp, zbo, zbp, zbq, zbr, zbs, zbt, zbu, Nat.reduceSub, Nat.reduceAdd, Int.reduceLT, Int.reduceLE, Int.reduceAdd, Int.reduceSub, Int.reduceToNat, Int.reduceBEq, Int.reduceBNe, Int.reduceMul, Nat.reduceBEq, Nat.reduceBNe, Nat.reduceLT, Nat.reduceLeDiff, Nat.reduceMul, Nat.reduceEqDiff, WD, effB, effH, isPriv, isHeap, isImm, zbx, zby, zbz, chkO, setD, dslot, zca, zcb, zcc, zcd, ptrCells_some, F56]
      refine wC_loop _ (fun k st' H' => ∃ (i : Nat), st' = ⟨L56_9 (.box 0) (.box 1) (.v (.int .i64 i)), [[.int .i64 c.params, .int .i64 c.slots, k1, k2, k3, k4], [.int .i64 c.params, .int .i64 c.slots, j1, j2, j3, j4]], []⟩ ∧ H' = H ∧ i ≤ c.code.length ∧ k = c.code.length - i) c.code.length ⟨0, ?_, rfl, by omega, by omega⟩ ?_
      · simp only [WN, firstReg, growAll, zbv, zbw, norm, killS, zag, zah, zaa, zab, zbl, zat, zad, growOne, zae, zaf, zac, zas, zak, Nat.reduceLT, Nat.reduceAdd, zbj, zav, F56, L56_9, yq1, yq2, yq3, yq4, yp1, yp2, yp3, yp4]
        rfl
      · rintro k st' H ⟨i, rfl, rfl, hi, rfl⟩
        simp only [L56_9]
        simp only [WW, partV, eqCells, eqLf, minV, maxV, ifcV, zaa, zab, zac, zad, zae, zaf, zag, zah, zai, ofConst, ofConst1, List.replicate, zaj, zak, loadOp, Go.Abs.loadCells, binV, zal, pickV, zam, zan, zao, zap, zaq, zar, zas, zat, zau, outR, resAll, resOne, zav, zaw, zax, zay, zaz, zba, zbb, zbc, zbd, zbe, zbf, zbg, zbh, zbi, zbj, zbk, storeOp, storeCell, overlay, zbl, zbm, zbn, lookupOp, keyT, okRes, mapUpdateOp, zbo, zbp, zbq, zbr, zbs, zbt, zbu, Nat.reduceSub, Nat.reduceAdd, Int.reduceLT, Int.reduceLE, Int.reduceAdd, Int.reduceSub, Int.reduceToNat, Int.reduceBEq, Int.reduceBNe, Int.reduceMul, Nat.reduceBEq, Nat.reduceBNe, Nat.reduceLT, Nat.reduceLeDiff, Nat.reduceMul, Nat.reduceEqDiff, WD, effB, effH, isPriv, isHeap, isImm, zbx, zby, zbz, chkO, setD, dslot, zca, zcb, zcc, zcd, ptrCells_some, F56, zq3, zp3, (q3 H).len, lm3]
        refine cSplit (fun hlt => ?_) (fun hge => ?_)
        · have hi2 : i < c.code.length := by have := of_decide_eq_true hlt; omega
          have hs : c.code[i]? = some c.code[i] := List.getElem?_eq_getElem hi2
          generalize c.code[i] = y at hs
          simp only [hlt]
          have e1 := (q3 H).at_ (sz := 3) (i := i) (e := .agg [.int .i64 y.1, .int .i64 y.2.1, .int .i64 y.2.2]) (by rw [List.getElem?_map, hs]; rfl) rfl
          have e2 := (p3 H).at_ (sz := 3) (i := i) (e := .agg [.int .i64 y.1, .int .i64 y.2.1, .int .i64 y.2.2]) (by rw [List.getElem?_map, hs]; rfl) rfl
          simp only [WW, partV, eqCells, eqLf, minV, maxV, ifcV, zaa, zab, zac, zad, zae, zaf, zag, zah, zai, ofConst, ofConst1, List.replicate, zaj, zak, loadOp, Go.Abs.loadCells, binV, zal, pickV, zam, zan, zao, zap, zaq, zar, zas, zat, zau, outR, resAll, resOne, zav, zaw, zax, zay, zaz, zba, zbb, zbc, zbd, zbe, zbf, zbg, zbh, zbi, zbj, zbk, storeOp, storeCell, overlay, zbl, zbm, zbn, lookupOp, keyT, okRes, mapUpdateOp, zbo, zbp, zbq, zbr, zbs, zbt, zbu, Nat.reduceSub, Nat.reduceAdd, Int.reduceLT, Int.reduceLE, Int.reduceAdd, Int.reduceSub, Int.reduceToNat, Int.reduceBEq, Int.reduceBNe, Int.reduceMul, Nat.reduceBEq, Nat.reduceBNe, Nat.reduceLT, Nat.reduceLeDiff, Nat.reduceMul, Nat.reduceEqDiff, WD, effB, effH, isPriv, isHeap, isImm, zbx, zby, zbz, chkO, setD, dslot, zca, zcb, zcc, zcd, ptrCells_some, F56]
          refine wC_dr alts56_11 (by kernel_rfl) ?_
          simp only [WW, partV, eqCells, eqLf, minV, maxV, ifcV, zaa, zab, zac, zad, zae, zaf, zag, zah, zai, ofConst, ofConst1, List.replicate, zaj, zak, loadOp, Go.Abs.loadCells, binV, zal, pickV, zam, zan, zao, zap, zaq, zar, zas, zat, zau, outR, resAll, resOne, zav, zaw, zax, zay, zaz, zba, zbb, zbc, zbd, zbe, zbf, zbg, zbh, zbi, zbj, zbk, storeOp, storeCell, overlay, zbl, zbm, zbn, lookupOp, keyT, okRes, mapUpdateOp, zbo, zbp, zbq, zbr, zbs, zbt, zbu, Nat.reduceSub, Nat.reduceAdd, Int.reduceLT, Int.reduceLE, Int.reduceAdd, Int.reduceSub, Int.reduceToNat, Int.reduceBEq, Int.reduceBNe, Int.reduceMul, Nat.reduceBEq, Nat.reduceBNe, Nat.reduceLT, Nat.reduceLeDiff, Nat.reduceMul, Nat.reduceEqDiff, WD, effB, effH, isPriv, isHeap, isImm, zbx, zby, zbz, chkO, setD, dslot, zca, zcb, zcc, zcd, ptrCells_some, F56, zq3, zp3, e1.at1 (q3 H), e1.cells, e2.at1 (p3 H), e2.cells, alts56_11]
          refine ⟨c.code.length - (i + 1), by omega, i + 1, ?_, by omega, rfl⟩
          simp only [WN, firstReg, growAll, zbv, zbw, norm, killS, zag, zah, zaa, zab, zbl, zat, zad, growOne, zae, zaf, zac, zas, zak, Nat.reduceLT, Nat.reduceAdd, zbj, zav, F56, yq1, yq2, yq3, yq4, yp1, yp2, yp3, yp4]
          rw [IntWalk.i64_in ((i : Int) + 1) (by omega)]; rfl
        · simp only [hge]
          simp only [WW, partV, eqCells, eqLf, minV, maxV, ifcV, zaa, zab, zac, zad, zae, zaf, zag, zah, zai, ofConst, ofConst1, List.replicate, zaj, zak, loadOp, Go.Abs.loadCells, binV, zal, pickV, zam, zan, zao, zap, zaq, zar, zas, zat, zau, outR, resAll, resOne, zav, zaw, zax, zay, zaz, zba, zbb, zbc, zbd, zbe, zbf, zbg, zbh, zbi, zbj, zbk, storeOp, storeCell, overlay, zbl, zbm, zbn, lookupOp, keyT, okRes, mapUpdateOp, zbo, zbp, zbq, zbr, zbs, zbt, zbu, Nat.reduceSub, Nat.reduceAdd, Int.reduceLT, Int.reduceLE, Int.reduceAdd, Int.reduceSub, Int.reduceToNat, Int.reduceBEq, Int.reduceBNe, Int.reduceMul, Nat.reduceBEq, Nat.reduceBNe, Nat.reduceLT, Nat.reduceLeDiff, Nat.reduceMul, Nat.reduceEqDiff, WD, effB, effH, isPriv, isHeap, isImm, zbx, zby, zbz, chkO, setD, dslot, zca, zcb, zcc, zcd, ptrCells_some, F56]
          refine wC_loop _ (fun k st' H' => ∃ (i : Nat), st' = ⟨L56_14 (.box 0) (.box 1) (.v (.int .i64 i)), [[.int .i64 c.params, .int .i64 c.slots, k1, k2, k3, k4], [.int .i64 c.params, .int .i64 c.slots, j1, j2, j3, j4]], []⟩ ∧ H' = H ∧ i ≤ c.tries.length ∧ k = c.tries.length - i) c.tries.length ⟨0, ?_, rfl, by omega, by omega⟩ ?_
          · simp only [WN, firstReg, growAll, zbv, zbw, norm, killS, zag, zah, zaa, zab, zbl, zat, zad, growOne, zae, zaf, zac, zas, zak, Nat.reduceLT, Nat.reduceAdd, zbj, zav, F56, L56_14, yq1, yq2, yq3, yq4, yp1, yp2, yp3, yp4]
            rfl
          · rintro k st' H ⟨i, rfl, rfl, hi, rfl⟩
            simp only [L56_14]
            simp only [WW, partV, eqCells, eqLf, minV, maxV, ifcV, zaa, zab, zac, zad, zae, zaf, zag, zah, zai, ofConst, ofConst1, List.replicate, zaj, zak, loadOp, Go.Abs.loadCells, binV, zal, pickV, zam, zan, zao, zap, zaq, zar, zas, zat, zau, outR, resAll, resOne, zav, zaw, zax, zay, zaz, zba, zbb, zbc, zbd, zbe, zbf, zbg, zbh, zbi, zbj, zbk, storeOp, storeCell, overlay, zbl, zbm, zbn, lookupOp, keyT, okRes, mapUpdateOp, zbo, zbp, zbq, zbr, zbs, zbt, zbu, Nat.reduceSub, Nat.reduceAdd, Int.reduceLT, Int.reduceLE, Int.reduceAdd, Int.reduceSub, Int.reduceToNat, Int.reduceBEq, Int.reduceBNe, Int.reduceMul, Nat.reduceBEq, Nat.reduceBNe, Nat.reduceLT, Nat.reduceLeDiff, Nat.reduceMul, Nat.reduceEqDiff, WD, effB, effH, isPriv, isHeap, isImm, zbx, zby, zbz, chkO, setD, dslot, zca, zcb, zcc, zcd, ptrCells_some, F56, zq4, zp4, (q4 H).len, lm4]
            refine cSplit (fun hlt => ?_) (fun hge => ?_)
            · have hi2 : i < c.tries.length := by have := of_decide_eq_true hlt; omega
              have hs : c.tries[i]? = some c.tries[i] := List.getElem?_eq_getElem hi2
              generalize c.tries[i] = y at hs
              simp only [hlt]
              have e1 := (q4 H).at_ (sz := 4) (i := i) (e := .agg [.int .i64 y.1, .int .i64 y.2.1, .int .i64 y.2.2.1, .int .i64 y.2.2.2]) (by rw [List.getElem?_map, hs]; rfl) rfl
              have e2 := (p4 H).at_ (sz := 4) (i := i) (e := .agg [.int .i64 y.1, .int .i64 y.2.1, .int .i64 y.2.2.1, .int .i64 y.2.2.2]) (by rw [List.getElem?_map, hs]; rfl) rfl
              simp only [WW, partV, eqCells, eqLf, minV, maxV, ifcV, zaa, zab, zac, zad, zae, zaf, zag, zah, zai, ofConst, ofConst1, List.replicate, zaj, zak, loadOp, Go.Abs.loadCells, binV, zal, pickV, zam, zan, zao, zap, zaq, zar, zas, zat, zau, outR, resAll, resOne, zav, zaw, zax, zay, zaz, zba, zbb, zbc, zbd, zbe, zbf, zbg, zbh, zbi, zbj, zbk, storeOp, storeCell, overlay, zbl, zbm, zbn, lookupOp, keyT, okRes, mapUpdateOp, zbo, zbp, zbq, zbr, zbs, zbt, zbu, Nat.reduceSub, Nat.reduceAdd, Int.reduceLT, Int.reduceLE, Int.reduceAdd, Int.reduceSub, Int.reduceToNat, Int.reduceBEq, Int.reduceBNe, Int.reduceMul, Nat.reduceBEq, Nat.reduceBNe, Nat.reduceLT, Nat.reduceLeDiff, Nat.reduceMul, Nat.reduceEqDiff, WD, effB, effH, isPriv, isHeap, isImm, zbx, zby, zbz, chkO, setD, dslot, zca, zcb, zcc, zcd, ptrCells_some, F56]
              refine wC_dr alts56_16 (by kernel_rfl) ?_
              simp only [WW, partV, eqCells, eqLf, minV, maxV, ifcV, zaa, zab, zac, zad, zae, zaf, zag, zah, zai, ofConst, ofConst1, List.replicate, zaj, zak, loadOp, Go.Abs.loadCells, binV, zal, pickV, zam, zan, zao, zap, zaq, zar, zas, zat, zau, outR, resAll, resOne, zav, zaw, zax, zay, zaz, zba, zbb, zbc, zbd, zbe, zbf, zbg, zbh, zbi, zbj, zbk, storeOp, storeCell, overlay, zbl, zbm, zbn, lookupOp, keyT, okRes, mapUpdateOp, zbo, zbp, zbq, zbr, zbs, zbt, zbu, Nat.reduceSub, Nat.reduceAdd, Int.reduceLT, Int.reduceLE, Int.reduceAdd, Int.reduceSub, Int.reduceToNat, Int.reduceBEq, Int.reduceBNe, Int.reduceMul, Nat.reduceBEq, Nat.reduceBNe, Nat.reduceLT, Nat.reduceLeDiff, Nat.reduceMul, Nat.reduceEqDiff, WD, effB, effH, isPriv, isHeap, isImm, zbx, zby, zbz, chkO, setD, dslot, zca, zcb, zcc, zcd, ptrCells_some, F56, zq4, zp4, e1.at1 (q4 H), e1.cells, e2.at1 (p4 H), e2.cells, alts56_16]
              refine ⟨c.tries.length - (i + 1), by omega, i + 1, ?_, by omega, rfl⟩
              simp only [WN, firstReg, growAll, zbv, zbw, norm, killS, zag, zah, zaa, zab, zbl, zat, zad, growOne, zae, zaf, zac, zas, zak, Nat.reduceLT, Nat.reduceAdd, zbj, zav, F56, yq1, yq2, yq3, yq4, yp1, yp2, yp3, yp4]
              rw [IntWalk.i64_in ((i : Int) + 1) (by omega)]; rfl
            · simp only [hge]
              simp only [WW, partV, eqCells, eqLf, minV, maxV, ifcV, zaa, zab, zac, zad, zae, zaf, zag, zah, zai, ofConst, ofConst1, List.replicate, zaj, zak, loadOp, Go.Abs.loadCells, binV, zal, pickV, zam, zan, zao, zap, zaq, zar, zas, zat, zau, outR, resAll, resOne, zav, zaw, zax, zay, zaz, zba, zbb, zbc, zbd, zbe, zbf, zbg, zbh, zbi, zbj, zbk, storeOp, storeCell, overlay, zbl, zbm, zbn, lookupOp, keyT, okRes, mapUpdateOp, zbo, zbp, zbq, zbr, zbs, zbt, zbu, Nat.reduceSub, Nat.reduceAdd, Int.reduceLT, Int.reduceLE, Int.reduceAdd, Int.reduceSub, Int.reduceToNat, Int.reduceBEq, Int.reduceBNe, Int.reduceMul, Nat.reduceBEq, Nat.reduceBNe, Nat.reduceLT, Nat.reduceLeDiff, Nat.reduceMul, Nat.reduceEqDiff, WD, effB, effH, isPriv, isHeap, isImm, zbx, zby, zbz, chkO, setD, dslot, zca, zcb, zcc, zcd, ptrCells_some, F56]
theorem same_im {v u : V} {im : ImM} (q : ImV v im) (r : ImV u im) (hs : imSz im) (H : Hp) : EW 18 [v, u] H = some (.ret (.bool true) false, H) := by
  obtain ⟨fu, st, ke, fs, ks, rfl, q1, q2, q3, f2, k2⟩ := q
  obtain ⟨gu, tt, le, gs, ls, rfl, p1, p2, p3, g2, l2⟩ := r
  obtain ⟨m1, m2, m3, m4, m5, m6⟩ := hs
  have zq1 := fun st => (q1 []).shutIn st
  have yq1 := fun n => (q1 []).clip n
  have cq1 := (q1 []).cells1
  have dq1 := (q1 []).ok
  have zq2 := fun st => (q2 []).shutIn st
  have yq2 := fun n => (q2 []).clip n
  have cq2 := (q2 []).cells1
  have dq2 := (q2 []).ok
  have zq3 := fun st => (q3 []).shutIn st
  have yq3 := fun n => (q3 []).clip n
  have cq3 := (q3 []).cells1
  have dq3 := (q3 []).ok
  have zp1 := fun st => (p1 []).shutIn st
  have yp1 := fun n => (p1 []).clip n
  have cp1 := (p1 []).cells1
  have dp1 := (p1 []).ok
  have zp2 := fun st => (p2 []).shutIn st
  have yp2 := fun n => (p2 []).clip n
  have cp2 := (p2 []).cells1
  have dp2 := (p2 []).ok
  have zp3 := fun st => (p3 []).shutIn st
  have yp3 := fun n => (p3 []).clip n
  have cp3 := (p3 []).cells1
  have dp3 := (p3 []).ok
  have fl := f2.len
  have kl := k2.len
  have gl := g2.len
  have ll := l2.len
  have sl : (im.strs.map V.str).length = im.strs.length := List.length_map ..
  refine eqOf (runs f18 b18 r18 n18 _ _ ?_)
  simp only [bodyOf, Tryd.f18, Option.getD_some]
  simp only [WW, partV, eqCells, eqLf, minV, maxV, ifcV, zaa, zab, zac, zad, zae, zaf, zag, zah, zai, ofConst, ofConst1, List.replicate, zaj, zak, loadOp, Go.Abs.loadCells, binV, zal, pickV, zam, zan, zao, zap, zaq, zar, zas, zat, zau, outR, resAll, resOne, zav, zaw, zax, zay, zaz, zba, zbb, zbc, zbd, zbe, zbf, zbg, zbh, zbi, zbj, zbk, storeOp, storeCell, overlay, zbl, zbm, zbn, lookupOp, keyT, okRes, mapUpdateOp, zbo, zbp, zbq, zbr, zbs, zbt, zbu, Nat.reduceSub, Nat.reduceAdd, Int.reduceLT, Int.reduceLE, Int.reduceAdd, Int.reduceSub, Int.reduceToNat, Int.reduceBEq, Int.reduceBNe, Int.reduceMul, Nat.reduceBEq, Nat.reduceBNe, Nat.reduceLT, Nat.reduceLeDiff, Nat.reduceMul, Nat.reduceEqDiff, WD, effB, effH, isPriv, isHeap, isImm, zbx, zby, zbz, chkO, setD, dslot, zca, zcb, zcc, zcd, ptrCells_some, F18, zq1, zq2, zq3, zp1, zp2, zp3, cq1, cq2, cq3, cp1, cp2, cp3, dq1, dq2, dq3, dp1, dp2, dp3, bne_self_eq_false, (q1 H).len, (q2 H).len, (q3 H).len, (p1 H).len, (p2 H).len, (p3 H).len, fl, kl, gl, ll, sl]
  refine wC_loop _ (fun k st' H' => ∃ (i : Nat), st' = ⟨L18_4 (.box 0) (.box 1) (.v (.int .i64 i)), [[fu, st, ke, .int .i64 im.globals], [gu, tt, le, .int .i64 im.globals]], []⟩ ∧ H' = H ∧ i ≤ im.strs.length ∧ k = im.strs.length - i) im.strs.length ⟨0, ?_, rfl, by omega, by omega⟩ ?_
  · simp only [WN, firstReg, growAll, zbv, zbw, norm, killS, zag, zah, zaa, zab, zbl, zat, zad, growOne, zae, zaf, zac, zas, zak, Nat.reduceLT, Nat.reduceAdd, zbj, zav, F18, L18_4, yq1, yq2, yq3, yp1, yp2, yp3]
    rfl
  · rintro k st' H ⟨i, rfl, rfl, hi, rfl⟩
    simp only [L18_4]
    simp only [WW, partV, eqCells, eqLf, minV, maxV, ifcV, zaa, zab, zac, zad, zae, zaf, zag, zah, zai, ofConst, ofConst1, List.replicate, zaj, zak, loadOp, Go.Abs.loadCells, binV, zal, pickV, zam, zan, zao, zap, zaq, zar, zas, zat, zau, outR, resAll, resOne, zav, zaw, zax, zay, zaz, zba, zbb, zbc, zbd, zbe, zbf, zbg, zbh, zbi, zbj, zbk, storeOp, storeCell, overlay, zbl, zbm, zbn, lookupOp, keyT, okRes, mapUpdateOp, zbo, zbp, zbq, zbr, zbs, zbt, zbu, Nat.reduceSub, Nat.reduceAdd, Int.reduceLT, Int.reduceLE, Int.reduceAdd, Int.reduceSub, Int.reduceToNat, Int.reduceBEq, Int.reduceBNe, Int.reduceMul, Nat.reduceBEq, Nat.reduceBNe, Nat.reduceLT, Nat.reduceLeDiff, Nat.reduceMul, Nat.reduceEqDiff, WD, effB, effH, isPriv, isHeap, isImm, zbx, zby, zbz, chkO, setD, dslot, zca, zcb, zcc, zcd, ptrCells_some, F18, zq2, zp2, (q2 H).len, sl]
    refine cSplit (fun hlt => ?_) (fun hge => ?_)
    · have hi2 : i < im.strs.length := by have := of_decide_eq_true hlt; omega
      have hs : im.strs[i]? = some im.strs[i] := List.getElem?_eq_getElem hi2
      generalize im.strs[i] = y at hs
      have hmem := List.mem_of_getElem? hs
      simp only [hlt]
      have e1 := (q2 H).at_ (sz := 1) (i := i) (e := .str y) (by rw [List.getElem?_map, hs]; rfl) rfl
      have e2 := (p2 H).at_ (sz := 1) (i := i) (e := .str y) (by rw [List.getElem?_map, hs]; rfl) rfl
      simp only [WW, partV, eqCells, eqLf, minV, maxV, ifcV, zaa, zab, zac, zad, zae, zaf, zag, zah, zai, ofConst, ofConst1, List.replicate, zaj, zak, loadOp, Go.Abs.loadCells, binV, zal, pickV, zam, zan, zao, zap, zaq, zar, zas, zat, zau, outR, resAll, resOne, zav, zaw, zax, zay, zaz, zba, zbb, zbc, zbd, zbe, zbf, zbg, zbh, zbi, zbj, zbk, storeOp, storeCell, overlay, zbl, zbm, zbn, lookupOp, keyT, okRes, mapUpdateOp, zbo, zbp, zbq, zbr, zbs, zbt, zbu, Nat.reduceSub, Nat.reduceAdd, Int.reduceLT, Int.reduceLE, Int.reduceAdd, Int.reduceSub, Int.reduceToNat, Int.reduceBEq, Int.reduceBNe, Int.reduceMul, Nat.reduceBEq, Nat.reduceBNe, Nat.reduceLT, Nat.reduceLeDiff, Nat.reduceMul, Nat.reduceEqDiff, WD, effB, effH, isPriv, isHeap, isImm, zbx, zby, zbz, chkO, setD, dslot, zca, zcb, zcc, zcd, ptrCells_some, F18]
      refine wC_dr alts18_6 (by kernel_rfl) ?_
      simp only [WW, partV, eqCells, eqLf, minV, maxV, ifcV, zaa, zab, zac, zad, zae, zaf, zag, zah, zai, ofConst, ofConst1, List.replicate, zaj, zak, loadOp, Go.Abs.loadCells, binV, zal, pickV, zam, zan, zao, zap, zaq, zar, zas, zat, zau, outR, resAll, resOne, zav, zaw, zax, zay, zaz, zba, zbb, zbc, zbd, zbe, zbf, zbg, zbh, zbi, zbj, zbk, storeOp, storeCell, overlay, zbl, zbm, zbn, lookupOp, keyT, okRes, mapUpdateOp, zbo, zbp, zbq, zbr, zbs, zbt, zbu, Nat.reduceSub, Nat.reduceAdd, Int.reduceLT, Int.reduceLE, Int.reduceAdd, Int.reduceSub, Int.reduceToNat, Int.reduceBEq, Int.reduceBNe, Int.reduceMul, Nat.reduceBEq, Nat.reduceBNe, Nat.reduceLT, Nat.reduceLeDiff, Nat.reduceMul, Nat.reduceEqDiff, WD, effB, effH, isPriv, isHeap, isImm, zbx, zby, zbz, chkO, setD, dslot, zca, zcb, zcc, zcd, ptrCells_some, F18, zq2, zp2, e1.at1 (q2 H), e1.cells, e2.at1 (p2 H), e2.cells, alts18_6, bne_self_eq_false]
      refine ⟨im.strs.length - (i + 1), by omega, i + 1, ?_, by omega, rfl⟩
      simp only [WN, firstReg, growAll, zbv, zbw, norm, killS, zag, zah, zaa, zab, zbl, zat, zad, growOne, zae, zaf, zac, zas, zak, Nat.reduceLT, Nat.reduceAdd, zbj, zav, F18, yq1, yq2, yq3, yp1, yp2, yp3]
      rw [IntWalk.i64_in ((i : Int) + 1) (by omega)]; rfl
    · simp only [hge]
      simp only [WW, partV, eqCells, eqLf, minV, maxV, ifcV, zaa, zab, zac, zad, zae, zaf, zag, zah, zai, ofConst, ofConst1, List.replicate, zaj, zak, loadOp, Go.Abs.loadCells, binV, zal, pickV, zam, zan, zao, zap, zaq, zar, zas, zat, zau, outR, resAll, resOne, zav, zaw, zax, zay, zaz, zba, zbb, zbc, zbd, zbe, zbf, zbg, zbh, zbi, zbj, zbk, storeOp, storeCell, overlay, zbl, zbm, zbn, lookupOp, keyT, okRes, mapUpdateOp, zbo, zbp, zbq, zbr, zbs, zbt, zbu, Nat.reduceSub, Nat.reduceAdd, Int.reduceLT, Int.reduceLE, Int.reduceAdd, Int.reduceSub, Int.reduceToNat, Int.reduceBEq, Int.reduceBNe, Int.reduceMul, Nat.reduceBEq, Nat.reduceBNe, Nat.reduceLT, Nat.reduceLeDiff, Nat.reduceMul, Nat.reduceEqDiff, WD, effB, effH, isPriv, isHeap, isImm, zbx, zby, zbz, chkO, setD, dslot, zca, zcb, zcc, zcd, ptrCells_some, F18]
      refine wC_loop _ (fun k st' H' => ∃ (i : Nat), st' = ⟨L18_9 (.box 0) (.box 1) (.v (.int .i64 i)), [[fu, st, ke, .int .i64 im.globals], [gu, tt, le, .int .i64 im.globals]], []⟩ ∧ H' = H ∧ i ≤ im.keys.length ∧ k = im.keys.length - i) im.keys.length ⟨0, ?_, rfl, by omega, by omega⟩ ?_
      · simp only [WN, firstReg, growAll, zbv, zbw, norm, killS, zag, zah, zaa, zab, zbl, zat, zad, growOne, zae, zaf, zac, zas, zak, Nat.reduceLT, Nat.reduceAdd, zbj, zav, F18, L18_9, yq1, yq2, yq3, yp1, yp2, yp3]
        rfl
      · rintro k st' H ⟨i, rfl, rfl, hi, rfl⟩
        simp only [L18_9]
        simp only [WW, partV, eqCells, eqLf, minV, maxV, ifcV, zaa, zab, zac, zad, zae, zaf, zag, zah, zai, ofConst, ofConst1, List.replicate, zaj, zak, loadOp, Go.Abs.loadCells, binV, zal, pickV, zam, zan, zao, zap, zaq, zar, zas, zat, zau, outR, resAll, resOne, zav, zaw, zax, zay, zaz, zba, zbb, zbc, zbd, zbe, zbf, zbg, zbh, zbi, zbj, zbk, storeOp, storeCell, overlay, zbl, zbm, zbn, lookupOp, keyT, okRes, mapUpdateOp, zbo, zbp, zbq, zbr, zbs, zbt, zbu, Nat.reduceSub, Nat.reduceAdd, Int.reduceLT, Int.reduceLE, Int.reduceAdd, Int.reduceSub, Int.reduceToNat, Int.reduceBEq, Int.reduceBNe, Int.reduceMul, Nat.reduceBEq, Nat.reduceBNe, Nat.reduceLT, Nat.reduceLeDiff, Nat.reduceMul, Nat.reduceEqDiff, WD, effB, effH, isPriv, isHeap, isImm, zbx, zby, zbz, chkO, setD, dslot, zca, zcb, zcc, zcd, ptrCells_some, F18, zq3, zp3, (q3 H).len, kl]
        refine cSplit (fun hlt => ?_) (fun hge => ?_)
        · have hi2 : i < im.keys.length := by have := of_decide_eq_true hlt; omega
          have hs : im.keys[i]? = some im.keys[i] := List.getElem?_eq_getElem hi2
          generalize im.keys[i] = y at hs
          have hmem := List.mem_of_getElem? hs
          simp only [hlt]
          obtain ⟨u1, hu1, hR1⟩ := k2.get hs
          obtain ⟨u2, hu2, hR2⟩ := l2.get hs
          have e1 := (q3 H).at_ (sz := 1) (i := i) hu1 (hR1 []).width1
          have e2 := (p3 H).at_ (sz := 1) (i := i) hu2 (hR2 []).width1
          have hnw := same_intsW hR1 hR2 (by have := m5 y hmem; omega)
          simp only [WW, partV, eqCells, eqLf, minV, maxV, ifcV, zaa, zab, zac, zad, zae, zaf, zag, zah, zai, ofConst, ofConst1, List.replicate, zaj, zak, loadOp, Go.Abs.loadCells, binV, zal, pickV, zam, zan, zao, zap, zaq, zar, zas, zat, zau, outR, resAll, resOne, zav, zaw, zax, zay, zaz, zba, zbb, zbc, zbd, zbe, zbf, zbg, zbh, zbi, zbj, zbk, storeOp, storeCell, overlay, zbl, zbm, zbn, lookupOp, keyT, okRes, mapUpdateOp, zbo, zbp, zbq, zbr, zbs, zbt, zbu, Nat.reduceSub, Nat.reduceAdd, Int.reduceLT, Int.reduceLE, Int.reduceAdd, Int.reduceSub, Int.reduceToNat, Int.reduceBEq, Int.reduceBNe, Int.reduceMul, Nat.reduceBEq, Nat.reduceBNe, Nat.reduceLT, Nat.reduceLeDiff, Nat.reduceMul, Nat.reduceEqDiff, WD, effB, effH, isPriv, isHeap, isImm, zbx, zby, zbz, chkO, setD, dslot, zca, zcb, zcc, zcd, ptrCells_some, F18]
          refine wC_dr alts18_11 (by kernel_rfl) ?_
          simp only [WW, partV, eqCells, eqLf, minV, maxV, ifcV, zaa, zab, zac, zad, zae, zaf, zag, zah, zai, ofConst, ofConst1, List.replicate, zaj, zak, loadOp, Go.Abs.loadCells, binV, zal, pickV, zam, zan, zao, zap, zaq, zar, zas, zat, zau, outR, resAll, resOne, zav, zaw, zax, zay, zaz, zba, zbb, zbc, zbd, zbe, zbf, zbg, zbh, zbi, zbj, zbk, storeOp, storeCell, overlay, zbl, zbm, zbn, lookupOp, keyT, okRes, mapUpdateOp, zbo, zbp, zbq, zbr, zbs, zbt, zbu, Nat.reduceSub, Nat.reduceAdd, Int.reduceLT, Int.reduceLE, Int.reduceAdd, Int.reduceSub, Int.reduceToNat, Int.reduceBEq, Int.reduceBNe, Int.reduceMul, Nat.reduceBEq, Nat.reduceBNe, Nat.reduceLT, Nat.reduceLeDiff, Nat.reduceMul, Nat.reduceEqDiff, WD, effB, effH, isPriv, isHeap, isImm, zbx, zby, zbz, chkO, setD, dslot, zca, zcb, zcc, zcd, ptrCells_some, F18, zq3, zp3, e1.at1 (q3 H), e1.cells, e2.at1 (p3 H), e2.cells, alts18_11, bne_self_eq_false, (hR1 []).cells1, (hR2 []).cells1, (hR1 []).shutIn, (hR2 []).shutIn, hnw]
          refine ⟨im.keys.length - (i + 1), by omega, i + 1, ?_, by omega, rfl⟩
          simp only [WN, firstReg, growAll, zbv, zbw, norm, killS, zag, zah, zaa, zab, zbl, zat, zad, growOne, zae, zaf, zac, zas, zak, Nat.reduceLT, Nat.reduceAdd, zbj, zav, F18, yq1, yq2, yq3, yp1, yp2, yp3]
          rw [IntWalk.i64_in ((i : Int) + 1) (by omega)]; rfl
        · simp only [hge]
          simp only [WW, partV, eqCells, eqLf, minV, maxV, ifcV, zaa, zab, zac, zad, zae, zaf, zag, zah, zai, ofConst, ofConst1, List.replicate, zaj, zak, loadOp, Go.Abs.loadCells, binV, zal, pickV, zam, zan, zao, zap, zaq, zar, zas, zat, zau, outR, resAll, resOne, zav, zaw, zax, zay, zaz, zba, zbb, zbc, zbd, zbe, zbf, zbg, zbh, zbi, zbj, zbk, storeOp, storeCell, overlay, zbl, zbm, zbn, lookupOp, keyT, okRes, mapUpdateOp, zbo, zbp, zbq, zbr, zbs, zbt, zbu, Nat.reduceSub, Nat.reduceAdd, Int.reduceLT, Int.reduceLE, Int.reduceAdd, Int.reduceSub, Int.reduceToNat, Int.reduceBEq, Int.reduceBNe, Int.reduceMul, Nat.reduceBEq, Nat.reduceBNe, Nat.reduceLT, Nat.reduceLeDiff, Nat.reduceMul, Nat.reduceEqDiff, WD, effB, effH, isPriv, isHeap, isImm, zbx, zby, zbz, chkO, setD, dslot, zca, zcb, zcc, zcd, ptrCells_some, F18]
          refine wC_loop _ (fun k st' H' => ∃ (i : Nat), st' = ⟨L18_14 (.box 0) (.box 1) (.v (.int .i64 i)), [[fu, st, ke, .int .i64 im.globals], [gu, tt, le, .int .i64 im.globals]], []⟩ ∧ H' = H ∧ i ≤ im.funs.length ∧ k = im.funs.length - i) im.funs.length ⟨0, ?_, rfl, by omega, by omega⟩ ?_
          · simp only [WN, firstReg, growAll, zbv, zbw, norm, killS, zag, zah, zaa, zab, zbl, zat, zad, growOne, zae, zaf, zac, zas, zak, Nat.reduceLT, Nat.reduceAdd, zbj, zav, F18, L18_14, yq1, yq2, yq3, yp1, yp2, yp3]
            rfl
          · rintro k st' H ⟨i, rfl, rfl, hi, rfl⟩
            simp only [L18_14]
            simp only [WW, partV, eqCells, eqLf, minV, maxV, ifcV, zaa, zab, zac, zad, zae, zaf, zag, zah, zai, ofConst, ofConst1, List.replicate, zaj, zak, loadOp, Go.Abs.loadCells, binV, zal, pickV, zam, zan, zao, zap, zaq, zar, zas, zat, zau, outR, resAll, resOne, zav, zaw, zax, zay, zaz, zba, zbb, zbc, zbd, zbe, zbf, zbg, zbh, zbi, zbj, zbk, storeOp, storeCell, overlay, zbl, zbm, zbn, lookupOp, keyT, okRes, mapUpdateOp, zbo, zbp, zbq, zbr, zbs, zbt, zbu, Nat.reduceSub, Nat.reduceAdd, Int.reduceLT, Int.reduceLE, Int.reduceAdd, Int.reduceSub, Int.reduceToNat, Int.reduceBEq, Int.reduceBNe, Int.reduceMul, Nat.reduceBEq, Nat.reduceBNe, Nat.reduceLT, Nat.reduceLeDiff, Nat.reduceMul, Nat.reduceEqDiff, WD, effB, effH, isPriv, isHeap, isImm, zbx, zby, zbz, chkO, setD, dslot, zca, zcb, zcc, zcd, ptrCells_some, F18, zq1, zp1, (q1 H).len, fl]
            refine cSplit (fun hlt => ?_) (fun hge => ?_)
            · have hi2 : i < im.funs.length := by have := of_decide_eq_true hlt; omega
              have hs : im.funs[i]? = some im.funs[i] := List.getElem?_eq_getElem hi2
              generalize im.funs[i] = y at hs
              have hmem := List.mem_of_getElem? hs
              simp only [hlt]
              obtain ⟨u1, hu1, hR1⟩ := f2.get hs
              obtain ⟨u2, hu2, hR2⟩ := g2.get hs
              have hnw : ∀ K, wpCall (evW Tryd.prog notes) 56 [u1, u2] H K = K (.ret (.bool true) false) H := fun K => wpCall_eq (same_code hR1 hR2 (m6 y hmem) H)
              obtain ⟨⟨k1, k2', k3, k4, rfl, a1, a2, a3, a4⟩⟩ := hR1
              obtain ⟨⟨j1, j2, j3, j4, rfl, b1, b2, b3, b4⟩⟩ := hR2
              have e1 := (q1 H).at_ (sz := 6) (i := i) hu1 rfl
              have e2 := (p1 H).at_ (sz := 6) (i := i) hu2 rfl
              simp only [WW, partV, eqCells, eqLf, minV, maxV, ifcV, zaa, zab, zac, zad, zae, zaf, zag, zah, zai, ofConst, ofConst1, List.replicate, zaj, zak, loadOp, Go.Abs.loadCells, binV, zal, pickV, zam, zan, zao, zap, zaq, zar, zas, zat, zau, outR, resAll, resOne, zav, zaw, zax, zay, zaz, zba, zbb, zbc, zbd, zbe, zbf, zbg, zbh, zbi, zbj, zbk, storeOp, storeCell, overlay, zbl, zbm, zbn, lookupOp, keyT, okRes, mapUpdateOp, zbo, zbp, zbq, zbr, zbs, zbt, zbu, Nat.reduceSub, Nat.reduceAdd, Int.reduceLT, Int.reduceLE, Int.reduceAdd, Int.reduceSub, Int.reduceToNat, Int.reduceBEq, Int.reduceBNe, Int.reduceMul, Nat.reduceBEq, Nat.reduceBNe, Nat.reduceLT, Nat.reduceLeDiff, Nat.reduceMul, Nat.reduceEqDiff, WD, effB, effH, isPriv, isHeap, isImm, zbx, zby, zbz, chkO, setD, dslot, zca, zcb, zcc, zcd, ptrCells_some, F18]
              refine wC_dr alts18_16 (by kernel_rfl) ?_
              simp only [WW, partV, eqCells, eqLf, minV, maxV, ifcV, zaa, zab, zac, zad, zae, zaf, zag, zah, zai, ofConst, ofConst1, List.replicate, zaj, zak, loadOp, Go.Abs.loadCells, binV, zal, pickV, zam, zan, zao, zap, zaq, zar, zas, zat, zau, outR, resAll, resOne, zav, zaw, zax, zay, zaz, zba, zbb, zbc, zbd, zbe, zbf, zbg, zbh, zbi, zbj, zbk, storeOp, storeCell, overlay, zbl, zbm, zbn, lookupOp, keyT, okRes, mapUpdateOp, zbo, zbp, zbq, zbr, zbs, zbt, zbu, Nat.reduceSub, Nat.reduceAdd, Int.reduceLT, Int.reduceLE, Int.reduceAdd, Int.reduceSub, Int.reduceToNat, Int.reduceBEq, Int.reduceBNe, Int.reduceMul, Nat.reduceBEq, Nat.reduceBNe, Nat.reduceLT, Nat.reduceLeDiff, Nat.reduceMul, Nat.reduceEqDiff, WD, effB, effH, isPriv, isHeap, isImm, zbx, zby, zbz, chkO, setD, dslot, zca, zcb, zcc, zcd, ptrCells_some, F18, zq1, zp1, e1.at1 (q1 H), e1.cells, e2.at1 (p1 H), e2.cells, alts18_16, bne_self_eq_false, hnw, (a1 []).cells1, (a1 []).shutIn, (a2 []).cells1, (a2 []).shutIn, (a3 []).cells1, (a3 []).shutIn, (a4 []).cells1, (a4 []).shutIn, (b1 []).cells1, (b1 []).shutIn, (b2 []).cells1, (b2 []).shutIn, (b3 []).cells1, (b3 []).shutIn, (b4 []).cells1, (b4 []).shutIn]
              refine ⟨im.funs.length - (i + 1), by omega, i + 1, ?_, by omega, rfl⟩
              simp only [WN, firstReg, growAll, zbv, zbw, norm, killS, zag, zah, zaa, zab, zbl, zat, zad, growOne, zae, zaf, zac, zas, zak, Nat.reduceLT, Nat.reduceAdd, zbj, zav, F18, yq1, yq2, yq3, yp1, yp2, yp3]
              rw [IntWalk.i64_in ((i : Int) + 1) (by omega)]; rfl
            · simp only [hge]
              simp only [WW, partV, eqCells, eqLf, minV, maxV, ifcV, zaa, zab, zac, zad, zae, zaf, zag, zah, zai, ofConst, ofConst1, List.replicate, zaj, zak, loadOp, Go.Abs.loadCells, binV, zal, pickV, zam, zan, zao, zap, zaq, zar, zas, zat, zau, outR, resAll, resOne, zav, zaw, zax, zay, zaz, zba, zbb, zbc, zbd, zbe, zbf, zbg, zbh, zbi, zbj, zbk, storeOp, storeCell, overlay, zbl, zbm, zbn, lookupOp, keyT, okRes, mapUpdateOp, zbo, zbp, zbq, zbr, zbs, zbt, zbu, Nat.reduceSub, Nat.reduceAdd, Int.reduceLT, Int.reduceLE, Int.reduceAdd, Int.reduceSub, Int.reduceToNat, Int.reduceBEq, Int.reduceBNe, Int.reduceMul, Nat.reduceBEq, Nat.reduceBNe, Nat.reduceLT, Nat.reduceLeDiff, Nat.reduceMul, Nat.reduceEqDiff, WD, effB, effH, isPriv, isHeap, isImm, zbx, zby, zbz, chkO, setD, dslot, zca, zcb, zcc, zcd, ptrCells_some, F18]
end Go.Proofs.YtgjobbmbbedecaaDoor

/- What is too big to be asked. -/
namespace Go.Proofs.YtgjobbmbbedecaaDoor
open Go Go.Abs Go.Proofs
set_option maxRecDepth 100000
set_option maxHeartbeats 8000000
set_option linter.unusedVariables false
set_option linter.unusedSimpArgs false
theorem big_spec {v : V} {im : ImM} (q : ImV v im) (H : Hp) : wpCall EW 11 [v] H (fun out H' => ∃ b, out = .ret (.bool b) false ∧ H' = H ∧ (b = false → imSm im)) := by
  obtain ⟨fu, st, ke, fs, ks, rfl, hf, hs, hk, f2, k2⟩ := q
  have z1 := fun st => (hf []).shutIn st
  have z2 := fun s => (hs []).shutIn s
  have z3 := fun st => (hk []).shutIn st
  have y1 := fun n => (hf []).clip n
  have y2 := fun n => (hs []).clip n
  have y3 := fun n => (hk []).clip n
  have x1 := (hf []).cells1
  have x2 := (hs []).cells1
  have x3 := (hk []).cells1
  have w1 := (hf []).ok
  have w2 := (hs []).ok
  have w3 := (hk []).ok
  have fl := f2.len
  have kl := k2.len
  have sl : (im.strs.map V.str).length = im.strs.length := List.length_map ..
  have no : ∀ {p : Prop}, (true = false → p) := fun h => by cases h
  refine runs f11 b11 r11 n11 _ _ ?_
  simp only [bodyOf, Tryd.f11, Option.getD_some]
  have l1 := (hf H).len 50
  have l2 := (hs H).len 9
  have l3 := (hk H).len 45
  rw [fl] at l1
  rw [sl] at l2
  rw [kl] at l3
  cases g1 : decide ((30 : Int) < (im.funs.length : Int)) with
  | true =>
    simp only [WW, partV, eqCells, eqLf, minV, maxV, ifcV, zaa, zab, zac, zad, zae, zaf, zag, zah, zai, ofConst, ofConst1, List.replicate, zaj, zak, loadOp, Go.Abs.loadCells, binV, zal, pickV, zam, zan, zao, zap, zaq, zar, zas, zat, zau, outR, resAll, resOne, zav, zaw, zax, zay, zaz, zba, zbb, zbc, zbd, zbe, zbf, zbg, zbh, zbi, zbj, zbk, storeOp, storeCell, overlay, zbl, zbm, zbn, lookupOp, keyT, okRes, mapUpdateOp, zbo, zbp, zbq, zbr, zbs, zbt, zbu, Nat.reduceSub, Nat.reduceAdd, Int.reduceLT, Int.reduceLE, Int.reduceAdd, Int.reduceSub, Int.reduceToNat, Int.reduceBEq, Int.reduceBNe, Int.reduceMul, Nat.reduceBEq, Nat.reduceBNe, Nat.reduceLT, Nat.reduceLeDiff, Nat.reduceMul, Nat.reduceEqDiff, WD, effB, effH, isPriv, isHeap, isImm, zbx, zby, zbz, chkO, setD, dslot, zca, zcb, zcc, zcd, ptrCells_some, F11, z1, z2, z3, x1, x2, x3, w1, w2, w3, l1, l2, l3, g1]
    exact ⟨_, rfl, no⟩
  | false =>
  cases g2 : decide ((100 : Int) < (im.strs.length : Int)) with
  | true =>
    simp only [WW, partV, eqCells, eqLf, minV, maxV, ifcV, zaa, zab, zac, zad, zae, zaf, zag, zah, zai, ofConst, ofConst1, List.replicate, zaj, zak, loadOp, Go.Abs.loadCells, binV, zal, pickV, zam, zan, zao, zap, zaq, zar, zas, zat, zau, outR, resAll, resOne, zav, zaw, zax, zay, zaz, zba, zbb, zbc, zbd, zbe, zbf, zbg, zbh, zbi, zbj, zbk, storeOp, storeCell, overlay, zbl, zbm, zbn, lookupOp, keyT, okRes, mapUpdateOp, zbo, zbp, zbq, zbr, zbs, zbt, zbu, Nat.reduceSub, Nat.reduceAdd, Int.reduceLT, Int.reduceLE, Int.reduceAdd, Int.reduceSub, Int.reduceToNat, Int.reduceBEq, Int.reduceBNe, Int.reduceMul, Nat.reduceBEq, Nat.reduceBNe, Nat.reduceLT, Nat.reduceLeDiff, Nat.reduceMul, Nat.reduceEqDiff, WD, effB, effH, isPriv, isHeap, isImm, zbx, zby, zbz, chkO, setD, dslot, zca, zcb, zcc, zcd, ptrCells_some, F11, z1, z2, z3, x1, x2, x3, w1, w2, w3, l1, l2, l3, g1, g2]
    exact ⟨_, rfl, no⟩
  | false =>
  cases g3 : decide ((50 : Int) < (im.keys.length : Int)) with
  | true =>
    simp only [WW, partV, eqCells, eqLf, minV, maxV, ifcV, zaa, zab, zac, zad, zae, zaf, zag, zah, zai, ofConst, ofConst1, List.replicate, zaj, zak, loadOp, Go.Abs.loadCells, binV, zal, pickV, zam, zan, zao, zap, zaq, zar, zas, zat, zau, outR, resAll, resOne, zav, zaw, zax, zay, zaz, zba, zbb, zbc, zbd, zbe, zbf, zbg, zbh, zbi, zbj, zbk, storeOp, storeCell, overlay, zbl, zbm, zbn, lookupOp, keyT, okRes, mapUpdateOp, zbo, zbp, zbq, zbr, zbs, zbt, zbu, Nat.reduceSub, Nat.reduceAdd, Int.reduceLT, Int.reduceLE, Int.reduceAdd, Int.reduceSub, Int.reduceToNat, Int.reduceBEq, Int.reduceBNe, Int.reduceMul, Nat.reduceBEq, Nat.reduceBNe, Nat.reduceLT, Nat.reduceLeDiff, Nat.reduceMul, Nat.reduceEqDiff, WD, effB, effH, isPriv, isHeap, isImm, zbx, zby, zbz, chkO, setD, dslot, zca, zcb, zcc, zcd, ptrCells_some, F11, z1, z2, z3, x1, x2, x3, w1, w2, w3, l1, l2, l3, g1, g2, g3]
    exact ⟨_, rfl, no⟩
  | false =>
  have m1 : im.funs.length ≤ 30 := by have := of_decide_eq_false g1; omega
  have m2 : im.strs.length ≤ 100 := by have := of_decide_eq_false g2; omega
  have m3 : im.keys.length ≤ 50 := by have := of_decide_eq_false g3; omega
  simp only [WW, partV, eqCells, eqLf, minV, maxV, ifcV, zaa, zab, zac, zad, zae, zaf, zag, zah, zai, ofConst, ofConst1, List.replicate, zaj, zak, loadOp, Go.Abs.loadCells, binV, zal, pickV, zam, zan, zao, zap, zaq, zar, zas, zat, zau, outR, resAll, resOne, zav, zaw, zax, zay, zaz, zba, zbb, zbc, zbd, zbe, zbf, zbg, zbh, zbi, zbj, zbk, storeOp, storeCell, overlay, zbl, zbm, zbn, lookupOp, keyT, okRes, mapUpdateOp, zbo, zbp, zbq, zbr, zbs, zbt, zbu, Nat.reduceSub, Nat.reduceAdd, Int.reduceLT, Int.reduceLE, Int.reduceAdd, Int.reduceSub, Int.reduceToNat, Int.reduceBEq, Int.reduceBNe, Int.reduceMul, Nat.reduceBEq, Nat.reduceBNe, Nat.reduceLT, Nat.reduceLeDiff, Nat.reduceMul, Nat.reduceEqDiff, WD, effB, effH, isPriv, isHeap, isImm, zbx, zby, zbz, chkO, setD, dslot, zca, zcb, zcc, zcd, ptrCells_some, F11, z1, z2, z3, x1, x2, x3, w1, w2, w3, l1, l2, l3, g1, g2, g3]
  refine wC_loop _ (fun k st' H' => ∃ (i : Nat) (z : Int), st' = ⟨L11_5 (.box 0) (.v (.int .i64 z)) (.v (.int .i64 i)), [[fu, st, ke, .int .i64 im.globals]], []⟩ ∧ H' = H ∧ i ≤ im.strs.length ∧ k = im.strs.length - i ∧ ∀ (j : Nat) s, im.strs[j]? = some s → j < i → s.size ≤ 2000) im.strs.length ⟨0, 0, ?_, rfl, by omega, by omega, fun _ _ _ h => absurd h (by omega)⟩ ?_
  · simp only [WN, firstReg, growAll, zbv, zbw, norm, killS, zag, zah, zaa, zab, zbl, zat, zad, growOne, zae, zaf, zac, zas, zak, Nat.reduceLT, Nat.reduceAdd, zbj, zav, F11, L11_5, y1, y2, y3]
    rfl
  · rintro k st' H ⟨i, z, rfl, rfl, hi, rfl, hall⟩
    simp only [L11_5]
    simp only [WW, partV, eqCells, eqLf, minV, maxV, ifcV, zaa, zab, zac, zad, zae, zaf, zag, zah, zai, ofConst, ofConst1, List.replicate, zaj, zak, loadOp, Go.Abs.loadCells, binV, zal, pickV, zam, zan, zao, zap, zaq, zar, zas, zat, zau, outR, resAll, resOne, zav, zaw, zax, zay, zaz, zba, zbb, zbc, zbd, zbe, zbf, zbg, zbh, zbi, zbj, zbk, storeOp, storeCell, overlay, zbl, zbm, zbn, lookupOp, keyT, okRes, mapUpdateOp, zbo, zbp, zbq, zbr, zbs, zbt, zbu, Nat.reduceSub, Nat.reduceAdd, Int.reduceLT, Int.reduceLE, Int.reduceAdd, Int.reduceSub, Int.reduceToNat, Int.reduceBEq, Int.reduceBNe, Int.reduceMul, Nat.reduceBEq, Nat.reduceBNe, Nat.reduceLT, Nat.reduceLeDiff, Nat.reduceMul, Nat.reduceEqDiff, WD, effB, effH, isPriv, isHeap, isImm, zbx, zby, zbz, chkO, setD, dslot, zca, zcb, zcc, zcd, ptrCells_some, F11, z1, z2, z3, l2]
    refine cSplit (fun hlt => ?_) (fun hge => ?_)
    · have hi2 : i < im.strs.length := by have := of_decide_eq_true hlt; omega
      have hsk : im.strs[i]? = some im.strs[i] := List.getElem?_eq_getElem hi2
      generalize im.strs[i] = a at hsk
      simp only [hlt]
      have hat := (hs H).at_ (sz := 1) (i := i) (e := .str a) (by rw [List.getElem?_map, hsk]; rfl) rfl
      simp only [WW, partV, eqCells, eqLf, minV, maxV, ifcV, zaa, zab, zac, zad, zae, zaf, zag, zah, zai, ofConst, ofConst1, List.replicate, zaj, zak, loadOp, Go.Abs.loadCells, binV, zal, pickV, zam, zan, zao, zap, zaq, zar, zas, zat, zau, outR, resAll, resOne, zav, zaw, zax, zay, zaz, zba, zbb, zbc, zbd, zbe, zbf, zbg, zbh, zbi, zbj, zbk, storeOp, storeCell, overlay, zbl, zbm, zbn, lookupOp, keyT, okRes, mapUpdateOp, zbo, zbp, zbq, zbr, zbs, zbt, zbu, Nat.reduceSub, Nat.reduceAdd, Int.reduceLT, Int.reduceLE, Int.reduceAdd, Int.reduceSub, Int.reduceToNat, Int.reduceBEq, Int.reduceBNe, Int.reduceMul, Nat.reduceBEq, Nat.reduceBNe, Nat.reduceLT, Nat.reduceLeDiff, Nat.reduceMul, Nat.reduceEqDiff, WD, effB, effH, isPriv, isHeap, isImm, zbx, zby, zbz, chkO, setD, dslot, zca, zcb, zcc, zcd, ptrCells_some, F11, z2, hat.at1 (hs H), hat.cells]
      refine cSplit (fun h3 => ?_) (fun h3 => ?_)
      · simp only [h3]
        simp only [WW, partV, eqCells, eqLf, minV, maxV, ifcV, zaa, zab, zac, zad, zae, zaf, zag, zah, zai, ofConst, ofConst1, List.replicate, zaj, zak, loadOp, Go.Abs.loadCells, binV, zal, pickV, zam, zan, zao, zap, zaq, zar, zas, zat, zau, outR, resAll, resOne, zav, zaw, zax, zay, zaz, zba, zbb, zbc, zbd, zbe, zbf, zbg, zbh, zbi, zbj, zbk, storeOp, storeCell, overlay, zbl, zbm, zbn, lookupOp, keyT, okRes, mapUpdateOp, zbo, zbp, zbq, zbr, zbs, zbt, zbu, Nat.reduceSub, Nat.reduceAdd, Int.reduceLT, Int.reduceLE, Int.reduceAdd, Int.reduceSub, Int.reduceToNat, Int.reduceBEq, Int.reduceBNe, Int.reduceMul, Nat.reduceBEq, Nat.reduceBNe, Nat.reduceLT, Nat.reduceLeDiff, Nat.reduceMul, Nat.reduceEqDiff, WD, effB, effH, isPriv, isHeap, isImm, zbx, zby, zbz, chkO, setD, dslot, zca, zcb, zcc, zcd, ptrCells_some, F11]
        exact ⟨_, rfl, no⟩
      · have h4 := of_decide_eq_false h3
        simp only [h3]
        simp only [WW, partV, eqCells, eqLf, minV, maxV, ifcV, zaa, zab, zac, zad, zae, zaf, zag, zah, zai, ofConst, ofConst1, List.replicate, zaj, zak, loadOp, Go.Abs.loadCells, binV, zal, pickV, zam, zan, zao, zap, zaq, zar, zas, zat, zau, outR, resAll, resOne, zav, zaw, zax, zay, zaz, zba, zbb, zbc, zbd, zbe, zbf, zbg, zbh, zbi, zbj, zbk, storeOp, storeCell, overlay, zbl, zbm, zbn, lookupOp, keyT, okRes, mapUpdateOp, zbo, zbp, zbq, zbr, zbs, zbt, zbu, Nat.reduceSub, Nat.reduceAdd, Int.reduceLT, Int.reduceLE, Int.reduceAdd, Int.reduceSub, Int.reduceToNat, Int.reduceBEq, Int.reduceBNe, Int.reduceMul, Nat.reduceBEq, Nat.reduceBNe, Nat.reduceLT, Nat.reduceLeDiff, Nat.reduceMul, Nat.reduceEqDiff, WD, effB, effH, isPriv, isHeap, isImm, zbx, zby, zbz, chkO, setD, dslot, zca, zcb, zcc, zcd, ptrCells_some, F11]
        refine ⟨im.strs.length - (i + 1), by omega, i + 1, z, ?_, by omega, rfl, fun j s hj hlt => ?_⟩
        · simp only [WN, firstReg, growAll, zbv, zbw, norm, killS, zag, zah, zaa, zab, zbl, zat, zad, growOne, zae, zaf, zac, zas, zak, Nat.reduceLT, Nat.reduceAdd, zbj, zav, F11, y1, y2, y3]
          rw [IntWalk.i64_in ((i : Int) + 1) (by omega)]; rfl
        · rcases Nat.lt_or_ge j i with h | h
          · exact hall j s hj h
          · obtain rfl : j = i := by omega
            rw [hsk] at hj; cases hj; omega
    · have hi2 : i = im.strs.length := by have := of_decide_eq_false hge; omega
      have m4 : ∀ s ∈ im.strs, s.size ≤ 2000 := fun s hs => by
        obtain ⟨j, hj⟩ := List.getElem?_of_mem hs
        exact hall j s hj (by rw [hi2]; exact (List.getElem?_eq_some_iff.1 hj).1)
      clear hall
      simp only [hge]
      simp only [WW, partV, eqCells, eqLf, minV, maxV, ifcV, zaa, zab, zac, zad, zae, zaf, zag, zah, zai, ofConst, ofConst1, List.replicate, zaj, zak, loadOp, Go.Abs.loadCells, binV, zal, pickV, zam, zan, zao, zap, zaq, zar, zas, zat, zau, outR, resAll, resOne, zav, zaw, zax, zay, zaz, zba, zbb, zbc, zbd, zbe, zbf, zbg, zbh, zbi, zbj, zbk, storeOp, storeCell, overlay, zbl, zbm, zbn, lookupOp, keyT, okRes, mapUpdateOp, zbo, zbp, zbq, zbr, zbs, zbt, zbu, Nat.reduceSub, Nat.reduceAdd, Int.reduceLT, Int.reduceLE, Int.reduceAdd, Int.reduceSub, Int.reduceToNat, Int.reduceBEq, Int.reduceBNe, Int.reduceMul, Nat.reduceBEq, Nat.reduceBNe, Nat.reduceLT, Nat.reduceLeDiff, Nat.reduceMul, Nat.reduceEqDiff, WD, effB, effH, isPriv, isHeap, isImm, zbx, zby, zbz, chkO, setD, dslot, zca, zcb, zcc, zcd, ptrCells_some, F11]
      refine wC_loop _ (fun k st' H' => ∃ (i : Nat) (z : Int), st' = ⟨L11_10 (.box 0) (.v (.int .i64 z)) (.v (.int .i64 i)), [[fu, st, ke, .int .i64 im.globals]], []⟩ ∧ H' = H ∧ i ≤ im.keys.length ∧ k = im.keys.length - i ∧ ∀ (j : Nat) s, im.keys[j]? = some s → j < i → s.length ≤ 100) im.keys.length ⟨0, z, ?_, rfl, by omega, by omega, fun _ _ _ h => absurd h (by omega)⟩ ?_
      · simp only [WN, firstReg, growAll, zbv, zbw, norm, killS, zag, zah, zaa, zab, zbl, zat, zad, growOne, zae, zaf, zac, zas, zak, Nat.reduceLT, Nat.reduceAdd, zbj, zav, F11, L11_10, y1, y2, y3]
        rfl
      · rintro k st' H ⟨i, z, rfl, rfl, hi, rfl, hall⟩
        simp only [L11_10]
        simp only [WW, partV, eqCells, eqLf, minV, maxV, ifcV, zaa, zab, zac, zad, zae, zaf, zag, zah, zai, ofConst, ofConst1, List.replicate, zaj, zak, loadOp, Go.Abs.loadCells, binV, zal, pickV, zam, zan, zao, zap, zaq, zar, zas, zat, zau, outR, resAll, resOne, zav, zaw, zax, zay, zaz, zba, zbb, zbc, zbd, zbe, zbf, zbg, zbh, zbi, zbj, zbk, storeOp, storeCell, overlay, zbl, zbm, zbn, lookupOp, keyT, okRes, mapUpdateOp, zbo, zbp, zbq, zbr, zbs, zbt, zbu, Nat.reduceSub, Nat.reduceAdd, Int.reduceLT, Int.reduceLE, Int.reduceAdd, Int.reduceSub, Int.reduceToNat, Int.reduceBEq, Int.reduceBNe, Int.reduceMul, Nat.reduceBEq, Nat.reduceBNe, Nat.reduceLT, Nat.reduceLeDiff, Nat.reduceMul, Nat.reduceEqDiff, WD, effB, effH, isPriv, isHeap, isImm, zbx, zby, zbz, chkO, setD, dslot, zca, zcb, zcc, zcd, ptrCells_some, F11, z1, z2, z3, l3]
        refine cSplit (fun hlt => ?_) (fun hge => ?_)
        · have hi2 : i < im.keys.length := by have := of_decide_eq_true hlt; omega
          have hsk : im.keys[i]? = some im.keys[i] := List.getElem?_eq_getElem hi2
          generalize im.keys[i] = a at hsk
          obtain ⟨u, hu, hR⟩ := k2.get hsk
          simp only [hlt]
          have hat := (hk H).at_ (sz := 1) (i := i) (e := u) hu (hR []).width1
          have lu := (hR H).len 3
          rw [List.length_map] at lu
          simp only [WW, partV, eqCells, eqLf, minV, maxV, ifcV, zaa, zab, zac, zad, zae, zaf, zag, zah, zai, ofConst, ofConst1, List.replicate, zaj, zak, loadOp, Go.Abs.loadCells, binV, zal, pickV, zam, zan, zao, zap, zaq, zar, zas, zat, zau, outR, resAll, resOne, zav, zaw, zax, zay, zaz, zba, zbb, zbc, zbd, zbe, zbf, zbg, zbh, zbi, zbj, zbk, storeOp, storeCell, overlay, zbl, zbm, zbn, lookupOp, keyT, okRes, mapUpdateOp, zbo, zbp, zbq, zbr, zbs, zbt, zbu, Nat.reduceSub, Nat.reduceAdd, Int.reduceLT, Int.reduceLE, Int.reduceAdd, Int.reduceSub, Int.reduceToNat, Int.reduceBEq, Int.reduceBNe, Int.reduceMul, Nat.reduceBEq, Nat.reduceBNe, Nat.reduceLT, Nat.reduceLeDiff, Nat.reduceMul, Nat.reduceEqDiff, WD, effB, effH, isPriv, isHeap, isImm, zbx, zby, zbz, chkO, setD, dslot, zca, zcb, zcc, zcd, ptrCells_some, F11, z3, hat.at1 (hk H), hat.cells, (hR []).cells1, (hR []).shutIn, lu]
          refine cSplit (fun h3 => ?_) (fun h3 => ?_)
          · simp only [h3]
            simp only [WW, partV, eqCells, eqLf, minV, maxV, ifcV, zaa, zab, zac, zad, zae, zaf, zag, zah, zai, ofConst, ofConst1, List.replicate, zaj, zak, loadOp, Go.Abs.loadCells, binV, zal, pickV, zam, zan, zao, zap, zaq, zar, zas, zat, zau, outR, resAll, resOne, zav, zaw, zax, zay, zaz, zba, zbb, zbc, zbd, zbe, zbf, zbg, zbh, zbi, zbj, zbk, storeOp, storeCell, overlay, zbl, zbm, zbn, lookupOp, keyT, okRes, mapUpdateOp, zbo, zbp, zbq, zbr, zbs, zbt, zbu, Nat.reduceSub, Nat.reduceAdd, Int.reduceLT, Int.reduceLE, Int.reduceAdd, Int.reduceSub, Int.reduceToNat, Int.reduceBEq, Int.reduceBNe, Int.reduceMul, Nat.reduceBEq, Nat.reduceBNe, Nat.reduceLT, Nat.reduceLeDiff, Nat.reduceMul, Nat.reduceEqDiff, WD, effB, effH, isPriv, isHeap, isImm, zbx, zby, zbz, chkO, setD, dslot, zca, zcb, zcc, zcd, ptrCells_some, F11]
            exact ⟨_, rfl, no⟩
          · have h4 := of_decide_eq_false h3
            simp only [h3]
            simp only [WW, partV, eqCells, eqLf, minV, maxV, ifcV, zaa, zab, zac, zad, zae, zaf, zag, zah, zai, ofConst, ofConst1, List.replicate, zaj, zak, loadOp, Go.Abs.loadCells, binV, zal, pickV, zam, zan, zao, zap, zaq, zar, zas, zat, zau, outR, resAll, resOne, zav, zaw, zax, zay, zaz, zba, zbb, zbc, zbd, zbe, zbf, zbg, zbh, zbi, zbj, zbk, storeOp, storeCell, overlay, zbl, zbm, zbn, lookupOp, keyT, okRes, mapUpdateOp, zbo, zbp, zbq, zbr, zbs, zbt, zbu, Nat.reduceSub, Nat.reduceAdd, Int.reduceLT, Int.reduceLE, Int.reduceAdd, Int.reduceSub, Int.reduceToNat, Int.reduceBEq, Int.reduceBNe, Int.reduceMul, Nat.reduceBEq, Nat.reduceBNe, Nat.reduceLT, Nat.reduceLeDiff, Nat.reduceMul, Nat.reduceEqDiff, WD, effB, effH, isPriv, isHeap, isImm, zbx, zby, zbz, chkO, setD, dslot, zca, zcb, zcc, zcd, ptrCells_some, F11]
            refine ⟨im.keys.length - (i + 1), by omega, i + 1, z, ?_, by omega, rfl, fun j s hj hlt => ?_⟩
            · simp only [WN, firstReg, growAll, zbv, zbw, norm, killS, zag, zah, zaa, zab, zbl, zat, zad, growOne, zae, zaf, zac, zas, zak, Nat.reduceLT, Nat.reduceAdd, zbj, zav, F11, y1, y2, y3]
              rw [IntWalk.i64_in ((i : Int) + 1) (by omega)]; rfl
            · rcases Nat.lt_or_ge j i with h | h
              · exact hall j s hj h
              · obtain rfl : j = i := by omega
                rw [hsk] at hj; cases hj; omega
        · have hi2 : i = im.keys.length := by have := of_decide_eq_false hge; omega
          have m5 : ∀ s ∈ im.keys, s.length ≤ 100 := fun s hs => by
            obtain ⟨j, hj⟩ := List.getElem?_of_mem hs
            exact hall j s hj (by rw [hi2]; exact (List.getElem?_eq_some_iff.1 hj).1)
          clear hall
          simp only [hge]
          simp only [WW, partV, eqCells, eqLf, minV, maxV, ifcV, zaa, zab, zac, zad, zae, zaf, zag, zah, zai, ofConst, ofConst1, List.replicate, zaj, zak, loadOp, Go.Abs.loadCells, binV, zal, pickV, zam, zan, zao, zap, zaq, zar, zas, zat, zau, outR, resAll, resOne, zav, zaw, zax, zay, zaz, zba, zbb, zbc, zbd, zbe, zbf, zbg, zbh, zbi, zbj, zbk, storeOp, storeCell, overlay, zbl, zbm, zbn, lookupOp, keyT, okRes, mapUpdateOp, zbo, zbp, zbq, zbr, zbs, zbt, zbu, Nat.reduceSub, Nat.reduceAdd, Int.reduceLT, Int.reduceLE, Int.reduceAdd, Int.reduceSub, Int.reduceToNat, Int.reduceBEq, Int.reduceBNe, Int.reduceMul, Nat.reduceBEq, Nat.reduceBNe, Nat.reduceLT, Nat.reduceLeDiff, Nat.reduceMul, Nat.reduceEqDiff, WD, effB, effH, isPriv, isHeap, isImm, zbx, zby, zbz, chkO, setD, dslot, zca, zcb, zcc, zcd, ptrCells_some, F11]
          refine wC_loop _ (fun k st' H' => ∃ (i : Nat) (z : Int), st' = ⟨L11_15 (.box 0) (.v (.int .i64 z)) (.v (.int .i64 i)), [[fu, st, ke, .int .i64 im.globals]], []⟩ ∧ H' = H ∧ i ≤ im.funs.length ∧ k = im.funs.length - i ∧ ∀ (j : Nat) s, im.funs[j]? = some s → j < i → fnSm s) im.funs.length ⟨0, z, ?_, rfl, by omega, by omega, fun _ _ _ h => absurd h (by omega)⟩ ?_
          · simp only [WN, firstReg, growAll, zbv, zbw, norm, killS, zag, zah, zaa, zab, zbl, zat, zad, growOne, zae, zaf, zac, zas, zak, Nat.reduceLT, Nat.reduceAdd, zbj, zav, F11, L11_15, y1, y2, y3]
            rfl
          · rintro k st' H ⟨i, z, rfl, rfl, hi, rfl, hall⟩
            simp only [L11_15]
            simp only [WW, partV, eqCells, eqLf, minV, maxV, ifcV, zaa, zab, zac, zad, zae, zaf, zag, zah, zai, ofConst, ofConst1, List.replicate, zaj, zak, loadOp, Go.Abs.loadCells, binV, zal, pickV, zam, zan, zao, zap, zaq, zar, zas, zat, zau, outR, resAll, resOne, zav, zaw, zax, zay, zaz, zba, zbb, zbc, zbd, zbe, zbf, zbg, zbh, zbi, zbj, zbk, storeOp, storeCell, overlay, zbl, zbm, zbn, lookupOp, keyT, okRes, mapUpdateOp, zbo, zbp, zbq, zbr, zbs, zbt, zbu, Nat.reduceSub, Nat.reduceAdd, Int.reduceLT, Int.reduceLE, Int.reduceAdd, Int.reduceSub, Int.reduceToNat, Int.reduceBEq, Int.reduceBNe, Int.reduceMul, Nat.reduceBEq, Nat.reduceBNe, Nat.reduceLT, Nat.reduceLeDiff, Nat.reduceMul, Nat.reduceEqDiff, WD, effB, effH, isPriv, isHeap, isImm, zbx, zby, zbz, chkO, setD, dslot, zca, zcb, zcc, zcd, ptrCells_some, F11, z1, z2, z3, l1]
            refine cSplit (fun hlt => ?_) (fun hge => ?_)
            · have hi2 : i < im.funs.length := by have := of_decide_eq_true hlt; omega
              have hsk : im.funs[i]? = some im.funs[i] := List.getElem?_eq_getElem hi2
              generalize im.funs[i] = a at hsk
              obtain ⟨u, hu, ⟨⟨k1, k2', k3, k4, rfl, q1, q2, q3, q4⟩⟩⟩ := f2.get hsk
              simp only [hlt]
              have hat := (hf H).at_ (sz := 6) (i := i) hu rfl
              have r1 := (q1 H).len 3
              have r2 := (q2 H).len 105
              have r3 := (q3 H).len 52
              have r4 := (q4 H).len 107
              rw [List.length_map] at r1 r2 r3 r4
              simp only [WW, partV, eqCells, eqLf, minV, maxV, ifcV, zaa, zab, zac, zad, zae, zaf, zag, zah, zai, ofConst, ofConst1, List.replicate, zaj, zak, loadOp, Go.Abs.loadCells, binV, zal, pickV, zam, zan, zao, zap, zaq, zar, zas, zat, zau, outR, resAll, resOne, zav, zaw, zax, zay, zaz, zba, zbb, zbc, zbd, zbe, zbf, zbg, zbh, zbi, zbj, zbk, storeOp, storeCell, overlay, zbl, zbm, zbn, lookupOp, keyT, okRes, mapUpdateOp, zbo, zbp, zbq, zbr, zbs, zbt, zbu, Nat.reduceSub, Nat.reduceAdd, Int.reduceLT, Int.reduceLE, Int.reduceAdd, Int.reduceSub, Int.reduceToNat, Int.reduceBEq, Int.reduceBNe, Int.reduceMul, Nat.reduceBEq, Nat.reduceBNe, Nat.reduceLT, Nat.reduceLeDiff, Nat.reduceMul, Nat.reduceEqDiff, WD, effB, effH, isPriv, isHeap, isImm, zbx, zby, zbz, chkO, setD, dslot, zca, zcb, zcc, zcd, ptrCells_some, F11, z1, hat.at1 (hf H), hat.cells, (q1 []).cells1, (q2 []).cells1, (q3 []).cells1, (q4 []).cells1, (q1 []).shutIn, (q2 []).shutIn, (q3 []).shutIn, (q4 []).shutIn, (q1 []).ok, (q2 []).ok, (q3 []).ok, (q4 []).ok, r1, r2, r3, r4]
              refine gSplit (fun h0 => ?_) (fun h0 => ?_)
              · simp only [h0]
                simp only [WW, partV, eqCells, eqLf, minV, maxV, ifcV, zaa, zab, zac, zad, zae, zaf, zag, zah, zai, ofConst, ofConst1, List.replicate, zaj, zak, loadOp, Go.Abs.loadCells, binV, zal, pickV, zam, zan, zao, zap, zaq, zar, zas, zat, zau, outR, resAll, resOne, zav, zaw, zax, zay, zaz, zba, zbb, zbc, zbd, zbe, zbf, zbg, zbh, zbi, zbj, zbk, storeOp, storeCell, overlay, zbl, zbm, zbn, lookupOp, keyT, okRes, mapUpdateOp, zbo, zbp, zbq, zbr, zbs, zbt, zbu, Nat.reduceSub, Nat.reduceAdd, Int.reduceLT, Int.reduceLE, Int.reduceAdd, Int.reduceSub, Int.reduceToNat, Int.reduceBEq, Int.reduceBNe, Int.reduceMul, Nat.reduceBEq, Nat.reduceBNe, Nat.reduceLT, Nat.reduceLeDiff, Nat.reduceMul, Nat.reduceEqDiff, WD, effB, effH, isPriv, isHeap, isImm, zbx, zby, zbz, chkO, setD, dslot, zca, zcb, zcc, zcd, ptrCells_some, F11, (q1 []).cells1, (q2 []).cells1, (q3 []).cells1, (q4 []).cells1, (q1 []).shutIn, (q2 []).shutIn, (q3 []).shutIn, (q4 []).shutIn, r1, r2, r3, r4]
                exact ⟨_, rfl, no⟩
              · simp only [h0]
                simp only [WW, partV, eqCells, eqLf, minV, maxV, ifcV, zaa, zab, zac, zad, zae, zaf, zag, zah, zai, ofConst, ofConst1, List.replicate, zaj, zak, loadOp, Go.Abs.loadCells, binV, zal, pickV, zam, zan, zao, zap, zaq, zar, zas, zat, zau, outR, resAll, resOne, zav, zaw, zax, zay, zaz, zba, zbb, zbc, zbd, zbe, zbf, zbg, zbh, zbi, zbj, zbk, storeOp, storeCell, overlay, zbl, zbm, zbn, lookupOp, keyT, okRes, mapUpdateOp, zbo, zbp, zbq, zbr, zbs, zbt, zbu, Nat.reduceSub, Nat.reduceAdd, Int.reduceLT, Int.reduceLE, Int.reduceAdd, Int.reduceSub, Int.reduceToNat, Int.reduceBEq, Int.reduceBNe, Int.reduceMul, Nat.reduceBEq, Nat.reduceBNe, Nat.reduceLT, Nat.reduceLeDiff, Nat.reduceMul, Nat.reduceEqDiff, WD, effB, effH, isPriv, isHeap, isImm, zbx, zby, zbz, chkO, setD, dslot, zca, zcb, zcc, zcd, ptrCells_some, F11, (q1 []).cells1, (q2 []).cells1, (q3 []).cells1, (q4 []).cells1, (q1 []).shutIn, (q2 []).shutIn, (q3 []).shutIn, (q4 []).shutIn, r1, r2, r3, r4]
                refine gSplit (fun h1 => ?_) (fun h1 => ?_)
                · simp only [h1]
                  simp only [WW, partV, eqCells, eqLf, minV, maxV, ifcV, zaa, zab, zac, zad, zae, zaf, zag, zah, zai, ofConst, ofConst1, List.replicate, zaj, zak, loadOp, Go.Abs.loadCells, binV, zal, pickV, zam, zan, zao, zap, zaq, zar, zas, zat, zau, outR, resAll, resOne, zav, zaw, zax, zay, zaz, zba, zbb, zbc, zbd, zbe, zbf, zbg, zbh, zbi, zbj, zbk, storeOp, storeCell, overlay, zbl, zbm, zbn, lookupOp, keyT, okRes, mapUpdateOp, zbo, zbp, zbq, zbr, zbs, zbt, zbu, Nat.reduceSub, Nat.reduceAdd, Int.reduceLT, Int.reduceLE, Int.reduceAdd, Int.reduceSub, Int.reduceToNat, Int.reduceBEq, Int.reduceBNe, Int.reduceMul, Nat.reduceBEq, Nat.reduceBNe, Nat.reduceLT, Nat.reduceLeDiff, Nat.reduceMul, Nat.reduceEqDiff, WD, effB, effH, isPriv, isHeap, isImm, zbx, zby, zbz, chkO, setD, dslot, zca, zcb, zcc, zcd, ptrCells_some, F11, (q1 []).cells1, (q2 []).cells1, (q3 []).cells1, (q4 []).cells1, (q1 []).shutIn, (q2 []).shutIn, (q3 []).shutIn, (q4 []).shutIn, r1, r2, r3, r4]
                  exact ⟨_, rfl, no⟩
                · simp only [h1]
                  simp only [WW, partV, eqCells, eqLf, minV, maxV, ifcV, zaa, zab, zac, zad, zae, zaf, zag, zah, zai, ofConst, ofConst1, List.replicate, zaj, zak, loadOp, Go.Abs.loadCells, binV, zal, pickV, zam, zan, zao, zap, zaq, zar, zas, zat, zau, outR, resAll, resOne, zav, zaw, zax, zay, zaz, zba, zbb, zbc, zbd, zbe, zbf, zbg, zbh, zbi, zbj, zbk, storeOp, storeCell, overlay, zbl, zbm, zbn, lookupOp, keyT, okRes, mapUpdateOp, zbo, zbp, zbq, zbr, zbs, zbt, zbu, Nat.reduceSub, Nat.reduceAdd, Int.reduceLT, Int.reduceLE, Int.reduceAdd, Int.reduceSub, Int.reduceToNat, Int.reduceBEq, Int.reduceBNe, Int.reduceMul, Nat.reduceBEq, Nat.reduceBNe, Nat.reduceLT, Nat.reduceLeDiff, Nat.reduceMul, Nat.reduceEqDiff, WD, effB, effH, isPriv, isHeap, isImm, zbx, zby, zbz, chkO, setD, dslot, zca, zcb, zcc, zcd, ptrCells_some, F11, (q1 []).cells1, (q2 []).cells1, (q3 []).cells1, (q4 []).cells1, (q1 []).shutIn, (q2 []).shutIn, (q3 []).shutIn, (q4 []).shutIn, r1, r2, r3, r4]
                  refine gSplit (fun h2 => ?_) (fun h2 => ?_)
                  · simp only [h2]
                    simp only [WW, partV, eqCells, eqLf, minV, maxV, ifcV, zaa, zab, zac, zad, zae, zaf, zag, zah, zai, ofConst, ofConst1, List.replicate, zaj, zak, loadOp, Go.Abs.loadCells, binV, zal, pickV, zam, zan, zao, zap, zaq, zar, zas, zat, zau, outR, resAll, resOne, zav, zaw, zax, zay, zaz, zba, zbb, zbc, zbd, zbe, zbf, zbg, zbh, zbi, zbj, zbk, storeOp, storeCell, overlay, zbl, zbm, zbn, lookupOp, keyT, okRes, mapUpdateOp, zbo, zbp, zbq, zbr, zbs, zbt, zbu, Nat.reduceSub, Nat.reduceAdd, Int.reduceLT, Int.reduceLE, Int.reduceAdd, Int.reduceSub, Int.reduceToNat, Int.reduceBEq, Int.reduceBNe, Int.reduceMul, Nat.reduceBEq, Nat.reduceBNe, Nat.reduceLT, Nat.reduceLeDiff, Nat.reduceMul, Nat.reduceEqDiff, WD, effB, effH, isPriv, isHeap, isImm, zbx, zby, zbz, chkO, setD, dslot, zca, zcb, zcc, zcd, ptrCells_some, F11, (q1 []).cells1, (q2 []).cells1, (q3 []).cells1, (q4 []).cells1, (q1 []).shutIn, (q2 []).shutIn, (q3 []).shutIn, (q4 []).shutIn, r1, r2, r3, r4]
                    exact ⟨_, rfl, no⟩
                  · simp only [h2]
                    simp only [WW, partV, eqCells, eqLf, minV, maxV, ifcV, zaa, zab, zac, zad, zae, zaf, zag, zah, zai, ofConst, ofConst1, List.replicate, zaj, zak, loadOp, Go.Abs.loadCells, binV, zal, pickV, zam, zan, zao, zap, zaq, zar, zas, zat, zau, outR, resAll, resOne, zav, zaw, zax, zay, zaz, zba, zbb, zbc, zbd, zbe, zbf, zbg, zbh, zbi, zbj, zbk, storeOp, storeCell, overlay, zbl, zbm, zbn, lookupOp, keyT, okRes, mapUpdateOp, zbo, zbp, zbq, zbr, zbs, zbt, zbu, Nat.reduceSub, Nat.reduceAdd, Int.reduceLT, Int.reduceLE, Int.reduceAdd, Int.reduceSub, Int.reduceToNat, Int.reduceBEq, Int.reduceBNe, Int.reduceMul, Nat.reduceBEq, Nat.reduceBNe, Nat.reduceLT, Nat.reduceLeDiff, Nat.reduceMul, Nat.reduceEqDiff, WD, effB, effH, isPriv, isHeap, isImm, zbx, zby, zbz, chkO, setD, dslot, zca, zcb, zcc, zcd, ptrCells_some, F11, (q1 []).cells1, (q2 []).cells1, (q3 []).cells1, (q4 []).cells1, (q1 []).shutIn, (q2 []).shutIn, (q3 []).shutIn, (q4 []).shutIn, r1, r2, r3, r4]
                    refine cSplit (fun h3 => ?_) (fun h3 => ?_)
                    · simp only [h3]
                      simp only [WW, partV, eqCells, eqLf, minV, maxV, ifcV, zaa, zab, zac, zad, zae, zaf, zag, zah, zai, ofConst, ofConst1, List.replicate, zaj, zak, loadOp, Go.Abs.loadCells, binV, zal, pickV, zam, zan, zao, zap, zaq, zar, zas, zat, zau, outR, resAll, resOne, zav, zaw, zax, zay, zaz, zba, zbb, zbc, zbd, zbe, zbf, zbg, zbh, zbi, zbj, zbk, storeOp, storeCell, overlay, zbl, zbm, zbn, lookupOp, keyT, okRes, mapUpdateOp, zbo, zbp, zbq, zbr, zbs, zbt, zbu, Nat.reduceSub, Nat.reduceAdd, Int.reduceLT, Int.reduceLE, Int.reduceAdd, Int.reduceSub, Int.reduceToNat, Int.reduceBEq, Int.reduceBNe, Int.reduceMul, Nat.reduceBEq, Nat.reduceBNe, Nat.reduceLT, Nat.reduceLeDiff, Nat.reduceMul, Nat.reduceEqDiff, WD, effB, effH, isPriv, isHeap, isImm, zbx, zby, zbz, chkO, setD, dslot, zca, zcb, zcc, zcd, ptrCells_some, F11, (q1 []).cells1, (q2 []).cells1, (q3 []).cells1, (q4 []).cells1, (q1 []).shutIn, (q2 []).shutIn, (q3 []).shutIn, (q4 []).shutIn, r1, r2, r3, r4]
                      exact ⟨_, rfl, no⟩
                    · simp only [h3]
                      simp only [WW, partV, eqCells, eqLf, minV, maxV, ifcV, zaa, zab, zac, zad, zae, zaf, zag, zah, zai, ofConst, ofConst1, List.replicate, zaj, zak, loadOp, Go.Abs.loadCells, binV, zal, pickV, zam, zan, zao, zap, zaq, zar, zas, zat, zau, outR, resAll, resOne, zav, zaw, zax, zay, zaz, zba, zbb, zbc, zbd, zbe, zbf, zbg, zbh, zbi, zbj, zbk, storeOp, storeCell, overlay, zbl, zbm, zbn, lookupOp, keyT, okRes, mapUpdateOp, zbo, zbp, zbq, zbr, zbs, zbt, zbu, Nat.reduceSub, Nat.reduceAdd, Int.reduceLT, Int.reduceLE, Int.reduceAdd, Int.reduceSub, Int.reduceToNat, Int.reduceBEq, Int.reduceBNe, Int.reduceMul, Nat.reduceBEq, Nat.reduceBNe, Nat.reduceLT, Nat.reduceLeDiff, Nat.reduceMul, Nat.reduceEqDiff, WD, effB, effH, isPriv, isHeap, isImm, zbx, zby, zbz, chkO, setD, dslot, zca, zcb, zcc, zcd, ptrCells_some, F11, (q1 []).cells1, (q2 []).cells1, (q3 []).cells1, (q4 []).cells1, (q1 []).shutIn, (q2 []).shutIn, (q3 []).shutIn, (q4 []).shutIn, r1, r2, r3, r4]
                      have t0 := of_decide_eq_false h0
                      have t1 := of_decide_eq_false h1
                      have t2 := of_decide_eq_false h2
                      have t3 := of_decide_eq_false h3
                      refine ⟨im.funs.length - (i + 1), by omega, i + 1, IntKind.i64.wrap (z + (a.code.length : Nat)), ?_, by omega, rfl, fun j s hj hlt => ?_⟩
                      · simp only [WN, firstReg, growAll, zbv, zbw, norm, killS, zag, zah, zaa, zab, zbl, zat, zad, growOne, zae, zaf, zac, zas, zak, Nat.reduceLT, Nat.reduceAdd, zbj, zav, F11, y1, y2, y3]
                        rw [IntWalk.i64_in ((i : Int) + 1) (by omega)]; rfl
                      · rcases Nat.lt_or_ge j i with h | h
                        · exact hall j s hj h
                        · obtain rfl : j = i := by omega
                          rw [hsk] at hj; cases hj; exact ⟨by omega, by omega, by omega, by omega⟩
            · have hi2 : i = im.funs.length := by have := of_decide_eq_false hge; omega
              have m6 : ∀ s ∈ im.funs, fnSm s := fun s hs => by
                obtain ⟨j, hj⟩ := List.getElem?_of_mem hs
                exact hall j s hj (by rw [hi2]; exact (List.getElem?_eq_some_iff.1 hj).1)
              simp only [hge]
              simp only [WW, partV, eqCells, eqLf, minV, maxV, ifcV, zaa, zab, zac, zad, zae, zaf, zag, zah, zai, ofConst, ofConst1, List.replicate, zaj, zak, loadOp, Go.Abs.loadCells, binV, zal, pickV, zam, zan, zao, zap, zaq, zar, zas, zat, zau, outR, resAll, resOne, zav, zaw, zax, zay, zaz, zba, zbb, zbc, zbd, zbe, zbf, zbg, zbh, zbi, zbj, zbk, storeOp, storeCell, overlay, zbl, zbm, zbn, lookupOp, keyT, okRes, mapUpdateOp, zbo, zbp, zbq, zbr, zbs, zbt, zbu, Nat.reduceSub, Nat.reduceAdd, Int.reduceLT, Int.reduceLE, Int.reduceAdd, Int.reduceSub, Int.reduceToNat, Int.reduceBEq, Int.reduceBNe, Int.reduceMul, Nat.reduceBEq, Nat.reduceBNe, Nat.reduceLT, Nat.reduceLeDiff, Nat.reduceMul, Nat.reduceEqDiff, WD, effB, effH, isPriv, isHeap, isImm, zbx, zby, zbz, chkO, setD, dslot, zca, zcb, zcc, zcd, ptrCells_some, F11]
              exact ⟨_, rfl, fun _ => ⟨m1, m2, m3, m4, m5, m6⟩⟩
theorem strOf_bs (l : List Nat) : ∃ s, strOf (bs l) = some s := by
  have h0 : ∀ l : List Nat, ∃ s, Abs.bytesOf (bs l) = some s := fun l => by
    induction l with
    | nil => exact ⟨[], rfl⟩
    | cons a l ih =>
      obtain ⟨s, hs⟩ := ih
      refine ⟨UInt8.ofNat a :: s, ?_⟩
      show ((some (UInt8.ofNat (a : Int).toNat)).bind fun b => (Abs.bytesOf (bs l)).map (b :: ·)) = _
      rw [hs, Int.toNat_natCast]; rfl
  obtain ⟨s, hs⟩ := h0 l
  exact ⟨⟨s.toArray⟩, by simp [strOf, hs]⟩
theorem liveW (H : Hp) (K : Out → Hp → Prop) : wpCall (evW Tryd.prog notes) 12 [] H K = K (.ret (.bool true) false) H := wpCall_eq (live_eq H)
theorem numW (n : Int) (H : Hp) (K : Out → Hp → Prop) : wpCall (evW Tryd.prog notes) 15 [.int .i64 n] H K = K (.ret (.int .i64 n) false) H := wpCall_eq (num_eq n H)
theorem u3 : Tryd.prog.underlying 3 = some (.int .i64) := by kernel_rfl
theorem u9 : Tryd.prog.underlying 9 = some .string := by kernel_rfl
theorem u22 : Tryd.prog.underlying 22 = some (.slice 50) := by kernel_rfl
theorem u23 : Tryd.prog.underlying 23 = some (.slice 9) := by kernel_rfl
theorem u24 : Tryd.prog.underlying 24 = some (.slice 45) := by kernel_rfl
theorem u45 : Tryd.prog.underlying 45 = some (.slice 3) := by kernel_rfl
theorem u46 : Tryd.prog.underlying 46 = some (.slice 105) := by kernel_rfl
theorem u47 : Tryd.prog.underlying 47 = some (.slice 52) := by kernel_rfl
theorem u48 : Tryd.prog.underlying 48 = some (.slice 107) := by kernel_rfl
theorem s26 : tysOf Tryd.prog 26 = some [22, 23, 24, 3] := by kernel_rfl
theorem s50 : tysOf Tryd.prog 50 = some [3, 3, 45, 46, 47, 48] := by kernel_rfl
theorem s52 : tysOf Tryd.prog 52 = some [3, 3, 3] := by kernel_rfl
theorem s105 : tysOf Tryd.prog 105 = some [3, 3] := by kernel_rfl
theorem s107 : tysOf Tryd.prog 107 = some [3, 3, 3, 3] := by kernel_rfl
theorem ag26 : isAggT Tryd.prog 26 = true := by kernel_rfl
theorem ag50 : isAggT Tryd.prog 50 = true := by kernel_rfl
theorem ag52 : isAggT Tryd.prog 52 = true := by kernel_rfl
theorem ag105 : isAggT Tryd.prog 105 = true := by kernel_rfl
theorem ag107 : isAggT Tryd.prog 107 = true := by kernel_rfl
theorem ag3 : isAggT Tryd.prog 3 = false := by kernel_rfl
theorem ag9 : isAggT Tryd.prog 9 = false := by kernel_rfl
theorem ag45 : isAggT Tryd.prog 45 = false := by kernel_rfl
theorem all2_rows {α : Type} {R : V → α → Prop} {f : List V → V} : ∀ {rows : List (List V)}, (∀ r ∈ rows, ∃ a, R (f r) a) → ∃ us : List α, All2 R (rows.map f) us
  | [], _ => ⟨[], .nil⟩
  | r :: rows, h => by
    obtain ⟨a, ha⟩ := h r (List.mem_cons_self ..)
    obtain ⟨us, hus⟩ := all2_rows (rows := rows) fun q hq => h q (List.mem_cons_of_mem _ hq)
    exact ⟨a :: us, .cons ha hus⟩
theorem all2_eq {α : Type} {g : α → V} : ∀ {vs : List V} {us : List α}, All2 (fun v a => v = g a) vs us → vs = us.map g
  | _, _, .nil => rfl
  | _, _, .cons h t => by rw [List.map_cons, h, all2_eq t]
theorem rows_as {α : Type} {g : α → V} {f : List V → V} {rows : List (List V)} (h : ∀ r ∈ rows, ∃ a, f r = g a) : ∃ us : List α, rows.map f = us.map g := by
  obtain ⟨us, hus⟩ := all2_rows (R := fun v a => v = g a) h
  exact ⟨us, all2_eq hus⟩
theorem ints_tv {d : Nat} {vs : List V} (h : Tv Tryd.prog (d + 2) 45 vs) : ∃ (x : V) (ns : List Int), vs = [x] ∧ RdA x (ns.map intV) := by
  obtain ⟨x, rows, rfl, hx, _, hr⟩ := tv_slice h u45
  rw [ag3] at hx
  obtain ⟨ns, e⟩ := rows_as (f := mkV false) (g := intV) (rows := rows) fun r hr' => by
    obtain ⟨n, rfl, _⟩ := tv_int (hr r hr') u3
    exact ⟨n, rfl⟩
  rw [e] at hx
  exact ⟨x, ns, rfl, hx⟩
theorem fn_tv {vs : List V} (h : Tv Tryd.prog 6 50 vs) : ∃ c, Nonempty (FnV (.agg vs) c) := by
  obtain ⟨a1, _, rfl, h1, a2, _, rfl, h2, a3, _, rfl, h3, a4, _, rfl, h4, a5, _, rfl, h5, a6, _, rfl, h6, rfl⟩ := tv_fields h s50
  obtain ⟨n1, rfl, _⟩ := tv_int h1 u3
  obtain ⟨n2, rfl, _⟩ := tv_int h2 u3
  obtain ⟨k1, boxes, rfl, q1⟩ := ints_tv h3
  obtain ⟨k2, r2, rfl, q2, _, t2⟩ := tv_slice h4 u46
  obtain ⟨k3, r3, rfl, q3, _, t3⟩ := tv_slice h5 u47
  obtain ⟨k4, r4, rfl, q4, _, t4⟩ := tv_slice h6 u48
  rw [ag105] at q2
  rw [ag52] at q3
  rw [ag107] at q4
  obtain ⟨caps, e2⟩ := rows_as (f := mkV true) (g := capV) (rows := r2) fun r hr => by
    obtain ⟨b1, _, rfl, g1, b2, _, rfl, g2, rfl⟩ := tv_fields (t2 r hr) s105
    obtain ⟨x1, rfl, _⟩ := tv_int g1 u3
    obtain ⟨x2, rfl, _⟩ := tv_int g2 u3
    exact ⟨(x1, x2), rfl⟩
  obtain ⟨code, e3⟩ := rows_as (f := mkV true) (g := inV) (rows := r3) fun r hr => by
    obtain ⟨b1, _, rfl, g1, b2, _, rfl, g2, b3, _, rfl, g3, rfl⟩ := tv_fields (t3 r hr) s52
    obtain ⟨x1, rfl, _⟩ := tv_int g1 u3
    obtain ⟨x2, rfl, _⟩ := tv_int g2 u3
    obtain ⟨x3, rfl, _⟩ := tv_int g3 u3
    exact ⟨(x1, x2, x3), rfl⟩
  obtain ⟨tries, e4⟩ := rows_as (f := mkV true) (g := tryV) (rows := r4) fun r hr => by
    obtain ⟨b1, _, rfl, g1, b2, _, rfl, g2, b3, _, rfl, g3, b4, _, rfl, g4, rfl⟩ := tv_fields (t4 r hr) s107
    obtain ⟨x1, rfl, _⟩ := tv_int g1 u3
    obtain ⟨x2, rfl, _⟩ := tv_int g2 u3
    obtain ⟨x3, rfl, _⟩ := tv_int g3 u3
    obtain ⟨x4, rfl, _⟩ := tv_int g4 u3
    exact ⟨(x1, x2, x3, x4), rfl⟩
  rw [e2] at q2
  rw [e3] at q3
  rw [e4] at q4
  exact ⟨⟨n1, n2, boxes, caps, code, tries⟩, ⟨⟨k1, k2, k3, k4, rfl, q1, q2, q3, q4⟩⟩⟩
theorem im_tv {v0 : List V} (h0 : Tv Tryd.prog 8 26 v0) : ∃ im, Nonempty (ImV (mkV (isAggT Tryd.prog 26) v0) im) := by
  obtain ⟨a, _, rfl, ha, b, _, rfl, hb, c, _, rfl, hc, d, _, rfl, hd, rfl⟩ := tv_fields h0 s26
  obtain ⟨g, rfl, _⟩ := tv_int hd u3
  obtain ⟨fu, fr, rfl, hfu, hfl, hfr⟩ := tv_slice ha u22
  obtain ⟨st, sr, rfl, hst, hsl, hsr⟩ := tv_slice hb u23
  obtain ⟨ke, kr, rfl, hke, hkl, hkr⟩ := tv_slice hc u24
  rw [ag26]
  rw [ag50] at hfu
  rw [ag9] at hst
  rw [ag45] at hke
  obtain ⟨strs, es⟩ := rows_as (f := mkV false) (g := V.str) (rows := sr) fun r hr => by
    obtain ⟨s, rfl, _⟩ := tv_str (hsr r hr) u9
    exact ⟨s, rfl⟩
  obtain ⟨keys, k2⟩ := all2_rows (R := fun v (l : List Int) => RdA v (l.map intV)) (f := mkV false) (rows := kr) fun r hr => by
    obtain ⟨x, ns, rfl, hx⟩ := ints_tv (hkr r hr)
    exact ⟨ns, hx⟩
  obtain ⟨funs, f2⟩ := all2_rows (R := fun v (c : FnM) => Nonempty (FnV v c)) (f := mkV true) (rows := fr) fun r hr => fn_tv (hfr r hr)
  rw [es] at hst
  exact ⟨⟨funs, strs, keys, g⟩, ⟨⟨fu, st, ke, _, _, rfl, hfu, hst, hke, f2, k2⟩⟩⟩
theorem u29 : Tryd.prog.underlying 29 = some (.slice 5) := by kernel_rfl
theorem u5 : Tryd.prog.underlying 5 = some (.int .u8) := by kernel_rfl
theorem ag5 : isAggT Tryd.prog 5 = false := by kernel_rfl
theorem ag29 : isAggT Tryd.prog 29 = false := by kernel_rfl
theorem bytes_tv {v : List V} (h : Tv Tryd.prog 8 29 v) : ∃ (x : V) (L : List Nat), mkV (isAggT Tryd.prog 29) v = x ∧ RdA x (bs L) ∧ ∀ y ∈ L, y < 256 := by
  obtain ⟨x, rows, rfl, hx, _, hr⟩ := tv_slice h u29
  rw [ag5] at hx
  obtain ⟨ns, hns⟩ := all2_rows (R := fun v (n : Nat) => v = .int .u8 (n : Nat) ∧ n < 256) (f := mkV false) (rows := rows) fun r hr' => by
    obtain ⟨n, rfl, hw⟩ := tv_int (hr r hr') u5
    simp [Lit.wf, IntKind.min, IntKind.max, IntKind.signed, IntKind.bits] at hw
    exact ⟨n.toNat, by show V.int .u8 n = _; congr 1; omega, by omega⟩
  have key : ∀ (vs : List V) (us : List Nat), All2 (fun v (n : Nat) => v = .int .u8 (n : Nat) ∧ n < 256) vs us → vs = bs us ∧ ∀ y ∈ us, y < 256 := by
    intro vs us h
    induction h with
    | nil => exact ⟨rfl, fun y hy => by cases hy⟩
    | cons h _ ih =>
      refine ⟨by rw [h.1, ih.1]; rfl, fun y hy => ?_⟩
      rcases List.mem_cons.1 hy with rfl | hy
      · exact h.2
      · exact ih.2 y hy
  obtain ⟨e, hl⟩ := key _ _ hns
  rw [e] at hx
  exact ⟨x, ns, by rw [ag29]; rfl, hx, hl⟩
end Go.Proofs.YtgjobbmbbedecaaDoor

/- Images of few bytes; slices that are cut and appended to. -/
namespace Go.Proofs.YtgjobbmbbedecaaDoor
open Go Go.Abs Go.Proofs
set_option maxRecDepth 100000
set_option maxHeartbeats 4000000
set_option linter.unusedVariables false
set_option linter.unusedSimpArgs false
def imV_val (im : ImM) : ImV (imVal im) im :=
  ⟨repL (im.funs.map fnVal), repL (im.strs.map .str), repL (im.keys.map keyV), im.funs.map fnVal, im.keys.map keyV, rfl, repL_rd _, repL_rd _, repL_rd _,
   All2.map fnVal im.funs fun c _ => ⟨⟨_, _, _, _, rfl, repL_rd _, repL_rd _, repL_rd _, repL_rd _⟩⟩,
   All2.map keyV im.keys fun k _ => repL_rd _⟩
/-- An image of few bytes is not too great -/
theorem mem_flat {α : Type} {f : α → List Nat} {a : α} : ∀ {l : List α}, a ∈ l → (f a).length ≤ (l.flatMap f).length
  | b :: l, h => by
    rw [List.flatMap_cons, List.length_append]
    rcases List.mem_cons.1 h with rfl | h
    · omega
    · have := mem_flat (f := f) h; omega
theorem encL_ge {α : Type} {f : α → List Nat} (hp : ∀ a, 0 < (f a).length) (l : List α) : l.length ≤ (encL f l).length := by
  have := flat_ge hp l
  simp only [encL, List.length_append]; omega
theorem encL_mem {α : Type} {f : α → List Nat} {a : α} {l : List α} (h : a ∈ l) : (f a).length ≤ (encL f l).length := by
  have := mem_flat (f := f) h
  simp only [encL, List.length_append]; omega
theorem sz_of {im : ImM} (h : (encIm im).length ≤ 10000) : imSz im := by
  simp only [encIm, List.length_append] at h
  have h1 := encL_ge encS_pos im.strs
  have h2 := encL_ge (encL_pos encI) im.keys
  have h3 := encL_ge encFn_pos im.funs
  refine ⟨by omega, by omega, by omega, fun s hs => ?_, fun k hk => ?_, fun c hc => ?_⟩
  · have h4 := encL_mem (f := encS) hs
    have : s.size ≤ (encS s).length := by simp only [encS, List.length_append, strB_len]; omega
    omega
  · have h4 := encL_mem (f := encL encI) hk
    have := encL_ge encI_pos k
    omega
  · have h4 := encL_mem (f := encFn) hc
    have a1 := encL_ge encI_pos c.boxes
    have a2 := encL_ge encCap_pos c.caps
    have a3 := encL_ge encIn_pos c.code
    have a4 := encL_ge encTry_pos c.tries
    simp only [encFn, List.length_append] at h4
    exact ⟨by omega, by omega, by omega, by omega⟩
theorem rda_cut {x : V} {L : List Nat} (h : RdA x (bs L)) (H : Hp) : RdB H x L := ⟨h H, fun id lo n es hx hb => by
  have := h []
  rw [hx] at this
  generalize bs L = l at this
  cases this with
  | sl _ _ _ _ h1 _ => simp at h1⟩
theorem app_rowP {es xs : List V} {n : Nat} (hn : n = es.length) (he : wideAll es 1 = true) (hx : wideAll xs 1 = true) (hl : es.length + xs.length ≤ 70368744177664) (s : List Slot) (b : List (List V)) (tl : List LRow) (H : Hp) (d : Nat) (ns : Bool) :
    appendOp Tryd.prog .priv ⟨s, b, ⟨true, ns, es⟩ :: tl⟩ H (some d) 5 (.lr 0 n) xs = some (⟨s.set d (.v (.lr 0 (n + xs.length))), b, ⟨true, ns, es ++ xs⟩ :: tl⟩, H) := by
  subst hn
  rw [app_own (q := ⟨true, ns, es⟩) rfl rfl rfl (elemOk5 hl) (by rw [size5]; exact he) (by rw [size5]; exact hx)]
  rfl
end Go.Proofs.YtgjobbmbbedecaaDoor
