/- The statement on bytes as images. -/
import Derived.Test.YtgjobbmbbedecaaDoorQM3
namespace Go.Proofs.YtgjobbmbbedecaaDoor
open Go Go.Abs Go.Proofs
set_option maxRecDepth 100000
set_option maxHeartbeats 4000000
set_option linter.unusedVariables false
set_option linter.unusedSimpArgs false
theorem codeDecodes_eq {x : V} {L : List Nat} (hx : RdA x (bs L)) (hL : ∀ y ∈ L, y < 256) : wpCall EW 4 [x] [] (fun out H' => out = .ret (.bool true) false) := by
  have z4 := fun st => (hx []).shutIn st
  have hxl : ∀ (H' : Hp), lenK H' (.slice 5) x = some (.int .i64 (L.length : Nat)) := fun H' => by
    have := (hx H').len 5
    rw [bs_len] at this; exact this
  have hxo := (hx []).ok
  refine runs f4 b4 r4 n4 _ _ ?_
  simp only [bodyOf, Tryd.f4, Option.getD_some]
  cases hl5 : decide ((5000 : Int) < (L.length : Int)) with
  | true =>
    simp only [WW, partV, eqCells, eqLf, minV, maxV, ifcV, zaa, zab, zac, zad, zae, zaf, zag, zah, zai, ofConst, ofConst1, List.replicate, zaj, zak, loadOp, Go.Abs.loadCells, binV, zal, pickV, zam, zan, zao, zap, zaq, zar, zas, zat, zau, outR, resAll, resOne, zav, zaw, zax, zay, zaz, zba, zbb, zbc, zbd, zbe, zbf, zbg, zbh, zbi, zbj, zbk, storeOp, storeCell, overlay, zbl, zbm, zbn, lookupOp, keyT, okRes, mapUpdateOp, zbo, zbp, zbq, zbr, zbs, zbt, zbu, Nat.reduceSub, Nat.reduceAdd, Int.reduceLT, Int.reduceLE, Int.reduceAdd, Int.reduceSub, Int.reduceToNat, Int.reduceBEq, Int.reduceBNe, Int.reduceMul, Nat.reduceBEq, Nat.reduceBNe, Nat.reduceLT, Nat.reduceLeDiff, Nat.reduceMul, Nat.reduceEqDiff, WD, effB, effH, isPriv, isHeap, isImm, zbx, zby, zbz, chkO, setD, dslot, zca, zcb, zcc, zcd, ptrCells_some, F4, z4, hxl, hl5, liveW]
  | false =>
  have hl : L.length ≤ 5000 := by have := of_decide_eq_false hl5; omega
  have hap1 := fun s b tl H d => app_rowP (es := []) (xs := bs L) (n := 0) rfl rfl (wide_bs _) (by rw [bs_len]; simp; omega) s b tl H d false
  have htk : (bs L).take L.length = bs L := List.take_of_length_le (by rw [bs_len]; exact Nat.le_refl _)
  have hsrc := (hx []).srcSl
  have d1 : ∀ (H : Hp) (K : Out → Hp → Prop), (∀ H', K (.ret (.tup (decT L (decS L))) false) H') → wpCall (evW Tryd.prog notes) 16 [.rsl (bs L)] H K := fun H K hK => by
    refine wpCall_of (decode16 (fun H' _ => rda_cut (fun _ => .rsl _) H') hL (by omega)) ?_
    rintro out H' ⟨rfl, _⟩
    exact hK H'
  have d2 : ∀ (H : Hp) (K : Out → Hp → Prop), (∀ H', K (.ret (.tup (decT L (decS L))) false) H') → wpCall (evW Tryd.prog notes) 17 [x] H K := fun H K hK => by
    refine wpCall_of (ddecode17 (fun H' _ => rda_cut hx H') hL (by omega)) ?_
    rintro out H' ⟨rfl, _⟩
    exact hK H'
  obtain ⟨s0, hs0⟩ := strOf_bs L
  have hnone : ∀ H K, wpCall (evW Tryd.prog notes) 18 [imVal noIm, imVal noIm] H K = K (.ret (.bool true) false) H := fun H K => wpCall_eq (same_im (imV_val noIm) (imV_val noIm) ⟨by simp [noIm], by simp [noIm], by simp [noIm], by simp [noIm], by simp [noIm], by simp [noIm]⟩ H)
  have hvn : imVal noIm = .agg [.nils, .nils, .nils, .int .i64 0] := rfl
  rw [hvn] at hnone
  simp only [WW, partV, eqCells, eqLf, minV, maxV, ifcV, zaa, zab, zac, zad, zae, zaf, zag, zah, zai, ofConst, ofConst1, List.replicate, zaj, zak, loadOp, Go.Abs.loadCells, binV, zal, pickV, zam, zan, zao, zap, zaq, zar, zas, zat, zau, outR, resAll, resOne, zav, zaw, zax, zay, zaz, zba, zbb, zbc, zbd, zbe, zbf, zbg, zbh, zbi, zbj, zbk, storeOp, storeCell, overlay, zbl, zbm, zbn, lookupOp, keyT, okRes, mapUpdateOp, zbo, zbp, zbq, zbr, zbs, zbt, zbu, Nat.reduceSub, Nat.reduceAdd, Int.reduceLT, Int.reduceLE, Int.reduceAdd, Int.reduceSub, Int.reduceToNat, Int.reduceBEq, Int.reduceBNe, Int.reduceMul, Nat.reduceBEq, Nat.reduceBNe, Nat.reduceLT, Nat.reduceLeDiff, Nat.reduceMul, Nat.reduceEqDiff, WD, effB, effH, isPriv, isHeap, isImm, zbx, zby, zbz, chkO, setD, dslot, zca, zcb, zcc, zcd, ptrCells_some, F4, z4, hxl, hl5, buildSliceV, lits, srcV_eq, srcK_sl, srcK_str, srcSl_nils, srcSl_rsl, srcSl_sl, frow, zbv, zbw, List.all_nil, List.all_cons, rowV, Bool.false_and, Bool.and_false, ne_eq, not_false_eq_true, grows_lr, callOut_t, hsrc, hap1, bs_len, htk]
  refine d1 _ _ fun H1 => ?_
  cases he : (decS L).2.e with
  | zero =>
    obtain ⟨a1, a2, a3⟩ := decS_can hL he
    have hT : decT L (decS L) = [imVal (decS L).1, .int .i64 0, .int .i64 (L.length : Nat)] := by simp only [decT, he]
    have hsz := sz_of (im := (decS L).1) (by rw [a2]; omega)
    have hsm : ∀ H K, wpCall (evW Tryd.prog notes) 18 [imVal (decS L).1, imVal (decS L).1] H K = K (.ret (.bool true) false) H := fun H K => wpCall_eq (same_im (imV_val _) (imV_val _) hsz H)
    rw [hT]
    rw [hT] at d2
    generalize (decS L).1 = im at *
    simp only [imVal] at d2 hsm ⊢
    simp only [WW, partV, eqCells, eqLf, minV, maxV, ifcV, zaa, zab, zac, zad, zae, zaf, zag, zah, zai, ofConst, ofConst1, List.replicate, zaj, zak, loadOp, Go.Abs.loadCells, binV, zal, pickV, zam, zan, zao, zap, zaq, zar, zas, zat, zau, outR, resAll, resOne, zav, zaw, zax, zay, zaz, zba, zbb, zbc, zbd, zbe, zbf, zbg, zbh, zbi, zbj, zbk, storeOp, storeCell, overlay, zbl, zbm, zbn, lookupOp, keyT, okRes, mapUpdateOp, zbo, zbp, zbq, zbr, zbs, zbt, zbu, Nat.reduceSub, Nat.reduceAdd, Int.reduceLT, Int.reduceLE, Int.reduceAdd, Int.reduceSub, Int.reduceToNat, Int.reduceBEq, Int.reduceBNe, Int.reduceMul, Nat.reduceBEq, Nat.reduceBNe, Nat.reduceLT, Nat.reduceLeDiff, Nat.reduceMul, Nat.reduceEqDiff, WD, effB, effH, isPriv, isHeap, isImm, zbx, zby, zbz, chkO, setD, dslot, zca, zcb, zcc, zcd, ptrCells_some, F4, z4, repL_ok, repL_cells, repL_shut]
    refine d2 _ _ fun H2 => ?_
    have hc2 := (Rd.rsl (H := H2) (bs L)).cont
    simp only [WW, partV, eqCells, eqLf, minV, maxV, ifcV, zaa, zab, zac, zad, zae, zaf, zag, zah, zai, ofConst, ofConst1, List.replicate, zaj, zak, loadOp, Go.Abs.loadCells, binV, zal, pickV, zam, zan, zao, zap, zaq, zar, zas, zat, zau, outR, resAll, resOne, zav, zaw, zax, zay, zaz, zba, zbb, zbc, zbd, zbe, zbf, zbg, zbh, zbi, zbj, zbk, storeOp, storeCell, overlay, zbl, zbm, zbn, lookupOp, keyT, okRes, mapUpdateOp, zbo, zbp, zbq, zbr, zbs, zbt, zbu, Nat.reduceSub, Nat.reduceAdd, Int.reduceLT, Int.reduceLE, Int.reduceAdd, Int.reduceSub, Int.reduceToNat, Int.reduceBEq, Int.reduceBNe, Int.reduceMul, Nat.reduceBEq, Nat.reduceBNe, Nat.reduceLT, Nat.reduceLeDiff, Nat.reduceMul, Nat.reduceEqDiff, WD, effB, effH, isPriv, isHeap, isImm, zbx, zby, zbz, chkO, setD, dslot, zca, zcb, zcc, zcd, ptrCells_some, F4, z4, repL_ok, repL_cells, repL_shut, hsm, numW, convertOp, buildSliceV, lits, srcV_eq, srcK_sl, srcK_str, srcSl_nils, srcSl_rsl, srcSl_sl, frow, zbv, zbw, List.all_nil, List.all_cons, rowV, Bool.false_and, Bool.and_false, ne_eq, not_false_eq_true, grows_lr, callOut_t, htk, bs_len, hc2, (hx H2).cont, hs0, liveW]
  | succ e =>
    have hT : decT L (decS L) = [.agg [.nils, .nils, .nils, .int .i64 0], .int .i64 ((e + 1 : Nat) : Int), .int .i64 ((decS L).2.at_ : Nat)] := by simp only [decT, he, hvn]
    rw [hT]
    rw [hT] at d2
    simp only [WW, partV, eqCells, eqLf, minV, maxV, ifcV, zaa, zab, zac, zad, zae, zaf, zag, zah, zai, ofConst, ofConst1, List.replicate, zaj, zak, loadOp, Go.Abs.loadCells, binV, zal, pickV, zam, zan, zao, zap, zaq, zar, zas, zat, zau, outR, resAll, resOne, zav, zaw, zax, zay, zaz, zba, zbb, zbc, zbd, zbe, zbf, zbg, zbh, zbi, zbj, zbk, storeOp, storeCell, overlay, zbl, zbm, zbn, lookupOp, keyT, okRes, mapUpdateOp, zbo, zbp, zbq, zbr, zbs, zbt, zbu, Nat.reduceSub, Nat.reduceAdd, Int.reduceLT, Int.reduceLE, Int.reduceAdd, Int.reduceSub, Int.reduceToNat, Int.reduceBEq, Int.reduceBNe, Int.reduceMul, Nat.reduceBEq, Nat.reduceBNe, Nat.reduceLT, Nat.reduceLeDiff, Nat.reduceMul, Nat.reduceEqDiff, WD, effB, effH, isPriv, isHeap, isImm, zbx, zby, zbz, chkO, setD, dslot, zca, zcb, zcc, zcd, ptrCells_some, F4, z4]
    refine d2 _ _ fun H2 => ?_
    have hc2 := (Rd.rsl (H := H2) (bs L)).cont
    simp only [WW, partV, eqCells, eqLf, minV, maxV, ifcV, zaa, zab, zac, zad, zae, zaf, zag, zah, zai, ofConst, ofConst1, List.replicate, zaj, zak, loadOp, Go.Abs.loadCells, binV, zal, pickV, zam, zan, zao, zap, zaq, zar, zas, zat, zau, outR, resAll, resOne, zav, zaw, zax, zay, zaz, zba, zbb, zbc, zbd, zbe, zbf, zbg, zbh, zbi, zbj, zbk, storeOp, storeCell, overlay, zbl, zbm, zbn, lookupOp, keyT, okRes, mapUpdateOp, zbo, zbp, zbq, zbr, zbs, zbt, zbu, Nat.reduceSub, Nat.reduceAdd, Int.reduceLT, Int.reduceLE, Int.reduceAdd, Int.reduceSub, Int.reduceToNat, Int.reduceBEq, Int.reduceBNe, Int.reduceMul, Nat.reduceBEq, Nat.reduceBNe, Nat.reduceLT, Nat.reduceLeDiff, Nat.reduceMul, Nat.reduceEqDiff, WD, effB, effH, isPriv, isHeap, isImm, zbx, zby, zbz, chkO, setD, dslot, zca, zcb, zcc, zcd, ptrCells_some, F4, z4, hnone, numW, convertOp, buildSliceV, lits, srcV_eq, srcK_sl, srcK_str, srcSl_nils, srcSl_rsl, srcSl_sl, frow, zbv, zbw, List.all_nil, List.all_cons, rowV, Bool.false_and, Bool.and_false, ne_eq, not_false_eq_true, grows_lr, callOut_t, htk, bs_len, hc2, (hx H2).cont, hs0, liveW]
theorem codeDecodes_main {v0 : List V} (h0 : Tv Tryd.prog 8 29 v0) :
    wpCall (evW Tryd.prog notes) 4 [mkV (isAggT Tryd.prog 29) v0] [] (fun out H' => out = .ret (.bool true) false) := by
  obtain ⟨x, L, e, hx, hL⟩ := bytes_tv h0
  rw [e]
  exact codeDecodes_eq hx hL
end Go.Proofs.YtgjobbmbbedecaaDoor
