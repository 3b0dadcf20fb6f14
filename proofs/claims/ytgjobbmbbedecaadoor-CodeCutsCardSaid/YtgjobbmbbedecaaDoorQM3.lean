/- A part of the proofs over this seat. -/
import Derived.Test.YtgjobbmbbedecaaDoorQM1
import Derived.Test.YtgjobbmbbedecaaDoorQM2
/- Images that are the same are told to be so. -/
namespace Go.Proofs.YtgjobbmbbedecaaDoor
open Go Go.Abs Go.Proofs
set_option maxRecDepth 100000
set_option maxHeartbeats 4000000
set_option linter.unusedVariables false
set_option linter.unusedSimpArgs false
theorem same_ints {v1 v2 : V} {ns : List Int} (h1 : RdA v1 (ns.map intV)) (h2 : RdA v2 (ns.map intV)) (hn : ns.length ≤ 4000000) (H : Hp) : EW 55 [v1, v2] H = some (.ret (.bool true) false, H) := by
  refine eqOf (runs f55 b55 r55 n55 _ _ ?_)
  simp only [bodyOf, Tryd.f55, Option.getD_some]
  have z1 := fun st => (h1 []).shutIn st
  have z2 := fun st => (h2 []).shutIn st
  have hlm : (ns.map intV).length = ns.length := List.length_map ..
  simp only [WW, partV, eqCells, eqLf, minV, maxV, ifcV, zaa, zab, zac, zad, zae, zaf, zag, zah, zai, ofConst, ofConst1, List.replicate, zaj, zak, loadOp, Go.Abs.loadCells, binV, zal, pickV, zam, zan, zao, zap, zaq, zar, zas, zat, zau, outR, resAll, resOne, zav, zaw, zax, zay, zaz, zba, zbb, zbc, zbd, zbe, zbf, zbg, zbh, zbi, zbj, zbk, storeOp, storeCell, overlay, zbl, zbm, zbn, lookupOp, keyT, okRes, mapUpdateOp, zbo, zbp, zbq, zbr, zbs, zbt, zbu, Nat.reduceSub, Nat.reduceAdd, Int.reduceLT, Int.reduceLE, Int.reduceAdd, Int.reduceSub, Int.reduceToNat, Int.reduceBEq, Int.reduceBNe, Int.reduceMul, Nat.reduceBEq, Nat.reduceBNe, Nat.reduceLT, Nat.reduceLeDiff, Nat.reduceMul, Nat.reduceEqDiff, WD, effB, effH, isPriv, isHeap, isImm, zbx, zby, zbz, chkO, setD, dslot, zca, zcb, zcc, zcd, ptrCells_some, F55, z1, z2, (h1 H).len, (h2 H).len, hlm, bne_self_eq_false]
  refine wC_loop _ (fun k st' H' => ∃ (i : Nat), st' = ⟨L55_4 (.v v1) (.v v2) (.v (.int .i64 i)), [], []⟩ ∧ H' = H ∧ i ≤ ns.length ∧ k = ns.length - i) ns.length ⟨0, ?_, rfl, by omega, by omega⟩ ?_
  · simp only [WN, firstReg, growAll, zbv, zbw, norm, killS, zag, zah, zaa, zab, zbl, zat, zad, growOne, zae, zaf, zac, zas, zak, Nat.reduceLT, Nat.reduceAdd, zbj, zav, F55, L55_4, (h1 []).clip2, (h2 []).clip2]
    rfl
  · rintro k st' H ⟨i, rfl, rfl, hi, rfl⟩
    simp only [L55_4]
    simp only [WW, partV, eqCells, eqLf, minV, maxV, ifcV, zaa, zab, zac, zad, zae, zaf, zag, zah, zai, ofConst, ofConst1, List.replicate, zaj, zak, loadOp, Go.Abs.loadCells, binV, zal, pickV, zam, zan, zao, zap, zaq, zar, zas, zat, zau, outR, resAll, resOne, zav, zaw, zax, zay, zaz, zba, zbb, zbc, zbd, zbe, zbf, zbg, zbh, zbi, zbj, zbk, storeOp, storeCell, overlay, zbl, zbm, zbn, lookupOp, keyT, okRes, mapUpdateOp, zbo, zbp, zbq, zbr, zbs, zbt, zbu, Nat.reduceSub, Nat.reduceAdd, Int.reduceLT, Int.reduceLE, Int.reduceAdd, Int.reduceSub, Int.reduceToNat, Int.reduceBEq, Int.reduceBNe, Int.reduceMul, Nat.reduceBEq, Nat.reduceBNe, Nat.reduceLT, Nat.reduceLeDiff, Nat.reduceMul, Nat.reduceEqDiff, WD, effB, effH, isPriv, isHeap, isImm, zbx, zby, zbz, chkO, setD, dslot, zca, zcb, zcc, zcd, ptrCells_some, F55, z1, z2, (h1 H).len, (h2 H).len, hlm]
    refine cSplit (fun hlt => ?_) (fun hge => ?_)
    · have hi2 : i < ns.length := by have := of_decide_eq_true hlt; omega
      have hs : ns[i]? = some ns[i] := List.getElem?_eq_getElem hi2
      generalize ns[i] = n at hs
      simp only [hlt]
      have e1 := (h1 H).at_ (sz := 1) (i := i) (e := .int .i64 n) (by rw [List.getElem?_map, hs]; rfl) rfl
      have e2 := (h2 H).at_ (sz := 1) (i := i) (e := .int .i64 n) (by rw [List.getElem?_map, hs]; rfl) rfl
      simp only [WW, partV, eqCells, eqLf, minV, maxV, ifcV, zaa, zab, zac, zad, zae, zaf, zag, zah, zai, ofConst, ofConst1, List.replicate, zaj, zak, loadOp, Go.Abs.loadCells, binV, zal, pickV, zam, zan, zao, zap, zaq, zar, zas, zat, zau, outR, resAll, resOne, zav, zaw, zax, zay, zaz, zba, zbb, zbc, zbd, zbe, zbf, zbg, zbh, zbi, zbj, zbk, storeOp, storeCell, overlay, zbl, zbm, zbn, lookupOp, keyT, okRes, mapUpdateOp, zbo, zbp, zbq, zbr, zbs, zbt, zbu, Nat.reduceSub, Nat.reduceAdd, Int.reduceLT, Int.reduceLE, Int.reduceAdd, Int.reduceSub, Int.reduceToNat, Int.reduceBEq, Int.reduceBNe, Int.reduceMul, Nat.reduceBEq, Nat.reduceBNe, Nat.reduceLT, Nat.reduceLeDiff, Nat.reduceMul, Nat.reduceEqDiff, WD, effB, effH, isPriv, isHeap, isImm, zbx, zby, zbz, chkO, setD, dslot, zca, zcb, zcc, zcd, ptrCells_some, F55]
      refine wC_dr alts55_6 (by kernel_rfl) ?_
      simp only [WW, partV, eqCells, eqLf, minV, maxV, ifcV, zaa, zab, zac, zad, zae, zaf, zag, zah, zai, ofConst, ofConst1, List.replicate, zaj, zak, loadOp, Go.Abs.loadCells, binV, zal, pickV, zam, zan, zao, zap, zaq, zar, zas, zat, zau, outR, resAll, resOne, zav, zaw, zax, zay, zaz, zba, zbb, zbc, zbd, zbe, zbf, zbg, zbh, zbi, zbj, zbk, storeOp, storeCell, overlay, zbl, zbm, zbn, lookupOp, keyT, okRes, mapUpdateOp, zbo, zbp, zbq, zbr, zbs, zbt, zbu, Nat.reduceSub, Nat.reduceAdd, Int.reduceLT, Int.reduceLE, Int.reduceAdd, Int.reduceSub, Int.reduceToNat, Int.reduceBEq, Int.reduceBNe, Int.reduceMul, Nat.reduceBEq, Nat.reduceBNe, Nat.reduceLT, Nat.reduceLeDiff, Nat.reduceMul, Nat.reduceEqDiff, WD, effB, effH, isPriv, isHeap, isImm, zbx, zby, zbz, chkO, setD, dslot, zca, zcb, zcc, zcd, ptrCells_some, F55, z1, z2, e1.at1 (h1 H), e1.cells, e2.at1 (h2 H), e2.cells, alts55_6, bne_self_eq_false]
      refine ⟨ns.length - (i + 1), by omega, i + 1, ?_, by omega, rfl⟩
      simp only [WN, firstReg, growAll, zbv, zbw, norm, killS, zag, zah, zaa, zab, zbl, zat, zad, growOne, zae, zaf, zac, zas, zak, Nat.reduceLT, Nat.reduceAdd, zbj, zav, F55, (h1 []).clip2, (h2 []).clip2]
      rw [IntWalk.i64_in ((i : Int) + 1) (by omega)]; rfl
    · simp only [hge]
      simp only [WW, partV, eqCells, eqLf, minV, maxV, ifcV, zaa, zab, zac, zad, zae, zaf, zag, zah, zai, ofConst, ofConst1, List.replicate, zaj, zak, loadOp, Go.Abs.loadCells, binV, zal, pickV, zam, zan, zao, zap, zaq, zar, zas, zat, zau, outR, resAll, resOne, zav, zaw, zax, zay, zaz, zba, zbb, zbc, zbd, zbe, zbf, zbg, zbh, zbi, zbj, zbk, storeOp, storeCell, overlay, zbl, zbm, zbn, lookupOp, keyT, okRes, mapUpdateOp, zbo, zbp, zbq, zbr, zbs, zbt, zbu, Nat.reduceSub, Nat.reduceAdd, Int.reduceLT, Int.reduceLE, Int.reduceAdd, Int.reduceSub, Int.reduceToNat, Int.reduceBEq, Int.reduceBNe, Int.reduceMul, Nat.reduceBEq, Nat.reduceBNe, Nat.reduceLT, Nat.reduceLeDiff, Nat.reduceMul, Nat.reduceEqDiff, WD, effB, effH, isPriv, isHeap, isImm, zbx, zby, zbz, chkO, setD, dslot, zca, zcb, zcc, zcd, ptrCells_some, F55]
theorem same_intsW {v1 v2 : V} {ns : List Int} (h1 : RdA v1 (ns.map intV)) (h2 : RdA v2 (ns.map intV)) (hn : ns.length ≤ 4000000) (H : Hp) (K : Out → Hp → Prop) : wpCall (evW Tryd.prog notes) 55 [v1, v2] H K = K (.ret (.bool true) false) H := wpCall_eq (same_ints h1 h2 hn H)
theorem same_code {v u : V} {c : FnM} (hq : Nonempty (FnV v c)) (hp : Nonempty (FnV u c)) (hs : fnSz c) (H : Hp) : EW 56 [v, u] H = some (.ret (.bool true) false, H) := by
  obtain ⟨⟨k1, k2, k3, k4, rfl, q1, q2, q3, q4⟩⟩ := hq
  obtain ⟨⟨j1, j2, j3, j4, rfl, p1, p2, p3, p4⟩⟩ := hp
  obtain ⟨s1, s2, s3, s4⟩ := hs
  have zq1 := fun st => (q1 []).shutIn st
  have yq1 := fun n => (q1 []).clip n
  have cq1 := (q1 []).cells1
  have dq1 := (q1 []).ok
  have zq2 := fun st => (q2 []).shutIn st
  have yq2 := fun n => (q2 []).clip n
  have cq2 := (q2 []).cells1
  have dq2 := (q2 []).ok
  have zq3 := fun st => (q3 []).shutIn st
  have yq3 := fun n => (q3 []).clip n
  have cq3 := (q3 []).cells1
  have dq3 := (q3 []).ok
  have zq4 := fun st => (q4 []).shutIn st
  have yq4 := fun n => (q4 []).clip n
  have cq4 := (q4 []).cells1
  have dq4 := (q4 []).ok
  have zp1 := fun st => (p1 []).shutIn st
  have yp1 := fun n => (p1 []).clip n
  have cp1 := (p1 []).cells1
  have dp1 := (p1 []).ok
  have zp2 := fun st => (p2 []).shutIn st
  have yp2 := fun n => (p2 []).clip n
  have cp2 := (p2 []).cells1
  have dp2 := (p2 []).ok
  have zp3 := fun st => (p3 []).shutIn st
  have yp3 := fun n => (p3 []).clip n
  have cp3 := (p3 []).cells1
  have dp3 := (p3 []).ok
  have zp4 := fun st => (p4 []).shutIn st
  have yp4 := fun n => (p4 []).clip n
  have cp4 := (p4 []).cells1
  have dp4 := (p4 []).ok
  have hnw := same_intsW q1 p1 (by omega)
  have lm2 : (c.caps.map capV).length = c.caps.length := List.length_map ..
  have lm3 : (c.code.map inV).length = c.code.length := List.length_map ..
  have lm4 : (c.tries.map tryV).length = c.tries.length := List.length_map ..
  refine eqOf (runs f56 b56 r56 n56 _ _ ?_)
  simp only [bodyOf, Tryd.f56, Option.getD_some]
  simp only [WW, partV, eqCells, eqLf, minV, maxV, ifcV, zaa, zab, zac, zad, zae, zaf, zag, zah, zai, ofConst, ofConst1, List.replicate, zaj, zak, loadOp, Go.Abs.loadCells, binV, zal, pickV, zam, zan, zao, zap, zaq, zar, zas, zat, zau, outR, resAll, resOne, zav, zaw, zax, zay, zaz, zba, zbb, zbc, zbd, zbe, zbf, zbg, zbh, zbi, zbj, zbk, storeOp, storeCell, overlay, zbl, zbm, zbn, lookupOp, keyT, okRes, mapUpdateOp, zbo, zbp, zbq, zbr, zbs, zbt, zbu, Nat.reduceSub, Nat.reduceAdd, Int.reduceLT, Int.reduceLE, Int.reduceAdd, Int.reduceSub, Int.reduceToNat, Int.reduceBEq, Int.reduceBNe, Int.reduceMul, Nat.reduceBEq, Nat.reduceBNe, Nat.reduceLT, Nat.reduceLeDiff, Nat.reduceMul, Nat.reduceEqDiff, WD, effB, effH, isPriv, isHeap, isImm, zbx, zby, zbz, chkO, setD, dslot, zca, zcb, zcc, zcd, ptrCells_some, F56, zq1, zq2, zq3, zq4, zp1, zp2, zp3, zp4, cq1, cq2, cq3, cq4, cp1, cp2, cp3, cp4, dq1, dq2, dq3, dq4, dp1, dp2, dp3, dp4, hnw, bne_self_eq_false, (q2 H).len, (q3 H).len, (q4 H).len, (p2 H).len, (p3 H).len, (p4 H).len, lm2, lm3, lm4]
  refine wC_loop _ (fun k st' H' => ∃ (i : Nat), st' = ⟨L56_4 (.box 0) (.box 1) (.v (.int .i64 i)), [[.int .i64 c.params, .int .i64 c.slots, k1, k2, k3, k4], [.int .i64 c.params, .int .i64 c.slots, j1, j2, j3, j4]], []⟩ ∧ H' = H ∧ i ≤ c.caps.length ∧ k = c.caps.length - i) c.caps.length ⟨0, ?_, rfl, by omega, by omega⟩ ?_
  · simp only [WN, firstReg, growAll, zbv, zbw, norm, killS, zag, zah, zaa, zab, zbl, zat, zad, growOne, zae, zaf, zac, zas, zak, Nat.reduceLT, Nat.reduceAdd, zbj, zav, F56, L56_4, yq1, yq2, yq3, yq4, yp1, yp2, yp3, yp4]
    rfl
  · rintro k st' H ⟨i, rfl, rfl, hi, rfl⟩
    simp only [L56_4]
    simp only [WW, partV, eqCells, eqLf, minV, maxV, ifcV, zaa, zab, zac, zad, zae, zaf, zag, zah, zai, ofConst, ofConst1, List.replicate, zaj, zak, loadOp, Go.Abs.loadCells, binV, zal, pickV, zam, zan, zao, zap, zaq, zar, zas, zat, zau, outR, resAll, resOne, zav, zaw, zax, zay, zaz, zba, zbb, zbc, zbd, zbe, zbf, zbg, zbh, zbi, zbj, zbk, storeOp, storeCell, overlay, zbl, zbm, zbn, lookupOp, keyT, okRes, mapUpdateOp, zbo, zbp, zbq, zbr, zbs, zbt, zbu, Nat.reduceSub, Nat.reduceAdd, Int.reduceLT, Int.reduceLE, Int.reduceAdd, Int.reduceSub, Int.reduceToNat, Int.reduceBEq, Int.reduceBNe, Int.reduceMul, Nat.reduceBEq, Nat.reduceBNe, Nat.reduceLT, Nat.reduceLeDiff, Nat.reduceMul, Nat.reduceEqDiff, WD, effB, effH, isPriv, isHeap, isImm, zbx, zby, zbz, chkO, setD, dslot, zca, zcb, zcc, zcd, ptrCells_some, F56, zq2, zp2, (q2 H).len, lm2]
    refine cSplit (fun hlt => ?_) (fun hge => ?_)
    · have hi2 : i < c.caps.length := by have := of_decide_eq_true hlt; omega
      have hs : c.caps[i]? = some c.caps[i] := List.getElem?_eq_getElem hi2
      generalize c.caps[i] = y at hs
      simp only [hlt]
      have e1 := (q2 H).at_ (sz := 2) (i := i) (e := .agg [.int .i64 y.1, .int .i64 y.2]) (by rw [List.getElem?_map, hs]; rfl) rfl
      have e2 := (p2 H).at_ (sz := 2) (i := i) (e := .agg [.int .i64 y.1, .int .i64 y.2]) (by rw [List.getElem?_map, hs]; rfl) rfl
      simp only [WW, partV, eqCells, eqLf, minV, maxV, ifcV, zaa, zab, zac, zad, zae, zaf, zag, zah, zai, ofConst, ofConst1, List.replicate, zaj, zak, loadOp, Go.Abs.loadCells, binV, zal, pickV, zam, zan, zao, zap, zaq, zar, zas, zat, zau, outR, resAll, resOne, zav, zaw, zax, zay, zaz, zba, zbb, zbc, zbd, zbe, zbf, zbg, zbh, zbi, zbj, zbk, storeOp, storeCell, overlay, zbl, zbm, zbn, lookupOp, keyT, okRes, mapUpdateOp, zbo, zbp, zbq, zbr, zbs, zbt, zbu, Nat.reduceSub, Nat.reduceAdd, Int.reduceLT, Int.reduceLE, Int.reduceAdd, Int.reduceSub, Int.reduceToNat, Int.reduceBEq, Int.reduceBNe, Int.reduceMul, Nat.reduceBEq, Nat.reduceBNe, Nat.reduceLT, Nat.reduceLeDiff, Nat.reduceMul, Nat.reduceEqDiff, WD, effB, effH, isPriv, isHeap, isImm, zbx, zby, zbz, chkO, setD, dslot, zca, zcb, zcc, zcd, ptrCells_some, F56]
      refine wC_dr alts56_6 (by kernel_rfl) ?_
      simp only [WW, partV, eqCells, eqLf, minV, maxV, ifcV, zaa, zab, zac, zad, zae, zaf, zag, zah, zai, ofConst, ofConst1, List.replicate, zaj, zak, loadOp, Go.Abs.loadCells, binV, zal, pickV, zam, zan, zao, zap, zaq, zar, zas, zat, zau, outR, resAll, resOne, zav, zaw, zax, zay, zaz, zba, zbb, zbc, zbd, zbe, zbf, zbg, zbh, zbi, zbj, zbk, storeOp, storeCell, overlay, zbl, zbm, zbn, lookupOp, keyT, okRes, mapUpdateOp, zbo, zbp, zbq, zbr, zbs, zbt, zbu, Nat.reduceSub, Nat.reduceAdd, Int.reduceLT, Int.reduceLE, Int.reduceAdd, Int.reduceSub, Int.reduceToNat, Int.reduceBEq, Int.reduceBNe, Int.reduceMul, Nat.reduceBEq, Nat.reduceBNe, Nat.reduceLT, Nat.reduceLeDiff, Nat.reduceMul, Nat.reduceEqDiff, WD, effB, effH, isPriv, isHeap, isImm, zbx, zby, zbz, chkO, setD, dslot, zca, zcb, zcc, zcd, ptrCells_some, F56, zq2, zp2, e1.at1 (q2 H), e1.cells, e2.at1 (p2 H), e2.cells, alts56_6]
      refine ⟨c.caps.length - (i + 1), by omega, i + 1, ?_, by omega, rfl⟩
      simp only [WN, firstReg, growAll, zbv, zbw, norm, killS, zag, zah, zaa, zab, zbl, zat, zad, growOne, zae, zaf, zac, zas, zak, Nat.reduceLT, Nat.reduceAdd, zbj, zav, F56, yq1, yq2, yq3, yq4, yp1, yp2, yp3, yp4]
      rw [IntWalk.i64_in ((i : Int) + 1) (by omega)]; rfl
    · simp only [hge]
      simp only [WW, partV, eqCells, eqLf, minV, maxV, ifcV, zaa, zab, zac, zad, zae, zaf, zag, zah, zai, ofConst, ofConst1, List.replicate, zaj, zak, loadOp, Go.Abs.loadCells, binV, zal, pickV, zam, zan, zao, zap, zaq, zar, zas, zat, zau, outR, resAll, resOne, zav, zaw, zax, zay, zaz, zba, zbb, zbc, zbd, zbe, zbf, zbg, zbh, zbi, zbj, zbk, storeOp, storeCell, overlay, zbl, zbm, zbn, lookupOp, keyT, okRes, mapUpdateOp, zbo, zbp, zbq, zbr, zbs, zbt, zbu, Nat.reduceSub, Nat.reduceAdd, Int.reduceLT, Int.reduceLE, Int.reduceAdd, Int.reduceSub, Int.reduceToNat, Int.reduceBEq, Int.reduceBNe, Int.reduceMul, Nat.reduceBEq, Nat.reduceBNe, Nat.reduceLT, Nat.reduceLeDiff, Nat.reduceMul, Nat.reduceEqDiff, WD, effB, effH, isPriv, isHeap, isImm, zbx, zby, zbz, chkO, setD, dslot, zca, zcb, zcc, zcd, ptrCells_some, F56]
      refine wC_loop _ (fun k st' H' => ∃ (i : Nat), st' = ⟨L56_9 (.box 0) (.box 1) (.v (.int .i64 i)), [[.int .i64 c.params, .int .i64 c.slots, k1, k2, k3, k4], [.int .i64 c.params, .int .i64 c.slots, j1, j2, j3, j4]], []⟩ ∧ H' = H ∧ i ≤ c.code.length ∧ k = c.code.length - i) c.code.length ⟨0, ?_, rfl, by omega, by omega⟩ ?_
      · simp only [WN, firstReg, growAll, zbv, zbw, norm, killS, zag, zah, zaa, zab, zbl, zat, zad, growOne, zae, zaf, zac, zas, zak, Nat.reduceLT, Nat.reduceAdd, zbj, zav, F56, L56_9, yq1, yq2, yq3, yq4, yp1, yp2, yp3, yp4]
        rfl
      · rintro k st' H ⟨i, rfl, rfl, hi, rfl⟩
        simp only [L56_9]
        simp only [WW, partV, eqCells, eqLf, minV, maxV, ifcV, zaa, zab, zac, zad, zae, zaf, zag, zah, zai, ofConst, ofConst1, List.replicate, zaj, zak, loadOp, Go.Abs.loadCells, binV, zal, pickV, zam, zan, zao, zap, zaq, zar, zas, zat, zau, outR, resAll, resOne, zav, zaw, zax, zay, zaz, zba, zbb, zbc, zbd, zbe, zbf, zbg, zbh, zbi, zbj, zbk, storeOp, storeCell, overlay, zbl, zbm, zbn, lookupOp, keyT, okRes, mapUpdateOp, zbo, zbp, zbq, zbr, zbs, zbt, zbu, Nat.reduceSub, Nat.reduceAdd, Int.reduceLT, Int.reduceLE, Int.reduceAdd, Int.reduceSub, Int.reduceToNat, Int.reduceBEq, Int.reduceBNe, Int.reduceMul, Nat.reduceBEq, Nat.reduceBNe, Nat.reduceLT, Nat.reduceLeDiff, Nat.reduceMul, Nat.reduceEqDiff, WD, effB, effH, isPriv, isHeap, isImm, zbx, zby, zbz, chkO, setD, dslot, zca, zcb, zcc, zcd, ptrCells_some, F56, zq3, zp3, (q3 H).len, lm3]
        refine cSplit (fun hlt => ?_) (fun hge => ?_)
        · have hi2 : i < c.code.length := by have := of_decide_eq_true hlt; omega
          have hs : c.code[i]? = some c.code[i] := List.getElem?_eq_getElem hi2
          generalize c.code[i] = y at hs
          simp only [hlt]
          have e1 := (q3 H).at_ (sz := 3) (i := i) (e := .agg [.int .i64 y.1, .int .i64 y.2.1, .int .i64 y.2.2]) (by rw [List.getElem?_map, hs]; rfl) rfl
          have e2 := (p3 H).at_ (sz := 3) (i := i) (e := .agg [.int .i64 y.1, .int .i64 y.2.1, .int .i64 y.2.2]) (by rw [List.getElem?_map, hs]; rfl) rfl
          simp only [WW, partV, eqCells, eqLf, minV, maxV, ifcV, zaa, zab, zac, zad, zae, zaf, zag, zah, zai, ofConst, ofConst1, List.replicate, zaj, zak, loadOp, Go.Abs.loadCells, binV, zal, pickV, zam, zan, zao, zap, zaq, zar, zas, zat, zau, outR, resAll, resOne, zav, zaw, zax, zay, zaz, zba, zbb, zbc, zbd, zbe, zbf, zbg, zbh, zbi, zbj, zbk, storeOp, storeCell, overlay, zbl, zbm, zbn, lookupOp, keyT, okRes, mapUpdateOp, zbo, zbp, zbq, zbr, zbs, zbt, zbu, Nat.reduceSub, Nat.reduceAdd, Int.reduceLT, Int.reduceLE, Int.reduceAdd, Int.reduceSub, Int.reduceToNat, Int.reduceBEq, Int.reduceBNe, Int.reduceMul, Nat.reduceBEq, Nat.reduceBNe, Nat.reduceLT, Nat.reduceLeDiff, Nat.reduceMul, Nat.reduceEqDiff, WD, effB, effH, isPriv, isHeap, isImm, zbx, zby, zbz, chkO, setD, dslot, zca, zcb, zcc, zcd, ptrCells_some, F56]
          refine wC_dr alts56_11 (by kernel_rfl) ?_
          simp only [WW, partV, eqCells, eqLf, minV, maxV, ifcV, zaa, zab, zac, zad, zae, zaf, zag, zah, zai, ofConst, ofConst1, List.replicate, zaj, zak, loadOp, Go.Abs.loadCells, binV, zal, pickV, zam, zan, zao, zap, zaq, zar, zas, zat, zau, outR, resAll, resOne, zav, zaw, zax, zay, zaz, zba, zbb, zbc, zbd, zbe, zbf, zbg, zbh, zbi, zbj, zbk, storeOp, storeCell, overlay, zbl, zbm, zbn, lookupOp, keyT, okRes, mapUpdateOp, zbo, zbp, zbq, zbr, zbs, zbt, zbu, Nat.reduceSub, Nat.reduceAdd, Int.reduceLT, Int.reduceLE, Int.reduceAdd, Int.reduceSub, Int.reduceToNat, Int.reduceBEq, Int.reduceBNe, Int.reduceMul, Nat.reduceBEq, Nat.reduceBNe, Nat.reduceLT, Nat.reduceLeDiff, Nat.reduceMul, Nat.reduceEqDiff, WD, effB, effH, isPriv, isHeap, isImm, zbx, zby, zbz, chkO, setD, dslot, zca, zcb, zcc, zcd, ptrCells_some, F56, zq3, zp3, e1.at1 (q3 H), e1.cells, e2.at1 (p3 H), e2.cells, alts56_11]
          refine ⟨c.code.length - (i + 1), by omega, i + 1, ?_, by omega, rfl⟩
          simp only [WN, firstReg, growAll, zbv, zbw, norm, killS, zag, zah, zaa, zab, zbl, zat, zad, growOne, zae, zaf, zac, zas, zak, Nat.reduceLT, Nat.reduceAdd, zbj, zav, F56, yq1, yq2, yq3, yq4, yp1, yp2, yp3, yp4]
          rw [IntWalk.i64_in ((i : Int) + 1) (by omega)]; rfl
        · simp only [hge]
          simp only [WW, partV, eqCells, eqLf, minV, maxV, ifcV, zaa, zab, zac, zad, zae, zaf, zag, zah, zai, ofConst, ofConst1, List.replicate, zaj, zak, loadOp, Go.Abs.loadCells, binV, zal, pickV, zam, zan, zao, zap, zaq, zar, zas, zat, zau, outR, resAll, resOne, zav, zaw, zax, zay, zaz, zba, zbb, zbc, zbd, zbe, zbf, zbg, zbh, zbi, zbj, zbk, storeOp, storeCell, overlay, zbl, zbm, zbn, lookupOp, keyT, okRes, mapUpdateOp, zbo, zbp, zbq, zbr, zbs, zbt, zbu, Nat.reduceSub, Nat.reduceAdd, Int.reduceLT, Int.reduceLE, Int.reduceAdd, Int.reduceSub, Int.reduceToNat, Int.reduceBEq, Int.reduceBNe, Int.reduceMul, Nat.reduceBEq, Nat.reduceBNe, Nat.reduceLT, Nat.reduceLeDiff, Nat.reduceMul, Nat.reduceEqDiff, WD, effB, effH, isPriv, isHeap, isImm, zbx, zby, zbz, chkO, setD, dslot, zca, zcb, zcc, zcd, ptrCells_some, F56]
          refine wC_loop _ (fun k st' H' => ∃ (i : Nat), st' = ⟨L56_14 (.box 0) (.box 1) (.v (.int .i64 i)), [[.int .i64 c.params, .int .i64 c.slots, k1, k2, k3, k4], [.int .i64 c.params, .int .i64 c.slots, j1, j2, j3, j4]], []⟩ ∧ H' = H ∧ i ≤ c.tries.length ∧ k = c.tries.length - i) c.tries.length ⟨0, ?_, rfl, by omega, by omega⟩ ?_
          · simp only [WN, firstReg, growAll, zbv, zbw, norm, killS, zag, zah, zaa, zab, zbl, zat, zad, growOne, zae, zaf, zac, zas, zak, Nat.reduceLT, Nat.reduceAdd, zbj, zav, F56, L56_14, yq1, yq2, yq3, yq4, yp1, yp2, yp3, yp4]
            rfl
          · rintro k st' H ⟨i, rfl, rfl, hi, rfl⟩
            simp only [L56_14]
            simp only [WW, partV, eqCells, eqLf, minV, maxV, ifcV, zaa, zab, zac, zad, zae, zaf, zag, zah, zai, ofConst, ofConst1, List.replicate, zaj, zak, loadOp, Go.Abs.loadCells, binV, zal, pickV, zam, zan, zao, zap, zaq, zar, zas, zat, zau, outR, resAll, resOne, zav, zaw, zax, zay, zaz, zba, zbb, zbc, zbd, zbe, zbf, zbg, zbh, zbi, zbj, zbk, storeOp, storeCell, overlay, zbl, zbm, zbn, lookupOp, keyT, okRes, mapUpdateOp, zbo, zbp, zbq, zbr, zbs, zbt, zbu, Nat.reduceSub, Nat.reduceAdd, Int.reduceLT, Int.reduceLE, Int.reduceAdd, Int.reduceSub, Int.reduceToNat, Int.reduceBEq, Int.reduceBNe, Int.reduceMul, Nat.reduceBEq, Nat.reduceBNe, Nat.reduceLT, Nat.reduceLeDiff, Nat.reduceMul, Nat.reduceEqDiff, WD, effB, effH, isPriv, isHeap, isImm, zbx, zby, zbz, chkO, setD, dslot, zca, zcb, zcc, zcd, ptrCells_some, F56, zq4, zp4, (q4 H).len, lm4]
            refine cSplit (fun hlt => ?_) (fun hge => ?_)
            · have hi2 : i < c.tries.length := by have := of_decide_eq_true hlt; omega
              have hs : c.tries[i]? = some c.tries[i] := List.getElem?_eq_getElem hi2
              generalize c.tries[i] = y at hs
              simp only [hlt]
              have e1 := (q4 H).at_ (sz := 4) (i := i) (e := .agg [.int .i64 y.1, .int .i64 y.2.1, .int .i64 y.2.2.1, .int .i64 y.2.2.2]) (by rw [List.getElem?_map, hs]; rfl) rfl
              have e2 := (p4 H).at_ (sz := 4) (i := i) (e := .agg [.int .i64 y.1, .int .i64 y.2.1, .int .i64 y.2.2.1, .int .i64 y.2.2.2]) (by rw [List.getElem?_map, hs]; rfl) rfl
              simp only [WW, partV, eqCells, eqLf, minV, maxV, ifcV, zaa, zab, zac, zad, zae, zaf, zag, zah, zai, ofConst, ofConst1, List.replicate, zaj, zak, loadOp, Go.Abs.loadCells, binV, zal, pickV, zam, zan, zao, zap, zaq, zar, zas, zat, zau, outR, resAll, resOne, zav, zaw, zax, zay, zaz, zba, zbb, zbc, zbd, zbe, zbf, zbg, zbh, zbi, zbj, zbk, storeOp, storeCell, overlay, zbl, zbm, zbn, lookupOp, keyT, okRes, mapUpdateOp, zbo, zbp, zbq, zbr, zbs, zbt, zbu, Nat.reduceSub, Nat.reduceAdd, Int.reduceLT, Int.reduceLE, Int.reduceAdd, Int.reduceSub, Int.reduceToNat, Int.reduceBEq, Int.reduceBNe, Int.reduceMul, Nat.reduceBEq, Nat.reduceBNe, Nat.reduceLT, Nat.reduceLeDiff, Nat.reduceMul, Nat.reduceEqDiff, WD, effB, effH, isPriv, isHeap, isImm, zbx, zby, zbz, chkO, setD, dslot, zca, zcb, zcc, zcd, ptrCells_some, F56]
              refine wC_dr alts56_16 (by kernel_rfl) ?_
              simp only [WW, partV, eqCells, eqLf, minV, maxV, ifcV, zaa, zab, zac, zad, zae, zaf, zag, zah, zai, ofConst, ofConst1, List.replicate, zaj, zak, loadOp, Go.Abs.loadCells, binV, zal, pickV, zam, zan, zao, zap, zaq, zar, zas, zat, zau, outR, resAll, resOne, zav, zaw, zax, zay, zaz, zba, zbb, zbc, zbd, zbe, zbf, zbg, zbh, zbi, zbj, zbk, storeOp, storeCell, overlay, zbl, zbm, zbn, lookupOp, keyT, okRes, mapUpdateOp, zbo, zbp, zbq, zbr, zbs, zbt, zbu, Nat.reduceSub, Nat.reduceAdd, Int.reduceLT, Int.reduceLE, Int.reduceAdd, Int.reduceSub, Int.reduceToNat, Int.reduceBEq, Int.reduceBNe, Int.reduceMul, Nat.reduceBEq, Nat.reduceBNe, Nat.reduceLT, Nat.reduceLeDiff, Nat.reduceMul, Nat.reduceEqDiff, WD, effB, effH, isPriv, isHeap, isImm, zbx, zby, zbz, chkO, setD, dslot, zca, zcb, zcc, zcd, ptrCells_some, F56, zq4, zp4, e1.at1 (q4 H), e1.cells, e2.at1 (p4 H), e2.cells, alts56_16]
              refine ⟨c.tries.length - (i + 1), by omega, i + 1, ?_, by omega, rfl⟩
              simp only [WN, firstReg, growAll, zbv, zbw, norm, killS, zag, zah, zaa, zab, zbl, zat, zad, growOne, zae, zaf, zac, zas, zak, Nat.reduceLT, Nat.reduceAdd, zbj, zav, F56, yq1, yq2, yq3, yq4, yp1, yp2, yp3, yp4]
              rw [IntWalk.i64_in ((i : Int) + 1) (by omega)]; rfl
            · simp only [hge]
              simp only [WW, partV, eqCells, eqLf, minV, maxV, ifcV, zaa, zab, zac, zad, zae, zaf, zag, zah, zai, ofConst, ofConst1, List.replicate, zaj, zak, loadOp, Go.Abs.loadCells, binV, zal, pickV, zam, zan, zao, zap, zaq, zar, zas, zat, zau, outR, resAll, resOne, zav, zaw, zax, zay, zaz, zba, zbb, zbc, zbd, zbe, zbf, zbg, zbh, zbi, zbj, zbk, storeOp, storeCell, overlay, zbl, zbm, zbn, lookupOp, keyT, okRes, mapUpdateOp, zbo, zbp, zbq, zbr, zbs, zbt, zbu, Nat.reduceSub, Nat.reduceAdd, Int.reduceLT, Int.reduceLE, Int.reduceAdd, Int.reduceSub, Int.reduceToNat, Int.reduceBEq, Int.reduceBNe, Int.reduceMul, Nat.reduceBEq, Nat.reduceBNe, Nat.reduceLT, Nat.reduceLeDiff, Nat.reduceMul, Nat.reduceEqDiff, WD, effB, effH, isPriv, isHeap, isImm, zbx, zby, zbz, chkO, setD, dslot, zca, zcb, zcc, zcd, ptrCells_some, F56]
theorem same_im {v u : V} {im : ImM} (q : ImV v im) (r : ImV u im) (hs : imSz im) (H : Hp) : EW 18 [v, u] H = some (.ret (.bool true) false, H) := by
  obtain ⟨fu, st, ke, fs, ks, rfl, q1, q2, q3, f2, k2⟩ := q
  obtain ⟨gu, tt, le, gs, ls, rfl, p1, p2, p3, g2, l2⟩ := r
  obtain ⟨m1, m2, m3, m4, m5, m6⟩ := hs
  have zq1 := fun st => (q1 []).shutIn st
  have yq1 := fun n => (q1 []).clip n
  have cq1 := (q1 []).cells1
  have dq1 := (q1 []).ok
  have zq2 := fun st => (q2 []).shutIn st
  have yq2 := fun n => (q2 []).clip n
  have cq2 := (q2 []).cells1
  have dq2 := (q2 []).ok
  have zq3 := fun st => (q3 []).shutIn st
  have yq3 := fun n => (q3 []).clip n
  have cq3 := (q3 []).cells1
  have dq3 := (q3 []).ok
  have zp1 := fun st => (p1 []).shutIn st
  have yp1 := fun n => (p1 []).clip n
  have cp1 := (p1 []).cells1
  have dp1 := (p1 []).ok
  have zp2 := fun st => (p2 []).shutIn st
  have yp2 := fun n => (p2 []).clip n
  have cp2 := (p2 []).cells1
  have dp2 := (p2 []).ok
  have zp3 := fun st => (p3 []).shutIn st
  have yp3 := fun n => (p3 []).clip n
  have cp3 := (p3 []).cells1
  have dp3 := (p3 []).ok
  have fl := f2.len
  have kl := k2.len
  have gl := g2.len
  have ll := l2.len
  have sl : (im.strs.map V.str).length = im.strs.length := List.length_map ..
  refine eqOf (runs f18 b18 r18 n18 _ _ ?_)
  simp only [bodyOf, Tryd.f18, Option.getD_some]
  simp only [WW, partV, eqCells, eqLf, minV, maxV, ifcV, zaa, zab, zac, zad, zae, zaf, zag, zah, zai, ofConst, ofConst1, List.replicate, zaj, zak, loadOp, Go.Abs.loadCells, binV, zal, pickV, zam, zan, zao, zap, zaq, zar, zas, zat, zau, outR, resAll, resOne, zav, zaw, zax, zay, zaz, zba, zbb, zbc, zbd, zbe, zbf, zbg, zbh, zbi, zbj, zbk, storeOp, storeCell, overlay, zbl, zbm, zbn, lookupOp, keyT, okRes, mapUpdateOp, zbo, zbp, zbq, zbr, zbs, zbt, zbu, Nat.reduceSub, Nat.reduceAdd, Int.reduceLT, Int.reduceLE, Int.reduceAdd, Int.reduceSub, Int.reduceToNat, Int.reduceBEq, Int.reduceBNe, Int.reduceMul, Nat.reduceBEq, Nat.reduceBNe, Nat.reduceLT, Nat.reduceLeDiff, Nat.reduceMul, Nat.reduceEqDiff, WD, effB, effH, isPriv, isHeap, isImm, zbx, zby, zbz, chkO, setD, dslot, zca, zcb, zcc, zcd, ptrCells_some, F18, zq1, zq2, zq3, zp1, zp2, zp3, cq1, cq2, cq3, cp1, cp2, cp3, dq1, dq2, dq3, dp1, dp2, dp3, bne_self_eq_false, (q1 H).len, (q2 H).len, (q3 H).len, (p1 H).len, (p2 H).len, (p3 H).len, fl, kl, gl, ll, sl]
  refine wC_loop _ (fun k st' H' => ∃ (i : Nat), st' = ⟨L18_4 (.box 0) (.box 1) (.v (.int .i64 i)), [[fu, st, ke, .int .i64 im.globals], [gu, tt, le, .int .i64 im.globals]], []⟩ ∧ H' = H ∧ i ≤ im.strs.length ∧ k = im.strs.length - i) im.strs.length ⟨0, ?_, rfl, by omega, by omega⟩ ?_
  · simp only [WN, firstReg, growAll, zbv, zbw, norm, killS, zag, zah, zaa, zab, zbl, zat, zad, growOne, zae, zaf, zac, zas, zak, Nat.reduceLT, Nat.reduceAdd, zbj, zav, F18, L18_4, yq1, yq2, yq3, yp1, yp2, yp3]
    rfl
  · rintro k st' H ⟨i, rfl, rfl, hi, rfl⟩
    simp only [L18_4]
    simp only [WW, partV, eqCells, eqLf, minV, maxV, ifcV, zaa, zab, zac, zad, zae, zaf, zag, zah, zai, ofConst, ofConst1, List.replicate, zaj, zak, loadOp, Go.Abs.loadCells, binV, zal, pickV, zam, zan, zao, zap, zaq, zar, zas, zat, zau, outR, resAll, resOne, zav, zaw, zax, zay, zaz, zba, zbb, zbc, zbd, zbe, zbf, zbg, zbh, zbi, zbj, zbk, storeOp, storeCell, overlay, zbl, zbm, zbn, lookupOp, keyT, okRes, mapUpdateOp, zbo, zbp, zbq, zbr, zbs, zbt, zbu, Nat.reduceSub, Nat.reduceAdd, Int.reduceLT, Int.reduceLE, Int.reduceAdd, Int.reduceSub, Int.reduceToNat, Int.reduceBEq, Int.reduceBNe, Int.reduceMul, Nat.reduceBEq, Nat.reduceBNe, Nat.reduceLT, Nat.reduceLeDiff, Nat.reduceMul, Nat.reduceEqDiff, WD, effB, effH, isPriv, isHeap, isImm, zbx, zby, zbz, chkO, setD, dslot, zca, zcb, zcc, zcd, ptrCells_some, F18, zq2, zp2, (q2 H).len, sl]
    refine cSplit (fun hlt => ?_) (fun hge => ?_)
    · have hi2 : i < im.strs.length := by have := of_decide_eq_true hlt; omega
      have hs : im.strs[i]? = some im.strs[i] := List.getElem?_eq_getElem hi2
      generalize im.strs[i] = y at hs
      have hmem := List.mem_of_getElem? hs
      simp only [hlt]
      have e1 := (q2 H).at_ (sz := 1) (i := i) (e := .str y) (by rw [List.getElem?_map, hs]; rfl) rfl
      have e2 := (p2 H).at_ (sz := 1) (i := i) (e := .str y) (by rw [List.getElem?_map, hs]; rfl) rfl
      simp only [WW, partV, eqCells, eqLf, minV, maxV, ifcV, zaa, zab, zac, zad, zae, zaf, zag, zah, zai, ofConst, ofConst1, List.replicate, zaj, zak, loadOp, Go.Abs.loadCells, binV, zal, pickV, zam, zan, zao, zap, zaq, zar, zas, zat, zau, outR, resAll, resOne, zav, zaw, zax, zay, zaz, zba, zbb, zbc, zbd, zbe, zbf, zbg, zbh, zbi, zbj, zbk, storeOp, storeCell, overlay, zbl, zbm, zbn, lookupOp, keyT, okRes, mapUpdateOp, zbo, zbp, zbq, zbr, zbs, zbt, zbu, Nat.reduceSub, Nat.reduceAdd, Int.reduceLT, Int.reduceLE, Int.reduceAdd, Int.reduceSub, Int.reduceToNat, Int.reduceBEq, Int.reduceBNe, Int.reduceMul, Nat.reduceBEq, Nat.reduceBNe, Nat.reduceLT, Nat.reduceLeDiff, Nat.reduceMul, Nat.reduceEqDiff, WD, effB, effH, isPriv, isHeap, isImm, zbx, zby, zbz, chkO, setD, dslot, zca, zcb, zcc, zcd, ptrCells_some, F18]
      refine wC_dr alts18_6 (by kernel_rfl) ?_
      simp only [WW, partV, eqCells, eqLf, minV, maxV, ifcV, zaa, zab, zac, zad, zae, zaf, zag, zah, zai, ofConst, ofConst1, List.replicate, zaj, zak, loadOp, Go.Abs.loadCells, binV, zal, pickV, zam, zan, zao, zap, zaq, zar, zas, zat, zau, outR, resAll, resOne, zav, zaw, zax, zay, zaz, zba, zbb, zbc, zbd, zbe, zbf, zbg, zbh, zbi, zbj, zbk, storeOp, storeCell, overlay, zbl, zbm, zbn, lookupOp, keyT, okRes, mapUpdateOp, zbo, zbp, zbq, zbr, zbs, zbt, zbu, Nat.reduceSub, Nat.reduceAdd, Int.reduceLT, Int.reduceLE, Int.reduceAdd, Int.reduceSub, Int.reduceToNat, Int.reduceBEq, Int.reduceBNe, Int.reduceMul, Nat.reduceBEq, Nat.reduceBNe, Nat.reduceLT, Nat.reduceLeDiff, Nat.reduceMul, Nat.reduceEqDiff, WD, effB, effH, isPriv, isHeap, isImm, zbx, zby, zbz, chkO, setD, dslot, zca, zcb, zcc, zcd, ptrCells_some, F18, zq2, zp2, e1.at1 (q2 H), e1.cells, e2.at1 (p2 H), e2.cells, alts18_6, bne_self_eq_false]
      refine ⟨im.strs.length - (i + 1), by omega, i + 1, ?_, by omega, rfl⟩
      simp only [WN, firstReg, growAll, zbv, zbw, norm, killS, zag, zah, zaa, zab, zbl, zat, zad, growOne, zae, zaf, zac, zas, zak, Nat.reduceLT, Nat.reduceAdd, zbj, zav, F18, yq1, yq2, yq3, yp1, yp2, yp3]
      rw [IntWalk.i64_in ((i : Int) + 1) (by omega)]; rfl
    · simp only [hge]
      simp only [WW, partV, eqCells, eqLf, minV, maxV, ifcV, zaa, zab, zac, zad, zae, zaf, zag, zah, zai, ofConst, ofConst1, List.replicate, zaj, zak, loadOp, Go.Abs.loadCells, binV, zal, pickV, zam, zan, zao, zap, zaq, zar, zas, zat, zau, outR, resAll, resOne, zav, zaw, zax, zay, zaz, zba, zbb, zbc, zbd, zbe, zbf, zbg, zbh, zbi, zbj, zbk, storeOp, storeCell, overlay, zbl, zbm, zbn, lookupOp, keyT, okRes, mapUpdateOp, zbo, zbp, zbq, zbr, zbs, zbt, zbu, Nat.reduceSub, Nat.reduceAdd, Int.reduceLT, Int.reduceLE, Int.reduceAdd, Int.reduceSub, Int.reduceToNat, Int.reduceBEq, Int.reduceBNe, Int.reduceMul, Nat.reduceBEq, Nat.reduceBNe, Nat.reduceLT, Nat.reduceLeDiff, Nat.reduceMul, Nat.reduceEqDiff, WD, effB, effH, isPriv, isHeap, isImm, zbx, zby, zbz, chkO, setD, dslot, zca, zcb, zcc, zcd, ptrCells_some, F18]
      refine wC_loop _ (fun k st' H' => ∃ (i : Nat), st' = ⟨L18_9 (.box 0) (.box 1) (.v (.int .i64 i)), [[fu, st, ke, .int .i64 im.globals], [gu, tt, le, .int .i64 im.globals]], []⟩ ∧ H' = H ∧ i ≤ im.keys.length ∧ k = im.keys.length - i) im.keys.length ⟨0, ?_, rfl, by omega, by omega⟩ ?_
      · simp only [WN, firstReg, growAll, zbv, zbw, norm, killS, zag, zah, zaa, zab, zbl, zat, zad, growOne, zae, zaf, zac, zas, zak, Nat.reduceLT, Nat.reduceAdd, zbj, zav, F18, L18_9, yq1, yq2, yq3, yp1, yp2, yp3]
        rfl
      · rintro k st' H ⟨i, rfl, rfl, hi, rfl⟩
        simp only [L18_9]
        simp only [WW, partV, eqCells, eqLf, minV, maxV, ifcV, zaa, zab, zac, zad, zae, zaf, zag, zah, zai, ofConst, ofConst1, List.replicate, zaj, zak, loadOp, Go.Abs.loadCells, binV, zal, pickV, zam, zan, zao, zap, zaq, zar, zas, zat, zau, outR, resAll, resOne, zav, zaw, zax, zay, zaz, zba, zbb, zbc, zbd, zbe, zbf, zbg, zbh, zbi, zbj, zbk, storeOp, storeCell, overlay, zbl, zbm, zbn, lookupOp, keyT, okRes, mapUpdateOp, zbo, zbp, zbq, zbr, zbs, zbt, zbu, Nat.reduceSub, Nat.reduceAdd, Int.reduceLT, Int.reduceLE, Int.reduceAdd, Int.reduceSub, Int.reduceToNat, Int.reduceBEq, Int.reduceBNe, Int.reduceMul, Nat.reduceBEq, Nat.reduceBNe, Nat.reduceLT, Nat.reduceLeDiff, Nat.reduceMul, Nat.reduceEqDiff, WD, effB, effH, isPriv, isHeap, isImm, zbx, zby, zbz, chkO, setD, dslot, zca, zcb, zcc, zcd, ptrCells_some, F18, zq3, zp3, (q3 H).len, kl]
        refine cSplit (fun hlt => ?_) (fun hge => ?_)
        · have hi2 : i < im.keys.length := by have := of_decide_eq_true hlt; omega
          have hs : im.keys[i]? = some im.keys[i] := List.getElem?_eq_getElem hi2
          generalize im.keys[i] = y at hs
          have hmem := List.mem_of_getElem? hs
          simp only [hlt]
          obtain ⟨u1, hu1, hR1⟩ := k2.get hs
          obtain ⟨u2, hu2, hR2⟩ := l2.get hs
          have e1 := (q3 H).at_ (sz := 1) (i := i) hu1 (hR1 []).width1
          have e2 := (p3 H).at_ (sz := 1) (i := i) hu2 (hR2 []).width1
          have hnw := same_intsW hR1 hR2 (by have := m5 y hmem; omega)
          simp only [WW, partV, eqCells, eqLf, minV, maxV, ifcV, zaa, zab, zac, zad, zae, zaf, zag, zah, zai, ofConst, ofConst1, List.replicate, zaj, zak, loadOp, Go.Abs.loadCells, binV, zal, pickV, zam, zan, zao, zap, zaq, zar, zas, zat, zau, outR, resAll, resOne, zav, zaw, zax, zay, zaz, zba, zbb, zbc, zbd, zbe, zbf, zbg, zbh, zbi, zbj, zbk, storeOp, storeCell, overlay, zbl, zbm, zbn, lookupOp, keyT, okRes, mapUpdateOp, zbo, zbp, zbq, zbr, zbs, zbt, zbu, Nat.reduceSub, Nat.reduceAdd, Int.reduceLT, Int.reduceLE, Int.reduceAdd, Int.reduceSub, Int.reduceToNat, Int.reduceBEq, Int.reduceBNe, Int.reduceMul, Nat.reduceBEq, Nat.reduceBNe, Nat.reduceLT, Nat.reduceLeDiff, Nat.reduceMul, Nat.reduceEqDiff, WD, effB, effH, isPriv, isHeap, isImm, zbx, zby, zbz, chkO, setD, dslot, zca, zcb, zcc, zcd, ptrCells_some, F18]
          refine wC_dr alts18_11 (by kernel_rfl) ?_
          simp only [WW, partV, eqCells, eqLf, minV, maxV, ifcV, zaa, zab, zac, zad, zae, zaf, zag, zah, zai, ofConst, ofConst1, List.replicate, zaj, zak, loadOp, Go.Abs.loadCells, binV, zal, pickV, zam, zan, zao, zap, zaq, zar, zas, zat, zau, outR, resAll, resOne, zav, zaw, zax, zay, zaz, zba, zbb, zbc, zbd, zbe, zbf, zbg, zbh, zbi, zbj, zbk, storeOp, storeCell, overlay, zbl, zbm, zbn, lookupOp, keyT, okRes, mapUpdateOp, zbo, zbp, zbq, zbr, zbs, zbt, zbu, Nat.reduceSub, Nat.reduceAdd, Int.reduceLT, Int.reduceLE, Int.reduceAdd, Int.reduceSub, Int.reduceToNat, Int.reduceBEq, Int.reduceBNe, Int.reduceMul, Nat.reduceBEq, Nat.reduceBNe, Nat.reduceLT, Nat.reduceLeDiff, Nat.reduceMul, Nat.reduceEqDiff, WD, effB, effH, isPriv, isHeap, isImm, zbx, zby, zbz, chkO, setD, dslot, zca, zcb, zcc, zcd, ptrCells_some, F18, zq3, zp3, e1.at1 (q3 H), e1.cells, e2.at1 (p3 H), e2.cells, alts18_11, bne_self_eq_false, (hR1 []).cells1, (hR2 []).cells1, (hR1 []).shutIn, (hR2 []).shutIn, hnw]
          refine ⟨im.keys.length - (i + 1), by omega, i + 1, ?_, by omega, rfl⟩
          simp only [WN, firstReg, growAll, zbv, zbw, norm, killS, zag, zah, zaa, zab, zbl, zat, zad, growOne, zae, zaf, zac, zas, zak, Nat.reduceLT, Nat.reduceAdd, zbj, zav, F18, yq1, yq2, yq3, yp1, yp2, yp3]
          rw [IntWalk.i64_in ((i : Int) + 1) (by omega)]; rfl
        · simp only [hge]
          simp only [WW, partV, eqCells, eqLf, minV, maxV, ifcV, zaa, zab, zac, zad, zae, zaf, zag, zah, zai, ofConst, ofConst1, List.replicate, zaj, zak, loadOp, Go.Abs.loadCells, binV, zal, pickV, zam, zan, zao, zap, zaq, zar, zas, zat, zau, outR, resAll, resOne, zav, zaw, zax, zay, zaz, zba, zbb, zbc, zbd, zbe, zbf, zbg, zbh, zbi, zbj, zbk, storeOp, storeCell, overlay, zbl, zbm, zbn, lookupOp, keyT, okRes, mapUpdateOp, zbo, zbp, zbq, zbr, zbs, zbt, zbu, Nat.reduceSub, Nat.reduceAdd, Int.reduceLT, Int.reduceLE, Int.reduceAdd, Int.reduceSub, Int.reduceToNat, Int.reduceBEq, Int.reduceBNe, Int.reduceMul, Nat.reduceBEq, Nat.reduceBNe, Nat.reduceLT, Nat.reduceLeDiff, Nat.reduceMul, Nat.reduceEqDiff, WD, effB, effH, isPriv, isHeap, isImm, zbx, zby, zbz, chkO, setD, dslot, zca, zcb, zcc, zcd, ptrCells_some, F18]
          refine wC_loop _ (fun k st' H' => ∃ (i : Nat), st' = ⟨L18_14 (.box 0) (.box 1) (.v (.int .i64 i)), [[fu, st, ke, .int .i64 im.globals], [gu, tt, le, .int .i64 im.globals]], []⟩ ∧ H' = H ∧ i ≤ im.funs.length ∧ k = im.funs.length - i) im.funs.length ⟨0, ?_, rfl, by omega, by omega⟩ ?_
          · simp only [WN, firstReg, growAll, zbv, zbw, norm, killS, zag, zah, zaa, zab, zbl, zat, zad, growOne, zae, zaf, zac, zas, zak, Nat.reduceLT, Nat.reduceAdd, zbj, zav, F18, L18_14, yq1, yq2, yq3, yp1, yp2, yp3]
            rfl
          · rintro k st' H ⟨i, rfl, rfl, hi, rfl⟩
            simp only [L18_14]
            simp only [WW, partV, eqCells, eqLf, minV, maxV, ifcV, zaa, zab, zac, zad, zae, zaf, zag, zah, zai, ofConst, ofConst1, List.replicate, zaj, zak, loadOp, Go.Abs.loadCells, binV, zal, pickV, zam, zan, zao, zap, zaq, zar, zas, zat, zau, outR, resAll, resOne, zav, zaw, zax, zay, zaz, zba, zbb, zbc, zbd, zbe, zbf, zbg, zbh, zbi, zbj, zbk, storeOp, storeCell, overlay, zbl, zbm, zbn, lookupOp, keyT, okRes, mapUpdateOp, zbo, zbp, zbq, zbr, zbs, zbt, zbu, Nat.reduceSub, Nat.reduceAdd, Int.reduceLT, Int.reduceLE, Int.reduceAdd, Int.reduceSub, Int.reduceToNat, Int.reduceBEq, Int.reduceBNe, Int.reduceMul, Nat.reduceBEq, Nat.reduceBNe, Nat.reduceLT, Nat.reduceLeDiff, Nat.reduceMul, Nat.reduceEqDiff, WD, effB, effH, isPriv, isHeap, isImm, zbx, zby, zbz, chkO, setD, dslot, zca, zcb, zcc, zcd, ptrCells_some, F18, zq1, zp1, (q1 H).len, fl]
            refine cSplit (fun hlt => ?_) (fun hge => ?_)
            · have hi2 : i < im.funs.length := by have := of_decide_eq_true hlt; omega
              have hs : im.funs[i]? = some im.funs[i] := List.getElem?_eq_getElem hi2
              generalize im.funs[i] = y at hs
              have hmem := List.mem_of_getElem? hs
              simp only [hlt]
              obtain ⟨u1, hu1, hR1⟩ := f2.get hs
              obtain ⟨u2, hu2, hR2⟩ := g2.get hs
              have hnw : ∀ K, wpCall (evW Tryd.prog notes) 56 [u1, u2] H K = K (.ret (.bool true) false) H := fun K => wpCall_eq (same_code hR1 hR2 (m6 y hmem) H)
              obtain ⟨⟨k1, k2', k3, k4, rfl, a1, a2, a3, a4⟩⟩ := hR1
              obtain ⟨⟨j1, j2, j3, j4, rfl, b1, b2, b3, b4⟩⟩ := hR2
              have e1 := (q1 H).at_ (sz := 6) (i := i) hu1 rfl
              have e2 := (p1 H).at_ (sz := 6) (i := i) hu2 rfl
              simp only [WW, partV, eqCells, eqLf, minV, maxV, ifcV, zaa, zab, zac, zad, zae, zaf, zag, zah, zai, ofConst, ofConst1, List.replicate, zaj, zak, loadOp, Go.Abs.loadCells, binV, zal, pickV, zam, zan, zao, zap, zaq, zar, zas, zat, zau, outR, resAll, resOne, zav, zaw, zax, zay, zaz, zba, zbb, zbc, zbd, zbe, zbf, zbg, zbh, zbi, zbj, zbk, storeOp, storeCell, overlay, zbl, zbm, zbn, lookupOp, keyT, okRes, mapUpdateOp, zbo, zbp, zbq, zbr, zbs, zbt, zbu, Nat.reduceSub, Nat.reduceAdd, Int.reduceLT, Int.reduceLE, Int.reduceAdd, Int.reduceSub, Int.reduceToNat, Int.reduceBEq, Int.reduceBNe, Int.reduceMul, Nat.reduceBEq, Nat.reduceBNe, Nat.reduceLT, Nat.reduceLeDiff, Nat.reduceMul, Nat.reduceEqDiff, WD, effB, effH, isPriv, isHeap, isImm, zbx, zby, zbz, chkO, setD, dslot, zca, zcb, zcc, zcd, ptrCells_some, F18]
              refine wC_dr alts18_16 (by kernel_rfl) ?_
              simp only [WW, partV, eqCells, eqLf, minV, maxV, ifcV, zaa, zab, zac, zad, zae, zaf, zag, zah, zai, ofConst, ofConst1, List.replicate, zaj, zak, loadOp, Go.Abs.loadCells, binV, zal, pickV, zam, zan, zao, zap, zaq, zar, zas, zat, zau, outR, resAll, resOne, zav, zaw, zax, zay, zaz, zba, zbb, zbc, zbd, zbe, zbf, zbg, zbh, zbi, zbj, zbk, storeOp, storeCell, overlay, zbl, zbm, zbn, lookupOp, keyT, okRes, mapUpdateOp, zbo, zbp, zbq, zbr, zbs, zbt, zbu, Nat.reduceSub, Nat.reduceAdd, Int.reduceLT, Int.reduceLE, Int.reduceAdd, Int.reduceSub, Int.reduceToNat, Int.reduceBEq, Int.reduceBNe, Int.reduceMul, Nat.reduceBEq, Nat.reduceBNe, Nat.reduceLT, Nat.reduceLeDiff, Nat.reduceMul, Nat.reduceEqDiff, WD, effB, effH, isPriv, isHeap, isImm, zbx, zby, zbz, chkO, setD, dslot, zca, zcb, zcc, zcd, ptrCells_some, F18, zq1, zp1, e1.at1 (q1 H), e1.cells, e2.at1 (p1 H), e2.cells, alts18_16, bne_self_eq_false, hnw, (a1 []).cells1, (a1 []).shutIn, (a2 []).cells1, (a2 []).shutIn, (a3 []).cells1, (a3 []).shutIn, (a4 []).cells1, (a4 []).shutIn, (b1 []).cells1, (b1 []).shutIn, (b2 []).cells1, (b2 []).shutIn, (b3 []).cells1, (b3 []).shutIn, (b4 []).cells1, (b4 []).shutIn]
              refine ⟨im.funs.length - (i + 1), by omega, i + 1, ?_, by omega, rfl⟩
              simp only [WN, firstReg, growAll, zbv, zbw, norm, killS, zag, zah, zaa, zab, zbl, zat, zad, growOne, zae, zaf, zac, zas, zak, Nat.reduceLT, Nat.reduceAdd, zbj, zav, F18, yq1, yq2, yq3, yp1, yp2, yp3]
              rw [IntWalk.i64_in ((i : Int) + 1) (by omega)]; rfl
            · simp only [hge]
              simp only [WW, partV, eqCells, eqLf, minV, maxV, ifcV, zaa, zab, zac, zad, zae, zaf, zag, zah, zai, ofConst, ofConst1, List.replicate, zaj, zak, loadOp, Go.Abs.loadCells, binV, zal, pickV, zam, zan, zao, zap, zaq, zar, zas, zat, zau, outR, resAll, resOne, zav, zaw, zax, zay, zaz, zba, zbb, zbc, zbd, zbe, zbf, zbg, zbh, zbi, zbj, zbk, storeOp, storeCell, overlay, zbl, zbm, zbn, lookupOp, keyT, okRes, mapUpdateOp, zbo, zbp, zbq, zbr, zbs, zbt, zbu, Nat.reduceSub, Nat.reduceAdd, Int.reduceLT, Int.reduceLE, Int.reduceAdd, Int.reduceSub, Int.reduceToNat, Int.reduceBEq, Int.reduceBNe, Int.reduceMul, Nat.reduceBEq, Nat.reduceBNe, Nat.reduceLT, Nat.reduceLeDiff, Nat.reduceMul, Nat.reduceEqDiff, WD, effB, effH, isPriv, isHeap, isImm, zbx, zby, zbz, chkO, setD, dslot, zca, zcb, zcc, zcd, ptrCells_some, F18]
end Go.Proofs.YtgjobbmbbedecaaDoor

/- Plain law: what is told is read as it was. -/
namespace Go.Proofs.YtgjobbmbbedecaaDoor
open Go Go.Abs Go.Proofs
set_option maxRecDepth 100000
set_option maxHeartbeats 2000000
set_option linter.unusedVariables false
set_option linter.unusedSimpArgs false
theorem drop_head {L R : List Nat} {p x : Nat} (h : L.drop p = x :: R) : L[p]? = some x ∧ L.drop (p + 1) = R := by
  refine ⟨?_, ?_⟩
  · have := congrArg (fun l => l[0]?) h
    simpa using this
  · rw [← List.drop_drop, h]; rfl
theorem drop_len {L A R : List Nat} {p : Nat} (h : L.drop p = A ++ R) : L.drop (p + A.length) = R := by
  rw [← List.drop_drop, h, List.drop_left]
theorem drop_le {L A R : List Nat} {p : Nat} (h : L.drop p = A ++ R) (ha : 0 < A.length) : p + A.length + R.length = L.length := by
  have := congrArg List.length h
  simp only [List.length_drop, List.length_append] at this
  omega
theorem numG_enc {L : List Nat} : ∀ (k i v m p : Nat) (R : List Nat), i + k = 9 → L.drop p = encN m ++ R → v + m * 2 ^ (7 * i) ≤ 4611686018427387903 → (0 < i → 0 < m) → numG L k i v p = (v + m * 2 ^ (7 * i), ⟨p + (encN m).length, 0⟩)
  | 0, i, v, m, p, R, hk, hd, hle, hpos => by
    exfalso
    have hi : i = 9 := by omega
    subst hi
    have := hpos (by omega)
    have e : (2 : Nat) ^ (7 * 9) = 9223372036854775808 := by decide
    rw [e] at hle
    have : 1 * 9223372036854775808 ≤ m * 9223372036854775808 := Nat.mul_le_mul_right _ this
    omega
  | k + 1, i, v, m, p, R, hk, hd, hle, hpos => by
    have h8 : i = 8 → m < 64 := fun h => by
      subst h
      have e : (2 : Nat) ^ (7 * 8) = 72057594037927936 := by decide
      rw [e] at hle
      omega
    unfold numG
    by_cases hm : m < 128
    · rw [encN_small hm] at hd ⊢
      obtain ⟨h1, h2⟩ := drop_head hd
      have hb : badN i m = false := by
        simp only [badN, Bool.or_eq_false_iff, Bool.and_eq_false_iff, decide_eq_false_iff_not]
        refine ⟨?_, ?_⟩
        · by_cases h0 : 0 < i
          · exact .inr (by have := hpos h0; omega)
          · exact .inl h0
        · by_cases h0 : i = 8
          · exact .inr (by have := h8 h0; omega)
          · exact .inl h0
      rw [h1]
      simp only [hb, decide_eq_true hm]
      rw [Nat.mod_eq_of_lt hm]; rfl
    · rw [encN_big hm] at hd ⊢
      obtain ⟨h1, h2⟩ := drop_head hd
      have hb : badN i (128 + m % 128) = false := by
        simp only [badN, Bool.or_eq_false_iff, Bool.and_eq_false_iff, decide_eq_false_iff_not]
        refine ⟨.inr (by omega), ?_⟩
        by_cases h0 : i = 8
        · have := h8 h0; omega
        · exact .inl h0
      have hx : decide (128 + m % 128 < 128) = false := decide_eq_false (by omega)
      have e7 : 2 ^ (7 * (i + 1)) = 2 ^ (7 * i) * 128 := by rw [Nat.mul_add, Nat.pow_add]
      have em : (128 + m % 128) % 128 = m % 128 := by omega
      have etot : v + m % 128 * 2 ^ (7 * i) + m / 128 * 2 ^ (7 * (i + 1)) = v + m * 2 ^ (7 * i) := by
        have : m * 2 ^ (7 * i) = m % 128 * 2 ^ (7 * i) + m / 128 * 2 ^ (7 * (i + 1)) := by
          rw [e7, Nat.mul_comm (2 ^ (7 * i)) 128, ← Nat.mul_assoc, ← Nat.add_mul]
          congr 1; omega
        omega
      rw [h1]
      simp only [hb, hx, em]
      rw [numG_enc k (i + 1) _ (m / 128) (p + 1) R (by omega) h2 (by omega) (fun _ => by omega), etot, List.length_cons]
      congr 2; omega
theorem num_enc {L : List Nat} {n p : Nat} {R : List Nat} (hn : n ≤ 4611686018427387903) (hd : L.drop p = encN n ++ R) : num L ⟨p, 0⟩ = (n, ⟨p + (encN n).length, 0⟩) := by
  have := numG_enc 9 0 0 n p R rfl hd (by simpa using hn) (fun h => absurd h (by omega))
  simpa [num] using this
theorem encN_pos (n : Nat) : 0 < (encN n).length := by
  by_cases h : n < 128
  · rw [encN_small h]; simp
  · rw [encN_big h]; simp
theorem encI_pos (n : Int) : 0 < (encI n).length := encN_pos _
theorem count_enc {L : List Nat} {n p : Nat} {R : List Nat} (hn : n ≤ R.length) (hl : L.length ≤ 4000000000) (hd : L.drop p = encN n ++ R) : count L ⟨p, 0⟩ = (n, ⟨p + (encN n).length, 0⟩) := by
  have hle := drop_le hd (encN_pos n)
  unfold count
  rw [num_enc (by omega) hd]
  unfold countOf
  have : decide (L.length - (p + (encN n).length) < n) = false := decide_eq_false (by omega)
  simp only [this]
theorem allG_enc {α : Type} {L : List Nat} {f : S → α × S} {enc : α → List Nat} : ∀ (l : List α) (p : Nat) (R : List Nat), (∀ a ∈ l, ∀ p R, L.drop p = enc a ++ R → f ⟨p, 0⟩ = (a, ⟨p + (enc a).length, 0⟩)) → L.drop p = l.flatMap enc ++ R → allG f l.length ⟨p, 0⟩ = (l, ⟨p + (l.flatMap enc).length, 0⟩)
  | [], p, R, _, _ => by simp [allG]
  | a :: l, p, R, hA, hd => by
    rw [List.flatMap_cons, List.append_assoc] at hd
    have h1 := hA a (List.mem_cons_self ..) p _ hd
    have h2 := allG_enc l _ R (fun b hb => hA b (List.mem_cons_of_mem _ hb)) (drop_len hd)
    simp only [List.length_cons, allG, h1, h2, List.flatMap_cons, List.length_append]
    congr 2; omega
theorem flat_ge {α : Type} {enc : α → List Nat} (hp : ∀ a, 0 < (enc a).length) : ∀ l : List α, l.length ≤ (l.flatMap enc).length
  | [] => by simp
  | a :: l => by
    have := flat_ge hp l
    have := hp a
    simp only [List.flatMap_cons, List.length_append, List.length_cons]; omega
theorem allS_enc {α : Type} {L : List Nat} {f : S → α × S} {enc : α → List Nat} (hp : ∀ a, 0 < (enc a).length) (hl : L.length ≤ 4000000000) {l : List α} {p : Nat} {R : List Nat} (hA : ∀ a ∈ l, ∀ p R, L.drop p = enc a ++ R → f ⟨p, 0⟩ = (a, ⟨p + (enc a).length, 0⟩)) (hd : L.drop p = encL enc l ++ R) : allS L f ⟨p, 0⟩ = (l, ⟨p + (encL enc l).length, 0⟩) := by
  unfold encL at hd ⊢
  rw [List.append_assoc] at hd
  unfold allS
  have hge := flat_ge hp l
  rw [count_enc (by rw [List.length_append]; omega) hl hd]
  simp only
  rw [allG_enc l _ R hA (drop_len hd), List.length_append, Nat.add_assoc]
theorem encL_pos {α : Type} (f : α → List Nat) (l : List α) : 0 < (encL f l).length := by
  have := encN_pos l.length
  simp only [encL, List.length_append]; omega
section
variable {L : List Nat}
theorem int_enc {n : Int} (h : plain n = true) {p : Nat} {R : List Nat} (hd : L.drop p = encI n ++ R) : num L ⟨p, 0⟩ = (n.toNat, ⟨p + (encI n).length, 0⟩) ∧ ((n.toNat : Nat) : Int) = n := by
  obtain ⟨h1, h2⟩ := plain_iff.1 h
  exact ⟨num_enc (by omega) hd, by omega⟩
theorem intS_enc {n : Int} (h : plain n = true) (p : Nat) (R : List Nat) (hd : L.drop p = encI n ++ R) : intS L ⟨p, 0⟩ = (n, ⟨p + (encI n).length, 0⟩) := by
  obtain ⟨h1, h2⟩ := int_enc h hd
  simp only [intS, natI, h1, h2]
theorem unzz_zz (z : Int) : unzz (zz z).toNat = z := by
  unfold unzz zz
  split
  · have : (-2 * z - 1).toNat % 2 = 1 := by omega
    rw [if_pos this]; omega
  · have : ¬ (2 * z).toNat % 2 = 1 := by omega
    rw [if_neg this]; omega
theorem sgn_enc {z : Int} (h : signedOk z = true) {p : Nat} {R : List Nat} (hd : L.drop p = encZ z ++ R) : sgn L ⟨p, 0⟩ = (z, ⟨p + (encZ z).length, 0⟩) := by
  obtain ⟨h1, h2⟩ := int_enc (zz_plain h) hd
  simp only [sgn, h1, unzz_zz]; rfl
theorem capS_enc {a : Int × Int} (h : capOk a = true) (p : Nat) (R : List Nat) (hd : L.drop p = encCap a ++ R) : capS L ⟨p, 0⟩ = (a, ⟨p + (encCap a).length, 0⟩) := by
  simp only [capOk, Bool.and_eq_true] at h
  unfold encCap at hd ⊢
  rw [List.append_assoc] at hd
  obtain ⟨h1, e1⟩ := int_enc h.1 hd
  obtain ⟨h2, e2⟩ := int_enc h.2 (drop_len hd)
  simp only [capS, h1, h2, e1, e2, List.length_append, Nat.add_assoc]
theorem insS_enc {a : Int × Int × Int} (h : inOk a = true) (p : Nat) (R : List Nat) (hd : L.drop p = encIn a ++ R) : insS L ⟨p, 0⟩ = (a, ⟨p + (encIn a).length, 0⟩) := by
  simp only [inOk, Bool.and_eq_true] at h
  unfold encIn at hd ⊢
  simp only [List.append_assoc] at hd
  obtain ⟨h1, e1⟩ := int_enc h.1 hd
  have d2 := drop_len hd
  have h2 := sgn_enc h.2.1 d2
  have h3 := sgn_enc h.2.2 (drop_len d2)
  simp only [insS, h1, h2, h3, e1]
  simp only [List.length_append, Nat.add_assoc]
theorem tryS_enc {a : Int × Int × Int × Int} (h : tryOk a = true) (p : Nat) (R : List Nat) (hd : L.drop p = encTry a ++ R) : tryS L ⟨p, 0⟩ = (a, ⟨p + (encTry a).length, 0⟩) := by
  simp only [tryOk, Bool.and_eq_true] at h
  unfold encTry at hd ⊢
  simp only [List.append_assoc] at hd
  obtain ⟨h1, e1⟩ := int_enc h.1 hd
  have d2 := drop_len hd
  obtain ⟨h2, e2⟩ := int_enc h.2.1 d2
  have d3 := drop_len d2
  obtain ⟨h3, e3⟩ := int_enc h.2.2.1 d3
  obtain ⟨h4, e4⟩ := int_enc h.2.2.2 (drop_len d3)
  simp only [tryS, h1, h2, h3, h4, e1, e2, e3, e4]
  simp only [List.length_append, Nat.add_assoc]
theorem encCap_pos (a : Int × Int) : 0 < (encCap a).length := by have := encI_pos a.1; simp only [encCap, List.length_append]; omega
theorem encIn_pos (a : Int × Int × Int) : 0 < (encIn a).length := by have := encI_pos a.1; simp only [encIn, List.length_append]; omega
theorem encTry_pos (a : Int × Int × Int × Int) : 0 < (encTry a).length := by have := encI_pos a.1; simp only [encTry, List.length_append]; omega
theorem encFn_pos (c : FnM) : 0 < (encFn c).length := by have := encI_pos c.params; simp only [encFn, List.length_append]; omega
theorem encS_pos (s : ByteArray) : 0 < (encS s).length := by have := encN_pos s.size; simp only [encS, List.length_append]; omega
theorem keysS_enc (hl : L.length ≤ 4000000000) {k : List Int} (h : k.all plain = true) (p : Nat) (R : List Nat) (hd : L.drop p = encL encI k ++ R) : keysS L ⟨p, 0⟩ = (k, ⟨p + (encL encI k).length, 0⟩) :=
  allS_enc encI_pos hl (fun a ha p R hd => intS_enc (all_mem h ha) p R hd) hd
theorem fnS_enc (hl : L.length ≤ 4000000000) {c : FnM} (h : fnOk c = true) (p : Nat) (R : List Nat) (hd : L.drop p = encFn c ++ R) : fnS L ⟨p, 0⟩ = (c, ⟨p + (encFn c).length, 0⟩) := by
  simp only [fnOk, Bool.and_eq_true] at h
  obtain ⟨o1, o2, o3, o4, o5, o6⟩ := h
  unfold encFn at hd ⊢
  simp only [List.append_assoc] at hd
  obtain ⟨h1, e1⟩ := int_enc o1 hd
  have d2 := drop_len hd
  obtain ⟨h2, e2⟩ := int_enc o2 d2
  have d3 := drop_len d2
  have h3 := allS_enc (f := intS L) encI_pos hl (fun a ha p R hd => intS_enc (all_mem o3 ha) p R hd) d3
  have d4 := drop_len d3
  have h4 := allS_enc (f := capS L) encCap_pos hl (fun a ha p R hd => capS_enc (all_mem o4 ha) p R hd) d4
  have d5 := drop_len d4
  have h5 := allS_enc (f := insS L) encIn_pos hl (fun a ha p R hd => insS_enc (all_mem o5 ha) p R hd) d5
  have h6 := allS_enc (f := tryS L) encTry_pos hl (fun a ha p R hd => tryS_enc (all_mem o6 ha) p R hd) (drop_len d5)
  simp only [fnS, h1, h2, h3, h4, h5, h6, e1, e2]
  simp only [List.length_append, Nat.add_assoc]
theorem strL_strB (s : ByteArray) : strL (strB s) = s := by
  unfold strL strB
  rw [List.map_map]
  have : (UInt8.ofNat ∘ fun (x : UInt8) => x.toNat) = id := by funext x; simp
  rw [this, List.map_id]
theorem textS_enc (hl : L.length ≤ 4000000000) {s : ByteArray} (p : Nat) (R : List Nat) (hd : L.drop p = encS s ++ R) : textS L ⟨p, 0⟩ = (s, ⟨p + (encS s).length, 0⟩) := by
  unfold encS at hd ⊢
  rw [List.append_assoc] at hd
  have hc := count_enc (n := s.size) (by rw [List.length_append, strB_len]; omega) hl hd
  have d2 := drop_len hd
  simp only [textS, hc, d2]
  have : (strB s ++ R).take s.size = strB s := by rw [← strB_len, List.take_left]
  rw [this, strL_strB, List.length_append, strB_len, Nat.add_assoc]
theorem magG_enc (ms R : List Nat) : ∀ p, magG ms (ms ++ R) p = ⟨p + ms.length, 0⟩ := by
  induction ms with
  | nil => intro p; rfl
  | cons m ms ih =>
    intro p
    simp only [List.cons_append, magG, if_true, ih, List.length_cons]
    congr 1; omega
theorem imgS_enc {im : ImM} (h : imOk im = true) {R : List Nat} (hL : L = encIm im ++ R) (hl : L.length ≤ 4000000000) : imgS L (magG magicB L 0) = (im, ⟨(encIm im).length, 0⟩) := by
  simp only [imOk, Bool.and_eq_true] at h
  obtain ⟨o1, o2, o3⟩ := h
  have hm : magG magicB L 0 = ⟨magicB.length, 0⟩ := by
    rw [hL, encIm, List.append_assoc, magG_enc, Nat.zero_add]
  have hd : L.drop magicB.length = encL encS im.strs ++ (encL (encL encI) im.keys ++ (encI im.globals ++ (encL encFn im.funs ++ R))) := by
    rw [hL, encIm]
    simp only [List.append_assoc]
    exact List.drop_left
  rw [hm]
  have h1 := allS_enc (f := textS L) encS_pos hl (fun a ha p R hd => textS_enc hl p R hd) hd
  have d2 := drop_len hd
  have h2 := allS_enc (f := keysS L) (encL_pos encI) hl (fun a ha p R hd => keysS_enc hl (all_mem o1 ha) p R hd) d2
  have d3 := drop_len d2
  obtain ⟨h3, e3⟩ := int_enc o2 d3
  have h4 := allS_enc (f := fnS L) encFn_pos hl (fun a ha p R hd => fnS_enc hl (all_mem o3 ha) p R hd) (drop_len d3)
  simp only [imgS, h1, h2, h3, h4, e3]
  simp only [encIm, List.length_append, Nat.add_assoc]
end
theorem decS_enc {im : ImM} (h : imOk im = true) (hl : (encIm im).length ≤ 4000000000) : decS (encIm im) = (im, ⟨(encIm im).length, 0⟩) := by
  have hi := imgS_enc h (List.append_nil (encIm im)).symm hl
  unfold decS
  rw [hi]
  simp only [endS, Nat.lt_irrefl, if_false]
/-- One byte more -/
theorem decS_more {im : ImM} (h : imOk im = true) (m : Nat) (hl : (encIm im).length ≤ 3000000000) : (decS (encIm im ++ [m])).2 = ⟨(encIm im).length, 6⟩ := by
  have hi := imgS_enc h (L := encIm im ++ [m]) (R := [m]) rfl (by rw [List.length_append]; simp; omega)
  unfold decS
  rw [hi]
  simp only [endS, List.length_append, List.length_singleton]
  rw [if_pos (by omega)]
end Go.Proofs.YtgjobbmbbedecaaDoor

/- Plain law: what is read is told by the same bytes. -/
namespace Go.Proofs.YtgjobbmbbedecaaDoor
open Go Go.Abs Go.Proofs
set_option maxRecDepth 100000
set_option maxHeartbeats 2000000
set_option linter.unusedVariables false
set_option linter.unusedSimpArgs false
section
variable {L : List Nat}
/-! a fault stays -/
theorem num_e {s : S} (h : (num L s).2.e = 0) : s.e = 0 := by
  unfold num at h
  cases he : s.e with
  | zero => rfl
  | succ e => rw [he] at h; simp only at h; rw [he] at h; cases h
theorem failS_e {s : S} {e p : Nat} (h : (failS s (e + 1) p).e = 0) : False := by
  unfold failS at h
  cases he : s.e with
  | zero => rw [he] at h; cases h
  | succ e => rw [he] at h; simp only at h; rw [he] at h; cases h
theorem countOf_e {p : Nat} {r : Nat × S} (h : (countOf L p r).2.e = 0) : r.2.e = 0 ∧ countOf L p r = r ∧ r.1 ≤ L.length - r.2.at_ := by
  unfold countOf at h ⊢
  cases hd : decide (L.length - r.2.at_ < r.1) with
  | true => rw [hd] at h; exact (failS_e h).elim
  | false =>
    have := of_decide_eq_false hd
    rw [hd] at h
    simp only at h ⊢
    cases he : r.2.e with
    | zero => exact ⟨rfl, rfl, by omega⟩
    | succ e => rw [he] at h; simp only at h; rw [he] at h; cases h
theorem count_e {s : S} (h : (count L s).2.e = 0) : (num L s).2.e = 0 ∧ count L s = num L s ∧ (num L s).1 ≤ L.length - (num L s).2.at_ := countOf_e h
theorem allG_e {α : Type} {f : S → α × S} (hf : ∀ s, (f s).2.e = 0 → s.e = 0) : ∀ (n : Nat) (s : S), (allG f n s).2.e = 0 → s.e = 0
  | 0, s, h => h
  | n + 1, s, h => by
    unfold allG at h
    cases he : s.e with
    | zero => rfl
    | succ e => rw [he] at h; simp only at h; rw [he] at h; cases h
theorem allS_e {α : Type} {f : S → α × S} (hf : ∀ s, (f s).2.e = 0 → s.e = 0) {s : S} (h : (allS L f s).2.e = 0) : s.e = 0 := num_e (count_e (allG_e hf _ _ h)).1
theorem intS_e (s : S) (h : (intS L s).2.e = 0) : s.e = 0 := num_e h
theorem sgn_e {s : S} (h : (sgn L s).2.e = 0) : s.e = 0 := num_e h
theorem capS_e (s : S) (h : (capS L s).2.e = 0) : s.e = 0 := num_e (num_e h)
theorem insS_e (s : S) (h : (insS L s).2.e = 0) : s.e = 0 := num_e (sgn_e (sgn_e h))
theorem tryS_e (s : S) (h : (tryS L s).2.e = 0) : s.e = 0 := num_e (num_e (num_e (num_e h)))
theorem keysS_e (s : S) (h : (keysS L s).2.e = 0) : s.e = 0 := allS_e intS_e h
theorem fnS_e (s : S) (h : (fnS L s).2.e = 0) : s.e = 0 := num_e (num_e (allS_e intS_e (allS_e capS_e (allS_e insS_e (allS_e tryS_e h)))))
theorem textS_e (s : S) (h : (textS L s).2.e = 0) : s.e = 0 := by
  unfold textS at h
  simp only at h
  cases he : (count L s).2.e with
  | zero => exact num_e (count_e he).1
  | succ e => rw [he] at h; simp only at h; rw [he] at h; cases h
/-! what was read is what is told -/
/-- From p on the bytes of a stand, ahead of where s is -/
def Can (L : List Nat) (p : Nat) (b : List Nat) (s : S) : Prop := L.drop p = b ++ L.drop s.at_
theorem numG_can (hL : ∀ x ∈ L, x < 256) : ∀ (k i v p : Nat), (numG L k i v p).2.e = 0 → ∃ m, (numG L k i v p).1 = v + m * 2 ^ (7 * i) ∧ Can L p (encN m) (numG L k i v p).2 ∧ (0 < i → 0 < m)
  | 0, i, v, p, h => by simp [numG] at h
  | k + 1, i, v, p, h => by
    unfold numG at h ⊢
    cases hx : L[p]? with
    | none => rw [hx] at h; cases h
    | some x =>
      rw [hx] at h
      have hlt := (List.getElem?_eq_some_iff.1 hx).1
      have hdp : L.drop p = x :: L.drop (p + 1) := by rw [List.drop_eq_getElem_cons hlt, (List.getElem?_eq_some_iff.1 hx).2]
      have hx256 := hL x (List.mem_of_getElem? hx)
      simp only at h ⊢
      cases hb : badN i x with
      | true => rw [hb] at h; cases h
      | false =>
        rw [hb] at h
        simp only at h ⊢
        have hx0 : 0 < i → x ≠ 0 := fun hi h0 => by
          simp only [badN, Bool.or_eq_false_iff, Bool.and_eq_false_iff, decide_eq_false_iff_not] at hb
          rcases hb.1 with h1 | h1
          · exact h1 hi
          · exact h1 h0
        cases hd : decide (x < 128) with
        | true =>
          have hx128 := of_decide_eq_true hd
          refine ⟨x, by simp only; rw [Nat.mod_eq_of_lt hx128], ?_, fun hi => by have := hx0 hi; omega⟩
          show L.drop p = encN x ++ L.drop (p + 1)
          rw [encN_small hx128, hdp]; rfl
        | false =>
          have hx128 := of_decide_eq_false hd
          rw [hd] at h
          simp only at h ⊢
          obtain ⟨m, h1, h2, h3⟩ := numG_can hL k (i + 1) _ (p + 1) h
          have hm := h3 (by omega)
          refine ⟨x % 128 + m * 128, ?_, ?_, fun _ => by omega⟩
          · rw [h1]
            have e7 : 2 ^ (7 * (i + 1)) = 2 ^ (7 * i) * 128 := by rw [Nat.mul_add, Nat.pow_add]
            rw [e7, Nat.add_mul, Nat.mul_comm (2 ^ (7 * i)) 128, Nat.mul_assoc, Nat.add_assoc]
          · unfold Can at h2 ⊢
            rw [encN_big (by omega), hdp, h2]
            have e1 : 128 + (x % 128 + m * 128) % 128 = x := by omega
            have e2 : (x % 128 + m * 128) / 128 = m := by omega
            rw [e1, e2]; rfl
theorem num_can (hL : ∀ x ∈ L, x < 256) {s : S} (h : (num L s).2.e = 0) : Can L s.at_ (encN (num L s).1) (num L s).2 := by
  have hs := num_e h
  unfold num at h ⊢
  rw [hs] at h ⊢
  simp only at h ⊢
  obtain ⟨m, h1, h2, _⟩ := numG_can hL 9 0 0 s.at_ h
  have : (numG L 9 0 0 s.at_).1 = m := by rw [h1]; simp
  rw [this]; exact h2
theorem Can.trans {p : Nat} {a b : List Nat} {s t : S} (h1 : Can L p a s) (h2 : Can L s.at_ b t) : Can L p (a ++ b) t := by
  unfold Can at *
  rw [h1, h2, List.append_assoc]
theorem plain_nat {n : Nat} (h : n ≤ 4611686018427387903) : plain (n : Int) = true ∧ encI (n : Int) = encN n := ⟨plain_iff.2 ⟨by omega, by omega⟩, rfl⟩
theorem int_can (hL : ∀ x ∈ L, x < 256) {s : S} (h : (num L s).2.e = 0) : plain ((num L s).1 : Int) = true ∧ Can L s.at_ (encI ((num L s).1 : Int)) (num L s).2 :=
  ⟨(plain_nat (num_lt hL s)).1, num_can hL h⟩
theorem sgn_can (hL : ∀ x ∈ L, x < 256) {s : S} (h : (sgn L s).2.e = 0) : signedOk (sgn L s).1 = true ∧ Can L s.at_ (encZ (sgn L s).1) (sgn L s).2 := by
  have h1 := num_can hL h
  have h2 := num_lt hL s
  have e : zz (sgn L s).1 = ((num L s).1 : Int) := by
    simp only [sgn, unzz]
    unfold zz
    split <;> split <;> omega
  refine ⟨?_, ?_⟩
  · rw [signed_iff]
    simp only [sgn, unzz]
    split <;> omega
  · rw [encZ, e]; exact h1
theorem count_can (hL : ∀ x ∈ L, x < 256) {s : S} (h : (count L s).2.e = 0) : Can L s.at_ (encN (count L s).1) (count L s).2 := by
  obtain ⟨h1, h2, _⟩ := count_e h
  rw [h2]; exact num_can hL h1
theorem allG_can {α : Type} {f : S → α × S} {enc : α → List Nat} {ok : α → Bool} (hf : ∀ s, (f s).2.e = 0 → s.e = 0) (hc : ∀ s, (f s).2.e = 0 → ok (f s).1 = true ∧ Can L s.at_ (enc (f s).1) (f s).2) : ∀ (n : Nat) (s : S), (allG f n s).2.e = 0 → (allG f n s).1.length = n ∧ (allG f n s).1.all ok = true ∧ Can L s.at_ ((allG f n s).1.flatMap enc) (allG f n s).2
  | 0, s, h => ⟨rfl, rfl, rfl⟩
  | n + 1, s, h => by
    have hs := allG_e hf _ _ h
    unfold allG at h ⊢
    rw [hs] at h ⊢
    simp only at h ⊢
    obtain ⟨h1, h2, h3⟩ := allG_can hf hc n (f s).2 h
    obtain ⟨h4, h5⟩ := hc s (allG_e hf _ _ h)
    refine ⟨by simp [h1], by simp [h4, h2], ?_⟩
    rw [List.flatMap_cons]
    exact h5.trans h3
theorem allS_can (hL : ∀ x ∈ L, x < 256) {α : Type} {f : S → α × S} {enc : α → List Nat} {ok : α → Bool} (hf : ∀ s, (f s).2.e = 0 → s.e = 0) (hc : ∀ s, (f s).2.e = 0 → ok (f s).1 = true ∧ Can L s.at_ (enc (f s).1) (f s).2) {s : S} (h : (allS L f s).2.e = 0) : (allS L f s).1.all ok = true ∧ Can L s.at_ (encL enc (allS L f s).1) (allS L f s).2 := by
  unfold allS at h ⊢
  have h0 := allG_e hf _ _ h
  obtain ⟨h1, h2, h3⟩ := allG_can hf hc _ _ h
  refine ⟨h2, ?_⟩
  unfold encL
  rw [h1]
  exact (count_can hL h0).trans h3
theorem intS_can (hL : ∀ x ∈ L, x < 256) (s : S) (h : (intS L s).2.e = 0) : plain (intS L s).1 = true ∧ Can L s.at_ (encI (intS L s).1) (intS L s).2 := int_can hL h
theorem capS_can (hL : ∀ x ∈ L, x < 256) (s : S) (h : (capS L s).2.e = 0) : capOk (capS L s).1 = true ∧ Can L s.at_ (encCap (capS L s).1) (capS L s).2 := by
  have h1 := num_e h
  obtain ⟨a1, a2⟩ := int_can hL h1
  obtain ⟨b1, b2⟩ := int_can hL (s := (num L s).2) h
  exact ⟨by simp only [capOk, capS, a1, b1, Bool.and_self], a2.trans b2⟩
theorem insS_can (hL : ∀ x ∈ L, x < 256) (s : S) (h : (insS L s).2.e = 0) : inOk (insS L s).1 = true ∧ Can L s.at_ (encIn (insS L s).1) (insS L s).2 := by
  have h2 := sgn_e (s := (sgn L (num L s).2).2) h
  have h1 := sgn_e (s := (num L s).2) h2
  obtain ⟨a1, a2⟩ := int_can hL h1
  obtain ⟨b1, b2⟩ := sgn_can hL h2
  obtain ⟨c1, c2⟩ := sgn_can hL (s := (sgn L (num L s).2).2) h
  exact ⟨by simp only [inOk, insS, a1, b1, c1, Bool.and_self], a2.trans (b2.trans c2)⟩
theorem tryS_can (hL : ∀ x ∈ L, x < 256) (s : S) (h : (tryS L s).2.e = 0) : tryOk (tryS L s).1 = true ∧ Can L s.at_ (encTry (tryS L s).1) (tryS L s).2 := by
  have h3 := num_e (s := (num L (num L (num L s).2).2).2) h
  have h2 := num_e (s := (num L (num L s).2).2) h3
  have h1 := num_e (s := (num L s).2) h2
  obtain ⟨a1, a2⟩ := int_can hL h1
  obtain ⟨b1, b2⟩ := int_can hL h2
  obtain ⟨c1, c2⟩ := int_can hL h3
  obtain ⟨d1, d2⟩ := int_can hL (s := (num L (num L (num L s).2).2).2) h
  exact ⟨by simp only [tryOk, tryS, a1, b1, c1, d1, Bool.and_self], a2.trans (b2.trans (c2.trans d2))⟩
theorem keysS_can (hL : ∀ x ∈ L, x < 256) (s : S) (h : (keysS L s).2.e = 0) : (keysS L s).1.all plain = true ∧ Can L s.at_ (encL encI (keysS L s).1) (keysS L s).2 := allS_can hL intS_e (intS_can hL) h
theorem fnS_can (hL : ∀ x ∈ L, x < 256) (s : S) (h : (fnS L s).2.e = 0) : fnOk (fnS L s).1 = true ∧ Can L s.at_ (encFn (fnS L s).1) (fnS L s).2 := by
  simp only [fnS] at h ⊢
  have h5 := allS_e tryS_e h
  have h4 := allS_e insS_e h5
  have h3 := allS_e capS_e h4
  have h2 := allS_e intS_e h3
  have h1 := num_e h2
  obtain ⟨a1, a2⟩ := int_can hL h1
  obtain ⟨b1, b2⟩ := int_can hL h2
  obtain ⟨c1, c2⟩ := allS_can hL intS_e (intS_can hL) h3
  obtain ⟨d1, d2⟩ := allS_can hL capS_e (capS_can hL) h4
  obtain ⟨e1, e2⟩ := allS_can hL insS_e (insS_can hL) h5
  obtain ⟨f1, f2⟩ := allS_can hL tryS_e (tryS_can hL) h
  exact ⟨by simp only [fnOk, a1, b1, c1, d1, e1, f1, Bool.and_self], a2.trans (b2.trans (c2.trans (d2.trans (e2.trans f2))))⟩
theorem strB_strL {l : List Nat} (h : ∀ x ∈ l, x < 256) : strB (strL l) = l := by
  unfold strB strL
  simp only [List.map_map]
  rw [show l.map ((fun (x : UInt8) => x.toNat) ∘ UInt8.ofNat) = l.map id from List.map_congr_left fun a ha => by
    have := h a ha
    simp [UInt8.toNat_ofNat, Nat.mod_eq_of_lt this]]
  simp
theorem strL_size (l : List Nat) : (strL l).size = l.length := by
  show (l.map UInt8.ofNat).toArray.size = _
  simp
theorem textS_can (hL : ∀ x ∈ L, x < 256) (s : S) (h : (textS L s).2.e = 0) : True ∧ Can L s.at_ (encS (textS L s).1) (textS L s).2 := by
  refine ⟨trivial, ?_⟩
  have h0 : (count L s).2.e = 0 := by
    unfold textS at h
    simp only at h
    cases he : (count L s).2.e with
    | zero => rfl
    | succ e => rw [he] at h; simp only at h; rw [he] at h; cases h
  have hc := count_can hL h0
  obtain ⟨h1, h2, h3⟩ := count_e h0
  rw [← h2] at h3
  unfold textS
  simp only [h0]
  have hlen : ((L.drop (count L s).2.at_).take (count L s).1).length = (count L s).1 := by rw [List.length_take, List.length_drop]; omega
  have hsub : ∀ x ∈ (L.drop (count L s).2.at_).take (count L s).1, x < 256 := fun x hx => hL x (List.mem_of_mem_drop (List.mem_of_mem_take hx))
  unfold encS
  rw [strL_size, hlen, strB_strL hsub]
  refine hc.trans ?_
  show L.drop _ = _ ++ L.drop ((count L s).2.at_ + (count L s).1)
  rw [← List.drop_drop, List.take_append_drop]
theorem magG_can : ∀ (ms xs : List Nat) (p : Nat), (magG ms xs p).e = 0 → ∃ ys, xs = ms ++ ys ∧ magG ms xs p = ⟨p + ms.length, 0⟩
  | [], xs, p, _ => ⟨xs, rfl, rfl⟩
  | m :: ms, [], p, h => by cases h
  | m :: ms, x :: xs, p, h => by
    unfold magG at h ⊢
    by_cases hx : x = m
    · rw [if_pos hx] at h ⊢
      obtain ⟨ys, h1, h2⟩ := magG_can ms xs (p + 1) h
      refine ⟨ys, by rw [hx, h1]; rfl, ?_⟩
      rw [h2, List.length_cons]; congr 1; omega
    · rw [if_neg hx] at h; cases h
theorem imgS_e {s : S} (h : (imgS L s).2.e = 0) : s.e = 0 := allS_e textS_e (allS_e keysS_e (num_e (allS_e fnS_e h)))
theorem imgS_can (hL : ∀ x ∈ L, x < 256) (h : (imgS L (magG magicB L 0)).2.e = 0) : imOk (imgS L (magG magicB L 0)).1 = true ∧ Can L 0 (encIm (imgS L (magG magicB L 0)).1) (imgS L (magG magicB L 0)).2 := by
  obtain ⟨ys, hL2, hm⟩ := magG_can magicB L 0 (imgS_e h)
  rw [hm] at h ⊢
  simp only [imgS] at h ⊢
  have h3 := allS_e fnS_e h
  have h2 := num_e h3
  have h1 := allS_e keysS_e h2
  obtain ⟨_, a2⟩ := allS_can hL (ok := fun _ => true) textS_e (fun s hs => ⟨rfl, (textS_can hL s hs).2⟩) h1
  obtain ⟨b1, b2⟩ := allS_can hL (ok := fun k => k.all plain) (enc := encL encI) keysS_e (keysS_can hL) h2
  obtain ⟨c1, c2⟩ := int_can hL h3
  obtain ⟨d1, d2⟩ := allS_can hL fnS_e (fnS_can hL) h
  have h0 : Can L 0 magicB ⟨0 + magicB.length, 0⟩ := by
    show L.drop 0 = magicB ++ L.drop (0 + magicB.length)
    rw [hL2, Nat.zero_add, List.drop_left]; rfl
  exact ⟨by simp only [imOk, b1, c1, d1, Bool.and_self], h0.trans (a2.trans (b2.trans (c2.trans d2)))⟩
/-- What is read is told by the same bytes -/
theorem decS_can (hL : ∀ x ∈ L, x < 256) (h : (decS L).2.e = 0) : imOk (decS L).1 = true ∧ encIm (decS L).1 = L ∧ (decS L).2 = ⟨L.length, 0⟩ := by
  unfold decS at h ⊢
  simp only at h ⊢
  have ho := imgS_ok (L := L) _ (mag_ok L)
  have he : (imgS L (magG magicB L 0)).2.e = 0 ∧ (imgS L (magG magicB L 0)).2.at_ = L.length := by
    have ho' : (imgS L (magG magicB L 0)).2.at_ ≤ L.length := ho
    unfold endS at h
    cases hz : (imgS L (magG magicB L 0)).2.e with
    | zero =>
      rw [hz] at h
      simp only at h
      by_cases hlt : (imgS L (magG magicB L 0)).2.at_ < L.length
      · rw [if_pos hlt] at h; cases h
      · exact ⟨rfl, by omega⟩
    | succ e => rw [hz] at h; simp only at h; rw [hz] at h; cases h
  obtain ⟨h1, h2⟩ := imgS_can hL he.1
  refine ⟨h1, ?_, ?_⟩
  · unfold Can at h2
    rw [he.2, List.drop_length, List.append_nil] at h2
    exact h2.symm
  · unfold endS
    rw [he.1]
    simp only [he.2, Nat.lt_irrefl, if_false]
    generalize (imgS L (magG magicB L 0)).2 = s at *
    obtain ⟨p, e⟩ := s
    obtain ⟨rfl, rfl⟩ := he
    rfl
end
end Go.Proofs.YtgjobbmbbedecaaDoor

/- Plain law: bytes cut short are none; which faults there are. -/
namespace Go.Proofs.YtgjobbmbbedecaaDoor
open Go Go.Abs Go.Proofs
set_option maxRecDepth 100000
set_option maxHeartbeats 2000000
set_option linter.unusedVariables false
set_option linter.unusedSimpArgs false
section
variable {L R : List Nat}
theorem numG_ext : ∀ (k i v p : Nat), (numG L k i v p).2.e = 0 → numG (L ++ R) k i v p = numG L k i v p
  | 0, i, v, p, h => by cases h
  | k + 1, i, v, p, h => by
    unfold numG at h ⊢
    cases hx : L[p]? with
    | none => rw [hx] at h; cases h
    | some x =>
      have hx2 : (L ++ R)[p]? = some x := by rw [List.getElem?_append_left (List.getElem?_eq_some_iff.1 hx).1]; exact hx
      rw [hx] at h
      rw [hx2]
      simp only at h ⊢
      cases hb : badN i x with
      | true => rfl
      | false =>
        rw [hb] at h
        simp only at h ⊢
        cases hd : decide (x < 128) with
        | true => rfl
        | false => rw [hd] at h; exact numG_ext k _ _ _ h
theorem num_ext {s : S} (h : (num L s).2.e = 0) : num (L ++ R) s = num L s := by
  have hs := num_e h
  unfold num at h ⊢
  rw [hs] at h ⊢
  exact numG_ext _ _ _ _ h
theorem count_ext {s : S} (h : (count L s).2.e = 0) : count (L ++ R) s = count L s := by
  obtain ⟨h1, h2, h3⟩ := count_e h
  rw [h2]
  unfold count
  rw [num_ext h1]
  unfold countOf
  have hd : decide ((L ++ R).length - (num L s).2.at_ < (num L s).1) = false := decide_eq_false (by rw [List.length_append]; omega)
  simp only [hd, h1]
theorem allG_ext {α : Type} {f g : S → α × S} (hf : ∀ s, (f s).2.e = 0 → s.e = 0) (hx : ∀ s, (f s).2.e = 0 → g s = f s) : ∀ (n : Nat) (s : S), (allG f n s).2.e = 0 → allG g n s = allG f n s
  | 0, s, h => rfl
  | n + 1, s, h => by
    have hs := allG_e hf _ _ h
    unfold allG at h ⊢
    rw [hs] at h ⊢
    simp only at h ⊢
    have h0 := allG_e hf _ _ h
    rw [hx s h0, allG_ext hf hx n _ h]
theorem allS_ext {α : Type} {f g : S → α × S} (hf : ∀ s, (f s).2.e = 0 → s.e = 0) (hx : ∀ s, (f s).2.e = 0 → g s = f s) {s : S} (h : (allS L f s).2.e = 0) : allS (L ++ R) g s = allS L f s := by
  unfold allS at h ⊢
  rw [count_ext (allG_e hf _ _ h)]
  exact allG_ext hf hx _ _ h
theorem intS_ext (s : S) (h : (intS L s).2.e = 0) : intS (L ++ R) s = intS L s := by
  have : (num L s).2.e = 0 := h
  simp only [intS, num_ext this]
theorem sgn_ext {s : S} (h : (sgn L s).2.e = 0) : sgn (L ++ R) s = sgn L s := by
  have : (num L s).2.e = 0 := h
  simp only [sgn, num_ext this]
theorem capS_ext (s : S) (h : (capS L s).2.e = 0) : capS (L ++ R) s = capS L s := by
  have h1 := num_e (s := (num L s).2) h
  have h2 : (num L (num L s).2).2.e = 0 := h
  simp only [capS, num_ext h1, num_ext h2]
theorem insS_ext (s : S) (h : (insS L s).2.e = 0) : insS (L ++ R) s = insS L s := by
  have h3 : (sgn L (sgn L (num L s).2).2).2.e = 0 := h
  have h2 := sgn_e h3
  have h1 := sgn_e h2
  simp only [insS, num_ext h1, sgn_ext h2, sgn_ext h3]
theorem tryS_ext (s : S) (h : (tryS L s).2.e = 0) : tryS (L ++ R) s = tryS L s := by
  have h4 : (num L (num L (num L (num L s).2).2).2).2.e = 0 := h
  have h3 := num_e h4
  have h2 := num_e h3
  have h1 := num_e h2
  simp only [tryS, num_ext h1, num_ext h2, num_ext h3, num_ext h4]
theorem keysS_ext (s : S) (h : (keysS L s).2.e = 0) : keysS (L ++ R) s = keysS L s := allS_ext intS_e intS_ext h
theorem fnS_ext (s : S) (h : (fnS L s).2.e = 0) : fnS (L ++ R) s = fnS L s := by
  simp only [fnS] at h ⊢
  have h5 := allS_e tryS_e h
  have h4 := allS_e insS_e h5
  have h3 := allS_e capS_e h4
  have h2 := allS_e intS_e h3
  have h1 := num_e h2
  rw [num_ext h1, num_ext h2, allS_ext intS_e intS_ext h3, allS_ext capS_e capS_ext h4, allS_ext insS_e insS_ext h5, allS_ext tryS_e tryS_ext h]
theorem textS_ext (s : S) (h : (textS L s).2.e = 0) : textS (L ++ R) s = textS L s := by
  have h0 : (count L s).2.e = 0 := by
    unfold textS at h
    simp only at h
    cases he : (count L s).2.e with
    | zero => rfl
    | succ e => rw [he] at h; simp only at h; rw [he] at h; cases h
  obtain ⟨h1, h2, h3⟩ := count_e h0
  rw [← h2] at h3
  unfold textS
  simp only [count_ext h0, h0]
  by_cases hq : (count L s).2.at_ ≤ L.length
  · rw [List.drop_append_of_le_length hq, List.take_append_of_le_length (by rw [List.length_drop]; exact h3)]
  · have : (count L s).1 = 0 := by omega
    rw [this]; simp
theorem magG_ext : ∀ (ms xs : List Nat) (p : Nat), (magG ms xs p).e = 0 → magG ms (xs ++ R) p = magG ms xs p
  | [], xs, p, _ => rfl
  | m :: ms, [], p, h => by cases h
  | m :: ms, x :: xs, p, h => by
    simp only [magG, List.cons_append] at h ⊢
    by_cases hx : x = m
    · rw [if_pos hx] at h ⊢
      rw [if_pos hx]
      exact magG_ext ms xs (p + 1) h
    · rw [if_neg hx] at h; cases h
theorem imgS_ext (h : (imgS L (magG magicB L 0)).2.e = 0) : imgS (L ++ R) (magG magicB (L ++ R) 0) = imgS L (magG magicB L 0) := by
  rw [magG_ext _ _ _ (imgS_e h)]
  generalize magG magicB L 0 = s at *
  simp only [imgS] at h ⊢
  have h3 := allS_e fnS_e h
  have h2 := num_e h3
  have h1 := allS_e keysS_e h2
  rw [allS_ext textS_e textS_ext h1, allS_ext keysS_e keysS_ext h2, num_ext h3, allS_ext fnS_e fnS_ext h]
end
theorem endS_e {L : List Nat} {s : S} (h : (endS L s).e = 0) : s.e = 0 ∧ ¬ s.at_ < L.length := by
  unfold endS at h
  cases he : s.e with
  | zero =>
    rw [he] at h
    simp only at h
    by_cases hp : s.at_ < L.length
    · rw [if_pos hp] at h; cases h
    · exact ⟨rfl, hp⟩
  | succ e => rw [he] at h; simp only at h; rw [he] at h; cases h
/-- An image's bytes cut short are none -/
theorem decS_cut {im : ImM} (h : imOk im = true) (hl : (encIm im).length ≤ 3000000000) {n : Nat} (hn : n < (encIm im).length) : (decS ((encIm im).take n)).2.e ≠ 0 := by
  intro h0
  unfold decS at h0
  simp only at h0
  obtain ⟨h1, h2⟩ := endS_e h0
  have hx := imgS_ext (R := (encIm im).drop n) h1
  rw [List.take_append_drop] at hx
  have he := imgS_enc h (List.append_nil (encIm im)).symm (by omega)
  rw [he] at hx
  have ho := imgS_ok (L := (encIm im).take n) _ (mag_ok _)
  rw [← hx] at ho
  have : (encIm im).length ≤ ((encIm im).take n).length := ho
  rw [List.length_take] at this
  omega
/-! which faults there are -/
def Cd (s : S) : Prop := s.e = 0 ∨ s.e = 3 ∨ s.e = 6
section
variable {L : List Nat}
theorem numG_cd : ∀ (k i v p : Nat), Cd (numG L k i v p).2
  | 0, i, v, p => .inr (.inr rfl)
  | k + 1, i, v, p => by
    unfold numG
    cases L[p]? with
    | none => exact .inr (.inr rfl)
    | some x =>
      simp only
      cases badN i x with
      | true => exact .inr (.inr rfl)
      | false =>
        simp only
        cases decide (x < 128) with
        | true => exact .inl rfl
        | false => exact numG_cd k _ _ _
theorem num_cd {s : S} (h : Cd s) : Cd (num L s).2 := by
  unfold num
  cases he : s.e with
  | zero => exact numG_cd _ _ _ _
  | succ e => exact h
theorem count_cd {s : S} (h : Cd s) : Cd (count L s).2 := by
  have hn := num_cd (L := L) h
  unfold count countOf
  cases decide (L.length - (num L s).2.at_ < (num L s).1) with
  | true =>
    simp only [failS]
    cases he : (num L s).2.e with
    | zero => exact .inr (.inl rfl)
    | succ e => exact hn
  | false =>
    simp only
    cases he : (num L s).2.e with
    | zero => exact hn
    | succ e => exact hn
theorem allG_cd {α : Type} {f : S → α × S} (hf : ∀ s, Cd s → Cd (f s).2) : ∀ (n : Nat) (s : S), Cd s → Cd (allG f n s).2
  | 0, s, h => h
  | n + 1, s, h => by
    unfold allG
    cases s.e with
    | zero => exact allG_cd hf n _ (hf s h)
    | succ e => exact h
theorem allS_cd {α : Type} {f : S → α × S} (hf : ∀ s, Cd s → Cd (f s).2) {s : S} (h : Cd s) : Cd (allS L f s).2 := allG_cd hf _ _ (count_cd h)
theorem textS_cd (s : S) (h : Cd s) : Cd (textS L s).2 := by
  have hc := count_cd (L := L) h
  unfold textS
  simp only
  cases (count L s).2.e with
  | zero => exact .inl rfl
  | succ e => exact hc
theorem fnS_cd (s : S) (h : Cd s) : Cd (fnS L s).2 :=
  allS_cd (f := tryS L) (fun s h => num_cd (num_cd (num_cd (num_cd h)))) (allS_cd (f := insS L) (fun s h => num_cd (num_cd (num_cd h))) (allS_cd (f := capS L) (fun s h => num_cd (num_cd h)) (allS_cd (f := intS L) (fun s h => num_cd h) (num_cd (num_cd h)))))
theorem magG_cd : ∀ (ms xs : List Nat) (p : Nat), Cd (magG ms xs p)
  | [], xs, p => .inl rfl
  | m :: ms, [], p => .inr (.inr rfl)
  | m :: ms, x :: xs, p => by
    unfold magG
    split
    · exact magG_cd ms xs (p + 1)
    · exact .inr (.inr rfl)
theorem decS_cd : Cd (decS L).2 := by
  have h : Cd (imgS L (magG magicB L 0)).2 := allS_cd (f := fnS L) fnS_cd (num_cd (allS_cd (f := keysS L) (fun s h => allS_cd (f := intS L) (fun s h => num_cd h) h) (allS_cd (f := textS L) textS_cd (magG_cd _ _ _))))
  unfold decS
  simp only
  unfold endS
  cases he : (imgS L (magG magicB L 0)).2.e with
  | zero =>
    simp only
    split
    · exact .inr (.inr rfl)
    · exact h
  | succ e => exact h
theorem decS_ok : (decS L).2.at_ ≤ L.length := endS_ok (imgS_ok _ (mag_ok L))
end
end Go.Proofs.YtgjobbmbbedecaaDoor

/- What is too big to be asked. -/
namespace Go.Proofs.YtgjobbmbbedecaaDoor
open Go Go.Abs Go.Proofs
set_option maxRecDepth 100000
set_option maxHeartbeats 8000000
set_option linter.unusedVariables false
set_option linter.unusedSimpArgs false
theorem big_spec {v : V} {im : ImM} (q : ImV v im) (H : Hp) : wpCall EW 11 [v] H (fun out H' => ∃ b, out = .ret (.bool b) false ∧ H' = H ∧ (b = false → imSm im)) := by
  obtain ⟨fu, st, ke, fs, ks, rfl, hf, hs, hk, f2, k2⟩ := q
  have z1 := fun st => (hf []).shutIn st
  have z2 := fun s => (hs []).shutIn s
  have z3 := fun st => (hk []).shutIn st
  have y1 := fun n => (hf []).clip n
  have y2 := fun n => (hs []).clip n
  have y3 := fun n => (hk []).clip n
  have x1 := (hf []).cells1
  have x2 := (hs []).cells1
  have x3 := (hk []).cells1
  have w1 := (hf []).ok
  have w2 := (hs []).ok
  have w3 := (hk []).ok
  have fl := f2.len
  have kl := k2.len
  have sl : (im.strs.map V.str).length = im.strs.length := List.length_map ..
  have no : ∀ {p : Prop}, (true = false → p) := fun h => by cases h
  refine runs f11 b11 r11 n11 _ _ ?_
  simp only [bodyOf, Tryd.f11, Option.getD_some]
  have l1 := (hf H).len 50
  have l2 := (hs H).len 9
  have l3 := (hk H).len 45
  rw [fl] at l1
  rw [sl] at l2
  rw [kl] at l3
  cases g1 : decide ((30 : Int) < (im.funs.length : Int)) with
  | true =>
    simp only [WW, partV, eqCells, eqLf, minV, maxV, ifcV, zaa, zab, zac, zad, zae, zaf, zag, zah, zai, ofConst, ofConst1, List.replicate, zaj, zak, loadOp, Go.Abs.loadCells, binV, zal, pickV, zam, zan, zao, zap, zaq, zar, zas, zat, zau, outR, resAll, resOne, zav, zaw, zax, zay, zaz, zba, zbb, zbc, zbd, zbe, zbf, zbg, zbh, zbi, zbj, zbk, storeOp, storeCell, overlay, zbl, zbm, zbn, lookupOp, keyT, okRes, mapUpdateOp, zbo, zbp, zbq, zbr, zbs, zbt, zbu, Nat.reduceSub, Nat.reduceAdd, Int.reduceLT, Int.reduceLE, Int.reduceAdd, Int.reduceSub, Int.reduceToNat, Int.reduceBEq, Int.reduceBNe, Int.reduceMul, Nat.reduceBEq, Nat.reduceBNe, Nat.reduceLT, Nat.reduceLeDiff, Nat.reduceMul, Nat.reduceEqDiff, WD, effB, effH, isPriv, isHeap, isImm, zbx, zby, zbz, chkO, setD, dslot, zca, zcb, zcc, zcd, ptrCells_some, F11, z1, z2, z3, x1, x2, x3, w1, w2, w3, l1, l2, l3, g1]
    exact ⟨_, rfl, no⟩
  | false =>
  cases g2 : decide ((100 : Int) < (im.strs.length : Int)) with
  | true =>
    simp only [WW, partV, eqCells, eqLf, minV, maxV, ifcV, zaa, zab, zac, zad, zae, zaf, zag, zah, zai, ofConst, ofConst1, List.replicate, zaj, zak, loadOp, Go.Abs.loadCells, binV, zal, pickV, zam, zan, zao, zap, zaq, zar, zas, zat, zau, outR, resAll, resOne, zav, zaw, zax, zay, zaz, zba, zbb, zbc, zbd, zbe, zbf, zbg, zbh, zbi, zbj, zbk, storeOp, storeCell, overlay, zbl, zbm, zbn, lookupOp, keyT, okRes, mapUpdateOp, zbo, zbp, zbq, zbr, zbs, zbt, zbu, Nat.reduceSub, Nat.reduceAdd, Int.reduceLT, Int.reduceLE, Int.reduceAdd, Int.reduceSub, Int.reduceToNat, Int.reduceBEq, Int.reduceBNe, Int.reduceMul, Nat.reduceBEq, Nat.reduceBNe, Nat.reduceLT, Nat.reduceLeDiff, Nat.reduceMul, Nat.reduceEqDiff, WD, effB, effH, isPriv, isHeap, isImm, zbx, zby, zbz, chkO, setD, dslot, zca, zcb, zcc, zcd, ptrCells_some, F11, z1, z2, z3, x1, x2, x3, w1, w2, w3, l1, l2, l3, g1, g2]
    exact ⟨_, rfl, no⟩
  | false =>
  cases g3 : decide ((50 : Int) < (im.keys.length : Int)) with
  | true =>
    simp only [WW, partV, eqCells, eqLf, minV, maxV, ifcV, zaa, zab, zac, zad, zae, zaf, zag, zah, zai, ofConst, ofConst1, List.replicate, zaj, zak, loadOp, Go.Abs.loadCells, binV, zal, pickV, zam, zan, zao, zap, zaq, zar, zas, zat, zau, outR, resAll, resOne, zav, zaw, zax, zay, zaz, zba, zbb, zbc, zbd, zbe, zbf, zbg, zbh, zbi, zbj, zbk, storeOp, storeCell, overlay, zbl, zbm, zbn, lookupOp, keyT, okRes, mapUpdateOp, zbo, zbp, zbq, zbr, zbs, zbt, zbu, Nat.reduceSub, Nat.reduceAdd, Int.reduceLT, Int.reduceLE, Int.reduceAdd, Int.reduceSub, Int.reduceToNat, Int.reduceBEq, Int.reduceBNe, Int.reduceMul, Nat.reduceBEq, Nat.reduceBNe, Nat.reduceLT, Nat.reduceLeDiff, Nat.reduceMul, Nat.reduceEqDiff, WD, effB, effH, isPriv, isHeap, isImm, zbx, zby, zbz, chkO, setD, dslot, zca, zcb, zcc, zcd, ptrCells_some, F11, z1, z2, z3, x1, x2, x3, w1, w2, w3, l1, l2, l3, g1, g2, g3]
    exact ⟨_, rfl, no⟩
  | false =>
  have m1 : im.funs.length ≤ 30 := by have := of_decide_eq_false g1; omega
  have m2 : im.strs.length ≤ 100 := by have := of_decide_eq_false g2; omega
  have m3 : im.keys.length ≤ 50 := by have := of_decide_eq_false g3; omega
  simp only [WW, partV, eqCells, eqLf, minV, maxV, ifcV, zaa, zab, zac, zad, zae, zaf, zag, zah, zai, ofConst, ofConst1, List.replicate, zaj, zak, loadOp, Go.Abs.loadCells, binV, zal, pickV, zam, zan, zao, zap, zaq, zar, zas, zat, zau, outR, resAll, resOne, zav, zaw, zax, zay, zaz, zba, zbb, zbc, zbd, zbe, zbf, zbg, zbh, zbi, zbj, zbk, storeOp, storeCell, overlay, zbl, zbm, zbn, lookupOp, keyT, okRes, mapUpdateOp, zbo, zbp, zbq, zbr, zbs, zbt, zbu, Nat.reduceSub, Nat.reduceAdd, Int.reduceLT, Int.reduceLE, Int.reduceAdd, Int.reduceSub, Int.reduceToNat, Int.reduceBEq, Int.reduceBNe, Int.reduceMul, Nat.reduceBEq, Nat.reduceBNe, Nat.reduceLT, Nat.reduceLeDiff, Nat.reduceMul, Nat.reduceEqDiff, WD, effB, effH, isPriv, isHeap, isImm, zbx, zby, zbz, chkO, setD, dslot, zca, zcb, zcc, zcd, ptrCells_some, F11, z1, z2, z3, x1, x2, x3, w1, w2, w3, l1, l2, l3, g1, g2, g3]
  refine wC_loop _ (fun k st' H' => ∃ (i : Nat) (z : Int), st' = ⟨L11_5 (.box 0) (.v (.int .i64 z)) (.v (.int .i64 i)), [[fu, st, ke, .int .i64 im.globals]], []⟩ ∧ H' = H ∧ i ≤ im.strs.length ∧ k = im.strs.length - i ∧ ∀ (j : Nat) s, im.strs[j]? = some s → j < i → s.size ≤ 2000) im.strs.length ⟨0, 0, ?_, rfl, by omega, by omega, fun _ _ _ h => absurd h (by omega)⟩ ?_
  · simp only [WN, firstReg, growAll, zbv, zbw, norm, killS, zag, zah, zaa, zab, zbl, zat, zad, growOne, zae, zaf, zac, zas, zak, Nat.reduceLT, Nat.reduceAdd, zbj, zav, F11, L11_5, y1, y2, y3]
    rfl
  · rintro k st' H ⟨i, z, rfl, rfl, hi, rfl, hall⟩
    simp only [L11_5]
    simp only [WW, partV, eqCells, eqLf, minV, maxV, ifcV, zaa, zab, zac, zad, zae, zaf, zag, zah, zai, ofConst, ofConst1, List.replicate, zaj, zak, loadOp, Go.Abs.loadCells, binV, zal, pickV, zam, zan, zao, zap, zaq, zar, zas, zat, zau, outR, resAll, resOne, zav, zaw, zax, zay, zaz, zba, zbb, zbc, zbd, zbe, zbf, zbg, zbh, zbi, zbj, zbk, storeOp, storeCell, overlay, zbl, zbm, zbn, lookupOp, keyT, okRes, mapUpdateOp, zbo, zbp, zbq, zbr, zbs, zbt, zbu, Nat.reduceSub, Nat.reduceAdd, Int.reduceLT, Int.reduceLE, Int.reduceAdd, Int.reduceSub, Int.reduceToNat, Int.reduceBEq, Int.reduceBNe, Int.reduceMul, Nat.reduceBEq, Nat.reduceBNe, Nat.reduceLT, Nat.reduceLeDiff, Nat.reduceMul, Nat.reduceEqDiff, WD, effB, effH, isPriv, isHeap, isImm, zbx, zby, zbz, chkO, setD, dslot, zca, zcb, zcc, zcd, ptrCells_some, F11, z1, z2, z3, l2]
    refine cSplit (fun hlt => ?_) (fun hge => ?_)
    · have hi2 : i < im.strs.length := by have := of_decide_eq_true hlt; omega
      have hsk : im.strs[i]? = some im.strs[i] := List.getElem?_eq_getElem hi2
      generalize im.strs[i] = a at hsk
      simp only [hlt]
      have hat := (hs H).at_ (sz := 1) (i := i) (e := .str a) (by rw [List.getElem?_map, hsk]; rfl) rfl
      simp only [WW, partV, eqCells, eqLf, minV, maxV, ifcV, zaa, zab, zac, zad, zae, zaf, zag, zah, zai, ofConst, ofConst1, List.replicate, zaj, zak, loadOp, Go.Abs.loadCells, binV, zal, pickV, zam, zan, zao, zap, zaq, zar, zas, zat, zau, outR, resAll, resOne, zav, zaw, zax, zay, zaz, zba, zbb, zbc, zbd, zbe, zbf, zbg, zbh, zbi, zbj, zbk, storeOp, storeCell, overlay, zbl, zbm, zbn, lookupOp, keyT, okRes, mapUpdateOp, zbo, zbp, zbq, zbr, zbs, zbt, zbu, Nat.reduceSub, Nat.reduceAdd, Int.reduceLT, Int.reduceLE, Int.reduceAdd, Int.reduceSub, Int.reduceToNat, Int.reduceBEq, Int.reduceBNe, Int.reduceMul, Nat.reduceBEq, Nat.reduceBNe, Nat.reduceLT, Nat.reduceLeDiff, Nat.reduceMul, Nat.reduceEqDiff, WD, effB, effH, isPriv, isHeap, isImm, zbx, zby, zbz, chkO, setD, dslot, zca, zcb, zcc, zcd, ptrCells_some, F11, z2, hat.at1 (hs H), hat.cells]
      refine cSplit (fun h3 => ?_) (fun h3 => ?_)
      · simp only [h3]
        simp only [WW, partV, eqCells, eqLf, minV, maxV, ifcV, zaa, zab, zac, zad, zae, zaf, zag, zah, zai, ofConst, ofConst1, List.replicate, zaj, zak, loadOp, Go.Abs.loadCells, binV, zal, pickV, zam, zan, zao, zap, zaq, zar, zas, zat, zau, outR, resAll, resOne, zav, zaw, zax, zay, zaz, zba, zbb, zbc, zbd, zbe, zbf, zbg, zbh, zbi, zbj, zbk, storeOp, storeCell, overlay, zbl, zbm, zbn, lookupOp, keyT, okRes, mapUpdateOp, zbo, zbp, zbq, zbr, zbs, zbt, zbu, Nat.reduceSub, Nat.reduceAdd, Int.reduceLT, Int.reduceLE, Int.reduceAdd, Int.reduceSub, Int.reduceToNat, Int.reduceBEq, Int.reduceBNe, Int.reduceMul, Nat.reduceBEq, Nat.reduceBNe, Nat.reduceLT, Nat.reduceLeDiff, Nat.reduceMul, Nat.reduceEqDiff, WD, effB, effH, isPriv, isHeap, isImm, zbx, zby, zbz, chkO, setD, dslot, zca, zcb, zcc, zcd, ptrCells_some, F11]
        exact ⟨_, rfl, no⟩
      · have h4 := of_decide_eq_false h3
        simp only [h3]
        simp only [WW, partV, eqCells, eqLf, minV, maxV, ifcV, zaa, zab, zac, zad, zae, zaf, zag, zah, zai, ofConst, ofConst1, List.replicate, zaj, zak, loadOp, Go.Abs.loadCells, binV, zal, pickV, zam, zan, zao, zap, zaq, zar, zas, zat, zau, outR, resAll, resOne, zav, zaw, zax, zay, zaz, zba, zbb, zbc, zbd, zbe, zbf, zbg, zbh, zbi, zbj, zbk, storeOp, storeCell, overlay, zbl, zbm, zbn, lookupOp, keyT, okRes, mapUpdateOp, zbo, zbp, zbq, zbr, zbs, zbt, zbu, Nat.reduceSub, Nat.reduceAdd, Int.reduceLT, Int.reduceLE, Int.reduceAdd, Int.reduceSub, Int.reduceToNat, Int.reduceBEq, Int.reduceBNe, Int.reduceMul, Nat.reduceBEq, Nat.reduceBNe, Nat.reduceLT, Nat.reduceLeDiff, Nat.reduceMul, Nat.reduceEqDiff, WD, effB, effH, isPriv, isHeap, isImm, zbx, zby, zbz, chkO, setD, dslot, zca, zcb, zcc, zcd, ptrCells_some, F11]
        refine ⟨im.strs.length - (i + 1), by omega, i + 1, z, ?_, by omega, rfl, fun j s hj hlt => ?_⟩
        · simp only [WN, firstReg, growAll, zbv, zbw, norm, killS, zag, zah, zaa, zab, zbl, zat, zad, growOne, zae, zaf, zac, zas, zak, Nat.reduceLT, Nat.reduceAdd, zbj, zav, F11, y1, y2, y3]
          rw [IntWalk.i64_in ((i : Int) + 1) (by omega)]; rfl
        · rcases Nat.lt_or_ge j i with h | h
          · exact hall j s hj h
          · obtain rfl : j = i := by omega
            rw [hsk] at hj; cases hj; omega
    · have hi2 : i = im.strs.length := by have := of_decide_eq_false hge; omega
      have m4 : ∀ s ∈ im.strs, s.size ≤ 2000 := fun s hs => by
        obtain ⟨j, hj⟩ := List.getElem?_of_mem hs
        exact hall j s hj (by rw [hi2]; exact (List.getElem?_eq_some_iff.1 hj).1)
      clear hall
      simp only [hge]
      simp only [WW, partV, eqCells, eqLf, minV, maxV, ifcV, zaa, zab, zac, zad, zae, zaf, zag, zah, zai, ofConst, ofConst1, List.replicate, zaj, zak, loadOp, Go.Abs.loadCells, binV, zal, pickV, zam, zan, zao, zap, zaq, zar, zas, zat, zau, outR, resAll, resOne, zav, zaw, zax, zay, zaz, zba, zbb, zbc, zbd, zbe, zbf, zbg, zbh, zbi, zbj, zbk, storeOp, storeCell, overlay, zbl, zbm, zbn, lookupOp, keyT, okRes, mapUpdateOp, zbo, zbp, zbq, zbr, zbs, zbt, zbu, Nat.reduceSub, Nat.reduceAdd, Int.reduceLT, Int.reduceLE, Int.reduceAdd, Int.reduceSub, Int.reduceToNat, Int.reduceBEq, Int.reduceBNe, Int.reduceMul, Nat.reduceBEq, Nat.reduceBNe, Nat.reduceLT, Nat.reduceLeDiff, Nat.reduceMul, Nat.reduceEqDiff, WD, effB, effH, isPriv, isHeap, isImm, zbx, zby, zbz, chkO, setD, dslot, zca, zcb, zcc, zcd, ptrCells_some, F11]
      refine wC_loop _ (fun k st' H' => ∃ (i : Nat) (z : Int), st' = ⟨L11_10 (.box 0) (.v (.int .i64 z)) (.v (.int .i64 i)), [[fu, st, ke, .int .i64 im.globals]], []⟩ ∧ H' = H ∧ i ≤ im.keys.length ∧ k = im.keys.length - i ∧ ∀ (j : Nat) s, im.keys[j]? = some s → j < i → s.length ≤ 100) im.keys.length ⟨0, z, ?_, rfl, by omega, by omega, fun _ _ _ h => absurd h (by omega)⟩ ?_
      · simp only [WN, firstReg, growAll, zbv, zbw, norm, killS, zag, zah, zaa, zab, zbl, zat, zad, growOne, zae, zaf, zac, zas, zak, Nat.reduceLT, Nat.reduceAdd, zbj, zav, F11, L11_10, y1, y2, y3]
        rfl
      · rintro k st' H ⟨i, z, rfl, rfl, hi, rfl, hall⟩
        simp only [L11_10]
        simp only [WW, partV, eqCells, eqLf, minV, maxV, ifcV, zaa, zab, zac, zad, zae, zaf, zag, zah, zai, ofConst, ofConst1, List.replicate, zaj, zak, loadOp, Go.Abs.loadCells, binV, zal, pickV, zam, zan, zao, zap, zaq, zar, zas, zat, zau, outR, resAll, resOne, zav, zaw, zax, zay, zaz, zba, zbb, zbc, zbd, zbe, zbf, zbg, zbh, zbi, zbj, zbk, storeOp, storeCell, overlay, zbl, zbm, zbn, lookupOp, keyT, okRes, mapUpdateOp, zbo, zbp, zbq, zbr, zbs, zbt, zbu, Nat.reduceSub, Nat.reduceAdd, Int.reduceLT, Int.reduceLE, Int.reduceAdd, Int.reduceSub, Int.reduceToNat, Int.reduceBEq, Int.reduceBNe, Int.reduceMul, Nat.reduceBEq, Nat.reduceBNe, Nat.reduceLT, Nat.reduceLeDiff, Nat.reduceMul, Nat.reduceEqDiff, WD, effB, effH, isPriv, isHeap, isImm, zbx, zby, zbz, chkO, setD, dslot, zca, zcb, zcc, zcd, ptrCells_some, F11, z1, z2, z3, l3]
        refine cSplit (fun hlt => ?_) (fun hge => ?_)
        · have hi2 : i < im.keys.length := by have := of_decide_eq_true hlt; omega
          have hsk : im.keys[i]? = some im.keys[i] := List.getElem?_eq_getElem hi2
          generalize im.keys[i] = a at hsk
          obtain ⟨u, hu, hR⟩ := k2.get hsk
          simp only [hlt]
          have hat := (hk H).at_ (sz := 1) (i := i) (e := u) hu (hR []).width1
          have lu := (hR H).len 3
          rw [List.length_map] at lu
          simp only [WW, partV, eqCells, eqLf, minV, maxV, ifcV, zaa, zab, zac, zad, zae, zaf, zag, zah, zai, ofConst, ofConst1, List.replicate, zaj, zak, loadOp, Go.Abs.loadCells, binV, zal, pickV, zam, zan, zao, zap, zaq, zar, zas, zat, zau, outR, resAll, resOne, zav, zaw, zax, zay, zaz, zba, zbb, zbc, zbd, zbe, zbf, zbg, zbh, zbi, zbj, zbk, storeOp, storeCell, overlay, zbl, zbm, zbn, lookupOp, keyT, okRes, mapUpdateOp, zbo, zbp, zbq, zbr, zbs, zbt, zbu, Nat.reduceSub, Nat.reduceAdd, Int.reduceLT, Int.reduceLE, Int.reduceAdd, Int.reduceSub, Int.reduceToNat, Int.reduceBEq, Int.reduceBNe, Int.reduceMul, Nat.reduceBEq, Nat.reduceBNe, Nat.reduceLT, Nat.reduceLeDiff, Nat.reduceMul, Nat.reduceEqDiff, WD, effB, effH, isPriv, isHeap, isImm, zbx, zby, zbz, chkO, setD, dslot, zca, zcb, zcc, zcd, ptrCells_some, F11, z3, hat.at1 (hk H), hat.cells, (hR []).cells1, (hR []).shutIn, lu]
          refine cSplit (fun h3 => ?_) (fun h3 => ?_)
          · simp only [h3]
            simp only [WW, partV, eqCells, eqLf, minV, maxV, ifcV, zaa, zab, zac, zad, zae, zaf, zag, zah, zai, ofConst, ofConst1, List.replicate, zaj, zak, loadOp, Go.Abs.loadCells, binV, zal, pickV, zam, zan, zao, zap, zaq, zar, zas, zat, zau, outR, resAll, resOne, zav, zaw, zax, zay, zaz, zba, zbb, zbc, zbd, zbe, zbf, zbg, zbh, zbi, zbj, zbk, storeOp, storeCell, overlay, zbl, zbm, zbn, lookupOp, keyT, okRes, mapUpdateOp, zbo, zbp, zbq, zbr, zbs, zbt, zbu, Nat.reduceSub, Nat.reduceAdd, Int.reduceLT, Int.reduceLE, Int.reduceAdd, Int.reduceSub, Int.reduceToNat, Int.reduceBEq, Int.reduceBNe, Int.reduceMul, Nat.reduceBEq, Nat.reduceBNe, Nat.reduceLT, Nat.reduceLeDiff, Nat.reduceMul, Nat.reduceEqDiff, WD, effB, effH, isPriv, isHeap, isImm, zbx, zby, zbz, chkO, setD, dslot, zca, zcb, zcc, zcd, ptrCells_some, F11]
            exact ⟨_, rfl, no⟩
          · have h4 := of_decide_eq_false h3
            simp only [h3]
            simp only [WW, partV, eqCells, eqLf, minV, maxV, ifcV, zaa, zab, zac, zad, zae, zaf, zag, zah, zai, ofConst, ofConst1, List.replicate, zaj, zak, loadOp, Go.Abs.loadCells, binV, zal, pickV, zam, zan, zao, zap, zaq, zar, zas, zat, zau, outR, resAll, resOne, zav, zaw, zax, zay, zaz, zba, zbb, zbc, zbd, zbe, zbf, zbg, zbh, zbi, zbj, zbk, storeOp, storeCell, overlay, zbl, zbm, zbn, lookupOp, keyT, okRes, mapUpdateOp, zbo, zbp, zbq, zbr, zbs, zbt, zbu, Nat.reduceSub, Nat.reduceAdd, Int.reduceLT, Int.reduceLE, Int.reduceAdd, Int.reduceSub, Int.reduceToNat, Int.reduceBEq, Int.reduceBNe, Int.reduceMul, Nat.reduceBEq, Nat.reduceBNe, Nat.reduceLT, Nat.reduceLeDiff, Nat.reduceMul, Nat.reduceEqDiff, WD, effB, effH, isPriv, isHeap, isImm, zbx, zby, zbz, chkO, setD, dslot, zca, zcb, zcc, zcd, ptrCells_some, F11]
            refine ⟨im.keys.length - (i + 1), by omega, i + 1, z, ?_, by omega, rfl, fun j s hj hlt => ?_⟩
            · simp only [WN, firstReg, growAll, zbv, zbw, norm, killS, zag, zah, zaa, zab, zbl, zat, zad, growOne, zae, zaf, zac, zas, zak, Nat.reduceLT, Nat.reduceAdd, zbj, zav, F11, y1, y2, y3]
              rw [IntWalk.i64_in ((i : Int) + 1) (by omega)]; rfl
            · rcases Nat.lt_or_ge j i with h | h
              · exact hall j s hj h
              · obtain rfl : j = i := by omega
                rw [hsk] at hj; cases hj; omega
        · have hi2 : i = im.keys.length := by have := of_decide_eq_false hge; omega
          have m5 : ∀ s ∈ im.keys, s.length ≤ 100 := fun s hs => by
            obtain ⟨j, hj⟩ := List.getElem?_of_mem hs
            exact hall j s hj (by rw [hi2]; exact (List.getElem?_eq_some_iff.1 hj).1)
          clear hall
          simp only [hge]
          simp only [WW, partV, eqCells, eqLf, minV, maxV, ifcV, zaa, zab, zac, zad, zae, zaf, zag, zah, zai, ofConst, ofConst1, List.replicate, zaj, zak, loadOp, Go.Abs.loadCells, binV, zal, pickV, zam, zan, zao, zap, zaq, zar, zas, zat, zau, outR, resAll, resOne, zav, zaw, zax, zay, zaz, zba, zbb, zbc, zbd, zbe, zbf, zbg, zbh, zbi, zbj, zbk, storeOp, storeCell, overlay, zbl, zbm, zbn, lookupOp, keyT, okRes, mapUpdateOp, zbo, zbp, zbq, zbr, zbs, zbt, zbu, Nat.reduceSub, Nat.reduceAdd, Int.reduceLT, Int.reduceLE, Int.reduceAdd, Int.reduceSub, Int.reduceToNat, Int.reduceBEq, Int.reduceBNe, Int.reduceMul, Nat.reduceBEq, Nat.reduceBNe, Nat.reduceLT, Nat.reduceLeDiff, Nat.reduceMul, Nat.reduceEqDiff, WD, effB, effH, isPriv, isHeap, isImm, zbx, zby, zbz, chkO, setD, dslot, zca, zcb, zcc, zcd, ptrCells_some, F11]
          refine wC_loop _ (fun k st' H' => ∃ (i : Nat) (z : Int), st' = ⟨L11_15 (.box 0) (.v (.int .i64 z)) (.v (.int .i64 i)), [[fu, st, ke, .int .i64 im.globals]], []⟩ ∧ H' = H ∧ i ≤ im.funs.length ∧ k = im.funs.length - i ∧ ∀ (j : Nat) s, im.funs[j]? = some s → j < i → fnSm s) im.funs.length ⟨0, z, ?_, rfl, by omega, by omega, fun _ _ _ h => absurd h (by omega)⟩ ?_
          · simp only [WN, firstReg, growAll, zbv, zbw, norm, killS, zag, zah, zaa, zab, zbl, zat, zad, growOne, zae, zaf, zac, zas, zak, Nat.reduceLT, Nat.reduceAdd, zbj, zav, F11, L11_15, y1, y2, y3]
            rfl
          · rintro k st' H ⟨i, z, rfl, rfl, hi, rfl, hall⟩
            simp only [L11_15]
            simp only [WW, partV, eqCells, eqLf, minV, maxV, ifcV, zaa, zab, zac, zad, zae, zaf, zag, zah, zai, ofConst, ofConst1, List.replicate, zaj, zak, loadOp, Go.Abs.loadCells, binV, zal, pickV, zam, zan, zao, zap, zaq, zar, zas, zat, zau, outR, resAll, resOne, zav, zaw, zax, zay, zaz, zba, zbb, zbc, zbd, zbe, zbf, zbg, zbh, zbi, zbj, zbk, storeOp, storeCell, overlay, zbl, zbm, zbn, lookupOp, keyT, okRes, mapUpdateOp, zbo, zbp, zbq, zbr, zbs, zbt, zbu, Nat.reduceSub, Nat.reduceAdd, Int.reduceLT, Int.reduceLE, Int.reduceAdd, Int.reduceSub, Int.reduceToNat, Int.reduceBEq, Int.reduceBNe, Int.reduceMul, Nat.reduceBEq, Nat.reduceBNe, Nat.reduceLT, Nat.reduceLeDiff, Nat.reduceMul, Nat.reduceEqDiff, WD, effB, effH, isPriv, isHeap, isImm, zbx, zby, zbz, chkO, setD, dslot, zca, zcb, zcc, zcd, ptrCells_some, F11, z1, z2, z3, l1]
            refine cSplit (fun hlt => ?_) (fun hge => ?_)
            · have hi2 : i < im.funs.length := by have := of_decide_eq_true hlt; omega
              have hsk : im.funs[i]? = some im.funs[i] := List.getElem?_eq_getElem hi2
              generalize im.funs[i] = a at hsk
              obtain ⟨u, hu, ⟨⟨k1, k2', k3, k4, rfl, q1, q2, q3, q4⟩⟩⟩ := f2.get hsk
              simp only [hlt]
              have hat := (hf H).at_ (sz := 6) (i := i) hu rfl
              have r1 := (q1 H).len 3
              have r2 := (q2 H).len 105
              have r3 := (q3 H).len 52
              have r4 := (q4 H).len 107
              rw [List.length_map] at r1 r2 r3 r4
              simp only [WW, partV, eqCells, eqLf, minV, maxV, ifcV, zaa, zab, zac, zad, zae, zaf, zag, zah, zai, ofConst, ofConst1, List.replicate, zaj, zak, loadOp, Go.Abs.loadCells, binV, zal, pickV, zam, zan, zao, zap, zaq, zar, zas, zat, zau, outR, resAll, resOne, zav, zaw, zax, zay, zaz, zba, zbb, zbc, zbd, zbe, zbf, zbg, zbh, zbi, zbj, zbk, storeOp, storeCell, overlay, zbl, zbm, zbn, lookupOp, keyT, okRes, mapUpdateOp, zbo, zbp, zbq, zbr, zbs, zbt, zbu, Nat.reduceSub, Nat.reduceAdd, Int.reduceLT, Int.reduceLE, Int.reduceAdd, Int.reduceSub, Int.reduceToNat, Int.reduceBEq, Int.reduceBNe, Int.reduceMul, Nat.reduceBEq, Nat.reduceBNe, Nat.reduceLT, Nat.reduceLeDiff, Nat.reduceMul, Nat.reduceEqDiff, WD, effB, effH, isPriv, isHeap, isImm, zbx, zby, zbz, chkO, setD, dslot, zca, zcb, zcc, zcd, ptrCells_some, F11, z1, hat.at1 (hf H), hat.cells, (q1 []).cells1, (q2 []).cells1, (q3 []).cells1, (q4 []).cells1, (q1 []).shutIn, (q2 []).shutIn, (q3 []).shutIn, (q4 []).shutIn, (q1 []).ok, (q2 []).ok, (q3 []).ok, (q4 []).ok, r1, r2, r3, r4]
              refine gSplit (fun h0 => ?_) (fun h0 => ?_)
              · simp only [h0]
                simp only [WW, partV, eqCells, eqLf, minV, maxV, ifcV, zaa, zab, zac, zad, zae, zaf, zag, zah, zai, ofConst, ofConst1, List.replicate, zaj, zak, loadOp, Go.Abs.loadCells, binV, zal, pickV, zam, zan, zao, zap, zaq, zar, zas, zat, zau, outR, resAll, resOne, zav, zaw, zax, zay, zaz, zba, zbb, zbc, zbd, zbe, zbf, zbg, zbh, zbi, zbj, zbk, storeOp, storeCell, overlay, zbl, zbm, zbn, lookupOp, keyT, okRes, mapUpdateOp, zbo, zbp, zbq, zbr, zbs, zbt, zbu, Nat.reduceSub, Nat.reduceAdd, Int.reduceLT, Int.reduceLE, Int.reduceAdd, Int.reduceSub, Int.reduceToNat, Int.reduceBEq, Int.reduceBNe, Int.reduceMul, Nat.reduceBEq, Nat.reduceBNe, Nat.reduceLT, Nat.reduceLeDiff, Nat.reduceMul, Nat.reduceEqDiff, WD, effB, effH, isPriv, isHeap, isImm, zbx, zby, zbz, chkO, setD, dslot, zca, zcb, zcc, zcd, ptrCells_some, F11, (q1 []).cells1, (q2 []).cells1, (q3 []).cells1, (q4 []).cells1, (q1 []).shutIn, (q2 []).shutIn, (q3 []).shutIn, (q4 []).shutIn, r1, r2, r3, r4]
                exact ⟨_, rfl, no⟩
              · simp only [h0]
                simp only [WW, partV, eqCells, eqLf, minV, maxV, ifcV, zaa, zab, zac, zad, zae, zaf, zag, zah, zai, ofConst, ofConst1, List.replicate, zaj, zak, loadOp, Go.Abs.loadCells, binV, zal, pickV, zam, zan, zao, zap, zaq, zar, zas, zat, zau, outR, resAll, resOne, zav, zaw, zax, zay, zaz, zba, zbb, zbc, zbd, zbe, zbf, zbg, zbh, zbi, zbj, zbk, storeOp, storeCell, overlay, zbl, zbm, zbn, lookupOp, keyT, okRes, mapUpdateOp, zbo, zbp, zbq, zbr, zbs, zbt, zbu, Nat.reduceSub, Nat.reduceAdd, Int.reduceLT, Int.reduceLE, Int.reduceAdd, Int.reduceSub, Int.reduceToNat, Int.reduceBEq, Int.reduceBNe, Int.reduceMul, Nat.reduceBEq, Nat.reduceBNe, Nat.reduceLT, Nat.reduceLeDiff, Nat.reduceMul, Nat.reduceEqDiff, WD, effB, effH, isPriv, isHeap, isImm, zbx, zby, zbz, chkO, setD, dslot, zca, zcb, zcc, zcd, ptrCells_some, F11, (q1 []).cells1, (q2 []).cells1, (q3 []).cells1, (q4 []).cells1, (q1 []).shutIn, (q2 []).shutIn, (q3 []).shutIn, (q4 []).shutIn, r1, r2, r3, r4]
                refine gSplit (fun h1 => ?_) (fun h1 => ?_)
                · simp only [h1]
                  simp only [WW, partV, eqCells, eqLf, minV, maxV, ifcV, zaa, zab, zac, zad, zae, zaf, zag, zah, zai, ofConst, ofConst1, List.replicate, zaj, zak, loadOp, Go.Abs.loadCells, binV, zal, pickV, zam, zan, zao, zap, zaq, zar, zas, zat, zau, outR, resAll, resOne, zav, zaw, zax, zay, zaz, zba, zbb, zbc, zbd, zbe, zbf, zbg, zbh, zbi, zbj, zbk, storeOp, storeCell, overlay, zbl, zbm, zbn, lookupOp, keyT, okRes, mapUpdateOp, zbo, zbp, zbq, zbr, zbs, zbt, zbu, Nat.reduceSub, Nat.reduceAdd, Int.reduceLT, Int.reduceLE, Int.reduceAdd, Int.reduceSub, Int.reduceToNat, Int.reduceBEq, Int.reduceBNe, Int.reduceMul, Nat.reduceBEq, Nat.reduceBNe, Nat.reduceLT, Nat.reduceLeDiff, Nat.reduceMul, Nat.reduceEqDiff, WD, effB, effH, isPriv, isHeap, isImm, zbx, zby, zbz, chkO, setD, dslot, zca, zcb, zcc, zcd, ptrCells_some, F11, (q1 []).cells1, (q2 []).cells1, (q3 []).cells1, (q4 []).cells1, (q1 []).shutIn, (q2 []).shutIn, (q3 []).shutIn, (q4 []).shutIn, r1, r2, r3, r4]
                  exact ⟨_, rfl, no⟩
                · simp only [h1]
                  simp only [WW, partV, eqCells, eqLf, minV, maxV, ifcV, zaa, zab, zac, zad, zae, zaf, zag, zah, zai, ofConst, ofConst1, List.replicate, zaj, zak, loadOp, Go.Abs.loadCells, binV, zal, pickV, zam, zan, zao, zap, zaq, zar, zas, zat, zau, outR, resAll, resOne, zav, zaw, zax, zay, zaz, zba, zbb, zbc, zbd, zbe, zbf, zbg, zbh, zbi, zbj, zbk, storeOp, storeCell, overlay, zbl, zbm, zbn, lookupOp, keyT, okRes, mapUpdateOp, zbo, zbp, zbq, zbr, zbs, zbt, zbu, Nat.reduceSub, Nat.reduceAdd, Int.reduceLT, Int.reduceLE, Int.reduceAdd, Int.reduceSub, Int.reduceToNat, Int.reduceBEq, Int.reduceBNe, Int.reduceMul, Nat.reduceBEq, Nat.reduceBNe, Nat.reduceLT, Nat.reduceLeDiff, Nat.reduceMul, Nat.reduceEqDiff, WD, effB, effH, isPriv, isHeap, isImm, zbx, zby, zbz, chkO, setD, dslot, zca, zcb, zcc, zcd, ptrCells_some, F11, (q1 []).cells1, (q2 []).cells1, (q3 []).cells1, (q4 []).cells1, (q1 []).shutIn, (q2 []).shutIn, (q3 []).shutIn, (q4 []).shutIn, r1, r2, r3, r4]
                  refine gSplit (fun h2 => ?_) (fun h2 => ?_)
                  · simp only [h2]
                    simp only [WW, partV, eqCells, eqLf, minV, maxV, ifcV, zaa, zab, zac, zad, zae, zaf, zag, zah, zai, ofConst, ofConst1, List.replicate, zaj, zak, loadOp, Go.Abs.loadCells, binV, zal, pickV, zam, zan, zao, zap, zaq, zar, zas, zat, zau, outR, resAll, resOne, zav, zaw, zax, zay, zaz, zba, zbb, zbc, zbd, zbe, zbf, zbg, zbh, zbi, zbj, zbk, storeOp, storeCell, overlay, zbl, zbm, zbn, lookupOp, keyT, okRes, mapUpdateOp, zbo, zbp, zbq, zbr, zbs, zbt, zbu, Nat.reduceSub, Nat.reduceAdd, Int.reduceLT, Int.reduceLE, Int.reduceAdd, Int.reduceSub, Int.reduceToNat, Int.reduceBEq, Int.reduceBNe, Int.reduceMul, Nat.reduceBEq, Nat.reduceBNe, Nat.reduceLT, Nat.reduceLeDiff, Nat.reduceMul, Nat.reduceEqDiff, WD, effB, effH, isPriv, isHeap, isImm, zbx, zby, zbz, chkO, setD, dslot, zca, zcb, zcc, zcd, ptrCells_some, F11, (q1 []).cells1, (q2 []).cells1, (q3 []).cells1, (q4 []).cells1, (q1 []).shutIn, (q2 []).shutIn, (q3 []).shutIn, (q4 []).shutIn, r1, r2, r3, r4]
                    exact ⟨_, rfl, no⟩
                  · simp only [h2]
                    simp only [WW, partV, eqCells, eqLf, minV, maxV, ifcV, zaa, zab, zac, zad, zae, zaf, zag, zah, zai, ofConst, ofConst1, List.replicate, zaj, zak, loadOp, Go.Abs.loadCells, binV, zal, pickV, zam, zan, zao, zap, zaq, zar, zas, zat, zau, outR, resAll, resOne, zav, zaw, zax, zay, zaz, zba, zbb, zbc, zbd, zbe, zbf, zbg, zbh, zbi, zbj, zbk, storeOp, storeCell, overlay, zbl, zbm, zbn, lookupOp, keyT, okRes, mapUpdateOp, zbo, zbp, zbq, zbr, zbs, zbt, zbu, Nat.reduceSub, Nat.reduceAdd, Int.reduceLT, Int.reduceLE, Int.reduceAdd, Int.reduceSub, Int.reduceToNat, Int.reduceBEq, Int.reduceBNe, Int.reduceMul, Nat.reduceBEq, Nat.reduceBNe, Nat.reduceLT, Nat.reduceLeDiff, Nat.reduceMul, Nat.reduceEqDiff, WD, effB, effH, isPriv, isHeap, isImm, zbx, zby, zbz, chkO, setD, dslot, zca, zcb, zcc, zcd, ptrCells_some, F11, (q1 []).cells1, (q2 []).cells1, (q3 []).cells1, (q4 []).cells1, (q1 []).shutIn, (q2 []).shutIn, (q3 []).shutIn, (q4 []).shutIn, r1, r2, r3, r4]
                    refine cSplit (fun h3 => ?_) (fun h3 => ?_)
                    · simp only [h3]
                      simp only [WW, partV, eqCells, eqLf, minV, maxV, ifcV, zaa, zab, zac, zad, zae, zaf, zag, zah, zai, ofConst, ofConst1, List.replicate, zaj, zak, loadOp, Go.Abs.loadCells, binV, zal, pickV, zam, zan, zao, zap, zaq, zar, zas, zat, zau, outR, resAll, resOne, zav, zaw, zax, zay, zaz, zba, zbb, zbc, zbd, zbe, zbf, zbg, zbh, zbi, zbj, zbk, storeOp, storeCell, overlay, zbl, zbm, zbn, lookupOp, keyT, okRes, mapUpdateOp, zbo, zbp, zbq, zbr, zbs, zbt, zbu, Nat.reduceSub, Nat.reduceAdd, Int.reduceLT, Int.reduceLE, Int.reduceAdd, Int.reduceSub, Int.reduceToNat, Int.reduceBEq, Int.reduceBNe, Int.reduceMul, Nat.reduceBEq, Nat.reduceBNe, Nat.reduceLT, Nat.reduceLeDiff, Nat.reduceMul, Nat.reduceEqDiff, WD, effB, effH, isPriv, isHeap, isImm, zbx, zby, zbz, chkO, setD, dslot, zca, zcb, zcc, zcd, ptrCells_some, F11, (q1 []).cells1, (q2 []).cells1, (q3 []).cells1, (q4 []).cells1, (q1 []).shutIn, (q2 []).shutIn, (q3 []).shutIn, (q4 []).shutIn, r1, r2, r3, r4]
                      exact ⟨_, rfl, no⟩
                    · simp only [h3]
                      simp only [WW, partV, eqCells, eqLf, minV, maxV, ifcV, zaa, zab, zac, zad, zae, zaf, zag, zah, zai, ofConst, ofConst1, List.replicate, zaj, zak, loadOp, Go.Abs.loadCells, binV, zal, pickV, zam, zan, zao, zap, zaq, zar, zas, zat, zau, outR, resAll, resOne, zav, zaw, zax, zay, zaz, zba, zbb, zbc, zbd, zbe, zbf, zbg, zbh, zbi, zbj, zbk, storeOp, storeCell, overlay, zbl, zbm, zbn, lookupOp, keyT, okRes, mapUpdateOp, zbo, zbp, zbq, zbr, zbs, zbt, zbu, Nat.reduceSub, Nat.reduceAdd, Int.reduceLT, Int.reduceLE, Int.reduceAdd, Int.reduceSub, Int.reduceToNat, Int.reduceBEq, Int.reduceBNe, Int.reduceMul, Nat.reduceBEq, Nat.reduceBNe, Nat.reduceLT, Nat.reduceLeDiff, Nat.reduceMul, Nat.reduceEqDiff, WD, effB, effH, isPriv, isHeap, isImm, zbx, zby, zbz, chkO, setD, dslot, zca, zcb, zcc, zcd, ptrCells_some, F11, (q1 []).cells1, (q2 []).cells1, (q3 []).cells1, (q4 []).cells1, (q1 []).shutIn, (q2 []).shutIn, (q3 []).shutIn, (q4 []).shutIn, r1, r2, r3, r4]
                      have t0 := of_decide_eq_false h0
                      have t1 := of_decide_eq_false h1
                      have t2 := of_decide_eq_false h2
                      have t3 := of_decide_eq_false h3
                      refine ⟨im.funs.length - (i + 1), by omega, i + 1, IntKind.i64.wrap (z + (a.code.length : Nat)), ?_, by omega, rfl, fun j s hj hlt => ?_⟩
                      · simp only [WN, firstReg, growAll, zbv, zbw, norm, killS, zag, zah, zaa, zab, zbl, zat, zad, growOne, zae, zaf, zac, zas, zak, Nat.reduceLT, Nat.reduceAdd, zbj, zav, F11, y1, y2, y3]
                        rw [IntWalk.i64_in ((i : Int) + 1) (by omega)]; rfl
                      · rcases Nat.lt_or_ge j i with h | h
                        · exact hall j s hj h
                        · obtain rfl : j = i := by omega
                          rw [hsk] at hj; cases hj; exact ⟨by omega, by omega, by omega, by omega⟩
            · have hi2 : i = im.funs.length := by have := of_decide_eq_false hge; omega
              have m6 : ∀ s ∈ im.funs, fnSm s := fun s hs => by
                obtain ⟨j, hj⟩ := List.getElem?_of_mem hs
                exact hall j s hj (by rw [hi2]; exact (List.getElem?_eq_some_iff.1 hj).1)
              simp only [hge]
              simp only [WW, partV, eqCells, eqLf, minV, maxV, ifcV, zaa, zab, zac, zad, zae, zaf, zag, zah, zai, ofConst, ofConst1, List.replicate, zaj, zak, loadOp, Go.Abs.loadCells, binV, zal, pickV, zam, zan, zao, zap, zaq, zar, zas, zat, zau, outR, resAll, resOne, zav, zaw, zax, zay, zaz, zba, zbb, zbc, zbd, zbe, zbf, zbg, zbh, zbi, zbj, zbk, storeOp, storeCell, overlay, zbl, zbm, zbn, lookupOp, keyT, okRes, mapUpdateOp, zbo, zbp, zbq, zbr, zbs, zbt, zbu, Nat.reduceSub, Nat.reduceAdd, Int.reduceLT, Int.reduceLE, Int.reduceAdd, Int.reduceSub, Int.reduceToNat, Int.reduceBEq, Int.reduceBNe, Int.reduceMul, Nat.reduceBEq, Nat.reduceBNe, Nat.reduceLT, Nat.reduceLeDiff, Nat.reduceMul, Nat.reduceEqDiff, WD, effB, effH, isPriv, isHeap, isImm, zbx, zby, zbz, chkO, setD, dslot, zca, zcb, zcc, zcd, ptrCells_some, F11]
              exact ⟨_, rfl, fun _ => ⟨m1, m2, m3, m4, m5, m6⟩⟩
theorem strOf_bs (l : List Nat) : ∃ s, strOf (bs l) = some s := by
  have h0 : ∀ l : List Nat, ∃ s, Abs.bytesOf (bs l) = some s := fun l => by
    induction l with
    | nil => exact ⟨[], rfl⟩
    | cons a l ih =>
      obtain ⟨s, hs⟩ := ih
      refine ⟨UInt8.ofNat a :: s, ?_⟩
      show ((some (UInt8.ofNat (a : Int).toNat)).bind fun b => (Abs.bytesOf (bs l)).map (b :: ·)) = _
      rw [hs, Int.toNat_natCast]; rfl
  obtain ⟨s, hs⟩ := h0 l
  exact ⟨⟨s.toArray⟩, by simp [strOf, hs]⟩
theorem liveW (H : Hp) (K : Out → Hp → Prop) : wpCall (evW Tryd.prog notes) 12 [] H K = K (.ret (.bool true) false) H := wpCall_eq (live_eq H)
theorem numW (n : Int) (H : Hp) (K : Out → Hp → Prop) : wpCall (evW Tryd.prog notes) 15 [.int .i64 n] H K = K (.ret (.int .i64 n) false) H := wpCall_eq (num_eq n H)
theorem u3 : Tryd.prog.underlying 3 = some (.int .i64) := by kernel_rfl
theorem u9 : Tryd.prog.underlying 9 = some .string := by kernel_rfl
theorem u22 : Tryd.prog.underlying 22 = some (.slice 50) := by kernel_rfl
theorem u23 : Tryd.prog.underlying 23 = some (.slice 9) := by kernel_rfl
theorem u24 : Tryd.prog.underlying 24 = some (.slice 45) := by kernel_rfl
theorem u45 : Tryd.prog.underlying 45 = some (.slice 3) := by kernel_rfl
theorem u46 : Tryd.prog.underlying 46 = some (.slice 105) := by kernel_rfl
theorem u47 : Tryd.prog.underlying 47 = some (.slice 52) := by kernel_rfl
theorem u48 : Tryd.prog.underlying 48 = some (.slice 107) := by kernel_rfl
theorem s26 : tysOf Tryd.prog 26 = some [22, 23, 24, 3] := by kernel_rfl
theorem s50 : tysOf Tryd.prog 50 = some [3, 3, 45, 46, 47, 48] := by kernel_rfl
theorem s52 : tysOf Tryd.prog 52 = some [3, 3, 3] := by kernel_rfl
theorem s105 : tysOf Tryd.prog 105 = some [3, 3] := by kernel_rfl
theorem s107 : tysOf Tryd.prog 107 = some [3, 3, 3, 3] := by kernel_rfl
theorem ag26 : isAggT Tryd.prog 26 = true := by kernel_rfl
theorem ag50 : isAggT Tryd.prog 50 = true := by kernel_rfl
theorem ag52 : isAggT Tryd.prog 52 = true := by kernel_rfl
theorem ag105 : isAggT Tryd.prog 105 = true := by kernel_rfl
theorem ag107 : isAggT Tryd.prog 107 = true := by kernel_rfl
theorem ag3 : isAggT Tryd.prog 3 = false := by kernel_rfl
theorem ag9 : isAggT Tryd.prog 9 = false := by kernel_rfl
theorem ag45 : isAggT Tryd.prog 45 = false := by kernel_rfl
theorem all2_rows {α : Type} {R : V → α → Prop} {f : List V → V} : ∀ {rows : List (List V)}, (∀ r ∈ rows, ∃ a, R (f r) a) → ∃ us : List α, All2 R (rows.map f) us
  | [], _ => ⟨[], .nil⟩
  | r :: rows, h => by
    obtain ⟨a, ha⟩ := h r (List.mem_cons_self ..)
    obtain ⟨us, hus⟩ := all2_rows (rows := rows) fun q hq => h q (List.mem_cons_of_mem _ hq)
    exact ⟨a :: us, .cons ha hus⟩
theorem all2_eq {α : Type} {g : α → V} : ∀ {vs : List V} {us : List α}, All2 (fun v a => v = g a) vs us → vs = us.map g
  | _, _, .nil => rfl
  | _, _, .cons h t => by rw [List.map_cons, h, all2_eq t]
theorem rows_as {α : Type} {g : α → V} {f : List V → V} {rows : List (List V)} (h : ∀ r ∈ rows, ∃ a, f r = g a) : ∃ us : List α, rows.map f = us.map g := by
  obtain ⟨us, hus⟩ := all2_rows (R := fun v a => v = g a) h
  exact ⟨us, all2_eq hus⟩
theorem ints_tv {d : Nat} {vs : List V} (h : Tv Tryd.prog (d + 2) 45 vs) : ∃ (x : V) (ns : List Int), vs = [x] ∧ RdA x (ns.map intV) := by
  obtain ⟨x, rows, rfl, hx, _, hr⟩ := tv_slice h u45
  rw [ag3] at hx
  obtain ⟨ns, e⟩ := rows_as (f := mkV false) (g := intV) (rows := rows) fun r hr' => by
    obtain ⟨n, rfl, _⟩ := tv_int (hr r hr') u3
    exact ⟨n, rfl⟩
  rw [e] at hx
  exact ⟨x, ns, rfl, hx⟩
theorem fn_tv {vs : List V} (h : Tv Tryd.prog 6 50 vs) : ∃ c, Nonempty (FnV (.agg vs) c) := by
  obtain ⟨a1, _, rfl, h1, a2, _, rfl, h2, a3, _, rfl, h3, a4, _, rfl, h4, a5, _, rfl, h5, a6, _, rfl, h6, rfl⟩ := tv_fields h s50
  obtain ⟨n1, rfl, _⟩ := tv_int h1 u3
  obtain ⟨n2, rfl, _⟩ := tv_int h2 u3
  obtain ⟨k1, boxes, rfl, q1⟩ := ints_tv h3
  obtain ⟨k2, r2, rfl, q2, _, t2⟩ := tv_slice h4 u46
  obtain ⟨k3, r3, rfl, q3, _, t3⟩ := tv_slice h5 u47
  obtain ⟨k4, r4, rfl, q4, _, t4⟩ := tv_slice h6 u48
  rw [ag105] at q2
  rw [ag52] at q3
  rw [ag107] at q4
  obtain ⟨caps, e2⟩ := rows_as (f := mkV true) (g := capV) (rows := r2) fun r hr => by
    obtain ⟨b1, _, rfl, g1, b2, _, rfl, g2, rfl⟩ := tv_fields (t2 r hr) s105
    obtain ⟨x1, rfl, _⟩ := tv_int g1 u3
    obtain ⟨x2, rfl, _⟩ := tv_int g2 u3
    exact ⟨(x1, x2), rfl⟩
  obtain ⟨code, e3⟩ := rows_as (f := mkV true) (g := inV) (rows := r3) fun r hr => by
    obtain ⟨b1, _, rfl, g1, b2, _, rfl, g2, b3, _, rfl, g3, rfl⟩ := tv_fields (t3 r hr) s52
    obtain ⟨x1, rfl, _⟩ := tv_int g1 u3
    obtain ⟨x2, rfl, _⟩ := tv_int g2 u3
    obtain ⟨x3, rfl, _⟩ := tv_int g3 u3
    exact ⟨(x1, x2, x3), rfl⟩
  obtain ⟨tries, e4⟩ := rows_as (f := mkV true) (g := tryV) (rows := r4) fun r hr => by
    obtain ⟨b1, _, rfl, g1, b2, _, rfl, g2, b3, _, rfl, g3, b4, _, rfl, g4, rfl⟩ := tv_fields (t4 r hr) s107
    obtain ⟨x1, rfl, _⟩ := tv_int g1 u3
    obtain ⟨x2, rfl, _⟩ := tv_int g2 u3
    obtain ⟨x3, rfl, _⟩ := tv_int g3 u3
    obtain ⟨x4, rfl, _⟩ := tv_int g4 u3
    exact ⟨(x1, x2, x3, x4), rfl⟩
  rw [e2] at q2
  rw [e3] at q3
  rw [e4] at q4
  exact ⟨⟨n1, n2, boxes, caps, code, tries⟩, ⟨⟨k1, k2, k3, k4, rfl, q1, q2, q3, q4⟩⟩⟩
theorem im_tv {v0 : List V} (h0 : Tv Tryd.prog 8 26 v0) : ∃ im, Nonempty (ImV (mkV (isAggT Tryd.prog 26) v0) im) := by
  obtain ⟨a, _, rfl, ha, b, _, rfl, hb, c, _, rfl, hc, d, _, rfl, hd, rfl⟩ := tv_fields h0 s26
  obtain ⟨g, rfl, _⟩ := tv_int hd u3
  obtain ⟨fu, fr, rfl, hfu, hfl, hfr⟩ := tv_slice ha u22
  obtain ⟨st, sr, rfl, hst, hsl, hsr⟩ := tv_slice hb u23
  obtain ⟨ke, kr, rfl, hke, hkl, hkr⟩ := tv_slice hc u24
  rw [ag26]
  rw [ag50] at hfu
  rw [ag9] at hst
  rw [ag45] at hke
  obtain ⟨strs, es⟩ := rows_as (f := mkV false) (g := V.str) (rows := sr) fun r hr => by
    obtain ⟨s, rfl, _⟩ := tv_str (hsr r hr) u9
    exact ⟨s, rfl⟩
  obtain ⟨keys, k2⟩ := all2_rows (R := fun v (l : List Int) => RdA v (l.map intV)) (f := mkV false) (rows := kr) fun r hr => by
    obtain ⟨x, ns, rfl, hx⟩ := ints_tv (hkr r hr)
    exact ⟨ns, hx⟩
  obtain ⟨funs, f2⟩ := all2_rows (R := fun v (c : FnM) => Nonempty (FnV v c)) (f := mkV true) (rows := fr) fun r hr => fn_tv (hfr r hr)
  rw [es] at hst
  exact ⟨⟨funs, strs, keys, g⟩, ⟨⟨fu, st, ke, _, _, rfl, hfu, hst, hke, f2, k2⟩⟩⟩
theorem u29 : Tryd.prog.underlying 29 = some (.slice 5) := by kernel_rfl
theorem u5 : Tryd.prog.underlying 5 = some (.int .u8) := by kernel_rfl
theorem ag5 : isAggT Tryd.prog 5 = false := by kernel_rfl
theorem ag29 : isAggT Tryd.prog 29 = false := by kernel_rfl
theorem bytes_tv {v : List V} (h : Tv Tryd.prog 8 29 v) : ∃ (x : V) (L : List Nat), mkV (isAggT Tryd.prog 29) v = x ∧ RdA x (bs L) ∧ ∀ y ∈ L, y < 256 := by
  obtain ⟨x, rows, rfl, hx, _, hr⟩ := tv_slice h u29
  rw [ag5] at hx
  obtain ⟨ns, hns⟩ := all2_rows (R := fun v (n : Nat) => v = .int .u8 (n : Nat) ∧ n < 256) (f := mkV false) (rows := rows) fun r hr' => by
    obtain ⟨n, rfl, hw⟩ := tv_int (hr r hr') u5
    simp [Lit.wf, IntKind.min, IntKind.max, IntKind.signed, IntKind.bits] at hw
    exact ⟨n.toNat, by show V.int .u8 n = _; congr 1; omega, by omega⟩
  have key : ∀ (vs : List V) (us : List Nat), All2 (fun v (n : Nat) => v = .int .u8 (n : Nat) ∧ n < 256) vs us → vs = bs us ∧ ∀ y ∈ us, y < 256 := by
    intro vs us h
    induction h with
    | nil => exact ⟨rfl, fun y hy => by cases hy⟩
    | cons h _ ih =>
      refine ⟨by rw [h.1, ih.1]; rfl, fun y hy => ?_⟩
      rcases List.mem_cons.1 hy with rfl | hy
      · exact h.2
      · exact ih.2 y hy
  obtain ⟨e, hl⟩ := key _ _ hns
  rw [e] at hx
  exact ⟨x, ns, by rw [ag29]; rfl, hx, hl⟩
end Go.Proofs.YtgjobbmbbedecaaDoor

/- The statement on images there and back. -/
namespace Go.Proofs.YtgjobbmbbedecaaDoor
open Go Go.Abs Go.Proofs
set_option maxRecDepth 100000
set_option maxHeartbeats 4000000
set_option linter.unusedVariables false
set_option linter.unusedSimpArgs false
def imV_val (im : ImM) : ImV (imVal im) im :=
  ⟨repL (im.funs.map fnVal), repL (im.strs.map .str), repL (im.keys.map keyV), im.funs.map fnVal, im.keys.map keyV, rfl, repL_rd _, repL_rd _, repL_rd _,
   All2.map fnVal im.funs fun c _ => ⟨⟨_, _, _, _, rfl, repL_rd _, repL_rd _, repL_rd _, repL_rd _⟩⟩,
   All2.map keyV im.keys fun k _ => repL_rd _⟩
theorem encN_lt : ∀ (k n : Nat), n < k → ∀ y ∈ encN n, y < 256
  | 0, n, h, y, hy => absurd h (by omega)
  | k + 1, n, h, y, hy => by
    by_cases hn : n < 128
    · rw [encN_small hn] at hy; simp at hy; omega
    · rw [encN_big hn] at hy
      rcases List.mem_cons.1 hy with rfl | hy
      · omega
      · exact encN_lt k (n / 128) (by omega) y hy
theorem encN_lt' {n : Nat} : ∀ y ∈ encN n, y < 256 := encN_lt (n + 1) n (by omega)
def Bt (l : List Nat) : Prop := ∀ y ∈ l, y < 256
theorem Bt.app {a b : List Nat} (h1 : Bt a) (h2 : Bt b) : Bt (a ++ b) := fun y hy => by
  rcases List.mem_append.1 hy with h | h
  · exact h1 y h
  · exact h2 y h
theorem Bt.flat {α : Type} {f : α → List Nat} (h : ∀ a, Bt (f a)) (l : List α) : Bt (l.flatMap f) := fun y hy => by
  obtain ⟨a, _, h2⟩ := List.mem_flatMap.1 hy
  exact h a y h2
theorem Bt.encL {α : Type} {f : α → List Nat} (h : ∀ a, Bt (f a)) (l : List α) : Bt (encL f l) := Bt.app encN_lt' (Bt.flat h l)
theorem bt_strB (s : ByteArray) : Bt (strB s) := fun y hy => by
  simp only [strB, List.mem_map] at hy
  obtain ⟨u, _, rfl⟩ := hy
  exact u.toNat_lt
theorem bt_fn (c : FnM) : Bt (encFn c) := Bt.app encN_lt' (Bt.app encN_lt' (Bt.app (Bt.encL (fun _ => encN_lt') _) (Bt.app (Bt.encL (fun _ => Bt.app encN_lt' encN_lt') _) (Bt.app (Bt.encL (fun _ => Bt.app encN_lt' (Bt.app encN_lt' encN_lt')) _) (Bt.encL (fun _ => Bt.app encN_lt' (Bt.app encN_lt' (Bt.app encN_lt' encN_lt'))) _)))))
theorem bt_im (im : ImM) : Bt (encIm im) := Bt.app (fun y hy => by simp [magicB] at hy; omega) (Bt.app (Bt.encL (fun s => Bt.app encN_lt' (bt_strB s)) _) (Bt.app (Bt.encL (fun k => Bt.encL (fun _ => encN_lt') k) _) (Bt.app encN_lt' (Bt.encL bt_fn _))))
/-- An image of few bytes is not too great -/
theorem mem_flat {α : Type} {f : α → List Nat} {a : α} : ∀ {l : List α}, a ∈ l → (f a).length ≤ (l.flatMap f).length
  | b :: l, h => by
    rw [List.flatMap_cons, List.length_append]
    rcases List.mem_cons.1 h with rfl | h
    · omega
    · have := mem_flat (f := f) h; omega
theorem encL_ge {α : Type} {f : α → List Nat} (hp : ∀ a, 0 < (f a).length) (l : List α) : l.length ≤ (encL f l).length := by
  have := flat_ge hp l
  simp only [encL, List.length_append]; omega
theorem encL_mem {α : Type} {f : α → List Nat} {a : α} {l : List α} (h : a ∈ l) : (f a).length ≤ (encL f l).length := by
  have := mem_flat (f := f) h
  simp only [encL, List.length_append]; omega
theorem sz_of {im : ImM} (h : (encIm im).length ≤ 10000) : imSz im := by
  simp only [encIm, List.length_append] at h
  have h1 := encL_ge encS_pos im.strs
  have h2 := encL_ge (encL_pos encI) im.keys
  have h3 := encL_ge encFn_pos im.funs
  refine ⟨by omega, by omega, by omega, fun s hs => ?_, fun k hk => ?_, fun c hc => ?_⟩
  · have h4 := encL_mem (f := encS) hs
    have : s.size ≤ (encS s).length := by simp only [encS, List.length_append, strB_len]; omega
    omega
  · have h4 := encL_mem (f := encL encI) hk
    have := encL_ge encI_pos k
    omega
  · have h4 := encL_mem (f := encFn) hc
    have a1 := encL_ge encI_pos c.boxes
    have a2 := encL_ge encCap_pos c.caps
    have a3 := encL_ge encIn_pos c.code
    have a4 := encL_ge encTry_pos c.tries
    simp only [encFn, List.length_append] at h4
    exact ⟨by omega, by omega, by omega, by omega⟩
theorem rda_cut {x : V} {L : List Nat} (h : RdA x (bs L)) (H : Hp) : RdB H x L := ⟨h H, fun id lo n es hx hb => by
  have := h []
  rw [hx] at this
  generalize bs L = l at this
  cases this with
  | sl _ _ _ _ h1 _ => simp at h1⟩
theorem slw_cut {H : Hp} {N : Nat → Prop} {x : V} {L : List Nat} (h : SlW 1 H N x (bs L)) : ∀ H', Kp H H' → RdB H' x L := fun H' hk => by
  have hrd : Rd H' x (bs L) := h.rd.more fun id b hb _ => by rw [hk.2 id (List.getElem?_eq_some_iff.1 hb).1]; exact hb
  refine ⟨hrd, fun id lo n es hx hb => ?_⟩
  rcases h with ⟨rfl, _⟩ | ⟨s, es', h1, h2, h3, h4, h5, h6, h7⟩
  · cases hx
  · rw [h1] at hx
    cases hx
    rw [hk.2 _ (List.getElem?_eq_some_iff.1 h3).1, h3] at hb
    cases hb
    exact h7
theorem codeBack_eq {v x : V} {im : ImM} {L : List Nat} (q : ImV v im) (hx : RdA x (bs L)) (hL : Bt L) : wpCall EW 5 [v, x] [] (fun out H' => out = .ret (.bool true) false) := by
  have hbig := big_spec q []
  have hno := fun hs ho => encode_no (H := []) q (imSm.sz hs) ho
  have hyes := fun hs ho => encode_ok (H := []) q (imSm.sz hs) ho (encIm_len ho hs)
  have hsame : imSz im → ∀ H, EW 18 [imVal im, v] H = some (.ret (.bool true) false, H) := fun hs H => same_im (imV_val im) q hs H
  have hnone : ∀ H K, wpCall (evW Tryd.prog notes) 18 [imVal noIm, imVal noIm] H K = K (.ret (.bool true) false) H := fun H K => wpCall_eq (same_im (imV_val noIm) (imV_val noIm) ⟨by simp [noIm], by simp [noIm], by simp [noIm], by simp [noIm], by simp [noIm], by simp [noIm]⟩ H)
  have hvn : imVal noIm = .agg [.nils, .nils, .nils, .int .i64 0] := rfl
  rw [hvn] at hnone
  obtain ⟨fu, st, ke, fs, ks, rfl, hf, hs, hk, f2, k2⟩ := q
  have z1 := fun st => (hf []).shutIn st
  have z2 := fun s => (hs []).shutIn s
  have z3 := fun st => (hk []).shutIn st
  have z4 := fun st => (hx []).shutIn st
  have x1 := (hf []).cells1
  have x2 := (hs []).cells1
  have x3 := (hk []).cells1
  have w1 := (hf []).ok
  have w2 := (hs []).ok
  have w3 := (hk []).ok
  have hxl : ∀ (H' : Hp), lenK H' (.slice 5) x = some (.int .i64 (L.length : Nat)) := fun H' => by
    have := (hx H').len 5
    rw [bs_len] at this; exact this
  have h00 : ((0 : Int) == 0) = true := rfl
  have h01 : ((0 : Int) != 0) = false := rfl
  have h10 : ((1 : Int) == 0) = false := rfl
  -- the second half
  have tail : L.length ≤ 5000 → ∀ (H : Hp) (K : Out → Hp → Prop), (∀ H', K (.ret (.tup (decT L (decS L))) false) H') → wpCall (evW Tryd.prog notes) 16 [x] H K := fun hl H K hK => by
    refine wpCall_of (decode16 (fun H' _ => rda_cut hx H') hL (by omega)) ?_
    rintro out H' ⟨rfl, _⟩
    exact hK H'
  refine runs f5 b5 r5 n5 _ _ ?_
  simp only [bodyOf, Tryd.f5, Option.getD_some]
  simp only [WW, partV, eqCells, eqLf, minV, maxV, ifcV, zaa, zab, zac, zad, zae, zaf, zag, zah, zai, ofConst, ofConst1, List.replicate, zaj, zak, loadOp, Go.Abs.loadCells, binV, zal, pickV, zam, zan, zao, zap, zaq, zar, zas, zat, zau, outR, resAll, resOne, zav, zaw, zax, zay, zaz, zba, zbb, zbc, zbd, zbe, zbf, zbg, zbh, zbi, zbj, zbk, storeOp, storeCell, overlay, zbl, zbm, zbn, lookupOp, keyT, okRes, mapUpdateOp, zbo, zbp, zbq, zbr, zbs, zbt, zbu, Nat.reduceSub, Nat.reduceAdd, Int.reduceLT, Int.reduceLE, Int.reduceAdd, Int.reduceSub, Int.reduceToNat, Int.reduceBEq, Int.reduceBNe, Int.reduceMul, Nat.reduceBEq, Nat.reduceBNe, Nat.reduceLT, Nat.reduceLeDiff, Nat.reduceMul, Nat.reduceEqDiff, WD, effB, effH, isPriv, isHeap, isImm, zbx, zby, zbz, chkO, setD, dslot, zca, zcb, zcc, zcd, ptrCells_some, F5, z1, z2, z3, x1, x2, x3, w1, w2, w3]
  refine wpCall_of hbig ?_
  rintro out H' ⟨b, rfl, rfl, hb⟩
  cases b with
  | true =>
    simp only [WW, partV, eqCells, eqLf, minV, maxV, ifcV, zaa, zab, zac, zad, zae, zaf, zag, zah, zai, ofConst, ofConst1, List.replicate, zaj, zak, loadOp, Go.Abs.loadCells, binV, zal, pickV, zam, zan, zao, zap, zaq, zar, zas, zat, zau, outR, resAll, resOne, zav, zaw, zax, zay, zaz, zba, zbb, zbc, zbd, zbe, zbf, zbg, zbh, zbi, zbj, zbk, storeOp, storeCell, overlay, zbl, zbm, zbn, lookupOp, keyT, okRes, mapUpdateOp, zbo, zbp, zbq, zbr, zbs, zbt, zbu, Nat.reduceSub, Nat.reduceAdd, Int.reduceLT, Int.reduceLE, Int.reduceAdd, Int.reduceSub, Int.reduceToNat, Int.reduceBEq, Int.reduceBNe, Int.reduceMul, Nat.reduceBEq, Nat.reduceBNe, Nat.reduceLT, Nat.reduceLeDiff, Nat.reduceMul, Nat.reduceEqDiff, WD, effB, effH, isPriv, isHeap, isImm, zbx, zby, zbz, chkO, setD, dslot, zca, zcb, zcc, zcd, ptrCells_some, F5, liveW]
  | false =>
  have hsm := hb rfl
  cases hl5 : decide ((5000 : Int) < (L.length : Int)) with
  | true =>
    simp only [WW, partV, eqCells, eqLf, minV, maxV, ifcV, zaa, zab, zac, zad, zae, zaf, zag, zah, zai, ofConst, ofConst1, List.replicate, zaj, zak, loadOp, Go.Abs.loadCells, binV, zal, pickV, zam, zan, zao, zap, zaq, zar, zas, zat, zau, outR, resAll, resOne, zav, zaw, zax, zay, zaz, zba, zbb, zbc, zbd, zbe, zbf, zbg, zbh, zbi, zbj, zbk, storeOp, storeCell, overlay, zbl, zbm, zbn, lookupOp, keyT, okRes, mapUpdateOp, zbo, zbp, zbq, zbr, zbs, zbt, zbu, Nat.reduceSub, Nat.reduceAdd, Int.reduceLT, Int.reduceLE, Int.reduceAdd, Int.reduceSub, Int.reduceToNat, Int.reduceBEq, Int.reduceBNe, Int.reduceMul, Nat.reduceBEq, Nat.reduceBNe, Nat.reduceLT, Nat.reduceLeDiff, Nat.reduceMul, Nat.reduceEqDiff, WD, effB, effH, isPriv, isHeap, isImm, zbx, zby, zbz, chkO, setD, dslot, zca, zcb, zcc, zcd, ptrCells_some, F5, z4, hxl, hl5, liveW]
  | false =>
  have hl : L.length ≤ 5000 := by have := of_decide_eq_false hl5; omega
  have rest : ∀ (im' : ImM), imOk im' = true → encIm im' = L → ∀ (H : Hp) (K : Out → Hp → Prop), (∀ y H', Rd H' y (bs L) → K (.ret (.tup [y, .int .i64 0]) false) H') → wpCall (evW Tryd.prog notes) 13 [imVal im'] H K := fun im' ho he H K hK => by
    refine wpCall_of (encode_ok (imV_val im') (sz_of (by rw [he]; omega)) ho (by rw [he]; omega)) ?_
    rintro out H' ⟨y, rfl, hy, _⟩
    rw [he] at hy
    exact hK y H' hy.rd
  have fin : (decS L).2.e = 0 ∧ imOk (decS L).1 = true ∧ encIm (decS L).1 = L ∧ decT L (decS L) = [imVal (decS L).1, .int .i64 0, .int .i64 (L.length : Nat)] ∨ ∃ e p : Nat, p ≤ L.length ∧ decT L (decS L) = [.agg [.nils, .nils, .nils, .int .i64 0], .int .i64 ((e + 1 : Nat) : Int), .int .i64 (p : Nat)] := by
    cases he : (decS L).2.e with
    | zero =>
      obtain ⟨a1, a2, a3⟩ := decS_can hL he
      exact .inl ⟨rfl, a1, a2, by simp only [decT, he]⟩
    | succ e => exact .inr ⟨e, (decS L).2.at_, decS_ok, by simp only [decT, he, hvn]⟩
  obtain ⟨s0, hs0⟩ := strOf_bs L
  have second : ∀ (Q : Prop), Q = Q := fun _ => rfl
  simp only [WW, partV, eqCells, eqLf, minV, maxV, ifcV, zaa, zab, zac, zad, zae, zaf, zag, zah, zai, ofConst, ofConst1, List.replicate, zaj, zak, loadOp, Go.Abs.loadCells, binV, zal, pickV, zam, zan, zao, zap, zaq, zar, zas, zat, zau, outR, resAll, resOne, zav, zaw, zax, zay, zaz, zba, zbb, zbc, zbd, zbe, zbf, zbg, zbh, zbi, zbj, zbk, storeOp, storeCell, overlay, zbl, zbm, zbn, lookupOp, keyT, okRes, mapUpdateOp, zbo, zbp, zbq, zbr, zbs, zbt, zbu, Nat.reduceSub, Nat.reduceAdd, Int.reduceLT, Int.reduceLE, Int.reduceAdd, Int.reduceSub, Int.reduceToNat, Int.reduceBEq, Int.reduceBNe, Int.reduceMul, Nat.reduceBEq, Nat.reduceBNe, Nat.reduceLT, Nat.reduceLeDiff, Nat.reduceMul, Nat.reduceEqDiff, WD, effB, effH, isPriv, isHeap, isImm, zbx, zby, zbz, chkO, setD, dslot, zca, zcb, zcc, zcd, ptrCells_some, F5, z1, z2, z3, z4, hxl, hl5]
  cases hok : imOk im with
  | false =>
    refine wpCall_of (hno hsm hok) ?_
    rintro out H1 ⟨rfl, _, _⟩
    simp only [WW, partV, eqCells, eqLf, minV, maxV, ifcV, zaa, zab, zac, zad, zae, zaf, zag, zah, zai, ofConst, ofConst1, List.replicate, zaj, zak, loadOp, Go.Abs.loadCells, binV, zal, pickV, zam, zan, zao, zap, zaq, zar, zas, zat, zau, outR, resAll, resOne, zav, zaw, zax, zay, zaz, zba, zbb, zbc, zbd, zbe, zbf, zbg, zbh, zbi, zbj, zbk, storeOp, storeCell, overlay, zbl, zbm, zbn, lookupOp, keyT, okRes, mapUpdateOp, zbo, zbp, zbq, zbr, zbs, zbt, zbu, Nat.reduceSub, Nat.reduceAdd, Int.reduceLT, Int.reduceLE, Int.reduceAdd, Int.reduceSub, Int.reduceToNat, Int.reduceBEq, Int.reduceBNe, Int.reduceMul, Nat.reduceBEq, Nat.reduceBNe, Nat.reduceLT, Nat.reduceLeDiff, Nat.reduceMul, Nat.reduceEqDiff, WD, effB, effH, isPriv, isHeap, isImm, zbx, zby, zbz, chkO, setD, dslot, zca, zcb, zcc, zcd, ptrCells_some, F5, numW, h10, h01, z4]
    refine tail hl H1 _ fun H2 => ?_
    rcases fin with ⟨he, ho, henc, hT⟩ | ⟨e, p, hp, hT⟩
    · rw [hT]
      simp only [imVal]
      simp only [WW, partV, eqCells, eqLf, minV, maxV, ifcV, zaa, zab, zac, zad, zae, zaf, zag, zah, zai, ofConst, ofConst1, List.replicate, zaj, zak, loadOp, Go.Abs.loadCells, binV, zal, pickV, zam, zan, zao, zap, zaq, zar, zas, zat, zau, outR, resAll, resOne, zav, zaw, zax, zay, zaz, zba, zbb, zbc, zbd, zbe, zbf, zbg, zbh, zbi, zbj, zbk, storeOp, storeCell, overlay, zbl, zbm, zbn, lookupOp, keyT, okRes, mapUpdateOp, zbo, zbp, zbq, zbr, zbs, zbt, zbu, Nat.reduceSub, Nat.reduceAdd, Int.reduceLT, Int.reduceLE, Int.reduceAdd, Int.reduceSub, Int.reduceToNat, Int.reduceBEq, Int.reduceBNe, Int.reduceMul, Nat.reduceBEq, Nat.reduceBNe, Nat.reduceLT, Nat.reduceLeDiff, Nat.reduceMul, Nat.reduceEqDiff, WD, effB, effH, isPriv, isHeap, isImm, zbx, zby, zbz, chkO, setD, dslot, zca, zcb, zcc, zcd, ptrCells_some, F5, numW, h01, repL_ok, repL_cells, repL_shut]
      refine rest _ ho henc H2 _ fun y H3 hy => ?_
      simp only [WW, partV, eqCells, eqLf, minV, maxV, ifcV, zaa, zab, zac, zad, zae, zaf, zag, zah, zai, ofConst, ofConst1, List.replicate, zaj, zak, loadOp, Go.Abs.loadCells, binV, zal, pickV, zam, zan, zao, zap, zaq, zar, zas, zat, zau, outR, resAll, resOne, zav, zaw, zax, zay, zaz, zba, zbb, zbc, zbd, zbe, zbf, zbg, zbh, zbi, zbj, zbk, storeOp, storeCell, overlay, zbl, zbm, zbn, lookupOp, keyT, okRes, mapUpdateOp, zbo, zbp, zbq, zbr, zbs, zbt, zbu, Nat.reduceSub, Nat.reduceAdd, Int.reduceLT, Int.reduceLE, Int.reduceAdd, Int.reduceSub, Int.reduceToNat, Int.reduceBEq, Int.reduceBNe, Int.reduceMul, Nat.reduceBEq, Nat.reduceBNe, Nat.reduceLT, Nat.reduceLeDiff, Nat.reduceMul, Nat.reduceEqDiff, WD, effB, effH, isPriv, isHeap, isImm, zbx, zby, zbz, chkO, setD, dslot, zca, zcb, zcc, zcd, ptrCells_some, F5, numW, h00, hy.shutIn, z4, convertOp, hy.cont, (hx H3).cont, hs0, liveW]
    · rw [hT]
      have he1 : (((e + 1 : Nat) : Int) != 0) = true := by simp only [bne_iff_ne, ne_eq]; omega
      have g1 : decide ((0 : Int) ≤ ((p : Nat) : Int)) = true := decide_eq_true (by omega)
      have g2 : decide (((p : Nat) : Int) ≤ (L.length : Int)) = true := decide_eq_true (by omega)
      simp only [WW, partV, eqCells, eqLf, minV, maxV, ifcV, zaa, zab, zac, zad, zae, zaf, zag, zah, zai, ofConst, ofConst1, List.replicate, zaj, zak, loadOp, Go.Abs.loadCells, binV, zal, pickV, zam, zan, zao, zap, zaq, zar, zas, zat, zau, outR, resAll, resOne, zav, zaw, zax, zay, zaz, zba, zbb, zbc, zbd, zbe, zbf, zbg, zbh, zbi, zbj, zbk, storeOp, storeCell, overlay, zbl, zbm, zbn, lookupOp, keyT, okRes, mapUpdateOp, zbo, zbp, zbq, zbr, zbs, zbt, zbu, Nat.reduceSub, Nat.reduceAdd, Int.reduceLT, Int.reduceLE, Int.reduceAdd, Int.reduceSub, Int.reduceToNat, Int.reduceBEq, Int.reduceBNe, Int.reduceMul, Nat.reduceBEq, Nat.reduceBNe, Nat.reduceLT, Nat.reduceLeDiff, Nat.reduceMul, Nat.reduceEqDiff, WD, effB, effH, isPriv, isHeap, isImm, zbx, zby, zbz, chkO, setD, dslot, zca, zcb, zcc, zcd, ptrCells_some, F5, numW, he1, buildOp, fillV, Lay.place, Bool.or_self, Bool.or_false, Bool.false_or, decide_not, ne_eq, not_true_eq_false, decide_eq_true_eq, Nat.lt_irrefl, hnone, g1, g2, hxl, z4, liveW]
  | true =>
    refine wpCall_of (hyes hsm hok) ?_
    rintro out H1 ⟨y1, rfl, hy1, _, _⟩
    have hlen := encIm_len hok hsm
    have hdec := decode16 (slw_cut hy1) (bt_im im) (by omega)
    have hT1 : decT (encIm im) (decS (encIm im)) = [imVal im, .int .i64 0, .int .i64 ((encIm im).length : Nat)] := by rw [decS_enc hok (by omega)]; rfl
    rw [hT1] at hdec
    simp only [WW, partV, eqCells, eqLf, minV, maxV, ifcV, zaa, zab, zac, zad, zae, zaf, zag, zah, zai, ofConst, ofConst1, List.replicate, zaj, zak, loadOp, Go.Abs.loadCells, binV, zal, pickV, zam, zan, zao, zap, zaq, zar, zas, zat, zau, outR, resAll, resOne, zav, zaw, zax, zay, zaz, zba, zbb, zbc, zbd, zbe, zbf, zbg, zbh, zbi, zbj, zbk, storeOp, storeCell, overlay, zbl, zbm, zbn, lookupOp, keyT, okRes, mapUpdateOp, zbo, zbp, zbq, zbr, zbs, zbt, zbu, Nat.reduceSub, Nat.reduceAdd, Int.reduceLT, Int.reduceLE, Int.reduceAdd, Int.reduceSub, Int.reduceToNat, Int.reduceBEq, Int.reduceBNe, Int.reduceMul, Nat.reduceBEq, Nat.reduceBNe, Nat.reduceLT, Nat.reduceLeDiff, Nat.reduceMul, Nat.reduceEqDiff, WD, effB, effH, isPriv, isHeap, isImm, zbx, zby, zbz, chkO, setD, dslot, zca, zcb, zcc, zcd, ptrCells_some, F5, numW, h00, hy1.shut]
    refine wpCall_of hdec ?_
    rintro out H2 ⟨rfl, hk2⟩
    have hsw : ∀ K, wpCall (evW Tryd.prog notes) 18 [imVal im, .agg [fu, st, ke, .int .i64 im.globals]] H2 K = K (.ret (.bool true) false) H2 := fun K => wpCall_eq (hsame hsm.sz H2)
    have hyl : ∀ (H' : Hp), lenK H' (.slice 5) y1 = some (.int .i64 ((encIm im).length : Nat)) := fun H' => by
      rcases hy1 with ⟨rfl, h2⟩ | ⟨s, es, rfl, _⟩
      · have : (bs (encIm im)).length = 0 := by rw [h2]; rfl
        rw [bs_len] at this
        rw [this]; rfl
      · rw [lenK_sl, bs_len]
    simp only [imVal] at hsw ⊢
    simp only [WW, partV, eqCells, eqLf, minV, maxV, ifcV, zaa, zab, zac, zad, zae, zaf, zag, zah, zai, ofConst, ofConst1, List.replicate, zaj, zak, loadOp, Go.Abs.loadCells, binV, zal, pickV, zam, zan, zao, zap, zaq, zar, zas, zat, zau, outR, resAll, resOne, zav, zaw, zax, zay, zaz, zba, zbb, zbc, zbd, zbe, zbf, zbg, zbh, zbi, zbj, zbk, storeOp, storeCell, overlay, zbl, zbm, zbn, lookupOp, keyT, okRes, mapUpdateOp, zbo, zbp, zbq, zbr, zbs, zbt, zbu, Nat.reduceSub, Nat.reduceAdd, Int.reduceLT, Int.reduceLE, Int.reduceAdd, Int.reduceSub, Int.reduceToNat, Int.reduceBEq, Int.reduceBNe, Int.reduceMul, Nat.reduceBEq, Nat.reduceBNe, Nat.reduceLT, Nat.reduceLeDiff, Nat.reduceMul, Nat.reduceEqDiff, WD, effB, effH, isPriv, isHeap, isImm, zbx, zby, zbz, chkO, setD, dslot, zca, zcb, zcc, zcd, ptrCells_some, F5, numW, h01, repL_ok, repL_cells, repL_shut, hy1.shut, hyl, bne_self_eq_false, z1, z2, z3, z4, hsw]
    refine tail hl H2 _ fun H3 => ?_
    rcases fin with ⟨he, ho, henc, hT⟩ | ⟨e, p, hp, hT⟩
    · rw [hT]
      simp only [imVal]
      simp only [WW, partV, eqCells, eqLf, minV, maxV, ifcV, zaa, zab, zac, zad, zae, zaf, zag, zah, zai, ofConst, ofConst1, List.replicate, zaj, zak, loadOp, Go.Abs.loadCells, binV, zal, pickV, zam, zan, zao, zap, zaq, zar, zas, zat, zau, outR, resAll, resOne, zav, zaw, zax, zay, zaz, zba, zbb, zbc, zbd, zbe, zbf, zbg, zbh, zbi, zbj, zbk, storeOp, storeCell, overlay, zbl, zbm, zbn, lookupOp, keyT, okRes, mapUpdateOp, zbo, zbp, zbq, zbr, zbs, zbt, zbu, Nat.reduceSub, Nat.reduceAdd, Int.reduceLT, Int.reduceLE, Int.reduceAdd, Int.reduceSub, Int.reduceToNat, Int.reduceBEq, Int.reduceBNe, Int.reduceMul, Nat.reduceBEq, Nat.reduceBNe, Nat.reduceLT, Nat.reduceLeDiff, Nat.reduceMul, Nat.reduceEqDiff, WD, effB, effH, isPriv, isHeap, isImm, zbx, zby, zbz, chkO, setD, dslot, zca, zcb, zcc, zcd, ptrCells_some, F5, numW, h01, repL_ok, repL_cells, repL_shut]
      refine rest _ ho henc H3 _ fun y H4 hy => ?_
      simp only [WW, partV, eqCells, eqLf, minV, maxV, ifcV, zaa, zab, zac, zad, zae, zaf, zag, zah, zai, ofConst, ofConst1, List.replicate, zaj, zak, loadOp, Go.Abs.loadCells, binV, zal, pickV, zam, zan, zao, zap, zaq, zar, zas, zat, zau, outR, resAll, resOne, zav, zaw, zax, zay, zaz, zba, zbb, zbc, zbd, zbe, zbf, zbg, zbh, zbi, zbj, zbk, storeOp, storeCell, overlay, zbl, zbm, zbn, lookupOp, keyT, okRes, mapUpdateOp, zbo, zbp, zbq, zbr, zbs, zbt, zbu, Nat.reduceSub, Nat.reduceAdd, Int.reduceLT, Int.reduceLE, Int.reduceAdd, Int.reduceSub, Int.reduceToNat, Int.reduceBEq, Int.reduceBNe, Int.reduceMul, Nat.reduceBEq, Nat.reduceBNe, Nat.reduceLT, Nat.reduceLeDiff, Nat.reduceMul, Nat.reduceEqDiff, WD, effB, effH, isPriv, isHeap, isImm, zbx, zby, zbz, chkO, setD, dslot, zca, zcb, zcc, zcd, ptrCells_some, F5, numW, h00, hy.shutIn, z4, convertOp, hy.cont, (hx H4).cont, hs0, liveW]
    · rw [hT]
      have he1 : (((e + 1 : Nat) : Int) != 0) = true := by simp only [bne_iff_ne, ne_eq]; omega
      have g1 : decide ((0 : Int) ≤ ((p : Nat) : Int)) = true := decide_eq_true (by omega)
      have g2 : decide (((p : Nat) : Int) ≤ (L.length : Int)) = true := decide_eq_true (by omega)
      simp only [WW, partV, eqCells, eqLf, minV, maxV, ifcV, zaa, zab, zac, zad, zae, zaf, zag, zah, zai, ofConst, ofConst1, List.replicate, zaj, zak, loadOp, Go.Abs.loadCells, binV, zal, pickV, zam, zan, zao, zap, zaq, zar, zas, zat, zau, outR, resAll, resOne, zav, zaw, zax, zay, zaz, zba, zbb, zbc, zbd, zbe, zbf, zbg, zbh, zbi, zbj, zbk, storeOp, storeCell, overlay, zbl, zbm, zbn, lookupOp, keyT, okRes, mapUpdateOp, zbo, zbp, zbq, zbr, zbs, zbt, zbu, Nat.reduceSub, Nat.reduceAdd, Int.reduceLT, Int.reduceLE, Int.reduceAdd, Int.reduceSub, Int.reduceToNat, Int.reduceBEq, Int.reduceBNe, Int.reduceMul, Nat.reduceBEq, Nat.reduceBNe, Nat.reduceLT, Nat.reduceLeDiff, Nat.reduceMul, Nat.reduceEqDiff, WD, effB, effH, isPriv, isHeap, isImm, zbx, zby, zbz, chkO, setD, dslot, zca, zcb, zcc, zcd, ptrCells_some, F5, numW, he1, buildOp, fillV, Lay.place, Bool.or_self, Bool.or_false, Bool.false_or, decide_not, ne_eq, not_true_eq_false, decide_eq_true_eq, Nat.lt_irrefl, hnone, g1, g2, hxl, z4, liveW]
theorem codeBack_main {v0 v1 : List V} (h0 : Tv Tryd.prog 8 26 v0) (h1 : Tv Tryd.prog 8 29 v1) :
    wpCall (evW Tryd.prog notes) 5 [mkV (isAggT Tryd.prog 26) v0, mkV (isAggT Tryd.prog 29) v1] [] (fun out H' => out = .ret (.bool true) false) := by
  obtain ⟨im, ⟨q⟩⟩ := im_tv h0
  obtain ⟨x, L, e, hx, hL⟩ := bytes_tv h1
  rw [e]
  exact codeBack_eq q hx hL
end Go.Proofs.YtgjobbmbbedecaaDoor

/- The statement on bytes cut short, and with one more behind. -/
namespace Go.Proofs.YtgjobbmbbedecaaDoor
open Go Go.Abs Go.Proofs
set_option maxRecDepth 100000
set_option maxHeartbeats 4000000
set_option linter.unusedVariables false
set_option linter.unusedSimpArgs false
theorem app_rowP {es xs : List V} {n : Nat} (hn : n = es.length) (he : wideAll es 1 = true) (hx : wideAll xs 1 = true) (hl : es.length + xs.length ≤ 70368744177664) (s : List Slot) (b : List (List V)) (tl : List LRow) (H : Hp) (d : Nat) (ns : Bool) :
    appendOp Tryd.prog .priv ⟨s, b, ⟨true, ns, es⟩ :: tl⟩ H (some d) 5 (.lr 0 n) xs = some (⟨s.set d (.v (.lr 0 (n + xs.length))), b, ⟨true, ns, es ++ xs⟩ :: tl⟩, H) := by
  subst hn
  rw [app_own (q := ⟨true, ns, es⟩) rfl rfl rfl (elemOk5 hl) (by rw [size5]; exact he) (by rw [size5]; exact hx)]
  rfl
theorem cut_to {H : Hp} {N : Nat → Prop} {x : V} {L : List Nat} (h : SlW 1 H N x (bs L)) {n : Nat} (hn : n < L.length) :
    ∃ z, (∀ st, sliceOp Tryd.prog st H 29 x none (some (.int .i64 (n : Nat))) none = some z) ∧ (∀ st, sealV st z = z) ∧ ∀ H', Kp H H' → RdB H' z (L.take n) := by
  rcases h with ⟨rfl, h2⟩ | ⟨s, es, rfl, h2, h3, h4, h5, h6, h7⟩
  · have : (bs L).length = 0 := by rw [h2]; rfl
    rw [bs_len] at this; omega
  · rw [bs_len] at h4 h5
    have hb1 : boundV (some (V.int .i64 (n : Nat))) = fun _ => some n := by
      funext d; simp only [boundV]; rw [if_pos (by omega), Int.toNat_natCast]
    refine ⟨.sl s 0 n, fun st => ?_, fun _ => rfl, fun H' hk => ?_⟩
    · have e : (0 ≤ n ∧ 0 + n ≤ es.length ∧ wideAll es (sizeT Tryd.prog 5) = true) := ⟨by omega, by omega, by rw [size5]; exact h7⟩
      have hb0 : ∀ d, boundV none d = some d := fun _ => rfl
      simp only [sliceOp, ix29, viewV, sealV, hb1, Option.bind_some, h3, hb0]
      rw [if_pos e]; rfl
    · have h3' : H'[s]? = some (.cells es) := by rw [hk.2 _ (List.getElem?_eq_some_iff.1 h3).1]; exact h3
      refine ⟨?_, fun id lo m es' hx hb => ?_⟩
      · have := Rd.sl (H := H') s 0 n es h3' (by omega)
        rw [List.drop_zero] at this
        have e : es.take n = bs (L.take n) := by rw [← bs_take, ← h5, List.take_take, Nat.min_eq_left (by omega)]
        rwa [e] at this
      · cases hx
        rw [h3'] at hb; cases hb; exact h7
theorem codeCuts_eq {v : V} {im : ImM} {c m : Nat} (q : ImV v im) (hc : c < 65536) (hm : m < 256) : wpCall EW 6 [v, .int .u16 (c : Nat), .int .u8 (m : Nat)] [] (fun out H' => out = .ret (.bool true) false) := by
  have hbig := big_spec q []
  have hno := fun hs ho => encode_no (H := []) q (imSm.sz hs) ho
  have hyes := fun hs ho => encode_ok (H := []) q (imSm.sz hs) ho (encIm_len ho hs)
  have hnone : ∀ H K, wpCall (evW Tryd.prog notes) 18 [imVal noIm, imVal noIm] H K = K (.ret (.bool true) false) H := fun H K => wpCall_eq (same_im (imV_val noIm) (imV_val noIm) ⟨by simp [noIm], by simp [noIm], by simp [noIm], by simp [noIm], by simp [noIm], by simp [noIm]⟩ H)
  have hvn : imVal noIm = .agg [.nils, .nils, .nils, .int .i64 0] := rfl
  rw [hvn] at hnone
  obtain ⟨fu, st, ke, fs, ks, rfl, hf, hs, hk, f2, k2⟩ := q
  have z1 := fun st => (hf []).shutIn st
  have z2 := fun s => (hs []).shutIn s
  have z3 := fun st => (hk []).shutIn st
  have x1 := (hf []).cells1
  have x2 := (hs []).cells1
  have x3 := (hk []).cells1
  have w1 := (hf []).ok
  have w2 := (hs []).ok
  have w3 := (hk []).ok
  have h00 : ((0 : Int) == 0) = true := rfl
  have h01 : ((0 : Int) != 0) = false := rfl
  have h11 : ((1 : Int) != 0) = true := rfl
  refine runs f6 b6 r6 n6 _ _ ?_
  simp only [bodyOf, Tryd.f6, Option.getD_some]
  simp only [WW, partV, eqCells, eqLf, minV, maxV, ifcV, zaa, zab, zac, zad, zae, zaf, zag, zah, zai, ofConst, ofConst1, List.replicate, zaj, zak, loadOp, Go.Abs.loadCells, binV, zal, pickV, zam, zan, zao, zap, zaq, zar, zas, zat, zau, outR, resAll, resOne, zav, zaw, zax, zay, zaz, zba, zbb, zbc, zbd, zbe, zbf, zbg, zbh, zbi, zbj, zbk, storeOp, storeCell, overlay, zbl, zbm, zbn, lookupOp, keyT, okRes, mapUpdateOp, zbo, zbp, zbq, zbr, zbs, zbt, zbu, Nat.reduceSub, Nat.reduceAdd, Int.reduceLT, Int.reduceLE, Int.reduceAdd, Int.reduceSub, Int.reduceToNat, Int.reduceBEq, Int.reduceBNe, Int.reduceMul, Nat.reduceBEq, Nat.reduceBNe, Nat.reduceLT, Nat.reduceLeDiff, Nat.reduceMul, Nat.reduceEqDiff, WD, effB, effH, isPriv, isHeap, isImm, zbx, zby, zbz, chkO, setD, dslot, zca, zcb, zcc, zcd, ptrCells_some, F6, z1, z2, z3, x1, x2, x3, w1, w2, w3]
  refine wpCall_of hbig ?_
  rintro out H' ⟨b, rfl, rfl, hb⟩
  cases b with
  | true =>
    simp only [WW, partV, eqCells, eqLf, minV, maxV, ifcV, zaa, zab, zac, zad, zae, zaf, zag, zah, zai, ofConst, ofConst1, List.replicate, zaj, zak, loadOp, Go.Abs.loadCells, binV, zal, pickV, zam, zan, zao, zap, zaq, zar, zas, zat, zau, outR, resAll, resOne, zav, zaw, zax, zay, zaz, zba, zbb, zbc, zbd, zbe, zbf, zbg, zbh, zbi, zbj, zbk, storeOp, storeCell, overlay, zbl, zbm, zbn, lookupOp, keyT, okRes, mapUpdateOp, zbo, zbp, zbq, zbr, zbs, zbt, zbu, Nat.reduceSub, Nat.reduceAdd, Int.reduceLT, Int.reduceLE, Int.reduceAdd, Int.reduceSub, Int.reduceToNat, Int.reduceBEq, Int.reduceBNe, Int.reduceMul, Nat.reduceBEq, Nat.reduceBNe, Nat.reduceLT, Nat.reduceLeDiff, Nat.reduceMul, Nat.reduceEqDiff, WD, effB, effH, isPriv, isHeap, isImm, zbx, zby, zbz, chkO, setD, dslot, zca, zcb, zcc, zcd, ptrCells_some, F6, liveW]
  | false =>
  have hsm := hb rfl
  simp only [WW, partV, eqCells, eqLf, minV, maxV, ifcV, zaa, zab, zac, zad, zae, zaf, zag, zah, zai, ofConst, ofConst1, List.replicate, zaj, zak, loadOp, Go.Abs.loadCells, binV, zal, pickV, zam, zan, zao, zap, zaq, zar, zas, zat, zau, outR, resAll, resOne, zav, zaw, zax, zay, zaz, zba, zbb, zbc, zbd, zbe, zbf, zbg, zbh, zbi, zbj, zbk, storeOp, storeCell, overlay, zbl, zbm, zbn, lookupOp, keyT, okRes, mapUpdateOp, zbo, zbp, zbq, zbr, zbs, zbt, zbu, Nat.reduceSub, Nat.reduceAdd, Int.reduceLT, Int.reduceLE, Int.reduceAdd, Int.reduceSub, Int.reduceToNat, Int.reduceBEq, Int.reduceBNe, Int.reduceMul, Nat.reduceBEq, Nat.reduceBNe, Nat.reduceLT, Nat.reduceLeDiff, Nat.reduceMul, Nat.reduceEqDiff, WD, effB, effH, isPriv, isHeap, isImm, zbx, zby, zbz, chkO, setD, dslot, zca, zcb, zcc, zcd, ptrCells_some, F6, z1, z2, z3]
  cases hok : imOk im with
  | false =>
    refine wpCall_of (hno hsm hok) ?_
    rintro out H1 ⟨rfl, _, _⟩
    simp only [WW, partV, eqCells, eqLf, minV, maxV, ifcV, zaa, zab, zac, zad, zae, zaf, zag, zah, zai, ofConst, ofConst1, List.replicate, zaj, zak, loadOp, Go.Abs.loadCells, binV, zal, pickV, zam, zan, zao, zap, zaq, zar, zas, zat, zau, outR, resAll, resOne, zav, zaw, zax, zay, zaz, zba, zbb, zbc, zbd, zbe, zbf, zbg, zbh, zbi, zbj, zbk, storeOp, storeCell, overlay, zbl, zbm, zbn, lookupOp, keyT, okRes, mapUpdateOp, zbo, zbp, zbq, zbr, zbs, zbt, zbu, Nat.reduceSub, Nat.reduceAdd, Int.reduceLT, Int.reduceLE, Int.reduceAdd, Int.reduceSub, Int.reduceToNat, Int.reduceBEq, Int.reduceBNe, Int.reduceMul, Nat.reduceBEq, Nat.reduceBNe, Nat.reduceLT, Nat.reduceLeDiff, Nat.reduceMul, Nat.reduceEqDiff, WD, effB, effH, isPriv, isHeap, isImm, zbx, zby, zbz, chkO, setD, dslot, zca, zcb, zcc, zcd, ptrCells_some, F6, numW, h11, liveW]
  | true =>
    refine wpCall_of (hyes hsm hok) ?_
    rintro out H1 ⟨y1, rfl, hy1, _, _⟩
    have hlen := encIm_len hok hsm
    have hpos : 4 ≤ (encIm im).length := by simp only [encIm, magicB, List.length_append, List.length_cons, List.length_nil]; omega
    have hbt := bt_im im
    have hcut := decS_cut hok (by omega) (n := c % (encIm im).length) (Nat.mod_lt _ (by omega))
    have hmore := decS_more hok m (by omega)
    generalize encIm im = E at *
    have hyl : ∀ (H' : Hp), lenK H' (.slice 5) y1 = some (.int .i64 (E.length : Nat)) := fun H' => by
      rcases hy1 with ⟨rfl, h2⟩ | ⟨s, es, rfl, _⟩
      · have : (bs E).length = 0 := by rw [h2]; rfl
        rw [bs_len] at this
        rw [this]; rfl
      · rw [lenK_sl, bs_len]
    have hl0 : ((E.length : Int) == 0) = false := by rw [beq_eq_false_iff_ne]; omega
    have hcv : IntKind.i64.wrap ((c : Nat) : Int) = (c : Int) := IntWalk.i64_in _ (by omega)
    have hrem : ((c : Nat) : Int).tmod (E.length : Int) = ((c % E.length : Nat) : Int) := by rw [Int.tmod_eq_emod_of_nonneg (by omega)]; norm_cast
    have hne : ((E.length : Int) = 0) = False := eq_false (by omega)
    have hml : c % E.length < E.length := Nat.mod_lt _ (by omega)
    obtain ⟨z, hz1, hz2, hz3⟩ := cut_to hy1 hml
    have hdec := decode16 hz3 (fun y hy => hbt y (List.mem_of_mem_take hy)) (by rw [List.length_take]; omega)
    have hcd := decS_cd (L := E.take (c % E.length))
    have hat := decS_ok (L := E.take (c % E.length))
    rw [List.length_take] at hat
    obtain ⟨e, p, hp, hT, he⟩ : ∃ e p : Nat, p ≤ c % E.length ∧ decT (E.take (c % E.length)) (decS (E.take (c % E.length))) = [.agg [.nils, .nils, .nils, .int .i64 0], .int .i64 (e : Nat), .int .i64 (p : Nat)] ∧ (e = 3 ∨ e = 6) := by
      cases he : (decS (E.take (c % E.length))).2.e with
      | zero => exact absurd he hcut
      | succ e =>
        refine ⟨e + 1, (decS (E.take (c % E.length))).2.at_, by omega, by simp only [decT, he, hvn], ?_⟩
        unfold Cd at hcd
        rw [he] at hcd
        omega
    rw [hT] at hdec
    simp only [WW, partV, eqCells, eqLf, minV, maxV, ifcV, zaa, zab, zac, zad, zae, zaf, zag, zah, zai, ofConst, ofConst1, List.replicate, zaj, zak, loadOp, Go.Abs.loadCells, binV, zal, pickV, zam, zan, zao, zap, zaq, zar, zas, zat, zau, outR, resAll, resOne, zav, zaw, zax, zay, zaz, zba, zbb, zbc, zbd, zbe, zbf, zbg, zbh, zbi, zbj, zbk, storeOp, storeCell, overlay, zbl, zbm, zbn, lookupOp, keyT, okRes, mapUpdateOp, zbo, zbp, zbq, zbr, zbs, zbt, zbu, Nat.reduceSub, Nat.reduceAdd, Int.reduceLT, Int.reduceLE, Int.reduceAdd, Int.reduceSub, Int.reduceToNat, Int.reduceBEq, Int.reduceBNe, Int.reduceMul, Nat.reduceBEq, Nat.reduceBNe, Nat.reduceLT, Nat.reduceLeDiff, Nat.reduceMul, Nat.reduceEqDiff, WD, effB, effH, isPriv, isHeap, isImm, zbx, zby, zbz, chkO, setD, dslot, zca, zcb, zcc, zcd, ptrCells_some, F6, numW, h01, hy1.shut, hyl, hl0, convertOp, hcv, hne, hrem, Option.map_none, hz1, hz2]
    refine wpCall_of hdec ?_
    rintro out H2 ⟨rfl, hk2⟩
    have g6 : decide (((c % E.length : Nat) : Int) < (p : Int)) = false := decide_eq_false (by omega)
    have hyr2 : Rd H2 y1 (bs E) := (slw_cut hy1 H2 hk2).1
    have hap1 := fun s b tl H d => app_rowP (es := []) (xs := bs E) (n := 0) rfl rfl (wide_bs _) (by rw [bs_len]; simp; omega) s b tl H d false
    have hap2 := fun s b tl H d => app_rowP (es := bs E) (xs := [V.int .u8 (m : Nat)]) (n := E.length) (bs_len _).symm (wide_bs _) rfl (by rw [bs_len]; simp; omega) s b tl H d false
    have hsrc : ∀ (x : V), srcK H2 (.sl 5) x = srcSl H2 x := fun _ => rfl
    have hbm : bs E ++ [V.int .u8 (m : Nat)] = bs (E ++ [m]) := by rw [bs_app]; rfl
    have htk : (bs (E ++ [m])).take (E.length + 1) = bs (E ++ [m]) := List.take_of_length_le (by rw [bs_len, List.length_append]; simp)
    have hdec2 : ∀ K : Out → Hp → Prop, (∀ H', K (.ret (.tup [.agg [.nils, .nils, .nils, .int .i64 0], .int .i64 6, .int .i64 (E.length : Nat)]) false) H') → wpCall (evW Tryd.prog notes) 16 [.rsl (bs (E ++ [m]))] H2 K := fun K hK => by
      refine wpCall_of (decode16 (L := E ++ [m]) (fun H' _ => rda_cut (fun _ => .rsl _) H') (fun y hy => ?_) (by rw [List.length_append]; simp; omega)) ?_
      · rcases List.mem_append.1 hy with h | h
        · exact hbt y h
        · simp at h; omega
      · rintro out H' ⟨rfl, _⟩
        have : decT (E ++ [m]) (decS (E ++ [m])) = [.agg [.nils, .nils, .nils, .int .i64 0], .int .i64 6, .int .i64 (E.length : Nat)] := by simp only [decT, hmore, hvn]; rfl
        rw [this]; exact hK H'
    have h66 : ((6 : Int) == 6) = true := rfl
    have hes : (((e : Nat) : Int) != 6) = true ∧ (((e : Nat) : Int) != 3) = false ∨ (((e : Nat) : Int) != 6) = false := by
      rcases he with rfl | rfl
      · exact .inl ⟨rfl, rfl⟩
      · exact .inr rfl
    rcases hes with ⟨e1, e2⟩ | e1
    · simp only [WW, partV, eqCells, eqLf, minV, maxV, ifcV, zaa, zab, zac, zad, zae, zaf, zag, zah, zai, ofConst, ofConst1, List.replicate, zaj, zak, loadOp, Go.Abs.loadCells, binV, zal, pickV, zam, zan, zao, zap, zaq, zar, zas, zat, zau, outR, resAll, resOne, zav, zaw, zax, zay, zaz, zba, zbb, zbc, zbd, zbe, zbf, zbg, zbh, zbi, zbj, zbk, storeOp, storeCell, overlay, zbl, zbm, zbn, lookupOp, keyT, okRes, mapUpdateOp, zbo, zbp, zbq, zbr, zbs, zbt, zbu, Nat.reduceSub, Nat.reduceAdd, Int.reduceLT, Int.reduceLE, Int.reduceAdd, Int.reduceSub, Int.reduceToNat, Int.reduceBEq, Int.reduceBNe, Int.reduceMul, Nat.reduceBEq, Nat.reduceBNe, Nat.reduceLT, Nat.reduceLeDiff, Nat.reduceMul, Nat.reduceEqDiff, WD, effB, effH, isPriv, isHeap, isImm, zbx, zby, zbz, chkO, setD, dslot, zca, zcb, zcc, zcd, ptrCells_some, F6, numW, e1, e2, g6, buildOp, fillV, Lay.place, Bool.or_self, Bool.or_false, Bool.false_or, decide_not, ne_eq, not_true_eq_false, decide_eq_true_eq, Nat.lt_irrefl, hnone, hy1.shut, buildSliceV, lits, srcV_eq, srcK_sl, srcK_str, srcSl_nils, srcSl_rsl, srcSl_sl, frow, zbv, zbw, List.all_nil, List.all_cons, rowV, Bool.false_and, Bool.and_false, not_false_eq_true, grows_lr, callOut_t, hyr2.srcSl, hap1, bs_len, hap2, hbm, htk]
      refine hdec2 _ fun H3 => ?_
      simp only [WW, partV, eqCells, eqLf, minV, maxV, ifcV, zaa, zab, zac, zad, zae, zaf, zag, zah, zai, ofConst, ofConst1, List.replicate, zaj, zak, loadOp, Go.Abs.loadCells, binV, zal, pickV, zam, zan, zao, zap, zaq, zar, zas, zat, zau, outR, resAll, resOne, zav, zaw, zax, zay, zaz, zba, zbb, zbc, zbd, zbe, zbf, zbg, zbh, zbi, zbj, zbk, storeOp, storeCell, overlay, zbl, zbm, zbn, lookupOp, keyT, okRes, mapUpdateOp, zbo, zbp, zbq, zbr, zbs, zbt, zbu, Nat.reduceSub, Nat.reduceAdd, Int.reduceLT, Int.reduceLE, Int.reduceAdd, Int.reduceSub, Int.reduceToNat, Int.reduceBEq, Int.reduceBNe, Int.reduceMul, Nat.reduceBEq, Nat.reduceBNe, Nat.reduceLT, Nat.reduceLeDiff, Nat.reduceMul, Nat.reduceEqDiff, WD, effB, effH, isPriv, isHeap, isImm, zbx, zby, zbz, chkO, setD, dslot, zca, zcb, zcc, zcd, ptrCells_some, F6, numW, h66, hy1.shut, hyl, buildOp, fillV, Lay.place, Bool.or_self, Bool.or_false, Bool.false_or, decide_not, ne_eq, not_true_eq_false, decide_eq_true_eq, Nat.lt_irrefl, hnone, liveW]
    · simp only [WW, partV, eqCells, eqLf, minV, maxV, ifcV, zaa, zab, zac, zad, zae, zaf, zag, zah, zai, ofConst, ofConst1, List.replicate, zaj, zak, loadOp, Go.Abs.loadCells, binV, zal, pickV, zam, zan, zao, zap, zaq, zar, zas, zat, zau, outR, resAll, resOne, zav, zaw, zax, zay, zaz, zba, zbb, zbc, zbd, zbe, zbf, zbg, zbh, zbi, zbj, zbk, storeOp, storeCell, overlay, zbl, zbm, zbn, lookupOp, keyT, okRes, mapUpdateOp, zbo, zbp, zbq, zbr, zbs, zbt, zbu, Nat.reduceSub, Nat.reduceAdd, Int.reduceLT, Int.reduceLE, Int.reduceAdd, Int.reduceSub, Int.reduceToNat, Int.reduceBEq, Int.reduceBNe, Int.reduceMul, Nat.reduceBEq, Nat.reduceBNe, Nat.reduceLT, Nat.reduceLeDiff, Nat.reduceMul, Nat.reduceEqDiff, WD, effB, effH, isPriv, isHeap, isImm, zbx, zby, zbz, chkO, setD, dslot, zca, zcb, zcc, zcd, ptrCells_some, F6, numW, e1, g6, buildOp, fillV, Lay.place, Bool.or_self, Bool.or_false, Bool.false_or, decide_not, ne_eq, not_true_eq_false, decide_eq_true_eq, Nat.lt_irrefl, hnone, hy1.shut, buildSliceV, lits, srcV_eq, srcK_sl, srcK_str, srcSl_nils, srcSl_rsl, srcSl_sl, frow, zbv, zbw, List.all_nil, List.all_cons, rowV, Bool.false_and, Bool.and_false, not_false_eq_true, grows_lr, callOut_t, hyr2.srcSl, hap1, bs_len, hap2, hbm, htk]
      refine hdec2 _ fun H3 => ?_
      simp only [WW, partV, eqCells, eqLf, minV, maxV, ifcV, zaa, zab, zac, zad, zae, zaf, zag, zah, zai, ofConst, ofConst1, List.replicate, zaj, zak, loadOp, Go.Abs.loadCells, binV, zal, pickV, zam, zan, zao, zap, zaq, zar, zas, zat, zau, outR, resAll, resOne, zav, zaw, zax, zay, zaz, zba, zbb, zbc, zbd, zbe, zbf, zbg, zbh, zbi, zbj, zbk, storeOp, storeCell, overlay, zbl, zbm, zbn, lookupOp, keyT, okRes, mapUpdateOp, zbo, zbp, zbq, zbr, zbs, zbt, zbu, Nat.reduceSub, Nat.reduceAdd, Int.reduceLT, Int.reduceLE, Int.reduceAdd, Int.reduceSub, Int.reduceToNat, Int.reduceBEq, Int.reduceBNe, Int.reduceMul, Nat.reduceBEq, Nat.reduceBNe, Nat.reduceLT, Nat.reduceLeDiff, Nat.reduceMul, Nat.reduceEqDiff, WD, effB, effH, isPriv, isHeap, isImm, zbx, zby, zbz, chkO, setD, dslot, zca, zcb, zcc, zcd, ptrCells_some, F6, numW, h66, hy1.shut, hyl, buildOp, fillV, Lay.place, Bool.or_self, Bool.or_false, Bool.false_or, decide_not, ne_eq, not_true_eq_false, decide_eq_true_eq, Nat.lt_irrefl, hnone, liveW]
theorem u43 : Tryd.prog.underlying 43 = some (.int .u16) := by kernel_rfl
theorem ag43 : isAggT Tryd.prog 43 = false := by kernel_rfl
theorem codeCuts_main {v0 v1 v2 : List V} (h0 : Tv Tryd.prog 8 26 v0) (h1 : Tv Tryd.prog 8 43 v1) (h2 : Tv Tryd.prog 8 5 v2) :
    wpCall (evW Tryd.prog notes) 6 [mkV (isAggT Tryd.prog 26) v0, mkV (isAggT Tryd.prog 43) v1, mkV (isAggT Tryd.prog 5) v2] [] (fun out H' => out = .ret (.bool true) false) := by
  obtain ⟨im, ⟨q⟩⟩ := im_tv h0
  obtain ⟨n, rfl, hn⟩ := tv_int h1 u43
  obtain ⟨k, rfl, hk⟩ := tv_int h2 u5
  rw [ag43, ag5]
  simp [Lit.wf, IntKind.min, IntKind.max, IntKind.signed, IntKind.bits] at hn hk
  obtain ⟨a, rfl⟩ : ∃ a : Nat, n = a := ⟨n.toNat, by omega⟩
  obtain ⟨b, rfl⟩ : ∃ b : Nat, k = b := ⟨k.toNat, by omega⟩
  exact codeCuts_eq q (by omega) (by omega)
end Go.Proofs.YtgjobbmbbedecaaDoor
