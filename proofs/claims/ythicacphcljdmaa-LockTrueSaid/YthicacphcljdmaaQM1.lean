/- A part of the proofs over this seat. -/
import Derived.Test.YthicacphcljdmaaQK1
import Derived.Test.YthicacphcljdmaaQAbsTv
import Derived.Test.YthicacphcljdmaaQAbsSl
/- Monitors made one by one. -/
namespace Go.Proofs.Ythicacphcljdmaa
open Go Go.Abs Go.Proofs
set_option maxRecDepth 100000
set_option maxHeartbeats 2000000
set_option linter.unusedVariables false
set_option linter.unusedSimpArgs false
noncomputable abbrev EW := evW Try.prog notes
theorem num_eq (n : Int) (H : Hp) : EW 10 [.int .i64 n] H = some (.ret (.int .i64 n) false, H) := by
  refine eqOf (runs f10 b10 r10 n10 _ _ ?_)
  simp only [bodyOf, Try.f10, Option.getD_some]
  simp only [WW, partV, eqCells, eqLf, minV, maxV, ifcV, zaa, zab, zac, zad, zae, zaf, zag, zah, zai, ofConst, ofConst1, List.replicate, zaj, zak, loadOp, Go.Abs.loadCells, binV, zal, pickV, zam, zan, zao, zap, zaq, zar, zas, zat, zau, outR, resAll, resOne, zav, zaw, zax, zay, zaz, zba, zbb, zbc, zbd, zbe, zbf, zbg, zbh, zbi, zbj, zbk, storeOp, storeCell, overlay, zbl, zbm, zbn, lookupOp, keyT, okRes, mapUpdateOp, zbo, zbp, zbq, zbr, zbs, zbt, zbu, Nat.reduceSub, Nat.reduceAdd, Int.reduceLT, Int.reduceLE, Int.reduceAdd, Int.reduceSub, Int.reduceToNat, Int.reduceBEq, Int.reduceBNe, Int.reduceMul, Nat.reduceBEq, Nat.reduceBNe, Nat.reduceLT, Nat.reduceLeDiff, Nat.reduceMul, Nat.reduceEqDiff, WD, effB, effH, isPriv, isHeap, isImm, zbx, zby, zbz, chkO, setD, dslot, zca, zcb, zcc, zcd, ptrCells_some, convertOp]
theorem new_eq (H : Hp) : EW 8 [] H = some (.ret (.ptr H.length 0 0) false, H ++ [.cells [.agg [.nils, .nils, .nils, .int .i64 0]]]) := by
  refine eqOf2 (runs f8 b8 r8 n8 _ _ ?_)
  simp only [bodyOf, Try.f8, Option.getD_some]
  simp only [WW, partV, eqCells, eqLf, minV, maxV, ifcV, zaa, zab, zac, zad, zae, zaf, zag, zah, zai, ofConst, ofConst1, List.replicate, zaj, zak, loadOp, Go.Abs.loadCells, binV, zal, pickV, zam, zan, zao, zap, zaq, zar, zas, zat, zau, outR, resAll, resOne, zav, zaw, zax, zay, zaz, zba, zbb, zbc, zbd, zbe, zbf, zbg, zbh, zbi, zbj, zbk, storeOp, storeCell, overlay, zbl, zbm, zbn, lookupOp, keyT, okRes, mapUpdateOp, zbo, zbp, zbq, zbr, zbs, zbt, zbu, Nat.reduceSub, Nat.reduceAdd, Int.reduceLT, Int.reduceLE, Int.reduceAdd, Int.reduceSub, Int.reduceToNat, Int.reduceBEq, Int.reduceBNe, Int.reduceMul, Nat.reduceBEq, Nat.reduceBNe, Nat.reduceLT, Nat.reduceLeDiff, Nat.reduceMul, Nat.reduceEqDiff, WD, effB, effH, isPriv, isHeap, isImm, zbx, zby, zbz, chkO, setD, dslot, zca, zcb, zcc, zcd, ptrCells_some, F8, buildOp, fillV]
  all_goals rfl
theorem make_full {H : Hp} {p : Nat} {all w1 w2 w3 : V} {ms : List V} (hp : H[p]? = some (.cells [.agg [all, w1, w2, w3]])) (ha : SlW 1 H (· = p) all ms) (hl : ms.length = 1024) :
    EW 9 [.ptr p 0 0] H = some (.ret (.tup [.int .i64 0, .int .i64 3]) false, H) := by
  have hlen : lenK H (TK.slice 64) all = some (.int .i64 1024) := by rw [ha.len 64, hl]; rfl
  refine eqOf2 (runs f9 b9 r9 n9 _ _ ?_)
  simp only [bodyOf, Try.f9, Option.getD_some]
  simp only [WW, partV, eqCells, eqLf, minV, maxV, ifcV, zaa, zab, zac, zad, zae, zaf, zag, zah, zai, ofConst, ofConst1, List.replicate, zaj, zak, loadOp, Go.Abs.loadCells, binV, zal, pickV, zam, zan, zao, zap, zaq, zar, zas, zat, zau, outR, resAll, resOne, zav, zaw, zax, zay, zaz, zba, zbb, zbc, zbd, zbe, zbf, zbg, zbh, zbi, zbj, zbk, storeOp, storeCell, overlay, zbl, zbm, zbn, lookupOp, keyT, okRes, mapUpdateOp, zbo, zbp, zbq, zbr, zbs, zbt, zbu, Nat.reduceSub, Nat.reduceAdd, Int.reduceLT, Int.reduceLE, Int.reduceAdd, Int.reduceSub, Int.reduceToNat, Int.reduceBEq, Int.reduceBNe, Int.reduceMul, Nat.reduceBEq, Nat.reduceBNe, Nat.reduceLT, Nat.reduceLeDiff, Nat.reduceMul, Nat.reduceEqDiff, WD, effB, effH, isPriv, isHeap, isImm, zbx, zby, zbz, chkO, setD, dslot, zca, zcb, zcc, zcd, ptrCells_some, F9, hp, ha.shut, hlen, lenOp_eq]
theorem make_spec {H : Hp} {p : Nat} {all w1 w2 w3 : V} {ms : List V} (hp : H[p]? = some (.cells [.agg [all, w1, w2, w3]])) (ha : SlW 1 H (· = p) all ms) (hl : ms.length < 1024) :
    wpCall EW 9 [.ptr p 0 0] H (fun out H' => out = .ret (.tup [.int .i64 ms.length, .int .i64 0]) false ∧ ∃ all' v, H'[p]? = some (.cells [.agg [all', w1, w2, w3]]) ∧ SlW 1 H' (· = p) all' (ms ++ [v])) := by
  have hlen := ha.len 64
  have hpl := (List.getElem?_eq_some_iff.1 hp).1
  have hp1 : (H ++ [Blk.cells [.agg [.int .i64 (-1), .int .i64 0]]])[p]? = some (.cells [.agg [all, w1, w2, w3]]) := by rw [List.getElem?_append_left hpl]; exact hp
  have hq : ((ms.length : Int) == 1024) = false := by simp; omega
  obtain ⟨x', H2, hap, hx', hk, hle⟩ := app_sl (P := Try.prog) (sz := 1) (e := 64) (d := some 23) [.ptr H.length 0 0] (by kernel_rfl) (ha.app [Blk.cells [.agg [.int .i64 (-1), .int .i64 0]]]) (fun i hi => by subst hi; simp; omega) rfl (by simp) (by rw [room64]; simp; omega)
  have hp2 : H2[p]? = some (.cells [.agg [all, w1, w2, w3]]) := by rw [hk p rfl]; exact hp1
  have hp3 : (H2.set p (.cells [.agg [x', w1, w2, w3]]))[p]? = some (.cells [.agg [x', w1, w2, w3]]) := by rw [List.getElem?_set_self (by have := hle; simp at this; omega)]
  have hlen2 := (hx'.set (w := p) rfl (.cells [.agg [x', w1, w2, w3]])).len 64
  refine runs f9 b9 r9 n9 _ _ ?_
  simp only [bodyOf, Try.f9, Option.getD_some]
  simp only [WW, partV, eqCells, eqLf, minV, maxV, ifcV, zaa, zab, zac, zad, zae, zaf, zag, zah, zai, ofConst, ofConst1, List.replicate, zaj, zak, loadOp, Go.Abs.loadCells, binV, zal, pickV, zam, zan, zao, zap, zaq, zar, zas, zat, zau, outR, resAll, resOne, zav, zaw, zax, zay, zaz, zba, zbb, zbc, zbd, zbe, zbf, zbg, zbh, zbi, zbj, zbk, storeOp, storeCell, overlay, zbl, zbm, zbn, lookupOp, keyT, okRes, mapUpdateOp, zbo, zbp, zbq, zbr, zbs, zbt, zbu, Nat.reduceSub, Nat.reduceAdd, Int.reduceLT, Int.reduceLE, Int.reduceAdd, Int.reduceSub, Int.reduceToNat, Int.reduceBEq, Int.reduceBNe, Int.reduceMul, Nat.reduceBEq, Nat.reduceBNe, Nat.reduceLT, Nat.reduceLeDiff, Nat.reduceMul, Nat.reduceEqDiff, WD, effB, effH, isPriv, isHeap, isImm, zbx, zby, zbz, chkO, setD, dslot, zca, zcb, zcc, zcd, ptrCells_some, F9, hp, ha.shut, hlen, lenOp_eq, hq]
  simp only [WW, partV, eqCells, eqLf, minV, maxV, ifcV, zaa, zab, zac, zad, zae, zaf, zag, zah, zai, ofConst, ofConst1, List.replicate, zaj, zak, loadOp, Go.Abs.loadCells, binV, zal, pickV, zam, zan, zao, zap, zaq, zar, zas, zat, zau, outR, resAll, resOne, zav, zaw, zax, zay, zaz, zba, zbb, zbc, zbd, zbe, zbf, zbg, zbh, zbi, zbj, zbk, storeOp, storeCell, overlay, zbl, zbm, zbn, lookupOp, keyT, okRes, mapUpdateOp, zbo, zbp, zbq, zbr, zbs, zbt, zbu, Nat.reduceSub, Nat.reduceAdd, Int.reduceLT, Int.reduceLE, Int.reduceAdd, Int.reduceSub, Int.reduceToNat, Int.reduceBEq, Int.reduceBNe, Int.reduceMul, Nat.reduceBEq, Nat.reduceBNe, Nat.reduceLT, Nat.reduceLeDiff, Nat.reduceMul, Nat.reduceEqDiff, WD, effB, effH, isPriv, isHeap, isImm, zbx, zby, zbz, chkO, setD, dslot, zca, zcb, zcc, zcd, ptrCells_some, F9, buildOp, fillV, Lay.place, Bool.or_self, Bool.or_false, Bool.false_or, decide_not, ne_eq, not_true_eq_false, decide_eq_true_eq, Nat.lt_irrefl, buildSliceV, lits, srcV_eq, srcK_sl, srcK_str, srcSl_nils, srcSl_rsl, srcSl_sl, frow, zbv, zbw, List.all_nil, List.all_cons, rowV, Bool.false_and, Bool.and_false, not_false_eq_true, grows_lr, callOut_t, hp1, hap, hp2, hx'.shut, hx'.prom, hx'.cells1, hx'.width1, hx'.ok, hlen2, hp3, storeHeap, heapSet, elemSet]
  refine ⟨?_, x', _, rfl, hx'.set rfl _⟩
  rw [List.length_append, List.length_singleton, IntWalk.i64_in _ (by omega)]
  congr 3
  simp
/-- Monitors made one by one: as many as may be. -/
theorem bounds_eq (n : Int) (H : Hp) : wpCall EW 3 [.int .i64 n] H (fun out H' => out = .ret (.bool true) false) := by
  refine runs f3 b3 r3 n3 _ _ ?_
  simp only [bodyOf, Try.f3, Option.getD_some]
  simp only [WW, partV, eqCells, eqLf, minV, maxV, ifcV, zaa, zab, zac, zad, zae, zaf, zag, zah, zai, ofConst, ofConst1, List.replicate, zaj, zak, loadOp, Go.Abs.loadCells, binV, zal, pickV, zam, zan, zao, zap, zaq, zar, zas, zat, zau, outR, resAll, resOne, zav, zaw, zax, zay, zaz, zba, zbb, zbc, zbd, zbe, zbf, zbg, zbh, zbi, zbj, zbk, storeOp, storeCell, overlay, zbl, zbm, zbn, lookupOp, keyT, okRes, mapUpdateOp, zbo, zbp, zbq, zbr, zbs, zbt, zbu, Nat.reduceSub, Nat.reduceAdd, Int.reduceLT, Int.reduceLE, Int.reduceAdd, Int.reduceSub, Int.reduceToNat, Int.reduceBEq, Int.reduceBNe, Int.reduceMul, Nat.reduceBEq, Nat.reduceBNe, Nat.reduceLT, Nat.reduceLeDiff, Nat.reduceMul, Nat.reduceEqDiff, WD, effB, effH, isPriv, isHeap, isImm, zbx, zby, zbz, chkO, setD, dslot, zca, zcb, zcc, zcd, ptrCells_some, F3]
  refine gSplit (fun h0 => ?_) (fun h0 => ?_)
  · simp only [h0]
    simp only [WW, partV, eqCells, eqLf, minV, maxV, ifcV, zaa, zab, zac, zad, zae, zaf, zag, zah, zai, ofConst, ofConst1, List.replicate, zaj, zak, loadOp, Go.Abs.loadCells, binV, zal, pickV, zam, zan, zao, zap, zaq, zar, zas, zat, zau, outR, resAll, resOne, zav, zaw, zax, zay, zaz, zba, zbb, zbc, zbd, zbe, zbf, zbg, zbh, zbi, zbj, zbk, storeOp, storeCell, overlay, zbl, zbm, zbn, lookupOp, keyT, okRes, mapUpdateOp, zbo, zbp, zbq, zbr, zbs, zbt, zbu, Nat.reduceSub, Nat.reduceAdd, Int.reduceLT, Int.reduceLE, Int.reduceAdd, Int.reduceSub, Int.reduceToNat, Int.reduceBEq, Int.reduceBNe, Int.reduceMul, Nat.reduceBEq, Nat.reduceBNe, Nat.reduceLT, Nat.reduceLeDiff, Nat.reduceMul, Nat.reduceEqDiff, WD, effB, effH, isPriv, isHeap, isImm, zbx, zby, zbz, chkO, setD, dslot, zca, zcb, zcc, zcd, ptrCells_some, F3]
    rw [wpCall_eq (live_eq _)]
    simp only [WW, partV, eqCells, eqLf, minV, maxV, ifcV, zaa, zab, zac, zad, zae, zaf, zag, zah, zai, ofConst, ofConst1, List.replicate, zaj, zak, loadOp, Go.Abs.loadCells, binV, zal, pickV, zam, zan, zao, zap, zaq, zar, zas, zat, zau, outR, resAll, resOne, zav, zaw, zax, zay, zaz, zba, zbb, zbc, zbd, zbe, zbf, zbg, zbh, zbi, zbj, zbk, storeOp, storeCell, overlay, zbl, zbm, zbn, lookupOp, keyT, okRes, mapUpdateOp, zbo, zbp, zbq, zbr, zbs, zbt, zbu, Nat.reduceSub, Nat.reduceAdd, Int.reduceLT, Int.reduceLE, Int.reduceAdd, Int.reduceSub, Int.reduceToNat, Int.reduceBEq, Int.reduceBNe, Int.reduceMul, Nat.reduceBEq, Nat.reduceBNe, Nat.reduceLT, Nat.reduceLeDiff, Nat.reduceMul, Nat.reduceEqDiff, WD, effB, effH, isPriv, isHeap, isImm, zbx, zby, zbz, chkO, setD, dslot, zca, zcb, zcc, zcd, ptrCells_some, F3]
  simp only [h0]
  simp only [WW, partV, eqCells, eqLf, minV, maxV, ifcV, zaa, zab, zac, zad, zae, zaf, zag, zah, zai, ofConst, ofConst1, List.replicate, zaj, zak, loadOp, Go.Abs.loadCells, binV, zal, pickV, zam, zan, zao, zap, zaq, zar, zas, zat, zau, outR, resAll, resOne, zav, zaw, zax, zay, zaz, zba, zbb, zbc, zbd, zbe, zbf, zbg, zbh, zbi, zbj, zbk, storeOp, storeCell, overlay, zbl, zbm, zbn, lookupOp, keyT, okRes, mapUpdateOp, zbo, zbp, zbq, zbr, zbs, zbt, zbu, Nat.reduceSub, Nat.reduceAdd, Int.reduceLT, Int.reduceLE, Int.reduceAdd, Int.reduceSub, Int.reduceToNat, Int.reduceBEq, Int.reduceBNe, Int.reduceMul, Nat.reduceBEq, Nat.reduceBNe, Nat.reduceLT, Nat.reduceLeDiff, Nat.reduceMul, Nat.reduceEqDiff, WD, effB, effH, isPriv, isHeap, isImm, zbx, zby, zbz, chkO, setD, dslot, zca, zcb, zcc, zcd, ptrCells_some, F3]
  refine cSplit (fun h1 => ?_) (fun h1 => ?_)
  · simp only [h1]
    simp only [WW, partV, eqCells, eqLf, minV, maxV, ifcV, zaa, zab, zac, zad, zae, zaf, zag, zah, zai, ofConst, ofConst1, List.replicate, zaj, zak, loadOp, Go.Abs.loadCells, binV, zal, pickV, zam, zan, zao, zap, zaq, zar, zas, zat, zau, outR, resAll, resOne, zav, zaw, zax, zay, zaz, zba, zbb, zbc, zbd, zbe, zbf, zbg, zbh, zbi, zbj, zbk, storeOp, storeCell, overlay, zbl, zbm, zbn, lookupOp, keyT, okRes, mapUpdateOp, zbo, zbp, zbq, zbr, zbs, zbt, zbu, Nat.reduceSub, Nat.reduceAdd, Int.reduceLT, Int.reduceLE, Int.reduceAdd, Int.reduceSub, Int.reduceToNat, Int.reduceBEq, Int.reduceBNe, Int.reduceMul, Nat.reduceBEq, Nat.reduceBNe, Nat.reduceLT, Nat.reduceLeDiff, Nat.reduceMul, Nat.reduceEqDiff, WD, effB, effH, isPriv, isHeap, isImm, zbx, zby, zbz, chkO, setD, dslot, zca, zcb, zcc, zcd, ptrCells_some, F3]
    rw [wpCall_eq (live_eq _)]
    simp only [WW, partV, eqCells, eqLf, minV, maxV, ifcV, zaa, zab, zac, zad, zae, zaf, zag, zah, zai, ofConst, ofConst1, List.replicate, zaj, zak, loadOp, Go.Abs.loadCells, binV, zal, pickV, zam, zan, zao, zap, zaq, zar, zas, zat, zau, outR, resAll, resOne, zav, zaw, zax, zay, zaz, zba, zbb, zbc, zbd, zbe, zbf, zbg, zbh, zbi, zbj, zbk, storeOp, storeCell, overlay, zbl, zbm, zbn, lookupOp, keyT, okRes, mapUpdateOp, zbo, zbp, zbq, zbr, zbs, zbt, zbu, Nat.reduceSub, Nat.reduceAdd, Int.reduceLT, Int.reduceLE, Int.reduceAdd, Int.reduceSub, Int.reduceToNat, Int.reduceBEq, Int.reduceBNe, Int.reduceMul, Nat.reduceBEq, Nat.reduceBNe, Nat.reduceLT, Nat.reduceLeDiff, Nat.reduceMul, Nat.reduceEqDiff, WD, effB, effH, isPriv, isHeap, isImm, zbx, zby, zbz, chkO, setD, dslot, zca, zcb, zcc, zcd, ptrCells_some, F3]
  have h0' : 1020 ≤ n := by simpa using h0
  have h1' : n ≤ 1030 := by simpa using h1
  simp only [h1]
  simp only [WW, partV, eqCells, eqLf, minV, maxV, ifcV, zaa, zab, zac, zad, zae, zaf, zag, zah, zai, ofConst, ofConst1, List.replicate, zaj, zak, loadOp, Go.Abs.loadCells, binV, zal, pickV, zam, zan, zao, zap, zaq, zar, zas, zat, zau, outR, resAll, resOne, zav, zaw, zax, zay, zaz, zba, zbb, zbc, zbd, zbe, zbf, zbg, zbh, zbi, zbj, zbk, storeOp, storeCell, overlay, zbl, zbm, zbn, lookupOp, keyT, okRes, mapUpdateOp, zbo, zbp, zbq, zbr, zbs, zbt, zbu, Nat.reduceSub, Nat.reduceAdd, Int.reduceLT, Int.reduceLE, Int.reduceAdd, Int.reduceSub, Int.reduceToNat, Int.reduceBEq, Int.reduceBNe, Int.reduceMul, Nat.reduceBEq, Nat.reduceBNe, Nat.reduceLT, Nat.reduceLeDiff, Nat.reduceMul, Nat.reduceEqDiff, WD, effB, effH, isPriv, isHeap, isImm, zbx, zby, zbz, chkO, setD, dslot, zca, zcb, zcc, zcd, ptrCells_some, F3]
  rw [wpCall_eq (new_eq _)]
  simp only [WW, partV, eqCells, eqLf, minV, maxV, ifcV, zaa, zab, zac, zad, zae, zaf, zag, zah, zai, ofConst, ofConst1, List.replicate, zaj, zak, loadOp, Go.Abs.loadCells, binV, zal, pickV, zam, zan, zao, zap, zaq, zar, zas, zat, zau, outR, resAll, resOne, zav, zaw, zax, zay, zaz, zba, zbb, zbc, zbd, zbe, zbf, zbg, zbh, zbi, zbj, zbk, storeOp, storeCell, overlay, zbl, zbm, zbn, lookupOp, keyT, okRes, mapUpdateOp, zbo, zbp, zbq, zbr, zbs, zbt, zbu, Nat.reduceSub, Nat.reduceAdd, Int.reduceLT, Int.reduceLE, Int.reduceAdd, Int.reduceSub, Int.reduceToNat, Int.reduceBEq, Int.reduceBNe, Int.reduceMul, Nat.reduceBEq, Nat.reduceBNe, Nat.reduceLT, Nat.reduceLeDiff, Nat.reduceMul, Nat.reduceEqDiff, WD, effB, effH, isPriv, isHeap, isImm, zbx, zby, zbz, chkO, setD, dslot, zca, zcb, zcc, zcd, ptrCells_some, F3]
  refine wC_loop _ (fun k st H' => ∃ (i : Nat) (all : V) (ms : List V), st = ⟨L3_7 (.v (.int .i64 n)) (.v (.ptr H.length 0 0)) (.v (.int .i64 i)), [], []⟩ ∧ H'[H.length]? = some (.cells [.agg [all, .nils, .nils, .int .i64 0]]) ∧ SlW 1 H' (· = H.length) all ms ∧ ms.length = min i 1024 ∧ (i : Int) ≤ n ∧ k = n.toNat - i) n.toNat ⟨0, .nils, [], ?_, by simp, .inl ⟨rfl, rfl⟩, rfl, by omega, by omega⟩ ?_
  · simp only [WN, firstReg, growAll, zbv, zbw, norm, killS, zag, zah, zaa, zab, zbl, zat, zad, growOne, zae, zaf, zac, zas, zak, Nat.reduceLT, Nat.reduceAdd, zbj, zav, F3, L3_7]; rfl
  · rintro k st H' ⟨i, all, ms, rfl, hp, hs, hl, hi, rfl⟩
    simp only [L3_7]
    simp only [WW, partV, eqCells, eqLf, minV, maxV, ifcV, zaa, zab, zac, zad, zae, zaf, zag, zah, zai, ofConst, ofConst1, List.replicate, zaj, zak, loadOp, Go.Abs.loadCells, binV, zal, pickV, zam, zan, zao, zap, zaq, zar, zas, zat, zau, outR, resAll, resOne, zav, zaw, zax, zay, zaz, zba, zbb, zbc, zbd, zbe, zbf, zbg, zbh, zbi, zbj, zbk, storeOp, storeCell, overlay, zbl, zbm, zbn, lookupOp, keyT, okRes, mapUpdateOp, zbo, zbp, zbq, zbr, zbs, zbt, zbu, Nat.reduceSub, Nat.reduceAdd, Int.reduceLT, Int.reduceLE, Int.reduceAdd, Int.reduceSub, Int.reduceToNat, Int.reduceBEq, Int.reduceBNe, Int.reduceMul, Nat.reduceBEq, Nat.reduceBNe, Nat.reduceLT, Nat.reduceLeDiff, Nat.reduceMul, Nat.reduceEqDiff, WD, effB, effH, isPriv, isHeap, isImm, zbx, zby, zbz, chkO, setD, dslot, zca, zcb, zcc, zcd, ptrCells_some, F3]
    refine cStep_of (fun hlt => ?_) (fun hge => ?_)
    · have hlt' : (i : Int) < n := by simpa using hlt
      have hi1 : IntKind.i64.wrap ((i : Int) + 1) = ((i + 1 : Nat) : Int) := by rw [IntWalk.i64_in _ (by omega)]; omega
      simp only [WW, partV, eqCells, eqLf, minV, maxV, ifcV, zaa, zab, zac, zad, zae, zaf, zag, zah, zai, ofConst, ofConst1, List.replicate, zaj, zak, loadOp, Go.Abs.loadCells, binV, zal, pickV, zam, zan, zao, zap, zaq, zar, zas, zat, zau, outR, resAll, resOne, zav, zaw, zax, zay, zaz, zba, zbb, zbc, zbd, zbe, zbf, zbg, zbh, zbi, zbj, zbk, storeOp, storeCell, overlay, zbl, zbm, zbn, lookupOp, keyT, okRes, mapUpdateOp, zbo, zbp, zbq, zbr, zbs, zbt, zbu, Nat.reduceSub, Nat.reduceAdd, Int.reduceLT, Int.reduceLE, Int.reduceAdd, Int.reduceSub, Int.reduceToNat, Int.reduceBEq, Int.reduceBNe, Int.reduceMul, Nat.reduceBEq, Nat.reduceBNe, Nat.reduceLT, Nat.reduceLeDiff, Nat.reduceMul, Nat.reduceEqDiff, WD, effB, effH, isPriv, isHeap, isImm, zbx, zby, zbz, chkO, setD, dslot, zca, zcb, zcc, zcd, ptrCells_some, F3]
      rcases Nat.lt_or_ge i 1024 with hc | hc
      · have hm : ms.length = i := by omega
        refine wpCall_of (make_spec hp hs (by omega)) ?_
        rintro out H2 ⟨rfl, all', v, hp2, hs2⟩
        have e1 : decide ((i : Int) < 1024) = true := by simp; omega
        have e2 : decide (1024 ≤ (i : Int)) = false := by simp; omega
        have e3 : ((i : Int) != (i : Int)) = false := by simp
        rw [hm]
        simp only [WW, partV, eqCells, eqLf, minV, maxV, ifcV, zaa, zab, zac, zad, zae, zaf, zag, zah, zai, ofConst, ofConst1, List.replicate, zaj, zak, loadOp, Go.Abs.loadCells, binV, zal, pickV, zam, zan, zao, zap, zaq, zar, zas, zat, zau, outR, resAll, resOne, zav, zaw, zax, zay, zaz, zba, zbb, zbc, zbd, zbe, zbf, zbg, zbh, zbi, zbj, zbk, storeOp, storeCell, overlay, zbl, zbm, zbn, lookupOp, keyT, okRes, mapUpdateOp, zbo, zbp, zbq, zbr, zbs, zbt, zbu, Nat.reduceSub, Nat.reduceAdd, Int.reduceLT, Int.reduceLE, Int.reduceAdd, Int.reduceSub, Int.reduceToNat, Int.reduceBEq, Int.reduceBNe, Int.reduceMul, Nat.reduceBEq, Nat.reduceBNe, Nat.reduceLT, Nat.reduceLeDiff, Nat.reduceMul, Nat.reduceEqDiff, WD, effB, effH, isPriv, isHeap, isImm, zbx, zby, zbz, chkO, setD, dslot, zca, zcb, zcc, zcd, ptrCells_some, F3, e1, e2, e3]
        rw [wpCall_eq (num_eq _ _)]
        simp only [WW, partV, eqCells, eqLf, minV, maxV, ifcV, zaa, zab, zac, zad, zae, zaf, zag, zah, zai, ofConst, ofConst1, List.replicate, zaj, zak, loadOp, Go.Abs.loadCells, binV, zal, pickV, zam, zan, zao, zap, zaq, zar, zas, zat, zau, outR, resAll, resOne, zav, zaw, zax, zay, zaz, zba, zbb, zbc, zbd, zbe, zbf, zbg, zbh, zbi, zbj, zbk, storeOp, storeCell, overlay, zbl, zbm, zbn, lookupOp, keyT, okRes, mapUpdateOp, zbo, zbp, zbq, zbr, zbs, zbt, zbu, Nat.reduceSub, Nat.reduceAdd, Int.reduceLT, Int.reduceLE, Int.reduceAdd, Int.reduceSub, Int.reduceToNat, Int.reduceBEq, Int.reduceBNe, Int.reduceMul, Nat.reduceBEq, Nat.reduceBNe, Nat.reduceLT, Nat.reduceLeDiff, Nat.reduceMul, Nat.reduceEqDiff, WD, effB, effH, isPriv, isHeap, isImm, zbx, zby, zbz, chkO, setD, dslot, zca, zcb, zcc, zcd, ptrCells_some, F3, e1, e2, e3, hi1]
        refine ⟨n.toNat - (i + 1), by omega, i + 1, all', ms ++ [v], ?_, hp2, hs2, by simp; omega, by omega, rfl⟩
        simp only [WN, firstReg, growAll, zbv, zbw, norm, killS, zag, zah, zaa, zab, zbl, zat, zad, growOne, zae, zaf, zac, zas, zak, Nat.reduceLT, Nat.reduceAdd, zbj, zav, F3, L3_7]
      · have hm : ms.length = 1024 := by omega
        have e1 : decide ((i : Int) < 1024) = false := by simp; omega
        have e2 : decide (1024 ≤ (i : Int)) = true := by simp; omega
        rw [wpCall_eq (make_full hp hs hm)]
        simp only [WW, partV, eqCells, eqLf, minV, maxV, ifcV, zaa, zab, zac, zad, zae, zaf, zag, zah, zai, ofConst, ofConst1, List.replicate, zaj, zak, loadOp, Go.Abs.loadCells, binV, zal, pickV, zam, zan, zao, zap, zaq, zar, zas, zat, zau, outR, resAll, resOne, zav, zaw, zax, zay, zaz, zba, zbb, zbc, zbd, zbe, zbf, zbg, zbh, zbi, zbj, zbk, storeOp, storeCell, overlay, zbl, zbm, zbn, lookupOp, keyT, okRes, mapUpdateOp, zbo, zbp, zbq, zbr, zbs, zbt, zbu, Nat.reduceSub, Nat.reduceAdd, Int.reduceLT, Int.reduceLE, Int.reduceAdd, Int.reduceSub, Int.reduceToNat, Int.reduceBEq, Int.reduceBNe, Int.reduceMul, Nat.reduceBEq, Nat.reduceBNe, Nat.reduceLT, Nat.reduceLeDiff, Nat.reduceMul, Nat.reduceEqDiff, WD, effB, effH, isPriv, isHeap, isImm, zbx, zby, zbz, chkO, setD, dslot, zca, zcb, zcc, zcd, ptrCells_some, F3, e1, e2]
        rw [wpCall_eq (num_eq _ _)]
        simp only [WW, partV, eqCells, eqLf, minV, maxV, ifcV, zaa, zab, zac, zad, zae, zaf, zag, zah, zai, ofConst, ofConst1, List.replicate, zaj, zak, loadOp, Go.Abs.loadCells, binV, zal, pickV, zam, zan, zao, zap, zaq, zar, zas, zat, zau, outR, resAll, resOne, zav, zaw, zax, zay, zaz, zba, zbb, zbc, zbd, zbe, zbf, zbg, zbh, zbi, zbj, zbk, storeOp, storeCell, overlay, zbl, zbm, zbn, lookupOp, keyT, okRes, mapUpdateOp, zbo, zbp, zbq, zbr, zbs, zbt, zbu, Nat.reduceSub, Nat.reduceAdd, Int.reduceLT, Int.reduceLE, Int.reduceAdd, Int.reduceSub, Int.reduceToNat, Int.reduceBEq, Int.reduceBNe, Int.reduceMul, Nat.reduceBEq, Nat.reduceBNe, Nat.reduceLT, Nat.reduceLeDiff, Nat.reduceMul, Nat.reduceEqDiff, WD, effB, effH, isPriv, isHeap, isImm, zbx, zby, zbz, chkO, setD, dslot, zca, zcb, zcc, zcd, ptrCells_some, F3, e1, e2, hi1]
        refine ⟨n.toNat - (i + 1), by omega, i + 1, all, ms, ?_, hp, hs, by omega, by omega, rfl⟩
        simp only [WN, firstReg, growAll, zbv, zbw, norm, killS, zag, zah, zaa, zab, zbl, zat, zad, growOne, zae, zaf, zac, zas, zak, Nat.reduceLT, Nat.reduceAdd, zbj, zav, F3, L3_7]
    · simp only [WW, partV, eqCells, eqLf, minV, maxV, ifcV, zaa, zab, zac, zad, zae, zaf, zag, zah, zai, ofConst, ofConst1, List.replicate, zaj, zak, loadOp, Go.Abs.loadCells, binV, zal, pickV, zam, zan, zao, zap, zaq, zar, zas, zat, zau, outR, resAll, resOne, zav, zaw, zax, zay, zaz, zba, zbb, zbc, zbd, zbe, zbf, zbg, zbh, zbi, zbj, zbk, storeOp, storeCell, overlay, zbl, zbm, zbn, lookupOp, keyT, okRes, mapUpdateOp, zbo, zbp, zbq, zbr, zbs, zbt, zbu, Nat.reduceSub, Nat.reduceAdd, Int.reduceLT, Int.reduceLE, Int.reduceAdd, Int.reduceSub, Int.reduceToNat, Int.reduceBEq, Int.reduceBNe, Int.reduceMul, Nat.reduceBEq, Nat.reduceBNe, Nat.reduceLT, Nat.reduceLeDiff, Nat.reduceMul, Nat.reduceEqDiff, WD, effB, effH, isPriv, isHeap, isImm, zbx, zby, zbz, chkO, setD, dslot, zca, zcb, zcc, zcd, ptrCells_some, F3]
      rw [wpCall_eq (live_eq _)]
      simp only [WW, partV, eqCells, eqLf, minV, maxV, ifcV, zaa, zab, zac, zad, zae, zaf, zag, zah, zai, ofConst, ofConst1, List.replicate, zaj, zak, loadOp, Go.Abs.loadCells, binV, zal, pickV, zam, zan, zao, zap, zaq, zar, zas, zat, zau, outR, resAll, resOne, zav, zaw, zax, zay, zaz, zba, zbb, zbc, zbd, zbe, zbf, zbg, zbh, zbi, zbj, zbk, storeOp, storeCell, overlay, zbl, zbm, zbn, lookupOp, keyT, okRes, mapUpdateOp, zbo, zbp, zbq, zbr, zbs, zbt, zbu, Nat.reduceSub, Nat.reduceAdd, Int.reduceLT, Int.reduceLE, Int.reduceAdd, Int.reduceSub, Int.reduceToNat, Int.reduceBEq, Int.reduceBNe, Int.reduceMul, Nat.reduceBEq, Nat.reduceBNe, Nat.reduceLT, Nat.reduceLeDiff, Nat.reduceMul, Nat.reduceEqDiff, WD, effB, effH, isPriv, isHeap, isImm, zbx, zby, zbz, chkO, setD, dslot, zca, zcb, zcc, zcd, ptrCells_some, F3]
/-- The law at any argument -/
theorem lockBounds_main {v0 : List V} (h0 : Tv Try.prog 8 3 v0) :
    wpCall (evW Try.prog notes) 3 [mkV (isAggT Try.prog 3) v0] [] (fun out H' => out = .ret (.bool true) false) := by
  obtain ⟨n, rfl, _⟩ := tv_int h0 (by kernel_rfl : Try.prog.underlying 3 = some (.int .i64))
  have ag : isAggT Try.prog 3 = false := by kernel_rfl
  rw [ag]
  exact bounds_eq n []
end Go.Proofs.Ythicacphcljdmaa

/- Monitors and who waits: how they lie in the heap; what is asked. -/
namespace Go.Proofs.Ythicacphcljdmaa
open Go Go.Abs Go.Proofs
set_option maxRecDepth 100000
set_option maxHeartbeats 4000000
set_option linter.unusedVariables false
set_option linter.unusedSimpArgs false
structure Slp where
  t : Int
  n : Int
  m : Int
  u : Int
  c : Int
  told : Bool
def slpV (s : Slp) : V := .agg [.int .i64 s.t, .int .i64 s.n, .int .i64 s.m, .int .i64 s.u, .int .i64 s.c, .bool s.told]
structure Mon where
  id : Nat
  t : Int
  n : Int
def ptrV (m : Mon) : V := .ptr m.id 0 0
def monB (m : Mon) : Blk := .cells [.agg [.int .i64 m.t, .int .i64 m.n]]
def bx : V → Option Nat
  | .sl id _ _ => some id
  | _ => none
def ids (ms : List Mon) : List Nat := ms.map (·.id)
def NN (p : Nat) (is : List Nat) (x y : V) : Nat → Prop := fun i => i = p ∨ i ∈ is ∨ bx x = some i ∨ bx y = some i
structure LK (H : Hp) (p : Nat) (ms : List Mon) (ws wk : List Slp) (came : Int) (all wa wo : V) : Prop where
  blk : H[p]? = some (.cells [.agg [all, wa, wo, .int .i64 came]])
  al : SlW 1 H (NN p (ids ms) wa wo) all (ms.map ptrV)
  mon : ∀ m ∈ ms, H[m.id]? = some (monB m)
  ws : SlW 6 H (NN p (ids ms) all wo) wa (ws.map slpV)
  wk : SlW 6 H (NN p (ids ms) all wa) wo (wk.map slpV)
  np : p ∉ ids ms
  nd : (ids ms).Nodup
def wrongB (ms : List Mon) (m t : Int) : Bool := decide (m < 0) || decide ((ms.length : Int) ≤ m) || decide (t < 0) || decide (256 ≤ t)
theorem wrong_eq {H : Hp} {p : Nat} {ms : List Mon} {all w1 w2 w3 : V} {N : Nat → Prop} (hp : H[p]? = some (.cells [.agg [all, w1, w2, w3]])) (ha : SlW 1 H N all (ms.map ptrV)) (m t : Int) :
    EW 24 [.ptr p 0 0, .int .i64 m, .int .i64 t] H = some (.ret (.int .i64 (if wrongB ms m t then 1 else 0)) false, H) := by
  have hlen := ha.len 64
  rw [List.length_map] at hlen
  refine eqOf2 (runs f24 b24 r24 n24 _ _ ?_)
  simp only [bodyOf, Try.f24, Option.getD_some]
  unfold wrongB
  cases g1 : decide (m < 0) with
  | true => simp only [WW, partV, eqCells, eqLf, minV, maxV, ifcV, zaa, zab, zac, zad, zae, zaf, zag, zah, zai, ofConst, ofConst1, List.replicate, zaj, zak, loadOp, Go.Abs.loadCells, binV, zal, pickV, zam, zan, zao, zap, zaq, zar, zas, zat, zau, outR, resAll, resOne, zav, zaw, zax, zay, zaz, zba, zbb, zbc, zbd, zbe, zbf, zbg, zbh, zbi, zbj, zbk, storeOp, storeCell, overlay, zbl, zbm, zbn, lookupOp, keyT, okRes, mapUpdateOp, zbo, zbp, zbq, zbr, zbs, zbt, zbu, Nat.reduceSub, Nat.reduceAdd, Int.reduceLT, Int.reduceLE, Int.reduceAdd, Int.reduceSub, Int.reduceToNat, Int.reduceBEq, Int.reduceBNe, Int.reduceMul, Nat.reduceBEq, Nat.reduceBNe, Nat.reduceLT, Nat.reduceLeDiff, Nat.reduceMul, Nat.reduceEqDiff, WD, effB, effH, isPriv, isHeap, isImm, zbx, zby, zbz, chkO, setD, dslot, zca, zcb, zcc, zcd, ptrCells_some, F24, g1]
            simp
  | false =>
    cases g2 : decide ((ms.length : Int) ≤ m) with
    | true => simp only [WW, partV, eqCells, eqLf, minV, maxV, ifcV, zaa, zab, zac, zad, zae, zaf, zag, zah, zai, ofConst, ofConst1, List.replicate, zaj, zak, loadOp, Go.Abs.loadCells, binV, zal, pickV, zam, zan, zao, zap, zaq, zar, zas, zat, zau, outR, resAll, resOne, zav, zaw, zax, zay, zaz, zba, zbb, zbc, zbd, zbe, zbf, zbg, zbh, zbi, zbj, zbk, storeOp, storeCell, overlay, zbl, zbm, zbn, lookupOp, keyT, okRes, mapUpdateOp, zbo, zbp, zbq, zbr, zbs, zbt, zbu, Nat.reduceSub, Nat.reduceAdd, Int.reduceLT, Int.reduceLE, Int.reduceAdd, Int.reduceSub, Int.reduceToNat, Int.reduceBEq, Int.reduceBNe, Int.reduceMul, Nat.reduceBEq, Nat.reduceBNe, Nat.reduceLT, Nat.reduceLeDiff, Nat.reduceMul, Nat.reduceEqDiff, WD, effB, effH, isPriv, isHeap, isImm, zbx, zby, zbz, chkO, setD, dslot, zca, zcb, zcc, zcd, ptrCells_some, F24, g1, g2, hp, ha.shut, hlen, lenOp_eq]
              simp
    | false =>
      cases g3 : decide (t < 0) with
      | true => simp only [WW, partV, eqCells, eqLf, minV, maxV, ifcV, zaa, zab, zac, zad, zae, zaf, zag, zah, zai, ofConst, ofConst1, List.replicate, zaj, zak, loadOp, Go.Abs.loadCells, binV, zal, pickV, zam, zan, zao, zap, zaq, zar, zas, zat, zau, outR, resAll, resOne, zav, zaw, zax, zay, zaz, zba, zbb, zbc, zbd, zbe, zbf, zbg, zbh, zbi, zbj, zbk, storeOp, storeCell, overlay, zbl, zbm, zbn, lookupOp, keyT, okRes, mapUpdateOp, zbo, zbp, zbq, zbr, zbs, zbt, zbu, Nat.reduceSub, Nat.reduceAdd, Int.reduceLT, Int.reduceLE, Int.reduceAdd, Int.reduceSub, Int.reduceToNat, Int.reduceBEq, Int.reduceBNe, Int.reduceMul, Nat.reduceBEq, Nat.reduceBNe, Nat.reduceLT, Nat.reduceLeDiff, Nat.reduceMul, Nat.reduceEqDiff, WD, effB, effH, isPriv, isHeap, isImm, zbx, zby, zbz, chkO, setD, dslot, zca, zcb, zcc, zcd, ptrCells_some, F24, g1, g2, g3, hp, ha.shut, hlen, lenOp_eq]
                simp
      | false =>
        cases g4 : decide ((256 : Int) ≤ t) with
        | true => simp only [WW, partV, eqCells, eqLf, minV, maxV, ifcV, zaa, zab, zac, zad, zae, zaf, zag, zah, zai, ofConst, ofConst1, List.replicate, zaj, zak, loadOp, Go.Abs.loadCells, binV, zal, pickV, zam, zan, zao, zap, zaq, zar, zas, zat, zau, outR, resAll, resOne, zav, zaw, zax, zay, zaz, zba, zbb, zbc, zbd, zbe, zbf, zbg, zbh, zbi, zbj, zbk, storeOp, storeCell, overlay, zbl, zbm, zbn, lookupOp, keyT, okRes, mapUpdateOp, zbo, zbp, zbq, zbr, zbs, zbt, zbu, Nat.reduceSub, Nat.reduceAdd, Int.reduceLT, Int.reduceLE, Int.reduceAdd, Int.reduceSub, Int.reduceToNat, Int.reduceBEq, Int.reduceBNe, Int.reduceMul, Nat.reduceBEq, Nat.reduceBNe, Nat.reduceLT, Nat.reduceLeDiff, Nat.reduceMul, Nat.reduceEqDiff, WD, effB, effH, isPriv, isHeap, isImm, zbx, zby, zbz, chkO, setD, dslot, zca, zcb, zcc, zcd, ptrCells_some, F24, g1, g2, g3, g4, hp, ha.shut, hlen, lenOp_eq]
                  simp
        | false => simp only [WW, partV, eqCells, eqLf, minV, maxV, ifcV, zaa, zab, zac, zad, zae, zaf, zag, zah, zai, ofConst, ofConst1, List.replicate, zaj, zak, loadOp, Go.Abs.loadCells, binV, zal, pickV, zam, zan, zao, zap, zaq, zar, zas, zat, zau, outR, resAll, resOne, zav, zaw, zax, zay, zaz, zba, zbb, zbc, zbd, zbe, zbf, zbg, zbh, zbi, zbj, zbk, storeOp, storeCell, overlay, zbl, zbm, zbn, lookupOp, keyT, okRes, mapUpdateOp, zbo, zbp, zbq, zbr, zbs, zbt, zbu, Nat.reduceSub, Nat.reduceAdd, Int.reduceLT, Int.reduceLE, Int.reduceAdd, Int.reduceSub, Int.reduceToNat, Int.reduceBEq, Int.reduceBNe, Int.reduceMul, Nat.reduceBEq, Nat.reduceBNe, Nat.reduceLT, Nat.reduceLeDiff, Nat.reduceMul, Nat.reduceEqDiff, WD, effB, effH, isPriv, isHeap, isImm, zbx, zby, zbz, chkO, setD, dslot, zca, zcb, zcc, zcd, ptrCells_some, F24, g1, g2, g3, g4, hp, ha.shut, hlen, lenOp_eq]
                   simp
/-- A monitor that is there -/
theorem wrong_in {ms : List Mon} {m t : Int} (h : wrongB ms m t = false) : ∃ k : Nat, m = k ∧ ∃ x, ms[k]? = some x ∧ 0 ≤ t ∧ t < 256 := by
  simp only [wrongB, Bool.or_eq_false_iff, decide_eq_false_iff_not] at h
  refine ⟨m.toNat, by omega, ms[m.toNat]'(by omega), List.getElem?_eq_getElem _, by omega, by omega⟩
def freeB (ms : List Mon) (m t : Int) : Bool := !(wrongB ms m t) && (ms[m.toNat]?).any fun x => x.n == 0 || x.t == t
theorem free_eq {H : Hp} {p : Nat} {ms : List Mon} {all w1 w2 w3 : V} {N : Nat → Prop} (hp : H[p]? = some (.cells [.agg [all, w1, w2, w3]])) (ha : SlW 1 H N all (ms.map ptrV)) (hm : ∀ m ∈ ms, H[m.id]? = some (monB m)) (m t : Int) :
    EW 20 [.ptr p 0 0, .int .i64 m, .int .i64 t] H = some (.ret (.bool (freeB ms m t)) false, H) := by
  have hw := wrong_eq hp ha m t
  cases h : wrongB ms m t with
  | true =>
    have e : freeB ms m t = false := by unfold freeB; rw [h]; rfl
    rw [h] at hw
    rw [e]
    refine eqOf2 (runs f20 b20 r20 n20 _ _ ?_)
    simp only [bodyOf, Try.f20, Option.getD_some]
    simp only [WW, partV, eqCells, eqLf, minV, maxV, ifcV, zaa, zab, zac, zad, zae, zaf, zag, zah, zai, ofConst, ofConst1, List.replicate, zaj, zak, loadOp, Go.Abs.loadCells, binV, zal, pickV, zam, zan, zao, zap, zaq, zar, zas, zat, zau, outR, resAll, resOne, zav, zaw, zax, zay, zaz, zba, zbb, zbc, zbd, zbe, zbf, zbg, zbh, zbi, zbj, zbk, storeOp, storeCell, overlay, zbl, zbm, zbn, lookupOp, keyT, okRes, mapUpdateOp, zbo, zbp, zbq, zbr, zbs, zbt, zbu, Nat.reduceSub, Nat.reduceAdd, Int.reduceLT, Int.reduceLE, Int.reduceAdd, Int.reduceSub, Int.reduceToNat, Int.reduceBEq, Int.reduceBNe, Int.reduceMul, Nat.reduceBEq, Nat.reduceBNe, Nat.reduceLT, Nat.reduceLeDiff, Nat.reduceMul, Nat.reduceEqDiff, WD, effB, effH, isPriv, isHeap, isImm, zbx, zby, zbz, chkO, setD, dslot, zca, zcb, zcc, zcd, ptrCells_some, F20]
    rw [wpCall_eq hw]
    simp only [WW, partV, eqCells, eqLf, minV, maxV, ifcV, zaa, zab, zac, zad, zae, zaf, zag, zah, zai, ofConst, ofConst1, List.replicate, zaj, zak, loadOp, Go.Abs.loadCells, binV, zal, pickV, zam, zan, zao, zap, zaq, zar, zas, zat, zau, outR, resAll, resOne, zav, zaw, zax, zay, zaz, zba, zbb, zbc, zbd, zbe, zbf, zbg, zbh, zbi, zbj, zbk, storeOp, storeCell, overlay, zbl, zbm, zbn, lookupOp, keyT, okRes, mapUpdateOp, zbo, zbp, zbq, zbr, zbs, zbt, zbu, Nat.reduceSub, Nat.reduceAdd, Int.reduceLT, Int.reduceLE, Int.reduceAdd, Int.reduceSub, Int.reduceToNat, Int.reduceBEq, Int.reduceBNe, Int.reduceMul, Nat.reduceBEq, Nat.reduceBNe, Nat.reduceLT, Nat.reduceLeDiff, Nat.reduceMul, Nat.reduceEqDiff, WD, effB, effH, isPriv, isHeap, isImm, zbx, zby, zbz, chkO, setD, dslot, zca, zcb, zcc, zcd, ptrCells_some, F20]
  | false =>
    rw [h] at hw
    obtain ⟨k, rfl, x, hk, h1, h2⟩ := wrong_in h
    have e : freeB ms k t = (x.n == 0 || x.t == t) := by unfold freeB; rw [h]; simp [hk]
    rw [e]
    have hx := hm x (List.mem_of_getElem? hk)
    have hx' : H[x.id]? = some (.cells [.agg [.int .i64 x.t, .int .i64 x.n]]) := hx
    have hat := ha.rd.at_ (sz := 1) (i := k) (e := ptrV x) (by rw [List.getElem?_map, hk]; rfl) rfl
    have ha1 := hat.at1 ha.rd
    refine eqOf2 (runs f20 b20 r20 n20 _ _ ?_)
    simp only [bodyOf, Try.f20, Option.getD_some]
    cases g1 : (x.n == 0) with
    | true =>
      simp only [WW, partV, eqCells, eqLf, minV, maxV, ifcV, zaa, zab, zac, zad, zae, zaf, zag, zah, zai, ofConst, ofConst1, List.replicate, zaj, zak, loadOp, Go.Abs.loadCells, binV, zal, pickV, zam, zan, zao, zap, zaq, zar, zas, zat, zau, outR, resAll, resOne, zav, zaw, zax, zay, zaz, zba, zbb, zbc, zbd, zbe, zbf, zbg, zbh, zbi, zbj, zbk, storeOp, storeCell, overlay, zbl, zbm, zbn, lookupOp, keyT, okRes, mapUpdateOp, zbo, zbp, zbq, zbr, zbs, zbt, zbu, Nat.reduceSub, Nat.reduceAdd, Int.reduceLT, Int.reduceLE, Int.reduceAdd, Int.reduceSub, Int.reduceToNat, Int.reduceBEq, Int.reduceBNe, Int.reduceMul, Nat.reduceBEq, Nat.reduceBNe, Nat.reduceLT, Nat.reduceLeDiff, Nat.reduceMul, Nat.reduceEqDiff, WD, effB, effH, isPriv, isHeap, isImm, zbx, zby, zbz, chkO, setD, dslot, zca, zcb, zcc, zcd, ptrCells_some, F20]
      rw [wpCall_eq hw]
      simp only [WW, partV, eqCells, eqLf, minV, maxV, ifcV, zaa, zab, zac, zad, zae, zaf, zag, zah, zai, ofConst, ofConst1, List.replicate, zaj, zak, loadOp, Go.Abs.loadCells, binV, zal, pickV, zam, zan, zao, zap, zaq, zar, zas, zat, zau, outR, resAll, resOne, zav, zaw, zax, zay, zaz, zba, zbb, zbc, zbd, zbe, zbf, zbg, zbh, zbi, zbj, zbk, storeOp, storeCell, overlay, zbl, zbm, zbn, lookupOp, keyT, okRes, mapUpdateOp, zbo, zbp, zbq, zbr, zbs, zbt, zbu, Nat.reduceSub, Nat.reduceAdd, Int.reduceLT, Int.reduceLE, Int.reduceAdd, Int.reduceSub, Int.reduceToNat, Int.reduceBEq, Int.reduceBNe, Int.reduceMul, Nat.reduceBEq, Nat.reduceBNe, Nat.reduceLT, Nat.reduceLeDiff, Nat.reduceMul, Nat.reduceEqDiff, WD, effB, effH, isPriv, isHeap, isImm, zbx, zby, zbz, chkO, setD, dslot, zca, zcb, zcc, zcd, ptrCells_some, F20, hp, ha.shut, ha1, hat.cells, ptrV, hx', g1]
      try rfl
    | false =>
      simp only [WW, partV, eqCells, eqLf, minV, maxV, ifcV, zaa, zab, zac, zad, zae, zaf, zag, zah, zai, ofConst, ofConst1, List.replicate, zaj, zak, loadOp, Go.Abs.loadCells, binV, zal, pickV, zam, zan, zao, zap, zaq, zar, zas, zat, zau, outR, resAll, resOne, zav, zaw, zax, zay, zaz, zba, zbb, zbc, zbd, zbe, zbf, zbg, zbh, zbi, zbj, zbk, storeOp, storeCell, overlay, zbl, zbm, zbn, lookupOp, keyT, okRes, mapUpdateOp, zbo, zbp, zbq, zbr, zbs, zbt, zbu, Nat.reduceSub, Nat.reduceAdd, Int.reduceLT, Int.reduceLE, Int.reduceAdd, Int.reduceSub, Int.reduceToNat, Int.reduceBEq, Int.reduceBNe, Int.reduceMul, Nat.reduceBEq, Nat.reduceBNe, Nat.reduceLT, Nat.reduceLeDiff, Nat.reduceMul, Nat.reduceEqDiff, WD, effB, effH, isPriv, isHeap, isImm, zbx, zby, zbz, chkO, setD, dslot, zca, zcb, zcc, zcd, ptrCells_some, F20]
      rw [wpCall_eq hw]
      simp only [WW, partV, eqCells, eqLf, minV, maxV, ifcV, zaa, zab, zac, zad, zae, zaf, zag, zah, zai, ofConst, ofConst1, List.replicate, zaj, zak, loadOp, Go.Abs.loadCells, binV, zal, pickV, zam, zan, zao, zap, zaq, zar, zas, zat, zau, outR, resAll, resOne, zav, zaw, zax, zay, zaz, zba, zbb, zbc, zbd, zbe, zbf, zbg, zbh, zbi, zbj, zbk, storeOp, storeCell, overlay, zbl, zbm, zbn, lookupOp, keyT, okRes, mapUpdateOp, zbo, zbp, zbq, zbr, zbs, zbt, zbu, Nat.reduceSub, Nat.reduceAdd, Int.reduceLT, Int.reduceLE, Int.reduceAdd, Int.reduceSub, Int.reduceToNat, Int.reduceBEq, Int.reduceBNe, Int.reduceMul, Nat.reduceBEq, Nat.reduceBNe, Nat.reduceLT, Nat.reduceLeDiff, Nat.reduceMul, Nat.reduceEqDiff, WD, effB, effH, isPriv, isHeap, isImm, zbx, zby, zbz, chkO, setD, dslot, zca, zcb, zcc, zcd, ptrCells_some, F20, hp, ha.shut, ha1, hat.cells, ptrV, hx', g1]
      try rfl
theorem has_eq {H : Hp} {p : Nat} {ms : List Mon} {all w1 w2 w3 : V} {N : Nat → Prop} (hp : H[p]? = some (.cells [.agg [all, w1, w2, w3]])) (ha : SlW 1 H N all (ms.map ptrV)) (hm : ∀ m ∈ ms, H[m.id]? = some (monB m)) (m t : Int) :
    EW 26 [.ptr p 0 0, .int .i64 m, .int .i64 t] H = some (.ret (.int .i64 (if wrongB ms m t then 1 else if (ms[m.toNat]?).any (fun x => x.n == 0 || x.t != t) then 8 else 0)) false, H) := by
  have hw := wrong_eq hp ha m t
  cases h : wrongB ms m t with
  | true =>
    rw [h] at hw
    refine eqOf2 (runs f26 b26 r26 n26 _ _ ?_)
    simp only [bodyOf, Try.f26, Option.getD_some]
    simp only [WW, partV, eqCells, eqLf, minV, maxV, ifcV, zaa, zab, zac, zad, zae, zaf, zag, zah, zai, ofConst, ofConst1, List.replicate, zaj, zak, loadOp, Go.Abs.loadCells, binV, zal, pickV, zam, zan, zao, zap, zaq, zar, zas, zat, zau, outR, resAll, resOne, zav, zaw, zax, zay, zaz, zba, zbb, zbc, zbd, zbe, zbf, zbg, zbh, zbi, zbj, zbk, storeOp, storeCell, overlay, zbl, zbm, zbn, lookupOp, keyT, okRes, mapUpdateOp, zbo, zbp, zbq, zbr, zbs, zbt, zbu, Nat.reduceSub, Nat.reduceAdd, Int.reduceLT, Int.reduceLE, Int.reduceAdd, Int.reduceSub, Int.reduceToNat, Int.reduceBEq, Int.reduceBNe, Int.reduceMul, Nat.reduceBEq, Nat.reduceBNe, Nat.reduceLT, Nat.reduceLeDiff, Nat.reduceMul, Nat.reduceEqDiff, WD, effB, effH, isPriv, isHeap, isImm, zbx, zby, zbz, chkO, setD, dslot, zca, zcb, zcc, zcd, ptrCells_some, F26]
    rw [wpCall_eq hw]
    simp only [WW, partV, eqCells, eqLf, minV, maxV, ifcV, zaa, zab, zac, zad, zae, zaf, zag, zah, zai, ofConst, ofConst1, List.replicate, zaj, zak, loadOp, Go.Abs.loadCells, binV, zal, pickV, zam, zan, zao, zap, zaq, zar, zas, zat, zau, outR, resAll, resOne, zav, zaw, zax, zay, zaz, zba, zbb, zbc, zbd, zbe, zbf, zbg, zbh, zbi, zbj, zbk, storeOp, storeCell, overlay, zbl, zbm, zbn, lookupOp, keyT, okRes, mapUpdateOp, zbo, zbp, zbq, zbr, zbs, zbt, zbu, Nat.reduceSub, Nat.reduceAdd, Int.reduceLT, Int.reduceLE, Int.reduceAdd, Int.reduceSub, Int.reduceToNat, Int.reduceBEq, Int.reduceBNe, Int.reduceMul, Nat.reduceBEq, Nat.reduceBNe, Nat.reduceLT, Nat.reduceLeDiff, Nat.reduceMul, Nat.reduceEqDiff, WD, effB, effH, isPriv, isHeap, isImm, zbx, zby, zbz, chkO, setD, dslot, zca, zcb, zcc, zcd, ptrCells_some, F26]
  | false =>
    rw [h] at hw
    obtain ⟨k, rfl, x, hk, h1, h2⟩ := wrong_in h
    have hx' : H[x.id]? = some (.cells [.agg [.int .i64 x.t, .int .i64 x.n]]) := hm x (List.mem_of_getElem? hk)
    have hat := ha.rd.at_ (sz := 1) (i := k) (e := ptrV x) (by rw [List.getElem?_map, hk]; rfl) rfl
    have ha1 := hat.at1 ha.rd
    have hk' : ms[((k : Nat) : Int).toNat]? = some x := hk
    rw [hk']
    refine eqOf2 (runs f26 b26 r26 n26 _ _ ?_)
    simp only [bodyOf, Try.f26, Option.getD_some]
    cases g1 : (x.n == 0) with
    | true =>
      simp only [WW, partV, eqCells, eqLf, minV, maxV, ifcV, zaa, zab, zac, zad, zae, zaf, zag, zah, zai, ofConst, ofConst1, List.replicate, zaj, zak, loadOp, Go.Abs.loadCells, binV, zal, pickV, zam, zan, zao, zap, zaq, zar, zas, zat, zau, outR, resAll, resOne, zav, zaw, zax, zay, zaz, zba, zbb, zbc, zbd, zbe, zbf, zbg, zbh, zbi, zbj, zbk, storeOp, storeCell, overlay, zbl, zbm, zbn, lookupOp, keyT, okRes, mapUpdateOp, zbo, zbp, zbq, zbr, zbs, zbt, zbu, Nat.reduceSub, Nat.reduceAdd, Int.reduceLT, Int.reduceLE, Int.reduceAdd, Int.reduceSub, Int.reduceToNat, Int.reduceBEq, Int.reduceBNe, Int.reduceMul, Nat.reduceBEq, Nat.reduceBNe, Nat.reduceLT, Nat.reduceLeDiff, Nat.reduceMul, Nat.reduceEqDiff, WD, effB, effH, isPriv, isHeap, isImm, zbx, zby, zbz, chkO, setD, dslot, zca, zcb, zcc, zcd, ptrCells_some, F26]
      rw [wpCall_eq hw]
      simp only [WW, partV, eqCells, eqLf, minV, maxV, ifcV, zaa, zab, zac, zad, zae, zaf, zag, zah, zai, ofConst, ofConst1, List.replicate, zaj, zak, loadOp, Go.Abs.loadCells, binV, zal, pickV, zam, zan, zao, zap, zaq, zar, zas, zat, zau, outR, resAll, resOne, zav, zaw, zax, zay, zaz, zba, zbb, zbc, zbd, zbe, zbf, zbg, zbh, zbi, zbj, zbk, storeOp, storeCell, overlay, zbl, zbm, zbn, lookupOp, keyT, okRes, mapUpdateOp, zbo, zbp, zbq, zbr, zbs, zbt, zbu, Nat.reduceSub, Nat.reduceAdd, Int.reduceLT, Int.reduceLE, Int.reduceAdd, Int.reduceSub, Int.reduceToNat, Int.reduceBEq, Int.reduceBNe, Int.reduceMul, Nat.reduceBEq, Nat.reduceBNe, Nat.reduceLT, Nat.reduceLeDiff, Nat.reduceMul, Nat.reduceEqDiff, WD, effB, effH, isPriv, isHeap, isImm, zbx, zby, zbz, chkO, setD, dslot, zca, zcb, zcc, zcd, ptrCells_some, F26, hp, ha.shut, ha1, hat.cells, ptrV, hx', g1]
      simp [g1]
    | false =>
      cases g2 : (x.t != t) with
      | true =>
        simp only [WW, partV, eqCells, eqLf, minV, maxV, ifcV, zaa, zab, zac, zad, zae, zaf, zag, zah, zai, ofConst, ofConst1, List.replicate, zaj, zak, loadOp, Go.Abs.loadCells, binV, zal, pickV, zam, zan, zao, zap, zaq, zar, zas, zat, zau, outR, resAll, resOne, zav, zaw, zax, zay, zaz, zba, zbb, zbc, zbd, zbe, zbf, zbg, zbh, zbi, zbj, zbk, storeOp, storeCell, overlay, zbl, zbm, zbn, lookupOp, keyT, okRes, mapUpdateOp, zbo, zbp, zbq, zbr, zbs, zbt, zbu, Nat.reduceSub, Nat.reduceAdd, Int.reduceLT, Int.reduceLE, Int.reduceAdd, Int.reduceSub, Int.reduceToNat, Int.reduceBEq, Int.reduceBNe, Int.reduceMul, Nat.reduceBEq, Nat.reduceBNe, Nat.reduceLT, Nat.reduceLeDiff, Nat.reduceMul, Nat.reduceEqDiff, WD, effB, effH, isPriv, isHeap, isImm, zbx, zby, zbz, chkO, setD, dslot, zca, zcb, zcc, zcd, ptrCells_some, F26]
        rw [wpCall_eq hw]
        simp only [WW, partV, eqCells, eqLf, minV, maxV, ifcV, zaa, zab, zac, zad, zae, zaf, zag, zah, zai, ofConst, ofConst1, List.replicate, zaj, zak, loadOp, Go.Abs.loadCells, binV, zal, pickV, zam, zan, zao, zap, zaq, zar, zas, zat, zau, outR, resAll, resOne, zav, zaw, zax, zay, zaz, zba, zbb, zbc, zbd, zbe, zbf, zbg, zbh, zbi, zbj, zbk, storeOp, storeCell, overlay, zbl, zbm, zbn, lookupOp, keyT, okRes, mapUpdateOp, zbo, zbp, zbq, zbr, zbs, zbt, zbu, Nat.reduceSub, Nat.reduceAdd, Int.reduceLT, Int.reduceLE, Int.reduceAdd, Int.reduceSub, Int.reduceToNat, Int.reduceBEq, Int.reduceBNe, Int.reduceMul, Nat.reduceBEq, Nat.reduceBNe, Nat.reduceLT, Nat.reduceLeDiff, Nat.reduceMul, Nat.reduceEqDiff, WD, effB, effH, isPriv, isHeap, isImm, zbx, zby, zbz, chkO, setD, dslot, zca, zcb, zcc, zcd, ptrCells_some, F26, hp, ha.shut, ha1, hat.cells, ptrV, hx', g1, g2]
        simp [g1, g2]
      | false =>
        simp only [WW, partV, eqCells, eqLf, minV, maxV, ifcV, zaa, zab, zac, zad, zae, zaf, zag, zah, zai, ofConst, ofConst1, List.replicate, zaj, zak, loadOp, Go.Abs.loadCells, binV, zal, pickV, zam, zan, zao, zap, zaq, zar, zas, zat, zau, outR, resAll, resOne, zav, zaw, zax, zay, zaz, zba, zbb, zbc, zbd, zbe, zbf, zbg, zbh, zbi, zbj, zbk, storeOp, storeCell, overlay, zbl, zbm, zbn, lookupOp, keyT, okRes, mapUpdateOp, zbo, zbp, zbq, zbr, zbs, zbt, zbu, Nat.reduceSub, Nat.reduceAdd, Int.reduceLT, Int.reduceLE, Int.reduceAdd, Int.reduceSub, Int.reduceToNat, Int.reduceBEq, Int.reduceBNe, Int.reduceMul, Nat.reduceBEq, Nat.reduceBNe, Nat.reduceLT, Nat.reduceLeDiff, Nat.reduceMul, Nat.reduceEqDiff, WD, effB, effH, isPriv, isHeap, isImm, zbx, zby, zbz, chkO, setD, dslot, zca, zcb, zcc, zcd, ptrCells_some, F26]
        rw [wpCall_eq hw]
        simp only [WW, partV, eqCells, eqLf, minV, maxV, ifcV, zaa, zab, zac, zad, zae, zaf, zag, zah, zai, ofConst, ofConst1, List.replicate, zaj, zak, loadOp, Go.Abs.loadCells, binV, zal, pickV, zam, zan, zao, zap, zaq, zar, zas, zat, zau, outR, resAll, resOne, zav, zaw, zax, zay, zaz, zba, zbb, zbc, zbd, zbe, zbf, zbg, zbh, zbi, zbj, zbk, storeOp, storeCell, overlay, zbl, zbm, zbn, lookupOp, keyT, okRes, mapUpdateOp, zbo, zbp, zbq, zbr, zbs, zbt, zbu, Nat.reduceSub, Nat.reduceAdd, Int.reduceLT, Int.reduceLE, Int.reduceAdd, Int.reduceSub, Int.reduceToNat, Int.reduceBEq, Int.reduceBNe, Int.reduceMul, Nat.reduceBEq, Nat.reduceBNe, Nat.reduceLT, Nat.reduceLeDiff, Nat.reduceMul, Nat.reduceEqDiff, WD, effB, effH, isPriv, isHeap, isImm, zbx, zby, zbz, chkO, setD, dslot, zca, zcb, zcc, zcd, ptrCells_some, F26, hp, ha.shut, ha1, hat.cells, ptrV, hx', g1, g2]
        simp [g1, g2]
end Go.Proofs.Ythicacphcljdmaa

/- Who waits, who was woken: found in a row. -/
namespace Go.Proofs.Ythicacphcljdmaa
open Go Go.Abs Go.Proofs
set_option maxRecDepth 100000
set_option maxHeartbeats 4000000
set_option linter.unusedVariables false
set_option linter.unusedSimpArgs false
def slps (l : List Slp) : List V := l.map slpV
theorem slps_len (l : List Slp) : (slps l).length = l.length := by simp [slps]
def findT (l : List Slp) (t : Int) : Int := match l.findIdx? (fun s => s.t == t) with | some i => (i : Int) | none => -1
theorem is_eq {H : Hp} {b : Nat} {t : Int} (hb : H[b]? = some (.cells [.int .i64 t])) (s : Slp) : EW 46 [slpV s, .ptr b 0 0] H = some (.ret (.bool (s.t == t)) false, H) := by
  refine eqOf2 (runs f46 b46 r46 n46 _ _ ?_)
  simp only [slpV]
  simp only [bodyOf, Try.f46, Option.getD_some]
  simp only [WW, partV, eqCells, eqLf, minV, maxV, ifcV, zaa, zab, zac, zad, zae, zaf, zag, zah, zai, ofConst, ofConst1, List.replicate, zaj, zak, loadOp, Go.Abs.loadCells, binV, zal, pickV, zam, zan, zao, zap, zaq, zar, zas, zat, zau, outR, resAll, resOne, zav, zaw, zax, zay, zaz, zba, zbb, zbc, zbd, zbe, zbf, zbg, zbh, zbi, zbj, zbk, storeOp, storeCell, overlay, zbl, zbm, zbn, lookupOp, keyT, okRes, mapUpdateOp, zbo, zbp, zbq, zbr, zbs, zbt, zbu, Nat.reduceSub, Nat.reduceAdd, Int.reduceLT, Int.reduceLE, Int.reduceAdd, Int.reduceSub, Int.reduceToNat, Int.reduceBEq, Int.reduceBNe, Int.reduceMul, Nat.reduceBEq, Nat.reduceBNe, Nat.reduceLT, Nat.reduceLeDiff, Nat.reduceMul, Nat.reduceEqDiff, WD, effB, effH, isPriv, isHeap, isImm, zbx, zby, zbz, chkO, setD, dslot, zca, zcb, zcc, zcd, ptrCells_some, F46, hb]
theorem index_eq {H : Hp} {x : V} {l : List Slp} {b : Nat} {t : Int} (hx : Rd H x (slps l)) (hb : H[b]? = some (.cells [.int .i64 t])) (hl : l.length < 4294967296) :
    EW 45 [x, .fn 46 [] [.ptr b 0 0]] H = some (.ret (.int .i64 (findT l t)) false, H) := by
  have hc46 : callable Try.prog 46 = true := by kernel_rfl
  refine eqOf2 (runs f45 b45 r45 n45 _ _ ?_)
  simp only [bodyOf, Try.f45, Option.getD_some]
  simp only [WW, partV, eqCells, eqLf, minV, maxV, ifcV, zaa, zab, zac, zad, zae, zaf, zag, zah, zai, ofConst, ofConst1, List.replicate, zaj, zak, loadOp, Go.Abs.loadCells, binV, zal, pickV, zam, zan, zao, zap, zaq, zar, zas, zat, zau, outR, resAll, resOne, zav, zaw, zax, zay, zaz, zba, zbb, zbc, zbd, zbe, zbf, zbg, zbh, zbi, zbj, zbk, storeOp, storeCell, overlay, zbl, zbm, zbn, lookupOp, keyT, okRes, mapUpdateOp, zbo, zbp, zbq, zbr, zbs, zbt, zbu, Nat.reduceSub, Nat.reduceAdd, Int.reduceLT, Int.reduceLE, Int.reduceAdd, Int.reduceSub, Int.reduceToNat, Int.reduceBEq, Int.reduceBNe, Int.reduceMul, Nat.reduceBEq, Nat.reduceBNe, Nat.reduceLT, Nat.reduceLeDiff, Nat.reduceMul, Nat.reduceEqDiff, WD, effB, effH, isPriv, isHeap, isImm, zbx, zby, zbz, chkO, setD, dslot, zca, zcb, zcc, zcd, ptrCells_some, F45, hx.shutIn, hx.len, slps_len]
  refine wC_loop _ (fun n st H' => ∃ i : Nat, st = ⟨L45_2 (.v x) (.v (.fn 46 [] [.ptr b 0 0])) (.v (.int .i64 l.length)) (.v (.int .i64 i)), [], []⟩ ∧ H' = H ∧ i ≤ l.length ∧ n = l.length - i ∧ ∀ (j : Nat) v, j < i → l[j]? = some v → (v.t == t) = false) l.length ⟨0, ?_, rfl, by omega, by omega, fun j v hj => by omega⟩ ?_
  · simp only [WN, firstReg, growAll, zbv, zbw, norm, killS, zag, zah, zaa, zab, zbl, zat, zad, growOne, zae, zaf, zac, zas, zak, Nat.reduceLT, Nat.reduceAdd, zbj, zav, F45, L45_2, hx.clip2]
    try rfl
  · rintro n st H' ⟨i, rfl, rfl, hi, rfl, hno⟩
    simp only [L45_2]
    by_cases hlt : i < l.length
    · have g1 : decide ((i : Int) < (l.length : Int)) = true := decide_eq_true (by omega)
      have hd : l[i]? = some l[i] := List.getElem?_eq_getElem hlt
      generalize l[i] = s at hd
      have hat := hx.at_ (sz := 6) (i := i) (e := slpV s) (by simp [slps, hd]) rfl
      have h1 := is_eq hb s
      simp only [slpV] at h1
      have hi1 : IntKind.i64.wrap ((i : Int) + 1) = ((i + 1 : Nat) : Int) := by rw [IntWalk.i64_in _ (by omega)]; omega
      cases hp : (s.t == t) with
      | true =>
        rw [hp] at h1
        have hf : findT l t = (i : Int) := by
          unfold findT
          have : l.findIdx? (fun s => s.t == t) = some i := by
            rw [List.findIdx?_eq_some_iff_getElem]
            refine ⟨hlt, by rw [List.getElem?_eq_getElem hlt] at hd; cases hd; exact hp, fun j hj => ?_⟩
            rw [hno j _ hj (List.getElem?_eq_getElem (by omega))]; simp
          rw [this]
        rw [hf]
        simp only [WW, partV, eqCells, eqLf, minV, maxV, ifcV, zaa, zab, zac, zad, zae, zaf, zag, zah, zai, ofConst, ofConst1, List.replicate, zaj, zak, loadOp, Go.Abs.loadCells, binV, zal, pickV, zam, zan, zao, zap, zaq, zar, zas, zat, zau, outR, resAll, resOne, zav, zaw, zax, zay, zaz, zba, zbb, zbc, zbd, zbe, zbf, zbg, zbh, zbi, zbj, zbk, storeOp, storeCell, overlay, zbl, zbm, zbn, lookupOp, keyT, okRes, mapUpdateOp, zbo, zbp, zbq, zbr, zbs, zbt, zbu, Nat.reduceSub, Nat.reduceAdd, Int.reduceLT, Int.reduceLE, Int.reduceAdd, Int.reduceSub, Int.reduceToNat, Int.reduceBEq, Int.reduceBNe, Int.reduceMul, Nat.reduceBEq, Nat.reduceBNe, Nat.reduceLT, Nat.reduceLeDiff, Nat.reduceMul, Nat.reduceEqDiff, WD, effB, effH, isPriv, isHeap, isImm, zbx, zby, zbz, chkO, setD, dslot, zca, zcb, zcc, zcd, ptrCells_some, F45, g1, hx.shutIn, hat.at1 hx, hat.cells, slpV, hc46]
        rw [wpCall_eq h1]
        simp only [WW, partV, eqCells, eqLf, minV, maxV, ifcV, zaa, zab, zac, zad, zae, zaf, zag, zah, zai, ofConst, ofConst1, List.replicate, zaj, zak, loadOp, Go.Abs.loadCells, binV, zal, pickV, zam, zan, zao, zap, zaq, zar, zas, zat, zau, outR, resAll, resOne, zav, zaw, zax, zay, zaz, zba, zbb, zbc, zbd, zbe, zbf, zbg, zbh, zbi, zbj, zbk, storeOp, storeCell, overlay, zbl, zbm, zbn, lookupOp, keyT, okRes, mapUpdateOp, zbo, zbp, zbq, zbr, zbs, zbt, zbu, Nat.reduceSub, Nat.reduceAdd, Int.reduceLT, Int.reduceLE, Int.reduceAdd, Int.reduceSub, Int.reduceToNat, Int.reduceBEq, Int.reduceBNe, Int.reduceMul, Nat.reduceBEq, Nat.reduceBNe, Nat.reduceLT, Nat.reduceLeDiff, Nat.reduceMul, Nat.reduceEqDiff, WD, effB, effH, isPriv, isHeap, isImm, zbx, zby, zbz, chkO, setD, dslot, zca, zcb, zcc, zcd, ptrCells_some, F45]
      | false =>
        rw [hp] at h1
        simp only [WW, partV, eqCells, eqLf, minV, maxV, ifcV, zaa, zab, zac, zad, zae, zaf, zag, zah, zai, ofConst, ofConst1, List.replicate, zaj, zak, loadOp, Go.Abs.loadCells, binV, zal, pickV, zam, zan, zao, zap, zaq, zar, zas, zat, zau, outR, resAll, resOne, zav, zaw, zax, zay, zaz, zba, zbb, zbc, zbd, zbe, zbf, zbg, zbh, zbi, zbj, zbk, storeOp, storeCell, overlay, zbl, zbm, zbn, lookupOp, keyT, okRes, mapUpdateOp, zbo, zbp, zbq, zbr, zbs, zbt, zbu, Nat.reduceSub, Nat.reduceAdd, Int.reduceLT, Int.reduceLE, Int.reduceAdd, Int.reduceSub, Int.reduceToNat, Int.reduceBEq, Int.reduceBNe, Int.reduceMul, Nat.reduceBEq, Nat.reduceBNe, Nat.reduceLT, Nat.reduceLeDiff, Nat.reduceMul, Nat.reduceEqDiff, WD, effB, effH, isPriv, isHeap, isImm, zbx, zby, zbz, chkO, setD, dslot, zca, zcb, zcc, zcd, ptrCells_some, F45, g1, hx.shutIn, hat.at1 hx, hat.cells, slpV, hc46]
        rw [wpCall_eq h1]
        simp only [WW, partV, eqCells, eqLf, minV, maxV, ifcV, zaa, zab, zac, zad, zae, zaf, zag, zah, zai, ofConst, ofConst1, List.replicate, zaj, zak, loadOp, Go.Abs.loadCells, binV, zal, pickV, zam, zan, zao, zap, zaq, zar, zas, zat, zau, outR, resAll, resOne, zav, zaw, zax, zay, zaz, zba, zbb, zbc, zbd, zbe, zbf, zbg, zbh, zbi, zbj, zbk, storeOp, storeCell, overlay, zbl, zbm, zbn, lookupOp, keyT, okRes, mapUpdateOp, zbo, zbp, zbq, zbr, zbs, zbt, zbu, Nat.reduceSub, Nat.reduceAdd, Int.reduceLT, Int.reduceLE, Int.reduceAdd, Int.reduceSub, Int.reduceToNat, Int.reduceBEq, Int.reduceBNe, Int.reduceMul, Nat.reduceBEq, Nat.reduceBNe, Nat.reduceLT, Nat.reduceLeDiff, Nat.reduceMul, Nat.reduceEqDiff, WD, effB, effH, isPriv, isHeap, isImm, zbx, zby, zbz, chkO, setD, dslot, zca, zcb, zcc, zcd, ptrCells_some, F45, hi1]
        have hno2 : ∀ (j : Nat) v, j < i + 1 → l[j]? = some v → (v.t == t) = false := fun j v hj hv => by
          by_cases e : j = i
          · subst e; rw [hd] at hv; cases hv; exact hp
          · exact hno j v (by omega) hv
        first | refine ⟨l.length - (i + 1), by omega, i + 1, ?_, by omega, rfl, hno2⟩ | refine ⟨l.length - (i + 1), by omega, i + 1, ?_, rfl, by omega, rfl, hno2⟩
        simp only [WN, firstReg, growAll, zbv, zbw, norm, killS, zag, zah, zaa, zab, zbl, zat, zad, growOne, zae, zaf, zac, zas, zak, Nat.reduceLT, Nat.reduceAdd, zbj, zav, F45, L45_2, hx.clip2]
        try rfl
    · have g1 : decide ((i : Int) < (l.length : Int)) = false := decide_eq_false (by omega)
      have hf : findT l t = -1 := by
        unfold findT
        have : l.findIdx? (fun s => s.t == t) = none := by
          rw [List.findIdx?_eq_none_iff]
          intro v hv
          obtain ⟨j, hj, e⟩ := List.getElem_of_mem hv
          exact hno j v (by omega) (by rw [List.getElem?_eq_getElem hj, e])
        rw [this]
      rw [hf]
      simp only [WW, partV, eqCells, eqLf, minV, maxV, ifcV, zaa, zab, zac, zad, zae, zaf, zag, zah, zai, ofConst, ofConst1, List.replicate, zaj, zak, loadOp, Go.Abs.loadCells, binV, zal, pickV, zam, zan, zao, zap, zaq, zar, zas, zat, zau, outR, resAll, resOne, zav, zaw, zax, zay, zaz, zba, zbb, zbc, zbd, zbe, zbf, zbg, zbh, zbi, zbj, zbk, storeOp, storeCell, overlay, zbl, zbm, zbn, lookupOp, keyT, okRes, mapUpdateOp, zbo, zbp, zbq, zbr, zbs, zbt, zbu, Nat.reduceSub, Nat.reduceAdd, Int.reduceLT, Int.reduceLE, Int.reduceAdd, Int.reduceSub, Int.reduceToNat, Int.reduceBEq, Int.reduceBNe, Int.reduceMul, Nat.reduceBEq, Nat.reduceBNe, Nat.reduceLT, Nat.reduceLeDiff, Nat.reduceMul, Nat.reduceEqDiff, WD, effB, effH, isPriv, isHeap, isImm, zbx, zby, zbz, chkO, setD, dslot, zca, zcb, zcc, zcd, ptrCells_some, F45, g1]
theorem get_last (H : Hp) (b : Blk) : (H ++ [b])[H.length]? = some b := by rw [List.getElem?_append_right (Nat.le_refl _), Nat.sub_self]; rfl
theorem of_eq {H : Hp} {x : V} {l : List Slp} (hx : Sx H x (slps l)) (t : Int) (hl : l.length < 4294967296) :
    EW 25 [x, .int .i64 t] H = some (.ret (.int .i64 (findT l t)) false, H ++ [.cells [.int .i64 t]]) := by
  have hi := index_eq (hx.app [.cells [.int .i64 t]]).rd (get_last H (.cells [.int .i64 t])) hl (b := H.length)
  have hxr := hx.rd
  refine eqOf2 (runs f25 b25 r25 n25 _ _ ?_)
  simp only [bodyOf, Try.f25, Option.getD_some]
  simp only [WW, partV, eqCells, eqLf, minV, maxV, ifcV, zaa, zab, zac, zad, zae, zaf, zag, zah, zai, ofConst, ofConst1, List.replicate, zaj, zak, loadOp, Go.Abs.loadCells, binV, zal, pickV, zam, zan, zao, zap, zaq, zar, zas, zat, zau, outR, resAll, resOne, zav, zaw, zax, zay, zaz, zba, zbb, zbc, zbd, zbe, zbf, zbg, zbh, zbi, zbj, zbk, storeOp, storeCell, overlay, zbl, zbm, zbn, lookupOp, keyT, okRes, mapUpdateOp, zbo, zbp, zbq, zbr, zbs, zbt, zbu, Nat.reduceSub, Nat.reduceAdd, Int.reduceLT, Int.reduceLE, Int.reduceAdd, Int.reduceSub, Int.reduceToNat, Int.reduceBEq, Int.reduceBNe, Int.reduceMul, Nat.reduceBEq, Nat.reduceBNe, Nat.reduceLT, Nat.reduceLeDiff, Nat.reduceMul, Nat.reduceEqDiff, WD, effB, effH, isPriv, isHeap, isImm, zbx, zby, zbz, chkO, setD, dslot, zca, zcb, zcc, zcd, ptrCells_some, F25, hxr.shutIn]
  rw [wpCall_eq hi]
  simp only [WW, partV, eqCells, eqLf, minV, maxV, ifcV, zaa, zab, zac, zad, zae, zaf, zag, zah, zai, ofConst, ofConst1, List.replicate, zaj, zak, loadOp, Go.Abs.loadCells, binV, zal, pickV, zam, zan, zao, zap, zaq, zar, zas, zat, zau, outR, resAll, resOne, zav, zaw, zax, zay, zaz, zba, zbb, zbc, zbd, zbe, zbf, zbg, zbh, zbi, zbj, zbk, storeOp, storeCell, overlay, zbl, zbm, zbn, lookupOp, keyT, okRes, mapUpdateOp, zbo, zbp, zbq, zbr, zbs, zbt, zbu, Nat.reduceSub, Nat.reduceAdd, Int.reduceLT, Int.reduceLE, Int.reduceAdd, Int.reduceSub, Int.reduceToNat, Int.reduceBEq, Int.reduceBNe, Int.reduceMul, Nat.reduceBEq, Nat.reduceBNe, Nat.reduceLT, Nat.reduceLeDiff, Nat.reduceMul, Nat.reduceEqDiff, WD, effB, effH, isPriv, isHeap, isImm, zbx, zby, zbz, chkO, setD, dslot, zca, zcb, zcc, zcd, ptrCells_some, F25]
end Go.Proofs.Ythicacphcljdmaa

/- Monitors locked. -/
namespace Go.Proofs.Ythicacphcljdmaa
open Go Go.Abs Go.Proofs
set_option maxRecDepth 100000
set_option maxHeartbeats 8000000
set_option linter.unusedVariables false
set_option linter.unusedSimpArgs false
theorem LK.app {H : Hp} {p : Nat} {ms : List Mon} {ws wk : List Slp} {came : Int} {all wa wo : V} (L : LK H p ms ws wk came all wa wo) (e : Hp) : LK (H ++ e) p ms ws wk came all wa wo :=
  ⟨by rw [List.getElem?_append_left (List.getElem?_eq_some_iff.1 L.blk).1]; exact L.blk, L.al.app e, fun m hm => by rw [List.getElem?_append_left (List.getElem?_eq_some_iff.1 (L.mon m hm)).1]; exact L.mon m hm, L.ws.app e, L.wk.app e, L.np, L.nd⟩
theorem ids_set {ms : List Mon} {k : Nat} {x y : Mon} (h : ms[k]? = some x) (e : y.id = x.id) : ids (ms.set k y) = ids ms := by
  unfold ids
  rw [List.map_set]
  refine List.ext_getElem? fun i => ?_
  rw [List.getElem?_set]
  split
  · rename_i hi
    subst hi
    have hlt := (List.getElem?_eq_some_iff.1 h).1
    rw [if_pos (by simpa using hlt), List.getElem?_map, h, e]; rfl
  · rfl
theorem mem_ids {ms : List Mon} {x : Mon} (h : x ∈ ms) : x.id ∈ ids ms := List.mem_map.2 ⟨x, h, rfl⟩
theorem nodup_id {ms : List Mon} (h : (ids ms).Nodup) {i j : Nat} {x y : Mon} (hi : ms[i]? = some x) (hj : ms[j]? = some y) (e : x.id = y.id) : i = j := by
  have h1 : (ids ms)[i]? = some x.id := by simp [ids, hi]
  have h2 : (ids ms)[j]? = some x.id := by simp [ids, hj, e]
  have hi' := (List.getElem?_eq_some_iff.1 h1).1
  have hj' := (List.getElem?_eq_some_iff.1 h2).1
  have f := List.pairwise_iff_getElem.1 h
  have g1 : (ids ms)[i] = x.id := by have := List.getElem?_eq_getElem hi'; rw [h1] at this; exact (Option.some.inj this).symm
  have g2 : (ids ms)[j] = x.id := by have := List.getElem?_eq_getElem hj'; rw [h2] at this; exact (Option.some.inj this).symm
  rcases Nat.lt_trichotomy i j with q | q | q
  · exact absurd (g1.trans g2.symm) (f i j hi' hj' q)
  · exact q
  · exact absurd (g2.trans g1.symm) (f j i hj' hi' q)
theorem LK.put {H : Hp} {p : Nat} {ms : List Mon} {ws wk : List Slp} {came : Int} {all wa wo : V} (L : LK H p ms ws wk came all wa wo) {k : Nat} {x y : Mon} (h : ms[k]? = some x) (e : y.id = x.id) : LK (H.set x.id (monB y)) p (ms.set k y) ws wk came all wa wo := by
  have hx := List.mem_of_getElem? h
  have hi := ids_set h e
  have hne : x.id ≠ p := fun q => L.np (q ▸ mem_ids hx)
  have hxl := (List.getElem?_eq_some_iff.1 (L.mon x hx)).1
  have hmp : (ms.set k y).map ptrV = ms.map ptrV := by
    rw [List.map_set]
    refine List.ext_getElem? fun i => ?_
    rw [List.getElem?_set]
    split
    · rename_i hi2
      subst hi2
      have hlt := (List.getElem?_eq_some_iff.1 h).1
      rw [if_pos (by simpa using hlt), List.getElem?_map, h]
      simp [ptrV, e]
    · rfl
  refine ⟨by rw [List.getElem?_set_ne hne]; exact L.blk, ?_, fun m hm => ?_, ?_, ?_, by rw [hi]; exact L.np, by rw [hi]; exact L.nd⟩
  · rw [hi, hmp]; exact L.al.set (.inr (.inl (mem_ids hx))) _
  · obtain ⟨j, hj⟩ := List.getElem?_of_mem hm
    rw [List.getElem?_set] at hj
    split at hj
    · rename_i hkj
      subst hkj
      rw [if_pos (List.getElem?_eq_some_iff.1 h).1] at hj
      cases hj
      rw [e, List.getElem?_set_self hxl]
    · rename_i hkj
      have : x.id ≠ m.id := fun q => hkj (nodup_id L.nd h hj q)
      rw [List.getElem?_set_ne this]
      exact L.mon m (List.mem_of_getElem? hj)
  · rw [hi]; exact L.ws.set (.inr (.inl (mem_ids hx))) _
  · rw [hi]; exact L.wk.set (.inr (.inl (mem_ids hx))) _
theorem findT_cases (l : List Slp) (t : Int) : findT l t = -1 ∨ 0 ≤ findT l t := by
  unfold findT
  split
  · right; omega
  · left; rfl
def lockM (ms : List Mon) (ws wk : List Slp) (m t : Int) : Int × List Mon :=
  if wrongB ms m t then (1, ms) else
  if !freeB ms m t || decide (0 ≤ findT ws t) || decide (0 ≤ findT wk t) then (7, ms) else
  match ms[m.toNat]? with
  | some x => if x.n == 1099511627776 then (3, ms) else (0, ms.set m.toNat ⟨x.id, t, IntKind.i64.wrap (x.n + 1)⟩)
  | none => (1, ms)
theorem lock_spec {H : Hp} {p : Nat} {ms : List Mon} {ws wk : List Slp} {came : Int} {all wa wo : V} (L : LK H p ms ws wk came all wa wo) (m t : Int) (h1 : ws.length < 4294967296) (h2 : wk.length < 4294967296) :
    wpCall EW 11 [.ptr p 0 0, .int .i64 m, .int .i64 t] H (fun out H' => out = .ret (.int .i64 (lockM ms ws wk m t).1) false ∧ LK H' p (lockM ms ws wk m t).2 ws wk came all wa wo) := by
  have hw := wrong_eq L.blk L.al m t
  have hb := L.blk
  have hfr := free_eq L.blk L.al L.mon m t
  have hsw : Sx H wa (slps ws) := L.ws.sx
  have c1 := of_eq hsw t h1
  have L1 := L.app [.cells [.int .i64 t]]
  have c2 := of_eq (L1.wk.sx : Sx _ wo (slps wk)) t h2
  have L2 := L1.app [.cells [.int .i64 t]]
  have hb1 := L1.blk
  have hb2 := L2.blk
  unfold lockM
  cases g0 : wrongB ms m t with
  | true =>
    rw [g0] at hw
    refine runs f11 b11 r11 n11 _ _ ?_
    simp only [bodyOf, Try.f11, Option.getD_some]
    simp only [WW, partV, eqCells, eqLf, minV, maxV, ifcV, zaa, zab, zac, zad, zae, zaf, zag, zah, zai, ofConst, ofConst1, List.replicate, zaj, zak, loadOp, Go.Abs.loadCells, binV, zal, pickV, zam, zan, zao, zap, zaq, zar, zas, zat, zau, outR, resAll, resOne, zav, zaw, zax, zay, zaz, zba, zbb, zbc, zbd, zbe, zbf, zbg, zbh, zbi, zbj, zbk, storeOp, storeCell, overlay, zbl, zbm, zbn, lookupOp, keyT, okRes, mapUpdateOp, zbo, zbp, zbq, zbr, zbs, zbt, zbu, Nat.reduceSub, Nat.reduceAdd, Int.reduceLT, Int.reduceLE, Int.reduceAdd, Int.reduceSub, Int.reduceToNat, Int.reduceBEq, Int.reduceBNe, Int.reduceMul, Nat.reduceBEq, Nat.reduceBNe, Nat.reduceLT, Nat.reduceLeDiff, Nat.reduceMul, Nat.reduceEqDiff, WD, effB, effH, isPriv, isHeap, isImm, zbx, zby, zbz, chkO, setD, dslot, zca, zcb, zcc, zcd, ptrCells_some, F11]
    rw [wpCall_eq hw]
    simp only [WW, partV, eqCells, eqLf, minV, maxV, ifcV, zaa, zab, zac, zad, zae, zaf, zag, zah, zai, ofConst, ofConst1, List.replicate, zaj, zak, loadOp, Go.Abs.loadCells, binV, zal, pickV, zam, zan, zao, zap, zaq, zar, zas, zat, zau, outR, resAll, resOne, zav, zaw, zax, zay, zaz, zba, zbb, zbc, zbd, zbe, zbf, zbg, zbh, zbi, zbj, zbk, storeOp, storeCell, overlay, zbl, zbm, zbn, lookupOp, keyT, okRes, mapUpdateOp, zbo, zbp, zbq, zbr, zbs, zbt, zbu, Nat.reduceSub, Nat.reduceAdd, Int.reduceLT, Int.reduceLE, Int.reduceAdd, Int.reduceSub, Int.reduceToNat, Int.reduceBEq, Int.reduceBNe, Int.reduceMul, Nat.reduceBEq, Nat.reduceBNe, Nat.reduceLT, Nat.reduceLeDiff, Nat.reduceMul, Nat.reduceEqDiff, WD, effB, effH, isPriv, isHeap, isImm, zbx, zby, zbz, chkO, setD, dslot, zca, zcb, zcc, zcd, ptrCells_some, F11]
    exact L
  | false =>
    rw [g0] at hw
    simp only [Bool.false_eq_true, if_false]
    cases g1 : freeB ms m t with
    | false =>
      rw [g1] at hfr
      refine runs f11 b11 r11 n11 _ _ ?_
      simp only [bodyOf, Try.f11, Option.getD_some]
      simp only [WW, partV, eqCells, eqLf, minV, maxV, ifcV, zaa, zab, zac, zad, zae, zaf, zag, zah, zai, ofConst, ofConst1, List.replicate, zaj, zak, loadOp, Go.Abs.loadCells, binV, zal, pickV, zam, zan, zao, zap, zaq, zar, zas, zat, zau, outR, resAll, resOne, zav, zaw, zax, zay, zaz, zba, zbb, zbc, zbd, zbe, zbf, zbg, zbh, zbi, zbj, zbk, storeOp, storeCell, overlay, zbl, zbm, zbn, lookupOp, keyT, okRes, mapUpdateOp, zbo, zbp, zbq, zbr, zbs, zbt, zbu, Nat.reduceSub, Nat.reduceAdd, Int.reduceLT, Int.reduceLE, Int.reduceAdd, Int.reduceSub, Int.reduceToNat, Int.reduceBEq, Int.reduceBNe, Int.reduceMul, Nat.reduceBEq, Nat.reduceBNe, Nat.reduceLT, Nat.reduceLeDiff, Nat.reduceMul, Nat.reduceEqDiff, WD, effB, effH, isPriv, isHeap, isImm, zbx, zby, zbz, chkO, setD, dslot, zca, zcb, zcc, zcd, ptrCells_some, F11]
      rw [wpCall_eq hw]
      simp only [WW, partV, eqCells, eqLf, minV, maxV, ifcV, zaa, zab, zac, zad, zae, zaf, zag, zah, zai, ofConst, ofConst1, List.replicate, zaj, zak, loadOp, Go.Abs.loadCells, binV, zal, pickV, zam, zan, zao, zap, zaq, zar, zas, zat, zau, outR, resAll, resOne, zav, zaw, zax, zay, zaz, zba, zbb, zbc, zbd, zbe, zbf, zbg, zbh, zbi, zbj, zbk, storeOp, storeCell, overlay, zbl, zbm, zbn, lookupOp, keyT, okRes, mapUpdateOp, zbo, zbp, zbq, zbr, zbs, zbt, zbu, Nat.reduceSub, Nat.reduceAdd, Int.reduceLT, Int.reduceLE, Int.reduceAdd, Int.reduceSub, Int.reduceToNat, Int.reduceBEq, Int.reduceBNe, Int.reduceMul, Nat.reduceBEq, Nat.reduceBNe, Nat.reduceLT, Nat.reduceLeDiff, Nat.reduceMul, Nat.reduceEqDiff, WD, effB, effH, isPriv, isHeap, isImm, zbx, zby, zbz, chkO, setD, dslot, zca, zcb, zcc, zcd, ptrCells_some, F11]
      rw [wpCall_eq hfr]
      simp only [WW, partV, eqCells, eqLf, minV, maxV, ifcV, zaa, zab, zac, zad, zae, zaf, zag, zah, zai, ofConst, ofConst1, List.replicate, zaj, zak, loadOp, Go.Abs.loadCells, binV, zal, pickV, zam, zan, zao, zap, zaq, zar, zas, zat, zau, outR, resAll, resOne, zav, zaw, zax, zay, zaz, zba, zbb, zbc, zbd, zbe, zbf, zbg, zbh, zbi, zbj, zbk, storeOp, storeCell, overlay, zbl, zbm, zbn, lookupOp, keyT, okRes, mapUpdateOp, zbo, zbp, zbq, zbr, zbs, zbt, zbu, Nat.reduceSub, Nat.reduceAdd, Int.reduceLT, Int.reduceLE, Int.reduceAdd, Int.reduceSub, Int.reduceToNat, Int.reduceBEq, Int.reduceBNe, Int.reduceMul, Nat.reduceBEq, Nat.reduceBNe, Nat.reduceLT, Nat.reduceLeDiff, Nat.reduceMul, Nat.reduceEqDiff, WD, effB, effH, isPriv, isHeap, isImm, zbx, zby, zbz, chkO, setD, dslot, zca, zcb, zcc, zcd, ptrCells_some, F11]
      simp only [Bool.not_false, Bool.true_or, if_true, true_and]
      exact L
    | true =>
      rw [g1] at hfr
      cases g2 : decide (0 ≤ findT ws t) with
      | true =>
        refine runs f11 b11 r11 n11 _ _ ?_
        simp only [bodyOf, Try.f11, Option.getD_some]
        simp only [WW, partV, eqCells, eqLf, minV, maxV, ifcV, zaa, zab, zac, zad, zae, zaf, zag, zah, zai, ofConst, ofConst1, List.replicate, zaj, zak, loadOp, Go.Abs.loadCells, binV, zal, pickV, zam, zan, zao, zap, zaq, zar, zas, zat, zau, outR, resAll, resOne, zav, zaw, zax, zay, zaz, zba, zbb, zbc, zbd, zbe, zbf, zbg, zbh, zbi, zbj, zbk, storeOp, storeCell, overlay, zbl, zbm, zbn, lookupOp, keyT, okRes, mapUpdateOp, zbo, zbp, zbq, zbr, zbs, zbt, zbu, Nat.reduceSub, Nat.reduceAdd, Int.reduceLT, Int.reduceLE, Int.reduceAdd, Int.reduceSub, Int.reduceToNat, Int.reduceBEq, Int.reduceBNe, Int.reduceMul, Nat.reduceBEq, Nat.reduceBNe, Nat.reduceLT, Nat.reduceLeDiff, Nat.reduceMul, Nat.reduceEqDiff, WD, effB, effH, isPriv, isHeap, isImm, zbx, zby, zbz, chkO, setD, dslot, zca, zcb, zcc, zcd, ptrCells_some, F11]
        rw [wpCall_eq hw]
        simp only [WW, partV, eqCells, eqLf, minV, maxV, ifcV, zaa, zab, zac, zad, zae, zaf, zag, zah, zai, ofConst, ofConst1, List.replicate, zaj, zak, loadOp, Go.Abs.loadCells, binV, zal, pickV, zam, zan, zao, zap, zaq, zar, zas, zat, zau, outR, resAll, resOne, zav, zaw, zax, zay, zaz, zba, zbb, zbc, zbd, zbe, zbf, zbg, zbh, zbi, zbj, zbk, storeOp, storeCell, overlay, zbl, zbm, zbn, lookupOp, keyT, okRes, mapUpdateOp, zbo, zbp, zbq, zbr, zbs, zbt, zbu, Nat.reduceSub, Nat.reduceAdd, Int.reduceLT, Int.reduceLE, Int.reduceAdd, Int.reduceSub, Int.reduceToNat, Int.reduceBEq, Int.reduceBNe, Int.reduceMul, Nat.reduceBEq, Nat.reduceBNe, Nat.reduceLT, Nat.reduceLeDiff, Nat.reduceMul, Nat.reduceEqDiff, WD, effB, effH, isPriv, isHeap, isImm, zbx, zby, zbz, chkO, setD, dslot, zca, zcb, zcc, zcd, ptrCells_some, F11]
        rw [wpCall_eq hfr]
        simp only [WW, partV, eqCells, eqLf, minV, maxV, ifcV, zaa, zab, zac, zad, zae, zaf, zag, zah, zai, ofConst, ofConst1, List.replicate, zaj, zak, loadOp, Go.Abs.loadCells, binV, zal, pickV, zam, zan, zao, zap, zaq, zar, zas, zat, zau, outR, resAll, resOne, zav, zaw, zax, zay, zaz, zba, zbb, zbc, zbd, zbe, zbf, zbg, zbh, zbi, zbj, zbk, storeOp, storeCell, overlay, zbl, zbm, zbn, lookupOp, keyT, okRes, mapUpdateOp, zbo, zbp, zbq, zbr, zbs, zbt, zbu, Nat.reduceSub, Nat.reduceAdd, Int.reduceLT, Int.reduceLE, Int.reduceAdd, Int.reduceSub, Int.reduceToNat, Int.reduceBEq, Int.reduceBNe, Int.reduceMul, Nat.reduceBEq, Nat.reduceBNe, Nat.reduceLT, Nat.reduceLeDiff, Nat.reduceMul, Nat.reduceEqDiff, WD, effB, effH, isPriv, isHeap, isImm, zbx, zby, zbz, chkO, setD, dslot, zca, zcb, zcc, zcd, ptrCells_some, F11, hb, L.ws.shut]
        rw [wpCall_eq c1]
        simp only [WW, partV, eqCells, eqLf, minV, maxV, ifcV, zaa, zab, zac, zad, zae, zaf, zag, zah, zai, ofConst, ofConst1, List.replicate, zaj, zak, loadOp, Go.Abs.loadCells, binV, zal, pickV, zam, zan, zao, zap, zaq, zar, zas, zat, zau, outR, resAll, resOne, zav, zaw, zax, zay, zaz, zba, zbb, zbc, zbd, zbe, zbf, zbg, zbh, zbi, zbj, zbk, storeOp, storeCell, overlay, zbl, zbm, zbn, lookupOp, keyT, okRes, mapUpdateOp, zbo, zbp, zbq, zbr, zbs, zbt, zbu, Nat.reduceSub, Nat.reduceAdd, Int.reduceLT, Int.reduceLE, Int.reduceAdd, Int.reduceSub, Int.reduceToNat, Int.reduceBEq, Int.reduceBNe, Int.reduceMul, Nat.reduceBEq, Nat.reduceBNe, Nat.reduceLT, Nat.reduceLeDiff, Nat.reduceMul, Nat.reduceEqDiff, WD, effB, effH, isPriv, isHeap, isImm, zbx, zby, zbz, chkO, setD, dslot, zca, zcb, zcc, zcd, ptrCells_some, F11, g2]
        simp only [Bool.not_true, Bool.false_or, Bool.true_or, if_true, true_and]
        exact L1
      | false =>
        cases g3 : decide (0 ≤ findT wk t) with
        | true =>
          refine runs f11 b11 r11 n11 _ _ ?_
          simp only [bodyOf, Try.f11, Option.getD_some]
          simp only [WW, partV, eqCells, eqLf, minV, maxV, ifcV, zaa, zab, zac, zad, zae, zaf, zag, zah, zai, ofConst, ofConst1, List.replicate, zaj, zak, loadOp, Go.Abs.loadCells, binV, zal, pickV, zam, zan, zao, zap, zaq, zar, zas, zat, zau, outR, resAll, resOne, zav, zaw, zax, zay, zaz, zba, zbb, zbc, zbd, zbe, zbf, zbg, zbh, zbi, zbj, zbk, storeOp, storeCell, overlay, zbl, zbm, zbn, lookupOp, keyT, okRes, mapUpdateOp, zbo, zbp, zbq, zbr, zbs, zbt, zbu, Nat.reduceSub, Nat.reduceAdd, Int.reduceLT, Int.reduceLE, Int.reduceAdd, Int.reduceSub, Int.reduceToNat, Int.reduceBEq, Int.reduceBNe, Int.reduceMul, Nat.reduceBEq, Nat.reduceBNe, Nat.reduceLT, Nat.reduceLeDiff, Nat.reduceMul, Nat.reduceEqDiff, WD, effB, effH, isPriv, isHeap, isImm, zbx, zby, zbz, chkO, setD, dslot, zca, zcb, zcc, zcd, ptrCells_some, F11]
          rw [wpCall_eq hw]
          simp only [WW, partV, eqCells, eqLf, minV, maxV, ifcV, zaa, zab, zac, zad, zae, zaf, zag, zah, zai, ofConst, ofConst1, List.replicate, zaj, zak, loadOp, Go.Abs.loadCells, binV, zal, pickV, zam, zan, zao, zap, zaq, zar, zas, zat, zau, outR, resAll, resOne, zav, zaw, zax, zay, zaz, zba, zbb, zbc, zbd, zbe, zbf, zbg, zbh, zbi, zbj, zbk, storeOp, storeCell, overlay, zbl, zbm, zbn, lookupOp, keyT, okRes, mapUpdateOp, zbo, zbp, zbq, zbr, zbs, zbt, zbu, Nat.reduceSub, Nat.reduceAdd, Int.reduceLT, Int.reduceLE, Int.reduceAdd, Int.reduceSub, Int.reduceToNat, Int.reduceBEq, Int.reduceBNe, Int.reduceMul, Nat.reduceBEq, Nat.reduceBNe, Nat.reduceLT, Nat.reduceLeDiff, Nat.reduceMul, Nat.reduceEqDiff, WD, effB, effH, isPriv, isHeap, isImm, zbx, zby, zbz, chkO, setD, dslot, zca, zcb, zcc, zcd, ptrCells_some, F11]
          rw [wpCall_eq hfr]
          simp only [WW, partV, eqCells, eqLf, minV, maxV, ifcV, zaa, zab, zac, zad, zae, zaf, zag, zah, zai, ofConst, ofConst1, List.replicate, zaj, zak, loadOp, Go.Abs.loadCells, binV, zal, pickV, zam, zan, zao, zap, zaq, zar, zas, zat, zau, outR, resAll, resOne, zav, zaw, zax, zay, zaz, zba, zbb, zbc, zbd, zbe, zbf, zbg, zbh, zbi, zbj, zbk, storeOp, storeCell, overlay, zbl, zbm, zbn, lookupOp, keyT, okRes, mapUpdateOp, zbo, zbp, zbq, zbr, zbs, zbt, zbu, Nat.reduceSub, Nat.reduceAdd, Int.reduceLT, Int.reduceLE, Int.reduceAdd, Int.reduceSub, Int.reduceToNat, Int.reduceBEq, Int.reduceBNe, Int.reduceMul, Nat.reduceBEq, Nat.reduceBNe, Nat.reduceLT, Nat.reduceLeDiff, Nat.reduceMul, Nat.reduceEqDiff, WD, effB, effH, isPriv, isHeap, isImm, zbx, zby, zbz, chkO, setD, dslot, zca, zcb, zcc, zcd, ptrCells_some, F11, hb, L.ws.shut]
          rw [wpCall_eq c1]
          simp only [WW, partV, eqCells, eqLf, minV, maxV, ifcV, zaa, zab, zac, zad, zae, zaf, zag, zah, zai, ofConst, ofConst1, List.replicate, zaj, zak, loadOp, Go.Abs.loadCells, binV, zal, pickV, zam, zan, zao, zap, zaq, zar, zas, zat, zau, outR, resAll, resOne, zav, zaw, zax, zay, zaz, zba, zbb, zbc, zbd, zbe, zbf, zbg, zbh, zbi, zbj, zbk, storeOp, storeCell, overlay, zbl, zbm, zbn, lookupOp, keyT, okRes, mapUpdateOp, zbo, zbp, zbq, zbr, zbs, zbt, zbu, Nat.reduceSub, Nat.reduceAdd, Int.reduceLT, Int.reduceLE, Int.reduceAdd, Int.reduceSub, Int.reduceToNat, Int.reduceBEq, Int.reduceBNe, Int.reduceMul, Nat.reduceBEq, Nat.reduceBNe, Nat.reduceLT, Nat.reduceLeDiff, Nat.reduceMul, Nat.reduceEqDiff, WD, effB, effH, isPriv, isHeap, isImm, zbx, zby, zbz, chkO, setD, dslot, zca, zcb, zcc, zcd, ptrCells_some, F11, g2, hb1, L.wk.shut]
          rw [wpCall_eq c2]
          simp only [WW, partV, eqCells, eqLf, minV, maxV, ifcV, zaa, zab, zac, zad, zae, zaf, zag, zah, zai, ofConst, ofConst1, List.replicate, zaj, zak, loadOp, Go.Abs.loadCells, binV, zal, pickV, zam, zan, zao, zap, zaq, zar, zas, zat, zau, outR, resAll, resOne, zav, zaw, zax, zay, zaz, zba, zbb, zbc, zbd, zbe, zbf, zbg, zbh, zbi, zbj, zbk, storeOp, storeCell, overlay, zbl, zbm, zbn, lookupOp, keyT, okRes, mapUpdateOp, zbo, zbp, zbq, zbr, zbs, zbt, zbu, Nat.reduceSub, Nat.reduceAdd, Int.reduceLT, Int.reduceLE, Int.reduceAdd, Int.reduceSub, Int.reduceToNat, Int.reduceBEq, Int.reduceBNe, Int.reduceMul, Nat.reduceBEq, Nat.reduceBNe, Nat.reduceLT, Nat.reduceLeDiff, Nat.reduceMul, Nat.reduceEqDiff, WD, effB, effH, isPriv, isHeap, isImm, zbx, zby, zbz, chkO, setD, dslot, zca, zcb, zcc, zcd, ptrCells_some, F11, g3]
          simp only [Bool.not_true, Bool.false_or, if_true, true_and]
          exact L2
        | false =>
          obtain ⟨k, rfl, x, hk, ht1, ht2⟩ := wrong_in g0
          have hk' : ms[((k : Nat) : Int).toNat]? = some x := hk
          have hx' : (H ++ [Blk.cells [.int .i64 t]] ++ [Blk.cells [.int .i64 t]])[x.id]? = some (.cells [.agg [.int .i64 x.t, .int .i64 x.n]]) := L2.mon x (List.mem_of_getElem? hk)
          have hat := L2.al.rd.at_ (sz := 1) (i := k) (e := ptrV x) (by rw [List.getElem?_map, hk]; rfl) rfl
          have ha1 := hat.at1 L2.al.rd
          rw [hk']
          cases g4 : (x.n == 1099511627776) with
          | true =>
            refine runs f11 b11 r11 n11 _ _ ?_
            simp only [bodyOf, Try.f11, Option.getD_some]
            simp only [WW, partV, eqCells, eqLf, minV, maxV, ifcV, zaa, zab, zac, zad, zae, zaf, zag, zah, zai, ofConst, ofConst1, List.replicate, zaj, zak, loadOp, Go.Abs.loadCells, binV, zal, pickV, zam, zan, zao, zap, zaq, zar, zas, zat, zau, outR, resAll, resOne, zav, zaw, zax, zay, zaz, zba, zbb, zbc, zbd, zbe, zbf, zbg, zbh, zbi, zbj, zbk, storeOp, storeCell, overlay, zbl, zbm, zbn, lookupOp, keyT, okRes, mapUpdateOp, zbo, zbp, zbq, zbr, zbs, zbt, zbu, Nat.reduceSub, Nat.reduceAdd, Int.reduceLT, Int.reduceLE, Int.reduceAdd, Int.reduceSub, Int.reduceToNat, Int.reduceBEq, Int.reduceBNe, Int.reduceMul, Nat.reduceBEq, Nat.reduceBNe, Nat.reduceLT, Nat.reduceLeDiff, Nat.reduceMul, Nat.reduceEqDiff, WD, effB, effH, isPriv, isHeap, isImm, zbx, zby, zbz, chkO, setD, dslot, zca, zcb, zcc, zcd, ptrCells_some, F11]
            rw [wpCall_eq hw]
            simp only [WW, partV, eqCells, eqLf, minV, maxV, ifcV, zaa, zab, zac, zad, zae, zaf, zag, zah, zai, ofConst, ofConst1, List.replicate, zaj, zak, loadOp, Go.Abs.loadCells, binV, zal, pickV, zam, zan, zao, zap, zaq, zar, zas, zat, zau, outR, resAll, resOne, zav, zaw, zax, zay, zaz, zba, zbb, zbc, zbd, zbe, zbf, zbg, zbh, zbi, zbj, zbk, storeOp, storeCell, overlay, zbl, zbm, zbn, lookupOp, keyT, okRes, mapUpdateOp, zbo, zbp, zbq, zbr, zbs, zbt, zbu, Nat.reduceSub, Nat.reduceAdd, Int.reduceLT, Int.reduceLE, Int.reduceAdd, Int.reduceSub, Int.reduceToNat, Int.reduceBEq, Int.reduceBNe, Int.reduceMul, Nat.reduceBEq, Nat.reduceBNe, Nat.reduceLT, Nat.reduceLeDiff, Nat.reduceMul, Nat.reduceEqDiff, WD, effB, effH, isPriv, isHeap, isImm, zbx, zby, zbz, chkO, setD, dslot, zca, zcb, zcc, zcd, ptrCells_some, F11]
            rw [wpCall_eq hfr]
            simp only [WW, partV, eqCells, eqLf, minV, maxV, ifcV, zaa, zab, zac, zad, zae, zaf, zag, zah, zai, ofConst, ofConst1, List.replicate, zaj, zak, loadOp, Go.Abs.loadCells, binV, zal, pickV, zam, zan, zao, zap, zaq, zar, zas, zat, zau, outR, resAll, resOne, zav, zaw, zax, zay, zaz, zba, zbb, zbc, zbd, zbe, zbf, zbg, zbh, zbi, zbj, zbk, storeOp, storeCell, overlay, zbl, zbm, zbn, lookupOp, keyT, okRes, mapUpdateOp, zbo, zbp, zbq, zbr, zbs, zbt, zbu, Nat.reduceSub, Nat.reduceAdd, Int.reduceLT, Int.reduceLE, Int.reduceAdd, Int.reduceSub, Int.reduceToNat, Int.reduceBEq, Int.reduceBNe, Int.reduceMul, Nat.reduceBEq, Nat.reduceBNe, Nat.reduceLT, Nat.reduceLeDiff, Nat.reduceMul, Nat.reduceEqDiff, WD, effB, effH, isPriv, isHeap, isImm, zbx, zby, zbz, chkO, setD, dslot, zca, zcb, zcc, zcd, ptrCells_some, F11, hb, L.ws.shut]
            rw [wpCall_eq c1]
            simp only [WW, partV, eqCells, eqLf, minV, maxV, ifcV, zaa, zab, zac, zad, zae, zaf, zag, zah, zai, ofConst, ofConst1, List.replicate, zaj, zak, loadOp, Go.Abs.loadCells, binV, zal, pickV, zam, zan, zao, zap, zaq, zar, zas, zat, zau, outR, resAll, resOne, zav, zaw, zax, zay, zaz, zba, zbb, zbc, zbd, zbe, zbf, zbg, zbh, zbi, zbj, zbk, storeOp, storeCell, overlay, zbl, zbm, zbn, lookupOp, keyT, okRes, mapUpdateOp, zbo, zbp, zbq, zbr, zbs, zbt, zbu, Nat.reduceSub, Nat.reduceAdd, Int.reduceLT, Int.reduceLE, Int.reduceAdd, Int.reduceSub, Int.reduceToNat, Int.reduceBEq, Int.reduceBNe, Int.reduceMul, Nat.reduceBEq, Nat.reduceBNe, Nat.reduceLT, Nat.reduceLeDiff, Nat.reduceMul, Nat.reduceEqDiff, WD, effB, effH, isPriv, isHeap, isImm, zbx, zby, zbz, chkO, setD, dslot, zca, zcb, zcc, zcd, ptrCells_some, F11, g2, hb1, L.wk.shut]
            rw [wpCall_eq c2]
            simp only [WW, partV, eqCells, eqLf, minV, maxV, ifcV, zaa, zab, zac, zad, zae, zaf, zag, zah, zai, ofConst, ofConst1, List.replicate, zaj, zak, loadOp, Go.Abs.loadCells, binV, zal, pickV, zam, zan, zao, zap, zaq, zar, zas, zat, zau, outR, resAll, resOne, zav, zaw, zax, zay, zaz, zba, zbb, zbc, zbd, zbe, zbf, zbg, zbh, zbi, zbj, zbk, storeOp, storeCell, overlay, zbl, zbm, zbn, lookupOp, keyT, okRes, mapUpdateOp, zbo, zbp, zbq, zbr, zbs, zbt, zbu, Nat.reduceSub, Nat.reduceAdd, Int.reduceLT, Int.reduceLE, Int.reduceAdd, Int.reduceSub, Int.reduceToNat, Int.reduceBEq, Int.reduceBNe, Int.reduceMul, Nat.reduceBEq, Nat.reduceBNe, Nat.reduceLT, Nat.reduceLeDiff, Nat.reduceMul, Nat.reduceEqDiff, WD, effB, effH, isPriv, isHeap, isImm, zbx, zby, zbz, chkO, setD, dslot, zca, zcb, zcc, zcd, ptrCells_some, F11, g3, hb2, L2.al.shut, ha1, hat.cells, ptrV, hx', g4]
            simp only [Bool.not_true, Bool.false_or, Bool.false_eq_true, if_false, g4, if_true, true_and]
            exact L2
          | false =>
            have L3 := L2.put hk (y := ⟨x.id, t, IntKind.i64.wrap (x.n + 1)⟩) rfl
            refine runs f11 b11 r11 n11 _ _ ?_
            simp only [bodyOf, Try.f11, Option.getD_some]
            simp only [WW, partV, eqCells, eqLf, minV, maxV, ifcV, zaa, zab, zac, zad, zae, zaf, zag, zah, zai, ofConst, ofConst1, List.replicate, zaj, zak, loadOp, Go.Abs.loadCells, binV, zal, pickV, zam, zan, zao, zap, zaq, zar, zas, zat, zau, outR, resAll, resOne, zav, zaw, zax, zay, zaz, zba, zbb, zbc, zbd, zbe, zbf, zbg, zbh, zbi, zbj, zbk, storeOp, storeCell, overlay, zbl, zbm, zbn, lookupOp, keyT, okRes, mapUpdateOp, zbo, zbp, zbq, zbr, zbs, zbt, zbu, Nat.reduceSub, Nat.reduceAdd, Int.reduceLT, Int.reduceLE, Int.reduceAdd, Int.reduceSub, Int.reduceToNat, Int.reduceBEq, Int.reduceBNe, Int.reduceMul, Nat.reduceBEq, Nat.reduceBNe, Nat.reduceLT, Nat.reduceLeDiff, Nat.reduceMul, Nat.reduceEqDiff, WD, effB, effH, isPriv, isHeap, isImm, zbx, zby, zbz, chkO, setD, dslot, zca, zcb, zcc, zcd, ptrCells_some, F11]
            rw [wpCall_eq hw]
            simp only [WW, partV, eqCells, eqLf, minV, maxV, ifcV, zaa, zab, zac, zad, zae, zaf, zag, zah, zai, ofConst, ofConst1, List.replicate, zaj, zak, loadOp, Go.Abs.loadCells, binV, zal, pickV, zam, zan, zao, zap, zaq, zar, zas, zat, zau, outR, resAll, resOne, zav, zaw, zax, zay, zaz, zba, zbb, zbc, zbd, zbe, zbf, zbg, zbh, zbi, zbj, zbk, storeOp, storeCell, overlay, zbl, zbm, zbn, lookupOp, keyT, okRes, mapUpdateOp, zbo, zbp, zbq, zbr, zbs, zbt, zbu, Nat.reduceSub, Nat.reduceAdd, Int.reduceLT, Int.reduceLE, Int.reduceAdd, Int.reduceSub, Int.reduceToNat, Int.reduceBEq, Int.reduceBNe, Int.reduceMul, Nat.reduceBEq, Nat.reduceBNe, Nat.reduceLT, Nat.reduceLeDiff, Nat.reduceMul, Nat.reduceEqDiff, WD, effB, effH, isPriv, isHeap, isImm, zbx, zby, zbz, chkO, setD, dslot, zca, zcb, zcc, zcd, ptrCells_some, F11]
            rw [wpCall_eq hfr]
            simp only [WW, partV, eqCells, eqLf, minV, maxV, ifcV, zaa, zab, zac, zad, zae, zaf, zag, zah, zai, ofConst, ofConst1, List.replicate, zaj, zak, loadOp, Go.Abs.loadCells, binV, zal, pickV, zam, zan, zao, zap, zaq, zar, zas, zat, zau, outR, resAll, resOne, zav, zaw, zax, zay, zaz, zba, zbb, zbc, zbd, zbe, zbf, zbg, zbh, zbi, zbj, zbk, storeOp, storeCell, overlay, zbl, zbm, zbn, lookupOp, keyT, okRes, mapUpdateOp, zbo, zbp, zbq, zbr, zbs, zbt, zbu, Nat.reduceSub, Nat.reduceAdd, Int.reduceLT, Int.reduceLE, Int.reduceAdd, Int.reduceSub, Int.reduceToNat, Int.reduceBEq, Int.reduceBNe, Int.reduceMul, Nat.reduceBEq, Nat.reduceBNe, Nat.reduceLT, Nat.reduceLeDiff, Nat.reduceMul, Nat.reduceEqDiff, WD, effB, effH, isPriv, isHeap, isImm, zbx, zby, zbz, chkO, setD, dslot, zca, zcb, zcc, zcd, ptrCells_some, F11, hb, L.ws.shut]
            rw [wpCall_eq c1]
            simp only [WW, partV, eqCells, eqLf, minV, maxV, ifcV, zaa, zab, zac, zad, zae, zaf, zag, zah, zai, ofConst, ofConst1, List.replicate, zaj, zak, loadOp, Go.Abs.loadCells, binV, zal, pickV, zam, zan, zao, zap, zaq, zar, zas, zat, zau, outR, resAll, resOne, zav, zaw, zax, zay, zaz, zba, zbb, zbc, zbd, zbe, zbf, zbg, zbh, zbi, zbj, zbk, storeOp, storeCell, overlay, zbl, zbm, zbn, lookupOp, keyT, okRes, mapUpdateOp, zbo, zbp, zbq, zbr, zbs, zbt, zbu, Nat.reduceSub, Nat.reduceAdd, Int.reduceLT, Int.reduceLE, Int.reduceAdd, Int.reduceSub, Int.reduceToNat, Int.reduceBEq, Int.reduceBNe, Int.reduceMul, Nat.reduceBEq, Nat.reduceBNe, Nat.reduceLT, Nat.reduceLeDiff, Nat.reduceMul, Nat.reduceEqDiff, WD, effB, effH, isPriv, isHeap, isImm, zbx, zby, zbz, chkO, setD, dslot, zca, zcb, zcc, zcd, ptrCells_some, F11, g2, hb1, L.wk.shut]
            rw [wpCall_eq c2]
            simp only [WW, partV, eqCells, eqLf, minV, maxV, ifcV, zaa, zab, zac, zad, zae, zaf, zag, zah, zai, ofConst, ofConst1, List.replicate, zaj, zak, loadOp, Go.Abs.loadCells, binV, zal, pickV, zam, zan, zao, zap, zaq, zar, zas, zat, zau, outR, resAll, resOne, zav, zaw, zax, zay, zaz, zba, zbb, zbc, zbd, zbe, zbf, zbg, zbh, zbi, zbj, zbk, storeOp, storeCell, overlay, zbl, zbm, zbn, lookupOp, keyT, okRes, mapUpdateOp, zbo, zbp, zbq, zbr, zbs, zbt, zbu, Nat.reduceSub, Nat.reduceAdd, Int.reduceLT, Int.reduceLE, Int.reduceAdd, Int.reduceSub, Int.reduceToNat, Int.reduceBEq, Int.reduceBNe, Int.reduceMul, Nat.reduceBEq, Nat.reduceBNe, Nat.reduceLT, Nat.reduceLeDiff, Nat.reduceMul, Nat.reduceEqDiff, WD, effB, effH, isPriv, isHeap, isImm, zbx, zby, zbz, chkO, setD, dslot, zca, zcb, zcc, zcd, ptrCells_some, F11, g3, hb2, L2.al.shut, ha1, hat.cells, ptrV, hx', g4]
            refine wC_dr [] (by kernel_rfl) ?_
            simp only [WW, partV, eqCells, eqLf, minV, maxV, ifcV, zaa, zab, zac, zad, zae, zaf, zag, zah, zai, ofConst, ofConst1, List.replicate, zaj, zak, loadOp, Go.Abs.loadCells, binV, zal, pickV, zam, zan, zao, zap, zaq, zar, zas, zat, zau, outR, resAll, resOne, zav, zaw, zax, zay, zaz, zba, zbb, zbc, zbd, zbe, zbf, zbg, zbh, zbi, zbj, zbk, storeOp, storeCell, overlay, zbl, zbm, zbn, lookupOp, keyT, okRes, mapUpdateOp, zbo, zbp, zbq, zbr, zbs, zbt, zbu, Nat.reduceSub, Nat.reduceAdd, Int.reduceLT, Int.reduceLE, Int.reduceAdd, Int.reduceSub, Int.reduceToNat, Int.reduceBEq, Int.reduceBNe, Int.reduceMul, Nat.reduceBEq, Nat.reduceBNe, Nat.reduceLT, Nat.reduceLeDiff, Nat.reduceMul, Nat.reduceEqDiff, WD, effB, effH, isPriv, isHeap, isImm, zbx, zby, zbz, chkO, setD, dslot, zca, zcb, zcc, zcd, ptrCells_some, F11, hb2, L2.al.shut, ha1, hat.cells, ptrV, hx', buildOp, fillV, Lay.place, Bool.or_self, Bool.or_false, Bool.false_or, decide_not, ne_eq, not_true_eq_false, decide_eq_true_eq, Nat.lt_irrefl, storeHeap, promote, heapSet, elemSet]
            try simp only [Bool.not_true, Bool.false_or, Bool.false_eq_true, if_false, g4, true_and]
            exact L3
end Go.Proofs.Ythicacphcljdmaa

/- Monitors unlocked; whose they are; who was woken. -/
namespace Go.Proofs.Ythicacphcljdmaa
open Go Go.Abs Go.Proofs
set_option maxRecDepth 100000
set_option maxHeartbeats 8000000
set_option linter.unusedVariables false
set_option linter.unusedSimpArgs false
def hasB (ms : List Mon) (m t : Int) : Int := if wrongB ms m t then 1 else if (ms[m.toNat]?).any (fun x => x.n == 0 || x.t != t) then 8 else 0
theorem has_in {ms : List Mon} {m t : Int} (h : hasB ms m t = 0) : ∃ k : Nat, m = k ∧ ∃ x, ms[k]? = some x ∧ x.n ≠ 0 ∧ x.t = t ∧ 0 ≤ t ∧ t < 256 := by
  unfold hasB at h
  split at h
  · cases h
  rename_i hw
  obtain ⟨k, rfl, x, hk, h1, h2⟩ := wrong_in (by simpa using hw)
  rw [show ((k : Nat) : Int).toNat = k from rfl, hk] at h
  split at h
  · cases h
  rename_i h3
  simp only [Option.any_some, Bool.or_eq_true, beq_iff_eq, bne_iff_ne, ne_eq, not_or, Decidable.not_not] at h3
  exact ⟨k, rfl, x, hk, h3.1, h3.2, h1, h2⟩
def unlockM (ms : List Mon) (m t : Int) : Int × List Mon :=
  if hasB ms m t = 0 then
    match ms[m.toNat]? with
    | some x => (0, ms.set m.toNat ⟨x.id, if IntKind.i64.wrap (x.n - 1) == 0 then -1 else x.t, IntKind.i64.wrap (x.n - 1)⟩)
    | none => (0, ms)
  else (hasB ms m t, ms)
theorem unlock_spec {H : Hp} {p : Nat} {ms : List Mon} {ws wk : List Slp} {came : Int} {all wa wo : V} (L : LK H p ms ws wk came all wa wo) (m t : Int) :
    wpCall EW 12 [.ptr p 0 0, .int .i64 m, .int .i64 t] H (fun out H' => out = .ret (.int .i64 (unlockM ms m t).1) false ∧ LK H' p (unlockM ms m t).2 ws wk came all wa wo) := by
  have hh : EW 26 [.ptr p 0 0, .int .i64 m, .int .i64 t] H = some (.ret (.int .i64 (hasB ms m t)) false, H) := has_eq L.blk L.al L.mon m t
  have hb := L.blk
  unfold unlockM
  by_cases g0 : hasB ms m t = 0
  case neg =>
    have g0' : (hasB ms m t != 0) = true := by simpa using g0
    rw [if_neg g0]
    refine runs f12 b12 r12 n12 _ _ ?_
    simp only [bodyOf, Try.f12, Option.getD_some]
    simp only [WW, partV, eqCells, eqLf, minV, maxV, ifcV, zaa, zab, zac, zad, zae, zaf, zag, zah, zai, ofConst, ofConst1, List.replicate, zaj, zak, loadOp, Go.Abs.loadCells, binV, zal, pickV, zam, zan, zao, zap, zaq, zar, zas, zat, zau, outR, resAll, resOne, zav, zaw, zax, zay, zaz, zba, zbb, zbc, zbd, zbe, zbf, zbg, zbh, zbi, zbj, zbk, storeOp, storeCell, overlay, zbl, zbm, zbn, lookupOp, keyT, okRes, mapUpdateOp, zbo, zbp, zbq, zbr, zbs, zbt, zbu, Nat.reduceSub, Nat.reduceAdd, Int.reduceLT, Int.reduceLE, Int.reduceAdd, Int.reduceSub, Int.reduceToNat, Int.reduceBEq, Int.reduceBNe, Int.reduceMul, Nat.reduceBEq, Nat.reduceBNe, Nat.reduceLT, Nat.reduceLeDiff, Nat.reduceMul, Nat.reduceEqDiff, WD, effB, effH, isPriv, isHeap, isImm, zbx, zby, zbz, chkO, setD, dslot, zca, zcb, zcc, zcd, ptrCells_some, F12]
    rw [wpCall_eq hh]
    simp only [WW, partV, eqCells, eqLf, minV, maxV, ifcV, zaa, zab, zac, zad, zae, zaf, zag, zah, zai, ofConst, ofConst1, List.replicate, zaj, zak, loadOp, Go.Abs.loadCells, binV, zal, pickV, zam, zan, zao, zap, zaq, zar, zas, zat, zau, outR, resAll, resOne, zav, zaw, zax, zay, zaz, zba, zbb, zbc, zbd, zbe, zbf, zbg, zbh, zbi, zbj, zbk, storeOp, storeCell, overlay, zbl, zbm, zbn, lookupOp, keyT, okRes, mapUpdateOp, zbo, zbp, zbq, zbr, zbs, zbt, zbu, Nat.reduceSub, Nat.reduceAdd, Int.reduceLT, Int.reduceLE, Int.reduceAdd, Int.reduceSub, Int.reduceToNat, Int.reduceBEq, Int.reduceBNe, Int.reduceMul, Nat.reduceBEq, Nat.reduceBNe, Nat.reduceLT, Nat.reduceLeDiff, Nat.reduceMul, Nat.reduceEqDiff, WD, effB, effH, isPriv, isHeap, isImm, zbx, zby, zbz, chkO, setD, dslot, zca, zcb, zcc, zcd, ptrCells_some, F12, g0']
    exact L
  rw [if_pos g0]
  obtain ⟨k, rfl, x, hk, hn, ht, h1, h2⟩ := has_in g0
  rw [g0] at hh
  have hk' : ms[((k : Nat) : Int).toNat]? = some x := hk
  rw [hk']
  have hx' : H[x.id]? = some (.cells [.agg [.int .i64 x.t, .int .i64 x.n]]) := L.mon x (List.mem_of_getElem? hk)
  have hat := L.al.rd.at_ (sz := 1) (i := k) (e := ptrV x) (by rw [List.getElem?_map, hk]; rfl) rfl
  have ha1 := hat.at1 L.al.rd
  have L1 := L.put hk (y := ⟨x.id, x.t, IntKind.i64.wrap (x.n - 1)⟩) rfl
  have hk1 : (ms.set k ⟨x.id, x.t, IntKind.i64.wrap (x.n - 1)⟩)[k]? = some ⟨x.id, x.t, IntKind.i64.wrap (x.n - 1)⟩ := List.getElem?_set_self (List.getElem?_eq_some_iff.1 hk).1
  have hb1 := L1.blk
  have hat1 := L1.al.rd.at_ (sz := 1) (i := k) (e := ptrV x) (by rw [List.getElem?_map, hk1]; rfl) rfl
  have ha2 := hat1.at1 L1.al.rd
  have hx1 : (H.set x.id (monB ⟨x.id, x.t, IntKind.i64.wrap (x.n - 1)⟩))[x.id]? = some (.cells [.agg [.int .i64 x.t, .int .i64 (IntKind.i64.wrap (x.n - 1))]]) := List.getElem?_set_self (List.getElem?_eq_some_iff.1 hx').1
  have hset : H.set x.id (.cells [.agg [.int .i64 x.t, .int .i64 (IntKind.i64.wrap (x.n - 1))]]) = H.set x.id (monB ⟨x.id, x.t, IntKind.i64.wrap (x.n - 1)⟩) := rfl
  generalize hnn : IntKind.i64.wrap (x.n - 1) = n' at *
  generalize hH1 : H.set x.id (monB ⟨x.id, x.t, n'⟩) = H1 at *
  cases g1 : (n' == 0) with
  | false =>
    refine runs f12 b12 r12 n12 _ _ ?_
    simp only [bodyOf, Try.f12, Option.getD_some]
    simp only [WW, partV, eqCells, eqLf, minV, maxV, ifcV, zaa, zab, zac, zad, zae, zaf, zag, zah, zai, ofConst, ofConst1, List.replicate, zaj, zak, loadOp, Go.Abs.loadCells, binV, zal, pickV, zam, zan, zao, zap, zaq, zar, zas, zat, zau, outR, resAll, resOne, zav, zaw, zax, zay, zaz, zba, zbb, zbc, zbd, zbe, zbf, zbg, zbh, zbi, zbj, zbk, storeOp, storeCell, overlay, zbl, zbm, zbn, lookupOp, keyT, okRes, mapUpdateOp, zbo, zbp, zbq, zbr, zbs, zbt, zbu, Nat.reduceSub, Nat.reduceAdd, Int.reduceLT, Int.reduceLE, Int.reduceAdd, Int.reduceSub, Int.reduceToNat, Int.reduceBEq, Int.reduceBNe, Int.reduceMul, Nat.reduceBEq, Nat.reduceBNe, Nat.reduceLT, Nat.reduceLeDiff, Nat.reduceMul, Nat.reduceEqDiff, WD, effB, effH, isPriv, isHeap, isImm, zbx, zby, zbz, chkO, setD, dslot, zca, zcb, zcc, zcd, ptrCells_some, F12]
    rw [wpCall_eq hh]
    simp only [WW, partV, eqCells, eqLf, minV, maxV, ifcV, zaa, zab, zac, zad, zae, zaf, zag, zah, zai, ofConst, ofConst1, List.replicate, zaj, zak, loadOp, Go.Abs.loadCells, binV, zal, pickV, zam, zan, zao, zap, zaq, zar, zas, zat, zau, outR, resAll, resOne, zav, zaw, zax, zay, zaz, zba, zbb, zbc, zbd, zbe, zbf, zbg, zbh, zbi, zbj, zbk, storeOp, storeCell, overlay, zbl, zbm, zbn, lookupOp, keyT, okRes, mapUpdateOp, zbo, zbp, zbq, zbr, zbs, zbt, zbu, Nat.reduceSub, Nat.reduceAdd, Int.reduceLT, Int.reduceLE, Int.reduceAdd, Int.reduceSub, Int.reduceToNat, Int.reduceBEq, Int.reduceBNe, Int.reduceMul, Nat.reduceBEq, Nat.reduceBNe, Nat.reduceLT, Nat.reduceLeDiff, Nat.reduceMul, Nat.reduceEqDiff, WD, effB, effH, isPriv, isHeap, isImm, zbx, zby, zbz, chkO, setD, dslot, zca, zcb, zcc, zcd, ptrCells_some, F12, hb, L.al.shut, ha1, hat.cells, ptrV, hx', hnn, storeHeap, promote, heapSet, elemSet]
    rw [hset]
    simp only [WW, partV, eqCells, eqLf, minV, maxV, ifcV, zaa, zab, zac, zad, zae, zaf, zag, zah, zai, ofConst, ofConst1, List.replicate, zaj, zak, loadOp, Go.Abs.loadCells, binV, zal, pickV, zam, zan, zao, zap, zaq, zar, zas, zat, zau, outR, resAll, resOne, zav, zaw, zax, zay, zaz, zba, zbb, zbc, zbd, zbe, zbf, zbg, zbh, zbi, zbj, zbk, storeOp, storeCell, overlay, zbl, zbm, zbn, lookupOp, keyT, okRes, mapUpdateOp, zbo, zbp, zbq, zbr, zbs, zbt, zbu, Nat.reduceSub, Nat.reduceAdd, Int.reduceLT, Int.reduceLE, Int.reduceAdd, Int.reduceSub, Int.reduceToNat, Int.reduceBEq, Int.reduceBNe, Int.reduceMul, Nat.reduceBEq, Nat.reduceBNe, Nat.reduceLT, Nat.reduceLeDiff, Nat.reduceMul, Nat.reduceEqDiff, WD, effB, effH, isPriv, isHeap, isImm, zbx, zby, zbz, chkO, setD, dslot, zca, zcb, zcc, zcd, ptrCells_some, F12, hb1, L1.al.shut, ha2, hat1.cells, ptrV, hx1, g1]
    exact L1
  | true =>
    have L2 := L1.put hk1 (y := ⟨x.id, -1, n'⟩) rfl
    rw [List.set_set] at L2
    refine runs f12 b12 r12 n12 _ _ ?_
    simp only [bodyOf, Try.f12, Option.getD_some]
    simp only [WW, partV, eqCells, eqLf, minV, maxV, ifcV, zaa, zab, zac, zad, zae, zaf, zag, zah, zai, ofConst, ofConst1, List.replicate, zaj, zak, loadOp, Go.Abs.loadCells, binV, zal, pickV, zam, zan, zao, zap, zaq, zar, zas, zat, zau, outR, resAll, resOne, zav, zaw, zax, zay, zaz, zba, zbb, zbc, zbd, zbe, zbf, zbg, zbh, zbi, zbj, zbk, storeOp, storeCell, overlay, zbl, zbm, zbn, lookupOp, keyT, okRes, mapUpdateOp, zbo, zbp, zbq, zbr, zbs, zbt, zbu, Nat.reduceSub, Nat.reduceAdd, Int.reduceLT, Int.reduceLE, Int.reduceAdd, Int.reduceSub, Int.reduceToNat, Int.reduceBEq, Int.reduceBNe, Int.reduceMul, Nat.reduceBEq, Nat.reduceBNe, Nat.reduceLT, Nat.reduceLeDiff, Nat.reduceMul, Nat.reduceEqDiff, WD, effB, effH, isPriv, isHeap, isImm, zbx, zby, zbz, chkO, setD, dslot, zca, zcb, zcc, zcd, ptrCells_some, F12]
    rw [wpCall_eq hh]
    simp only [WW, partV, eqCells, eqLf, minV, maxV, ifcV, zaa, zab, zac, zad, zae, zaf, zag, zah, zai, ofConst, ofConst1, List.replicate, zaj, zak, loadOp, Go.Abs.loadCells, binV, zal, pickV, zam, zan, zao, zap, zaq, zar, zas, zat, zau, outR, resAll, resOne, zav, zaw, zax, zay, zaz, zba, zbb, zbc, zbd, zbe, zbf, zbg, zbh, zbi, zbj, zbk, storeOp, storeCell, overlay, zbl, zbm, zbn, lookupOp, keyT, okRes, mapUpdateOp, zbo, zbp, zbq, zbr, zbs, zbt, zbu, Nat.reduceSub, Nat.reduceAdd, Int.reduceLT, Int.reduceLE, Int.reduceAdd, Int.reduceSub, Int.reduceToNat, Int.reduceBEq, Int.reduceBNe, Int.reduceMul, Nat.reduceBEq, Nat.reduceBNe, Nat.reduceLT, Nat.reduceLeDiff, Nat.reduceMul, Nat.reduceEqDiff, WD, effB, effH, isPriv, isHeap, isImm, zbx, zby, zbz, chkO, setD, dslot, zca, zcb, zcc, zcd, ptrCells_some, F12, hb, L.al.shut, ha1, hat.cells, ptrV, hx', hnn, storeHeap, promote, heapSet, elemSet]
    rw [hset]
    simp only [WW, partV, eqCells, eqLf, minV, maxV, ifcV, zaa, zab, zac, zad, zae, zaf, zag, zah, zai, ofConst, ofConst1, List.replicate, zaj, zak, loadOp, Go.Abs.loadCells, binV, zal, pickV, zam, zan, zao, zap, zaq, zar, zas, zat, zau, outR, resAll, resOne, zav, zaw, zax, zay, zaz, zba, zbb, zbc, zbd, zbe, zbf, zbg, zbh, zbi, zbj, zbk, storeOp, storeCell, overlay, zbl, zbm, zbn, lookupOp, keyT, okRes, mapUpdateOp, zbo, zbp, zbq, zbr, zbs, zbt, zbu, Nat.reduceSub, Nat.reduceAdd, Int.reduceLT, Int.reduceLE, Int.reduceAdd, Int.reduceSub, Int.reduceToNat, Int.reduceBEq, Int.reduceBNe, Int.reduceMul, Nat.reduceBEq, Nat.reduceBNe, Nat.reduceLT, Nat.reduceLeDiff, Nat.reduceMul, Nat.reduceEqDiff, WD, effB, effH, isPriv, isHeap, isImm, zbx, zby, zbz, chkO, setD, dslot, zca, zcb, zcc, zcd, ptrCells_some, F12, hb1, L1.al.shut, ha2, hat1.cells, ptrV, hx1, g1, storeHeap, promote, heapSet, elemSet]
    exact L2
theorem owner_eq {H : Hp} {p : Nat} {ms : List Mon} {ws wk : List Slp} {came : Int} {all wa wo : V} (L : LK H p ms ws wk came all wa wo) {k : Nat} {x : Mon} (hk : ms[k]? = some x) :
    EW 17 [.ptr p 0 0, .int .i64 k] H = some (.ret (.tup [.int .i64 x.t, .int .i64 x.n, .int .i64 0]) false, H) := by
  have hw := wrong_eq L.blk L.al (k : Int) 0
  have hlt := (List.getElem?_eq_some_iff.1 hk).1
  have hwf : wrongB ms (k : Int) 0 = false := by
    simp only [wrongB, Bool.or_eq_false_iff, decide_eq_false_iff_not]; omega
  rw [hwf] at hw
  have hb := L.blk
  have hx' : H[x.id]? = some (.cells [.agg [.int .i64 x.t, .int .i64 x.n]]) := L.mon x (List.mem_of_getElem? hk)
  have hat := L.al.rd.at_ (sz := 1) (i := k) (e := ptrV x) (by rw [List.getElem?_map, hk]; rfl) rfl
  have ha1 := hat.at1 L.al.rd
  refine eqOf2 (runs f17 b17 r17 n17 _ _ ?_)
  simp only [bodyOf, Try.f17, Option.getD_some]
  simp only [WW, partV, eqCells, eqLf, minV, maxV, ifcV, zaa, zab, zac, zad, zae, zaf, zag, zah, zai, ofConst, ofConst1, List.replicate, zaj, zak, loadOp, Go.Abs.loadCells, binV, zal, pickV, zam, zan, zao, zap, zaq, zar, zas, zat, zau, outR, resAll, resOne, zav, zaw, zax, zay, zaz, zba, zbb, zbc, zbd, zbe, zbf, zbg, zbh, zbi, zbj, zbk, storeOp, storeCell, overlay, zbl, zbm, zbn, lookupOp, keyT, okRes, mapUpdateOp, zbo, zbp, zbq, zbr, zbs, zbt, zbu, Nat.reduceSub, Nat.reduceAdd, Int.reduceLT, Int.reduceLE, Int.reduceAdd, Int.reduceSub, Int.reduceToNat, Int.reduceBEq, Int.reduceBNe, Int.reduceMul, Nat.reduceBEq, Nat.reduceBNe, Nat.reduceLT, Nat.reduceLeDiff, Nat.reduceMul, Nat.reduceEqDiff, WD, effB, effH, isPriv, isHeap, isImm, zbx, zby, zbz, chkO, setD, dslot, zca, zcb, zcc, zcd, ptrCells_some, F17]
  rw [wpCall_eq hw]
  simp only [WW, partV, eqCells, eqLf, minV, maxV, ifcV, zaa, zab, zac, zad, zae, zaf, zag, zah, zai, ofConst, ofConst1, List.replicate, zaj, zak, loadOp, Go.Abs.loadCells, binV, zal, pickV, zam, zan, zao, zap, zaq, zar, zas, zat, zau, outR, resAll, resOne, zav, zaw, zax, zay, zaz, zba, zbb, zbc, zbd, zbe, zbf, zbg, zbh, zbi, zbj, zbk, storeOp, storeCell, overlay, zbl, zbm, zbn, lookupOp, keyT, okRes, mapUpdateOp, zbo, zbp, zbq, zbr, zbs, zbt, zbu, Nat.reduceSub, Nat.reduceAdd, Int.reduceLT, Int.reduceLE, Int.reduceAdd, Int.reduceSub, Int.reduceToNat, Int.reduceBEq, Int.reduceBNe, Int.reduceMul, Nat.reduceBEq, Nat.reduceBNe, Nat.reduceLT, Nat.reduceLeDiff, Nat.reduceMul, Nat.reduceEqDiff, WD, effB, effH, isPriv, isHeap, isImm, zbx, zby, zbz, chkO, setD, dslot, zca, zcb, zcc, zcd, ptrCells_some, F17]
  refine wC_dr [] (by kernel_rfl) ?_
  simp only [WW, partV, eqCells, eqLf, minV, maxV, ifcV, zaa, zab, zac, zad, zae, zaf, zag, zah, zai, ofConst, ofConst1, List.replicate, zaj, zak, loadOp, Go.Abs.loadCells, binV, zal, pickV, zam, zan, zao, zap, zaq, zar, zas, zat, zau, outR, resAll, resOne, zav, zaw, zax, zay, zaz, zba, zbb, zbc, zbd, zbe, zbf, zbg, zbh, zbi, zbj, zbk, storeOp, storeCell, overlay, zbl, zbm, zbn, lookupOp, keyT, okRes, mapUpdateOp, zbo, zbp, zbq, zbr, zbs, zbt, zbu, Nat.reduceSub, Nat.reduceAdd, Int.reduceLT, Int.reduceLE, Int.reduceAdd, Int.reduceSub, Int.reduceToNat, Int.reduceBEq, Int.reduceBNe, Int.reduceMul, Nat.reduceBEq, Nat.reduceBNe, Nat.reduceLT, Nat.reduceLeDiff, Nat.reduceMul, Nat.reduceEqDiff, WD, effB, effH, isPriv, isHeap, isImm, zbx, zby, zbz, chkO, setD, dslot, zca, zcb, zcc, zcd, ptrCells_some, F17, hb, L.al.shut, ha1, hat.cells, ptrV, hx']
theorem findT_at {l : List Slp} {t : Int} (h : 0 ≤ findT l t) : ∃ (i : Nat) (s : Slp), findT l t = i ∧ l[i]? = some s ∧ s.t = t := by
  unfold findT at h ⊢
  cases hf : l.findIdx? (fun s => s.t == t) with
  | none => rw [hf] at h; simp at h
  | some i =>
    rw [List.findIdx?_eq_some_iff_getElem] at hf
    obtain ⟨h1, h2, _⟩ := hf
    exact ⟨i, l[i], rfl, List.getElem?_eq_getElem h1, by simpa using h2⟩
theorem woken_eq {H : Hp} {p : Nat} {ms : List Mon} {ws wk : List Slp} {came : Int} {all wa wo : V} (L : LK H p ms ws wk came all wa wo) (t : Int) (h2 : wk.length < 4294967296) :
    ∃ m told, EW 18 [.ptr p 0 0, .int .i64 t] H = some (.ret (.tup [.int .i64 m, .bool told, .bool (decide (0 ≤ findT wk t))]) false, H ++ [.cells [.int .i64 t]]) ∧ (0 ≤ findT wk t → ∃ s, wk[(findT wk t).toNat]? = some s ∧ s.t = t ∧ m = s.m) := by
  have hb := L.blk
  have c1 := of_eq (L.wk.sx : Sx _ wo (slps wk)) t h2
  have L1 := L.app [.cells [.int .i64 t]]
  have hb1 := L1.blk
  cases g : decide (0 ≤ findT wk t) with
  | false =>
    have g' : decide (findT wk t < 0) = true := by simp at g ⊢; omega
    refine ⟨0, false, ?_, fun h => by simp at g; omega⟩
    refine eqOf2 (runs f18 b18 r18 n18 _ _ ?_)
    simp only [bodyOf, Try.f18, Option.getD_some]
    simp only [WW, partV, eqCells, eqLf, minV, maxV, ifcV, zaa, zab, zac, zad, zae, zaf, zag, zah, zai, ofConst, ofConst1, List.replicate, zaj, zak, loadOp, Go.Abs.loadCells, binV, zal, pickV, zam, zan, zao, zap, zaq, zar, zas, zat, zau, outR, resAll, resOne, zav, zaw, zax, zay, zaz, zba, zbb, zbc, zbd, zbe, zbf, zbg, zbh, zbi, zbj, zbk, storeOp, storeCell, overlay, zbl, zbm, zbn, lookupOp, keyT, okRes, mapUpdateOp, zbo, zbp, zbq, zbr, zbs, zbt, zbu, Nat.reduceSub, Nat.reduceAdd, Int.reduceLT, Int.reduceLE, Int.reduceAdd, Int.reduceSub, Int.reduceToNat, Int.reduceBEq, Int.reduceBNe, Int.reduceMul, Nat.reduceBEq, Nat.reduceBNe, Nat.reduceLT, Nat.reduceLeDiff, Nat.reduceMul, Nat.reduceEqDiff, WD, effB, effH, isPriv, isHeap, isImm, zbx, zby, zbz, chkO, setD, dslot, zca, zcb, zcc, zcd, ptrCells_some, F18, hb, L.wk.shut]
    rw [wpCall_eq c1]
    simp only [WW, partV, eqCells, eqLf, minV, maxV, ifcV, zaa, zab, zac, zad, zae, zaf, zag, zah, zai, ofConst, ofConst1, List.replicate, zaj, zak, loadOp, Go.Abs.loadCells, binV, zal, pickV, zam, zan, zao, zap, zaq, zar, zas, zat, zau, outR, resAll, resOne, zav, zaw, zax, zay, zaz, zba, zbb, zbc, zbd, zbe, zbf, zbg, zbh, zbi, zbj, zbk, storeOp, storeCell, overlay, zbl, zbm, zbn, lookupOp, keyT, okRes, mapUpdateOp, zbo, zbp, zbq, zbr, zbs, zbt, zbu, Nat.reduceSub, Nat.reduceAdd, Int.reduceLT, Int.reduceLE, Int.reduceAdd, Int.reduceSub, Int.reduceToNat, Int.reduceBEq, Int.reduceBNe, Int.reduceMul, Nat.reduceBEq, Nat.reduceBNe, Nat.reduceLT, Nat.reduceLeDiff, Nat.reduceMul, Nat.reduceEqDiff, WD, effB, effH, isPriv, isHeap, isImm, zbx, zby, zbz, chkO, setD, dslot, zca, zcb, zcc, zcd, ptrCells_some, F18, g']
  | true =>
    have g' : decide (findT wk t < 0) = false := by simp at g ⊢; omega
    obtain ⟨i, s, hi, hs, hst⟩ := findT_at (of_decide_eq_true g)
    rw [hi] at c1 g'
    have hat := L1.wk.rd.at_ (sz := 6) (i := i) (e := slpV s) (by rw [List.getElem?_map, hs]; rfl) rfl
    have ha1 := hat.at1 L1.wk.rd
    refine ⟨s.m, s.told, ?_, fun _ => ⟨s, by rw [hi]; exact hs, hst, rfl⟩⟩
    refine eqOf2 (runs f18 b18 r18 n18 _ _ ?_)
    simp only [bodyOf, Try.f18, Option.getD_some]
    simp only [WW, partV, eqCells, eqLf, minV, maxV, ifcV, zaa, zab, zac, zad, zae, zaf, zag, zah, zai, ofConst, ofConst1, List.replicate, zaj, zak, loadOp, Go.Abs.loadCells, binV, zal, pickV, zam, zan, zao, zap, zaq, zar, zas, zat, zau, outR, resAll, resOne, zav, zaw, zax, zay, zaz, zba, zbb, zbc, zbd, zbe, zbf, zbg, zbh, zbi, zbj, zbk, storeOp, storeCell, overlay, zbl, zbm, zbn, lookupOp, keyT, okRes, mapUpdateOp, zbo, zbp, zbq, zbr, zbs, zbt, zbu, Nat.reduceSub, Nat.reduceAdd, Int.reduceLT, Int.reduceLE, Int.reduceAdd, Int.reduceSub, Int.reduceToNat, Int.reduceBEq, Int.reduceBNe, Int.reduceMul, Nat.reduceBEq, Nat.reduceBNe, Nat.reduceLT, Nat.reduceLeDiff, Nat.reduceMul, Nat.reduceEqDiff, WD, effB, effH, isPriv, isHeap, isImm, zbx, zby, zbz, chkO, setD, dslot, zca, zcb, zcc, zcd, ptrCells_some, F18, hb, L.wk.shut]
    rw [wpCall_eq c1]
    simp only [WW, partV, eqCells, eqLf, minV, maxV, ifcV, zaa, zab, zac, zad, zae, zaf, zag, zah, zai, ofConst, ofConst1, List.replicate, zaj, zak, loadOp, Go.Abs.loadCells, binV, zal, pickV, zam, zan, zao, zap, zaq, zar, zas, zat, zau, outR, resAll, resOne, zav, zaw, zax, zay, zaz, zba, zbb, zbc, zbd, zbe, zbf, zbg, zbh, zbi, zbj, zbk, storeOp, storeCell, overlay, zbl, zbm, zbn, lookupOp, keyT, okRes, mapUpdateOp, zbo, zbp, zbq, zbr, zbs, zbt, zbu, Nat.reduceSub, Nat.reduceAdd, Int.reduceLT, Int.reduceLE, Int.reduceAdd, Int.reduceSub, Int.reduceToNat, Int.reduceBEq, Int.reduceBNe, Int.reduceMul, Nat.reduceBEq, Nat.reduceBNe, Nat.reduceLT, Nat.reduceLeDiff, Nat.reduceMul, Nat.reduceEqDiff, WD, effB, effH, isPriv, isHeap, isImm, zbx, zby, zbz, chkO, setD, dslot, zca, zcb, zcc, zcd, ptrCells_some, F18, g']
    refine wC_dr [] (by kernel_rfl) ?_
    simp only [WW, partV, eqCells, eqLf, minV, maxV, ifcV, zaa, zab, zac, zad, zae, zaf, zag, zah, zai, ofConst, ofConst1, List.replicate, zaj, zak, loadOp, Go.Abs.loadCells, binV, zal, pickV, zam, zan, zao, zap, zaq, zar, zas, zat, zau, outR, resAll, resOne, zav, zaw, zax, zay, zaz, zba, zbb, zbc, zbd, zbe, zbf, zbg, zbh, zbi, zbj, zbk, storeOp, storeCell, overlay, zbl, zbm, zbn, lookupOp, keyT, okRes, mapUpdateOp, zbo, zbp, zbq, zbr, zbs, zbt, zbu, Nat.reduceSub, Nat.reduceAdd, Int.reduceLT, Int.reduceLE, Int.reduceAdd, Int.reduceSub, Int.reduceToNat, Int.reduceBEq, Int.reduceBNe, Int.reduceMul, Nat.reduceBEq, Nat.reduceBNe, Nat.reduceLT, Nat.reduceLeDiff, Nat.reduceMul, Nat.reduceEqDiff, WD, effB, effH, isPriv, isHeap, isImm, zbx, zby, zbz, chkO, setD, dslot, zca, zcb, zcc, zcd, ptrCells_some, F18, hb1, L1.wk.shut, ha1, hat.fa, hat.cells, slpV]
end Go.Proofs.Ythicacphcljdmaa

/- Threads that wait; a row parted. -/
namespace Go.Proofs.Ythicacphcljdmaa
open Go Go.Abs Go.Proofs
set_option maxRecDepth 100000
set_option maxHeartbeats 8000000
set_option linter.unusedVariables false
set_option linter.unusedSimpArgs false
theorem slw_lt {sz : Nat} {H : Hp} {N : Nat → Prop} {x : V} {l : List V} (h : SlW sz H N x l) {i : Nat} (hi : bx x = some i) : i < H.length ∧ ¬ N i := by
  rcases h with ⟨rfl, _⟩ | ⟨s, es, rfl, h2, h3, _⟩
  · cases hi
  · cases hi; exact ⟨(List.getElem?_eq_some_iff.1 h3).1, h2⟩
theorem slw_kept {sz : Nat} {H H' : Hp} {N N' : Nat → Prop} {x : V} {l : List V} (h : SlW sz H N x l) (hk : ∀ i, bx x = some i → H'[i]? = H[i]?) (hN : ∀ i, bx x = some i → ¬ N' i) : SlW sz H' N' x l := by
  rcases h with h | ⟨s, es, rfl, h2, h3, h4⟩
  · exact .inl h
  · exact .inr ⟨s, es, rfl, hN s rfl, by rw [hk s rfl]; exact h3, h4⟩
/-- The row of those that wait is another one -/
theorem LK.reW {H H2 : Hp} {p : Nat} {ms : List Mon} {ws ws' wk : List Slp} {came came' : Int} {all wa wa' wo : V} (L : LK H p ms ws wk came all wa wo) (hw : SlW 6 H2 (NN p (ids ms) all wo) wa' (ws'.map slpV))
    (hk : ∀ i, NN p (ids ms) all wo i → H2[i]? = H[i]?) : LK (H2.set p (.cells [.agg [all, wa', wo, .int .i64 came']])) p ms ws' wk came' all wa' wo := by
  have hp2 : H2[p]? = some (.cells [.agg [all, wa, wo, .int .i64 came]]) := by rw [hk p (.inl rfl)]; exact L.blk
  have hpl := (List.getElem?_eq_some_iff.1 hp2).1
  have keep : ∀ i, i ≠ p → NN p (ids ms) all wo i → (H2.set p (.cells [.agg [all, wa', wo, .int .i64 came']]))[i]? = H[i]? := fun i hi hn => by rw [List.getElem?_set_ne (Ne.symm hi)]; exact hk i hn
  refine ⟨by rw [List.getElem?_set_self hpl], ?_, fun m hm => ?_, hw.set (.inl rfl) _, ?_, L.np, L.nd⟩
  · refine slw_kept L.al (fun i hi => keep i (fun e => (slw_lt L.al hi).2 (.inl e)) (.inr (.inr (.inl hi)))) (fun i hi => ?_)
    have ho := (slw_lt L.al hi).2
    rintro (h | h | h | h)
    · exact ho (.inl h)
    · exact ho (.inr (.inl h))
    · exact (slw_lt hw h).2 (.inr (.inr (.inl hi)))
    · exact ho (.inr (.inr (.inr h)))
  · rw [keep m.id (fun e => L.np (e ▸ mem_ids hm)) (.inr (.inl (mem_ids hm)))]
    exact L.mon m hm
  · refine slw_kept L.wk (fun i hi => keep i (fun e => (slw_lt L.wk hi).2 (.inl e)) (.inr (.inr (.inr hi)))) (fun i hi => ?_)
    have ho := (slw_lt L.wk hi).2
    rintro (h | h | h | h)
    · exact ho (.inl h)
    · exact ho (.inr (.inl h))
    · exact ho (.inr (.inr (.inl h)))
    · exact (slw_lt hw h).2 (.inr (.inr (.inr hi)))
/-- The row of those that were woken is another one -/
theorem LK.reK {H H2 : Hp} {p : Nat} {ms : List Mon} {ws wk wk' : List Slp} {came : Int} {all wa wo wo' : V} (L : LK H p ms ws wk came all wa wo) (hw : SlW 6 H2 (NN p (ids ms) all wa) wo' (wk'.map slpV))
    (hk : ∀ i, NN p (ids ms) all wa i → H2[i]? = H[i]?) : LK (H2.set p (.cells [.agg [all, wa, wo', .int .i64 came]])) p ms ws wk' came all wa wo' := by
  have hp2 : H2[p]? = some (.cells [.agg [all, wa, wo, .int .i64 came]]) := by rw [hk p (.inl rfl)]; exact L.blk
  have hpl := (List.getElem?_eq_some_iff.1 hp2).1
  have keep : ∀ i, i ≠ p → NN p (ids ms) all wa i → (H2.set p (.cells [.agg [all, wa, wo', .int .i64 came]]))[i]? = H[i]? := fun i hi hn => by rw [List.getElem?_set_ne (Ne.symm hi)]; exact hk i hn
  refine ⟨by rw [List.getElem?_set_self hpl], ?_, fun m hm => ?_, ?_, hw.set (.inl rfl) _, L.np, L.nd⟩
  · refine slw_kept L.al (fun i hi => keep i (fun e => (slw_lt L.al hi).2 (.inl e)) (.inr (.inr (.inl hi)))) (fun i hi => ?_)
    have ho := (slw_lt L.al hi).2
    rintro (h | h | h | h)
    · exact ho (.inl h)
    · exact ho (.inr (.inl h))
    · exact ho (.inr (.inr (.inl h)))
    · exact (slw_lt hw h).2 (.inr (.inr (.inl hi)))
  · rw [keep m.id (fun e => L.np (e ▸ mem_ids hm)) (.inr (.inl (mem_ids hm)))]
    exact L.mon m hm
  · refine slw_kept L.ws (fun i hi => keep i (fun e => (slw_lt L.ws hi).2 (.inl e)) (.inr (.inr (.inr hi)))) (fun i hi => ?_)
    have ho := (slw_lt L.ws hi).2
    rintro (h | h | h | h)
    · exact ho (.inl h)
    · exact ho (.inr (.inl h))
    · exact ho (.inr (.inr (.inl h)))
    · exact (slw_lt hw h).2 (.inr (.inr (.inr hi)))
theorem LK.lt {H : Hp} {p : Nat} {ms : List Mon} {ws wk : List Slp} {came : Int} {all wa wo : V} (L : LK H p ms ws wk came all wa wo) : p < H.length ∧ (∀ i ∈ ids ms, i < H.length) ∧ (∀ i, bx all = some i → i < H.length) ∧ (∀ i, bx wa = some i → i < H.length) ∧ (∀ i, bx wo = some i → i < H.length) := by
  refine ⟨(List.getElem?_eq_some_iff.1 L.blk).1, fun i hi => ?_, fun i hi => (slw_lt L.al hi).1, fun i hi => (slw_lt L.ws hi).1, fun i hi => (slw_lt L.wk hi).1⟩
  obtain ⟨m, hm, rfl⟩ := List.mem_map.1 hi
  exact (List.getElem?_eq_some_iff.1 (L.mon m hm)).1
theorem prom_int (st : St) (H : Hp) (k : IntKind) (n : Int) : promote st H (.int k n) = some (.int k n, st, H) := rfl
theorem prom_agg (st : St) (H : Hp) (l : List V) : promote st H (.agg l) = some (.agg l, st, H) := rfl
def waitM (ms : List Mon) (ws : List Slp) (came m t u : Int) : Int × List Mon × List Slp × Int :=
  if wrongB ms m t then (1, ms, ws, came) else
  if u < -1 then (1, ms, ws, came) else
  if hasB ms m t = 0 then
    match ms[m.toNat]? with
    | some x => (0, ms.set m.toNat ⟨x.id, -1, 0⟩, ws ++ [⟨x.t, x.n, m, u, came, false⟩], IntKind.i64.wrap (came + 1))
    | none => (0, ms, ws, came)
  else (hasB ms m t, ms, ws, came)
theorem wait_spec {H : Hp} {p : Nat} {ms : List Mon} {ws wk : List Slp} {came : Int} {all wa wo : V} (L : LK H p ms ws wk came all wa wo) (m t u : Int) (hl : ws.length < 4294967296) :
    wpCall EW 13 [.ptr p 0 0, .int .i64 m, .int .i64 t, .int .i64 u] H (fun out H' => out = .ret (.int .i64 (waitM ms ws came m t u).1) false ∧ ∃ wa', LK H' p (waitM ms ws came m t u).2.1 (waitM ms ws came m t u).2.2.1 wk (waitM ms ws came m t u).2.2.2 all wa' wo) := by
  have hw := wrong_eq L.blk L.al m t
  have hh : EW 26 [.ptr p 0 0, .int .i64 m, .int .i64 t] H = some (.ret (.int .i64 (hasB ms m t)) false, H) := has_eq L.blk L.al L.mon m t
  have hb := L.blk
  unfold waitM
  cases g0 : wrongB ms m t with
  | true =>
    rw [g0] at hw
    refine runs f13 b13 r13 n13 _ _ ?_
    simp only [bodyOf, Try.f13, Option.getD_some]
    simp only [WW, partV, eqCells, eqLf, minV, maxV, ifcV, zaa, zab, zac, zad, zae, zaf, zag, zah, zai, ofConst, ofConst1, List.replicate, zaj, zak, loadOp, Go.Abs.loadCells, binV, zal, pickV, zam, zan, zao, zap, zaq, zar, zas, zat, zau, outR, resAll, resOne, zav, zaw, zax, zay, zaz, zba, zbb, zbc, zbd, zbe, zbf, zbg, zbh, zbi, zbj, zbk, storeOp, storeCell, overlay, zbl, zbm, zbn, lookupOp, keyT, okRes, mapUpdateOp, zbo, zbp, zbq, zbr, zbs, zbt, zbu, Nat.reduceSub, Nat.reduceAdd, Int.reduceLT, Int.reduceLE, Int.reduceAdd, Int.reduceSub, Int.reduceToNat, Int.reduceBEq, Int.reduceBNe, Int.reduceMul, Nat.reduceBEq, Nat.reduceBNe, Nat.reduceLT, Nat.reduceLeDiff, Nat.reduceMul, Nat.reduceEqDiff, WD, effB, effH, isPriv, isHeap, isImm, zbx, zby, zbz, chkO, setD, dslot, zca, zcb, zcc, zcd, ptrCells_some, F13]
    rw [wpCall_eq hw]
    simp only [WW, partV, eqCells, eqLf, minV, maxV, ifcV, zaa, zab, zac, zad, zae, zaf, zag, zah, zai, ofConst, ofConst1, List.replicate, zaj, zak, loadOp, Go.Abs.loadCells, binV, zal, pickV, zam, zan, zao, zap, zaq, zar, zas, zat, zau, outR, resAll, resOne, zav, zaw, zax, zay, zaz, zba, zbb, zbc, zbd, zbe, zbf, zbg, zbh, zbi, zbj, zbk, storeOp, storeCell, overlay, zbl, zbm, zbn, lookupOp, keyT, okRes, mapUpdateOp, zbo, zbp, zbq, zbr, zbs, zbt, zbu, Nat.reduceSub, Nat.reduceAdd, Int.reduceLT, Int.reduceLE, Int.reduceAdd, Int.reduceSub, Int.reduceToNat, Int.reduceBEq, Int.reduceBNe, Int.reduceMul, Nat.reduceBEq, Nat.reduceBNe, Nat.reduceLT, Nat.reduceLeDiff, Nat.reduceMul, Nat.reduceEqDiff, WD, effB, effH, isPriv, isHeap, isImm, zbx, zby, zbz, chkO, setD, dslot, zca, zcb, zcc, zcd, ptrCells_some, F13]
    exact ⟨wa, L⟩
  | false =>
    rw [g0] at hw
    simp only [Bool.false_eq_true, if_false]
    by_cases g1 : u < -1
    · have g1' : decide (u < -1) = true := decide_eq_true g1
      rw [if_pos g1]
      refine runs f13 b13 r13 n13 _ _ ?_
      simp only [bodyOf, Try.f13, Option.getD_some]
      simp only [WW, partV, eqCells, eqLf, minV, maxV, ifcV, zaa, zab, zac, zad, zae, zaf, zag, zah, zai, ofConst, ofConst1, List.replicate, zaj, zak, loadOp, Go.Abs.loadCells, binV, zal, pickV, zam, zan, zao, zap, zaq, zar, zas, zat, zau, outR, resAll, resOne, zav, zaw, zax, zay, zaz, zba, zbb, zbc, zbd, zbe, zbf, zbg, zbh, zbi, zbj, zbk, storeOp, storeCell, overlay, zbl, zbm, zbn, lookupOp, keyT, okRes, mapUpdateOp, zbo, zbp, zbq, zbr, zbs, zbt, zbu, Nat.reduceSub, Nat.reduceAdd, Int.reduceLT, Int.reduceLE, Int.reduceAdd, Int.reduceSub, Int.reduceToNat, Int.reduceBEq, Int.reduceBNe, Int.reduceMul, Nat.reduceBEq, Nat.reduceBNe, Nat.reduceLT, Nat.reduceLeDiff, Nat.reduceMul, Nat.reduceEqDiff, WD, effB, effH, isPriv, isHeap, isImm, zbx, zby, zbz, chkO, setD, dslot, zca, zcb, zcc, zcd, ptrCells_some, F13]
      rw [wpCall_eq hw]
      simp only [WW, partV, eqCells, eqLf, minV, maxV, ifcV, zaa, zab, zac, zad, zae, zaf, zag, zah, zai, ofConst, ofConst1, List.replicate, zaj, zak, loadOp, Go.Abs.loadCells, binV, zal, pickV, zam, zan, zao, zap, zaq, zar, zas, zat, zau, outR, resAll, resOne, zav, zaw, zax, zay, zaz, zba, zbb, zbc, zbd, zbe, zbf, zbg, zbh, zbi, zbj, zbk, storeOp, storeCell, overlay, zbl, zbm, zbn, lookupOp, keyT, okRes, mapUpdateOp, zbo, zbp, zbq, zbr, zbs, zbt, zbu, Nat.reduceSub, Nat.reduceAdd, Int.reduceLT, Int.reduceLE, Int.reduceAdd, Int.reduceSub, Int.reduceToNat, Int.reduceBEq, Int.reduceBNe, Int.reduceMul, Nat.reduceBEq, Nat.reduceBNe, Nat.reduceLT, Nat.reduceLeDiff, Nat.reduceMul, Nat.reduceEqDiff, WD, effB, effH, isPriv, isHeap, isImm, zbx, zby, zbz, chkO, setD, dslot, zca, zcb, zcc, zcd, ptrCells_some, F13, g1']
      exact ⟨wa, L⟩
    have g1' : decide (u < -1) = false := decide_eq_false g1
    rw [if_neg g1]
    by_cases g2 : hasB ms m t = 0
    case neg =>
      have g2' : (hasB ms m t != 0) = true := by simpa using g2
      rw [if_neg g2]
      refine runs f13 b13 r13 n13 _ _ ?_
      simp only [bodyOf, Try.f13, Option.getD_some]
      simp only [WW, partV, eqCells, eqLf, minV, maxV, ifcV, zaa, zab, zac, zad, zae, zaf, zag, zah, zai, ofConst, ofConst1, List.replicate, zaj, zak, loadOp, Go.Abs.loadCells, binV, zal, pickV, zam, zan, zao, zap, zaq, zar, zas, zat, zau, outR, resAll, resOne, zav, zaw, zax, zay, zaz, zba, zbb, zbc, zbd, zbe, zbf, zbg, zbh, zbi, zbj, zbk, storeOp, storeCell, overlay, zbl, zbm, zbn, lookupOp, keyT, okRes, mapUpdateOp, zbo, zbp, zbq, zbr, zbs, zbt, zbu, Nat.reduceSub, Nat.reduceAdd, Int.reduceLT, Int.reduceLE, Int.reduceAdd, Int.reduceSub, Int.reduceToNat, Int.reduceBEq, Int.reduceBNe, Int.reduceMul, Nat.reduceBEq, Nat.reduceBNe, Nat.reduceLT, Nat.reduceLeDiff, Nat.reduceMul, Nat.reduceEqDiff, WD, effB, effH, isPriv, isHeap, isImm, zbx, zby, zbz, chkO, setD, dslot, zca, zcb, zcc, zcd, ptrCells_some, F13]
      rw [wpCall_eq hw]
      simp only [WW, partV, eqCells, eqLf, minV, maxV, ifcV, zaa, zab, zac, zad, zae, zaf, zag, zah, zai, ofConst, ofConst1, List.replicate, zaj, zak, loadOp, Go.Abs.loadCells, binV, zal, pickV, zam, zan, zao, zap, zaq, zar, zas, zat, zau, outR, resAll, resOne, zav, zaw, zax, zay, zaz, zba, zbb, zbc, zbd, zbe, zbf, zbg, zbh, zbi, zbj, zbk, storeOp, storeCell, overlay, zbl, zbm, zbn, lookupOp, keyT, okRes, mapUpdateOp, zbo, zbp, zbq, zbr, zbs, zbt, zbu, Nat.reduceSub, Nat.reduceAdd, Int.reduceLT, Int.reduceLE, Int.reduceAdd, Int.reduceSub, Int.reduceToNat, Int.reduceBEq, Int.reduceBNe, Int.reduceMul, Nat.reduceBEq, Nat.reduceBNe, Nat.reduceLT, Nat.reduceLeDiff, Nat.reduceMul, Nat.reduceEqDiff, WD, effB, effH, isPriv, isHeap, isImm, zbx, zby, zbz, chkO, setD, dslot, zca, zcb, zcc, zcd, ptrCells_some, F13, g1']
      rw [wpCall_eq hh]
      simp only [WW, partV, eqCells, eqLf, minV, maxV, ifcV, zaa, zab, zac, zad, zae, zaf, zag, zah, zai, ofConst, ofConst1, List.replicate, zaj, zak, loadOp, Go.Abs.loadCells, binV, zal, pickV, zam, zan, zao, zap, zaq, zar, zas, zat, zau, outR, resAll, resOne, zav, zaw, zax, zay, zaz, zba, zbb, zbc, zbd, zbe, zbf, zbg, zbh, zbi, zbj, zbk, storeOp, storeCell, overlay, zbl, zbm, zbn, lookupOp, keyT, okRes, mapUpdateOp, zbo, zbp, zbq, zbr, zbs, zbt, zbu, Nat.reduceSub, Nat.reduceAdd, Int.reduceLT, Int.reduceLE, Int.reduceAdd, Int.reduceSub, Int.reduceToNat, Int.reduceBEq, Int.reduceBNe, Int.reduceMul, Nat.reduceBEq, Nat.reduceBNe, Nat.reduceLT, Nat.reduceLeDiff, Nat.reduceMul, Nat.reduceEqDiff, WD, effB, effH, isPriv, isHeap, isImm, zbx, zby, zbz, chkO, setD, dslot, zca, zcb, zcc, zcd, ptrCells_some, F13, g2']
      exact ⟨wa, L⟩
    rw [if_pos g2]
    rw [g2] at hh
    obtain ⟨k, rfl, x, hk, hn, ht, h1, h2⟩ := has_in g2
    have hk' : ms[((k : Nat) : Int).toNat]? = some x := hk
    rw [hk']
    have hx' : H[x.id]? = some (.cells [.agg [.int .i64 x.t, .int .i64 x.n]]) := L.mon x (List.mem_of_getElem? hk)
    have hat := L.al.rd.at_ (sz := 1) (i := k) (e := ptrV x) (by rw [List.getElem?_map, hk]; rfl) rfl
    have ha1 := hat.at1 L.al.rd
    obtain ⟨p1, p2, p3, p4, p5⟩ := L.lt
    obtain ⟨wa', H2, hap, hw2, hk2, hle2⟩ := app_sl (P := Try.prog) (sz := 6) (e := 71) (d := some 50) [slpV ⟨x.t, x.n, k, u, came, false⟩] (by kernel_rfl) L.ws (fun i hi => by
      rcases hi with rfl | hi | hi | hi
      · exact p1
      · exact p2 i hi
      · exact p3 i hi
      · exact p5 i hi) rfl (by simp) (by rw [room71]; simp; omega)
    have hw3 : SlW 6 H2 (NN p (ids ms) all wo) wa' ((ws ++ [(⟨x.t, x.n, k, u, came, false⟩ : Slp)]).map slpV) := by rw [List.map_append]; exact hw2
    have L2 := L.reW (came' := came) hw3 hk2
    have L3 := L.reW (came' := IntKind.i64.wrap (came + 1)) hw3 hk2
    have L4 := L3.put hk (y := ⟨x.id, -1, 0⟩) rfl
    have hp2 : H2[p]? = some (.cells [.agg [all, wa, wo, .int .i64 came]]) := by rw [hk2 p (.inl rfl)]; exact L.blk
    have hpl := (List.getElem?_eq_some_iff.1 hp2).1
    have hps : ∀ b : Blk, (H2.set p b)[p]? = some b := fun b => List.getElem?_set_self hpl
    have hb3 := L3.blk
    have hx3 : (H2.set p (.cells [.agg [all, wa', wo, .int .i64 (IntKind.i64.wrap (came + 1))]]))[x.id]? = some (.cells [.agg [.int .i64 x.t, .int .i64 x.n]]) := L3.mon x (List.mem_of_getElem? hk)
    have hat3 := L3.al.rd.at_ (sz := 1) (i := k) (e := ptrV x) (by rw [List.getElem?_map, hk]; rfl) rfl
    have ha3 := hat3.at1 L3.al.rd
    simp only [slpV] at hap
    refine runs f13 b13 r13 n13 _ _ ?_
    simp only [bodyOf, Try.f13, Option.getD_some]
    simp only [WW, partV, eqCells, eqLf, minV, maxV, ifcV, zaa, zab, zac, zad, zae, zaf, zag, zah, zai, ofConst, ofConst1, List.replicate, zaj, zak, loadOp, Go.Abs.loadCells, binV, zal, pickV, zam, zan, zao, zap, zaq, zar, zas, zat, zau, outR, resAll, resOne, zav, zaw, zax, zay, zaz, zba, zbb, zbc, zbd, zbe, zbf, zbg, zbh, zbi, zbj, zbk, storeOp, storeCell, overlay, zbl, zbm, zbn, lookupOp, keyT, okRes, mapUpdateOp, zbo, zbp, zbq, zbr, zbs, zbt, zbu, Nat.reduceSub, Nat.reduceAdd, Int.reduceLT, Int.reduceLE, Int.reduceAdd, Int.reduceSub, Int.reduceToNat, Int.reduceBEq, Int.reduceBNe, Int.reduceMul, Nat.reduceBEq, Nat.reduceBNe, Nat.reduceLT, Nat.reduceLeDiff, Nat.reduceMul, Nat.reduceEqDiff, WD, effB, effH, isPriv, isHeap, isImm, zbx, zby, zbz, chkO, setD, dslot, zca, zcb, zcc, zcd, ptrCells_some, F13]
    rw [wpCall_eq hw]
    simp only [WW, partV, eqCells, eqLf, minV, maxV, ifcV, zaa, zab, zac, zad, zae, zaf, zag, zah, zai, ofConst, ofConst1, List.replicate, zaj, zak, loadOp, Go.Abs.loadCells, binV, zal, pickV, zam, zan, zao, zap, zaq, zar, zas, zat, zau, outR, resAll, resOne, zav, zaw, zax, zay, zaz, zba, zbb, zbc, zbd, zbe, zbf, zbg, zbh, zbi, zbj, zbk, storeOp, storeCell, overlay, zbl, zbm, zbn, lookupOp, keyT, okRes, mapUpdateOp, zbo, zbp, zbq, zbr, zbs, zbt, zbu, Nat.reduceSub, Nat.reduceAdd, Int.reduceLT, Int.reduceLE, Int.reduceAdd, Int.reduceSub, Int.reduceToNat, Int.reduceBEq, Int.reduceBNe, Int.reduceMul, Nat.reduceBEq, Nat.reduceBNe, Nat.reduceLT, Nat.reduceLeDiff, Nat.reduceMul, Nat.reduceEqDiff, WD, effB, effH, isPriv, isHeap, isImm, zbx, zby, zbz, chkO, setD, dslot, zca, zcb, zcc, zcd, ptrCells_some, F13, g1']
    rw [wpCall_eq hh]
    simp only [WW, partV, eqCells, eqLf, minV, maxV, ifcV, zaa, zab, zac, zad, zae, zaf, zag, zah, zai, ofConst, ofConst1, List.replicate, zaj, zak, loadOp, Go.Abs.loadCells, binV, zal, pickV, zam, zan, zao, zap, zaq, zar, zas, zat, zau, outR, resAll, resOne, zav, zaw, zax, zay, zaz, zba, zbb, zbc, zbd, zbe, zbf, zbg, zbh, zbi, zbj, zbk, storeOp, storeCell, overlay, zbl, zbm, zbn, lookupOp, keyT, okRes, mapUpdateOp, zbo, zbp, zbq, zbr, zbs, zbt, zbu, Nat.reduceSub, Nat.reduceAdd, Int.reduceLT, Int.reduceLE, Int.reduceAdd, Int.reduceSub, Int.reduceToNat, Int.reduceBEq, Int.reduceBNe, Int.reduceMul, Nat.reduceBEq, Nat.reduceBNe, Nat.reduceLT, Nat.reduceLeDiff, Nat.reduceMul, Nat.reduceEqDiff, WD, effB, effH, isPriv, isHeap, isImm, zbx, zby, zbz, chkO, setD, dslot, zca, zcb, zcc, zcd, ptrCells_some, F13]
    refine wC_dr alts13_9 (by kernel_rfl) ?_
    simp only [WW, partV, eqCells, eqLf, minV, maxV, ifcV, zaa, zab, zac, zad, zae, zaf, zag, zah, zai, ofConst, ofConst1, List.replicate, zaj, zak, loadOp, Go.Abs.loadCells, binV, zal, pickV, zam, zan, zao, zap, zaq, zar, zas, zat, zau, outR, resAll, resOne, zav, zaw, zax, zay, zaz, zba, zbb, zbc, zbd, zbe, zbf, zbg, zbh, zbi, zbj, zbk, storeOp, storeCell, overlay, zbl, zbm, zbn, lookupOp, keyT, okRes, mapUpdateOp, zbo, zbp, zbq, zbr, zbs, zbt, zbu, Nat.reduceSub, Nat.reduceAdd, Int.reduceLT, Int.reduceLE, Int.reduceAdd, Int.reduceSub, Int.reduceToNat, Int.reduceBEq, Int.reduceBNe, Int.reduceMul, Nat.reduceBEq, Nat.reduceBNe, Nat.reduceLT, Nat.reduceLeDiff, Nat.reduceMul, Nat.reduceEqDiff, WD, effB, effH, isPriv, isHeap, isImm, zbx, zby, zbz, chkO, setD, dslot, zca, zcb, zcc, zcd, ptrCells_some, F13, alts13_9, hb, L.ws.shut, L.wk.shut, L.al.shut, ha1, hat.cells, ptrV, hx', buildOp, fillV, Lay.place, Bool.or_self, Bool.or_false, Bool.false_or, decide_not, ne_eq, not_true_eq_false, decide_eq_true_eq, Nat.lt_irrefl, buildSliceV, lits, srcV_eq, srcK_sl, srcK_str, srcSl_nils, srcSl_rsl, srcSl_sl, frow, zbv, zbw, List.all_nil, List.all_cons, rowV, Bool.false_and, Bool.and_false, not_false_eq_true, grows_lr, callOut_t, hap, hp2, hps, hw3.shut, hw3.prom, prom_int, prom_agg, hw3.cells1, hw3.width1, hw3.ok, storeHeap, heapSet, elemSet]
    simp only [WW, partV, eqCells, eqLf, minV, maxV, ifcV, zaa, zab, zac, zad, zae, zaf, zag, zah, zai, ofConst, ofConst1, List.replicate, zaj, zak, loadOp, Go.Abs.loadCells, binV, zal, pickV, zam, zan, zao, zap, zaq, zar, zas, zat, zau, outR, resAll, resOne, zav, zaw, zax, zay, zaz, zba, zbb, zbc, zbd, zbe, zbf, zbg, zbh, zbi, zbj, zbk, storeOp, storeCell, overlay, zbl, zbm, zbn, lookupOp, keyT, okRes, mapUpdateOp, zbo, zbp, zbq, zbr, zbs, zbt, zbu, Nat.reduceSub, Nat.reduceAdd, Int.reduceLT, Int.reduceLE, Int.reduceAdd, Int.reduceSub, Int.reduceToNat, Int.reduceBEq, Int.reduceBNe, Int.reduceMul, Nat.reduceBEq, Nat.reduceBNe, Nat.reduceLT, Nat.reduceLeDiff, Nat.reduceMul, Nat.reduceEqDiff, WD, effB, effH, isPriv, isHeap, isImm, zbx, zby, zbz, chkO, setD, dslot, zca, zcb, zcc, zcd, ptrCells_some, F13, hps, L.al.shut, hw3.shut, L.wk.shut, storeHeap, prom_int, prom_agg, heapSet, elemSet, List.set_set, ha3, hat3.cells, ptrV, hx3, hb3, buildOp, fillV, Lay.place, Bool.or_self, Bool.or_false, Bool.false_or, decide_not, ne_eq, not_true_eq_false, decide_eq_true_eq, Nat.lt_irrefl]
    exact ⟨wa', L4⟩
end Go.Proofs.Ythicacphcljdmaa

/- A row parted: those that are such, and the others. -/
namespace Go.Proofs.Ythicacphcljdmaa
open Go Go.Abs Go.Proofs
set_option maxRecDepth 100000
set_option maxHeartbeats 8000000
set_option linter.unusedVariables false
set_option linter.unusedSimpArgs false
def ysel (sel : Nat → Slp → Bool) (l : List Slp) : Nat → List Slp
  | 0 => []
  | i + 1 => ysel sel l i ++ (match l[i]? with | some s => if sel i s then [s] else [] | none => [])
def nsel (sel : Nat → Slp → Bool) (l : List Slp) : Nat → List Slp
  | 0 => []
  | i + 1 => nsel sel l i ++ (match l[i]? with | some s => if sel i s then [] else [s] | none => [])
theorem ysel_len (sel : Nat → Slp → Bool) (l : List Slp) : ∀ i, (ysel sel l i).length ≤ i
  | 0 => Nat.le_refl _
  | i + 1 => by
    have := ysel_len sel l i
    rw [ysel, List.length_append]
    split
    · split <;> simp <;> omega
    · simp; omega
theorem nsel_len (sel : Nat → Slp → Bool) (l : List Slp) : ∀ i, (nsel sel l i).length ≤ i
  | 0 => Nat.le_refl _
  | i + 1 => by
    have := nsel_len sel l i
    rw [nsel, List.length_append]
    split
    · split <;> simp <;> omega
    · simp; omega
theorem sx_lt {H : Hp} {x : V} {l : List V} (h : Sx H x l) {i : Nat} (hi : bx x = some i) : i < H.length := by
  cases h with
  | nils => cases hi
  | rsl l => cases hi
  | sl id lo len es h1 h2 => cases hi; exact (List.getElem?_eq_some_iff.1 h1).1
theorem sx_kept {H H' : Hp} {x : V} {l : List V} (h : Sx H x l) (hk : ∀ i, bx x = some i → H'[i]? = H[i]?) : Sx H' x l := by
  cases h with
  | nils => exact .nils
  | rsl l => exact .rsl l
  | sl id lo len es h1 h2 => exact .sl id lo len es (by rw [hk id rfl]; exact h1) h2
theorem parted_spec {H : Hp} {x : V} {l : List Slp} {b : Nat} {K : Nat → Blk} {sel : Nat → Slp → Bool} {caps : List V} {fid : FuncId} (hx : Sx H x (slps l)) (hb : H[b]? = some (K 0)) (hbx : bx x ≠ some b) (hl : l.length < 4294967296) (hcl : callable Try.prog fid = true)
    (hcall : ∀ i s Hc, l[i]? = some s → (∀ j, j < H.length → j ≠ b → Hc[j]? = H[j]?) → Hc[b]? = some (K i) → EW fid ([slpV s] ++ caps) Hc = some (.ret (.bool (sel i s)) false, Hc.set b (K (i + 1)))) :
    wpCall EW 27 [x, .fn fid [] caps] H (fun out H' => ∃ y n, out = .ret (.tup [y, n]) false ∧ SlW 6 H' (fun i => i < H.length ∨ bx n = some i) y (slps (ysel sel l l.length)) ∧ SlW 6 H' (fun i => i < H.length ∨ bx y = some i) n (slps (nsel sel l l.length)) ∧ H'[b]? = some (K l.length) ∧ (∀ j, j < H.length → j ≠ b → H'[j]? = H[j]?) ∧ H.length ≤ H'.length) := by
  have hxr := hx.rd
  have hbl := (List.getElem?_eq_some_iff.1 hb).1
  have hcf : ∀ n, clipV n (.fn fid [] caps) = .fn fid [] caps := fun n => rfl
  refine runs f27 b27 r27 n27 _ _ ?_
  simp only [bodyOf, Try.f27, Option.getD_some]
  simp only [WW, partV, eqCells, eqLf, minV, maxV, ifcV, zaa, zab, zac, zad, zae, zaf, zag, zah, zai, ofConst, ofConst1, List.replicate, zaj, zak, loadOp, Go.Abs.loadCells, binV, zal, pickV, zam, zan, zao, zap, zaq, zar, zas, zat, zau, outR, resAll, resOne, zav, zaw, zax, zay, zaz, zba, zbb, zbc, zbd, zbe, zbf, zbg, zbh, zbi, zbj, zbk, storeOp, storeCell, overlay, zbl, zbm, zbn, lookupOp, keyT, okRes, mapUpdateOp, zbo, zbp, zbq, zbr, zbs, zbt, zbu, Nat.reduceSub, Nat.reduceAdd, Int.reduceLT, Int.reduceLE, Int.reduceAdd, Int.reduceSub, Int.reduceToNat, Int.reduceBEq, Int.reduceBNe, Int.reduceMul, Nat.reduceBEq, Nat.reduceBNe, Nat.reduceLT, Nat.reduceLeDiff, Nat.reduceMul, Nat.reduceEqDiff, WD, effB, effH, isPriv, isHeap, isImm, zbx, zby, zbz, chkO, setD, dslot, zca, zcb, zcc, zcd, ptrCells_some, F27, hxr.shutIn, hxr.len, slps_len]
  refine wC_loop _ (fun n st H' => ∃ (i : Nat) (y z : V), st = ⟨L27_2 (.v (.fn fid [] caps)) (.v y) (.v z) (.v x) (.v (.int .i64 l.length)) (.v (.int .i64 i)), [], []⟩ ∧ SlW 6 H' (fun i => i < H.length ∨ bx z = some i) y (slps (ysel sel l i)) ∧ SlW 6 H' (fun i => i < H.length ∨ bx y = some i) z (slps (nsel sel l i)) ∧ H'[b]? = some (K i) ∧ (∀ j, j < H.length → j ≠ b → H'[j]? = H[j]?) ∧ H.length ≤ H'.length ∧ i ≤ l.length ∧ n = l.length - i) l.length ⟨0, .nils, .nils, ?_, .inl ⟨rfl, rfl⟩, .inl ⟨rfl, rfl⟩, hb, fun _ _ _ => rfl, Nat.le_refl _, by omega, by omega⟩ ?_
  · simp only [WN, firstReg, growAll, zbv, zbw, norm, killS, zag, zah, zaa, zab, zbl, zat, zad, growOne, zae, zaf, zac, zas, zak, Nat.reduceLT, Nat.reduceAdd, zbj, zav, F27, L27_2, hxr.clip2]
    try rfl
  · rintro n st H' ⟨i, y, z, rfl, hy, hz, hbi, hf, hge, hi, rfl⟩
    have hx' : Sx H' x (slps l) := sx_kept hx (fun j hj => hf j (sx_lt hx hj) (fun e => hbx (e ▸ hj)))
    have h1 := hx'.rd
    simp only [L27_2]
    by_cases hlt : i < l.length
    · have g1 : decide ((i : Int) < (l.length : Int)) = true := decide_eq_true (by omega)
      have hd : l[i]? = some l[i] := List.getElem?_eq_getElem hlt
      generalize l[i] = s at hd
      have hat := h1.at_ (sz := 6) (i := i) (e := slpV s) (by simp [slps, hd]) rfl
      have hc := hcall i s H' hd hf hbi
      simp only [List.cons_append, List.nil_append] at hc
      have hi1 : IntKind.i64.wrap ((i : Int) + 1) = ((i + 1 : Nat) : Int) := by rw [IntWalk.i64_in _ (by omega)]; omega
      have yl := ysel_len sel l i
      have nl := nsel_len sel l i
      have y1 : ysel sel l (i + 1) = ysel sel l i ++ (if sel i s then [s] else []) := by rw [ysel, hd]
      have n1 : nsel sel l (i + 1) = nsel sel l i ++ (if sel i s then [] else [s]) := by rw [nsel, hd]
      have hbl' : b < H'.length := by omega
      have hyN : SlW 6 (H'.set b (K (i + 1))) (fun i => i < H.length ∨ bx z = some i) y (slps (ysel sel l i)) := hy.set (.inl hbl) _
      have hzN : SlW 6 (H'.set b (K (i + 1))) (fun i => i < H.length ∨ bx y = some i) z (slps (nsel sel l i)) := hz.set (.inl hbl) _
      have hb2 : (H'.set b (K (i + 1)))[b]? = some (K (i + 1)) := List.getElem?_set_self hbl'
      have hf2 : ∀ j, j < H.length → j ≠ b → (H'.set b (K (i + 1)))[j]? = H[j]? := fun j hj hn => by rw [List.getElem?_set_ne (Ne.symm hn)]; exact hf j hj hn
      have hge2 : H.length ≤ (H'.set b (K (i + 1))).length := by simpa using hge
      simp only [slpV] at hc
      cases hs : sel i s with
      | true =>
        rw [hs] at hc
        rw [hs] at y1 n1
        simp only [if_true, List.append_nil] at y1 n1
        obtain ⟨y2, H2, ha, hy2, hk2, hle2⟩ := app_sl (P := Try.prog) (sz := 6) (e := 71) (d := some 20) [slpV s] (by kernel_rfl) hyN (fun j hj => by
          rcases hj with hj | hj
          · omega
          · exact (slw_lt hzN hj).1) rfl (by simp) (by rw [room71]; simp [slps_len]; omega)
        have hy3 : SlW 6 H2 (fun i => i < H.length ∨ bx z = some i) y2 (slps (ysel sel l (i + 1))) := by rw [y1]; simp only [slps, List.map_append] at hy2 ⊢; exact hy2
        have hz3 : SlW 6 H2 (fun i => i < H.length ∨ bx y2 = some i) z (slps (nsel sel l (i + 1))) := by
          rw [n1]
          refine slw_kept hzN (fun j hj => hk2 j (.inr hj)) (fun j hj => ?_)
          rintro (h | h)
          · exact (slw_lt hzN hj).2 (.inl h)
          · exact (slw_lt hy3 h).2 (.inr hj)
        simp only [slpV] at ha
        simp only [WW, partV, eqCells, eqLf, minV, maxV, ifcV, zaa, zab, zac, zad, zae, zaf, zag, zah, zai, ofConst, ofConst1, List.replicate, zaj, zak, loadOp, Go.Abs.loadCells, binV, zal, pickV, zam, zan, zao, zap, zaq, zar, zas, zat, zau, outR, resAll, resOne, zav, zaw, zax, zay, zaz, zba, zbb, zbc, zbd, zbe, zbf, zbg, zbh, zbi, zbj, zbk, storeOp, storeCell, overlay, zbl, zbm, zbn, lookupOp, keyT, okRes, mapUpdateOp, zbo, zbp, zbq, zbr, zbs, zbt, zbu, Nat.reduceSub, Nat.reduceAdd, Int.reduceLT, Int.reduceLE, Int.reduceAdd, Int.reduceSub, Int.reduceToNat, Int.reduceBEq, Int.reduceBNe, Int.reduceMul, Nat.reduceBEq, Nat.reduceBNe, Nat.reduceLT, Nat.reduceLeDiff, Nat.reduceMul, Nat.reduceEqDiff, WD, effB, effH, isPriv, isHeap, isImm, zbx, zby, zbz, chkO, setD, dslot, zca, zcb, zcc, zcd, ptrCells_some, F27, g1, h1.shutIn, hat.at1 h1, hat.cells, slpV, hcl]
        rw [wpCall_eq hc]
        simp only [WW, partV, eqCells, eqLf, minV, maxV, ifcV, zaa, zab, zac, zad, zae, zaf, zag, zah, zai, ofConst, ofConst1, List.replicate, zaj, zak, loadOp, Go.Abs.loadCells, binV, zal, pickV, zam, zan, zao, zap, zaq, zar, zas, zat, zau, outR, resAll, resOne, zav, zaw, zax, zay, zaz, zba, zbb, zbc, zbd, zbe, zbf, zbg, zbh, zbi, zbj, zbk, storeOp, storeCell, overlay, zbl, zbm, zbn, lookupOp, keyT, okRes, mapUpdateOp, zbo, zbp, zbq, zbr, zbs, zbt, zbu, Nat.reduceSub, Nat.reduceAdd, Int.reduceLT, Int.reduceLE, Int.reduceAdd, Int.reduceSub, Int.reduceToNat, Int.reduceBEq, Int.reduceBNe, Int.reduceMul, Nat.reduceBEq, Nat.reduceBNe, Nat.reduceLT, Nat.reduceLeDiff, Nat.reduceMul, Nat.reduceEqDiff, WD, effB, effH, isPriv, isHeap, isImm, zbx, zby, zbz, chkO, setD, dslot, zca, zcb, zcc, zcd, ptrCells_some, F27, hi1, buildSliceV, lits, srcV_eq, srcK_sl, srcK_str, srcSl_nils, srcSl_rsl, srcSl_sl, frow, zbv, zbw, List.all_nil, List.all_cons, rowV, Bool.false_and, Bool.and_false, ne_eq, not_false_eq_true, grows_lr, callOut_t, hy.shut, ha, hy3.shut]
        refine ⟨l.length - (i + 1), by omega, i + 1, y2, z, ?_, hy3, hz3, by rw [hk2 b (.inl hbl)]; exact hb2, fun j hj hn => by rw [hk2 j (.inl hj)]; exact hf2 j hj hn, by omega, by omega, rfl⟩
        simp only [WN, firstReg, growAll, zbv, zbw, norm, killS, zag, zah, zaa, zab, zbl, zat, zad, growOne, zae, zaf, zac, zas, zak, Nat.reduceLT, Nat.reduceAdd, zbj, zav, F27, L27_2, hxr.clip2, hy3.rd.clip2, hz3.rd.clip2]
        try rfl
      | false =>
        rw [hs] at hc
        rw [hs] at y1 n1
        simp only [Bool.false_eq_true, if_false, List.append_nil] at y1 n1
        obtain ⟨z2, H2, ha, hz2, hk2, hle2⟩ := app_sl (P := Try.prog) (sz := 6) (e := 71) (d := some 24) [slpV s] (by kernel_rfl) hzN (fun j hj => by
          rcases hj with hj | hj
          · omega
          · exact (slw_lt hyN hj).1) rfl (by simp) (by rw [room71]; simp [slps_len]; omega)
        have hz3 : SlW 6 H2 (fun i => i < H.length ∨ bx y = some i) z2 (slps (nsel sel l (i + 1))) := by rw [n1]; simp only [slps, List.map_append] at hz2 ⊢; exact hz2
        have hy3 : SlW 6 H2 (fun i => i < H.length ∨ bx z2 = some i) y (slps (ysel sel l (i + 1))) := by
          rw [y1]
          refine slw_kept hyN (fun j hj => hk2 j (.inr hj)) (fun j hj => ?_)
          rintro (h | h)
          · exact (slw_lt hyN hj).2 (.inl h)
          · exact (slw_lt hz3 h).2 (.inr hj)
        simp only [slpV] at ha
        simp only [WW, partV, eqCells, eqLf, minV, maxV, ifcV, zaa, zab, zac, zad, zae, zaf, zag, zah, zai, ofConst, ofConst1, List.replicate, zaj, zak, loadOp, Go.Abs.loadCells, binV, zal, pickV, zam, zan, zao, zap, zaq, zar, zas, zat, zau, outR, resAll, resOne, zav, zaw, zax, zay, zaz, zba, zbb, zbc, zbd, zbe, zbf, zbg, zbh, zbi, zbj, zbk, storeOp, storeCell, overlay, zbl, zbm, zbn, lookupOp, keyT, okRes, mapUpdateOp, zbo, zbp, zbq, zbr, zbs, zbt, zbu, Nat.reduceSub, Nat.reduceAdd, Int.reduceLT, Int.reduceLE, Int.reduceAdd, Int.reduceSub, Int.reduceToNat, Int.reduceBEq, Int.reduceBNe, Int.reduceMul, Nat.reduceBEq, Nat.reduceBNe, Nat.reduceLT, Nat.reduceLeDiff, Nat.reduceMul, Nat.reduceEqDiff, WD, effB, effH, isPriv, isHeap, isImm, zbx, zby, zbz, chkO, setD, dslot, zca, zcb, zcc, zcd, ptrCells_some, F27, g1, h1.shutIn, hat.at1 h1, hat.cells, slpV, hcl]
        rw [wpCall_eq hc]
        simp only [WW, partV, eqCells, eqLf, minV, maxV, ifcV, zaa, zab, zac, zad, zae, zaf, zag, zah, zai, ofConst, ofConst1, List.replicate, zaj, zak, loadOp, Go.Abs.loadCells, binV, zal, pickV, zam, zan, zao, zap, zaq, zar, zas, zat, zau, outR, resAll, resOne, zav, zaw, zax, zay, zaz, zba, zbb, zbc, zbd, zbe, zbf, zbg, zbh, zbi, zbj, zbk, storeOp, storeCell, overlay, zbl, zbm, zbn, lookupOp, keyT, okRes, mapUpdateOp, zbo, zbp, zbq, zbr, zbs, zbt, zbu, Nat.reduceSub, Nat.reduceAdd, Int.reduceLT, Int.reduceLE, Int.reduceAdd, Int.reduceSub, Int.reduceToNat, Int.reduceBEq, Int.reduceBNe, Int.reduceMul, Nat.reduceBEq, Nat.reduceBNe, Nat.reduceLT, Nat.reduceLeDiff, Nat.reduceMul, Nat.reduceEqDiff, WD, effB, effH, isPriv, isHeap, isImm, zbx, zby, zbz, chkO, setD, dslot, zca, zcb, zcc, zcd, ptrCells_some, F27, hi1, buildSliceV, lits, srcV_eq, srcK_sl, srcK_str, srcSl_nils, srcSl_rsl, srcSl_sl, frow, zbv, zbw, List.all_nil, List.all_cons, rowV, Bool.false_and, Bool.and_false, ne_eq, not_false_eq_true, grows_lr, callOut_t, hz.shut, ha, hz3.shut]
        refine ⟨l.length - (i + 1), by omega, i + 1, y, z2, ?_, hy3, hz3, by rw [hk2 b (.inl hbl)]; exact hb2, fun j hj hn => by rw [hk2 j (.inl hj)]; exact hf2 j hj hn, by omega, by omega, rfl⟩
        simp only [WN, firstReg, growAll, zbv, zbw, norm, killS, zag, zah, zaa, zab, zbl, zat, zad, growOne, zae, zaf, zac, zas, zak, Nat.reduceLT, Nat.reduceAdd, zbj, zav, F27, L27_2, hxr.clip2, hy3.rd.clip2, hz3.rd.clip2]
        try rfl
    · have g1 : decide ((i : Int) < (l.length : Int)) = false := decide_eq_false (by omega)
      have hie : i = l.length := by omega
      subst hie
      simp only [WW, partV, eqCells, eqLf, minV, maxV, ifcV, zaa, zab, zac, zad, zae, zaf, zag, zah, zai, ofConst, ofConst1, List.replicate, zaj, zak, loadOp, Go.Abs.loadCells, binV, zal, pickV, zam, zan, zao, zap, zaq, zar, zas, zat, zau, outR, resAll, resOne, zav, zaw, zax, zay, zaz, zba, zbb, zbc, zbd, zbe, zbf, zbg, zbh, zbi, zbj, zbk, storeOp, storeCell, overlay, zbl, zbm, zbn, lookupOp, keyT, okRes, mapUpdateOp, zbo, zbp, zbq, zbr, zbs, zbt, zbu, Nat.reduceSub, Nat.reduceAdd, Int.reduceLT, Int.reduceLE, Int.reduceAdd, Int.reduceSub, Int.reduceToNat, Int.reduceBEq, Int.reduceBNe, Int.reduceMul, Nat.reduceBEq, Nat.reduceBNe, Nat.reduceLT, Nat.reduceLeDiff, Nat.reduceMul, Nat.reduceEqDiff, WD, effB, effH, isPriv, isHeap, isImm, zbx, zby, zbz, chkO, setD, dslot, zca, zcb, zcc, zcd, ptrCells_some, F27, g1, hy.shut, hz.shut]
      exact ⟨y, z, rfl, hy, hz, hbi, hf, hge⟩
end Go.Proofs.Ythicacphcljdmaa

/- Those that are woken. -/
namespace Go.Proofs.Ythicacphcljdmaa
open Go Go.Abs Go.Proofs
set_option maxRecDepth 100000
set_option maxHeartbeats 8000000
set_option linter.unusedVariables false
set_option linter.unusedSimpArgs false
theorem told_eq {Hc : Hp} {bm bn ba : Nat} {m c : Int} {all : Bool} (h1 : Hc[bm]? = some (.cells [.int .i64 m])) (h2 : Hc[bn]? = some (.cells [.int .i64 c])) (h3 : Hc[ba]? = some (.cells [.bool all])) (s : Slp) :
    EW 28 [slpV s, .ptr bm 0 0, .ptr bn 0 0, .ptr ba 0 0] Hc = some (.ret (.bool ((s.m == m) && !(decide (0 < c) && !all))) false, if ((s.m == m) && !(decide (0 < c) && !all)) = true then Hc.set bn (.cells [.int .i64 (IntKind.i64.wrap (c + 1))]) else Hc) := by
  refine eqOf2 (runs f28 b28 r28 n28 _ _ ?_)
  simp only [slpV]
  simp only [bodyOf, Try.f28, Option.getD_some]
  have e : (s.m != m) = !(s.m == m) := rfl
  cases g1 : (s.m == m) with
  | false =>
    simp only [WW, partV, eqCells, eqLf, minV, maxV, ifcV, zaa, zab, zac, zad, zae, zaf, zag, zah, zai, ofConst, ofConst1, List.replicate, zaj, zak, loadOp, Go.Abs.loadCells, binV, zal, pickV, zam, zan, zao, zap, zaq, zar, zas, zat, zau, outR, resAll, resOne, zav, zaw, zax, zay, zaz, zba, zbb, zbc, zbd, zbe, zbf, zbg, zbh, zbi, zbj, zbk, storeOp, storeCell, overlay, zbl, zbm, zbn, lookupOp, keyT, okRes, mapUpdateOp, zbo, zbp, zbq, zbr, zbs, zbt, zbu, Nat.reduceSub, Nat.reduceAdd, Int.reduceLT, Int.reduceLE, Int.reduceAdd, Int.reduceSub, Int.reduceToNat, Int.reduceBEq, Int.reduceBNe, Int.reduceMul, Nat.reduceBEq, Nat.reduceBNe, Nat.reduceLT, Nat.reduceLeDiff, Nat.reduceMul, Nat.reduceEqDiff, WD, effB, effH, isPriv, isHeap, isImm, zbx, zby, zbz, chkO, setD, dslot, zca, zcb, zcc, zcd, ptrCells_some, F28, h1, h2, h3, e, g1]
    try simp
  | true =>
    cases g2 : decide (0 < c) with
    | false =>
      simp only [WW, partV, eqCells, eqLf, minV, maxV, ifcV, zaa, zab, zac, zad, zae, zaf, zag, zah, zai, ofConst, ofConst1, List.replicate, zaj, zak, loadOp, Go.Abs.loadCells, binV, zal, pickV, zam, zan, zao, zap, zaq, zar, zas, zat, zau, outR, resAll, resOne, zav, zaw, zax, zay, zaz, zba, zbb, zbc, zbd, zbe, zbf, zbg, zbh, zbi, zbj, zbk, storeOp, storeCell, overlay, zbl, zbm, zbn, lookupOp, keyT, okRes, mapUpdateOp, zbo, zbp, zbq, zbr, zbs, zbt, zbu, Nat.reduceSub, Nat.reduceAdd, Int.reduceLT, Int.reduceLE, Int.reduceAdd, Int.reduceSub, Int.reduceToNat, Int.reduceBEq, Int.reduceBNe, Int.reduceMul, Nat.reduceBEq, Nat.reduceBNe, Nat.reduceLT, Nat.reduceLeDiff, Nat.reduceMul, Nat.reduceEqDiff, WD, effB, effH, isPriv, isHeap, isImm, zbx, zby, zbz, chkO, setD, dslot, zca, zcb, zcc, zcd, ptrCells_some, F28, h1, h2, h3, e, g1, g2, storeHeap, promote, heapSet, elemSet]
      try simp
    | true =>
      cases all with
      | false =>
        simp only [WW, partV, eqCells, eqLf, minV, maxV, ifcV, zaa, zab, zac, zad, zae, zaf, zag, zah, zai, ofConst, ofConst1, List.replicate, zaj, zak, loadOp, Go.Abs.loadCells, binV, zal, pickV, zam, zan, zao, zap, zaq, zar, zas, zat, zau, outR, resAll, resOne, zav, zaw, zax, zay, zaz, zba, zbb, zbc, zbd, zbe, zbf, zbg, zbh, zbi, zbj, zbk, storeOp, storeCell, overlay, zbl, zbm, zbn, lookupOp, keyT, okRes, mapUpdateOp, zbo, zbp, zbq, zbr, zbs, zbt, zbu, Nat.reduceSub, Nat.reduceAdd, Int.reduceLT, Int.reduceLE, Int.reduceAdd, Int.reduceSub, Int.reduceToNat, Int.reduceBEq, Int.reduceBNe, Int.reduceMul, Nat.reduceBEq, Nat.reduceBNe, Nat.reduceLT, Nat.reduceLeDiff, Nat.reduceMul, Nat.reduceEqDiff, WD, effB, effH, isPriv, isHeap, isImm, zbx, zby, zbz, chkO, setD, dslot, zca, zcb, zcc, zcd, ptrCells_some, F28, h1, h2, h3, e, g1, g2]
        try simp
      | true =>
        simp only [WW, partV, eqCells, eqLf, minV, maxV, ifcV, zaa, zab, zac, zad, zae, zaf, zag, zah, zai, ofConst, ofConst1, List.replicate, zaj, zak, loadOp, Go.Abs.loadCells, binV, zal, pickV, zam, zan, zao, zap, zaq, zar, zas, zat, zau, outR, resAll, resOne, zav, zaw, zax, zay, zaz, zba, zbb, zbc, zbd, zbe, zbf, zbg, zbh, zbi, zbj, zbk, storeOp, storeCell, overlay, zbl, zbm, zbn, lookupOp, keyT, okRes, mapUpdateOp, zbo, zbp, zbq, zbr, zbs, zbt, zbu, Nat.reduceSub, Nat.reduceAdd, Int.reduceLT, Int.reduceLE, Int.reduceAdd, Int.reduceSub, Int.reduceToNat, Int.reduceBEq, Int.reduceBNe, Int.reduceMul, Nat.reduceBEq, Nat.reduceBNe, Nat.reduceLT, Nat.reduceLeDiff, Nat.reduceMul, Nat.reduceEqDiff, WD, effB, effH, isPriv, isHeap, isImm, zbx, zby, zbz, chkO, setD, dslot, zca, zcb, zcc, zcd, ptrCells_some, F28, h1, h2, h3, e, g1, g2, storeHeap, promote, heapSet, elemSet]
        try simp
theorem due_eq {Hc : Hp} {b : Nat} {now : Int} (h1 : Hc[b]? = some (.cells [.int .i64 now])) (s : Slp) :
    EW 30 [slpV s, .ptr b 0 0] Hc = some (.ret (.bool (decide (0 ≤ s.u) && decide (s.u ≤ now))) false, Hc) := by
  refine eqOf2 (runs f30 b30 r30 n30 _ _ ?_)
  simp only [slpV]
  simp only [bodyOf, Try.f30, Option.getD_some]
  cases g1 : decide (0 ≤ s.u) with
  | false => simp only [WW, partV, eqCells, eqLf, minV, maxV, ifcV, zaa, zab, zac, zad, zae, zaf, zag, zah, zai, ofConst, ofConst1, List.replicate, zaj, zak, loadOp, Go.Abs.loadCells, binV, zal, pickV, zam, zan, zao, zap, zaq, zar, zas, zat, zau, outR, resAll, resOne, zav, zaw, zax, zay, zaz, zba, zbb, zbc, zbd, zbe, zbf, zbg, zbh, zbi, zbj, zbk, storeOp, storeCell, overlay, zbl, zbm, zbn, lookupOp, keyT, okRes, mapUpdateOp, zbo, zbp, zbq, zbr, zbs, zbt, zbu, Nat.reduceSub, Nat.reduceAdd, Int.reduceLT, Int.reduceLE, Int.reduceAdd, Int.reduceSub, Int.reduceToNat, Int.reduceBEq, Int.reduceBNe, Int.reduceMul, Nat.reduceBEq, Nat.reduceBNe, Nat.reduceLT, Nat.reduceLeDiff, Nat.reduceMul, Nat.reduceEqDiff, WD, effB, effH, isPriv, isHeap, isImm, zbx, zby, zbz, chkO, setD, dslot, zca, zcb, zcc, zcd, ptrCells_some, F30, h1, g1]
             try simp
  | true =>
    simp only [WW, partV, eqCells, eqLf, minV, maxV, ifcV, zaa, zab, zac, zad, zae, zaf, zag, zah, zai, ofConst, ofConst1, List.replicate, zaj, zak, loadOp, Go.Abs.loadCells, binV, zal, pickV, zam, zan, zao, zap, zaq, zar, zas, zat, zau, outR, resAll, resOne, zav, zaw, zax, zay, zaz, zba, zbb, zbc, zbd, zbe, zbf, zbg, zbh, zbi, zbj, zbk, storeOp, storeCell, overlay, zbl, zbm, zbn, lookupOp, keyT, okRes, mapUpdateOp, zbo, zbp, zbq, zbr, zbs, zbt, zbu, Nat.reduceSub, Nat.reduceAdd, Int.reduceLT, Int.reduceLE, Int.reduceAdd, Int.reduceSub, Int.reduceToNat, Int.reduceBEq, Int.reduceBNe, Int.reduceMul, Nat.reduceBEq, Nat.reduceBNe, Nat.reduceLT, Nat.reduceLeDiff, Nat.reduceMul, Nat.reduceEqDiff, WD, effB, effH, isPriv, isHeap, isImm, zbx, zby, zbz, chkO, setD, dslot, zca, zcb, zcc, zcd, ptrCells_some, F30, h1, g1]
    try simp
def tellS (told : Bool) (s : Slp) : Slp := { s with told := told }
theorem LK.keep {H H' : Hp} {p : Nat} {ms : List Mon} {ws wk : List Slp} {came : Int} {all wa wo : V} (L : LK H p ms ws wk came all wa wo) (hk : ∀ i, (NN p (ids ms) all wa i ∨ bx wo = some i) → H'[i]? = H[i]?) : LK H' p ms ws wk came all wa wo :=
  ⟨by rw [hk p (.inl (.inl rfl))]; exact L.blk, slw_kept L.al (fun i hi => hk i (.inl (.inr (.inr (.inl hi))))) (fun i hi => (slw_lt L.al hi).2), fun m hm => by rw [hk m.id (.inl (.inr (.inl (mem_ids hm))))]; exact L.mon m hm, slw_kept L.ws (fun i hi => hk i (.inl (.inr (.inr (.inr hi))))) (fun i hi => (slw_lt L.ws hi).2), slw_kept L.wk (fun i hi => hk i (.inr hi)) (fun i hi => (slw_lt L.wk hi).2), L.np, L.nd⟩
def timV (s : Slp) : V := .int .i64 s.t
theorem wake_spec {H : Hp} {p : Nat} {ms : List Mon} {ws wk l : List Slp} {came : Int} {all wa wo x : V} (L : LK H p ms ws wk came all wa wo) (hx : Sx H x (slps l)) (hxp : bx x ≠ some p) (hxo : ∀ i, bx x = some i → bx wo ≠ some i) (told : Bool) (hl : wk.length + l.length < 4294967296) :
    wpCall EW 29 [.ptr p 0 0, x, .bool told] H (fun out H' => ∃ out' wo', out = .ret out' false ∧ LK H' p ms ws (wk ++ l.map (tellS told)) came all wa wo' ∧ Sx H' out' (l.map timV)) := by
  have hxr := hx.rd
  refine runs f29 b29 r29 n29 _ _ ?_
  simp only [bodyOf, Try.f29, Option.getD_some]
  simp only [WW, partV, eqCells, eqLf, minV, maxV, ifcV, zaa, zab, zac, zad, zae, zaf, zag, zah, zai, ofConst, ofConst1, List.replicate, zaj, zak, loadOp, Go.Abs.loadCells, binV, zal, pickV, zam, zan, zao, zap, zaq, zar, zas, zat, zau, outR, resAll, resOne, zav, zaw, zax, zay, zaz, zba, zbb, zbc, zbd, zbe, zbf, zbg, zbh, zbi, zbj, zbk, storeOp, storeCell, overlay, zbl, zbm, zbn, lookupOp, keyT, okRes, mapUpdateOp, zbo, zbp, zbq, zbr, zbs, zbt, zbu, Nat.reduceSub, Nat.reduceAdd, Int.reduceLT, Int.reduceLE, Int.reduceAdd, Int.reduceSub, Int.reduceToNat, Int.reduceBEq, Int.reduceBNe, Int.reduceMul, Nat.reduceBEq, Nat.reduceBNe, Nat.reduceLT, Nat.reduceLeDiff, Nat.reduceMul, Nat.reduceEqDiff, WD, effB, effH, isPriv, isHeap, isImm, zbx, zby, zbz, chkO, setD, dslot, zca, zcb, zcc, zcd, ptrCells_some, F29, hxr.shutIn, hxr.len, slps_len]
  refine wC_loop _ (fun n st H' => ∃ (i : Nat) (o wo' : V), st = ⟨L29_3 (.v (.ptr p 0 0)) (.v (.bool told)) (.v o) (.v x) (.v (.int .i64 l.length)) (.v (.int .i64 i)), [], []⟩ ∧ LK H' p ms ws (wk ++ (l.take i).map (tellS told)) came all wa wo' ∧ SlW 1 H' (fun j => (NN p (ids ms) all wa j ∨ bx wo' = some j) ∨ bx x = some j) o ((l.take i).map timV) ∧ Sx H' x (slps l) ∧ (∀ j, bx x = some j → bx wo' ≠ some j) ∧ i ≤ l.length ∧ n = l.length - i) l.length ⟨0, .nils, wo, ?_, by simpa using L, .inl ⟨rfl, rfl⟩, hx, hxo, by omega, by omega⟩ ?_
  · simp only [WN, firstReg, growAll, zbv, zbw, norm, killS, zag, zah, zaa, zab, zbl, zat, zad, growOne, zae, zaf, zac, zas, zak, Nat.reduceLT, Nat.reduceAdd, zbj, zav, F29, L29_3, hxr.clip2]
    try rfl
  · rintro n st H' ⟨i, o, wo', rfl, L', ho, hx', hxo', hi, rfl⟩
    have h1 := hx'.rd
    simp only [L29_3]
    by_cases hlt : i < l.length
    · have g1 : decide ((i : Int) < (l.length : Int)) = true := decide_eq_true (by omega)
      have hd : l[i]? = some l[i] := List.getElem?_eq_getElem hlt
      generalize l[i] = s at hd
      have hat := h1.at_ (sz := 6) (i := i) (e := slpV s) (by simp [slps, hd]) rfl
      have hi1 : IntKind.i64.wrap ((i : Int) + 1) = ((i + 1 : Nat) : Int) := by rw [IntWalk.i64_in _ (by omega)]; omega
      have htk : l.take (i + 1) = l.take i ++ [s] := by rw [List.take_add_one, hd]; rfl
      have hb := L'.blk
      obtain ⟨p1, p2, p3, p4, p5⟩ := L'.lt
      have hwk : SlW 6 H' (fun j => NN p (ids ms) all wa j ∨ bx x = some j ∨ bx o = some j) wo' ((wk ++ (l.take i).map (tellS told)).map slpV) := slw_kept L'.wk (fun _ _ => rfl) (fun j hj => by
        rintro (h | h | h)
        · exact (slw_lt L'.wk hj).2 h
        · exact hxo' j h hj
        · exact (slw_lt ho h).2 (.inl (.inr hj)))
      obtain ⟨wo2, H2, ha, hw2, hk2, hle2⟩ := app_sl (P := Try.prog) (sz := 6) (e := 71) (d := some 25) [slpV (tellS told s)] (by kernel_rfl) hwk (fun j hj => by
        rcases hj with (rfl | hj | hj | hj) | hj | hj
        · exact p1
        · exact p2 j hj
        · exact p3 j hj
        · exact p4 j hj
        · exact sx_lt hx' hj
        · exact (slw_lt ho hj).1) rfl (by simp) (by rw [room71]; simp; omega)
      have hw3 : SlW 6 H2 (fun j => NN p (ids ms) all wa j ∨ bx x = some j ∨ bx o = some j) wo2 ((wk ++ (l.take (i + 1)).map (tellS told)).map slpV) := by
        rw [htk]; simp only [List.map_append, List.map_cons, List.map_nil, List.append_assoc] at hw2 ⊢; exact hw2
      have L2 := L'.reK (hw3.weaken fun j hj => .inl hj) (fun j hj => hk2 j (.inl hj))
      have hp2 : H2[p]? = some (.cells [.agg [all, wa, wo', .int .i64 came]]) := by rw [hk2 p (.inl (.inl rfl))]; exact L'.blk
      have hpl := (List.getElem?_eq_some_iff.1 hp2).1
      have hx2 : Sx (H2.set p (.cells [.agg [all, wa, wo2, .int .i64 came]])) x (slps l) := sx_kept hx' (fun j hj => by rw [List.getElem?_set_ne (by rintro rfl; exact hxp hj)]; exact hk2 j (.inr (.inl hj)))
      have ho2 : SlW 1 (H2.set p (.cells [.agg [all, wa, wo2, .int .i64 came]])) (fun j => (NN p (ids ms) all wa j ∨ bx wo2 = some j) ∨ bx x = some j) o ((l.take i).map timV) := slw_kept ho (fun j hj => by rw [List.getElem?_set_ne (by rintro rfl; exact (slw_lt ho hj).2 (.inl (.inl (.inl rfl))))]; exact hk2 j (.inr (.inr hj))) (fun j hj => by
        rintro ((h | h) | h)
        · exact (slw_lt ho hj).2 (.inl (.inl h))
        · exact (slw_lt hw3 h).2 (.inr (.inr hj))
        · exact (slw_lt ho hj).2 (.inr h))
      obtain ⟨q1, q2, q3, q4, q5⟩ := L2.lt
      obtain ⟨o2, H3, ha3, ho3, hk3, hle3⟩ := app_sl (P := Try.prog) (sz := 1) (e := 3) (d := some 33) [timV s] (by kernel_rfl) ho2 (fun j hj => by
        rcases hj with ((rfl | hj | hj | hj) | hj) | hj
        · exact q1
        · exact q2 j hj
        · exact q3 j hj
        · exact q4 j hj
        · exact q5 j hj
        · exact sx_lt hx2 hj) rfl (by simp) (by rw [room3]; simp; omega)
      have L3 := L2.keep (H' := H3) (fun j hj => hk3 j (.inl hj))
      have hx3 := sx_kept hx2 (fun j hj => hk3 j (.inr hj))
      have ho4 : SlW 1 H3 (fun j => (NN p (ids ms) all wa j ∨ bx wo2 = some j) ∨ bx x = some j) o2 ((l.take (i + 1)).map timV) := by rw [htk, List.map_append]; exact ho3
      simp only [slpV, tellS] at ha
      simp only [timV] at ha3
      simp only [WW, partV, eqCells, eqLf, minV, maxV, ifcV, zaa, zab, zac, zad, zae, zaf, zag, zah, zai, ofConst, ofConst1, List.replicate, zaj, zak, loadOp, Go.Abs.loadCells, binV, zal, pickV, zam, zan, zao, zap, zaq, zar, zas, zat, zau, outR, resAll, resOne, zav, zaw, zax, zay, zaz, zba, zbb, zbc, zbd, zbe, zbf, zbg, zbh, zbi, zbj, zbk, storeOp, storeCell, overlay, zbl, zbm, zbn, lookupOp, keyT, okRes, mapUpdateOp, zbo, zbp, zbq, zbr, zbs, zbt, zbu, Nat.reduceSub, Nat.reduceAdd, Int.reduceLT, Int.reduceLE, Int.reduceAdd, Int.reduceSub, Int.reduceToNat, Int.reduceBEq, Int.reduceBNe, Int.reduceMul, Nat.reduceBEq, Nat.reduceBNe, Nat.reduceLT, Nat.reduceLeDiff, Nat.reduceMul, Nat.reduceEqDiff, WD, effB, effH, isPriv, isHeap, isImm, zbx, zby, zbz, chkO, setD, dslot, zca, zcb, zcc, zcd, ptrCells_some, F29, g1, h1.shutIn, hat.at1 h1, hat.cells, slpV]
      refine wC_dr alts29_6 (by kernel_rfl) ?_
      simp only [WW, partV, eqCells, eqLf, minV, maxV, ifcV, zaa, zab, zac, zad, zae, zaf, zag, zah, zai, ofConst, ofConst1, List.replicate, zaj, zak, loadOp, Go.Abs.loadCells, binV, zal, pickV, zam, zan, zao, zap, zaq, zar, zas, zat, zau, outR, resAll, resOne, zav, zaw, zax, zay, zaz, zba, zbb, zbc, zbd, zbe, zbf, zbg, zbh, zbi, zbj, zbk, storeOp, storeCell, overlay, zbl, zbm, zbn, lookupOp, keyT, okRes, mapUpdateOp, zbo, zbp, zbq, zbr, zbs, zbt, zbu, Nat.reduceSub, Nat.reduceAdd, Int.reduceLT, Int.reduceLE, Int.reduceAdd, Int.reduceSub, Int.reduceToNat, Int.reduceBEq, Int.reduceBNe, Int.reduceMul, Nat.reduceBEq, Nat.reduceBNe, Nat.reduceLT, Nat.reduceLeDiff, Nat.reduceMul, Nat.reduceEqDiff, WD, effB, effH, isPriv, isHeap, isImm, zbx, zby, zbz, chkO, setD, dslot, zca, zcb, zcc, zcd, ptrCells_some, F29, alts29_6, hb, L'.wk.shut, buildSliceV, lits, srcV_eq, srcK_sl, srcK_str, srcSl_nils, srcSl_rsl, srcSl_sl, frow, zbv, zbw, List.all_nil, List.all_cons, rowV, Bool.false_and, Bool.and_false, ne_eq, not_false_eq_true, grows_lr, callOut_t, ha, hp2, hw3.shut, hw3.prom, hw3.cells1, hw3.width1, hw3.ok, storeHeap, heapSet, elemSet]
      simp only [WW, partV, eqCells, eqLf, minV, maxV, ifcV, zaa, zab, zac, zad, zae, zaf, zag, zah, zai, ofConst, ofConst1, List.replicate, zaj, zak, loadOp, Go.Abs.loadCells, binV, zal, pickV, zam, zan, zao, zap, zaq, zar, zas, zat, zau, outR, resAll, resOne, zav, zaw, zax, zay, zaz, zba, zbb, zbc, zbd, zbe, zbf, zbg, zbh, zbi, zbj, zbk, storeOp, storeCell, overlay, zbl, zbm, zbn, lookupOp, keyT, okRes, mapUpdateOp, zbo, zbp, zbq, zbr, zbs, zbt, zbu, Nat.reduceSub, Nat.reduceAdd, Int.reduceLT, Int.reduceLE, Int.reduceAdd, Int.reduceSub, Int.reduceToNat, Int.reduceBEq, Int.reduceBNe, Int.reduceMul, Nat.reduceBEq, Nat.reduceBNe, Nat.reduceLT, Nat.reduceLeDiff, Nat.reduceMul, Nat.reduceEqDiff, WD, effB, effH, isPriv, isHeap, isImm, zbx, zby, zbz, chkO, setD, dslot, zca, zcb, zcc, zcd, ptrCells_some, F29, buildSliceV, lits, srcV_eq, srcK_sl, srcK_str, srcSl_nils, srcSl_rsl, srcSl_sl, frow, zbv, zbw, List.all_nil, List.all_cons, rowV, Bool.false_and, Bool.and_false, ne_eq, not_false_eq_true, grows_lr, callOut_t, ho.shut, ha3, ho4.shut, hi1]
      refine ⟨l.length - (i + 1), by omega, i + 1, o2, wo2, ?_, L3, ho4, hx3, fun j hj h => (slw_lt hw3 h).2 (.inr (.inl hj)), by omega, rfl⟩
      simp only [WN, firstReg, growAll, zbv, zbw, norm, killS, zag, zah, zaa, zab, zbl, zat, zad, growOne, zae, zaf, zac, zas, zak, Nat.reduceLT, Nat.reduceAdd, zbj, zav, F29, L29_3, hxr.clip2, ho4.rd.clip2]
      try rfl
    · have g1 : decide ((i : Int) < (l.length : Int)) = false := decide_eq_false (by omega)
      have htk : l.take i = l := List.take_of_length_le (by omega)
      rw [htk] at L' ho
      simp only [WW, partV, eqCells, eqLf, minV, maxV, ifcV, zaa, zab, zac, zad, zae, zaf, zag, zah, zai, ofConst, ofConst1, List.replicate, zaj, zak, loadOp, Go.Abs.loadCells, binV, zal, pickV, zam, zan, zao, zap, zaq, zar, zas, zat, zau, outR, resAll, resOne, zav, zaw, zax, zay, zaz, zba, zbb, zbc, zbd, zbe, zbf, zbg, zbh, zbi, zbj, zbk, storeOp, storeCell, overlay, zbl, zbm, zbn, lookupOp, keyT, okRes, mapUpdateOp, zbo, zbp, zbq, zbr, zbs, zbt, zbu, Nat.reduceSub, Nat.reduceAdd, Int.reduceLT, Int.reduceLE, Int.reduceAdd, Int.reduceSub, Int.reduceToNat, Int.reduceBEq, Int.reduceBNe, Int.reduceMul, Nat.reduceBEq, Nat.reduceBNe, Nat.reduceLT, Nat.reduceLeDiff, Nat.reduceMul, Nat.reduceEqDiff, WD, effB, effH, isPriv, isHeap, isImm, zbx, zby, zbz, chkO, setD, dslot, zca, zcb, zcc, zcd, ptrCells_some, F29, g1, ho.shut, ho.rd.grows]
      exact ⟨o, wo', rfl, L', ho.sx⟩
end Go.Proofs.Ythicacphcljdmaa

/- Notify. -/
namespace Go.Proofs.Ythicacphcljdmaa
open Go Go.Abs Go.Proofs
set_option maxRecDepth 100000
set_option maxHeartbeats 8000000
set_option linter.unusedVariables false
set_option linter.unusedSimpArgs false
theorem set_same {H : Hp} {r : Nat} {b : Blk} (h : H[r]? = some b) : H.set r b = H := by
  obtain ⟨h1, h2⟩ := List.getElem?_eq_some_iff.1 h
  rw [← h2, List.set_getElem_self]
def cntN (m : Int) (all : Bool) (l : List Slp) : Nat → Nat
  | 0 => 0
  | i + 1 => cntN m all l i + (match l[i]? with | some s => if (s.m == m) && !(decide (0 < cntN m all l i) && !all) then 1 else 0 | none => 0)
def selN (m : Int) (all : Bool) (l : List Slp) (i : Nat) (s : Slp) : Bool := (s.m == m) && !(decide (0 < cntN m all l i) && !all)
theorem cntN_le (m : Int) (all : Bool) (l : List Slp) : ∀ i, cntN m all l i ≤ i
  | 0 => Nat.le_refl _
  | i + 1 => by
    have := cntN_le m all l i
    rw [cntN]
    split
    · split <;> omega
    · omega
theorem notify_spec {H : Hp} {p : Nat} {ms : List Mon} {ws wk : List Slp} {came : Int} {al wa wo : V} (L : LK H p ms ws wk came al wa wo) (m t : Int) (all : Bool) (hl : wk.length + ws.length < 4294967296) :
    wpCall EW 14 [.ptr p 0 0, .int .i64 m, .int .i64 t, .bool all] H (fun out H' => if hasB ms m t = 0 then ∃ out' wa' wo', out = .ret (.tup [out', .int .i64 0]) false ∧ LK H' p ms (nsel (selN m all ws) ws ws.length) (wk ++ (ysel (selN m all ws) ws ws.length).map (tellS true)) came al wa' wo' ∧ Sx H' out' ((ysel (selN m all ws) ws ws.length).map timV)
      else out = .ret (.tup [.nils, .int .i64 (hasB ms m t)]) false ∧ LK H' p ms ws wk came al wa wo) := by
  have L1 := L.app [.cells [.int .i64 m]]
  have L2 := L1.app [.cells [.bool all]]
  have L3 := L2.app [.cells [.int .i64 0]]
  obtain ⟨p1, p2, p3, p4, p5⟩ := L.lt
  have e1 : (H ++ [Blk.cells [V.int .i64 m]]).length = H.length + 1 := by simp
  have e2 : (H ++ [Blk.cells [V.int .i64 m]] ++ [Blk.cells [V.bool all]]).length = H.length + 2 := by simp
  have e3 : (H ++ [Blk.cells [V.int .i64 m]] ++ [Blk.cells [V.bool all]] ++ [Blk.cells [V.int .i64 0]]).length = H.length + 3 := by simp
  have hm2 : (H ++ [Blk.cells [V.int .i64 m]] ++ [Blk.cells [V.bool all]])[H.length]? = some (.cells [.int .i64 m]) := by simp
  have hm3 : (H ++ [Blk.cells [V.int .i64 m]] ++ [Blk.cells [V.bool all]] ++ [Blk.cells [V.int .i64 0]])[H.length]? = some (.cells [.int .i64 m]) := by simp
  have ha3 : (H ++ [Blk.cells [V.int .i64 m]] ++ [Blk.cells [V.bool all]] ++ [Blk.cells [V.int .i64 0]])[H.length + 1]? = some (.cells [.bool all]) := by simp
  have hn3 : (H ++ [Blk.cells [V.int .i64 m]] ++ [Blk.cells [V.bool all]] ++ [Blk.cells [V.int .i64 0]])[H.length + 2]? = some (.cells [.int .i64 0]) := by simp
  have hh : EW 26 [.ptr p 0 0, .int .i64 m, .int .i64 t] (H ++ [Blk.cells [V.int .i64 m]] ++ [Blk.cells [V.bool all]]) = some (.ret (.int .i64 (hasB ms m t)) false, H ++ [Blk.cells [V.int .i64 m]] ++ [Blk.cells [V.bool all]]) := has_eq L2.blk L2.al L2.mon m t
  by_cases g0 : hasB ms m t = 0
  case neg =>
    have g0' : (hasB ms m t != 0) = true := by simpa using g0
    simp only [if_neg g0]
    refine runs f14 b14 r14 n14 _ _ ?_
    simp only [bodyOf, Try.f14, Option.getD_some]
    simp only [WW, partV, eqCells, eqLf, minV, maxV, ifcV, zaa, zab, zac, zad, zae, zaf, zag, zah, zai, ofConst, ofConst1, List.replicate, zaj, zak, loadOp, Go.Abs.loadCells, binV, zal, pickV, zam, zan, zao, zap, zaq, zar, zas, zat, zau, outR, resAll, resOne, zav, zaw, zax, zay, zaz, zba, zbb, zbc, zbd, zbe, zbf, zbg, zbh, zbi, zbj, zbk, storeOp, storeCell, overlay, zbl, zbm, zbn, lookupOp, keyT, okRes, mapUpdateOp, zbo, zbp, zbq, zbr, zbs, zbt, zbu, Nat.reduceSub, Nat.reduceAdd, Int.reduceLT, Int.reduceLE, Int.reduceAdd, Int.reduceSub, Int.reduceToNat, Int.reduceBEq, Int.reduceBNe, Int.reduceMul, Nat.reduceBEq, Nat.reduceBNe, Nat.reduceLT, Nat.reduceLeDiff, Nat.reduceMul, Nat.reduceEqDiff, WD, effB, effH, isPriv, isHeap, isImm, zbx, zby, zbz, chkO, setD, dslot, zca, zcb, zcc, zcd, ptrCells_some, F14, hm2]
    rw [wpCall_eq hh]
    simp only [WW, partV, eqCells, eqLf, minV, maxV, ifcV, zaa, zab, zac, zad, zae, zaf, zag, zah, zai, ofConst, ofConst1, List.replicate, zaj, zak, loadOp, Go.Abs.loadCells, binV, zal, pickV, zam, zan, zao, zap, zaq, zar, zas, zat, zau, outR, resAll, resOne, zav, zaw, zax, zay, zaz, zba, zbb, zbc, zbd, zbe, zbf, zbg, zbh, zbi, zbj, zbk, storeOp, storeCell, overlay, zbl, zbm, zbn, lookupOp, keyT, okRes, mapUpdateOp, zbo, zbp, zbq, zbr, zbs, zbt, zbu, Nat.reduceSub, Nat.reduceAdd, Int.reduceLT, Int.reduceLE, Int.reduceAdd, Int.reduceSub, Int.reduceToNat, Int.reduceBEq, Int.reduceBNe, Int.reduceMul, Nat.reduceBEq, Nat.reduceBNe, Nat.reduceLT, Nat.reduceLeDiff, Nat.reduceMul, Nat.reduceEqDiff, WD, effB, effH, isPriv, isHeap, isImm, zbx, zby, zbz, chkO, setD, dslot, zca, zcb, zcc, zcd, ptrCells_some, F14, g0']
    exact L2
  simp only [if_pos g0]
  rw [g0] at hh
  have hb3 := L3.blk
  have hst : (H ++ [Blk.cells [V.int .i64 m]] ++ [Blk.cells [V.bool all]] ++ [Blk.cells [V.int .i64 0]]).set (H.length + 2) (.cells [.int .i64 0]) = H ++ [Blk.cells [V.int .i64 m]] ++ [Blk.cells [V.bool all]] ++ [Blk.cells [V.int .i64 0]] := set_same hn3
  have hpart := parted_spec (H := H ++ [Blk.cells [V.int .i64 m]] ++ [Blk.cells [V.bool all]] ++ [Blk.cells [V.int .i64 0]]) (x := wa) (l := ws) (b := H.length + 2) (K := fun i => .cells [.int .i64 (cntN m all ws i)]) (sel := selN m all ws) (caps := [.ptr H.length 0 0, .ptr (H.length + 2) 0 0, .ptr (H.length + 1) 0 0]) (fid := 28)
    L3.ws.sx hn3 (fun e => by have := p4 _ e; omega) (by omega) (by kernel_rfl) (fun i s Hc hd hf hb => by
      have c1 := told_eq (s := s) (m := m) (all := all) (bm := H.length) (bn := H.length + 2) (ba := H.length + 1) (by rw [hf _ (by omega) (by omega)]; exact hm3) hb (by rw [hf _ (by omega) (by omega)]; exact ha3)
      have hlt := (List.getElem?_eq_some_iff.1 hd).1
      have hcl := cntN_le m all ws i
      have hdc : decide ((0 : Int) < (cntN m all ws i : Int)) = decide (0 < cntN m all ws i) := by rw [Bool.eq_iff_iff]; simp
      have hwr : IntKind.i64.wrap ((cntN m all ws i : Int) + 1) = ((cntN m all ws i + 1 : Nat) : Int) := by rw [IntWalk.i64_in _ (by omega)]; omega
      rw [hdc, hwr] at c1
      have hsel : ((s.m == m) && !(decide (0 < cntN m all ws i) && !all)) = selN m all ws i s := rfl
      rw [hsel] at c1
      have hcn : cntN m all ws (i + 1) = cntN m all ws i + (if selN m all ws i s = true then 1 else 0) := by rw [cntN, hd]; rfl
      rw [hcn]
      cases hs : selN m all ws i s with
      | true => rw [hs] at c1; simpa using c1
      | false => rw [hs] at c1; simp only [Bool.false_eq_true, if_false, Nat.add_zero] at c1 ⊢; rw [set_same hb]; exact c1)
  have hcl := L3.ws.shut
  refine runs f14 b14 r14 n14 _ _ ?_
  simp only [bodyOf, Try.f14, Option.getD_some]
  simp only [WW, partV, eqCells, eqLf, minV, maxV, ifcV, zaa, zab, zac, zad, zae, zaf, zag, zah, zai, ofConst, ofConst1, List.replicate, zaj, zak, loadOp, Go.Abs.loadCells, binV, zal, pickV, zam, zan, zao, zap, zaq, zar, zas, zat, zau, outR, resAll, resOne, zav, zaw, zax, zay, zaz, zba, zbb, zbc, zbd, zbe, zbf, zbg, zbh, zbi, zbj, zbk, storeOp, storeCell, overlay, zbl, zbm, zbn, lookupOp, keyT, okRes, mapUpdateOp, zbo, zbp, zbq, zbr, zbs, zbt, zbu, Nat.reduceSub, Nat.reduceAdd, Int.reduceLT, Int.reduceLE, Int.reduceAdd, Int.reduceSub, Int.reduceToNat, Int.reduceBEq, Int.reduceBNe, Int.reduceMul, Nat.reduceBEq, Nat.reduceBNe, Nat.reduceLT, Nat.reduceLeDiff, Nat.reduceMul, Nat.reduceEqDiff, WD, effB, effH, isPriv, isHeap, isImm, zbx, zby, zbz, chkO, setD, dslot, zca, zcb, zcc, zcd, ptrCells_some, F14, hm2]
  rw [wpCall_eq hh]
  rw [e1] at *
  simp only [WW, partV, eqCells, eqLf, minV, maxV, ifcV, zaa, zab, zac, zad, zae, zaf, zag, zah, zai, ofConst, ofConst1, List.replicate, zaj, zak, loadOp, Go.Abs.loadCells, binV, zal, pickV, zam, zan, zao, zap, zaq, zar, zas, zat, zau, outR, resAll, resOne, zav, zaw, zax, zay, zaz, zba, zbb, zbc, zbd, zbe, zbf, zbg, zbh, zbi, zbj, zbk, storeOp, storeCell, overlay, zbl, zbm, zbn, lookupOp, keyT, okRes, mapUpdateOp, zbo, zbp, zbq, zbr, zbs, zbt, zbu, Nat.reduceSub, Nat.reduceAdd, Int.reduceLT, Int.reduceLE, Int.reduceAdd, Int.reduceSub, Int.reduceToNat, Int.reduceBEq, Int.reduceBNe, Int.reduceMul, Nat.reduceBEq, Nat.reduceBNe, Nat.reduceLT, Nat.reduceLeDiff, Nat.reduceMul, Nat.reduceEqDiff, WD, effB, effH, isPriv, isHeap, isImm, zbx, zby, zbz, chkO, setD, dslot, zca, zcb, zcc, zcd, ptrCells_some, F14, e1, e2, hn3, hst, hb3, hcl, storeHeap, prom_int, heapSet, elemSet]
  refine wpCall_of hpart ?_
  rintro out H4 ⟨y, n, rfl, hy, hn, hb4, hf4, hge4⟩
  have L4 : LK H4 p ms ws wk came al wa wo := L3.keep (fun i hi => by
    refine hf4 i ?_ ?_ <;> (rcases hi with (rfl | hi | hi | hi) | hi)
    · omega
    · have := p2 i hi; omega
    · have := p3 i hi; omega
    · have := p4 i hi; omega
    · have := p5 i hi; omega
    · omega
    · have := p2 i hi; omega
    · have := p3 i hi; omega
    · have := p4 i hi; omega
    · have := p5 i hi; omega)
  have L5 := L4.reW (came' := came) (hn.weaken (N' := NN p (ids ms) al wo) (fun i hi => by
    left
    rcases hi with rfl | hi | hi | hi
    · omega
    · have := p2 i hi; omega
    · have := p3 i hi; omega
    · have := p5 i hi; omega)) (fun _ _ => rfl)
  have hp4 := L4.blk
  have hpl := (List.getElem?_eq_some_iff.1 hp4).1
  have hy5 := hy.set (w := p) (.inl (by omega)) (.cells [.agg [al, n, wo, .int .i64 came]])
  have hwk := wake_spec L5 hy5.sx (fun e => (slw_lt hy e).2 (.inl (by omega))) (fun j hj h => (slw_lt hy hj).2 (.inl (by have := p5 j h; omega))) true (by have := ysel_len (selN m all ws) ws ws.length; omega)
  simp only [WW, partV, eqCells, eqLf, minV, maxV, ifcV, zaa, zab, zac, zad, zae, zaf, zag, zah, zai, ofConst, ofConst1, List.replicate, zaj, zak, loadOp, Go.Abs.loadCells, binV, zal, pickV, zam, zan, zao, zap, zaq, zar, zas, zat, zau, outR, resAll, resOne, zav, zaw, zax, zay, zaz, zba, zbb, zbc, zbd, zbe, zbf, zbg, zbh, zbi, zbj, zbk, storeOp, storeCell, overlay, zbl, zbm, zbn, lookupOp, keyT, okRes, mapUpdateOp, zbo, zbp, zbq, zbr, zbs, zbt, zbu, Nat.reduceSub, Nat.reduceAdd, Int.reduceLT, Int.reduceLE, Int.reduceAdd, Int.reduceSub, Int.reduceToNat, Int.reduceBEq, Int.reduceBNe, Int.reduceMul, Nat.reduceBEq, Nat.reduceBNe, Nat.reduceLT, Nat.reduceLeDiff, Nat.reduceMul, Nat.reduceEqDiff, WD, effB, effH, isPriv, isHeap, isImm, zbx, zby, zbz, chkO, setD, dslot, zca, zcb, zcc, zcd, ptrCells_some, F14, hy.shut, hn.shut, hp4, storeHeap, hn.prom, heapSet, elemSet, hn.ok, hn.cells1, hn.width1]
  refine wpCall_of hwk ?_
  rintro out H6 ⟨o, wo', rfl, L6, ho⟩
  simp only [WW, partV, eqCells, eqLf, minV, maxV, ifcV, zaa, zab, zac, zad, zae, zaf, zag, zah, zai, ofConst, ofConst1, List.replicate, zaj, zak, loadOp, Go.Abs.loadCells, binV, zal, pickV, zam, zan, zao, zap, zaq, zar, zas, zat, zau, outR, resAll, resOne, zav, zaw, zax, zay, zaz, zba, zbb, zbc, zbd, zbe, zbf, zbg, zbh, zbi, zbj, zbk, storeOp, storeCell, overlay, zbl, zbm, zbn, lookupOp, keyT, okRes, mapUpdateOp, zbo, zbp, zbq, zbr, zbs, zbt, zbu, Nat.reduceSub, Nat.reduceAdd, Int.reduceLT, Int.reduceLE, Int.reduceAdd, Int.reduceSub, Int.reduceToNat, Int.reduceBEq, Int.reduceBNe, Int.reduceMul, Nat.reduceBEq, Nat.reduceBNe, Nat.reduceLT, Nat.reduceLeDiff, Nat.reduceMul, Nat.reduceEqDiff, WD, effB, effH, isPriv, isHeap, isImm, zbx, zby, zbz, chkO, setD, dslot, zca, zcb, zcc, zcd, ptrCells_some, F14, ho.rd.shutIn, ho.rd.grows]
  exact ⟨o, n, wo', rfl, L6, ho⟩
end Go.Proofs.Ythicacphcljdmaa

/- One taken out of a row. -/
namespace Go.Proofs.Ythicacphcljdmaa
open Go Go.Abs Go.Proofs
set_option maxRecDepth 100000
set_option maxHeartbeats 8000000
set_option linter.unusedVariables false
set_option linter.unusedSimpArgs false
def zS : V := .agg [.int .i64 0, .int .i64 0, .int .i64 0, .int .i64 0, .int .i64 0, .bool false]
theorem wide_over {es xs : List V} {n a : Nat} (h1 : wideAll es n = true) (h2 : wideAll xs n = true) : wideAll (overlay es a xs) n = true := by
  unfold overlay
  exact wide_appN (wide_appN (wide_takeN h1 _) h2) (wide_dropN h1 _)
theorem delete_spec {H : Hp} {N : Nat → Prop} {x : V} {l : List Slp} {i : Nat} (hx : SlW 6 H N x (slps l)) (hi : i < l.length) (hl : l.length < 4294967296) :
    wpCall EW 33 [x, .int .i64 i, .int .i64 ((i + 1 : Nat) : Int)] H (fun out H' => ∃ x', out = .ret x' false ∧ SlW 6 H' N x' (slps (l.eraseIdx i)) ∧ (∀ j, bx x ≠ some j → H'[j]? = H[j]?) ∧ bx x' = bx x) := by
  rcases hx with ⟨_, h0⟩ | ⟨s, es, rfl, hs, hc, hle, ht, hne, hw⟩
  · have h00 : l.length = 0 := by have := congrArg List.length h0; rw [slps_len] at this; exact this
    omega
  rw [slps_len] at hle ht ⊢
  have hsl := (List.getElem?_eq_some_iff.1 hc).1
  have k61 : ixT Try.prog 61 = .sl 71 := by kernel_rfl
  have z71 : sizeT Try.prog 71 = 6 := by kernel_rfl
  have zz : zeroT Try.prog 71 = zS := by kernel_rfl
  have hxs : wideAll ((slps l).drop (i + 1)) 6 = true := wide_dropN (wide_mapN (f := slpV) (fun _ => rfl) l) _
  have hxl : ((slps l).drop (i + 1)).length = l.length - (i + 1) := by simp [slps_len]
  obtain ⟨es1, he1⟩ : ∃ e, e = overlay es i ((slps l).drop (i + 1)) := ⟨_, rfl⟩
  obtain ⟨es2, he2⟩ : ∃ e, e = overlay es1 (l.length - 1) [zS] := ⟨_, rfl⟩
  have l1 : es1.length = es.length := by rw [he1]; simp only [overlay, List.length_append, List.length_take, List.length_drop, hxl]; omega
  have l2 : es2.length = es.length := by rw [he2]; simp only [overlay, List.length_append, List.length_take, List.length_drop, l1, List.length_cons, List.length_nil]; omega
  have w1 : wideAll es1 6 = true := by rw [he1]; exact wide_over hw hxs
  have w2 : wideAll es2 6 = true := by rw [he2]; exact wide_over w1 rfl
  have t2 : es2.take (l.length - 1) = slps (l.eraseIdx i) := by
    have a1 : es2.take (l.length - 1) = es1.take (l.length - 1) := by
      rw [he2]; unfold overlay
      rw [List.append_assoc, List.take_append_of_le_length (by rw [List.length_take, l1]; omega), List.take_take, Nat.min_self]
    have a2 : es1.take (l.length - 1) = es.take i ++ (slps l).drop (i + 1) := by
      rw [he1]; unfold overlay
      rw [List.take_append_of_le_length (by rw [List.length_append, List.length_take, hxl]; omega), List.take_of_length_le (by rw [List.length_append, List.length_take, hxl]; omega)]
    have a3 : es.take i = (slps l).take i := by rw [← ht, List.take_take, Nat.min_eq_left (by omega)]
    rw [a1, a2, a3]
    simp [slps, List.eraseIdx_eq_take_drop_succ, List.map_take, List.map_drop]
  obtain ⟨d, hd⟩ : ∃ d, d = if i + 1 = l.length then V.rsl [] else .sl s (i + 1) (l.length - (i + 1)) := ⟨_, rfl⟩
  obtain ⟨c, hcv⟩ : ∃ c, c = if l.length - 1 = 0 then V.sl s 0 l.length else .sl s (l.length - 1) 1 := ⟨_, rfl⟩
  have hs1 : ∀ st, sliceOp Try.prog st H 61 (.sl s 0 l.length) (some (.int .i64 i)) (some (.int .i64 ((i + 1 : Nat) : Int))) (some (.int .i64 (l.length : Int))) = some .undef := fun st => by
    have e0 : 0 ≤ ((i + 1 : Nat) : Int) := by omega
    have e1 : 0 ≤ (l.length : Int) := by omega
    have e2 : 0 ≤ (i : Int) := by omega
    simp only [sliceOp, sealV, viewV, k61, boundV, hc, e0, e1, e2, if_true, Option.bind_some, Int.toNat_natCast]
    rw [if_pos ⟨by omega, by omega, by omega⟩]
  have hs2 : ∀ st, sliceOp Try.prog st H 61 (.sl s 0 l.length) none (some (.int .i64 i)) none = some (.sl s 0 i) := fun st => by
    simp [sliceOp, sealV, viewV, k61, boundV, hc, z71, hw]; omega
  have hs3 : ∀ st, sliceOp Try.prog st H 61 (.sl s 0 l.length) (some (.int .i64 ((i + 1 : Nat) : Int))) none none = some d := fun st => by
    rw [hd]
    have e0 : 0 ≤ ((i + 1 : Nat) : Int) := by omega
    simp only [sliceOp, sealV, viewV, k61, boundV, hc, z71, hw, e0, if_true, Option.bind_some, Int.toNat_natCast]
    rw [if_pos ⟨by omega, by omega, trivial⟩, if_neg (by omega)]
    split
    · rename_i q; rfl
    · rw [Nat.zero_add]
  have hsrc : Abs.srcSl H d = some ((slps l).drop (i + 1)) := by
    rw [hd]
    split
    · rename_i q
      rw [List.drop_of_length_le (by rw [slps_len]; omega)]; rfl
    · have := (Sx.sl (H := H) s (i + 1) (l.length - (i + 1)) es hc (by omega)).rd.srcSl
      rw [this, ← ht, List.drop_take]
  have hdsh : ∀ st, sealV st d = d := fun st => by rw [hd]; split <;> rfl
  have hcsh : ∀ st, sealV st c = c := fun st => by rw [hcv]; split <;> rfl
  have hemp : es.isEmpty = false := by cases es <;> simp_all
  have hle3 : i + ((slps l).drop (i + 1)).length = l.length - 1 := by rw [hxl]; omega
  have happ : ∀ st, appendOp Try.prog .priv st H (some 26) 71 (.sl s 0 i) ((slps l).drop (i + 1)) = some (putS st (some 26) (.v (.sl s 0 (l.length - 1))), H.set s (.cells es1)) := fun st => by
    simp only [appendOp, z71, hxs, hc, appendSl, hw, hemp, Bool.not_true, Bool.false_eq_true, if_false, Bool.or_self, Bool.false_or, Nat.zero_add]
    rw [if_neg (by simp; omega), if_pos (by rw [hle3]; omega), hle3, he1]
  have hc1 : (H.set s (.cells es1))[s]? = some (.cells es1) := List.getElem?_set_self hsl
  have hs4 : ∀ st, sliceOp Try.prog st (H.set s (.cells es1)) 61 (.sl s 0 (l.length - 1)) (some (.int .i64 ((l.length - 1 : Nat) : Int))) (some (.int .i64 (l.length : Int))) none = some c := fun st => by
    rw [hcv]
    have e0 : 0 ≤ ((l.length - 1 : Nat) : Int) := by omega
    have e1 : 0 ≤ (l.length : Int) := by omega
    simp only [sliceOp, sealV, viewV, k61, boundV, hc1, z71, w1, e0, e1, if_true, Option.bind_some, Int.toNat_natCast]
    rw [if_pos ⟨by omega, by omega, trivial⟩]
    split
    · rfl
    · rw [if_neg (by omega), Nat.zero_add]
      congr 2; omega
  have hcl : clearOp Try.prog (H.set s (.cells es1)) 61 c = some (H.set s (.cells es2)) := by
    have el : elemOk Try.prog 71 1 = true := by kernel_rfl
    rw [hcv]
    split
    · rename_i q
      have q1 : l.length = 1 := by omega
      rw [q1] at he2
      simp only [clearOp, k61, hc1, q1, z71, w1, el, zz]
      rw [if_pos ⟨by omega, trivial, trivial⟩, List.set_set, he2]
      rfl
    · simp only [clearOp, k61, hc1, z71, w1, el, zz]
      rw [if_pos ⟨by omega, trivial, trivial⟩, List.set_set, he2]
      rfl
  have g1 : (((i : Nat) : Int) == ((i + 1 : Nat) : Int)) = false := by simp; omega
  refine runs f33 b33 r33 n33 _ _ ?_
  simp only [bodyOf, Try.f33, Option.getD_some]
  simp only [WW, partV, eqCells, eqLf, minV, maxV, ifcV, zaa, zab, zac, zad, zae, zaf, zag, zah, zai, ofConst, ofConst1, List.replicate, zaj, zak, loadOp, Go.Abs.loadCells, binV, zal, pickV, zam, zan, zao, zap, zaq, zar, zas, zat, zau, outR, resAll, resOne, zav, zaw, zax, zay, zaz, zba, zbb, zbc, zbd, zbe, zbf, zbg, zbh, zbi, zbj, zbk, storeOp, storeCell, overlay, zbl, zbm, zbn, lookupOp, keyT, okRes, mapUpdateOp, zbo, zbp, zbq, zbr, zbs, zbt, zbu, Nat.reduceSub, Nat.reduceAdd, Int.reduceLT, Int.reduceLE, Int.reduceAdd, Int.reduceSub, Int.reduceToNat, Int.reduceBEq, Int.reduceBNe, Int.reduceMul, Nat.reduceBEq, Nat.reduceBNe, Nat.reduceLT, Nat.reduceLeDiff, Nat.reduceMul, Nat.reduceEqDiff, WD, effB, effH, isPriv, isHeap, isImm, zbx, zby, zbz, chkO, setD, dslot, zca, zcb, zcc, zcd, ptrCells_some, F33, hs1, g1, Option.map_none]
  refine wC_dr [] (by kernel_rfl) ?_
  simp only [WW, partV, eqCells, eqLf, minV, maxV, ifcV, zaa, zab, zac, zad, zae, zaf, zag, zah, zai, ofConst, ofConst1, List.replicate, zaj, zak, loadOp, Go.Abs.loadCells, binV, zal, pickV, zam, zan, zao, zap, zaq, zar, zas, zat, zau, outR, resAll, resOne, zav, zaw, zax, zay, zaz, zba, zbb, zbc, zbd, zbe, zbf, zbg, zbh, zbi, zbj, zbk, storeOp, storeCell, overlay, zbl, zbm, zbn, lookupOp, keyT, okRes, mapUpdateOp, zbo, zbp, zbq, zbr, zbs, zbt, zbu, Nat.reduceSub, Nat.reduceAdd, Int.reduceLT, Int.reduceLE, Int.reduceAdd, Int.reduceSub, Int.reduceToNat, Int.reduceBEq, Int.reduceBNe, Int.reduceMul, Nat.reduceBEq, Nat.reduceBNe, Nat.reduceLT, Nat.reduceLeDiff, Nat.reduceMul, Nat.reduceEqDiff, WD, effB, effH, isPriv, isHeap, isImm, zbx, zby, zbz, chkO, setD, dslot, zca, zcb, zcc, zcd, ptrCells_some, F33, hs2, hs3, hsrc, hdsh, buildSliceV, lits, srcV_eq, srcK_sl, srcK_str, srcSl_nils, srcSl_rsl, srcSl_sl, frow, zbv, zbw, List.all_nil, List.all_cons, rowV, Bool.false_and, Bool.and_false, ne_eq, not_false_eq_true, grows_lr, callOut_t, happ, Option.map_none]
  simp only [WW, partV, eqCells, eqLf, minV, maxV, ifcV, zaa, zab, zac, zad, zae, zaf, zag, zah, zai, ofConst, ofConst1, List.replicate, zaj, zak, loadOp, Go.Abs.loadCells, binV, zal, pickV, zam, zan, zao, zap, zaq, zar, zas, zat, zau, outR, resAll, resOne, zav, zaw, zax, zay, zaz, zba, zbb, zbc, zbd, zbe, zbf, zbg, zbh, zbi, zbj, zbk, storeOp, storeCell, overlay, zbl, zbm, zbn, lookupOp, keyT, okRes, mapUpdateOp, zbo, zbp, zbq, zbr, zbs, zbt, zbu, Nat.reduceSub, Nat.reduceAdd, Int.reduceLT, Int.reduceLE, Int.reduceAdd, Int.reduceSub, Int.reduceToNat, Int.reduceBEq, Int.reduceBNe, Int.reduceMul, Nat.reduceBEq, Nat.reduceBNe, Nat.reduceLT, Nat.reduceLeDiff, Nat.reduceMul, Nat.reduceEqDiff, WD, effB, effH, isPriv, isHeap, isImm, zbx, zby, zbz, chkO, setD, dslot, zca, zcb, zcc, zcd, ptrCells_some, F33, hs4, hcsh, hcl, Option.map_none]
  refine ⟨_, rfl, .inr ⟨s, es2, ?_, hs, by rw [List.getElem?_set_self hsl], ?_, ?_, ?_, w2⟩, fun j hj => ?_, rfl⟩
  · rw [slps_len, List.length_eraseIdx, if_pos hi]
  · rw [slps_len, List.length_eraseIdx, if_pos hi]; omega
  · rw [slps_len, List.length_eraseIdx, if_pos hi]; exact t2
  · intro e; rw [e] at l2; simp at l2; exact hne (List.eq_nil_of_length_eq_zero l2.symm)
  · rw [List.getElem?_set_ne (by rintro rfl; exact hj rfl)]
end Go.Proofs.Ythicacphcljdmaa

/- One that was woken has its monitor again. -/
namespace Go.Proofs.Ythicacphcljdmaa
open Go Go.Abs Go.Proofs
set_option maxRecDepth 100000
set_option maxHeartbeats 8000000
set_option linter.unusedVariables false
set_option linter.unusedSimpArgs false
def relockM (ms : List Mon) (wk : List Slp) (t : Int) : Int × List Mon × List Slp :=
  if t < 0 ∨ 256 ≤ t then (1, ms, wk) else
  match wk[(findT wk t).toNat]? with
  | some s => if findT wk t < 0 ∨ freeB ms s.m t = false then (7, ms, wk) else
    match ms[s.m.toNat]? with
    | some x => (0, ms.set s.m.toNat ⟨x.id, s.t, s.n⟩, wk.eraseIdx (findT wk t).toNat)
    | none => (7, ms, wk)
  | none => (7, ms, wk)
theorem free_in {ms : List Mon} {m t : Int} (h : freeB ms m t = true) : ∃ k : Nat, m = k ∧ ∃ x, ms[k]? = some x := by
  unfold freeB at h
  simp only [Bool.and_eq_true, Bool.not_eq_true'] at h
  obtain ⟨k, rfl, x, hk, _⟩ := wrong_in h.1
  exact ⟨k, rfl, x, hk⟩
theorem relock_spec {H : Hp} {p : Nat} {ms : List Mon} {ws wk : List Slp} {came : Int} {all wa wo : V} (L : LK H p ms ws wk came all wa wo) (t : Int) (hl : wk.length < 4294967296) :
    wpCall EW 16 [.ptr p 0 0, .int .i64 t] H (fun out H' => out = .ret (.int .i64 (relockM ms wk t).1) false ∧ ∃ wo', LK H' p (relockM ms wk t).2.1 ws (relockM ms wk t).2.2 came all wa wo') := by
  have hb := L.blk
  unfold relockM
  by_cases g0 : t < 0
  · have q0 : decide (t < 0) = true := decide_eq_true g0
    rw [if_pos (.inl g0)]
    refine runs f16 b16 r16 n16 _ _ ?_
    simp only [bodyOf, Try.f16, Option.getD_some]
    simp only [WW, partV, eqCells, eqLf, minV, maxV, ifcV, zaa, zab, zac, zad, zae, zaf, zag, zah, zai, ofConst, ofConst1, List.replicate, zaj, zak, loadOp, Go.Abs.loadCells, binV, zal, pickV, zam, zan, zao, zap, zaq, zar, zas, zat, zau, outR, resAll, resOne, zav, zaw, zax, zay, zaz, zba, zbb, zbc, zbd, zbe, zbf, zbg, zbh, zbi, zbj, zbk, storeOp, storeCell, overlay, zbl, zbm, zbn, lookupOp, keyT, okRes, mapUpdateOp, zbo, zbp, zbq, zbr, zbs, zbt, zbu, Nat.reduceSub, Nat.reduceAdd, Int.reduceLT, Int.reduceLE, Int.reduceAdd, Int.reduceSub, Int.reduceToNat, Int.reduceBEq, Int.reduceBNe, Int.reduceMul, Nat.reduceBEq, Nat.reduceBNe, Nat.reduceLT, Nat.reduceLeDiff, Nat.reduceMul, Nat.reduceEqDiff, WD, effB, effH, isPriv, isHeap, isImm, zbx, zby, zbz, chkO, setD, dslot, zca, zcb, zcc, zcd, ptrCells_some, F16, q0]
    exact ⟨wo, L⟩
  have q0 : decide (t < 0) = false := decide_eq_false g0
  by_cases g1 : 256 ≤ t
  · have q1 : decide ((256 : Int) ≤ t) = true := decide_eq_true g1
    rw [if_pos (.inr g1)]
    refine runs f16 b16 r16 n16 _ _ ?_
    simp only [bodyOf, Try.f16, Option.getD_some]
    simp only [WW, partV, eqCells, eqLf, minV, maxV, ifcV, zaa, zab, zac, zad, zae, zaf, zag, zah, zai, ofConst, ofConst1, List.replicate, zaj, zak, loadOp, Go.Abs.loadCells, binV, zal, pickV, zam, zan, zao, zap, zaq, zar, zas, zat, zau, outR, resAll, resOne, zav, zaw, zax, zay, zaz, zba, zbb, zbc, zbd, zbe, zbf, zbg, zbh, zbi, zbj, zbk, storeOp, storeCell, overlay, zbl, zbm, zbn, lookupOp, keyT, okRes, mapUpdateOp, zbo, zbp, zbq, zbr, zbs, zbt, zbu, Nat.reduceSub, Nat.reduceAdd, Int.reduceLT, Int.reduceLE, Int.reduceAdd, Int.reduceSub, Int.reduceToNat, Int.reduceBEq, Int.reduceBNe, Int.reduceMul, Nat.reduceBEq, Nat.reduceBNe, Nat.reduceLT, Nat.reduceLeDiff, Nat.reduceMul, Nat.reduceEqDiff, WD, effB, effH, isPriv, isHeap, isImm, zbx, zby, zbz, chkO, setD, dslot, zca, zcb, zcc, zcd, ptrCells_some, F16, q0, q1]
    exact ⟨wo, L⟩
  have q1 : decide ((256 : Int) ≤ t) = false := decide_eq_false g1
  rw [if_neg (by omega)]
  have c1 := of_eq (L.wk.sx : Sx _ wo (slps wk)) t hl
  have L1 := L.app [.cells [.int .i64 t]]
  have hb1 := L1.blk
  rcases findT_cases wk t with g2 | g2
  · have q2 : decide (findT wk t < 0) = true := decide_eq_true (by omega)
    have hr : (match wk[(findT wk t).toNat]? with
      | some s => if findT wk t < 0 ∨ freeB ms s.m t = false then ((7 : Int), ms, wk) else
        match ms[s.m.toNat]? with
        | some x => (0, ms.set s.m.toNat ⟨x.id, s.t, s.n⟩, wk.eraseIdx (findT wk t).toNat)
        | none => (7, ms, wk)
      | none => (7, ms, wk)) = (7, ms, wk) := by
      split
      · rw [if_pos (.inl (by omega))]
      · rfl
    rw [hr]
    refine runs f16 b16 r16 n16 _ _ ?_
    simp only [bodyOf, Try.f16, Option.getD_some]
    simp only [WW, partV, eqCells, eqLf, minV, maxV, ifcV, zaa, zab, zac, zad, zae, zaf, zag, zah, zai, ofConst, ofConst1, List.replicate, zaj, zak, loadOp, Go.Abs.loadCells, binV, zal, pickV, zam, zan, zao, zap, zaq, zar, zas, zat, zau, outR, resAll, resOne, zav, zaw, zax, zay, zaz, zba, zbb, zbc, zbd, zbe, zbf, zbg, zbh, zbi, zbj, zbk, storeOp, storeCell, overlay, zbl, zbm, zbn, lookupOp, keyT, okRes, mapUpdateOp, zbo, zbp, zbq, zbr, zbs, zbt, zbu, Nat.reduceSub, Nat.reduceAdd, Int.reduceLT, Int.reduceLE, Int.reduceAdd, Int.reduceSub, Int.reduceToNat, Int.reduceBEq, Int.reduceBNe, Int.reduceMul, Nat.reduceBEq, Nat.reduceBNe, Nat.reduceLT, Nat.reduceLeDiff, Nat.reduceMul, Nat.reduceEqDiff, WD, effB, effH, isPriv, isHeap, isImm, zbx, zby, zbz, chkO, setD, dslot, zca, zcb, zcc, zcd, ptrCells_some, F16, q0, q1, hb, L.wk.shut]
    rw [wpCall_eq c1]
    simp only [WW, partV, eqCells, eqLf, minV, maxV, ifcV, zaa, zab, zac, zad, zae, zaf, zag, zah, zai, ofConst, ofConst1, List.replicate, zaj, zak, loadOp, Go.Abs.loadCells, binV, zal, pickV, zam, zan, zao, zap, zaq, zar, zas, zat, zau, outR, resAll, resOne, zav, zaw, zax, zay, zaz, zba, zbb, zbc, zbd, zbe, zbf, zbg, zbh, zbi, zbj, zbk, storeOp, storeCell, overlay, zbl, zbm, zbn, lookupOp, keyT, okRes, mapUpdateOp, zbo, zbp, zbq, zbr, zbs, zbt, zbu, Nat.reduceSub, Nat.reduceAdd, Int.reduceLT, Int.reduceLE, Int.reduceAdd, Int.reduceSub, Int.reduceToNat, Int.reduceBEq, Int.reduceBNe, Int.reduceMul, Nat.reduceBEq, Nat.reduceBNe, Nat.reduceLT, Nat.reduceLeDiff, Nat.reduceMul, Nat.reduceEqDiff, WD, effB, effH, isPriv, isHeap, isImm, zbx, zby, zbz, chkO, setD, dslot, zca, zcb, zcc, zcd, ptrCells_some, F16, q2]
    exact ⟨wo, L1⟩
  have q2 : decide (findT wk t < 0) = false := decide_eq_false (by omega)
  obtain ⟨i, s, hi, hs, hst⟩ := findT_at g2
  rw [hi] at c1 q2 ⊢
  have hs' : wk[((i : Nat) : Int).toNat]? = some s := hs
  rw [hs']
  dsimp only
  have hat := L1.wk.rd.at_ (sz := 6) (i := i) (e := slpV s) (by rw [List.getElem?_map, hs]; rfl) rfl
  have ha1 := hat.at1 L1.wk.rd
  have hfr := free_eq L1.blk L1.al L1.mon s.m t
  cases g3 : freeB ms s.m t with
  | false =>
    rw [g3] at hfr
    rw [if_pos (.inr rfl)]
    refine runs f16 b16 r16 n16 _ _ ?_
    simp only [bodyOf, Try.f16, Option.getD_some]
    simp only [WW, partV, eqCells, eqLf, minV, maxV, ifcV, zaa, zab, zac, zad, zae, zaf, zag, zah, zai, ofConst, ofConst1, List.replicate, zaj, zak, loadOp, Go.Abs.loadCells, binV, zal, pickV, zam, zan, zao, zap, zaq, zar, zas, zat, zau, outR, resAll, resOne, zav, zaw, zax, zay, zaz, zba, zbb, zbc, zbd, zbe, zbf, zbg, zbh, zbi, zbj, zbk, storeOp, storeCell, overlay, zbl, zbm, zbn, lookupOp, keyT, okRes, mapUpdateOp, zbo, zbp, zbq, zbr, zbs, zbt, zbu, Nat.reduceSub, Nat.reduceAdd, Int.reduceLT, Int.reduceLE, Int.reduceAdd, Int.reduceSub, Int.reduceToNat, Int.reduceBEq, Int.reduceBNe, Int.reduceMul, Nat.reduceBEq, Nat.reduceBNe, Nat.reduceLT, Nat.reduceLeDiff, Nat.reduceMul, Nat.reduceEqDiff, WD, effB, effH, isPriv, isHeap, isImm, zbx, zby, zbz, chkO, setD, dslot, zca, zcb, zcc, zcd, ptrCells_some, F16, q0, q1, hb, L.wk.shut]
    rw [wpCall_eq c1]
    simp only [WW, partV, eqCells, eqLf, minV, maxV, ifcV, zaa, zab, zac, zad, zae, zaf, zag, zah, zai, ofConst, ofConst1, List.replicate, zaj, zak, loadOp, Go.Abs.loadCells, binV, zal, pickV, zam, zan, zao, zap, zaq, zar, zas, zat, zau, outR, resAll, resOne, zav, zaw, zax, zay, zaz, zba, zbb, zbc, zbd, zbe, zbf, zbg, zbh, zbi, zbj, zbk, storeOp, storeCell, overlay, zbl, zbm, zbn, lookupOp, keyT, okRes, mapUpdateOp, zbo, zbp, zbq, zbr, zbs, zbt, zbu, Nat.reduceSub, Nat.reduceAdd, Int.reduceLT, Int.reduceLE, Int.reduceAdd, Int.reduceSub, Int.reduceToNat, Int.reduceBEq, Int.reduceBNe, Int.reduceMul, Nat.reduceBEq, Nat.reduceBNe, Nat.reduceLT, Nat.reduceLeDiff, Nat.reduceMul, Nat.reduceEqDiff, WD, effB, effH, isPriv, isHeap, isImm, zbx, zby, zbz, chkO, setD, dslot, zca, zcb, zcc, zcd, ptrCells_some, F16, q2, hb1, L1.wk.shut, ha1, hat.fa, hat.cells, slpV]
    rw [wpCall_eq hfr]
    simp only [WW, partV, eqCells, eqLf, minV, maxV, ifcV, zaa, zab, zac, zad, zae, zaf, zag, zah, zai, ofConst, ofConst1, List.replicate, zaj, zak, loadOp, Go.Abs.loadCells, binV, zal, pickV, zam, zan, zao, zap, zaq, zar, zas, zat, zau, outR, resAll, resOne, zav, zaw, zax, zay, zaz, zba, zbb, zbc, zbd, zbe, zbf, zbg, zbh, zbi, zbj, zbk, storeOp, storeCell, overlay, zbl, zbm, zbn, lookupOp, keyT, okRes, mapUpdateOp, zbo, zbp, zbq, zbr, zbs, zbt, zbu, Nat.reduceSub, Nat.reduceAdd, Int.reduceLT, Int.reduceLE, Int.reduceAdd, Int.reduceSub, Int.reduceToNat, Int.reduceBEq, Int.reduceBNe, Int.reduceMul, Nat.reduceBEq, Nat.reduceBNe, Nat.reduceLT, Nat.reduceLeDiff, Nat.reduceMul, Nat.reduceEqDiff, WD, effB, effH, isPriv, isHeap, isImm, zbx, zby, zbz, chkO, setD, dslot, zca, zcb, zcc, zcd, ptrCells_some, F16]
    exact ⟨wo, L1⟩
  | true =>
    rw [g3] at hfr
    obtain ⟨k, hk0, x, hk⟩ := free_in g3
    rw [if_neg (by simp), hk0]
    have hk' : ms[((k : Nat) : Int).toNat]? = some x := hk
    rw [hk']
    dsimp only
    have hx' : (H ++ [Blk.cells [.int .i64 t]])[x.id]? = some (.cells [.agg [.int .i64 x.t, .int .i64 x.n]]) := L1.mon x (List.mem_of_getElem? hk)
    have haM := L1.al.rd.at_ (sz := 1) (i := k) (e := ptrV x) (by rw [List.getElem?_map, hk]; rfl) rfl
    have haM1 := haM.at1 L1.al.rd
    have L2 := L1.put hk (y := ⟨x.id, s.t, s.n⟩) rfl
    have hb2 := L2.blk
    have hset : (H ++ [Blk.cells [.int .i64 t]]).set x.id (.cells [.agg [.int .i64 s.t, .int .i64 s.n]]) = (H ++ [Blk.cells [.int .i64 t]]).set x.id (monB ⟨x.id, s.t, s.n⟩) := rfl
    have hil := (List.getElem?_eq_some_iff.1 hs).1
    have hi1 : IntKind.i64.wrap ((i : Int) + 1) = ((i + 1 : Nat) : Int) := by rw [IntWalk.i64_in _ (by omega)]; omega
    have hdel := delete_spec (l := wk) (i := i) L2.wk hil hl
    rw [hk0] at hfr
    simp only [slpV, hk0] at hat
    refine runs f16 b16 r16 n16 _ _ ?_
    simp only [bodyOf, Try.f16, Option.getD_some]
    simp only [WW, partV, eqCells, eqLf, minV, maxV, ifcV, zaa, zab, zac, zad, zae, zaf, zag, zah, zai, ofConst, ofConst1, List.replicate, zaj, zak, loadOp, Go.Abs.loadCells, binV, zal, pickV, zam, zan, zao, zap, zaq, zar, zas, zat, zau, outR, resAll, resOne, zav, zaw, zax, zay, zaz, zba, zbb, zbc, zbd, zbe, zbf, zbg, zbh, zbi, zbj, zbk, storeOp, storeCell, overlay, zbl, zbm, zbn, lookupOp, keyT, okRes, mapUpdateOp, zbo, zbp, zbq, zbr, zbs, zbt, zbu, Nat.reduceSub, Nat.reduceAdd, Int.reduceLT, Int.reduceLE, Int.reduceAdd, Int.reduceSub, Int.reduceToNat, Int.reduceBEq, Int.reduceBNe, Int.reduceMul, Nat.reduceBEq, Nat.reduceBNe, Nat.reduceLT, Nat.reduceLeDiff, Nat.reduceMul, Nat.reduceEqDiff, WD, effB, effH, isPriv, isHeap, isImm, zbx, zby, zbz, chkO, setD, dslot, zca, zcb, zcc, zcd, ptrCells_some, F16, q0, q1, hb, L.wk.shut]
    rw [wpCall_eq c1]
    simp only [WW, partV, eqCells, eqLf, minV, maxV, ifcV, zaa, zab, zac, zad, zae, zaf, zag, zah, zai, ofConst, ofConst1, List.replicate, zaj, zak, loadOp, Go.Abs.loadCells, binV, zal, pickV, zam, zan, zao, zap, zaq, zar, zas, zat, zau, outR, resAll, resOne, zav, zaw, zax, zay, zaz, zba, zbb, zbc, zbd, zbe, zbf, zbg, zbh, zbi, zbj, zbk, storeOp, storeCell, overlay, zbl, zbm, zbn, lookupOp, keyT, okRes, mapUpdateOp, zbo, zbp, zbq, zbr, zbs, zbt, zbu, Nat.reduceSub, Nat.reduceAdd, Int.reduceLT, Int.reduceLE, Int.reduceAdd, Int.reduceSub, Int.reduceToNat, Int.reduceBEq, Int.reduceBNe, Int.reduceMul, Nat.reduceBEq, Nat.reduceBNe, Nat.reduceLT, Nat.reduceLeDiff, Nat.reduceMul, Nat.reduceEqDiff, WD, effB, effH, isPriv, isHeap, isImm, zbx, zby, zbz, chkO, setD, dslot, zca, zcb, zcc, zcd, ptrCells_some, F16, q2, hb1, L1.wk.shut, ha1, hat.fa, hat.cells]
    rw [wpCall_eq hfr]
    simp only [WW, partV, eqCells, eqLf, minV, maxV, ifcV, zaa, zab, zac, zad, zae, zaf, zag, zah, zai, ofConst, ofConst1, List.replicate, zaj, zak, loadOp, Go.Abs.loadCells, binV, zal, pickV, zam, zan, zao, zap, zaq, zar, zas, zat, zau, outR, resAll, resOne, zav, zaw, zax, zay, zaz, zba, zbb, zbc, zbd, zbe, zbf, zbg, zbh, zbi, zbj, zbk, storeOp, storeCell, overlay, zbl, zbm, zbn, lookupOp, keyT, okRes, mapUpdateOp, zbo, zbp, zbq, zbr, zbs, zbt, zbu, Nat.reduceSub, Nat.reduceAdd, Int.reduceLT, Int.reduceLE, Int.reduceAdd, Int.reduceSub, Int.reduceToNat, Int.reduceBEq, Int.reduceBNe, Int.reduceMul, Nat.reduceBEq, Nat.reduceBNe, Nat.reduceLT, Nat.reduceLeDiff, Nat.reduceMul, Nat.reduceEqDiff, WD, effB, effH, isPriv, isHeap, isImm, zbx, zby, zbz, chkO, setD, dslot, zca, zcb, zcc, zcd, ptrCells_some, F16]
    refine wC_dr [] (by kernel_rfl) ?_
    simp only [WW, partV, eqCells, eqLf, minV, maxV, ifcV, zaa, zab, zac, zad, zae, zaf, zag, zah, zai, ofConst, ofConst1, List.replicate, zaj, zak, loadOp, Go.Abs.loadCells, binV, zal, pickV, zam, zan, zao, zap, zaq, zar, zas, zat, zau, outR, resAll, resOne, zav, zaw, zax, zay, zaz, zba, zbb, zbc, zbd, zbe, zbf, zbg, zbh, zbi, zbj, zbk, storeOp, storeCell, overlay, zbl, zbm, zbn, lookupOp, keyT, okRes, mapUpdateOp, zbo, zbp, zbq, zbr, zbs, zbt, zbu, Nat.reduceSub, Nat.reduceAdd, Int.reduceLT, Int.reduceLE, Int.reduceAdd, Int.reduceSub, Int.reduceToNat, Int.reduceBEq, Int.reduceBNe, Int.reduceMul, Nat.reduceBEq, Nat.reduceBNe, Nat.reduceLT, Nat.reduceLeDiff, Nat.reduceMul, Nat.reduceEqDiff, WD, effB, effH, isPriv, isHeap, isImm, zbx, zby, zbz, chkO, setD, dslot, zca, zcb, zcc, zcd, ptrCells_some, F16, hb1, L1.wk.shut, L1.al.shut, ha1, hat.fa, hat.cells, haM1, haM.cells, ptrV, hx', storeHeap, prom_agg, heapSet, elemSet]
    rw [hset]
    simp only [WW, partV, eqCells, eqLf, minV, maxV, ifcV, zaa, zab, zac, zad, zae, zaf, zag, zah, zai, ofConst, ofConst1, List.replicate, zaj, zak, loadOp, Go.Abs.loadCells, binV, zal, pickV, zam, zan, zao, zap, zaq, zar, zas, zat, zau, outR, resAll, resOne, zav, zaw, zax, zay, zaz, zba, zbb, zbc, zbd, zbe, zbf, zbg, zbh, zbi, zbj, zbk, storeOp, storeCell, overlay, zbl, zbm, zbn, lookupOp, keyT, okRes, mapUpdateOp, zbo, zbp, zbq, zbr, zbs, zbt, zbu, Nat.reduceSub, Nat.reduceAdd, Int.reduceLT, Int.reduceLE, Int.reduceAdd, Int.reduceSub, Int.reduceToNat, Int.reduceBEq, Int.reduceBNe, Int.reduceMul, Nat.reduceBEq, Nat.reduceBNe, Nat.reduceLT, Nat.reduceLeDiff, Nat.reduceMul, Nat.reduceEqDiff, WD, effB, effH, isPriv, isHeap, isImm, zbx, zby, zbz, chkO, setD, dslot, zca, zcb, zcc, zcd, ptrCells_some, F16, hb2, L2.wk.shut, hi1]
    refine wpCall_of hdel ?_
    rintro out H3 ⟨wo', rfl, hw3, hf3, _⟩
    have L3 := L2.reK hw3 (fun j hj => hf3 j (fun e => (slw_lt L2.wk e).2 hj))
    have hb3 : H3[p]? = some (.cells [.agg [all, wa, wo, .int .i64 came]]) := by
      rw [hf3 p (fun e => (slw_lt L2.wk e).2 (.inl rfl))]; exact L2.blk
    have hsh : ∀ st, sealV st wo' = wo' := fun st => hw3.shut st
    simp only [WW, partV, eqCells, eqLf, minV, maxV, ifcV, zaa, zab, zac, zad, zae, zaf, zag, zah, zai, ofConst, ofConst1, List.replicate, zaj, zak, loadOp, Go.Abs.loadCells, binV, zal, pickV, zam, zan, zao, zap, zaq, zar, zas, zat, zau, outR, resAll, resOne, zav, zaw, zax, zay, zaz, zba, zbb, zbc, zbd, zbe, zbf, zbg, zbh, zbi, zbj, zbk, storeOp, storeCell, overlay, zbl, zbm, zbn, lookupOp, keyT, okRes, mapUpdateOp, zbo, zbp, zbq, zbr, zbs, zbt, zbu, Nat.reduceSub, Nat.reduceAdd, Int.reduceLT, Int.reduceLE, Int.reduceAdd, Int.reduceSub, Int.reduceToNat, Int.reduceBEq, Int.reduceBNe, Int.reduceMul, Nat.reduceBEq, Nat.reduceBNe, Nat.reduceLT, Nat.reduceLeDiff, Nat.reduceMul, Nat.reduceEqDiff, WD, effB, effH, isPriv, isHeap, isImm, zbx, zby, zbz, chkO, setD, dslot, zca, zcb, zcc, zcd, ptrCells_some, F16, hsh, hb3, hw3.prom, hw3.ok, hw3.cells1, hw3.width1, storeHeap, heapSet, elemSet]
    exact ⟨wo', L3⟩
end Go.Proofs.Ythicacphcljdmaa

/- Who comes sooner. -/
namespace Go.Proofs.Ythicacphcljdmaa
open Go Go.Abs Go.Proofs
set_option maxRecDepth 100000
set_option maxHeartbeats 8000000
set_option linter.unusedVariables false
set_option linter.unusedSimpArgs false
theorem nan_eq (a : Int) (H : Hp) : EW 67 [.int .i64 a] H = some (.ret (.bool false) false, H) := by
  have e : (a != a) = false := by simp
  refine eqOf2 (runs f67 b67 r67 n67 _ _ ?_)
  simp only [bodyOf, Try.f67, Option.getD_some]
  simp only [WW, partV, eqCells, eqLf, minV, maxV, ifcV, zaa, zab, zac, zad, zae, zaf, zag, zah, zai, ofConst, ofConst1, List.replicate, zaj, zak, loadOp, Go.Abs.loadCells, binV, zal, pickV, zam, zan, zao, zap, zaq, zar, zas, zat, zau, outR, resAll, resOne, zav, zaw, zax, zay, zaz, zba, zbb, zbc, zbd, zbe, zbf, zbg, zbh, zbi, zbj, zbk, storeOp, storeCell, overlay, zbl, zbm, zbn, lookupOp, keyT, okRes, mapUpdateOp, zbo, zbp, zbq, zbr, zbs, zbt, zbu, Nat.reduceSub, Nat.reduceAdd, Int.reduceLT, Int.reduceLE, Int.reduceAdd, Int.reduceSub, Int.reduceToNat, Int.reduceBEq, Int.reduceBNe, Int.reduceMul, Nat.reduceBEq, Nat.reduceBNe, Nat.reduceLT, Nat.reduceLeDiff, Nat.reduceMul, Nat.reduceEqDiff, WD, effB, effH, isPriv, isHeap, isImm, zbx, zby, zbz, chkO, setD, dslot, zca, zcb, zcc, zcd, ptrCells_some, F67, e]
def cmpI (a b : Int) : Int := if a < b then -1 else if b < a then 1 else 0
theorem compare_eq (a b : Int) (H : Hp) : EW 50 [.int .i64 a, .int .i64 b] H = some (.ret (.int .i64 (cmpI a b)) false, H) := by
  refine eqOf2 (runs f50 b50 r50 n50 _ _ ?_)
  simp only [bodyOf, Try.f50, Option.getD_some]
  unfold cmpI
  by_cases h1 : a < b
  · have g1 : decide (a < b) = true := decide_eq_true h1
    rw [if_pos h1]
    simp only [WW, partV, eqCells, eqLf, minV, maxV, ifcV, zaa, zab, zac, zad, zae, zaf, zag, zah, zai, ofConst, ofConst1, List.replicate, zaj, zak, loadOp, Go.Abs.loadCells, binV, zal, pickV, zam, zan, zao, zap, zaq, zar, zas, zat, zau, outR, resAll, resOne, zav, zaw, zax, zay, zaz, zba, zbb, zbc, zbd, zbe, zbf, zbg, zbh, zbi, zbj, zbk, storeOp, storeCell, overlay, zbl, zbm, zbn, lookupOp, keyT, okRes, mapUpdateOp, zbo, zbp, zbq, zbr, zbs, zbt, zbu, Nat.reduceSub, Nat.reduceAdd, Int.reduceLT, Int.reduceLE, Int.reduceAdd, Int.reduceSub, Int.reduceToNat, Int.reduceBEq, Int.reduceBNe, Int.reduceMul, Nat.reduceBEq, Nat.reduceBNe, Nat.reduceLT, Nat.reduceLeDiff, Nat.reduceMul, Nat.reduceEqDiff, WD, effB, effH, isPriv, isHeap, isImm, zbx, zby, zbz, chkO, setD, dslot, zca, zcb, zcc, zcd, ptrCells_some, F50]
    rw [wpCall_eq (nan_eq _ _)]
    simp only [WW, partV, eqCells, eqLf, minV, maxV, ifcV, zaa, zab, zac, zad, zae, zaf, zag, zah, zai, ofConst, ofConst1, List.replicate, zaj, zak, loadOp, Go.Abs.loadCells, binV, zal, pickV, zam, zan, zao, zap, zaq, zar, zas, zat, zau, outR, resAll, resOne, zav, zaw, zax, zay, zaz, zba, zbb, zbc, zbd, zbe, zbf, zbg, zbh, zbi, zbj, zbk, storeOp, storeCell, overlay, zbl, zbm, zbn, lookupOp, keyT, okRes, mapUpdateOp, zbo, zbp, zbq, zbr, zbs, zbt, zbu, Nat.reduceSub, Nat.reduceAdd, Int.reduceLT, Int.reduceLE, Int.reduceAdd, Int.reduceSub, Int.reduceToNat, Int.reduceBEq, Int.reduceBNe, Int.reduceMul, Nat.reduceBEq, Nat.reduceBNe, Nat.reduceLT, Nat.reduceLeDiff, Nat.reduceMul, Nat.reduceEqDiff, WD, effB, effH, isPriv, isHeap, isImm, zbx, zby, zbz, chkO, setD, dslot, zca, zcb, zcc, zcd, ptrCells_some, F50]
    rw [wpCall_eq (nan_eq _ _)]
    simp only [WW, partV, eqCells, eqLf, minV, maxV, ifcV, zaa, zab, zac, zad, zae, zaf, zag, zah, zai, ofConst, ofConst1, List.replicate, zaj, zak, loadOp, Go.Abs.loadCells, binV, zal, pickV, zam, zan, zao, zap, zaq, zar, zas, zat, zau, outR, resAll, resOne, zav, zaw, zax, zay, zaz, zba, zbb, zbc, zbd, zbe, zbf, zbg, zbh, zbi, zbj, zbk, storeOp, storeCell, overlay, zbl, zbm, zbn, lookupOp, keyT, okRes, mapUpdateOp, zbo, zbp, zbq, zbr, zbs, zbt, zbu, Nat.reduceSub, Nat.reduceAdd, Int.reduceLT, Int.reduceLE, Int.reduceAdd, Int.reduceSub, Int.reduceToNat, Int.reduceBEq, Int.reduceBNe, Int.reduceMul, Nat.reduceBEq, Nat.reduceBNe, Nat.reduceLT, Nat.reduceLeDiff, Nat.reduceMul, Nat.reduceEqDiff, WD, effB, effH, isPriv, isHeap, isImm, zbx, zby, zbz, chkO, setD, dslot, zca, zcb, zcc, zcd, ptrCells_some, F50, g1]
  · have g1 : decide (a < b) = false := decide_eq_false h1
    rw [if_neg h1]
    by_cases h2 : b < a
    · have g2 : decide (b < a) = true := decide_eq_true h2
      rw [if_pos h2]
      simp only [WW, partV, eqCells, eqLf, minV, maxV, ifcV, zaa, zab, zac, zad, zae, zaf, zag, zah, zai, ofConst, ofConst1, List.replicate, zaj, zak, loadOp, Go.Abs.loadCells, binV, zal, pickV, zam, zan, zao, zap, zaq, zar, zas, zat, zau, outR, resAll, resOne, zav, zaw, zax, zay, zaz, zba, zbb, zbc, zbd, zbe, zbf, zbg, zbh, zbi, zbj, zbk, storeOp, storeCell, overlay, zbl, zbm, zbn, lookupOp, keyT, okRes, mapUpdateOp, zbo, zbp, zbq, zbr, zbs, zbt, zbu, Nat.reduceSub, Nat.reduceAdd, Int.reduceLT, Int.reduceLE, Int.reduceAdd, Int.reduceSub, Int.reduceToNat, Int.reduceBEq, Int.reduceBNe, Int.reduceMul, Nat.reduceBEq, Nat.reduceBNe, Nat.reduceLT, Nat.reduceLeDiff, Nat.reduceMul, Nat.reduceEqDiff, WD, effB, effH, isPriv, isHeap, isImm, zbx, zby, zbz, chkO, setD, dslot, zca, zcb, zcc, zcd, ptrCells_some, F50]
      rw [wpCall_eq (nan_eq _ _)]
      simp only [WW, partV, eqCells, eqLf, minV, maxV, ifcV, zaa, zab, zac, zad, zae, zaf, zag, zah, zai, ofConst, ofConst1, List.replicate, zaj, zak, loadOp, Go.Abs.loadCells, binV, zal, pickV, zam, zan, zao, zap, zaq, zar, zas, zat, zau, outR, resAll, resOne, zav, zaw, zax, zay, zaz, zba, zbb, zbc, zbd, zbe, zbf, zbg, zbh, zbi, zbj, zbk, storeOp, storeCell, overlay, zbl, zbm, zbn, lookupOp, keyT, okRes, mapUpdateOp, zbo, zbp, zbq, zbr, zbs, zbt, zbu, Nat.reduceSub, Nat.reduceAdd, Int.reduceLT, Int.reduceLE, Int.reduceAdd, Int.reduceSub, Int.reduceToNat, Int.reduceBEq, Int.reduceBNe, Int.reduceMul, Nat.reduceBEq, Nat.reduceBNe, Nat.reduceLT, Nat.reduceLeDiff, Nat.reduceMul, Nat.reduceEqDiff, WD, effB, effH, isPriv, isHeap, isImm, zbx, zby, zbz, chkO, setD, dslot, zca, zcb, zcc, zcd, ptrCells_some, F50]
      rw [wpCall_eq (nan_eq _ _)]
      simp only [WW, partV, eqCells, eqLf, minV, maxV, ifcV, zaa, zab, zac, zad, zae, zaf, zag, zah, zai, ofConst, ofConst1, List.replicate, zaj, zak, loadOp, Go.Abs.loadCells, binV, zal, pickV, zam, zan, zao, zap, zaq, zar, zas, zat, zau, outR, resAll, resOne, zav, zaw, zax, zay, zaz, zba, zbb, zbc, zbd, zbe, zbf, zbg, zbh, zbi, zbj, zbk, storeOp, storeCell, overlay, zbl, zbm, zbn, lookupOp, keyT, okRes, mapUpdateOp, zbo, zbp, zbq, zbr, zbs, zbt, zbu, Nat.reduceSub, Nat.reduceAdd, Int.reduceLT, Int.reduceLE, Int.reduceAdd, Int.reduceSub, Int.reduceToNat, Int.reduceBEq, Int.reduceBNe, Int.reduceMul, Nat.reduceBEq, Nat.reduceBNe, Nat.reduceLT, Nat.reduceLeDiff, Nat.reduceMul, Nat.reduceEqDiff, WD, effB, effH, isPriv, isHeap, isImm, zbx, zby, zbz, chkO, setD, dslot, zca, zcb, zcc, zcd, ptrCells_some, F50, g1, g2]
    · have g2 : decide (b < a) = false := decide_eq_false h2
      rw [if_neg h2]
      simp only [WW, partV, eqCells, eqLf, minV, maxV, ifcV, zaa, zab, zac, zad, zae, zaf, zag, zah, zai, ofConst, ofConst1, List.replicate, zaj, zak, loadOp, Go.Abs.loadCells, binV, zal, pickV, zam, zan, zao, zap, zaq, zar, zas, zat, zau, outR, resAll, resOne, zav, zaw, zax, zay, zaz, zba, zbb, zbc, zbd, zbe, zbf, zbg, zbh, zbi, zbj, zbk, storeOp, storeCell, overlay, zbl, zbm, zbn, lookupOp, keyT, okRes, mapUpdateOp, zbo, zbp, zbq, zbr, zbs, zbt, zbu, Nat.reduceSub, Nat.reduceAdd, Int.reduceLT, Int.reduceLE, Int.reduceAdd, Int.reduceSub, Int.reduceToNat, Int.reduceBEq, Int.reduceBNe, Int.reduceMul, Nat.reduceBEq, Nat.reduceBNe, Nat.reduceLT, Nat.reduceLeDiff, Nat.reduceMul, Nat.reduceEqDiff, WD, effB, effH, isPriv, isHeap, isImm, zbx, zby, zbz, chkO, setD, dslot, zca, zcb, zcc, zcd, ptrCells_some, F50]
      rw [wpCall_eq (nan_eq _ _)]
      simp only [WW, partV, eqCells, eqLf, minV, maxV, ifcV, zaa, zab, zac, zad, zae, zaf, zag, zah, zai, ofConst, ofConst1, List.replicate, zaj, zak, loadOp, Go.Abs.loadCells, binV, zal, pickV, zam, zan, zao, zap, zaq, zar, zas, zat, zau, outR, resAll, resOne, zav, zaw, zax, zay, zaz, zba, zbb, zbc, zbd, zbe, zbf, zbg, zbh, zbi, zbj, zbk, storeOp, storeCell, overlay, zbl, zbm, zbn, lookupOp, keyT, okRes, mapUpdateOp, zbo, zbp, zbq, zbr, zbs, zbt, zbu, Nat.reduceSub, Nat.reduceAdd, Int.reduceLT, Int.reduceLE, Int.reduceAdd, Int.reduceSub, Int.reduceToNat, Int.reduceBEq, Int.reduceBNe, Int.reduceMul, Nat.reduceBEq, Nat.reduceBNe, Nat.reduceLT, Nat.reduceLeDiff, Nat.reduceMul, Nat.reduceEqDiff, WD, effB, effH, isPriv, isHeap, isImm, zbx, zby, zbz, chkO, setD, dslot, zca, zcb, zcc, zcd, ptrCells_some, F50]
      rw [wpCall_eq (nan_eq _ _)]
      simp only [WW, partV, eqCells, eqLf, minV, maxV, ifcV, zaa, zab, zac, zad, zae, zaf, zag, zah, zai, ofConst, ofConst1, List.replicate, zaj, zak, loadOp, Go.Abs.loadCells, binV, zal, pickV, zam, zan, zao, zap, zaq, zar, zas, zat, zau, outR, resAll, resOne, zav, zaw, zax, zay, zaz, zba, zbb, zbc, zbd, zbe, zbf, zbg, zbh, zbi, zbj, zbk, storeOp, storeCell, overlay, zbl, zbm, zbn, lookupOp, keyT, okRes, mapUpdateOp, zbo, zbp, zbq, zbr, zbs, zbt, zbu, Nat.reduceSub, Nat.reduceAdd, Int.reduceLT, Int.reduceLE, Int.reduceAdd, Int.reduceSub, Int.reduceToNat, Int.reduceBEq, Int.reduceBNe, Int.reduceMul, Nat.reduceBEq, Nat.reduceBNe, Nat.reduceLT, Nat.reduceLeDiff, Nat.reduceMul, Nat.reduceEqDiff, WD, effB, effH, isPriv, isHeap, isImm, zbx, zby, zbz, chkO, setD, dslot, zca, zcb, zcc, zcd, ptrCells_some, F50, g1, g2]
def orI (a b : Int) : Int := if a ≠ 0 then a else b
theorem or_eq (a b : Int) (H : Hp) : EW 49 [.rsl [.int .i64 a, .int .i64 b]] H = some (.ret (.int .i64 (orI a b)) false, H) := by
  have hx : Rd H (.rsl [.int .i64 a, .int .i64 b]) [.int .i64 a, .int .i64 b] := .rsl _
  have hat0 := hx.at_ (sz := 1) (i := 0) (e := .int .i64 a) rfl rfl
  have hat1 := hx.at_ (sz := 1) (i := 1) (e := .int .i64 b) rfl rfl
  have i0 : slAt 1 H (viewV H (.rsl [.int .i64 a, .int .i64 b])) (0 : Int) = some (.v (atV H (.rsl [.int .i64 a, .int .i64 b]) 0 0)) := hat0.at1 hx
  have i1 : slAt 1 H (viewV H (.rsl [.int .i64 a, .int .i64 b])) (1 : Int) = some (.v (atV H (.rsl [.int .i64 a, .int .i64 b]) 1 0)) := hat1.at1 hx
  have z0 : ((0 : Nat) : Int) = 0 := rfl
  have z1 : ((1 : Nat) : Int) = 1 := rfl
  have z2 : ((2 : Nat) : Int) = 2 := rfl
  have w1 : IntKind.i64.wrap 1 = 1 := rfl
  have w2 : IntKind.i64.wrap 2 = 2 := rfl
  simp only [viewV_rsl] at i0 i1
  refine eqOf2 (runs f49 b49 r49 n49 _ _ ?_)
  simp only [bodyOf, Try.f49, Option.getD_some]
  simp only [WW, partV, eqCells, eqLf, minV, maxV, ifcV, zaa, zab, zac, zad, zae, zaf, zag, zah, zai, ofConst, ofConst1, List.replicate, zaj, zak, loadOp, Go.Abs.loadCells, binV, zal, pickV, zam, zan, zao, zap, zaq, zar, zas, zat, zau, outR, resAll, resOne, zav, zaw, zax, zay, zaz, zba, zbb, zbc, zbd, zbe, zbf, zbg, zbh, zbi, zbj, zbk, storeOp, storeCell, overlay, zbl, zbm, zbn, lookupOp, keyT, okRes, mapUpdateOp, zbo, zbp, zbq, zbr, zbs, zbt, zbu, Nat.reduceSub, Nat.reduceAdd, Int.reduceLT, Int.reduceLE, Int.reduceAdd, Int.reduceSub, Int.reduceToNat, Int.reduceBEq, Int.reduceBNe, Int.reduceMul, Nat.reduceBEq, Nat.reduceBNe, Nat.reduceLT, Nat.reduceLeDiff, Nat.reduceMul, Nat.reduceEqDiff, WD, effB, effH, isPriv, isHeap, isImm, zbx, zby, zbz, chkO, setD, dslot, zca, zcb, zcc, zcd, ptrCells_some, F49, hx.shutIn, hx.len]
  refine wC_loop _ (fun n st H' => ∃ i : Nat, st = ⟨L49_3 (.v (.int .i64 0)) (.v (.rsl [.int .i64 a, .int .i64 b])) (.v (.int .i64 2)) (.v (.int .i64 i)), [], []⟩ ∧ H' = H ∧ i ≤ 2 ∧ n = 2 - i ∧ (1 ≤ i → a = 0) ∧ (2 ≤ i → b = 0)) 2 ⟨0, ?_, rfl, by omega, by omega, fun h => by omega, fun h => by omega⟩ ?_
  · simp only [WN, firstReg, growAll, zbv, zbw, norm, killS, zag, zah, zaa, zab, zbl, zat, zad, growOne, zae, zaf, zac, zas, zak, Nat.reduceLT, Nat.reduceAdd, zbj, zav, F49, L49_3, hx.clip2]
    try rfl
  · rintro n st H' ⟨i, rfl, rfl, hi, rfl, h1, h2⟩
    simp only [L49_3]
    have hc : i = 0 ∨ i = 1 ∨ i = 2 := by omega
    rcases hc with rfl | rfl | rfl
    · by_cases ha : a = 0
      · have g : (a != 0) = false := by simpa using ha
        simp only [WW, partV, eqCells, eqLf, minV, maxV, ifcV, zaa, zab, zac, zad, zae, zaf, zag, zah, zai, ofConst, ofConst1, List.replicate, zaj, zak, loadOp, Go.Abs.loadCells, binV, zal, pickV, zam, zan, zao, zap, zaq, zar, zas, zat, zau, outR, resAll, resOne, zav, zaw, zax, zay, zaz, zba, zbb, zbc, zbd, zbe, zbf, zbg, zbh, zbi, zbj, zbk, storeOp, storeCell, overlay, zbl, zbm, zbn, lookupOp, keyT, okRes, mapUpdateOp, zbo, zbp, zbq, zbr, zbs, zbt, zbu, Nat.reduceSub, Nat.reduceAdd, Int.reduceLT, Int.reduceLE, Int.reduceAdd, Int.reduceSub, Int.reduceToNat, Int.reduceBEq, Int.reduceBNe, Int.reduceMul, Nat.reduceBEq, Nat.reduceBNe, Nat.reduceLT, Nat.reduceLeDiff, Nat.reduceMul, Nat.reduceEqDiff, WD, effB, effH, isPriv, isHeap, isImm, zbx, zby, zbz, chkO, setD, dslot, zca, zcb, zcc, zcd, ptrCells_some, F49, z0, z1, z2, w1, w2, hx.shutIn, i0, hat0.cells, g]
        first | refine ⟨1, by omega, 1, ?_, by omega, rfl, fun _ => ha, fun h => by omega⟩ | refine ⟨1, by omega, 1, ?_, rfl, by omega, rfl, fun _ => ha, fun h => by omega⟩
        simp only [WN, firstReg, growAll, zbv, zbw, norm, killS, zag, zah, zaa, zab, zbl, zat, zad, growOne, zae, zaf, zac, zas, zak, Nat.reduceLT, Nat.reduceAdd, zbj, zav, F49, L49_3, hx.clip2]
        try rfl
      · have g : (a != 0) = true := by simpa using ha
        have e : orI a b = a := by unfold orI; rw [if_pos ha]
        rw [e]
        simp only [WW, partV, eqCells, eqLf, minV, maxV, ifcV, zaa, zab, zac, zad, zae, zaf, zag, zah, zai, ofConst, ofConst1, List.replicate, zaj, zak, loadOp, Go.Abs.loadCells, binV, zal, pickV, zam, zan, zao, zap, zaq, zar, zas, zat, zau, outR, resAll, resOne, zav, zaw, zax, zay, zaz, zba, zbb, zbc, zbd, zbe, zbf, zbg, zbh, zbi, zbj, zbk, storeOp, storeCell, overlay, zbl, zbm, zbn, lookupOp, keyT, okRes, mapUpdateOp, zbo, zbp, zbq, zbr, zbs, zbt, zbu, Nat.reduceSub, Nat.reduceAdd, Int.reduceLT, Int.reduceLE, Int.reduceAdd, Int.reduceSub, Int.reduceToNat, Int.reduceBEq, Int.reduceBNe, Int.reduceMul, Nat.reduceBEq, Nat.reduceBNe, Nat.reduceLT, Nat.reduceLeDiff, Nat.reduceMul, Nat.reduceEqDiff, WD, effB, effH, isPriv, isHeap, isImm, zbx, zby, zbz, chkO, setD, dslot, zca, zcb, zcc, zcd, ptrCells_some, F49, z0, z1, z2, w1, w2, hx.shutIn, i0, hat0.cells, g]
    · have ha := h1 (by omega)
      have e : orI a b = b := by unfold orI; rw [if_neg (by simpa using ha)]
      rw [e]
      by_cases hb : b = 0
      · have g : (b != 0) = false := by simpa using hb
        simp only [WW, partV, eqCells, eqLf, minV, maxV, ifcV, zaa, zab, zac, zad, zae, zaf, zag, zah, zai, ofConst, ofConst1, List.replicate, zaj, zak, loadOp, Go.Abs.loadCells, binV, zal, pickV, zam, zan, zao, zap, zaq, zar, zas, zat, zau, outR, resAll, resOne, zav, zaw, zax, zay, zaz, zba, zbb, zbc, zbd, zbe, zbf, zbg, zbh, zbi, zbj, zbk, storeOp, storeCell, overlay, zbl, zbm, zbn, lookupOp, keyT, okRes, mapUpdateOp, zbo, zbp, zbq, zbr, zbs, zbt, zbu, Nat.reduceSub, Nat.reduceAdd, Int.reduceLT, Int.reduceLE, Int.reduceAdd, Int.reduceSub, Int.reduceToNat, Int.reduceBEq, Int.reduceBNe, Int.reduceMul, Nat.reduceBEq, Nat.reduceBNe, Nat.reduceLT, Nat.reduceLeDiff, Nat.reduceMul, Nat.reduceEqDiff, WD, effB, effH, isPriv, isHeap, isImm, zbx, zby, zbz, chkO, setD, dslot, zca, zcb, zcc, zcd, ptrCells_some, F49, z0, z1, z2, w1, w2, hx.shutIn, i1, hat1.cells, g]
        first | refine ⟨0, by omega, 2, ?_, by omega, rfl, fun _ => ha, fun _ => hb⟩ | refine ⟨0, by omega, 2, ?_, rfl, by omega, rfl, fun _ => ha, fun _ => hb⟩
        simp only [WN, firstReg, growAll, zbv, zbw, norm, killS, zag, zah, zaa, zab, zbl, zat, zad, growOne, zae, zaf, zac, zas, zak, Nat.reduceLT, Nat.reduceAdd, zbj, zav, F49, L49_3, hx.clip2]
        try rfl
      · have g : (b != 0) = true := by simpa using hb
        simp only [WW, partV, eqCells, eqLf, minV, maxV, ifcV, zaa, zab, zac, zad, zae, zaf, zag, zah, zai, ofConst, ofConst1, List.replicate, zaj, zak, loadOp, Go.Abs.loadCells, binV, zal, pickV, zam, zan, zao, zap, zaq, zar, zas, zat, zau, outR, resAll, resOne, zav, zaw, zax, zay, zaz, zba, zbb, zbc, zbd, zbe, zbf, zbg, zbh, zbi, zbj, zbk, storeOp, storeCell, overlay, zbl, zbm, zbn, lookupOp, keyT, okRes, mapUpdateOp, zbo, zbp, zbq, zbr, zbs, zbt, zbu, Nat.reduceSub, Nat.reduceAdd, Int.reduceLT, Int.reduceLE, Int.reduceAdd, Int.reduceSub, Int.reduceToNat, Int.reduceBEq, Int.reduceBNe, Int.reduceMul, Nat.reduceBEq, Nat.reduceBNe, Nat.reduceLT, Nat.reduceLeDiff, Nat.reduceMul, Nat.reduceEqDiff, WD, effB, effH, isPriv, isHeap, isImm, zbx, zby, zbz, chkO, setD, dslot, zca, zcb, zcc, zcd, ptrCells_some, F49, z0, z1, z2, w1, w2, hx.shutIn, i1, hat1.cells, g]
    · have ha := h1 (by omega)
      have hb := h2 (by omega)
      have e : orI a b = 0 := by unfold orI; rw [if_neg (by simpa using ha)]; exact hb
      rw [e]
      simp only [WW, partV, eqCells, eqLf, minV, maxV, ifcV, zaa, zab, zac, zad, zae, zaf, zag, zah, zai, ofConst, ofConst1, List.replicate, zaj, zak, loadOp, Go.Abs.loadCells, binV, zal, pickV, zam, zan, zao, zap, zaq, zar, zas, zat, zau, outR, resAll, resOne, zav, zaw, zax, zay, zaz, zba, zbb, zbc, zbd, zbe, zbf, zbg, zbh, zbi, zbj, zbk, storeOp, storeCell, overlay, zbl, zbm, zbn, lookupOp, keyT, okRes, mapUpdateOp, zbo, zbp, zbq, zbr, zbs, zbt, zbu, Nat.reduceSub, Nat.reduceAdd, Int.reduceLT, Int.reduceLE, Int.reduceAdd, Int.reduceSub, Int.reduceToNat, Int.reduceBEq, Int.reduceBNe, Int.reduceMul, Nat.reduceBEq, Nat.reduceBNe, Nat.reduceLT, Nat.reduceLeDiff, Nat.reduceMul, Nat.reduceEqDiff, WD, effB, effH, isPriv, isHeap, isImm, zbx, zby, zbz, chkO, setD, dslot, zca, zcb, zcc, zcd, ptrCells_some, F49, z0, z1, z2]
theorem sooner_eq (s o : Slp) (H : Hp) : EW 32 [slpV s, slpV o] H = some (.ret (.int .i64 (orI (cmpI s.u o.u) (cmpI s.c o.c))) false, H) := by
  refine eqOf2 (runs f32 b32 r32 n32 _ _ ?_)
  simp only [slpV]
  simp only [bodyOf, Try.f32, Option.getD_some]
  simp only [WW, partV, eqCells, eqLf, minV, maxV, ifcV, zaa, zab, zac, zad, zae, zaf, zag, zah, zai, ofConst, ofConst1, List.replicate, zaj, zak, loadOp, Go.Abs.loadCells, binV, zal, pickV, zam, zan, zao, zap, zaq, zar, zas, zat, zau, outR, resAll, resOne, zav, zaw, zax, zay, zaz, zba, zbb, zbc, zbd, zbe, zbf, zbg, zbh, zbi, zbj, zbk, storeOp, storeCell, overlay, zbl, zbm, zbn, lookupOp, keyT, okRes, mapUpdateOp, zbo, zbp, zbq, zbr, zbs, zbt, zbu, Nat.reduceSub, Nat.reduceAdd, Int.reduceLT, Int.reduceLE, Int.reduceAdd, Int.reduceSub, Int.reduceToNat, Int.reduceBEq, Int.reduceBNe, Int.reduceMul, Nat.reduceBEq, Nat.reduceBNe, Nat.reduceLT, Nat.reduceLeDiff, Nat.reduceMul, Nat.reduceEqDiff, WD, effB, effH, isPriv, isHeap, isImm, zbx, zby, zbz, chkO, setD, dslot, zca, zcb, zcc, zcd, ptrCells_some, F32]
  refine wC_dr alts32_1 (by kernel_rfl) ?_
  simp only [WW, partV, eqCells, eqLf, minV, maxV, ifcV, zaa, zab, zac, zad, zae, zaf, zag, zah, zai, ofConst, ofConst1, List.replicate, zaj, zak, loadOp, Go.Abs.loadCells, binV, zal, pickV, zam, zan, zao, zap, zaq, zar, zas, zat, zau, outR, resAll, resOne, zav, zaw, zax, zay, zaz, zba, zbb, zbc, zbd, zbe, zbf, zbg, zbh, zbi, zbj, zbk, storeOp, storeCell, overlay, zbl, zbm, zbn, lookupOp, keyT, okRes, mapUpdateOp, zbo, zbp, zbq, zbr, zbs, zbt, zbu, Nat.reduceSub, Nat.reduceAdd, Int.reduceLT, Int.reduceLE, Int.reduceAdd, Int.reduceSub, Int.reduceToNat, Int.reduceBEq, Int.reduceBNe, Int.reduceMul, Nat.reduceBEq, Nat.reduceBNe, Nat.reduceLT, Nat.reduceLeDiff, Nat.reduceMul, Nat.reduceEqDiff, WD, effB, effH, isPriv, isHeap, isImm, zbx, zby, zbz, chkO, setD, dslot, zca, zcb, zcc, zcd, ptrCells_some, F32, alts32_1]
  rw [wpCall_eq (compare_eq _ _ _)]
  simp only [WW, partV, eqCells, eqLf, minV, maxV, ifcV, zaa, zab, zac, zad, zae, zaf, zag, zah, zai, ofConst, ofConst1, List.replicate, zaj, zak, loadOp, Go.Abs.loadCells, binV, zal, pickV, zam, zan, zao, zap, zaq, zar, zas, zat, zau, outR, resAll, resOne, zav, zaw, zax, zay, zaz, zba, zbb, zbc, zbd, zbe, zbf, zbg, zbh, zbi, zbj, zbk, storeOp, storeCell, overlay, zbl, zbm, zbn, lookupOp, keyT, okRes, mapUpdateOp, zbo, zbp, zbq, zbr, zbs, zbt, zbu, Nat.reduceSub, Nat.reduceAdd, Int.reduceLT, Int.reduceLE, Int.reduceAdd, Int.reduceSub, Int.reduceToNat, Int.reduceBEq, Int.reduceBNe, Int.reduceMul, Nat.reduceBEq, Nat.reduceBNe, Nat.reduceLT, Nat.reduceLeDiff, Nat.reduceMul, Nat.reduceEqDiff, WD, effB, effH, isPriv, isHeap, isImm, zbx, zby, zbz, chkO, setD, dslot, zca, zcb, zcc, zcd, ptrCells_some, F32, alts32_1]
  rw [wpCall_eq (compare_eq _ _ _)]
  simp only [WW, partV, eqCells, eqLf, minV, maxV, ifcV, zaa, zab, zac, zad, zae, zaf, zag, zah, zai, ofConst, ofConst1, List.replicate, zaj, zak, loadOp, Go.Abs.loadCells, binV, zal, pickV, zam, zan, zao, zap, zaq, zar, zas, zat, zau, outR, resAll, resOne, zav, zaw, zax, zay, zaz, zba, zbb, zbc, zbd, zbe, zbf, zbg, zbh, zbi, zbj, zbk, storeOp, storeCell, overlay, zbl, zbm, zbn, lookupOp, keyT, okRes, mapUpdateOp, zbo, zbp, zbq, zbr, zbs, zbt, zbu, Nat.reduceSub, Nat.reduceAdd, Int.reduceLT, Int.reduceLE, Int.reduceAdd, Int.reduceSub, Int.reduceToNat, Int.reduceBEq, Int.reduceBNe, Int.reduceMul, Nat.reduceBEq, Nat.reduceBNe, Nat.reduceLT, Nat.reduceLeDiff, Nat.reduceMul, Nat.reduceEqDiff, WD, effB, effH, isPriv, isHeap, isImm, zbx, zby, zbz, chkO, setD, dslot, zca, zcb, zcc, zcd, ptrCells_some, F32, alts32_1, buildSliceV, lits, srcV_eq, srcK_sl, srcK_str, srcSl_nils, srcSl_rsl, srcSl_sl, frow, zbv, zbw, List.all_nil, List.all_cons, rowV, Bool.false_and, Bool.and_false, ne_eq, not_false_eq_true, grows_lr, callOut_t]
  rw [wpCall_eq (or_eq _ _ _)]
  simp only [WW, partV, eqCells, eqLf, minV, maxV, ifcV, zaa, zab, zac, zad, zae, zaf, zag, zah, zai, ofConst, ofConst1, List.replicate, zaj, zak, loadOp, Go.Abs.loadCells, binV, zal, pickV, zam, zan, zao, zap, zaq, zar, zas, zat, zau, outR, resAll, resOne, zav, zaw, zax, zay, zaz, zba, zbb, zbc, zbd, zbe, zbf, zbg, zbh, zbi, zbj, zbk, storeOp, storeCell, overlay, zbl, zbm, zbn, lookupOp, keyT, okRes, mapUpdateOp, zbo, zbp, zbq, zbr, zbs, zbt, zbu, Nat.reduceSub, Nat.reduceAdd, Int.reduceLT, Int.reduceLE, Int.reduceAdd, Int.reduceSub, Int.reduceToNat, Int.reduceBEq, Int.reduceBNe, Int.reduceMul, Nat.reduceBEq, Nat.reduceBNe, Nat.reduceLT, Nat.reduceLeDiff, Nat.reduceMul, Nat.reduceEqDiff, WD, effB, effH, isPriv, isHeap, isImm, zbx, zby, zbz, chkO, setD, dslot, zca, zcb, zcc, zcd, ptrCells_some, F32, alts32_1]
end Go.Proofs.Ythicacphcljdmaa
