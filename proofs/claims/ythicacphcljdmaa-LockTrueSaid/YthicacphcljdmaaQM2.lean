/- A part of the proofs over this seat. -/
import Derived.Test.YthicacphcljdmaaQM1
import Derived.Test.YthicacphcljdmaaQK1
/- A short row sorted: the same elements. -/
namespace Go.Proofs.Ythicacphcljdmaa
open Go Go.Abs Go.Proofs
set_option maxRecDepth 100000
set_option maxHeartbeats 8000000
set_option linter.unusedVariables false
set_option linter.unusedSimpArgs false
theorem slw_put {sz : Nat} {H : Hp} {N : Nat → Prop} {s n i : Nat} {l es : List V} {y : V} (hs : ¬ N s) (h : H[s]? = some (.cells es)) (hn : l.length = n) (hle : n ≤ es.length) (ht : es.take n = l) (hne : es ≠ []) (hw : wideAll es sz = true) (hy : y.width = sz) :
    SlW sz (H.set s (.cells (es.set i y))) N (.sl s 0 n) (l.set i y) := by
  refine .inr ⟨s, es.set i y, by simp [hn], hs, by rw [List.getElem?_set_self (List.getElem?_eq_some_iff.1 h).1], by simp; omega, ?_, ?_, ?_⟩
  · rw [List.length_set, hn, List.take_set, ht]
  · intro e; apply hne; have := congrArg List.length e; simp at this; exact this
  · unfold wideAll at *
    rw [List.all_eq_true] at *
    intro x hx
    rcases List.mem_or_eq_of_mem_set hx with hx | rfl
    · exact hw x hx
    · simp [hy]
theorem set_slps {l : List Slp} {i : Nat} {s : Slp} : (slps l).set i (slpV s) = slps (l.set i s) := by simp [slps, List.map_set]
theorem insertion_spec {H : Hp} {N : Nat → Prop} {x : V} {l : List Slp} (hx : SlW 6 H N x (slps l)) (hl : l.length < 4294967296) :
    wpCall EW 57 [x, .int .i64 0, .int .i64 l.length, .fn 32 [] []] H (fun out H' => out = .ret (.tup []) false ∧ ∃ l', l'.Perm l ∧ SlW 6 H' N x (slps l') ∧ (∀ j, bx x ≠ some j → H'[j]? = H[j]?)) := by
  have hcx : ∀ a b, Abs.clip a b (.v x) = .v x := fun a b => hx.rd.clip2 a b
  have hc32 : callable Try.prog 32 = true := by kernel_rfl
  have w0 : IntKind.i64.wrap (0 + 1) = 1 := rfl
  refine runs f57 b57 r57 n57 _ _ ?_
  simp only [bodyOf, Try.f57, Option.getD_some]
  simp only [WW, partV, eqCells, eqLf, minV, maxV, ifcV, zaa, zab, zac, zad, zae, zaf, zag, zah, zai, ofConst, ofConst1, List.replicate, zaj, zak, loadOp, Go.Abs.loadCells, binV, zal, pickV, zam, zan, zao, zap, zaq, zar, zas, zat, zau, outR, resAll, resOne, zav, zaw, zax, zay, zaz, zba, zbb, zbc, zbd, zbe, zbf, zbg, zbh, zbi, zbj, zbk, storeOp, storeCell, overlay, zbl, zbm, zbn, lookupOp, keyT, okRes, mapUpdateOp, zbo, zbp, zbq, zbr, zbs, zbt, zbu, Nat.reduceSub, Nat.reduceAdd, Int.reduceLT, Int.reduceLE, Int.reduceAdd, Int.reduceSub, Int.reduceToNat, Int.reduceBEq, Int.reduceBNe, Int.reduceMul, Nat.reduceBEq, Nat.reduceBNe, Nat.reduceLT, Nat.reduceLeDiff, Nat.reduceMul, Nat.reduceEqDiff, WD, effB, effH, isPriv, isHeap, isImm, zbx, zby, zbz, chkO, setD, dslot, zca, zcb, zcc, zcd, ptrCells_some, F57, w0]
  refine wC_loop _ (fun n st H' => ∃ (i : Nat) (l1 : List Slp), st = ⟨L57_1 (.v x) (.v (.int .i64 0)) (.v (.int .i64 l.length)) (.v (.fn 32 [] [])) (.v (.int .i64 i)), [], []⟩ ∧ l1.Perm l ∧ SlW 6 H' N x (slps l1) ∧ (∀ j, bx x ≠ some j → H'[j]? = H[j]?) ∧ 1 ≤ i ∧ i ≤ l.length + 1 ∧ n = l.length + 1 - i) l.length ⟨1, l, ?_, .refl _, hx, fun _ _ => rfl, by omega, by omega, by omega⟩ ?_
  · simp only [WN, firstReg, growAll, zbv, zbw, norm, killS, zag, zah, zaa, zab, zbl, zat, zad, growOne, zae, zaf, zac, zas, zak, Nat.reduceLT, Nat.reduceAdd, zbj, zav, F57, L57_1, hcx]
    try rfl
  · rintro n st H' ⟨i, l1, rfl, hp1, hx1, hf1, hi0, hi, rfl⟩
    simp only [L57_1]
    by_cases hlt : i < l.length
    · have g1 : decide ((i : Int) < (l.length : Int)) = true := decide_eq_true (by omega)
      have hi1 : IntKind.i64.wrap ((i : Int) + 1) = ((i + 1 : Nat) : Int) := by rw [IntWalk.i64_in _ (by omega)]; omega
      simp only [WW, partV, eqCells, eqLf, minV, maxV, ifcV, zaa, zab, zac, zad, zae, zaf, zag, zah, zai, ofConst, ofConst1, List.replicate, zaj, zak, loadOp, Go.Abs.loadCells, binV, zal, pickV, zam, zan, zao, zap, zaq, zar, zas, zat, zau, outR, resAll, resOne, zav, zaw, zax, zay, zaz, zba, zbb, zbc, zbd, zbe, zbf, zbg, zbh, zbi, zbj, zbk, storeOp, storeCell, overlay, zbl, zbm, zbn, lookupOp, keyT, okRes, mapUpdateOp, zbo, zbp, zbq, zbr, zbs, zbt, zbu, Nat.reduceSub, Nat.reduceAdd, Int.reduceLT, Int.reduceLE, Int.reduceAdd, Int.reduceSub, Int.reduceToNat, Int.reduceBEq, Int.reduceBNe, Int.reduceMul, Nat.reduceBEq, Nat.reduceBNe, Nat.reduceLT, Nat.reduceLeDiff, Nat.reduceMul, Nat.reduceEqDiff, WD, effB, effH, isPriv, isHeap, isImm, zbx, zby, zbz, chkO, setD, dslot, zca, zcb, zcc, zcd, ptrCells_some, F57, g1]
      refine wC_loop _ (fun n st H' => ∃ (j : Nat) (l2 : List Slp), st = ⟨L57_4 (.v x) (.v (.int .i64 0)) (.v (.int .i64 l.length)) (.v (.fn 32 [] [])) (.v (.int .i64 i)) (.v (.int .i64 j)), [], []⟩ ∧ l2.Perm l ∧ SlW 6 H' N x (slps l2) ∧ (∀ j, bx x ≠ some j → H'[j]? = H[j]?) ∧ j ≤ i ∧ j = n) i ⟨i, l1, ?_, hp1, hx1, hf1, Nat.le_refl _, rfl⟩ ?_
      · simp only [WN, firstReg, growAll, zbv, zbw, norm, killS, zag, zah, zaa, zab, zbl, zat, zad, growOne, zae, zaf, zac, zas, zak, Nat.reduceLT, Nat.reduceAdd, zbj, zav, F57, L57_4, hcx]
        try rfl
      · rintro n st H' ⟨j, l2, rfl, hp2, hx2, hf2, hj, rfl⟩
        simp only [L57_4]
        have hll := hp2.length_eq
        have hxr := hx2.rd
        by_cases hj0 : 0 < j
        · have g2 : decide ((0 : Int) < (j : Int)) = true := decide_eq_true (by omega)
          have hj1 : IntKind.i64.wrap ((j : Int) - 1) = ((j - 1 : Nat) : Int) := by rw [IntWalk.i64_in _ (by omega)]; omega
          have hA : l2[j]? = some (l2[j]'(by omega)) := List.getElem?_eq_getElem _
          have hB : l2[j - 1]? = some (l2[j - 1]'(by omega)) := List.getElem?_eq_getElem _
          have hperm := List.set_set_perm (show j < l2.length by omega) (show j - 1 < l2.length by omega)
          generalize l2[j] = sa at hA hperm
          generalize l2[j - 1] = sb at hB hperm
          have hata := hxr.at_ (sz := 6) (i := j) (e := slpV sa) (by simp [slps, hA]) rfl
          have hatb := hxr.at_ (sz := 6) (i := j - 1) (e := slpV sb) (by simp [slps, hB]) rfl
          have ia := hata.at1 hxr
          have ib := hatb.at1 hxr
          have hso := sooner_eq sa sb H'
          generalize orI (cmpI sa.u sb.u) (cmpI sa.c sb.c) = r at hso
          simp only [slpV] at hso
          cases g3 : decide (r < 0) with
          | false =>
            simp only [WW, partV, eqCells, eqLf, minV, maxV, ifcV, zaa, zab, zac, zad, zae, zaf, zag, zah, zai, ofConst, ofConst1, List.replicate, zaj, zak, loadOp, Go.Abs.loadCells, binV, zal, pickV, zam, zan, zao, zap, zaq, zar, zas, zat, zau, outR, resAll, resOne, zav, zaw, zax, zay, zaz, zba, zbb, zbc, zbd, zbe, zbf, zbg, zbh, zbi, zbj, zbk, storeOp, storeCell, overlay, zbl, zbm, zbn, lookupOp, keyT, okRes, mapUpdateOp, zbo, zbp, zbq, zbr, zbs, zbt, zbu, Nat.reduceSub, Nat.reduceAdd, Int.reduceLT, Int.reduceLE, Int.reduceAdd, Int.reduceSub, Int.reduceToNat, Int.reduceBEq, Int.reduceBNe, Int.reduceMul, Nat.reduceBEq, Nat.reduceBNe, Nat.reduceLT, Nat.reduceLeDiff, Nat.reduceMul, Nat.reduceEqDiff, WD, effB, effH, isPriv, isHeap, isImm, zbx, zby, zbz, chkO, setD, dslot, zca, zcb, zcc, zcd, ptrCells_some, F57]
            refine wC_dr [] (by kernel_rfl) ?_
            simp only [WW, partV, eqCells, eqLf, minV, maxV, ifcV, zaa, zab, zac, zad, zae, zaf, zag, zah, zai, ofConst, ofConst1, List.replicate, zaj, zak, loadOp, Go.Abs.loadCells, binV, zal, pickV, zam, zan, zao, zap, zaq, zar, zas, zat, zau, outR, resAll, resOne, zav, zaw, zax, zay, zaz, zba, zbb, zbc, zbd, zbe, zbf, zbg, zbh, zbi, zbj, zbk, storeOp, storeCell, overlay, zbl, zbm, zbn, lookupOp, keyT, okRes, mapUpdateOp, zbo, zbp, zbq, zbr, zbs, zbt, zbu, Nat.reduceSub, Nat.reduceAdd, Int.reduceLT, Int.reduceLE, Int.reduceAdd, Int.reduceSub, Int.reduceToNat, Int.reduceBEq, Int.reduceBNe, Int.reduceMul, Nat.reduceBEq, Nat.reduceBNe, Nat.reduceLT, Nat.reduceLeDiff, Nat.reduceMul, Nat.reduceEqDiff, WD, effB, effH, isPriv, isHeap, isImm, zbx, zby, zbz, chkO, setD, dslot, zca, zcb, zcc, zcd, ptrCells_some, F57, g2, hxr.shutIn, ia, ib, hj1, hata.cells, hatb.cells, slpV, hc32]
            rw [wpCall_eq hso]
            simp only [WW, partV, eqCells, eqLf, minV, maxV, ifcV, zaa, zab, zac, zad, zae, zaf, zag, zah, zai, ofConst, ofConst1, List.replicate, zaj, zak, loadOp, Go.Abs.loadCells, binV, zal, pickV, zam, zan, zao, zap, zaq, zar, zas, zat, zau, outR, resAll, resOne, zav, zaw, zax, zay, zaz, zba, zbb, zbc, zbd, zbe, zbf, zbg, zbh, zbi, zbj, zbk, storeOp, storeCell, overlay, zbl, zbm, zbn, lookupOp, keyT, okRes, mapUpdateOp, zbo, zbp, zbq, zbr, zbs, zbt, zbu, Nat.reduceSub, Nat.reduceAdd, Int.reduceLT, Int.reduceLE, Int.reduceAdd, Int.reduceSub, Int.reduceToNat, Int.reduceBEq, Int.reduceBNe, Int.reduceMul, Nat.reduceBEq, Nat.reduceBNe, Nat.reduceLT, Nat.reduceLeDiff, Nat.reduceMul, Nat.reduceEqDiff, WD, effB, effH, isPriv, isHeap, isImm, zbx, zby, zbz, chkO, setD, dslot, zca, zcb, zcc, zcd, ptrCells_some, F57, g3, hi1]
            refine ⟨l.length + 1 - (i + 1), by omega, i + 1, l2, ?_, hp2, hx2, hf2, by omega, by omega, rfl⟩
            simp only [WN, firstReg, growAll, zbv, zbw, norm, killS, zag, zah, zaa, zab, zbl, zat, zad, growOne, zae, zaf, zac, zas, zak, Nat.reduceLT, Nat.reduceAdd, zbj, zav, F57, L57_1, hcx]
            try rfl
          | true =>
            have hx3 := hx2
            rcases hx3 with ⟨_, h0⟩ | ⟨s, es, hxe, hs, hc, hle, ht, hne, hw⟩
            · have h00 : l2.length = 0 := by have := congrArg List.length h0; rw [slps_len] at this; exact this
              omega
            rw [slps_len] at hxe hle ht
            have hav : ∀ k o, atV H' x k o = .ptr s k o := fun k o => by rw [hxe]; simp [atV, viewV]
            have ea : es[j]? = some (slpV sa) := by
              have : (es.take l2.length)[j]? = some (slpV sa) := by rw [ht]; simp [slps, hA]
              rwa [List.getElem?_take, if_pos (by omega)] at this
            have eb : es[j - 1]? = some (slpV sb) := by
              have : (es.take l2.length)[j - 1]? = some (slpV sb) := by rw [ht]; simp [slps, hB]
              rwa [List.getElem?_take, if_pos (by omega)] at this
            have hsl := (List.getElem?_eq_some_iff.1 hc).1
            have jl := (List.getElem?_eq_some_iff.1 ea).1
            have p1 := slw_put (sz := 6) (N := N) (i := j) (y := slpV sb) hs hc (slps_len l2) hle ht hne hw rfl
            rw [set_slps] at p1
            have hc1 : (H'.set s (.cells (es.set j (slpV sb))))[s]? = some (.cells (es.set j (slpV sb))) := List.getElem?_set_self hsl
            have eb1 : (es.set j (slpV sb))[j - 1]? = some (slpV sb) := by rw [List.getElem?_set_ne (by omega)]; exact eb
            have hne1 : es.set j (slpV sb) ≠ [] := by intro e; apply hne; have := congrArg List.length e; simp at this; exact this
            have ht1 : (es.set j (slpV sb)).take l2.length = slps (l2.set j sb) := by rw [List.take_set, ht, set_slps]
            have hw1 : wideAll (es.set j (slpV sb)) 6 = true := by
              unfold wideAll at *
              rw [List.all_eq_true] at *
              intro y hy
              rcases List.mem_or_eq_of_mem_set hy with hy | rfl
              · exact hw y hy
              · rfl
            have p2 := slw_put (sz := 6) (N := N) (i := j - 1) (n := l2.length) (y := slpV sa) hs hc1 (l := slps (l2.set j sb)) (by rw [slps_len, List.length_set]) (by simpa using hle) ht1 hne1 hw1 rfl
            rw [set_slps, List.set_set] at p2
            rw [← hxe] at p1 p2
            have hr1 := p1.rd
            have hatb1 := hr1.at_ (sz := 6) (i := j - 1) (e := slpV sb) (by simp only [slps, List.getElem?_map]; rw [List.getElem?_set_ne (by omega), hB]; rfl) rfl
            have ib1 := hatb1.at1 hr1
            have hav1 : ∀ H1 k o, atV H1 x k o = .ptr s k o := fun H1 k o => by rw [hxe]; simp [atV, viewV]
            simp only [slpV] at ea eb hc1 eb1 p1 p2 ib1
            simp only [WW, partV, eqCells, eqLf, minV, maxV, ifcV, zaa, zab, zac, zad, zae, zaf, zag, zah, zai, ofConst, ofConst1, List.replicate, zaj, zak, loadOp, Go.Abs.loadCells, binV, zal, pickV, zam, zan, zao, zap, zaq, zar, zas, zat, zau, outR, resAll, resOne, zav, zaw, zax, zay, zaz, zba, zbb, zbc, zbd, zbe, zbf, zbg, zbh, zbi, zbj, zbk, storeOp, storeCell, overlay, zbl, zbm, zbn, lookupOp, keyT, okRes, mapUpdateOp, zbo, zbp, zbq, zbr, zbs, zbt, zbu, Nat.reduceSub, Nat.reduceAdd, Int.reduceLT, Int.reduceLE, Int.reduceAdd, Int.reduceSub, Int.reduceToNat, Int.reduceBEq, Int.reduceBNe, Int.reduceMul, Nat.reduceBEq, Nat.reduceBNe, Nat.reduceLT, Nat.reduceLeDiff, Nat.reduceMul, Nat.reduceEqDiff, WD, effB, effH, isPriv, isHeap, isImm, zbx, zby, zbz, chkO, setD, dslot, zca, zcb, zcc, zcd, ptrCells_some, F57]
            refine wC_dr [] (by kernel_rfl) ?_
            simp only [WW, partV, eqCells, eqLf, minV, maxV, ifcV, zaa, zab, zac, zad, zae, zaf, zag, zah, zai, ofConst, ofConst1, List.replicate, zaj, zak, loadOp, Go.Abs.loadCells, binV, zal, pickV, zam, zan, zao, zap, zaq, zar, zas, zat, zau, outR, resAll, resOne, zav, zaw, zax, zay, zaz, zba, zbb, zbc, zbd, zbe, zbf, zbg, zbh, zbi, zbj, zbk, storeOp, storeCell, overlay, zbl, zbm, zbn, lookupOp, keyT, okRes, mapUpdateOp, zbo, zbp, zbq, zbr, zbs, zbt, zbu, Nat.reduceSub, Nat.reduceAdd, Int.reduceLT, Int.reduceLE, Int.reduceAdd, Int.reduceSub, Int.reduceToNat, Int.reduceBEq, Int.reduceBNe, Int.reduceMul, Nat.reduceBEq, Nat.reduceBNe, Nat.reduceLT, Nat.reduceLeDiff, Nat.reduceMul, Nat.reduceEqDiff, WD, effB, effH, isPriv, isHeap, isImm, zbx, zby, zbz, chkO, setD, dslot, zca, zcb, zcc, zcd, ptrCells_some, F57, g2, hxr.shutIn, ia, ib, hj1, hata.cells, hatb.cells, slpV, hc32]
            rw [wpCall_eq hso]
            simp only [WW, partV, eqCells, eqLf, minV, maxV, ifcV, zaa, zab, zac, zad, zae, zaf, zag, zah, zai, ofConst, ofConst1, List.replicate, zaj, zak, loadOp, Go.Abs.loadCells, binV, zal, pickV, zam, zan, zao, zap, zaq, zar, zas, zat, zau, outR, resAll, resOne, zav, zaw, zax, zay, zaz, zba, zbb, zbc, zbd, zbe, zbf, zbg, zbh, zbi, zbj, zbk, storeOp, storeCell, overlay, zbl, zbm, zbn, lookupOp, keyT, okRes, mapUpdateOp, zbo, zbp, zbq, zbr, zbs, zbt, zbu, Nat.reduceSub, Nat.reduceAdd, Int.reduceLT, Int.reduceLE, Int.reduceAdd, Int.reduceSub, Int.reduceToNat, Int.reduceBEq, Int.reduceBNe, Int.reduceMul, Nat.reduceBEq, Nat.reduceBNe, Nat.reduceLT, Nat.reduceLeDiff, Nat.reduceMul, Nat.reduceEqDiff, WD, effB, effH, isPriv, isHeap, isImm, zbx, zby, zbz, chkO, setD, dslot, zca, zcb, zcc, zcd, ptrCells_some, F57, g3]
            refine wC_dr alts57_6 (by kernel_rfl) ?_
            simp only [WW, partV, eqCells, eqLf, minV, maxV, ifcV, zaa, zab, zac, zad, zae, zaf, zag, zah, zai, ofConst, ofConst1, List.replicate, zaj, zak, loadOp, Go.Abs.loadCells, binV, zal, pickV, zam, zan, zao, zap, zaq, zar, zas, zat, zau, outR, resAll, resOne, zav, zaw, zax, zay, zaz, zba, zbb, zbc, zbd, zbe, zbf, zbg, zbh, zbi, zbj, zbk, storeOp, storeCell, overlay, zbl, zbm, zbn, lookupOp, keyT, okRes, mapUpdateOp, zbo, zbp, zbq, zbr, zbs, zbt, zbu, Nat.reduceSub, Nat.reduceAdd, Int.reduceLT, Int.reduceLE, Int.reduceAdd, Int.reduceSub, Int.reduceToNat, Int.reduceBEq, Int.reduceBNe, Int.reduceMul, Nat.reduceBEq, Nat.reduceBNe, Nat.reduceLT, Nat.reduceLeDiff, Nat.reduceMul, Nat.reduceEqDiff, WD, effB, effH, isPriv, isHeap, isImm, zbx, zby, zbz, chkO, setD, dslot, zca, zcb, zcc, zcd, ptrCells_some, F57, alts57_6, hxr.shutIn, ia, ib, hj1, hav, hc, ea, eb, storeHeap, prom_agg, heapSet, elemSet]
            simp only [WW, partV, eqCells, eqLf, minV, maxV, ifcV, zaa, zab, zac, zad, zae, zaf, zag, zah, zai, ofConst, ofConst1, List.replicate, zaj, zak, loadOp, Go.Abs.loadCells, binV, zal, pickV, zam, zan, zao, zap, zaq, zar, zas, zat, zau, outR, resAll, resOne, zav, zaw, zax, zay, zaz, zba, zbb, zbc, zbd, zbe, zbf, zbg, zbh, zbi, zbj, zbk, storeOp, storeCell, overlay, zbl, zbm, zbn, lookupOp, keyT, okRes, mapUpdateOp, zbo, zbp, zbq, zbr, zbs, zbt, zbu, Nat.reduceSub, Nat.reduceAdd, Int.reduceLT, Int.reduceLE, Int.reduceAdd, Int.reduceSub, Int.reduceToNat, Int.reduceBEq, Int.reduceBNe, Int.reduceMul, Nat.reduceBEq, Nat.reduceBNe, Nat.reduceLT, Nat.reduceLeDiff, Nat.reduceMul, Nat.reduceEqDiff, WD, effB, effH, isPriv, isHeap, isImm, zbx, zby, zbz, chkO, setD, dslot, zca, zcb, zcc, zcd, ptrCells_some, F57, alts57_6, hr1.shutIn, ib1, hav1, hc1, eb1, hj1, storeHeap, prom_agg, heapSet, elemSet, List.set_set]
            refine ⟨j - 1, by omega, j - 1, (l2.set j sb).set (j - 1) sa, ?_, hperm.trans hp2, p2, fun q hq => ?_, by omega, rfl⟩
            · simp only [WN, firstReg, growAll, zbv, zbw, norm, killS, zag, zah, zaa, zab, zbl, zat, zad, growOne, zae, zaf, zac, zas, zak, Nat.reduceLT, Nat.reduceAdd, zbj, zav, F57, L57_4, hcx]
              try rfl
            · rw [List.getElem?_set_ne (by rintro rfl; exact hq (by rw [hxe]; rfl))]; exact hf2 q hq
        · have hj00 : j = 0 := by omega
          subst hj00
          have g2 : decide ((0 : Int) < ((0 : Nat) : Int)) = false := rfl
          simp only [WW, partV, eqCells, eqLf, minV, maxV, ifcV, zaa, zab, zac, zad, zae, zaf, zag, zah, zai, ofConst, ofConst1, List.replicate, zaj, zak, loadOp, Go.Abs.loadCells, binV, zal, pickV, zam, zan, zao, zap, zaq, zar, zas, zat, zau, outR, resAll, resOne, zav, zaw, zax, zay, zaz, zba, zbb, zbc, zbd, zbe, zbf, zbg, zbh, zbi, zbj, zbk, storeOp, storeCell, overlay, zbl, zbm, zbn, lookupOp, keyT, okRes, mapUpdateOp, zbo, zbp, zbq, zbr, zbs, zbt, zbu, Nat.reduceSub, Nat.reduceAdd, Int.reduceLT, Int.reduceLE, Int.reduceAdd, Int.reduceSub, Int.reduceToNat, Int.reduceBEq, Int.reduceBNe, Int.reduceMul, Nat.reduceBEq, Nat.reduceBNe, Nat.reduceLT, Nat.reduceLeDiff, Nat.reduceMul, Nat.reduceEqDiff, WD, effB, effH, isPriv, isHeap, isImm, zbx, zby, zbz, chkO, setD, dslot, zca, zcb, zcc, zcd, ptrCells_some, F57]
          refine wC_dr [] (by kernel_rfl) ?_
          simp only [WW, partV, eqCells, eqLf, minV, maxV, ifcV, zaa, zab, zac, zad, zae, zaf, zag, zah, zai, ofConst, ofConst1, List.replicate, zaj, zak, loadOp, Go.Abs.loadCells, binV, zal, pickV, zam, zan, zao, zap, zaq, zar, zas, zat, zau, outR, resAll, resOne, zav, zaw, zax, zay, zaz, zba, zbb, zbc, zbd, zbe, zbf, zbg, zbh, zbi, zbj, zbk, storeOp, storeCell, overlay, zbl, zbm, zbn, lookupOp, keyT, okRes, mapUpdateOp, zbo, zbp, zbq, zbr, zbs, zbt, zbu, Nat.reduceSub, Nat.reduceAdd, Int.reduceLT, Int.reduceLE, Int.reduceAdd, Int.reduceSub, Int.reduceToNat, Int.reduceBEq, Int.reduceBNe, Int.reduceMul, Nat.reduceBEq, Nat.reduceBNe, Nat.reduceLT, Nat.reduceLeDiff, Nat.reduceMul, Nat.reduceEqDiff, WD, effB, effH, isPriv, isHeap, isImm, zbx, zby, zbz, chkO, setD, dslot, zca, zcb, zcc, zcd, ptrCells_some, F57, g2, hi1]
          refine ⟨l.length + 1 - (i + 1), by omega, i + 1, l2, ?_, hp2, hx2, hf2, by omega, by omega, rfl⟩
          simp only [WN, firstReg, growAll, zbv, zbw, norm, killS, zag, zah, zaa, zab, zbl, zat, zad, growOne, zae, zaf, zac, zas, zak, Nat.reduceLT, Nat.reduceAdd, zbj, zav, F57, L57_1, hcx]
          try rfl
    · have g1 : decide ((i : Int) < (l.length : Int)) = false := decide_eq_false (by omega)
      simp only [WW, partV, eqCells, eqLf, minV, maxV, ifcV, zaa, zab, zac, zad, zae, zaf, zag, zah, zai, ofConst, ofConst1, List.replicate, zaj, zak, loadOp, Go.Abs.loadCells, binV, zal, pickV, zam, zan, zao, zap, zaq, zar, zas, zat, zau, outR, resAll, resOne, zav, zaw, zax, zay, zaz, zba, zbb, zbc, zbd, zbe, zbf, zbg, zbh, zbi, zbj, zbk, storeOp, storeCell, overlay, zbl, zbm, zbn, lookupOp, keyT, okRes, mapUpdateOp, zbo, zbp, zbq, zbr, zbs, zbt, zbu, Nat.reduceSub, Nat.reduceAdd, Int.reduceLT, Int.reduceLE, Int.reduceAdd, Int.reduceSub, Int.reduceToNat, Int.reduceBEq, Int.reduceBNe, Int.reduceMul, Nat.reduceBEq, Nat.reduceBNe, Nat.reduceLT, Nat.reduceLeDiff, Nat.reduceMul, Nat.reduceEqDiff, WD, effB, effH, isPriv, isHeap, isImm, zbx, zby, zbz, chkO, setD, dslot, zca, zcb, zcc, zcd, ptrCells_some, F57, g1]
      exact ⟨l1, hp1, hx1, hf1⟩
end Go.Proofs.Ythicacphcljdmaa

/- Those whose time has come. -/
namespace Go.Proofs.Ythicacphcljdmaa
open Go Go.Abs Go.Proofs
set_option maxRecDepth 100000
set_option maxHeartbeats 8000000
set_option linter.unusedVariables false
set_option linter.unusedSimpArgs false
theorem pdq_spec {H : Hp} {N : Nat → Prop} {x : V} {l : List Slp} (hx : SlW 6 H N x (slps l)) (hl : l.length ≤ 12) (r : Int) :
    wpCall EW 47 [x, .int .i64 0, .int .i64 l.length, .int .i64 r, .fn 32 [] []] H (fun out H' => out = .ret (.tup []) false ∧ ∃ l', l'.Perm l ∧ SlW 6 H' N x (slps l') ∧ (∀ j, bx x ≠ some j → H'[j]? = H[j]?)) := by
  have hin := insertion_spec hx (by omega)
  have hcx : ∀ a b, Abs.clip a b (.v x) = .v x := fun a b => hx.rd.clip2 a b
  have hw : IntKind.i64.wrap ((l.length : Int) - 0) = (l.length : Int) := by rw [IntWalk.i64_in _ (by omega)]; omega
  have g : decide ((l.length : Int) ≤ 12) = true := decide_eq_true (by omega)
  have hsh := hx.shut
  refine runs f47 b47 r47 n47 _ _ ?_
  simp only [bodyOf, Try.f47, Option.getD_some]
  simp only [WW, partV, eqCells, eqLf, minV, maxV, ifcV, zaa, zab, zac, zad, zae, zaf, zag, zah, zai, ofConst, ofConst1, List.replicate, zaj, zak, loadOp, Go.Abs.loadCells, binV, zal, pickV, zam, zan, zao, zap, zaq, zar, zas, zat, zau, outR, resAll, resOne, zav, zaw, zax, zay, zaz, zba, zbb, zbc, zbd, zbe, zbf, zbg, zbh, zbi, zbj, zbk, storeOp, storeCell, overlay, zbl, zbm, zbn, lookupOp, keyT, okRes, mapUpdateOp, zbo, zbp, zbq, zbr, zbs, zbt, zbu, Nat.reduceSub, Nat.reduceAdd, Int.reduceLT, Int.reduceLE, Int.reduceAdd, Int.reduceSub, Int.reduceToNat, Int.reduceBEq, Int.reduceBNe, Int.reduceMul, Nat.reduceBEq, Nat.reduceBNe, Nat.reduceLT, Nat.reduceLeDiff, Nat.reduceMul, Nat.reduceEqDiff, WD, effB, effH, isPriv, isHeap, isImm, zbx, zby, zbz, chkO, setD, dslot, zca, zcb, zcc, zcd, ptrCells_some, F47]
  refine wC_loop _ (fun n st H' => st = ⟨L47_2 (.v x) (.v (.int .i64 0)) (.v (.int .i64 l.length)) (.v (.int .i64 r)) (.v (.fn 32 [] [])) (.v (.bool true)) (.v (.bool true)), [], []⟩ ∧ H' = H) 0 ⟨?_, rfl⟩ ?_
  · simp only [WN, firstReg, growAll, zbv, zbw, norm, killS, zag, zah, zaa, zab, zbl, zat, zad, growOne, zae, zaf, zac, zas, zak, Nat.reduceLT, Nat.reduceAdd, zbj, zav, F47, L47_2, hcx]
    try rfl
  · rintro n st H' ⟨rfl, rfl⟩
    simp only [L47_2]
    simp only [WW, partV, eqCells, eqLf, minV, maxV, ifcV, zaa, zab, zac, zad, zae, zaf, zag, zah, zai, ofConst, ofConst1, List.replicate, zaj, zak, loadOp, Go.Abs.loadCells, binV, zal, pickV, zam, zan, zao, zap, zaq, zar, zas, zat, zau, outR, resAll, resOne, zav, zaw, zax, zay, zaz, zba, zbb, zbc, zbd, zbe, zbf, zbg, zbh, zbi, zbj, zbk, storeOp, storeCell, overlay, zbl, zbm, zbn, lookupOp, keyT, okRes, mapUpdateOp, zbo, zbp, zbq, zbr, zbs, zbt, zbu, Nat.reduceSub, Nat.reduceAdd, Int.reduceLT, Int.reduceLE, Int.reduceAdd, Int.reduceSub, Int.reduceToNat, Int.reduceBEq, Int.reduceBNe, Int.reduceMul, Nat.reduceBEq, Nat.reduceBNe, Nat.reduceLT, Nat.reduceLeDiff, Nat.reduceMul, Nat.reduceEqDiff, WD, effB, effH, isPriv, isHeap, isImm, zbx, zby, zbz, chkO, setD, dslot, zca, zcb, zcc, zcd, ptrCells_some, F47, hw, g, hsh]
    refine wpCall_of hin ?_
    rintro out H2 ⟨rfl, l', h1, h2, h3⟩
    simp only [WW, partV, eqCells, eqLf, minV, maxV, ifcV, zaa, zab, zac, zad, zae, zaf, zag, zah, zai, ofConst, ofConst1, List.replicate, zaj, zak, loadOp, Go.Abs.loadCells, binV, zal, pickV, zam, zan, zao, zap, zaq, zar, zas, zat, zau, outR, resAll, resOne, zav, zaw, zax, zay, zaz, zba, zbb, zbc, zbd, zbe, zbf, zbg, zbh, zbi, zbj, zbk, storeOp, storeCell, overlay, zbl, zbm, zbn, lookupOp, keyT, okRes, mapUpdateOp, zbo, zbp, zbq, zbr, zbs, zbt, zbu, Nat.reduceSub, Nat.reduceAdd, Int.reduceLT, Int.reduceLE, Int.reduceAdd, Int.reduceSub, Int.reduceToNat, Int.reduceBEq, Int.reduceBNe, Int.reduceMul, Nat.reduceBEq, Nat.reduceBNe, Nat.reduceLT, Nat.reduceLeDiff, Nat.reduceMul, Nat.reduceEqDiff, WD, effB, effH, isPriv, isHeap, isImm, zbx, zby, zbz, chkO, setD, dslot, zca, zcb, zcc, zcd, ptrCells_some, F47]
    exact ⟨l', h1, h2, h3⟩
end Go.Proofs.Ythicacphcljdmaa

/- How many bits: it answers. -/
namespace Go.Proofs.Ythicacphcljdmaa
open Go Go.Abs Go.Proofs
set_option maxRecDepth 100000
set_option maxHeartbeats 8000000
set_option linter.unusedVariables false
set_option linter.unusedSimpArgs false
def tbl (k : Int) : Int := if k ≤ 0 then 0 else if k ≤ 1 then 1 else if k ≤ 3 then 2 else if k ≤ 7 then 3 else 4
theorem len64_eq (k : Int) (h0 : 0 ≤ k) (h1 : k ≤ 12) (H : Hp) : EW 66 [.int .u64 k] H = some (.ret (.int .i64 (tbl k)) false, H) := by
  have u0 : IntKind.u8.wrap 0 = 0 := rfl
  have u1 : IntKind.u8.wrap 1 = 1 := rfl
  have u2 : IntKind.u8.wrap 2 = 2 := rfl
  have u3 : IntKind.u8.wrap 3 = 3 := rfl
  have u4 : IntKind.u8.wrap 4 = 4 := rfl
  have u5 : IntKind.u8.wrap 5 = 5 := rfl
  have u6 : IntKind.u8.wrap 6 = 6 := rfl
  have u7 : IntKind.u8.wrap 7 = 7 := rfl
  have u8 : IntKind.u8.wrap 8 = 8 := rfl
  have u9 : IntKind.u8.wrap 9 = 9 := rfl
  have u10 : IntKind.u8.wrap 10 = 10 := rfl
  have u11 : IntKind.u8.wrap 11 = 11 := rfl
  have u12 : IntKind.u8.wrap 12 = 12 := rfl
  have v0 : IntKind.i64.wrap 0 = 0 := rfl
  have s0 : IntKind.i64.wrap (0 + 0) = 0 := rfl
  have v1 : IntKind.i64.wrap 1 = 1 := rfl
  have s1 : IntKind.i64.wrap (0 + 1) = 1 := rfl
  have v2 : IntKind.i64.wrap 2 = 2 := rfl
  have s2 : IntKind.i64.wrap (0 + 2) = 2 := rfl
  have v3 : IntKind.i64.wrap 3 = 3 := rfl
  have s3 : IntKind.i64.wrap (0 + 3) = 3 := rfl
  have v4 : IntKind.i64.wrap 4 = 4 := rfl
  have s4 : IntKind.i64.wrap (0 + 4) = 4 := rfl
  have hc : k = 0 ∨ k = 1 ∨ k = 2 ∨ k = 3 ∨ k = 4 ∨ k = 5 ∨ k = 6 ∨ k = 7 ∨ k = 8 ∨ k = 9 ∨ k = 10 ∨ k = 11 ∨ k = 12 := by omega
  rcases hc with rfl | rfl | rfl | rfl | rfl | rfl | rfl | rfl | rfl | rfl | rfl | rfl | rfl
  all_goals refine eqOf2 (runs f66 b66 r66 n66 _ _ ?_)
  all_goals simp only [bodyOf, Try.f66, Option.getD_some]
  all_goals simp only [WW, partV, eqCells, eqLf, minV, maxV, ifcV, zaa, zab, zac, zad, zae, zaf, zag, zah, zai, ofConst, ofConst1, List.replicate, zaj, zak, loadOp, Go.Abs.loadCells, binV, zal, pickV, zam, zan, zao, zap, zaq, zar, zas, zat, zau, outR, resAll, resOne, zav, zaw, zax, zay, zaz, zba, zbb, zbc, zbd, zbe, zbf, zbg, zbh, zbi, zbj, zbk, storeOp, storeCell, overlay, zbl, zbm, zbn, lookupOp, keyT, okRes, mapUpdateOp, zbo, zbp, zbq, zbr, zbs, zbt, zbu, Nat.reduceSub, Nat.reduceAdd, Int.reduceLT, Int.reduceLE, Int.reduceAdd, Int.reduceSub, Int.reduceToNat, Int.reduceBEq, Int.reduceBNe, Int.reduceMul, Nat.reduceBEq, Nat.reduceBNe, Nat.reduceLT, Nat.reduceLeDiff, Nat.reduceMul, Nat.reduceEqDiff, WD, effB, effH, isPriv, isHeap, isImm, zbx, zby, zbz, chkO, setD, dslot, zca, zcb, zcc, zcd, ptrCells_some, F66, convertOp, u0, u1, u2, u3, u4, u5, u6, u7, u8, u9, u10, u11, u12, v0, s0, v1, s1, v2, s2, v3, s3, v4, s4, strAt_str, byteV]
  all_goals rfl
theorem len_eq (k : Int) (h0 : 0 ≤ k) (h1 : k ≤ 12) (H : Hp) : EW 48 [.int .u64 k] H = some (.ret (.int .i64 (tbl k)) false, H) := by
  refine eqOf2 (runs f48 b48 r48 n48 _ _ ?_)
  simp only [bodyOf, Try.f48, Option.getD_some]
  simp only [WW, partV, eqCells, eqLf, minV, maxV, ifcV, zaa, zab, zac, zad, zae, zaf, zag, zah, zai, ofConst, ofConst1, List.replicate, zaj, zak, loadOp, Go.Abs.loadCells, binV, zal, pickV, zam, zan, zao, zap, zaq, zar, zas, zat, zau, outR, resAll, resOne, zav, zaw, zax, zay, zaz, zba, zbb, zbc, zbd, zbe, zbf, zbg, zbh, zbi, zbj, zbk, storeOp, storeCell, overlay, zbl, zbm, zbn, lookupOp, keyT, okRes, mapUpdateOp, zbo, zbp, zbq, zbr, zbs, zbt, zbu, Nat.reduceSub, Nat.reduceAdd, Int.reduceLT, Int.reduceLE, Int.reduceAdd, Int.reduceSub, Int.reduceToNat, Int.reduceBEq, Int.reduceBNe, Int.reduceMul, Nat.reduceBEq, Nat.reduceBNe, Nat.reduceLT, Nat.reduceLeDiff, Nat.reduceMul, Nat.reduceEqDiff, WD, effB, effH, isPriv, isHeap, isImm, zbx, zby, zbz, chkO, setD, dslot, zca, zcb, zcc, zcd, ptrCells_some, F48]
  rw [wpCall_eq (len64_eq k h0 h1 _)]
  simp only [WW, partV, eqCells, eqLf, minV, maxV, ifcV, zaa, zab, zac, zad, zae, zaf, zag, zah, zai, ofConst, ofConst1, List.replicate, zaj, zak, loadOp, Go.Abs.loadCells, binV, zal, pickV, zam, zan, zao, zap, zaq, zar, zas, zat, zau, outR, resAll, resOne, zav, zaw, zax, zay, zaz, zba, zbb, zbc, zbd, zbe, zbf, zbg, zbh, zbi, zbj, zbk, storeOp, storeCell, overlay, zbl, zbm, zbn, lookupOp, keyT, okRes, mapUpdateOp, zbo, zbp, zbq, zbr, zbs, zbt, zbu, Nat.reduceSub, Nat.reduceAdd, Int.reduceLT, Int.reduceLE, Int.reduceAdd, Int.reduceSub, Int.reduceToNat, Int.reduceBEq, Int.reduceBNe, Int.reduceMul, Nat.reduceBEq, Nat.reduceBNe, Nat.reduceLT, Nat.reduceLeDiff, Nat.reduceMul, Nat.reduceEqDiff, WD, effB, effH, isPriv, isHeap, isImm, zbx, zby, zbz, chkO, setD, dslot, zca, zcb, zcc, zcd, ptrCells_some, F48]
theorem sort_spec {H : Hp} {N : Nat → Prop} {x : V} {l : List Slp} (hx : SlW 6 H N x (slps l)) (hl : l.length ≤ 12) :
    wpCall EW 31 [x, .fn 32 [] []] H (fun out H' => out = .ret (.tup []) false ∧ ∃ l', l'.Perm l ∧ SlW 6 H' N x (slps l') ∧ (∀ j, bx x ≠ some j → H'[j]? = H[j]?)) := by
  have hp := pdq_spec hx hl (tbl (l.length : Int))
  have hw : IntKind.u64.wrap (l.length : Int) = (l.length : Int) := by simp [IntKind.wrap, IntKind.bits, IntKind.signed]; omega
  have hlen := hx.rd.len
  refine runs f31 b31 r31 n31 _ _ ?_
  simp only [bodyOf, Try.f31, Option.getD_some]
  simp only [WW, partV, eqCells, eqLf, minV, maxV, ifcV, zaa, zab, zac, zad, zae, zaf, zag, zah, zai, ofConst, ofConst1, List.replicate, zaj, zak, loadOp, Go.Abs.loadCells, binV, zal, pickV, zam, zan, zao, zap, zaq, zar, zas, zat, zau, outR, resAll, resOne, zav, zaw, zax, zay, zaz, zba, zbb, zbc, zbd, zbe, zbf, zbg, zbh, zbi, zbj, zbk, storeOp, storeCell, overlay, zbl, zbm, zbn, lookupOp, keyT, okRes, mapUpdateOp, zbo, zbp, zbq, zbr, zbs, zbt, zbu, Nat.reduceSub, Nat.reduceAdd, Int.reduceLT, Int.reduceLE, Int.reduceAdd, Int.reduceSub, Int.reduceToNat, Int.reduceBEq, Int.reduceBNe, Int.reduceMul, Nat.reduceBEq, Nat.reduceBNe, Nat.reduceLT, Nat.reduceLeDiff, Nat.reduceMul, Nat.reduceEqDiff, WD, effB, effH, isPriv, isHeap, isImm, zbx, zby, zbz, chkO, setD, dslot, zca, zcb, zcc, zcd, ptrCells_some, F31, hx.shut, hlen, slps_len, convertOp, hw]
  rw [wpCall_eq (len_eq _ (by omega) (by omega) _)]
  simp only [WW, partV, eqCells, eqLf, minV, maxV, ifcV, zaa, zab, zac, zad, zae, zaf, zag, zah, zai, ofConst, ofConst1, List.replicate, zaj, zak, loadOp, Go.Abs.loadCells, binV, zal, pickV, zam, zan, zao, zap, zaq, zar, zas, zat, zau, outR, resAll, resOne, zav, zaw, zax, zay, zaz, zba, zbb, zbc, zbd, zbe, zbf, zbg, zbh, zbi, zbj, zbk, storeOp, storeCell, overlay, zbl, zbm, zbn, lookupOp, keyT, okRes, mapUpdateOp, zbo, zbp, zbq, zbr, zbs, zbt, zbu, Nat.reduceSub, Nat.reduceAdd, Int.reduceLT, Int.reduceLE, Int.reduceAdd, Int.reduceSub, Int.reduceToNat, Int.reduceBEq, Int.reduceBNe, Int.reduceMul, Nat.reduceBEq, Nat.reduceBNe, Nat.reduceLT, Nat.reduceLeDiff, Nat.reduceMul, Nat.reduceEqDiff, WD, effB, effH, isPriv, isHeap, isImm, zbx, zby, zbz, chkO, setD, dslot, zca, zcb, zcc, zcd, ptrCells_some, F31, hx.shut]
  refine wpCall_of hp ?_
  rintro out H2 ⟨rfl, l', h1, h2, h3⟩
  simp only [WW, partV, eqCells, eqLf, minV, maxV, ifcV, zaa, zab, zac, zad, zae, zaf, zag, zah, zai, ofConst, ofConst1, List.replicate, zaj, zak, loadOp, Go.Abs.loadCells, binV, zal, pickV, zam, zan, zao, zap, zaq, zar, zas, zat, zau, outR, resAll, resOne, zav, zaw, zax, zay, zaz, zba, zbb, zbc, zbd, zbe, zbf, zbg, zbh, zbi, zbj, zbk, storeOp, storeCell, overlay, zbl, zbm, zbn, lookupOp, keyT, okRes, mapUpdateOp, zbo, zbp, zbq, zbr, zbs, zbt, zbu, Nat.reduceSub, Nat.reduceAdd, Int.reduceLT, Int.reduceLE, Int.reduceAdd, Int.reduceSub, Int.reduceToNat, Int.reduceBEq, Int.reduceBNe, Int.reduceMul, Nat.reduceBEq, Nat.reduceBNe, Nat.reduceLT, Nat.reduceLeDiff, Nat.reduceMul, Nat.reduceEqDiff, WD, effB, effH, isPriv, isHeap, isImm, zbx, zby, zbz, chkO, setD, dslot, zca, zcb, zcc, zcd, ptrCells_some, F31]
  exact ⟨l', h1, h2, h3⟩
end Go.Proofs.Ythicacphcljdmaa

/- Expire. -/
namespace Go.Proofs.Ythicacphcljdmaa
open Go Go.Abs Go.Proofs
set_option maxRecDepth 100000
set_option maxHeartbeats 8000000
set_option linter.unusedVariables false
set_option linter.unusedSimpArgs false
def dueB (now : Int) (_ : Nat) (s : Slp) : Bool := decide (0 ≤ s.u) && decide (s.u ≤ now)
theorem expire_spec {H : Hp} {p : Nat} {ms : List Mon} {ws wk : List Slp} {came : Int} {al wa wo : V} (L : LK H p ms ws wk came al wa wo) (now : Int) (hl : wk.length + ws.length < 4294967296) (h12 : ws.length ≤ 12) :
    wpCall EW 15 [.ptr p 0 0, .int .i64 now] H (fun out H' => ∃ (l' : List Slp) (out' wa' wo' : V), l'.Perm (ysel (dueB now) ws ws.length) ∧ out = .ret out' false ∧ LK H' p ms (nsel (dueB now) ws ws.length) (wk ++ l'.map (tellS false)) came al wa' wo' ∧ Sx H' out' (l'.map timV)) := by
  have L1 := L.app [.cells [.int .i64 now]]
  obtain ⟨p1, p2, p3, p4, p5⟩ := L.lt
  have e1 : (H ++ [Blk.cells [V.int .i64 now]]).length = H.length + 1 := by simp
  have hm1 : (H ++ [Blk.cells [V.int .i64 now]])[H.length]? = some (.cells [.int .i64 now]) := by simp
  have hb1 := L1.blk
  have hpart := parted_spec (H := H ++ [Blk.cells [V.int .i64 now]]) (x := wa) (l := ws) (b := H.length) (K := fun _ => .cells [.int .i64 now]) (sel := dueB now) (caps := [.ptr H.length 0 0]) (fid := 30)
    L1.ws.sx hm1 (fun e => by have := p4 _ e; omega) (by omega) (by kernel_rfl) (fun i s Hc hd hf hb => by
      have c1 := due_eq hb s
      rw [set_same hb]; exact c1)
  have hcl := L1.ws.shut
  refine runs f15 b15 r15 n15 _ _ ?_
  simp only [bodyOf, Try.f15, Option.getD_some]
  simp only [WW, partV, eqCells, eqLf, minV, maxV, ifcV, zaa, zab, zac, zad, zae, zaf, zag, zah, zai, ofConst, ofConst1, List.replicate, zaj, zak, loadOp, Go.Abs.loadCells, binV, zal, pickV, zam, zan, zao, zap, zaq, zar, zas, zat, zau, outR, resAll, resOne, zav, zaw, zax, zay, zaz, zba, zbb, zbc, zbd, zbe, zbf, zbg, zbh, zbi, zbj, zbk, storeOp, storeCell, overlay, zbl, zbm, zbn, lookupOp, keyT, okRes, mapUpdateOp, zbo, zbp, zbq, zbr, zbs, zbt, zbu, Nat.reduceSub, Nat.reduceAdd, Int.reduceLT, Int.reduceLE, Int.reduceAdd, Int.reduceSub, Int.reduceToNat, Int.reduceBEq, Int.reduceBNe, Int.reduceMul, Nat.reduceBEq, Nat.reduceBNe, Nat.reduceLT, Nat.reduceLeDiff, Nat.reduceMul, Nat.reduceEqDiff, WD, effB, effH, isPriv, isHeap, isImm, zbx, zby, zbz, chkO, setD, dslot, zca, zcb, zcc, zcd, ptrCells_some, F15, hb1, hcl]
  refine wpCall_of hpart ?_
  rintro out H4 ⟨y, n, rfl, hy, hn, hb4, hf4, hge4⟩
  have L4 : LK H4 p ms ws wk came al wa wo := L1.keep (fun i hi => by
    refine hf4 i ?_ ?_ <;> (rcases hi with (rfl | hi | hi | hi) | hi)
    · omega
    · have := p2 i hi; omega
    · have := p3 i hi; omega
    · have := p4 i hi; omega
    · have := p5 i hi; omega
    · omega
    · have := p2 i hi; omega
    · have := p3 i hi; omega
    · have := p4 i hi; omega
    · have := p5 i hi; omega)
  have L5 := L4.reW (came' := came) (hn.weaken (N' := NN p (ids ms) al wo) (fun i hi => by
    left
    rcases hi with rfl | hi | hi | hi
    · omega
    · have := p2 i hi; omega
    · have := p3 i hi; omega
    · have := p5 i hi; omega)) (fun _ _ => rfl)
  have hp4 := L4.blk
  have hy5 := hy.set (w := p) (.inl (by omega)) (.cells [.agg [al, n, wo, .int .i64 came]])
  have hyl := ysel_len (dueB now) ws ws.length
  have hso := sort_spec hy5 (by omega)
  simp only [WW, partV, eqCells, eqLf, minV, maxV, ifcV, zaa, zab, zac, zad, zae, zaf, zag, zah, zai, ofConst, ofConst1, List.replicate, zaj, zak, loadOp, Go.Abs.loadCells, binV, zal, pickV, zam, zan, zao, zap, zaq, zar, zas, zat, zau, outR, resAll, resOne, zav, zaw, zax, zay, zaz, zba, zbb, zbc, zbd, zbe, zbf, zbg, zbh, zbi, zbj, zbk, storeOp, storeCell, overlay, zbl, zbm, zbn, lookupOp, keyT, okRes, mapUpdateOp, zbo, zbp, zbq, zbr, zbs, zbt, zbu, Nat.reduceSub, Nat.reduceAdd, Int.reduceLT, Int.reduceLE, Int.reduceAdd, Int.reduceSub, Int.reduceToNat, Int.reduceBEq, Int.reduceBNe, Int.reduceMul, Nat.reduceBEq, Nat.reduceBNe, Nat.reduceLT, Nat.reduceLeDiff, Nat.reduceMul, Nat.reduceEqDiff, WD, effB, effH, isPriv, isHeap, isImm, zbx, zby, zbz, chkO, setD, dslot, zca, zcb, zcc, zcd, ptrCells_some, F15, hy.shut, hn.shut, hp4, storeHeap, hn.prom, heapSet, elemSet, hn.ok, hn.cells1, hn.width1]
  refine wpCall_of hso ?_
  rintro out H6 ⟨rfl, l', hperm, hy6, hf6⟩
  have L6 : LK H6 p ms (nsel (dueB now) ws ws.length) wk came al n wo := L5.keep (fun i hi => by
    refine hf6 i (fun e => ?_)
    have hny := (slw_lt hy e).2
    rcases hi with (rfl | hi | hi | hi) | hi
    · exact hny (.inl (by omega))
    · exact hny (.inl (by have := p2 i hi; omega))
    · exact hny (.inl (by have := p3 i hi; omega))
    · exact hny (.inr hi)
    · exact hny (.inl (by have := p5 i hi; omega)))
  have hlen := hperm.length_eq
  have hwk := wake_spec L6 hy6.sx (fun e => (slw_lt hy e).2 (.inl (by omega))) (fun j hj h => (slw_lt hy hj).2 (.inl (by have := p5 j h; omega))) false (by omega)
  simp only [WW, partV, eqCells, eqLf, minV, maxV, ifcV, zaa, zab, zac, zad, zae, zaf, zag, zah, zai, ofConst, ofConst1, List.replicate, zaj, zak, loadOp, Go.Abs.loadCells, binV, zal, pickV, zam, zan, zao, zap, zaq, zar, zas, zat, zau, outR, resAll, resOne, zav, zaw, zax, zay, zaz, zba, zbb, zbc, zbd, zbe, zbf, zbg, zbh, zbi, zbj, zbk, storeOp, storeCell, overlay, zbl, zbm, zbn, lookupOp, keyT, okRes, mapUpdateOp, zbo, zbp, zbq, zbr, zbs, zbt, zbu, Nat.reduceSub, Nat.reduceAdd, Int.reduceLT, Int.reduceLE, Int.reduceAdd, Int.reduceSub, Int.reduceToNat, Int.reduceBEq, Int.reduceBNe, Int.reduceMul, Nat.reduceBEq, Nat.reduceBNe, Nat.reduceLT, Nat.reduceLeDiff, Nat.reduceMul, Nat.reduceEqDiff, WD, effB, effH, isPriv, isHeap, isImm, zbx, zby, zbz, chkO, setD, dslot, zca, zcb, zcc, zcd, ptrCells_some, F15, hy.shut]
  refine wpCall_of hwk ?_
  rintro out H7 ⟨o, wo', rfl, L7, ho⟩
  simp only [WW, partV, eqCells, eqLf, minV, maxV, ifcV, zaa, zab, zac, zad, zae, zaf, zag, zah, zai, ofConst, ofConst1, List.replicate, zaj, zak, loadOp, Go.Abs.loadCells, binV, zal, pickV, zam, zan, zao, zap, zaq, zar, zas, zat, zau, outR, resAll, resOne, zav, zaw, zax, zay, zaz, zba, zbb, zbc, zbd, zbe, zbf, zbg, zbh, zbi, zbj, zbk, storeOp, storeCell, overlay, zbl, zbm, zbn, lookupOp, keyT, okRes, mapUpdateOp, zbo, zbp, zbq, zbr, zbs, zbt, zbu, Nat.reduceSub, Nat.reduceAdd, Int.reduceLT, Int.reduceLE, Int.reduceAdd, Int.reduceSub, Int.reduceToNat, Int.reduceBEq, Int.reduceBNe, Int.reduceMul, Nat.reduceBEq, Nat.reduceBNe, Nat.reduceLT, Nat.reduceLeDiff, Nat.reduceMul, Nat.reduceEqDiff, WD, effB, effH, isPriv, isHeap, isImm, zbx, zby, zbz, chkO, setD, dslot, zca, zcb, zcc, zcd, ptrCells_some, F15, ho.rd.shutIn, ho.rd.grows]
  exact ⟨l', o, n, wo', hperm, rfl, L7, ho⟩
end Go.Proofs.Ythicacphcljdmaa

/- One monitor more. -/
namespace Go.Proofs.Ythicacphcljdmaa
open Go Go.Abs Go.Proofs
set_option maxRecDepth 100000
set_option maxHeartbeats 8000000
set_option linter.unusedVariables false
set_option linter.unusedSimpArgs false
theorem make_lk {H : Hp} {p : Nat} {ms : List Mon} {ws wk : List Slp} {came : Int} {all wa wo : V} (L : LK H p ms ws wk came all wa wo) (hl : ms.length < 1024) :
    wpCall EW 9 [.ptr p 0 0] H (fun out H' => out = .ret (.tup [.int .i64 ms.length, .int .i64 0]) false ∧ ∃ all', LK H' p (ms ++ [⟨H.length, -1, 0⟩]) ws wk came all' wa wo) := by
  obtain ⟨p1, p2, p3, p4, p5⟩ := L.lt
  have hp := L.blk
  have hlen := L.al.len 64
  rw [List.length_map] at hlen
  have hp1 : (H ++ [Blk.cells [.agg [.int .i64 (-1), .int .i64 0]]])[p]? = some (.cells [.agg [all, wa, wo, .int .i64 came]]) := by rw [List.getElem?_append_left p1]; exact hp
  have hq : ((ms.length : Int) == 1024) = false := by simp; omega
  have hal : SlW 1 (H ++ [Blk.cells [.agg [.int .i64 (-1), .int .i64 0]]]) (fun i => NN p (ids ms) wa wo i ∨ i = H.length) all (ms.map ptrV) :=
    slw_kept (L.al.app _) (fun _ _ => rfl) (fun i hi => by
      rintro (h | h)
      · exact (slw_lt L.al hi).2 h
      · have := p3 i hi; omega)
  obtain ⟨all', H2, hap, hx', hk, hle⟩ := app_sl (P := Try.prog) (sz := 1) (e := 64) (d := some 23) [.ptr H.length 0 0] (by kernel_rfl) hal (fun i hi => by
    simp only [List.length_append, List.length_singleton]
    rcases hi with (rfl | hi | hi | hi) | hi
    · omega
    · have := p2 i hi; omega
    · have := p4 i hi; omega
    · have := p5 i hi; omega
    · omega) rfl (by simp) (by rw [room64]; simp; omega)
  have hx2 : SlW 1 H2 (fun i => NN p (ids ms) wa wo i ∨ i = H.length) all' ((ms ++ [(⟨H.length, -1, 0⟩ : Mon)]).map ptrV) := by rw [List.map_append]; exact hx'
  have hp2 : H2[p]? = some (.cells [.agg [all, wa, wo, .int .i64 came]]) := by rw [hk p (.inl (.inl rfl))]; exact hp1
  have hpl := (List.getElem?_eq_some_iff.1 hp2).1
  have hp3 : (H2.set p (.cells [.agg [all', wa, wo, .int .i64 came]]))[p]? = some (.cells [.agg [all', wa, wo, .int .i64 came]]) := List.getElem?_set_self hpl
  have keep : ∀ i, i < H.length → i ≠ p → NN p (ids ms) wa wo i → (H2.set p (.cells [.agg [all', wa, wo, .int .i64 came]]))[i]? = H[i]? := fun i hi hn h => by
    rw [List.getElem?_set_ne (Ne.symm hn), hk i (.inl h), List.getElem?_append_left hi]
  have hidn : H.length ∉ ids ms := fun h => by have := p2 _ h; omega
  have hids : ids (ms ++ [(⟨H.length, -1, 0⟩ : Mon)]) = ids ms ++ [H.length] := by simp [ids]
  have L3 : LK (H2.set p (.cells [.agg [all', wa, wo, .int .i64 came]])) p (ms ++ [⟨H.length, -1, 0⟩]) ws wk came all' wa wo := by
    refine ⟨hp3, ?_, fun m hm => ?_, ?_, ?_, ?_, ?_⟩
    · rw [hids]
      refine (hx2.set (.inl (.inl rfl)) _).weaken (fun i hi => ?_)
      rcases hi with hi | hi | hi
      · exact .inl (.inl hi)
      · rcases List.mem_append.1 hi with hi | hi
        · exact .inl (.inr (.inl hi))
        · exact .inr (List.mem_singleton.1 hi)
      · exact .inl (.inr (.inr hi))
    · rcases List.mem_append.1 hm with hm | hm
      · rw [keep m.id (p2 _ (mem_ids hm)) (fun e => L.np (e ▸ mem_ids hm)) (.inr (.inl (mem_ids hm)))]
        exact L.mon m hm
      · obtain rfl := List.mem_singleton.1 hm
        rw [List.getElem?_set_ne (show p ≠ H.length by omega), hk _ (.inr rfl)]
        exact get_last H _
    · rw [hids]
      refine slw_kept L.ws (fun i hi => keep i (p4 i hi) (fun e => (slw_lt L.ws hi).2 (.inl e)) (.inr (.inr (.inl hi)))) (fun i hi => ?_)
      have ho := (slw_lt L.ws hi).2
      rintro (h | h | h | h)
      · exact ho (.inl h)
      · rcases List.mem_append.1 h with h | h
        · exact ho (.inr (.inl h))
        · have := p4 i hi; have := List.mem_singleton.1 h; omega
      · exact (slw_lt hx2 h).2 (.inl (.inr (.inr (.inl hi))))
      · exact ho (.inr (.inr (.inr h)))
    · rw [hids]
      refine slw_kept L.wk (fun i hi => keep i (p5 i hi) (fun e => (slw_lt L.wk hi).2 (.inl e)) (.inr (.inr (.inr hi)))) (fun i hi => ?_)
      have ho := (slw_lt L.wk hi).2
      rintro (h | h | h | h)
      · exact ho (.inl h)
      · rcases List.mem_append.1 h with h | h
        · exact ho (.inr (.inl h))
        · have := p5 i hi; have := List.mem_singleton.1 h; omega
      · exact (slw_lt hx2 h).2 (.inl (.inr (.inr (.inr hi))))
      · exact ho (.inr (.inr (.inr h)))
    · rw [hids]
      intro h
      rcases List.mem_append.1 h with h | h
      · exact L.np h
      · have := List.mem_singleton.1 h; omega
    · rw [hids]
      exact List.nodup_append.2 ⟨L.nd, by simp, fun a ha b hb => by
        have := List.mem_singleton.1 hb
        rintro rfl
        exact hidn (this ▸ ha)⟩
  have hlen2 := L3.al.len 64
  rw [List.length_map] at hlen2
  refine runs f9 b9 r9 n9 _ _ ?_
  simp only [bodyOf, Try.f9, Option.getD_some]
  simp only [WW, partV, eqCells, eqLf, minV, maxV, ifcV, zaa, zab, zac, zad, zae, zaf, zag, zah, zai, ofConst, ofConst1, List.replicate, zaj, zak, loadOp, Go.Abs.loadCells, binV, zal, pickV, zam, zan, zao, zap, zaq, zar, zas, zat, zau, outR, resAll, resOne, zav, zaw, zax, zay, zaz, zba, zbb, zbc, zbd, zbe, zbf, zbg, zbh, zbi, zbj, zbk, storeOp, storeCell, overlay, zbl, zbm, zbn, lookupOp, keyT, okRes, mapUpdateOp, zbo, zbp, zbq, zbr, zbs, zbt, zbu, Nat.reduceSub, Nat.reduceAdd, Int.reduceLT, Int.reduceLE, Int.reduceAdd, Int.reduceSub, Int.reduceToNat, Int.reduceBEq, Int.reduceBNe, Int.reduceMul, Nat.reduceBEq, Nat.reduceBNe, Nat.reduceLT, Nat.reduceLeDiff, Nat.reduceMul, Nat.reduceEqDiff, WD, effB, effH, isPriv, isHeap, isImm, zbx, zby, zbz, chkO, setD, dslot, zca, zcb, zcc, zcd, ptrCells_some, F9, hp, L.al.shut, hlen, lenOp_eq, hq]
  simp only [WW, partV, eqCells, eqLf, minV, maxV, ifcV, zaa, zab, zac, zad, zae, zaf, zag, zah, zai, ofConst, ofConst1, List.replicate, zaj, zak, loadOp, Go.Abs.loadCells, binV, zal, pickV, zam, zan, zao, zap, zaq, zar, zas, zat, zau, outR, resAll, resOne, zav, zaw, zax, zay, zaz, zba, zbb, zbc, zbd, zbe, zbf, zbg, zbh, zbi, zbj, zbk, storeOp, storeCell, overlay, zbl, zbm, zbn, lookupOp, keyT, okRes, mapUpdateOp, zbo, zbp, zbq, zbr, zbs, zbt, zbu, Nat.reduceSub, Nat.reduceAdd, Int.reduceLT, Int.reduceLE, Int.reduceAdd, Int.reduceSub, Int.reduceToNat, Int.reduceBEq, Int.reduceBNe, Int.reduceMul, Nat.reduceBEq, Nat.reduceBNe, Nat.reduceLT, Nat.reduceLeDiff, Nat.reduceMul, Nat.reduceEqDiff, WD, effB, effH, isPriv, isHeap, isImm, zbx, zby, zbz, chkO, setD, dslot, zca, zcb, zcc, zcd, ptrCells_some, F9, buildOp, fillV, Lay.place, Bool.or_self, Bool.or_false, Bool.false_or, decide_not, ne_eq, not_true_eq_false, decide_eq_true_eq, Nat.lt_irrefl, buildSliceV, lits, srcV_eq, srcK_sl, srcK_str, srcSl_nils, srcSl_rsl, srcSl_sl, frow, zbv, zbw, List.all_nil, List.all_cons, rowV, Bool.false_and, Bool.and_false, not_false_eq_true, grows_lr, callOut_t, hp1, hap, hp2, hx'.shut, hx'.prom, hx'.cells1, hx'.width1, hx'.ok, hlen2, hp3, storeHeap, heapSet, elemSet]
  refine ⟨?_, all', L3⟩
  rw [List.length_append, List.length_singleton, IntWalk.i64_in _ (by omega)]
  congr 3
  simp
theorem new_lk (H : Hp) : LK (H ++ [.cells [.agg [.nils, .nils, .nils, .int .i64 0]]]) H.length [] [] [] 0 .nils .nils .nils :=
  ⟨get_last _ _, .inl ⟨rfl, rfl⟩, fun m hm => (by cases hm), .inl ⟨rfl, rfl⟩, .inl ⟨rfl, rfl⟩, by simp [ids], by simp [ids]⟩
end Go.Proofs.Ythicacphcljdmaa

/- A thread is no more. -/
namespace Go.Proofs.Ythicacphcljdmaa
open Go Go.Abs Go.Proofs
set_option maxRecDepth 100000
set_option maxHeartbeats 8000000
set_option linter.unusedVariables false
set_option linter.unusedSimpArgs false
def dropMon (t : Int) (m : Mon) : Mon := if m.t == t then ⟨m.id, -1, 0⟩ else m
def otherB (t : Int) (_ : Nat) (s : Slp) : Bool := s.t != t
theorem other_eq {Hc : Hp} {b : Nat} {t : Int} (h1 : Hc[b]? = some (.cells [.int .i64 t])) (s : Slp) :
    EW 44 [slpV s, .ptr b 0 0] Hc = some (.ret (.bool (s.t != t)) false, Hc) := by
  refine eqOf2 (runs f44 b44 r44 n44 _ _ ?_)
  simp only [slpV]
  simp only [bodyOf, Try.f44, Option.getD_some]
  simp only [WW, partV, eqCells, eqLf, minV, maxV, ifcV, zaa, zab, zac, zad, zae, zaf, zag, zah, zai, ofConst, ofConst1, List.replicate, zaj, zak, loadOp, Go.Abs.loadCells, binV, zal, pickV, zam, zan, zao, zap, zaq, zar, zas, zat, zau, outR, resAll, resOne, zav, zaw, zax, zay, zaz, zba, zbb, zbc, zbd, zbe, zbf, zbg, zbh, zbi, zbj, zbk, storeOp, storeCell, overlay, zbl, zbm, zbn, lookupOp, keyT, okRes, mapUpdateOp, zbo, zbp, zbq, zbr, zbs, zbt, zbu, Nat.reduceSub, Nat.reduceAdd, Int.reduceLT, Int.reduceLE, Int.reduceAdd, Int.reduceSub, Int.reduceToNat, Int.reduceBEq, Int.reduceBNe, Int.reduceMul, Nat.reduceBEq, Nat.reduceBNe, Nat.reduceLT, Nat.reduceLeDiff, Nat.reduceMul, Nat.reduceEqDiff, WD, effB, effH, isPriv, isHeap, isImm, zbx, zby, zbz, chkO, setD, dslot, zca, zcb, zcc, zcd, ptrCells_some, F44, h1]
theorem drop_spec {H : Hp} {p : Nat} {ms : List Mon} {ws wk : List Slp} {came : Int} {all wa wo : V} (L : LK H p ms ws wk came all wa wo) (t : Int) (h1 : ws.length < 4294967296) (h2 : wk.length < 4294967296) (h3 : ms.length < 4294967296) :
    wpCall EW 22 [.ptr p 0 0, .int .i64 t] H (fun out H' => out = .ret (.tup []) false ∧ ∃ wa' wo', LK H' p (ms.map (dropMon t)) (ysel (otherB t) ws ws.length) (ysel (otherB t) wk wk.length) came all wa' wo') := by
  have L1 := L.app [.cells [.int .i64 t]]
  obtain ⟨p1, p2, p3, p4, p5⟩ := L.lt
  have hb1 := L1.blk
  have hm1 : (H ++ [Blk.cells [V.int .i64 t]])[H.length]? = some (.cells [.int .i64 t]) := get_last _ _
  have hlen := L.al.rd.len
  rw [List.length_map] at hlen
  have hfr := L.al.rd.grows
  refine runs f22 b22 r22 n22 _ _ ?_
  simp only [bodyOf, Try.f22, Option.getD_some]
  simp only [WW, partV, eqCells, eqLf, minV, maxV, ifcV, zaa, zab, zac, zad, zae, zaf, zag, zah, zai, ofConst, ofConst1, List.replicate, zaj, zak, loadOp, Go.Abs.loadCells, binV, zal, pickV, zam, zan, zao, zap, zaq, zar, zas, zat, zau, outR, resAll, resOne, zav, zaw, zax, zay, zaz, zba, zbb, zbc, zbd, zbe, zbf, zbg, zbh, zbi, zbj, zbk, storeOp, storeCell, overlay, zbl, zbm, zbn, lookupOp, keyT, okRes, mapUpdateOp, zbo, zbp, zbq, zbr, zbs, zbt, zbu, Nat.reduceSub, Nat.reduceAdd, Int.reduceLT, Int.reduceLE, Int.reduceAdd, Int.reduceSub, Int.reduceToNat, Int.reduceBEq, Int.reduceBNe, Int.reduceMul, Nat.reduceBEq, Nat.reduceBNe, Nat.reduceLT, Nat.reduceLeDiff, Nat.reduceMul, Nat.reduceEqDiff, WD, effB, effH, isPriv, isHeap, isImm, zbx, zby, zbz, chkO, setD, dslot, zca, zcb, zcc, zcd, ptrCells_some, F22, hb1, L1.al.shut, L1.al.rd.len]
  refine wC_loop _ (fun n st H' => ∃ (i : Nat) (ms' : List Mon), st = ⟨L22_3 (.v (.ptr p 0 0)) (.v (.ptr H.length 0 0)) (.v all) (.v (.int .i64 ms.length)) (.v (.int .i64 i)), [], []⟩ ∧ LK H' p ms' ws wk came all wa wo ∧ H'[H.length]? = some (.cells [.int .i64 t]) ∧ ids ms' = ids ms ∧ (∀ j, ms'[j]? = if j < i then (ms[j]?).map (dropMon t) else ms[j]?) ∧ i ≤ ms.length ∧ n = ms.length - i) ms.length ⟨0, ms, ?_, L1, hm1, rfl, fun j => by simp, by omega, by omega⟩ ?_
  · simp only [WN, firstReg, growAll, zbv, zbw, norm, killS, zag, zah, zaa, zab, zbl, zat, zad, growOne, zae, zaf, zac, zas, zak, Nat.reduceLT, Nat.reduceAdd, zbj, zav, F22, L22_3, L1.al.rd.clip2]
    try rfl
  · rintro n st H' ⟨i, ms', rfl, L', hm', hid, hms, hi, rfl⟩
    simp only [L22_3]
    by_cases hlt : i < ms.length
    · have g1 : decide ((i : Int) < (ms.length : Int)) = true := decide_eq_true (by omega)
      have hd : ms[i]? = some ms[i] := List.getElem?_eq_getElem hlt
      generalize ms[i] = x at hd
      have hd' : ms'[i]? = some x := by rw [hms, if_neg (by omega)]; exact hd
      have hat := L'.al.rd.at_ (sz := 1) (i := i) (e := ptrV x) (by rw [List.getElem?_map, hd']; rfl) rfl
      have ha1 := hat.at1 L'.al.rd
      have hx' : H'[x.id]? = some (.cells [.agg [.int .i64 x.t, .int .i64 x.n]]) := L'.mon x (List.mem_of_getElem? hd')
      have hi1 : IntKind.i64.wrap ((i : Int) + 1) = ((i + 1 : Nat) : Int) := by rw [IntWalk.i64_in _ (by omega)]; omega
      have hxid : x.id ≠ H.length := by
        intro e
        have := p2 x.id (by rw [← hid]; exact mem_ids (List.mem_of_getElem? hd')); omega
      cases g2 : (x.t == t) with
      | true =>
        have L2 := L'.put hd' (y := ⟨x.id, -1, 0⟩) rfl
        simp only [WW, partV, eqCells, eqLf, minV, maxV, ifcV, zaa, zab, zac, zad, zae, zaf, zag, zah, zai, ofConst, ofConst1, List.replicate, zaj, zak, loadOp, Go.Abs.loadCells, binV, zal, pickV, zam, zan, zao, zap, zaq, zar, zas, zat, zau, outR, resAll, resOne, zav, zaw, zax, zay, zaz, zba, zbb, zbc, zbd, zbe, zbf, zbg, zbh, zbi, zbj, zbk, storeOp, storeCell, overlay, zbl, zbm, zbn, lookupOp, keyT, okRes, mapUpdateOp, zbo, zbp, zbq, zbr, zbs, zbt, zbu, Nat.reduceSub, Nat.reduceAdd, Int.reduceLT, Int.reduceLE, Int.reduceAdd, Int.reduceSub, Int.reduceToNat, Int.reduceBEq, Int.reduceBNe, Int.reduceMul, Nat.reduceBEq, Nat.reduceBNe, Nat.reduceLT, Nat.reduceLeDiff, Nat.reduceMul, Nat.reduceEqDiff, WD, effB, effH, isPriv, isHeap, isImm, zbx, zby, zbz, chkO, setD, dslot, zca, zcb, zcc, zcd, ptrCells_some, F22, g1, L'.al.shut, ha1, hat.cells, ptrV, hx', hm']
        refine wC_dr alts22_5 (by kernel_rfl) ?_
        simp only [WW, partV, eqCells, eqLf, minV, maxV, ifcV, zaa, zab, zac, zad, zae, zaf, zag, zah, zai, ofConst, ofConst1, List.replicate, zaj, zak, loadOp, Go.Abs.loadCells, binV, zal, pickV, zam, zan, zao, zap, zaq, zar, zas, zat, zau, outR, resAll, resOne, zav, zaw, zax, zay, zaz, zba, zbb, zbc, zbd, zbe, zbf, zbg, zbh, zbi, zbj, zbk, storeOp, storeCell, overlay, zbl, zbm, zbn, lookupOp, keyT, okRes, mapUpdateOp, zbo, zbp, zbq, zbr, zbs, zbt, zbu, Nat.reduceSub, Nat.reduceAdd, Int.reduceLT, Int.reduceLE, Int.reduceAdd, Int.reduceSub, Int.reduceToNat, Int.reduceBEq, Int.reduceBNe, Int.reduceMul, Nat.reduceBEq, Nat.reduceBNe, Nat.reduceLT, Nat.reduceLeDiff, Nat.reduceMul, Nat.reduceEqDiff, WD, effB, effH, isPriv, isHeap, isImm, zbx, zby, zbz, chkO, setD, dslot, zca, zcb, zcc, zcd, ptrCells_some, F22, alts22_5, hx', hm', g2, buildOp, fillV, Lay.place, Bool.or_self, Bool.or_false, Bool.false_or, decide_not, ne_eq, not_true_eq_false, decide_eq_true_eq, Nat.lt_irrefl, storeHeap, prom_agg, promote, heapSet, elemSet, hi1]
        refine ⟨ms.length - (i + 1), by omega, i + 1, ms'.set i ⟨x.id, -1, 0⟩, ?_, L2, ?_, ?_, ?_, by omega, rfl⟩
        · simp only [WN, firstReg, growAll, zbv, zbw, norm, killS, zag, zah, zaa, zab, zbl, zat, zad, growOne, zae, zaf, zac, zas, zak, Nat.reduceLT, Nat.reduceAdd, zbj, zav, F22, L22_3, L2.al.rd.clip2]
          try rfl
        · rw [List.getElem?_set_ne hxid]; exact hm'
        · rw [ids_set (y := ⟨x.id, -1, 0⟩) hd' rfl]; exact hid
        · intro j
          rw [List.getElem?_set]
          by_cases hj : i = j
          · subst hj
            rw [if_pos rfl, if_pos (List.getElem?_eq_some_iff.1 hd').1, if_pos (by omega), hd]
            simp only [Option.map_some, dropMon, g2, if_true]
          · rw [if_neg hj, hms]
            by_cases hj2 : j < i
            · rw [if_pos hj2, if_pos (by omega)]
            · rw [if_neg hj2, if_neg (by omega)]
      | false =>
        simp only [WW, partV, eqCells, eqLf, minV, maxV, ifcV, zaa, zab, zac, zad, zae, zaf, zag, zah, zai, ofConst, ofConst1, List.replicate, zaj, zak, loadOp, Go.Abs.loadCells, binV, zal, pickV, zam, zan, zao, zap, zaq, zar, zas, zat, zau, outR, resAll, resOne, zav, zaw, zax, zay, zaz, zba, zbb, zbc, zbd, zbe, zbf, zbg, zbh, zbi, zbj, zbk, storeOp, storeCell, overlay, zbl, zbm, zbn, lookupOp, keyT, okRes, mapUpdateOp, zbo, zbp, zbq, zbr, zbs, zbt, zbu, Nat.reduceSub, Nat.reduceAdd, Int.reduceLT, Int.reduceLE, Int.reduceAdd, Int.reduceSub, Int.reduceToNat, Int.reduceBEq, Int.reduceBNe, Int.reduceMul, Nat.reduceBEq, Nat.reduceBNe, Nat.reduceLT, Nat.reduceLeDiff, Nat.reduceMul, Nat.reduceEqDiff, WD, effB, effH, isPriv, isHeap, isImm, zbx, zby, zbz, chkO, setD, dslot, zca, zcb, zcc, zcd, ptrCells_some, F22, g1, L'.al.shut, ha1, hat.cells, ptrV, hx', hm']
        refine wC_dr alts22_5 (by kernel_rfl) ?_
        simp only [WW, partV, eqCells, eqLf, minV, maxV, ifcV, zaa, zab, zac, zad, zae, zaf, zag, zah, zai, ofConst, ofConst1, List.replicate, zaj, zak, loadOp, Go.Abs.loadCells, binV, zal, pickV, zam, zan, zao, zap, zaq, zar, zas, zat, zau, outR, resAll, resOne, zav, zaw, zax, zay, zaz, zba, zbb, zbc, zbd, zbe, zbf, zbg, zbh, zbi, zbj, zbk, storeOp, storeCell, overlay, zbl, zbm, zbn, lookupOp, keyT, okRes, mapUpdateOp, zbo, zbp, zbq, zbr, zbs, zbt, zbu, Nat.reduceSub, Nat.reduceAdd, Int.reduceLT, Int.reduceLE, Int.reduceAdd, Int.reduceSub, Int.reduceToNat, Int.reduceBEq, Int.reduceBNe, Int.reduceMul, Nat.reduceBEq, Nat.reduceBNe, Nat.reduceLT, Nat.reduceLeDiff, Nat.reduceMul, Nat.reduceEqDiff, WD, effB, effH, isPriv, isHeap, isImm, zbx, zby, zbz, chkO, setD, dslot, zca, zcb, zcc, zcd, ptrCells_some, F22, alts22_5, hx', hm', g2, hi1]
        refine ⟨ms.length - (i + 1), by omega, i + 1, ms', ?_, L', hid, ?_, by omega, rfl⟩
        · simp only [WN, firstReg, growAll, zbv, zbw, norm, killS, zag, zah, zaa, zab, zbl, zat, zad, growOne, zae, zaf, zac, zas, zak, Nat.reduceLT, Nat.reduceAdd, zbj, zav, F22, L22_3, L'.al.rd.clip2]
          try rfl
        · intro j
          rw [hms]
          by_cases hj : i = j
          · subst hj
            rw [if_neg (by omega), if_pos (by omega), hd]
            simp only [Option.map_some, dropMon, g2, Bool.false_eq_true, if_false]
          · by_cases hj2 : j < i
            · rw [if_pos hj2, if_pos (by omega)]
            · rw [if_neg hj2, if_neg (by omega)]
    · have g1 : decide ((i : Int) < (ms.length : Int)) = false := decide_eq_false (by omega)
      have hie : i = ms.length := by omega
      subst hie
      have hmm : ms' = ms.map (dropMon t) := List.ext_getElem? fun j => by
        rw [hms, List.getElem?_map]
        by_cases hj : j < ms.length
        · rw [if_pos hj]
        · rw [if_neg hj, List.getElem?_eq_none (by omega)]; rfl
      subst hmm
      have hb' := L'.blk
      obtain ⟨q1, q2, q3, q4, q5⟩ := L'.lt
      have hml := (List.getElem?_eq_some_iff.1 hm').1
      have hna : bx wa ≠ some H.length := fun e => by have := p4 _ e; omega
      have hno : bx wo ≠ some H.length := fun e => by have := p5 _ e; omega
      have hpart := parted_spec (H := H') (x := wa) (l := ws) (b := H.length) (K := fun _ => .cells [.int .i64 t]) (sel := otherB t) (caps := [.ptr H.length 0 0]) (fid := 44)
        L'.ws.sx hm' hna h1 (by kernel_rfl) (fun i s Hc hd hf hb => by
          have c1 := other_eq hb s
          rw [set_same hb]; exact c1)
      simp only [WW, partV, eqCells, eqLf, minV, maxV, ifcV, zaa, zab, zac, zad, zae, zaf, zag, zah, zai, ofConst, ofConst1, List.replicate, zaj, zak, loadOp, Go.Abs.loadCells, binV, zal, pickV, zam, zan, zao, zap, zaq, zar, zas, zat, zau, outR, resAll, resOne, zav, zaw, zax, zay, zaz, zba, zbb, zbc, zbd, zbe, zbf, zbg, zbh, zbi, zbj, zbk, storeOp, storeCell, overlay, zbl, zbm, zbn, lookupOp, keyT, okRes, mapUpdateOp, zbo, zbp, zbq, zbr, zbs, zbt, zbu, Nat.reduceSub, Nat.reduceAdd, Int.reduceLT, Int.reduceLE, Int.reduceAdd, Int.reduceSub, Int.reduceToNat, Int.reduceBEq, Int.reduceBNe, Int.reduceMul, Nat.reduceBEq, Nat.reduceBNe, Nat.reduceLT, Nat.reduceLeDiff, Nat.reduceMul, Nat.reduceEqDiff, WD, effB, effH, isPriv, isHeap, isImm, zbx, zby, zbz, chkO, setD, dslot, zca, zcb, zcc, zcd, ptrCells_some, F22, g1, hb', L'.ws.shut]
      refine wpCall_of hpart ?_
      rintro out H4 ⟨y, n, rfl, hy, hn, hb4, hf4, hge4⟩
      have L4 : LK H4 p (ms.map (dropMon t)) ws wk came all wa wo := L'.keep (fun i hi => by
        refine hf4 i ?_ ?_ <;> (rcases hi with (rfl | hi | hi | hi) | hi)
        · omega
        · exact q2 i hi
        · exact q3 i hi
        · exact q4 i hi
        · exact q5 i hi
        · omega
        · have := p2 i (by rw [← hid]; exact hi); omega
        · have := p3 i hi; omega
        · have := p4 i hi; omega
        · have := p5 i hi; omega)
      have L5 := L4.reW (came' := came) (hy.weaken (N' := NN p (ids (ms.map (dropMon t))) all wo) (fun i hi => by
        left
        rcases hi with rfl | hi | hi | hi
        · omega
        · exact q2 i hi
        · exact q3 i hi
        · exact q5 i hi)) (fun _ _ => rfl)
      have hp4 := L4.blk
      have hp5 := L5.blk
      have hm5 : (H4.set p (.cells [.agg [all, y, wo, .int .i64 came]]))[H.length]? = some (.cells [.int .i64 t]) := by
        rw [List.getElem?_set_ne (by omega)]; exact hb4
      have hpart2 := parted_spec (H := H4.set p (.cells [.agg [all, y, wo, .int .i64 came]])) (x := wo) (l := wk) (b := H.length) (K := fun _ => .cells [.int .i64 t]) (sel := otherB t) (caps := [.ptr H.length 0 0]) (fid := 44)
        L5.wk.sx hm5 hno h2 (by kernel_rfl) (fun i s Hc hd hf hb => by
          have c1 := other_eq hb s
          rw [set_same hb]; exact c1)
      obtain ⟨s1, s2, s3, s4, s5⟩ := L5.lt
      have hsl := (List.getElem?_eq_some_iff.1 hm5).1
      simp only [WW, partV, eqCells, eqLf, minV, maxV, ifcV, zaa, zab, zac, zad, zae, zaf, zag, zah, zai, ofConst, ofConst1, List.replicate, zaj, zak, loadOp, Go.Abs.loadCells, binV, zal, pickV, zam, zan, zao, zap, zaq, zar, zas, zat, zau, outR, resAll, resOne, zav, zaw, zax, zay, zaz, zba, zbb, zbc, zbd, zbe, zbf, zbg, zbh, zbi, zbj, zbk, storeOp, storeCell, overlay, zbl, zbm, zbn, lookupOp, keyT, okRes, mapUpdateOp, zbo, zbp, zbq, zbr, zbs, zbt, zbu, Nat.reduceSub, Nat.reduceAdd, Int.reduceLT, Int.reduceLE, Int.reduceAdd, Int.reduceSub, Int.reduceToNat, Int.reduceBEq, Int.reduceBNe, Int.reduceMul, Nat.reduceBEq, Nat.reduceBNe, Nat.reduceLT, Nat.reduceLeDiff, Nat.reduceMul, Nat.reduceEqDiff, WD, effB, effH, isPriv, isHeap, isImm, zbx, zby, zbz, chkO, setD, dslot, zca, zcb, zcc, zcd, ptrCells_some, F22, hy.shut, hn.shut, hp4, storeHeap, hy.prom, heapSet, elemSet, hy.ok, hy.cells1, hy.width1, hp5, L5.wk.shut]
      refine wpCall_of hpart2 ?_
      rintro out H6 ⟨y2, n2, rfl, hy2, hn2, hb6, hf6, hge6⟩
      have L6 := L5.keep (H' := H6) (fun i hi => by
        have hne : i ≠ H.length := by
          rcases hi with (rfl | hi | hi | hi) | hi
          · omega
          · have := p2 i (by rw [← hid]; exact hi); omega
          · have := p3 i hi; omega
          · have := (slw_lt hy hi).2; intro e; exact this (.inl (by omega))
          · have := p5 i hi; omega
        refine hf6 i ?_ hne
        rcases hi with (rfl | hi | hi | hi) | hi
        · exact s1
        · exact s2 i hi
        · exact s3 i hi
        · exact s4 i hi
        · exact s5 i hi)
      have L7 := L6.reK (hy2.weaken (N' := NN p (ids (ms.map (dropMon t))) all y) (fun i hi => by
        left
        rcases hi with rfl | hi | hi | hi
        · exact s1
        · exact s2 i hi
        · exact s3 i hi
        · exact s4 i hi)) (fun _ _ => rfl)
      have hp6 := L6.blk
      simp only [WW, partV, eqCells, eqLf, minV, maxV, ifcV, zaa, zab, zac, zad, zae, zaf, zag, zah, zai, ofConst, ofConst1, List.replicate, zaj, zak, loadOp, Go.Abs.loadCells, binV, zal, pickV, zam, zan, zao, zap, zaq, zar, zas, zat, zau, outR, resAll, resOne, zav, zaw, zax, zay, zaz, zba, zbb, zbc, zbd, zbe, zbf, zbg, zbh, zbi, zbj, zbk, storeOp, storeCell, overlay, zbl, zbm, zbn, lookupOp, keyT, okRes, mapUpdateOp, zbo, zbp, zbq, zbr, zbs, zbt, zbu, Nat.reduceSub, Nat.reduceAdd, Int.reduceLT, Int.reduceLE, Int.reduceAdd, Int.reduceSub, Int.reduceToNat, Int.reduceBEq, Int.reduceBNe, Int.reduceMul, Nat.reduceBEq, Nat.reduceBNe, Nat.reduceLT, Nat.reduceLeDiff, Nat.reduceMul, Nat.reduceEqDiff, WD, effB, effH, isPriv, isHeap, isImm, zbx, zby, zbz, chkO, setD, dslot, zca, zcb, zcc, zcd, ptrCells_some, F22, hy2.shut, hn2.shut, hp6, storeHeap, hy2.prom, heapSet, elemSet, hy2.ok, hy2.cells1, hy2.width1]
      exact ⟨y, y2, L7⟩
end Go.Proofs.Ythicacphcljdmaa

/- At most two monitors a thread, owned or waited for: a plain law. -/
namespace Go.Proofs.Ythicacphcljdmaa
open Go Go.Abs Go.Proofs
set_option maxRecDepth 100000
set_option maxHeartbeats 4000000
set_option linter.unusedVariables false
set_option linter.unusedSimpArgs false
def cS (l : List Slp) (t : Int) : Nat := l.countP (fun s => s.t == t)
def cM (l : List Mon) (t : Int) : Nat := l.countP (fun s => s.t == t)
theorem cS_app (a b : List Slp) (t : Int) : cS (a ++ b) t = cS a t + cS b t := List.countP_append
theorem cS_tell (a : List Slp) (o : Bool) (t : Int) : cS (a.map (tellS o)) t = cS a t := by
  unfold cS; rw [List.countP_map]; rfl
theorem cS_perm {a b : List Slp} (h : a.Perm b) (t : Int) : cS a t = cS b t := h.countP_eq _
theorem cS_one (s : Slp) (t : Int) : cS [s] t = if s.t = t then 1 else 0 := by
  simp [cS, List.countP_cons]
theorem cS_parts (sel : Nat → Slp → Bool) (l : List Slp) (t : Int) : ∀ i, i ≤ l.length → cS (ysel sel l i) t + cS (nsel sel l i) t = cS (l.take i) t
  | 0, _ => by simp [ysel, nsel, cS]
  | i + 1, h => by
    have ih := cS_parts sel l t i (by omega)
    have hd : l[i]? = some l[i] := List.getElem?_eq_getElem (by omega)
    rw [ysel, nsel, List.take_add_one, hd]
    dsimp only
    split
    · simp only [cS_app, List.append_nil, Option.toList]; omega
    · simp only [cS_app, List.append_nil, Option.toList]; omega
theorem cS_both (sel : Nat → Slp → Bool) (l : List Slp) (t : Int) : cS (ysel sel l l.length) t + cS (nsel sel l l.length) t = cS l t := by
  have := cS_parts sel l t l.length (Nat.le_refl _)
  rwa [List.take_length] at this
theorem mem_ysel {sel : Nat → Slp → Bool} {l : List Slp} {s : Slp} : ∀ i, s ∈ ysel sel l i → s ∈ l
  | 0, h => by simp [ysel] at h
  | i + 1, h => by
    rw [ysel] at h
    rcases List.mem_append.1 h with h | h
    · exact mem_ysel i h
    · split at h
      · rename_i x hx
        split at h
        · rw [List.mem_singleton.1 h]; exact List.mem_of_getElem? hx
        · cases h
      · cases h
theorem mem_nsel {sel : Nat → Slp → Bool} {l : List Slp} {s : Slp} : ∀ i, s ∈ nsel sel l i → s ∈ l
  | 0, h => by simp [nsel] at h
  | i + 1, h => by
    rw [nsel] at h
    rcases List.mem_append.1 h with h | h
    · exact mem_nsel i h
    · split at h
      · rename_i x hx
        split at h
        · cases h
        · rw [List.mem_singleton.1 h]; exact List.mem_of_getElem? hx
      · cases h
theorem cS_erase {l : List Slp} {s : Slp} (t : Int) : ∀ {i : Nat}, l[i]? = some s → cS l t = cS (l.eraseIdx i) t + (if s.t = t then 1 else 0) := by
  induction l with
  | nil => intro i h; cases h
  | cons a l ih =>
    intro i h
    cases i with
    | zero =>
      cases h
      simp [cS, List.countP_cons]
    | succ i =>
      have := ih (i := i) h
      simp only [cS, List.eraseIdx_cons_succ, List.countP_cons] at this ⊢
      omega
theorem cM_set {ms : List Mon} {k : Nat} {x : Mon} (y : Mon) (t : Int) (h : ms[k]? = some x) : cM (ms.set k y) t + (if x.t = t then 1 else 0) = cM ms t + (if y.t = t then 1 else 0) := by
  induction ms generalizing k with
  | nil => cases h
  | cons a l ih =>
    cases k with
    | zero => cases h; simp [cM, List.countP_cons]; omega
    | succ k =>
      have := ih (k := k) h
      simp only [cM, List.set_cons_succ, List.countP_cons] at this ⊢
      omega
theorem cM_drop (ms : List Mon) (d t : Int) (ht : 0 ≤ t) : cM (ms.map (dropMon d)) t ≤ cM ms t := by
  induction ms with
  | nil => exact Nat.le_refl _
  | cons a l ih =>
    simp only [cM, List.map_cons, List.countP_cons] at ih ⊢
    have : (if ((dropMon d a).t == t) = true then 1 else 0) ≤ (if (a.t == t) = true then 1 else 0) := by
      unfold dropMon
      split
      · rw [if_neg (by simp; omega)]; omega
      · omega
    omega
theorem cS_findT {l : List Slp} {t : Int} (h : findT l t < 0) : cS l t = 0 := by
  unfold findT at h
  cases hf : l.findIdx? (fun s => s.t == t) with
  | some i => rw [hf] at h; simp at h; omega
  | none =>
    rw [List.findIdx?_eq_none_iff] at hf
    exact List.countP_eq_zero.2 (fun a ha => by rw [hf a ha]; simp)
theorem findT_cS {l : List Slp} {t : Int} (h : cS l t = 0) : findT l t = -1 := by
  rcases findT_cases l t with h1 | h1
  · exact h1
  · obtain ⟨i, s, _, hs, ht⟩ := findT_at h1
    have := List.countP_eq_zero.1 h s (List.mem_of_getElem? hs)
    simp [ht] at this
theorem cS_len {l : List Slp} (h : ∀ s ∈ l, 0 ≤ s.t ∧ s.t < 5) : l.length = cS l 0 + cS l 1 + cS l 2 + cS l 3 + cS l 4 := by
  induction l with
  | nil => rfl
  | cons a l ih =>
    have := ih (fun s hs => h s (List.mem_cons_of_mem _ hs))
    obtain ⟨h1, h2⟩ := h a List.mem_cons_self
    have hc : a.t = 0 ∨ a.t = 1 ∨ a.t = 2 ∨ a.t = 3 ∨ a.t = 4 := by omega
    simp only [cS, List.countP_cons, List.length_cons] at this ⊢
    rcases hc with e | e | e | e | e <;> rw [e] <;> simp <;> omega
def okT (t n : Int) : Prop := 0 ≤ t ∧ t < 5 ∧ 0 < n ∧ n ≤ 1099511627776
structure Fr (ms : List Mon) (ws wk : List Slp) : Prop where
  len : ms.length = 2
  mon : ∀ x ∈ ms, (x.t = -1 ∧ x.n = 0) ∨ okT x.t x.n
  slp : ∀ s, s ∈ ws ∨ s ∈ wk → okT s.t s.n
  cnt : ∀ t, 0 ≤ t → cS ws t + cS wk t + cM ms t ≤ 2
theorem Fr.small {ms : List Mon} {ws wk : List Slp} (h : Fr ms ws wk) : ws.length ≤ 10 ∧ wk.length ≤ 10 := by
  have a := cS_len (l := ws) (fun s hs => ⟨(h.slp s (.inl hs)).1, (h.slp s (.inl hs)).2.1⟩)
  have b := cS_len (l := wk) (fun s hs => ⟨(h.slp s (.inr hs)).1, (h.slp s (.inr hs)).2.1⟩)
  have c0 := h.cnt 0 (by omega)
  have c1 := h.cnt 1 (by omega)
  have c2 := h.cnt 2 (by omega)
  have c3 := h.cnt 3 (by omega)
  have c4 := h.cnt 4 (by omega)
  omega
theorem mem_set {ms : List Mon} {k : Nat} {y z : Mon} (h : z ∈ ms.set k y) : z = y ∨ z ∈ ms := by
  rcases List.mem_or_eq_of_mem_set h with h | h
  · exact .inr h
  · exact .inl h
theorem Fr.lock {ms : List Mon} {ws wk : List Slp} (h : Fr ms ws wk) (m t : Int) (ht : t < 5) : Fr (lockM ms ws wk m t).2 ws wk := by
  unfold lockM
  split
  · exact h
  rename_i hw
  obtain ⟨k, rfl, x, hk, h1, h2⟩ := wrong_in (by simpa using hw)
  split
  · exact h
  rename_i hb
  rw [show ((k : Nat) : Int).toNat = k from rfl, hk]
  dsimp only
  split
  · exact h
  rename_i hn
  simp only [Bool.not_eq_true, Bool.or_eq_false_iff, decide_eq_false_iff_not, Bool.not_eq_false'] at hb
  have f1 := cS_findT (l := ws) (t := t) (by omega)
  have f2 := cS_findT (l := wk) (t := t) (by omega)
  have hx := h.mon x (List.mem_of_getElem? hk)
  have hn0 : 0 ≤ x.n ∧ x.n < 1099511627776 := by
    simp only [beq_iff_eq] at hn
    rcases hx with ⟨_, h3⟩ | ⟨_, _, h3, h4⟩ <;> omega
  have hwr : IntKind.i64.wrap (x.n + 1) = x.n + 1 := IntWalk.i64_in _ (by omega)
  rw [hwr]
  have hfr : x.t = -1 ∨ x.t = t := by
    have := hb.1.1
    unfold freeB at this
    simp only [Bool.and_eq_true, show ((k : Nat) : Int).toNat = k from rfl, hk, Option.any_some, Bool.or_eq_true, beq_iff_eq] at this
    rcases this.2 with e | e
    · rcases hx with ⟨h3, _⟩ | ⟨_, _, h3, _⟩
      · exact .inl h3
      · omega
    · exact .inr e
  show Fr (ms.set k ⟨x.id, t, x.n + 1⟩) ws wk
  refine ⟨by rw [List.length_set]; exact h.len, fun y hy => ?_, h.slp, fun u hu => ?_⟩
  · rcases mem_set hy with rfl | hy
    · exact .inr ⟨h1, ht, by dsimp only; omega, by dsimp only; omega⟩
    · exact h.mon y hy
  · have := cM_set ⟨x.id, t, x.n + 1⟩ u hk
    have hc := h.cnt u hu
    dsimp only at this
    by_cases hut : t = u
    · subst hut
      rw [f1, f2]
      have h9 : cM (ms.set k ⟨x.id, t, x.n + 1⟩) t ≤ (ms.set k ⟨x.id, t, x.n + 1⟩).length := List.countP_le_length
      rw [List.length_set, h.len] at h9
      omega
    · rw [if_neg hut] at this
      omega
theorem Fr.unlock {ms : List Mon} {ws wk : List Slp} (h : Fr ms ws wk) (m t : Int) : Fr (unlockM ms m t).2 ws wk := by
  unfold unlockM
  split
  case isFalse => exact h
  rename_i hh
  obtain ⟨k, rfl, x, hk, hn, hxt, h1, h2⟩ := has_in hh
  rw [show ((k : Nat) : Int).toNat = k from rfl, hk]
  dsimp only
  have hx := h.mon x (List.mem_of_getElem? hk)
  have hx' : okT x.t x.n := by
    rcases hx with ⟨_, h3⟩ | h3
    · exact absurd h3 hn
    · exact h3
  obtain ⟨a1, a2, a3, a4⟩ := hx'
  have hwr : IntKind.i64.wrap (x.n - 1) = x.n - 1 := IntWalk.i64_in _ (by omega)
  rw [hwr]
  show Fr (ms.set k ⟨x.id, if x.n - 1 == 0 then -1 else x.t, x.n - 1⟩) ws wk
  refine ⟨by rw [List.length_set]; exact h.len, fun y hy => ?_, h.slp, fun u hu => ?_⟩
  · rcases mem_set hy with rfl | hy
    · dsimp only
      split
      · rename_i e
        exact .inl ⟨rfl, by simpa using e⟩
      · rename_i e
        simp only [beq_iff_eq] at e
        exact .inr ⟨a1, a2, by omega, by omega⟩
    · exact h.mon y hy
  · have := cM_set ⟨x.id, if x.n - 1 == 0 then -1 else x.t, x.n - 1⟩ u hk
    have hc := h.cnt u hu
    by_cases e : (x.n - 1 == 0) = true
    · simp only [if_pos e] at this ⊢
      rw [if_neg (show ¬ (-1 : Int) = u by omega)] at this
      omega
    · simp only [if_neg e] at this ⊢
      omega
theorem Fr.wait {ms : List Mon} {ws wk : List Slp} (h : Fr ms ws wk) (came m t u : Int) : Fr (waitM ms ws came m t u).2.1 (waitM ms ws came m t u).2.2.1 wk := by
  unfold waitM
  split
  · exact h
  split
  · exact h
  split
  case isFalse => exact h
  rename_i hh
  obtain ⟨k, rfl, x, hk, hn, hxt, h1, h2⟩ := has_in hh
  rw [show ((k : Nat) : Int).toNat = k from rfl, hk]
  dsimp only
  have hx' : okT x.t x.n := by
    rcases h.mon x (List.mem_of_getElem? hk) with ⟨_, h3⟩ | h3
    · exact absurd h3 hn
    · exact h3
  refine ⟨by rw [List.length_set]; exact h.len, fun y hy => ?_, fun s hs => ?_, fun v hv => ?_⟩
  · rcases mem_set hy with rfl | hy
    · exact .inl ⟨rfl, rfl⟩
    · exact h.mon y hy
  · rcases hs with hs | hs
    · rcases List.mem_append.1 hs with hs | hs
      · exact h.slp s (.inl hs)
      · rw [List.mem_singleton.1 hs]; exact hx'
    · exact h.slp s (.inr hs)
  · have := cM_set ⟨x.id, -1, 0⟩ v hk
    have hc := h.cnt v hv
    dsimp only at this
    rw [if_neg (show ¬ (-1 : Int) = v by omega)] at this
    rw [cS_app, cS_one]
    dsimp only
    omega
theorem Fr.notify {ms : List Mon} {ws wk : List Slp} (h : Fr ms ws wk) (sel : Nat → Slp → Bool) (told : Bool) {l : List Slp} (hp : l.Perm (ysel sel ws ws.length)) : Fr ms (nsel sel ws ws.length) (wk ++ l.map (tellS told)) := by
  refine ⟨h.len, h.mon, fun s hs => ?_, fun t ht => ?_⟩
  · rcases hs with hs | hs
    · exact h.slp s (.inl (mem_nsel _ hs))
    · rcases List.mem_append.1 hs with hs | hs
      · exact h.slp s (.inr hs)
      · obtain ⟨r, hr, rfl⟩ := List.mem_map.1 hs
        exact h.slp r (.inl (mem_ysel _ (hp.mem_iff.1 hr)))
  · have hc := h.cnt t ht
    have := cS_both sel ws t
    rw [cS_app, cS_tell, cS_perm hp]
    omega
theorem Fr.relock {ms : List Mon} {ws wk : List Slp} (h : Fr ms ws wk) (t : Int) : Fr (relockM ms wk t).2.1 ws (relockM ms wk t).2.2 := by
  unfold relockM
  split
  · exact h
  split
  case h_2 => exact h
  rename_i s hs
  split
  · exact h
  rename_i hf
  simp only [not_or, Bool.not_eq_false] at hf
  obtain ⟨k, hk0, x, hk⟩ := free_in hf.2
  rw [hk0, show ((k : Nat) : Int).toNat = k from rfl, hk]
  dsimp only
  have hsm := List.mem_of_getElem? hs
  refine ⟨by rw [List.length_set]; exact h.len, fun y hy => ?_, fun r hr => ?_, fun v hv => ?_⟩
  · rcases mem_set hy with rfl | hy
    · exact .inr (h.slp s (.inr hsm))
    · exact h.mon y hy
  · rcases hr with hr | hr
    · exact h.slp r (.inl hr)
    · exact h.slp r (.inr (List.mem_of_mem_eraseIdx hr))
  · have := cM_set ⟨x.id, s.t, s.n⟩ v hk
    have hc := h.cnt v hv
    have he := cS_erase v hs
    dsimp only at this
    omega
theorem Fr.drop {ms : List Mon} {ws wk : List Slp} (h : Fr ms ws wk) (t : Int) : Fr (ms.map (dropMon t)) (ysel (otherB t) ws ws.length) (ysel (otherB t) wk wk.length) := by
  refine ⟨by rw [List.length_map]; exact h.len, fun y hy => ?_, fun s hs => ?_, fun v hv => ?_⟩
  · obtain ⟨x, hx, rfl⟩ := List.mem_map.1 hy
    unfold dropMon
    split
    · exact .inl ⟨rfl, rfl⟩
    · exact h.mon x hx
  · rcases hs with hs | hs
    · exact h.slp s (.inl (mem_ysel _ hs))
    · exact h.slp s (.inr (mem_ysel _ hs))
  · have hc := h.cnt v hv
    have a := cS_both (otherB t) ws v
    have b := cS_both (otherB t) wk v
    have c := cM_drop ms t v hv
    omega
end Go.Proofs.Ythicacphcljdmaa

/- The document's monitors, where there are none. -/
namespace Go.Proofs.Ythicacphcljdmaa
open Go Go.Abs Go.Proofs
set_option maxRecDepth 100000
set_option maxHeartbeats 4000000
set_option linter.unusedVariables false
set_option linter.unusedSimpArgs false
def nR : V := .agg [.nils, .nils, .nils]
theorem rwrong0 (m t : Int) (H : Hp) : EW 51 [nR, .int .i64 m, .int .i64 t] H = some (.ret (.bool true) false, H) := by
  refine eqOf2 (runs f51 b51 r51 n51 _ _ ?_)
  simp only [nR]
  simp only [bodyOf, Try.f51, Option.getD_some]
  cases g1 : decide (m < 0) with
  | true => simp only [WW, partV, eqCells, eqLf, minV, maxV, ifcV, zaa, zab, zac, zad, zae, zaf, zag, zah, zai, ofConst, ofConst1, List.replicate, zaj, zak, loadOp, Go.Abs.loadCells, binV, zal, pickV, zam, zan, zao, zap, zaq, zar, zas, zat, zau, outR, resAll, resOne, zav, zaw, zax, zay, zaz, zba, zbb, zbc, zbd, zbe, zbf, zbg, zbh, zbi, zbj, zbk, storeOp, storeCell, overlay, zbl, zbm, zbn, lookupOp, keyT, okRes, mapUpdateOp, zbo, zbp, zbq, zbr, zbs, zbt, zbu, Nat.reduceSub, Nat.reduceAdd, Int.reduceLT, Int.reduceLE, Int.reduceAdd, Int.reduceSub, Int.reduceToNat, Int.reduceBEq, Int.reduceBNe, Int.reduceMul, Nat.reduceBEq, Nat.reduceBNe, Nat.reduceLT, Nat.reduceLeDiff, Nat.reduceMul, Nat.reduceEqDiff, WD, effB, effH, isPriv, isHeap, isImm, zbx, zby, zbz, chkO, setD, dslot, zca, zcb, zcc, zcd, ptrCells_some, F51, g1]
  | false =>
    have g2 : decide ((0 : Int) ≤ m) = true := by simp at g1 ⊢; omega
    simp only [WW, partV, eqCells, eqLf, minV, maxV, ifcV, zaa, zab, zac, zad, zae, zaf, zag, zah, zai, ofConst, ofConst1, List.replicate, zaj, zak, loadOp, Go.Abs.loadCells, binV, zal, pickV, zam, zan, zao, zap, zaq, zar, zas, zat, zau, outR, resAll, resOne, zav, zaw, zax, zay, zaz, zba, zbb, zbc, zbd, zbe, zbf, zbg, zbh, zbi, zbj, zbk, storeOp, storeCell, overlay, zbl, zbm, zbn, lookupOp, keyT, okRes, mapUpdateOp, zbo, zbp, zbq, zbr, zbs, zbt, zbu, Nat.reduceSub, Nat.reduceAdd, Int.reduceLT, Int.reduceLE, Int.reduceAdd, Int.reduceSub, Int.reduceToNat, Int.reduceBEq, Int.reduceBNe, Int.reduceMul, Nat.reduceBEq, Nat.reduceBNe, Nat.reduceLT, Nat.reduceLeDiff, Nat.reduceMul, Nat.reduceEqDiff, WD, effB, effH, isPriv, isHeap, isImm, zbx, zby, zbz, chkO, setD, dslot, zca, zcb, zcc, zcd, ptrCells_some, F51, g1, g2]
theorem rhas0 (m t : Int) (H : Hp) : EW 55 [nR, .int .i64 m, .int .i64 t] H = some (.ret (.int .i64 1) false, H) := by
  have h := rwrong0 m t H
  refine eqOf2 (runs f55 b55 r55 n55 _ _ ?_)
  simp only [nR] at h ⊢
  simp only [bodyOf, Try.f55, Option.getD_some]
  simp only [WW, partV, eqCells, eqLf, minV, maxV, ifcV, zaa, zab, zac, zad, zae, zaf, zag, zah, zai, ofConst, ofConst1, List.replicate, zaj, zak, loadOp, Go.Abs.loadCells, binV, zal, pickV, zam, zan, zao, zap, zaq, zar, zas, zat, zau, outR, resAll, resOne, zav, zaw, zax, zay, zaz, zba, zbb, zbc, zbd, zbe, zbf, zbg, zbh, zbi, zbj, zbk, storeOp, storeCell, overlay, zbl, zbm, zbn, lookupOp, keyT, okRes, mapUpdateOp, zbo, zbp, zbq, zbr, zbs, zbt, zbu, Nat.reduceSub, Nat.reduceAdd, Int.reduceLT, Int.reduceLE, Int.reduceAdd, Int.reduceSub, Int.reduceToNat, Int.reduceBEq, Int.reduceBNe, Int.reduceMul, Nat.reduceBEq, Nat.reduceBNe, Nat.reduceLT, Nat.reduceLeDiff, Nat.reduceMul, Nat.reduceEqDiff, WD, effB, effH, isPriv, isHeap, isImm, zbx, zby, zbz, chkO, setD, dslot, zca, zcb, zcc, zcd, ptrCells_some, F55]
  rw [wpCall_eq h]
  simp only [WW, partV, eqCells, eqLf, minV, maxV, ifcV, zaa, zab, zac, zad, zae, zaf, zag, zah, zai, ofConst, ofConst1, List.replicate, zaj, zak, loadOp, Go.Abs.loadCells, binV, zal, pickV, zam, zan, zao, zap, zaq, zar, zas, zat, zau, outR, resAll, resOne, zav, zaw, zax, zay, zaz, zba, zbb, zbc, zbd, zbe, zbf, zbg, zbh, zbi, zbj, zbk, storeOp, storeCell, overlay, zbl, zbm, zbn, lookupOp, keyT, okRes, mapUpdateOp, zbo, zbp, zbq, zbr, zbs, zbt, zbu, Nat.reduceSub, Nat.reduceAdd, Int.reduceLT, Int.reduceLE, Int.reduceAdd, Int.reduceSub, Int.reduceToNat, Int.reduceBEq, Int.reduceBNe, Int.reduceMul, Nat.reduceBEq, Nat.reduceBNe, Nat.reduceLT, Nat.reduceLeDiff, Nat.reduceMul, Nat.reduceEqDiff, WD, effB, effH, isPriv, isHeap, isImm, zbx, zby, zbz, chkO, setD, dslot, zca, zcb, zcc, zcd, ptrCells_some, F55]
theorem rlock0 (m t : Int) (H : Hp) : EW 35 [nR, .int .i64 m, .int .i64 t] H = some (.ret (.tup [nR, .int .i64 1]) false, H) := by
  have h := rwrong0 m t H
  refine eqOf2 (runs f35 b35 r35 n35 _ _ ?_)
  simp only [nR] at h ⊢
  simp only [bodyOf, Try.f35, Option.getD_some]
  simp only [WW, partV, eqCells, eqLf, minV, maxV, ifcV, zaa, zab, zac, zad, zae, zaf, zag, zah, zai, ofConst, ofConst1, List.replicate, zaj, zak, loadOp, Go.Abs.loadCells, binV, zal, pickV, zam, zan, zao, zap, zaq, zar, zas, zat, zau, outR, resAll, resOne, zav, zaw, zax, zay, zaz, zba, zbb, zbc, zbd, zbe, zbf, zbg, zbh, zbi, zbj, zbk, storeOp, storeCell, overlay, zbl, zbm, zbn, lookupOp, keyT, okRes, mapUpdateOp, zbo, zbp, zbq, zbr, zbs, zbt, zbu, Nat.reduceSub, Nat.reduceAdd, Int.reduceLT, Int.reduceLE, Int.reduceAdd, Int.reduceSub, Int.reduceToNat, Int.reduceBEq, Int.reduceBNe, Int.reduceMul, Nat.reduceBEq, Nat.reduceBNe, Nat.reduceLT, Nat.reduceLeDiff, Nat.reduceMul, Nat.reduceEqDiff, WD, effB, effH, isPriv, isHeap, isImm, zbx, zby, zbz, chkO, setD, dslot, zca, zcb, zcc, zcd, ptrCells_some, F35]
  rw [wpCall_eq h]
  simp only [WW, partV, eqCells, eqLf, minV, maxV, ifcV, zaa, zab, zac, zad, zae, zaf, zag, zah, zai, ofConst, ofConst1, List.replicate, zaj, zak, loadOp, Go.Abs.loadCells, binV, zal, pickV, zam, zan, zao, zap, zaq, zar, zas, zat, zau, outR, resAll, resOne, zav, zaw, zax, zay, zaz, zba, zbb, zbc, zbd, zbe, zbf, zbg, zbh, zbi, zbj, zbk, storeOp, storeCell, overlay, zbl, zbm, zbn, lookupOp, keyT, okRes, mapUpdateOp, zbo, zbp, zbq, zbr, zbs, zbt, zbu, Nat.reduceSub, Nat.reduceAdd, Int.reduceLT, Int.reduceLE, Int.reduceAdd, Int.reduceSub, Int.reduceToNat, Int.reduceBEq, Int.reduceBNe, Int.reduceMul, Nat.reduceBEq, Nat.reduceBNe, Nat.reduceLT, Nat.reduceLeDiff, Nat.reduceMul, Nat.reduceEqDiff, WD, effB, effH, isPriv, isHeap, isImm, zbx, zby, zbz, chkO, setD, dslot, zca, zcb, zcc, zcd, ptrCells_some, F35]
theorem runlock0 (m t : Int) (H : Hp) : EW 36 [nR, .int .i64 m, .int .i64 t] H = some (.ret (.tup [nR, .int .i64 1]) false, H) := by
  have h := rhas0 m t H
  refine eqOf2 (runs f36 b36 r36 n36 _ _ ?_)
  simp only [nR] at h ⊢
  simp only [bodyOf, Try.f36, Option.getD_some]
  simp only [WW, partV, eqCells, eqLf, minV, maxV, ifcV, zaa, zab, zac, zad, zae, zaf, zag, zah, zai, ofConst, ofConst1, List.replicate, zaj, zak, loadOp, Go.Abs.loadCells, binV, zal, pickV, zam, zan, zao, zap, zaq, zar, zas, zat, zau, outR, resAll, resOne, zav, zaw, zax, zay, zaz, zba, zbb, zbc, zbd, zbe, zbf, zbg, zbh, zbi, zbj, zbk, storeOp, storeCell, overlay, zbl, zbm, zbn, lookupOp, keyT, okRes, mapUpdateOp, zbo, zbp, zbq, zbr, zbs, zbt, zbu, Nat.reduceSub, Nat.reduceAdd, Int.reduceLT, Int.reduceLE, Int.reduceAdd, Int.reduceSub, Int.reduceToNat, Int.reduceBEq, Int.reduceBNe, Int.reduceMul, Nat.reduceBEq, Nat.reduceBNe, Nat.reduceLT, Nat.reduceLeDiff, Nat.reduceMul, Nat.reduceEqDiff, WD, effB, effH, isPriv, isHeap, isImm, zbx, zby, zbz, chkO, setD, dslot, zca, zcb, zcc, zcd, ptrCells_some, F36]
  rw [wpCall_eq h]
  simp only [WW, partV, eqCells, eqLf, minV, maxV, ifcV, zaa, zab, zac, zad, zae, zaf, zag, zah, zai, ofConst, ofConst1, List.replicate, zaj, zak, loadOp, Go.Abs.loadCells, binV, zal, pickV, zam, zan, zao, zap, zaq, zar, zas, zat, zau, outR, resAll, resOne, zav, zaw, zax, zay, zaz, zba, zbb, zbc, zbd, zbe, zbf, zbg, zbh, zbi, zbj, zbk, storeOp, storeCell, overlay, zbl, zbm, zbn, lookupOp, keyT, okRes, mapUpdateOp, zbo, zbp, zbq, zbr, zbs, zbt, zbu, Nat.reduceSub, Nat.reduceAdd, Int.reduceLT, Int.reduceLE, Int.reduceAdd, Int.reduceSub, Int.reduceToNat, Int.reduceBEq, Int.reduceBNe, Int.reduceMul, Nat.reduceBEq, Nat.reduceBNe, Nat.reduceLT, Nat.reduceLeDiff, Nat.reduceMul, Nat.reduceEqDiff, WD, effB, effH, isPriv, isHeap, isImm, zbx, zby, zbz, chkO, setD, dslot, zca, zcb, zcc, zcd, ptrCells_some, F36]
theorem rwait0 (m t u : Int) (H : Hp) : EW 37 [nR, .int .i64 m, .int .i64 t, .int .i64 u] H = some (.ret (.tup [nR, .int .i64 1]) false, H) := by
  have h := rwrong0 m t H
  refine eqOf2 (runs f37 b37 r37 n37 _ _ ?_)
  simp only [nR] at h ⊢
  simp only [bodyOf, Try.f37, Option.getD_some]
  simp only [WW, partV, eqCells, eqLf, minV, maxV, ifcV, zaa, zab, zac, zad, zae, zaf, zag, zah, zai, ofConst, ofConst1, List.replicate, zaj, zak, loadOp, Go.Abs.loadCells, binV, zal, pickV, zam, zan, zao, zap, zaq, zar, zas, zat, zau, outR, resAll, resOne, zav, zaw, zax, zay, zaz, zba, zbb, zbc, zbd, zbe, zbf, zbg, zbh, zbi, zbj, zbk, storeOp, storeCell, overlay, zbl, zbm, zbn, lookupOp, keyT, okRes, mapUpdateOp, zbo, zbp, zbq, zbr, zbs, zbt, zbu, Nat.reduceSub, Nat.reduceAdd, Int.reduceLT, Int.reduceLE, Int.reduceAdd, Int.reduceSub, Int.reduceToNat, Int.reduceBEq, Int.reduceBNe, Int.reduceMul, Nat.reduceBEq, Nat.reduceBNe, Nat.reduceLT, Nat.reduceLeDiff, Nat.reduceMul, Nat.reduceEqDiff, WD, effB, effH, isPriv, isHeap, isImm, zbx, zby, zbz, chkO, setD, dslot, zca, zcb, zcc, zcd, ptrCells_some, F37]
  rw [wpCall_eq h]
  simp only [WW, partV, eqCells, eqLf, minV, maxV, ifcV, zaa, zab, zac, zad, zae, zaf, zag, zah, zai, ofConst, ofConst1, List.replicate, zaj, zak, loadOp, Go.Abs.loadCells, binV, zal, pickV, zam, zan, zao, zap, zaq, zar, zas, zat, zau, outR, resAll, resOne, zav, zaw, zax, zay, zaz, zba, zbb, zbc, zbd, zbe, zbf, zbg, zbh, zbi, zbj, zbk, storeOp, storeCell, overlay, zbl, zbm, zbn, lookupOp, keyT, okRes, mapUpdateOp, zbo, zbp, zbq, zbr, zbs, zbt, zbu, Nat.reduceSub, Nat.reduceAdd, Int.reduceLT, Int.reduceLE, Int.reduceAdd, Int.reduceSub, Int.reduceToNat, Int.reduceBEq, Int.reduceBNe, Int.reduceMul, Nat.reduceBEq, Nat.reduceBNe, Nat.reduceLT, Nat.reduceLeDiff, Nat.reduceMul, Nat.reduceEqDiff, WD, effB, effH, isPriv, isHeap, isImm, zbx, zby, zbz, chkO, setD, dslot, zca, zcb, zcc, zcd, ptrCells_some, F37]
theorem rnotify0 (m t : Int) (all : Bool) (H : Hp) : EW 38 [nR, .int .i64 m, .int .i64 t, .bool all] H = some (.ret (.tup [nR, .nils, .int .i64 1]) false, H) := by
  have h := rhas0 m t H
  refine eqOf2 (runs f38 b38 r38 n38 _ _ ?_)
  simp only [nR] at h ⊢
  simp only [bodyOf, Try.f38, Option.getD_some]
  simp only [WW, partV, eqCells, eqLf, minV, maxV, ifcV, zaa, zab, zac, zad, zae, zaf, zag, zah, zai, ofConst, ofConst1, List.replicate, zaj, zak, loadOp, Go.Abs.loadCells, binV, zal, pickV, zam, zan, zao, zap, zaq, zar, zas, zat, zau, outR, resAll, resOne, zav, zaw, zax, zay, zaz, zba, zbb, zbc, zbd, zbe, zbf, zbg, zbh, zbi, zbj, zbk, storeOp, storeCell, overlay, zbl, zbm, zbn, lookupOp, keyT, okRes, mapUpdateOp, zbo, zbp, zbq, zbr, zbs, zbt, zbu, Nat.reduceSub, Nat.reduceAdd, Int.reduceLT, Int.reduceLE, Int.reduceAdd, Int.reduceSub, Int.reduceToNat, Int.reduceBEq, Int.reduceBNe, Int.reduceMul, Nat.reduceBEq, Nat.reduceBNe, Nat.reduceLT, Nat.reduceLeDiff, Nat.reduceMul, Nat.reduceEqDiff, WD, effB, effH, isPriv, isHeap, isImm, zbx, zby, zbz, chkO, setD, dslot, zca, zcb, zcc, zcd, ptrCells_some, F38]
  rw [wpCall_eq h]
  simp only [WW, partV, eqCells, eqLf, minV, maxV, ifcV, zaa, zab, zac, zad, zae, zaf, zag, zah, zai, ofConst, ofConst1, List.replicate, zaj, zak, loadOp, Go.Abs.loadCells, binV, zal, pickV, zam, zan, zao, zap, zaq, zar, zas, zat, zau, outR, resAll, resOne, zav, zaw, zax, zay, zaz, zba, zbb, zbc, zbd, zbe, zbf, zbg, zbh, zbi, zbj, zbk, storeOp, storeCell, overlay, zbl, zbm, zbn, lookupOp, keyT, okRes, mapUpdateOp, zbo, zbp, zbq, zbr, zbs, zbt, zbu, Nat.reduceSub, Nat.reduceAdd, Int.reduceLT, Int.reduceLE, Int.reduceAdd, Int.reduceSub, Int.reduceToNat, Int.reduceBEq, Int.reduceBNe, Int.reduceMul, Nat.reduceBEq, Nat.reduceBNe, Nat.reduceLT, Nat.reduceLeDiff, Nat.reduceMul, Nat.reduceEqDiff, WD, effB, effH, isPriv, isHeap, isImm, zbx, zby, zbz, chkO, setD, dslot, zca, zcb, zcc, zcd, ptrCells_some, F38]
theorem rplace0 (t : Int) (H : Hp) : EW 53 [.nils, .int .i64 t] H = some (.ret (.int .i64 (-1)) false, H) := by
  refine eqOf2 (runs f53 b53 r53 n53 _ _ ?_)
  simp only [bodyOf, Try.f53, Option.getD_some]
  simp only [WW, partV, eqCells, eqLf, minV, maxV, ifcV, zaa, zab, zac, zad, zae, zaf, zag, zah, zai, ofConst, ofConst1, List.replicate, zaj, zak, loadOp, Go.Abs.loadCells, binV, zal, pickV, zam, zan, zao, zap, zaq, zar, zas, zat, zau, outR, resAll, resOne, zav, zaw, zax, zay, zaz, zba, zbb, zbc, zbd, zbe, zbf, zbg, zbh, zbi, zbj, zbk, storeOp, storeCell, overlay, zbl, zbm, zbn, lookupOp, keyT, okRes, mapUpdateOp, zbo, zbp, zbq, zbr, zbs, zbt, zbu, Nat.reduceSub, Nat.reduceAdd, Int.reduceLT, Int.reduceLE, Int.reduceAdd, Int.reduceSub, Int.reduceToNat, Int.reduceBEq, Int.reduceBNe, Int.reduceMul, Nat.reduceBEq, Nat.reduceBNe, Nat.reduceLT, Nat.reduceLeDiff, Nat.reduceMul, Nat.reduceEqDiff, WD, effB, effH, isPriv, isHeap, isImm, zbx, zby, zbz, chkO, setD, dslot, zca, zcb, zcc, zcd, ptrCells_some, F53]
  refine wC_loop _ (fun n st H' => st = ⟨L53_2 (.v .nils) (.v (.int .i64 t)) (.v (.int .i64 0)), [], []⟩ ∧ H' = H) 0 ⟨?_, rfl⟩ ?_
  · simp only [WN, firstReg, growAll, zbv, zbw, norm, killS, zag, zah, zaa, zab, zbl, zat, zad, growOne, zae, zaf, zac, zas, zak, Nat.reduceLT, Nat.reduceAdd, zbj, zav, F53, L53_2]
    try rfl
  · rintro n st H' ⟨rfl, rfl⟩
    simp only [L53_2]
    simp only [WW, partV, eqCells, eqLf, minV, maxV, ifcV, zaa, zab, zac, zad, zae, zaf, zag, zah, zai, ofConst, ofConst1, List.replicate, zaj, zak, loadOp, Go.Abs.loadCells, binV, zal, pickV, zam, zan, zao, zap, zaq, zar, zas, zat, zau, outR, resAll, resOne, zav, zaw, zax, zay, zaz, zba, zbb, zbc, zbd, zbe, zbf, zbg, zbh, zbi, zbj, zbk, storeOp, storeCell, overlay, zbl, zbm, zbn, lookupOp, keyT, okRes, mapUpdateOp, zbo, zbp, zbq, zbr, zbs, zbt, zbu, Nat.reduceSub, Nat.reduceAdd, Int.reduceLT, Int.reduceLE, Int.reduceAdd, Int.reduceSub, Int.reduceToNat, Int.reduceBEq, Int.reduceBNe, Int.reduceMul, Nat.reduceBEq, Nat.reduceBNe, Nat.reduceLT, Nat.reduceLeDiff, Nat.reduceMul, Nat.reduceEqDiff, WD, effB, effH, isPriv, isHeap, isImm, zbx, zby, zbz, chkO, setD, dslot, zca, zcb, zcc, zcd, ptrCells_some, F53]
theorem rrelock0 (t : Int) (H : Hp) : ∃ e : Int, EW 40 [nR, .int .i64 t] H = some (.ret (.tup [nR, .int .i64 e]) false, H) := by
  have h := rplace0 t H
  refine ⟨if t < 0 ∨ 256 ≤ t then 1 else 7, ?_⟩
  refine eqOf2 (runs f40 b40 r40 n40 _ _ ?_)
  simp only [nR]
  simp only [bodyOf, Try.f40, Option.getD_some]
  by_cases g1 : t < 0
  · have q1 : decide (t < 0) = true := decide_eq_true g1
    rw [if_pos (.inl g1)]
    simp only [WW, partV, eqCells, eqLf, minV, maxV, ifcV, zaa, zab, zac, zad, zae, zaf, zag, zah, zai, ofConst, ofConst1, List.replicate, zaj, zak, loadOp, Go.Abs.loadCells, binV, zal, pickV, zam, zan, zao, zap, zaq, zar, zas, zat, zau, outR, resAll, resOne, zav, zaw, zax, zay, zaz, zba, zbb, zbc, zbd, zbe, zbf, zbg, zbh, zbi, zbj, zbk, storeOp, storeCell, overlay, zbl, zbm, zbn, lookupOp, keyT, okRes, mapUpdateOp, zbo, zbp, zbq, zbr, zbs, zbt, zbu, Nat.reduceSub, Nat.reduceAdd, Int.reduceLT, Int.reduceLE, Int.reduceAdd, Int.reduceSub, Int.reduceToNat, Int.reduceBEq, Int.reduceBNe, Int.reduceMul, Nat.reduceBEq, Nat.reduceBNe, Nat.reduceLT, Nat.reduceLeDiff, Nat.reduceMul, Nat.reduceEqDiff, WD, effB, effH, isPriv, isHeap, isImm, zbx, zby, zbz, chkO, setD, dslot, zca, zcb, zcc, zcd, ptrCells_some, F40, q1]
  · have q1 : decide (t < 0) = false := decide_eq_false g1
    by_cases g2 : (256 : Int) ≤ t
    · have q2 : decide ((256 : Int) ≤ t) = true := decide_eq_true g2
      rw [if_pos (.inr g2)]
      simp only [WW, partV, eqCells, eqLf, minV, maxV, ifcV, zaa, zab, zac, zad, zae, zaf, zag, zah, zai, ofConst, ofConst1, List.replicate, zaj, zak, loadOp, Go.Abs.loadCells, binV, zal, pickV, zam, zan, zao, zap, zaq, zar, zas, zat, zau, outR, resAll, resOne, zav, zaw, zax, zay, zaz, zba, zbb, zbc, zbd, zbe, zbf, zbg, zbh, zbi, zbj, zbk, storeOp, storeCell, overlay, zbl, zbm, zbn, lookupOp, keyT, okRes, mapUpdateOp, zbo, zbp, zbq, zbr, zbs, zbt, zbu, Nat.reduceSub, Nat.reduceAdd, Int.reduceLT, Int.reduceLE, Int.reduceAdd, Int.reduceSub, Int.reduceToNat, Int.reduceBEq, Int.reduceBNe, Int.reduceMul, Nat.reduceBEq, Nat.reduceBNe, Nat.reduceLT, Nat.reduceLeDiff, Nat.reduceMul, Nat.reduceEqDiff, WD, effB, effH, isPriv, isHeap, isImm, zbx, zby, zbz, chkO, setD, dslot, zca, zcb, zcc, zcd, ptrCells_some, F40, q1, q2]
    · have q2 : decide ((256 : Int) ≤ t) = false := decide_eq_false g2
      rw [if_neg (by omega)]
      simp only [WW, partV, eqCells, eqLf, minV, maxV, ifcV, zaa, zab, zac, zad, zae, zaf, zag, zah, zai, ofConst, ofConst1, List.replicate, zaj, zak, loadOp, Go.Abs.loadCells, binV, zal, pickV, zam, zan, zao, zap, zaq, zar, zas, zat, zau, outR, resAll, resOne, zav, zaw, zax, zay, zaz, zba, zbb, zbc, zbd, zbe, zbf, zbg, zbh, zbi, zbj, zbk, storeOp, storeCell, overlay, zbl, zbm, zbn, lookupOp, keyT, okRes, mapUpdateOp, zbo, zbp, zbq, zbr, zbs, zbt, zbu, Nat.reduceSub, Nat.reduceAdd, Int.reduceLT, Int.reduceLE, Int.reduceAdd, Int.reduceSub, Int.reduceToNat, Int.reduceBEq, Int.reduceBNe, Int.reduceMul, Nat.reduceBEq, Nat.reduceBNe, Nat.reduceLT, Nat.reduceLeDiff, Nat.reduceMul, Nat.reduceEqDiff, WD, effB, effH, isPriv, isHeap, isImm, zbx, zby, zbz, chkO, setD, dslot, zca, zcb, zcc, zcd, ptrCells_some, F40, q1, q2]
      rw [wpCall_eq h]
      simp only [WW, partV, eqCells, eqLf, minV, maxV, ifcV, zaa, zab, zac, zad, zae, zaf, zag, zah, zai, ofConst, ofConst1, List.replicate, zaj, zak, loadOp, Go.Abs.loadCells, binV, zal, pickV, zam, zan, zao, zap, zaq, zar, zas, zat, zau, outR, resAll, resOne, zav, zaw, zax, zay, zaz, zba, zbb, zbc, zbd, zbe, zbf, zbg, zbh, zbi, zbj, zbk, storeOp, storeCell, overlay, zbl, zbm, zbn, lookupOp, keyT, okRes, mapUpdateOp, zbo, zbp, zbq, zbr, zbs, zbt, zbu, Nat.reduceSub, Nat.reduceAdd, Int.reduceLT, Int.reduceLE, Int.reduceAdd, Int.reduceSub, Int.reduceToNat, Int.reduceBEq, Int.reduceBNe, Int.reduceMul, Nat.reduceBEq, Nat.reduceBNe, Nat.reduceLT, Nat.reduceLeDiff, Nat.reduceMul, Nat.reduceEqDiff, WD, effB, effH, isPriv, isHeap, isImm, zbx, zby, zbz, chkO, setD, dslot, zca, zcb, zcc, zcd, ptrCells_some, F40]
      refine wC_dr alts40_4 (by kernel_rfl) ?_
      simp only [WW, partV, eqCells, eqLf, minV, maxV, ifcV, zaa, zab, zac, zad, zae, zaf, zag, zah, zai, ofConst, ofConst1, List.replicate, zaj, zak, loadOp, Go.Abs.loadCells, binV, zal, pickV, zam, zan, zao, zap, zaq, zar, zas, zat, zau, outR, resAll, resOne, zav, zaw, zax, zay, zaz, zba, zbb, zbc, zbd, zbe, zbf, zbg, zbh, zbi, zbj, zbk, storeOp, storeCell, overlay, zbl, zbm, zbn, lookupOp, keyT, okRes, mapUpdateOp, zbo, zbp, zbq, zbr, zbs, zbt, zbu, Nat.reduceSub, Nat.reduceAdd, Int.reduceLT, Int.reduceLE, Int.reduceAdd, Int.reduceSub, Int.reduceToNat, Int.reduceBEq, Int.reduceBNe, Int.reduceMul, Nat.reduceBEq, Nat.reduceBNe, Nat.reduceLT, Nat.reduceLeDiff, Nat.reduceMul, Nat.reduceEqDiff, WD, effB, effH, isPriv, isHeap, isImm, zbx, zby, zbz, chkO, setD, dslot, zca, zcb, zcc, zcd, ptrCells_some, F40, alts40_4]
theorem rexpire0 (now : Int) (H : Hp) : EW 39 [nR, .int .i64 now] H = some (.ret (.tup [nR, .nils]) false, H) := by
  refine eqOf2 (runs f39 b39 r39 n39 _ _ ?_)
  simp only [nR]
  simp only [bodyOf, Try.f39, Option.getD_some]
  simp only [WW, partV, eqCells, eqLf, minV, maxV, ifcV, zaa, zab, zac, zad, zae, zaf, zag, zah, zai, ofConst, ofConst1, List.replicate, zaj, zak, loadOp, Go.Abs.loadCells, binV, zal, pickV, zam, zan, zao, zap, zaq, zar, zas, zat, zau, outR, resAll, resOne, zav, zaw, zax, zay, zaz, zba, zbb, zbc, zbd, zbe, zbf, zbg, zbh, zbi, zbj, zbk, storeOp, storeCell, overlay, zbl, zbm, zbn, lookupOp, keyT, okRes, mapUpdateOp, zbo, zbp, zbq, zbr, zbs, zbt, zbu, Nat.reduceSub, Nat.reduceAdd, Int.reduceLT, Int.reduceLE, Int.reduceAdd, Int.reduceSub, Int.reduceToNat, Int.reduceBEq, Int.reduceBNe, Int.reduceMul, Nat.reduceBEq, Nat.reduceBNe, Nat.reduceLT, Nat.reduceLeDiff, Nat.reduceMul, Nat.reduceEqDiff, WD, effB, effH, isPriv, isHeap, isImm, zbx, zby, zbz, chkO, setD, dslot, zca, zcb, zcc, zcd, ptrCells_some, F39]
  refine wC_loop _ (fun n st H' => st = ⟨L39_2 (.v (.int .i64 now)) (.box 0) (.box 1) (.v .nils), [[.nils, .nils, .nils], [.nils, .nils, .nils]], []⟩ ∧ H' = H) 0 ⟨?_, rfl⟩ ?_
  · simp only [WN, firstReg, growAll, zbv, zbw, norm, killS, zag, zah, zaa, zab, zbl, zat, zad, growOne, zae, zaf, zac, zas, zak, Nat.reduceLT, Nat.reduceAdd, zbj, zav, F39, L39_2]
    try rfl
  · rintro n st H' ⟨rfl, rfl⟩
    simp only [L39_2]
    simp only [WW, partV, eqCells, eqLf, minV, maxV, ifcV, zaa, zab, zac, zad, zae, zaf, zag, zah, zai, ofConst, ofConst1, List.replicate, zaj, zak, loadOp, Go.Abs.loadCells, binV, zal, pickV, zam, zan, zao, zap, zaq, zar, zas, zat, zau, outR, resAll, resOne, zav, zaw, zax, zay, zaz, zba, zbb, zbc, zbd, zbe, zbf, zbg, zbh, zbi, zbj, zbk, storeOp, storeCell, overlay, zbl, zbm, zbn, lookupOp, keyT, okRes, mapUpdateOp, zbo, zbp, zbq, zbr, zbs, zbt, zbu, Nat.reduceSub, Nat.reduceAdd, Int.reduceLT, Int.reduceLE, Int.reduceAdd, Int.reduceSub, Int.reduceToNat, Int.reduceBEq, Int.reduceBNe, Int.reduceMul, Nat.reduceBEq, Nat.reduceBNe, Nat.reduceLT, Nat.reduceLeDiff, Nat.reduceMul, Nat.reduceEqDiff, WD, effB, effH, isPriv, isHeap, isImm, zbx, zby, zbz, chkO, setD, dslot, zca, zcb, zcc, zcd, ptrCells_some, F39]
    refine wC_loop _ (fun n st H2 => st = ⟨L39_4 (.v (.int .i64 now)) (.box 0) (.box 1) (.v .nils) (.v (.int .i64 (-1))) (.v (.int .i64 0)), [[.nils, .nils, .nils], [.nils, .nils, .nils]], []⟩ ∧ H2 = H') 0 ⟨?_, rfl⟩ ?_
    · simp only [WN, firstReg, growAll, zbv, zbw, norm, killS, zag, zah, zaa, zab, zbl, zat, zad, growOne, zae, zaf, zac, zas, zak, Nat.reduceLT, Nat.reduceAdd, zbj, zav, F39, L39_4]
      try rfl
    · rintro n st H2 ⟨rfl, rfl⟩
      simp only [L39_4]
      simp only [WW, partV, eqCells, eqLf, minV, maxV, ifcV, zaa, zab, zac, zad, zae, zaf, zag, zah, zai, ofConst, ofConst1, List.replicate, zaj, zak, loadOp, Go.Abs.loadCells, binV, zal, pickV, zam, zan, zao, zap, zaq, zar, zas, zat, zau, outR, resAll, resOne, zav, zaw, zax, zay, zaz, zba, zbb, zbc, zbd, zbe, zbf, zbg, zbh, zbi, zbj, zbk, storeOp, storeCell, overlay, zbl, zbm, zbn, lookupOp, keyT, okRes, mapUpdateOp, zbo, zbp, zbq, zbr, zbs, zbt, zbu, Nat.reduceSub, Nat.reduceAdd, Int.reduceLT, Int.reduceLE, Int.reduceAdd, Int.reduceSub, Int.reduceToNat, Int.reduceBEq, Int.reduceBNe, Int.reduceMul, Nat.reduceBEq, Nat.reduceBNe, Nat.reduceLT, Nat.reduceLeDiff, Nat.reduceMul, Nat.reduceEqDiff, WD, effB, effH, isPriv, isHeap, isImm, zbx, zby, zbz, chkO, setD, dslot, zca, zcb, zcc, zcd, ptrCells_some, F39]
theorem rdrop0 (t : Int) (H : Hp) : EW 41 [nR, .int .i64 t] H = some (.ret nR false, H) := by
  refine eqOf2 (runs f41 b41 r41 n41 _ _ ?_)
  simp only [nR]
  simp only [bodyOf, Try.f41, Option.getD_some]
  simp only [WW, partV, eqCells, eqLf, minV, maxV, ifcV, zaa, zab, zac, zad, zae, zaf, zag, zah, zai, ofConst, ofConst1, List.replicate, zaj, zak, loadOp, Go.Abs.loadCells, binV, zal, pickV, zam, zan, zao, zap, zaq, zar, zas, zat, zau, outR, resAll, resOne, zav, zaw, zax, zay, zaz, zba, zbb, zbc, zbd, zbe, zbf, zbg, zbh, zbi, zbj, zbk, storeOp, storeCell, overlay, zbl, zbm, zbn, lookupOp, keyT, okRes, mapUpdateOp, zbo, zbp, zbq, zbr, zbs, zbt, zbu, Nat.reduceSub, Nat.reduceAdd, Int.reduceLT, Int.reduceLE, Int.reduceAdd, Int.reduceSub, Int.reduceToNat, Int.reduceBEq, Int.reduceBNe, Int.reduceMul, Nat.reduceBEq, Nat.reduceBNe, Nat.reduceLT, Nat.reduceLeDiff, Nat.reduceMul, Nat.reduceEqDiff, WD, effB, effH, isPriv, isHeap, isImm, zbx, zby, zbz, chkO, setD, dslot, zca, zcb, zcc, zcd, ptrCells_some, F41]
  refine wC_loop _ (fun n st H' => st = ⟨L41_2 (.v (.int .i64 t)) (.box 0) (.box 1) (.v (.int .i64 0)), [[.nils, .nils, .nils], [.nils, .nils, .nils]], []⟩ ∧ H' = H) 0 ⟨?_, rfl⟩ ?_
  · simp only [WN, firstReg, growAll, zbv, zbw, norm, killS, zag, zah, zaa, zab, zbl, zat, zad, growOne, zae, zaf, zac, zas, zak, Nat.reduceLT, Nat.reduceAdd, zbj, zav, F41, L41_2]
    try rfl
  · rintro n st H' ⟨rfl, rfl⟩
    simp only [L41_2]
    simp only [WW, partV, eqCells, eqLf, minV, maxV, ifcV, zaa, zab, zac, zad, zae, zaf, zag, zah, zai, ofConst, ofConst1, List.replicate, zaj, zak, loadOp, Go.Abs.loadCells, binV, zal, pickV, zam, zan, zao, zap, zaq, zar, zas, zat, zau, outR, resAll, resOne, zav, zaw, zax, zay, zaz, zba, zbb, zbc, zbd, zbe, zbf, zbg, zbh, zbi, zbj, zbk, storeOp, storeCell, overlay, zbl, zbm, zbn, lookupOp, keyT, okRes, mapUpdateOp, zbo, zbp, zbq, zbr, zbs, zbt, zbu, Nat.reduceSub, Nat.reduceAdd, Int.reduceLT, Int.reduceLE, Int.reduceAdd, Int.reduceSub, Int.reduceToNat, Int.reduceBEq, Int.reduceBNe, Int.reduceMul, Nat.reduceBEq, Nat.reduceBNe, Nat.reduceLT, Nat.reduceLeDiff, Nat.reduceMul, Nat.reduceEqDiff, WD, effB, effH, isPriv, isHeap, isImm, zbx, zby, zbz, chkO, setD, dslot, zca, zcb, zcc, zcd, ptrCells_some, F41]
    refine wC_loop _ (fun n st H2 => st = ⟨L41_8 (.v (.int .i64 t)) (.box 0) (.box 1) (.v .nils) (.v .nils) (.v (.int .i64 0)), [[.nils, .nils, .nils], [.nils, .nils, .nils]], []⟩ ∧ H2 = H') 0 ⟨?_, rfl⟩ ?_
    · simp only [WN, firstReg, growAll, zbv, zbw, norm, killS, zag, zah, zaa, zab, zbl, zat, zad, growOne, zae, zaf, zac, zas, zak, Nat.reduceLT, Nat.reduceAdd, zbj, zav, F41, L41_8]
      try rfl
    · rintro n st H2 ⟨rfl, rfl⟩
      simp only [L41_8]
      simp only [WW, partV, eqCells, eqLf, minV, maxV, ifcV, zaa, zab, zac, zad, zae, zaf, zag, zah, zai, ofConst, ofConst1, List.replicate, zaj, zak, loadOp, Go.Abs.loadCells, binV, zal, pickV, zam, zan, zao, zap, zaq, zar, zas, zat, zau, outR, resAll, resOne, zav, zaw, zax, zay, zaz, zba, zbb, zbc, zbd, zbe, zbf, zbg, zbh, zbi, zbj, zbk, storeOp, storeCell, overlay, zbl, zbm, zbn, lookupOp, keyT, okRes, mapUpdateOp, zbo, zbp, zbq, zbr, zbs, zbt, zbu, Nat.reduceSub, Nat.reduceAdd, Int.reduceLT, Int.reduceLE, Int.reduceAdd, Int.reduceSub, Int.reduceToNat, Int.reduceBEq, Int.reduceBNe, Int.reduceMul, Nat.reduceBEq, Nat.reduceBNe, Nat.reduceLT, Nat.reduceLeDiff, Nat.reduceMul, Nat.reduceEqDiff, WD, effB, effH, isPriv, isHeap, isImm, zbx, zby, zbz, chkO, setD, dslot, zca, zcb, zcc, zcd, ptrCells_some, F41]
      refine wC_loop _ (fun n st H3 => st = ⟨L41_13 (.v (.int .i64 t)) (.box 0) (.box 1) (.v .nils) (.v .nils) (.v (.int .i64 0)), [[.nils, .nils, .nils], [.nils, .nils, .nils]], []⟩ ∧ H3 = H2) 0 ⟨?_, rfl⟩ ?_
      · simp only [WN, firstReg, growAll, zbv, zbw, norm, killS, zag, zah, zaa, zab, zbl, zat, zad, growOne, zae, zaf, zac, zas, zak, Nat.reduceLT, Nat.reduceAdd, zbj, zav, F41, L41_13]
        try rfl
      · rintro n st H3 ⟨rfl, rfl⟩
        simp only [L41_13]
        simp only [WW, partV, eqCells, eqLf, minV, maxV, ifcV, zaa, zab, zac, zad, zae, zaf, zag, zah, zai, ofConst, ofConst1, List.replicate, zaj, zak, loadOp, Go.Abs.loadCells, binV, zal, pickV, zam, zan, zao, zap, zaq, zar, zas, zat, zau, outR, resAll, resOne, zav, zaw, zax, zay, zaz, zba, zbb, zbc, zbd, zbe, zbf, zbg, zbh, zbi, zbj, zbk, storeOp, storeCell, overlay, zbl, zbm, zbn, lookupOp, keyT, okRes, mapUpdateOp, zbo, zbp, zbq, zbr, zbs, zbt, zbu, Nat.reduceSub, Nat.reduceAdd, Int.reduceLT, Int.reduceLE, Int.reduceAdd, Int.reduceSub, Int.reduceToNat, Int.reduceBEq, Int.reduceBNe, Int.reduceMul, Nat.reduceBEq, Nat.reduceBNe, Nat.reduceLT, Nat.reduceLeDiff, Nat.reduceMul, Nat.reduceEqDiff, WD, effB, effH, isPriv, isHeap, isImm, zbx, zby, zbz, chkO, setD, dslot, zca, zcb, zcc, zcd, ptrCells_some, F41]
theorem same0 {H : Hp} {x : V} {l : List V} (hx : Rd H x l) : EW 23 [x, .nils] H = some (.ret (.bool (l.length == 0)) false, H) := by
  have hlen := hx.len
  refine eqOf2 (runs f23 b23 r23 n23 _ _ ?_)
  simp only [bodyOf, Try.f23, Option.getD_some]
  by_cases h0 : l.length = 0
  case neg =>
    generalize l.length = k at hlen h0
    have g : ((k : Int) != 0) = true := by simp; omega
    have g' : (k == 0) = false := by simpa using h0
    simp only [WW, partV, eqCells, eqLf, minV, maxV, ifcV, zaa, zab, zac, zad, zae, zaf, zag, zah, zai, ofConst, ofConst1, List.replicate, zaj, zak, loadOp, Go.Abs.loadCells, binV, zal, pickV, zam, zan, zao, zap, zaq, zar, zas, zat, zau, outR, resAll, resOne, zav, zaw, zax, zay, zaz, zba, zbb, zbc, zbd, zbe, zbf, zbg, zbh, zbi, zbj, zbk, storeOp, storeCell, overlay, zbl, zbm, zbn, lookupOp, keyT, okRes, mapUpdateOp, zbo, zbp, zbq, zbr, zbs, zbt, zbu, Nat.reduceSub, Nat.reduceAdd, Int.reduceLT, Int.reduceLE, Int.reduceAdd, Int.reduceSub, Int.reduceToNat, Int.reduceBEq, Int.reduceBNe, Int.reduceMul, Nat.reduceBEq, Nat.reduceBNe, Nat.reduceLT, Nat.reduceLeDiff, Nat.reduceMul, Nat.reduceEqDiff, WD, effB, effH, isPriv, isHeap, isImm, zbx, zby, zbz, chkO, setD, dslot, zca, zcb, zcc, zcd, ptrCells_some, F23, hx.shutIn, hlen, g, g']
  cases l with
  | cons a l => cases h0
  | nil =>
    have hlen : ∀ (e : TypeId), lenK H (TK.slice e) x = some (V.int .i64 0) := hlen
    simp only [WW, partV, eqCells, eqLf, minV, maxV, ifcV, zaa, zab, zac, zad, zae, zaf, zag, zah, zai, ofConst, ofConst1, List.replicate, zaj, zak, loadOp, Go.Abs.loadCells, binV, zal, pickV, zam, zan, zao, zap, zaq, zar, zas, zat, zau, outR, resAll, resOne, zav, zaw, zax, zay, zaz, zba, zbb, zbc, zbd, zbe, zbf, zbg, zbh, zbi, zbj, zbk, storeOp, storeCell, overlay, zbl, zbm, zbn, lookupOp, keyT, okRes, mapUpdateOp, zbo, zbp, zbq, zbr, zbs, zbt, zbu, Nat.reduceSub, Nat.reduceAdd, Int.reduceLT, Int.reduceLE, Int.reduceAdd, Int.reduceSub, Int.reduceToNat, Int.reduceBEq, Int.reduceBNe, Int.reduceMul, Nat.reduceBEq, Nat.reduceBNe, Nat.reduceLT, Nat.reduceLeDiff, Nat.reduceMul, Nat.reduceEqDiff, WD, effB, effH, isPriv, isHeap, isImm, zbx, zby, zbz, chkO, setD, dslot, zca, zcb, zcc, zcd, ptrCells_some, F23, hx.shutIn, hlen]
    refine wC_loop _ (fun n st H' => st = ⟨L23_4 (.v x) (.v .nils) (.v (.int .i64 0)), [], []⟩ ∧ H' = H) 0 ⟨?_, rfl⟩ ?_
    · simp only [WN, firstReg, growAll, zbv, zbw, norm, killS, zag, zah, zaa, zab, zbl, zat, zad, growOne, zae, zaf, zac, zas, zak, Nat.reduceLT, Nat.reduceAdd, zbj, zav, F23, L23_4, hx.clip2]
      try rfl
    · rintro n st H' ⟨rfl, rfl⟩
      simp only [L23_4]
      simp only [WW, partV, eqCells, eqLf, minV, maxV, ifcV, zaa, zab, zac, zad, zae, zaf, zag, zah, zai, ofConst, ofConst1, List.replicate, zaj, zak, loadOp, Go.Abs.loadCells, binV, zal, pickV, zam, zan, zao, zap, zaq, zar, zas, zat, zau, outR, resAll, resOne, zav, zaw, zax, zay, zaz, zba, zbb, zbc, zbd, zbe, zbf, zbg, zbh, zbi, zbj, zbk, storeOp, storeCell, overlay, zbl, zbm, zbn, lookupOp, keyT, okRes, mapUpdateOp, zbo, zbp, zbq, zbr, zbs, zbt, zbu, Nat.reduceSub, Nat.reduceAdd, Int.reduceLT, Int.reduceLE, Int.reduceAdd, Int.reduceSub, Int.reduceToNat, Int.reduceBEq, Int.reduceBNe, Int.reduceMul, Nat.reduceBEq, Nat.reduceBNe, Nat.reduceLT, Nat.reduceLeDiff, Nat.reduceMul, Nat.reduceEqDiff, WD, effB, effH, isPriv, isHeap, isImm, zbx, zby, zbz, chkO, setD, dslot, zca, zcb, zcc, zcd, ptrCells_some, F23, hx.shutIn, hlen]
      try rfl
end Go.Proofs.Ythicacphcljdmaa

/- An act is played. -/
namespace Go.Proofs.Ythicacphcljdmaa
open Go Go.Abs Go.Proofs
set_option maxRecDepth 100000
set_option maxHeartbeats 8000000
set_option linter.unusedVariables false
set_option linter.unusedSimpArgs false
structure Act where
  d : Int
  m : Int
  t : Int
  n : Int
  all : Bool
def actV (a : Act) : V := .agg [.int .i64 a.d, .int .i64 a.m, .int .i64 a.t, .int .i64 a.n, .bool a.all]
def LF (H : Hp) (p : Nat) : Prop := ∃ ms ws wk came all wa wo, LK H p ms ws wk came all wa wo ∧ Fr ms ws wk
theorem step_spec {H : Hp} {p : Nat} (h : LF H p) (a : Act) (hd : 0 < a.d) (ht : a.t < 5) :
    wpCall EW 19 [.ptr p 0 0, nR, actV a] H (fun out H' => (∃ o, out = .ret o false) ∧ LF H' p) := by
  obtain ⟨ms, ws, wk, came, all, wa, wo, L, F⟩ := h
  obtain ⟨d, m, t, n, al⟩ := a
  obtain ⟨sw, sk⟩ := F.small
  have r1 := fun H => rlock0 m t H
  have r2 := fun H => runlock0 m t H
  have r3 := fun H => rwait0 m t n H
  have r4 := fun H => rnotify0 m t al H
  have r5 := fun H => rexpire0 n H
  have r6 := fun H => rrelock0 t H
  have r7 := fun H => rdrop0 t H
  dsimp only at hd ht
  simp only [nR, actV] at *
  have g0 : (d == 0) = false := by simp; omega
  by_cases q1 : d = 1
  · subst q1
    refine runs f19 b19 r19 n19 _ _ ?_
    simp only [bodyOf, Try.f19, Option.getD_some]
    simp only [WW, partV, eqCells, eqLf, minV, maxV, ifcV, zaa, zab, zac, zad, zae, zaf, zag, zah, zai, ofConst, ofConst1, List.replicate, zaj, zak, loadOp, Go.Abs.loadCells, binV, zal, pickV, zam, zan, zao, zap, zaq, zar, zas, zat, zau, outR, resAll, resOne, zav, zaw, zax, zay, zaz, zba, zbb, zbc, zbd, zbe, zbf, zbg, zbh, zbi, zbj, zbk, storeOp, storeCell, overlay, zbl, zbm, zbn, lookupOp, keyT, okRes, mapUpdateOp, zbo, zbp, zbq, zbr, zbs, zbt, zbu, Nat.reduceSub, Nat.reduceAdd, Int.reduceLT, Int.reduceLE, Int.reduceAdd, Int.reduceSub, Int.reduceToNat, Int.reduceBEq, Int.reduceBNe, Int.reduceMul, Nat.reduceBEq, Nat.reduceBNe, Nat.reduceLT, Nat.reduceLeDiff, Nat.reduceMul, Nat.reduceEqDiff, WD, effB, effH, isPriv, isHeap, isImm, zbx, zby, zbz, chkO, setD, dslot, zca, zcb, zcc, zcd, ptrCells_some, F19]
    refine wpCall_of (lock_spec L m t (by omega) (by omega)) ?_
    rintro out H1 ⟨rfl, L1⟩
    simp only [WW, partV, eqCells, eqLf, minV, maxV, ifcV, zaa, zab, zac, zad, zae, zaf, zag, zah, zai, ofConst, ofConst1, List.replicate, zaj, zak, loadOp, Go.Abs.loadCells, binV, zal, pickV, zam, zan, zao, zap, zaq, zar, zas, zat, zau, outR, resAll, resOne, zav, zaw, zax, zay, zaz, zba, zbb, zbc, zbd, zbe, zbf, zbg, zbh, zbi, zbj, zbk, storeOp, storeCell, overlay, zbl, zbm, zbn, lookupOp, keyT, okRes, mapUpdateOp, zbo, zbp, zbq, zbr, zbs, zbt, zbu, Nat.reduceSub, Nat.reduceAdd, Int.reduceLT, Int.reduceLE, Int.reduceAdd, Int.reduceSub, Int.reduceToNat, Int.reduceBEq, Int.reduceBNe, Int.reduceMul, Nat.reduceBEq, Nat.reduceBNe, Nat.reduceLT, Nat.reduceLeDiff, Nat.reduceMul, Nat.reduceEqDiff, WD, effB, effH, isPriv, isHeap, isImm, zbx, zby, zbz, chkO, setD, dslot, zca, zcb, zcc, zcd, ptrCells_some, F19]
    rw [wpCall_eq (r1 _)]
    simp only [WW, partV, eqCells, eqLf, minV, maxV, ifcV, zaa, zab, zac, zad, zae, zaf, zag, zah, zai, ofConst, ofConst1, List.replicate, zaj, zak, loadOp, Go.Abs.loadCells, binV, zal, pickV, zam, zan, zao, zap, zaq, zar, zas, zat, zau, outR, resAll, resOne, zav, zaw, zax, zay, zaz, zba, zbb, zbc, zbd, zbe, zbf, zbg, zbh, zbi, zbj, zbk, storeOp, storeCell, overlay, zbl, zbm, zbn, lookupOp, keyT, okRes, mapUpdateOp, zbo, zbp, zbq, zbr, zbs, zbt, zbu, Nat.reduceSub, Nat.reduceAdd, Int.reduceLT, Int.reduceLE, Int.reduceAdd, Int.reduceSub, Int.reduceToNat, Int.reduceBEq, Int.reduceBNe, Int.reduceMul, Nat.reduceBEq, Nat.reduceBNe, Nat.reduceLT, Nat.reduceLeDiff, Nat.reduceMul, Nat.reduceEqDiff, WD, effB, effH, isPriv, isHeap, isImm, zbx, zby, zbz, chkO, setD, dslot, zca, zcb, zcc, zcd, ptrCells_some, F19]
    refine wC_dr alts19_9 (by kernel_rfl) ?_
    simp only [WW, partV, eqCells, eqLf, minV, maxV, ifcV, zaa, zab, zac, zad, zae, zaf, zag, zah, zai, ofConst, ofConst1, List.replicate, zaj, zak, loadOp, Go.Abs.loadCells, binV, zal, pickV, zam, zan, zao, zap, zaq, zar, zas, zat, zau, outR, resAll, resOne, zav, zaw, zax, zay, zaz, zba, zbb, zbc, zbd, zbe, zbf, zbg, zbh, zbi, zbj, zbk, storeOp, storeCell, overlay, zbl, zbm, zbn, lookupOp, keyT, okRes, mapUpdateOp, zbo, zbp, zbq, zbr, zbs, zbt, zbu, Nat.reduceSub, Nat.reduceAdd, Int.reduceLT, Int.reduceLE, Int.reduceAdd, Int.reduceSub, Int.reduceToNat, Int.reduceBEq, Int.reduceBNe, Int.reduceMul, Nat.reduceBEq, Nat.reduceBNe, Nat.reduceLT, Nat.reduceLeDiff, Nat.reduceMul, Nat.reduceEqDiff, WD, effB, effH, isPriv, isHeap, isImm, zbx, zby, zbz, chkO, setD, dslot, zca, zcb, zcc, zcd, ptrCells_some, F19, alts19_9, wpCall_eq (num_eq _ _)]
    exact ⟨⟨_, rfl⟩, _, _, _, _, _, _, _, L1, F.lock m t ht⟩
  have g1 : (d == 1) = false := by simpa using q1
  by_cases q2 : d = 2
  · subst q2
    refine runs f19 b19 r19 n19 _ _ ?_
    simp only [bodyOf, Try.f19, Option.getD_some]
    simp only [WW, partV, eqCells, eqLf, minV, maxV, ifcV, zaa, zab, zac, zad, zae, zaf, zag, zah, zai, ofConst, ofConst1, List.replicate, zaj, zak, loadOp, Go.Abs.loadCells, binV, zal, pickV, zam, zan, zao, zap, zaq, zar, zas, zat, zau, outR, resAll, resOne, zav, zaw, zax, zay, zaz, zba, zbb, zbc, zbd, zbe, zbf, zbg, zbh, zbi, zbj, zbk, storeOp, storeCell, overlay, zbl, zbm, zbn, lookupOp, keyT, okRes, mapUpdateOp, zbo, zbp, zbq, zbr, zbs, zbt, zbu, Nat.reduceSub, Nat.reduceAdd, Int.reduceLT, Int.reduceLE, Int.reduceAdd, Int.reduceSub, Int.reduceToNat, Int.reduceBEq, Int.reduceBNe, Int.reduceMul, Nat.reduceBEq, Nat.reduceBNe, Nat.reduceLT, Nat.reduceLeDiff, Nat.reduceMul, Nat.reduceEqDiff, WD, effB, effH, isPriv, isHeap, isImm, zbx, zby, zbz, chkO, setD, dslot, zca, zcb, zcc, zcd, ptrCells_some, F19]
    refine wpCall_of (unlock_spec L m t) ?_
    rintro out H1 ⟨rfl, L1⟩
    simp only [WW, partV, eqCells, eqLf, minV, maxV, ifcV, zaa, zab, zac, zad, zae, zaf, zag, zah, zai, ofConst, ofConst1, List.replicate, zaj, zak, loadOp, Go.Abs.loadCells, binV, zal, pickV, zam, zan, zao, zap, zaq, zar, zas, zat, zau, outR, resAll, resOne, zav, zaw, zax, zay, zaz, zba, zbb, zbc, zbd, zbe, zbf, zbg, zbh, zbi, zbj, zbk, storeOp, storeCell, overlay, zbl, zbm, zbn, lookupOp, keyT, okRes, mapUpdateOp, zbo, zbp, zbq, zbr, zbs, zbt, zbu, Nat.reduceSub, Nat.reduceAdd, Int.reduceLT, Int.reduceLE, Int.reduceAdd, Int.reduceSub, Int.reduceToNat, Int.reduceBEq, Int.reduceBNe, Int.reduceMul, Nat.reduceBEq, Nat.reduceBNe, Nat.reduceLT, Nat.reduceLeDiff, Nat.reduceMul, Nat.reduceEqDiff, WD, effB, effH, isPriv, isHeap, isImm, zbx, zby, zbz, chkO, setD, dslot, zca, zcb, zcc, zcd, ptrCells_some, F19]
    rw [wpCall_eq (r2 _)]
    simp only [WW, partV, eqCells, eqLf, minV, maxV, ifcV, zaa, zab, zac, zad, zae, zaf, zag, zah, zai, ofConst, ofConst1, List.replicate, zaj, zak, loadOp, Go.Abs.loadCells, binV, zal, pickV, zam, zan, zao, zap, zaq, zar, zas, zat, zau, outR, resAll, resOne, zav, zaw, zax, zay, zaz, zba, zbb, zbc, zbd, zbe, zbf, zbg, zbh, zbi, zbj, zbk, storeOp, storeCell, overlay, zbl, zbm, zbn, lookupOp, keyT, okRes, mapUpdateOp, zbo, zbp, zbq, zbr, zbs, zbt, zbu, Nat.reduceSub, Nat.reduceAdd, Int.reduceLT, Int.reduceLE, Int.reduceAdd, Int.reduceSub, Int.reduceToNat, Int.reduceBEq, Int.reduceBNe, Int.reduceMul, Nat.reduceBEq, Nat.reduceBNe, Nat.reduceLT, Nat.reduceLeDiff, Nat.reduceMul, Nat.reduceEqDiff, WD, effB, effH, isPriv, isHeap, isImm, zbx, zby, zbz, chkO, setD, dslot, zca, zcb, zcc, zcd, ptrCells_some, F19]
    refine wC_dr alts19_13 (by kernel_rfl) ?_
    simp only [WW, partV, eqCells, eqLf, minV, maxV, ifcV, zaa, zab, zac, zad, zae, zaf, zag, zah, zai, ofConst, ofConst1, List.replicate, zaj, zak, loadOp, Go.Abs.loadCells, binV, zal, pickV, zam, zan, zao, zap, zaq, zar, zas, zat, zau, outR, resAll, resOne, zav, zaw, zax, zay, zaz, zba, zbb, zbc, zbd, zbe, zbf, zbg, zbh, zbi, zbj, zbk, storeOp, storeCell, overlay, zbl, zbm, zbn, lookupOp, keyT, okRes, mapUpdateOp, zbo, zbp, zbq, zbr, zbs, zbt, zbu, Nat.reduceSub, Nat.reduceAdd, Int.reduceLT, Int.reduceLE, Int.reduceAdd, Int.reduceSub, Int.reduceToNat, Int.reduceBEq, Int.reduceBNe, Int.reduceMul, Nat.reduceBEq, Nat.reduceBNe, Nat.reduceLT, Nat.reduceLeDiff, Nat.reduceMul, Nat.reduceEqDiff, WD, effB, effH, isPriv, isHeap, isImm, zbx, zby, zbz, chkO, setD, dslot, zca, zcb, zcc, zcd, ptrCells_some, F19, alts19_13, wpCall_eq (num_eq _ _)]
    exact ⟨⟨_, rfl⟩, _, _, _, _, _, _, _, L1, F.unlock m t⟩
  have g2 : (d == 2) = false := by simpa using q2
  by_cases q3 : d = 3
  · subst q3
    refine runs f19 b19 r19 n19 _ _ ?_
    simp only [bodyOf, Try.f19, Option.getD_some]
    simp only [WW, partV, eqCells, eqLf, minV, maxV, ifcV, zaa, zab, zac, zad, zae, zaf, zag, zah, zai, ofConst, ofConst1, List.replicate, zaj, zak, loadOp, Go.Abs.loadCells, binV, zal, pickV, zam, zan, zao, zap, zaq, zar, zas, zat, zau, outR, resAll, resOne, zav, zaw, zax, zay, zaz, zba, zbb, zbc, zbd, zbe, zbf, zbg, zbh, zbi, zbj, zbk, storeOp, storeCell, overlay, zbl, zbm, zbn, lookupOp, keyT, okRes, mapUpdateOp, zbo, zbp, zbq, zbr, zbs, zbt, zbu, Nat.reduceSub, Nat.reduceAdd, Int.reduceLT, Int.reduceLE, Int.reduceAdd, Int.reduceSub, Int.reduceToNat, Int.reduceBEq, Int.reduceBNe, Int.reduceMul, Nat.reduceBEq, Nat.reduceBNe, Nat.reduceLT, Nat.reduceLeDiff, Nat.reduceMul, Nat.reduceEqDiff, WD, effB, effH, isPriv, isHeap, isImm, zbx, zby, zbz, chkO, setD, dslot, zca, zcb, zcc, zcd, ptrCells_some, F19]
    refine wpCall_of (wait_spec L m t n (by omega)) ?_
    rintro out H1 ⟨rfl, wa', L1⟩
    simp only [WW, partV, eqCells, eqLf, minV, maxV, ifcV, zaa, zab, zac, zad, zae, zaf, zag, zah, zai, ofConst, ofConst1, List.replicate, zaj, zak, loadOp, Go.Abs.loadCells, binV, zal, pickV, zam, zan, zao, zap, zaq, zar, zas, zat, zau, outR, resAll, resOne, zav, zaw, zax, zay, zaz, zba, zbb, zbc, zbd, zbe, zbf, zbg, zbh, zbi, zbj, zbk, storeOp, storeCell, overlay, zbl, zbm, zbn, lookupOp, keyT, okRes, mapUpdateOp, zbo, zbp, zbq, zbr, zbs, zbt, zbu, Nat.reduceSub, Nat.reduceAdd, Int.reduceLT, Int.reduceLE, Int.reduceAdd, Int.reduceSub, Int.reduceToNat, Int.reduceBEq, Int.reduceBNe, Int.reduceMul, Nat.reduceBEq, Nat.reduceBNe, Nat.reduceLT, Nat.reduceLeDiff, Nat.reduceMul, Nat.reduceEqDiff, WD, effB, effH, isPriv, isHeap, isImm, zbx, zby, zbz, chkO, setD, dslot, zca, zcb, zcc, zcd, ptrCells_some, F19]
    rw [wpCall_eq (r3 _)]
    simp only [WW, partV, eqCells, eqLf, minV, maxV, ifcV, zaa, zab, zac, zad, zae, zaf, zag, zah, zai, ofConst, ofConst1, List.replicate, zaj, zak, loadOp, Go.Abs.loadCells, binV, zal, pickV, zam, zan, zao, zap, zaq, zar, zas, zat, zau, outR, resAll, resOne, zav, zaw, zax, zay, zaz, zba, zbb, zbc, zbd, zbe, zbf, zbg, zbh, zbi, zbj, zbk, storeOp, storeCell, overlay, zbl, zbm, zbn, lookupOp, keyT, okRes, mapUpdateOp, zbo, zbp, zbq, zbr, zbs, zbt, zbu, Nat.reduceSub, Nat.reduceAdd, Int.reduceLT, Int.reduceLE, Int.reduceAdd, Int.reduceSub, Int.reduceToNat, Int.reduceBEq, Int.reduceBNe, Int.reduceMul, Nat.reduceBEq, Nat.reduceBNe, Nat.reduceLT, Nat.reduceLeDiff, Nat.reduceMul, Nat.reduceEqDiff, WD, effB, effH, isPriv, isHeap, isImm, zbx, zby, zbz, chkO, setD, dslot, zca, zcb, zcc, zcd, ptrCells_some, F19]
    refine wC_dr alts19_17 (by kernel_rfl) ?_
    simp only [WW, partV, eqCells, eqLf, minV, maxV, ifcV, zaa, zab, zac, zad, zae, zaf, zag, zah, zai, ofConst, ofConst1, List.replicate, zaj, zak, loadOp, Go.Abs.loadCells, binV, zal, pickV, zam, zan, zao, zap, zaq, zar, zas, zat, zau, outR, resAll, resOne, zav, zaw, zax, zay, zaz, zba, zbb, zbc, zbd, zbe, zbf, zbg, zbh, zbi, zbj, zbk, storeOp, storeCell, overlay, zbl, zbm, zbn, lookupOp, keyT, okRes, mapUpdateOp, zbo, zbp, zbq, zbr, zbs, zbt, zbu, Nat.reduceSub, Nat.reduceAdd, Int.reduceLT, Int.reduceLE, Int.reduceAdd, Int.reduceSub, Int.reduceToNat, Int.reduceBEq, Int.reduceBNe, Int.reduceMul, Nat.reduceBEq, Nat.reduceBNe, Nat.reduceLT, Nat.reduceLeDiff, Nat.reduceMul, Nat.reduceEqDiff, WD, effB, effH, isPriv, isHeap, isImm, zbx, zby, zbz, chkO, setD, dslot, zca, zcb, zcc, zcd, ptrCells_some, F19, alts19_17, wpCall_eq (num_eq _ _)]
    exact ⟨⟨_, rfl⟩, _, _, _, _, _, _, _, L1, F.wait came m t n⟩
  have g3 : (d == 3) = false := by simpa using q3
  by_cases q4 : d = 4
  · subst q4
    refine runs f19 b19 r19 n19 _ _ ?_
    simp only [bodyOf, Try.f19, Option.getD_some]
    simp only [WW, partV, eqCells, eqLf, minV, maxV, ifcV, zaa, zab, zac, zad, zae, zaf, zag, zah, zai, ofConst, ofConst1, List.replicate, zaj, zak, loadOp, Go.Abs.loadCells, binV, zal, pickV, zam, zan, zao, zap, zaq, zar, zas, zat, zau, outR, resAll, resOne, zav, zaw, zax, zay, zaz, zba, zbb, zbc, zbd, zbe, zbf, zbg, zbh, zbi, zbj, zbk, storeOp, storeCell, overlay, zbl, zbm, zbn, lookupOp, keyT, okRes, mapUpdateOp, zbo, zbp, zbq, zbr, zbs, zbt, zbu, Nat.reduceSub, Nat.reduceAdd, Int.reduceLT, Int.reduceLE, Int.reduceAdd, Int.reduceSub, Int.reduceToNat, Int.reduceBEq, Int.reduceBNe, Int.reduceMul, Nat.reduceBEq, Nat.reduceBNe, Nat.reduceLT, Nat.reduceLeDiff, Nat.reduceMul, Nat.reduceEqDiff, WD, effB, effH, isPriv, isHeap, isImm, zbx, zby, zbz, chkO, setD, dslot, zca, zcb, zcc, zcd, ptrCells_some, F19]
    refine wpCall_of (notify_spec L m t al (by omega)) ?_
    intro out H1 ho
    by_cases hh : hasB ms m t = 0
    · rw [if_pos hh] at ho
      obtain ⟨o, wa', wo', rfl, L1, hx⟩ := ho
      obtain ⟨bb, hs⟩ : ∃ bb, EW 23 [o, .nils] H1 = some (.ret (.bool bb) false, H1) := ⟨_, same0 hx.rd⟩
      simp only [WW, partV, eqCells, eqLf, minV, maxV, ifcV, zaa, zab, zac, zad, zae, zaf, zag, zah, zai, ofConst, ofConst1, List.replicate, zaj, zak, loadOp, Go.Abs.loadCells, binV, zal, pickV, zam, zan, zao, zap, zaq, zar, zas, zat, zau, outR, resAll, resOne, zav, zaw, zax, zay, zaz, zba, zbb, zbc, zbd, zbe, zbf, zbg, zbh, zbi, zbj, zbk, storeOp, storeCell, overlay, zbl, zbm, zbn, lookupOp, keyT, okRes, mapUpdateOp, zbo, zbp, zbq, zbr, zbs, zbt, zbu, Nat.reduceSub, Nat.reduceAdd, Int.reduceLT, Int.reduceLE, Int.reduceAdd, Int.reduceSub, Int.reduceToNat, Int.reduceBEq, Int.reduceBNe, Int.reduceMul, Nat.reduceBEq, Nat.reduceBNe, Nat.reduceLT, Nat.reduceLeDiff, Nat.reduceMul, Nat.reduceEqDiff, WD, effB, effH, isPriv, isHeap, isImm, zbx, zby, zbz, chkO, setD, dslot, zca, zcb, zcc, zcd, ptrCells_some, F19, hx.rd.clip2]
      rw [wpCall_eq (r4 _)]
      simp only [WW, partV, eqCells, eqLf, minV, maxV, ifcV, zaa, zab, zac, zad, zae, zaf, zag, zah, zai, ofConst, ofConst1, List.replicate, zaj, zak, loadOp, Go.Abs.loadCells, binV, zal, pickV, zam, zan, zao, zap, zaq, zar, zas, zat, zau, outR, resAll, resOne, zav, zaw, zax, zay, zaz, zba, zbb, zbc, zbd, zbe, zbf, zbg, zbh, zbi, zbj, zbk, storeOp, storeCell, overlay, zbl, zbm, zbn, lookupOp, keyT, okRes, mapUpdateOp, zbo, zbp, zbq, zbr, zbs, zbt, zbu, Nat.reduceSub, Nat.reduceAdd, Int.reduceLT, Int.reduceLE, Int.reduceAdd, Int.reduceSub, Int.reduceToNat, Int.reduceBEq, Int.reduceBNe, Int.reduceMul, Nat.reduceBEq, Nat.reduceBNe, Nat.reduceLT, Nat.reduceLeDiff, Nat.reduceMul, Nat.reduceEqDiff, WD, effB, effH, isPriv, isHeap, isImm, zbx, zby, zbz, chkO, setD, dslot, zca, zcb, zcc, zcd, ptrCells_some, F19, hx.rd.clip2]
      refine wC_dr alts19_21 (by kernel_rfl) ?_
      cases bb with
      | true =>
        simp only [WW, partV, eqCells, eqLf, minV, maxV, ifcV, zaa, zab, zac, zad, zae, zaf, zag, zah, zai, ofConst, ofConst1, List.replicate, zaj, zak, loadOp, Go.Abs.loadCells, binV, zal, pickV, zam, zan, zao, zap, zaq, zar, zas, zat, zau, outR, resAll, resOne, zav, zaw, zax, zay, zaz, zba, zbb, zbc, zbd, zbe, zbf, zbg, zbh, zbi, zbj, zbk, storeOp, storeCell, overlay, zbl, zbm, zbn, lookupOp, keyT, okRes, mapUpdateOp, zbo, zbp, zbq, zbr, zbs, zbt, zbu, Nat.reduceSub, Nat.reduceAdd, Int.reduceLT, Int.reduceLE, Int.reduceAdd, Int.reduceSub, Int.reduceToNat, Int.reduceBEq, Int.reduceBNe, Int.reduceMul, Nat.reduceBEq, Nat.reduceBNe, Nat.reduceLT, Nat.reduceLeDiff, Nat.reduceMul, Nat.reduceEqDiff, WD, effB, effH, isPriv, isHeap, isImm, zbx, zby, zbz, chkO, setD, dslot, zca, zcb, zcc, zcd, ptrCells_some, F19, alts19_21, wpCall_eq (num_eq _ _), wpCall_eq hs, hx.rd.clip2, hx.rd.shutIn]
        exact ⟨⟨_, rfl⟩, _, _, _, _, _, _, _, L1, F.notify _ true (List.Perm.refl _)⟩
      | false =>
        simp only [WW, partV, eqCells, eqLf, minV, maxV, ifcV, zaa, zab, zac, zad, zae, zaf, zag, zah, zai, ofConst, ofConst1, List.replicate, zaj, zak, loadOp, Go.Abs.loadCells, binV, zal, pickV, zam, zan, zao, zap, zaq, zar, zas, zat, zau, outR, resAll, resOne, zav, zaw, zax, zay, zaz, zba, zbb, zbc, zbd, zbe, zbf, zbg, zbh, zbi, zbj, zbk, storeOp, storeCell, overlay, zbl, zbm, zbn, lookupOp, keyT, okRes, mapUpdateOp, zbo, zbp, zbq, zbr, zbs, zbt, zbu, Nat.reduceSub, Nat.reduceAdd, Int.reduceLT, Int.reduceLE, Int.reduceAdd, Int.reduceSub, Int.reduceToNat, Int.reduceBEq, Int.reduceBNe, Int.reduceMul, Nat.reduceBEq, Nat.reduceBNe, Nat.reduceLT, Nat.reduceLeDiff, Nat.reduceMul, Nat.reduceEqDiff, WD, effB, effH, isPriv, isHeap, isImm, zbx, zby, zbz, chkO, setD, dslot, zca, zcb, zcc, zcd, ptrCells_some, F19, alts19_21, wpCall_eq (num_eq _ _), wpCall_eq hs, hx.rd.clip2, hx.rd.shutIn]
        exact ⟨⟨_, rfl⟩, _, _, _, _, _, _, _, L1, F.notify _ true (List.Perm.refl _)⟩
    · rw [if_neg hh] at ho
      obtain ⟨rfl, L1⟩ := ho
      have hs := same0 (H := H1) (x := .nils) (l := []) .nils
      simp only [WW, partV, eqCells, eqLf, minV, maxV, ifcV, zaa, zab, zac, zad, zae, zaf, zag, zah, zai, ofConst, ofConst1, List.replicate, zaj, zak, loadOp, Go.Abs.loadCells, binV, zal, pickV, zam, zan, zao, zap, zaq, zar, zas, zat, zau, outR, resAll, resOne, zav, zaw, zax, zay, zaz, zba, zbb, zbc, zbd, zbe, zbf, zbg, zbh, zbi, zbj, zbk, storeOp, storeCell, overlay, zbl, zbm, zbn, lookupOp, keyT, okRes, mapUpdateOp, zbo, zbp, zbq, zbr, zbs, zbt, zbu, Nat.reduceSub, Nat.reduceAdd, Int.reduceLT, Int.reduceLE, Int.reduceAdd, Int.reduceSub, Int.reduceToNat, Int.reduceBEq, Int.reduceBNe, Int.reduceMul, Nat.reduceBEq, Nat.reduceBNe, Nat.reduceLT, Nat.reduceLeDiff, Nat.reduceMul, Nat.reduceEqDiff, WD, effB, effH, isPriv, isHeap, isImm, zbx, zby, zbz, chkO, setD, dslot, zca, zcb, zcc, zcd, ptrCells_some, F19]
      rw [wpCall_eq (r4 _)]
      simp only [WW, partV, eqCells, eqLf, minV, maxV, ifcV, zaa, zab, zac, zad, zae, zaf, zag, zah, zai, ofConst, ofConst1, List.replicate, zaj, zak, loadOp, Go.Abs.loadCells, binV, zal, pickV, zam, zan, zao, zap, zaq, zar, zas, zat, zau, outR, resAll, resOne, zav, zaw, zax, zay, zaz, zba, zbb, zbc, zbd, zbe, zbf, zbg, zbh, zbi, zbj, zbk, storeOp, storeCell, overlay, zbl, zbm, zbn, lookupOp, keyT, okRes, mapUpdateOp, zbo, zbp, zbq, zbr, zbs, zbt, zbu, Nat.reduceSub, Nat.reduceAdd, Int.reduceLT, Int.reduceLE, Int.reduceAdd, Int.reduceSub, Int.reduceToNat, Int.reduceBEq, Int.reduceBNe, Int.reduceMul, Nat.reduceBEq, Nat.reduceBNe, Nat.reduceLT, Nat.reduceLeDiff, Nat.reduceMul, Nat.reduceEqDiff, WD, effB, effH, isPriv, isHeap, isImm, zbx, zby, zbz, chkO, setD, dslot, zca, zcb, zcc, zcd, ptrCells_some, F19]
      refine wC_dr alts19_21 (by kernel_rfl) ?_
      simp only [WW, partV, eqCells, eqLf, minV, maxV, ifcV, zaa, zab, zac, zad, zae, zaf, zag, zah, zai, ofConst, ofConst1, List.replicate, zaj, zak, loadOp, Go.Abs.loadCells, binV, zal, pickV, zam, zan, zao, zap, zaq, zar, zas, zat, zau, outR, resAll, resOne, zav, zaw, zax, zay, zaz, zba, zbb, zbc, zbd, zbe, zbf, zbg, zbh, zbi, zbj, zbk, storeOp, storeCell, overlay, zbl, zbm, zbn, lookupOp, keyT, okRes, mapUpdateOp, zbo, zbp, zbq, zbr, zbs, zbt, zbu, Nat.reduceSub, Nat.reduceAdd, Int.reduceLT, Int.reduceLE, Int.reduceAdd, Int.reduceSub, Int.reduceToNat, Int.reduceBEq, Int.reduceBNe, Int.reduceMul, Nat.reduceBEq, Nat.reduceBNe, Nat.reduceLT, Nat.reduceLeDiff, Nat.reduceMul, Nat.reduceEqDiff, WD, effB, effH, isPriv, isHeap, isImm, zbx, zby, zbz, chkO, setD, dslot, zca, zcb, zcc, zcd, ptrCells_some, F19, alts19_21, wpCall_eq (num_eq _ _), wpCall_eq hs]
      exact ⟨⟨_, rfl⟩, _, _, _, _, _, _, _, L1, F⟩
  have g4 : (d == 4) = false := by simpa using q4
  by_cases q5 : d = 5
  · subst q5
    refine runs f19 b19 r19 n19 _ _ ?_
    simp only [bodyOf, Try.f19, Option.getD_some]
    simp only [WW, partV, eqCells, eqLf, minV, maxV, ifcV, zaa, zab, zac, zad, zae, zaf, zag, zah, zai, ofConst, ofConst1, List.replicate, zaj, zak, loadOp, Go.Abs.loadCells, binV, zal, pickV, zam, zan, zao, zap, zaq, zar, zas, zat, zau, outR, resAll, resOne, zav, zaw, zax, zay, zaz, zba, zbb, zbc, zbd, zbe, zbf, zbg, zbh, zbi, zbj, zbk, storeOp, storeCell, overlay, zbl, zbm, zbn, lookupOp, keyT, okRes, mapUpdateOp, zbo, zbp, zbq, zbr, zbs, zbt, zbu, Nat.reduceSub, Nat.reduceAdd, Int.reduceLT, Int.reduceLE, Int.reduceAdd, Int.reduceSub, Int.reduceToNat, Int.reduceBEq, Int.reduceBNe, Int.reduceMul, Nat.reduceBEq, Nat.reduceBNe, Nat.reduceLT, Nat.reduceLeDiff, Nat.reduceMul, Nat.reduceEqDiff, WD, effB, effH, isPriv, isHeap, isImm, zbx, zby, zbz, chkO, setD, dslot, zca, zcb, zcc, zcd, ptrCells_some, F19]
    refine wpCall_of (expire_spec L n (by omega) (by omega)) ?_
    rintro out H1 ⟨l', o, wa', wo', hp, rfl, L1, hx⟩
    have hs := same0 hx.rd
    simp only [WW, partV, eqCells, eqLf, minV, maxV, ifcV, zaa, zab, zac, zad, zae, zaf, zag, zah, zai, ofConst, ofConst1, List.replicate, zaj, zak, loadOp, Go.Abs.loadCells, binV, zal, pickV, zam, zan, zao, zap, zaq, zar, zas, zat, zau, outR, resAll, resOne, zav, zaw, zax, zay, zaz, zba, zbb, zbc, zbd, zbe, zbf, zbg, zbh, zbi, zbj, zbk, storeOp, storeCell, overlay, zbl, zbm, zbn, lookupOp, keyT, okRes, mapUpdateOp, zbo, zbp, zbq, zbr, zbs, zbt, zbu, Nat.reduceSub, Nat.reduceAdd, Int.reduceLT, Int.reduceLE, Int.reduceAdd, Int.reduceSub, Int.reduceToNat, Int.reduceBEq, Int.reduceBNe, Int.reduceMul, Nat.reduceBEq, Nat.reduceBNe, Nat.reduceLT, Nat.reduceLeDiff, Nat.reduceMul, Nat.reduceEqDiff, WD, effB, effH, isPriv, isHeap, isImm, zbx, zby, zbz, chkO, setD, dslot, zca, zcb, zcc, zcd, ptrCells_some, F19, hx.rd.clip2]
    rw [wpCall_eq (r5 _)]
    simp only [WW, partV, eqCells, eqLf, minV, maxV, ifcV, zaa, zab, zac, zad, zae, zaf, zag, zah, zai, ofConst, ofConst1, List.replicate, zaj, zak, loadOp, Go.Abs.loadCells, binV, zal, pickV, zam, zan, zao, zap, zaq, zar, zas, zat, zau, outR, resAll, resOne, zav, zaw, zax, zay, zaz, zba, zbb, zbc, zbd, zbe, zbf, zbg, zbh, zbi, zbj, zbk, storeOp, storeCell, overlay, zbl, zbm, zbn, lookupOp, keyT, okRes, mapUpdateOp, zbo, zbp, zbq, zbr, zbs, zbt, zbu, Nat.reduceSub, Nat.reduceAdd, Int.reduceLT, Int.reduceLE, Int.reduceAdd, Int.reduceSub, Int.reduceToNat, Int.reduceBEq, Int.reduceBNe, Int.reduceMul, Nat.reduceBEq, Nat.reduceBNe, Nat.reduceLT, Nat.reduceLeDiff, Nat.reduceMul, Nat.reduceEqDiff, WD, effB, effH, isPriv, isHeap, isImm, zbx, zby, zbz, chkO, setD, dslot, zca, zcb, zcc, zcd, ptrCells_some, F19, hx.rd.clip2]
    refine wC_dr alts19_25 (by kernel_rfl) ?_
    simp only [WW, partV, eqCells, eqLf, minV, maxV, ifcV, zaa, zab, zac, zad, zae, zaf, zag, zah, zai, ofConst, ofConst1, List.replicate, zaj, zak, loadOp, Go.Abs.loadCells, binV, zal, pickV, zam, zan, zao, zap, zaq, zar, zas, zat, zau, outR, resAll, resOne, zav, zaw, zax, zay, zaz, zba, zbb, zbc, zbd, zbe, zbf, zbg, zbh, zbi, zbj, zbk, storeOp, storeCell, overlay, zbl, zbm, zbn, lookupOp, keyT, okRes, mapUpdateOp, zbo, zbp, zbq, zbr, zbs, zbt, zbu, Nat.reduceSub, Nat.reduceAdd, Int.reduceLT, Int.reduceLE, Int.reduceAdd, Int.reduceSub, Int.reduceToNat, Int.reduceBEq, Int.reduceBNe, Int.reduceMul, Nat.reduceBEq, Nat.reduceBNe, Nat.reduceLT, Nat.reduceLeDiff, Nat.reduceMul, Nat.reduceEqDiff, WD, effB, effH, isPriv, isHeap, isImm, zbx, zby, zbz, chkO, setD, dslot, zca, zcb, zcc, zcd, ptrCells_some, F19, alts19_25, wpCall_eq hs, hx.rd.clip2, hx.rd.shutIn]
    exact ⟨⟨_, rfl⟩, _, _, _, _, _, _, _, L1, F.notify _ false hp⟩
  have g5 : (d == 5) = false := by simpa using q5
  by_cases q6 : d = 6
  · subst q6
    refine runs f19 b19 r19 n19 _ _ ?_
    simp only [bodyOf, Try.f19, Option.getD_some]
    simp only [WW, partV, eqCells, eqLf, minV, maxV, ifcV, zaa, zab, zac, zad, zae, zaf, zag, zah, zai, ofConst, ofConst1, List.replicate, zaj, zak, loadOp, Go.Abs.loadCells, binV, zal, pickV, zam, zan, zao, zap, zaq, zar, zas, zat, zau, outR, resAll, resOne, zav, zaw, zax, zay, zaz, zba, zbb, zbc, zbd, zbe, zbf, zbg, zbh, zbi, zbj, zbk, storeOp, storeCell, overlay, zbl, zbm, zbn, lookupOp, keyT, okRes, mapUpdateOp, zbo, zbp, zbq, zbr, zbs, zbt, zbu, Nat.reduceSub, Nat.reduceAdd, Int.reduceLT, Int.reduceLE, Int.reduceAdd, Int.reduceSub, Int.reduceToNat, Int.reduceBEq, Int.reduceBNe, Int.reduceMul, Nat.reduceBEq, Nat.reduceBNe, Nat.reduceLT, Nat.reduceLeDiff, Nat.reduceMul, Nat.reduceEqDiff, WD, effB, effH, isPriv, isHeap, isImm, zbx, zby, zbz, chkO, setD, dslot, zca, zcb, zcc, zcd, ptrCells_some, F19]
    refine wpCall_of (relock_spec L t (by omega)) ?_
    rintro out H1 ⟨rfl, wo', L1⟩
    obtain ⟨e6, r6'⟩ := r6 H1
    simp only [WW, partV, eqCells, eqLf, minV, maxV, ifcV, zaa, zab, zac, zad, zae, zaf, zag, zah, zai, ofConst, ofConst1, List.replicate, zaj, zak, loadOp, Go.Abs.loadCells, binV, zal, pickV, zam, zan, zao, zap, zaq, zar, zas, zat, zau, outR, resAll, resOne, zav, zaw, zax, zay, zaz, zba, zbb, zbc, zbd, zbe, zbf, zbg, zbh, zbi, zbj, zbk, storeOp, storeCell, overlay, zbl, zbm, zbn, lookupOp, keyT, okRes, mapUpdateOp, zbo, zbp, zbq, zbr, zbs, zbt, zbu, Nat.reduceSub, Nat.reduceAdd, Int.reduceLT, Int.reduceLE, Int.reduceAdd, Int.reduceSub, Int.reduceToNat, Int.reduceBEq, Int.reduceBNe, Int.reduceMul, Nat.reduceBEq, Nat.reduceBNe, Nat.reduceLT, Nat.reduceLeDiff, Nat.reduceMul, Nat.reduceEqDiff, WD, effB, effH, isPriv, isHeap, isImm, zbx, zby, zbz, chkO, setD, dslot, zca, zcb, zcc, zcd, ptrCells_some, F19]
    rw [wpCall_eq r6']
    simp only [WW, partV, eqCells, eqLf, minV, maxV, ifcV, zaa, zab, zac, zad, zae, zaf, zag, zah, zai, ofConst, ofConst1, List.replicate, zaj, zak, loadOp, Go.Abs.loadCells, binV, zal, pickV, zam, zan, zao, zap, zaq, zar, zas, zat, zau, outR, resAll, resOne, zav, zaw, zax, zay, zaz, zba, zbb, zbc, zbd, zbe, zbf, zbg, zbh, zbi, zbj, zbk, storeOp, storeCell, overlay, zbl, zbm, zbn, lookupOp, keyT, okRes, mapUpdateOp, zbo, zbp, zbq, zbr, zbs, zbt, zbu, Nat.reduceSub, Nat.reduceAdd, Int.reduceLT, Int.reduceLE, Int.reduceAdd, Int.reduceSub, Int.reduceToNat, Int.reduceBEq, Int.reduceBNe, Int.reduceMul, Nat.reduceBEq, Nat.reduceBNe, Nat.reduceLT, Nat.reduceLeDiff, Nat.reduceMul, Nat.reduceEqDiff, WD, effB, effH, isPriv, isHeap, isImm, zbx, zby, zbz, chkO, setD, dslot, zca, zcb, zcc, zcd, ptrCells_some, F19]
    refine wC_dr alts19_29 (by kernel_rfl) ?_
    simp only [WW, partV, eqCells, eqLf, minV, maxV, ifcV, zaa, zab, zac, zad, zae, zaf, zag, zah, zai, ofConst, ofConst1, List.replicate, zaj, zak, loadOp, Go.Abs.loadCells, binV, zal, pickV, zam, zan, zao, zap, zaq, zar, zas, zat, zau, outR, resAll, resOne, zav, zaw, zax, zay, zaz, zba, zbb, zbc, zbd, zbe, zbf, zbg, zbh, zbi, zbj, zbk, storeOp, storeCell, overlay, zbl, zbm, zbn, lookupOp, keyT, okRes, mapUpdateOp, zbo, zbp, zbq, zbr, zbs, zbt, zbu, Nat.reduceSub, Nat.reduceAdd, Int.reduceLT, Int.reduceLE, Int.reduceAdd, Int.reduceSub, Int.reduceToNat, Int.reduceBEq, Int.reduceBNe, Int.reduceMul, Nat.reduceBEq, Nat.reduceBNe, Nat.reduceLT, Nat.reduceLeDiff, Nat.reduceMul, Nat.reduceEqDiff, WD, effB, effH, isPriv, isHeap, isImm, zbx, zby, zbz, chkO, setD, dslot, zca, zcb, zcc, zcd, ptrCells_some, F19, alts19_29, wpCall_eq (num_eq _ _)]
    exact ⟨⟨_, rfl⟩, _, _, _, _, _, _, _, L1, F.relock t⟩
  have g6 : (d == 6) = false := by simpa using q6
  by_cases q7 : d = 7
  · subst q7
    refine runs f19 b19 r19 n19 _ _ ?_
    simp only [bodyOf, Try.f19, Option.getD_some]
    simp only [WW, partV, eqCells, eqLf, minV, maxV, ifcV, zaa, zab, zac, zad, zae, zaf, zag, zah, zai, ofConst, ofConst1, List.replicate, zaj, zak, loadOp, Go.Abs.loadCells, binV, zal, pickV, zam, zan, zao, zap, zaq, zar, zas, zat, zau, outR, resAll, resOne, zav, zaw, zax, zay, zaz, zba, zbb, zbc, zbd, zbe, zbf, zbg, zbh, zbi, zbj, zbk, storeOp, storeCell, overlay, zbl, zbm, zbn, lookupOp, keyT, okRes, mapUpdateOp, zbo, zbp, zbq, zbr, zbs, zbt, zbu, Nat.reduceSub, Nat.reduceAdd, Int.reduceLT, Int.reduceLE, Int.reduceAdd, Int.reduceSub, Int.reduceToNat, Int.reduceBEq, Int.reduceBNe, Int.reduceMul, Nat.reduceBEq, Nat.reduceBNe, Nat.reduceLT, Nat.reduceLeDiff, Nat.reduceMul, Nat.reduceEqDiff, WD, effB, effH, isPriv, isHeap, isImm, zbx, zby, zbz, chkO, setD, dslot, zca, zcb, zcc, zcd, ptrCells_some, F19]
    refine wpCall_of (drop_spec L t (by omega) (by omega) (by have := F.len; omega)) ?_
    rintro out H1 ⟨rfl, wa', wo', L1⟩
    simp only [WW, partV, eqCells, eqLf, minV, maxV, ifcV, zaa, zab, zac, zad, zae, zaf, zag, zah, zai, ofConst, ofConst1, List.replicate, zaj, zak, loadOp, Go.Abs.loadCells, binV, zal, pickV, zam, zan, zao, zap, zaq, zar, zas, zat, zau, outR, resAll, resOne, zav, zaw, zax, zay, zaz, zba, zbb, zbc, zbd, zbe, zbf, zbg, zbh, zbi, zbj, zbk, storeOp, storeCell, overlay, zbl, zbm, zbn, lookupOp, keyT, okRes, mapUpdateOp, zbo, zbp, zbq, zbr, zbs, zbt, zbu, Nat.reduceSub, Nat.reduceAdd, Int.reduceLT, Int.reduceLE, Int.reduceAdd, Int.reduceSub, Int.reduceToNat, Int.reduceBEq, Int.reduceBNe, Int.reduceMul, Nat.reduceBEq, Nat.reduceBNe, Nat.reduceLT, Nat.reduceLeDiff, Nat.reduceMul, Nat.reduceEqDiff, WD, effB, effH, isPriv, isHeap, isImm, zbx, zby, zbz, chkO, setD, dslot, zca, zcb, zcc, zcd, ptrCells_some, F19, wpCall_eq (r7 _)]
    exact ⟨⟨_, rfl⟩, _, _, _, _, _, _, _, L1, F.drop t⟩
  have g7 : (d == 7) = false := by simpa using q7
  refine runs f19 b19 r19 n19 _ _ ?_
  simp only [bodyOf, Try.f19, Option.getD_some]
  simp only [WW, partV, eqCells, eqLf, minV, maxV, ifcV, zaa, zab, zac, zad, zae, zaf, zag, zah, zai, ofConst, ofConst1, List.replicate, zaj, zak, loadOp, Go.Abs.loadCells, binV, zal, pickV, zam, zan, zao, zap, zaq, zar, zas, zat, zau, outR, resAll, resOne, zav, zaw, zax, zay, zaz, zba, zbb, zbc, zbd, zbe, zbf, zbg, zbh, zbi, zbj, zbk, storeOp, storeCell, overlay, zbl, zbm, zbn, lookupOp, keyT, okRes, mapUpdateOp, zbo, zbp, zbq, zbr, zbs, zbt, zbu, Nat.reduceSub, Nat.reduceAdd, Int.reduceLT, Int.reduceLE, Int.reduceAdd, Int.reduceSub, Int.reduceToNat, Int.reduceBEq, Int.reduceBNe, Int.reduceMul, Nat.reduceBEq, Nat.reduceBNe, Nat.reduceLT, Nat.reduceLeDiff, Nat.reduceMul, Nat.reduceEqDiff, WD, effB, effH, isPriv, isHeap, isImm, zbx, zby, zbz, chkO, setD, dslot, zca, zcb, zcc, zcd, ptrCells_some, F19, g0, g1, g2, g3, g4, g5, g6, g7]
  exact ⟨⟨_, rfl⟩, _, _, _, _, _, _, _, L, F⟩
end Go.Proofs.Ythicacphcljdmaa

/- Free just if it can be locked: the law. -/
namespace Go.Proofs.Ythicacphcljdmaa
open Go Go.Abs Go.Proofs
set_option maxRecDepth 100000
set_option maxHeartbeats 8000000
set_option linter.unusedVariables false
set_option linter.unusedSimpArgs false
theorem wrong_no {ms : List Mon} {k : Nat} {t : Int} (hk : k < ms.length) (h1 : 0 ≤ t) (h2 : t < 256) : wrongB ms (k : Int) t = false := by
  simp only [wrongB, Bool.or_eq_false_iff, decide_eq_false_iff_not]; omega
theorem freeB_at {ms : List Mon} {k : Nat} {x : Mon} {t : Int} (hk : ms[k]? = some x) (h1 : 0 ≤ t) (h2 : t < 256) : freeB ms (k : Int) t = (x.n == 0 || x.t == t) := by
  unfold freeB
  rw [wrong_no (List.getElem?_eq_some_iff.1 hk).1 h1 h2, show ((k : Nat) : Int).toNat = k from rfl, hk]
  rfl
theorem hasB_at {ms : List Mon} {k : Nat} {x : Mon} {t : Int} (hk : ms[k]? = some x) (h1 : 0 ≤ t) (h2 : t < 256) : hasB ms (k : Int) t = if (x.n == 0 || x.t != t) = true then 8 else 0 := by
  unfold hasB
  rw [wrong_no (List.getElem?_eq_some_iff.1 hk).1 h1 h2, show ((k : Nat) : Int).toNat = k from rfl, hk]
  rfl
/-- A monitor that may be locked is locked -/
theorem lockM_yes {ms : List Mon} {ws wk : List Slp} {k : Nat} {x : Mon} {t : Int} (hk : ms[k]? = some x) (h1 : 0 ≤ t) (h2 : t < 256) (hf : (x.n == 0 || x.t == t) = true) (hw : findT ws t = -1) (hwk : findT wk t = -1) (hn : 0 ≤ x.n) (hn2 : x.n < 1000) :
    lockM ms ws wk k t = (0, ms.set k ⟨x.id, t, x.n + 1⟩) := by
  unfold lockM
  rw [wrong_no (List.getElem?_eq_some_iff.1 hk).1 h1 h2, freeB_at hk h1 h2, hf, hw, hwk, show ((k : Nat) : Int).toNat = k from rfl, hk]
  have : (x.n == 1099511627776) = false := by simp; omega
  have hwr : IntKind.i64.wrap (x.n + 1) = x.n + 1 := IntWalk.i64_in _ (by omega)
  simp only [hwr, this]
  rfl
theorem lockM_no {ms : List Mon} {ws wk : List Slp} {k : Nat} {x : Mon} {t : Int} (hk : ms[k]? = some x) (h1 : 0 ≤ t) (h2 : t < 256) (hf : (x.n == 0 || x.t == t) = false) :
    lockM ms ws wk k t = (7, ms) := by
  unfold lockM
  rw [wrong_no (List.getElem?_eq_some_iff.1 hk).1 h1 h2, freeB_at hk h1 h2, hf]
  rfl
theorem unlockM_yes {ms : List Mon} {k : Nat} {x : Mon} (hk : ms[k]? = some x) (h1 : 0 ≤ x.t) (h2 : x.t < 256) (hn : 0 < x.n) (hn2 : x.n < 1000) :
    unlockM ms k x.t = (0, ms.set k ⟨x.id, if x.n - 1 = 0 then -1 else x.t, x.n - 1⟩) := by
  unfold unlockM
  have a1 : (x.n == 0) = false := by simp; omega
  have hwr : IntKind.i64.wrap (x.n - 1) = x.n - 1 := IntWalk.i64_in _ (by omega)
  rw [hasB_at hk h1 h2, show ((k : Nat) : Int).toNat = k from rfl, hk, if_pos (by rw [a1]; simp)]
  dsimp only
  rw [hwr]
  simp only [beq_iff_eq]
theorem fr_start (a b : Nat) : Fr [⟨a, -1, 0⟩, ⟨b, -1, 0⟩] [] [] := by
  refine ⟨rfl, fun y hy => ?_, fun s hs => ?_, fun u hu => ?_⟩
  · rcases List.mem_cons.1 hy with rfl | hy
    · exact .inl ⟨rfl, rfl⟩
    · rcases List.mem_cons.1 hy with rfl | hy
      · exact .inl ⟨rfl, rfl⟩
      · cases hy
  · rcases hs with hs | hs
    · cases hs
    · cases hs
  · have : cM [⟨a, -1, 0⟩, ⟨b, -1, 0⟩] u ≤ 2 := List.countP_le_length
    have h0 : cS [] u = 0 := rfl
    omega
theorem frees_eq (m t n : Int) (x : V) (l : List Act) (hx : ∀ H, Rd H x (l.map actV)) (hn0 : 0 ≤ n) (hn1 : n ≤ 255) :
    wpCall EW 5 [x, .int .i64 m, .int .i64 t, .int .u8 n] [] (fun out H' => out = .ret (.bool true) false) := by
  have hs := (hx []).shutIn
  have hlen : ∀ H e, lenK H (.slice e) x = some (.int .i64 (l.length : Int)) := fun H e => by have := (hx H).len e; rwa [List.length_map] at this
  refine runs f5 b5 r5 n5 _ _ ?_
  simp only [bodyOf, Try.f5, Option.getD_some]
  simp only [WW, partV, eqCells, eqLf, minV, maxV, ifcV, zaa, zab, zac, zad, zae, zaf, zag, zah, zai, ofConst, ofConst1, List.replicate, zaj, zak, loadOp, Go.Abs.loadCells, binV, zal, pickV, zam, zan, zao, zap, zaq, zar, zas, zat, zau, outR, resAll, resOne, zav, zaw, zax, zay, zaz, zba, zbb, zbc, zbd, zbe, zbf, zbg, zbh, zbi, zbj, zbk, storeOp, storeCell, overlay, zbl, zbm, zbn, lookupOp, keyT, okRes, mapUpdateOp, zbo, zbp, zbq, zbr, zbs, zbt, zbu, Nat.reduceSub, Nat.reduceAdd, Int.reduceLT, Int.reduceLE, Int.reduceAdd, Int.reduceSub, Int.reduceToNat, Int.reduceBEq, Int.reduceBNe, Int.reduceMul, Nat.reduceBEq, Nat.reduceBNe, Nat.reduceLT, Nat.reduceLeDiff, Nat.reduceMul, Nat.reduceEqDiff, WD, effB, effH, isPriv, isHeap, isImm, zbx, zby, zbz, chkO, setD, dslot, zca, zcb, zcc, zcd, ptrCells_some, F5, hs, hlen]
  refine gSplit (fun h0 => ?_) (fun h0 => ?_)
  · simp only [h0]
    simp only [WW, partV, eqCells, eqLf, minV, maxV, ifcV, zaa, zab, zac, zad, zae, zaf, zag, zah, zai, ofConst, ofConst1, List.replicate, zaj, zak, loadOp, Go.Abs.loadCells, binV, zal, pickV, zam, zan, zao, zap, zaq, zar, zas, zat, zau, outR, resAll, resOne, zav, zaw, zax, zay, zaz, zba, zbb, zbc, zbd, zbe, zbf, zbg, zbh, zbi, zbj, zbk, storeOp, storeCell, overlay, zbl, zbm, zbn, lookupOp, keyT, okRes, mapUpdateOp, zbo, zbp, zbq, zbr, zbs, zbt, zbu, Nat.reduceSub, Nat.reduceAdd, Int.reduceLT, Int.reduceLE, Int.reduceAdd, Int.reduceSub, Int.reduceToNat, Int.reduceBEq, Int.reduceBNe, Int.reduceMul, Nat.reduceBEq, Nat.reduceBNe, Nat.reduceLT, Nat.reduceLeDiff, Nat.reduceMul, Nat.reduceEqDiff, WD, effB, effH, isPriv, isHeap, isImm, zbx, zby, zbz, chkO, setD, dslot, zca, zcb, zcc, zcd, ptrCells_some, F5]
    rw [wpCall_eq (live_eq _)]
    simp only [WW, partV, eqCells, eqLf, minV, maxV, ifcV, zaa, zab, zac, zad, zae, zaf, zag, zah, zai, ofConst, ofConst1, List.replicate, zaj, zak, loadOp, Go.Abs.loadCells, binV, zal, pickV, zam, zan, zao, zap, zaq, zar, zas, zat, zau, outR, resAll, resOne, zav, zaw, zax, zay, zaz, zba, zbb, zbc, zbd, zbe, zbf, zbg, zbh, zbi, zbj, zbk, storeOp, storeCell, overlay, zbl, zbm, zbn, lookupOp, keyT, okRes, mapUpdateOp, zbo, zbp, zbq, zbr, zbs, zbt, zbu, Nat.reduceSub, Nat.reduceAdd, Int.reduceLT, Int.reduceLE, Int.reduceAdd, Int.reduceSub, Int.reduceToNat, Int.reduceBEq, Int.reduceBNe, Int.reduceMul, Nat.reduceBEq, Nat.reduceBNe, Nat.reduceLT, Nat.reduceLeDiff, Nat.reduceMul, Nat.reduceEqDiff, WD, effB, effH, isPriv, isHeap, isImm, zbx, zby, zbz, chkO, setD, dslot, zca, zcb, zcc, zcd, ptrCells_some, F5]
  simp only [h0]
  simp only [WW, partV, eqCells, eqLf, minV, maxV, ifcV, zaa, zab, zac, zad, zae, zaf, zag, zah, zai, ofConst, ofConst1, List.replicate, zaj, zak, loadOp, Go.Abs.loadCells, binV, zal, pickV, zam, zan, zao, zap, zaq, zar, zas, zat, zau, outR, resAll, resOne, zav, zaw, zax, zay, zaz, zba, zbb, zbc, zbd, zbe, zbf, zbg, zbh, zbi, zbj, zbk, storeOp, storeCell, overlay, zbl, zbm, zbn, lookupOp, keyT, okRes, mapUpdateOp, zbo, zbp, zbq, zbr, zbs, zbt, zbu, Nat.reduceSub, Nat.reduceAdd, Int.reduceLT, Int.reduceLE, Int.reduceAdd, Int.reduceSub, Int.reduceToNat, Int.reduceBEq, Int.reduceBNe, Int.reduceMul, Nat.reduceBEq, Nat.reduceBNe, Nat.reduceLT, Nat.reduceLeDiff, Nat.reduceMul, Nat.reduceEqDiff, WD, effB, effH, isPriv, isHeap, isImm, zbx, zby, zbz, chkO, setD, dslot, zca, zcb, zcc, zcd, ptrCells_some, F5]
  refine gSplit (fun h1 => ?_) (fun h1 => ?_)
  · simp only [h1]
    simp only [WW, partV, eqCells, eqLf, minV, maxV, ifcV, zaa, zab, zac, zad, zae, zaf, zag, zah, zai, ofConst, ofConst1, List.replicate, zaj, zak, loadOp, Go.Abs.loadCells, binV, zal, pickV, zam, zan, zao, zap, zaq, zar, zas, zat, zau, outR, resAll, resOne, zav, zaw, zax, zay, zaz, zba, zbb, zbc, zbd, zbe, zbf, zbg, zbh, zbi, zbj, zbk, storeOp, storeCell, overlay, zbl, zbm, zbn, lookupOp, keyT, okRes, mapUpdateOp, zbo, zbp, zbq, zbr, zbs, zbt, zbu, Nat.reduceSub, Nat.reduceAdd, Int.reduceLT, Int.reduceLE, Int.reduceAdd, Int.reduceSub, Int.reduceToNat, Int.reduceBEq, Int.reduceBNe, Int.reduceMul, Nat.reduceBEq, Nat.reduceBNe, Nat.reduceLT, Nat.reduceLeDiff, Nat.reduceMul, Nat.reduceEqDiff, WD, effB, effH, isPriv, isHeap, isImm, zbx, zby, zbz, chkO, setD, dslot, zca, zcb, zcc, zcd, ptrCells_some, F5]
    rw [wpCall_eq (live_eq _)]
    simp only [WW, partV, eqCells, eqLf, minV, maxV, ifcV, zaa, zab, zac, zad, zae, zaf, zag, zah, zai, ofConst, ofConst1, List.replicate, zaj, zak, loadOp, Go.Abs.loadCells, binV, zal, pickV, zam, zan, zao, zap, zaq, zar, zas, zat, zau, outR, resAll, resOne, zav, zaw, zax, zay, zaz, zba, zbb, zbc, zbd, zbe, zbf, zbg, zbh, zbi, zbj, zbk, storeOp, storeCell, overlay, zbl, zbm, zbn, lookupOp, keyT, okRes, mapUpdateOp, zbo, zbp, zbq, zbr, zbs, zbt, zbu, Nat.reduceSub, Nat.reduceAdd, Int.reduceLT, Int.reduceLE, Int.reduceAdd, Int.reduceSub, Int.reduceToNat, Int.reduceBEq, Int.reduceBNe, Int.reduceMul, Nat.reduceBEq, Nat.reduceBNe, Nat.reduceLT, Nat.reduceLeDiff, Nat.reduceMul, Nat.reduceEqDiff, WD, effB, effH, isPriv, isHeap, isImm, zbx, zby, zbz, chkO, setD, dslot, zca, zcb, zcc, zcd, ptrCells_some, F5]
  simp only [h1]
  simp only [WW, partV, eqCells, eqLf, minV, maxV, ifcV, zaa, zab, zac, zad, zae, zaf, zag, zah, zai, ofConst, ofConst1, List.replicate, zaj, zak, loadOp, Go.Abs.loadCells, binV, zal, pickV, zam, zan, zao, zap, zaq, zar, zas, zat, zau, outR, resAll, resOne, zav, zaw, zax, zay, zaz, zba, zbb, zbc, zbd, zbe, zbf, zbg, zbh, zbi, zbj, zbk, storeOp, storeCell, overlay, zbl, zbm, zbn, lookupOp, keyT, okRes, mapUpdateOp, zbo, zbp, zbq, zbr, zbs, zbt, zbu, Nat.reduceSub, Nat.reduceAdd, Int.reduceLT, Int.reduceLE, Int.reduceAdd, Int.reduceSub, Int.reduceToNat, Int.reduceBEq, Int.reduceBNe, Int.reduceMul, Nat.reduceBEq, Nat.reduceBNe, Nat.reduceLT, Nat.reduceLeDiff, Nat.reduceMul, Nat.reduceEqDiff, WD, effB, effH, isPriv, isHeap, isImm, zbx, zby, zbz, chkO, setD, dslot, zca, zcb, zcc, zcd, ptrCells_some, F5]
  refine gSplit (fun h2 => ?_) (fun h2 => ?_)
  · simp only [h2]
    simp only [WW, partV, eqCells, eqLf, minV, maxV, ifcV, zaa, zab, zac, zad, zae, zaf, zag, zah, zai, ofConst, ofConst1, List.replicate, zaj, zak, loadOp, Go.Abs.loadCells, binV, zal, pickV, zam, zan, zao, zap, zaq, zar, zas, zat, zau, outR, resAll, resOne, zav, zaw, zax, zay, zaz, zba, zbb, zbc, zbd, zbe, zbf, zbg, zbh, zbi, zbj, zbk, storeOp, storeCell, overlay, zbl, zbm, zbn, lookupOp, keyT, okRes, mapUpdateOp, zbo, zbp, zbq, zbr, zbs, zbt, zbu, Nat.reduceSub, Nat.reduceAdd, Int.reduceLT, Int.reduceLE, Int.reduceAdd, Int.reduceSub, Int.reduceToNat, Int.reduceBEq, Int.reduceBNe, Int.reduceMul, Nat.reduceBEq, Nat.reduceBNe, Nat.reduceLT, Nat.reduceLeDiff, Nat.reduceMul, Nat.reduceEqDiff, WD, effB, effH, isPriv, isHeap, isImm, zbx, zby, zbz, chkO, setD, dslot, zca, zcb, zcc, zcd, ptrCells_some, F5]
    rw [wpCall_eq (live_eq _)]
    simp only [WW, partV, eqCells, eqLf, minV, maxV, ifcV, zaa, zab, zac, zad, zae, zaf, zag, zah, zai, ofConst, ofConst1, List.replicate, zaj, zak, loadOp, Go.Abs.loadCells, binV, zal, pickV, zam, zan, zao, zap, zaq, zar, zas, zat, zau, outR, resAll, resOne, zav, zaw, zax, zay, zaz, zba, zbb, zbc, zbd, zbe, zbf, zbg, zbh, zbi, zbj, zbk, storeOp, storeCell, overlay, zbl, zbm, zbn, lookupOp, keyT, okRes, mapUpdateOp, zbo, zbp, zbq, zbr, zbs, zbt, zbu, Nat.reduceSub, Nat.reduceAdd, Int.reduceLT, Int.reduceLE, Int.reduceAdd, Int.reduceSub, Int.reduceToNat, Int.reduceBEq, Int.reduceBNe, Int.reduceMul, Nat.reduceBEq, Nat.reduceBNe, Nat.reduceLT, Nat.reduceLeDiff, Nat.reduceMul, Nat.reduceEqDiff, WD, effB, effH, isPriv, isHeap, isImm, zbx, zby, zbz, chkO, setD, dslot, zca, zcb, zcc, zcd, ptrCells_some, F5]
  simp only [h2]
  simp only [WW, partV, eqCells, eqLf, minV, maxV, ifcV, zaa, zab, zac, zad, zae, zaf, zag, zah, zai, ofConst, ofConst1, List.replicate, zaj, zak, loadOp, Go.Abs.loadCells, binV, zal, pickV, zam, zan, zao, zap, zaq, zar, zas, zat, zau, outR, resAll, resOne, zav, zaw, zax, zay, zaz, zba, zbb, zbc, zbd, zbe, zbf, zbg, zbh, zbi, zbj, zbk, storeOp, storeCell, overlay, zbl, zbm, zbn, lookupOp, keyT, okRes, mapUpdateOp, zbo, zbp, zbq, zbr, zbs, zbt, zbu, Nat.reduceSub, Nat.reduceAdd, Int.reduceLT, Int.reduceLE, Int.reduceAdd, Int.reduceSub, Int.reduceToNat, Int.reduceBEq, Int.reduceBNe, Int.reduceMul, Nat.reduceBEq, Nat.reduceBNe, Nat.reduceLT, Nat.reduceLeDiff, Nat.reduceMul, Nat.reduceEqDiff, WD, effB, effH, isPriv, isHeap, isImm, zbx, zby, zbz, chkO, setD, dslot, zca, zcb, zcc, zcd, ptrCells_some, F5]
  refine gSplit (fun h3 => ?_) (fun h3 => ?_)
  · simp only [h3]
    simp only [WW, partV, eqCells, eqLf, minV, maxV, ifcV, zaa, zab, zac, zad, zae, zaf, zag, zah, zai, ofConst, ofConst1, List.replicate, zaj, zak, loadOp, Go.Abs.loadCells, binV, zal, pickV, zam, zan, zao, zap, zaq, zar, zas, zat, zau, outR, resAll, resOne, zav, zaw, zax, zay, zaz, zba, zbb, zbc, zbd, zbe, zbf, zbg, zbh, zbi, zbj, zbk, storeOp, storeCell, overlay, zbl, zbm, zbn, lookupOp, keyT, okRes, mapUpdateOp, zbo, zbp, zbq, zbr, zbs, zbt, zbu, Nat.reduceSub, Nat.reduceAdd, Int.reduceLT, Int.reduceLE, Int.reduceAdd, Int.reduceSub, Int.reduceToNat, Int.reduceBEq, Int.reduceBNe, Int.reduceMul, Nat.reduceBEq, Nat.reduceBNe, Nat.reduceLT, Nat.reduceLeDiff, Nat.reduceMul, Nat.reduceEqDiff, WD, effB, effH, isPriv, isHeap, isImm, zbx, zby, zbz, chkO, setD, dslot, zca, zcb, zcc, zcd, ptrCells_some, F5]
    rw [wpCall_eq (live_eq _)]
    simp only [WW, partV, eqCells, eqLf, minV, maxV, ifcV, zaa, zab, zac, zad, zae, zaf, zag, zah, zai, ofConst, ofConst1, List.replicate, zaj, zak, loadOp, Go.Abs.loadCells, binV, zal, pickV, zam, zan, zao, zap, zaq, zar, zas, zat, zau, outR, resAll, resOne, zav, zaw, zax, zay, zaz, zba, zbb, zbc, zbd, zbe, zbf, zbg, zbh, zbi, zbj, zbk, storeOp, storeCell, overlay, zbl, zbm, zbn, lookupOp, keyT, okRes, mapUpdateOp, zbo, zbp, zbq, zbr, zbs, zbt, zbu, Nat.reduceSub, Nat.reduceAdd, Int.reduceLT, Int.reduceLE, Int.reduceAdd, Int.reduceSub, Int.reduceToNat, Int.reduceBEq, Int.reduceBNe, Int.reduceMul, Nat.reduceBEq, Nat.reduceBNe, Nat.reduceLT, Nat.reduceLeDiff, Nat.reduceMul, Nat.reduceEqDiff, WD, effB, effH, isPriv, isHeap, isImm, zbx, zby, zbz, chkO, setD, dslot, zca, zcb, zcc, zcd, ptrCells_some, F5]
  simp only [h3]
  simp only [WW, partV, eqCells, eqLf, minV, maxV, ifcV, zaa, zab, zac, zad, zae, zaf, zag, zah, zai, ofConst, ofConst1, List.replicate, zaj, zak, loadOp, Go.Abs.loadCells, binV, zal, pickV, zam, zan, zao, zap, zaq, zar, zas, zat, zau, outR, resAll, resOne, zav, zaw, zax, zay, zaz, zba, zbb, zbc, zbd, zbe, zbf, zbg, zbh, zbi, zbj, zbk, storeOp, storeCell, overlay, zbl, zbm, zbn, lookupOp, keyT, okRes, mapUpdateOp, zbo, zbp, zbq, zbr, zbs, zbt, zbu, Nat.reduceSub, Nat.reduceAdd, Int.reduceLT, Int.reduceLE, Int.reduceAdd, Int.reduceSub, Int.reduceToNat, Int.reduceBEq, Int.reduceBNe, Int.reduceMul, Nat.reduceBEq, Nat.reduceBNe, Nat.reduceLT, Nat.reduceLeDiff, Nat.reduceMul, Nat.reduceEqDiff, WD, effB, effH, isPriv, isHeap, isImm, zbx, zby, zbz, chkO, setD, dslot, zca, zcb, zcc, zcd, ptrCells_some, F5]
  refine cSplit (fun h4 => ?_) (fun h4 => ?_)
  · simp only [h4]
    simp only [WW, partV, eqCells, eqLf, minV, maxV, ifcV, zaa, zab, zac, zad, zae, zaf, zag, zah, zai, ofConst, ofConst1, List.replicate, zaj, zak, loadOp, Go.Abs.loadCells, binV, zal, pickV, zam, zan, zao, zap, zaq, zar, zas, zat, zau, outR, resAll, resOne, zav, zaw, zax, zay, zaz, zba, zbb, zbc, zbd, zbe, zbf, zbg, zbh, zbi, zbj, zbk, storeOp, storeCell, overlay, zbl, zbm, zbn, lookupOp, keyT, okRes, mapUpdateOp, zbo, zbp, zbq, zbr, zbs, zbt, zbu, Nat.reduceSub, Nat.reduceAdd, Int.reduceLT, Int.reduceLE, Int.reduceAdd, Int.reduceSub, Int.reduceToNat, Int.reduceBEq, Int.reduceBNe, Int.reduceMul, Nat.reduceBEq, Nat.reduceBNe, Nat.reduceLT, Nat.reduceLeDiff, Nat.reduceMul, Nat.reduceEqDiff, WD, effB, effH, isPriv, isHeap, isImm, zbx, zby, zbz, chkO, setD, dslot, zca, zcb, zcc, zcd, ptrCells_some, F5]
    rw [wpCall_eq (live_eq _)]
    simp only [WW, partV, eqCells, eqLf, minV, maxV, ifcV, zaa, zab, zac, zad, zae, zaf, zag, zah, zai, ofConst, ofConst1, List.replicate, zaj, zak, loadOp, Go.Abs.loadCells, binV, zal, pickV, zam, zan, zao, zap, zaq, zar, zas, zat, zau, outR, resAll, resOne, zav, zaw, zax, zay, zaz, zba, zbb, zbc, zbd, zbe, zbf, zbg, zbh, zbi, zbj, zbk, storeOp, storeCell, overlay, zbl, zbm, zbn, lookupOp, keyT, okRes, mapUpdateOp, zbo, zbp, zbq, zbr, zbs, zbt, zbu, Nat.reduceSub, Nat.reduceAdd, Int.reduceLT, Int.reduceLE, Int.reduceAdd, Int.reduceSub, Int.reduceToNat, Int.reduceBEq, Int.reduceBNe, Int.reduceMul, Nat.reduceBEq, Nat.reduceBNe, Nat.reduceLT, Nat.reduceLeDiff, Nat.reduceMul, Nat.reduceEqDiff, WD, effB, effH, isPriv, isHeap, isImm, zbx, zby, zbz, chkO, setD, dslot, zca, zcb, zcc, zcd, ptrCells_some, F5]
  simp only [h4]
  have e0 : l.length ≤ 60 := by simp at h0; omega
  have e1 : 0 ≤ m := by simpa using h1
  have e2 : m ≤ 1 := by simpa using h2
  have e3 : 5 ≤ t := by simpa using h3
  have e4 : t ≤ 255 := by simpa using h4
  simp only [WW, partV, eqCells, eqLf, minV, maxV, ifcV, zaa, zab, zac, zad, zae, zaf, zag, zah, zai, ofConst, ofConst1, List.replicate, zaj, zak, loadOp, Go.Abs.loadCells, binV, zal, pickV, zam, zan, zao, zap, zaq, zar, zas, zat, zau, outR, resAll, resOne, zav, zaw, zax, zay, zaz, zba, zbb, zbc, zbd, zbe, zbf, zbg, zbh, zbi, zbj, zbk, storeOp, storeCell, overlay, zbl, zbm, zbn, lookupOp, keyT, okRes, mapUpdateOp, zbo, zbp, zbq, zbr, zbs, zbt, zbu, Nat.reduceSub, Nat.reduceAdd, Int.reduceLT, Int.reduceLE, Int.reduceAdd, Int.reduceSub, Int.reduceToNat, Int.reduceBEq, Int.reduceBNe, Int.reduceMul, Nat.reduceBEq, Nat.reduceBNe, Nat.reduceLT, Nat.reduceLeDiff, Nat.reduceMul, Nat.reduceEqDiff, WD, effB, effH, isPriv, isHeap, isImm, zbx, zby, zbz, chkO, setD, dslot, zca, zcb, zcc, zcd, ptrCells_some, F5]
  rw [wpCall_eq (new_eq _)]
  simp only [WW, partV, eqCells, eqLf, minV, maxV, ifcV, zaa, zab, zac, zad, zae, zaf, zag, zah, zai, ofConst, ofConst1, List.replicate, zaj, zak, loadOp, Go.Abs.loadCells, binV, zal, pickV, zam, zan, zao, zap, zaq, zar, zas, zat, zau, outR, resAll, resOne, zav, zaw, zax, zay, zaz, zba, zbb, zbc, zbd, zbe, zbf, zbg, zbh, zbi, zbj, zbk, storeOp, storeCell, overlay, zbl, zbm, zbn, lookupOp, keyT, okRes, mapUpdateOp, zbo, zbp, zbq, zbr, zbs, zbt, zbu, Nat.reduceSub, Nat.reduceAdd, Int.reduceLT, Int.reduceLE, Int.reduceAdd, Int.reduceSub, Int.reduceToNat, Int.reduceBEq, Int.reduceBNe, Int.reduceMul, Nat.reduceBEq, Nat.reduceBNe, Nat.reduceLT, Nat.reduceLeDiff, Nat.reduceMul, Nat.reduceEqDiff, WD, effB, effH, isPriv, isHeap, isImm, zbx, zby, zbz, chkO, setD, dslot, zca, zcb, zcc, zcd, ptrCells_some, F5]
  refine wpCall_of (make_lk (new_lk []) (by simp)) ?_
  rintro out H1 ⟨rfl, a1, L1⟩
  simp only [WW, partV, eqCells, eqLf, minV, maxV, ifcV, zaa, zab, zac, zad, zae, zaf, zag, zah, zai, ofConst, ofConst1, List.replicate, zaj, zak, loadOp, Go.Abs.loadCells, binV, zal, pickV, zam, zan, zao, zap, zaq, zar, zas, zat, zau, outR, resAll, resOne, zav, zaw, zax, zay, zaz, zba, zbb, zbc, zbd, zbe, zbf, zbg, zbh, zbi, zbj, zbk, storeOp, storeCell, overlay, zbl, zbm, zbn, lookupOp, keyT, okRes, mapUpdateOp, zbo, zbp, zbq, zbr, zbs, zbt, zbu, Nat.reduceSub, Nat.reduceAdd, Int.reduceLT, Int.reduceLE, Int.reduceAdd, Int.reduceSub, Int.reduceToNat, Int.reduceBEq, Int.reduceBNe, Int.reduceMul, Nat.reduceBEq, Nat.reduceBNe, Nat.reduceLT, Nat.reduceLeDiff, Nat.reduceMul, Nat.reduceEqDiff, WD, effB, effH, isPriv, isHeap, isImm, zbx, zby, zbz, chkO, setD, dslot, zca, zcb, zcc, zcd, ptrCells_some, F5]
  refine wpCall_of (make_lk L1 (by simp)) ?_
  rintro out H2 ⟨rfl, a2, L2⟩
  have LF2 : LF H2 0 := ⟨_, _, _, _, _, _, _, L2, fr_start _ _⟩
  simp only [WW, partV, eqCells, eqLf, minV, maxV, ifcV, zaa, zab, zac, zad, zae, zaf, zag, zah, zai, ofConst, ofConst1, List.replicate, zaj, zak, loadOp, Go.Abs.loadCells, binV, zal, pickV, zam, zan, zao, zap, zaq, zar, zas, zat, zau, outR, resAll, resOne, zav, zaw, zax, zay, zaz, zba, zbb, zbc, zbd, zbe, zbf, zbg, zbh, zbi, zbj, zbk, storeOp, storeCell, overlay, zbl, zbm, zbn, lookupOp, keyT, okRes, mapUpdateOp, zbo, zbp, zbq, zbr, zbs, zbt, zbu, Nat.reduceSub, Nat.reduceAdd, Int.reduceLT, Int.reduceLE, Int.reduceAdd, Int.reduceSub, Int.reduceToNat, Int.reduceBEq, Int.reduceBNe, Int.reduceMul, Nat.reduceBEq, Nat.reduceBNe, Nat.reduceLT, Nat.reduceLeDiff, Nat.reduceMul, Nat.reduceEqDiff, WD, effB, effH, isPriv, isHeap, isImm, zbx, zby, zbz, chkO, setD, dslot, zca, zcb, zcc, zcd, ptrCells_some, F5, buildOp, fillV]
  refine wC_loop _ (fun k st H' => ∃ i : Nat, st = ⟨L5_10 (.v x) (.v (.int .i64 m)) (.v (.int .i64 t)) (.v (.int .u8 n)) (.v (.ptr 0 0 0)) (.box 0) (.v (.int .i64 i)), [[.nils, .nils, .nils]], []⟩ ∧ LF H' 0 ∧ i ≤ l.length ∧ k = l.length - i) l.length ⟨0, ?_, LF2, by omega, by omega⟩ ?_
  · simp only [WN, firstReg, growAll, zbv, zbw, norm, killS, zag, zah, zaa, zab, zbl, zat, zad, growOne, zae, zaf, zac, zas, zak, Nat.reduceLT, Nat.reduceAdd, zbj, zav, F5, L5_10, (hx []).clip2]
    try rfl
  · rintro k st H' ⟨i, rfl, LFi, hi, rfl⟩
    simp only [L5_10]
    have h1' := hx H'
    by_cases hlt : i < l.length
    · have g1 : decide ((i : Int) < (l.length : Int)) = true := decide_eq_true (by omega)
      have hd : l[i]? = some l[i] := List.getElem?_eq_getElem hlt
      generalize l[i] = a at hd
      have hat := h1'.at_ (sz := 5) (i := i) (e := actV a) (by rw [List.getElem?_map, hd]; rfl) rfl
      have hi1 : IntKind.i64.wrap ((i : Int) + 1) = ((i + 1 : Nat) : Int) := by rw [IntWalk.i64_in _ (by omega)]; omega
      cases q1 : decide (a.t < 5) with
      | false =>
        simp only [WW, partV, eqCells, eqLf, minV, maxV, ifcV, zaa, zab, zac, zad, zae, zaf, zag, zah, zai, ofConst, ofConst1, List.replicate, zaj, zak, loadOp, Go.Abs.loadCells, binV, zal, pickV, zam, zan, zao, zap, zaq, zar, zas, zat, zau, outR, resAll, resOne, zav, zaw, zax, zay, zaz, zba, zbb, zbc, zbd, zbe, zbf, zbg, zbh, zbi, zbj, zbk, storeOp, storeCell, overlay, zbl, zbm, zbn, lookupOp, keyT, okRes, mapUpdateOp, zbo, zbp, zbq, zbr, zbs, zbt, zbu, Nat.reduceSub, Nat.reduceAdd, Int.reduceLT, Int.reduceLE, Int.reduceAdd, Int.reduceSub, Int.reduceToNat, Int.reduceBEq, Int.reduceBNe, Int.reduceMul, Nat.reduceBEq, Nat.reduceBNe, Nat.reduceLT, Nat.reduceLeDiff, Nat.reduceMul, Nat.reduceEqDiff, WD, effB, effH, isPriv, isHeap, isImm, zbx, zby, zbz, chkO, setD, dslot, zca, zcb, zcc, zcd, ptrCells_some, F5, g1, hlen, h1'.shutIn, hat.at1 h1', hat.fa, hat.cells, actV, q1, hi1]
        refine ⟨l.length - (i + 1), by omega, i + 1, ?_, LFi, by omega, rfl⟩
        simp only [WN, firstReg, growAll, zbv, zbw, norm, killS, zag, zah, zaa, zab, zbl, zat, zad, growOne, zae, zaf, zac, zas, zak, Nat.reduceLT, Nat.reduceAdd, zbj, zav, F5, L5_10, h1'.clip2]
        try rfl
      | true =>
        cases q2 : decide (0 < a.d) with
        | false =>
          simp only [WW, partV, eqCells, eqLf, minV, maxV, ifcV, zaa, zab, zac, zad, zae, zaf, zag, zah, zai, ofConst, ofConst1, List.replicate, zaj, zak, loadOp, Go.Abs.loadCells, binV, zal, pickV, zam, zan, zao, zap, zaq, zar, zas, zat, zau, outR, resAll, resOne, zav, zaw, zax, zay, zaz, zba, zbb, zbc, zbd, zbe, zbf, zbg, zbh, zbi, zbj, zbk, storeOp, storeCell, overlay, zbl, zbm, zbn, lookupOp, keyT, okRes, mapUpdateOp, zbo, zbp, zbq, zbr, zbs, zbt, zbu, Nat.reduceSub, Nat.reduceAdd, Int.reduceLT, Int.reduceLE, Int.reduceAdd, Int.reduceSub, Int.reduceToNat, Int.reduceBEq, Int.reduceBNe, Int.reduceMul, Nat.reduceBEq, Nat.reduceBNe, Nat.reduceLT, Nat.reduceLeDiff, Nat.reduceMul, Nat.reduceEqDiff, WD, effB, effH, isPriv, isHeap, isImm, zbx, zby, zbz, chkO, setD, dslot, zca, zcb, zcc, zcd, ptrCells_some, F5, g1, hlen, h1'.shutIn, hat.at1 h1', hat.fa, hat.cells, actV, q1, q2, hi1]
          refine ⟨l.length - (i + 1), by omega, i + 1, ?_, LFi, by omega, rfl⟩
          simp only [WN, firstReg, growAll, zbv, zbw, norm, killS, zag, zah, zaa, zab, zbl, zat, zad, growOne, zae, zaf, zac, zas, zak, Nat.reduceLT, Nat.reduceAdd, zbj, zav, F5, L5_10, h1'.clip2]
          try rfl
        | true =>
          have hst := step_spec LFi a (of_decide_eq_true q2) (of_decide_eq_true q1)
          simp only [nR, actV] at hst
          simp only [WW, partV, eqCells, eqLf, minV, maxV, ifcV, zaa, zab, zac, zad, zae, zaf, zag, zah, zai, ofConst, ofConst1, List.replicate, zaj, zak, loadOp, Go.Abs.loadCells, binV, zal, pickV, zam, zan, zao, zap, zaq, zar, zas, zat, zau, outR, resAll, resOne, zav, zaw, zax, zay, zaz, zba, zbb, zbc, zbd, zbe, zbf, zbg, zbh, zbi, zbj, zbk, storeOp, storeCell, overlay, zbl, zbm, zbn, lookupOp, keyT, okRes, mapUpdateOp, zbo, zbp, zbq, zbr, zbs, zbt, zbu, Nat.reduceSub, Nat.reduceAdd, Int.reduceLT, Int.reduceLE, Int.reduceAdd, Int.reduceSub, Int.reduceToNat, Int.reduceBEq, Int.reduceBNe, Int.reduceMul, Nat.reduceBEq, Nat.reduceBNe, Nat.reduceLT, Nat.reduceLeDiff, Nat.reduceMul, Nat.reduceEqDiff, WD, effB, effH, isPriv, isHeap, isImm, zbx, zby, zbz, chkO, setD, dslot, zca, zcb, zcc, zcd, ptrCells_some, F5, g1, hlen, h1'.shutIn, hat.at1 h1', hat.fa, hat.cells, actV, q1, q2]
          refine wC_dr alts5_13 (by kernel_rfl) ?_
          simp only [WW, partV, eqCells, eqLf, minV, maxV, ifcV, zaa, zab, zac, zad, zae, zaf, zag, zah, zai, ofConst, ofConst1, List.replicate, zaj, zak, loadOp, Go.Abs.loadCells, binV, zal, pickV, zam, zan, zao, zap, zaq, zar, zas, zat, zau, outR, resAll, resOne, zav, zaw, zax, zay, zaz, zba, zbb, zbc, zbd, zbe, zbf, zbg, zbh, zbi, zbj, zbk, storeOp, storeCell, overlay, zbl, zbm, zbn, lookupOp, keyT, okRes, mapUpdateOp, zbo, zbp, zbq, zbr, zbs, zbt, zbu, Nat.reduceSub, Nat.reduceAdd, Int.reduceLT, Int.reduceLE, Int.reduceAdd, Int.reduceSub, Int.reduceToNat, Int.reduceBEq, Int.reduceBNe, Int.reduceMul, Nat.reduceBEq, Nat.reduceBNe, Nat.reduceLT, Nat.reduceLeDiff, Nat.reduceMul, Nat.reduceEqDiff, WD, effB, effH, isPriv, isHeap, isImm, zbx, zby, zbz, chkO, setD, dslot, zca, zcb, zcc, zcd, ptrCells_some, F5, alts5_13, h1'.shutIn, hat.at1 h1', hat.fa, hat.cells, actV]
          refine wpCall_of hst ?_
          rintro out H3 ⟨⟨o, rfl⟩, LF3⟩
          simp only [WW, partV, eqCells, eqLf, minV, maxV, ifcV, zaa, zab, zac, zad, zae, zaf, zag, zah, zai, ofConst, ofConst1, List.replicate, zaj, zak, loadOp, Go.Abs.loadCells, binV, zal, pickV, zam, zan, zao, zap, zaq, zar, zas, zat, zau, outR, resAll, resOne, zav, zaw, zax, zay, zaz, zba, zbb, zbc, zbd, zbe, zbf, zbg, zbh, zbi, zbj, zbk, storeOp, storeCell, overlay, zbl, zbm, zbn, lookupOp, keyT, okRes, mapUpdateOp, zbo, zbp, zbq, zbr, zbs, zbt, zbu, Nat.reduceSub, Nat.reduceAdd, Int.reduceLT, Int.reduceLE, Int.reduceAdd, Int.reduceSub, Int.reduceToNat, Int.reduceBEq, Int.reduceBNe, Int.reduceMul, Nat.reduceBEq, Nat.reduceBNe, Nat.reduceLT, Nat.reduceLeDiff, Nat.reduceMul, Nat.reduceEqDiff, WD, effB, effH, isPriv, isHeap, isImm, zbx, zby, zbz, chkO, setD, dslot, zca, zcb, zcc, zcd, ptrCells_some, F5, hi1]
          refine ⟨l.length - (i + 1), by omega, i + 1, ?_, LF3, by omega, rfl⟩
          simp only [WN, firstReg, growAll, zbv, zbw, norm, killS, zag, zah, zaa, zab, zbl, zat, zad, growOne, zae, zaf, zac, zas, zak, Nat.reduceLT, Nat.reduceAdd, zbj, zav, F5, L5_10, h1'.clip2]
          try rfl
    · have g1 : decide ((i : Int) < (l.length : Int)) = false := decide_eq_false (by omega)
      obtain ⟨ms, ws, wk, came, all, wa, wo, L, F⟩ := LFi
      obtain ⟨sw, sk⟩ := F.small
      have hml := F.len
      obtain ⟨c, rfl⟩ : ∃ c : Nat, m = c := ⟨m.toNat, by omega⟩
      have hk : ms[c]? = some ms[c] := List.getElem?_eq_getElem (by omega)
      generalize ms[c] = y at hk
      have hy := F.mon y (List.mem_of_getElem? hk)
      have hyn : (y.n == 0 || y.t == t) = (y.n == 0) := by
        have : (y.t == t) = false := by
          simp only [beq_eq_false_iff_ne]
          rcases hy with ⟨h, _⟩ | h
          · omega
          · have := h.2.1; omega
        rw [this, Bool.or_false]
      have nw : findT ws t = -1 := findT_cS (List.countP_eq_zero.2 fun s hs => by have := (F.slp s (.inl hs)).2.1; simp; omega)
      have nk : findT wk t = -1 := findT_cS (List.countP_eq_zero.2 fun s hs => by have := (F.slp s (.inr hs)).2.1; simp; omega)
      have hfr := free_eq L.blk L.al L.mon c t
      rw [freeB_at hk (by omega) (by omega), hyn] at hfr
      have hlk := lock_spec L c t (by omega) (by omega)
      cases hyb : (y.n == 0) with
      | false =>
        rw [lockM_no hk (by omega) (by omega) (by rw [hyn]; exact hyb)] at hlk
        rw [hyb] at hfr
        simp only [WW, partV, eqCells, eqLf, minV, maxV, ifcV, zaa, zab, zac, zad, zae, zaf, zag, zah, zai, ofConst, ofConst1, List.replicate, zaj, zak, loadOp, Go.Abs.loadCells, binV, zal, pickV, zam, zan, zao, zap, zaq, zar, zas, zat, zau, outR, resAll, resOne, zav, zaw, zax, zay, zaz, zba, zbb, zbc, zbd, zbe, zbf, zbg, zbh, zbi, zbj, zbk, storeOp, storeCell, overlay, zbl, zbm, zbn, lookupOp, keyT, okRes, mapUpdateOp, zbo, zbp, zbq, zbr, zbs, zbt, zbu, Nat.reduceSub, Nat.reduceAdd, Int.reduceLT, Int.reduceLE, Int.reduceAdd, Int.reduceSub, Int.reduceToNat, Int.reduceBEq, Int.reduceBNe, Int.reduceMul, Nat.reduceBEq, Nat.reduceBNe, Nat.reduceLT, Nat.reduceLeDiff, Nat.reduceMul, Nat.reduceEqDiff, WD, effB, effH, isPriv, isHeap, isImm, zbx, zby, zbz, chkO, setD, dslot, zca, zcb, zcc, zcd, ptrCells_some, F5, g1, hlen, h1'.shutIn]
        rw [wpCall_eq hfr]
        simp only [WW, partV, eqCells, eqLf, minV, maxV, ifcV, zaa, zab, zac, zad, zae, zaf, zag, zah, zai, ofConst, ofConst1, List.replicate, zaj, zak, loadOp, Go.Abs.loadCells, binV, zal, pickV, zam, zan, zao, zap, zaq, zar, zas, zat, zau, outR, resAll, resOne, zav, zaw, zax, zay, zaz, zba, zbb, zbc, zbd, zbe, zbf, zbg, zbh, zbi, zbj, zbk, storeOp, storeCell, overlay, zbl, zbm, zbn, lookupOp, keyT, okRes, mapUpdateOp, zbo, zbp, zbq, zbr, zbs, zbt, zbu, Nat.reduceSub, Nat.reduceAdd, Int.reduceLT, Int.reduceLE, Int.reduceAdd, Int.reduceSub, Int.reduceToNat, Int.reduceBEq, Int.reduceBNe, Int.reduceMul, Nat.reduceBEq, Nat.reduceBNe, Nat.reduceLT, Nat.reduceLeDiff, Nat.reduceMul, Nat.reduceEqDiff, WD, effB, effH, isPriv, isHeap, isImm, zbx, zby, zbz, chkO, setD, dslot, zca, zcb, zcc, zcd, ptrCells_some, F5]
        refine wpCall_of hlk ?_
        rintro out H4 ⟨rfl, L4⟩
        simp only [WW, partV, eqCells, eqLf, minV, maxV, ifcV, zaa, zab, zac, zad, zae, zaf, zag, zah, zai, ofConst, ofConst1, List.replicate, zaj, zak, loadOp, Go.Abs.loadCells, binV, zal, pickV, zam, zan, zao, zap, zaq, zar, zas, zat, zau, outR, resAll, resOne, zav, zaw, zax, zay, zaz, zba, zbb, zbc, zbd, zbe, zbf, zbg, zbh, zbi, zbj, zbk, storeOp, storeCell, overlay, zbl, zbm, zbn, lookupOp, keyT, okRes, mapUpdateOp, zbo, zbp, zbq, zbr, zbs, zbt, zbu, Nat.reduceSub, Nat.reduceAdd, Int.reduceLT, Int.reduceLE, Int.reduceAdd, Int.reduceSub, Int.reduceToNat, Int.reduceBEq, Int.reduceBNe, Int.reduceMul, Nat.reduceBEq, Nat.reduceBNe, Nat.reduceLT, Nat.reduceLeDiff, Nat.reduceMul, Nat.reduceEqDiff, WD, effB, effH, isPriv, isHeap, isImm, zbx, zby, zbz, chkO, setD, dslot, zca, zcb, zcc, zcd, ptrCells_some, F5, wpCall_eq (num_eq _ _)]
        rw [wpCall_eq (live_eq _)]
        simp only [WW, partV, eqCells, eqLf, minV, maxV, ifcV, zaa, zab, zac, zad, zae, zaf, zag, zah, zai, ofConst, ofConst1, List.replicate, zaj, zak, loadOp, Go.Abs.loadCells, binV, zal, pickV, zam, zan, zao, zap, zaq, zar, zas, zat, zau, outR, resAll, resOne, zav, zaw, zax, zay, zaz, zba, zbb, zbc, zbd, zbe, zbf, zbg, zbh, zbi, zbj, zbk, storeOp, storeCell, overlay, zbl, zbm, zbn, lookupOp, keyT, okRes, mapUpdateOp, zbo, zbp, zbq, zbr, zbs, zbt, zbu, Nat.reduceSub, Nat.reduceAdd, Int.reduceLT, Int.reduceLE, Int.reduceAdd, Int.reduceSub, Int.reduceToNat, Int.reduceBEq, Int.reduceBNe, Int.reduceMul, Nat.reduceBEq, Nat.reduceBNe, Nat.reduceLT, Nat.reduceLeDiff, Nat.reduceMul, Nat.reduceEqDiff, WD, effB, effH, isPriv, isHeap, isImm, zbx, zby, zbz, chkO, setD, dslot, zca, zcb, zcc, zcd, ptrCells_some, F5]
      | true =>
        have hy0 : y.n = 0 := by simpa using hyb
        rw [lockM_yes hk (by omega) (by omega) (by rw [hyn]; exact hyb) nw nk (by omega) (by omega)] at hlk
        rw [hyb] at hfr
        simp only [WW, partV, eqCells, eqLf, minV, maxV, ifcV, zaa, zab, zac, zad, zae, zaf, zag, zah, zai, ofConst, ofConst1, List.replicate, zaj, zak, loadOp, Go.Abs.loadCells, binV, zal, pickV, zam, zan, zao, zap, zaq, zar, zas, zat, zau, outR, resAll, resOne, zav, zaw, zax, zay, zaz, zba, zbb, zbc, zbd, zbe, zbf, zbg, zbh, zbi, zbj, zbk, storeOp, storeCell, overlay, zbl, zbm, zbn, lookupOp, keyT, okRes, mapUpdateOp, zbo, zbp, zbq, zbr, zbs, zbt, zbu, Nat.reduceSub, Nat.reduceAdd, Int.reduceLT, Int.reduceLE, Int.reduceAdd, Int.reduceSub, Int.reduceToNat, Int.reduceBEq, Int.reduceBNe, Int.reduceMul, Nat.reduceBEq, Nat.reduceBNe, Nat.reduceLT, Nat.reduceLeDiff, Nat.reduceMul, Nat.reduceEqDiff, WD, effB, effH, isPriv, isHeap, isImm, zbx, zby, zbz, chkO, setD, dslot, zca, zcb, zcc, zcd, ptrCells_some, F5, g1, hlen, h1'.shutIn]
        rw [wpCall_eq hfr]
        simp only [WW, partV, eqCells, eqLf, minV, maxV, ifcV, zaa, zab, zac, zad, zae, zaf, zag, zah, zai, ofConst, ofConst1, List.replicate, zaj, zak, loadOp, Go.Abs.loadCells, binV, zal, pickV, zam, zan, zao, zap, zaq, zar, zas, zat, zau, outR, resAll, resOne, zav, zaw, zax, zay, zaz, zba, zbb, zbc, zbd, zbe, zbf, zbg, zbh, zbi, zbj, zbk, storeOp, storeCell, overlay, zbl, zbm, zbn, lookupOp, keyT, okRes, mapUpdateOp, zbo, zbp, zbq, zbr, zbs, zbt, zbu, Nat.reduceSub, Nat.reduceAdd, Int.reduceLT, Int.reduceLE, Int.reduceAdd, Int.reduceSub, Int.reduceToNat, Int.reduceBEq, Int.reduceBNe, Int.reduceMul, Nat.reduceBEq, Nat.reduceBNe, Nat.reduceLT, Nat.reduceLeDiff, Nat.reduceMul, Nat.reduceEqDiff, WD, effB, effH, isPriv, isHeap, isImm, zbx, zby, zbz, chkO, setD, dslot, zca, zcb, zcc, zcd, ptrCells_some, F5]
        refine wpCall_of hlk ?_
        rintro out H4 ⟨rfl, L4⟩
        obtain ⟨K, hK, hK4⟩ : ∃ K : Nat, n.tmod 5 = K ∧ K ≤ 4 := by
          have := Int.tmod_nonneg 5 hn0
          have := Int.tmod_lt_of_pos n (show (0 : Int) < 5 by omega)
          exact ⟨(n.tmod 5).toNat, by omega, by omega⟩
        have h50 : ((5 : Int) = 0) = False := by simp
        have hKw : IntKind.i64.wrap (K : Int) = K := IntWalk.i64_in _ (by omega)
        have hms4 : (ms.set c ⟨y.id, t, y.n + 1⟩)[c]? = some ⟨y.id, t, (0 : Nat) + 1⟩ := by
          rw [List.getElem?_set_self (by omega), hy0]; rfl
        generalize ms.set c ⟨y.id, t, y.n + 1⟩ = ms4 at L4 hms4
        simp only [WW, partV, eqCells, eqLf, minV, maxV, ifcV, zaa, zab, zac, zad, zae, zaf, zag, zah, zai, ofConst, ofConst1, List.replicate, zaj, zak, loadOp, Go.Abs.loadCells, binV, zal, pickV, zam, zan, zao, zap, zaq, zar, zas, zat, zau, outR, resAll, resOne, zav, zaw, zax, zay, zaz, zba, zbb, zbc, zbd, zbe, zbf, zbg, zbh, zbi, zbj, zbk, storeOp, storeCell, overlay, zbl, zbm, zbn, lookupOp, keyT, okRes, mapUpdateOp, zbo, zbp, zbq, zbr, zbs, zbt, zbu, Nat.reduceSub, Nat.reduceAdd, Int.reduceLT, Int.reduceLE, Int.reduceAdd, Int.reduceSub, Int.reduceToNat, Int.reduceBEq, Int.reduceBNe, Int.reduceMul, Nat.reduceBEq, Nat.reduceBNe, Nat.reduceLT, Nat.reduceLeDiff, Nat.reduceMul, Nat.reduceEqDiff, WD, effB, effH, isPriv, isHeap, isImm, zbx, zby, zbz, chkO, setD, dslot, zca, zcb, zcc, zcd, ptrCells_some, F5, wpCall_eq (num_eq _ _), hK, hKw, h50, convertOp, contV]
        refine wC_loop _ (fun k st H' => ∃ (j : Nat) (ms : List Mon), st = ⟨L5_21 (.v (.int .i64 c)) (.v (.int .i64 t)) (.v (.ptr 0 0 0)) (.v (.int .i64 K)) (.v (.int .i64 j)), [[.nils, .nils, .nils]], []⟩ ∧ LK H' 0 ms ws wk came all wa wo ∧ ms[c]? = some ⟨y.id, t, (j : Int) + 1⟩ ∧ j ≤ K ∧ k = K - j) K ⟨0, ms4, ?_, L4, hms4, by omega, by omega⟩ ?_
        · simp only [WN, firstReg, growAll, zbv, zbw, norm, killS, zag, zah, zaa, zab, zbl, zat, zad, growOne, zae, zaf, zac, zas, zak, Nat.reduceLT, Nat.reduceAdd, zbj, zav, F5, L5_21]
          try rfl
        · rintro k st H5 ⟨j, ms5, rfl, L5, hms5, hj, rfl⟩
          simp only [L5_21]
          by_cases hjK : j < K
          · have g2 : decide ((j : Int) < (K : Int)) = true := decide_eq_true (by omega)
            have hj1 : IntKind.i64.wrap ((j : Int) + 1) = ((j + 1 : Nat) : Int) := by rw [IntWalk.i64_in _ (by omega)]; omega
            have hlk := lock_spec L5 c t (by omega) (by omega)
            rw [lockM_yes hms5 (by omega) (by omega) (by simp) nw nk (by dsimp only; omega) (by dsimp only; omega)] at hlk
            simp only [WW, partV, eqCells, eqLf, minV, maxV, ifcV, zaa, zab, zac, zad, zae, zaf, zag, zah, zai, ofConst, ofConst1, List.replicate, zaj, zak, loadOp, Go.Abs.loadCells, binV, zal, pickV, zam, zan, zao, zap, zaq, zar, zas, zat, zau, outR, resAll, resOne, zav, zaw, zax, zay, zaz, zba, zbb, zbc, zbd, zbe, zbf, zbg, zbh, zbi, zbj, zbk, storeOp, storeCell, overlay, zbl, zbm, zbn, lookupOp, keyT, okRes, mapUpdateOp, zbo, zbp, zbq, zbr, zbs, zbt, zbu, Nat.reduceSub, Nat.reduceAdd, Int.reduceLT, Int.reduceLE, Int.reduceAdd, Int.reduceSub, Int.reduceToNat, Int.reduceBEq, Int.reduceBNe, Int.reduceMul, Nat.reduceBEq, Nat.reduceBNe, Nat.reduceLT, Nat.reduceLeDiff, Nat.reduceMul, Nat.reduceEqDiff, WD, effB, effH, isPriv, isHeap, isImm, zbx, zby, zbz, chkO, setD, dslot, zca, zcb, zcc, zcd, ptrCells_some, F5, g2]
            refine wpCall_of hlk ?_
            rintro out H6 ⟨rfl, L6⟩
            simp only [WW, partV, eqCells, eqLf, minV, maxV, ifcV, zaa, zab, zac, zad, zae, zaf, zag, zah, zai, ofConst, ofConst1, List.replicate, zaj, zak, loadOp, Go.Abs.loadCells, binV, zal, pickV, zam, zan, zao, zap, zaq, zar, zas, zat, zau, outR, resAll, resOne, zav, zaw, zax, zay, zaz, zba, zbb, zbc, zbd, zbe, zbf, zbg, zbh, zbi, zbj, zbk, storeOp, storeCell, overlay, zbl, zbm, zbn, lookupOp, keyT, okRes, mapUpdateOp, zbo, zbp, zbq, zbr, zbs, zbt, zbu, Nat.reduceSub, Nat.reduceAdd, Int.reduceLT, Int.reduceLE, Int.reduceAdd, Int.reduceSub, Int.reduceToNat, Int.reduceBEq, Int.reduceBNe, Int.reduceMul, Nat.reduceBEq, Nat.reduceBNe, Nat.reduceLT, Nat.reduceLeDiff, Nat.reduceMul, Nat.reduceEqDiff, WD, effB, effH, isPriv, isHeap, isImm, zbx, zby, zbz, chkO, setD, dslot, zca, zcb, zcc, zcd, ptrCells_some, F5, wpCall_eq (num_eq _ _), hj1]
            refine ⟨K - (j + 1), by omega, j + 1, _, ?_, L6, ?_, by omega, rfl⟩
            · simp only [WN, firstReg, growAll, zbv, zbw, norm, killS, zag, zah, zaa, zab, zbl, zat, zad, growOne, zae, zaf, zac, zas, zak, Nat.reduceLT, Nat.reduceAdd, zbj, zav, F5, L5_21]
              try rfl
            · rw [List.getElem?_set_self (List.getElem?_eq_some_iff.1 hms5).1]; rfl
          · have g2 : decide ((j : Int) < (K : Int)) = false := decide_eq_false (by omega)
            obtain rfl : j = K := by omega
            simp only [WW, partV, eqCells, eqLf, minV, maxV, ifcV, zaa, zab, zac, zad, zae, zaf, zag, zah, zai, ofConst, ofConst1, List.replicate, zaj, zak, loadOp, Go.Abs.loadCells, binV, zal, pickV, zam, zan, zao, zap, zaq, zar, zas, zat, zau, outR, resAll, resOne, zav, zaw, zax, zay, zaz, zba, zbb, zbc, zbd, zbe, zbf, zbg, zbh, zbi, zbj, zbk, storeOp, storeCell, overlay, zbl, zbm, zbn, lookupOp, keyT, okRes, mapUpdateOp, zbo, zbp, zbq, zbr, zbs, zbt, zbu, Nat.reduceSub, Nat.reduceAdd, Int.reduceLT, Int.reduceLE, Int.reduceAdd, Int.reduceSub, Int.reduceToNat, Int.reduceBEq, Int.reduceBNe, Int.reduceMul, Nat.reduceBEq, Nat.reduceBNe, Nat.reduceLT, Nat.reduceLeDiff, Nat.reduceMul, Nat.reduceEqDiff, WD, effB, effH, isPriv, isHeap, isImm, zbx, zby, zbz, chkO, setD, dslot, zca, zcb, zcc, zcd, ptrCells_some, F5, g2]
            refine wC_loop _ (fun k st H' => ∃ (i : Nat) (ms : List Mon), st = ⟨L5_26 (.v (.int .i64 c)) (.v (.int .i64 t)) (.v (.ptr 0 0 0)) (.v (.int .i64 j)) (.v (.int .i64 i)), [[.nils, .nils, .nils]], []⟩ ∧ LK H' 0 ms ws wk came all wa wo ∧ ms[c]? = some ⟨y.id, if i = j + 1 then -1 else t, (j : Int) + 1 - i⟩ ∧ i ≤ j + 1 ∧ k = j + 1 - i) (j + 1) ⟨0, ms5, ?_, L5, by rw [if_neg (by omega)]; simpa using hms5, by omega, by omega⟩ ?_
            · simp only [WN, firstReg, growAll, zbv, zbw, norm, killS, zag, zah, zaa, zab, zbl, zat, zad, growOne, zae, zaf, zac, zas, zak, Nat.reduceLT, Nat.reduceAdd, zbj, zav, F5, L5_26]
              try rfl
            · rintro k st H6 ⟨i, ms6, rfl, L6, hms6, hij, rfl⟩
              simp only [L5_26]
              by_cases hiK : i ≤ j
              · have g3 : decide ((i : Int) ≤ (j : Int)) = true := decide_eq_true (by omega)
                rw [if_neg (by omega)] at hms6
                have hi1 : IntKind.i64.wrap ((i : Int) + 1) = ((i + 1 : Nat) : Int) := by rw [IntWalk.i64_in _ (by omega)]; omega
                have b1 : ((j : Int) + 1 - i == 0) = false := by simp; omega
                have b2 : (t == 4) = false := by simp; omega
                have fa := free_eq L6.blk L6.al L6.mon c 4
                have fb := free_eq L6.blk L6.al L6.mon c t
                rw [freeB_at hms6 (by omega) (by omega)] at fa fb
                simp only [b1, b2, beq_self_eq_true, Bool.or_true, Bool.or_self] at fa fb
                have hlk := lock_spec L6 c 4 (by omega) (by omega)
                rw [lockM_no hms6 (by omega) (by omega) (by simp only [b1, b2, Bool.or_self])] at hlk
                simp only [WW, partV, eqCells, eqLf, minV, maxV, ifcV, zaa, zab, zac, zad, zae, zaf, zag, zah, zai, ofConst, ofConst1, List.replicate, zaj, zak, loadOp, Go.Abs.loadCells, binV, zal, pickV, zam, zan, zao, zap, zaq, zar, zas, zat, zau, outR, resAll, resOne, zav, zaw, zax, zay, zaz, zba, zbb, zbc, zbd, zbe, zbf, zbg, zbh, zbi, zbj, zbk, storeOp, storeCell, overlay, zbl, zbm, zbn, lookupOp, keyT, okRes, mapUpdateOp, zbo, zbp, zbq, zbr, zbs, zbt, zbu, Nat.reduceSub, Nat.reduceAdd, Int.reduceLT, Int.reduceLE, Int.reduceAdd, Int.reduceSub, Int.reduceToNat, Int.reduceBEq, Int.reduceBNe, Int.reduceMul, Nat.reduceBEq, Nat.reduceBNe, Nat.reduceLT, Nat.reduceLeDiff, Nat.reduceMul, Nat.reduceEqDiff, WD, effB, effH, isPriv, isHeap, isImm, zbx, zby, zbz, chkO, setD, dslot, zca, zcb, zcc, zcd, ptrCells_some, F5, g3, wpCall_eq fa, wpCall_eq fb]
                refine wpCall_of hlk ?_
                rintro out H7 ⟨rfl, L7⟩
                have hun := unlock_spec L7 c t
                have hu := unlockM_yes hms6 (show 0 ≤ t by omega) (show t < 256 by omega) (by dsimp only; omega) (by dsimp only; omega)
                dsimp only at hu
                rw [hu] at hun
                simp only [WW, partV, eqCells, eqLf, minV, maxV, ifcV, zaa, zab, zac, zad, zae, zaf, zag, zah, zai, ofConst, ofConst1, List.replicate, zaj, zak, loadOp, Go.Abs.loadCells, binV, zal, pickV, zam, zan, zao, zap, zaq, zar, zas, zat, zau, outR, resAll, resOne, zav, zaw, zax, zay, zaz, zba, zbb, zbc, zbd, zbe, zbf, zbg, zbh, zbi, zbj, zbk, storeOp, storeCell, overlay, zbl, zbm, zbn, lookupOp, keyT, okRes, mapUpdateOp, zbo, zbp, zbq, zbr, zbs, zbt, zbu, Nat.reduceSub, Nat.reduceAdd, Int.reduceLT, Int.reduceLE, Int.reduceAdd, Int.reduceSub, Int.reduceToNat, Int.reduceBEq, Int.reduceBNe, Int.reduceMul, Nat.reduceBEq, Nat.reduceBNe, Nat.reduceLT, Nat.reduceLeDiff, Nat.reduceMul, Nat.reduceEqDiff, WD, effB, effH, isPriv, isHeap, isImm, zbx, zby, zbz, chkO, setD, dslot, zca, zcb, zcc, zcd, ptrCells_some, F5, wpCall_eq (num_eq _ _)]
                refine wpCall_of hun ?_
                rintro out H8 ⟨rfl, L8⟩
                simp only [WW, partV, eqCells, eqLf, minV, maxV, ifcV, zaa, zab, zac, zad, zae, zaf, zag, zah, zai, ofConst, ofConst1, List.replicate, zaj, zak, loadOp, Go.Abs.loadCells, binV, zal, pickV, zam, zan, zao, zap, zaq, zar, zas, zat, zau, outR, resAll, resOne, zav, zaw, zax, zay, zaz, zba, zbb, zbc, zbd, zbe, zbf, zbg, zbh, zbi, zbj, zbk, storeOp, storeCell, overlay, zbl, zbm, zbn, lookupOp, keyT, okRes, mapUpdateOp, zbo, zbp, zbq, zbr, zbs, zbt, zbu, Nat.reduceSub, Nat.reduceAdd, Int.reduceLT, Int.reduceLE, Int.reduceAdd, Int.reduceSub, Int.reduceToNat, Int.reduceBEq, Int.reduceBNe, Int.reduceMul, Nat.reduceBEq, Nat.reduceBNe, Nat.reduceLT, Nat.reduceLeDiff, Nat.reduceMul, Nat.reduceEqDiff, WD, effB, effH, isPriv, isHeap, isImm, zbx, zby, zbz, chkO, setD, dslot, zca, zcb, zcc, zcd, ptrCells_some, F5, wpCall_eq (num_eq _ _), hi1]
                refine ⟨j + 1 - (i + 1), by omega, i + 1, _, ?_, L8, ?_, by omega, rfl⟩
                · simp only [WN, firstReg, growAll, zbv, zbw, norm, killS, zag, zah, zaa, zab, zbl, zat, zad, growOne, zae, zaf, zac, zas, zak, Nat.reduceLT, Nat.reduceAdd, zbj, zav, F5, L5_26]
                  try rfl
                · rw [List.getElem?_set_self (List.getElem?_eq_some_iff.1 hms6).1]
                  have e : ((j : Int) + 1 - i - 1 = 0) ↔ i + 1 = j + 1 := by omega
                  have e2 : (j : Int) + 1 - i - 1 = (j : Int) + 1 - (i + 1 : Nat) := by omega
                  have e4 : (if (j : Int) + 1 - i - 1 = 0 then (-1 : Int) else t) = if i + 1 = j + 1 then -1 else t := by
                    split <;> split <;> first | rfl | omega
                  rw [e4, e2]
              · have g3 : decide ((i : Int) ≤ (j : Int)) = false := decide_eq_false (by omega)
                obtain rfl : i = j + 1 := by omega
                rw [if_pos rfl] at hms6
                have e9 : (j : Int) + 1 - (j + 1 : Nat) = 0 := by omega
                rw [e9] at hms6
                have how := owner_eq L6 hms6
                have fa := free_eq L6.blk L6.al L6.mon c 4
                rw [freeB_at hms6 (by omega) (by omega)] at fa
                have hun := unlock_spec L6 c t
                have hh : hasB ms6 c t = 8 := by rw [hasB_at hms6 (by omega) (by omega)]; rfl
                have hu : unlockM ms6 c t = (8, ms6) := by unfold unlockM; rw [hh]; rfl
                rw [hu] at hun
                dsimp only at how fa
                have fa : EW 20 [.ptr 0 0 0, .int .i64 c, .int .i64 4] H6 = some (.ret (.bool true) false, H6) := fa
                simp only [WW, partV, eqCells, eqLf, minV, maxV, ifcV, zaa, zab, zac, zad, zae, zaf, zag, zah, zai, ofConst, ofConst1, List.replicate, zaj, zak, loadOp, Go.Abs.loadCells, binV, zal, pickV, zam, zan, zao, zap, zaq, zar, zas, zat, zau, outR, resAll, resOne, zav, zaw, zax, zay, zaz, zba, zbb, zbc, zbd, zbe, zbf, zbg, zbh, zbi, zbj, zbk, storeOp, storeCell, overlay, zbl, zbm, zbn, lookupOp, keyT, okRes, mapUpdateOp, zbo, zbp, zbq, zbr, zbs, zbt, zbu, Nat.reduceSub, Nat.reduceAdd, Int.reduceLT, Int.reduceLE, Int.reduceAdd, Int.reduceSub, Int.reduceToNat, Int.reduceBEq, Int.reduceBNe, Int.reduceMul, Nat.reduceBEq, Nat.reduceBNe, Nat.reduceLT, Nat.reduceLeDiff, Nat.reduceMul, Nat.reduceEqDiff, WD, effB, effH, isPriv, isHeap, isImm, zbx, zby, zbz, chkO, setD, dslot, zca, zcb, zcc, zcd, ptrCells_some, F5, g3]
                rw [wpCall_eq how]
                simp only [WW, partV, eqCells, eqLf, minV, maxV, ifcV, zaa, zab, zac, zad, zae, zaf, zag, zah, zai, ofConst, ofConst1, List.replicate, zaj, zak, loadOp, Go.Abs.loadCells, binV, zal, pickV, zam, zan, zao, zap, zaq, zar, zas, zat, zau, outR, resAll, resOne, zav, zaw, zax, zay, zaz, zba, zbb, zbc, zbd, zbe, zbf, zbg, zbh, zbi, zbj, zbk, storeOp, storeCell, overlay, zbl, zbm, zbn, lookupOp, keyT, okRes, mapUpdateOp, zbo, zbp, zbq, zbr, zbs, zbt, zbu, Nat.reduceSub, Nat.reduceAdd, Int.reduceLT, Int.reduceLE, Int.reduceAdd, Int.reduceSub, Int.reduceToNat, Int.reduceBEq, Int.reduceBNe, Int.reduceMul, Nat.reduceBEq, Nat.reduceBNe, Nat.reduceLT, Nat.reduceLeDiff, Nat.reduceMul, Nat.reduceEqDiff, WD, effB, effH, isPriv, isHeap, isImm, zbx, zby, zbz, chkO, setD, dslot, zca, zcb, zcc, zcd, ptrCells_some, F5]
                rw [wpCall_eq fa]
                simp only [WW, partV, eqCells, eqLf, minV, maxV, ifcV, zaa, zab, zac, zad, zae, zaf, zag, zah, zai, ofConst, ofConst1, List.replicate, zaj, zak, loadOp, Go.Abs.loadCells, binV, zal, pickV, zam, zan, zao, zap, zaq, zar, zas, zat, zau, outR, resAll, resOne, zav, zaw, zax, zay, zaz, zba, zbb, zbc, zbd, zbe, zbf, zbg, zbh, zbi, zbj, zbk, storeOp, storeCell, overlay, zbl, zbm, zbn, lookupOp, keyT, okRes, mapUpdateOp, zbo, zbp, zbq, zbr, zbs, zbt, zbu, Nat.reduceSub, Nat.reduceAdd, Int.reduceLT, Int.reduceLE, Int.reduceAdd, Int.reduceSub, Int.reduceToNat, Int.reduceBEq, Int.reduceBNe, Int.reduceMul, Nat.reduceBEq, Nat.reduceBNe, Nat.reduceLT, Nat.reduceLeDiff, Nat.reduceMul, Nat.reduceEqDiff, WD, effB, effH, isPriv, isHeap, isImm, zbx, zby, zbz, chkO, setD, dslot, zca, zcb, zcc, zcd, ptrCells_some, F5]
                refine wpCall_of hun ?_
                rintro out H8 ⟨rfl, L8⟩
                simp only [WW, partV, eqCells, eqLf, minV, maxV, ifcV, zaa, zab, zac, zad, zae, zaf, zag, zah, zai, ofConst, ofConst1, List.replicate, zaj, zak, loadOp, Go.Abs.loadCells, binV, zal, pickV, zam, zan, zao, zap, zaq, zar, zas, zat, zau, outR, resAll, resOne, zav, zaw, zax, zay, zaz, zba, zbb, zbc, zbd, zbe, zbf, zbg, zbh, zbi, zbj, zbk, storeOp, storeCell, overlay, zbl, zbm, zbn, lookupOp, keyT, okRes, mapUpdateOp, zbo, zbp, zbq, zbr, zbs, zbt, zbu, Nat.reduceSub, Nat.reduceAdd, Int.reduceLT, Int.reduceLE, Int.reduceAdd, Int.reduceSub, Int.reduceToNat, Int.reduceBEq, Int.reduceBNe, Int.reduceMul, Nat.reduceBEq, Nat.reduceBNe, Nat.reduceLT, Nat.reduceLeDiff, Nat.reduceMul, Nat.reduceEqDiff, WD, effB, effH, isPriv, isHeap, isImm, zbx, zby, zbz, chkO, setD, dslot, zca, zcb, zcc, zcd, ptrCells_some, F5, wpCall_eq (num_eq _ _)]
                rw [wpCall_eq (live_eq _)]
                simp only [WW, partV, eqCells, eqLf, minV, maxV, ifcV, zaa, zab, zac, zad, zae, zaf, zag, zah, zai, ofConst, ofConst1, List.replicate, zaj, zak, loadOp, Go.Abs.loadCells, binV, zal, pickV, zam, zan, zao, zap, zaq, zar, zas, zat, zau, outR, resAll, resOne, zav, zaw, zax, zay, zaz, zba, zbb, zbc, zbd, zbe, zbf, zbg, zbh, zbi, zbj, zbk, storeOp, storeCell, overlay, zbl, zbm, zbn, lookupOp, keyT, okRes, mapUpdateOp, zbo, zbp, zbq, zbr, zbs, zbt, zbu, Nat.reduceSub, Nat.reduceAdd, Int.reduceLT, Int.reduceLE, Int.reduceAdd, Int.reduceSub, Int.reduceToNat, Int.reduceBEq, Int.reduceBNe, Int.reduceMul, Nat.reduceBEq, Nat.reduceBNe, Nat.reduceLT, Nat.reduceLeDiff, Nat.reduceMul, Nat.reduceEqDiff, WD, effB, effH, isPriv, isHeap, isImm, zbx, zby, zbz, chkO, setD, dslot, zca, zcb, zcc, zcd, ptrCells_some, F5]
end Go.Proofs.Ythicacphcljdmaa

/- Acts that are handed in; the law LockFrees at any arguments. -/
namespace Go.Proofs.Ythicacphcljdmaa
open Go Go.Abs Go.Proofs
set_option maxRecDepth 100000
set_option maxHeartbeats 2000000
set_option linter.unusedVariables false
set_option linter.unusedSimpArgs false
theorem open_acts {d : Nat} {v : List V} (h : Tv Try.prog (d + 5) 30 v) : ∃ (x : V) (l : List Act), v = [x] ∧ (∀ H, Rd H x (l.map actV)) ∧ (∀ a ∈ l, IntKind.i64.min ≤ a.n ∧ a.n ≤ IntKind.i64.max) := by
  have u30 : Try.prog.underlying 30 = some (.slice 34) := by kernel_rfl
  have u3 : Try.prog.underlying 3 = some (.int .i64) := by kernel_rfl
  have u4 : Try.prog.underlying 4 = some .bool := by kernel_rfl
  have s34 : tysOf Try.prog 34 = some [3, 3, 3, 3, 4] := by kernel_rfl
  have ag34 : isAggT Try.prog 34 = true := by kernel_rfl
  obtain ⟨x, rows, rfl, hx, hl, hr⟩ := tv_slice h u30
  rw [ag34] at hx
  obtain ⟨l, e, el, hq⟩ := rows_map (f := mkV true) (tv := actV) (Q := fun a => IntKind.i64.min ≤ a.n ∧ a.n ≤ IntKind.i64.max) (rows := rows) (fun r hr' => by
    obtain ⟨a, _, rfl, ha, b, _, rfl, hb, c, _, rfl, hc, d, _, rfl, hd, e, _, rfl, he, rfl⟩ := tv_fields (hr r hr') s34
    obtain ⟨n0, rfl, _⟩ := tv_int ha u3
    obtain ⟨n1, rfl, _⟩ := tv_int hb u3
    obtain ⟨n2, rfl, _⟩ := tv_int hc u3
    obtain ⟨n3, rfl, h3⟩ := tv_int hd u3
    obtain ⟨b4, rfl⟩ := tv_bool he u4
    exact ⟨⟨n0, n1, n2, n3, b4⟩, rfl, by simpa [Lit.wf] using h3⟩)
  rw [e] at hx
  exact ⟨x, l, rfl, hx, hq⟩
/-- The law at any arguments -/
theorem lockFrees_main {v0 v1 v2 v3 : List V} (h0 : Tv Try.prog 8 30 v0) (h1 : Tv Try.prog 8 3 v1) (h2 : Tv Try.prog 8 3 v2) (h3 : Tv Try.prog 8 5 v3) :
    wpCall (evW Try.prog notes) 5 [mkV (isAggT Try.prog 30) v0, mkV (isAggT Try.prog 3) v1, mkV (isAggT Try.prog 3) v2, mkV (isAggT Try.prog 5) v3] [] (fun out H' => out = .ret (.bool true) false) := by
  have u3 : Try.prog.underlying 3 = some (.int .i64) := by kernel_rfl
  have u5 : Try.prog.underlying 5 = some (.int .u8) := by kernel_rfl
  have g30 : isAggT Try.prog 30 = false := by kernel_rfl
  have g3 : isAggT Try.prog 3 = false := by kernel_rfl
  have g5 : isAggT Try.prog 5 = false := by kernel_rfl
  obtain ⟨x, l, rfl, hx, _⟩ := open_acts h0
  obtain ⟨m, rfl, _⟩ := tv_int h1 u3
  obtain ⟨t, rfl, _⟩ := tv_int h2 u3
  obtain ⟨n, rfl, hn⟩ := tv_int h3 u5
  rw [g30, g3, g5]
  have hn' : 0 ≤ n ∧ n ≤ 255 := by
    simp only [Lit.wf, Bool.and_eq_true, decide_eq_true_eq] at hn
    exact hn
  exact frees_eq m t n x l hx hn'.1 hn'.2
end Go.Proofs.Ythicacphcljdmaa

/- One owner, nobody lost: a plain law. -/
namespace Go.Proofs.Ythicacphcljdmaa
open Go Go.Abs Go.Proofs
set_option maxRecDepth 100000
set_option maxHeartbeats 4000000
set_option linter.unusedVariables false
set_option linter.unusedSimpArgs false
/-- How often threads have monitors, had them, where they wait: as the monitors say. -/
structure TI (ms : List Mon) (ws wk : List Slp) (hs kp inn : List Int) : Prop where
  lm : ms.length = 3
  lh : hs.length = 12
  lk : kp.length = 4
  li : inn.length = 4
  mon : ∀ (m : Nat) x, ms[m]? = some x → (x.t = -1 ∧ x.n = 0 ∧ ∀ d : Nat, d < 4 → hs[4 * m + d]? = some 0) ∨
    ∃ d : Nat, d < 4 ∧ x.t = d ∧ 0 < x.n ∧ x.n ≤ 1099511627776 ∧ ∀ e : Nat, e < 4 → hs[4 * m + e]? = some (if e = d then x.n else 0)
  wsI : ∀ s ∈ ws, ∃ d c : Nat, s.t = d ∧ d < 4 ∧ s.m = c ∧ c < 3 ∧ inn[d]? = some ((c : Int) + 1) ∧ kp[d]? = some s.n ∧ 0 < s.n ∧ s.n ≤ 1099511627776
  wkI : ∀ s ∈ wk, ∃ d c : Nat, s.t = d ∧ d < 4 ∧ s.m = c ∧ c < 3 ∧ inn[d]? = some (-((c : Int) + 1)) ∧ kp[d]? = some s.n ∧ 0 < s.n ∧ s.n ≤ 1099511627776
  one : ∀ d : Nat, d < 4 → cS ws d + cS wk d ≤ 1
  idle : ∀ d : Nat, d < 4 → cS ws d + cS wk d = 0 → inn[d]? = some 0
theorem cS_pos {l : List Slp} {t : Int} (h : cS l t ≠ 0) : ∃ s ∈ l, s.t = t := by
  unfold cS at h
  obtain ⟨s, hs, e⟩ := List.countP_pos_iff.1 (Nat.pos_of_ne_zero h)
  exact ⟨s, hs, by simpa using e⟩
theorem cS_zero {l : List Slp} {t : Int} (h : cS l t = 0) : ∀ s ∈ l, s.t ≠ t := by
  intro s hs e
  have := List.countP_eq_zero.1 h s hs
  simp [e] at this
theorem cS_mem {l : List Slp} {s : Slp} (h : s ∈ l) : 0 < cS l s.t := by
  rcases Nat.eq_zero_or_pos (cS l s.t) with h0 | h0
  · exact absurd rfl (cS_zero h0 s h)
  · exact h0
theorem TI.small {ms : List Mon} {ws wk : List Slp} {hs kp inn : List Int} (h : TI ms ws wk hs kp inn) : ws.length ≤ 4 ∧ wk.length ≤ 4 := by
  have fw : ∀ s ∈ ws, 0 ≤ s.t ∧ s.t < 4 := fun s hs => by obtain ⟨d, c, e, hd, _⟩ := h.wsI s hs; omega
  have fk : ∀ s ∈ wk, 0 ≤ s.t ∧ s.t < 4 := fun s hs => by obtain ⟨d, c, e, hd, _⟩ := h.wkI s hs; omega
  have a := cS_len (l := ws) (fun s hs => by have := fw s hs; omega)
  have b := cS_len (l := wk) (fun s hs => by have := fk s hs; omega)
  have a4 : cS ws 4 = 0 := by
    refine List.countP_eq_zero.2 fun s hs => ?_
    have := fw s hs
    simp; omega
  have b4 : cS wk 4 = 0 := by
    refine List.countP_eq_zero.2 fun s hs => ?_
    have := fk s hs
    simp; omega
  have c0 := h.one 0 (by omega)
  have c1 := h.one 1 (by omega)
  have c2 := h.one 2 (by omega)
  have c3 := h.one 3 (by omega)
  simp only [show (((0 : Nat)) : Int) = 0 from rfl, show (((1 : Nat)) : Int) = 1 from rfl, show (((2 : Nat)) : Int) = 2 from rfl, show (((3 : Nat)) : Int) = 3 from rfl] at c0 c1 c2 c3
  omega
/-- what a thread does -/
theorem TI.at {ms : List Mon} {ws wk : List Slp} {hs kp inn : List Int} (h : TI ms ws wk hs kp inn) {d : Nat} (hd : d < 4) :
    (inn[d]? = some 0 ∧ cS ws d = 0 ∧ cS wk d = 0) ∨ (∃ c : Nat, c < 3 ∧ inn[d]? = some ((c : Int) + 1) ∧ cS ws d = 1 ∧ cS wk d = 0) ∨ (∃ c : Nat, c < 3 ∧ inn[d]? = some (-((c : Int) + 1)) ∧ cS ws d = 0 ∧ cS wk d = 1) := by
  have h1 := h.one d hd
  by_cases a : cS ws d = 0
  · by_cases b : cS wk d = 0
    · exact .inl ⟨h.idle d hd (by omega), a, b⟩
    · obtain ⟨s, hs, e⟩ := cS_pos b
      obtain ⟨d', c, e', _, _, hc, hi, _⟩ := h.wkI s hs
      obtain rfl : d' = d := by omega
      exact .inr (.inr ⟨c, hc, hi, a, by omega⟩)
  · obtain ⟨s, hs, e⟩ := cS_pos a
    obtain ⟨d', c, e', _, _, hc, hi, _⟩ := h.wsI s hs
    obtain rfl : d' = d := by omega
    exact .inr (.inl ⟨c, hc, hi, by omega, by omega⟩)
/-- the place of a thread and a monitor -/
theorem TI.hget {ms : List Mon} {ws wk : List Slp} {hs kp inn : List Int} (h : TI ms ws wk hs kp inn) {c d : Nat} (hc : c < 3) (hd : d < 4) :
    ∃ x v, ms[c]? = some x ∧ hs[4 * c + d]? = some v ∧ 0 ≤ v ∧ v ≤ 1099511627776 ∧ ((0 < v ∧ x.t = d ∧ x.n = v) ∨ (v = 0 ∧ x.t ≠ d)) := by
  have hcl : c < ms.length := by have := h.lm; omega
  have hx : ms[c]? = some ms[c] := List.getElem?_eq_getElem hcl
  rcases h.mon c _ hx with ⟨a, b, z⟩ | ⟨e, he, a, b, b2, z⟩
  · exact ⟨_, 0, hx, z d hd, by omega, by omega, .inr ⟨rfl, by omega⟩⟩
  · by_cases q : d = e
    · subst q
      exact ⟨_, _, hx, by rw [z d hd, if_pos rfl], by omega, by omega, .inl ⟨b, a, rfl⟩⟩
    · exact ⟨_, 0, hx, by rw [z d hd, if_neg q], by omega, by omega, .inr ⟨rfl, by omega⟩⟩
theorem set_at {l : List Int} {i j : Nat} {v w : Int} (hj : l[j]? = some w) : (l.set i v)[j]? = some (if i = j then v else w) := by
  have hl := (List.getElem?_eq_some_iff.1 hj).1
  rw [List.getElem?_set]
  split
  · rename_i e
    subst e
    rw [if_pos hl]
  · exact hj
/-- A monitor whose owner is another one -/
theorem mon_set {ms : List Mon} {hs : List Int} {m k : Nat} {x y z : Mon} {v w : Int} {d : Nat} (hd : d < 4) (hc : ms[k]? = some x)
    (hm : ∀ (m : Nat) x, ms[m]? = some x → (x.t = -1 ∧ x.n = 0 ∧ ∀ d : Nat, d < 4 → hs[4 * m + d]? = some 0) ∨
    ∃ d : Nat, d < 4 ∧ x.t = d ∧ 0 < x.n ∧ x.n ≤ 1099511627776 ∧ ∀ e : Nat, e < 4 → hs[4 * m + e]? = some (if e = d then x.n else 0))
    (hw : hs[4 * k + d]? = some w) (hx : x.n = 0 ∨ x.t = d) (hv : (y.t = -1 ∧ y.n = 0 ∧ v = 0) ∨ (y.t = d ∧ y.n = v ∧ 0 < v ∧ v ≤ 1099511627776)) (hz : (ms.set k y)[m]? = some z) :
    (z.t = -1 ∧ z.n = 0 ∧ ∀ e : Nat, e < 4 → (hs.set (4 * k + d) v)[4 * m + e]? = some 0) ∨
    ∃ d2 : Nat, d2 < 4 ∧ z.t = d2 ∧ 0 < z.n ∧ z.n ≤ 1099511627776 ∧ ∀ e : Nat, e < 4 → (hs.set (4 * k + d) v)[4 * m + e]? = some (if e = d2 then z.n else 0) := by
  have hkl := (List.getElem?_eq_some_iff.1 hc).1
  by_cases q : k = m
  · subst q
    rw [List.getElem?_set_self hkl] at hz
    cases hz
    have hrow : ∀ e : Nat, e < 4 → e ≠ d → hs[4 * k + e]? = some 0 := by
      intro e he hne
      rcases hm k x hc with ⟨a, b, z⟩ | ⟨d', hd', a, b, b2, z⟩
      · exact z e he
      · have hdd : d' = d := by rcases hx with h | h <;> omega
        rw [z e he, if_neg (by omega)]
    rcases hv with ⟨a, b, rfl⟩ | ⟨a, b, c, c2⟩
    · refine .inl ⟨a, b, fun e he => ?_⟩
      by_cases q : e = d
      · subst q; rw [set_at hw, if_pos rfl]
      · rw [set_at (hrow e he q), if_neg (by omega)]
    · refine .inr ⟨d, hd, a, by omega, by omega, fun e he => ?_⟩
      by_cases q : e = d
      · subst q; rw [set_at hw, if_pos rfl, if_pos rfl, b]
      · rw [set_at (hrow e he q), if_neg (by omega), if_neg q]
  · rw [List.getElem?_set_ne q] at hz
    rcases hm m z hz with ⟨a, b, z'⟩ | ⟨d', hd', a, b, b2, z'⟩
    · exact .inl ⟨a, b, fun e he => by rw [set_at (z' e he), if_neg (by omega)]⟩
    · exact .inr ⟨d', hd', a, b, b2, fun e he => by rw [set_at (z' e he), if_neg (by omega)]⟩
theorem TI.lock {ms : List Mon} {ws wk : List Slp} {hs kp inn : List Int} (h : TI ms ws wk hs kp inn) {c d : Nat} (hc : c < 3) (hd : d < 4) :
    ∃ v, hs[4 * c + d]? = some v ∧ (((lockM ms ws wk c d).1 ≠ 0 ∧ (lockM ms ws wk c d).2 = ms) ∨
      ((lockM ms ws wk c d).1 = 0 ∧ IntKind.i64.wrap (v + 1) = v + 1 ∧ inn[d]? = some 0 ∧ TI (lockM ms ws wk c d).2 ws wk (hs.set (4 * c + d) (v + 1)) kp inn)) := by
  obtain ⟨x, v, hx, hv, v0, v1, hvx⟩ := h.hget hc hd
  refine ⟨v, hv, ?_⟩
  have hw := wrong_no (List.getElem?_eq_some_iff.1 hx).1 (show (0 : Int) ≤ d by omega) (show (d : Int) < 256 by omega)
  unfold lockM
  rw [hw, if_neg (by simp)]
  split
  · exact .inl ⟨by simp, rfl⟩
  rename_i hb
  rw [show ((c : Nat) : Int).toNat = c from rfl, hx]
  dsimp only
  split
  · exact .inl ⟨by simp, rfl⟩
  rename_i hn
  simp only [Bool.not_eq_true, Bool.or_eq_false_iff, decide_eq_false_iff_not, Bool.not_eq_false'] at hb
  have f1 := cS_findT (l := ws) (t := d) (by omega)
  have f2 := cS_findT (l := wk) (t := d) (by omega)
  have hfr := hb.1.1
  rw [freeB_at hx (by omega) (by omega)] at hfr
  simp only [Bool.or_eq_true, beq_iff_eq] at hfr
  have hx2 : x.n = v := by
    rcases hvx with ⟨_, _, e⟩ | ⟨e, e2⟩
    · exact e
    · rcases hfr with q | q
      · omega
      · exact absurd q e2
  simp only [beq_iff_eq] at hn
  have hwr : IntKind.i64.wrap (v + 1) = v + 1 := IntWalk.i64_in _ (by omega)
  rw [hx2, hwr]
  refine .inr ⟨rfl, rfl, h.idle d hd (by omega), ?_⟩
  exact ⟨by rw [List.length_set]; exact h.lm, by rw [List.length_set]; exact h.lh, h.lk, h.li, fun m z hz => mon_set hd hx h.mon hv hfr (.inr ⟨rfl, rfl, by omega, by omega⟩) hz, h.wsI, h.wkI, h.one, h.idle⟩
theorem TI.unlock {ms : List Mon} {ws wk : List Slp} {hs kp inn : List Int} (h : TI ms ws wk hs kp inn) {c d : Nat} (hc : c < 3) (hd : d < 4) :
    ∃ v, hs[4 * c + d]? = some v ∧ (((unlockM ms c d).1 ≠ 0 ∧ v = 0 ∧ (unlockM ms c d).2 = ms) ∨
      ((unlockM ms c d).1 = 0 ∧ 0 < v ∧ IntKind.i64.wrap (v - 1) = v - 1 ∧ TI (unlockM ms c d).2 ws wk (hs.set (4 * c + d) (v - 1)) kp inn)) := by
  obtain ⟨x, v, hx, hv, v0, v1, hvx⟩ := h.hget hc hd
  refine ⟨v, hv, ?_⟩
  have hh := hasB_at hx (show (0 : Int) ≤ d by omega) (show (d : Int) < 256 by omega)
  unfold unlockM
  rcases hvx with ⟨p1, p2, p3⟩ | ⟨p1, p2⟩
  · rw [if_neg (by simp [p2]; omega)] at hh
    have hwr : IntKind.i64.wrap (x.n - 1) = x.n - 1 := IntWalk.i64_in _ (by omega)
    rw [if_pos hh, show ((c : Nat) : Int).toNat = c from rfl, hx]
    dsimp only
    rw [hwr, ← p3]
    refine .inr ⟨rfl, by omega, hwr, by rw [List.length_set]; exact h.lm, by rw [List.length_set]; exact h.lh, h.lk, h.li, fun m z hz => mon_set hd hx h.mon hv (.inr p2) ?_ hz, h.wsI, h.wkI, h.one, h.idle⟩
    dsimp only
    split
    · rename_i e
      simp only [beq_iff_eq] at e
      exact .inl ⟨rfl, e, e⟩
    · rename_i e
      simp only [beq_iff_eq] at e
      exact .inr ⟨p2, rfl, by omega, by omega⟩
  · rw [if_pos (by simp [p2])] at hh
    rw [if_neg (by rw [hh]; simp)]
    exact .inl ⟨by rw [hh]; simp, p1, rfl⟩
theorem TI.wait {ms : List Mon} {ws wk : List Slp} {hs kp inn : List Int} (h : TI ms ws wk hs kp inn) {c d : Nat} (hc : c < 3) (hd : d < 4) (hi : inn[d]? = some 0) (came u : Int) :
    ∃ v, hs[4 * c + d]? = some v ∧ (((waitM ms ws came c d u).1 ≠ 0 ∧ (waitM ms ws came c d u).2 = (ms, ws, came)) ∨
      ((waitM ms ws came c d u).1 = 0 ∧ TI (waitM ms ws came c d u).2.1 (waitM ms ws came c d u).2.2.1 wk (hs.set (4 * c + d) 0) (kp.set d v) (inn.set d ((c : Int) + 1)))) := by
  obtain ⟨x, v, hx, hv, v0, v1, hvx⟩ := h.hget hc hd
  refine ⟨v, hv, ?_⟩
  have hw := wrong_no (List.getElem?_eq_some_iff.1 hx).1 (show (0 : Int) ≤ d by omega) (show (d : Int) < 256 by omega)
  have hh := hasB_at hx (show (0 : Int) ≤ d by omega) (show (d : Int) < 256 by omega)
  unfold waitM
  rw [hw, if_neg (by simp)]
  split
  · exact .inl ⟨by simp, rfl⟩
  rcases hvx with ⟨p1, p2, p3⟩ | ⟨p1, p2⟩
  rotate_left
  · rw [if_pos (by simp [p2])] at hh
    rw [if_neg (by rw [hh]; simp)]
    exact .inl ⟨by rw [hh]; simp, rfl⟩
  rw [if_neg (by simp [p2]; omega)] at hh
  rw [if_pos hh, show ((c : Nat) : Int).toNat = c from rfl, hx]
  refine .inr ⟨rfl, ?_⟩
  dsimp only
  have z0 : cS ws d = 0 ∧ cS wk d = 0 := by
    rcases h.at hd with ⟨_, a, b⟩ | ⟨c', _, e, _⟩ | ⟨c', _, e, _⟩
    · exact ⟨a, b⟩
    · rw [hi] at e; have := Option.some.inj e; omega
    · rw [hi] at e; have := Option.some.inj e; omega
  have nw := cS_zero z0.1
  have nk := cS_zero z0.2
  have hdl : d < inn.length := by have := h.li; omega
  have hdk : d < kp.length := by have := h.lk; omega
  refine ⟨by rw [List.length_set]; exact h.lm, by rw [List.length_set]; exact h.lh, by rw [List.length_set]; exact h.lk, by rw [List.length_set]; exact h.li, fun m z hz => mon_set hd hx h.mon hv (.inr p2) (.inl ⟨rfl, rfl, rfl⟩) hz, fun s hs => ?_, fun s hs => ?_, fun e he => ?_, fun e he h0 => ?_⟩
  · rcases List.mem_append.1 hs with hs | hs
    · obtain ⟨d', c', e1, e2, e3, e4, e5, e6, e7, e8⟩ := h.wsI s hs
      have hne : d ≠ d' := fun e => nw s hs (by omega)
      exact ⟨d', c', e1, e2, e3, e4, by rw [List.getElem?_set_ne hne]; exact e5, by rw [List.getElem?_set_ne hne]; exact e6, e7, e8⟩
    · rw [List.mem_singleton.1 hs]
      exact ⟨d, c, p2, hd, rfl, hc, List.getElem?_set_self hdl, by rw [List.getElem?_set_self hdk, p3], by dsimp only; omega, by dsimp only; omega⟩
  · obtain ⟨d', c', e1, e2, e3, e4, e5, e6, e7, e8⟩ := h.wkI s hs
    have hne : d ≠ d' := fun e => nk s hs (by omega)
    exact ⟨d', c', e1, e2, e3, e4, by rw [List.getElem?_set_ne hne]; exact e5, by rw [List.getElem?_set_ne hne]; exact e6, e7, e8⟩
  · rw [cS_app, cS_one]
    dsimp only
    have := h.one e he
    by_cases q : e = d
    · subst q; split <;> omega
    · rw [if_neg (by rw [p2]; omega)]; omega
  · rw [cS_app, cS_one] at h0
    dsimp only at h0
    by_cases q : e = d
    · subst q; rw [if_pos p2] at h0; omega
    · rw [List.getElem?_set_ne (Ne.symm q)]
      exact h.idle e he (by omega)
/-- Threads that were woken -/
def flipIn (inn : List Int) (ys : List Slp) : List Int := inn.mapIdx fun d v => if cS ys d = 0 then v else -v
theorem flip_len (inn : List Int) (ys : List Slp) : (flipIn inn ys).length = inn.length := by simp [flipIn]
theorem flip_at {inn : List Int} {d : Nat} {v : Int} (ys : List Slp) (h : inn[d]? = some v) : (flipIn inn ys)[d]? = some (if cS ys d = 0 then v else -v) := by
  unfold flipIn
  rw [List.getElem?_mapIdx, h]; rfl
theorem flip_nil (inn : List Int) : flipIn inn [] = inn := by
  refine List.ext_getElem? fun j => ?_
  unfold flipIn
  rw [List.getElem?_mapIdx]
  cases inn[j]? with
  | none => rfl
  | some v => rfl
theorem flip_snoc {inn : List Int} {ys : List Slp} {s : Slp} {d : Nat} {v : Int} (hs : s.t = d) (h0 : cS ys d = 0) (hv : inn[d]? = some v) : flipIn inn (ys ++ [s]) = (flipIn inn ys).set d (-v) := by
  have hdl := (List.getElem?_eq_some_iff.1 hv).1
  refine List.ext_getElem? fun j => ?_
  by_cases q : d = j
  · subst q
    rw [List.getElem?_set_self (by rw [flip_len]; exact hdl), flip_at _ hv, cS_app, cS_one, if_pos hs, if_neg (by omega)]
  · rw [List.getElem?_set_ne q]
    cases hj : inn[j]? with
    | none => rw [List.getElem?_eq_none (by rw [flip_len]; exact List.getElem?_eq_none_iff.1 hj), List.getElem?_eq_none (by rw [flip_len]; exact List.getElem?_eq_none_iff.1 hj)]
    | some w =>
      have hne : ¬ s.t = ((j : Nat) : Int) := by omega
      rw [flip_at _ hj, flip_at _ hj, cS_app, cS_one, if_neg hne, Nat.add_zero]
theorem TI.wake {ms : List Mon} {ws wk : List Slp} {hs kp inn : List Int} (h : TI ms ws wk hs kp inn) (sel : Nat → Slp → Bool) (told : Bool) {l : List Slp} (hp : l.Perm (ysel sel ws ws.length)) :
    TI ms (nsel sel ws ws.length) (wk ++ l.map (tellS told)) hs kp (flipIn inn l) ∧ (∀ s ∈ l, ∃ d c : Nat, s.t = d ∧ d < 4 ∧ s.m = c ∧ c < 3 ∧ inn[d]? = some ((c : Int) + 1)) ∧ ∀ d : Nat, d < 4 → cS l d ≤ 1 := by
  have hb : ∀ d : Nat, cS l d + cS (nsel sel ws ws.length) d = cS ws d := fun d => by rw [cS_perm hp]; exact cS_both sel ws d
  have hml : ∀ s ∈ l, s ∈ ws := fun s hs => mem_ysel _ (hp.mem_iff.1 hs)
  refine ⟨⟨h.lm, h.lh, h.lk, by rw [flip_len]; exact h.li, h.mon, fun s hs => ?_, fun s hs => ?_, fun d hd => ?_, fun d hd h0 => ?_⟩, fun s hs => ?_, fun d hd => ?_⟩
  · obtain ⟨d', c', e1, e2, e3, e4, e5, e6, e7, e8⟩ := h.wsI s (mem_nsel _ hs)
    have h1 := h.one d' e2
    have h2 := hb d'
    have h3 := cS_mem hs
    rw [e1] at h3
    exact ⟨d', c', e1, e2, e3, e4, by rw [flip_at _ e5, if_pos (by omega)], e6, e7, e8⟩
  · rcases List.mem_append.1 hs with hs | hs
    · obtain ⟨d', c', e1, e2, e3, e4, e5, e6, e7, e8⟩ := h.wkI s hs
      have h1 := h.one d' e2
      have h2 := hb d'
      have h3 := cS_mem hs
      rw [e1] at h3
      exact ⟨d', c', e1, e2, e3, e4, by rw [flip_at _ e5, if_pos (by omega)], e6, e7, e8⟩
    · obtain ⟨r, hr, rfl⟩ := List.mem_map.1 hs
      obtain ⟨d', c', e1, e2, e3, e4, e5, e6, e7, e8⟩ := h.wsI r (hml r hr)
      have h3 := cS_mem hr
      rw [e1] at h3
      exact ⟨d', c', e1, e2, e3, e4, by rw [flip_at _ e5, if_neg (by omega)], e6, e7, e8⟩
  · have := h.one d hd
    have := hb d
    rw [cS_app, cS_tell]; omega
  · have := hb d
    rw [cS_app, cS_tell] at h0
    rw [flip_at _ (h.idle d hd (by omega)), if_pos (by omega)]
  · obtain ⟨d', c', e1, e2, e3, e4, e5, _⟩ := h.wsI s (hml s hs)
    exact ⟨d', c', e1, e2, e3, e4, e5⟩
  · have := h.one d hd
    have := hb d
    omega
theorem TI.relock {ms : List Mon} {ws wk : List Slp} {hs kp inn : List Int} (h : TI ms ws wk hs kp inn) {d : Nat} (hd : d < 4) :
    ((relockM ms wk d).1 ≠ 0 ∧ (relockM ms wk d).2 = (ms, wk)) ∨
      ∃ (c : Nat) (v : Int), (relockM ms wk d).1 = 0 ∧ c < 3 ∧ inn[d]? = some (-((c : Int) + 1)) ∧ kp[d]? = some v ∧ TI (relockM ms wk d).2.1 ws (relockM ms wk d).2.2 (hs.set (4 * c + d) v) kp (inn.set d 0) := by
  unfold relockM
  rw [if_neg (by omega)]
  split
  case h_2 => exact .inl ⟨by simp, rfl⟩
  rename_i s hs0
  split
  · exact .inl ⟨by simp, rfl⟩
  rename_i hf
  simp only [not_or, Bool.not_eq_false] at hf
  have hsm := List.mem_of_getElem? hs0
  obtain ⟨i, s', hi, hs', hst⟩ := findT_at (l := wk) (t := d) (by omega)
  rw [hi, show ((i : Nat) : Int).toNat = i from rfl] at hs0
  rw [hs0] at hs'
  cases hs'
  obtain ⟨d', c, e1, e2, e3, e4, e5, e6, e7, e8⟩ := h.wkI s hsm
  obtain rfl : d' = d := by omega
  obtain ⟨x, w, hx, hw, w0, w1, hvx⟩ := h.hget e4 hd
  have hfr := hf.2
  rw [e3, freeB_at hx (by omega) (by omega)] at hfr
  simp only [Bool.or_eq_true, beq_iff_eq] at hfr
  rw [e3, show ((c : Nat) : Int).toNat = c from rfl, hx]
  refine .inr ⟨c, s.n, rfl, e4, e5, e6, ?_⟩
  dsimp only
  rw [hi, show ((i : Nat) : Int).toNat = i from rfl]
  have hdl : d' < inn.length := by have := h.li; omega
  have he := fun t => cS_erase t hs0
  have hone := h.one d' hd
  have hed := he d'
  rw [if_pos hst] at hed
  refine ⟨by rw [List.length_set]; exact h.lm, by rw [List.length_set]; exact h.lh, h.lk, by rw [List.length_set]; exact h.li, fun m z hz => mon_set hd hx h.mon hw hfr (.inr ⟨e1, rfl, e7, e8⟩) hz, fun r hr => ?_, fun r hr => ?_, fun e he' => ?_, fun e he' h0 => ?_⟩
  · obtain ⟨d2, c2, g1, g2, g3, g4, g5, g6, g7, g8⟩ := h.wsI r hr
    have h3 := cS_mem hr
    rw [g1] at h3
    have hne : d' ≠ d2 := by rintro rfl; omega
    exact ⟨d2, c2, g1, g2, g3, g4, by rw [List.getElem?_set_ne hne]; exact g5, g6, g7, g8⟩
  · obtain ⟨d2, c2, g1, g2, g3, g4, g5, g6, g7, g8⟩ := h.wkI r (List.mem_of_mem_eraseIdx hr)
    have h3 := cS_mem hr
    rw [g1] at h3
    have hne : d' ≠ d2 := by rintro rfl; omega
    exact ⟨d2, c2, g1, g2, g3, g4, by rw [List.getElem?_set_ne hne]; exact g5, g6, g7, g8⟩
  · have := h.one e he'
    have := he e
    omega
  · by_cases q : d' = e
    · subst q; rw [List.getElem?_set_self hdl]
    · rw [List.getElem?_set_ne q]
      have := he e
      rw [if_neg (by omega)] at this
      exact h.idle e he' (by omega)
end Go.Proofs.Ythicacphcljdmaa
