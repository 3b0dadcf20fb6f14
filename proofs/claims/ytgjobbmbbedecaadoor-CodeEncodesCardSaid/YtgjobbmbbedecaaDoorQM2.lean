/- A part of the proofs over this seat. -/
import Derived.Test.YtgjobbmbbedecaaDoorQM1
/- An image's bytes, by the program. -/
namespace Go.Proofs.YtgjobbmbbedecaaDoor
open Go Go.Abs Go.Proofs
set_option maxRecDepth 100000
set_option maxHeartbeats 4000000
set_option linter.unusedVariables false
set_option linter.unusedSimpArgs false
theorem encode_no {H : Hp} {v : V} {im : ImM} (q : ImV v im) (hsm : imSm im) (hok : imOk im = false) :
    wpCall EW 13 [v] H (fun out H' => out = .ret (.tup [.nils, .int .i64 1]) false ∧ H.length ≤ H'.length ∧ ∀ i, i < H.length → H'[i]? = H[i]?) := by
  have hwr := wrong_spec (H := H) q hsm
  obtain ⟨fu, st, ke, fs, ks, rfl, hf, hs, hk, f2, k2⟩ := q
  have z1 := fun st => (hf []).shutIn st
  have z2 := fun s => (hs []).shutIn s
  have z3 := fun st => (hk []).shutIn st
  have x1 := (hf []).cells1
  have x2 := (hs []).cells1
  have x3 := (hk []).cells1
  have w1 := (hf []).ok
  have w2 := (hs []).ok
  have w3 := (hk []).ok
  rw [hok] at hwr
  refine runs f13 b13 r13 n13 _ _ ?_
  simp only [bodyOf, Tryd.f13, Option.getD_some]
  simp only [WW, partV, eqCells, eqLf, minV, maxV, ifcV, zaa, zab, zac, zad, zae, zaf, zag, zah, zai, ofConst, ofConst1, List.replicate, zaj, zak, loadOp, Go.Abs.loadCells, binV, zal, pickV, zam, zan, zao, zap, zaq, zar, zas, zat, zau, outR, resAll, resOne, zav, zaw, zax, zay, zaz, zba, zbb, zbc, zbd, zbe, zbf, zbg, zbh, zbi, zbj, zbk, storeOp, storeCell, overlay, zbl, zbm, zbn, lookupOp, keyT, okRes, mapUpdateOp, zbo, zbp, zbq, zbr, zbs, zbt, zbu, Nat.reduceSub, Nat.reduceAdd, Int.reduceLT, Int.reduceLE, Int.reduceAdd, Int.reduceSub, Int.reduceToNat, Int.reduceBEq, Int.reduceBNe, Int.reduceMul, Nat.reduceBEq, Nat.reduceBNe, Nat.reduceLT, Nat.reduceLeDiff, Nat.reduceMul, Nat.reduceEqDiff, WD, effB, effH, isPriv, isHeap, isImm, zbx, zby, zbz, chkO, setD, dslot, zca, zcb, zcc, zcd, ptrCells_some, F13, z1, z2, z3, x1, x2, x3, w1, w2, w3]
  refine wpCall_of hwr ?_
  rintro out H1 ⟨rfl, hl1, hf1⟩
  simp only [WW, partV, eqCells, eqLf, minV, maxV, ifcV, zaa, zab, zac, zad, zae, zaf, zag, zah, zai, ofConst, ofConst1, List.replicate, zaj, zak, loadOp, Go.Abs.loadCells, binV, zal, pickV, zam, zan, zao, zap, zaq, zar, zas, zat, zau, outR, resAll, resOne, zav, zaw, zax, zay, zaz, zba, zbb, zbc, zbd, zbe, zbf, zbg, zbh, zbi, zbj, zbk, storeOp, storeCell, overlay, zbl, zbm, zbn, lookupOp, keyT, okRes, mapUpdateOp, zbo, zbp, zbq, zbr, zbs, zbt, zbu, Nat.reduceSub, Nat.reduceAdd, Int.reduceLT, Int.reduceLE, Int.reduceAdd, Int.reduceSub, Int.reduceToNat, Int.reduceBEq, Int.reduceBNe, Int.reduceMul, Nat.reduceBEq, Nat.reduceBNe, Nat.reduceLT, Nat.reduceLeDiff, Nat.reduceMul, Nat.reduceEqDiff, WD, effB, effH, isPriv, isHeap, isImm, zbx, zby, zbz, chkO, setD, dslot, zca, zcb, zcc, zcd, ptrCells_some, F13]
  exact ⟨hl1, hf1⟩
theorem encode_ok {H : Hp} {v : V} {im : ImM} (q : ImV v im) (hsm : imSm im) (hok : imOk im = true) :
    wpCall EW 13 [v] H (fun out H' => ∃ x, out = .ret (.tup [x, .int .i64 0]) false ∧ SlW 1 H' (fun i => i < H.length) x (bs (encIm im)) ∧ H.length ≤ H'.length ∧ ∀ i, i < H.length → H'[i]? = H[i]?) := by
  have hwr := wrong_spec (H := H) q hsm
  have hlen := encIm_len hok hsm
  obtain ⟨fu, st, ke, fs, ks, rfl, hf, hs, hk, f2, k2⟩ := q
  obtain ⟨m1, m2, m3, m4, m5, m6⟩ := hsm
  have z1 := fun st => (hf []).shutIn st
  have z2 := fun s => (hs []).shutIn s
  have z3 := fun st => (hk []).shutIn st
  have x1 := (hf []).cells1
  have x2 := (hs []).cells1
  have x3 := (hk []).cells1
  have w1 := (hf []).ok
  have w2 := (hs []).ok
  have w3 := (hk []).ok
  rw [hok] at hwr
  simp only [imOk, Bool.and_eq_true] at hok
  obtain ⟨o1, o2, o3⟩ := hok
  simp only [encIm, List.length_append] at hlen
  refine runs f13 b13 r13 n13 _ _ ?_
  simp only [bodyOf, Tryd.f13, Option.getD_some]
  simp only [WW, partV, eqCells, eqLf, minV, maxV, ifcV, zaa, zab, zac, zad, zae, zaf, zag, zah, zai, ofConst, ofConst1, List.replicate, zaj, zak, loadOp, Go.Abs.loadCells, binV, zal, pickV, zam, zan, zao, zap, zaq, zar, zas, zat, zau, outR, resAll, resOne, zav, zaw, zax, zay, zaz, zba, zbb, zbc, zbd, zbe, zbf, zbg, zbh, zbi, zbj, zbk, storeOp, storeCell, overlay, zbl, zbm, zbn, lookupOp, keyT, okRes, mapUpdateOp, zbo, zbp, zbq, zbr, zbs, zbt, zbu, Nat.reduceSub, Nat.reduceAdd, Int.reduceLT, Int.reduceLE, Int.reduceAdd, Int.reduceSub, Int.reduceToNat, Int.reduceBEq, Int.reduceBNe, Int.reduceMul, Nat.reduceBEq, Nat.reduceBNe, Nat.reduceLT, Nat.reduceLeDiff, Nat.reduceMul, Nat.reduceEqDiff, WD, effB, effH, isPriv, isHeap, isImm, zbx, zby, zbz, chkO, setD, dslot, zca, zcb, zcc, zcd, ptrCells_some, F13, z1, z2, z3, x1, x2, x3, w1, w2, w3]
  refine wpCall_of hwr ?_
  rintro out H1 ⟨rfl, hl1, hf1⟩
  have h00 : (!true) = false := rfl
  simp only [WW, partV, eqCells, eqLf, minV, maxV, ifcV, zaa, zab, zac, zad, zae, zaf, zag, zah, zai, ofConst, ofConst1, List.replicate, zaj, zak, loadOp, Go.Abs.loadCells, binV, zal, pickV, zam, zan, zao, zap, zaq, zar, zas, zat, zau, outR, resAll, resOne, zav, zaw, zax, zay, zaz, zba, zbb, zbc, zbd, zbe, zbf, zbg, zbh, zbi, zbj, zbk, storeOp, storeCell, overlay, zbl, zbm, zbn, lookupOp, keyT, okRes, mapUpdateOp, zbo, zbp, zbq, zbr, zbs, zbt, zbu, Nat.reduceSub, Nat.reduceAdd, Int.reduceLT, Int.reduceLE, Int.reduceAdd, Int.reduceSub, Int.reduceToNat, Int.reduceBEq, Int.reduceBNe, Int.reduceMul, Nat.reduceBEq, Nat.reduceBNe, Nat.reduceLT, Nat.reduceLeDiff, Nat.reduceMul, Nat.reduceEqDiff, WD, effB, effH, isPriv, isHeap, isImm, zbx, zby, zbz, chkO, setD, dslot, zca, zcb, zcc, zcd, ptrCells_some, F13, h00, z1, z2, z3, buildOp, fillV, Lay.place, Bool.or_self, Bool.or_false, Bool.false_or, decide_not, ne_eq, not_true_eq_false, decide_eq_true_eq, Nat.lt_irrefl, buildSliceV, lits, srcV_eq, srcK_sl, srcK_str, srcSl_nils, srcSl_rsl, srcSl_sl, appendOp, frow, zbv, zbw, List.all_nil, List.all_cons, rowV, Bool.false_and, Bool.and_false, not_false_eq_true, grows_lr, callOut_t, storeHeap, promote, heapSet, elemSet, List.getElem?_concat_length, set_last, convertOp]
  have l1 : (H1 ++ [Blk.cells [.int .u8 74, .int .u8 81, .int .u8 48, .int .u8 49]]).length = H1.length + 1 := by simp
  have l2 : (H1 ++ [Blk.cells [.int .u8 74, .int .u8 81, .int .u8 48, .int .u8 49]] ++ [Blk.cells [V.agg [.sl H1.length 0 4, .int .i64 0]]]).length = H1.length + 2 := by simp
  rw [l2, l1]
  have hO : ∀ i, i < H1.length → (H1 ++ [Blk.cells [.int .u8 74, .int .u8 81, .int .u8 48, .int .u8 49]] ++ [Blk.cells [V.agg [.sl H1.length 0 4, .int .i64 0]]] ++ [Blk.cells [V.ptr (H1.length + 1) 0 0]])[i]? = H1[i]? := fun i hi => by
    rw [List.getElem?_append_left (by simp; omega), List.getElem?_append_left (by simp; omega), List.getElem?_append_left hi]
  have hS : (H1 ++ [Blk.cells [.int .u8 74, .int .u8 81, .int .u8 48, .int .u8 49]] ++ [Blk.cells [V.agg [.sl H1.length 0 4, .int .i64 0]]] ++ [Blk.cells [V.ptr (H1.length + 1) 0 0]])[H1.length]? = some (.cells [.int .u8 74, .int .u8 81, .int .u8 48, .int .u8 49]) := by
    rw [List.getElem?_append_left (by simp), List.getElem?_append_left (by simp)]; exact List.getElem?_concat_length
  have hW : (H1 ++ [Blk.cells [.int .u8 74, .int .u8 81, .int .u8 48, .int .u8 49]] ++ [Blk.cells [V.agg [.sl H1.length 0 4, .int .i64 0]]] ++ [Blk.cells [V.ptr (H1.length + 1) 0 0]])[H1.length + 1]? = some (.cells [.agg [.sl H1.length 0 4, .int .i64 0]]) := by
    rw [List.getElem?_append_left (by simp), ← l1]; exact List.getElem?_concat_length
  have hC : (H1 ++ [Blk.cells [.int .u8 74, .int .u8 81, .int .u8 48, .int .u8 49]] ++ [Blk.cells [V.agg [.sl H1.length 0 4, .int .i64 0]]] ++ [Blk.cells [V.ptr (H1.length + 1) 0 0]])[H1.length + 2]? = some (.cells [.ptr (H1.length + 1) 0 0]) := by
    rw [← l2]; exact List.getElem?_concat_length
  have hln : (H1 ++ [Blk.cells [.int .u8 74, .int .u8 81, .int .u8 48, .int .u8 49]] ++ [Blk.cells [V.agg [.sl H1.length 0 4, .int .i64 0]]] ++ [Blk.cells [V.ptr (H1.length + 1) 0 0]]).length = H1.length + 3 := by simp
  generalize (H1 ++ [Blk.cells [.int .u8 74, .int .u8 81, .int .u8 48, .int .u8 49]] ++ [Blk.cells [V.agg [.sl H1.length 0 4, .int .i64 0]]] ++ [Blk.cells [V.ptr (H1.length + 1) 0 0]]) = H4 at *
  generalize H1.length = b at *
  obtain ⟨N, hNd⟩ : ∃ N : Nat → Prop, ∀ i, N i ↔ (i < b ∨ i = b + 1 ∨ i = b + 2) := ⟨_, fun _ => Iff.rfl⟩
  have hN4 : ∀ i, N i → i < H4.length := fun i hi => by rcases (hNd i).1 hi with hi | rfl | rfl <;> omega
  have hw : N (b + 1) := (hNd _).2 (.inr (.inl rfl))
  have hc : N (b + 2) := (hNd _).2 (.inr (.inr rfl))
  have hcw : b + 2 ≠ b + 1 := by omega
  have hW4 : Wr H4 N (b + 1) (bs magicB) := ⟨.sl b 0 4, .inr ⟨b, [.int .u8 74, .int .u8 81, .int .u8 48, .int .u8 49], rfl, fun h => by rcases (hNd b).1 h with h | h | h <;> omega, hS, by simp [bs, magicB], rfl, by simp, rfl⟩, hW⟩
  have hOf : ∀ H', Fr0 N (b + 1) H4 H' → H.length ≤ H'.length ∧ ∀ i, i < H.length → H'[i]? = H[i]? := fun H' hf => ⟨by have := hf.1; omega, fun i hi => by
    rw [hf.2 i ((hNd i).2 (.inl (by omega))) (by omega), hO i (by omega)]; exact hf1 i hi⟩
  have hwk : ∀ H' x l, SlW 1 H' N x l → SlW 1 H' (fun i => i < H.length) x l := fun H' x l h => h.weaken fun i hi => (hNd i).2 (.inl (by omega))
  clear hS hW hO
  have hmag : (bs magicB).length = 4 := rfl
  have hmg2 : magicB.length = 4 := rfl
  refine wpCall_of (severalG26 encS call27 hN4 hw hW4 hs (All2.map V.str im.strs fun _ _ => rfl) (fun G l1 v a ha hR hf hW1 hl1 => ?_) (by omega) (by omega)) ?_
  · obtain rfl : v = .str a := hR
    exact clos27 (fun i hi => Nat.lt_of_lt_of_le (hN4 i hi) hf.1) hw hc hcw (Cw.fr hC hc hcw hf) hW1 a (by have := m4 a ha; omega) hl1
  rintro out H5 ⟨rfl, hf5, hW5⟩
  have hN5 : ∀ i, N i → i < H5.length := fun i hi => Nat.lt_of_lt_of_le (hN4 i hi) hf5.1
  have hC5 : H5[b + 2]? = some (.cells [.ptr (b + 1) 0 0]) := Cw.fr hC hc hcw hf5
  simp only [WW, partV, eqCells, eqLf, minV, maxV, ifcV, zaa, zab, zac, zad, zae, zaf, zag, zah, zai, ofConst, ofConst1, List.replicate, zaj, zak, loadOp, Go.Abs.loadCells, binV, zal, pickV, zam, zan, zao, zap, zaq, zar, zas, zat, zau, outR, resAll, resOne, zav, zaw, zax, zay, zaz, zba, zbb, zbc, zbd, zbe, zbf, zbg, zbh, zbi, zbj, zbk, storeOp, storeCell, overlay, zbl, zbm, zbn, lookupOp, keyT, okRes, mapUpdateOp, zbo, zbp, zbq, zbr, zbs, zbt, zbu, Nat.reduceSub, Nat.reduceAdd, Int.reduceLT, Int.reduceLE, Int.reduceAdd, Int.reduceSub, Int.reduceToNat, Int.reduceBEq, Int.reduceBNe, Int.reduceMul, Nat.reduceBEq, Nat.reduceBNe, Nat.reduceLT, Nat.reduceLeDiff, Nat.reduceMul, Nat.reduceEqDiff, WD, effB, effH, isPriv, isHeap, isImm, zbx, zby, zbz, chkO, setD, dslot, zca, zcb, zcc, zcd, ptrCells_some, F13, hC5, z1, z2, z3, not_false_eq_true]
  refine wpCall_of (severalG30 (encL encI) call31 hN5 hw hW5 hk k2 (fun G l1 v a ha hR hf hW1 hl1 => ?_) (by simp only [List.length_append, bs_len]; omega) (by omega)) ?_
  · exact clos31 (fun i hi => Nat.lt_of_lt_of_le (hN5 i hi) hf.1) hw hc hcw (Cw.fr hC5 hc hcw hf) hW1 hR (all_mem o1 ha) (by have := m5 a ha; omega) hl1
  rintro out H6 ⟨rfl, hf6, hW6⟩
  have hN6 : ∀ i, N i → i < H6.length := fun i hi => Nat.lt_of_lt_of_le (hN5 i hi) hf6.1
  have hC6 : H6[b + 2]? = some (.cells [.ptr (b + 1) 0 0]) := Cw.fr hC5 hc hcw hf6
  simp only [WW, partV, eqCells, eqLf, minV, maxV, ifcV, zaa, zab, zac, zad, zae, zaf, zag, zah, zai, ofConst, ofConst1, List.replicate, zaj, zak, loadOp, Go.Abs.loadCells, binV, zal, pickV, zam, zan, zao, zap, zaq, zar, zas, zat, zau, outR, resAll, resOne, zav, zaw, zax, zay, zaz, zba, zbb, zbc, zbd, zbe, zbf, zbg, zbh, zbi, zbj, zbk, storeOp, storeCell, overlay, zbl, zbm, zbn, lookupOp, keyT, okRes, mapUpdateOp, zbo, zbp, zbq, zbr, zbs, zbt, zbu, Nat.reduceSub, Nat.reduceAdd, Int.reduceLT, Int.reduceLE, Int.reduceAdd, Int.reduceSub, Int.reduceToNat, Int.reduceBEq, Int.reduceBNe, Int.reduceMul, Nat.reduceBEq, Nat.reduceBNe, Nat.reduceLT, Nat.reduceLeDiff, Nat.reduceMul, Nat.reduceEqDiff, WD, effB, effH, isPriv, isHeap, isImm, zbx, zby, zbz, chkO, setD, dslot, zca, zcb, zcc, zcd, ptrCells_some, F13, hC6, z1, z2, z3, not_false_eq_true]
  refine wpCall_of (plain_spec hN6 hw hW6 im.globals o2 (by simp only [List.length_append, bs_len]; omega)) ?_
  rintro out H7 ⟨rfl, hf7, hW7⟩
  have hN7 : ∀ i, N i → i < H7.length := fun i hi => Nat.lt_of_lt_of_le (hN6 i hi) hf7.1
  have hC7 : H7[b + 2]? = some (.cells [.ptr (b + 1) 0 0]) := Cw.fr hC6 hc hcw hf7
  simp only [WW, partV, eqCells, eqLf, minV, maxV, ifcV, zaa, zab, zac, zad, zae, zaf, zag, zah, zai, ofConst, ofConst1, List.replicate, zaj, zak, loadOp, Go.Abs.loadCells, binV, zal, pickV, zam, zan, zao, zap, zaq, zar, zas, zat, zau, outR, resAll, resOne, zav, zaw, zax, zay, zaz, zba, zbb, zbc, zbd, zbe, zbf, zbg, zbh, zbi, zbj, zbk, storeOp, storeCell, overlay, zbl, zbm, zbn, lookupOp, keyT, okRes, mapUpdateOp, zbo, zbp, zbq, zbr, zbs, zbt, zbu, Nat.reduceSub, Nat.reduceAdd, Int.reduceLT, Int.reduceLE, Int.reduceAdd, Int.reduceSub, Int.reduceToNat, Int.reduceBEq, Int.reduceBNe, Int.reduceMul, Nat.reduceBEq, Nat.reduceBNe, Nat.reduceLT, Nat.reduceLeDiff, Nat.reduceMul, Nat.reduceEqDiff, WD, effB, effH, isPriv, isHeap, isImm, zbx, zby, zbz, chkO, setD, dslot, zca, zcb, zcc, zcd, ptrCells_some, F13, hC7, z1, z2, z3, not_false_eq_true]
  refine wpCall_of (severalG33 encFn call34 hN7 hw hW7 hf f2 (fun G l1 v a ha hR hf hW1 hl1 => ?_) (by simp only [List.length_append, bs_len]; omega) (by omega)) ?_
  · exact function34 (fun i hi => Nat.lt_of_lt_of_le (hN7 i hi) hf.1) hw hW1 hR (all_mem o3 ha) (m6 a ha) hl1
  rintro out H8 ⟨rfl, hf8, hW8⟩
  have hC8 : H8[b + 2]? = some (.cells [.ptr (b + 1) 0 0]) := Cw.fr hC7 hc hcw hf8
  obtain ⟨x, hx, hb⟩ := hW8
  have e : bs magicB ++ bs (encL encS im.strs) ++ bs (encL (encL encI) im.keys) ++ bs (encI im.globals) ++ bs (encL encFn im.funs) = bs (encIm im) := by simp only [encIm, bs_app, List.append_assoc]
  rw [e] at hx
  have hlx : decide ((4194304 : Int) < ((bs (encIm im)).length : Int)) = false := decide_eq_false (by simp only [encIm, List.length_append, bs_len]; omega)
  have h01 : ((0 : Int) != 0) = false := rfl
  simp only [WW, partV, eqCells, eqLf, minV, maxV, ifcV, zaa, zab, zac, zad, zae, zaf, zag, zah, zai, ofConst, ofConst1, List.replicate, zaj, zak, loadOp, Go.Abs.loadCells, binV, zal, pickV, zam, zan, zao, zap, zaq, zar, zas, zat, zau, outR, resAll, resOne, zav, zaw, zax, zay, zaz, zba, zbb, zbc, zbd, zbe, zbf, zbg, zbh, zbi, zbj, zbk, storeOp, storeCell, overlay, zbl, zbm, zbn, lookupOp, keyT, okRes, mapUpdateOp, zbo, zbp, zbq, zbr, zbs, zbt, zbu, Nat.reduceSub, Nat.reduceAdd, Int.reduceLT, Int.reduceLE, Int.reduceAdd, Int.reduceSub, Int.reduceToNat, Int.reduceBEq, Int.reduceBNe, Int.reduceMul, Nat.reduceBEq, Nat.reduceBNe, Nat.reduceLT, Nat.reduceLeDiff, Nat.reduceMul, Nat.reduceEqDiff, WD, effB, effH, isPriv, isHeap, isImm, zbx, zby, zbz, chkO, setD, dslot, zca, zcb, zcc, zcd, ptrCells_some, F13, hC8, hb, h01, hx.shut, hx.len, hlx, bne_self_eq_false]
  exact ⟨x, rfl, hwk _ _ _ hx, hOf _ ((((hf5.trans hf6).trans hf7).trans hf8))⟩
end Go.Proofs.YtgjobbmbbedecaaDoor

/- The document's side: which numbers can be told, numbers' bytes. -/
namespace Go.Proofs.YtgjobbmbbedecaaDoor
open Go Go.Abs Go.Proofs
set_option maxRecDepth 100000
set_option maxHeartbeats 4000000
set_option linter.unusedVariables false
set_option linter.unusedSimpArgs false
theorem plain_eq (n : Int) (H : Hp) : EW 35 [.int .i64 n] H = some (.ret (.bool (plain n)) false, H) := by
  refine eqOf (runs f35 b35 r35 n35 _ _ ?_)
  simp only [bodyOf, Tryd.f35, Option.getD_some]
  simp only [WW, partV, eqCells, eqLf, minV, maxV, ifcV, zaa, zab, zac, zad, zae, zaf, zag, zah, zai, ofConst, ofConst1, List.replicate, zaj, zak, loadOp, Go.Abs.loadCells, binV, zal, pickV, zam, zan, zao, zap, zaq, zar, zas, zat, zau, outR, resAll, resOne, zav, zaw, zax, zay, zaz, zba, zbb, zbc, zbd, zbe, zbf, zbg, zbh, zbi, zbj, zbk, storeOp, storeCell, overlay, zbl, zbm, zbn, lookupOp, keyT, okRes, mapUpdateOp, zbo, zbp, zbq, zbr, zbs, zbt, zbu, Nat.reduceSub, Nat.reduceAdd, Int.reduceLT, Int.reduceLE, Int.reduceAdd, Int.reduceSub, Int.reduceToNat, Int.reduceBEq, Int.reduceBNe, Int.reduceMul, Nat.reduceBEq, Nat.reduceBNe, Nat.reduceLT, Nat.reduceLeDiff, Nat.reduceMul, Nat.reduceEqDiff, WD, effB, effH, isPriv, isHeap, isImm, zbx, zby, zbz, chkO, setD, dslot, zca, zcb, zcc, zcd, ptrCells_some, F35]
  refine gSplit (fun h => ?_) (fun h => ?_)
  · simp only [h]
    simp only [WW, partV, eqCells, eqLf, minV, maxV, ifcV, zaa, zab, zac, zad, zae, zaf, zag, zah, zai, ofConst, ofConst1, List.replicate, zaj, zak, loadOp, Go.Abs.loadCells, binV, zal, pickV, zam, zan, zao, zap, zaq, zar, zas, zat, zau, outR, resAll, resOne, zav, zaw, zax, zay, zaz, zba, zbb, zbc, zbd, zbe, zbf, zbg, zbh, zbi, zbj, zbk, storeOp, storeCell, overlay, zbl, zbm, zbn, lookupOp, keyT, okRes, mapUpdateOp, zbo, zbp, zbq, zbr, zbs, zbt, zbu, Nat.reduceSub, Nat.reduceAdd, Int.reduceLT, Int.reduceLE, Int.reduceAdd, Int.reduceSub, Int.reduceToNat, Int.reduceBEq, Int.reduceBNe, Int.reduceMul, Nat.reduceBEq, Nat.reduceBNe, Nat.reduceLT, Nat.reduceLeDiff, Nat.reduceMul, Nat.reduceEqDiff, WD, effB, effH, isPriv, isHeap, isImm, zbx, zby, zbz, chkO, setD, dslot, zca, zcb, zcc, zcd, ptrCells_some, F35]
    simp only [plain, h, Bool.true_and]
  · simp only [h]
    simp only [WW, partV, eqCells, eqLf, minV, maxV, ifcV, zaa, zab, zac, zad, zae, zaf, zag, zah, zai, ofConst, ofConst1, List.replicate, zaj, zak, loadOp, Go.Abs.loadCells, binV, zal, pickV, zam, zan, zao, zap, zaq, zar, zas, zat, zau, outR, resAll, resOne, zav, zaw, zax, zay, zaz, zba, zbb, zbc, zbd, zbe, zbf, zbg, zbh, zbi, zbj, zbk, storeOp, storeCell, overlay, zbl, zbm, zbn, lookupOp, keyT, okRes, mapUpdateOp, zbo, zbp, zbq, zbr, zbs, zbt, zbu, Nat.reduceSub, Nat.reduceAdd, Int.reduceLT, Int.reduceLE, Int.reduceAdd, Int.reduceSub, Int.reduceToNat, Int.reduceBEq, Int.reduceBNe, Int.reduceMul, Nat.reduceBEq, Nat.reduceBNe, Nat.reduceLT, Nat.reduceLeDiff, Nat.reduceMul, Nat.reduceEqDiff, WD, effB, effH, isPriv, isHeap, isImm, zbx, zby, zbz, chkO, setD, dslot, zca, zcb, zcc, zcd, ptrCells_some, F35]
    simp only [plain, h, Bool.false_and]
theorem sgn_eq (n : Int) (H : Hp) : EW 65 [.int .i64 n] H = some (.ret (.bool (signedOk n)) false, H) := by
  refine eqOf (runs f65 b65 r65 n65 _ _ ?_)
  simp only [bodyOf, Tryd.f65, Option.getD_some]
  simp only [WW, partV, eqCells, eqLf, minV, maxV, ifcV, zaa, zab, zac, zad, zae, zaf, zag, zah, zai, ofConst, ofConst1, List.replicate, zaj, zak, loadOp, Go.Abs.loadCells, binV, zal, pickV, zam, zan, zao, zap, zaq, zar, zas, zat, zau, outR, resAll, resOne, zav, zaw, zax, zay, zaz, zba, zbb, zbc, zbd, zbe, zbf, zbg, zbh, zbi, zbj, zbk, storeOp, storeCell, overlay, zbl, zbm, zbn, lookupOp, keyT, okRes, mapUpdateOp, zbo, zbp, zbq, zbr, zbs, zbt, zbu, Nat.reduceSub, Nat.reduceAdd, Int.reduceLT, Int.reduceLE, Int.reduceAdd, Int.reduceSub, Int.reduceToNat, Int.reduceBEq, Int.reduceBNe, Int.reduceMul, Nat.reduceBEq, Nat.reduceBNe, Nat.reduceLT, Nat.reduceLeDiff, Nat.reduceMul, Nat.reduceEqDiff, WD, effB, effH, isPriv, isHeap, isImm, zbx, zby, zbz, chkO, setD, dslot, zca, zcb, zcc, zcd, ptrCells_some, F65]
  refine gSplit (fun h => ?_) (fun h => ?_)
  · simp only [h]
    simp only [WW, partV, eqCells, eqLf, minV, maxV, ifcV, zaa, zab, zac, zad, zae, zaf, zag, zah, zai, ofConst, ofConst1, List.replicate, zaj, zak, loadOp, Go.Abs.loadCells, binV, zal, pickV, zam, zan, zao, zap, zaq, zar, zas, zat, zau, outR, resAll, resOne, zav, zaw, zax, zay, zaz, zba, zbb, zbc, zbd, zbe, zbf, zbg, zbh, zbi, zbj, zbk, storeOp, storeCell, overlay, zbl, zbm, zbn, lookupOp, keyT, okRes, mapUpdateOp, zbo, zbp, zbq, zbr, zbs, zbt, zbu, Nat.reduceSub, Nat.reduceAdd, Int.reduceLT, Int.reduceLE, Int.reduceAdd, Int.reduceSub, Int.reduceToNat, Int.reduceBEq, Int.reduceBNe, Int.reduceMul, Nat.reduceBEq, Nat.reduceBNe, Nat.reduceLT, Nat.reduceLeDiff, Nat.reduceMul, Nat.reduceEqDiff, WD, effB, effH, isPriv, isHeap, isImm, zbx, zby, zbz, chkO, setD, dslot, zca, zcb, zcc, zcd, ptrCells_some, F65]
    simp only [signedOk, h, Bool.true_and]
  · simp only [h]
    simp only [WW, partV, eqCells, eqLf, minV, maxV, ifcV, zaa, zab, zac, zad, zae, zaf, zag, zah, zai, ofConst, ofConst1, List.replicate, zaj, zak, loadOp, Go.Abs.loadCells, binV, zal, pickV, zam, zan, zao, zap, zaq, zar, zas, zat, zau, outR, resAll, resOne, zav, zaw, zax, zay, zaz, zba, zbb, zbc, zbd, zbe, zbf, zbg, zbh, zbi, zbj, zbk, storeOp, storeCell, overlay, zbl, zbm, zbn, lookupOp, keyT, okRes, mapUpdateOp, zbo, zbp, zbq, zbr, zbs, zbt, zbu, Nat.reduceSub, Nat.reduceAdd, Int.reduceLT, Int.reduceLE, Int.reduceAdd, Int.reduceSub, Int.reduceToNat, Int.reduceBEq, Int.reduceBNe, Int.reduceMul, Nat.reduceBEq, Nat.reduceBNe, Nat.reduceLT, Nat.reduceLeDiff, Nat.reduceMul, Nat.reduceEqDiff, WD, effB, effH, isPriv, isHeap, isImm, zbx, zby, zbz, chkO, setD, dslot, zca, zcb, zcc, zcd, ptrCells_some, F65]
    simp only [signedOk, h, Bool.false_and]
theorem plainW (n : Int) (H : Hp) (K : Out → Hp → Prop) : wpCall (evW Tryd.prog notes) 35 [.int .i64 n] H K = K (.ret (.bool (plain n)) false) H := wpCall_eq (plain_eq n H)
theorem sgnW (n : Int) (H : Hp) (K : Out → Hp → Prop) : wpCall (evW Tryd.prog notes) 65 [.int .i64 n] H K = K (.ret (.bool (signedOk n)) false) H := wpCall_eq (sgn_eq n H)
theorem numbers_eq {v : V} {ns : List Int} (hx : RdA v (ns.map intV)) (hn : ns.length ≤ 4000000) (H : Hp) : EW 36 [v] H = some (.ret (.bool (ns.all plain)) false, H) := by
  refine eqOf (runs f36 b36 r36 n36 _ _ ?_)
  simp only [bodyOf, Tryd.f36, Option.getD_some]
  have z1 := fun st => (hx []).shutIn st
  have hlm : (ns.map intV).length = ns.length := List.length_map ..
  simp only [WW, partV, eqCells, eqLf, minV, maxV, ifcV, zaa, zab, zac, zad, zae, zaf, zag, zah, zai, ofConst, ofConst1, List.replicate, zaj, zak, loadOp, Go.Abs.loadCells, binV, zal, pickV, zam, zan, zao, zap, zaq, zar, zas, zat, zau, outR, resAll, resOne, zav, zaw, zax, zay, zaz, zba, zbb, zbc, zbd, zbe, zbf, zbg, zbh, zbi, zbj, zbk, storeOp, storeCell, overlay, zbl, zbm, zbn, lookupOp, keyT, okRes, mapUpdateOp, zbo, zbp, zbq, zbr, zbs, zbt, zbu, Nat.reduceSub, Nat.reduceAdd, Int.reduceLT, Int.reduceLE, Int.reduceAdd, Int.reduceSub, Int.reduceToNat, Int.reduceBEq, Int.reduceBNe, Int.reduceMul, Nat.reduceBEq, Nat.reduceBNe, Nat.reduceLT, Nat.reduceLeDiff, Nat.reduceMul, Nat.reduceEqDiff, WD, effB, effH, isPriv, isHeap, isImm, zbx, zby, zbz, chkO, setD, dslot, zca, zcb, zcc, zcd, ptrCells_some, F36]
  refine wC_loop _ (fun k st' H' => ∃ (i : Nat), st' = ⟨L36_2 (.v v) (.v (.int .i64 i)), [], []⟩ ∧ H' = H ∧ i ≤ ns.length ∧ k = ns.length - i ∧ (ns.drop i).all plain = ns.all plain) ns.length ⟨0, ?_, rfl, by omega, by omega, rfl⟩ ?_
  · simp only [WN, firstReg, growAll, zbv, zbw, norm, killS, zag, zah, zaa, zab, zbl, zat, zad, growOne, zae, zaf, zac, zas, zak, Nat.reduceLT, Nat.reduceAdd, zbj, zav, F36, L36_2, (hx []).clip2]
    rfl
  · rintro k st' H ⟨i, rfl, rfl, hi, rfl, he⟩
    simp only [L36_2]
    simp only [WW, partV, eqCells, eqLf, minV, maxV, ifcV, zaa, zab, zac, zad, zae, zaf, zag, zah, zai, ofConst, ofConst1, List.replicate, zaj, zak, loadOp, Go.Abs.loadCells, binV, zal, pickV, zam, zan, zao, zap, zaq, zar, zas, zat, zau, outR, resAll, resOne, zav, zaw, zax, zay, zaz, zba, zbb, zbc, zbd, zbe, zbf, zbg, zbh, zbi, zbj, zbk, storeOp, storeCell, overlay, zbl, zbm, zbn, lookupOp, keyT, okRes, mapUpdateOp, zbo, zbp, zbq, zbr, zbs, zbt, zbu, Nat.reduceSub, Nat.reduceAdd, Int.reduceLT, Int.reduceLE, Int.reduceAdd, Int.reduceSub, Int.reduceToNat, Int.reduceBEq, Int.reduceBNe, Int.reduceMul, Nat.reduceBEq, Nat.reduceBNe, Nat.reduceLT, Nat.reduceLeDiff, Nat.reduceMul, Nat.reduceEqDiff, WD, effB, effH, isPriv, isHeap, isImm, zbx, zby, zbz, chkO, setD, dslot, zca, zcb, zcc, zcd, ptrCells_some, F36, z1, (hx H).len, hlm]
    refine cSplit (fun hlt => ?_) (fun hge => ?_)
    · have hi2 : i < ns.length := by have := of_decide_eq_true hlt; omega
      have hs : ns[i]? = some ns[i] := List.getElem?_eq_getElem hi2
      generalize ns[i] = n at hs
      rw [drop_get hs, List.all_cons] at he
      simp only [hlt]
      have hat := (hx H).at_ (sz := 1) (i := i) (e := .int .i64 n) (by rw [List.getElem?_map, hs]; rfl) rfl
      simp only [WW, partV, eqCells, eqLf, minV, maxV, ifcV, zaa, zab, zac, zad, zae, zaf, zag, zah, zai, ofConst, ofConst1, List.replicate, zaj, zak, loadOp, Go.Abs.loadCells, binV, zal, pickV, zam, zan, zao, zap, zaq, zar, zas, zat, zau, outR, resAll, resOne, zav, zaw, zax, zay, zaz, zba, zbb, zbc, zbd, zbe, zbf, zbg, zbh, zbi, zbj, zbk, storeOp, storeCell, overlay, zbl, zbm, zbn, lookupOp, keyT, okRes, mapUpdateOp, zbo, zbp, zbq, zbr, zbs, zbt, zbu, Nat.reduceSub, Nat.reduceAdd, Int.reduceLT, Int.reduceLE, Int.reduceAdd, Int.reduceSub, Int.reduceToNat, Int.reduceBEq, Int.reduceBNe, Int.reduceMul, Nat.reduceBEq, Nat.reduceBNe, Nat.reduceLT, Nat.reduceLeDiff, Nat.reduceMul, Nat.reduceEqDiff, WD, effB, effH, isPriv, isHeap, isImm, zbx, zby, zbz, chkO, setD, dslot, zca, zcb, zcc, zcd, ptrCells_some, F36, z1, hat.at1 (hx H), hat.cells, plainW]
      cases hp : plain n with
      | true =>
        rw [hp, Bool.true_and] at he
        simp only [WW, partV, eqCells, eqLf, minV, maxV, ifcV, zaa, zab, zac, zad, zae, zaf, zag, zah, zai, ofConst, ofConst1, List.replicate, zaj, zak, loadOp, Go.Abs.loadCells, binV, zal, pickV, zam, zan, zao, zap, zaq, zar, zas, zat, zau, outR, resAll, resOne, zav, zaw, zax, zay, zaz, zba, zbb, zbc, zbd, zbe, zbf, zbg, zbh, zbi, zbj, zbk, storeOp, storeCell, overlay, zbl, zbm, zbn, lookupOp, keyT, okRes, mapUpdateOp, zbo, zbp, zbq, zbr, zbs, zbt, zbu, Nat.reduceSub, Nat.reduceAdd, Int.reduceLT, Int.reduceLE, Int.reduceAdd, Int.reduceSub, Int.reduceToNat, Int.reduceBEq, Int.reduceBNe, Int.reduceMul, Nat.reduceBEq, Nat.reduceBNe, Nat.reduceLT, Nat.reduceLeDiff, Nat.reduceMul, Nat.reduceEqDiff, WD, effB, effH, isPriv, isHeap, isImm, zbx, zby, zbz, chkO, setD, dslot, zca, zcb, zcc, zcd, ptrCells_some, F36]
        refine ⟨ns.length - (i + 1), by omega, i + 1, ?_, by omega, rfl, he⟩
        simp only [WN, firstReg, growAll, zbv, zbw, norm, killS, zag, zah, zaa, zab, zbl, zat, zad, growOne, zae, zaf, zac, zas, zak, Nat.reduceLT, Nat.reduceAdd, zbj, zav, F36, (hx []).clip2]
        rw [IntWalk.i64_in ((i : Int) + 1) (by omega)]; rfl
      | false =>
        rw [hp, Bool.false_and] at he
        simp only [WW, partV, eqCells, eqLf, minV, maxV, ifcV, zaa, zab, zac, zad, zae, zaf, zag, zah, zai, ofConst, ofConst1, List.replicate, zaj, zak, loadOp, Go.Abs.loadCells, binV, zal, pickV, zam, zan, zao, zap, zaq, zar, zas, zat, zau, outR, resAll, resOne, zav, zaw, zax, zay, zaz, zba, zbb, zbc, zbd, zbe, zbf, zbg, zbh, zbi, zbj, zbk, storeOp, storeCell, overlay, zbl, zbm, zbn, lookupOp, keyT, okRes, mapUpdateOp, zbo, zbp, zbq, zbr, zbs, zbt, zbu, Nat.reduceSub, Nat.reduceAdd, Int.reduceLT, Int.reduceLE, Int.reduceAdd, Int.reduceSub, Int.reduceToNat, Int.reduceBEq, Int.reduceBNe, Int.reduceMul, Nat.reduceBEq, Nat.reduceBNe, Nat.reduceLT, Nat.reduceLeDiff, Nat.reduceMul, Nat.reduceEqDiff, WD, effB, effH, isPriv, isHeap, isImm, zbx, zby, zbz, chkO, setD, dslot, zca, zcb, zcc, zcd, ptrCells_some, F36]
        rw [← he]
    · have hi2 : i = ns.length := by have := of_decide_eq_false hge; omega
      rw [hi2, List.drop_length, List.all_nil] at he
      simp only [hge]
      simp only [WW, partV, eqCells, eqLf, minV, maxV, ifcV, zaa, zab, zac, zad, zae, zaf, zag, zah, zai, ofConst, ofConst1, List.replicate, zaj, zak, loadOp, Go.Abs.loadCells, binV, zal, pickV, zam, zan, zao, zap, zaq, zar, zas, zat, zau, outR, resAll, resOne, zav, zaw, zax, zay, zaz, zba, zbb, zbc, zbd, zbe, zbf, zbg, zbh, zbi, zbj, zbk, storeOp, storeCell, overlay, zbl, zbm, zbn, lookupOp, keyT, okRes, mapUpdateOp, zbo, zbp, zbq, zbr, zbs, zbt, zbu, Nat.reduceSub, Nat.reduceAdd, Int.reduceLT, Int.reduceLE, Int.reduceAdd, Int.reduceSub, Int.reduceToNat, Int.reduceBEq, Int.reduceBNe, Int.reduceMul, Nat.reduceBEq, Nat.reduceBNe, Nat.reduceLT, Nat.reduceLeDiff, Nat.reduceMul, Nat.reduceEqDiff, WD, effB, effH, isPriv, isHeap, isImm, zbx, zby, zbz, chkO, setD, dslot, zca, zcb, zcc, zcd, ptrCells_some, F36]
      rw [← he]
theorem numbersW {v : V} {ns : List Int} (hx : RdA v (ns.map intV)) (hn : ns.length ≤ 4000000) (H : Hp) (K : Out → Hp → Prop) : wpCall (evW Tryd.prog notes) 36 [v] H K = K (.ret (.bool (ns.all plain)) false) H := wpCall_eq (numbers_eq hx hn H)
/-- An append to the first own row -/
theorem app_row0 {es xs : List V} {n : Nat} (hn : n = es.length) (he : wideAll es 1 = true) (hx : wideAll xs 1 = true) (hl : es.length + xs.length ≤ 70368744177664) (s : List Slot) (b : List (List V)) (tl : List LRow) (H : Hp) (d : Nat) (ns : Bool) :
    appendOp Tryd.prog .priv ⟨s, b, ⟨true, ns, es⟩ :: tl⟩ H (some d) 5 (.lr 0 n) xs = some (⟨s.set d (.v (.lr 0 (n + xs.length))), b, ⟨true, ns, es ++ xs⟩ :: tl⟩, H) := by
  subst hn
  rw [app_own (q := ⟨true, ns, es⟩) rfl rfl rfl (elemOk5 hl) (by rw [size5]; exact he) (by rw [size5]; exact hx)]
  rfl
theorem beq_len {α : Type} (l : List α) : (l.length == l.length) = true := by simp
theorem number_eq : ∀ (k n : Nat), n < k → ∀ H, n ≤ 4611686018427387903 → EW 38 [.int .i64 n] H = some (.ret (.rsl (bs (encN n))) true, H)
  | 0, n, h, _, _ => absurd h (by omega)
  | k + 1, n, h, H, hn => by
    refine eqOf (runs f38 b38 r38 n38 _ _ ?_)
    simp only [bodyOf, Tryd.f38, Option.getD_some]
    simp only [WW, partV, eqCells, eqLf, minV, maxV, ifcV, zaa, zab, zac, zad, zae, zaf, zag, zah, zai, ofConst, ofConst1, List.replicate, zaj, zak, loadOp, Go.Abs.loadCells, binV, zal, pickV, zam, zan, zao, zap, zaq, zar, zas, zat, zau, outR, resAll, resOne, zav, zaw, zax, zay, zaz, zba, zbb, zbc, zbd, zbe, zbf, zbg, zbh, zbi, zbj, zbk, storeOp, storeCell, overlay, zbl, zbm, zbn, lookupOp, keyT, okRes, mapUpdateOp, zbo, zbp, zbq, zbr, zbs, zbt, zbu, Nat.reduceSub, Nat.reduceAdd, Int.reduceLT, Int.reduceLE, Int.reduceAdd, Int.reduceSub, Int.reduceToNat, Int.reduceBEq, Int.reduceBNe, Int.reduceMul, Nat.reduceBEq, Nat.reduceBNe, Nat.reduceLT, Nat.reduceLeDiff, Nat.reduceMul, Nat.reduceEqDiff, WD, effB, effH, isPriv, isHeap, isImm, zbx, zby, zbz, chkO, setD, dslot, zca, zcb, zcc, zcd, ptrCells_some, F38]
    refine cSplit (fun hlt => ?_) (fun hge => ?_)
    · have hs : n < 128 := by have := of_decide_eq_true hlt; omega
      simp only [hlt]
      have hb : bs [n] = [.int .u8 (n : Int)] := rfl
      simp only [WW, partV, eqCells, eqLf, minV, maxV, ifcV, zaa, zab, zac, zad, zae, zaf, zag, zah, zai, ofConst, ofConst1, List.replicate, zaj, zak, loadOp, Go.Abs.loadCells, binV, zal, pickV, zam, zan, zao, zap, zaq, zar, zas, zat, zau, outR, resAll, resOne, zav, zaw, zax, zay, zaz, zba, zbb, zbc, zbd, zbe, zbf, zbg, zbh, zbi, zbj, zbk, storeOp, storeCell, overlay, zbl, zbm, zbn, lookupOp, keyT, okRes, mapUpdateOp, zbo, zbp, zbq, zbr, zbs, zbt, zbu, Nat.reduceSub, Nat.reduceAdd, Int.reduceLT, Int.reduceLE, Int.reduceAdd, Int.reduceSub, Int.reduceToNat, Int.reduceBEq, Int.reduceBNe, Int.reduceMul, Nat.reduceBEq, Nat.reduceBNe, Nat.reduceLT, Nat.reduceLeDiff, Nat.reduceMul, Nat.reduceEqDiff, WD, effB, effH, isPriv, isHeap, isImm, zbx, zby, zbz, chkO, setD, dslot, zca, zcb, zcc, zcd, ptrCells_some, F38, convertOp, u8_small hs, buildSliceV, lits, srcV_eq, srcK_sl, srcK_str, srcSl_nils, srcSl_rsl, srcSl_sl, frow, zbv, zbw, List.all_nil, List.all_cons, rowV, Bool.false_and, Bool.and_false, ne_eq, not_false_eq_true, grows_lr, callOut_t]
      simp [rowV, growsAs, encN_small hs, hb]
    · have hs : ¬ n < 128 := by have := of_decide_eq_false hge; omega
      simp only [hge]
      have ih := number_eq k (n / 128) (by omega) H (by omega)
      have hrem : (n : Int).tmod 128 = ((n % 128 : Nat) : Int) := by rw [Int.tmod_eq_emod_of_nonneg (by omega)]; norm_cast
      have hquo : IntKind.i64.wrap ((n : Int).tdiv 128) = ((n / 128 : Nat) : Int) := by
        rw [show (n : Int).tdiv 128 = ((n / 128 : Nat) : Int) by rw [Int.tdiv_eq_ediv_of_nonneg (by omega)]; norm_cast]
        exact IntWalk.i64_in _ (by omega)
      have hadd : IntKind.i64.wrap (((n % 128 : Nat) : Int) + 128) = ((128 + n % 128 : Nat) : Int) := by rw [IntWalk.i64_in _ (by omega)]; omega
      have hcv : IntKind.u8.wrap ((128 + n % 128 : Nat) : Int) = ((128 + n % 128 : Nat) : Int) := by simp [IntKind.wrap, IntKind.bits, IntKind.signed]; omega
      have h128 : ((128 : Int) = 0) = False := by simp
      simp only [WW, partV, eqCells, eqLf, minV, maxV, ifcV, zaa, zab, zac, zad, zae, zaf, zag, zah, zai, ofConst, ofConst1, List.replicate, zaj, zak, loadOp, Go.Abs.loadCells, binV, zal, pickV, zam, zan, zao, zap, zaq, zar, zas, zat, zau, outR, resAll, resOne, zav, zaw, zax, zay, zaz, zba, zbb, zbc, zbd, zbe, zbf, zbg, zbh, zbi, zbj, zbk, storeOp, storeCell, overlay, zbl, zbm, zbn, lookupOp, keyT, okRes, mapUpdateOp, zbo, zbp, zbq, zbr, zbs, zbt, zbu, Nat.reduceSub, Nat.reduceAdd, Int.reduceLT, Int.reduceLE, Int.reduceAdd, Int.reduceSub, Int.reduceToNat, Int.reduceBEq, Int.reduceBNe, Int.reduceMul, Nat.reduceBEq, Nat.reduceBNe, Nat.reduceLT, Nat.reduceLeDiff, Nat.reduceMul, Nat.reduceEqDiff, WD, effB, effH, isPriv, isHeap, isImm, zbx, zby, zbz, chkO, setD, dslot, zca, zcb, zcc, zcd, ptrCells_some, F38, convertOp, h128, hrem, hquo, hadd, hcv, buildSliceV, lits, srcV_eq, srcK_sl, srcK_str, srcSl_nils, srcSl_rsl, srcSl_sl, frow, zbv, zbw, List.all_nil, List.all_cons, rowV, Bool.false_and, Bool.and_false, ne_eq, not_false_eq_true, grows_lr, callOut_t]
      rw [wpCall_eq ih]
      have l9 := encN_len9 (n := n / 128) (by omega)
      have hap := fun s b tl H d => app_row0 (es := [V.int .u8 ((128 + n % 128 : Nat) : Int)]) (xs := bs (encN (n / 128))) (n := 1) rfl rfl (wide_bs _) (by rw [bs_len]; simp; omega) s b tl H d false
      simp only [WW, partV, eqCells, eqLf, minV, maxV, ifcV, zaa, zab, zac, zad, zae, zaf, zag, zah, zai, ofConst, ofConst1, List.replicate, zaj, zak, loadOp, Go.Abs.loadCells, binV, zal, pickV, zam, zan, zao, zap, zaq, zar, zas, zat, zau, outR, resAll, resOne, zav, zaw, zax, zay, zaz, zba, zbb, zbc, zbd, zbe, zbf, zbg, zbh, zbi, zbj, zbk, storeOp, storeCell, overlay, zbl, zbm, zbn, lookupOp, keyT, okRes, mapUpdateOp, zbo, zbp, zbq, zbr, zbs, zbt, zbu, Nat.reduceSub, Nat.reduceAdd, Int.reduceLT, Int.reduceLE, Int.reduceAdd, Int.reduceSub, Int.reduceToNat, Int.reduceBEq, Int.reduceBNe, Int.reduceMul, Nat.reduceBEq, Nat.reduceBNe, Nat.reduceLT, Nat.reduceLeDiff, Nat.reduceMul, Nat.reduceEqDiff, WD, effB, effH, isPriv, isHeap, isImm, zbx, zby, zbz, chkO, setD, dslot, zca, zcb, zcc, zcd, ptrCells_some, F38, buildSliceV, lits, srcV_eq, srcK_sl, srcK_str, srcSl_nils, srcSl_rsl, srcSl_sl, frow, zbv, zbw, List.all_nil, List.all_cons, rowV, Bool.false_and, Bool.and_false, ne_eq, not_false_eq_true, grows_lr, callOut_t, List.take_length, hap]
      rw [encN_big hs]
      simp [rowV, growsAs, bs, Nat.add_comm]
      exact List.take_of_length_le (by simp; omega)
theorem encI_eq {n : Int} (h : plain n = true) (H : Hp) : EW 38 [.int .i64 n] H = some (.ret (.rsl (bs (encI n))) true, H) := by
  obtain ⟨h1, h2⟩ := plain_iff.1 h
  obtain ⟨m, rfl⟩ : ∃ m : Nat, n = m := ⟨n.toNat, by omega⟩
  exact number_eq (m + 1) m (by omega) H (by omega)
theorem encZ_eq {n : Int} (h : signedOk n = true) (H : Hp) : EW 66 [.int .i64 n] H = some (.ret (.rsl (bs (encZ n))) true, H) := by
  obtain ⟨h1, h2⟩ := signed_iff.1 h
  have hz := encI_eq (zz_plain h) H
  refine eqOf (runs f66 b66 r66 n66 _ _ ?_)
  simp only [bodyOf, Tryd.f66, Option.getD_some]
  simp only [WW, partV, eqCells, eqLf, minV, maxV, ifcV, zaa, zab, zac, zad, zae, zaf, zag, zah, zai, ofConst, ofConst1, List.replicate, zaj, zak, loadOp, Go.Abs.loadCells, binV, zal, pickV, zam, zan, zao, zap, zaq, zar, zas, zat, zau, outR, resAll, resOne, zav, zaw, zax, zay, zaz, zba, zbb, zbc, zbd, zbe, zbf, zbg, zbh, zbi, zbj, zbk, storeOp, storeCell, overlay, zbl, zbm, zbn, lookupOp, keyT, okRes, mapUpdateOp, zbo, zbp, zbq, zbr, zbs, zbt, zbu, Nat.reduceSub, Nat.reduceAdd, Int.reduceLT, Int.reduceLE, Int.reduceAdd, Int.reduceSub, Int.reduceToNat, Int.reduceBEq, Int.reduceBNe, Int.reduceMul, Nat.reduceBEq, Nat.reduceBNe, Nat.reduceLT, Nat.reduceLeDiff, Nat.reduceMul, Nat.reduceEqDiff, WD, effB, effH, isPriv, isHeap, isImm, zbx, zby, zbz, chkO, setD, dslot, zca, zcb, zcc, zcd, ptrCells_some, F66]
  refine cSplit (fun h2 => ?_) (fun h2 => ?_)
  · have hlt := of_decide_eq_true h2
    simp only [h2]
    simp only [WW, partV, eqCells, eqLf, minV, maxV, ifcV, zaa, zab, zac, zad, zae, zaf, zag, zah, zai, ofConst, ofConst1, List.replicate, zaj, zak, loadOp, Go.Abs.loadCells, binV, zal, pickV, zam, zan, zao, zap, zaq, zar, zas, zat, zau, outR, resAll, resOne, zav, zaw, zax, zay, zaz, zba, zbb, zbc, zbd, zbe, zbf, zbg, zbh, zbi, zbj, zbk, storeOp, storeCell, overlay, zbl, zbm, zbn, lookupOp, keyT, okRes, mapUpdateOp, zbo, zbp, zbq, zbr, zbs, zbt, zbu, Nat.reduceSub, Nat.reduceAdd, Int.reduceLT, Int.reduceLE, Int.reduceAdd, Int.reduceSub, Int.reduceToNat, Int.reduceBEq, Int.reduceBNe, Int.reduceMul, Nat.reduceBEq, Nat.reduceBNe, Nat.reduceLT, Nat.reduceLeDiff, Nat.reduceMul, Nat.reduceEqDiff, WD, effB, effH, isPriv, isHeap, isImm, zbx, zby, zbz, chkO, setD, dslot, zca, zcb, zcc, zcd, ptrCells_some, F66]
    have e : IntKind.i64.wrap (IntKind.i64.wrap (-2 * n) - 1) = zz n := by rw [IntWalk.i64_in (-2 * n) (by omega), IntWalk.i64_in _ (by omega), zz_neg hlt]
    rw [e, wpCall_eq hz]
    simp only [WW, partV, eqCells, eqLf, minV, maxV, ifcV, zaa, zab, zac, zad, zae, zaf, zag, zah, zai, ofConst, ofConst1, List.replicate, zaj, zak, loadOp, Go.Abs.loadCells, binV, zal, pickV, zam, zan, zao, zap, zaq, zar, zas, zat, zau, outR, resAll, resOne, zav, zaw, zax, zay, zaz, zba, zbb, zbc, zbd, zbe, zbf, zbg, zbh, zbi, zbj, zbk, storeOp, storeCell, overlay, zbl, zbm, zbn, lookupOp, keyT, okRes, mapUpdateOp, zbo, zbp, zbq, zbr, zbs, zbt, zbu, Nat.reduceSub, Nat.reduceAdd, Int.reduceLT, Int.reduceLE, Int.reduceAdd, Int.reduceSub, Int.reduceToNat, Int.reduceBEq, Int.reduceBNe, Int.reduceMul, Nat.reduceBEq, Nat.reduceBNe, Nat.reduceLT, Nat.reduceLeDiff, Nat.reduceMul, Nat.reduceEqDiff, WD, effB, effH, isPriv, isHeap, isImm, zbx, zby, zbz, chkO, setD, dslot, zca, zcb, zcc, zcd, ptrCells_some, F66, buildSliceV, lits, srcV_eq, srcK_sl, srcK_str, srcSl_nils, srcSl_rsl, srcSl_sl, frow, zbv, zbw, List.all_nil, List.all_cons, rowV, Bool.false_and, Bool.and_false, ne_eq, not_false_eq_true, grows_lr, callOut_t]
    simp [encZ]
  · have hlt := of_decide_eq_false h2
    simp only [h2]
    simp only [WW, partV, eqCells, eqLf, minV, maxV, ifcV, zaa, zab, zac, zad, zae, zaf, zag, zah, zai, ofConst, ofConst1, List.replicate, zaj, zak, loadOp, Go.Abs.loadCells, binV, zal, pickV, zam, zan, zao, zap, zaq, zar, zas, zat, zau, outR, resAll, resOne, zav, zaw, zax, zay, zaz, zba, zbb, zbc, zbd, zbe, zbf, zbg, zbh, zbi, zbj, zbk, storeOp, storeCell, overlay, zbl, zbm, zbn, lookupOp, keyT, okRes, mapUpdateOp, zbo, zbp, zbq, zbr, zbs, zbt, zbu, Nat.reduceSub, Nat.reduceAdd, Int.reduceLT, Int.reduceLE, Int.reduceAdd, Int.reduceSub, Int.reduceToNat, Int.reduceBEq, Int.reduceBNe, Int.reduceMul, Nat.reduceBEq, Nat.reduceBNe, Nat.reduceLT, Nat.reduceLeDiff, Nat.reduceMul, Nat.reduceEqDiff, WD, effB, effH, isPriv, isHeap, isImm, zbx, zby, zbz, chkO, setD, dslot, zca, zcb, zcc, zcd, ptrCells_some, F66]
    have e : IntKind.i64.wrap (2 * n) = zz n := by rw [IntWalk.i64_in _ (by omega), zz_pos hlt]
    rw [e, wpCall_eq hz]
    simp only [WW, partV, eqCells, eqLf, minV, maxV, ifcV, zaa, zab, zac, zad, zae, zaf, zag, zah, zai, ofConst, ofConst1, List.replicate, zaj, zak, loadOp, Go.Abs.loadCells, binV, zal, pickV, zam, zan, zao, zap, zaq, zar, zas, zat, zau, outR, resAll, resOne, zav, zaw, zax, zay, zaz, zba, zbb, zbc, zbd, zbe, zbf, zbg, zbh, zbi, zbj, zbk, storeOp, storeCell, overlay, zbl, zbm, zbn, lookupOp, keyT, okRes, mapUpdateOp, zbo, zbp, zbq, zbr, zbs, zbt, zbu, Nat.reduceSub, Nat.reduceAdd, Int.reduceLT, Int.reduceLE, Int.reduceAdd, Int.reduceSub, Int.reduceToNat, Int.reduceBEq, Int.reduceBNe, Int.reduceMul, Nat.reduceBEq, Nat.reduceBNe, Nat.reduceLT, Nat.reduceLeDiff, Nat.reduceMul, Nat.reduceEqDiff, WD, effB, effH, isPriv, isHeap, isImm, zbx, zby, zbz, chkO, setD, dslot, zca, zcb, zcc, zcd, ptrCells_some, F66, buildSliceV, lits, srcV_eq, srcK_sl, srcK_str, srcSl_nils, srcSl_rsl, srcSl_sl, frow, zbv, zbw, List.all_nil, List.all_cons, rowV, Bool.false_and, Bool.and_false, ne_eq, not_false_eq_true, grows_lr, callOut_t]
    simp [encZ]
end Go.Proofs.YtgjobbmbbedecaaDoor

/- The document's side: lists' bytes, what is right. -/
namespace Go.Proofs.YtgjobbmbbedecaaDoor
open Go Go.Abs Go.Proofs
set_option maxRecDepth 100000
set_option maxHeartbeats 4000000
set_option linter.unusedVariables false
set_option linter.unusedSimpArgs false
theorem grows_true {n m : Nat} {es : List V} (h : n = es.length) (h0 : es ≠ []) : (n == es.length && !(false && n == 0)) = true := by
  subst h; simp
theorem encN_ne (n : Nat) : encN n ≠ [] := by
  by_cases h : n < 128
  · rw [encN_small h]; simp
  · rw [encN_big h]; simp
theorem list_eq {v : V} {ns : List Int} (hx : RdA v (ns.map intV)) (hn : ns.length ≤ 100000) (hp : ns.all plain = true) (H : Hp) : EW 39 [v] H = some (.ret (.rsl (bs (encL encI ns))) true, H) := by
  refine eqOf (runs f39 b39 r39 n39 _ _ ?_)
  simp only [bodyOf, Tryd.f39, Option.getD_some]
  have z1 := fun st => (hx []).shutIn st
  have hlm : (ns.map intV).length = ns.length := List.length_map ..
  simp only [WW, partV, eqCells, eqLf, minV, maxV, ifcV, zaa, zab, zac, zad, zae, zaf, zag, zah, zai, ofConst, ofConst1, List.replicate, zaj, zak, loadOp, Go.Abs.loadCells, binV, zal, pickV, zam, zan, zao, zap, zaq, zar, zas, zat, zau, outR, resAll, resOne, zav, zaw, zax, zay, zaz, zba, zbb, zbc, zbd, zbe, zbf, zbg, zbh, zbi, zbj, zbk, storeOp, storeCell, overlay, zbl, zbm, zbn, lookupOp, keyT, okRes, mapUpdateOp, zbo, zbp, zbq, zbr, zbs, zbt, zbu, Nat.reduceSub, Nat.reduceAdd, Int.reduceLT, Int.reduceLE, Int.reduceAdd, Int.reduceSub, Int.reduceToNat, Int.reduceBEq, Int.reduceBNe, Int.reduceMul, Nat.reduceBEq, Nat.reduceBNe, Nat.reduceLT, Nat.reduceLeDiff, Nat.reduceMul, Nat.reduceEqDiff, WD, effB, effH, isPriv, isHeap, isImm, zbx, zby, zbz, chkO, setD, dslot, zca, zcb, zcc, zcd, ptrCells_some, F39, z1, (hx H).len, hlm]
  rw [wpCall_eq (number_eq (ns.length + 1) ns.length (by omega) H (by omega))]
  simp only [WW, partV, eqCells, eqLf, minV, maxV, ifcV, zaa, zab, zac, zad, zae, zaf, zag, zah, zai, ofConst, ofConst1, List.replicate, zaj, zak, loadOp, Go.Abs.loadCells, binV, zal, pickV, zam, zan, zao, zap, zaq, zar, zas, zat, zau, outR, resAll, resOne, zav, zaw, zax, zay, zaz, zba, zbb, zbc, zbd, zbe, zbf, zbg, zbh, zbi, zbj, zbk, storeOp, storeCell, overlay, zbl, zbm, zbn, lookupOp, keyT, okRes, mapUpdateOp, zbo, zbp, zbq, zbr, zbs, zbt, zbu, Nat.reduceSub, Nat.reduceAdd, Int.reduceLT, Int.reduceLE, Int.reduceAdd, Int.reduceSub, Int.reduceToNat, Int.reduceBEq, Int.reduceBNe, Int.reduceMul, Nat.reduceBEq, Nat.reduceBNe, Nat.reduceLT, Nat.reduceLeDiff, Nat.reduceMul, Nat.reduceEqDiff, WD, effB, effH, isPriv, isHeap, isImm, zbx, zby, zbz, chkO, setD, dslot, zca, zcb, zcc, zcd, ptrCells_some, F39, buildSliceV, lits, srcV_eq, srcK_sl, srcK_str, srcSl_nils, srcSl_rsl, srcSl_sl, frow, zbv, zbw, List.all_nil, List.all_cons, rowV, Bool.false_and, Bool.and_false, ne_eq, not_false_eq_true, grows_lr, callOut_t]
  refine wC_loop _ (fun k st' H' => ∃ (i : Nat) (acc : List Nat), st' = ⟨L39_3 (.v v) (.v (.lr 0 acc.length)) (.v (.int .i64 i)), [], [⟨true, false, bs acc⟩]⟩ ∧ H' = H ∧ i ≤ ns.length ∧ k = ns.length - i ∧ acc ++ (ns.drop i).flatMap encI = encL encI ns ∧ acc.length ≤ 5 + 9 * i) ns.length ⟨0, encN ns.length, ?_, rfl, by omega, by omega, rfl, encN_len5 (by omega)⟩ ?_
  · simp only [WN, firstReg, growAll, zbv, zbw, norm, killS, zag, zah, zaa, zab, zbl, zat, zad, growOne, zae, zaf, zac, zas, zak, Nat.reduceLT, Nat.reduceAdd, zbj, zav, F39, L39_3, (hx []).clip2, bs_len]
    rfl
  · rintro k st' H ⟨i, acc, rfl, rfl, hi, rfl, he, hal⟩
    simp only [L39_3]
    simp only [WW, partV, eqCells, eqLf, minV, maxV, ifcV, zaa, zab, zac, zad, zae, zaf, zag, zah, zai, ofConst, ofConst1, List.replicate, zaj, zak, loadOp, Go.Abs.loadCells, binV, zal, pickV, zam, zan, zao, zap, zaq, zar, zas, zat, zau, outR, resAll, resOne, zav, zaw, zax, zay, zaz, zba, zbb, zbc, zbd, zbe, zbf, zbg, zbh, zbi, zbj, zbk, storeOp, storeCell, overlay, zbl, zbm, zbn, lookupOp, keyT, okRes, mapUpdateOp, zbo, zbp, zbq, zbr, zbs, zbt, zbu, Nat.reduceSub, Nat.reduceAdd, Int.reduceLT, Int.reduceLE, Int.reduceAdd, Int.reduceSub, Int.reduceToNat, Int.reduceBEq, Int.reduceBNe, Int.reduceMul, Nat.reduceBEq, Nat.reduceBNe, Nat.reduceLT, Nat.reduceLeDiff, Nat.reduceMul, Nat.reduceEqDiff, WD, effB, effH, isPriv, isHeap, isImm, zbx, zby, zbz, chkO, setD, dslot, zca, zcb, zcc, zcd, ptrCells_some, F39, z1, (hx H).len, hlm]
    refine cSplit (fun hlt => ?_) (fun hge => ?_)
    · have hi2 : i < ns.length := by have := of_decide_eq_true hlt; omega
      have hs : ns[i]? = some ns[i] := List.getElem?_eq_getElem hi2
      generalize ns[i] = n at hs
      rw [drop_get hs, List.flatMap_cons, ← List.append_assoc] at he
      simp only [hlt]
      have hpn := all_mem hp (List.mem_of_getElem? hs)
      have hln := encI_len hpn
      have hat := (hx H).at_ (sz := 1) (i := i) (e := .int .i64 n) (by rw [List.getElem?_map, hs]; rfl) rfl
      have hnw : ∀ K, wpCall (evW Tryd.prog notes) 38 [.int .i64 n] H K = K (.ret (.rsl (bs (encI n))) true) H := fun K => wpCall_eq (encI_eq hpn H)
      have hap := fun s b tl H d => app_row0 (es := bs acc) (xs := bs (encI n)) (n := acc.length) (bs_len _).symm (wide_bs _) (wide_bs _) (by rw [bs_len, bs_len]; omega) s b tl H d false
      simp only [WW, partV, eqCells, eqLf, minV, maxV, ifcV, zaa, zab, zac, zad, zae, zaf, zag, zah, zai, ofConst, ofConst1, List.replicate, zaj, zak, loadOp, Go.Abs.loadCells, binV, zal, pickV, zam, zan, zao, zap, zaq, zar, zas, zat, zau, outR, resAll, resOne, zav, zaw, zax, zay, zaz, zba, zbb, zbc, zbd, zbe, zbf, zbg, zbh, zbi, zbj, zbk, storeOp, storeCell, overlay, zbl, zbm, zbn, lookupOp, keyT, okRes, mapUpdateOp, zbo, zbp, zbq, zbr, zbs, zbt, zbu, Nat.reduceSub, Nat.reduceAdd, Int.reduceLT, Int.reduceLE, Int.reduceAdd, Int.reduceSub, Int.reduceToNat, Int.reduceBEq, Int.reduceBNe, Int.reduceMul, Nat.reduceBEq, Nat.reduceBNe, Nat.reduceLT, Nat.reduceLeDiff, Nat.reduceMul, Nat.reduceEqDiff, WD, effB, effH, isPriv, isHeap, isImm, zbx, zby, zbz, chkO, setD, dslot, zca, zcb, zcc, zcd, ptrCells_some, F39, z1, hat.at1 (hx H), hat.cells, hnw, buildSliceV, lits, srcV_eq, srcK_sl, srcK_str, srcSl_nils, srcSl_rsl, srcSl_sl, frow, zbv, zbw, List.all_nil, List.all_cons, rowV, Bool.false_and, Bool.and_false, ne_eq, not_false_eq_true, grows_lr, callOut_t, List.take_length, hap]
      refine ⟨ns.length - (i + 1), by omega, i + 1, acc ++ encI n, ?_, by omega, rfl, he, by rw [List.length_append]; omega⟩
      simp only [WN, firstReg, growAll, zbv, zbw, norm, killS, zag, zah, zaa, zab, zbl, zat, zad, growOne, zae, zaf, zac, zas, zak, Nat.reduceLT, Nat.reduceAdd, zbj, zav, F39, (hx []).clip2]
      rw [IntWalk.i64_in ((i : Int) + 1) (by omega), bs_len, bs_app, List.length_append]; rfl
    · have hi2 : i = ns.length := by have := of_decide_eq_false hge; omega
      rw [hi2, List.drop_length, List.flatMap_nil, List.append_nil] at he
      subst he
      simp only [hge]
      simp only [WW, partV, eqCells, eqLf, minV, maxV, ifcV, zaa, zab, zac, zad, zae, zaf, zag, zah, zai, ofConst, ofConst1, List.replicate, zaj, zak, loadOp, Go.Abs.loadCells, binV, zal, pickV, zam, zan, zao, zap, zaq, zar, zas, zat, zau, outR, resAll, resOne, zav, zaw, zax, zay, zaz, zba, zbb, zbc, zbd, zbe, zbf, zbg, zbh, zbi, zbj, zbk, storeOp, storeCell, overlay, zbl, zbm, zbn, lookupOp, keyT, okRes, mapUpdateOp, zbo, zbp, zbq, zbr, zbs, zbt, zbu, Nat.reduceSub, Nat.reduceAdd, Int.reduceLT, Int.reduceLE, Int.reduceAdd, Int.reduceSub, Int.reduceToNat, Int.reduceBEq, Int.reduceBNe, Int.reduceMul, Nat.reduceBEq, Nat.reduceBNe, Nat.reduceLT, Nat.reduceLeDiff, Nat.reduceMul, Nat.reduceEqDiff, WD, effB, effH, isPriv, isHeap, isImm, zbx, zby, zbz, chkO, setD, dslot, zca, zcb, zcc, zcd, ptrCells_some, F39]
      simp [rowV, growsAs, bs_len]
      exact List.take_of_length_le (by rw [bs_len]; exact Nat.le_refl _)
end Go.Proofs.YtgjobbmbbedecaaDoor

/- The document's side: which functions can be told. -/
namespace Go.Proofs.YtgjobbmbbedecaaDoor
open Go Go.Abs Go.Proofs
set_option maxRecDepth 100000
set_option maxHeartbeats 4000000
set_option linter.unusedVariables false
set_option linter.unusedSimpArgs false
theorem right_eq {v : V} {c : FnM} (hq : FnR v c) (hs : fnSm c) (H : Hp) : EW 37 [v] H = some (.ret (.bool (fnOk c)) false, H) := by
  obtain ⟨⟨k1, k2, k3, k4, rfl, q1, q2, q3, q4⟩⟩ := hq
  obtain ⟨s1, s2, s3, s4⟩ := hs
  have a1 := fun st => (q1 []).shutIn st
  have a2 := fun st => (q2 []).shutIn st
  have a3 := fun st => (q3 []).shutIn st
  have a4 := fun st => (q4 []).shutIn st
  have b1 := fun n => (q1 []).clip n
  have b2 := fun n => (q2 []).clip n
  have b3 := fun n => (q3 []).clip n
  have b4 := fun n => (q4 []).clip n
  have c1 := (q1 []).cells1
  have c2 := (q2 []).cells1
  have c3 := (q3 []).cells1
  have c4 := (q4 []).cells1
  have d1 := (q1 []).ok
  have d2 := (q2 []).ok
  have d3 := (q3 []).ok
  have d4 := (q4 []).ok
  have hnw := numbersW q1 (by omega)
  have lm2 : (c.caps.map capV).length = c.caps.length := List.length_map ..
  have lm3 : (c.code.map inV).length = c.code.length := List.length_map ..
  have lm4 : (c.tries.map tryV).length = c.tries.length := List.length_map ..
  refine eqOf (runs f37 b37 r37 n37 _ _ ?_)
  simp only [bodyOf, Tryd.f37, Option.getD_some]
  cases h1 : plain c.params with
  | false =>
    simp only [WW, partV, eqCells, eqLf, minV, maxV, ifcV, zaa, zab, zac, zad, zae, zaf, zag, zah, zai, ofConst, ofConst1, List.replicate, zaj, zak, loadOp, Go.Abs.loadCells, binV, zal, pickV, zam, zan, zao, zap, zaq, zar, zas, zat, zau, outR, resAll, resOne, zav, zaw, zax, zay, zaz, zba, zbb, zbc, zbd, zbe, zbf, zbg, zbh, zbi, zbj, zbk, storeOp, storeCell, overlay, zbl, zbm, zbn, lookupOp, keyT, okRes, mapUpdateOp, zbo, zbp, zbq, zbr, zbs, zbt, zbu, Nat.reduceSub, Nat.reduceAdd, Int.reduceLT, Int.reduceLE, Int.reduceAdd, Int.reduceSub, Int.reduceToNat, Int.reduceBEq, Int.reduceBNe, Int.reduceMul, Nat.reduceBEq, Nat.reduceBNe, Nat.reduceLT, Nat.reduceLeDiff, Nat.reduceMul, Nat.reduceEqDiff, WD, effB, effH, isPriv, isHeap, isImm, zbx, zby, zbz, chkO, setD, dslot, zca, zcb, zcc, zcd, ptrCells_some, F37, a1, a2, a3, a4, c1, c2, c3, c4, d1, d2, d3, d4, plainW, h1]
    simp [fnOk, h1]
  | true =>
  cases h2 : plain c.slots with
  | false =>
    simp only [WW, partV, eqCells, eqLf, minV, maxV, ifcV, zaa, zab, zac, zad, zae, zaf, zag, zah, zai, ofConst, ofConst1, List.replicate, zaj, zak, loadOp, Go.Abs.loadCells, binV, zal, pickV, zam, zan, zao, zap, zaq, zar, zas, zat, zau, outR, resAll, resOne, zav, zaw, zax, zay, zaz, zba, zbb, zbc, zbd, zbe, zbf, zbg, zbh, zbi, zbj, zbk, storeOp, storeCell, overlay, zbl, zbm, zbn, lookupOp, keyT, okRes, mapUpdateOp, zbo, zbp, zbq, zbr, zbs, zbt, zbu, Nat.reduceSub, Nat.reduceAdd, Int.reduceLT, Int.reduceLE, Int.reduceAdd, Int.reduceSub, Int.reduceToNat, Int.reduceBEq, Int.reduceBNe, Int.reduceMul, Nat.reduceBEq, Nat.reduceBNe, Nat.reduceLT, Nat.reduceLeDiff, Nat.reduceMul, Nat.reduceEqDiff, WD, effB, effH, isPriv, isHeap, isImm, zbx, zby, zbz, chkO, setD, dslot, zca, zcb, zcc, zcd, ptrCells_some, F37, a1, a2, a3, a4, c1, c2, c3, c4, d1, d2, d3, d4, plainW, h1, h2]
    simp [fnOk, h1, h2]
  | true =>
  cases h3 : c.boxes.all plain with
  | false =>
    simp only [WW, partV, eqCells, eqLf, minV, maxV, ifcV, zaa, zab, zac, zad, zae, zaf, zag, zah, zai, ofConst, ofConst1, List.replicate, zaj, zak, loadOp, Go.Abs.loadCells, binV, zal, pickV, zam, zan, zao, zap, zaq, zar, zas, zat, zau, outR, resAll, resOne, zav, zaw, zax, zay, zaz, zba, zbb, zbc, zbd, zbe, zbf, zbg, zbh, zbi, zbj, zbk, storeOp, storeCell, overlay, zbl, zbm, zbn, lookupOp, keyT, okRes, mapUpdateOp, zbo, zbp, zbq, zbr, zbs, zbt, zbu, Nat.reduceSub, Nat.reduceAdd, Int.reduceLT, Int.reduceLE, Int.reduceAdd, Int.reduceSub, Int.reduceToNat, Int.reduceBEq, Int.reduceBNe, Int.reduceMul, Nat.reduceBEq, Nat.reduceBNe, Nat.reduceLT, Nat.reduceLeDiff, Nat.reduceMul, Nat.reduceEqDiff, WD, effB, effH, isPriv, isHeap, isImm, zbx, zby, zbz, chkO, setD, dslot, zca, zcb, zcc, zcd, ptrCells_some, F37, a1, a2, a3, a4, c1, c2, c3, c4, d1, d2, d3, d4, plainW, hnw, h1, h2, h3]
    simp [fnOk, h1, h2, h3]
  | true =>
  have hfn : fnOk c = (c.caps.all capOk && (c.code.all inOk && c.tries.all tryOk)) := by simp only [fnOk, h1, h2, h3, Bool.true_and]
  rw [hfn]
  simp only [WW, partV, eqCells, eqLf, minV, maxV, ifcV, zaa, zab, zac, zad, zae, zaf, zag, zah, zai, ofConst, ofConst1, List.replicate, zaj, zak, loadOp, Go.Abs.loadCells, binV, zal, pickV, zam, zan, zao, zap, zaq, zar, zas, zat, zau, outR, resAll, resOne, zav, zaw, zax, zay, zaz, zba, zbb, zbc, zbd, zbe, zbf, zbg, zbh, zbi, zbj, zbk, storeOp, storeCell, overlay, zbl, zbm, zbn, lookupOp, keyT, okRes, mapUpdateOp, zbo, zbp, zbq, zbr, zbs, zbt, zbu, Nat.reduceSub, Nat.reduceAdd, Int.reduceLT, Int.reduceLE, Int.reduceAdd, Int.reduceSub, Int.reduceToNat, Int.reduceBEq, Int.reduceBNe, Int.reduceMul, Nat.reduceBEq, Nat.reduceBNe, Nat.reduceLT, Nat.reduceLeDiff, Nat.reduceMul, Nat.reduceEqDiff, WD, effB, effH, isPriv, isHeap, isImm, zbx, zby, zbz, chkO, setD, dslot, zca, zcb, zcc, zcd, ptrCells_some, F37, a1, a2, a3, a4, c1, c2, c3, c4, d1, d2, d3, d4, plainW, hnw, h1, h2, h3]
  refine wC_loop _ (fun k st' H' => ∃ (i : Nat), st' = ⟨L37_4 (.box 0) (.v (.int .i64 i)), [[.int .i64 c.params, .int .i64 c.slots, k1, k2, k3, k4]], []⟩ ∧ H' = H ∧ i ≤ c.caps.length ∧ k = c.caps.length - i ∧ (c.caps.drop i).all capOk = c.caps.all capOk) c.caps.length ⟨0, ?_, rfl, by omega, by omega, rfl⟩ ?_
  · simp only [WN, firstReg, growAll, zbv, zbw, norm, killS, zag, zah, zaa, zab, zbl, zat, zad, growOne, zae, zaf, zac, zas, zak, Nat.reduceLT, Nat.reduceAdd, zbj, zav, F37, L37_4, b1, b2, b3, b4]
    rfl
  · rintro k st' H ⟨i, rfl, rfl, hi, rfl, he⟩
    simp only [L37_4]
    simp only [WW, partV, eqCells, eqLf, minV, maxV, ifcV, zaa, zab, zac, zad, zae, zaf, zag, zah, zai, ofConst, ofConst1, List.replicate, zaj, zak, loadOp, Go.Abs.loadCells, binV, zal, pickV, zam, zan, zao, zap, zaq, zar, zas, zat, zau, outR, resAll, resOne, zav, zaw, zax, zay, zaz, zba, zbb, zbc, zbd, zbe, zbf, zbg, zbh, zbi, zbj, zbk, storeOp, storeCell, overlay, zbl, zbm, zbn, lookupOp, keyT, okRes, mapUpdateOp, zbo, zbp, zbq, zbr, zbs, zbt, zbu, Nat.reduceSub, Nat.reduceAdd, Int.reduceLT, Int.reduceLE, Int.reduceAdd, Int.reduceSub, Int.reduceToNat, Int.reduceBEq, Int.reduceBNe, Int.reduceMul, Nat.reduceBEq, Nat.reduceBNe, Nat.reduceLT, Nat.reduceLeDiff, Nat.reduceMul, Nat.reduceEqDiff, WD, effB, effH, isPriv, isHeap, isImm, zbx, zby, zbz, chkO, setD, dslot, zca, zcb, zcc, zcd, ptrCells_some, F37, a2, (q2 H).len, lm2]
    refine cSplit (fun hlt => ?_) (fun hge => ?_)
    · have hi2 : i < c.caps.length := by have := of_decide_eq_true hlt; omega
      have hs : c.caps[i]? = some c.caps[i] := List.getElem?_eq_getElem hi2
      generalize c.caps[i] = y at hs
      rw [drop_get hs, List.all_cons] at he
      simp only [hlt]
      have hat := (q2 H).at_ (sz := 2) (i := i) (e := .agg [.int .i64 y.1, .int .i64 y.2]) (by rw [List.getElem?_map, hs]; rfl) rfl
      cases g0 : plain y.1 with
      | false =>
        have hf : capOk y = false := by simp [capOk, g0]
        rw [hf, Bool.false_and] at he
        simp only [WW, partV, eqCells, eqLf, minV, maxV, ifcV, zaa, zab, zac, zad, zae, zaf, zag, zah, zai, ofConst, ofConst1, List.replicate, zaj, zak, loadOp, Go.Abs.loadCells, binV, zal, pickV, zam, zan, zao, zap, zaq, zar, zas, zat, zau, outR, resAll, resOne, zav, zaw, zax, zay, zaz, zba, zbb, zbc, zbd, zbe, zbf, zbg, zbh, zbi, zbj, zbk, storeOp, storeCell, overlay, zbl, zbm, zbn, lookupOp, keyT, okRes, mapUpdateOp, zbo, zbp, zbq, zbr, zbs, zbt, zbu, Nat.reduceSub, Nat.reduceAdd, Int.reduceLT, Int.reduceLE, Int.reduceAdd, Int.reduceSub, Int.reduceToNat, Int.reduceBEq, Int.reduceBNe, Int.reduceMul, Nat.reduceBEq, Nat.reduceBNe, Nat.reduceLT, Nat.reduceLeDiff, Nat.reduceMul, Nat.reduceEqDiff, WD, effB, effH, isPriv, isHeap, isImm, zbx, zby, zbz, chkO, setD, dslot, zca, zcb, zcc, zcd, ptrCells_some, F37, a2, hat.at1 (q2 H), hat.cells, hat.fa, plainW, sgnW, g0]
        simp only [← he, Bool.false_and, Bool.and_false]
      | true =>
      cases g1 : plain y.2 with
      | false =>
        have hf : capOk y = false := by simp [capOk, g0, g1]
        rw [hf, Bool.false_and] at he
        simp only [WW, partV, eqCells, eqLf, minV, maxV, ifcV, zaa, zab, zac, zad, zae, zaf, zag, zah, zai, ofConst, ofConst1, List.replicate, zaj, zak, loadOp, Go.Abs.loadCells, binV, zal, pickV, zam, zan, zao, zap, zaq, zar, zas, zat, zau, outR, resAll, resOne, zav, zaw, zax, zay, zaz, zba, zbb, zbc, zbd, zbe, zbf, zbg, zbh, zbi, zbj, zbk, storeOp, storeCell, overlay, zbl, zbm, zbn, lookupOp, keyT, okRes, mapUpdateOp, zbo, zbp, zbq, zbr, zbs, zbt, zbu, Nat.reduceSub, Nat.reduceAdd, Int.reduceLT, Int.reduceLE, Int.reduceAdd, Int.reduceSub, Int.reduceToNat, Int.reduceBEq, Int.reduceBNe, Int.reduceMul, Nat.reduceBEq, Nat.reduceBNe, Nat.reduceLT, Nat.reduceLeDiff, Nat.reduceMul, Nat.reduceEqDiff, WD, effB, effH, isPriv, isHeap, isImm, zbx, zby, zbz, chkO, setD, dslot, zca, zcb, zcc, zcd, ptrCells_some, F37, a2, hat.at1 (q2 H), hat.cells, hat.fa, plainW, sgnW, g0, g1]
        simp only [← he, Bool.false_and, Bool.and_false]
      | true =>
      have hf : capOk y = true := by simp [capOk, g0, g1]
      rw [hf, Bool.true_and] at he
      simp only [WW, partV, eqCells, eqLf, minV, maxV, ifcV, zaa, zab, zac, zad, zae, zaf, zag, zah, zai, ofConst, ofConst1, List.replicate, zaj, zak, loadOp, Go.Abs.loadCells, binV, zal, pickV, zam, zan, zao, zap, zaq, zar, zas, zat, zau, outR, resAll, resOne, zav, zaw, zax, zay, zaz, zba, zbb, zbc, zbd, zbe, zbf, zbg, zbh, zbi, zbj, zbk, storeOp, storeCell, overlay, zbl, zbm, zbn, lookupOp, keyT, okRes, mapUpdateOp, zbo, zbp, zbq, zbr, zbs, zbt, zbu, Nat.reduceSub, Nat.reduceAdd, Int.reduceLT, Int.reduceLE, Int.reduceAdd, Int.reduceSub, Int.reduceToNat, Int.reduceBEq, Int.reduceBNe, Int.reduceMul, Nat.reduceBEq, Nat.reduceBNe, Nat.reduceLT, Nat.reduceLeDiff, Nat.reduceMul, Nat.reduceEqDiff, WD, effB, effH, isPriv, isHeap, isImm, zbx, zby, zbz, chkO, setD, dslot, zca, zcb, zcc, zcd, ptrCells_some, F37, a2, hat.at1 (q2 H), hat.cells, hat.fa, plainW, sgnW, g0, g1]
      refine ⟨c.caps.length - (i + 1), by omega, i + 1, ?_, by omega, rfl, he⟩
      simp only [WN, firstReg, growAll, zbv, zbw, norm, killS, zag, zah, zaa, zab, zbl, zat, zad, growOne, zae, zaf, zac, zas, zak, Nat.reduceLT, Nat.reduceAdd, zbj, zav, F37, b1, b2, b3, b4]
      rw [IntWalk.i64_in ((i : Int) + 1) (by omega)]; rfl
    · have hi2 : i = c.caps.length := by have := of_decide_eq_false hge; omega
      rw [hi2, List.drop_length, List.all_nil] at he
      simp only [hge]
      rw [← he, Bool.true_and]
      simp only [WW, partV, eqCells, eqLf, minV, maxV, ifcV, zaa, zab, zac, zad, zae, zaf, zag, zah, zai, ofConst, ofConst1, List.replicate, zaj, zak, loadOp, Go.Abs.loadCells, binV, zal, pickV, zam, zan, zao, zap, zaq, zar, zas, zat, zau, outR, resAll, resOne, zav, zaw, zax, zay, zaz, zba, zbb, zbc, zbd, zbe, zbf, zbg, zbh, zbi, zbj, zbk, storeOp, storeCell, overlay, zbl, zbm, zbn, lookupOp, keyT, okRes, mapUpdateOp, zbo, zbp, zbq, zbr, zbs, zbt, zbu, Nat.reduceSub, Nat.reduceAdd, Int.reduceLT, Int.reduceLE, Int.reduceAdd, Int.reduceSub, Int.reduceToNat, Int.reduceBEq, Int.reduceBNe, Int.reduceMul, Nat.reduceBEq, Nat.reduceBNe, Nat.reduceLT, Nat.reduceLeDiff, Nat.reduceMul, Nat.reduceEqDiff, WD, effB, effH, isPriv, isHeap, isImm, zbx, zby, zbz, chkO, setD, dslot, zca, zcb, zcc, zcd, ptrCells_some, F37]
      refine wC_loop _ (fun k st' H' => ∃ (i : Nat), st' = ⟨L37_9 (.box 0) (.v (.int .i64 i)), [[.int .i64 c.params, .int .i64 c.slots, k1, k2, k3, k4]], []⟩ ∧ H' = H ∧ i ≤ c.code.length ∧ k = c.code.length - i ∧ (c.code.drop i).all inOk = c.code.all inOk) c.code.length ⟨0, ?_, rfl, by omega, by omega, rfl⟩ ?_
      · simp only [WN, firstReg, growAll, zbv, zbw, norm, killS, zag, zah, zaa, zab, zbl, zat, zad, growOne, zae, zaf, zac, zas, zak, Nat.reduceLT, Nat.reduceAdd, zbj, zav, F37, L37_9, b1, b2, b3, b4]
        rfl
      · rintro k st' H ⟨i, rfl, rfl, hi, rfl, he⟩
        simp only [L37_9]
        simp only [WW, partV, eqCells, eqLf, minV, maxV, ifcV, zaa, zab, zac, zad, zae, zaf, zag, zah, zai, ofConst, ofConst1, List.replicate, zaj, zak, loadOp, Go.Abs.loadCells, binV, zal, pickV, zam, zan, zao, zap, zaq, zar, zas, zat, zau, outR, resAll, resOne, zav, zaw, zax, zay, zaz, zba, zbb, zbc, zbd, zbe, zbf, zbg, zbh, zbi, zbj, zbk, storeOp, storeCell, overlay, zbl, zbm, zbn, lookupOp, keyT, okRes, mapUpdateOp, zbo, zbp, zbq, zbr, zbs, zbt, zbu, Nat.reduceSub, Nat.reduceAdd, Int.reduceLT, Int.reduceLE, Int.reduceAdd, Int.reduceSub, Int.reduceToNat, Int.reduceBEq, Int.reduceBNe, Int.reduceMul, Nat.reduceBEq, Nat.reduceBNe, Nat.reduceLT, Nat.reduceLeDiff, Nat.reduceMul, Nat.reduceEqDiff, WD, effB, effH, isPriv, isHeap, isImm, zbx, zby, zbz, chkO, setD, dslot, zca, zcb, zcc, zcd, ptrCells_some, F37, a3, (q3 H).len, lm3]
        refine cSplit (fun hlt => ?_) (fun hge => ?_)
        · have hi2 : i < c.code.length := by have := of_decide_eq_true hlt; omega
          have hs : c.code[i]? = some c.code[i] := List.getElem?_eq_getElem hi2
          generalize c.code[i] = y at hs
          rw [drop_get hs, List.all_cons] at he
          simp only [hlt]
          have hat := (q3 H).at_ (sz := 3) (i := i) (e := .agg [.int .i64 y.1, .int .i64 y.2.1, .int .i64 y.2.2]) (by rw [List.getElem?_map, hs]; rfl) rfl
          cases g0 : plain y.1 with
          | false =>
            have hf : inOk y = false := by simp [inOk, g0]
            rw [hf, Bool.false_and] at he
            simp only [WW, partV, eqCells, eqLf, minV, maxV, ifcV, zaa, zab, zac, zad, zae, zaf, zag, zah, zai, ofConst, ofConst1, List.replicate, zaj, zak, loadOp, Go.Abs.loadCells, binV, zal, pickV, zam, zan, zao, zap, zaq, zar, zas, zat, zau, outR, resAll, resOne, zav, zaw, zax, zay, zaz, zba, zbb, zbc, zbd, zbe, zbf, zbg, zbh, zbi, zbj, zbk, storeOp, storeCell, overlay, zbl, zbm, zbn, lookupOp, keyT, okRes, mapUpdateOp, zbo, zbp, zbq, zbr, zbs, zbt, zbu, Nat.reduceSub, Nat.reduceAdd, Int.reduceLT, Int.reduceLE, Int.reduceAdd, Int.reduceSub, Int.reduceToNat, Int.reduceBEq, Int.reduceBNe, Int.reduceMul, Nat.reduceBEq, Nat.reduceBNe, Nat.reduceLT, Nat.reduceLeDiff, Nat.reduceMul, Nat.reduceEqDiff, WD, effB, effH, isPriv, isHeap, isImm, zbx, zby, zbz, chkO, setD, dslot, zca, zcb, zcc, zcd, ptrCells_some, F37, a3, hat.at1 (q3 H), hat.cells, hat.fa, plainW, sgnW, g0]
            simp only [← he, Bool.false_and, Bool.and_false]
          | true =>
          cases g1 : signedOk y.2.1 with
          | false =>
            have hf : inOk y = false := by simp [inOk, g0, g1]
            rw [hf, Bool.false_and] at he
            simp only [WW, partV, eqCells, eqLf, minV, maxV, ifcV, zaa, zab, zac, zad, zae, zaf, zag, zah, zai, ofConst, ofConst1, List.replicate, zaj, zak, loadOp, Go.Abs.loadCells, binV, zal, pickV, zam, zan, zao, zap, zaq, zar, zas, zat, zau, outR, resAll, resOne, zav, zaw, zax, zay, zaz, zba, zbb, zbc, zbd, zbe, zbf, zbg, zbh, zbi, zbj, zbk, storeOp, storeCell, overlay, zbl, zbm, zbn, lookupOp, keyT, okRes, mapUpdateOp, zbo, zbp, zbq, zbr, zbs, zbt, zbu, Nat.reduceSub, Nat.reduceAdd, Int.reduceLT, Int.reduceLE, Int.reduceAdd, Int.reduceSub, Int.reduceToNat, Int.reduceBEq, Int.reduceBNe, Int.reduceMul, Nat.reduceBEq, Nat.reduceBNe, Nat.reduceLT, Nat.reduceLeDiff, Nat.reduceMul, Nat.reduceEqDiff, WD, effB, effH, isPriv, isHeap, isImm, zbx, zby, zbz, chkO, setD, dslot, zca, zcb, zcc, zcd, ptrCells_some, F37, a3, hat.at1 (q3 H), hat.cells, hat.fa, plainW, sgnW, g0, g1]
            simp only [← he, Bool.false_and, Bool.and_false]
          | true =>
          cases g2 : signedOk y.2.2 with
          | false =>
            have hf : inOk y = false := by simp [inOk, g0, g1, g2]
            rw [hf, Bool.false_and] at he
            simp only [WW, partV, eqCells, eqLf, minV, maxV, ifcV, zaa, zab, zac, zad, zae, zaf, zag, zah, zai, ofConst, ofConst1, List.replicate, zaj, zak, loadOp, Go.Abs.loadCells, binV, zal, pickV, zam, zan, zao, zap, zaq, zar, zas, zat, zau, outR, resAll, resOne, zav, zaw, zax, zay, zaz, zba, zbb, zbc, zbd, zbe, zbf, zbg, zbh, zbi, zbj, zbk, storeOp, storeCell, overlay, zbl, zbm, zbn, lookupOp, keyT, okRes, mapUpdateOp, zbo, zbp, zbq, zbr, zbs, zbt, zbu, Nat.reduceSub, Nat.reduceAdd, Int.reduceLT, Int.reduceLE, Int.reduceAdd, Int.reduceSub, Int.reduceToNat, Int.reduceBEq, Int.reduceBNe, Int.reduceMul, Nat.reduceBEq, Nat.reduceBNe, Nat.reduceLT, Nat.reduceLeDiff, Nat.reduceMul, Nat.reduceEqDiff, WD, effB, effH, isPriv, isHeap, isImm, zbx, zby, zbz, chkO, setD, dslot, zca, zcb, zcc, zcd, ptrCells_some, F37, a3, hat.at1 (q3 H), hat.cells, hat.fa, plainW, sgnW, g0, g1, g2]
            simp only [← he, Bool.false_and, Bool.and_false]
          | true =>
          have hf : inOk y = true := by simp [inOk, g0, g1, g2]
          rw [hf, Bool.true_and] at he
          simp only [WW, partV, eqCells, eqLf, minV, maxV, ifcV, zaa, zab, zac, zad, zae, zaf, zag, zah, zai, ofConst, ofConst1, List.replicate, zaj, zak, loadOp, Go.Abs.loadCells, binV, zal, pickV, zam, zan, zao, zap, zaq, zar, zas, zat, zau, outR, resAll, resOne, zav, zaw, zax, zay, zaz, zba, zbb, zbc, zbd, zbe, zbf, zbg, zbh, zbi, zbj, zbk, storeOp, storeCell, overlay, zbl, zbm, zbn, lookupOp, keyT, okRes, mapUpdateOp, zbo, zbp, zbq, zbr, zbs, zbt, zbu, Nat.reduceSub, Nat.reduceAdd, Int.reduceLT, Int.reduceLE, Int.reduceAdd, Int.reduceSub, Int.reduceToNat, Int.reduceBEq, Int.reduceBNe, Int.reduceMul, Nat.reduceBEq, Nat.reduceBNe, Nat.reduceLT, Nat.reduceLeDiff, Nat.reduceMul, Nat.reduceEqDiff, WD, effB, effH, isPriv, isHeap, isImm, zbx, zby, zbz, chkO, setD, dslot, zca, zcb, zcc, zcd, ptrCells_some, F37, a3, hat.at1 (q3 H), hat.cells, hat.fa, plainW, sgnW, g0, g1, g2]
          refine ⟨c.code.length - (i + 1), by omega, i + 1, ?_, by omega, rfl, he⟩
          simp only [WN, firstReg, growAll, zbv, zbw, norm, killS, zag, zah, zaa, zab, zbl, zat, zad, growOne, zae, zaf, zac, zas, zak, Nat.reduceLT, Nat.reduceAdd, zbj, zav, F37, b1, b2, b3, b4]
          rw [IntWalk.i64_in ((i : Int) + 1) (by omega)]; rfl
        · have hi2 : i = c.code.length := by have := of_decide_eq_false hge; omega
          rw [hi2, List.drop_length, List.all_nil] at he
          simp only [hge]
          rw [← he, Bool.true_and]
          simp only [WW, partV, eqCells, eqLf, minV, maxV, ifcV, zaa, zab, zac, zad, zae, zaf, zag, zah, zai, ofConst, ofConst1, List.replicate, zaj, zak, loadOp, Go.Abs.loadCells, binV, zal, pickV, zam, zan, zao, zap, zaq, zar, zas, zat, zau, outR, resAll, resOne, zav, zaw, zax, zay, zaz, zba, zbb, zbc, zbd, zbe, zbf, zbg, zbh, zbi, zbj, zbk, storeOp, storeCell, overlay, zbl, zbm, zbn, lookupOp, keyT, okRes, mapUpdateOp, zbo, zbp, zbq, zbr, zbs, zbt, zbu, Nat.reduceSub, Nat.reduceAdd, Int.reduceLT, Int.reduceLE, Int.reduceAdd, Int.reduceSub, Int.reduceToNat, Int.reduceBEq, Int.reduceBNe, Int.reduceMul, Nat.reduceBEq, Nat.reduceBNe, Nat.reduceLT, Nat.reduceLeDiff, Nat.reduceMul, Nat.reduceEqDiff, WD, effB, effH, isPriv, isHeap, isImm, zbx, zby, zbz, chkO, setD, dslot, zca, zcb, zcc, zcd, ptrCells_some, F37]
          refine wC_loop _ (fun k st' H' => ∃ (i : Nat), st' = ⟨L37_14 (.box 0) (.v (.int .i64 i)), [[.int .i64 c.params, .int .i64 c.slots, k1, k2, k3, k4]], []⟩ ∧ H' = H ∧ i ≤ c.tries.length ∧ k = c.tries.length - i ∧ (c.tries.drop i).all tryOk = c.tries.all tryOk) c.tries.length ⟨0, ?_, rfl, by omega, by omega, rfl⟩ ?_
          · simp only [WN, firstReg, growAll, zbv, zbw, norm, killS, zag, zah, zaa, zab, zbl, zat, zad, growOne, zae, zaf, zac, zas, zak, Nat.reduceLT, Nat.reduceAdd, zbj, zav, F37, L37_14, b1, b2, b3, b4]
            rfl
          · rintro k st' H ⟨i, rfl, rfl, hi, rfl, he⟩
            simp only [L37_14]
            simp only [WW, partV, eqCells, eqLf, minV, maxV, ifcV, zaa, zab, zac, zad, zae, zaf, zag, zah, zai, ofConst, ofConst1, List.replicate, zaj, zak, loadOp, Go.Abs.loadCells, binV, zal, pickV, zam, zan, zao, zap, zaq, zar, zas, zat, zau, outR, resAll, resOne, zav, zaw, zax, zay, zaz, zba, zbb, zbc, zbd, zbe, zbf, zbg, zbh, zbi, zbj, zbk, storeOp, storeCell, overlay, zbl, zbm, zbn, lookupOp, keyT, okRes, mapUpdateOp, zbo, zbp, zbq, zbr, zbs, zbt, zbu, Nat.reduceSub, Nat.reduceAdd, Int.reduceLT, Int.reduceLE, Int.reduceAdd, Int.reduceSub, Int.reduceToNat, Int.reduceBEq, Int.reduceBNe, Int.reduceMul, Nat.reduceBEq, Nat.reduceBNe, Nat.reduceLT, Nat.reduceLeDiff, Nat.reduceMul, Nat.reduceEqDiff, WD, effB, effH, isPriv, isHeap, isImm, zbx, zby, zbz, chkO, setD, dslot, zca, zcb, zcc, zcd, ptrCells_some, F37, a4, (q4 H).len, lm4]
            refine cSplit (fun hlt => ?_) (fun hge => ?_)
            · have hi2 : i < c.tries.length := by have := of_decide_eq_true hlt; omega
              have hs : c.tries[i]? = some c.tries[i] := List.getElem?_eq_getElem hi2
              generalize c.tries[i] = y at hs
              rw [drop_get hs, List.all_cons] at he
              simp only [hlt]
              have hat := (q4 H).at_ (sz := 4) (i := i) (e := .agg [.int .i64 y.1, .int .i64 y.2.1, .int .i64 y.2.2.1, .int .i64 y.2.2.2]) (by rw [List.getElem?_map, hs]; rfl) rfl
              cases g0 : plain y.1 with
              | false =>
                have hf : tryOk y = false := by simp [tryOk, g0]
                rw [hf, Bool.false_and] at he
                simp only [WW, partV, eqCells, eqLf, minV, maxV, ifcV, zaa, zab, zac, zad, zae, zaf, zag, zah, zai, ofConst, ofConst1, List.replicate, zaj, zak, loadOp, Go.Abs.loadCells, binV, zal, pickV, zam, zan, zao, zap, zaq, zar, zas, zat, zau, outR, resAll, resOne, zav, zaw, zax, zay, zaz, zba, zbb, zbc, zbd, zbe, zbf, zbg, zbh, zbi, zbj, zbk, storeOp, storeCell, overlay, zbl, zbm, zbn, lookupOp, keyT, okRes, mapUpdateOp, zbo, zbp, zbq, zbr, zbs, zbt, zbu, Nat.reduceSub, Nat.reduceAdd, Int.reduceLT, Int.reduceLE, Int.reduceAdd, Int.reduceSub, Int.reduceToNat, Int.reduceBEq, Int.reduceBNe, Int.reduceMul, Nat.reduceBEq, Nat.reduceBNe, Nat.reduceLT, Nat.reduceLeDiff, Nat.reduceMul, Nat.reduceEqDiff, WD, effB, effH, isPriv, isHeap, isImm, zbx, zby, zbz, chkO, setD, dslot, zca, zcb, zcc, zcd, ptrCells_some, F37, a4, hat.at1 (q4 H), hat.cells, hat.fa, plainW, sgnW, g0]
                simp only [← he, Bool.false_and, Bool.and_false]
              | true =>
              cases g1 : plain y.2.1 with
              | false =>
                have hf : tryOk y = false := by simp [tryOk, g0, g1]
                rw [hf, Bool.false_and] at he
                simp only [WW, partV, eqCells, eqLf, minV, maxV, ifcV, zaa, zab, zac, zad, zae, zaf, zag, zah, zai, ofConst, ofConst1, List.replicate, zaj, zak, loadOp, Go.Abs.loadCells, binV, zal, pickV, zam, zan, zao, zap, zaq, zar, zas, zat, zau, outR, resAll, resOne, zav, zaw, zax, zay, zaz, zba, zbb, zbc, zbd, zbe, zbf, zbg, zbh, zbi, zbj, zbk, storeOp, storeCell, overlay, zbl, zbm, zbn, lookupOp, keyT, okRes, mapUpdateOp, zbo, zbp, zbq, zbr, zbs, zbt, zbu, Nat.reduceSub, Nat.reduceAdd, Int.reduceLT, Int.reduceLE, Int.reduceAdd, Int.reduceSub, Int.reduceToNat, Int.reduceBEq, Int.reduceBNe, Int.reduceMul, Nat.reduceBEq, Nat.reduceBNe, Nat.reduceLT, Nat.reduceLeDiff, Nat.reduceMul, Nat.reduceEqDiff, WD, effB, effH, isPriv, isHeap, isImm, zbx, zby, zbz, chkO, setD, dslot, zca, zcb, zcc, zcd, ptrCells_some, F37, a4, hat.at1 (q4 H), hat.cells, hat.fa, plainW, sgnW, g0, g1]
                simp only [← he, Bool.false_and, Bool.and_false]
              | true =>
              cases g2 : plain y.2.2.1 with
              | false =>
                have hf : tryOk y = false := by simp [tryOk, g0, g1, g2]
                rw [hf, Bool.false_and] at he
                simp only [WW, partV, eqCells, eqLf, minV, maxV, ifcV, zaa, zab, zac, zad, zae, zaf, zag, zah, zai, ofConst, ofConst1, List.replicate, zaj, zak, loadOp, Go.Abs.loadCells, binV, zal, pickV, zam, zan, zao, zap, zaq, zar, zas, zat, zau, outR, resAll, resOne, zav, zaw, zax, zay, zaz, zba, zbb, zbc, zbd, zbe, zbf, zbg, zbh, zbi, zbj, zbk, storeOp, storeCell, overlay, zbl, zbm, zbn, lookupOp, keyT, okRes, mapUpdateOp, zbo, zbp, zbq, zbr, zbs, zbt, zbu, Nat.reduceSub, Nat.reduceAdd, Int.reduceLT, Int.reduceLE, Int.reduceAdd, Int.reduceSub, Int.reduceToNat, Int.reduceBEq, Int.reduceBNe, Int.reduceMul, Nat.reduceBEq, Nat.reduceBNe, Nat.reduceLT, Nat.reduceLeDiff, Nat.reduceMul, Nat.reduceEqDiff, WD, effB, effH, isPriv, isHeap, isImm, zbx, zby, zbz, chkO, setD, dslot, zca, zcb, zcc, zcd, ptrCells_some, F37, a4, hat.at1 (q4 H), hat.cells, hat.fa, plainW, sgnW, g0, g1, g2]
                simp only [← he, Bool.false_and, Bool.and_false]
              | true =>
              cases g3 : plain y.2.2.2 with
              | false =>
                have hf : tryOk y = false := by simp [tryOk, g0, g1, g2, g3]
                rw [hf, Bool.false_and] at he
                simp only [WW, partV, eqCells, eqLf, minV, maxV, ifcV, zaa, zab, zac, zad, zae, zaf, zag, zah, zai, ofConst, ofConst1, List.replicate, zaj, zak, loadOp, Go.Abs.loadCells, binV, zal, pickV, zam, zan, zao, zap, zaq, zar, zas, zat, zau, outR, resAll, resOne, zav, zaw, zax, zay, zaz, zba, zbb, zbc, zbd, zbe, zbf, zbg, zbh, zbi, zbj, zbk, storeOp, storeCell, overlay, zbl, zbm, zbn, lookupOp, keyT, okRes, mapUpdateOp, zbo, zbp, zbq, zbr, zbs, zbt, zbu, Nat.reduceSub, Nat.reduceAdd, Int.reduceLT, Int.reduceLE, Int.reduceAdd, Int.reduceSub, Int.reduceToNat, Int.reduceBEq, Int.reduceBNe, Int.reduceMul, Nat.reduceBEq, Nat.reduceBNe, Nat.reduceLT, Nat.reduceLeDiff, Nat.reduceMul, Nat.reduceEqDiff, WD, effB, effH, isPriv, isHeap, isImm, zbx, zby, zbz, chkO, setD, dslot, zca, zcb, zcc, zcd, ptrCells_some, F37, a4, hat.at1 (q4 H), hat.cells, hat.fa, plainW, sgnW, g0, g1, g2, g3]
                simp only [← he, Bool.false_and, Bool.and_false]
              | true =>
              have hf : tryOk y = true := by simp [tryOk, g0, g1, g2, g3]
              rw [hf, Bool.true_and] at he
              simp only [WW, partV, eqCells, eqLf, minV, maxV, ifcV, zaa, zab, zac, zad, zae, zaf, zag, zah, zai, ofConst, ofConst1, List.replicate, zaj, zak, loadOp, Go.Abs.loadCells, binV, zal, pickV, zam, zan, zao, zap, zaq, zar, zas, zat, zau, outR, resAll, resOne, zav, zaw, zax, zay, zaz, zba, zbb, zbc, zbd, zbe, zbf, zbg, zbh, zbi, zbj, zbk, storeOp, storeCell, overlay, zbl, zbm, zbn, lookupOp, keyT, okRes, mapUpdateOp, zbo, zbp, zbq, zbr, zbs, zbt, zbu, Nat.reduceSub, Nat.reduceAdd, Int.reduceLT, Int.reduceLE, Int.reduceAdd, Int.reduceSub, Int.reduceToNat, Int.reduceBEq, Int.reduceBNe, Int.reduceMul, Nat.reduceBEq, Nat.reduceBNe, Nat.reduceLT, Nat.reduceLeDiff, Nat.reduceMul, Nat.reduceEqDiff, WD, effB, effH, isPriv, isHeap, isImm, zbx, zby, zbz, chkO, setD, dslot, zca, zcb, zcc, zcd, ptrCells_some, F37, a4, hat.at1 (q4 H), hat.cells, hat.fa, plainW, sgnW, g0, g1, g2, g3]
              refine ⟨c.tries.length - (i + 1), by omega, i + 1, ?_, by omega, rfl, he⟩
              simp only [WN, firstReg, growAll, zbv, zbw, norm, killS, zag, zah, zaa, zab, zbl, zat, zad, growOne, zae, zaf, zac, zas, zak, Nat.reduceLT, Nat.reduceAdd, zbj, zav, F37, b1, b2, b3, b4]
              rw [IntWalk.i64_in ((i : Int) + 1) (by omega)]; rfl
            · have hi2 : i = c.tries.length := by have := of_decide_eq_false hge; omega
              rw [hi2, List.drop_length, List.all_nil] at he
              simp only [hge]
              rw [← he]
              simp only [WW, partV, eqCells, eqLf, minV, maxV, ifcV, zaa, zab, zac, zad, zae, zaf, zag, zah, zai, ofConst, ofConst1, List.replicate, zaj, zak, loadOp, Go.Abs.loadCells, binV, zal, pickV, zam, zan, zao, zap, zaq, zar, zas, zat, zau, outR, resAll, resOne, zav, zaw, zax, zay, zaz, zba, zbb, zbc, zbd, zbe, zbf, zbg, zbh, zbi, zbj, zbk, storeOp, storeCell, overlay, zbl, zbm, zbn, lookupOp, keyT, okRes, mapUpdateOp, zbo, zbp, zbq, zbr, zbs, zbt, zbu, Nat.reduceSub, Nat.reduceAdd, Int.reduceLT, Int.reduceLE, Int.reduceAdd, Int.reduceSub, Int.reduceToNat, Int.reduceBEq, Int.reduceBNe, Int.reduceMul, Nat.reduceBEq, Nat.reduceBNe, Nat.reduceLT, Nat.reduceLeDiff, Nat.reduceMul, Nat.reduceEqDiff, WD, effB, effH, isPriv, isHeap, isImm, zbx, zby, zbz, chkO, setD, dslot, zca, zcb, zcc, zcd, ptrCells_some, F37]
end Go.Proofs.YtgjobbmbbedecaaDoor

/- The document's side: a function's bytes. -/
namespace Go.Proofs.YtgjobbmbbedecaaDoor
open Go Go.Abs Go.Proofs
set_option maxRecDepth 100000
set_option maxHeartbeats 8000000
set_option linter.unusedVariables false
set_option linter.unusedSimpArgs false
theorem appB (acc e : List Nat) (h : acc.length + e.length ≤ 4000000) (s : List Slot) (b : List (List V)) (tl : List LRow) (H : Hp) (d : Nat) :
    appendOp Tryd.prog .priv ⟨s, b, ⟨true, false, bs acc⟩ :: tl⟩ H (some d) 5 (.lr 0 acc.length) (bs e) = some (⟨s.set d (.v (.lr 0 (acc ++ e).length)), b, ⟨true, false, bs (acc ++ e)⟩ :: tl⟩, H) := by
  rw [app_row0 (bs_len _).symm (wide_bs _) (wide_bs _) (by rw [bs_len, bs_len]; omega), bs_len, List.length_append, bs_app]
theorem take_bs (l : List Nat) : (bs l).take l.length = bs l := List.take_of_length_le (by rw [bs_len]; exact Nat.le_refl _)
theorem rfunction_eq {v : V} {c : FnM} (hq : FnR v c) (hs : fnSm c) (hok : fnOk c = true) (H : Hp) : EW 40 [v] H = some (.ret (.rsl (bs (encFn c))) true, H) := by
  have hfl := encFn_len hok hs
  obtain ⟨⟨k1, k2, k3, k4, rfl, q1, q2, q3, q4⟩⟩ := hq
  obtain ⟨s1, s2, s3, s4⟩ := hs
  simp only [fnOk, Bool.and_eq_true] at hok
  obtain ⟨o1, o2, o3, o4, o5, o6⟩ := hok
  have a1 := fun st => (q1 []).shutIn st
  have a2 := fun st => (q2 []).shutIn st
  have a3 := fun st => (q3 []).shutIn st
  have a4 := fun st => (q4 []).shutIn st
  have b1 := fun n => (q1 []).clip n
  have b2 := fun n => (q2 []).clip n
  have b3 := fun n => (q3 []).clip n
  have b4 := fun n => (q4 []).clip n
  have c1 := (q1 []).cells1
  have c2 := (q2 []).cells1
  have c3 := (q3 []).cells1
  have c4 := (q4 []).cells1
  have d1 := (q1 []).ok
  have d2 := (q2 []).ok
  have d3 := (q3 []).ok
  have d4 := (q4 []).ok
  have lm2 : (c.caps.map capV).length = c.caps.length := List.length_map ..
  have lm3 : (c.code.map inV).length = c.code.length := List.length_map ..
  have lm4 : (c.tries.map tryV).length = c.tries.length := List.length_map ..
  have efn : encFn c = ((((((((encI c.params ++ encI c.slots) ++ encL encI c.boxes) ++ encN c.caps.length) ++ c.caps.flatMap encCap) ++ encN c.code.length) ++ c.code.flatMap encIn) ++ encN c.tries.length) ++ c.tries.flatMap encTry) := by
    simp only [encFn, encL, List.append_assoc]
  rw [efn] at hfl ⊢
  simp only [List.length_append] at hfl
  have n1 : ∀ K, wpCall (evW Tryd.prog notes) 38 [.int .i64 c.params] H K = K (.ret (.rsl (bs (encI c.params))) true) H := fun K => wpCall_eq (encI_eq o1 H)
  have n2 : ∀ K, wpCall (evW Tryd.prog notes) 38 [.int .i64 c.slots] H K = K (.ret (.rsl (bs (encI c.slots))) true) H := fun K => wpCall_eq (encI_eq o2 H)
  have n3 : ∀ K, wpCall (evW Tryd.prog notes) 39 [k1] H K = K (.ret (.rsl (bs (encL encI c.boxes))) true) H := fun K => wpCall_eq (list_eq q1 (by omega) o3 H)
  have n4 : ∀ K, wpCall (evW Tryd.prog notes) 38 [.int .i64 (c.caps.length : Nat)] H K = K (.ret (.rsl (bs (encN c.caps.length))) true) H := fun K => wpCall_eq (number_eq _ _ (Nat.lt_succ_self _) H (by omega))
  have n5 : ∀ K, wpCall (evW Tryd.prog notes) 38 [.int .i64 (c.code.length : Nat)] H K = K (.ret (.rsl (bs (encN c.code.length))) true) H := fun K => wpCall_eq (number_eq _ _ (Nat.lt_succ_self _) H (by omega))
  have n6 : ∀ K, wpCall (evW Tryd.prog notes) 38 [.int .i64 (c.tries.length : Nat)] H K = K (.ret (.rsl (bs (encN c.tries.length))) true) H := fun K => wpCall_eq (number_eq _ _ (Nat.lt_succ_self _) H (by omega))
  refine eqOf (runs f40 b40 r40 n40 _ _ ?_)
  simp only [bodyOf, Tryd.f40, Option.getD_some]
  simp only [WW, partV, eqCells, eqLf, minV, maxV, ifcV, zaa, zab, zac, zad, zae, zaf, zag, zah, zai, ofConst, ofConst1, List.replicate, zaj, zak, loadOp, Go.Abs.loadCells, binV, zal, pickV, zam, zan, zao, zap, zaq, zar, zas, zat, zau, outR, resAll, resOne, zav, zaw, zax, zay, zaz, zba, zbb, zbc, zbd, zbe, zbf, zbg, zbh, zbi, zbj, zbk, storeOp, storeCell, overlay, zbl, zbm, zbn, lookupOp, keyT, okRes, mapUpdateOp, zbo, zbp, zbq, zbr, zbs, zbt, zbu, Nat.reduceSub, Nat.reduceAdd, Int.reduceLT, Int.reduceLE, Int.reduceAdd, Int.reduceSub, Int.reduceToNat, Int.reduceBEq, Int.reduceBNe, Int.reduceMul, Nat.reduceBEq, Nat.reduceBNe, Nat.reduceLT, Nat.reduceLeDiff, Nat.reduceMul, Nat.reduceEqDiff, WD, effB, effH, isPriv, isHeap, isImm, zbx, zby, zbz, chkO, setD, dslot, zca, zcb, zcc, zcd, ptrCells_some, F40, a1, a2, a3, a4, c1, c2, c3, c4, d1, d2, d3, d4]
  refine wC_dr alts40_1 (by kernel_rfl) ?_
  have p1 := fun s b tl H d => appB (encI c.params) (encI c.slots) (by omega) s b tl H d
  have p2 := fun s b tl H d => appB (encI c.params ++ encI c.slots) (encL encI c.boxes) (by simp only [List.length_append]; omega) s b tl H d
  have p3 := fun s b tl H d => appB ((encI c.params ++ encI c.slots) ++ encL encI c.boxes) (encN c.caps.length) (by simp only [List.length_append]; omega) s b tl H d
  simp only [WW, partV, eqCells, eqLf, minV, maxV, ifcV, zaa, zab, zac, zad, zae, zaf, zag, zah, zai, ofConst, ofConst1, List.replicate, zaj, zak, loadOp, Go.Abs.loadCells, binV, zal, pickV, zam, zan, zao, zap, zaq, zar, zas, zat, zau, outR, resAll, resOne, zav, zaw, zax, zay, zaz, zba, zbb, zbc, zbd, zbe, zbf, zbg, zbh, zbi, zbj, zbk, storeOp, storeCell, overlay, zbl, zbm, zbn, lookupOp, keyT, okRes, mapUpdateOp, zbo, zbp, zbq, zbr, zbs, zbt, zbu, Nat.reduceSub, Nat.reduceAdd, Int.reduceLT, Int.reduceLE, Int.reduceAdd, Int.reduceSub, Int.reduceToNat, Int.reduceBEq, Int.reduceBNe, Int.reduceMul, Nat.reduceBEq, Nat.reduceBNe, Nat.reduceLT, Nat.reduceLeDiff, Nat.reduceMul, Nat.reduceEqDiff, WD, effB, effH, isPriv, isHeap, isImm, zbx, zby, zbz, chkO, setD, dslot, zca, zcb, zcc, zcd, ptrCells_some, F40, alts40_1, a1, a2, a3, a4, n1, n2, n3, n4, (q2 H).len, lm2, bs_len, buildSliceV, lits, srcV_eq, srcK_sl, srcK_str, srcSl_nils, srcSl_rsl, srcSl_sl, frow, zbv, zbw, List.all_nil, List.all_cons, rowV, Bool.false_and, Bool.and_false, ne_eq, not_false_eq_true, grows_lr, callOut_t, take_bs, p1, p2, p3]
  refine wC_loop _ (fun k st' H' => ∃ (i : Nat) (acc : List Nat), st' = ⟨L40_5 (.box 0) (.v (.lr 0 acc.length)) (.v (.int .i64 i)), [[.int .i64 c.params, .int .i64 c.slots, k1, k2, k3, k4]], [⟨true, false, bs acc⟩, ⟨true, false, bs (encI c.slots)⟩, ⟨true, false, bs (encL encI c.boxes)⟩, ⟨true, false, bs (encN c.caps.length)⟩]⟩ ∧ H' = H ∧ i ≤ c.caps.length ∧ k = c.caps.length - i ∧ acc ++ (c.caps.drop i).flatMap encCap = (((encI c.params ++ encI c.slots) ++ encL encI c.boxes) ++ encN c.caps.length) ++ c.caps.flatMap encCap) c.caps.length ⟨0, _, ?_, rfl, by omega, by omega, rfl⟩ ?_
  · simp only [WN, firstReg, growAll, zbv, zbw, norm, killS, zag, zah, zaa, zab, zbl, zat, zad, growOne, zae, zaf, zac, zas, zak, Nat.reduceLT, Nat.reduceAdd, zbj, zav, F40, L40_5, b1, b2, b3, b4]
    rfl
  · rintro k st' H ⟨i, acc, rfl, rfl, hi, rfl, he⟩
    simp only [L40_5]
    simp only [WW, partV, eqCells, eqLf, minV, maxV, ifcV, zaa, zab, zac, zad, zae, zaf, zag, zah, zai, ofConst, ofConst1, List.replicate, zaj, zak, loadOp, Go.Abs.loadCells, binV, zal, pickV, zam, zan, zao, zap, zaq, zar, zas, zat, zau, outR, resAll, resOne, zav, zaw, zax, zay, zaz, zba, zbb, zbc, zbd, zbe, zbf, zbg, zbh, zbi, zbj, zbk, storeOp, storeCell, overlay, zbl, zbm, zbn, lookupOp, keyT, okRes, mapUpdateOp, zbo, zbp, zbq, zbr, zbs, zbt, zbu, Nat.reduceSub, Nat.reduceAdd, Int.reduceLT, Int.reduceLE, Int.reduceAdd, Int.reduceSub, Int.reduceToNat, Int.reduceBEq, Int.reduceBNe, Int.reduceMul, Nat.reduceBEq, Nat.reduceBNe, Nat.reduceLT, Nat.reduceLeDiff, Nat.reduceMul, Nat.reduceEqDiff, WD, effB, effH, isPriv, isHeap, isImm, zbx, zby, zbz, chkO, setD, dslot, zca, zcb, zcc, zcd, ptrCells_some, F40, a2, (q2 H).len, lm2]
    refine cSplit (fun hlt => ?_) (fun hge => ?_)
    · have hi2 : i < c.caps.length := by have := of_decide_eq_true hlt; omega
      have hs : c.caps[i]? = some c.caps[i] := List.getElem?_eq_getElem hi2
      generalize c.caps[i] = y at hs
      rw [drop_get hs, List.flatMap_cons, ← List.append_assoc] at he
      have hle := congrArg List.length he
      simp only [List.length_append] at hle
      have hy := all_mem o4 (List.mem_of_getElem? hs)
      simp only [capOk, Bool.and_eq_true] at hy
      simp only [hlt]
      have hat := (q2 H).at_ (sz := 2) (i := i) (e := .agg [.int .i64 y.1, .int .i64 y.2]) (by rw [List.getElem?_map, hs]; rfl) rfl
      have elen : (encCap y).length = (encI y.1).length + (encI y.2).length   := by simp only [encCap, List.length_append] <;> omega
      have m0 : ∀ K, wpCall (evW Tryd.prog notes) 38 [.int .i64 y.1] H K = K (.ret (.rsl (bs (encI y.1))) true) H := fun K => wpCall_eq (encI_eq hy.1 H)
      have p0 := fun s b tl H d => appB (acc) (encI y.1) (by first | omega | (simp only [List.length_append]; omega)) s b tl H d
      have m1 : ∀ K, wpCall (evW Tryd.prog notes) 38 [.int .i64 y.2] H K = K (.ret (.rsl (bs (encI y.2))) true) H := fun K => wpCall_eq (encI_eq hy.2 H)
      have p1 := fun s b tl H d => appB ((acc ++ encI y.1)) (encI y.2) (by first | omega | (simp only [List.length_append]; omega)) s b tl H d
      simp only [WW, partV, eqCells, eqLf, minV, maxV, ifcV, zaa, zab, zac, zad, zae, zaf, zag, zah, zai, ofConst, ofConst1, List.replicate, zaj, zak, loadOp, Go.Abs.loadCells, binV, zal, pickV, zam, zan, zao, zap, zaq, zar, zas, zat, zau, outR, resAll, resOne, zav, zaw, zax, zay, zaz, zba, zbb, zbc, zbd, zbe, zbf, zbg, zbh, zbi, zbj, zbk, storeOp, storeCell, overlay, zbl, zbm, zbn, lookupOp, keyT, okRes, mapUpdateOp, zbo, zbp, zbq, zbr, zbs, zbt, zbu, Nat.reduceSub, Nat.reduceAdd, Int.reduceLT, Int.reduceLE, Int.reduceAdd, Int.reduceSub, Int.reduceToNat, Int.reduceBEq, Int.reduceBNe, Int.reduceMul, Nat.reduceBEq, Nat.reduceBNe, Nat.reduceLT, Nat.reduceLeDiff, Nat.reduceMul, Nat.reduceEqDiff, WD, effB, effH, isPriv, isHeap, isImm, zbx, zby, zbz, chkO, setD, dslot, zca, zcb, zcc, zcd, ptrCells_some, F40]
      refine wC_dr alts40_7 (by kernel_rfl) ?_
      simp only [WW, partV, eqCells, eqLf, minV, maxV, ifcV, zaa, zab, zac, zad, zae, zaf, zag, zah, zai, ofConst, ofConst1, List.replicate, zaj, zak, loadOp, Go.Abs.loadCells, binV, zal, pickV, zam, zan, zao, zap, zaq, zar, zas, zat, zau, outR, resAll, resOne, zav, zaw, zax, zay, zaz, zba, zbb, zbc, zbd, zbe, zbf, zbg, zbh, zbi, zbj, zbk, storeOp, storeCell, overlay, zbl, zbm, zbn, lookupOp, keyT, okRes, mapUpdateOp, zbo, zbp, zbq, zbr, zbs, zbt, zbu, Nat.reduceSub, Nat.reduceAdd, Int.reduceLT, Int.reduceLE, Int.reduceAdd, Int.reduceSub, Int.reduceToNat, Int.reduceBEq, Int.reduceBNe, Int.reduceMul, Nat.reduceBEq, Nat.reduceBNe, Nat.reduceLT, Nat.reduceLeDiff, Nat.reduceMul, Nat.reduceEqDiff, WD, effB, effH, isPriv, isHeap, isImm, zbx, zby, zbz, chkO, setD, dslot, zca, zcb, zcc, zcd, ptrCells_some, F40, alts40_7, a2, hat.at1 (q2 H), hat.cells, hat.fa, m0, p0, m1, p1, bs_len, buildSliceV, lits, srcV_eq, srcK_sl, srcK_str, srcSl_nils, srcSl_rsl, srcSl_sl, frow, zbv, zbw, List.all_nil, List.all_cons, rowV, Bool.false_and, Bool.and_false, ne_eq, not_false_eq_true, grows_lr, callOut_t, take_bs]
      refine ⟨c.caps.length - (i + 1), by omega, i + 1, ((acc ++ encI y.1) ++ encI y.2), ?_, by omega, rfl, ?_⟩
      · simp only [WN, firstReg, growAll, zbv, zbw, norm, killS, zag, zah, zaa, zab, zbl, zat, zad, growOne, zae, zaf, zac, zas, zak, Nat.reduceLT, Nat.reduceAdd, zbj, zav, F40, b1, b2, b3, b4]
        rw [IntWalk.i64_in ((i : Int) + 1) (by omega)]; rfl
      · rw [← he]; simp only [encCap, List.append_assoc]
    · have hi2 : i = c.caps.length := by have := of_decide_eq_false hge; omega
      rw [hi2, List.drop_length, List.flatMap_nil, List.append_nil] at he
      subst he
      simp only [hge]
      have p1 := fun s b tl H d => appB ((((encI c.params ++ encI c.slots) ++ encL encI c.boxes) ++ encN c.caps.length) ++ c.caps.flatMap encCap) (encN c.code.length) (by simp only [List.length_append]; omega) s b tl H d
      simp only [WW, partV, eqCells, eqLf, minV, maxV, ifcV, zaa, zab, zac, zad, zae, zaf, zag, zah, zai, ofConst, ofConst1, List.replicate, zaj, zak, loadOp, Go.Abs.loadCells, binV, zal, pickV, zam, zan, zao, zap, zaq, zar, zas, zat, zau, outR, resAll, resOne, zav, zaw, zax, zay, zaz, zba, zbb, zbc, zbd, zbe, zbf, zbg, zbh, zbi, zbj, zbk, storeOp, storeCell, overlay, zbl, zbm, zbn, lookupOp, keyT, okRes, mapUpdateOp, zbo, zbp, zbq, zbr, zbs, zbt, zbu, Nat.reduceSub, Nat.reduceAdd, Int.reduceLT, Int.reduceLE, Int.reduceAdd, Int.reduceSub, Int.reduceToNat, Int.reduceBEq, Int.reduceBNe, Int.reduceMul, Nat.reduceBEq, Nat.reduceBNe, Nat.reduceLT, Nat.reduceLeDiff, Nat.reduceMul, Nat.reduceEqDiff, WD, effB, effH, isPriv, isHeap, isImm, zbx, zby, zbz, chkO, setD, dslot, zca, zcb, zcc, zcd, ptrCells_some, F40, a3, (q3 H).len, lm3, n5, bs_len, buildSliceV, lits, srcV_eq, srcK_sl, srcK_str, srcSl_nils, srcSl_rsl, srcSl_sl, frow, zbv, zbw, List.all_nil, List.all_cons, rowV, Bool.false_and, Bool.and_false, ne_eq, not_false_eq_true, grows_lr, callOut_t, take_bs, p1]
      refine wC_loop _ (fun k st' H' => ∃ (i : Nat) (acc : List Nat), st' = ⟨L40_10 (.box 0) (.v (.lr 0 acc.length)) (.v (.int .i64 i)), [[.int .i64 c.params, .int .i64 c.slots, k1, k2, k3, k4]], [⟨true, false, bs acc⟩, ⟨true, false, bs (encI c.slots)⟩, ⟨true, false, bs (encL encI c.boxes)⟩, ⟨true, false, bs (encN c.caps.length)⟩, ⟨true, false, bs (encN c.code.length)⟩]⟩ ∧ H' = H ∧ i ≤ c.code.length ∧ k = c.code.length - i ∧ acc ++ (c.code.drop i).flatMap encIn = (((((encI c.params ++ encI c.slots) ++ encL encI c.boxes) ++ encN c.caps.length) ++ c.caps.flatMap encCap) ++ encN c.code.length) ++ c.code.flatMap encIn) c.code.length ⟨0, _, ?_, rfl, by omega, by omega, rfl⟩ ?_
      · simp only [WN, firstReg, growAll, zbv, zbw, norm, killS, zag, zah, zaa, zab, zbl, zat, zad, growOne, zae, zaf, zac, zas, zak, Nat.reduceLT, Nat.reduceAdd, zbj, zav, F40, L40_10, b1, b2, b3, b4]
        rfl
      · rintro k st' H ⟨i, acc, rfl, rfl, hi, rfl, he⟩
        simp only [L40_10]
        simp only [WW, partV, eqCells, eqLf, minV, maxV, ifcV, zaa, zab, zac, zad, zae, zaf, zag, zah, zai, ofConst, ofConst1, List.replicate, zaj, zak, loadOp, Go.Abs.loadCells, binV, zal, pickV, zam, zan, zao, zap, zaq, zar, zas, zat, zau, outR, resAll, resOne, zav, zaw, zax, zay, zaz, zba, zbb, zbc, zbd, zbe, zbf, zbg, zbh, zbi, zbj, zbk, storeOp, storeCell, overlay, zbl, zbm, zbn, lookupOp, keyT, okRes, mapUpdateOp, zbo, zbp, zbq, zbr, zbs, zbt, zbu, Nat.reduceSub, Nat.reduceAdd, Int.reduceLT, Int.reduceLE, Int.reduceAdd, Int.reduceSub, Int.reduceToNat, Int.reduceBEq, Int.reduceBNe, Int.reduceMul, Nat.reduceBEq, Nat.reduceBNe, Nat.reduceLT, Nat.reduceLeDiff, Nat.reduceMul, Nat.reduceEqDiff, WD, effB, effH, isPriv, isHeap, isImm, zbx, zby, zbz, chkO, setD, dslot, zca, zcb, zcc, zcd, ptrCells_some, F40, a3, (q3 H).len, lm3]
        refine cSplit (fun hlt => ?_) (fun hge => ?_)
        · have hi2 : i < c.code.length := by have := of_decide_eq_true hlt; omega
          have hs : c.code[i]? = some c.code[i] := List.getElem?_eq_getElem hi2
          generalize c.code[i] = y at hs
          rw [drop_get hs, List.flatMap_cons, ← List.append_assoc] at he
          have hle := congrArg List.length he
          simp only [List.length_append] at hle
          have hy := all_mem o5 (List.mem_of_getElem? hs)
          simp only [inOk, Bool.and_eq_true] at hy
          simp only [hlt]
          have hat := (q3 H).at_ (sz := 3) (i := i) (e := .agg [.int .i64 y.1, .int .i64 y.2.1, .int .i64 y.2.2]) (by rw [List.getElem?_map, hs]; rfl) rfl
          have elen : (encIn y).length = (encI y.1).length + (encZ y.2.1).length + (encZ y.2.2).length   := by simp only [encIn, List.length_append] <;> omega
          have m0 : ∀ K, wpCall (evW Tryd.prog notes) 38 [.int .i64 y.1] H K = K (.ret (.rsl (bs (encI y.1))) true) H := fun K => wpCall_eq (encI_eq hy.1 H)
          have p0 := fun s b tl H d => appB (acc) (encI y.1) (by first | omega | (simp only [List.length_append]; omega)) s b tl H d
          have m1 : ∀ K, wpCall (evW Tryd.prog notes) 66 [.int .i64 y.2.1] H K = K (.ret (.rsl (bs (encZ y.2.1))) true) H := fun K => wpCall_eq (encZ_eq hy.2.1 H)
          have p1 := fun s b tl H d => appB ((acc ++ encI y.1)) (encZ y.2.1) (by first | omega | (simp only [List.length_append]; omega)) s b tl H d
          have m2 : ∀ K, wpCall (evW Tryd.prog notes) 66 [.int .i64 y.2.2] H K = K (.ret (.rsl (bs (encZ y.2.2))) true) H := fun K => wpCall_eq (encZ_eq hy.2.2 H)
          have p2 := fun s b tl H d => appB (((acc ++ encI y.1) ++ encZ y.2.1)) (encZ y.2.2) (by first | omega | (simp only [List.length_append]; omega)) s b tl H d
          simp only [WW, partV, eqCells, eqLf, minV, maxV, ifcV, zaa, zab, zac, zad, zae, zaf, zag, zah, zai, ofConst, ofConst1, List.replicate, zaj, zak, loadOp, Go.Abs.loadCells, binV, zal, pickV, zam, zan, zao, zap, zaq, zar, zas, zat, zau, outR, resAll, resOne, zav, zaw, zax, zay, zaz, zba, zbb, zbc, zbd, zbe, zbf, zbg, zbh, zbi, zbj, zbk, storeOp, storeCell, overlay, zbl, zbm, zbn, lookupOp, keyT, okRes, mapUpdateOp, zbo, zbp, zbq, zbr, zbs, zbt, zbu, Nat.reduceSub, Nat.reduceAdd, Int.reduceLT, Int.reduceLE, Int.reduceAdd, Int.reduceSub, Int.reduceToNat, Int.reduceBEq, Int.reduceBNe, Int.reduceMul, Nat.reduceBEq, Nat.reduceBNe, Nat.reduceLT, Nat.reduceLeDiff, Nat.reduceMul, Nat.reduceEqDiff, WD, effB, effH, isPriv, isHeap, isImm, zbx, zby, zbz, chkO, setD, dslot, zca, zcb, zcc, zcd, ptrCells_some, F40, a3, hat.at1 (q3 H), hat.cells]
          refine wC_dr alts40_13 (by kernel_rfl) ?_
          simp only [WW, partV, eqCells, eqLf, minV, maxV, ifcV, zaa, zab, zac, zad, zae, zaf, zag, zah, zai, ofConst, ofConst1, List.replicate, zaj, zak, loadOp, Go.Abs.loadCells, binV, zal, pickV, zam, zan, zao, zap, zaq, zar, zas, zat, zau, outR, resAll, resOne, zav, zaw, zax, zay, zaz, zba, zbb, zbc, zbd, zbe, zbf, zbg, zbh, zbi, zbj, zbk, storeOp, storeCell, overlay, zbl, zbm, zbn, lookupOp, keyT, okRes, mapUpdateOp, zbo, zbp, zbq, zbr, zbs, zbt, zbu, Nat.reduceSub, Nat.reduceAdd, Int.reduceLT, Int.reduceLE, Int.reduceAdd, Int.reduceSub, Int.reduceToNat, Int.reduceBEq, Int.reduceBNe, Int.reduceMul, Nat.reduceBEq, Nat.reduceBNe, Nat.reduceLT, Nat.reduceLeDiff, Nat.reduceMul, Nat.reduceEqDiff, WD, effB, effH, isPriv, isHeap, isImm, zbx, zby, zbz, chkO, setD, dslot, zca, zcb, zcc, zcd, ptrCells_some, F40, alts40_13, a3, hat.at1 (q3 H), hat.cells, hat.fa, m0, p0, m1, p1, m2, p2, bs_len, buildSliceV, lits, srcV_eq, srcK_sl, srcK_str, srcSl_nils, srcSl_rsl, srcSl_sl, frow, zbv, zbw, List.all_nil, List.all_cons, rowV, Bool.false_and, Bool.and_false, ne_eq, not_false_eq_true, grows_lr, callOut_t, take_bs]
          refine ⟨c.code.length - (i + 1), by omega, i + 1, (((acc ++ encI y.1) ++ encZ y.2.1) ++ encZ y.2.2), ?_, by omega, rfl, ?_⟩
          · simp only [WN, firstReg, growAll, zbv, zbw, norm, killS, zag, zah, zaa, zab, zbl, zat, zad, growOne, zae, zaf, zac, zas, zak, Nat.reduceLT, Nat.reduceAdd, zbj, zav, F40, b1, b2, b3, b4]
            rw [IntWalk.i64_in ((i : Int) + 1) (by omega)]; rfl
          · rw [← he]; simp only [encIn, List.append_assoc]
        · have hi2 : i = c.code.length := by have := of_decide_eq_false hge; omega
          rw [hi2, List.drop_length, List.flatMap_nil, List.append_nil] at he
          subst he
          simp only [hge]
          have p1 := fun s b tl H d => appB ((((((encI c.params ++ encI c.slots) ++ encL encI c.boxes) ++ encN c.caps.length) ++ c.caps.flatMap encCap) ++ encN c.code.length) ++ c.code.flatMap encIn) (encN c.tries.length) (by simp only [List.length_append]; omega) s b tl H d
          simp only [WW, partV, eqCells, eqLf, minV, maxV, ifcV, zaa, zab, zac, zad, zae, zaf, zag, zah, zai, ofConst, ofConst1, List.replicate, zaj, zak, loadOp, Go.Abs.loadCells, binV, zal, pickV, zam, zan, zao, zap, zaq, zar, zas, zat, zau, outR, resAll, resOne, zav, zaw, zax, zay, zaz, zba, zbb, zbc, zbd, zbe, zbf, zbg, zbh, zbi, zbj, zbk, storeOp, storeCell, overlay, zbl, zbm, zbn, lookupOp, keyT, okRes, mapUpdateOp, zbo, zbp, zbq, zbr, zbs, zbt, zbu, Nat.reduceSub, Nat.reduceAdd, Int.reduceLT, Int.reduceLE, Int.reduceAdd, Int.reduceSub, Int.reduceToNat, Int.reduceBEq, Int.reduceBNe, Int.reduceMul, Nat.reduceBEq, Nat.reduceBNe, Nat.reduceLT, Nat.reduceLeDiff, Nat.reduceMul, Nat.reduceEqDiff, WD, effB, effH, isPriv, isHeap, isImm, zbx, zby, zbz, chkO, setD, dslot, zca, zcb, zcc, zcd, ptrCells_some, F40, a4, (q4 H).len, lm4, n6, bs_len, buildSliceV, lits, srcV_eq, srcK_sl, srcK_str, srcSl_nils, srcSl_rsl, srcSl_sl, frow, zbv, zbw, List.all_nil, List.all_cons, rowV, Bool.false_and, Bool.and_false, ne_eq, not_false_eq_true, grows_lr, callOut_t, take_bs, p1]
          refine wC_loop _ (fun k st' H' => ∃ (i : Nat) (acc : List Nat), st' = ⟨L40_16 (.box 0) (.v (.lr 0 acc.length)) (.v (.int .i64 i)), [[.int .i64 c.params, .int .i64 c.slots, k1, k2, k3, k4]], [⟨true, false, bs acc⟩, ⟨true, false, bs (encI c.slots)⟩, ⟨true, false, bs (encL encI c.boxes)⟩, ⟨true, false, bs (encN c.caps.length)⟩, ⟨true, false, bs (encN c.code.length)⟩, ⟨true, false, bs (encN c.tries.length)⟩]⟩ ∧ H' = H ∧ i ≤ c.tries.length ∧ k = c.tries.length - i ∧ acc ++ (c.tries.drop i).flatMap encTry = (((((((encI c.params ++ encI c.slots) ++ encL encI c.boxes) ++ encN c.caps.length) ++ c.caps.flatMap encCap) ++ encN c.code.length) ++ c.code.flatMap encIn) ++ encN c.tries.length) ++ c.tries.flatMap encTry) c.tries.length ⟨0, _, ?_, rfl, by omega, by omega, rfl⟩ ?_
          · simp only [WN, firstReg, growAll, zbv, zbw, norm, killS, zag, zah, zaa, zab, zbl, zat, zad, growOne, zae, zaf, zac, zas, zak, Nat.reduceLT, Nat.reduceAdd, zbj, zav, F40, L40_16, b1, b2, b3, b4]
            rfl
          · rintro k st' H ⟨i, acc, rfl, rfl, hi, rfl, he⟩
            simp only [L40_16]
            simp only [WW, partV, eqCells, eqLf, minV, maxV, ifcV, zaa, zab, zac, zad, zae, zaf, zag, zah, zai, ofConst, ofConst1, List.replicate, zaj, zak, loadOp, Go.Abs.loadCells, binV, zal, pickV, zam, zan, zao, zap, zaq, zar, zas, zat, zau, outR, resAll, resOne, zav, zaw, zax, zay, zaz, zba, zbb, zbc, zbd, zbe, zbf, zbg, zbh, zbi, zbj, zbk, storeOp, storeCell, overlay, zbl, zbm, zbn, lookupOp, keyT, okRes, mapUpdateOp, zbo, zbp, zbq, zbr, zbs, zbt, zbu, Nat.reduceSub, Nat.reduceAdd, Int.reduceLT, Int.reduceLE, Int.reduceAdd, Int.reduceSub, Int.reduceToNat, Int.reduceBEq, Int.reduceBNe, Int.reduceMul, Nat.reduceBEq, Nat.reduceBNe, Nat.reduceLT, Nat.reduceLeDiff, Nat.reduceMul, Nat.reduceEqDiff, WD, effB, effH, isPriv, isHeap, isImm, zbx, zby, zbz, chkO, setD, dslot, zca, zcb, zcc, zcd, ptrCells_some, F40, a4, (q4 H).len, lm4]
            refine cSplit (fun hlt => ?_) (fun hge => ?_)
            · have hi2 : i < c.tries.length := by have := of_decide_eq_true hlt; omega
              have hs : c.tries[i]? = some c.tries[i] := List.getElem?_eq_getElem hi2
              generalize c.tries[i] = y at hs
              rw [drop_get hs, List.flatMap_cons, ← List.append_assoc] at he
              have hle := congrArg List.length he
              simp only [List.length_append] at hle
              have hy := all_mem o6 (List.mem_of_getElem? hs)
              simp only [tryOk, Bool.and_eq_true] at hy
              simp only [hlt]
              have hat := (q4 H).at_ (sz := 4) (i := i) (e := .agg [.int .i64 y.1, .int .i64 y.2.1, .int .i64 y.2.2.1, .int .i64 y.2.2.2]) (by rw [List.getElem?_map, hs]; rfl) rfl
              have elen : (encTry y).length = (encI y.1).length + (encI y.2.1).length + (encI y.2.2.1).length + (encI y.2.2.2).length   := by simp only [encTry, List.length_append] <;> omega
              have m0 : ∀ K, wpCall (evW Tryd.prog notes) 38 [.int .i64 y.1] H K = K (.ret (.rsl (bs (encI y.1))) true) H := fun K => wpCall_eq (encI_eq hy.1 H)
              have p0 := fun s b tl H d => appB (acc) (encI y.1) (by first | omega | (simp only [List.length_append]; omega)) s b tl H d
              have m1 : ∀ K, wpCall (evW Tryd.prog notes) 38 [.int .i64 y.2.1] H K = K (.ret (.rsl (bs (encI y.2.1))) true) H := fun K => wpCall_eq (encI_eq hy.2.1 H)
              have p1 := fun s b tl H d => appB ((acc ++ encI y.1)) (encI y.2.1) (by first | omega | (simp only [List.length_append]; omega)) s b tl H d
              have m2 : ∀ K, wpCall (evW Tryd.prog notes) 38 [.int .i64 y.2.2.1] H K = K (.ret (.rsl (bs (encI y.2.2.1))) true) H := fun K => wpCall_eq (encI_eq hy.2.2.1 H)
              have p2 := fun s b tl H d => appB (((acc ++ encI y.1) ++ encI y.2.1)) (encI y.2.2.1) (by first | omega | (simp only [List.length_append]; omega)) s b tl H d
              have m3 : ∀ K, wpCall (evW Tryd.prog notes) 38 [.int .i64 y.2.2.2] H K = K (.ret (.rsl (bs (encI y.2.2.2))) true) H := fun K => wpCall_eq (encI_eq hy.2.2.2 H)
              have p3 := fun s b tl H d => appB ((((acc ++ encI y.1) ++ encI y.2.1) ++ encI y.2.2.1)) (encI y.2.2.2) (by first | omega | (simp only [List.length_append]; omega)) s b tl H d
              simp only [WW, partV, eqCells, eqLf, minV, maxV, ifcV, zaa, zab, zac, zad, zae, zaf, zag, zah, zai, ofConst, ofConst1, List.replicate, zaj, zak, loadOp, Go.Abs.loadCells, binV, zal, pickV, zam, zan, zao, zap, zaq, zar, zas, zat, zau, outR, resAll, resOne, zav, zaw, zax, zay, zaz, zba, zbb, zbc, zbd, zbe, zbf, zbg, zbh, zbi, zbj, zbk, storeOp, storeCell, overlay, zbl, zbm, zbn, lookupOp, keyT, okRes, mapUpdateOp, zbo, zbp, zbq, zbr, zbs, zbt, zbu, Nat.reduceSub, Nat.reduceAdd, Int.reduceLT, Int.reduceLE, Int.reduceAdd, Int.reduceSub, Int.reduceToNat, Int.reduceBEq, Int.reduceBNe, Int.reduceMul, Nat.reduceBEq, Nat.reduceBNe, Nat.reduceLT, Nat.reduceLeDiff, Nat.reduceMul, Nat.reduceEqDiff, WD, effB, effH, isPriv, isHeap, isImm, zbx, zby, zbz, chkO, setD, dslot, zca, zcb, zcc, zcd, ptrCells_some, F40, a4, hat.at1 (q4 H), hat.cells]
              refine wC_dr alts40_19 (by kernel_rfl) ?_
              simp only [WW, partV, eqCells, eqLf, minV, maxV, ifcV, zaa, zab, zac, zad, zae, zaf, zag, zah, zai, ofConst, ofConst1, List.replicate, zaj, zak, loadOp, Go.Abs.loadCells, binV, zal, pickV, zam, zan, zao, zap, zaq, zar, zas, zat, zau, outR, resAll, resOne, zav, zaw, zax, zay, zaz, zba, zbb, zbc, zbd, zbe, zbf, zbg, zbh, zbi, zbj, zbk, storeOp, storeCell, overlay, zbl, zbm, zbn, lookupOp, keyT, okRes, mapUpdateOp, zbo, zbp, zbq, zbr, zbs, zbt, zbu, Nat.reduceSub, Nat.reduceAdd, Int.reduceLT, Int.reduceLE, Int.reduceAdd, Int.reduceSub, Int.reduceToNat, Int.reduceBEq, Int.reduceBNe, Int.reduceMul, Nat.reduceBEq, Nat.reduceBNe, Nat.reduceLT, Nat.reduceLeDiff, Nat.reduceMul, Nat.reduceEqDiff, WD, effB, effH, isPriv, isHeap, isImm, zbx, zby, zbz, chkO, setD, dslot, zca, zcb, zcc, zcd, ptrCells_some, F40, alts40_19, a4, hat.at1 (q4 H), hat.cells, hat.fa, m0, p0, m1, p1, m2, p2, m3, p3, bs_len, buildSliceV, lits, srcV_eq, srcK_sl, srcK_str, srcSl_nils, srcSl_rsl, srcSl_sl, frow, zbv, zbw, List.all_nil, List.all_cons, rowV, Bool.false_and, Bool.and_false, ne_eq, not_false_eq_true, grows_lr, callOut_t, take_bs]
              refine ⟨c.tries.length - (i + 1), by omega, i + 1, ((((acc ++ encI y.1) ++ encI y.2.1) ++ encI y.2.2.1) ++ encI y.2.2.2), ?_, by omega, rfl, ?_⟩
              · simp only [WN, firstReg, growAll, zbv, zbw, norm, killS, zag, zah, zaa, zab, zbl, zat, zad, growOne, zae, zaf, zac, zas, zak, Nat.reduceLT, Nat.reduceAdd, zbj, zav, F40, b1, b2, b3, b4]
                rw [IntWalk.i64_in ((i : Int) + 1) (by omega)]; rfl
              · rw [← he]; simp only [encTry, List.append_assoc]
            · have hi2 : i = c.tries.length := by have := of_decide_eq_false hge; omega
              rw [hi2, List.drop_length, List.flatMap_nil, List.append_nil] at he
              subst he
              simp only [hge]
              have hne : bs ((((((((encI c.params ++ encI c.slots) ++ encL encI c.boxes) ++ encN c.caps.length) ++ c.caps.flatMap encCap) ++ encN c.code.length) ++ c.code.flatMap encIn) ++ encN c.tries.length) ++ c.tries.flatMap encTry) ≠ [] := by
                have := encN_ne c.params.toNat
                simp [bs, encI, this]
              generalize (((((((encI c.params ++ encI c.slots) ++ encL encI c.boxes) ++ encN c.caps.length) ++ c.caps.flatMap encCap) ++ encN c.code.length) ++ c.code.flatMap encIn) ++ encN c.tries.length) ++ c.tries.flatMap encTry = res at *
              simp only [WW, partV, eqCells, eqLf, minV, maxV, ifcV, zaa, zab, zac, zad, zae, zaf, zag, zah, zai, ofConst, ofConst1, List.replicate, zaj, zak, loadOp, Go.Abs.loadCells, binV, zal, pickV, zam, zan, zao, zap, zaq, zar, zas, zat, zau, outR, resAll, resOne, zav, zaw, zax, zay, zaz, zba, zbb, zbc, zbd, zbe, zbf, zbg, zbh, zbi, zbj, zbk, storeOp, storeCell, overlay, zbl, zbm, zbn, lookupOp, keyT, okRes, mapUpdateOp, zbo, zbp, zbq, zbr, zbs, zbt, zbu, Nat.reduceSub, Nat.reduceAdd, Int.reduceLT, Int.reduceLE, Int.reduceAdd, Int.reduceSub, Int.reduceToNat, Int.reduceBEq, Int.reduceBNe, Int.reduceMul, Nat.reduceBEq, Nat.reduceBNe, Nat.reduceLT, Nat.reduceLeDiff, Nat.reduceMul, Nat.reduceEqDiff, WD, effB, effH, isPriv, isHeap, isImm, zbx, zby, zbz, chkO, setD, dslot, zca, zcb, zcc, zcd, ptrCells_some, F40]
              have hln : res.length = (bs res).length := (bs_len _).symm
              simp only [rowV, growsAs, List.getElem?_cons_zero, Bool.false_and, take_bs, bs_len, beq_self_eq_true, Bool.true_and, Bool.not_false, Bool.false_eq_true, if_false, and_self]
end Go.Proofs.YtgjobbmbbedecaaDoor

/- The document's side: an image's bytes. -/
namespace Go.Proofs.YtgjobbmbbedecaaDoor
open Go Go.Abs Go.Proofs
set_option maxRecDepth 100000
set_option maxHeartbeats 8000000
set_option linter.unusedVariables false
set_option linter.unusedSimpArgs false
theorem rencode_eq {v : V} {im : ImM} (q : ImV v im) (hsm : imSm im) (H : Hp) :
    EW 14 [v] H = some (.ret (.tup (if imOk im then [.rsl (bs (encIm im)), .int .i64 0] else [.nils, .int .i64 1])) false, H) := by
  have hlen := fun h => encIm_len (im := im) h hsm
  obtain ⟨fu, st, ke, fs, ks, rfl, hf, hs, hk, f2, k2⟩ := q
  obtain ⟨m1, m2, m3, m4, m5, m6⟩ := hsm
  have z1 := fun st => (hf []).shutIn st
  have z2 := fun s => (hs []).shutIn s
  have z3 := fun st => (hk []).shutIn st
  have y1 := fun n => (hf []).clip n
  have y2 := fun n => (hs []).clip n
  have y3 := fun n => (hk []).clip n
  have x1 := (hf []).cells1
  have x2 := (hs []).cells1
  have x3 := (hk []).cells1
  have w1 := (hf []).ok
  have w2 := (hs []).ok
  have w3 := (hk []).ok
  have fl := f2.len
  have kl := k2.len
  have sl : (im.strs.map V.str).length = im.strs.length := List.length_map ..
  refine eqOf (runs f14 b14 r14 n14 _ _ ?_)
  simp only [bodyOf, Tryd.f14, Option.getD_some]
  simp only [WW, partV, eqCells, eqLf, minV, maxV, ifcV, zaa, zab, zac, zad, zae, zaf, zag, zah, zai, ofConst, ofConst1, List.replicate, zaj, zak, loadOp, Go.Abs.loadCells, binV, zal, pickV, zam, zan, zao, zap, zaq, zar, zas, zat, zau, outR, resAll, resOne, zav, zaw, zax, zay, zaz, zba, zbb, zbc, zbd, zbe, zbf, zbg, zbh, zbi, zbj, zbk, storeOp, storeCell, overlay, zbl, zbm, zbn, lookupOp, keyT, okRes, mapUpdateOp, zbo, zbp, zbq, zbr, zbs, zbt, zbu, Nat.reduceSub, Nat.reduceAdd, Int.reduceLT, Int.reduceLE, Int.reduceAdd, Int.reduceSub, Int.reduceToNat, Int.reduceBEq, Int.reduceBNe, Int.reduceMul, Nat.reduceBEq, Nat.reduceBNe, Nat.reduceLT, Nat.reduceLeDiff, Nat.reduceMul, Nat.reduceEqDiff, WD, effB, effH, isPriv, isHeap, isImm, zbx, zby, zbz, chkO, setD, dslot, zca, zcb, zcc, zcd, ptrCells_some, F14, z1, z2, z3, x1, x2, x3, w1, w2, w3, plainW]
  cases hg : plain im.globals with
  | false =>
    have : imOk im = false := by simp [imOk, hg]
    rw [this]
    simp only [WW, partV, eqCells, eqLf, minV, maxV, ifcV, zaa, zab, zac, zad, zae, zaf, zag, zah, zai, ofConst, ofConst1, List.replicate, zaj, zak, loadOp, Go.Abs.loadCells, binV, zal, pickV, zam, zan, zao, zap, zaq, zar, zas, zat, zau, outR, resAll, resOne, zav, zaw, zax, zay, zaz, zba, zbb, zbc, zbd, zbe, zbf, zbg, zbh, zbi, zbj, zbk, storeOp, storeCell, overlay, zbl, zbm, zbn, lookupOp, keyT, okRes, mapUpdateOp, zbo, zbp, zbq, zbr, zbs, zbt, zbu, Nat.reduceSub, Nat.reduceAdd, Int.reduceLT, Int.reduceLE, Int.reduceAdd, Int.reduceSub, Int.reduceToNat, Int.reduceBEq, Int.reduceBNe, Int.reduceMul, Nat.reduceBEq, Nat.reduceBNe, Nat.reduceLT, Nat.reduceLeDiff, Nat.reduceMul, Nat.reduceEqDiff, WD, effB, effH, isPriv, isHeap, isImm, zbx, zby, zbz, chkO, setD, dslot, zca, zcb, zcc, zcd, ptrCells_some, F14]
  | true =>
  have e1 : imOk im = (im.keys.all (fun k => k.all plain) && im.funs.all fnOk) := by simp only [imOk, hg, Bool.true_and]
  simp only [WW, partV, eqCells, eqLf, minV, maxV, ifcV, zaa, zab, zac, zad, zae, zaf, zag, zah, zai, ofConst, ofConst1, List.replicate, zaj, zak, loadOp, Go.Abs.loadCells, binV, zal, pickV, zam, zan, zao, zap, zaq, zar, zas, zat, zau, outR, resAll, resOne, zav, zaw, zax, zay, zaz, zba, zbb, zbc, zbd, zbe, zbf, zbg, zbh, zbi, zbj, zbk, storeOp, storeCell, overlay, zbl, zbm, zbn, lookupOp, keyT, okRes, mapUpdateOp, zbo, zbp, zbq, zbr, zbs, zbt, zbu, Nat.reduceSub, Nat.reduceAdd, Int.reduceLT, Int.reduceLE, Int.reduceAdd, Int.reduceSub, Int.reduceToNat, Int.reduceBEq, Int.reduceBNe, Int.reduceMul, Nat.reduceBEq, Nat.reduceBNe, Nat.reduceLT, Nat.reduceLeDiff, Nat.reduceMul, Nat.reduceEqDiff, WD, effB, effH, isPriv, isHeap, isImm, zbx, zby, zbz, chkO, setD, dslot, zca, zcb, zcc, zcd, ptrCells_some, F14]
  refine wC_loop _ (fun k st' H' => ∃ (i : Nat), st' = ⟨L14_4 (.box 0) (.v (.int .i64 i)), [[fu, st, ke, .int .i64 im.globals]], []⟩ ∧ H' = H ∧ i ≤ im.keys.length ∧ k = im.keys.length - i ∧ (im.keys.drop i).all (fun k => k.all plain) = im.keys.all (fun k => k.all plain)) im.keys.length ⟨0, ?_, rfl, by omega, by omega, rfl⟩ ?_
  · simp only [WN, firstReg, growAll, zbv, zbw, norm, killS, zag, zah, zaa, zab, zbl, zat, zad, growOne, zae, zaf, zac, zas, zak, Nat.reduceLT, Nat.reduceAdd, zbj, zav, F14, L14_4, y1, y2, y3]
    rfl
  · rintro k st' H ⟨i, rfl, rfl, hi, rfl, he⟩
    simp only [L14_4]
    simp only [WW, partV, eqCells, eqLf, minV, maxV, ifcV, zaa, zab, zac, zad, zae, zaf, zag, zah, zai, ofConst, ofConst1, List.replicate, zaj, zak, loadOp, Go.Abs.loadCells, binV, zal, pickV, zam, zan, zao, zap, zaq, zar, zas, zat, zau, outR, resAll, resOne, zav, zaw, zax, zay, zaz, zba, zbb, zbc, zbd, zbe, zbf, zbg, zbh, zbi, zbj, zbk, storeOp, storeCell, overlay, zbl, zbm, zbn, lookupOp, keyT, okRes, mapUpdateOp, zbo, zbp, zbq, zbr, zbs, zbt, zbu, Nat.reduceSub, Nat.reduceAdd, Int.reduceLT, Int.reduceLE, Int.reduceAdd, Int.reduceSub, Int.reduceToNat, Int.reduceBEq, Int.reduceBNe, Int.reduceMul, Nat.reduceBEq, Nat.reduceBNe, Nat.reduceLT, Nat.reduceLeDiff, Nat.reduceMul, Nat.reduceEqDiff, WD, effB, effH, isPriv, isHeap, isImm, zbx, zby, zbz, chkO, setD, dslot, zca, zcb, zcc, zcd, ptrCells_some, F14, z1, z2, z3, (hk H).len, kl]
    refine cSplit (fun hlt => ?_) (fun hge => ?_)
    · have hi2 : i < im.keys.length := by have := of_decide_eq_true hlt; omega
      have hsk : im.keys[i]? = some im.keys[i] := List.getElem?_eq_getElem hi2
      generalize im.keys[i] = a at hsk
      obtain ⟨u, hu, hR⟩ := k2.get hsk
      have hmem := List.mem_of_getElem? hsk
      rw [drop_get hsk, List.all_cons] at he
      simp only [hlt]
      have hat := (hk H).at_ (sz := 1) (i := i) (e := u) hu (hR []).width1
      have hnw := numbersW hR (by have := m5 a hmem; omega)
      simp only [WW, partV, eqCells, eqLf, minV, maxV, ifcV, zaa, zab, zac, zad, zae, zaf, zag, zah, zai, ofConst, ofConst1, List.replicate, zaj, zak, loadOp, Go.Abs.loadCells, binV, zal, pickV, zam, zan, zao, zap, zaq, zar, zas, zat, zau, outR, resAll, resOne, zav, zaw, zax, zay, zaz, zba, zbb, zbc, zbd, zbe, zbf, zbg, zbh, zbi, zbj, zbk, storeOp, storeCell, overlay, zbl, zbm, zbn, lookupOp, keyT, okRes, mapUpdateOp, zbo, zbp, zbq, zbr, zbs, zbt, zbu, Nat.reduceSub, Nat.reduceAdd, Int.reduceLT, Int.reduceLE, Int.reduceAdd, Int.reduceSub, Int.reduceToNat, Int.reduceBEq, Int.reduceBNe, Int.reduceMul, Nat.reduceBEq, Nat.reduceBNe, Nat.reduceLT, Nat.reduceLeDiff, Nat.reduceMul, Nat.reduceEqDiff, WD, effB, effH, isPriv, isHeap, isImm, zbx, zby, zbz, chkO, setD, dslot, zca, zcb, zcc, zcd, ptrCells_some, F14, z3, hat.at1 (hk H), hat.cells, (hR []).cells1, (hR []).shutIn, hnw]
      cases hp : a.all plain with
      | true =>
        rw [hp, Bool.true_and] at he
        simp only [WW, partV, eqCells, eqLf, minV, maxV, ifcV, zaa, zab, zac, zad, zae, zaf, zag, zah, zai, ofConst, ofConst1, List.replicate, zaj, zak, loadOp, Go.Abs.loadCells, binV, zal, pickV, zam, zan, zao, zap, zaq, zar, zas, zat, zau, outR, resAll, resOne, zav, zaw, zax, zay, zaz, zba, zbb, zbc, zbd, zbe, zbf, zbg, zbh, zbi, zbj, zbk, storeOp, storeCell, overlay, zbl, zbm, zbn, lookupOp, keyT, okRes, mapUpdateOp, zbo, zbp, zbq, zbr, zbs, zbt, zbu, Nat.reduceSub, Nat.reduceAdd, Int.reduceLT, Int.reduceLE, Int.reduceAdd, Int.reduceSub, Int.reduceToNat, Int.reduceBEq, Int.reduceBNe, Int.reduceMul, Nat.reduceBEq, Nat.reduceBNe, Nat.reduceLT, Nat.reduceLeDiff, Nat.reduceMul, Nat.reduceEqDiff, WD, effB, effH, isPriv, isHeap, isImm, zbx, zby, zbz, chkO, setD, dslot, zca, zcb, zcc, zcd, ptrCells_some, F14]
        refine ⟨im.keys.length - (i + 1), by omega, i + 1, ?_, by omega, rfl, he⟩
        simp only [WN, firstReg, growAll, zbv, zbw, norm, killS, zag, zah, zaa, zab, zbl, zat, zad, growOne, zae, zaf, zac, zas, zak, Nat.reduceLT, Nat.reduceAdd, zbj, zav, F14, y1, y2, y3]
        rw [IntWalk.i64_in ((i : Int) + 1) (by omega)]; rfl
      | false =>
        rw [hp, Bool.false_and] at he
        rw [e1, ← he]
        simp only [WW, partV, eqCells, eqLf, minV, maxV, ifcV, zaa, zab, zac, zad, zae, zaf, zag, zah, zai, ofConst, ofConst1, List.replicate, zaj, zak, loadOp, Go.Abs.loadCells, binV, zal, pickV, zam, zan, zao, zap, zaq, zar, zas, zat, zau, outR, resAll, resOne, zav, zaw, zax, zay, zaz, zba, zbb, zbc, zbd, zbe, zbf, zbg, zbh, zbi, zbj, zbk, storeOp, storeCell, overlay, zbl, zbm, zbn, lookupOp, keyT, okRes, mapUpdateOp, zbo, zbp, zbq, zbr, zbs, zbt, zbu, Nat.reduceSub, Nat.reduceAdd, Int.reduceLT, Int.reduceLE, Int.reduceAdd, Int.reduceSub, Int.reduceToNat, Int.reduceBEq, Int.reduceBNe, Int.reduceMul, Nat.reduceBEq, Nat.reduceBNe, Nat.reduceLT, Nat.reduceLeDiff, Nat.reduceMul, Nat.reduceEqDiff, WD, effB, effH, isPriv, isHeap, isImm, zbx, zby, zbz, chkO, setD, dslot, zca, zcb, zcc, zcd, ptrCells_some, F14, Bool.false_and]
    · have hi2 : i = im.keys.length := by have := of_decide_eq_false hge; omega
      rw [hi2, List.drop_length, List.all_nil] at he
      have hke := he.symm
      rw [← he, Bool.true_and] at e1
      simp only [hge]
      simp only [WW, partV, eqCells, eqLf, minV, maxV, ifcV, zaa, zab, zac, zad, zae, zaf, zag, zah, zai, ofConst, ofConst1, List.replicate, zaj, zak, loadOp, Go.Abs.loadCells, binV, zal, pickV, zam, zan, zao, zap, zaq, zar, zas, zat, zau, outR, resAll, resOne, zav, zaw, zax, zay, zaz, zba, zbb, zbc, zbd, zbe, zbf, zbg, zbh, zbi, zbj, zbk, storeOp, storeCell, overlay, zbl, zbm, zbn, lookupOp, keyT, okRes, mapUpdateOp, zbo, zbp, zbq, zbr, zbs, zbt, zbu, Nat.reduceSub, Nat.reduceAdd, Int.reduceLT, Int.reduceLE, Int.reduceAdd, Int.reduceSub, Int.reduceToNat, Int.reduceBEq, Int.reduceBNe, Int.reduceMul, Nat.reduceBEq, Nat.reduceBNe, Nat.reduceLT, Nat.reduceLeDiff, Nat.reduceMul, Nat.reduceEqDiff, WD, effB, effH, isPriv, isHeap, isImm, zbx, zby, zbz, chkO, setD, dslot, zca, zcb, zcc, zcd, ptrCells_some, F14]
      refine wC_loop _ (fun k st' H' => ∃ (i : Nat), st' = ⟨L14_9 (.box 0) (.v (.int .i64 i)), [[fu, st, ke, .int .i64 im.globals]], []⟩ ∧ H' = H ∧ i ≤ im.funs.length ∧ k = im.funs.length - i ∧ (im.funs.drop i).all fnOk = im.funs.all fnOk) im.funs.length ⟨0, ?_, rfl, by omega, by omega, rfl⟩ ?_
      · simp only [WN, firstReg, growAll, zbv, zbw, norm, killS, zag, zah, zaa, zab, zbl, zat, zad, growOne, zae, zaf, zac, zas, zak, Nat.reduceLT, Nat.reduceAdd, zbj, zav, F14, L14_9, y1, y2, y3]
        rfl
      · rintro k st' H ⟨i, rfl, rfl, hi, rfl, he2⟩
        simp only [L14_9]
        simp only [WW, partV, eqCells, eqLf, minV, maxV, ifcV, zaa, zab, zac, zad, zae, zaf, zag, zah, zai, ofConst, ofConst1, List.replicate, zaj, zak, loadOp, Go.Abs.loadCells, binV, zal, pickV, zam, zan, zao, zap, zaq, zar, zas, zat, zau, outR, resAll, resOne, zav, zaw, zax, zay, zaz, zba, zbb, zbc, zbd, zbe, zbf, zbg, zbh, zbi, zbj, zbk, storeOp, storeCell, overlay, zbl, zbm, zbn, lookupOp, keyT, okRes, mapUpdateOp, zbo, zbp, zbq, zbr, zbs, zbt, zbu, Nat.reduceSub, Nat.reduceAdd, Int.reduceLT, Int.reduceLE, Int.reduceAdd, Int.reduceSub, Int.reduceToNat, Int.reduceBEq, Int.reduceBNe, Int.reduceMul, Nat.reduceBEq, Nat.reduceBNe, Nat.reduceLT, Nat.reduceLeDiff, Nat.reduceMul, Nat.reduceEqDiff, WD, effB, effH, isPriv, isHeap, isImm, zbx, zby, zbz, chkO, setD, dslot, zca, zcb, zcc, zcd, ptrCells_some, F14, z1, z2, z3, (hf H).len, fl]
        refine cSplit (fun hlt => ?_) (fun hge => ?_)
        · have hi2 : i < im.funs.length := by have := of_decide_eq_true hlt; omega
          have hsk : im.funs[i]? = some im.funs[i] := List.getElem?_eq_getElem hi2
          generalize im.funs[i] = a at hsk
          obtain ⟨u, hu, hR⟩ := f2.get hsk
          have hmem := List.mem_of_getElem? hsk
          rw [drop_get hsk, List.all_cons] at he2
          simp only [hlt]
          have hnw : ∀ K, wpCall (evW Tryd.prog notes) 37 [u] H K = K (.ret (.bool (fnOk a)) false) H := fun K => wpCall_eq (right_eq hR (m6 a hmem) H)
          obtain ⟨⟨k1, k2', k3, k4, rfl, q1, q2, q3, q4⟩⟩ := hR
          have hat := (hf H).at_ (sz := 6) (i := i) hu rfl
          simp only [WW, partV, eqCells, eqLf, minV, maxV, ifcV, zaa, zab, zac, zad, zae, zaf, zag, zah, zai, ofConst, ofConst1, List.replicate, zaj, zak, loadOp, Go.Abs.loadCells, binV, zal, pickV, zam, zan, zao, zap, zaq, zar, zas, zat, zau, outR, resAll, resOne, zav, zaw, zax, zay, zaz, zba, zbb, zbc, zbd, zbe, zbf, zbg, zbh, zbi, zbj, zbk, storeOp, storeCell, overlay, zbl, zbm, zbn, lookupOp, keyT, okRes, mapUpdateOp, zbo, zbp, zbq, zbr, zbs, zbt, zbu, Nat.reduceSub, Nat.reduceAdd, Int.reduceLT, Int.reduceLE, Int.reduceAdd, Int.reduceSub, Int.reduceToNat, Int.reduceBEq, Int.reduceBNe, Int.reduceMul, Nat.reduceBEq, Nat.reduceBNe, Nat.reduceLT, Nat.reduceLeDiff, Nat.reduceMul, Nat.reduceEqDiff, WD, effB, effH, isPriv, isHeap, isImm, zbx, zby, zbz, chkO, setD, dslot, zca, zcb, zcc, zcd, ptrCells_some, F14, z1, hat.at1 (hf H), hat.cells, (q1 []).cells1, (q2 []).cells1, (q3 []).cells1, (q4 []).cells1, (q1 []).shutIn, (q2 []).shutIn, (q3 []).shutIn, (q4 []).shutIn, hnw]
          cases hp : fnOk a with
          | true =>
            rw [hp, Bool.true_and] at he2
            simp only [WW, partV, eqCells, eqLf, minV, maxV, ifcV, zaa, zab, zac, zad, zae, zaf, zag, zah, zai, ofConst, ofConst1, List.replicate, zaj, zak, loadOp, Go.Abs.loadCells, binV, zal, pickV, zam, zan, zao, zap, zaq, zar, zas, zat, zau, outR, resAll, resOne, zav, zaw, zax, zay, zaz, zba, zbb, zbc, zbd, zbe, zbf, zbg, zbh, zbi, zbj, zbk, storeOp, storeCell, overlay, zbl, zbm, zbn, lookupOp, keyT, okRes, mapUpdateOp, zbo, zbp, zbq, zbr, zbs, zbt, zbu, Nat.reduceSub, Nat.reduceAdd, Int.reduceLT, Int.reduceLE, Int.reduceAdd, Int.reduceSub, Int.reduceToNat, Int.reduceBEq, Int.reduceBNe, Int.reduceMul, Nat.reduceBEq, Nat.reduceBNe, Nat.reduceLT, Nat.reduceLeDiff, Nat.reduceMul, Nat.reduceEqDiff, WD, effB, effH, isPriv, isHeap, isImm, zbx, zby, zbz, chkO, setD, dslot, zca, zcb, zcc, zcd, ptrCells_some, F14]
            refine ⟨im.funs.length - (i + 1), by omega, i + 1, ?_, by omega, rfl, he2⟩
            simp only [WN, firstReg, growAll, zbv, zbw, norm, killS, zag, zah, zaa, zab, zbl, zat, zad, growOne, zae, zaf, zac, zas, zak, Nat.reduceLT, Nat.reduceAdd, zbj, zav, F14, y1, y2, y3]
            rw [IntWalk.i64_in ((i : Int) + 1) (by omega)]; rfl
          | false =>
            rw [hp, Bool.false_and] at he2
            rw [e1, ← he2]
            simp only [WW, partV, eqCells, eqLf, minV, maxV, ifcV, zaa, zab, zac, zad, zae, zaf, zag, zah, zai, ofConst, ofConst1, List.replicate, zaj, zak, loadOp, Go.Abs.loadCells, binV, zal, pickV, zam, zan, zao, zap, zaq, zar, zas, zat, zau, outR, resAll, resOne, zav, zaw, zax, zay, zaz, zba, zbb, zbc, zbd, zbe, zbf, zbg, zbh, zbi, zbj, zbk, storeOp, storeCell, overlay, zbl, zbm, zbn, lookupOp, keyT, okRes, mapUpdateOp, zbo, zbp, zbq, zbr, zbs, zbt, zbu, Nat.reduceSub, Nat.reduceAdd, Int.reduceLT, Int.reduceLE, Int.reduceAdd, Int.reduceSub, Int.reduceToNat, Int.reduceBEq, Int.reduceBNe, Int.reduceMul, Nat.reduceBEq, Nat.reduceBNe, Nat.reduceLT, Nat.reduceLeDiff, Nat.reduceMul, Nat.reduceEqDiff, WD, effB, effH, isPriv, isHeap, isImm, zbx, zby, zbz, chkO, setD, dslot, zca, zcb, zcc, zcd, ptrCells_some, F14]
        · have hi2 : i = im.funs.length := by have := of_decide_eq_false hge; omega
          rw [hi2, List.drop_length, List.all_nil] at he2
          rw [← he2] at e1
          simp only [hge]
          have hlen := hlen e1
          have eim : encIm im = (((((((magicB ++ encN im.strs.length) ++ im.strs.flatMap encS) ++ encN im.keys.length) ++ im.keys.flatMap (encL encI)) ++ encI im.globals) ++ encN im.funs.length) ++ im.funs.flatMap encFn) := by
            simp only [encIm, encL, List.append_assoc]
          rw [e1, eim]
          rw [eim] at hlen
          simp only [List.length_append] at hlen
          have n1 : ∀ K, wpCall (evW Tryd.prog notes) 38 [.int .i64 (im.strs.length : Nat)] H K = K (.ret (.rsl (bs (encN im.strs.length))) true) H := fun K => wpCall_eq (number_eq _ _ (Nat.lt_succ_self _) H (by omega))
          have n2 : ∀ K, wpCall (evW Tryd.prog notes) 38 [.int .i64 (im.keys.length : Nat)] H K = K (.ret (.rsl (bs (encN im.keys.length))) true) H := fun K => wpCall_eq (number_eq _ _ (Nat.lt_succ_self _) H (by omega))
          have n3 : ∀ K, wpCall (evW Tryd.prog notes) 38 [.int .i64 (im.funs.length : Nat)] H K = K (.ret (.rsl (bs (encN im.funs.length))) true) H := fun K => wpCall_eq (number_eq _ _ (Nat.lt_succ_self _) H (by omega))
          have n4 : ∀ K, wpCall (evW Tryd.prog notes) 38 [.int .i64 im.globals] H K = K (.ret (.rsl (bs (encI im.globals))) true) H := fun K => wpCall_eq (encI_eq hg H)
          have p1 := fun s b tl H d => appB magicB (encN im.strs.length) (by omega) s b tl H d
          have hmg : [V.int .u8 74, .int .u8 81, .int .u8 48, .int .u8 49] = bs magicB := rfl
          have hm4 : V.lr 0 4 = V.lr 0 magicB.length := rfl
          simp only [WW, partV, eqCells, eqLf, minV, maxV, ifcV, zaa, zab, zac, zad, zae, zaf, zag, zah, zai, ofConst, ofConst1, List.replicate, zaj, zak, loadOp, Go.Abs.loadCells, binV, zal, pickV, zam, zan, zao, zap, zaq, zar, zas, zat, zau, outR, resAll, resOne, zav, zaw, zax, zay, zaz, zba, zbb, zbc, zbd, zbe, zbf, zbg, zbh, zbi, zbj, zbk, storeOp, storeCell, overlay, zbl, zbm, zbn, lookupOp, keyT, okRes, mapUpdateOp, zbo, zbp, zbq, zbr, zbs, zbt, zbu, Nat.reduceSub, Nat.reduceAdd, Int.reduceLT, Int.reduceLE, Int.reduceAdd, Int.reduceSub, Int.reduceToNat, Int.reduceBEq, Int.reduceBNe, Int.reduceMul, Nat.reduceBEq, Nat.reduceBNe, Nat.reduceLT, Nat.reduceLeDiff, Nat.reduceMul, Nat.reduceEqDiff, WD, effB, effH, isPriv, isHeap, isImm, zbx, zby, zbz, chkO, setD, dslot, zca, zcb, zcc, zcd, ptrCells_some, F14, z1, z2, z3, (hs H).len, sl, buildSliceV, lits, srcV_eq, srcK_sl, srcK_str, srcSl_nils, srcSl_rsl, srcSl_sl, frow, zbv, zbw, List.all_nil, List.all_cons, rowV, Bool.false_and, Bool.and_false, ne_eq, not_false_eq_true, grows_lr, callOut_t]
          rw [hmg, hm4]
          simp only [WW, partV, eqCells, eqLf, minV, maxV, ifcV, zaa, zab, zac, zad, zae, zaf, zag, zah, zai, ofConst, ofConst1, List.replicate, zaj, zak, loadOp, Go.Abs.loadCells, binV, zal, pickV, zam, zan, zao, zap, zaq, zar, zas, zat, zau, outR, resAll, resOne, zav, zaw, zax, zay, zaz, zba, zbb, zbc, zbd, zbe, zbf, zbg, zbh, zbi, zbj, zbk, storeOp, storeCell, overlay, zbl, zbm, zbn, lookupOp, keyT, okRes, mapUpdateOp, zbo, zbp, zbq, zbr, zbs, zbt, zbu, Nat.reduceSub, Nat.reduceAdd, Int.reduceLT, Int.reduceLE, Int.reduceAdd, Int.reduceSub, Int.reduceToNat, Int.reduceBEq, Int.reduceBNe, Int.reduceMul, Nat.reduceBEq, Nat.reduceBNe, Nat.reduceLT, Nat.reduceLeDiff, Nat.reduceMul, Nat.reduceEqDiff, WD, effB, effH, isPriv, isHeap, isImm, zbx, zby, zbz, chkO, setD, dslot, zca, zcb, zcc, zcd, ptrCells_some, F14, z1, z2, z3, (hs H).len, sl, n1, bs_len, buildSliceV, lits, srcV_eq, srcK_sl, srcK_str, srcSl_nils, srcSl_rsl, srcSl_sl, frow, zbv, zbw, List.all_nil, List.all_cons, rowV, Bool.false_and, Bool.and_false, ne_eq, not_false_eq_true, grows_lr, callOut_t, take_bs, p1]
          refine wC_loop _ (fun k st' H' => ∃ (i : Nat) (acc : List Nat), st' = ⟨L14_16 (.box 0) (.v (.lr 0 acc.length)) (.v (.int .i64 i)), [[fu, st, ke, .int .i64 im.globals]], [⟨true, false, bs acc⟩, ⟨true, false, bs (encN im.strs.length)⟩]⟩ ∧ H' = H ∧ i ≤ im.strs.length ∧ k = im.strs.length - i ∧ acc ++ (im.strs.drop i).flatMap encS = (magicB ++ encN im.strs.length) ++ im.strs.flatMap encS) im.strs.length ⟨0, _, ?_, rfl, by omega, by omega, rfl⟩ ?_
          · simp only [WN, firstReg, growAll, zbv, zbw, norm, killS, zag, zah, zaa, zab, zbl, zat, zad, growOne, zae, zaf, zac, zas, zak, Nat.reduceLT, Nat.reduceAdd, zbj, zav, F14, L14_16, y1, y2, y3]
            rfl
          · rintro k st' H ⟨i, acc, rfl, rfl, hi, rfl, he⟩
            simp only [L14_16]
            simp only [WW, partV, eqCells, eqLf, minV, maxV, ifcV, zaa, zab, zac, zad, zae, zaf, zag, zah, zai, ofConst, ofConst1, List.replicate, zaj, zak, loadOp, Go.Abs.loadCells, binV, zal, pickV, zam, zan, zao, zap, zaq, zar, zas, zat, zau, outR, resAll, resOne, zav, zaw, zax, zay, zaz, zba, zbb, zbc, zbd, zbe, zbf, zbg, zbh, zbi, zbj, zbk, storeOp, storeCell, overlay, zbl, zbm, zbn, lookupOp, keyT, okRes, mapUpdateOp, zbo, zbp, zbq, zbr, zbs, zbt, zbu, Nat.reduceSub, Nat.reduceAdd, Int.reduceLT, Int.reduceLE, Int.reduceAdd, Int.reduceSub, Int.reduceToNat, Int.reduceBEq, Int.reduceBNe, Int.reduceMul, Nat.reduceBEq, Nat.reduceBNe, Nat.reduceLT, Nat.reduceLeDiff, Nat.reduceMul, Nat.reduceEqDiff, WD, effB, effH, isPriv, isHeap, isImm, zbx, zby, zbz, chkO, setD, dslot, zca, zcb, zcc, zcd, ptrCells_some, F14, z1, z2, z3, (hs H).len, sl]
            refine cSplit (fun hlt => ?_) (fun hge => ?_)
            · have hi2 : i < im.strs.length := by have := of_decide_eq_true hlt; omega
              have hsk : im.strs[i]? = some im.strs[i] := List.getElem?_eq_getElem hi2
              generalize im.strs[i] = a at hsk
              have hmem := List.mem_of_getElem? hsk
              have ha := m4 a hmem
              rw [drop_get hsk, List.flatMap_cons, ← List.append_assoc] at he
              have hle := congrArg List.length he
              have elen : (encS a).length = (encN a.size).length + (strB a).length := by simp only [encS, List.length_append]
              simp only [List.length_append] at hle
              simp only [hlt]
              have hat := (hs H).at_ (sz := 1) (i := i) (e := .str a) (by rw [List.getElem?_map, hsk]; rfl) rfl
              have o1 : ∀ K, wpCall (evW Tryd.prog notes) 38 [.int .i64 (a.size : Nat)] H K = K (.ret (.rsl (bs (encN a.size))) true) H := fun K => wpCall_eq (number_eq _ _ (Nat.lt_succ_self _) H (by omega))
              have o2 := fun s b tl H d => appB acc (encN a.size) (by omega) s b tl H d
              have o3 := fun s b tl H d => appB (acc ++ encN a.size) (strB a) (by simp only [List.length_append]; omega) s b tl H d
              have hbig : decide ((4194304 : Int) < ((acc ++ encN a.size ++ strB a).length : Int)) = false := decide_eq_false (by simp only [List.length_append]; omega)
              simp only [WW, partV, eqCells, eqLf, minV, maxV, ifcV, zaa, zab, zac, zad, zae, zaf, zag, zah, zai, ofConst, ofConst1, List.replicate, zaj, zak, loadOp, Go.Abs.loadCells, binV, zal, pickV, zam, zan, zao, zap, zaq, zar, zas, zat, zau, outR, resAll, resOne, zav, zaw, zax, zay, zaz, zba, zbb, zbc, zbd, zbe, zbf, zbg, zbh, zbi, zbj, zbk, storeOp, storeCell, overlay, zbl, zbm, zbn, lookupOp, keyT, okRes, mapUpdateOp, zbo, zbp, zbq, zbr, zbs, zbt, zbu, Nat.reduceSub, Nat.reduceAdd, Int.reduceLT, Int.reduceLE, Int.reduceAdd, Int.reduceSub, Int.reduceToNat, Int.reduceBEq, Int.reduceBNe, Int.reduceMul, Nat.reduceBEq, Nat.reduceBNe, Nat.reduceLT, Nat.reduceLeDiff, Nat.reduceMul, Nat.reduceEqDiff, WD, effB, effH, isPriv, isHeap, isImm, zbx, zby, zbz, chkO, setD, dslot, zca, zcb, zcc, zcd, ptrCells_some, F14]
              refine wC_dr alts14_18 (by kernel_rfl) ?_
              simp only [WW, partV, eqCells, eqLf, minV, maxV, ifcV, zaa, zab, zac, zad, zae, zaf, zag, zah, zai, ofConst, ofConst1, List.replicate, zaj, zak, loadOp, Go.Abs.loadCells, binV, zal, pickV, zam, zan, zao, zap, zaq, zar, zas, zat, zau, outR, resAll, resOne, zav, zaw, zax, zay, zaz, zba, zbb, zbc, zbd, zbe, zbf, zbg, zbh, zbi, zbj, zbk, storeOp, storeCell, overlay, zbl, zbm, zbn, lookupOp, keyT, okRes, mapUpdateOp, zbo, zbp, zbq, zbr, zbs, zbt, zbu, Nat.reduceSub, Nat.reduceAdd, Int.reduceLT, Int.reduceLE, Int.reduceAdd, Int.reduceSub, Int.reduceToNat, Int.reduceBEq, Int.reduceBNe, Int.reduceMul, Nat.reduceBEq, Nat.reduceBNe, Nat.reduceLT, Nat.reduceLeDiff, Nat.reduceMul, Nat.reduceEqDiff, WD, effB, effH, isPriv, isHeap, isImm, zbx, zby, zbz, chkO, setD, dslot, zca, zcb, zcc, zcd, ptrCells_some, F14, alts14_18, z2, hat.at1 (hs H), hat.cells, o1, bs_len, buildSliceV, lits, srcV_eq, srcK_sl, srcK_str, srcSl_nils, srcSl_rsl, srcSl_sl, frow, zbv, zbw, List.all_nil, List.all_cons, rowV, Bool.false_and, Bool.and_false, ne_eq, not_false_eq_true, grows_lr, callOut_t, take_bs, strB_bs, o2, o3, hbig]
              refine ⟨im.strs.length - (i + 1), by omega, i + 1, (acc ++ encN a.size) ++ strB a, ?_, by omega, rfl, ?_⟩
              · simp only [WN, firstReg, growAll, zbv, zbw, norm, killS, zag, zah, zaa, zab, zbl, zat, zad, growOne, zae, zaf, zac, zas, zak, Nat.reduceLT, Nat.reduceAdd, zbj, zav, F14, y1, y2, y3]
                rw [IntWalk.i64_in ((i : Int) + 1) (by omega)]; rfl
              · rw [← he]; simp only [encS, List.append_assoc]
            · have hi2 : i = im.strs.length := by have := of_decide_eq_false hge; omega
              rw [hi2, List.drop_length, List.flatMap_nil, List.append_nil] at he
              subst he
              simp only [hge]
              have p1 := fun s b tl H d => appB ((magicB ++ encN im.strs.length) ++ im.strs.flatMap encS) (encN im.keys.length) (by simp only [List.length_append]; omega) s b tl H d
              simp only [WW, partV, eqCells, eqLf, minV, maxV, ifcV, zaa, zab, zac, zad, zae, zaf, zag, zah, zai, ofConst, ofConst1, List.replicate, zaj, zak, loadOp, Go.Abs.loadCells, binV, zal, pickV, zam, zan, zao, zap, zaq, zar, zas, zat, zau, outR, resAll, resOne, zav, zaw, zax, zay, zaz, zba, zbb, zbc, zbd, zbe, zbf, zbg, zbh, zbi, zbj, zbk, storeOp, storeCell, overlay, zbl, zbm, zbn, lookupOp, keyT, okRes, mapUpdateOp, zbo, zbp, zbq, zbr, zbs, zbt, zbu, Nat.reduceSub, Nat.reduceAdd, Int.reduceLT, Int.reduceLE, Int.reduceAdd, Int.reduceSub, Int.reduceToNat, Int.reduceBEq, Int.reduceBNe, Int.reduceMul, Nat.reduceBEq, Nat.reduceBNe, Nat.reduceLT, Nat.reduceLeDiff, Nat.reduceMul, Nat.reduceEqDiff, WD, effB, effH, isPriv, isHeap, isImm, zbx, zby, zbz, chkO, setD, dslot, zca, zcb, zcc, zcd, ptrCells_some, F14, z1, z2, z3, (hk H).len, kl, n2, bs_len, buildSliceV, lits, srcV_eq, srcK_sl, srcK_str, srcSl_nils, srcSl_rsl, srcSl_sl, frow, zbv, zbw, List.all_nil, List.all_cons, rowV, Bool.false_and, Bool.and_false, ne_eq, not_false_eq_true, grows_lr, callOut_t, take_bs, p1]
              refine wC_loop _ (fun k st' H' => ∃ (i : Nat) (acc : List Nat), st' = ⟨L14_23 (.box 0) (.v (.lr 0 acc.length)) (.v (.int .i64 i)), [[fu, st, ke, .int .i64 im.globals]], [⟨true, false, bs acc⟩, ⟨true, false, bs (encN im.strs.length)⟩, ⟨true, false, bs (encN im.keys.length)⟩]⟩ ∧ H' = H ∧ i ≤ im.keys.length ∧ k = im.keys.length - i ∧ acc ++ (im.keys.drop i).flatMap (encL encI) = (((magicB ++ encN im.strs.length) ++ im.strs.flatMap encS) ++ encN im.keys.length) ++ im.keys.flatMap (encL encI)) im.keys.length ⟨0, _, ?_, rfl, by omega, by omega, rfl⟩ ?_
              · simp only [WN, firstReg, growAll, zbv, zbw, norm, killS, zag, zah, zaa, zab, zbl, zat, zad, growOne, zae, zaf, zac, zas, zak, Nat.reduceLT, Nat.reduceAdd, zbj, zav, F14, L14_23, y1, y2, y3]
                rfl
              · rintro k st' H ⟨i, acc, rfl, rfl, hi, rfl, he⟩
                simp only [L14_23]
                simp only [WW, partV, eqCells, eqLf, minV, maxV, ifcV, zaa, zab, zac, zad, zae, zaf, zag, zah, zai, ofConst, ofConst1, List.replicate, zaj, zak, loadOp, Go.Abs.loadCells, binV, zal, pickV, zam, zan, zao, zap, zaq, zar, zas, zat, zau, outR, resAll, resOne, zav, zaw, zax, zay, zaz, zba, zbb, zbc, zbd, zbe, zbf, zbg, zbh, zbi, zbj, zbk, storeOp, storeCell, overlay, zbl, zbm, zbn, lookupOp, keyT, okRes, mapUpdateOp, zbo, zbp, zbq, zbr, zbs, zbt, zbu, Nat.reduceSub, Nat.reduceAdd, Int.reduceLT, Int.reduceLE, Int.reduceAdd, Int.reduceSub, Int.reduceToNat, Int.reduceBEq, Int.reduceBNe, Int.reduceMul, Nat.reduceBEq, Nat.reduceBNe, Nat.reduceLT, Nat.reduceLeDiff, Nat.reduceMul, Nat.reduceEqDiff, WD, effB, effH, isPriv, isHeap, isImm, zbx, zby, zbz, chkO, setD, dslot, zca, zcb, zcc, zcd, ptrCells_some, F14, z1, z2, z3, (hk H).len, kl]
                refine cSplit (fun hlt => ?_) (fun hge => ?_)
                · have hi2 : i < im.keys.length := by have := of_decide_eq_true hlt; omega
                  have hsk : im.keys[i]? = some im.keys[i] := List.getElem?_eq_getElem hi2
                  generalize im.keys[i] = a at hsk
                  obtain ⟨u, hu, hR⟩ := k2.get hsk
                  have hmem := List.mem_of_getElem? hsk
                  have ha := m5 a hmem
                  have hpa := all_mem hke hmem
                  rw [drop_get hsk, List.flatMap_cons, ← List.append_assoc] at he
                  have hle := congrArg List.length he
                  simp only [List.length_append] at hle
                  simp only [hlt]
                  have hat := (hk H).at_ (sz := 1) (i := i) (e := u) hu (hR []).width1
                  have o1 : ∀ K, wpCall (evW Tryd.prog notes) 39 [u] H K = K (.ret (.rsl (bs (encL encI a))) true) H := fun K => wpCall_eq (list_eq hR (by omega) hpa H)
                  have o2 := fun s b tl H d => appB acc (encL encI a) (by omega) s b tl H d
                  simp only [WW, partV, eqCells, eqLf, minV, maxV, ifcV, zaa, zab, zac, zad, zae, zaf, zag, zah, zai, ofConst, ofConst1, List.replicate, zaj, zak, loadOp, Go.Abs.loadCells, binV, zal, pickV, zam, zan, zao, zap, zaq, zar, zas, zat, zau, outR, resAll, resOne, zav, zaw, zax, zay, zaz, zba, zbb, zbc, zbd, zbe, zbf, zbg, zbh, zbi, zbj, zbk, storeOp, storeCell, overlay, zbl, zbm, zbn, lookupOp, keyT, okRes, mapUpdateOp, zbo, zbp, zbq, zbr, zbs, zbt, zbu, Nat.reduceSub, Nat.reduceAdd, Int.reduceLT, Int.reduceLE, Int.reduceAdd, Int.reduceSub, Int.reduceToNat, Int.reduceBEq, Int.reduceBNe, Int.reduceMul, Nat.reduceBEq, Nat.reduceBNe, Nat.reduceLT, Nat.reduceLeDiff, Nat.reduceMul, Nat.reduceEqDiff, WD, effB, effH, isPriv, isHeap, isImm, zbx, zby, zbz, chkO, setD, dslot, zca, zcb, zcc, zcd, ptrCells_some, F14, z3, hat.at1 (hk H), hat.cells, (hR []).cells1, (hR []).shutIn, o1, bs_len, buildSliceV, lits, srcV_eq, srcK_sl, srcK_str, srcSl_nils, srcSl_rsl, srcSl_sl, frow, zbv, zbw, List.all_nil, List.all_cons, rowV, Bool.false_and, Bool.and_false, ne_eq, not_false_eq_true, grows_lr, callOut_t, take_bs, o2]
                  refine ⟨im.keys.length - (i + 1), by omega, i + 1, acc ++ encL encI a, ?_, by omega, rfl, he⟩
                  simp only [WN, firstReg, growAll, zbv, zbw, norm, killS, zag, zah, zaa, zab, zbl, zat, zad, growOne, zae, zaf, zac, zas, zak, Nat.reduceLT, Nat.reduceAdd, zbj, zav, F14, y1, y2, y3]
                  rw [IntWalk.i64_in ((i : Int) + 1) (by omega)]; rfl
                · have hi2 : i = im.keys.length := by have := of_decide_eq_false hge; omega
                  rw [hi2, List.drop_length, List.flatMap_nil, List.append_nil] at he
                  subst he
                  simp only [hge]
                  have p1 := fun s b tl H d => appB ((((magicB ++ encN im.strs.length) ++ im.strs.flatMap encS) ++ encN im.keys.length) ++ im.keys.flatMap (encL encI)) (encI im.globals) (by simp only [List.length_append]; omega) s b tl H d
                  have p2 := fun s b tl H d => appB (((((magicB ++ encN im.strs.length) ++ im.strs.flatMap encS) ++ encN im.keys.length) ++ im.keys.flatMap (encL encI)) ++ encI im.globals) (encN im.funs.length) (by simp only [List.length_append]; omega) s b tl H d
                  simp only [WW, partV, eqCells, eqLf, minV, maxV, ifcV, zaa, zab, zac, zad, zae, zaf, zag, zah, zai, ofConst, ofConst1, List.replicate, zaj, zak, loadOp, Go.Abs.loadCells, binV, zal, pickV, zam, zan, zao, zap, zaq, zar, zas, zat, zau, outR, resAll, resOne, zav, zaw, zax, zay, zaz, zba, zbb, zbc, zbd, zbe, zbf, zbg, zbh, zbi, zbj, zbk, storeOp, storeCell, overlay, zbl, zbm, zbn, lookupOp, keyT, okRes, mapUpdateOp, zbo, zbp, zbq, zbr, zbs, zbt, zbu, Nat.reduceSub, Nat.reduceAdd, Int.reduceLT, Int.reduceLE, Int.reduceAdd, Int.reduceSub, Int.reduceToNat, Int.reduceBEq, Int.reduceBNe, Int.reduceMul, Nat.reduceBEq, Nat.reduceBNe, Nat.reduceLT, Nat.reduceLeDiff, Nat.reduceMul, Nat.reduceEqDiff, WD, effB, effH, isPriv, isHeap, isImm, zbx, zby, zbz, chkO, setD, dslot, zca, zcb, zcc, zcd, ptrCells_some, F14, z1, z2, z3, (hf H).len, fl, n3, n4, bs_len, buildSliceV, lits, srcV_eq, srcK_sl, srcK_str, srcSl_nils, srcSl_rsl, srcSl_sl, frow, zbv, zbw, List.all_nil, List.all_cons, rowV, Bool.false_and, Bool.and_false, ne_eq, not_false_eq_true, grows_lr, callOut_t, take_bs, p1, p2]
                  refine wC_loop _ (fun k st' H' => ∃ (i : Nat) (acc : List Nat), st' = ⟨L14_29 (.box 0) (.v (.lr 0 acc.length)) (.v (.int .i64 i)), [[fu, st, ke, .int .i64 im.globals]], [⟨true, false, bs acc⟩, ⟨true, false, bs (encN im.strs.length)⟩, ⟨true, false, bs (encN im.keys.length)⟩, ⟨true, false, bs (encI im.globals)⟩, ⟨true, false, bs (encN im.funs.length)⟩]⟩ ∧ H' = H ∧ i ≤ im.funs.length ∧ k = im.funs.length - i ∧ acc ++ (im.funs.drop i).flatMap encFn = (((((((magicB ++ encN im.strs.length) ++ im.strs.flatMap encS) ++ encN im.keys.length) ++ im.keys.flatMap (encL encI)) ++ encI im.globals) ++ encN im.funs.length) ++ im.funs.flatMap encFn)) im.funs.length ⟨0, _, ?_, rfl, by omega, by omega, rfl⟩ ?_
                  · simp only [WN, firstReg, growAll, zbv, zbw, norm, killS, zag, zah, zaa, zab, zbl, zat, zad, growOne, zae, zaf, zac, zas, zak, Nat.reduceLT, Nat.reduceAdd, zbj, zav, F14, L14_29, y1, y2, y3]
                    rfl
                  · rintro k st' H ⟨i, acc, rfl, rfl, hi, rfl, he⟩
                    simp only [L14_29]
                    simp only [WW, partV, eqCells, eqLf, minV, maxV, ifcV, zaa, zab, zac, zad, zae, zaf, zag, zah, zai, ofConst, ofConst1, List.replicate, zaj, zak, loadOp, Go.Abs.loadCells, binV, zal, pickV, zam, zan, zao, zap, zaq, zar, zas, zat, zau, outR, resAll, resOne, zav, zaw, zax, zay, zaz, zba, zbb, zbc, zbd, zbe, zbf, zbg, zbh, zbi, zbj, zbk, storeOp, storeCell, overlay, zbl, zbm, zbn, lookupOp, keyT, okRes, mapUpdateOp, zbo, zbp, zbq, zbr, zbs, zbt, zbu, Nat.reduceSub, Nat.reduceAdd, Int.reduceLT, Int.reduceLE, Int.reduceAdd, Int.reduceSub, Int.reduceToNat, Int.reduceBEq, Int.reduceBNe, Int.reduceMul, Nat.reduceBEq, Nat.reduceBNe, Nat.reduceLT, Nat.reduceLeDiff, Nat.reduceMul, Nat.reduceEqDiff, WD, effB, effH, isPriv, isHeap, isImm, zbx, zby, zbz, chkO, setD, dslot, zca, zcb, zcc, zcd, ptrCells_some, F14, z1, z2, z3, (hf H).len, fl]
                    refine cSplit (fun hlt => ?_) (fun hge => ?_)
                    · have hi2 : i < im.funs.length := by have := of_decide_eq_true hlt; omega
                      have hsk : im.funs[i]? = some im.funs[i] := List.getElem?_eq_getElem hi2
                      generalize im.funs[i] = a at hsk
                      obtain ⟨u, hu, hR⟩ := f2.get hsk
                      have hmem := List.mem_of_getElem? hsk
                      have hpa := all_mem he2.symm hmem
                      rw [drop_get hsk, List.flatMap_cons, ← List.append_assoc] at he
                      have hle := congrArg List.length he
                      simp only [List.length_append] at hle
                      simp only [hlt]
                      have o1 : ∀ K, wpCall (evW Tryd.prog notes) 40 [u] H K = K (.ret (.rsl (bs (encFn a))) true) H := fun K => wpCall_eq (rfunction_eq hR (m6 a hmem) hpa H)
                      have o2 := fun s b tl H d => appB acc (encFn a) (by omega) s b tl H d
                      obtain ⟨⟨k1, k2', k3, k4, rfl, q1, q2, q3, q4⟩⟩ := hR
                      have hat := (hf H).at_ (sz := 6) (i := i) hu rfl
                      simp only [WW, partV, eqCells, eqLf, minV, maxV, ifcV, zaa, zab, zac, zad, zae, zaf, zag, zah, zai, ofConst, ofConst1, List.replicate, zaj, zak, loadOp, Go.Abs.loadCells, binV, zal, pickV, zam, zan, zao, zap, zaq, zar, zas, zat, zau, outR, resAll, resOne, zav, zaw, zax, zay, zaz, zba, zbb, zbc, zbd, zbe, zbf, zbg, zbh, zbi, zbj, zbk, storeOp, storeCell, overlay, zbl, zbm, zbn, lookupOp, keyT, okRes, mapUpdateOp, zbo, zbp, zbq, zbr, zbs, zbt, zbu, Nat.reduceSub, Nat.reduceAdd, Int.reduceLT, Int.reduceLE, Int.reduceAdd, Int.reduceSub, Int.reduceToNat, Int.reduceBEq, Int.reduceBNe, Int.reduceMul, Nat.reduceBEq, Nat.reduceBNe, Nat.reduceLT, Nat.reduceLeDiff, Nat.reduceMul, Nat.reduceEqDiff, WD, effB, effH, isPriv, isHeap, isImm, zbx, zby, zbz, chkO, setD, dslot, zca, zcb, zcc, zcd, ptrCells_some, F14, z1, hat.at1 (hf H), hat.cells, (q1 []).cells1, (q2 []).cells1, (q3 []).cells1, (q4 []).cells1, (q1 []).shutIn, (q2 []).shutIn, (q3 []).shutIn, (q4 []).shutIn, o1, bs_len, buildSliceV, lits, srcV_eq, srcK_sl, srcK_str, srcSl_nils, srcSl_rsl, srcSl_sl, frow, zbv, zbw, List.all_nil, List.all_cons, rowV, Bool.false_and, Bool.and_false, ne_eq, not_false_eq_true, grows_lr, callOut_t, take_bs, o2]
                      refine ⟨im.funs.length - (i + 1), by omega, i + 1, acc ++ encFn a, ?_, by omega, rfl, he⟩
                      simp only [WN, firstReg, growAll, zbv, zbw, norm, killS, zag, zah, zaa, zab, zbl, zat, zad, growOne, zae, zaf, zac, zas, zak, Nat.reduceLT, Nat.reduceAdd, zbj, zav, F14, y1, y2, y3]
                      rw [IntWalk.i64_in ((i : Int) + 1) (by omega)]; rfl
                    · have hi2 : i = im.funs.length := by have := of_decide_eq_false hge; omega
                      rw [hi2, List.drop_length, List.flatMap_nil, List.append_nil] at he
                      have hle := congrArg List.length he
                      simp only [List.length_append] at hle
                      rw [← he]
                      simp only [hge]
                      have hbig : decide ((4194304 : Int) < (acc.length : Int)) = false := decide_eq_false (by omega)
                      simp only [WW, partV, eqCells, eqLf, minV, maxV, ifcV, zaa, zab, zac, zad, zae, zaf, zag, zah, zai, ofConst, ofConst1, List.replicate, zaj, zak, loadOp, Go.Abs.loadCells, binV, zal, pickV, zam, zan, zao, zap, zaq, zar, zas, zat, zau, outR, resAll, resOne, zav, zaw, zax, zay, zaz, zba, zbb, zbc, zbd, zbe, zbf, zbg, zbh, zbi, zbj, zbk, storeOp, storeCell, overlay, zbl, zbm, zbn, lookupOp, keyT, okRes, mapUpdateOp, zbo, zbp, zbq, zbr, zbs, zbt, zbu, Nat.reduceSub, Nat.reduceAdd, Int.reduceLT, Int.reduceLE, Int.reduceAdd, Int.reduceSub, Int.reduceToNat, Int.reduceBEq, Int.reduceBNe, Int.reduceMul, Nat.reduceBEq, Nat.reduceBNe, Nat.reduceLT, Nat.reduceLeDiff, Nat.reduceMul, Nat.reduceEqDiff, WD, effB, effH, isPriv, isHeap, isImm, zbx, zby, zbz, chkO, setD, dslot, zca, zcb, zcc, zcd, ptrCells_some, F14, bs_len, buildSliceV, lits, srcV_eq, srcK_sl, srcK_str, srcSl_nils, srcSl_rsl, srcSl_sl, frow, zbv, zbw, List.all_nil, List.all_cons, rowV, Bool.false_and, Bool.and_false, ne_eq, not_false_eq_true, grows_lr, callOut_t, take_bs, hbig]
end Go.Proofs.YtgjobbmbbedecaaDoor

/- What is too big to be asked; the statement on images as bytes. -/
namespace Go.Proofs.YtgjobbmbbedecaaDoor
open Go Go.Abs Go.Proofs
set_option maxRecDepth 100000
set_option maxHeartbeats 8000000
set_option linter.unusedVariables false
set_option linter.unusedSimpArgs false
theorem big_spec {v : V} {im : ImM} (q : ImV v im) (H : Hp) : wpCall EW 11 [v] H (fun out H' => ∃ b, out = .ret (.bool b) false ∧ H' = H ∧ (b = false → imSm im)) := by
  obtain ⟨fu, st, ke, fs, ks, rfl, hf, hs, hk, f2, k2⟩ := q
  have z1 := fun st => (hf []).shutIn st
  have z2 := fun s => (hs []).shutIn s
  have z3 := fun st => (hk []).shutIn st
  have y1 := fun n => (hf []).clip n
  have y2 := fun n => (hs []).clip n
  have y3 := fun n => (hk []).clip n
  have x1 := (hf []).cells1
  have x2 := (hs []).cells1
  have x3 := (hk []).cells1
  have w1 := (hf []).ok
  have w2 := (hs []).ok
  have w3 := (hk []).ok
  have fl := f2.len
  have kl := k2.len
  have sl : (im.strs.map V.str).length = im.strs.length := List.length_map ..
  have no : ∀ {p : Prop}, (true = false → p) := fun h => by cases h
  refine runs f11 b11 r11 n11 _ _ ?_
  simp only [bodyOf, Tryd.f11, Option.getD_some]
  have l1 := (hf H).len 50
  have l2 := (hs H).len 9
  have l3 := (hk H).len 45
  rw [fl] at l1
  rw [sl] at l2
  rw [kl] at l3
  cases g1 : decide ((30 : Int) < (im.funs.length : Int)) with
  | true =>
    simp only [WW, partV, eqCells, eqLf, minV, maxV, ifcV, zaa, zab, zac, zad, zae, zaf, zag, zah, zai, ofConst, ofConst1, List.replicate, zaj, zak, loadOp, Go.Abs.loadCells, binV, zal, pickV, zam, zan, zao, zap, zaq, zar, zas, zat, zau, outR, resAll, resOne, zav, zaw, zax, zay, zaz, zba, zbb, zbc, zbd, zbe, zbf, zbg, zbh, zbi, zbj, zbk, storeOp, storeCell, overlay, zbl, zbm, zbn, lookupOp, keyT, okRes, mapUpdateOp, zbo, zbp, zbq, zbr, zbs, zbt, zbu, Nat.reduceSub, Nat.reduceAdd, Int.reduceLT, Int.reduceLE, Int.reduceAdd, Int.reduceSub, Int.reduceToNat, Int.reduceBEq, Int.reduceBNe, Int.reduceMul, Nat.reduceBEq, Nat.reduceBNe, Nat.reduceLT, Nat.reduceLeDiff, Nat.reduceMul, Nat.reduceEqDiff, WD, effB, effH, isPriv, isHeap, isImm, zbx, zby, zbz, chkO, setD, dslot, zca, zcb, zcc, zcd, ptrCells_some, F11, z1, z2, z3, x1, x2, x3, w1, w2, w3, l1, l2, l3, g1]
    exact ⟨_, rfl, no⟩
  | false =>
  cases g2 : decide ((100 : Int) < (im.strs.length : Int)) with
  | true =>
    simp only [WW, partV, eqCells, eqLf, minV, maxV, ifcV, zaa, zab, zac, zad, zae, zaf, zag, zah, zai, ofConst, ofConst1, List.replicate, zaj, zak, loadOp, Go.Abs.loadCells, binV, zal, pickV, zam, zan, zao, zap, zaq, zar, zas, zat, zau, outR, resAll, resOne, zav, zaw, zax, zay, zaz, zba, zbb, zbc, zbd, zbe, zbf, zbg, zbh, zbi, zbj, zbk, storeOp, storeCell, overlay, zbl, zbm, zbn, lookupOp, keyT, okRes, mapUpdateOp, zbo, zbp, zbq, zbr, zbs, zbt, zbu, Nat.reduceSub, Nat.reduceAdd, Int.reduceLT, Int.reduceLE, Int.reduceAdd, Int.reduceSub, Int.reduceToNat, Int.reduceBEq, Int.reduceBNe, Int.reduceMul, Nat.reduceBEq, Nat.reduceBNe, Nat.reduceLT, Nat.reduceLeDiff, Nat.reduceMul, Nat.reduceEqDiff, WD, effB, effH, isPriv, isHeap, isImm, zbx, zby, zbz, chkO, setD, dslot, zca, zcb, zcc, zcd, ptrCells_some, F11, z1, z2, z3, x1, x2, x3, w1, w2, w3, l1, l2, l3, g1, g2]
    exact ⟨_, rfl, no⟩
  | false =>
  cases g3 : decide ((50 : Int) < (im.keys.length : Int)) with
  | true =>
    simp only [WW, partV, eqCells, eqLf, minV, maxV, ifcV, zaa, zab, zac, zad, zae, zaf, zag, zah, zai, ofConst, ofConst1, List.replicate, zaj, zak, loadOp, Go.Abs.loadCells, binV, zal, pickV, zam, zan, zao, zap, zaq, zar, zas, zat, zau, outR, resAll, resOne, zav, zaw, zax, zay, zaz, zba, zbb, zbc, zbd, zbe, zbf, zbg, zbh, zbi, zbj, zbk, storeOp, storeCell, overlay, zbl, zbm, zbn, lookupOp, keyT, okRes, mapUpdateOp, zbo, zbp, zbq, zbr, zbs, zbt, zbu, Nat.reduceSub, Nat.reduceAdd, Int.reduceLT, Int.reduceLE, Int.reduceAdd, Int.reduceSub, Int.reduceToNat, Int.reduceBEq, Int.reduceBNe, Int.reduceMul, Nat.reduceBEq, Nat.reduceBNe, Nat.reduceLT, Nat.reduceLeDiff, Nat.reduceMul, Nat.reduceEqDiff, WD, effB, effH, isPriv, isHeap, isImm, zbx, zby, zbz, chkO, setD, dslot, zca, zcb, zcc, zcd, ptrCells_some, F11, z1, z2, z3, x1, x2, x3, w1, w2, w3, l1, l2, l3, g1, g2, g3]
    exact ⟨_, rfl, no⟩
  | false =>
  have m1 : im.funs.length ≤ 30 := by have := of_decide_eq_false g1; omega
  have m2 : im.strs.length ≤ 100 := by have := of_decide_eq_false g2; omega
  have m3 : im.keys.length ≤ 50 := by have := of_decide_eq_false g3; omega
  simp only [WW, partV, eqCells, eqLf, minV, maxV, ifcV, zaa, zab, zac, zad, zae, zaf, zag, zah, zai, ofConst, ofConst1, List.replicate, zaj, zak, loadOp, Go.Abs.loadCells, binV, zal, pickV, zam, zan, zao, zap, zaq, zar, zas, zat, zau, outR, resAll, resOne, zav, zaw, zax, zay, zaz, zba, zbb, zbc, zbd, zbe, zbf, zbg, zbh, zbi, zbj, zbk, storeOp, storeCell, overlay, zbl, zbm, zbn, lookupOp, keyT, okRes, mapUpdateOp, zbo, zbp, zbq, zbr, zbs, zbt, zbu, Nat.reduceSub, Nat.reduceAdd, Int.reduceLT, Int.reduceLE, Int.reduceAdd, Int.reduceSub, Int.reduceToNat, Int.reduceBEq, Int.reduceBNe, Int.reduceMul, Nat.reduceBEq, Nat.reduceBNe, Nat.reduceLT, Nat.reduceLeDiff, Nat.reduceMul, Nat.reduceEqDiff, WD, effB, effH, isPriv, isHeap, isImm, zbx, zby, zbz, chkO, setD, dslot, zca, zcb, zcc, zcd, ptrCells_some, F11, z1, z2, z3, x1, x2, x3, w1, w2, w3, l1, l2, l3, g1, g2, g3]
  refine wC_loop _ (fun k st' H' => ∃ (i : Nat) (z : Int), st' = ⟨L11_5 (.box 0) (.v (.int .i64 z)) (.v (.int .i64 i)), [[fu, st, ke, .int .i64 im.globals]], []⟩ ∧ H' = H ∧ i ≤ im.strs.length ∧ k = im.strs.length - i ∧ ∀ (j : Nat) s, im.strs[j]? = some s → j < i → s.size ≤ 2000) im.strs.length ⟨0, 0, ?_, rfl, by omega, by omega, fun _ _ _ h => absurd h (by omega)⟩ ?_
  · simp only [WN, firstReg, growAll, zbv, zbw, norm, killS, zag, zah, zaa, zab, zbl, zat, zad, growOne, zae, zaf, zac, zas, zak, Nat.reduceLT, Nat.reduceAdd, zbj, zav, F11, L11_5, y1, y2, y3]
    rfl
  · rintro k st' H ⟨i, z, rfl, rfl, hi, rfl, hall⟩
    simp only [L11_5]
    simp only [WW, partV, eqCells, eqLf, minV, maxV, ifcV, zaa, zab, zac, zad, zae, zaf, zag, zah, zai, ofConst, ofConst1, List.replicate, zaj, zak, loadOp, Go.Abs.loadCells, binV, zal, pickV, zam, zan, zao, zap, zaq, zar, zas, zat, zau, outR, resAll, resOne, zav, zaw, zax, zay, zaz, zba, zbb, zbc, zbd, zbe, zbf, zbg, zbh, zbi, zbj, zbk, storeOp, storeCell, overlay, zbl, zbm, zbn, lookupOp, keyT, okRes, mapUpdateOp, zbo, zbp, zbq, zbr, zbs, zbt, zbu, Nat.reduceSub, Nat.reduceAdd, Int.reduceLT, Int.reduceLE, Int.reduceAdd, Int.reduceSub, Int.reduceToNat, Int.reduceBEq, Int.reduceBNe, Int.reduceMul, Nat.reduceBEq, Nat.reduceBNe, Nat.reduceLT, Nat.reduceLeDiff, Nat.reduceMul, Nat.reduceEqDiff, WD, effB, effH, isPriv, isHeap, isImm, zbx, zby, zbz, chkO, setD, dslot, zca, zcb, zcc, zcd, ptrCells_some, F11, z1, z2, z3, l2]
    refine cSplit (fun hlt => ?_) (fun hge => ?_)
    · have hi2 : i < im.strs.length := by have := of_decide_eq_true hlt; omega
      have hsk : im.strs[i]? = some im.strs[i] := List.getElem?_eq_getElem hi2
      generalize im.strs[i] = a at hsk
      simp only [hlt]
      have hat := (hs H).at_ (sz := 1) (i := i) (e := .str a) (by rw [List.getElem?_map, hsk]; rfl) rfl
      simp only [WW, partV, eqCells, eqLf, minV, maxV, ifcV, zaa, zab, zac, zad, zae, zaf, zag, zah, zai, ofConst, ofConst1, List.replicate, zaj, zak, loadOp, Go.Abs.loadCells, binV, zal, pickV, zam, zan, zao, zap, zaq, zar, zas, zat, zau, outR, resAll, resOne, zav, zaw, zax, zay, zaz, zba, zbb, zbc, zbd, zbe, zbf, zbg, zbh, zbi, zbj, zbk, storeOp, storeCell, overlay, zbl, zbm, zbn, lookupOp, keyT, okRes, mapUpdateOp, zbo, zbp, zbq, zbr, zbs, zbt, zbu, Nat.reduceSub, Nat.reduceAdd, Int.reduceLT, Int.reduceLE, Int.reduceAdd, Int.reduceSub, Int.reduceToNat, Int.reduceBEq, Int.reduceBNe, Int.reduceMul, Nat.reduceBEq, Nat.reduceBNe, Nat.reduceLT, Nat.reduceLeDiff, Nat.reduceMul, Nat.reduceEqDiff, WD, effB, effH, isPriv, isHeap, isImm, zbx, zby, zbz, chkO, setD, dslot, zca, zcb, zcc, zcd, ptrCells_some, F11, z2, hat.at1 (hs H), hat.cells]
      refine cSplit (fun h3 => ?_) (fun h3 => ?_)
      · simp only [h3]
        simp only [WW, partV, eqCells, eqLf, minV, maxV, ifcV, zaa, zab, zac, zad, zae, zaf, zag, zah, zai, ofConst, ofConst1, List.replicate, zaj, zak, loadOp, Go.Abs.loadCells, binV, zal, pickV, zam, zan, zao, zap, zaq, zar, zas, zat, zau, outR, resAll, resOne, zav, zaw, zax, zay, zaz, zba, zbb, zbc, zbd, zbe, zbf, zbg, zbh, zbi, zbj, zbk, storeOp, storeCell, overlay, zbl, zbm, zbn, lookupOp, keyT, okRes, mapUpdateOp, zbo, zbp, zbq, zbr, zbs, zbt, zbu, Nat.reduceSub, Nat.reduceAdd, Int.reduceLT, Int.reduceLE, Int.reduceAdd, Int.reduceSub, Int.reduceToNat, Int.reduceBEq, Int.reduceBNe, Int.reduceMul, Nat.reduceBEq, Nat.reduceBNe, Nat.reduceLT, Nat.reduceLeDiff, Nat.reduceMul, Nat.reduceEqDiff, WD, effB, effH, isPriv, isHeap, isImm, zbx, zby, zbz, chkO, setD, dslot, zca, zcb, zcc, zcd, ptrCells_some, F11]
        exact ⟨_, rfl, no⟩
      · have h4 := of_decide_eq_false h3
        simp only [h3]
        simp only [WW, partV, eqCells, eqLf, minV, maxV, ifcV, zaa, zab, zac, zad, zae, zaf, zag, zah, zai, ofConst, ofConst1, List.replicate, zaj, zak, loadOp, Go.Abs.loadCells, binV, zal, pickV, zam, zan, zao, zap, zaq, zar, zas, zat, zau, outR, resAll, resOne, zav, zaw, zax, zay, zaz, zba, zbb, zbc, zbd, zbe, zbf, zbg, zbh, zbi, zbj, zbk, storeOp, storeCell, overlay, zbl, zbm, zbn, lookupOp, keyT, okRes, mapUpdateOp, zbo, zbp, zbq, zbr, zbs, zbt, zbu, Nat.reduceSub, Nat.reduceAdd, Int.reduceLT, Int.reduceLE, Int.reduceAdd, Int.reduceSub, Int.reduceToNat, Int.reduceBEq, Int.reduceBNe, Int.reduceMul, Nat.reduceBEq, Nat.reduceBNe, Nat.reduceLT, Nat.reduceLeDiff, Nat.reduceMul, Nat.reduceEqDiff, WD, effB, effH, isPriv, isHeap, isImm, zbx, zby, zbz, chkO, setD, dslot, zca, zcb, zcc, zcd, ptrCells_some, F11]
        refine ⟨im.strs.length - (i + 1), by omega, i + 1, z, ?_, by omega, rfl, fun j s hj hlt => ?_⟩
        · simp only [WN, firstReg, growAll, zbv, zbw, norm, killS, zag, zah, zaa, zab, zbl, zat, zad, growOne, zae, zaf, zac, zas, zak, Nat.reduceLT, Nat.reduceAdd, zbj, zav, F11, y1, y2, y3]
          rw [IntWalk.i64_in ((i : Int) + 1) (by omega)]; rfl
        · rcases Nat.lt_or_ge j i with h | h
          · exact hall j s hj h
          · obtain rfl : j = i := by omega
            rw [hsk] at hj; cases hj; omega
    · have hi2 : i = im.strs.length := by have := of_decide_eq_false hge; omega
      have m4 : ∀ s ∈ im.strs, s.size ≤ 2000 := fun s hs => by
        obtain ⟨j, hj⟩ := List.getElem?_of_mem hs
        exact hall j s hj (by rw [hi2]; exact (List.getElem?_eq_some_iff.1 hj).1)
      clear hall
      simp only [hge]
      simp only [WW, partV, eqCells, eqLf, minV, maxV, ifcV, zaa, zab, zac, zad, zae, zaf, zag, zah, zai, ofConst, ofConst1, List.replicate, zaj, zak, loadOp, Go.Abs.loadCells, binV, zal, pickV, zam, zan, zao, zap, zaq, zar, zas, zat, zau, outR, resAll, resOne, zav, zaw, zax, zay, zaz, zba, zbb, zbc, zbd, zbe, zbf, zbg, zbh, zbi, zbj, zbk, storeOp, storeCell, overlay, zbl, zbm, zbn, lookupOp, keyT, okRes, mapUpdateOp, zbo, zbp, zbq, zbr, zbs, zbt, zbu, Nat.reduceSub, Nat.reduceAdd, Int.reduceLT, Int.reduceLE, Int.reduceAdd, Int.reduceSub, Int.reduceToNat, Int.reduceBEq, Int.reduceBNe, Int.reduceMul, Nat.reduceBEq, Nat.reduceBNe, Nat.reduceLT, Nat.reduceLeDiff, Nat.reduceMul, Nat.reduceEqDiff, WD, effB, effH, isPriv, isHeap, isImm, zbx, zby, zbz, chkO, setD, dslot, zca, zcb, zcc, zcd, ptrCells_some, F11]
      refine wC_loop _ (fun k st' H' => ∃ (i : Nat) (z : Int), st' = ⟨L11_10 (.box 0) (.v (.int .i64 z)) (.v (.int .i64 i)), [[fu, st, ke, .int .i64 im.globals]], []⟩ ∧ H' = H ∧ i ≤ im.keys.length ∧ k = im.keys.length - i ∧ ∀ (j : Nat) s, im.keys[j]? = some s → j < i → s.length ≤ 100) im.keys.length ⟨0, z, ?_, rfl, by omega, by omega, fun _ _ _ h => absurd h (by omega)⟩ ?_
      · simp only [WN, firstReg, growAll, zbv, zbw, norm, killS, zag, zah, zaa, zab, zbl, zat, zad, growOne, zae, zaf, zac, zas, zak, Nat.reduceLT, Nat.reduceAdd, zbj, zav, F11, L11_10, y1, y2, y3]
        rfl
      · rintro k st' H ⟨i, z, rfl, rfl, hi, rfl, hall⟩
        simp only [L11_10]
        simp only [WW, partV, eqCells, eqLf, minV, maxV, ifcV, zaa, zab, zac, zad, zae, zaf, zag, zah, zai, ofConst, ofConst1, List.replicate, zaj, zak, loadOp, Go.Abs.loadCells, binV, zal, pickV, zam, zan, zao, zap, zaq, zar, zas, zat, zau, outR, resAll, resOne, zav, zaw, zax, zay, zaz, zba, zbb, zbc, zbd, zbe, zbf, zbg, zbh, zbi, zbj, zbk, storeOp, storeCell, overlay, zbl, zbm, zbn, lookupOp, keyT, okRes, mapUpdateOp, zbo, zbp, zbq, zbr, zbs, zbt, zbu, Nat.reduceSub, Nat.reduceAdd, Int.reduceLT, Int.reduceLE, Int.reduceAdd, Int.reduceSub, Int.reduceToNat, Int.reduceBEq, Int.reduceBNe, Int.reduceMul, Nat.reduceBEq, Nat.reduceBNe, Nat.reduceLT, Nat.reduceLeDiff, Nat.reduceMul, Nat.reduceEqDiff, WD, effB, effH, isPriv, isHeap, isImm, zbx, zby, zbz, chkO, setD, dslot, zca, zcb, zcc, zcd, ptrCells_some, F11, z1, z2, z3, l3]
        refine cSplit (fun hlt => ?_) (fun hge => ?_)
        · have hi2 : i < im.keys.length := by have := of_decide_eq_true hlt; omega
          have hsk : im.keys[i]? = some im.keys[i] := List.getElem?_eq_getElem hi2
          generalize im.keys[i] = a at hsk
          obtain ⟨u, hu, hR⟩ := k2.get hsk
          simp only [hlt]
          have hat := (hk H).at_ (sz := 1) (i := i) (e := u) hu (hR []).width1
          have lu := (hR H).len 3
          rw [List.length_map] at lu
          simp only [WW, partV, eqCells, eqLf, minV, maxV, ifcV, zaa, zab, zac, zad, zae, zaf, zag, zah, zai, ofConst, ofConst1, List.replicate, zaj, zak, loadOp, Go.Abs.loadCells, binV, zal, pickV, zam, zan, zao, zap, zaq, zar, zas, zat, zau, outR, resAll, resOne, zav, zaw, zax, zay, zaz, zba, zbb, zbc, zbd, zbe, zbf, zbg, zbh, zbi, zbj, zbk, storeOp, storeCell, overlay, zbl, zbm, zbn, lookupOp, keyT, okRes, mapUpdateOp, zbo, zbp, zbq, zbr, zbs, zbt, zbu, Nat.reduceSub, Nat.reduceAdd, Int.reduceLT, Int.reduceLE, Int.reduceAdd, Int.reduceSub, Int.reduceToNat, Int.reduceBEq, Int.reduceBNe, Int.reduceMul, Nat.reduceBEq, Nat.reduceBNe, Nat.reduceLT, Nat.reduceLeDiff, Nat.reduceMul, Nat.reduceEqDiff, WD, effB, effH, isPriv, isHeap, isImm, zbx, zby, zbz, chkO, setD, dslot, zca, zcb, zcc, zcd, ptrCells_some, F11, z3, hat.at1 (hk H), hat.cells, (hR []).cells1, (hR []).shutIn, lu]
          refine cSplit (fun h3 => ?_) (fun h3 => ?_)
          · simp only [h3]
            simp only [WW, partV, eqCells, eqLf, minV, maxV, ifcV, zaa, zab, zac, zad, zae, zaf, zag, zah, zai, ofConst, ofConst1, List.replicate, zaj, zak, loadOp, Go.Abs.loadCells, binV, zal, pickV, zam, zan, zao, zap, zaq, zar, zas, zat, zau, outR, resAll, resOne, zav, zaw, zax, zay, zaz, zba, zbb, zbc, zbd, zbe, zbf, zbg, zbh, zbi, zbj, zbk, storeOp, storeCell, overlay, zbl, zbm, zbn, lookupOp, keyT, okRes, mapUpdateOp, zbo, zbp, zbq, zbr, zbs, zbt, zbu, Nat.reduceSub, Nat.reduceAdd, Int.reduceLT, Int.reduceLE, Int.reduceAdd, Int.reduceSub, Int.reduceToNat, Int.reduceBEq, Int.reduceBNe, Int.reduceMul, Nat.reduceBEq, Nat.reduceBNe, Nat.reduceLT, Nat.reduceLeDiff, Nat.reduceMul, Nat.reduceEqDiff, WD, effB, effH, isPriv, isHeap, isImm, zbx, zby, zbz, chkO, setD, dslot, zca, zcb, zcc, zcd, ptrCells_some, F11]
            exact ⟨_, rfl, no⟩
          · have h4 := of_decide_eq_false h3
            simp only [h3]
            simp only [WW, partV, eqCells, eqLf, minV, maxV, ifcV, zaa, zab, zac, zad, zae, zaf, zag, zah, zai, ofConst, ofConst1, List.replicate, zaj, zak, loadOp, Go.Abs.loadCells, binV, zal, pickV, zam, zan, zao, zap, zaq, zar, zas, zat, zau, outR, resAll, resOne, zav, zaw, zax, zay, zaz, zba, zbb, zbc, zbd, zbe, zbf, zbg, zbh, zbi, zbj, zbk, storeOp, storeCell, overlay, zbl, zbm, zbn, lookupOp, keyT, okRes, mapUpdateOp, zbo, zbp, zbq, zbr, zbs, zbt, zbu, Nat.reduceSub, Nat.reduceAdd, Int.reduceLT, Int.reduceLE, Int.reduceAdd, Int.reduceSub, Int.reduceToNat, Int.reduceBEq, Int.reduceBNe, Int.reduceMul, Nat.reduceBEq, Nat.reduceBNe, Nat.reduceLT, Nat.reduceLeDiff, Nat.reduceMul, Nat.reduceEqDiff, WD, effB, effH, isPriv, isHeap, isImm, zbx, zby, zbz, chkO, setD, dslot, zca, zcb, zcc, zcd, ptrCells_some, F11]
            refine ⟨im.keys.length - (i + 1), by omega, i + 1, z, ?_, by omega, rfl, fun j s hj hlt => ?_⟩
            · simp only [WN, firstReg, growAll, zbv, zbw, norm, killS, zag, zah, zaa, zab, zbl, zat, zad, growOne, zae, zaf, zac, zas, zak, Nat.reduceLT, Nat.reduceAdd, zbj, zav, F11, y1, y2, y3]
              rw [IntWalk.i64_in ((i : Int) + 1) (by omega)]; rfl
            · rcases Nat.lt_or_ge j i with h | h
              · exact hall j s hj h
              · obtain rfl : j = i := by omega
                rw [hsk] at hj; cases hj; omega
        · have hi2 : i = im.keys.length := by have := of_decide_eq_false hge; omega
          have m5 : ∀ s ∈ im.keys, s.length ≤ 100 := fun s hs => by
            obtain ⟨j, hj⟩ := List.getElem?_of_mem hs
            exact hall j s hj (by rw [hi2]; exact (List.getElem?_eq_some_iff.1 hj).1)
          clear hall
          simp only [hge]
          simp only [WW, partV, eqCells, eqLf, minV, maxV, ifcV, zaa, zab, zac, zad, zae, zaf, zag, zah, zai, ofConst, ofConst1, List.replicate, zaj, zak, loadOp, Go.Abs.loadCells, binV, zal, pickV, zam, zan, zao, zap, zaq, zar, zas, zat, zau, outR, resAll, resOne, zav, zaw, zax, zay, zaz, zba, zbb, zbc, zbd, zbe, zbf, zbg, zbh, zbi, zbj, zbk, storeOp, storeCell, overlay, zbl, zbm, zbn, lookupOp, keyT, okRes, mapUpdateOp, zbo, zbp, zbq, zbr, zbs, zbt, zbu, Nat.reduceSub, Nat.reduceAdd, Int.reduceLT, Int.reduceLE, Int.reduceAdd, Int.reduceSub, Int.reduceToNat, Int.reduceBEq, Int.reduceBNe, Int.reduceMul, Nat.reduceBEq, Nat.reduceBNe, Nat.reduceLT, Nat.reduceLeDiff, Nat.reduceMul, Nat.reduceEqDiff, WD, effB, effH, isPriv, isHeap, isImm, zbx, zby, zbz, chkO, setD, dslot, zca, zcb, zcc, zcd, ptrCells_some, F11]
          refine wC_loop _ (fun k st' H' => ∃ (i : Nat) (z : Int), st' = ⟨L11_15 (.box 0) (.v (.int .i64 z)) (.v (.int .i64 i)), [[fu, st, ke, .int .i64 im.globals]], []⟩ ∧ H' = H ∧ i ≤ im.funs.length ∧ k = im.funs.length - i ∧ ∀ (j : Nat) s, im.funs[j]? = some s → j < i → fnSm s) im.funs.length ⟨0, z, ?_, rfl, by omega, by omega, fun _ _ _ h => absurd h (by omega)⟩ ?_
          · simp only [WN, firstReg, growAll, zbv, zbw, norm, killS, zag, zah, zaa, zab, zbl, zat, zad, growOne, zae, zaf, zac, zas, zak, Nat.reduceLT, Nat.reduceAdd, zbj, zav, F11, L11_15, y1, y2, y3]
            rfl
          · rintro k st' H ⟨i, z, rfl, rfl, hi, rfl, hall⟩
            simp only [L11_15]
            simp only [WW, partV, eqCells, eqLf, minV, maxV, ifcV, zaa, zab, zac, zad, zae, zaf, zag, zah, zai, ofConst, ofConst1, List.replicate, zaj, zak, loadOp, Go.Abs.loadCells, binV, zal, pickV, zam, zan, zao, zap, zaq, zar, zas, zat, zau, outR, resAll, resOne, zav, zaw, zax, zay, zaz, zba, zbb, zbc, zbd, zbe, zbf, zbg, zbh, zbi, zbj, zbk, storeOp, storeCell, overlay, zbl, zbm, zbn, lookupOp, keyT, okRes, mapUpdateOp, zbo, zbp, zbq, zbr, zbs, zbt, zbu, Nat.reduceSub, Nat.reduceAdd, Int.reduceLT, Int.reduceLE, Int.reduceAdd, Int.reduceSub, Int.reduceToNat, Int.reduceBEq, Int.reduceBNe, Int.reduceMul, Nat.reduceBEq, Nat.reduceBNe, Nat.reduceLT, Nat.reduceLeDiff, Nat.reduceMul, Nat.reduceEqDiff, WD, effB, effH, isPriv, isHeap, isImm, zbx, zby, zbz, chkO, setD, dslot, zca, zcb, zcc, zcd, ptrCells_some, F11, z1, z2, z3, l1]
            refine cSplit (fun hlt => ?_) (fun hge => ?_)
            · have hi2 : i < im.funs.length := by have := of_decide_eq_true hlt; omega
              have hsk : im.funs[i]? = some im.funs[i] := List.getElem?_eq_getElem hi2
              generalize im.funs[i] = a at hsk
              obtain ⟨u, hu, ⟨⟨k1, k2', k3, k4, rfl, q1, q2, q3, q4⟩⟩⟩ := f2.get hsk
              simp only [hlt]
              have hat := (hf H).at_ (sz := 6) (i := i) hu rfl
              have r1 := (q1 H).len 3
              have r2 := (q2 H).len 105
              have r3 := (q3 H).len 52
              have r4 := (q4 H).len 107
              rw [List.length_map] at r1 r2 r3 r4
              simp only [WW, partV, eqCells, eqLf, minV, maxV, ifcV, zaa, zab, zac, zad, zae, zaf, zag, zah, zai, ofConst, ofConst1, List.replicate, zaj, zak, loadOp, Go.Abs.loadCells, binV, zal, pickV, zam, zan, zao, zap, zaq, zar, zas, zat, zau, outR, resAll, resOne, zav, zaw, zax, zay, zaz, zba, zbb, zbc, zbd, zbe, zbf, zbg, zbh, zbi, zbj, zbk, storeOp, storeCell, overlay, zbl, zbm, zbn, lookupOp, keyT, okRes, mapUpdateOp, zbo, zbp, zbq, zbr, zbs, zbt, zbu, Nat.reduceSub, Nat.reduceAdd, Int.reduceLT, Int.reduceLE, Int.reduceAdd, Int.reduceSub, Int.reduceToNat, Int.reduceBEq, Int.reduceBNe, Int.reduceMul, Nat.reduceBEq, Nat.reduceBNe, Nat.reduceLT, Nat.reduceLeDiff, Nat.reduceMul, Nat.reduceEqDiff, WD, effB, effH, isPriv, isHeap, isImm, zbx, zby, zbz, chkO, setD, dslot, zca, zcb, zcc, zcd, ptrCells_some, F11, z1, hat.at1 (hf H), hat.cells, (q1 []).cells1, (q2 []).cells1, (q3 []).cells1, (q4 []).cells1, (q1 []).shutIn, (q2 []).shutIn, (q3 []).shutIn, (q4 []).shutIn, (q1 []).ok, (q2 []).ok, (q3 []).ok, (q4 []).ok, r1, r2, r3, r4]
              refine gSplit (fun h0 => ?_) (fun h0 => ?_)
              · simp only [h0]
                simp only [WW, partV, eqCells, eqLf, minV, maxV, ifcV, zaa, zab, zac, zad, zae, zaf, zag, zah, zai, ofConst, ofConst1, List.replicate, zaj, zak, loadOp, Go.Abs.loadCells, binV, zal, pickV, zam, zan, zao, zap, zaq, zar, zas, zat, zau, outR, resAll, resOne, zav, zaw, zax, zay, zaz, zba, zbb, zbc, zbd, zbe, zbf, zbg, zbh, zbi, zbj, zbk, storeOp, storeCell, overlay, zbl, zbm, zbn, lookupOp, keyT, okRes, mapUpdateOp, zbo, zbp, zbq, zbr, zbs, zbt, zbu, Nat.reduceSub, Nat.reduceAdd, Int.reduceLT, Int.reduceLE, Int.reduceAdd, Int.reduceSub, Int.reduceToNat, Int.reduceBEq, Int.reduceBNe, Int.reduceMul, Nat.reduceBEq, Nat.reduceBNe, Nat.reduceLT, Nat.reduceLeDiff, Nat.reduceMul, Nat.reduceEqDiff, WD, effB, effH, isPriv, isHeap, isImm, zbx, zby, zbz, chkO, setD, dslot, zca, zcb, zcc, zcd, ptrCells_some, F11, (q1 []).cells1, (q2 []).cells1, (q3 []).cells1, (q4 []).cells1, (q1 []).shutIn, (q2 []).shutIn, (q3 []).shutIn, (q4 []).shutIn, r1, r2, r3, r4]
                exact ⟨_, rfl, no⟩
              · simp only [h0]
                simp only [WW, partV, eqCells, eqLf, minV, maxV, ifcV, zaa, zab, zac, zad, zae, zaf, zag, zah, zai, ofConst, ofConst1, List.replicate, zaj, zak, loadOp, Go.Abs.loadCells, binV, zal, pickV, zam, zan, zao, zap, zaq, zar, zas, zat, zau, outR, resAll, resOne, zav, zaw, zax, zay, zaz, zba, zbb, zbc, zbd, zbe, zbf, zbg, zbh, zbi, zbj, zbk, storeOp, storeCell, overlay, zbl, zbm, zbn, lookupOp, keyT, okRes, mapUpdateOp, zbo, zbp, zbq, zbr, zbs, zbt, zbu, Nat.reduceSub, Nat.reduceAdd, Int.reduceLT, Int.reduceLE, Int.reduceAdd, Int.reduceSub, Int.reduceToNat, Int.reduceBEq, Int.reduceBNe, Int.reduceMul, Nat.reduceBEq, Nat.reduceBNe, Nat.reduceLT, Nat.reduceLeDiff, Nat.reduceMul, Nat.reduceEqDiff, WD, effB, effH, isPriv, isHeap, isImm, zbx, zby, zbz, chkO, setD, dslot, zca, zcb, zcc, zcd, ptrCells_some, F11, (q1 []).cells1, (q2 []).cells1, (q3 []).cells1, (q4 []).cells1, (q1 []).shutIn, (q2 []).shutIn, (q3 []).shutIn, (q4 []).shutIn, r1, r2, r3, r4]
                refine gSplit (fun h1 => ?_) (fun h1 => ?_)
                · simp only [h1]
                  simp only [WW, partV, eqCells, eqLf, minV, maxV, ifcV, zaa, zab, zac, zad, zae, zaf, zag, zah, zai, ofConst, ofConst1, List.replicate, zaj, zak, loadOp, Go.Abs.loadCells, binV, zal, pickV, zam, zan, zao, zap, zaq, zar, zas, zat, zau, outR, resAll, resOne, zav, zaw, zax, zay, zaz, zba, zbb, zbc, zbd, zbe, zbf, zbg, zbh, zbi, zbj, zbk, storeOp, storeCell, overlay, zbl, zbm, zbn, lookupOp, keyT, okRes, mapUpdateOp, zbo, zbp, zbq, zbr, zbs, zbt, zbu, Nat.reduceSub, Nat.reduceAdd, Int.reduceLT, Int.reduceLE, Int.reduceAdd, Int.reduceSub, Int.reduceToNat, Int.reduceBEq, Int.reduceBNe, Int.reduceMul, Nat.reduceBEq, Nat.reduceBNe, Nat.reduceLT, Nat.reduceLeDiff, Nat.reduceMul, Nat.reduceEqDiff, WD, effB, effH, isPriv, isHeap, isImm, zbx, zby, zbz, chkO, setD, dslot, zca, zcb, zcc, zcd, ptrCells_some, F11, (q1 []).cells1, (q2 []).cells1, (q3 []).cells1, (q4 []).cells1, (q1 []).shutIn, (q2 []).shutIn, (q3 []).shutIn, (q4 []).shutIn, r1, r2, r3, r4]
                  exact ⟨_, rfl, no⟩
                · simp only [h1]
                  simp only [WW, partV, eqCells, eqLf, minV, maxV, ifcV, zaa, zab, zac, zad, zae, zaf, zag, zah, zai, ofConst, ofConst1, List.replicate, zaj, zak, loadOp, Go.Abs.loadCells, binV, zal, pickV, zam, zan, zao, zap, zaq, zar, zas, zat, zau, outR, resAll, resOne, zav, zaw, zax, zay, zaz, zba, zbb, zbc, zbd, zbe, zbf, zbg, zbh, zbi, zbj, zbk, storeOp, storeCell, overlay, zbl, zbm, zbn, lookupOp, keyT, okRes, mapUpdateOp, zbo, zbp, zbq, zbr, zbs, zbt, zbu, Nat.reduceSub, Nat.reduceAdd, Int.reduceLT, Int.reduceLE, Int.reduceAdd, Int.reduceSub, Int.reduceToNat, Int.reduceBEq, Int.reduceBNe, Int.reduceMul, Nat.reduceBEq, Nat.reduceBNe, Nat.reduceLT, Nat.reduceLeDiff, Nat.reduceMul, Nat.reduceEqDiff, WD, effB, effH, isPriv, isHeap, isImm, zbx, zby, zbz, chkO, setD, dslot, zca, zcb, zcc, zcd, ptrCells_some, F11, (q1 []).cells1, (q2 []).cells1, (q3 []).cells1, (q4 []).cells1, (q1 []).shutIn, (q2 []).shutIn, (q3 []).shutIn, (q4 []).shutIn, r1, r2, r3, r4]
                  refine gSplit (fun h2 => ?_) (fun h2 => ?_)
                  · simp only [h2]
                    simp only [WW, partV, eqCells, eqLf, minV, maxV, ifcV, zaa, zab, zac, zad, zae, zaf, zag, zah, zai, ofConst, ofConst1, List.replicate, zaj, zak, loadOp, Go.Abs.loadCells, binV, zal, pickV, zam, zan, zao, zap, zaq, zar, zas, zat, zau, outR, resAll, resOne, zav, zaw, zax, zay, zaz, zba, zbb, zbc, zbd, zbe, zbf, zbg, zbh, zbi, zbj, zbk, storeOp, storeCell, overlay, zbl, zbm, zbn, lookupOp, keyT, okRes, mapUpdateOp, zbo, zbp, zbq, zbr, zbs, zbt, zbu, Nat.reduceSub, Nat.reduceAdd, Int.reduceLT, Int.reduceLE, Int.reduceAdd, Int.reduceSub, Int.reduceToNat, Int.reduceBEq, Int.reduceBNe, Int.reduceMul, Nat.reduceBEq, Nat.reduceBNe, Nat.reduceLT, Nat.reduceLeDiff, Nat.reduceMul, Nat.reduceEqDiff, WD, effB, effH, isPriv, isHeap, isImm, zbx, zby, zbz, chkO, setD, dslot, zca, zcb, zcc, zcd, ptrCells_some, F11, (q1 []).cells1, (q2 []).cells1, (q3 []).cells1, (q4 []).cells1, (q1 []).shutIn, (q2 []).shutIn, (q3 []).shutIn, (q4 []).shutIn, r1, r2, r3, r4]
                    exact ⟨_, rfl, no⟩
                  · simp only [h2]
                    simp only [WW, partV, eqCells, eqLf, minV, maxV, ifcV, zaa, zab, zac, zad, zae, zaf, zag, zah, zai, ofConst, ofConst1, List.replicate, zaj, zak, loadOp, Go.Abs.loadCells, binV, zal, pickV, zam, zan, zao, zap, zaq, zar, zas, zat, zau, outR, resAll, resOne, zav, zaw, zax, zay, zaz, zba, zbb, zbc, zbd, zbe, zbf, zbg, zbh, zbi, zbj, zbk, storeOp, storeCell, overlay, zbl, zbm, zbn, lookupOp, keyT, okRes, mapUpdateOp, zbo, zbp, zbq, zbr, zbs, zbt, zbu, Nat.reduceSub, Nat.reduceAdd, Int.reduceLT, Int.reduceLE, Int.reduceAdd, Int.reduceSub, Int.reduceToNat, Int.reduceBEq, Int.reduceBNe, Int.reduceMul, Nat.reduceBEq, Nat.reduceBNe, Nat.reduceLT, Nat.reduceLeDiff, Nat.reduceMul, Nat.reduceEqDiff, WD, effB, effH, isPriv, isHeap, isImm, zbx, zby, zbz, chkO, setD, dslot, zca, zcb, zcc, zcd, ptrCells_some, F11, (q1 []).cells1, (q2 []).cells1, (q3 []).cells1, (q4 []).cells1, (q1 []).shutIn, (q2 []).shutIn, (q3 []).shutIn, (q4 []).shutIn, r1, r2, r3, r4]
                    refine cSplit (fun h3 => ?_) (fun h3 => ?_)
                    · simp only [h3]
                      simp only [WW, partV, eqCells, eqLf, minV, maxV, ifcV, zaa, zab, zac, zad, zae, zaf, zag, zah, zai, ofConst, ofConst1, List.replicate, zaj, zak, loadOp, Go.Abs.loadCells, binV, zal, pickV, zam, zan, zao, zap, zaq, zar, zas, zat, zau, outR, resAll, resOne, zav, zaw, zax, zay, zaz, zba, zbb, zbc, zbd, zbe, zbf, zbg, zbh, zbi, zbj, zbk, storeOp, storeCell, overlay, zbl, zbm, zbn, lookupOp, keyT, okRes, mapUpdateOp, zbo, zbp, zbq, zbr, zbs, zbt, zbu, Nat.reduceSub, Nat.reduceAdd, Int.reduceLT, Int.reduceLE, Int.reduceAdd, Int.reduceSub, Int.reduceToNat, Int.reduceBEq, Int.reduceBNe, Int.reduceMul, Nat.reduceBEq, Nat.reduceBNe, Nat.reduceLT, Nat.reduceLeDiff, Nat.reduceMul, Nat.reduceEqDiff, WD, effB, effH, isPriv, isHeap, isImm, zbx, zby, zbz, chkO, setD, dslot, zca, zcb, zcc, zcd, ptrCells_some, F11, (q1 []).cells1, (q2 []).cells1, (q3 []).cells1, (q4 []).cells1, (q1 []).shutIn, (q2 []).shutIn, (q3 []).shutIn, (q4 []).shutIn, r1, r2, r3, r4]
                      exact ⟨_, rfl, no⟩
                    · simp only [h3]
                      simp only [WW, partV, eqCells, eqLf, minV, maxV, ifcV, zaa, zab, zac, zad, zae, zaf, zag, zah, zai, ofConst, ofConst1, List.replicate, zaj, zak, loadOp, Go.Abs.loadCells, binV, zal, pickV, zam, zan, zao, zap, zaq, zar, zas, zat, zau, outR, resAll, resOne, zav, zaw, zax, zay, zaz, zba, zbb, zbc, zbd, zbe, zbf, zbg, zbh, zbi, zbj, zbk, storeOp, storeCell, overlay, zbl, zbm, zbn, lookupOp, keyT, okRes, mapUpdateOp, zbo, zbp, zbq, zbr, zbs, zbt, zbu, Nat.reduceSub, Nat.reduceAdd, Int.reduceLT, Int.reduceLE, Int.reduceAdd, Int.reduceSub, Int.reduceToNat, Int.reduceBEq, Int.reduceBNe, Int.reduceMul, Nat.reduceBEq, Nat.reduceBNe, Nat.reduceLT, Nat.reduceLeDiff, Nat.reduceMul, Nat.reduceEqDiff, WD, effB, effH, isPriv, isHeap, isImm, zbx, zby, zbz, chkO, setD, dslot, zca, zcb, zcc, zcd, ptrCells_some, F11, (q1 []).cells1, (q2 []).cells1, (q3 []).cells1, (q4 []).cells1, (q1 []).shutIn, (q2 []).shutIn, (q3 []).shutIn, (q4 []).shutIn, r1, r2, r3, r4]
                      have t0 := of_decide_eq_false h0
                      have t1 := of_decide_eq_false h1
                      have t2 := of_decide_eq_false h2
                      have t3 := of_decide_eq_false h3
                      refine ⟨im.funs.length - (i + 1), by omega, i + 1, IntKind.i64.wrap (z + (a.code.length : Nat)), ?_, by omega, rfl, fun j s hj hlt => ?_⟩
                      · simp only [WN, firstReg, growAll, zbv, zbw, norm, killS, zag, zah, zaa, zab, zbl, zat, zad, growOne, zae, zaf, zac, zas, zak, Nat.reduceLT, Nat.reduceAdd, zbj, zav, F11, y1, y2, y3]
                        rw [IntWalk.i64_in ((i : Int) + 1) (by omega)]; rfl
                      · rcases Nat.lt_or_ge j i with h | h
                        · exact hall j s hj h
                        · obtain rfl : j = i := by omega
                          rw [hsk] at hj; cases hj; exact ⟨by omega, by omega, by omega, by omega⟩
            · have hi2 : i = im.funs.length := by have := of_decide_eq_false hge; omega
              have m6 : ∀ s ∈ im.funs, fnSm s := fun s hs => by
                obtain ⟨j, hj⟩ := List.getElem?_of_mem hs
                exact hall j s hj (by rw [hi2]; exact (List.getElem?_eq_some_iff.1 hj).1)
              simp only [hge]
              simp only [WW, partV, eqCells, eqLf, minV, maxV, ifcV, zaa, zab, zac, zad, zae, zaf, zag, zah, zai, ofConst, ofConst1, List.replicate, zaj, zak, loadOp, Go.Abs.loadCells, binV, zal, pickV, zam, zan, zao, zap, zaq, zar, zas, zat, zau, outR, resAll, resOne, zav, zaw, zax, zay, zaz, zba, zbb, zbc, zbd, zbe, zbf, zbg, zbh, zbi, zbj, zbk, storeOp, storeCell, overlay, zbl, zbm, zbn, lookupOp, keyT, okRes, mapUpdateOp, zbo, zbp, zbq, zbr, zbs, zbt, zbu, Nat.reduceSub, Nat.reduceAdd, Int.reduceLT, Int.reduceLE, Int.reduceAdd, Int.reduceSub, Int.reduceToNat, Int.reduceBEq, Int.reduceBNe, Int.reduceMul, Nat.reduceBEq, Nat.reduceBNe, Nat.reduceLT, Nat.reduceLeDiff, Nat.reduceMul, Nat.reduceEqDiff, WD, effB, effH, isPriv, isHeap, isImm, zbx, zby, zbz, chkO, setD, dslot, zca, zcb, zcc, zcd, ptrCells_some, F11]
              exact ⟨_, rfl, fun _ => ⟨m1, m2, m3, m4, m5, m6⟩⟩
theorem strOf_bs (l : List Nat) : ∃ s, strOf (bs l) = some s := by
  have h0 : ∀ l : List Nat, ∃ s, Abs.bytesOf (bs l) = some s := fun l => by
    induction l with
    | nil => exact ⟨[], rfl⟩
    | cons a l ih =>
      obtain ⟨s, hs⟩ := ih
      refine ⟨UInt8.ofNat a :: s, ?_⟩
      show ((some (UInt8.ofNat (a : Int).toNat)).bind fun b => (Abs.bytesOf (bs l)).map (b :: ·)) = _
      rw [hs, Int.toNat_natCast]; rfl
  obtain ⟨s, hs⟩ := h0 l
  exact ⟨⟨s.toArray⟩, by simp [strOf, hs]⟩
theorem liveW (H : Hp) (K : Out → Hp → Prop) : wpCall (evW Tryd.prog notes) 12 [] H K = K (.ret (.bool true) false) H := wpCall_eq (live_eq H)
theorem numW (n : Int) (H : Hp) (K : Out → Hp → Prop) : wpCall (evW Tryd.prog notes) 15 [.int .i64 n] H K = K (.ret (.int .i64 n) false) H := wpCall_eq (num_eq n H)
theorem codeEncodes_eq {v : V} {im : ImM} (q : ImV v im) : wpCall EW 3 [v] [] (fun out H' => out = .ret (.bool true) false) := by
  have hbig := big_spec q []
  have hno := fun hs ho => encode_no (H := []) q hs ho
  have hyes := fun hs ho => encode_ok (H := []) q hs ho
  have href := fun hs H => rencode_eq q hs H
  obtain ⟨fu, st, ke, fs, ks, rfl, hf, hs, hk, f2, k2⟩ := q
  have z1 := fun st => (hf []).shutIn st
  have z2 := fun s => (hs []).shutIn s
  have z3 := fun st => (hk []).shutIn st
  have x1 := (hf []).cells1
  have x2 := (hs []).cells1
  have x3 := (hk []).cells1
  have w1 := (hf []).ok
  have w2 := (hs []).ok
  have w3 := (hk []).ok
  refine runs f3 b3 r3 n3 _ _ ?_
  simp only [bodyOf, Tryd.f3, Option.getD_some]
  simp only [WW, partV, eqCells, eqLf, minV, maxV, ifcV, zaa, zab, zac, zad, zae, zaf, zag, zah, zai, ofConst, ofConst1, List.replicate, zaj, zak, loadOp, Go.Abs.loadCells, binV, zal, pickV, zam, zan, zao, zap, zaq, zar, zas, zat, zau, outR, resAll, resOne, zav, zaw, zax, zay, zaz, zba, zbb, zbc, zbd, zbe, zbf, zbg, zbh, zbi, zbj, zbk, storeOp, storeCell, overlay, zbl, zbm, zbn, lookupOp, keyT, okRes, mapUpdateOp, zbo, zbp, zbq, zbr, zbs, zbt, zbu, Nat.reduceSub, Nat.reduceAdd, Int.reduceLT, Int.reduceLE, Int.reduceAdd, Int.reduceSub, Int.reduceToNat, Int.reduceBEq, Int.reduceBNe, Int.reduceMul, Nat.reduceBEq, Nat.reduceBNe, Nat.reduceLT, Nat.reduceLeDiff, Nat.reduceMul, Nat.reduceEqDiff, WD, effB, effH, isPriv, isHeap, isImm, zbx, zby, zbz, chkO, setD, dslot, zca, zcb, zcc, zcd, ptrCells_some, F3, z1, z2, z3, x1, x2, x3, w1, w2, w3]
  refine wpCall_of hbig ?_
  rintro out H' ⟨b, rfl, rfl, hb⟩
  cases b with
  | true =>
    simp only [WW, partV, eqCells, eqLf, minV, maxV, ifcV, zaa, zab, zac, zad, zae, zaf, zag, zah, zai, ofConst, ofConst1, List.replicate, zaj, zak, loadOp, Go.Abs.loadCells, binV, zal, pickV, zam, zan, zao, zap, zaq, zar, zas, zat, zau, outR, resAll, resOne, zav, zaw, zax, zay, zaz, zba, zbb, zbc, zbd, zbe, zbf, zbg, zbh, zbi, zbj, zbk, storeOp, storeCell, overlay, zbl, zbm, zbn, lookupOp, keyT, okRes, mapUpdateOp, zbo, zbp, zbq, zbr, zbs, zbt, zbu, Nat.reduceSub, Nat.reduceAdd, Int.reduceLT, Int.reduceLE, Int.reduceAdd, Int.reduceSub, Int.reduceToNat, Int.reduceBEq, Int.reduceBNe, Int.reduceMul, Nat.reduceBEq, Nat.reduceBNe, Nat.reduceLT, Nat.reduceLeDiff, Nat.reduceMul, Nat.reduceEqDiff, WD, effB, effH, isPriv, isHeap, isImm, zbx, zby, zbz, chkO, setD, dslot, zca, zcb, zcc, zcd, ptrCells_some, F3, liveW]
  | false =>
    have hsm := hb rfl
    simp only [WW, partV, eqCells, eqLf, minV, maxV, ifcV, zaa, zab, zac, zad, zae, zaf, zag, zah, zai, ofConst, ofConst1, List.replicate, zaj, zak, loadOp, Go.Abs.loadCells, binV, zal, pickV, zam, zan, zao, zap, zaq, zar, zas, zat, zau, outR, resAll, resOne, zav, zaw, zax, zay, zaz, zba, zbb, zbc, zbd, zbe, zbf, zbg, zbh, zbi, zbj, zbk, storeOp, storeCell, overlay, zbl, zbm, zbn, lookupOp, keyT, okRes, mapUpdateOp, zbo, zbp, zbq, zbr, zbs, zbt, zbu, Nat.reduceSub, Nat.reduceAdd, Int.reduceLT, Int.reduceLE, Int.reduceAdd, Int.reduceSub, Int.reduceToNat, Int.reduceBEq, Int.reduceBNe, Int.reduceMul, Nat.reduceBEq, Nat.reduceBNe, Nat.reduceLT, Nat.reduceLeDiff, Nat.reduceMul, Nat.reduceEqDiff, WD, effB, effH, isPriv, isHeap, isImm, zbx, zby, zbz, chkO, setD, dslot, zca, zcb, zcc, zcd, ptrCells_some, F3, z1, z2, z3]
    cases hok : imOk im with
    | false =>
      refine wpCall_of (hno hsm hok) ?_
      rintro out H1 ⟨rfl, _, _⟩
      simp only [WW, partV, eqCells, eqLf, minV, maxV, ifcV, zaa, zab, zac, zad, zae, zaf, zag, zah, zai, ofConst, ofConst1, List.replicate, zaj, zak, loadOp, Go.Abs.loadCells, binV, zal, pickV, zam, zan, zao, zap, zaq, zar, zas, zat, zau, outR, resAll, resOne, zav, zaw, zax, zay, zaz, zba, zbb, zbc, zbd, zbe, zbf, zbg, zbh, zbi, zbj, zbk, storeOp, storeCell, overlay, zbl, zbm, zbn, lookupOp, keyT, okRes, mapUpdateOp, zbo, zbp, zbq, zbr, zbs, zbt, zbu, Nat.reduceSub, Nat.reduceAdd, Int.reduceLT, Int.reduceLE, Int.reduceAdd, Int.reduceSub, Int.reduceToNat, Int.reduceBEq, Int.reduceBNe, Int.reduceMul, Nat.reduceBEq, Nat.reduceBNe, Nat.reduceLT, Nat.reduceLeDiff, Nat.reduceMul, Nat.reduceEqDiff, WD, effB, effH, isPriv, isHeap, isImm, zbx, zby, zbz, chkO, setD, dslot, zca, zcb, zcc, zcd, ptrCells_some, F3, z1, z2, z3]
      have hr := href hsm H1
      rw [hok] at hr
      simp only [if_false, Bool.false_eq_true] at hr
      have hrw : ∀ K, wpCall (evW Tryd.prog notes) 14 [.agg [fu, st, ke, .int .i64 im.globals]] H1 K = K (.ret (.tup [.nils, .int .i64 1]) false) H1 := fun K => wpCall_eq hr
      simp only [WW, partV, eqCells, eqLf, minV, maxV, ifcV, zaa, zab, zac, zad, zae, zaf, zag, zah, zai, ofConst, ofConst1, List.replicate, zaj, zak, loadOp, Go.Abs.loadCells, binV, zal, pickV, zam, zan, zao, zap, zaq, zar, zas, zat, zau, outR, resAll, resOne, zav, zaw, zax, zay, zaz, zba, zbb, zbc, zbd, zbe, zbf, zbg, zbh, zbi, zbj, zbk, storeOp, storeCell, overlay, zbl, zbm, zbn, lookupOp, keyT, okRes, mapUpdateOp, zbo, zbp, zbq, zbr, zbs, zbt, zbu, Nat.reduceSub, Nat.reduceAdd, Int.reduceLT, Int.reduceLE, Int.reduceAdd, Int.reduceSub, Int.reduceToNat, Int.reduceBEq, Int.reduceBNe, Int.reduceMul, Nat.reduceBEq, Nat.reduceBNe, Nat.reduceLT, Nat.reduceLeDiff, Nat.reduceMul, Nat.reduceEqDiff, WD, effB, effH, isPriv, isHeap, isImm, zbx, zby, zbz, chkO, setD, dslot, zca, zcb, zcc, zcd, ptrCells_some, F3, hrw, convertOp, contV, strOf, bytesOf, numW, liveW]
    | true =>
      refine wpCall_of (hyes hsm hok) ?_
      rintro out H1 ⟨x, rfl, hx, _, _⟩
      have xr := hx.rd
      have hr := href hsm H1
      rw [hok] at hr
      simp only [if_true] at hr
      have hrw : ∀ K, wpCall (evW Tryd.prog notes) 14 [.agg [fu, st, ke, .int .i64 im.globals]] H1 K = K (.ret (.tup [.rsl (bs (encIm im)), .int .i64 0]) false) H1 := fun K => wpCall_eq hr
      obtain ⟨s, hs⟩ := strOf_bs (encIm im)
      have e2 := (Rd.rsl (H := H1) (bs (encIm im))).cont
      simp only [WW, partV, eqCells, eqLf, minV, maxV, ifcV, zaa, zab, zac, zad, zae, zaf, zag, zah, zai, ofConst, ofConst1, List.replicate, zaj, zak, loadOp, Go.Abs.loadCells, binV, zal, pickV, zam, zan, zao, zap, zaq, zar, zas, zat, zau, outR, resAll, resOne, zav, zaw, zax, zay, zaz, zba, zbb, zbc, zbd, zbe, zbf, zbg, zbh, zbi, zbj, zbk, storeOp, storeCell, overlay, zbl, zbm, zbn, lookupOp, keyT, okRes, mapUpdateOp, zbo, zbp, zbq, zbr, zbs, zbt, zbu, Nat.reduceSub, Nat.reduceAdd, Int.reduceLT, Int.reduceLE, Int.reduceAdd, Int.reduceSub, Int.reduceToNat, Int.reduceBEq, Int.reduceBNe, Int.reduceMul, Nat.reduceBEq, Nat.reduceBNe, Nat.reduceLT, Nat.reduceLeDiff, Nat.reduceMul, Nat.reduceEqDiff, WD, effB, effH, isPriv, isHeap, isImm, zbx, zby, zbz, chkO, setD, dslot, zca, zcb, zcc, zcd, ptrCells_some, F3, z1, z2, z3, hrw, hx.shut, hx.cells1, hx.ok, convertOp, xr.cont, e2, hs, numW, liveW]
end Go.Proofs.YtgjobbmbbedecaaDoor

/- An image among the arguments; the statement on images as bytes. -/
namespace Go.Proofs.YtgjobbmbbedecaaDoor
open Go Go.Abs Go.Proofs
set_option maxRecDepth 100000
set_option maxHeartbeats 2000000
set_option linter.unusedVariables false
set_option linter.unusedSimpArgs false
theorem u3 : Tryd.prog.underlying 3 = some (.int .i64) := by kernel_rfl
theorem u9 : Tryd.prog.underlying 9 = some .string := by kernel_rfl
theorem u22 : Tryd.prog.underlying 22 = some (.slice 50) := by kernel_rfl
theorem u23 : Tryd.prog.underlying 23 = some (.slice 9) := by kernel_rfl
theorem u24 : Tryd.prog.underlying 24 = some (.slice 45) := by kernel_rfl
theorem u45 : Tryd.prog.underlying 45 = some (.slice 3) := by kernel_rfl
theorem u46 : Tryd.prog.underlying 46 = some (.slice 105) := by kernel_rfl
theorem u47 : Tryd.prog.underlying 47 = some (.slice 52) := by kernel_rfl
theorem u48 : Tryd.prog.underlying 48 = some (.slice 107) := by kernel_rfl
theorem s26 : tysOf Tryd.prog 26 = some [22, 23, 24, 3] := by kernel_rfl
theorem s50 : tysOf Tryd.prog 50 = some [3, 3, 45, 46, 47, 48] := by kernel_rfl
theorem s52 : tysOf Tryd.prog 52 = some [3, 3, 3] := by kernel_rfl
theorem s105 : tysOf Tryd.prog 105 = some [3, 3] := by kernel_rfl
theorem s107 : tysOf Tryd.prog 107 = some [3, 3, 3, 3] := by kernel_rfl
theorem ag26 : isAggT Tryd.prog 26 = true := by kernel_rfl
theorem ag50 : isAggT Tryd.prog 50 = true := by kernel_rfl
theorem ag52 : isAggT Tryd.prog 52 = true := by kernel_rfl
theorem ag105 : isAggT Tryd.prog 105 = true := by kernel_rfl
theorem ag107 : isAggT Tryd.prog 107 = true := by kernel_rfl
theorem ag3 : isAggT Tryd.prog 3 = false := by kernel_rfl
theorem ag9 : isAggT Tryd.prog 9 = false := by kernel_rfl
theorem ag45 : isAggT Tryd.prog 45 = false := by kernel_rfl
theorem all2_rows {α : Type} {R : V → α → Prop} {f : List V → V} : ∀ {rows : List (List V)}, (∀ r ∈ rows, ∃ a, R (f r) a) → ∃ us : List α, All2 R (rows.map f) us
  | [], _ => ⟨[], .nil⟩
  | r :: rows, h => by
    obtain ⟨a, ha⟩ := h r (List.mem_cons_self ..)
    obtain ⟨us, hus⟩ := all2_rows (rows := rows) fun q hq => h q (List.mem_cons_of_mem _ hq)
    exact ⟨a :: us, .cons ha hus⟩
theorem all2_eq {α : Type} {g : α → V} : ∀ {vs : List V} {us : List α}, All2 (fun v a => v = g a) vs us → vs = us.map g
  | _, _, .nil => rfl
  | _, _, .cons h t => by rw [List.map_cons, h, all2_eq t]
theorem rows_as {α : Type} {g : α → V} {f : List V → V} {rows : List (List V)} (h : ∀ r ∈ rows, ∃ a, f r = g a) : ∃ us : List α, rows.map f = us.map g := by
  obtain ⟨us, hus⟩ := all2_rows (R := fun v a => v = g a) h
  exact ⟨us, all2_eq hus⟩
theorem ints_tv {d : Nat} {vs : List V} (h : Tv Tryd.prog (d + 2) 45 vs) : ∃ (x : V) (ns : List Int), vs = [x] ∧ RdA x (ns.map intV) := by
  obtain ⟨x, rows, rfl, hx, _, hr⟩ := tv_slice h u45
  rw [ag3] at hx
  obtain ⟨ns, e⟩ := rows_as (f := mkV false) (g := intV) (rows := rows) fun r hr' => by
    obtain ⟨n, rfl, _⟩ := tv_int (hr r hr') u3
    exact ⟨n, rfl⟩
  rw [e] at hx
  exact ⟨x, ns, rfl, hx⟩
theorem fn_tv {vs : List V} (h : Tv Tryd.prog 6 50 vs) : ∃ c, FnR (.agg vs) c := by
  obtain ⟨a1, _, rfl, h1, a2, _, rfl, h2, a3, _, rfl, h3, a4, _, rfl, h4, a5, _, rfl, h5, a6, _, rfl, h6, rfl⟩ := tv_fields h s50
  obtain ⟨n1, rfl, _⟩ := tv_int h1 u3
  obtain ⟨n2, rfl, _⟩ := tv_int h2 u3
  obtain ⟨k1, boxes, rfl, q1⟩ := ints_tv h3
  obtain ⟨k2, r2, rfl, q2, _, t2⟩ := tv_slice h4 u46
  obtain ⟨k3, r3, rfl, q3, _, t3⟩ := tv_slice h5 u47
  obtain ⟨k4, r4, rfl, q4, _, t4⟩ := tv_slice h6 u48
  rw [ag105] at q2
  rw [ag52] at q3
  rw [ag107] at q4
  obtain ⟨caps, e2⟩ := rows_as (f := mkV true) (g := capV) (rows := r2) fun r hr => by
    obtain ⟨b1, _, rfl, g1, b2, _, rfl, g2, rfl⟩ := tv_fields (t2 r hr) s105
    obtain ⟨x1, rfl, _⟩ := tv_int g1 u3
    obtain ⟨x2, rfl, _⟩ := tv_int g2 u3
    exact ⟨(x1, x2), rfl⟩
  obtain ⟨code, e3⟩ := rows_as (f := mkV true) (g := inV) (rows := r3) fun r hr => by
    obtain ⟨b1, _, rfl, g1, b2, _, rfl, g2, b3, _, rfl, g3, rfl⟩ := tv_fields (t3 r hr) s52
    obtain ⟨x1, rfl, _⟩ := tv_int g1 u3
    obtain ⟨x2, rfl, _⟩ := tv_int g2 u3
    obtain ⟨x3, rfl, _⟩ := tv_int g3 u3
    exact ⟨(x1, x2, x3), rfl⟩
  obtain ⟨tries, e4⟩ := rows_as (f := mkV true) (g := tryV) (rows := r4) fun r hr => by
    obtain ⟨b1, _, rfl, g1, b2, _, rfl, g2, b3, _, rfl, g3, b4, _, rfl, g4, rfl⟩ := tv_fields (t4 r hr) s107
    obtain ⟨x1, rfl, _⟩ := tv_int g1 u3
    obtain ⟨x2, rfl, _⟩ := tv_int g2 u3
    obtain ⟨x3, rfl, _⟩ := tv_int g3 u3
    obtain ⟨x4, rfl, _⟩ := tv_int g4 u3
    exact ⟨(x1, x2, x3, x4), rfl⟩
  rw [e2] at q2
  rw [e3] at q3
  rw [e4] at q4
  exact ⟨⟨n1, n2, boxes, caps, code, tries⟩, ⟨⟨k1, k2, k3, k4, rfl, q1, q2, q3, q4⟩⟩⟩
theorem im_tv {v0 : List V} (h0 : Tv Tryd.prog 8 26 v0) : ∃ im, Nonempty (ImV (mkV (isAggT Tryd.prog 26) v0) im) := by
  obtain ⟨a, _, rfl, ha, b, _, rfl, hb, c, _, rfl, hc, d, _, rfl, hd, rfl⟩ := tv_fields h0 s26
  obtain ⟨g, rfl, _⟩ := tv_int hd u3
  obtain ⟨fu, fr, rfl, hfu, hfl, hfr⟩ := tv_slice ha u22
  obtain ⟨st, sr, rfl, hst, hsl, hsr⟩ := tv_slice hb u23
  obtain ⟨ke, kr, rfl, hke, hkl, hkr⟩ := tv_slice hc u24
  rw [ag26]
  rw [ag50] at hfu
  rw [ag9] at hst
  rw [ag45] at hke
  obtain ⟨strs, es⟩ := rows_as (f := mkV false) (g := V.str) (rows := sr) fun r hr => by
    obtain ⟨s, rfl, _⟩ := tv_str (hsr r hr) u9
    exact ⟨s, rfl⟩
  obtain ⟨keys, k2⟩ := all2_rows (R := fun v (l : List Int) => RdA v (l.map intV)) (f := mkV false) (rows := kr) fun r hr => by
    obtain ⟨x, ns, rfl, hx⟩ := ints_tv (hkr r hr)
    exact ⟨ns, hx⟩
  obtain ⟨funs, f2⟩ := all2_rows (R := fun v (c : FnM) => Nonempty (FnV v c)) (f := mkV true) (rows := fr) fun r hr => fn_tv (hfr r hr)
  rw [es] at hst
  exact ⟨⟨funs, strs, keys, g⟩, ⟨⟨fu, st, ke, _, _, rfl, hfu, hst, hke, f2, k2⟩⟩⟩
theorem codeEncodes_main {v0 : List V} (h0 : Tv Tryd.prog 8 26 v0) :
    wpCall (evW Tryd.prog notes) 3 [mkV (isAggT Tryd.prog 26) v0] [] (fun out H' => out = .ret (.bool true) false) := by
  obtain ⟨im, ⟨q⟩⟩ := im_tv h0
  exact codeEncodes_eq q
end Go.Proofs.YtgjobbmbbedecaaDoor
