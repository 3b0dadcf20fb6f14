/- A part of the proofs over this seat. -/
import Derived.Test.YtgjobbmbbedecaaDoorQM1
/- An image's bytes, by the program. -/
namespace Go.Proofs.YtgjobbmbbedecaaDoor
open Go Go.Abs Go.Proofs
set_option maxRecDepth 100000
set_option maxHeartbeats 4000000
set_option linter.unusedVariables false
set_option linter.unusedSimpArgs false
theorem encode_no {H : Hp} {v : V} {im : ImM} (q : ImV v im) (hsm : imSz im) (hok : imOk im = false) :
    wpCall EW 13 [v] H (fun out H' => out = .ret (.tup [.nils, .int .i64 1]) false ∧ H.length ≤ H'.length ∧ ∀ i, i < H.length → H'[i]? = H[i]?) := by
  have hwr := wrong_spec (H := H) q hsm
  obtain ⟨fu, st, ke, fs, ks, rfl, hf, hs, hk, f2, k2⟩ := q
  have z1 := fun st => (hf []).shutIn st
  have z2 := fun s => (hs []).shutIn s
  have z3 := fun st => (hk []).shutIn st
  have x1 := (hf []).cells1
  have x2 := (hs []).cells1
  have x3 := (hk []).cells1
  have w1 := (hf []).ok
  have w2 := (hs []).ok
  have w3 := (hk []).ok
  rw [hok] at hwr
  refine runs f13 b13 r13 n13 _ _ ?_
  simp only [bodyOf, Tryd.f13, Option.getD_some]
  simp only [WW, partV, eqCells, eqLf, minV, maxV, ifcV, zaa, zab, zac, zad, zae, zaf, zag, zah, zai, ofConst, ofConst1, List.replicate, zaj, zak, loadOp, Go.Abs.loadCells, binV, zal, pickV, zam, zan, zao, zap, zaq, zar, zas, zat, zau, outR, resAll, resOne, zav, zaw, zax, zay, zaz, zba, zbb, zbc, zbd, zbe, zbf, zbg, zbh, zbi, zbj, zbk, storeOp, storeCell, overlay, zbl, zbm, zbn, lookupOp, keyT, okRes, mapUpdateOp, zbo, zbp, zbq, zbr, zbs, zbt, zbu, Nat.reduceSub, Nat.reduceAdd, Int.reduceLT, Int.reduceLE, Int.reduceAdd, Int.reduceSub, Int.reduceToNat, Int.reduceBEq, Int.reduceBNe, Int.reduceMul, Nat.reduceBEq, Nat.reduceBNe, Nat.reduceLT, Nat.reduceLeDiff, Nat.reduceMul, Nat.reduceEqDiff, WD, effB, effH, isPriv, isHeap, isImm, zbx, zby, zbz, chkO, setD, dslot, zca, zcb, zcc, zcd, ptrCells_some, F13, z1, z2, z3, x1, x2, x3, w1, w2, w3]
  refine wpCall_of hwr ?_
  rintro out H1 ⟨rfl, hl1, hf1⟩
  simp only [WW, partV, eqCells, eqLf, minV, maxV, ifcV, zaa, zab, zac, zad, zae, zaf, zag, zah, zai, ofConst, ofConst1, List.replicate, zaj, zak, loadOp, Go.Abs.loadCells, binV, zal, pickV, zam, zan, zao, zap, zaq, zar, zas, zat, zau, outR, resAll, resOne, zav, zaw, zax, zay, zaz, zba, zbb, zbc, zbd, zbe, zbf, zbg, zbh, zbi, zbj, zbk, storeOp, storeCell, overlay, zbl, zbm, zbn, lookupOp, keyT, okRes, mapUpdateOp, zbo, zbp, zbq, zbr, zbs, zbt, zbu, Nat.reduceSub, Nat.reduceAdd, Int.reduceLT, Int.reduceLE, Int.reduceAdd, Int.reduceSub, Int.reduceToNat, Int.reduceBEq, Int.reduceBNe, Int.reduceMul, Nat.reduceBEq, Nat.reduceBNe, Nat.reduceLT, Nat.reduceLeDiff, Nat.reduceMul, Nat.reduceEqDiff, WD, effB, effH, isPriv, isHeap, isImm, zbx, zby, zbz, chkO, setD, dslot, zca, zcb, zcc, zcd, ptrCells_some, F13]
  exact ⟨hl1, hf1⟩
theorem encode_ok {H : Hp} {v : V} {im : ImM} (q : ImV v im) (hsm : imSz im) (hok : imOk im = true) (hlen : (encIm im).length ≤ 1000000) :
    wpCall EW 13 [v] H (fun out H' => ∃ x, out = .ret (.tup [x, .int .i64 0]) false ∧ SlW 1 H' (fun i => i < H.length) x (bs (encIm im)) ∧ H.length ≤ H'.length ∧ ∀ i, i < H.length → H'[i]? = H[i]?) := by
  have hwr := wrong_spec (H := H) q hsm
  obtain ⟨fu, st, ke, fs, ks, rfl, hf, hs, hk, f2, k2⟩ := q
  obtain ⟨m1, m2, m3, m4, m5, m6⟩ := hsm
  have z1 := fun st => (hf []).shutIn st
  have z2 := fun s => (hs []).shutIn s
  have z3 := fun st => (hk []).shutIn st
  have x1 := (hf []).cells1
  have x2 := (hs []).cells1
  have x3 := (hk []).cells1
  have w1 := (hf []).ok
  have w2 := (hs []).ok
  have w3 := (hk []).ok
  rw [hok] at hwr
  simp only [imOk, Bool.and_eq_true] at hok
  obtain ⟨o1, o2, o3⟩ := hok
  simp only [encIm, List.length_append] at hlen
  refine runs f13 b13 r13 n13 _ _ ?_
  simp only [bodyOf, Tryd.f13, Option.getD_some]
  simp only [WW, partV, eqCells, eqLf, minV, maxV, ifcV, zaa, zab, zac, zad, zae, zaf, zag, zah, zai, ofConst, ofConst1, List.replicate, zaj, zak, loadOp, Go.Abs.loadCells, binV, zal, pickV, zam, zan, zao, zap, zaq, zar, zas, zat, zau, outR, resAll, resOne, zav, zaw, zax, zay, zaz, zba, zbb, zbc, zbd, zbe, zbf, zbg, zbh, zbi, zbj, zbk, storeOp, storeCell, overlay, zbl, zbm, zbn, lookupOp, keyT, okRes, mapUpdateOp, zbo, zbp, zbq, zbr, zbs, zbt, zbu, Nat.reduceSub, Nat.reduceAdd, Int.reduceLT, Int.reduceLE, Int.reduceAdd, Int.reduceSub, Int.reduceToNat, Int.reduceBEq, Int.reduceBNe, Int.reduceMul, Nat.reduceBEq, Nat.reduceBNe, Nat.reduceLT, Nat.reduceLeDiff, Nat.reduceMul, Nat.reduceEqDiff, WD, effB, effH, isPriv, isHeap, isImm, zbx, zby, zbz, chkO, setD, dslot, zca, zcb, zcc, zcd, ptrCells_some, F13, z1, z2, z3, x1, x2, x3, w1, w2, w3]
  refine wpCall_of hwr ?_
  rintro out H1 ⟨rfl, hl1, hf1⟩
  have h00 : (!true) = false := rfl
  simp only [WW, partV, eqCells, eqLf, minV, maxV, ifcV, zaa, zab, zac, zad, zae, zaf, zag, zah, zai, ofConst, ofConst1, List.replicate, zaj, zak, loadOp, Go.Abs.loadCells, binV, zal, pickV, zam, zan, zao, zap, zaq, zar, zas, zat, zau, outR, resAll, resOne, zav, zaw, zax, zay, zaz, zba, zbb, zbc, zbd, zbe, zbf, zbg, zbh, zbi, zbj, zbk, storeOp, storeCell, overlay, zbl, zbm, zbn, lookupOp, keyT, okRes, mapUpdateOp, zbo, zbp, zbq, zbr, zbs, zbt, zbu, Nat.reduceSub, Nat.reduceAdd, Int.reduceLT, Int.reduceLE, Int.reduceAdd, Int.reduceSub, Int.reduceToNat, Int.reduceBEq, Int.reduceBNe, Int.reduceMul, Nat.reduceBEq, Nat.reduceBNe, Nat.reduceLT, Nat.reduceLeDiff, Nat.reduceMul, Nat.reduceEqDiff, WD, effB, effH, isPriv, isHeap, isImm, zbx, zby, zbz, chkO, setD, dslot, zca, zcb, zcc, zcd, ptrCells_some, F13, h00, z1, z2, z3, buildOp, fillV, Lay.place, Bool.or_self, Bool.or_false, Bool.false_or, decide_not, ne_eq, not_true_eq_false, decide_eq_true_eq, Nat.lt_irrefl, buildSliceV, lits, srcV_eq, srcK_sl, srcK_str, srcSl_nils, srcSl_rsl, srcSl_sl, appendOp, frow, zbv, zbw, List.all_nil, List.all_cons, rowV, Bool.false_and, Bool.and_false, not_false_eq_true, grows_lr, callOut_t, storeHeap, promote, heapSet, elemSet, List.getElem?_concat_length, set_last, convertOp]
  have l1 : (H1 ++ [Blk.cells [.int .u8 74, .int .u8 81, .int .u8 48, .int .u8 49]]).length = H1.length + 1 := by simp
  have l2 : (H1 ++ [Blk.cells [.int .u8 74, .int .u8 81, .int .u8 48, .int .u8 49]] ++ [Blk.cells [V.agg [.sl H1.length 0 4, .int .i64 0]]]).length = H1.length + 2 := by simp
  rw [l2, l1]
  have hO : ∀ i, i < H1.length → (H1 ++ [Blk.cells [.int .u8 74, .int .u8 81, .int .u8 48, .int .u8 49]] ++ [Blk.cells [V.agg [.sl H1.length 0 4, .int .i64 0]]] ++ [Blk.cells [V.ptr (H1.length + 1) 0 0]])[i]? = H1[i]? := fun i hi => by
    rw [List.getElem?_append_left (by simp; omega), List.getElem?_append_left (by simp; omega), List.getElem?_append_left hi]
  have hS : (H1 ++ [Blk.cells [.int .u8 74, .int .u8 81, .int .u8 48, .int .u8 49]] ++ [Blk.cells [V.agg [.sl H1.length 0 4, .int .i64 0]]] ++ [Blk.cells [V.ptr (H1.length + 1) 0 0]])[H1.length]? = some (.cells [.int .u8 74, .int .u8 81, .int .u8 48, .int .u8 49]) := by
    rw [List.getElem?_append_left (by simp), List.getElem?_append_left (by simp)]; exact List.getElem?_concat_length
  have hW : (H1 ++ [Blk.cells [.int .u8 74, .int .u8 81, .int .u8 48, .int .u8 49]] ++ [Blk.cells [V.agg [.sl H1.length 0 4, .int .i64 0]]] ++ [Blk.cells [V.ptr (H1.length + 1) 0 0]])[H1.length + 1]? = some (.cells [.agg [.sl H1.length 0 4, .int .i64 0]]) := by
    rw [List.getElem?_append_left (by simp), ← l1]; exact List.getElem?_concat_length
  have hC : (H1 ++ [Blk.cells [.int .u8 74, .int .u8 81, .int .u8 48, .int .u8 49]] ++ [Blk.cells [V.agg [.sl H1.length 0 4, .int .i64 0]]] ++ [Blk.cells [V.ptr (H1.length + 1) 0 0]])[H1.length + 2]? = some (.cells [.ptr (H1.length + 1) 0 0]) := by
    rw [← l2]; exact List.getElem?_concat_length
  have hln : (H1 ++ [Blk.cells [.int .u8 74, .int .u8 81, .int .u8 48, .int .u8 49]] ++ [Blk.cells [V.agg [.sl H1.length 0 4, .int .i64 0]]] ++ [Blk.cells [V.ptr (H1.length + 1) 0 0]]).length = H1.length + 3 := by simp
  generalize (H1 ++ [Blk.cells [.int .u8 74, .int .u8 81, .int .u8 48, .int .u8 49]] ++ [Blk.cells [V.agg [.sl H1.length 0 4, .int .i64 0]]] ++ [Blk.cells [V.ptr (H1.length + 1) 0 0]]) = H4 at *
  generalize H1.length = b at *
  obtain ⟨N, hNd⟩ : ∃ N : Nat → Prop, ∀ i, N i ↔ (i < b ∨ i = b + 1 ∨ i = b + 2) := ⟨_, fun _ => Iff.rfl⟩
  have hN4 : ∀ i, N i → i < H4.length := fun i hi => by rcases (hNd i).1 hi with hi | rfl | rfl <;> omega
  have hw : N (b + 1) := (hNd _).2 (.inr (.inl rfl))
  have hc : N (b + 2) := (hNd _).2 (.inr (.inr rfl))
  have hcw : b + 2 ≠ b + 1 := by omega
  have hW4 : Wr H4 N (b + 1) (bs magicB) := ⟨.sl b 0 4, .inr ⟨b, [.int .u8 74, .int .u8 81, .int .u8 48, .int .u8 49], rfl, fun h => by rcases (hNd b).1 h with h | h | h <;> omega, hS, by simp [bs, magicB], rfl, by simp, rfl⟩, hW⟩
  have hOf : ∀ H', Fr0 N (b + 1) H4 H' → H.length ≤ H'.length ∧ ∀ i, i < H.length → H'[i]? = H[i]? := fun H' hf => ⟨by have := hf.1; omega, fun i hi => by
    rw [hf.2 i ((hNd i).2 (.inl (by omega))) (by omega), hO i (by omega)]; exact hf1 i hi⟩
  have hwk : ∀ H' x l, SlW 1 H' N x l → SlW 1 H' (fun i => i < H.length) x l := fun H' x l h => h.weaken fun i hi => (hNd i).2 (.inl (by omega))
  clear hS hW hO
  have hmag : (bs magicB).length = 4 := rfl
  have hmg2 : magicB.length = 4 := rfl
  refine wpCall_of (severalG26 encS call27 hN4 hw hW4 hs (All2.map V.str im.strs fun _ _ => rfl) (fun G l1 v a ha hR hf hW1 hl1 => ?_) (by omega) (by omega)) ?_
  · obtain rfl : v = .str a := hR
    exact clos27 (fun i hi => Nat.lt_of_lt_of_le (hN4 i hi) hf.1) hw hc hcw (Cw.fr hC hc hcw hf) hW1 a (by have := m4 a ha; omega) hl1
  rintro out H5 ⟨rfl, hf5, hW5⟩
  have hN5 : ∀ i, N i → i < H5.length := fun i hi => Nat.lt_of_lt_of_le (hN4 i hi) hf5.1
  have hC5 : H5[b + 2]? = some (.cells [.ptr (b + 1) 0 0]) := Cw.fr hC hc hcw hf5
  simp only [WW, partV, eqCells, eqLf, minV, maxV, ifcV, zaa, zab, zac, zad, zae, zaf, zag, zah, zai, ofConst, ofConst1, List.replicate, zaj, zak, loadOp, Go.Abs.loadCells, binV, zal, pickV, zam, zan, zao, zap, zaq, zar, zas, zat, zau, outR, resAll, resOne, zav, zaw, zax, zay, zaz, zba, zbb, zbc, zbd, zbe, zbf, zbg, zbh, zbi, zbj, zbk, storeOp, storeCell, overlay, zbl, zbm, zbn, lookupOp, keyT, okRes, mapUpdateOp, zbo, zbp, zbq, zbr, zbs, zbt, zbu, Nat.reduceSub, Nat.reduceAdd, Int.reduceLT, Int.reduceLE, Int.reduceAdd, Int.reduceSub, Int.reduceToNat, Int.reduceBEq, Int.reduceBNe, Int.reduceMul, Nat.reduceBEq, Nat.reduceBNe, Nat.reduceLT, Nat.reduceLeDiff, Nat.reduceMul, Nat.reduceEqDiff, WD, effB, effH, isPriv, isHeap, isImm, zbx, zby, zbz, chkO, setD, dslot, zca, zcb, zcc, zcd, ptrCells_some, F13, hC5, z1, z2, z3, not_false_eq_true]
  refine wpCall_of (severalG30 (encL encI) call31 hN5 hw hW5 hk k2 (fun G l1 v a ha hR hf hW1 hl1 => ?_) (by simp only [List.length_append, bs_len]; omega) (by omega)) ?_
  · exact clos31 (fun i hi => Nat.lt_of_lt_of_le (hN5 i hi) hf.1) hw hc hcw (Cw.fr hC5 hc hcw hf) hW1 hR (all_mem o1 ha) (by have := m5 a ha; omega) hl1
  rintro out H6 ⟨rfl, hf6, hW6⟩
  have hN6 : ∀ i, N i → i < H6.length := fun i hi => Nat.lt_of_lt_of_le (hN5 i hi) hf6.1
  have hC6 : H6[b + 2]? = some (.cells [.ptr (b + 1) 0 0]) := Cw.fr hC5 hc hcw hf6
  simp only [WW, partV, eqCells, eqLf, minV, maxV, ifcV, zaa, zab, zac, zad, zae, zaf, zag, zah, zai, ofConst, ofConst1, List.replicate, zaj, zak, loadOp, Go.Abs.loadCells, binV, zal, pickV, zam, zan, zao, zap, zaq, zar, zas, zat, zau, outR, resAll, resOne, zav, zaw, zax, zay, zaz, zba, zbb, zbc, zbd, zbe, zbf, zbg, zbh, zbi, zbj, zbk, storeOp, storeCell, overlay, zbl, zbm, zbn, lookupOp, keyT, okRes, mapUpdateOp, zbo, zbp, zbq, zbr, zbs, zbt, zbu, Nat.reduceSub, Nat.reduceAdd, Int.reduceLT, Int.reduceLE, Int.reduceAdd, Int.reduceSub, Int.reduceToNat, Int.reduceBEq, Int.reduceBNe, Int.reduceMul, Nat.reduceBEq, Nat.reduceBNe, Nat.reduceLT, Nat.reduceLeDiff, Nat.reduceMul, Nat.reduceEqDiff, WD, effB, effH, isPriv, isHeap, isImm, zbx, zby, zbz, chkO, setD, dslot, zca, zcb, zcc, zcd, ptrCells_some, F13, hC6, z1, z2, z3, not_false_eq_true]
  refine wpCall_of (plain_spec hN6 hw hW6 im.globals o2 (by simp only [List.length_append, bs_len]; omega)) ?_
  rintro out H7 ⟨rfl, hf7, hW7⟩
  have hN7 : ∀ i, N i → i < H7.length := fun i hi => Nat.lt_of_lt_of_le (hN6 i hi) hf7.1
  have hC7 : H7[b + 2]? = some (.cells [.ptr (b + 1) 0 0]) := Cw.fr hC6 hc hcw hf7
  simp only [WW, partV, eqCells, eqLf, minV, maxV, ifcV, zaa, zab, zac, zad, zae, zaf, zag, zah, zai, ofConst, ofConst1, List.replicate, zaj, zak, loadOp, Go.Abs.loadCells, binV, zal, pickV, zam, zan, zao, zap, zaq, zar, zas, zat, zau, outR, resAll, resOne, zav, zaw, zax, zay, zaz, zba, zbb, zbc, zbd, zbe, zbf, zbg, zbh, zbi, zbj, zbk, storeOp, storeCell, overlay, zbl, zbm, zbn, lookupOp, keyT, okRes, mapUpdateOp, zbo, zbp, zbq, zbr, zbs, zbt, zbu, Nat.reduceSub, Nat.reduceAdd, Int.reduceLT, Int.reduceLE, Int.reduceAdd, Int.reduceSub, Int.reduceToNat, Int.reduceBEq, Int.reduceBNe, Int.reduceMul, Nat.reduceBEq, Nat.reduceBNe, Nat.reduceLT, Nat.reduceLeDiff, Nat.reduceMul, Nat.reduceEqDiff, WD, effB, effH, isPriv, isHeap, isImm, zbx, zby, zbz, chkO, setD, dslot, zca, zcb, zcc, zcd, ptrCells_some, F13, hC7, z1, z2, z3, not_false_eq_true]
  refine wpCall_of (severalG33 encFn call34 hN7 hw hW7 hf f2 (fun G l1 v a ha hR hf hW1 hl1 => ?_) (by simp only [List.length_append, bs_len]; omega) (by omega)) ?_
  · exact function34 (fun i hi => Nat.lt_of_lt_of_le (hN7 i hi) hf.1) hw hW1 hR (all_mem o3 ha) (m6 a ha) hl1
  rintro out H8 ⟨rfl, hf8, hW8⟩
  have hC8 : H8[b + 2]? = some (.cells [.ptr (b + 1) 0 0]) := Cw.fr hC7 hc hcw hf8
  obtain ⟨x, hx, hb⟩ := hW8
  have e : bs magicB ++ bs (encL encS im.strs) ++ bs (encL (encL encI) im.keys) ++ bs (encI im.globals) ++ bs (encL encFn im.funs) = bs (encIm im) := by simp only [encIm, bs_app, List.append_assoc]
  rw [e] at hx
  have hlx : decide ((4194304 : Int) < ((bs (encIm im)).length : Int)) = false := decide_eq_false (by simp only [encIm, List.length_append, bs_len]; omega)
  have h01 : ((0 : Int) != 0) = false := rfl
  simp only [WW, partV, eqCells, eqLf, minV, maxV, ifcV, zaa, zab, zac, zad, zae, zaf, zag, zah, zai, ofConst, ofConst1, List.replicate, zaj, zak, loadOp, Go.Abs.loadCells, binV, zal, pickV, zam, zan, zao, zap, zaq, zar, zas, zat, zau, outR, resAll, resOne, zav, zaw, zax, zay, zaz, zba, zbb, zbc, zbd, zbe, zbf, zbg, zbh, zbi, zbj, zbk, storeOp, storeCell, overlay, zbl, zbm, zbn, lookupOp, keyT, okRes, mapUpdateOp, zbo, zbp, zbq, zbr, zbs, zbt, zbu, Nat.reduceSub, Nat.reduceAdd, Int.reduceLT, Int.reduceLE, Int.reduceAdd, Int.reduceSub, Int.reduceToNat, Int.reduceBEq, Int.reduceBNe, Int.reduceMul, Nat.reduceBEq, Nat.reduceBNe, Nat.reduceLT, Nat.reduceLeDiff, Nat.reduceMul, Nat.reduceEqDiff, WD, effB, effH, isPriv, isHeap, isImm, zbx, zby, zbz, chkO, setD, dslot, zca, zcb, zcc, zcd, ptrCells_some, F13, hC8, hb, h01, hx.shut, hx.len, hlx, bne_self_eq_false]
  exact ⟨x, rfl, hwk _ _ _ hx, hOf _ ((((hf5.trans hf6).trans hf7).trans hf8))⟩
end Go.Proofs.YtgjobbmbbedecaaDoor

/- The model of reading: bytes, a place and a fault. -/
namespace Go.Proofs.YtgjobbmbbedecaaDoor
open Go Go.Abs Go.Proofs
set_option maxRecDepth 100000
set_option maxHeartbeats 2000000
set_option linter.unusedVariables false
set_option linter.unusedSimpArgs false
/-- A place among the bytes, and the first fault -/
structure S where
  at_ : Nat
  e : Nat
def badN (i x : Nat) : Bool := (decide (0 < i) && decide (x = 0)) || (decide (i = 8) && decide (64 ≤ x))
def numG (L : List Nat) : Nat → Nat → Nat → Nat → Nat × S
  | 0, _, _, p => (0, ⟨p, 6⟩)
  | k + 1, i, v, p => match L[p]? with
    | none => (0, ⟨p, 6⟩)
    | some x => match badN i x with
      | true => (0, ⟨p, 6⟩)
      | false => match decide (x < 128) with
        | true => (v + x % 128 * 2 ^ (7 * i), ⟨p + 1, 0⟩)
        | false => numG L k (i + 1) (v + x % 128 * 2 ^ (7 * i)) (p + 1)
def num (L : List Nat) (s : S) : Nat × S := match s.e with
  | 0 => numG L 9 0 0 s.at_
  | _ + 1 => (0, s)
def unzz (n : Nat) : Int := if n % 2 = 1 then -((n / 2 : Nat) : Int) - 1 else ((n / 2 : Nat) : Int)
def sgn (L : List Nat) (s : S) : Int × S := (unzz (num L s).1, (num L s).2)
def failS (s : S) (e p : Nat) : S := match s.e with
  | 0 => ⟨p, e⟩
  | _ + 1 => s
def countOf (L : List Nat) (p0 : Nat) (r : Nat × S) : Nat × S :=
  match decide (L.length - r.2.at_ < r.1) with
  | true => (0, failS r.2 3 p0)
  | false => match r.2.e with
    | 0 => r
    | _ + 1 => (0, r.2)
def count (L : List Nat) (s : S) : Nat × S := countOf L s.at_ (num L s)
def allG {α : Type} (f : S → α × S) : Nat → S → List α × S
  | 0, s => ([], s)
  | n + 1, s => match s.e with
    | _ + 1 => ([], s)
    | 0 => ((f s).1 :: (allG f n (f s).2).1, (allG f n (f s).2).2)
def allS {α : Type} (L : List Nat) (f : S → α × S) (s : S) : List α × S := allG f (count L s).1 (count L s).2
def natI (r : Nat × S) : Int × S := ((r.1 : Int), r.2)
def capS (L : List Nat) (s : S) : (Int × Int) × S := (((num L s).1, (num L (num L s).2).1), (num L (num L s).2).2)
def insS (L : List Nat) (s : S) : (Int × Int × Int) × S :=
  (((num L s).1, (sgn L (num L s).2).1, (sgn L (sgn L (num L s).2).2).1), (sgn L (sgn L (num L s).2).2).2)
def tryS (L : List Nat) (s : S) : (Int × Int × Int × Int) × S :=
  let a := num L s
  let b := num L a.2
  let c := num L b.2
  let d := num L c.2
  ((a.1, b.1, c.1, d.1), d.2)
def intS (L : List Nat) (s : S) : Int × S := natI (num L s)
def fnS (L : List Nat) (s : S) : FnM × S :=
  let a := num L s
  let b := num L a.2
  let c := allS L (intS L) b.2
  let d := allS L (capS L) c.2
  let e := allS L (insS L) d.2
  let f := allS L (tryS L) e.2
  (⟨a.1, b.1, c.1, d.1, e.1, f.1⟩, f.2)
/-- Bytes as a string -/
def strL (l : List Nat) : ByteArray := ⟨(l.map UInt8.ofNat).toArray⟩
def textS (L : List Nat) (s : S) : ByteArray × S :=
  let a := count L s
  (strL ((L.drop a.2.at_).take a.1), match a.2.e with | 0 => ⟨a.2.at_ + a.1, 0⟩ | _ + 1 => a.2)
def keysS (L : List Nat) (s : S) : List Int × S := allS L (intS L) s
def imgS (L : List Nat) (s : S) : ImM × S :=
  let a := allS L (textS L) s
  let b := allS L (keysS L) a.2
  let c := num L b.2
  let d := allS L (fnS L) c.2
  (⟨d.1, a.1, b.1, c.1⟩, d.2)
/-- How far the magic goes -/
def magG : List Nat → List Nat → Nat → S
  | [], _, p => ⟨p, 0⟩
  | m :: ms, [], p => ⟨p, 6⟩
  | m :: ms, x :: xs, p => if x = m then magG ms xs (p + 1) else ⟨p, 6⟩
def endS (L : List Nat) (s : S) : S := match s.e with
  | 0 => if s.at_ < L.length then ⟨s.at_, 6⟩ else s
  | _ + 1 => s
/-- The whole: an image, a fault, a place -/
def decS (L : List Nat) : ImM × S := ((imgS L (magG magicB L 0)).1, endS L (imgS L (magG magicB L 0)).2)
/-! where it may be -/
def Ok (L : List Nat) (s : S) : Prop := s.at_ ≤ L.length
theorem numG_ok {L : List Nat} : ∀ (k i v p : Nat), p ≤ L.length → Ok L (numG L k i v p).2
  | 0, i, v, p, h => h
  | k + 1, i, v, p, h => by
    unfold numG
    cases hx : L[p]? with
    | none => exact h
    | some x =>
      have hp := (List.getElem?_eq_some_iff.1 hx).1
      simp only
      cases badN i x with
      | true => exact h
      | false =>
        simp only
        cases decide (x < 128) with
        | true => exact hp
        | false => exact numG_ok k (i + 1) _ (p + 1) hp
theorem num_ok {L : List Nat} {s : S} (h : Ok L s) : Ok L (num L s).2 := by
  unfold num
  cases he : s.e with
  | zero => exact numG_ok 9 0 0 s.at_ h
  | succ e => exact h
theorem failS_ok {L : List Nat} {s : S} {e p : Nat} (h : Ok L s) (hp : p ≤ L.length) : Ok L (failS s e p) := by
  unfold failS
  cases s.e with
  | zero => exact hp
  | succ e => exact h
theorem countOf_ok {L : List Nat} {p : Nat} {r : Nat × S} (h : Ok L r.2) (hp : p ≤ L.length) : Ok L (countOf L p r).2 ∧ (countOf L p r).2.at_ + (countOf L p r).1 ≤ L.length := by
  unfold countOf
  cases hd : decide (L.length - r.2.at_ < r.1) with
  | true => exact ⟨failS_ok h hp, failS_ok h hp⟩
  | false =>
    have := of_decide_eq_false hd
    have h' : r.2.at_ ≤ L.length := h
    cases he : r.2.e with
    | zero => exact ⟨h, by simp only; omega⟩
    | succ e => exact ⟨h, h⟩
theorem count_ok {L : List Nat} {s : S} (h : Ok L s) : Ok L (count L s).2 := (countOf_ok (num_ok h) h).1
theorem count_le {L : List Nat} {s : S} (h : Ok L s) : (count L s).2.at_ + (count L s).1 ≤ L.length := (countOf_ok (num_ok h) h).2
theorem allG_ok {α : Type} {L : List Nat} {f : S → α × S} (hf : ∀ s, Ok L s → Ok L (f s).2) : ∀ (n : Nat) (s : S), Ok L s → Ok L (allG f n s).2
  | 0, s, h => h
  | n + 1, s, h => by
    unfold allG
    cases s.e with
    | zero => exact allG_ok hf n _ (hf s h)
    | succ e => exact h
theorem allS_ok {α : Type} {L : List Nat} {f : S → α × S} (hf : ∀ s, Ok L s → Ok L (f s).2) {s : S} (h : Ok L s) : Ok L (allS L f s).2 := allG_ok hf _ _ (count_ok h)
theorem sgn_ok {L : List Nat} {s : S} (h : Ok L s) : Ok L (sgn L s).2 := num_ok h
theorem intS_ok {L : List Nat} (s : S) (h : Ok L s) : Ok L (intS L s).2 := num_ok h
theorem capS_ok {L : List Nat} (s : S) (h : Ok L s) : Ok L (capS L s).2 := num_ok (num_ok h)
theorem insS_ok {L : List Nat} (s : S) (h : Ok L s) : Ok L (insS L s).2 := num_ok (num_ok (num_ok h))
theorem tryS_ok {L : List Nat} (s : S) (h : Ok L s) : Ok L (tryS L s).2 := num_ok (num_ok (num_ok (num_ok h)))
theorem keysS_ok {L : List Nat} (s : S) (h : Ok L s) : Ok L (keysS L s).2 := allS_ok intS_ok h
theorem fnS_ok {L : List Nat} (s : S) (h : Ok L s) : Ok L (fnS L s).2 := allS_ok tryS_ok (allS_ok insS_ok (allS_ok capS_ok (allS_ok intS_ok (num_ok (num_ok h)))))
theorem textS_ok {L : List Nat} (s : S) (h : Ok L s) : Ok L (textS L s).2 := by
  have h1 := count_ok h
  have h2 := count_le h
  unfold textS
  simp only
  cases (count L s).2.e with
  | zero => exact h2
  | succ e => exact h1
theorem magG_ok : ∀ (ms xs : List Nat) (p n : Nat), p + xs.length = n → (magG ms xs p).at_ ≤ n
  | [], _, p, n, h => by show p ≤ n; omega
  | m :: ms, [], p, n, h => by show p ≤ n; simp at h; omega
  | m :: ms, x :: xs, p, n, h => by
    unfold magG
    split
    · exact magG_ok ms xs (p + 1) n (by simp at h; omega)
    · show p ≤ n; simp at h; omega
theorem mag_ok (L : List Nat) : Ok L (magG magicB L 0) := magG_ok magicB L 0 L.length (by omega)
theorem imgS_ok {L : List Nat} (s : S) (h : Ok L s) : Ok L (imgS L s).2 := allS_ok fnS_ok (num_ok (allS_ok keysS_ok (allS_ok textS_ok h)))
theorem endS_ok {L : List Nat} {s : S} (h : Ok L s) : Ok L (endS L s) := by
  unfold endS
  cases s.e with
  | zero => simp only; split <;> exact h
  | succ e => exact h
/-! how great a number may be -/
theorem numG_lt {L : List Nat} (hL : ∀ x ∈ L, x < 256) : ∀ (k i v p : Nat), i + k = 9 → v < 2 ^ (7 * i) → (numG L k i v p).1 ≤ 4611686018427387903
  | 0, i, v, p, _, _ => by simp [numG]
  | k + 1, i, v, p, hk, hv => by
    unfold numG
    cases hx : L[p]? with
    | none => simp
    | some x =>
      have hx256 := hL x (List.mem_of_getElem? hx)
      simp only
      cases hb : badN i x with
      | true => simp
      | false =>
        simp only
        have e7 : 2 ^ (7 * (i + 1)) = 2 ^ (7 * i) * 128 := by rw [Nat.mul_add, Nat.pow_add]
        have hm : x % 128 * 2 ^ (7 * i) ≤ 127 * 2 ^ (7 * i) := Nat.mul_le_mul_right _ (by omega)
        cases hd : decide (x < 128) with
        | false => exact numG_lt hL k (i + 1) _ (p + 1) (by omega) (by omega)
        | true =>
          simp only
          by_cases h8 : i = 8
          · subst h8
            have h64 : x < 64 := by
              simp only [badN, decide_true, Bool.true_and, Bool.or_eq_false_iff, decide_eq_false_iff_not] at hb
              omega
            have e : (2 : Nat) ^ (7 * 8) = 72057594037927936 := by decide
            rw [e] at hv hm ⊢
            have : x % 128 * 72057594037927936 ≤ 63 * 72057594037927936 := Nat.mul_le_mul_right _ (by omega)
            omega
          · have hle : 2 ^ (7 * (i + 1)) ≤ 2 ^ 56 := Nat.pow_le_pow_right (by decide) (by omega)
            have e56 : (2 : Nat) ^ 56 = 72057594037927936 := by decide
            omega
theorem num_lt {L : List Nat} (hL : ∀ x ∈ L, x < 256) (s : S) : (num L s).1 ≤ 4611686018427387903 := by
  unfold num
  cases s.e with
  | zero => exact numG_lt hL 9 0 0 _ rfl (by simp)
  | succ e => simp
end Go.Proofs.YtgjobbmbbedecaaDoor

/- The program's reader: numbers. -/
namespace Go.Proofs.YtgjobbmbbedecaaDoor
open Go Go.Abs Go.Proofs
set_option maxRecDepth 100000
set_option maxHeartbeats 4000000
set_option linter.unusedVariables false
set_option linter.unusedSimpArgs false
theorem and127 (n : Nat) (h : n < 256) : IntKind.u8.wrap ((BitVec.ofInt IntKind.u8.bits (n : Int) &&& BitVec.ofInt IntKind.u8.bits 127).toNat : Nat) = ((n % 128 : Nat) : Int) := by
  have key : ∀ k : Fin 256, IntKind.u8.wrap ((BitVec.ofInt 8 ((k.val : Nat) : Int) &&& BitVec.ofInt 8 127).toNat : Nat) = ((k.val % 128 : Nat) : Int) := by decide +kernel
  exact key ⟨n, h⟩
theorem or_add (v y k : Nat) (hv : v < 2 ^ k) (ht : v + y * 2 ^ k ≤ 9223372036854775807) : IntKind.i64.wrap ((BitVec.ofInt IntKind.i64.bits (v : Int) ||| BitVec.ofInt IntKind.i64.bits ((y * 2 ^ k : Nat) : Int)).toNat : Nat) = ((v + y * 2 ^ k : Nat) : Int) := by
  show IntKind.i64.wrap ((BitVec.ofInt 64 (v : Int) ||| BitVec.ofInt 64 ((y * 2 ^ k : Nat) : Int)).toNat : Nat) = _
  rw [BitVec.toNat_or, BitVec.toNat_ofInt, BitVec.toNat_ofInt]
  have e1 : ((v : Int) % ((2 ^ 64 : Nat) : Int)).toNat = v := by
    rw [Int.emod_eq_of_lt (by omega) (by omega)]; simp
  have e2 : (((y * 2 ^ k : Nat) : Int) % ((2 ^ 64 : Nat) : Int)).toNat = y * 2 ^ k := by
    rw [Int.emod_eq_of_lt (by omega) (by omega)]; exact Int.toNat_natCast _
  rw [e1, e2, Nat.or_comm, Nat.mul_comm y, ← Nat.two_pow_add_eq_or_of_lt hv, Nat.mul_comm, Nat.add_comm]
  exact IntWalk.i64_in _ (by omega)

/-- All but one block, of those that were there, is as it was -/
def Ff (w : Nat) (H H' : Hp) : Prop := H.length ≤ H'.length ∧ ∀ i, i < H.length → i ≠ w → H'[i]? = H[i]?
theorem Ff.refl {w : Nat} {H : Hp} : Ff w H H := ⟨Nat.le_refl _, fun _ _ _ => rfl⟩
theorem Ff.trans {w : Nat} {H H1 H2 : Hp} (a : Ff w H H1) (b : Ff w H1 H2) : Ff w H H2 :=
  ⟨Nat.le_trans a.1 b.1, fun i h1 h2 => (b.2 i (Nat.lt_of_lt_of_le h1 a.1) h2).trans (a.2 i h1 h2)⟩
theorem Ff.set {w : Nat} {H : Hp} (b : Blk) : Ff w H (H.set w b) := ⟨by simp, fun i h1 h2 => by rw [List.getElem?_set, if_neg (fun h => h2 h.symm)]⟩
theorem Ff.app {w : Nat} {H : Hp} (b : Blk) : Ff w H (H ++ [b]) := ⟨by simp, fun i h1 h2 => List.getElem?_append_left h1⟩
def rdr (x : V) (s : S) : Blk := .cells [.agg [x, .int .i64 (s.at_ : Nat), .int .i64 (s.e : Nat)]]
/-- A slice of bytes that can be read and cut -/
def RdB (H : Hp) (x : V) (L : List Nat) : Prop := Rd H x (bs L) ∧ ∀ id lo n es, x = .sl id lo n → H[id]? = some (.cells es) → wideAll es 1 = true
/-- A reader: its bytes, where it is, its fault -/
structure Rr (H : Hp) (w : Nat) (x : V) (L : List Nat) (s : S) : Prop where
  b : H[w]? = some (rdr x s)
  r : ∀ H', Ff w H H' → RdB H' x L
  o : Ok L s
theorem Rr.rd {H : Hp} {w : Nat} {x : V} {L : List Nat} {s : S} (h : Rr H w x L s) : Rd H x (bs L) := (h.r _ Ff.refl).1
theorem Rr.lt {H : Hp} {w : Nat} {x : V} {L : List Nat} {s : S} (h : Rr H w x L s) : w < H.length := (List.getElem?_eq_some_iff.1 h.b).1
theorem Rr.to {H : Hp} {w : Nat} {x : V} {L : List Nat} {s : S} (h : Rr H w x L s) {s' : S} (ho : Ok L s') : Rr (H.set w (rdr x s')) w x L s' :=
  ⟨List.getElem?_set_self h.lt, fun H' hf => h.r H' ((Ff.set _).trans hf), ho⟩
theorem Rr.mov {H H' : Hp} {w : Nat} {x : V} {L : List Nat} {s : S} (h : Rr H w x L s) (hf : Ff w H H') (hb : H'[w]? = H[w]?) : Rr H' w x L s :=
  ⟨hb.trans h.b, fun H2 h2 => h.r H2 (hf.trans h2), h.o⟩
theorem Rr.same {H : Hp} {w : Nat} {x : V} {L : List Nat} {s : S} (h : Rr H w x L s) : H.set w (rdr x s) = H := by
  have h1 := h.lt
  have h2 : H[w] = rdr x s := by have := h.b; rw [List.getElem?_eq_getElem h1] at this; exact Option.some.inj this
  rw [← h2, List.set_getElem_self]
theorem failR {H : Hp} {w : Nat} {x : V} {L : List Nat} {s : S} (h : Rr H w x L s) (e p : Nat) :
    EW 41 [.ptr w 0 0, .int .i64 (e : Nat), .int .i64 (p : Nat)] H = some (.ret (.tup []) false, H.set w (rdr x (failS s e p))) := by
  have hx := h.rd
  have hb := h.b
  have hl := h.lt
  have hsm := h.same
  obtain ⟨q, e0⟩ := s
  refine eqOf2 (runs f41 b41 r41 n41 _ _ ?_)
  simp only [bodyOf, Tryd.f41, Option.getD_some]
  simp only [rdr] at hb
  cases e0 with
  | zero =>
    have h3 : (((0 : Nat) : Int) == 0) = true := rfl
    have hb2 : (H.set w (.cells [.agg [x, .int .i64 (q : Nat), .int .i64 (e : Nat)]]))[w]? = some (.cells [.agg [x, .int .i64 (q : Nat), .int .i64 (e : Nat)]]) := List.getElem?_set_self hl
    simp only [WW, partV, eqCells, eqLf, minV, maxV, ifcV, zaa, zab, zac, zad, zae, zaf, zag, zah, zai, ofConst, ofConst1, List.replicate, zaj, zak, loadOp, Go.Abs.loadCells, binV, zal, pickV, zam, zan, zao, zap, zaq, zar, zas, zat, zau, outR, resAll, resOne, zav, zaw, zax, zay, zaz, zba, zbb, zbc, zbd, zbe, zbf, zbg, zbh, zbi, zbj, zbk, storeOp, storeCell, overlay, zbl, zbm, zbn, lookupOp, keyT, okRes, mapUpdateOp, zbo, zbp, zbq, zbr, zbs, zbt, zbu, Nat.reduceSub, Nat.reduceAdd, Int.reduceLT, Int.reduceLE, Int.reduceAdd, Int.reduceSub, Int.reduceToNat, Int.reduceBEq, Int.reduceBNe, Int.reduceMul, Nat.reduceBEq, Nat.reduceBNe, Nat.reduceLT, Nat.reduceLeDiff, Nat.reduceMul, Nat.reduceEqDiff, WD, effB, effH, isPriv, isHeap, isImm, zbx, zby, zbz, chkO, setD, dslot, zca, zcb, zcc, zcd, ptrCells_some, F41, hb, h3, storeHeap, promote, heapSet, elemSet, hb2, List.set_set]
    simp [failS, rdr]
  | succ e1 =>
    have h3 : (((e1 + 1 : Nat) : Int) == 0) = false := by rw [beq_eq_false_iff_ne]; omega
    simp only [WW, partV, eqCells, eqLf, minV, maxV, ifcV, zaa, zab, zac, zad, zae, zaf, zag, zah, zai, ofConst, ofConst1, List.replicate, zaj, zak, loadOp, Go.Abs.loadCells, binV, zal, pickV, zam, zan, zao, zap, zaq, zar, zas, zat, zau, outR, resAll, resOne, zav, zaw, zax, zay, zaz, zba, zbb, zbc, zbd, zbe, zbf, zbg, zbh, zbi, zbj, zbk, storeOp, storeCell, overlay, zbl, zbm, zbn, lookupOp, keyT, okRes, mapUpdateOp, zbo, zbp, zbq, zbr, zbs, zbt, zbu, Nat.reduceSub, Nat.reduceAdd, Int.reduceLT, Int.reduceLE, Int.reduceAdd, Int.reduceSub, Int.reduceToNat, Int.reduceBEq, Int.reduceBNe, Int.reduceMul, Nat.reduceBEq, Nat.reduceBNe, Nat.reduceLT, Nat.reduceLeDiff, Nat.reduceMul, Nat.reduceEqDiff, WD, effB, effH, isPriv, isHeap, isImm, zbx, zby, zbz, chkO, setD, dslot, zca, zcb, zcc, zcd, ptrCells_some, F41, hb, h3]
    simp only [failS]
    rw [hsm]
theorem number_at0 {H : Hp} {w : Nat} {x : V} {L : List Nat} {p e1 : Nat} (hR : Rr H w x L ⟨p, e1 + 1⟩) :
    EW 47 [.ptr w 0 0] H = some (.ret (.int .i64 (0 : Nat)) false, H) := by
  have hb := hR.b
  simp only [rdr] at hb
  refine eqOf (runs f47 b47 r47 n47 _ _ ?_)
  simp only [bodyOf, Tryd.f47, Option.getD_some]
  simp only [WW, partV, eqCells, eqLf, minV, maxV, ifcV, zaa, zab, zac, zad, zae, zaf, zag, zah, zai, ofConst, ofConst1, List.replicate, zaj, zak, loadOp, Go.Abs.loadCells, binV, zal, pickV, zam, zan, zao, zap, zaq, zar, zas, zat, zau, outR, resAll, resOne, zav, zaw, zax, zay, zaz, zba, zbb, zbc, zbd, zbe, zbf, zbg, zbh, zbi, zbj, zbk, storeOp, storeCell, overlay, zbl, zbm, zbn, lookupOp, keyT, okRes, mapUpdateOp, zbo, zbp, zbq, zbr, zbs, zbt, zbu, Nat.reduceSub, Nat.reduceAdd, Int.reduceLT, Int.reduceLE, Int.reduceAdd, Int.reduceSub, Int.reduceToNat, Int.reduceBEq, Int.reduceBNe, Int.reduceMul, Nat.reduceBEq, Nat.reduceBNe, Nat.reduceLT, Nat.reduceLeDiff, Nat.reduceMul, Nat.reduceEqDiff, WD, effB, effH, isPriv, isHeap, isImm, zbx, zby, zbz, chkO, setD, dslot, zca, zcb, zcc, zcd, ptrCells_some, F47]
  have h3 : (((e1 + 1 : Nat) : Int) == 0) = false := by rw [beq_eq_false_iff_ne]; omega
  refine wC_loop _ (fun k st' H' => st' = ⟨L47_3 (.v (.ptr w 0 0)) (.v (.int .i64 0)) (.v (.int .i64 0)), [], []⟩ ∧ H' = H) 0 ⟨?_, rfl⟩ ?_
  · simp only [WN, firstReg, growAll, zbv, zbw, norm, killS, zag, zah, zaa, zab, zbl, zat, zad, growOne, zae, zaf, zac, zas, zak, Nat.reduceLT, Nat.reduceAdd, zbj, zav, F47, L47_3]
  · rintro k st' H ⟨rfl, rfl⟩
    simp only [L47_3]
    simp only [WW, partV, eqCells, eqLf, minV, maxV, ifcV, zaa, zab, zac, zad, zae, zaf, zag, zah, zai, ofConst, ofConst1, List.replicate, zaj, zak, loadOp, Go.Abs.loadCells, binV, zal, pickV, zam, zan, zao, zap, zaq, zar, zas, zat, zau, outR, resAll, resOne, zav, zaw, zax, zay, zaz, zba, zbb, zbc, zbd, zbe, zbf, zbg, zbh, zbi, zbj, zbk, storeOp, storeCell, overlay, zbl, zbm, zbn, lookupOp, keyT, okRes, mapUpdateOp, zbo, zbp, zbq, zbr, zbs, zbt, zbu, Nat.reduceSub, Nat.reduceAdd, Int.reduceLT, Int.reduceLE, Int.reduceAdd, Int.reduceSub, Int.reduceToNat, Int.reduceBEq, Int.reduceBNe, Int.reduceMul, Nat.reduceBEq, Nat.reduceBNe, Nat.reduceLT, Nat.reduceLeDiff, Nat.reduceMul, Nat.reduceEqDiff, WD, effB, effH, isPriv, isHeap, isImm, zbx, zby, zbz, chkO, setD, dslot, zca, zcb, zcc, zcd, ptrCells_some, F47, hb, h3]
    rfl
theorem number_at {H : Hp} {w : Nat} {x : V} {L : List Nat} {p0 : Nat} (hR : Rr H w x L ⟨p0, 0⟩) (hL : ∀ y ∈ L, y < 256) (hlen : L.length ≤ 5000000) :
    wpCall EW 47 [.ptr w 0 0] H (fun out H' => out = .ret (.int .i64 ((num L ⟨p0, 0⟩).1 : Nat)) false ∧ H' = H.set w (rdr x (num L ⟨p0, 0⟩).2)) := by
  refine runs f47 b47 r47 n47 _ _ ?_
  simp only [bodyOf, Tryd.f47, Option.getD_some]
  simp only [WW, partV, eqCells, eqLf, minV, maxV, ifcV, zaa, zab, zac, zad, zae, zaf, zag, zah, zai, ofConst, ofConst1, List.replicate, zaj, zak, loadOp, Go.Abs.loadCells, binV, zal, pickV, zam, zan, zao, zap, zaq, zar, zas, zat, zau, outR, resAll, resOne, zav, zaw, zax, zay, zaz, zba, zbb, zbc, zbd, zbe, zbf, zbg, zbh, zbi, zbj, zbk, storeOp, storeCell, overlay, zbl, zbm, zbn, lookupOp, keyT, okRes, mapUpdateOp, zbo, zbp, zbq, zbr, zbs, zbt, zbu, Nat.reduceSub, Nat.reduceAdd, Int.reduceLT, Int.reduceLE, Int.reduceAdd, Int.reduceSub, Int.reduceToNat, Int.reduceBEq, Int.reduceBNe, Int.reduceMul, Nat.reduceBEq, Nat.reduceBNe, Nat.reduceLT, Nat.reduceLeDiff, Nat.reduceMul, Nat.reduceEqDiff, WD, effB, effH, isPriv, isHeap, isImm, zbx, zby, zbz, chkO, setD, dslot, zca, zcb, zcc, zcd, ptrCells_some, F47]
  refine wC_loop _ (fun k st' H' => ∃ i v p : Nat, st' = ⟨L47_3 (.v (.ptr w 0 0)) (.v (.int .i64 v)) (.v (.int .i64 i)), [], []⟩ ∧ (k = 9 - i ∧ i ≤ 8) ∧ Rr H' w x L ⟨p, 0⟩ ∧ (∀ b, H'.set w b = H.set w b) ∧ v < 2 ^ (7 * i) ∧ numG L (9 - i) i v p = num L ⟨p0, 0⟩) 9 ⟨0, 0, p0, ?_, ⟨rfl, by omega⟩, hR, fun _ => rfl, by simp, rfl⟩ ?_
  · simp only [WN, firstReg, growAll, zbv, zbw, norm, killS, zag, zah, zaa, zab, zbl, zat, zad, growOne, zae, zaf, zac, zas, zak, Nat.reduceLT, Nat.reduceAdd, zbj, zav, F47, L47_3]; rfl
  · rintro k st' H' ⟨i, v, p, rfl, ⟨rfl, hi8⟩, hR', hset, hv, hnum⟩
    simp only [L47_3]
    have hb := hR'.b
    simp only [rdr] at hb
    have hx := hR'.rd
    have hpl : p ≤ L.length := hR'.o
    have h00 : (((0 : Nat) : Int) == 0) = true := rfl
    simp only [WW, partV, eqCells, eqLf, minV, maxV, ifcV, zaa, zab, zac, zad, zae, zaf, zag, zah, zai, ofConst, ofConst1, List.replicate, zaj, zak, loadOp, Go.Abs.loadCells, binV, zal, pickV, zam, zan, zao, zap, zaq, zar, zas, zat, zau, outR, resAll, resOne, zav, zaw, zax, zay, zaz, zba, zbb, zbc, zbd, zbe, zbf, zbg, zbh, zbi, zbj, zbk, storeOp, storeCell, overlay, zbl, zbm, zbn, lookupOp, keyT, okRes, mapUpdateOp, zbo, zbp, zbq, zbr, zbs, zbt, zbu, Nat.reduceSub, Nat.reduceAdd, Int.reduceLT, Int.reduceLE, Int.reduceAdd, Int.reduceSub, Int.reduceToNat, Int.reduceBEq, Int.reduceBNe, Int.reduceMul, Nat.reduceBEq, Nat.reduceBNe, Nat.reduceLT, Nat.reduceLeDiff, Nat.reduceMul, Nat.reduceEqDiff, WD, effB, effH, isPriv, isHeap, isImm, zbx, zby, zbz, chkO, setD, dslot, zca, zcb, zcc, zcd, ptrCells_some, F47, hb, h00, hx.shutIn]
    refine wC_dr alts47_5 (by kernel_rfl) ?_
    have e9 : 9 - i = (8 - i) + 1 := by omega
    rw [e9, numG] at hnum
    cases hLp : L[p]? with
    | none =>
      rw [hLp] at hnum
      have hpe : p = L.length := by have := List.getElem?_eq_none_iff.1 hLp; omega
      have hne : ((p : Int) == ((bs L).length : Int)) = true := by rw [bs_len, hpe]; simp
      simp only [WW, partV, eqCells, eqLf, minV, maxV, ifcV, zaa, zab, zac, zad, zae, zaf, zag, zah, zai, ofConst, ofConst1, List.replicate, zaj, zak, loadOp, Go.Abs.loadCells, binV, zal, pickV, zam, zan, zao, zap, zaq, zar, zas, zat, zau, outR, resAll, resOne, zav, zaw, zax, zay, zaz, zba, zbb, zbc, zbd, zbe, zbf, zbg, zbh, zbi, zbj, zbk, storeOp, storeCell, overlay, zbl, zbm, zbn, lookupOp, keyT, okRes, mapUpdateOp, zbo, zbp, zbq, zbr, zbs, zbt, zbu, Nat.reduceSub, Nat.reduceAdd, Int.reduceLT, Int.reduceLE, Int.reduceAdd, Int.reduceSub, Int.reduceToNat, Int.reduceBEq, Int.reduceBNe, Int.reduceMul, Nat.reduceBEq, Nat.reduceBNe, Nat.reduceLT, Nat.reduceLeDiff, Nat.reduceMul, Nat.reduceEqDiff, WD, effB, effH, isPriv, isHeap, isImm, zbx, zby, zbz, chkO, setD, dslot, zca, zcb, zcc, zcd, ptrCells_some, F47, hb, hx.shutIn, hx.len, hne, alts47_5]
      have h6 : (6 : Int) = ((6 : Nat) : Int) := rfl
      rw [h6, wpCall_eq (failR hR' 6 p)]
      simp only [WW, partV, eqCells, eqLf, minV, maxV, ifcV, zaa, zab, zac, zad, zae, zaf, zag, zah, zai, ofConst, ofConst1, List.replicate, zaj, zak, loadOp, Go.Abs.loadCells, binV, zal, pickV, zam, zan, zao, zap, zaq, zar, zas, zat, zau, outR, resAll, resOne, zav, zaw, zax, zay, zaz, zba, zbb, zbc, zbd, zbe, zbf, zbg, zbh, zbi, zbj, zbk, storeOp, storeCell, overlay, zbl, zbm, zbn, lookupOp, keyT, okRes, mapUpdateOp, zbo, zbp, zbq, zbr, zbs, zbt, zbu, Nat.reduceSub, Nat.reduceAdd, Int.reduceLT, Int.reduceLE, Int.reduceAdd, Int.reduceSub, Int.reduceToNat, Int.reduceBEq, Int.reduceBNe, Int.reduceMul, Nat.reduceBEq, Nat.reduceBNe, Nat.reduceLT, Nat.reduceLeDiff, Nat.reduceMul, Nat.reduceEqDiff, WD, effB, effH, isPriv, isHeap, isImm, zbx, zby, zbz, chkO, setD, dslot, zca, zcb, zcc, zcd, ptrCells_some, F47]
      rw [← hnum]
      exact ⟨rfl, hset _⟩
    | some c =>
      rw [hLp] at hnum
      simp only at hnum
      have hlt : p < L.length := (List.getElem?_eq_some_iff.1 hLp).1
      have hc256 : c < 256 := hL c (List.mem_of_getElem? hLp)
      have hne : ((p : Int) == ((bs L).length : Int)) = false := by rw [bs_len, beq_eq_false_iff_ne]; omega
      have hat := hx.at_ (sz := 1) (i := p) (e := .int .u8 (c : Nat)) (by simp [bs, hLp]) rfl
      simp only [WW, partV, eqCells, eqLf, minV, maxV, ifcV, zaa, zab, zac, zad, zae, zaf, zag, zah, zai, ofConst, ofConst1, List.replicate, zaj, zak, loadOp, Go.Abs.loadCells, binV, zal, pickV, zam, zan, zao, zap, zaq, zar, zas, zat, zau, outR, resAll, resOne, zav, zaw, zax, zay, zaz, zba, zbb, zbc, zbd, zbe, zbf, zbg, zbh, zbi, zbj, zbk, storeOp, storeCell, overlay, zbl, zbm, zbn, lookupOp, keyT, okRes, mapUpdateOp, zbo, zbp, zbq, zbr, zbs, zbt, zbu, Nat.reduceSub, Nat.reduceAdd, Int.reduceLT, Int.reduceLE, Int.reduceAdd, Int.reduceSub, Int.reduceToNat, Int.reduceBEq, Int.reduceBNe, Int.reduceMul, Nat.reduceBEq, Nat.reduceBNe, Nat.reduceLT, Nat.reduceLeDiff, Nat.reduceMul, Nat.reduceEqDiff, WD, effB, effH, isPriv, isHeap, isImm, zbx, zby, zbz, chkO, setD, dslot, zca, zcb, zcc, zcd, ptrCells_some, F47, hb, hx.shutIn, hx.len, hne, alts47_5]
      refine wC_dr alts47_7 (by kernel_rfl) ?_
      simp only [WW, partV, eqCells, eqLf, minV, maxV, ifcV, zaa, zab, zac, zad, zae, zaf, zag, zah, zai, ofConst, ofConst1, List.replicate, zaj, zak, loadOp, Go.Abs.loadCells, binV, zal, pickV, zam, zan, zao, zap, zaq, zar, zas, zat, zau, outR, resAll, resOne, zav, zaw, zax, zay, zaz, zba, zbb, zbc, zbd, zbe, zbf, zbg, zbh, zbi, zbj, zbk, storeOp, storeCell, overlay, zbl, zbm, zbn, lookupOp, keyT, okRes, mapUpdateOp, zbo, zbp, zbq, zbr, zbs, zbt, zbu, Nat.reduceSub, Nat.reduceAdd, Int.reduceLT, Int.reduceLE, Int.reduceAdd, Int.reduceSub, Int.reduceToNat, Int.reduceBEq, Int.reduceBNe, Int.reduceMul, Nat.reduceBEq, Nat.reduceBNe, Nat.reduceLT, Nat.reduceLeDiff, Nat.reduceMul, Nat.reduceEqDiff, WD, effB, effH, isPriv, isHeap, isImm, zbx, zby, zbz, chkO, setD, dslot, zca, zcb, zcc, zcd, ptrCells_some, F47, hb, hx.shutIn, hat.at1 hx, hat.cells, alts47_7]
      have hm7 : IntKind.i64.wrap (7 * (i : Int)) = ((7 * i : Nat) : Int) := by rw [IntWalk.i64_in _ (by omega)]; simp
      have hneg : ¬ (((7 * i : Nat) : Int) < 0) := by omega
      have htn : min (7 * i) IntKind.i64.bits = 7 * i := by show min (7 * i) 64 = _; omega
      have hcw : IntKind.i64.wrap ((c % 128 : Nat) : Int) = ((c % 128 : Nat) : Int) := IntWalk.i64_in _ (by omega)
      have e7 : 2 ^ (7 * (i + 1)) = 2 ^ (7 * i) * 128 := by rw [Nat.mul_add, Nat.pow_add]
      have hmq : c % 128 * 2 ^ (7 * i) ≤ 127 * 2 ^ (7 * i) := Nat.mul_le_mul_right _ (by omega)
      have e8 : (2 : Nat) ^ (7 * 8) = 72057594037927936 := by decide
      have hp8 : 2 ^ (7 * i) ≤ 2 ^ (7 * 8) := Nat.pow_le_pow_right (by decide) (by omega)
      have hsh : IntKind.i64.wrap (((c % 128 : Nat) : Int) * 2 ^ (7 * i)) = ((c % 128 * 2 ^ (7 * i) : Nat) : Int) := by
        rw [show (((c % 128 : Nat) : Int) * 2 ^ (7 * i)) = ((c % 128 * 2 ^ (7 * i) : Nat) : Int) by rw [Int.natCast_mul, Int.natCast_pow]; rfl]
        exact IntWalk.i64_in _ (by omega)
      have hor := or_add v (c % 128) (7 * i) hv (by omega)
      have hp1 : IntKind.i64.wrap ((p : Int) + 1) = ((p + 1 : Nat) : Int) := by rw [IntWalk.i64_in _ (by omega)]; omega
      have hb2 : (H'.set w (.cells [.agg [x, .int .i64 ((p + 1 : Nat) : Int), .int .i64 ((0 : Nat) : Int)]]))[w]? = some (.cells [.agg [x, .int .i64 ((p + 1 : Nat) : Int), .int .i64 ((0 : Nat) : Int)]]) := List.getElem?_set_self hR'.lt
      have hvv : v + c % 128 * 2 ^ (7 * i) < 2 ^ (7 * (i + 1)) := by omega
      have hR2 := hR'.to (s' := ⟨p + 1, 0⟩) hlt
      have h6 : (6 : Int) = ((6 : Nat) : Int) := rfl
      obtain ⟨b1, h1⟩ : ∃ b, decide ((0 : Int) < (i : Int)) = b := ⟨_, rfl⟩
      obtain ⟨b2, h2⟩ : ∃ b, ((c : Int) == 0) = b := ⟨_, rfl⟩
      obtain ⟨b3, h3⟩ : ∃ b, ((i : Int) == 8) = b := ⟨_, rfl⟩
      obtain ⟨b4, h4⟩ : ∃ b, decide ((64 : Int) ≤ (c : Int)) = b := ⟨_, rfl⟩
      have hbad : badN i c = ((b1 && b2) || (b3 && b4)) := by
        rw [← h1, ← h2, ← h3, ← h4, badN, Bool.eq_iff_iff]
        simp only [Bool.or_eq_true, Bool.and_eq_true, decide_eq_true_eq, beq_iff_eq]
        omega
      rw [hbad] at hnum
      cases b1 with
      | false =>
        cases b3 with
        | false =>
          simp only [WW, partV, eqCells, eqLf, minV, maxV, ifcV, zaa, zab, zac, zad, zae, zaf, zag, zah, zai, ofConst, ofConst1, List.replicate, zaj, zak, loadOp, Go.Abs.loadCells, binV, zal, pickV, zam, zan, zao, zap, zaq, zar, zas, zat, zau, outR, resAll, resOne, zav, zaw, zax, zay, zaz, zba, zbb, zbc, zbd, zbe, zbf, zbg, zbh, zbi, zbj, zbk, storeOp, storeCell, overlay, zbl, zbm, zbn, lookupOp, keyT, okRes, mapUpdateOp, zbo, zbp, zbq, zbr, zbs, zbt, zbu, Nat.reduceSub, Nat.reduceAdd, Int.reduceLT, Int.reduceLE, Int.reduceAdd, Int.reduceSub, Int.reduceToNat, Int.reduceBEq, Int.reduceBNe, Int.reduceMul, Nat.reduceBEq, Nat.reduceBNe, Nat.reduceLT, Nat.reduceLeDiff, Nat.reduceMul, Nat.reduceEqDiff, WD, effB, effH, isPriv, isHeap, isImm, zbx, zby, zbz, chkO, setD, dslot, zca, zcb, zcc, zcd, ptrCells_some, F47, h1, h3, convertOp, and127 c hc256, hb, hm7, hneg, htn, hcw, hsh, hor, if_neg hneg]
          simp only [WW, partV, eqCells, eqLf, minV, maxV, ifcV, zaa, zab, zac, zad, zae, zaf, zag, zah, zai, ofConst, ofConst1, List.replicate, zaj, zak, loadOp, Go.Abs.loadCells, binV, zal, pickV, zam, zan, zao, zap, zaq, zar, zas, zat, zau, outR, resAll, resOne, zav, zaw, zax, zay, zaz, zba, zbb, zbc, zbd, zbe, zbf, zbg, zbh, zbi, zbj, zbk, storeOp, storeCell, overlay, zbl, zbm, zbn, lookupOp, keyT, okRes, mapUpdateOp, zbo, zbp, zbq, zbr, zbs, zbt, zbu, Nat.reduceSub, Nat.reduceAdd, Int.reduceLT, Int.reduceLE, Int.reduceAdd, Int.reduceSub, Int.reduceToNat, Int.reduceBEq, Int.reduceBNe, Int.reduceMul, Nat.reduceBEq, Nat.reduceBNe, Nat.reduceLT, Nat.reduceLeDiff, Nat.reduceMul, Nat.reduceEqDiff, WD, effB, effH, isPriv, isHeap, isImm, zbx, zby, zbz, chkO, setD, dslot, zca, zcb, zcc, zcd, ptrCells_some, F47, hb, hb2, hp1, storeHeap, promote, heapSet, elemSet]
          simp only [Bool.false_and, Bool.and_false, Bool.or_self, Bool.false_or, Bool.or_false] at hnum
          refine cSplit (fun g9 => ?_) (fun g9 => ?_)
          · have hm : decide (c < 128) = true := decide_eq_true (by have := of_decide_eq_true g9; omega)
            rw [hm] at hnum
            simp only [g9]
            simp only [WW, partV, eqCells, eqLf, minV, maxV, ifcV, zaa, zab, zac, zad, zae, zaf, zag, zah, zai, ofConst, ofConst1, List.replicate, zaj, zak, loadOp, Go.Abs.loadCells, binV, zal, pickV, zam, zan, zao, zap, zaq, zar, zas, zat, zau, outR, resAll, resOne, zav, zaw, zax, zay, zaz, zba, zbb, zbc, zbd, zbe, zbf, zbg, zbh, zbi, zbj, zbk, storeOp, storeCell, overlay, zbl, zbm, zbn, lookupOp, keyT, okRes, mapUpdateOp, zbo, zbp, zbq, zbr, zbs, zbt, zbu, Nat.reduceSub, Nat.reduceAdd, Int.reduceLT, Int.reduceLE, Int.reduceAdd, Int.reduceSub, Int.reduceToNat, Int.reduceBEq, Int.reduceBNe, Int.reduceMul, Nat.reduceBEq, Nat.reduceBNe, Nat.reduceLT, Nat.reduceLeDiff, Nat.reduceMul, Nat.reduceEqDiff, WD, effB, effH, isPriv, isHeap, isImm, zbx, zby, zbz, chkO, setD, dslot, zca, zcb, zcc, zcd, ptrCells_some, F47]
            rw [← hnum]
            exact ⟨rfl, hset _⟩
          · have hm : decide (c < 128) = false := decide_eq_false (by have := of_decide_eq_false g9; omega)
            rw [hm] at hnum
            simp only [g9]
            simp only [WW, partV, eqCells, eqLf, minV, maxV, ifcV, zaa, zab, zac, zad, zae, zaf, zag, zah, zai, ofConst, ofConst1, List.replicate, zaj, zak, loadOp, Go.Abs.loadCells, binV, zal, pickV, zam, zan, zao, zap, zaq, zar, zas, zat, zau, outR, resAll, resOne, zav, zaw, zax, zay, zaz, zba, zbb, zbc, zbd, zbe, zbf, zbg, zbh, zbi, zbj, zbk, storeOp, storeCell, overlay, zbl, zbm, zbn, lookupOp, keyT, okRes, mapUpdateOp, zbo, zbp, zbq, zbr, zbs, zbt, zbu, Nat.reduceSub, Nat.reduceAdd, Int.reduceLT, Int.reduceLE, Int.reduceAdd, Int.reduceSub, Int.reduceToNat, Int.reduceBEq, Int.reduceBNe, Int.reduceMul, Nat.reduceBEq, Nat.reduceBNe, Nat.reduceLT, Nat.reduceLeDiff, Nat.reduceMul, Nat.reduceEqDiff, WD, effB, effH, isPriv, isHeap, isImm, zbx, zby, zbz, chkO, setD, dslot, zca, zcb, zcc, zcd, ptrCells_some, F47]
            have h8 : i ≤ 7 := by
              have := of_decide_eq_false g9
              by_cases hh : i = 8
              · exfalso
                have hq : badN i c = true := by rw [badN, hh, decide_eq_true (show 64 ≤ c by omega)]; simp
                rw [hbad] at hq
                simp at hq
              · omega
            refine ⟨9 - (i + 1), by omega, i + 1, v + c % 128 * 2 ^ (7 * i), p + 1, ?_, ⟨rfl, by omega⟩, hR2, fun b => by rw [List.set_set]; exact hset b, hvv, ?_⟩
            · simp only [WN, firstReg, growAll, zbv, zbw, norm, killS, zag, zah, zaa, zab, zbl, zat, zad, growOne, zae, zaf, zac, zas, zak, Nat.reduceLT, Nat.reduceAdd, zbj, zav, F47]
              rw [IntWalk.i64_in ((i : Int) + 1) (by omega)]; rfl
            · have e9' : 9 - (i + 1) = 8 - i := by omega
              rw [e9']; exact hnum
        | true =>
          cases b4 with
          | true =>
            simp only [WW, partV, eqCells, eqLf, minV, maxV, ifcV, zaa, zab, zac, zad, zae, zaf, zag, zah, zai, ofConst, ofConst1, List.replicate, zaj, zak, loadOp, Go.Abs.loadCells, binV, zal, pickV, zam, zan, zao, zap, zaq, zar, zas, zat, zau, outR, resAll, resOne, zav, zaw, zax, zay, zaz, zba, zbb, zbc, zbd, zbe, zbf, zbg, zbh, zbi, zbj, zbk, storeOp, storeCell, overlay, zbl, zbm, zbn, lookupOp, keyT, okRes, mapUpdateOp, zbo, zbp, zbq, zbr, zbs, zbt, zbu, Nat.reduceSub, Nat.reduceAdd, Int.reduceLT, Int.reduceLE, Int.reduceAdd, Int.reduceSub, Int.reduceToNat, Int.reduceBEq, Int.reduceBNe, Int.reduceMul, Nat.reduceBEq, Nat.reduceBNe, Nat.reduceLT, Nat.reduceLeDiff, Nat.reduceMul, Nat.reduceEqDiff, WD, effB, effH, isPriv, isHeap, isImm, zbx, zby, zbz, chkO, setD, dslot, zca, zcb, zcc, zcd, ptrCells_some, F47, h1, h3, h4, hb]
            rw [h6, wpCall_eq (failR hR' 6 p)]
            simp only [WW, partV, eqCells, eqLf, minV, maxV, ifcV, zaa, zab, zac, zad, zae, zaf, zag, zah, zai, ofConst, ofConst1, List.replicate, zaj, zak, loadOp, Go.Abs.loadCells, binV, zal, pickV, zam, zan, zao, zap, zaq, zar, zas, zat, zau, outR, resAll, resOne, zav, zaw, zax, zay, zaz, zba, zbb, zbc, zbd, zbe, zbf, zbg, zbh, zbi, zbj, zbk, storeOp, storeCell, overlay, zbl, zbm, zbn, lookupOp, keyT, okRes, mapUpdateOp, zbo, zbp, zbq, zbr, zbs, zbt, zbu, Nat.reduceSub, Nat.reduceAdd, Int.reduceLT, Int.reduceLE, Int.reduceAdd, Int.reduceSub, Int.reduceToNat, Int.reduceBEq, Int.reduceBNe, Int.reduceMul, Nat.reduceBEq, Nat.reduceBNe, Nat.reduceLT, Nat.reduceLeDiff, Nat.reduceMul, Nat.reduceEqDiff, WD, effB, effH, isPriv, isHeap, isImm, zbx, zby, zbz, chkO, setD, dslot, zca, zcb, zcc, zcd, ptrCells_some, F47]
            simp only [Bool.true_and, Bool.and_true, Bool.or_true, Bool.true_or, Bool.or_self, Bool.and_self, Bool.false_and, Bool.false_or] at hnum
            rw [← hnum]
            exact ⟨rfl, hset _⟩
          | false =>
            simp only [WW, partV, eqCells, eqLf, minV, maxV, ifcV, zaa, zab, zac, zad, zae, zaf, zag, zah, zai, ofConst, ofConst1, List.replicate, zaj, zak, loadOp, Go.Abs.loadCells, binV, zal, pickV, zam, zan, zao, zap, zaq, zar, zas, zat, zau, outR, resAll, resOne, zav, zaw, zax, zay, zaz, zba, zbb, zbc, zbd, zbe, zbf, zbg, zbh, zbi, zbj, zbk, storeOp, storeCell, overlay, zbl, zbm, zbn, lookupOp, keyT, okRes, mapUpdateOp, zbo, zbp, zbq, zbr, zbs, zbt, zbu, Nat.reduceSub, Nat.reduceAdd, Int.reduceLT, Int.reduceLE, Int.reduceAdd, Int.reduceSub, Int.reduceToNat, Int.reduceBEq, Int.reduceBNe, Int.reduceMul, Nat.reduceBEq, Nat.reduceBNe, Nat.reduceLT, Nat.reduceLeDiff, Nat.reduceMul, Nat.reduceEqDiff, WD, effB, effH, isPriv, isHeap, isImm, zbx, zby, zbz, chkO, setD, dslot, zca, zcb, zcc, zcd, ptrCells_some, F47, h1, h3, h4, convertOp, and127 c hc256, hb, hm7, hneg, htn, hcw, hsh, hor, if_neg hneg]
            simp only [WW, partV, eqCells, eqLf, minV, maxV, ifcV, zaa, zab, zac, zad, zae, zaf, zag, zah, zai, ofConst, ofConst1, List.replicate, zaj, zak, loadOp, Go.Abs.loadCells, binV, zal, pickV, zam, zan, zao, zap, zaq, zar, zas, zat, zau, outR, resAll, resOne, zav, zaw, zax, zay, zaz, zba, zbb, zbc, zbd, zbe, zbf, zbg, zbh, zbi, zbj, zbk, storeOp, storeCell, overlay, zbl, zbm, zbn, lookupOp, keyT, okRes, mapUpdateOp, zbo, zbp, zbq, zbr, zbs, zbt, zbu, Nat.reduceSub, Nat.reduceAdd, Int.reduceLT, Int.reduceLE, Int.reduceAdd, Int.reduceSub, Int.reduceToNat, Int.reduceBEq, Int.reduceBNe, Int.reduceMul, Nat.reduceBEq, Nat.reduceBNe, Nat.reduceLT, Nat.reduceLeDiff, Nat.reduceMul, Nat.reduceEqDiff, WD, effB, effH, isPriv, isHeap, isImm, zbx, zby, zbz, chkO, setD, dslot, zca, zcb, zcc, zcd, ptrCells_some, F47, hb, hb2, hp1, storeHeap, promote, heapSet, elemSet]
            simp only [Bool.false_and, Bool.and_false, Bool.or_self, Bool.false_or, Bool.or_false] at hnum
            refine cSplit (fun g9 => ?_) (fun g9 => ?_)
            · have hm : decide (c < 128) = true := decide_eq_true (by have := of_decide_eq_true g9; omega)
              rw [hm] at hnum
              simp only [g9]
              simp only [WW, partV, eqCells, eqLf, minV, maxV, ifcV, zaa, zab, zac, zad, zae, zaf, zag, zah, zai, ofConst, ofConst1, List.replicate, zaj, zak, loadOp, Go.Abs.loadCells, binV, zal, pickV, zam, zan, zao, zap, zaq, zar, zas, zat, zau, outR, resAll, resOne, zav, zaw, zax, zay, zaz, zba, zbb, zbc, zbd, zbe, zbf, zbg, zbh, zbi, zbj, zbk, storeOp, storeCell, overlay, zbl, zbm, zbn, lookupOp, keyT, okRes, mapUpdateOp, zbo, zbp, zbq, zbr, zbs, zbt, zbu, Nat.reduceSub, Nat.reduceAdd, Int.reduceLT, Int.reduceLE, Int.reduceAdd, Int.reduceSub, Int.reduceToNat, Int.reduceBEq, Int.reduceBNe, Int.reduceMul, Nat.reduceBEq, Nat.reduceBNe, Nat.reduceLT, Nat.reduceLeDiff, Nat.reduceMul, Nat.reduceEqDiff, WD, effB, effH, isPriv, isHeap, isImm, zbx, zby, zbz, chkO, setD, dslot, zca, zcb, zcc, zcd, ptrCells_some, F47]
              rw [← hnum]
              exact ⟨rfl, hset _⟩
            · have hm : decide (c < 128) = false := decide_eq_false (by have := of_decide_eq_false g9; omega)
              rw [hm] at hnum
              simp only [g9]
              simp only [WW, partV, eqCells, eqLf, minV, maxV, ifcV, zaa, zab, zac, zad, zae, zaf, zag, zah, zai, ofConst, ofConst1, List.replicate, zaj, zak, loadOp, Go.Abs.loadCells, binV, zal, pickV, zam, zan, zao, zap, zaq, zar, zas, zat, zau, outR, resAll, resOne, zav, zaw, zax, zay, zaz, zba, zbb, zbc, zbd, zbe, zbf, zbg, zbh, zbi, zbj, zbk, storeOp, storeCell, overlay, zbl, zbm, zbn, lookupOp, keyT, okRes, mapUpdateOp, zbo, zbp, zbq, zbr, zbs, zbt, zbu, Nat.reduceSub, Nat.reduceAdd, Int.reduceLT, Int.reduceLE, Int.reduceAdd, Int.reduceSub, Int.reduceToNat, Int.reduceBEq, Int.reduceBNe, Int.reduceMul, Nat.reduceBEq, Nat.reduceBNe, Nat.reduceLT, Nat.reduceLeDiff, Nat.reduceMul, Nat.reduceEqDiff, WD, effB, effH, isPriv, isHeap, isImm, zbx, zby, zbz, chkO, setD, dslot, zca, zcb, zcc, zcd, ptrCells_some, F47]
              have h8 : i ≤ 7 := by
                have := of_decide_eq_false g9
                by_cases hh : i = 8
                · exfalso
                  have hq : badN i c = true := by rw [badN, hh, decide_eq_true (show 64 ≤ c by omega)]; simp
                  rw [hbad] at hq
                  simp at hq
                · omega
              refine ⟨9 - (i + 1), by omega, i + 1, v + c % 128 * 2 ^ (7 * i), p + 1, ?_, ⟨rfl, by omega⟩, hR2, fun b => by rw [List.set_set]; exact hset b, hvv, ?_⟩
              · simp only [WN, firstReg, growAll, zbv, zbw, norm, killS, zag, zah, zaa, zab, zbl, zat, zad, growOne, zae, zaf, zac, zas, zak, Nat.reduceLT, Nat.reduceAdd, zbj, zav, F47]
                rw [IntWalk.i64_in ((i : Int) + 1) (by omega)]; rfl
              · have e9' : 9 - (i + 1) = 8 - i := by omega
                rw [e9']; exact hnum
      | true =>
        cases b2 with
        | true =>
          simp only [WW, partV, eqCells, eqLf, minV, maxV, ifcV, zaa, zab, zac, zad, zae, zaf, zag, zah, zai, ofConst, ofConst1, List.replicate, zaj, zak, loadOp, Go.Abs.loadCells, binV, zal, pickV, zam, zan, zao, zap, zaq, zar, zas, zat, zau, outR, resAll, resOne, zav, zaw, zax, zay, zaz, zba, zbb, zbc, zbd, zbe, zbf, zbg, zbh, zbi, zbj, zbk, storeOp, storeCell, overlay, zbl, zbm, zbn, lookupOp, keyT, okRes, mapUpdateOp, zbo, zbp, zbq, zbr, zbs, zbt, zbu, Nat.reduceSub, Nat.reduceAdd, Int.reduceLT, Int.reduceLE, Int.reduceAdd, Int.reduceSub, Int.reduceToNat, Int.reduceBEq, Int.reduceBNe, Int.reduceMul, Nat.reduceBEq, Nat.reduceBNe, Nat.reduceLT, Nat.reduceLeDiff, Nat.reduceMul, Nat.reduceEqDiff, WD, effB, effH, isPriv, isHeap, isImm, zbx, zby, zbz, chkO, setD, dslot, zca, zcb, zcc, zcd, ptrCells_some, F47, h1, h2, hb]
          rw [h6, wpCall_eq (failR hR' 6 p)]
          simp only [WW, partV, eqCells, eqLf, minV, maxV, ifcV, zaa, zab, zac, zad, zae, zaf, zag, zah, zai, ofConst, ofConst1, List.replicate, zaj, zak, loadOp, Go.Abs.loadCells, binV, zal, pickV, zam, zan, zao, zap, zaq, zar, zas, zat, zau, outR, resAll, resOne, zav, zaw, zax, zay, zaz, zba, zbb, zbc, zbd, zbe, zbf, zbg, zbh, zbi, zbj, zbk, storeOp, storeCell, overlay, zbl, zbm, zbn, lookupOp, keyT, okRes, mapUpdateOp, zbo, zbp, zbq, zbr, zbs, zbt, zbu, Nat.reduceSub, Nat.reduceAdd, Int.reduceLT, Int.reduceLE, Int.reduceAdd, Int.reduceSub, Int.reduceToNat, Int.reduceBEq, Int.reduceBNe, Int.reduceMul, Nat.reduceBEq, Nat.reduceBNe, Nat.reduceLT, Nat.reduceLeDiff, Nat.reduceMul, Nat.reduceEqDiff, WD, effB, effH, isPriv, isHeap, isImm, zbx, zby, zbz, chkO, setD, dslot, zca, zcb, zcc, zcd, ptrCells_some, F47]
          simp only [Bool.true_and, Bool.and_true, Bool.or_true, Bool.true_or, Bool.or_self, Bool.and_self, Bool.false_and, Bool.false_or] at hnum
          rw [← hnum]
          exact ⟨rfl, hset _⟩
        | false =>
          cases b3 with
          | false =>
            simp only [WW, partV, eqCells, eqLf, minV, maxV, ifcV, zaa, zab, zac, zad, zae, zaf, zag, zah, zai, ofConst, ofConst1, List.replicate, zaj, zak, loadOp, Go.Abs.loadCells, binV, zal, pickV, zam, zan, zao, zap, zaq, zar, zas, zat, zau, outR, resAll, resOne, zav, zaw, zax, zay, zaz, zba, zbb, zbc, zbd, zbe, zbf, zbg, zbh, zbi, zbj, zbk, storeOp, storeCell, overlay, zbl, zbm, zbn, lookupOp, keyT, okRes, mapUpdateOp, zbo, zbp, zbq, zbr, zbs, zbt, zbu, Nat.reduceSub, Nat.reduceAdd, Int.reduceLT, Int.reduceLE, Int.reduceAdd, Int.reduceSub, Int.reduceToNat, Int.reduceBEq, Int.reduceBNe, Int.reduceMul, Nat.reduceBEq, Nat.reduceBNe, Nat.reduceLT, Nat.reduceLeDiff, Nat.reduceMul, Nat.reduceEqDiff, WD, effB, effH, isPriv, isHeap, isImm, zbx, zby, zbz, chkO, setD, dslot, zca, zcb, zcc, zcd, ptrCells_some, F47, h1, h2, h3, convertOp, and127 c hc256, hb, hm7, hneg, htn, hcw, hsh, hor, if_neg hneg]
            simp only [WW, partV, eqCells, eqLf, minV, maxV, ifcV, zaa, zab, zac, zad, zae, zaf, zag, zah, zai, ofConst, ofConst1, List.replicate, zaj, zak, loadOp, Go.Abs.loadCells, binV, zal, pickV, zam, zan, zao, zap, zaq, zar, zas, zat, zau, outR, resAll, resOne, zav, zaw, zax, zay, zaz, zba, zbb, zbc, zbd, zbe, zbf, zbg, zbh, zbi, zbj, zbk, storeOp, storeCell, overlay, zbl, zbm, zbn, lookupOp, keyT, okRes, mapUpdateOp, zbo, zbp, zbq, zbr, zbs, zbt, zbu, Nat.reduceSub, Nat.reduceAdd, Int.reduceLT, Int.reduceLE, Int.reduceAdd, Int.reduceSub, Int.reduceToNat, Int.reduceBEq, Int.reduceBNe, Int.reduceMul, Nat.reduceBEq, Nat.reduceBNe, Nat.reduceLT, Nat.reduceLeDiff, Nat.reduceMul, Nat.reduceEqDiff, WD, effB, effH, isPriv, isHeap, isImm, zbx, zby, zbz, chkO, setD, dslot, zca, zcb, zcc, zcd, ptrCells_some, F47, hb, hb2, hp1, storeHeap, promote, heapSet, elemSet]
            simp only [Bool.false_and, Bool.and_false, Bool.or_self, Bool.false_or, Bool.or_false] at hnum
            refine cSplit (fun g9 => ?_) (fun g9 => ?_)
            · have hm : decide (c < 128) = true := decide_eq_true (by have := of_decide_eq_true g9; omega)
              rw [hm] at hnum
              simp only [g9]
              simp only [WW, partV, eqCells, eqLf, minV, maxV, ifcV, zaa, zab, zac, zad, zae, zaf, zag, zah, zai, ofConst, ofConst1, List.replicate, zaj, zak, loadOp, Go.Abs.loadCells, binV, zal, pickV, zam, zan, zao, zap, zaq, zar, zas, zat, zau, outR, resAll, resOne, zav, zaw, zax, zay, zaz, zba, zbb, zbc, zbd, zbe, zbf, zbg, zbh, zbi, zbj, zbk, storeOp, storeCell, overlay, zbl, zbm, zbn, lookupOp, keyT, okRes, mapUpdateOp, zbo, zbp, zbq, zbr, zbs, zbt, zbu, Nat.reduceSub, Nat.reduceAdd, Int.reduceLT, Int.reduceLE, Int.reduceAdd, Int.reduceSub, Int.reduceToNat, Int.reduceBEq, Int.reduceBNe, Int.reduceMul, Nat.reduceBEq, Nat.reduceBNe, Nat.reduceLT, Nat.reduceLeDiff, Nat.reduceMul, Nat.reduceEqDiff, WD, effB, effH, isPriv, isHeap, isImm, zbx, zby, zbz, chkO, setD, dslot, zca, zcb, zcc, zcd, ptrCells_some, F47]
              rw [← hnum]
              exact ⟨rfl, hset _⟩
            · have hm : decide (c < 128) = false := decide_eq_false (by have := of_decide_eq_false g9; omega)
              rw [hm] at hnum
              simp only [g9]
              simp only [WW, partV, eqCells, eqLf, minV, maxV, ifcV, zaa, zab, zac, zad, zae, zaf, zag, zah, zai, ofConst, ofConst1, List.replicate, zaj, zak, loadOp, Go.Abs.loadCells, binV, zal, pickV, zam, zan, zao, zap, zaq, zar, zas, zat, zau, outR, resAll, resOne, zav, zaw, zax, zay, zaz, zba, zbb, zbc, zbd, zbe, zbf, zbg, zbh, zbi, zbj, zbk, storeOp, storeCell, overlay, zbl, zbm, zbn, lookupOp, keyT, okRes, mapUpdateOp, zbo, zbp, zbq, zbr, zbs, zbt, zbu, Nat.reduceSub, Nat.reduceAdd, Int.reduceLT, Int.reduceLE, Int.reduceAdd, Int.reduceSub, Int.reduceToNat, Int.reduceBEq, Int.reduceBNe, Int.reduceMul, Nat.reduceBEq, Nat.reduceBNe, Nat.reduceLT, Nat.reduceLeDiff, Nat.reduceMul, Nat.reduceEqDiff, WD, effB, effH, isPriv, isHeap, isImm, zbx, zby, zbz, chkO, setD, dslot, zca, zcb, zcc, zcd, ptrCells_some, F47]
              have h8 : i ≤ 7 := by
                have := of_decide_eq_false g9
                by_cases hh : i = 8
                · exfalso
                  have hq : badN i c = true := by rw [badN, hh, decide_eq_true (show 64 ≤ c by omega)]; simp
                  rw [hbad] at hq
                  simp at hq
                · omega
              refine ⟨9 - (i + 1), by omega, i + 1, v + c % 128 * 2 ^ (7 * i), p + 1, ?_, ⟨rfl, by omega⟩, hR2, fun b => by rw [List.set_set]; exact hset b, hvv, ?_⟩
              · simp only [WN, firstReg, growAll, zbv, zbw, norm, killS, zag, zah, zaa, zab, zbl, zat, zad, growOne, zae, zaf, zac, zas, zak, Nat.reduceLT, Nat.reduceAdd, zbj, zav, F47]
                rw [IntWalk.i64_in ((i : Int) + 1) (by omega)]; rfl
              · have e9' : 9 - (i + 1) = 8 - i := by omega
                rw [e9']; exact hnum
          | true =>
            cases b4 with
            | true =>
              simp only [WW, partV, eqCells, eqLf, minV, maxV, ifcV, zaa, zab, zac, zad, zae, zaf, zag, zah, zai, ofConst, ofConst1, List.replicate, zaj, zak, loadOp, Go.Abs.loadCells, binV, zal, pickV, zam, zan, zao, zap, zaq, zar, zas, zat, zau, outR, resAll, resOne, zav, zaw, zax, zay, zaz, zba, zbb, zbc, zbd, zbe, zbf, zbg, zbh, zbi, zbj, zbk, storeOp, storeCell, overlay, zbl, zbm, zbn, lookupOp, keyT, okRes, mapUpdateOp, zbo, zbp, zbq, zbr, zbs, zbt, zbu, Nat.reduceSub, Nat.reduceAdd, Int.reduceLT, Int.reduceLE, Int.reduceAdd, Int.reduceSub, Int.reduceToNat, Int.reduceBEq, Int.reduceBNe, Int.reduceMul, Nat.reduceBEq, Nat.reduceBNe, Nat.reduceLT, Nat.reduceLeDiff, Nat.reduceMul, Nat.reduceEqDiff, WD, effB, effH, isPriv, isHeap, isImm, zbx, zby, zbz, chkO, setD, dslot, zca, zcb, zcc, zcd, ptrCells_some, F47, h1, h2, h3, h4, hb]
              rw [h6, wpCall_eq (failR hR' 6 p)]
              simp only [WW, partV, eqCells, eqLf, minV, maxV, ifcV, zaa, zab, zac, zad, zae, zaf, zag, zah, zai, ofConst, ofConst1, List.replicate, zaj, zak, loadOp, Go.Abs.loadCells, binV, zal, pickV, zam, zan, zao, zap, zaq, zar, zas, zat, zau, outR, resAll, resOne, zav, zaw, zax, zay, zaz, zba, zbb, zbc, zbd, zbe, zbf, zbg, zbh, zbi, zbj, zbk, storeOp, storeCell, overlay, zbl, zbm, zbn, lookupOp, keyT, okRes, mapUpdateOp, zbo, zbp, zbq, zbr, zbs, zbt, zbu, Nat.reduceSub, Nat.reduceAdd, Int.reduceLT, Int.reduceLE, Int.reduceAdd, Int.reduceSub, Int.reduceToNat, Int.reduceBEq, Int.reduceBNe, Int.reduceMul, Nat.reduceBEq, Nat.reduceBNe, Nat.reduceLT, Nat.reduceLeDiff, Nat.reduceMul, Nat.reduceEqDiff, WD, effB, effH, isPriv, isHeap, isImm, zbx, zby, zbz, chkO, setD, dslot, zca, zcb, zcc, zcd, ptrCells_some, F47]
              simp only [Bool.true_and, Bool.and_true, Bool.or_true, Bool.true_or, Bool.or_self, Bool.and_self, Bool.false_and, Bool.false_or] at hnum
              rw [← hnum]
              exact ⟨rfl, hset _⟩
            | false =>
              simp only [WW, partV, eqCells, eqLf, minV, maxV, ifcV, zaa, zab, zac, zad, zae, zaf, zag, zah, zai, ofConst, ofConst1, List.replicate, zaj, zak, loadOp, Go.Abs.loadCells, binV, zal, pickV, zam, zan, zao, zap, zaq, zar, zas, zat, zau, outR, resAll, resOne, zav, zaw, zax, zay, zaz, zba, zbb, zbc, zbd, zbe, zbf, zbg, zbh, zbi, zbj, zbk, storeOp, storeCell, overlay, zbl, zbm, zbn, lookupOp, keyT, okRes, mapUpdateOp, zbo, zbp, zbq, zbr, zbs, zbt, zbu, Nat.reduceSub, Nat.reduceAdd, Int.reduceLT, Int.reduceLE, Int.reduceAdd, Int.reduceSub, Int.reduceToNat, Int.reduceBEq, Int.reduceBNe, Int.reduceMul, Nat.reduceBEq, Nat.reduceBNe, Nat.reduceLT, Nat.reduceLeDiff, Nat.reduceMul, Nat.reduceEqDiff, WD, effB, effH, isPriv, isHeap, isImm, zbx, zby, zbz, chkO, setD, dslot, zca, zcb, zcc, zcd, ptrCells_some, F47, h1, h2, h3, h4, convertOp, and127 c hc256, hb, hm7, hneg, htn, hcw, hsh, hor, if_neg hneg]
              simp only [WW, partV, eqCells, eqLf, minV, maxV, ifcV, zaa, zab, zac, zad, zae, zaf, zag, zah, zai, ofConst, ofConst1, List.replicate, zaj, zak, loadOp, Go.Abs.loadCells, binV, zal, pickV, zam, zan, zao, zap, zaq, zar, zas, zat, zau, outR, resAll, resOne, zav, zaw, zax, zay, zaz, zba, zbb, zbc, zbd, zbe, zbf, zbg, zbh, zbi, zbj, zbk, storeOp, storeCell, overlay, zbl, zbm, zbn, lookupOp, keyT, okRes, mapUpdateOp, zbo, zbp, zbq, zbr, zbs, zbt, zbu, Nat.reduceSub, Nat.reduceAdd, Int.reduceLT, Int.reduceLE, Int.reduceAdd, Int.reduceSub, Int.reduceToNat, Int.reduceBEq, Int.reduceBNe, Int.reduceMul, Nat.reduceBEq, Nat.reduceBNe, Nat.reduceLT, Nat.reduceLeDiff, Nat.reduceMul, Nat.reduceEqDiff, WD, effB, effH, isPriv, isHeap, isImm, zbx, zby, zbz, chkO, setD, dslot, zca, zcb, zcc, zcd, ptrCells_some, F47, hb, hb2, hp1, storeHeap, promote, heapSet, elemSet]
              simp only [Bool.false_and, Bool.and_false, Bool.or_self, Bool.false_or, Bool.or_false] at hnum
              refine cSplit (fun g9 => ?_) (fun g9 => ?_)
              · have hm : decide (c < 128) = true := decide_eq_true (by have := of_decide_eq_true g9; omega)
                rw [hm] at hnum
                simp only [g9]
                simp only [WW, partV, eqCells, eqLf, minV, maxV, ifcV, zaa, zab, zac, zad, zae, zaf, zag, zah, zai, ofConst, ofConst1, List.replicate, zaj, zak, loadOp, Go.Abs.loadCells, binV, zal, pickV, zam, zan, zao, zap, zaq, zar, zas, zat, zau, outR, resAll, resOne, zav, zaw, zax, zay, zaz, zba, zbb, zbc, zbd, zbe, zbf, zbg, zbh, zbi, zbj, zbk, storeOp, storeCell, overlay, zbl, zbm, zbn, lookupOp, keyT, okRes, mapUpdateOp, zbo, zbp, zbq, zbr, zbs, zbt, zbu, Nat.reduceSub, Nat.reduceAdd, Int.reduceLT, Int.reduceLE, Int.reduceAdd, Int.reduceSub, Int.reduceToNat, Int.reduceBEq, Int.reduceBNe, Int.reduceMul, Nat.reduceBEq, Nat.reduceBNe, Nat.reduceLT, Nat.reduceLeDiff, Nat.reduceMul, Nat.reduceEqDiff, WD, effB, effH, isPriv, isHeap, isImm, zbx, zby, zbz, chkO, setD, dslot, zca, zcb, zcc, zcd, ptrCells_some, F47]
                rw [← hnum]
                exact ⟨rfl, hset _⟩
              · have hm : decide (c < 128) = false := decide_eq_false (by have := of_decide_eq_false g9; omega)
                rw [hm] at hnum
                simp only [g9]
                simp only [WW, partV, eqCells, eqLf, minV, maxV, ifcV, zaa, zab, zac, zad, zae, zaf, zag, zah, zai, ofConst, ofConst1, List.replicate, zaj, zak, loadOp, Go.Abs.loadCells, binV, zal, pickV, zam, zan, zao, zap, zaq, zar, zas, zat, zau, outR, resAll, resOne, zav, zaw, zax, zay, zaz, zba, zbb, zbc, zbd, zbe, zbf, zbg, zbh, zbi, zbj, zbk, storeOp, storeCell, overlay, zbl, zbm, zbn, lookupOp, keyT, okRes, mapUpdateOp, zbo, zbp, zbq, zbr, zbs, zbt, zbu, Nat.reduceSub, Nat.reduceAdd, Int.reduceLT, Int.reduceLE, Int.reduceAdd, Int.reduceSub, Int.reduceToNat, Int.reduceBEq, Int.reduceBNe, Int.reduceMul, Nat.reduceBEq, Nat.reduceBNe, Nat.reduceLT, Nat.reduceLeDiff, Nat.reduceMul, Nat.reduceEqDiff, WD, effB, effH, isPriv, isHeap, isImm, zbx, zby, zbz, chkO, setD, dslot, zca, zcb, zcc, zcd, ptrCells_some, F47]
                have h8 : i ≤ 7 := by
                  have := of_decide_eq_false g9
                  by_cases hh : i = 8
                  · exfalso
                    have hq : badN i c = true := by rw [badN, hh, decide_eq_true (show 64 ≤ c by omega)]; simp
                    rw [hbad] at hq
                    simp at hq
                  · omega
                refine ⟨9 - (i + 1), by omega, i + 1, v + c % 128 * 2 ^ (7 * i), p + 1, ?_, ⟨rfl, by omega⟩, hR2, fun b => by rw [List.set_set]; exact hset b, hvv, ?_⟩
                · simp only [WN, firstReg, growAll, zbv, zbw, norm, killS, zag, zah, zaa, zab, zbl, zat, zad, growOne, zae, zaf, zac, zas, zak, Nat.reduceLT, Nat.reduceAdd, zbj, zav, F47]
                  rw [IntWalk.i64_in ((i : Int) + 1) (by omega)]; rfl
                · have e9' : 9 - (i + 1) = 8 - i := by omega
                  rw [e9']; exact hnum
end Go.Proofs.YtgjobbmbbedecaaDoor

/- The program's reader: numbers of either sign, how many; lists. -/
namespace Go.Proofs.YtgjobbmbbedecaaDoor
open Go Go.Abs Go.Proofs
set_option maxRecDepth 100000
set_option maxHeartbeats 4000000
set_option linter.unusedVariables false
set_option linter.unusedSimpArgs false
theorem numR {H : Hp} {w : Nat} {x : V} {L : List Nat} {s : S} (hR : Rr H w x L s) (hL : ∀ y ∈ L, y < 256) (hlen : L.length ≤ 5000000) :
    wpCall EW 47 [.ptr w 0 0] H (fun out H' => out = .ret (.int .i64 ((num L s).1 : Nat)) false ∧ Ff w H H' ∧ Rr H' w x L (num L s).2) := by
  have ho := num_ok hR.o
  obtain ⟨p, e⟩ := s
  cases e with
  | zero =>
    refine wpCall_of (number_at hR hL hlen) ?_
    rintro out H' ⟨rfl, rfl⟩
    exact ⟨rfl, Ff.set _, hR.to ho⟩
  | succ e1 =>
    rw [wpCall_eq (number_at0 hR)]
    exact ⟨rfl, Ff.refl, hR⟩
theorem sgnR {H : Hp} {w : Nat} {x : V} {L : List Nat} {s : S} (hR : Rr H w x L s) (hL : ∀ y ∈ L, y < 256) (hlen : L.length ≤ 5000000) :
    wpCall EW 72 [.ptr w 0 0] H (fun out H' => out = .ret (.int .i64 (sgn L s).1) false ∧ Ff w H H' ∧ Rr H' w x L (sgn L s).2) := by
  have hn := num_lt hL s
  refine runs f72 b72 r72 n72 _ _ ?_
  simp only [bodyOf, Tryd.f72, Option.getD_some]
  simp only [WW, partV, eqCells, eqLf, minV, maxV, ifcV, zaa, zab, zac, zad, zae, zaf, zag, zah, zai, ofConst, ofConst1, List.replicate, zaj, zak, loadOp, Go.Abs.loadCells, binV, zal, pickV, zam, zan, zao, zap, zaq, zar, zas, zat, zau, outR, resAll, resOne, zav, zaw, zax, zay, zaz, zba, zbb, zbc, zbd, zbe, zbf, zbg, zbh, zbi, zbj, zbk, storeOp, storeCell, overlay, zbl, zbm, zbn, lookupOp, keyT, okRes, mapUpdateOp, zbo, zbp, zbq, zbr, zbs, zbt, zbu, Nat.reduceSub, Nat.reduceAdd, Int.reduceLT, Int.reduceLE, Int.reduceAdd, Int.reduceSub, Int.reduceToNat, Int.reduceBEq, Int.reduceBNe, Int.reduceMul, Nat.reduceBEq, Nat.reduceBNe, Nat.reduceLT, Nat.reduceLeDiff, Nat.reduceMul, Nat.reduceEqDiff, WD, effB, effH, isPriv, isHeap, isImm, zbx, zby, zbz, chkO, setD, dslot, zca, zcb, zcc, zcd, ptrCells_some, F72]
  refine wpCall_of (numR hR hL hlen) ?_
  rintro out H' ⟨rfl, hf, hR'⟩
  unfold sgn
  generalize hq : (num L s).1 = n at *
  have hand : IntKind.i64.wrap ((BitVec.ofInt IntKind.i64.bits (n : Int) &&& BitVec.ofInt IntKind.i64.bits 1).toNat : Nat) = ((n % 2 : Nat) : Int) := by
    show IntKind.i64.wrap ((BitVec.ofInt 64 (n : Int) &&& BitVec.ofInt 64 1).toNat : Nat) = _
    rw [BitVec.toNat_and, BitVec.toNat_ofInt, BitVec.toNat_ofInt]
    have e1 : ((n : Int) % ((2 ^ 64 : Nat) : Int)).toNat = n := by rw [Int.emod_eq_of_lt (by omega) (by omega)]; simp
    have e2 : ((1 : Int) % ((2 ^ 64 : Nat) : Int)).toNat = 1 := by decide
    rw [e1, e2, Nat.and_one_is_mod]
    exact IntWalk.i64_in _ (by omega)
  have hshr : (n : Int).fdiv (2 ^ 1) = ((n / 2 : Nat) : Int) := by
    rw [Int.fdiv_eq_ediv_of_nonneg _ (by decide)]; norm_cast
  have hneg : IntKind.i64.wrap (0 - ((n / 2 : Nat) : Int)) = -((n / 2 : Nat) : Int) := by rw [IntWalk.i64_in _ (by omega)]; omega
  have hsub : IntKind.i64.wrap (-((n / 2 : Nat) : Int) - 1) = -((n / 2 : Nat) : Int) - 1 := IntWalk.i64_in _ (by omega)
  have h11 : ¬ ((1 : Int) < 0) := by decide
  have hmin : min 1 IntKind.i64.bits = 1 := rfl
  by_cases h2 : n % 2 = 1
  · have hu : unzz n = -((n / 2 : Nat) : Int) - 1 := by unfold unzz; rw [if_pos h2]
    have hb : (((n % 2 : Nat) : Int) == 1) = true := by rw [h2]; rfl
    simp only [WW, partV, eqCells, eqLf, minV, maxV, ifcV, zaa, zab, zac, zad, zae, zaf, zag, zah, zai, ofConst, ofConst1, List.replicate, zaj, zak, loadOp, Go.Abs.loadCells, binV, zal, pickV, zam, zan, zao, zap, zaq, zar, zas, zat, zau, outR, resAll, resOne, zav, zaw, zax, zay, zaz, zba, zbb, zbc, zbd, zbe, zbf, zbg, zbh, zbi, zbj, zbk, storeOp, storeCell, overlay, zbl, zbm, zbn, lookupOp, keyT, okRes, mapUpdateOp, zbo, zbp, zbq, zbr, zbs, zbt, zbu, Nat.reduceSub, Nat.reduceAdd, Int.reduceLT, Int.reduceLE, Int.reduceAdd, Int.reduceSub, Int.reduceToNat, Int.reduceBEq, Int.reduceBNe, Int.reduceMul, Nat.reduceBEq, Nat.reduceBNe, Nat.reduceLT, Nat.reduceLeDiff, Nat.reduceMul, Nat.reduceEqDiff, WD, effB, effH, isPriv, isHeap, isImm, zbx, zby, zbz, chkO, setD, dslot, zca, zcb, zcc, zcd, ptrCells_some, F72, hand, hb, h11, hmin, hshr, hneg, hsub]
    rw [hu]
    exact ⟨rfl, hf, hR'⟩
  · have hu : unzz n = ((n / 2 : Nat) : Int) := by unfold unzz; rw [if_neg h2]
    have hb : (((n % 2 : Nat) : Int) == 1) = false := by rw [beq_eq_false_iff_ne]; omega
    simp only [WW, partV, eqCells, eqLf, minV, maxV, ifcV, zaa, zab, zac, zad, zae, zaf, zag, zah, zai, ofConst, ofConst1, List.replicate, zaj, zak, loadOp, Go.Abs.loadCells, binV, zal, pickV, zam, zan, zao, zap, zaq, zar, zas, zat, zau, outR, resAll, resOne, zav, zaw, zax, zay, zaz, zba, zbb, zbc, zbd, zbe, zbf, zbg, zbh, zbi, zbj, zbk, storeOp, storeCell, overlay, zbl, zbm, zbn, lookupOp, keyT, okRes, mapUpdateOp, zbo, zbp, zbq, zbr, zbs, zbt, zbu, Nat.reduceSub, Nat.reduceAdd, Int.reduceLT, Int.reduceLE, Int.reduceAdd, Int.reduceSub, Int.reduceToNat, Int.reduceBEq, Int.reduceBNe, Int.reduceMul, Nat.reduceBEq, Nat.reduceBNe, Nat.reduceLT, Nat.reduceLeDiff, Nat.reduceMul, Nat.reduceEqDiff, WD, effB, effH, isPriv, isHeap, isImm, zbx, zby, zbz, chkO, setD, dslot, zca, zcb, zcc, zcd, ptrCells_some, F72, hand, hb, h11, hmin, hshr]
    rw [hu]
    exact ⟨rfl, hf, hR'⟩
theorem countR {H : Hp} {w : Nat} {x : V} {L : List Nat} {s : S} (hR : Rr H w x L s) (hL : ∀ y ∈ L, y < 256) (hlen : L.length ≤ 5000000) :
    wpCall EW 67 [.ptr w 0 0] H (fun out H' => out = .ret (.int .i64 ((count L s).1 : Nat)) false ∧ Ff w H H' ∧ Rr H' w x L (count L s).2) := by
  have hn := num_lt hL s
  have hb0 := hR.b
  simp only [rdr] at hb0
  have hs := hR.o
  refine runs f67 b67 r67 n67 _ _ ?_
  simp only [bodyOf, Tryd.f67, Option.getD_some]
  simp only [WW, partV, eqCells, eqLf, minV, maxV, ifcV, zaa, zab, zac, zad, zae, zaf, zag, zah, zai, ofConst, ofConst1, List.replicate, zaj, zak, loadOp, Go.Abs.loadCells, binV, zal, pickV, zam, zan, zao, zap, zaq, zar, zas, zat, zau, outR, resAll, resOne, zav, zaw, zax, zay, zaz, zba, zbb, zbc, zbd, zbe, zbf, zbg, zbh, zbi, zbj, zbk, storeOp, storeCell, overlay, zbl, zbm, zbn, lookupOp, keyT, okRes, mapUpdateOp, zbo, zbp, zbq, zbr, zbs, zbt, zbu, Nat.reduceSub, Nat.reduceAdd, Int.reduceLT, Int.reduceLE, Int.reduceAdd, Int.reduceSub, Int.reduceToNat, Int.reduceBEq, Int.reduceBNe, Int.reduceMul, Nat.reduceBEq, Nat.reduceBNe, Nat.reduceLT, Nat.reduceLeDiff, Nat.reduceMul, Nat.reduceEqDiff, WD, effB, effH, isPriv, isHeap, isImm, zbx, zby, zbz, chkO, setD, dslot, zca, zcb, zcc, zcd, ptrCells_some, F67, hb0]
  refine wpCall_of (numR hR hL hlen) ?_
  rintro out H' ⟨rfl, hf, hR'⟩
  unfold count
  have ho := hR'.o
  have hb := hR'.b
  simp only [rdr] at hb
  generalize num L s = r at *
  obtain ⟨n, q, e⟩ := r
  simp only at *
  have hx := hR'.rd
  have hql : q ≤ L.length := ho
  have hw1 : IntKind.i64.wrap (((bs L).length : Int) - (q : Int)) = (L.length : Int) - (q : Int) := by rw [bs_len]; exact IntWalk.i64_in _ (by omega)
  simp only [WW, partV, eqCells, eqLf, minV, maxV, ifcV, zaa, zab, zac, zad, zae, zaf, zag, zah, zai, ofConst, ofConst1, List.replicate, zaj, zak, loadOp, Go.Abs.loadCells, binV, zal, pickV, zam, zan, zao, zap, zaq, zar, zas, zat, zau, outR, resAll, resOne, zav, zaw, zax, zay, zaz, zba, zbb, zbc, zbd, zbe, zbf, zbg, zbh, zbi, zbj, zbk, storeOp, storeCell, overlay, zbl, zbm, zbn, lookupOp, keyT, okRes, mapUpdateOp, zbo, zbp, zbq, zbr, zbs, zbt, zbu, Nat.reduceSub, Nat.reduceAdd, Int.reduceLT, Int.reduceLE, Int.reduceAdd, Int.reduceSub, Int.reduceToNat, Int.reduceBEq, Int.reduceBNe, Int.reduceMul, Nat.reduceBEq, Nat.reduceBNe, Nat.reduceLT, Nat.reduceLeDiff, Nat.reduceMul, Nat.reduceEqDiff, WD, effB, effH, isPriv, isHeap, isImm, zbx, zby, zbz, chkO, setD, dslot, zca, zcb, zcc, zcd, ptrCells_some, F67]
  refine wC_dr alts67_3 (by kernel_rfl) ?_
  have hfail := failR hR' 3 s.at_
  have h3c : ((3 : Nat) : Int) = 3 := rfl
  rw [h3c] at hfail
  have hff := failS_ok (s := ⟨q, e⟩) (e := 3) (p := s.at_) hR'.o hs
  by_cases hd : L.length - q < n
  · have g : decide ((L.length : Int) - (q : Int) < (n : Int)) = true := decide_eq_true (by omega)
    have hc : countOf L s.at_ (n, ⟨q, e⟩) = (0, failS ⟨q, e⟩ 3 s.at_) := by simp only [countOf, decide_eq_true hd]
    simp only [WW, partV, eqCells, eqLf, minV, maxV, ifcV, zaa, zab, zac, zad, zae, zaf, zag, zah, zai, ofConst, ofConst1, List.replicate, zaj, zak, loadOp, Go.Abs.loadCells, binV, zal, pickV, zam, zan, zao, zap, zaq, zar, zas, zat, zau, outR, resAll, resOne, zav, zaw, zax, zay, zaz, zba, zbb, zbc, zbd, zbe, zbf, zbg, zbh, zbi, zbj, zbk, storeOp, storeCell, overlay, zbl, zbm, zbn, lookupOp, keyT, okRes, mapUpdateOp, zbo, zbp, zbq, zbr, zbs, zbt, zbu, Nat.reduceSub, Nat.reduceAdd, Int.reduceLT, Int.reduceLE, Int.reduceAdd, Int.reduceSub, Int.reduceToNat, Int.reduceBEq, Int.reduceBNe, Int.reduceMul, Nat.reduceBEq, Nat.reduceBNe, Nat.reduceLT, Nat.reduceLeDiff, Nat.reduceMul, Nat.reduceEqDiff, WD, effB, effH, isPriv, isHeap, isImm, zbx, zby, zbz, chkO, setD, dslot, zca, zcb, zcc, zcd, ptrCells_some, F67, hb, hx.shutIn, hx.len, hw1, g, alts67_3]
    rw [wpCall_eq hfail, hc]
    have hR2 := hR'.to hff
    have hb2 := hR2.b
    simp only [rdr] at hb2
    have hne : ((((failS ⟨q, e⟩ 3 s.at_).e : Nat) : Int) != 0) = true := by
      unfold failS
      cases e with
      | zero => rfl
      | succ e1 => simp only [bne_iff_ne, ne_eq]; omega
    simp only [WW, partV, eqCells, eqLf, minV, maxV, ifcV, zaa, zab, zac, zad, zae, zaf, zag, zah, zai, ofConst, ofConst1, List.replicate, zaj, zak, loadOp, Go.Abs.loadCells, binV, zal, pickV, zam, zan, zao, zap, zaq, zar, zas, zat, zau, outR, resAll, resOne, zav, zaw, zax, zay, zaz, zba, zbb, zbc, zbd, zbe, zbf, zbg, zbh, zbi, zbj, zbk, storeOp, storeCell, overlay, zbl, zbm, zbn, lookupOp, keyT, okRes, mapUpdateOp, zbo, zbp, zbq, zbr, zbs, zbt, zbu, Nat.reduceSub, Nat.reduceAdd, Int.reduceLT, Int.reduceLE, Int.reduceAdd, Int.reduceSub, Int.reduceToNat, Int.reduceBEq, Int.reduceBNe, Int.reduceMul, Nat.reduceBEq, Nat.reduceBNe, Nat.reduceLT, Nat.reduceLeDiff, Nat.reduceMul, Nat.reduceEqDiff, WD, effB, effH, isPriv, isHeap, isImm, zbx, zby, zbz, chkO, setD, dslot, zca, zcb, zcc, zcd, ptrCells_some, F67]
    have hb3 : (H'.set w (rdr x (failS ⟨q, e⟩ 3 s.at_)))[w]? = some (.cells [.agg [x, .int .i64 ((failS ⟨q, e⟩ 3 s.at_).at_ : Nat), .int .i64 ((failS ⟨q, e⟩ 3 s.at_).e : Nat)]]) := hR2.b
    simp only [WW, partV, eqCells, eqLf, minV, maxV, ifcV, zaa, zab, zac, zad, zae, zaf, zag, zah, zai, ofConst, ofConst1, List.replicate, zaj, zak, loadOp, Go.Abs.loadCells, binV, zal, pickV, zam, zan, zao, zap, zaq, zar, zas, zat, zau, outR, resAll, resOne, zav, zaw, zax, zay, zaz, zba, zbb, zbc, zbd, zbe, zbf, zbg, zbh, zbi, zbj, zbk, storeOp, storeCell, overlay, zbl, zbm, zbn, lookupOp, keyT, okRes, mapUpdateOp, zbo, zbp, zbq, zbr, zbs, zbt, zbu, Nat.reduceSub, Nat.reduceAdd, Int.reduceLT, Int.reduceLE, Int.reduceAdd, Int.reduceSub, Int.reduceToNat, Int.reduceBEq, Int.reduceBNe, Int.reduceMul, Nat.reduceBEq, Nat.reduceBNe, Nat.reduceLT, Nat.reduceLeDiff, Nat.reduceMul, Nat.reduceEqDiff, WD, effB, effH, isPriv, isHeap, isImm, zbx, zby, zbz, chkO, setD, dslot, zca, zcb, zcc, zcd, ptrCells_some, F67, hb3, hne]
    exact ⟨rfl, hf.trans (Ff.set _), hR2⟩
  · have g : decide ((L.length : Int) - (q : Int) < (n : Int)) = false := decide_eq_false (by omega)
    simp only [WW, partV, eqCells, eqLf, minV, maxV, ifcV, zaa, zab, zac, zad, zae, zaf, zag, zah, zai, ofConst, ofConst1, List.replicate, zaj, zak, loadOp, Go.Abs.loadCells, binV, zal, pickV, zam, zan, zao, zap, zaq, zar, zas, zat, zau, outR, resAll, resOne, zav, zaw, zax, zay, zaz, zba, zbb, zbc, zbd, zbe, zbf, zbg, zbh, zbi, zbj, zbk, storeOp, storeCell, overlay, zbl, zbm, zbn, lookupOp, keyT, okRes, mapUpdateOp, zbo, zbp, zbq, zbr, zbs, zbt, zbu, Nat.reduceSub, Nat.reduceAdd, Int.reduceLT, Int.reduceLE, Int.reduceAdd, Int.reduceSub, Int.reduceToNat, Int.reduceBEq, Int.reduceBNe, Int.reduceMul, Nat.reduceBEq, Nat.reduceBNe, Nat.reduceLT, Nat.reduceLeDiff, Nat.reduceMul, Nat.reduceEqDiff, WD, effB, effH, isPriv, isHeap, isImm, zbx, zby, zbz, chkO, setD, dslot, zca, zcb, zcc, zcd, ptrCells_some, F67, hb, hx.shutIn, hx.len, hw1, g, alts67_3]
    cases e with
    | zero =>
      have hc : countOf L s.at_ (n, ⟨q, 0⟩) = (n, ⟨q, 0⟩) := by simp only [countOf, decide_eq_false hd]
      rw [hc]
      have h01 : (((0 : Nat) : Int) != 0) = false := rfl
      simp only [WW, partV, eqCells, eqLf, minV, maxV, ifcV, zaa, zab, zac, zad, zae, zaf, zag, zah, zai, ofConst, ofConst1, List.replicate, zaj, zak, loadOp, Go.Abs.loadCells, binV, zal, pickV, zam, zan, zao, zap, zaq, zar, zas, zat, zau, outR, resAll, resOne, zav, zaw, zax, zay, zaz, zba, zbb, zbc, zbd, zbe, zbf, zbg, zbh, zbi, zbj, zbk, storeOp, storeCell, overlay, zbl, zbm, zbn, lookupOp, keyT, okRes, mapUpdateOp, zbo, zbp, zbq, zbr, zbs, zbt, zbu, Nat.reduceSub, Nat.reduceAdd, Int.reduceLT, Int.reduceLE, Int.reduceAdd, Int.reduceSub, Int.reduceToNat, Int.reduceBEq, Int.reduceBNe, Int.reduceMul, Nat.reduceBEq, Nat.reduceBNe, Nat.reduceLT, Nat.reduceLeDiff, Nat.reduceMul, Nat.reduceEqDiff, WD, effB, effH, isPriv, isHeap, isImm, zbx, zby, zbz, chkO, setD, dslot, zca, zcb, zcc, zcd, ptrCells_some, F67, h01, hb]
      exact ⟨hf, hR'⟩
    | succ e1 =>
      have hc : countOf L s.at_ (n, ⟨q, e1 + 1⟩) = (0, ⟨q, e1 + 1⟩) := by simp only [countOf, decide_eq_false hd]
      rw [hc]
      have h01 : (((e1 + 1 : Nat) : Int) != 0) = true := by simp only [bne_iff_ne, ne_eq]; omega
      simp only [WW, partV, eqCells, eqLf, minV, maxV, ifcV, zaa, zab, zac, zad, zae, zaf, zag, zah, zai, ofConst, ofConst1, List.replicate, zaj, zak, loadOp, Go.Abs.loadCells, binV, zal, pickV, zam, zan, zao, zap, zaq, zar, zas, zat, zau, outR, resAll, resOne, zav, zaw, zax, zay, zaz, zba, zbb, zbc, zbd, zbe, zbf, zbg, zbh, zbi, zbj, zbk, storeOp, storeCell, overlay, zbl, zbm, zbn, lookupOp, keyT, okRes, mapUpdateOp, zbo, zbp, zbq, zbr, zbs, zbt, zbu, Nat.reduceSub, Nat.reduceAdd, Int.reduceLT, Int.reduceLE, Int.reduceAdd, Int.reduceSub, Int.reduceToNat, Int.reduceBEq, Int.reduceBNe, Int.reduceMul, Nat.reduceBEq, Nat.reduceBNe, Nat.reduceLT, Nat.reduceLeDiff, Nat.reduceMul, Nat.reduceEqDiff, WD, effB, effH, isPriv, isHeap, isImm, zbx, zby, zbz, chkO, setD, dslot, zca, zcb, zcc, zcd, ptrCells_some, F67, h01, hb]
      exact ⟨rfl, hf, hR'⟩
/-- A list that a function makes anew -/
def Own (H : Hp) (n0 : Nat) (y : V) (l : List V) : Prop := (y = .nils ∧ l = []) ∨ ∃ s, y = .sl s 0 l.length ∧ n0 ≤ s ∧ H[s]? = some (.cells l) ∧ l ≠ []
theorem Own.shut {H : Hp} {n0 : Nat} {y : V} {l : List V} (h : Own H n0 y l) (st : St) : sealV st y = y := by
  rcases h with ⟨rfl, _⟩ | ⟨s, rfl, _⟩ <;> rfl
theorem Own.clip2 {H : Hp} {n0 : Nat} {y : V} {l : List V} (h : Own H n0 y l) (a b : Nat) : clip a b (.v y) = .v y := by
  rcases h with ⟨rfl, _⟩ | ⟨s, rfl, _⟩ <;> rfl
theorem Own.grows {H : Hp} {n0 : Nat} {y : V} {l : List V} (h : Own H n0 y l) (r : List LRow) : growsAs r (.v y) = false := by
  rcases h with ⟨rfl, _⟩ | ⟨s, rfl, _⟩ <;> rfl
theorem Own.mov {H H' : Hp} {n0 w : Nat} {y : V} {l : List V} (h : Own H n0 y l) (hw : w < n0) (hf : Ff w H H') : Own H' n0 y l := by
  rcases h with h | ⟨s, h1, h2, h3, h4⟩
  · exact .inl h
  · exact .inr ⟨s, h1, h2, by rw [hf.2 s (List.getElem?_eq_some_iff.1 h3).1 (by omega)]; exact h3, h4⟩
theorem own_app {e : TypeId} {sz : Nat} {H : Hp} {n0 : Nat} {y v : V} {l : List V} {d : Option Nat} (hsz : sizeT Tryd.prog e = sz) (hy : Own H n0 y l) (hn : n0 ≤ H.length) (hv : v.width = sz) (hl : wideAll l sz = true) (hel : elemOk Tryd.prog e (l.length + 1) = true) :
    ∃ y' H', (∀ st, appendOp Tryd.prog .heap st H d e y [v] = some (putS st d (.v y'), H')) ∧ Own H' n0 y' (l ++ [v]) ∧ H.length ≤ H'.length ∧ ∀ i, i < n0 → H'[i]? = H[i]? := by
  have hw1 : wideAll [v] sz = true := by simp [wideAll, hv]
  rcases hy with ⟨rfl, rfl⟩ | ⟨s, rfl, h2, h3, h4⟩
  · refine ⟨.sl H.length 0 1, H ++ [.cells [v]], fun st => ?_, .inr ⟨H.length, rfl, hn, by simp, by simp⟩, by simp, fun i hi => List.getElem?_append_left (by omega)⟩
    have hel : elemOk Tryd.prog e 1 = true := by simpa using hel
    simp [appendOp, hsz, hw1, newSl, hel]
  · have hsl := (List.getElem?_eq_some_iff.1 h3).1
    have he : l.isEmpty = false := by cases l <;> simp_all
    refine ⟨.sl H.length 0 (l.length + 1), H.set s .dead ++ [.cells (l ++ [v])], fun st => ?_, .inr ⟨H.length, by simp, by omega, by rw [List.getElem?_append_right (by simp)]; simp, by simp⟩, by simp, fun i hi => ?_⟩
    · simp [appendOp, hsz, hw1, h3, appendSl, hl, he, hel]
      omega
    · rw [List.getElem?_append_left (by simp; omega), List.getElem?_set_ne (by omega)]
/-- A list as a value that is written to no more -/
def repL (l : List V) : V := match l with | [] => .nils | a :: r => .rsl (a :: r)
theorem repL_rd (l : List V) : RdA (repL l) l := fun H => by
  cases l with
  | nil => exact .nils
  | cons a r => exact .rsl _
theorem repL_shut (l : List V) (st : St) : sealV st (repL l) = repL l := by cases l <;> rfl
theorem repL_cells (l : List V) : (repL l).cells = [repL l] := by cases l <;> rfl
theorem repL_ok (l : List V) : okV (repL l) = true := by cases l <;> rfl
theorem repL_width (l : List V) : (repL l).width = 1 := by cases l <;> rfl
theorem repL_clip (l : List V) (n : Nat) : clipV n (repL l) = repL l := by cases l <;> rfl
theorem repL_grows (l : List V) (r : List LRow) : growsAs r (.v (repL l)) = false := by cases l <;> rfl
theorem repL_prom (l : List V) (st : St) (H : Hp) : promote st H (repL l) = some (repL l, st, H) := by cases l <;> rfl
theorem own_seal {H : Hp} {n0 w : Nat} {y : V} {l : List V} (h : Own H n0 y l) (hw : w < n0) : ∃ H2, sealH .imm y H = (repL l, H2) ∧ H2.length = H.length ∧ H2[w]? = H[w]? ∧ ∀ i, i < n0 → H2[i]? = H[i]? := by
  rcases h with ⟨rfl, rfl⟩ | ⟨s, rfl, h2, h3, h4⟩
  · exact ⟨H, rfl, rfl, rfl, fun _ _ => rfl⟩
  · refine ⟨H.set s .dead, ?_, by simp, List.getElem?_set_ne (by omega), fun i hi => List.getElem?_set_ne (by omega)⟩
    rw [sealH_sl h3 rfl]
    cases l with
    | nil => exact absurd rfl h4
    | cons a r => rfl
/-- After a list was read and is written to no more -/
theorem own_done {H H' : Hp} {w : Nat} {x y : V} {L : List Nat} {s : S} {l : List V} (hf : Ff w H H') (hw : w < H.length) (hx : ∀ H', Ff w H H' → RdB H' x L) (hR : Rr H' w x L s) (h : Own H' H.length y l) :
    ∃ H2, sealH .imm y H' = (repL l, H2) ∧ Ff w H H2 ∧ Rr H2 w x L s := by
  obtain ⟨H2, h1, h2, h3, h4⟩ := own_seal h hw
  have hf2 : Ff w H H2 := ⟨by rw [h2]; exact hf.1, fun i hi hne => by rw [h4 i hi]; exact hf.2 i hi hne⟩
  exact ⟨H2, h1, hf2, ⟨h3.trans hR.b, fun H3 h => hx H3 (hf2.trans h), hR.o⟩⟩
theorem allR42 {α : Type} {H : Hp} {w : Nat} {x : V} {L : List Nat} {s : S} {fa : FuncId} {fb fc : List V} (f : S → α × S) (rep : α → V) (hrs : ∀ a st, sealV st (rep a) = rep a) (hro : ∀ a, okV (rep a) = true) (hrw : ∀ a, (rep a).width = 1) (hcf : callable Tryd.prog fa = true)
    (hR : Rr H w x L s) (hL : ∀ y ∈ L, y < 256) (hlen : L.length ≤ 5000000)
    (hE : ∀ (H1 : Hp) (s1 : S), Ff w H H1 → Rr H1 w x L s1 → wpCall EW fa (fb ++ fc) H1 (fun out H2 => out = .ret (rep (f s1).1) false ∧ Ff w H1 H2 ∧ Rr H2 w x L (f s1).2)) :
    wpCall EW 42 [.ptr w 0 0, .fn fa fb fc] H (fun out H' => ∃ y, out = .ret y false ∧ Ff w H H' ∧ Rr H' w x L (allS L f s).2 ∧ Own H' H.length y ((allS L f s).1.map rep)) := by
  have hcl := count_le hR.o
  have hwl := hR.lt
  refine runs f42 b42 r42 n42 _ _ ?_
  simp only [bodyOf, Tryd.f42, Option.getD_some]
  simp only [WW, partV, eqCells, eqLf, minV, maxV, ifcV, zaa, zab, zac, zad, zae, zaf, zag, zah, zai, ofConst, ofConst1, List.replicate, zaj, zak, loadOp, Go.Abs.loadCells, binV, zal, pickV, zam, zan, zao, zap, zaq, zar, zas, zat, zau, outR, resAll, resOne, zav, zaw, zax, zay, zaz, zba, zbb, zbc, zbd, zbe, zbf, zbg, zbh, zbi, zbj, zbk, storeOp, storeCell, overlay, zbl, zbm, zbn, lookupOp, keyT, okRes, mapUpdateOp, zbo, zbp, zbq, zbr, zbs, zbt, zbu, Nat.reduceSub, Nat.reduceAdd, Int.reduceLT, Int.reduceLE, Int.reduceAdd, Int.reduceSub, Int.reduceToNat, Int.reduceBEq, Int.reduceBNe, Int.reduceMul, Nat.reduceBEq, Nat.reduceBNe, Nat.reduceLT, Nat.reduceLeDiff, Nat.reduceMul, Nat.reduceEqDiff, WD, effB, effH, isPriv, isHeap, isImm, zbx, zby, zbz, chkO, setD, dslot, zca, zcb, zcc, zcd, ptrCells_some, F42]
  refine wpCall_of (countR hR hL hlen) ?_
  rintro out H0 ⟨rfl, hf0, hR0⟩
  simp only [WW, partV, eqCells, eqLf, minV, maxV, ifcV, zaa, zab, zac, zad, zae, zaf, zag, zah, zai, ofConst, ofConst1, List.replicate, zaj, zak, loadOp, Go.Abs.loadCells, binV, zal, pickV, zam, zan, zao, zap, zaq, zar, zas, zat, zau, outR, resAll, resOne, zav, zaw, zax, zay, zaz, zba, zbb, zbc, zbd, zbe, zbf, zbg, zbh, zbi, zbj, zbk, storeOp, storeCell, overlay, zbl, zbm, zbn, lookupOp, keyT, okRes, mapUpdateOp, zbo, zbp, zbq, zbr, zbs, zbt, zbu, Nat.reduceSub, Nat.reduceAdd, Int.reduceLT, Int.reduceLE, Int.reduceAdd, Int.reduceSub, Int.reduceToNat, Int.reduceBEq, Int.reduceBNe, Int.reduceMul, Nat.reduceBEq, Nat.reduceBNe, Nat.reduceLT, Nat.reduceLeDiff, Nat.reduceMul, Nat.reduceEqDiff, WD, effB, effH, isPriv, isHeap, isImm, zbx, zby, zbz, chkO, setD, dslot, zca, zcb, zcc, zcd, ptrCells_some, F42]
  refine wC_loop _ (fun k st' H' => ∃ (n : Nat) (s1 : S) (acc : List α) (y : V), st' = ⟨L42_3 (.v (.ptr w 0 0)) (.v (.fn fa fb fc)) (.v y) (.v (.int .i64 n)), [], []⟩ ∧ k = n ∧ Ff w H H' ∧ Rr H' w x L s1 ∧ Own H' H.length y (acc.map rep) ∧ acc ++ (allG f n s1).1 = (allS L f s).1 ∧ (allG f n s1).2 = (allS L f s).2 ∧ acc.length + n ≤ 5000000) (count L s).1 ⟨(count L s).1, (count L s).2, [], .nils, ?_, rfl, hf0, hR0, .inl ⟨rfl, rfl⟩, rfl, rfl, by simp only [List.length_nil]; omega⟩ ?_
  · simp only [WN, firstReg, growAll, zbv, zbw, norm, killS, zag, zah, zaa, zab, zbl, zat, zad, growOne, zae, zaf, zac, zas, zak, Nat.reduceLT, Nat.reduceAdd, zbj, zav, F42, L42_3]
  · rintro k st' H' ⟨n, s1, acc, y, rfl, rfl, hf, hR', hO, hl1, hl2, hle⟩
    simp only [L42_3]
    have hb := hR'.b
    simp only [rdr] at hb
    cases k with
    | zero =>
      have g0 : decide ((0 : Int) < ((0 : Nat) : Int)) = false := rfl
      simp only [allG, List.append_nil] at hl1 hl2
      simp only [WW, partV, eqCells, eqLf, minV, maxV, ifcV, zaa, zab, zac, zad, zae, zaf, zag, zah, zai, ofConst, ofConst1, List.replicate, zaj, zak, loadOp, Go.Abs.loadCells, binV, zal, pickV, zam, zan, zao, zap, zaq, zar, zas, zat, zau, outR, resAll, resOne, zav, zaw, zax, zay, zaz, zba, zbb, zbc, zbd, zbe, zbf, zbg, zbh, zbi, zbj, zbk, storeOp, storeCell, overlay, zbl, zbm, zbn, lookupOp, keyT, okRes, mapUpdateOp, zbo, zbp, zbq, zbr, zbs, zbt, zbu, Nat.reduceSub, Nat.reduceAdd, Int.reduceLT, Int.reduceLE, Int.reduceAdd, Int.reduceSub, Int.reduceToNat, Int.reduceBEq, Int.reduceBNe, Int.reduceMul, Nat.reduceBEq, Nat.reduceBNe, Nat.reduceLT, Nat.reduceLeDiff, Nat.reduceMul, Nat.reduceEqDiff, WD, effB, effH, isPriv, isHeap, isImm, zbx, zby, zbz, chkO, setD, dslot, zca, zcb, zcc, zcd, ptrCells_some, F42, g0, hO.shut, hO.grows]
      rw [← hl2, ← hl1]
      exact ⟨y, rfl, hf, hR', hO⟩
    | succ n =>
      have g1 : decide ((0 : Int) < ((n + 1 : Nat) : Int)) = true := decide_eq_true (by omega)
      cases he : s1.e with
      | succ e1 =>
        rw [he] at hb
        have g2 : (((e1 + 1 : Nat) : Int) == 0) = false := by rw [beq_eq_false_iff_ne]; omega
        simp only [allG, he, List.append_nil] at hl1 hl2
        simp only [WW, partV, eqCells, eqLf, minV, maxV, ifcV, zaa, zab, zac, zad, zae, zaf, zag, zah, zai, ofConst, ofConst1, List.replicate, zaj, zak, loadOp, Go.Abs.loadCells, binV, zal, pickV, zam, zan, zao, zap, zaq, zar, zas, zat, zau, outR, resAll, resOne, zav, zaw, zax, zay, zaz, zba, zbb, zbc, zbd, zbe, zbf, zbg, zbh, zbi, zbj, zbk, storeOp, storeCell, overlay, zbl, zbm, zbn, lookupOp, keyT, okRes, mapUpdateOp, zbo, zbp, zbq, zbr, zbs, zbt, zbu, Nat.reduceSub, Nat.reduceAdd, Int.reduceLT, Int.reduceLE, Int.reduceAdd, Int.reduceSub, Int.reduceToNat, Int.reduceBEq, Int.reduceBNe, Int.reduceMul, Nat.reduceBEq, Nat.reduceBNe, Nat.reduceLT, Nat.reduceLeDiff, Nat.reduceMul, Nat.reduceEqDiff, WD, effB, effH, isPriv, isHeap, isImm, zbx, zby, zbz, chkO, setD, dslot, zca, zcb, zcc, zcd, ptrCells_some, F42, g1, g2, hb, hO.shut, hO.grows]
        rw [← hl2, ← hl1]
        exact ⟨y, rfl, hf, hR', hO⟩
      | zero =>
        rw [he] at hb
        have g2 : (((0 : Nat) : Int) == 0) = true := rfl
        simp only [allG, he] at hl1 hl2
        simp only [WW, partV, eqCells, eqLf, minV, maxV, ifcV, zaa, zab, zac, zad, zae, zaf, zag, zah, zai, ofConst, ofConst1, List.replicate, zaj, zak, loadOp, Go.Abs.loadCells, binV, zal, pickV, zam, zan, zao, zap, zaq, zar, zas, zat, zau, outR, resAll, resOne, zav, zaw, zax, zay, zaz, zba, zbb, zbc, zbd, zbe, zbf, zbg, zbh, zbi, zbj, zbk, storeOp, storeCell, overlay, zbl, zbm, zbn, lookupOp, keyT, okRes, mapUpdateOp, zbo, zbp, zbq, zbr, zbs, zbt, zbu, Nat.reduceSub, Nat.reduceAdd, Int.reduceLT, Int.reduceLE, Int.reduceAdd, Int.reduceSub, Int.reduceToNat, Int.reduceBEq, Int.reduceBNe, Int.reduceMul, Nat.reduceBEq, Nat.reduceBNe, Nat.reduceLT, Nat.reduceLeDiff, Nat.reduceMul, Nat.reduceEqDiff, WD, effB, effH, isPriv, isHeap, isImm, zbx, zby, zbz, chkO, setD, dslot, zca, zcb, zcc, zcd, ptrCells_some, F42, g1, g2, hb]
        refine ⟨hcf, wpCall_of (hE H' s1 hf hR') ?_⟩
        rintro out H2 ⟨rfl, hf2, hR2⟩
        have hO2 := hO.mov hwl hf2
        have hwd : wideAll (acc.map rep) 1 = true := wide_mapN hrw acc
        obtain ⟨y3, H3, ha, hO3, hl3, hk3⟩ := own_app (d := some 24) (e := 9) (v := rep (f s1).1) size9 hO2 (by have := (hf.trans hf2).1; omega) (hrw _) hwd (by rw [room9, List.length_map]; simp; omega)
        have hrow : wideAll [rep (f s1).1] 1 = true := by simp [wideAll, hrw]
        have hrc : (rep (f s1).1).cells.length = 1 := hrw _
        have hsub : IntKind.i64.wrap (((n + 1 : Nat) : Int) - 1) = (n : Int) := by rw [IntWalk.i64_in _ (by omega)]; omega
        simp only [WW, partV, eqCells, eqLf, minV, maxV, ifcV, zaa, zab, zac, zad, zae, zaf, zag, zah, zai, ofConst, ofConst1, List.replicate, zaj, zak, loadOp, Go.Abs.loadCells, binV, zal, pickV, zam, zan, zao, zap, zaq, zar, zas, zat, zau, outR, resAll, resOne, zav, zaw, zax, zay, zaz, zba, zbb, zbc, zbd, zbe, zbf, zbg, zbh, zbi, zbj, zbk, storeOp, storeCell, overlay, zbl, zbm, zbn, lookupOp, keyT, okRes, mapUpdateOp, zbo, zbp, zbq, zbr, zbs, zbt, zbu, Nat.reduceSub, Nat.reduceAdd, Int.reduceLT, Int.reduceLE, Int.reduceAdd, Int.reduceSub, Int.reduceToNat, Int.reduceBEq, Int.reduceBNe, Int.reduceMul, Nat.reduceBEq, Nat.reduceBNe, Nat.reduceLT, Nat.reduceLeDiff, Nat.reduceMul, Nat.reduceEqDiff, WD, effB, effH, isPriv, isHeap, isImm, zbx, zby, zbz, chkO, setD, dslot, zca, zcb, zcc, zcd, ptrCells_some, F42, hrs, hro, hrw, hrc, buildSliceV, lits, srcV_eq, srcK_sl, srcK_str, srcSl_nils, srcSl_rsl, srcSl_sl, frow, zbv, zbw, List.all_nil, List.all_cons, rowV, Bool.false_and, Bool.and_false, ne_eq, not_false_eq_true, grows_lr, callOut_t, hO.shut, hO2.shut, ha, hsub]
        have hf3 : Ff w H H3 := ⟨by have := (hf.trans hf2).1; omega, fun i h1 h2 => by rw [hk3 i h1]; exact (hf.trans hf2).2 i h1 h2⟩
        refine ⟨n, by omega, n, (f s1).2, acc ++ [(f s1).1], y3, ?_, rfl, hf3, ?_, by rw [List.map_append]; exact hO3, by rw [List.append_assoc]; exact hl1, hl2, by simp; omega⟩
        · simp only [WN, firstReg, growAll, zbv, zbw, norm, killS, zag, zah, zaa, zab, zbl, zat, zad, growOne, zae, zaf, zac, zas, zak, Nat.reduceLT, Nat.reduceAdd, zbj, zav, F42, hO3.clip2, hsub]
          try rfl
        · exact ⟨by rw [hk3 w hwl]; exact hR2.b, fun H4 h4 => hR.r H4 (hf3.trans h4), hR2.o⟩
theorem allR44 {α : Type} {H : Hp} {w : Nat} {x : V} {L : List Nat} {s : S} {fa : FuncId} {fb fc : List V} (f : S → α × S) (rep : α → V) (hrs : ∀ a st, sealV st (rep a) = rep a) (hro : ∀ a, okV (rep a) = true) (hrw : ∀ a, (rep a).width = 1) (hcf : callable Tryd.prog fa = true)
    (hR : Rr H w x L s) (hL : ∀ y ∈ L, y < 256) (hlen : L.length ≤ 5000000)
    (hE : ∀ (H1 : Hp) (s1 : S), Ff w H H1 → Rr H1 w x L s1 → wpCall EW fa (fb ++ fc) H1 (fun out H2 => out = .ret (rep (f s1).1) false ∧ Ff w H1 H2 ∧ Rr H2 w x L (f s1).2)) :
    wpCall EW 44 [.ptr w 0 0, .fn fa fb fc] H (fun out H' => ∃ y, out = .ret y false ∧ Ff w H H' ∧ Rr H' w x L (allS L f s).2 ∧ Own H' H.length y ((allS L f s).1.map rep)) := by
  have hcl := count_le hR.o
  have hwl := hR.lt
  refine runs f44 b44 r44 n44 _ _ ?_
  simp only [bodyOf, Tryd.f44, Option.getD_some]
  simp only [WW, partV, eqCells, eqLf, minV, maxV, ifcV, zaa, zab, zac, zad, zae, zaf, zag, zah, zai, ofConst, ofConst1, List.replicate, zaj, zak, loadOp, Go.Abs.loadCells, binV, zal, pickV, zam, zan, zao, zap, zaq, zar, zas, zat, zau, outR, resAll, resOne, zav, zaw, zax, zay, zaz, zba, zbb, zbc, zbd, zbe, zbf, zbg, zbh, zbi, zbj, zbk, storeOp, storeCell, overlay, zbl, zbm, zbn, lookupOp, keyT, okRes, mapUpdateOp, zbo, zbp, zbq, zbr, zbs, zbt, zbu, Nat.reduceSub, Nat.reduceAdd, Int.reduceLT, Int.reduceLE, Int.reduceAdd, Int.reduceSub, Int.reduceToNat, Int.reduceBEq, Int.reduceBNe, Int.reduceMul, Nat.reduceBEq, Nat.reduceBNe, Nat.reduceLT, Nat.reduceLeDiff, Nat.reduceMul, Nat.reduceEqDiff, WD, effB, effH, isPriv, isHeap, isImm, zbx, zby, zbz, chkO, setD, dslot, zca, zcb, zcc, zcd, ptrCells_some, F44]
  refine wpCall_of (countR hR hL hlen) ?_
  rintro out H0 ⟨rfl, hf0, hR0⟩
  simp only [WW, partV, eqCells, eqLf, minV, maxV, ifcV, zaa, zab, zac, zad, zae, zaf, zag, zah, zai, ofConst, ofConst1, List.replicate, zaj, zak, loadOp, Go.Abs.loadCells, binV, zal, pickV, zam, zan, zao, zap, zaq, zar, zas, zat, zau, outR, resAll, resOne, zav, zaw, zax, zay, zaz, zba, zbb, zbc, zbd, zbe, zbf, zbg, zbh, zbi, zbj, zbk, storeOp, storeCell, overlay, zbl, zbm, zbn, lookupOp, keyT, okRes, mapUpdateOp, zbo, zbp, zbq, zbr, zbs, zbt, zbu, Nat.reduceSub, Nat.reduceAdd, Int.reduceLT, Int.reduceLE, Int.reduceAdd, Int.reduceSub, Int.reduceToNat, Int.reduceBEq, Int.reduceBNe, Int.reduceMul, Nat.reduceBEq, Nat.reduceBNe, Nat.reduceLT, Nat.reduceLeDiff, Nat.reduceMul, Nat.reduceEqDiff, WD, effB, effH, isPriv, isHeap, isImm, zbx, zby, zbz, chkO, setD, dslot, zca, zcb, zcc, zcd, ptrCells_some, F44]
  refine wC_loop _ (fun k st' H' => ∃ (n : Nat) (s1 : S) (acc : List α) (y : V), st' = ⟨L44_3 (.v (.ptr w 0 0)) (.v (.fn fa fb fc)) (.v y) (.v (.int .i64 n)), [], []⟩ ∧ k = n ∧ Ff w H H' ∧ Rr H' w x L s1 ∧ Own H' H.length y (acc.map rep) ∧ acc ++ (allG f n s1).1 = (allS L f s).1 ∧ (allG f n s1).2 = (allS L f s).2 ∧ acc.length + n ≤ 5000000) (count L s).1 ⟨(count L s).1, (count L s).2, [], .nils, ?_, rfl, hf0, hR0, .inl ⟨rfl, rfl⟩, rfl, rfl, by simp only [List.length_nil]; omega⟩ ?_
  · simp only [WN, firstReg, growAll, zbv, zbw, norm, killS, zag, zah, zaa, zab, zbl, zat, zad, growOne, zae, zaf, zac, zas, zak, Nat.reduceLT, Nat.reduceAdd, zbj, zav, F44, L44_3]
  · rintro k st' H' ⟨n, s1, acc, y, rfl, rfl, hf, hR', hO, hl1, hl2, hle⟩
    simp only [L44_3]
    have hb := hR'.b
    simp only [rdr] at hb
    cases k with
    | zero =>
      have g0 : decide ((0 : Int) < ((0 : Nat) : Int)) = false := rfl
      simp only [allG, List.append_nil] at hl1 hl2
      simp only [WW, partV, eqCells, eqLf, minV, maxV, ifcV, zaa, zab, zac, zad, zae, zaf, zag, zah, zai, ofConst, ofConst1, List.replicate, zaj, zak, loadOp, Go.Abs.loadCells, binV, zal, pickV, zam, zan, zao, zap, zaq, zar, zas, zat, zau, outR, resAll, resOne, zav, zaw, zax, zay, zaz, zba, zbb, zbc, zbd, zbe, zbf, zbg, zbh, zbi, zbj, zbk, storeOp, storeCell, overlay, zbl, zbm, zbn, lookupOp, keyT, okRes, mapUpdateOp, zbo, zbp, zbq, zbr, zbs, zbt, zbu, Nat.reduceSub, Nat.reduceAdd, Int.reduceLT, Int.reduceLE, Int.reduceAdd, Int.reduceSub, Int.reduceToNat, Int.reduceBEq, Int.reduceBNe, Int.reduceMul, Nat.reduceBEq, Nat.reduceBNe, Nat.reduceLT, Nat.reduceLeDiff, Nat.reduceMul, Nat.reduceEqDiff, WD, effB, effH, isPriv, isHeap, isImm, zbx, zby, zbz, chkO, setD, dslot, zca, zcb, zcc, zcd, ptrCells_some, F44, g0, hO.shut, hO.grows]
      rw [← hl2, ← hl1]
      exact ⟨y, rfl, hf, hR', hO⟩
    | succ n =>
      have g1 : decide ((0 : Int) < ((n + 1 : Nat) : Int)) = true := decide_eq_true (by omega)
      cases he : s1.e with
      | succ e1 =>
        rw [he] at hb
        have g2 : (((e1 + 1 : Nat) : Int) == 0) = false := by rw [beq_eq_false_iff_ne]; omega
        simp only [allG, he, List.append_nil] at hl1 hl2
        simp only [WW, partV, eqCells, eqLf, minV, maxV, ifcV, zaa, zab, zac, zad, zae, zaf, zag, zah, zai, ofConst, ofConst1, List.replicate, zaj, zak, loadOp, Go.Abs.loadCells, binV, zal, pickV, zam, zan, zao, zap, zaq, zar, zas, zat, zau, outR, resAll, resOne, zav, zaw, zax, zay, zaz, zba, zbb, zbc, zbd, zbe, zbf, zbg, zbh, zbi, zbj, zbk, storeOp, storeCell, overlay, zbl, zbm, zbn, lookupOp, keyT, okRes, mapUpdateOp, zbo, zbp, zbq, zbr, zbs, zbt, zbu, Nat.reduceSub, Nat.reduceAdd, Int.reduceLT, Int.reduceLE, Int.reduceAdd, Int.reduceSub, Int.reduceToNat, Int.reduceBEq, Int.reduceBNe, Int.reduceMul, Nat.reduceBEq, Nat.reduceBNe, Nat.reduceLT, Nat.reduceLeDiff, Nat.reduceMul, Nat.reduceEqDiff, WD, effB, effH, isPriv, isHeap, isImm, zbx, zby, zbz, chkO, setD, dslot, zca, zcb, zcc, zcd, ptrCells_some, F44, g1, g2, hb, hO.shut, hO.grows]
        rw [← hl2, ← hl1]
        exact ⟨y, rfl, hf, hR', hO⟩
      | zero =>
        rw [he] at hb
        have g2 : (((0 : Nat) : Int) == 0) = true := rfl
        simp only [allG, he] at hl1 hl2
        simp only [WW, partV, eqCells, eqLf, minV, maxV, ifcV, zaa, zab, zac, zad, zae, zaf, zag, zah, zai, ofConst, ofConst1, List.replicate, zaj, zak, loadOp, Go.Abs.loadCells, binV, zal, pickV, zam, zan, zao, zap, zaq, zar, zas, zat, zau, outR, resAll, resOne, zav, zaw, zax, zay, zaz, zba, zbb, zbc, zbd, zbe, zbf, zbg, zbh, zbi, zbj, zbk, storeOp, storeCell, overlay, zbl, zbm, zbn, lookupOp, keyT, okRes, mapUpdateOp, zbo, zbp, zbq, zbr, zbs, zbt, zbu, Nat.reduceSub, Nat.reduceAdd, Int.reduceLT, Int.reduceLE, Int.reduceAdd, Int.reduceSub, Int.reduceToNat, Int.reduceBEq, Int.reduceBNe, Int.reduceMul, Nat.reduceBEq, Nat.reduceBNe, Nat.reduceLT, Nat.reduceLeDiff, Nat.reduceMul, Nat.reduceEqDiff, WD, effB, effH, isPriv, isHeap, isImm, zbx, zby, zbz, chkO, setD, dslot, zca, zcb, zcc, zcd, ptrCells_some, F44, g1, g2, hb]
        refine ⟨hcf, wpCall_of (hE H' s1 hf hR') ?_⟩
        rintro out H2 ⟨rfl, hf2, hR2⟩
        have hO2 := hO.mov hwl hf2
        have hwd : wideAll (acc.map rep) 1 = true := wide_mapN hrw acc
        obtain ⟨y3, H3, ha, hO3, hl3, hk3⟩ := own_app (d := some 24) (e := 45) (v := rep (f s1).1) size45 hO2 (by have := (hf.trans hf2).1; omega) (hrw _) hwd (by rw [room45, List.length_map]; simp; omega)
        have hrow : wideAll [rep (f s1).1] 1 = true := by simp [wideAll, hrw]
        have hrc : (rep (f s1).1).cells.length = 1 := hrw _
        have hsub : IntKind.i64.wrap (((n + 1 : Nat) : Int) - 1) = (n : Int) := by rw [IntWalk.i64_in _ (by omega)]; omega
        simp only [WW, partV, eqCells, eqLf, minV, maxV, ifcV, zaa, zab, zac, zad, zae, zaf, zag, zah, zai, ofConst, ofConst1, List.replicate, zaj, zak, loadOp, Go.Abs.loadCells, binV, zal, pickV, zam, zan, zao, zap, zaq, zar, zas, zat, zau, outR, resAll, resOne, zav, zaw, zax, zay, zaz, zba, zbb, zbc, zbd, zbe, zbf, zbg, zbh, zbi, zbj, zbk, storeOp, storeCell, overlay, zbl, zbm, zbn, lookupOp, keyT, okRes, mapUpdateOp, zbo, zbp, zbq, zbr, zbs, zbt, zbu, Nat.reduceSub, Nat.reduceAdd, Int.reduceLT, Int.reduceLE, Int.reduceAdd, Int.reduceSub, Int.reduceToNat, Int.reduceBEq, Int.reduceBNe, Int.reduceMul, Nat.reduceBEq, Nat.reduceBNe, Nat.reduceLT, Nat.reduceLeDiff, Nat.reduceMul, Nat.reduceEqDiff, WD, effB, effH, isPriv, isHeap, isImm, zbx, zby, zbz, chkO, setD, dslot, zca, zcb, zcc, zcd, ptrCells_some, F44, hrs, hro, hrw, hrc, buildSliceV, lits, srcV_eq, srcK_sl, srcK_str, srcSl_nils, srcSl_rsl, srcSl_sl, frow, zbv, zbw, List.all_nil, List.all_cons, rowV, Bool.false_and, Bool.and_false, ne_eq, not_false_eq_true, grows_lr, callOut_t, hO.shut, hO2.shut, ha, hsub]
        have hf3 : Ff w H H3 := ⟨by have := (hf.trans hf2).1; omega, fun i h1 h2 => by rw [hk3 i h1]; exact (hf.trans hf2).2 i h1 h2⟩
        refine ⟨n, by omega, n, (f s1).2, acc ++ [(f s1).1], y3, ?_, rfl, hf3, ?_, by rw [List.map_append]; exact hO3, by rw [List.append_assoc]; exact hl1, hl2, by simp; omega⟩
        · simp only [WN, firstReg, growAll, zbv, zbw, norm, killS, zag, zah, zaa, zab, zbl, zat, zad, growOne, zae, zaf, zac, zas, zak, Nat.reduceLT, Nat.reduceAdd, zbj, zav, F44, hO3.clip2, hsub]
          try rfl
        · exact ⟨by rw [hk3 w hwl]; exact hR2.b, fun H4 h4 => hR.r H4 (hf3.trans h4), hR2.o⟩
theorem allR46 {α : Type} {H : Hp} {w : Nat} {x : V} {L : List Nat} {s : S} {fa : FuncId} {fb fc : List V} (f : S → α × S) (rep : α → V) (hrs : ∀ a st, sealV st (rep a) = rep a) (hro : ∀ a, okV (rep a) = true) (hrw : ∀ a, (rep a).width = 1) (hcf : callable Tryd.prog fa = true)
    (hR : Rr H w x L s) (hL : ∀ y ∈ L, y < 256) (hlen : L.length ≤ 5000000)
    (hE : ∀ (H1 : Hp) (s1 : S), Ff w H H1 → Rr H1 w x L s1 → wpCall EW fa (fb ++ fc) H1 (fun out H2 => out = .ret (rep (f s1).1) false ∧ Ff w H1 H2 ∧ Rr H2 w x L (f s1).2)) :
    wpCall EW 46 [.ptr w 0 0, .fn fa fb fc] H (fun out H' => ∃ y, out = .ret y false ∧ Ff w H H' ∧ Rr H' w x L (allS L f s).2 ∧ Own H' H.length y ((allS L f s).1.map rep)) := by
  have hcl := count_le hR.o
  have hwl := hR.lt
  refine runs f46 b46 r46 n46 _ _ ?_
  simp only [bodyOf, Tryd.f46, Option.getD_some]
  simp only [WW, partV, eqCells, eqLf, minV, maxV, ifcV, zaa, zab, zac, zad, zae, zaf, zag, zah, zai, ofConst, ofConst1, List.replicate, zaj, zak, loadOp, Go.Abs.loadCells, binV, zal, pickV, zam, zan, zao, zap, zaq, zar, zas, zat, zau, outR, resAll, resOne, zav, zaw, zax, zay, zaz, zba, zbb, zbc, zbd, zbe, zbf, zbg, zbh, zbi, zbj, zbk, storeOp, storeCell, overlay, zbl, zbm, zbn, lookupOp, keyT, okRes, mapUpdateOp, zbo, zbp, zbq, zbr, zbs, zbt, zbu, Nat.reduceSub, Nat.reduceAdd, Int.reduceLT, Int.reduceLE, Int.reduceAdd, Int.reduceSub, Int.reduceToNat, Int.reduceBEq, Int.reduceBNe, Int.reduceMul, Nat.reduceBEq, Nat.reduceBNe, Nat.reduceLT, Nat.reduceLeDiff, Nat.reduceMul, Nat.reduceEqDiff, WD, effB, effH, isPriv, isHeap, isImm, zbx, zby, zbz, chkO, setD, dslot, zca, zcb, zcc, zcd, ptrCells_some, F46]
  refine wpCall_of (countR hR hL hlen) ?_
  rintro out H0 ⟨rfl, hf0, hR0⟩
  simp only [WW, partV, eqCells, eqLf, minV, maxV, ifcV, zaa, zab, zac, zad, zae, zaf, zag, zah, zai, ofConst, ofConst1, List.replicate, zaj, zak, loadOp, Go.Abs.loadCells, binV, zal, pickV, zam, zan, zao, zap, zaq, zar, zas, zat, zau, outR, resAll, resOne, zav, zaw, zax, zay, zaz, zba, zbb, zbc, zbd, zbe, zbf, zbg, zbh, zbi, zbj, zbk, storeOp, storeCell, overlay, zbl, zbm, zbn, lookupOp, keyT, okRes, mapUpdateOp, zbo, zbp, zbq, zbr, zbs, zbt, zbu, Nat.reduceSub, Nat.reduceAdd, Int.reduceLT, Int.reduceLE, Int.reduceAdd, Int.reduceSub, Int.reduceToNat, Int.reduceBEq, Int.reduceBNe, Int.reduceMul, Nat.reduceBEq, Nat.reduceBNe, Nat.reduceLT, Nat.reduceLeDiff, Nat.reduceMul, Nat.reduceEqDiff, WD, effB, effH, isPriv, isHeap, isImm, zbx, zby, zbz, chkO, setD, dslot, zca, zcb, zcc, zcd, ptrCells_some, F46]
  refine wC_loop _ (fun k st' H' => ∃ (n : Nat) (s1 : S) (acc : List α) (y : V), st' = ⟨L46_3 (.v (.ptr w 0 0)) (.v (.fn fa fb fc)) (.v y) (.v (.int .i64 n)), [], []⟩ ∧ k = n ∧ Ff w H H' ∧ Rr H' w x L s1 ∧ Own H' H.length y (acc.map rep) ∧ acc ++ (allG f n s1).1 = (allS L f s).1 ∧ (allG f n s1).2 = (allS L f s).2 ∧ acc.length + n ≤ 5000000) (count L s).1 ⟨(count L s).1, (count L s).2, [], .nils, ?_, rfl, hf0, hR0, .inl ⟨rfl, rfl⟩, rfl, rfl, by simp only [List.length_nil]; omega⟩ ?_
  · simp only [WN, firstReg, growAll, zbv, zbw, norm, killS, zag, zah, zaa, zab, zbl, zat, zad, growOne, zae, zaf, zac, zas, zak, Nat.reduceLT, Nat.reduceAdd, zbj, zav, F46, L46_3]
  · rintro k st' H' ⟨n, s1, acc, y, rfl, rfl, hf, hR', hO, hl1, hl2, hle⟩
    simp only [L46_3]
    have hb := hR'.b
    simp only [rdr] at hb
    cases k with
    | zero =>
      have g0 : decide ((0 : Int) < ((0 : Nat) : Int)) = false := rfl
      simp only [allG, List.append_nil] at hl1 hl2
      simp only [WW, partV, eqCells, eqLf, minV, maxV, ifcV, zaa, zab, zac, zad, zae, zaf, zag, zah, zai, ofConst, ofConst1, List.replicate, zaj, zak, loadOp, Go.Abs.loadCells, binV, zal, pickV, zam, zan, zao, zap, zaq, zar, zas, zat, zau, outR, resAll, resOne, zav, zaw, zax, zay, zaz, zba, zbb, zbc, zbd, zbe, zbf, zbg, zbh, zbi, zbj, zbk, storeOp, storeCell, overlay, zbl, zbm, zbn, lookupOp, keyT, okRes, mapUpdateOp, zbo, zbp, zbq, zbr, zbs, zbt, zbu, Nat.reduceSub, Nat.reduceAdd, Int.reduceLT, Int.reduceLE, Int.reduceAdd, Int.reduceSub, Int.reduceToNat, Int.reduceBEq, Int.reduceBNe, Int.reduceMul, Nat.reduceBEq, Nat.reduceBNe, Nat.reduceLT, Nat.reduceLeDiff, Nat.reduceMul, Nat.reduceEqDiff, WD, effB, effH, isPriv, isHeap, isImm, zbx, zby, zbz, chkO, setD, dslot, zca, zcb, zcc, zcd, ptrCells_some, F46, g0, hO.shut, hO.grows]
      rw [← hl2, ← hl1]
      exact ⟨y, rfl, hf, hR', hO⟩
    | succ n =>
      have g1 : decide ((0 : Int) < ((n + 1 : Nat) : Int)) = true := decide_eq_true (by omega)
      cases he : s1.e with
      | succ e1 =>
        rw [he] at hb
        have g2 : (((e1 + 1 : Nat) : Int) == 0) = false := by rw [beq_eq_false_iff_ne]; omega
        simp only [allG, he, List.append_nil] at hl1 hl2
        simp only [WW, partV, eqCells, eqLf, minV, maxV, ifcV, zaa, zab, zac, zad, zae, zaf, zag, zah, zai, ofConst, ofConst1, List.replicate, zaj, zak, loadOp, Go.Abs.loadCells, binV, zal, pickV, zam, zan, zao, zap, zaq, zar, zas, zat, zau, outR, resAll, resOne, zav, zaw, zax, zay, zaz, zba, zbb, zbc, zbd, zbe, zbf, zbg, zbh, zbi, zbj, zbk, storeOp, storeCell, overlay, zbl, zbm, zbn, lookupOp, keyT, okRes, mapUpdateOp, zbo, zbp, zbq, zbr, zbs, zbt, zbu, Nat.reduceSub, Nat.reduceAdd, Int.reduceLT, Int.reduceLE, Int.reduceAdd, Int.reduceSub, Int.reduceToNat, Int.reduceBEq, Int.reduceBNe, Int.reduceMul, Nat.reduceBEq, Nat.reduceBNe, Nat.reduceLT, Nat.reduceLeDiff, Nat.reduceMul, Nat.reduceEqDiff, WD, effB, effH, isPriv, isHeap, isImm, zbx, zby, zbz, chkO, setD, dslot, zca, zcb, zcc, zcd, ptrCells_some, F46, g1, g2, hb, hO.shut, hO.grows]
        rw [← hl2, ← hl1]
        exact ⟨y, rfl, hf, hR', hO⟩
      | zero =>
        rw [he] at hb
        have g2 : (((0 : Nat) : Int) == 0) = true := rfl
        simp only [allG, he] at hl1 hl2
        simp only [WW, partV, eqCells, eqLf, minV, maxV, ifcV, zaa, zab, zac, zad, zae, zaf, zag, zah, zai, ofConst, ofConst1, List.replicate, zaj, zak, loadOp, Go.Abs.loadCells, binV, zal, pickV, zam, zan, zao, zap, zaq, zar, zas, zat, zau, outR, resAll, resOne, zav, zaw, zax, zay, zaz, zba, zbb, zbc, zbd, zbe, zbf, zbg, zbh, zbi, zbj, zbk, storeOp, storeCell, overlay, zbl, zbm, zbn, lookupOp, keyT, okRes, mapUpdateOp, zbo, zbp, zbq, zbr, zbs, zbt, zbu, Nat.reduceSub, Nat.reduceAdd, Int.reduceLT, Int.reduceLE, Int.reduceAdd, Int.reduceSub, Int.reduceToNat, Int.reduceBEq, Int.reduceBNe, Int.reduceMul, Nat.reduceBEq, Nat.reduceBNe, Nat.reduceLT, Nat.reduceLeDiff, Nat.reduceMul, Nat.reduceEqDiff, WD, effB, effH, isPriv, isHeap, isImm, zbx, zby, zbz, chkO, setD, dslot, zca, zcb, zcc, zcd, ptrCells_some, F46, g1, g2, hb]
        refine ⟨hcf, wpCall_of (hE H' s1 hf hR') ?_⟩
        rintro out H2 ⟨rfl, hf2, hR2⟩
        have hO2 := hO.mov hwl hf2
        have hwd : wideAll (acc.map rep) 1 = true := wide_mapN hrw acc
        obtain ⟨y3, H3, ha, hO3, hl3, hk3⟩ := own_app (d := some 24) (e := 3) (v := rep (f s1).1) size3 hO2 (by have := (hf.trans hf2).1; omega) (hrw _) hwd (by rw [room3, List.length_map]; simp; omega)
        have hrow : wideAll [rep (f s1).1] 1 = true := by simp [wideAll, hrw]
        have hrc : (rep (f s1).1).cells.length = 1 := hrw _
        have hsub : IntKind.i64.wrap (((n + 1 : Nat) : Int) - 1) = (n : Int) := by rw [IntWalk.i64_in _ (by omega)]; omega
        simp only [WW, partV, eqCells, eqLf, minV, maxV, ifcV, zaa, zab, zac, zad, zae, zaf, zag, zah, zai, ofConst, ofConst1, List.replicate, zaj, zak, loadOp, Go.Abs.loadCells, binV, zal, pickV, zam, zan, zao, zap, zaq, zar, zas, zat, zau, outR, resAll, resOne, zav, zaw, zax, zay, zaz, zba, zbb, zbc, zbd, zbe, zbf, zbg, zbh, zbi, zbj, zbk, storeOp, storeCell, overlay, zbl, zbm, zbn, lookupOp, keyT, okRes, mapUpdateOp, zbo, zbp, zbq, zbr, zbs, zbt, zbu, Nat.reduceSub, Nat.reduceAdd, Int.reduceLT, Int.reduceLE, Int.reduceAdd, Int.reduceSub, Int.reduceToNat, Int.reduceBEq, Int.reduceBNe, Int.reduceMul, Nat.reduceBEq, Nat.reduceBNe, Nat.reduceLT, Nat.reduceLeDiff, Nat.reduceMul, Nat.reduceEqDiff, WD, effB, effH, isPriv, isHeap, isImm, zbx, zby, zbz, chkO, setD, dslot, zca, zcb, zcc, zcd, ptrCells_some, F46, hrs, hro, hrw, hrc, buildSliceV, lits, srcV_eq, srcK_sl, srcK_str, srcSl_nils, srcSl_rsl, srcSl_sl, frow, zbv, zbw, List.all_nil, List.all_cons, rowV, Bool.false_and, Bool.and_false, ne_eq, not_false_eq_true, grows_lr, callOut_t, hO.shut, hO2.shut, ha, hsub]
        have hf3 : Ff w H H3 := ⟨by have := (hf.trans hf2).1; omega, fun i h1 h2 => by rw [hk3 i h1]; exact (hf.trans hf2).2 i h1 h2⟩
        refine ⟨n, by omega, n, (f s1).2, acc ++ [(f s1).1], y3, ?_, rfl, hf3, ?_, by rw [List.map_append]; exact hO3, by rw [List.append_assoc]; exact hl1, hl2, by simp; omega⟩
        · simp only [WN, firstReg, growAll, zbv, zbw, norm, killS, zag, zah, zaa, zab, zbl, zat, zad, growOne, zae, zaf, zac, zas, zak, Nat.reduceLT, Nat.reduceAdd, zbj, zav, F46, hO3.clip2, hsub]
          try rfl
        · exact ⟨by rw [hk3 w hwl]; exact hR2.b, fun H4 h4 => hR.r H4 (hf3.trans h4), hR2.o⟩
theorem allR48 {α : Type} {H : Hp} {w : Nat} {x : V} {L : List Nat} {s : S} {fa : FuncId} {fb fc : List V} (f : S → α × S) (rep : α → V) (hrs : ∀ a st, sealV st (rep a) = rep a) (hro : ∀ a, okV (rep a) = true) (hrw : ∀ a, (rep a).width = 6) (hcf : callable Tryd.prog fa = true)
    (hR : Rr H w x L s) (hL : ∀ y ∈ L, y < 256) (hlen : L.length ≤ 5000000)
    (hE : ∀ (H1 : Hp) (s1 : S), Ff w H H1 → Rr H1 w x L s1 → wpCall EW fa (fb ++ fc) H1 (fun out H2 => out = .ret (rep (f s1).1) false ∧ Ff w H1 H2 ∧ Rr H2 w x L (f s1).2)) :
    wpCall EW 48 [.ptr w 0 0, .fn fa fb fc] H (fun out H' => ∃ y, out = .ret y false ∧ Ff w H H' ∧ Rr H' w x L (allS L f s).2 ∧ Own H' H.length y ((allS L f s).1.map rep)) := by
  have hcl := count_le hR.o
  have hwl := hR.lt
  refine runs f48 b48 r48 n48 _ _ ?_
  simp only [bodyOf, Tryd.f48, Option.getD_some]
  simp only [WW, partV, eqCells, eqLf, minV, maxV, ifcV, zaa, zab, zac, zad, zae, zaf, zag, zah, zai, ofConst, ofConst1, List.replicate, zaj, zak, loadOp, Go.Abs.loadCells, binV, zal, pickV, zam, zan, zao, zap, zaq, zar, zas, zat, zau, outR, resAll, resOne, zav, zaw, zax, zay, zaz, zba, zbb, zbc, zbd, zbe, zbf, zbg, zbh, zbi, zbj, zbk, storeOp, storeCell, overlay, zbl, zbm, zbn, lookupOp, keyT, okRes, mapUpdateOp, zbo, zbp, zbq, zbr, zbs, zbt, zbu, Nat.reduceSub, Nat.reduceAdd, Int.reduceLT, Int.reduceLE, Int.reduceAdd, Int.reduceSub, Int.reduceToNat, Int.reduceBEq, Int.reduceBNe, Int.reduceMul, Nat.reduceBEq, Nat.reduceBNe, Nat.reduceLT, Nat.reduceLeDiff, Nat.reduceMul, Nat.reduceEqDiff, WD, effB, effH, isPriv, isHeap, isImm, zbx, zby, zbz, chkO, setD, dslot, zca, zcb, zcc, zcd, ptrCells_some, F48]
  refine wpCall_of (countR hR hL hlen) ?_
  rintro out H0 ⟨rfl, hf0, hR0⟩
  simp only [WW, partV, eqCells, eqLf, minV, maxV, ifcV, zaa, zab, zac, zad, zae, zaf, zag, zah, zai, ofConst, ofConst1, List.replicate, zaj, zak, loadOp, Go.Abs.loadCells, binV, zal, pickV, zam, zan, zao, zap, zaq, zar, zas, zat, zau, outR, resAll, resOne, zav, zaw, zax, zay, zaz, zba, zbb, zbc, zbd, zbe, zbf, zbg, zbh, zbi, zbj, zbk, storeOp, storeCell, overlay, zbl, zbm, zbn, lookupOp, keyT, okRes, mapUpdateOp, zbo, zbp, zbq, zbr, zbs, zbt, zbu, Nat.reduceSub, Nat.reduceAdd, Int.reduceLT, Int.reduceLE, Int.reduceAdd, Int.reduceSub, Int.reduceToNat, Int.reduceBEq, Int.reduceBNe, Int.reduceMul, Nat.reduceBEq, Nat.reduceBNe, Nat.reduceLT, Nat.reduceLeDiff, Nat.reduceMul, Nat.reduceEqDiff, WD, effB, effH, isPriv, isHeap, isImm, zbx, zby, zbz, chkO, setD, dslot, zca, zcb, zcc, zcd, ptrCells_some, F48]
  refine wC_loop _ (fun k st' H' => ∃ (n : Nat) (s1 : S) (acc : List α) (y : V), st' = ⟨L48_3 (.v (.ptr w 0 0)) (.v (.fn fa fb fc)) (.v y) (.v (.int .i64 n)), [], []⟩ ∧ k = n ∧ Ff w H H' ∧ Rr H' w x L s1 ∧ Own H' H.length y (acc.map rep) ∧ acc ++ (allG f n s1).1 = (allS L f s).1 ∧ (allG f n s1).2 = (allS L f s).2 ∧ acc.length + n ≤ 5000000) (count L s).1 ⟨(count L s).1, (count L s).2, [], .nils, ?_, rfl, hf0, hR0, .inl ⟨rfl, rfl⟩, rfl, rfl, by simp only [List.length_nil]; omega⟩ ?_
  · simp only [WN, firstReg, growAll, zbv, zbw, norm, killS, zag, zah, zaa, zab, zbl, zat, zad, growOne, zae, zaf, zac, zas, zak, Nat.reduceLT, Nat.reduceAdd, zbj, zav, F48, L48_3]
  · rintro k st' H' ⟨n, s1, acc, y, rfl, rfl, hf, hR', hO, hl1, hl2, hle⟩
    simp only [L48_3]
    have hb := hR'.b
    simp only [rdr] at hb
    cases k with
    | zero =>
      have g0 : decide ((0 : Int) < ((0 : Nat) : Int)) = false := rfl
      simp only [allG, List.append_nil] at hl1 hl2
      simp only [WW, partV, eqCells, eqLf, minV, maxV, ifcV, zaa, zab, zac, zad, zae, zaf, zag, zah, zai, ofConst, ofConst1, List.replicate, zaj, zak, loadOp, Go.Abs.loadCells, binV, zal, pickV, zam, zan, zao, zap, zaq, zar, zas, zat, zau, outR, resAll, resOne, zav, zaw, zax, zay, zaz, zba, zbb, zbc, zbd, zbe, zbf, zbg, zbh, zbi, zbj, zbk, storeOp, storeCell, overlay, zbl, zbm, zbn, lookupOp, keyT, okRes, mapUpdateOp, zbo, zbp, zbq, zbr, zbs, zbt, zbu, Nat.reduceSub, Nat.reduceAdd, Int.reduceLT, Int.reduceLE, Int.reduceAdd, Int.reduceSub, Int.reduceToNat, Int.reduceBEq, Int.reduceBNe, Int.reduceMul, Nat.reduceBEq, Nat.reduceBNe, Nat.reduceLT, Nat.reduceLeDiff, Nat.reduceMul, Nat.reduceEqDiff, WD, effB, effH, isPriv, isHeap, isImm, zbx, zby, zbz, chkO, setD, dslot, zca, zcb, zcc, zcd, ptrCells_some, F48, g0, hO.shut, hO.grows]
      rw [← hl2, ← hl1]
      exact ⟨y, rfl, hf, hR', hO⟩
    | succ n =>
      have g1 : decide ((0 : Int) < ((n + 1 : Nat) : Int)) = true := decide_eq_true (by omega)
      cases he : s1.e with
      | succ e1 =>
        rw [he] at hb
        have g2 : (((e1 + 1 : Nat) : Int) == 0) = false := by rw [beq_eq_false_iff_ne]; omega
        simp only [allG, he, List.append_nil] at hl1 hl2
        simp only [WW, partV, eqCells, eqLf, minV, maxV, ifcV, zaa, zab, zac, zad, zae, zaf, zag, zah, zai, ofConst, ofConst1, List.replicate, zaj, zak, loadOp, Go.Abs.loadCells, binV, zal, pickV, zam, zan, zao, zap, zaq, zar, zas, zat, zau, outR, resAll, resOne, zav, zaw, zax, zay, zaz, zba, zbb, zbc, zbd, zbe, zbf, zbg, zbh, zbi, zbj, zbk, storeOp, storeCell, overlay, zbl, zbm, zbn, lookupOp, keyT, okRes, mapUpdateOp, zbo, zbp, zbq, zbr, zbs, zbt, zbu, Nat.reduceSub, Nat.reduceAdd, Int.reduceLT, Int.reduceLE, Int.reduceAdd, Int.reduceSub, Int.reduceToNat, Int.reduceBEq, Int.reduceBNe, Int.reduceMul, Nat.reduceBEq, Nat.reduceBNe, Nat.reduceLT, Nat.reduceLeDiff, Nat.reduceMul, Nat.reduceEqDiff, WD, effB, effH, isPriv, isHeap, isImm, zbx, zby, zbz, chkO, setD, dslot, zca, zcb, zcc, zcd, ptrCells_some, F48, g1, g2, hb, hO.shut, hO.grows]
        rw [← hl2, ← hl1]
        exact ⟨y, rfl, hf, hR', hO⟩
      | zero =>
        rw [he] at hb
        have g2 : (((0 : Nat) : Int) == 0) = true := rfl
        simp only [allG, he] at hl1 hl2
        simp only [WW, partV, eqCells, eqLf, minV, maxV, ifcV, zaa, zab, zac, zad, zae, zaf, zag, zah, zai, ofConst, ofConst1, List.replicate, zaj, zak, loadOp, Go.Abs.loadCells, binV, zal, pickV, zam, zan, zao, zap, zaq, zar, zas, zat, zau, outR, resAll, resOne, zav, zaw, zax, zay, zaz, zba, zbb, zbc, zbd, zbe, zbf, zbg, zbh, zbi, zbj, zbk, storeOp, storeCell, overlay, zbl, zbm, zbn, lookupOp, keyT, okRes, mapUpdateOp, zbo, zbp, zbq, zbr, zbs, zbt, zbu, Nat.reduceSub, Nat.reduceAdd, Int.reduceLT, Int.reduceLE, Int.reduceAdd, Int.reduceSub, Int.reduceToNat, Int.reduceBEq, Int.reduceBNe, Int.reduceMul, Nat.reduceBEq, Nat.reduceBNe, Nat.reduceLT, Nat.reduceLeDiff, Nat.reduceMul, Nat.reduceEqDiff, WD, effB, effH, isPriv, isHeap, isImm, zbx, zby, zbz, chkO, setD, dslot, zca, zcb, zcc, zcd, ptrCells_some, F48, g1, g2, hb]
        refine ⟨hcf, wpCall_of (hE H' s1 hf hR') ?_⟩
        rintro out H2 ⟨rfl, hf2, hR2⟩
        have hO2 := hO.mov hwl hf2
        have hwd : wideAll (acc.map rep) 6 = true := wide_mapN hrw acc
        obtain ⟨y3, H3, ha, hO3, hl3, hk3⟩ := own_app (d := some 24) (e := 50) (v := rep (f s1).1) size50 hO2 (by have := (hf.trans hf2).1; omega) (hrw _) hwd (by rw [room50, List.length_map]; simp; omega)
        have hrow : wideAll [rep (f s1).1] 6 = true := by simp [wideAll, hrw]
        have hrc : (rep (f s1).1).cells.length = 6 := hrw _
        have hsub : IntKind.i64.wrap (((n + 1 : Nat) : Int) - 1) = (n : Int) := by rw [IntWalk.i64_in _ (by omega)]; omega
        simp only [WW, partV, eqCells, eqLf, minV, maxV, ifcV, zaa, zab, zac, zad, zae, zaf, zag, zah, zai, ofConst, ofConst1, List.replicate, zaj, zak, loadOp, Go.Abs.loadCells, binV, zal, pickV, zam, zan, zao, zap, zaq, zar, zas, zat, zau, outR, resAll, resOne, zav, zaw, zax, zay, zaz, zba, zbb, zbc, zbd, zbe, zbf, zbg, zbh, zbi, zbj, zbk, storeOp, storeCell, overlay, zbl, zbm, zbn, lookupOp, keyT, okRes, mapUpdateOp, zbo, zbp, zbq, zbr, zbs, zbt, zbu, Nat.reduceSub, Nat.reduceAdd, Int.reduceLT, Int.reduceLE, Int.reduceAdd, Int.reduceSub, Int.reduceToNat, Int.reduceBEq, Int.reduceBNe, Int.reduceMul, Nat.reduceBEq, Nat.reduceBNe, Nat.reduceLT, Nat.reduceLeDiff, Nat.reduceMul, Nat.reduceEqDiff, WD, effB, effH, isPriv, isHeap, isImm, zbx, zby, zbz, chkO, setD, dslot, zca, zcb, zcc, zcd, ptrCells_some, F48, hrs, hro, hrw, hrc, buildSliceV, lits, srcV_eq, srcK_sl, srcK_str, srcSl_nils, srcSl_rsl, srcSl_sl, frow, zbv, zbw, List.all_nil, List.all_cons, rowV, Bool.false_and, Bool.and_false, ne_eq, not_false_eq_true, grows_lr, callOut_t, hO.shut, hO2.shut, ha, hsub]
        have hf3 : Ff w H H3 := ⟨by have := (hf.trans hf2).1; omega, fun i h1 h2 => by rw [hk3 i h1]; exact (hf.trans hf2).2 i h1 h2⟩
        refine ⟨n, by omega, n, (f s1).2, acc ++ [(f s1).1], y3, ?_, rfl, hf3, ?_, by rw [List.map_append]; exact hO3, by rw [List.append_assoc]; exact hl1, hl2, by simp; omega⟩
        · simp only [WN, firstReg, growAll, zbv, zbw, norm, killS, zag, zah, zaa, zab, zbl, zat, zad, growOne, zae, zaf, zac, zas, zak, Nat.reduceLT, Nat.reduceAdd, zbj, zav, F48, hO3.clip2, hsub]
          try rfl
        · exact ⟨by rw [hk3 w hwl]; exact hR2.b, fun H4 h4 => hR.r H4 (hf3.trans h4), hR2.o⟩
theorem allR68 {α : Type} {H : Hp} {w : Nat} {x : V} {L : List Nat} {s : S} {fa : FuncId} {fb fc : List V} (f : S → α × S) (rep : α → V) (hrs : ∀ a st, sealV st (rep a) = rep a) (hro : ∀ a, okV (rep a) = true) (hrw : ∀ a, (rep a).width = 2) (hcf : callable Tryd.prog fa = true)
    (hR : Rr H w x L s) (hL : ∀ y ∈ L, y < 256) (hlen : L.length ≤ 5000000)
    (hE : ∀ (H1 : Hp) (s1 : S), Ff w H H1 → Rr H1 w x L s1 → wpCall EW fa (fb ++ fc) H1 (fun out H2 => out = .ret (rep (f s1).1) false ∧ Ff w H1 H2 ∧ Rr H2 w x L (f s1).2)) :
    wpCall EW 68 [.ptr w 0 0, .fn fa fb fc] H (fun out H' => ∃ y, out = .ret y false ∧ Ff w H H' ∧ Rr H' w x L (allS L f s).2 ∧ Own H' H.length y ((allS L f s).1.map rep)) := by
  have hcl := count_le hR.o
  have hwl := hR.lt
  refine runs f68 b68 r68 n68 _ _ ?_
  simp only [bodyOf, Tryd.f68, Option.getD_some]
  simp only [WW, partV, eqCells, eqLf, minV, maxV, ifcV, zaa, zab, zac, zad, zae, zaf, zag, zah, zai, ofConst, ofConst1, List.replicate, zaj, zak, loadOp, Go.Abs.loadCells, binV, zal, pickV, zam, zan, zao, zap, zaq, zar, zas, zat, zau, outR, resAll, resOne, zav, zaw, zax, zay, zaz, zba, zbb, zbc, zbd, zbe, zbf, zbg, zbh, zbi, zbj, zbk, storeOp, storeCell, overlay, zbl, zbm, zbn, lookupOp, keyT, okRes, mapUpdateOp, zbo, zbp, zbq, zbr, zbs, zbt, zbu, Nat.reduceSub, Nat.reduceAdd, Int.reduceLT, Int.reduceLE, Int.reduceAdd, Int.reduceSub, Int.reduceToNat, Int.reduceBEq, Int.reduceBNe, Int.reduceMul, Nat.reduceBEq, Nat.reduceBNe, Nat.reduceLT, Nat.reduceLeDiff, Nat.reduceMul, Nat.reduceEqDiff, WD, effB, effH, isPriv, isHeap, isImm, zbx, zby, zbz, chkO, setD, dslot, zca, zcb, zcc, zcd, ptrCells_some, F68]
  refine wpCall_of (countR hR hL hlen) ?_
  rintro out H0 ⟨rfl, hf0, hR0⟩
  simp only [WW, partV, eqCells, eqLf, minV, maxV, ifcV, zaa, zab, zac, zad, zae, zaf, zag, zah, zai, ofConst, ofConst1, List.replicate, zaj, zak, loadOp, Go.Abs.loadCells, binV, zal, pickV, zam, zan, zao, zap, zaq, zar, zas, zat, zau, outR, resAll, resOne, zav, zaw, zax, zay, zaz, zba, zbb, zbc, zbd, zbe, zbf, zbg, zbh, zbi, zbj, zbk, storeOp, storeCell, overlay, zbl, zbm, zbn, lookupOp, keyT, okRes, mapUpdateOp, zbo, zbp, zbq, zbr, zbs, zbt, zbu, Nat.reduceSub, Nat.reduceAdd, Int.reduceLT, Int.reduceLE, Int.reduceAdd, Int.reduceSub, Int.reduceToNat, Int.reduceBEq, Int.reduceBNe, Int.reduceMul, Nat.reduceBEq, Nat.reduceBNe, Nat.reduceLT, Nat.reduceLeDiff, Nat.reduceMul, Nat.reduceEqDiff, WD, effB, effH, isPriv, isHeap, isImm, zbx, zby, zbz, chkO, setD, dslot, zca, zcb, zcc, zcd, ptrCells_some, F68]
  refine wC_loop _ (fun k st' H' => ∃ (n : Nat) (s1 : S) (acc : List α) (y : V), st' = ⟨L68_3 (.v (.ptr w 0 0)) (.v (.fn fa fb fc)) (.v y) (.v (.int .i64 n)), [], []⟩ ∧ k = n ∧ Ff w H H' ∧ Rr H' w x L s1 ∧ Own H' H.length y (acc.map rep) ∧ acc ++ (allG f n s1).1 = (allS L f s).1 ∧ (allG f n s1).2 = (allS L f s).2 ∧ acc.length + n ≤ 5000000) (count L s).1 ⟨(count L s).1, (count L s).2, [], .nils, ?_, rfl, hf0, hR0, .inl ⟨rfl, rfl⟩, rfl, rfl, by simp only [List.length_nil]; omega⟩ ?_
  · simp only [WN, firstReg, growAll, zbv, zbw, norm, killS, zag, zah, zaa, zab, zbl, zat, zad, growOne, zae, zaf, zac, zas, zak, Nat.reduceLT, Nat.reduceAdd, zbj, zav, F68, L68_3]
  · rintro k st' H' ⟨n, s1, acc, y, rfl, rfl, hf, hR', hO, hl1, hl2, hle⟩
    simp only [L68_3]
    have hb := hR'.b
    simp only [rdr] at hb
    cases k with
    | zero =>
      have g0 : decide ((0 : Int) < ((0 : Nat) : Int)) = false := rfl
      simp only [allG, List.append_nil] at hl1 hl2
      simp only [WW, partV, eqCells, eqLf, minV, maxV, ifcV, zaa, zab, zac, zad, zae, zaf, zag, zah, zai, ofConst, ofConst1, List.replicate, zaj, zak, loadOp, Go.Abs.loadCells, binV, zal, pickV, zam, zan, zao, zap, zaq, zar, zas, zat, zau, outR, resAll, resOne, zav, zaw, zax, zay, zaz, zba, zbb, zbc, zbd, zbe, zbf, zbg, zbh, zbi, zbj, zbk, storeOp, storeCell, overlay, zbl, zbm, zbn, lookupOp, keyT, okRes, mapUpdateOp, zbo, zbp, zbq, zbr, zbs, zbt, zbu, Nat.reduceSub, Nat.reduceAdd, Int.reduceLT, Int.reduceLE, Int.reduceAdd, Int.reduceSub, Int.reduceToNat, Int.reduceBEq, Int.reduceBNe, Int.reduceMul, Nat.reduceBEq, Nat.reduceBNe, Nat.reduceLT, Nat.reduceLeDiff, Nat.reduceMul, Nat.reduceEqDiff, WD, effB, effH, isPriv, isHeap, isImm, zbx, zby, zbz, chkO, setD, dslot, zca, zcb, zcc, zcd, ptrCells_some, F68, g0, hO.shut, hO.grows]
      rw [← hl2, ← hl1]
      exact ⟨y, rfl, hf, hR', hO⟩
    | succ n =>
      have g1 : decide ((0 : Int) < ((n + 1 : Nat) : Int)) = true := decide_eq_true (by omega)
      cases he : s1.e with
      | succ e1 =>
        rw [he] at hb
        have g2 : (((e1 + 1 : Nat) : Int) == 0) = false := by rw [beq_eq_false_iff_ne]; omega
        simp only [allG, he, List.append_nil] at hl1 hl2
        simp only [WW, partV, eqCells, eqLf, minV, maxV, ifcV, zaa, zab, zac, zad, zae, zaf, zag, zah, zai, ofConst, ofConst1, List.replicate, zaj, zak, loadOp, Go.Abs.loadCells, binV, zal, pickV, zam, zan, zao, zap, zaq, zar, zas, zat, zau, outR, resAll, resOne, zav, zaw, zax, zay, zaz, zba, zbb, zbc, zbd, zbe, zbf, zbg, zbh, zbi, zbj, zbk, storeOp, storeCell, overlay, zbl, zbm, zbn, lookupOp, keyT, okRes, mapUpdateOp, zbo, zbp, zbq, zbr, zbs, zbt, zbu, Nat.reduceSub, Nat.reduceAdd, Int.reduceLT, Int.reduceLE, Int.reduceAdd, Int.reduceSub, Int.reduceToNat, Int.reduceBEq, Int.reduceBNe, Int.reduceMul, Nat.reduceBEq, Nat.reduceBNe, Nat.reduceLT, Nat.reduceLeDiff, Nat.reduceMul, Nat.reduceEqDiff, WD, effB, effH, isPriv, isHeap, isImm, zbx, zby, zbz, chkO, setD, dslot, zca, zcb, zcc, zcd, ptrCells_some, F68, g1, g2, hb, hO.shut, hO.grows]
        rw [← hl2, ← hl1]
        exact ⟨y, rfl, hf, hR', hO⟩
      | zero =>
        rw [he] at hb
        have g2 : (((0 : Nat) : Int) == 0) = true := rfl
        simp only [allG, he] at hl1 hl2
        simp only [WW, partV, eqCells, eqLf, minV, maxV, ifcV, zaa, zab, zac, zad, zae, zaf, zag, zah, zai, ofConst, ofConst1, List.replicate, zaj, zak, loadOp, Go.Abs.loadCells, binV, zal, pickV, zam, zan, zao, zap, zaq, zar, zas, zat, zau, outR, resAll, resOne, zav, zaw, zax, zay, zaz, zba, zbb, zbc, zbd, zbe, zbf, zbg, zbh, zbi, zbj, zbk, storeOp, storeCell, overlay, zbl, zbm, zbn, lookupOp, keyT, okRes, mapUpdateOp, zbo, zbp, zbq, zbr, zbs, zbt, zbu, Nat.reduceSub, Nat.reduceAdd, Int.reduceLT, Int.reduceLE, Int.reduceAdd, Int.reduceSub, Int.reduceToNat, Int.reduceBEq, Int.reduceBNe, Int.reduceMul, Nat.reduceBEq, Nat.reduceBNe, Nat.reduceLT, Nat.reduceLeDiff, Nat.reduceMul, Nat.reduceEqDiff, WD, effB, effH, isPriv, isHeap, isImm, zbx, zby, zbz, chkO, setD, dslot, zca, zcb, zcc, zcd, ptrCells_some, F68, g1, g2, hb]
        refine ⟨hcf, wpCall_of (hE H' s1 hf hR') ?_⟩
        rintro out H2 ⟨rfl, hf2, hR2⟩
        have hO2 := hO.mov hwl hf2
        have hwd : wideAll (acc.map rep) 2 = true := wide_mapN hrw acc
        obtain ⟨y3, H3, ha, hO3, hl3, hk3⟩ := own_app (d := some 24) (e := 105) (v := rep (f s1).1) size105 hO2 (by have := (hf.trans hf2).1; omega) (hrw _) hwd (by rw [room105, List.length_map]; simp; omega)
        have hrow : wideAll [rep (f s1).1] 2 = true := by simp [wideAll, hrw]
        have hrc : (rep (f s1).1).cells.length = 2 := hrw _
        have hsub : IntKind.i64.wrap (((n + 1 : Nat) : Int) - 1) = (n : Int) := by rw [IntWalk.i64_in _ (by omega)]; omega
        simp only [WW, partV, eqCells, eqLf, minV, maxV, ifcV, zaa, zab, zac, zad, zae, zaf, zag, zah, zai, ofConst, ofConst1, List.replicate, zaj, zak, loadOp, Go.Abs.loadCells, binV, zal, pickV, zam, zan, zao, zap, zaq, zar, zas, zat, zau, outR, resAll, resOne, zav, zaw, zax, zay, zaz, zba, zbb, zbc, zbd, zbe, zbf, zbg, zbh, zbi, zbj, zbk, storeOp, storeCell, overlay, zbl, zbm, zbn, lookupOp, keyT, okRes, mapUpdateOp, zbo, zbp, zbq, zbr, zbs, zbt, zbu, Nat.reduceSub, Nat.reduceAdd, Int.reduceLT, Int.reduceLE, Int.reduceAdd, Int.reduceSub, Int.reduceToNat, Int.reduceBEq, Int.reduceBNe, Int.reduceMul, Nat.reduceBEq, Nat.reduceBNe, Nat.reduceLT, Nat.reduceLeDiff, Nat.reduceMul, Nat.reduceEqDiff, WD, effB, effH, isPriv, isHeap, isImm, zbx, zby, zbz, chkO, setD, dslot, zca, zcb, zcc, zcd, ptrCells_some, F68, hrs, hro, hrw, hrc, buildSliceV, lits, srcV_eq, srcK_sl, srcK_str, srcSl_nils, srcSl_rsl, srcSl_sl, frow, zbv, zbw, List.all_nil, List.all_cons, rowV, Bool.false_and, Bool.and_false, ne_eq, not_false_eq_true, grows_lr, callOut_t, hO.shut, hO2.shut, ha, hsub]
        have hf3 : Ff w H H3 := ⟨by have := (hf.trans hf2).1; omega, fun i h1 h2 => by rw [hk3 i h1]; exact (hf.trans hf2).2 i h1 h2⟩
        refine ⟨n, by omega, n, (f s1).2, acc ++ [(f s1).1], y3, ?_, rfl, hf3, ?_, by rw [List.map_append]; exact hO3, by rw [List.append_assoc]; exact hl1, hl2, by simp; omega⟩
        · simp only [WN, firstReg, growAll, zbv, zbw, norm, killS, zag, zah, zaa, zab, zbl, zat, zad, growOne, zae, zaf, zac, zas, zak, Nat.reduceLT, Nat.reduceAdd, zbj, zav, F68, hO3.clip2, hsub]
          try rfl
        · exact ⟨by rw [hk3 w hwl]; exact hR2.b, fun H4 h4 => hR.r H4 (hf3.trans h4), hR2.o⟩
theorem allR70 {α : Type} {H : Hp} {w : Nat} {x : V} {L : List Nat} {s : S} {fa : FuncId} {fb fc : List V} (f : S → α × S) (rep : α → V) (hrs : ∀ a st, sealV st (rep a) = rep a) (hro : ∀ a, okV (rep a) = true) (hrw : ∀ a, (rep a).width = 3) (hcf : callable Tryd.prog fa = true)
    (hR : Rr H w x L s) (hL : ∀ y ∈ L, y < 256) (hlen : L.length ≤ 5000000)
    (hE : ∀ (H1 : Hp) (s1 : S), Ff w H H1 → Rr H1 w x L s1 → wpCall EW fa (fb ++ fc) H1 (fun out H2 => out = .ret (rep (f s1).1) false ∧ Ff w H1 H2 ∧ Rr H2 w x L (f s1).2)) :
    wpCall EW 70 [.ptr w 0 0, .fn fa fb fc] H (fun out H' => ∃ y, out = .ret y false ∧ Ff w H H' ∧ Rr H' w x L (allS L f s).2 ∧ Own H' H.length y ((allS L f s).1.map rep)) := by
  have hcl := count_le hR.o
  have hwl := hR.lt
  refine runs f70 b70 r70 n70 _ _ ?_
  simp only [bodyOf, Tryd.f70, Option.getD_some]
  simp only [WW, partV, eqCells, eqLf, minV, maxV, ifcV, zaa, zab, zac, zad, zae, zaf, zag, zah, zai, ofConst, ofConst1, List.replicate, zaj, zak, loadOp, Go.Abs.loadCells, binV, zal, pickV, zam, zan, zao, zap, zaq, zar, zas, zat, zau, outR, resAll, resOne, zav, zaw, zax, zay, zaz, zba, zbb, zbc, zbd, zbe, zbf, zbg, zbh, zbi, zbj, zbk, storeOp, storeCell, overlay, zbl, zbm, zbn, lookupOp, keyT, okRes, mapUpdateOp, zbo, zbp, zbq, zbr, zbs, zbt, zbu, Nat.reduceSub, Nat.reduceAdd, Int.reduceLT, Int.reduceLE, Int.reduceAdd, Int.reduceSub, Int.reduceToNat, Int.reduceBEq, Int.reduceBNe, Int.reduceMul, Nat.reduceBEq, Nat.reduceBNe, Nat.reduceLT, Nat.reduceLeDiff, Nat.reduceMul, Nat.reduceEqDiff, WD, effB, effH, isPriv, isHeap, isImm, zbx, zby, zbz, chkO, setD, dslot, zca, zcb, zcc, zcd, ptrCells_some, F70]
  refine wpCall_of (countR hR hL hlen) ?_
  rintro out H0 ⟨rfl, hf0, hR0⟩
  simp only [WW, partV, eqCells, eqLf, minV, maxV, ifcV, zaa, zab, zac, zad, zae, zaf, zag, zah, zai, ofConst, ofConst1, List.replicate, zaj, zak, loadOp, Go.Abs.loadCells, binV, zal, pickV, zam, zan, zao, zap, zaq, zar, zas, zat, zau, outR, resAll, resOne, zav, zaw, zax, zay, zaz, zba, zbb, zbc, zbd, zbe, zbf, zbg, zbh, zbi, zbj, zbk, storeOp, storeCell, overlay, zbl, zbm, zbn, lookupOp, keyT, okRes, mapUpdateOp, zbo, zbp, zbq, zbr, zbs, zbt, zbu, Nat.reduceSub, Nat.reduceAdd, Int.reduceLT, Int.reduceLE, Int.reduceAdd, Int.reduceSub, Int.reduceToNat, Int.reduceBEq, Int.reduceBNe, Int.reduceMul, Nat.reduceBEq, Nat.reduceBNe, Nat.reduceLT, Nat.reduceLeDiff, Nat.reduceMul, Nat.reduceEqDiff, WD, effB, effH, isPriv, isHeap, isImm, zbx, zby, zbz, chkO, setD, dslot, zca, zcb, zcc, zcd, ptrCells_some, F70]
  refine wC_loop _ (fun k st' H' => ∃ (n : Nat) (s1 : S) (acc : List α) (y : V), st' = ⟨L70_3 (.v (.ptr w 0 0)) (.v (.fn fa fb fc)) (.v y) (.v (.int .i64 n)), [], []⟩ ∧ k = n ∧ Ff w H H' ∧ Rr H' w x L s1 ∧ Own H' H.length y (acc.map rep) ∧ acc ++ (allG f n s1).1 = (allS L f s).1 ∧ (allG f n s1).2 = (allS L f s).2 ∧ acc.length + n ≤ 5000000) (count L s).1 ⟨(count L s).1, (count L s).2, [], .nils, ?_, rfl, hf0, hR0, .inl ⟨rfl, rfl⟩, rfl, rfl, by simp only [List.length_nil]; omega⟩ ?_
  · simp only [WN, firstReg, growAll, zbv, zbw, norm, killS, zag, zah, zaa, zab, zbl, zat, zad, growOne, zae, zaf, zac, zas, zak, Nat.reduceLT, Nat.reduceAdd, zbj, zav, F70, L70_3]
  · rintro k st' H' ⟨n, s1, acc, y, rfl, rfl, hf, hR', hO, hl1, hl2, hle⟩
    simp only [L70_3]
    have hb := hR'.b
    simp only [rdr] at hb
    cases k with
    | zero =>
      have g0 : decide ((0 : Int) < ((0 : Nat) : Int)) = false := rfl
      simp only [allG, List.append_nil] at hl1 hl2
      simp only [WW, partV, eqCells, eqLf, minV, maxV, ifcV, zaa, zab, zac, zad, zae, zaf, zag, zah, zai, ofConst, ofConst1, List.replicate, zaj, zak, loadOp, Go.Abs.loadCells, binV, zal, pickV, zam, zan, zao, zap, zaq, zar, zas, zat, zau, outR, resAll, resOne, zav, zaw, zax, zay, zaz, zba, zbb, zbc, zbd, zbe, zbf, zbg, zbh, zbi, zbj, zbk, storeOp, storeCell, overlay, zbl, zbm, zbn, lookupOp, keyT, okRes, mapUpdateOp, zbo, zbp, zbq, zbr, zbs, zbt, zbu, Nat.reduceSub, Nat.reduceAdd, Int.reduceLT, Int.reduceLE, Int.reduceAdd, Int.reduceSub, Int.reduceToNat, Int.reduceBEq, Int.reduceBNe, Int.reduceMul, Nat.reduceBEq, Nat.reduceBNe, Nat.reduceLT, Nat.reduceLeDiff, Nat.reduceMul, Nat.reduceEqDiff, WD, effB, effH, isPriv, isHeap, isImm, zbx, zby, zbz, chkO, setD, dslot, zca, zcb, zcc, zcd, ptrCells_some, F70, g0, hO.shut, hO.grows]
      rw [← hl2, ← hl1]
      exact ⟨y, rfl, hf, hR', hO⟩
    | succ n =>
      have g1 : decide ((0 : Int) < ((n + 1 : Nat) : Int)) = true := decide_eq_true (by omega)
      cases he : s1.e with
      | succ e1 =>
        rw [he] at hb
        have g2 : (((e1 + 1 : Nat) : Int) == 0) = false := by rw [beq_eq_false_iff_ne]; omega
        simp only [allG, he, List.append_nil] at hl1 hl2
        simp only [WW, partV, eqCells, eqLf, minV, maxV, ifcV, zaa, zab, zac, zad, zae, zaf, zag, zah, zai, ofConst, ofConst1, List.replicate, zaj, zak, loadOp, Go.Abs.loadCells, binV, zal, pickV, zam, zan, zao, zap, zaq, zar, zas, zat, zau, outR, resAll, resOne, zav, zaw, zax, zay, zaz, zba, zbb, zbc, zbd, zbe, zbf, zbg, zbh, zbi, zbj, zbk, storeOp, storeCell, overlay, zbl, zbm, zbn, lookupOp, keyT, okRes, mapUpdateOp, zbo, zbp, zbq, zbr, zbs, zbt, zbu, Nat.reduceSub, Nat.reduceAdd, Int.reduceLT, Int.reduceLE, Int.reduceAdd, Int.reduceSub, Int.reduceToNat, Int.reduceBEq, Int.reduceBNe, Int.reduceMul, Nat.reduceBEq, Nat.reduceBNe, Nat.reduceLT, Nat.reduceLeDiff, Nat.reduceMul, Nat.reduceEqDiff, WD, effB, effH, isPriv, isHeap, isImm, zbx, zby, zbz, chkO, setD, dslot, zca, zcb, zcc, zcd, ptrCells_some, F70, g1, g2, hb, hO.shut, hO.grows]
        rw [← hl2, ← hl1]
        exact ⟨y, rfl, hf, hR', hO⟩
      | zero =>
        rw [he] at hb
        have g2 : (((0 : Nat) : Int) == 0) = true := rfl
        simp only [allG, he] at hl1 hl2
        simp only [WW, partV, eqCells, eqLf, minV, maxV, ifcV, zaa, zab, zac, zad, zae, zaf, zag, zah, zai, ofConst, ofConst1, List.replicate, zaj, zak, loadOp, Go.Abs.loadCells, binV, zal, pickV, zam, zan, zao, zap, zaq, zar, zas, zat, zau, outR, resAll, resOne, zav, zaw, zax, zay, zaz, zba, zbb, zbc, zbd, zbe, zbf, zbg, zbh, zbi, zbj, zbk, storeOp, storeCell, overlay, zbl, zbm, zbn, lookupOp, keyT, okRes, mapUpdateOp, zbo, zbp, zbq, zbr, zbs, zbt, zbu, Nat.reduceSub, Nat.reduceAdd, Int.reduceLT, Int.reduceLE, Int.reduceAdd, Int.reduceSub, Int.reduceToNat, Int.reduceBEq, Int.reduceBNe, Int.reduceMul, Nat.reduceBEq, Nat.reduceBNe, Nat.reduceLT, Nat.reduceLeDiff, Nat.reduceMul, Nat.reduceEqDiff, WD, effB, effH, isPriv, isHeap, isImm, zbx, zby, zbz, chkO, setD, dslot, zca, zcb, zcc, zcd, ptrCells_some, F70, g1, g2, hb]
        refine ⟨hcf, wpCall_of (hE H' s1 hf hR') ?_⟩
        rintro out H2 ⟨rfl, hf2, hR2⟩
        have hO2 := hO.mov hwl hf2
        have hwd : wideAll (acc.map rep) 3 = true := wide_mapN hrw acc
        obtain ⟨y3, H3, ha, hO3, hl3, hk3⟩ := own_app (d := some 24) (e := 52) (v := rep (f s1).1) size52 hO2 (by have := (hf.trans hf2).1; omega) (hrw _) hwd (by rw [room52, List.length_map]; simp; omega)
        have hrow : wideAll [rep (f s1).1] 3 = true := by simp [wideAll, hrw]
        have hrc : (rep (f s1).1).cells.length = 3 := hrw _
        have hsub : IntKind.i64.wrap (((n + 1 : Nat) : Int) - 1) = (n : Int) := by rw [IntWalk.i64_in _ (by omega)]; omega
        simp only [WW, partV, eqCells, eqLf, minV, maxV, ifcV, zaa, zab, zac, zad, zae, zaf, zag, zah, zai, ofConst, ofConst1, List.replicate, zaj, zak, loadOp, Go.Abs.loadCells, binV, zal, pickV, zam, zan, zao, zap, zaq, zar, zas, zat, zau, outR, resAll, resOne, zav, zaw, zax, zay, zaz, zba, zbb, zbc, zbd, zbe, zbf, zbg, zbh, zbi, zbj, zbk, storeOp, storeCell, overlay, zbl, zbm, zbn, lookupOp, keyT, okRes, mapUpdateOp, zbo, zbp, zbq, zbr, zbs, zbt, zbu, Nat.reduceSub, Nat.reduceAdd, Int.reduceLT, Int.reduceLE, Int.reduceAdd, Int.reduceSub, Int.reduceToNat, Int.reduceBEq, Int.reduceBNe, Int.reduceMul, Nat.reduceBEq, Nat.reduceBNe, Nat.reduceLT, Nat.reduceLeDiff, Nat.reduceMul, Nat.reduceEqDiff, WD, effB, effH, isPriv, isHeap, isImm, zbx, zby, zbz, chkO, setD, dslot, zca, zcb, zcc, zcd, ptrCells_some, F70, hrs, hro, hrw, hrc, buildSliceV, lits, srcV_eq, srcK_sl, srcK_str, srcSl_nils, srcSl_rsl, srcSl_sl, frow, zbv, zbw, List.all_nil, List.all_cons, rowV, Bool.false_and, Bool.and_false, ne_eq, not_false_eq_true, grows_lr, callOut_t, hO.shut, hO2.shut, ha, hsub]
        have hf3 : Ff w H H3 := ⟨by have := (hf.trans hf2).1; omega, fun i h1 h2 => by rw [hk3 i h1]; exact (hf.trans hf2).2 i h1 h2⟩
        refine ⟨n, by omega, n, (f s1).2, acc ++ [(f s1).1], y3, ?_, rfl, hf3, ?_, by rw [List.map_append]; exact hO3, by rw [List.append_assoc]; exact hl1, hl2, by simp; omega⟩
        · simp only [WN, firstReg, growAll, zbv, zbw, norm, killS, zag, zah, zaa, zab, zbl, zat, zad, growOne, zae, zaf, zac, zas, zak, Nat.reduceLT, Nat.reduceAdd, zbj, zav, F70, hO3.clip2, hsub]
          try rfl
        · exact ⟨by rw [hk3 w hwl]; exact hR2.b, fun H4 h4 => hR.r H4 (hf3.trans h4), hR2.o⟩
theorem allR73 {α : Type} {H : Hp} {w : Nat} {x : V} {L : List Nat} {s : S} {fa : FuncId} {fb fc : List V} (f : S → α × S) (rep : α → V) (hrs : ∀ a st, sealV st (rep a) = rep a) (hro : ∀ a, okV (rep a) = true) (hrw : ∀ a, (rep a).width = 4) (hcf : callable Tryd.prog fa = true)
    (hR : Rr H w x L s) (hL : ∀ y ∈ L, y < 256) (hlen : L.length ≤ 5000000)
    (hE : ∀ (H1 : Hp) (s1 : S), Ff w H H1 → Rr H1 w x L s1 → wpCall EW fa (fb ++ fc) H1 (fun out H2 => out = .ret (rep (f s1).1) false ∧ Ff w H1 H2 ∧ Rr H2 w x L (f s1).2)) :
    wpCall EW 73 [.ptr w 0 0, .fn fa fb fc] H (fun out H' => ∃ y, out = .ret y false ∧ Ff w H H' ∧ Rr H' w x L (allS L f s).2 ∧ Own H' H.length y ((allS L f s).1.map rep)) := by
  have hcl := count_le hR.o
  have hwl := hR.lt
  refine runs f73 b73 r73 n73 _ _ ?_
  simp only [bodyOf, Tryd.f73, Option.getD_some]
  simp only [WW, partV, eqCells, eqLf, minV, maxV, ifcV, zaa, zab, zac, zad, zae, zaf, zag, zah, zai, ofConst, ofConst1, List.replicate, zaj, zak, loadOp, Go.Abs.loadCells, binV, zal, pickV, zam, zan, zao, zap, zaq, zar, zas, zat, zau, outR, resAll, resOne, zav, zaw, zax, zay, zaz, zba, zbb, zbc, zbd, zbe, zbf, zbg, zbh, zbi, zbj, zbk, storeOp, storeCell, overlay, zbl, zbm, zbn, lookupOp, keyT, okRes, mapUpdateOp, zbo, zbp, zbq, zbr, zbs, zbt, zbu, Nat.reduceSub, Nat.reduceAdd, Int.reduceLT, Int.reduceLE, Int.reduceAdd, Int.reduceSub, Int.reduceToNat, Int.reduceBEq, Int.reduceBNe, Int.reduceMul, Nat.reduceBEq, Nat.reduceBNe, Nat.reduceLT, Nat.reduceLeDiff, Nat.reduceMul, Nat.reduceEqDiff, WD, effB, effH, isPriv, isHeap, isImm, zbx, zby, zbz, chkO, setD, dslot, zca, zcb, zcc, zcd, ptrCells_some, F73]
  refine wpCall_of (countR hR hL hlen) ?_
  rintro out H0 ⟨rfl, hf0, hR0⟩
  simp only [WW, partV, eqCells, eqLf, minV, maxV, ifcV, zaa, zab, zac, zad, zae, zaf, zag, zah, zai, ofConst, ofConst1, List.replicate, zaj, zak, loadOp, Go.Abs.loadCells, binV, zal, pickV, zam, zan, zao, zap, zaq, zar, zas, zat, zau, outR, resAll, resOne, zav, zaw, zax, zay, zaz, zba, zbb, zbc, zbd, zbe, zbf, zbg, zbh, zbi, zbj, zbk, storeOp, storeCell, overlay, zbl, zbm, zbn, lookupOp, keyT, okRes, mapUpdateOp, zbo, zbp, zbq, zbr, zbs, zbt, zbu, Nat.reduceSub, Nat.reduceAdd, Int.reduceLT, Int.reduceLE, Int.reduceAdd, Int.reduceSub, Int.reduceToNat, Int.reduceBEq, Int.reduceBNe, Int.reduceMul, Nat.reduceBEq, Nat.reduceBNe, Nat.reduceLT, Nat.reduceLeDiff, Nat.reduceMul, Nat.reduceEqDiff, WD, effB, effH, isPriv, isHeap, isImm, zbx, zby, zbz, chkO, setD, dslot, zca, zcb, zcc, zcd, ptrCells_some, F73]
  refine wC_loop _ (fun k st' H' => ∃ (n : Nat) (s1 : S) (acc : List α) (y : V), st' = ⟨L73_3 (.v (.ptr w 0 0)) (.v (.fn fa fb fc)) (.v y) (.v (.int .i64 n)), [], []⟩ ∧ k = n ∧ Ff w H H' ∧ Rr H' w x L s1 ∧ Own H' H.length y (acc.map rep) ∧ acc ++ (allG f n s1).1 = (allS L f s).1 ∧ (allG f n s1).2 = (allS L f s).2 ∧ acc.length + n ≤ 5000000) (count L s).1 ⟨(count L s).1, (count L s).2, [], .nils, ?_, rfl, hf0, hR0, .inl ⟨rfl, rfl⟩, rfl, rfl, by simp only [List.length_nil]; omega⟩ ?_
  · simp only [WN, firstReg, growAll, zbv, zbw, norm, killS, zag, zah, zaa, zab, zbl, zat, zad, growOne, zae, zaf, zac, zas, zak, Nat.reduceLT, Nat.reduceAdd, zbj, zav, F73, L73_3]
  · rintro k st' H' ⟨n, s1, acc, y, rfl, rfl, hf, hR', hO, hl1, hl2, hle⟩
    simp only [L73_3]
    have hb := hR'.b
    simp only [rdr] at hb
    cases k with
    | zero =>
      have g0 : decide ((0 : Int) < ((0 : Nat) : Int)) = false := rfl
      simp only [allG, List.append_nil] at hl1 hl2
      simp only [WW, partV, eqCells, eqLf, minV, maxV, ifcV, zaa, zab, zac, zad, zae, zaf, zag, zah, zai, ofConst, ofConst1, List.replicate, zaj, zak, loadOp, Go.Abs.loadCells, binV, zal, pickV, zam, zan, zao, zap, zaq, zar, zas, zat, zau, outR, resAll, resOne, zav, zaw, zax, zay, zaz, zba, zbb, zbc, zbd, zbe, zbf, zbg, zbh, zbi, zbj, zbk, storeOp, storeCell, overlay, zbl, zbm, zbn, lookupOp, keyT, okRes, mapUpdateOp, zbo, zbp, zbq, zbr, zbs, zbt, zbu, Nat.reduceSub, Nat.reduceAdd, Int.reduceLT, Int.reduceLE, Int.reduceAdd, Int.reduceSub, Int.reduceToNat, Int.reduceBEq, Int.reduceBNe, Int.reduceMul, Nat.reduceBEq, Nat.reduceBNe, Nat.reduceLT, Nat.reduceLeDiff, Nat.reduceMul, Nat.reduceEqDiff, WD, effB, effH, isPriv, isHeap, isImm, zbx, zby, zbz, chkO, setD, dslot, zca, zcb, zcc, zcd, ptrCells_some, F73, g0, hO.shut, hO.grows]
      rw [← hl2, ← hl1]
      exact ⟨y, rfl, hf, hR', hO⟩
    | succ n =>
      have g1 : decide ((0 : Int) < ((n + 1 : Nat) : Int)) = true := decide_eq_true (by omega)
      cases he : s1.e with
      | succ e1 =>
        rw [he] at hb
        have g2 : (((e1 + 1 : Nat) : Int) == 0) = false := by rw [beq_eq_false_iff_ne]; omega
        simp only [allG, he, List.append_nil] at hl1 hl2
        simp only [WW, partV, eqCells, eqLf, minV, maxV, ifcV, zaa, zab, zac, zad, zae, zaf, zag, zah, zai, ofConst, ofConst1, List.replicate, zaj, zak, loadOp, Go.Abs.loadCells, binV, zal, pickV, zam, zan, zao, zap, zaq, zar, zas, zat, zau, outR, resAll, resOne, zav, zaw, zax, zay, zaz, zba, zbb, zbc, zbd, zbe, zbf, zbg, zbh, zbi, zbj, zbk, storeOp, storeCell, overlay, zbl, zbm, zbn, lookupOp, keyT, okRes, mapUpdateOp, zbo, zbp, zbq, zbr, zbs, zbt, zbu, Nat.reduceSub, Nat.reduceAdd, Int.reduceLT, Int.reduceLE, Int.reduceAdd, Int.reduceSub, Int.reduceToNat, Int.reduceBEq, Int.reduceBNe, Int.reduceMul, Nat.reduceBEq, Nat.reduceBNe, Nat.reduceLT, Nat.reduceLeDiff, Nat.reduceMul, Nat.reduceEqDiff, WD, effB, effH, isPriv, isHeap, isImm, zbx, zby, zbz, chkO, setD, dslot, zca, zcb, zcc, zcd, ptrCells_some, F73, g1, g2, hb, hO.shut, hO.grows]
        rw [← hl2, ← hl1]
        exact ⟨y, rfl, hf, hR', hO⟩
      | zero =>
        rw [he] at hb
        have g2 : (((0 : Nat) : Int) == 0) = true := rfl
        simp only [allG, he] at hl1 hl2
        simp only [WW, partV, eqCells, eqLf, minV, maxV, ifcV, zaa, zab, zac, zad, zae, zaf, zag, zah, zai, ofConst, ofConst1, List.replicate, zaj, zak, loadOp, Go.Abs.loadCells, binV, zal, pickV, zam, zan, zao, zap, zaq, zar, zas, zat, zau, outR, resAll, resOne, zav, zaw, zax, zay, zaz, zba, zbb, zbc, zbd, zbe, zbf, zbg, zbh, zbi, zbj, zbk, storeOp, storeCell, overlay, zbl, zbm, zbn, lookupOp, keyT, okRes, mapUpdateOp, zbo, zbp, zbq, zbr, zbs, zbt, zbu, Nat.reduceSub, Nat.reduceAdd, Int.reduceLT, Int.reduceLE, Int.reduceAdd, Int.reduceSub, Int.reduceToNat, Int.reduceBEq, Int.reduceBNe, Int.reduceMul, Nat.reduceBEq, Nat.reduceBNe, Nat.reduceLT, Nat.reduceLeDiff, Nat.reduceMul, Nat.reduceEqDiff, WD, effB, effH, isPriv, isHeap, isImm, zbx, zby, zbz, chkO, setD, dslot, zca, zcb, zcc, zcd, ptrCells_some, F73, g1, g2, hb]
        refine ⟨hcf, wpCall_of (hE H' s1 hf hR') ?_⟩
        rintro out H2 ⟨rfl, hf2, hR2⟩
        have hO2 := hO.mov hwl hf2
        have hwd : wideAll (acc.map rep) 4 = true := wide_mapN hrw acc
        obtain ⟨y3, H3, ha, hO3, hl3, hk3⟩ := own_app (d := some 24) (e := 107) (v := rep (f s1).1) size107 hO2 (by have := (hf.trans hf2).1; omega) (hrw _) hwd (by rw [room107, List.length_map]; simp; omega)
        have hrow : wideAll [rep (f s1).1] 4 = true := by simp [wideAll, hrw]
        have hrc : (rep (f s1).1).cells.length = 4 := hrw _
        have hsub : IntKind.i64.wrap (((n + 1 : Nat) : Int) - 1) = (n : Int) := by rw [IntWalk.i64_in _ (by omega)]; omega
        simp only [WW, partV, eqCells, eqLf, minV, maxV, ifcV, zaa, zab, zac, zad, zae, zaf, zag, zah, zai, ofConst, ofConst1, List.replicate, zaj, zak, loadOp, Go.Abs.loadCells, binV, zal, pickV, zam, zan, zao, zap, zaq, zar, zas, zat, zau, outR, resAll, resOne, zav, zaw, zax, zay, zaz, zba, zbb, zbc, zbd, zbe, zbf, zbg, zbh, zbi, zbj, zbk, storeOp, storeCell, overlay, zbl, zbm, zbn, lookupOp, keyT, okRes, mapUpdateOp, zbo, zbp, zbq, zbr, zbs, zbt, zbu, Nat.reduceSub, Nat.reduceAdd, Int.reduceLT, Int.reduceLE, Int.reduceAdd, Int.reduceSub, Int.reduceToNat, Int.reduceBEq, Int.reduceBNe, Int.reduceMul, Nat.reduceBEq, Nat.reduceBNe, Nat.reduceLT, Nat.reduceLeDiff, Nat.reduceMul, Nat.reduceEqDiff, WD, effB, effH, isPriv, isHeap, isImm, zbx, zby, zbz, chkO, setD, dslot, zca, zcb, zcc, zcd, ptrCells_some, F73, hrs, hro, hrw, hrc, buildSliceV, lits, srcV_eq, srcK_sl, srcK_str, srcSl_nils, srcSl_rsl, srcSl_sl, frow, zbv, zbw, List.all_nil, List.all_cons, rowV, Bool.false_and, Bool.and_false, ne_eq, not_false_eq_true, grows_lr, callOut_t, hO.shut, hO2.shut, ha, hsub]
        have hf3 : Ff w H H3 := ⟨by have := (hf.trans hf2).1; omega, fun i h1 h2 => by rw [hk3 i h1]; exact (hf.trans hf2).2 i h1 h2⟩
        refine ⟨n, by omega, n, (f s1).2, acc ++ [(f s1).1], y3, ?_, rfl, hf3, ?_, by rw [List.map_append]; exact hO3, by rw [List.append_assoc]; exact hl1, hl2, by simp; omega⟩
        · simp only [WN, firstReg, growAll, zbv, zbw, norm, killS, zag, zah, zaa, zab, zbl, zat, zad, growOne, zae, zaf, zac, zas, zak, Nat.reduceLT, Nat.reduceAdd, zbj, zav, F73, hO3.clip2, hsub]
          try rfl
        · exact ⟨by rw [hk3 w hwl]; exact hR2.b, fun H4 h4 => hR.r H4 (hf3.trans h4), hR2.o⟩
end Go.Proofs.YtgjobbmbbedecaaDoor

/- The program's reader: strings, a function's parts. -/
namespace Go.Proofs.YtgjobbmbbedecaaDoor
open Go Go.Abs Go.Proofs
set_option maxRecDepth 100000
set_option maxHeartbeats 4000000
set_option linter.unusedVariables false
set_option linter.unusedSimpArgs false
def keyV (k : List Int) : V := repL (k.map intV)
theorem clos45 {H : Hp} {w c : Nat} {x : V} {L : List Nat} {s : S} (hC : H[c]? = some (.cells [.ptr w 0 0])) (hR : Rr H w x L s) (hL : ∀ y ∈ L, y < 256) (hlen : L.length ≤ 5000000) :
    wpCall EW 45 [.ptr c 0 0] H (fun out H' => out = .ret (keyV (keysS L s).1) false ∧ Ff w H H' ∧ Rr H' w x L (keysS L s).2) := by
  refine runs f45 b45 r45 n45 _ _ ?_
  simp only [bodyOf, Tryd.f45, Option.getD_some]
  simp only [WW, partV, eqCells, eqLf, minV, maxV, ifcV, zaa, zab, zac, zad, zae, zaf, zag, zah, zai, ofConst, ofConst1, List.replicate, zaj, zak, loadOp, Go.Abs.loadCells, binV, zal, pickV, zam, zan, zao, zap, zaq, zar, zas, zat, zau, outR, resAll, resOne, zav, zaw, zax, zay, zaz, zba, zbb, zbc, zbd, zbe, zbf, zbg, zbh, zbi, zbj, zbk, storeOp, storeCell, overlay, zbl, zbm, zbn, lookupOp, keyT, okRes, mapUpdateOp, zbo, zbp, zbq, zbr, zbs, zbt, zbu, Nat.reduceSub, Nat.reduceAdd, Int.reduceLT, Int.reduceLE, Int.reduceAdd, Int.reduceSub, Int.reduceToNat, Int.reduceBEq, Int.reduceBNe, Int.reduceMul, Nat.reduceBEq, Nat.reduceBNe, Nat.reduceLT, Nat.reduceLeDiff, Nat.reduceMul, Nat.reduceEqDiff, WD, effB, effH, isPriv, isHeap, isImm, zbx, zby, zbz, chkO, setD, dslot, zca, zcb, zcc, zcd, ptrCells_some, F45, hC]
  refine wpCall_of (allR46 (intS L) intV (fun _ _ => rfl) (fun _ => rfl) (fun _ => rfl) call47 hR hL hlen (fun H1 s1 h1 h2 => numR h2 hL hlen)) ?_
  rintro out H2 ⟨y, rfl, hf, hR2, hO⟩
  obtain ⟨H3, h1, h2, h3⟩ := own_done hf hR.lt hR.r hR2 hO
  simp only [WW, partV, eqCells, eqLf, minV, maxV, ifcV, zaa, zab, zac, zad, zae, zaf, zag, zah, zai, ofConst, ofConst1, List.replicate, zaj, zak, loadOp, Go.Abs.loadCells, binV, zal, pickV, zam, zan, zao, zap, zaq, zar, zas, zat, zau, outR, resAll, resOne, zav, zaw, zax, zay, zaz, zba, zbb, zbc, zbd, zbe, zbf, zbg, zbh, zbi, zbj, zbk, storeOp, storeCell, overlay, zbl, zbm, zbn, lookupOp, keyT, okRes, mapUpdateOp, zbo, zbp, zbq, zbr, zbs, zbt, zbu, Nat.reduceSub, Nat.reduceAdd, Int.reduceLT, Int.reduceLE, Int.reduceAdd, Int.reduceSub, Int.reduceToNat, Int.reduceBEq, Int.reduceBNe, Int.reduceMul, Nat.reduceBEq, Nat.reduceBNe, Nat.reduceLT, Nat.reduceLeDiff, Nat.reduceMul, Nat.reduceEqDiff, WD, effB, effH, isPriv, isHeap, isImm, zbx, zby, zbz, chkO, setD, dslot, zca, zcb, zcc, zcd, ptrCells_some, F45, h1, repL_shut, repL_grows]
  exact ⟨rfl, h2, h3⟩
theorem strOf_bsL : ∀ l : List Nat, strOf (bs l) = some (strL l) := fun l => by
  have h0 : ∀ l : List Nat, Abs.bytesOf (bs l) = some (l.map UInt8.ofNat) := fun l => by
    induction l with
    | nil => rfl
    | cons a l ih =>
      show ((some (UInt8.ofNat (a : Int).toNat)).bind fun b => (Abs.bytesOf (bs l)).map (b :: ·)) = _
      rw [ih, Int.toNat_natCast]; rfl
  simp [strOf, h0, strL]
theorem bs_drop (L : List Nat) (a : Nat) : (bs L).drop a = bs (L.drop a) := by simp [bs]
theorem bs_take (L : List Nat) (a : Nat) : (bs L).take a = bs (L.take a) := by simp [bs]
/-- A part of a slice of bytes that is read -/
theorem rd_part {H : Hp} {x : V} {L : List Nat} (h : RdB H x L) {a b : Nat} (hab : a + b ≤ L.length) :
    ∃ z, (∀ st, sliceOp Tryd.prog st H 29 x (some (.int .i64 (a : Nat))) (some (.int .i64 ((a + b : Nat) : Int))) none = some z) ∧ contV H z = some (bs ((L.drop a).take b)) ∧ (∀ st, sealV st z = z) := by
  obtain ⟨h, hw⟩ := h
  have hz := h.shutIn
  have hb1 : boundV (some (V.int .i64 ((a + b : Nat) : Int))) = fun _ => some (a + b) := by
    funext d; simp only [boundV]; rw [if_pos (by omega), Int.toNat_natCast]
  have hb2 : boundV (some (V.int .i64 (a : Nat))) = fun _ => some a := by
    funext d; simp only [boundV]; rw [if_pos (by omega), Int.toNat_natCast]
  have rslCase : ∀ (row : List V), row = bs L → ∀ st, viewV H (sealV st x) = .rsl row → sliceOp Tryd.prog st H 29 x (some (.int .i64 (a : Nat))) (some (.int .i64 ((a + b : Nat) : Int))) none = some (.rsl ((row.take (a + b)).drop a)) := fun row hr st hv => by
    have e : (a ≤ a + b ∧ a + b ≤ row.length ∧ wideAll row (sizeT Tryd.prog 5) = true) := ⟨by omega, by rw [hr, bs_len]; exact hab, by rw [size5, hr]; exact wide_bs L⟩
    simp only [sliceOp, ix29, hv, hb1, hb2, Option.bind_some]
    rw [if_pos e]
  have hcont : ∀ row : List V, row = bs L → contV H (.rsl ((row.take (a + b)).drop a)) = some (bs ((L.drop a).take b)) := fun row hr => by
    rw [(Rd.rsl (H := H) _).cont, hr, bs_take, bs_drop, List.drop_take]
    congr 4; omega
  generalize hl : bs L = l at h
  cases h with
  | nils =>
    have hL : L = [] := by cases L with
      | nil => rfl
      | cons a r => simp [bs] at hl
    subst hL
    have : a = 0 ∧ b = 0 := by simp at hab; omega
    obtain ⟨rfl, rfl⟩ := this
    refine ⟨.nils, fun st => ?_, rfl, fun _ => rfl⟩
    simp only [sliceOp, ix29, viewV, sealV, hb1, hb2, Option.bind_some]
    rfl
  | rsl l => exact ⟨_, fun st => rslCase l hl.symm st rfl, hcont l hl.symm, fun _ => rfl⟩
  | hr id n ns _ h1 h2 h3 => exact ⟨_, fun st => rslCase l hl.symm st (view_hr' h1 h2 h3), hcont l hl.symm, fun _ => rfl⟩
  | sl id lo len es h1 h2 =>
    have hwe := hw id lo len es rfl h1
    have hlen : len = L.length := by
      have := congrArg List.length hl
      simp only [bs_len, List.length_take, List.length_drop] at this
      omega
    refine ⟨if a = 0 then .sl id lo (a + b) else if a = a + b then .rsl [] else .sl id (lo + a) (a + b - a), fun st => ?_, ?_, fun st => ?_⟩
    · have e : (a ≤ a + b ∧ lo + (a + b) ≤ es.length ∧ wideAll es (sizeT Tryd.prog 5) = true) := ⟨by omega, by omega, by rw [size5]; exact hwe⟩
      simp only [sliceOp, ix29, viewV, sealV, hb1, hb2, Option.bind_some, h1]
      rw [if_pos e]
    rotate_left
    · split
      · rfl
      · split <;> rfl
    · have key : (es.drop (lo + a)).take b = bs ((L.drop a).take b) := by
        rw [← bs_take, ← bs_drop, hl, List.drop_take, List.drop_drop, List.take_take]
        congr 1; omega
      by_cases h0 : a = 0
      · subst h0
        rw [if_pos rfl]
        have := (Rd.sl (H := H) id lo (0 + b) es h1 (by omega)).cont
        rw [this, ← key]
        simp
      · rw [if_neg h0]
        by_cases h4 : a = a + b
        · have hb : b = 0 := by omega
          subst hb
          rw [if_pos (by omega), (Rd.rsl (H := H) _).cont]
          simp [bs]
        · rw [if_neg h4]
          have := (Rd.sl (H := H) id (lo + a) (a + b - a) es h1 (by omega)).cont
          rw [this, ← key]
          congr 2; omega
theorem text43 {H : Hp} {w : Nat} {x : V} {L : List Nat} {s : S} (hR : Rr H w x L s) (hL : ∀ y ∈ L, y < 256) (hlen : L.length ≤ 5000000) :
    wpCall EW 43 [.ptr w 0 0] H (fun out H' => out = .ret (.str (textS L s).1) false ∧ Ff w H H' ∧ Rr H' w x L (textS L s).2) := by
  have hle := count_le hR.o
  refine runs f43 b43 r43 n43 _ _ ?_
  simp only [bodyOf, Tryd.f43, Option.getD_some]
  simp only [WW, partV, eqCells, eqLf, minV, maxV, ifcV, zaa, zab, zac, zad, zae, zaf, zag, zah, zai, ofConst, ofConst1, List.replicate, zaj, zak, loadOp, Go.Abs.loadCells, binV, zal, pickV, zam, zan, zao, zap, zaq, zar, zas, zat, zau, outR, resAll, resOne, zav, zaw, zax, zay, zaz, zba, zbb, zbc, zbd, zbe, zbf, zbg, zbh, zbi, zbj, zbk, storeOp, storeCell, overlay, zbl, zbm, zbn, lookupOp, keyT, okRes, mapUpdateOp, zbo, zbp, zbq, zbr, zbs, zbt, zbu, Nat.reduceSub, Nat.reduceAdd, Int.reduceLT, Int.reduceLE, Int.reduceAdd, Int.reduceSub, Int.reduceToNat, Int.reduceBEq, Int.reduceBNe, Int.reduceMul, Nat.reduceBEq, Nat.reduceBNe, Nat.reduceLT, Nat.reduceLeDiff, Nat.reduceMul, Nat.reduceEqDiff, WD, effB, effH, isPriv, isHeap, isImm, zbx, zby, zbz, chkO, setD, dslot, zca, zcb, zcc, zcd, ptrCells_some, F43]
  refine wpCall_of (countR hR hL hlen) ?_
  rintro out H1 ⟨rfl, hf1, hR1⟩
  unfold textS
  simp only
  have ho := hR1.o
  have hb := hR1.b
  simp only [rdr] at hb
  generalize count L s = r at *
  obtain ⟨n, q, e⟩ := r
  simp only at *
  obtain ⟨z, hz, hc, hzs⟩ := rd_part (hR1.r _ Ff.refl) hle
  have hx := hR1.rd
  have hadd : IntKind.i64.wrap ((q : Int) + (n : Int)) = ((q + n : Nat) : Int) := by rw [IntWalk.i64_in _ (by omega)]; omega
  simp only [WW, partV, eqCells, eqLf, minV, maxV, ifcV, zaa, zab, zac, zad, zae, zaf, zag, zah, zai, ofConst, ofConst1, List.replicate, zaj, zak, loadOp, Go.Abs.loadCells, binV, zal, pickV, zam, zan, zao, zap, zaq, zar, zas, zat, zau, outR, resAll, resOne, zav, zaw, zax, zay, zaz, zba, zbb, zbc, zbd, zbe, zbf, zbg, zbh, zbi, zbj, zbk, storeOp, storeCell, overlay, zbl, zbm, zbn, lookupOp, keyT, okRes, mapUpdateOp, zbo, zbp, zbq, zbr, zbs, zbt, zbu, Nat.reduceSub, Nat.reduceAdd, Int.reduceLT, Int.reduceLE, Int.reduceAdd, Int.reduceSub, Int.reduceToNat, Int.reduceBEq, Int.reduceBNe, Int.reduceMul, Nat.reduceBEq, Nat.reduceBNe, Nat.reduceLT, Nat.reduceLeDiff, Nat.reduceMul, Nat.reduceEqDiff, WD, effB, effH, isPriv, isHeap, isImm, zbx, zby, zbz, chkO, setD, dslot, zca, zcb, zcc, zcd, ptrCells_some, F43]
  refine wC_dr alts43_2 (by kernel_rfl) ?_
  have hwl := hR1.lt
  cases e with
  | succ e1 =>
    have h3 : (((e1 + 1 : Nat) : Int) == 0) = false := by rw [beq_eq_false_iff_ne]; omega
    simp only [WW, partV, eqCells, eqLf, minV, maxV, ifcV, zaa, zab, zac, zad, zae, zaf, zag, zah, zai, ofConst, ofConst1, List.replicate, zaj, zak, loadOp, Go.Abs.loadCells, binV, zal, pickV, zam, zan, zao, zap, zaq, zar, zas, zat, zau, outR, resAll, resOne, zav, zaw, zax, zay, zaz, zba, zbb, zbc, zbd, zbe, zbf, zbg, zbh, zbi, zbj, zbk, storeOp, storeCell, overlay, zbl, zbm, zbn, lookupOp, keyT, okRes, mapUpdateOp, zbo, zbp, zbq, zbr, zbs, zbt, zbu, Nat.reduceSub, Nat.reduceAdd, Int.reduceLT, Int.reduceLE, Int.reduceAdd, Int.reduceSub, Int.reduceToNat, Int.reduceBEq, Int.reduceBNe, Int.reduceMul, Nat.reduceBEq, Nat.reduceBNe, Nat.reduceLT, Nat.reduceLeDiff, Nat.reduceMul, Nat.reduceEqDiff, WD, effB, effH, isPriv, isHeap, isImm, zbx, zby, zbz, chkO, setD, dslot, zca, zcb, zcc, zcd, ptrCells_some, F43, hb, alts43_2, hx.shutIn, hadd, Option.map_none, hz, hzs, convertOp, hc, strOf_bsL, h3]
    exact ⟨hf1, hR1⟩
  | zero =>
    have h3 : (((0 : Nat) : Int) == 0) = true := rfl
    have hR2 := hR1.to (s' := ⟨q + n, 0⟩) hle
    have hb2 : (H1.set w (.cells [.agg [x, .int .i64 ((q + n : Nat) : Int), .int .i64 ((0 : Nat) : Int)]]))[w]? = some (.cells [.agg [x, .int .i64 ((q + n : Nat) : Int), .int .i64 ((0 : Nat) : Int)]]) := List.getElem?_set_self hwl
    simp only [WW, partV, eqCells, eqLf, minV, maxV, ifcV, zaa, zab, zac, zad, zae, zaf, zag, zah, zai, ofConst, ofConst1, List.replicate, zaj, zak, loadOp, Go.Abs.loadCells, binV, zal, pickV, zam, zan, zao, zap, zaq, zar, zas, zat, zau, outR, resAll, resOne, zav, zaw, zax, zay, zaz, zba, zbb, zbc, zbd, zbe, zbf, zbg, zbh, zbi, zbj, zbk, storeOp, storeCell, overlay, zbl, zbm, zbn, lookupOp, keyT, okRes, mapUpdateOp, zbo, zbp, zbq, zbr, zbs, zbt, zbu, Nat.reduceSub, Nat.reduceAdd, Int.reduceLT, Int.reduceLE, Int.reduceAdd, Int.reduceSub, Int.reduceToNat, Int.reduceBEq, Int.reduceBNe, Int.reduceMul, Nat.reduceBEq, Nat.reduceBNe, Nat.reduceLT, Nat.reduceLeDiff, Nat.reduceMul, Nat.reduceEqDiff, WD, effB, effH, isPriv, isHeap, isImm, zbx, zby, zbz, chkO, setD, dslot, zca, zcb, zcc, zcd, ptrCells_some, F43, hb, alts43_2, hx.shutIn, hadd, Option.map_none, hz, hzs, convertOp, hc, strOf_bsL, h3, storeHeap, promote, heapSet, elemSet, hb2]
    exact ⟨hf1.trans (Ff.set _), hR2⟩
theorem clos69 {H : Hp} {w c : Nat} {x : V} {L : List Nat} {s : S} (hC : H[c]? = some (.cells [.ptr w 0 0])) (hcw : c ≠ w) (hR : Rr H w x L s) (hL : ∀ y ∈ L, y < 256) (hlen : L.length ≤ 5000000) :
    wpCall EW 69 [.ptr c 0 0] H (fun out H' => out = .ret (capV (capS L s).1) false ∧ Ff w H H' ∧ Rr H' w x L (capS L s).2) := by
  have hcl := (List.getElem?_eq_some_iff.1 hC).1
  refine runs f69 b69 r69 n69 _ _ ?_
  simp only [bodyOf, Tryd.f69, Option.getD_some]
  simp only [WW, partV, eqCells, eqLf, minV, maxV, ifcV, zaa, zab, zac, zad, zae, zaf, zag, zah, zai, ofConst, ofConst1, List.replicate, zaj, zak, loadOp, Go.Abs.loadCells, binV, zal, pickV, zam, zan, zao, zap, zaq, zar, zas, zat, zau, outR, resAll, resOne, zav, zaw, zax, zay, zaz, zba, zbb, zbc, zbd, zbe, zbf, zbg, zbh, zbi, zbj, zbk, storeOp, storeCell, overlay, zbl, zbm, zbn, lookupOp, keyT, okRes, mapUpdateOp, zbo, zbp, zbq, zbr, zbs, zbt, zbu, Nat.reduceSub, Nat.reduceAdd, Int.reduceLT, Int.reduceLE, Int.reduceAdd, Int.reduceSub, Int.reduceToNat, Int.reduceBEq, Int.reduceBNe, Int.reduceMul, Nat.reduceBEq, Nat.reduceBNe, Nat.reduceLT, Nat.reduceLeDiff, Nat.reduceMul, Nat.reduceEqDiff, WD, effB, effH, isPriv, isHeap, isImm, zbx, zby, zbz, chkO, setD, dslot, zca, zcb, zcc, zcd, ptrCells_some, F69, hC]
  refine wpCall_of (numR hR hL hlen) ?_
  rintro out H1 ⟨rfl, hf1, hR1⟩
  have hC1 := (hf1.2 c hcl hcw).trans hC
  simp only [WW, partV, eqCells, eqLf, minV, maxV, ifcV, zaa, zab, zac, zad, zae, zaf, zag, zah, zai, ofConst, ofConst1, List.replicate, zaj, zak, loadOp, Go.Abs.loadCells, binV, zal, pickV, zam, zan, zao, zap, zaq, zar, zas, zat, zau, outR, resAll, resOne, zav, zaw, zax, zay, zaz, zba, zbb, zbc, zbd, zbe, zbf, zbg, zbh, zbi, zbj, zbk, storeOp, storeCell, overlay, zbl, zbm, zbn, lookupOp, keyT, okRes, mapUpdateOp, zbo, zbp, zbq, zbr, zbs, zbt, zbu, Nat.reduceSub, Nat.reduceAdd, Int.reduceLT, Int.reduceLE, Int.reduceAdd, Int.reduceSub, Int.reduceToNat, Int.reduceBEq, Int.reduceBNe, Int.reduceMul, Nat.reduceBEq, Nat.reduceBNe, Nat.reduceLT, Nat.reduceLeDiff, Nat.reduceMul, Nat.reduceEqDiff, WD, effB, effH, isPriv, isHeap, isImm, zbx, zby, zbz, chkO, setD, dslot, zca, zcb, zcc, zcd, ptrCells_some, F69, hC1]
  refine wpCall_of (numR hR1 hL hlen) ?_
  rintro out H2 ⟨rfl, hf2, hR2⟩
  simp only [WW, partV, eqCells, eqLf, minV, maxV, ifcV, zaa, zab, zac, zad, zae, zaf, zag, zah, zai, ofConst, ofConst1, List.replicate, zaj, zak, loadOp, Go.Abs.loadCells, binV, zal, pickV, zam, zan, zao, zap, zaq, zar, zas, zat, zau, outR, resAll, resOne, zav, zaw, zax, zay, zaz, zba, zbb, zbc, zbd, zbe, zbf, zbg, zbh, zbi, zbj, zbk, storeOp, storeCell, overlay, zbl, zbm, zbn, lookupOp, keyT, okRes, mapUpdateOp, zbo, zbp, zbq, zbr, zbs, zbt, zbu, Nat.reduceSub, Nat.reduceAdd, Int.reduceLT, Int.reduceLE, Int.reduceAdd, Int.reduceSub, Int.reduceToNat, Int.reduceBEq, Int.reduceBNe, Int.reduceMul, Nat.reduceBEq, Nat.reduceBNe, Nat.reduceLT, Nat.reduceLeDiff, Nat.reduceMul, Nat.reduceEqDiff, WD, effB, effH, isPriv, isHeap, isImm, zbx, zby, zbz, chkO, setD, dslot, zca, zcb, zcc, zcd, ptrCells_some, F69, buildOp, fillV, Lay.place, Bool.or_self, Bool.or_false, Bool.false_or, decide_not, ne_eq, not_true_eq_false, decide_eq_true_eq, Nat.lt_irrefl]
  exact ⟨rfl, hf1.trans hf2, hR2⟩
theorem clos71 {H : Hp} {w c : Nat} {x : V} {L : List Nat} {s : S} (hC : H[c]? = some (.cells [.ptr w 0 0])) (hcw : c ≠ w) (hR : Rr H w x L s) (hL : ∀ y ∈ L, y < 256) (hlen : L.length ≤ 5000000) :
    wpCall EW 71 [.ptr c 0 0] H (fun out H' => out = .ret (inV (insS L s).1) false ∧ Ff w H H' ∧ Rr H' w x L (insS L s).2) := by
  have hcl := (List.getElem?_eq_some_iff.1 hC).1
  refine runs f71 b71 r71 n71 _ _ ?_
  simp only [bodyOf, Tryd.f71, Option.getD_some]
  simp only [WW, partV, eqCells, eqLf, minV, maxV, ifcV, zaa, zab, zac, zad, zae, zaf, zag, zah, zai, ofConst, ofConst1, List.replicate, zaj, zak, loadOp, Go.Abs.loadCells, binV, zal, pickV, zam, zan, zao, zap, zaq, zar, zas, zat, zau, outR, resAll, resOne, zav, zaw, zax, zay, zaz, zba, zbb, zbc, zbd, zbe, zbf, zbg, zbh, zbi, zbj, zbk, storeOp, storeCell, overlay, zbl, zbm, zbn, lookupOp, keyT, okRes, mapUpdateOp, zbo, zbp, zbq, zbr, zbs, zbt, zbu, Nat.reduceSub, Nat.reduceAdd, Int.reduceLT, Int.reduceLE, Int.reduceAdd, Int.reduceSub, Int.reduceToNat, Int.reduceBEq, Int.reduceBNe, Int.reduceMul, Nat.reduceBEq, Nat.reduceBNe, Nat.reduceLT, Nat.reduceLeDiff, Nat.reduceMul, Nat.reduceEqDiff, WD, effB, effH, isPriv, isHeap, isImm, zbx, zby, zbz, chkO, setD, dslot, zca, zcb, zcc, zcd, ptrCells_some, F71, hC]
  refine wpCall_of (numR hR hL hlen) ?_
  rintro out H1 ⟨rfl, hf1, hR1⟩
  have hC1 := (hf1.2 c hcl hcw).trans hC
  simp only [WW, partV, eqCells, eqLf, minV, maxV, ifcV, zaa, zab, zac, zad, zae, zaf, zag, zah, zai, ofConst, ofConst1, List.replicate, zaj, zak, loadOp, Go.Abs.loadCells, binV, zal, pickV, zam, zan, zao, zap, zaq, zar, zas, zat, zau, outR, resAll, resOne, zav, zaw, zax, zay, zaz, zba, zbb, zbc, zbd, zbe, zbf, zbg, zbh, zbi, zbj, zbk, storeOp, storeCell, overlay, zbl, zbm, zbn, lookupOp, keyT, okRes, mapUpdateOp, zbo, zbp, zbq, zbr, zbs, zbt, zbu, Nat.reduceSub, Nat.reduceAdd, Int.reduceLT, Int.reduceLE, Int.reduceAdd, Int.reduceSub, Int.reduceToNat, Int.reduceBEq, Int.reduceBNe, Int.reduceMul, Nat.reduceBEq, Nat.reduceBNe, Nat.reduceLT, Nat.reduceLeDiff, Nat.reduceMul, Nat.reduceEqDiff, WD, effB, effH, isPriv, isHeap, isImm, zbx, zby, zbz, chkO, setD, dslot, zca, zcb, zcc, zcd, ptrCells_some, F71, hC1, buildOp, fillV, Lay.place, Bool.or_self, Bool.or_false, Bool.false_or, decide_not, ne_eq, not_true_eq_false, decide_eq_true_eq, Nat.lt_irrefl]
  refine wpCall_of (sgnR hR1 hL hlen) ?_
  rintro out H2 ⟨rfl, hf2, hR2⟩
  have hC2 := (hf2.2 c (Nat.lt_of_lt_of_le hcl hf1.1) hcw).trans hC1
  simp only [WW, partV, eqCells, eqLf, minV, maxV, ifcV, zaa, zab, zac, zad, zae, zaf, zag, zah, zai, ofConst, ofConst1, List.replicate, zaj, zak, loadOp, Go.Abs.loadCells, binV, zal, pickV, zam, zan, zao, zap, zaq, zar, zas, zat, zau, outR, resAll, resOne, zav, zaw, zax, zay, zaz, zba, zbb, zbc, zbd, zbe, zbf, zbg, zbh, zbi, zbj, zbk, storeOp, storeCell, overlay, zbl, zbm, zbn, lookupOp, keyT, okRes, mapUpdateOp, zbo, zbp, zbq, zbr, zbs, zbt, zbu, Nat.reduceSub, Nat.reduceAdd, Int.reduceLT, Int.reduceLE, Int.reduceAdd, Int.reduceSub, Int.reduceToNat, Int.reduceBEq, Int.reduceBNe, Int.reduceMul, Nat.reduceBEq, Nat.reduceBNe, Nat.reduceLT, Nat.reduceLeDiff, Nat.reduceMul, Nat.reduceEqDiff, WD, effB, effH, isPriv, isHeap, isImm, zbx, zby, zbz, chkO, setD, dslot, zca, zcb, zcc, zcd, ptrCells_some, F71, hC2, buildOp, fillV, Lay.place, Bool.or_self, Bool.or_false, Bool.false_or, decide_not, ne_eq, not_true_eq_false, decide_eq_true_eq, Nat.lt_irrefl]
  refine wpCall_of (sgnR hR2 hL hlen) ?_
  rintro out H3 ⟨rfl, hf3, hR3⟩
  simp only [WW, partV, eqCells, eqLf, minV, maxV, ifcV, zaa, zab, zac, zad, zae, zaf, zag, zah, zai, ofConst, ofConst1, List.replicate, zaj, zak, loadOp, Go.Abs.loadCells, binV, zal, pickV, zam, zan, zao, zap, zaq, zar, zas, zat, zau, outR, resAll, resOne, zav, zaw, zax, zay, zaz, zba, zbb, zbc, zbd, zbe, zbf, zbg, zbh, zbi, zbj, zbk, storeOp, storeCell, overlay, zbl, zbm, zbn, lookupOp, keyT, okRes, mapUpdateOp, zbo, zbp, zbq, zbr, zbs, zbt, zbu, Nat.reduceSub, Nat.reduceAdd, Int.reduceLT, Int.reduceLE, Int.reduceAdd, Int.reduceSub, Int.reduceToNat, Int.reduceBEq, Int.reduceBNe, Int.reduceMul, Nat.reduceBEq, Nat.reduceBNe, Nat.reduceLT, Nat.reduceLeDiff, Nat.reduceMul, Nat.reduceEqDiff, WD, effB, effH, isPriv, isHeap, isImm, zbx, zby, zbz, chkO, setD, dslot, zca, zcb, zcc, zcd, ptrCells_some, F71, buildOp, fillV, Lay.place, Bool.or_self, Bool.or_false, Bool.false_or, decide_not, ne_eq, not_true_eq_false, decide_eq_true_eq, Nat.lt_irrefl]
  exact ⟨rfl, (hf1.trans hf2).trans hf3, hR3⟩
theorem clos74 {H : Hp} {w c : Nat} {x : V} {L : List Nat} {s : S} (hC : H[c]? = some (.cells [.ptr w 0 0])) (hcw : c ≠ w) (hR : Rr H w x L s) (hL : ∀ y ∈ L, y < 256) (hlen : L.length ≤ 5000000) :
    wpCall EW 74 [.ptr c 0 0] H (fun out H' => out = .ret (tryV (tryS L s).1) false ∧ Ff w H H' ∧ Rr H' w x L (tryS L s).2) := by
  have hcl := (List.getElem?_eq_some_iff.1 hC).1
  refine runs f74 b74 r74 n74 _ _ ?_
  simp only [bodyOf, Tryd.f74, Option.getD_some]
  simp only [WW, partV, eqCells, eqLf, minV, maxV, ifcV, zaa, zab, zac, zad, zae, zaf, zag, zah, zai, ofConst, ofConst1, List.replicate, zaj, zak, loadOp, Go.Abs.loadCells, binV, zal, pickV, zam, zan, zao, zap, zaq, zar, zas, zat, zau, outR, resAll, resOne, zav, zaw, zax, zay, zaz, zba, zbb, zbc, zbd, zbe, zbf, zbg, zbh, zbi, zbj, zbk, storeOp, storeCell, overlay, zbl, zbm, zbn, lookupOp, keyT, okRes, mapUpdateOp, zbo, zbp, zbq, zbr, zbs, zbt, zbu, Nat.reduceSub, Nat.reduceAdd, Int.reduceLT, Int.reduceLE, Int.reduceAdd, Int.reduceSub, Int.reduceToNat, Int.reduceBEq, Int.reduceBNe, Int.reduceMul, Nat.reduceBEq, Nat.reduceBNe, Nat.reduceLT, Nat.reduceLeDiff, Nat.reduceMul, Nat.reduceEqDiff, WD, effB, effH, isPriv, isHeap, isImm, zbx, zby, zbz, chkO, setD, dslot, zca, zcb, zcc, zcd, ptrCells_some, F74, hC]
  refine wpCall_of (numR hR hL hlen) ?_
  rintro out H1 ⟨rfl, hf1, hR1⟩
  have hC1 := (hf1.2 c hcl hcw).trans hC
  simp only [WW, partV, eqCells, eqLf, minV, maxV, ifcV, zaa, zab, zac, zad, zae, zaf, zag, zah, zai, ofConst, ofConst1, List.replicate, zaj, zak, loadOp, Go.Abs.loadCells, binV, zal, pickV, zam, zan, zao, zap, zaq, zar, zas, zat, zau, outR, resAll, resOne, zav, zaw, zax, zay, zaz, zba, zbb, zbc, zbd, zbe, zbf, zbg, zbh, zbi, zbj, zbk, storeOp, storeCell, overlay, zbl, zbm, zbn, lookupOp, keyT, okRes, mapUpdateOp, zbo, zbp, zbq, zbr, zbs, zbt, zbu, Nat.reduceSub, Nat.reduceAdd, Int.reduceLT, Int.reduceLE, Int.reduceAdd, Int.reduceSub, Int.reduceToNat, Int.reduceBEq, Int.reduceBNe, Int.reduceMul, Nat.reduceBEq, Nat.reduceBNe, Nat.reduceLT, Nat.reduceLeDiff, Nat.reduceMul, Nat.reduceEqDiff, WD, effB, effH, isPriv, isHeap, isImm, zbx, zby, zbz, chkO, setD, dslot, zca, zcb, zcc, zcd, ptrCells_some, F74, hC1, buildOp, fillV, Lay.place, Bool.or_self, Bool.or_false, Bool.false_or, decide_not, ne_eq, not_true_eq_false, decide_eq_true_eq, Nat.lt_irrefl]
  refine wpCall_of (numR hR1 hL hlen) ?_
  rintro out H2 ⟨rfl, hf2, hR2⟩
  have hC2 := (hf2.2 c (Nat.lt_of_lt_of_le hcl hf1.1) hcw).trans hC1
  simp only [WW, partV, eqCells, eqLf, minV, maxV, ifcV, zaa, zab, zac, zad, zae, zaf, zag, zah, zai, ofConst, ofConst1, List.replicate, zaj, zak, loadOp, Go.Abs.loadCells, binV, zal, pickV, zam, zan, zao, zap, zaq, zar, zas, zat, zau, outR, resAll, resOne, zav, zaw, zax, zay, zaz, zba, zbb, zbc, zbd, zbe, zbf, zbg, zbh, zbi, zbj, zbk, storeOp, storeCell, overlay, zbl, zbm, zbn, lookupOp, keyT, okRes, mapUpdateOp, zbo, zbp, zbq, zbr, zbs, zbt, zbu, Nat.reduceSub, Nat.reduceAdd, Int.reduceLT, Int.reduceLE, Int.reduceAdd, Int.reduceSub, Int.reduceToNat, Int.reduceBEq, Int.reduceBNe, Int.reduceMul, Nat.reduceBEq, Nat.reduceBNe, Nat.reduceLT, Nat.reduceLeDiff, Nat.reduceMul, Nat.reduceEqDiff, WD, effB, effH, isPriv, isHeap, isImm, zbx, zby, zbz, chkO, setD, dslot, zca, zcb, zcc, zcd, ptrCells_some, F74, hC2, buildOp, fillV, Lay.place, Bool.or_self, Bool.or_false, Bool.false_or, decide_not, ne_eq, not_true_eq_false, decide_eq_true_eq, Nat.lt_irrefl]
  refine wpCall_of (numR hR2 hL hlen) ?_
  rintro out H3 ⟨rfl, hf3, hR3⟩
  have hC3 := (hf3.2 c (Nat.lt_of_lt_of_le hcl (hf1.trans hf2).1) hcw).trans hC2
  simp only [WW, partV, eqCells, eqLf, minV, maxV, ifcV, zaa, zab, zac, zad, zae, zaf, zag, zah, zai, ofConst, ofConst1, List.replicate, zaj, zak, loadOp, Go.Abs.loadCells, binV, zal, pickV, zam, zan, zao, zap, zaq, zar, zas, zat, zau, outR, resAll, resOne, zav, zaw, zax, zay, zaz, zba, zbb, zbc, zbd, zbe, zbf, zbg, zbh, zbi, zbj, zbk, storeOp, storeCell, overlay, zbl, zbm, zbn, lookupOp, keyT, okRes, mapUpdateOp, zbo, zbp, zbq, zbr, zbs, zbt, zbu, Nat.reduceSub, Nat.reduceAdd, Int.reduceLT, Int.reduceLE, Int.reduceAdd, Int.reduceSub, Int.reduceToNat, Int.reduceBEq, Int.reduceBNe, Int.reduceMul, Nat.reduceBEq, Nat.reduceBNe, Nat.reduceLT, Nat.reduceLeDiff, Nat.reduceMul, Nat.reduceEqDiff, WD, effB, effH, isPriv, isHeap, isImm, zbx, zby, zbz, chkO, setD, dslot, zca, zcb, zcc, zcd, ptrCells_some, F74, hC3, buildOp, fillV, Lay.place, Bool.or_self, Bool.or_false, Bool.false_or, decide_not, ne_eq, not_true_eq_false, decide_eq_true_eq, Nat.lt_irrefl]
  refine wpCall_of (numR hR3 hL hlen) ?_
  rintro out H4 ⟨rfl, hf4, hR4⟩
  simp only [WW, partV, eqCells, eqLf, minV, maxV, ifcV, zaa, zab, zac, zad, zae, zaf, zag, zah, zai, ofConst, ofConst1, List.replicate, zaj, zak, loadOp, Go.Abs.loadCells, binV, zal, pickV, zam, zan, zao, zap, zaq, zar, zas, zat, zau, outR, resAll, resOne, zav, zaw, zax, zay, zaz, zba, zbb, zbc, zbd, zbe, zbf, zbg, zbh, zbi, zbj, zbk, storeOp, storeCell, overlay, zbl, zbm, zbn, lookupOp, keyT, okRes, mapUpdateOp, zbo, zbp, zbq, zbr, zbs, zbt, zbu, Nat.reduceSub, Nat.reduceAdd, Int.reduceLT, Int.reduceLE, Int.reduceAdd, Int.reduceSub, Int.reduceToNat, Int.reduceBEq, Int.reduceBNe, Int.reduceMul, Nat.reduceBEq, Nat.reduceBNe, Nat.reduceLT, Nat.reduceLeDiff, Nat.reduceMul, Nat.reduceEqDiff, WD, effB, effH, isPriv, isHeap, isImm, zbx, zby, zbz, chkO, setD, dslot, zca, zcb, zcc, zcd, ptrCells_some, F74, buildOp, fillV, Lay.place, Bool.or_self, Bool.or_false, Bool.false_or, decide_not, ne_eq, not_true_eq_false, decide_eq_true_eq, Nat.lt_irrefl]
  exact ⟨rfl, ((hf1.trans hf2).trans hf3).trans hf4, hR4⟩
end Go.Proofs.YtgjobbmbbedecaaDoor

/- The program's reader: a function; an image. -/
namespace Go.Proofs.YtgjobbmbbedecaaDoor
open Go Go.Abs Go.Proofs
set_option maxRecDepth 100000
set_option maxHeartbeats 4000000
set_option linter.unusedVariables false
set_option linter.unusedSimpArgs false
/-- A model as a value -/
def fnVal (c : FnM) : V := .agg [.int .i64 c.params, .int .i64 c.slots, repL (c.boxes.map intV), repL (c.caps.map capV), repL (c.code.map inV), repL (c.tries.map tryV)]
def imVal (im : ImM) : V := .agg [repL (im.funs.map fnVal), repL (im.strs.map .str), repL (im.keys.map keyV), .int .i64 im.globals]
theorem Rr.app {H : Hp} {w : Nat} {x : V} {L : List Nat} {s : S} (h : Rr H w x L s) (b : Blk) : Rr (H ++ [b]) w x L s :=
  h.mov (Ff.app b) (List.getElem?_append_left h.lt)
theorem function49 {H : Hp} {w : Nat} {x : V} {L : List Nat} {s : S} (hR : Rr H w x L s) (hL : ∀ y ∈ L, y < 256) (hlen : L.length ≤ 5000000) :
    wpCall EW 49 [.ptr w 0 0] H (fun out H' => out = .ret (fnVal (fnS L s).1) false ∧ Ff w H H' ∧ Rr H' w x L (fnS L s).2) := by
  refine runs f49 b49 r49 n49 _ _ ?_
  simp only [bodyOf, Tryd.f49, Option.getD_some]
  have hR0 := hR.app (.cells [.ptr w 0 0])
  have hf0 : Ff w H (H ++ [Blk.cells [.ptr w 0 0]]) := Ff.app _
  have hC0 : (H ++ [Blk.cells [.ptr w 0 0]])[H.length]? = some (.cells [.ptr w 0 0]) := List.getElem?_concat_length
  have hcw : H.length ≠ w := by have := hR.lt; omega
  have hc0 : H.length < (H ++ [Blk.cells [.ptr w 0 0]]).length := by simp
  simp only [WW, partV, eqCells, eqLf, minV, maxV, ifcV, zaa, zab, zac, zad, zae, zaf, zag, zah, zai, ofConst, ofConst1, List.replicate, zaj, zak, loadOp, Go.Abs.loadCells, binV, zal, pickV, zam, zan, zao, zap, zaq, zar, zas, zat, zau, outR, resAll, resOne, zav, zaw, zax, zay, zaz, zba, zbb, zbc, zbd, zbe, zbf, zbg, zbh, zbi, zbj, zbk, storeOp, storeCell, overlay, zbl, zbm, zbn, lookupOp, keyT, okRes, mapUpdateOp, zbo, zbp, zbq, zbr, zbs, zbt, zbu, Nat.reduceSub, Nat.reduceAdd, Int.reduceLT, Int.reduceLE, Int.reduceAdd, Int.reduceSub, Int.reduceToNat, Int.reduceBEq, Int.reduceBNe, Int.reduceMul, Nat.reduceBEq, Nat.reduceBNe, Nat.reduceLT, Nat.reduceLeDiff, Nat.reduceMul, Nat.reduceEqDiff, WD, effB, effH, isPriv, isHeap, isImm, zbx, zby, zbz, chkO, setD, dslot, zca, zcb, zcc, zcd, ptrCells_some, F49]
  generalize (H ++ [Blk.cells [.ptr w 0 0]]) = H0 at *
  generalize H.length = c at *
  simp only [WW, partV, eqCells, eqLf, minV, maxV, ifcV, zaa, zab, zac, zad, zae, zaf, zag, zah, zai, ofConst, ofConst1, List.replicate, zaj, zak, loadOp, Go.Abs.loadCells, binV, zal, pickV, zam, zan, zao, zap, zaq, zar, zas, zat, zau, outR, resAll, resOne, zav, zaw, zax, zay, zaz, zba, zbb, zbc, zbd, zbe, zbf, zbg, zbh, zbi, zbj, zbk, storeOp, storeCell, overlay, zbl, zbm, zbn, lookupOp, keyT, okRes, mapUpdateOp, zbo, zbp, zbq, zbr, zbs, zbt, zbu, Nat.reduceSub, Nat.reduceAdd, Int.reduceLT, Int.reduceLE, Int.reduceAdd, Int.reduceSub, Int.reduceToNat, Int.reduceBEq, Int.reduceBNe, Int.reduceMul, Nat.reduceBEq, Nat.reduceBNe, Nat.reduceLT, Nat.reduceLeDiff, Nat.reduceMul, Nat.reduceEqDiff, WD, effB, effH, isPriv, isHeap, isImm, zbx, zby, zbz, chkO, setD, dslot, zca, zcb, zcc, zcd, ptrCells_some, F49, hC0]
  refine wpCall_of (numR hR0 hL hlen) ?_
  rintro out H1 ⟨rfl, g1, hR1⟩
  have hf1 := hf0.trans g1
  have hC1 := (g1.2 c hc0 hcw).trans hC0
  have hc1 := Nat.lt_of_lt_of_le hc0 g1.1
  simp only [WW, partV, eqCells, eqLf, minV, maxV, ifcV, zaa, zab, zac, zad, zae, zaf, zag, zah, zai, ofConst, ofConst1, List.replicate, zaj, zak, loadOp, Go.Abs.loadCells, binV, zal, pickV, zam, zan, zao, zap, zaq, zar, zas, zat, zau, outR, resAll, resOne, zav, zaw, zax, zay, zaz, zba, zbb, zbc, zbd, zbe, zbf, zbg, zbh, zbi, zbj, zbk, storeOp, storeCell, overlay, zbl, zbm, zbn, lookupOp, keyT, okRes, mapUpdateOp, zbo, zbp, zbq, zbr, zbs, zbt, zbu, Nat.reduceSub, Nat.reduceAdd, Int.reduceLT, Int.reduceLE, Int.reduceAdd, Int.reduceSub, Int.reduceToNat, Int.reduceBEq, Int.reduceBNe, Int.reduceMul, Nat.reduceBEq, Nat.reduceBNe, Nat.reduceLT, Nat.reduceLeDiff, Nat.reduceMul, Nat.reduceEqDiff, WD, effB, effH, isPriv, isHeap, isImm, zbx, zby, zbz, chkO, setD, dslot, zca, zcb, zcc, zcd, ptrCells_some, F49, hC1, buildOp, fillV, Lay.place, Bool.or_self, Bool.or_false, Bool.false_or, decide_not, ne_eq, not_true_eq_false, decide_eq_true_eq, Nat.lt_irrefl]
  refine wpCall_of (numR hR1 hL hlen) ?_
  rintro out H2 ⟨rfl, g2, hR2⟩
  have hf2 := hf1.trans g2
  have hC2 := (g2.2 c hc1 hcw).trans hC1
  have hc2 := Nat.lt_of_lt_of_le hc1 g2.1
  simp only [WW, partV, eqCells, eqLf, minV, maxV, ifcV, zaa, zab, zac, zad, zae, zaf, zag, zah, zai, ofConst, ofConst1, List.replicate, zaj, zak, loadOp, Go.Abs.loadCells, binV, zal, pickV, zam, zan, zao, zap, zaq, zar, zas, zat, zau, outR, resAll, resOne, zav, zaw, zax, zay, zaz, zba, zbb, zbc, zbd, zbe, zbf, zbg, zbh, zbi, zbj, zbk, storeOp, storeCell, overlay, zbl, zbm, zbn, lookupOp, keyT, okRes, mapUpdateOp, zbo, zbp, zbq, zbr, zbs, zbt, zbu, Nat.reduceSub, Nat.reduceAdd, Int.reduceLT, Int.reduceLE, Int.reduceAdd, Int.reduceSub, Int.reduceToNat, Int.reduceBEq, Int.reduceBNe, Int.reduceMul, Nat.reduceBEq, Nat.reduceBNe, Nat.reduceLT, Nat.reduceLeDiff, Nat.reduceMul, Nat.reduceEqDiff, WD, effB, effH, isPriv, isHeap, isImm, zbx, zby, zbz, chkO, setD, dslot, zca, zcb, zcc, zcd, ptrCells_some, F49, hC2, buildOp, fillV, Lay.place, Bool.or_self, Bool.or_false, Bool.false_or, decide_not, ne_eq, not_true_eq_false, decide_eq_true_eq, Nat.lt_irrefl]
  refine wpCall_of (allR46 (intS L) intV (fun _ _ => rfl) (fun _ => rfl) (fun _ => rfl) call47 hR2 hL hlen (fun H1 s1 h1 h2 => numR h2 hL hlen)) ?_
  rintro out H3' ⟨y, rfl, g3', hR3', hO3⟩
  obtain ⟨H3, e3, g3, hR3⟩ := own_done g3' hR2.lt hR2.r hR3' hO3
  have hf3 := hf2.trans g3
  have hC3 := (g3.2 c hc2 hcw).trans hC2
  have hc3 := Nat.lt_of_lt_of_le hc2 g3.1
  simp only [WW, partV, eqCells, eqLf, minV, maxV, ifcV, zaa, zab, zac, zad, zae, zaf, zag, zah, zai, ofConst, ofConst1, List.replicate, zaj, zak, loadOp, Go.Abs.loadCells, binV, zal, pickV, zam, zan, zao, zap, zaq, zar, zas, zat, zau, outR, resAll, resOne, zav, zaw, zax, zay, zaz, zba, zbb, zbc, zbd, zbe, zbf, zbg, zbh, zbi, zbj, zbk, storeOp, storeCell, overlay, zbl, zbm, zbn, lookupOp, keyT, okRes, mapUpdateOp, zbo, zbp, zbq, zbr, zbs, zbt, zbu, Nat.reduceSub, Nat.reduceAdd, Int.reduceLT, Int.reduceLE, Int.reduceAdd, Int.reduceSub, Int.reduceToNat, Int.reduceBEq, Int.reduceBNe, Int.reduceMul, Nat.reduceBEq, Nat.reduceBNe, Nat.reduceLT, Nat.reduceLeDiff, Nat.reduceMul, Nat.reduceEqDiff, WD, effB, effH, isPriv, isHeap, isImm, zbx, zby, zbz, chkO, setD, dslot, zca, zcb, zcc, zcd, ptrCells_some, F49, e3, hC3, buildOp, fillV, Lay.place, Bool.or_self, Bool.or_false, Bool.false_or, decide_not, ne_eq, not_true_eq_false, decide_eq_true_eq, Nat.lt_irrefl, repL_shut, repL_ok, repL_cells, repL_width]
  refine wpCall_of (allR68 (capS L) capV (fun _ _ => rfl) (fun _ => rfl) (fun _ => rfl) call69 hR3 hL hlen (fun H1 s1 h1 h2 => clos69 ((h1.2 c hc3 hcw).trans hC3) hcw h2 hL hlen)) ?_
  rintro out H4' ⟨y4, rfl, g4', hR4', hO4⟩
  obtain ⟨H4, e4, g4, hR4⟩ := own_done g4' hR3.lt hR3.r hR4' hO4
  have hf4 := hf3.trans g4
  have hC4 := (g4.2 c hc3 hcw).trans hC3
  have hc4 := Nat.lt_of_lt_of_le hc3 g4.1
  simp only [WW, partV, eqCells, eqLf, minV, maxV, ifcV, zaa, zab, zac, zad, zae, zaf, zag, zah, zai, ofConst, ofConst1, List.replicate, zaj, zak, loadOp, Go.Abs.loadCells, binV, zal, pickV, zam, zan, zao, zap, zaq, zar, zas, zat, zau, outR, resAll, resOne, zav, zaw, zax, zay, zaz, zba, zbb, zbc, zbd, zbe, zbf, zbg, zbh, zbi, zbj, zbk, storeOp, storeCell, overlay, zbl, zbm, zbn, lookupOp, keyT, okRes, mapUpdateOp, zbo, zbp, zbq, zbr, zbs, zbt, zbu, Nat.reduceSub, Nat.reduceAdd, Int.reduceLT, Int.reduceLE, Int.reduceAdd, Int.reduceSub, Int.reduceToNat, Int.reduceBEq, Int.reduceBNe, Int.reduceMul, Nat.reduceBEq, Nat.reduceBNe, Nat.reduceLT, Nat.reduceLeDiff, Nat.reduceMul, Nat.reduceEqDiff, WD, effB, effH, isPriv, isHeap, isImm, zbx, zby, zbz, chkO, setD, dslot, zca, zcb, zcc, zcd, ptrCells_some, F49, e4, hC4, buildOp, fillV, Lay.place, Bool.or_self, Bool.or_false, Bool.false_or, decide_not, ne_eq, not_true_eq_false, decide_eq_true_eq, Nat.lt_irrefl, repL_shut, repL_ok, repL_cells, repL_width]
  refine wpCall_of (allR70 (insS L) inV (fun _ _ => rfl) (fun _ => rfl) (fun _ => rfl) call71 hR4 hL hlen (fun H1 s1 h1 h2 => clos71 ((h1.2 c hc4 hcw).trans hC4) hcw h2 hL hlen)) ?_
  rintro out H5' ⟨y5, rfl, g5', hR5', hO5⟩
  obtain ⟨H5, e5, g5, hR5⟩ := own_done g5' hR4.lt hR4.r hR5' hO5
  have hf5 := hf4.trans g5
  have hC5 := (g5.2 c hc4 hcw).trans hC4
  have hc5 := Nat.lt_of_lt_of_le hc4 g5.1
  simp only [WW, partV, eqCells, eqLf, minV, maxV, ifcV, zaa, zab, zac, zad, zae, zaf, zag, zah, zai, ofConst, ofConst1, List.replicate, zaj, zak, loadOp, Go.Abs.loadCells, binV, zal, pickV, zam, zan, zao, zap, zaq, zar, zas, zat, zau, outR, resAll, resOne, zav, zaw, zax, zay, zaz, zba, zbb, zbc, zbd, zbe, zbf, zbg, zbh, zbi, zbj, zbk, storeOp, storeCell, overlay, zbl, zbm, zbn, lookupOp, keyT, okRes, mapUpdateOp, zbo, zbp, zbq, zbr, zbs, zbt, zbu, Nat.reduceSub, Nat.reduceAdd, Int.reduceLT, Int.reduceLE, Int.reduceAdd, Int.reduceSub, Int.reduceToNat, Int.reduceBEq, Int.reduceBNe, Int.reduceMul, Nat.reduceBEq, Nat.reduceBNe, Nat.reduceLT, Nat.reduceLeDiff, Nat.reduceMul, Nat.reduceEqDiff, WD, effB, effH, isPriv, isHeap, isImm, zbx, zby, zbz, chkO, setD, dslot, zca, zcb, zcc, zcd, ptrCells_some, F49, e5, hC5, buildOp, fillV, Lay.place, Bool.or_self, Bool.or_false, Bool.false_or, decide_not, ne_eq, not_true_eq_false, decide_eq_true_eq, Nat.lt_irrefl, repL_shut, repL_ok, repL_cells, repL_width]
  refine wpCall_of (allR73 (tryS L) tryV (fun _ _ => rfl) (fun _ => rfl) (fun _ => rfl) call74 hR5 hL hlen (fun H1 s1 h1 h2 => clos74 ((h1.2 c hc5 hcw).trans hC5) hcw h2 hL hlen)) ?_
  rintro out H6' ⟨y6, rfl, g6', hR6', hO6⟩
  obtain ⟨H6, e6, g6, hR6⟩ := own_done g6' hR5.lt hR5.r hR6' hO6
  simp only [WW, partV, eqCells, eqLf, minV, maxV, ifcV, zaa, zab, zac, zad, zae, zaf, zag, zah, zai, ofConst, ofConst1, List.replicate, zaj, zak, loadOp, Go.Abs.loadCells, binV, zal, pickV, zam, zan, zao, zap, zaq, zar, zas, zat, zau, outR, resAll, resOne, zav, zaw, zax, zay, zaz, zba, zbb, zbc, zbd, zbe, zbf, zbg, zbh, zbi, zbj, zbk, storeOp, storeCell, overlay, zbl, zbm, zbn, lookupOp, keyT, okRes, mapUpdateOp, zbo, zbp, zbq, zbr, zbs, zbt, zbu, Nat.reduceSub, Nat.reduceAdd, Int.reduceLT, Int.reduceLE, Int.reduceAdd, Int.reduceSub, Int.reduceToNat, Int.reduceBEq, Int.reduceBNe, Int.reduceMul, Nat.reduceBEq, Nat.reduceBNe, Nat.reduceLT, Nat.reduceLeDiff, Nat.reduceMul, Nat.reduceEqDiff, WD, effB, effH, isPriv, isHeap, isImm, zbx, zby, zbz, chkO, setD, dslot, zca, zcb, zcc, zcd, ptrCells_some, F49, e6, buildOp, fillV, Lay.place, Bool.or_self, Bool.or_false, Bool.false_or, decide_not, ne_eq, not_true_eq_false, decide_eq_true_eq, Nat.lt_irrefl, repL_shut, repL_ok, repL_cells, repL_width]
  exact ⟨rfl, hf5.trans g6, hR6⟩
end Go.Proofs.YtgjobbmbbedecaaDoor

/- The program's reader: an image. -/
namespace Go.Proofs.YtgjobbmbbedecaaDoor
open Go Go.Abs Go.Proofs
set_option maxRecDepth 100000
set_option maxHeartbeats 4000000
set_option linter.unusedVariables false
set_option linter.unusedSimpArgs false
def noIm : ImM := ⟨[], [], [], 0⟩
def decT (L : List Nat) (r : ImM × S) : List V := match r.2.e with
  | 0 => [imVal r.1, .int .i64 0, .int .i64 (L.length : Nat)]
  | e + 1 => [imVal noIm, .int .i64 ((e + 1 : Nat) : Int), .int .i64 (r.2.at_ : Nat)]
def contG (ms : List Nat) (L : List Nat) (s : S) : S := match s.e with
  | 0 => magG ms (L.drop s.at_) s.at_
  | _ + 1 => s
theorem magic_at {i : Nat} (hi : i < 4) : ∃ (u : UInt8) (m : Nat), (⟨#[74, 81, 48, 49]⟩ : ByteArray).data.toList[i]? = some u ∧ u.toNat = m ∧ magicB.drop i = m :: magicB.drop (i + 1) := by
  obtain rfl | rfl | rfl | rfl : i = 0 ∨ i = 1 ∨ i = 2 ∨ i = 3 := by omega
  all_goals exact ⟨_, _, rfl, rfl, rfl⟩
theorem set_last2 {α : Type} (l : List α) (a b : α) : (l ++ [a]).set l.length b = l ++ [b] := by
  rw [List.set_append_right _ _ (Nat.le_refl _), Nat.sub_self]; rfl
/-- Nothing of what was there is written to -/
def Kp (H H' : Hp) : Prop := H.length ≤ H'.length ∧ ∀ i, i < H.length → H'[i]? = H[i]?
theorem Kp.refl {H : Hp} : Kp H H := ⟨Nat.le_refl _, fun _ _ => rfl⟩
theorem Kp.trans {H H1 H2 : Hp} (a : Kp H H1) (b : Kp H1 H2) : Kp H H2 := ⟨Nat.le_trans a.1 b.1, fun i h => (b.2 i (Nat.lt_of_lt_of_le h a.1)).trans (a.2 i h)⟩
theorem decode16 {H : Hp} {x : V} {L : List Nat} (hx : ∀ H', Kp H H' → RdB H' x L) (hL : ∀ y ∈ L, y < 256) (hlen : L.length ≤ 4194304) :
    wpCall EW 16 [x] H (fun out H' => out = .ret (.tup (decT L (decS L))) false ∧ Kp H H') := by
  have hx0 := (hx H Kp.refl).1
  have hxs := hx0.shutIn
  have hxc := hx0.clip2
  have hxl : ∀ (H' : Hp), lenK H' (.slice 5) x = some (.int .i64 (L.length : Nat)) := fun H' => by
    have := hx0.len 5
    rw [bs_len] at this
    cases x <;> first | exact this | (cases this)
  refine runs f16 b16 r16 n16 _ _ ?_
  simp only [bodyOf, Tryd.f16, Option.getD_some]
  have hb4 : decide ((4194304 : Int) < (L.length : Int)) = false := decide_eq_false (by omega)
  simp only [WW, partV, eqCells, eqLf, minV, maxV, ifcV, zaa, zab, zac, zad, zae, zaf, zag, zah, zai, ofConst, ofConst1, List.replicate, zaj, zak, loadOp, Go.Abs.loadCells, binV, zal, pickV, zam, zan, zao, zap, zaq, zar, zas, zat, zau, outR, resAll, resOne, zav, zaw, zax, zay, zaz, zba, zbb, zbc, zbd, zbe, zbf, zbg, zbh, zbi, zbj, zbk, storeOp, storeCell, overlay, zbl, zbm, zbn, lookupOp, keyT, okRes, mapUpdateOp, zbo, zbp, zbq, zbr, zbs, zbt, zbu, Nat.reduceSub, Nat.reduceAdd, Int.reduceLT, Int.reduceLE, Int.reduceAdd, Int.reduceSub, Int.reduceToNat, Int.reduceBEq, Int.reduceBNe, Int.reduceMul, Nat.reduceBEq, Nat.reduceBNe, Nat.reduceLT, Nat.reduceLeDiff, Nat.reduceMul, Nat.reduceEqDiff, WD, effB, effH, isPriv, isHeap, isImm, zbx, zby, zbz, chkO, setD, dslot, zca, zcb, zcc, zcd, ptrCells_some, F16, hxs, hxl, hb4, hx0.ok, hx0.cells1, hx0.width1, buildOp, fillV, Lay.place, Bool.or_self, Bool.or_false, Bool.false_or, decide_not, ne_eq, not_true_eq_false, decide_eq_true_eq, Nat.lt_irrefl, storeHeap, promote, heapSet, elemSet, List.getElem?_concat_length, set_last2]
  have l1 : (H ++ [Blk.cells [V.agg [x, .int .i64 0, .int .i64 0]]]).length = H.length + 1 := by simp
  rw [l1]
  have hW : (H ++ [Blk.cells [V.agg [x, .int .i64 0, .int .i64 0]]] ++ [Blk.cells [V.ptr H.length 0 0]])[H.length]? = some (.cells [.agg [x, .int .i64 0, .int .i64 0]]) := by
    rw [List.getElem?_append_left (by simp)]; exact List.getElem?_concat_length
  have hC : (H ++ [Blk.cells [V.agg [x, .int .i64 0, .int .i64 0]]] ++ [Blk.cells [V.ptr H.length 0 0]])[H.length + 1]? = some (.cells [.ptr H.length 0 0]) := by
    rw [← l1]; exact List.getElem?_concat_length
  have hk1 : ∀ H', Ff H.length (H ++ [Blk.cells [V.agg [x, .int .i64 0, .int .i64 0]]] ++ [Blk.cells [V.ptr H.length 0 0]]) H' → Kp H H' := fun H' hf => by
    refine ⟨by have := hf.1; simp at this; omega, fun i hi => ?_⟩
    rw [hf.2 i (by simp; omega) (by omega), List.getElem?_append_left (by simp; omega), List.getElem?_append_left hi]
  have hln : (H ++ [Blk.cells [V.agg [x, .int .i64 0, .int .i64 0]]] ++ [Blk.cells [V.ptr H.length 0 0]]).length = H.length + 2 := by simp
  have hR : Rr (H ++ [Blk.cells [V.agg [x, .int .i64 0, .int .i64 0]]] ++ [Blk.cells [V.ptr H.length 0 0]]) H.length x L ⟨0, 0⟩ :=
    ⟨hW, fun H' hf => hx H' (hk1 H' hf), Nat.zero_le _⟩
  clear hW
  generalize (H ++ [Blk.cells [V.agg [x, .int .i64 0, .int .i64 0]]] ++ [Blk.cells [V.ptr H.length 0 0]]) = H1 at *
  generalize hw : H.length = w at *
  have hcw : w + 1 ≠ w := by omega
  refine wC_loop _ (fun k st' H' => ∃ (i : Nat) (s1 : S), (st' = ⟨L16_5 (.v x) (.box 0) (.v (.ptr (w + 1) 0 0)) (.v (.int .i64 i)), [[.nils, .nils, .nils, .int .i64 0]], []⟩) ∧ Ff w H1 H' ∧ Rr H' w x L s1 ∧ i ≤ 4 ∧ k = 4 - i ∧ contG (magicB.drop i) L s1 = magG magicB L 0 ∧ (s1.e = 0 → s1.at_ = i)) 4 ⟨0, ⟨0, 0⟩, ?_, Ff.refl, hR, by omega, rfl, rfl, fun _ => rfl⟩ ?_
  · simp only [WN, firstReg, growAll, zbv, zbw, norm, killS, zag, zah, zaa, zab, zbl, zat, zad, growOne, zae, zaf, zac, zas, zak, Nat.reduceLT, Nat.reduceAdd, zbj, zav, F16, L16_5, hxc]
    rfl
  · rintro k st' H' ⟨i, s1, rfl, hf, hR', hi4, rfl, hm, hat0⟩
    simp only [L16_5]
    simp only [WW, partV, eqCells, eqLf, minV, maxV, ifcV, zaa, zab, zac, zad, zae, zaf, zag, zah, zai, ofConst, ofConst1, List.replicate, zaj, zak, loadOp, Go.Abs.loadCells, binV, zal, pickV, zam, zan, zao, zap, zaq, zar, zas, zat, zau, outR, resAll, resOne, zav, zaw, zax, zay, zaz, zba, zbb, zbc, zbd, zbe, zbf, zbg, zbh, zbi, zbj, zbk, storeOp, storeCell, overlay, zbl, zbm, zbn, lookupOp, keyT, okRes, mapUpdateOp, zbo, zbp, zbq, zbr, zbs, zbt, zbu, Nat.reduceSub, Nat.reduceAdd, Int.reduceLT, Int.reduceLE, Int.reduceAdd, Int.reduceSub, Int.reduceToNat, Int.reduceBEq, Int.reduceBNe, Int.reduceMul, Nat.reduceBEq, Nat.reduceBNe, Nat.reduceLT, Nat.reduceLeDiff, Nat.reduceMul, Nat.reduceEqDiff, WD, effB, effH, isPriv, isHeap, isImm, zbx, zby, zbz, chkO, setD, dslot, zca, zcb, zcc, zcd, ptrCells_some, F16]
    have hC' : H'[w + 1]? = some (.cells [.ptr w 0 0]) := (hf.2 (w + 1) (by omega) hcw).trans hC
    have hb := hR'.b
    simp only [rdr] at hb
    refine cSplit (fun hlt => ?_) (fun hge => ?_)
    · have hi : i < 4 := by have := of_decide_eq_true hlt; omega
      simp only [hlt]
      obtain ⟨u, m, hu, hum, hmd⟩ := magic_at hi
      rw [hmd] at hm
      simp only [WW, partV, eqCells, eqLf, minV, maxV, ifcV, zaa, zab, zac, zad, zae, zaf, zag, zah, zai, ofConst, ofConst1, List.replicate, zaj, zak, loadOp, Go.Abs.loadCells, binV, zal, pickV, zam, zan, zao, zap, zaq, zar, zas, zat, zau, outR, resAll, resOne, zav, zaw, zax, zay, zaz, zba, zbb, zbc, zbd, zbe, zbf, zbg, zbh, zbi, zbj, zbk, storeOp, storeCell, overlay, zbl, zbm, zbn, lookupOp, keyT, okRes, mapUpdateOp, zbo, zbp, zbq, zbr, zbs, zbt, zbu, Nat.reduceSub, Nat.reduceAdd, Int.reduceLT, Int.reduceLE, Int.reduceAdd, Int.reduceSub, Int.reduceToNat, Int.reduceBEq, Int.reduceBNe, Int.reduceMul, Nat.reduceBEq, Nat.reduceBNe, Nat.reduceLT, Nat.reduceLeDiff, Nat.reduceMul, Nat.reduceEqDiff, WD, effB, effH, isPriv, isHeap, isImm, zbx, zby, zbz, chkO, setD, dslot, zca, zcb, zcc, zcd, ptrCells_some, F16]
      refine wC_dr alts16_7 (by kernel_rfl) ?_
      obtain ⟨p, e⟩ := s1
      simp only at hat0 hb
      have hnx : IntKind.i64.wrap ((i : Int) + 1) = ((i + 1 : Nat) : Int) := by rw [IntWalk.i64_in _ (by omega)]; omega
      cases e with
      | succ e1 =>
        have g0 : (((e1 + 1 : Nat) : Int) == 0) = false := by rw [beq_eq_false_iff_ne]; omega
        simp only [WW, partV, eqCells, eqLf, minV, maxV, ifcV, zaa, zab, zac, zad, zae, zaf, zag, zah, zai, ofConst, ofConst1, List.replicate, zaj, zak, loadOp, Go.Abs.loadCells, binV, zal, pickV, zam, zan, zao, zap, zaq, zar, zas, zat, zau, outR, resAll, resOne, zav, zaw, zax, zay, zaz, zba, zbb, zbc, zbd, zbe, zbf, zbg, zbh, zbi, zbj, zbk, storeOp, storeCell, overlay, zbl, zbm, zbn, lookupOp, keyT, okRes, mapUpdateOp, zbo, zbp, zbq, zbr, zbs, zbt, zbu, Nat.reduceSub, Nat.reduceAdd, Int.reduceLT, Int.reduceLE, Int.reduceAdd, Int.reduceSub, Int.reduceToNat, Int.reduceBEq, Int.reduceBNe, Int.reduceMul, Nat.reduceBEq, Nat.reduceBNe, Nat.reduceLT, Nat.reduceLeDiff, Nat.reduceMul, Nat.reduceEqDiff, WD, effB, effH, isPriv, isHeap, isImm, zbx, zby, zbz, chkO, setD, dslot, zca, zcb, zcc, zcd, ptrCells_some, F16, hb, hC', g0, alts16_7]
        refine ⟨4 - (i + 1), by omega, i + 1, ⟨p, e1 + 1⟩, ?_, hf, hR', by omega, rfl, hm, fun h => by cases h⟩
        simp only [WN, firstReg, growAll, zbv, zbw, norm, killS, zag, zah, zaa, zab, zbl, zat, zad, growOne, zae, zaf, zac, zas, zak, Nat.reduceLT, Nat.reduceAdd, zbj, zav, F16, hxc, hnx]
        try rfl
      | zero =>
        obtain rfl := hat0 rfl
        have g0 : (((0 : Nat) : Int) == 0) = true := rfl
        simp only [contG] at hm
        have hfl := fun p => failR hR' 6 p
        have h6 : ((6 : Nat) : Int) = 6 := rfl
        rw [h6] at hfl
        have hfw : ∀ K, wpCall (evW Tryd.prog notes) 41 [.ptr w 0 0, .int .i64 6, .int .i64 (p : Nat)] H' K = K (.ret (.tup []) false) (H'.set w (rdr x ⟨p, 6⟩)) := fun K => wpCall_eq (hfl p)
        have hR6 := hR'.to (s' := ⟨p, 6⟩) hR'.o
        have hb6 : (H'.set w (rdr x ⟨p, 6⟩))[w]? = some (.cells [.agg [x, .int .i64 (p : Nat), .int .i64 6]]) := hR6.b
        have hC6 : (H'.set w (rdr x ⟨p, 6⟩))[w + 1]? = some (.cells [.ptr w 0 0]) := by rw [List.getElem?_set, if_neg (by omega)]; exact hC'
        have g6 : ((6 : Int) == 0) = false := rfl
        cases hLp : L[p]? with
        | none =>
          have hpl : p = L.length := by
            have := List.getElem?_eq_none_iff.1 hLp
            have : p ≤ L.length := hR'.o
            omega
          have g1 : ((p : Int) == (L.length : Int)) = true := by rw [hpl]; simp
          rw [List.drop_of_length_le (show L.length ≤ p by omega)] at hm
          simp only [WW, partV, eqCells, eqLf, minV, maxV, ifcV, zaa, zab, zac, zad, zae, zaf, zag, zah, zai, ofConst, ofConst1, List.replicate, zaj, zak, loadOp, Go.Abs.loadCells, binV, zal, pickV, zam, zan, zao, zap, zaq, zar, zas, zat, zau, outR, resAll, resOne, zav, zaw, zax, zay, zaz, zba, zbb, zbc, zbd, zbe, zbf, zbg, zbh, zbi, zbj, zbk, storeOp, storeCell, overlay, zbl, zbm, zbn, lookupOp, keyT, okRes, mapUpdateOp, zbo, zbp, zbq, zbr, zbs, zbt, zbu, Nat.reduceSub, Nat.reduceAdd, Int.reduceLT, Int.reduceLE, Int.reduceAdd, Int.reduceSub, Int.reduceToNat, Int.reduceBEq, Int.reduceBNe, Int.reduceMul, Nat.reduceBEq, Nat.reduceBNe, Nat.reduceLT, Nat.reduceLeDiff, Nat.reduceMul, Nat.reduceEqDiff, WD, effB, effH, isPriv, isHeap, isImm, zbx, zby, zbz, chkO, setD, dslot, zca, zcb, zcc, zcd, ptrCells_some, F16, hb, hC', g0, hxs, hxl, g1, alts16_7]
          refine wC_dr alts16_8 (by kernel_rfl) ?_
          simp only [WW, partV, eqCells, eqLf, minV, maxV, ifcV, zaa, zab, zac, zad, zae, zaf, zag, zah, zai, ofConst, ofConst1, List.replicate, zaj, zak, loadOp, Go.Abs.loadCells, binV, zal, pickV, zam, zan, zao, zap, zaq, zar, zas, zat, zau, outR, resAll, resOne, zav, zaw, zax, zay, zaz, zba, zbb, zbc, zbd, zbe, zbf, zbg, zbh, zbi, zbj, zbk, storeOp, storeCell, overlay, zbl, zbm, zbn, lookupOp, keyT, okRes, mapUpdateOp, zbo, zbp, zbq, zbr, zbs, zbt, zbu, Nat.reduceSub, Nat.reduceAdd, Int.reduceLT, Int.reduceLE, Int.reduceAdd, Int.reduceSub, Int.reduceToNat, Int.reduceBEq, Int.reduceBNe, Int.reduceMul, Nat.reduceBEq, Nat.reduceBNe, Nat.reduceLT, Nat.reduceLeDiff, Nat.reduceMul, Nat.reduceEqDiff, WD, effB, effH, isPriv, isHeap, isImm, zbx, zby, zbz, chkO, setD, dslot, zca, zcb, zcc, zcd, ptrCells_some, F16, hb, hC', hb6, hC6, g0, g6, hfw, alts16_8]
          refine ⟨4 - (p + 1), by omega, p + 1, ⟨p, 6⟩, ?_, hf.trans (Ff.set _), hR6, by omega, rfl, hm, fun h => by cases h⟩
          simp only [WN, firstReg, growAll, zbv, zbw, norm, killS, zag, zah, zaa, zab, zbl, zat, zad, growOne, zae, zaf, zac, zas, zak, Nat.reduceLT, Nat.reduceAdd, zbj, zav, F16, hxc, hnx]
          try rfl
        | some c =>
          have hpl : p < L.length := (List.getElem?_eq_some_iff.1 hLp).1
          have g1 : ((p : Int) == (L.length : Int)) = false := by rw [beq_eq_false_iff_ne]; omega
          rw [drop_get hLp, magG] at hm
          have hxr := hR'.rd
          have hat := hxr.at_ (sz := 1) (i := p) (e := .int .u8 (c : Nat)) (by simp [bs, hLp]) rfl
          by_cases hcm : c = m
          · rw [if_pos hcm] at hm
            have g2 : (((c : Nat) : Int) != (u.toNat : Int)) = false := by rw [hum, hcm]; simp
            have hR2 := hR'.to (s' := ⟨p + 1, 0⟩) hpl
            have hb2 : (H'.set w (.cells [.agg [x, .int .i64 ((p + 1 : Nat) : Int), .int .i64 ((0 : Nat) : Int)]]))[w]? = some (.cells [.agg [x, .int .i64 ((p + 1 : Nat) : Int), .int .i64 ((0 : Nat) : Int)]]) := List.getElem?_set_self hR'.lt
            simp only [WW, partV, eqCells, eqLf, minV, maxV, ifcV, zaa, zab, zac, zad, zae, zaf, zag, zah, zai, ofConst, ofConst1, List.replicate, zaj, zak, loadOp, Go.Abs.loadCells, binV, zal, pickV, zam, zan, zao, zap, zaq, zar, zas, zat, zau, outR, resAll, resOne, zav, zaw, zax, zay, zaz, zba, zbb, zbc, zbd, zbe, zbf, zbg, zbh, zbi, zbj, zbk, storeOp, storeCell, overlay, zbl, zbm, zbn, lookupOp, keyT, okRes, mapUpdateOp, zbo, zbp, zbq, zbr, zbs, zbt, zbu, Nat.reduceSub, Nat.reduceAdd, Int.reduceLT, Int.reduceLE, Int.reduceAdd, Int.reduceSub, Int.reduceToNat, Int.reduceBEq, Int.reduceBNe, Int.reduceMul, Nat.reduceBEq, Nat.reduceBNe, Nat.reduceLT, Nat.reduceLeDiff, Nat.reduceMul, Nat.reduceEqDiff, WD, effB, effH, isPriv, isHeap, isImm, zbx, zby, zbz, chkO, setD, dslot, zca, zcb, zcc, zcd, ptrCells_some, F16, hb, hC', g0, hxs, hxl, g1, hat.at1 hxr, hat.cells, hu, byteV, g2, alts16_7]
            simp only [WW, partV, eqCells, eqLf, minV, maxV, ifcV, zaa, zab, zac, zad, zae, zaf, zag, zah, zai, ofConst, ofConst1, List.replicate, zaj, zak, loadOp, Go.Abs.loadCells, binV, zal, pickV, zam, zan, zao, zap, zaq, zar, zas, zat, zau, outR, resAll, resOne, zav, zaw, zax, zay, zaz, zba, zbb, zbc, zbd, zbe, zbf, zbg, zbh, zbi, zbj, zbk, storeOp, storeCell, overlay, zbl, zbm, zbn, lookupOp, keyT, okRes, mapUpdateOp, zbo, zbp, zbq, zbr, zbs, zbt, zbu, Nat.reduceSub, Nat.reduceAdd, Int.reduceLT, Int.reduceLE, Int.reduceAdd, Int.reduceSub, Int.reduceToNat, Int.reduceBEq, Int.reduceBNe, Int.reduceMul, Nat.reduceBEq, Nat.reduceBNe, Nat.reduceLT, Nat.reduceLeDiff, Nat.reduceMul, Nat.reduceEqDiff, WD, effB, effH, isPriv, isHeap, isImm, zbx, zby, zbz, chkO, setD, dslot, zca, zcb, zcc, zcd, ptrCells_some, F16, hb, hC', g0, hnx, storeHeap, promote, heapSet, elemSet, hb2]
            refine ⟨4 - (p + 1), by omega, p + 1, ⟨p + 1, 0⟩, ?_, hf.trans (Ff.set _), hR2, by omega, rfl, hm, fun _ => rfl⟩
            simp only [WN, firstReg, growAll, zbv, zbw, norm, killS, zag, zah, zaa, zab, zbl, zat, zad, growOne, zae, zaf, zac, zas, zak, Nat.reduceLT, Nat.reduceAdd, zbj, zav, F16, hxc, hnx]
            try rfl
          · rw [if_neg hcm] at hm
            have g2 : (((c : Nat) : Int) != (u.toNat : Int)) = true := by rw [hum]; simp; omega
            simp only [WW, partV, eqCells, eqLf, minV, maxV, ifcV, zaa, zab, zac, zad, zae, zaf, zag, zah, zai, ofConst, ofConst1, List.replicate, zaj, zak, loadOp, Go.Abs.loadCells, binV, zal, pickV, zam, zan, zao, zap, zaq, zar, zas, zat, zau, outR, resAll, resOne, zav, zaw, zax, zay, zaz, zba, zbb, zbc, zbd, zbe, zbf, zbg, zbh, zbi, zbj, zbk, storeOp, storeCell, overlay, zbl, zbm, zbn, lookupOp, keyT, okRes, mapUpdateOp, zbo, zbp, zbq, zbr, zbs, zbt, zbu, Nat.reduceSub, Nat.reduceAdd, Int.reduceLT, Int.reduceLE, Int.reduceAdd, Int.reduceSub, Int.reduceToNat, Int.reduceBEq, Int.reduceBNe, Int.reduceMul, Nat.reduceBEq, Nat.reduceBNe, Nat.reduceLT, Nat.reduceLeDiff, Nat.reduceMul, Nat.reduceEqDiff, WD, effB, effH, isPriv, isHeap, isImm, zbx, zby, zbz, chkO, setD, dslot, zca, zcb, zcc, zcd, ptrCells_some, F16, hb, hC', g0, hxs, hxl, g1, hat.at1 hxr, hat.cells, hu, byteV, g2, alts16_7]
            refine wC_dr alts16_8 (by kernel_rfl) ?_
            simp only [WW, partV, eqCells, eqLf, minV, maxV, ifcV, zaa, zab, zac, zad, zae, zaf, zag, zah, zai, ofConst, ofConst1, List.replicate, zaj, zak, loadOp, Go.Abs.loadCells, binV, zal, pickV, zam, zan, zao, zap, zaq, zar, zas, zat, zau, outR, resAll, resOne, zav, zaw, zax, zay, zaz, zba, zbb, zbc, zbd, zbe, zbf, zbg, zbh, zbi, zbj, zbk, storeOp, storeCell, overlay, zbl, zbm, zbn, lookupOp, keyT, okRes, mapUpdateOp, zbo, zbp, zbq, zbr, zbs, zbt, zbu, Nat.reduceSub, Nat.reduceAdd, Int.reduceLT, Int.reduceLE, Int.reduceAdd, Int.reduceSub, Int.reduceToNat, Int.reduceBEq, Int.reduceBNe, Int.reduceMul, Nat.reduceBEq, Nat.reduceBNe, Nat.reduceLT, Nat.reduceLeDiff, Nat.reduceMul, Nat.reduceEqDiff, WD, effB, effH, isPriv, isHeap, isImm, zbx, zby, zbz, chkO, setD, dslot, zca, zcb, zcc, zcd, ptrCells_some, F16, hb, hC', hb6, hC6, g0, g6, hfw, alts16_8]
            refine ⟨4 - (p + 1), by omega, p + 1, ⟨p, 6⟩, ?_, hf.trans (Ff.set _), hR6, by omega, rfl, hm, fun h => by cases h⟩
            simp only [WN, firstReg, growAll, zbv, zbw, norm, killS, zag, zah, zaa, zab, zbl, zat, zad, growOne, zae, zaf, zac, zas, zak, Nat.reduceLT, Nat.reduceAdd, zbj, zav, F16, hxc, hnx]
            try rfl
    · have hi : i = 4 := by have := of_decide_eq_false hge; omega
      subst hi
      have hs1 : s1 = magG magicB L 0 := by
        rw [← hm]; unfold contG
        obtain ⟨p, e⟩ := s1
        cases e <;> rfl
      subst hs1
      simp only [hge]
      have h5m : L.length ≤ 5000000 := by omega
      have hc1 : w + 1 < H'.length := by have := hf.1; omega
      clear hm hat0 hb
      simp only [WW, partV, eqCells, eqLf, minV, maxV, ifcV, zaa, zab, zac, zad, zae, zaf, zag, zah, zai, ofConst, ofConst1, List.replicate, zaj, zak, loadOp, Go.Abs.loadCells, binV, zal, pickV, zam, zan, zao, zap, zaq, zar, zas, zat, zau, outR, resAll, resOne, zav, zaw, zax, zay, zaz, zba, zbb, zbc, zbd, zbe, zbf, zbg, zbh, zbi, zbj, zbk, storeOp, storeCell, overlay, zbl, zbm, zbn, lookupOp, keyT, okRes, mapUpdateOp, zbo, zbp, zbq, zbr, zbs, zbt, zbu, Nat.reduceSub, Nat.reduceAdd, Int.reduceLT, Int.reduceLE, Int.reduceAdd, Int.reduceSub, Int.reduceToNat, Int.reduceBEq, Int.reduceBNe, Int.reduceMul, Nat.reduceBEq, Nat.reduceBNe, Nat.reduceLT, Nat.reduceLeDiff, Nat.reduceMul, Nat.reduceEqDiff, WD, effB, effH, isPriv, isHeap, isImm, zbx, zby, zbz, chkO, setD, dslot, zca, zcb, zcc, zcd, ptrCells_some, F16, hC']
      refine wpCall_of (allR42 (textS L) V.str (fun _ _ => rfl) (fun _ => rfl) (fun _ => rfl) call43 hR' hL h5m (fun H1 s1 h1 h2 => text43 h2 hL h5m)) ?_
      rintro out H2' ⟨y2, rfl, g2', hR2', hO2⟩
      obtain ⟨H2, e2, g2, hR2⟩ := own_done g2' hR'.lt hR'.r hR2' hO2
      have hf2 := hf.trans g2
      have hC2 := (g2.2 (w + 1) hc1 hcw).trans hC'
      have hc2 := Nat.lt_of_lt_of_le hc1 g2.1
      simp only [WW, partV, eqCells, eqLf, minV, maxV, ifcV, zaa, zab, zac, zad, zae, zaf, zag, zah, zai, ofConst, ofConst1, List.replicate, zaj, zak, loadOp, Go.Abs.loadCells, binV, zal, pickV, zam, zan, zao, zap, zaq, zar, zas, zat, zau, outR, resAll, resOne, zav, zaw, zax, zay, zaz, zba, zbb, zbc, zbd, zbe, zbf, zbg, zbh, zbi, zbj, zbk, storeOp, storeCell, overlay, zbl, zbm, zbn, lookupOp, keyT, okRes, mapUpdateOp, zbo, zbp, zbq, zbr, zbs, zbt, zbu, Nat.reduceSub, Nat.reduceAdd, Int.reduceLT, Int.reduceLE, Int.reduceAdd, Int.reduceSub, Int.reduceToNat, Int.reduceBEq, Int.reduceBNe, Int.reduceMul, Nat.reduceBEq, Nat.reduceBNe, Nat.reduceLT, Nat.reduceLeDiff, Nat.reduceMul, Nat.reduceEqDiff, WD, effB, effH, isPriv, isHeap, isImm, zbx, zby, zbz, chkO, setD, dslot, zca, zcb, zcc, zcd, ptrCells_some, F16, e2, hC2, buildOp, fillV, Lay.place, Bool.or_self, Bool.or_false, Bool.false_or, decide_not, ne_eq, not_true_eq_false, decide_eq_true_eq, Nat.lt_irrefl, repL_shut, repL_ok, repL_cells, repL_width]
      refine wpCall_of (allR44 (keysS L) keyV (fun _ st => repL_shut _ st) (fun _ => repL_ok _) (fun _ => repL_width _) call45 hR2 hL h5m (fun H1 s1 h1 h2 => clos45 ((h1.2 (w + 1) hc2 hcw).trans hC2) h2 hL h5m)) ?_
      rintro out H3' ⟨y3, rfl, g3', hR3', hO3⟩
      obtain ⟨H3, e3, g3, hR3⟩ := own_done g3' hR2.lt hR2.r hR3' hO3
      have hf3 := hf2.trans g3
      have hC3 := (g3.2 (w + 1) hc2 hcw).trans hC2
      have hc3 := Nat.lt_of_lt_of_le hc2 g3.1
      simp only [WW, partV, eqCells, eqLf, minV, maxV, ifcV, zaa, zab, zac, zad, zae, zaf, zag, zah, zai, ofConst, ofConst1, List.replicate, zaj, zak, loadOp, Go.Abs.loadCells, binV, zal, pickV, zam, zan, zao, zap, zaq, zar, zas, zat, zau, outR, resAll, resOne, zav, zaw, zax, zay, zaz, zba, zbb, zbc, zbd, zbe, zbf, zbg, zbh, zbi, zbj, zbk, storeOp, storeCell, overlay, zbl, zbm, zbn, lookupOp, keyT, okRes, mapUpdateOp, zbo, zbp, zbq, zbr, zbs, zbt, zbu, Nat.reduceSub, Nat.reduceAdd, Int.reduceLT, Int.reduceLE, Int.reduceAdd, Int.reduceSub, Int.reduceToNat, Int.reduceBEq, Int.reduceBNe, Int.reduceMul, Nat.reduceBEq, Nat.reduceBNe, Nat.reduceLT, Nat.reduceLeDiff, Nat.reduceMul, Nat.reduceEqDiff, WD, effB, effH, isPriv, isHeap, isImm, zbx, zby, zbz, chkO, setD, dslot, zca, zcb, zcc, zcd, ptrCells_some, F16, e3, hC3, buildOp, fillV, Lay.place, Bool.or_self, Bool.or_false, Bool.false_or, decide_not, ne_eq, not_true_eq_false, decide_eq_true_eq, Nat.lt_irrefl, repL_shut, repL_ok, repL_cells, repL_width]
      refine wpCall_of (numR hR3 hL h5m) ?_
      rintro out H4 ⟨rfl, g4, hR4⟩
      have hf4 := hf3.trans g4
      have hC4 := (g4.2 (w + 1) hc3 hcw).trans hC3
      have hc4 := Nat.lt_of_lt_of_le hc3 g4.1
      simp only [WW, partV, eqCells, eqLf, minV, maxV, ifcV, zaa, zab, zac, zad, zae, zaf, zag, zah, zai, ofConst, ofConst1, List.replicate, zaj, zak, loadOp, Go.Abs.loadCells, binV, zal, pickV, zam, zan, zao, zap, zaq, zar, zas, zat, zau, outR, resAll, resOne, zav, zaw, zax, zay, zaz, zba, zbb, zbc, zbd, zbe, zbf, zbg, zbh, zbi, zbj, zbk, storeOp, storeCell, overlay, zbl, zbm, zbn, lookupOp, keyT, okRes, mapUpdateOp, zbo, zbp, zbq, zbr, zbs, zbt, zbu, Nat.reduceSub, Nat.reduceAdd, Int.reduceLT, Int.reduceLE, Int.reduceAdd, Int.reduceSub, Int.reduceToNat, Int.reduceBEq, Int.reduceBNe, Int.reduceMul, Nat.reduceBEq, Nat.reduceBNe, Nat.reduceLT, Nat.reduceLeDiff, Nat.reduceMul, Nat.reduceEqDiff, WD, effB, effH, isPriv, isHeap, isImm, zbx, zby, zbz, chkO, setD, dslot, zca, zcb, zcc, zcd, ptrCells_some, F16, hC4, buildOp, fillV, Lay.place, Bool.or_self, Bool.or_false, Bool.false_or, decide_not, ne_eq, not_true_eq_false, decide_eq_true_eq, Nat.lt_irrefl, repL_shut, repL_ok, repL_cells, repL_width]
      refine wpCall_of (allR48 (fnS L) fnVal (fun _ _ => rfl) (fun _ => rfl) (fun _ => rfl) call49 hR4 hL h5m (fun H1 s1 h1 h2 => function49 h2 hL h5m)) ?_
      rintro out H5' ⟨y5, rfl, g5', hR5', hO5⟩
      obtain ⟨H5, e5, g5, hR5⟩ := own_done g5' hR4.lt hR4.r hR5' hO5
      have hf5 := hf4.trans g5
      have hC5 := (g5.2 (w + 1) hc4 hcw).trans hC4
      have hc5 := Nat.lt_of_lt_of_le hc4 g5.1
      have him : (imgS L (magG magicB L 0)).2 = (allS L (fnS L) (num L (allS L (keysS L) (allS L (textS L) (magG magicB L 0)).2).2).2).2 := rfl
      have hT : decT L (decS L) = decT L (⟨(allS L (fnS L) (num L (allS L (keysS L) (allS L (textS L) (magG magicB L 0)).2).2).2).1, (allS L (textS L) (magG magicB L 0)).1, (allS L (keysS L) (allS L (textS L) (magG magicB L 0)).2).1, ((num L (allS L (keysS L) (allS L (textS L) (magG magicB L 0)).2).2).1 : Int)⟩, endS L (allS L (fnS L) (num L (allS L (keysS L) (allS L (textS L) (magG magicB L 0)).2).2).2).2) := rfl
      rw [hT]
      generalize (allS L (fnS L) (num L (allS L (keysS L) (allS L (textS L) (magG magicB L 0)).2).2).2).2 = s5 at *
      obtain ⟨p, e⟩ := s5
      have hb5 := hR5.b
      simp only [rdr] at hb5
      have hp5 : p ≤ L.length := hR5.o
      have hend : Kp H H5 := hk1 H5 hf5
      cases e with
      | succ e1 =>
        have h00 : (((e1 + 1 : Nat) : Int) == 0) = false := by rw [beq_eq_false_iff_ne]; omega
        have h01 : (((e1 + 1 : Nat) : Int) != 0) = true := by simp only [bne_iff_ne, ne_eq]; omega
        simp only [WW, partV, eqCells, eqLf, minV, maxV, ifcV, zaa, zab, zac, zad, zae, zaf, zag, zah, zai, ofConst, ofConst1, List.replicate, zaj, zak, loadOp, Go.Abs.loadCells, binV, zal, pickV, zam, zan, zao, zap, zaq, zar, zas, zat, zau, outR, resAll, resOne, zav, zaw, zax, zay, zaz, zba, zbb, zbc, zbd, zbe, zbf, zbg, zbh, zbi, zbj, zbk, storeOp, storeCell, overlay, zbl, zbm, zbn, lookupOp, keyT, okRes, mapUpdateOp, zbo, zbp, zbq, zbr, zbs, zbt, zbu, Nat.reduceSub, Nat.reduceAdd, Int.reduceLT, Int.reduceLE, Int.reduceAdd, Int.reduceSub, Int.reduceToNat, Int.reduceBEq, Int.reduceBNe, Int.reduceMul, Nat.reduceBEq, Nat.reduceBNe, Nat.reduceLT, Nat.reduceLeDiff, Nat.reduceMul, Nat.reduceEqDiff, WD, effB, effH, isPriv, isHeap, isImm, zbx, zby, zbz, chkO, setD, dslot, zca, zcb, zcc, zcd, ptrCells_some, F16, e5, hC5, hb5, h00, h01, buildOp, fillV, Lay.place, Bool.or_self, Bool.or_false, Bool.false_or, decide_not, ne_eq, not_true_eq_false, decide_eq_true_eq, Nat.lt_irrefl, repL_shut, repL_ok, repL_cells, repL_width]
        refine wC_dr alts16_19 (by kernel_rfl) ?_
        simp only [WW, partV, eqCells, eqLf, minV, maxV, ifcV, zaa, zab, zac, zad, zae, zaf, zag, zah, zai, ofConst, ofConst1, List.replicate, zaj, zak, loadOp, Go.Abs.loadCells, binV, zal, pickV, zam, zan, zao, zap, zaq, zar, zas, zat, zau, outR, resAll, resOne, zav, zaw, zax, zay, zaz, zba, zbb, zbc, zbd, zbe, zbf, zbg, zbh, zbi, zbj, zbk, storeOp, storeCell, overlay, zbl, zbm, zbn, lookupOp, keyT, okRes, mapUpdateOp, zbo, zbp, zbq, zbr, zbs, zbt, zbu, Nat.reduceSub, Nat.reduceAdd, Int.reduceLT, Int.reduceLE, Int.reduceAdd, Int.reduceSub, Int.reduceToNat, Int.reduceBEq, Int.reduceBNe, Int.reduceMul, Nat.reduceBEq, Nat.reduceBNe, Nat.reduceLT, Nat.reduceLeDiff, Nat.reduceMul, Nat.reduceEqDiff, WD, effB, effH, isPriv, isHeap, isImm, zbx, zby, zbz, chkO, setD, dslot, zca, zcb, zcc, zcd, ptrCells_some, F16, hC5, hb5, alts16_19, buildOp, fillV, Lay.place, Bool.or_self, Bool.or_false, Bool.false_or, decide_not, ne_eq, not_true_eq_false, decide_eq_true_eq, Nat.lt_irrefl, repL_shut, repL_ok, repL_cells, repL_width]
        exact ⟨rfl, hend⟩
      | zero =>
        have h00 : (((0 : Nat) : Int) == 0) = true := rfl
        have h01 : (((0 : Nat) : Int) != 0) = false := rfl
        by_cases hpl : p < L.length
        · have hd : decide ((p : Int) < (L.length : Int)) = true := decide_eq_true (by omega)
          have hfw : ∀ K, wpCall (evW Tryd.prog notes) 41 [.ptr w 0 0, .int .i64 6, .int .i64 (p : Nat)] H5 K = K (.ret (.tup []) false) (H5.set w (rdr x ⟨p, 6⟩)) := fun K => wpCall_eq (failR hR5 6 p)
          have hR6 := hR5.to (s' := ⟨p, 6⟩) hR5.o
          have hb6 : (H5.set w (rdr x ⟨p, 6⟩))[w]? = some (.cells [.agg [x, .int .i64 (p : Nat), .int .i64 6]]) := hR6.b
          have hC6 : (H5.set w (rdr x ⟨p, 6⟩))[w + 1]? = some (.cells [.ptr w 0 0]) := by rw [List.getElem?_set, if_neg (by omega)]; exact hC5
          have g6 : ((6 : Int) != 0) = true := rfl
          have hes : endS L ⟨p, 0⟩ = ⟨p, 6⟩ := by simp only [endS]; rw [if_pos hpl]
          rw [hes]
          simp only [WW, partV, eqCells, eqLf, minV, maxV, ifcV, zaa, zab, zac, zad, zae, zaf, zag, zah, zai, ofConst, ofConst1, List.replicate, zaj, zak, loadOp, Go.Abs.loadCells, binV, zal, pickV, zam, zan, zao, zap, zaq, zar, zas, zat, zau, outR, resAll, resOne, zav, zaw, zax, zay, zaz, zba, zbb, zbc, zbd, zbe, zbf, zbg, zbh, zbi, zbj, zbk, storeOp, storeCell, overlay, zbl, zbm, zbn, lookupOp, keyT, okRes, mapUpdateOp, zbo, zbp, zbq, zbr, zbs, zbt, zbu, Nat.reduceSub, Nat.reduceAdd, Int.reduceLT, Int.reduceLE, Int.reduceAdd, Int.reduceSub, Int.reduceToNat, Int.reduceBEq, Int.reduceBNe, Int.reduceMul, Nat.reduceBEq, Nat.reduceBNe, Nat.reduceLT, Nat.reduceLeDiff, Nat.reduceMul, Nat.reduceEqDiff, WD, effB, effH, isPriv, isHeap, isImm, zbx, zby, zbz, chkO, setD, dslot, zca, zcb, zcc, zcd, ptrCells_some, F16, e5, hC5, hb5, h00, hd, hxs, hxl, buildOp, fillV, Lay.place, Bool.or_self, Bool.or_false, Bool.false_or, decide_not, ne_eq, not_true_eq_false, decide_eq_true_eq, Nat.lt_irrefl, repL_shut, repL_ok, repL_cells, repL_width]
          refine wC_dr alts16_17 (by kernel_rfl) ?_
          simp only [WW, partV, eqCells, eqLf, minV, maxV, ifcV, zaa, zab, zac, zad, zae, zaf, zag, zah, zai, ofConst, ofConst1, List.replicate, zaj, zak, loadOp, Go.Abs.loadCells, binV, zal, pickV, zam, zan, zao, zap, zaq, zar, zas, zat, zau, outR, resAll, resOne, zav, zaw, zax, zay, zaz, zba, zbb, zbc, zbd, zbe, zbf, zbg, zbh, zbi, zbj, zbk, storeOp, storeCell, overlay, zbl, zbm, zbn, lookupOp, keyT, okRes, mapUpdateOp, zbo, zbp, zbq, zbr, zbs, zbt, zbu, Nat.reduceSub, Nat.reduceAdd, Int.reduceLT, Int.reduceLE, Int.reduceAdd, Int.reduceSub, Int.reduceToNat, Int.reduceBEq, Int.reduceBNe, Int.reduceMul, Nat.reduceBEq, Nat.reduceBNe, Nat.reduceLT, Nat.reduceLeDiff, Nat.reduceMul, Nat.reduceEqDiff, WD, effB, effH, isPriv, isHeap, isImm, zbx, zby, zbz, chkO, setD, dslot, zca, zcb, zcc, zcd, ptrCells_some, F16, hC5, hb5, hC6, hb6, hfw, g6, alts16_17]
          refine wC_dr alts16_19 (by kernel_rfl) ?_
          simp only [WW, partV, eqCells, eqLf, minV, maxV, ifcV, zaa, zab, zac, zad, zae, zaf, zag, zah, zai, ofConst, ofConst1, List.replicate, zaj, zak, loadOp, Go.Abs.loadCells, binV, zal, pickV, zam, zan, zao, zap, zaq, zar, zas, zat, zau, outR, resAll, resOne, zav, zaw, zax, zay, zaz, zba, zbb, zbc, zbd, zbe, zbf, zbg, zbh, zbi, zbj, zbk, storeOp, storeCell, overlay, zbl, zbm, zbn, lookupOp, keyT, okRes, mapUpdateOp, zbo, zbp, zbq, zbr, zbs, zbt, zbu, Nat.reduceSub, Nat.reduceAdd, Int.reduceLT, Int.reduceLE, Int.reduceAdd, Int.reduceSub, Int.reduceToNat, Int.reduceBEq, Int.reduceBNe, Int.reduceMul, Nat.reduceBEq, Nat.reduceBNe, Nat.reduceLT, Nat.reduceLeDiff, Nat.reduceMul, Nat.reduceEqDiff, WD, effB, effH, isPriv, isHeap, isImm, zbx, zby, zbz, chkO, setD, dslot, zca, zcb, zcc, zcd, ptrCells_some, F16, hC6, hb6, alts16_19, buildOp, fillV, Lay.place, Bool.or_self, Bool.or_false, Bool.false_or, decide_not, ne_eq, not_true_eq_false, decide_eq_true_eq, Nat.lt_irrefl, repL_shut, repL_ok, repL_cells, repL_width]
          exact ⟨rfl, hk1 _ (hf5.trans (Ff.set _))⟩
        · have hd : decide ((p : Int) < (L.length : Int)) = false := decide_eq_false (by omega)
          have hes : endS L ⟨p, 0⟩ = ⟨p, 0⟩ := by simp only [endS]; rw [if_neg hpl]
          rw [hes]
          simp only [WW, partV, eqCells, eqLf, minV, maxV, ifcV, zaa, zab, zac, zad, zae, zaf, zag, zah, zai, ofConst, ofConst1, List.replicate, zaj, zak, loadOp, Go.Abs.loadCells, binV, zal, pickV, zam, zan, zao, zap, zaq, zar, zas, zat, zau, outR, resAll, resOne, zav, zaw, zax, zay, zaz, zba, zbb, zbc, zbd, zbe, zbf, zbg, zbh, zbi, zbj, zbk, storeOp, storeCell, overlay, zbl, zbm, zbn, lookupOp, keyT, okRes, mapUpdateOp, zbo, zbp, zbq, zbr, zbs, zbt, zbu, Nat.reduceSub, Nat.reduceAdd, Int.reduceLT, Int.reduceLE, Int.reduceAdd, Int.reduceSub, Int.reduceToNat, Int.reduceBEq, Int.reduceBNe, Int.reduceMul, Nat.reduceBEq, Nat.reduceBNe, Nat.reduceLT, Nat.reduceLeDiff, Nat.reduceMul, Nat.reduceEqDiff, WD, effB, effH, isPriv, isHeap, isImm, zbx, zby, zbz, chkO, setD, dslot, zca, zcb, zcc, zcd, ptrCells_some, F16, e5, hC5, hb5, h00, h01, hd, hxs, hxl, buildOp, fillV, Lay.place, Bool.or_self, Bool.or_false, Bool.false_or, decide_not, ne_eq, not_true_eq_false, decide_eq_true_eq, Nat.lt_irrefl, repL_shut, repL_ok, repL_cells, repL_width]
          exact ⟨rfl, hend⟩
end Go.Proofs.YtgjobbmbbedecaaDoor
