/- A part of the proofs over this seat. -/
import Derived.Test.YtgjobbmbbedecaaDoorQM1
/- An image's bytes, by the program. -/
namespace Go.Proofs.YtgjobbmbbedecaaDoor
open Go Go.Abs Go.Proofs
set_option maxRecDepth 100000
set_option maxHeartbeats 4000000
set_option linter.unusedVariables false
set_option linter.unusedSimpArgs false
theorem encode_no {H : Hp} {v : V} {im : ImM} (q : ImV v im) (hsm : imSz im) (hok : imOk im = false) :
    wpCall EW 13 [v] H (fun out H' => out = .ret (.tup [.nils, .int .i64 1]) false ∧ H.length ≤ H'.length ∧ ∀ i, i < H.length → H'[i]? = H[i]?) := by
  have hwr := wrong_spec (H := H) q hsm
  obtain ⟨fu, st, ke, fs, ks, rfl, hf, hs, hk, f2, k2⟩ := q
  have z1 := fun st => (hf []).shutIn st
  have z2 := fun s => (hs []).shutIn s
  have z3 := fun st => (hk []).shutIn st
  have x1 := (hf []).cells1
  have x2 := (hs []).cells1
  have x3 := (hk []).cells1
  have w1 := (hf []).ok
  have w2 := (hs []).ok
  have w3 := (hk []).ok
  rw [hok] at hwr
  refine runs f13 b13 r13 n13 _ _ ?_
  simp only [bodyOf, Tryd.f13, Option.getD_some]
  simp only [WW, partV, eqCells, eqLf, minV, maxV, ifcV, zaa, zab, zac, zad, zae, zaf, zag, zah, zai, ofConst, ofConst1, List.replicate, zaj, zak, loadOp, Go.Abs.loadCells, binV, zal, pickV, zam, zan, zao, zap, zaq, zar, zas, zat, zau, outR, resAll, resOne, zav, zaw, zax, zay, zaz, zba, zbb, zbc, zbd, zbe, zbf, zbg, zbh, zbi, zbj, zbk, storeOp, storeCell, overlay, zbl, zbm, zbn, lookupOp, keyT, okRes, mapUpdateOp, zbo, zbp, zbq, zbr, zbs, zbt, zbu, Nat.reduceSub, Nat.reduceAdd, Int.reduceLT, Int.reduceLE, Int.reduceAdd, Int.reduceSub, Int.reduceToNat, Int.reduceBEq, Int.reduceBNe, Int.reduceMul, Nat.reduceBEq, Nat.reduceBNe, Nat.reduceLT, Nat.reduceLeDiff, Nat.reduceMul, Nat.reduceEqDiff, WD, effB, effH, isPriv, isHeap, isImm, zbx, zby, zbz, chkO, setD, dslot, zca, zcb, zcc, zcd, ptrCells_some, F13, z1, z2, z3, x1, x2, x3, w1, w2, w3]
  refine wpCall_of hwr ?_
  rintro out H1 ⟨rfl, hl1, hf1⟩
  simp only [WW, partV, eqCells, eqLf, minV, maxV, ifcV, zaa, zab, zac, zad, zae, zaf, zag, zah, zai, ofConst, ofConst1, List.replicate, zaj, zak, loadOp, Go.Abs.loadCells, binV, zal, pickV, zam, zan, zao, zap, zaq, zar, zas, zat, zau, outR, resAll, resOne, zav, zaw, zax, zay, zaz, zba, zbb, zbc, zbd, zbe, zbf, zbg, zbh, zbi, zbj, zbk, storeOp, storeCell, overlay, zbl, zbm, zbn, lookupOp, keyT, okRes, mapUpdateOp, zbo, zbp, zbq, zbr, zbs, zbt, zbu, Nat.reduceSub, Nat.reduceAdd, Int.reduceLT, Int.reduceLE, Int.reduceAdd, Int.reduceSub, Int.reduceToNat, Int.reduceBEq, Int.reduceBNe, Int.reduceMul, Nat.reduceBEq, Nat.reduceBNe, Nat.reduceLT, Nat.reduceLeDiff, Nat.reduceMul, Nat.reduceEqDiff, WD, effB, effH, isPriv, isHeap, isImm, zbx, zby, zbz, chkO, setD, dslot, zca, zcb, zcc, zcd, ptrCells_some, F13]
  exact ⟨hl1, hf1⟩
theorem encode_ok {H : Hp} {v : V} {im : ImM} (q : ImV v im) (hsm : imSz im) (hok : imOk im = true) (hlen : (encIm im).length ≤ 1000000) :
    wpCall EW 13 [v] H (fun out H' => ∃ x, out = .ret (.tup [x, .int .i64 0]) false ∧ SlW 1 H' (fun i => i < H.length) x (bs (encIm im)) ∧ H.length ≤ H'.length ∧ ∀ i, i < H.length → H'[i]? = H[i]?) := by
  have hwr := wrong_spec (H := H) q hsm
  obtain ⟨fu, st, ke, fs, ks, rfl, hf, hs, hk, f2, k2⟩ := q
  obtain ⟨m1, m2, m3, m4, m5, m6⟩ := hsm
  have z1 := fun st => (hf []).shutIn st
  have z2 := fun s => (hs []).shutIn s
  have z3 := fun st => (hk []).shutIn st
  have x1 := (hf []).cells1
  have x2 := (hs []).cells1
  have x3 := (hk []).cells1
  have w1 := (hf []).ok
  have w2 := (hs []).ok
  have w3 := (hk []).ok
  rw [hok] at hwr
  simp only [imOk, Bool.and_eq_true] at hok
  obtain ⟨o1, o2, o3⟩ := hok
  simp only [encIm, List.length_append] at hlen
  refine runs f13 b13 r13 n13 _ _ ?_
  simp only [bodyOf, Tryd.f13, Option.getD_some]
  simp only [WW, partV, eqCells, eqLf, minV, maxV, ifcV, zaa, zab, zac, zad, zae, zaf, zag, zah, zai, ofConst, ofConst1, List.replicate, zaj, zak, loadOp, Go.Abs.loadCells, binV, zal, pickV, zam, zan, zao, zap, zaq, zar, zas, zat, zau, outR, resAll, resOne, zav, zaw, zax, zay, zaz, zba, zbb, zbc, zbd, zbe, zbf, zbg, zbh, zbi, zbj, zbk, storeOp, storeCell, overlay, zbl, zbm, zbn, lookupOp, keyT, okRes, mapUpdateOp, zbo, zbp, zbq, zbr, zbs, zbt, zbu, Nat.reduceSub, Nat.reduceAdd, Int.reduceLT, Int.reduceLE, Int.reduceAdd, Int.reduceSub, Int.reduceToNat, Int.reduceBEq, Int.reduceBNe, Int.reduceMul, Nat.reduceBEq, Nat.reduceBNe, Nat.reduceLT, Nat.reduceLeDiff, Nat.reduceMul, Nat.reduceEqDiff, WD, effB, effH, isPriv, isHeap, isImm, zbx, zby, zbz, chkO, setD, dslot, zca, zcb, zcc, zcd, ptrCells_some, F13, z1, z2, z3, x1, x2, x3, w1, w2, w3]
  refine wpCall_of hwr ?_
  rintro out H1 ⟨rfl, hl1, hf1⟩
  have h00 : (!true) = false := rfl
  simp only [WW, partV, eqCells, eqLf, minV, maxV, ifcV, zaa, zab, zac, zad, zae, zaf, zag, zah, zai, ofConst, ofConst1, List.replicate, zaj, zak, loadOp, Go.Abs.loadCells, binV, zal, pickV, zam, zan, zao, zap, zaq, zar, zas, zat, zau, outR, resAll, resOne, zav, zaw, zax, zay, zaz, zba, zbb, zbc, zbd, zbe, zbf, zbg, zbh, zbi, zbj, zbk, storeOp, storeCell, overlay, zbl, zbm, zbn, lookupOp, keyT, okRes, mapUpdateOp, zbo, zbp, zbq, zbr, zbs, zbt, zbu, Nat.reduceSub, Nat.reduceAdd, Int.reduceLT, Int.reduceLE, Int.reduceAdd, Int.reduceSub, Int.reduceToNat, Int.reduceBEq, Int.reduceBNe, Int.reduceMul, Nat.reduceBEq, Nat.reduceBNe, Nat.reduceLT, Nat.reduceLeDiff, Nat.reduceMul, Nat.reduceEqDiff, WD, effB, effH, isPriv, isHeap, isImm, zbx, zby, zbz, chkO, setD, dslot, zca, zcb, zcc, zcd, ptrCells_some, F13, h00, z1, z2, z3, buildOp, fillV, Lay.place, Bool.or_self, Bool.or_false, Bool.false_or, decide_not, ne_eq, not_true_eq_false, decide_eq_true_eq, Nat.lt_irrefl, buildSliceV, lits, srcV_eq, srcK_sl, srcK_str, srcSl_nils, srcSl_rsl, srcSl_sl, appendOp, frow, zbv, zbw, List.all_nil, List.all_cons, rowV, Bool.false_and, Bool.and_false, not_false_eq_true, grows_lr, callOut_t, storeHeap, promote, heapSet, elemSet, List.getElem?_concat_length, set_last, convertOp]
  have l1 : (H1 ++ [Blk.cells [.int .u8 74, .int .u8 81, .int .u8 48, .int .u8 49]]).length = H1.length + 1 := by simp
  have l2 : (H1 ++ [Blk.cells [.int .u8 74, .int .u8 81, .int .u8 48, .int .u8 49]] ++ [Blk.cells [V.agg [.sl H1.length 0 4, .int .i64 0]]]).length = H1.length + 2 := by simp
  rw [l2, l1]
  have hO : ∀ i, i < H1.length → (H1 ++ [Blk.cells [.int .u8 74, .int .u8 81, .int .u8 48, .int .u8 49]] ++ [Blk.cells [V.agg [.sl H1.length 0 4, .int .i64 0]]] ++ [Blk.cells [V.ptr (H1.length + 1) 0 0]])[i]? = H1[i]? := fun i hi => by
    rw [List.getElem?_append_left (by simp; omega), List.getElem?_append_left (by simp; omega), List.getElem?_append_left hi]
  have hS : (H1 ++ [Blk.cells [.int .u8 74, .int .u8 81, .int .u8 48, .int .u8 49]] ++ [Blk.cells [V.agg [.sl H1.length 0 4, .int .i64 0]]] ++ [Blk.cells [V.ptr (H1.length + 1) 0 0]])[H1.length]? = some (.cells [.int .u8 74, .int .u8 81, .int .u8 48, .int .u8 49]) := by
    rw [List.getElem?_append_left (by simp), List.getElem?_append_left (by simp)]; exact List.getElem?_concat_length
  have hW : (H1 ++ [Blk.cells [.int .u8 74, .int .u8 81, .int .u8 48, .int .u8 49]] ++ [Blk.cells [V.agg [.sl H1.length 0 4, .int .i64 0]]] ++ [Blk.cells [V.ptr (H1.length + 1) 0 0]])[H1.length + 1]? = some (.cells [.agg [.sl H1.length 0 4, .int .i64 0]]) := by
    rw [List.getElem?_append_left (by simp), ← l1]; exact List.getElem?_concat_length
  have hC : (H1 ++ [Blk.cells [.int .u8 74, .int .u8 81, .int .u8 48, .int .u8 49]] ++ [Blk.cells [V.agg [.sl H1.length 0 4, .int .i64 0]]] ++ [Blk.cells [V.ptr (H1.length + 1) 0 0]])[H1.length + 2]? = some (.cells [.ptr (H1.length + 1) 0 0]) := by
    rw [← l2]; exact List.getElem?_concat_length
  have hln : (H1 ++ [Blk.cells [.int .u8 74, .int .u8 81, .int .u8 48, .int .u8 49]] ++ [Blk.cells [V.agg [.sl H1.length 0 4, .int .i64 0]]] ++ [Blk.cells [V.ptr (H1.length + 1) 0 0]]).length = H1.length + 3 := by simp
  generalize (H1 ++ [Blk.cells [.int .u8 74, .int .u8 81, .int .u8 48, .int .u8 49]] ++ [Blk.cells [V.agg [.sl H1.length 0 4, .int .i64 0]]] ++ [Blk.cells [V.ptr (H1.length + 1) 0 0]]) = H4 at *
  generalize H1.length = b at *
  obtain ⟨N, hNd⟩ : ∃ N : Nat → Prop, ∀ i, N i ↔ (i < b ∨ i = b + 1 ∨ i = b + 2) := ⟨_, fun _ => Iff.rfl⟩
  have hN4 : ∀ i, N i → i < H4.length := fun i hi => by rcases (hNd i).1 hi with hi | rfl | rfl <;> omega
  have hw : N (b + 1) := (hNd _).2 (.inr (.inl rfl))
  have hc : N (b + 2) := (hNd _).2 (.inr (.inr rfl))
  have hcw : b + 2 ≠ b + 1 := by omega
  have hW4 : Wr H4 N (b + 1) (bs magicB) := ⟨.sl b 0 4, .inr ⟨b, [.int .u8 74, .int .u8 81, .int .u8 48, .int .u8 49], rfl, fun h => by rcases (hNd b).1 h with h | h | h <;> omega, hS, by simp [bs, magicB], rfl, by simp, rfl⟩, hW⟩
  have hOf : ∀ H', Fr0 N (b + 1) H4 H' → H.length ≤ H'.length ∧ ∀ i, i < H.length → H'[i]? = H[i]? := fun H' hf => ⟨by have := hf.1; omega, fun i hi => by
    rw [hf.2 i ((hNd i).2 (.inl (by omega))) (by omega), hO i (by omega)]; exact hf1 i hi⟩
  have hwk : ∀ H' x l, SlW 1 H' N x l → SlW 1 H' (fun i => i < H.length) x l := fun H' x l h => h.weaken fun i hi => (hNd i).2 (.inl (by omega))
  clear hS hW hO
  have hmag : (bs magicB).length = 4 := rfl
  have hmg2 : magicB.length = 4 := rfl
  refine wpCall_of (severalG26 encS call27 hN4 hw hW4 hs (All2.map V.str im.strs fun _ _ => rfl) (fun G l1 v a ha hR hf hW1 hl1 => ?_) (by omega) (by omega)) ?_
  · obtain rfl : v = .str a := hR
    exact clos27 (fun i hi => Nat.lt_of_lt_of_le (hN4 i hi) hf.1) hw hc hcw (Cw.fr hC hc hcw hf) hW1 a (by have := m4 a ha; omega) hl1
  rintro out H5 ⟨rfl, hf5, hW5⟩
  have hN5 : ∀ i, N i → i < H5.length := fun i hi => Nat.lt_of_lt_of_le (hN4 i hi) hf5.1
  have hC5 : H5[b + 2]? = some (.cells [.ptr (b + 1) 0 0]) := Cw.fr hC hc hcw hf5
  simp only [WW, partV, eqCells, eqLf, minV, maxV, ifcV, zaa, zab, zac, zad, zae, zaf, zag, zah, zai, ofConst, ofConst1, List.replicate, zaj, zak, loadOp, Go.Abs.loadCells, binV, zal, pickV, zam, zan, zao, zap, zaq, zar, zas, zat, zau, outR, resAll, resOne, zav, zaw, zax, zay, zaz, zba, zbb, zbc, zbd, zbe, zbf, zbg, zbh, zbi, zbj, zbk, storeOp, storeCell, overlay, zbl, zbm, zbn, lookupOp, keyT, okRes, mapUpdateOp, zbo, zbp, zbq, zbr, zbs, zbt, zbu, Nat.reduceSub, Nat.reduceAdd, Int.reduceLT, Int.reduceLE, Int.reduceAdd, Int.reduceSub, Int.reduceToNat, Int.reduceBEq, Int.reduceBNe, Int.reduceMul, Nat.reduceBEq, Nat.reduceBNe, Nat.reduceLT, Nat.reduceLeDiff, Nat.reduceMul, Nat.reduceEqDiff, WD, effB, effH, isPriv, isHeap, isImm, zbx, zby, zbz, chkO, setD, dslot, zca, zcb, zcc, zcd, ptrCells_some, F13, hC5, z1, z2, z3, not_false_eq_true]
  refine wpCall_of (severalG30 (encL encI) call31 hN5 hw hW5 hk k2 (fun G l1 v a ha hR hf hW1 hl1 => ?_) (by simp only [List.length_append, bs_len]; omega) (by omega)) ?_
  · exact clos31 (fun i hi => Nat.lt_of_lt_of_le (hN5 i hi) hf.1) hw hc hcw (Cw.fr hC5 hc hcw hf) hW1 hR (all_mem o1 ha) (by have := m5 a ha; omega) hl1
  rintro out H6 ⟨rfl, hf6, hW6⟩
  have hN6 : ∀ i, N i → i < H6.length := fun i hi => Nat.lt_of_lt_of_le (hN5 i hi) hf6.1
  have hC6 : H6[b + 2]? = some (.cells [.ptr (b + 1) 0 0]) := Cw.fr hC5 hc hcw hf6
  simp only [WW, partV, eqCells, eqLf, minV, maxV, ifcV, zaa, zab, zac, zad, zae, zaf, zag, zah, zai, ofConst, ofConst1, List.replicate, zaj, zak, loadOp, Go.Abs.loadCells, binV, zal, pickV, zam, zan, zao, zap, zaq, zar, zas, zat, zau, outR, resAll, resOne, zav, zaw, zax, zay, zaz, zba, zbb, zbc, zbd, zbe, zbf, zbg, zbh, zbi, zbj, zbk, storeOp, storeCell, overlay, zbl, zbm, zbn, lookupOp, keyT, okRes, mapUpdateOp, zbo, zbp, zbq, zbr, zbs, zbt, zbu, Nat.reduceSub, Nat.reduceAdd, Int.reduceLT, Int.reduceLE, Int.reduceAdd, Int.reduceSub, Int.reduceToNat, Int.reduceBEq, Int.reduceBNe, Int.reduceMul, Nat.reduceBEq, Nat.reduceBNe, Nat.reduceLT, Nat.reduceLeDiff, Nat.reduceMul, Nat.reduceEqDiff, WD, effB, effH, isPriv, isHeap, isImm, zbx, zby, zbz, chkO, setD, dslot, zca, zcb, zcc, zcd, ptrCells_some, F13, hC6, z1, z2, z3, not_false_eq_true]
  refine wpCall_of (plain_spec hN6 hw hW6 im.globals o2 (by simp only [List.length_append, bs_len]; omega)) ?_
  rintro out H7 ⟨rfl, hf7, hW7⟩
  have hN7 : ∀ i, N i → i < H7.length := fun i hi => Nat.lt_of_lt_of_le (hN6 i hi) hf7.1
  have hC7 : H7[b + 2]? = some (.cells [.ptr (b + 1) 0 0]) := Cw.fr hC6 hc hcw hf7
  simp only [WW, partV, eqCells, eqLf, minV, maxV, ifcV, zaa, zab, zac, zad, zae, zaf, zag, zah, zai, ofConst, ofConst1, List.replicate, zaj, zak, loadOp, Go.Abs.loadCells, binV, zal, pickV, zam, zan, zao, zap, zaq, zar, zas, zat, zau, outR, resAll, resOne, zav, zaw, zax, zay, zaz, zba, zbb, zbc, zbd, zbe, zbf, zbg, zbh, zbi, zbj, zbk, storeOp, storeCell, overlay, zbl, zbm, zbn, lookupOp, keyT, okRes, mapUpdateOp, zbo, zbp, zbq, zbr, zbs, zbt, zbu, Nat.reduceSub, Nat.reduceAdd, Int.reduceLT, Int.reduceLE, Int.reduceAdd, Int.reduceSub, Int.reduceToNat, Int.reduceBEq, Int.reduceBNe, Int.reduceMul, Nat.reduceBEq, Nat.reduceBNe, Nat.reduceLT, Nat.reduceLeDiff, Nat.reduceMul, Nat.reduceEqDiff, WD, effB, effH, isPriv, isHeap, isImm, zbx, zby, zbz, chkO, setD, dslot, zca, zcb, zcc, zcd, ptrCells_some, F13, hC7, z1, z2, z3, not_false_eq_true]
  refine wpCall_of (severalG33 encFn call34 hN7 hw hW7 hf f2 (fun G l1 v a ha hR hf hW1 hl1 => ?_) (by simp only [List.length_append, bs_len]; omega) (by omega)) ?_
  · exact function34 (fun i hi => Nat.lt_of_lt_of_le (hN7 i hi) hf.1) hw hW1 hR (all_mem o3 ha) (m6 a ha) hl1
  rintro out H8 ⟨rfl, hf8, hW8⟩
  have hC8 : H8[b + 2]? = some (.cells [.ptr (b + 1) 0 0]) := Cw.fr hC7 hc hcw hf8
  obtain ⟨x, hx, hb⟩ := hW8
  have e : bs magicB ++ bs (encL encS im.strs) ++ bs (encL (encL encI) im.keys) ++ bs (encI im.globals) ++ bs (encL encFn im.funs) = bs (encIm im) := by simp only [encIm, bs_app, List.append_assoc]
  rw [e] at hx
  have hlx : decide ((4194304 : Int) < ((bs (encIm im)).length : Int)) = false := decide_eq_false (by simp only [encIm, List.length_append, bs_len]; omega)
  have h01 : ((0 : Int) != 0) = false := rfl
  simp only [WW, partV, eqCells, eqLf, minV, maxV, ifcV, zaa, zab, zac, zad, zae, zaf, zag, zah, zai, ofConst, ofConst1, List.replicate, zaj, zak, loadOp, Go.Abs.loadCells, binV, zal, pickV, zam, zan, zao, zap, zaq, zar, zas, zat, zau, outR, resAll, resOne, zav, zaw, zax, zay, zaz, zba, zbb, zbc, zbd, zbe, zbf, zbg, zbh, zbi, zbj, zbk, storeOp, storeCell, overlay, zbl, zbm, zbn, lookupOp, keyT, okRes, mapUpdateOp, zbo, zbp, zbq, zbr, zbs, zbt, zbu, Nat.reduceSub, Nat.reduceAdd, Int.reduceLT, Int.reduceLE, Int.reduceAdd, Int.reduceSub, Int.reduceToNat, Int.reduceBEq, Int.reduceBNe, Int.reduceMul, Nat.reduceBEq, Nat.reduceBNe, Nat.reduceLT, Nat.reduceLeDiff, Nat.reduceMul, Nat.reduceEqDiff, WD, effB, effH, isPriv, isHeap, isImm, zbx, zby, zbz, chkO, setD, dslot, zca, zcb, zcc, zcd, ptrCells_some, F13, hC8, hb, h01, hx.shut, hx.len, hlx, bne_self_eq_false]
  exact ⟨x, rfl, hwk _ _ _ hx, hOf _ ((((hf5.trans hf6).trans hf7).trans hf8))⟩
end Go.Proofs.YtgjobbmbbedecaaDoor

/- The model of reading: bytes, a place and a fault. -/
namespace Go.Proofs.YtgjobbmbbedecaaDoor
open Go Go.Abs Go.Proofs
set_option maxRecDepth 100000
set_option maxHeartbeats 2000000
set_option linter.unusedVariables false
set_option linter.unusedSimpArgs false
/-- A place among the bytes, and the first fault -/
structure S where
  at_ : Nat
  e : Nat
def badN (i x : Nat) : Bool := (decide (0 < i) && decide (x = 0)) || (decide (i = 8) && decide (64 ≤ x))
def numG (L : List Nat) : Nat → Nat → Nat → Nat → Nat × S
  | 0, _, _, p => (0, ⟨p, 6⟩)
  | k + 1, i, v, p => match L[p]? with
    | none => (0, ⟨p, 6⟩)
    | some x => match badN i x with
      | true => (0, ⟨p, 6⟩)
      | false => match decide (x < 128) with
        | true => (v + x % 128 * 2 ^ (7 * i), ⟨p + 1, 0⟩)
        | false => numG L k (i + 1) (v + x % 128 * 2 ^ (7 * i)) (p + 1)
def num (L : List Nat) (s : S) : Nat × S := match s.e with
  | 0 => numG L 9 0 0 s.at_
  | _ + 1 => (0, s)
def unzz (n : Nat) : Int := if n % 2 = 1 then -((n / 2 : Nat) : Int) - 1 else ((n / 2 : Nat) : Int)
def sgn (L : List Nat) (s : S) : Int × S := (unzz (num L s).1, (num L s).2)
def failS (s : S) (e p : Nat) : S := match s.e with
  | 0 => ⟨p, e⟩
  | _ + 1 => s
def countOf (L : List Nat) (p0 : Nat) (r : Nat × S) : Nat × S :=
  match decide (L.length - r.2.at_ < r.1) with
  | true => (0, failS r.2 3 p0)
  | false => match r.2.e with
    | 0 => r
    | _ + 1 => (0, r.2)
def count (L : List Nat) (s : S) : Nat × S := countOf L s.at_ (num L s)
def allG {α : Type} (f : S → α × S) : Nat → S → List α × S
  | 0, s => ([], s)
  | n + 1, s => match s.e with
    | _ + 1 => ([], s)
    | 0 => ((f s).1 :: (allG f n (f s).2).1, (allG f n (f s).2).2)
def allS {α : Type} (L : List Nat) (f : S → α × S) (s : S) : List α × S := allG f (count L s).1 (count L s).2
def natI (r : Nat × S) : Int × S := ((r.1 : Int), r.2)
def capS (L : List Nat) (s : S) : (Int × Int) × S := (((num L s).1, (num L (num L s).2).1), (num L (num L s).2).2)
def insS (L : List Nat) (s : S) : (Int × Int × Int) × S :=
  (((num L s).1, (sgn L (num L s).2).1, (sgn L (sgn L (num L s).2).2).1), (sgn L (sgn L (num L s).2).2).2)
def tryS (L : List Nat) (s : S) : (Int × Int × Int × Int) × S :=
  let a := num L s
  let b := num L a.2
  let c := num L b.2
  let d := num L c.2
  ((a.1, b.1, c.1, d.1), d.2)
def intS (L : List Nat) (s : S) : Int × S := natI (num L s)
def fnS (L : List Nat) (s : S) : FnM × S :=
  let a := num L s
  let b := num L a.2
  let c := allS L (intS L) b.2
  let d := allS L (capS L) c.2
  let e := allS L (insS L) d.2
  let f := allS L (tryS L) e.2
  (⟨a.1, b.1, c.1, d.1, e.1, f.1⟩, f.2)
/-- Bytes as a string -/
def strL (l : List Nat) : ByteArray := ⟨(l.map UInt8.ofNat).toArray⟩
def textS (L : List Nat) (s : S) : ByteArray × S :=
  let a := count L s
  (strL ((L.drop a.2.at_).take a.1), match a.2.e with | 0 => ⟨a.2.at_ + a.1, 0⟩ | _ + 1 => a.2)
def keysS (L : List Nat) (s : S) : List Int × S := allS L (intS L) s
def imgS (L : List Nat) (s : S) : ImM × S :=
  let a := allS L (textS L) s
  let b := allS L (keysS L) a.2
  let c := num L b.2
  let d := allS L (fnS L) c.2
  (⟨d.1, a.1, b.1, c.1⟩, d.2)
/-- How far the magic goes -/
def magG : List Nat → List Nat → Nat → S
  | [], _, p => ⟨p, 0⟩
  | m :: ms, [], p => ⟨p, 6⟩
  | m :: ms, x :: xs, p => if x = m then magG ms xs (p + 1) else ⟨p, 6⟩
def endS (L : List Nat) (s : S) : S := match s.e with
  | 0 => if s.at_ < L.length then ⟨s.at_, 6⟩ else s
  | _ + 1 => s
/-- The whole: an image, a fault, a place -/
def decS (L : List Nat) : ImM × S := ((imgS L (magG magicB L 0)).1, endS L (imgS L (magG magicB L 0)).2)
/-! where it may be -/
def Ok (L : List Nat) (s : S) : Prop := s.at_ ≤ L.length
theorem numG_ok {L : List Nat} : ∀ (k i v p : Nat), p ≤ L.length → Ok L (numG L k i v p).2
  | 0, i, v, p, h => h
  | k + 1, i, v, p, h => by
    unfold numG
    cases hx : L[p]? with
    | none => exact h
    | some x =>
      have hp := (List.getElem?_eq_some_iff.1 hx).1
      simp only
      cases badN i x with
      | true => exact h
      | false =>
        simp only
        cases decide (x < 128) with
        | true => exact hp
        | false => exact numG_ok k (i + 1) _ (p + 1) hp
theorem num_ok {L : List Nat} {s : S} (h : Ok L s) : Ok L (num L s).2 := by
  unfold num
  cases he : s.e with
  | zero => exact numG_ok 9 0 0 s.at_ h
  | succ e => exact h
theorem failS_ok {L : List Nat} {s : S} {e p : Nat} (h : Ok L s) (hp : p ≤ L.length) : Ok L (failS s e p) := by
  unfold failS
  cases s.e with
  | zero => exact hp
  | succ e => exact h
theorem countOf_ok {L : List Nat} {p : Nat} {r : Nat × S} (h : Ok L r.2) (hp : p ≤ L.length) : Ok L (countOf L p r).2 ∧ (countOf L p r).2.at_ + (countOf L p r).1 ≤ L.length := by
  unfold countOf
  cases hd : decide (L.length - r.2.at_ < r.1) with
  | true => exact ⟨failS_ok h hp, failS_ok h hp⟩
  | false =>
    have := of_decide_eq_false hd
    have h' : r.2.at_ ≤ L.length := h
    cases he : r.2.e with
    | zero => exact ⟨h, by simp only; omega⟩
    | succ e => exact ⟨h, h⟩
theorem count_ok {L : List Nat} {s : S} (h : Ok L s) : Ok L (count L s).2 := (countOf_ok (num_ok h) h).1
theorem count_le {L : List Nat} {s : S} (h : Ok L s) : (count L s).2.at_ + (count L s).1 ≤ L.length := (countOf_ok (num_ok h) h).2
theorem allG_ok {α : Type} {L : List Nat} {f : S → α × S} (hf : ∀ s, Ok L s → Ok L (f s).2) : ∀ (n : Nat) (s : S), Ok L s → Ok L (allG f n s).2
  | 0, s, h => h
  | n + 1, s, h => by
    unfold allG
    cases s.e with
    | zero => exact allG_ok hf n _ (hf s h)
    | succ e => exact h
theorem allS_ok {α : Type} {L : List Nat} {f : S → α × S} (hf : ∀ s, Ok L s → Ok L (f s).2) {s : S} (h : Ok L s) : Ok L (allS L f s).2 := allG_ok hf _ _ (count_ok h)
theorem sgn_ok {L : List Nat} {s : S} (h : Ok L s) : Ok L (sgn L s).2 := num_ok h
theorem intS_ok {L : List Nat} (s : S) (h : Ok L s) : Ok L (intS L s).2 := num_ok h
theorem capS_ok {L : List Nat} (s : S) (h : Ok L s) : Ok L (capS L s).2 := num_ok (num_ok h)
theorem insS_ok {L : List Nat} (s : S) (h : Ok L s) : Ok L (insS L s).2 := num_ok (num_ok (num_ok h))
theorem tryS_ok {L : List Nat} (s : S) (h : Ok L s) : Ok L (tryS L s).2 := num_ok (num_ok (num_ok (num_ok h)))
theorem keysS_ok {L : List Nat} (s : S) (h : Ok L s) : Ok L (keysS L s).2 := allS_ok intS_ok h
theorem fnS_ok {L : List Nat} (s : S) (h : Ok L s) : Ok L (fnS L s).2 := allS_ok tryS_ok (allS_ok insS_ok (allS_ok capS_ok (allS_ok intS_ok (num_ok (num_ok h)))))
theorem textS_ok {L : List Nat} (s : S) (h : Ok L s) : Ok L (textS L s).2 := by
  have h1 := count_ok h
  have h2 := count_le h
  unfold textS
  simp only
  cases (count L s).2.e with
  | zero => exact h2
  | succ e => exact h1
theorem magG_ok : ∀ (ms xs : List Nat) (p n : Nat), p + xs.length = n → (magG ms xs p).at_ ≤ n
  | [], _, p, n, h => by show p ≤ n; omega
  | m :: ms, [], p, n, h => by show p ≤ n; simp at h; omega
  | m :: ms, x :: xs, p, n, h => by
    unfold magG
    split
    · exact magG_ok ms xs (p + 1) n (by simp at h; omega)
    · show p ≤ n; simp at h; omega
theorem mag_ok (L : List Nat) : Ok L (magG magicB L 0) := magG_ok magicB L 0 L.length (by omega)
theorem imgS_ok {L : List Nat} (s : S) (h : Ok L s) : Ok L (imgS L s).2 := allS_ok fnS_ok (num_ok (allS_ok keysS_ok (allS_ok textS_ok h)))
theorem endS_ok {L : List Nat} {s : S} (h : Ok L s) : Ok L (endS L s) := by
  unfold endS
  cases s.e with
  | zero => simp only; split <;> exact h
  | succ e => exact h
/-! how great a number may be -/
theorem numG_lt {L : List Nat} (hL : ∀ x ∈ L, x < 256) : ∀ (k i v p : Nat), i + k = 9 → v < 2 ^ (7 * i) → (numG L k i v p).1 ≤ 4611686018427387903
  | 0, i, v, p, _, _ => by simp [numG]
  | k + 1, i, v, p, hk, hv => by
    unfold numG
    cases hx : L[p]? with
    | none => simp
    | some x =>
      have hx256 := hL x (List.mem_of_getElem? hx)
      simp only
      cases hb : badN i x with
      | true => simp
      | false =>
        simp only
        have e7 : 2 ^ (7 * (i + 1)) = 2 ^ (7 * i) * 128 := by rw [Nat.mul_add, Nat.pow_add]
        have hm : x % 128 * 2 ^ (7 * i) ≤ 127 * 2 ^ (7 * i) := Nat.mul_le_mul_right _ (by omega)
        cases hd : decide (x < 128) with
        | false => exact numG_lt hL k (i + 1) _ (p + 1) (by omega) (by omega)
        | true =>
          simp only
          by_cases h8 : i = 8
          · subst h8
            have h64 : x < 64 := by
              simp only [badN, decide_true, Bool.true_and, Bool.or_eq_false_iff, decide_eq_false_iff_not] at hb
              omega
            have e : (2 : Nat) ^ (7 * 8) = 72057594037927936 := by decide
            rw [e] at hv hm ⊢
            have : x % 128 * 72057594037927936 ≤ 63 * 72057594037927936 := Nat.mul_le_mul_right _ (by omega)
            omega
          · have hle : 2 ^ (7 * (i + 1)) ≤ 2 ^ 56 := Nat.pow_le_pow_right (by decide) (by omega)
            have e56 : (2 : Nat) ^ 56 = 72057594037927936 := by decide
            omega
theorem num_lt {L : List Nat} (hL : ∀ x ∈ L, x < 256) (s : S) : (num L s).1 ≤ 4611686018427387903 := by
  unfold num
  cases s.e with
  | zero => exact numG_lt hL 9 0 0 _ rfl (by simp)
  | succ e => simp
end Go.Proofs.YtgjobbmbbedecaaDoor

/- The program's reader: numbers. -/
namespace Go.Proofs.YtgjobbmbbedecaaDoor
open Go Go.Abs Go.Proofs
set_option maxRecDepth 100000
set_option maxHeartbeats 4000000
set_option linter.unusedVariables false
set_option linter.unusedSimpArgs false
theorem and127 (n : Nat) (h : n < 256) : IntKind.u8.wrap ((BitVec.ofInt IntKind.u8.bits (n : Int) &&& BitVec.ofInt IntKind.u8.bits 127).toNat : Nat) = ((n % 128 : Nat) : Int) := by
  have key : ∀ k : Fin 256, IntKind.u8.wrap ((BitVec.ofInt 8 ((k.val : Nat) : Int) &&& BitVec.ofInt 8 127).toNat : Nat) = ((k.val % 128 : Nat) : Int) := by decide +kernel
  exact key ⟨n, h⟩
theorem or_add (v y k : Nat) (hv : v < 2 ^ k) (ht : v + y * 2 ^ k ≤ 9223372036854775807) : IntKind.i64.wrap ((BitVec.ofInt IntKind.i64.bits (v : Int) ||| BitVec.ofInt IntKind.i64.bits ((y * 2 ^ k : Nat) : Int)).toNat : Nat) = ((v + y * 2 ^ k : Nat) : Int) := by
  show IntKind.i64.wrap ((BitVec.ofInt 64 (v : Int) ||| BitVec.ofInt 64 ((y * 2 ^ k : Nat) : Int)).toNat : Nat) = _
  rw [BitVec.toNat_or, BitVec.toNat_ofInt, BitVec.toNat_ofInt]
  have e1 : ((v : Int) % ((2 ^ 64 : Nat) : Int)).toNat = v := by
    rw [Int.emod_eq_of_lt (by omega) (by omega)]; simp
  have e2 : (((y * 2 ^ k : Nat) : Int) % ((2 ^ 64 : Nat) : Int)).toNat = y * 2 ^ k := by
    rw [Int.emod_eq_of_lt (by omega) (by omega)]; exact Int.toNat_natCast _
  rw [e1, e2, Nat.or_comm, Nat.mul_comm y, ← Nat.two_pow_add_eq_or_of_lt hv, Nat.mul_comm, Nat.add_comm]
  exact IntWalk.i64_in _ (by omega)

/-- All but one block, of those that were there, is as it was -/
def Ff (w : Nat) (H H' : Hp) : Prop := H.length ≤ H'.length ∧ ∀ i, i < H.length → i ≠ w → H'[i]? = H[i]?
theorem Ff.refl {w : Nat} {H : Hp} : Ff w H H := ⟨Nat.le_refl _, fun _ _ _ => rfl⟩
theorem Ff.trans {w : Nat} {H H1 H2 : Hp} (a : Ff w H H1) (b : Ff w H1 H2) : Ff w H H2 :=
  ⟨Nat.le_trans a.1 b.1, fun i h1 h2 => (b.2 i (Nat.lt_of_lt_of_le h1 a.1) h2).trans (a.2 i h1 h2)⟩
theorem Ff.set {w : Nat} {H : Hp} (b : Blk) : Ff w H (H.set w b) := ⟨by simp, fun i h1 h2 => by rw [List.getElem?_set, if_neg (fun h => h2 h.symm)]⟩
theorem Ff.app {w : Nat} {H : Hp} (b : Blk) : Ff w H (H ++ [b]) := ⟨by simp, fun i h1 h2 => List.getElem?_append_left h1⟩
def rdr (x : V) (s : S) : Blk := .cells [.agg [x, .int .i64 (s.at_ : Nat), .int .i64 (s.e : Nat)]]
/-- A slice of bytes that can be read and cut -/
def RdB (H : Hp) (x : V) (L : List Nat) : Prop := Rd H x (bs L) ∧ ∀ id lo n es, x = .sl id lo n → H[id]? = some (.cells es) → wideAll es 1 = true
/-- A reader: its bytes, where it is, its fault -/
structure Rr (H : Hp) (w : Nat) (x : V) (L : List Nat) (s : S) : Prop where
  b : H[w]? = some (rdr x s)
  r : ∀ H', Ff w H H' → RdB H' x L
  o : Ok L s
theorem Rr.rd {H : Hp} {w : Nat} {x : V} {L : List Nat} {s : S} (h : Rr H w x L s) : Rd H x (bs L) := (h.r _ Ff.refl).1
theorem Rr.lt {H : Hp} {w : Nat} {x : V} {L : List Nat} {s : S} (h : Rr H w x L s) : w < H.length := (List.getElem?_eq_some_iff.1 h.b).1
theorem Rr.to {H : Hp} {w : Nat} {x : V} {L : List Nat} {s : S} (h : Rr H w x L s) {s' : S} (ho : Ok L s') : Rr (H.set w (rdr x s')) w x L s' :=
  ⟨List.getElem?_set_self h.lt, fun H' hf => h.r H' ((Ff.set _).trans hf), ho⟩
theorem Rr.mov {H H' : Hp} {w : Nat} {x : V} {L : List Nat} {s : S} (h : Rr H w x L s) (hf : Ff w H H') (hb : H'[w]? = H[w]?) : Rr H' w x L s :=
  ⟨hb.trans h.b, fun H2 h2 => h.r H2 (hf.trans h2), h.o⟩
theorem Rr.same {H : Hp} {w : Nat} {x : V} {L : List Nat} {s : S} (h : Rr H w x L s) : H.set w (rdr x s) = H := by
  have h1 := h.lt
  have h2 : H[w] = rdr x s := by have := h.b; rw [List.getElem?_eq_getElem h1] at this; exact Option.some.inj this
  rw [← h2, List.set_getElem_self]
theorem failR {H : Hp} {w : Nat} {x : V} {L : List Nat} {s : S} (h : Rr H w x L s) (e p : Nat) :
    EW 41 [.ptr w 0 0, .int .i64 (e : Nat), .int .i64 (p : Nat)] H = some (.ret (.tup []) false, H.set w (rdr x (failS s e p))) := by
  have hx := h.rd
  have hb := h.b
  have hl := h.lt
  have hsm := h.same
  obtain ⟨q, e0⟩ := s
  refine eqOf2 (runs f41 b41 r41 n41 _ _ ?_)
  simp only [bodyOf, Tryd.f41, Option.getD_some]
  simp only [rdr] at hb
  cases e0 with
  | zero =>
    have h3 : (((0 : Nat) : Int) == 0) = true := rfl
    have hb2 : (H.set w (.cells [.agg [x, .int .i64 (q : Nat), .int .i64 (e : Nat)]]))[w]? = some (.cells [.agg [x, .int .i64 (q : Nat), .int .i64 (e : Nat)]]) := List.getElem?_set_self hl
    simp only [WW, partV, eqCells, eqLf, minV, maxV, ifcV, zaa, zab, zac, zad, zae, zaf, zag, zah, zai, ofConst, ofConst1, List.replicate, zaj, zak, loadOp, Go.Abs.loadCells, binV, zal, pickV, zam, zan, zao, zap, zaq, zar, zas, zat, zau, outR, resAll, resOne, zav, zaw, zax, zay, zaz, zba, zbb, zbc, zbd, zbe, zbf, zbg, zbh, zbi, zbj, zbk, storeOp, storeCell, overlay, zbl, zbm, zbn, lookupOp, keyT, okRes, mapUpdateOp, zbo, zbp, zbq, zbr, zbs, zbt, zbu, Nat.reduceSub, Nat.reduceAdd, Int.reduceLT, Int.reduceLE, Int.reduceAdd, Int.reduceSub, Int.reduceToNat, Int.reduceBEq, Int.reduceBNe, Int.reduceMul, Nat.reduceBEq, Nat.reduceBNe, Nat.reduceLT, Nat.reduceLeDiff, Nat.reduceMul, Nat.reduceEqDiff, WD, effB, effH, isPriv, isHeap, isImm, zbx, zby, zbz, chkO, setD, dslot, zca, zcb, zcc, zcd, ptrCells_some, F41, hb, h3, storeHeap, promote, heapSet, elemSet, hb2, List.set_set]
    simp [failS, rdr]
  | succ e1 =>
    have h3 : (((e1 + 1 : Nat) : Int) == 0) = false := by rw [beq_eq_false_iff_ne]; omega
    simp only [WW, partV, eqCells, eqLf, minV, maxV, ifcV, zaa, zab, zac, zad, zae, zaf, zag, zah, zai, ofConst, ofConst1, List.replicate, zaj, zak, loadOp, Go.Abs.loadCells, binV, zal, pickV, zam, zan, zao, zap, zaq, zar, zas, zat, zau, outR, resAll, resOne, zav, zaw, zax, zay, zaz, zba, zbb, zbc, zbd, zbe, zbf, zbg, zbh, zbi, zbj, zbk, storeOp, storeCell, overlay, zbl, zbm, zbn, lookupOp, keyT, okRes, mapUpdateOp, zbo, zbp, zbq, zbr, zbs, zbt, zbu, Nat.reduceSub, Nat.reduceAdd, Int.reduceLT, Int.reduceLE, Int.reduceAdd, Int.reduceSub, Int.reduceToNat, Int.reduceBEq, Int.reduceBNe, Int.reduceMul, Nat.reduceBEq, Nat.reduceBNe, Nat.reduceLT, Nat.reduceLeDiff, Nat.reduceMul, Nat.reduceEqDiff, WD, effB, effH, isPriv, isHeap, isImm, zbx, zby, zbz, chkO, setD, dslot, zca, zcb, zcc, zcd, ptrCells_some, F41, hb, h3]
    simp only [failS]
    rw [hsm]
theorem number_at0 {H : Hp} {w : Nat} {x : V} {L : List Nat} {p e1 : Nat} (hR : Rr H w x L ⟨p, e1 + 1⟩) :
    EW 47 [.ptr w 0 0] H = some (.ret (.int .i64 (0 : Nat)) false, H) := by
  have hb := hR.b
  simp only [rdr] at hb
  refine eqOf (runs f47 b47 r47 n47 _ _ ?_)
  simp only [bodyOf, Tryd.f47, Option.getD_some]
  simp only [WW, partV, eqCells, eqLf, minV, maxV, ifcV, zaa, zab, zac, zad, zae, zaf, zag, zah, zai, ofConst, ofConst1, List.replicate, zaj, zak, loadOp, Go.Abs.loadCells, binV, zal, pickV, zam, zan, zao, zap, zaq, zar, zas, zat, zau, outR, resAll, resOne, zav, zaw, zax, zay, zaz, zba, zbb, zbc, zbd, zbe, zbf, zbg, zbh, zbi, zbj, zbk, storeOp, storeCell, overlay, zbl, zbm, zbn, lookupOp, keyT, okRes, mapUpdateOp, zbo, zbp, zbq, zbr, zbs, zbt, zbu, Nat.reduceSub, Nat.reduceAdd, Int.reduceLT, Int.reduceLE, Int.reduceAdd, Int.reduceSub, Int.reduceToNat, Int.reduceBEq, Int.reduceBNe, Int.reduceMul, Nat.reduceBEq, Nat.reduceBNe, Nat.reduceLT, Nat.reduceLeDiff, Nat.reduceMul, Nat.reduceEqDiff, WD, effB, effH, isPriv, isHeap, isImm, zbx, zby, zbz, chkO, setD, dslot, zca, zcb, zcc, zcd, ptrCells_some, F47]
  have h3 : (((e1 + 1 : Nat) : Int) == 0) = false := by rw [beq_eq_false_iff_ne]; omega
  refine wC_loop _ (fun k st' H' => st' = ⟨L47_3 (.v (.ptr w 0 0)) (.v (.int .i64 0)) (.v (.int .i64 0)), [], []⟩ ∧ H' = H) 0 ⟨?_, rfl⟩ ?_
  · simp only [WN, firstReg, growAll, zbv, zbw, norm, killS, zag, zah, zaa, zab, zbl, zat, zad, growOne, zae, zaf, zac, zas, zak, Nat.reduceLT, Nat.reduceAdd, zbj, zav, F47, L47_3]
  · rintro k st' H ⟨rfl, rfl⟩
    simp only [L47_3]
    simp only [WW, partV, eqCells, eqLf, minV, maxV, ifcV, zaa, zab, zac, zad, zae, zaf, zag, zah, zai, ofConst, ofConst1, List.replicate, zaj, zak, loadOp, Go.Abs.loadCells, binV, zal, pickV, zam, zan, zao, zap, zaq, zar, zas, zat, zau, outR, resAll, resOne, zav, zaw, zax, zay, zaz, zba, zbb, zbc, zbd, zbe, zbf, zbg, zbh, zbi, zbj, zbk, storeOp, storeCell, overlay, zbl, zbm, zbn, lookupOp, keyT, okRes, mapUpdateOp, zbo, zbp, zbq, zbr, zbs, zbt, zbu, Nat.reduceSub, Nat.reduceAdd, Int.reduceLT, Int.reduceLE, Int.reduceAdd, Int.reduceSub, Int.reduceToNat, Int.reduceBEq, Int.reduceBNe, Int.reduceMul, Nat.reduceBEq, Nat.reduceBNe, Nat.reduceLT, Nat.reduceLeDiff, Nat.reduceMul, Nat.reduceEqDiff, WD, effB, effH, isPriv, isHeap, isImm, zbx, zby, zbz, chkO, setD, dslot, zca, zcb, zcc, zcd, ptrCells_some, F47, hb, h3]
    rfl
theorem number_at {H : Hp} {w : Nat} {x : V} {L : List Nat} {p0 : Nat} (hR : Rr H w x L ⟨p0, 0⟩) (hL : ∀ y ∈ L, y < 256) (hlen : L.length ≤ 5000000) :
    wpCall EW 47 [.ptr w 0 0] H (fun out H' => out = .ret (.int .i64 ((num L ⟨p0, 0⟩).1 : Nat)) false ∧ H' = H.set w (rdr x (num L ⟨p0, 0⟩).2)) := by
  refine runs f47 b47 r47 n47 _ _ ?_
  simp only [bodyOf, Tryd.f47, Option.getD_some]
  simp only [WW, partV, eqCells, eqLf, minV, maxV, ifcV, zaa, zab, zac, zad, zae, zaf, zag, zah, zai, ofConst, ofConst1, List.replicate, zaj, zak, loadOp, Go.Abs.loadCells, binV, zal, pickV, zam, zan, zao, zap, zaq, zar, zas, zat, zau, outR, resAll, resOne, zav, zaw, zax, zay, zaz, zba, zbb, zbc, zbd, zbe, zbf, zbg, zbh, zbi, zbj, zbk, storeOp, storeCell, overlay, zbl, zbm, zbn, lookupOp, keyT, okRes, mapUpdateOp, zbo, zbp, zbq, zbr, zbs, zbt, zbu, Nat.reduceSub, Nat.reduceAdd, Int.reduceLT, Int.reduceLE, Int.reduceAdd, Int.reduceSub, Int.reduceToNat, Int.reduceBEq, Int.reduceBNe, Int.reduceMul, Nat.reduceBEq, Nat.reduceBNe, Nat.reduceLT, Nat.reduceLeDiff, Nat.reduceMul, Nat.reduceEqDiff, WD, effB, effH, isPriv, isHeap, isImm, zbx, zby, zbz, chkO, setD, dslot, zca, zcb, zcc, zcd, ptrCells_some, F47]
  refine wC_loop _ (fun k st' H' => ∃ i v p : Nat, st' = ⟨L47_3 (.v (.ptr w 0 0)) (.v (.int .i64 v)) (.v (.int .i64 i)), [], []⟩ ∧ (k = 9 - i ∧ i ≤ 8) ∧ Rr H' w x L ⟨p, 0⟩ ∧ (∀ b, H'.set w b = H.set w b) ∧ v < 2 ^ (7 * i) ∧ numG L (9 - i) i v p = num L ⟨p0, 0⟩) 9 ⟨0, 0, p0, ?_, ⟨rfl, by omega⟩, hR, fun _ => rfl, by simp, rfl⟩ ?_
  · simp only [WN, firstReg, growAll, zbv, zbw, norm, killS, zag, zah, zaa, zab, zbl, zat, zad, growOne, zae, zaf, zac, zas, zak, Nat.reduceLT, Nat.reduceAdd, zbj, zav, F47, L47_3]; rfl
  · rintro k st' H' ⟨i, v, p, rfl, ⟨rfl, hi8⟩, hR', hset, hv, hnum⟩
    simp only [L47_3]
    have hb := hR'.b
    simp only [rdr] at hb
    have hx := hR'.rd
    have hpl : p ≤ L.length := hR'.o
    have h00 : (((0 : Nat) : Int) == 0) = true := rfl
    simp only [WW, partV, eqCells, eqLf, minV, maxV, ifcV, zaa, zab, zac, zad, zae, zaf, zag, zah, zai, ofConst, ofConst1, List.replicate, zaj, zak, loadOp, Go.Abs.loadCells, binV, zal, pickV, zam, zan, zao, zap, zaq, zar, zas, zat, zau, outR, resAll, resOne, zav, zaw, zax, zay, zaz, zba, zbb, zbc, zbd, zbe, zbf, zbg, zbh, zbi, zbj, zbk, storeOp, storeCell, overlay, zbl, zbm, zbn, lookupOp, keyT, okRes, mapUpdateOp, zbo, zbp, zbq, zbr, zbs, zbt, zbu, Nat.reduceSub, Nat.reduceAdd, Int.reduceLT, Int.reduceLE, Int.reduceAdd, Int.reduceSub, Int.reduceToNat, Int.reduceBEq, Int.reduceBNe, Int.reduceMul, Nat.reduceBEq, Nat.reduceBNe, Nat.reduceLT, Nat.reduceLeDiff, Nat.reduceMul, Nat.reduceEqDiff, WD, effB, effH, isPriv, isHeap, isImm, zbx, zby, zbz, chkO, setD, dslot, zca, zcb, zcc, zcd, ptrCells_some, F47, hb, h00, hx.shutIn]
    refine wC_dr alts47_5 (by kernel_rfl) ?_
    have e9 : 9 - i = (8 - i) + 1 := by omega
    rw [e9, numG] at hnum
    cases hLp : L[p]? with
    | none =>
      rw [hLp] at hnum
      have hpe : p = L.length := by have := List.getElem?_eq_none_iff.1 hLp; omega
      have hne : ((p : Int) == ((bs L).length : Int)) = true := by rw [bs_len, hpe]; simp
      simp only [WW, partV, eqCells, eqLf, minV, maxV, ifcV, zaa, zab, zac, zad, zae, zaf, zag, zah, zai, ofConst, ofConst1, List.replicate, zaj, zak, loadOp, Go.Abs.loadCells, binV, zal, pickV, zam, zan, zao, zap, zaq, zar, zas, zat, zau, outR, resAll, resOne, zav, zaw, zax, zay, zaz, zba, zbb, zbc, zbd, zbe, zbf, zbg, zbh, zbi, zbj, zbk, storeOp, storeCell, overlay, zbl, zbm, zbn, lookupOp, keyT, okRes, mapUpdateOp, zbo, zbp, zbq, zbr, zbs, zbt, zbu, Nat.reduceSub, Nat.reduceAdd, Int.reduceLT, Int.reduceLE, Int.reduceAdd, Int.reduceSub, Int.reduceToNat, Int.reduceBEq, Int.reduceBNe, Int.reduceMul, Nat.reduceBEq, Nat.reduceBNe, Nat.reduceLT, Nat.reduceLeDiff, Nat.reduceMul, Nat.reduceEqDiff, WD, effB, effH, isPriv, isHeap, isImm, zbx, zby, zbz, chkO, setD, dslot, zca, zcb, zcc, zcd, ptrCells_some, F47, hb, hx.shutIn, hx.len, hne, alts47_5]
      have h6 : (6 : Int) = ((6 : Nat) : Int) := rfl
      rw [h6, wpCall_eq (failR hR' 6 p)]
      simp only [WW, partV, eqCells, eqLf, minV, maxV, ifcV, zaa, zab, zac, zad, zae, zaf, zag, zah, zai, ofConst, ofConst1, List.replicate, zaj, zak, loadOp, Go.Abs.loadCells, binV, zal, pickV, zam, zan, zao, zap, zaq, zar, zas, zat, zau, outR, resAll, resOne, zav, zaw, zax, zay, zaz, zba, zbb, zbc, zbd, zbe, zbf, zbg, zbh, zbi, zbj, zbk, storeOp, storeCell, overlay, zbl, zbm, zbn, lookupOp, keyT, okRes, mapUpdateOp, zbo, zbp, zbq, zbr, zbs, zbt, zbu, Nat.reduceSub, Nat.reduceAdd, Int.reduceLT, Int.reduceLE, Int.reduceAdd, Int.reduceSub, Int.reduceToNat, Int.reduceBEq, Int.reduceBNe, Int.reduceMul, Nat.reduceBEq, Nat.reduceBNe, Nat.reduceLT, Nat.reduceLeDiff, Nat.reduceMul, Nat.reduceEqDiff, WD, effB, effH, isPriv, isHeap, isImm, zbx, zby, zbz, chkO, setD, dslot, zca, zcb, zcc, zcd, ptrCells_some, F47]
      rw [← hnum]
      exact ⟨rfl, hset _⟩
    | some c =>
      rw [hLp] at hnum
      simp only at hnum
      have hlt : p < L.length := (List.getElem?_eq_some_iff.1 hLp).1
      have hc256 : c < 256 := hL c (List.mem_of_getElem? hLp)
      have hne : ((p : Int) == ((bs L).length : Int)) = false := by rw [bs_len, beq_eq_false_iff_ne]; omega
      have hat := hx.at_ (sz := 1) (i := p) (e := .int .u8 (c : Nat)) (by simp [bs, hLp]) rfl
      simp only [WW, partV, eqCells, eqLf, minV, maxV, ifcV, zaa, zab, zac, zad, zae, zaf, zag, zah, zai, ofConst, ofConst1, List.replicate, zaj, zak, loadOp, Go.Abs.loadCells, binV, zal, pickV, zam, zan, zao, zap, zaq, zar, zas, zat, zau, outR, resAll, resOne, zav, zaw, zax, zay, zaz, zba, zbb, zbc, zbd, zbe, zbf, zbg, zbh, zbi, zbj, zbk, storeOp, storeCell, overlay, zbl, zbm, zbn, lookupOp, keyT, okRes, mapUpdateOp, zbo, zbp, zbq, zbr, zbs, zbt, zbu, Nat.reduceSub, Nat.reduceAdd, Int.reduceLT, Int.reduceLE, Int.reduceAdd, Int.reduceSub, Int.reduceToNat, Int.reduceBEq, Int.reduceBNe, Int.reduceMul, Nat.reduceBEq, Nat.reduceBNe, Nat.reduceLT, Nat.reduceLeDiff, Nat.reduceMul, Nat.reduceEqDiff, WD, effB, effH, isPriv, isHeap, isImm, zbx, zby, zbz, chkO, setD, dslot, zca, zcb, zcc, zcd, ptrCells_some, F47, hb, hx.shutIn, hx.len, hne, alts47_5]
      refine wC_dr alts47_7 (by kernel_rfl) ?_
      simp only [WW, partV, eqCells, eqLf, minV, maxV, ifcV, zaa, zab, zac, zad, zae, zaf, zag, zah, zai, ofConst, ofConst1, List.replicate, zaj, zak, loadOp, Go.Abs.loadCells, binV, zal, pickV, zam, zan, zao, zap, zaq, zar, zas, zat, zau, outR, resAll, resOne, zav, zaw, zax, zay, zaz, zba, zbb, zbc, zbd, zbe, zbf, zbg, zbh, zbi, zbj, zbk, storeOp, storeCell, overlay, zbl, zbm, zbn, lookupOp, keyT, okRes, mapUpdateOp, zbo, zbp, zbq, zbr, zbs, zbt, zbu, Nat.reduceSub, Nat.reduceAdd, Int.reduceLT, Int.reduceLE, Int.reduceAdd, Int.reduceSub, Int.reduceToNat, Int.reduceBEq, Int.reduceBNe, Int.reduceMul, Nat.reduceBEq, Nat.reduceBNe, Nat.reduceLT, Nat.reduceLeDiff, Nat.reduceMul, Nat.reduceEqDiff, WD, effB, effH, isPriv, isHeap, isImm, zbx, zby, zbz, chkO, setD, dslot, zca, zcb, zcc, zcd, ptrCells_some, F47, hb, hx.shutIn, hat.at1 hx, hat.cells, alts47_7]
      have hm7 : IntKind.i64.wrap (7 * (i : Int)) = ((7 * i : Nat) : Int) := by rw [IntWalk.i64_in _ (by omega)]; simp
      have hneg : ¬ (((7 * i : Nat) : Int) < 0) := by omega
      have htn : min (7 * i) IntKind.i64.bits = 7 * i := by show min (7 * i) 64 = _; omega
      have hcw : IntKind.i64.wrap ((c % 128 : Nat) : Int) = ((c % 128 : Nat) : Int) := IntWalk.i64_in _ (by omega)
      have e7 : 2 ^ (7 * (i + 1)) = 2 ^ (7 * i) * 128 := by rw [Nat.mul_add, Nat.pow_add]
      have hmq : c % 128 * 2 ^ (7 * i) ≤ 127 * 2 ^ (7 * i) := Nat.mul_le_mul_right _ (by omega)
      have e8 : (2 : Nat) ^ (7 * 8) = 72057594037927936 := by decide
      have hp8 : 2 ^ (7 * i) ≤ 2 ^ (7 * 8) := Nat.pow_le_pow_right (by decide) (by omega)
      have hsh : IntKind.i64.wrap (((c % 128 : Nat) : Int) * 2 ^ (7 * i)) = ((c % 128 * 2 ^ (7 * i) : Nat) : Int) := by
        rw [show (((c % 128 : Nat) : Int) * 2 ^ (7 * i)) = ((c % 128 * 2 ^ (7 * i) : Nat) : Int) by rw [Int.natCast_mul, Int.natCast_pow]; rfl]
        exact IntWalk.i64_in _ (by omega)
      have hor := or_add v (c % 128) (7 * i) hv (by omega)
      have hp1 : IntKind.i64.wrap ((p : Int) + 1) = ((p + 1 : Nat) : Int) := by rw [IntWalk.i64_in _ (by omega)]; omega
      have hb2 : (H'.set w (.cells [.agg [x, .int .i64 ((p + 1 : Nat) : Int), .int .i64 ((0 : Nat) : Int)]]))[w]? = some (.cells [.agg [x, .int .i64 ((p + 1 : Nat) : Int), .int .i64 ((0 : Nat) : Int)]]) := List.getElem?_set_self hR'.lt
      have hvv : v + c % 128 * 2 ^ (7 * i) < 2 ^ (7 * (i + 1)) := by omega
      have hR2 := hR'.to (s' := ⟨p + 1, 0⟩) hlt
      have h6 : (6 : Int) = ((6 : Nat) : Int) := rfl
      obtain ⟨b1, h1⟩ : ∃ b, decide ((0 : Int) < (i : Int)) = b := ⟨_, rfl⟩
      obtain ⟨b2, h2⟩ : ∃ b, ((c : Int) == 0) = b := ⟨_, rfl⟩
      obtain ⟨b3, h3⟩ : ∃ b, ((i : Int) == 8) = b := ⟨_, rfl⟩
      obtain ⟨b4, h4⟩ : ∃ b, decide ((64 : Int) ≤ (c : Int)) = b := ⟨_, rfl⟩
      have hbad : badN i c = ((b1 && b2) || (b3 && b4)) := by
        rw [← h1, ← h2, ← h3, ← h4, badN, Bool.eq_iff_iff]
        simp only [Bool.or_eq_true, Bool.and_eq_true, decide_eq_true_eq, beq_iff_eq]
        omega
      rw [hbad] at hnum
      cases b1 with
      | false =>
        cases b3 with
        | false =>
          simp only [WW, partV, eqCells, eqLf, minV, maxV, ifcV, zaa, zab, zac, zad, zae, zaf, zag, zah, zai, ofConst, ofConst1, List.replicate, zaj, zak, loadOp, Go.Abs.loadCells, binV, zal, pickV, zam, zan, zao, zap, zaq, zar, zas, zat, zau, outR, resAll, resOne, zav, zaw, zax, zay, zaz, zba, zbb, zbc, zbd, zbe, zbf, zbg, zbh, zbi, zbj, zbk, storeOp, storeCell, overlay, zbl, zbm, zbn, lookupOp, keyT, okRes, mapUpdateOp, zbo, zbp, zbq, zbr, zbs, zbt, zbu, Nat.reduceSub, Nat.reduceAdd, Int.reduceLT, Int.reduceLE, Int.reduceAdd, Int.reduceSub, Int.reduceToNat, Int.reduceBEq, Int.reduceBNe, Int.reduceMul, Nat.reduceBEq, Nat.reduceBNe, Nat.reduceLT, Nat.reduceLeDiff, Nat.reduceMul, Nat.reduceEqDiff, WD, effB, effH, isPriv, isHeap, isImm, zbx, zby, zbz, chkO, setD, dslot, zca, zcb, zcc, zcd, ptrCells_some, F47, h1, h3, convertOp, and127 c hc256, hb, hm7, hneg, htn, hcw, hsh, hor, if_neg hneg]
          simp only [WW, partV, eqCells, eqLf, minV, maxV, ifcV, zaa, zab, zac, zad, zae, zaf, zag, zah, zai, ofConst, ofConst1, List.replicate, zaj, zak, loadOp, Go.Abs.loadCells, binV, zal, pickV, zam, zan, zao, zap, zaq, zar, zas, zat, zau, outR, resAll, resOne, zav, zaw, zax, zay, zaz, zba, zbb, zbc, zbd, zbe, zbf, zbg, zbh, zbi, zbj, zbk, storeOp, storeCell, overlay, zbl, zbm, zbn, lookupOp, keyT, okRes, mapUpdateOp, zbo, zbp, zbq, zbr, zbs, zbt, zbu, Nat.reduceSub, Nat.reduceAdd, Int.reduceLT, Int.reduceLE, Int.reduceAdd, Int.reduceSub, Int.reduceToNat, Int.reduceBEq, Int.reduceBNe, Int.reduceMul, Nat.reduceBEq, Nat.reduceBNe, Nat.reduceLT, Nat.reduceLeDiff, Nat.reduceMul, Nat.reduceEqDiff, WD, effB, effH, isPriv, isHeap, isImm, zbx, zby, zbz, chkO, setD, dslot, zca, zcb, zcc, zcd, ptrCells_some, F47, hb, hb2, hp1, storeHeap, promote, heapSet, elemSet]
          simp only [Bool.false_and, Bool.and_false, Bool.or_self, Bool.false_or, Bool.or_false] at hnum
          refine cSplit (fun g9 => ?_) (fun g9 => ?_)
          · have hm : decide (c < 128) = true := decide_eq_true (by have := of_decide_eq_true g9; omega)
            rw [hm] at hnum
            simp only [g9]
            simp only [WW, partV, eqCells, eqLf, minV, maxV, ifcV, zaa, zab, zac, zad, zae, zaf, zag, zah, zai, ofConst, ofConst1, List.replicate, zaj, zak, loadOp, Go.Abs.loadCells, binV, zal, pickV, zam, zan, zao, zap, zaq, zar, zas, zat, zau, outR, resAll, resOne, zav, zaw, zax, zay, zaz, zba, zbb, zbc, zbd, zbe, zbf, zbg, zbh, zbi, zbj, zbk, storeOp, storeCell, overlay, zbl, zbm, zbn, lookupOp, keyT, okRes, mapUpdateOp, zbo, zbp, zbq, zbr, zbs, zbt, zbu, Nat.reduceSub, Nat.reduceAdd, Int.reduceLT, Int.reduceLE, Int.reduceAdd, Int.reduceSub, Int.reduceToNat, Int.reduceBEq, Int.reduceBNe, Int.reduceMul, Nat.reduceBEq, Nat.reduceBNe, Nat.reduceLT, Nat.reduceLeDiff, Nat.reduceMul, Nat.reduceEqDiff, WD, effB, effH, isPriv, isHeap, isImm, zbx, zby, zbz, chkO, setD, dslot, zca, zcb, zcc, zcd, ptrCells_some, F47]
            rw [← hnum]
            exact ⟨rfl, hset _⟩
          · have hm : decide (c < 128) = false := decide_eq_false (by have := of_decide_eq_false g9; omega)
            rw [hm] at hnum
            simp only [g9]
            simp only [WW, partV, eqCells, eqLf, minV, maxV, ifcV, zaa, zab, zac, zad, zae, zaf, zag, zah, zai, ofConst, ofConst1, List.replicate, zaj, zak, loadOp, Go.Abs.loadCells, binV, zal, pickV, zam, zan, zao, zap, zaq, zar, zas, zat, zau, outR, resAll, resOne, zav, zaw, zax, zay, zaz, zba, zbb, zbc, zbd, zbe, zbf, zbg, zbh, zbi, zbj, zbk, storeOp, storeCell, overlay, zbl, zbm, zbn, lookupOp, keyT, okRes, mapUpdateOp, zbo, zbp, zbq, zbr, zbs, zbt, zbu, Nat.reduceSub, Nat.reduceAdd, Int.reduceLT, Int.reduceLE, Int.reduceAdd, Int.reduceSub, Int.reduceToNat, Int.reduceBEq, Int.reduceBNe, Int.reduceMul, Nat.reduceBEq, Nat.reduceBNe, Nat.reduceLT, Nat.reduceLeDiff, Nat.reduceMul, Nat.reduceEqDiff, WD, effB, effH, isPriv, isHeap, isImm, zbx, zby, zbz, chkO, setD, dslot, zca, zcb, zcc, zcd, ptrCells_some, F47]
            have h8 : i ≤ 7 := by
              have := of_decide_eq_false g9
              by_cases hh : i = 8
              · exfalso
                have hq : badN i c = true := by rw [badN, hh, decide_eq_true (show 64 ≤ c by omega)]; simp
                rw [hbad] at hq
                simp at hq
              · omega
            refine ⟨9 - (i + 1), by omega, i + 1, v + c % 128 * 2 ^ (7 * i), p + 1, ?_, ⟨rfl, by omega⟩, hR2, fun b => by rw [List.set_set]; exact hset b, hvv, ?_⟩
            · simp only [WN, firstReg, growAll, zbv, zbw, norm, killS, zag, zah, zaa, zab, zbl, zat, zad, growOne, zae, zaf, zac, zas, zak, Nat.reduceLT, Nat.reduceAdd, zbj, zav, F47]
              rw [IntWalk.i64_in ((i : Int) + 1) (by omega)]; rfl
            · have e9' : 9 - (i + 1) = 8 - i := by omega
              rw [e9']; exact hnum
        | true =>
          cases b4 with
          | true =>
            simp only [WW, partV, eqCells, eqLf, minV, maxV, ifcV, zaa, zab, zac, zad, zae, zaf, zag, zah, zai, ofConst, ofConst1, List.replicate, zaj, zak, loadOp, Go.Abs.loadCells, binV, zal, pickV, zam, zan, zao, zap, zaq, zar, zas, zat, zau, outR, resAll, resOne, zav, zaw, zax, zay, zaz, zba, zbb, zbc, zbd, zbe, zbf, zbg, zbh, zbi, zbj, zbk, storeOp, storeCell, overlay, zbl, zbm, zbn, lookupOp, keyT, okRes, mapUpdateOp, zbo, zbp, zbq, zbr, zbs, zbt, zbu, Nat.reduceSub, Nat.reduceAdd, Int.reduceLT, Int.reduceLE, Int.reduceAdd, Int.reduceSub, Int.reduceToNat, Int.reduceBEq, Int.reduceBNe, Int.reduceMul, Nat.reduceBEq, Nat.reduceBNe, Nat.reduceLT, Nat.reduceLeDiff, Nat.reduceMul, Nat.reduceEqDiff, WD, effB, effH, isPriv, isHeap, isImm, zbx, zby, zbz, chkO, setD, dslot, zca, zcb, zcc, zcd, ptrCells_some, F47, h1, h3, h4, hb]
            rw [h6, wpCall_eq (failR hR' 6 p)]
            simp only [WW, partV, eqCells, eqLf, minV, maxV, ifcV, zaa, zab, zac, zad, zae, zaf, zag, zah, zai, ofConst, ofConst1, List.replicate, zaj, zak, loadOp, Go.Abs.loadCells, binV, zal, pickV, zam, zan, zao, zap, zaq, zar, zas, zat, zau, outR, resAll, resOne, zav, zaw, zax, zay, zaz, zba, zbb, zbc, zbd, zbe, zbf, zbg, zbh, zbi, zbj, zbk, storeOp, storeCell, overlay, zbl, zbm, zbn, lookupOp, keyT, okRes, mapUpdateOp, zbo, zbp, zbq, zbr, zbs, zbt, zbu, Nat.reduceSub, Nat.reduceAdd, Int.reduceLT, Int.reduceLE, Int.reduceAdd, Int.reduceSub, Int.reduceToNat, Int.reduceBEq, Int.reduceBNe, Int.reduceMul, Nat.reduceBEq, Nat.reduceBNe, Nat.reduceLT, Nat.reduceLeDiff, Nat.reduceMul, Nat.reduceEqDiff, WD, effB, effH, isPriv, isHeap, isImm, zbx, zby, zbz, chkO, setD, dslot, zca, zcb, zcc, zcd, ptrCells_some, F47]
            simp only [Bool.true_and, Bool.and_true, Bool.or_true, Bool.true_or, Bool.or_self, Bool.and_self, Bool.false_and, Bool.false_or] at hnum
            rw [← hnum]
            exact ⟨rfl, hset _⟩
          | false =>
            simp only [WW, partV, eqCells, eqLf, minV, maxV, ifcV, zaa, zab, zac, zad, zae, zaf, zag, zah, zai, ofConst, ofConst1, List.replicate, zaj, zak, loadOp, Go.Abs.loadCells, binV, zal, pickV, zam, zan, zao, zap, zaq, zar, zas, zat, zau, outR, resAll, resOne, zav, zaw, zax, zay, zaz, zba, zbb, zbc, zbd, zbe, zbf, zbg, zbh, zbi, zbj, zbk, storeOp, storeCell, overlay, zbl, zbm, zbn, lookupOp, keyT, okRes, mapUpdateOp, zbo, zbp, zbq, zbr, zbs, zbt, zbu, Nat.reduceSub, Nat.reduceAdd, Int.reduceLT, Int.reduceLE, Int.reduceAdd, Int.reduceSub, Int.reduceToNat, Int.reduceBEq, Int.reduceBNe, Int.reduceMul, Nat.reduceBEq, Nat.reduceBNe, Nat.reduceLT, Nat.reduceLeDiff, Nat.reduceMul, Nat.reduceEqDiff, WD, effB, effH, isPriv, isHeap, isImm, zbx, zby, zbz, chkO, setD, dslot, zca, zcb, zcc, zcd, ptrCells_some, F47, h1, h3, h4, convertOp, and127 c hc256, hb, hm7, hneg, htn, hcw, hsh, hor, if_neg hneg]
            simp only [WW, partV, eqCells, eqLf, minV, maxV, ifcV, zaa, zab, zac, zad, zae, zaf, zag, zah, zai, ofConst, ofConst1, List.replicate, zaj, zak, loadOp, Go.Abs.loadCells, binV, zal, pickV, zam, zan, zao, zap, zaq, zar, zas, zat, zau, outR, resAll, resOne, zav, zaw, zax, zay, zaz, zba, zbb, zbc, zbd, zbe, zbf, zbg, zbh, zbi, zbj, zbk, storeOp, storeCell, overlay, zbl, zbm, zbn, lookupOp, keyT, okRes, mapUpdateOp, zbo, zbp, zbq, zbr, zbs, zbt, zbu, Nat.reduceSub, Nat.reduceAdd, Int.reduceLT, Int.reduceLE, Int.reduceAdd, Int.reduceSub, Int.reduceToNat, Int.reduceBEq, Int.reduceBNe, Int.reduceMul, Nat.reduceBEq, Nat.reduceBNe, Nat.reduceLT, Nat.reduceLeDiff, Nat.reduceMul, Nat.reduceEqDiff, WD, effB, effH, isPriv, isHeap, isImm, zbx, zby, zbz, chkO, setD, dslot, zca, zcb, zcc, zcd, ptrCells_some, F47, hb, hb2, hp1, storeHeap, promote, heapSet, elemSet]
            simp only [Bool.false_and, Bool.and_false, Bool.or_self, Bool.false_or, Bool.or_false] at hnum
            refine cSplit (fun g9 => ?_) (fun g9 => ?_)
            · have hm : decide (c < 128) = true := decide_eq_true (by have := of_decide_eq_true g9; omega)
              rw [hm] at hnum
              simp only [g9]
              simp only [WW, partV, eqCells, eqLf, minV, maxV, ifcV, zaa, zab, zac, zad, zae, zaf, zag, zah, zai, ofConst, ofConst1, List.replicate, zaj, zak, loadOp, Go.Abs.loadCells, binV, zal, pickV, zam, zan, zao, zap, zaq, zar, zas, zat, zau, outR, resAll, resOne, zav, zaw, zax, zay, zaz, zba, zbb, zbc, zbd, zbe, zbf, zbg, zbh, zbi, zbj, zbk, storeOp, storeCell, overlay, zbl, zbm, zbn, lookupOp, keyT, okRes, mapUpdateOp, zbo, zbp, zbq, zbr, zbs, zbt, zbu, Nat.reduceSub, Nat.reduceAdd, Int.reduceLT, Int.reduceLE, Int.reduceAdd, Int.reduceSub, Int.reduceToNat, Int.reduceBEq, Int.reduceBNe, Int.reduceMul, Nat.reduceBEq, Nat.reduceBNe, Nat.reduceLT, Nat.reduceLeDiff, Nat.reduceMul, Nat.reduceEqDiff, WD, effB, effH, isPriv, isHeap, isImm, zbx, zby, zbz, chkO, setD, dslot, zca, zcb, zcc, zcd, ptrCells_some, F47]
              rw [← hnum]
              exact ⟨rfl, hset _⟩
            · have hm : decide (c < 128) = false := decide_eq_false (by have := of_decide_eq_false g9; omega)
              rw [hm] at hnum
              simp only [g9]
              simp only [WW, partV, eqCells, eqLf, minV, maxV, ifcV, zaa, zab, zac, zad, zae, zaf, zag, zah, zai, ofConst, ofConst1, List.replicate, zaj, zak, loadOp, Go.Abs.loadCells, binV, zal, pickV, zam, zan, zao, zap, zaq, zar, zas, zat, zau, outR, resAll, resOne, zav, zaw, zax, zay, zaz, zba, zbb, zbc, zbd, zbe, zbf, zbg, zbh, zbi, zbj, zbk, storeOp, storeCell, overlay, zbl, zbm, zbn, lookupOp, keyT, okRes, mapUpdateOp, zbo, zbp, zbq, zbr, zbs, zbt, zbu, Nat.reduceSub, Nat.reduceAdd, Int.reduceLT, Int.reduceLE, Int.reduceAdd, Int.reduceSub, Int.reduceToNat, Int.reduceBEq, Int.reduceBNe, Int.reduceMul, Nat.reduceBEq, Nat.reduceBNe, Nat.reduceLT, Nat.reduceLeDiff, Nat.reduceMul, Nat.reduceEqDiff, WD, effB, effH, isPriv, isHeap, isImm, zbx, zby, zbz, chkO, setD, dslot, zca, zcb, zcc, zcd, ptrCells_some, F47]
              have h8 : i ≤ 7 := by
                have := of_decide_eq_false g9
                by_cases hh : i = 8
                · exfalso
                  have hq : badN i c = true := by rw [badN, hh, decide_eq_true (show 64 ≤ c by omega)]; simp
                  rw [hbad] at hq
                  simp at hq
                · omega
              refine ⟨9 - (i + 1), by omega, i + 1, v + c % 128 * 2 ^ (7 * i), p + 1, ?_, ⟨rfl, by omega⟩, hR2, fun b => by rw [List.set_set]; exact hset b, hvv, ?_⟩
              · simp only [WN, firstReg, growAll, zbv, zbw, norm, killS, zag, zah, zaa, zab, zbl, zat, zad, growOne, zae, zaf, zac, zas, zak, Nat.reduceLT, Nat.reduceAdd, zbj, zav, F47]
                rw [IntWalk.i64_in ((i : Int) + 1) (by omega)]; rfl
              · have e9' : 9 - (i + 1) = 8 - i := by omega
                rw [e9']; exact hnum
      | true =>
        cases b2 with
        | true =>
          simp only [WW, partV, eqCells, eqLf, minV, maxV, ifcV, zaa, zab, zac, zad, zae, zaf, zag, zah, zai, ofConst, ofConst1, List.replicate, zaj, zak, loadOp, Go.Abs.loadCells, binV, zal, pickV, zam, zan, zao, zap, zaq, zar, zas, zat, zau, outR, resAll, resOne, zav, zaw, zax, zay, zaz, zba, zbb, zbc, zbd, zbe, zbf, zbg, zbh, zbi, zbj, zbk, storeOp, storeCell, overlay, zbl, zbm, zbn, lookupOp, keyT, okRes, mapUpdateOp, zbo, zbp, zbq, zbr, zbs, zbt, zbu, Nat.reduceSub, Nat.reduceAdd, Int.reduceLT, Int.reduceLE, Int.reduceAdd, Int.reduceSub, Int.reduceToNat, Int.reduceBEq, Int.reduceBNe, Int.reduceMul, Nat.reduceBEq, Nat.reduceBNe, Nat.reduceLT, Nat.reduceLeDiff, Nat.reduceMul, Nat.reduceEqDiff, WD, effB, effH, isPriv, isHeap, isImm, zbx, zby, zbz, chkO, setD, dslot, zca, zcb, zcc, zcd, ptrCells_some, F47, h1, h2, hb]
          rw [h6, wpCall_eq (failR hR' 6 p)]
          simp only [WW, partV, eqCells, eqLf, minV, maxV, ifcV, zaa, zab, zac, zad, zae, zaf, zag, zah, zai, ofConst, ofConst1, List.replicate, zaj, zak, loadOp, Go.Abs.loadCells, binV, zal, pickV, zam, zan, zao, zap, zaq, zar, zas, zat, zau, outR, resAll, resOne, zav, zaw, zax, zay, zaz, zba, zbb, zbc, zbd, zbe, zbf, zbg, zbh, zbi, zbj, zbk, storeOp, storeCell, overlay, zbl, zbm, zbn, lookupOp, keyT, okRes, mapUpdateOp, zbo, zbp, zbq, zbr, zbs, zbt, zbu, Nat.reduceSub, Nat.reduceAdd, Int.reduceLT, Int.reduceLE, Int.reduceAdd, Int.reduceSub, Int.reduceToNat, Int.reduceBEq, Int.reduceBNe, Int.reduceMul, Nat.reduceBEq, Nat.reduceBNe, Nat.reduceLT, Nat.reduceLeDiff, Nat.reduceMul, Nat.reduceEqDiff, WD, effB, effH, isPriv, isHeap, isImm, zbx, zby, zbz, chkO, setD, dslot, zca, zcb, zcc, zcd, ptrCells_some, F47]
          simp only [Bool.true_and, Bool.and_true, Bool.or_true, Bool.true_or, Bool.or_self, Bool.and_self, Bool.false_and, Bool.false_or] at hnum
          rw [← hnum]
          exact ⟨rfl, hset _⟩
        | false =>
          cases b3 with
          | false =>
            simp only [WW, partV, eqCells, eqLf, minV, maxV, ifcV, zaa, zab, zac, zad, zae, zaf, zag, zah, zai, ofConst, ofConst1, List.replicate, zaj, zak, loadOp, Go.Abs.loadCells, binV, zal, pickV, zam, zan, zao, zap, zaq, zar, zas, zat, zau, outR, resAll, resOne, zav, zaw, zax, zay, zaz, zba, zbb, zbc, zbd, zbe, zbf, zbg, zbh, zbi, zbj, zbk, storeOp, storeCell, overlay, zbl, zbm, zbn, lookupOp, keyT, okRes, mapUpdateOp, zbo, zbp, zbq, zbr, zbs, zbt, zbu, Nat.reduceSub, Nat.reduceAdd, Int.reduceLT, Int.reduceLE, Int.reduceAdd, Int.reduceSub, Int.reduceToNat, Int.reduceBEq, Int.reduceBNe, Int.reduceMul, Nat.reduceBEq, Nat.reduceBNe, Nat.reduceLT, Nat.reduceLeDiff, Nat.reduceMul, Nat.reduceEqDiff, WD, effB, effH, isPriv, isHeap, isImm, zbx, zby, zbz, chkO, setD, dslot, zca, zcb, zcc, zcd, ptrCells_some, F47, h1, h2, h3, convertOp, and127 c hc256, hb, hm7, hneg, htn, hcw, hsh, hor, if_neg hneg]
            simp only [WW, partV, eqCells, eqLf, minV, maxV, ifcV, zaa, zab, zac, zad, zae, zaf, zag, zah, zai, ofConst, ofConst1, List.replicate, zaj, zak, loadOp, Go.Abs.loadCells, binV, zal, pickV, zam, zan, zao, zap, zaq, zar, zas, zat, zau, outR, resAll, resOne, zav, zaw, zax, zay, zaz, zba, zbb, zbc, zbd, zbe, zbf, zbg, zbh, zbi, zbj, zbk, storeOp, storeCell, overlay, zbl, zbm, zbn, lookupOp, keyT, okRes, mapUpdateOp, zbo, zbp, zbq, zbr, zbs, zbt, zbu, Nat.reduceSub, Nat.reduceAdd, Int.reduceLT, Int.reduceLE, Int.reduceAdd, Int.reduceSub, Int.reduceToNat, Int.reduceBEq, Int.reduceBNe, Int.reduceMul, Nat.reduceBEq, Nat.reduceBNe, Nat.reduceLT, Nat.reduceLeDiff, Nat.reduceMul, Nat.reduceEqDiff, WD, effB, effH, isPriv, isHeap, isImm, zbx, zby, zbz, chkO, setD, dslot, zca, zcb, zcc, zcd, ptrCells_some, F47, hb, hb2, hp1, storeHeap, promote, heapSet, elemSet]
            simp only [Bool.false_and, Bool.and_false, Bool.or_self, Bool.false_or, Bool.or_false] at hnum
            refine cSplit (fun g9 => ?_) (fun g9 => ?_)
            · have hm : decide (c < 128) = true := decide_eq_true (by have := of_decide_eq_true g9; omega)
              rw [hm] at hnum
              simp only [g9]
              simp only [WW, partV, eqCells, eqLf, minV, maxV, ifcV, zaa, zab, zac, zad, zae, zaf, zag, zah, zai, ofConst, ofConst1, List.replicate, zaj, zak, loadOp, Go.Abs.loadCells, binV, zal, pickV, zam, zan, zao, zap, zaq, zar, zas, zat, zau, outR, resAll, resOne, zav, zaw, zax, zay, zaz, zba, zbb, zbc, zbd, zbe, zbf, zbg, zbh, zbi, zbj, zbk, storeOp, storeCell, overlay, zbl, zbm, zbn, lookupOp, keyT, okRes, mapUpdateOp, zbo, zbp, zbq, zbr, zbs, zbt, zbu, Nat.reduceSub, Nat.reduceAdd, Int.reduceLT, Int.reduceLE, Int.reduceAdd, Int.reduceSub, Int.reduceToNat, Int.reduceBEq, Int.reduceBNe, Int.reduceMul, Nat.reduceBEq, Nat.reduceBNe, Nat.reduceLT, Nat.reduceLeDiff, Nat.reduceMul, Nat.reduceEqDiff, WD, effB, effH, isPriv, isHeap, isImm, zbx, zby, zbz, chkO, setD, dslot, zca, zcb, zcc, zcd, ptrCells_some, F47]
              rw [← hnum]
              exact ⟨rfl, hset _⟩
            · have hm : decide (c < 128) = false := decide_eq_false (by have := of_decide_eq_false g9; omega)
              rw [hm] at hnum
              simp only [g9]
              simp only [WW, partV, eqCells, eqLf, minV, maxV, ifcV, zaa, zab, zac, zad, zae, zaf, zag, zah, zai, ofConst, ofConst1, List.replicate, zaj, zak, loadOp, Go.Abs.loadCells, binV, zal, pickV, zam, zan, zao, zap, zaq, zar, zas, zat, zau, outR, resAll, resOne, zav, zaw, zax, zay, zaz, zba, zbb, zbc, zbd, zbe, zbf, zbg, zbh, zbi, zbj, zbk, storeOp, storeCell, overlay, zbl, zbm, zbn, lookupOp, keyT, okRes, mapUpdateOp, zbo, zbp, zbq, zbr, zbs, zbt, zbu, Nat.reduceSub, Nat.reduceAdd, Int.reduceLT, Int.reduceLE, Int.reduceAdd, Int.reduceSub, Int.reduceToNat, Int.reduceBEq, Int.reduceBNe, Int.reduceMul, Nat.reduceBEq, Nat.reduceBNe, Nat.reduceLT, Nat.reduceLeDiff, Nat.reduceMul, Nat.reduceEqDiff, WD, effB, effH, isPriv, isHeap, isImm, zbx, zby, zbz, chkO, setD, dslot, zca, zcb, zcc, zcd, ptrCells_some, F47]
              have h8 : i ≤ 7 := by
                have := of_decide_eq_false g9
                by_cases hh : i = 8
                · exfalso
                  have hq : badN i c = true := by rw [badN, hh, decide_eq_true (show 64 ≤ c by omega)]; simp
                  rw [hbad] at hq
                  simp at hq
                · omega
              refine ⟨9 - (i + 1), by omega, i + 1, v + c % 128 * 2 ^ (7 * i), p + 1, ?_, ⟨rfl, by omega⟩, hR2, fun b => by rw [List.set_set]; exact hset b, hvv, ?_⟩
              · simp only [WN, firstReg, growAll, zbv, zbw, norm, killS, zag, zah, zaa, zab, zbl, zat, zad, growOne, zae, zaf, zac, zas, zak, Nat.reduceLT, Nat.reduceAdd, zbj, zav, F47]
                rw [IntWalk.i64_in ((i : Int) + 1) (by omega)]; rfl
              · have e9' : 9 - (i + 1) = 8 - i := by omega
                rw [e9']; exact hnum
          | true =>
            cases b4 with
            | true =>
              simp only [WW, partV, eqCells, eqLf, minV, maxV, ifcV, zaa, zab, zac, zad, zae, zaf, zag, zah, zai, ofConst, ofConst1, List.replicate, zaj, zak, loadOp, Go.Abs.loadCells, binV, zal, pickV, zam, zan, zao, zap, zaq, zar, zas, zat, zau, outR, resAll, resOne, zav, zaw, zax, zay, zaz, zba, zbb, zbc, zbd, zbe, zbf, zbg, zbh, zbi, zbj, zbk, storeOp, storeCell, overlay, zbl, zbm, zbn, lookupOp, keyT, okRes, mapUpdateOp, zbo, zbp, zbq, zbr, zbs, zbt, zbu, Nat.reduceSub, Nat.reduceAdd, Int.reduceLT, Int.reduceLE, Int.reduceAdd, Int.reduceSub, Int.reduceToNat, Int.reduceBEq, Int.reduceBNe, Int.reduceMul, Nat.reduceBEq, Nat.reduceBNe, Nat.reduceLT, Nat.reduceLeDiff, Nat.reduceMul, Nat.reduceEqDiff, WD, effB, effH, isPriv, isHeap, isImm, zbx, zby, zbz, chkO, setD, dslot, zca, zcb, zcc, zcd, ptrCells_some, F47, h1, h2, h3, h4, hb]
              rw [h6, wpCall_eq (failR hR' 6 p)]
              simp only [WW, partV, eqCells, eqLf, minV, maxV, ifcV, zaa, zab, zac, zad, zae, zaf, zag, zah, zai, ofConst, ofConst1, List.replicate, zaj, zak, loadOp, Go.Abs.loadCells, binV, zal, pickV, zam, zan, zao, zap, zaq, zar, zas, zat, zau, outR, resAll, resOne, zav, zaw, zax, zay, zaz, zba, zbb, zbc, zbd, zbe, zbf, zbg, zbh, zbi, zbj, zbk, storeOp, storeCell, overlay, zbl, zbm, zbn, lookupOp, keyT, okRes, mapUpdateOp, zbo, zbp, zbq, zbr, zbs, zbt, zbu, Nat.reduceSub, Nat.reduceAdd, Int.reduceLT, Int.reduceLE, Int.reduceAdd, Int.reduceSub, Int.reduceToNat, Int.reduceBEq, Int.reduceBNe, Int.reduceMul, Nat.reduceBEq, Nat.reduceBNe, Nat.reduceLT, Nat.reduceLeDiff, Nat.reduceMul, Nat.reduceEqDiff, WD, effB, effH, isPriv, isHeap, isImm, zbx, zby, zbz, chkO, setD, dslot, zca, zcb, zcc, zcd, ptrCells_some, F47]
              simp only [Bool.true_and, Bool.and_true, Bool.or_true, Bool.true_or, Bool.or_self, Bool.and_self, Bool.false_and, Bool.false_or] at hnum
              rw [← hnum]
              exact ⟨rfl, hset _⟩
            | false =>
              simp only [WW, partV, eqCells, eqLf, minV, maxV, ifcV, zaa, zab, zac, zad, zae, zaf, zag, zah, zai, ofConst, ofConst1, List.replicate, zaj, zak, loadOp, Go.Abs.loadCells, binV, zal, pickV, zam, zan, zao, zap, zaq, zar, zas, zat, zau, outR, resAll, resOne, zav, zaw, zax, zay, zaz, zba, zbb, zbc, zbd, zbe, zbf, zbg, zbh, zbi, zbj, zbk, storeOp, storeCell, overlay, zbl, zbm, zbn, lookupOp, keyT, okRes, mapUpdateOp, zbo, zbp, zbq, zbr, zbs, zbt, zbu, Nat.reduceSub, Nat.reduceAdd, Int.reduceLT, Int.reduceLE, Int.reduceAdd, Int.reduceSub, Int.reduceToNat, Int.reduceBEq, Int.reduceBNe, Int.reduceMul, Nat.reduceBEq, Nat.reduceBNe, Nat.reduceLT, Nat.reduceLeDiff, Nat.reduceMul, Nat.reduceEqDiff, WD, effB, effH, isPriv, isHeap, isImm, zbx, zby, zbz, chkO, setD, dslot, zca, zcb, zcc, zcd, ptrCells_some, F47, h1, h2, h3, h4, convertOp, and127 c hc256, hb, hm7, hneg, htn, hcw, hsh, hor, if_neg hneg]
              simp only [WW, partV, eqCells, eqLf, minV, maxV, ifcV, zaa, zab, zac, zad, zae, zaf, zag, zah, zai, ofConst, ofConst1, List.replicate, zaj, zak, loadOp, Go.Abs.loadCells, binV, zal, pickV, zam, zan, zao, zap, zaq, zar, zas, zat, zau, outR, resAll, resOne, zav, zaw, zax, zay, zaz, zba, zbb, zbc, zbd, zbe, zbf, zbg, zbh, zbi, zbj, zbk, storeOp, storeCell, overlay, zbl, zbm, zbn, lookupOp, keyT, okRes, mapUpdateOp, zbo, zbp, zbq, zbr, zbs, zbt, zbu, Nat.reduceSub, Nat.reduceAdd, Int.reduceLT, Int.reduceLE, Int.reduceAdd, Int.reduceSub, Int.reduceToNat, Int.reduceBEq, Int.reduceBNe, Int.reduceMul, Nat.reduceBEq, Nat.reduceBNe, Nat.reduceLT, Nat.reduceLeDiff, Nat.reduceMul, Nat.reduceEqDiff, WD, effB, effH, isPriv, isHeap, isImm, zbx, zby, zbz, chkO, setD, dslot, zca, zcb, zcc, zcd, ptrCells_some, F47, hb, hb2, hp1, storeHeap, promote, heapSet, elemSet]
              simp only [Bool.false_and, Bool.and_false, Bool.or_self, Bool.false_or, Bool.or_false] at hnum
              refine cSplit (fun g9 => ?_) (fun g9 => ?_)
              · have hm : decide (c < 128) = true := decide_eq_true (by have := of_decide_eq_true g9; omega)
                rw [hm] at hnum
                simp only [g9]
                simp only [WW, partV, eqCells, eqLf, minV, maxV, ifcV, zaa, zab, zac, zad, zae, zaf, zag, zah, zai, ofConst, ofConst1, List.replicate, zaj, zak, loadOp, Go.Abs.loadCells, binV, zal, pickV, zam, zan, zao, zap, zaq, zar, zas, zat, zau, outR, resAll, resOne, zav, zaw, zax, zay, zaz, zba, zbb, zbc, zbd, zbe, zbf, zbg, zbh, zbi, zbj, zbk, storeOp, storeCell, overlay, zbl, zbm, zbn, lookupOp, keyT, okRes, mapUpdateOp, zbo, zbp, zbq, zbr, zbs, zbt, zbu, Nat.reduceSub, Nat.reduceAdd, Int.reduceLT, Int.reduceLE, Int.reduceAdd, Int.reduceSub, Int.reduceToNat, Int.reduceBEq, Int.reduceBNe, Int.reduceMul, Nat.reduceBEq, Nat.reduceBNe, Nat.reduceLT, Nat.reduceLeDiff, Nat.reduceMul, Nat.reduceEqDiff, WD, effB, effH, isPriv, isHeap, isImm, zbx, zby, zbz, chkO, setD, dslot, zca, zcb, zcc, zcd, ptrCells_some, F47]
                rw [← hnum]
                exact ⟨rfl, hset _⟩
              · have hm : decide (c < 128) = false := decide_eq_false (by have := of_decide_eq_false g9; omega)
                rw [hm] at hnum
                simp only [g9]
                simp only [WW, partV, eqCells, eqLf, minV, maxV, ifcV, zaa, zab, zac, zad, zae, zaf, zag, zah, zai, ofConst, ofConst1, List.replicate, zaj, zak, loadOp, Go.Abs.loadCells, binV, zal, pickV, zam, zan, zao, zap, zaq, zar, zas, zat, zau, outR, resAll, resOne, zav, zaw, zax, zay, zaz, zba, zbb, zbc, zbd, zbe, zbf, zbg, zbh, zbi, zbj, zbk, storeOp, storeCell, overlay, zbl, zbm, zbn, lookupOp, keyT, okRes, mapUpdateOp, zbo, zbp, zbq, zbr, zbs, zbt, zbu, Nat.reduceSub, Nat.reduceAdd, Int.reduceLT, Int.reduceLE, Int.reduceAdd, Int.reduceSub, Int.reduceToNat, Int.reduceBEq, Int.reduceBNe, Int.reduceMul, Nat.reduceBEq, Nat.reduceBNe, Nat.reduceLT, Nat.reduceLeDiff, Nat.reduceMul, Nat.reduceEqDiff, WD, effB, effH, isPriv, isHeap, isImm, zbx, zby, zbz, chkO, setD, dslot, zca, zcb, zcc, zcd, ptrCells_some, F47]
                have h8 : i ≤ 7 := by
                  have := of_decide_eq_false g9
                  by_cases hh : i = 8
                  · exfalso
                    have hq : badN i c = true := by rw [badN, hh, decide_eq_true (show 64 ≤ c by omega)]; simp
                    rw [hbad] at hq
                    simp at hq
                  · omega
                refine ⟨9 - (i + 1), by omega, i + 1, v + c % 128 * 2 ^ (7 * i), p + 1, ?_, ⟨rfl, by omega⟩, hR2, fun b => by rw [List.set_set]; exact hset b, hvv, ?_⟩
                · simp only [WN, firstReg, growAll, zbv, zbw, norm, killS, zag, zah, zaa, zab, zbl, zat, zad, growOne, zae, zaf, zac, zas, zak, Nat.reduceLT, Nat.reduceAdd, zbj, zav, F47]
                  rw [IntWalk.i64_in ((i : Int) + 1) (by omega)]; rfl
                · have e9' : 9 - (i + 1) = 8 - i := by omega
                  rw [e9']; exact hnum
end Go.Proofs.YtgjobbmbbedecaaDoor

/- The program's reader: numbers of either sign, how many; lists. -/
namespace Go.Proofs.YtgjobbmbbedecaaDoor
open Go Go.Abs Go.Proofs
set_option maxRecDepth 100000
set_option maxHeartbeats 4000000
set_option linter.unusedVariables false
set_option linter.unusedSimpArgs false
theorem numR {H : Hp} {w : Nat} {x : V} {L : List Nat} {s : S} (hR : Rr H w x L s) (hL : ∀ y ∈ L, y < 256) (hlen : L.length ≤ 5000000) :
    wpCall EW 47 [.ptr w 0 0] H (fun out H' => out = .ret (.int .i64 ((num L s).1 : Nat)) false ∧ Ff w H H' ∧ Rr H' w x L (num L s).2) := by
  have ho := num_ok hR.o
  obtain ⟨p, e⟩ := s
  cases e with
  | zero =>
    refine wpCall_of (number_at hR hL hlen) ?_
    rintro out H' ⟨rfl, rfl⟩
    exact ⟨rfl, Ff.set _, hR.to ho⟩
  | succ e1 =>
    rw [wpCall_eq (number_at0 hR)]
    exact ⟨rfl, Ff.refl, hR⟩
theorem sgnR {H : Hp} {w : Nat} {x : V} {L : List Nat} {s : S} (hR : Rr H w x L s) (hL : ∀ y ∈ L, y < 256) (hlen : L.length ≤ 5000000) :
    wpCall EW 72 [.ptr w 0 0] H (fun out H' => out = .ret (.int .i64 (sgn L s).1) false ∧ Ff w H H' ∧ Rr H' w x L (sgn L s).2) := by
  have hn := num_lt hL s
  refine runs f72 b72 r72 n72 _ _ ?_
  simp only [bodyOf, Tryd.f72, Option.getD_some]
  simp only [WW, partV, eqCells, eqLf, minV, maxV, ifcV, zaa, zab, zac, zad, zae, zaf, zag, zah, zai, ofConst, ofConst1, List.replicate, zaj, zak, loadOp, Go.Abs.loadCells, binV, zal, pickV, zam, zan, zao, zap, zaq, zar, zas, zat, zau, outR, resAll, resOne, zav, zaw, zax, zay, zaz, zba, zbb, zbc, zbd, zbe, zbf, zbg, zbh, zbi, zbj, zbk, storeOp, storeCell, overlay, zbl, zbm, zbn, lookupOp, keyT, okRes, mapUpdateOp, zbo, zbp, zbq, zbr, zbs, zbt, zbu, Nat.reduceSub, Nat.reduceAdd, Int.reduceLT, Int.reduceLE, Int.reduceAdd, Int.reduceSub, Int.reduceToNat, Int.reduceBEq, Int.reduceBNe, Int.reduceMul, Nat.reduceBEq, Nat.reduceBNe, Nat.reduceLT, Nat.reduceLeDiff, Nat.reduceMul, Nat.reduceEqDiff, WD, effB, effH, isPriv, isHeap, isImm, zbx, zby, zbz, chkO, setD, dslot, zca, zcb, zcc, zcd, ptrCells_some, F72]
  refine wpCall_of (numR hR hL hlen) ?_
  rintro out H' ⟨rfl, hf, hR'⟩
  unfold sgn
  generalize hq : (num L s).1 = n at *
  have hand : IntKind.i64.wrap ((BitVec.ofInt IntKind.i64.bits (n : Int) &&& BitVec.ofInt IntKind.i64.bits 1).toNat : Nat) = ((n % 2 : Nat) : Int) := by
    show IntKind.i64.wrap ((BitVec.ofInt 64 (n : Int) &&& BitVec.ofInt 64 1).toNat : Nat) = _
    rw [BitVec.toNat_and, BitVec.toNat_ofInt, BitVec.toNat_ofInt]
    have e1 : ((n : Int) % ((2 ^ 64 : Nat) : Int)).toNat = n := by rw [Int.emod_eq_of_lt (by omega) (by omega)]; simp
    have e2 : ((1 : Int) % ((2 ^ 64 : Nat) : Int)).toNat = 1 := by decide
    rw [e1, e2, Nat.and_one_is_mod]
    exact IntWalk.i64_in _ (by omega)
  have hshr : (n : Int).fdiv (2 ^ 1) = ((n / 2 : Nat) : Int) := by
    rw [Int.fdiv_eq_ediv_of_nonneg _ (by decide)]; norm_cast
  have hneg : IntKind.i64.wrap (0 - ((n / 2 : Nat) : Int)) = -((n / 2 : Nat) : Int) := by rw [IntWalk.i64_in _ (by omega)]; omega
  have hsub : IntKind.i64.wrap (-((n / 2 : Nat) : Int) - 1) = -((n / 2 : Nat) : Int) - 1 := IntWalk.i64_in _ (by omega)
  have h11 : ¬ ((1 : Int) < 0) := by decide
  have hmin : min 1 IntKind.i64.bits = 1 := rfl
  by_cases h2 : n % 2 = 1
  · have hu : unzz n = -((n / 2 : Nat) : Int) - 1 := by unfold unzz; rw [if_pos h2]
    have hb : (((n % 2 : Nat) : Int) == 1) = true := by rw [h2]; rfl
    simp only [WW, partV, eqCells, eqLf, minV, maxV, ifcV, zaa, zab, zac, zad, zae, zaf, zag, zah, zai, ofConst, ofConst1, List.replicate, zaj, zak, loadOp, Go.Abs.loadCells, binV, zal, pickV, zam, zan, zao, zap, zaq, zar, zas, zat, zau, outR, resAll, resOne, zav, zaw, zax, zay, zaz, zba, zbb, zbc, zbd, zbe, zbf, zbg, zbh, zbi, zbj, zbk, storeOp, storeCell, overlay, zbl, zbm, zbn, lookupOp, keyT, okRes, mapUpdateOp, zbo, zbp, zbq, zbr, zbs, zbt, zbu, Nat.reduceSub, Nat.reduceAdd, Int.reduceLT, Int.reduceLE, Int.reduceAdd, Int.reduceSub, Int.reduceToNat, Int.reduceBEq, Int.reduceBNe, Int.reduceMul, Nat.reduceBEq, Nat.reduceBNe, Nat.reduceLT, Nat.reduceLeDiff, Nat.reduceMul, Nat.reduceEqDiff, WD, effB, effH, isPriv, isHeap, isImm, zbx, zby, zbz, chkO, setD, dslot, zca, zcb, zcc, zcd, ptrCells_some, F72, hand, hb, h11, hmin, hshr, hneg, hsub]
    rw [hu]
    exact ⟨rfl, hf, hR'⟩
  · have hu : unzz n = ((n / 2 : Nat) : Int) := by unfold unzz; rw [if_neg h2]
    have hb : (((n % 2 : Nat) : Int) == 1) = false := by rw [beq_eq_false_iff_ne]; omega
    simp only [WW, partV, eqCells, eqLf, minV, maxV, ifcV, zaa, zab, zac, zad, zae, zaf, zag, zah, zai, ofConst, ofConst1, List.replicate, zaj, zak, loadOp, Go.Abs.loadCells, binV, zal, pickV, zam, zan, zao, zap, zaq, zar, zas, zat, zau, outR, resAll, resOne, zav, zaw, zax, zay, zaz, zba, zbb, zbc, zbd, zbe, zbf, zbg, zbh, zbi, zbj, zbk, storeOp, storeCell, overlay, zbl, zbm, zbn, lookupOp, keyT, okRes, mapUpdateOp, zbo, zbp, zbq, zbr, zbs, zbt, zbu, Nat.reduceSub, Nat.reduceAdd, Int.reduceLT, Int.reduceLE, Int.reduceAdd, Int.reduceSub, Int.reduceToNat, Int.reduceBEq, Int.reduceBNe, Int.reduceMul, Nat.reduceBEq, Nat.reduceBNe, Nat.reduceLT, Nat.reduceLeDiff, Nat.reduceMul, Nat.reduceEqDiff, WD, effB, effH, isPriv, isHeap, isImm, zbx, zby, zbz, chkO, setD, dslot, zca, zcb, zcc, zcd, ptrCells_some, F72, hand, hb, h11, hmin, hshr]
    rw [hu]
    exact ⟨rfl, hf, hR'⟩
theorem countR {H : Hp} {w : Nat} {x : V} {L : List Nat} {s : S} (hR : Rr H w x L s) (hL : ∀ y ∈ L, y < 256) (hlen : L.length ≤ 5000000) :
    wpCall EW 67 [.ptr w 0 0] H (fun out H' => out = .ret (.int .i64 ((count L s).1 : Nat)) false ∧ Ff w H H' ∧ Rr H' w x L (count L s).2) := by
  have hn := num_lt hL s
  have hb0 := hR.b
  simp only [rdr] at hb0
  have hs := hR.o
  refine runs f67 b67 r67 n67 _ _ ?_
  simp only [bodyOf, Tryd.f67, Option.getD_some]
  simp only [WW, partV, eqCells, eqLf, minV, maxV, ifcV, zaa, zab, zac, zad, zae, zaf, zag, zah, zai, ofConst, ofConst1, List.replicate, zaj, zak, loadOp, Go.Abs.loadCells, binV, zal, pickV, zam, zan, zao, zap, zaq, zar, zas, zat, zau, outR, resAll, resOne, zav, zaw, zax, zay, zaz, zba, zbb, zbc, zbd, zbe, zbf, zbg, zbh, zbi, zbj, zbk, storeOp, storeCell, overlay, zbl, zbm, zbn, lookupOp, keyT, okRes, mapUpdateOp, zbo, zbp, zbq, zbr, zbs, zbt, zbu, Nat.reduceSub, Nat.reduceAdd, Int.reduceLT, Int.reduceLE, Int.reduceAdd, Int.reduceSub, Int.reduceToNat, Int.reduceBEq, Int.reduceBNe, Int.reduceMul, Nat.reduceBEq, Nat.reduceBNe, Nat.reduceLT, Nat.reduceLeDiff, Nat.reduceMul, Nat.reduceEqDiff, WD, effB, effH, isPriv, isHeap, isImm, zbx, zby, zbz, chkO, setD, dslot, zca, zcb, zcc, zcd, ptrCells_some, F67, hb0]
  refine wpCall_of (numR hR hL hlen) ?_
  rintro out H' ⟨rfl, hf, hR'⟩
  unfold count
  have ho := hR'.o
  have hb := hR'.b
  simp only [rdr] at hb
  generalize num L s = r at *
  obtain ⟨n, q, e⟩ := r
  simp only at *
  have hx := hR'.rd
  have hql : q ≤ L.length := ho
  have hw1 : IntKind.i64.wrap (((bs L).length : Int) - (q : Int)) = (L.length : Int) - (q : Int) := by rw [bs_len]; exact IntWalk.i64_in _ (by omega)
  simp only [WW, partV, eqCells, eqLf, minV, maxV, ifcV, zaa, zab, zac, zad, zae, zaf, zag, zah, zai, ofConst, ofConst1, List.replicate, zaj, zak, loadOp, Go.Abs.loadCells, binV, zal, pickV, zam, zan, zao, zap, zaq, zar, zas, zat, zau, outR, resAll, resOne, zav, zaw, zax, zay, zaz, zba, zbb, zbc, zbd, zbe, zbf, zbg, zbh, zbi, zbj, zbk, storeOp, storeCell, overlay, zbl, zbm, zbn, lookupOp, keyT, okRes, mapUpdateOp, zbo, zbp, zbq, zbr, zbs, zbt, zbu, Nat.reduceSub, Nat.reduceAdd, Int.reduceLT, Int.reduceLE, Int.reduceAdd, Int.reduceSub, Int.reduceToNat, Int.reduceBEq, Int.reduceBNe, Int.reduceMul, Nat.reduceBEq, Nat.reduceBNe, Nat.reduceLT, Nat.reduceLeDiff, Nat.reduceMul, Nat.reduceEqDiff, WD, effB, effH, isPriv, isHeap, isImm, zbx, zby, zbz, chkO, setD, dslot, zca, zcb, zcc, zcd, ptrCells_some, F67]
  refine wC_dr alts67_3 (by kernel_rfl) ?_
  have hfail := failR hR' 3 s.at_
  have h3c : ((3 : Nat) : Int) = 3 := rfl
  rw [h3c] at hfail
  have hff := failS_ok (s := ⟨q, e⟩) (e := 3) (p := s.at_) hR'.o hs
  by_cases hd : L.length - q < n
  · have g : decide ((L.length : Int) - (q : Int) < (n : Int)) = true := decide_eq_true (by omega)
    have hc : countOf L s.at_ (n, ⟨q, e⟩) = (0, failS ⟨q, e⟩ 3 s.at_) := by simp only [countOf, decide_eq_true hd]
    simp only [WW, partV, eqCells, eqLf, minV, maxV, ifcV, zaa, zab, zac, zad, zae, zaf, zag, zah, zai, ofConst, ofConst1, List.replicate, zaj, zak, loadOp, Go.Abs.loadCells, binV, zal, pickV, zam, zan, zao, zap, zaq, zar, zas, zat, zau, outR, resAll, resOne, zav, zaw, zax, zay, zaz, zba, zbb, zbc, zbd, zbe, zbf, zbg, zbh, zbi, zbj, zbk, storeOp, storeCell, overlay, zbl, zbm, zbn, lookupOp, keyT, okRes, mapUpdateOp, zbo, zbp, zbq, zbr, zbs, zbt, zbu, Nat.reduceSub, Nat.reduceAdd, Int.reduceLT, Int.reduceLE, Int.reduceAdd, Int.reduceSub, Int.reduceToNat, Int.reduceBEq, Int.reduceBNe, Int.reduceMul, Nat.reduceBEq, Nat.reduceBNe, Nat.reduceLT, Nat.reduceLeDiff, Nat.reduceMul, Nat.reduceEqDiff, WD, effB, effH, isPriv, isHeap, isImm, zbx, zby, zbz, chkO, setD, dslot, zca, zcb, zcc, zcd, ptrCells_some, F67, hb, hx.shutIn, hx.len, hw1, g, alts67_3]
    rw [wpCall_eq hfail, hc]
    have hR2 := hR'.to hff
    have hb2 := hR2.b
    simp only [rdr] at hb2
    have hne : ((((failS ⟨q, e⟩ 3 s.at_).e : Nat) : Int) != 0) = true := by
      unfold failS
      cases e with
      | zero => rfl
      | succ e1 => simp only [bne_iff_ne, ne_eq]; omega
    simp only [WW, partV, eqCells, eqLf, minV, maxV, ifcV, zaa, zab, zac, zad, zae, zaf, zag, zah, zai, ofConst, ofConst1, List.replicate, zaj, zak, loadOp, Go.Abs.loadCells, binV, zal, pickV, zam, zan, zao, zap, zaq, zar, zas, zat, zau, outR, resAll, resOne, zav, zaw, zax, zay, zaz, zba, zbb, zbc, zbd, zbe, zbf, zbg, zbh, zbi, zbj, zbk, storeOp, storeCell, overlay, zbl, zbm, zbn, lookupOp, keyT, okRes, mapUpdateOp, zbo, zbp, zbq, zbr, zbs, zbt, zbu, Nat.reduceSub, Nat.reduceAdd, Int.reduceLT, Int.reduceLE, Int.reduceAdd, Int.reduceSub, Int.reduceToNat, Int.reduceBEq, Int.reduceBNe, Int.reduceMul, Nat.reduceBEq, Nat.reduceBNe, Nat.reduceLT, Nat.reduceLeDiff, Nat.reduceMul, Nat.reduceEqDiff, WD, effB, effH, isPriv, isHeap, isImm, zbx, zby, zbz, chkO, setD, dslot, zca, zcb, zcc, zcd, ptrCells_some, F67]
    have hb3 : (H'.set w (rdr x (failS ⟨q, e⟩ 3 s.at_)))[w]? = some (.cells [.agg [x, .int .i64 ((failS ⟨q, e⟩ 3 s.at_).at_ : Nat), .int .i64 ((failS ⟨q, e⟩ 3 s.at_).e : Nat)]]) := hR2.b
    simp only [WW, partV, eqCells, eqLf, minV, maxV, ifcV, zaa, zab, zac, zad, zae, zaf, zag, zah, zai, ofConst, ofConst1, List.replicate, zaj, zak, loadOp, Go.Abs.loadCells, binV, zal, pickV, zam, zan, zao, zap, zaq, zar, zas, zat, zau, outR, resAll, resOne, zav, zaw, zax, zay, zaz, zba, zbb, zbc, zbd, zbe, zbf, zbg, zbh, zbi, zbj, zbk, storeOp, storeCell, overlay, zbl, zbm, zbn, lookupOp, keyT, okRes, mapUpdateOp, zbo, zbp, zbq, zbr, zbs, zbt, zbu, Nat.reduceSub, Nat.reduceAdd, Int.reduceLT, Int.reduceLE, Int.reduceAdd, Int.reduceSub, Int.reduceToNat, Int.reduceBEq, Int.reduceBNe, Int.reduceMul, Nat.reduceBEq, Nat.reduceBNe, Nat.reduceLT, Nat.reduceLeDiff, Nat.reduceMul, Nat.reduceEqDiff, WD, effB, effH, isPriv, isHeap, isImm, zbx, zby, zbz, chkO, setD, dslot, zca, zcb, zcc, zcd, ptrCells_some, F67, hb3, hne]
    exact ⟨rfl, hf.trans (Ff.set _), hR2⟩
  · have g : decide ((L.length : Int) - (q : Int) < (n : Int)) = false := decide_eq_false (by omega)
    simp only [WW, partV, eqCells, eqLf, minV, maxV, ifcV, zaa, zab, zac, zad, zae, zaf, zag, zah, zai, ofConst, ofConst1, List.replicate, zaj, zak, loadOp, Go.Abs.loadCells, binV, zal, pickV, zam, zan, zao, zap, zaq, zar, zas, zat, zau, outR, resAll, resOne, zav, zaw, zax, zay, zaz, zba, zbb, zbc, zbd, zbe, zbf, zbg, zbh, zbi, zbj, zbk, storeOp, storeCell, overlay, zbl, zbm, zbn, lookupOp, keyT, okRes, mapUpdateOp, zbo, zbp, zbq, zbr, zbs, zbt, zbu, Nat.reduceSub, Nat.reduceAdd, Int.reduceLT, Int.reduceLE, Int.reduceAdd, Int.reduceSub, Int.reduceToNat, Int.reduceBEq, Int.reduceBNe, Int.reduceMul, Nat.reduceBEq, Nat.reduceBNe, Nat.reduceLT, Nat.reduceLeDiff, Nat.reduceMul, Nat.reduceEqDiff, WD, effB, effH, isPriv, isHeap, isImm, zbx, zby, zbz, chkO, setD, dslot, zca, zcb, zcc, zcd, ptrCells_some, F67, hb, hx.shutIn, hx.len, hw1, g, alts67_3]
    cases e with
    | zero =>
      have hc : countOf L s.at_ (n, ⟨q, 0⟩) = (n, ⟨q, 0⟩) := by simp only [countOf, decide_eq_false hd]
      rw [hc]
      have h01 : (((0 : Nat) : Int) != 0) = false := rfl
      simp only [WW, partV, eqCells, eqLf, minV, maxV, ifcV, zaa, zab, zac, zad, zae, zaf, zag, zah, zai, ofConst, ofConst1, List.replicate, zaj, zak, loadOp, Go.Abs.loadCells, binV, zal, pickV, zam, zan, zao, zap, zaq, zar, zas, zat, zau, outR, resAll, resOne, zav, zaw, zax, zay, zaz, zba, zbb, zbc, zbd, zbe, zbf, zbg, zbh, zbi, zbj, zbk, storeOp, storeCell, overlay, zbl, zbm, zbn, lookupOp, keyT, okRes, mapUpdateOp, zbo, zbp, zbq, zbr, zbs, zbt, zbu, Nat.reduceSub, Nat.reduceAdd, Int.reduceLT, Int.reduceLE, Int.reduceAdd, Int.reduceSub, Int.reduceToNat, Int.reduceBEq, Int.reduceBNe, Int.reduceMul, Nat.reduceBEq, Nat.reduceBNe, Nat.reduceLT, Nat.reduceLeDiff, Nat.reduceMul, Nat.reduceEqDiff, WD, effB, effH, isPriv, isHeap, isImm, zbx, zby, zbz, chkO, setD, dslot, zca, zcb, zcc, zcd, ptrCells_some, F67, h01, hb]
      exact ⟨hf, hR'⟩
    | succ e1 =>
      have hc : countOf L s.at_ (n, ⟨q, e1 + 1⟩) = (0, ⟨q, e1 + 1⟩) := by simp only [countOf, decide_eq_false hd]
      rw [hc]
      have h01 : (((e1 + 1 : Nat) : Int) != 0) = true := by simp only [bne_iff_ne, ne_eq]; omega
      simp only [WW, partV, eqCells, eqLf, minV, maxV, ifcV, zaa, zab, zac, zad, zae, zaf, zag, zah, zai, ofConst, ofConst1, List.replicate, zaj, zak, loadOp, Go.Abs.loadCells, binV, zal, pickV, zam, zan, zao, zap, zaq, zar, zas, zat, zau, outR, resAll, resOne, zav, zaw, zax, zay, zaz, zba, zbb, zbc, zbd, zbe, zbf, zbg, zbh, zbi, zbj, zbk, storeOp, storeCell, overlay, zbl, zbm, zbn, lookupOp, keyT, okRes, mapUpdateOp, zbo, zbp, zbq, zbr, zbs, zbt, zbu, Nat.reduceSub, Nat.reduceAdd, Int.reduceLT, Int.reduceLE, Int.reduceAdd, Int.reduceSub, Int.reduceToNat, Int.reduceBEq, Int.reduceBNe, Int.reduceMul, Nat.reduceBEq, Nat.reduceBNe, Nat.reduceLT, Nat.reduceLeDiff, Nat.reduceMul, Nat.reduceEqDiff, WD, effB, effH, isPriv, isHeap, isImm, zbx, zby, zbz, chkO, setD, dslot, zca, zcb, zcc, zcd, ptrCells_some, F67, h01, hb]
      exact ⟨rfl, hf, hR'⟩
/-- A list that a function makes anew -/
def Own (H : Hp) (n0 : Nat) (y : V) (l : List V) : Prop := (y = .nils ∧ l = []) ∨ ∃ s, y = .sl s 0 l.length ∧ n0 ≤ s ∧ H[s]? = some (.cells l) ∧ l ≠ []
theorem Own.shut {H : Hp} {n0 : Nat} {y : V} {l : List V} (h : Own H n0 y l) (st : St) : sealV st y = y := by
  rcases h with ⟨rfl, _⟩ | ⟨s, rfl, _⟩ <;> rfl
theorem Own.clip2 {H : Hp} {n0 : Nat} {y : V} {l : List V} (h : Own H n0 y l) (a b : Nat) : clip a b (.v y) = .v y := by
  rcases h with ⟨rfl, _⟩ | ⟨s, rfl, _⟩ <;> rfl
theorem Own.grows {H : Hp} {n0 : Nat} {y : V} {l : List V} (h : Own H n0 y l) (r : List LRow) : growsAs r (.v y) = false := by
  rcases h with ⟨rfl, _⟩ | ⟨s, rfl, _⟩ <;> rfl
theorem Own.mov {H H' : Hp} {n0 w : Nat} {y : V} {l : List V} (h : Own H n0 y l) (hw : w < n0) (hf : Ff w H H') : Own H' n0 y l := by
  rcases h with h | ⟨s, h1, h2, h3, h4⟩
  · exact .inl h
  · exact .inr ⟨s, h1, h2, by rw [hf.2 s (List.getElem?_eq_some_iff.1 h3).1 (by omega)]; exact h3, h4⟩
theorem own_app {e : TypeId} {sz : Nat} {H : Hp} {n0 : Nat} {y v : V} {l : List V} {d : Option Nat} (hsz : sizeT Tryd.prog e = sz) (hy : Own H n0 y l) (hn : n0 ≤ H.length) (hv : v.width = sz) (hl : wideAll l sz = true) (hel : elemOk Tryd.prog e (l.length + 1) = true) :
    ∃ y' H', (∀ st, appendOp Tryd.prog .heap st H d e y [v] = some (putS st d (.v y'), H')) ∧ Own H' n0 y' (l ++ [v]) ∧ H.length ≤ H'.length ∧ ∀ i, i < n0 → H'[i]? = H[i]? := by
  have hw1 : wideAll [v] sz = true := by simp [wideAll, hv]
  rcases hy with ⟨rfl, rfl⟩ | ⟨s, rfl, h2, h3, h4⟩
  · refine ⟨.sl H.length 0 1, H ++ [.cells [v]], fun st => ?_, .inr ⟨H.length, rfl, hn, by simp, by simp⟩, by simp, fun i hi => List.getElem?_append_left (by omega)⟩
    have hel : elemOk Tryd.prog e 1 = true := by simpa using hel
    simp [appendOp, hsz, hw1, newSl, hel]
  · have hsl := (List.getElem?_eq_some_iff.1 h3).1
    have he : l.isEmpty = false := by cases l <;> simp_all
    refine ⟨.sl H.length 0 (l.length + 1), H.set s .dead ++ [.cells (l ++ [v])], fun st => ?_, .inr ⟨H.length, by simp, by omega, by rw [List.getElem?_append_right (by simp)]; simp, by simp⟩, by simp, fun i hi => ?_⟩
    · simp [appendOp, hsz, hw1, h3, appendSl, hl, he, hel]
      omega
    · rw [List.getElem?_append_left (by simp; omega), List.getElem?_set_ne (by omega)]
/-- A list as a value that is written to no more -/
def repL (l : List V) : V := match l with | [] => .nils | a :: r => .rsl (a :: r)
theorem repL_rd (l : List V) : RdA (repL l) l := fun H => by
  cases l with
  | nil => exact .nils
  | cons a r => exact .rsl _
theorem repL_shut (l : List V) (st : St) : sealV st (repL l) = repL l := by cases l <;> rfl
theorem repL_cells (l : List V) : (repL l).cells = [repL l] := by cases l <;> rfl
theorem repL_ok (l : List V) : okV (repL l) = true := by cases l <;> rfl
theorem repL_width (l : List V) : (repL l).width = 1 := by cases l <;> rfl
theorem repL_clip (l : List V) (n : Nat) : clipV n (repL l) = repL l := by cases l <;> rfl
theorem repL_grows (l : List V) (r : List LRow) : growsAs r (.v (repL l)) = false := by cases l <;> rfl
theorem repL_prom (l : List V) (st : St) (H : Hp) : promote st H (repL l) = some (repL l, st, H) := by cases l <;> rfl
theorem own_seal {H : Hp} {n0 w : Nat} {y : V} {l : List V} (h : Own H n0 y l) (hw : w < n0) : ∃ H2, sealH .imm y H = (repL l, H2) ∧ H2.length = H.length ∧ H2[w]? = H[w]? ∧ ∀ i, i < n0 → H2[i]? = H[i]? := by
  rcases h with ⟨rfl, rfl⟩ | ⟨s, rfl, h2, h3, h4⟩
  · exact ⟨H, rfl, rfl, rfl, fun _ _ => rfl⟩
  · refine ⟨H.set s .dead, ?_, by simp, List.getElem?_set_ne (by omega), fun i hi => List.getElem?_set_ne (by omega)⟩
    rw [sealH_sl h3 rfl]
    cases l with
    | nil => exact absurd rfl h4
    | cons a r => rfl
/-- After a list was read and is written to no more -/
theorem own_done {H H' : Hp} {w : Nat} {x y : V} {L : List Nat} {s : S} {l : List V} (hf : Ff w H H') (hw : w < H.length) (hx : ∀ H', Ff w H H' → RdB H' x L) (hR : Rr H' w x L s) (h : Own H' H.length y l) :
    ∃ H2, sealH .imm y H' = (repL l, H2) ∧ Ff w H H2 ∧ Rr H2 w x L s := by
  obtain ⟨H2, h1, h2, h3, h4⟩ := own_seal h hw
  have hf2 : Ff w H H2 := ⟨by rw [h2]; exact hf.1, fun i hi hne => by rw [h4 i hi]; exact hf.2 i hi hne⟩
  exact ⟨H2, h1, hf2, ⟨h3.trans hR.b, fun H3 h => hx H3 (hf2.trans h), hR.o⟩⟩
theorem allR42 {α : Type} {H : Hp} {w : Nat} {x : V} {L : List Nat} {s : S} {fa : FuncId} {fb fc : List V} (f : S → α × S) (rep : α → V) (hrs : ∀ a st, sealV st (rep a) = rep a) (hro : ∀ a, okV (rep a) = true) (hrw : ∀ a, (rep a).width = 1) (hcf : callable Tryd.prog fa = true)
    (hR : Rr H w x L s) (hL : ∀ y ∈ L, y < 256) (hlen : L.length ≤ 5000000)
    (hE : ∀ (H1 : Hp) (s1 : S), Ff w H H1 → Rr H1 w x L s1 → wpCall EW fa (fb ++ fc) H1 (fun out H2 => out = .ret (rep (f s1).1) false ∧ Ff w H1 H2 ∧ Rr H2 w x L (f s1).2)) :
    wpCall EW 42 [.ptr w 0 0, .fn fa fb fc] H (fun out H' => ∃ y, out = .ret y false ∧ Ff w H H' ∧ Rr H' w x L (allS L f s).2 ∧ Own H' H.length y ((allS L f s).1.map rep)) := by
  have hcl := count_le hR.o
  have hwl := hR.lt
  refine runs f42 b42 r42 n42 _ _ ?_
  simp only [bodyOf, Tryd.f42, Option.getD_some]
  simp only [WW, partV, eqCells, eqLf, minV, maxV, ifcV, zaa, zab, zac, zad, zae, zaf, zag, zah, zai, ofConst, ofConst1, List.replicate, zaj, zak, loadOp, Go.Abs.loadCells, binV, zal, pickV, zam, zan, zao, zap, zaq, zar, zas, zat, zau, outR, resAll, resOne, zav, zaw, zax, zay, zaz, zba, zbb, zbc, zbd, zbe, zbf, zbg, zbh, zbi, zbj, zbk, storeOp, storeCell, overlay, zbl, zbm, zbn, lookupOp, keyT, okRes, mapUpdateOp, zbo, zbp, zbq, zbr, zbs, zbt, zbu, Nat.reduceSub, Nat.reduceAdd, Int.reduceLT, Int.reduceLE, Int.reduceAdd, Int.reduceSub, Int.reduceToNat, Int.reduceBEq, Int.reduceBNe, Int.reduceMul, Nat.reduceBEq, Nat.reduceBNe, Nat.reduceLT, Nat.reduceLeDiff, Nat.reduceMul, Nat.reduceEqDiff, WD, effB, effH, isPriv, isHeap, isImm, zbx, zby, zbz, chkO, setD, dslot, zca, zcb, zcc, zcd, ptrCells_some, F42]
  refine wpCall_of (countR hR hL hlen) ?_
  rintro out H0 ⟨rfl, hf0, hR0⟩
  simp only [WW, partV, eqCells, eqLf, minV, maxV, ifcV, zaa, zab, zac, zad, zae, zaf, zag, zah, zai, ofConst, ofConst1, List.replicate, zaj, zak, loadOp, Go.Abs.loadCells, binV, zal, pickV, zam, zan, zao, zap, zaq, zar, zas, zat, zau, outR, resAll, resOne, zav, zaw, zax, zay, zaz, zba, zbb, zbc, zbd, zbe, zbf, zbg, zbh, zbi, zbj, zbk, storeOp, storeCell, overlay, zbl, zbm, zbn, lookupOp, keyT, okRes, mapUpdateOp, zbo, zbp, zbq, zbr, zbs, zbt, zbu, Nat.reduceSub, Nat.reduceAdd, Int.reduceLT, Int.reduceLE, Int.reduceAdd, Int.reduceSub, Int.reduceToNat, Int.reduceBEq, Int.reduceBNe, Int.reduceMul, Nat.reduceBEq, Nat.reduceBNe, Nat.reduceLT, Nat.reduceLeDiff, Nat.reduceMul, Nat.reduceEqDiff, WD, effB, effH, isPriv, isHeap, isImm, zbx, zby, zbz, chkO, setD, dslot, zca, zcb, zcc, zcd, ptrCells_some, F42]
  refine wC_loop _ (fun k st' H' => ∃ (n : Nat) (s1 : S) (acc : List α) (y : V), st' = ⟨L42_3 (.v (.ptr w 0 0)) (.v (.fn fa fb fc)) (.v y) (.v (.int .i64 n)), [], []⟩ ∧ k = n ∧ Ff w H H' ∧ Rr H' w x L s1 ∧ Own H' H.length y (acc.map rep) ∧ acc ++ (allG f n s1).1 = (allS L f s).1 ∧ (allG f n s1).2 = (allS L f s).2 ∧ acc.length + n ≤ 5000000) (count L s).1 ⟨(count L s).1, (count L s).2, [], .nils, ?_, rfl, hf0, hR0, .inl ⟨rfl, rfl⟩, rfl, rfl, by simp only [List.length_nil]; omega⟩ ?_
  · simp only [WN, firstReg, growAll, zbv, zbw, norm, killS, zag, zah, zaa, zab, zbl, zat, zad, growOne, zae, zaf, zac, zas, zak, Nat.reduceLT, Nat.reduceAdd, zbj, zav, F42, L42_3]
  · rintro k st' H' ⟨n, s1, acc, y, rfl, rfl, hf, hR', hO, hl1, hl2, hle⟩
    simp only [L42_3]
    have hb := hR'.b
    simp only [rdr] at hb
    cases k with
    | zero =>
      have g0 : decide ((0 : Int) < ((0 : Nat) : Int)) = false := rfl
      simp only [allG, List.append_nil] at hl1 hl2
      simp only [WW, partV, eqCells, eqLf, minV, maxV, ifcV, zaa, zab, zac, zad, zae, zaf, zag, zah, zai, ofConst, ofConst1, List.replicate, zaj, zak, loadOp, Go.Abs.loadCells, binV, zal, pickV, zam, zan, zao, zap, zaq, zar, zas, zat, zau, outR, resAll, resOne, zav, zaw, zax, zay, zaz, zba, zbb, zbc, zbd, zbe, zbf, zbg, zbh, zbi, zbj, zbk, storeOp, storeCell, overlay, zbl, zbm, zbn, lookupOp, keyT, okRes, mapUpdateOp, zbo, zbp, zbq, zbr, zbs, zbt, zbu, Nat.reduceSub, Nat.reduceAdd, Int.reduceLT, Int.reduceLE, Int.reduceAdd, Int.reduceSub, Int.reduceToNat, Int.reduceBEq, Int.reduceBNe, Int.reduceMul, Nat.reduceBEq, Nat.reduceBNe, Nat.reduceLT, Nat.reduceLeDiff, Nat.reduceMul, Nat.reduceEqDiff, WD, effB, effH, isPriv, isHeap, isImm, zbx, zby, zbz, chkO, setD, dslot, zca, zcb, zcc, zcd, ptrCells_some, F42, g0, hO.shut, hO.grows]
      rw [← hl2, ← hl1]
      exact ⟨y, rfl, hf, hR', hO⟩
    | succ n =>
      have g1 : decide ((0 : Int) < ((n + 1 : Nat) : Int)) = true := decide_eq_true (by omega)
      cases he : s1.e with
      | succ e1 =>
        rw [he] at hb
        have g2 : (((e1 + 1 : Nat) : Int) == 0) = false := by rw [beq_eq_false_iff_ne]; omega
        simp only [allG, he, List.append_nil] at hl1 hl2
        simp only [WW, partV, eqCells, eqLf, minV, maxV, ifcV, zaa, zab, zac, zad, zae, zaf, zag, zah, zai, ofConst, ofConst1, List.replicate, zaj, zak, loadOp, Go.Abs.loadCells, binV, zal, pickV, zam, zan, zao, zap, zaq, zar, zas, zat, zau, outR, resAll, resOne, zav, zaw, zax, zay, zaz, zba, zbb, zbc, zbd, zbe, zbf, zbg, zbh, zbi, zbj, zbk, storeOp, storeCell, overlay, zbl, zbm, zbn, lookupOp, keyT, okRes, mapUpdateOp, zbo, zbp, zbq, zbr, zbs, zbt, zbu, Nat.reduceSub, Nat.reduceAdd, Int.reduceLT, Int.reduceLE, Int.reduceAdd, Int.reduceSub, Int.reduceToNat, Int.reduceBEq, Int.reduceBNe, Int.reduceMul, Nat.reduceBEq, Nat.reduceBNe, Nat.reduceLT, Nat.reduceLeDiff, Nat.reduceMul, Nat.reduceEqDiff, WD, effB, effH, isPriv, isHeap, isImm, zbx, zby, zbz, chkO, setD, dslot, zca, zcb, zcc, zcd, ptrCells_some, F42, g1, g2, hb, hO.shut, hO.grows]
        rw [← hl2, ← hl1]
        exact ⟨y, rfl, hf, hR', hO⟩
      | zero =>
        rw [he] at hb
        have g2 : (((0 : Nat) : Int) == 0) = true := rfl
        simp only [allG, he] at hl1 hl2
        simp only [WW, partV, eqCells, eqLf, minV, maxV, ifcV, zaa, zab, zac, zad, zae, zaf, zag, zah, zai, ofConst, ofConst1, List.replicate, zaj, zak, loadOp, Go.Abs.loadCells, binV, zal, pickV, zam, zan, zao, zap, zaq, zar, zas, zat, zau, outR, resAll, resOne, zav, zaw, zax, zay, zaz, zba, zbb, zbc, zbd, zbe, zbf, zbg, zbh, zbi, zbj, zbk, storeOp, storeCell, overlay, zbl, zbm, zbn, lookupOp, keyT, okRes, mapUpdateOp, zbo, zbp, zbq, zbr, zbs, zbt, zbu, Nat.reduceSub, Nat.reduceAdd, Int.reduceLT, Int.reduceLE, Int.reduceAdd, Int.reduceSub, Int.reduceToNat, Int.reduceBEq, Int.reduceBNe, Int.reduceMul, Nat.reduceBEq, Nat.reduceBNe, Nat.reduceLT, Nat.reduceLeDiff, Nat.reduceMul, Nat.reduceEqDiff, WD, effB, effH, isPriv, isHeap, isImm, zbx, zby, zbz, chkO, setD, dslot, zca, zcb, zcc, zcd, ptrCells_some, F42, g1, g2, hb]
        refine ⟨hcf, wpCall_of (hE H' s1 hf hR') ?_⟩
        rintro out H2 ⟨rfl, hf2, hR2⟩
        have hO2 := hO.mov hwl hf2
        have hwd : wideAll (acc.map rep) 1 = true := wide_mapN hrw acc
        obtain ⟨y3, H3, ha, hO3, hl3, hk3⟩ := own_app (d := some 24) (e := 9) (v := rep (f s1).1) size9 hO2 (by have := (hf.trans hf2).1; omega) (hrw _) hwd (by rw [room9, List.length_map]; simp; omega)
        have hrow : wideAll [rep (f s1).1] 1 = true := by simp [wideAll, hrw]
        have hrc : (rep (f s1).1).cells.length = 1 := hrw _
        have hsub : IntKind.i64.wrap (((n + 1 : Nat) : Int) - 1) = (n : Int) := by rw [IntWalk.i64_in _ (by omega)]; omega
        simp only [WW, partV, eqCells, eqLf, minV, maxV, ifcV, zaa, zab, zac, zad, zae, zaf, zag, zah, zai, ofConst, ofConst1, List.replicate, zaj, zak, loadOp, Go.Abs.loadCells, binV, zal, pickV, zam, zan, zao, zap, zaq, zar, zas, zat, zau, outR, resAll, resOne, zav, zaw, zax, zay, zaz, zba, zbb, zbc, zbd, zbe, zbf, zbg, zbh, zbi, zbj, zbk, storeOp, storeCell, overlay, zbl, zbm, zbn, lookupOp, keyT, okRes, mapUpdateOp, zbo, zbp, zbq, zbr, zbs, zbt, zbu, Nat.reduceSub, Nat.reduceAdd, Int.reduceLT, Int.reduceLE, Int.reduceAdd, Int.reduceSub, Int.reduceToNat, Int.reduceBEq, Int.reduceBNe, Int.reduceMul, Nat.reduceBEq, Nat.reduceBNe, Nat.reduceLT, Nat.reduceLeDiff, Nat.reduceMul, Nat.reduceEqDiff, WD, effB, effH, isPriv, isHeap, isImm, zbx, zby, zbz, chkO, setD, dslot, zca, zcb, zcc, zcd, ptrCells_some, F42, hrs, hro, hrw, hrc, buildSliceV, lits, srcV_eq, srcK_sl, srcK_str, srcSl_nils, srcSl_rsl, srcSl_sl, frow, zbv, zbw, List.all_nil, List.all_cons, rowV, Bool.false_and, Bool.and_false, ne_eq, not_false_eq_true, grows_lr, callOut_t, hO.shut, hO2.shut, ha, hsub]
        have hf3 : Ff w H H3 := ⟨by have := (hf.trans hf2).1; omega, fun i h1 h2 => by rw [hk3 i h1]; exact (hf.trans hf2).2 i h1 h2⟩
        refine ⟨n, by omega, n, (f s1).2, acc ++ [(f s1).1], y3, ?_, rfl, hf3, ?_, by rw [List.map_append]; exact hO3, by rw [List.append_assoc]; exact hl1, hl2, by simp; omega⟩
        · simp only [WN, firstReg, growAll, zbv, zbw, norm, killS, zag, zah, zaa, zab, zbl, zat, zad, growOne, zae, zaf, zac, zas, zak, Nat.reduceLT, Nat.reduceAdd, zbj, zav, F42, hO3.clip2, hsub]
          try rfl
        · exact ⟨by rw [hk3 w hwl]; exact hR2.b, fun H4 h4 => hR.r H4 (hf3.trans h4), hR2.o⟩
theorem allR44 {α : Type} {H : Hp} {w : Nat} {x : V} {L : List Nat} {s : S} {fa : FuncId} {fb fc : List V} (f : S → α × S) (rep : α → V) (hrs : ∀ a st, sealV st (rep a) = rep a) (hro : ∀ a, okV (rep a) = true) (hrw : ∀ a, (rep a).width = 1) (hcf : callable Tryd.prog fa = true)
    (hR : Rr H w x L s) (hL : ∀ y ∈ L, y < 256) (hlen : L.length ≤ 5000000)
    (hE : ∀ (H1 : Hp) (s1 : S), Ff w H H1 → Rr H1 w x L s1 → wpCall EW fa (fb ++ fc) H1 (fun out H2 => out = .ret (rep (f s1).1) false ∧ Ff w H1 H2 ∧ Rr H2 w x L (f s1).2)) :
    wpCall EW 44 [.ptr w 0 0, .fn fa fb fc] H (fun out H' => ∃ y, out = .ret y false ∧ Ff w H H' ∧ Rr H' w x L (allS L f s).2 ∧ Own H' H.length y ((allS L f s).1.map rep)) := by
  have hcl := count_le hR.o
  have hwl := hR.lt
  refine runs f44 b44 r44 n44 _ _ ?_
  simp only [bodyOf, Tryd.f44, Option.getD_some]
  simp only [WW, partV, eqCells, eqLf, minV, maxV, ifcV, zaa, zab, zac, zad, zae, zaf, zag, zah, zai, ofConst, ofConst1, List.replicate, zaj, zak, loadOp, Go.Abs.loadCells, binV, zal, pickV, zam, zan, zao, zap, zaq, zar, zas, zat, zau, outR, resAll, resOne, zav, zaw, zax, zay, zaz, zba, zbb, zbc, zbd, zbe, zbf, zbg, zbh, zbi, zbj, zbk, storeOp, storeCell, overlay, zbl, zbm, zbn, lookupOp, keyT, okRes, mapUpdateOp, zbo, zbp, zbq, zbr, zbs, zbt, zbu, Nat.reduceSub, Nat.reduceAdd, Int.reduceLT, Int.reduceLE, Int.reduceAdd, Int.reduceSub, Int.reduceToNat, Int.reduceBEq, Int.reduceBNe, Int.reduceMul, Nat.reduceBEq, Nat.reduceBNe, Nat.reduceLT, Nat.reduceLeDiff, Nat.reduceMul, Nat.reduceEqDiff, WD, effB, effH, isPriv, isHeap, isImm, zbx, zby, zbz, chkO, setD, dslot, zca, zcb, zcc, zcd, ptrCells_some, F44]
  refine wpCall_of (countR hR hL hlen) ?_
  rintro out H0 ⟨rfl, hf0, hR0⟩
  simp only [WW, partV, eqCells, eqLf, minV, maxV, ifcV, zaa, zab, zac, zad, zae, zaf, zag, zah, zai, ofConst, ofConst1, List.replicate, zaj, zak, loadOp, Go.Abs.loadCells, binV, zal, pickV, zam, zan, zao, zap, zaq, zar, zas, zat, zau, outR, resAll, resOne, zav, zaw, zax, zay, zaz, zba, zbb, zbc, zbd, zbe, zbf, zbg, zbh, zbi, zbj, zbk, storeOp, storeCell, overlay, zbl, zbm, zbn, lookupOp, keyT, okRes, mapUpdateOp, zbo, zbp, zbq, zbr, zbs, zbt, zbu, Nat.reduceSub, Nat.reduceAdd, Int.reduceLT, Int.reduceLE, Int.reduceAdd, Int.reduceSub, Int.reduceToNat, Int.reduceBEq, Int.reduceBNe, Int.reduceMul, Nat.reduceBEq, Nat.reduceBNe, Nat.reduceLT, Nat.reduceLeDiff, Nat.reduceMul, Nat.reduceEqDiff, WD, effB, effH, isPriv, isHeap, isImm, zbx, zby, zbz, chkO, setD, dslot, zca, zcb, zcc, zcd, ptrCells_some, F44]
  refine wC_loop _ (fun k st' H' => ∃ (n : Nat) (s1 : S) (acc : List α) (y : V), st' = ⟨L44_3 (.v (.ptr w 0 0)) (.v (.fn fa fb fc)) (.v y) (.v (.int .i64 n)), [], []⟩ ∧ k = n ∧ Ff w H H' ∧ Rr H' w x L s1 ∧ Own H' H.length y (acc.map rep) ∧ acc ++ (allG f n s1).1 = (allS L f s).1 ∧ (allG f n s1).2 = (allS L f s).2 ∧ acc.length + n ≤ 5000000) (count L s).1 ⟨(count L s).1, (count L s).2, [], .nils, ?_, rfl, hf0, hR0, .inl ⟨rfl, rfl⟩, rfl, rfl, by simp only [List.length_nil]; omega⟩ ?_
  · simp only [WN, firstReg, growAll, zbv, zbw, norm, killS, zag, zah, zaa, zab, zbl, zat, zad, growOne, zae, zaf, zac, zas, zak, Nat.reduceLT, Nat.reduceAdd, zbj, zav, F44, L44_3]
  · rintro k st' H' ⟨n, s1, acc, y, rfl, rfl, hf, hR', hO, hl1, hl2, hle⟩
    simp only [L44_3]
    have hb := hR'.b
    simp only [rdr] at hb
    cases k with
    | zero =>
      have g0 : decide ((0 : Int) < ((0 : Nat) : Int)) = false := rfl
      simp only [allG, List.append_nil] at hl1 hl2
      simp only [WW, partV, eqCells, eqLf, minV, maxV, ifcV, zaa, zab, zac, zad, zae, zaf, zag, zah, zai, ofConst, ofConst1, List.replicate, zaj, zak, loadOp, Go.Abs.loadCells, binV, zal, pickV, zam, zan, zao, zap, zaq, zar, zas, zat, zau, outR, resAll, resOne, zav, zaw, zax, zay, zaz, zba, zbb, zbc, zbd, zbe, zbf, zbg, zbh, zbi, zbj, zbk, storeOp, storeCell, overlay, zbl, zbm, zbn, lookupOp, keyT, okRes, mapUpdateOp, zbo, zbp, zbq, zbr, zbs, zbt, zbu, Nat.reduceSub, Nat.reduceAdd, Int.reduceLT, Int.reduceLE, Int.reduceAdd, Int.reduceSub, Int.reduceToNat, Int.reduceBEq, Int.reduceBNe, Int.reduceMul, Nat.reduceBEq, Nat.reduceBNe, Nat.reduceLT, Nat.reduceLeDiff, Nat.reduceMul, Nat.reduceEqDiff, WD, effB, effH, isPriv, isHeap, isImm, zbx, zby, zbz, chkO, setD, dslot, zca, zcb, zcc, zcd, ptrCells_some, F44, g0, hO.shut, hO.grows]
      rw [← hl2, ← hl1]
      exact ⟨y, rfl, hf, hR', hO⟩
    | succ n =>
      have g1 : decide ((0 : Int) < ((n + 1 : Nat) : Int)) = true := decide_eq_true (by omega)
      cases he : s1.e with
      | succ e1 =>
        rw [he] at hb
        have g2 : (((e1 + 1 : Nat) : Int) == 0) = false := by rw [beq_eq_false_iff_ne]; omega
        simp only [allG, he, List.append_nil] at hl1 hl2
        simp only [WW, partV, eqCells, eqLf, minV, maxV, ifcV, zaa, zab, zac, zad, zae, zaf, zag, zah, zai, ofConst, ofConst1, List.replicate, zaj, zak, loadOp, Go.Abs.loadCells, binV, zal, pickV, zam, zan, zao, zap, zaq, zar, zas, zat, zau, outR, resAll, resOne, zav, zaw, zax, zay, zaz, zba, zbb, zbc, zbd, zbe, zbf, zbg, zbh, zbi, zbj, zbk, storeOp, storeCell, overlay, zbl, zbm, zbn, lookupOp, keyT, okRes, mapUpdateOp, zbo, zbp, zbq, zbr, zbs, zbt, zbu, Nat.reduceSub, Nat.reduceAdd, Int.reduceLT, Int.reduceLE, Int.reduceAdd, Int.reduceSub, Int.reduceToNat, Int.reduceBEq, Int.reduceBNe, Int.reduceMul, Nat.reduceBEq, Nat.reduceBNe, Nat.reduceLT, Nat.reduceLeDiff, Nat.reduceMul, Nat.reduceEqDiff, WD, effB, effH, isPriv, isHeap, isImm, zbx, zby, zbz, chkO, setD, dslot, zca, zcb, zcc, zcd, ptrCells_some, F44, g1, g2, hb, hO.shut, hO.grows]
        rw [← hl2, ← hl1]
        exact ⟨y, rfl, hf, hR', hO⟩
      | zero =>
        rw [he] at hb
        have g2 : (((0 : Nat) : Int) == 0) = true := rfl
        simp only [allG, he] at hl1 hl2
        simp only [WW, partV, eqCells, eqLf, minV, maxV, ifcV, zaa, zab, zac, zad, zae, zaf, zag, zah, zai, ofConst, ofConst1, List.replicate, zaj, zak, loadOp, Go.Abs.loadCells, binV, zal, pickV, zam, zan, zao, zap, zaq, zar, zas, zat, zau, outR, resAll, resOne, zav, zaw, zax, zay, zaz, zba, zbb, zbc, zbd, zbe, zbf, zbg, zbh, zbi, zbj, zbk, storeOp, storeCell, overlay, zbl, zbm, zbn, lookupOp, keyT, okRes, mapUpdateOp, zbo, zbp, zbq, zbr, zbs, zbt, zbu, Nat.reduceSub, Nat.reduceAdd, Int.reduceLT, Int.reduceLE, Int.reduceAdd, Int.reduceSub, Int.reduceToNat, Int.reduceBEq, Int.reduceBNe, Int.reduceMul, Nat.reduceBEq, Nat.reduceBNe, Nat.reduceLT, Nat.reduceLeDiff, Nat.reduceMul, Nat.reduceEqDiff, WD, effB, effH, isPriv, isHeap, isImm, zbx, zby, zbz, chkO, setD, dslot, zca, zcb, zcc, zcd, ptrCells_some, F44, g1, g2, hb]
        refine ⟨hcf, wpCall_of (hE H' s1 hf hR') ?_⟩
        rintro out H2 ⟨rfl, hf2, hR2⟩
        have hO2 := hO.mov hwl hf2
        have hwd : wideAll (acc.map rep) 1 = true := wide_mapN hrw acc
        obtain ⟨y3, H3, ha, hO3, hl3, hk3⟩ := own_app (d := some 24) (e := 45) (v := rep (f s1).1) size45 hO2 (by have := (hf.trans hf2).1; omega) (hrw _) hwd (by rw [room45, List.length_map]; simp; omega)
        have hrow : wideAll [rep (f s1).1] 1 = true := by simp [wideAll, hrw]
        have hrc : (rep (f s1).1).cells.length = 1 := hrw _
        have hsub : IntKind.i64.wrap (((n + 1 : Nat) : Int) - 1) = (n : Int) := by rw [IntWalk.i64_in _ (by omega)]; omega
        simp only [WW, partV, eqCells, eqLf, minV, maxV, ifcV, zaa, zab, zac, zad, zae, zaf, zag, zah, zai, ofConst, ofConst1, List.replicate, zaj, zak, loadOp, Go.Abs.loadCells, binV, zal, pickV, zam, zan, zao, zap, zaq, zar, zas, zat, zau, outR, resAll, resOne, zav, zaw, zax, zay, zaz, zba, zbb, zbc, zbd, zbe, zbf, zbg, zbh, zbi, zbj, zbk, storeOp, storeCell, overlay, zbl, zbm, zbn, lookupOp, keyT, okRes, mapUpdateOp, zbo, zbp, zbq, zbr, zbs, zbt, zbu, Nat.reduceSub, Nat.reduceAdd, Int.reduceLT, Int.reduceLE, Int.reduceAdd, Int.reduceSub, Int.reduceToNat, Int.reduceBEq, Int.reduceBNe, Int.reduceMul, Nat.reduceBEq, Nat.reduceBNe, Nat.reduceLT, Nat.reduceLeDiff, Nat.reduceMul, Nat.reduceEqDiff, WD, effB, effH, isPriv, isHeap, isImm, zbx, zby, zbz, chkO, setD, dslot, zca, zcb, zcc, zcd, ptrCells_some, F44, hrs, hro, hrw, hrc, buildSliceV, lits, srcV_eq, srcK_sl, srcK_str, srcSl_nils, srcSl_rsl, srcSl_sl, frow, zbv, zbw, List.all_nil, List.all_cons, rowV, Bool.false_and, Bool.and_false, ne_eq, not_false_eq_true, grows_lr, callOut_t, hO.shut, hO2.shut, ha, hsub]
        have hf3 : Ff w H H3 := ⟨by have := (hf.trans hf2).1; omega, fun i h1 h2 => by rw [hk3 i h1]; exact (hf.trans hf2).2 i h1 h2⟩
        refine ⟨n, by omega, n, (f s1).2, acc ++ [(f s1).1], y3, ?_, rfl, hf3, ?_, by rw [List.map_append]; exact hO3, by rw [List.append_assoc]; exact hl1, hl2, by simp; omega⟩
        · simp only [WN, firstReg, growAll, zbv, zbw, norm, killS, zag, zah, zaa, zab, zbl, zat, zad, growOne, zae, zaf, zac, zas, zak, Nat.reduceLT, Nat.reduceAdd, zbj, zav, F44, hO3.clip2, hsub]
          try rfl
        · exact ⟨by rw [hk3 w hwl]; exact hR2.b, fun H4 h4 => hR.r H4 (hf3.trans h4), hR2.o⟩
theorem allR46 {α : Type} {H : Hp} {w : Nat} {x : V} {L : List Nat} {s : S} {fa : FuncId} {fb fc : List V} (f : S → α × S) (rep : α → V) (hrs : ∀ a st, sealV st (rep a) = rep a) (hro : ∀ a, okV (rep a) = true) (hrw : ∀ a, (rep a).width = 1) (hcf : callable Tryd.prog fa = true)
    (hR : Rr H w x L s) (hL : ∀ y ∈ L, y < 256) (hlen : L.length ≤ 5000000)
    (hE : ∀ (H1 : Hp) (s1 : S), Ff w H H1 → Rr H1 w x L s1 → wpCall EW fa (fb ++ fc) H1 (fun out H2 => out = .ret (rep (f s1).1) false ∧ Ff w H1 H2 ∧ Rr H2 w x L (f s1).2)) :
    wpCall EW 46 [.ptr w 0 0, .fn fa fb fc] H (fun out H' => ∃ y, out = .ret y false ∧ Ff w H H' ∧ Rr H' w x L (allS L f s).2 ∧ Own H' H.length y ((allS L f s).1.map rep)) := by
  have hcl := count_le hR.o
  have hwl := hR.lt
  refine runs f46 b46 r46 n46 _ _ ?_
  simp only [bodyOf, Tryd.f46, Option.getD_some]
  simp only [WW, partV, eqCells, eqLf, minV, maxV, ifcV, zaa, zab, zac, zad, zae, zaf, zag, zah, zai, ofConst, ofConst1, List.replicate, zaj, zak, loadOp, Go.Abs.loadCells, binV, zal, pickV, zam, zan, zao, zap, zaq, zar, zas, zat, zau, outR, resAll, resOne, zav, zaw, zax, zay, zaz, zba, zbb, zbc, zbd, zbe, zbf, zbg, zbh, zbi, zbj, zbk, storeOp, storeCell, overlay, zbl, zbm, zbn, lookupOp, keyT, okRes, mapUpdateOp, zbo, zbp, zbq, zbr, zbs, zbt, zbu, Nat.reduceSub, Nat.reduceAdd, Int.reduceLT, Int.reduceLE, Int.reduceAdd, Int.reduceSub, Int.reduceToNat, Int.reduceBEq, Int.reduceBNe, Int.reduceMul, Nat.reduceBEq, Nat.reduceBNe, Nat.reduceLT, Nat.reduceLeDiff, Nat.reduceMul, Nat.reduceEqDiff, WD, effB, effH, isPriv, isHeap, isImm, zbx, zby, zbz, chkO, setD, dslot, zca, zcb, zcc, zcd, ptrCells_some, F46]
  refine wpCall_of (countR hR hL hlen) ?_
  rintro out H0 ⟨rfl, hf0, hR0⟩
  simp only [WW, partV, eqCells, eqLf, minV, maxV, ifcV, zaa, zab, zac, zad, zae, zaf, zag, zah, zai, ofConst, ofConst1, List.replicate, zaj, zak, loadOp, Go.Abs.loadCells, binV, zal, pickV, zam, zan, zao, zap, zaq, zar, zas, zat, zau, outR, resAll, resOne, zav, zaw, zax, zay, zaz, zba, zbb, zbc, zbd, zbe, zbf, zbg, zbh, zbi, zbj, zbk, storeOp, storeCell, overlay, zbl, zbm, zbn, lookupOp, keyT, okRes, mapUpdateOp, zbo, zbp, zbq, zbr, zbs, zbt, zbu, Nat.reduceSub, Nat.reduceAdd, Int.reduceLT, Int.reduceLE, Int.reduceAdd, Int.reduceSub, Int.reduceToNat, Int.reduceBEq, Int.reduceBNe, Int.reduceMul, Nat.reduceBEq, Nat.reduceBNe, Nat.reduceLT, Nat.reduceLeDiff, Nat.reduceMul, Nat.reduceEqDiff, WD, effB, effH, isPriv, isHeap, isImm, zbx, zby, zbz, chkO, setD, dslot, zca, zcb, zcc, zcd, ptrCells_some, F46]
  refine wC_loop _ (fun k st' H' => ∃ (n : Nat) (s1 : S) (acc : List α) (y : V), st' = ⟨L46_3 (.v (.ptr w 0 0)) (.v (.fn fa fb fc)) (.v y) (.v (.int .i64 n)), [], []⟩ ∧ k = n ∧ Ff w H H' ∧ Rr H' w x L s1 ∧ Own H' H.length y (acc.map rep) ∧ acc ++ (allG f n s1).1 = (allS L f s).1 ∧ (allG f n s1).2 = (allS L f s).2 ∧ acc.length + n ≤ 5000000) (count L s).1 ⟨(count L s).1, (count L s).2, [], .nils, ?_, rfl, hf0, hR0, .inl ⟨rfl, rfl⟩, rfl, rfl, by simp only [List.length_nil]; omega⟩ ?_
  · simp only [WN, firstReg, growAll, zbv, zbw, norm, killS, zag, zah, zaa, zab, zbl, zat, zad, growOne, zae, zaf, zac, zas, zak, Nat.reduceLT, Nat.reduceAdd, zbj, zav, F46, L46_3]
  · rintro k st' H' ⟨n, s1, acc, y, rfl, rfl, hf, hR', hO, hl1, hl2, hle⟩
    simp only [L46_3]
    have hb := hR'.b
    simp only [rdr] at hb
    cases k with
    | zero =>
      have g0 : decide ((0 : Int) < ((0 : Nat) : Int)) = false := rfl
      simp only [allG, List.append_nil] at hl1 hl2
      simp only [WW, partV, eqCells, eqLf, minV, maxV, ifcV, zaa, zab, zac, zad, zae, zaf, zag, zah, zai, ofConst, ofConst1, List.replicate, zaj, zak, loadOp, Go.Abs.loadCells, binV, zal, pickV, zam, zan, zao, zap, zaq, zar, zas, zat, zau, outR, resAll, resOne, zav, zaw, zax, zay, zaz, zba, zbb, zbc, zbd, zbe, zbf, zbg, zbh, zbi, zbj, zbk, storeOp, storeCell, overlay, zbl, zbm, zbn, lookupOp, keyT, okRes, mapUpdateOp, zbo, zbp, zbq, zbr, zbs, zbt, zbu, Nat.reduceSub, Nat.reduceAdd, Int.reduceLT, Int.reduceLE, Int.reduceAdd, Int.reduceSub, Int.reduceToNat, Int.reduceBEq, Int.reduceBNe, Int.reduceMul, Nat.reduceBEq, Nat.reduceBNe, Nat.reduceLT, Nat.reduceLeDiff, Nat.reduceMul, Nat.reduceEqDiff, WD, effB, effH, isPriv, isHeap, isImm, zbx, zby, zbz, chkO, setD, dslot, zca, zcb, zcc, zcd, ptrCells_some, F46, g0, hO.shut, hO.grows]
      rw [← hl2, ← hl1]
      exact ⟨y, rfl, hf, hR', hO⟩
    | succ n =>
      have g1 : decide ((0 : Int) < ((n + 1 : Nat) : Int)) = true := decide_eq_true (by omega)
      cases he : s1.e with
      | succ e1 =>
        rw [he] at hb
        have g2 : (((e1 + 1 : Nat) : Int) == 0) = false := by rw [beq_eq_false_iff_ne]; omega
        simp only [allG, he, List.append_nil] at hl1 hl2
        simp only [WW, partV, eqCells, eqLf, minV, maxV, ifcV, zaa, zab, zac, zad, zae, zaf, zag, zah, zai, ofConst, ofConst1, List.replicate, zaj, zak, loadOp, Go.Abs.loadCells, binV, zal, pickV, zam, zan, zao, zap, zaq, zar, zas, zat, zau, outR, resAll, resOne, zav, zaw, zax, zay, zaz, zba, zbb, zbc, zbd, zbe, zbf, zbg, zbh, zbi, zbj, zbk, storeOp, storeCell, overlay, zbl, zbm, zbn, lookupOp, keyT, okRes, mapUpdateOp, zbo, zbp, zbq, zbr, zbs, zbt, zbu, Nat.reduceSub, Nat.reduceAdd, Int.reduceLT, Int.reduceLE, Int.reduceAdd, Int.reduceSub, Int.reduceToNat, Int.reduceBEq, Int.reduceBNe, Int.reduceMul, Nat.reduceBEq, Nat.reduceBNe, Nat.reduceLT, Nat.reduceLeDiff, Nat.reduceMul, Nat.reduceEqDiff, WD, effB, effH, isPriv, isHeap, isImm, zbx, zby, zbz, chkO, setD, dslot, zca, zcb, zcc, zcd, ptrCells_some, F46, g1, g2, hb, hO.shut, hO.grows]
        rw [← hl2, ← hl1]
        exact ⟨y, rfl, hf, hR', hO⟩
      | zero =>
        rw [he] at hb
        have g2 : (((0 : Nat) : Int) == 0) = true := rfl
        simp only [allG, he] at hl1 hl2
        simp only [WW, partV, eqCells, eqLf, minV, maxV, ifcV, zaa, zab, zac, zad, zae, zaf, zag, zah, zai, ofConst, ofConst1, List.replicate, zaj, zak, loadOp, Go.Abs.loadCells, binV, zal, pickV, zam, zan, zao, zap, zaq, zar, zas, zat, zau, outR, resAll, resOne, zav, zaw, zax, zay, zaz, zba, zbb, zbc, zbd, zbe, zbf, zbg, zbh, zbi, zbj, zbk, storeOp, storeCell, overlay, zbl, zbm, zbn, lookupOp, keyT, okRes, mapUpdateOp, zbo, zbp, zbq, zbr, zbs, zbt, zbu, Nat.reduceSub, Nat.reduceAdd, Int.reduceLT, Int.reduceLE, Int.reduceAdd, Int.reduceSub, Int.reduceToNat, Int.reduceBEq, Int.reduceBNe, Int.reduceMul, Nat.reduceBEq, Nat.reduceBNe, Nat.reduceLT, Nat.reduceLeDiff, Nat.reduceMul, Nat.reduceEqDiff, WD, effB, effH, isPriv, isHeap, isImm, zbx, zby, zbz, chkO, setD, dslot, zca, zcb, zcc, zcd, ptrCells_some, F46, g1, g2, hb]
        refine ⟨hcf, wpCall_of (hE H' s1 hf hR') ?_⟩
        rintro out H2 ⟨rfl, hf2, hR2⟩
        have hO2 := hO.mov hwl hf2
        have hwd : wideAll (acc.map rep) 1 = true := wide_mapN hrw acc
        obtain ⟨y3, H3, ha, hO3, hl3, hk3⟩ := own_app (d := some 24) (e := 3) (v := rep (f s1).1) size3 hO2 (by have := (hf.trans hf2).1; omega) (hrw _) hwd (by rw [room3, List.length_map]; simp; omega)
        have hrow : wideAll [rep (f s1).1] 1 = true := by simp [wideAll, hrw]
        have hrc : (rep (f s1).1).cells.length = 1 := hrw _
        have hsub : IntKind.i64.wrap (((n + 1 : Nat) : Int) - 1) = (n : Int) := by rw [IntWalk.i64_in _ (by omega)]; omega
        simp only [WW, partV, eqCells, eqLf, minV, maxV, ifcV, zaa, zab, zac, zad, zae, zaf, zag, zah, zai, ofConst, ofConst1, List.replicate, zaj, zak, loadOp, Go.Abs.loadCells, binV, zal, pickV, zam, zan, zao, zap, zaq, zar, zas, zat, zau, outR, resAll, resOne, zav, zaw, zax, zay, zaz, zba, zbb, zbc, zbd, zbe, zbf, zbg, zbh, zbi, zbj, zbk, storeOp, storeCell, overlay, zbl, zbm, zbn, lookupOp, keyT, okRes, mapUpdateOp, zbo, zbp, zbq, zbr, zbs, zbt, zbu, Nat.reduceSub, Nat.reduceAdd, Int.reduceLT, Int.reduceLE, Int.reduceAdd, Int.reduceSub, Int.reduceToNat, Int.reduceBEq, Int.reduceBNe, Int.reduceMul, Nat.reduceBEq, Nat.reduceBNe, Nat.reduceLT, Nat.reduceLeDiff, Nat.reduceMul, Nat.reduceEqDiff, WD, effB, effH, isPriv, isHeap, isImm, zbx, zby, zbz, chkO, setD, dslot, zca, zcb, zcc, zcd, ptrCells_some, F46, hrs, hro, hrw, hrc, buildSliceV, lits, srcV_eq, srcK_sl, srcK_str, srcSl_nils, srcSl_rsl, srcSl_sl, frow, zbv, zbw, List.all_nil, List.all_cons, rowV, Bool.false_and, Bool.and_false, ne_eq, not_false_eq_true, grows_lr, callOut_t, hO.shut, hO2.shut, ha, hsub]
        have hf3 : Ff w H H3 := ⟨by have := (hf.trans hf2).1; omega, fun i h1 h2 => by rw [hk3 i h1]; exact (hf.trans hf2).2 i h1 h2⟩
        refine ⟨n, by omega, n, (f s1).2, acc ++ [(f s1).1], y3, ?_, rfl, hf3, ?_, by rw [List.map_append]; exact hO3, by rw [List.append_assoc]; exact hl1, hl2, by simp; omega⟩
        · simp only [WN, firstReg, growAll, zbv, zbw, norm, killS, zag, zah, zaa, zab, zbl, zat, zad, growOne, zae, zaf, zac, zas, zak, Nat.reduceLT, Nat.reduceAdd, zbj, zav, F46, hO3.clip2, hsub]
          try rfl
        · exact ⟨by rw [hk3 w hwl]; exact hR2.b, fun H4 h4 => hR.r H4 (hf3.trans h4), hR2.o⟩
theorem allR48 {α : Type} {H : Hp} {w : Nat} {x : V} {L : List Nat} {s : S} {fa : FuncId} {fb fc : List V} (f : S → α × S) (rep : α → V) (hrs : ∀ a st, sealV st (rep a) = rep a) (hro : ∀ a, okV (rep a) = true) (hrw : ∀ a, (rep a).width = 6) (hcf : callable Tryd.prog fa = true)
    (hR : Rr H w x L s) (hL : ∀ y ∈ L, y < 256) (hlen : L.length ≤ 5000000)
    (hE : ∀ (H1 : Hp) (s1 : S), Ff w H H1 → Rr H1 w x L s1 → wpCall EW fa (fb ++ fc) H1 (fun out H2 => out = .ret (rep (f s1).1) false ∧ Ff w H1 H2 ∧ Rr H2 w x L (f s1).2)) :
    wpCall EW 48 [.ptr w 0 0, .fn fa fb fc] H (fun out H' => ∃ y, out = .ret y false ∧ Ff w H H' ∧ Rr H' w x L (allS L f s).2 ∧ Own H' H.length y ((allS L f s).1.map rep)) := by
  have hcl := count_le hR.o
  have hwl := hR.lt
  refine runs f48 b48 r48 n48 _ _ ?_
  simp only [bodyOf, Tryd.f48, Option.getD_some]
  simp only [WW, partV, eqCells, eqLf, minV, maxV, ifcV, zaa, zab, zac, zad, zae, zaf, zag, zah, zai, ofConst, ofConst1, List.replicate, zaj, zak, loadOp, Go.Abs.loadCells, binV, zal, pickV, zam, zan, zao, zap, zaq, zar, zas, zat, zau, outR, resAll, resOne, zav, zaw, zax, zay, zaz, zba, zbb, zbc, zbd, zbe, zbf, zbg, zbh, zbi, zbj, zbk, storeOp, storeCell, overlay, zbl, zbm, zbn, lookupOp, keyT, okRes, mapUpdateOp, zbo, zbp, zbq, zbr, zbs, zbt, zbu, Nat.reduceSub, Nat.reduceAdd, Int.reduceLT, Int.reduceLE, Int.reduceAdd, Int.reduceSub, Int.reduceToNat, Int.reduceBEq, Int.reduceBNe, Int.reduceMul, Nat.reduceBEq, Nat.reduceBNe, Nat.reduceLT, Nat.reduceLeDiff, Nat.reduceMul, Nat.reduceEqDiff, WD, effB, effH, isPriv, isHeap, isImm, zbx, zby, zbz, chkO, setD, dslot, zca, zcb, zcc, zcd, ptrCells_some, F48]
  refine wpCall_of (countR hR hL hlen) ?_
  rintro out H0 ⟨rfl, hf0, hR0⟩
  simp only [WW, partV, eqCells, eqLf, minV, maxV, ifcV, zaa, zab, zac, zad, zae, zaf, zag, zah, zai, ofConst, ofConst1, List.replicate, zaj, zak, loadOp, Go.Abs.loadCells, binV, zal, pickV, zam, zan, zao, zap, zaq, zar, zas, zat, zau, outR, resAll, resOne, zav, zaw, zax, zay, zaz, zba, zbb, zbc, zbd, zbe, zbf, zbg, zbh, zbi, zbj, zbk, storeOp, storeCell, overlay, zbl, zbm, zbn, lookupOp, keyT, okRes, mapUpdateOp, zbo, zbp, zbq, zbr, zbs, zbt, zbu, Nat.reduceSub, Nat.reduceAdd, Int.reduceLT, Int.reduceLE, Int.reduceAdd, Int.reduceSub, Int.reduceToNat, Int.reduceBEq, Int.reduceBNe, Int.reduceMul, Nat.reduceBEq, Nat.reduceBNe, Nat.reduceLT, Nat.reduceLeDiff, Nat.reduceMul, Nat.reduceEqDiff, WD, effB, effH, isPriv, isHeap, isImm, zbx, zby, zbz, chkO, setD, dslot, zca, zcb, zcc, zcd, ptrCells_some, F48]
  refine wC_loop _ (fun k st' H' => ∃ (n : Nat) (s1 : S) (acc : List α) (y : V), st' = ⟨L48_3 (.v (.ptr w 0 0)) (.v (.fn fa fb fc)) (.v y) (.v (.int .i64 n)), [], []⟩ ∧ k = n ∧ Ff w H H' ∧ Rr H' w x L s1 ∧ Own H' H.length y (acc.map rep) ∧ acc ++ (allG f n s1).1 = (allS L f s).1 ∧ (allG f n s1).2 = (allS L f s).2 ∧ acc.length + n ≤ 5000000) (count L s).1 ⟨(count L s).1, (count L s).2, [], .nils, ?_, rfl, hf0, hR0, .inl ⟨rfl, rfl⟩, rfl, rfl, by simp only [List.length_nil]; omega⟩ ?_
  · simp only [WN, firstReg, growAll, zbv, zbw, norm, killS, zag, zah, zaa, zab, zbl, zat, zad, growOne, zae, zaf, zac, zas, zak, Nat.reduceLT, Nat.reduceAdd, zbj, zav, F48, L48_3]
  · rintro k st' H' ⟨n, s1, acc, y, rfl, rfl, hf, hR', hO, hl1, hl2, hle⟩
    simp only [L48_3]
    have hb := hR'.b
    simp only [rdr] at hb
    cases k with
    | zero =>
      have g0 : decide ((0 : Int) < ((0 : Nat) : Int)) = false := rfl
      simp only [allG, List.append_nil] at hl1 hl2
      simp only [WW, partV, eqCells, eqLf, minV, maxV, ifcV, zaa, zab, zac, zad, zae, zaf, zag, zah, zai, ofConst, ofConst1, List.replicate, zaj, zak, loadOp, Go.Abs.loadCells, binV, zal, pickV, zam, zan, zao, zap, zaq, zar, zas, zat, zau, outR, resAll, resOne, zav, zaw, zax, zay, zaz, zba, zbb, zbc, zbd, zbe, zbf, zbg, zbh, zbi, zbj, zbk, storeOp, storeCell, overlay, zbl, zbm, zbn, lookupOp, keyT, okRes, mapUpdateOp, zbo, zbp, zbq, zbr, zbs, zbt, zbu, Nat.reduceSub, Nat.reduceAdd, Int.reduceLT, Int.reduceLE, Int.reduceAdd, Int.reduceSub, Int.reduceToNat, Int.reduceBEq, Int.reduceBNe, Int.reduceMul, Nat.reduceBEq, Nat.reduceBNe, Nat.reduceLT, Nat.reduceLeDiff, Nat.reduceMul, Nat.reduceEqDiff, WD, effB, effH, isPriv, isHeap, isImm, zbx, zby, zbz, chkO, setD, dslot, zca, zcb, zcc, zcd, ptrCells_some, F48, g0, hO.shut, hO.grows]
      rw [← hl2, ← hl1]
      exact ⟨y, rfl, hf, hR', hO⟩
    | succ n =>
      have g1 : decide ((0 : Int) < ((n + 1 : Nat) : Int)) = true := decide_eq_true (by omega)
      cases he : s1.e with
      | succ e1 =>
        rw [he] at hb
        have g2 : (((e1 + 1 : Nat) : Int) == 0) = false := by rw [beq_eq_false_iff_ne]; omega
        simp only [allG, he, List.append_nil] at hl1 hl2
        simp only [WW, partV, eqCells, eqLf, minV, maxV, ifcV, zaa, zab, zac, zad, zae, zaf, zag, zah, zai, ofConst, ofConst1, List.replicate, zaj, zak, loadOp, Go.Abs.loadCells, binV, zal, pickV, zam, zan, zao, zap, zaq, zar, zas, zat, zau, outR, resAll, resOne, zav, zaw, zax, zay, zaz, zba, zbb, zbc, zbd, zbe, zbf, zbg, zbh, zbi, zbj, zbk, storeOp, storeCell, overlay, zbl, zbm, zbn, lookupOp, keyT, okRes, mapUpdateOp, zbo, zbp, zbq, zbr, zbs, zbt, zbu, Nat.reduceSub, Nat.reduceAdd, Int.reduceLT, Int.reduceLE, Int.reduceAdd, Int.reduceSub, Int.reduceToNat, Int.reduceBEq, Int.reduceBNe, Int.reduceMul, Nat.reduceBEq, Nat.reduceBNe, Nat.reduceLT, Nat.reduceLeDiff, Nat.reduceMul, Nat.reduceEqDiff, WD, effB, effH, isPriv, isHeap, isImm, zbx, zby, zbz, chkO, setD, dslot, zca, zcb, zcc, zcd, ptrCells_some, F48, g1, g2, hb, hO.shut, hO.grows]
        rw [← hl2, ← hl1]
        exact ⟨y, rfl, hf, hR', hO⟩
      | zero =>
        rw [he] at hb
        have g2 : (((0 : Nat) : Int) == 0) = true := rfl
        simp only [allG, he] at hl1 hl2
        simp only [WW, partV, eqCells, eqLf, minV, maxV, ifcV, zaa, zab, zac, zad, zae, zaf, zag, zah, zai, ofConst, ofConst1, List.replicate, zaj, zak, loadOp, Go.Abs.loadCells, binV, zal, pickV, zam, zan, zao, zap, zaq, zar, zas, zat, zau, outR, resAll, resOne, zav, zaw, zax, zay, zaz, zba, zbb, zbc, zbd, zbe, zbf, zbg, zbh, zbi, zbj, zbk, storeOp, storeCell, overlay, zbl, zbm, zbn, lookupOp, keyT, okRes, mapUpdateOp, zbo, zbp, zbq, zbr, zbs, zbt, zbu, Nat.reduceSub, Nat.reduceAdd, Int.reduceLT, Int.reduceLE, Int.reduceAdd, Int.reduceSub, Int.reduceToNat, Int.reduceBEq, Int.reduceBNe, Int.reduceMul, Nat.reduceBEq, Nat.reduceBNe, Nat.reduceLT, Nat.reduceLeDiff, Nat.reduceMul, Nat.reduceEqDiff, WD, effB, effH, isPriv, isHeap, isImm, zbx, zby, zbz, chkO, setD, dslot, zca, zcb, zcc, zcd, ptrCells_some, F48, g1, g2, hb]
        refine ⟨hcf, wpCall_of (hE H' s1 hf hR') ?_⟩
        rintro out H2 ⟨rfl, hf2, hR2⟩
        have hO2 := hO.mov hwl hf2
        have hwd : wideAll (acc.map rep) 6 = true := wide_mapN hrw acc
        obtain ⟨y3, H3, ha, hO3, hl3, hk3⟩ := own_app (d := some 24) (e := 50) (v := rep (f s1).1) size50 hO2 (by have := (hf.trans hf2).1; omega) (hrw _) hwd (by rw [room50, List.length_map]; simp; omega)
        have hrow : wideAll [rep (f s1).1] 6 = true := by simp [wideAll, hrw]
        have hrc : (rep (f s1).1).cells.length = 6 := hrw _
        have hsub : IntKind.i64.wrap (((n + 1 : Nat) : Int) - 1) = (n : Int) := by rw [IntWalk.i64_in _ (by omega)]; omega
        simp only [WW, partV, eqCells, eqLf, minV, maxV, ifcV, zaa, zab, zac, zad, zae, zaf, zag, zah, zai, ofConst, ofConst1, List.replicate, zaj, zak, loadOp, Go.Abs.loadCells, binV, zal, pickV, zam, zan, zao, zap, zaq, zar, zas, zat, zau, outR, resAll, resOne, zav, zaw, zax, zay, zaz, zba, zbb, zbc, zbd, zbe, zbf, zbg, zbh, zbi, zbj, zbk, storeOp, storeCell, overlay, zbl, zbm, zbn, lookupOp, keyT, okRes, mapUpdateOp, zbo, zbp, zbq, zbr, zbs, zbt, zbu, Nat.reduceSub, Nat.reduceAdd, Int.reduceLT, Int.reduceLE, Int.reduceAdd, Int.reduceSub, Int.reduceToNat, Int.reduceBEq, Int.reduceBNe, Int.reduceMul, Nat.reduceBEq, Nat.reduceBNe, Nat.reduceLT, Nat.reduceLeDiff, Nat.reduceMul, Nat.reduceEqDiff, WD, effB, effH, isPriv, isHeap, isImm, zbx, zby, zbz, chkO, setD, dslot, zca, zcb, zcc, zcd, ptrCells_some, F48, hrs, hro, hrw, hrc, buildSliceV, lits, srcV_eq, srcK_sl, srcK_str, srcSl_nils, srcSl_rsl, srcSl_sl, frow, zbv, zbw, List.all_nil, List.all_cons, rowV, Bool.false_and, Bool.and_false, ne_eq, not_false_eq_true, grows_lr, callOut_t, hO.shut, hO2.shut, ha, hsub]
        have hf3 : Ff w H H3 := ⟨by have := (hf.trans hf2).1; omega, fun i h1 h2 => by rw [hk3 i h1]; exact (hf.trans hf2).2 i h1 h2⟩
        refine ⟨n, by omega, n, (f s1).2, acc ++ [(f s1).1], y3, ?_, rfl, hf3, ?_, by rw [List.map_append]; exact hO3, by rw [List.append_assoc]; exact hl1, hl2, by simp; omega⟩
        · simp only [WN, firstReg, growAll, zbv, zbw, norm, killS, zag, zah, zaa, zab, zbl, zat, zad, growOne, zae, zaf, zac, zas, zak, Nat.reduceLT, Nat.reduceAdd, zbj, zav, F48, hO3.clip2, hsub]
          try rfl
        · exact ⟨by rw [hk3 w hwl]; exact hR2.b, fun H4 h4 => hR.r H4 (hf3.trans h4), hR2.o⟩
theorem allR68 {α : Type} {H : Hp} {w : Nat} {x : V} {L : List Nat} {s : S} {fa : FuncId} {fb fc : List V} (f : S → α × S) (rep : α → V) (hrs : ∀ a st, sealV st (rep a) = rep a) (hro : ∀ a, okV (rep a) = true) (hrw : ∀ a, (rep a).width = 2) (hcf : callable Tryd.prog fa = true)
    (hR : Rr H w x L s) (hL : ∀ y ∈ L, y < 256) (hlen : L.length ≤ 5000000)
    (hE : ∀ (H1 : Hp) (s1 : S), Ff w H H1 → Rr H1 w x L s1 → wpCall EW fa (fb ++ fc) H1 (fun out H2 => out = .ret (rep (f s1).1) false ∧ Ff w H1 H2 ∧ Rr H2 w x L (f s1).2)) :
    wpCall EW 68 [.ptr w 0 0, .fn fa fb fc] H (fun out H' => ∃ y, out = .ret y false ∧ Ff w H H' ∧ Rr H' w x L (allS L f s).2 ∧ Own H' H.length y ((allS L f s).1.map rep)) := by
  have hcl := count_le hR.o
  have hwl := hR.lt
  refine runs f68 b68 r68 n68 _ _ ?_
  simp only [bodyOf, Tryd.f68, Option.getD_some]
  simp only [WW, partV, eqCells, eqLf, minV, maxV, ifcV, zaa, zab, zac, zad, zae, zaf, zag, zah, zai, ofConst, ofConst1, List.replicate, zaj, zak, loadOp, Go.Abs.loadCells, binV, zal, pickV, zam, zan, zao, zap, zaq, zar, zas, zat, zau, outR, resAll, resOne, zav, zaw, zax, zay, zaz, zba, zbb, zbc, zbd, zbe, zbf, zbg, zbh, zbi, zbj, zbk, storeOp, storeCell, overlay, zbl, zbm, zbn, lookupOp, keyT, okRes, mapUpdateOp, zbo, zbp, zbq, zbr, zbs, zbt, zbu, Nat.reduceSub, Nat.reduceAdd, Int.reduceLT, Int.reduceLE, Int.reduceAdd, Int.reduceSub, Int.reduceToNat, Int.reduceBEq, Int.reduceBNe, Int.reduceMul, Nat.reduceBEq, Nat.reduceBNe, Nat.reduceLT, Nat.reduceLeDiff, Nat.reduceMul, Nat.reduceEqDiff, WD, effB, effH, isPriv, isHeap, isImm, zbx, zby, zbz, chkO, setD, dslot, zca, zcb, zcc, zcd, ptrCells_some, F68]
  refine wpCall_of (countR hR hL hlen) ?_
  rintro out H0 ⟨rfl, hf0, hR0⟩
  simp only [WW, partV, eqCells, eqLf, minV, maxV, ifcV, zaa, zab, zac, zad, zae, zaf, zag, zah, zai, ofConst, ofConst1, List.replicate, zaj, zak, loadOp, Go.Abs.loadCells, binV, zal, pickV, zam, zan, zao, zap, zaq, zar, zas, zat, zau, outR, resAll, resOne, zav, zaw, zax, zay, zaz, zba, zbb, zbc, zbd, zbe, zbf, zbg, zbh, zbi, zbj, zbk, storeOp, storeCell, overlay, zbl, zbm, zbn, lookupOp, keyT, okRes, mapUpdateOp, zbo, zbp, zbq, zbr, zbs, zbt, zbu, Nat.reduceSub, Nat.reduceAdd, Int.reduceLT, Int.reduceLE, Int.reduceAdd, Int.reduceSub, Int.reduceToNat, Int.reduceBEq, Int.reduceBNe, Int.reduceMul, Nat.reduceBEq, Nat.reduceBNe, Nat.reduceLT, Nat.reduceLeDiff, Nat.reduceMul, Nat.reduceEqDiff, WD, effB, effH, isPriv, isHeap, isImm, zbx, zby, zbz, chkO, setD, dslot, zca, zcb, zcc, zcd, ptrCells_some, F68]
  refine wC_loop _ (fun k st' H' => ∃ (n : Nat) (s1 : S) (acc : List α) (y : V), st' = ⟨L68_3 (.v (.ptr w 0 0)) (.v (.fn fa fb fc)) (.v y) (.v (.int .i64 n)), [], []⟩ ∧ k = n ∧ Ff w H H' ∧ Rr H' w x L s1 ∧ Own H' H.length y (acc.map rep) ∧ acc ++ (allG f n s1).1 = (allS L f s).1 ∧ (allG f n s1).2 = (allS L f s).2 ∧ acc.length + n ≤ 5000000) (count L s).1 ⟨(count L s).1, (count L s).2, [], .nils, ?_, rfl, hf0, hR0, .inl ⟨rfl, rfl⟩, rfl, rfl, by simp only [List.length_nil]; omega⟩ ?_
  · simp only [WN, firstReg, growAll, zbv, zbw, norm, killS, zag, zah, zaa, zab, zbl, zat, zad, growOne, zae, zaf, zac, zas, zak, Nat.reduceLT, Nat.reduceAdd, zbj, zav, F68, L68_3]
  · rintro k st' H' ⟨n, s1, acc, y, rfl, rfl, hf, hR', hO, hl1, hl2, hle⟩
    simp only [L68_3]
    have hb := hR'.b
    simp only [rdr] at hb
    cases k with
    | zero =>
      have g0 : decide ((0 : Int) < ((0 : Nat) : Int)) = false := rfl
      simp only [allG, List.append_nil] at hl1 hl2
      simp only [WW, partV, eqCells, eqLf, minV, maxV, ifcV, zaa, zab, zac, zad, zae, zaf, zag, zah, zai, ofConst, ofConst1, List.replicate, zaj, zak, loadOp, Go.Abs.loadCells, binV, zal, pickV, zam, zan, zao, zap, zaq, zar, zas, zat, zau, outR, resAll, resOne, zav, zaw, zax, zay, zaz, zba, zbb, zbc, zbd, zbe, zbf, zbg, zbh, zbi, zbj, zbk, storeOp, storeCell, overlay, zbl, zbm, zbn, lookupOp, keyT, okRes, mapUpdateOp, zbo, zbp, zbq, zbr, zbs, zbt, zbu, Nat.reduceSub, Nat.reduceAdd, Int.reduceLT, Int.reduceLE, Int.reduceAdd, Int.reduceSub, Int.reduceToNat, Int.reduceBEq, Int.reduceBNe, Int.reduceMul, Nat.reduceBEq, Nat.reduceBNe, Nat.reduceLT, Nat.reduceLeDiff, Nat.reduceMul, Nat.reduceEqDiff, WD, effB, effH, isPriv, isHeap, isImm, zbx, zby, zbz, chkO, setD, dslot, zca, zcb, zcc, zcd, ptrCells_some, F68, g0, hO.shut, hO.grows]
      rw [← hl2, ← hl1]
      exact ⟨y, rfl, hf, hR', hO⟩
    | succ n =>
      have g1 : decide ((0 : Int) < ((n + 1 : Nat) : Int)) = true := decide_eq_true (by omega)
      cases he : s1.e with
      | succ e1 =>
        rw [he] at hb
        have g2 : (((e1 + 1 : Nat) : Int) == 0) = false := by rw [beq_eq_false_iff_ne]; omega
        simp only [allG, he, List.append_nil] at hl1 hl2
        simp only [WW, partV, eqCells, eqLf, minV, maxV, ifcV, zaa, zab, zac, zad, zae, zaf, zag, zah, zai, ofConst, ofConst1, List.replicate, zaj, zak, loadOp, Go.Abs.loadCells, binV, zal, pickV, zam, zan, zao, zap, zaq, zar, zas, zat, zau, outR, resAll, resOne, zav, zaw, zax, zay, zaz, zba, zbb, zbc, zbd, zbe, zbf, zbg, zbh, zbi, zbj, zbk, storeOp, storeCell, overlay, zbl, zbm, zbn, lookupOp, keyT, okRes, mapUpdateOp, zbo, zbp, zbq, zbr, zbs, zbt, zbu, Nat.reduceSub, Nat.reduceAdd, Int.reduceLT, Int.reduceLE, Int.reduceAdd, Int.reduceSub, Int.reduceToNat, Int.reduceBEq, Int.reduceBNe, Int.reduceMul, Nat.reduceBEq, Nat.reduceBNe, Nat.reduceLT, Nat.reduceLeDiff, Nat.reduceMul, Nat.reduceEqDiff, WD, effB, effH, isPriv, isHeap, isImm, zbx, zby, zbz, chkO, setD, dslot, zca, zcb, zcc, zcd, ptrCells_some, F68, g1, g2, hb, hO.shut, hO.grows]
        rw [← hl2, ← hl1]
        exact ⟨y, rfl, hf, hR', hO⟩
      | zero =>
        rw [he] at hb
        have g2 : (((0 : Nat) : Int) == 0) = true := rfl
        simp only [allG, he] at hl1 hl2
        simp only [WW, partV, eqCells, eqLf, minV, maxV, ifcV, zaa, zab, zac, zad, zae, zaf, zag, zah, zai, ofConst, ofConst1, List.replicate, zaj, zak, loadOp, Go.Abs.loadCells, binV, zal, pickV, zam, zan, zao, zap, zaq, zar, zas, zat, zau, outR, resAll, resOne, zav, zaw, zax, zay, zaz, zba, zbb, zbc, zbd, zbe, zbf, zbg, zbh, zbi, zbj, zbk, storeOp, storeCell, overlay, zbl, zbm, zbn, lookupOp, keyT, okRes, mapUpdateOp, zbo, zbp, zbq, zbr, zbs, zbt, zbu, Nat.reduceSub, Nat.reduceAdd, Int.reduceLT, Int.reduceLE, Int.reduceAdd, Int.reduceSub, Int.reduceToNat, Int.reduceBEq, Int.reduceBNe, Int.reduceMul, Nat.reduceBEq, Nat.reduceBNe, Nat.reduceLT, Nat.reduceLeDiff, Nat.reduceMul, Nat.reduceEqDiff, WD, effB, effH, isPriv, isHeap, isImm, zbx, zby, zbz, chkO, setD, dslot, zca, zcb, zcc, zcd, ptrCells_some, F68, g1, g2, hb]
        refine ⟨hcf, wpCall_of (hE H' s1 hf hR') ?_⟩
        rintro out H2 ⟨rfl, hf2, hR2⟩
        have hO2 := hO.mov hwl hf2
        have hwd : wideAll (acc.map rep) 2 = true := wide_mapN hrw acc
        obtain ⟨y3, H3, ha, hO3, hl3, hk3⟩ := own_app (d := some 24) (e := 105) (v := rep (f s1).1) size105 hO2 (by have := (hf.trans hf2).1; omega) (hrw _) hwd (by rw [room105, List.length_map]; simp; omega)
        have hrow : wideAll [rep (f s1).1] 2 = true := by simp [wideAll, hrw]
        have hrc : (rep (f s1).1).cells.length = 2 := hrw _
        have hsub : IntKind.i64.wrap (((n + 1 : Nat) : Int) - 1) = (n : Int) := by rw [IntWalk.i64_in _ (by omega)]; omega
        simp only [WW, partV, eqCells, eqLf, minV, maxV, ifcV, zaa, zab, zac, zad, zae, zaf, zag, zah, zai, ofConst, ofConst1, List.replicate, zaj, zak, loadOp, Go.Abs.loadCells, binV, zal, pickV, zam, zan, zao, zap, zaq, zar, zas, zat, zau, outR, resAll, resOne, zav, zaw, zax, zay, zaz, zba, zbb, zbc, zbd, zbe, zbf, zbg, zbh, zbi, zbj, zbk, storeOp, storeCell, overlay, zbl, zbm, zbn, lookupOp, keyT, okRes, mapUpdateOp, zbo, zbp, zbq, zbr, zbs, zbt, zbu, Nat.reduceSub, Nat.reduceAdd, Int.reduceLT, Int.reduceLE, Int.reduceAdd, Int.reduceSub, Int.reduceToNat, Int.reduceBEq, Int.reduceBNe, Int.reduceMul, Nat.reduceBEq, Nat.reduceBNe, Nat.reduceLT, Nat.reduceLeDiff, Nat.reduceMul, Nat.reduceEqDiff, WD, effB, effH, isPriv, isHeap, isImm, zbx, zby, zbz, chkO, setD, dslot, zca, zcb, zcc, zcd, ptrCells_some, F68, hrs, hro, hrw, hrc, buildSliceV, lits, srcV_eq, srcK_sl, srcK_str, srcSl_nils, srcSl_rsl, srcSl_sl, frow, zbv, zbw, List.all_nil, List.all_cons, rowV, Bool.false_and, Bool.and_false, ne_eq, not_false_eq_true, grows_lr, callOut_t, hO.shut, hO2.shut, ha, hsub]
        have hf3 : Ff w H H3 := ⟨by have := (hf.trans hf2).1; omega, fun i h1 h2 => by rw [hk3 i h1]; exact (hf.trans hf2).2 i h1 h2⟩
        refine ⟨n, by omega, n, (f s1).2, acc ++ [(f s1).1], y3, ?_, rfl, hf3, ?_, by rw [List.map_append]; exact hO3, by rw [List.append_assoc]; exact hl1, hl2, by simp; omega⟩
        · simp only [WN, firstReg, growAll, zbv, zbw, norm, killS, zag, zah, zaa, zab, zbl, zat, zad, growOne, zae, zaf, zac, zas, zak, Nat.reduceLT, Nat.reduceAdd, zbj, zav, F68, hO3.clip2, hsub]
          try rfl
        · exact ⟨by rw [hk3 w hwl]; exact hR2.b, fun H4 h4 => hR.r H4 (hf3.trans h4), hR2.o⟩
theorem allR70 {α : Type} {H : Hp} {w : Nat} {x : V} {L : List Nat} {s : S} {fa : FuncId} {fb fc : List V} (f : S → α × S) (rep : α → V) (hrs : ∀ a st, sealV st (rep a) = rep a) (hro : ∀ a, okV (rep a) = true) (hrw : ∀ a, (rep a).width = 3) (hcf : callable Tryd.prog fa = true)
    (hR : Rr H w x L s) (hL : ∀ y ∈ L, y < 256) (hlen : L.length ≤ 5000000)
    (hE : ∀ (H1 : Hp) (s1 : S), Ff w H H1 → Rr H1 w x L s1 → wpCall EW fa (fb ++ fc) H1 (fun out H2 => out = .ret (rep (f s1).1) false ∧ Ff w H1 H2 ∧ Rr H2 w x L (f s1).2)) :
    wpCall EW 70 [.ptr w 0 0, .fn fa fb fc] H (fun out H' => ∃ y, out = .ret y false ∧ Ff w H H' ∧ Rr H' w x L (allS L f s).2 ∧ Own H' H.length y ((allS L f s).1.map rep)) := by
  have hcl := count_le hR.o
  have hwl := hR.lt
  refine runs f70 b70 r70 n70 _ _ ?_
  simp only [bodyOf, Tryd.f70, Option.getD_some]
  simp only [WW, partV, eqCells, eqLf, minV, maxV, ifcV, zaa, zab, zac, zad, zae, zaf, zag, zah, zai, ofConst, ofConst1, List.replicate, zaj, zak, loadOp, Go.Abs.loadCells, binV, zal, pickV, zam, zan, zao, zap, zaq, zar, zas, zat, zau, outR, resAll, resOne, zav, zaw, zax, zay, zaz, zba, zbb, zbc, zbd, zbe, zbf, zbg, zbh, zbi, zbj, zbk, storeOp, storeCell, overlay, zbl, zbm, zbn, lookupOp, keyT, okRes, mapUpdateOp, zbo, zbp, zbq, zbr, zbs, zbt, zbu, Nat.reduceSub, Nat.reduceAdd, Int.reduceLT, Int.reduceLE, Int.reduceAdd, Int.reduceSub, Int.reduceToNat, Int.reduceBEq, Int.reduceBNe, Int.reduceMul, Nat.reduceBEq, Nat.reduceBNe, Nat.reduceLT, Nat.reduceLeDiff, Nat.reduceMul, Nat.reduceEqDiff, WD, effB, effH, isPriv, isHeap, isImm, zbx, zby, zbz, chkO, setD, dslot, zca, zcb, zcc, zcd, ptrCells_some, F70]
  refine wpCall_of (countR hR hL hlen) ?_
  rintro out H0 ⟨rfl, hf0, hR0⟩
  simp only [WW, partV, eqCells, eqLf, minV, maxV, ifcV, zaa, zab, zac, zad, zae, zaf, zag, zah, zai, ofConst, ofConst1, List.replicate, zaj, zak, loadOp, Go.Abs.loadCells, binV, zal, pickV, zam, zan, zao, zap, zaq, zar, zas, zat, zau, outR, resAll, resOne, zav, zaw, zax, zay, zaz, zba, zbb, zbc, zbd, zbe, zbf, zbg, zbh, zbi, zbj, zbk, storeOp, storeCell, overlay, zbl, zbm, zbn, lookupOp, keyT, okRes, mapUpdateOp, zbo, zbp, zbq, zbr, zbs, zbt, zbu, Nat.reduceSub, Nat.reduceAdd, Int.reduceLT, Int.reduceLE, Int.reduceAdd, Int.reduceSub, Int.reduceToNat, Int.reduceBEq, Int.reduceBNe, Int.reduceMul, Nat.reduceBEq, Nat.reduceBNe, Nat.reduceLT, Nat.reduceLeDiff, Nat.reduceMul, Nat.reduceEqDiff, WD, effB, effH, isPriv, isHeap, isImm, zbx, zby, zbz, chkO, setD, dslot, zca, zcb, zcc, zcd, ptrCells_some, F70]
  refine wC_loop _ (fun k st' H' => ∃ (n : Nat) (s1 : S) (acc : List α) (y : V), st' = ⟨L70_3 (.v (.ptr w 0 0)) (.v (.fn fa fb fc)) (.v y) (.v (.int .i64 n)), [], []⟩ ∧ k = n ∧ Ff w H H' ∧ Rr H' w x L s1 ∧ Own H' H.length y (acc.map rep) ∧ acc ++ (allG f n s1).1 = (allS L f s).1 ∧ (allG f n s1).2 = (allS L f s).2 ∧ acc.length + n ≤ 5000000) (count L s).1 ⟨(count L s).1, (count L s).2, [], .nils, ?_, rfl, hf0, hR0, .inl ⟨rfl, rfl⟩, rfl, rfl, by simp only [List.length_nil]; omega⟩ ?_
  · simp only [WN, firstReg, growAll, zbv, zbw, norm, killS, zag, zah, zaa, zab, zbl, zat, zad, growOne, zae, zaf, zac, zas, zak, Nat.reduceLT, Nat.reduceAdd, zbj, zav, F70, L70_3]
  · rintro k st' H' ⟨n, s1, acc, y, rfl, rfl, hf, hR', hO, hl1, hl2, hle⟩
    simp only [L70_3]
    have hb := hR'.b
    simp only [rdr] at hb
    cases k with
    | zero =>
      have g0 : decide ((0 : Int) < ((0 : Nat) : Int)) = false := rfl
      simp only [allG, List.append_nil] at hl1 hl2
      simp only [WW, partV, eqCells, eqLf, minV, maxV, ifcV, zaa, zab, zac, zad, zae, zaf, zag, zah, zai, ofConst, ofConst1, List.replicate, zaj, zak, loadOp, Go.Abs.loadCells, binV, zal, pickV, zam, zan, zao, zap, zaq, zar, zas, zat, zau, outR, resAll, resOne, zav, zaw, zax, zay, zaz, zba, zbb, zbc, zbd, zbe, zbf, zbg, zbh, zbi, zbj, zbk, storeOp, storeCell, overlay, zbl, zbm, zbn, lookupOp, keyT, okRes, mapUpdateOp, zbo, zbp, zbq, zbr, zbs, zbt, zbu, Nat.reduceSub, Nat.reduceAdd, Int.reduceLT, Int.reduceLE, Int.reduceAdd, Int.reduceSub, Int.reduceToNat, Int.reduceBEq, Int.reduceBNe, Int.reduceMul, Nat.reduceBEq, Nat.reduceBNe, Nat.reduceLT, Nat.reduceLeDiff, Nat.reduceMul, Nat.reduceEqDiff, WD, effB, effH, isPriv, isHeap, isImm, zbx, zby, zbz, chkO, setD, dslot, zca, zcb, zcc, zcd, ptrCells_some, F70, g0, hO.shut, hO.grows]
      rw [← hl2, ← hl1]
      exact ⟨y, rfl, hf, hR', hO⟩
    | succ n =>
      have g1 : decide ((0 : Int) < ((n + 1 : Nat) : Int)) = true := decide_eq_true (by omega)
      cases he : s1.e with
      | succ e1 =>
        rw [he] at hb
        have g2 : (((e1 + 1 : Nat) : Int) == 0) = false := by rw [beq_eq_false_iff_ne]; omega
        simp only [allG, he, List.append_nil] at hl1 hl2
        simp only [WW, partV, eqCells, eqLf, minV, maxV, ifcV, zaa, zab, zac, zad, zae, zaf, zag, zah, zai, ofConst, ofConst1, List.replicate, zaj, zak, loadOp, Go.Abs.loadCells, binV, zal, pickV, zam, zan, zao, zap, zaq, zar, zas, zat, zau, outR, resAll, resOne, zav, zaw, zax, zay, zaz, zba, zbb, zbc, zbd, zbe, zbf, zbg, zbh, zbi, zbj, zbk, storeOp, storeCell, overlay, zbl, zbm, zbn, lookupOp, keyT, okRes, mapUpdateOp, zbo, zbp, zbq, zbr, zbs, zbt, zbu, Nat.reduceSub, Nat.reduceAdd, Int.reduceLT, Int.reduceLE, Int.reduceAdd, Int.reduceSub, Int.reduceToNat, Int.reduceBEq, Int.reduceBNe, Int.reduceMul, Nat.reduceBEq, Nat.reduceBNe, Nat.reduceLT, Nat.reduceLeDiff, Nat.reduceMul, Nat.reduceEqDiff, WD, effB, effH, isPriv, isHeap, isImm, zbx, zby, zbz, chkO, setD, dslot, zca, zcb, zcc, zcd, ptrCells_some, F70, g1, g2, hb, hO.shut, hO.grows]
        rw [← hl2, ← hl1]
        exact ⟨y, rfl, hf, hR', hO⟩
      | zero =>
        rw [he] at hb
        have g2 : (((0 : Nat) : Int) == 0) = true := rfl
        simp only [allG, he] at hl1 hl2
        simp only [WW, partV, eqCells, eqLf, minV, maxV, ifcV, zaa, zab, zac, zad, zae, zaf, zag, zah, zai, ofConst, ofConst1, List.replicate, zaj, zak, loadOp, Go.Abs.loadCells, binV, zal, pickV, zam, zan, zao, zap, zaq, zar, zas, zat, zau, outR, resAll, resOne, zav, zaw, zax, zay, zaz, zba, zbb, zbc, zbd, zbe, zbf, zbg, zbh, zbi, zbj, zbk, storeOp, storeCell, overlay, zbl, zbm, zbn, lookupOp, keyT, okRes, mapUpdateOp, zbo, zbp, zbq, zbr, zbs, zbt, zbu, Nat.reduceSub, Nat.reduceAdd, Int.reduceLT, Int.reduceLE, Int.reduceAdd, Int.reduceSub, Int.reduceToNat, Int.reduceBEq, Int.reduceBNe, Int.reduceMul, Nat.reduceBEq, Nat.reduceBNe, Nat.reduceLT, Nat.reduceLeDiff, Nat.reduceMul, Nat.reduceEqDiff, WD, effB, effH, isPriv, isHeap, isImm, zbx, zby, zbz, chkO, setD, dslot, zca, zcb, zcc, zcd, ptrCells_some, F70, g1, g2, hb]
        refine ⟨hcf, wpCall_of (hE H' s1 hf hR') ?_⟩
        rintro out H2 ⟨rfl, hf2, hR2⟩
        have hO2 := hO.mov hwl hf2
        have hwd : wideAll (acc.map rep) 3 = true := wide_mapN hrw acc
        obtain ⟨y3, H3, ha, hO3, hl3, hk3⟩ := own_app (d := some 24) (e := 52) (v := rep (f s1).1) size52 hO2 (by have := (hf.trans hf2).1; omega) (hrw _) hwd (by rw [room52, List.length_map]; simp; omega)
        have hrow : wideAll [rep (f s1).1] 3 = true := by simp [wideAll, hrw]
        have hrc : (rep (f s1).1).cells.length = 3 := hrw _
        have hsub : IntKind.i64.wrap (((n + 1 : Nat) : Int) - 1) = (n : Int) := by rw [IntWalk.i64_in _ (by omega)]; omega
        simp only [WW, partV, eqCells, eqLf, minV, maxV, ifcV, zaa, zab, zac, zad, zae, zaf, zag, zah, zai, ofConst, ofConst1, List.replicate, zaj, zak, loadOp, Go.Abs.loadCells, binV, zal, pickV, zam, zan, zao, zap, zaq, zar, zas, zat, zau, outR, resAll, resOne, zav, zaw, zax, zay, zaz, zba, zbb, zbc, zbd, zbe, zbf, zbg, zbh, zbi, zbj, zbk, storeOp, storeCell, overlay, zbl, zbm, zbn, lookupOp, keyT, okRes, mapUpdateOp, zbo, zbp, zbq, zbr, zbs, zbt, zbu, Nat.reduceSub, Nat.reduceAdd, Int.reduceLT, Int.reduceLE, Int.reduceAdd, Int.reduceSub, Int.reduceToNat, Int.reduceBEq, Int.reduceBNe, Int.reduceMul, Nat.reduceBEq, Nat.reduceBNe, Nat.reduceLT, Nat.reduceLeDiff, Nat.reduceMul, Nat.reduceEqDiff, WD, effB, effH, isPriv, isHeap, isImm, zbx, zby, zbz, chkO, setD, dslot, zca, zcb, zcc, zcd, ptrCells_some, F70, hrs, hro, hrw, hrc, buildSliceV, lits, srcV_eq, srcK_sl, srcK_str, srcSl_nils, srcSl_rsl, srcSl_sl, frow, zbv, zbw, List.all_nil, List.all_cons, rowV, Bool.false_and, Bool.and_false, ne_eq, not_false_eq_true, grows_lr, callOut_t, hO.shut, hO2.shut, ha, hsub]
        have hf3 : Ff w H H3 := ⟨by have := (hf.trans hf2).1; omega, fun i h1 h2 => by rw [hk3 i h1]; exact (hf.trans hf2).2 i h1 h2⟩
        refine ⟨n, by omega, n, (f s1).2, acc ++ [(f s1).1], y3, ?_, rfl, hf3, ?_, by rw [List.map_append]; exact hO3, by rw [List.append_assoc]; exact hl1, hl2, by simp; omega⟩
        · simp only [WN, firstReg, growAll, zbv, zbw, norm, killS, zag, zah, zaa, zab, zbl, zat, zad, growOne, zae, zaf, zac, zas, zak, Nat.reduceLT, Nat.reduceAdd, zbj, zav, F70, hO3.clip2, hsub]
          try rfl
        · exact ⟨by rw [hk3 w hwl]; exact hR2.b, fun H4 h4 => hR.r H4 (hf3.trans h4), hR2.o⟩
theorem allR73 {α : Type} {H : Hp} {w : Nat} {x : V} {L : List Nat} {s : S} {fa : FuncId} {fb fc : List V} (f : S → α × S) (rep : α → V) (hrs : ∀ a st, sealV st (rep a) = rep a) (hro : ∀ a, okV (rep a) = true) (hrw : ∀ a, (rep a).width = 4) (hcf : callable Tryd.prog fa = true)
    (hR : Rr H w x L s) (hL : ∀ y ∈ L, y < 256) (hlen : L.length ≤ 5000000)
    (hE : ∀ (H1 : Hp) (s1 : S), Ff w H H1 → Rr H1 w x L s1 → wpCall EW fa (fb ++ fc) H1 (fun out H2 => out = .ret (rep (f s1).1) false ∧ Ff w H1 H2 ∧ Rr H2 w x L (f s1).2)) :
    wpCall EW 73 [.ptr w 0 0, .fn fa fb fc] H (fun out H' => ∃ y, out = .ret y false ∧ Ff w H H' ∧ Rr H' w x L (allS L f s).2 ∧ Own H' H.length y ((allS L f s).1.map rep)) := by
  have hcl := count_le hR.o
  have hwl := hR.lt
  refine runs f73 b73 r73 n73 _ _ ?_
  simp only [bodyOf, Tryd.f73, Option.getD_some]
  simp only [WW, partV, eqCells, eqLf, minV, maxV, ifcV, zaa, zab, zac, zad, zae, zaf, zag, zah, zai, ofConst, ofConst1, List.replicate, zaj, zak, loadOp, Go.Abs.loadCells, binV, zal, pickV, zam, zan, zao, zap, zaq, zar, zas, zat, zau, outR, resAll, resOne, zav, zaw, zax, zay, zaz, zba, zbb, zbc, zbd, zbe, zbf, zbg, zbh, zbi, zbj, zbk, storeOp, storeCell, overlay, zbl, zbm, zbn, lookupOp, keyT, okRes, mapUpdateOp, zbo, zbp, zbq, zbr, zbs, zbt, zbu, Nat.reduceSub, Nat.reduceAdd, Int.reduceLT, Int.reduceLE, Int.reduceAdd, Int.reduceSub, Int.reduceToNat, Int.reduceBEq, Int.reduceBNe, Int.reduceMul, Nat.reduceBEq, Nat.reduceBNe, Nat.reduceLT, Nat.reduceLeDiff, Nat.reduceMul, Nat.reduceEqDiff, WD, effB, effH, isPriv, isHeap, isImm, zbx, zby, zbz, chkO, setD, dslot, zca, zcb, zcc, zcd, ptrCells_some, F73]
  refine wpCall_of (countR hR hL hlen) ?_
  rintro out H0 ⟨rfl, hf0, hR0⟩
  simp only [WW, partV, eqCells, eqLf, minV, maxV, ifcV, zaa, zab, zac, zad, zae, zaf, zag, zah, zai, ofConst, ofConst1, List.replicate, zaj, zak, loadOp, Go.Abs.loadCells, binV, zal, pickV, zam, zan, zao, zap, zaq, zar, zas, zat, zau, outR, resAll, resOne, zav, zaw, zax, zay, zaz, zba, zbb, zbc, zbd, zbe, zbf, zbg, zbh, zbi, zbj, zbk, storeOp, storeCell, overlay, zbl, zbm, zbn, lookupOp, keyT, okRes, mapUpdateOp, zbo, zbp, zbq, zbr, zbs, zbt, zbu, Nat.reduceSub, Nat.reduceAdd, Int.reduceLT, Int.reduceLE, Int.reduceAdd, Int.reduceSub, Int.reduceToNat, Int.reduceBEq, Int.reduceBNe, Int.reduceMul, Nat.reduceBEq, Nat.reduceBNe, Nat.reduceLT, Nat.reduceLeDiff, Nat.reduceMul, Nat.reduceEqDiff, WD, effB, effH, isPriv, isHeap, isImm, zbx, zby, zbz, chkO, setD, dslot, zca, zcb, zcc, zcd, ptrCells_some, F73]
  refine wC_loop _ (fun k st' H' => ∃ (n : Nat) (s1 : S) (acc : List α) (y : V), st' = ⟨L73_3 (.v (.ptr w 0 0)) (.v (.fn fa fb fc)) (.v y) (.v (.int .i64 n)), [], []⟩ ∧ k = n ∧ Ff w H H' ∧ Rr H' w x L s1 ∧ Own H' H.length y (acc.map rep) ∧ acc ++ (allG f n s1).1 = (allS L f s).1 ∧ (allG f n s1).2 = (allS L f s).2 ∧ acc.length + n ≤ 5000000) (count L s).1 ⟨(count L s).1, (count L s).2, [], .nils, ?_, rfl, hf0, hR0, .inl ⟨rfl, rfl⟩, rfl, rfl, by simp only [List.length_nil]; omega⟩ ?_
  · simp only [WN, firstReg, growAll, zbv, zbw, norm, killS, zag, zah, zaa, zab, zbl, zat, zad, growOne, zae, zaf, zac, zas, zak, Nat.reduceLT, Nat.reduceAdd, zbj, zav, F73, L73_3]
  · rintro k st' H' ⟨n, s1, acc, y, rfl, rfl, hf, hR', hO, hl1, hl2, hle⟩
    simp only [L73_3]
    have hb := hR'.b
    simp only [rdr] at hb
    cases k with
    | zero =>
      have g0 : decide ((0 : Int) < ((0 : Nat) : Int)) = false := rfl
      simp only [allG, List.append_nil] at hl1 hl2
      simp only [WW, partV, eqCells, eqLf, minV, maxV, ifcV, zaa, zab, zac, zad, zae, zaf, zag, zah, zai, ofConst, ofConst1, List.replicate, zaj, zak, loadOp, Go.Abs.loadCells, binV, zal, pickV, zam, zan, zao, zap, zaq, zar, zas, zat, zau, outR, resAll, resOne, zav, zaw, zax, zay, zaz, zba, zbb, zbc, zbd, zbe, zbf, zbg, zbh, zbi, zbj, zbk, storeOp, storeCell, overlay, zbl, zbm, zbn, lookupOp, keyT, okRes, mapUpdateOp, zbo, zbp, zbq, zbr, zbs, zbt, zbu, Nat.reduceSub, Nat.reduceAdd, Int.reduceLT, Int.reduceLE, Int.reduceAdd, Int.reduceSub, Int.reduceToNat, Int.reduceBEq, Int.reduceBNe, Int.reduceMul, Nat.reduceBEq, Nat.reduceBNe, Nat.reduceLT, Nat.reduceLeDiff, Nat.reduceMul, Nat.reduceEqDiff, WD, effB, effH, isPriv, isHeap, isImm, zbx, zby, zbz, chkO, setD, dslot, zca, zcb, zcc, zcd, ptrCells_some, F73, g0, hO.shut, hO.grows]
      rw [← hl2, ← hl1]
      exact ⟨y, rfl, hf, hR', hO⟩
    | succ n =>
      have g1 : decide ((0 : Int) < ((n + 1 : Nat) : Int)) = true := decide_eq_true (by omega)
      cases he : s1.e with
      | succ e1 =>
        rw [he] at hb
        have g2 : (((e1 + 1 : Nat) : Int) == 0) = false := by rw [beq_eq_false_iff_ne]; omega
        simp only [allG, he, List.append_nil] at hl1 hl2
        simp only [WW, partV, eqCells, eqLf, minV, maxV, ifcV, zaa, zab, zac, zad, zae, zaf, zag, zah, zai, ofConst, ofConst1, List.replicate, zaj, zak, loadOp, Go.Abs.loadCells, binV, zal, pickV, zam, zan, zao, zap, zaq, zar, zas, zat, zau, outR, resAll, resOne, zav, zaw, zax, zay, zaz, zba, zbb, zbc, zbd, zbe, zbf, zbg, zbh, zbi, zbj, zbk, storeOp, storeCell, overlay, zbl, zbm, zbn, lookupOp, keyT, okRes, mapUpdateOp, zbo, zbp, zbq, zbr, zbs, zbt, zbu, Nat.reduceSub, Nat.reduceAdd, Int.reduceLT, Int.reduceLE, Int.reduceAdd, Int.reduceSub, Int.reduceToNat, Int.reduceBEq, Int.reduceBNe, Int.reduceMul, Nat.reduceBEq, Nat.reduceBNe, Nat.reduceLT, Nat.reduceLeDiff, Nat.reduceMul, Nat.reduceEqDiff, WD, effB, effH, isPriv, isHeap, isImm, zbx, zby, zbz, chkO, setD, dslot, zca, zcb, zcc, zcd, ptrCells_some, F73, g1, g2, hb, hO.shut, hO.grows]
        rw [← hl2, ← hl1]
        exact ⟨y, rfl, hf, hR', hO⟩
      | zero =>
        rw [he] at hb
        have g2 : (((0 : Nat) : Int) == 0) = true := rfl
        simp only [allG, he] at hl1 hl2
        simp only [WW, partV, eqCells, eqLf, minV, maxV, ifcV, zaa, zab, zac, zad, zae, zaf, zag, zah, zai, ofConst, ofConst1, List.replicate, zaj, zak, loadOp, Go.Abs.loadCells, binV, zal, pickV, zam, zan, zao, zap, zaq, zar, zas, zat, zau, outR, resAll, resOne, zav, zaw, zax, zay, zaz, zba, zbb, zbc, zbd, zbe, zbf, zbg, zbh, zbi, zbj, zbk, storeOp, storeCell, overlay, zbl, zbm, zbn, lookupOp, keyT, okRes, mapUpdateOp, zbo, zbp, zbq, zbr, zbs, zbt, zbu, Nat.reduceSub, Nat.reduceAdd, Int.reduceLT, Int.reduceLE, Int.reduceAdd, Int.reduceSub, Int.reduceToNat, Int.reduceBEq, Int.reduceBNe, Int.reduceMul, Nat.reduceBEq, Nat.reduceBNe, Nat.reduceLT, Nat.reduceLeDiff, Nat.reduceMul, Nat.reduceEqDiff, WD, effB, effH, isPriv, isHeap, isImm, zbx, zby, zbz, chkO, setD, dslot, zca, zcb, zcc, zcd, ptrCells_some, F73, g1, g2, hb]
        refine ⟨hcf, wpCall_of (hE H' s1 hf hR') ?_⟩
        rintro out H2 ⟨rfl, hf2, hR2⟩
        have hO2 := hO.mov hwl hf2
        have hwd : wideAll (acc.map rep) 4 = true := wide_mapN hrw acc
        obtain ⟨y3, H3, ha, hO3, hl3, hk3⟩ := own_app (d := some 24) (e := 107) (v := rep (f s1).1) size107 hO2 (by have := (hf.trans hf2).1; omega) (hrw _) hwd (by rw [room107, List.length_map]; simp; omega)
        have hrow : wideAll [rep (f s1).1] 4 = true := by simp [wideAll, hrw]
        have hrc : (rep (f s1).1).cells.length = 4 := hrw _
        have hsub : IntKind.i64.wrap (((n + 1 : Nat) : Int) - 1) = (n : Int) := by rw [IntWalk.i64_in _ (by omega)]; omega
        simp only [WW, partV, eqCells, eqLf, minV, maxV, ifcV, zaa, zab, zac, zad, zae, zaf, zag, zah, zai, ofConst, ofConst1, List.replicate, zaj, zak, loadOp, Go.Abs.loadCells, binV, zal, pickV, zam, zan, zao, zap, zaq, zar, zas, zat, zau, outR, resAll, resOne, zav, zaw, zax, zay, zaz, zba, zbb, zbc, zbd, zbe, zbf, zbg, zbh, zbi, zbj, zbk, storeOp, storeCell, overlay, zbl, zbm, zbn, lookupOp, keyT, okRes, mapUpdateOp, zbo, zbp, zbq, zbr, zbs, zbt, zbu, Nat.reduceSub, Nat.reduceAdd, Int.reduceLT, Int.reduceLE, Int.reduceAdd, Int.reduceSub, Int.reduceToNat, Int.reduceBEq, Int.reduceBNe, Int.reduceMul, Nat.reduceBEq, Nat.reduceBNe, Nat.reduceLT, Nat.reduceLeDiff, Nat.reduceMul, Nat.reduceEqDiff, WD, effB, effH, isPriv, isHeap, isImm, zbx, zby, zbz, chkO, setD, dslot, zca, zcb, zcc, zcd, ptrCells_some, F73, hrs, hro, hrw, hrc, buildSliceV, lits, srcV_eq, srcK_sl, srcK_str, srcSl_nils, srcSl_rsl, srcSl_sl, frow, zbv, zbw, List.all_nil, List.all_cons, rowV, Bool.false_and, Bool.and_false, ne_eq, not_false_eq_true, grows_lr, callOut_t, hO.shut, hO2.shut, ha, hsub]
        have hf3 : Ff w H H3 := ⟨by have := (hf.trans hf2).1; omega, fun i h1 h2 => by rw [hk3 i h1]; exact (hf.trans hf2).2 i h1 h2⟩
        refine ⟨n, by omega, n, (f s1).2, acc ++ [(f s1).1], y3, ?_, rfl, hf3, ?_, by rw [List.map_append]; exact hO3, by rw [List.append_assoc]; exact hl1, hl2, by simp; omega⟩
        · simp only [WN, firstReg, growAll, zbv, zbw, norm, killS, zag, zah, zaa, zab, zbl, zat, zad, growOne, zae, zaf, zac, zas, zak, Nat.reduceLT, Nat.reduceAdd, zbj, zav, F73, hO3.clip2, hsub]
          try rfl
        · exact ⟨by rw [hk3 w hwl]; exact hR2.b, fun H4 h4 => hR.r H4 (hf3.trans h4), hR2.o⟩
end Go.Proofs.YtgjobbmbbedecaaDoor

/- The program's reader: strings, a function's parts. -/
namespace Go.Proofs.YtgjobbmbbedecaaDoor
open Go Go.Abs Go.Proofs
set_option maxRecDepth 100000
set_option maxHeartbeats 4000000
set_option linter.unusedVariables false
set_option linter.unusedSimpArgs false
def keyV (k : List Int) : V := repL (k.map intV)
theorem clos45 {H : Hp} {w c : Nat} {x : V} {L : List Nat} {s : S} (hC : H[c]? = some (.cells [.ptr w 0 0])) (hR : Rr H w x L s) (hL : ∀ y ∈ L, y < 256) (hlen : L.length ≤ 5000000) :
    wpCall EW 45 [.ptr c 0 0] H (fun out H' => out = .ret (keyV (keysS L s).1) false ∧ Ff w H H' ∧ Rr H' w x L (keysS L s).2) := by
  refine runs f45 b45 r45 n45 _ _ ?_
  simp only [bodyOf, Tryd.f45, Option.getD_some]
  simp only [WW, partV, eqCells, eqLf, minV, maxV, ifcV, zaa, zab, zac, zad, zae, zaf, zag, zah, zai, ofConst, ofConst1, List.replicate, zaj, zak, loadOp, Go.Abs.loadCells, binV, zal, pickV, zam, zan, zao, zap, zaq, zar, zas, zat, zau, outR, resAll, resOne, zav, zaw, zax, zay, zaz, zba, zbb, zbc, zbd, zbe, zbf, zbg, zbh, zbi, zbj, zbk, storeOp, storeCell, overlay, zbl, zbm, zbn, lookupOp, keyT, okRes, mapUpdateOp, zbo, zbp, zbq, zbr, zbs, zbt, zbu, Nat.reduceSub, Nat.reduceAdd, Int.reduceLT, Int.reduceLE, Int.reduceAdd, Int.reduceSub, Int.reduceToNat, Int.reduceBEq, Int.reduceBNe, Int.reduceMul, Nat.reduceBEq, Nat.reduceBNe, Nat.reduceLT, Nat.reduceLeDiff, Nat.reduceMul, Nat.reduceEqDiff, WD, effB, effH, isPriv, isHeap, isImm, zbx, zby, zbz, chkO, setD, dslot, zca, zcb, zcc, zcd, ptrCells_some, F45, hC]
  refine wpCall_of (allR46 (intS L) intV (fun _ _ => rfl) (fun _ => rfl) (fun _ => rfl) call47 hR hL hlen (fun H1 s1 h1 h2 => numR h2 hL hlen)) ?_
  rintro out H2 ⟨y, rfl, hf, hR2, hO⟩
  obtain ⟨H3, h1, h2, h3⟩ := own_done hf hR.lt hR.r hR2 hO
  simp only [WW, partV, eqCells, eqLf, minV, maxV, ifcV, zaa, zab, zac, zad, zae, zaf, zag, zah, zai, ofConst, ofConst1, List.replicate, zaj, zak, loadOp, Go.Abs.loadCells, binV, zal, pickV, zam, zan, zao, zap, zaq, zar, zas, zat, zau, outR, resAll, resOne, zav, zaw, zax, zay, zaz, zba, zbb, zbc, zbd, zbe, zbf, zbg, zbh, zbi, zbj, zbk, storeOp, storeCell, overlay, zbl, zbm, zbn, lookupOp, keyT, okRes, mapUpdateOp, zbo, zbp, zbq, zbr, zbs, zbt, zbu, Nat.reduceSub, Nat.reduceAdd, Int.reduceLT, Int.reduceLE, Int.reduceAdd, Int.reduceSub, Int.reduceToNat, Int.reduceBEq, Int.reduceBNe, Int.reduceMul, Nat.reduceBEq, Nat.reduceBNe, Nat.reduceLT, Nat.reduceLeDiff, Nat.reduceMul, Nat.reduceEqDiff, WD, effB, effH, isPriv, isHeap, isImm, zbx, zby, zbz, chkO, setD, dslot, zca, zcb, zcc, zcd, ptrCells_some, F45, h1, repL_shut, repL_grows]
  exact ⟨rfl, h2, h3⟩
theorem strOf_bsL : ∀ l : List Nat, strOf (bs l) = some (strL l) := fun l => by
  have h0 : ∀ l : List Nat, Abs.bytesOf (bs l) = some (l.map UInt8.ofNat) := fun l => by
    induction l with
    | nil => rfl
    | cons a l ih =>
      show ((some (UInt8.ofNat (a : Int).toNat)).bind fun b => (Abs.bytesOf (bs l)).map (b :: ·)) = _
      rw [ih, Int.toNat_natCast]; rfl
  simp [strOf, h0, strL]
theorem bs_drop (L : List Nat) (a : Nat) : (bs L).drop a = bs (L.drop a) := by simp [bs]
theorem bs_take (L : List Nat) (a : Nat) : (bs L).take a = bs (L.take a) := by simp [bs]
/-- A part of a slice of bytes that is read -/
theorem rd_part {H : Hp} {x : V} {L : List Nat} (h : RdB H x L) {a b : Nat} (hab : a + b ≤ L.length) :
    ∃ z, (∀ st, sliceOp Tryd.prog st H 29 x (some (.int .i64 (a : Nat))) (some (.int .i64 ((a + b : Nat) : Int))) none = some z) ∧ contV H z = some (bs ((L.drop a).take b)) ∧ (∀ st, sealV st z = z) := by
  obtain ⟨h, hw⟩ := h
  have hz := h.shutIn
  have hb1 : boundV (some (V.int .i64 ((a + b : Nat) : Int))) = fun _ => some (a + b) := by
    funext d; simp only [boundV]; rw [if_pos (by omega), Int.toNat_natCast]
  have hb2 : boundV (some (V.int .i64 (a : Nat))) = fun _ => some a := by
    funext d; simp only [boundV]; rw [if_pos (by omega), Int.toNat_natCast]
  have rslCase : ∀ (row : List V), row = bs L → ∀ st, viewV H (sealV st x) = .rsl row → sliceOp Tryd.prog st H 29 x (some (.int .i64 (a : Nat))) (some (.int .i64 ((a + b : Nat) : Int))) none = some (.rsl ((row.take (a + b)).drop a)) := fun row hr st hv => by
    have e : (a ≤ a + b ∧ a + b ≤ row.length ∧ wideAll row (sizeT Tryd.prog 5) = true) := ⟨by omega, by rw [hr, bs_len]; exact hab, by rw [size5, hr]; exact wide_bs L⟩
    simp only [sliceOp, ix29, hv, hb1, hb2, Option.bind_some]
    rw [if_pos e]
  have hcont : ∀ row : List V, row = bs L → contV H (.rsl ((row.take (a + b)).drop a)) = some (bs ((L.drop a).take b)) := fun row hr => by
    rw [(Rd.rsl (H := H) _).cont, hr, bs_take, bs_drop, List.drop_take]
    congr 4; omega
  generalize hl : bs L = l at h
  cases h with
  | nils =>
    have hL : L = [] := by cases L with
      | nil => rfl
      | cons a r => simp [bs] at hl
    subst hL
    have : a = 0 ∧ b = 0 := by simp at hab; omega
    obtain ⟨rfl, rfl⟩ := this
    refine ⟨.nils, fun st => ?_, rfl, fun _ => rfl⟩
    simp only [sliceOp, ix29, viewV, sealV, hb1, hb2, Option.bind_some]
    rfl
  | rsl l => exact ⟨_, fun st => rslCase l hl.symm st rfl, hcont l hl.symm, fun _ => rfl⟩
  | hr id n ns _ h1 h2 h3 => exact ⟨_, fun st => rslCase l hl.symm st (view_hr' h1 h2 h3), hcont l hl.symm, fun _ => rfl⟩
  | sl id lo len es h1 h2 =>
    have hwe := hw id lo len es rfl h1
    have hlen : len = L.length := by
      have := congrArg List.length hl
      simp only [bs_len, List.length_take, List.length_drop] at this
      omega
    refine ⟨if a = 0 then .sl id lo (a + b) else if a = a + b then .rsl [] else .sl id (lo + a) (a + b - a), fun st => ?_, ?_, fun st => ?_⟩
    · have e : (a ≤ a + b ∧ lo + (a + b) ≤ es.length ∧ wideAll es (sizeT Tryd.prog 5) = true) := ⟨by omega, by omega, by rw [size5]; exact hwe⟩
      simp only [sliceOp, ix29, viewV, sealV, hb1, hb2, Option.bind_some, h1]
      rw [if_pos e]
    rotate_left
    · split
      · rfl
      · split <;> rfl
    · have key : (es.drop (lo + a)).take b = bs ((L.drop a).take b) := by
        rw [← bs_take, ← bs_drop, hl, List.drop_take, List.drop_drop, List.take_take]
        congr 1; omega
      by_cases h0 : a = 0
      · subst h0
        rw [if_pos rfl]
        have := (Rd.sl (H := H) id lo (0 + b) es h1 (by omega)).cont
        rw [this, ← key]
        simp
      · rw [if_neg h0]
        by_cases h4 : a = a + b
        · have hb : b = 0 := by omega
          subst hb
          rw [if_pos (by omega), (Rd.rsl (H := H) _).cont]
          simp [bs]
        · rw [if_neg h4]
          have := (Rd.sl (H := H) id (lo + a) (a + b - a) es h1 (by omega)).cont
          rw [this, ← key]
          congr 2; omega
theorem text43 {H : Hp} {w : Nat} {x : V} {L : List Nat} {s : S} (hR : Rr H w x L s) (hL : ∀ y ∈ L, y < 256) (hlen : L.length ≤ 5000000) :
    wpCall EW 43 [.ptr w 0 0] H (fun out H' => out = .ret (.str (textS L s).1) false ∧ Ff w H H' ∧ Rr H' w x L (textS L s).2) := by
  have hle := count_le hR.o
  refine runs f43 b43 r43 n43 _ _ ?_
  simp only [bodyOf, Tryd.f43, Option.getD_some]
  simp only [WW, partV, eqCells, eqLf, minV, maxV, ifcV, zaa, zab, zac, zad, zae, zaf, zag, zah, zai, ofConst, ofConst1, List.replicate, zaj, zak, loadOp, Go.Abs.loadCells, binV, zal, pickV, zam, zan, zao, zap, zaq, zar, zas, zat, zau, outR, resAll, resOne, zav, zaw, zax, zay, zaz, zba, zbb, zbc, zbd, zbe, zbf, zbg, zbh, zbi, zbj, zbk, storeOp, storeCell, overlay, zbl, zbm, zbn, lookupOp, keyT, okRes, mapUpdateOp, zbo, zbp, zbq, zbr, zbs, zbt, zbu, Nat.reduceSub, Nat.reduceAdd, Int.reduceLT, Int.reduceLE, Int.reduceAdd, Int.reduceSub, Int.reduceToNat, Int.reduceBEq, Int.reduceBNe, Int.reduceMul, Nat.reduceBEq, Nat.reduceBNe, Nat.reduceLT, Nat.reduceLeDiff, Nat.reduceMul, Nat.reduceEqDiff, WD, effB, effH, isPriv, isHeap, isImm, zbx, zby, zbz, chkO, setD, dslot, zca, zcb, zcc, zcd, ptrCells_some, F43]
  refine wpCall_of (countR hR hL hlen) ?_
  rintro out H1 ⟨rfl, hf1, hR1⟩
  unfold textS
  simp only
  have ho := hR1.o
  have hb := hR1.b
  simp only [rdr] at hb
  generalize count L s = r at *
  obtain ⟨n, q, e⟩ := r
  simp only at *
  obtain ⟨z, hz, hc, hzs⟩ := rd_part (hR1.r _ Ff.refl) hle
  have hx := hR1.rd
  have hadd : IntKind.i64.wrap ((q : Int) + (n : Int)) = ((q + n : Nat) : Int) := by rw [IntWalk.i64_in _ (by omega)]; omega
  simp only [WW, partV, eqCells, eqLf, minV, maxV, ifcV, zaa, zab, zac, zad, zae, zaf, zag, zah, zai, ofConst, ofConst1, List.replicate, zaj, zak, loadOp, Go.Abs.loadCells, binV, zal, pickV, zam, zan, zao, zap, zaq, zar, zas, zat, zau, outR, resAll, resOne, zav, zaw, zax, zay, zaz, zba, zbb, zbc, zbd, zbe, zbf, zbg, zbh, zbi, zbj, zbk, storeOp, storeCell, overlay, zbl, zbm, zbn, lookupOp, keyT, okRes, mapUpdateOp, zbo, zbp, zbq, zbr, zbs, zbt, zbu, Nat.reduceSub, Nat.reduceAdd, Int.reduceLT, Int.reduceLE, Int.reduceAdd, Int.reduceSub, Int.reduceToNat, Int.reduceBEq, Int.reduceBNe, Int.reduceMul, Nat.reduceBEq, Nat.reduceBNe, Nat.reduceLT, Nat.reduceLeDiff, Nat.reduceMul, Nat.reduceEqDiff, WD, effB, effH, isPriv, isHeap, isImm, zbx, zby, zbz, chkO, setD, dslot, zca, zcb, zcc, zcd, ptrCells_some, F43]
  refine wC_dr alts43_2 (by kernel_rfl) ?_
  have hwl := hR1.lt
  cases e with
  | succ e1 =>
    have h3 : (((e1 + 1 : Nat) : Int) == 0) = false := by rw [beq_eq_false_iff_ne]; omega
    simp only [WW, partV, eqCells, eqLf, minV, maxV, ifcV, zaa, zab, zac, zad, zae, zaf, zag, zah, zai, ofConst, ofConst1, List.replicate, zaj, zak, loadOp, Go.Abs.loadCells, binV, zal, pickV, zam, zan, zao, zap, zaq, zar, zas, zat, zau, outR, resAll, resOne, zav, zaw, zax, zay, zaz, zba, zbb, zbc, zbd, zbe, zbf, zbg, zbh, zbi, zbj, zbk, storeOp, storeCell, overlay, zbl, zbm, zbn, lookupOp, keyT, okRes, mapUpdateOp, zbo, zbp, zbq, zbr, zbs, zbt, zbu, Nat.reduceSub, Nat.reduceAdd, Int.reduceLT, Int.reduceLE, Int.reduceAdd, Int.reduceSub, Int.reduceToNat, Int.reduceBEq, Int.reduceBNe, Int.reduceMul, Nat.reduceBEq, Nat.reduceBNe, Nat.reduceLT, Nat.reduceLeDiff, Nat.reduceMul, Nat.reduceEqDiff, WD, effB, effH, isPriv, isHeap, isImm, zbx, zby, zbz, chkO, setD, dslot, zca, zcb, zcc, zcd, ptrCells_some, F43, hb, alts43_2, hx.shutIn, hadd, Option.map_none, hz, hzs, convertOp, hc, strOf_bsL, h3]
    exact ⟨hf1, hR1⟩
  | zero =>
    have h3 : (((0 : Nat) : Int) == 0) = true := rfl
    have hR2 := hR1.to (s' := ⟨q + n, 0⟩) hle
    have hb2 : (H1.set w (.cells [.agg [x, .int .i64 ((q + n : Nat) : Int), .int .i64 ((0 : Nat) : Int)]]))[w]? = some (.cells [.agg [x, .int .i64 ((q + n : Nat) : Int), .int .i64 ((0 : Nat) : Int)]]) := List.getElem?_set_self hwl
    simp only [WW, partV, eqCells, eqLf, minV, maxV, ifcV, zaa, zab, zac, zad, zae, zaf, zag, zah, zai, ofConst, ofConst1, List.replicate, zaj, zak, loadOp, Go.Abs.loadCells, binV, zal, pickV, zam, zan, zao, zap, zaq, zar, zas, zat, zau, outR, resAll, resOne, zav, zaw, zax, zay, zaz, zba, zbb, zbc, zbd, zbe, zbf, zbg, zbh, zbi, zbj, zbk, storeOp, storeCell, overlay, zbl, zbm, zbn, lookupOp, keyT, okRes, mapUpdateOp, zbo, zbp, zbq, zbr, zbs, zbt, zbu, Nat.reduceSub, Nat.reduceAdd, Int.reduceLT, Int.reduceLE, Int.reduceAdd, Int.reduceSub, Int.reduceToNat, Int.reduceBEq, Int.reduceBNe, Int.reduceMul, Nat.reduceBEq, Nat.reduceBNe, Nat.reduceLT, Nat.reduceLeDiff, Nat.reduceMul, Nat.reduceEqDiff, WD, effB, effH, isPriv, isHeap, isImm, zbx, zby, zbz, chkO, setD, dslot, zca, zcb, zcc, zcd, ptrCells_some, F43, hb, alts43_2, hx.shutIn, hadd, Option.map_none, hz, hzs, convertOp, hc, strOf_bsL, h3, storeHeap, promote, heapSet, elemSet, hb2]
    exact ⟨hf1.trans (Ff.set _), hR2⟩
theorem clos69 {H : Hp} {w c : Nat} {x : V} {L : List Nat} {s : S} (hC : H[c]? = some (.cells [.ptr w 0 0])) (hcw : c ≠ w) (hR : Rr H w x L s) (hL : ∀ y ∈ L, y < 256) (hlen : L.length ≤ 5000000) :
    wpCall EW 69 [.ptr c 0 0] H (fun out H' => out = .ret (capV (capS L s).1) false ∧ Ff w H H' ∧ Rr H' w x L (capS L s).2) := by
  have hcl := (List.getElem?_eq_some_iff.1 hC).1
  refine runs f69 b69 r69 n69 _ _ ?_
  simp only [bodyOf, Tryd.f69, Option.getD_some]
  simp only [WW, partV, eqCells, eqLf, minV, maxV, ifcV, zaa, zab, zac, zad, zae, zaf, zag, zah, zai, ofConst, ofConst1, List.replicate, zaj, zak, loadOp, Go.Abs.loadCells, binV, zal, pickV, zam, zan, zao, zap, zaq, zar, zas, zat, zau, outR, resAll, resOne, zav, zaw, zax, zay, zaz, zba, zbb, zbc, zbd, zbe, zbf, zbg, zbh, zbi, zbj, zbk, storeOp, storeCell, overlay, zbl, zbm, zbn, lookupOp, keyT, okRes, mapUpdateOp, zbo, zbp, zbq, zbr, zbs, zbt, zbu, Nat.reduceSub, Nat.reduceAdd, Int.reduceLT, Int.reduceLE, Int.reduceAdd, Int.reduceSub, Int.reduceToNat, Int.reduceBEq, Int.reduceBNe, Int.reduceMul, Nat.reduceBEq, Nat.reduceBNe, Nat.reduceLT, Nat.reduceLeDiff, Nat.reduceMul, Nat.reduceEqDiff, WD, effB, effH, isPriv, isHeap, isImm, zbx, zby, zbz, chkO, setD, dslot, zca, zcb, zcc, zcd, ptrCells_some, F69, hC]
  refine wpCall_of (numR hR hL hlen) ?_
  rintro out H1 ⟨rfl, hf1, hR1⟩
  have hC1 := (hf1.2 c hcl hcw).trans hC
  simp only [WW, partV, eqCells, eqLf, minV, maxV, ifcV, zaa, zab, zac, zad, zae, zaf, zag, zah, zai, ofConst, ofConst1, List.replicate, zaj, zak, loadOp, Go.Abs.loadCells, binV, zal, pickV, zam, zan, zao, zap, zaq, zar, zas, zat, zau, outR, resAll, resOne, zav, zaw, zax, zay, zaz, zba, zbb, zbc, zbd, zbe, zbf, zbg, zbh, zbi, zbj, zbk, storeOp, storeCell, overlay, zbl, zbm, zbn, lookupOp, keyT, okRes, mapUpdateOp, zbo, zbp, zbq, zbr, zbs, zbt, zbu, Nat.reduceSub, Nat.reduceAdd, Int.reduceLT, Int.reduceLE, Int.reduceAdd, Int.reduceSub, Int.reduceToNat, Int.reduceBEq, Int.reduceBNe, Int.reduceMul, Nat.reduceBEq, Nat.reduceBNe, Nat.reduceLT, Nat.reduceLeDiff, Nat.reduceMul, Nat.reduceEqDiff, WD, effB, effH, isPriv, isHeap, isImm, zbx, zby, zbz, chkO, setD, dslot, zca, zcb, zcc, zcd, ptrCells_some, F69, hC1]
  refine wpCall_of (numR hR1 hL hlen) ?_
  rintro out H2 ⟨rfl, hf2, hR2⟩
  simp only [WW, partV, eqCells, eqLf, minV, maxV, ifcV, zaa, zab, zac, zad, zae, zaf, zag, zah, zai, ofConst, ofConst1, List.replicate, zaj, zak, loadOp, Go.Abs.loadCells, binV, zal, pickV, zam, zan, zao, zap, zaq, zar, zas, zat, zau, outR, resAll, resOne, zav, zaw, zax, zay, zaz, zba, zbb, zbc, zbd, zbe, zbf, zbg, zbh, zbi, zbj, zbk, storeOp, storeCell, overlay, zbl, zbm, zbn, lookupOp, keyT, okRes, mapUpdateOp, zbo, zbp, zbq, zbr, zbs, zbt, zbu, Nat.reduceSub, Nat.reduceAdd, Int.reduceLT, Int.reduceLE, Int.reduceAdd, Int.reduceSub, Int.reduceToNat, Int.reduceBEq, Int.reduceBNe, Int.reduceMul, Nat.reduceBEq, Nat.reduceBNe, Nat.reduceLT, Nat.reduceLeDiff, Nat.reduceMul, Nat.reduceEqDiff, WD, effB, effH, isPriv, isHeap, isImm, zbx, zby, zbz, chkO, setD, dslot, zca, zcb, zcc, zcd, ptrCells_some, F69, buildOp, fillV, Lay.place, Bool.or_self, Bool.or_false, Bool.false_or, decide_not, ne_eq, not_true_eq_false, decide_eq_true_eq, Nat.lt_irrefl]
  exact ⟨rfl, hf1.trans hf2, hR2⟩
theorem clos71 {H : Hp} {w c : Nat} {x : V} {L : List Nat} {s : S} (hC : H[c]? = some (.cells [.ptr w 0 0])) (hcw : c ≠ w) (hR : Rr H w x L s) (hL : ∀ y ∈ L, y < 256) (hlen : L.length ≤ 5000000) :
    wpCall EW 71 [.ptr c 0 0] H (fun out H' => out = .ret (inV (insS L s).1) false ∧ Ff w H H' ∧ Rr H' w x L (insS L s).2) := by
  have hcl := (List.getElem?_eq_some_iff.1 hC).1
  refine runs f71 b71 r71 n71 _ _ ?_
  simp only [bodyOf, Tryd.f71, Option.getD_some]
  simp only [WW, partV, eqCells, eqLf, minV, maxV, ifcV, zaa, zab, zac, zad, zae, zaf, zag, zah, zai, ofConst, ofConst1, List.replicate, zaj, zak, loadOp, Go.Abs.loadCells, binV, zal, pickV, zam, zan, zao, zap, zaq, zar, zas, zat, zau, outR, resAll, resOne, zav, zaw, zax, zay, zaz, zba, zbb, zbc, zbd, zbe, zbf, zbg, zbh, zbi, zbj, zbk, storeOp, storeCell, overlay, zbl, zbm, zbn, lookupOp, keyT, okRes, mapUpdateOp, zbo, zbp, zbq, zbr, zbs, zbt, zbu, Nat.reduceSub, Nat.reduceAdd, Int.reduceLT, Int.reduceLE, Int.reduceAdd, Int.reduceSub, Int.reduceToNat, Int.reduceBEq, Int.reduceBNe, Int.reduceMul, Nat.reduceBEq, Nat.reduceBNe, Nat.reduceLT, Nat.reduceLeDiff, Nat.reduceMul, Nat.reduceEqDiff, WD, effB, effH, isPriv, isHeap, isImm, zbx, zby, zbz, chkO, setD, dslot, zca, zcb, zcc, zcd, ptrCells_some, F71, hC]
  refine wpCall_of (numR hR hL hlen) ?_
  rintro out H1 ⟨rfl, hf1, hR1⟩
  have hC1 := (hf1.2 c hcl hcw).trans hC
  simp only [WW, partV, eqCells, eqLf, minV, maxV, ifcV, zaa, zab, zac, zad, zae, zaf, zag, zah, zai, ofConst, ofConst1, List.replicate, zaj, zak, loadOp, Go.Abs.loadCells, binV, zal, pickV, zam, zan, zao, zap, zaq, zar, zas, zat, zau, outR, resAll, resOne, zav, zaw, zax, zay, zaz, zba, zbb, zbc, zbd, zbe, zbf, zbg, zbh, zbi, zbj, zbk, storeOp, storeCell, overlay, zbl, zbm, zbn, lookupOp, keyT, okRes, mapUpdateOp, zbo, zbp, zbq, zbr, zbs, zbt, zbu, Nat.reduceSub, Nat.reduceAdd, Int.reduceLT, Int.reduceLE, Int.reduceAdd, Int.reduceSub, Int.reduceToNat, Int.reduceBEq, Int.reduceBNe, Int.reduceMul, Nat.reduceBEq, Nat.reduceBNe, Nat.reduceLT, Nat.reduceLeDiff, Nat.reduceMul, Nat.reduceEqDiff, WD, effB, effH, isPriv, isHeap, isImm, zbx, zby, zbz, chkO, setD, dslot, zca, zcb, zcc, zcd, ptrCells_some, F71, hC1, buildOp, fillV, Lay.place, Bool.or_self, Bool.or_false, Bool.false_or, decide_not, ne_eq, not_true_eq_false, decide_eq_true_eq, Nat.lt_irrefl]
  refine wpCall_of (sgnR hR1 hL hlen) ?_
  rintro out H2 ⟨rfl, hf2, hR2⟩
  have hC2 := (hf2.2 c (Nat.lt_of_lt_of_le hcl hf1.1) hcw).trans hC1
  simp only [WW, partV, eqCells, eqLf, minV, maxV, ifcV, zaa, zab, zac, zad, zae, zaf, zag, zah, zai, ofConst, ofConst1, List.replicate, zaj, zak, loadOp, Go.Abs.loadCells, binV, zal, pickV, zam, zan, zao, zap, zaq, zar, zas, zat, zau, outR, resAll, resOne, zav, zaw, zax, zay, zaz, zba, zbb, zbc, zbd, zbe, zbf, zbg, zbh, zbi, zbj, zbk, storeOp, storeCell, overlay, zbl, zbm, zbn, lookupOp, keyT, okRes, mapUpdateOp, zbo, zbp, zbq, zbr, zbs, zbt, zbu, Nat.reduceSub, Nat.reduceAdd, Int.reduceLT, Int.reduceLE, Int.reduceAdd, Int.reduceSub, Int.reduceToNat, Int.reduceBEq, Int.reduceBNe, Int.reduceMul, Nat.reduceBEq, Nat.reduceBNe, Nat.reduceLT, Nat.reduceLeDiff, Nat.reduceMul, Nat.reduceEqDiff, WD, effB, effH, isPriv, isHeap, isImm, zbx, zby, zbz, chkO, setD, dslot, zca, zcb, zcc, zcd, ptrCells_some, F71, hC2, buildOp, fillV, Lay.place, Bool.or_self, Bool.or_false, Bool.false_or, decide_not, ne_eq, not_true_eq_false, decide_eq_true_eq, Nat.lt_irrefl]
  refine wpCall_of (sgnR hR2 hL hlen) ?_
  rintro out H3 ⟨rfl, hf3, hR3⟩
  simp only [WW, partV, eqCells, eqLf, minV, maxV, ifcV, zaa, zab, zac, zad, zae, zaf, zag, zah, zai, ofConst, ofConst1, List.replicate, zaj, zak, loadOp, Go.Abs.loadCells, binV, zal, pickV, zam, zan, zao, zap, zaq, zar, zas, zat, zau, outR, resAll, resOne, zav, zaw, zax, zay, zaz, zba, zbb, zbc, zbd, zbe, zbf, zbg, zbh, zbi, zbj, zbk, storeOp, storeCell, overlay, zbl, zbm, zbn, lookupOp, keyT, okRes, mapUpdateOp, zbo, zbp, zbq, zbr, zbs, zbt, zbu, Nat.reduceSub, Nat.reduceAdd, Int.reduceLT, Int.reduceLE, Int.reduceAdd, Int.reduceSub, Int.reduceToNat, Int.reduceBEq, Int.reduceBNe, Int.reduceMul, Nat.reduceBEq, Nat.reduceBNe, Nat.reduceLT, Nat.reduceLeDiff, Nat.reduceMul, Nat.reduceEqDiff, WD, effB, effH, isPriv, isHeap, isImm, zbx, zby, zbz, chkO, setD, dslot, zca, zcb, zcc, zcd, ptrCells_some, F71, buildOp, fillV, Lay.place, Bool.or_self, Bool.or_false, Bool.false_or, decide_not, ne_eq, not_true_eq_false, decide_eq_true_eq, Nat.lt_irrefl]
  exact ⟨rfl, (hf1.trans hf2).trans hf3, hR3⟩
theorem clos74 {H : Hp} {w c : Nat} {x : V} {L : List Nat} {s : S} (hC : H[c]? = some (.cells [.ptr w 0 0])) (hcw : c ≠ w) (hR : Rr H w x L s) (hL : ∀ y ∈ L, y < 256) (hlen : L.length ≤ 5000000) :
    wpCall EW 74 [.ptr c 0 0] H (fun out H' => out = .ret (tryV (tryS L s).1) false ∧ Ff w H H' ∧ Rr H' w x L (tryS L s).2) := by
  have hcl := (List.getElem?_eq_some_iff.1 hC).1
  refine runs f74 b74 r74 n74 _ _ ?_
  simp only [bodyOf, Tryd.f74, Option.getD_some]
  simp only [WW, partV, eqCells, eqLf, minV, maxV, ifcV, zaa, zab, zac, zad, zae, zaf, zag, zah, zai, ofConst, ofConst1, List.replicate, zaj, zak, loadOp, Go.Abs.loadCells, binV, zal, pickV, zam, zan, zao, zap, zaq, zar, zas, zat, zau, outR, resAll, resOne, zav, zaw, zax, zay, zaz, zba, zbb, zbc, zbd, zbe, zbf, zbg, zbh, zbi, zbj, zbk, storeOp, storeCell, overlay, zbl, zbm, zbn, lookupOp, keyT, okRes, mapUpdateOp, zbo, zbp, zbq, zbr, zbs, zbt, zbu, Nat.reduceSub, Nat.reduceAdd, Int.reduceLT, Int.reduceLE, Int.reduceAdd, Int.reduceSub, Int.reduceToNat, Int.reduceBEq, Int.reduceBNe, Int.reduceMul, Nat.reduceBEq, Nat.reduceBNe, Nat.reduceLT, Nat.reduceLeDiff, Nat.reduceMul, Nat.reduceEqDiff, WD, effB, effH, isPriv, isHeap, isImm, zbx, zby, zbz, chkO, setD, dslot, zca, zcb, zcc, zcd, ptrCells_some, F74, hC]
  refine wpCall_of (numR hR hL hlen) ?_
  rintro out H1 ⟨rfl, hf1, hR1⟩
  have hC1 := (hf1.2 c hcl hcw).trans hC
  simp only [WW, partV, eqCells, eqLf, minV, maxV, ifcV, zaa, zab, zac, zad, zae, zaf, zag, zah, zai, ofConst, ofConst1, List.replicate, zaj, zak, loadOp, Go.Abs.loadCells, binV, zal, pickV, zam, zan, zao, zap, zaq, zar, zas, zat, zau, outR, resAll, resOne, zav, zaw, zax, zay, zaz, zba, zbb, zbc, zbd, zbe, zbf, zbg, zbh, zbi, zbj, zbk, storeOp, storeCell, overlay, zbl, zbm, zbn, lookupOp, keyT, okRes, mapUpdateOp, zbo, zbp, zbq, zbr, zbs, zbt, zbu, Nat.reduceSub, Nat.reduceAdd, Int.reduceLT, Int.reduceLE, Int.reduceAdd, Int.reduceSub, Int.reduceToNat, Int.reduceBEq, Int.reduceBNe, Int.reduceMul, Nat.reduceBEq, Nat.reduceBNe, Nat.reduceLT, Nat.reduceLeDiff, Nat.reduceMul, Nat.reduceEqDiff, WD, effB, effH, isPriv, isHeap, isImm, zbx, zby, zbz, chkO, setD, dslot, zca, zcb, zcc, zcd, ptrCells_some, F74, hC1, buildOp, fillV, Lay.place, Bool.or_self, Bool.or_false, Bool.false_or, decide_not, ne_eq, not_true_eq_false, decide_eq_true_eq, Nat.lt_irrefl]
  refine wpCall_of (numR hR1 hL hlen) ?_
  rintro out H2 ⟨rfl, hf2, hR2⟩
  have hC2 := (hf2.2 c (Nat.lt_of_lt_of_le hcl hf1.1) hcw).trans hC1
  simp only [WW, partV, eqCells, eqLf, minV, maxV, ifcV, zaa, zab, zac, zad, zae, zaf, zag, zah, zai, ofConst, ofConst1, List.replicate, zaj, zak, loadOp, Go.Abs.loadCells, binV, zal, pickV, zam, zan, zao, zap, zaq, zar, zas, zat, zau, outR, resAll, resOne, zav, zaw, zax, zay, zaz, zba, zbb, zbc, zbd, zbe, zbf, zbg, zbh, zbi, zbj, zbk, storeOp, storeCell, overlay, zbl, zbm, zbn, lookupOp, keyT, okRes, mapUpdateOp, zbo, zbp, zbq, zbr, zbs, zbt, zbu, Nat.reduceSub, Nat.reduceAdd, Int.reduceLT, Int.reduceLE, Int.reduceAdd, Int.reduceSub, Int.reduceToNat, Int.reduceBEq, Int.reduceBNe, Int.reduceMul, Nat.reduceBEq, Nat.reduceBNe, Nat.reduceLT, Nat.reduceLeDiff, Nat.reduceMul, Nat.reduceEqDiff, WD, effB, effH, isPriv, isHeap, isImm, zbx, zby, zbz, chkO, setD, dslot, zca, zcb, zcc, zcd, ptrCells_some, F74, hC2, buildOp, fillV, Lay.place, Bool.or_self, Bool.or_false, Bool.false_or, decide_not, ne_eq, not_true_eq_false, decide_eq_true_eq, Nat.lt_irrefl]
  refine wpCall_of (numR hR2 hL hlen) ?_
  rintro out H3 ⟨rfl, hf3, hR3⟩
  have hC3 := (hf3.2 c (Nat.lt_of_lt_of_le hcl (hf1.trans hf2).1) hcw).trans hC2
  simp only [WW, partV, eqCells, eqLf, minV, maxV, ifcV, zaa, zab, zac, zad, zae, zaf, zag, zah, zai, ofConst, ofConst1, List.replicate, zaj, zak, loadOp, Go.Abs.loadCells, binV, zal, pickV, zam, zan, zao, zap, zaq, zar, zas, zat, zau, outR, resAll, resOne, zav, zaw, zax, zay, zaz, zba, zbb, zbc, zbd, zbe, zbf, zbg, zbh, zbi, zbj, zbk, storeOp, storeCell, overlay, zbl, zbm, zbn, lookupOp, keyT, okRes, mapUpdateOp, zbo, zbp, zbq, zbr, zbs, zbt, zbu, Nat.reduceSub, Nat.reduceAdd, Int.reduceLT, Int.reduceLE, Int.reduceAdd, Int.reduceSub, Int.reduceToNat, Int.reduceBEq, Int.reduceBNe, Int.reduceMul, Nat.reduceBEq, Nat.reduceBNe, Nat.reduceLT, Nat.reduceLeDiff, Nat.reduceMul, Nat.reduceEqDiff, WD, effB, effH, isPriv, isHeap, isImm, zbx, zby, zbz, chkO, setD, dslot, zca, zcb, zcc, zcd, ptrCells_some, F74, hC3, buildOp, fillV, Lay.place, Bool.or_self, Bool.or_false, Bool.false_or, decide_not, ne_eq, not_true_eq_false, decide_eq_true_eq, Nat.lt_irrefl]
  refine wpCall_of (numR hR3 hL hlen) ?_
  rintro out H4 ⟨rfl, hf4, hR4⟩
  simp only [WW, partV, eqCells, eqLf, minV, maxV, ifcV, zaa, zab, zac, zad, zae, zaf, zag, zah, zai, ofConst, ofConst1, List.replicate, zaj, zak, loadOp, Go.Abs.loadCells, binV, zal, pickV, zam, zan, zao, zap, zaq, zar, zas, zat, zau, outR, resAll, resOne, zav, zaw, zax, zay, zaz, zba, zbb, zbc, zbd, zbe, zbf, zbg, zbh, zbi, zbj, zbk, storeOp, storeCell, overlay, zbl, zbm, zbn, lookupOp, keyT, okRes, mapUpdateOp, zbo, zbp, zbq, zbr, zbs, zbt, zbu, Nat.reduceSub, Nat.reduceAdd, Int.reduceLT, Int.reduceLE, Int.reduceAdd, Int.reduceSub, Int.reduceToNat, Int.reduceBEq, Int.reduceBNe, Int.reduceMul, Nat.reduceBEq, Nat.reduceBNe, Nat.reduceLT, Nat.reduceLeDiff, Nat.reduceMul, Nat.reduceEqDiff, WD, effB, effH, isPriv, isHeap, isImm, zbx, zby, zbz, chkO, setD, dslot, zca, zcb, zcc, zcd, ptrCells_some, F74, buildOp, fillV, Lay.place, Bool.or_self, Bool.or_false, Bool.false_or, decide_not, ne_eq, not_true_eq_false, decide_eq_true_eq, Nat.lt_irrefl]
  exact ⟨rfl, ((hf1.trans hf2).trans hf3).trans hf4, hR4⟩
end Go.Proofs.YtgjobbmbbedecaaDoor

/- Images that are the same are told to be so, wherever their lists lie. -/
namespace Go.Proofs.YtgjobbmbbedecaaDoor
open Go Go.Abs Go.Proofs
set_option maxRecDepth 100000
set_option maxHeartbeats 4000000
set_option linter.unusedVariables false
set_option linter.unusedSimpArgs false
/-- A function, an image, as they lie in a heap -/
structure FnH (H : Hp) (v : V) (c : FnM) where
  k1 : V
  k2 : V
  k3 : V
  k4 : V
  e : v = .agg [.int .i64 c.params, .int .i64 c.slots, k1, k2, k3, k4]
  r1 : Rd H k1 (c.boxes.map intV)
  r2 : Rd H k2 (c.caps.map capV)
  r3 : Rd H k3 (c.code.map inV)
  r4 : Rd H k4 (c.tries.map tryV)
structure ImH (H : Hp) (v : V) (im : ImM) where
  fu : V
  st : V
  ke : V
  fs : List V
  ks : List V
  e : v = .agg [fu, st, ke, .int .i64 im.globals]
  hf : Rd H fu fs
  hs : Rd H st (im.strs.map .str)
  hk : Rd H ke ks
  f2 : All2 (fun v c => Nonempty (FnH H v c)) fs im.funs
  k2 : All2 (fun v (l : List Int) => Rd H v (l.map intV)) ks im.keys
theorem FnV.to {v : V} {c : FnM} (q : FnV v c) (H : Hp) : Nonempty (FnH H v c) := ⟨⟨q.k1, q.k2, q.k3, q.k4, q.e, q.r1 H, q.r2 H, q.r3 H, q.r4 H⟩⟩
theorem All2.imp {α : Type} {R R' : V → α → Prop} (h : ∀ v a, R v a → R' v a) : ∀ {vs : List V} {us : List α}, All2 R vs us → All2 R' vs us
  | _, _, .nil => .nil
  | _, _, .cons a b => .cons (h _ _ a) (All2.imp h b)
def ImV.to {v : V} {im : ImM} (q : ImV v im) (H : Hp) : ImH H v im :=
  ⟨q.fu, q.st, q.ke, q.fs, q.ks, q.e, q.hf H, q.hs H, q.hk H, All2.imp (fun v c h => by obtain ⟨h⟩ := h; exact h.to H) q.f2, All2.imp (fun v l h => h H) q.k2⟩
theorem hsame_ints {H : Hp} {v1 v2 : V} {ns : List Int} (h1 : Rd H v1 (ns.map intV)) (h2 : Rd H v2 (ns.map intV)) (hn : ns.length ≤ 4000000) : EW 55 [v1, v2] H = some (.ret (.bool true) false, H) := by
  refine eqOf (runs f55 b55 r55 n55 _ _ ?_)
  simp only [bodyOf, Tryd.f55, Option.getD_some]
  have z1 := fun st => h1.shutIn st
  have z2 := fun st => h2.shutIn st
  have hlm : (ns.map intV).length = ns.length := List.length_map ..
  simp only [WW, partV, eqCells, eqLf, minV, maxV, ifcV, zaa, zab, zac, zad, zae, zaf, zag, zah, zai, ofConst, ofConst1, List.replicate, zaj, zak, loadOp, Go.Abs.loadCells, binV, zal, pickV, zam, zan, zao, zap, zaq, zar, zas, zat, zau, outR, resAll, resOne, zav, zaw, zax, zay, zaz, zba, zbb, zbc, zbd, zbe, zbf, zbg, zbh, zbi, zbj, zbk, storeOp, storeCell, overlay, zbl, zbm, zbn, lookupOp, keyT, okRes, mapUpdateOp, zbo, zbp, zbq, zbr, zbs, zbt, zbu, Nat.reduceSub, Nat.reduceAdd, Int.reduceLT, Int.reduceLE, Int.reduceAdd, Int.reduceSub, Int.reduceToNat, Int.reduceBEq, Int.reduceBNe, Int.reduceMul, Nat.reduceBEq, Nat.reduceBNe, Nat.reduceLT, Nat.reduceLeDiff, Nat.reduceMul, Nat.reduceEqDiff, WD, effB, effH, isPriv, isHeap, isImm, zbx, zby, zbz, chkO, setD, dslot, zca, zcb, zcc, zcd, ptrCells_some, F55, z1, z2, h1.len, h2.len, hlm, bne_self_eq_false]
  refine wC_loop _ (fun k st' H' => ∃ (i : Nat), st' = ⟨L55_4 (.v v1) (.v v2) (.v (.int .i64 i)), [], []⟩ ∧ H' = H ∧ i ≤ ns.length ∧ k = ns.length - i) ns.length ⟨0, ?_, rfl, by omega, by omega⟩ ?_
  · simp only [WN, firstReg, growAll, zbv, zbw, norm, killS, zag, zah, zaa, zab, zbl, zat, zad, growOne, zae, zaf, zac, zas, zak, Nat.reduceLT, Nat.reduceAdd, zbj, zav, F55, L55_4, h1.clip2, h2.clip2]
    rfl
  · rintro k st' H ⟨i, rfl, rfl, hi, rfl⟩
    simp only [L55_4]
    simp only [WW, partV, eqCells, eqLf, minV, maxV, ifcV, zaa, zab, zac, zad, zae, zaf, zag, zah, zai, ofConst, ofConst1, List.replicate, zaj, zak, loadOp, Go.Abs.loadCells, binV, zal, pickV, zam, zan, zao, zap, zaq, zar, zas, zat, zau, outR, resAll, resOne, zav, zaw, zax, zay, zaz, zba, zbb, zbc, zbd, zbe, zbf, zbg, zbh, zbi, zbj, zbk, storeOp, storeCell, overlay, zbl, zbm, zbn, lookupOp, keyT, okRes, mapUpdateOp, zbo, zbp, zbq, zbr, zbs, zbt, zbu, Nat.reduceSub, Nat.reduceAdd, Int.reduceLT, Int.reduceLE, Int.reduceAdd, Int.reduceSub, Int.reduceToNat, Int.reduceBEq, Int.reduceBNe, Int.reduceMul, Nat.reduceBEq, Nat.reduceBNe, Nat.reduceLT, Nat.reduceLeDiff, Nat.reduceMul, Nat.reduceEqDiff, WD, effB, effH, isPriv, isHeap, isImm, zbx, zby, zbz, chkO, setD, dslot, zca, zcb, zcc, zcd, ptrCells_some, F55, z1, z2, h1.len, h2.len, hlm]
    refine cSplit (fun hlt => ?_) (fun hge => ?_)
    · have hi2 : i < ns.length := by have := of_decide_eq_true hlt; omega
      have hs : ns[i]? = some ns[i] := List.getElem?_eq_getElem hi2
      generalize ns[i] = n at hs
      simp only [hlt]
      have e1 := h1.at_ (sz := 1) (i := i) (e := .int .i64 n) (by rw [List.getElem?_map, hs]; rfl) rfl
      have e2 := h2.at_ (sz := 1) (i := i) (e := .int .i64 n) (by rw [List.getElem?_map, hs]; rfl) rfl
      simp only [WW, partV, eqCells, eqLf, minV, maxV, ifcV, zaa, zab, zac, zad, zae, zaf, zag, zah, zai, ofConst, ofConst1, List.replicate, zaj, zak, loadOp, Go.Abs.loadCells, binV, zal, pickV, zam, zan, zao, zap, zaq, zar, zas, zat, zau, outR, resAll, resOne, zav, zaw, zax, zay, zaz, zba, zbb, zbc, zbd, zbe, zbf, zbg, zbh, zbi, zbj, zbk, storeOp, storeCell, overlay, zbl, zbm, zbn, lookupOp, keyT, okRes, mapUpdateOp, zbo, zbp, zbq, zbr, zbs, zbt, zbu, Nat.reduceSub, Nat.reduceAdd, Int.reduceLT, Int.reduceLE, Int.reduceAdd, Int.reduceSub, Int.reduceToNat, Int.reduceBEq, Int.reduceBNe, Int.reduceMul, Nat.reduceBEq, Nat.reduceBNe, Nat.reduceLT, Nat.reduceLeDiff, Nat.reduceMul, Nat.reduceEqDiff, WD, effB, effH, isPriv, isHeap, isImm, zbx, zby, zbz, chkO, setD, dslot, zca, zcb, zcc, zcd, ptrCells_some, F55]
      refine wC_dr alts55_6 (by kernel_rfl) ?_
      simp only [WW, partV, eqCells, eqLf, minV, maxV, ifcV, zaa, zab, zac, zad, zae, zaf, zag, zah, zai, ofConst, ofConst1, List.replicate, zaj, zak, loadOp, Go.Abs.loadCells, binV, zal, pickV, zam, zan, zao, zap, zaq, zar, zas, zat, zau, outR, resAll, resOne, zav, zaw, zax, zay, zaz, zba, zbb, zbc, zbd, zbe, zbf, zbg, zbh, zbi, zbj, zbk, storeOp, storeCell, overlay, zbl, zbm, zbn, lookupOp, keyT, okRes, mapUpdateOp, zbo, zbp, zbq, zbr, zbs, zbt, zbu, Nat.reduceSub, Nat.reduceAdd, Int.reduceLT, Int.reduceLE, Int.reduceAdd, Int.reduceSub, Int.reduceToNat, Int.reduceBEq, Int.reduceBNe, Int.reduceMul, Nat.reduceBEq, Nat.reduceBNe, Nat.reduceLT, Nat.reduceLeDiff, Nat.reduceMul, Nat.reduceEqDiff, WD, effB, effH, isPriv, isHeap, isImm, zbx, zby, zbz, chkO, setD, dslot, zca, zcb, zcc, zcd, ptrCells_some, F55, z1, z2, e1.at1 h1, e1.cells, e2.at1 h2, e2.cells, alts55_6, bne_self_eq_false]
      refine ⟨ns.length - (i + 1), by omega, i + 1, ?_, by omega, rfl⟩
      simp only [WN, firstReg, growAll, zbv, zbw, norm, killS, zag, zah, zaa, zab, zbl, zat, zad, growOne, zae, zaf, zac, zas, zak, Nat.reduceLT, Nat.reduceAdd, zbj, zav, F55, h1.clip2, h2.clip2]
      rw [IntWalk.i64_in ((i : Int) + 1) (by omega)]; rfl
    · simp only [hge]
      simp only [WW, partV, eqCells, eqLf, minV, maxV, ifcV, zaa, zab, zac, zad, zae, zaf, zag, zah, zai, ofConst, ofConst1, List.replicate, zaj, zak, loadOp, Go.Abs.loadCells, binV, zal, pickV, zam, zan, zao, zap, zaq, zar, zas, zat, zau, outR, resAll, resOne, zav, zaw, zax, zay, zaz, zba, zbb, zbc, zbd, zbe, zbf, zbg, zbh, zbi, zbj, zbk, storeOp, storeCell, overlay, zbl, zbm, zbn, lookupOp, keyT, okRes, mapUpdateOp, zbo, zbp, zbq, zbr, zbs, zbt, zbu, Nat.reduceSub, Nat.reduceAdd, Int.reduceLT, Int.reduceLE, Int.reduceAdd, Int.reduceSub, Int.reduceToNat, Int.reduceBEq, Int.reduceBNe, Int.reduceMul, Nat.reduceBEq, Nat.reduceBNe, Nat.reduceLT, Nat.reduceLeDiff, Nat.reduceMul, Nat.reduceEqDiff, WD, effB, effH, isPriv, isHeap, isImm, zbx, zby, zbz, chkO, setD, dslot, zca, zcb, zcc, zcd, ptrCells_some, F55]
theorem hsame_intsW {H : Hp} {v1 v2 : V} {ns : List Int} (h1 : Rd H v1 (ns.map intV)) (h2 : Rd H v2 (ns.map intV)) (hn : ns.length ≤ 4000000) (K : Out → Hp → Prop) : wpCall (evW Tryd.prog notes) 55 [v1, v2] H K = K (.ret (.bool true) false) H := wpCall_eq (hsame_ints h1 h2 hn)
theorem hsame_code {H : Hp} {v u : V} {c : FnM} (hq : Nonempty (FnH H v c)) (hp : Nonempty (FnH H u c)) (hs : fnSz c) : EW 56 [v, u] H = some (.ret (.bool true) false, H) := by
  obtain ⟨⟨k1, k2, k3, k4, rfl, q1, q2, q3, q4⟩⟩ := hq
  obtain ⟨⟨j1, j2, j3, j4, rfl, p1, p2, p3, p4⟩⟩ := hp
  obtain ⟨s1, s2, s3, s4⟩ := hs
  have zq1 := fun st => q1.shutIn st
  have yq1 := fun n => q1.clip n
  have cq1 := q1.cells1
  have dq1 := q1.ok
  have zq2 := fun st => q2.shutIn st
  have yq2 := fun n => q2.clip n
  have cq2 := q2.cells1
  have dq2 := q2.ok
  have zq3 := fun st => q3.shutIn st
  have yq3 := fun n => q3.clip n
  have cq3 := q3.cells1
  have dq3 := q3.ok
  have zq4 := fun st => q4.shutIn st
  have yq4 := fun n => q4.clip n
  have cq4 := q4.cells1
  have dq4 := q4.ok
  have zp1 := fun st => p1.shutIn st
  have yp1 := fun n => p1.clip n
  have cp1 := p1.cells1
  have dp1 := p1.ok
  have zp2 := fun st => p2.shutIn st
  have yp2 := fun n => p2.clip n
  have cp2 := p2.cells1
  have dp2 := p2.ok
  have zp3 := fun st => p3.shutIn st
  have yp3 := fun n => p3.clip n
  have cp3 := p3.cells1
  have dp3 := p3.ok
  have zp4 := fun st => p4.shutIn st
  have yp4 := fun n => p4.clip n
  have cp4 := p4.cells1
  have dp4 := p4.ok
  have hnw := hsame_intsW q1 p1 (by omega)
  have lm2 : (c.caps.map capV).length = c.caps.length := List.length_map ..
  have lm3 : (c.code.map inV).length = c.code.length := List.length_map ..
  have lm4 : (c.tries.map tryV).length = c.tries.length := List.length_map ..
  refine eqOf (runs f56 b56 r56 n56 _ _ ?_)
  simp only [bodyOf, Tryd.f56, Option.getD_some]
  simp only [WW, partV, eqCells, eqLf, minV, maxV, ifcV, zaa, zab, zac, zad, zae, zaf, zag, zah, zai, ofConst, ofConst1, List.replicate, zaj, zak, loadOp, Go.Abs.loadCells, binV, zal, pickV, zam, zan, zao, zap, zaq, zar, zas, zat, zau, outR, resAll, resOne, zav, zaw, zax, zay, zaz, zba, zbb, zbc, zbd, zbe, zbf, zbg, zbh, zbi, zbj, zbk, storeOp, storeCell, overlay, zbl, zbm, zbn, lookupOp, keyT, okRes, mapUpdateOp, zbo, zbp, zbq, zbr, zbs, zbt, zbu, Nat.reduceSub, Nat.reduceAdd, Int.reduceLT, Int.reduceLE, Int.reduceAdd, Int.reduceSub, Int.reduceToNat, Int.reduceBEq, Int.reduceBNe, Int.reduceMul, Nat.reduceBEq, Nat.reduceBNe, Nat.reduceLT, Nat.reduceLeDiff, Nat.reduceMul, Nat.reduceEqDiff, WD, effB, effH, isPriv, isHeap, isImm, zbx, zby, zbz, chkO, setD, dslot, zca, zcb, zcc, zcd, ptrCells_some, F56, zq1, zq2, zq3, zq4, zp1, zp2, zp3, zp4, cq1, cq2, cq3, cq4, cp1, cp2, cp3, cp4, dq1, dq2, dq3, dq4, dp1, dp2, dp3, dp4, hnw, bne_self_eq_false, q2.len, q3.len, q4.len, p2.len, p3.len, p4.len, lm2, lm3, lm4]
  refine wC_loop _ (fun k st' H' => ∃ (i : Nat), st' = ⟨L56_4 (.box 0) (.box 1) (.v (.int .i64 i)), [[.int .i64 c.params, .int .i64 c.slots, k1, k2, k3, k4], [.int .i64 c.params, .int .i64 c.slots, j1, j2, j3, j4]], []⟩ ∧ H' = H ∧ i ≤ c.caps.length ∧ k = c.caps.length - i) c.caps.length ⟨0, ?_, rfl, by omega, by omega⟩ ?_
  · simp only [WN, firstReg, growAll, zbv, zbw, norm, killS, zag, zah, zaa, zab, zbl, zat, zad, growOne, zae, zaf, zac, zas, zak, Nat.reduceLT, Nat.reduceAdd, zbj, zav, F56, L56_4, yq1, yq2, yq3, yq4, yp1, yp2, yp3, yp4]
    rfl
  · rintro k st' H ⟨i, rfl, rfl, hi, rfl⟩
    simp only [L56_4]
    simp only [WW, partV, eqCells, eqLf, minV, maxV, ifcV, zaa, zab, zac, zad, zae, zaf, zag, zah, zai, ofConst, ofConst1, List.replicate, zaj, zak, loadOp, Go.Abs.loadCells, binV, zal, pickV, zam, zan, zao, zap, zaq, zar, zas, zat, zau, outR, resAll, resOne, zav, zaw, zax, zay, zaz, zba, zbb, zbc, zbd, zbe, zbf, zbg, zbh, zbi, zbj, zbk, storeOp, storeCell, overlay, zbl, zbm, zbn, lookupOp, keyT, okRes, mapUpdateOp, zbo, zbp, zbq, zbr, zbs, zbt, zbu, Nat.reduceSub, Nat.reduceAdd, Int.reduceLT, Int.reduceLE, Int.reduceAdd, Int.reduceSub, Int.reduceToNat, Int.reduceBEq, Int.reduceBNe, Int.reduceMul, Nat.reduceBEq, Nat.reduceBNe, Nat.reduceLT, Nat.reduceLeDiff, Nat.reduceMul, Nat.reduceEqDiff, WD, effB, effH, isPriv, isHeap, isImm, zbx, zby, zbz, chkO, setD, dslot, zca, zcb, zcc, zcd, ptrCells_some, F56, zq2, zp2, q2.len, lm2]
    refine cSplit (fun hlt => ?_) (fun hge => ?_)
    · have hi2 : i < c.caps.length := by have := of_decide_eq_true hlt; omega
      have hs : c.caps[i]? = some c.caps[i] := List.getElem?_eq_getElem hi2
      generalize c.caps[i] = y at hs
      simp only [hlt]
      have e1 := q2.at_ (sz := 2) (i := i) (e := .agg [.int .i64 y.1, .int .i64 y.2]) (by rw [List.getElem?_map, hs]; rfl) rfl
      have e2 := p2.at_ (sz := 2) (i := i) (e := .agg [.int .i64 y.1, .int .i64 y.2]) (by rw [List.getElem?_map, hs]; rfl) rfl
      simp only [WW, partV, eqCells, eqLf, minV, maxV, ifcV, zaa, zab, zac, zad, zae, zaf, zag, zah, zai, ofConst, ofConst1, List.replicate, zaj, zak, loadOp, Go.Abs.loadCells, binV, zal, pickV, zam, zan, zao, zap, zaq, zar, zas, zat, zau, outR, resAll, resOne, zav, zaw, zax, zay, zaz, zba, zbb, zbc, zbd, zbe, zbf, zbg, zbh, zbi, zbj, zbk, storeOp, storeCell, overlay, zbl, zbm, zbn, lookupOp, keyT, okRes, mapUpdateOp, zbo, zbp, zbq, zbr, zbs, zbt, zbu, Nat.reduceSub, Nat.reduceAdd, Int.reduceLT, Int.reduceLE, Int.reduceAdd, Int.reduceSub, Int.reduceToNat, Int.reduceBEq, Int.reduceBNe, Int.reduceMul, Nat.reduceBEq, Nat.reduceBNe, Nat.reduceLT, Nat.reduceLeDiff, Nat.reduceMul, Nat.reduceEqDiff, WD, effB, effH, isPriv, isHeap, isImm, zbx, zby, zbz, chkO, setD, dslot, zca, zcb, zcc, zcd, ptrCells_some, F56]
      refine wC_dr alts56_6 (by kernel_rfl) ?_
      simp only [WW, partV, eqCells, eqLf, minV, maxV, ifcV, zaa, zab, zac, zad, zae, zaf, zag, zah, zai, ofConst, ofConst1, List.replicate, zaj, zak, loadOp, Go.Abs.loadCells, binV, zal, pickV, zam, zan, zao, zap, zaq, zar, zas, zat, zau, outR, resAll, resOne, zav, zaw, zax, zay, zaz, zba, zbb, zbc, zbd, zbe, zbf, zbg, zbh, zbi, zbj, zbk, storeOp, storeCell, overlay, zbl, zbm, zbn, lookupOp, keyT, okRes, mapUpdateOp, zbo, zbp, zbq, zbr, zbs, zbt, zbu, Nat.reduceSub, Nat.reduceAdd, Int.reduceLT, Int.reduceLE, Int.reduceAdd, Int.reduceSub, Int.reduceToNat, Int.reduceBEq, Int.reduceBNe, Int.reduceMul, Nat.reduceBEq, Nat.reduceBNe, Nat.reduceLT, Nat.reduceLeDiff, Nat.reduceMul, Nat.reduceEqDiff, WD, effB, effH, isPriv, isHeap, isImm, zbx, zby, zbz, chkO, setD, dslot, zca, zcb, zcc, zcd, ptrCells_some, F56, zq2, zp2, e1.at1 q2, e1.cells, e2.at1 p2, e2.cells, alts56_6]
      refine ⟨c.caps.length - (i + 1), by omega, i + 1, ?_, by omega, rfl⟩
      simp only [WN, firstReg, growAll, zbv, zbw, norm, killS, zag, zah, zaa, zab, zbl, zat, zad, growOne, zae, zaf, zac, zas, zak, Nat.reduceLT, Nat.reduceAdd, zbj, zav, F56, yq1, yq2, yq3, yq4, yp1, yp2, yp3, yp4]
      rw [IntWalk.i64_in ((i : Int) + 1) (by omega)]; rfl
    · simp only [hge]
      simp only [WW, partV, eqCells, eqLf, minV, maxV, ifcV, zaa, zab, zac, zad, zae, zaf, zag, zah, zai, ofConst, ofConst1, List.replicate, zaj, zak, loadOp, Go.Abs.loadCells, binV, zal, pickV, zam, zan, zao, zap, zaq, zar, zas, zat, zau, outR, resAll, resOne, zav, zaw, zax, zay, zaz, zba, zbb, zbc, zbd, zbe, zbf, zbg, zbh, zbi, zbj, zbk, storeOp, storeCell, overlay, zbl, zbm, zbn, lookupOp, keyT, okRes, mapUpdateOp, zbo, zbp, zbq, zbr, zbs, zbt, zbu, Nat.reduceSub, Nat.reduceAdd, Int.reduceLT, Int.reduceLE, Int.reduceAdd, Int.reduceSub, Int.reduceToNat, Int.reduceBEq, Int.reduceBNe, Int.reduceMul, Nat.reduceBEq, Nat.reduceBNe, Nat.reduceLT, Nat.reduceLeDiff, Nat.reduceMul, Nat.reduceEqDiff, WD, effB, effH, isPriv, isHeap, isImm, zbx, zby, zbz, chkO, setD, dslot, zca, zcb, zcc, zcd, ptrCells_some, F56]
      refine wC_loop _ (fun k st' H' => ∃ (i : Nat), st' = ⟨L56_9 (.box 0) (.box 1) (.v (.int .i64 i)), [[.int .i64 c.params, .int .i64 c.slots, k1, k2, k3, k4], [.int .i64 c.params, .int .i64 c.slots, j1, j2, j3, j4]], []⟩ ∧ H' = H ∧ i ≤ c.code.length ∧ k = c.code.length - i) c.code.length ⟨0, ?_, rfl, by omega, by omega⟩ ?_
      · simp only [WN, firstReg, growAll, zbv, zbw, norm, killS, zag, zah, zaa, zab, zbl, zat, zad, growOne, zae, zaf, zac, zas, zak, Nat.reduceLT, Nat.reduceAdd, zbj, zav, F56, L56_9, yq1, yq2, yq3, yq4, yp1, yp2, yp3, yp4]
        rfl
      · rintro k st' H ⟨i, rfl, rfl, hi, rfl⟩
        simp only [L56_9]
        simp only [WW, partV, eqCells, eqLf, minV, maxV, ifcV, zaa, zab, zac, zad, zae, zaf, zag, zah, zai, ofConst, ofConst1, List.replicate, zaj, zak, loadOp, Go.Abs.loadCells, binV, zal, pickV, zam, zan, zao, zap, zaq, zar, zas, zat, zau, outR, resAll, resOne, zav, zaw, zax, zay, zaz, zba, zbb, zbc, zbd, zbe, zbf, zbg, zbh, zbi, zbj, zbk, storeOp, storeCell, overlay, zbl, zbm, zbn, lookupOp, keyT, okRes, mapUpdateOp, zbo, zbp, zbq, zbr, zbs, zbt, zbu, Nat.reduceSub, Nat.reduceAdd, Int.reduceLT, Int.reduceLE, Int.reduceAdd, Int.reduceSub, Int.reduceToNat, Int.reduceBEq, Int.reduceBNe, Int.reduceMul, Nat.reduceBEq, Nat.reduceBNe, Nat.reduceLT, Nat.reduceLeDiff, Nat.reduceMul, Nat.reduceEqDiff, WD, effB, effH, isPriv, isHeap, isImm, zbx, zby, zbz, chkO, setD, dslot, zca, zcb, zcc, zcd, ptrCells_some, F56, zq3, zp3, q3.len, lm3]
        refine cSplit (fun hlt => ?_) (fun hge => ?_)
        · have hi2 : i < c.code.length := by have := of_decide_eq_true hlt; omega
          have hs : c.code[i]? = some c.code[i] := List.getElem?_eq_getElem hi2
          generalize c.code[i] = y at hs
          simp only [hlt]
          have e1 := q3.at_ (sz := 3) (i := i) (e := .agg [.int .i64 y.1, .int .i64 y.2.1, .int .i64 y.2.2]) (by rw [List.getElem?_map, hs]; rfl) rfl
          have e2 := p3.at_ (sz := 3) (i := i) (e := .agg [.int .i64 y.1, .int .i64 y.2.1, .int .i64 y.2.2]) (by rw [List.getElem?_map, hs]; rfl) rfl
          simp only [WW, partV, eqCells, eqLf, minV, maxV, ifcV, zaa, zab, zac, zad, zae, zaf, zag, zah, zai, ofConst, ofConst1, List.replicate, zaj, zak, loadOp, Go.Abs.loadCells, binV, zal, pickV, zam, zan, zao, zap, zaq, zar, zas, zat, zau, outR, resAll, resOne, zav, zaw, zax, zay, zaz, zba, zbb, zbc, zbd, zbe, zbf, zbg, zbh, zbi, zbj, zbk, storeOp, storeCell, overlay, zbl, zbm, zbn, lookupOp, keyT, okRes, mapUpdateOp, zbo, zbp, zbq, zbr, zbs, zbt, zbu, Nat.reduceSub, Nat.reduceAdd, Int.reduceLT, Int.reduceLE, Int.reduceAdd, Int.reduceSub, Int.reduceToNat, Int.reduceBEq, Int.reduceBNe, Int.reduceMul, Nat.reduceBEq, Nat.reduceBNe, Nat.reduceLT, Nat.reduceLeDiff, Nat.reduceMul, Nat.reduceEqDiff, WD, effB, effH, isPriv, isHeap, isImm, zbx, zby, zbz, chkO, setD, dslot, zca, zcb, zcc, zcd, ptrCells_some, F56]
          refine wC_dr alts56_11 (by kernel_rfl) ?_
          simp only [WW, partV, eqCells, eqLf, minV, maxV, ifcV, zaa, zab, zac, zad, zae, zaf, zag, zah, zai, ofConst, ofConst1, List.replicate, zaj, zak, loadOp, Go.Abs.loadCells, binV, zal, pickV, zam, zan, zao, zap, zaq, zar, zas, zat, zau, outR, resAll, resOne, zav, zaw, zax, zay, zaz, zba, zbb, zbc, zbd, zbe, zbf, zbg, zbh, zbi, zbj, zbk, storeOp, storeCell, overlay, zbl, zbm, zbn, lookupOp, keyT, okRes, mapUpdateOp, zbo, zbp, zbq, zbr, zbs, zbt, zbu, Nat.reduceSub, Nat.reduceAdd, Int.reduceLT, Int.reduceLE, Int.reduceAdd, Int.reduceSub, Int.reduceToNat, Int.reduceBEq, Int.reduceBNe, Int.reduceMul, Nat.reduceBEq, Nat.reduceBNe, Nat.reduceLT, Nat.reduceLeDiff, Nat.reduceMul, Nat.reduceEqDiff, WD, effB, effH, isPriv, isHeap, isImm, zbx, zby, zbz, chkO, setD, dslot, zca, zcb, zcc, zcd, ptrCells_some, F56, zq3, zp3, e1.at1 q3, e1.cells, e2.at1 p3, e2.cells, alts56_11]
          refine ⟨c.code.length - (i + 1), by omega, i + 1, ?_, by omega, rfl⟩
          simp only [WN, firstReg, growAll, zbv, zbw, norm, killS, zag, zah, zaa, zab, zbl, zat, zad, growOne, zae, zaf, zac, zas, zak, Nat.reduceLT, Nat.reduceAdd, zbj, zav, F56, yq1, yq2, yq3, yq4, yp1, yp2, yp3, yp4]
          rw [IntWalk.i64_in ((i : Int) + 1) (by omega)]; rfl
        · simp only [hge]
          simp only [WW, partV, eqCells, eqLf, minV, maxV, ifcV, zaa, zab, zac, zad, zae, zaf, zag, zah, zai, ofConst, ofConst1, List.replicate, zaj, zak, loadOp, Go.Abs.loadCells, binV, zal, pickV, zam, zan, zao, zap, zaq, zar, zas, zat, zau, outR, resAll, resOne, zav, zaw, zax, zay, zaz, zba, zbb, zbc, zbd, zbe, zbf, zbg, zbh, zbi, zbj, zbk, storeOp, storeCell, overlay, zbl, zbm, zbn, lookupOp, keyT, okRes, mapUpdateOp, zbo, zbp, zbq, zbr, zbs, zbt, zbu, Nat.reduceSub, Nat.reduceAdd, Int.reduceLT, Int.reduceLE, Int.reduceAdd, Int.reduceSub, Int.reduceToNat, Int.reduceBEq, Int.reduceBNe, Int.reduceMul, Nat.reduceBEq, Nat.reduceBNe, Nat.reduceLT, Nat.reduceLeDiff, Nat.reduceMul, Nat.reduceEqDiff, WD, effB, effH, isPriv, isHeap, isImm, zbx, zby, zbz, chkO, setD, dslot, zca, zcb, zcc, zcd, ptrCells_some, F56]
          refine wC_loop _ (fun k st' H' => ∃ (i : Nat), st' = ⟨L56_14 (.box 0) (.box 1) (.v (.int .i64 i)), [[.int .i64 c.params, .int .i64 c.slots, k1, k2, k3, k4], [.int .i64 c.params, .int .i64 c.slots, j1, j2, j3, j4]], []⟩ ∧ H' = H ∧ i ≤ c.tries.length ∧ k = c.tries.length - i) c.tries.length ⟨0, ?_, rfl, by omega, by omega⟩ ?_
          · simp only [WN, firstReg, growAll, zbv, zbw, norm, killS, zag, zah, zaa, zab, zbl, zat, zad, growOne, zae, zaf, zac, zas, zak, Nat.reduceLT, Nat.reduceAdd, zbj, zav, F56, L56_14, yq1, yq2, yq3, yq4, yp1, yp2, yp3, yp4]
            rfl
          · rintro k st' H ⟨i, rfl, rfl, hi, rfl⟩
            simp only [L56_14]
            simp only [WW, partV, eqCells, eqLf, minV, maxV, ifcV, zaa, zab, zac, zad, zae, zaf, zag, zah, zai, ofConst, ofConst1, List.replicate, zaj, zak, loadOp, Go.Abs.loadCells, binV, zal, pickV, zam, zan, zao, zap, zaq, zar, zas, zat, zau, outR, resAll, resOne, zav, zaw, zax, zay, zaz, zba, zbb, zbc, zbd, zbe, zbf, zbg, zbh, zbi, zbj, zbk, storeOp, storeCell, overlay, zbl, zbm, zbn, lookupOp, keyT, okRes, mapUpdateOp, zbo, zbp, zbq, zbr, zbs, zbt, zbu, Nat.reduceSub, Nat.reduceAdd, Int.reduceLT, Int.reduceLE, Int.reduceAdd, Int.reduceSub, Int.reduceToNat, Int.reduceBEq, Int.reduceBNe, Int.reduceMul, Nat.reduceBEq, Nat.reduceBNe, Nat.reduceLT, Nat.reduceLeDiff, Nat.reduceMul, Nat.reduceEqDiff, WD, effB, effH, isPriv, isHeap, isImm, zbx, zby, zbz, chkO, setD, dslot, zca, zcb, zcc, zcd, ptrCells_some, F56, zq4, zp4, q4.len, lm4]
            refine cSplit (fun hlt => ?_) (fun hge => ?_)
            · have hi2 : i < c.tries.length := by have := of_decide_eq_true hlt; omega
              have hs : c.tries[i]? = some c.tries[i] := List.getElem?_eq_getElem hi2
              generalize c.tries[i] = y at hs
              simp only [hlt]
              have e1 := q4.at_ (sz := 4) (i := i) (e := .agg [.int .i64 y.1, .int .i64 y.2.1, .int .i64 y.2.2.1, .int .i64 y.2.2.2]) (by rw [List.getElem?_map, hs]; rfl) rfl
              have e2 := p4.at_ (sz := 4) (i := i) (e := .agg [.int .i64 y.1, .int .i64 y.2.1, .int .i64 y.2.2.1, .int .i64 y.2.2.2]) (by rw [List.getElem?_map, hs]; rfl) rfl
              simp only [WW, partV, eqCells, eqLf, minV, maxV, ifcV, zaa, zab, zac, zad, zae, zaf, zag, zah, zai, ofConst, ofConst1, List.replicate, zaj, zak, loadOp, Go.Abs.loadCells, binV, zal, pickV, zam, zan, zao, zap, zaq, zar, zas, zat, zau, outR, resAll, resOne, zav, zaw, zax, zay, zaz, zba, zbb, zbc, zbd, zbe, zbf, zbg, zbh, zbi, zbj, zbk, storeOp, storeCell, overlay, zbl, zbm, zbn, lookupOp, keyT, okRes, mapUpdateOp, zbo, zbp, zbq, zbr, zbs, zbt, zbu, Nat.reduceSub, Nat.reduceAdd, Int.reduceLT, Int.reduceLE, Int.reduceAdd, Int.reduceSub, Int.reduceToNat, Int.reduceBEq, Int.reduceBNe, Int.reduceMul, Nat.reduceBEq, Nat.reduceBNe, Nat.reduceLT, Nat.reduceLeDiff, Nat.reduceMul, Nat.reduceEqDiff, WD, effB, effH, isPriv, isHeap, isImm, zbx, zby, zbz, chkO, setD, dslot, zca, zcb, zcc, zcd, ptrCells_some, F56]
              refine wC_dr alts56_16 (by kernel_rfl) ?_
              simp only [WW, partV, eqCells, eqLf, minV, maxV, ifcV, zaa, zab, zac, zad, zae, zaf, zag, zah, zai, ofConst, ofConst1, List.replicate, zaj, zak, loadOp, Go.Abs.loadCells, binV, zal, pickV, zam, zan, zao, zap, zaq, zar, zas, zat, zau, outR, resAll, resOne, zav, zaw, zax, zay, zaz, zba, zbb, zbc, zbd, zbe, zbf, zbg, zbh, zbi, zbj, zbk, storeOp, storeCell, overlay, zbl, zbm, zbn, lookupOp, keyT, okRes, mapUpdateOp, zbo, zbp, zbq, zbr, zbs, zbt, zbu, Nat.reduceSub, Nat.reduceAdd, Int.reduceLT, Int.reduceLE, Int.reduceAdd, Int.reduceSub, Int.reduceToNat, Int.reduceBEq, Int.reduceBNe, Int.reduceMul, Nat.reduceBEq, Nat.reduceBNe, Nat.reduceLT, Nat.reduceLeDiff, Nat.reduceMul, Nat.reduceEqDiff, WD, effB, effH, isPriv, isHeap, isImm, zbx, zby, zbz, chkO, setD, dslot, zca, zcb, zcc, zcd, ptrCells_some, F56, zq4, zp4, e1.at1 q4, e1.cells, e2.at1 p4, e2.cells, alts56_16]
              refine ⟨c.tries.length - (i + 1), by omega, i + 1, ?_, by omega, rfl⟩
              simp only [WN, firstReg, growAll, zbv, zbw, norm, killS, zag, zah, zaa, zab, zbl, zat, zad, growOne, zae, zaf, zac, zas, zak, Nat.reduceLT, Nat.reduceAdd, zbj, zav, F56, yq1, yq2, yq3, yq4, yp1, yp2, yp3, yp4]
              rw [IntWalk.i64_in ((i : Int) + 1) (by omega)]; rfl
            · simp only [hge]
              simp only [WW, partV, eqCells, eqLf, minV, maxV, ifcV, zaa, zab, zac, zad, zae, zaf, zag, zah, zai, ofConst, ofConst1, List.replicate, zaj, zak, loadOp, Go.Abs.loadCells, binV, zal, pickV, zam, zan, zao, zap, zaq, zar, zas, zat, zau, outR, resAll, resOne, zav, zaw, zax, zay, zaz, zba, zbb, zbc, zbd, zbe, zbf, zbg, zbh, zbi, zbj, zbk, storeOp, storeCell, overlay, zbl, zbm, zbn, lookupOp, keyT, okRes, mapUpdateOp, zbo, zbp, zbq, zbr, zbs, zbt, zbu, Nat.reduceSub, Nat.reduceAdd, Int.reduceLT, Int.reduceLE, Int.reduceAdd, Int.reduceSub, Int.reduceToNat, Int.reduceBEq, Int.reduceBNe, Int.reduceMul, Nat.reduceBEq, Nat.reduceBNe, Nat.reduceLT, Nat.reduceLeDiff, Nat.reduceMul, Nat.reduceEqDiff, WD, effB, effH, isPriv, isHeap, isImm, zbx, zby, zbz, chkO, setD, dslot, zca, zcb, zcc, zcd, ptrCells_some, F56]
theorem hsame_im {H : Hp} {v u : V} {im : ImM} (q : ImH H v im) (r : ImH H u im) (hs : imSz im) : EW 18 [v, u] H = some (.ret (.bool true) false, H) := by
  obtain ⟨fu, st, ke, fs, ks, rfl, q1, q2, q3, f2, k2⟩ := q
  obtain ⟨gu, tt, le, gs, ls, rfl, p1, p2, p3, g2, l2⟩ := r
  obtain ⟨m1, m2, m3, m4, m5, m6⟩ := hs
  have zq1 := fun st => q1.shutIn st
  have yq1 := fun n => q1.clip n
  have cq1 := q1.cells1
  have dq1 := q1.ok
  have zq2 := fun st => q2.shutIn st
  have yq2 := fun n => q2.clip n
  have cq2 := q2.cells1
  have dq2 := q2.ok
  have zq3 := fun st => q3.shutIn st
  have yq3 := fun n => q3.clip n
  have cq3 := q3.cells1
  have dq3 := q3.ok
  have zp1 := fun st => p1.shutIn st
  have yp1 := fun n => p1.clip n
  have cp1 := p1.cells1
  have dp1 := p1.ok
  have zp2 := fun st => p2.shutIn st
  have yp2 := fun n => p2.clip n
  have cp2 := p2.cells1
  have dp2 := p2.ok
  have zp3 := fun st => p3.shutIn st
  have yp3 := fun n => p3.clip n
  have cp3 := p3.cells1
  have dp3 := p3.ok
  have fl := f2.len
  have kl := k2.len
  have gl := g2.len
  have ll := l2.len
  have sl : (im.strs.map V.str).length = im.strs.length := List.length_map ..
  refine eqOf (runs f18 b18 r18 n18 _ _ ?_)
  simp only [bodyOf, Tryd.f18, Option.getD_some]
  simp only [WW, partV, eqCells, eqLf, minV, maxV, ifcV, zaa, zab, zac, zad, zae, zaf, zag, zah, zai, ofConst, ofConst1, List.replicate, zaj, zak, loadOp, Go.Abs.loadCells, binV, zal, pickV, zam, zan, zao, zap, zaq, zar, zas, zat, zau, outR, resAll, resOne, zav, zaw, zax, zay, zaz, zba, zbb, zbc, zbd, zbe, zbf, zbg, zbh, zbi, zbj, zbk, storeOp, storeCell, overlay, zbl, zbm, zbn, lookupOp, keyT, okRes, mapUpdateOp, zbo, zbp, zbq, zbr, zbs, zbt, zbu, Nat.reduceSub, Nat.reduceAdd, Int.reduceLT, Int.reduceLE, Int.reduceAdd, Int.reduceSub, Int.reduceToNat, Int.reduceBEq, Int.reduceBNe, Int.reduceMul, Nat.reduceBEq, Nat.reduceBNe, Nat.reduceLT, Nat.reduceLeDiff, Nat.reduceMul, Nat.reduceEqDiff, WD, effB, effH, isPriv, isHeap, isImm, zbx, zby, zbz, chkO, setD, dslot, zca, zcb, zcc, zcd, ptrCells_some, F18, zq1, zq2, zq3, zp1, zp2, zp3, cq1, cq2, cq3, cp1, cp2, cp3, dq1, dq2, dq3, dp1, dp2, dp3, bne_self_eq_false, q1.len, q2.len, q3.len, p1.len, p2.len, p3.len, fl, kl, gl, ll, sl]
  refine wC_loop _ (fun k st' H' => ∃ (i : Nat), st' = ⟨L18_4 (.box 0) (.box 1) (.v (.int .i64 i)), [[fu, st, ke, .int .i64 im.globals], [gu, tt, le, .int .i64 im.globals]], []⟩ ∧ H' = H ∧ i ≤ im.strs.length ∧ k = im.strs.length - i) im.strs.length ⟨0, ?_, rfl, by omega, by omega⟩ ?_
  · simp only [WN, firstReg, growAll, zbv, zbw, norm, killS, zag, zah, zaa, zab, zbl, zat, zad, growOne, zae, zaf, zac, zas, zak, Nat.reduceLT, Nat.reduceAdd, zbj, zav, F18, L18_4, yq1, yq2, yq3, yp1, yp2, yp3]
    rfl
  · rintro k st' H ⟨i, rfl, rfl, hi, rfl⟩
    simp only [L18_4]
    simp only [WW, partV, eqCells, eqLf, minV, maxV, ifcV, zaa, zab, zac, zad, zae, zaf, zag, zah, zai, ofConst, ofConst1, List.replicate, zaj, zak, loadOp, Go.Abs.loadCells, binV, zal, pickV, zam, zan, zao, zap, zaq, zar, zas, zat, zau, outR, resAll, resOne, zav, zaw, zax, zay, zaz, zba, zbb, zbc, zbd, zbe, zbf, zbg, zbh, zbi, zbj, zbk, storeOp, storeCell, overlay, zbl, zbm, zbn, lookupOp, keyT, okRes, mapUpdateOp, zbo, zbp, zbq, zbr, zbs, zbt, zbu, Nat.reduceSub, Nat.reduceAdd, Int.reduceLT, Int.reduceLE, Int.reduceAdd, Int.reduceSub, Int.reduceToNat, Int.reduceBEq, Int.reduceBNe, Int.reduceMul, Nat.reduceBEq, Nat.reduceBNe, Nat.reduceLT, Nat.reduceLeDiff, Nat.reduceMul, Nat.reduceEqDiff, WD, effB, effH, isPriv, isHeap, isImm, zbx, zby, zbz, chkO, setD, dslot, zca, zcb, zcc, zcd, ptrCells_some, F18, zq2, zp2, q2.len, sl]
    refine cSplit (fun hlt => ?_) (fun hge => ?_)
    · have hi2 : i < im.strs.length := by have := of_decide_eq_true hlt; omega
      have hs : im.strs[i]? = some im.strs[i] := List.getElem?_eq_getElem hi2
      generalize im.strs[i] = y at hs
      have hmem := List.mem_of_getElem? hs
      simp only [hlt]
      have e1 := q2.at_ (sz := 1) (i := i) (e := .str y) (by rw [List.getElem?_map, hs]; rfl) rfl
      have e2 := p2.at_ (sz := 1) (i := i) (e := .str y) (by rw [List.getElem?_map, hs]; rfl) rfl
      simp only [WW, partV, eqCells, eqLf, minV, maxV, ifcV, zaa, zab, zac, zad, zae, zaf, zag, zah, zai, ofConst, ofConst1, List.replicate, zaj, zak, loadOp, Go.Abs.loadCells, binV, zal, pickV, zam, zan, zao, zap, zaq, zar, zas, zat, zau, outR, resAll, resOne, zav, zaw, zax, zay, zaz, zba, zbb, zbc, zbd, zbe, zbf, zbg, zbh, zbi, zbj, zbk, storeOp, storeCell, overlay, zbl, zbm, zbn, lookupOp, keyT, okRes, mapUpdateOp, zbo, zbp, zbq, zbr, zbs, zbt, zbu, Nat.reduceSub, Nat.reduceAdd, Int.reduceLT, Int.reduceLE, Int.reduceAdd, Int.reduceSub, Int.reduceToNat, Int.reduceBEq, Int.reduceBNe, Int.reduceMul, Nat.reduceBEq, Nat.reduceBNe, Nat.reduceLT, Nat.reduceLeDiff, Nat.reduceMul, Nat.reduceEqDiff, WD, effB, effH, isPriv, isHeap, isImm, zbx, zby, zbz, chkO, setD, dslot, zca, zcb, zcc, zcd, ptrCells_some, F18]
      refine wC_dr alts18_6 (by kernel_rfl) ?_
      simp only [WW, partV, eqCells, eqLf, minV, maxV, ifcV, zaa, zab, zac, zad, zae, zaf, zag, zah, zai, ofConst, ofConst1, List.replicate, zaj, zak, loadOp, Go.Abs.loadCells, binV, zal, pickV, zam, zan, zao, zap, zaq, zar, zas, zat, zau, outR, resAll, resOne, zav, zaw, zax, zay, zaz, zba, zbb, zbc, zbd, zbe, zbf, zbg, zbh, zbi, zbj, zbk, storeOp, storeCell, overlay, zbl, zbm, zbn, lookupOp, keyT, okRes, mapUpdateOp, zbo, zbp, zbq, zbr, zbs, zbt, zbu, Nat.reduceSub, Nat.reduceAdd, Int.reduceLT, Int.reduceLE, Int.reduceAdd, Int.reduceSub, Int.reduceToNat, Int.reduceBEq, Int.reduceBNe, Int.reduceMul, Nat.reduceBEq, Nat.reduceBNe, Nat.reduceLT, Nat.reduceLeDiff, Nat.reduceMul, Nat.reduceEqDiff, WD, effB, effH, isPriv, isHeap, isImm, zbx, zby, zbz, chkO, setD, dslot, zca, zcb, zcc, zcd, ptrCells_some, F18, zq2, zp2, e1.at1 q2, e1.cells, e2.at1 p2, e2.cells, alts18_6, bne_self_eq_false]
      refine ⟨im.strs.length - (i + 1), by omega, i + 1, ?_, by omega, rfl⟩
      simp only [WN, firstReg, growAll, zbv, zbw, norm, killS, zag, zah, zaa, zab, zbl, zat, zad, growOne, zae, zaf, zac, zas, zak, Nat.reduceLT, Nat.reduceAdd, zbj, zav, F18, yq1, yq2, yq3, yp1, yp2, yp3]
      rw [IntWalk.i64_in ((i : Int) + 1) (by omega)]; rfl
    · simp only [hge]
      simp only [WW, partV, eqCells, eqLf, minV, maxV, ifcV, zaa, zab, zac, zad, zae, zaf, zag, zah, zai, ofConst, ofConst1, List.replicate, zaj, zak, loadOp, Go.Abs.loadCells, binV, zal, pickV, zam, zan, zao, zap, zaq, zar, zas, zat, zau, outR, resAll, resOne, zav, zaw, zax, zay, zaz, zba, zbb, zbc, zbd, zbe, zbf, zbg, zbh, zbi, zbj, zbk, storeOp, storeCell, overlay, zbl, zbm, zbn, lookupOp, keyT, okRes, mapUpdateOp, zbo, zbp, zbq, zbr, zbs, zbt, zbu, Nat.reduceSub, Nat.reduceAdd, Int.reduceLT, Int.reduceLE, Int.reduceAdd, Int.reduceSub, Int.reduceToNat, Int.reduceBEq, Int.reduceBNe, Int.reduceMul, Nat.reduceBEq, Nat.reduceBNe, Nat.reduceLT, Nat.reduceLeDiff, Nat.reduceMul, Nat.reduceEqDiff, WD, effB, effH, isPriv, isHeap, isImm, zbx, zby, zbz, chkO, setD, dslot, zca, zcb, zcc, zcd, ptrCells_some, F18]
      refine wC_loop _ (fun k st' H' => ∃ (i : Nat), st' = ⟨L18_9 (.box 0) (.box 1) (.v (.int .i64 i)), [[fu, st, ke, .int .i64 im.globals], [gu, tt, le, .int .i64 im.globals]], []⟩ ∧ H' = H ∧ i ≤ im.keys.length ∧ k = im.keys.length - i) im.keys.length ⟨0, ?_, rfl, by omega, by omega⟩ ?_
      · simp only [WN, firstReg, growAll, zbv, zbw, norm, killS, zag, zah, zaa, zab, zbl, zat, zad, growOne, zae, zaf, zac, zas, zak, Nat.reduceLT, Nat.reduceAdd, zbj, zav, F18, L18_9, yq1, yq2, yq3, yp1, yp2, yp3]
        rfl
      · rintro k st' H ⟨i, rfl, rfl, hi, rfl⟩
        simp only [L18_9]
        simp only [WW, partV, eqCells, eqLf, minV, maxV, ifcV, zaa, zab, zac, zad, zae, zaf, zag, zah, zai, ofConst, ofConst1, List.replicate, zaj, zak, loadOp, Go.Abs.loadCells, binV, zal, pickV, zam, zan, zao, zap, zaq, zar, zas, zat, zau, outR, resAll, resOne, zav, zaw, zax, zay, zaz, zba, zbb, zbc, zbd, zbe, zbf, zbg, zbh, zbi, zbj, zbk, storeOp, storeCell, overlay, zbl, zbm, zbn, lookupOp, keyT, okRes, mapUpdateOp, zbo, zbp, zbq, zbr, zbs, zbt, zbu, Nat.reduceSub, Nat.reduceAdd, Int.reduceLT, Int.reduceLE, Int.reduceAdd, Int.reduceSub, Int.reduceToNat, Int.reduceBEq, Int.reduceBNe, Int.reduceMul, Nat.reduceBEq, Nat.reduceBNe, Nat.reduceLT, Nat.reduceLeDiff, Nat.reduceMul, Nat.reduceEqDiff, WD, effB, effH, isPriv, isHeap, isImm, zbx, zby, zbz, chkO, setD, dslot, zca, zcb, zcc, zcd, ptrCells_some, F18, zq3, zp3, q3.len, kl]
        refine cSplit (fun hlt => ?_) (fun hge => ?_)
        · have hi2 : i < im.keys.length := by have := of_decide_eq_true hlt; omega
          have hs : im.keys[i]? = some im.keys[i] := List.getElem?_eq_getElem hi2
          generalize im.keys[i] = y at hs
          have hmem := List.mem_of_getElem? hs
          simp only [hlt]
          obtain ⟨u1, hu1, hR1⟩ := k2.get hs
          obtain ⟨u2, hu2, hR2⟩ := l2.get hs
          have e1 := q3.at_ (sz := 1) (i := i) hu1 hR1.width1
          have e2 := p3.at_ (sz := 1) (i := i) hu2 hR2.width1
          have hnw := hsame_intsW hR1 hR2 (by have := m5 y hmem; omega)
          simp only [WW, partV, eqCells, eqLf, minV, maxV, ifcV, zaa, zab, zac, zad, zae, zaf, zag, zah, zai, ofConst, ofConst1, List.replicate, zaj, zak, loadOp, Go.Abs.loadCells, binV, zal, pickV, zam, zan, zao, zap, zaq, zar, zas, zat, zau, outR, resAll, resOne, zav, zaw, zax, zay, zaz, zba, zbb, zbc, zbd, zbe, zbf, zbg, zbh, zbi, zbj, zbk, storeOp, storeCell, overlay, zbl, zbm, zbn, lookupOp, keyT, okRes, mapUpdateOp, zbo, zbp, zbq, zbr, zbs, zbt, zbu, Nat.reduceSub, Nat.reduceAdd, Int.reduceLT, Int.reduceLE, Int.reduceAdd, Int.reduceSub, Int.reduceToNat, Int.reduceBEq, Int.reduceBNe, Int.reduceMul, Nat.reduceBEq, Nat.reduceBNe, Nat.reduceLT, Nat.reduceLeDiff, Nat.reduceMul, Nat.reduceEqDiff, WD, effB, effH, isPriv, isHeap, isImm, zbx, zby, zbz, chkO, setD, dslot, zca, zcb, zcc, zcd, ptrCells_some, F18]
          refine wC_dr alts18_11 (by kernel_rfl) ?_
          simp only [WW, partV, eqCells, eqLf, minV, maxV, ifcV, zaa, zab, zac, zad, zae, zaf, zag, zah, zai, ofConst, ofConst1, List.replicate, zaj, zak, loadOp, Go.Abs.loadCells, binV, zal, pickV, zam, zan, zao, zap, zaq, zar, zas, zat, zau, outR, resAll, resOne, zav, zaw, zax, zay, zaz, zba, zbb, zbc, zbd, zbe, zbf, zbg, zbh, zbi, zbj, zbk, storeOp, storeCell, overlay, zbl, zbm, zbn, lookupOp, keyT, okRes, mapUpdateOp, zbo, zbp, zbq, zbr, zbs, zbt, zbu, Nat.reduceSub, Nat.reduceAdd, Int.reduceLT, Int.reduceLE, Int.reduceAdd, Int.reduceSub, Int.reduceToNat, Int.reduceBEq, Int.reduceBNe, Int.reduceMul, Nat.reduceBEq, Nat.reduceBNe, Nat.reduceLT, Nat.reduceLeDiff, Nat.reduceMul, Nat.reduceEqDiff, WD, effB, effH, isPriv, isHeap, isImm, zbx, zby, zbz, chkO, setD, dslot, zca, zcb, zcc, zcd, ptrCells_some, F18, zq3, zp3, e1.at1 q3, e1.cells, e2.at1 p3, e2.cells, alts18_11, bne_self_eq_false, hR1.cells1, hR2.cells1, hR1.shutIn, hR2.shutIn, hnw]
          refine ⟨im.keys.length - (i + 1), by omega, i + 1, ?_, by omega, rfl⟩
          simp only [WN, firstReg, growAll, zbv, zbw, norm, killS, zag, zah, zaa, zab, zbl, zat, zad, growOne, zae, zaf, zac, zas, zak, Nat.reduceLT, Nat.reduceAdd, zbj, zav, F18, yq1, yq2, yq3, yp1, yp2, yp3]
          rw [IntWalk.i64_in ((i : Int) + 1) (by omega)]; rfl
        · simp only [hge]
          simp only [WW, partV, eqCells, eqLf, minV, maxV, ifcV, zaa, zab, zac, zad, zae, zaf, zag, zah, zai, ofConst, ofConst1, List.replicate, zaj, zak, loadOp, Go.Abs.loadCells, binV, zal, pickV, zam, zan, zao, zap, zaq, zar, zas, zat, zau, outR, resAll, resOne, zav, zaw, zax, zay, zaz, zba, zbb, zbc, zbd, zbe, zbf, zbg, zbh, zbi, zbj, zbk, storeOp, storeCell, overlay, zbl, zbm, zbn, lookupOp, keyT, okRes, mapUpdateOp, zbo, zbp, zbq, zbr, zbs, zbt, zbu, Nat.reduceSub, Nat.reduceAdd, Int.reduceLT, Int.reduceLE, Int.reduceAdd, Int.reduceSub, Int.reduceToNat, Int.reduceBEq, Int.reduceBNe, Int.reduceMul, Nat.reduceBEq, Nat.reduceBNe, Nat.reduceLT, Nat.reduceLeDiff, Nat.reduceMul, Nat.reduceEqDiff, WD, effB, effH, isPriv, isHeap, isImm, zbx, zby, zbz, chkO, setD, dslot, zca, zcb, zcc, zcd, ptrCells_some, F18]
          refine wC_loop _ (fun k st' H' => ∃ (i : Nat), st' = ⟨L18_14 (.box 0) (.box 1) (.v (.int .i64 i)), [[fu, st, ke, .int .i64 im.globals], [gu, tt, le, .int .i64 im.globals]], []⟩ ∧ H' = H ∧ i ≤ im.funs.length ∧ k = im.funs.length - i) im.funs.length ⟨0, ?_, rfl, by omega, by omega⟩ ?_
          · simp only [WN, firstReg, growAll, zbv, zbw, norm, killS, zag, zah, zaa, zab, zbl, zat, zad, growOne, zae, zaf, zac, zas, zak, Nat.reduceLT, Nat.reduceAdd, zbj, zav, F18, L18_14, yq1, yq2, yq3, yp1, yp2, yp3]
            rfl
          · rintro k st' H ⟨i, rfl, rfl, hi, rfl⟩
            simp only [L18_14]
            simp only [WW, partV, eqCells, eqLf, minV, maxV, ifcV, zaa, zab, zac, zad, zae, zaf, zag, zah, zai, ofConst, ofConst1, List.replicate, zaj, zak, loadOp, Go.Abs.loadCells, binV, zal, pickV, zam, zan, zao, zap, zaq, zar, zas, zat, zau, outR, resAll, resOne, zav, zaw, zax, zay, zaz, zba, zbb, zbc, zbd, zbe, zbf, zbg, zbh, zbi, zbj, zbk, storeOp, storeCell, overlay, zbl, zbm, zbn, lookupOp, keyT, okRes, mapUpdateOp, zbo, zbp, zbq, zbr, zbs, zbt, zbu, Nat.reduceSub, Nat.reduceAdd, Int.reduceLT, Int.reduceLE, Int.reduceAdd, Int.reduceSub, Int.reduceToNat, Int.reduceBEq, Int.reduceBNe, Int.reduceMul, Nat.reduceBEq, Nat.reduceBNe, Nat.reduceLT, Nat.reduceLeDiff, Nat.reduceMul, Nat.reduceEqDiff, WD, effB, effH, isPriv, isHeap, isImm, zbx, zby, zbz, chkO, setD, dslot, zca, zcb, zcc, zcd, ptrCells_some, F18, zq1, zp1, q1.len, fl]
            refine cSplit (fun hlt => ?_) (fun hge => ?_)
            · have hi2 : i < im.funs.length := by have := of_decide_eq_true hlt; omega
              have hs : im.funs[i]? = some im.funs[i] := List.getElem?_eq_getElem hi2
              generalize im.funs[i] = y at hs
              have hmem := List.mem_of_getElem? hs
              simp only [hlt]
              obtain ⟨u1, hu1, hR1⟩ := f2.get hs
              obtain ⟨u2, hu2, hR2⟩ := g2.get hs
              have hnw : ∀ K, wpCall (evW Tryd.prog notes) 56 [u1, u2] H K = K (.ret (.bool true) false) H := fun K => wpCall_eq (hsame_code hR1 hR2 (m6 y hmem))
              obtain ⟨⟨k1, k2', k3, k4, rfl, a1, a2, a3, a4⟩⟩ := hR1
              obtain ⟨⟨j1, j2, j3, j4, rfl, b1, b2, b3, b4⟩⟩ := hR2
              have e1 := q1.at_ (sz := 6) (i := i) hu1 rfl
              have e2 := p1.at_ (sz := 6) (i := i) hu2 rfl
              simp only [WW, partV, eqCells, eqLf, minV, maxV, ifcV, zaa, zab, zac, zad, zae, zaf, zag, zah, zai, ofConst, ofConst1, List.replicate, zaj, zak, loadOp, Go.Abs.loadCells, binV, zal, pickV, zam, zan, zao, zap, zaq, zar, zas, zat, zau, outR, resAll, resOne, zav, zaw, zax, zay, zaz, zba, zbb, zbc, zbd, zbe, zbf, zbg, zbh, zbi, zbj, zbk, storeOp, storeCell, overlay, zbl, zbm, zbn, lookupOp, keyT, okRes, mapUpdateOp, zbo, zbp, zbq, zbr, zbs, zbt, zbu, Nat.reduceSub, Nat.reduceAdd, Int.reduceLT, Int.reduceLE, Int.reduceAdd, Int.reduceSub, Int.reduceToNat, Int.reduceBEq, Int.reduceBNe, Int.reduceMul, Nat.reduceBEq, Nat.reduceBNe, Nat.reduceLT, Nat.reduceLeDiff, Nat.reduceMul, Nat.reduceEqDiff, WD, effB, effH, isPriv, isHeap, isImm, zbx, zby, zbz, chkO, setD, dslot, zca, zcb, zcc, zcd, ptrCells_some, F18]
              refine wC_dr alts18_16 (by kernel_rfl) ?_
              simp only [WW, partV, eqCells, eqLf, minV, maxV, ifcV, zaa, zab, zac, zad, zae, zaf, zag, zah, zai, ofConst, ofConst1, List.replicate, zaj, zak, loadOp, Go.Abs.loadCells, binV, zal, pickV, zam, zan, zao, zap, zaq, zar, zas, zat, zau, outR, resAll, resOne, zav, zaw, zax, zay, zaz, zba, zbb, zbc, zbd, zbe, zbf, zbg, zbh, zbi, zbj, zbk, storeOp, storeCell, overlay, zbl, zbm, zbn, lookupOp, keyT, okRes, mapUpdateOp, zbo, zbp, zbq, zbr, zbs, zbt, zbu, Nat.reduceSub, Nat.reduceAdd, Int.reduceLT, Int.reduceLE, Int.reduceAdd, Int.reduceSub, Int.reduceToNat, Int.reduceBEq, Int.reduceBNe, Int.reduceMul, Nat.reduceBEq, Nat.reduceBNe, Nat.reduceLT, Nat.reduceLeDiff, Nat.reduceMul, Nat.reduceEqDiff, WD, effB, effH, isPriv, isHeap, isImm, zbx, zby, zbz, chkO, setD, dslot, zca, zcb, zcc, zcd, ptrCells_some, F18, zq1, zp1, e1.at1 q1, e1.cells, e2.at1 p1, e2.cells, alts18_16, bne_self_eq_false, hnw, a1.cells1, a1.shutIn, a2.cells1, a2.shutIn, a3.cells1, a3.shutIn, a4.cells1, a4.shutIn, b1.cells1, b1.shutIn, b2.cells1, b2.shutIn, b3.cells1, b3.shutIn, b4.cells1, b4.shutIn]
              refine ⟨im.funs.length - (i + 1), by omega, i + 1, ?_, by omega, rfl⟩
              simp only [WN, firstReg, growAll, zbv, zbw, norm, killS, zag, zah, zaa, zab, zbl, zat, zad, growOne, zae, zaf, zac, zas, zak, Nat.reduceLT, Nat.reduceAdd, zbj, zav, F18, yq1, yq2, yq3, yp1, yp2, yp3]
              rw [IntWalk.i64_in ((i : Int) + 1) (by omega)]; rfl
            · simp only [hge]
              simp only [WW, partV, eqCells, eqLf, minV, maxV, ifcV, zaa, zab, zac, zad, zae, zaf, zag, zah, zai, ofConst, ofConst1, List.replicate, zaj, zak, loadOp, Go.Abs.loadCells, binV, zal, pickV, zam, zan, zao, zap, zaq, zar, zas, zat, zau, outR, resAll, resOne, zav, zaw, zax, zay, zaz, zba, zbb, zbc, zbd, zbe, zbf, zbg, zbh, zbi, zbj, zbk, storeOp, storeCell, overlay, zbl, zbm, zbn, lookupOp, keyT, okRes, mapUpdateOp, zbo, zbp, zbq, zbr, zbs, zbt, zbu, Nat.reduceSub, Nat.reduceAdd, Int.reduceLT, Int.reduceLE, Int.reduceAdd, Int.reduceSub, Int.reduceToNat, Int.reduceBEq, Int.reduceBNe, Int.reduceMul, Nat.reduceBEq, Nat.reduceBNe, Nat.reduceLT, Nat.reduceLeDiff, Nat.reduceMul, Nat.reduceEqDiff, WD, effB, effH, isPriv, isHeap, isImm, zbx, zby, zbz, chkO, setD, dslot, zca, zcb, zcc, zcd, ptrCells_some, F18]
end Go.Proofs.YtgjobbmbbedecaaDoor
