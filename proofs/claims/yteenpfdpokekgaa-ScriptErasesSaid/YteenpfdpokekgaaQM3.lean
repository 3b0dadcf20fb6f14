/- A part of the proofs over this seat. -/
import Derived.Test.YteenpfdpokekgaaQM2
/- Scripts: the document's Erase. -/
namespace Go.Proofs.Yteenpfdpokekgaa
open Go Go.Abs Go.Proofs
set_option maxRecDepth 100000
set_option maxHeartbeats 8000000
set_option linter.unusedVariables false
set_option linter.unusedSimpArgs false
theorem copyR_ext (es : List V) (H : Hp) : ∃ e, (copyR es H).2 = H ++ e := by
  unfold copyR
  split
  · exact ⟨[], by simp⟩
  · exact ⟨_, rfl⟩
theorem rerase_eq {H : Hp} {xe xd : V} {E : List Ent} {D : List Int} (he : Sx H xe (entsV E)) (hd : Sx H xd (intsV D)) (hE : E.length < 4294967296) (hD : D.length < 4294967296) :
    wpCall EW 14 [.agg [xe, xd]] H (fun out H' => ∃ ye yd, out = .ret (.agg [ye, yd]) false ∧ Sx H' ye (entsV (filt E)) ∧ Sx H' yd (intsV D) ∧ (∀ i, i < H.length → H'[i]? = H[i]?) ∧ H.length ≤ H'.length) := by
  have her := he.rd
  have hdr := hd.rd
  have ha0 : ∀ st d, appendOp Try.prog .heap st H d 3 .emp (intsV D) = some (putS st d (.v (copyR (intsV D) H).1), (copyR (intsV D) H).2) := fun st d => app_emp (by rw [size3]; exact ints_wide D) (by rw [room3, ints_len]; simp; omega)
  have hs0 : Sx (copyR (intsV D) H).2 (copyR (intsV D) H).1 (intsV D) := copy_sx
  obtain ⟨e0, he0⟩ := copyR_ext (intsV D) H
  rw [he0] at ha0 hs0
  generalize (copyR (intsV D) H).1 = yd at ha0 hs0
  have hydr := hs0.rd
  refine runs f14 b14 r14 n14 _ _ ?_
  simp only [bodyOf, Try.f14, Option.getD_some]
  simp only [WW, partV, eqCells, eqLf, minV, maxV, ifcV, zaa, zab, zac, zad, zae, zaf, zag, zah, zai, ofConst, ofConst1, List.replicate, zaj, zak, loadOp, Go.Abs.loadCells, binV, zal, pickV, zam, zan, zao, zap, zaq, zar, zas, zat, zau, outR, resAll, resOne, zav, zaw, zax, zay, zaz, zba, zbb, zbc, zbd, zbe, zbf, zbg, zbh, zbi, zbj, zbk, storeOp, storeCell, overlay, zbl, zbm, zbn, lookupOp, keyT, okRes, mapUpdateOp, zbo, zbp, zbq, zbr, zbs, zbt, zbu, Nat.reduceSub, Nat.reduceAdd, Int.reduceLT, Int.reduceLE, Int.reduceAdd, Int.reduceSub, Int.reduceToNat, Int.reduceBEq, Int.reduceBNe, Int.reduceMul, Nat.reduceBEq, Nat.reduceBNe, Nat.reduceLT, Nat.reduceLeDiff, Nat.reduceMul, Nat.reduceEqDiff, WD, effB, effH, isPriv, isHeap, isImm, zbx, zby, zbz, chkO, setD, dslot, zca, zcb, zcc, zcd, ptrCells_some, F14, hdr.shutIn, her.ok, hdr.ok, hdr.srcSl, buildSliceV, lits, srcV_eq, srcK_sl, srcK_str, srcSl_nils, srcSl_rsl, srcSl_sl, frow, zbv, zbw, List.all_nil, List.all_cons, rowV, Bool.false_and, Bool.and_false, ne_eq, not_false_eq_true, grows_lr, callOut_t, ha0, buildOp, fillV, Lay.place, Bool.or_self, Bool.or_false, Bool.false_or, decide_not, not_true_eq_false, decide_eq_true_eq, Nat.lt_irrefl, hydr.shutIn, hydr.ok, hydr.cells1, hydr.width1]
  refine wC_loop _ (fun n st H' => ∃ (i : Nat) (ye : V), st = ⟨L14_3 (.box 0) (.box 1) (.box 2) (.v (.int .i64 i)), [[xe, xd], [.nils, .nils], [ye, yd]], []⟩ ∧ SlW 6 H' (fun i => i < (H ++ e0).length) ye (entsV (filt (E.take i))) ∧ (∀ j, j < (H ++ e0).length → H'[j]? = (H ++ e0)[j]?) ∧ (H ++ e0).length ≤ H'.length ∧ i ≤ E.length ∧ n = E.length - i) E.length ⟨0, .nils, ?_, .inl ⟨rfl, by simp [filt, entsV]⟩, fun _ _ => rfl, Nat.le_refl _, by omega, by omega⟩ ?_
  · simp only [WN, firstReg, growAll, zbv, zbw, norm, killS, zag, zah, zaa, zab, zbl, zat, zad, growOne, zae, zaf, zac, zas, zak, Nat.reduceLT, Nat.reduceAdd, zbj, zav, F14, L14_3, her.clip2, her.clip, hdr.clip, hydr.clip]
    try rfl
  · rintro n st H' ⟨i, ye, rfl, hy, hf, hge, hi, rfl⟩
    have hf0 : ∀ j, j < H.length → H'[j]? = H[j]? := fun j hj => by rw [hf j (by simp; omega), List.getElem?_append_left hj]
    have h1 := (sx_fr he hf0).rd
    simp only [L14_3]
    by_cases hlt : i < E.length
    · have g1 : decide ((i : Int) < (E.length : Int)) = true := decide_eq_true (by omega)
      have hEi : E[i]? = some E[i] := List.getElem?_eq_getElem hlt
      generalize E[i] = e at hEi
      have hat := h1.at_ (sz := 6) (i := i) (e := entV e) (by simp [entsV, hEi]) rfl
      have hi1 : IntKind.i64.wrap ((i : Int) + 1) = ((i + 1 : Nat) : Int) := by rw [IntWalk.i64_in _ (by omega)]; omega
      have hft := filt_take hEi
      have hfl := filt_len (E.take i)
      have hfl2 : (E.take i).length ≤ E.length := by simp; omega
      cases hk : (e.k != 3) with
      | true =>
        rw [hk] at hft
        simp only [if_true] at hft
        obtain ⟨y2, H2, ha, hy2, hk2, hle2⟩ := app_sl (P := Try.prog) (sz := 6) (e := 40) (d := some 32) [entV e] (by kernel_rfl) hy (fun j hj => by omega) rfl (by simp) (by rw [room40]; simp [ents_len]; omega)
        have hy3 : SlW 6 H2 (fun i => i < (H ++ e0).length) y2 (entsV (filt (E.take (i + 1)))) := by rw [hft]; simp only [entsV, List.map_append] at hy2 ⊢; exact hy2
        have h12 : Sx H2 xe (entsV E) := sx_fr he (fun j hj => by rw [hk2 j (by simp; omega), hf0 j hj])
        simp only [entV] at ha
        simp only [WW, partV, eqCells, eqLf, minV, maxV, ifcV, zaa, zab, zac, zad, zae, zaf, zag, zah, zai, ofConst, ofConst1, List.replicate, zaj, zak, loadOp, Go.Abs.loadCells, binV, zal, pickV, zam, zan, zao, zap, zaq, zar, zas, zat, zau, outR, resAll, resOne, zav, zaw, zax, zay, zaz, zba, zbb, zbc, zbd, zbe, zbf, zbg, zbh, zbi, zbj, zbk, storeOp, storeCell, overlay, zbl, zbm, zbn, lookupOp, keyT, okRes, mapUpdateOp, zbo, zbp, zbq, zbr, zbs, zbt, zbu, Nat.reduceSub, Nat.reduceAdd, Int.reduceLT, Int.reduceLE, Int.reduceAdd, Int.reduceSub, Int.reduceToNat, Int.reduceBEq, Int.reduceBNe, Int.reduceMul, Nat.reduceBEq, Nat.reduceBNe, Nat.reduceLT, Nat.reduceLeDiff, Nat.reduceMul, Nat.reduceEqDiff, WD, effB, effH, isPriv, isHeap, isImm, zbx, zby, zbz, chkO, setD, dslot, zca, zcb, zcc, zcd, ptrCells_some, F14, g1, h1.shutIn, h1.len, ents_len, hat.at1 h1, hat.fa, hat.cells, entV, hk]
        refine wC_dr [] (by kernel_rfl) ?_
        simp only [WW, partV, eqCells, eqLf, minV, maxV, ifcV, zaa, zab, zac, zad, zae, zaf, zag, zah, zai, ofConst, ofConst1, List.replicate, zaj, zak, loadOp, Go.Abs.loadCells, binV, zal, pickV, zam, zan, zao, zap, zaq, zar, zas, zat, zau, outR, resAll, resOne, zav, zaw, zax, zay, zaz, zba, zbb, zbc, zbd, zbe, zbf, zbg, zbh, zbi, zbj, zbk, storeOp, storeCell, overlay, zbl, zbm, zbn, lookupOp, keyT, okRes, mapUpdateOp, zbo, zbp, zbq, zbr, zbs, zbt, zbu, Nat.reduceSub, Nat.reduceAdd, Int.reduceLT, Int.reduceLE, Int.reduceAdd, Int.reduceSub, Int.reduceToNat, Int.reduceBEq, Int.reduceBNe, Int.reduceMul, Nat.reduceBEq, Nat.reduceBNe, Nat.reduceLT, Nat.reduceLeDiff, Nat.reduceMul, Nat.reduceEqDiff, WD, effB, effH, isPriv, isHeap, isImm, zbx, zby, zbz, chkO, setD, dslot, zca, zcb, zcc, zcd, ptrCells_some, F14, g1, h1.shutIn, h1.len, ents_len, hat.at1 h1, hat.fa, hat.cells, entV, hi1, hk, buildSliceV, lits, srcV_eq, srcK_sl, srcK_str, srcSl_nils, srcSl_rsl, srcSl_sl, frow, zbv, zbw, List.all_nil, List.all_cons, rowV, Bool.false_and, Bool.and_false, ne_eq, not_false_eq_true, grows_lr, callOut_t, hy.shut, ha, hy3.ok, hy3.cells1, hy3.width1, hy3.shut]
        refine ⟨E.length - (i + 1), by omega, i + 1, y2, ?_, hy3, fun j hj => by rw [hk2 j hj]; exact hf j hj, by omega, by omega, rfl⟩
        simp only [WN, firstReg, growAll, zbv, zbw, norm, killS, zag, zah, zaa, zab, zbl, zat, zad, growOne, zae, zaf, zac, zas, zak, Nat.reduceLT, Nat.reduceAdd, zbj, zav, F14, L14_3, her.clip2, her.clip, hdr.clip, hydr.clip, hy3.clip]
        try rfl
      | false =>
        rw [hk] at hft
        simp only [Bool.false_eq_true, if_false, List.append_nil] at hft
        simp only [WW, partV, eqCells, eqLf, minV, maxV, ifcV, zaa, zab, zac, zad, zae, zaf, zag, zah, zai, ofConst, ofConst1, List.replicate, zaj, zak, loadOp, Go.Abs.loadCells, binV, zal, pickV, zam, zan, zao, zap, zaq, zar, zas, zat, zau, outR, resAll, resOne, zav, zaw, zax, zay, zaz, zba, zbb, zbc, zbd, zbe, zbf, zbg, zbh, zbi, zbj, zbk, storeOp, storeCell, overlay, zbl, zbm, zbn, lookupOp, keyT, okRes, mapUpdateOp, zbo, zbp, zbq, zbr, zbs, zbt, zbu, Nat.reduceSub, Nat.reduceAdd, Int.reduceLT, Int.reduceLE, Int.reduceAdd, Int.reduceSub, Int.reduceToNat, Int.reduceBEq, Int.reduceBNe, Int.reduceMul, Nat.reduceBEq, Nat.reduceBNe, Nat.reduceLT, Nat.reduceLeDiff, Nat.reduceMul, Nat.reduceEqDiff, WD, effB, effH, isPriv, isHeap, isImm, zbx, zby, zbz, chkO, setD, dslot, zca, zcb, zcc, zcd, ptrCells_some, F14, g1, h1.shutIn, h1.len, ents_len, hat.at1 h1, hat.fa, hat.cells, entV, hi1, hk]
        refine ⟨E.length - (i + 1), by omega, i + 1, ye, ?_, by rw [hft]; exact hy, hf, hge, by omega, rfl⟩
        simp only [WN, firstReg, growAll, zbv, zbw, norm, killS, zag, zah, zaa, zab, zbl, zat, zad, growOne, zae, zaf, zac, zas, zak, Nat.reduceLT, Nat.reduceAdd, zbj, zav, F14, L14_3, her.clip2, her.clip, hdr.clip, hydr.clip, hy.clip]
        try rfl
    · have g1 : decide ((i : Int) < (E.length : Int)) = false := decide_eq_false (by omega)
      have hie : E.take i = E := List.take_of_length_le (by omega)
      rw [hie] at hy
      have hyd' : Sx H' yd (intsV D) := sx_fr hs0 hf
      simp only [WW, partV, eqCells, eqLf, minV, maxV, ifcV, zaa, zab, zac, zad, zae, zaf, zag, zah, zai, ofConst, ofConst1, List.replicate, zaj, zak, loadOp, Go.Abs.loadCells, binV, zal, pickV, zam, zan, zao, zap, zaq, zar, zas, zat, zau, outR, resAll, resOne, zav, zaw, zax, zay, zaz, zba, zbb, zbc, zbd, zbe, zbf, zbg, zbh, zbi, zbj, zbk, storeOp, storeCell, overlay, zbl, zbm, zbn, lookupOp, keyT, okRes, mapUpdateOp, zbo, zbp, zbq, zbr, zbs, zbt, zbu, Nat.reduceSub, Nat.reduceAdd, Int.reduceLT, Int.reduceLE, Int.reduceAdd, Int.reduceSub, Int.reduceToNat, Int.reduceBEq, Int.reduceBNe, Int.reduceMul, Nat.reduceBEq, Nat.reduceBNe, Nat.reduceLT, Nat.reduceLeDiff, Nat.reduceMul, Nat.reduceEqDiff, WD, effB, effH, isPriv, isHeap, isImm, zbx, zby, zbz, chkO, setD, dslot, zca, zcb, zcc, zcd, ptrCells_some, F14, g1, h1.shutIn, h1.len, ents_len, hy.shut, hy.ok, hyd'.rd.shutIn, hyd'.rd.ok]
      exact ⟨ye, yd, rfl, hy.sx, hyd', hf0, by simp at hge; omega⟩
end Go.Proofs.Yteenpfdpokekgaa

/- The page's example, by Parse's specification. -/
namespace Go.Proofs.Yteenpfdpokekgaa
open Go Go.Abs Go.Proofs
set_option maxRecDepth 100000
set_option maxHeartbeats 8000000
set_option linter.unusedVariables false
set_option linter.unusedSimpArgs false
def T1 : List UInt8 := [112, 105, 99, 107, 32, 48, 32, 50, 10, 100, 114, 97, 119, 32, 45, 53, 10, 116, 105, 101, 114, 32, 49, 32, 49, 32, 48, 32, 50, 10]
def T2 : List UInt8 := [112, 105, 99, 107, 32, 49, 32, 54, 53, 10]
theorem t1_res : parseR T1 = ⟨[⟨1, 0, 2, 0, 0, 0⟩, ⟨3, 1, 0, 1, 0, 2⟩], [-5], 0, 30⟩ := by kernel_rfl
theorem t2_res : parseR T2 = ⟨[], [], 9, 7⟩ := by kernel_rfl
def W1 : List V := [.int .u8 112, .int .u8 105, .int .u8 99, .int .u8 107, .int .u8 32, .int .u8 48, .int .u8 32, .int .u8 50, .int .u8 10, .int .u8 100, .int .u8 114, .int .u8 97, .int .u8 119, .int .u8 32, .int .u8 45, .int .u8 53, .int .u8 10, .int .u8 116, .int .u8 105, .int .u8 101, .int .u8 114, .int .u8 32, .int .u8 49, .int .u8 32, .int .u8 49, .int .u8 32, .int .u8 48, .int .u8 32, .int .u8 50, .int .u8 10]
def W2 : List V := [.int .u8 112, .int .u8 105, .int .u8 99, .int .u8 107, .int .u8 32, .int .u8 49, .int .u8 32, .int .u8 54, .int .u8 53, .int .u8 10]
theorem w1_eq : by8 T1 = W1 := rfl
theorem w2_eq : by8 T2 = W2 := rfl
theorem wd_last {G : Hp} {L : List UInt8} {n : Nat} : Wd (G ++ [Blk.cells (by8 L)]) (.sl G.length 0 n) := by
  intro id lo len es e1 e2
  cases e1
  rw [get_last] at e2
  cases e2
  exact wide8 L
theorem sx_last {G : Hp} {L : List UInt8} {n : Nat} (h : n = L.length) : Sx (G ++ [Blk.cells (by8 L)]) (.sl G.length 0 n) (by8 L) := by
  subst h
  have := Sx.whole (H := G ++ [Blk.cells (by8 L)]) (id := G.length) (es := by8 L) (get_last _ _)
  rwa [by8_len] at this
theorem p1_eq : wpCall EW 8 [.sl 0 0 30] [Blk.cells W1] (fun out H' => ∃ xe xd, out = .ret (.tup [.agg [xe, xd], .int .i64 0, .int .i64 30]) false ∧ ScR [Blk.cells W1] H' xe xd [⟨1, 0, 2, 0, 0, 0⟩, ⟨3, 1, 0, 1, 0, 2⟩] [-5]) := by
  have := parse_spec (x := .sl 0 0 30) (B := T1) (sx_last (G := []) (L := T1) rfl) (wd_last (G := []) (L := T1)) (by decide)
  rw [t1_res, w1_eq] at this
  exact this
theorem p2_eq (G : Hp) : wpCall EW 8 [.sl G.length 0 10] (G ++ [Blk.cells W2]) (fun out H' => ∃ xe xd, out = .ret (.tup [.agg [xe, xd], .int .i64 9, .int .i64 7]) false ∧ ScR (G ++ [Blk.cells W2]) H' xe xd [] []) := by
  have := parse_spec (x := .sl G.length 0 10) (B := T2) (sx_last (G := G) (L := T2) rfl) (wd_last (G := G) (L := T2)) (by decide)
  rw [t2_res, w2_eq] at this
  exact this
theorem slw_ext {sz : Nat} {H H' : Hp} {N : Nat → Prop} {x : V} {l : List V} (h : SlW sz H N x l) (hf : ∀ i, i < H.length → H'[i]? = H[i]?) : SlW sz H' N x l :=
  h.keep fun i es _ e => by rw [hf i (List.getElem?_eq_some_iff.1 e).1]; exact e
theorem live_eq (H : Hp) : EW 7 [] H = some (.ret (.bool true) false, H) := by
  refine eqOf (runsP f7 b7 r7 n7 _ rfl _ ?_)
  simp only [bodyOf, Try.f7, Option.getD_some]
  have p1 := p1_eq
  unfold W1 at p1
  simp only [WW, partV, eqCells, eqLf, minV, maxV, ifcV, zaa, zab, zac, zad, zae, zaf, zag, zah, zai, ofConst, ofConst1, List.replicate, zaj, zak, loadOp, Go.Abs.loadCells, binV, zal, pickV, zam, zan, zao, zap, zaq, zar, zas, zat, zau, outR, resAll, resOne, zav, zaw, zax, zay, zaz, zba, zbb, zbc, zbd, zbe, zbf, zbg, zbh, zbi, zbj, zbk, storeOp, storeCell, overlay, zbl, zbm, zbn, lookupOp, keyT, okRes, mapUpdateOp, zbo, zbp, zbq, zbr, zbs, zbt, zbu, Nat.reduceSub, Nat.reduceAdd, Int.reduceLT, Int.reduceLE, Int.reduceAdd, Int.reduceSub, Int.reduceToNat, Int.reduceBEq, Int.reduceBNe, Int.reduceMul, Nat.reduceBEq, Nat.reduceBNe, Nat.reduceLT, Nat.reduceLeDiff, Nat.reduceMul, Nat.reduceEqDiff, WD, effB, effH, isPriv, isHeap, isImm, zbx, zby, zbz, chkO, setD, dslot, zca, zcb, zcc, zcd, ptrCells_some, F7, buildOp, fillV, Lay.place, Bool.or_self, Bool.or_false, Bool.false_or, decide_not, ne_eq, not_true_eq_false, decide_eq_true_eq, Nat.lt_irrefl, buildSliceV, lits, srcV_eq, srcK_sl, srcK_str, srcSl_nils, srcSl_rsl, srcSl_sl, frow, zbv, zbw, List.all_nil, List.all_cons, rowV, Bool.false_and, Bool.and_false, not_false_eq_true, grows_lr, callOut_t, convertOp]
  refine wpCall_of p1 ?_
  rintro out H2 ⟨xe, xd, rfl, S1⟩
  have p2 := p2_eq H2
  unfold W2 at p2
  simp only [WW, partV, eqCells, eqLf, minV, maxV, ifcV, zaa, zab, zac, zad, zae, zaf, zag, zah, zai, ofConst, ofConst1, List.replicate, zaj, zak, loadOp, Go.Abs.loadCells, binV, zal, pickV, zam, zan, zao, zap, zaq, zar, zas, zat, zau, outR, resAll, resOne, zav, zaw, zax, zay, zaz, zba, zbb, zbc, zbd, zbe, zbf, zbg, zbh, zbi, zbj, zbk, storeOp, storeCell, overlay, zbl, zbm, zbn, lookupOp, keyT, okRes, mapUpdateOp, zbo, zbp, zbq, zbr, zbs, zbt, zbu, Nat.reduceSub, Nat.reduceAdd, Int.reduceLT, Int.reduceLE, Int.reduceAdd, Int.reduceSub, Int.reduceToNat, Int.reduceBEq, Int.reduceBNe, Int.reduceMul, Nat.reduceBEq, Nat.reduceBNe, Nat.reduceLT, Nat.reduceLeDiff, Nat.reduceMul, Nat.reduceEqDiff, WD, effB, effH, isPriv, isHeap, isImm, zbx, zby, zbz, chkO, setD, dslot, zca, zcb, zcc, zcd, ptrCells_some, F7, S1.se.shut, S1.sd.shut, S1.se.ok, S1.sd.ok, S1.se.cells1, S1.sd.cells1, buildOp, fillV, Lay.place, Bool.or_self, Bool.or_false, Bool.false_or, decide_not, ne_eq, not_true_eq_false, decide_eq_true_eq, Nat.lt_irrefl, buildSliceV, lits, srcV_eq, srcK_sl, srcK_str, srcSl_nils, srcSl_rsl, srcSl_sl, frow, zbv, zbw, List.all_nil, List.all_cons, rowV, Bool.false_and, Bool.and_false, not_false_eq_true, grows_lr, callOut_t, convertOp, get_last]
  refine wpCall_of p2 ?_
  rintro out H3 ⟨ye, yd, rfl, S2⟩
  have hfr : ∀ i, i < H2.length → H3[i]? = H2[i]? := fun i hi => by rw [S2.fr i (by simp; omega), List.getElem?_append_left hi]
  have se := slw_ext S1.se hfr
  have sd := slw_ext S1.sd hfr
  have hat := se.rd.at_ (sz := 6) (i := 1) (e := entV ⟨3, 1, 0, 1, 0, 2⟩) rfl rfl
  have hat0 := sd.rd.at_ (sz := 1) (i := 0) (e := intV (-5)) rfl rfl
  have hpk := picks_eq (E := [⟨1, 0, 2, 0, 0, 0⟩, ⟨3, 1, 0, 1, 0, 2⟩]) (D := [-5]) se.rd sd.rd (by simp)
  have hcn : cntP [⟨1, 0, 2, 0, 0, 0⟩, ⟨3, 1, 0, 1, 0, 2⟩] = 1 := rfl
  rw [hcn] at hpk
  have ha1 : slAt 6 H3 (viewV H3 xe) (1 : Int) = some (.v (atV H3 xe 1 0)) := hat.at1 se.rd
  have ha0 : slAt 1 H3 (viewV H3 xd) (0 : Int) = some (.v (atV H3 xd 0 0)) := hat0.at1 sd.rd
  have hl1 : lenK H3 (TK.slice 40) xe = some (.int .i64 2) := se.len 40
  have hl0 : lenK H3 (TK.slice 3) xd = some (.int .i64 1) := sd.len 3
  simp only [WW, partV, eqCells, eqLf, minV, maxV, ifcV, zaa, zab, zac, zad, zae, zaf, zag, zah, zai, ofConst, ofConst1, List.replicate, zaj, zak, loadOp, Go.Abs.loadCells, binV, zal, pickV, zam, zan, zao, zap, zaq, zar, zas, zat, zau, outR, resAll, resOne, zav, zaw, zax, zay, zaz, zba, zbb, zbc, zbd, zbe, zbf, zbg, zbh, zbi, zbj, zbk, storeOp, storeCell, overlay, zbl, zbm, zbn, lookupOp, keyT, okRes, mapUpdateOp, zbo, zbp, zbq, zbr, zbs, zbt, zbu, Nat.reduceSub, Nat.reduceAdd, Int.reduceLT, Int.reduceLE, Int.reduceAdd, Int.reduceSub, Int.reduceToNat, Int.reduceBEq, Int.reduceBNe, Int.reduceMul, Nat.reduceBEq, Nat.reduceBNe, Nat.reduceLT, Nat.reduceLeDiff, Nat.reduceMul, Nat.reduceEqDiff, WD, effB, effH, isPriv, isHeap, isImm, zbx, zby, zbz, chkO, setD, dslot, zca, zcb, zcc, zcd, ptrCells_some, F7, S2.se.shut, S2.sd.shut, S2.se.ok, S2.sd.ok, S2.se.cells1, S2.sd.cells1, buildOp, fillV, Lay.place, Bool.or_self, Bool.or_false, Bool.false_or, decide_not, ne_eq, not_true_eq_false, decide_eq_true_eq, Nat.lt_irrefl]
  rw [wpCall_eq (num_eq _ _)]
  simp only [WW, partV, eqCells, eqLf, minV, maxV, ifcV, zaa, zab, zac, zad, zae, zaf, zag, zah, zai, ofConst, ofConst1, List.replicate, zaj, zak, loadOp, Go.Abs.loadCells, binV, zal, pickV, zam, zan, zao, zap, zaq, zar, zas, zat, zau, outR, resAll, resOne, zav, zaw, zax, zay, zaz, zba, zbb, zbc, zbd, zbe, zbf, zbg, zbh, zbi, zbj, zbk, storeOp, storeCell, overlay, zbl, zbm, zbn, lookupOp, keyT, okRes, mapUpdateOp, zbo, zbp, zbq, zbr, zbs, zbt, zbu, Nat.reduceSub, Nat.reduceAdd, Int.reduceLT, Int.reduceLE, Int.reduceAdd, Int.reduceSub, Int.reduceToNat, Int.reduceBEq, Int.reduceBNe, Int.reduceMul, Nat.reduceBEq, Nat.reduceBNe, Nat.reduceLT, Nat.reduceLeDiff, Nat.reduceMul, Nat.reduceEqDiff, WD, effB, effH, isPriv, isHeap, isImm, zbx, zby, zbz, chkO, setD, dslot, zca, zcb, zcc, zcd, ptrCells_some, F7, se.shut, sd.shut, hl1, hl0, ha1, hat.fa, hat.cells, entV, ha0, hat0.cells, intV]
  rw [wpCall_eq (num_eq _ _)]
  simp only [WW, partV, eqCells, eqLf, minV, maxV, ifcV, zaa, zab, zac, zad, zae, zaf, zag, zah, zai, ofConst, ofConst1, List.replicate, zaj, zak, loadOp, Go.Abs.loadCells, binV, zal, pickV, zam, zan, zao, zap, zaq, zar, zas, zat, zau, outR, resAll, resOne, zav, zaw, zax, zay, zaz, zba, zbb, zbc, zbd, zbe, zbf, zbg, zbh, zbi, zbj, zbk, storeOp, storeCell, overlay, zbl, zbm, zbn, lookupOp, keyT, okRes, mapUpdateOp, zbo, zbp, zbq, zbr, zbs, zbt, zbu, Nat.reduceSub, Nat.reduceAdd, Int.reduceLT, Int.reduceLE, Int.reduceAdd, Int.reduceSub, Int.reduceToNat, Int.reduceBEq, Int.reduceBNe, Int.reduceMul, Nat.reduceBEq, Nat.reduceBNe, Nat.reduceLT, Nat.reduceLeDiff, Nat.reduceMul, Nat.reduceEqDiff, WD, effB, effH, isPriv, isHeap, isImm, zbx, zby, zbz, chkO, setD, dslot, zca, zcb, zcc, zcd, ptrCells_some, F7, se.shut, sd.shut, hl1, hl0, ha1, hat.fa, hat.cells, entV, ha0, hat0.cells, intV]
  rw [wpCall_eq hpk]
  simp only [WW, partV, eqCells, eqLf, minV, maxV, ifcV, zaa, zab, zac, zad, zae, zaf, zag, zah, zai, ofConst, ofConst1, List.replicate, zaj, zak, loadOp, Go.Abs.loadCells, binV, zal, pickV, zam, zan, zao, zap, zaq, zar, zas, zat, zau, outR, resAll, resOne, zav, zaw, zax, zay, zaz, zba, zbb, zbc, zbd, zbe, zbf, zbg, zbh, zbi, zbj, zbk, storeOp, storeCell, overlay, zbl, zbm, zbn, lookupOp, keyT, okRes, mapUpdateOp, zbo, zbp, zbq, zbr, zbs, zbt, zbu, Nat.reduceSub, Nat.reduceAdd, Int.reduceLT, Int.reduceLE, Int.reduceAdd, Int.reduceSub, Int.reduceToNat, Int.reduceBEq, Int.reduceBNe, Int.reduceMul, Nat.reduceBEq, Nat.reduceBNe, Nat.reduceLT, Nat.reduceLeDiff, Nat.reduceMul, Nat.reduceEqDiff, WD, effB, effH, isPriv, isHeap, isImm, zbx, zby, zbz, chkO, setD, dslot, zca, zcb, zcc, zcd, ptrCells_some, F7, se.shut, sd.shut]
  try first | exact ⟨rfl, rfl⟩ | exact rfl
end Go.Proofs.Yteenpfdpokekgaa

/- Scripts without their tiers: what is told may be written over. -/
namespace Go.Proofs.Yteenpfdpokekgaa
open Go Go.Abs Go.Proofs
set_option maxRecDepth 100000
set_option maxHeartbeats 16000000
set_option linter.unusedVariables false
set_option linter.unusedSimpArgs false
theorem wpCall_run {C : Abs.Callee} {f : FuncId} {args : List V} {H : Hp} {K : Out → Hp → Prop} (h : wpCall C f args H K) : ∃ out H', C f args H = some (out, H') ∧ K out H' := by
  unfold wpCall at h
  cases hc : C f args H with
  | none => rw [hc] at h; exact h.elim
  | some r => rw [hc] at h; exact ⟨r.1, r.2, rfl, h⟩
theorem filt_k {E : List Ent} {e : Ent} (h : e ∈ filt E) : e.k ≠ 3 := by
  simp only [filt, List.mem_filter, bne_iff_ne, ne_eq] at h
  exact h.2
theorem cnt_filt (E : List Ent) : cntP (filt E) = cntP E := by
  unfold cntP filt
  rw [List.filter_filter]
  congr 1
  apply List.filter_congr
  intro e _
  by_cases h : e.k = 1
  · simp [h]
  · simp [h]
theorem copyR_sx2 {es : List V} {H : Hp} : Sx (copyR es H).2 (copyR es H).1 es := copy_sx
theorem set_ents {Z : List Ent} {i : Nat} {e : Ent} : (entsV Z).set i (entV e) = entsV (Z.set i e) := by simp [entsV, List.map_set]
theorem set_ints {Z : List Int} {i : Nat} {v : Int} : (intsV Z).set i (intV v) = intsV (Z.set i v) := by simp [intsV, List.map_set]
/-- An element of a list of a block written over -/
theorem slw_put {sz : Nat} {H : Hp} {N : Nat → Prop} {s n i : Nat} {l es : List V} {y : V} (hs : ¬ N s) (h : H[s]? = some (.cells es)) (hn : l.length = n) (hle : n ≤ es.length) (ht : es.take n = l) (hne : es ≠ []) (hw : wideAll es sz = true) (hy : y.width = sz) :
    SlW sz (H.set s (.cells (es.set i y))) N (.sl s 0 n) (l.set i y) := by
  refine .inr ⟨s, es.set i y, by simp [hn], hs, by rw [List.getElem?_set_self (List.getElem?_eq_some_iff.1 h).1], by simp; omega, ?_, ?_, ?_⟩
  · rw [List.length_set, hn, List.take_set, ht]
  · intro e; apply hne; have := congrArg List.length e; simp at this; exact this
  · unfold wideAll at *
    rw [List.all_eq_true] at *
    intro x hx
    rcases List.mem_or_eq_of_mem_set hx with hx | rfl
    · exact hw x hx
    · simp [hy]
theorem erases_eq {xe xd : V} {E : List Ent} {D : List Int} (he : ∀ H, Sx H xe (entsV E)) (hd : ∀ H, Sx H xd (intsV D)) (H : Hp) :
    wpCall EW 4 [.agg [xe, xd]] H (fun out H' => out = .ret (.bool true) false) := by
  have her := (he H).rd
  have hdr := (hd H).rd
  have hshe : ∀ st, sealV st xe = xe := fun st => her.shutIn st
  have hshd : ∀ st, sealV st xd = xd := fun st => hdr.shutIn st
  have hmu := much_eq her hdr
  by_cases hm : ¬ (E.length ≤ 300 ∧ D.length ≤ 300)
  · have hb : (decide (300 < E.length) || decide (300 < D.length)) = true := by
      simp only [Bool.or_eq_true, decide_eq_true_eq]; omega
    rw [hb] at hmu
    refine runs f4 b4 r4 n4 _ _ ?_
    simp only [bodyOf, Try.f4, Option.getD_some]
    simp only [WW, partV, eqCells, eqLf, minV, maxV, ifcV, zaa, zab, zac, zad, zae, zaf, zag, zah, zai, ofConst, ofConst1, List.replicate, zaj, zak, loadOp, Go.Abs.loadCells, binV, zal, pickV, zam, zan, zao, zap, zaq, zar, zas, zat, zau, outR, resAll, resOne, zav, zaw, zax, zay, zaz, zba, zbb, zbc, zbd, zbe, zbf, zbg, zbh, zbi, zbj, zbk, storeOp, storeCell, overlay, zbl, zbm, zbn, lookupOp, keyT, okRes, mapUpdateOp, zbo, zbp, zbq, zbr, zbs, zbt, zbu, Nat.reduceSub, Nat.reduceAdd, Int.reduceLT, Int.reduceLE, Int.reduceAdd, Int.reduceSub, Int.reduceToNat, Int.reduceBEq, Int.reduceBNe, Int.reduceMul, Nat.reduceBEq, Nat.reduceBNe, Nat.reduceLT, Nat.reduceLeDiff, Nat.reduceMul, Nat.reduceEqDiff, WD, effB, effH, isPriv, isHeap, isImm, zbx, zby, zbz, chkO, setD, dslot, zca, zcb, zcc, zcd, ptrCells_some, F4, hshe, hshd, her.ok, hdr.ok]
    rw [wpCall_eq hmu]
    simp only [WW, partV, eqCells, eqLf, minV, maxV, ifcV, zaa, zab, zac, zad, zae, zaf, zag, zah, zai, ofConst, ofConst1, List.replicate, zaj, zak, loadOp, Go.Abs.loadCells, binV, zal, pickV, zam, zan, zao, zap, zaq, zar, zas, zat, zau, outR, resAll, resOne, zav, zaw, zax, zay, zaz, zba, zbb, zbc, zbd, zbe, zbf, zbg, zbh, zbi, zbj, zbk, storeOp, storeCell, overlay, zbl, zbm, zbn, lookupOp, keyT, okRes, mapUpdateOp, zbo, zbp, zbq, zbr, zbs, zbt, zbu, Nat.reduceSub, Nat.reduceAdd, Int.reduceLT, Int.reduceLE, Int.reduceAdd, Int.reduceSub, Int.reduceToNat, Int.reduceBEq, Int.reduceBNe, Int.reduceMul, Nat.reduceBEq, Nat.reduceBNe, Nat.reduceLT, Nat.reduceLeDiff, Nat.reduceMul, Nat.reduceEqDiff, WD, effB, effH, isPriv, isHeap, isImm, zbx, zby, zbz, chkO, setD, dslot, zca, zcb, zcc, zcd, ptrCells_some, F4]
    rw [wpCall_eq (live_eq _)]
    simp only [WW, partV, eqCells, eqLf, minV, maxV, ifcV, zaa, zab, zac, zad, zae, zaf, zag, zah, zai, ofConst, ofConst1, List.replicate, zaj, zak, loadOp, Go.Abs.loadCells, binV, zal, pickV, zam, zan, zao, zap, zaq, zar, zas, zat, zau, outR, resAll, resOne, zav, zaw, zax, zay, zaz, zba, zbb, zbc, zbd, zbe, zbf, zbg, zbh, zbi, zbj, zbk, storeOp, storeCell, overlay, zbl, zbm, zbn, lookupOp, keyT, okRes, mapUpdateOp, zbo, zbp, zbq, zbr, zbs, zbt, zbu, Nat.reduceSub, Nat.reduceAdd, Int.reduceLT, Int.reduceLE, Int.reduceAdd, Int.reduceSub, Int.reduceToNat, Int.reduceBEq, Int.reduceBNe, Int.reduceMul, Nat.reduceBEq, Nat.reduceBNe, Nat.reduceLT, Nat.reduceLeDiff, Nat.reduceMul, Nat.reduceEqDiff, WD, effB, effH, isPriv, isHeap, isImm, zbx, zby, zbz, chkO, setD, dslot, zca, zcb, zcc, zcd, ptrCells_some, F4]
  have hE3 : E.length ≤ 300 := by omega
  have hD3 : D.length ≤ 300 := by omega
  have hE : E.length < 4294967296 := by omega
  have hD : D.length < 4294967296 := by omega
  have hb : (decide (300 < E.length) || decide (300 < D.length)) = false := by
    simp only [Bool.or_eq_false_iff, decide_eq_false_iff_not]; omega
  rw [hb] at hmu
  -- the copies
  have ha13 : ∀ st d, appendOp Try.prog .heap st H d 40 .emp (entsV E) = some (putS st d (.v (copyR (entsV E) H).1), (copyR (entsV E) H).2) := fun st d => app_emp (by rw [size40]; exact ents_wide E) (by rw [room40, ents_len]; simp; omega)
  have sC : Sx (copyR (entsV E) H).2 (copyR (entsV E) H).1 (entsV E) := copyR_sx2
  obtain ⟨e1, he1⟩ := copyR_ext (entsV E) H
  generalize (copyR (entsV E) H).1 = ce at ha13 sC
  generalize hH1 : (copyR (entsV E) H).2 = H1 at ha13 sC he1
  have ha17 : ∀ st d, appendOp Try.prog .heap st H1 d 3 .emp (intsV D) = some (putS st d (.v (copyR (intsV D) H1).1), (copyR (intsV D) H1).2) := fun st d => app_emp (by rw [size3]; exact ints_wide D) (by rw [room3, ints_len]; simp; omega)
  have sD : Sx (copyR (intsV D) H1).2 (copyR (intsV D) H1).1 (intsV D) := copyR_sx2
  obtain ⟨e2, he2⟩ := copyR_ext (intsV D) H1
  generalize (copyR (intsV D) H1).1 = cd at ha17 sD
  generalize hH2 : (copyR (intsV D) H1).2 = H2 at ha17 sD he2
  have sC2 : Sx H2 ce (entsV E) := by rw [he2]; exact sC.app e2
  have hsx : ∀ Hx, Abs.srcSl Hx xe = some (entsV E) := fun Hx => (he Hx).rd.srcSl
  have hsd : ∀ Hx, Abs.srcSl Hx xd = some (intsV D) := fun Hx => (hd Hx).rd.srcSl
  -- the calls
  obtain ⟨o3, H3, c3, ae, ad, rfl, wae, wad, f3, g3⟩ := wpCall_run (erase_eq sC2 sD hE hD)
  obtain ⟨o4, H4, c4, re, rd_, rfl, sre, srd, f4_, g4⟩ := wpCall_run (rerase_eq (he H3) (hd H3) hE hD)
  have fl := filt_len E
  have wae4 := slw_ext wae f4_
  have sad4 := sx_fr wad.sx f4_
  obtain ⟨o5, H5, c5, rfl, e5, rfl⟩ := wpCall_run (same_eq wae4.sx sre sad4.rd srd.rd (by omega) hD)
  have fr35 : ∀ i, i < H3.length → (H4 ++ e5)[i]? = H3[i]? := fun i hi => by rw [List.getElem?_append_left (by omega)]; exact f4_ i hi
  have sC5 : Sx (H4 ++ e5) ce (entsV E) := sx_fr sC2 (fun i hi => by rw [fr35 i (by omega)]; exact f3 i hi)
  have sD5 : Sx (H4 ++ e5) cd (intsV D) := sx_fr sD (fun i hi => by rw [fr35 i (by omega)]; exact f3 i hi)
  obtain ⟨o6, H6, c6, rfl, e6, rfl⟩ := wpCall_run (same_eq sC5 (he (H4 ++ e5)) sD5.rd (hd (H4 ++ e5)).rd hE hD)
  have fr36 : ∀ i, i < H3.length → (H4 ++ e5 ++ e6)[i]? = H3[i]? := fun i hi => by rw [List.getElem?_append_left (by simp; omega)]; exact fr35 i hi
  have gl6 : H3.length ≤ (H4 ++ e5 ++ e6).length := by simp; omega
  generalize hH6 : H4 ++ e5 ++ e6 = H6 at c6 fr36 gl6
  have wae6 := slw_ext wae fr36
  have wad6 : WrD H6 (fun i => i < H2.length ∨ bx ae = some i) ad D := by
    rcases wad with h | h
    · exact .inl h
    · exact .inr (slw_ext h fr36)
  have c7 := picks_eq (E := filt E) (D := D) wae6.rd wad6.sx.rd (by omega)
  have c8 := picks_eq (E := E) (D := D) (he H6).rd (hd H6).rd hE
  rw [cnt_filt] at c7
  have enn : (((cntP E : Nat) : Int) != ((cntP E : Nat) : Int)) = false := by simp
  refine runs f4 b4 r4 n4 _ _ ?_
  simp only [bodyOf, Try.f4, Option.getD_some]
  simp only [WW, partV, eqCells, eqLf, minV, maxV, ifcV, zaa, zab, zac, zad, zae, zaf, zag, zah, zai, ofConst, ofConst1, List.replicate, zaj, zak, loadOp, Go.Abs.loadCells, binV, zal, pickV, zam, zan, zao, zap, zaq, zar, zas, zat, zau, outR, resAll, resOne, zav, zaw, zax, zay, zaz, zba, zbb, zbc, zbd, zbe, zbf, zbg, zbh, zbi, zbj, zbk, storeOp, storeCell, overlay, zbl, zbm, zbn, lookupOp, keyT, okRes, mapUpdateOp, zbo, zbp, zbq, zbr, zbs, zbt, zbu, Nat.reduceSub, Nat.reduceAdd, Int.reduceLT, Int.reduceLE, Int.reduceAdd, Int.reduceSub, Int.reduceToNat, Int.reduceBEq, Int.reduceBNe, Int.reduceMul, Nat.reduceBEq, Nat.reduceBNe, Nat.reduceLT, Nat.reduceLeDiff, Nat.reduceMul, Nat.reduceEqDiff, WD, effB, effH, isPriv, isHeap, isImm, zbx, zby, zbz, chkO, setD, dslot, zca, zcb, zcc, zcd, ptrCells_some, F4, hshe, hshd, her.ok, hdr.ok]
  rw [wpCall_eq hmu]
  simp only [WW, partV, eqCells, eqLf, minV, maxV, ifcV, zaa, zab, zac, zad, zae, zaf, zag, zah, zai, ofConst, ofConst1, List.replicate, zaj, zak, loadOp, Go.Abs.loadCells, binV, zal, pickV, zam, zan, zao, zap, zaq, zar, zas, zat, zau, outR, resAll, resOne, zav, zaw, zax, zay, zaz, zba, zbb, zbc, zbd, zbe, zbf, zbg, zbh, zbi, zbj, zbk, storeOp, storeCell, overlay, zbl, zbm, zbn, lookupOp, keyT, okRes, mapUpdateOp, zbo, zbp, zbq, zbr, zbs, zbt, zbu, Nat.reduceSub, Nat.reduceAdd, Int.reduceLT, Int.reduceLE, Int.reduceAdd, Int.reduceSub, Int.reduceToNat, Int.reduceBEq, Int.reduceBNe, Int.reduceMul, Nat.reduceBEq, Nat.reduceBNe, Nat.reduceLT, Nat.reduceLeDiff, Nat.reduceMul, Nat.reduceEqDiff, WD, effB, effH, isPriv, isHeap, isImm, zbx, zby, zbz, chkO, setD, dslot, zca, zcb, zcc, zcd, ptrCells_some, F4]
  refine wC_dr alts4_3 (by kernel_rfl) ?_
  simp only [WW, partV, eqCells, eqLf, minV, maxV, ifcV, zaa, zab, zac, zad, zae, zaf, zag, zah, zai, ofConst, ofConst1, List.replicate, zaj, zak, loadOp, Go.Abs.loadCells, binV, zal, pickV, zam, zan, zao, zap, zaq, zar, zas, zat, zau, outR, resAll, resOne, zav, zaw, zax, zay, zaz, zba, zbb, zbc, zbd, zbe, zbf, zbg, zbh, zbi, zbj, zbk, storeOp, storeCell, overlay, zbl, zbm, zbn, lookupOp, keyT, okRes, mapUpdateOp, zbo, zbp, zbq, zbr, zbs, zbt, zbu, Nat.reduceSub, Nat.reduceAdd, Int.reduceLT, Int.reduceLE, Int.reduceAdd, Int.reduceSub, Int.reduceToNat, Int.reduceBEq, Int.reduceBNe, Int.reduceMul, Nat.reduceBEq, Nat.reduceBNe, Nat.reduceLT, Nat.reduceLeDiff, Nat.reduceMul, Nat.reduceEqDiff, WD, effB, effH, isPriv, isHeap, isImm, zbx, zby, zbz, chkO, setD, dslot, zca, zcb, zcc, zcd, ptrCells_some, F4, alts4_3, hshe, hshd, hsx, hsd, her.ok, hdr.ok, buildSliceV, lits, srcV_eq, srcK_sl, srcK_str, srcSl_nils, srcSl_rsl, srcSl_sl, frow, zbv, zbw, List.all_nil, List.all_cons, rowV, Bool.false_and, Bool.and_false, ne_eq, not_false_eq_true, grows_lr, callOut_t, ha13, ha17, buildOp, fillV, Lay.place, Bool.or_self, Bool.or_false, Bool.false_or, decide_not, not_true_eq_false, decide_eq_true_eq, Nat.lt_irrefl, sC2.rd.shutIn, sC2.rd.ok, sC2.rd.cells1, sC2.rd.width1, sD.rd.shutIn, sD.rd.ok, sD.rd.cells1, sD.rd.width1]
  rw [wpCall_eq c3]
  simp only [WW, partV, eqCells, eqLf, minV, maxV, ifcV, zaa, zab, zac, zad, zae, zaf, zag, zah, zai, ofConst, ofConst1, List.replicate, zaj, zak, loadOp, Go.Abs.loadCells, binV, zal, pickV, zam, zan, zao, zap, zaq, zar, zas, zat, zau, outR, resAll, resOne, zav, zaw, zax, zay, zaz, zba, zbb, zbc, zbd, zbe, zbf, zbg, zbh, zbi, zbj, zbk, storeOp, storeCell, overlay, zbl, zbm, zbn, lookupOp, keyT, okRes, mapUpdateOp, zbo, zbp, zbq, zbr, zbs, zbt, zbu, Nat.reduceSub, Nat.reduceAdd, Int.reduceLT, Int.reduceLE, Int.reduceAdd, Int.reduceSub, Int.reduceToNat, Int.reduceBEq, Int.reduceBNe, Int.reduceMul, Nat.reduceBEq, Nat.reduceBNe, Nat.reduceLT, Nat.reduceLeDiff, Nat.reduceMul, Nat.reduceEqDiff, WD, effB, effH, isPriv, isHeap, isImm, zbx, zby, zbz, chkO, setD, dslot, zca, zcb, zcc, zcd, ptrCells_some, F4, wae.shut, wad.sx.rd.shutIn, wae.ok, wad.sx.rd.ok, wae.cells1, wad.sx.rd.cells1, sC2.rd.shutIn, sD.rd.shutIn]
  refine wC_dr alts4_5 (by kernel_rfl) ?_
  simp only [WW, partV, eqCells, eqLf, minV, maxV, ifcV, zaa, zab, zac, zad, zae, zaf, zag, zah, zai, ofConst, ofConst1, List.replicate, zaj, zak, loadOp, Go.Abs.loadCells, binV, zal, pickV, zam, zan, zao, zap, zaq, zar, zas, zat, zau, outR, resAll, resOne, zav, zaw, zax, zay, zaz, zba, zbb, zbc, zbd, zbe, zbf, zbg, zbh, zbi, zbj, zbk, storeOp, storeCell, overlay, zbl, zbm, zbn, lookupOp, keyT, okRes, mapUpdateOp, zbo, zbp, zbq, zbr, zbs, zbt, zbu, Nat.reduceSub, Nat.reduceAdd, Int.reduceLT, Int.reduceLE, Int.reduceAdd, Int.reduceSub, Int.reduceToNat, Int.reduceBEq, Int.reduceBNe, Int.reduceMul, Nat.reduceBEq, Nat.reduceBNe, Nat.reduceLT, Nat.reduceLeDiff, Nat.reduceMul, Nat.reduceEqDiff, WD, effB, effH, isPriv, isHeap, isImm, zbx, zby, zbz, chkO, setD, dslot, zca, zcb, zcc, zcd, ptrCells_some, F4, alts4_5, hshe, hshd, wae.shut, wad.sx.rd.shutIn, sC2.rd.shutIn, sD.rd.shutIn]
  rw [wpCall_eq c4]
  simp only [WW, partV, eqCells, eqLf, minV, maxV, ifcV, zaa, zab, zac, zad, zae, zaf, zag, zah, zai, ofConst, ofConst1, List.replicate, zaj, zak, loadOp, Go.Abs.loadCells, binV, zal, pickV, zam, zan, zao, zap, zaq, zar, zas, zat, zau, outR, resAll, resOne, zav, zaw, zax, zay, zaz, zba, zbb, zbc, zbd, zbe, zbf, zbg, zbh, zbi, zbj, zbk, storeOp, storeCell, overlay, zbl, zbm, zbn, lookupOp, keyT, okRes, mapUpdateOp, zbo, zbp, zbq, zbr, zbs, zbt, zbu, Nat.reduceSub, Nat.reduceAdd, Int.reduceLT, Int.reduceLE, Int.reduceAdd, Int.reduceSub, Int.reduceToNat, Int.reduceBEq, Int.reduceBNe, Int.reduceMul, Nat.reduceBEq, Nat.reduceBNe, Nat.reduceLT, Nat.reduceLeDiff, Nat.reduceMul, Nat.reduceEqDiff, WD, effB, effH, isPriv, isHeap, isImm, zbx, zby, zbz, chkO, setD, dslot, zca, zcb, zcc, zcd, ptrCells_some, F4, alts4_5, hshe, hshd, wae.shut, wad.sx.rd.shutIn, sC2.rd.shutIn, sD.rd.shutIn, sre.rd.shutIn, srd.rd.shutIn]
  rw [wpCall_eq c5]
  simp only [WW, partV, eqCells, eqLf, minV, maxV, ifcV, zaa, zab, zac, zad, zae, zaf, zag, zah, zai, ofConst, ofConst1, List.replicate, zaj, zak, loadOp, Go.Abs.loadCells, binV, zal, pickV, zam, zan, zao, zap, zaq, zar, zas, zat, zau, outR, resAll, resOne, zav, zaw, zax, zay, zaz, zba, zbb, zbc, zbd, zbe, zbf, zbg, zbh, zbi, zbj, zbk, storeOp, storeCell, overlay, zbl, zbm, zbn, lookupOp, keyT, okRes, mapUpdateOp, zbo, zbp, zbq, zbr, zbs, zbt, zbu, Nat.reduceSub, Nat.reduceAdd, Int.reduceLT, Int.reduceLE, Int.reduceAdd, Int.reduceSub, Int.reduceToNat, Int.reduceBEq, Int.reduceBNe, Int.reduceMul, Nat.reduceBEq, Nat.reduceBNe, Nat.reduceLT, Nat.reduceLeDiff, Nat.reduceMul, Nat.reduceEqDiff, WD, effB, effH, isPriv, isHeap, isImm, zbx, zby, zbz, chkO, setD, dslot, zca, zcb, zcc, zcd, ptrCells_some, F4, alts4_5, hshe, hshd, wae.shut, wad.sx.rd.shutIn, sC2.rd.shutIn, sD.rd.shutIn]
  rw [wpCall_eq c6]
  simp only [WW, partV, eqCells, eqLf, minV, maxV, ifcV, zaa, zab, zac, zad, zae, zaf, zag, zah, zai, ofConst, ofConst1, List.replicate, zaj, zak, loadOp, Go.Abs.loadCells, binV, zal, pickV, zam, zan, zao, zap, zaq, zar, zas, zat, zau, outR, resAll, resOne, zav, zaw, zax, zay, zaz, zba, zbb, zbc, zbd, zbe, zbf, zbg, zbh, zbi, zbj, zbk, storeOp, storeCell, overlay, zbl, zbm, zbn, lookupOp, keyT, okRes, mapUpdateOp, zbo, zbp, zbq, zbr, zbs, zbt, zbu, Nat.reduceSub, Nat.reduceAdd, Int.reduceLT, Int.reduceLE, Int.reduceAdd, Int.reduceSub, Int.reduceToNat, Int.reduceBEq, Int.reduceBNe, Int.reduceMul, Nat.reduceBEq, Nat.reduceBNe, Nat.reduceLT, Nat.reduceLeDiff, Nat.reduceMul, Nat.reduceEqDiff, WD, effB, effH, isPriv, isHeap, isImm, zbx, zby, zbz, chkO, setD, dslot, zca, zcb, zcc, zcd, ptrCells_some, F4, alts4_5, hshe, hshd, wae.shut, wad.sx.rd.shutIn, sC2.rd.shutIn, sD.rd.shutIn]
  rw [wpCall_eq c7]
  simp only [WW, partV, eqCells, eqLf, minV, maxV, ifcV, zaa, zab, zac, zad, zae, zaf, zag, zah, zai, ofConst, ofConst1, List.replicate, zaj, zak, loadOp, Go.Abs.loadCells, binV, zal, pickV, zam, zan, zao, zap, zaq, zar, zas, zat, zau, outR, resAll, resOne, zav, zaw, zax, zay, zaz, zba, zbb, zbc, zbd, zbe, zbf, zbg, zbh, zbi, zbj, zbk, storeOp, storeCell, overlay, zbl, zbm, zbn, lookupOp, keyT, okRes, mapUpdateOp, zbo, zbp, zbq, zbr, zbs, zbt, zbu, Nat.reduceSub, Nat.reduceAdd, Int.reduceLT, Int.reduceLE, Int.reduceAdd, Int.reduceSub, Int.reduceToNat, Int.reduceBEq, Int.reduceBNe, Int.reduceMul, Nat.reduceBEq, Nat.reduceBNe, Nat.reduceLT, Nat.reduceLeDiff, Nat.reduceMul, Nat.reduceEqDiff, WD, effB, effH, isPriv, isHeap, isImm, zbx, zby, zbz, chkO, setD, dslot, zca, zcb, zcc, zcd, ptrCells_some, F4, alts4_5, hshe, hshd, wae.shut, wad.sx.rd.shutIn, sC2.rd.shutIn, sD.rd.shutIn]
  rw [wpCall_eq c8]
  simp only [WW, partV, eqCells, eqLf, minV, maxV, ifcV, zaa, zab, zac, zad, zae, zaf, zag, zah, zai, ofConst, ofConst1, List.replicate, zaj, zak, loadOp, Go.Abs.loadCells, binV, zal, pickV, zam, zan, zao, zap, zaq, zar, zas, zat, zau, outR, resAll, resOne, zav, zaw, zax, zay, zaz, zba, zbb, zbc, zbd, zbe, zbf, zbg, zbh, zbi, zbj, zbk, storeOp, storeCell, overlay, zbl, zbm, zbn, lookupOp, keyT, okRes, mapUpdateOp, zbo, zbp, zbq, zbr, zbs, zbt, zbu, Nat.reduceSub, Nat.reduceAdd, Int.reduceLT, Int.reduceLE, Int.reduceAdd, Int.reduceSub, Int.reduceToNat, Int.reduceBEq, Int.reduceBNe, Int.reduceMul, Nat.reduceBEq, Nat.reduceBNe, Nat.reduceLT, Nat.reduceLeDiff, Nat.reduceMul, Nat.reduceEqDiff, WD, effB, effH, isPriv, isHeap, isImm, zbx, zby, zbz, chkO, setD, dslot, zca, zcb, zcc, zcd, ptrCells_some, F4, alts4_5, hshe, hshd, wae.shut, wad.sx.rd.shutIn, sC2.rd.shutIn, sD.rd.shutIn, enn]
  refine wC_loop _ (fun n st H' => ∃ (i : Nat) (Z : List Ent), st = ⟨L4_8 (.box 0) (.box 1) (.box 2) (.v (.int .i64 i)), [[xe, xd], [ce, cd], [ae, ad]], []⟩ ∧ (∀ j, j < H2.length → H'[j]? = H6[j]?) ∧ SlW 6 H' (fun i => i < H2.length) ae (entsV Z) ∧ WrD H' (fun i => i < H2.length ∨ bx ae = some i) ad D ∧ (∀ e ∈ Z, e.k ≠ 3) ∧ Z.length = (filt E).length ∧ i ≤ Z.length ∧ n = Z.length - i) (filt E).length ⟨0, filt E, ?_, fun _ _ => rfl, wae6, wad6, fun e he => filt_k he, rfl, by omega, by omega⟩ ?_
  · simp only [WN, firstReg, growAll, zbv, zbw, norm, killS, zag, zah, zaa, zab, zbl, zat, zad, growOne, zae, zaf, zac, zas, zak, Nat.reduceLT, Nat.reduceAdd, zbj, zav, F4, L4_8, her.clip, hdr.clip, sC2.rd.clip, sD.rd.clip, wae.clip, wad.sx.rd.clip]
    try rfl
  · rintro n st H' ⟨i, Z, rfl, hfr, hz, hwd, hk3, hzl, hi, rfl⟩
    simp only [L4_8]
    have hzr := hz.rd
    by_cases hlt : i < Z.length
    · have g1 : decide ((i : Int) < (Z.length : Int)) = true := decide_eq_true (by omega)
      have hZi : Z[i]? = some Z[i] := List.getElem?_eq_getElem hlt
      generalize Z[i] = e at hZi
      have hek : (e.k == 3) = false := by simpa using hk3 e (List.mem_of_getElem? hZi)
      have hat := hzr.at_ (sz := 6) (i := i) (e := entV e) (by simp [entsV, hZi]) rfl
      have ha1 := hat.at1 hzr
      have hi1 : IntKind.i64.wrap ((i : Int) + 1) = ((i + 1 : Nat) : Int) := by rw [IntWalk.i64_in _ (by omega)]; omega
      have hz0 := hz
      rcases hz0 with ⟨_, h0⟩ | ⟨s, es, hae, hN, hc, hle, ht, hne, hw⟩
      · have h00 : Z.length = 0 := by have := congrArg List.length h0; rw [ents_len] at this; exact this
        omega
      rw [ents_len] at hae hle ht
      have hatv : ∀ o, atV H' ae i o = .ptr s i o := fun o => by rw [hae]; simp [atV, viewV]
      have hei : es[i]? = some (entV e) := by
        have : (es.take Z.length)[i]? = some (entV e) := by rw [ht]; simp [entsV, hZi]
        rwa [List.getElem?_take, if_pos hlt] at this
      have hput := slw_put (sz := 6) (N := fun i => i < H2.length) (y := entV { e with a := -1 }) hN hc (ents_len Z) hle ht hne hw rfl (i := i)
      rw [set_ents] at hput
      have hlen := hzr.len 40
      obtain ⟨ek, ea, eb, ef, eg, ei⟩ := e
      simp only [entV] at hei hput hek
      simp only [WW, partV, eqCells, eqLf, minV, maxV, ifcV, zaa, zab, zac, zad, zae, zaf, zag, zah, zai, ofConst, ofConst1, List.replicate, zaj, zak, loadOp, Go.Abs.loadCells, binV, zal, pickV, zam, zan, zao, zap, zaq, zar, zas, zat, zau, outR, resAll, resOne, zav, zaw, zax, zay, zaz, zba, zbb, zbc, zbd, zbe, zbf, zbg, zbh, zbi, zbj, zbk, storeOp, storeCell, overlay, zbl, zbm, zbn, lookupOp, keyT, okRes, mapUpdateOp, zbo, zbp, zbq, zbr, zbs, zbt, zbu, Nat.reduceSub, Nat.reduceAdd, Int.reduceLT, Int.reduceLE, Int.reduceAdd, Int.reduceSub, Int.reduceToNat, Int.reduceBEq, Int.reduceBNe, Int.reduceMul, Nat.reduceBEq, Nat.reduceBNe, Nat.reduceLT, Nat.reduceLeDiff, Nat.reduceMul, Nat.reduceEqDiff, WD, effB, effH, isPriv, isHeap, isImm, zbx, zby, zbz, chkO, setD, dslot, zca, zcb, zcc, zcd, ptrCells_some, F4, hzr.shutIn, hzr.len, ents_len, g1, ha1, hatv, hc, hei, hek]
      simp only [WW, partV, eqCells, eqLf, minV, maxV, ifcV, zaa, zab, zac, zad, zae, zaf, zag, zah, zai, ofConst, ofConst1, List.replicate, zaj, zak, loadOp, Go.Abs.loadCells, binV, zal, pickV, zam, zan, zao, zap, zaq, zar, zas, zat, zau, outR, resAll, resOne, zav, zaw, zax, zay, zaz, zba, zbb, zbc, zbd, zbe, zbf, zbg, zbh, zbi, zbj, zbk, storeOp, storeCell, overlay, zbl, zbm, zbn, lookupOp, keyT, okRes, mapUpdateOp, zbo, zbp, zbq, zbr, zbs, zbt, zbu, Nat.reduceSub, Nat.reduceAdd, Int.reduceLT, Int.reduceLE, Int.reduceAdd, Int.reduceSub, Int.reduceToNat, Int.reduceBEq, Int.reduceBNe, Int.reduceMul, Nat.reduceBEq, Nat.reduceBNe, Nat.reduceLT, Nat.reduceLeDiff, Nat.reduceMul, Nat.reduceEqDiff, WD, effB, effH, isPriv, isHeap, isImm, zbx, zby, zbz, chkO, setD, dslot, zca, zcb, zcc, zcd, ptrCells_some, F4, hzr.shutIn, hzr.len, ents_len, g1, ha1, hatv, hc, hei, hek, hi1, storeHeap, promote, heapSet, elemSet]
      refine ⟨Z.length - (i + 1), by omega, i + 1, Z.set i ⟨ek, -1, eb, ef, eg, ei⟩, ?_, fun j hj => ?_, by rw [hae]; exact hput, ?_, fun x hx => ?_, by simp [hzl], by simp; omega, by simp⟩
      · simp only [WN, firstReg, growAll, zbv, zbw, norm, killS, zag, zah, zaa, zab, zbl, zat, zad, growOne, zae, zaf, zac, zas, zak, Nat.reduceLT, Nat.reduceAdd, zbj, zav, F4, L4_8, her.clip, hdr.clip, sC2.rd.clip, sD.rd.clip, wae.clip, wad.sx.rd.clip]
        try rfl
      · rw [List.getElem?_set, if_neg (by rintro rfl; exact hN hj)]; exact hfr j hj
      · rcases hwd with h | h
        · exact .inl h
        · exact .inr (h.set (.inr (by rw [hae]; rfl)) _)
      · rcases List.mem_or_eq_of_mem_set hx with hx | rfl
        · exact hk3 x hx
        · simpa using hek
    · have g1 : decide ((i : Int) < (Z.length : Int)) = false := decide_eq_false (by omega)
      simp only [WW, partV, eqCells, eqLf, minV, maxV, ifcV, zaa, zab, zac, zad, zae, zaf, zag, zah, zai, ofConst, ofConst1, List.replicate, zaj, zak, loadOp, Go.Abs.loadCells, binV, zal, pickV, zam, zan, zao, zap, zaq, zar, zas, zat, zau, outR, resAll, resOne, zav, zaw, zax, zay, zaz, zba, zbb, zbc, zbd, zbe, zbf, zbg, zbh, zbi, zbj, zbk, storeOp, storeCell, overlay, zbl, zbm, zbn, lookupOp, keyT, okRes, mapUpdateOp, zbo, zbp, zbq, zbr, zbs, zbt, zbu, Nat.reduceSub, Nat.reduceAdd, Int.reduceLT, Int.reduceLE, Int.reduceAdd, Int.reduceSub, Int.reduceToNat, Int.reduceBEq, Int.reduceBNe, Int.reduceMul, Nat.reduceBEq, Nat.reduceBNe, Nat.reduceLT, Nat.reduceLeDiff, Nat.reduceMul, Nat.reduceEqDiff, WD, effB, effH, isPriv, isHeap, isImm, zbx, zby, zbz, chkO, setD, dslot, zca, zcb, zcc, zcd, ptrCells_some, F4, hzr.shutIn, hzr.len, ents_len, g1]
      refine wC_loop _ (fun n st H' => ∃ (i : Nat) (Y : List Int), st = ⟨L4_14 (.box 0) (.box 1) (.box 2) (.v (.int .i64 i)), [[xe, xd], [ce, cd], [ae, ad]], []⟩ ∧ (∀ j, j < H2.length → H'[j]? = H6[j]?) ∧ WrD H' (fun i => i < H2.length ∨ bx ae = some i) ad Y ∧ H2.length ≤ H'.length ∧ Y.length = D.length ∧ i ≤ Y.length ∧ n = Y.length - i) D.length ⟨0, D, ?_, hfr, hwd, ?_, rfl, by omega, by omega⟩ ?_
      · simp only [WN, firstReg, growAll, zbv, zbw, norm, killS, zag, zah, zaa, zab, zbl, zat, zad, growOne, zae, zaf, zac, zas, zak, Nat.reduceLT, Nat.reduceAdd, zbj, zav, F4, L4_14, her.clip, hdr.clip, sC2.rd.clip, sD.rd.clip, wae.clip, wad.sx.rd.clip]
        try rfl
      · refine Nat.le_of_not_lt fun hcon => ?_
        have h1 := hfr H'.length hcon
        rw [List.getElem?_eq_none (Nat.le_refl _), List.getElem?_eq_getElem (by omega)] at h1
        cases h1
      · rintro n st H' ⟨j, Y, rfl, hfr, hwd, hgl, hyl, hj, rfl⟩
        simp only [L4_14]
        have hyr := hwd.sx.rd
        by_cases hlt : j < Y.length
        · have g2 : decide ((j : Int) < (Y.length : Int)) = true := decide_eq_true (by omega)
          have hYj : Y[j]? = some Y[j] := List.getElem?_eq_getElem hlt
          generalize Y[j] = v at hYj
          have hat := hyr.at_ (sz := 1) (i := j) (e := intV v) (by simp [intsV, hYj]) rfl
          have ha1 := hat.at1 hyr
          have hj1 : IntKind.i64.wrap ((j : Int) + 1) = ((j + 1 : Nat) : Int) := by rw [IntWalk.i64_in _ (by omega)]; omega
          rcases hwd with ⟨_, h0⟩ | hsl
          · rw [h0] at hlt; simp at hlt
          rcases hsl with ⟨_, h0⟩ | ⟨s, es, had, hN, hc, hle, ht, hne, hw⟩
          · have h00 : Y.length = 0 := by have := congrArg List.length h0; rw [ints_len] at this; exact this
            omega
          rw [ints_len] at had hle ht
          have hatv : ∀ o, atV H' ad j o = .ptr s j o := fun o => by rw [had]; simp [atV, viewV]
          have hei : es[j]? = some (intV v) := by
            have : (es.take Y.length)[j]? = some (intV v) := by rw [ht]; simp [intsV, hYj]
            rwa [List.getElem?_take, if_pos hlt] at this
          have hput := slw_put (sz := 1) (N := fun i => i < H2.length ∨ bx ae = some i) (y := intV (IntKind.i64.wrap (v + 1))) hN hc (ints_len Y) hle ht hne hw rfl (i := j)
          rw [set_ints] at hput
          simp only [intV] at hei hput
          simp only [WW, partV, eqCells, eqLf, minV, maxV, ifcV, zaa, zab, zac, zad, zae, zaf, zag, zah, zai, ofConst, ofConst1, List.replicate, zaj, zak, loadOp, Go.Abs.loadCells, binV, zal, pickV, zam, zan, zao, zap, zaq, zar, zas, zat, zau, outR, resAll, resOne, zav, zaw, zax, zay, zaz, zba, zbb, zbc, zbd, zbe, zbf, zbg, zbh, zbi, zbj, zbk, storeOp, storeCell, overlay, zbl, zbm, zbn, lookupOp, keyT, okRes, mapUpdateOp, zbo, zbp, zbq, zbr, zbs, zbt, zbu, Nat.reduceSub, Nat.reduceAdd, Int.reduceLT, Int.reduceLE, Int.reduceAdd, Int.reduceSub, Int.reduceToNat, Int.reduceBEq, Int.reduceBNe, Int.reduceMul, Nat.reduceBEq, Nat.reduceBNe, Nat.reduceLT, Nat.reduceLeDiff, Nat.reduceMul, Nat.reduceEqDiff, WD, effB, effH, isPriv, isHeap, isImm, zbx, zby, zbz, chkO, setD, dslot, zca, zcb, zcc, zcd, ptrCells_some, F4, hyr.shutIn, hyr.len, ints_len, g2, ha1, hatv, hc, hei, hj1, storeHeap, promote, heapSet, elemSet]
          refine ⟨Y.length - (j + 1), by omega, j + 1, Y.set j (IntKind.i64.wrap (v + 1)), ?_, fun k hk => ?_, .inr (by rw [had]; exact hput), by simpa using hgl, by simp [hyl], by simp; omega, by simp⟩
          · simp only [WN, firstReg, growAll, zbv, zbw, norm, killS, zag, zah, zaa, zab, zbl, zat, zad, growOne, zae, zaf, zac, zas, zak, Nat.reduceLT, Nat.reduceAdd, zbj, zav, F4, L4_14, her.clip, hdr.clip, sC2.rd.clip, sD.rd.clip, wae.clip, wad.sx.rd.clip]
            try rfl
          · rw [List.getElem?_set, if_neg (by rintro rfl; exact hN (.inl hk))]; exact hfr k hk
        · have g2 : decide ((j : Int) < (Y.length : Int)) = false := decide_eq_false (by omega)
          have fr2 : ∀ i, i < H2.length → H'[i]? = H2[i]? := fun i hi => by rw [hfr i hi, fr36 i (by omega)]; exact f3 i hi
          have sC7 : Sx H' ce (entsV E) := sx_fr sC2 fr2
          have sD7 : Sx H' cd (intsV D) := sx_fr sD fr2
          obtain ⟨o8, H8, c9, rfl, e8, rfl⟩ := wpCall_run (same_eq sC7 (he H') sD7.rd (hd H').rd hE hD)
          have sC8 : Sx (H' ++ e8) ce (entsV E) := sC7.app e8
          have sD8 : Sx (H' ++ e8) cd (intsV D) := sD7.app e8
          obtain ⟨o9, H9, c10, be, bd, rfl, wbe, wbd, f9, g9⟩ := wpCall_run (erase_eq sC8 sD8 hE hD)
          obtain ⟨o10, H10, c11, qe, qd, rfl, sqe, sqd, f10, g10⟩ := wpCall_run (rerase_eq (he H9) (hd H9) hE hD)
          have wbe2 := slw_ext wbe f10
          have sbd2 := sx_fr wbd.sx f10
          obtain ⟨o11, H11, c12, rfl, e11, rfl⟩ := wpCall_run (same_eq wbe2.sx sqe sbd2.rd sqd.rd (by omega) hD)
          simp only [WW, partV, eqCells, eqLf, minV, maxV, ifcV, zaa, zab, zac, zad, zae, zaf, zag, zah, zai, ofConst, ofConst1, List.replicate, zaj, zak, loadOp, Go.Abs.loadCells, binV, zal, pickV, zam, zan, zao, zap, zaq, zar, zas, zat, zau, outR, resAll, resOne, zav, zaw, zax, zay, zaz, zba, zbb, zbc, zbd, zbe, zbf, zbg, zbh, zbi, zbj, zbk, storeOp, storeCell, overlay, zbl, zbm, zbn, lookupOp, keyT, okRes, mapUpdateOp, zbo, zbp, zbq, zbr, zbs, zbt, zbu, Nat.reduceSub, Nat.reduceAdd, Int.reduceLT, Int.reduceLE, Int.reduceAdd, Int.reduceSub, Int.reduceToNat, Int.reduceBEq, Int.reduceBNe, Int.reduceMul, Nat.reduceBEq, Nat.reduceBNe, Nat.reduceLT, Nat.reduceLeDiff, Nat.reduceMul, Nat.reduceEqDiff, WD, effB, effH, isPriv, isHeap, isImm, zbx, zby, zbz, chkO, setD, dslot, zca, zcb, zcc, zcd, ptrCells_some, F4, hyr.shutIn, hyr.len, ints_len, g2]
          refine wC_dr alts4_17 (by kernel_rfl) ?_
          simp only [WW, partV, eqCells, eqLf, minV, maxV, ifcV, zaa, zab, zac, zad, zae, zaf, zag, zah, zai, ofConst, ofConst1, List.replicate, zaj, zak, loadOp, Go.Abs.loadCells, binV, zal, pickV, zam, zan, zao, zap, zaq, zar, zas, zat, zau, outR, resAll, resOne, zav, zaw, zax, zay, zaz, zba, zbb, zbc, zbd, zbe, zbf, zbg, zbh, zbi, zbj, zbk, storeOp, storeCell, overlay, zbl, zbm, zbn, lookupOp, keyT, okRes, mapUpdateOp, zbo, zbp, zbq, zbr, zbs, zbt, zbu, Nat.reduceSub, Nat.reduceAdd, Int.reduceLT, Int.reduceLE, Int.reduceAdd, Int.reduceSub, Int.reduceToNat, Int.reduceBEq, Int.reduceBNe, Int.reduceMul, Nat.reduceBEq, Nat.reduceBNe, Nat.reduceLT, Nat.reduceLeDiff, Nat.reduceMul, Nat.reduceEqDiff, WD, effB, effH, isPriv, isHeap, isImm, zbx, zby, zbz, chkO, setD, dslot, zca, zcb, zcc, zcd, ptrCells_some, F4, alts4_17, hshe, hshd, sC2.rd.shutIn, sD.rd.shutIn]
          rw [wpCall_eq c9]
          simp only [WW, partV, eqCells, eqLf, minV, maxV, ifcV, zaa, zab, zac, zad, zae, zaf, zag, zah, zai, ofConst, ofConst1, List.replicate, zaj, zak, loadOp, Go.Abs.loadCells, binV, zal, pickV, zam, zan, zao, zap, zaq, zar, zas, zat, zau, outR, resAll, resOne, zav, zaw, zax, zay, zaz, zba, zbb, zbc, zbd, zbe, zbf, zbg, zbh, zbi, zbj, zbk, storeOp, storeCell, overlay, zbl, zbm, zbn, lookupOp, keyT, okRes, mapUpdateOp, zbo, zbp, zbq, zbr, zbs, zbt, zbu, Nat.reduceSub, Nat.reduceAdd, Int.reduceLT, Int.reduceLE, Int.reduceAdd, Int.reduceSub, Int.reduceToNat, Int.reduceBEq, Int.reduceBNe, Int.reduceMul, Nat.reduceBEq, Nat.reduceBNe, Nat.reduceLT, Nat.reduceLeDiff, Nat.reduceMul, Nat.reduceEqDiff, WD, effB, effH, isPriv, isHeap, isImm, zbx, zby, zbz, chkO, setD, dslot, zca, zcb, zcc, zcd, ptrCells_some, F4, alts4_17, hshe, hshd, sC2.rd.shutIn, sD.rd.shutIn]
          rw [wpCall_eq c10]
          simp only [WW, partV, eqCells, eqLf, minV, maxV, ifcV, zaa, zab, zac, zad, zae, zaf, zag, zah, zai, ofConst, ofConst1, List.replicate, zaj, zak, loadOp, Go.Abs.loadCells, binV, zal, pickV, zam, zan, zao, zap, zaq, zar, zas, zat, zau, outR, resAll, resOne, zav, zaw, zax, zay, zaz, zba, zbb, zbc, zbd, zbe, zbf, zbg, zbh, zbi, zbj, zbk, storeOp, storeCell, overlay, zbl, zbm, zbn, lookupOp, keyT, okRes, mapUpdateOp, zbo, zbp, zbq, zbr, zbs, zbt, zbu, Nat.reduceSub, Nat.reduceAdd, Int.reduceLT, Int.reduceLE, Int.reduceAdd, Int.reduceSub, Int.reduceToNat, Int.reduceBEq, Int.reduceBNe, Int.reduceMul, Nat.reduceBEq, Nat.reduceBNe, Nat.reduceLT, Nat.reduceLeDiff, Nat.reduceMul, Nat.reduceEqDiff, WD, effB, effH, isPriv, isHeap, isImm, zbx, zby, zbz, chkO, setD, dslot, zca, zcb, zcc, zcd, ptrCells_some, F4, alts4_17, hshe, hshd, sC2.rd.shutIn, sD.rd.shutIn, wbe.shut, wbd.sx.rd.shutIn]
          rw [wpCall_eq c11]
          simp only [WW, partV, eqCells, eqLf, minV, maxV, ifcV, zaa, zab, zac, zad, zae, zaf, zag, zah, zai, ofConst, ofConst1, List.replicate, zaj, zak, loadOp, Go.Abs.loadCells, binV, zal, pickV, zam, zan, zao, zap, zaq, zar, zas, zat, zau, outR, resAll, resOne, zav, zaw, zax, zay, zaz, zba, zbb, zbc, zbd, zbe, zbf, zbg, zbh, zbi, zbj, zbk, storeOp, storeCell, overlay, zbl, zbm, zbn, lookupOp, keyT, okRes, mapUpdateOp, zbo, zbp, zbq, zbr, zbs, zbt, zbu, Nat.reduceSub, Nat.reduceAdd, Int.reduceLT, Int.reduceLE, Int.reduceAdd, Int.reduceSub, Int.reduceToNat, Int.reduceBEq, Int.reduceBNe, Int.reduceMul, Nat.reduceBEq, Nat.reduceBNe, Nat.reduceLT, Nat.reduceLeDiff, Nat.reduceMul, Nat.reduceEqDiff, WD, effB, effH, isPriv, isHeap, isImm, zbx, zby, zbz, chkO, setD, dslot, zca, zcb, zcc, zcd, ptrCells_some, F4, alts4_17, hshe, hshd, sC2.rd.shutIn, sD.rd.shutIn, wbe.shut, wbd.sx.rd.shutIn, sqe.rd.shutIn, sqd.rd.shutIn]
          rw [wpCall_eq c12]
          simp only [WW, partV, eqCells, eqLf, minV, maxV, ifcV, zaa, zab, zac, zad, zae, zaf, zag, zah, zai, ofConst, ofConst1, List.replicate, zaj, zak, loadOp, Go.Abs.loadCells, binV, zal, pickV, zam, zan, zao, zap, zaq, zar, zas, zat, zau, outR, resAll, resOne, zav, zaw, zax, zay, zaz, zba, zbb, zbc, zbd, zbe, zbf, zbg, zbh, zbi, zbj, zbk, storeOp, storeCell, overlay, zbl, zbm, zbn, lookupOp, keyT, okRes, mapUpdateOp, zbo, zbp, zbq, zbr, zbs, zbt, zbu, Nat.reduceSub, Nat.reduceAdd, Int.reduceLT, Int.reduceLE, Int.reduceAdd, Int.reduceSub, Int.reduceToNat, Int.reduceBEq, Int.reduceBNe, Int.reduceMul, Nat.reduceBEq, Nat.reduceBNe, Nat.reduceLT, Nat.reduceLeDiff, Nat.reduceMul, Nat.reduceEqDiff, WD, effB, effH, isPriv, isHeap, isImm, zbx, zby, zbz, chkO, setD, dslot, zca, zcb, zcc, zcd, ptrCells_some, F4, alts4_17, hshe, hshd, sC2.rd.shutIn, sD.rd.shutIn]
          rw [wpCall_eq (live_eq _)]
          simp only [WW, partV, eqCells, eqLf, minV, maxV, ifcV, zaa, zab, zac, zad, zae, zaf, zag, zah, zai, ofConst, ofConst1, List.replicate, zaj, zak, loadOp, Go.Abs.loadCells, binV, zal, pickV, zam, zan, zao, zap, zaq, zar, zas, zat, zau, outR, resAll, resOne, zav, zaw, zax, zay, zaz, zba, zbb, zbc, zbd, zbe, zbf, zbg, zbh, zbi, zbj, zbk, storeOp, storeCell, overlay, zbl, zbm, zbn, lookupOp, keyT, okRes, mapUpdateOp, zbo, zbp, zbq, zbr, zbs, zbt, zbu, Nat.reduceSub, Nat.reduceAdd, Int.reduceLT, Int.reduceLE, Int.reduceAdd, Int.reduceSub, Int.reduceToNat, Int.reduceBEq, Int.reduceBNe, Int.reduceMul, Nat.reduceBEq, Nat.reduceBNe, Nat.reduceLT, Nat.reduceLeDiff, Nat.reduceMul, Nat.reduceEqDiff, WD, effB, effH, isPriv, isHeap, isImm, zbx, zby, zbz, chkO, setD, dslot, zca, zcb, zcc, zcd, ptrCells_some, F4, alts4_17, hshe, hshd, sC2.rd.shutIn, sD.rd.shutIn]
/-! The law at any argument -/
theorem rows_map2 {α : Type} {f : List V → V} {tv : α → V} : ∀ {rows : List (List V)}, (∀ r ∈ rows, ∃ a, f r = tv a) → ∃ l : List α, rows.map f = l.map tv ∧ l.length = rows.length
  | [], _ => ⟨[], rfl, rfl⟩
  | r :: rows, h => by
    obtain ⟨a, ha⟩ := h r (.head _)
    obtain ⟨l, h1, h2⟩ := rows_map2 (rows := rows) fun r hr => h r (.tail _ hr)
    exact ⟨a :: l, by simp [ha, h1], by simp [h2]⟩
theorem u3 : Try.prog.underlying 3 = some (.int .i64) := by kernel_rfl
theorem u24 : Try.prog.underlying 24 = some (.slice 40) := by kernel_rfl
theorem u25 : Try.prog.underlying 25 = some (.slice 3) := by kernel_rfl
theorem s27 : tysOf Try.prog 27 = some [24, 25] := by kernel_rfl
theorem s40 : tysOf Try.prog 40 = some [3, 3, 3, 38] := by kernel_rfl
theorem s38 : tysOf Try.prog 38 = some [3, 3, 3] := by kernel_rfl
theorem flat_sx {x : V} {l : List V} (h : ∀ H, Rd H x l) (H : Hp) : Sx H x l := by
  rcases (h []).flat with ⟨rfl, rfl⟩ | rfl
  · exact .nils
  · exact .rsl l
theorem open_script {d : Nat} {v : List V} (h : Tv Try.prog (d + 5) 27 v) : ∃ xe xd E D, v = [xe, xd] ∧ (∀ H, Sx H xe (entsV E)) ∧ (∀ H, Sx H xd (intsV D)) ∧ E.length ≤ maxLen ∧ D.length ≤ maxLen := by
  obtain ⟨a, _, rfl, ha, b, _, rfl, hb, rfl⟩ := tv_fields h s27
  obtain ⟨xe, r1, rfl, h1, l1, k1⟩ := tv_slice ha u24
  obtain ⟨xd, r2, rfl, h2, l2, k2⟩ := tv_slice hb u25
  have g40 : isAggT Try.prog 40 = true := by kernel_rfl
  have g3 : isAggT Try.prog 3 = false := by kernel_rfl
  rw [g40] at h1
  rw [g3] at h2
  obtain ⟨E, e1, e2⟩ := rows_map2 (f := mkV true) (tv := entV) (rows := r1) (fun r hr => by
    obtain ⟨p0, _, rfl, q0, p1, _, rfl, q1, p2, _, rfl, q2, p3, _, rfl, q3, rfl⟩ := tv_fields (k1 r hr) s40
    obtain ⟨n0, rfl, _⟩ := tv_int q0 u3
    obtain ⟨n1, rfl, _⟩ := tv_int q1 u3
    obtain ⟨n2, rfl, _⟩ := tv_int q2 u3
    obtain ⟨t0, _, rfl, w0, t1, _, rfl, w1, t2, _, rfl, w2, rfl⟩ := tv_fields q3 s38
    obtain ⟨m0, rfl, _⟩ := tv_int w0 u3
    obtain ⟨m1, rfl, _⟩ := tv_int w1 u3
    obtain ⟨m2, rfl, _⟩ := tv_int w2 u3
    exact ⟨⟨n0, n1, n2, m0, m1, m2⟩, rfl⟩)
  obtain ⟨D, e3, e4⟩ := rows_map2 (f := mkV false) (tv := intV) (rows := r2) (fun r hr => by
    obtain ⟨n0, rfl, _⟩ := tv_int (k2 r hr) u3
    exact ⟨n0, rfl⟩)
  rw [e1] at h1
  rw [e3] at h2
  exact ⟨xe, xd, E, D, rfl, flat_sx h1, flat_sx h2, by omega, by omega⟩
theorem scriptErases_main {v0 : List V} (h0 : Tv Try.prog 8 27 v0) :
    wpCall (evW Try.prog notes) 4 [mkV (isAggT Try.prog 27) v0] [] (fun out H' => out = .ret (.bool true) false) := by
  obtain ⟨xe, xd, E, D, rfl, he, hd, hE, hD⟩ := open_script h0
  have ag : isAggT Try.prog 27 = true := by kernel_rfl
  rw [ag]
  exact erases_eq he hd []
end Go.Proofs.Yteenpfdpokekgaa
