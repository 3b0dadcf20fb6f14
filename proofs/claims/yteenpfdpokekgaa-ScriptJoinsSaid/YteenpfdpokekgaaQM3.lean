/- A part of the proofs over this seat. -/
import Derived.Test.YteenpfdpokekgaaQM2
/- Scripts: the document's Erase. -/
namespace Go.Proofs.Yteenpfdpokekgaa
open Go Go.Abs Go.Proofs
set_option maxRecDepth 100000
set_option maxHeartbeats 8000000
set_option linter.unusedVariables false
set_option linter.unusedSimpArgs false
theorem copyR_ext (es : List V) (H : Hp) : ∃ e, (copyR es H).2 = H ++ e := by
  unfold copyR
  split
  · exact ⟨[], by simp⟩
  · exact ⟨_, rfl⟩
theorem rerase_eq {H : Hp} {xe xd : V} {E : List Ent} {D : List Int} (he : Sx H xe (entsV E)) (hd : Sx H xd (intsV D)) (hE : E.length < 4294967296) (hD : D.length < 4294967296) :
    wpCall EW 14 [.agg [xe, xd]] H (fun out H' => ∃ ye yd, out = .ret (.agg [ye, yd]) false ∧ Sx H' ye (entsV (filt E)) ∧ Sx H' yd (intsV D) ∧ (∀ i, i < H.length → H'[i]? = H[i]?) ∧ H.length ≤ H'.length) := by
  have her := he.rd
  have hdr := hd.rd
  have ha0 : ∀ st d, appendOp Try.prog .heap st H d 3 .emp (intsV D) = some (putS st d (.v (copyR (intsV D) H).1), (copyR (intsV D) H).2) := fun st d => app_emp (by rw [size3]; exact ints_wide D) (by rw [room3, ints_len]; simp; omega)
  have hs0 : Sx (copyR (intsV D) H).2 (copyR (intsV D) H).1 (intsV D) := copy_sx
  obtain ⟨e0, he0⟩ := copyR_ext (intsV D) H
  rw [he0] at ha0 hs0
  generalize (copyR (intsV D) H).1 = yd at ha0 hs0
  have hydr := hs0.rd
  refine runs f14 b14 r14 n14 _ _ ?_
  simp only [bodyOf, Try.f14, Option.getD_some]
  simp only [WW, partV, eqCells, eqLf, minV, maxV, ifcV, zaa, zab, zac, zad, zae, zaf, zag, zah, zai, ofConst, ofConst1, List.replicate, zaj, zak, loadOp, Go.Abs.loadCells, binV, zal, pickV, zam, zan, zao, zap, zaq, zar, zas, zat, zau, outR, resAll, resOne, zav, zaw, zax, zay, zaz, zba, zbb, zbc, zbd, zbe, zbf, zbg, zbh, zbi, zbj, zbk, storeOp, storeCell, overlay, zbl, zbm, zbn, lookupOp, keyT, okRes, mapUpdateOp, zbo, zbp, zbq, zbr, zbs, zbt, zbu, Nat.reduceSub, Nat.reduceAdd, Int.reduceLT, Int.reduceLE, Int.reduceAdd, Int.reduceSub, Int.reduceToNat, Int.reduceBEq, Int.reduceBNe, Int.reduceMul, Nat.reduceBEq, Nat.reduceBNe, Nat.reduceLT, Nat.reduceLeDiff, Nat.reduceMul, Nat.reduceEqDiff, WD, effB, effH, isPriv, isHeap, isImm, zbx, zby, zbz, chkO, setD, dslot, zca, zcb, zcc, zcd, ptrCells_some, F14, hdr.shutIn, her.ok, hdr.ok, hdr.srcSl, buildSliceV, lits, srcV_eq, srcK_sl, srcK_str, srcSl_nils, srcSl_rsl, srcSl_sl, frow, zbv, zbw, List.all_nil, List.all_cons, rowV, Bool.false_and, Bool.and_false, ne_eq, not_false_eq_true, grows_lr, callOut_t, ha0, buildOp, fillV, Lay.place, Bool.or_self, Bool.or_false, Bool.false_or, decide_not, not_true_eq_false, decide_eq_true_eq, Nat.lt_irrefl, hydr.shutIn, hydr.ok, hydr.cells1, hydr.width1]
  refine wC_loop _ (fun n st H' => ∃ (i : Nat) (ye : V), st = ⟨L14_3 (.box 0) (.box 1) (.box 2) (.v (.int .i64 i)), [[xe, xd], [.nils, .nils], [ye, yd]], []⟩ ∧ SlW 6 H' (fun i => i < (H ++ e0).length) ye (entsV (filt (E.take i))) ∧ (∀ j, j < (H ++ e0).length → H'[j]? = (H ++ e0)[j]?) ∧ (H ++ e0).length ≤ H'.length ∧ i ≤ E.length ∧ n = E.length - i) E.length ⟨0, .nils, ?_, .inl ⟨rfl, by simp [filt, entsV]⟩, fun _ _ => rfl, Nat.le_refl _, by omega, by omega⟩ ?_
  · simp only [WN, firstReg, growAll, zbv, zbw, norm, killS, zag, zah, zaa, zab, zbl, zat, zad, growOne, zae, zaf, zac, zas, zak, Nat.reduceLT, Nat.reduceAdd, zbj, zav, F14, L14_3, her.clip2, her.clip, hdr.clip, hydr.clip]
    try rfl
  · rintro n st H' ⟨i, ye, rfl, hy, hf, hge, hi, rfl⟩
    have hf0 : ∀ j, j < H.length → H'[j]? = H[j]? := fun j hj => by rw [hf j (by simp; omega), List.getElem?_append_left hj]
    have h1 := (sx_fr he hf0).rd
    simp only [L14_3]
    by_cases hlt : i < E.length
    · have g1 : decide ((i : Int) < (E.length : Int)) = true := decide_eq_true (by omega)
      have hEi : E[i]? = some E[i] := List.getElem?_eq_getElem hlt
      generalize E[i] = e at hEi
      have hat := h1.at_ (sz := 6) (i := i) (e := entV e) (by simp [entsV, hEi]) rfl
      have hi1 : IntKind.i64.wrap ((i : Int) + 1) = ((i + 1 : Nat) : Int) := by rw [IntWalk.i64_in _ (by omega)]; omega
      have hft := filt_take hEi
      have hfl := filt_len (E.take i)
      have hfl2 : (E.take i).length ≤ E.length := by simp; omega
      cases hk : (e.k != 3) with
      | true =>
        rw [hk] at hft
        simp only [if_true] at hft
        obtain ⟨y2, H2, ha, hy2, hk2, hle2⟩ := app_sl (P := Try.prog) (sz := 6) (e := 40) (d := some 32) [entV e] (by kernel_rfl) hy (fun j hj => by omega) rfl (by simp) (by rw [room40]; simp [ents_len]; omega)
        have hy3 : SlW 6 H2 (fun i => i < (H ++ e0).length) y2 (entsV (filt (E.take (i + 1)))) := by rw [hft]; simp only [entsV, List.map_append] at hy2 ⊢; exact hy2
        have h12 : Sx H2 xe (entsV E) := sx_fr he (fun j hj => by rw [hk2 j (by simp; omega), hf0 j hj])
        simp only [entV] at ha
        simp only [WW, partV, eqCells, eqLf, minV, maxV, ifcV, zaa, zab, zac, zad, zae, zaf, zag, zah, zai, ofConst, ofConst1, List.replicate, zaj, zak, loadOp, Go.Abs.loadCells, binV, zal, pickV, zam, zan, zao, zap, zaq, zar, zas, zat, zau, outR, resAll, resOne, zav, zaw, zax, zay, zaz, zba, zbb, zbc, zbd, zbe, zbf, zbg, zbh, zbi, zbj, zbk, storeOp, storeCell, overlay, zbl, zbm, zbn, lookupOp, keyT, okRes, mapUpdateOp, zbo, zbp, zbq, zbr, zbs, zbt, zbu, Nat.reduceSub, Nat.reduceAdd, Int.reduceLT, Int.reduceLE, Int.reduceAdd, Int.reduceSub, Int.reduceToNat, Int.reduceBEq, Int.reduceBNe, Int.reduceMul, Nat.reduceBEq, Nat.reduceBNe, Nat.reduceLT, Nat.reduceLeDiff, Nat.reduceMul, Nat.reduceEqDiff, WD, effB, effH, isPriv, isHeap, isImm, zbx, zby, zbz, chkO, setD, dslot, zca, zcb, zcc, zcd, ptrCells_some, F14, g1, h1.shutIn, h1.len, ents_len, hat.at1 h1, hat.fa, hat.cells, entV, hk]
        refine wC_dr [] (by kernel_rfl) ?_
        simp only [WW, partV, eqCells, eqLf, minV, maxV, ifcV, zaa, zab, zac, zad, zae, zaf, zag, zah, zai, ofConst, ofConst1, List.replicate, zaj, zak, loadOp, Go.Abs.loadCells, binV, zal, pickV, zam, zan, zao, zap, zaq, zar, zas, zat, zau, outR, resAll, resOne, zav, zaw, zax, zay, zaz, zba, zbb, zbc, zbd, zbe, zbf, zbg, zbh, zbi, zbj, zbk, storeOp, storeCell, overlay, zbl, zbm, zbn, lookupOp, keyT, okRes, mapUpdateOp, zbo, zbp, zbq, zbr, zbs, zbt, zbu, Nat.reduceSub, Nat.reduceAdd, Int.reduceLT, Int.reduceLE, Int.reduceAdd, Int.reduceSub, Int.reduceToNat, Int.reduceBEq, Int.reduceBNe, Int.reduceMul, Nat.reduceBEq, Nat.reduceBNe, Nat.reduceLT, Nat.reduceLeDiff, Nat.reduceMul, Nat.reduceEqDiff, WD, effB, effH, isPriv, isHeap, isImm, zbx, zby, zbz, chkO, setD, dslot, zca, zcb, zcc, zcd, ptrCells_some, F14, g1, h1.shutIn, h1.len, ents_len, hat.at1 h1, hat.fa, hat.cells, entV, hi1, hk, buildSliceV, lits, srcV_eq, srcK_sl, srcK_str, srcSl_nils, srcSl_rsl, srcSl_sl, frow, zbv, zbw, List.all_nil, List.all_cons, rowV, Bool.false_and, Bool.and_false, ne_eq, not_false_eq_true, grows_lr, callOut_t, hy.shut, ha, hy3.ok, hy3.cells1, hy3.width1, hy3.shut]
        refine ⟨E.length - (i + 1), by omega, i + 1, y2, ?_, hy3, fun j hj => by rw [hk2 j hj]; exact hf j hj, by omega, by omega, rfl⟩
        simp only [WN, firstReg, growAll, zbv, zbw, norm, killS, zag, zah, zaa, zab, zbl, zat, zad, growOne, zae, zaf, zac, zas, zak, Nat.reduceLT, Nat.reduceAdd, zbj, zav, F14, L14_3, her.clip2, her.clip, hdr.clip, hydr.clip, hy3.clip]
        try rfl
      | false =>
        rw [hk] at hft
        simp only [Bool.false_eq_true, if_false, List.append_nil] at hft
        simp only [WW, partV, eqCells, eqLf, minV, maxV, ifcV, zaa, zab, zac, zad, zae, zaf, zag, zah, zai, ofConst, ofConst1, List.replicate, zaj, zak, loadOp, Go.Abs.loadCells, binV, zal, pickV, zam, zan, zao, zap, zaq, zar, zas, zat, zau, outR, resAll, resOne, zav, zaw, zax, zay, zaz, zba, zbb, zbc, zbd, zbe, zbf, zbg, zbh, zbi, zbj, zbk, storeOp, storeCell, overlay, zbl, zbm, zbn, lookupOp, keyT, okRes, mapUpdateOp, zbo, zbp, zbq, zbr, zbs, zbt, zbu, Nat.reduceSub, Nat.reduceAdd, Int.reduceLT, Int.reduceLE, Int.reduceAdd, Int.reduceSub, Int.reduceToNat, Int.reduceBEq, Int.reduceBNe, Int.reduceMul, Nat.reduceBEq, Nat.reduceBNe, Nat.reduceLT, Nat.reduceLeDiff, Nat.reduceMul, Nat.reduceEqDiff, WD, effB, effH, isPriv, isHeap, isImm, zbx, zby, zbz, chkO, setD, dslot, zca, zcb, zcc, zcd, ptrCells_some, F14, g1, h1.shutIn, h1.len, ents_len, hat.at1 h1, hat.fa, hat.cells, entV, hi1, hk]
        refine ⟨E.length - (i + 1), by omega, i + 1, ye, ?_, by rw [hft]; exact hy, hf, hge, by omega, rfl⟩
        simp only [WN, firstReg, growAll, zbv, zbw, norm, killS, zag, zah, zaa, zab, zbl, zat, zad, growOne, zae, zaf, zac, zas, zak, Nat.reduceLT, Nat.reduceAdd, zbj, zav, F14, L14_3, her.clip2, her.clip, hdr.clip, hydr.clip, hy.clip]
        try rfl
    · have g1 : decide ((i : Int) < (E.length : Int)) = false := decide_eq_false (by omega)
      have hie : E.take i = E := List.take_of_length_le (by omega)
      rw [hie] at hy
      have hyd' : Sx H' yd (intsV D) := sx_fr hs0 hf
      simp only [WW, partV, eqCells, eqLf, minV, maxV, ifcV, zaa, zab, zac, zad, zae, zaf, zag, zah, zai, ofConst, ofConst1, List.replicate, zaj, zak, loadOp, Go.Abs.loadCells, binV, zal, pickV, zam, zan, zao, zap, zaq, zar, zas, zat, zau, outR, resAll, resOne, zav, zaw, zax, zay, zaz, zba, zbb, zbc, zbd, zbe, zbf, zbg, zbh, zbi, zbj, zbk, storeOp, storeCell, overlay, zbl, zbm, zbn, lookupOp, keyT, okRes, mapUpdateOp, zbo, zbp, zbq, zbr, zbs, zbt, zbu, Nat.reduceSub, Nat.reduceAdd, Int.reduceLT, Int.reduceLE, Int.reduceAdd, Int.reduceSub, Int.reduceToNat, Int.reduceBEq, Int.reduceBNe, Int.reduceMul, Nat.reduceBEq, Nat.reduceBNe, Nat.reduceLT, Nat.reduceLeDiff, Nat.reduceMul, Nat.reduceEqDiff, WD, effB, effH, isPriv, isHeap, isImm, zbx, zby, zbz, chkO, setD, dslot, zca, zcb, zcc, zcd, ptrCells_some, F14, g1, h1.shutIn, h1.len, ents_len, hy.shut, hy.ok, hyd'.rd.shutIn, hyd'.rd.ok]
      exact ⟨ye, yd, rfl, hy.sx, hyd', hf0, by simp at hge; omega⟩
end Go.Proofs.Yteenpfdpokekgaa

/- The page's example, by Parse's specification. -/
namespace Go.Proofs.Yteenpfdpokekgaa
open Go Go.Abs Go.Proofs
set_option maxRecDepth 100000
set_option maxHeartbeats 8000000
set_option linter.unusedVariables false
set_option linter.unusedSimpArgs false
def T1 : List UInt8 := [112, 105, 99, 107, 32, 48, 32, 50, 10, 100, 114, 97, 119, 32, 45, 53, 10, 116, 105, 101, 114, 32, 49, 32, 49, 32, 48, 32, 50, 10]
def T2 : List UInt8 := [112, 105, 99, 107, 32, 49, 32, 54, 53, 10]
theorem t1_res : parseR T1 = ⟨[⟨1, 0, 2, 0, 0, 0⟩, ⟨3, 1, 0, 1, 0, 2⟩], [-5], 0, 30⟩ := by kernel_rfl
theorem t2_res : parseR T2 = ⟨[], [], 9, 7⟩ := by kernel_rfl
def W1 : List V := [.int .u8 112, .int .u8 105, .int .u8 99, .int .u8 107, .int .u8 32, .int .u8 48, .int .u8 32, .int .u8 50, .int .u8 10, .int .u8 100, .int .u8 114, .int .u8 97, .int .u8 119, .int .u8 32, .int .u8 45, .int .u8 53, .int .u8 10, .int .u8 116, .int .u8 105, .int .u8 101, .int .u8 114, .int .u8 32, .int .u8 49, .int .u8 32, .int .u8 49, .int .u8 32, .int .u8 48, .int .u8 32, .int .u8 50, .int .u8 10]
def W2 : List V := [.int .u8 112, .int .u8 105, .int .u8 99, .int .u8 107, .int .u8 32, .int .u8 49, .int .u8 32, .int .u8 54, .int .u8 53, .int .u8 10]
theorem w1_eq : by8 T1 = W1 := rfl
theorem w2_eq : by8 T2 = W2 := rfl
theorem wd_last {G : Hp} {L : List UInt8} {n : Nat} : Wd (G ++ [Blk.cells (by8 L)]) (.sl G.length 0 n) := by
  intro id lo len es e1 e2
  cases e1
  rw [get_last] at e2
  cases e2
  exact wide8 L
theorem sx_last {G : Hp} {L : List UInt8} {n : Nat} (h : n = L.length) : Sx (G ++ [Blk.cells (by8 L)]) (.sl G.length 0 n) (by8 L) := by
  subst h
  have := Sx.whole (H := G ++ [Blk.cells (by8 L)]) (id := G.length) (es := by8 L) (get_last _ _)
  rwa [by8_len] at this
theorem p1_eq : wpCall EW 8 [.sl 0 0 30] [Blk.cells W1] (fun out H' => ∃ xe xd, out = .ret (.tup [.agg [xe, xd], .int .i64 0, .int .i64 30]) false ∧ ScR [Blk.cells W1] H' xe xd [⟨1, 0, 2, 0, 0, 0⟩, ⟨3, 1, 0, 1, 0, 2⟩] [-5]) := by
  have := parse_spec (x := .sl 0 0 30) (B := T1) (sx_last (G := []) (L := T1) rfl) (wd_last (G := []) (L := T1)) (by decide)
  rw [t1_res, w1_eq] at this
  exact this
theorem p2_eq (G : Hp) : wpCall EW 8 [.sl G.length 0 10] (G ++ [Blk.cells W2]) (fun out H' => ∃ xe xd, out = .ret (.tup [.agg [xe, xd], .int .i64 9, .int .i64 7]) false ∧ ScR (G ++ [Blk.cells W2]) H' xe xd [] []) := by
  have := parse_spec (x := .sl G.length 0 10) (B := T2) (sx_last (G := G) (L := T2) rfl) (wd_last (G := G) (L := T2)) (by decide)
  rw [t2_res, w2_eq] at this
  exact this
theorem slw_ext {sz : Nat} {H H' : Hp} {N : Nat → Prop} {x : V} {l : List V} (h : SlW sz H N x l) (hf : ∀ i, i < H.length → H'[i]? = H[i]?) : SlW sz H' N x l :=
  h.keep fun i es _ e => by rw [hf i (List.getElem?_eq_some_iff.1 e).1]; exact e
theorem live_eq (H : Hp) : EW 7 [] H = some (.ret (.bool true) false, H) := by
  refine eqOf (runsP f7 b7 r7 n7 _ rfl _ ?_)
  simp only [bodyOf, Try.f7, Option.getD_some]
  have p1 := p1_eq
  unfold W1 at p1
  simp only [WW, partV, eqCells, eqLf, minV, maxV, ifcV, zaa, zab, zac, zad, zae, zaf, zag, zah, zai, ofConst, ofConst1, List.replicate, zaj, zak, loadOp, Go.Abs.loadCells, binV, zal, pickV, zam, zan, zao, zap, zaq, zar, zas, zat, zau, outR, resAll, resOne, zav, zaw, zax, zay, zaz, zba, zbb, zbc, zbd, zbe, zbf, zbg, zbh, zbi, zbj, zbk, storeOp, storeCell, overlay, zbl, zbm, zbn, lookupOp, keyT, okRes, mapUpdateOp, zbo, zbp, zbq, zbr, zbs, zbt, zbu, Nat.reduceSub, Nat.reduceAdd, Int.reduceLT, Int.reduceLE, Int.reduceAdd, Int.reduceSub, Int.reduceToNat, Int.reduceBEq, Int.reduceBNe, Int.reduceMul, Nat.reduceBEq, Nat.reduceBNe, Nat.reduceLT, Nat.reduceLeDiff, Nat.reduceMul, Nat.reduceEqDiff, WD, effB, effH, isPriv, isHeap, isImm, zbx, zby, zbz, chkO, setD, dslot, zca, zcb, zcc, zcd, ptrCells_some, F7, buildOp, fillV, Lay.place, Bool.or_self, Bool.or_false, Bool.false_or, decide_not, ne_eq, not_true_eq_false, decide_eq_true_eq, Nat.lt_irrefl, buildSliceV, lits, srcV_eq, srcK_sl, srcK_str, srcSl_nils, srcSl_rsl, srcSl_sl, frow, zbv, zbw, List.all_nil, List.all_cons, rowV, Bool.false_and, Bool.and_false, not_false_eq_true, grows_lr, callOut_t, convertOp]
  refine wpCall_of p1 ?_
  rintro out H2 ⟨xe, xd, rfl, S1⟩
  have p2 := p2_eq H2
  unfold W2 at p2
  simp only [WW, partV, eqCells, eqLf, minV, maxV, ifcV, zaa, zab, zac, zad, zae, zaf, zag, zah, zai, ofConst, ofConst1, List.replicate, zaj, zak, loadOp, Go.Abs.loadCells, binV, zal, pickV, zam, zan, zao, zap, zaq, zar, zas, zat, zau, outR, resAll, resOne, zav, zaw, zax, zay, zaz, zba, zbb, zbc, zbd, zbe, zbf, zbg, zbh, zbi, zbj, zbk, storeOp, storeCell, overlay, zbl, zbm, zbn, lookupOp, keyT, okRes, mapUpdateOp, zbo, zbp, zbq, zbr, zbs, zbt, zbu, Nat.reduceSub, Nat.reduceAdd, Int.reduceLT, Int.reduceLE, Int.reduceAdd, Int.reduceSub, Int.reduceToNat, Int.reduceBEq, Int.reduceBNe, Int.reduceMul, Nat.reduceBEq, Nat.reduceBNe, Nat.reduceLT, Nat.reduceLeDiff, Nat.reduceMul, Nat.reduceEqDiff, WD, effB, effH, isPriv, isHeap, isImm, zbx, zby, zbz, chkO, setD, dslot, zca, zcb, zcc, zcd, ptrCells_some, F7, S1.se.shut, S1.sd.shut, S1.se.ok, S1.sd.ok, S1.se.cells1, S1.sd.cells1, buildOp, fillV, Lay.place, Bool.or_self, Bool.or_false, Bool.false_or, decide_not, ne_eq, not_true_eq_false, decide_eq_true_eq, Nat.lt_irrefl, buildSliceV, lits, srcV_eq, srcK_sl, srcK_str, srcSl_nils, srcSl_rsl, srcSl_sl, frow, zbv, zbw, List.all_nil, List.all_cons, rowV, Bool.false_and, Bool.and_false, not_false_eq_true, grows_lr, callOut_t, convertOp, get_last]
  refine wpCall_of p2 ?_
  rintro out H3 ⟨ye, yd, rfl, S2⟩
  have hfr : ∀ i, i < H2.length → H3[i]? = H2[i]? := fun i hi => by rw [S2.fr i (by simp; omega), List.getElem?_append_left hi]
  have se := slw_ext S1.se hfr
  have sd := slw_ext S1.sd hfr
  have hat := se.rd.at_ (sz := 6) (i := 1) (e := entV ⟨3, 1, 0, 1, 0, 2⟩) rfl rfl
  have hat0 := sd.rd.at_ (sz := 1) (i := 0) (e := intV (-5)) rfl rfl
  have hpk := picks_eq (E := [⟨1, 0, 2, 0, 0, 0⟩, ⟨3, 1, 0, 1, 0, 2⟩]) (D := [-5]) se.rd sd.rd (by simp)
  have hcn : cntP [⟨1, 0, 2, 0, 0, 0⟩, ⟨3, 1, 0, 1, 0, 2⟩] = 1 := rfl
  rw [hcn] at hpk
  have ha1 : slAt 6 H3 (viewV H3 xe) (1 : Int) = some (.v (atV H3 xe 1 0)) := hat.at1 se.rd
  have ha0 : slAt 1 H3 (viewV H3 xd) (0 : Int) = some (.v (atV H3 xd 0 0)) := hat0.at1 sd.rd
  have hl1 : lenK H3 (TK.slice 40) xe = some (.int .i64 2) := se.len 40
  have hl0 : lenK H3 (TK.slice 3) xd = some (.int .i64 1) := sd.len 3
  simp only [WW, partV, eqCells, eqLf, minV, maxV, ifcV, zaa, zab, zac, zad, zae, zaf, zag, zah, zai, ofConst, ofConst1, List.replicate, zaj, zak, loadOp, Go.Abs.loadCells, binV, zal, pickV, zam, zan, zao, zap, zaq, zar, zas, zat, zau, outR, resAll, resOne, zav, zaw, zax, zay, zaz, zba, zbb, zbc, zbd, zbe, zbf, zbg, zbh, zbi, zbj, zbk, storeOp, storeCell, overlay, zbl, zbm, zbn, lookupOp, keyT, okRes, mapUpdateOp, zbo, zbp, zbq, zbr, zbs, zbt, zbu, Nat.reduceSub, Nat.reduceAdd, Int.reduceLT, Int.reduceLE, Int.reduceAdd, Int.reduceSub, Int.reduceToNat, Int.reduceBEq, Int.reduceBNe, Int.reduceMul, Nat.reduceBEq, Nat.reduceBNe, Nat.reduceLT, Nat.reduceLeDiff, Nat.reduceMul, Nat.reduceEqDiff, WD, effB, effH, isPriv, isHeap, isImm, zbx, zby, zbz, chkO, setD, dslot, zca, zcb, zcc, zcd, ptrCells_some, F7, S2.se.shut, S2.sd.shut, S2.se.ok, S2.sd.ok, S2.se.cells1, S2.sd.cells1, buildOp, fillV, Lay.place, Bool.or_self, Bool.or_false, Bool.false_or, decide_not, ne_eq, not_true_eq_false, decide_eq_true_eq, Nat.lt_irrefl]
  rw [wpCall_eq (num_eq _ _)]
  simp only [WW, partV, eqCells, eqLf, minV, maxV, ifcV, zaa, zab, zac, zad, zae, zaf, zag, zah, zai, ofConst, ofConst1, List.replicate, zaj, zak, loadOp, Go.Abs.loadCells, binV, zal, pickV, zam, zan, zao, zap, zaq, zar, zas, zat, zau, outR, resAll, resOne, zav, zaw, zax, zay, zaz, zba, zbb, zbc, zbd, zbe, zbf, zbg, zbh, zbi, zbj, zbk, storeOp, storeCell, overlay, zbl, zbm, zbn, lookupOp, keyT, okRes, mapUpdateOp, zbo, zbp, zbq, zbr, zbs, zbt, zbu, Nat.reduceSub, Nat.reduceAdd, Int.reduceLT, Int.reduceLE, Int.reduceAdd, Int.reduceSub, Int.reduceToNat, Int.reduceBEq, Int.reduceBNe, Int.reduceMul, Nat.reduceBEq, Nat.reduceBNe, Nat.reduceLT, Nat.reduceLeDiff, Nat.reduceMul, Nat.reduceEqDiff, WD, effB, effH, isPriv, isHeap, isImm, zbx, zby, zbz, chkO, setD, dslot, zca, zcb, zcc, zcd, ptrCells_some, F7, se.shut, sd.shut, hl1, hl0, ha1, hat.fa, hat.cells, entV, ha0, hat0.cells, intV]
  rw [wpCall_eq (num_eq _ _)]
  simp only [WW, partV, eqCells, eqLf, minV, maxV, ifcV, zaa, zab, zac, zad, zae, zaf, zag, zah, zai, ofConst, ofConst1, List.replicate, zaj, zak, loadOp, Go.Abs.loadCells, binV, zal, pickV, zam, zan, zao, zap, zaq, zar, zas, zat, zau, outR, resAll, resOne, zav, zaw, zax, zay, zaz, zba, zbb, zbc, zbd, zbe, zbf, zbg, zbh, zbi, zbj, zbk, storeOp, storeCell, overlay, zbl, zbm, zbn, lookupOp, keyT, okRes, mapUpdateOp, zbo, zbp, zbq, zbr, zbs, zbt, zbu, Nat.reduceSub, Nat.reduceAdd, Int.reduceLT, Int.reduceLE, Int.reduceAdd, Int.reduceSub, Int.reduceToNat, Int.reduceBEq, Int.reduceBNe, Int.reduceMul, Nat.reduceBEq, Nat.reduceBNe, Nat.reduceLT, Nat.reduceLeDiff, Nat.reduceMul, Nat.reduceEqDiff, WD, effB, effH, isPriv, isHeap, isImm, zbx, zby, zbz, chkO, setD, dslot, zca, zcb, zcc, zcd, ptrCells_some, F7, se.shut, sd.shut, hl1, hl0, ha1, hat.fa, hat.cells, entV, ha0, hat0.cells, intV]
  rw [wpCall_eq hpk]
  simp only [WW, partV, eqCells, eqLf, minV, maxV, ifcV, zaa, zab, zac, zad, zae, zaf, zag, zah, zai, ofConst, ofConst1, List.replicate, zaj, zak, loadOp, Go.Abs.loadCells, binV, zal, pickV, zam, zan, zao, zap, zaq, zar, zas, zat, zau, outR, resAll, resOne, zav, zaw, zax, zay, zaz, zba, zbb, zbc, zbd, zbe, zbf, zbg, zbh, zbi, zbj, zbk, storeOp, storeCell, overlay, zbl, zbm, zbn, lookupOp, keyT, okRes, mapUpdateOp, zbo, zbp, zbq, zbr, zbs, zbt, zbu, Nat.reduceSub, Nat.reduceAdd, Int.reduceLT, Int.reduceLE, Int.reduceAdd, Int.reduceSub, Int.reduceToNat, Int.reduceBEq, Int.reduceBNe, Int.reduceMul, Nat.reduceBEq, Nat.reduceBNe, Nat.reduceLT, Nat.reduceLeDiff, Nat.reduceMul, Nat.reduceEqDiff, WD, effB, effH, isPriv, isHeap, isImm, zbx, zby, zbz, chkO, setD, dslot, zca, zcb, zcc, zcd, ptrCells_some, F7, se.shut, sd.shut]
  try first | exact ⟨rfl, rfl⟩ | exact rfl
end Go.Proofs.Yteenpfdpokekgaa

/- Scripts without their tiers: what is told may be written over. -/
namespace Go.Proofs.Yteenpfdpokekgaa
open Go Go.Abs Go.Proofs
set_option maxRecDepth 100000
set_option maxHeartbeats 16000000
set_option linter.unusedVariables false
set_option linter.unusedSimpArgs false
theorem wpCall_run {C : Abs.Callee} {f : FuncId} {args : List V} {H : Hp} {K : Out → Hp → Prop} (h : wpCall C f args H K) : ∃ out H', C f args H = some (out, H') ∧ K out H' := by
  unfold wpCall at h
  cases hc : C f args H with
  | none => rw [hc] at h; exact h.elim
  | some r => rw [hc] at h; exact ⟨r.1, r.2, rfl, h⟩
theorem filt_k {E : List Ent} {e : Ent} (h : e ∈ filt E) : e.k ≠ 3 := by
  simp only [filt, List.mem_filter, bne_iff_ne, ne_eq] at h
  exact h.2
theorem cnt_filt (E : List Ent) : cntP (filt E) = cntP E := by
  unfold cntP filt
  rw [List.filter_filter]
  congr 1
  apply List.filter_congr
  intro e _
  by_cases h : e.k = 1
  · simp [h]
  · simp [h]
theorem copyR_sx2 {es : List V} {H : Hp} : Sx (copyR es H).2 (copyR es H).1 es := copy_sx
theorem set_ents {Z : List Ent} {i : Nat} {e : Ent} : (entsV Z).set i (entV e) = entsV (Z.set i e) := by simp [entsV, List.map_set]
theorem set_ints {Z : List Int} {i : Nat} {v : Int} : (intsV Z).set i (intV v) = intsV (Z.set i v) := by simp [intsV, List.map_set]
/-- An element of a list of a block written over -/
theorem slw_put {sz : Nat} {H : Hp} {N : Nat → Prop} {s n i : Nat} {l es : List V} {y : V} (hs : ¬ N s) (h : H[s]? = some (.cells es)) (hn : l.length = n) (hle : n ≤ es.length) (ht : es.take n = l) (hne : es ≠ []) (hw : wideAll es sz = true) (hy : y.width = sz) :
    SlW sz (H.set s (.cells (es.set i y))) N (.sl s 0 n) (l.set i y) := by
  refine .inr ⟨s, es.set i y, by simp [hn], hs, by rw [List.getElem?_set_self (List.getElem?_eq_some_iff.1 h).1], by simp; omega, ?_, ?_, ?_⟩
  · rw [List.length_set, hn, List.take_set, ht]
  · intro e; apply hne; have := congrArg List.length e; simp at this; exact this
  · unfold wideAll at *
    rw [List.all_eq_true] at *
    intro x hx
    rcases List.mem_or_eq_of_mem_set hx with hx | rfl
    · exact hw x hx
    · simp [hy]
theorem erases_eq {xe xd : V} {E : List Ent} {D : List Int} (he : ∀ H, Sx H xe (entsV E)) (hd : ∀ H, Sx H xd (intsV D)) (H : Hp) :
    wpCall EW 4 [.agg [xe, xd]] H (fun out H' => out = .ret (.bool true) false) := by
  have her := (he H).rd
  have hdr := (hd H).rd
  have hshe : ∀ st, sealV st xe = xe := fun st => her.shutIn st
  have hshd : ∀ st, sealV st xd = xd := fun st => hdr.shutIn st
  have hmu := much_eq her hdr
  by_cases hm : ¬ (E.length ≤ 300 ∧ D.length ≤ 300)
  · have hb : (decide (300 < E.length) || decide (300 < D.length)) = true := by
      simp only [Bool.or_eq_true, decide_eq_true_eq]; omega
    rw [hb] at hmu
    refine runs f4 b4 r4 n4 _ _ ?_
    simp only [bodyOf, Try.f4, Option.getD_some]
    simp only [WW, partV, eqCells, eqLf, minV, maxV, ifcV, zaa, zab, zac, zad, zae, zaf, zag, zah, zai, ofConst, ofConst1, List.replicate, zaj, zak, loadOp, Go.Abs.loadCells, binV, zal, pickV, zam, zan, zao, zap, zaq, zar, zas, zat, zau, outR, resAll, resOne, zav, zaw, zax, zay, zaz, zba, zbb, zbc, zbd, zbe, zbf, zbg, zbh, zbi, zbj, zbk, storeOp, storeCell, overlay, zbl, zbm, zbn, lookupOp, keyT, okRes, mapUpdateOp, zbo, zbp, zbq, zbr, zbs, zbt, zbu, Nat.reduceSub, Nat.reduceAdd, Int.reduceLT, Int.reduceLE, Int.reduceAdd, Int.reduceSub, Int.reduceToNat, Int.reduceBEq, Int.reduceBNe, Int.reduceMul, Nat.reduceBEq, Nat.reduceBNe, Nat.reduceLT, Nat.reduceLeDiff, Nat.reduceMul, Nat.reduceEqDiff, WD, effB, effH, isPriv, isHeap, isImm, zbx, zby, zbz, chkO, setD, dslot, zca, zcb, zcc, zcd, ptrCells_some, F4, hshe, hshd, her.ok, hdr.ok]
    rw [wpCall_eq hmu]
    simp only [WW, partV, eqCells, eqLf, minV, maxV, ifcV, zaa, zab, zac, zad, zae, zaf, zag, zah, zai, ofConst, ofConst1, List.replicate, zaj, zak, loadOp, Go.Abs.loadCells, binV, zal, pickV, zam, zan, zao, zap, zaq, zar, zas, zat, zau, outR, resAll, resOne, zav, zaw, zax, zay, zaz, zba, zbb, zbc, zbd, zbe, zbf, zbg, zbh, zbi, zbj, zbk, storeOp, storeCell, overlay, zbl, zbm, zbn, lookupOp, keyT, okRes, mapUpdateOp, zbo, zbp, zbq, zbr, zbs, zbt, zbu, Nat.reduceSub, Nat.reduceAdd, Int.reduceLT, Int.reduceLE, Int.reduceAdd, Int.reduceSub, Int.reduceToNat, Int.reduceBEq, Int.reduceBNe, Int.reduceMul, Nat.reduceBEq, Nat.reduceBNe, Nat.reduceLT, Nat.reduceLeDiff, Nat.reduceMul, Nat.reduceEqDiff, WD, effB, effH, isPriv, isHeap, isImm, zbx, zby, zbz, chkO, setD, dslot, zca, zcb, zcc, zcd, ptrCells_some, F4]
    rw [wpCall_eq (live_eq _)]
    simp only [WW, partV, eqCells, eqLf, minV, maxV, ifcV, zaa, zab, zac, zad, zae, zaf, zag, zah, zai, ofConst, ofConst1, List.replicate, zaj, zak, loadOp, Go.Abs.loadCells, binV, zal, pickV, zam, zan, zao, zap, zaq, zar, zas, zat, zau, outR, resAll, resOne, zav, zaw, zax, zay, zaz, zba, zbb, zbc, zbd, zbe, zbf, zbg, zbh, zbi, zbj, zbk, storeOp, storeCell, overlay, zbl, zbm, zbn, lookupOp, keyT, okRes, mapUpdateOp, zbo, zbp, zbq, zbr, zbs, zbt, zbu, Nat.reduceSub, Nat.reduceAdd, Int.reduceLT, Int.reduceLE, Int.reduceAdd, Int.reduceSub, Int.reduceToNat, Int.reduceBEq, Int.reduceBNe, Int.reduceMul, Nat.reduceBEq, Nat.reduceBNe, Nat.reduceLT, Nat.reduceLeDiff, Nat.reduceMul, Nat.reduceEqDiff, WD, effB, effH, isPriv, isHeap, isImm, zbx, zby, zbz, chkO, setD, dslot, zca, zcb, zcc, zcd, ptrCells_some, F4]
  have hE3 : E.length ≤ 300 := by omega
  have hD3 : D.length ≤ 300 := by omega
  have hE : E.length < 4294967296 := by omega
  have hD : D.length < 4294967296 := by omega
  have hb : (decide (300 < E.length) || decide (300 < D.length)) = false := by
    simp only [Bool.or_eq_false_iff, decide_eq_false_iff_not]; omega
  rw [hb] at hmu
  -- the copies
  have ha13 : ∀ st d, appendOp Try.prog .heap st H d 40 .emp (entsV E) = some (putS st d (.v (copyR (entsV E) H).1), (copyR (entsV E) H).2) := fun st d => app_emp (by rw [size40]; exact ents_wide E) (by rw [room40, ents_len]; simp; omega)
  have sC : Sx (copyR (entsV E) H).2 (copyR (entsV E) H).1 (entsV E) := copyR_sx2
  obtain ⟨e1, he1⟩ := copyR_ext (entsV E) H
  generalize (copyR (entsV E) H).1 = ce at ha13 sC
  generalize hH1 : (copyR (entsV E) H).2 = H1 at ha13 sC he1
  have ha17 : ∀ st d, appendOp Try.prog .heap st H1 d 3 .emp (intsV D) = some (putS st d (.v (copyR (intsV D) H1).1), (copyR (intsV D) H1).2) := fun st d => app_emp (by rw [size3]; exact ints_wide D) (by rw [room3, ints_len]; simp; omega)
  have sD : Sx (copyR (intsV D) H1).2 (copyR (intsV D) H1).1 (intsV D) := copyR_sx2
  obtain ⟨e2, he2⟩ := copyR_ext (intsV D) H1
  generalize (copyR (intsV D) H1).1 = cd at ha17 sD
  generalize hH2 : (copyR (intsV D) H1).2 = H2 at ha17 sD he2
  have sC2 : Sx H2 ce (entsV E) := by rw [he2]; exact sC.app e2
  have hsx : ∀ Hx, Abs.srcSl Hx xe = some (entsV E) := fun Hx => (he Hx).rd.srcSl
  have hsd : ∀ Hx, Abs.srcSl Hx xd = some (intsV D) := fun Hx => (hd Hx).rd.srcSl
  -- the calls
  obtain ⟨o3, H3, c3, ae, ad, rfl, wae, wad, f3, g3⟩ := wpCall_run (erase_eq sC2 sD hE hD)
  obtain ⟨o4, H4, c4, re, rd_, rfl, sre, srd, f4_, g4⟩ := wpCall_run (rerase_eq (he H3) (hd H3) hE hD)
  have fl := filt_len E
  have wae4 := slw_ext wae f4_
  have sad4 := sx_fr wad.sx f4_
  obtain ⟨o5, H5, c5, rfl, e5, rfl⟩ := wpCall_run (same_eq wae4.sx sre sad4.rd srd.rd (by omega) hD)
  have fr35 : ∀ i, i < H3.length → (H4 ++ e5)[i]? = H3[i]? := fun i hi => by rw [List.getElem?_append_left (by omega)]; exact f4_ i hi
  have sC5 : Sx (H4 ++ e5) ce (entsV E) := sx_fr sC2 (fun i hi => by rw [fr35 i (by omega)]; exact f3 i hi)
  have sD5 : Sx (H4 ++ e5) cd (intsV D) := sx_fr sD (fun i hi => by rw [fr35 i (by omega)]; exact f3 i hi)
  obtain ⟨o6, H6, c6, rfl, e6, rfl⟩ := wpCall_run (same_eq sC5 (he (H4 ++ e5)) sD5.rd (hd (H4 ++ e5)).rd hE hD)
  have fr36 : ∀ i, i < H3.length → (H4 ++ e5 ++ e6)[i]? = H3[i]? := fun i hi => by rw [List.getElem?_append_left (by simp; omega)]; exact fr35 i hi
  have gl6 : H3.length ≤ (H4 ++ e5 ++ e6).length := by simp; omega
  generalize hH6 : H4 ++ e5 ++ e6 = H6 at c6 fr36 gl6
  have wae6 := slw_ext wae fr36
  have wad6 : WrD H6 (fun i => i < H2.length ∨ bx ae = some i) ad D := by
    rcases wad with h | h
    · exact .inl h
    · exact .inr (slw_ext h fr36)
  have c7 := picks_eq (E := filt E) (D := D) wae6.rd wad6.sx.rd (by omega)
  have c8 := picks_eq (E := E) (D := D) (he H6).rd (hd H6).rd hE
  rw [cnt_filt] at c7
  have enn : (((cntP E : Nat) : Int) != ((cntP E : Nat) : Int)) = false := by simp
  refine runs f4 b4 r4 n4 _ _ ?_
  simp only [bodyOf, Try.f4, Option.getD_some]
  simp only [WW, partV, eqCells, eqLf, minV, maxV, ifcV, zaa, zab, zac, zad, zae, zaf, zag, zah, zai, ofConst, ofConst1, List.replicate, zaj, zak, loadOp, Go.Abs.loadCells, binV, zal, pickV, zam, zan, zao, zap, zaq, zar, zas, zat, zau, outR, resAll, resOne, zav, zaw, zax, zay, zaz, zba, zbb, zbc, zbd, zbe, zbf, zbg, zbh, zbi, zbj, zbk, storeOp, storeCell, overlay, zbl, zbm, zbn, lookupOp, keyT, okRes, mapUpdateOp, zbo, zbp, zbq, zbr, zbs, zbt, zbu, Nat.reduceSub, Nat.reduceAdd, Int.reduceLT, Int.reduceLE, Int.reduceAdd, Int.reduceSub, Int.reduceToNat, Int.reduceBEq, Int.reduceBNe, Int.reduceMul, Nat.reduceBEq, Nat.reduceBNe, Nat.reduceLT, Nat.reduceLeDiff, Nat.reduceMul, Nat.reduceEqDiff, WD, effB, effH, isPriv, isHeap, isImm, zbx, zby, zbz, chkO, setD, dslot, zca, zcb, zcc, zcd, ptrCells_some, F4, hshe, hshd, her.ok, hdr.ok]
  rw [wpCall_eq hmu]
  simp only [WW, partV, eqCells, eqLf, minV, maxV, ifcV, zaa, zab, zac, zad, zae, zaf, zag, zah, zai, ofConst, ofConst1, List.replicate, zaj, zak, loadOp, Go.Abs.loadCells, binV, zal, pickV, zam, zan, zao, zap, zaq, zar, zas, zat, zau, outR, resAll, resOne, zav, zaw, zax, zay, zaz, zba, zbb, zbc, zbd, zbe, zbf, zbg, zbh, zbi, zbj, zbk, storeOp, storeCell, overlay, zbl, zbm, zbn, lookupOp, keyT, okRes, mapUpdateOp, zbo, zbp, zbq, zbr, zbs, zbt, zbu, Nat.reduceSub, Nat.reduceAdd, Int.reduceLT, Int.reduceLE, Int.reduceAdd, Int.reduceSub, Int.reduceToNat, Int.reduceBEq, Int.reduceBNe, Int.reduceMul, Nat.reduceBEq, Nat.reduceBNe, Nat.reduceLT, Nat.reduceLeDiff, Nat.reduceMul, Nat.reduceEqDiff, WD, effB, effH, isPriv, isHeap, isImm, zbx, zby, zbz, chkO, setD, dslot, zca, zcb, zcc, zcd, ptrCells_some, F4]
  refine wC_dr alts4_3 (by kernel_rfl) ?_
  simp only [WW, partV, eqCells, eqLf, minV, maxV, ifcV, zaa, zab, zac, zad, zae, zaf, zag, zah, zai, ofConst, ofConst1, List.replicate, zaj, zak, loadOp, Go.Abs.loadCells, binV, zal, pickV, zam, zan, zao, zap, zaq, zar, zas, zat, zau, outR, resAll, resOne, zav, zaw, zax, zay, zaz, zba, zbb, zbc, zbd, zbe, zbf, zbg, zbh, zbi, zbj, zbk, storeOp, storeCell, overlay, zbl, zbm, zbn, lookupOp, keyT, okRes, mapUpdateOp, zbo, zbp, zbq, zbr, zbs, zbt, zbu, Nat.reduceSub, Nat.reduceAdd, Int.reduceLT, Int.reduceLE, Int.reduceAdd, Int.reduceSub, Int.reduceToNat, Int.reduceBEq, Int.reduceBNe, Int.reduceMul, Nat.reduceBEq, Nat.reduceBNe, Nat.reduceLT, Nat.reduceLeDiff, Nat.reduceMul, Nat.reduceEqDiff, WD, effB, effH, isPriv, isHeap, isImm, zbx, zby, zbz, chkO, setD, dslot, zca, zcb, zcc, zcd, ptrCells_some, F4, alts4_3, hshe, hshd, hsx, hsd, her.ok, hdr.ok, buildSliceV, lits, srcV_eq, srcK_sl, srcK_str, srcSl_nils, srcSl_rsl, srcSl_sl, frow, zbv, zbw, List.all_nil, List.all_cons, rowV, Bool.false_and, Bool.and_false, ne_eq, not_false_eq_true, grows_lr, callOut_t, ha13, ha17, buildOp, fillV, Lay.place, Bool.or_self, Bool.or_false, Bool.false_or, decide_not, not_true_eq_false, decide_eq_true_eq, Nat.lt_irrefl, sC2.rd.shutIn, sC2.rd.ok, sC2.rd.cells1, sC2.rd.width1, sD.rd.shutIn, sD.rd.ok, sD.rd.cells1, sD.rd.width1]
  rw [wpCall_eq c3]
  simp only [WW, partV, eqCells, eqLf, minV, maxV, ifcV, zaa, zab, zac, zad, zae, zaf, zag, zah, zai, ofConst, ofConst1, List.replicate, zaj, zak, loadOp, Go.Abs.loadCells, binV, zal, pickV, zam, zan, zao, zap, zaq, zar, zas, zat, zau, outR, resAll, resOne, zav, zaw, zax, zay, zaz, zba, zbb, zbc, zbd, zbe, zbf, zbg, zbh, zbi, zbj, zbk, storeOp, storeCell, overlay, zbl, zbm, zbn, lookupOp, keyT, okRes, mapUpdateOp, zbo, zbp, zbq, zbr, zbs, zbt, zbu, Nat.reduceSub, Nat.reduceAdd, Int.reduceLT, Int.reduceLE, Int.reduceAdd, Int.reduceSub, Int.reduceToNat, Int.reduceBEq, Int.reduceBNe, Int.reduceMul, Nat.reduceBEq, Nat.reduceBNe, Nat.reduceLT, Nat.reduceLeDiff, Nat.reduceMul, Nat.reduceEqDiff, WD, effB, effH, isPriv, isHeap, isImm, zbx, zby, zbz, chkO, setD, dslot, zca, zcb, zcc, zcd, ptrCells_some, F4, wae.shut, wad.sx.rd.shutIn, wae.ok, wad.sx.rd.ok, wae.cells1, wad.sx.rd.cells1, sC2.rd.shutIn, sD.rd.shutIn]
  refine wC_dr alts4_5 (by kernel_rfl) ?_
  simp only [WW, partV, eqCells, eqLf, minV, maxV, ifcV, zaa, zab, zac, zad, zae, zaf, zag, zah, zai, ofConst, ofConst1, List.replicate, zaj, zak, loadOp, Go.Abs.loadCells, binV, zal, pickV, zam, zan, zao, zap, zaq, zar, zas, zat, zau, outR, resAll, resOne, zav, zaw, zax, zay, zaz, zba, zbb, zbc, zbd, zbe, zbf, zbg, zbh, zbi, zbj, zbk, storeOp, storeCell, overlay, zbl, zbm, zbn, lookupOp, keyT, okRes, mapUpdateOp, zbo, zbp, zbq, zbr, zbs, zbt, zbu, Nat.reduceSub, Nat.reduceAdd, Int.reduceLT, Int.reduceLE, Int.reduceAdd, Int.reduceSub, Int.reduceToNat, Int.reduceBEq, Int.reduceBNe, Int.reduceMul, Nat.reduceBEq, Nat.reduceBNe, Nat.reduceLT, Nat.reduceLeDiff, Nat.reduceMul, Nat.reduceEqDiff, WD, effB, effH, isPriv, isHeap, isImm, zbx, zby, zbz, chkO, setD, dslot, zca, zcb, zcc, zcd, ptrCells_some, F4, alts4_5, hshe, hshd, wae.shut, wad.sx.rd.shutIn, sC2.rd.shutIn, sD.rd.shutIn]
  rw [wpCall_eq c4]
  simp only [WW, partV, eqCells, eqLf, minV, maxV, ifcV, zaa, zab, zac, zad, zae, zaf, zag, zah, zai, ofConst, ofConst1, List.replicate, zaj, zak, loadOp, Go.Abs.loadCells, binV, zal, pickV, zam, zan, zao, zap, zaq, zar, zas, zat, zau, outR, resAll, resOne, zav, zaw, zax, zay, zaz, zba, zbb, zbc, zbd, zbe, zbf, zbg, zbh, zbi, zbj, zbk, storeOp, storeCell, overlay, zbl, zbm, zbn, lookupOp, keyT, okRes, mapUpdateOp, zbo, zbp, zbq, zbr, zbs, zbt, zbu, Nat.reduceSub, Nat.reduceAdd, Int.reduceLT, Int.reduceLE, Int.reduceAdd, Int.reduceSub, Int.reduceToNat, Int.reduceBEq, Int.reduceBNe, Int.reduceMul, Nat.reduceBEq, Nat.reduceBNe, Nat.reduceLT, Nat.reduceLeDiff, Nat.reduceMul, Nat.reduceEqDiff, WD, effB, effH, isPriv, isHeap, isImm, zbx, zby, zbz, chkO, setD, dslot, zca, zcb, zcc, zcd, ptrCells_some, F4, alts4_5, hshe, hshd, wae.shut, wad.sx.rd.shutIn, sC2.rd.shutIn, sD.rd.shutIn, sre.rd.shutIn, srd.rd.shutIn]
  rw [wpCall_eq c5]
  simp only [WW, partV, eqCells, eqLf, minV, maxV, ifcV, zaa, zab, zac, zad, zae, zaf, zag, zah, zai, ofConst, ofConst1, List.replicate, zaj, zak, loadOp, Go.Abs.loadCells, binV, zal, pickV, zam, zan, zao, zap, zaq, zar, zas, zat, zau, outR, resAll, resOne, zav, zaw, zax, zay, zaz, zba, zbb, zbc, zbd, zbe, zbf, zbg, zbh, zbi, zbj, zbk, storeOp, storeCell, overlay, zbl, zbm, zbn, lookupOp, keyT, okRes, mapUpdateOp, zbo, zbp, zbq, zbr, zbs, zbt, zbu, Nat.reduceSub, Nat.reduceAdd, Int.reduceLT, Int.reduceLE, Int.reduceAdd, Int.reduceSub, Int.reduceToNat, Int.reduceBEq, Int.reduceBNe, Int.reduceMul, Nat.reduceBEq, Nat.reduceBNe, Nat.reduceLT, Nat.reduceLeDiff, Nat.reduceMul, Nat.reduceEqDiff, WD, effB, effH, isPriv, isHeap, isImm, zbx, zby, zbz, chkO, setD, dslot, zca, zcb, zcc, zcd, ptrCells_some, F4, alts4_5, hshe, hshd, wae.shut, wad.sx.rd.shutIn, sC2.rd.shutIn, sD.rd.shutIn]
  rw [wpCall_eq c6]
  simp only [WW, partV, eqCells, eqLf, minV, maxV, ifcV, zaa, zab, zac, zad, zae, zaf, zag, zah, zai, ofConst, ofConst1, List.replicate, zaj, zak, loadOp, Go.Abs.loadCells, binV, zal, pickV, zam, zan, zao, zap, zaq, zar, zas, zat, zau, outR, resAll, resOne, zav, zaw, zax, zay, zaz, zba, zbb, zbc, zbd, zbe, zbf, zbg, zbh, zbi, zbj, zbk, storeOp, storeCell, overlay, zbl, zbm, zbn, lookupOp, keyT, okRes, mapUpdateOp, zbo, zbp, zbq, zbr, zbs, zbt, zbu, Nat.reduceSub, Nat.reduceAdd, Int.reduceLT, Int.reduceLE, Int.reduceAdd, Int.reduceSub, Int.reduceToNat, Int.reduceBEq, Int.reduceBNe, Int.reduceMul, Nat.reduceBEq, Nat.reduceBNe, Nat.reduceLT, Nat.reduceLeDiff, Nat.reduceMul, Nat.reduceEqDiff, WD, effB, effH, isPriv, isHeap, isImm, zbx, zby, zbz, chkO, setD, dslot, zca, zcb, zcc, zcd, ptrCells_some, F4, alts4_5, hshe, hshd, wae.shut, wad.sx.rd.shutIn, sC2.rd.shutIn, sD.rd.shutIn]
  rw [wpCall_eq c7]
  simp only [WW, partV, eqCells, eqLf, minV, maxV, ifcV, zaa, zab, zac, zad, zae, zaf, zag, zah, zai, ofConst, ofConst1, List.replicate, zaj, zak, loadOp, Go.Abs.loadCells, binV, zal, pickV, zam, zan, zao, zap, zaq, zar, zas, zat, zau, outR, resAll, resOne, zav, zaw, zax, zay, zaz, zba, zbb, zbc, zbd, zbe, zbf, zbg, zbh, zbi, zbj, zbk, storeOp, storeCell, overlay, zbl, zbm, zbn, lookupOp, keyT, okRes, mapUpdateOp, zbo, zbp, zbq, zbr, zbs, zbt, zbu, Nat.reduceSub, Nat.reduceAdd, Int.reduceLT, Int.reduceLE, Int.reduceAdd, Int.reduceSub, Int.reduceToNat, Int.reduceBEq, Int.reduceBNe, Int.reduceMul, Nat.reduceBEq, Nat.reduceBNe, Nat.reduceLT, Nat.reduceLeDiff, Nat.reduceMul, Nat.reduceEqDiff, WD, effB, effH, isPriv, isHeap, isImm, zbx, zby, zbz, chkO, setD, dslot, zca, zcb, zcc, zcd, ptrCells_some, F4, alts4_5, hshe, hshd, wae.shut, wad.sx.rd.shutIn, sC2.rd.shutIn, sD.rd.shutIn]
  rw [wpCall_eq c8]
  simp only [WW, partV, eqCells, eqLf, minV, maxV, ifcV, zaa, zab, zac, zad, zae, zaf, zag, zah, zai, ofConst, ofConst1, List.replicate, zaj, zak, loadOp, Go.Abs.loadCells, binV, zal, pickV, zam, zan, zao, zap, zaq, zar, zas, zat, zau, outR, resAll, resOne, zav, zaw, zax, zay, zaz, zba, zbb, zbc, zbd, zbe, zbf, zbg, zbh, zbi, zbj, zbk, storeOp, storeCell, overlay, zbl, zbm, zbn, lookupOp, keyT, okRes, mapUpdateOp, zbo, zbp, zbq, zbr, zbs, zbt, zbu, Nat.reduceSub, Nat.reduceAdd, Int.reduceLT, Int.reduceLE, Int.reduceAdd, Int.reduceSub, Int.reduceToNat, Int.reduceBEq, Int.reduceBNe, Int.reduceMul, Nat.reduceBEq, Nat.reduceBNe, Nat.reduceLT, Nat.reduceLeDiff, Nat.reduceMul, Nat.reduceEqDiff, WD, effB, effH, isPriv, isHeap, isImm, zbx, zby, zbz, chkO, setD, dslot, zca, zcb, zcc, zcd, ptrCells_some, F4, alts4_5, hshe, hshd, wae.shut, wad.sx.rd.shutIn, sC2.rd.shutIn, sD.rd.shutIn, enn]
  refine wC_loop _ (fun n st H' => ∃ (i : Nat) (Z : List Ent), st = ⟨L4_8 (.box 0) (.box 1) (.box 2) (.v (.int .i64 i)), [[xe, xd], [ce, cd], [ae, ad]], []⟩ ∧ (∀ j, j < H2.length → H'[j]? = H6[j]?) ∧ SlW 6 H' (fun i => i < H2.length) ae (entsV Z) ∧ WrD H' (fun i => i < H2.length ∨ bx ae = some i) ad D ∧ (∀ e ∈ Z, e.k ≠ 3) ∧ Z.length = (filt E).length ∧ i ≤ Z.length ∧ n = Z.length - i) (filt E).length ⟨0, filt E, ?_, fun _ _ => rfl, wae6, wad6, fun e he => filt_k he, rfl, by omega, by omega⟩ ?_
  · simp only [WN, firstReg, growAll, zbv, zbw, norm, killS, zag, zah, zaa, zab, zbl, zat, zad, growOne, zae, zaf, zac, zas, zak, Nat.reduceLT, Nat.reduceAdd, zbj, zav, F4, L4_8, her.clip, hdr.clip, sC2.rd.clip, sD.rd.clip, wae.clip, wad.sx.rd.clip]
    try rfl
  · rintro n st H' ⟨i, Z, rfl, hfr, hz, hwd, hk3, hzl, hi, rfl⟩
    simp only [L4_8]
    have hzr := hz.rd
    by_cases hlt : i < Z.length
    · have g1 : decide ((i : Int) < (Z.length : Int)) = true := decide_eq_true (by omega)
      have hZi : Z[i]? = some Z[i] := List.getElem?_eq_getElem hlt
      generalize Z[i] = e at hZi
      have hek : (e.k == 3) = false := by simpa using hk3 e (List.mem_of_getElem? hZi)
      have hat := hzr.at_ (sz := 6) (i := i) (e := entV e) (by simp [entsV, hZi]) rfl
      have ha1 := hat.at1 hzr
      have hi1 : IntKind.i64.wrap ((i : Int) + 1) = ((i + 1 : Nat) : Int) := by rw [IntWalk.i64_in _ (by omega)]; omega
      have hz0 := hz
      rcases hz0 with ⟨_, h0⟩ | ⟨s, es, hae, hN, hc, hle, ht, hne, hw⟩
      · have h00 : Z.length = 0 := by have := congrArg List.length h0; rw [ents_len] at this; exact this
        omega
      rw [ents_len] at hae hle ht
      have hatv : ∀ o, atV H' ae i o = .ptr s i o := fun o => by rw [hae]; simp [atV, viewV]
      have hei : es[i]? = some (entV e) := by
        have : (es.take Z.length)[i]? = some (entV e) := by rw [ht]; simp [entsV, hZi]
        rwa [List.getElem?_take, if_pos hlt] at this
      have hput := slw_put (sz := 6) (N := fun i => i < H2.length) (y := entV { e with a := -1 }) hN hc (ents_len Z) hle ht hne hw rfl (i := i)
      rw [set_ents] at hput
      have hlen := hzr.len 40
      obtain ⟨ek, ea, eb, ef, eg, ei⟩ := e
      simp only [entV] at hei hput hek
      simp only [WW, partV, eqCells, eqLf, minV, maxV, ifcV, zaa, zab, zac, zad, zae, zaf, zag, zah, zai, ofConst, ofConst1, List.replicate, zaj, zak, loadOp, Go.Abs.loadCells, binV, zal, pickV, zam, zan, zao, zap, zaq, zar, zas, zat, zau, outR, resAll, resOne, zav, zaw, zax, zay, zaz, zba, zbb, zbc, zbd, zbe, zbf, zbg, zbh, zbi, zbj, zbk, storeOp, storeCell, overlay, zbl, zbm, zbn, lookupOp, keyT, okRes, mapUpdateOp, zbo, zbp, zbq, zbr, zbs, zbt, zbu, Nat.reduceSub, Nat.reduceAdd, Int.reduceLT, Int.reduceLE, Int.reduceAdd, Int.reduceSub, Int.reduceToNat, Int.reduceBEq, Int.reduceBNe, Int.reduceMul, Nat.reduceBEq, Nat.reduceBNe, Nat.reduceLT, Nat.reduceLeDiff, Nat.reduceMul, Nat.reduceEqDiff, WD, effB, effH, isPriv, isHeap, isImm, zbx, zby, zbz, chkO, setD, dslot, zca, zcb, zcc, zcd, ptrCells_some, F4, hzr.shutIn, hzr.len, ents_len, g1, ha1, hatv, hc, hei, hek]
      simp only [WW, partV, eqCells, eqLf, minV, maxV, ifcV, zaa, zab, zac, zad, zae, zaf, zag, zah, zai, ofConst, ofConst1, List.replicate, zaj, zak, loadOp, Go.Abs.loadCells, binV, zal, pickV, zam, zan, zao, zap, zaq, zar, zas, zat, zau, outR, resAll, resOne, zav, zaw, zax, zay, zaz, zba, zbb, zbc, zbd, zbe, zbf, zbg, zbh, zbi, zbj, zbk, storeOp, storeCell, overlay, zbl, zbm, zbn, lookupOp, keyT, okRes, mapUpdateOp, zbo, zbp, zbq, zbr, zbs, zbt, zbu, Nat.reduceSub, Nat.reduceAdd, Int.reduceLT, Int.reduceLE, Int.reduceAdd, Int.reduceSub, Int.reduceToNat, Int.reduceBEq, Int.reduceBNe, Int.reduceMul, Nat.reduceBEq, Nat.reduceBNe, Nat.reduceLT, Nat.reduceLeDiff, Nat.reduceMul, Nat.reduceEqDiff, WD, effB, effH, isPriv, isHeap, isImm, zbx, zby, zbz, chkO, setD, dslot, zca, zcb, zcc, zcd, ptrCells_some, F4, hzr.shutIn, hzr.len, ents_len, g1, ha1, hatv, hc, hei, hek, hi1, storeHeap, promote, heapSet, elemSet]
      refine ⟨Z.length - (i + 1), by omega, i + 1, Z.set i ⟨ek, -1, eb, ef, eg, ei⟩, ?_, fun j hj => ?_, by rw [hae]; exact hput, ?_, fun x hx => ?_, by simp [hzl], by simp; omega, by simp⟩
      · simp only [WN, firstReg, growAll, zbv, zbw, norm, killS, zag, zah, zaa, zab, zbl, zat, zad, growOne, zae, zaf, zac, zas, zak, Nat.reduceLT, Nat.reduceAdd, zbj, zav, F4, L4_8, her.clip, hdr.clip, sC2.rd.clip, sD.rd.clip, wae.clip, wad.sx.rd.clip]
        try rfl
      · rw [List.getElem?_set, if_neg (by rintro rfl; exact hN hj)]; exact hfr j hj
      · rcases hwd with h | h
        · exact .inl h
        · exact .inr (h.set (.inr (by rw [hae]; rfl)) _)
      · rcases List.mem_or_eq_of_mem_set hx with hx | rfl
        · exact hk3 x hx
        · simpa using hek
    · have g1 : decide ((i : Int) < (Z.length : Int)) = false := decide_eq_false (by omega)
      simp only [WW, partV, eqCells, eqLf, minV, maxV, ifcV, zaa, zab, zac, zad, zae, zaf, zag, zah, zai, ofConst, ofConst1, List.replicate, zaj, zak, loadOp, Go.Abs.loadCells, binV, zal, pickV, zam, zan, zao, zap, zaq, zar, zas, zat, zau, outR, resAll, resOne, zav, zaw, zax, zay, zaz, zba, zbb, zbc, zbd, zbe, zbf, zbg, zbh, zbi, zbj, zbk, storeOp, storeCell, overlay, zbl, zbm, zbn, lookupOp, keyT, okRes, mapUpdateOp, zbo, zbp, zbq, zbr, zbs, zbt, zbu, Nat.reduceSub, Nat.reduceAdd, Int.reduceLT, Int.reduceLE, Int.reduceAdd, Int.reduceSub, Int.reduceToNat, Int.reduceBEq, Int.reduceBNe, Int.reduceMul, Nat.reduceBEq, Nat.reduceBNe, Nat.reduceLT, Nat.reduceLeDiff, Nat.reduceMul, Nat.reduceEqDiff, WD, effB, effH, isPriv, isHeap, isImm, zbx, zby, zbz, chkO, setD, dslot, zca, zcb, zcc, zcd, ptrCells_some, F4, hzr.shutIn, hzr.len, ents_len, g1]
      refine wC_loop _ (fun n st H' => ∃ (i : Nat) (Y : List Int), st = ⟨L4_14 (.box 0) (.box 1) (.box 2) (.v (.int .i64 i)), [[xe, xd], [ce, cd], [ae, ad]], []⟩ ∧ (∀ j, j < H2.length → H'[j]? = H6[j]?) ∧ WrD H' (fun i => i < H2.length ∨ bx ae = some i) ad Y ∧ H2.length ≤ H'.length ∧ Y.length = D.length ∧ i ≤ Y.length ∧ n = Y.length - i) D.length ⟨0, D, ?_, hfr, hwd, ?_, rfl, by omega, by omega⟩ ?_
      · simp only [WN, firstReg, growAll, zbv, zbw, norm, killS, zag, zah, zaa, zab, zbl, zat, zad, growOne, zae, zaf, zac, zas, zak, Nat.reduceLT, Nat.reduceAdd, zbj, zav, F4, L4_14, her.clip, hdr.clip, sC2.rd.clip, sD.rd.clip, wae.clip, wad.sx.rd.clip]
        try rfl
      · refine Nat.le_of_not_lt fun hcon => ?_
        have h1 := hfr H'.length hcon
        rw [List.getElem?_eq_none (Nat.le_refl _), List.getElem?_eq_getElem (by omega)] at h1
        cases h1
      · rintro n st H' ⟨j, Y, rfl, hfr, hwd, hgl, hyl, hj, rfl⟩
        simp only [L4_14]
        have hyr := hwd.sx.rd
        by_cases hlt : j < Y.length
        · have g2 : decide ((j : Int) < (Y.length : Int)) = true := decide_eq_true (by omega)
          have hYj : Y[j]? = some Y[j] := List.getElem?_eq_getElem hlt
          generalize Y[j] = v at hYj
          have hat := hyr.at_ (sz := 1) (i := j) (e := intV v) (by simp [intsV, hYj]) rfl
          have ha1 := hat.at1 hyr
          have hj1 : IntKind.i64.wrap ((j : Int) + 1) = ((j + 1 : Nat) : Int) := by rw [IntWalk.i64_in _ (by omega)]; omega
          rcases hwd with ⟨_, h0⟩ | hsl
          · rw [h0] at hlt; simp at hlt
          rcases hsl with ⟨_, h0⟩ | ⟨s, es, had, hN, hc, hle, ht, hne, hw⟩
          · have h00 : Y.length = 0 := by have := congrArg List.length h0; rw [ints_len] at this; exact this
            omega
          rw [ints_len] at had hle ht
          have hatv : ∀ o, atV H' ad j o = .ptr s j o := fun o => by rw [had]; simp [atV, viewV]
          have hei : es[j]? = some (intV v) := by
            have : (es.take Y.length)[j]? = some (intV v) := by rw [ht]; simp [intsV, hYj]
            rwa [List.getElem?_take, if_pos hlt] at this
          have hput := slw_put (sz := 1) (N := fun i => i < H2.length ∨ bx ae = some i) (y := intV (IntKind.i64.wrap (v + 1))) hN hc (ints_len Y) hle ht hne hw rfl (i := j)
          rw [set_ints] at hput
          simp only [intV] at hei hput
          simp only [WW, partV, eqCells, eqLf, minV, maxV, ifcV, zaa, zab, zac, zad, zae, zaf, zag, zah, zai, ofConst, ofConst1, List.replicate, zaj, zak, loadOp, Go.Abs.loadCells, binV, zal, pickV, zam, zan, zao, zap, zaq, zar, zas, zat, zau, outR, resAll, resOne, zav, zaw, zax, zay, zaz, zba, zbb, zbc, zbd, zbe, zbf, zbg, zbh, zbi, zbj, zbk, storeOp, storeCell, overlay, zbl, zbm, zbn, lookupOp, keyT, okRes, mapUpdateOp, zbo, zbp, zbq, zbr, zbs, zbt, zbu, Nat.reduceSub, Nat.reduceAdd, Int.reduceLT, Int.reduceLE, Int.reduceAdd, Int.reduceSub, Int.reduceToNat, Int.reduceBEq, Int.reduceBNe, Int.reduceMul, Nat.reduceBEq, Nat.reduceBNe, Nat.reduceLT, Nat.reduceLeDiff, Nat.reduceMul, Nat.reduceEqDiff, WD, effB, effH, isPriv, isHeap, isImm, zbx, zby, zbz, chkO, setD, dslot, zca, zcb, zcc, zcd, ptrCells_some, F4, hyr.shutIn, hyr.len, ints_len, g2, ha1, hatv, hc, hei, hj1, storeHeap, promote, heapSet, elemSet]
          refine ⟨Y.length - (j + 1), by omega, j + 1, Y.set j (IntKind.i64.wrap (v + 1)), ?_, fun k hk => ?_, .inr (by rw [had]; exact hput), by simpa using hgl, by simp [hyl], by simp; omega, by simp⟩
          · simp only [WN, firstReg, growAll, zbv, zbw, norm, killS, zag, zah, zaa, zab, zbl, zat, zad, growOne, zae, zaf, zac, zas, zak, Nat.reduceLT, Nat.reduceAdd, zbj, zav, F4, L4_14, her.clip, hdr.clip, sC2.rd.clip, sD.rd.clip, wae.clip, wad.sx.rd.clip]
            try rfl
          · rw [List.getElem?_set, if_neg (by rintro rfl; exact hN (.inl hk))]; exact hfr k hk
        · have g2 : decide ((j : Int) < (Y.length : Int)) = false := decide_eq_false (by omega)
          have fr2 : ∀ i, i < H2.length → H'[i]? = H2[i]? := fun i hi => by rw [hfr i hi, fr36 i (by omega)]; exact f3 i hi
          have sC7 : Sx H' ce (entsV E) := sx_fr sC2 fr2
          have sD7 : Sx H' cd (intsV D) := sx_fr sD fr2
          obtain ⟨o8, H8, c9, rfl, e8, rfl⟩ := wpCall_run (same_eq sC7 (he H') sD7.rd (hd H').rd hE hD)
          have sC8 : Sx (H' ++ e8) ce (entsV E) := sC7.app e8
          have sD8 : Sx (H' ++ e8) cd (intsV D) := sD7.app e8
          obtain ⟨o9, H9, c10, be, bd, rfl, wbe, wbd, f9, g9⟩ := wpCall_run (erase_eq sC8 sD8 hE hD)
          obtain ⟨o10, H10, c11, qe, qd, rfl, sqe, sqd, f10, g10⟩ := wpCall_run (rerase_eq (he H9) (hd H9) hE hD)
          have wbe2 := slw_ext wbe f10
          have sbd2 := sx_fr wbd.sx f10
          obtain ⟨o11, H11, c12, rfl, e11, rfl⟩ := wpCall_run (same_eq wbe2.sx sqe sbd2.rd sqd.rd (by omega) hD)
          simp only [WW, partV, eqCells, eqLf, minV, maxV, ifcV, zaa, zab, zac, zad, zae, zaf, zag, zah, zai, ofConst, ofConst1, List.replicate, zaj, zak, loadOp, Go.Abs.loadCells, binV, zal, pickV, zam, zan, zao, zap, zaq, zar, zas, zat, zau, outR, resAll, resOne, zav, zaw, zax, zay, zaz, zba, zbb, zbc, zbd, zbe, zbf, zbg, zbh, zbi, zbj, zbk, storeOp, storeCell, overlay, zbl, zbm, zbn, lookupOp, keyT, okRes, mapUpdateOp, zbo, zbp, zbq, zbr, zbs, zbt, zbu, Nat.reduceSub, Nat.reduceAdd, Int.reduceLT, Int.reduceLE, Int.reduceAdd, Int.reduceSub, Int.reduceToNat, Int.reduceBEq, Int.reduceBNe, Int.reduceMul, Nat.reduceBEq, Nat.reduceBNe, Nat.reduceLT, Nat.reduceLeDiff, Nat.reduceMul, Nat.reduceEqDiff, WD, effB, effH, isPriv, isHeap, isImm, zbx, zby, zbz, chkO, setD, dslot, zca, zcb, zcc, zcd, ptrCells_some, F4, hyr.shutIn, hyr.len, ints_len, g2]
          refine wC_dr alts4_17 (by kernel_rfl) ?_
          simp only [WW, partV, eqCells, eqLf, minV, maxV, ifcV, zaa, zab, zac, zad, zae, zaf, zag, zah, zai, ofConst, ofConst1, List.replicate, zaj, zak, loadOp, Go.Abs.loadCells, binV, zal, pickV, zam, zan, zao, zap, zaq, zar, zas, zat, zau, outR, resAll, resOne, zav, zaw, zax, zay, zaz, zba, zbb, zbc, zbd, zbe, zbf, zbg, zbh, zbi, zbj, zbk, storeOp, storeCell, overlay, zbl, zbm, zbn, lookupOp, keyT, okRes, mapUpdateOp, zbo, zbp, zbq, zbr, zbs, zbt, zbu, Nat.reduceSub, Nat.reduceAdd, Int.reduceLT, Int.reduceLE, Int.reduceAdd, Int.reduceSub, Int.reduceToNat, Int.reduceBEq, Int.reduceBNe, Int.reduceMul, Nat.reduceBEq, Nat.reduceBNe, Nat.reduceLT, Nat.reduceLeDiff, Nat.reduceMul, Nat.reduceEqDiff, WD, effB, effH, isPriv, isHeap, isImm, zbx, zby, zbz, chkO, setD, dslot, zca, zcb, zcc, zcd, ptrCells_some, F4, alts4_17, hshe, hshd, sC2.rd.shutIn, sD.rd.shutIn]
          rw [wpCall_eq c9]
          simp only [WW, partV, eqCells, eqLf, minV, maxV, ifcV, zaa, zab, zac, zad, zae, zaf, zag, zah, zai, ofConst, ofConst1, List.replicate, zaj, zak, loadOp, Go.Abs.loadCells, binV, zal, pickV, zam, zan, zao, zap, zaq, zar, zas, zat, zau, outR, resAll, resOne, zav, zaw, zax, zay, zaz, zba, zbb, zbc, zbd, zbe, zbf, zbg, zbh, zbi, zbj, zbk, storeOp, storeCell, overlay, zbl, zbm, zbn, lookupOp, keyT, okRes, mapUpdateOp, zbo, zbp, zbq, zbr, zbs, zbt, zbu, Nat.reduceSub, Nat.reduceAdd, Int.reduceLT, Int.reduceLE, Int.reduceAdd, Int.reduceSub, Int.reduceToNat, Int.reduceBEq, Int.reduceBNe, Int.reduceMul, Nat.reduceBEq, Nat.reduceBNe, Nat.reduceLT, Nat.reduceLeDiff, Nat.reduceMul, Nat.reduceEqDiff, WD, effB, effH, isPriv, isHeap, isImm, zbx, zby, zbz, chkO, setD, dslot, zca, zcb, zcc, zcd, ptrCells_some, F4, alts4_17, hshe, hshd, sC2.rd.shutIn, sD.rd.shutIn]
          rw [wpCall_eq c10]
          simp only [WW, partV, eqCells, eqLf, minV, maxV, ifcV, zaa, zab, zac, zad, zae, zaf, zag, zah, zai, ofConst, ofConst1, List.replicate, zaj, zak, loadOp, Go.Abs.loadCells, binV, zal, pickV, zam, zan, zao, zap, zaq, zar, zas, zat, zau, outR, resAll, resOne, zav, zaw, zax, zay, zaz, zba, zbb, zbc, zbd, zbe, zbf, zbg, zbh, zbi, zbj, zbk, storeOp, storeCell, overlay, zbl, zbm, zbn, lookupOp, keyT, okRes, mapUpdateOp, zbo, zbp, zbq, zbr, zbs, zbt, zbu, Nat.reduceSub, Nat.reduceAdd, Int.reduceLT, Int.reduceLE, Int.reduceAdd, Int.reduceSub, Int.reduceToNat, Int.reduceBEq, Int.reduceBNe, Int.reduceMul, Nat.reduceBEq, Nat.reduceBNe, Nat.reduceLT, Nat.reduceLeDiff, Nat.reduceMul, Nat.reduceEqDiff, WD, effB, effH, isPriv, isHeap, isImm, zbx, zby, zbz, chkO, setD, dslot, zca, zcb, zcc, zcd, ptrCells_some, F4, alts4_17, hshe, hshd, sC2.rd.shutIn, sD.rd.shutIn, wbe.shut, wbd.sx.rd.shutIn]
          rw [wpCall_eq c11]
          simp only [WW, partV, eqCells, eqLf, minV, maxV, ifcV, zaa, zab, zac, zad, zae, zaf, zag, zah, zai, ofConst, ofConst1, List.replicate, zaj, zak, loadOp, Go.Abs.loadCells, binV, zal, pickV, zam, zan, zao, zap, zaq, zar, zas, zat, zau, outR, resAll, resOne, zav, zaw, zax, zay, zaz, zba, zbb, zbc, zbd, zbe, zbf, zbg, zbh, zbi, zbj, zbk, storeOp, storeCell, overlay, zbl, zbm, zbn, lookupOp, keyT, okRes, mapUpdateOp, zbo, zbp, zbq, zbr, zbs, zbt, zbu, Nat.reduceSub, Nat.reduceAdd, Int.reduceLT, Int.reduceLE, Int.reduceAdd, Int.reduceSub, Int.reduceToNat, Int.reduceBEq, Int.reduceBNe, Int.reduceMul, Nat.reduceBEq, Nat.reduceBNe, Nat.reduceLT, Nat.reduceLeDiff, Nat.reduceMul, Nat.reduceEqDiff, WD, effB, effH, isPriv, isHeap, isImm, zbx, zby, zbz, chkO, setD, dslot, zca, zcb, zcc, zcd, ptrCells_some, F4, alts4_17, hshe, hshd, sC2.rd.shutIn, sD.rd.shutIn, wbe.shut, wbd.sx.rd.shutIn, sqe.rd.shutIn, sqd.rd.shutIn]
          rw [wpCall_eq c12]
          simp only [WW, partV, eqCells, eqLf, minV, maxV, ifcV, zaa, zab, zac, zad, zae, zaf, zag, zah, zai, ofConst, ofConst1, List.replicate, zaj, zak, loadOp, Go.Abs.loadCells, binV, zal, pickV, zam, zan, zao, zap, zaq, zar, zas, zat, zau, outR, resAll, resOne, zav, zaw, zax, zay, zaz, zba, zbb, zbc, zbd, zbe, zbf, zbg, zbh, zbi, zbj, zbk, storeOp, storeCell, overlay, zbl, zbm, zbn, lookupOp, keyT, okRes, mapUpdateOp, zbo, zbp, zbq, zbr, zbs, zbt, zbu, Nat.reduceSub, Nat.reduceAdd, Int.reduceLT, Int.reduceLE, Int.reduceAdd, Int.reduceSub, Int.reduceToNat, Int.reduceBEq, Int.reduceBNe, Int.reduceMul, Nat.reduceBEq, Nat.reduceBNe, Nat.reduceLT, Nat.reduceLeDiff, Nat.reduceMul, Nat.reduceEqDiff, WD, effB, effH, isPriv, isHeap, isImm, zbx, zby, zbz, chkO, setD, dslot, zca, zcb, zcc, zcd, ptrCells_some, F4, alts4_17, hshe, hshd, sC2.rd.shutIn, sD.rd.shutIn]
          rw [wpCall_eq (live_eq _)]
          simp only [WW, partV, eqCells, eqLf, minV, maxV, ifcV, zaa, zab, zac, zad, zae, zaf, zag, zah, zai, ofConst, ofConst1, List.replicate, zaj, zak, loadOp, Go.Abs.loadCells, binV, zal, pickV, zam, zan, zao, zap, zaq, zar, zas, zat, zau, outR, resAll, resOne, zav, zaw, zax, zay, zaz, zba, zbb, zbc, zbd, zbe, zbf, zbg, zbh, zbi, zbj, zbk, storeOp, storeCell, overlay, zbl, zbm, zbn, lookupOp, keyT, okRes, mapUpdateOp, zbo, zbp, zbq, zbr, zbs, zbt, zbu, Nat.reduceSub, Nat.reduceAdd, Int.reduceLT, Int.reduceLE, Int.reduceAdd, Int.reduceSub, Int.reduceToNat, Int.reduceBEq, Int.reduceBNe, Int.reduceMul, Nat.reduceBEq, Nat.reduceBNe, Nat.reduceLT, Nat.reduceLeDiff, Nat.reduceMul, Nat.reduceEqDiff, WD, effB, effH, isPriv, isHeap, isImm, zbx, zby, zbz, chkO, setD, dslot, zca, zcb, zcc, zcd, ptrCells_some, F4, alts4_17, hshe, hshd, sC2.rd.shutIn, sD.rd.shutIn]
/-! The law at any argument -/
theorem rows_map2 {α : Type} {f : List V → V} {tv : α → V} : ∀ {rows : List (List V)}, (∀ r ∈ rows, ∃ a, f r = tv a) → ∃ l : List α, rows.map f = l.map tv ∧ l.length = rows.length
  | [], _ => ⟨[], rfl, rfl⟩
  | r :: rows, h => by
    obtain ⟨a, ha⟩ := h r (.head _)
    obtain ⟨l, h1, h2⟩ := rows_map2 (rows := rows) fun r hr => h r (.tail _ hr)
    exact ⟨a :: l, by simp [ha, h1], by simp [h2]⟩
theorem u3 : Try.prog.underlying 3 = some (.int .i64) := by kernel_rfl
theorem u24 : Try.prog.underlying 24 = some (.slice 40) := by kernel_rfl
theorem u25 : Try.prog.underlying 25 = some (.slice 3) := by kernel_rfl
theorem s27 : tysOf Try.prog 27 = some [24, 25] := by kernel_rfl
theorem s40 : tysOf Try.prog 40 = some [3, 3, 3, 38] := by kernel_rfl
theorem s38 : tysOf Try.prog 38 = some [3, 3, 3] := by kernel_rfl
theorem flat_sx {x : V} {l : List V} (h : ∀ H, Rd H x l) (H : Hp) : Sx H x l := by
  rcases (h []).flat with ⟨rfl, rfl⟩ | rfl
  · exact .nils
  · exact .rsl l
theorem open_script {d : Nat} {v : List V} (h : Tv Try.prog (d + 5) 27 v) : ∃ xe xd E D, v = [xe, xd] ∧ (∀ H, Sx H xe (entsV E)) ∧ (∀ H, Sx H xd (intsV D)) ∧ E.length ≤ maxLen ∧ D.length ≤ maxLen := by
  obtain ⟨a, _, rfl, ha, b, _, rfl, hb, rfl⟩ := tv_fields h s27
  obtain ⟨xe, r1, rfl, h1, l1, k1⟩ := tv_slice ha u24
  obtain ⟨xd, r2, rfl, h2, l2, k2⟩ := tv_slice hb u25
  have g40 : isAggT Try.prog 40 = true := by kernel_rfl
  have g3 : isAggT Try.prog 3 = false := by kernel_rfl
  rw [g40] at h1
  rw [g3] at h2
  obtain ⟨E, e1, e2⟩ := rows_map2 (f := mkV true) (tv := entV) (rows := r1) (fun r hr => by
    obtain ⟨p0, _, rfl, q0, p1, _, rfl, q1, p2, _, rfl, q2, p3, _, rfl, q3, rfl⟩ := tv_fields (k1 r hr) s40
    obtain ⟨n0, rfl, _⟩ := tv_int q0 u3
    obtain ⟨n1, rfl, _⟩ := tv_int q1 u3
    obtain ⟨n2, rfl, _⟩ := tv_int q2 u3
    obtain ⟨t0, _, rfl, w0, t1, _, rfl, w1, t2, _, rfl, w2, rfl⟩ := tv_fields q3 s38
    obtain ⟨m0, rfl, _⟩ := tv_int w0 u3
    obtain ⟨m1, rfl, _⟩ := tv_int w1 u3
    obtain ⟨m2, rfl, _⟩ := tv_int w2 u3
    exact ⟨⟨n0, n1, n2, m0, m1, m2⟩, rfl⟩)
  obtain ⟨D, e3, e4⟩ := rows_map2 (f := mkV false) (tv := intV) (rows := r2) (fun r hr => by
    obtain ⟨n0, rfl, _⟩ := tv_int (k2 r hr) u3
    exact ⟨n0, rfl⟩)
  rw [e1] at h1
  rw [e3] at h2
  exact ⟨xe, xd, E, D, rfl, flat_sx h1, flat_sx h2, by omega, by omega⟩
theorem scriptErases_main {v0 : List V} (h0 : Tv Try.prog 8 27 v0) :
    wpCall (evW Try.prog notes) 4 [mkV (isAggT Try.prog 27) v0] [] (fun out H' => out = .ret (.bool true) false) := by
  obtain ⟨xe, xd, E, D, rfl, he, hd, hE, hD⟩ := open_script h0
  have ag : isAggT Try.prog 27 = true := by kernel_rfl
  rw [ag]
  exact erases_eq he hd []
end Go.Proofs.Yteenpfdpokekgaa

/- Two texts, one behind the other: their lines. -/
namespace Go.Proofs.Yteenpfdpokekgaa
open Go Go.Abs Go.Proofs
set_option maxRecDepth 100000
set_option maxHeartbeats 4000000
set_option linter.unusedVariables false
set_option linter.unusedSimpArgs false
theorem get_left {A : List UInt8} {i : Nat} {c : UInt8} (B : List UInt8) (h : A[i]? = some c) : (A ++ B)[i]? = some c := by
  rw [List.getElem?_append_left (List.getElem?_eq_some_iff.1 h).1]; exact h
theorem get_lt {A : List UInt8} {i : Nat} (B : List UInt8) (h : i < A.length) : (A ++ B)[i]? = A[i]? := List.getElem?_append_left h
theorem want_get {B : List UInt8} {c : UInt8} {w : List UInt8} {s : Nat × Int} (h : (wantM B (c :: w) s).2 = 0) : s.2 = 0 ∧ B[s.1]? = some c ∧ (wantM B w (s.1 + 1, 0)).2 = 0 := by
  unfold wantM at h
  by_cases h0 : s.2 = 0
  · rw [if_pos h0] at h
    by_cases h1 : B[s.1]? = some c
    · rw [if_pos h1] at h; exact ⟨h0, h1, h⟩
    · rw [if_neg h1] at h; cases h
  · rw [if_neg h0] at h; exact absurd h h0
theorem want_in {B : List UInt8} {c : UInt8} {w : List UInt8} {s : Nat × Int} (h : (wantM B (c :: w) s).2 = 0) : s.1 < B.length := (List.getElem?_eq_some_iff.1 (want_get h).2.1).1
theorem want_pre (B : List UInt8) {A : List UInt8} : ∀ {w : List UInt8} {s : Nat × Int}, (wantM A w s).2 = 0 → wantM (A ++ B) w s = wantM A w s
  | [], s, h => rfl
  | c :: w, s, h => by
    obtain ⟨h0, h1, h2⟩ := want_get h
    rw [wantM, wantM, if_pos h0, if_pos h0, if_pos h1, if_pos (get_left B h1)]
    exact want_pre B h2
theorem more_pre (B : List UInt8) {A : List UInt8} {n : Int} {fr : Nat} {s : Nat × Int} (h : (moreM A n fr s).2 = 0) : moreM (A ++ B) n fr s = moreM A n fr s := by
  obtain ⟨h1, h2, h3, h4⟩ := more_ok h
  have hw : (wantM A [32] s).2 = 0 := by rw [← h2]; exact h
  unfold moreM
  rw [want_pre B hw]
theorem dig_lt (B : List UInt8) {A : List UInt8} {i : Nat} (h : i < A.length) : dig (A ++ B) i = dig A i := by unfold dig; rw [get_lt B h]
theorem digsL_pre (k : List UInt8) : ∀ (l : List UInt8) (i : Nat) (n : Int), (digsL l i n).1 < i + l.length → digsL (l ++ k) i n = digsL l i n
  | [], i, n, h => by simp [digsL] at h
  | c :: l, i, n, h => by
    rw [List.cons_append]
    unfold digsL at h ⊢
    split
    · rename_i hc
      rw [if_pos hc] at h
      exact digsL_pre k l (i + 1) _ (by simp at h; omega)
    · rfl
theorem digsM_pre (B : List UInt8) {A : List UInt8} {low high : Int} {fr : Nat} {sg : Int} {a1 : Nat} (ha : a1 < A.length) (h : (digsM A low high fr sg a1).2.2 = 0) (hl : (digsM A low high fr sg a1).2.1 < A.length) : digsM (A ++ B) low high fr sg a1 = digsM A low high fr sg a1 := by
  unfold digsM at h hl ⊢
  rw [get_lt B ha]
  split at h
  · rename_i c3
    rw [if_pos c3] at hl ⊢
    rw [if_pos c3]
    split at h
    · cases h
    · rename_i c4
      rw [if_neg c4] at hl ⊢
      rw [end_ok h] at hl
      simp only at hl
      have hge := digsL_ge (A.drop (a1 + 1)) (a1 + 1) 0
      rw [dig_lt B (by omega), if_neg c4, List.drop_append_of_le_length (by omega), digsL_pre _ _ _ _ (by simp; omega)]
  · rename_i c3
    rw [if_neg c3] at hl ⊢
    rw [if_neg c3]
    rw [end_ok h] at hl
    simp only at hl
    rw [List.drop_append_of_le_length (by omega), digsL_pre _ _ _ _ (by simp; omega)]
theorem sign_pre (B : List UInt8) {A : List UInt8} {low high : Int} {fr : Nat} {neg : Bool} {a1 : Nat} (h : (signM A low high fr neg a1).2.2 = 0) (hl : (signM A low high fr neg a1).2.1 < A.length) : signM (A ++ B) low high fr neg a1 = signM A low high fr neg a1 := by
  unfold signM at h hl ⊢
  split at h
  · cases h
  rename_i c1
  rw [if_neg c1] at hl
  have hd : dig A a1 = true := by simpa using c1
  have ha : a1 < A.length := by
    unfold dig at hd
    cases hg : A[a1]? with
    | none => rw [hg] at hd; cases hd
    | some c => exact (List.getElem?_eq_some_iff.1 hg).1
  rw [dig_lt B ha, if_neg c1, if_neg c1, get_lt B ha]
  split at h
  · cases h
  rename_i c2
  rw [if_neg c2] at hl
  rw [if_neg c2, if_neg c2]
  exact digsM_pre B ha h hl
theorem num_pre (B : List UInt8) {A : List UInt8} {low high : Int} {s : Nat × Int} (h : (numM A low high s).2.2 = 0) (hl : (numM A low high s).2.1 < A.length) : numM (A ++ B) low high s = numM A low high s := by
  obtain ⟨h0, hge⟩ := num_ok h
  have hs : s.1 < A.length := by omega
  unfold numM at h hl ⊢
  have hz : ¬ (s.2 ≠ 0) := by simp [h0]
  rw [if_neg hz] at h hl
  rw [if_neg hz, if_neg hz, get_lt B hs]
  split at h
  · rename_i c
    rw [if_pos c] at hl
    rw [if_pos c, if_pos c]
    exact sign_pre B h hl
  · rename_i c
    rw [if_neg c] at hl
    rw [if_neg c, if_neg c]
    exact sign_pre B h hl
theorem pre1 {B : List UInt8} {a : Nat} {c : UInt8} : preB (B.drop a) [c] = true ↔ B[a]? = some c := by
  unfold preB
  cases hg : B[a]? with
  | none =>
    have := List.getElem?_eq_none_iff.1 hg
    rw [List.drop_of_length_le this]; simp
  | some d =>
    rw [drop_cons hg]; simp
theorem pre2 {B : List UInt8} {a : Nat} {c d : UInt8} : preB (B.drop a) [c, d] = true ↔ B[a]? = some c ∧ B[a + 1]? = some d := by
  unfold preB
  cases hg : B[a]? with
  | none =>
    have := List.getElem?_eq_none_iff.1 hg
    rw [List.drop_of_length_le this]; simp
  | some e =>
    rw [drop_cons hg]
    cases hg2 : B[a + 1]? with
    | none =>
      have := List.getElem?_eq_none_iff.1 hg2
      rw [List.drop_of_length_le this]; simp
    | some f => rw [drop_cons hg2]; simp
theorem one_pre (B : List UInt8) {A : List UInt8} {ne nd a : Nat} (h : (oneM A ne nd a).1.2 = 0) : oneM (A ++ B) ne nd a = oneM A ne nd a := by
  unfold oneM at h ⊢
  by_cases c1 : preB (A.drop a) [112] = true
  · rw [if_pos c1] at h
    rw [if_pos (pre1.2 (get_left B (pre1.1 c1))), if_pos c1]
    simp only [oneP] at h ⊢
    have h1 := want_ok h; have i1 := want_in h; have h2 := num_ok h1.1; have h3 := want_ok h2.1; have i3 := want_in h2.1; have h4 := num_ok h3.1; have h5 := more_ok h4.1; have h6 : (wantM A [112, 105, 99, 107] (a, 0)).2 = 0 := h5.2.2.1
    rw [want_pre B h6, more_pre B h4.1, num_pre B h3.1 i3, want_pre B h2.1, num_pre B h1.1 i1, want_pre B h]
  · rw [if_neg c1] at h
    rw [if_neg c1]
    by_cases c2 : preB (A.drop a) [116, 105] = true
    · rw [if_pos c2] at h
      obtain ⟨g1, g2⟩ := pre2.1 c2
      have n1 : ¬ preB ((A ++ B).drop a) [112] = true := fun q => by
        have := pre1.1 q; rw [get_left B g1] at this; exact absurd (Option.some.inj this) (by decide)
      rw [if_neg n1, if_pos (pre2.2 ⟨get_left B g1, get_left B g2⟩), if_pos c2]
      have h9 : (wantM A [116, 105] (a, 0)).2 = 0 := by
        rw [wantM, if_pos rfl, if_pos g1, wantM, if_pos rfl, if_pos g2]; rfl
      rw [want_pre B h9]
      by_cases c3 : A[(wantM A [116, 105] (a, 0)).1]? = some 101
      · rw [if_pos c3] at h
        rw [if_pos (get_left B c3), if_pos c3]
        simp only [oneE] at h ⊢
        have h1 := want_ok h; have i1 := want_in h; have h2 := num_ok h1.1; have h3 := want_ok h2.1; have i3 := want_in h2.1; have h4 := num_ok h3.1; have h5 := want_ok h4.1; have i5 := want_in h4.1; have h6 := num_ok h5.1; have h7 := want_ok h6.1; have i7 := want_in h6.1; have h8 := num_ok h7.1; have ha := more_ok h8.1; have hb := want_ok ha.2.2.1
        rw [want_pre B h9, want_pre B ha.2.2.1, more_pre B h8.1, num_pre B h7.1 i7, want_pre B h6.1, num_pre B h5.1 i5, want_pre B h4.1, num_pre B h3.1 i3, want_pre B h2.1, num_pre B h1.1 i1, want_pre B h]
      · rw [if_neg c3] at h
        simp only [oneK] at h
        have h1 := want_ok h; have i1 := want_in h; have h8 := num_ok h1.1; have ha := more_ok h8.1
        have hg := (want_get ha.2.2.1).2.1
        have n3 : ¬ (A ++ B)[(wantM A [116, 105] (a, 0)).1]? = some 101 := fun q => by
          rw [get_left B hg] at q; exact absurd (Option.some.inj q) (by decide)
        rw [if_neg n3, if_neg c3]
        simp only [oneK]
        rw [want_pre B h9, want_pre B ha.2.2.1, more_pre B h8.1, num_pre B h1.1 i1, want_pre B h]
    · rw [if_neg c2] at h
      rw [if_neg c2]
      by_cases c3 : preB (A.drop a) [116] = true
      · rw [if_pos c3] at h
        simp only [oneT] at h
        have h1 := want_ok h
        obtain ⟨_, g1, g2⟩ := want_get h1.1
        exact absurd (pre2.2 ⟨g1, (want_get g2).2.1⟩) c2
      · rw [if_neg c3] at h
        rw [if_neg c3]
        simp only [oneD] at h
        have h1 := want_ok h; have i1 := want_in h; have h2 := num_ok h1.1; have h5 := more_ok h2.1
        have hg := (want_get h5.2.2.1).2.1
        have hgB : (A ++ B)[a]? = some 100 := get_left B hg
        have n1 : ¬ preB ((A ++ B).drop a) [112] = true := fun q => by
          have := pre1.1 q; rw [hgB] at this; exact absurd (Option.some.inj this) (by decide)
        have n2 : ¬ preB ((A ++ B).drop a) [116, 105] = true := fun q => by
          have := (pre2.1 q).1; rw [hgB] at this; exact absurd (Option.some.inj this) (by decide)
        have n3 : ¬ preB ((A ++ B).drop a) [116] = true := fun q => by
          have := pre1.1 q; rw [hgB] at this; exact absurd (Option.some.inj this) (by decide)
        rw [if_neg n1, if_neg n2, if_neg n3]
        simp only [oneD]
        rw [want_pre B h5.2.2.1, more_pre B h2.1, num_pre B h1.1 i1, want_pre B h]
end Go.Proofs.Yteenpfdpokekgaa

/- Two texts, one behind the other: shifted places, all lines. -/
namespace Go.Proofs.Yteenpfdpokekgaa
open Go Go.Abs Go.Proofs
set_option maxRecDepth 100000
set_option maxHeartbeats 4000000
set_option linter.unusedVariables false
set_option linter.unusedSimpArgs false
def sh (k : Nat) (s : Nat × Int) : Nat × Int := (k + s.1, s.2)
theorem get_sh (A B : List UInt8) (i : Nat) : (A ++ B)[A.length + i]? = B[i]? := by
  rw [List.getElem?_append_right (by omega)]; congr 1; omega
theorem drop_sh (A B : List UInt8) (i : Nat) : (A ++ B).drop (A.length + i) = B.drop i := by
  rw [← List.drop_drop, List.drop_left]
theorem want_sh (A B : List UInt8) : ∀ (w : List UInt8) (s : Nat × Int), wantM (A ++ B) w (sh A.length s) = sh A.length (wantM B w s)
  | [], s => rfl
  | c :: w, s => by
    rw [wantM, wantM]
    have e : (A ++ B)[(sh A.length s).1]? = B[s.1]? := get_sh A B s.1
    rw [e]
    by_cases h0 : s.2 = 0
    · rw [if_pos (show (sh A.length s).2 = 0 from h0), if_pos h0]
      by_cases h1 : B[s.1]? = some c
      · rw [if_pos h1, if_pos h1]
        exact want_sh A B w (s.1 + 1, 0)
      · rw [if_neg h1, if_neg h1]; rfl
    · rw [if_neg (show ¬ (sh A.length s).2 = 0 from h0), if_neg h0]
theorem more_sh (A B : List UInt8) {n n' : Int} (hn : n ≠ 65536) (hn' : n' ≠ 65536) (fr fr' : Nat) (s : Nat × Int) : moreM (A ++ B) n fr (sh A.length s) = sh A.length (moreM B n' fr' s) := by
  unfold moreM
  rw [if_neg (fun q => hn q.2), if_neg (fun q => hn' q.2), want_sh]
theorem dig_sh (A B : List UInt8) (i : Nat) : dig (A ++ B) (A.length + i) = dig B i := by unfold dig; rw [get_sh]
theorem digsL_sh (k : Nat) : ∀ (l : List UInt8) (i : Nat) (n : Int), digsL l (k + i) n = (k + (digsL l i n).1, (digsL l i n).2)
  | [], i, n => rfl
  | c :: l, i, n => by
    rw [digsL, digsL]
    split
    · exact digsL_sh k l (i + 1) _
    · rfl
theorem end_sh {low high : Int} {fr k : Nat} {sg : Int} (q : Nat × Int) : endM low high (k + fr) sg (k + q.1, q.2) = ((endM low high fr sg q).1, sh k (endM low high fr sg q).2) := by
  unfold endM; split <;> rfl
theorem digsM_sh (A B : List UInt8) {low high : Int} {fr : Nat} {sg : Int} (a : Nat) : digsM (A ++ B) low high (A.length + fr) sg (A.length + a) = ((digsM B low high fr sg a).1, sh A.length (digsM B low high fr sg a).2) := by
  unfold digsM
  rw [get_sh]
  split
  · rw [show A.length + a + 1 = A.length + (a + 1) by omega, dig_sh]
    split
    · rfl
    · rw [drop_sh, digsL_sh]; exact end_sh _
  · rw [drop_sh, digsL_sh]; exact end_sh _
theorem sign_sh (A B : List UInt8) {low high : Int} {fr : Nat} {neg : Bool} (a : Nat) : signM (A ++ B) low high (A.length + fr) neg (A.length + a) = ((signM B low high fr neg a).1, sh A.length (signM B low high fr neg a).2) := by
  unfold signM
  rw [dig_sh, get_sh]
  split
  · rfl
  · split
    · rfl
    · exact digsM_sh A B a
theorem num_sh (A B : List UInt8) {low high : Int} (s : Nat × Int) : numM (A ++ B) low high (sh A.length s) = ((numM B low high s).1, sh A.length (numM B low high s).2) := by
  unfold numM
  by_cases h0 : s.2 ≠ 0
  · rw [if_pos (show (sh A.length s).2 ≠ 0 from h0), if_pos h0]
  · rw [if_neg (show ¬ (sh A.length s).2 ≠ 0 from h0), if_neg h0]
    rw [show (sh A.length s).1 = A.length + s.1 from rfl, get_sh]
    split
    · rw [show A.length + s.1 + 1 = A.length + (s.1 + 1) by omega]; exact sign_sh A B _
    · exact sign_sh A B _
theorem one_sh (A B : List UInt8) {ne nd ne' nd' : Nat} (h1 : ne < 65536) (h2 : nd < 65536) (h3 : ne' < 65536) (h4 : nd' < 65536) (a : Nat) :
    oneM (A ++ B) ne nd (A.length + a) = (sh A.length (oneM B ne' nd' a).1, (oneM B ne' nd' a).2.1, (oneM B ne' nd' a).2.2) := by
  have m1 : (ne : Int) ≠ 65536 := by omega
  have m2 : (nd : Int) ≠ 65536 := by omega
  have m3 : (ne' : Int) ≠ 65536 := by omega
  have m4 : (nd' : Int) ≠ 65536 := by omega
  have z : (A.length + a, (0 : Int)) = sh A.length (a, 0) := rfl
  unfold oneM
  rw [drop_sh]
  split
  · simp only [oneP, z, want_sh, more_sh A B m1 m3 _ a, num_sh]
  · split
    · rw [z, want_sh, show (sh A.length (wantM B [116, 105] (a, 0))).1 = A.length + (wantM B [116, 105] (a, 0)).1 from rfl, get_sh]
      split
      · simp only [oneE, z, want_sh, more_sh A B m1 m3 _ a, num_sh]
      · simp only [oneK, z, want_sh, more_sh A B m1 m3 _ a, num_sh]
    · split
      · simp only [oneT, z, want_sh]
      · simp only [oneD, z, want_sh, more_sh A B m2 m4 _ a, num_sh]
theorem one_le {B : List UInt8} {ne nd a : Nat} (h : a ≤ B.length) : (oneM B ne nd a).1.1 ≤ B.length := by
  unfold oneM
  split
  · exact wantM_le (numM_le (wantM_le (numM_le (moreM_le (wantM_le h) h))))
  · split
    · split
      · exact wantM_le (numM_le (wantM_le (numM_le (wantM_le (numM_le (wantM_le (numM_le (moreM_le (wantM_le (wantM_le h)) h))))))))
      · exact wantM_le (numM_le (moreM_le (wantM_le (wantM_le h)) h))
    · split
      · exact wantM_le (wantM_le h)
      · exact wantM_le (numM_le (moreM_le (wantM_le h) h))
/-! All lines -/
theorem par_le {B : List UInt8} : ∀ (n : Nat) (s : Nat × Int) (E : List Ent) (D : List Int), s.1 ≤ B.length → (parseM B n s E D).1.1 ≤ B.length
  | 0, s, E, D, h => h
  | n + 1, s, E, D, h => by
    rw [parseM]
    split
    · exact par_le n _ _ _ (one_le h)
    · exact h
theorem par_fin {B : List UInt8} : ∀ (n : Nat) (s : Nat × Int) (E : List Ent) (D : List Int), (s.2 = 0 → B.length < n + s.1) → ¬ ((parseM B n s E D).1.2 = 0 ∧ (parseM B n s E D).1.1 < B.length)
  | 0, s, E, D, h => by rintro ⟨h1, h2⟩; have := h h1; simp only [parseM] at h2; omega
  | n + 1, s, E, D, h => by
    rw [parseM]
    split
    · rename_i c
      exact par_fin n _ _ _ (fun h0 => by have := h c.1; have := one_lt h0; omega)
    · rename_i c; exact c
theorem par_more {B : List UInt8} (k : Nat) : ∀ (n : Nat) (s : Nat × Int) (E : List Ent) (D : List Int), (s.2 = 0 → B.length < n + s.1) → parseM B (n + k) s E D = parseM B n s E D
  | 0, s, E, D, h => by
    rw [parse_end (n := 0 + k) (by rintro ⟨h1, h2⟩; have := h h1; omega)]; rfl
  | n + 1, s, E, D, h => by
    rw [show n + 1 + k = (n + k) + 1 by omega, parseM, parseM]
    split
    · rename_i c
      exact par_more k n _ _ _ (fun h0 => by have := h c.1; have := one_lt h0; omega)
    · rfl
theorem par_cnt {B : List UInt8} : ∀ (n : Nat) (s : Nat × Int) (E : List Ent) (D : List Int), (s.2 = 0 → E.length + D.length ≤ s.1) → (parseM B n s E D).1.2 = 0 → (parseM B n s E D).2.1.length + (parseM B n s E D).2.2.length ≤ (parseM B n s E D).1.1
  | 0, s, E, D, h, h0 => h h0
  | n + 1, s, E, D, h, h0 => by
    rw [parseM] at h0 ⊢
    split at h0
    · rename_i c
      rw [if_pos c]
      exact par_cnt n _ _ _ (fun hz => by
        have := h c.1; have := one_lt hz; have := one_len (B := B) (ne := E.length) (nd := D.length) (a := s.1)
        simp only [List.length_append]; omega) h0
    · rename_i c; rw [if_neg c]; exact h h0
theorem par_bad {B : List UInt8} {n : Nat} {s : Nat × Int} {E : List Ent} {D : List Int} (h : s.2 ≠ 0) : parseM B n s E D = (s, E, D) := parse_end (fun q => h q.1)
theorem par_pre (B : List UInt8) {A : List UInt8} : ∀ (n : Nat) (s : Nat × Int) (E : List Ent) (D : List Int), (parseM A n s E D).1.2 = 0 →
    ∃ m, ∀ k, parseM (A ++ B) (m + k) s E D = parseM (A ++ B) k (parseM A n s E D).1 (parseM A n s E D).2.1 (parseM A n s E D).2.2
  | 0, s, E, D, h => ⟨0, fun k => by rw [Nat.zero_add]; rfl⟩
  | n + 1, s, E, D, h => by
    rw [parseM] at h ⊢
    split at h
    · rename_i c
      rw [if_pos c]
      have hz : (oneM A E.length D.length s.1).1.2 = 0 := by
        by_cases hz : (oneM A E.length D.length s.1).1.2 = 0
        · exact hz
        · rw [par_bad hz] at h; exact h
      obtain ⟨m, hm⟩ := par_pre B n _ _ _ h
      refine ⟨m + 1, fun k => ?_⟩
      rw [← hm k, show m + 1 + k = (m + k) + 1 by omega, parseM, if_pos ⟨c.1, by simp; omega⟩, one_pre B hz]
    · rename_i c
      rw [if_neg c]
      exact ⟨0, fun k => by rw [Nat.zero_add]⟩
theorem par_sh (A B : List UInt8) (E0 : List Ent) (D0 : List Int) (h0 : E0.length + D0.length ≤ 3000) (hB : B.length ≤ 3000) : ∀ (n : Nat) (s : Nat × Int) (E : List Ent) (D : List Int), s.1 ≤ B.length → (s.2 = 0 → E.length + D.length ≤ s.1) →
    parseM (A ++ B) n (sh A.length s) (E0 ++ E) (D0 ++ D) = (sh A.length (parseM B n s E D).1, E0 ++ (parseM B n s E D).2.1, D0 ++ (parseM B n s E D).2.2)
  | 0, s, E, D, hs, hc => rfl
  | n + 1, s, E, D, hs, hc => by
    rw [parseM, parseM]
    by_cases c : s.2 = 0 ∧ s.1 < B.length
    · have hcc := hc c.1
      have e1 : (E0 ++ E).length < 65536 := by simp; omega
      have e2 : (D0 ++ D).length < 65536 := by simp; omega
      rw [if_pos (show (sh A.length s).2 = 0 ∧ (sh A.length s).1 < (A ++ B).length from ⟨c.1, by simp [sh]; omega⟩), if_pos c]
      have ho := one_sh A B e1 e2 (ne' := E.length) (nd' := D.length) (by omega) (by omega) s.1
      rw [show (sh A.length s).1 = A.length + s.1 from rfl, ho, List.append_assoc, List.append_assoc]
      exact par_sh A B E0 D0 h0 hB n _ _ _ (one_le hs) (fun hz => by
        have := one_lt hz; have := one_len (B := B) (ne := E.length) (nd := D.length) (a := s.1)
        simp only [List.length_append]; omega)
    · rw [if_neg (show ¬ ((sh A.length s).2 = 0 ∧ (sh A.length s).1 < (A ++ B).length) from fun q => c ⟨q.1, by have := q.2; simp [sh] at this; omega⟩), if_neg c]
theorem joins {A B : List UInt8} (hA : A.length ≤ 3000) (hB : B.length ≤ 3000) (h : (parseR A).e = 0) :
    (parseR (A ++ B)).e = (parseR B).e ∧ ((parseR B).e ≠ 0 → (parseR (A ++ B)).at_ = A.length + (parseR B).at_) ∧
    ((parseR B).e = 0 → (parseR (A ++ B)).at_ = A.length + B.length ∧ (parseR (A ++ B)).E = (parseR A).E ++ (parseR B).E ∧ (parseR (A ++ B)).D = (parseR A).D ++ (parseR B).D) := by
  have rA : parseR A = (let z := parseM A (A.length + 1) (0, 0) [] []; if z.1.2 = 0 then ⟨z.2.1, z.2.2, 0, A.length⟩ else ⟨[], [], z.1.2, z.1.1⟩) := by unfold parseR; rw [if_neg (by omega)]
  have rB : parseR B = (let z := parseM B (B.length + 1) (0, 0) [] []; if z.1.2 = 0 then ⟨z.2.1, z.2.2, 0, B.length⟩ else ⟨[], [], z.1.2, z.1.1⟩) := by unfold parseR; rw [if_neg (by omega)]
  have rC : parseR (A ++ B) = (let z := parseM (A ++ B) ((A ++ B).length + 1) (0, 0) [] []; if z.1.2 = 0 then ⟨z.2.1, z.2.2, 0, (A ++ B).length⟩ else ⟨[], [], z.1.2, z.1.1⟩) := by unfold parseR; rw [if_neg (by simp; omega)]
  have zA : (parseM A (A.length + 1) (0, 0) [] []).1.2 = 0 := by
    rw [rA] at h
    simp only at h
    by_cases hz : (parseM A (A.length + 1) (0, 0) [] []).1.2 = 0
    · exact hz
    · rw [if_neg hz] at h; exact h
  have fA := par_fin (B := A) (A.length + 1) (0, 0) [] [] (fun _ => by simp)
  have lA := par_le (B := A) (A.length + 1) (0, 0) [] [] (Nat.zero_le _)
  have aA : (parseM A (A.length + 1) (0, 0) [] []).1 = sh A.length (0, 0) := by
    have : (parseM A (A.length + 1) (0, 0) [] []).1.1 = A.length := by
      rcases Nat.lt_or_ge (parseM A (A.length + 1) (0, 0) [] []).1.1 A.length with q | q
      · exact absurd ⟨zA, q⟩ fA
      · omega
    exact Prod.ext this zA
  have cA := par_cnt (B := A) (A.length + 1) (0, 0) [] [] (fun _ => by simp) zA
  obtain ⟨m, hm⟩ := par_pre B (A.length + 1) (0, 0) [] [] zA
  have hC1 := par_more (B := A ++ B) (m + (B.length + 1)) ((A ++ B).length + 1) (0, 0) [] [] (fun _ => by simp)
  have hC2 := hm ((B.length + 1) + ((A ++ B).length + 1))
  rw [show m + ((B.length + 1) + ((A ++ B).length + 1)) = (A ++ B).length + 1 + (m + (B.length + 1)) by omega, hC1, aA] at hC2
  have hS := par_sh A B (parseM A (A.length + 1) (0, 0) [] []).2.1 (parseM A (A.length + 1) (0, 0) [] []).2.2 (by omega) hB ((B.length + 1) + ((A ++ B).length + 1)) (0, 0) [] [] (Nat.zero_le _) (fun _ => by simp)
  rw [List.append_nil, List.append_nil, par_more (B := B) ((A ++ B).length + 1) (B.length + 1) (0, 0) [] [] (fun _ => by simp)] at hS
  rw [hS] at hC2
  rw [rA, rB, rC, hC2]
  simp only [zA, if_true]
  have e2 : (sh A.length (parseM B (B.length + 1) (0, 0) [] []).1).2 = (parseM B (B.length + 1) (0, 0) [] []).1.2 := rfl
  rw [e2]
  by_cases hz : (parseM B (B.length + 1) (0, 0) [] []).1.2 = 0
  · rw [if_pos hz, if_pos hz]
    exact ⟨rfl, fun q => absurd rfl q, fun _ => ⟨by simp, rfl, rfl⟩⟩
  · rw [if_neg hz, if_neg hz]
    exact ⟨rfl, fun _ => rfl, fun q => absurd q hz⟩
end Go.Proofs.Yteenpfdpokekgaa

/- Two texts, one behind the other: the law. -/
namespace Go.Proofs.Yteenpfdpokekgaa
open Go Go.Abs Go.Proofs
set_option maxRecDepth 100000
set_option maxHeartbeats 16000000
set_option linter.unusedVariables false
set_option linter.unusedSimpArgs false
def Cp (sz : Nat) (H : Hp) (n0 : Nat) (y : V) (l : List V) : Prop :=
  (y = .emp ∧ l = []) ∨ ∃ id, y = .sl id 0 l.length ∧ n0 ≤ id ∧ H[id]? = some (.cells l) ∧ l ≠ [] ∧ wideAll l sz = true
theorem app1 {e : TypeId} {sz : Nat} (hsz : sizeT Try.prog e = sz) (hel : ∀ n, n ≤ 100000 → elemOk Try.prog e n = true) {es : List V} (hw : wideAll es sz = true) (hl : es.length ≤ 100000) (H : Hp) :
    ∃ y ex, (∀ st d, appendOp Try.prog .imm st H d e .emp es = some (putS st d (.v y), H ++ ex)) ∧ Cp sz (H ++ ex) H.length y es := by
  subst hsz
  cases es with
  | nil => exact ⟨.emp, [], fun st d => by simp [appendOp, wideAll], .inl ⟨rfl, rfl⟩⟩
  | cons a l =>
    refine ⟨.sl H.length 0 (a :: l).length, [.cells (a :: l)], fun st d => ?_, .inr ⟨H.length, rfl, Nat.le_refl _, get_last _ _, by simp, hw⟩⟩
    have h := hel (a :: l).length hl
    simp only [List.length_cons] at h
    simp [appendOp, hw, newSl, h]
def Zp (H : Hp) (z : V) (l : List V) : Prop := (z = .rsl [] ∧ l = []) ∨ ∃ id, z = .sl id 0 l.length ∧ H[id]? = some (.cells l)
theorem Zp.sx {H : Hp} {z : V} {l : List V} (h : Zp H z l) : Sx H z l := by
  rcases h with ⟨rfl, rfl⟩ | ⟨id, rfl, h⟩
  · exact .rsl []
  · exact Sx.whole h
theorem app2 {e : TypeId} {sz : Nat} (hsz : sizeT Try.prog e = sz) (hel : ∀ n, n ≤ 100000 → elemOk Try.prog e n = true) {H : Hp} {n0 : Nat} {y : V} {l xs : List V} (h : Cp sz H n0 y l) (hw : wideAll xs sz = true) (hl : l.length + xs.length ≤ 100000) (hn : n0 ≤ H.length) (d : Option Nat) :
    ∃ z H2, (∀ st, appendOp Try.prog .heap st H d e y xs = some (putS st d (.v z), H2)) ∧ Zp H2 z (l ++ xs) ∧ (∀ i, i < n0 → H2[i]? = H[i]?) ∧ H.length ≤ H2.length := by
  subst hsz
  rcases h with ⟨rfl, rfl⟩ | ⟨id, rfl, hid, hc, hne, hwl⟩
  · cases xs with
    | nil => exact ⟨.rsl [], H, fun st => by simp [appendOp, wideAll], .inl ⟨rfl, rfl⟩, fun _ _ => rfl, Nat.le_refl _⟩
    | cons a l =>
      refine ⟨.sl H.length 0 (a :: l).length, H ++ [.cells (a :: l)], fun st => ?_, .inr ⟨H.length, rfl, get_last _ _⟩, fun i hi => List.getElem?_append_left (by omega), by simp⟩
      have h := hel (a :: l).length (by simpa using hl)
      simp only [List.length_cons] at h
      simp [appendOp, hw, newSl, h]
  · have hil := (List.getElem?_eq_some_iff.1 hc).1
    have hemp : l.isEmpty = false := by cases l <;> simp_all
    cases xs with
    | nil =>
      refine ⟨.sl id 0 l.length, H.set id (.cells l), fun st => ?_, .inr ⟨id, by simp, by rw [List.getElem?_set_self hil]; simp⟩, fun i hi => by rw [List.getElem?_set_ne (by omega)], by simp⟩
      simp [appendOp, wideAll, hc, appendSl, hemp, overlay]
      intro x hx
      have := hwl
      unfold wideAll at this
      rw [List.all_eq_true] at this
      simpa using this x hx
    | cons a r =>
      refine ⟨.sl H.length 0 (l.length + (a :: r).length), H.set id .dead ++ [.cells (l ++ a :: r)], fun st => ?_, .inr ⟨H.length, by simp, ?_⟩, fun i hi => ?_, by simp⟩
      · have h := hel (l.length + (a :: r).length) hl
        simp only [List.length_cons] at h
        simp [appendOp, hw, hc, appendSl, hwl, hemp, h]
        intro q; omega
      · rw [List.getElem?_append_right (by simp)]; simp
      · rw [List.getElem?_append_left (by simp; omega), List.getElem?_set_ne (by omega)]
theorem el5 : ∀ n, n ≤ 100000 → elemOk Try.prog 5 n = true := fun n hn => by rw [room5]; simp; omega
theorem el40 : ∀ n, n ≤ 100000 → elemOk Try.prog 40 n = true := fun n hn => by rw [room40]; simp; omega
theorem el3 : ∀ n, n ≤ 100000 → elemOk Try.prog 3 n = true := fun n hn => by rw [room3]; simp; omega
theorem at_le (B : List UInt8) : (parseR B).at_ ≤ B.length := by
  unfold parseR
  split
  · exact Nat.zero_le _
  · simp only
    split
    · exact Nat.le_refl _
    · exact par_le _ _ _ _ (Nat.zero_le _)
theorem cnt_le (B : List UInt8) : (parseR B).E.length + (parseR B).D.length ≤ B.length := by
  unfold parseR
  split
  · exact Nat.zero_le _
  · simp only
    split
    · rename_i h
      have := par_cnt (B := B) (B.length + 1) (0, 0) [] [] (fun _ => by simp) h
      have := par_le (B := B) (B.length + 1) (0, 0) [] [] (Nat.zero_le _)
      simp only; omega
    · simp
theorem cntP_app (E E' : List Ent) : cntP (E ++ E') = cntP E + cntP E' := by simp [cntP]
theorem by8_app (A B : List UInt8) : by8 A ++ by8 B = by8 (A ++ B) := by simp [by8]
theorem joins_eq {x y : V} {A B : List UInt8} (hx : ∀ H, Sx H x (by8 A)) (hy : ∀ H, Sx H y (by8 B)) (wx : ∀ H, Wd H x) (wy : ∀ H, Wd H y) (H : Hp) :
    wpCall EW 3 [x, y] H (fun out H' => out = .ret (.bool true) false) := by
  have hxr := (hx H).rd
  have hyr := (hy H).rd
  have hshx : ∀ st, sealV st x = x := fun st => hxr.shutIn st
  have hshy : ∀ st, sealV st y = y := fun st => hyr.shutIn st
  have hlx : ∀ Hx e, lenK Hx (TK.slice e) x = some (.int .i64 A.length) := fun Hx e => by rw [(hx Hx).rd.len, by8_len]
  have hly : ∀ Hx e, lenK Hx (TK.slice e) y = some (.int .i64 B.length) := fun Hx e => by rw [(hy Hx).rd.len, by8_len]
  by_cases hA : 3000 < A.length
  · have g1 : decide ((3000 : Int) < (A.length : Int)) = true := decide_eq_true (by omega)
    refine runs f3 b3 r3 n3 _ _ ?_
    simp only [bodyOf, Try.f3, Option.getD_some]
    simp only [WW, partV, eqCells, eqLf, minV, maxV, ifcV, zaa, zab, zac, zad, zae, zaf, zag, zah, zai, ofConst, ofConst1, List.replicate, zaj, zak, loadOp, Go.Abs.loadCells, binV, zal, pickV, zam, zan, zao, zap, zaq, zar, zas, zat, zau, outR, resAll, resOne, zav, zaw, zax, zay, zaz, zba, zbb, zbc, zbd, zbe, zbf, zbg, zbh, zbi, zbj, zbk, storeOp, storeCell, overlay, zbl, zbm, zbn, lookupOp, keyT, okRes, mapUpdateOp, zbo, zbp, zbq, zbr, zbs, zbt, zbu, Nat.reduceSub, Nat.reduceAdd, Int.reduceLT, Int.reduceLE, Int.reduceAdd, Int.reduceSub, Int.reduceToNat, Int.reduceBEq, Int.reduceBNe, Int.reduceMul, Nat.reduceBEq, Nat.reduceBNe, Nat.reduceLT, Nat.reduceLeDiff, Nat.reduceMul, Nat.reduceEqDiff, WD, effB, effH, isPriv, isHeap, isImm, zbx, zby, zbz, chkO, setD, dslot, zca, zcb, zcc, zcd, ptrCells_some, F3, hshx, hlx, g1]
    rw [wpCall_eq (live_eq _)]
    simp only [WW, partV, eqCells, eqLf, minV, maxV, ifcV, zaa, zab, zac, zad, zae, zaf, zag, zah, zai, ofConst, ofConst1, List.replicate, zaj, zak, loadOp, Go.Abs.loadCells, binV, zal, pickV, zam, zan, zao, zap, zaq, zar, zas, zat, zau, outR, resAll, resOne, zav, zaw, zax, zay, zaz, zba, zbb, zbc, zbd, zbe, zbf, zbg, zbh, zbi, zbj, zbk, storeOp, storeCell, overlay, zbl, zbm, zbn, lookupOp, keyT, okRes, mapUpdateOp, zbo, zbp, zbq, zbr, zbs, zbt, zbu, Nat.reduceSub, Nat.reduceAdd, Int.reduceLT, Int.reduceLE, Int.reduceAdd, Int.reduceSub, Int.reduceToNat, Int.reduceBEq, Int.reduceBNe, Int.reduceMul, Nat.reduceBEq, Nat.reduceBNe, Nat.reduceLT, Nat.reduceLeDiff, Nat.reduceMul, Nat.reduceEqDiff, WD, effB, effH, isPriv, isHeap, isImm, zbx, zby, zbz, chkO, setD, dslot, zca, zcb, zcc, zcd, ptrCells_some, F3]
  have g1 : decide ((3000 : Int) < (A.length : Int)) = false := decide_eq_false (by omega)
  by_cases hB : 3000 < B.length
  · have g2 : decide ((3000 : Int) < (B.length : Int)) = true := decide_eq_true (by omega)
    refine runs f3 b3 r3 n3 _ _ ?_
    simp only [bodyOf, Try.f3, Option.getD_some]
    simp only [WW, partV, eqCells, eqLf, minV, maxV, ifcV, zaa, zab, zac, zad, zae, zaf, zag, zah, zai, ofConst, ofConst1, List.replicate, zaj, zak, loadOp, Go.Abs.loadCells, binV, zal, pickV, zam, zan, zao, zap, zaq, zar, zas, zat, zau, outR, resAll, resOne, zav, zaw, zax, zay, zaz, zba, zbb, zbc, zbd, zbe, zbf, zbg, zbh, zbi, zbj, zbk, storeOp, storeCell, overlay, zbl, zbm, zbn, lookupOp, keyT, okRes, mapUpdateOp, zbo, zbp, zbq, zbr, zbs, zbt, zbu, Nat.reduceSub, Nat.reduceAdd, Int.reduceLT, Int.reduceLE, Int.reduceAdd, Int.reduceSub, Int.reduceToNat, Int.reduceBEq, Int.reduceBNe, Int.reduceMul, Nat.reduceBEq, Nat.reduceBNe, Nat.reduceLT, Nat.reduceLeDiff, Nat.reduceMul, Nat.reduceEqDiff, WD, effB, effH, isPriv, isHeap, isImm, zbx, zby, zbz, chkO, setD, dslot, zca, zcb, zcc, zcd, ptrCells_some, F3, hshx, hlx, g1, hshy, hly, g2]
    rw [wpCall_eq (live_eq _)]
    simp only [WW, partV, eqCells, eqLf, minV, maxV, ifcV, zaa, zab, zac, zad, zae, zaf, zag, zah, zai, ofConst, ofConst1, List.replicate, zaj, zak, loadOp, Go.Abs.loadCells, binV, zal, pickV, zam, zan, zao, zap, zaq, zar, zas, zat, zau, outR, resAll, resOne, zav, zaw, zax, zay, zaz, zba, zbb, zbc, zbd, zbe, zbf, zbg, zbh, zbi, zbj, zbk, storeOp, storeCell, overlay, zbl, zbm, zbn, lookupOp, keyT, okRes, mapUpdateOp, zbo, zbp, zbq, zbr, zbs, zbt, zbu, Nat.reduceSub, Nat.reduceAdd, Int.reduceLT, Int.reduceLE, Int.reduceAdd, Int.reduceSub, Int.reduceToNat, Int.reduceBEq, Int.reduceBNe, Int.reduceMul, Nat.reduceBEq, Nat.reduceBNe, Nat.reduceLT, Nat.reduceLeDiff, Nat.reduceMul, Nat.reduceEqDiff, WD, effB, effH, isPriv, isHeap, isImm, zbx, zby, zbz, chkO, setD, dslot, zca, zcb, zcc, zcd, ptrCells_some, F3]
  have g2 : decide ((3000 : Int) < (B.length : Int)) = false := decide_eq_false (by omega)
  -- the three calls
  obtain ⟨o1, H1, c1, se, sd, rfl, S1⟩ := wpCall_run (parse_spec (hx H) (wx H) (by omega))
  obtain ⟨o2, H2, c2, te, td, rfl, S2⟩ := wpCall_run (parse_spec (hy H1) (wy H1) (by omega))
  obtain ⟨y1, ex3, a3, C3⟩ := app1 (e := 5) (sz := 1) (by kernel_rfl) el5 (wide8 A) (by rw [by8_len]; omega) H2
  obtain ⟨z, H4, a4, Z4, f4_, g4⟩ := app2 (e := 5) (sz := 1) (by kernel_rfl) el5 C3 (wide8 B) (by rw [by8_len, by8_len]; omega) (by simp) (some 41)
  rw [by8_app] at Z4
  have wz : Wd H4 z := by
    intro id lo len es e1 e2
    rcases Z4 with ⟨rfl, _⟩ | ⟨id', rfl, h⟩
    · cases e1
    · cases e1; rw [h] at e2; cases e2; exact wide8 _
  have hzs := Z4.sx
  obtain ⟨o5, H5, c5, ue, ud, rfl, S5⟩ := wpCall_run (parse_spec (B := A ++ B) hzs wz (by simp; omega))
  have J := joins (A := A) (B := B) (by omega) (by omega)
  have atB := at_le B
  have cA := cnt_le A
  have cB := cnt_le B
  have fr2 : ∀ i, i < H1.length → H2[i]? = H1[i]? := S2.fr
  have fr5 : ∀ i, i < H2.length → H5[i]? = H2[i]? := fun i hi => by
    rw [S5.fr i (by simp at g4; omega), f4_ i hi, List.getElem?_append_left hi]
  have gl2 := S2.ge
  have fr15 : ∀ i, i < H1.length → H5[i]? = H1[i]? := fun i hi => by rw [fr5 i (by omega), fr2 i hi]
  have wse := slw_ext S1.se fr15
  have wsd := slw_ext S1.sd fr15
  have wte := slw_ext S2.se fr5
  have wtd := slw_ext S2.sd fr5
  have wue := S5.se
  have wud := S5.sd
  have hsxA : ∀ Hx, Abs.srcSl Hx x = some (by8 A) := fun Hx => (hx Hx).rd.srcSl
  have hsxB : ∀ Hx, Abs.srcSl Hx y = some (by8 B) := fun Hx => (hy Hx).rd.srcSl
  generalize hRA : parseR A = RA at *
  generalize hRB : parseR B = RB at *
  generalize hRC : parseR (A ++ B) = RC at *
  obtain ⟨EA, DA, eA, tA⟩ := RA
  obtain ⟨EB, DB, eB, tB⟩ := RB
  obtain ⟨EC, DC, eC, tC⟩ := RC
  simp only at *
  by_cases heA : eA = 0
  case neg =>
    have q1 : (eA != 0) = true := by simpa using heA
    refine runs f3 b3 r3 n3 _ _ ?_
    simp only [bodyOf, Try.f3, Option.getD_some]
    simp only [WW, partV, eqCells, eqLf, minV, maxV, ifcV, zaa, zab, zac, zad, zae, zaf, zag, zah, zai, ofConst, ofConst1, List.replicate, zaj, zak, loadOp, Go.Abs.loadCells, binV, zal, pickV, zam, zan, zao, zap, zaq, zar, zas, zat, zau, outR, resAll, resOne, zav, zaw, zax, zay, zaz, zba, zbb, zbc, zbd, zbe, zbf, zbg, zbh, zbi, zbj, zbk, storeOp, storeCell, overlay, zbl, zbm, zbn, lookupOp, keyT, okRes, mapUpdateOp, zbo, zbp, zbq, zbr, zbs, zbt, zbu, Nat.reduceSub, Nat.reduceAdd, Int.reduceLT, Int.reduceLE, Int.reduceAdd, Int.reduceSub, Int.reduceToNat, Int.reduceBEq, Int.reduceBNe, Int.reduceMul, Nat.reduceBEq, Nat.reduceBNe, Nat.reduceLT, Nat.reduceLeDiff, Nat.reduceMul, Nat.reduceEqDiff, WD, effB, effH, isPriv, isHeap, isImm, zbx, zby, zbz, chkO, setD, dslot, zca, zcb, zcc, zcd, ptrCells_some, F3, hshx, hlx, g1, hshy, hly, g2]
    rw [wpCall_eq c1]
    simp only [WW, partV, eqCells, eqLf, minV, maxV, ifcV, zaa, zab, zac, zad, zae, zaf, zag, zah, zai, ofConst, ofConst1, List.replicate, zaj, zak, loadOp, Go.Abs.loadCells, binV, zal, pickV, zam, zan, zao, zap, zaq, zar, zas, zat, zau, outR, resAll, resOne, zav, zaw, zax, zay, zaz, zba, zbb, zbc, zbd, zbe, zbf, zbg, zbh, zbi, zbj, zbk, storeOp, storeCell, overlay, zbl, zbm, zbn, lookupOp, keyT, okRes, mapUpdateOp, zbo, zbp, zbq, zbr, zbs, zbt, zbu, Nat.reduceSub, Nat.reduceAdd, Int.reduceLT, Int.reduceLE, Int.reduceAdd, Int.reduceSub, Int.reduceToNat, Int.reduceBEq, Int.reduceBNe, Int.reduceMul, Nat.reduceBEq, Nat.reduceBNe, Nat.reduceLT, Nat.reduceLeDiff, Nat.reduceMul, Nat.reduceEqDiff, WD, effB, effH, isPriv, isHeap, isImm, zbx, zby, zbz, chkO, setD, dslot, zca, zcb, zcc, zcd, ptrCells_some, F3, S1.se.shut, S1.sd.shut, S1.se.ok, S1.sd.ok, S1.se.cells1, S1.sd.cells1, hshy]
    rw [wpCall_eq c2]
    simp only [WW, partV, eqCells, eqLf, minV, maxV, ifcV, zaa, zab, zac, zad, zae, zaf, zag, zah, zai, ofConst, ofConst1, List.replicate, zaj, zak, loadOp, Go.Abs.loadCells, binV, zal, pickV, zam, zan, zao, zap, zaq, zar, zas, zat, zau, outR, resAll, resOne, zav, zaw, zax, zay, zaz, zba, zbb, zbc, zbd, zbe, zbf, zbg, zbh, zbi, zbj, zbk, storeOp, storeCell, overlay, zbl, zbm, zbn, lookupOp, keyT, okRes, mapUpdateOp, zbo, zbp, zbq, zbr, zbs, zbt, zbu, Nat.reduceSub, Nat.reduceAdd, Int.reduceLT, Int.reduceLE, Int.reduceAdd, Int.reduceSub, Int.reduceToNat, Int.reduceBEq, Int.reduceBNe, Int.reduceMul, Nat.reduceBEq, Nat.reduceBNe, Nat.reduceLT, Nat.reduceLeDiff, Nat.reduceMul, Nat.reduceEqDiff, WD, effB, effH, isPriv, isHeap, isImm, zbx, zby, zbz, chkO, setD, dslot, zca, zcb, zcc, zcd, ptrCells_some, F3, S2.se.shut, S2.sd.shut, S2.se.ok, S2.sd.ok, S2.se.cells1, S2.sd.cells1, buildSliceV, lits, srcV_eq, srcK_sl, srcK_str, srcSl_nils, srcSl_rsl, srcSl_sl, frow, zbv, zbw, List.all_nil, List.all_cons, rowV, Bool.false_and, Bool.and_false, ne_eq, not_false_eq_true, grows_lr, callOut_t, hshx, hshy, hsxA, hsxB, a3, a4, hzs.rd.shutIn]
    rw [wpCall_eq c5]
    simp only [WW, partV, eqCells, eqLf, minV, maxV, ifcV, zaa, zab, zac, zad, zae, zaf, zag, zah, zai, ofConst, ofConst1, List.replicate, zaj, zak, loadOp, Go.Abs.loadCells, binV, zal, pickV, zam, zan, zao, zap, zaq, zar, zas, zat, zau, outR, resAll, resOne, zav, zaw, zax, zay, zaz, zba, zbb, zbc, zbd, zbe, zbf, zbg, zbh, zbi, zbj, zbk, storeOp, storeCell, overlay, zbl, zbm, zbn, lookupOp, keyT, okRes, mapUpdateOp, zbo, zbp, zbq, zbr, zbs, zbt, zbu, Nat.reduceSub, Nat.reduceAdd, Int.reduceLT, Int.reduceLE, Int.reduceAdd, Int.reduceSub, Int.reduceToNat, Int.reduceBEq, Int.reduceBNe, Int.reduceMul, Nat.reduceBEq, Nat.reduceBNe, Nat.reduceLT, Nat.reduceLeDiff, Nat.reduceMul, Nat.reduceEqDiff, WD, effB, effH, isPriv, isHeap, isImm, zbx, zby, zbz, chkO, setD, dslot, zca, zcb, zcc, zcd, ptrCells_some, F3, S5.se.shut, S5.sd.shut, S5.se.ok, S5.sd.ok, S5.se.cells1, S5.sd.cells1]
    rw [wpCall_eq (num_eq _ _)]
    simp only [WW, partV, eqCells, eqLf, minV, maxV, ifcV, zaa, zab, zac, zad, zae, zaf, zag, zah, zai, ofConst, ofConst1, List.replicate, zaj, zak, loadOp, Go.Abs.loadCells, binV, zal, pickV, zam, zan, zao, zap, zaq, zar, zas, zat, zau, outR, resAll, resOne, zav, zaw, zax, zay, zaz, zba, zbb, zbc, zbd, zbe, zbf, zbg, zbh, zbi, zbj, zbk, storeOp, storeCell, overlay, zbl, zbm, zbn, lookupOp, keyT, okRes, mapUpdateOp, zbo, zbp, zbq, zbr, zbs, zbt, zbu, Nat.reduceSub, Nat.reduceAdd, Int.reduceLT, Int.reduceLE, Int.reduceAdd, Int.reduceSub, Int.reduceToNat, Int.reduceBEq, Int.reduceBNe, Int.reduceMul, Nat.reduceBEq, Nat.reduceBNe, Nat.reduceLT, Nat.reduceLeDiff, Nat.reduceMul, Nat.reduceEqDiff, WD, effB, effH, isPriv, isHeap, isImm, zbx, zby, zbz, chkO, setD, dslot, zca, zcb, zcc, zcd, ptrCells_some, F3, q1]
    rw [wpCall_eq (live_eq _)]
    simp only [WW, partV, eqCells, eqLf, minV, maxV, ifcV, zaa, zab, zac, zad, zae, zaf, zag, zah, zai, ofConst, ofConst1, List.replicate, zaj, zak, loadOp, Go.Abs.loadCells, binV, zal, pickV, zam, zan, zao, zap, zaq, zar, zas, zat, zau, outR, resAll, resOne, zav, zaw, zax, zay, zaz, zba, zbb, zbc, zbd, zbe, zbf, zbg, zbh, zbi, zbj, zbk, storeOp, storeCell, overlay, zbl, zbm, zbn, lookupOp, keyT, okRes, mapUpdateOp, zbo, zbp, zbq, zbr, zbs, zbt, zbu, Nat.reduceSub, Nat.reduceAdd, Int.reduceLT, Int.reduceLE, Int.reduceAdd, Int.reduceSub, Int.reduceToNat, Int.reduceBEq, Int.reduceBNe, Int.reduceMul, Nat.reduceBEq, Nat.reduceBNe, Nat.reduceLT, Nat.reduceLeDiff, Nat.reduceMul, Nat.reduceEqDiff, WD, effB, effH, isPriv, isHeap, isImm, zbx, zby, zbz, chkO, setD, dslot, zca, zcb, zcc, zcd, ptrCells_some, F3]
  subst heA
  obtain ⟨J1, J2, J3⟩ := J rfl
  by_cases heB : eB = 0
  case neg =>
    have q1 : (eB != 0) = true := by simpa using heB
    have q2 : tC = A.length + tB := J2 heB
    have q3 : (eC == eB) = true := by simp [J1]
    have q4 : IntKind.i64.wrap ((tB : Int) + (A.length : Int)) = (tC : Int) := by rw [IntWalk.i64_in _ (by omega)]; omega
    have q5 : ((tC : Int) == (tC : Int)) = true := by simp
    refine runs f3 b3 r3 n3 _ _ ?_
    simp only [bodyOf, Try.f3, Option.getD_some]
    simp only [WW, partV, eqCells, eqLf, minV, maxV, ifcV, zaa, zab, zac, zad, zae, zaf, zag, zah, zai, ofConst, ofConst1, List.replicate, zaj, zak, loadOp, Go.Abs.loadCells, binV, zal, pickV, zam, zan, zao, zap, zaq, zar, zas, zat, zau, outR, resAll, resOne, zav, zaw, zax, zay, zaz, zba, zbb, zbc, zbd, zbe, zbf, zbg, zbh, zbi, zbj, zbk, storeOp, storeCell, overlay, zbl, zbm, zbn, lookupOp, keyT, okRes, mapUpdateOp, zbo, zbp, zbq, zbr, zbs, zbt, zbu, Nat.reduceSub, Nat.reduceAdd, Int.reduceLT, Int.reduceLE, Int.reduceAdd, Int.reduceSub, Int.reduceToNat, Int.reduceBEq, Int.reduceBNe, Int.reduceMul, Nat.reduceBEq, Nat.reduceBNe, Nat.reduceLT, Nat.reduceLeDiff, Nat.reduceMul, Nat.reduceEqDiff, WD, effB, effH, isPriv, isHeap, isImm, zbx, zby, zbz, chkO, setD, dslot, zca, zcb, zcc, zcd, ptrCells_some, F3, hshx, hlx, g1, hshy, hly, g2]
    rw [wpCall_eq c1]
    simp only [WW, partV, eqCells, eqLf, minV, maxV, ifcV, zaa, zab, zac, zad, zae, zaf, zag, zah, zai, ofConst, ofConst1, List.replicate, zaj, zak, loadOp, Go.Abs.loadCells, binV, zal, pickV, zam, zan, zao, zap, zaq, zar, zas, zat, zau, outR, resAll, resOne, zav, zaw, zax, zay, zaz, zba, zbb, zbc, zbd, zbe, zbf, zbg, zbh, zbi, zbj, zbk, storeOp, storeCell, overlay, zbl, zbm, zbn, lookupOp, keyT, okRes, mapUpdateOp, zbo, zbp, zbq, zbr, zbs, zbt, zbu, Nat.reduceSub, Nat.reduceAdd, Int.reduceLT, Int.reduceLE, Int.reduceAdd, Int.reduceSub, Int.reduceToNat, Int.reduceBEq, Int.reduceBNe, Int.reduceMul, Nat.reduceBEq, Nat.reduceBNe, Nat.reduceLT, Nat.reduceLeDiff, Nat.reduceMul, Nat.reduceEqDiff, WD, effB, effH, isPriv, isHeap, isImm, zbx, zby, zbz, chkO, setD, dslot, zca, zcb, zcc, zcd, ptrCells_some, F3, S1.se.shut, S1.sd.shut, S1.se.ok, S1.sd.ok, S1.se.cells1, S1.sd.cells1, hshy]
    rw [wpCall_eq c2]
    simp only [WW, partV, eqCells, eqLf, minV, maxV, ifcV, zaa, zab, zac, zad, zae, zaf, zag, zah, zai, ofConst, ofConst1, List.replicate, zaj, zak, loadOp, Go.Abs.loadCells, binV, zal, pickV, zam, zan, zao, zap, zaq, zar, zas, zat, zau, outR, resAll, resOne, zav, zaw, zax, zay, zaz, zba, zbb, zbc, zbd, zbe, zbf, zbg, zbh, zbi, zbj, zbk, storeOp, storeCell, overlay, zbl, zbm, zbn, lookupOp, keyT, okRes, mapUpdateOp, zbo, zbp, zbq, zbr, zbs, zbt, zbu, Nat.reduceSub, Nat.reduceAdd, Int.reduceLT, Int.reduceLE, Int.reduceAdd, Int.reduceSub, Int.reduceToNat, Int.reduceBEq, Int.reduceBNe, Int.reduceMul, Nat.reduceBEq, Nat.reduceBNe, Nat.reduceLT, Nat.reduceLeDiff, Nat.reduceMul, Nat.reduceEqDiff, WD, effB, effH, isPriv, isHeap, isImm, zbx, zby, zbz, chkO, setD, dslot, zca, zcb, zcc, zcd, ptrCells_some, F3, S2.se.shut, S2.sd.shut, S2.se.ok, S2.sd.ok, S2.se.cells1, S2.sd.cells1, buildSliceV, lits, srcV_eq, srcK_sl, srcK_str, srcSl_nils, srcSl_rsl, srcSl_sl, frow, zbv, zbw, List.all_nil, List.all_cons, rowV, Bool.false_and, Bool.and_false, ne_eq, not_false_eq_true, grows_lr, callOut_t, hshx, hshy, hsxA, hsxB, a3, a4, hzs.rd.shutIn]
    rw [wpCall_eq c5]
    simp only [WW, partV, eqCells, eqLf, minV, maxV, ifcV, zaa, zab, zac, zad, zae, zaf, zag, zah, zai, ofConst, ofConst1, List.replicate, zaj, zak, loadOp, Go.Abs.loadCells, binV, zal, pickV, zam, zan, zao, zap, zaq, zar, zas, zat, zau, outR, resAll, resOne, zav, zaw, zax, zay, zaz, zba, zbb, zbc, zbd, zbe, zbf, zbg, zbh, zbi, zbj, zbk, storeOp, storeCell, overlay, zbl, zbm, zbn, lookupOp, keyT, okRes, mapUpdateOp, zbo, zbp, zbq, zbr, zbs, zbt, zbu, Nat.reduceSub, Nat.reduceAdd, Int.reduceLT, Int.reduceLE, Int.reduceAdd, Int.reduceSub, Int.reduceToNat, Int.reduceBEq, Int.reduceBNe, Int.reduceMul, Nat.reduceBEq, Nat.reduceBNe, Nat.reduceLT, Nat.reduceLeDiff, Nat.reduceMul, Nat.reduceEqDiff, WD, effB, effH, isPriv, isHeap, isImm, zbx, zby, zbz, chkO, setD, dslot, zca, zcb, zcc, zcd, ptrCells_some, F3, S5.se.shut, S5.sd.shut, S5.se.ok, S5.sd.ok, S5.se.cells1, S5.sd.cells1]
    rw [wpCall_eq (num_eq _ _)]
    simp only [WW, partV, eqCells, eqLf, minV, maxV, ifcV, zaa, zab, zac, zad, zae, zaf, zag, zah, zai, ofConst, ofConst1, List.replicate, zaj, zak, loadOp, Go.Abs.loadCells, binV, zal, pickV, zam, zan, zao, zap, zaq, zar, zas, zat, zau, outR, resAll, resOne, zav, zaw, zax, zay, zaz, zba, zbb, zbc, zbd, zbe, zbf, zbg, zbh, zbi, zbj, zbk, storeOp, storeCell, overlay, zbl, zbm, zbn, lookupOp, keyT, okRes, mapUpdateOp, zbo, zbp, zbq, zbr, zbs, zbt, zbu, Nat.reduceSub, Nat.reduceAdd, Int.reduceLT, Int.reduceLE, Int.reduceAdd, Int.reduceSub, Int.reduceToNat, Int.reduceBEq, Int.reduceBNe, Int.reduceMul, Nat.reduceBEq, Nat.reduceBNe, Nat.reduceLT, Nat.reduceLeDiff, Nat.reduceMul, Nat.reduceEqDiff, WD, effB, effH, isPriv, isHeap, isImm, zbx, zby, zbz, chkO, setD, dslot, zca, zcb, zcc, zcd, ptrCells_some, F3]
    rw [wpCall_eq (num_eq _ _)]
    simp only [WW, partV, eqCells, eqLf, minV, maxV, ifcV, zaa, zab, zac, zad, zae, zaf, zag, zah, zai, ofConst, ofConst1, List.replicate, zaj, zak, loadOp, Go.Abs.loadCells, binV, zal, pickV, zam, zan, zao, zap, zaq, zar, zas, zat, zau, outR, resAll, resOne, zav, zaw, zax, zay, zaz, zba, zbb, zbc, zbd, zbe, zbf, zbg, zbh, zbi, zbj, zbk, storeOp, storeCell, overlay, zbl, zbm, zbn, lookupOp, keyT, okRes, mapUpdateOp, zbo, zbp, zbq, zbr, zbs, zbt, zbu, Nat.reduceSub, Nat.reduceAdd, Int.reduceLT, Int.reduceLE, Int.reduceAdd, Int.reduceSub, Int.reduceToNat, Int.reduceBEq, Int.reduceBNe, Int.reduceMul, Nat.reduceBEq, Nat.reduceBNe, Nat.reduceLT, Nat.reduceLeDiff, Nat.reduceMul, Nat.reduceEqDiff, WD, effB, effH, isPriv, isHeap, isImm, zbx, zby, zbz, chkO, setD, dslot, zca, zcb, zcc, zcd, ptrCells_some, F3, q1]
    rw [wpCall_eq (num_eq _ _)]
    simp only [WW, partV, eqCells, eqLf, minV, maxV, ifcV, zaa, zab, zac, zad, zae, zaf, zag, zah, zai, ofConst, ofConst1, List.replicate, zaj, zak, loadOp, Go.Abs.loadCells, binV, zal, pickV, zam, zan, zao, zap, zaq, zar, zas, zat, zau, outR, resAll, resOne, zav, zaw, zax, zay, zaz, zba, zbb, zbc, zbd, zbe, zbf, zbg, zbh, zbi, zbj, zbk, storeOp, storeCell, overlay, zbl, zbm, zbn, lookupOp, keyT, okRes, mapUpdateOp, zbo, zbp, zbq, zbr, zbs, zbt, zbu, Nat.reduceSub, Nat.reduceAdd, Int.reduceLT, Int.reduceLE, Int.reduceAdd, Int.reduceSub, Int.reduceToNat, Int.reduceBEq, Int.reduceBNe, Int.reduceMul, Nat.reduceBEq, Nat.reduceBNe, Nat.reduceLT, Nat.reduceLeDiff, Nat.reduceMul, Nat.reduceEqDiff, WD, effB, effH, isPriv, isHeap, isImm, zbx, zby, zbz, chkO, setD, dslot, zca, zcb, zcc, zcd, ptrCells_some, F3]
    rw [wpCall_eq (num_eq _ _)]
    simp only [WW, partV, eqCells, eqLf, minV, maxV, ifcV, zaa, zab, zac, zad, zae, zaf, zag, zah, zai, ofConst, ofConst1, List.replicate, zaj, zak, loadOp, Go.Abs.loadCells, binV, zal, pickV, zam, zan, zao, zap, zaq, zar, zas, zat, zau, outR, resAll, resOne, zav, zaw, zax, zay, zaz, zba, zbb, zbc, zbd, zbe, zbf, zbg, zbh, zbi, zbj, zbk, storeOp, storeCell, overlay, zbl, zbm, zbn, lookupOp, keyT, okRes, mapUpdateOp, zbo, zbp, zbq, zbr, zbs, zbt, zbu, Nat.reduceSub, Nat.reduceAdd, Int.reduceLT, Int.reduceLE, Int.reduceAdd, Int.reduceSub, Int.reduceToNat, Int.reduceBEq, Int.reduceBNe, Int.reduceMul, Nat.reduceBEq, Nat.reduceBNe, Nat.reduceLT, Nat.reduceLeDiff, Nat.reduceMul, Nat.reduceEqDiff, WD, effB, effH, isPriv, isHeap, isImm, zbx, zby, zbz, chkO, setD, dslot, zca, zcb, zcc, zcd, ptrCells_some, F3, q3, hshx, hlx, q4, q5]
    rw [wpCall_eq (live_eq _)]
    simp only [WW, partV, eqCells, eqLf, minV, maxV, ifcV, zaa, zab, zac, zad, zae, zaf, zag, zah, zai, ofConst, ofConst1, List.replicate, zaj, zak, loadOp, Go.Abs.loadCells, binV, zal, pickV, zam, zan, zao, zap, zaq, zar, zas, zat, zau, outR, resAll, resOne, zav, zaw, zax, zay, zaz, zba, zbb, zbc, zbd, zbe, zbf, zbg, zbh, zbi, zbj, zbk, storeOp, storeCell, overlay, zbl, zbm, zbn, lookupOp, keyT, okRes, mapUpdateOp, zbo, zbp, zbq, zbr, zbs, zbt, zbu, Nat.reduceSub, Nat.reduceAdd, Int.reduceLT, Int.reduceLE, Int.reduceAdd, Int.reduceSub, Int.reduceToNat, Int.reduceBEq, Int.reduceBNe, Int.reduceMul, Nat.reduceBEq, Nat.reduceBNe, Nat.reduceLT, Nat.reduceLeDiff, Nat.reduceMul, Nat.reduceEqDiff, WD, effB, effH, isPriv, isHeap, isImm, zbx, zby, zbz, chkO, setD, dslot, zca, zcb, zcc, zcd, ptrCells_some, F3]
  subst heB
  obtain ⟨k1, k2, k3⟩ := J3 rfl
  subst J1 k2 k3
  -- both scripts in one
  obtain ⟨y6, ex6, a6, C6⟩ := app1 (e := 40) (sz := 6) (by kernel_rfl) el40 (ents_wide EA) (by rw [ents_len]; omega) H5
  obtain ⟨ze, H7, a7, Z7, f7_, g7⟩ := app2 (e := 40) (sz := 6) (by kernel_rfl) el40 C6 (ents_wide EB) (by rw [ents_len, ents_len]; omega) (by simp) (some 75)
  obtain ⟨y8, ex8, a8, C8⟩ := app1 (e := 3) (sz := 1) (by kernel_rfl) el3 (ints_wide DA) (by rw [ints_len]; omega) H7
  obtain ⟨zd, H9, a9, Z9, f9_, g9⟩ := app2 (e := 3) (sz := 1) (by kernel_rfl) el3 C8 (ints_wide DB) (by rw [ints_len, ints_len]; omega) (by simp) (some 82)
  have fr7 : ∀ i, i < H5.length → H7[i]? = H5[i]? := fun i hi => by rw [f7_ i hi, List.getElem?_append_left hi]
  have fr9 : ∀ i, i < H7.length → H9[i]? = H7[i]? := fun i hi => by rw [f9_ i hi, List.getElem?_append_left hi]
  have gl7 : H5.length ≤ H7.length := by simp at g7; omega
  have fr59 : ∀ i, i < H5.length → H9[i]? = H5[i]? := fun i hi => by rw [fr9 i (by omega), fr7 i hi]
  have hs71 : Abs.srcSl H5 se = some (entsV EA) := wse.rd.srcSl
  have hs74 : Abs.srcSl (H5 ++ ex6) te = some (entsV EB) := (wte.sx.app ex6).rd.srcSl
  have hs78 : Abs.srcSl H7 sd = some (intsV DA) := (sx_fr wsd.sx fr7).rd.srcSl
  have hs81 : Abs.srcSl (H7 ++ ex8) td = some (intsV DB) := ((sx_fr wtd.sx fr7).app ex8).rd.srcSl
  have zeS : Sx H9 ze (entsV (EA ++ EB)) := by
    have := sx_fr Z7.sx fr9
    simpa [entsV] using this
  have zdS : Sx H9 zd (intsV (DA ++ DB)) := by
    have := Z9.sx
    simpa [intsV] using this
  have ueS : Sx H9 ue (entsV (EA ++ EB)) := sx_fr wue.sx fr59
  have udS : Sx H9 ud (intsV (DA ++ DB)) := sx_fr wud.sx fr59
  obtain ⟨o10, H10, c10, rfl, e10, rfl⟩ := wpCall_run (same_eq ueS zeS udS.rd zdS.rd (by simp; omega) (by simp; omega))
  have p1 := picks_eq (E := EA ++ EB) (D := DA ++ DB) (ueS.app e10).rd (udS.app e10).rd (by simp; omega)
  have p2 := picks_eq (E := EA) (D := DA) ((sx_fr wse.sx fr59).app e10).rd ((sx_fr wsd.sx fr59).app e10).rd (by omega)
  have p3 := picks_eq (E := EB) (D := DB) ((sx_fr wte.sx fr59).app e10).rd ((sx_fr wtd.sx fr59).app e10).rd (by omega)
  have lA := cntP_le EA
  have lB := cntP_le EB
  have q6 : IntKind.i64.wrap ((cntP EA : Int) + (cntP EB : Int)) = (cntP (EA ++ EB) : Int) := by rw [IntWalk.i64_in _ (by omega), cntP_app]; omega
  have q7 : IntKind.i64.wrap ((A.length : Int) + (B.length : Int)) = (tC : Int) := by rw [IntWalk.i64_in _ (by omega)]; omega
  have q8 : ((tC : Int) == (tC : Int)) = true := by simp
  have q9 : ((cntP (EA ++ EB) : Int) == (cntP (EA ++ EB) : Int)) = true := by simp
  refine runs f3 b3 r3 n3 _ _ ?_
  simp only [bodyOf, Try.f3, Option.getD_some]
  simp only [WW, partV, eqCells, eqLf, minV, maxV, ifcV, zaa, zab, zac, zad, zae, zaf, zag, zah, zai, ofConst, ofConst1, List.replicate, zaj, zak, loadOp, Go.Abs.loadCells, binV, zal, pickV, zam, zan, zao, zap, zaq, zar, zas, zat, zau, outR, resAll, resOne, zav, zaw, zax, zay, zaz, zba, zbb, zbc, zbd, zbe, zbf, zbg, zbh, zbi, zbj, zbk, storeOp, storeCell, overlay, zbl, zbm, zbn, lookupOp, keyT, okRes, mapUpdateOp, zbo, zbp, zbq, zbr, zbs, zbt, zbu, Nat.reduceSub, Nat.reduceAdd, Int.reduceLT, Int.reduceLE, Int.reduceAdd, Int.reduceSub, Int.reduceToNat, Int.reduceBEq, Int.reduceBNe, Int.reduceMul, Nat.reduceBEq, Nat.reduceBNe, Nat.reduceLT, Nat.reduceLeDiff, Nat.reduceMul, Nat.reduceEqDiff, WD, effB, effH, isPriv, isHeap, isImm, zbx, zby, zbz, chkO, setD, dslot, zca, zcb, zcc, zcd, ptrCells_some, F3, hshx, hlx, g1, hshy, hly, g2]
  rw [wpCall_eq c1]
  simp only [WW, partV, eqCells, eqLf, minV, maxV, ifcV, zaa, zab, zac, zad, zae, zaf, zag, zah, zai, ofConst, ofConst1, List.replicate, zaj, zak, loadOp, Go.Abs.loadCells, binV, zal, pickV, zam, zan, zao, zap, zaq, zar, zas, zat, zau, outR, resAll, resOne, zav, zaw, zax, zay, zaz, zba, zbb, zbc, zbd, zbe, zbf, zbg, zbh, zbi, zbj, zbk, storeOp, storeCell, overlay, zbl, zbm, zbn, lookupOp, keyT, okRes, mapUpdateOp, zbo, zbp, zbq, zbr, zbs, zbt, zbu, Nat.reduceSub, Nat.reduceAdd, Int.reduceLT, Int.reduceLE, Int.reduceAdd, Int.reduceSub, Int.reduceToNat, Int.reduceBEq, Int.reduceBNe, Int.reduceMul, Nat.reduceBEq, Nat.reduceBNe, Nat.reduceLT, Nat.reduceLeDiff, Nat.reduceMul, Nat.reduceEqDiff, WD, effB, effH, isPriv, isHeap, isImm, zbx, zby, zbz, chkO, setD, dslot, zca, zcb, zcc, zcd, ptrCells_some, F3, S1.se.shut, S1.sd.shut, S1.se.ok, S1.sd.ok, S1.se.cells1, S1.sd.cells1, hshy]
  rw [wpCall_eq c2]
  simp only [WW, partV, eqCells, eqLf, minV, maxV, ifcV, zaa, zab, zac, zad, zae, zaf, zag, zah, zai, ofConst, ofConst1, List.replicate, zaj, zak, loadOp, Go.Abs.loadCells, binV, zal, pickV, zam, zan, zao, zap, zaq, zar, zas, zat, zau, outR, resAll, resOne, zav, zaw, zax, zay, zaz, zba, zbb, zbc, zbd, zbe, zbf, zbg, zbh, zbi, zbj, zbk, storeOp, storeCell, overlay, zbl, zbm, zbn, lookupOp, keyT, okRes, mapUpdateOp, zbo, zbp, zbq, zbr, zbs, zbt, zbu, Nat.reduceSub, Nat.reduceAdd, Int.reduceLT, Int.reduceLE, Int.reduceAdd, Int.reduceSub, Int.reduceToNat, Int.reduceBEq, Int.reduceBNe, Int.reduceMul, Nat.reduceBEq, Nat.reduceBNe, Nat.reduceLT, Nat.reduceLeDiff, Nat.reduceMul, Nat.reduceEqDiff, WD, effB, effH, isPriv, isHeap, isImm, zbx, zby, zbz, chkO, setD, dslot, zca, zcb, zcc, zcd, ptrCells_some, F3, S2.se.shut, S2.sd.shut, S2.se.ok, S2.sd.ok, S2.se.cells1, S2.sd.cells1, buildSliceV, lits, srcV_eq, srcK_sl, srcK_str, srcSl_nils, srcSl_rsl, srcSl_sl, frow, zbv, zbw, List.all_nil, List.all_cons, rowV, Bool.false_and, Bool.and_false, ne_eq, not_false_eq_true, grows_lr, callOut_t, hshx, hshy, hsxA, hsxB, a3, a4, hzs.rd.shutIn]
  rw [wpCall_eq c5]
  simp only [WW, partV, eqCells, eqLf, minV, maxV, ifcV, zaa, zab, zac, zad, zae, zaf, zag, zah, zai, ofConst, ofConst1, List.replicate, zaj, zak, loadOp, Go.Abs.loadCells, binV, zal, pickV, zam, zan, zao, zap, zaq, zar, zas, zat, zau, outR, resAll, resOne, zav, zaw, zax, zay, zaz, zba, zbb, zbc, zbd, zbe, zbf, zbg, zbh, zbi, zbj, zbk, storeOp, storeCell, overlay, zbl, zbm, zbn, lookupOp, keyT, okRes, mapUpdateOp, zbo, zbp, zbq, zbr, zbs, zbt, zbu, Nat.reduceSub, Nat.reduceAdd, Int.reduceLT, Int.reduceLE, Int.reduceAdd, Int.reduceSub, Int.reduceToNat, Int.reduceBEq, Int.reduceBNe, Int.reduceMul, Nat.reduceBEq, Nat.reduceBNe, Nat.reduceLT, Nat.reduceLeDiff, Nat.reduceMul, Nat.reduceEqDiff, WD, effB, effH, isPriv, isHeap, isImm, zbx, zby, zbz, chkO, setD, dslot, zca, zcb, zcc, zcd, ptrCells_some, F3, S5.se.shut, S5.sd.shut, S5.se.ok, S5.sd.ok, S5.se.cells1, S5.sd.cells1]
  rw [wpCall_eq (num_eq _ _)]
  simp only [WW, partV, eqCells, eqLf, minV, maxV, ifcV, zaa, zab, zac, zad, zae, zaf, zag, zah, zai, ofConst, ofConst1, List.replicate, zaj, zak, loadOp, Go.Abs.loadCells, binV, zal, pickV, zam, zan, zao, zap, zaq, zar, zas, zat, zau, outR, resAll, resOne, zav, zaw, zax, zay, zaz, zba, zbb, zbc, zbd, zbe, zbf, zbg, zbh, zbi, zbj, zbk, storeOp, storeCell, overlay, zbl, zbm, zbn, lookupOp, keyT, okRes, mapUpdateOp, zbo, zbp, zbq, zbr, zbs, zbt, zbu, Nat.reduceSub, Nat.reduceAdd, Int.reduceLT, Int.reduceLE, Int.reduceAdd, Int.reduceSub, Int.reduceToNat, Int.reduceBEq, Int.reduceBNe, Int.reduceMul, Nat.reduceBEq, Nat.reduceBNe, Nat.reduceLT, Nat.reduceLeDiff, Nat.reduceMul, Nat.reduceEqDiff, WD, effB, effH, isPriv, isHeap, isImm, zbx, zby, zbz, chkO, setD, dslot, zca, zcb, zcc, zcd, ptrCells_some, F3]
  rw [wpCall_eq (num_eq _ _)]
  simp only [WW, partV, eqCells, eqLf, minV, maxV, ifcV, zaa, zab, zac, zad, zae, zaf, zag, zah, zai, ofConst, ofConst1, List.replicate, zaj, zak, loadOp, Go.Abs.loadCells, binV, zal, pickV, zam, zan, zao, zap, zaq, zar, zas, zat, zau, outR, resAll, resOne, zav, zaw, zax, zay, zaz, zba, zbb, zbc, zbd, zbe, zbf, zbg, zbh, zbi, zbj, zbk, storeOp, storeCell, overlay, zbl, zbm, zbn, lookupOp, keyT, okRes, mapUpdateOp, zbo, zbp, zbq, zbr, zbs, zbt, zbu, Nat.reduceSub, Nat.reduceAdd, Int.reduceLT, Int.reduceLE, Int.reduceAdd, Int.reduceSub, Int.reduceToNat, Int.reduceBEq, Int.reduceBNe, Int.reduceMul, Nat.reduceBEq, Nat.reduceBNe, Nat.reduceLT, Nat.reduceLeDiff, Nat.reduceMul, Nat.reduceEqDiff, WD, effB, effH, isPriv, isHeap, isImm, zbx, zby, zbz, chkO, setD, dslot, zca, zcb, zcc, zcd, ptrCells_some, F3]
  refine wC_dr alts3_10 (by kernel_rfl) ?_
  simp only [WW, partV, eqCells, eqLf, minV, maxV, ifcV, zaa, zab, zac, zad, zae, zaf, zag, zah, zai, ofConst, ofConst1, List.replicate, zaj, zak, loadOp, Go.Abs.loadCells, binV, zal, pickV, zam, zan, zao, zap, zaq, zar, zas, zat, zau, outR, resAll, resOne, zav, zaw, zax, zay, zaz, zba, zbb, zbc, zbd, zbe, zbf, zbg, zbh, zbi, zbj, zbk, storeOp, storeCell, overlay, zbl, zbm, zbn, lookupOp, keyT, okRes, mapUpdateOp, zbo, zbp, zbq, zbr, zbs, zbt, zbu, Nat.reduceSub, Nat.reduceAdd, Int.reduceLT, Int.reduceLE, Int.reduceAdd, Int.reduceSub, Int.reduceToNat, Int.reduceBEq, Int.reduceBNe, Int.reduceMul, Nat.reduceBEq, Nat.reduceBNe, Nat.reduceLT, Nat.reduceLeDiff, Nat.reduceMul, Nat.reduceEqDiff, WD, effB, effH, isPriv, isHeap, isImm, zbx, zby, zbz, chkO, setD, dslot, zca, zcb, zcc, zcd, ptrCells_some, F3, alts3_10, S1.se.shut, S1.sd.shut, S2.se.shut, S2.sd.shut, buildSliceV, lits, srcV_eq, srcK_sl, srcK_str, srcSl_nils, srcSl_rsl, srcSl_sl, frow, zbv, zbw, List.all_nil, List.all_cons, rowV, Bool.false_and, Bool.and_false, ne_eq, not_false_eq_true, grows_lr, callOut_t, hs71, hs74, hs78, hs81, a6, a7, a8, a9, buildOp, fillV, Lay.place, Bool.or_self, Bool.or_false, Bool.false_or, decide_not, not_true_eq_false, decide_eq_true_eq, Nat.lt_irrefl, zeS.rd.shutIn, zeS.rd.ok, zeS.rd.cells1, zeS.rd.width1, zdS.rd.shutIn, zdS.rd.ok, zdS.rd.cells1, zdS.rd.width1]
  refine wC_dr alts3_11 (by kernel_rfl) ?_
  simp only [WW, partV, eqCells, eqLf, minV, maxV, ifcV, zaa, zab, zac, zad, zae, zaf, zag, zah, zai, ofConst, ofConst1, List.replicate, zaj, zak, loadOp, Go.Abs.loadCells, binV, zal, pickV, zam, zan, zao, zap, zaq, zar, zas, zat, zau, outR, resAll, resOne, zav, zaw, zax, zay, zaz, zba, zbb, zbc, zbd, zbe, zbf, zbg, zbh, zbi, zbj, zbk, storeOp, storeCell, overlay, zbl, zbm, zbn, lookupOp, keyT, okRes, mapUpdateOp, zbo, zbp, zbq, zbr, zbs, zbt, zbu, Nat.reduceSub, Nat.reduceAdd, Int.reduceLT, Int.reduceLE, Int.reduceAdd, Int.reduceSub, Int.reduceToNat, Int.reduceBEq, Int.reduceBNe, Int.reduceMul, Nat.reduceBEq, Nat.reduceBNe, Nat.reduceLT, Nat.reduceLeDiff, Nat.reduceMul, Nat.reduceEqDiff, WD, effB, effH, isPriv, isHeap, isImm, zbx, zby, zbz, chkO, setD, dslot, zca, zcb, zcc, zcd, ptrCells_some, F3, alts3_11]
  rw [wpCall_eq (num_eq _ _)]
  simp only [WW, partV, eqCells, eqLf, minV, maxV, ifcV, zaa, zab, zac, zad, zae, zaf, zag, zah, zai, ofConst, ofConst1, List.replicate, zaj, zak, loadOp, Go.Abs.loadCells, binV, zal, pickV, zam, zan, zao, zap, zaq, zar, zas, zat, zau, outR, resAll, resOne, zav, zaw, zax, zay, zaz, zba, zbb, zbc, zbd, zbe, zbf, zbg, zbh, zbi, zbj, zbk, storeOp, storeCell, overlay, zbl, zbm, zbn, lookupOp, keyT, okRes, mapUpdateOp, zbo, zbp, zbq, zbr, zbs, zbt, zbu, Nat.reduceSub, Nat.reduceAdd, Int.reduceLT, Int.reduceLE, Int.reduceAdd, Int.reduceSub, Int.reduceToNat, Int.reduceBEq, Int.reduceBNe, Int.reduceMul, Nat.reduceBEq, Nat.reduceBNe, Nat.reduceLT, Nat.reduceLeDiff, Nat.reduceMul, Nat.reduceEqDiff, WD, effB, effH, isPriv, isHeap, isImm, zbx, zby, zbz, chkO, setD, dslot, zca, zcb, zcc, zcd, ptrCells_some, F3, alts3_11, hshx, hlx, hshy, hly, q7, q8, S1.se.shut, S1.sd.shut, S2.se.shut, S2.sd.shut, S5.se.shut, S5.sd.shut, zeS.rd.shutIn, zdS.rd.shutIn]
  rw [wpCall_eq c10]
  simp only [WW, partV, eqCells, eqLf, minV, maxV, ifcV, zaa, zab, zac, zad, zae, zaf, zag, zah, zai, ofConst, ofConst1, List.replicate, zaj, zak, loadOp, Go.Abs.loadCells, binV, zal, pickV, zam, zan, zao, zap, zaq, zar, zas, zat, zau, outR, resAll, resOne, zav, zaw, zax, zay, zaz, zba, zbb, zbc, zbd, zbe, zbf, zbg, zbh, zbi, zbj, zbk, storeOp, storeCell, overlay, zbl, zbm, zbn, lookupOp, keyT, okRes, mapUpdateOp, zbo, zbp, zbq, zbr, zbs, zbt, zbu, Nat.reduceSub, Nat.reduceAdd, Int.reduceLT, Int.reduceLE, Int.reduceAdd, Int.reduceSub, Int.reduceToNat, Int.reduceBEq, Int.reduceBNe, Int.reduceMul, Nat.reduceBEq, Nat.reduceBNe, Nat.reduceLT, Nat.reduceLeDiff, Nat.reduceMul, Nat.reduceEqDiff, WD, effB, effH, isPriv, isHeap, isImm, zbx, zby, zbz, chkO, setD, dslot, zca, zcb, zcc, zcd, ptrCells_some, F3, alts3_11, S1.se.shut, S1.sd.shut, S2.se.shut, S2.sd.shut, S5.se.shut, S5.sd.shut, zeS.rd.shutIn, zdS.rd.shutIn]
  rw [wpCall_eq p1]
  simp only [WW, partV, eqCells, eqLf, minV, maxV, ifcV, zaa, zab, zac, zad, zae, zaf, zag, zah, zai, ofConst, ofConst1, List.replicate, zaj, zak, loadOp, Go.Abs.loadCells, binV, zal, pickV, zam, zan, zao, zap, zaq, zar, zas, zat, zau, outR, resAll, resOne, zav, zaw, zax, zay, zaz, zba, zbb, zbc, zbd, zbe, zbf, zbg, zbh, zbi, zbj, zbk, storeOp, storeCell, overlay, zbl, zbm, zbn, lookupOp, keyT, okRes, mapUpdateOp, zbo, zbp, zbq, zbr, zbs, zbt, zbu, Nat.reduceSub, Nat.reduceAdd, Int.reduceLT, Int.reduceLE, Int.reduceAdd, Int.reduceSub, Int.reduceToNat, Int.reduceBEq, Int.reduceBNe, Int.reduceMul, Nat.reduceBEq, Nat.reduceBNe, Nat.reduceLT, Nat.reduceLeDiff, Nat.reduceMul, Nat.reduceEqDiff, WD, effB, effH, isPriv, isHeap, isImm, zbx, zby, zbz, chkO, setD, dslot, zca, zcb, zcc, zcd, ptrCells_some, F3, alts3_11, S1.se.shut, S1.sd.shut, S2.se.shut, S2.sd.shut, S5.se.shut, S5.sd.shut]
  rw [wpCall_eq p2]
  simp only [WW, partV, eqCells, eqLf, minV, maxV, ifcV, zaa, zab, zac, zad, zae, zaf, zag, zah, zai, ofConst, ofConst1, List.replicate, zaj, zak, loadOp, Go.Abs.loadCells, binV, zal, pickV, zam, zan, zao, zap, zaq, zar, zas, zat, zau, outR, resAll, resOne, zav, zaw, zax, zay, zaz, zba, zbb, zbc, zbd, zbe, zbf, zbg, zbh, zbi, zbj, zbk, storeOp, storeCell, overlay, zbl, zbm, zbn, lookupOp, keyT, okRes, mapUpdateOp, zbo, zbp, zbq, zbr, zbs, zbt, zbu, Nat.reduceSub, Nat.reduceAdd, Int.reduceLT, Int.reduceLE, Int.reduceAdd, Int.reduceSub, Int.reduceToNat, Int.reduceBEq, Int.reduceBNe, Int.reduceMul, Nat.reduceBEq, Nat.reduceBNe, Nat.reduceLT, Nat.reduceLeDiff, Nat.reduceMul, Nat.reduceEqDiff, WD, effB, effH, isPriv, isHeap, isImm, zbx, zby, zbz, chkO, setD, dslot, zca, zcb, zcc, zcd, ptrCells_some, F3, alts3_11, S1.se.shut, S1.sd.shut, S2.se.shut, S2.sd.shut, S5.se.shut, S5.sd.shut]
  rw [wpCall_eq p3]
  simp only [WW, partV, eqCells, eqLf, minV, maxV, ifcV, zaa, zab, zac, zad, zae, zaf, zag, zah, zai, ofConst, ofConst1, List.replicate, zaj, zak, loadOp, Go.Abs.loadCells, binV, zal, pickV, zam, zan, zao, zap, zaq, zar, zas, zat, zau, outR, resAll, resOne, zav, zaw, zax, zay, zaz, zba, zbb, zbc, zbd, zbe, zbf, zbg, zbh, zbi, zbj, zbk, storeOp, storeCell, overlay, zbl, zbm, zbn, lookupOp, keyT, okRes, mapUpdateOp, zbo, zbp, zbq, zbr, zbs, zbt, zbu, Nat.reduceSub, Nat.reduceAdd, Int.reduceLT, Int.reduceLE, Int.reduceAdd, Int.reduceSub, Int.reduceToNat, Int.reduceBEq, Int.reduceBNe, Int.reduceMul, Nat.reduceBEq, Nat.reduceBNe, Nat.reduceLT, Nat.reduceLeDiff, Nat.reduceMul, Nat.reduceEqDiff, WD, effB, effH, isPriv, isHeap, isImm, zbx, zby, zbz, chkO, setD, dslot, zca, zcb, zcc, zcd, ptrCells_some, F3, alts3_11, S1.se.shut, S1.sd.shut, S2.se.shut, S2.sd.shut, S5.se.shut, S5.sd.shut, q6, q9]
  rw [wpCall_eq (live_eq _)]
  simp only [WW, partV, eqCells, eqLf, minV, maxV, ifcV, zaa, zab, zac, zad, zae, zaf, zag, zah, zai, ofConst, ofConst1, List.replicate, zaj, zak, loadOp, Go.Abs.loadCells, binV, zal, pickV, zam, zan, zao, zap, zaq, zar, zas, zat, zau, outR, resAll, resOne, zav, zaw, zax, zay, zaz, zba, zbb, zbc, zbd, zbe, zbf, zbg, zbh, zbi, zbj, zbk, storeOp, storeCell, overlay, zbl, zbm, zbn, lookupOp, keyT, okRes, mapUpdateOp, zbo, zbp, zbq, zbr, zbs, zbt, zbu, Nat.reduceSub, Nat.reduceAdd, Int.reduceLT, Int.reduceLE, Int.reduceAdd, Int.reduceSub, Int.reduceToNat, Int.reduceBEq, Int.reduceBNe, Int.reduceMul, Nat.reduceBEq, Nat.reduceBNe, Nat.reduceLT, Nat.reduceLeDiff, Nat.reduceMul, Nat.reduceEqDiff, WD, effB, effH, isPriv, isHeap, isImm, zbx, zby, zbz, chkO, setD, dslot, zca, zcb, zcc, zcd, ptrCells_some, F3, alts3_11, S1.se.shut, S1.sd.shut, S2.se.shut, S2.sd.shut, S5.se.shut, S5.sd.shut]
theorem u22 : Try.prog.underlying 22 = some (.slice 5) := by kernel_rfl
theorem u5 : Try.prog.underlying 5 = some (.int .u8) := by kernel_rfl
theorem u8_wf {n : Int} (h : (Lit.int .u8 n).wf = true) : 0 ≤ n ∧ n ≤ 255 := by
  simp [Lit.wf, IntKind.min, IntKind.max, IntKind.signed, IntKind.bits] at h
  omega
theorem open_text {d : Nat} {v : List V} (h : Tv Try.prog (d + 3) 22 v) : ∃ x A, v = [x] ∧ (∀ H, Sx H x (by8 A)) ∧ ∀ H, Wd H x := by
  obtain ⟨x, r, rfl, h1, l1, k1⟩ := tv_slice h u22
  have g5 : isAggT Try.prog 5 = false := by kernel_rfl
  rw [g5] at h1
  obtain ⟨A, e1, e2⟩ := rows_map2 (f := mkV false) (tv := byteV) (rows := r) (fun q hq => by
    obtain ⟨n, rfl, hn⟩ := tv_int (k1 q hq) u5
    have hb := u8_wf hn
    refine ⟨UInt8.ofNat n.toNat, ?_⟩
    have : ((UInt8.ofNat n.toNat).toNat : Int) = n := by simp; omega
    simp only [byteV, this]
    rfl)
  rw [e1] at h1
  refine ⟨x, A, rfl, flat_sx h1, fun H => ?_⟩
  rcases (h1 []).flat with ⟨rfl, _⟩ | rfl
  · intro _ _ _ _ q; cases q
  · intro _ _ _ _ q; cases q
theorem scriptJoins_main {v0 v1 : List V} (h0 : Tv Try.prog 8 22 v0) (h1 : Tv Try.prog 8 22 v1) :
    wpCall (evW Try.prog notes) 3 [mkV (isAggT Try.prog 22) v0, mkV (isAggT Try.prog 22) v1] [] (fun out H' => out = .ret (.bool true) false) := by
  obtain ⟨x, A, rfl, hx, wx⟩ := open_text h0
  obtain ⟨y, B, rfl, hy, wy⟩ := open_text h1
  have ag : isAggT Try.prog 22 = false := by kernel_rfl
  rw [ag]
  exact joins_eq hx hy wx wy []
end Go.Proofs.Yteenpfdpokekgaa
