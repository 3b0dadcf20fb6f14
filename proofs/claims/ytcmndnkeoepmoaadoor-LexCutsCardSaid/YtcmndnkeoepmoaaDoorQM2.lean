/- A part of the proofs over this seat. -/
import Derived.Test.YtcmndnkeoepmoaaDoorQM1
import Derived.Test.YtcmndnkeoepmoaaDoorQK1
namespace Go.Proofs.YtcmndnkeoepmoaaDoor
open Go Go.Abs Go.Proofs
set_option maxRecDepth 100000
set_option maxHeartbeats 1000000
set_option linter.unusedVariables false
set_option linter.unusedSimpArgs false
theorem textS_bad : ∀ (R out : List UInt8) (o : Nat) {e off}, textS R out o = .bad e off → e = 6
  | [], out, o, e, off, h => by rw [textS] at h; cases h; rfl
  | c :: r, out, o, e, off, h => by
    unfold textS at h
    split at h
    · cases h; rfl
    split at h
    · cases h
    split at h
    · exact textS_bad r _ _ h
    match r, h with
    | [], h => cases h; rfl
    | d :: r1, h =>
      simp only at h
      split at h
      · match r1, h with
        | [], h => cases h; rfl
        | a :: r2, h =>
          simp only at h
          split at h
          · cases h; rfl
          match r2, h with
          | [], h => cases h; rfl
          | b :: r3, h =>
            simp only at h
            split at h
            · cases h; rfl
            exact textS_bad r3 _ _ h
      · split at h
        · exact textS_bad r1 _ _ h
        · cases h; rfl
theorem nextS_bad {c : UInt8} {r : List UInt8} {e off} (h : nextS (c :: r) = .bad e off) : e = 6 ∨ e = 9 := by
  simp only [nextS] at h
  split at h
  · cases h
  split at h
  · unfold numS at h
    simp only at h
    split at h
    · cases h; exact .inl rfl
    split at h
    · cases h; exact .inl rfl
    split at h
    · cases h
    · cases h; exact .inr rfl
  split at h
  · exact .inl (textS_bad _ _ _ h)
  · unfold signS at h
    split at h
    · cases h
    split at h
    · cases h
    · cases h; exact .inl rfl
theorem lenK_row {H : Hp} {e : TypeId} {es : List V} {n : Nat} (h : n = es.length) : lenK H (.slice e) (rowV true es n) = some (.int .i64 n) := by
  subst h
  unfold rowV
  cases es with
  | nil => rfl
  | cons a b => rw [if_neg (by simp), lenK_rsl, List.take_length]
theorem tok_wide (ts : List Tk) : wideAll (ts.map tokV) 4 = true := wide_mapN (f := tokV) (fun _ => rfl) ts
/-- Bytes, in memory or not -/
def Bz (H : Hp) (x : V) (L : List UInt8) : Prop := Bx x L ∨ ∃ id, x = .sl id 0 L.length ∧ H[id]? = some (.cells (by8 L))
theorem Bz.rd {H : Hp} {x : V} {L : List UInt8} (h : Bz H x L) : Rd H x (by8 L) := by
  rcases h with h | ⟨id, rfl, h⟩
  · exact h.rd H
  · have := Rd.whole h
    rwa [by8_len] at this
theorem Bz.by_ {H : Hp} {x : V} {L : List UInt8} (h : Bz H x L) (e : Hp) : By (H ++ e) H.length x L := by
  rcases h with h | ⟨id, rfl, h⟩
  · exact .inl h
  · have hl := (List.getElem?_eq_some_iff.1 h).1
    exact .inr ⟨id, rfl, by omega, by rw [List.getElem?_append_left hl]; exact h⟩
/-- What is answered of a text -/
def lexOut (n : Nat) (res : Except (Nat × Nat) (List Tk)) (out : Out) : Prop := match res with
  | .ok l => out = .ret (.tup [.rsl (l.map tokV), .int .i64 0, .int .i64 n]) false
  | .error x => out = .ret (.tup [.nils, .int .i64 x.1, .int .i64 x.2]) false
theorem lex_spec {H : Hp} {x : V} {L : List UInt8} (hz : Bz H x L) (hL : L.length ≤ 65536) :
    wpCall EW 10 [x] H (fun out H' => lexOut L.length (lexS L 0 0) out) := by
  refine runs f10 b10 r10 n10 _ _ ?_
  simp only [bodyOf, Tryd.f10, Option.getD_some]
  have hx := hz.rd
  have hB0 := hz.by_ [ctr x ((0 : Nat) : Int)]
  have h65 : decide ((65536 : Int) < (L.length : Int)) = false := decide_eq_false (by omega)
  simp only [WW, partV, eqCells, eqLf, minV, maxV, ifcV, zaa, zab, zac, zad, zae, zaf, zag, zah, zai, ofConst, ofConst1, List.replicate, zaj, zak, loadOp, Go.Abs.loadCells, binV, zal, pickV, zam, zan, zao, zap, zaq, zar, zas, zat, zau, outR, resAll, resOne, zav, zaw, zax, zay, zaz, zba, zbb, zbc, zbd, zbe, zbf, zbg, zbh, zbi, zbj, zbk, storeOp, storeCell, overlay, zbl, zbm, zbn, lookupOp, keyT, okRes, mapUpdateOp, zbo, zbp, zbq, zbr, zbs, zbt, zbu, Nat.reduceSub, Nat.reduceAdd, Int.reduceLT, Int.reduceLE, Int.reduceAdd, Int.reduceSub, Int.reduceToNat, Int.reduceBEq, Int.reduceBNe, Int.reduceMul, Nat.reduceBEq, Nat.reduceBNe, Nat.reduceLT, Nat.reduceLeDiff, Nat.reduceMul, Nat.reduceEqDiff, WD, effB, effH, isPriv, isHeap, isImm, zbx, zby, zbz, chkO, setD, dslot, zca, zcb, zcc, zcd, ptrCells_some, F10, hx.shutIn, hx.len, by8_len, h65, hx.ok, hx.cells1, hx.width1, buildOp, fillV, Lay.place, Bool.or_self, Bool.or_false, Bool.false_or, decide_not, ne_eq, not_true_eq_false, decide_eq_true_eq, Nat.lt_irrefl]
  have hC0 : Ct (H ++ [ctr x ((0 : Nat) : Int)]) H.length x ((0 : Nat) : Int) := List.getElem?_concat_length
  refine wC_loop _ (fun k st' H' => ∃ (i : Nat) (ts : List Tk), st' = ⟨L10_4 (.v x) (.v (.lr 0 ts.length)) (.v (.ptr H.length 0 0)), [], [⟨true, true, ts.map tokV⟩]⟩ ∧ Ct H' H.length x (i : Int) ∧ By H' H.length x L ∧ i ≤ L.length ∧ ts.length ≤ i ∧ ts.length ≤ 16384 ∧ k = L.length - i ∧
    lexS L 0 0 = (match lexS (L.drop i) i ts.length with | .ok l => .ok (ts ++ l) | .error e => .error e)) L.length ⟨0, [], ?_, hC0, hB0, Nat.zero_le _, Nat.le_refl _, by simp, rfl, by rw [List.drop_zero]; cases lexS L 0 ([] : List Tk).length <;> rfl⟩ ?_
  · simp only [WN, firstReg, growAll, zbv, zbw, norm, killS, zag, zah, zaa, zab, zbl, zat, zad, growOne, zae, zaf, zac, zas, zak, Nat.reduceLT, Nat.reduceAdd, zbj, zav, F10, L10_4, hx.clip2]
    try rfl
  · rintro k st' H' ⟨i, ts, rfl, hC, hB, hi, hti, htm, rfl, hlex⟩
    simp only [L10_4]
    simp only [WW, partV, eqCells, eqLf, minV, maxV, ifcV, zaa, zab, zac, zad, zae, zaf, zag, zah, zai, ofConst, ofConst1, List.replicate, zaj, zak, loadOp, Go.Abs.loadCells, binV, zal, pickV, zam, zan, zao, zap, zaq, zar, zas, zat, zau, outR, resAll, resOne, zav, zaw, zax, zay, zaz, zba, zbb, zbc, zbd, zbe, zbf, zbg, zbh, zbi, zbj, zbk, storeOp, storeCell, overlay, zbl, zbm, zbn, lookupOp, keyT, okRes, mapUpdateOp, zbo, zbp, zbq, zbr, zbs, zbt, zbu, Nat.reduceSub, Nat.reduceAdd, Int.reduceLT, Int.reduceLE, Int.reduceAdd, Int.reduceSub, Int.reduceToNat, Int.reduceBEq, Int.reduceBNe, Int.reduceMul, Nat.reduceBEq, Nat.reduceBNe, Nat.reduceLT, Nat.reduceLeDiff, Nat.reduceMul, Nat.reduceEqDiff, WD, effB, effH, isPriv, isHeap, isImm, zbx, zby, zbz, chkO, setD, dslot, zca, zcb, zcc, zcd, ptrCells_some, F10]
    refine wpCall_of (skip_spec hB hC hi (by omega)) ?_
    rintro out H2 ⟨rfl, rfl⟩
    have hle := skipN_le false (L.drop i)
    obtain ⟨s, hs⟩ : ∃ s, s = skipN false (L.drop i) := ⟨_, rfl⟩
    rw [← hs] at hle ⊢
    have hsl : i + s ≤ L.length := by simp at hle; omega
    have hC2 := hC.to ((i + s : Nat) : Int)
    have hB2 := hB.to (ctr x ((i + s : Nat) : Int))
    generalize H'.set H.length (ctr x ((i + s : Nat) : Int)) = H2 at hC2 hB2 ⊢
    have hb2 : H2[H.length]? = some (.cells [.agg [x, .int .i64 ((i + s : Nat) : Int)]]) := hC2
    have hx2 := hB2.rd
    have hrl := lenK_row (H := H2) (e := 36) (es := ts.map tokV) (n := ts.length) (by simp)
    have hwt := tok_wide ts
    have q1 : (ts.length == (ts.map tokV).length) = true := by simp
    have q2 : decide ((ts.length + 1) * 40 ≤ 70368744177664) = true := by simp; omega
    have q3 : decide (ts.length ≤ 4611686018427387903) = true := by simp; omega
    have hw1 : ∀ t : Tk, wideAll [V.agg [.int .i64 t.k, .str ⟨t.t.toArray⟩, .int .i64 t.n, .int .i64 t.p]] 4 = true := fun _ => rfl
    have hw0 : ∀ (a : Int) (b : ByteArray) (c d : Int), wideAll [V.agg [.int .i64 a, .str b, .int .i64 c, .int .i64 d]] 4 = true := fun _ _ _ _ => rfl
    have hdd : (L.drop i).drop s = L.drop (i + s) := List.drop_drop
    by_cases hend : i + s = L.length
    · have hnil : (L.drop i).drop s = [] := by rw [hdd, List.drop_of_length_le (by omega)]
      rw [hs] at hnil
      rw [lexS_end hnil, ← hs] at hlex
      have heq : (((i + s : Nat) : Int) == (L.length : Int)) = true := by rw [hend]; simp
      simp only [WW, partV, eqCells, eqLf, minV, maxV, ifcV, zaa, zab, zac, zad, zae, zaf, zag, zah, zai, ofConst, ofConst1, List.replicate, zaj, zak, loadOp, Go.Abs.loadCells, binV, zal, pickV, zam, zan, zao, zap, zaq, zar, zas, zat, zau, outR, resAll, resOne, zav, zaw, zax, zay, zaz, zba, zbb, zbc, zbd, zbe, zbf, zbg, zbh, zbi, zbj, zbk, storeOp, storeCell, overlay, zbl, zbm, zbn, lookupOp, keyT, okRes, mapUpdateOp, zbo, zbp, zbq, zbr, zbs, zbt, zbu, Nat.reduceSub, Nat.reduceAdd, Int.reduceLT, Int.reduceLE, Int.reduceAdd, Int.reduceSub, Int.reduceToNat, Int.reduceBEq, Int.reduceBNe, Int.reduceMul, Nat.reduceBEq, Nat.reduceBNe, Nat.reduceLT, Nat.reduceLeDiff, Nat.reduceMul, Nat.reduceEqDiff, WD, effB, effH, isPriv, isHeap, isImm, zbx, zby, zbz, chkO, setD, dslot, zca, zcb, zcc, zcd, ptrCells_some, F10, hb2, hx2.shutIn, hx2.len, by8_len, heq, buildOp, fillV, Lay.place, Bool.or_self, Bool.or_false, Bool.false_or, decide_not, ne_eq, not_true_eq_false, decide_eq_true_eq, Nat.lt_irrefl, buildSliceV, lits, srcV_eq, srcK_sl, srcK_str, srcSl_nils, srcSl_rsl, srcSl_sl, appendOp, frow, zbv, zbw, List.all_nil, List.all_cons, rowV, Bool.false_and, Bool.and_false, not_false_eq_true, grows_lr, callOut_t, hwt, hw0, q1, q2, q3]
      rw [hlex, hend]
      simp only [lexOut, List.map_append, List.map_cons, List.map_nil, List.length_append, List.length_map, List.length_cons, List.length_nil]
      rw [if_neg (by simp), List.take_of_length_le (by simp)]
      rfl
    · have heq : (((i + s : Nat) : Int) == (L.length : Int)) = false := by rw [beq_eq_false_iff_ne]; omega
      have hlt : i + s < L.length := by omega
      obtain ⟨c, r, hcr⟩ : ∃ c r, L.drop (i + s) = c :: r := by
        cases h : L.drop (i + s) with
        | nil => have := congrArg List.length h; simp at this; omega
        | cons c r => exact ⟨c, r, rfl⟩
      have hcr2 : (L.drop i).drop (skipN false (L.drop i)) = c :: r := by rw [← hs, hdd]; exact hcr
      cases hmany : ((ts.length : Int) == 16384) with
      | true =>
        have hm : ts.length = 16384 := by simp at hmany; omega
        rw [hm, lexS_many (by rw [hcr2]; simp), ← hs] at hlex
        simp only [WW, partV, eqCells, eqLf, minV, maxV, ifcV, zaa, zab, zac, zad, zae, zaf, zag, zah, zai, ofConst, ofConst1, List.replicate, zaj, zak, loadOp, Go.Abs.loadCells, binV, zal, pickV, zam, zan, zao, zap, zaq, zar, zas, zat, zau, outR, resAll, resOne, zav, zaw, zax, zay, zaz, zba, zbb, zbc, zbd, zbe, zbf, zbg, zbh, zbi, zbj, zbk, storeOp, storeCell, overlay, zbl, zbm, zbn, lookupOp, keyT, okRes, mapUpdateOp, zbo, zbp, zbq, zbr, zbs, zbt, zbu, Nat.reduceSub, Nat.reduceAdd, Int.reduceLT, Int.reduceLE, Int.reduceAdd, Int.reduceSub, Int.reduceToNat, Int.reduceBEq, Int.reduceBNe, Int.reduceMul, Nat.reduceBEq, Nat.reduceBNe, Nat.reduceLT, Nat.reduceLeDiff, Nat.reduceMul, Nat.reduceEqDiff, WD, effB, effH, isPriv, isHeap, isImm, zbx, zby, zbz, chkO, setD, dslot, zca, zcb, zcc, zcd, ptrCells_some, F10, hb2, hx2.shutIn, hx2.len, by8_len, heq, hrl, hmany]
        refine wC_dr alts10_8 (by kernel_rfl) ?_
        simp only [WW, partV, eqCells, eqLf, minV, maxV, ifcV, zaa, zab, zac, zad, zae, zaf, zag, zah, zai, ofConst, ofConst1, List.replicate, zaj, zak, loadOp, Go.Abs.loadCells, binV, zal, pickV, zam, zan, zao, zap, zaq, zar, zas, zat, zau, outR, resAll, resOne, zav, zaw, zax, zay, zaz, zba, zbb, zbc, zbd, zbe, zbf, zbg, zbh, zbi, zbj, zbk, storeOp, storeCell, overlay, zbl, zbm, zbn, lookupOp, keyT, okRes, mapUpdateOp, zbo, zbp, zbq, zbr, zbs, zbt, zbu, Nat.reduceSub, Nat.reduceAdd, Int.reduceLT, Int.reduceLE, Int.reduceAdd, Int.reduceSub, Int.reduceToNat, Int.reduceBEq, Int.reduceBNe, Int.reduceMul, Nat.reduceBEq, Nat.reduceBNe, Nat.reduceLT, Nat.reduceLeDiff, Nat.reduceMul, Nat.reduceEqDiff, WD, effB, effH, isPriv, isHeap, isImm, zbx, zby, zbz, chkO, setD, dslot, zca, zcb, zcc, zcd, ptrCells_some, F10, hb2, alts10_8]
        rw [hlex]
        rfl
      | false =>
        have hm : ts.length ≠ 16384 := by simp at hmany; omega
        simp only [WW, partV, eqCells, eqLf, minV, maxV, ifcV, zaa, zab, zac, zad, zae, zaf, zag, zah, zai, ofConst, ofConst1, List.replicate, zaj, zak, loadOp, Go.Abs.loadCells, binV, zal, pickV, zam, zan, zao, zap, zaq, zar, zas, zat, zau, outR, resAll, resOne, zav, zaw, zax, zay, zaz, zba, zbb, zbc, zbd, zbe, zbf, zbg, zbh, zbi, zbj, zbk, storeOp, storeCell, overlay, zbl, zbm, zbn, lookupOp, keyT, okRes, mapUpdateOp, zbo, zbp, zbq, zbr, zbs, zbt, zbu, Nat.reduceSub, Nat.reduceAdd, Int.reduceLT, Int.reduceLE, Int.reduceAdd, Int.reduceSub, Int.reduceToNat, Int.reduceBEq, Int.reduceBNe, Int.reduceMul, Nat.reduceBEq, Nat.reduceBNe, Nat.reduceLT, Nat.reduceLeDiff, Nat.reduceMul, Nat.reduceEqDiff, WD, effB, effH, isPriv, isHeap, isImm, zbx, zby, zbz, chkO, setD, dslot, zca, zcb, zcc, zcd, ptrCells_some, F10, hb2, hx2.shutIn, hx2.len, by8_len, heq, hrl, hmany]
        refine wpCall_of (next_spec hB2 hC2 hcr hL) ?_
        intro out H3 hres
        cases hnx : nextS (c :: r) with
        | bad e off =>
          rw [hnx] at hres
          obtain ⟨⟨t, rfl⟩, rfl⟩ := hres
          have hC3 := hC2.to ((i + s + off : Nat) : Int)
          generalize H2.set H.length (ctr x ((i + s + off : Nat) : Int)) = H3 at hC3 ⊢
          have hb3 : H3[H.length]? = some (.cells [.agg [x, .int .i64 ((i + s + off : Nat) : Int)]]) := hC3
          have he0 : ((e : Int) != 0) = true := by rcases nextS_bad hnx with rfl | rfl <;> rfl
          rw [lexS_bad hcr2 hm hnx, ← hs] at hlex
          simp only [tokV]
          simp only [WW, partV, eqCells, eqLf, minV, maxV, ifcV, zaa, zab, zac, zad, zae, zaf, zag, zah, zai, ofConst, ofConst1, List.replicate, zaj, zak, loadOp, Go.Abs.loadCells, binV, zal, pickV, zam, zan, zao, zap, zaq, zar, zas, zat, zau, outR, resAll, resOne, zav, zaw, zax, zay, zaz, zba, zbb, zbc, zbd, zbe, zbf, zbg, zbh, zbi, zbj, zbk, storeOp, storeCell, overlay, zbl, zbm, zbn, lookupOp, keyT, okRes, mapUpdateOp, zbo, zbp, zbq, zbr, zbs, zbt, zbu, Nat.reduceSub, Nat.reduceAdd, Int.reduceLT, Int.reduceLE, Int.reduceAdd, Int.reduceSub, Int.reduceToNat, Int.reduceBEq, Int.reduceBNe, Int.reduceMul, Nat.reduceBEq, Nat.reduceBNe, Nat.reduceLT, Nat.reduceLeDiff, Nat.reduceMul, Nat.reduceEqDiff, WD, effB, effH, isPriv, isHeap, isImm, zbx, zby, zbz, chkO, setD, dslot, zca, zcb, zcc, zcd, ptrCells_some, F10, he0]
          refine wC_dr alts10_11 (by kernel_rfl) ?_
          simp only [WW, partV, eqCells, eqLf, minV, maxV, ifcV, zaa, zab, zac, zad, zae, zaf, zag, zah, zai, ofConst, ofConst1, List.replicate, zaj, zak, loadOp, Go.Abs.loadCells, binV, zal, pickV, zam, zan, zao, zap, zaq, zar, zas, zat, zau, outR, resAll, resOne, zav, zaw, zax, zay, zaz, zba, zbb, zbc, zbd, zbe, zbf, zbg, zbh, zbi, zbj, zbk, storeOp, storeCell, overlay, zbl, zbm, zbn, lookupOp, keyT, okRes, mapUpdateOp, zbo, zbp, zbq, zbr, zbs, zbt, zbu, Nat.reduceSub, Nat.reduceAdd, Int.reduceLT, Int.reduceLE, Int.reduceAdd, Int.reduceSub, Int.reduceToNat, Int.reduceBEq, Int.reduceBNe, Int.reduceMul, Nat.reduceBEq, Nat.reduceBNe, Nat.reduceLT, Nat.reduceLeDiff, Nat.reduceMul, Nat.reduceEqDiff, WD, effB, effH, isPriv, isHeap, isImm, zbx, zby, zbz, chkO, setD, dslot, zca, zcb, zcc, zcd, ptrCells_some, F10, hb3, alts10_11]
          rw [hlex]
          rfl
        | tok kd t n len =>
          rw [hnx] at hres
          obtain ⟨rfl, rfl⟩ := hres
          obtain ⟨hl1, hl2⟩ := nextS_len hnx
          have hlr : len ≤ L.length - (i + s) := by rw [← hcr] at hl2; simpa using hl2
          have hC3 := hC2.to ((i + s + len : Nat) : Int)
          have hB3 := hB2.to (ctr x ((i + s + len : Nat) : Int))
          generalize H2.set H.length (ctr x ((i + s + len : Nat) : Int)) = H3 at hC3 hB3 ⊢
          have h00 : ((0 : Int) != 0) = false := rfl
          rw [lexS_tok hcr2 hm hnx, ← hs] at hlex
          have hrd : r.drop (len - 1) = L.drop (i + s + len) := by
            rw [← List.drop_drop, hcr]
            cases len with
            | zero => omega
            | succ j => rfl
          simp only [tokV]
          simp only [WW, partV, eqCells, eqLf, minV, maxV, ifcV, zaa, zab, zac, zad, zae, zaf, zag, zah, zai, ofConst, ofConst1, List.replicate, zaj, zak, loadOp, Go.Abs.loadCells, binV, zal, pickV, zam, zan, zao, zap, zaq, zar, zas, zat, zau, outR, resAll, resOne, zav, zaw, zax, zay, zaz, zba, zbb, zbc, zbd, zbe, zbf, zbg, zbh, zbi, zbj, zbk, storeOp, storeCell, overlay, zbl, zbm, zbn, lookupOp, keyT, okRes, mapUpdateOp, zbo, zbp, zbq, zbr, zbs, zbt, zbu, Nat.reduceSub, Nat.reduceAdd, Int.reduceLT, Int.reduceLE, Int.reduceAdd, Int.reduceSub, Int.reduceToNat, Int.reduceBEq, Int.reduceBNe, Int.reduceMul, Nat.reduceBEq, Nat.reduceBNe, Nat.reduceLT, Nat.reduceLeDiff, Nat.reduceMul, Nat.reduceEqDiff, WD, effB, effH, isPriv, isHeap, isImm, zbx, zby, zbz, chkO, setD, dslot, zca, zcb, zcc, zcd, ptrCells_some, F10, h00, buildSliceV, lits, srcV_eq, srcK_sl, srcK_str, srcSl_nils, srcSl_rsl, srcSl_sl, appendOp, frow, zbv, zbw, List.all_nil, List.all_cons, rowV, Bool.false_and, Bool.and_false, ne_eq, not_false_eq_true, grows_lr, callOut_t, hwt, hw0, q1, q2, q3]
          refine ⟨L.length - (i + s + len), by omega, i + s + len, ts ++ [⟨kd, t, n, i + s⟩], ?_, hC3, hB3, by omega, by simp; omega, by simp; omega, rfl, ?_⟩
          · simp only [WN, firstReg, growAll, zbv, zbw, norm, killS, zag, zah, zaa, zab, zbl, zat, zad, growOne, zae, zaf, zac, zas, zak, Nat.reduceLT, Nat.reduceAdd, zbj, zav, F10, hx.clip2, List.map_append, List.length_append]
            try rfl
          · rw [hlex, hrd, List.length_append]
            simp only [List.length_cons, List.length_nil, Nat.zero_add]
            cases lexS (L.drop (i + s + len)) (i + s + len) (ts.length + 1) with
            | ok l => simp
            | error e => rfl
theorem u22 : Tryd.prog.underlying 22 = some (.slice 5) := by kernel_rfl
theorem u5 : Tryd.prog.underlying 5 = some (.int .u8) := by kernel_rfl
theorem ag5 : isAggT Tryd.prog 5 = false := by kernel_rfl
theorem ag22 : isAggT Tryd.prog 22 = false := by kernel_rfl
theorem open_bytes {d : Nat} {v : List V} (h : Tv Tryd.prog (d + 2) 22 v) : ∃ x L, v = [x] ∧ Bx x L ∧ L.length ≤ maxLen := by
  obtain ⟨x, rows, rfl, hx, hl, hr⟩ := tv_slice h u22
  rw [ag5] at hx
  obtain ⟨L, e, el, _⟩ := rows_map (f := mkV false) (tv := byteV) (Q := fun _ => True) (rows := rows) (fun r hr' => by
    obtain ⟨n, rfl, hn⟩ := tv_int (hr r hr') u5
    have hn2 : 0 ≤ n ∧ n ≤ 255 := by
      simp [Lit.wf, IntKind.min, IntKind.max, IntKind.signed, IntKind.bits] at hn
      omega
    refine ⟨UInt8.ofNat n.toNat, ?_, trivial⟩
    show V.int .u8 n = byteV _
    unfold byteV
    congr 1
    simp; omega)
  rw [e] at hx
  refine ⟨x, L, rfl, ?_, by omega⟩
  rcases (hx []).flat with ⟨rfl, h2⟩ | rfl
  · exact .inl ⟨rfl, by simpa using h2⟩
  · exact .inr rfl
theorem lex_long {H : Hp} {x : V} {L : List UInt8} (hz : Bz H x L) (hL : 65536 < L.length) : wpCall EW 10 [x] H (fun out H' => out = .ret (.tup [.nils, .int .i64 2, .int .i64 0]) false) := by
  refine runs f10 b10 r10 n10 _ _ ?_
  simp only [bodyOf, Tryd.f10, Option.getD_some]
  have hx := hz.rd
  have h65 : decide ((65536 : Int) < (L.length : Int)) = true := decide_eq_true (by omega)
  simp only [WW, partV, eqCells, eqLf, minV, maxV, ifcV, zaa, zab, zac, zad, zae, zaf, zag, zah, zai, ofConst, ofConst1, List.replicate, zaj, zak, loadOp, Go.Abs.loadCells, binV, zal, pickV, zam, zan, zao, zap, zaq, zar, zas, zat, zau, outR, resAll, resOne, zav, zaw, zax, zay, zaz, zba, zbb, zbc, zbd, zbe, zbf, zbg, zbh, zbi, zbj, zbk, storeOp, storeCell, overlay, zbl, zbm, zbn, lookupOp, keyT, okRes, mapUpdateOp, zbo, zbp, zbq, zbr, zbs, zbt, zbu, Nat.reduceSub, Nat.reduceAdd, Int.reduceLT, Int.reduceLE, Int.reduceAdd, Int.reduceSub, Int.reduceToNat, Int.reduceBEq, Int.reduceBNe, Int.reduceMul, Nat.reduceBEq, Nat.reduceBNe, Nat.reduceLT, Nat.reduceLeDiff, Nat.reduceMul, Nat.reduceEqDiff, WD, effB, effH, isPriv, isHeap, isImm, zbx, zby, zbz, chkO, setD, dslot, zca, zcb, zcc, zcd, ptrCells_some, F10, hx.shutIn, hx.len, by8_len, h65]
end Go.Proofs.YtcmndnkeoepmoaaDoor

namespace Go.Proofs.YtcmndnkeoepmoaaDoor
open Go Go.Abs Go.Proofs
set_option maxRecDepth 100000
set_option maxHeartbeats 1000000
set_option linter.unusedVariables false
set_option linter.unusedSimpArgs false
/-! ### the document's lexer -/
theorem noHeapL_by8 : ∀ L : List UInt8, noHeapL (by8 L) = true
  | [] => rfl
  | c :: r => by
    have := noHeapL_by8 r
    simp only [by8, List.map_cons, noHeapL] at this ⊢
    rw [this]; rfl
theorem noHeap_by8 (L : List UInt8) (p : Int) : noHeapL [.rsl (by8 L), .int .i64 p] = true := by
  simp only [noHeapL, noHeap, noHeapL_by8, Bool.and_self]
theorem Bx.noHeap {x : V} {L : List UInt8} (hB : Bx x L) : Abs.noHeap x = true := by
  rcases hB with ⟨rfl, _⟩ | rfl
  · rfl
  · simp only [Abs.noHeap, noHeapL_by8]
theorem u8n (c k : UInt8) : (((c.toNat : Nat) : Int) != ((k.toNat : Nat) : Int)) = !(c == k) := by
  simp only [bne, u8b]
theorem skip_note {c : UInt8} (h : c ≠ 10) (r : List UInt8) : skipN true (c :: r) = 1 + skipN true r := by
  rw [skipN, if_neg h]; simp
theorem skip_ten (b : Bool) (r : List UInt8) : skipN b (10 :: r) = 1 + skipN false r := by
  rw [skipN, if_pos rfl]
theorem skip_hash (b : Bool) (r : List UInt8) : skipN b (35 :: r) = 1 + skipN true r := by
  cases b
  · rw [skipN, if_neg (by decide), if_neg (by decide), if_pos rfl]
  · exact skip_note (by decide) r
theorem skip_blank {c : UInt8} (h : c = 32 ∨ c = 9 ∨ c = 10 ∨ c = 13) (r : List UInt8) : skipN false (c :: r) = 1 + skipN false r := by
  rcases h with rfl | rfl | rfl | rfl
  · rw [skipN, if_neg (by decide), if_pos (by decide)]
  · rw [skipN, if_neg (by decide), if_pos (by decide)]
  · exact skip_ten _ _
  · rw [skipN, if_neg (by decide), if_pos (by decide)]
theorem skip_none {c : UInt8} (h32 : c ≠ 32) (h9 : c ≠ 9) (h10 : c ≠ 10) (h13 : c ≠ 13) (h35 : c ≠ 35) (r : List UInt8) : skipN false (c :: r) = 0 := by
  rw [skipN, if_neg h10, if_neg (by simp [h32, h9, h13]), if_neg h35]
theorem rskip_eq {x : V} {L : List UInt8} (hB : Bx x L) (p : Nat) (hp : p ≤ L.length) (hL : L.length ≤ 4611686018427387904) (H : Hp) :
    EW 22 [x, .int .i64 (p : Int)] H = some (.ret (.int .i64 ((p + skipN false (L.drop p) : Nat) : Int)) false, H) := by
  have hx := hB.rd []
  have ha : noHeapL [x, .int .i64 (p : Int)] = true := by simp only [noHeapL, hB.noHeap, Abs.noHeap, Bool.and_self]
  refine eqOf (runsP f22 b22 r22 n22 _ ha _ ?_)
  simp only [bodyOf, Tryd.f22, Option.getD_some]
  simp only [WW, partV, eqCells, eqLf, minV, maxV, ifcV, zaa, zab, zac, zad, zae, zaf, zag, zah, zai, ofConst, ofConst1, List.replicate, zaj, zak, loadOp, Go.Abs.loadCells, binV, zal, pickV, zam, zan, zao, zap, zaq, zar, zas, zat, zau, outR, resAll, resOne, zav, zaw, zax, zay, zaz, zba, zbb, zbc, zbd, zbe, zbf, zbg, zbh, zbi, zbj, zbk, storeOp, storeCell, overlay, zbl, zbm, zbn, lookupOp, keyT, okRes, mapUpdateOp, zbo, zbp, zbq, zbr, zbs, zbt, zbu, Nat.reduceSub, Nat.reduceAdd, Int.reduceLT, Int.reduceLE, Int.reduceAdd, Int.reduceSub, Int.reduceToNat, Int.reduceBEq, Int.reduceBNe, Int.reduceMul, Nat.reduceBEq, Nat.reduceBNe, Nat.reduceLT, Nat.reduceLeDiff, Nat.reduceMul, Nat.reduceEqDiff, WD, effB, effH, isPriv, isHeap, isImm, zbx, zby, zbz, chkO, setD, dslot, zca, zcb, zcc, zcd, ptrCells_some, F22]
  refine wC_loop _ (fun k st' H' => ∃ i : Nat, st' = ⟨L22_1 (.v x) (.v (.int .i64 (i : Int))), [], []⟩ ∧ H' = [] ∧ p ≤ i ∧ i ≤ L.length ∧ k = L.length - i ∧ i + skipN false (L.drop i) = p + skipN false (L.drop p)) (L.length - p) ⟨p, ?_, rfl, Nat.le_refl _, hp, rfl, rfl⟩ ?_
  · simp only [WN, firstReg, growAll, zbv, zbw, norm, killS, zag, zah, zaa, zab, zbl, zat, zad, growOne, zae, zaf, zac, zas, zak, Nat.reduceLT, Nat.reduceAdd, zbj, zav, F22, L22_1, hx.clip2]
  · rintro k st' H' ⟨i, rfl, rfl, hpi, hi, rfl, hs⟩
    simp only [L22_1]
    simp only [WW, partV, eqCells, eqLf, minV, maxV, ifcV, zaa, zab, zac, zad, zae, zaf, zag, zah, zai, ofConst, ofConst1, List.replicate, zaj, zak, loadOp, Go.Abs.loadCells, binV, zal, pickV, zam, zan, zao, zap, zaq, zar, zas, zat, zau, outR, resAll, resOne, zav, zaw, zax, zay, zaz, zba, zbb, zbc, zbd, zbe, zbf, zbg, zbh, zbi, zbj, zbk, storeOp, storeCell, overlay, zbl, zbm, zbn, lookupOp, keyT, okRes, mapUpdateOp, zbo, zbp, zbq, zbr, zbs, zbt, zbu, Nat.reduceSub, Nat.reduceAdd, Int.reduceLT, Int.reduceLE, Int.reduceAdd, Int.reduceSub, Int.reduceToNat, Int.reduceBEq, Int.reduceBNe, Int.reduceMul, Nat.reduceBEq, Nat.reduceBNe, Nat.reduceLT, Nat.reduceLeDiff, Nat.reduceMul, Nat.reduceEqDiff, WD, effB, effH, isPriv, isHeap, isImm, zbx, zby, zbz, chkO, setD, dslot, zca, zcb, zcc, zcd, ptrCells_some, F22, hx.shutIn, hx.len, by8_len]
    refine cSplit (fun hlt => ?_) (fun hge => ?_)
    · have hi2 : i < L.length := by have := of_decide_eq_true hlt; omega
      have hc : L[i]? = some L[i] := List.getElem?_eq_getElem hi2
      generalize L[i] = c at hc
      have hc8 : (by8 L)[i]? = some (byteV c) := by simp [by8, hc]
      have hat := hx.at_ (sz := 1) hc8 rfl
      have hq1 : IntKind.i64.wrap ((i : Int) + 1) = ((i + 1 : Nat) : Int) := by rw [IntWalk.i64_in _ (by omega)]; omega
      have e35 : (((c.toNat : Nat) : Int) == 35) = (c == 35) := u8b c 35
      have n32 : (((c.toNat : Nat) : Int) != 32) = !(c == 32) := u8n c 32
      have n9 : (((c.toNat : Nat) : Int) != 9) = !(c == 9) := u8n c 9
      have n10 : (((c.toNat : Nat) : Int) != 10) = !(c == 10) := u8n c 10
      have n13 : (((c.toNat : Nat) : Int) != 13) = !(c == 13) := u8n c 13
      simp only [hlt]
      simp only [WW, partV, eqCells, eqLf, minV, maxV, ifcV, zaa, zab, zac, zad, zae, zaf, zag, zah, zai, ofConst, ofConst1, List.replicate, zaj, zak, loadOp, Go.Abs.loadCells, binV, zal, pickV, zam, zan, zao, zap, zaq, zar, zas, zat, zau, outR, resAll, resOne, zav, zaw, zax, zay, zaz, zba, zbb, zbc, zbd, zbe, zbf, zbg, zbh, zbi, zbj, zbk, storeOp, storeCell, overlay, zbl, zbm, zbn, lookupOp, keyT, okRes, mapUpdateOp, zbo, zbp, zbq, zbr, zbs, zbt, zbu, Nat.reduceSub, Nat.reduceAdd, Int.reduceLT, Int.reduceLE, Int.reduceAdd, Int.reduceSub, Int.reduceToNat, Int.reduceBEq, Int.reduceBNe, Int.reduceMul, Nat.reduceBEq, Nat.reduceBNe, Nat.reduceLT, Nat.reduceLeDiff, Nat.reduceMul, Nat.reduceEqDiff, WD, effB, effH, isPriv, isHeap, isImm, zbx, zby, zbz, chkO, setD, dslot, zca, zcb, zcc, zcd, ptrCells_some, F22, hx.shutIn, hat.at1 hx, hat.cells, byteV]
      cases h35 : (c == 35) with
      | true =>
        obtain rfl : c = 35 := by simpa using h35
        simp only [WW, partV, eqCells, eqLf, minV, maxV, ifcV, zaa, zab, zac, zad, zae, zaf, zag, zah, zai, ofConst, ofConst1, List.replicate, zaj, zak, loadOp, Go.Abs.loadCells, binV, zal, pickV, zam, zan, zao, zap, zaq, zar, zas, zat, zau, outR, resAll, resOne, zav, zaw, zax, zay, zaz, zba, zbb, zbc, zbd, zbe, zbf, zbg, zbh, zbi, zbj, zbk, storeOp, storeCell, overlay, zbl, zbm, zbn, lookupOp, keyT, okRes, mapUpdateOp, zbo, zbp, zbq, zbr, zbs, zbt, zbu, Nat.reduceSub, Nat.reduceAdd, Int.reduceLT, Int.reduceLE, Int.reduceAdd, Int.reduceSub, Int.reduceToNat, Int.reduceBEq, Int.reduceBNe, Int.reduceMul, Nat.reduceBEq, Nat.reduceBNe, Nat.reduceLT, Nat.reduceLeDiff, Nat.reduceMul, Nat.reduceEqDiff, WD, effB, effH, isPriv, isHeap, isImm, zbx, zby, zbz, chkO, setD, dslot, zca, zcb, zcc, zcd, ptrCells_some, F22, e35, h35]
        refine wC_loop _ (fun k st' H' => ∃ j : Nat, st' = ⟨L22_4 (.v x) (.v (.int .i64 (j : Int))), [], []⟩ ∧ H' = [] ∧ i ≤ j ∧ j ≤ L.length ∧ k = L.length - j ∧ j + skipN true (L.drop j) = p + skipN false (L.drop p)) (L.length - i) ⟨i, ?_, rfl, Nat.le_refl _, hi, rfl, ?_⟩ ?_
        · simp only [WN, firstReg, growAll, zbv, zbw, norm, killS, zag, zah, zaa, zab, zbl, zat, zad, growOne, zae, zaf, zac, zas, zak, Nat.reduceLT, Nat.reduceAdd, zbj, zav, F22, L22_4, hx.clip2]
        · rw [drop_cons hc, skip_hash] at hs ⊢; exact hs
        · rintro k st' H' ⟨j, rfl, rfl, hij, hj, rfl, hjs⟩
          simp only [L22_4]
          simp only [WW, partV, eqCells, eqLf, minV, maxV, ifcV, zaa, zab, zac, zad, zae, zaf, zag, zah, zai, ofConst, ofConst1, List.replicate, zaj, zak, loadOp, Go.Abs.loadCells, binV, zal, pickV, zam, zan, zao, zap, zaq, zar, zas, zat, zau, outR, resAll, resOne, zav, zaw, zax, zay, zaz, zba, zbb, zbc, zbd, zbe, zbf, zbg, zbh, zbi, zbj, zbk, storeOp, storeCell, overlay, zbl, zbm, zbn, lookupOp, keyT, okRes, mapUpdateOp, zbo, zbp, zbq, zbr, zbs, zbt, zbu, Nat.reduceSub, Nat.reduceAdd, Int.reduceLT, Int.reduceLE, Int.reduceAdd, Int.reduceSub, Int.reduceToNat, Int.reduceBEq, Int.reduceBNe, Int.reduceMul, Nat.reduceBEq, Nat.reduceBNe, Nat.reduceLT, Nat.reduceLeDiff, Nat.reduceMul, Nat.reduceEqDiff, WD, effB, effH, isPriv, isHeap, isImm, zbx, zby, zbz, chkO, setD, dslot, zca, zcb, zcc, zcd, ptrCells_some, F22, hx.shutIn, hx.len, by8_len]
          cases hlj : decide ((j : Int) < (L.length : Int)) with
          | true =>
            have hj2 : j < L.length := by have := of_decide_eq_true hlj; omega
            have hcj : L[j]? = some L[j] := List.getElem?_eq_getElem hj2
            generalize L[j] = cj at hcj
            have hcj8 : (by8 L)[j]? = some (byteV cj) := by simp [by8, hcj]
            have hatj := hx.at_ (sz := 1) hcj8 rfl
            have hqj : IntKind.i64.wrap ((j : Int) + 1) = ((j + 1 : Nat) : Int) := by rw [IntWalk.i64_in _ (by omega)]; omega
            have m10 : (((cj.toNat : Nat) : Int) != 10) = !(cj == 10) := u8n cj 10
            simp only [WW, partV, eqCells, eqLf, minV, maxV, ifcV, zaa, zab, zac, zad, zae, zaf, zag, zah, zai, ofConst, ofConst1, List.replicate, zaj, zak, loadOp, Go.Abs.loadCells, binV, zal, pickV, zam, zan, zao, zap, zaq, zar, zas, zat, zau, outR, resAll, resOne, zav, zaw, zax, zay, zaz, zba, zbb, zbc, zbd, zbe, zbf, zbg, zbh, zbi, zbj, zbk, storeOp, storeCell, overlay, zbl, zbm, zbn, lookupOp, keyT, okRes, mapUpdateOp, zbo, zbp, zbq, zbr, zbs, zbt, zbu, Nat.reduceSub, Nat.reduceAdd, Int.reduceLT, Int.reduceLE, Int.reduceAdd, Int.reduceSub, Int.reduceToNat, Int.reduceBEq, Int.reduceBNe, Int.reduceMul, Nat.reduceBEq, Nat.reduceBNe, Nat.reduceLT, Nat.reduceLeDiff, Nat.reduceMul, Nat.reduceEqDiff, WD, effB, effH, isPriv, isHeap, isImm, zbx, zby, zbz, chkO, setD, dslot, zca, zcb, zcc, zcd, ptrCells_some, F22, hlj, hx.shutIn, hatj.at1 hx, hatj.cells, byteV, m10]
            rw [drop_cons hcj] at hjs
            cases h10 : (cj == 10) with
            | true =>
              obtain rfl : cj = 10 := by simpa using h10
              simp only [WW, partV, eqCells, eqLf, minV, maxV, ifcV, zaa, zab, zac, zad, zae, zaf, zag, zah, zai, ofConst, ofConst1, List.replicate, zaj, zak, loadOp, Go.Abs.loadCells, binV, zal, pickV, zam, zan, zao, zap, zaq, zar, zas, zat, zau, outR, resAll, resOne, zav, zaw, zax, zay, zaz, zba, zbb, zbc, zbd, zbe, zbf, zbg, zbh, zbi, zbj, zbk, storeOp, storeCell, overlay, zbl, zbm, zbn, lookupOp, keyT, okRes, mapUpdateOp, zbo, zbp, zbq, zbr, zbs, zbt, zbu, Nat.reduceSub, Nat.reduceAdd, Int.reduceLT, Int.reduceLE, Int.reduceAdd, Int.reduceSub, Int.reduceToNat, Int.reduceBEq, Int.reduceBNe, Int.reduceMul, Nat.reduceBEq, Nat.reduceBNe, Nat.reduceLT, Nat.reduceLeDiff, Nat.reduceMul, Nat.reduceEqDiff, WD, effB, effH, isPriv, isHeap, isImm, zbx, zby, zbz, chkO, setD, dslot, zca, zcb, zcc, zcd, ptrCells_some, F22]
              have hne : i ≠ j := by rintro rfl; rw [hc] at hcj; cases hcj
              refine ⟨L.length - j, by omega, j, ?_, by omega, hj, rfl, ?_⟩
              · simp only [WN, firstReg, growAll, zbv, zbw, norm, killS, zag, zah, zaa, zab, zbl, zat, zad, growOne, zae, zaf, zac, zas, zak, Nat.reduceLT, Nat.reduceAdd, zbj, zav, F22, hx.clip2]
              · rw [drop_cons hcj, skip_ten]; rw [skip_ten] at hjs; exact hjs
            | false =>
              have n10' : cj ≠ 10 := by simpa using h10
              simp only [WW, partV, eqCells, eqLf, minV, maxV, ifcV, zaa, zab, zac, zad, zae, zaf, zag, zah, zai, ofConst, ofConst1, List.replicate, zaj, zak, loadOp, Go.Abs.loadCells, binV, zal, pickV, zam, zan, zao, zap, zaq, zar, zas, zat, zau, outR, resAll, resOne, zav, zaw, zax, zay, zaz, zba, zbb, zbc, zbd, zbe, zbf, zbg, zbh, zbi, zbj, zbk, storeOp, storeCell, overlay, zbl, zbm, zbn, lookupOp, keyT, okRes, mapUpdateOp, zbo, zbp, zbq, zbr, zbs, zbt, zbu, Nat.reduceSub, Nat.reduceAdd, Int.reduceLT, Int.reduceLE, Int.reduceAdd, Int.reduceSub, Int.reduceToNat, Int.reduceBEq, Int.reduceBNe, Int.reduceMul, Nat.reduceBEq, Nat.reduceBNe, Nat.reduceLT, Nat.reduceLeDiff, Nat.reduceMul, Nat.reduceEqDiff, WD, effB, effH, isPriv, isHeap, isImm, zbx, zby, zbz, chkO, setD, dslot, zca, zcb, zcc, zcd, ptrCells_some, F22, hqj]
              refine ⟨L.length - (j + 1), by omega, j + 1, ?_, by omega, by omega, rfl, ?_⟩
              · simp only [WN, firstReg, growAll, zbv, zbw, norm, killS, zag, zah, zaa, zab, zbl, zat, zad, growOne, zae, zaf, zac, zas, zak, Nat.reduceLT, Nat.reduceAdd, zbj, zav, F22, hx.clip2, hqj]
              · rw [skip_note n10'] at hjs; omega
          | false =>
            have hj2 : j = L.length := by have := of_decide_eq_false hlj; omega
            simp only [WW, partV, eqCells, eqLf, minV, maxV, ifcV, zaa, zab, zac, zad, zae, zaf, zag, zah, zai, ofConst, ofConst1, List.replicate, zaj, zak, loadOp, Go.Abs.loadCells, binV, zal, pickV, zam, zan, zao, zap, zaq, zar, zas, zat, zau, outR, resAll, resOne, zav, zaw, zax, zay, zaz, zba, zbb, zbc, zbd, zbe, zbf, zbg, zbh, zbi, zbj, zbk, storeOp, storeCell, overlay, zbl, zbm, zbn, lookupOp, keyT, okRes, mapUpdateOp, zbo, zbp, zbq, zbr, zbs, zbt, zbu, Nat.reduceSub, Nat.reduceAdd, Int.reduceLT, Int.reduceLE, Int.reduceAdd, Int.reduceSub, Int.reduceToNat, Int.reduceBEq, Int.reduceBNe, Int.reduceMul, Nat.reduceBEq, Nat.reduceBNe, Nat.reduceLT, Nat.reduceLeDiff, Nat.reduceMul, Nat.reduceEqDiff, WD, effB, effH, isPriv, isHeap, isImm, zbx, zby, zbz, chkO, setD, dslot, zca, zcb, zcc, zcd, ptrCells_some, F22, hlj]
            refine ⟨L.length - j, by omega, j, ?_, by omega, hj, rfl, ?_⟩
            · simp only [WN, firstReg, growAll, zbv, zbw, norm, killS, zag, zah, zaa, zab, zbl, zat, zad, growOne, zae, zaf, zac, zas, zak, Nat.reduceLT, Nat.reduceAdd, zbj, zav, F22, hx.clip2]
            · rw [List.drop_of_length_le (by omega)] at hjs ⊢; exact hjs
      | false =>
        have h35' : c ≠ 35 := by simpa using h35
        rw [drop_cons hc] at hs
        have hgo : (c = 32 ∨ c = 9 ∨ c = 10 ∨ c = 13) → skipN false (c :: L.drop (i + 1)) = 1 + skipN false (L.drop (i + 1)) := fun h => skip_blank h _
        cases h32 : (c == 32) with
        | true =>
          rw [hgo (.inl (by simpa using h32))] at hs
          simp only [WW, partV, eqCells, eqLf, minV, maxV, ifcV, zaa, zab, zac, zad, zae, zaf, zag, zah, zai, ofConst, ofConst1, List.replicate, zaj, zak, loadOp, Go.Abs.loadCells, binV, zal, pickV, zam, zan, zao, zap, zaq, zar, zas, zat, zau, outR, resAll, resOne, zav, zaw, zax, zay, zaz, zba, zbb, zbc, zbd, zbe, zbf, zbg, zbh, zbi, zbj, zbk, storeOp, storeCell, overlay, zbl, zbm, zbn, lookupOp, keyT, okRes, mapUpdateOp, zbo, zbp, zbq, zbr, zbs, zbt, zbu, Nat.reduceSub, Nat.reduceAdd, Int.reduceLT, Int.reduceLE, Int.reduceAdd, Int.reduceSub, Int.reduceToNat, Int.reduceBEq, Int.reduceBNe, Int.reduceMul, Nat.reduceBEq, Nat.reduceBNe, Nat.reduceLT, Nat.reduceLeDiff, Nat.reduceMul, Nat.reduceEqDiff, WD, effB, effH, isPriv, isHeap, isImm, zbx, zby, zbz, chkO, setD, dslot, zca, zcb, zcc, zcd, ptrCells_some, F22, e35, h35, n32, n9, n10, n13, h32, hq1]
          refine ⟨L.length - (i + 1), by omega, i + 1, ?_, by omega, by omega, rfl, by omega⟩
          simp only [WN, firstReg, growAll, zbv, zbw, norm, killS, zag, zah, zaa, zab, zbl, zat, zad, growOne, zae, zaf, zac, zas, zak, Nat.reduceLT, Nat.reduceAdd, zbj, zav, F22, hx.clip2, hq1]
        | false =>
          cases h9 : (c == 9) with
          | true =>
            rw [hgo (.inr (.inl (by simpa using h9)))] at hs
            simp only [WW, partV, eqCells, eqLf, minV, maxV, ifcV, zaa, zab, zac, zad, zae, zaf, zag, zah, zai, ofConst, ofConst1, List.replicate, zaj, zak, loadOp, Go.Abs.loadCells, binV, zal, pickV, zam, zan, zao, zap, zaq, zar, zas, zat, zau, outR, resAll, resOne, zav, zaw, zax, zay, zaz, zba, zbb, zbc, zbd, zbe, zbf, zbg, zbh, zbi, zbj, zbk, storeOp, storeCell, overlay, zbl, zbm, zbn, lookupOp, keyT, okRes, mapUpdateOp, zbo, zbp, zbq, zbr, zbs, zbt, zbu, Nat.reduceSub, Nat.reduceAdd, Int.reduceLT, Int.reduceLE, Int.reduceAdd, Int.reduceSub, Int.reduceToNat, Int.reduceBEq, Int.reduceBNe, Int.reduceMul, Nat.reduceBEq, Nat.reduceBNe, Nat.reduceLT, Nat.reduceLeDiff, Nat.reduceMul, Nat.reduceEqDiff, WD, effB, effH, isPriv, isHeap, isImm, zbx, zby, zbz, chkO, setD, dslot, zca, zcb, zcc, zcd, ptrCells_some, F22, e35, h35, n32, n9, n10, n13, h32, h9, hq1]
            refine ⟨L.length - (i + 1), by omega, i + 1, ?_, by omega, by omega, rfl, by omega⟩
            simp only [WN, firstReg, growAll, zbv, zbw, norm, killS, zag, zah, zaa, zab, zbl, zat, zad, growOne, zae, zaf, zac, zas, zak, Nat.reduceLT, Nat.reduceAdd, zbj, zav, F22, hx.clip2, hq1]
          | false =>
            cases h10 : (c == 10) with
            | true =>
              rw [hgo (.inr (.inr (.inl (by simpa using h10))))] at hs
              simp only [WW, partV, eqCells, eqLf, minV, maxV, ifcV, zaa, zab, zac, zad, zae, zaf, zag, zah, zai, ofConst, ofConst1, List.replicate, zaj, zak, loadOp, Go.Abs.loadCells, binV, zal, pickV, zam, zan, zao, zap, zaq, zar, zas, zat, zau, outR, resAll, resOne, zav, zaw, zax, zay, zaz, zba, zbb, zbc, zbd, zbe, zbf, zbg, zbh, zbi, zbj, zbk, storeOp, storeCell, overlay, zbl, zbm, zbn, lookupOp, keyT, okRes, mapUpdateOp, zbo, zbp, zbq, zbr, zbs, zbt, zbu, Nat.reduceSub, Nat.reduceAdd, Int.reduceLT, Int.reduceLE, Int.reduceAdd, Int.reduceSub, Int.reduceToNat, Int.reduceBEq, Int.reduceBNe, Int.reduceMul, Nat.reduceBEq, Nat.reduceBNe, Nat.reduceLT, Nat.reduceLeDiff, Nat.reduceMul, Nat.reduceEqDiff, WD, effB, effH, isPriv, isHeap, isImm, zbx, zby, zbz, chkO, setD, dslot, zca, zcb, zcc, zcd, ptrCells_some, F22, e35, h35, n32, n9, n10, n13, h32, h9, h10, hq1]
              refine ⟨L.length - (i + 1), by omega, i + 1, ?_, by omega, by omega, rfl, by omega⟩
              simp only [WN, firstReg, growAll, zbv, zbw, norm, killS, zag, zah, zaa, zab, zbl, zat, zad, growOne, zae, zaf, zac, zas, zak, Nat.reduceLT, Nat.reduceAdd, zbj, zav, F22, hx.clip2, hq1]
            | false =>
              cases h13 : (c == 13) with
              | true =>
                rw [hgo (.inr (.inr (.inr (by simpa using h13))))] at hs
                simp only [WW, partV, eqCells, eqLf, minV, maxV, ifcV, zaa, zab, zac, zad, zae, zaf, zag, zah, zai, ofConst, ofConst1, List.replicate, zaj, zak, loadOp, Go.Abs.loadCells, binV, zal, pickV, zam, zan, zao, zap, zaq, zar, zas, zat, zau, outR, resAll, resOne, zav, zaw, zax, zay, zaz, zba, zbb, zbc, zbd, zbe, zbf, zbg, zbh, zbi, zbj, zbk, storeOp, storeCell, overlay, zbl, zbm, zbn, lookupOp, keyT, okRes, mapUpdateOp, zbo, zbp, zbq, zbr, zbs, zbt, zbu, Nat.reduceSub, Nat.reduceAdd, Int.reduceLT, Int.reduceLE, Int.reduceAdd, Int.reduceSub, Int.reduceToNat, Int.reduceBEq, Int.reduceBNe, Int.reduceMul, Nat.reduceBEq, Nat.reduceBNe, Nat.reduceLT, Nat.reduceLeDiff, Nat.reduceMul, Nat.reduceEqDiff, WD, effB, effH, isPriv, isHeap, isImm, zbx, zby, zbz, chkO, setD, dslot, zca, zcb, zcc, zcd, ptrCells_some, F22, e35, h35, n32, n9, n10, n13, h32, h9, h10, h13, hq1]
                refine ⟨L.length - (i + 1), by omega, i + 1, ?_, by omega, by omega, rfl, by omega⟩
                simp only [WN, firstReg, growAll, zbv, zbw, norm, killS, zag, zah, zaa, zab, zbl, zat, zad, growOne, zae, zaf, zac, zas, zak, Nat.reduceLT, Nat.reduceAdd, zbj, zav, F22, hx.clip2, hq1]
              | false =>
                rw [skip_none (by simpa using h32) (by simpa using h9) (by simpa using h10) (by simpa using h13) h35'] at hs
                simp only [WW, partV, eqCells, eqLf, minV, maxV, ifcV, zaa, zab, zac, zad, zae, zaf, zag, zah, zai, ofConst, ofConst1, List.replicate, zaj, zak, loadOp, Go.Abs.loadCells, binV, zal, pickV, zam, zan, zao, zap, zaq, zar, zas, zat, zau, outR, resAll, resOne, zav, zaw, zax, zay, zaz, zba, zbb, zbc, zbd, zbe, zbf, zbg, zbh, zbi, zbj, zbk, storeOp, storeCell, overlay, zbl, zbm, zbn, lookupOp, keyT, okRes, mapUpdateOp, zbo, zbp, zbq, zbr, zbs, zbt, zbu, Nat.reduceSub, Nat.reduceAdd, Int.reduceLT, Int.reduceLE, Int.reduceAdd, Int.reduceSub, Int.reduceToNat, Int.reduceBEq, Int.reduceBNe, Int.reduceMul, Nat.reduceBEq, Nat.reduceBNe, Nat.reduceLT, Nat.reduceLeDiff, Nat.reduceMul, Nat.reduceEqDiff, WD, effB, effH, isPriv, isHeap, isImm, zbx, zby, zbz, chkO, setD, dslot, zca, zcb, zcc, zcd, ptrCells_some, F22, e35, h35, n32, n9, n10, n13, h32, h9, h10, h13]
                rw [← hs]
                exact ⟨rfl, rfl⟩
    · have hi2 : i = L.length := by have := of_decide_eq_false hge; omega
      simp only [hge]
      simp only [WW, partV, eqCells, eqLf, minV, maxV, ifcV, zaa, zab, zac, zad, zae, zaf, zag, zah, zai, ofConst, ofConst1, List.replicate, zaj, zak, loadOp, Go.Abs.loadCells, binV, zal, pickV, zam, zan, zao, zap, zaq, zar, zas, zat, zau, outR, resAll, resOne, zav, zaw, zax, zay, zaz, zba, zbb, zbc, zbd, zbe, zbf, zbg, zbh, zbi, zbj, zbk, storeOp, storeCell, overlay, zbl, zbm, zbn, lookupOp, keyT, okRes, mapUpdateOp, zbo, zbp, zbq, zbr, zbs, zbt, zbu, Nat.reduceSub, Nat.reduceAdd, Int.reduceLT, Int.reduceLE, Int.reduceAdd, Int.reduceSub, Int.reduceToNat, Int.reduceBEq, Int.reduceBNe, Int.reduceMul, Nat.reduceBEq, Nat.reduceBNe, Nat.reduceLT, Nat.reduceLeDiff, Nat.reduceMul, Nat.reduceEqDiff, WD, effB, effH, isPriv, isHeap, isImm, zbx, zby, zbz, chkO, setD, dslot, zca, zcb, zcc, zcd, ptrCells_some, F22]
      rw [List.drop_of_length_le (by omega)] at hs
      rw [← hs]
      exact ⟨rfl, rfl⟩
def hexs : List UInt8 := [48, 49, 50, 51, 52, 53, 54, 55, 56, 57, 97, 98, 99, 100, 101, 102, 65, 66, 67, 68, 69, 70]
theorem hex_at (c : UInt8) (i : Nat) (h : hexs[i]? = some c) : hexI c = if 15 < i then ((i - 6 : Nat) : Int) else (i : Int) := by
  have hi : i < 22 := (List.getElem?_eq_some_iff.1 h).1
  match i, hi with
  | 0, _ => cases h; rfl
  | 1, _ => cases h; rfl
  | 2, _ => cases h; rfl
  | 3, _ => cases h; rfl
  | 4, _ => cases h; rfl
  | 5, _ => cases h; rfl
  | 6, _ => cases h; rfl
  | 7, _ => cases h; rfl
  | 8, _ => cases h; rfl
  | 9, _ => cases h; rfl
  | 10, _ => cases h; rfl
  | 11, _ => cases h; rfl
  | 12, _ => cases h; rfl
  | 13, _ => cases h; rfl
  | 14, _ => cases h; rfl
  | 15, _ => cases h; rfl
  | 16, _ => cases h; rfl
  | 17, _ => cases h; rfl
  | 18, _ => cases h; rfl
  | 19, _ => cases h; rfl
  | 20, _ => cases h; rfl
  | 21, _ => cases h; rfl
  | n + 22, hh => omega
theorem hex_none (c : UInt8) (h : c ∉ hexs) : hexI c = -1 := by
  have : hexN c = none := by
    have ne : ∀ k, k ∈ hexs → c ≠ k := fun k hk e => h (e ▸ hk)
    have hn : ∀ k : Nat, k < 256 → (∃ u ∈ hexs, u.toNat = k) → c.toNat ≠ k := fun k _ ⟨u, hu, e⟩ h2 => ne u hu (UInt8.toNat_inj.1 (h2.trans e.symm))
    unfold hexN
    have hlt := c.toNat_lt
    have all : ∀ k : Fin 256, (48 ≤ k.val ∧ k.val ≤ 57) ∨ (97 ≤ k.val ∧ k.val ≤ 102) ∨ (65 ≤ k.val ∧ k.val ≤ 70) → ∃ u ∈ hexs, u.toNat = k.val := by decide +kernel
    by_cases hb : (48 ≤ c.toNat ∧ c.toNat ≤ 57) ∨ (97 ≤ c.toNat ∧ c.toNat ≤ 102) ∨ (65 ≤ c.toNat ∧ c.toNat ≤ 70)
    · exact absurd rfl (hn c.toNat (by omega) (all ⟨c.toNat, by omega⟩ hb))
    · rw [if_neg (by omega), if_neg (by omega), if_neg (by omega)]
  unfold hexI; rw [this]
theorem rhexit_eq (c : UInt8) (H : Hp) : EW 35 [.int .u8 (c.toNat : Int)] H = some (.ret (.int .i64 (hexI c)) false, H) := by
  refine eqOf (runsP f35 b35 r35 n35 _ rfl _ ?_)
  simp only [bodyOf, Tryd.f35, Option.getD_some]
  simp only [WW, partV, eqCells, eqLf, minV, maxV, ifcV, zaa, zab, zac, zad, zae, zaf, zag, zah, zai, ofConst, ofConst1, List.replicate, zaj, zak, loadOp, Go.Abs.loadCells, binV, zal, pickV, zam, zan, zao, zap, zaq, zar, zas, zat, zau, outR, resAll, resOne, zav, zaw, zax, zay, zaz, zba, zbb, zbc, zbd, zbe, zbf, zbg, zbh, zbi, zbj, zbk, storeOp, storeCell, overlay, zbl, zbm, zbn, lookupOp, keyT, okRes, mapUpdateOp, zbo, zbp, zbq, zbr, zbs, zbt, zbu, Nat.reduceSub, Nat.reduceAdd, Int.reduceLT, Int.reduceLE, Int.reduceAdd, Int.reduceSub, Int.reduceToNat, Int.reduceBEq, Int.reduceBNe, Int.reduceMul, Nat.reduceBEq, Nat.reduceBNe, Nat.reduceLT, Nat.reduceLeDiff, Nat.reduceMul, Nat.reduceEqDiff, WD, effB, effH, isPriv, isHeap, isImm, zbx, zby, zbz, chkO, setD, dslot, zca, zcb, zcc, zcd, ptrCells_some, F35]
  refine wC_loop _ (fun k st' H' => ∃ i : Nat, st' = ⟨L35_3 (.v (.int .u8 (c.toNat : Int))) (.v (.str ⟨hexs.toArray⟩)) (.v (.int .i64 (i : Int))), [], []⟩ ∧ H' = [] ∧ i ≤ 22 ∧ k = 22 - i ∧ ∀ j u, j < i → hexs[j]? = some u → (u == c) = false) 22 ⟨0, ?_, rfl, by omega, rfl, fun j u hj => by omega⟩ ?_
  · simp only [WN, firstReg, growAll, zbv, zbw, norm, killS, zag, zah, zaa, zab, zbl, zat, zad, growOne, zae, zaf, zac, zas, zak, Nat.reduceLT, Nat.reduceAdd, zbj, zav, F35, L35_3]
    rfl
  · rintro k st' H' ⟨i, rfl, rfl, hi, rfl, hno⟩
    simp only [L35_3]
    have hsz : (⟨hexs.toArray⟩ : ByteArray).size = 22 := rfl
    simp only [WW, partV, eqCells, eqLf, minV, maxV, ifcV, zaa, zab, zac, zad, zae, zaf, zag, zah, zai, ofConst, ofConst1, List.replicate, zaj, zak, loadOp, Go.Abs.loadCells, binV, zal, pickV, zam, zan, zao, zap, zaq, zar, zas, zat, zau, outR, resAll, resOne, zav, zaw, zax, zay, zaz, zba, zbb, zbc, zbd, zbe, zbf, zbg, zbh, zbi, zbj, zbk, storeOp, storeCell, overlay, zbl, zbm, zbn, lookupOp, keyT, okRes, mapUpdateOp, zbo, zbp, zbq, zbr, zbs, zbt, zbu, Nat.reduceSub, Nat.reduceAdd, Int.reduceLT, Int.reduceLE, Int.reduceAdd, Int.reduceSub, Int.reduceToNat, Int.reduceBEq, Int.reduceBNe, Int.reduceMul, Nat.reduceBEq, Nat.reduceBNe, Nat.reduceLT, Nat.reduceLeDiff, Nat.reduceMul, Nat.reduceEqDiff, WD, effB, effH, isPriv, isHeap, isImm, zbx, zby, zbz, chkO, setD, dslot, zca, zcb, zcc, zcd, ptrCells_some, F35, hsz]
    refine cSplit (fun hlt => ?_) (fun hge => ?_)
    · have hi2 : i < 22 := by have := of_decide_eq_true hlt; omega
      have hlen : hexs.length = 22 := rfl
      have hs : hexs[i]? = some (hexs[i]'(by omega)) := List.getElem?_eq_getElem _
      generalize hexs[i]'_ = u at hs
      have eu : (((u.toNat : Nat) : Int) == ((c.toNat : Nat) : Int)) = (u == c) := u8b u c
      simp only [hlt]
      simp only [WW, partV, eqCells, eqLf, minV, maxV, ifcV, zaa, zab, zac, zad, zae, zaf, zag, zah, zai, ofConst, ofConst1, List.replicate, zaj, zak, loadOp, Go.Abs.loadCells, binV, zal, pickV, zam, zan, zao, zap, zaq, zar, zas, zat, zau, outR, resAll, resOne, zav, zaw, zax, zay, zaz, zba, zbb, zbc, zbd, zbe, zbf, zbg, zbh, zbi, zbj, zbk, storeOp, storeCell, overlay, zbl, zbm, zbn, lookupOp, keyT, okRes, mapUpdateOp, zbo, zbp, zbq, zbr, zbs, zbt, zbu, Nat.reduceSub, Nat.reduceAdd, Int.reduceLT, Int.reduceLE, Int.reduceAdd, Int.reduceSub, Int.reduceToNat, Int.reduceBEq, Int.reduceBNe, Int.reduceMul, Nat.reduceBEq, Nat.reduceBNe, Nat.reduceLT, Nat.reduceLeDiff, Nat.reduceMul, Nat.reduceEqDiff, WD, effB, effH, isPriv, isHeap, isImm, zbx, zby, zbz, chkO, setD, dslot, zca, zcb, zcc, zcd, ptrCells_some, F35, List.toList_toArray, hs, eu]
      cases h : (u == c) with
      | true =>
        obtain rfl : u = c := by simpa using h
        have hx := hex_at _ i hs
        by_cases h15 : 15 < i
        · have g : decide ((15 : Int) < (i : Int)) = true := decide_eq_true (by omega)
          have hw : IntKind.i64.wrap ((i : Int) - 6) = ((i - 6 : Nat) : Int) := by rw [IntWalk.i64_in _ (by omega)]; omega
          simp only [WW, partV, eqCells, eqLf, minV, maxV, ifcV, zaa, zab, zac, zad, zae, zaf, zag, zah, zai, ofConst, ofConst1, List.replicate, zaj, zak, loadOp, Go.Abs.loadCells, binV, zal, pickV, zam, zan, zao, zap, zaq, zar, zas, zat, zau, outR, resAll, resOne, zav, zaw, zax, zay, zaz, zba, zbb, zbc, zbd, zbe, zbf, zbg, zbh, zbi, zbj, zbk, storeOp, storeCell, overlay, zbl, zbm, zbn, lookupOp, keyT, okRes, mapUpdateOp, zbo, zbp, zbq, zbr, zbs, zbt, zbu, Nat.reduceSub, Nat.reduceAdd, Int.reduceLT, Int.reduceLE, Int.reduceAdd, Int.reduceSub, Int.reduceToNat, Int.reduceBEq, Int.reduceBNe, Int.reduceMul, Nat.reduceBEq, Nat.reduceBNe, Nat.reduceLT, Nat.reduceLeDiff, Nat.reduceMul, Nat.reduceEqDiff, WD, effB, effH, isPriv, isHeap, isImm, zbx, zby, zbz, chkO, setD, dslot, zca, zcb, zcc, zcd, ptrCells_some, F35, g, hw]
          rw [hx, if_pos h15]
          exact ⟨rfl, rfl⟩
        · have g : decide ((15 : Int) < (i : Int)) = false := decide_eq_false (by omega)
          simp only [WW, partV, eqCells, eqLf, minV, maxV, ifcV, zaa, zab, zac, zad, zae, zaf, zag, zah, zai, ofConst, ofConst1, List.replicate, zaj, zak, loadOp, Go.Abs.loadCells, binV, zal, pickV, zam, zan, zao, zap, zaq, zar, zas, zat, zau, outR, resAll, resOne, zav, zaw, zax, zay, zaz, zba, zbb, zbc, zbd, zbe, zbf, zbg, zbh, zbi, zbj, zbk, storeOp, storeCell, overlay, zbl, zbm, zbn, lookupOp, keyT, okRes, mapUpdateOp, zbo, zbp, zbq, zbr, zbs, zbt, zbu, Nat.reduceSub, Nat.reduceAdd, Int.reduceLT, Int.reduceLE, Int.reduceAdd, Int.reduceSub, Int.reduceToNat, Int.reduceBEq, Int.reduceBNe, Int.reduceMul, Nat.reduceBEq, Nat.reduceBNe, Nat.reduceLT, Nat.reduceLeDiff, Nat.reduceMul, Nat.reduceEqDiff, WD, effB, effH, isPriv, isHeap, isImm, zbx, zby, zbz, chkO, setD, dslot, zca, zcb, zcc, zcd, ptrCells_some, F35, g]
          rw [hx, if_neg h15]
          exact ⟨rfl, rfl⟩
      | false =>
        have hq1 : IntKind.i64.wrap ((i : Int) + 1) = ((i + 1 : Nat) : Int) := by rw [IntWalk.i64_in _ (by omega)]; omega
        simp only [WW, partV, eqCells, eqLf, minV, maxV, ifcV, zaa, zab, zac, zad, zae, zaf, zag, zah, zai, ofConst, ofConst1, List.replicate, zaj, zak, loadOp, Go.Abs.loadCells, binV, zal, pickV, zam, zan, zao, zap, zaq, zar, zas, zat, zau, outR, resAll, resOne, zav, zaw, zax, zay, zaz, zba, zbb, zbc, zbd, zbe, zbf, zbg, zbh, zbi, zbj, zbk, storeOp, storeCell, overlay, zbl, zbm, zbn, lookupOp, keyT, okRes, mapUpdateOp, zbo, zbp, zbq, zbr, zbs, zbt, zbu, Nat.reduceSub, Nat.reduceAdd, Int.reduceLT, Int.reduceLE, Int.reduceAdd, Int.reduceSub, Int.reduceToNat, Int.reduceBEq, Int.reduceBNe, Int.reduceMul, Nat.reduceBEq, Nat.reduceBNe, Nat.reduceLT, Nat.reduceLeDiff, Nat.reduceMul, Nat.reduceEqDiff, WD, effB, effH, isPriv, isHeap, isImm, zbx, zby, zbz, chkO, setD, dslot, zca, zcb, zcc, zcd, ptrCells_some, F35, hq1]
        refine ⟨22 - (i + 1), by omega, i + 1, ?_, by omega, rfl, fun j v hj hv => ?_⟩
        · simp only [WN, firstReg, growAll, zbv, zbw, norm, killS, zag, zah, zaa, zab, zbl, zat, zad, growOne, zae, zaf, zac, zas, zak, Nat.reduceLT, Nat.reduceAdd, zbj, zav, F35, hq1]
          try rfl
        · by_cases e : j = i
          · subst e; rw [hs] at hv; cases hv; exact h
          · exact hno j v (by omega) hv
    · have hi2 : i = 22 := by have := of_decide_eq_false hge; omega
      subst hi2
      simp only [hge]
      simp only [WW, partV, eqCells, eqLf, minV, maxV, ifcV, zaa, zab, zac, zad, zae, zaf, zag, zah, zai, ofConst, ofConst1, List.replicate, zaj, zak, loadOp, Go.Abs.loadCells, binV, zal, pickV, zam, zan, zao, zap, zaq, zar, zas, zat, zau, outR, resAll, resOne, zav, zaw, zax, zay, zaz, zba, zbb, zbc, zbd, zbe, zbf, zbg, zbh, zbi, zbj, zbk, storeOp, storeCell, overlay, zbl, zbm, zbn, lookupOp, keyT, okRes, mapUpdateOp, zbo, zbp, zbq, zbr, zbs, zbt, zbu, Nat.reduceSub, Nat.reduceAdd, Int.reduceLT, Int.reduceLE, Int.reduceAdd, Int.reduceSub, Int.reduceToNat, Int.reduceBEq, Int.reduceBNe, Int.reduceMul, Nat.reduceBEq, Nat.reduceBNe, Nat.reduceLT, Nat.reduceLeDiff, Nat.reduceMul, Nat.reduceEqDiff, WD, effB, effH, isPriv, isHeap, isImm, zbx, zby, zbz, chkO, setD, dslot, zca, zcb, zcc, zcd, ptrCells_some, F35]
      rw [hex_none c (fun hm => by
        obtain ⟨j, hj, e⟩ := List.getElem_of_mem hm
        have h22 : hexs.length = 22 := rfl
        have := hno j c (by omega) (by rw [List.getElem?_eq_getElem hj, e])
        simp at this)]
      exact ⟨rfl, rfl⟩
end Go.Proofs.YtcmndnkeoepmoaaDoor

namespace Go.Proofs.YtcmndnkeoepmoaaDoor
open Go Go.Abs Go.Proofs
set_option maxRecDepth 100000
set_option maxHeartbeats 1000000
set_option linter.unusedVariables false
set_option linter.unusedSimpArgs false
/-- What the document's functions answer of a token -/
def rxR (p : Nat) (nx : Nx) (out : Out) : Prop := match nx with
  | .tok k t n len => out = .ret (.tup [tokV ⟨k, t, n, p⟩, .int .i64 ((p + len : Nat) : Int), .int .i64 0]) false
  | .bad e off => ∃ t : Tk, out = .ret (.tup [tokV t, .int .i64 ((p + off : Nat) : Int), .int .i64 e]) false
theorem Bx.ha {x : V} {L : List UInt8} (hB : Bx x L) (p : Int) : noHeapL [x, .int .i64 p] = true := by
  simp only [noHeapL, hB.noHeap, Abs.noHeap, Bool.and_self]
theorem rsign_spec {H : Hp} {x : V} {L : List UInt8} {p : Nat} {c : UInt8} {r : List UInt8} (hB : Bx x L) (hcr : L.drop p = c :: r) (hL : L.length ≤ 65536) :
    wpCall EW 27 [x, .int .i64 (p : Int)] H (fun out H' => rxR p (signS c r) out ∧ H' = H) := by
  have hp : p < L.length := by
    have := congrArg List.length hcr
    simp at this; omega
  have hc : L[p]? = some c := by
    have : (L.drop p)[0]? = some c := by rw [hcr]; rfl
    simpa using this
  have hr0 : r.head? = L[p + 1]? := by
    have : r = L.drop (p + 1) := by rw [← List.drop_drop, hcr]; rfl
    rw [this, List.head?_drop]
  have hx := hB.rd []
  have hc8 : (by8 L)[p]? = some (byteV c) := by simp [by8, hc]
  have hat := hx.at_ (sz := 1) hc8 rfl
  have hp1 : IntKind.i64.wrap ((p : Int) + 1) = ((p + 1 : Nat) : Int) := by rw [IntWalk.i64_in _ (by omega)]; omega
  have hp2 : IntKind.i64.wrap ((p : Int) + 2) = ((p + 2 : Nat) : Int) := by rw [IntWalk.i64_in _ (by omega)]; omega
  have e61 : (((c.toNat : Nat) : Int) == 61) = (c == 61) := u8b c 61
  have e33 : (((c.toNat : Nat) : Int) == 33) = (c == 33) := u8b c 33
  have e60 : (((c.toNat : Nat) : Int) == 60) = (c == 60) := u8b c 60
  have e62 : (((c.toNat : Nat) : Int) == 62) = (c == 62) := u8b c 62
  refine runsP f27 b27 r27 n27 _ (hB.ha _) _ ?_
  simp only [bodyOf, Tryd.f27, Option.getD_some]
  simp only [WW, partV, eqCells, eqLf, minV, maxV, ifcV, zaa, zab, zac, zad, zae, zaf, zag, zah, zai, ofConst, ofConst1, List.replicate, zaj, zak, loadOp, Go.Abs.loadCells, binV, zal, pickV, zam, zan, zao, zap, zaq, zar, zas, zat, zau, outR, resAll, resOne, zav, zaw, zax, zay, zaz, zba, zbb, zbc, zbd, zbe, zbf, zbg, zbh, zbi, zbj, zbk, storeOp, storeCell, overlay, zbl, zbm, zbn, lookupOp, keyT, okRes, mapUpdateOp, zbo, zbp, zbq, zbr, zbs, zbt, zbu, Nat.reduceSub, Nat.reduceAdd, Int.reduceLT, Int.reduceLE, Int.reduceAdd, Int.reduceSub, Int.reduceToNat, Int.reduceBEq, Int.reduceBNe, Int.reduceMul, Nat.reduceBEq, Nat.reduceBNe, Nat.reduceLT, Nat.reduceLeDiff, Nat.reduceMul, Nat.reduceEqDiff, WD, effB, effH, isPriv, isHeap, isImm, zbx, zby, zbz, chkO, setD, dslot, zca, zcb, zcc, zcd, ptrCells_some, F27, hx.shutIn, hx.len, by8_len, hat.at1 hx, hat.cells, byteV, buildOp, fillV, Lay.place, Bool.or_self, Bool.or_false, Bool.false_or, decide_not, ne_eq, not_true_eq_false, decide_eq_true_eq, Nat.lt_irrefl, hp1]
  by_cases h2 : L[p + 1]? = some 61 ∧ (c = 61 ∨ c = 33 ∨ c = 60 ∨ c = 62)
  · obtain ⟨hd, hcc⟩ := h2
    have hdl := (List.getElem?_eq_some_iff.1 hd).1
    have hd8 : (by8 L)[p + 1]? = some (byteV 61) := by simp [by8, hd]
    have hat1 := hx.at_ (sz := 1) hd8 rfl
    have g1 : decide (((p + 1 : Nat) : Int) < (L.length : Int)) = true := decide_eq_true (by omega)
    have z61 : ((((61 : UInt8).toNat : Nat) : Int) == 61) = true := rfl
    obtain ⟨y, hcut, hy⟩ := hB.cut (p := p) (q := p + 2) (by omega) (by omega) []
    have hyl : (L.take (p + 2)).drop p = [c, 61] := by
      rw [List.drop_take, drop_cons hc, drop_cons hd, show p + 2 - p = 2 by omega]; rfl
    rw [hyl] at hy
    have hs : signS c r = .tok 5 [c, 61] 0 2 := by unfold signS; rw [if_pos ⟨by rw [hr0, hd], hcc⟩]
    rw [hs]
    cases h61 : (c == 61) with
    | true =>
      simp only [WW, partV, eqCells, eqLf, minV, maxV, ifcV, zaa, zab, zac, zad, zae, zaf, zag, zah, zai, ofConst, ofConst1, List.replicate, zaj, zak, loadOp, Go.Abs.loadCells, binV, zal, pickV, zam, zan, zao, zap, zaq, zar, zas, zat, zau, outR, resAll, resOne, zav, zaw, zax, zay, zaz, zba, zbb, zbc, zbd, zbe, zbf, zbg, zbh, zbi, zbj, zbk, storeOp, storeCell, overlay, zbl, zbm, zbn, lookupOp, keyT, okRes, mapUpdateOp, zbo, zbp, zbq, zbr, zbs, zbt, zbu, Nat.reduceSub, Nat.reduceAdd, Int.reduceLT, Int.reduceLE, Int.reduceAdd, Int.reduceSub, Int.reduceToNat, Int.reduceBEq, Int.reduceBNe, Int.reduceMul, Nat.reduceBEq, Nat.reduceBNe, Nat.reduceLT, Nat.reduceLeDiff, Nat.reduceMul, Nat.reduceEqDiff, WD, effB, effH, isPriv, isHeap, isImm, zbx, zby, zbz, chkO, setD, dslot, zca, zcb, zcc, zcd, ptrCells_some, F27, g1, hx.shutIn, hat1.at1 hx, hat1.cells, byteV, z61, e61, h61, hp1, hp2, hcut, (hy.rd []).shutIn, str_rd (hy.rd []), Option.map_none]
      first | exact ⟨rfl, rfl, rfl⟩ | exact ⟨rfl, rfl⟩ | exact rfl
    | false =>
      cases h33 : (c == 33) with
      | true =>
        simp only [WW, partV, eqCells, eqLf, minV, maxV, ifcV, zaa, zab, zac, zad, zae, zaf, zag, zah, zai, ofConst, ofConst1, List.replicate, zaj, zak, loadOp, Go.Abs.loadCells, binV, zal, pickV, zam, zan, zao, zap, zaq, zar, zas, zat, zau, outR, resAll, resOne, zav, zaw, zax, zay, zaz, zba, zbb, zbc, zbd, zbe, zbf, zbg, zbh, zbi, zbj, zbk, storeOp, storeCell, overlay, zbl, zbm, zbn, lookupOp, keyT, okRes, mapUpdateOp, zbo, zbp, zbq, zbr, zbs, zbt, zbu, Nat.reduceSub, Nat.reduceAdd, Int.reduceLT, Int.reduceLE, Int.reduceAdd, Int.reduceSub, Int.reduceToNat, Int.reduceBEq, Int.reduceBNe, Int.reduceMul, Nat.reduceBEq, Nat.reduceBNe, Nat.reduceLT, Nat.reduceLeDiff, Nat.reduceMul, Nat.reduceEqDiff, WD, effB, effH, isPriv, isHeap, isImm, zbx, zby, zbz, chkO, setD, dslot, zca, zcb, zcc, zcd, ptrCells_some, F27, g1, hx.shutIn, hat1.at1 hx, hat1.cells, byteV, z61, e61, h61, e33, h33, hp1, hp2, hcut, (hy.rd []).shutIn, str_rd (hy.rd []), Option.map_none]
        first | exact ⟨rfl, rfl, rfl⟩ | exact ⟨rfl, rfl⟩ | exact rfl
      | false =>
        cases h60 : (c == 60) with
        | true =>
          simp only [WW, partV, eqCells, eqLf, minV, maxV, ifcV, zaa, zab, zac, zad, zae, zaf, zag, zah, zai, ofConst, ofConst1, List.replicate, zaj, zak, loadOp, Go.Abs.loadCells, binV, zal, pickV, zam, zan, zao, zap, zaq, zar, zas, zat, zau, outR, resAll, resOne, zav, zaw, zax, zay, zaz, zba, zbb, zbc, zbd, zbe, zbf, zbg, zbh, zbi, zbj, zbk, storeOp, storeCell, overlay, zbl, zbm, zbn, lookupOp, keyT, okRes, mapUpdateOp, zbo, zbp, zbq, zbr, zbs, zbt, zbu, Nat.reduceSub, Nat.reduceAdd, Int.reduceLT, Int.reduceLE, Int.reduceAdd, Int.reduceSub, Int.reduceToNat, Int.reduceBEq, Int.reduceBNe, Int.reduceMul, Nat.reduceBEq, Nat.reduceBNe, Nat.reduceLT, Nat.reduceLeDiff, Nat.reduceMul, Nat.reduceEqDiff, WD, effB, effH, isPriv, isHeap, isImm, zbx, zby, zbz, chkO, setD, dslot, zca, zcb, zcc, zcd, ptrCells_some, F27, g1, hx.shutIn, hat1.at1 hx, hat1.cells, byteV, z61, e61, h61, e33, h33, e60, h60, hp1, hp2, hcut, (hy.rd []).shutIn, str_rd (hy.rd []), Option.map_none]
          first | exact ⟨rfl, rfl, rfl⟩ | exact ⟨rfl, rfl⟩ | exact rfl
        | false =>
          have h62 : (c == 62) = true := by
            rcases hcc with rfl | rfl | rfl | rfl
            · cases h61
            · cases h33
            · cases h60
            · rfl
          simp only [WW, partV, eqCells, eqLf, minV, maxV, ifcV, zaa, zab, zac, zad, zae, zaf, zag, zah, zai, ofConst, ofConst1, List.replicate, zaj, zak, loadOp, Go.Abs.loadCells, binV, zal, pickV, zam, zan, zao, zap, zaq, zar, zas, zat, zau, outR, resAll, resOne, zav, zaw, zax, zay, zaz, zba, zbb, zbc, zbd, zbe, zbf, zbg, zbh, zbi, zbj, zbk, storeOp, storeCell, overlay, zbl, zbm, zbn, lookupOp, keyT, okRes, mapUpdateOp, zbo, zbp, zbq, zbr, zbs, zbt, zbu, Nat.reduceSub, Nat.reduceAdd, Int.reduceLT, Int.reduceLE, Int.reduceAdd, Int.reduceSub, Int.reduceToNat, Int.reduceBEq, Int.reduceBNe, Int.reduceMul, Nat.reduceBEq, Nat.reduceBNe, Nat.reduceLT, Nat.reduceLeDiff, Nat.reduceMul, Nat.reduceEqDiff, WD, effB, effH, isPriv, isHeap, isImm, zbx, zby, zbz, chkO, setD, dslot, zca, zcb, zcc, zcd, ptrCells_some, F27, g1, hx.shutIn, hat1.at1 hx, hat1.cells, byteV, z61, e61, h61, e33, h33, e60, h60, e62, h62, hp1, hp2, hcut, (hy.rd []).shutIn, str_rd (hy.rd []), Option.map_none]
          first | exact ⟨rfl, rfl, rfl⟩ | exact ⟨rfl, rfl⟩ | exact rfl
  · have hs1 : signS c r = if c ∈ sign1 then .tok 5 [c] 0 1 else .bad 6 (if c = 33 then 1 else 0) := by unfold signS; rw [if_neg (by rw [hr0]; exact h2)]
    rw [hs1]
    -- the ways to the row of the single signs
    have hways : (L.length ≤ p + 1) ∨ (∃ d, L[p + 1]? = some d ∧ (d == 61) = false) ∨ (L[p + 1]? = some 61 ∧ (c == 61) = false ∧ (c == 33) = false ∧ (c == 60) = false ∧ (c == 62) = false) := by
      cases hd : L[p + 1]? with
      | none => exact .inl (List.getElem?_eq_none_iff.1 hd)
      | some d =>
        by_cases hd61 : d = 61
        · subst hd61
          refine .inr (.inr ⟨rfl, ?_⟩)
          have hn : ¬ (c = 61 ∨ c = 33 ∨ c = 60 ∨ c = 62) := fun h => h2 ⟨hd, h⟩
          simp only [not_or] at hn
          simp [hn]
        · exact .inr (.inl ⟨d, rfl, by simp [hd61]⟩)
    rcases hways with hge | ⟨d, hd, hne⟩ | ⟨hd, k1, k2, k3, k4⟩
    all_goals first
      | (have g1 : decide (((p + 1 : Nat) : Int) < (L.length : Int)) = false := decide_eq_false (by omega)
         simp only [WW, partV, eqCells, eqLf, minV, maxV, ifcV, zaa, zab, zac, zad, zae, zaf, zag, zah, zai, ofConst, ofConst1, List.replicate, zaj, zak, loadOp, Go.Abs.loadCells, binV, zal, pickV, zam, zan, zao, zap, zaq, zar, zas, zat, zau, outR, resAll, resOne, zav, zaw, zax, zay, zaz, zba, zbb, zbc, zbd, zbe, zbf, zbg, zbh, zbi, zbj, zbk, storeOp, storeCell, overlay, zbl, zbm, zbn, lookupOp, keyT, okRes, mapUpdateOp, zbo, zbp, zbq, zbr, zbs, zbt, zbu, Nat.reduceSub, Nat.reduceAdd, Int.reduceLT, Int.reduceLE, Int.reduceAdd, Int.reduceSub, Int.reduceToNat, Int.reduceBEq, Int.reduceBNe, Int.reduceMul, Nat.reduceBEq, Nat.reduceBNe, Nat.reduceLT, Nat.reduceLeDiff, Nat.reduceMul, Nat.reduceEqDiff, WD, effB, effH, isPriv, isHeap, isImm, zbx, zby, zbz, chkO, setD, dslot, zca, zcb, zcc, zcd, ptrCells_some, F27, g1, hp1])
      | (have hdl := (List.getElem?_eq_some_iff.1 hd).1
         have hd8 : (by8 L)[p + 1]? = some (byteV d) := by simp [by8, hd]
         have hat1 := hx.at_ (sz := 1) hd8 rfl
         have g1 : decide (((p + 1 : Nat) : Int) < (L.length : Int)) = true := decide_eq_true (by omega)
         have ed : (((d.toNat : Nat) : Int) == 61) = (d == 61) := u8b d 61
         simp only [WW, partV, eqCells, eqLf, minV, maxV, ifcV, zaa, zab, zac, zad, zae, zaf, zag, zah, zai, ofConst, ofConst1, List.replicate, zaj, zak, loadOp, Go.Abs.loadCells, binV, zal, pickV, zam, zan, zao, zap, zaq, zar, zas, zat, zau, outR, resAll, resOne, zav, zaw, zax, zay, zaz, zba, zbb, zbc, zbd, zbe, zbf, zbg, zbh, zbi, zbj, zbk, storeOp, storeCell, overlay, zbl, zbm, zbn, lookupOp, keyT, okRes, mapUpdateOp, zbo, zbp, zbq, zbr, zbs, zbt, zbu, Nat.reduceSub, Nat.reduceAdd, Int.reduceLT, Int.reduceLE, Int.reduceAdd, Int.reduceSub, Int.reduceToNat, Int.reduceBEq, Int.reduceBNe, Int.reduceMul, Nat.reduceBEq, Nat.reduceBNe, Nat.reduceLT, Nat.reduceLeDiff, Nat.reduceMul, Nat.reduceEqDiff, WD, effB, effH, isPriv, isHeap, isImm, zbx, zby, zbz, chkO, setD, dslot, zca, zcb, zcc, zcd, ptrCells_some, F27, g1, hx.shutIn, hat1.at1 hx, hat1.cells, byteV, ed, hne, hp1])
      | (have hdl := (List.getElem?_eq_some_iff.1 hd).1
         have hd8 : (by8 L)[p + 1]? = some (byteV 61) := by simp [by8, hd]
         have hat1 := hx.at_ (sz := 1) hd8 rfl
         have g1 : decide (((p + 1 : Nat) : Int) < (L.length : Int)) = true := decide_eq_true (by omega)
         have z61 : ((((61 : UInt8).toNat : Nat) : Int) == 61) = true := rfl
         simp only [WW, partV, eqCells, eqLf, minV, maxV, ifcV, zaa, zab, zac, zad, zae, zaf, zag, zah, zai, ofConst, ofConst1, List.replicate, zaj, zak, loadOp, Go.Abs.loadCells, binV, zal, pickV, zam, zan, zao, zap, zaq, zar, zas, zat, zau, outR, resAll, resOne, zav, zaw, zax, zay, zaz, zba, zbb, zbc, zbd, zbe, zbf, zbg, zbh, zbi, zbj, zbk, storeOp, storeCell, overlay, zbl, zbm, zbn, lookupOp, keyT, okRes, mapUpdateOp, zbo, zbp, zbq, zbr, zbs, zbt, zbu, Nat.reduceSub, Nat.reduceAdd, Int.reduceLT, Int.reduceLE, Int.reduceAdd, Int.reduceSub, Int.reduceToNat, Int.reduceBEq, Int.reduceBNe, Int.reduceMul, Nat.reduceBEq, Nat.reduceBNe, Nat.reduceLT, Nat.reduceLeDiff, Nat.reduceMul, Nat.reduceEqDiff, WD, effB, effH, isPriv, isHeap, isImm, zbx, zby, zbz, chkO, setD, dslot, zca, zcb, zcc, zcd, ptrCells_some, F27, g1, hx.shutIn, hat1.at1 hx, hat1.cells, byteV, z61, e61, e33, e60, e62, k1, k2, k3, k4, hp1])
    all_goals refine wC_loop _ (fun k st' H' => ∃ i : Nat, st' = ⟨L27_8 (.v x) (.v (.int .i64 (p : Int))) (.box 0) (.box 1) (.v (.int .u8 (c.toNat : Int))) (.v (.str ⟨sign1.toArray⟩)) (.v (.int .i64 (i : Int))), [[.int .i64 0, .str ByteArray.empty, .int .i64 0, .int .i64 0], [.int .i64 5, .str ByteArray.empty, .int .i64 0, .int .i64 (p : Int)]], []⟩ ∧ H' = [] ∧ i ≤ 18 ∧ k = 18 - i ∧ ∀ j u, j < i → sign1[j]? = some u → (u == c) = false) 18 ⟨0, ?_, rfl, by omega, rfl, fun j u hj => by omega⟩ ?_
    all_goals first
      | (simp only [WN, firstReg, growAll, zbv, zbw, norm, killS, zag, zah, zaa, zab, zbl, zat, zad, growOne, zae, zaf, zac, zas, zak, Nat.reduceLT, Nat.reduceAdd, zbj, zav, F27, L27_8, hx.clip2]
         rfl)
      | skip
    all_goals
      rintro k st' H' ⟨i, rfl, rfl, hi, rfl, hno⟩
      simp only [L27_8]
      have hsz : (⟨sign1.toArray⟩ : ByteArray).size = 18 := rfl
      simp only [WW, partV, eqCells, eqLf, minV, maxV, ifcV, zaa, zab, zac, zad, zae, zaf, zag, zah, zai, ofConst, ofConst1, List.replicate, zaj, zak, loadOp, Go.Abs.loadCells, binV, zal, pickV, zam, zan, zao, zap, zaq, zar, zas, zat, zau, outR, resAll, resOne, zav, zaw, zax, zay, zaz, zba, zbb, zbc, zbd, zbe, zbf, zbg, zbh, zbi, zbj, zbk, storeOp, storeCell, overlay, zbl, zbm, zbn, lookupOp, keyT, okRes, mapUpdateOp, zbo, zbp, zbq, zbr, zbs, zbt, zbu, Nat.reduceSub, Nat.reduceAdd, Int.reduceLT, Int.reduceLE, Int.reduceAdd, Int.reduceSub, Int.reduceToNat, Int.reduceBEq, Int.reduceBNe, Int.reduceMul, Nat.reduceBEq, Nat.reduceBNe, Nat.reduceLT, Nat.reduceLeDiff, Nat.reduceMul, Nat.reduceEqDiff, WD, effB, effH, isPriv, isHeap, isImm, zbx, zby, zbz, chkO, setD, dslot, zca, zcb, zcc, zcd, ptrCells_some, F27, hsz]
      refine cSplit (fun hlt => ?_) (fun hge => ?_)
      · have hi2 : i < 18 := by have := of_decide_eq_true hlt; omega
        have hlen : sign1.length = 18 := rfl
        have hs : sign1[i]? = some (sign1[i]'(by omega)) := List.getElem?_eq_getElem _
        generalize sign1[i]'_ = u at hs
        have eu : (((u.toNat : Nat) : Int) == ((c.toNat : Nat) : Int)) = (u == c) := u8b u c
        simp only [hlt]
        simp only [WW, partV, eqCells, eqLf, minV, maxV, ifcV, zaa, zab, zac, zad, zae, zaf, zag, zah, zai, ofConst, ofConst1, List.replicate, zaj, zak, loadOp, Go.Abs.loadCells, binV, zal, pickV, zam, zan, zao, zap, zaq, zar, zas, zat, zau, outR, resAll, resOne, zav, zaw, zax, zay, zaz, zba, zbb, zbc, zbd, zbe, zbf, zbg, zbh, zbi, zbj, zbk, storeOp, storeCell, overlay, zbl, zbm, zbn, lookupOp, keyT, okRes, mapUpdateOp, zbo, zbp, zbq, zbr, zbs, zbt, zbu, Nat.reduceSub, Nat.reduceAdd, Int.reduceLT, Int.reduceLE, Int.reduceAdd, Int.reduceSub, Int.reduceToNat, Int.reduceBEq, Int.reduceBNe, Int.reduceMul, Nat.reduceBEq, Nat.reduceBNe, Nat.reduceLT, Nat.reduceLeDiff, Nat.reduceMul, Nat.reduceEqDiff, WD, effB, effH, isPriv, isHeap, isImm, zbx, zby, zbz, chkO, setD, dslot, zca, zcb, zcc, zcd, ptrCells_some, F27, List.toList_toArray, hs, eu]
        cases h : (u == c) with
        | true =>
          obtain rfl : u = c := by simpa using h
          obtain ⟨y, hcut, hy⟩ := hB.cut (p := p) (q := p + 1) (by omega) (by omega) []
          have hyl : (L.take (p + 1)).drop p = [u] := by
            rw [List.drop_take, drop_cons hc, show p + 1 - p = 1 by omega]; rfl
          rw [hyl] at hy
          simp only [WW, partV, eqCells, eqLf, minV, maxV, ifcV, zaa, zab, zac, zad, zae, zaf, zag, zah, zai, ofConst, ofConst1, List.replicate, zaj, zak, loadOp, Go.Abs.loadCells, binV, zal, pickV, zam, zan, zao, zap, zaq, zar, zas, zat, zau, outR, resAll, resOne, zav, zaw, zax, zay, zaz, zba, zbb, zbc, zbd, zbe, zbf, zbg, zbh, zbi, zbj, zbk, storeOp, storeCell, overlay, zbl, zbm, zbn, lookupOp, keyT, okRes, mapUpdateOp, zbo, zbp, zbq, zbr, zbs, zbt, zbu, Nat.reduceSub, Nat.reduceAdd, Int.reduceLT, Int.reduceLE, Int.reduceAdd, Int.reduceSub, Int.reduceToNat, Int.reduceBEq, Int.reduceBNe, Int.reduceMul, Nat.reduceBEq, Nat.reduceBNe, Nat.reduceLT, Nat.reduceLeDiff, Nat.reduceMul, Nat.reduceEqDiff, WD, effB, effH, isPriv, isHeap, isImm, zbx, zby, zbz, chkO, setD, dslot, zca, zcb, zcc, zcd, ptrCells_some, F27, hx.shutIn, hp1, hcut, (hy.rd []).shutIn, str_rd (hy.rd []), Option.map_none]
          rw [if_pos (List.mem_of_getElem? hs)]
          first | exact ⟨rfl, rfl, rfl⟩ | exact ⟨rfl, rfl⟩ | exact rfl
        | false =>
          have hq1 : IntKind.i64.wrap ((i : Int) + 1) = ((i + 1 : Nat) : Int) := by rw [IntWalk.i64_in _ (by omega)]; omega
          simp only [WW, partV, eqCells, eqLf, minV, maxV, ifcV, zaa, zab, zac, zad, zae, zaf, zag, zah, zai, ofConst, ofConst1, List.replicate, zaj, zak, loadOp, Go.Abs.loadCells, binV, zal, pickV, zam, zan, zao, zap, zaq, zar, zas, zat, zau, outR, resAll, resOne, zav, zaw, zax, zay, zaz, zba, zbb, zbc, zbd, zbe, zbf, zbg, zbh, zbi, zbj, zbk, storeOp, storeCell, overlay, zbl, zbm, zbn, lookupOp, keyT, okRes, mapUpdateOp, zbo, zbp, zbq, zbr, zbs, zbt, zbu, Nat.reduceSub, Nat.reduceAdd, Int.reduceLT, Int.reduceLE, Int.reduceAdd, Int.reduceSub, Int.reduceToNat, Int.reduceBEq, Int.reduceBNe, Int.reduceMul, Nat.reduceBEq, Nat.reduceBNe, Nat.reduceLT, Nat.reduceLeDiff, Nat.reduceMul, Nat.reduceEqDiff, WD, effB, effH, isPriv, isHeap, isImm, zbx, zby, zbz, chkO, setD, dslot, zca, zcb, zcc, zcd, ptrCells_some, F27, hq1]
          refine ⟨18 - (i + 1), by omega, i + 1, ?_, by omega, rfl, fun j v hj hv => ?_⟩
          · simp only [WN, firstReg, growAll, zbv, zbw, norm, killS, zag, zah, zaa, zab, zbl, zat, zad, growOne, zae, zaf, zac, zas, zak, Nat.reduceLT, Nat.reduceAdd, zbj, zav, F27, hx.clip2, hq1]
            try rfl
          · by_cases e : j = i
            · subst e; rw [hs] at hv; cases hv; exact h
            · exact hno j v (by omega) hv
      · have hi2 : i = 18 := by have := of_decide_eq_false hge; omega
        subst hi2
        simp only [hge]
        have hnm : c ∉ sign1 := fun hm => by
          obtain ⟨j, hj, e⟩ := List.getElem_of_mem hm
          have h22 : sign1.length = 18 := rfl
          have := hno j c (by omega) (by rw [List.getElem?_eq_getElem hj, e])
          simp at this
        rw [if_neg hnm]
        simp only [WW, partV, eqCells, eqLf, minV, maxV, ifcV, zaa, zab, zac, zad, zae, zaf, zag, zah, zai, ofConst, ofConst1, List.replicate, zaj, zak, loadOp, Go.Abs.loadCells, binV, zal, pickV, zam, zan, zao, zap, zaq, zar, zas, zat, zau, outR, resAll, resOne, zav, zaw, zax, zay, zaz, zba, zbb, zbc, zbd, zbe, zbf, zbg, zbh, zbi, zbj, zbk, storeOp, storeCell, overlay, zbl, zbm, zbn, lookupOp, keyT, okRes, mapUpdateOp, zbo, zbp, zbq, zbr, zbs, zbt, zbu, Nat.reduceSub, Nat.reduceAdd, Int.reduceLT, Int.reduceLE, Int.reduceAdd, Int.reduceSub, Int.reduceToNat, Int.reduceBEq, Int.reduceBNe, Int.reduceMul, Nat.reduceBEq, Nat.reduceBNe, Nat.reduceLT, Nat.reduceLeDiff, Nat.reduceMul, Nat.reduceEqDiff, WD, effB, effH, isPriv, isHeap, isImm, zbx, zby, zbz, chkO, setD, dslot, zca, zcb, zcc, zcd, ptrCells_some, F27, e33]
        cases h33 : (c == 33) with
        | true =>
          simp only [WW, partV, eqCells, eqLf, minV, maxV, ifcV, zaa, zab, zac, zad, zae, zaf, zag, zah, zai, ofConst, ofConst1, List.replicate, zaj, zak, loadOp, Go.Abs.loadCells, binV, zal, pickV, zam, zan, zao, zap, zaq, zar, zas, zat, zau, outR, resAll, resOne, zav, zaw, zax, zay, zaz, zba, zbb, zbc, zbd, zbe, zbf, zbg, zbh, zbi, zbj, zbk, storeOp, storeCell, overlay, zbl, zbm, zbn, lookupOp, keyT, okRes, mapUpdateOp, zbo, zbp, zbq, zbr, zbs, zbt, zbu, Nat.reduceSub, Nat.reduceAdd, Int.reduceLT, Int.reduceLE, Int.reduceAdd, Int.reduceSub, Int.reduceToNat, Int.reduceBEq, Int.reduceBNe, Int.reduceMul, Nat.reduceBEq, Nat.reduceBNe, Nat.reduceLT, Nat.reduceLeDiff, Nat.reduceMul, Nat.reduceEqDiff, WD, effB, effH, isPriv, isHeap, isImm, zbx, zby, zbz, chkO, setD, dslot, zca, zcb, zcc, zcd, ptrCells_some, F27, hp1]
          rw [if_pos (by simpa using h33)]
          first | exact ⟨rfl, ⟨⟨5, [], 0, p⟩, rfl⟩, rfl⟩ | exact ⟨rfl, ⟨5, [], 0, p⟩, rfl⟩ | exact ⟨⟨⟨5, [], 0, p⟩, rfl⟩, rfl⟩ | exact ⟨⟨5, [], 0, p⟩, rfl⟩
        | false =>
          simp only [WW, partV, eqCells, eqLf, minV, maxV, ifcV, zaa, zab, zac, zad, zae, zaf, zag, zah, zai, ofConst, ofConst1, List.replicate, zaj, zak, loadOp, Go.Abs.loadCells, binV, zal, pickV, zam, zan, zao, zap, zaq, zar, zas, zat, zau, outR, resAll, resOne, zav, zaw, zax, zay, zaz, zba, zbb, zbc, zbd, zbe, zbf, zbg, zbh, zbi, zbj, zbk, storeOp, storeCell, overlay, zbl, zbm, zbn, lookupOp, keyT, okRes, mapUpdateOp, zbo, zbp, zbq, zbr, zbs, zbt, zbu, Nat.reduceSub, Nat.reduceAdd, Int.reduceLT, Int.reduceLE, Int.reduceAdd, Int.reduceSub, Int.reduceToNat, Int.reduceBEq, Int.reduceBNe, Int.reduceMul, Nat.reduceBEq, Nat.reduceBNe, Nat.reduceLT, Nat.reduceLeDiff, Nat.reduceMul, Nat.reduceEqDiff, WD, effB, effH, isPriv, isHeap, isImm, zbx, zby, zbz, chkO, setD, dslot, zca, zcb, zcc, zcd, ptrCells_some, F27]
          rw [if_neg (by simpa using h33)]
          first | exact ⟨rfl, ⟨⟨5, [], 0, p⟩, rfl⟩, rfl⟩ | exact ⟨rfl, ⟨5, [], 0, p⟩, rfl⟩ | exact ⟨⟨⟨5, [], 0, p⟩, rfl⟩, rfl⟩ | exact ⟨⟨5, [], 0, p⟩, rfl⟩
end Go.Proofs.YtcmndnkeoepmoaaDoor

namespace Go.Proofs.YtcmndnkeoepmoaaDoor
open Go Go.Abs Go.Proofs
set_option maxRecDepth 100000
set_option maxHeartbeats 1000000
set_option linter.unusedVariables false
set_option linter.unusedSimpArgs false
theorem tw_stop {α : Type} (P : α → Bool) : ∀ (l : List α) (c : α), l[(l.takeWhile P).length]? = some c → P c = false
  | [], c, h => by simp at h
  | a :: r, c, h => by
    rw [List.takeWhile_cons] at h
    split at h
    · simp only [List.length_cons, List.getElem?_cons_succ] at h
      exact tw_stop P r c h
    · rename_i hP
      simp only [List.length_nil, List.getElem?_cons_zero, Option.some.injEq] at h
      subst h; simpa using hP
theorem tw_pre {α : Type} (P : α → Bool) : ∀ (l : List α) (j : Nat) (c : α), j < (l.takeWhile P).length → l[j]? = some c → P c = true ∧ (l.takeWhile P)[j]? = some c
  | [], j, c, hj, h => by simp at hj
  | a :: r, j, c, hj, h => by
    rw [List.takeWhile_cons] at hj ⊢
    split at hj
    · rename_i hP
      rw [if_pos hP]
      cases j with
      | zero => simp at h ⊢; subst h; exact ⟨hP, rfl⟩
      | succ j =>
        simp only [List.length_cons, List.getElem?_cons_succ] at hj h ⊢
        exact tw_pre P r j c (by omega) h
    · simp at hj
theorem rnumber_spec {H : Hp} {x : V} {L : List UInt8} {p : Nat} {c0 : UInt8} {r : List UInt8} (hB : Bx x L) (hcr : L.drop p = c0 :: r) (hc0 : digitB c0.toNat = true) (hL : L.length ≤ 65536) :
    wpCall EW 25 [x, .int .i64 (p : Int)] H (fun out H' => rxR p (numS (c0 :: r)) out ∧ H' = H) := by
  have hp : p < L.length := by
    have := congrArg List.length hcr
    simp at this; omega
  have hcp : L[p]? = some c0 := by
    have : (L.drop p)[0]? = some c0 := by rw [hcr]; rfl
    simpa using this
  rw [← hcr]
  have hx := hB.rd []
  obtain ⟨D, hD⟩ : ∃ D, D = (L.drop p).takeWhile fun c => digitB c.toNat := ⟨_, rfl⟩
  have hDl : p + D.length ≤ L.length := by
    have := takeWhile_le (fun c : UInt8 => digitB c.toNat) (L.drop p)
    rw [← hD] at this; simp at this; omega
  have hd : ∀ c ∈ D, digitB c.toNat = true := fun c hc => by rw [hD] at hc; exact tw_mem (P := fun c : UInt8 => digitB c.toNat) hc
  have hD0 : D[0]? = some c0 := by rw [hD, hcr, List.takeWhile_cons, if_pos hc0]; rfl
  have hDp : 0 < D.length := (List.getElem?_eq_some_iff.1 hD0).1
  have hstop : ∀ c, L[p + D.length]? = some c → digitB c.toNat = false := fun c h => tw_stop (fun c : UInt8 => digitB c.toNat) (L.drop p) c (by rw [← hD, List.getElem?_drop]; exact h)
  have hpre : ∀ j c, j < D.length → L[p + j]? = some c → digitB c.toNat = true ∧ D[j]? = some c := fun j c hj h => by
    have := tw_pre (fun c : UInt8 => digitB c.toNat) (L.drop p) j c (by rw [← hD]; exact hj) (by rw [List.getElem?_drop]; exact h)
    rw [← hD] at this; exact this
  have hnS : numS (L.drop p) = if decide (1 < D.length) && D[0]? == some 48 then .bad 6 1 else if (L[p + D.length]?).any (fun c => letterB c.toNat) then .bad 6 D.length else match numR 0 D with | some n => .tok 3 [] n D.length | none => .bad 9 0 := by
    unfold numS
    simp only [← hD, List.getElem?_drop]
    try rfl
  rw [hnS]
  have hq0 : (D[0]? == some (48 : UInt8)) = (c0 == 48) := by rw [hD0]; rfl
  rw [hq0]
  clear hnS hq0
  have hc8 : (by8 L)[p]? = some (byteV c0) := by simp [by8, hcp]
  have hat0 := hx.at_ (sz := 1) hc8 rfl
  have e48 : (((c0.toNat : Nat) : Int) == 48) = (c0 == 48) := u8b c0 48
  have hp1 : IntKind.i64.wrap ((p : Int) + 1) = ((p + 1 : Nat) : Int) := by rw [IntWalk.i64_in _ (by omega)]; omega
  refine runsP f25 b25 r25 n25 _ (hB.ha _) _ ?_
  simp only [bodyOf, Tryd.f25, Option.getD_some]
  simp only [WW, partV, eqCells, eqLf, minV, maxV, ifcV, zaa, zab, zac, zad, zae, zaf, zag, zah, zai, ofConst, ofConst1, List.replicate, zaj, zak, loadOp, Go.Abs.loadCells, binV, zal, pickV, zam, zan, zao, zap, zaq, zar, zas, zat, zau, outR, resAll, resOne, zav, zaw, zax, zay, zaz, zba, zbb, zbc, zbd, zbe, zbf, zbg, zbh, zbi, zbj, zbk, storeOp, storeCell, overlay, zbl, zbm, zbn, lookupOp, keyT, okRes, mapUpdateOp, zbo, zbp, zbq, zbr, zbs, zbt, zbu, Nat.reduceSub, Nat.reduceAdd, Int.reduceLT, Int.reduceLE, Int.reduceAdd, Int.reduceSub, Int.reduceToNat, Int.reduceBEq, Int.reduceBNe, Int.reduceMul, Nat.reduceBEq, Nat.reduceBNe, Nat.reduceLT, Nat.reduceLeDiff, Nat.reduceMul, Nat.reduceEqDiff, WD, effB, effH, isPriv, isHeap, isImm, zbx, zby, zbz, chkO, setD, dslot, zca, zcb, zcc, zcd, ptrCells_some, F25, hx.shutIn, buildOp, fillV, Lay.place, Bool.or_self, Bool.or_false, Bool.false_or, decide_not, ne_eq, not_true_eq_false, decide_eq_true_eq, Nat.lt_irrefl]
  refine wC_loop _ (fun k st' H' => ∃ e : Nat, st' = ⟨L25_3 (.v x) (.v (.int .i64 (p : Int))) (.box 0) (.box 1) (.v (.int .i64 (e : Int))), [[.int .i64 0, .str ByteArray.empty, .int .i64 0, .int .i64 0], [.int .i64 3, .str ByteArray.empty, .int .i64 0, .int .i64 (p : Int)]], []⟩ ∧ H' = [] ∧ p ≤ e ∧ e ≤ p + D.length ∧ k = p + D.length - e) D.length ⟨p, ?_, rfl, Nat.le_refl _, by omega, by omega⟩ ?_
  · simp only [WN, firstReg, growAll, zbv, zbw, norm, killS, zag, zah, zaa, zab, zbl, zat, zad, growOne, zae, zaf, zac, zas, zak, Nat.reduceLT, Nat.reduceAdd, zbj, zav, F25, L25_3, hx.clip2]
    try rfl
  · rintro k st' H' ⟨e, rfl, rfl, hpe, heq, rfl⟩
    simp only [L25_3]
    simp only [WW, partV, eqCells, eqLf, minV, maxV, ifcV, zaa, zab, zac, zad, zae, zaf, zag, zah, zai, ofConst, ofConst1, List.replicate, zaj, zak, loadOp, Go.Abs.loadCells, binV, zal, pickV, zam, zan, zao, zap, zaq, zar, zas, zat, zau, outR, resAll, resOne, zav, zaw, zax, zay, zaz, zba, zbb, zbc, zbd, zbe, zbf, zbg, zbh, zbi, zbj, zbk, storeOp, storeCell, overlay, zbl, zbm, zbn, lookupOp, keyT, okRes, mapUpdateOp, zbo, zbp, zbq, zbr, zbs, zbt, zbu, Nat.reduceSub, Nat.reduceAdd, Int.reduceLT, Int.reduceLE, Int.reduceAdd, Int.reduceSub, Int.reduceToNat, Int.reduceBEq, Int.reduceBNe, Int.reduceMul, Nat.reduceBEq, Nat.reduceBNe, Nat.reduceLT, Nat.reduceLeDiff, Nat.reduceMul, Nat.reduceEqDiff, WD, effB, effH, isPriv, isHeap, isImm, zbx, zby, zbz, chkO, setD, dslot, zca, zcb, zcc, zcd, ptrCells_some, F25, hx.shutIn, hx.len, by8_len]
    have hgo : (e < p + D.length ∧ ∃ c, L[e]? = some c ∧ digitB c.toNat = true) ∨ (e = p + D.length ∧ ((∃ c, L[e]? = some c ∧ digitB c.toNat = false) ∨ L.length ≤ e)) := by
      by_cases h : e < p + D.length
      · have hlt : e < L.length := by omega
        have hc : L[e]? = some L[e] := List.getElem?_eq_getElem hlt
        exact .inl ⟨h, _, hc, (hpre (e - p) _ (by omega) (by rw [show p + (e - p) = e by omega]; exact hc)).1⟩
      · have he : e = p + D.length := by omega
        refine .inr ⟨he, ?_⟩
        by_cases hlt : e < L.length
        · have hc : L[e]? = some L[e] := List.getElem?_eq_getElem hlt
          exact .inl ⟨_, hc, hstop _ (by rw [← he]; exact hc)⟩
        · exact .inr (by omega)
    rcases hgo with ⟨hlt, c, hc, hdc⟩ | ⟨rfl, hend⟩
    · have hlt2 := (List.getElem?_eq_some_iff.1 hc).1
      have g1 : decide ((e : Int) < (L.length : Int)) = true := decide_eq_true (by omega)
      have hc8 : (by8 L)[e]? = some (byteV c) := by simp [by8, hc]
      have hat := hx.at_ (sz := 1) hc8 rfl
      have hq1 : IntKind.i64.wrap ((e : Int) + 1) = ((e + 1 : Nat) : Int) := by rw [IntWalk.i64_in _ (by omega)]; omega
      simp only [WW, partV, eqCells, eqLf, minV, maxV, ifcV, zaa, zab, zac, zad, zae, zaf, zag, zah, zai, ofConst, ofConst1, List.replicate, zaj, zak, loadOp, Go.Abs.loadCells, binV, zal, pickV, zam, zan, zao, zap, zaq, zar, zas, zat, zau, outR, resAll, resOne, zav, zaw, zax, zay, zaz, zba, zbb, zbc, zbd, zbe, zbf, zbg, zbh, zbi, zbj, zbk, storeOp, storeCell, overlay, zbl, zbm, zbn, lookupOp, keyT, okRes, mapUpdateOp, zbo, zbp, zbq, zbr, zbs, zbt, zbu, Nat.reduceSub, Nat.reduceAdd, Int.reduceLT, Int.reduceLE, Int.reduceAdd, Int.reduceSub, Int.reduceToNat, Int.reduceBEq, Int.reduceBNe, Int.reduceMul, Nat.reduceBEq, Nat.reduceBNe, Nat.reduceLT, Nat.reduceLeDiff, Nat.reduceMul, Nat.reduceEqDiff, WD, effB, effH, isPriv, isHeap, isImm, zbx, zby, zbz, chkO, setD, dslot, zca, zcb, zcc, zcd, ptrCells_some, F25, g1, hx.shutIn, hat.at1 hx, hat.cells, byteV]
      rw [wpCall_eq (rdigit_eq _ _)]
      simp only [WW, partV, eqCells, eqLf, minV, maxV, ifcV, zaa, zab, zac, zad, zae, zaf, zag, zah, zai, ofConst, ofConst1, List.replicate, zaj, zak, loadOp, Go.Abs.loadCells, binV, zal, pickV, zam, zan, zao, zap, zaq, zar, zas, zat, zau, outR, resAll, resOne, zav, zaw, zax, zay, zaz, zba, zbb, zbc, zbd, zbe, zbf, zbg, zbh, zbi, zbj, zbk, storeOp, storeCell, overlay, zbl, zbm, zbn, lookupOp, keyT, okRes, mapUpdateOp, zbo, zbp, zbq, zbr, zbs, zbt, zbu, Nat.reduceSub, Nat.reduceAdd, Int.reduceLT, Int.reduceLE, Int.reduceAdd, Int.reduceSub, Int.reduceToNat, Int.reduceBEq, Int.reduceBNe, Int.reduceMul, Nat.reduceBEq, Nat.reduceBNe, Nat.reduceLT, Nat.reduceLeDiff, Nat.reduceMul, Nat.reduceEqDiff, WD, effB, effH, isPriv, isHeap, isImm, zbx, zby, zbz, chkO, setD, dslot, zca, zcb, zcc, zcd, ptrCells_some, F25, hdc, hq1]
      refine ⟨p + D.length - (e + 1), by omega, e + 1, ?_, by omega, by omega, rfl⟩
      simp only [WN, firstReg, growAll, zbv, zbw, norm, killS, zag, zah, zaa, zab, zbl, zat, zad, growOne, zae, zaf, zac, zas, zak, Nat.reduceLT, Nat.reduceAdd, zbj, zav, F25, hx.clip2, hq1]
      try rfl
    · -- the digits are at their end
      have h1s : decide (((p + 1 : Nat) : Int) < ((p + D.length : Nat) : Int)) = decide (1 < D.length) := by rw [Bool.eq_iff_iff]; simp; omega
      rcases hend with ⟨c, hc, hdc⟩ | hge
      all_goals first
        | (have hlt2 := (List.getElem?_eq_some_iff.1 hc).1
           have g1 : decide (((p + D.length : Nat) : Int) < (L.length : Int)) = true := decide_eq_true (by omega)
           have hc8q : (by8 L)[p + D.length]? = some (byteV c) := by simp [by8, hc]
           have hatq := hx.at_ (sz := 1) hc8q rfl
           simp only [WW, partV, eqCells, eqLf, minV, maxV, ifcV, zaa, zab, zac, zad, zae, zaf, zag, zah, zai, ofConst, ofConst1, List.replicate, zaj, zak, loadOp, Go.Abs.loadCells, binV, zal, pickV, zam, zan, zao, zap, zaq, zar, zas, zat, zau, outR, resAll, resOne, zav, zaw, zax, zay, zaz, zba, zbb, zbc, zbd, zbe, zbf, zbg, zbh, zbi, zbj, zbk, storeOp, storeCell, overlay, zbl, zbm, zbn, lookupOp, keyT, okRes, mapUpdateOp, zbo, zbp, zbq, zbr, zbs, zbt, zbu, Nat.reduceSub, Nat.reduceAdd, Int.reduceLT, Int.reduceLE, Int.reduceAdd, Int.reduceSub, Int.reduceToNat, Int.reduceBEq, Int.reduceBNe, Int.reduceMul, Nat.reduceBEq, Nat.reduceBNe, Nat.reduceLT, Nat.reduceLeDiff, Nat.reduceMul, Nat.reduceEqDiff, WD, effB, effH, isPriv, isHeap, isImm, zbx, zby, zbz, chkO, setD, dslot, zca, zcb, zcc, zcd, ptrCells_some, F25, g1, hx.shutIn, hatq.at1 hx, hatq.cells, byteV]
           rw [wpCall_eq (rdigit_eq _ _)]
           simp only [WW, partV, eqCells, eqLf, minV, maxV, ifcV, zaa, zab, zac, zad, zae, zaf, zag, zah, zai, ofConst, ofConst1, List.replicate, zaj, zak, loadOp, Go.Abs.loadCells, binV, zal, pickV, zam, zan, zao, zap, zaq, zar, zas, zat, zau, outR, resAll, resOne, zav, zaw, zax, zay, zaz, zba, zbb, zbc, zbd, zbe, zbf, zbg, zbh, zbi, zbj, zbk, storeOp, storeCell, overlay, zbl, zbm, zbn, lookupOp, keyT, okRes, mapUpdateOp, zbo, zbp, zbq, zbr, zbs, zbt, zbu, Nat.reduceSub, Nat.reduceAdd, Int.reduceLT, Int.reduceLE, Int.reduceAdd, Int.reduceSub, Int.reduceToNat, Int.reduceBEq, Int.reduceBNe, Int.reduceMul, Nat.reduceBEq, Nat.reduceBNe, Nat.reduceLT, Nat.reduceLeDiff, Nat.reduceMul, Nat.reduceEqDiff, WD, effB, effH, isPriv, isHeap, isImm, zbx, zby, zbz, chkO, setD, dslot, zca, zcb, zcc, zcd, ptrCells_some, F25, hdc, hx.shutIn, hat0.at1 hx, hat0.cells, byteV, e48, hp1])
        | (have g1 : decide (((p + D.length : Nat) : Int) < (L.length : Int)) = false := decide_eq_false (by omega)
           simp only [WW, partV, eqCells, eqLf, minV, maxV, ifcV, zaa, zab, zac, zad, zae, zaf, zag, zah, zai, ofConst, ofConst1, List.replicate, zaj, zak, loadOp, Go.Abs.loadCells, binV, zal, pickV, zam, zan, zao, zap, zaq, zar, zas, zat, zau, outR, resAll, resOne, zav, zaw, zax, zay, zaz, zba, zbb, zbc, zbd, zbe, zbf, zbg, zbh, zbi, zbj, zbk, storeOp, storeCell, overlay, zbl, zbm, zbn, lookupOp, keyT, okRes, mapUpdateOp, zbo, zbp, zbq, zbr, zbs, zbt, zbu, Nat.reduceSub, Nat.reduceAdd, Int.reduceLT, Int.reduceLE, Int.reduceAdd, Int.reduceSub, Int.reduceToNat, Int.reduceBEq, Int.reduceBNe, Int.reduceMul, Nat.reduceBEq, Nat.reduceBNe, Nat.reduceLT, Nat.reduceLeDiff, Nat.reduceMul, Nat.reduceEqDiff, WD, effB, effH, isPriv, isHeap, isImm, zbx, zby, zbz, chkO, setD, dslot, zca, zcb, zcc, zcd, ptrCells_some, F25, g1, hx.shutIn, hat0.at1 hx, hat0.cells, byteV, e48, hp1])
      all_goals by_cases hlead : decide (1 < D.length) = true ∧ (c0 == 48) = true
      all_goals first
        | (obtain ⟨hl1, h48⟩ := hlead
           simp only [hl1, h48, Bool.and_self, if_true]
           simp only [WW, partV, eqCells, eqLf, minV, maxV, ifcV, zaa, zab, zac, zad, zae, zaf, zag, zah, zai, ofConst, ofConst1, List.replicate, zaj, zak, loadOp, Go.Abs.loadCells, binV, zal, pickV, zam, zan, zao, zap, zaq, zar, zas, zat, zau, outR, resAll, resOne, zav, zaw, zax, zay, zaz, zba, zbb, zbc, zbd, zbe, zbf, zbg, zbh, zbi, zbj, zbk, storeOp, storeCell, overlay, zbl, zbm, zbn, lookupOp, keyT, okRes, mapUpdateOp, zbo, zbp, zbq, zbr, zbs, zbt, zbu, Nat.reduceSub, Nat.reduceAdd, Int.reduceLT, Int.reduceLE, Int.reduceAdd, Int.reduceSub, Int.reduceToNat, Int.reduceBEq, Int.reduceBNe, Int.reduceMul, Nat.reduceBEq, Nat.reduceBNe, Nat.reduceLT, Nat.reduceLeDiff, Nat.reduceMul, Nat.reduceEqDiff, WD, effB, effH, isPriv, isHeap, isImm, zbx, zby, zbz, chkO, setD, dslot, zca, zcb, zcc, zcd, ptrCells_some, F25, h48, h1s, hl1, hp1]
           first | exact ⟨rfl, ⟨⟨3, [], 0, p⟩, rfl⟩, rfl⟩ | exact ⟨rfl, ⟨3, [], 0, p⟩, rfl⟩ | exact ⟨⟨3, [], 0, p⟩, rfl⟩)
        | (have hnot : (decide (1 < D.length) && (c0 == 48)) = false := by
             cases h1 : decide (1 < D.length) with
             | false => rfl
             | true =>
               cases h2 : (c0 == 48) with
               | false => rfl
               | true => exact absurd ⟨h1, h2⟩ hlead
           rw [hnot]
           simp only [Bool.false_eq_true, if_false]
           skip)
      all_goals
        have hG : (c0 == 48) = false ∨ ((c0 == 48) = true ∧ decide (1 < D.length) = false) := by
          cases h2 : (c0 == 48) with
          | false => exact .inl rfl
          | true =>
            cases h1 : decide (1 < D.length) with
            | false => exact .inr ⟨rfl, rfl⟩
            | true => exact absurd ⟨h1, h2⟩ hlead
        clear hlead hnot
      all_goals rcases hG with h48 | ⟨h48, hl1⟩
      all_goals first
        | simp only [WW, partV, eqCells, eqLf, minV, maxV, ifcV, zaa, zab, zac, zad, zae, zaf, zag, zah, zai, ofConst, ofConst1, List.replicate, zaj, zak, loadOp, Go.Abs.loadCells, binV, zal, pickV, zam, zan, zao, zap, zaq, zar, zas, zat, zau, outR, resAll, resOne, zav, zaw, zax, zay, zaz, zba, zbb, zbc, zbd, zbe, zbf, zbg, zbh, zbi, zbj, zbk, storeOp, storeCell, overlay, zbl, zbm, zbn, lookupOp, keyT, okRes, mapUpdateOp, zbo, zbp, zbq, zbr, zbs, zbt, zbu, Nat.reduceSub, Nat.reduceAdd, Int.reduceLT, Int.reduceLE, Int.reduceAdd, Int.reduceSub, Int.reduceToNat, Int.reduceBEq, Int.reduceBNe, Int.reduceMul, Nat.reduceBEq, Nat.reduceBNe, Nat.reduceLT, Nat.reduceLeDiff, Nat.reduceMul, Nat.reduceEqDiff, WD, effB, effH, isPriv, isHeap, isImm, zbx, zby, zbz, chkO, setD, dslot, zca, zcb, zcc, zcd, ptrCells_some, F25, h48, hp1, h1s, hl1, hx.shutIn, hx.len, by8_len, g1, hatq.at1 hx, hatq.cells, byteV]
        | simp only [WW, partV, eqCells, eqLf, minV, maxV, ifcV, zaa, zab, zac, zad, zae, zaf, zag, zah, zai, ofConst, ofConst1, List.replicate, zaj, zak, loadOp, Go.Abs.loadCells, binV, zal, pickV, zam, zan, zao, zap, zaq, zar, zas, zat, zau, outR, resAll, resOne, zav, zaw, zax, zay, zaz, zba, zbb, zbc, zbd, zbe, zbf, zbg, zbh, zbi, zbj, zbk, storeOp, storeCell, overlay, zbl, zbm, zbn, lookupOp, keyT, okRes, mapUpdateOp, zbo, zbp, zbq, zbr, zbs, zbt, zbu, Nat.reduceSub, Nat.reduceAdd, Int.reduceLT, Int.reduceLE, Int.reduceAdd, Int.reduceSub, Int.reduceToNat, Int.reduceBEq, Int.reduceBNe, Int.reduceMul, Nat.reduceBEq, Nat.reduceBNe, Nat.reduceLT, Nat.reduceLeDiff, Nat.reduceMul, Nat.reduceEqDiff, WD, effB, effH, isPriv, isHeap, isImm, zbx, zby, zbz, chkO, setD, dslot, zca, zcb, zcc, zcd, ptrCells_some, F25, h48, hp1, h1s, hl1, hx.shutIn, hx.len, by8_len, g1]
        | simp only [WW, partV, eqCells, eqLf, minV, maxV, ifcV, zaa, zab, zac, zad, zae, zaf, zag, zah, zai, ofConst, ofConst1, List.replicate, zaj, zak, loadOp, Go.Abs.loadCells, binV, zal, pickV, zam, zan, zao, zap, zaq, zar, zas, zat, zau, outR, resAll, resOne, zav, zaw, zax, zay, zaz, zba, zbb, zbc, zbd, zbe, zbf, zbg, zbh, zbi, zbj, zbk, storeOp, storeCell, overlay, zbl, zbm, zbn, lookupOp, keyT, okRes, mapUpdateOp, zbo, zbp, zbq, zbr, zbs, zbt, zbu, Nat.reduceSub, Nat.reduceAdd, Int.reduceLT, Int.reduceLE, Int.reduceAdd, Int.reduceSub, Int.reduceToNat, Int.reduceBEq, Int.reduceBNe, Int.reduceMul, Nat.reduceBEq, Nat.reduceBNe, Nat.reduceLT, Nat.reduceLeDiff, Nat.reduceMul, Nat.reduceEqDiff, WD, effB, effH, isPriv, isHeap, isImm, zbx, zby, zbz, chkO, setD, dslot, zca, zcb, zcc, zcd, ptrCells_some, F25, h48, hx.shutIn, hx.len, by8_len, g1, hatq.at1 hx, hatq.cells, byteV]
        | simp only [WW, partV, eqCells, eqLf, minV, maxV, ifcV, zaa, zab, zac, zad, zae, zaf, zag, zah, zai, ofConst, ofConst1, List.replicate, zaj, zak, loadOp, Go.Abs.loadCells, binV, zal, pickV, zam, zan, zao, zap, zaq, zar, zas, zat, zau, outR, resAll, resOne, zav, zaw, zax, zay, zaz, zba, zbb, zbc, zbd, zbe, zbf, zbg, zbh, zbi, zbj, zbk, storeOp, storeCell, overlay, zbl, zbm, zbn, lookupOp, keyT, okRes, mapUpdateOp, zbo, zbp, zbq, zbr, zbs, zbt, zbu, Nat.reduceSub, Nat.reduceAdd, Int.reduceLT, Int.reduceLE, Int.reduceAdd, Int.reduceSub, Int.reduceToNat, Int.reduceBEq, Int.reduceBNe, Int.reduceMul, Nat.reduceBEq, Nat.reduceBNe, Nat.reduceLT, Nat.reduceLeDiff, Nat.reduceMul, Nat.reduceEqDiff, WD, effB, effH, isPriv, isHeap, isImm, zbx, zby, zbz, chkO, setD, dslot, zca, zcb, zcc, zcd, ptrCells_some, F25, h48, hx.shutIn, hx.len, by8_len, g1]
      all_goals try rw [wpCall_eq (rletter_eq _ _)]
      all_goals first
        | (have hany : (L[p + D.length]?).any (fun c => letterB c.toNat) = letterB c.toNat := by rw [hc]; rfl
           rw [hany])
        | (have hany : (L[p + D.length]?).any (fun c => letterB c.toNat) = false := by rw [List.getElem?_eq_none_iff.2 hge]; rfl
           rw [hany])
      all_goals first
        | (by_cases hlet : letterB c.toNat = true)
        | skip
      all_goals first
        | (simp only [hlet, if_true]
           simp only [WW, partV, eqCells, eqLf, minV, maxV, ifcV, zaa, zab, zac, zad, zae, zaf, zag, zah, zai, ofConst, ofConst1, List.replicate, zaj, zak, loadOp, Go.Abs.loadCells, binV, zal, pickV, zam, zan, zao, zap, zaq, zar, zas, zat, zau, outR, resAll, resOne, zav, zaw, zax, zay, zaz, zba, zbb, zbc, zbd, zbe, zbf, zbg, zbh, zbi, zbj, zbk, storeOp, storeCell, overlay, zbl, zbm, zbn, lookupOp, keyT, okRes, mapUpdateOp, zbo, zbp, zbq, zbr, zbs, zbt, zbu, Nat.reduceSub, Nat.reduceAdd, Int.reduceLT, Int.reduceLE, Int.reduceAdd, Int.reduceSub, Int.reduceToNat, Int.reduceBEq, Int.reduceBNe, Int.reduceMul, Nat.reduceBEq, Nat.reduceBNe, Nat.reduceLT, Nat.reduceLeDiff, Nat.reduceMul, Nat.reduceEqDiff, WD, effB, effH, isPriv, isHeap, isImm, zbx, zby, zbz, chkO, setD, dslot, zca, zcb, zcc, zcd, ptrCells_some, F25, hlet]
           first | exact ⟨rfl, ⟨⟨3, [], 0, p⟩, rfl⟩, rfl⟩ | exact ⟨rfl, ⟨3, [], 0, p⟩, rfl⟩ | exact ⟨⟨3, [], 0, p⟩, rfl⟩)
        | (have hlet' : letterB c.toNat = false := by simpa using hlet
           simp only [hlet', Bool.false_eq_true, if_false]
           simp only [WW, partV, eqCells, eqLf, minV, maxV, ifcV, zaa, zab, zac, zad, zae, zaf, zag, zah, zai, ofConst, ofConst1, List.replicate, zaj, zak, loadOp, Go.Abs.loadCells, binV, zal, pickV, zam, zan, zao, zap, zaq, zar, zas, zat, zau, outR, resAll, resOne, zav, zaw, zax, zay, zaz, zba, zbb, zbc, zbd, zbe, zbf, zbg, zbh, zbi, zbj, zbk, storeOp, storeCell, overlay, zbl, zbm, zbn, lookupOp, keyT, okRes, mapUpdateOp, zbo, zbp, zbq, zbr, zbs, zbt, zbu, Nat.reduceSub, Nat.reduceAdd, Int.reduceLT, Int.reduceLE, Int.reduceAdd, Int.reduceSub, Int.reduceToNat, Int.reduceBEq, Int.reduceBNe, Int.reduceMul, Nat.reduceBEq, Nat.reduceBNe, Nat.reduceLT, Nat.reduceLeDiff, Nat.reduceMul, Nat.reduceEqDiff, WD, effB, effH, isPriv, isHeap, isImm, zbx, zby, zbz, chkO, setD, dslot, zca, zcb, zcc, zcd, ptrCells_some, F25, hlet'])
        | simp only [Bool.false_eq_true, if_false]
      all_goals refine wC_loop _ (fun k st' H' => ∃ i t : Nat, st' = ⟨L25_10 (.v x) (.v (.int .i64 (p : Int))) (.box 0) (.box 1) (.v (.int .i64 ((p + D.length : Nat) : Int))) (.v (.int .i64 ((p + i : Nat) : Int))), [[.int .i64 0, .str ByteArray.empty, .int .i64 0, .int .i64 0], [.int .i64 3, .str ByteArray.empty, .int .i64 (t : Int), .int .i64 (p : Int)]], []⟩ ∧ H' = [] ∧ k = D.length - i ∧ i ≤ D.length ∧ numR t (D.drop i) = numR 0 D ∧ t ≤ 2305843009213693951) D.length ⟨0, 0, ?_, rfl, rfl, Nat.zero_le _, rfl, by omega⟩ ?_
      all_goals first
        | (simp only [WN, firstReg, growAll, zbv, zbw, norm, killS, zag, zah, zaa, zab, zbl, zat, zad, growOne, zae, zaf, zac, zas, zak, Nat.reduceLT, Nat.reduceAdd, zbj, zav, F25, L25_10, hx.clip2]
           rfl)
        | skip
      all_goals
        rintro k st' H' ⟨i, t, rfl, rfl, rfl, hi, hnum, ht⟩
        simp only [L25_10]
        simp only [WW, partV, eqCells, eqLf, minV, maxV, ifcV, zaa, zab, zac, zad, zae, zaf, zag, zah, zai, ofConst, ofConst1, List.replicate, zaj, zak, loadOp, Go.Abs.loadCells, binV, zal, pickV, zam, zan, zao, zap, zaq, zar, zas, zat, zau, outR, resAll, resOne, zav, zaw, zax, zay, zaz, zba, zbb, zbc, zbd, zbe, zbf, zbg, zbh, zbi, zbj, zbk, storeOp, storeCell, overlay, zbl, zbm, zbn, lookupOp, keyT, okRes, mapUpdateOp, zbo, zbp, zbq, zbr, zbs, zbt, zbu, Nat.reduceSub, Nat.reduceAdd, Int.reduceLT, Int.reduceLE, Int.reduceAdd, Int.reduceSub, Int.reduceToNat, Int.reduceBEq, Int.reduceBNe, Int.reduceMul, Nat.reduceBEq, Nat.reduceBNe, Nat.reduceLT, Nat.reduceLeDiff, Nat.reduceMul, Nat.reduceEqDiff, WD, effB, effH, isPriv, isHeap, isImm, zbx, zby, zbz, chkO, setD, dslot, zca, zcb, zcc, zcd, ptrCells_some, F25]
        refine cSplit (fun glt => ?_) (fun gge => ?_)
        · have hi2 : i < D.length := by have := of_decide_eq_true glt; omega
          have hlt3 : p + i < L.length := by omega
          have hcL : L[p + i]? = some L[p + i] := List.getElem?_eq_getElem hlt3
          generalize L[p + i] = u at hcL
          obtain ⟨hdu, hDi⟩ := hpre i u hi2 hcL
          have hc8i : (by8 L)[p + i]? = some (byteV u) := by simp [by8, hcL]
          have hati := hx.at_ (sz := 1) hc8i rfl
          have hc48 : 48 ≤ u.toNat ∧ u.toNat ≤ 57 := by simp only [digitB, Bool.and_eq_true, decide_eq_true_eq] at hdu; omega
          have hd1 : IntKind.u8.wrap (((u.toNat : Nat) : Int) - 48) = ((dig u : Nat) : Int) := by simp [IntKind.wrap, IntKind.bits, IntKind.signed, dig]; omega
          have hd2 : IntKind.i64.wrap ((dig u : Nat) : Int) = ((dig u : Nat) : Int) := IntWalk.i64_in _ (by simp only [dig]; omega)
          have hdg : dig u ≤ 9 := by simp only [dig]; omega
          have hd3 : IntKind.i64.wrap (2305843009213693951 - ((dig u : Nat) : Int)) = ((2305843009213693951 - dig u : Nat) : Int) := by rw [IntWalk.i64_in _ (by omega)]; omega
          have hd4 : IntKind.i64.wrap (((2305843009213693951 - dig u : Nat) : Int).tdiv 10) = (((2305843009213693951 - dig u) / 10 : Nat) : Int) := by
            rw [show ((2305843009213693951 - dig u : Nat) : Int).tdiv 10 = (((2305843009213693951 - dig u) / 10 : Nat) : Int) by rw [Int.tdiv_eq_ediv_of_nonneg (by omega)]; norm_cast]
            exact IntWalk.i64_in _ (by omega)
          rw [drop_cons hDi, numR] at hnum
          simp only [glt]
          have h100 : ¬ ((10 : Int) = 0) := by decide
          simp only [WW, partV, eqCells, eqLf, minV, maxV, ifcV, zaa, zab, zac, zad, zae, zaf, zag, zah, zai, ofConst, ofConst1, List.replicate, zaj, zak, loadOp, Go.Abs.loadCells, binV, zal, pickV, zam, zan, zao, zap, zaq, zar, zas, zat, zau, outR, resAll, resOne, zav, zaw, zax, zay, zaz, zba, zbb, zbc, zbd, zbe, zbf, zbg, zbh, zbi, zbj, zbk, storeOp, storeCell, overlay, zbl, zbm, zbn, lookupOp, keyT, okRes, mapUpdateOp, zbo, zbp, zbq, zbr, zbs, zbt, zbu, Nat.reduceSub, Nat.reduceAdd, Int.reduceLT, Int.reduceLE, Int.reduceAdd, Int.reduceSub, Int.reduceToNat, Int.reduceBEq, Int.reduceBNe, Int.reduceMul, Nat.reduceBEq, Nat.reduceBNe, Nat.reduceLT, Nat.reduceLeDiff, Nat.reduceMul, Nat.reduceEqDiff, WD, effB, effH, isPriv, isHeap, isImm, zbx, zby, zbz, chkO, setD, dslot, zca, zcb, zcc, zcd, ptrCells_some, F25, hx.shutIn, hati.at1 hx, hati.cells, byteV, hd1, hd2, hd3, hd4, convertOp, h100]
          refine cSplit (fun gov => ?_) (fun gov => ?_)
          · have hov : (2305843009213693951 - dig u) / 10 < t := by have := of_decide_eq_true gov; omega
            rw [if_pos hov] at hnum
            simp only [gov]
            simp only [WW, partV, eqCells, eqLf, minV, maxV, ifcV, zaa, zab, zac, zad, zae, zaf, zag, zah, zai, ofConst, ofConst1, List.replicate, zaj, zak, loadOp, Go.Abs.loadCells, binV, zal, pickV, zam, zan, zao, zap, zaq, zar, zas, zat, zau, outR, resAll, resOne, zav, zaw, zax, zay, zaz, zba, zbb, zbc, zbd, zbe, zbf, zbg, zbh, zbi, zbj, zbk, storeOp, storeCell, overlay, zbl, zbm, zbn, lookupOp, keyT, okRes, mapUpdateOp, zbo, zbp, zbq, zbr, zbs, zbt, zbu, Nat.reduceSub, Nat.reduceAdd, Int.reduceLT, Int.reduceLE, Int.reduceAdd, Int.reduceSub, Int.reduceToNat, Int.reduceBEq, Int.reduceBNe, Int.reduceMul, Nat.reduceBEq, Nat.reduceBNe, Nat.reduceLT, Nat.reduceLeDiff, Nat.reduceMul, Nat.reduceEqDiff, WD, effB, effH, isPriv, isHeap, isImm, zbx, zby, zbz, chkO, setD, dslot, zca, zcb, zcc, zcd, ptrCells_some, F25]
            rw [← hnum]
            first | exact ⟨rfl, ⟨⟨3, [], t, p⟩, rfl⟩, rfl⟩ | exact ⟨rfl, ⟨3, [], t, p⟩, rfl⟩ | exact ⟨⟨3, [], t, p⟩, rfl⟩
          · have hov : ¬ (2305843009213693951 - dig u) / 10 < t := by have := of_decide_eq_false gov; omega
            rw [if_neg hov] at hnum
            simp only [gov]
            have hm1 : IntKind.i64.wrap ((t : Int) * 10) = ((10 * t : Nat) : Int) := by rw [IntWalk.i64_in _ (by omega)]; omega
            have hm2 : IntKind.i64.wrap (((10 * t : Nat) : Int) + ((dig u : Nat) : Int)) = ((10 * t + dig u : Nat) : Int) := by rw [IntWalk.i64_in _ (by omega)]; omega
            have hk1 : IntKind.i64.wrap (((p + i : Nat) : Int) + 1) = ((p + (i + 1) : Nat) : Int) := by rw [IntWalk.i64_in _ (by omega)]; omega
            simp only [WW, partV, eqCells, eqLf, minV, maxV, ifcV, zaa, zab, zac, zad, zae, zaf, zag, zah, zai, ofConst, ofConst1, List.replicate, zaj, zak, loadOp, Go.Abs.loadCells, binV, zal, pickV, zam, zan, zao, zap, zaq, zar, zas, zat, zau, outR, resAll, resOne, zav, zaw, zax, zay, zaz, zba, zbb, zbc, zbd, zbe, zbf, zbg, zbh, zbi, zbj, zbk, storeOp, storeCell, overlay, zbl, zbm, zbn, lookupOp, keyT, okRes, mapUpdateOp, zbo, zbp, zbq, zbr, zbs, zbt, zbu, Nat.reduceSub, Nat.reduceAdd, Int.reduceLT, Int.reduceLE, Int.reduceAdd, Int.reduceSub, Int.reduceToNat, Int.reduceBEq, Int.reduceBNe, Int.reduceMul, Nat.reduceBEq, Nat.reduceBNe, Nat.reduceLT, Nat.reduceLeDiff, Nat.reduceMul, Nat.reduceEqDiff, WD, effB, effH, isPriv, isHeap, isImm, zbx, zby, zbz, chkO, setD, dslot, zca, zcb, zcc, zcd, ptrCells_some, F25, hm1, hm2, hk1]
            refine ⟨D.length - (i + 1), by omega, i + 1, 10 * t + dig u, ?_, rfl, by omega, hnum, by omega⟩
            simp only [WN, firstReg, growAll, zbv, zbw, norm, killS, zag, zah, zaa, zab, zbl, zat, zad, growOne, zae, zaf, zac, zas, zak, Nat.reduceLT, Nat.reduceAdd, zbj, zav, F25, hk1, hx.clip2]
            try rfl
        · have hi2 : i = D.length := by have := of_decide_eq_false gge; omega
          simp only [gge]
          rw [hi2, List.drop_of_length_le (Nat.le_refl _), numR] at hnum
          simp only [WW, partV, eqCells, eqLf, minV, maxV, ifcV, zaa, zab, zac, zad, zae, zaf, zag, zah, zai, ofConst, ofConst1, List.replicate, zaj, zak, loadOp, Go.Abs.loadCells, binV, zal, pickV, zam, zan, zao, zap, zaq, zar, zas, zat, zau, outR, resAll, resOne, zav, zaw, zax, zay, zaz, zba, zbb, zbc, zbd, zbe, zbf, zbg, zbh, zbi, zbj, zbk, storeOp, storeCell, overlay, zbl, zbm, zbn, lookupOp, keyT, okRes, mapUpdateOp, zbo, zbp, zbq, zbr, zbs, zbt, zbu, Nat.reduceSub, Nat.reduceAdd, Int.reduceLT, Int.reduceLE, Int.reduceAdd, Int.reduceSub, Int.reduceToNat, Int.reduceBEq, Int.reduceBNe, Int.reduceMul, Nat.reduceBEq, Nat.reduceBNe, Nat.reduceLT, Nat.reduceLeDiff, Nat.reduceMul, Nat.reduceEqDiff, WD, effB, effH, isPriv, isHeap, isImm, zbx, zby, zbz, chkO, setD, dslot, zca, zcb, zcc, zcd, ptrCells_some, F25]
          rw [← hnum]
          first | exact ⟨rfl, rfl, rfl⟩ | exact ⟨rfl, rfl⟩ | exact rfl
end Go.Proofs.YtcmndnkeoepmoaaDoor

namespace Go.Proofs.YtcmndnkeoepmoaaDoor
open Go Go.Abs Go.Proofs
set_option maxRecDepth 100000
set_option maxHeartbeats 1000000
set_option linter.unusedVariables false
set_option linter.unusedSimpArgs false
theorem rtext_spec {H : Hp} {x : V} {L : List UInt8} {p : Nat} {r : List UInt8} (hB : Bx x L) (hcr : L.drop p = 34 :: r) (hL : L.length ≤ 65536) :
    wpCall EW 26 [x, .int .i64 (p : Int)] H (fun out H' => rxR p (textS r [] 1) out ∧ H' = H) := by
  have hp : p < L.length := by
    have := congrArg List.length hcr
    simp at this; omega
  have hr : L.drop (p + 1) = r := by rw [← List.drop_drop, hcr]; rfl
  have hx := hB.rd []
  have hp1 : IntKind.i64.wrap ((p : Int) + 1) = ((p + 1 : Nat) : Int) := by rw [IntWalk.i64_in _ (by omega)]; omega
  refine runsP f26 b26 r26 n26 _ (hB.ha _) _ ?_
  simp only [bodyOf, Tryd.f26, Option.getD_some]
  simp only [WW, partV, eqCells, eqLf, minV, maxV, ifcV, zaa, zab, zac, zad, zae, zaf, zag, zah, zai, ofConst, ofConst1, List.replicate, zaj, zak, loadOp, Go.Abs.loadCells, binV, zal, pickV, zam, zan, zao, zap, zaq, zar, zas, zat, zau, outR, resAll, resOne, zav, zaw, zax, zay, zaz, zba, zbb, zbc, zbd, zbe, zbf, zbg, zbh, zbi, zbj, zbk, storeOp, storeCell, overlay, zbl, zbm, zbn, lookupOp, keyT, okRes, mapUpdateOp, zbo, zbp, zbq, zbr, zbs, zbt, zbu, Nat.reduceSub, Nat.reduceAdd, Int.reduceLT, Int.reduceLE, Int.reduceAdd, Int.reduceSub, Int.reduceToNat, Int.reduceBEq, Int.reduceBNe, Int.reduceMul, Nat.reduceBEq, Nat.reduceBNe, Nat.reduceLT, Nat.reduceLeDiff, Nat.reduceMul, Nat.reduceEqDiff, WD, effB, effH, isPriv, isHeap, isImm, zbx, zby, zbz, chkO, setD, dslot, zca, zcb, zcc, zcd, ptrCells_some, F26, buildOp, fillV, Lay.place, Bool.or_self, Bool.or_false, Bool.false_or, decide_not, ne_eq, not_true_eq_false, decide_eq_true_eq, Nat.lt_irrefl, hp1]
  refine wC_loop _ (fun k st' H' => ∃ (i : Nat) (out : List UInt8), st' = ⟨L26_4 (.v x) (.box 0) (.box 1) (.v (.lr 0 out.length)) (.v (.int .i64 (i : Int))), [[.int .i64 0, .str ByteArray.empty, .int .i64 0, .int .i64 0], [.int .i64 4, .str ByteArray.empty, .int .i64 0, .int .i64 (p : Int)]], [⟨true, true, by8 out⟩]⟩ ∧ H' = [] ∧ k = L.length - i ∧ p < i ∧ i ≤ L.length ∧ out.length ≤ i ∧ textS (L.drop i) out (i - p) = textS r [] 1) (L.length - (p + 1)) ⟨p + 1, [], ?_, rfl, rfl, by omega, by omega, by simp, by rw [hr]; congr 1; omega⟩ ?_
  · simp only [WN, firstReg, growAll, zbv, zbw, norm, killS, zag, zah, zaa, zab, zbl, zat, zad, growOne, zae, zaf, zac, zas, zak, Nat.reduceLT, Nat.reduceAdd, zbj, zav, F26, L26_4, hx.clip2]
    rfl
  · rintro k st' H' ⟨i, out, rfl, rfl, rfl, hpi, hi, hol, hs⟩
    simp only [L26_4]
    have hpi2 : p + (i - p) = i := by omega
    have hwo : wideAll (by8 out) 1 = true := wide_by8 out
    have hw1 : ∀ a : Int, wideAll [V.int .u8 a] 1 = true := fun _ => rfl
    have q1 : (out.length == (by8 out).length) = true := by simp [by8]
    have q2 : decide ((out.length + 1) * 1 ≤ 70368744177664) = true := by simp; omega
    have q3 : decide (out.length ≤ 4611686018427387903) = true := by simp; omega
    have q4 : decide (out.length + 1 ≤ 70368744177664) = true := by simp; omega
    simp only [WW, partV, eqCells, eqLf, minV, maxV, ifcV, zaa, zab, zac, zad, zae, zaf, zag, zah, zai, ofConst, ofConst1, List.replicate, zaj, zak, loadOp, Go.Abs.loadCells, binV, zal, pickV, zam, zan, zao, zap, zaq, zar, zas, zat, zau, outR, resAll, resOne, zav, zaw, zax, zay, zaz, zba, zbb, zbc, zbd, zbe, zbf, zbg, zbh, zbi, zbj, zbk, storeOp, storeCell, overlay, zbl, zbm, zbn, lookupOp, keyT, okRes, mapUpdateOp, zbo, zbp, zbq, zbr, zbs, zbt, zbu, Nat.reduceSub, Nat.reduceAdd, Int.reduceLT, Int.reduceLE, Int.reduceAdd, Int.reduceSub, Int.reduceToNat, Int.reduceBEq, Int.reduceBNe, Int.reduceMul, Nat.reduceBEq, Nat.reduceBNe, Nat.reduceLT, Nat.reduceLeDiff, Nat.reduceMul, Nat.reduceEqDiff, WD, effB, effH, isPriv, isHeap, isImm, zbx, zby, zbz, chkO, setD, dslot, zca, zcb, zcc, zcd, ptrCells_some, F26, hx.shutIn, hx.len, by8_len]
    by_cases hi2 : i < L.length
    · have g1 : decide ((i : Int) < (L.length : Int)) = true := decide_eq_true (by omega)
      have hc : L[i]? = some L[i] := List.getElem?_eq_getElem hi2
      generalize L[i] = c at hc
      have hc8 : (by8 L)[i]? = some (byteV c) := by simp [by8, hc]
      have hat := hx.at_ (sz := 1) hc8 rfl
      rw [drop_cons hc] at hs
      have hq1 : IntKind.i64.wrap ((i : Int) + 1) = ((i + 1 : Nat) : Int) := by rw [IntWalk.i64_in _ (by omega)]; omega
      have e10 : (((c.toNat : Nat) : Int) == 10) = (c == 10) := u8b c 10
      have n34 : (((c.toNat : Nat) : Int) != 34) = !(c == 34) := u8n c 34
      have n92 : (((c.toNat : Nat) : Int) != 92) = !(c == 92) := u8n c 92
      cases h34 : (c == 34) with
      | true =>
        obtain rfl : c = 34 := by simpa using h34
        have ht : textS (34 :: L.drop (i + 1)) out (i - p) = .tok 4 out 0 (i - p + 1) := by rw [textS.eq_def]; rfl
        rw [ht] at hs
        have hbx := bx_row out
        have g2 : decide ((L.length : Int) ≤ (i : Int)) = false := decide_eq_false (by omega)
        simp only [WW, partV, eqCells, eqLf, minV, maxV, ifcV, zaa, zab, zac, zad, zae, zaf, zag, zah, zai, ofConst, ofConst1, List.replicate, zaj, zak, loadOp, Go.Abs.loadCells, binV, zal, pickV, zam, zan, zao, zap, zaq, zar, zas, zat, zau, outR, resAll, resOne, zav, zaw, zax, zay, zaz, zba, zbb, zbc, zbd, zbe, zbf, zbg, zbh, zbi, zbj, zbk, storeOp, storeCell, overlay, zbl, zbm, zbn, lookupOp, keyT, okRes, mapUpdateOp, zbo, zbp, zbq, zbr, zbs, zbt, zbu, Nat.reduceSub, Nat.reduceAdd, Int.reduceLT, Int.reduceLE, Int.reduceAdd, Int.reduceSub, Int.reduceToNat, Int.reduceBEq, Int.reduceBNe, Int.reduceMul, Nat.reduceBEq, Nat.reduceBNe, Nat.reduceLT, Nat.reduceLeDiff, Nat.reduceMul, Nat.reduceEqDiff, WD, effB, effH, isPriv, isHeap, isImm, zbx, zby, zbz, chkO, setD, dslot, zca, zcb, zcc, zcd, ptrCells_some, F26, g1, hx.shutIn, hx.len, by8_len, hat.at1 hx, hat.cells, byteV, n34, g2, str_of hbx, seal_lr, hq1]
        rw [← hs]
        have e2 : p + (i - p + 1) = i + 1 := by omega
        simp only [rxR, e2]
        first | exact ⟨rfl, rfl, rfl⟩ | exact ⟨rfl, rfl⟩ | exact rfl
      | false =>
        have h34' : c ≠ 34 := by simpa using h34
        cases h10 : (c == 10) with
        | true =>
          obtain rfl : c = 10 := by simpa using h10
          have ht : textS (10 :: L.drop (i + 1)) out (i - p) = .bad 6 (i - p) := by rw [textS.eq_def]; rfl
          rw [ht] at hs
          simp only [WW, partV, eqCells, eqLf, minV, maxV, ifcV, zaa, zab, zac, zad, zae, zaf, zag, zah, zai, ofConst, ofConst1, List.replicate, zaj, zak, loadOp, Go.Abs.loadCells, binV, zal, pickV, zam, zan, zao, zap, zaq, zar, zas, zat, zau, outR, resAll, resOne, zav, zaw, zax, zay, zaz, zba, zbb, zbc, zbd, zbe, zbf, zbg, zbh, zbi, zbj, zbk, storeOp, storeCell, overlay, zbl, zbm, zbn, lookupOp, keyT, okRes, mapUpdateOp, zbo, zbp, zbq, zbr, zbs, zbt, zbu, Nat.reduceSub, Nat.reduceAdd, Int.reduceLT, Int.reduceLE, Int.reduceAdd, Int.reduceSub, Int.reduceToNat, Int.reduceBEq, Int.reduceBNe, Int.reduceMul, Nat.reduceBEq, Nat.reduceBNe, Nat.reduceLT, Nat.reduceLeDiff, Nat.reduceMul, Nat.reduceEqDiff, WD, effB, effH, isPriv, isHeap, isImm, zbx, zby, zbz, chkO, setD, dslot, zca, zcb, zcc, zcd, ptrCells_some, F26, g1, hx.shutIn, hat.at1 hx, hat.cells, byteV, n34, h34, e10]
          rw [← hs]
          simp only [rxR, hpi2]
          first | exact ⟨rfl, ⟨⟨4, [], 0, p⟩, rfl⟩, rfl⟩ | exact ⟨rfl, ⟨4, [], 0, p⟩, rfl⟩ | exact ⟨⟨4, [], 0, p⟩, rfl⟩
        | false =>
          have h10' : c ≠ 10 := by simpa using h10
          cases h92 : (c == 92) with
          | false =>
            have h92' : c ≠ 92 := by simpa using h92
            rw [text_one h10' h34' h92'] at hs
            simp only [WW, partV, eqCells, eqLf, minV, maxV, ifcV, zaa, zab, zac, zad, zae, zaf, zag, zah, zai, ofConst, ofConst1, List.replicate, zaj, zak, loadOp, Go.Abs.loadCells, binV, zal, pickV, zam, zan, zao, zap, zaq, zar, zas, zat, zau, outR, resAll, resOne, zav, zaw, zax, zay, zaz, zba, zbb, zbc, zbd, zbe, zbf, zbg, zbh, zbi, zbj, zbk, storeOp, storeCell, overlay, zbl, zbm, zbn, lookupOp, keyT, okRes, mapUpdateOp, zbo, zbp, zbq, zbr, zbs, zbt, zbu, Nat.reduceSub, Nat.reduceAdd, Int.reduceLT, Int.reduceLE, Int.reduceAdd, Int.reduceSub, Int.reduceToNat, Int.reduceBEq, Int.reduceBNe, Int.reduceMul, Nat.reduceBEq, Nat.reduceBNe, Nat.reduceLT, Nat.reduceLeDiff, Nat.reduceMul, Nat.reduceEqDiff, WD, effB, effH, isPriv, isHeap, isImm, zbx, zby, zbz, chkO, setD, dslot, zca, zcb, zcc, zcd, ptrCells_some, F26, g1, hx.shutIn, hat.at1 hx, hat.cells, byteV, n34, h34, e10, h10, n92, h92, buildSliceV, lits, srcV_eq, srcK_sl, srcK_str, srcSl_nils, srcSl_rsl, srcSl_sl, appendOp, frow, zbv, zbw, List.all_nil, List.all_cons, rowV, Bool.false_and, Bool.and_false, ne_eq, not_false_eq_true, grows_lr, callOut_t, hw1, hwo, q1, q2, q3, q4, hq1]
            refine ⟨L.length - (i + 1), by omega, i + 1, out ++ [c], ?_, rfl, by omega, by omega, by simp; omega, by rw [show i + 1 - p = i - p + 1 by omega]; exact hs⟩
            simp only [WN, firstReg, growAll, zbv, zbw, norm, killS, zag, zah, zaa, zab, zbl, zat, zad, growOne, zae, zaf, zac, zas, zak, Nat.reduceLT, Nat.reduceAdd, zbj, zav, F26, hx.clip2, by8, List.map_append, List.length_append, byteV, hq1]
            try rfl
          | true =>
            obtain rfl : c = 92 := by simpa using h92
            rw [text_esc] at hs
            by_cases hend : i + 1 = L.length
            · have g3 : decide ((L.length : Int) ≤ ((i + 1 : Nat) : Int)) = true := decide_eq_true (by omega)
              have hesc : escS (L.drop (i + 1)) = .bad 0 := by rw [List.drop_of_length_le (by omega)]; rfl
              rw [hesc] at hs
              simp only [WW, partV, eqCells, eqLf, minV, maxV, ifcV, zaa, zab, zac, zad, zae, zaf, zag, zah, zai, ofConst, ofConst1, List.replicate, zaj, zak, loadOp, Go.Abs.loadCells, binV, zal, pickV, zam, zan, zao, zap, zaq, zar, zas, zat, zau, outR, resAll, resOne, zav, zaw, zax, zay, zaz, zba, zbb, zbc, zbd, zbe, zbf, zbg, zbh, zbi, zbj, zbk, storeOp, storeCell, overlay, zbl, zbm, zbn, lookupOp, keyT, okRes, mapUpdateOp, zbo, zbp, zbq, zbr, zbs, zbt, zbu, Nat.reduceSub, Nat.reduceAdd, Int.reduceLT, Int.reduceLE, Int.reduceAdd, Int.reduceSub, Int.reduceToNat, Int.reduceBEq, Int.reduceBNe, Int.reduceMul, Nat.reduceBEq, Nat.reduceBNe, Nat.reduceLT, Nat.reduceLeDiff, Nat.reduceMul, Nat.reduceEqDiff, WD, effB, effH, isPriv, isHeap, isImm, zbx, zby, zbz, chkO, setD, dslot, zca, zcb, zcc, zcd, ptrCells_some, F26, g1, hx.shutIn, hx.len, by8_len, hat.at1 hx, hat.cells, byteV, n34, h34, e10, h10, n92, hq1, g3]
              rw [← hs]
              have e2 : p + (i - p + 1 + 0) = i + 1 := by omega
              simp only [rxR, e2]
              first | exact ⟨rfl, ⟨⟨4, [], 0, p⟩, rfl⟩, rfl⟩ | exact ⟨rfl, ⟨4, [], 0, p⟩, rfl⟩ | exact ⟨⟨4, [], 0, p⟩, rfl⟩
            · have hlt1 : i + 1 < L.length := by omega
              have g3 : decide ((L.length : Int) ≤ ((i + 1 : Nat) : Int)) = false := decide_eq_false (by omega)
              have hdc : L[i + 1]? = some L[i + 1] := List.getElem?_eq_getElem hlt1
              generalize L[i + 1] = d at hdc
              have hd8 : (by8 L)[i + 1]? = some (byteV d) := by simp [by8, hdc]
              have hat1 := hx.at_ (sz := 1) hd8 rfl
              have hq2 : IntKind.i64.wrap (((i + 1 : Nat) : Int) + 1) = ((i + 2 : Nat) : Int) := by rw [IntWalk.i64_in _ (by omega)]; omega
              have f110 : (((d.toNat : Nat) : Int) == 110) = (d == 110) := u8b d 110
              have f116 : (((d.toNat : Nat) : Int) == 116) = (d == 116) := u8b d 116
              have f34 : (((d.toNat : Nat) : Int) == 34) = (d == 34) := u8b d 34
              have f92 : (((d.toNat : Nat) : Int) == 92) = (d == 92) := u8b d 92
              have f120 : (((d.toNat : Nat) : Int) == 120) = (d == 120) := u8b d 120
              rw [drop_cons hdc] at hs
              simp only [WW, partV, eqCells, eqLf, minV, maxV, ifcV, zaa, zab, zac, zad, zae, zaf, zag, zah, zai, ofConst, ofConst1, List.replicate, zaj, zak, loadOp, Go.Abs.loadCells, binV, zal, pickV, zam, zan, zao, zap, zaq, zar, zas, zat, zau, outR, resAll, resOne, zav, zaw, zax, zay, zaz, zba, zbb, zbc, zbd, zbe, zbf, zbg, zbh, zbi, zbj, zbk, storeOp, storeCell, overlay, zbl, zbm, zbn, lookupOp, keyT, okRes, mapUpdateOp, zbo, zbp, zbq, zbr, zbs, zbt, zbu, Nat.reduceSub, Nat.reduceAdd, Int.reduceLT, Int.reduceLE, Int.reduceAdd, Int.reduceSub, Int.reduceToNat, Int.reduceBEq, Int.reduceBNe, Int.reduceMul, Nat.reduceBEq, Nat.reduceBNe, Nat.reduceLT, Nat.reduceLeDiff, Nat.reduceMul, Nat.reduceEqDiff, WD, effB, effH, isPriv, isHeap, isImm, zbx, zby, zbz, chkO, setD, dslot, zca, zcb, zcc, zcd, ptrCells_some, F26, g1, hx.shutIn, hx.len, by8_len, hat.at1 hx, hat.cells, byteV, n34, h34, e10, h10, n92, hq1, g3, hat1.at1 hx, hat1.cells]
              have hone : ∀ y : UInt8, escS (d :: L.drop (i + 1 + 1)) = .ok y 1 → textS (L.drop (i + 2)) (out ++ [y]) (i + 2 - p) = textS r [] 1 := fun y hy => by
                rw [hy] at hs
                simp only [List.drop_succ_cons, List.drop_zero] at hs
                rw [show i + 2 - p = i - p + 1 + 1 by omega]
                exact hs
              cases h110 : (d == 110) with
              | true =>
                obtain rfl : d = 110 := by simpa using h110
                simp only [WW, partV, eqCells, eqLf, minV, maxV, ifcV, zaa, zab, zac, zad, zae, zaf, zag, zah, zai, ofConst, ofConst1, List.replicate, zaj, zak, loadOp, Go.Abs.loadCells, binV, zal, pickV, zam, zan, zao, zap, zaq, zar, zas, zat, zau, outR, resAll, resOne, zav, zaw, zax, zay, zaz, zba, zbb, zbc, zbd, zbe, zbf, zbg, zbh, zbi, zbj, zbk, storeOp, storeCell, overlay, zbl, zbm, zbn, lookupOp, keyT, okRes, mapUpdateOp, zbo, zbp, zbq, zbr, zbs, zbt, zbu, Nat.reduceSub, Nat.reduceAdd, Int.reduceLT, Int.reduceLE, Int.reduceAdd, Int.reduceSub, Int.reduceToNat, Int.reduceBEq, Int.reduceBNe, Int.reduceMul, Nat.reduceBEq, Nat.reduceBNe, Nat.reduceLT, Nat.reduceLeDiff, Nat.reduceMul, Nat.reduceEqDiff, WD, effB, effH, isPriv, isHeap, isImm, zbx, zby, zbz, chkO, setD, dslot, zca, zcb, zcc, zcd, ptrCells_some, F26, f110, buildSliceV, lits, srcV_eq, srcK_sl, srcK_str, srcSl_nils, srcSl_rsl, srcSl_sl, appendOp, frow, zbv, zbw, List.all_nil, List.all_cons, rowV, Bool.false_and, Bool.and_false, ne_eq, not_false_eq_true, grows_lr, callOut_t, hw1, hwo, q1, q2, q3, q4, hq2]
                refine ⟨L.length - (i + 2), by omega, i + 2, out ++ [10], ?_, rfl, by omega, by omega, by simp; omega, hone 10 rfl⟩
                simp only [WN, firstReg, growAll, zbv, zbw, norm, killS, zag, zah, zaa, zab, zbl, zat, zad, growOne, zae, zaf, zac, zas, zak, Nat.reduceLT, Nat.reduceAdd, zbj, zav, F26, hx.clip2, by8, List.map_append, List.length_append, byteV]
                try rfl
              | false =>
                have m110 : d ≠ 110 := by simpa using h110
                cases h116 : (d == 116) with
                | true =>
                  obtain rfl : d = 116 := by simpa using h116
                  simp only [WW, partV, eqCells, eqLf, minV, maxV, ifcV, zaa, zab, zac, zad, zae, zaf, zag, zah, zai, ofConst, ofConst1, List.replicate, zaj, zak, loadOp, Go.Abs.loadCells, binV, zal, pickV, zam, zan, zao, zap, zaq, zar, zas, zat, zau, outR, resAll, resOne, zav, zaw, zax, zay, zaz, zba, zbb, zbc, zbd, zbe, zbf, zbg, zbh, zbi, zbj, zbk, storeOp, storeCell, overlay, zbl, zbm, zbn, lookupOp, keyT, okRes, mapUpdateOp, zbo, zbp, zbq, zbr, zbs, zbt, zbu, Nat.reduceSub, Nat.reduceAdd, Int.reduceLT, Int.reduceLE, Int.reduceAdd, Int.reduceSub, Int.reduceToNat, Int.reduceBEq, Int.reduceBNe, Int.reduceMul, Nat.reduceBEq, Nat.reduceBNe, Nat.reduceLT, Nat.reduceLeDiff, Nat.reduceMul, Nat.reduceEqDiff, WD, effB, effH, isPriv, isHeap, isImm, zbx, zby, zbz, chkO, setD, dslot, zca, zcb, zcc, zcd, ptrCells_some, F26, f110, h110, f116, h116, buildSliceV, lits, srcV_eq, srcK_sl, srcK_str, srcSl_nils, srcSl_rsl, srcSl_sl, appendOp, frow, zbv, zbw, List.all_nil, List.all_cons, rowV, Bool.false_and, Bool.and_false, ne_eq, not_false_eq_true, grows_lr, callOut_t, hw1, hwo, q1, q2, q3, q4, hq2]
                  refine ⟨L.length - (i + 2), by omega, i + 2, out ++ [9], ?_, rfl, by omega, by omega, by simp; omega, hone 9 rfl⟩
                  simp only [WN, firstReg, growAll, zbv, zbw, norm, killS, zag, zah, zaa, zab, zbl, zat, zad, growOne, zae, zaf, zac, zas, zak, Nat.reduceLT, Nat.reduceAdd, zbj, zav, F26, hx.clip2, by8, List.map_append, List.length_append, byteV]
                  try rfl
                | false =>
                  have m116 : d ≠ 116 := by simpa using h116
                  by_cases hq : d = 34 ∨ d = 92
                  · have hesc : escS (d :: L.drop (i + 1 + 1)) = .ok d 1 := by rcases hq with rfl | rfl <;> rfl
                    cases hd34 : (d == 34) with
                    | true =>
                      simp only [WW, partV, eqCells, eqLf, minV, maxV, ifcV, zaa, zab, zac, zad, zae, zaf, zag, zah, zai, ofConst, ofConst1, List.replicate, zaj, zak, loadOp, Go.Abs.loadCells, binV, zal, pickV, zam, zan, zao, zap, zaq, zar, zas, zat, zau, outR, resAll, resOne, zav, zaw, zax, zay, zaz, zba, zbb, zbc, zbd, zbe, zbf, zbg, zbh, zbi, zbj, zbk, storeOp, storeCell, overlay, zbl, zbm, zbn, lookupOp, keyT, okRes, mapUpdateOp, zbo, zbp, zbq, zbr, zbs, zbt, zbu, Nat.reduceSub, Nat.reduceAdd, Int.reduceLT, Int.reduceLE, Int.reduceAdd, Int.reduceSub, Int.reduceToNat, Int.reduceBEq, Int.reduceBNe, Int.reduceMul, Nat.reduceBEq, Nat.reduceBNe, Nat.reduceLT, Nat.reduceLeDiff, Nat.reduceMul, Nat.reduceEqDiff, WD, effB, effH, isPriv, isHeap, isImm, zbx, zby, zbz, chkO, setD, dslot, zca, zcb, zcc, zcd, ptrCells_some, F26, f110, h110, f116, h116, f34, hd34, hx.shutIn, hat1.at1 hx, hat1.cells, byteV, buildSliceV, lits, srcV_eq, srcK_sl, srcK_str, srcSl_nils, srcSl_rsl, srcSl_sl, appendOp, frow, zbv, zbw, List.all_nil, List.all_cons, rowV, Bool.false_and, Bool.and_false, ne_eq, not_false_eq_true, grows_lr, callOut_t, hw1, hwo, q1, q2, q3, q4, hq2]
                      refine ⟨L.length - (i + 2), by omega, i + 2, out ++ [d], ?_, rfl, by omega, by omega, by simp; omega, hone d hesc⟩
                      simp only [WN, firstReg, growAll, zbv, zbw, norm, killS, zag, zah, zaa, zab, zbl, zat, zad, growOne, zae, zaf, zac, zas, zak, Nat.reduceLT, Nat.reduceAdd, zbj, zav, F26, hx.clip2, by8, List.map_append, List.length_append, byteV]
                      try rfl
                    | false =>
                      have hd92 : (d == 92) = true := by
                        rcases hq with rfl | rfl
                        · cases hd34
                        · rfl
                      simp only [WW, partV, eqCells, eqLf, minV, maxV, ifcV, zaa, zab, zac, zad, zae, zaf, zag, zah, zai, ofConst, ofConst1, List.replicate, zaj, zak, loadOp, Go.Abs.loadCells, binV, zal, pickV, zam, zan, zao, zap, zaq, zar, zas, zat, zau, outR, resAll, resOne, zav, zaw, zax, zay, zaz, zba, zbb, zbc, zbd, zbe, zbf, zbg, zbh, zbi, zbj, zbk, storeOp, storeCell, overlay, zbl, zbm, zbn, lookupOp, keyT, okRes, mapUpdateOp, zbo, zbp, zbq, zbr, zbs, zbt, zbu, Nat.reduceSub, Nat.reduceAdd, Int.reduceLT, Int.reduceLE, Int.reduceAdd, Int.reduceSub, Int.reduceToNat, Int.reduceBEq, Int.reduceBNe, Int.reduceMul, Nat.reduceBEq, Nat.reduceBNe, Nat.reduceLT, Nat.reduceLeDiff, Nat.reduceMul, Nat.reduceEqDiff, WD, effB, effH, isPriv, isHeap, isImm, zbx, zby, zbz, chkO, setD, dslot, zca, zcb, zcc, zcd, ptrCells_some, F26, f110, h110, f116, h116, f34, hd34, f92, hd92, hx.shutIn, hat1.at1 hx, hat1.cells, byteV, buildSliceV, lits, srcV_eq, srcK_sl, srcK_str, srcSl_nils, srcSl_rsl, srcSl_sl, appendOp, frow, zbv, zbw, List.all_nil, List.all_cons, rowV, Bool.false_and, Bool.and_false, ne_eq, not_false_eq_true, grows_lr, callOut_t, hw1, hwo, q1, q2, q3, q4, hq2]
                      refine ⟨L.length - (i + 2), by omega, i + 2, out ++ [d], ?_, rfl, by omega, by omega, by simp; omega, hone d hesc⟩
                      simp only [WN, firstReg, growAll, zbv, zbw, norm, killS, zag, zah, zaa, zab, zbl, zat, zad, growOne, zae, zaf, zac, zas, zak, Nat.reduceLT, Nat.reduceAdd, zbj, zav, F26, hx.clip2, by8, List.map_append, List.length_append, byteV]
                      try rfl
                  · have hd34 : (d == 34) = false := by rw [beq_eq_false_iff_ne]; exact fun e => hq (.inl e)
                    have hd92 : (d == 92) = false := by rw [beq_eq_false_iff_ne]; exact fun e => hq (.inr e)
                    cases h120 : (d == 120) with
                    | false =>
                      have m120 : d ≠ 120 := by simpa using h120
                      have hesc : escS (d :: L.drop (i + 1 + 1)) = .bad 0 := by
                        simp only [escS]
                        rw [if_neg m120]
                        simp [escB, m110, m116, hq]
                      rw [hesc] at hs
                      simp only [WW, partV, eqCells, eqLf, minV, maxV, ifcV, zaa, zab, zac, zad, zae, zaf, zag, zah, zai, ofConst, ofConst1, List.replicate, zaj, zak, loadOp, Go.Abs.loadCells, binV, zal, pickV, zam, zan, zao, zap, zaq, zar, zas, zat, zau, outR, resAll, resOne, zav, zaw, zax, zay, zaz, zba, zbb, zbc, zbd, zbe, zbf, zbg, zbh, zbi, zbj, zbk, storeOp, storeCell, overlay, zbl, zbm, zbn, lookupOp, keyT, okRes, mapUpdateOp, zbo, zbp, zbq, zbr, zbs, zbt, zbu, Nat.reduceSub, Nat.reduceAdd, Int.reduceLT, Int.reduceLE, Int.reduceAdd, Int.reduceSub, Int.reduceToNat, Int.reduceBEq, Int.reduceBNe, Int.reduceMul, Nat.reduceBEq, Nat.reduceBNe, Nat.reduceLT, Nat.reduceLeDiff, Nat.reduceMul, Nat.reduceEqDiff, WD, effB, effH, isPriv, isHeap, isImm, zbx, zby, zbz, chkO, setD, dslot, zca, zcb, zcc, zcd, ptrCells_some, F26, f110, h110, f116, h116, f34, hd34, f92, hd92, f120, h120]
                      rw [← hs]
                      have e2 : p + (i - p + 1 + 0) = i + 1 := by omega
                      simp only [rxR, e2]
                      first | exact ⟨rfl, ⟨⟨4, [], 0, p⟩, rfl⟩, rfl⟩ | exact ⟨rfl, ⟨4, [], 0, p⟩, rfl⟩ | exact ⟨⟨4, [], 0, p⟩, rfl⟩
                    | true =>
                      obtain rfl : d = 120 := by simpa using h120
                      simp only [WW, partV, eqCells, eqLf, minV, maxV, ifcV, zaa, zab, zac, zad, zae, zaf, zag, zah, zai, ofConst, ofConst1, List.replicate, zaj, zak, loadOp, Go.Abs.loadCells, binV, zal, pickV, zam, zan, zao, zap, zaq, zar, zas, zat, zau, outR, resAll, resOne, zav, zaw, zax, zay, zaz, zba, zbb, zbc, zbd, zbe, zbf, zbg, zbh, zbi, zbj, zbk, storeOp, storeCell, overlay, zbl, zbm, zbn, lookupOp, keyT, okRes, mapUpdateOp, zbo, zbp, zbq, zbr, zbs, zbt, zbu, Nat.reduceSub, Nat.reduceAdd, Int.reduceLT, Int.reduceLE, Int.reduceAdd, Int.reduceSub, Int.reduceToNat, Int.reduceBEq, Int.reduceBNe, Int.reduceMul, Nat.reduceBEq, Nat.reduceBNe, Nat.reduceLT, Nat.reduceLeDiff, Nat.reduceMul, Nat.reduceEqDiff, WD, effB, effH, isPriv, isHeap, isImm, zbx, zby, zbz, chkO, setD, dslot, zca, zcb, zcc, zcd, ptrCells_some, F26, f110, h110, f116, h116, f34, hd34, f92, hd92, f120, h120, hq2]
                      refine wC_loop _ (fun k st' H' => ∃ j nn : Nat, st' = ⟨L26_25 (.v x) (.box 0) (.box 1) (.v (.lr 0 out.length)) (.v (.int .i64 ((i + 1 : Nat) : Int))) (.v (.int .i64 (nn : Int))) (.v (.int .i64 ((i + 2 + j : Nat) : Int))), [[.int .i64 0, .str ByteArray.empty, .int .i64 0, .int .i64 0], [.int .i64 4, .str ByteArray.empty, .int .i64 0, .int .i64 (p : Int)]], [⟨true, true, by8 out⟩]⟩ ∧ H' = [] ∧ j ≤ 2 ∧ k = 2 - j ∧
                        ((j = 0 ∧ nn = 0) ∨ (j = 1 ∧ ∃ a, L[i + 2]? = some a ∧ hexN a = some nn) ∨ (j = 2 ∧ ∃ a b m1 m2, L[i + 2]? = some a ∧ hexN a = some m1 ∧ L[i + 3]? = some b ∧ hexN b = some m2 ∧ nn = 16 * m1 + m2))) 2 ⟨0, 0, ?_, rfl, by omega, rfl, .inl ⟨rfl, rfl⟩⟩ ?_
                      · simp only [WN, firstReg, growAll, zbv, zbw, norm, killS, zag, zah, zaa, zab, zbl, zat, zad, growOne, zae, zaf, zac, zas, zak, Nat.reduceLT, Nat.reduceAdd, zbj, zav, F26, L26_25, hx.clip2]
                        try rfl
                      · rintro k st' H' ⟨j, nn, rfl, rfl, hj, rfl, hcase⟩
                        simp only [L26_25]
                        have hw3 : IntKind.i64.wrap (((i + 1 : Nat) : Int) + 3) = ((i + 4 : Nat) : Int) := by rw [IntWalk.i64_in _ (by omega)]; omega
                        simp only [WW, partV, eqCells, eqLf, minV, maxV, ifcV, zaa, zab, zac, zad, zae, zaf, zag, zah, zai, ofConst, ofConst1, List.replicate, zaj, zak, loadOp, Go.Abs.loadCells, binV, zal, pickV, zam, zan, zao, zap, zaq, zar, zas, zat, zau, outR, resAll, resOne, zav, zaw, zax, zay, zaz, zba, zbb, zbc, zbd, zbe, zbf, zbg, zbh, zbi, zbj, zbk, storeOp, storeCell, overlay, zbl, zbm, zbn, lookupOp, keyT, okRes, mapUpdateOp, zbo, zbp, zbq, zbr, zbs, zbt, zbu, Nat.reduceSub, Nat.reduceAdd, Int.reduceLT, Int.reduceLE, Int.reduceAdd, Int.reduceSub, Int.reduceToNat, Int.reduceBEq, Int.reduceBNe, Int.reduceMul, Nat.reduceBEq, Nat.reduceBNe, Nat.reduceLT, Nat.reduceLeDiff, Nat.reduceMul, Nat.reduceEqDiff, WD, effB, effH, isPriv, isHeap, isImm, zbx, zby, zbz, chkO, setD, dslot, zca, zcb, zcc, zcd, ptrCells_some, F26, hw3]
                        refine cSplit (fun hlt => ?_) (fun hge => ?_)
                        · have hj2 : j < 2 := by have := of_decide_eq_true hlt; omega
                          have hn16 : nn < 16 := by
                            rcases hcase with ⟨_, rfl⟩ | ⟨_, a, _, h⟩ | ⟨h, _⟩
                            · omega
                            · exact hexN_lt h
                            · omega
                          simp only [hlt]
                          by_cases hqe : L.length ≤ i + 2 + j
                          · have g4 : decide ((L.length : Int) ≤ ((i + 2 + j : Nat) : Int)) = true := decide_eq_true (by omega)
                            have hesc : escS (120 :: L.drop (i + 1 + 1)) = .bad (j + 1) := by
                              simp only [escS]
                              rcases hcase with ⟨rfl, rfl⟩ | ⟨rfl, a, ha, h⟩ | ⟨h, _⟩
                              · rw [List.drop_of_length_le (by omega)]; rfl
                              · rw [show i + 1 + 1 = i + 2 from rfl, drop_cons ha, List.drop_of_length_le (by omega)]
                                simp [h]
                              · omega
                            rw [hesc] at hs
                            simp only [WW, partV, eqCells, eqLf, minV, maxV, ifcV, zaa, zab, zac, zad, zae, zaf, zag, zah, zai, ofConst, ofConst1, List.replicate, zaj, zak, loadOp, Go.Abs.loadCells, binV, zal, pickV, zam, zan, zao, zap, zaq, zar, zas, zat, zau, outR, resAll, resOne, zav, zaw, zax, zay, zaz, zba, zbb, zbc, zbd, zbe, zbf, zbg, zbh, zbi, zbj, zbk, storeOp, storeCell, overlay, zbl, zbm, zbn, lookupOp, keyT, okRes, mapUpdateOp, zbo, zbp, zbq, zbr, zbs, zbt, zbu, Nat.reduceSub, Nat.reduceAdd, Int.reduceLT, Int.reduceLE, Int.reduceAdd, Int.reduceSub, Int.reduceToNat, Int.reduceBEq, Int.reduceBNe, Int.reduceMul, Nat.reduceBEq, Nat.reduceBNe, Nat.reduceLT, Nat.reduceLeDiff, Nat.reduceMul, Nat.reduceEqDiff, WD, effB, effH, isPriv, isHeap, isImm, zbx, zby, zbz, chkO, setD, dslot, zca, zcb, zcc, zcd, ptrCells_some, F26, hx.shutIn, hx.len, by8_len, g4]
                            rw [← hs]
                            have e2 : p + (i - p + 1 + (j + 1)) = i + 2 + j := by omega
                            simp only [rxR, e2]
                            first | exact ⟨rfl, ⟨⟨4, [], 0, p⟩, rfl⟩, rfl⟩ | exact ⟨rfl, ⟨4, [], 0, p⟩, rfl⟩ | exact ⟨⟨4, [], 0, p⟩, rfl⟩
                          · have g4 : decide ((L.length : Int) ≤ ((i + 2 + j : Nat) : Int)) = false := decide_eq_false (by omega)
                            have hc2 : L[i + 2 + j]? = some (L[i + 2 + j]'(by omega)) := List.getElem?_eq_getElem _
                            generalize L[i + 2 + j]'_ = a at hc2
                            have hc28 : (by8 L)[i + 2 + j]? = some (byteV a) := by simp [by8, hc2]
                            have hat2 := hx.at_ (sz := 1) hc28 rfl
                            simp only [WW, partV, eqCells, eqLf, minV, maxV, ifcV, zaa, zab, zac, zad, zae, zaf, zag, zah, zai, ofConst, ofConst1, List.replicate, zaj, zak, loadOp, Go.Abs.loadCells, binV, zal, pickV, zam, zan, zao, zap, zaq, zar, zas, zat, zau, outR, resAll, resOne, zav, zaw, zax, zay, zaz, zba, zbb, zbc, zbd, zbe, zbf, zbg, zbh, zbi, zbj, zbk, storeOp, storeCell, overlay, zbl, zbm, zbn, lookupOp, keyT, okRes, mapUpdateOp, zbo, zbp, zbq, zbr, zbs, zbt, zbu, Nat.reduceSub, Nat.reduceAdd, Int.reduceLT, Int.reduceLE, Int.reduceAdd, Int.reduceSub, Int.reduceToNat, Int.reduceBEq, Int.reduceBNe, Int.reduceMul, Nat.reduceBEq, Nat.reduceBNe, Nat.reduceLT, Nat.reduceLeDiff, Nat.reduceMul, Nat.reduceEqDiff, WD, effB, effH, isPriv, isHeap, isImm, zbx, zby, zbz, chkO, setD, dslot, zca, zcb, zcc, zcd, ptrCells_some, F26, hx.shutIn, hx.len, by8_len, g4, hat2.at1 hx, hat2.cells, byteV]
                            rw [wpCall_eq (rhexit_eq a _)]
                            cases hh : hexN a with
                            | none =>
                              have hI : hexI a = -1 := by unfold hexI; rw [hh]
                              have hesc : escS (120 :: L.drop (i + 1 + 1)) = .bad (j + 1) := by
                                simp only [escS]
                                rcases hcase with ⟨rfl, rfl⟩ | ⟨rfl, a', ha, h⟩ | ⟨h, _⟩
                                · rw [show i + 1 + 1 = i + 2 from rfl, drop_cons hc2]; simp [hh]
                                · rw [show i + 1 + 1 = i + 2 from rfl, drop_cons ha, drop_cons hc2]; simp [hh, h]
                                · omega
                              rw [hesc] at hs
                              simp only [WW, partV, eqCells, eqLf, minV, maxV, ifcV, zaa, zab, zac, zad, zae, zaf, zag, zah, zai, ofConst, ofConst1, List.replicate, zaj, zak, loadOp, Go.Abs.loadCells, binV, zal, pickV, zam, zan, zao, zap, zaq, zar, zas, zat, zau, outR, resAll, resOne, zav, zaw, zax, zay, zaz, zba, zbb, zbc, zbd, zbe, zbf, zbg, zbh, zbi, zbj, zbk, storeOp, storeCell, overlay, zbl, zbm, zbn, lookupOp, keyT, okRes, mapUpdateOp, zbo, zbp, zbq, zbr, zbs, zbt, zbu, Nat.reduceSub, Nat.reduceAdd, Int.reduceLT, Int.reduceLE, Int.reduceAdd, Int.reduceSub, Int.reduceToNat, Int.reduceBEq, Int.reduceBNe, Int.reduceMul, Nat.reduceBEq, Nat.reduceBNe, Nat.reduceLT, Nat.reduceLeDiff, Nat.reduceMul, Nat.reduceEqDiff, WD, effB, effH, isPriv, isHeap, isImm, zbx, zby, zbz, chkO, setD, dslot, zca, zcb, zcc, zcd, ptrCells_some, F26, hI]
                              rw [← hs]
                              have e2 : p + (i - p + 1 + (j + 1)) = i + 2 + j := by omega
                              simp only [rxR, e2]
                              first | exact ⟨rfl, ⟨⟨4, [], 0, p⟩, rfl⟩, rfl⟩ | exact ⟨rfl, ⟨4, [], 0, p⟩, rfl⟩ | exact ⟨⟨4, [], 0, p⟩, rfl⟩
                            | some m =>
                              have hI : hexI a = m := by unfold hexI; rw [hh]
                              have hm := hexN_lt hh
                              have hneg : decide ((m : Int) < 0) = false := decide_eq_false (by omega)
                              have hw1' : IntKind.i64.wrap ((nn : Int) * 16) = ((16 * nn : Nat) : Int) := by rw [IntWalk.i64_in _ (by omega)]; omega
                              have hw2' : IntKind.i64.wrap (((16 * nn : Nat) : Int) + (m : Int)) = ((16 * nn + m : Nat) : Int) := by rw [IntWalk.i64_in _ (by omega)]; omega
                              have hi1 : IntKind.i64.wrap (((i + 2 + j : Nat) : Int) + 1) = ((i + 2 + (j + 1) : Nat) : Int) := by rw [IntWalk.i64_in _ (by omega)]; omega
                              simp only [WW, partV, eqCells, eqLf, minV, maxV, ifcV, zaa, zab, zac, zad, zae, zaf, zag, zah, zai, ofConst, ofConst1, List.replicate, zaj, zak, loadOp, Go.Abs.loadCells, binV, zal, pickV, zam, zan, zao, zap, zaq, zar, zas, zat, zau, outR, resAll, resOne, zav, zaw, zax, zay, zaz, zba, zbb, zbc, zbd, zbe, zbf, zbg, zbh, zbi, zbj, zbk, storeOp, storeCell, overlay, zbl, zbm, zbn, lookupOp, keyT, okRes, mapUpdateOp, zbo, zbp, zbq, zbr, zbs, zbt, zbu, Nat.reduceSub, Nat.reduceAdd, Int.reduceLT, Int.reduceLE, Int.reduceAdd, Int.reduceSub, Int.reduceToNat, Int.reduceBEq, Int.reduceBNe, Int.reduceMul, Nat.reduceBEq, Nat.reduceBNe, Nat.reduceLT, Nat.reduceLeDiff, Nat.reduceMul, Nat.reduceEqDiff, WD, effB, effH, isPriv, isHeap, isImm, zbx, zby, zbz, chkO, setD, dslot, zca, zcb, zcc, zcd, ptrCells_some, F26, hI, hneg, hx.shutIn, hat2.at1 hx, hat2.cells, byteV, hw1']
                              rw [wpCall_eq (rhexit_eq a _)]
                              simp only [WW, partV, eqCells, eqLf, minV, maxV, ifcV, zaa, zab, zac, zad, zae, zaf, zag, zah, zai, ofConst, ofConst1, List.replicate, zaj, zak, loadOp, Go.Abs.loadCells, binV, zal, pickV, zam, zan, zao, zap, zaq, zar, zas, zat, zau, outR, resAll, resOne, zav, zaw, zax, zay, zaz, zba, zbb, zbc, zbd, zbe, zbf, zbg, zbh, zbi, zbj, zbk, storeOp, storeCell, overlay, zbl, zbm, zbn, lookupOp, keyT, okRes, mapUpdateOp, zbo, zbp, zbq, zbr, zbs, zbt, zbu, Nat.reduceSub, Nat.reduceAdd, Int.reduceLT, Int.reduceLE, Int.reduceAdd, Int.reduceSub, Int.reduceToNat, Int.reduceBEq, Int.reduceBNe, Int.reduceMul, Nat.reduceBEq, Nat.reduceBNe, Nat.reduceLT, Nat.reduceLeDiff, Nat.reduceMul, Nat.reduceEqDiff, WD, effB, effH, isPriv, isHeap, isImm, zbx, zby, zbz, chkO, setD, dslot, zca, zcb, zcc, zcd, ptrCells_some, F26, hI, hw1', hw2', hi1]
                              refine ⟨2 - (j + 1), by omega, j + 1, 16 * nn + m, ?_, by omega, rfl, ?_⟩
                              · simp only [WN, firstReg, growAll, zbv, zbw, norm, killS, zag, zah, zaa, zab, zbl, zat, zad, growOne, zae, zaf, zac, zas, zak, Nat.reduceLT, Nat.reduceAdd, zbj, zav, F26, hx.clip2, hi1]
                                try rfl
                              · rcases hcase with ⟨rfl, rfl⟩ | ⟨rfl, a', ha, h⟩ | ⟨h, _⟩
                                · exact .inr (.inl ⟨rfl, a, hc2, by rw [hh]; simp⟩)
                                · exact .inr (.inr ⟨rfl, a', a, nn, m, ha, h, hc2, hh, rfl⟩)
                                · omega
                        · have hj2 : j = 2 := by have := of_decide_eq_false hge; omega
                          subst hj2
                          rcases hcase with ⟨h, _⟩ | ⟨h, _⟩ | ⟨_, a, b, m1, m2, ha, hm1, hb, hm2, rfl⟩
                          · omega
                          · omega
                          · have := hexN_lt hm1
                            have := hexN_lt hm2
                            have hbl := (List.getElem?_eq_some_iff.1 hb).1
                            have hw8 : IntKind.u8.wrap ((16 * m1 + m2 : Nat) : Int) = (((UInt8.ofNat (16 * m1 + m2)).toNat : Nat) : Int) := by
                              rw [u8wrap (by omega)]; simp; omega
                            have hq5 : IntKind.i64.wrap (((i + 1 : Nat) : Int) + 2) = ((i + 3 : Nat) : Int) := by rw [IntWalk.i64_in _ (by omega)]; omega
                            have hq6 : IntKind.i64.wrap (((i + 3 : Nat) : Int) + 1) = ((i + 4 : Nat) : Int) := by rw [IntWalk.i64_in _ (by omega)]; omega
                            have hesc : escS (120 :: L.drop (i + 1 + 1)) = .ok (UInt8.ofNat (16 * m1 + m2)) 3 := by
                              simp only [escS]
                              rw [show i + 1 + 1 = i + 2 from rfl, drop_cons ha, drop_cons hb]
                              simp [hm1, hm2]
                            rw [hesc] at hs
                            simp only [List.drop_succ_cons] at hs
                            simp only [hge]
                            simp only [WW, partV, eqCells, eqLf, minV, maxV, ifcV, zaa, zab, zac, zad, zae, zaf, zag, zah, zai, ofConst, ofConst1, List.replicate, zaj, zak, loadOp, Go.Abs.loadCells, binV, zal, pickV, zam, zan, zao, zap, zaq, zar, zas, zat, zau, outR, resAll, resOne, zav, zaw, zax, zay, zaz, zba, zbb, zbc, zbd, zbe, zbf, zbg, zbh, zbi, zbj, zbk, storeOp, storeCell, overlay, zbl, zbm, zbn, lookupOp, keyT, okRes, mapUpdateOp, zbo, zbp, zbq, zbr, zbs, zbt, zbu, Nat.reduceSub, Nat.reduceAdd, Int.reduceLT, Int.reduceLE, Int.reduceAdd, Int.reduceSub, Int.reduceToNat, Int.reduceBEq, Int.reduceBNe, Int.reduceMul, Nat.reduceBEq, Nat.reduceBNe, Nat.reduceLT, Nat.reduceLeDiff, Nat.reduceMul, Nat.reduceEqDiff, WD, effB, effH, isPriv, isHeap, isImm, zbx, zby, zbz, chkO, setD, dslot, zca, zcb, zcc, zcd, ptrCells_some, F26, conv35, hw8, buildSliceV, lits, srcV_eq, srcK_sl, srcK_str, srcSl_nils, srcSl_rsl, srcSl_sl, appendOp, frow, zbv, zbw, List.all_nil, List.all_cons, rowV, Bool.false_and, Bool.and_false, ne_eq, not_false_eq_true, grows_lr, callOut_t, hw1, hwo, q1, q2, q3, q4, hq5, hq6]
                            refine ⟨L.length - (i + 4), by omega, i + 4, out ++ [UInt8.ofNat (16 * m1 + m2)], ?_, rfl, by omega, by omega, by simp; omega, ?_⟩
                            · simp only [WN, firstReg, growAll, zbv, zbw, norm, killS, zag, zah, zaa, zab, zbl, zat, zad, growOne, zae, zaf, zac, zas, zak, Nat.reduceLT, Nat.reduceAdd, zbj, zav, F26, hx.clip2, by8, List.map_append, List.length_append, byteV]
                              try rfl
                            · rw [List.drop_drop] at hs
                              rw [show i + 4 - p = i - p + 1 + 3 by omega]
                              exact hs
    · have hi3 : i = L.length := by omega
      have g1 : decide ((i : Int) < (L.length : Int)) = false := decide_eq_false (by omega)
      have g2 : decide ((L.length : Int) ≤ (i : Int)) = true := decide_eq_true (by omega)
      have ht : textS (L.drop i) out (i - p) = .bad 6 (i - p) := by rw [List.drop_of_length_le (by omega)]; rw [textS]
      rw [ht] at hs
      simp only [WW, partV, eqCells, eqLf, minV, maxV, ifcV, zaa, zab, zac, zad, zae, zaf, zag, zah, zai, ofConst, ofConst1, List.replicate, zaj, zak, loadOp, Go.Abs.loadCells, binV, zal, pickV, zam, zan, zao, zap, zaq, zar, zas, zat, zau, outR, resAll, resOne, zav, zaw, zax, zay, zaz, zba, zbb, zbc, zbd, zbe, zbf, zbg, zbh, zbi, zbj, zbk, storeOp, storeCell, overlay, zbl, zbm, zbn, lookupOp, keyT, okRes, mapUpdateOp, zbo, zbp, zbq, zbr, zbs, zbt, zbu, Nat.reduceSub, Nat.reduceAdd, Int.reduceLT, Int.reduceLE, Int.reduceAdd, Int.reduceSub, Int.reduceToNat, Int.reduceBEq, Int.reduceBNe, Int.reduceMul, Nat.reduceBEq, Nat.reduceBNe, Nat.reduceLT, Nat.reduceLeDiff, Nat.reduceMul, Nat.reduceEqDiff, WD, effB, effH, isPriv, isHeap, isImm, zbx, zby, zbz, chkO, setD, dslot, zca, zcb, zcc, zcd, ptrCells_some, F26, g1, hx.shutIn, hx.len, by8_len, g2]
      rw [← hs]
      have e2 : p + (i - p) = L.length := by omega
      simp only [rxR, e2]
      first | exact ⟨rfl, ⟨⟨4, [], 0, p⟩, rfl⟩, rfl⟩ | exact ⟨rfl, ⟨4, [], 0, p⟩, rfl⟩ | exact ⟨⟨4, [], 0, p⟩, rfl⟩
end Go.Proofs.YtcmndnkeoepmoaaDoor

namespace Go.Proofs.YtcmndnkeoepmoaaDoor
open Go Go.Abs Go.Proofs
set_option maxRecDepth 100000
set_option maxHeartbeats 6000000
set_option linter.unusedVariables false
set_option linter.unusedSimpArgs false
theorem rx_tok {p : Nat} {nx : Nx} {out : Out} (h : rxR p nx out) : ∃ (t : Tk) (q e : Nat), out = .ret (.tup [tokV t, .int .i64 (q : Int), .int .i64 (e : Int)]) false ∧
    (∀ k tt n len, nx = .tok k tt n len → t = ⟨k, tt, n, p⟩ ∧ q = p + len ∧ e = 0) ∧ (∀ e' off, nx = .bad e' off → q = p + off ∧ e = e') := by
  cases nx with
  | tok k tt n len => exact ⟨_, p + len, 0, h, fun _ _ _ _ e => by cases e; exact ⟨rfl, rfl, rfl⟩, fun _ _ e => by cases e⟩
  | bad e off => obtain ⟨t, h⟩ := h; exact ⟨t, p + off, e, h, fun _ _ _ _ e => (by cases e), fun _ _ e => by cases e; exact ⟨rfl, rfl⟩⟩
theorem noHeap_toks : ∀ ts : List Tk, noHeapL (ts.map tokV) = true
  | [] => rfl
  | t :: ts => by
    have := noHeap_toks ts
    simp only [List.map_cons, noHeapL, this, Bool.and_true]; rfl
theorem rlex_spec {x : V} {L : List UInt8} (hB : Bx x L) (hL : L.length ≤ 65536) (H : Hp) :
    wpCall EW 11 [x] H (fun out H' => lexOut L.length (lexS L 0 0) out ∧ H' = H) := by
  have hx := hB.rd []
  have ha : noHeapL [x] = true := by simp only [noHeapL, hB.noHeap, Bool.and_self]
  refine runsP f11 b11 r11 n11 _ ha _ ?_
  simp only [bodyOf, Tryd.f11, Option.getD_some]
  have h65 : decide ((65536 : Int) < (L.length : Int)) = false := decide_eq_false (by omega)
  simp only [WW, partV, eqCells, eqLf, minV, maxV, ifcV, zaa, zab, zac, zad, zae, zaf, zag, zah, zai, ofConst, ofConst1, List.replicate, zaj, zak, loadOp, Go.Abs.loadCells, binV, zal, pickV, zam, zan, zao, zap, zaq, zar, zas, zat, zau, outR, resAll, resOne, zav, zaw, zax, zay, zaz, zba, zbb, zbc, zbd, zbe, zbf, zbg, zbh, zbi, zbj, zbk, storeOp, storeCell, overlay, zbl, zbm, zbn, lookupOp, keyT, okRes, mapUpdateOp, zbo, zbp, zbq, zbr, zbs, zbt, zbu, Nat.reduceSub, Nat.reduceAdd, Int.reduceLT, Int.reduceLE, Int.reduceAdd, Int.reduceSub, Int.reduceToNat, Int.reduceBEq, Int.reduceBNe, Int.reduceMul, Nat.reduceBEq, Nat.reduceBNe, Nat.reduceLT, Nat.reduceLeDiff, Nat.reduceMul, Nat.reduceEqDiff, WD, effB, effH, isPriv, isHeap, isImm, zbx, zby, zbz, chkO, setD, dslot, zca, zcb, zcc, zcd, ptrCells_some, F11, hx.shutIn, hx.len, by8_len, h65]
  have hsk0 := rskip_eq hB 0 (Nat.zero_le _) (by omega) []
  have z0 : ((0 : Nat) : Int) = 0 := rfl
  rw [z0] at hsk0
  rw [wpCall_eq hsk0]
  simp only [WW, partV, eqCells, eqLf, minV, maxV, ifcV, zaa, zab, zac, zad, zae, zaf, zag, zah, zai, ofConst, ofConst1, List.replicate, zaj, zak, loadOp, Go.Abs.loadCells, binV, zal, pickV, zam, zan, zao, zap, zaq, zar, zas, zat, zau, outR, resAll, resOne, zav, zaw, zax, zay, zaz, zba, zbb, zbc, zbd, zbe, zbf, zbg, zbh, zbi, zbj, zbk, storeOp, storeCell, overlay, zbl, zbm, zbn, lookupOp, keyT, okRes, mapUpdateOp, zbo, zbp, zbq, zbr, zbs, zbt, zbu, Nat.reduceSub, Nat.reduceAdd, Int.reduceLT, Int.reduceLE, Int.reduceAdd, Int.reduceSub, Int.reduceToNat, Int.reduceBEq, Int.reduceBNe, Int.reduceMul, Nat.reduceBEq, Nat.reduceBNe, Nat.reduceLT, Nat.reduceLeDiff, Nat.reduceMul, Nat.reduceEqDiff, WD, effB, effH, isPriv, isHeap, isImm, zbx, zby, zbz, chkO, setD, dslot, zca, zcb, zcc, zcd, ptrCells_some, F11]
  refine wC_loop _ (fun k st' H' => ∃ (i : Nat) (ts : List Tk), st' = ⟨L11_5 (.v x) (.v (.lr 0 ts.length)) (.v (.int .i64 ((i + skipN false (L.drop i) : Nat) : Int))), [], [⟨true, true, ts.map tokV⟩]⟩ ∧ H' = [] ∧ i ≤ L.length ∧ ts.length ≤ i ∧ ts.length ≤ 16384 ∧ k = L.length - i ∧
    lexS L 0 0 = (match lexS (L.drop i) i ts.length with | .ok l => .ok (ts ++ l) | .error e => .error e)) L.length ⟨0, [], ?_, rfl, Nat.zero_le _, Nat.le_refl _, by simp, rfl, by rw [List.drop_zero]; cases lexS L 0 ([] : List Tk).length <;> rfl⟩ ?_
  · simp only [WN, firstReg, growAll, zbv, zbw, norm, killS, zag, zah, zaa, zab, zbl, zat, zad, growOne, zae, zaf, zac, zas, zak, Nat.reduceLT, Nat.reduceAdd, zbj, zav, F11, L11_5, hx.clip2]
    rfl
  · rintro k st' H' ⟨i, ts, rfl, rfl, hi, hti, htm, rfl, hlex⟩
    simp only [L11_5]
    have hle := skipN_le false (L.drop i)
    obtain ⟨s, hs⟩ : ∃ s, s = skipN false (L.drop i) := ⟨_, rfl⟩
    rw [← hs] at hle ⊢
    have hsl : i + s ≤ L.length := by simp at hle; omega
    have hrl := lenK_row (H := []) (e := 36) (es := ts.map tokV) (n := ts.length) (by simp)
    have hwt := tok_wide ts
    have q1 : (ts.length == (ts.map tokV).length) = true := by simp
    have q2 : decide ((ts.length + 1) * 40 ≤ 70368744177664) = true := by simp; omega
    have q3 : decide (ts.length ≤ 4611686018427387903) = true := by simp; omega
    have hw0 : ∀ (a : Int) (b : ByteArray) (c d : Int), wideAll [V.agg [.int .i64 a, .str b, .int .i64 c, .int .i64 d]] 4 = true := fun _ _ _ _ => rfl
    have hdd : (L.drop i).drop s = L.drop (i + s) := List.drop_drop
    simp only [WW, partV, eqCells, eqLf, minV, maxV, ifcV, zaa, zab, zac, zad, zae, zaf, zag, zah, zai, ofConst, ofConst1, List.replicate, zaj, zak, loadOp, Go.Abs.loadCells, binV, zal, pickV, zam, zan, zao, zap, zaq, zar, zas, zat, zau, outR, resAll, resOne, zav, zaw, zax, zay, zaz, zba, zbb, zbc, zbd, zbe, zbf, zbg, zbh, zbi, zbj, zbk, storeOp, storeCell, overlay, zbl, zbm, zbn, lookupOp, keyT, okRes, mapUpdateOp, zbo, zbp, zbq, zbr, zbs, zbt, zbu, Nat.reduceSub, Nat.reduceAdd, Int.reduceLT, Int.reduceLE, Int.reduceAdd, Int.reduceSub, Int.reduceToNat, Int.reduceBEq, Int.reduceBNe, Int.reduceMul, Nat.reduceBEq, Nat.reduceBNe, Nat.reduceLT, Nat.reduceLeDiff, Nat.reduceMul, Nat.reduceEqDiff, WD, effB, effH, isPriv, isHeap, isImm, zbx, zby, zbz, chkO, setD, dslot, zca, zcb, zcc, zcd, ptrCells_some, F11, hx.shutIn, hx.len, by8_len]
    by_cases hend : i + s = L.length
    · have hnil : (L.drop i).drop s = [] := by rw [hdd, List.drop_of_length_le (by omega)]
      rw [hs] at hnil
      rw [lexS_end hnil, ← hs] at hlex
      have g1 : decide (((i + s : Nat) : Int) < (L.length : Int)) = false := decide_eq_false (by omega)
      simp only [WW, partV, eqCells, eqLf, minV, maxV, ifcV, zaa, zab, zac, zad, zae, zaf, zag, zah, zai, ofConst, ofConst1, List.replicate, zaj, zak, loadOp, Go.Abs.loadCells, binV, zal, pickV, zam, zan, zao, zap, zaq, zar, zas, zat, zau, outR, resAll, resOne, zav, zaw, zax, zay, zaz, zba, zbb, zbc, zbd, zbe, zbf, zbg, zbh, zbi, zbj, zbk, storeOp, storeCell, overlay, zbl, zbm, zbn, lookupOp, keyT, okRes, mapUpdateOp, zbo, zbp, zbq, zbr, zbs, zbt, zbu, Nat.reduceSub, Nat.reduceAdd, Int.reduceLT, Int.reduceLE, Int.reduceAdd, Int.reduceSub, Int.reduceToNat, Int.reduceBEq, Int.reduceBNe, Int.reduceMul, Nat.reduceBEq, Nat.reduceBNe, Nat.reduceLT, Nat.reduceLeDiff, Nat.reduceMul, Nat.reduceEqDiff, WD, effB, effH, isPriv, isHeap, isImm, zbx, zby, zbz, chkO, setD, dslot, zca, zcb, zcc, zcd, ptrCells_some, F11, g1, hx.shutIn, hx.len, by8_len, buildOp, fillV, Lay.place, Bool.or_self, Bool.or_false, Bool.false_or, decide_not, ne_eq, not_true_eq_false, decide_eq_true_eq, Nat.lt_irrefl, buildSliceV, lits, srcV_eq, srcK_sl, srcK_str, srcSl_nils, srcSl_rsl, srcSl_sl, appendOp, frow, zbv, zbw, List.all_nil, List.all_cons, rowV, Bool.false_and, Bool.and_false, not_false_eq_true, grows_lr, callOut_t, hwt, hw0, q1, q2, q3]
      rw [hlex, hend]
      have hnh := noHeap_toks (ts ++ [⟨0, [], 0, L.length⟩])
      simp only [lexOut]
      rw [if_neg (by simp), List.take_of_length_le (by simp)]
      rw [List.map_append] at hnh ⊢
      refine ⟨?_, rfl⟩
      simp only [noHeapO, Abs.noHeap, noHeapL, Bool.and_true]
      exact hnh
    · have hlt : i + s < L.length := by omega
      have g1 : decide (((i + s : Nat) : Int) < (L.length : Int)) = true := decide_eq_true (by omega)
      obtain ⟨c, r, hcr⟩ : ∃ c r, L.drop (i + s) = c :: r := by
        cases h : L.drop (i + s) with
        | nil => have := congrArg List.length h; simp at this; omega
        | cons c r => exact ⟨c, r, rfl⟩
      have hcr2 : (L.drop i).drop (skipN false (L.drop i)) = c :: r := by rw [← hs, hdd]; exact hcr
      have hc : L[i + s]? = some c := by
        have : (L.drop (i + s))[0]? = some c := by rw [hcr]; rfl
        simpa using this
      have hc8 : (by8 L)[i + s]? = some (byteV c) := by simp [by8, hc]
      have hat := hx.at_ (sz := 1) hc8 rfl
      have e34 : (((c.toNat : Nat) : Int) == 34) = (c == 34) := u8b c 34
      cases hmany : ((ts.length : Int) == 16384) with
      | true =>
        have hm : ts.length = 16384 := by simp at hmany; omega
        rw [hm, lexS_many (by rw [hcr2]; simp), ← hs] at hlex
        simp only [WW, partV, eqCells, eqLf, minV, maxV, ifcV, zaa, zab, zac, zad, zae, zaf, zag, zah, zai, ofConst, ofConst1, List.replicate, zaj, zak, loadOp, Go.Abs.loadCells, binV, zal, pickV, zam, zan, zao, zap, zaq, zar, zas, zat, zau, outR, resAll, resOne, zav, zaw, zax, zay, zaz, zba, zbb, zbc, zbd, zbe, zbf, zbg, zbh, zbi, zbj, zbk, storeOp, storeCell, overlay, zbl, zbm, zbn, lookupOp, keyT, okRes, mapUpdateOp, zbo, zbp, zbq, zbr, zbs, zbt, zbu, Nat.reduceSub, Nat.reduceAdd, Int.reduceLT, Int.reduceLE, Int.reduceAdd, Int.reduceSub, Int.reduceToNat, Int.reduceBEq, Int.reduceBNe, Int.reduceMul, Nat.reduceBEq, Nat.reduceBNe, Nat.reduceLT, Nat.reduceLeDiff, Nat.reduceMul, Nat.reduceEqDiff, WD, effB, effH, isPriv, isHeap, isImm, zbx, zby, zbz, chkO, setD, dslot, zca, zcb, zcc, zcd, ptrCells_some, F11, g1, hrl, hmany]
        rw [hlex]
        first | exact ⟨rfl, rfl, rfl⟩ | exact ⟨rfl, rfl⟩ | exact rfl
      | false =>
        have hm : ts.length ≠ 16384 := by simp at hmany; omega
        simp only [WW, partV, eqCells, eqLf, minV, maxV, ifcV, zaa, zab, zac, zad, zae, zaf, zag, zah, zai, ofConst, ofConst1, List.replicate, zaj, zak, loadOp, Go.Abs.loadCells, binV, zal, pickV, zam, zan, zao, zap, zaq, zar, zas, zat, zau, outR, resAll, resOne, zav, zaw, zax, zay, zaz, zba, zbb, zbc, zbd, zbe, zbf, zbg, zbh, zbi, zbj, zbk, storeOp, storeCell, overlay, zbl, zbm, zbn, lookupOp, keyT, okRes, mapUpdateOp, zbo, zbp, zbq, zbr, zbs, zbt, zbu, Nat.reduceSub, Nat.reduceAdd, Int.reduceLT, Int.reduceLE, Int.reduceAdd, Int.reduceSub, Int.reduceToNat, Int.reduceBEq, Int.reduceBNe, Int.reduceMul, Nat.reduceBEq, Nat.reduceBNe, Nat.reduceLT, Nat.reduceLeDiff, Nat.reduceMul, Nat.reduceEqDiff, WD, effB, effH, isPriv, isHeap, isImm, zbx, zby, zbz, chkO, setD, dslot, zca, zcb, zcc, zcd, ptrCells_some, F11, g1, hrl, hmany, hx.shutIn, hat.at1 hx, hat.cells, byteV]
        rw [wpCall_eq (rletter_eq _ _)]
        -- what is done with a token
        have hbad : ∀ e off, nextS (c :: r) = .bad e off → lexS L 0 0 = .error (e, i + s + off) ∧ ((e : Int) != 0) = true := fun e off hnx => by
          rw [lexS_bad hcr2 hm hnx, ← hs] at hlex
          exact ⟨hlex, by rcases nextS_bad hnx with rfl | rfl <;> rfl⟩
        have htok : ∀ kd t n len, nextS (c :: r) = .tok kd t n len → 1 ≤ len ∧ i + s + len ≤ L.length ∧ lexS L 0 0 = (match lexS (L.drop (i + s + len)) (i + s + len) (ts.length + 1) with | .ok l => .ok (ts ++ [⟨kd, t, n, i + s⟩] ++ l) | .error e => .error e) := fun kd t n len hnx => by
          obtain ⟨hl1, hl2⟩ := nextS_len hnx
          have hlr : len ≤ L.length - (i + s) := by rw [← hcr] at hl2; simpa using hl2
          have hrd : r.drop (len - 1) = L.drop (i + s + len) := by
            rw [← List.drop_drop, hcr]
            cases len with
            | zero => omega
            | succ j => rfl
          rw [lexS_tok hcr2 hm hnx, ← hs, hrd] at hlex
          refine ⟨hl1, by omega, ?_⟩
          rw [hlex]
          cases lexS (L.drop (i + s + len)) (i + s + len) (ts.length + 1) with
          | ok l => simp
          | error e => rfl
        have hne0 : ((0 : Int) != 0) = false := rfl
        cases hl : letterB c.toNat with
        | true =>
          have hn : nextS (c :: r) = nameS (c :: r) := by simp only [nextS]; rw [if_pos hl]
          obtain ⟨D, hD⟩ : ∃ D, D = (L.drop (i + s)).takeWhile nameC := ⟨_, rfl⟩
          have hn2 : nextS (c :: r) = .tok (if wordB ⟨D.toArray⟩ then 2 else 1) D 0 D.length := by
            rw [hn, hD, hcr]; rfl
          obtain ⟨h1, h2, h3⟩ := htok _ _ _ _ hn2
          have hstop : ∀ u, L[i + s + D.length]? = some u → nameC u = false := fun u h => tw_stop nameC (L.drop (i + s)) u (by rw [← hD, List.getElem?_drop]; exact h)
          have hpre : ∀ j u, j < D.length → L[i + s + j]? = some u → nameC u = true := fun j u hj h => (tw_pre nameC (L.drop (i + s)) j u (by rw [← hD]; exact hj) (by rw [List.getElem?_drop]; exact h)).1
          simp only [WW, partV, eqCells, eqLf, minV, maxV, ifcV, zaa, zab, zac, zad, zae, zaf, zag, zah, zai, ofConst, ofConst1, List.replicate, zaj, zak, loadOp, Go.Abs.loadCells, binV, zal, pickV, zam, zan, zao, zap, zaq, zar, zas, zat, zau, outR, resAll, resOne, zav, zaw, zax, zay, zaz, zba, zbb, zbc, zbd, zbe, zbf, zbg, zbh, zbi, zbj, zbk, storeOp, storeCell, overlay, zbl, zbm, zbn, lookupOp, keyT, okRes, mapUpdateOp, zbo, zbp, zbq, zbr, zbs, zbt, zbu, Nat.reduceSub, Nat.reduceAdd, Int.reduceLT, Int.reduceLE, Int.reduceAdd, Int.reduceSub, Int.reduceToNat, Int.reduceBEq, Int.reduceBNe, Int.reduceMul, Nat.reduceBEq, Nat.reduceBNe, Nat.reduceLT, Nat.reduceLeDiff, Nat.reduceMul, Nat.reduceEqDiff, WD, effB, effH, isPriv, isHeap, isImm, zbx, zby, zbz, chkO, setD, dslot, zca, zcb, zcc, zcd, ptrCells_some, F11]
          refine wC_loop _ (fun k st' H' => ∃ e : Nat, st' = ⟨L11_12 (.v x) (.v (.lr 0 ts.length)) (.v (.int .i64 ((i + s : Nat) : Int))) (.box 0) (.v (.int .i64 ((i + s + e : Nat) : Int))) (.v (.int .i64 0)), [[.int .i64 0, .str ByteArray.empty, .int .i64 0, .int .i64 0]], [⟨true, true, ts.map tokV⟩]⟩ ∧ H' = [] ∧ e ≤ D.length ∧ k = D.length - e) D.length ⟨0, ?_, rfl, by omega, by omega⟩ ?_
          · simp only [WN, firstReg, growAll, zbv, zbw, norm, killS, zag, zah, zaa, zab, zbl, zat, zad, growOne, zae, zaf, zac, zas, zak, Nat.reduceLT, Nat.reduceAdd, zbj, zav, F11, L11_12, hx.clip2]
            try rfl
          · rintro k st' H' ⟨e, rfl, rfl, he, rfl⟩
            simp only [L11_12]
            simp only [WW, partV, eqCells, eqLf, minV, maxV, ifcV, zaa, zab, zac, zad, zae, zaf, zag, zah, zai, ofConst, ofConst1, List.replicate, zaj, zak, loadOp, Go.Abs.loadCells, binV, zal, pickV, zam, zan, zao, zap, zaq, zar, zas, zat, zau, outR, resAll, resOne, zav, zaw, zax, zay, zaz, zba, zbb, zbc, zbd, zbe, zbf, zbg, zbh, zbi, zbj, zbk, storeOp, storeCell, overlay, zbl, zbm, zbn, lookupOp, keyT, okRes, mapUpdateOp, zbo, zbp, zbq, zbr, zbs, zbt, zbu, Nat.reduceSub, Nat.reduceAdd, Int.reduceLT, Int.reduceLE, Int.reduceAdd, Int.reduceSub, Int.reduceToNat, Int.reduceBEq, Int.reduceBNe, Int.reduceMul, Nat.reduceBEq, Nat.reduceBNe, Nat.reduceLT, Nat.reduceLeDiff, Nat.reduceMul, Nat.reduceEqDiff, WD, effB, effH, isPriv, isHeap, isImm, zbx, zby, zbz, chkO, setD, dslot, zca, zcb, zcc, zcd, ptrCells_some, F11, hx.shutIn, hx.len, by8_len]
            have hgo : (e < D.length ∧ ∃ u, L[i + s + e]? = some u ∧ nameC u = true) ∨ (e = D.length ∧ ((∃ u, L[i + s + e]? = some u ∧ nameC u = false) ∨ L.length ≤ i + s + e)) := by
              by_cases h : e < D.length
              · have hlt : i + s + e < L.length := by omega
                have hcu : L[i + s + e]? = some L[i + s + e] := List.getElem?_eq_getElem hlt
                exact .inl ⟨h, _, hcu, hpre e _ h hcu⟩
              · have hee : e = D.length := by omega
                refine .inr ⟨hee, ?_⟩
                by_cases hlt : i + s + e < L.length
                · have hcu : L[i + s + e]? = some L[i + s + e] := List.getElem?_eq_getElem hlt
                  exact .inl ⟨_, hcu, hstop _ (by rw [← hee]; exact hcu)⟩
                · exact .inr (by omega)
            rcases hgo with ⟨hlt, u, hcu, hdu⟩ | ⟨rfl, hend2⟩
            · have hlt2 := (List.getElem?_eq_some_iff.1 hcu).1
              have g1 : decide (((i + s + e : Nat) : Int) < (L.length : Int)) = true := decide_eq_true (by omega)
              have hcu8 : (by8 L)[i + s + e]? = some (byteV u) := by simp [by8, hcu]
              have hatu := hx.at_ (sz := 1) hcu8 rfl
              have hq1 : IntKind.i64.wrap (((i + s + e : Nat) : Int) + 1) = ((i + s + (e + 1) : Nat) : Int) := by rw [IntWalk.i64_in _ (by omega)]; omega
              simp only [WW, partV, eqCells, eqLf, minV, maxV, ifcV, zaa, zab, zac, zad, zae, zaf, zag, zah, zai, ofConst, ofConst1, List.replicate, zaj, zak, loadOp, Go.Abs.loadCells, binV, zal, pickV, zam, zan, zao, zap, zaq, zar, zas, zat, zau, outR, resAll, resOne, zav, zaw, zax, zay, zaz, zba, zbb, zbc, zbd, zbe, zbf, zbg, zbh, zbi, zbj, zbk, storeOp, storeCell, overlay, zbl, zbm, zbn, lookupOp, keyT, okRes, mapUpdateOp, zbo, zbp, zbq, zbr, zbs, zbt, zbu, Nat.reduceSub, Nat.reduceAdd, Int.reduceLT, Int.reduceLE, Int.reduceAdd, Int.reduceSub, Int.reduceToNat, Int.reduceBEq, Int.reduceBNe, Int.reduceMul, Nat.reduceBEq, Nat.reduceBNe, Nat.reduceLT, Nat.reduceLeDiff, Nat.reduceMul, Nat.reduceEqDiff, WD, effB, effH, isPriv, isHeap, isImm, zbx, zby, zbz, chkO, setD, dslot, zca, zcb, zcc, zcd, ptrCells_some, F11, g1, hx.shutIn, hatu.at1 hx, hatu.cells, byteV]
              rw [wpCall_eq (rletter_eq _ _)]
              cases hlu : letterB u.toNat with
              | true =>
                simp only [WW, partV, eqCells, eqLf, minV, maxV, ifcV, zaa, zab, zac, zad, zae, zaf, zag, zah, zai, ofConst, ofConst1, List.replicate, zaj, zak, loadOp, Go.Abs.loadCells, binV, zal, pickV, zam, zan, zao, zap, zaq, zar, zas, zat, zau, outR, resAll, resOne, zav, zaw, zax, zay, zaz, zba, zbb, zbc, zbd, zbe, zbf, zbg, zbh, zbi, zbj, zbk, storeOp, storeCell, overlay, zbl, zbm, zbn, lookupOp, keyT, okRes, mapUpdateOp, zbo, zbp, zbq, zbr, zbs, zbt, zbu, Nat.reduceSub, Nat.reduceAdd, Int.reduceLT, Int.reduceLE, Int.reduceAdd, Int.reduceSub, Int.reduceToNat, Int.reduceBEq, Int.reduceBNe, Int.reduceMul, Nat.reduceBEq, Nat.reduceBNe, Nat.reduceLT, Nat.reduceLeDiff, Nat.reduceMul, Nat.reduceEqDiff, WD, effB, effH, isPriv, isHeap, isImm, zbx, zby, zbz, chkO, setD, dslot, zca, zcb, zcc, zcd, ptrCells_some, F11, hq1]
                refine ⟨D.length - (e + 1), by omega, e + 1, ?_, by omega, rfl⟩
                simp only [WN, firstReg, growAll, zbv, zbw, norm, killS, zag, zah, zaa, zab, zbl, zat, zad, growOne, zae, zaf, zac, zas, zak, Nat.reduceLT, Nat.reduceAdd, zbj, zav, F11, hx.clip2, hq1]
                try rfl
              | false =>
                have hdg : digitB u.toNat = true := by simpa [nameC, hlu] using hdu
                simp only [WW, partV, eqCells, eqLf, minV, maxV, ifcV, zaa, zab, zac, zad, zae, zaf, zag, zah, zai, ofConst, ofConst1, List.replicate, zaj, zak, loadOp, Go.Abs.loadCells, binV, zal, pickV, zam, zan, zao, zap, zaq, zar, zas, zat, zau, outR, resAll, resOne, zav, zaw, zax, zay, zaz, zba, zbb, zbc, zbd, zbe, zbf, zbg, zbh, zbi, zbj, zbk, storeOp, storeCell, overlay, zbl, zbm, zbn, lookupOp, keyT, okRes, mapUpdateOp, zbo, zbp, zbq, zbr, zbs, zbt, zbu, Nat.reduceSub, Nat.reduceAdd, Int.reduceLT, Int.reduceLE, Int.reduceAdd, Int.reduceSub, Int.reduceToNat, Int.reduceBEq, Int.reduceBNe, Int.reduceMul, Nat.reduceBEq, Nat.reduceBNe, Nat.reduceLT, Nat.reduceLeDiff, Nat.reduceMul, Nat.reduceEqDiff, WD, effB, effH, isPriv, isHeap, isImm, zbx, zby, zbz, chkO, setD, dslot, zca, zcb, zcc, zcd, ptrCells_some, F11, hx.shutIn, hatu.at1 hx, hatu.cells, byteV]
                rw [wpCall_eq (rdigit_eq _ _)]
                simp only [WW, partV, eqCells, eqLf, minV, maxV, ifcV, zaa, zab, zac, zad, zae, zaf, zag, zah, zai, ofConst, ofConst1, List.replicate, zaj, zak, loadOp, Go.Abs.loadCells, binV, zal, pickV, zam, zan, zao, zap, zaq, zar, zas, zat, zau, outR, resAll, resOne, zav, zaw, zax, zay, zaz, zba, zbb, zbc, zbd, zbe, zbf, zbg, zbh, zbi, zbj, zbk, storeOp, storeCell, overlay, zbl, zbm, zbn, lookupOp, keyT, okRes, mapUpdateOp, zbo, zbp, zbq, zbr, zbs, zbt, zbu, Nat.reduceSub, Nat.reduceAdd, Int.reduceLT, Int.reduceLE, Int.reduceAdd, Int.reduceSub, Int.reduceToNat, Int.reduceBEq, Int.reduceBNe, Int.reduceMul, Nat.reduceBEq, Nat.reduceBNe, Nat.reduceLT, Nat.reduceLeDiff, Nat.reduceMul, Nat.reduceEqDiff, WD, effB, effH, isPriv, isHeap, isImm, zbx, zby, zbz, chkO, setD, dslot, zca, zcb, zcc, zcd, ptrCells_some, F11, hdg, hq1]
                refine ⟨D.length - (e + 1), by omega, e + 1, ?_, by omega, rfl⟩
                simp only [WN, firstReg, growAll, zbv, zbw, norm, killS, zag, zah, zaa, zab, zbl, zat, zad, growOne, zae, zaf, zac, zas, zak, Nat.reduceLT, Nat.reduceAdd, zbj, zav, F11, hx.clip2, hq1]
                try rfl
            · obtain ⟨y, hcut, hy⟩ := hB.cut (p := i + s) (q := i + s + D.length) (by omega) (by omega) []
              have hyl : (L.take (i + s + D.length)).drop (i + s) = D := by
                rw [List.drop_take, show i + s + D.length - (i + s) = D.length by omega, hD]
                exact List.takeWhile_prefix _ |> List.prefix_iff_eq_take.1 |>.symm
              rw [hyl] at hy
              have hsk := rskip_eq hB (i + s + D.length) (by omega) (by omega) []
              rcases hend2 with ⟨u, hcu, hdu⟩ | hge2
              all_goals first
                | (have hlt2 := (List.getElem?_eq_some_iff.1 hcu).1
                   have g1 : decide (((i + s + D.length : Nat) : Int) < (L.length : Int)) = true := decide_eq_true (by omega)
                   have hcu8 : (by8 L)[i + s + D.length]? = some (byteV u) := by simp [by8, hcu]
                   have hatu := hx.at_ (sz := 1) hcu8 rfl
                   have hlu : letterB u.toNat = false := by
                     simp only [nameC, Bool.or_eq_false_iff] at hdu; exact hdu.1
                   have hdgu : digitB u.toNat = false := by
                     simp only [nameC, Bool.or_eq_false_iff] at hdu; exact hdu.2
                   simp only [WW, partV, eqCells, eqLf, minV, maxV, ifcV, zaa, zab, zac, zad, zae, zaf, zag, zah, zai, ofConst, ofConst1, List.replicate, zaj, zak, loadOp, Go.Abs.loadCells, binV, zal, pickV, zam, zan, zao, zap, zaq, zar, zas, zat, zau, outR, resAll, resOne, zav, zaw, zax, zay, zaz, zba, zbb, zbc, zbd, zbe, zbf, zbg, zbh, zbi, zbj, zbk, storeOp, storeCell, overlay, zbl, zbm, zbn, lookupOp, keyT, okRes, mapUpdateOp, zbo, zbp, zbq, zbr, zbs, zbt, zbu, Nat.reduceSub, Nat.reduceAdd, Int.reduceLT, Int.reduceLE, Int.reduceAdd, Int.reduceSub, Int.reduceToNat, Int.reduceBEq, Int.reduceBNe, Int.reduceMul, Nat.reduceBEq, Nat.reduceBNe, Nat.reduceLT, Nat.reduceLeDiff, Nat.reduceMul, Nat.reduceEqDiff, WD, effB, effH, isPriv, isHeap, isImm, zbx, zby, zbz, chkO, setD, dslot, zca, zcb, zcc, zcd, ptrCells_some, F11, g1, hx.shutIn, hatu.at1 hx, hatu.cells, byteV]
                   rw [wpCall_eq (rletter_eq _ _)]
                   simp only [WW, partV, eqCells, eqLf, minV, maxV, ifcV, zaa, zab, zac, zad, zae, zaf, zag, zah, zai, ofConst, ofConst1, List.replicate, zaj, zak, loadOp, Go.Abs.loadCells, binV, zal, pickV, zam, zan, zao, zap, zaq, zar, zas, zat, zau, outR, resAll, resOne, zav, zaw, zax, zay, zaz, zba, zbb, zbc, zbd, zbe, zbf, zbg, zbh, zbi, zbj, zbk, storeOp, storeCell, overlay, zbl, zbm, zbn, lookupOp, keyT, okRes, mapUpdateOp, zbo, zbp, zbq, zbr, zbs, zbt, zbu, Nat.reduceSub, Nat.reduceAdd, Int.reduceLT, Int.reduceLE, Int.reduceAdd, Int.reduceSub, Int.reduceToNat, Int.reduceBEq, Int.reduceBNe, Int.reduceMul, Nat.reduceBEq, Nat.reduceBNe, Nat.reduceLT, Nat.reduceLeDiff, Nat.reduceMul, Nat.reduceEqDiff, WD, effB, effH, isPriv, isHeap, isImm, zbx, zby, zbz, chkO, setD, dslot, zca, zcb, zcc, zcd, ptrCells_some, F11, hlu, hx.shutIn, hatu.at1 hx, hatu.cells, byteV]
                   rw [wpCall_eq (rdigit_eq _ _)]
                   simp only [WW, partV, eqCells, eqLf, minV, maxV, ifcV, zaa, zab, zac, zad, zae, zaf, zag, zah, zai, ofConst, ofConst1, List.replicate, zaj, zak, loadOp, Go.Abs.loadCells, binV, zal, pickV, zam, zan, zao, zap, zaq, zar, zas, zat, zau, outR, resAll, resOne, zav, zaw, zax, zay, zaz, zba, zbb, zbc, zbd, zbe, zbf, zbg, zbh, zbi, zbj, zbk, storeOp, storeCell, overlay, zbl, zbm, zbn, lookupOp, keyT, okRes, mapUpdateOp, zbo, zbp, zbq, zbr, zbs, zbt, zbu, Nat.reduceSub, Nat.reduceAdd, Int.reduceLT, Int.reduceLE, Int.reduceAdd, Int.reduceSub, Int.reduceToNat, Int.reduceBEq, Int.reduceBNe, Int.reduceMul, Nat.reduceBEq, Nat.reduceBNe, Nat.reduceLT, Nat.reduceLeDiff, Nat.reduceMul, Nat.reduceEqDiff, WD, effB, effH, isPriv, isHeap, isImm, zbx, zby, zbz, chkO, setD, dslot, zca, zcb, zcc, zcd, ptrCells_some, F11, hdgu, hcut, (hy.rd []).shutIn, str_rd (hy.rd []), Option.map_none, hx.shutIn, buildOp, fillV, Lay.place, Bool.or_self, Bool.or_false, Bool.false_or, decide_not, ne_eq, not_true_eq_false, decide_eq_true_eq, Nat.lt_irrefl])
                | (have g1 : decide (((i + s + D.length : Nat) : Int) < (L.length : Int)) = false := decide_eq_false (by omega)
                   simp only [WW, partV, eqCells, eqLf, minV, maxV, ifcV, zaa, zab, zac, zad, zae, zaf, zag, zah, zai, ofConst, ofConst1, List.replicate, zaj, zak, loadOp, Go.Abs.loadCells, binV, zal, pickV, zam, zan, zao, zap, zaq, zar, zas, zat, zau, outR, resAll, resOne, zav, zaw, zax, zay, zaz, zba, zbb, zbc, zbd, zbe, zbf, zbg, zbh, zbi, zbj, zbk, storeOp, storeCell, overlay, zbl, zbm, zbn, lookupOp, keyT, okRes, mapUpdateOp, zbo, zbp, zbq, zbr, zbs, zbt, zbu, Nat.reduceSub, Nat.reduceAdd, Int.reduceLT, Int.reduceLE, Int.reduceAdd, Int.reduceSub, Int.reduceToNat, Int.reduceBEq, Int.reduceBNe, Int.reduceMul, Nat.reduceBEq, Nat.reduceBNe, Nat.reduceLT, Nat.reduceLeDiff, Nat.reduceMul, Nat.reduceEqDiff, WD, effB, effH, isPriv, isHeap, isImm, zbx, zby, zbz, chkO, setD, dslot, zca, zcb, zcc, zcd, ptrCells_some, F11, g1, hcut, (hy.rd []).shutIn, str_rd (hy.rd []), Option.map_none, hx.shutIn, buildOp, fillV, Lay.place, Bool.or_self, Bool.or_false, Bool.false_or, decide_not, ne_eq, not_true_eq_false, decide_eq_true_eq, Nat.lt_irrefl])
              all_goals rw [wpCall_eq (rword_eq _ _)]
              all_goals cases hw : wordB ⟨D.toArray⟩
              all_goals
                simp only [WW, partV, eqCells, eqLf, minV, maxV, ifcV, zaa, zab, zac, zad, zae, zaf, zag, zah, zai, ofConst, ofConst1, List.replicate, zaj, zak, loadOp, Go.Abs.loadCells, binV, zal, pickV, zam, zan, zao, zap, zaq, zar, zas, zat, zau, outR, resAll, resOne, zav, zaw, zax, zay, zaz, zba, zbb, zbc, zbd, zbe, zbf, zbg, zbh, zbi, zbj, zbk, storeOp, storeCell, overlay, zbl, zbm, zbn, lookupOp, keyT, okRes, mapUpdateOp, zbo, zbp, zbq, zbr, zbs, zbt, zbu, Nat.reduceSub, Nat.reduceAdd, Int.reduceLT, Int.reduceLE, Int.reduceAdd, Int.reduceSub, Int.reduceToNat, Int.reduceBEq, Int.reduceBNe, Int.reduceMul, Nat.reduceBEq, Nat.reduceBNe, Nat.reduceLT, Nat.reduceLeDiff, Nat.reduceMul, Nat.reduceEqDiff, WD, effB, effH, isPriv, isHeap, isImm, zbx, zby, zbz, chkO, setD, dslot, zca, zcb, zcc, zcd, ptrCells_some, F11, hne0, buildSliceV, lits, srcV_eq, srcK_sl, srcK_str, srcSl_nils, srcSl_rsl, srcSl_sl, appendOp, frow, zbv, zbw, List.all_nil, List.all_cons, rowV, Bool.false_and, Bool.and_false, ne_eq, not_false_eq_true, grows_lr, callOut_t, hwt, hw0, q1, q2, q3, hx.shutIn]
                rw [wpCall_eq hsk]
                simp only [WW, partV, eqCells, eqLf, minV, maxV, ifcV, zaa, zab, zac, zad, zae, zaf, zag, zah, zai, ofConst, ofConst1, List.replicate, zaj, zak, loadOp, Go.Abs.loadCells, binV, zal, pickV, zam, zan, zao, zap, zaq, zar, zas, zat, zau, outR, resAll, resOne, zav, zaw, zax, zay, zaz, zba, zbb, zbc, zbd, zbe, zbf, zbg, zbh, zbi, zbj, zbk, storeOp, storeCell, overlay, zbl, zbm, zbn, lookupOp, keyT, okRes, mapUpdateOp, zbo, zbp, zbq, zbr, zbs, zbt, zbu, Nat.reduceSub, Nat.reduceAdd, Int.reduceLT, Int.reduceLE, Int.reduceAdd, Int.reduceSub, Int.reduceToNat, Int.reduceBEq, Int.reduceBNe, Int.reduceMul, Nat.reduceBEq, Nat.reduceBNe, Nat.reduceLT, Nat.reduceLeDiff, Nat.reduceMul, Nat.reduceEqDiff, WD, effB, effH, isPriv, isHeap, isImm, zbx, zby, zbz, chkO, setD, dslot, zca, zcb, zcc, zcd, ptrCells_some, F11]
                refine ⟨L.length - (i + s + D.length), by omega, i + s + D.length, ts ++ [⟨if wordB ⟨D.toArray⟩ = true then 2 else 1, D, 0, i + s⟩], ?_, h2, by simp; omega, by simp; omega, rfl, ?_⟩
                · simp only [WN, firstReg, growAll, zbv, zbw, norm, killS, zag, zah, zaa, zab, zbl, zat, zad, growOne, zae, zaf, zac, zas, zak, Nat.reduceLT, Nat.reduceAdd, zbj, zav, F11, hx.clip2, List.map_append, List.length_append, hw, tokV, zba, zaw]
                  try rfl
                · rw [List.length_append]; exact h3
        | false =>
          have hcall : ∀ (nx : Nx) (out : Out), nextS (c :: r) = nx → rxR (i + s) nx out → ∃ (t : Tk) (q e : Nat), out = .ret (.tup [tokV t, .int .i64 (q : Int), .int .i64 (e : Int)]) false ∧
              ((((e : Int) != 0) = true ∧ lexS L 0 0 = .error (e, q)) ∨ (e = 0 ∧ i + s < q ∧ q ≤ L.length ∧ lexS L 0 0 = (match lexS (L.drop q) q (ts.length + 1) with | .ok l => .ok (ts ++ [t] ++ l) | .error e => .error e))) := fun nx out hn hr => by
            obtain ⟨t, q, e, ho, h1, h2⟩ := rx_tok hr
            refine ⟨t, q, e, ho, ?_⟩
            cases nx with
            | bad e' off =>
              obtain ⟨rfl, rfl⟩ := h2 _ _ rfl
              obtain ⟨k1, k2⟩ := hbad _ _ hn
              exact .inl ⟨k2, k1⟩
            | tok kd tt n len =>
              obtain ⟨rfl, rfl, rfl⟩ := h1 _ _ _ _ rfl
              obtain ⟨k1, k2, k3⟩ := htok _ _ _ _ hn
              exact .inr ⟨rfl, by omega, k2, k3⟩
          simp only [WW, partV, eqCells, eqLf, minV, maxV, ifcV, zaa, zab, zac, zad, zae, zaf, zag, zah, zai, ofConst, ofConst1, List.replicate, zaj, zak, loadOp, Go.Abs.loadCells, binV, zal, pickV, zam, zan, zao, zap, zaq, zar, zas, zat, zau, outR, resAll, resOne, zav, zaw, zax, zay, zaz, zba, zbb, zbc, zbd, zbe, zbf, zbg, zbh, zbi, zbj, zbk, storeOp, storeCell, overlay, zbl, zbm, zbn, lookupOp, keyT, okRes, mapUpdateOp, zbo, zbp, zbq, zbr, zbs, zbt, zbu, Nat.reduceSub, Nat.reduceAdd, Int.reduceLT, Int.reduceLE, Int.reduceAdd, Int.reduceSub, Int.reduceToNat, Int.reduceBEq, Int.reduceBNe, Int.reduceMul, Nat.reduceBEq, Nat.reduceBNe, Nat.reduceLT, Nat.reduceLeDiff, Nat.reduceMul, Nat.reduceEqDiff, WD, effB, effH, isPriv, isHeap, isImm, zbx, zby, zbz, chkO, setD, dslot, zca, zcb, zcc, zcd, ptrCells_some, F11, hx.shutIn, hat.at1 hx, hat.cells, byteV]
          rw [wpCall_eq (rdigit_eq _ _)]
          have hend3 : True := trivial
          cases hd : digitB c.toNat with
          | true =>
            have hn : nextS (c :: r) = numS (c :: r) := by simp only [nextS]; rw [if_neg (by simp [hl]), if_pos hd]
            simp only [WW, partV, eqCells, eqLf, minV, maxV, ifcV, zaa, zab, zac, zad, zae, zaf, zag, zah, zai, ofConst, ofConst1, List.replicate, zaj, zak, loadOp, Go.Abs.loadCells, binV, zal, pickV, zam, zan, zao, zap, zaq, zar, zas, zat, zau, outR, resAll, resOne, zav, zaw, zax, zay, zaz, zba, zbb, zbc, zbd, zbe, zbf, zbg, zbh, zbi, zbj, zbk, storeOp, storeCell, overlay, zbl, zbm, zbn, lookupOp, keyT, okRes, mapUpdateOp, zbo, zbp, zbq, zbr, zbs, zbt, zbu, Nat.reduceSub, Nat.reduceAdd, Int.reduceLT, Int.reduceLE, Int.reduceAdd, Int.reduceSub, Int.reduceToNat, Int.reduceBEq, Int.reduceBNe, Int.reduceMul, Nat.reduceBEq, Nat.reduceBNe, Nat.reduceLT, Nat.reduceLeDiff, Nat.reduceMul, Nat.reduceEqDiff, WD, effB, effH, isPriv, isHeap, isImm, zbx, zby, zbz, chkO, setD, dslot, zca, zcb, zcc, zcd, ptrCells_some, F11, hx.shutIn]
            refine wpCall_of (rnumber_spec hB hcr hd hL) ?_
            rintro out H2 ⟨hres, rfl⟩
            obtain ⟨t, q, e, rfl, hcase⟩ := hcall _ _ hn hres
            rcases hcase with ⟨he, hlx⟩ | ⟨rfl, hq1, hq2, hlx⟩
            · simp only [tokV]
              simp only [WW, partV, eqCells, eqLf, minV, maxV, ifcV, zaa, zab, zac, zad, zae, zaf, zag, zah, zai, ofConst, ofConst1, List.replicate, zaj, zak, loadOp, Go.Abs.loadCells, binV, zal, pickV, zam, zan, zao, zap, zaq, zar, zas, zat, zau, outR, resAll, resOne, zav, zaw, zax, zay, zaz, zba, zbb, zbc, zbd, zbe, zbf, zbg, zbh, zbi, zbj, zbk, storeOp, storeCell, overlay, zbl, zbm, zbn, lookupOp, keyT, okRes, mapUpdateOp, zbo, zbp, zbq, zbr, zbs, zbt, zbu, Nat.reduceSub, Nat.reduceAdd, Int.reduceLT, Int.reduceLE, Int.reduceAdd, Int.reduceSub, Int.reduceToNat, Int.reduceBEq, Int.reduceBNe, Int.reduceMul, Nat.reduceBEq, Nat.reduceBNe, Nat.reduceLT, Nat.reduceLeDiff, Nat.reduceMul, Nat.reduceEqDiff, WD, effB, effH, isPriv, isHeap, isImm, zbx, zby, zbz, chkO, setD, dslot, zca, zcb, zcc, zcd, ptrCells_some, F11, he]
              rw [hlx]
              first | exact ⟨rfl, rfl, rfl⟩ | exact ⟨rfl, rfl⟩ | exact rfl
            · have z0 : ((0 : Nat) : Int) = 0 := rfl
              have hsk := rskip_eq hB q hq2 (by omega) []
              simp only [tokV]
              simp only [WW, partV, eqCells, eqLf, minV, maxV, ifcV, zaa, zab, zac, zad, zae, zaf, zag, zah, zai, ofConst, ofConst1, List.replicate, zaj, zak, loadOp, Go.Abs.loadCells, binV, zal, pickV, zam, zan, zao, zap, zaq, zar, zas, zat, zau, outR, resAll, resOne, zav, zaw, zax, zay, zaz, zba, zbb, zbc, zbd, zbe, zbf, zbg, zbh, zbi, zbj, zbk, storeOp, storeCell, overlay, zbl, zbm, zbn, lookupOp, keyT, okRes, mapUpdateOp, zbo, zbp, zbq, zbr, zbs, zbt, zbu, Nat.reduceSub, Nat.reduceAdd, Int.reduceLT, Int.reduceLE, Int.reduceAdd, Int.reduceSub, Int.reduceToNat, Int.reduceBEq, Int.reduceBNe, Int.reduceMul, Nat.reduceBEq, Nat.reduceBNe, Nat.reduceLT, Nat.reduceLeDiff, Nat.reduceMul, Nat.reduceEqDiff, WD, effB, effH, isPriv, isHeap, isImm, zbx, zby, zbz, chkO, setD, dslot, zca, zcb, zcc, zcd, ptrCells_some, F11, z0, hne0, buildSliceV, lits, srcV_eq, srcK_sl, srcK_str, srcSl_nils, srcSl_rsl, srcSl_sl, appendOp, frow, zbv, zbw, List.all_nil, List.all_cons, rowV, Bool.false_and, Bool.and_false, ne_eq, not_false_eq_true, grows_lr, callOut_t, hwt, hw0, q1, q2, q3, hx.shutIn]
              rw [wpCall_eq hsk]
              simp only [WW, partV, eqCells, eqLf, minV, maxV, ifcV, zaa, zab, zac, zad, zae, zaf, zag, zah, zai, ofConst, ofConst1, List.replicate, zaj, zak, loadOp, Go.Abs.loadCells, binV, zal, pickV, zam, zan, zao, zap, zaq, zar, zas, zat, zau, outR, resAll, resOne, zav, zaw, zax, zay, zaz, zba, zbb, zbc, zbd, zbe, zbf, zbg, zbh, zbi, zbj, zbk, storeOp, storeCell, overlay, zbl, zbm, zbn, lookupOp, keyT, okRes, mapUpdateOp, zbo, zbp, zbq, zbr, zbs, zbt, zbu, Nat.reduceSub, Nat.reduceAdd, Int.reduceLT, Int.reduceLE, Int.reduceAdd, Int.reduceSub, Int.reduceToNat, Int.reduceBEq, Int.reduceBNe, Int.reduceMul, Nat.reduceBEq, Nat.reduceBNe, Nat.reduceLT, Nat.reduceLeDiff, Nat.reduceMul, Nat.reduceEqDiff, WD, effB, effH, isPriv, isHeap, isImm, zbx, zby, zbz, chkO, setD, dslot, zca, zcb, zcc, zcd, ptrCells_some, F11]
              refine ⟨L.length - q, by omega, q, ts ++ [t], ?_, hq2, by simp; omega, by simp; omega, rfl, ?_⟩
              · simp only [WN, firstReg, growAll, zbv, zbw, norm, killS, zag, zah, zaa, zab, zbl, zat, zad, growOne, zae, zaf, zac, zas, zak, Nat.reduceLT, Nat.reduceAdd, zbj, zav, F11, hx.clip2, List.map_append, List.length_append, tokV]
                try rfl
              · rw [List.length_append]; exact hlx
          | false =>
            cases h34 : (c == 34) with
            | true =>
              obtain rfl : c = 34 := by simpa using h34
              have hn : nextS (34 :: r) = textS r [] 1 := by simp only [nextS]; rw [if_neg (by decide), if_neg (by decide), if_pos trivial]
              simp only [WW, partV, eqCells, eqLf, minV, maxV, ifcV, zaa, zab, zac, zad, zae, zaf, zag, zah, zai, ofConst, ofConst1, List.replicate, zaj, zak, loadOp, Go.Abs.loadCells, binV, zal, pickV, zam, zan, zao, zap, zaq, zar, zas, zat, zau, outR, resAll, resOne, zav, zaw, zax, zay, zaz, zba, zbb, zbc, zbd, zbe, zbf, zbg, zbh, zbi, zbj, zbk, storeOp, storeCell, overlay, zbl, zbm, zbn, lookupOp, keyT, okRes, mapUpdateOp, zbo, zbp, zbq, zbr, zbs, zbt, zbu, Nat.reduceSub, Nat.reduceAdd, Int.reduceLT, Int.reduceLE, Int.reduceAdd, Int.reduceSub, Int.reduceToNat, Int.reduceBEq, Int.reduceBNe, Int.reduceMul, Nat.reduceBEq, Nat.reduceBNe, Nat.reduceLT, Nat.reduceLeDiff, Nat.reduceMul, Nat.reduceEqDiff, WD, effB, effH, isPriv, isHeap, isImm, zbx, zby, zbz, chkO, setD, dslot, zca, zcb, zcc, zcd, ptrCells_some, F11, hx.shutIn, hat.at1 hx, hat.cells, byteV, e34, h34]
              refine wpCall_of (rtext_spec hB hcr hL) ?_
              rintro out H2 ⟨hres, rfl⟩
              obtain ⟨t, q, e, rfl, hcase⟩ := hcall _ _ hn hres
              rcases hcase with ⟨he, hlx⟩ | ⟨rfl, hq1, hq2, hlx⟩
              · simp only [tokV]
                simp only [WW, partV, eqCells, eqLf, minV, maxV, ifcV, zaa, zab, zac, zad, zae, zaf, zag, zah, zai, ofConst, ofConst1, List.replicate, zaj, zak, loadOp, Go.Abs.loadCells, binV, zal, pickV, zam, zan, zao, zap, zaq, zar, zas, zat, zau, outR, resAll, resOne, zav, zaw, zax, zay, zaz, zba, zbb, zbc, zbd, zbe, zbf, zbg, zbh, zbi, zbj, zbk, storeOp, storeCell, overlay, zbl, zbm, zbn, lookupOp, keyT, okRes, mapUpdateOp, zbo, zbp, zbq, zbr, zbs, zbt, zbu, Nat.reduceSub, Nat.reduceAdd, Int.reduceLT, Int.reduceLE, Int.reduceAdd, Int.reduceSub, Int.reduceToNat, Int.reduceBEq, Int.reduceBNe, Int.reduceMul, Nat.reduceBEq, Nat.reduceBNe, Nat.reduceLT, Nat.reduceLeDiff, Nat.reduceMul, Nat.reduceEqDiff, WD, effB, effH, isPriv, isHeap, isImm, zbx, zby, zbz, chkO, setD, dslot, zca, zcb, zcc, zcd, ptrCells_some, F11, he]
                rw [hlx]
                first | exact ⟨rfl, rfl, rfl⟩ | exact ⟨rfl, rfl⟩ | exact rfl
              · have z0 : ((0 : Nat) : Int) = 0 := rfl
                have hsk := rskip_eq hB q hq2 (by omega) []
                simp only [tokV]
                simp only [WW, partV, eqCells, eqLf, minV, maxV, ifcV, zaa, zab, zac, zad, zae, zaf, zag, zah, zai, ofConst, ofConst1, List.replicate, zaj, zak, loadOp, Go.Abs.loadCells, binV, zal, pickV, zam, zan, zao, zap, zaq, zar, zas, zat, zau, outR, resAll, resOne, zav, zaw, zax, zay, zaz, zba, zbb, zbc, zbd, zbe, zbf, zbg, zbh, zbi, zbj, zbk, storeOp, storeCell, overlay, zbl, zbm, zbn, lookupOp, keyT, okRes, mapUpdateOp, zbo, zbp, zbq, zbr, zbs, zbt, zbu, Nat.reduceSub, Nat.reduceAdd, Int.reduceLT, Int.reduceLE, Int.reduceAdd, Int.reduceSub, Int.reduceToNat, Int.reduceBEq, Int.reduceBNe, Int.reduceMul, Nat.reduceBEq, Nat.reduceBNe, Nat.reduceLT, Nat.reduceLeDiff, Nat.reduceMul, Nat.reduceEqDiff, WD, effB, effH, isPriv, isHeap, isImm, zbx, zby, zbz, chkO, setD, dslot, zca, zcb, zcc, zcd, ptrCells_some, F11, z0, hne0, buildSliceV, lits, srcV_eq, srcK_sl, srcK_str, srcSl_nils, srcSl_rsl, srcSl_sl, appendOp, frow, zbv, zbw, List.all_nil, List.all_cons, rowV, Bool.false_and, Bool.and_false, ne_eq, not_false_eq_true, grows_lr, callOut_t, hwt, hw0, q1, q2, q3, hx.shutIn]
                rw [wpCall_eq hsk]
                simp only [WW, partV, eqCells, eqLf, minV, maxV, ifcV, zaa, zab, zac, zad, zae, zaf, zag, zah, zai, ofConst, ofConst1, List.replicate, zaj, zak, loadOp, Go.Abs.loadCells, binV, zal, pickV, zam, zan, zao, zap, zaq, zar, zas, zat, zau, outR, resAll, resOne, zav, zaw, zax, zay, zaz, zba, zbb, zbc, zbd, zbe, zbf, zbg, zbh, zbi, zbj, zbk, storeOp, storeCell, overlay, zbl, zbm, zbn, lookupOp, keyT, okRes, mapUpdateOp, zbo, zbp, zbq, zbr, zbs, zbt, zbu, Nat.reduceSub, Nat.reduceAdd, Int.reduceLT, Int.reduceLE, Int.reduceAdd, Int.reduceSub, Int.reduceToNat, Int.reduceBEq, Int.reduceBNe, Int.reduceMul, Nat.reduceBEq, Nat.reduceBNe, Nat.reduceLT, Nat.reduceLeDiff, Nat.reduceMul, Nat.reduceEqDiff, WD, effB, effH, isPriv, isHeap, isImm, zbx, zby, zbz, chkO, setD, dslot, zca, zcb, zcc, zcd, ptrCells_some, F11]
                refine ⟨L.length - q, by omega, q, ts ++ [t], ?_, hq2, by simp; omega, by simp; omega, rfl, ?_⟩
                · simp only [WN, firstReg, growAll, zbv, zbw, norm, killS, zag, zah, zaa, zab, zbl, zat, zad, growOne, zae, zaf, zac, zas, zak, Nat.reduceLT, Nat.reduceAdd, zbj, zav, F11, hx.clip2, List.map_append, List.length_append, tokV]
                  try rfl
                · rw [List.length_append]; exact hlx
            | false =>
              have n34 : c ≠ 34 := by simpa using h34
              have hn : nextS (c :: r) = signS c r := by simp only [nextS]; rw [if_neg (by simp [hl]), if_neg (by simp [hd]), if_neg n34]
              simp only [WW, partV, eqCells, eqLf, minV, maxV, ifcV, zaa, zab, zac, zad, zae, zaf, zag, zah, zai, ofConst, ofConst1, List.replicate, zaj, zak, loadOp, Go.Abs.loadCells, binV, zal, pickV, zam, zan, zao, zap, zaq, zar, zas, zat, zau, outR, resAll, resOne, zav, zaw, zax, zay, zaz, zba, zbb, zbc, zbd, zbe, zbf, zbg, zbh, zbi, zbj, zbk, storeOp, storeCell, overlay, zbl, zbm, zbn, lookupOp, keyT, okRes, mapUpdateOp, zbo, zbp, zbq, zbr, zbs, zbt, zbu, Nat.reduceSub, Nat.reduceAdd, Int.reduceLT, Int.reduceLE, Int.reduceAdd, Int.reduceSub, Int.reduceToNat, Int.reduceBEq, Int.reduceBNe, Int.reduceMul, Nat.reduceBEq, Nat.reduceBNe, Nat.reduceLT, Nat.reduceLeDiff, Nat.reduceMul, Nat.reduceEqDiff, WD, effB, effH, isPriv, isHeap, isImm, zbx, zby, zbz, chkO, setD, dslot, zca, zcb, zcc, zcd, ptrCells_some, F11, hx.shutIn, hat.at1 hx, hat.cells, byteV, e34, h34]
              refine wpCall_of (rsign_spec hB hcr hL) ?_
              rintro out H2 ⟨hres, rfl⟩
              obtain ⟨t, q, e, rfl, hcase⟩ := hcall _ _ hn hres
              rcases hcase with ⟨he, hlx⟩ | ⟨rfl, hq1, hq2, hlx⟩
              · simp only [tokV]
                simp only [WW, partV, eqCells, eqLf, minV, maxV, ifcV, zaa, zab, zac, zad, zae, zaf, zag, zah, zai, ofConst, ofConst1, List.replicate, zaj, zak, loadOp, Go.Abs.loadCells, binV, zal, pickV, zam, zan, zao, zap, zaq, zar, zas, zat, zau, outR, resAll, resOne, zav, zaw, zax, zay, zaz, zba, zbb, zbc, zbd, zbe, zbf, zbg, zbh, zbi, zbj, zbk, storeOp, storeCell, overlay, zbl, zbm, zbn, lookupOp, keyT, okRes, mapUpdateOp, zbo, zbp, zbq, zbr, zbs, zbt, zbu, Nat.reduceSub, Nat.reduceAdd, Int.reduceLT, Int.reduceLE, Int.reduceAdd, Int.reduceSub, Int.reduceToNat, Int.reduceBEq, Int.reduceBNe, Int.reduceMul, Nat.reduceBEq, Nat.reduceBNe, Nat.reduceLT, Nat.reduceLeDiff, Nat.reduceMul, Nat.reduceEqDiff, WD, effB, effH, isPriv, isHeap, isImm, zbx, zby, zbz, chkO, setD, dslot, zca, zcb, zcc, zcd, ptrCells_some, F11, he]
                rw [hlx]
                first | exact ⟨rfl, rfl, rfl⟩ | exact ⟨rfl, rfl⟩ | exact rfl
              · have z0 : ((0 : Nat) : Int) = 0 := rfl
                have hsk := rskip_eq hB q hq2 (by omega) []
                simp only [tokV]
                simp only [WW, partV, eqCells, eqLf, minV, maxV, ifcV, zaa, zab, zac, zad, zae, zaf, zag, zah, zai, ofConst, ofConst1, List.replicate, zaj, zak, loadOp, Go.Abs.loadCells, binV, zal, pickV, zam, zan, zao, zap, zaq, zar, zas, zat, zau, outR, resAll, resOne, zav, zaw, zax, zay, zaz, zba, zbb, zbc, zbd, zbe, zbf, zbg, zbh, zbi, zbj, zbk, storeOp, storeCell, overlay, zbl, zbm, zbn, lookupOp, keyT, okRes, mapUpdateOp, zbo, zbp, zbq, zbr, zbs, zbt, zbu, Nat.reduceSub, Nat.reduceAdd, Int.reduceLT, Int.reduceLE, Int.reduceAdd, Int.reduceSub, Int.reduceToNat, Int.reduceBEq, Int.reduceBNe, Int.reduceMul, Nat.reduceBEq, Nat.reduceBNe, Nat.reduceLT, Nat.reduceLeDiff, Nat.reduceMul, Nat.reduceEqDiff, WD, effB, effH, isPriv, isHeap, isImm, zbx, zby, zbz, chkO, setD, dslot, zca, zcb, zcc, zcd, ptrCells_some, F11, z0, hne0, buildSliceV, lits, srcV_eq, srcK_sl, srcK_str, srcSl_nils, srcSl_rsl, srcSl_sl, appendOp, frow, zbv, zbw, List.all_nil, List.all_cons, rowV, Bool.false_and, Bool.and_false, ne_eq, not_false_eq_true, grows_lr, callOut_t, hwt, hw0, q1, q2, q3, hx.shutIn]
                rw [wpCall_eq hsk]
                simp only [WW, partV, eqCells, eqLf, minV, maxV, ifcV, zaa, zab, zac, zad, zae, zaf, zag, zah, zai, ofConst, ofConst1, List.replicate, zaj, zak, loadOp, Go.Abs.loadCells, binV, zal, pickV, zam, zan, zao, zap, zaq, zar, zas, zat, zau, outR, resAll, resOne, zav, zaw, zax, zay, zaz, zba, zbb, zbc, zbd, zbe, zbf, zbg, zbh, zbi, zbj, zbk, storeOp, storeCell, overlay, zbl, zbm, zbn, lookupOp, keyT, okRes, mapUpdateOp, zbo, zbp, zbq, zbr, zbs, zbt, zbu, Nat.reduceSub, Nat.reduceAdd, Int.reduceLT, Int.reduceLE, Int.reduceAdd, Int.reduceSub, Int.reduceToNat, Int.reduceBEq, Int.reduceBNe, Int.reduceMul, Nat.reduceBEq, Nat.reduceBNe, Nat.reduceLT, Nat.reduceLeDiff, Nat.reduceMul, Nat.reduceEqDiff, WD, effB, effH, isPriv, isHeap, isImm, zbx, zby, zbz, chkO, setD, dslot, zca, zcb, zcc, zcd, ptrCells_some, F11]
                refine ⟨L.length - q, by omega, q, ts ++ [t], ?_, hq2, by simp; omega, by simp; omega, rfl, ?_⟩
                · simp only [WN, firstReg, growAll, zbv, zbw, norm, killS, zag, zah, zaa, zab, zbl, zat, zad, growOne, zae, zaf, zac, zas, zak, Nat.reduceLT, Nat.reduceAdd, zbj, zav, F11, hx.clip2, List.map_append, List.length_append, tokV]
                  try rfl
                · rw [List.length_append]; exact hlx
end Go.Proofs.YtcmndnkeoepmoaaDoor

namespace Go.Proofs.YtcmndnkeoepmoaaDoor
open Go Go.Abs Go.Proofs
set_option maxRecDepth 100000
set_option maxHeartbeats 2000000
set_option linter.unusedVariables false
set_option linter.unusedSimpArgs false
/-- Tokens that nothing writes to -/
def Tx (x : V) (l : List Tk) : Prop := (x = .nils ∧ l = []) ∨ x = .rsl (l.map tokV)
theorem Tx.rd {x : V} {l : List Tk} (h : Tx x l) (H : Hp) : Rd H x (l.map tokV) := by
  rcases h with ⟨rfl, rfl⟩ | rfl
  · exact .nils
  · exact .rsl _
theorem noHeap_tk : ∀ ts : List Tk, noHeapL (ts.map tokV) = true
  | [] => rfl
  | t :: ts => by
    have := noHeap_tk ts
    simp only [List.map_cons, noHeapL, this, Bool.and_true]; rfl
theorem Tx.noHeap {x : V} {l : List Tk} (h : Tx x l) : Abs.noHeap x = true := by
  rcases h with ⟨rfl, rfl⟩ | rfl
  · rfl
  · simp only [Abs.noHeap, noHeap_tk]
theorem same_eq {a b : V} {l : List Tk} (ha : Tx a l) (hb : Tx b l) (hl : l.length ≤ 65536) (H : Hp) : EW 12 [a, b, .bool true] H = some (.ret (.bool true) false, H) := by
  have hx := ha.rd []
  have hy := hb.rd []
  refine eqOf (runsP f12 b12 r12 n12 _ (by simp only [noHeapL, ha.noHeap, hb.noHeap, Abs.noHeap, Bool.and_self]) _ ?_)
  simp only [bodyOf, Tryd.f12, Option.getD_some]
  simp only [WW, partV, eqCells, eqLf, minV, maxV, ifcV, zaa, zab, zac, zad, zae, zaf, zag, zah, zai, ofConst, ofConst1, List.replicate, zaj, zak, loadOp, Go.Abs.loadCells, binV, zal, pickV, zam, zan, zao, zap, zaq, zar, zas, zat, zau, outR, resAll, resOne, zav, zaw, zax, zay, zaz, zba, zbb, zbc, zbd, zbe, zbf, zbg, zbh, zbi, zbj, zbk, storeOp, storeCell, overlay, zbl, zbm, zbn, lookupOp, keyT, okRes, mapUpdateOp, zbo, zbp, zbq, zbr, zbs, zbt, zbu, Nat.reduceSub, Nat.reduceAdd, Int.reduceLT, Int.reduceLE, Int.reduceAdd, Int.reduceSub, Int.reduceToNat, Int.reduceBEq, Int.reduceBNe, Int.reduceMul, Nat.reduceBEq, Nat.reduceBNe, Nat.reduceLT, Nat.reduceLeDiff, Nat.reduceMul, Nat.reduceEqDiff, WD, effB, effH, isPriv, isHeap, isImm, zbx, zby, zbz, chkO, setD, dslot, zca, zcb, zcc, zcd, ptrCells_some, F12, hx.shutIn, hy.shutIn, hx.len, hy.len, bne_self_eq_false]
  refine wC_loop _ (fun k st' H' => ∃ i : Nat, st' = ⟨L12_4 (.v a) (.v b) (.v (.bool true)) (.v (.int .i64 (i : Int))), [], []⟩ ∧ H' = [] ∧ i ≤ l.length ∧ k = l.length - i) l.length ⟨0, ?_, rfl, by omega, rfl⟩ ?_
  · simp only [WN, firstReg, growAll, zbv, zbw, norm, killS, zag, zah, zaa, zab, zbl, zat, zad, growOne, zae, zaf, zac, zas, zak, Nat.reduceLT, Nat.reduceAdd, zbj, zav, F12, L12_4, hx.clip2, hy.clip2]
    try rfl
  · rintro k st' H' ⟨i, rfl, rfl, hi, rfl⟩
    simp only [L12_4]
    simp only [WW, partV, eqCells, eqLf, minV, maxV, ifcV, zaa, zab, zac, zad, zae, zaf, zag, zah, zai, ofConst, ofConst1, List.replicate, zaj, zak, loadOp, Go.Abs.loadCells, binV, zal, pickV, zam, zan, zao, zap, zaq, zar, zas, zat, zau, outR, resAll, resOne, zav, zaw, zax, zay, zaz, zba, zbb, zbc, zbd, zbe, zbf, zbg, zbh, zbi, zbj, zbk, storeOp, storeCell, overlay, zbl, zbm, zbn, lookupOp, keyT, okRes, mapUpdateOp, zbo, zbp, zbq, zbr, zbs, zbt, zbu, Nat.reduceSub, Nat.reduceAdd, Int.reduceLT, Int.reduceLE, Int.reduceAdd, Int.reduceSub, Int.reduceToNat, Int.reduceBEq, Int.reduceBNe, Int.reduceMul, Nat.reduceBEq, Nat.reduceBNe, Nat.reduceLT, Nat.reduceLeDiff, Nat.reduceMul, Nat.reduceEqDiff, WD, effB, effH, isPriv, isHeap, isImm, zbx, zby, zbz, chkO, setD, dslot, zca, zcb, zcc, zcd, ptrCells_some, F12, hx.shutIn, hy.shutIn, hx.len, hy.len]
    refine cSplit (fun hlt => ?_) (fun hge => ?_)
    · have hi2 : i < l.length := by simpa using hlt
      have hc : l[i]? = some l[i] := List.getElem?_eq_getElem hi2
      generalize l[i] = t at hc
      have hat := hx.at_ (sz := 4) (i := i) (e := tokV t) (by rw [List.getElem?_map, hc]; rfl) rfl
      have hbt := hy.at_ (sz := 4) (i := i) (e := tokV t) (by rw [List.getElem?_map, hc]; rfl) rfl
      have hq1 : IntKind.i64.wrap ((i : Int) + 1) = ((i + 1 : Nat) : Int) := by rw [IntWalk.i64_in _ (by omega)]; omega
      simp only [hlt]
      simp only [WW, partV, eqCells, eqLf, minV, maxV, ifcV, zaa, zab, zac, zad, zae, zaf, zag, zah, zai, ofConst, ofConst1, List.replicate, zaj, zak, loadOp, Go.Abs.loadCells, binV, zal, pickV, zam, zan, zao, zap, zaq, zar, zas, zat, zau, outR, resAll, resOne, zav, zaw, zax, zay, zaz, zba, zbb, zbc, zbd, zbe, zbf, zbg, zbh, zbi, zbj, zbk, storeOp, storeCell, overlay, zbl, zbm, zbn, lookupOp, keyT, okRes, mapUpdateOp, zbo, zbp, zbq, zbr, zbs, zbt, zbu, Nat.reduceSub, Nat.reduceAdd, Int.reduceLT, Int.reduceLE, Int.reduceAdd, Int.reduceSub, Int.reduceToNat, Int.reduceBEq, Int.reduceBNe, Int.reduceMul, Nat.reduceBEq, Nat.reduceBNe, Nat.reduceLT, Nat.reduceLeDiff, Nat.reduceMul, Nat.reduceEqDiff, WD, effB, effH, isPriv, isHeap, isImm, zbx, zby, zbz, chkO, setD, dslot, zca, zcb, zcc, zcd, ptrCells_some, F12]
      refine wC_dr alts12_6 (by kernel_rfl) ?_
      simp only [WW, partV, eqCells, eqLf, minV, maxV, ifcV, zaa, zab, zac, zad, zae, zaf, zag, zah, zai, ofConst, ofConst1, List.replicate, zaj, zak, loadOp, Go.Abs.loadCells, binV, zal, pickV, zam, zan, zao, zap, zaq, zar, zas, zat, zau, outR, resAll, resOne, zav, zaw, zax, zay, zaz, zba, zbb, zbc, zbd, zbe, zbf, zbg, zbh, zbi, zbj, zbk, storeOp, storeCell, overlay, zbl, zbm, zbn, lookupOp, keyT, okRes, mapUpdateOp, zbo, zbp, zbq, zbr, zbs, zbt, zbu, Nat.reduceSub, Nat.reduceAdd, Int.reduceLT, Int.reduceLE, Int.reduceAdd, Int.reduceSub, Int.reduceToNat, Int.reduceBEq, Int.reduceBNe, Int.reduceMul, Nat.reduceBEq, Nat.reduceBNe, Nat.reduceLT, Nat.reduceLeDiff, Nat.reduceMul, Nat.reduceEqDiff, WD, effB, effH, isPriv, isHeap, isImm, zbx, zby, zbz, chkO, setD, dslot, zca, zcb, zcc, zcd, ptrCells_some, F12, hx.shutIn, hy.shutIn, hat.at1 hx, hat.cells, hat.fa, hbt.at1 hy, hbt.cells, hbt.fa, tokV, bne_self_eq_false, alts12_6]
      refine ⟨l.length - (i + 1), by omega, i + 1, ?_, by omega, rfl⟩
      simp only [WN, firstReg, growAll, zbv, zbw, norm, killS, zag, zah, zaa, zab, zbl, zat, zad, growOne, zae, zaf, zac, zas, zak, Nat.reduceLT, Nat.reduceAdd, zbj, zav, F12, hx.clip2, hy.clip2, hq1]
      try rfl
    · simp only [hge]
      simp only [WW, partV, eqCells, eqLf, minV, maxV, ifcV, zaa, zab, zac, zad, zae, zaf, zag, zah, zai, ofConst, ofConst1, List.replicate, zaj, zak, loadOp, Go.Abs.loadCells, binV, zal, pickV, zam, zan, zao, zap, zaq, zar, zas, zat, zau, outR, resAll, resOne, zav, zaw, zax, zay, zaz, zba, zbb, zbc, zbd, zbe, zbf, zbg, zbh, zbi, zbj, zbk, storeOp, storeCell, overlay, zbl, zbm, zbn, lookupOp, keyT, okRes, mapUpdateOp, zbo, zbp, zbq, zbr, zbs, zbt, zbu, Nat.reduceSub, Nat.reduceAdd, Int.reduceLT, Int.reduceLE, Int.reduceAdd, Int.reduceSub, Int.reduceToNat, Int.reduceBEq, Int.reduceBNe, Int.reduceMul, Nat.reduceBEq, Nat.reduceBNe, Nat.reduceLT, Nat.reduceLeDiff, Nat.reduceMul, Nat.reduceEqDiff, WD, effB, effH, isPriv, isHeap, isImm, zbx, zby, zbz, chkO, setD, dslot, zca, zcb, zcc, zcd, ptrCells_some, F12]
      first | exact ⟨rfl, rfl⟩ | rfl
end Go.Proofs.YtcmndnkeoepmoaaDoor

namespace Go.Proofs.YtcmndnkeoepmoaaDoor
open Go Go.Abs Go.Proofs
set_option maxRecDepth 100000
set_option maxHeartbeats 2000000
set_option linter.unusedVariables false
set_option linter.unusedSimpArgs false
theorem lexS_len : ∀ (m : Nat) (R : List UInt8), R.length = m → ∀ (p k : Nat) (l : List Tk), lexS R p k = .ok l → l.length ≤ R.length + 1 := by
  intro m
  induction m using Nat.strongRecOn with
  | ind m ih =>
    rintro R rfl p k l h
    cases hcr : R.drop (skipN false R) with
    | nil => rw [lexS_end hcr] at h; cases h; simp
    | cons c r =>
      have hrl : R.length = skipN false R + 1 + r.length := by
        have := congrArg List.length hcr
        have h3 := skipN_le false R
        simp at this; omega
      by_cases hk : k = 16384
      · subst hk; rw [lexS_many (by rw [hcr]; simp)] at h; cases h
      cases hnx : nextS (c :: r) with
      | bad e2 off => rw [lexS_bad hcr hk hnx] at h; cases h
      | tok kd t n len =>
        rw [lexS_tok hcr hk hnx] at h
        cases hrec : lexS (r.drop (len - 1)) (p + skipN false R + len) (k + 1) with
        | error x => rw [hrec] at h; cases h
        | ok l2 =>
          rw [hrec] at h
          cases h
          have := ih (r.drop (len - 1)).length (by simp; omega) _ rfl _ _ _ hrec
          simp at this ⊢; omega
theorem lexCuts_main {v0 : List V} (h0 : Tv Tryd.prog 8 22 v0) : wpCall (evW Tryd.prog notes) 3 [mkV (isAggT Tryd.prog 22) v0] [] (fun out H' => out = .ret (.bool true) false) := by
  obtain ⟨x, L, rfl, hB, _⟩ := open_bytes h0
  rw [ag22]
  have hx := hB.rd []
  refine runs f3 b3 r3 n3 _ _ ?_
  simp only [bodyOf, Tryd.f3, Option.getD_some]
  simp only [mkV, List.headD_cons]
  simp only [WW, partV, eqCells, eqLf, minV, maxV, ifcV, zaa, zab, zac, zad, zae, zaf, zag, zah, zai, ofConst, ofConst1, List.replicate, zaj, zak, loadOp, Go.Abs.loadCells, binV, zal, pickV, zam, zan, zao, zap, zaq, zar, zas, zat, zau, outR, resAll, resOne, zav, zaw, zax, zay, zaz, zba, zbb, zbc, zbd, zbe, zbf, zbg, zbh, zbi, zbj, zbk, storeOp, storeCell, overlay, zbl, zbm, zbn, lookupOp, keyT, okRes, mapUpdateOp, zbo, zbp, zbq, zbr, zbs, zbt, zbu, Nat.reduceSub, Nat.reduceAdd, Int.reduceLT, Int.reduceLE, Int.reduceAdd, Int.reduceSub, Int.reduceToNat, Int.reduceBEq, Int.reduceBNe, Int.reduceMul, Nat.reduceBEq, Nat.reduceBNe, Nat.reduceLT, Nat.reduceLeDiff, Nat.reduceMul, Nat.reduceEqDiff, WD, effB, effH, isPriv, isHeap, isImm, zbx, zby, zbz, chkO, setD, dslot, zca, zcb, zcc, zcd, ptrCells_some, F3, hx.shutIn, hx.len, by8_len]
  refine cSplit (fun h => ?_) (fun h => ?_)
  · simp only [h]
    simp only [WW, partV, eqCells, eqLf, minV, maxV, ifcV, zaa, zab, zac, zad, zae, zaf, zag, zah, zai, ofConst, ofConst1, List.replicate, zaj, zak, loadOp, Go.Abs.loadCells, binV, zal, pickV, zam, zan, zao, zap, zaq, zar, zas, zat, zau, outR, resAll, resOne, zav, zaw, zax, zay, zaz, zba, zbb, zbc, zbd, zbe, zbf, zbg, zbh, zbi, zbj, zbk, storeOp, storeCell, overlay, zbl, zbm, zbn, lookupOp, keyT, okRes, mapUpdateOp, zbo, zbp, zbq, zbr, zbs, zbt, zbu, Nat.reduceSub, Nat.reduceAdd, Int.reduceLT, Int.reduceLE, Int.reduceAdd, Int.reduceSub, Int.reduceToNat, Int.reduceBEq, Int.reduceBNe, Int.reduceMul, Nat.reduceBEq, Nat.reduceBNe, Nat.reduceLT, Nat.reduceLeDiff, Nat.reduceMul, Nat.reduceEqDiff, WD, effB, effH, isPriv, isHeap, isImm, zbx, zby, zbz, chkO, setD, dslot, zca, zcb, zcc, zcd, ptrCells_some, F3]
    rw [wpCall_eq (live_eq _)]
    simp only [WW, partV, eqCells, eqLf, minV, maxV, ifcV, zaa, zab, zac, zad, zae, zaf, zag, zah, zai, ofConst, ofConst1, List.replicate, zaj, zak, loadOp, Go.Abs.loadCells, binV, zal, pickV, zam, zan, zao, zap, zaq, zar, zas, zat, zau, outR, resAll, resOne, zav, zaw, zax, zay, zaz, zba, zbb, zbc, zbd, zbe, zbf, zbg, zbh, zbi, zbj, zbk, storeOp, storeCell, overlay, zbl, zbm, zbn, lookupOp, keyT, okRes, mapUpdateOp, zbo, zbp, zbq, zbr, zbs, zbt, zbu, Nat.reduceSub, Nat.reduceAdd, Int.reduceLT, Int.reduceLE, Int.reduceAdd, Int.reduceSub, Int.reduceToNat, Int.reduceBEq, Int.reduceBNe, Int.reduceMul, Nat.reduceBEq, Nat.reduceBNe, Nat.reduceLT, Nat.reduceLeDiff, Nat.reduceMul, Nat.reduceEqDiff, WD, effB, effH, isPriv, isHeap, isImm, zbx, zby, zbz, chkO, setD, dslot, zca, zcb, zcc, zcd, ptrCells_some, F3]
  · have hlen : L.length ≤ 3000 := by have := of_decide_eq_false h; omega
    simp only [h]
    have hw0 : wideAll [] 1 = true := rfl
    have hwL := wide_by8 L
    have q1 : decide (L.length * 1 ≤ 70368744177664) = true := by simp; omega
    have q2 : decide (L.length ≤ 4611686018427387904) = true := by simp; omega
    simp only [WW, partV, eqCells, eqLf, minV, maxV, ifcV, zaa, zab, zac, zad, zae, zaf, zag, zah, zai, ofConst, ofConst1, List.replicate, zaj, zak, loadOp, Go.Abs.loadCells, binV, zal, pickV, zam, zan, zao, zap, zaq, zar, zas, zat, zau, outR, resAll, resOne, zav, zaw, zax, zay, zaz, zba, zbb, zbc, zbd, zbe, zbf, zbg, zbh, zbi, zbj, zbk, storeOp, storeCell, overlay, zbl, zbm, zbn, lookupOp, keyT, okRes, mapUpdateOp, zbo, zbp, zbq, zbr, zbs, zbt, zbu, Nat.reduceSub, Nat.reduceAdd, Int.reduceLT, Int.reduceLE, Int.reduceAdd, Int.reduceSub, Int.reduceToNat, Int.reduceBEq, Int.reduceBNe, Int.reduceMul, Nat.reduceBEq, Nat.reduceBNe, Nat.reduceLT, Nat.reduceLeDiff, Nat.reduceMul, Nat.reduceEqDiff, WD, effB, effH, isPriv, isHeap, isImm, zbx, zby, zbz, chkO, setD, dslot, zca, zcb, zcc, zcd, ptrCells_some, F3, hx.shutIn, hx.srcSl, buildSliceV, lits, srcV_eq, srcK_sl, srcK_str, srcSl_nils, srcSl_rsl, srcSl_sl, appendOp, frow, zbv, zbw, List.all_nil, List.all_cons, rowV, Bool.false_and, Bool.and_false, ne_eq, not_false_eq_true, grows_lr, callOut_t, hw0, hwL, by8_len, q1, q2]
    have htk : List.take L.length (by8 L) = by8 L := List.take_of_length_le (Nat.le_of_eq (by8_len _))
    rw [htk]
    refine wpCall_of (lex_spec (L := L) (.inl (.inr rfl)) (by omega)) ?_
    intro out H1 hres
    cases hlx : lexS L 0 0 with
    | ok l =>
      rw [hlx] at hres
      simp only [lexOut] at hres
      obtain rfl := hres
      have hll := lexS_len _ _ rfl _ _ _ hlx
      simp only [WW, partV, eqCells, eqLf, minV, maxV, ifcV, zaa, zab, zac, zad, zae, zaf, zag, zah, zai, ofConst, ofConst1, List.replicate, zaj, zak, loadOp, Go.Abs.loadCells, binV, zal, pickV, zam, zan, zao, zap, zaq, zar, zas, zat, zau, outR, resAll, resOne, zav, zaw, zax, zay, zaz, zba, zbb, zbc, zbd, zbe, zbf, zbg, zbh, zbi, zbj, zbk, storeOp, storeCell, overlay, zbl, zbm, zbn, lookupOp, keyT, okRes, mapUpdateOp, zbo, zbp, zbq, zbr, zbs, zbt, zbu, Nat.reduceSub, Nat.reduceAdd, Int.reduceLT, Int.reduceLE, Int.reduceAdd, Int.reduceSub, Int.reduceToNat, Int.reduceBEq, Int.reduceBNe, Int.reduceMul, Nat.reduceBEq, Nat.reduceBNe, Nat.reduceLT, Nat.reduceLeDiff, Nat.reduceMul, Nat.reduceEqDiff, WD, effB, effH, isPriv, isHeap, isImm, zbx, zby, zbz, chkO, setD, dslot, zca, zcb, zcc, zcd, ptrCells_some, F3, hx.shutIn]
      refine wpCall_of (rlex_spec hB (by omega) H1) ?_
      rintro out H2 ⟨hres, rfl⟩
      rw [hlx] at hres
      simp only [lexOut] at hres
      obtain rfl := hres
      simp only [WW, partV, eqCells, eqLf, minV, maxV, ifcV, zaa, zab, zac, zad, zae, zaf, zag, zah, zai, ofConst, ofConst1, List.replicate, zaj, zak, loadOp, Go.Abs.loadCells, binV, zal, pickV, zam, zan, zao, zap, zaq, zar, zas, zat, zau, outR, resAll, resOne, zav, zaw, zax, zay, zaz, zba, zbb, zbc, zbd, zbe, zbf, zbg, zbh, zbi, zbj, zbk, storeOp, storeCell, overlay, zbl, zbm, zbn, lookupOp, keyT, okRes, mapUpdateOp, zbo, zbp, zbq, zbr, zbs, zbt, zbu, Nat.reduceSub, Nat.reduceAdd, Int.reduceLT, Int.reduceLE, Int.reduceAdd, Int.reduceSub, Int.reduceToNat, Int.reduceBEq, Int.reduceBNe, Int.reduceMul, Nat.reduceBEq, Nat.reduceBNe, Nat.reduceLT, Nat.reduceLeDiff, Nat.reduceMul, Nat.reduceEqDiff, WD, effB, effH, isPriv, isHeap, isImm, zbx, zby, zbz, chkO, setD, dslot, zca, zcb, zcc, zcd, ptrCells_some, F3]
      rw [wpCall_eq (same_eq (.inr rfl) (.inr rfl) (by omega) _)]
      simp only [WW, partV, eqCells, eqLf, minV, maxV, ifcV, zaa, zab, zac, zad, zae, zaf, zag, zah, zai, ofConst, ofConst1, List.replicate, zaj, zak, loadOp, Go.Abs.loadCells, binV, zal, pickV, zam, zan, zao, zap, zaq, zar, zas, zat, zau, outR, resAll, resOne, zav, zaw, zax, zay, zaz, zba, zbb, zbc, zbd, zbe, zbf, zbg, zbh, zbi, zbj, zbk, storeOp, storeCell, overlay, zbl, zbm, zbn, lookupOp, keyT, okRes, mapUpdateOp, zbo, zbp, zbq, zbr, zbs, zbt, zbu, Nat.reduceSub, Nat.reduceAdd, Int.reduceLT, Int.reduceLE, Int.reduceAdd, Int.reduceSub, Int.reduceToNat, Int.reduceBEq, Int.reduceBNe, Int.reduceMul, Nat.reduceBEq, Nat.reduceBNe, Nat.reduceLT, Nat.reduceLeDiff, Nat.reduceMul, Nat.reduceEqDiff, WD, effB, effH, isPriv, isHeap, isImm, zbx, zby, zbz, chkO, setD, dslot, zca, zcb, zcc, zcd, ptrCells_some, F3]
      rw [wpCall_eq (num_eq _ _)]
      have hc1 := fun (H : Hp) (st : St) (d : Option Nat) (m : Abs.Mode) => str_rd (H := H) (hB.rd H) st d m
      have hc2 := fun (H : Hp) (st : St) (d : Option Nat) (m : Abs.Mode) => str_of (x := .rsl (by8 L)) (L := L) (.inr rfl) H st d m
      simp only [WW, partV, eqCells, eqLf, minV, maxV, ifcV, zaa, zab, zac, zad, zae, zaf, zag, zah, zai, ofConst, ofConst1, List.replicate, zaj, zak, loadOp, Go.Abs.loadCells, binV, zal, pickV, zam, zan, zao, zap, zaq, zar, zas, zat, zau, outR, resAll, resOne, zav, zaw, zax, zay, zaz, zba, zbb, zbc, zbd, zbe, zbf, zbg, zbh, zbi, zbj, zbk, storeOp, storeCell, overlay, zbl, zbm, zbn, lookupOp, keyT, okRes, mapUpdateOp, zbo, zbp, zbq, zbr, zbs, zbt, zbu, Nat.reduceSub, Nat.reduceAdd, Int.reduceLT, Int.reduceLE, Int.reduceAdd, Int.reduceSub, Int.reduceToNat, Int.reduceBEq, Int.reduceBNe, Int.reduceMul, Nat.reduceBEq, Nat.reduceBNe, Nat.reduceLT, Nat.reduceLeDiff, Nat.reduceMul, Nat.reduceEqDiff, WD, effB, effH, isPriv, isHeap, isImm, zbx, zby, zbz, chkO, setD, dslot, zca, zcb, zcc, zcd, ptrCells_some, F3, hx.shutIn, rowV, Bool.false_and, htk, hc1, hc2]
      rw [wpCall_eq (live_eq _)]
      simp only [WW, partV, eqCells, eqLf, minV, maxV, ifcV, zaa, zab, zac, zad, zae, zaf, zag, zah, zai, ofConst, ofConst1, List.replicate, zaj, zak, loadOp, Go.Abs.loadCells, binV, zal, pickV, zam, zan, zao, zap, zaq, zar, zas, zat, zau, outR, resAll, resOne, zav, zaw, zax, zay, zaz, zba, zbb, zbc, zbd, zbe, zbf, zbg, zbh, zbi, zbj, zbk, storeOp, storeCell, overlay, zbl, zbm, zbn, lookupOp, keyT, okRes, mapUpdateOp, zbo, zbp, zbq, zbr, zbs, zbt, zbu, Nat.reduceSub, Nat.reduceAdd, Int.reduceLT, Int.reduceLE, Int.reduceAdd, Int.reduceSub, Int.reduceToNat, Int.reduceBEq, Int.reduceBNe, Int.reduceMul, Nat.reduceBEq, Nat.reduceBNe, Nat.reduceLT, Nat.reduceLeDiff, Nat.reduceMul, Nat.reduceEqDiff, WD, effB, effH, isPriv, isHeap, isImm, zbx, zby, zbz, chkO, setD, dslot, zca, zcb, zcc, zcd, ptrCells_some, F3]
    | error e =>
      rw [hlx] at hres
      simp only [lexOut] at hres
      obtain rfl := hres
      simp only [WW, partV, eqCells, eqLf, minV, maxV, ifcV, zaa, zab, zac, zad, zae, zaf, zag, zah, zai, ofConst, ofConst1, List.replicate, zaj, zak, loadOp, Go.Abs.loadCells, binV, zal, pickV, zam, zan, zao, zap, zaq, zar, zas, zat, zau, outR, resAll, resOne, zav, zaw, zax, zay, zaz, zba, zbb, zbc, zbd, zbe, zbf, zbg, zbh, zbi, zbj, zbk, storeOp, storeCell, overlay, zbl, zbm, zbn, lookupOp, keyT, okRes, mapUpdateOp, zbo, zbp, zbq, zbr, zbs, zbt, zbu, Nat.reduceSub, Nat.reduceAdd, Int.reduceLT, Int.reduceLE, Int.reduceAdd, Int.reduceSub, Int.reduceToNat, Int.reduceBEq, Int.reduceBNe, Int.reduceMul, Nat.reduceBEq, Nat.reduceBNe, Nat.reduceLT, Nat.reduceLeDiff, Nat.reduceMul, Nat.reduceEqDiff, WD, effB, effH, isPriv, isHeap, isImm, zbx, zby, zbz, chkO, setD, dslot, zca, zcb, zcc, zcd, ptrCells_some, F3, hx.shutIn]
      refine wpCall_of (rlex_spec hB (by omega) H1) ?_
      rintro out H2 ⟨hres, rfl⟩
      rw [hlx] at hres
      simp only [lexOut] at hres
      obtain rfl := hres
      simp only [WW, partV, eqCells, eqLf, minV, maxV, ifcV, zaa, zab, zac, zad, zae, zaf, zag, zah, zai, ofConst, ofConst1, List.replicate, zaj, zak, loadOp, Go.Abs.loadCells, binV, zal, pickV, zam, zan, zao, zap, zaq, zar, zas, zat, zau, outR, resAll, resOne, zav, zaw, zax, zay, zaz, zba, zbb, zbc, zbd, zbe, zbf, zbg, zbh, zbi, zbj, zbk, storeOp, storeCell, overlay, zbl, zbm, zbn, lookupOp, keyT, okRes, mapUpdateOp, zbo, zbp, zbq, zbr, zbs, zbt, zbu, Nat.reduceSub, Nat.reduceAdd, Int.reduceLT, Int.reduceLE, Int.reduceAdd, Int.reduceSub, Int.reduceToNat, Int.reduceBEq, Int.reduceBNe, Int.reduceMul, Nat.reduceBEq, Nat.reduceBNe, Nat.reduceLT, Nat.reduceLeDiff, Nat.reduceMul, Nat.reduceEqDiff, WD, effB, effH, isPriv, isHeap, isImm, zbx, zby, zbz, chkO, setD, dslot, zca, zcb, zcc, zcd, ptrCells_some, F3]
      rw [wpCall_eq (same_eq (l := []) (.inl ⟨rfl, rfl⟩) (.inl ⟨rfl, rfl⟩) (by simp) _)]
      simp only [WW, partV, eqCells, eqLf, minV, maxV, ifcV, zaa, zab, zac, zad, zae, zaf, zag, zah, zai, ofConst, ofConst1, List.replicate, zaj, zak, loadOp, Go.Abs.loadCells, binV, zal, pickV, zam, zan, zao, zap, zaq, zar, zas, zat, zau, outR, resAll, resOne, zav, zaw, zax, zay, zaz, zba, zbb, zbc, zbd, zbe, zbf, zbg, zbh, zbi, zbj, zbk, storeOp, storeCell, overlay, zbl, zbm, zbn, lookupOp, keyT, okRes, mapUpdateOp, zbo, zbp, zbq, zbr, zbs, zbt, zbu, Nat.reduceSub, Nat.reduceAdd, Int.reduceLT, Int.reduceLE, Int.reduceAdd, Int.reduceSub, Int.reduceToNat, Int.reduceBEq, Int.reduceBNe, Int.reduceMul, Nat.reduceBEq, Nat.reduceBNe, Nat.reduceLT, Nat.reduceLeDiff, Nat.reduceMul, Nat.reduceEqDiff, WD, effB, effH, isPriv, isHeap, isImm, zbx, zby, zbz, chkO, setD, dslot, zca, zcb, zcc, zcd, ptrCells_some, F3]
      rw [wpCall_eq (num_eq _ _)]
      have hc1 := fun (H : Hp) (st : St) (d : Option Nat) (m : Abs.Mode) => str_rd (H := H) (hB.rd H) st d m
      have hc2 := fun (H : Hp) (st : St) (d : Option Nat) (m : Abs.Mode) => str_of (x := .rsl (by8 L)) (L := L) (.inr rfl) H st d m
      simp only [WW, partV, eqCells, eqLf, minV, maxV, ifcV, zaa, zab, zac, zad, zae, zaf, zag, zah, zai, ofConst, ofConst1, List.replicate, zaj, zak, loadOp, Go.Abs.loadCells, binV, zal, pickV, zam, zan, zao, zap, zaq, zar, zas, zat, zau, outR, resAll, resOne, zav, zaw, zax, zay, zaz, zba, zbb, zbc, zbd, zbe, zbf, zbg, zbh, zbi, zbj, zbk, storeOp, storeCell, overlay, zbl, zbm, zbn, lookupOp, keyT, okRes, mapUpdateOp, zbo, zbp, zbq, zbr, zbs, zbt, zbu, Nat.reduceSub, Nat.reduceAdd, Int.reduceLT, Int.reduceLE, Int.reduceAdd, Int.reduceSub, Int.reduceToNat, Int.reduceBEq, Int.reduceBNe, Int.reduceMul, Nat.reduceBEq, Nat.reduceBNe, Nat.reduceLT, Nat.reduceLeDiff, Nat.reduceMul, Nat.reduceEqDiff, WD, effB, effH, isPriv, isHeap, isImm, zbx, zby, zbz, chkO, setD, dslot, zca, zcb, zcc, zcd, ptrCells_some, F3, hx.shutIn, rowV, Bool.false_and, htk, hc1, hc2]
      rw [wpCall_eq (live_eq _)]
      simp only [WW, partV, eqCells, eqLf, minV, maxV, ifcV, zaa, zab, zac, zad, zae, zaf, zag, zah, zai, ofConst, ofConst1, List.replicate, zaj, zak, loadOp, Go.Abs.loadCells, binV, zal, pickV, zam, zan, zao, zap, zaq, zar, zas, zat, zau, outR, resAll, resOne, zav, zaw, zax, zay, zaz, zba, zbb, zbc, zbd, zbe, zbf, zbg, zbh, zbi, zbj, zbk, storeOp, storeCell, overlay, zbl, zbm, zbn, lookupOp, keyT, okRes, mapUpdateOp, zbo, zbp, zbq, zbr, zbs, zbt, zbu, Nat.reduceSub, Nat.reduceAdd, Int.reduceLT, Int.reduceLE, Int.reduceAdd, Int.reduceSub, Int.reduceToNat, Int.reduceBEq, Int.reduceBNe, Int.reduceMul, Nat.reduceBEq, Nat.reduceBNe, Nat.reduceLT, Nat.reduceLeDiff, Nat.reduceMul, Nat.reduceEqDiff, WD, effB, effH, isPriv, isHeap, isImm, zbx, zby, zbz, chkO, setD, dslot, zca, zcb, zcc, zcd, ptrCells_some, F3]
end Go.Proofs.YtcmndnkeoepmoaaDoor
