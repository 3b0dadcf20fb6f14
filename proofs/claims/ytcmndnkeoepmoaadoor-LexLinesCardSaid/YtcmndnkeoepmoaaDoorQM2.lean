/- A part of the proofs over this seat. -/
import Derived.Test.YtcmndnkeoepmoaaDoorQM1
import Derived.Test.YtcmndnkeoepmoaaDoorQK1
namespace Go.Proofs.YtcmndnkeoepmoaaDoor
open Go Go.Abs Go.Proofs
set_option maxRecDepth 100000
set_option maxHeartbeats 1000000
set_option linter.unusedVariables false
set_option linter.unusedSimpArgs false
theorem textS_bad : ∀ (R out : List UInt8) (o : Nat) {e off}, textS R out o = .bad e off → e = 6
  | [], out, o, e, off, h => by rw [textS] at h; cases h; rfl
  | c :: r, out, o, e, off, h => by
    unfold textS at h
    split at h
    · cases h; rfl
    split at h
    · cases h
    split at h
    · exact textS_bad r _ _ h
    match r, h with
    | [], h => cases h; rfl
    | d :: r1, h =>
      simp only at h
      split at h
      · match r1, h with
        | [], h => cases h; rfl
        | a :: r2, h =>
          simp only at h
          split at h
          · cases h; rfl
          match r2, h with
          | [], h => cases h; rfl
          | b :: r3, h =>
            simp only at h
            split at h
            · cases h; rfl
            exact textS_bad r3 _ _ h
      · split at h
        · exact textS_bad r1 _ _ h
        · cases h; rfl
theorem nextS_bad {c : UInt8} {r : List UInt8} {e off} (h : nextS (c :: r) = .bad e off) : e = 6 ∨ e = 9 := by
  simp only [nextS] at h
  split at h
  · cases h
  split at h
  · unfold numS at h
    simp only at h
    split at h
    · cases h; exact .inl rfl
    split at h
    · cases h; exact .inl rfl
    split at h
    · cases h
    · cases h; exact .inr rfl
  split at h
  · exact .inl (textS_bad _ _ _ h)
  · unfold signS at h
    split at h
    · cases h
    split at h
    · cases h
    · cases h; exact .inl rfl
theorem lenK_row {H : Hp} {e : TypeId} {es : List V} {n : Nat} (h : n = es.length) : lenK H (.slice e) (rowV true es n) = some (.int .i64 n) := by
  subst h
  unfold rowV
  cases es with
  | nil => rfl
  | cons a b => rw [if_neg (by simp), lenK_rsl, List.take_length]
theorem tok_wide (ts : List Tk) : wideAll (ts.map tokV) 4 = true := wide_mapN (f := tokV) (fun _ => rfl) ts
/-- Bytes, in memory or not -/
def Bz (H : Hp) (x : V) (L : List UInt8) : Prop := Bx x L ∨ ∃ id, x = .sl id 0 L.length ∧ H[id]? = some (.cells (by8 L))
theorem Bz.rd {H : Hp} {x : V} {L : List UInt8} (h : Bz H x L) : Rd H x (by8 L) := by
  rcases h with h | ⟨id, rfl, h⟩
  · exact h.rd H
  · have := Rd.whole h
    rwa [by8_len] at this
theorem Bz.by_ {H : Hp} {x : V} {L : List UInt8} (h : Bz H x L) (e : Hp) : By (H ++ e) H.length x L := by
  rcases h with h | ⟨id, rfl, h⟩
  · exact .inl h
  · have hl := (List.getElem?_eq_some_iff.1 h).1
    exact .inr ⟨id, rfl, by omega, by rw [List.getElem?_append_left hl]; exact h⟩
/-- What is answered of a text -/
def lexOut (n : Nat) (res : Except (Nat × Nat) (List Tk)) (out : Out) : Prop := match res with
  | .ok l => out = .ret (.tup [.rsl (l.map tokV), .int .i64 0, .int .i64 n]) false
  | .error x => out = .ret (.tup [.nils, .int .i64 x.1, .int .i64 x.2]) false
theorem lex_spec {H : Hp} {x : V} {L : List UInt8} (hz : Bz H x L) (hL : L.length ≤ 65536) :
    wpCall EW 10 [x] H (fun out H' => lexOut L.length (lexS L 0 0) out) := by
  refine runs f10 b10 r10 n10 _ _ ?_
  simp only [bodyOf, Tryd.f10, Option.getD_some]
  have hx := hz.rd
  have hB0 := hz.by_ [ctr x ((0 : Nat) : Int)]
  have h65 : decide ((65536 : Int) < (L.length : Int)) = false := decide_eq_false (by omega)
  simp only [WW, partV, eqCells, eqLf, minV, maxV, ifcV, zaa, zab, zac, zad, zae, zaf, zag, zah, zai, ofConst, ofConst1, List.replicate, zaj, zak, loadOp, Go.Abs.loadCells, binV, zal, pickV, zam, zan, zao, zap, zaq, zar, zas, zat, zau, outR, resAll, resOne, zav, zaw, zax, zay, zaz, zba, zbb, zbc, zbd, zbe, zbf, zbg, zbh, zbi, zbj, zbk, storeOp, storeCell, overlay, zbl, zbm, zbn, lookupOp, keyT, okRes, mapUpdateOp, zbo, zbp, zbq, zbr, zbs, zbt, zbu, Nat.reduceSub, Nat.reduceAdd, Int.reduceLT, Int.reduceLE, Int.reduceAdd, Int.reduceSub, Int.reduceToNat, Int.reduceBEq, Int.reduceBNe, Int.reduceMul, Nat.reduceBEq, Nat.reduceBNe, Nat.reduceLT, Nat.reduceLeDiff, Nat.reduceMul, Nat.reduceEqDiff, WD, effB, effH, isPriv, isHeap, isImm, zbx, zby, zbz, chkO, setD, dslot, zca, zcb, zcc, zcd, ptrCells_some, F10, hx.shutIn, hx.len, by8_len, h65, hx.ok, hx.cells1, hx.width1, buildOp, fillV, Lay.place, Bool.or_self, Bool.or_false, Bool.false_or, decide_not, ne_eq, not_true_eq_false, decide_eq_true_eq, Nat.lt_irrefl]
  have hC0 : Ct (H ++ [ctr x ((0 : Nat) : Int)]) H.length x ((0 : Nat) : Int) := List.getElem?_concat_length
  refine wC_loop _ (fun k st' H' => ∃ (i : Nat) (ts : List Tk), st' = ⟨L10_4 (.v x) (.v (.lr 0 ts.length)) (.v (.ptr H.length 0 0)), [], [⟨true, true, ts.map tokV⟩]⟩ ∧ Ct H' H.length x (i : Int) ∧ By H' H.length x L ∧ i ≤ L.length ∧ ts.length ≤ i ∧ ts.length ≤ 16384 ∧ k = L.length - i ∧
    lexS L 0 0 = (match lexS (L.drop i) i ts.length with | .ok l => .ok (ts ++ l) | .error e => .error e)) L.length ⟨0, [], ?_, hC0, hB0, Nat.zero_le _, Nat.le_refl _, by simp, rfl, by rw [List.drop_zero]; cases lexS L 0 ([] : List Tk).length <;> rfl⟩ ?_
  · simp only [WN, firstReg, growAll, zbv, zbw, norm, killS, zag, zah, zaa, zab, zbl, zat, zad, growOne, zae, zaf, zac, zas, zak, Nat.reduceLT, Nat.reduceAdd, zbj, zav, F10, L10_4, hx.clip2]
    try rfl
  · rintro k st' H' ⟨i, ts, rfl, hC, hB, hi, hti, htm, rfl, hlex⟩
    simp only [L10_4]
    simp only [WW, partV, eqCells, eqLf, minV, maxV, ifcV, zaa, zab, zac, zad, zae, zaf, zag, zah, zai, ofConst, ofConst1, List.replicate, zaj, zak, loadOp, Go.Abs.loadCells, binV, zal, pickV, zam, zan, zao, zap, zaq, zar, zas, zat, zau, outR, resAll, resOne, zav, zaw, zax, zay, zaz, zba, zbb, zbc, zbd, zbe, zbf, zbg, zbh, zbi, zbj, zbk, storeOp, storeCell, overlay, zbl, zbm, zbn, lookupOp, keyT, okRes, mapUpdateOp, zbo, zbp, zbq, zbr, zbs, zbt, zbu, Nat.reduceSub, Nat.reduceAdd, Int.reduceLT, Int.reduceLE, Int.reduceAdd, Int.reduceSub, Int.reduceToNat, Int.reduceBEq, Int.reduceBNe, Int.reduceMul, Nat.reduceBEq, Nat.reduceBNe, Nat.reduceLT, Nat.reduceLeDiff, Nat.reduceMul, Nat.reduceEqDiff, WD, effB, effH, isPriv, isHeap, isImm, zbx, zby, zbz, chkO, setD, dslot, zca, zcb, zcc, zcd, ptrCells_some, F10]
    refine wpCall_of (skip_spec hB hC hi (by omega)) ?_
    rintro out H2 ⟨rfl, rfl⟩
    have hle := skipN_le false (L.drop i)
    obtain ⟨s, hs⟩ : ∃ s, s = skipN false (L.drop i) := ⟨_, rfl⟩
    rw [← hs] at hle ⊢
    have hsl : i + s ≤ L.length := by simp at hle; omega
    have hC2 := hC.to ((i + s : Nat) : Int)
    have hB2 := hB.to (ctr x ((i + s : Nat) : Int))
    generalize H'.set H.length (ctr x ((i + s : Nat) : Int)) = H2 at hC2 hB2 ⊢
    have hb2 : H2[H.length]? = some (.cells [.agg [x, .int .i64 ((i + s : Nat) : Int)]]) := hC2
    have hx2 := hB2.rd
    have hrl := lenK_row (H := H2) (e := 36) (es := ts.map tokV) (n := ts.length) (by simp)
    have hwt := tok_wide ts
    have q1 : (ts.length == (ts.map tokV).length) = true := by simp
    have q2 : decide ((ts.length + 1) * 40 ≤ 70368744177664) = true := by simp; omega
    have q3 : decide (ts.length ≤ 4611686018427387903) = true := by simp; omega
    have hw1 : ∀ t : Tk, wideAll [V.agg [.int .i64 t.k, .str ⟨t.t.toArray⟩, .int .i64 t.n, .int .i64 t.p]] 4 = true := fun _ => rfl
    have hw0 : ∀ (a : Int) (b : ByteArray) (c d : Int), wideAll [V.agg [.int .i64 a, .str b, .int .i64 c, .int .i64 d]] 4 = true := fun _ _ _ _ => rfl
    have hdd : (L.drop i).drop s = L.drop (i + s) := List.drop_drop
    by_cases hend : i + s = L.length
    · have hnil : (L.drop i).drop s = [] := by rw [hdd, List.drop_of_length_le (by omega)]
      rw [hs] at hnil
      rw [lexS_end hnil, ← hs] at hlex
      have heq : (((i + s : Nat) : Int) == (L.length : Int)) = true := by rw [hend]; simp
      simp only [WW, partV, eqCells, eqLf, minV, maxV, ifcV, zaa, zab, zac, zad, zae, zaf, zag, zah, zai, ofConst, ofConst1, List.replicate, zaj, zak, loadOp, Go.Abs.loadCells, binV, zal, pickV, zam, zan, zao, zap, zaq, zar, zas, zat, zau, outR, resAll, resOne, zav, zaw, zax, zay, zaz, zba, zbb, zbc, zbd, zbe, zbf, zbg, zbh, zbi, zbj, zbk, storeOp, storeCell, overlay, zbl, zbm, zbn, lookupOp, keyT, okRes, mapUpdateOp, zbo, zbp, zbq, zbr, zbs, zbt, zbu, Nat.reduceSub, Nat.reduceAdd, Int.reduceLT, Int.reduceLE, Int.reduceAdd, Int.reduceSub, Int.reduceToNat, Int.reduceBEq, Int.reduceBNe, Int.reduceMul, Nat.reduceBEq, Nat.reduceBNe, Nat.reduceLT, Nat.reduceLeDiff, Nat.reduceMul, Nat.reduceEqDiff, WD, effB, effH, isPriv, isHeap, isImm, zbx, zby, zbz, chkO, setD, dslot, zca, zcb, zcc, zcd, ptrCells_some, F10, hb2, hx2.shutIn, hx2.len, by8_len, heq, buildOp, fillV, Lay.place, Bool.or_self, Bool.or_false, Bool.false_or, decide_not, ne_eq, not_true_eq_false, decide_eq_true_eq, Nat.lt_irrefl, buildSliceV, lits, srcV_eq, srcK_sl, srcK_str, srcSl_nils, srcSl_rsl, srcSl_sl, appendOp, frow, zbv, zbw, List.all_nil, List.all_cons, rowV, Bool.false_and, Bool.and_false, not_false_eq_true, grows_lr, callOut_t, hwt, hw0, q1, q2, q3]
      rw [hlex, hend]
      simp only [lexOut, List.map_append, List.map_cons, List.map_nil, List.length_append, List.length_map, List.length_cons, List.length_nil]
      rw [if_neg (by simp), List.take_of_length_le (by simp)]
      rfl
    · have heq : (((i + s : Nat) : Int) == (L.length : Int)) = false := by rw [beq_eq_false_iff_ne]; omega
      have hlt : i + s < L.length := by omega
      obtain ⟨c, r, hcr⟩ : ∃ c r, L.drop (i + s) = c :: r := by
        cases h : L.drop (i + s) with
        | nil => have := congrArg List.length h; simp at this; omega
        | cons c r => exact ⟨c, r, rfl⟩
      have hcr2 : (L.drop i).drop (skipN false (L.drop i)) = c :: r := by rw [← hs, hdd]; exact hcr
      cases hmany : ((ts.length : Int) == 16384) with
      | true =>
        have hm : ts.length = 16384 := by simp at hmany; omega
        rw [hm, lexS_many (by rw [hcr2]; simp), ← hs] at hlex
        simp only [WW, partV, eqCells, eqLf, minV, maxV, ifcV, zaa, zab, zac, zad, zae, zaf, zag, zah, zai, ofConst, ofConst1, List.replicate, zaj, zak, loadOp, Go.Abs.loadCells, binV, zal, pickV, zam, zan, zao, zap, zaq, zar, zas, zat, zau, outR, resAll, resOne, zav, zaw, zax, zay, zaz, zba, zbb, zbc, zbd, zbe, zbf, zbg, zbh, zbi, zbj, zbk, storeOp, storeCell, overlay, zbl, zbm, zbn, lookupOp, keyT, okRes, mapUpdateOp, zbo, zbp, zbq, zbr, zbs, zbt, zbu, Nat.reduceSub, Nat.reduceAdd, Int.reduceLT, Int.reduceLE, Int.reduceAdd, Int.reduceSub, Int.reduceToNat, Int.reduceBEq, Int.reduceBNe, Int.reduceMul, Nat.reduceBEq, Nat.reduceBNe, Nat.reduceLT, Nat.reduceLeDiff, Nat.reduceMul, Nat.reduceEqDiff, WD, effB, effH, isPriv, isHeap, isImm, zbx, zby, zbz, chkO, setD, dslot, zca, zcb, zcc, zcd, ptrCells_some, F10, hb2, hx2.shutIn, hx2.len, by8_len, heq, hrl, hmany]
        refine wC_dr alts10_8 (by kernel_rfl) ?_
        simp only [WW, partV, eqCells, eqLf, minV, maxV, ifcV, zaa, zab, zac, zad, zae, zaf, zag, zah, zai, ofConst, ofConst1, List.replicate, zaj, zak, loadOp, Go.Abs.loadCells, binV, zal, pickV, zam, zan, zao, zap, zaq, zar, zas, zat, zau, outR, resAll, resOne, zav, zaw, zax, zay, zaz, zba, zbb, zbc, zbd, zbe, zbf, zbg, zbh, zbi, zbj, zbk, storeOp, storeCell, overlay, zbl, zbm, zbn, lookupOp, keyT, okRes, mapUpdateOp, zbo, zbp, zbq, zbr, zbs, zbt, zbu, Nat.reduceSub, Nat.reduceAdd, Int.reduceLT, Int.reduceLE, Int.reduceAdd, Int.reduceSub, Int.reduceToNat, Int.reduceBEq, Int.reduceBNe, Int.reduceMul, Nat.reduceBEq, Nat.reduceBNe, Nat.reduceLT, Nat.reduceLeDiff, Nat.reduceMul, Nat.reduceEqDiff, WD, effB, effH, isPriv, isHeap, isImm, zbx, zby, zbz, chkO, setD, dslot, zca, zcb, zcc, zcd, ptrCells_some, F10, hb2, alts10_8]
        rw [hlex]
        rfl
      | false =>
        have hm : ts.length ≠ 16384 := by simp at hmany; omega
        simp only [WW, partV, eqCells, eqLf, minV, maxV, ifcV, zaa, zab, zac, zad, zae, zaf, zag, zah, zai, ofConst, ofConst1, List.replicate, zaj, zak, loadOp, Go.Abs.loadCells, binV, zal, pickV, zam, zan, zao, zap, zaq, zar, zas, zat, zau, outR, resAll, resOne, zav, zaw, zax, zay, zaz, zba, zbb, zbc, zbd, zbe, zbf, zbg, zbh, zbi, zbj, zbk, storeOp, storeCell, overlay, zbl, zbm, zbn, lookupOp, keyT, okRes, mapUpdateOp, zbo, zbp, zbq, zbr, zbs, zbt, zbu, Nat.reduceSub, Nat.reduceAdd, Int.reduceLT, Int.reduceLE, Int.reduceAdd, Int.reduceSub, Int.reduceToNat, Int.reduceBEq, Int.reduceBNe, Int.reduceMul, Nat.reduceBEq, Nat.reduceBNe, Nat.reduceLT, Nat.reduceLeDiff, Nat.reduceMul, Nat.reduceEqDiff, WD, effB, effH, isPriv, isHeap, isImm, zbx, zby, zbz, chkO, setD, dslot, zca, zcb, zcc, zcd, ptrCells_some, F10, hb2, hx2.shutIn, hx2.len, by8_len, heq, hrl, hmany]
        refine wpCall_of (next_spec hB2 hC2 hcr hL) ?_
        intro out H3 hres
        cases hnx : nextS (c :: r) with
        | bad e off =>
          rw [hnx] at hres
          obtain ⟨⟨t, rfl⟩, rfl⟩ := hres
          have hC3 := hC2.to ((i + s + off : Nat) : Int)
          generalize H2.set H.length (ctr x ((i + s + off : Nat) : Int)) = H3 at hC3 ⊢
          have hb3 : H3[H.length]? = some (.cells [.agg [x, .int .i64 ((i + s + off : Nat) : Int)]]) := hC3
          have he0 : ((e : Int) != 0) = true := by rcases nextS_bad hnx with rfl | rfl <;> rfl
          rw [lexS_bad hcr2 hm hnx, ← hs] at hlex
          simp only [tokV]
          simp only [WW, partV, eqCells, eqLf, minV, maxV, ifcV, zaa, zab, zac, zad, zae, zaf, zag, zah, zai, ofConst, ofConst1, List.replicate, zaj, zak, loadOp, Go.Abs.loadCells, binV, zal, pickV, zam, zan, zao, zap, zaq, zar, zas, zat, zau, outR, resAll, resOne, zav, zaw, zax, zay, zaz, zba, zbb, zbc, zbd, zbe, zbf, zbg, zbh, zbi, zbj, zbk, storeOp, storeCell, overlay, zbl, zbm, zbn, lookupOp, keyT, okRes, mapUpdateOp, zbo, zbp, zbq, zbr, zbs, zbt, zbu, Nat.reduceSub, Nat.reduceAdd, Int.reduceLT, Int.reduceLE, Int.reduceAdd, Int.reduceSub, Int.reduceToNat, Int.reduceBEq, Int.reduceBNe, Int.reduceMul, Nat.reduceBEq, Nat.reduceBNe, Nat.reduceLT, Nat.reduceLeDiff, Nat.reduceMul, Nat.reduceEqDiff, WD, effB, effH, isPriv, isHeap, isImm, zbx, zby, zbz, chkO, setD, dslot, zca, zcb, zcc, zcd, ptrCells_some, F10, he0]
          refine wC_dr alts10_11 (by kernel_rfl) ?_
          simp only [WW, partV, eqCells, eqLf, minV, maxV, ifcV, zaa, zab, zac, zad, zae, zaf, zag, zah, zai, ofConst, ofConst1, List.replicate, zaj, zak, loadOp, Go.Abs.loadCells, binV, zal, pickV, zam, zan, zao, zap, zaq, zar, zas, zat, zau, outR, resAll, resOne, zav, zaw, zax, zay, zaz, zba, zbb, zbc, zbd, zbe, zbf, zbg, zbh, zbi, zbj, zbk, storeOp, storeCell, overlay, zbl, zbm, zbn, lookupOp, keyT, okRes, mapUpdateOp, zbo, zbp, zbq, zbr, zbs, zbt, zbu, Nat.reduceSub, Nat.reduceAdd, Int.reduceLT, Int.reduceLE, Int.reduceAdd, Int.reduceSub, Int.reduceToNat, Int.reduceBEq, Int.reduceBNe, Int.reduceMul, Nat.reduceBEq, Nat.reduceBNe, Nat.reduceLT, Nat.reduceLeDiff, Nat.reduceMul, Nat.reduceEqDiff, WD, effB, effH, isPriv, isHeap, isImm, zbx, zby, zbz, chkO, setD, dslot, zca, zcb, zcc, zcd, ptrCells_some, F10, hb3, alts10_11]
          rw [hlex]
          rfl
        | tok kd t n len =>
          rw [hnx] at hres
          obtain ⟨rfl, rfl⟩ := hres
          obtain ⟨hl1, hl2⟩ := nextS_len hnx
          have hlr : len ≤ L.length - (i + s) := by rw [← hcr] at hl2; simpa using hl2
          have hC3 := hC2.to ((i + s + len : Nat) : Int)
          have hB3 := hB2.to (ctr x ((i + s + len : Nat) : Int))
          generalize H2.set H.length (ctr x ((i + s + len : Nat) : Int)) = H3 at hC3 hB3 ⊢
          have h00 : ((0 : Int) != 0) = false := rfl
          rw [lexS_tok hcr2 hm hnx, ← hs] at hlex
          have hrd : r.drop (len - 1) = L.drop (i + s + len) := by
            rw [← List.drop_drop, hcr]
            cases len with
            | zero => omega
            | succ j => rfl
          simp only [tokV]
          simp only [WW, partV, eqCells, eqLf, minV, maxV, ifcV, zaa, zab, zac, zad, zae, zaf, zag, zah, zai, ofConst, ofConst1, List.replicate, zaj, zak, loadOp, Go.Abs.loadCells, binV, zal, pickV, zam, zan, zao, zap, zaq, zar, zas, zat, zau, outR, resAll, resOne, zav, zaw, zax, zay, zaz, zba, zbb, zbc, zbd, zbe, zbf, zbg, zbh, zbi, zbj, zbk, storeOp, storeCell, overlay, zbl, zbm, zbn, lookupOp, keyT, okRes, mapUpdateOp, zbo, zbp, zbq, zbr, zbs, zbt, zbu, Nat.reduceSub, Nat.reduceAdd, Int.reduceLT, Int.reduceLE, Int.reduceAdd, Int.reduceSub, Int.reduceToNat, Int.reduceBEq, Int.reduceBNe, Int.reduceMul, Nat.reduceBEq, Nat.reduceBNe, Nat.reduceLT, Nat.reduceLeDiff, Nat.reduceMul, Nat.reduceEqDiff, WD, effB, effH, isPriv, isHeap, isImm, zbx, zby, zbz, chkO, setD, dslot, zca, zcb, zcc, zcd, ptrCells_some, F10, h00, buildSliceV, lits, srcV_eq, srcK_sl, srcK_str, srcSl_nils, srcSl_rsl, srcSl_sl, appendOp, frow, zbv, zbw, List.all_nil, List.all_cons, rowV, Bool.false_and, Bool.and_false, ne_eq, not_false_eq_true, grows_lr, callOut_t, hwt, hw0, q1, q2, q3]
          refine ⟨L.length - (i + s + len), by omega, i + s + len, ts ++ [⟨kd, t, n, i + s⟩], ?_, hC3, hB3, by omega, by simp; omega, by simp; omega, rfl, ?_⟩
          · simp only [WN, firstReg, growAll, zbv, zbw, norm, killS, zag, zah, zaa, zab, zbl, zat, zad, growOne, zae, zaf, zac, zas, zak, Nat.reduceLT, Nat.reduceAdd, zbj, zav, F10, hx.clip2, List.map_append, List.length_append]
            try rfl
          · rw [hlex, hrd, List.length_append]
            simp only [List.length_cons, List.length_nil, Nat.zero_add]
            cases lexS (L.drop (i + s + len)) (i + s + len) (ts.length + 1) with
            | ok l => simp
            | error e => rfl
theorem u22 : Tryd.prog.underlying 22 = some (.slice 5) := by kernel_rfl
theorem u5 : Tryd.prog.underlying 5 = some (.int .u8) := by kernel_rfl
theorem ag5 : isAggT Tryd.prog 5 = false := by kernel_rfl
theorem ag22 : isAggT Tryd.prog 22 = false := by kernel_rfl
theorem open_bytes {d : Nat} {v : List V} (h : Tv Tryd.prog (d + 2) 22 v) : ∃ x L, v = [x] ∧ Bx x L ∧ L.length ≤ maxLen := by
  obtain ⟨x, rows, rfl, hx, hl, hr⟩ := tv_slice h u22
  rw [ag5] at hx
  obtain ⟨L, e, el, _⟩ := rows_map (f := mkV false) (tv := byteV) (Q := fun _ => True) (rows := rows) (fun r hr' => by
    obtain ⟨n, rfl, hn⟩ := tv_int (hr r hr') u5
    have hn2 : 0 ≤ n ∧ n ≤ 255 := by
      simp [Lit.wf, IntKind.min, IntKind.max, IntKind.signed, IntKind.bits] at hn
      omega
    refine ⟨UInt8.ofNat n.toNat, ?_, trivial⟩
    show V.int .u8 n = byteV _
    unfold byteV
    congr 1
    simp; omega)
  rw [e] at hx
  refine ⟨x, L, rfl, ?_, by omega⟩
  rcases (hx []).flat with ⟨rfl, h2⟩ | rfl
  · exact .inl ⟨rfl, by simpa using h2⟩
  · exact .inr rfl
theorem lex_long {H : Hp} {x : V} {L : List UInt8} (hz : Bz H x L) (hL : 65536 < L.length) : wpCall EW 10 [x] H (fun out H' => out = .ret (.tup [.nils, .int .i64 2, .int .i64 0]) false) := by
  refine runs f10 b10 r10 n10 _ _ ?_
  simp only [bodyOf, Tryd.f10, Option.getD_some]
  have hx := hz.rd
  have h65 : decide ((65536 : Int) < (L.length : Int)) = true := decide_eq_true (by omega)
  simp only [WW, partV, eqCells, eqLf, minV, maxV, ifcV, zaa, zab, zac, zad, zae, zaf, zag, zah, zai, ofConst, ofConst1, List.replicate, zaj, zak, loadOp, Go.Abs.loadCells, binV, zal, pickV, zam, zan, zao, zap, zaq, zar, zas, zat, zau, outR, resAll, resOne, zav, zaw, zax, zay, zaz, zba, zbb, zbc, zbd, zbe, zbf, zbg, zbh, zbi, zbj, zbk, storeOp, storeCell, overlay, zbl, zbm, zbn, lookupOp, keyT, okRes, mapUpdateOp, zbo, zbp, zbq, zbr, zbs, zbt, zbu, Nat.reduceSub, Nat.reduceAdd, Int.reduceLT, Int.reduceLE, Int.reduceAdd, Int.reduceSub, Int.reduceToNat, Int.reduceBEq, Int.reduceBNe, Int.reduceMul, Nat.reduceBEq, Nat.reduceBNe, Nat.reduceLT, Nat.reduceLeDiff, Nat.reduceMul, Nat.reduceEqDiff, WD, effB, effH, isPriv, isHeap, isImm, zbx, zby, zbz, chkO, setD, dslot, zca, zcb, zcc, zcd, ptrCells_some, F10, hx.shutIn, hx.len, by8_len, h65]
end Go.Proofs.YtcmndnkeoepmoaaDoor

namespace Go.Proofs.YtcmndnkeoepmoaaDoor
open Go Go.Abs Go.Proofs
set_option maxRecDepth 100000
set_option maxHeartbeats 2000000
set_option linter.unusedVariables false
set_option linter.unusedSimpArgs false
/-- Tokens that nothing writes to -/
def Tx (x : V) (l : List Tk) : Prop := (x = .nils ∧ l = []) ∨ x = .rsl (l.map tokV)
theorem Tx.rd {x : V} {l : List Tk} (h : Tx x l) (H : Hp) : Rd H x (l.map tokV) := by
  rcases h with ⟨rfl, rfl⟩ | rfl
  · exact .nils
  · exact .rsl _
theorem noHeap_tk : ∀ ts : List Tk, noHeapL (ts.map tokV) = true
  | [] => rfl
  | t :: ts => by
    have := noHeap_tk ts
    simp only [List.map_cons, noHeapL, this, Bool.and_true]; rfl
theorem Tx.noHeap {x : V} {l : List Tk} (h : Tx x l) : Abs.noHeap x = true := by
  rcases h with ⟨rfl, rfl⟩ | rfl
  · rfl
  · simp only [Abs.noHeap, noHeap_tk]
theorem same_eq {a b : V} {l : List Tk} (ha : Tx a l) (hb : Tx b l) (hl : l.length ≤ 65536) (H : Hp) : EW 12 [a, b, .bool true] H = some (.ret (.bool true) false, H) := by
  have hx := ha.rd []
  have hy := hb.rd []
  refine eqOf (runsP f12 b12 r12 n12 _ (by simp only [noHeapL, ha.noHeap, hb.noHeap, Abs.noHeap, Bool.and_self]) _ ?_)
  simp only [bodyOf, Tryd.f12, Option.getD_some]
  simp only [WW, partV, eqCells, eqLf, minV, maxV, ifcV, zaa, zab, zac, zad, zae, zaf, zag, zah, zai, ofConst, ofConst1, List.replicate, zaj, zak, loadOp, Go.Abs.loadCells, binV, zal, pickV, zam, zan, zao, zap, zaq, zar, zas, zat, zau, outR, resAll, resOne, zav, zaw, zax, zay, zaz, zba, zbb, zbc, zbd, zbe, zbf, zbg, zbh, zbi, zbj, zbk, storeOp, storeCell, overlay, zbl, zbm, zbn, lookupOp, keyT, okRes, mapUpdateOp, zbo, zbp, zbq, zbr, zbs, zbt, zbu, Nat.reduceSub, Nat.reduceAdd, Int.reduceLT, Int.reduceLE, Int.reduceAdd, Int.reduceSub, Int.reduceToNat, Int.reduceBEq, Int.reduceBNe, Int.reduceMul, Nat.reduceBEq, Nat.reduceBNe, Nat.reduceLT, Nat.reduceLeDiff, Nat.reduceMul, Nat.reduceEqDiff, WD, effB, effH, isPriv, isHeap, isImm, zbx, zby, zbz, chkO, setD, dslot, zca, zcb, zcc, zcd, ptrCells_some, F12, hx.shutIn, hy.shutIn, hx.len, hy.len, bne_self_eq_false]
  refine wC_loop _ (fun k st' H' => ∃ i : Nat, st' = ⟨L12_4 (.v a) (.v b) (.v (.bool true)) (.v (.int .i64 (i : Int))), [], []⟩ ∧ H' = [] ∧ i ≤ l.length ∧ k = l.length - i) l.length ⟨0, ?_, rfl, by omega, rfl⟩ ?_
  · simp only [WN, firstReg, growAll, zbv, zbw, norm, killS, zag, zah, zaa, zab, zbl, zat, zad, growOne, zae, zaf, zac, zas, zak, Nat.reduceLT, Nat.reduceAdd, zbj, zav, F12, L12_4, hx.clip2, hy.clip2]
    try rfl
  · rintro k st' H' ⟨i, rfl, rfl, hi, rfl⟩
    simp only [L12_4]
    simp only [WW, partV, eqCells, eqLf, minV, maxV, ifcV, zaa, zab, zac, zad, zae, zaf, zag, zah, zai, ofConst, ofConst1, List.replicate, zaj, zak, loadOp, Go.Abs.loadCells, binV, zal, pickV, zam, zan, zao, zap, zaq, zar, zas, zat, zau, outR, resAll, resOne, zav, zaw, zax, zay, zaz, zba, zbb, zbc, zbd, zbe, zbf, zbg, zbh, zbi, zbj, zbk, storeOp, storeCell, overlay, zbl, zbm, zbn, lookupOp, keyT, okRes, mapUpdateOp, zbo, zbp, zbq, zbr, zbs, zbt, zbu, Nat.reduceSub, Nat.reduceAdd, Int.reduceLT, Int.reduceLE, Int.reduceAdd, Int.reduceSub, Int.reduceToNat, Int.reduceBEq, Int.reduceBNe, Int.reduceMul, Nat.reduceBEq, Nat.reduceBNe, Nat.reduceLT, Nat.reduceLeDiff, Nat.reduceMul, Nat.reduceEqDiff, WD, effB, effH, isPriv, isHeap, isImm, zbx, zby, zbz, chkO, setD, dslot, zca, zcb, zcc, zcd, ptrCells_some, F12, hx.shutIn, hy.shutIn, hx.len, hy.len]
    refine cSplit (fun hlt => ?_) (fun hge => ?_)
    · have hi2 : i < l.length := by simpa using hlt
      have hc : l[i]? = some l[i] := List.getElem?_eq_getElem hi2
      generalize l[i] = t at hc
      have hat := hx.at_ (sz := 4) (i := i) (e := tokV t) (by rw [List.getElem?_map, hc]; rfl) rfl
      have hbt := hy.at_ (sz := 4) (i := i) (e := tokV t) (by rw [List.getElem?_map, hc]; rfl) rfl
      have hq1 : IntKind.i64.wrap ((i : Int) + 1) = ((i + 1 : Nat) : Int) := by rw [IntWalk.i64_in _ (by omega)]; omega
      simp only [hlt]
      simp only [WW, partV, eqCells, eqLf, minV, maxV, ifcV, zaa, zab, zac, zad, zae, zaf, zag, zah, zai, ofConst, ofConst1, List.replicate, zaj, zak, loadOp, Go.Abs.loadCells, binV, zal, pickV, zam, zan, zao, zap, zaq, zar, zas, zat, zau, outR, resAll, resOne, zav, zaw, zax, zay, zaz, zba, zbb, zbc, zbd, zbe, zbf, zbg, zbh, zbi, zbj, zbk, storeOp, storeCell, overlay, zbl, zbm, zbn, lookupOp, keyT, okRes, mapUpdateOp, zbo, zbp, zbq, zbr, zbs, zbt, zbu, Nat.reduceSub, Nat.reduceAdd, Int.reduceLT, Int.reduceLE, Int.reduceAdd, Int.reduceSub, Int.reduceToNat, Int.reduceBEq, Int.reduceBNe, Int.reduceMul, Nat.reduceBEq, Nat.reduceBNe, Nat.reduceLT, Nat.reduceLeDiff, Nat.reduceMul, Nat.reduceEqDiff, WD, effB, effH, isPriv, isHeap, isImm, zbx, zby, zbz, chkO, setD, dslot, zca, zcb, zcc, zcd, ptrCells_some, F12]
      refine wC_dr alts12_6 (by kernel_rfl) ?_
      simp only [WW, partV, eqCells, eqLf, minV, maxV, ifcV, zaa, zab, zac, zad, zae, zaf, zag, zah, zai, ofConst, ofConst1, List.replicate, zaj, zak, loadOp, Go.Abs.loadCells, binV, zal, pickV, zam, zan, zao, zap, zaq, zar, zas, zat, zau, outR, resAll, resOne, zav, zaw, zax, zay, zaz, zba, zbb, zbc, zbd, zbe, zbf, zbg, zbh, zbi, zbj, zbk, storeOp, storeCell, overlay, zbl, zbm, zbn, lookupOp, keyT, okRes, mapUpdateOp, zbo, zbp, zbq, zbr, zbs, zbt, zbu, Nat.reduceSub, Nat.reduceAdd, Int.reduceLT, Int.reduceLE, Int.reduceAdd, Int.reduceSub, Int.reduceToNat, Int.reduceBEq, Int.reduceBNe, Int.reduceMul, Nat.reduceBEq, Nat.reduceBNe, Nat.reduceLT, Nat.reduceLeDiff, Nat.reduceMul, Nat.reduceEqDiff, WD, effB, effH, isPriv, isHeap, isImm, zbx, zby, zbz, chkO, setD, dslot, zca, zcb, zcc, zcd, ptrCells_some, F12, hx.shutIn, hy.shutIn, hat.at1 hx, hat.cells, hat.fa, hbt.at1 hy, hbt.cells, hbt.fa, tokV, bne_self_eq_false, alts12_6]
      refine ⟨l.length - (i + 1), by omega, i + 1, ?_, by omega, rfl⟩
      simp only [WN, firstReg, growAll, zbv, zbw, norm, killS, zag, zah, zaa, zab, zbl, zat, zad, growOne, zae, zaf, zac, zas, zak, Nat.reduceLT, Nat.reduceAdd, zbj, zav, F12, hx.clip2, hy.clip2, hq1]
      try rfl
    · simp only [hge]
      simp only [WW, partV, eqCells, eqLf, minV, maxV, ifcV, zaa, zab, zac, zad, zae, zaf, zag, zah, zai, ofConst, ofConst1, List.replicate, zaj, zak, loadOp, Go.Abs.loadCells, binV, zal, pickV, zam, zan, zao, zap, zaq, zar, zas, zat, zau, outR, resAll, resOne, zav, zaw, zax, zay, zaz, zba, zbb, zbc, zbd, zbe, zbf, zbg, zbh, zbi, zbj, zbk, storeOp, storeCell, overlay, zbl, zbm, zbn, lookupOp, keyT, okRes, mapUpdateOp, zbo, zbp, zbq, zbr, zbs, zbt, zbu, Nat.reduceSub, Nat.reduceAdd, Int.reduceLT, Int.reduceLE, Int.reduceAdd, Int.reduceSub, Int.reduceToNat, Int.reduceBEq, Int.reduceBNe, Int.reduceMul, Nat.reduceBEq, Nat.reduceBNe, Nat.reduceLT, Nat.reduceLeDiff, Nat.reduceMul, Nat.reduceEqDiff, WD, effB, effH, isPriv, isHeap, isImm, zbx, zby, zbz, chkO, setD, dslot, zca, zcb, zcc, zcd, ptrCells_some, F12]
      first | exact ⟨rfl, rfl⟩ | rfl
end Go.Proofs.YtcmndnkeoepmoaaDoor

namespace Go.Proofs.YtcmndnkeoepmoaaDoor
open Go Go.Abs Go.Proofs
set_option maxRecDepth 100000
set_option maxHeartbeats 400000
set_option linter.unusedVariables false
set_option linter.unusedSimpArgs false
/-! ### Texts one behind the other -/
def Nl (R : List UInt8) : Prop := ∃ R0, R = R0 ++ [10]
theorem Nl.tail {c : UInt8} {r : List UInt8} (h : Nl (c :: r)) (hr : r ≠ []) : Nl r := by
  obtain ⟨R0, e⟩ := h
  cases R0 with
  | nil => simp at e; exact absurd e.2 hr
  | cons d R1 => simp at e; exact ⟨R1, e.2⟩
theorem Nl.ten {c : UInt8} (h : Nl [c]) : c = 10 := by
  obtain ⟨R0, e⟩ := h
  cases R0 with
  | nil => simpa using e
  | cons d R1 => simp at e
theorem Nl.drop {R : List UInt8} (h : Nl R) {n : Nat} (hn : n < R.length) : Nl (R.drop n) := by
  obtain ⟨R0, rfl⟩ := h
  simp at hn
  exact ⟨R0.drop n, by rw [List.drop_append_of_le_length (by omega)]⟩
theorem skipN_cons (b : Bool) (c : UInt8) (r : List UInt8) : skipN b (c :: r) = if c = 10 then 1 + skipN false r else if (b || c == 32 || c == 9 || c == 13) = true then 1 + skipN b r else if c = 35 then 1 + skipN true r else 0 := by rw [skipN]
theorem skip_app (B : List UInt8) : ∀ (b : Bool) (R : List UInt8), Nl R → skipN b (R ++ B) = if skipN b R = R.length then R.length + skipN false B else skipN b R
  | _, [], h => by obtain ⟨R0, e⟩ := h; simp at e
  | b, c :: r, h => by
    by_cases hr : r = []
    · subst hr
      obtain rfl := h.ten
      simp [skipN]
    · have h2 := h.tail hr
      have i1 := skip_app B false r h2
      have i2 := skip_app B b r h2
      have i3 := skip_app B true r h2
      rw [List.cons_append, skipN_cons, skipN_cons]
      split
      · rw [i1]
        by_cases e : skipN false r = r.length
        · rw [if_pos e, if_pos (by simp; omega)]; simp; omega
        · rw [if_neg e, if_neg (by simp; omega)]
      · split
        · rw [i2]
          by_cases e : skipN b r = r.length
          · rw [if_pos e, if_pos (by simp; omega)]; simp; omega
          · rw [if_neg e, if_neg (by simp; omega)]
        · split
          · rw [i3]
            by_cases e : skipN true r = r.length
            · rw [if_pos e, if_pos (by simp; omega)]; simp; omega
            · rw [if_neg e, if_neg (by simp; omega)]
          · rw [if_neg (by simp)]
theorem text_app (B : List UInt8) : ∀ (R out : List UInt8) (o : Nat) {k t n len}, textS R out o = .tok k t n len → textS (R ++ B) out o = .tok k t n len
  | [], out, o, k, t, n, len, h => by rw [textS] at h; cases h
  | c :: r, out, o, k, t, n, len, h => by
    rw [List.cons_append]
    unfold textS at h ⊢
    split at h
    · cases h
    rename_i h1
    rw [if_neg h1]
    split at h
    · rename_i h2; rw [if_pos h2]; exact h
    rename_i h2
    rw [if_neg h2]
    split at h
    · rename_i h3; rw [if_pos h3]; exact text_app B r _ _ h
    rename_i h3
    rw [if_neg h3]
    match r, h with
    | [], h => cases h
    | d :: r1, h =>
      simp only [List.cons_append] at h ⊢
      split at h
      · rename_i h4
        rw [if_pos h4]
        match r1, h with
        | [], h => cases h
        | a :: r2, h =>
          simp only [List.cons_append] at h ⊢
          split at h
          · cases h
          rename_i x hx
          try rw [hx]
          try simp only []
          match r2, h with
          | [], h => cases h
          | b :: r3, h =>
            simp only [List.cons_append] at h ⊢
            split at h
            · cases h
            rename_i y hy
            try rw [hy]
            try simp only []
            exact text_app B r3 _ _ h
      · rename_i h4
        rw [if_neg h4]
        split at h
        · rename_i y hy
          try rw [hy]
          exact text_app B r1 _ _ h
        · cases h
theorem text_nl : ∀ (R out : List UInt8) (o : Nat) {k t n len}, textS R out o = .tok k t n len → Nl R → len < o + R.length
  | [], out, o, k, t, n, len, h, hn => by rw [textS] at h; cases h
  | c :: r, out, o, k, t, n, len, h, hn => by
    unfold textS at h
    split at h
    · cases h
    rename_i h1
    have hr : r ≠ [] := fun e => by subst e; exact h1 hn.ten
    have hn1 := hn.tail hr
    split at h
    · cases h
      have : 0 < r.length := List.length_pos_iff.2 hr
      simp; omega
    split at h
    · have := text_nl r _ _ h hn1; simp only [List.length_cons]; omega
    match r, h, hn1 with
    | [], h, _ => cases h
    | d :: r1, h, hn1 =>
      simp only at h
      split at h
      · match r1, h, hn1 with
        | [], h, _ => cases h
        | a :: r2, h, hn1 =>
          simp only at h
          split at h
          · cases h
          match r2, h, hn1 with
          | [], h, _ => cases h
          | b :: r3, h, hn1 =>
            simp only at h
            split at h
            · cases h
            have h3 : r3 ≠ [] := fun e => by subst e; rw [textS] at h; cases h
            have := text_nl r3 _ _ h (((hn1.tail (by simp)).tail (by simp)).tail h3); simp only [List.length_cons]; omega
      · split at h
        · have h3 : r1 ≠ [] := fun e => by subst e; rw [textS] at h; cases h
          have := text_nl r1 _ _ h (hn1.tail h3); simp only [List.length_cons]; omega
        · cases h
theorem tw_app {P : UInt8 → Bool} (hP : P 10 = false) (B : List UInt8) : ∀ (R : List UInt8), Nl R → (R ++ B).takeWhile P = R.takeWhile P ∧ (R.takeWhile P).length < R.length
  | [], h => by obtain ⟨R0, e⟩ := h; simp at e
  | c :: r, h => by
    rw [List.cons_append, List.takeWhile_cons, List.takeWhile_cons]
    cases hc : P c with
    | false => simp
    | true =>
      have hr : r ≠ [] := fun e => by subst e; rw [h.ten] at hc; rw [hc] at hP; cases hP
      obtain ⟨i1, i2⟩ := tw_app hP B r (h.tail hr)
      simp only [if_true, List.length_cons]
      exact ⟨by rw [i1], by omega⟩
theorem next_app (B : List UInt8) {R : List UInt8} {k t n len} (h : nextS R = .tok k t n len) (hn : Nl R) : nextS (R ++ B) = .tok k t n len ∧ len < R.length := by
  cases R with
  | nil => cases h
  | cons c r =>
    rw [List.cons_append]
    simp only [nextS] at h ⊢
    split at h
    · rename_i hc
      rw [if_pos hc]
      obtain ⟨i1, i2⟩ := tw_app (P := nameC) (by decide) B _ hn
      unfold nameS at h ⊢
      rw [List.cons_append] at i1
      rw [i1]
      refine ⟨h, ?_⟩
      simp only [Nx.tok.injEq] at h
      omega
    rename_i hc
    rw [if_neg hc]
    split at h
    · rename_i hc
      rw [if_pos hc]
      obtain ⟨i1, i2⟩ := tw_app (P := fun c => digitB c.toNat) (by decide) B _ hn
      unfold numS at h ⊢
      rw [List.cons_append] at i1
      rw [i1]
      have e : (c :: (r ++ B))[((c :: r).takeWhile fun c => digitB c.toNat).length]? = (c :: r)[((c :: r).takeWhile fun c => digitB c.toNat).length]? := by
        rw [← List.cons_append, List.getElem?_append_left i2]
      simp only [e]
      refine ⟨h, ?_⟩
      simp only at h
      split at h
      · cases h
      split at h
      · cases h
      split at h
      · simp only [Nx.tok.injEq] at h; omega
      · cases h
    rename_i hc
    rw [if_neg hc]
    split at h
    · rename_i hc
      rw [if_pos hc]
      have hr : r ≠ [] := fun e => by subst e; rw [textS] at h; cases h
      have := text_nl r [] 1 h (hn.tail hr)
      exact ⟨text_app B r [] 1 h, by simp only [List.length_cons]; omega⟩
    · rename_i hc
      rw [if_neg hc]
      have hr : r ≠ [] := fun e => by
        subst e
        obtain rfl := hn.ten
        revert h
        simp [signS, sign1]
      have e : (r ++ B).head? = r.head? := by cases r with | nil => exact absurd rfl hr | cons d r => rfl
      unfold signS at h ⊢
      rw [e]
      refine ⟨h, ?_⟩
      have hl : 0 < r.length := List.length_pos_iff.2 hr
      split at h
      · rename_i h2
        have h1 : r ≠ [61] := fun e2 => by subst e2; have := (hn.tail (by simp)).ten; cases this
        have : 2 ≤ r.length := by
          match r, h1, h2 with
          | [], _, h2 => simp at h2
          | [d], h1, h2 => simp at h2; exact absurd (by rw [h2.1]) h1
          | _ :: _ :: _, _, _ => simp
        simp only [Nx.tok.injEq] at h
        simp; omega
      split at h
      · simp only [Nx.tok.injEq] at h
        simp; omega
      · cases h
/-- Text behind a text that ends with a line break -/
theorem lex_app (B : List UInt8) : ∀ (m : Nat) (R : List UInt8), R.length = m → (R = [] ∨ Nl R) → ∀ (p k : Nat) (l : List Tk), lexS R p k = .ok l →
    ∃ ts, l = ts ++ [⟨0, [], 0, p + R.length⟩] ∧ ts.length ≤ R.length ∧ lexS (R ++ B) p k = match lexS B (p + R.length) (k + ts.length) with | .ok l' => .ok (ts ++ l') | .error x => .error x := by
  intro m
  induction m using Nat.strongRecOn with
  | ind m ih =>
    rintro R rfl hR p k l h
    rcases hR with rfl | hn
    · rw [lexS_end rfl] at h
      cases h
      refine ⟨[], rfl, by simp, ?_⟩
      simp only [List.nil_append, List.length_nil, Nat.add_zero]
      cases lexS B p k <;> rfl
    · have hs := skip_app B false R hn
      by_cases e : skipN false R = R.length
      · rw [lexS_end (by rw [e]; simp)] at h
        cases h
        refine ⟨[], by rw [e]; rfl, by simp, ?_⟩
        rw [if_pos e] at hs
        simp only [List.nil_append, List.length_nil, Nat.add_zero]
        have hd : (R ++ B).drop (skipN false (R ++ B)) = B.drop (skipN false B) := by rw [hs, List.drop_append]; simp
        have key : lexS (R ++ B) p k = lexS B (p + R.length) k := by
          have e3 : p + skipN false (R ++ B) = p + R.length + skipN false B := by rw [hs]; omega
          cases hB : B.drop (skipN false B) with
          | nil => rw [lexS_end (hd.trans hB), lexS_end hB, e3]
          | cons c r =>
            by_cases hk : k = 16384
            · subst hk
              rw [lexS_many (by rw [hd, hB]; simp), lexS_many (by rw [hB]; simp), e3]
            cases hnx : nextS (c :: r) with
            | bad e2 off => rw [lexS_bad (hd.trans hB) hk hnx, lexS_bad hB hk hnx, e3]
            | tok kd t n len => rw [lexS_tok (hd.trans hB) hk hnx, lexS_tok hB hk hnx, e3]
        rw [key]
        cases lexS B (p + R.length) k <;> rfl
      · rw [if_neg e] at hs
        have hlt : skipN false R < R.length := by have := skipN_le false R; omega
        have hnd := hn.drop hlt
        obtain ⟨c, r, hcr⟩ : ∃ c r, R.drop (skipN false R) = c :: r := by
          cases hh : R.drop (skipN false R) with
          | nil => obtain ⟨R0, e2⟩ := hnd; rw [hh] at e2; simp at e2
          | cons c r => exact ⟨c, r, rfl⟩
        have hcr2 : (R ++ B).drop (skipN false (R ++ B)) = c :: (r ++ B) := by
          rw [hs, List.drop_append_of_le_length (by omega), hcr]; rfl
        by_cases hk : k = 16384
        · subst hk; rw [lexS_many (by rw [hcr]; simp)] at h; cases h
        cases hnx : nextS (c :: r) with
        | bad e2 off => rw [lexS_bad hcr hk hnx] at h; cases h
        | tok kd t n len =>
          rw [hcr] at hnd
          obtain ⟨hnx2, hlen⟩ := next_app B hnx hnd
          obtain ⟨hl1, _⟩ := nextS_len hnx
          rw [lexS_tok hcr hk hnx] at h
          rw [lexS_tok hcr2 hk hnx2]
          have hrl : R.length = skipN false R + 1 + r.length := by
            have := congrArg List.length hcr; simp at this; omega
          have hle : len - 1 ≤ r.length := by simp at hlen; omega
          have hrn : r.drop (len - 1) = [] ∨ Nl (r.drop (len - 1)) := by
            have : (c :: r).drop len = r.drop (len - 1) := by cases len with | zero => omega | succ j => rfl
            rw [← this]
            exact .inr (hnd.drop hlen)
          rw [List.drop_append_of_le_length hle]
          cases hrec : lexS (r.drop (len - 1)) (p + skipN false R + len) (k + 1) with
          | error x => rw [hrec] at h; cases h
          | ok l2 =>
            rw [hrec] at h
            cases h
            obtain ⟨ts, rfl, h1, h2⟩ := ih (r.drop (len - 1)).length (by simp; omega) _ rfl hrn _ _ _ hrec
            have hpos : p + skipN false R + len + (r.drop (len - 1)).length = p + R.length := by simp at hlen ⊢; omega
            rw [hpos] at h2
            refine ⟨⟨kd, t, n, p + skipN false R⟩ :: ts, by rw [hpos]; rfl, by simp at h1 ⊢; omega, ?_⟩
            rw [hs, h2]
            have : k + 1 + ts.length = k + (ts.length + 1) := by omega
            rw [this]
            simp only [List.length_cons]
            cases lexS B (p + R.length) (k + (ts.length + 1)) <;> rfl
def shiftT (q : Nat) (t : Tk) : Tk := { t with p := t.p + q }
def shiftR (q : Nat) : Except (Nat × Nat) (List Tk) → Except (Nat × Nat) (List Tk)
  | .ok l => .ok (l.map (shiftT q))
  | .error x => .error (x.1, x.2 + q)
theorem lex_shift (q : Nat) : ∀ (m : Nat) (R : List UInt8), R.length = m → ∀ (p k k' : Nat), k + R.length < 16384 → k' + R.length < 16384 → lexS R (p + q) k = shiftR q (lexS R p k') := by
  intro m
  induction m using Nat.strongRecOn with
  | ind m ih =>
    rintro R rfl p k k' hk hk'
    cases hcr : R.drop (skipN false R) with
    | nil => rw [lexS_end hcr, lexS_end hcr]; simp [shiftR, shiftT]; omega
    | cons c r =>
      have hrl : R.length = skipN false R + 1 + r.length := by
        have := congrArg List.length hcr
        have h3 := skipN_le false R
        simp at this; omega
      cases hnx : nextS (c :: r) with
      | bad e2 off => rw [lexS_bad hcr (by omega) hnx, lexS_bad hcr (by omega) hnx]; simp [shiftR]; omega
      | tok kd t n len =>
        rw [lexS_tok hcr (by omega) hnx, lexS_tok hcr (by omega) hnx]
        have := ih (r.drop (len - 1)).length (by simp; omega) _ rfl (p + skipN false R + len) (k + 1) (k' + 1) (by simp; omega) (by simp; omega)
        rw [show p + q + skipN false R + len = p + skipN false R + len + q by omega, this]
        cases lexS (r.drop (len - 1)) (p + skipN false R + len) (k' + 1) with
        | ok l => simp [shiftR, shiftT]; omega
        | error x => rfl
end Go.Proofs.YtcmndnkeoepmoaaDoor

namespace Go.Proofs.YtcmndnkeoepmoaaDoor
open Go Go.Abs Go.Proofs
set_option maxRecDepth 100000
set_option maxHeartbeats 4000000
set_option linter.unusedVariables false
set_option linter.unusedSimpArgs false
theorem lexS_len' : ∀ (m : Nat) (R : List UInt8), R.length = m → ∀ (p k : Nat) (l : List Tk), lexS R p k = .ok l → l.length ≤ R.length + 1 := by
  intro m
  induction m using Nat.strongRecOn with
  | ind m ih =>
    rintro R rfl p k l h
    cases hcr : R.drop (skipN false R) with
    | nil => rw [lexS_end hcr] at h; cases h; simp
    | cons c r =>
      have hrl : R.length = skipN false R + 1 + r.length := by
        have := congrArg List.length hcr
        have h3 := skipN_le false R
        simp at this; omega
      by_cases hk : k = 16384
      · subst hk; rw [lexS_many (by rw [hcr]; simp)] at h; cases h
      cases hnx : nextS (c :: r) with
      | bad e2 off => rw [lexS_bad hcr hk hnx] at h; cases h
      | tok kd t n len =>
        rw [lexS_tok hcr hk hnx] at h
        cases hrec : lexS (r.drop (len - 1)) (p + skipN false R + len) (k + 1) with
        | error x => rw [hrec] at h; cases h
        | ok l2 =>
          rw [hrec] at h
          cases h
          have := ih (r.drop (len - 1)).length (by simp; omega) _ rfl _ _ _ hrec
          simp at this ⊢; omega
theorem textS_off : ∀ (R out : List UInt8) (o : Nat) {e off}, textS R out o = .bad e off → off ≤ o + R.length
  | [], out, o, e, off, h => by rw [textS] at h; cases h; simp
  | c :: r, out, o, e, off, h => by
    unfold textS at h
    split at h
    · cases h; simp <;> omega
    split at h
    · cases h
    split at h
    · have := textS_off r _ _ h; simp only [List.length_cons]; omega
    match r, h with
    | [], h => cases h; simp
    | d :: r1, h =>
      simp only at h
      split at h
      · match r1, h with
        | [], h => cases h; simp
        | a :: r2, h =>
          simp only at h
          split at h
          · cases h; simp <;> omega
          match r2, h with
          | [], h => cases h; simp
          | b :: r3, h =>
            simp only at h
            split at h
            · cases h; simp <;> omega
            have := textS_off r3 _ _ h; simp only [List.length_cons]; omega
      · split at h
        · have := textS_off r1 _ _ h; simp only [List.length_cons]; omega
        · cases h; simp <;> omega
theorem nextS_off {c : UInt8} {r : List UInt8} {e off} (h : nextS (c :: r) = .bad e off) : off ≤ (c :: r).length := by
  simp only [nextS] at h
  split at h
  · cases h
  split at h
  · unfold numS at h
    simp only at h
    split at h
    · cases h; simp
    split at h
    · cases h; exact takeWhile_le _ _
    split at h
    · cases h
    · cases h; simp
  split at h
  · have := textS_off _ _ _ h; simp only [List.length_cons]; omega
  · unfold signS at h
    split at h
    · cases h
    split at h
    · cases h
    · cases h; split <;> simp
theorem lexS_err : ∀ (m : Nat) (R : List UInt8), R.length = m → ∀ (p k : Nat) (x : Nat × Nat), lexS R p k = .error x → x.1 ≠ 0 ∧ x.2 ≤ p + R.length + 1 := by
  intro m
  induction m using Nat.strongRecOn with
  | ind m ih =>
    rintro R rfl p k x h
    cases hcr : R.drop (skipN false R) with
    | nil => rw [lexS_end hcr] at h; cases h
    | cons c r =>
      have hrl : R.length = skipN false R + 1 + r.length := by
        have := congrArg List.length hcr
        have h3 := skipN_le false R
        simp at this; omega
      by_cases hk : k = 16384
      · subst hk; rw [lexS_many (by rw [hcr]; simp)] at h; cases h
        exact ⟨by simp, by simp only []; omega⟩
      cases hnx : nextS (c :: r) with
      | bad e2 off =>
        rw [lexS_bad hcr hk hnx] at h; cases h
        refine ⟨by rcases nextS_bad hnx with rfl | rfl <;> simp, ?_⟩
        have := nextS_off hnx
        simp only [List.length_cons] at this ⊢
        omega
      | tok kd t n len =>
        obtain ⟨hl1, hl2⟩ := nextS_len hnx
        rw [lexS_tok hcr hk hnx] at h
        cases hrec : lexS (r.drop (len - 1)) (p + skipN false R + len) (k + 1) with
        | ok l2 => rw [hrec] at h; cases h
        | error y =>
          rw [hrec] at h
          cases h
          have := ih (r.drop (len - 1)).length (by simp; omega) _ rfl _ _ _ hrec
          refine ⟨this.1, ?_⟩
          have h2 := this.2
          simp at h2 hl2 ⊢; omega
theorem lexS_pos : ∀ (m : Nat) (R : List UInt8), R.length = m → ∀ (p k : Nat) (l : List Tk), lexS R p k = .ok l → ∀ t ∈ l, t.p ≤ p + R.length := by
  intro m
  induction m using Nat.strongRecOn with
  | ind m ih =>
    rintro R rfl p k l h t ht
    have h3 := skipN_le false R
    cases hcr : R.drop (skipN false R) with
    | nil => rw [lexS_end hcr] at h; cases h; simp at ht; subst ht; simp only []; omega
    | cons c r =>
      have hrl : R.length = skipN false R + 1 + r.length := by
        have := congrArg List.length hcr
        simp at this; omega
      by_cases hk : k = 16384
      · subst hk; rw [lexS_many (by rw [hcr]; simp)] at h; cases h
      cases hnx : nextS (c :: r) with
      | bad e2 off => rw [lexS_bad hcr hk hnx] at h; cases h
      | tok kd tt n len =>
        obtain ⟨hl1, hl2⟩ := nextS_len hnx
        rw [lexS_tok hcr hk hnx] at h
        cases hrec : lexS (r.drop (len - 1)) (p + skipN false R + len) (k + 1) with
        | error x => rw [hrec] at h; cases h
        | ok l2 =>
          rw [hrec] at h
          cases h
          rcases List.mem_cons.1 ht with rfl | ht
          · simp only []; omega
          · have := ih (r.drop (len - 1)).length (by simp; omega) _ rfl _ _ _ hrec t ht
            simp at this hl2 ⊢; omega
theorem lexS_ne {R : List UInt8} {p k : Nat} (h : lexS R p k = .ok []) : False := by
  cases hcr : R.drop (skipN false R) with
  | nil => rw [lexS_end hcr] at h; cases h
  | cons c r =>
    by_cases hk : k = 16384
    · subst hk; rw [lexS_many (by rw [hcr]; simp)] at h; cases h
    cases hnx : nextS (c :: r) with
    | bad e2 off => rw [lexS_bad hcr hk hnx] at h; cases h
    | tok kd tt n len =>
      rw [lexS_tok hcr hk hnx] at h
      cases hrec : lexS (r.drop (len - 1)) (p + skipN false R + len) (k + 1) with
      | error x => rw [hrec] at h; cases h
      | ok l2 => rw [hrec] at h; cases h
theorem lexOut_gen {n : Nat} {res : Except (Nat × Nat) (List Tk)} {out : Out} (h : lexOut n res out) : ∃ (lv : V) (e p : Nat), out = .ret (.tup [lv, .int .i64 (e : Int), .int .i64 (p : Int)]) false ∧ (∃ l, Tx lv l) ∧
    ((∃ l, res = .ok l ∧ lv = .rsl (l.map tokV) ∧ e = 0 ∧ p = n) ∨ (∃ x, res = .error x ∧ lv = .nils ∧ e = x.1 ∧ p = x.2)) := by
  cases res with
  | ok l => exact ⟨_, 0, n, h, ⟨l, .inr rfl⟩, .inl ⟨l, rfl, rfl, rfl, rfl⟩⟩
  | error x => exact ⟨_, x.1, x.2, h, ⟨[], .inl ⟨rfl, rfl⟩⟩, .inr ⟨x, rfl, rfl, rfl, rfl⟩⟩
theorem lexLines_main {v0 v1 : List V} (h0 : Tv Tryd.prog 8 22 v0) (h1 : Tv Tryd.prog 8 22 v1) : wpCall (evW Tryd.prog notes) 6 [mkV (isAggT Tryd.prog 22) v0, mkV (isAggT Tryd.prog 22) v1] [] (fun out H' => out = .ret (.bool true) false) := by
  obtain ⟨xa, A, rfl, hA, _⟩ := open_bytes h0
  obtain ⟨xb, B, rfl, hB, _⟩ := open_bytes h1
  rw [ag22]
  have hx := hA.rd []
  have hy := hB.rd []
  refine runs f6 b6 r6 n6 _ _ ?_
  simp only [bodyOf, Tryd.f6, Option.getD_some]
  simp only [mkV, List.headD_cons]
  simp only [WW, partV, eqCells, eqLf, minV, maxV, ifcV, zaa, zab, zac, zad, zae, zaf, zag, zah, zai, ofConst, ofConst1, List.replicate, zaj, zak, loadOp, Go.Abs.loadCells, binV, zal, pickV, zam, zan, zao, zap, zaq, zar, zas, zat, zau, outR, resAll, resOne, zav, zaw, zax, zay, zaz, zba, zbb, zbc, zbd, zbe, zbf, zbg, zbh, zbi, zbj, zbk, storeOp, storeCell, overlay, zbl, zbm, zbn, lookupOp, keyT, okRes, mapUpdateOp, zbo, zbp, zbq, zbr, zbs, zbt, zbu, Nat.reduceSub, Nat.reduceAdd, Int.reduceLT, Int.reduceLE, Int.reduceAdd, Int.reduceSub, Int.reduceToNat, Int.reduceBEq, Int.reduceBNe, Int.reduceMul, Nat.reduceBEq, Nat.reduceBNe, Nat.reduceLT, Nat.reduceLeDiff, Nat.reduceMul, Nat.reduceEqDiff, WD, effB, effH, isPriv, isHeap, isImm, zbx, zby, zbz, chkO, setD, dslot, zca, zcb, zcc, zcd, ptrCells_some, F6, hx.shutIn, hx.len, hy.shutIn, hy.len, by8_len]
  by_cases hbig : 3000 < A.length ∨ 3000 < B.length
  · cases g1 : decide ((3000 : Int) < (A.length : Int)) with
    | true =>
      simp only [WW, partV, eqCells, eqLf, minV, maxV, ifcV, zaa, zab, zac, zad, zae, zaf, zag, zah, zai, ofConst, ofConst1, List.replicate, zaj, zak, loadOp, Go.Abs.loadCells, binV, zal, pickV, zam, zan, zao, zap, zaq, zar, zas, zat, zau, outR, resAll, resOne, zav, zaw, zax, zay, zaz, zba, zbb, zbc, zbd, zbe, zbf, zbg, zbh, zbi, zbj, zbk, storeOp, storeCell, overlay, zbl, zbm, zbn, lookupOp, keyT, okRes, mapUpdateOp, zbo, zbp, zbq, zbr, zbs, zbt, zbu, Nat.reduceSub, Nat.reduceAdd, Int.reduceLT, Int.reduceLE, Int.reduceAdd, Int.reduceSub, Int.reduceToNat, Int.reduceBEq, Int.reduceBNe, Int.reduceMul, Nat.reduceBEq, Nat.reduceBNe, Nat.reduceLT, Nat.reduceLeDiff, Nat.reduceMul, Nat.reduceEqDiff, WD, effB, effH, isPriv, isHeap, isImm, zbx, zby, zbz, chkO, setD, dslot, zca, zcb, zcc, zcd, ptrCells_some, F6]
      rw [wpCall_eq (live_eq _)]
      simp only [WW, partV, eqCells, eqLf, minV, maxV, ifcV, zaa, zab, zac, zad, zae, zaf, zag, zah, zai, ofConst, ofConst1, List.replicate, zaj, zak, loadOp, Go.Abs.loadCells, binV, zal, pickV, zam, zan, zao, zap, zaq, zar, zas, zat, zau, outR, resAll, resOne, zav, zaw, zax, zay, zaz, zba, zbb, zbc, zbd, zbe, zbf, zbg, zbh, zbi, zbj, zbk, storeOp, storeCell, overlay, zbl, zbm, zbn, lookupOp, keyT, okRes, mapUpdateOp, zbo, zbp, zbq, zbr, zbs, zbt, zbu, Nat.reduceSub, Nat.reduceAdd, Int.reduceLT, Int.reduceLE, Int.reduceAdd, Int.reduceSub, Int.reduceToNat, Int.reduceBEq, Int.reduceBNe, Int.reduceMul, Nat.reduceBEq, Nat.reduceBNe, Nat.reduceLT, Nat.reduceLeDiff, Nat.reduceMul, Nat.reduceEqDiff, WD, effB, effH, isPriv, isHeap, isImm, zbx, zby, zbz, chkO, setD, dslot, zca, zcb, zcc, zcd, ptrCells_some, F6]
    | false =>
      have g2 : decide ((3000 : Int) < (B.length : Int)) = true := decide_eq_true (by have := of_decide_eq_false g1; omega)
      simp only [WW, partV, eqCells, eqLf, minV, maxV, ifcV, zaa, zab, zac, zad, zae, zaf, zag, zah, zai, ofConst, ofConst1, List.replicate, zaj, zak, loadOp, Go.Abs.loadCells, binV, zal, pickV, zam, zan, zao, zap, zaq, zar, zas, zat, zau, outR, resAll, resOne, zav, zaw, zax, zay, zaz, zba, zbb, zbc, zbd, zbe, zbf, zbg, zbh, zbi, zbj, zbk, storeOp, storeCell, overlay, zbl, zbm, zbn, lookupOp, keyT, okRes, mapUpdateOp, zbo, zbp, zbq, zbr, zbs, zbt, zbu, Nat.reduceSub, Nat.reduceAdd, Int.reduceLT, Int.reduceLE, Int.reduceAdd, Int.reduceSub, Int.reduceToNat, Int.reduceBEq, Int.reduceBNe, Int.reduceMul, Nat.reduceBEq, Nat.reduceBNe, Nat.reduceLT, Nat.reduceLeDiff, Nat.reduceMul, Nat.reduceEqDiff, WD, effB, effH, isPriv, isHeap, isImm, zbx, zby, zbz, chkO, setD, dslot, zca, zcb, zcc, zcd, ptrCells_some, F6, hy.shutIn, hy.len, by8_len, g2]
      rw [wpCall_eq (live_eq _)]
      simp only [WW, partV, eqCells, eqLf, minV, maxV, ifcV, zaa, zab, zac, zad, zae, zaf, zag, zah, zai, ofConst, ofConst1, List.replicate, zaj, zak, loadOp, Go.Abs.loadCells, binV, zal, pickV, zam, zan, zao, zap, zaq, zar, zas, zat, zau, outR, resAll, resOne, zav, zaw, zax, zay, zaz, zba, zbb, zbc, zbd, zbe, zbf, zbg, zbh, zbi, zbj, zbk, storeOp, storeCell, overlay, zbl, zbm, zbn, lookupOp, keyT, okRes, mapUpdateOp, zbo, zbp, zbq, zbr, zbs, zbt, zbu, Nat.reduceSub, Nat.reduceAdd, Int.reduceLT, Int.reduceLE, Int.reduceAdd, Int.reduceSub, Int.reduceToNat, Int.reduceBEq, Int.reduceBNe, Int.reduceMul, Nat.reduceBEq, Nat.reduceBNe, Nat.reduceLT, Nat.reduceLeDiff, Nat.reduceMul, Nat.reduceEqDiff, WD, effB, effH, isPriv, isHeap, isImm, zbx, zby, zbz, chkO, setD, dslot, zca, zcb, zcc, zcd, ptrCells_some, F6]
  · have hAl : A.length ≤ 3000 := by omega
    have hBl : B.length ≤ 3000 := by omega
    have g1 : decide ((3000 : Int) < (A.length : Int)) = false := decide_eq_false (by omega)
    have g2 : decide ((3000 : Int) < (B.length : Int)) = false := decide_eq_false (by omega)
    have hw0 : wideAll [] 1 = true := rfl
    have hw10 : wideAll [V.int .u8 10] 1 = true := rfl
    have hwA := wide_by8 A
    have hwB := wide_by8 B
    have a1 : decide (A.length * 1 ≤ 70368744177664) = true := by simp; omega
    have a2 : decide (A.length ≤ 4611686018427387904) = true := by simp; omega
    have a3 : decide ((A.length + 1) * 1 ≤ 70368744177664) = true := by simp; omega
    have a4 : decide (A.length ≤ 4611686018427387903) = true := by simp; omega
    simp only [WW, partV, eqCells, eqLf, minV, maxV, ifcV, zaa, zab, zac, zad, zae, zaf, zag, zah, zai, ofConst, ofConst1, List.replicate, zaj, zak, loadOp, Go.Abs.loadCells, binV, zal, pickV, zam, zan, zao, zap, zaq, zar, zas, zat, zau, outR, resAll, resOne, zav, zaw, zax, zay, zaz, zba, zbb, zbc, zbd, zbe, zbf, zbg, zbh, zbi, zbj, zbk, storeOp, storeCell, overlay, zbl, zbm, zbn, lookupOp, keyT, okRes, mapUpdateOp, zbo, zbp, zbq, zbr, zbs, zbt, zbu, Nat.reduceSub, Nat.reduceAdd, Int.reduceLT, Int.reduceLE, Int.reduceAdd, Int.reduceSub, Int.reduceToNat, Int.reduceBEq, Int.reduceBNe, Int.reduceMul, Nat.reduceBEq, Nat.reduceBNe, Nat.reduceLT, Nat.reduceLeDiff, Nat.reduceMul, Nat.reduceEqDiff, WD, effB, effH, isPriv, isHeap, isImm, zbx, zby, zbz, chkO, setD, dslot, zca, zcb, zcc, zcd, ptrCells_some, F6, g1, g2, hx.shutIn, hx.srcSl, hy.shutIn, hy.len, by8_len, buildSliceV, lits, srcV_eq, srcK_sl, srcK_str, srcSl_nils, srcSl_rsl, srcSl_sl, appendOp, frow, zbv, zbw, List.all_nil, List.all_cons, rowV, Bool.false_and, Bool.and_false, ne_eq, not_false_eq_true, grows_lr, callOut_t, hw0, hw10, hwA, a1, a2, a3, a4]
    obtain ⟨F, hF⟩ : ∃ F, F = A ++ [10] := ⟨_, rfl⟩
    have hFl : F.length = A.length + 1 := by rw [hF]; simp
    have hF8 : by8 A ++ [V.int .u8 10] = by8 F := by rw [hF]; simp [by8, byteV]
    rw [hF8, ← hFl]
    have htF : List.take F.length (by8 F) = by8 F := List.take_of_length_le (Nat.le_of_eq (by8_len _))
    simp only [htF]
    refine wpCall_of (lex_spec (L := F) (.inl (.inr rfl)) (by omega)) ?_
    intro out H1 hres1
    obtain ⟨v1, e1, p1, rfl, ⟨l1, ht1⟩, hc1⟩ := lexOut_gen hres1
    have hs1 := (ht1.rd []).shutIn
    simp only [WW, partV, eqCells, eqLf, minV, maxV, ifcV, zaa, zab, zac, zad, zae, zaf, zag, zah, zai, ofConst, ofConst1, List.replicate, zaj, zak, loadOp, Go.Abs.loadCells, binV, zal, pickV, zam, zan, zao, zap, zaq, zar, zas, zat, zau, outR, resAll, resOne, zav, zaw, zax, zay, zaz, zba, zbb, zbc, zbd, zbe, zbf, zbg, zbh, zbi, zbj, zbk, storeOp, storeCell, overlay, zbl, zbm, zbn, lookupOp, keyT, okRes, mapUpdateOp, zbo, zbp, zbq, zbr, zbs, zbt, zbu, Nat.reduceSub, Nat.reduceAdd, Int.reduceLT, Int.reduceLE, Int.reduceAdd, Int.reduceSub, Int.reduceToNat, Int.reduceBEq, Int.reduceBNe, Int.reduceMul, Nat.reduceBEq, Nat.reduceBNe, Nat.reduceLT, Nat.reduceLeDiff, Nat.reduceMul, Nat.reduceEqDiff, WD, effB, effH, isPriv, isHeap, isImm, zbx, zby, zbz, chkO, setD, dslot, zca, zcb, zcc, zcd, ptrCells_some, F6, hs1, hy.shutIn]
    refine wpCall_of (lex_spec (L := B) (.inl hB) (by omega)) ?_
    intro out H2 hres2
    obtain ⟨v2, e2, p2, rfl, ⟨l2, ht2⟩, hc2⟩ := lexOut_gen hres2
    have hs2 := (ht2.rd []).shutIn
    have hFB8 : by8 F ++ by8 B = by8 (F ++ B) := by simp [by8]
    have hwF := wide_by8 F
    have b1 : decide (F.length * 1 ≤ 70368744177664) = true := by simp; omega
    have b2 : decide (F.length ≤ 4611686018427387904) = true := by simp; omega
    have b3 : decide ((F.length + B.length) * 1 ≤ 70368744177664) = true := by simp; omega
    have b4 : decide (F.length + B.length ≤ 4611686018427387904) = true := by simp; omega
    have hsrcB := fun H => (hB.rd H).srcSl
    have htF2 : List.take F.length (by8 F) = by8 F := htF
    simp only [WW, partV, eqCells, eqLf, minV, maxV, ifcV, zaa, zab, zac, zad, zae, zaf, zag, zah, zai, ofConst, ofConst1, List.replicate, zaj, zak, loadOp, Go.Abs.loadCells, binV, zal, pickV, zam, zan, zao, zap, zaq, zar, zas, zat, zau, outR, resAll, resOne, zav, zaw, zax, zay, zaz, zba, zbb, zbc, zbd, zbe, zbf, zbg, zbh, zbi, zbj, zbk, storeOp, storeCell, overlay, zbl, zbm, zbn, lookupOp, keyT, okRes, mapUpdateOp, zbo, zbp, zbq, zbr, zbs, zbt, zbu, Nat.reduceSub, Nat.reduceAdd, Int.reduceLT, Int.reduceLE, Int.reduceAdd, Int.reduceSub, Int.reduceToNat, Int.reduceBEq, Int.reduceBNe, Int.reduceMul, Nat.reduceBEq, Nat.reduceBNe, Nat.reduceLT, Nat.reduceLeDiff, Nat.reduceMul, Nat.reduceEqDiff, WD, effB, effH, isPriv, isHeap, isImm, zbx, zby, zbz, chkO, setD, dslot, zca, zcb, zcc, zcd, ptrCells_some, F6, hs2, hs1, hy.shutIn, buildSliceV, lits, srcV_eq, srcK_sl, srcK_str, srcSl_nils, srcSl_rsl, srcSl_sl, frow, zbv, zbw, List.all_nil, List.all_cons, rowV, Bool.false_and, Bool.and_false, ne_eq, not_false_eq_true, grows_lr, callOut_t, appendOp, hsrcB, hw0, hwF, hwB, by8_len, htF2, b1, b2, b3, b4, hFB8]
    have hFBl : F.length + B.length = (F ++ B).length := by simp
    rw [hFBl]
    have htFB : List.take (F ++ B).length (by8 (F ++ B)) = by8 (F ++ B) := List.take_of_length_le (Nat.le_of_eq (by8_len _))
    simp only [htFB]
    refine wpCall_of (lex_spec (L := F ++ B) (.inl (.inr rfl)) (by simp; omega)) ?_
    intro out H3 hres3
    obtain ⟨v3, e3, p3, rfl, ⟨l3, ht3⟩, hc3⟩ := lexOut_gen hres3
    have hs3 := (ht3.rd []).shutIn
    simp only [WW, partV, eqCells, eqLf, minV, maxV, ifcV, zaa, zab, zac, zad, zae, zaf, zag, zah, zai, ofConst, ofConst1, List.replicate, zaj, zak, loadOp, Go.Abs.loadCells, binV, zal, pickV, zam, zan, zao, zap, zaq, zar, zas, zat, zau, outR, resAll, resOne, zav, zaw, zax, zay, zaz, zba, zbb, zbc, zbd, zbe, zbf, zbg, zbh, zbi, zbj, zbk, storeOp, storeCell, overlay, zbl, zbm, zbn, lookupOp, keyT, okRes, mapUpdateOp, zbo, zbp, zbq, zbr, zbs, zbt, zbu, Nat.reduceSub, Nat.reduceAdd, Int.reduceLT, Int.reduceLE, Int.reduceAdd, Int.reduceSub, Int.reduceToNat, Int.reduceBEq, Int.reduceBNe, Int.reduceMul, Nat.reduceBEq, Nat.reduceBNe, Nat.reduceLT, Nat.reduceLeDiff, Nat.reduceMul, Nat.reduceEqDiff, WD, effB, effH, isPriv, isHeap, isImm, zbx, zby, zbz, chkO, setD, dslot, zca, zcb, zcc, zcd, ptrCells_some, F6, hs3, hs2, hs1]
    rw [wpCall_eq (num_eq _ _)]
    have hnl : Nl F := ⟨A, hF⟩
    rcases hc1 with ⟨la, hla, rfl, rfl, rfl⟩ | ⟨x, hx1, rfl, rfl, rfl⟩
    rotate_left
    · -- a fault in the first part
      have hne := (lexS_err _ _ rfl _ _ _ hx1).1
      have hb : (((x.1 : Nat) : Int) != 0) = true := by simp; exact hne
      simp only [WW, partV, eqCells, eqLf, minV, maxV, ifcV, zaa, zab, zac, zad, zae, zaf, zag, zah, zai, ofConst, ofConst1, List.replicate, zaj, zak, loadOp, Go.Abs.loadCells, binV, zal, pickV, zam, zan, zao, zap, zaq, zar, zas, zat, zau, outR, resAll, resOne, zav, zaw, zax, zay, zaz, zba, zbb, zbc, zbd, zbe, zbf, zbg, zbh, zbi, zbj, zbk, storeOp, storeCell, overlay, zbl, zbm, zbn, lookupOp, keyT, okRes, mapUpdateOp, zbo, zbp, zbq, zbr, zbs, zbt, zbu, Nat.reduceSub, Nat.reduceAdd, Int.reduceLT, Int.reduceLE, Int.reduceAdd, Int.reduceSub, Int.reduceToNat, Int.reduceBEq, Int.reduceBNe, Int.reduceMul, Nat.reduceBEq, Nat.reduceBNe, Nat.reduceLT, Nat.reduceLeDiff, Nat.reduceMul, Nat.reduceEqDiff, WD, effB, effH, isPriv, isHeap, isImm, zbx, zby, zbz, chkO, setD, dslot, zca, zcb, zcc, zcd, ptrCells_some, F6, hb]
      rw [wpCall_eq (num_eq _ _)]
      simp only [WW, partV, eqCells, eqLf, minV, maxV, ifcV, zaa, zab, zac, zad, zae, zaf, zag, zah, zai, ofConst, ofConst1, List.replicate, zaj, zak, loadOp, Go.Abs.loadCells, binV, zal, pickV, zam, zan, zao, zap, zaq, zar, zas, zat, zau, outR, resAll, resOne, zav, zaw, zax, zay, zaz, zba, zbb, zbc, zbd, zbe, zbf, zbg, zbh, zbi, zbj, zbk, storeOp, storeCell, overlay, zbl, zbm, zbn, lookupOp, keyT, okRes, mapUpdateOp, zbo, zbp, zbq, zbr, zbs, zbt, zbu, Nat.reduceSub, Nat.reduceAdd, Int.reduceLT, Int.reduceLE, Int.reduceAdd, Int.reduceSub, Int.reduceToNat, Int.reduceBEq, Int.reduceBNe, Int.reduceMul, Nat.reduceBEq, Nat.reduceBNe, Nat.reduceLT, Nat.reduceLeDiff, Nat.reduceMul, Nat.reduceEqDiff, WD, effB, effH, isPriv, isHeap, isImm, zbx, zby, zbz, chkO, setD, dslot, zca, zcb, zcc, zcd, ptrCells_some, F6, hb]
      rw [wpCall_eq (live_eq _)]
      simp only [WW, partV, eqCells, eqLf, minV, maxV, ifcV, zaa, zab, zac, zad, zae, zaf, zag, zah, zai, ofConst, ofConst1, List.replicate, zaj, zak, loadOp, Go.Abs.loadCells, binV, zal, pickV, zam, zan, zao, zap, zaq, zar, zas, zat, zau, outR, resAll, resOne, zav, zaw, zax, zay, zaz, zba, zbb, zbc, zbd, zbe, zbf, zbg, zbh, zbi, zbj, zbk, storeOp, storeCell, overlay, zbl, zbm, zbn, lookupOp, keyT, okRes, mapUpdateOp, zbo, zbp, zbq, zbr, zbs, zbt, zbu, Nat.reduceSub, Nat.reduceAdd, Int.reduceLT, Int.reduceLE, Int.reduceAdd, Int.reduceSub, Int.reduceToNat, Int.reduceBEq, Int.reduceBNe, Int.reduceMul, Nat.reduceBEq, Nat.reduceBNe, Nat.reduceLT, Nat.reduceLeDiff, Nat.reduceMul, Nat.reduceEqDiff, WD, effB, effH, isPriv, isHeap, isImm, zbx, zby, zbz, chkO, setD, dslot, zca, zcb, zcc, zcd, ptrCells_some, F6]
    · obtain ⟨ts, rfl, htsl, happ⟩ := lex_app B _ F rfl (.inr hnl) 0 0 la hla
      simp only [Nat.zero_add] at happ
      have hz : (((0 : Nat) : Int) != 0) = false := rfl
      obtain ⟨T1, hT1⟩ : ∃ T1, T1 = ts ++ [(⟨0, [], 0, 0 + F.length⟩ : Tk)] := ⟨_, rfl⟩
      rw [← hT1]
      have hlen1 : ((T1.length : Nat) : Int) = ((ts.length + 1 : Nat) : Int) := by rw [hT1]; simp
      have hne1 : (((ts.length + 1 : Nat) : Int) == 0) = false := by rw [beq_eq_false_iff_ne]; omega
      simp only [WW, partV, eqCells, eqLf, minV, maxV, ifcV, zaa, zab, zac, zad, zae, zaf, zag, zah, zai, ofConst, ofConst1, List.replicate, zaj, zak, loadOp, Go.Abs.loadCells, binV, zal, pickV, zam, zan, zao, zap, zaq, zar, zas, zat, zau, outR, resAll, resOne, zav, zaw, zax, zay, zaz, zba, zbb, zbc, zbd, zbe, zbf, zbg, zbh, zbi, zbj, zbk, storeOp, storeCell, overlay, zbl, zbm, zbn, lookupOp, keyT, okRes, mapUpdateOp, zbo, zbp, zbq, zbr, zbs, zbt, zbu, Nat.reduceSub, Nat.reduceAdd, Int.reduceLT, Int.reduceLE, Int.reduceAdd, Int.reduceSub, Int.reduceToNat, Int.reduceBEq, Int.reduceBNe, Int.reduceMul, Nat.reduceBEq, Nat.reduceBNe, Nat.reduceLT, Nat.reduceLeDiff, Nat.reduceMul, Nat.reduceEqDiff, WD, effB, effH, isPriv, isHeap, isImm, zbx, zby, zbz, chkO, setD, dslot, zca, zcb, zcc, zcd, ptrCells_some, F6, hz, hlen1, hne1]
      have hsh := lex_shift F.length _ B rfl 0 ts.length 0 (by omega) (by omega)
      rw [Nat.zero_add] at hsh
      rw [wpCall_eq (num_eq _ _)]
      rcases hc2 with ⟨lb, hlb, rfl, rfl, rfl⟩ | ⟨y, hy1, rfl, rfl, rfl⟩
      rotate_left
      · -- a fault in the second
        have hne := lexS_err _ _ rfl _ _ _ hy1
        have hb : (((y.1 : Nat) : Int) != 0) = true := by simp; exact hne.1
        rw [hsh, hy1] at happ
        simp only [shiftR] at happ
        rcases hc3 with ⟨lc, hlc, _⟩ | ⟨z, hz1, rfl, rfl, rfl⟩
        · rw [happ] at hlc; cases hlc
        · rw [happ] at hz1; cases hz1
          have hpw : IntKind.i64.wrap ((y.2 : Int) + (F.length : Int)) = ((y.2 + F.length : Nat) : Int) := by rw [IntWalk.i64_in _ (by omega)]; omega
          simp only [WW, partV, eqCells, eqLf, minV, maxV, ifcV, zaa, zab, zac, zad, zae, zaf, zag, zah, zai, ofConst, ofConst1, List.replicate, zaj, zak, loadOp, Go.Abs.loadCells, binV, zal, pickV, zam, zan, zao, zap, zaq, zar, zas, zat, zau, outR, resAll, resOne, zav, zaw, zax, zay, zaz, zba, zbb, zbc, zbd, zbe, zbf, zbg, zbh, zbi, zbj, zbk, storeOp, storeCell, overlay, zbl, zbm, zbn, lookupOp, keyT, okRes, mapUpdateOp, zbo, zbp, zbq, zbr, zbs, zbt, zbu, Nat.reduceSub, Nat.reduceAdd, Int.reduceLT, Int.reduceLE, Int.reduceAdd, Int.reduceSub, Int.reduceToNat, Int.reduceBEq, Int.reduceBNe, Int.reduceMul, Nat.reduceBEq, Nat.reduceBNe, Nat.reduceLT, Nat.reduceLeDiff, Nat.reduceMul, Nat.reduceEqDiff, WD, effB, effH, isPriv, isHeap, isImm, zbx, zby, zbz, chkO, setD, dslot, zca, zcb, zcc, zcd, ptrCells_some, F6, hb]
          rw [wpCall_eq (num_eq _ _)]
          simp only [WW, partV, eqCells, eqLf, minV, maxV, ifcV, zaa, zab, zac, zad, zae, zaf, zag, zah, zai, ofConst, ofConst1, List.replicate, zaj, zak, loadOp, Go.Abs.loadCells, binV, zal, pickV, zam, zan, zao, zap, zaq, zar, zas, zat, zau, outR, resAll, resOne, zav, zaw, zax, zay, zaz, zba, zbb, zbc, zbd, zbe, zbf, zbg, zbh, zbi, zbj, zbk, storeOp, storeCell, overlay, zbl, zbm, zbn, lookupOp, keyT, okRes, mapUpdateOp, zbo, zbp, zbq, zbr, zbs, zbt, zbu, Nat.reduceSub, Nat.reduceAdd, Int.reduceLT, Int.reduceLE, Int.reduceAdd, Int.reduceSub, Int.reduceToNat, Int.reduceBEq, Int.reduceBNe, Int.reduceMul, Nat.reduceBEq, Nat.reduceBNe, Nat.reduceLT, Nat.reduceLeDiff, Nat.reduceMul, Nat.reduceEqDiff, WD, effB, effH, isPriv, isHeap, isImm, zbx, zby, zbz, chkO, setD, dslot, zca, zcb, zcc, zcd, ptrCells_some, F6]
          rw [wpCall_eq (num_eq _ _)]
          simp only [WW, partV, eqCells, eqLf, minV, maxV, ifcV, zaa, zab, zac, zad, zae, zaf, zag, zah, zai, ofConst, ofConst1, List.replicate, zaj, zak, loadOp, Go.Abs.loadCells, binV, zal, pickV, zam, zan, zao, zap, zaq, zar, zas, zat, zau, outR, resAll, resOne, zav, zaw, zax, zay, zaz, zba, zbb, zbc, zbd, zbe, zbf, zbg, zbh, zbi, zbj, zbk, storeOp, storeCell, overlay, zbl, zbm, zbn, lookupOp, keyT, okRes, mapUpdateOp, zbo, zbp, zbq, zbr, zbs, zbt, zbu, Nat.reduceSub, Nat.reduceAdd, Int.reduceLT, Int.reduceLE, Int.reduceAdd, Int.reduceSub, Int.reduceToNat, Int.reduceBEq, Int.reduceBNe, Int.reduceMul, Nat.reduceBEq, Nat.reduceBNe, Nat.reduceLT, Nat.reduceLeDiff, Nat.reduceMul, Nat.reduceEqDiff, WD, effB, effH, isPriv, isHeap, isImm, zbx, zby, zbz, chkO, setD, dslot, zca, zcb, zcc, zcd, ptrCells_some, F6, rowV, htF, by8_len, Bool.false_and, hpw]
          rw [wpCall_eq (live_eq _)]
          simp only [WW, partV, eqCells, eqLf, minV, maxV, ifcV, zaa, zab, zac, zad, zae, zaf, zag, zah, zai, ofConst, ofConst1, List.replicate, zaj, zak, loadOp, Go.Abs.loadCells, binV, zal, pickV, zam, zan, zao, zap, zaq, zar, zas, zat, zau, outR, resAll, resOne, zav, zaw, zax, zay, zaz, zba, zbb, zbc, zbd, zbe, zbf, zbg, zbh, zbi, zbj, zbk, storeOp, storeCell, overlay, zbl, zbm, zbn, lookupOp, keyT, okRes, mapUpdateOp, zbo, zbp, zbq, zbr, zbs, zbt, zbu, Nat.reduceSub, Nat.reduceAdd, Int.reduceLT, Int.reduceLE, Int.reduceAdd, Int.reduceSub, Int.reduceToNat, Int.reduceBEq, Int.reduceBNe, Int.reduceMul, Nat.reduceBEq, Nat.reduceBNe, Nat.reduceLT, Nat.reduceLeDiff, Nat.reduceMul, Nat.reduceEqDiff, WD, effB, effH, isPriv, isHeap, isImm, zbx, zby, zbz, chkO, setD, dslot, zca, zcb, zcc, zcd, ptrCells_some, F6]
      · rw [hsh, hlb] at happ
        simp only [shiftR] at happ
        rcases hc3 with ⟨lc, hlc, rfl, rfl, rfl⟩ | ⟨z, hz1, _⟩
        rotate_left
        · rw [happ] at hz1; cases hz1
        rw [happ] at hlc; cases hlc
        have hbl := lexS_len' _ _ rfl _ _ _ hlb
        have hw4 := tok_wide ts
        have hsl : ∀ (st : St) (H : Hp), sliceOp Tryd.prog st H 24 (.rsl (T1.map tokV)) none (some (.int .i64 ((ts.length : Nat) : Int))) none = some (.rsl (ts.map tokV)) := fun st H => by
          have k24 : ixT Tryd.prog 24 = .sl 36 := by kernel_rfl
          have k36 : sizeT Tryd.prog 36 = 4 := by kernel_rfl
          have hw := tok_wide T1
          simp only [sliceOp, k24, sealV, viewV, boundV, k36, hw, Option.bind_some]
          rw [hT1]
          simp
        have hw1 : IntKind.i64.wrap (((ts.length + 1 : Nat) : Int) - 1) = ((ts.length : Nat) : Int) := by rw [IntWalk.i64_in _ (by omega)]; omega
        have c1 : decide (ts.length * 40 ≤ 70368744177664) = true := by simp; omega
        have c2 : decide (ts.length ≤ 4611686018427387904) = true := by simp; omega
        have hz2 : (((0 : Nat) : Int)) = 0 := rfl
        have hz3 : ((0 : Int) != 0) = false := rfl
        have hsrc4 : ∀ (H : Hp), srcSl H (.rsl (ts.map tokV)) = some (ts.map tokV) := fun _ => rfl
        simp only [WW, partV, eqCells, eqLf, minV, maxV, ifcV, zaa, zab, zac, zad, zae, zaf, zag, zah, zai, ofConst, ofConst1, List.replicate, zaj, zak, loadOp, Go.Abs.loadCells, binV, zal, pickV, zam, zan, zao, zap, zaq, zar, zas, zat, zau, outR, resAll, resOne, zav, zaw, zax, zay, zaz, zba, zbb, zbc, zbd, zbe, zbf, zbg, zbh, zbi, zbj, zbk, storeOp, storeCell, overlay, zbl, zbm, zbn, lookupOp, keyT, okRes, mapUpdateOp, zbo, zbp, zbq, zbr, zbs, zbt, zbu, Nat.reduceSub, Nat.reduceAdd, Int.reduceLT, Int.reduceLE, Int.reduceAdd, Int.reduceSub, Int.reduceToNat, Int.reduceBEq, Int.reduceBNe, Int.reduceMul, Nat.reduceBEq, Nat.reduceBNe, Nat.reduceLT, Nat.reduceLeDiff, Nat.reduceMul, Nat.reduceEqDiff, WD, effB, effH, isPriv, isHeap, isImm, zbx, zby, zbz, chkO, setD, dslot, zca, zcb, zcc, zcd, ptrCells_some, F6, hz, hz2, hz3, hlen1, hw1, hsl, Option.map_none, buildSliceV, lits, srcV_eq, srcK_sl, srcK_str, srcSl_nils, srcSl_rsl, srcSl_sl, frow, zbv, zbw, List.all_nil, List.all_cons, rowV, Bool.false_and, Bool.and_false, ne_eq, not_false_eq_true, grows_lr, callOut_t, appendOp, hw4, c1, c2]
        have hz4 : (((0 : Nat) : Int)) = 0 := rfl
        refine wC_loop _ (fun k st' H' => ∃ i : Nat, st' = ⟨L6_14 (.v (.lr 0 F.length)) (.v (.rsl (lb.map tokV))) (.v (.rsl ((ts ++ lb.map (shiftT F.length)).map tokV))) (.v (.int .i64 0)) (.v (.lr 3 (ts ++ (lb.take i).map (shiftT F.length)).length)) (.v (.int .i64 (i : Int))), [], [⟨true, false, by8 F⟩, ⟨true, false, [.int .u8 10]⟩, ⟨true, false, by8 (F ++ B)⟩, ⟨true, true, (ts ++ (lb.take i).map (shiftT F.length)).map tokV⟩]⟩ ∧ i ≤ lb.length ∧ k = lb.length - i) lb.length ⟨0, ?_, by omega, rfl⟩ ?_
        · simp only [WN, firstReg, growAll, zbv, zbw, norm, killS, zag, zah, zaa, zab, zbl, zat, zad, growOne, zae, zaf, zac, zas, zak, Nat.reduceLT, Nat.reduceAdd, zbj, zav, F6, L6_14, List.take_zero, List.map_nil, List.append_nil]
          try rfl
        · rintro k st' H' ⟨i, rfl, hi, rfl⟩
          simp only [L6_14]
          simp only [WW, partV, eqCells, eqLf, minV, maxV, ifcV, zaa, zab, zac, zad, zae, zaf, zag, zah, zai, ofConst, ofConst1, List.replicate, zaj, zak, loadOp, Go.Abs.loadCells, binV, zal, pickV, zam, zan, zao, zap, zaq, zar, zas, zat, zau, outR, resAll, resOne, zav, zaw, zax, zay, zaz, zba, zbb, zbc, zbd, zbe, zbf, zbg, zbh, zbi, zbj, zbk, storeOp, storeCell, overlay, zbl, zbm, zbn, lookupOp, keyT, okRes, mapUpdateOp, zbo, zbp, zbq, zbr, zbs, zbt, zbu, Nat.reduceSub, Nat.reduceAdd, Int.reduceLT, Int.reduceLE, Int.reduceAdd, Int.reduceSub, Int.reduceToNat, Int.reduceBEq, Int.reduceBNe, Int.reduceMul, Nat.reduceBEq, Nat.reduceBNe, Nat.reduceLT, Nat.reduceLeDiff, Nat.reduceMul, Nat.reduceEqDiff, WD, effB, effH, isPriv, isHeap, isImm, zbx, zby, zbz, chkO, setD, dslot, zca, zcb, zcc, zcd, ptrCells_some, F6]
          refine cSplit (fun hlt => ?_) (fun hge => ?_)
          · have hi2 : i < lb.length := by have := of_decide_eq_true hlt; omega
            have hc : lb[i]? = some lb[i] := List.getElem?_eq_getElem hi2
            have hpos := lexS_pos _ _ rfl _ _ _ hlb lb[i] (List.getElem_mem hi2)
            generalize lb[i] = t at hc hpos
            obtain ⟨O, hO⟩ : ∃ O, O = ts ++ (lb.take i).map (shiftT F.length) := ⟨_, rfl⟩
            rw [← hO]
            have hOl : O.length ≤ 9000 := by rw [hO]; simp; omega
            have hOn : ts ++ (lb.take (i + 1)).map (shiftT F.length) = O ++ [shiftT F.length t] := by
              rw [List.take_add_one, hc, hO]; simp
            have hgt : (lb.map tokV)[i]? = some (tokV t) := by rw [List.getElem?_map, hc]; rfl
            have hin : (0 : Int) ≤ (i : Int) := by omega
            have hwO := tok_wide O
            have hw0t : ∀ (a : Int) (b : ByteArray) (c d : Int), wideAll [V.agg [.int .i64 a, .str b, .int .i64 c, .int .i64 d]] 4 = true := fun _ _ _ _ => rfl
            have hpw : IntKind.i64.wrap ((t.p : Int) + (F.length : Int)) = ((t.p + F.length : Nat) : Int) := by rw [IntWalk.i64_in _ (by omega)]; omega
            have hq1 : IntKind.i64.wrap ((i : Int) + 1) = ((i + 1 : Nat) : Int) := by rw [IntWalk.i64_in _ (by omega)]; omega
            have q2 : decide ((O.length + 1) * 40 ≤ 70368744177664) = true := by simp; omega
            have q3 : decide (O.length ≤ 4611686018427387903) = true := by simp; omega
            simp only [hlt]
            simp only [WW, partV, eqCells, eqLf, minV, maxV, ifcV, zaa, zab, zac, zad, zae, zaf, zag, zah, zai, ofConst, ofConst1, List.replicate, zaj, zak, loadOp, Go.Abs.loadCells, binV, zal, pickV, zam, zan, zao, zap, zaq, zar, zas, zat, zau, outR, resAll, resOne, zav, zaw, zax, zay, zaz, zba, zbb, zbc, zbd, zbe, zbf, zbg, zbh, zbi, zbj, zbk, storeOp, storeCell, overlay, zbl, zbm, zbn, lookupOp, keyT, okRes, mapUpdateOp, zbo, zbp, zbq, zbr, zbs, zbt, zbu, Nat.reduceSub, Nat.reduceAdd, Int.reduceLT, Int.reduceLE, Int.reduceAdd, Int.reduceSub, Int.reduceToNat, Int.reduceBEq, Int.reduceBNe, Int.reduceMul, Nat.reduceBEq, Nat.reduceBNe, Nat.reduceLT, Nat.reduceLeDiff, Nat.reduceMul, Nat.reduceEqDiff, WD, effB, effH, isPriv, isHeap, isImm, zbx, zby, zbz, chkO, setD, dslot, zca, zcb, zcc, zcd, ptrCells_some, F6, slAt_rsl, hin, hgt, hc, List.getElem?_map, tokV, rowV, Bool.false_and, htF, by8_len, hpw, buildSliceV, lits, srcV_eq, srcK_sl, srcK_str, srcSl_nils, srcSl_rsl, srcSl_sl, frow, zbv, zbw, List.all_nil, List.all_cons, Bool.and_false, ne_eq, not_false_eq_true, grows_lr, callOut_t, appendOp, hwO, hw0t, q2, q3, hq1]
            refine ⟨lb.length - (i + 1), by omega, i + 1, ?_, by omega, rfl⟩
            rw [hOn]
            simp only [WN, firstReg, growAll, zbv, zbw, norm, killS, zag, zah, zaa, zab, zbl, zat, zad, growOne, zae, zaf, zac, zas, zak, Nat.reduceLT, Nat.reduceAdd, zbj, zav, F6, hq1, List.map_append, List.length_append, tokV, shiftT]
            try rfl
          · have hi2 : i = lb.length := by have := of_decide_eq_false hge; omega
            subst hi2
            rw [List.take_length]
            simp only [hge]
            simp only [WW, partV, eqCells, eqLf, minV, maxV, ifcV, zaa, zab, zac, zad, zae, zaf, zag, zah, zai, ofConst, ofConst1, List.replicate, zaj, zak, loadOp, Go.Abs.loadCells, binV, zal, pickV, zam, zan, zao, zap, zaq, zar, zas, zat, zau, outR, resAll, resOne, zav, zaw, zax, zay, zaz, zba, zbb, zbc, zbd, zbe, zbf, zbg, zbh, zbi, zbj, zbk, storeOp, storeCell, overlay, zbl, zbm, zbn, lookupOp, keyT, okRes, mapUpdateOp, zbo, zbp, zbq, zbr, zbs, zbt, zbu, Nat.reduceSub, Nat.reduceAdd, Int.reduceLT, Int.reduceLE, Int.reduceAdd, Int.reduceSub, Int.reduceToNat, Int.reduceBEq, Int.reduceBNe, Int.reduceMul, Nat.reduceBEq, Nat.reduceBNe, Nat.reduceLT, Nat.reduceLeDiff, Nat.reduceMul, Nat.reduceEqDiff, WD, effB, effH, isPriv, isHeap, isImm, zbx, zby, zbz, chkO, setD, dslot, zca, zcb, zcc, zcd, ptrCells_some, F6]
            rw [wpCall_eq (num_eq _ _)]
            have hlbne : lb ≠ [] := fun e => by
              subst e
              exact lexS_ne hlb
            obtain ⟨W, hW⟩ : ∃ W, W = ts ++ lb.map (shiftT F.length) := ⟨_, rfl⟩
            rw [← hW]
            have hWn : W ≠ [] := by
              rw [hW]; intro e
              have := congrArg List.length e
              simp at this
              exact hlbne this.2
            have hWl : W.length ≤ 9000 := by rw [hW]; simp; omega
            have hrow : rowV true (W.map tokV) W.length = .rsl (W.map tokV) := by
              unfold rowV
              have : W.length ≠ 0 := by simpa using hWn
              rw [if_neg (by simp [this]), List.take_of_length_le (by simp)]
            have hz5 : ((0 : Int) == 0) = true := rfl
            simp only [WW, partV, eqCells, eqLf, minV, maxV, ifcV, zaa, zab, zac, zad, zae, zaf, zag, zah, zai, ofConst, ofConst1, List.replicate, zaj, zak, loadOp, Go.Abs.loadCells, binV, zal, pickV, zam, zan, zao, zap, zaq, zar, zas, zat, zau, outR, resAll, resOne, zav, zaw, zax, zay, zaz, zba, zbb, zbc, zbd, zbe, zbf, zbg, zbh, zbi, zbj, zbk, storeOp, storeCell, overlay, zbl, zbm, zbn, lookupOp, keyT, okRes, mapUpdateOp, zbo, zbp, zbq, zbr, zbs, zbt, zbu, Nat.reduceSub, Nat.reduceAdd, Int.reduceLT, Int.reduceLE, Int.reduceAdd, Int.reduceSub, Int.reduceToNat, Int.reduceBEq, Int.reduceBNe, Int.reduceMul, Nat.reduceBEq, Nat.reduceBNe, Nat.reduceLT, Nat.reduceLeDiff, Nat.reduceMul, Nat.reduceEqDiff, WD, effB, effH, isPriv, isHeap, isImm, zbx, zby, zbz, chkO, setD, dslot, zca, zcb, zcc, zcd, ptrCells_some, F6, hrow, hz5]
            rw [wpCall_eq (same_eq (.inr rfl) (.inr rfl) (by omega) _)]
            simp only [WW, partV, eqCells, eqLf, minV, maxV, ifcV, zaa, zab, zac, zad, zae, zaf, zag, zah, zai, ofConst, ofConst1, List.replicate, zaj, zak, loadOp, Go.Abs.loadCells, binV, zal, pickV, zam, zan, zao, zap, zaq, zar, zas, zat, zau, outR, resAll, resOne, zav, zaw, zax, zay, zaz, zba, zbb, zbc, zbd, zbe, zbf, zbg, zbh, zbi, zbj, zbk, storeOp, storeCell, overlay, zbl, zbm, zbn, lookupOp, keyT, okRes, mapUpdateOp, zbo, zbp, zbq, zbr, zbs, zbt, zbu, Nat.reduceSub, Nat.reduceAdd, Int.reduceLT, Int.reduceLE, Int.reduceAdd, Int.reduceSub, Int.reduceToNat, Int.reduceBEq, Int.reduceBNe, Int.reduceMul, Nat.reduceBEq, Nat.reduceBNe, Nat.reduceLT, Nat.reduceLeDiff, Nat.reduceMul, Nat.reduceEqDiff, WD, effB, effH, isPriv, isHeap, isImm, zbx, zby, zbz, chkO, setD, dslot, zca, zcb, zcc, zcd, ptrCells_some, F6]
            rw [wpCall_eq (live_eq _)]
            simp only [WW, partV, eqCells, eqLf, minV, maxV, ifcV, zaa, zab, zac, zad, zae, zaf, zag, zah, zai, ofConst, ofConst1, List.replicate, zaj, zak, loadOp, Go.Abs.loadCells, binV, zal, pickV, zam, zan, zao, zap, zaq, zar, zas, zat, zau, outR, resAll, resOne, zav, zaw, zax, zay, zaz, zba, zbb, zbc, zbd, zbe, zbf, zbg, zbh, zbi, zbj, zbk, storeOp, storeCell, overlay, zbl, zbm, zbn, lookupOp, keyT, okRes, mapUpdateOp, zbo, zbp, zbq, zbr, zbs, zbt, zbu, Nat.reduceSub, Nat.reduceAdd, Int.reduceLT, Int.reduceLE, Int.reduceAdd, Int.reduceSub, Int.reduceToNat, Int.reduceBEq, Int.reduceBNe, Int.reduceMul, Nat.reduceBEq, Nat.reduceBNe, Nat.reduceLT, Nat.reduceLeDiff, Nat.reduceMul, Nat.reduceEqDiff, WD, effB, effH, isPriv, isHeap, isImm, zbx, zby, zbz, chkO, setD, dslot, zca, zcb, zcc, zcd, ptrCells_some, F6]
end Go.Proofs.YtcmndnkeoepmoaaDoor
