/- A part of the proofs over this seat. -/
import Derived.Test.YtgjobbmbbedecaaDoorQM1
/- The document's reader: numbers in a row. -/
namespace Go.Proofs.YtgjobbmbbedecaaDoor
open Go Go.Abs Go.Proofs
set_option maxRecDepth 100000
set_option maxHeartbeats 4000000
set_option linter.unusedVariables false
set_option linter.unusedSimpArgs false
theorem wpCall_run {C : Abs.Callee} {f : FuncId} {args : List V} {H : Hp} {K : Out → Hp → Prop} (h : wpCall C f args H K) : ∃ out H', C f args H = some (out, H') ∧ K out H' := by
  unfold wpCall at h
  cases hc : C f args H with
  | none => rw [hc] at h; exact h.elim
  | some r => rw [hc] at h; exact ⟨r.1, r.2, rfl, h⟩
theorem dlistR {H : Hp} {w : Nat} {x : V} {L : List Nat} {s : S} (hR : Rr H w x L s) (hL : ∀ y ∈ L, y < 256) (hlen : L.length ≤ 5000000) :
    wpCall EW 51 [.ptr w 0 0] H (fun out H' => ∃ y, out = .ret y false ∧ Ff w H H' ∧ Rr H' w x L (allS L (intS L) s).2 ∧ Own H' H.length y ((allS L (intS L) s).1.map intV)) := by
  have hcl := count_le hR.o
  have hwl := hR.lt
  refine runs f51 b51 r51 n51 _ _ ?_
  simp only [bodyOf, Tryd.f51, Option.getD_some]
  simp only [WW, partV, eqCells, eqLf, minV, maxV, ifcV, zaa, zab, zac, zad, zae, zaf, zag, zah, zai, ofConst, ofConst1, List.replicate, zaj, zak, loadOp, Go.Abs.loadCells, binV, zal, pickV, zam, zan, zao, zap, zaq, zar, zas, zat, zau, outR, resAll, resOne, zav, zaw, zax, zay, zaz, zba, zbb, zbc, zbd, zbe, zbf, zbg, zbh, zbi, zbj, zbk, storeOp, storeCell, overlay, zbl, zbm, zbn, lookupOp, keyT, okRes, mapUpdateOp, zbo, zbp, zbq, zbr, zbs, zbt, zbu, Nat.reduceSub, Nat.reduceAdd, Int.reduceLT, Int.reduceLE, Int.reduceAdd, Int.reduceSub, Int.reduceToNat, Int.reduceBEq, Int.reduceBNe, Int.reduceMul, Nat.reduceBEq, Nat.reduceBNe, Nat.reduceLT, Nat.reduceLeDiff, Nat.reduceMul, Nat.reduceEqDiff, WD, effB, effH, isPriv, isHeap, isImm, zbx, zby, zbz, chkO, setD, dslot, zca, zcb, zcc, zcd, ptrCells_some, F51]
  refine wpCall_of (dcountR hR hL hlen) ?_
  rintro out H0 ⟨rfl, hf0, hR0⟩
  simp only [WW, partV, eqCells, eqLf, minV, maxV, ifcV, zaa, zab, zac, zad, zae, zaf, zag, zah, zai, ofConst, ofConst1, List.replicate, zaj, zak, loadOp, Go.Abs.loadCells, binV, zal, pickV, zam, zan, zao, zap, zaq, zar, zas, zat, zau, outR, resAll, resOne, zav, zaw, zax, zay, zaz, zba, zbb, zbc, zbd, zbe, zbf, zbg, zbh, zbi, zbj, zbk, storeOp, storeCell, overlay, zbl, zbm, zbn, lookupOp, keyT, okRes, mapUpdateOp, zbo, zbp, zbq, zbr, zbs, zbt, zbu, Nat.reduceSub, Nat.reduceAdd, Int.reduceLT, Int.reduceLE, Int.reduceAdd, Int.reduceSub, Int.reduceToNat, Int.reduceBEq, Int.reduceBNe, Int.reduceMul, Nat.reduceBEq, Nat.reduceBNe, Nat.reduceLT, Nat.reduceLeDiff, Nat.reduceMul, Nat.reduceEqDiff, WD, effB, effH, isPriv, isHeap, isImm, zbx, zby, zbz, chkO, setD, dslot, zca, zcb, zcc, zcd, ptrCells_some, F51]
  refine wC_loop _ (fun k st' H' => ∃ (n : Nat) (s1 : S) (acc : List Int) (y : V), st' = ⟨L51_3 (.v (.ptr w 0 0)) (.v y) (.v (.int .i64 n)), [], []⟩ ∧ k = n ∧ Ff w H H' ∧ Rr H' w x L s1 ∧ Own H' H.length y (acc.map intV) ∧ acc ++ (allG (intS L) n s1).1 = (allS L (intS L) s).1 ∧ (allG (intS L) n s1).2 = (allS L (intS L) s).2 ∧ acc.length + n ≤ 5000000) (count L s).1 ⟨(count L s).1, (count L s).2, [], .nils, ?_, rfl, hf0, hR0, .inl ⟨rfl, rfl⟩, rfl, rfl, by simp only [List.length_nil]; omega⟩ ?_
  · simp only [WN, firstReg, growAll, zbv, zbw, norm, killS, zag, zah, zaa, zab, zbl, zat, zad, growOne, zae, zaf, zac, zas, zak, Nat.reduceLT, Nat.reduceAdd, zbj, zav, F51, L51_3]
  · rintro k st' H' ⟨n, s1, acc, y, rfl, rfl, hf, hR', hO, hl1, hl2, hle⟩
    simp only [L51_3]
    have hb := hR'.b
    simp only [rdr] at hb
    cases k with
    | zero =>
      have g0 : decide ((0 : Int) < ((0 : Nat) : Int)) = false := rfl
      simp only [allG, List.append_nil] at hl1 hl2
      simp only [WW, partV, eqCells, eqLf, minV, maxV, ifcV, zaa, zab, zac, zad, zae, zaf, zag, zah, zai, ofConst, ofConst1, List.replicate, zaj, zak, loadOp, Go.Abs.loadCells, binV, zal, pickV, zam, zan, zao, zap, zaq, zar, zas, zat, zau, outR, resAll, resOne, zav, zaw, zax, zay, zaz, zba, zbb, zbc, zbd, zbe, zbf, zbg, zbh, zbi, zbj, zbk, storeOp, storeCell, overlay, zbl, zbm, zbn, lookupOp, keyT, okRes, mapUpdateOp, zbo, zbp, zbq, zbr, zbs, zbt, zbu, Nat.reduceSub, Nat.reduceAdd, Int.reduceLT, Int.reduceLE, Int.reduceAdd, Int.reduceSub, Int.reduceToNat, Int.reduceBEq, Int.reduceBNe, Int.reduceMul, Nat.reduceBEq, Nat.reduceBNe, Nat.reduceLT, Nat.reduceLeDiff, Nat.reduceMul, Nat.reduceEqDiff, WD, effB, effH, isPriv, isHeap, isImm, zbx, zby, zbz, chkO, setD, dslot, zca, zcb, zcc, zcd, ptrCells_some, F51, g0, hO.shut, hO.grows]
      rw [← hl2, ← hl1]
      exact ⟨y, rfl, hf, hR', hO⟩
    | succ n =>
      have g1 : decide ((0 : Int) < ((n + 1 : Nat) : Int)) = true := decide_eq_true (by omega)
      cases he : s1.e with
      | succ e1 =>
        rw [he] at hb
        have g2 : (((e1 + 1 : Nat) : Int) == 0) = false := by rw [beq_eq_false_iff_ne]; omega
        simp only [allG, he, List.append_nil] at hl1 hl2
        simp only [WW, partV, eqCells, eqLf, minV, maxV, ifcV, zaa, zab, zac, zad, zae, zaf, zag, zah, zai, ofConst, ofConst1, List.replicate, zaj, zak, loadOp, Go.Abs.loadCells, binV, zal, pickV, zam, zan, zao, zap, zaq, zar, zas, zat, zau, outR, resAll, resOne, zav, zaw, zax, zay, zaz, zba, zbb, zbc, zbd, zbe, zbf, zbg, zbh, zbi, zbj, zbk, storeOp, storeCell, overlay, zbl, zbm, zbn, lookupOp, keyT, okRes, mapUpdateOp, zbo, zbp, zbq, zbr, zbs, zbt, zbu, Nat.reduceSub, Nat.reduceAdd, Int.reduceLT, Int.reduceLE, Int.reduceAdd, Int.reduceSub, Int.reduceToNat, Int.reduceBEq, Int.reduceBNe, Int.reduceMul, Nat.reduceBEq, Nat.reduceBNe, Nat.reduceLT, Nat.reduceLeDiff, Nat.reduceMul, Nat.reduceEqDiff, WD, effB, effH, isPriv, isHeap, isImm, zbx, zby, zbz, chkO, setD, dslot, zca, zcb, zcc, zcd, ptrCells_some, F51, g1, g2, hb, hO.shut, hO.grows]
        rw [← hl2, ← hl1]
        exact ⟨y, rfl, hf, hR', hO⟩
      | zero =>
        rw [he] at hb
        have g2 : (((0 : Nat) : Int) == 0) = true := rfl
        simp only [allG, he] at hl1 hl2
        simp only [WW, partV, eqCells, eqLf, minV, maxV, ifcV, zaa, zab, zac, zad, zae, zaf, zag, zah, zai, ofConst, ofConst1, List.replicate, zaj, zak, loadOp, Go.Abs.loadCells, binV, zal, pickV, zam, zan, zao, zap, zaq, zar, zas, zat, zau, outR, resAll, resOne, zav, zaw, zax, zay, zaz, zba, zbb, zbc, zbd, zbe, zbf, zbg, zbh, zbi, zbj, zbk, storeOp, storeCell, overlay, zbl, zbm, zbn, lookupOp, keyT, okRes, mapUpdateOp, zbo, zbp, zbq, zbr, zbs, zbt, zbu, Nat.reduceSub, Nat.reduceAdd, Int.reduceLT, Int.reduceLE, Int.reduceAdd, Int.reduceSub, Int.reduceToNat, Int.reduceBEq, Int.reduceBNe, Int.reduceMul, Nat.reduceBEq, Nat.reduceBNe, Nat.reduceLT, Nat.reduceLeDiff, Nat.reduceMul, Nat.reduceEqDiff, WD, effB, effH, isPriv, isHeap, isImm, zbx, zby, zbz, chkO, setD, dslot, zca, zcb, zcc, zcd, ptrCells_some, F51, g1, g2, hb]
        refine wpCall_of (dnumR hR' hL hlen) ?_
        rintro out H2 ⟨rfl, hf2, hR2⟩
        have hO2 := hO.mov hwl hf2
        have hwd : wideAll (acc.map intV) 1 = true := wide_mapN (f := intV) (fun _ => rfl) acc
        obtain ⟨y3, H3, ha, hO3, hl3, hk3⟩ := own_app (d := some 22) (e := 3) (v := intV (intS L s1).1) size3 hO2 (by have := (hf.trans hf2).1; omega) rfl hwd (by rw [room3, List.length_map]; simp; omega)
        change ∀ st, appendOp Tryd.prog .heap st H2 (some 22) 3 y [V.int .i64 ((num L s1).1 : Nat)] = some (putS st (some 22) (.v y3), H3) at ha
        have hrow : wideAll [intV (intS L s1).1] 1 = true := rfl
        have hrc : (intV (intS L s1).1).cells.length = 1 := rfl
        have hsub : IntKind.i64.wrap (((n + 1 : Nat) : Int) - 1) = (n : Int) := by rw [IntWalk.i64_in _ (by omega)]; omega
        simp only [WW, partV, eqCells, eqLf, minV, maxV, ifcV, zaa, zab, zac, zad, zae, zaf, zag, zah, zai, ofConst, ofConst1, List.replicate, zaj, zak, loadOp, Go.Abs.loadCells, binV, zal, pickV, zam, zan, zao, zap, zaq, zar, zas, zat, zau, outR, resAll, resOne, zav, zaw, zax, zay, zaz, zba, zbb, zbc, zbd, zbe, zbf, zbg, zbh, zbi, zbj, zbk, storeOp, storeCell, overlay, zbl, zbm, zbn, lookupOp, keyT, okRes, mapUpdateOp, zbo, zbp, zbq, zbr, zbs, zbt, zbu, Nat.reduceSub, Nat.reduceAdd, Int.reduceLT, Int.reduceLE, Int.reduceAdd, Int.reduceSub, Int.reduceToNat, Int.reduceBEq, Int.reduceBNe, Int.reduceMul, Nat.reduceBEq, Nat.reduceBNe, Nat.reduceLT, Nat.reduceLeDiff, Nat.reduceMul, Nat.reduceEqDiff, WD, effB, effH, isPriv, isHeap, isImm, zbx, zby, zbz, chkO, setD, dslot, zca, zcb, zcc, zcd, ptrCells_some, F51, buildSliceV, lits, srcV_eq, srcK_sl, srcK_str, srcSl_nils, srcSl_rsl, srcSl_sl, frow, zbv, zbw, List.all_nil, List.all_cons, rowV, Bool.false_and, Bool.and_false, ne_eq, not_false_eq_true, grows_lr, callOut_t, hO.shut, hO2.shut, ha, hsub]
        have hf3 : Ff w H H3 := ⟨by have := (hf.trans hf2).1; omega, fun i h1 h2 => by rw [hk3 i h1]; exact (hf.trans hf2).2 i h1 h2⟩
        refine ⟨n, by omega, n, (intS L s1).2, acc ++ [(intS L s1).1], y3, ?_, rfl, hf3, ?_, by rw [List.map_append]; exact hO3, by rw [List.append_assoc]; exact hl1, hl2, by simp; omega⟩
        · simp only [WN, firstReg, growAll, zbv, zbw, norm, killS, zag, zah, zaa, zab, zbl, zat, zad, growOne, zae, zaf, zac, zas, zak, Nat.reduceLT, Nat.reduceAdd, zbj, zav, F51, hO3.clip2, hsub]
          try rfl
        · exact ⟨by rw [hk3 w hwl]; exact hR2.b, fun H4 h4 => hR.r H4 (hf3.trans h4), hR2.o⟩
end Go.Proofs.YtgjobbmbbedecaaDoor

/- The program's reader: strings, a function's parts. -/
namespace Go.Proofs.YtgjobbmbbedecaaDoor
open Go Go.Abs Go.Proofs
set_option maxRecDepth 100000
set_option maxHeartbeats 4000000
set_option linter.unusedVariables false
set_option linter.unusedSimpArgs false
def keyV (k : List Int) : V := repL (k.map intV)
theorem clos45 {H : Hp} {w c : Nat} {x : V} {L : List Nat} {s : S} (hC : H[c]? = some (.cells [.ptr w 0 0])) (hR : Rr H w x L s) (hL : ∀ y ∈ L, y < 256) (hlen : L.length ≤ 5000000) :
    wpCall EW 45 [.ptr c 0 0] H (fun out H' => out = .ret (keyV (keysS L s).1) false ∧ Ff w H H' ∧ Rr H' w x L (keysS L s).2) := by
  refine runs f45 b45 r45 n45 _ _ ?_
  simp only [bodyOf, Tryd.f45, Option.getD_some]
  simp only [WW, partV, eqCells, eqLf, minV, maxV, ifcV, zaa, zab, zac, zad, zae, zaf, zag, zah, zai, ofConst, ofConst1, List.replicate, zaj, zak, loadOp, Go.Abs.loadCells, binV, zal, pickV, zam, zan, zao, zap, zaq, zar, zas, zat, zau, outR, resAll, resOne, zav, zaw, zax, zay, zaz, zba, zbb, zbc, zbd, zbe, zbf, zbg, zbh, zbi, zbj, zbk, storeOp, storeCell, overlay, zbl, zbm, zbn, lookupOp, keyT, okRes, mapUpdateOp, zbo, zbp, zbq, zbr, zbs, zbt, zbu, Nat.reduceSub, Nat.reduceAdd, Int.reduceLT, Int.reduceLE, Int.reduceAdd, Int.reduceSub, Int.reduceToNat, Int.reduceBEq, Int.reduceBNe, Int.reduceMul, Nat.reduceBEq, Nat.reduceBNe, Nat.reduceLT, Nat.reduceLeDiff, Nat.reduceMul, Nat.reduceEqDiff, WD, effB, effH, isPriv, isHeap, isImm, zbx, zby, zbz, chkO, setD, dslot, zca, zcb, zcc, zcd, ptrCells_some, F45, hC]
  refine wpCall_of (allR46 (intS L) intV (fun _ _ => rfl) (fun _ => rfl) (fun _ => rfl) call47 hR hL hlen (fun H1 s1 h1 h2 => numR h2 hL hlen)) ?_
  rintro out H2 ⟨y, rfl, hf, hR2, hO⟩
  obtain ⟨H3, h1, h2, h3⟩ := own_done hf hR.lt hR.r hR2 hO
  simp only [WW, partV, eqCells, eqLf, minV, maxV, ifcV, zaa, zab, zac, zad, zae, zaf, zag, zah, zai, ofConst, ofConst1, List.replicate, zaj, zak, loadOp, Go.Abs.loadCells, binV, zal, pickV, zam, zan, zao, zap, zaq, zar, zas, zat, zau, outR, resAll, resOne, zav, zaw, zax, zay, zaz, zba, zbb, zbc, zbd, zbe, zbf, zbg, zbh, zbi, zbj, zbk, storeOp, storeCell, overlay, zbl, zbm, zbn, lookupOp, keyT, okRes, mapUpdateOp, zbo, zbp, zbq, zbr, zbs, zbt, zbu, Nat.reduceSub, Nat.reduceAdd, Int.reduceLT, Int.reduceLE, Int.reduceAdd, Int.reduceSub, Int.reduceToNat, Int.reduceBEq, Int.reduceBNe, Int.reduceMul, Nat.reduceBEq, Nat.reduceBNe, Nat.reduceLT, Nat.reduceLeDiff, Nat.reduceMul, Nat.reduceEqDiff, WD, effB, effH, isPriv, isHeap, isImm, zbx, zby, zbz, chkO, setD, dslot, zca, zcb, zcc, zcd, ptrCells_some, F45, h1, repL_shut, repL_grows]
  exact ⟨rfl, h2, h3⟩
theorem strOf_bsL : ∀ l : List Nat, strOf (bs l) = some (strL l) := fun l => by
  have h0 : ∀ l : List Nat, Abs.bytesOf (bs l) = some (l.map UInt8.ofNat) := fun l => by
    induction l with
    | nil => rfl
    | cons a l ih =>
      show ((some (UInt8.ofNat (a : Int).toNat)).bind fun b => (Abs.bytesOf (bs l)).map (b :: ·)) = _
      rw [ih, Int.toNat_natCast]; rfl
  simp [strOf, h0, strL]
theorem bs_drop (L : List Nat) (a : Nat) : (bs L).drop a = bs (L.drop a) := by simp [bs]
theorem bs_take (L : List Nat) (a : Nat) : (bs L).take a = bs (L.take a) := by simp [bs]
/-- A part of a slice of bytes that is read -/
theorem rd_part {H : Hp} {x : V} {L : List Nat} (h : RdB H x L) {a b : Nat} (hab : a + b ≤ L.length) :
    ∃ z, (∀ st, sliceOp Tryd.prog st H 29 x (some (.int .i64 (a : Nat))) (some (.int .i64 ((a + b : Nat) : Int))) none = some z) ∧ contV H z = some (bs ((L.drop a).take b)) ∧ (∀ st, sealV st z = z) := by
  obtain ⟨h, hw⟩ := h
  have hz := h.shutIn
  have hb1 : boundV (some (V.int .i64 ((a + b : Nat) : Int))) = fun _ => some (a + b) := by
    funext d; simp only [boundV]; rw [if_pos (by omega), Int.toNat_natCast]
  have hb2 : boundV (some (V.int .i64 (a : Nat))) = fun _ => some a := by
    funext d; simp only [boundV]; rw [if_pos (by omega), Int.toNat_natCast]
  have rslCase : ∀ (row : List V), row = bs L → ∀ st, viewV H (sealV st x) = .rsl row → sliceOp Tryd.prog st H 29 x (some (.int .i64 (a : Nat))) (some (.int .i64 ((a + b : Nat) : Int))) none = some (.rsl ((row.take (a + b)).drop a)) := fun row hr st hv => by
    have e : (a ≤ a + b ∧ a + b ≤ row.length ∧ wideAll row (sizeT Tryd.prog 5) = true) := ⟨by omega, by rw [hr, bs_len]; exact hab, by rw [size5, hr]; exact wide_bs L⟩
    simp only [sliceOp, ix29, hv, hb1, hb2, Option.bind_some]
    rw [if_pos e]
  have hcont : ∀ row : List V, row = bs L → contV H (.rsl ((row.take (a + b)).drop a)) = some (bs ((L.drop a).take b)) := fun row hr => by
    rw [(Rd.rsl (H := H) _).cont, hr, bs_take, bs_drop, List.drop_take]
    congr 4; omega
  generalize hl : bs L = l at h
  cases h with
  | nils =>
    have hL : L = [] := by cases L with
      | nil => rfl
      | cons a r => simp [bs] at hl
    subst hL
    have : a = 0 ∧ b = 0 := by simp at hab; omega
    obtain ⟨rfl, rfl⟩ := this
    refine ⟨.nils, fun st => ?_, rfl, fun _ => rfl⟩
    simp only [sliceOp, ix29, viewV, sealV, hb1, hb2, Option.bind_some]
    rfl
  | rsl l => exact ⟨_, fun st => rslCase l hl.symm st rfl, hcont l hl.symm, fun _ => rfl⟩
  | hr id n ns _ h1 h2 h3 => exact ⟨_, fun st => rslCase l hl.symm st (view_hr' h1 h2 h3), hcont l hl.symm, fun _ => rfl⟩
  | sl id lo len es h1 h2 =>
    have hwe := hw id lo len es rfl h1
    have hlen : len = L.length := by
      have := congrArg List.length hl
      simp only [bs_len, List.length_take, List.length_drop] at this
      omega
    refine ⟨if a = 0 then .sl id lo (a + b) else if a = a + b then .rsl [] else .sl id (lo + a) (a + b - a), fun st => ?_, ?_, fun st => ?_⟩
    · have e : (a ≤ a + b ∧ lo + (a + b) ≤ es.length ∧ wideAll es (sizeT Tryd.prog 5) = true) := ⟨by omega, by omega, by rw [size5]; exact hwe⟩
      simp only [sliceOp, ix29, viewV, sealV, hb1, hb2, Option.bind_some, h1]
      rw [if_pos e]
    rotate_left
    · split
      · rfl
      · split <;> rfl
    · have key : (es.drop (lo + a)).take b = bs ((L.drop a).take b) := by
        rw [← bs_take, ← bs_drop, hl, List.drop_take, List.drop_drop, List.take_take]
        congr 1; omega
      by_cases h0 : a = 0
      · subst h0
        rw [if_pos rfl]
        have := (Rd.sl (H := H) id lo (0 + b) es h1 (by omega)).cont
        rw [this, ← key]
        simp
      · rw [if_neg h0]
        by_cases h4 : a = a + b
        · have hb : b = 0 := by omega
          subst hb
          rw [if_pos (by omega), (Rd.rsl (H := H) _).cont]
          simp [bs]
        · rw [if_neg h4]
          have := (Rd.sl (H := H) id (lo + a) (a + b - a) es h1 (by omega)).cont
          rw [this, ← key]
          congr 2; omega
theorem text43 {H : Hp} {w : Nat} {x : V} {L : List Nat} {s : S} (hR : Rr H w x L s) (hL : ∀ y ∈ L, y < 256) (hlen : L.length ≤ 5000000) :
    wpCall EW 43 [.ptr w 0 0] H (fun out H' => out = .ret (.str (textS L s).1) false ∧ Ff w H H' ∧ Rr H' w x L (textS L s).2) := by
  have hle := count_le hR.o
  refine runs f43 b43 r43 n43 _ _ ?_
  simp only [bodyOf, Tryd.f43, Option.getD_some]
  simp only [WW, partV, eqCells, eqLf, minV, maxV, ifcV, zaa, zab, zac, zad, zae, zaf, zag, zah, zai, ofConst, ofConst1, List.replicate, zaj, zak, loadOp, Go.Abs.loadCells, binV, zal, pickV, zam, zan, zao, zap, zaq, zar, zas, zat, zau, outR, resAll, resOne, zav, zaw, zax, zay, zaz, zba, zbb, zbc, zbd, zbe, zbf, zbg, zbh, zbi, zbj, zbk, storeOp, storeCell, overlay, zbl, zbm, zbn, lookupOp, keyT, okRes, mapUpdateOp, zbo, zbp, zbq, zbr, zbs, zbt, zbu, Nat.reduceSub, Nat.reduceAdd, Int.reduceLT, Int.reduceLE, Int.reduceAdd, Int.reduceSub, Int.reduceToNat, Int.reduceBEq, Int.reduceBNe, Int.reduceMul, Nat.reduceBEq, Nat.reduceBNe, Nat.reduceLT, Nat.reduceLeDiff, Nat.reduceMul, Nat.reduceEqDiff, WD, effB, effH, isPriv, isHeap, isImm, zbx, zby, zbz, chkO, setD, dslot, zca, zcb, zcc, zcd, ptrCells_some, F43]
  refine wpCall_of (countR hR hL hlen) ?_
  rintro out H1 ⟨rfl, hf1, hR1⟩
  unfold textS
  simp only
  have ho := hR1.o
  have hb := hR1.b
  simp only [rdr] at hb
  generalize count L s = r at *
  obtain ⟨n, q, e⟩ := r
  simp only at *
  obtain ⟨z, hz, hc, hzs⟩ := rd_part (hR1.r _ Ff.refl) hle
  have hx := hR1.rd
  have hadd : IntKind.i64.wrap ((q : Int) + (n : Int)) = ((q + n : Nat) : Int) := by rw [IntWalk.i64_in _ (by omega)]; omega
  simp only [WW, partV, eqCells, eqLf, minV, maxV, ifcV, zaa, zab, zac, zad, zae, zaf, zag, zah, zai, ofConst, ofConst1, List.replicate, zaj, zak, loadOp, Go.Abs.loadCells, binV, zal, pickV, zam, zan, zao, zap, zaq, zar, zas, zat, zau, outR, resAll, resOne, zav, zaw, zax, zay, zaz, zba, zbb, zbc, zbd, zbe, zbf, zbg, zbh, zbi, zbj, zbk, storeOp, storeCell, overlay, zbl, zbm, zbn, lookupOp, keyT, okRes, mapUpdateOp, zbo, zbp, zbq, zbr, zbs, zbt, zbu, Nat.reduceSub, Nat.reduceAdd, Int.reduceLT, Int.reduceLE, Int.reduceAdd, Int.reduceSub, Int.reduceToNat, Int.reduceBEq, Int.reduceBNe, Int.reduceMul, Nat.reduceBEq, Nat.reduceBNe, Nat.reduceLT, Nat.reduceLeDiff, Nat.reduceMul, Nat.reduceEqDiff, WD, effB, effH, isPriv, isHeap, isImm, zbx, zby, zbz, chkO, setD, dslot, zca, zcb, zcc, zcd, ptrCells_some, F43]
  refine wC_dr alts43_2 (by kernel_rfl) ?_
  have hwl := hR1.lt
  cases e with
  | succ e1 =>
    have h3 : (((e1 + 1 : Nat) : Int) == 0) = false := by rw [beq_eq_false_iff_ne]; omega
    simp only [WW, partV, eqCells, eqLf, minV, maxV, ifcV, zaa, zab, zac, zad, zae, zaf, zag, zah, zai, ofConst, ofConst1, List.replicate, zaj, zak, loadOp, Go.Abs.loadCells, binV, zal, pickV, zam, zan, zao, zap, zaq, zar, zas, zat, zau, outR, resAll, resOne, zav, zaw, zax, zay, zaz, zba, zbb, zbc, zbd, zbe, zbf, zbg, zbh, zbi, zbj, zbk, storeOp, storeCell, overlay, zbl, zbm, zbn, lookupOp, keyT, okRes, mapUpdateOp, zbo, zbp, zbq, zbr, zbs, zbt, zbu, Nat.reduceSub, Nat.reduceAdd, Int.reduceLT, Int.reduceLE, Int.reduceAdd, Int.reduceSub, Int.reduceToNat, Int.reduceBEq, Int.reduceBNe, Int.reduceMul, Nat.reduceBEq, Nat.reduceBNe, Nat.reduceLT, Nat.reduceLeDiff, Nat.reduceMul, Nat.reduceEqDiff, WD, effB, effH, isPriv, isHeap, isImm, zbx, zby, zbz, chkO, setD, dslot, zca, zcb, zcc, zcd, ptrCells_some, F43, hb, alts43_2, hx.shutIn, hadd, Option.map_none, hz, hzs, convertOp, hc, strOf_bsL, h3]
    exact ⟨hf1, hR1⟩
  | zero =>
    have h3 : (((0 : Nat) : Int) == 0) = true := rfl
    have hR2 := hR1.to (s' := ⟨q + n, 0⟩) hle
    have hb2 : (H1.set w (.cells [.agg [x, .int .i64 ((q + n : Nat) : Int), .int .i64 ((0 : Nat) : Int)]]))[w]? = some (.cells [.agg [x, .int .i64 ((q + n : Nat) : Int), .int .i64 ((0 : Nat) : Int)]]) := List.getElem?_set_self hwl
    simp only [WW, partV, eqCells, eqLf, minV, maxV, ifcV, zaa, zab, zac, zad, zae, zaf, zag, zah, zai, ofConst, ofConst1, List.replicate, zaj, zak, loadOp, Go.Abs.loadCells, binV, zal, pickV, zam, zan, zao, zap, zaq, zar, zas, zat, zau, outR, resAll, resOne, zav, zaw, zax, zay, zaz, zba, zbb, zbc, zbd, zbe, zbf, zbg, zbh, zbi, zbj, zbk, storeOp, storeCell, overlay, zbl, zbm, zbn, lookupOp, keyT, okRes, mapUpdateOp, zbo, zbp, zbq, zbr, zbs, zbt, zbu, Nat.reduceSub, Nat.reduceAdd, Int.reduceLT, Int.reduceLE, Int.reduceAdd, Int.reduceSub, Int.reduceToNat, Int.reduceBEq, Int.reduceBNe, Int.reduceMul, Nat.reduceBEq, Nat.reduceBNe, Nat.reduceLT, Nat.reduceLeDiff, Nat.reduceMul, Nat.reduceEqDiff, WD, effB, effH, isPriv, isHeap, isImm, zbx, zby, zbz, chkO, setD, dslot, zca, zcb, zcc, zcd, ptrCells_some, F43, hb, alts43_2, hx.shutIn, hadd, Option.map_none, hz, hzs, convertOp, hc, strOf_bsL, h3, storeHeap, promote, heapSet, elemSet, hb2]
    exact ⟨hf1.trans (Ff.set _), hR2⟩
theorem clos69 {H : Hp} {w c : Nat} {x : V} {L : List Nat} {s : S} (hC : H[c]? = some (.cells [.ptr w 0 0])) (hcw : c ≠ w) (hR : Rr H w x L s) (hL : ∀ y ∈ L, y < 256) (hlen : L.length ≤ 5000000) :
    wpCall EW 69 [.ptr c 0 0] H (fun out H' => out = .ret (capV (capS L s).1) false ∧ Ff w H H' ∧ Rr H' w x L (capS L s).2) := by
  have hcl := (List.getElem?_eq_some_iff.1 hC).1
  refine runs f69 b69 r69 n69 _ _ ?_
  simp only [bodyOf, Tryd.f69, Option.getD_some]
  simp only [WW, partV, eqCells, eqLf, minV, maxV, ifcV, zaa, zab, zac, zad, zae, zaf, zag, zah, zai, ofConst, ofConst1, List.replicate, zaj, zak, loadOp, Go.Abs.loadCells, binV, zal, pickV, zam, zan, zao, zap, zaq, zar, zas, zat, zau, outR, resAll, resOne, zav, zaw, zax, zay, zaz, zba, zbb, zbc, zbd, zbe, zbf, zbg, zbh, zbi, zbj, zbk, storeOp, storeCell, overlay, zbl, zbm, zbn, lookupOp, keyT, okRes, mapUpdateOp, zbo, zbp, zbq, zbr, zbs, zbt, zbu, Nat.reduceSub, Nat.reduceAdd, Int.reduceLT, Int.reduceLE, Int.reduceAdd, Int.reduceSub, Int.reduceToNat, Int.reduceBEq, Int.reduceBNe, Int.reduceMul, Nat.reduceBEq, Nat.reduceBNe, Nat.reduceLT, Nat.reduceLeDiff, Nat.reduceMul, Nat.reduceEqDiff, WD, effB, effH, isPriv, isHeap, isImm, zbx, zby, zbz, chkO, setD, dslot, zca, zcb, zcc, zcd, ptrCells_some, F69, hC]
  refine wpCall_of (numR hR hL hlen) ?_
  rintro out H1 ⟨rfl, hf1, hR1⟩
  have hC1 := (hf1.2 c hcl hcw).trans hC
  simp only [WW, partV, eqCells, eqLf, minV, maxV, ifcV, zaa, zab, zac, zad, zae, zaf, zag, zah, zai, ofConst, ofConst1, List.replicate, zaj, zak, loadOp, Go.Abs.loadCells, binV, zal, pickV, zam, zan, zao, zap, zaq, zar, zas, zat, zau, outR, resAll, resOne, zav, zaw, zax, zay, zaz, zba, zbb, zbc, zbd, zbe, zbf, zbg, zbh, zbi, zbj, zbk, storeOp, storeCell, overlay, zbl, zbm, zbn, lookupOp, keyT, okRes, mapUpdateOp, zbo, zbp, zbq, zbr, zbs, zbt, zbu, Nat.reduceSub, Nat.reduceAdd, Int.reduceLT, Int.reduceLE, Int.reduceAdd, Int.reduceSub, Int.reduceToNat, Int.reduceBEq, Int.reduceBNe, Int.reduceMul, Nat.reduceBEq, Nat.reduceBNe, Nat.reduceLT, Nat.reduceLeDiff, Nat.reduceMul, Nat.reduceEqDiff, WD, effB, effH, isPriv, isHeap, isImm, zbx, zby, zbz, chkO, setD, dslot, zca, zcb, zcc, zcd, ptrCells_some, F69, hC1]
  refine wpCall_of (numR hR1 hL hlen) ?_
  rintro out H2 ⟨rfl, hf2, hR2⟩
  simp only [WW, partV, eqCells, eqLf, minV, maxV, ifcV, zaa, zab, zac, zad, zae, zaf, zag, zah, zai, ofConst, ofConst1, List.replicate, zaj, zak, loadOp, Go.Abs.loadCells, binV, zal, pickV, zam, zan, zao, zap, zaq, zar, zas, zat, zau, outR, resAll, resOne, zav, zaw, zax, zay, zaz, zba, zbb, zbc, zbd, zbe, zbf, zbg, zbh, zbi, zbj, zbk, storeOp, storeCell, overlay, zbl, zbm, zbn, lookupOp, keyT, okRes, mapUpdateOp, zbo, zbp, zbq, zbr, zbs, zbt, zbu, Nat.reduceSub, Nat.reduceAdd, Int.reduceLT, Int.reduceLE, Int.reduceAdd, Int.reduceSub, Int.reduceToNat, Int.reduceBEq, Int.reduceBNe, Int.reduceMul, Nat.reduceBEq, Nat.reduceBNe, Nat.reduceLT, Nat.reduceLeDiff, Nat.reduceMul, Nat.reduceEqDiff, WD, effB, effH, isPriv, isHeap, isImm, zbx, zby, zbz, chkO, setD, dslot, zca, zcb, zcc, zcd, ptrCells_some, F69, buildOp, fillV, Lay.place, Bool.or_self, Bool.or_false, Bool.false_or, decide_not, ne_eq, not_true_eq_false, decide_eq_true_eq, Nat.lt_irrefl]
  exact ⟨rfl, hf1.trans hf2, hR2⟩
theorem clos71 {H : Hp} {w c : Nat} {x : V} {L : List Nat} {s : S} (hC : H[c]? = some (.cells [.ptr w 0 0])) (hcw : c ≠ w) (hR : Rr H w x L s) (hL : ∀ y ∈ L, y < 256) (hlen : L.length ≤ 5000000) :
    wpCall EW 71 [.ptr c 0 0] H (fun out H' => out = .ret (inV (insS L s).1) false ∧ Ff w H H' ∧ Rr H' w x L (insS L s).2) := by
  have hcl := (List.getElem?_eq_some_iff.1 hC).1
  refine runs f71 b71 r71 n71 _ _ ?_
  simp only [bodyOf, Tryd.f71, Option.getD_some]
  simp only [WW, partV, eqCells, eqLf, minV, maxV, ifcV, zaa, zab, zac, zad, zae, zaf, zag, zah, zai, ofConst, ofConst1, List.replicate, zaj, zak, loadOp, Go.Abs.loadCells, binV, zal, pickV, zam, zan, zao, zap, zaq, zar, zas, zat, zau, outR, resAll, resOne, zav, zaw, zax, zay, zaz, zba, zbb, zbc, zbd, zbe, zbf, zbg, zbh, zbi, zbj, zbk, storeOp, storeCell, overlay, zbl, zbm, zbn, lookupOp, keyT, okRes, mapUpdateOp, zbo, zbp, zbq, zbr, zbs, zbt, zbu, Nat.reduceSub, Nat.reduceAdd, Int.reduceLT, Int.reduceLE, Int.reduceAdd, Int.reduceSub, Int.reduceToNat, Int.reduceBEq, Int.reduceBNe, Int.reduceMul, Nat.reduceBEq, Nat.reduceBNe, Nat.reduceLT, Nat.reduceLeDiff, Nat.reduceMul, Nat.reduceEqDiff, WD, effB, effH, isPriv, isHeap, isImm, zbx, zby, zbz, chkO, setD, dslot, zca, zcb, zcc, zcd, ptrCells_some, F71, hC]
  refine wpCall_of (numR hR hL hlen) ?_
  rintro out H1 ⟨rfl, hf1, hR1⟩
  have hC1 := (hf1.2 c hcl hcw).trans hC
  simp only [WW, partV, eqCells, eqLf, minV, maxV, ifcV, zaa, zab, zac, zad, zae, zaf, zag, zah, zai, ofConst, ofConst1, List.replicate, zaj, zak, loadOp, Go.Abs.loadCells, binV, zal, pickV, zam, zan, zao, zap, zaq, zar, zas, zat, zau, outR, resAll, resOne, zav, zaw, zax, zay, zaz, zba, zbb, zbc, zbd, zbe, zbf, zbg, zbh, zbi, zbj, zbk, storeOp, storeCell, overlay, zbl, zbm, zbn, lookupOp, keyT, okRes, mapUpdateOp, zbo, zbp, zbq, zbr, zbs, zbt, zbu, Nat.reduceSub, Nat.reduceAdd, Int.reduceLT, Int.reduceLE, Int.reduceAdd, Int.reduceSub, Int.reduceToNat, Int.reduceBEq, Int.reduceBNe, Int.reduceMul, Nat.reduceBEq, Nat.reduceBNe, Nat.reduceLT, Nat.reduceLeDiff, Nat.reduceMul, Nat.reduceEqDiff, WD, effB, effH, isPriv, isHeap, isImm, zbx, zby, zbz, chkO, setD, dslot, zca, zcb, zcc, zcd, ptrCells_some, F71, hC1, buildOp, fillV, Lay.place, Bool.or_self, Bool.or_false, Bool.false_or, decide_not, ne_eq, not_true_eq_false, decide_eq_true_eq, Nat.lt_irrefl]
  refine wpCall_of (sgnR hR1 hL hlen) ?_
  rintro out H2 ⟨rfl, hf2, hR2⟩
  have hC2 := (hf2.2 c (Nat.lt_of_lt_of_le hcl hf1.1) hcw).trans hC1
  simp only [WW, partV, eqCells, eqLf, minV, maxV, ifcV, zaa, zab, zac, zad, zae, zaf, zag, zah, zai, ofConst, ofConst1, List.replicate, zaj, zak, loadOp, Go.Abs.loadCells, binV, zal, pickV, zam, zan, zao, zap, zaq, zar, zas, zat, zau, outR, resAll, resOne, zav, zaw, zax, zay, zaz, zba, zbb, zbc, zbd, zbe, zbf, zbg, zbh, zbi, zbj, zbk, storeOp, storeCell, overlay, zbl, zbm, zbn, lookupOp, keyT, okRes, mapUpdateOp, zbo, zbp, zbq, zbr, zbs, zbt, zbu, Nat.reduceSub, Nat.reduceAdd, Int.reduceLT, Int.reduceLE, Int.reduceAdd, Int.reduceSub, Int.reduceToNat, Int.reduceBEq, Int.reduceBNe, Int.reduceMul, Nat.reduceBEq, Nat.reduceBNe, Nat.reduceLT, Nat.reduceLeDiff, Nat.reduceMul, Nat.reduceEqDiff, WD, effB, effH, isPriv, isHeap, isImm, zbx, zby, zbz, chkO, setD, dslot, zca, zcb, zcc, zcd, ptrCells_some, F71, hC2, buildOp, fillV, Lay.place, Bool.or_self, Bool.or_false, Bool.false_or, decide_not, ne_eq, not_true_eq_false, decide_eq_true_eq, Nat.lt_irrefl]
  refine wpCall_of (sgnR hR2 hL hlen) ?_
  rintro out H3 ⟨rfl, hf3, hR3⟩
  simp only [WW, partV, eqCells, eqLf, minV, maxV, ifcV, zaa, zab, zac, zad, zae, zaf, zag, zah, zai, ofConst, ofConst1, List.replicate, zaj, zak, loadOp, Go.Abs.loadCells, binV, zal, pickV, zam, zan, zao, zap, zaq, zar, zas, zat, zau, outR, resAll, resOne, zav, zaw, zax, zay, zaz, zba, zbb, zbc, zbd, zbe, zbf, zbg, zbh, zbi, zbj, zbk, storeOp, storeCell, overlay, zbl, zbm, zbn, lookupOp, keyT, okRes, mapUpdateOp, zbo, zbp, zbq, zbr, zbs, zbt, zbu, Nat.reduceSub, Nat.reduceAdd, Int.reduceLT, Int.reduceLE, Int.reduceAdd, Int.reduceSub, Int.reduceToNat, Int.reduceBEq, Int.reduceBNe, Int.reduceMul, Nat.reduceBEq, Nat.reduceBNe, Nat.reduceLT, Nat.reduceLeDiff, Nat.reduceMul, Nat.reduceEqDiff, WD, effB, effH, isPriv, isHeap, isImm, zbx, zby, zbz, chkO, setD, dslot, zca, zcb, zcc, zcd, ptrCells_some, F71, buildOp, fillV, Lay.place, Bool.or_self, Bool.or_false, Bool.false_or, decide_not, ne_eq, not_true_eq_false, decide_eq_true_eq, Nat.lt_irrefl]
  exact ⟨rfl, (hf1.trans hf2).trans hf3, hR3⟩
theorem clos74 {H : Hp} {w c : Nat} {x : V} {L : List Nat} {s : S} (hC : H[c]? = some (.cells [.ptr w 0 0])) (hcw : c ≠ w) (hR : Rr H w x L s) (hL : ∀ y ∈ L, y < 256) (hlen : L.length ≤ 5000000) :
    wpCall EW 74 [.ptr c 0 0] H (fun out H' => out = .ret (tryV (tryS L s).1) false ∧ Ff w H H' ∧ Rr H' w x L (tryS L s).2) := by
  have hcl := (List.getElem?_eq_some_iff.1 hC).1
  refine runs f74 b74 r74 n74 _ _ ?_
  simp only [bodyOf, Tryd.f74, Option.getD_some]
  simp only [WW, partV, eqCells, eqLf, minV, maxV, ifcV, zaa, zab, zac, zad, zae, zaf, zag, zah, zai, ofConst, ofConst1, List.replicate, zaj, zak, loadOp, Go.Abs.loadCells, binV, zal, pickV, zam, zan, zao, zap, zaq, zar, zas, zat, zau, outR, resAll, resOne, zav, zaw, zax, zay, zaz, zba, zbb, zbc, zbd, zbe, zbf, zbg, zbh, zbi, zbj, zbk, storeOp, storeCell, overlay, zbl, zbm, zbn, lookupOp, keyT, okRes, mapUpdateOp, zbo, zbp, zbq, zbr, zbs, zbt, zbu, Nat.reduceSub, Nat.reduceAdd, Int.reduceLT, Int.reduceLE, Int.reduceAdd, Int.reduceSub, Int.reduceToNat, Int.reduceBEq, Int.reduceBNe, Int.reduceMul, Nat.reduceBEq, Nat.reduceBNe, Nat.reduceLT, Nat.reduceLeDiff, Nat.reduceMul, Nat.reduceEqDiff, WD, effB, effH, isPriv, isHeap, isImm, zbx, zby, zbz, chkO, setD, dslot, zca, zcb, zcc, zcd, ptrCells_some, F74, hC]
  refine wpCall_of (numR hR hL hlen) ?_
  rintro out H1 ⟨rfl, hf1, hR1⟩
  have hC1 := (hf1.2 c hcl hcw).trans hC
  simp only [WW, partV, eqCells, eqLf, minV, maxV, ifcV, zaa, zab, zac, zad, zae, zaf, zag, zah, zai, ofConst, ofConst1, List.replicate, zaj, zak, loadOp, Go.Abs.loadCells, binV, zal, pickV, zam, zan, zao, zap, zaq, zar, zas, zat, zau, outR, resAll, resOne, zav, zaw, zax, zay, zaz, zba, zbb, zbc, zbd, zbe, zbf, zbg, zbh, zbi, zbj, zbk, storeOp, storeCell, overlay, zbl, zbm, zbn, lookupOp, keyT, okRes, mapUpdateOp, zbo, zbp, zbq, zbr, zbs, zbt, zbu, Nat.reduceSub, Nat.reduceAdd, Int.reduceLT, Int.reduceLE, Int.reduceAdd, Int.reduceSub, Int.reduceToNat, Int.reduceBEq, Int.reduceBNe, Int.reduceMul, Nat.reduceBEq, Nat.reduceBNe, Nat.reduceLT, Nat.reduceLeDiff, Nat.reduceMul, Nat.reduceEqDiff, WD, effB, effH, isPriv, isHeap, isImm, zbx, zby, zbz, chkO, setD, dslot, zca, zcb, zcc, zcd, ptrCells_some, F74, hC1, buildOp, fillV, Lay.place, Bool.or_self, Bool.or_false, Bool.false_or, decide_not, ne_eq, not_true_eq_false, decide_eq_true_eq, Nat.lt_irrefl]
  refine wpCall_of (numR hR1 hL hlen) ?_
  rintro out H2 ⟨rfl, hf2, hR2⟩
  have hC2 := (hf2.2 c (Nat.lt_of_lt_of_le hcl hf1.1) hcw).trans hC1
  simp only [WW, partV, eqCells, eqLf, minV, maxV, ifcV, zaa, zab, zac, zad, zae, zaf, zag, zah, zai, ofConst, ofConst1, List.replicate, zaj, zak, loadOp, Go.Abs.loadCells, binV, zal, pickV, zam, zan, zao, zap, zaq, zar, zas, zat, zau, outR, resAll, resOne, zav, zaw, zax, zay, zaz, zba, zbb, zbc, zbd, zbe, zbf, zbg, zbh, zbi, zbj, zbk, storeOp, storeCell, overlay, zbl, zbm, zbn, lookupOp, keyT, okRes, mapUpdateOp, zbo, zbp, zbq, zbr, zbs, zbt, zbu, Nat.reduceSub, Nat.reduceAdd, Int.reduceLT, Int.reduceLE, Int.reduceAdd, Int.reduceSub, Int.reduceToNat, Int.reduceBEq, Int.reduceBNe, Int.reduceMul, Nat.reduceBEq, Nat.reduceBNe, Nat.reduceLT, Nat.reduceLeDiff, Nat.reduceMul, Nat.reduceEqDiff, WD, effB, effH, isPriv, isHeap, isImm, zbx, zby, zbz, chkO, setD, dslot, zca, zcb, zcc, zcd, ptrCells_some, F74, hC2, buildOp, fillV, Lay.place, Bool.or_self, Bool.or_false, Bool.false_or, decide_not, ne_eq, not_true_eq_false, decide_eq_true_eq, Nat.lt_irrefl]
  refine wpCall_of (numR hR2 hL hlen) ?_
  rintro out H3 ⟨rfl, hf3, hR3⟩
  have hC3 := (hf3.2 c (Nat.lt_of_lt_of_le hcl (hf1.trans hf2).1) hcw).trans hC2
  simp only [WW, partV, eqCells, eqLf, minV, maxV, ifcV, zaa, zab, zac, zad, zae, zaf, zag, zah, zai, ofConst, ofConst1, List.replicate, zaj, zak, loadOp, Go.Abs.loadCells, binV, zal, pickV, zam, zan, zao, zap, zaq, zar, zas, zat, zau, outR, resAll, resOne, zav, zaw, zax, zay, zaz, zba, zbb, zbc, zbd, zbe, zbf, zbg, zbh, zbi, zbj, zbk, storeOp, storeCell, overlay, zbl, zbm, zbn, lookupOp, keyT, okRes, mapUpdateOp, zbo, zbp, zbq, zbr, zbs, zbt, zbu, Nat.reduceSub, Nat.reduceAdd, Int.reduceLT, Int.reduceLE, Int.reduceAdd, Int.reduceSub, Int.reduceToNat, Int.reduceBEq, Int.reduceBNe, Int.reduceMul, Nat.reduceBEq, Nat.reduceBNe, Nat.reduceLT, Nat.reduceLeDiff, Nat.reduceMul, Nat.reduceEqDiff, WD, effB, effH, isPriv, isHeap, isImm, zbx, zby, zbz, chkO, setD, dslot, zca, zcb, zcc, zcd, ptrCells_some, F74, hC3, buildOp, fillV, Lay.place, Bool.or_self, Bool.or_false, Bool.false_or, decide_not, ne_eq, not_true_eq_false, decide_eq_true_eq, Nat.lt_irrefl]
  refine wpCall_of (numR hR3 hL hlen) ?_
  rintro out H4 ⟨rfl, hf4, hR4⟩
  simp only [WW, partV, eqCells, eqLf, minV, maxV, ifcV, zaa, zab, zac, zad, zae, zaf, zag, zah, zai, ofConst, ofConst1, List.replicate, zaj, zak, loadOp, Go.Abs.loadCells, binV, zal, pickV, zam, zan, zao, zap, zaq, zar, zas, zat, zau, outR, resAll, resOne, zav, zaw, zax, zay, zaz, zba, zbb, zbc, zbd, zbe, zbf, zbg, zbh, zbi, zbj, zbk, storeOp, storeCell, overlay, zbl, zbm, zbn, lookupOp, keyT, okRes, mapUpdateOp, zbo, zbp, zbq, zbr, zbs, zbt, zbu, Nat.reduceSub, Nat.reduceAdd, Int.reduceLT, Int.reduceLE, Int.reduceAdd, Int.reduceSub, Int.reduceToNat, Int.reduceBEq, Int.reduceBNe, Int.reduceMul, Nat.reduceBEq, Nat.reduceBNe, Nat.reduceLT, Nat.reduceLeDiff, Nat.reduceMul, Nat.reduceEqDiff, WD, effB, effH, isPriv, isHeap, isImm, zbx, zby, zbz, chkO, setD, dslot, zca, zcb, zcc, zcd, ptrCells_some, F74, buildOp, fillV, Lay.place, Bool.or_self, Bool.or_false, Bool.false_or, decide_not, ne_eq, not_true_eq_false, decide_eq_true_eq, Nat.lt_irrefl]
  exact ⟨rfl, ((hf1.trans hf2).trans hf3).trans hf4, hR4⟩
end Go.Proofs.YtgjobbmbbedecaaDoor

/- The program's reader: a function; an image. -/
namespace Go.Proofs.YtgjobbmbbedecaaDoor
open Go Go.Abs Go.Proofs
set_option maxRecDepth 100000
set_option maxHeartbeats 4000000
set_option linter.unusedVariables false
set_option linter.unusedSimpArgs false
/-- A model as a value -/
def fnVal (c : FnM) : V := .agg [.int .i64 c.params, .int .i64 c.slots, repL (c.boxes.map intV), repL (c.caps.map capV), repL (c.code.map inV), repL (c.tries.map tryV)]
def imVal (im : ImM) : V := .agg [repL (im.funs.map fnVal), repL (im.strs.map .str), repL (im.keys.map keyV), .int .i64 im.globals]
theorem Rr.app {H : Hp} {w : Nat} {x : V} {L : List Nat} {s : S} (h : Rr H w x L s) (b : Blk) : Rr (H ++ [b]) w x L s :=
  h.mov (Ff.app b) (List.getElem?_append_left h.lt)
theorem function49 {H : Hp} {w : Nat} {x : V} {L : List Nat} {s : S} (hR : Rr H w x L s) (hL : ∀ y ∈ L, y < 256) (hlen : L.length ≤ 5000000) :
    wpCall EW 49 [.ptr w 0 0] H (fun out H' => out = .ret (fnVal (fnS L s).1) false ∧ Ff w H H' ∧ Rr H' w x L (fnS L s).2) := by
  refine runs f49 b49 r49 n49 _ _ ?_
  simp only [bodyOf, Tryd.f49, Option.getD_some]
  have hR0 := hR.app (.cells [.ptr w 0 0])
  have hf0 : Ff w H (H ++ [Blk.cells [.ptr w 0 0]]) := Ff.app _
  have hC0 : (H ++ [Blk.cells [.ptr w 0 0]])[H.length]? = some (.cells [.ptr w 0 0]) := List.getElem?_concat_length
  have hcw : H.length ≠ w := by have := hR.lt; omega
  have hc0 : H.length < (H ++ [Blk.cells [.ptr w 0 0]]).length := by simp
  simp only [WW, partV, eqCells, eqLf, minV, maxV, ifcV, zaa, zab, zac, zad, zae, zaf, zag, zah, zai, ofConst, ofConst1, List.replicate, zaj, zak, loadOp, Go.Abs.loadCells, binV, zal, pickV, zam, zan, zao, zap, zaq, zar, zas, zat, zau, outR, resAll, resOne, zav, zaw, zax, zay, zaz, zba, zbb, zbc, zbd, zbe, zbf, zbg, zbh, zbi, zbj, zbk, storeOp, storeCell, overlay, zbl, zbm, zbn, lookupOp, keyT, okRes, mapUpdateOp, zbo, zbp, zbq, zbr, zbs, zbt, zbu, Nat.reduceSub, Nat.reduceAdd, Int.reduceLT, Int.reduceLE, Int.reduceAdd, Int.reduceSub, Int.reduceToNat, Int.reduceBEq, Int.reduceBNe, Int.reduceMul, Nat.reduceBEq, Nat.reduceBNe, Nat.reduceLT, Nat.reduceLeDiff, Nat.reduceMul, Nat.reduceEqDiff, WD, effB, effH, isPriv, isHeap, isImm, zbx, zby, zbz, chkO, setD, dslot, zca, zcb, zcc, zcd, ptrCells_some, F49]
  generalize (H ++ [Blk.cells [.ptr w 0 0]]) = H0 at *
  generalize H.length = c at *
  simp only [WW, partV, eqCells, eqLf, minV, maxV, ifcV, zaa, zab, zac, zad, zae, zaf, zag, zah, zai, ofConst, ofConst1, List.replicate, zaj, zak, loadOp, Go.Abs.loadCells, binV, zal, pickV, zam, zan, zao, zap, zaq, zar, zas, zat, zau, outR, resAll, resOne, zav, zaw, zax, zay, zaz, zba, zbb, zbc, zbd, zbe, zbf, zbg, zbh, zbi, zbj, zbk, storeOp, storeCell, overlay, zbl, zbm, zbn, lookupOp, keyT, okRes, mapUpdateOp, zbo, zbp, zbq, zbr, zbs, zbt, zbu, Nat.reduceSub, Nat.reduceAdd, Int.reduceLT, Int.reduceLE, Int.reduceAdd, Int.reduceSub, Int.reduceToNat, Int.reduceBEq, Int.reduceBNe, Int.reduceMul, Nat.reduceBEq, Nat.reduceBNe, Nat.reduceLT, Nat.reduceLeDiff, Nat.reduceMul, Nat.reduceEqDiff, WD, effB, effH, isPriv, isHeap, isImm, zbx, zby, zbz, chkO, setD, dslot, zca, zcb, zcc, zcd, ptrCells_some, F49, hC0]
  refine wpCall_of (numR hR0 hL hlen) ?_
  rintro out H1 ⟨rfl, g1, hR1⟩
  have hf1 := hf0.trans g1
  have hC1 := (g1.2 c hc0 hcw).trans hC0
  have hc1 := Nat.lt_of_lt_of_le hc0 g1.1
  simp only [WW, partV, eqCells, eqLf, minV, maxV, ifcV, zaa, zab, zac, zad, zae, zaf, zag, zah, zai, ofConst, ofConst1, List.replicate, zaj, zak, loadOp, Go.Abs.loadCells, binV, zal, pickV, zam, zan, zao, zap, zaq, zar, zas, zat, zau, outR, resAll, resOne, zav, zaw, zax, zay, zaz, zba, zbb, zbc, zbd, zbe, zbf, zbg, zbh, zbi, zbj, zbk, storeOp, storeCell, overlay, zbl, zbm, zbn, lookupOp, keyT, okRes, mapUpdateOp, zbo, zbp, zbq, zbr, zbs, zbt, zbu, Nat.reduceSub, Nat.reduceAdd, Int.reduceLT, Int.reduceLE, Int.reduceAdd, Int.reduceSub, Int.reduceToNat, Int.reduceBEq, Int.reduceBNe, Int.reduceMul, Nat.reduceBEq, Nat.reduceBNe, Nat.reduceLT, Nat.reduceLeDiff, Nat.reduceMul, Nat.reduceEqDiff, WD, effB, effH, isPriv, isHeap, isImm, zbx, zby, zbz, chkO, setD, dslot, zca, zcb, zcc, zcd, ptrCells_some, F49, hC1, buildOp, fillV, Lay.place, Bool.or_self, Bool.or_false, Bool.false_or, decide_not, ne_eq, not_true_eq_false, decide_eq_true_eq, Nat.lt_irrefl]
  refine wpCall_of (numR hR1 hL hlen) ?_
  rintro out H2 ⟨rfl, g2, hR2⟩
  have hf2 := hf1.trans g2
  have hC2 := (g2.2 c hc1 hcw).trans hC1
  have hc2 := Nat.lt_of_lt_of_le hc1 g2.1
  simp only [WW, partV, eqCells, eqLf, minV, maxV, ifcV, zaa, zab, zac, zad, zae, zaf, zag, zah, zai, ofConst, ofConst1, List.replicate, zaj, zak, loadOp, Go.Abs.loadCells, binV, zal, pickV, zam, zan, zao, zap, zaq, zar, zas, zat, zau, outR, resAll, resOne, zav, zaw, zax, zay, zaz, zba, zbb, zbc, zbd, zbe, zbf, zbg, zbh, zbi, zbj, zbk, storeOp, storeCell, overlay, zbl, zbm, zbn, lookupOp, keyT, okRes, mapUpdateOp, zbo, zbp, zbq, zbr, zbs, zbt, zbu, Nat.reduceSub, Nat.reduceAdd, Int.reduceLT, Int.reduceLE, Int.reduceAdd, Int.reduceSub, Int.reduceToNat, Int.reduceBEq, Int.reduceBNe, Int.reduceMul, Nat.reduceBEq, Nat.reduceBNe, Nat.reduceLT, Nat.reduceLeDiff, Nat.reduceMul, Nat.reduceEqDiff, WD, effB, effH, isPriv, isHeap, isImm, zbx, zby, zbz, chkO, setD, dslot, zca, zcb, zcc, zcd, ptrCells_some, F49, hC2, buildOp, fillV, Lay.place, Bool.or_self, Bool.or_false, Bool.false_or, decide_not, ne_eq, not_true_eq_false, decide_eq_true_eq, Nat.lt_irrefl]
  refine wpCall_of (allR46 (intS L) intV (fun _ _ => rfl) (fun _ => rfl) (fun _ => rfl) call47 hR2 hL hlen (fun H1 s1 h1 h2 => numR h2 hL hlen)) ?_
  rintro out H3' ⟨y, rfl, g3', hR3', hO3⟩
  obtain ⟨H3, e3, g3, hR3⟩ := own_done g3' hR2.lt hR2.r hR3' hO3
  have hf3 := hf2.trans g3
  have hC3 := (g3.2 c hc2 hcw).trans hC2
  have hc3 := Nat.lt_of_lt_of_le hc2 g3.1
  simp only [WW, partV, eqCells, eqLf, minV, maxV, ifcV, zaa, zab, zac, zad, zae, zaf, zag, zah, zai, ofConst, ofConst1, List.replicate, zaj, zak, loadOp, Go.Abs.loadCells, binV, zal, pickV, zam, zan, zao, zap, zaq, zar, zas, zat, zau, outR, resAll, resOne, zav, zaw, zax, zay, zaz, zba, zbb, zbc, zbd, zbe, zbf, zbg, zbh, zbi, zbj, zbk, storeOp, storeCell, overlay, zbl, zbm, zbn, lookupOp, keyT, okRes, mapUpdateOp, zbo, zbp, zbq, zbr, zbs, zbt, zbu, Nat.reduceSub, Nat.reduceAdd, Int.reduceLT, Int.reduceLE, Int.reduceAdd, Int.reduceSub, Int.reduceToNat, Int.reduceBEq, Int.reduceBNe, Int.reduceMul, Nat.reduceBEq, Nat.reduceBNe, Nat.reduceLT, Nat.reduceLeDiff, Nat.reduceMul, Nat.reduceEqDiff, WD, effB, effH, isPriv, isHeap, isImm, zbx, zby, zbz, chkO, setD, dslot, zca, zcb, zcc, zcd, ptrCells_some, F49, e3, hC3, buildOp, fillV, Lay.place, Bool.or_self, Bool.or_false, Bool.false_or, decide_not, ne_eq, not_true_eq_false, decide_eq_true_eq, Nat.lt_irrefl, repL_shut, repL_ok, repL_cells, repL_width]
  refine wpCall_of (allR68 (capS L) capV (fun _ _ => rfl) (fun _ => rfl) (fun _ => rfl) call69 hR3 hL hlen (fun H1 s1 h1 h2 => clos69 ((h1.2 c hc3 hcw).trans hC3) hcw h2 hL hlen)) ?_
  rintro out H4' ⟨y4, rfl, g4', hR4', hO4⟩
  obtain ⟨H4, e4, g4, hR4⟩ := own_done g4' hR3.lt hR3.r hR4' hO4
  have hf4 := hf3.trans g4
  have hC4 := (g4.2 c hc3 hcw).trans hC3
  have hc4 := Nat.lt_of_lt_of_le hc3 g4.1
  simp only [WW, partV, eqCells, eqLf, minV, maxV, ifcV, zaa, zab, zac, zad, zae, zaf, zag, zah, zai, ofConst, ofConst1, List.replicate, zaj, zak, loadOp, Go.Abs.loadCells, binV, zal, pickV, zam, zan, zao, zap, zaq, zar, zas, zat, zau, outR, resAll, resOne, zav, zaw, zax, zay, zaz, zba, zbb, zbc, zbd, zbe, zbf, zbg, zbh, zbi, zbj, zbk, storeOp, storeCell, overlay, zbl, zbm, zbn, lookupOp, keyT, okRes, mapUpdateOp, zbo, zbp, zbq, zbr, zbs, zbt, zbu, Nat.reduceSub, Nat.reduceAdd, Int.reduceLT, Int.reduceLE, Int.reduceAdd, Int.reduceSub, Int.reduceToNat, Int.reduceBEq, Int.reduceBNe, Int.reduceMul, Nat.reduceBEq, Nat.reduceBNe, Nat.reduceLT, Nat.reduceLeDiff, Nat.reduceMul, Nat.reduceEqDiff, WD, effB, effH, isPriv, isHeap, isImm, zbx, zby, zbz, chkO, setD, dslot, zca, zcb, zcc, zcd, ptrCells_some, F49, e4, hC4, buildOp, fillV, Lay.place, Bool.or_self, Bool.or_false, Bool.false_or, decide_not, ne_eq, not_true_eq_false, decide_eq_true_eq, Nat.lt_irrefl, repL_shut, repL_ok, repL_cells, repL_width]
  refine wpCall_of (allR70 (insS L) inV (fun _ _ => rfl) (fun _ => rfl) (fun _ => rfl) call71 hR4 hL hlen (fun H1 s1 h1 h2 => clos71 ((h1.2 c hc4 hcw).trans hC4) hcw h2 hL hlen)) ?_
  rintro out H5' ⟨y5, rfl, g5', hR5', hO5⟩
  obtain ⟨H5, e5, g5, hR5⟩ := own_done g5' hR4.lt hR4.r hR5' hO5
  have hf5 := hf4.trans g5
  have hC5 := (g5.2 c hc4 hcw).trans hC4
  have hc5 := Nat.lt_of_lt_of_le hc4 g5.1
  simp only [WW, partV, eqCells, eqLf, minV, maxV, ifcV, zaa, zab, zac, zad, zae, zaf, zag, zah, zai, ofConst, ofConst1, List.replicate, zaj, zak, loadOp, Go.Abs.loadCells, binV, zal, pickV, zam, zan, zao, zap, zaq, zar, zas, zat, zau, outR, resAll, resOne, zav, zaw, zax, zay, zaz, zba, zbb, zbc, zbd, zbe, zbf, zbg, zbh, zbi, zbj, zbk, storeOp, storeCell, overlay, zbl, zbm, zbn, lookupOp, keyT, okRes, mapUpdateOp, zbo, zbp, zbq, zbr, zbs, zbt, zbu, Nat.reduceSub, Nat.reduceAdd, Int.reduceLT, Int.reduceLE, Int.reduceAdd, Int.reduceSub, Int.reduceToNat, Int.reduceBEq, Int.reduceBNe, Int.reduceMul, Nat.reduceBEq, Nat.reduceBNe, Nat.reduceLT, Nat.reduceLeDiff, Nat.reduceMul, Nat.reduceEqDiff, WD, effB, effH, isPriv, isHeap, isImm, zbx, zby, zbz, chkO, setD, dslot, zca, zcb, zcc, zcd, ptrCells_some, F49, e5, hC5, buildOp, fillV, Lay.place, Bool.or_self, Bool.or_false, Bool.false_or, decide_not, ne_eq, not_true_eq_false, decide_eq_true_eq, Nat.lt_irrefl, repL_shut, repL_ok, repL_cells, repL_width]
  refine wpCall_of (allR73 (tryS L) tryV (fun _ _ => rfl) (fun _ => rfl) (fun _ => rfl) call74 hR5 hL hlen (fun H1 s1 h1 h2 => clos74 ((h1.2 c hc5 hcw).trans hC5) hcw h2 hL hlen)) ?_
  rintro out H6' ⟨y6, rfl, g6', hR6', hO6⟩
  obtain ⟨H6, e6, g6, hR6⟩ := own_done g6' hR5.lt hR5.r hR6' hO6
  simp only [WW, partV, eqCells, eqLf, minV, maxV, ifcV, zaa, zab, zac, zad, zae, zaf, zag, zah, zai, ofConst, ofConst1, List.replicate, zaj, zak, loadOp, Go.Abs.loadCells, binV, zal, pickV, zam, zan, zao, zap, zaq, zar, zas, zat, zau, outR, resAll, resOne, zav, zaw, zax, zay, zaz, zba, zbb, zbc, zbd, zbe, zbf, zbg, zbh, zbi, zbj, zbk, storeOp, storeCell, overlay, zbl, zbm, zbn, lookupOp, keyT, okRes, mapUpdateOp, zbo, zbp, zbq, zbr, zbs, zbt, zbu, Nat.reduceSub, Nat.reduceAdd, Int.reduceLT, Int.reduceLE, Int.reduceAdd, Int.reduceSub, Int.reduceToNat, Int.reduceBEq, Int.reduceBNe, Int.reduceMul, Nat.reduceBEq, Nat.reduceBNe, Nat.reduceLT, Nat.reduceLeDiff, Nat.reduceMul, Nat.reduceEqDiff, WD, effB, effH, isPriv, isHeap, isImm, zbx, zby, zbz, chkO, setD, dslot, zca, zcb, zcc, zcd, ptrCells_some, F49, e6, buildOp, fillV, Lay.place, Bool.or_self, Bool.or_false, Bool.false_or, decide_not, ne_eq, not_true_eq_false, decide_eq_true_eq, Nat.lt_irrefl, repL_shut, repL_ok, repL_cells, repL_width]
  exact ⟨rfl, hf5.trans g6, hR6⟩
end Go.Proofs.YtgjobbmbbedecaaDoor

/- The document's reader: a function. -/
namespace Go.Proofs.YtgjobbmbbedecaaDoor
open Go Go.Abs Go.Proofs
set_option maxRecDepth 100000
set_option maxHeartbeats 8000000
set_option linter.unusedVariables false
set_option linter.unusedSimpArgs false
theorem rowV_rep (l : List V) : rowV true l l.length = repL l := by
  cases l with
  | nil => rfl
  | cons a r => simp [rowV, repL]
theorem rowV_map {α : Type} (f : α → V) (l : List α) : rowV true (l.map f) l.length = repL (l.map f) := by
  have := rowV_rep (l.map f)
  rwa [List.length_map] at this
theorem growOne_box {s : List Slot} {b : List (List V)} {r : List LRow} {i o l : Nat} (h1 : s.getD i (.v .undef) = .box l) (h2 : (b.getD l [])[o]? = some .nils) :
    growOne ⟨s, b, r⟩ (i, some o) = ⟨s, b.set l ((b.getD l []).set o (.lr r.length 0)), r ++ [⟨true, true, []⟩]⟩ := by
  simp only [growOne, h1, h2]
theorem wC_loopG {E : Env} {st : St} {H : Hp} {Q : Post} {c : Code} {st1 : St} {nb nr : Nat} (hg : growAll (E.grow (firstReg c)) st = st1) (hb : st1.b.length = nb) (hr : st1.r.length = nr) (I : Nat → St → Hp → Prop) (n : Nat) (h0 : I n (norm (E.kill (firstReg c)) nb nr st1) H)
    (hs : ∀ n st' H, I n st' H → wpC E c st' H (kLp (norm (E.kill (firstReg c)) nb nr) I n Q)) : wpC E (.loop c) st H Q := by
  subst hg; subst hb; subst hr
  exact wC_loop c I n h0 hs
theorem dfunctionR {H : Hp} {w : Nat} {x : V} {L : List Nat} {s : S} (hR : Rr H w x L s) (hL : ∀ y ∈ L, y < 256) (hlen : L.length ≤ 5000000) :
    wpCall EW 53 [.ptr w 0 0] H (fun out H' => out = .ret (fnVal (fnS L s).1) false ∧ Ff w H H' ∧ Rr H' w x L (fnS L s).2) := by
  refine runs f53 b53 r53 n53 _ _ ?_
  simp only [bodyOf, Tryd.f53, Option.getD_some]
  simp only [WW, partV, eqCells, eqLf, minV, maxV, ifcV, zaa, zab, zac, zad, zae, zaf, zag, zah, zai, ofConst, ofConst1, List.replicate, zaj, zak, loadOp, Go.Abs.loadCells, binV, zal, pickV, zam, zan, zao, zap, zaq, zar, zas, zat, zau, outR, resAll, resOne, zav, zaw, zax, zay, zaz, zba, zbb, zbc, zbd, zbe, zbf, zbg, zbh, zbi, zbj, zbk, storeOp, storeCell, overlay, zbl, zbm, zbn, lookupOp, keyT, okRes, mapUpdateOp, zbo, zbp, zbq, zbr, zbs, zbt, zbu, Nat.reduceSub, Nat.reduceAdd, Int.reduceLT, Int.reduceLE, Int.reduceAdd, Int.reduceSub, Int.reduceToNat, Int.reduceBEq, Int.reduceBNe, Int.reduceMul, Nat.reduceBEq, Nat.reduceBNe, Nat.reduceLT, Nat.reduceLeDiff, Nat.reduceMul, Nat.reduceEqDiff, WD, effB, effH, isPriv, isHeap, isImm, zbx, zby, zbz, chkO, setD, dslot, zca, zcb, zcc, zcd, ptrCells_some, F53]
  refine wpCall_of (dnumR hR hL hlen) ?_
  rintro out H1 ⟨rfl, g1, hR1⟩
  simp only [WW, partV, eqCells, eqLf, minV, maxV, ifcV, zaa, zab, zac, zad, zae, zaf, zag, zah, zai, ofConst, ofConst1, List.replicate, zaj, zak, loadOp, Go.Abs.loadCells, binV, zal, pickV, zam, zan, zao, zap, zaq, zar, zas, zat, zau, outR, resAll, resOne, zav, zaw, zax, zay, zaz, zba, zbb, zbc, zbd, zbe, zbf, zbg, zbh, zbi, zbj, zbk, storeOp, storeCell, overlay, zbl, zbm, zbn, lookupOp, keyT, okRes, mapUpdateOp, zbo, zbp, zbq, zbr, zbs, zbt, zbu, Nat.reduceSub, Nat.reduceAdd, Int.reduceLT, Int.reduceLE, Int.reduceAdd, Int.reduceSub, Int.reduceToNat, Int.reduceBEq, Int.reduceBNe, Int.reduceMul, Nat.reduceBEq, Nat.reduceBNe, Nat.reduceLT, Nat.reduceLeDiff, Nat.reduceMul, Nat.reduceEqDiff, WD, effB, effH, isPriv, isHeap, isImm, zbx, zby, zbz, chkO, setD, dslot, zca, zcb, zcc, zcd, ptrCells_some, F53, buildOp, fillV, Lay.place, Bool.or_self, Bool.or_false, Bool.false_or, decide_not, ne_eq, not_true_eq_false, decide_eq_true_eq, Nat.lt_irrefl]
  refine wpCall_of (dnumR hR1 hL hlen) ?_
  rintro out H2 ⟨rfl, g2, hR2⟩
  have hf2 := g1.trans g2
  simp only [WW, partV, eqCells, eqLf, minV, maxV, ifcV, zaa, zab, zac, zad, zae, zaf, zag, zah, zai, ofConst, ofConst1, List.replicate, zaj, zak, loadOp, Go.Abs.loadCells, binV, zal, pickV, zam, zan, zao, zap, zaq, zar, zas, zat, zau, outR, resAll, resOne, zav, zaw, zax, zay, zaz, zba, zbb, zbc, zbd, zbe, zbf, zbg, zbh, zbi, zbj, zbk, storeOp, storeCell, overlay, zbl, zbm, zbn, lookupOp, keyT, okRes, mapUpdateOp, zbo, zbp, zbq, zbr, zbs, zbt, zbu, Nat.reduceSub, Nat.reduceAdd, Int.reduceLT, Int.reduceLE, Int.reduceAdd, Int.reduceSub, Int.reduceToNat, Int.reduceBEq, Int.reduceBNe, Int.reduceMul, Nat.reduceBEq, Nat.reduceBNe, Nat.reduceLT, Nat.reduceLeDiff, Nat.reduceMul, Nat.reduceEqDiff, WD, effB, effH, isPriv, isHeap, isImm, zbx, zby, zbz, chkO, setD, dslot, zca, zcb, zcc, zcd, ptrCells_some, F53, buildOp, fillV, Lay.place, Bool.or_self, Bool.or_false, Bool.false_or, decide_not, ne_eq, not_true_eq_false, decide_eq_true_eq, Nat.lt_irrefl]
  refine wpCall_of (dlistR hR2 hL hlen) ?_
  rintro out H3' ⟨y, rfl, g3', hR3', hO3⟩
  obtain ⟨H3, e3, g3, hR3⟩ := own_done g3' hR2.lt hR2.r hR3' hO3
  have hf3 := hf2.trans g3
  simp only [WW, partV, eqCells, eqLf, minV, maxV, ifcV, zaa, zab, zac, zad, zae, zaf, zag, zah, zai, ofConst, ofConst1, List.replicate, zaj, zak, loadOp, Go.Abs.loadCells, binV, zal, pickV, zam, zan, zao, zap, zaq, zar, zas, zat, zau, outR, resAll, resOne, zav, zaw, zax, zay, zaz, zba, zbb, zbc, zbd, zbe, zbf, zbg, zbh, zbi, zbj, zbk, storeOp, storeCell, overlay, zbl, zbm, zbn, lookupOp, keyT, okRes, mapUpdateOp, zbo, zbp, zbq, zbr, zbs, zbt, zbu, Nat.reduceSub, Nat.reduceAdd, Int.reduceLT, Int.reduceLE, Int.reduceAdd, Int.reduceSub, Int.reduceToNat, Int.reduceBEq, Int.reduceBNe, Int.reduceMul, Nat.reduceBEq, Nat.reduceBNe, Nat.reduceLT, Nat.reduceLeDiff, Nat.reduceMul, Nat.reduceEqDiff, WD, effB, effH, isPriv, isHeap, isImm, zbx, zby, zbz, chkO, setD, dslot, zca, zcb, zcc, zcd, ptrCells_some, F53, e3, buildOp, fillV, Lay.place, Bool.or_self, Bool.or_false, Bool.false_or, decide_not, ne_eq, not_true_eq_false, decide_eq_true_eq, Nat.lt_irrefl, repL_shut, repL_ok, repL_cells, repL_width]
  have hfn : fnS L s = (⟨(num L s).1, (num L (num L s).2).1, (allS L (intS L) (num L (num L s).2).2).1, (allS L (capS L) (allS L (intS L) (num L (num L s).2).2).2).1, (allS L (insS L) (allS L (capS L) (allS L (intS L) (num L (num L s).2).2).2).2).1, (allS L (tryS L) (allS L (insS L) (allS L (capS L) (allS L (intS L) (num L (num L s).2).2).2).2).2).1⟩, (allS L (tryS L) (allS L (insS L) (allS L (capS L) (allS L (intS L) (num L (num L s).2).2).2).2).2).2) := rfl
  rw [hfn]
  generalize (num L s).1 = a at *
  generalize (num L (num L s).2).1 = b at *
  generalize (allS L (intS L) (num L (num L s).2).2).1 = bx at *
  generalize (allS L (intS L) (num L (num L s).2).2).2 = s3 at *
  have hc1 := fun n => repL_clip (bx.map intV) n
  refine wpCall_of (dcountR hR3 hL hlen) ?_
  rintro out H4 ⟨rfl, g4, hR4⟩
  have hf4 := hf3.trans g4
  have hcl := count_le hR3.o
  simp only [WW, partV, eqCells, eqLf, minV, maxV, ifcV, zaa, zab, zac, zad, zae, zaf, zag, zah, zai, ofConst, ofConst1, List.replicate, zaj, zak, loadOp, Go.Abs.loadCells, binV, zal, pickV, zam, zan, zao, zap, zaq, zar, zas, zat, zau, outR, resAll, resOne, zav, zaw, zax, zay, zaz, zba, zbb, zbc, zbd, zbe, zbf, zbg, zbh, zbi, zbj, zbk, storeOp, storeCell, overlay, zbl, zbm, zbn, lookupOp, keyT, okRes, mapUpdateOp, zbo, zbp, zbq, zbr, zbs, zbt, zbu, Nat.reduceSub, Nat.reduceAdd, Int.reduceLT, Int.reduceLE, Int.reduceAdd, Int.reduceSub, Int.reduceToNat, Int.reduceBEq, Int.reduceBNe, Int.reduceMul, Nat.reduceBEq, Nat.reduceBNe, Nat.reduceLT, Nat.reduceLeDiff, Nat.reduceMul, Nat.reduceEqDiff, WD, effB, effH, isPriv, isHeap, isImm, zbx, zby, zbz, chkO, setD, dslot, zca, zcb, zcc, zcd, ptrCells_some, F53]
  clear hfn hR3' hO3 e3 g3' hR1 hR2 g1 g2 hf2
  refine wC_loopG (st1 := _) (nb := 2) (nr := 1) (by simp only [envG, firstReg, grow53_6, growAll, List.foldl_cons, List.foldl_nil]; exact growOne_box (by rfl) (by rfl)) rfl rfl (fun k st' H' => ∃ (n : Nat) (s1 : S) (acc : List (Int × Int)), st' = ⟨L53_6 (.v (.ptr w 0 0)) (.box 0) (.box 1) (.v (.int .i64 n)), [[.int .i64 0, .int .i64 0, .nils, .nils, .nils, .nils], [.int .i64 (a : Nat), .int .i64 (b : Nat), repL (bx.map intV), (.lr 0 acc.length), .nils, .nils]], [⟨true, true, acc.map capV⟩]⟩ ∧ k = n ∧ Ff w H H' ∧ Rr H' w x L s1 ∧ acc ++ (allG (capS L) n s1).1 = (allS L (capS L) s3).1 ∧ (allG (capS L) n s1).2 = (allS L (capS L) s3).2 ∧ acc.length + n ≤ 5000000) (count L s3).1 ⟨(count L s3).1, (count L s3).2, [], ?_, rfl, hf4, hR4, rfl, rfl, by simp only [List.length_nil]; omega⟩ ?_
  · simp only [WN, firstReg, growAll, zbv, zbw, norm, killS, zag, zah, zaa, zab, zbl, zat, zad, growOne, zae, zaf, zac, zas, zak, Nat.reduceLT, Nat.reduceAdd, zbj, zav, F53, L53_6, hc1]
    rfl
  · clear hf4 hR4 hcl
    rintro k st' H' ⟨n, s1, acc, rfl, rfl, hf, hR', hl1, hl2, hle⟩
    simp only [L53_6]
    have hb := hR'.b
    simp only [rdr] at hb
    have cont : ∀ (K : Prop), (k = 0 ∨ s1.e ≠ 0) → acc = (allS L (capS L) s3).1 ∧ s1 = (allS L (capS L) s3).2 := fun _ h => by
      cases k with
      | zero => simp only [allG, List.append_nil] at hl1 hl2; exact ⟨hl1, hl2⟩
      | succ n =>
        cases he : s1.e with
        | zero => rw [he] at h; simp at h
        | succ e1 => simp only [allG, he, List.append_nil] at hl1 hl2; exact ⟨hl1, hl2⟩
    by_cases hgo : k ≠ 0 ∧ s1.e = 0
    · obtain ⟨n, rfl⟩ : ∃ n, k = n + 1 := ⟨k - 1, by omega⟩
      have he := hgo.2
      rw [he] at hb
      have g1 : decide ((0 : Int) < ((n + 1 : Nat) : Int)) = true := decide_eq_true (by omega)
      have g2 : (((0 : Nat) : Int) == 0) = true := rfl
      simp only [allG, he] at hl1 hl2
      simp only [WW, partV, eqCells, eqLf, minV, maxV, ifcV, zaa, zab, zac, zad, zae, zaf, zag, zah, zai, ofConst, ofConst1, List.replicate, zaj, zak, loadOp, Go.Abs.loadCells, binV, zal, pickV, zam, zan, zao, zap, zaq, zar, zas, zat, zau, outR, resAll, resOne, zav, zaw, zax, zay, zaz, zba, zbb, zbc, zbd, zbe, zbf, zbg, zbh, zbi, zbj, zbk, storeOp, storeCell, overlay, zbl, zbm, zbn, lookupOp, keyT, okRes, mapUpdateOp, zbo, zbp, zbq, zbr, zbs, zbt, zbu, Nat.reduceSub, Nat.reduceAdd, Int.reduceLT, Int.reduceLE, Int.reduceAdd, Int.reduceSub, Int.reduceToNat, Int.reduceBEq, Int.reduceBNe, Int.reduceMul, Nat.reduceBEq, Nat.reduceBNe, Nat.reduceLT, Nat.reduceLeDiff, Nat.reduceMul, Nat.reduceEqDiff, WD, effB, effH, isPriv, isHeap, isImm, zbx, zby, zbz, chkO, setD, dslot, zca, zcb, zcc, zcd, ptrCells_some, F53, g1, g2, hb]
      refine wpCall_of (dnumR hR' hL hlen) ?_
      rintro out G0 ⟨rfl, u0, hQ0⟩
      simp only [WW, partV, eqCells, eqLf, minV, maxV, ifcV, zaa, zab, zac, zad, zae, zaf, zag, zah, zai, ofConst, ofConst1, List.replicate, zaj, zak, loadOp, Go.Abs.loadCells, binV, zal, pickV, zam, zan, zao, zap, zaq, zar, zas, zat, zau, outR, resAll, resOne, zav, zaw, zax, zay, zaz, zba, zbb, zbc, zbd, zbe, zbf, zbg, zbh, zbi, zbj, zbk, storeOp, storeCell, overlay, zbl, zbm, zbn, lookupOp, keyT, okRes, mapUpdateOp, zbo, zbp, zbq, zbr, zbs, zbt, zbu, Nat.reduceSub, Nat.reduceAdd, Int.reduceLT, Int.reduceLE, Int.reduceAdd, Int.reduceSub, Int.reduceToNat, Int.reduceBEq, Int.reduceBNe, Int.reduceMul, Nat.reduceBEq, Nat.reduceBNe, Nat.reduceLT, Nat.reduceLeDiff, Nat.reduceMul, Nat.reduceEqDiff, WD, effB, effH, isPriv, isHeap, isImm, zbx, zby, zbz, chkO, setD, dslot, zca, zcb, zcc, zcd, ptrCells_some, F53]
      obtain ⟨out, G1, hc, rfl, u1, hQ1⟩ := wpCall_run (dnumR hQ0 hL hlen)
      have hcw : ∀ K, wpCall (evW Tryd.prog notes) 52 [.ptr w 0 0] G0 K = K _ G1 := fun K => wpCall_eq hc
      simp only at hcw
      have hsub : IntKind.i64.wrap (((n + 1 : Nat) : Int) - 1) = (n : Int) := by rw [IntWalk.i64_in _ (by omega)]; omega
      have hwa : wideAll (acc.map capV) 2 = true := wide_mapN (f := capV) (fun _ => rfl) acc
      have hwv : wideAll [capV (capS L s1).1] 2 = true := rfl
      have hel : elemOk Tryd.prog 105 (acc.length + [capV (capS L s1).1].length) = true := by rw [room105]; simp; omega
      have hap : ∀ (s : List Slot) (b : List (List V)) (H : Hp), appendOp Tryd.prog .priv ⟨s, b, [⟨true, true, acc.map capV⟩]⟩ H (some 44) 105 (.lr 0 acc.length) [capV (capS L s1).1] = some (⟨s.set 44 (.v (.lr 0 (acc.length + 1))), b, [⟨true, true, acc.map capV ++ [capV (capS L s1).1]⟩]⟩, H) := fun s b H => app_own (q := ⟨true, true, acc.map capV⟩) rfl rfl (List.length_map ..).symm hel (by rw [size105]; exact hwa) (by rw [size105]; exact hwv)
      simp only [capV, capS] at hap hwv
      refine wC_dr alts53_9 (by kernel_rfl) ?_
      simp only [WW, partV, eqCells, eqLf, minV, maxV, ifcV, zaa, zab, zac, zad, zae, zaf, zag, zah, zai, ofConst, ofConst1, List.replicate, zaj, zak, loadOp, Go.Abs.loadCells, binV, zal, pickV, zam, zan, zao, zap, zaq, zar, zas, zat, zau, outR, resAll, resOne, zav, zaw, zax, zay, zaz, zba, zbb, zbc, zbd, zbe, zbf, zbg, zbh, zbi, zbj, zbk, storeOp, storeCell, overlay, zbl, zbm, zbn, lookupOp, keyT, okRes, mapUpdateOp, zbo, zbp, zbq, zbr, zbs, zbt, zbu, Nat.reduceSub, Nat.reduceAdd, Int.reduceLT, Int.reduceLE, Int.reduceAdd, Int.reduceSub, Int.reduceToNat, Int.reduceBEq, Int.reduceBNe, Int.reduceMul, Nat.reduceBEq, Nat.reduceBNe, Nat.reduceLT, Nat.reduceLeDiff, Nat.reduceMul, Nat.reduceEqDiff, WD, effB, effH, isPriv, isHeap, isImm, zbx, zby, zbz, chkO, setD, dslot, zca, zcb, zcc, zcd, ptrCells_some, F53, hcw, buildOp, fillV, Lay.place, Bool.or_self, Bool.or_false, Bool.false_or, decide_not, ne_eq, not_true_eq_false, decide_eq_true_eq, Nat.lt_irrefl, buildSliceV, lits, srcV_eq, srcK_sl, srcK_str, srcSl_nils, srcSl_rsl, srcSl_sl, frow, zbv, zbw, List.all_nil, List.all_cons, rowV, Bool.false_and, Bool.and_false, not_false_eq_true, grows_lr, callOut_t, hap, alts53_9, hsub, repL_shut, repL_ok, repL_cells, repL_width]
      refine ⟨n, by omega, n, (capS L s1).2, acc ++ [(capS L s1).1], ?_, rfl, ((hf.trans u0).trans u1), hQ1, by rw [List.append_assoc]; exact hl1, hl2, by rw [List.length_append, List.length_singleton]; omega⟩
      simp only [WN, firstReg, growAll, zbv, zbw, norm, killS, zag, zah, zaa, zab, zbl, zat, zad, growOne, zae, zaf, zac, zas, zak, Nat.reduceLT, Nat.reduceAdd, zbj, zav, F53, hc1, hsub, List.map_append, List.length_append, List.length_singleton]
      rfl
    · obtain ⟨ha, hs⟩ := cont True (by
        by_cases h0 : k = 0
        · exact .inl h0
        · exact .inr fun h => hgo ⟨h0, h⟩)
      have hbr : (k = 0) ∨ (k ≠ 0 ∧ s1.e ≠ 0) := by
        by_cases h0 : k = 0
        · exact .inl h0
        · exact .inr ⟨h0, fun h => hgo ⟨h0, h⟩⟩
      clear cont hgo hl1 hl2 hle
      subst hs
      have g0 : (decide ((0 : Int) < (k : Int)) = false) ∨ (decide ((0 : Int) < (k : Int)) = true ∧ (((allS L (capS L) s3).2.e : Int) == 0) = false) := by
        rcases hbr with h | ⟨h1, h2⟩
        · exact .inl (decide_eq_false (by omega))
        · exact .inr ⟨decide_eq_true (by omega), by rw [beq_eq_false_iff_ne]; omega⟩
      subst ha
      rcases g0 with g0 | ⟨g0, g00⟩
      · simp only [WW, partV, eqCells, eqLf, minV, maxV, ifcV, zaa, zab, zac, zad, zae, zaf, zag, zah, zai, ofConst, ofConst1, List.replicate, zaj, zak, loadOp, Go.Abs.loadCells, binV, zal, pickV, zam, zan, zao, zap, zaq, zar, zas, zat, zau, outR, resAll, resOne, zav, zaw, zax, zay, zaz, zba, zbb, zbc, zbd, zbe, zbf, zbg, zbh, zbi, zbj, zbk, storeOp, storeCell, overlay, zbl, zbm, zbn, lookupOp, keyT, okRes, mapUpdateOp, zbo, zbp, zbq, zbr, zbs, zbt, zbu, Nat.reduceSub, Nat.reduceAdd, Int.reduceLT, Int.reduceLE, Int.reduceAdd, Int.reduceSub, Int.reduceToNat, Int.reduceBEq, Int.reduceBNe, Int.reduceMul, Nat.reduceBEq, Nat.reduceBNe, Nat.reduceLT, Nat.reduceLeDiff, Nat.reduceMul, Nat.reduceEqDiff, WD, effB, effH, isPriv, isHeap, isImm, zbx, zby, zbz, chkO, setD, dslot, zca, zcb, zcc, zcd, ptrCells_some, F53, g0]
        refine wpCall_of (dcountR hR' hL hlen) ?_
        rintro out H4 ⟨rfl, g4, hR4⟩
        have hf4 := hf.trans g4
        have hcl := count_le hR'.o
        simp only [WW, partV, eqCells, eqLf, minV, maxV, ifcV, zaa, zab, zac, zad, zae, zaf, zag, zah, zai, ofConst, ofConst1, List.replicate, zaj, zak, loadOp, Go.Abs.loadCells, binV, zal, pickV, zam, zan, zao, zap, zaq, zar, zas, zat, zau, outR, resAll, resOne, zav, zaw, zax, zay, zaz, zba, zbb, zbc, zbd, zbe, zbf, zbg, zbh, zbi, zbj, zbk, storeOp, storeCell, overlay, zbl, zbm, zbn, lookupOp, keyT, okRes, mapUpdateOp, zbo, zbp, zbq, zbr, zbs, zbt, zbu, Nat.reduceSub, Nat.reduceAdd, Int.reduceLT, Int.reduceLE, Int.reduceAdd, Int.reduceSub, Int.reduceToNat, Int.reduceBEq, Int.reduceBNe, Int.reduceMul, Nat.reduceBEq, Nat.reduceBNe, Nat.reduceLT, Nat.reduceLeDiff, Nat.reduceMul, Nat.reduceEqDiff, WD, effB, effH, isPriv, isHeap, isImm, zbx, zby, zbz, chkO, setD, dslot, zca, zcb, zcc, zcd, ptrCells_some, F53]
        refine wC_loopG (st1 := _) (nb := 2) (nr := 2) (by simp only [envG, firstReg, grow53_11, growAll, List.foldl_cons, List.foldl_nil]; exact growOne_box (by rfl) (by rfl)) rfl rfl (fun k st' H' => ∃ (n : Nat) (s1 : S) (acc : List (Int × Int × Int)), st' = ⟨L53_11 (.v (.ptr w 0 0)) (.box 0) (.box 1) (.v (.int .i64 n)), [[.int .i64 0, .int .i64 0, .nils, .nils, .nils, .nils], [.int .i64 (a : Nat), .int .i64 (b : Nat), repL (bx.map intV), .lr 0 (allS L (capS L) s3).1.length, (.lr 1 acc.length), .nils]], [⟨true, true, (allS L (capS L) s3).1.map capV⟩, ⟨true, true, acc.map inV⟩]⟩ ∧ k = n ∧ Ff w H H' ∧ Rr H' w x L s1 ∧ acc ++ (allG (insS L) n s1).1 = (allS L (insS L) (allS L (capS L) s3).2).1 ∧ (allG (insS L) n s1).2 = (allS L (insS L) (allS L (capS L) s3).2).2 ∧ acc.length + n ≤ 5000000) (count L (allS L (capS L) s3).2).1 ⟨(count L (allS L (capS L) s3).2).1, (count L (allS L (capS L) s3).2).2, [], ?_, rfl, hf4, hR4, rfl, rfl, by simp only [List.length_nil]; omega⟩ ?_
        · simp only [WN, firstReg, growAll, zbv, zbw, norm, killS, zag, zah, zaa, zab, zbl, zat, zad, growOne, zae, zaf, zac, zas, zak, Nat.reduceLT, Nat.reduceAdd, zbj, zav, F53, L53_11, hc1]
          rfl
        · clear hf4 hR4 hcl
          rintro k st' H' ⟨n, s1, acc, rfl, rfl, hf, hR', hl1, hl2, hle⟩
          simp only [L53_11]
          have hb := hR'.b
          simp only [rdr] at hb
          have cont : ∀ (K : Prop), (k = 0 ∨ s1.e ≠ 0) → acc = (allS L (insS L) (allS L (capS L) s3).2).1 ∧ s1 = (allS L (insS L) (allS L (capS L) s3).2).2 := fun _ h => by
            cases k with
            | zero => simp only [allG, List.append_nil] at hl1 hl2; exact ⟨hl1, hl2⟩
            | succ n =>
              cases he : s1.e with
              | zero => rw [he] at h; simp at h
              | succ e1 => simp only [allG, he, List.append_nil] at hl1 hl2; exact ⟨hl1, hl2⟩
          by_cases hgo : k ≠ 0 ∧ s1.e = 0
          · obtain ⟨n, rfl⟩ : ∃ n, k = n + 1 := ⟨k - 1, by omega⟩
            have he := hgo.2
            rw [he] at hb
            have g1 : decide ((0 : Int) < ((n + 1 : Nat) : Int)) = true := decide_eq_true (by omega)
            have g2 : (((0 : Nat) : Int) == 0) = true := rfl
            simp only [allG, he] at hl1 hl2
            simp only [WW, partV, eqCells, eqLf, minV, maxV, ifcV, zaa, zab, zac, zad, zae, zaf, zag, zah, zai, ofConst, ofConst1, List.replicate, zaj, zak, loadOp, Go.Abs.loadCells, binV, zal, pickV, zam, zan, zao, zap, zaq, zar, zas, zat, zau, outR, resAll, resOne, zav, zaw, zax, zay, zaz, zba, zbb, zbc, zbd, zbe, zbf, zbg, zbh, zbi, zbj, zbk, storeOp, storeCell, overlay, zbl, zbm, zbn, lookupOp, keyT, okRes, mapUpdateOp, zbo, zbp, zbq, zbr, zbs, zbt, zbu, Nat.reduceSub, Nat.reduceAdd, Int.reduceLT, Int.reduceLE, Int.reduceAdd, Int.reduceSub, Int.reduceToNat, Int.reduceBEq, Int.reduceBNe, Int.reduceMul, Nat.reduceBEq, Nat.reduceBNe, Nat.reduceLT, Nat.reduceLeDiff, Nat.reduceMul, Nat.reduceEqDiff, WD, effB, effH, isPriv, isHeap, isImm, zbx, zby, zbz, chkO, setD, dslot, zca, zcb, zcc, zcd, ptrCells_some, F53, g1, g2, hb]
            refine wpCall_of (dnumR hR' hL hlen) ?_
            rintro out G0 ⟨rfl, u0, hQ0⟩
            simp only [WW, partV, eqCells, eqLf, minV, maxV, ifcV, zaa, zab, zac, zad, zae, zaf, zag, zah, zai, ofConst, ofConst1, List.replicate, zaj, zak, loadOp, Go.Abs.loadCells, binV, zal, pickV, zam, zan, zao, zap, zaq, zar, zas, zat, zau, outR, resAll, resOne, zav, zaw, zax, zay, zaz, zba, zbb, zbc, zbd, zbe, zbf, zbg, zbh, zbi, zbj, zbk, storeOp, storeCell, overlay, zbl, zbm, zbn, lookupOp, keyT, okRes, mapUpdateOp, zbo, zbp, zbq, zbr, zbs, zbt, zbu, Nat.reduceSub, Nat.reduceAdd, Int.reduceLT, Int.reduceLE, Int.reduceAdd, Int.reduceSub, Int.reduceToNat, Int.reduceBEq, Int.reduceBNe, Int.reduceMul, Nat.reduceBEq, Nat.reduceBNe, Nat.reduceLT, Nat.reduceLeDiff, Nat.reduceMul, Nat.reduceEqDiff, WD, effB, effH, isPriv, isHeap, isImm, zbx, zby, zbz, chkO, setD, dslot, zca, zcb, zcc, zcd, ptrCells_some, F53]
            refine wpCall_of (dsgnR hQ0 hL hlen) ?_
            rintro out G1 ⟨rfl, u1, hQ1⟩
            simp only [WW, partV, eqCells, eqLf, minV, maxV, ifcV, zaa, zab, zac, zad, zae, zaf, zag, zah, zai, ofConst, ofConst1, List.replicate, zaj, zak, loadOp, Go.Abs.loadCells, binV, zal, pickV, zam, zan, zao, zap, zaq, zar, zas, zat, zau, outR, resAll, resOne, zav, zaw, zax, zay, zaz, zba, zbb, zbc, zbd, zbe, zbf, zbg, zbh, zbi, zbj, zbk, storeOp, storeCell, overlay, zbl, zbm, zbn, lookupOp, keyT, okRes, mapUpdateOp, zbo, zbp, zbq, zbr, zbs, zbt, zbu, Nat.reduceSub, Nat.reduceAdd, Int.reduceLT, Int.reduceLE, Int.reduceAdd, Int.reduceSub, Int.reduceToNat, Int.reduceBEq, Int.reduceBNe, Int.reduceMul, Nat.reduceBEq, Nat.reduceBNe, Nat.reduceLT, Nat.reduceLeDiff, Nat.reduceMul, Nat.reduceEqDiff, WD, effB, effH, isPriv, isHeap, isImm, zbx, zby, zbz, chkO, setD, dslot, zca, zcb, zcc, zcd, ptrCells_some, F53]
            obtain ⟨out, G2, hc, rfl, u2, hQ2⟩ := wpCall_run (dsgnR hQ1 hL hlen)
            have hcw : ∀ K, wpCall (evW Tryd.prog notes) 75 [.ptr w 0 0] G1 K = K _ G2 := fun K => wpCall_eq hc
            simp only at hcw
            have hsub : IntKind.i64.wrap (((n + 1 : Nat) : Int) - 1) = (n : Int) := by rw [IntWalk.i64_in _ (by omega)]; omega
            have hwa : wideAll (acc.map inV) 3 = true := wide_mapN (f := inV) (fun _ => rfl) acc
            have hwv : wideAll [inV (insS L s1).1] 3 = true := rfl
            have hel : elemOk Tryd.prog 52 (acc.length + [inV (insS L s1).1].length) = true := by rw [room52]; simp; omega
            have hap : ∀ (s : List Slot) (b : List (List V)) (H : Hp), appendOp Tryd.prog .priv ⟨s, b, [⟨true, true, (allS L (capS L) s3).1.map capV⟩, ⟨true, true, acc.map inV⟩]⟩ H (some 71) 52 (.lr 1 acc.length) [inV (insS L s1).1] = some (⟨s.set 71 (.v (.lr 1 (acc.length + 1))), b, [⟨true, true, (allS L (capS L) s3).1.map capV⟩, ⟨true, true, acc.map inV ++ [inV (insS L s1).1]⟩]⟩, H) := fun s b H => app_own (q := ⟨true, true, acc.map inV⟩) rfl rfl (List.length_map ..).symm hel (by rw [size52]; exact hwa) (by rw [size52]; exact hwv)
            simp only [inV, insS] at hap hwv
            refine wC_dr alts53_15 (by kernel_rfl) ?_
            simp only [WW, partV, eqCells, eqLf, minV, maxV, ifcV, zaa, zab, zac, zad, zae, zaf, zag, zah, zai, ofConst, ofConst1, List.replicate, zaj, zak, loadOp, Go.Abs.loadCells, binV, zal, pickV, zam, zan, zao, zap, zaq, zar, zas, zat, zau, outR, resAll, resOne, zav, zaw, zax, zay, zaz, zba, zbb, zbc, zbd, zbe, zbf, zbg, zbh, zbi, zbj, zbk, storeOp, storeCell, overlay, zbl, zbm, zbn, lookupOp, keyT, okRes, mapUpdateOp, zbo, zbp, zbq, zbr, zbs, zbt, zbu, Nat.reduceSub, Nat.reduceAdd, Int.reduceLT, Int.reduceLE, Int.reduceAdd, Int.reduceSub, Int.reduceToNat, Int.reduceBEq, Int.reduceBNe, Int.reduceMul, Nat.reduceBEq, Nat.reduceBNe, Nat.reduceLT, Nat.reduceLeDiff, Nat.reduceMul, Nat.reduceEqDiff, WD, effB, effH, isPriv, isHeap, isImm, zbx, zby, zbz, chkO, setD, dslot, zca, zcb, zcc, zcd, ptrCells_some, F53, hcw, buildOp, fillV, Lay.place, Bool.or_self, Bool.or_false, Bool.false_or, decide_not, ne_eq, not_true_eq_false, decide_eq_true_eq, Nat.lt_irrefl, buildSliceV, lits, srcV_eq, srcK_sl, srcK_str, srcSl_nils, srcSl_rsl, srcSl_sl, frow, zbv, zbw, List.all_nil, List.all_cons, rowV, Bool.false_and, Bool.and_false, not_false_eq_true, grows_lr, callOut_t, hap, alts53_15, hsub, repL_shut, repL_ok, repL_cells, repL_width]
            refine ⟨n, by omega, n, (insS L s1).2, acc ++ [(insS L s1).1], ?_, rfl, (((hf.trans u0).trans u1).trans u2), hQ2, by rw [List.append_assoc]; exact hl1, hl2, by rw [List.length_append, List.length_singleton]; omega⟩
            simp only [WN, firstReg, growAll, zbv, zbw, norm, killS, zag, zah, zaa, zab, zbl, zat, zad, growOne, zae, zaf, zac, zas, zak, Nat.reduceLT, Nat.reduceAdd, zbj, zav, F53, hc1, hsub, List.map_append, List.length_append, List.length_singleton]
            rfl
          · obtain ⟨ha, hs⟩ := cont True (by
              by_cases h0 : k = 0
              · exact .inl h0
              · exact .inr fun h => hgo ⟨h0, h⟩)
            have hbr : (k = 0) ∨ (k ≠ 0 ∧ s1.e ≠ 0) := by
              by_cases h0 : k = 0
              · exact .inl h0
              · exact .inr ⟨h0, fun h => hgo ⟨h0, h⟩⟩
            clear cont hgo hl1 hl2 hle
            subst hs
            have g0 : (decide ((0 : Int) < (k : Int)) = false) ∨ (decide ((0 : Int) < (k : Int)) = true ∧ (((allS L (insS L) (allS L (capS L) s3).2).2.e : Int) == 0) = false) := by
              rcases hbr with h | ⟨h1, h2⟩
              · exact .inl (decide_eq_false (by omega))
              · exact .inr ⟨decide_eq_true (by omega), by rw [beq_eq_false_iff_ne]; omega⟩
            subst ha
            rcases g0 with g0 | ⟨g0, g00⟩
            · simp only [WW, partV, eqCells, eqLf, minV, maxV, ifcV, zaa, zab, zac, zad, zae, zaf, zag, zah, zai, ofConst, ofConst1, List.replicate, zaj, zak, loadOp, Go.Abs.loadCells, binV, zal, pickV, zam, zan, zao, zap, zaq, zar, zas, zat, zau, outR, resAll, resOne, zav, zaw, zax, zay, zaz, zba, zbb, zbc, zbd, zbe, zbf, zbg, zbh, zbi, zbj, zbk, storeOp, storeCell, overlay, zbl, zbm, zbn, lookupOp, keyT, okRes, mapUpdateOp, zbo, zbp, zbq, zbr, zbs, zbt, zbu, Nat.reduceSub, Nat.reduceAdd, Int.reduceLT, Int.reduceLE, Int.reduceAdd, Int.reduceSub, Int.reduceToNat, Int.reduceBEq, Int.reduceBNe, Int.reduceMul, Nat.reduceBEq, Nat.reduceBNe, Nat.reduceLT, Nat.reduceLeDiff, Nat.reduceMul, Nat.reduceEqDiff, WD, effB, effH, isPriv, isHeap, isImm, zbx, zby, zbz, chkO, setD, dslot, zca, zcb, zcc, zcd, ptrCells_some, F53, g0]
              refine wpCall_of (dcountR hR' hL hlen) ?_
              rintro out H4 ⟨rfl, g4, hR4⟩
              have hf4 := hf.trans g4
              have hcl := count_le hR'.o
              simp only [WW, partV, eqCells, eqLf, minV, maxV, ifcV, zaa, zab, zac, zad, zae, zaf, zag, zah, zai, ofConst, ofConst1, List.replicate, zaj, zak, loadOp, Go.Abs.loadCells, binV, zal, pickV, zam, zan, zao, zap, zaq, zar, zas, zat, zau, outR, resAll, resOne, zav, zaw, zax, zay, zaz, zba, zbb, zbc, zbd, zbe, zbf, zbg, zbh, zbi, zbj, zbk, storeOp, storeCell, overlay, zbl, zbm, zbn, lookupOp, keyT, okRes, mapUpdateOp, zbo, zbp, zbq, zbr, zbs, zbt, zbu, Nat.reduceSub, Nat.reduceAdd, Int.reduceLT, Int.reduceLE, Int.reduceAdd, Int.reduceSub, Int.reduceToNat, Int.reduceBEq, Int.reduceBNe, Int.reduceMul, Nat.reduceBEq, Nat.reduceBNe, Nat.reduceLT, Nat.reduceLeDiff, Nat.reduceMul, Nat.reduceEqDiff, WD, effB, effH, isPriv, isHeap, isImm, zbx, zby, zbz, chkO, setD, dslot, zca, zcb, zcc, zcd, ptrCells_some, F53]
              refine wC_loopG (st1 := _) (nb := 2) (nr := 3) (by simp only [envG, firstReg, grow53_17, growAll, List.foldl_cons, List.foldl_nil]; exact growOne_box (by rfl) (by rfl)) rfl rfl (fun k st' H' => ∃ (n : Nat) (s1 : S) (acc : List (Int × Int × Int × Int)), st' = ⟨L53_17 (.v (.ptr w 0 0)) (.box 0) (.box 1) (.v (.int .i64 n)), [[.int .i64 0, .int .i64 0, .nils, .nils, .nils, .nils], [.int .i64 (a : Nat), .int .i64 (b : Nat), repL (bx.map intV), .lr 0 (allS L (capS L) s3).1.length, .lr 1 (allS L (insS L) (allS L (capS L) s3).2).1.length, (.lr 2 acc.length)]], [⟨true, true, (allS L (capS L) s3).1.map capV⟩, ⟨true, true, (allS L (insS L) (allS L (capS L) s3).2).1.map inV⟩, ⟨true, true, acc.map tryV⟩]⟩ ∧ k = n ∧ Ff w H H' ∧ Rr H' w x L s1 ∧ acc ++ (allG (tryS L) n s1).1 = (allS L (tryS L) (allS L (insS L) (allS L (capS L) s3).2).2).1 ∧ (allG (tryS L) n s1).2 = (allS L (tryS L) (allS L (insS L) (allS L (capS L) s3).2).2).2 ∧ acc.length + n ≤ 5000000) (count L (allS L (insS L) (allS L (capS L) s3).2).2).1 ⟨(count L (allS L (insS L) (allS L (capS L) s3).2).2).1, (count L (allS L (insS L) (allS L (capS L) s3).2).2).2, [], ?_, rfl, hf4, hR4, rfl, rfl, by simp only [List.length_nil]; omega⟩ ?_
              · simp only [WN, firstReg, growAll, zbv, zbw, norm, killS, zag, zah, zaa, zab, zbl, zat, zad, growOne, zae, zaf, zac, zas, zak, Nat.reduceLT, Nat.reduceAdd, zbj, zav, F53, L53_17, hc1]
                rfl
              · clear hf4 hR4 hcl
                rintro k st' H' ⟨n, s1, acc, rfl, rfl, hf, hR', hl1, hl2, hle⟩
                simp only [L53_17]
                have hb := hR'.b
                simp only [rdr] at hb
                have cont : ∀ (K : Prop), (k = 0 ∨ s1.e ≠ 0) → acc = (allS L (tryS L) (allS L (insS L) (allS L (capS L) s3).2).2).1 ∧ s1 = (allS L (tryS L) (allS L (insS L) (allS L (capS L) s3).2).2).2 := fun _ h => by
                  cases k with
                  | zero => simp only [allG, List.append_nil] at hl1 hl2; exact ⟨hl1, hl2⟩
                  | succ n =>
                    cases he : s1.e with
                    | zero => rw [he] at h; simp at h
                    | succ e1 => simp only [allG, he, List.append_nil] at hl1 hl2; exact ⟨hl1, hl2⟩
                by_cases hgo : k ≠ 0 ∧ s1.e = 0
                · obtain ⟨n, rfl⟩ : ∃ n, k = n + 1 := ⟨k - 1, by omega⟩
                  have he := hgo.2
                  rw [he] at hb
                  have g1 : decide ((0 : Int) < ((n + 1 : Nat) : Int)) = true := decide_eq_true (by omega)
                  have g2 : (((0 : Nat) : Int) == 0) = true := rfl
                  simp only [allG, he] at hl1 hl2
                  simp only [WW, partV, eqCells, eqLf, minV, maxV, ifcV, zaa, zab, zac, zad, zae, zaf, zag, zah, zai, ofConst, ofConst1, List.replicate, zaj, zak, loadOp, Go.Abs.loadCells, binV, zal, pickV, zam, zan, zao, zap, zaq, zar, zas, zat, zau, outR, resAll, resOne, zav, zaw, zax, zay, zaz, zba, zbb, zbc, zbd, zbe, zbf, zbg, zbh, zbi, zbj, zbk, storeOp, storeCell, overlay, zbl, zbm, zbn, lookupOp, keyT, okRes, mapUpdateOp, zbo, zbp, zbq, zbr, zbs, zbt, zbu, Nat.reduceSub, Nat.reduceAdd, Int.reduceLT, Int.reduceLE, Int.reduceAdd, Int.reduceSub, Int.reduceToNat, Int.reduceBEq, Int.reduceBNe, Int.reduceMul, Nat.reduceBEq, Nat.reduceBNe, Nat.reduceLT, Nat.reduceLeDiff, Nat.reduceMul, Nat.reduceEqDiff, WD, effB, effH, isPriv, isHeap, isImm, zbx, zby, zbz, chkO, setD, dslot, zca, zcb, zcc, zcd, ptrCells_some, F53, g1, g2, hb]
                  refine wpCall_of (dnumR hR' hL hlen) ?_
                  rintro out G0 ⟨rfl, u0, hQ0⟩
                  simp only [WW, partV, eqCells, eqLf, minV, maxV, ifcV, zaa, zab, zac, zad, zae, zaf, zag, zah, zai, ofConst, ofConst1, List.replicate, zaj, zak, loadOp, Go.Abs.loadCells, binV, zal, pickV, zam, zan, zao, zap, zaq, zar, zas, zat, zau, outR, resAll, resOne, zav, zaw, zax, zay, zaz, zba, zbb, zbc, zbd, zbe, zbf, zbg, zbh, zbi, zbj, zbk, storeOp, storeCell, overlay, zbl, zbm, zbn, lookupOp, keyT, okRes, mapUpdateOp, zbo, zbp, zbq, zbr, zbs, zbt, zbu, Nat.reduceSub, Nat.reduceAdd, Int.reduceLT, Int.reduceLE, Int.reduceAdd, Int.reduceSub, Int.reduceToNat, Int.reduceBEq, Int.reduceBNe, Int.reduceMul, Nat.reduceBEq, Nat.reduceBNe, Nat.reduceLT, Nat.reduceLeDiff, Nat.reduceMul, Nat.reduceEqDiff, WD, effB, effH, isPriv, isHeap, isImm, zbx, zby, zbz, chkO, setD, dslot, zca, zcb, zcc, zcd, ptrCells_some, F53]
                  refine wpCall_of (dnumR hQ0 hL hlen) ?_
                  rintro out G1 ⟨rfl, u1, hQ1⟩
                  simp only [WW, partV, eqCells, eqLf, minV, maxV, ifcV, zaa, zab, zac, zad, zae, zaf, zag, zah, zai, ofConst, ofConst1, List.replicate, zaj, zak, loadOp, Go.Abs.loadCells, binV, zal, pickV, zam, zan, zao, zap, zaq, zar, zas, zat, zau, outR, resAll, resOne, zav, zaw, zax, zay, zaz, zba, zbb, zbc, zbd, zbe, zbf, zbg, zbh, zbi, zbj, zbk, storeOp, storeCell, overlay, zbl, zbm, zbn, lookupOp, keyT, okRes, mapUpdateOp, zbo, zbp, zbq, zbr, zbs, zbt, zbu, Nat.reduceSub, Nat.reduceAdd, Int.reduceLT, Int.reduceLE, Int.reduceAdd, Int.reduceSub, Int.reduceToNat, Int.reduceBEq, Int.reduceBNe, Int.reduceMul, Nat.reduceBEq, Nat.reduceBNe, Nat.reduceLT, Nat.reduceLeDiff, Nat.reduceMul, Nat.reduceEqDiff, WD, effB, effH, isPriv, isHeap, isImm, zbx, zby, zbz, chkO, setD, dslot, zca, zcb, zcc, zcd, ptrCells_some, F53]
                  refine wpCall_of (dnumR hQ1 hL hlen) ?_
                  rintro out G2 ⟨rfl, u2, hQ2⟩
                  simp only [WW, partV, eqCells, eqLf, minV, maxV, ifcV, zaa, zab, zac, zad, zae, zaf, zag, zah, zai, ofConst, ofConst1, List.replicate, zaj, zak, loadOp, Go.Abs.loadCells, binV, zal, pickV, zam, zan, zao, zap, zaq, zar, zas, zat, zau, outR, resAll, resOne, zav, zaw, zax, zay, zaz, zba, zbb, zbc, zbd, zbe, zbf, zbg, zbh, zbi, zbj, zbk, storeOp, storeCell, overlay, zbl, zbm, zbn, lookupOp, keyT, okRes, mapUpdateOp, zbo, zbp, zbq, zbr, zbs, zbt, zbu, Nat.reduceSub, Nat.reduceAdd, Int.reduceLT, Int.reduceLE, Int.reduceAdd, Int.reduceSub, Int.reduceToNat, Int.reduceBEq, Int.reduceBNe, Int.reduceMul, Nat.reduceBEq, Nat.reduceBNe, Nat.reduceLT, Nat.reduceLeDiff, Nat.reduceMul, Nat.reduceEqDiff, WD, effB, effH, isPriv, isHeap, isImm, zbx, zby, zbz, chkO, setD, dslot, zca, zcb, zcc, zcd, ptrCells_some, F53]
                  obtain ⟨out, G3, hc, rfl, u3, hQ3⟩ := wpCall_run (dnumR hQ2 hL hlen)
                  have hcw : ∀ K, wpCall (evW Tryd.prog notes) 52 [.ptr w 0 0] G2 K = K _ G3 := fun K => wpCall_eq hc
                  simp only at hcw
                  have hsub : IntKind.i64.wrap (((n + 1 : Nat) : Int) - 1) = (n : Int) := by rw [IntWalk.i64_in _ (by omega)]; omega
                  have hwa : wideAll (acc.map tryV) 4 = true := wide_mapN (f := tryV) (fun _ => rfl) acc
                  have hwv : wideAll [tryV (tryS L s1).1] 4 = true := rfl
                  have hel : elemOk Tryd.prog 107 (acc.length + [tryV (tryS L s1).1].length) = true := by rw [room107]; simp; omega
                  have hap : ∀ (s : List Slot) (b : List (List V)) (H : Hp), appendOp Tryd.prog .priv ⟨s, b, [⟨true, true, (allS L (capS L) s3).1.map capV⟩, ⟨true, true, (allS L (insS L) (allS L (capS L) s3).2).1.map inV⟩, ⟨true, true, acc.map tryV⟩]⟩ H (some 101) 107 (.lr 2 acc.length) [tryV (tryS L s1).1] = some (⟨s.set 101 (.v (.lr 2 (acc.length + 1))), b, [⟨true, true, (allS L (capS L) s3).1.map capV⟩, ⟨true, true, (allS L (insS L) (allS L (capS L) s3).2).1.map inV⟩, ⟨true, true, acc.map tryV ++ [tryV (tryS L s1).1]⟩]⟩, H) := fun s b H => app_own (q := ⟨true, true, acc.map tryV⟩) rfl rfl (List.length_map ..).symm hel (by rw [size107]; exact hwa) (by rw [size107]; exact hwv)
                  simp only [tryV, tryS] at hap hwv
                  refine wC_dr alts53_22 (by kernel_rfl) ?_
                  simp only [WW, partV, eqCells, eqLf, minV, maxV, ifcV, zaa, zab, zac, zad, zae, zaf, zag, zah, zai, ofConst, ofConst1, List.replicate, zaj, zak, loadOp, Go.Abs.loadCells, binV, zal, pickV, zam, zan, zao, zap, zaq, zar, zas, zat, zau, outR, resAll, resOne, zav, zaw, zax, zay, zaz, zba, zbb, zbc, zbd, zbe, zbf, zbg, zbh, zbi, zbj, zbk, storeOp, storeCell, overlay, zbl, zbm, zbn, lookupOp, keyT, okRes, mapUpdateOp, zbo, zbp, zbq, zbr, zbs, zbt, zbu, Nat.reduceSub, Nat.reduceAdd, Int.reduceLT, Int.reduceLE, Int.reduceAdd, Int.reduceSub, Int.reduceToNat, Int.reduceBEq, Int.reduceBNe, Int.reduceMul, Nat.reduceBEq, Nat.reduceBNe, Nat.reduceLT, Nat.reduceLeDiff, Nat.reduceMul, Nat.reduceEqDiff, WD, effB, effH, isPriv, isHeap, isImm, zbx, zby, zbz, chkO, setD, dslot, zca, zcb, zcc, zcd, ptrCells_some, F53, hcw, buildOp, fillV, Lay.place, Bool.or_self, Bool.or_false, Bool.false_or, decide_not, ne_eq, not_true_eq_false, decide_eq_true_eq, Nat.lt_irrefl, buildSliceV, lits, srcV_eq, srcK_sl, srcK_str, srcSl_nils, srcSl_rsl, srcSl_sl, frow, zbv, zbw, List.all_nil, List.all_cons, rowV, Bool.false_and, Bool.and_false, not_false_eq_true, grows_lr, callOut_t, hap, alts53_22, hsub, repL_shut, repL_ok, repL_cells, repL_width]
                  refine ⟨n, by omega, n, (tryS L s1).2, acc ++ [(tryS L s1).1], ?_, rfl, ((((hf.trans u0).trans u1).trans u2).trans u3), hQ3, by rw [List.append_assoc]; exact hl1, hl2, by rw [List.length_append, List.length_singleton]; omega⟩
                  simp only [WN, firstReg, growAll, zbv, zbw, norm, killS, zag, zah, zaa, zab, zbl, zat, zad, growOne, zae, zaf, zac, zas, zak, Nat.reduceLT, Nat.reduceAdd, zbj, zav, F53, hc1, hsub, List.map_append, List.length_append, List.length_singleton]
                  rfl
                · obtain ⟨ha, hs⟩ := cont True (by
                    by_cases h0 : k = 0
                    · exact .inl h0
                    · exact .inr fun h => hgo ⟨h0, h⟩)
                  have hbr : (k = 0) ∨ (k ≠ 0 ∧ s1.e ≠ 0) := by
                    by_cases h0 : k = 0
                    · exact .inl h0
                    · exact .inr ⟨h0, fun h => hgo ⟨h0, h⟩⟩
                  clear cont hgo hl1 hl2 hle
                  subst hs
                  have g0 : (decide ((0 : Int) < (k : Int)) = false) ∨ (decide ((0 : Int) < (k : Int)) = true ∧ (((allS L (tryS L) (allS L (insS L) (allS L (capS L) s3).2).2).2.e : Int) == 0) = false) := by
                    rcases hbr with h | ⟨h1, h2⟩
                    · exact .inl (decide_eq_false (by omega))
                    · exact .inr ⟨decide_eq_true (by omega), by rw [beq_eq_false_iff_ne]; omega⟩
                  subst ha
                  rcases g0 with g0 | ⟨g0, g00⟩
                  · simp only [WW, partV, eqCells, eqLf, minV, maxV, ifcV, zaa, zab, zac, zad, zae, zaf, zag, zah, zai, ofConst, ofConst1, List.replicate, zaj, zak, loadOp, Go.Abs.loadCells, binV, zal, pickV, zam, zan, zao, zap, zaq, zar, zas, zat, zau, outR, resAll, resOne, zav, zaw, zax, zay, zaz, zba, zbb, zbc, zbd, zbe, zbf, zbg, zbh, zbi, zbj, zbk, storeOp, storeCell, overlay, zbl, zbm, zbn, lookupOp, keyT, okRes, mapUpdateOp, zbo, zbp, zbq, zbr, zbs, zbt, zbu, Nat.reduceSub, Nat.reduceAdd, Int.reduceLT, Int.reduceLE, Int.reduceAdd, Int.reduceSub, Int.reduceToNat, Int.reduceBEq, Int.reduceBNe, Int.reduceMul, Nat.reduceBEq, Nat.reduceBNe, Nat.reduceLT, Nat.reduceLeDiff, Nat.reduceMul, Nat.reduceEqDiff, WD, effB, effH, isPriv, isHeap, isImm, zbx, zby, zbz, chkO, setD, dslot, zca, zcb, zcc, zcd, ptrCells_some, F53, g0, repL_shut, repL_ok, repL_cells, repL_width, rowV_map, seal_lr]
                    exact ⟨rfl, hf, hR'⟩
                  · simp only [WW, partV, eqCells, eqLf, minV, maxV, ifcV, zaa, zab, zac, zad, zae, zaf, zag, zah, zai, ofConst, ofConst1, List.replicate, zaj, zak, loadOp, Go.Abs.loadCells, binV, zal, pickV, zam, zan, zao, zap, zaq, zar, zas, zat, zau, outR, resAll, resOne, zav, zaw, zax, zay, zaz, zba, zbb, zbc, zbd, zbe, zbf, zbg, zbh, zbi, zbj, zbk, storeOp, storeCell, overlay, zbl, zbm, zbn, lookupOp, keyT, okRes, mapUpdateOp, zbo, zbp, zbq, zbr, zbs, zbt, zbu, Nat.reduceSub, Nat.reduceAdd, Int.reduceLT, Int.reduceLE, Int.reduceAdd, Int.reduceSub, Int.reduceToNat, Int.reduceBEq, Int.reduceBNe, Int.reduceMul, Nat.reduceBEq, Nat.reduceBNe, Nat.reduceLT, Nat.reduceLeDiff, Nat.reduceMul, Nat.reduceEqDiff, WD, effB, effH, isPriv, isHeap, isImm, zbx, zby, zbz, chkO, setD, dslot, zca, zcb, zcc, zcd, ptrCells_some, F53, g0, g00, hb, repL_shut, repL_ok, repL_cells, repL_width, rowV_map, seal_lr]
                    exact ⟨rfl, hf, hR'⟩
            · simp only [WW, partV, eqCells, eqLf, minV, maxV, ifcV, zaa, zab, zac, zad, zae, zaf, zag, zah, zai, ofConst, ofConst1, List.replicate, zaj, zak, loadOp, Go.Abs.loadCells, binV, zal, pickV, zam, zan, zao, zap, zaq, zar, zas, zat, zau, outR, resAll, resOne, zav, zaw, zax, zay, zaz, zba, zbb, zbc, zbd, zbe, zbf, zbg, zbh, zbi, zbj, zbk, storeOp, storeCell, overlay, zbl, zbm, zbn, lookupOp, keyT, okRes, mapUpdateOp, zbo, zbp, zbq, zbr, zbs, zbt, zbu, Nat.reduceSub, Nat.reduceAdd, Int.reduceLT, Int.reduceLE, Int.reduceAdd, Int.reduceSub, Int.reduceToNat, Int.reduceBEq, Int.reduceBNe, Int.reduceMul, Nat.reduceBEq, Nat.reduceBNe, Nat.reduceLT, Nat.reduceLeDiff, Nat.reduceMul, Nat.reduceEqDiff, WD, effB, effH, isPriv, isHeap, isImm, zbx, zby, zbz, chkO, setD, dslot, zca, zcb, zcc, zcd, ptrCells_some, F53, g0, g00, hb]
              refine wpCall_of (dcountR hR' hL hlen) ?_
              rintro out H4 ⟨rfl, g4, hR4⟩
              have hf4 := hf.trans g4
              have hcl := count_le hR'.o
              simp only [WW, partV, eqCells, eqLf, minV, maxV, ifcV, zaa, zab, zac, zad, zae, zaf, zag, zah, zai, ofConst, ofConst1, List.replicate, zaj, zak, loadOp, Go.Abs.loadCells, binV, zal, pickV, zam, zan, zao, zap, zaq, zar, zas, zat, zau, outR, resAll, resOne, zav, zaw, zax, zay, zaz, zba, zbb, zbc, zbd, zbe, zbf, zbg, zbh, zbi, zbj, zbk, storeOp, storeCell, overlay, zbl, zbm, zbn, lookupOp, keyT, okRes, mapUpdateOp, zbo, zbp, zbq, zbr, zbs, zbt, zbu, Nat.reduceSub, Nat.reduceAdd, Int.reduceLT, Int.reduceLE, Int.reduceAdd, Int.reduceSub, Int.reduceToNat, Int.reduceBEq, Int.reduceBNe, Int.reduceMul, Nat.reduceBEq, Nat.reduceBNe, Nat.reduceLT, Nat.reduceLeDiff, Nat.reduceMul, Nat.reduceEqDiff, WD, effB, effH, isPriv, isHeap, isImm, zbx, zby, zbz, chkO, setD, dslot, zca, zcb, zcc, zcd, ptrCells_some, F53]
              refine wC_loopG (st1 := _) (nb := 2) (nr := 3) (by simp only [envG, firstReg, grow53_17, growAll, List.foldl_cons, List.foldl_nil]; exact growOne_box (by rfl) (by rfl)) rfl rfl (fun k st' H' => ∃ (n : Nat) (s1 : S) (acc : List (Int × Int × Int × Int)), st' = ⟨L53_17 (.v (.ptr w 0 0)) (.box 0) (.box 1) (.v (.int .i64 n)), [[.int .i64 0, .int .i64 0, .nils, .nils, .nils, .nils], [.int .i64 (a : Nat), .int .i64 (b : Nat), repL (bx.map intV), .lr 0 (allS L (capS L) s3).1.length, .lr 1 (allS L (insS L) (allS L (capS L) s3).2).1.length, (.lr 2 acc.length)]], [⟨true, true, (allS L (capS L) s3).1.map capV⟩, ⟨true, true, (allS L (insS L) (allS L (capS L) s3).2).1.map inV⟩, ⟨true, true, acc.map tryV⟩]⟩ ∧ k = n ∧ Ff w H H' ∧ Rr H' w x L s1 ∧ acc ++ (allG (tryS L) n s1).1 = (allS L (tryS L) (allS L (insS L) (allS L (capS L) s3).2).2).1 ∧ (allG (tryS L) n s1).2 = (allS L (tryS L) (allS L (insS L) (allS L (capS L) s3).2).2).2 ∧ acc.length + n ≤ 5000000) (count L (allS L (insS L) (allS L (capS L) s3).2).2).1 ⟨(count L (allS L (insS L) (allS L (capS L) s3).2).2).1, (count L (allS L (insS L) (allS L (capS L) s3).2).2).2, [], ?_, rfl, hf4, hR4, rfl, rfl, by simp only [List.length_nil]; omega⟩ ?_
              · simp only [WN, firstReg, growAll, zbv, zbw, norm, killS, zag, zah, zaa, zab, zbl, zat, zad, growOne, zae, zaf, zac, zas, zak, Nat.reduceLT, Nat.reduceAdd, zbj, zav, F53, L53_17, hc1]
                rfl
              · clear hf4 hR4 hcl
                rintro k st' H' ⟨n, s1, acc, rfl, rfl, hf, hR', hl1, hl2, hle⟩
                simp only [L53_17]
                have hb := hR'.b
                simp only [rdr] at hb
                have cont : ∀ (K : Prop), (k = 0 ∨ s1.e ≠ 0) → acc = (allS L (tryS L) (allS L (insS L) (allS L (capS L) s3).2).2).1 ∧ s1 = (allS L (tryS L) (allS L (insS L) (allS L (capS L) s3).2).2).2 := fun _ h => by
                  cases k with
                  | zero => simp only [allG, List.append_nil] at hl1 hl2; exact ⟨hl1, hl2⟩
                  | succ n =>
                    cases he : s1.e with
                    | zero => rw [he] at h; simp at h
                    | succ e1 => simp only [allG, he, List.append_nil] at hl1 hl2; exact ⟨hl1, hl2⟩
                by_cases hgo : k ≠ 0 ∧ s1.e = 0
                · obtain ⟨n, rfl⟩ : ∃ n, k = n + 1 := ⟨k - 1, by omega⟩
                  have he := hgo.2
                  rw [he] at hb
                  have g1 : decide ((0 : Int) < ((n + 1 : Nat) : Int)) = true := decide_eq_true (by omega)
                  have g2 : (((0 : Nat) : Int) == 0) = true := rfl
                  simp only [allG, he] at hl1 hl2
                  simp only [WW, partV, eqCells, eqLf, minV, maxV, ifcV, zaa, zab, zac, zad, zae, zaf, zag, zah, zai, ofConst, ofConst1, List.replicate, zaj, zak, loadOp, Go.Abs.loadCells, binV, zal, pickV, zam, zan, zao, zap, zaq, zar, zas, zat, zau, outR, resAll, resOne, zav, zaw, zax, zay, zaz, zba, zbb, zbc, zbd, zbe, zbf, zbg, zbh, zbi, zbj, zbk, storeOp, storeCell, overlay, zbl, zbm, zbn, lookupOp, keyT, okRes, mapUpdateOp, zbo, zbp, zbq, zbr, zbs, zbt, zbu, Nat.reduceSub, Nat.reduceAdd, Int.reduceLT, Int.reduceLE, Int.reduceAdd, Int.reduceSub, Int.reduceToNat, Int.reduceBEq, Int.reduceBNe, Int.reduceMul, Nat.reduceBEq, Nat.reduceBNe, Nat.reduceLT, Nat.reduceLeDiff, Nat.reduceMul, Nat.reduceEqDiff, WD, effB, effH, isPriv, isHeap, isImm, zbx, zby, zbz, chkO, setD, dslot, zca, zcb, zcc, zcd, ptrCells_some, F53, g1, g2, hb]
                  refine wpCall_of (dnumR hR' hL hlen) ?_
                  rintro out G0 ⟨rfl, u0, hQ0⟩
                  simp only [WW, partV, eqCells, eqLf, minV, maxV, ifcV, zaa, zab, zac, zad, zae, zaf, zag, zah, zai, ofConst, ofConst1, List.replicate, zaj, zak, loadOp, Go.Abs.loadCells, binV, zal, pickV, zam, zan, zao, zap, zaq, zar, zas, zat, zau, outR, resAll, resOne, zav, zaw, zax, zay, zaz, zba, zbb, zbc, zbd, zbe, zbf, zbg, zbh, zbi, zbj, zbk, storeOp, storeCell, overlay, zbl, zbm, zbn, lookupOp, keyT, okRes, mapUpdateOp, zbo, zbp, zbq, zbr, zbs, zbt, zbu, Nat.reduceSub, Nat.reduceAdd, Int.reduceLT, Int.reduceLE, Int.reduceAdd, Int.reduceSub, Int.reduceToNat, Int.reduceBEq, Int.reduceBNe, Int.reduceMul, Nat.reduceBEq, Nat.reduceBNe, Nat.reduceLT, Nat.reduceLeDiff, Nat.reduceMul, Nat.reduceEqDiff, WD, effB, effH, isPriv, isHeap, isImm, zbx, zby, zbz, chkO, setD, dslot, zca, zcb, zcc, zcd, ptrCells_some, F53]
                  refine wpCall_of (dnumR hQ0 hL hlen) ?_
                  rintro out G1 ⟨rfl, u1, hQ1⟩
                  simp only [WW, partV, eqCells, eqLf, minV, maxV, ifcV, zaa, zab, zac, zad, zae, zaf, zag, zah, zai, ofConst, ofConst1, List.replicate, zaj, zak, loadOp, Go.Abs.loadCells, binV, zal, pickV, zam, zan, zao, zap, zaq, zar, zas, zat, zau, outR, resAll, resOne, zav, zaw, zax, zay, zaz, zba, zbb, zbc, zbd, zbe, zbf, zbg, zbh, zbi, zbj, zbk, storeOp, storeCell, overlay, zbl, zbm, zbn, lookupOp, keyT, okRes, mapUpdateOp, zbo, zbp, zbq, zbr, zbs, zbt, zbu, Nat.reduceSub, Nat.reduceAdd, Int.reduceLT, Int.reduceLE, Int.reduceAdd, Int.reduceSub, Int.reduceToNat, Int.reduceBEq, Int.reduceBNe, Int.reduceMul, Nat.reduceBEq, Nat.reduceBNe, Nat.reduceLT, Nat.reduceLeDiff, Nat.reduceMul, Nat.reduceEqDiff, WD, effB, effH, isPriv, isHeap, isImm, zbx, zby, zbz, chkO, setD, dslot, zca, zcb, zcc, zcd, ptrCells_some, F53]
                  refine wpCall_of (dnumR hQ1 hL hlen) ?_
                  rintro out G2 ⟨rfl, u2, hQ2⟩
                  simp only [WW, partV, eqCells, eqLf, minV, maxV, ifcV, zaa, zab, zac, zad, zae, zaf, zag, zah, zai, ofConst, ofConst1, List.replicate, zaj, zak, loadOp, Go.Abs.loadCells, binV, zal, pickV, zam, zan, zao, zap, zaq, zar, zas, zat, zau, outR, resAll, resOne, zav, zaw, zax, zay, zaz, zba, zbb, zbc, zbd, zbe, zbf, zbg, zbh, zbi, zbj, zbk, storeOp, storeCell, overlay, zbl, zbm, zbn, lookupOp, keyT, okRes, mapUpdateOp, zbo, zbp, zbq, zbr, zbs, zbt, zbu, Nat.reduceSub, Nat.reduceAdd, Int.reduceLT, Int.reduceLE, Int.reduceAdd, Int.reduceSub, Int.reduceToNat, Int.reduceBEq, Int.reduceBNe, Int.reduceMul, Nat.reduceBEq, Nat.reduceBNe, Nat.reduceLT, Nat.reduceLeDiff, Nat.reduceMul, Nat.reduceEqDiff, WD, effB, effH, isPriv, isHeap, isImm, zbx, zby, zbz, chkO, setD, dslot, zca, zcb, zcc, zcd, ptrCells_some, F53]
                  obtain ⟨out, G3, hc, rfl, u3, hQ3⟩ := wpCall_run (dnumR hQ2 hL hlen)
                  have hcw : ∀ K, wpCall (evW Tryd.prog notes) 52 [.ptr w 0 0] G2 K = K _ G3 := fun K => wpCall_eq hc
                  simp only at hcw
                  have hsub : IntKind.i64.wrap (((n + 1 : Nat) : Int) - 1) = (n : Int) := by rw [IntWalk.i64_in _ (by omega)]; omega
                  have hwa : wideAll (acc.map tryV) 4 = true := wide_mapN (f := tryV) (fun _ => rfl) acc
                  have hwv : wideAll [tryV (tryS L s1).1] 4 = true := rfl
                  have hel : elemOk Tryd.prog 107 (acc.length + [tryV (tryS L s1).1].length) = true := by rw [room107]; simp; omega
                  have hap : ∀ (s : List Slot) (b : List (List V)) (H : Hp), appendOp Tryd.prog .priv ⟨s, b, [⟨true, true, (allS L (capS L) s3).1.map capV⟩, ⟨true, true, (allS L (insS L) (allS L (capS L) s3).2).1.map inV⟩, ⟨true, true, acc.map tryV⟩]⟩ H (some 101) 107 (.lr 2 acc.length) [tryV (tryS L s1).1] = some (⟨s.set 101 (.v (.lr 2 (acc.length + 1))), b, [⟨true, true, (allS L (capS L) s3).1.map capV⟩, ⟨true, true, (allS L (insS L) (allS L (capS L) s3).2).1.map inV⟩, ⟨true, true, acc.map tryV ++ [tryV (tryS L s1).1]⟩]⟩, H) := fun s b H => app_own (q := ⟨true, true, acc.map tryV⟩) rfl rfl (List.length_map ..).symm hel (by rw [size107]; exact hwa) (by rw [size107]; exact hwv)
                  simp only [tryV, tryS] at hap hwv
                  refine wC_dr alts53_22 (by kernel_rfl) ?_
                  simp only [WW, partV, eqCells, eqLf, minV, maxV, ifcV, zaa, zab, zac, zad, zae, zaf, zag, zah, zai, ofConst, ofConst1, List.replicate, zaj, zak, loadOp, Go.Abs.loadCells, binV, zal, pickV, zam, zan, zao, zap, zaq, zar, zas, zat, zau, outR, resAll, resOne, zav, zaw, zax, zay, zaz, zba, zbb, zbc, zbd, zbe, zbf, zbg, zbh, zbi, zbj, zbk, storeOp, storeCell, overlay, zbl, zbm, zbn, lookupOp, keyT, okRes, mapUpdateOp, zbo, zbp, zbq, zbr, zbs, zbt, zbu, Nat.reduceSub, Nat.reduceAdd, Int.reduceLT, Int.reduceLE, Int.reduceAdd, Int.reduceSub, Int.reduceToNat, Int.reduceBEq, Int.reduceBNe, Int.reduceMul, Nat.reduceBEq, Nat.reduceBNe, Nat.reduceLT, Nat.reduceLeDiff, Nat.reduceMul, Nat.reduceEqDiff, WD, effB, effH, isPriv, isHeap, isImm, zbx, zby, zbz, chkO, setD, dslot, zca, zcb, zcc, zcd, ptrCells_some, F53, hcw, buildOp, fillV, Lay.place, Bool.or_self, Bool.or_false, Bool.false_or, decide_not, ne_eq, not_true_eq_false, decide_eq_true_eq, Nat.lt_irrefl, buildSliceV, lits, srcV_eq, srcK_sl, srcK_str, srcSl_nils, srcSl_rsl, srcSl_sl, frow, zbv, zbw, List.all_nil, List.all_cons, rowV, Bool.false_and, Bool.and_false, not_false_eq_true, grows_lr, callOut_t, hap, alts53_22, hsub, repL_shut, repL_ok, repL_cells, repL_width]
                  refine ⟨n, by omega, n, (tryS L s1).2, acc ++ [(tryS L s1).1], ?_, rfl, ((((hf.trans u0).trans u1).trans u2).trans u3), hQ3, by rw [List.append_assoc]; exact hl1, hl2, by rw [List.length_append, List.length_singleton]; omega⟩
                  simp only [WN, firstReg, growAll, zbv, zbw, norm, killS, zag, zah, zaa, zab, zbl, zat, zad, growOne, zae, zaf, zac, zas, zak, Nat.reduceLT, Nat.reduceAdd, zbj, zav, F53, hc1, hsub, List.map_append, List.length_append, List.length_singleton]
                  rfl
                · obtain ⟨ha, hs⟩ := cont True (by
                    by_cases h0 : k = 0
                    · exact .inl h0
                    · exact .inr fun h => hgo ⟨h0, h⟩)
                  have hbr : (k = 0) ∨ (k ≠ 0 ∧ s1.e ≠ 0) := by
                    by_cases h0 : k = 0
                    · exact .inl h0
                    · exact .inr ⟨h0, fun h => hgo ⟨h0, h⟩⟩
                  clear cont hgo hl1 hl2 hle
                  subst hs
                  have g0 : (decide ((0 : Int) < (k : Int)) = false) ∨ (decide ((0 : Int) < (k : Int)) = true ∧ (((allS L (tryS L) (allS L (insS L) (allS L (capS L) s3).2).2).2.e : Int) == 0) = false) := by
                    rcases hbr with h | ⟨h1, h2⟩
                    · exact .inl (decide_eq_false (by omega))
                    · exact .inr ⟨decide_eq_true (by omega), by rw [beq_eq_false_iff_ne]; omega⟩
                  subst ha
                  rcases g0 with g0 | ⟨g0, g00⟩
                  · simp only [WW, partV, eqCells, eqLf, minV, maxV, ifcV, zaa, zab, zac, zad, zae, zaf, zag, zah, zai, ofConst, ofConst1, List.replicate, zaj, zak, loadOp, Go.Abs.loadCells, binV, zal, pickV, zam, zan, zao, zap, zaq, zar, zas, zat, zau, outR, resAll, resOne, zav, zaw, zax, zay, zaz, zba, zbb, zbc, zbd, zbe, zbf, zbg, zbh, zbi, zbj, zbk, storeOp, storeCell, overlay, zbl, zbm, zbn, lookupOp, keyT, okRes, mapUpdateOp, zbo, zbp, zbq, zbr, zbs, zbt, zbu, Nat.reduceSub, Nat.reduceAdd, Int.reduceLT, Int.reduceLE, Int.reduceAdd, Int.reduceSub, Int.reduceToNat, Int.reduceBEq, Int.reduceBNe, Int.reduceMul, Nat.reduceBEq, Nat.reduceBNe, Nat.reduceLT, Nat.reduceLeDiff, Nat.reduceMul, Nat.reduceEqDiff, WD, effB, effH, isPriv, isHeap, isImm, zbx, zby, zbz, chkO, setD, dslot, zca, zcb, zcc, zcd, ptrCells_some, F53, g0, repL_shut, repL_ok, repL_cells, repL_width, rowV_map, seal_lr]
                    exact ⟨rfl, hf, hR'⟩
                  · simp only [WW, partV, eqCells, eqLf, minV, maxV, ifcV, zaa, zab, zac, zad, zae, zaf, zag, zah, zai, ofConst, ofConst1, List.replicate, zaj, zak, loadOp, Go.Abs.loadCells, binV, zal, pickV, zam, zan, zao, zap, zaq, zar, zas, zat, zau, outR, resAll, resOne, zav, zaw, zax, zay, zaz, zba, zbb, zbc, zbd, zbe, zbf, zbg, zbh, zbi, zbj, zbk, storeOp, storeCell, overlay, zbl, zbm, zbn, lookupOp, keyT, okRes, mapUpdateOp, zbo, zbp, zbq, zbr, zbs, zbt, zbu, Nat.reduceSub, Nat.reduceAdd, Int.reduceLT, Int.reduceLE, Int.reduceAdd, Int.reduceSub, Int.reduceToNat, Int.reduceBEq, Int.reduceBNe, Int.reduceMul, Nat.reduceBEq, Nat.reduceBNe, Nat.reduceLT, Nat.reduceLeDiff, Nat.reduceMul, Nat.reduceEqDiff, WD, effB, effH, isPriv, isHeap, isImm, zbx, zby, zbz, chkO, setD, dslot, zca, zcb, zcc, zcd, ptrCells_some, F53, g0, g00, hb, repL_shut, repL_ok, repL_cells, repL_width, rowV_map, seal_lr]
                    exact ⟨rfl, hf, hR'⟩
      · simp only [WW, partV, eqCells, eqLf, minV, maxV, ifcV, zaa, zab, zac, zad, zae, zaf, zag, zah, zai, ofConst, ofConst1, List.replicate, zaj, zak, loadOp, Go.Abs.loadCells, binV, zal, pickV, zam, zan, zao, zap, zaq, zar, zas, zat, zau, outR, resAll, resOne, zav, zaw, zax, zay, zaz, zba, zbb, zbc, zbd, zbe, zbf, zbg, zbh, zbi, zbj, zbk, storeOp, storeCell, overlay, zbl, zbm, zbn, lookupOp, keyT, okRes, mapUpdateOp, zbo, zbp, zbq, zbr, zbs, zbt, zbu, Nat.reduceSub, Nat.reduceAdd, Int.reduceLT, Int.reduceLE, Int.reduceAdd, Int.reduceSub, Int.reduceToNat, Int.reduceBEq, Int.reduceBNe, Int.reduceMul, Nat.reduceBEq, Nat.reduceBNe, Nat.reduceLT, Nat.reduceLeDiff, Nat.reduceMul, Nat.reduceEqDiff, WD, effB, effH, isPriv, isHeap, isImm, zbx, zby, zbz, chkO, setD, dslot, zca, zcb, zcc, zcd, ptrCells_some, F53, g0, g00, hb]
        refine wpCall_of (dcountR hR' hL hlen) ?_
        rintro out H4 ⟨rfl, g4, hR4⟩
        have hf4 := hf.trans g4
        have hcl := count_le hR'.o
        simp only [WW, partV, eqCells, eqLf, minV, maxV, ifcV, zaa, zab, zac, zad, zae, zaf, zag, zah, zai, ofConst, ofConst1, List.replicate, zaj, zak, loadOp, Go.Abs.loadCells, binV, zal, pickV, zam, zan, zao, zap, zaq, zar, zas, zat, zau, outR, resAll, resOne, zav, zaw, zax, zay, zaz, zba, zbb, zbc, zbd, zbe, zbf, zbg, zbh, zbi, zbj, zbk, storeOp, storeCell, overlay, zbl, zbm, zbn, lookupOp, keyT, okRes, mapUpdateOp, zbo, zbp, zbq, zbr, zbs, zbt, zbu, Nat.reduceSub, Nat.reduceAdd, Int.reduceLT, Int.reduceLE, Int.reduceAdd, Int.reduceSub, Int.reduceToNat, Int.reduceBEq, Int.reduceBNe, Int.reduceMul, Nat.reduceBEq, Nat.reduceBNe, Nat.reduceLT, Nat.reduceLeDiff, Nat.reduceMul, Nat.reduceEqDiff, WD, effB, effH, isPriv, isHeap, isImm, zbx, zby, zbz, chkO, setD, dslot, zca, zcb, zcc, zcd, ptrCells_some, F53]
        refine wC_loopG (st1 := _) (nb := 2) (nr := 2) (by simp only [envG, firstReg, grow53_11, growAll, List.foldl_cons, List.foldl_nil]; exact growOne_box (by rfl) (by rfl)) rfl rfl (fun k st' H' => ∃ (n : Nat) (s1 : S) (acc : List (Int × Int × Int)), st' = ⟨L53_11 (.v (.ptr w 0 0)) (.box 0) (.box 1) (.v (.int .i64 n)), [[.int .i64 0, .int .i64 0, .nils, .nils, .nils, .nils], [.int .i64 (a : Nat), .int .i64 (b : Nat), repL (bx.map intV), .lr 0 (allS L (capS L) s3).1.length, (.lr 1 acc.length), .nils]], [⟨true, true, (allS L (capS L) s3).1.map capV⟩, ⟨true, true, acc.map inV⟩]⟩ ∧ k = n ∧ Ff w H H' ∧ Rr H' w x L s1 ∧ acc ++ (allG (insS L) n s1).1 = (allS L (insS L) (allS L (capS L) s3).2).1 ∧ (allG (insS L) n s1).2 = (allS L (insS L) (allS L (capS L) s3).2).2 ∧ acc.length + n ≤ 5000000) (count L (allS L (capS L) s3).2).1 ⟨(count L (allS L (capS L) s3).2).1, (count L (allS L (capS L) s3).2).2, [], ?_, rfl, hf4, hR4, rfl, rfl, by simp only [List.length_nil]; omega⟩ ?_
        · simp only [WN, firstReg, growAll, zbv, zbw, norm, killS, zag, zah, zaa, zab, zbl, zat, zad, growOne, zae, zaf, zac, zas, zak, Nat.reduceLT, Nat.reduceAdd, zbj, zav, F53, L53_11, hc1]
          rfl
        · clear hf4 hR4 hcl
          rintro k st' H' ⟨n, s1, acc, rfl, rfl, hf, hR', hl1, hl2, hle⟩
          simp only [L53_11]
          have hb := hR'.b
          simp only [rdr] at hb
          have cont : ∀ (K : Prop), (k = 0 ∨ s1.e ≠ 0) → acc = (allS L (insS L) (allS L (capS L) s3).2).1 ∧ s1 = (allS L (insS L) (allS L (capS L) s3).2).2 := fun _ h => by
            cases k with
            | zero => simp only [allG, List.append_nil] at hl1 hl2; exact ⟨hl1, hl2⟩
            | succ n =>
              cases he : s1.e with
              | zero => rw [he] at h; simp at h
              | succ e1 => simp only [allG, he, List.append_nil] at hl1 hl2; exact ⟨hl1, hl2⟩
          by_cases hgo : k ≠ 0 ∧ s1.e = 0
          · obtain ⟨n, rfl⟩ : ∃ n, k = n + 1 := ⟨k - 1, by omega⟩
            have he := hgo.2
            rw [he] at hb
            have g1 : decide ((0 : Int) < ((n + 1 : Nat) : Int)) = true := decide_eq_true (by omega)
            have g2 : (((0 : Nat) : Int) == 0) = true := rfl
            simp only [allG, he] at hl1 hl2
            simp only [WW, partV, eqCells, eqLf, minV, maxV, ifcV, zaa, zab, zac, zad, zae, zaf, zag, zah, zai, ofConst, ofConst1, List.replicate, zaj, zak, loadOp, Go.Abs.loadCells, binV, zal, pickV, zam, zan, zao, zap, zaq, zar, zas, zat, zau, outR, resAll, resOne, zav, zaw, zax, zay, zaz, zba, zbb, zbc, zbd, zbe, zbf, zbg, zbh, zbi, zbj, zbk, storeOp, storeCell, overlay, zbl, zbm, zbn, lookupOp, keyT, okRes, mapUpdateOp, zbo, zbp, zbq, zbr, zbs, zbt, zbu, Nat.reduceSub, Nat.reduceAdd, Int.reduceLT, Int.reduceLE, Int.reduceAdd, Int.reduceSub, Int.reduceToNat, Int.reduceBEq, Int.reduceBNe, Int.reduceMul, Nat.reduceBEq, Nat.reduceBNe, Nat.reduceLT, Nat.reduceLeDiff, Nat.reduceMul, Nat.reduceEqDiff, WD, effB, effH, isPriv, isHeap, isImm, zbx, zby, zbz, chkO, setD, dslot, zca, zcb, zcc, zcd, ptrCells_some, F53, g1, g2, hb]
            refine wpCall_of (dnumR hR' hL hlen) ?_
            rintro out G0 ⟨rfl, u0, hQ0⟩
            simp only [WW, partV, eqCells, eqLf, minV, maxV, ifcV, zaa, zab, zac, zad, zae, zaf, zag, zah, zai, ofConst, ofConst1, List.replicate, zaj, zak, loadOp, Go.Abs.loadCells, binV, zal, pickV, zam, zan, zao, zap, zaq, zar, zas, zat, zau, outR, resAll, resOne, zav, zaw, zax, zay, zaz, zba, zbb, zbc, zbd, zbe, zbf, zbg, zbh, zbi, zbj, zbk, storeOp, storeCell, overlay, zbl, zbm, zbn, lookupOp, keyT, okRes, mapUpdateOp, zbo, zbp, zbq, zbr, zbs, zbt, zbu, Nat.reduceSub, Nat.reduceAdd, Int.reduceLT, Int.reduceLE, Int.reduceAdd, Int.reduceSub, Int.reduceToNat, Int.reduceBEq, Int.reduceBNe, Int.reduceMul, Nat.reduceBEq, Nat.reduceBNe, Nat.reduceLT, Nat.reduceLeDiff, Nat.reduceMul, Nat.reduceEqDiff, WD, effB, effH, isPriv, isHeap, isImm, zbx, zby, zbz, chkO, setD, dslot, zca, zcb, zcc, zcd, ptrCells_some, F53]
            refine wpCall_of (dsgnR hQ0 hL hlen) ?_
            rintro out G1 ⟨rfl, u1, hQ1⟩
            simp only [WW, partV, eqCells, eqLf, minV, maxV, ifcV, zaa, zab, zac, zad, zae, zaf, zag, zah, zai, ofConst, ofConst1, List.replicate, zaj, zak, loadOp, Go.Abs.loadCells, binV, zal, pickV, zam, zan, zao, zap, zaq, zar, zas, zat, zau, outR, resAll, resOne, zav, zaw, zax, zay, zaz, zba, zbb, zbc, zbd, zbe, zbf, zbg, zbh, zbi, zbj, zbk, storeOp, storeCell, overlay, zbl, zbm, zbn, lookupOp, keyT, okRes, mapUpdateOp, zbo, zbp, zbq, zbr, zbs, zbt, zbu, Nat.reduceSub, Nat.reduceAdd, Int.reduceLT, Int.reduceLE, Int.reduceAdd, Int.reduceSub, Int.reduceToNat, Int.reduceBEq, Int.reduceBNe, Int.reduceMul, Nat.reduceBEq, Nat.reduceBNe, Nat.reduceLT, Nat.reduceLeDiff, Nat.reduceMul, Nat.reduceEqDiff, WD, effB, effH, isPriv, isHeap, isImm, zbx, zby, zbz, chkO, setD, dslot, zca, zcb, zcc, zcd, ptrCells_some, F53]
            obtain ⟨out, G2, hc, rfl, u2, hQ2⟩ := wpCall_run (dsgnR hQ1 hL hlen)
            have hcw : ∀ K, wpCall (evW Tryd.prog notes) 75 [.ptr w 0 0] G1 K = K _ G2 := fun K => wpCall_eq hc
            simp only at hcw
            have hsub : IntKind.i64.wrap (((n + 1 : Nat) : Int) - 1) = (n : Int) := by rw [IntWalk.i64_in _ (by omega)]; omega
            have hwa : wideAll (acc.map inV) 3 = true := wide_mapN (f := inV) (fun _ => rfl) acc
            have hwv : wideAll [inV (insS L s1).1] 3 = true := rfl
            have hel : elemOk Tryd.prog 52 (acc.length + [inV (insS L s1).1].length) = true := by rw [room52]; simp; omega
            have hap : ∀ (s : List Slot) (b : List (List V)) (H : Hp), appendOp Tryd.prog .priv ⟨s, b, [⟨true, true, (allS L (capS L) s3).1.map capV⟩, ⟨true, true, acc.map inV⟩]⟩ H (some 71) 52 (.lr 1 acc.length) [inV (insS L s1).1] = some (⟨s.set 71 (.v (.lr 1 (acc.length + 1))), b, [⟨true, true, (allS L (capS L) s3).1.map capV⟩, ⟨true, true, acc.map inV ++ [inV (insS L s1).1]⟩]⟩, H) := fun s b H => app_own (q := ⟨true, true, acc.map inV⟩) rfl rfl (List.length_map ..).symm hel (by rw [size52]; exact hwa) (by rw [size52]; exact hwv)
            simp only [inV, insS] at hap hwv
            refine wC_dr alts53_15 (by kernel_rfl) ?_
            simp only [WW, partV, eqCells, eqLf, minV, maxV, ifcV, zaa, zab, zac, zad, zae, zaf, zag, zah, zai, ofConst, ofConst1, List.replicate, zaj, zak, loadOp, Go.Abs.loadCells, binV, zal, pickV, zam, zan, zao, zap, zaq, zar, zas, zat, zau, outR, resAll, resOne, zav, zaw, zax, zay, zaz, zba, zbb, zbc, zbd, zbe, zbf, zbg, zbh, zbi, zbj, zbk, storeOp, storeCell, overlay, zbl, zbm, zbn, lookupOp, keyT, okRes, mapUpdateOp, zbo, zbp, zbq, zbr, zbs, zbt, zbu, Nat.reduceSub, Nat.reduceAdd, Int.reduceLT, Int.reduceLE, Int.reduceAdd, Int.reduceSub, Int.reduceToNat, Int.reduceBEq, Int.reduceBNe, Int.reduceMul, Nat.reduceBEq, Nat.reduceBNe, Nat.reduceLT, Nat.reduceLeDiff, Nat.reduceMul, Nat.reduceEqDiff, WD, effB, effH, isPriv, isHeap, isImm, zbx, zby, zbz, chkO, setD, dslot, zca, zcb, zcc, zcd, ptrCells_some, F53, hcw, buildOp, fillV, Lay.place, Bool.or_self, Bool.or_false, Bool.false_or, decide_not, ne_eq, not_true_eq_false, decide_eq_true_eq, Nat.lt_irrefl, buildSliceV, lits, srcV_eq, srcK_sl, srcK_str, srcSl_nils, srcSl_rsl, srcSl_sl, frow, zbv, zbw, List.all_nil, List.all_cons, rowV, Bool.false_and, Bool.and_false, not_false_eq_true, grows_lr, callOut_t, hap, alts53_15, hsub, repL_shut, repL_ok, repL_cells, repL_width]
            refine ⟨n, by omega, n, (insS L s1).2, acc ++ [(insS L s1).1], ?_, rfl, (((hf.trans u0).trans u1).trans u2), hQ2, by rw [List.append_assoc]; exact hl1, hl2, by rw [List.length_append, List.length_singleton]; omega⟩
            simp only [WN, firstReg, growAll, zbv, zbw, norm, killS, zag, zah, zaa, zab, zbl, zat, zad, growOne, zae, zaf, zac, zas, zak, Nat.reduceLT, Nat.reduceAdd, zbj, zav, F53, hc1, hsub, List.map_append, List.length_append, List.length_singleton]
            rfl
          · obtain ⟨ha, hs⟩ := cont True (by
              by_cases h0 : k = 0
              · exact .inl h0
              · exact .inr fun h => hgo ⟨h0, h⟩)
            have hbr : (k = 0) ∨ (k ≠ 0 ∧ s1.e ≠ 0) := by
              by_cases h0 : k = 0
              · exact .inl h0
              · exact .inr ⟨h0, fun h => hgo ⟨h0, h⟩⟩
            clear cont hgo hl1 hl2 hle
            subst hs
            have g0 : (decide ((0 : Int) < (k : Int)) = false) ∨ (decide ((0 : Int) < (k : Int)) = true ∧ (((allS L (insS L) (allS L (capS L) s3).2).2.e : Int) == 0) = false) := by
              rcases hbr with h | ⟨h1, h2⟩
              · exact .inl (decide_eq_false (by omega))
              · exact .inr ⟨decide_eq_true (by omega), by rw [beq_eq_false_iff_ne]; omega⟩
            subst ha
            rcases g0 with g0 | ⟨g0, g00⟩
            · simp only [WW, partV, eqCells, eqLf, minV, maxV, ifcV, zaa, zab, zac, zad, zae, zaf, zag, zah, zai, ofConst, ofConst1, List.replicate, zaj, zak, loadOp, Go.Abs.loadCells, binV, zal, pickV, zam, zan, zao, zap, zaq, zar, zas, zat, zau, outR, resAll, resOne, zav, zaw, zax, zay, zaz, zba, zbb, zbc, zbd, zbe, zbf, zbg, zbh, zbi, zbj, zbk, storeOp, storeCell, overlay, zbl, zbm, zbn, lookupOp, keyT, okRes, mapUpdateOp, zbo, zbp, zbq, zbr, zbs, zbt, zbu, Nat.reduceSub, Nat.reduceAdd, Int.reduceLT, Int.reduceLE, Int.reduceAdd, Int.reduceSub, Int.reduceToNat, Int.reduceBEq, Int.reduceBNe, Int.reduceMul, Nat.reduceBEq, Nat.reduceBNe, Nat.reduceLT, Nat.reduceLeDiff, Nat.reduceMul, Nat.reduceEqDiff, WD, effB, effH, isPriv, isHeap, isImm, zbx, zby, zbz, chkO, setD, dslot, zca, zcb, zcc, zcd, ptrCells_some, F53, g0]
              refine wpCall_of (dcountR hR' hL hlen) ?_
              rintro out H4 ⟨rfl, g4, hR4⟩
              have hf4 := hf.trans g4
              have hcl := count_le hR'.o
              simp only [WW, partV, eqCells, eqLf, minV, maxV, ifcV, zaa, zab, zac, zad, zae, zaf, zag, zah, zai, ofConst, ofConst1, List.replicate, zaj, zak, loadOp, Go.Abs.loadCells, binV, zal, pickV, zam, zan, zao, zap, zaq, zar, zas, zat, zau, outR, resAll, resOne, zav, zaw, zax, zay, zaz, zba, zbb, zbc, zbd, zbe, zbf, zbg, zbh, zbi, zbj, zbk, storeOp, storeCell, overlay, zbl, zbm, zbn, lookupOp, keyT, okRes, mapUpdateOp, zbo, zbp, zbq, zbr, zbs, zbt, zbu, Nat.reduceSub, Nat.reduceAdd, Int.reduceLT, Int.reduceLE, Int.reduceAdd, Int.reduceSub, Int.reduceToNat, Int.reduceBEq, Int.reduceBNe, Int.reduceMul, Nat.reduceBEq, Nat.reduceBNe, Nat.reduceLT, Nat.reduceLeDiff, Nat.reduceMul, Nat.reduceEqDiff, WD, effB, effH, isPriv, isHeap, isImm, zbx, zby, zbz, chkO, setD, dslot, zca, zcb, zcc, zcd, ptrCells_some, F53]
              refine wC_loopG (st1 := _) (nb := 2) (nr := 3) (by simp only [envG, firstReg, grow53_17, growAll, List.foldl_cons, List.foldl_nil]; exact growOne_box (by rfl) (by rfl)) rfl rfl (fun k st' H' => ∃ (n : Nat) (s1 : S) (acc : List (Int × Int × Int × Int)), st' = ⟨L53_17 (.v (.ptr w 0 0)) (.box 0) (.box 1) (.v (.int .i64 n)), [[.int .i64 0, .int .i64 0, .nils, .nils, .nils, .nils], [.int .i64 (a : Nat), .int .i64 (b : Nat), repL (bx.map intV), .lr 0 (allS L (capS L) s3).1.length, .lr 1 (allS L (insS L) (allS L (capS L) s3).2).1.length, (.lr 2 acc.length)]], [⟨true, true, (allS L (capS L) s3).1.map capV⟩, ⟨true, true, (allS L (insS L) (allS L (capS L) s3).2).1.map inV⟩, ⟨true, true, acc.map tryV⟩]⟩ ∧ k = n ∧ Ff w H H' ∧ Rr H' w x L s1 ∧ acc ++ (allG (tryS L) n s1).1 = (allS L (tryS L) (allS L (insS L) (allS L (capS L) s3).2).2).1 ∧ (allG (tryS L) n s1).2 = (allS L (tryS L) (allS L (insS L) (allS L (capS L) s3).2).2).2 ∧ acc.length + n ≤ 5000000) (count L (allS L (insS L) (allS L (capS L) s3).2).2).1 ⟨(count L (allS L (insS L) (allS L (capS L) s3).2).2).1, (count L (allS L (insS L) (allS L (capS L) s3).2).2).2, [], ?_, rfl, hf4, hR4, rfl, rfl, by simp only [List.length_nil]; omega⟩ ?_
              · simp only [WN, firstReg, growAll, zbv, zbw, norm, killS, zag, zah, zaa, zab, zbl, zat, zad, growOne, zae, zaf, zac, zas, zak, Nat.reduceLT, Nat.reduceAdd, zbj, zav, F53, L53_17, hc1]
                rfl
              · clear hf4 hR4 hcl
                rintro k st' H' ⟨n, s1, acc, rfl, rfl, hf, hR', hl1, hl2, hle⟩
                simp only [L53_17]
                have hb := hR'.b
                simp only [rdr] at hb
                have cont : ∀ (K : Prop), (k = 0 ∨ s1.e ≠ 0) → acc = (allS L (tryS L) (allS L (insS L) (allS L (capS L) s3).2).2).1 ∧ s1 = (allS L (tryS L) (allS L (insS L) (allS L (capS L) s3).2).2).2 := fun _ h => by
                  cases k with
                  | zero => simp only [allG, List.append_nil] at hl1 hl2; exact ⟨hl1, hl2⟩
                  | succ n =>
                    cases he : s1.e with
                    | zero => rw [he] at h; simp at h
                    | succ e1 => simp only [allG, he, List.append_nil] at hl1 hl2; exact ⟨hl1, hl2⟩
                by_cases hgo : k ≠ 0 ∧ s1.e = 0
                · obtain ⟨n, rfl⟩ : ∃ n, k = n + 1 := ⟨k - 1, by omega⟩
                  have he := hgo.2
                  rw [he] at hb
                  have g1 : decide ((0 : Int) < ((n + 1 : Nat) : Int)) = true := decide_eq_true (by omega)
                  have g2 : (((0 : Nat) : Int) == 0) = true := rfl
                  simp only [allG, he] at hl1 hl2
                  simp only [WW, partV, eqCells, eqLf, minV, maxV, ifcV, zaa, zab, zac, zad, zae, zaf, zag, zah, zai, ofConst, ofConst1, List.replicate, zaj, zak, loadOp, Go.Abs.loadCells, binV, zal, pickV, zam, zan, zao, zap, zaq, zar, zas, zat, zau, outR, resAll, resOne, zav, zaw, zax, zay, zaz, zba, zbb, zbc, zbd, zbe, zbf, zbg, zbh, zbi, zbj, zbk, storeOp, storeCell, overlay, zbl, zbm, zbn, lookupOp, keyT, okRes, mapUpdateOp, zbo, zbp, zbq, zbr, zbs, zbt, zbu, Nat.reduceSub, Nat.reduceAdd, Int.reduceLT, Int.reduceLE, Int.reduceAdd, Int.reduceSub, Int.reduceToNat, Int.reduceBEq, Int.reduceBNe, Int.reduceMul, Nat.reduceBEq, Nat.reduceBNe, Nat.reduceLT, Nat.reduceLeDiff, Nat.reduceMul, Nat.reduceEqDiff, WD, effB, effH, isPriv, isHeap, isImm, zbx, zby, zbz, chkO, setD, dslot, zca, zcb, zcc, zcd, ptrCells_some, F53, g1, g2, hb]
                  refine wpCall_of (dnumR hR' hL hlen) ?_
                  rintro out G0 ⟨rfl, u0, hQ0⟩
                  simp only [WW, partV, eqCells, eqLf, minV, maxV, ifcV, zaa, zab, zac, zad, zae, zaf, zag, zah, zai, ofConst, ofConst1, List.replicate, zaj, zak, loadOp, Go.Abs.loadCells, binV, zal, pickV, zam, zan, zao, zap, zaq, zar, zas, zat, zau, outR, resAll, resOne, zav, zaw, zax, zay, zaz, zba, zbb, zbc, zbd, zbe, zbf, zbg, zbh, zbi, zbj, zbk, storeOp, storeCell, overlay, zbl, zbm, zbn, lookupOp, keyT, okRes, mapUpdateOp, zbo, zbp, zbq, zbr, zbs, zbt, zbu, Nat.reduceSub, Nat.reduceAdd, Int.reduceLT, Int.reduceLE, Int.reduceAdd, Int.reduceSub, Int.reduceToNat, Int.reduceBEq, Int.reduceBNe, Int.reduceMul, Nat.reduceBEq, Nat.reduceBNe, Nat.reduceLT, Nat.reduceLeDiff, Nat.reduceMul, Nat.reduceEqDiff, WD, effB, effH, isPriv, isHeap, isImm, zbx, zby, zbz, chkO, setD, dslot, zca, zcb, zcc, zcd, ptrCells_some, F53]
                  refine wpCall_of (dnumR hQ0 hL hlen) ?_
                  rintro out G1 ⟨rfl, u1, hQ1⟩
                  simp only [WW, partV, eqCells, eqLf, minV, maxV, ifcV, zaa, zab, zac, zad, zae, zaf, zag, zah, zai, ofConst, ofConst1, List.replicate, zaj, zak, loadOp, Go.Abs.loadCells, binV, zal, pickV, zam, zan, zao, zap, zaq, zar, zas, zat, zau, outR, resAll, resOne, zav, zaw, zax, zay, zaz, zba, zbb, zbc, zbd, zbe, zbf, zbg, zbh, zbi, zbj, zbk, storeOp, storeCell, overlay, zbl, zbm, zbn, lookupOp, keyT, okRes, mapUpdateOp, zbo, zbp, zbq, zbr, zbs, zbt, zbu, Nat.reduceSub, Nat.reduceAdd, Int.reduceLT, Int.reduceLE, Int.reduceAdd, Int.reduceSub, Int.reduceToNat, Int.reduceBEq, Int.reduceBNe, Int.reduceMul, Nat.reduceBEq, Nat.reduceBNe, Nat.reduceLT, Nat.reduceLeDiff, Nat.reduceMul, Nat.reduceEqDiff, WD, effB, effH, isPriv, isHeap, isImm, zbx, zby, zbz, chkO, setD, dslot, zca, zcb, zcc, zcd, ptrCells_some, F53]
                  refine wpCall_of (dnumR hQ1 hL hlen) ?_
                  rintro out G2 ⟨rfl, u2, hQ2⟩
                  simp only [WW, partV, eqCells, eqLf, minV, maxV, ifcV, zaa, zab, zac, zad, zae, zaf, zag, zah, zai, ofConst, ofConst1, List.replicate, zaj, zak, loadOp, Go.Abs.loadCells, binV, zal, pickV, zam, zan, zao, zap, zaq, zar, zas, zat, zau, outR, resAll, resOne, zav, zaw, zax, zay, zaz, zba, zbb, zbc, zbd, zbe, zbf, zbg, zbh, zbi, zbj, zbk, storeOp, storeCell, overlay, zbl, zbm, zbn, lookupOp, keyT, okRes, mapUpdateOp, zbo, zbp, zbq, zbr, zbs, zbt, zbu, Nat.reduceSub, Nat.reduceAdd, Int.reduceLT, Int.reduceLE, Int.reduceAdd, Int.reduceSub, Int.reduceToNat, Int.reduceBEq, Int.reduceBNe, Int.reduceMul, Nat.reduceBEq, Nat.reduceBNe, Nat.reduceLT, Nat.reduceLeDiff, Nat.reduceMul, Nat.reduceEqDiff, WD, effB, effH, isPriv, isHeap, isImm, zbx, zby, zbz, chkO, setD, dslot, zca, zcb, zcc, zcd, ptrCells_some, F53]
                  obtain ⟨out, G3, hc, rfl, u3, hQ3⟩ := wpCall_run (dnumR hQ2 hL hlen)
                  have hcw : ∀ K, wpCall (evW Tryd.prog notes) 52 [.ptr w 0 0] G2 K = K _ G3 := fun K => wpCall_eq hc
                  simp only at hcw
                  have hsub : IntKind.i64.wrap (((n + 1 : Nat) : Int) - 1) = (n : Int) := by rw [IntWalk.i64_in _ (by omega)]; omega
                  have hwa : wideAll (acc.map tryV) 4 = true := wide_mapN (f := tryV) (fun _ => rfl) acc
                  have hwv : wideAll [tryV (tryS L s1).1] 4 = true := rfl
                  have hel : elemOk Tryd.prog 107 (acc.length + [tryV (tryS L s1).1].length) = true := by rw [room107]; simp; omega
                  have hap : ∀ (s : List Slot) (b : List (List V)) (H : Hp), appendOp Tryd.prog .priv ⟨s, b, [⟨true, true, (allS L (capS L) s3).1.map capV⟩, ⟨true, true, (allS L (insS L) (allS L (capS L) s3).2).1.map inV⟩, ⟨true, true, acc.map tryV⟩]⟩ H (some 101) 107 (.lr 2 acc.length) [tryV (tryS L s1).1] = some (⟨s.set 101 (.v (.lr 2 (acc.length + 1))), b, [⟨true, true, (allS L (capS L) s3).1.map capV⟩, ⟨true, true, (allS L (insS L) (allS L (capS L) s3).2).1.map inV⟩, ⟨true, true, acc.map tryV ++ [tryV (tryS L s1).1]⟩]⟩, H) := fun s b H => app_own (q := ⟨true, true, acc.map tryV⟩) rfl rfl (List.length_map ..).symm hel (by rw [size107]; exact hwa) (by rw [size107]; exact hwv)
                  simp only [tryV, tryS] at hap hwv
                  refine wC_dr alts53_22 (by kernel_rfl) ?_
                  simp only [WW, partV, eqCells, eqLf, minV, maxV, ifcV, zaa, zab, zac, zad, zae, zaf, zag, zah, zai, ofConst, ofConst1, List.replicate, zaj, zak, loadOp, Go.Abs.loadCells, binV, zal, pickV, zam, zan, zao, zap, zaq, zar, zas, zat, zau, outR, resAll, resOne, zav, zaw, zax, zay, zaz, zba, zbb, zbc, zbd, zbe, zbf, zbg, zbh, zbi, zbj, zbk, storeOp, storeCell, overlay, zbl, zbm, zbn, lookupOp, keyT, okRes, mapUpdateOp, zbo, zbp, zbq, zbr, zbs, zbt, zbu, Nat.reduceSub, Nat.reduceAdd, Int.reduceLT, Int.reduceLE, Int.reduceAdd, Int.reduceSub, Int.reduceToNat, Int.reduceBEq, Int.reduceBNe, Int.reduceMul, Nat.reduceBEq, Nat.reduceBNe, Nat.reduceLT, Nat.reduceLeDiff, Nat.reduceMul, Nat.reduceEqDiff, WD, effB, effH, isPriv, isHeap, isImm, zbx, zby, zbz, chkO, setD, dslot, zca, zcb, zcc, zcd, ptrCells_some, F53, hcw, buildOp, fillV, Lay.place, Bool.or_self, Bool.or_false, Bool.false_or, decide_not, ne_eq, not_true_eq_false, decide_eq_true_eq, Nat.lt_irrefl, buildSliceV, lits, srcV_eq, srcK_sl, srcK_str, srcSl_nils, srcSl_rsl, srcSl_sl, frow, zbv, zbw, List.all_nil, List.all_cons, rowV, Bool.false_and, Bool.and_false, not_false_eq_true, grows_lr, callOut_t, hap, alts53_22, hsub, repL_shut, repL_ok, repL_cells, repL_width]
                  refine ⟨n, by omega, n, (tryS L s1).2, acc ++ [(tryS L s1).1], ?_, rfl, ((((hf.trans u0).trans u1).trans u2).trans u3), hQ3, by rw [List.append_assoc]; exact hl1, hl2, by rw [List.length_append, List.length_singleton]; omega⟩
                  simp only [WN, firstReg, growAll, zbv, zbw, norm, killS, zag, zah, zaa, zab, zbl, zat, zad, growOne, zae, zaf, zac, zas, zak, Nat.reduceLT, Nat.reduceAdd, zbj, zav, F53, hc1, hsub, List.map_append, List.length_append, List.length_singleton]
                  rfl
                · obtain ⟨ha, hs⟩ := cont True (by
                    by_cases h0 : k = 0
                    · exact .inl h0
                    · exact .inr fun h => hgo ⟨h0, h⟩)
                  have hbr : (k = 0) ∨ (k ≠ 0 ∧ s1.e ≠ 0) := by
                    by_cases h0 : k = 0
                    · exact .inl h0
                    · exact .inr ⟨h0, fun h => hgo ⟨h0, h⟩⟩
                  clear cont hgo hl1 hl2 hle
                  subst hs
                  have g0 : (decide ((0 : Int) < (k : Int)) = false) ∨ (decide ((0 : Int) < (k : Int)) = true ∧ (((allS L (tryS L) (allS L (insS L) (allS L (capS L) s3).2).2).2.e : Int) == 0) = false) := by
                    rcases hbr with h | ⟨h1, h2⟩
                    · exact .inl (decide_eq_false (by omega))
                    · exact .inr ⟨decide_eq_true (by omega), by rw [beq_eq_false_iff_ne]; omega⟩
                  subst ha
                  rcases g0 with g0 | ⟨g0, g00⟩
                  · simp only [WW, partV, eqCells, eqLf, minV, maxV, ifcV, zaa, zab, zac, zad, zae, zaf, zag, zah, zai, ofConst, ofConst1, List.replicate, zaj, zak, loadOp, Go.Abs.loadCells, binV, zal, pickV, zam, zan, zao, zap, zaq, zar, zas, zat, zau, outR, resAll, resOne, zav, zaw, zax, zay, zaz, zba, zbb, zbc, zbd, zbe, zbf, zbg, zbh, zbi, zbj, zbk, storeOp, storeCell, overlay, zbl, zbm, zbn, lookupOp, keyT, okRes, mapUpdateOp, zbo, zbp, zbq, zbr, zbs, zbt, zbu, Nat.reduceSub, Nat.reduceAdd, Int.reduceLT, Int.reduceLE, Int.reduceAdd, Int.reduceSub, Int.reduceToNat, Int.reduceBEq, Int.reduceBNe, Int.reduceMul, Nat.reduceBEq, Nat.reduceBNe, Nat.reduceLT, Nat.reduceLeDiff, Nat.reduceMul, Nat.reduceEqDiff, WD, effB, effH, isPriv, isHeap, isImm, zbx, zby, zbz, chkO, setD, dslot, zca, zcb, zcc, zcd, ptrCells_some, F53, g0, repL_shut, repL_ok, repL_cells, repL_width, rowV_map, seal_lr]
                    exact ⟨rfl, hf, hR'⟩
                  · simp only [WW, partV, eqCells, eqLf, minV, maxV, ifcV, zaa, zab, zac, zad, zae, zaf, zag, zah, zai, ofConst, ofConst1, List.replicate, zaj, zak, loadOp, Go.Abs.loadCells, binV, zal, pickV, zam, zan, zao, zap, zaq, zar, zas, zat, zau, outR, resAll, resOne, zav, zaw, zax, zay, zaz, zba, zbb, zbc, zbd, zbe, zbf, zbg, zbh, zbi, zbj, zbk, storeOp, storeCell, overlay, zbl, zbm, zbn, lookupOp, keyT, okRes, mapUpdateOp, zbo, zbp, zbq, zbr, zbs, zbt, zbu, Nat.reduceSub, Nat.reduceAdd, Int.reduceLT, Int.reduceLE, Int.reduceAdd, Int.reduceSub, Int.reduceToNat, Int.reduceBEq, Int.reduceBNe, Int.reduceMul, Nat.reduceBEq, Nat.reduceBNe, Nat.reduceLT, Nat.reduceLeDiff, Nat.reduceMul, Nat.reduceEqDiff, WD, effB, effH, isPriv, isHeap, isImm, zbx, zby, zbz, chkO, setD, dslot, zca, zcb, zcc, zcd, ptrCells_some, F53, g0, g00, hb, repL_shut, repL_ok, repL_cells, repL_width, rowV_map, seal_lr]
                    exact ⟨rfl, hf, hR'⟩
            · simp only [WW, partV, eqCells, eqLf, minV, maxV, ifcV, zaa, zab, zac, zad, zae, zaf, zag, zah, zai, ofConst, ofConst1, List.replicate, zaj, zak, loadOp, Go.Abs.loadCells, binV, zal, pickV, zam, zan, zao, zap, zaq, zar, zas, zat, zau, outR, resAll, resOne, zav, zaw, zax, zay, zaz, zba, zbb, zbc, zbd, zbe, zbf, zbg, zbh, zbi, zbj, zbk, storeOp, storeCell, overlay, zbl, zbm, zbn, lookupOp, keyT, okRes, mapUpdateOp, zbo, zbp, zbq, zbr, zbs, zbt, zbu, Nat.reduceSub, Nat.reduceAdd, Int.reduceLT, Int.reduceLE, Int.reduceAdd, Int.reduceSub, Int.reduceToNat, Int.reduceBEq, Int.reduceBNe, Int.reduceMul, Nat.reduceBEq, Nat.reduceBNe, Nat.reduceLT, Nat.reduceLeDiff, Nat.reduceMul, Nat.reduceEqDiff, WD, effB, effH, isPriv, isHeap, isImm, zbx, zby, zbz, chkO, setD, dslot, zca, zcb, zcc, zcd, ptrCells_some, F53, g0, g00, hb]
              refine wpCall_of (dcountR hR' hL hlen) ?_
              rintro out H4 ⟨rfl, g4, hR4⟩
              have hf4 := hf.trans g4
              have hcl := count_le hR'.o
              simp only [WW, partV, eqCells, eqLf, minV, maxV, ifcV, zaa, zab, zac, zad, zae, zaf, zag, zah, zai, ofConst, ofConst1, List.replicate, zaj, zak, loadOp, Go.Abs.loadCells, binV, zal, pickV, zam, zan, zao, zap, zaq, zar, zas, zat, zau, outR, resAll, resOne, zav, zaw, zax, zay, zaz, zba, zbb, zbc, zbd, zbe, zbf, zbg, zbh, zbi, zbj, zbk, storeOp, storeCell, overlay, zbl, zbm, zbn, lookupOp, keyT, okRes, mapUpdateOp, zbo, zbp, zbq, zbr, zbs, zbt, zbu, Nat.reduceSub, Nat.reduceAdd, Int.reduceLT, Int.reduceLE, Int.reduceAdd, Int.reduceSub, Int.reduceToNat, Int.reduceBEq, Int.reduceBNe, Int.reduceMul, Nat.reduceBEq, Nat.reduceBNe, Nat.reduceLT, Nat.reduceLeDiff, Nat.reduceMul, Nat.reduceEqDiff, WD, effB, effH, isPriv, isHeap, isImm, zbx, zby, zbz, chkO, setD, dslot, zca, zcb, zcc, zcd, ptrCells_some, F53]
              refine wC_loopG (st1 := _) (nb := 2) (nr := 3) (by simp only [envG, firstReg, grow53_17, growAll, List.foldl_cons, List.foldl_nil]; exact growOne_box (by rfl) (by rfl)) rfl rfl (fun k st' H' => ∃ (n : Nat) (s1 : S) (acc : List (Int × Int × Int × Int)), st' = ⟨L53_17 (.v (.ptr w 0 0)) (.box 0) (.box 1) (.v (.int .i64 n)), [[.int .i64 0, .int .i64 0, .nils, .nils, .nils, .nils], [.int .i64 (a : Nat), .int .i64 (b : Nat), repL (bx.map intV), .lr 0 (allS L (capS L) s3).1.length, .lr 1 (allS L (insS L) (allS L (capS L) s3).2).1.length, (.lr 2 acc.length)]], [⟨true, true, (allS L (capS L) s3).1.map capV⟩, ⟨true, true, (allS L (insS L) (allS L (capS L) s3).2).1.map inV⟩, ⟨true, true, acc.map tryV⟩]⟩ ∧ k = n ∧ Ff w H H' ∧ Rr H' w x L s1 ∧ acc ++ (allG (tryS L) n s1).1 = (allS L (tryS L) (allS L (insS L) (allS L (capS L) s3).2).2).1 ∧ (allG (tryS L) n s1).2 = (allS L (tryS L) (allS L (insS L) (allS L (capS L) s3).2).2).2 ∧ acc.length + n ≤ 5000000) (count L (allS L (insS L) (allS L (capS L) s3).2).2).1 ⟨(count L (allS L (insS L) (allS L (capS L) s3).2).2).1, (count L (allS L (insS L) (allS L (capS L) s3).2).2).2, [], ?_, rfl, hf4, hR4, rfl, rfl, by simp only [List.length_nil]; omega⟩ ?_
              · simp only [WN, firstReg, growAll, zbv, zbw, norm, killS, zag, zah, zaa, zab, zbl, zat, zad, growOne, zae, zaf, zac, zas, zak, Nat.reduceLT, Nat.reduceAdd, zbj, zav, F53, L53_17, hc1]
                rfl
              · clear hf4 hR4 hcl
                rintro k st' H' ⟨n, s1, acc, rfl, rfl, hf, hR', hl1, hl2, hle⟩
                simp only [L53_17]
                have hb := hR'.b
                simp only [rdr] at hb
                have cont : ∀ (K : Prop), (k = 0 ∨ s1.e ≠ 0) → acc = (allS L (tryS L) (allS L (insS L) (allS L (capS L) s3).2).2).1 ∧ s1 = (allS L (tryS L) (allS L (insS L) (allS L (capS L) s3).2).2).2 := fun _ h => by
                  cases k with
                  | zero => simp only [allG, List.append_nil] at hl1 hl2; exact ⟨hl1, hl2⟩
                  | succ n =>
                    cases he : s1.e with
                    | zero => rw [he] at h; simp at h
                    | succ e1 => simp only [allG, he, List.append_nil] at hl1 hl2; exact ⟨hl1, hl2⟩
                by_cases hgo : k ≠ 0 ∧ s1.e = 0
                · obtain ⟨n, rfl⟩ : ∃ n, k = n + 1 := ⟨k - 1, by omega⟩
                  have he := hgo.2
                  rw [he] at hb
                  have g1 : decide ((0 : Int) < ((n + 1 : Nat) : Int)) = true := decide_eq_true (by omega)
                  have g2 : (((0 : Nat) : Int) == 0) = true := rfl
                  simp only [allG, he] at hl1 hl2
                  simp only [WW, partV, eqCells, eqLf, minV, maxV, ifcV, zaa, zab, zac, zad, zae, zaf, zag, zah, zai, ofConst, ofConst1, List.replicate, zaj, zak, loadOp, Go.Abs.loadCells, binV, zal, pickV, zam, zan, zao, zap, zaq, zar, zas, zat, zau, outR, resAll, resOne, zav, zaw, zax, zay, zaz, zba, zbb, zbc, zbd, zbe, zbf, zbg, zbh, zbi, zbj, zbk, storeOp, storeCell, overlay, zbl, zbm, zbn, lookupOp, keyT, okRes, mapUpdateOp, zbo, zbp, zbq, zbr, zbs, zbt, zbu, Nat.reduceSub, Nat.reduceAdd, Int.reduceLT, Int.reduceLE, Int.reduceAdd, Int.reduceSub, Int.reduceToNat, Int.reduceBEq, Int.reduceBNe, Int.reduceMul, Nat.reduceBEq, Nat.reduceBNe, Nat.reduceLT, Nat.reduceLeDiff, Nat.reduceMul, Nat.reduceEqDiff, WD, effB, effH, isPriv, isHeap, isImm, zbx, zby, zbz, chkO, setD, dslot, zca, zcb, zcc, zcd, ptrCells_some, F53, g1, g2, hb]
                  refine wpCall_of (dnumR hR' hL hlen) ?_
                  rintro out G0 ⟨rfl, u0, hQ0⟩
                  simp only [WW, partV, eqCells, eqLf, minV, maxV, ifcV, zaa, zab, zac, zad, zae, zaf, zag, zah, zai, ofConst, ofConst1, List.replicate, zaj, zak, loadOp, Go.Abs.loadCells, binV, zal, pickV, zam, zan, zao, zap, zaq, zar, zas, zat, zau, outR, resAll, resOne, zav, zaw, zax, zay, zaz, zba, zbb, zbc, zbd, zbe, zbf, zbg, zbh, zbi, zbj, zbk, storeOp, storeCell, overlay, zbl, zbm, zbn, lookupOp, keyT, okRes, mapUpdateOp, zbo, zbp, zbq, zbr, zbs, zbt, zbu, Nat.reduceSub, Nat.reduceAdd, Int.reduceLT, Int.reduceLE, Int.reduceAdd, Int.reduceSub, Int.reduceToNat, Int.reduceBEq, Int.reduceBNe, Int.reduceMul, Nat.reduceBEq, Nat.reduceBNe, Nat.reduceLT, Nat.reduceLeDiff, Nat.reduceMul, Nat.reduceEqDiff, WD, effB, effH, isPriv, isHeap, isImm, zbx, zby, zbz, chkO, setD, dslot, zca, zcb, zcc, zcd, ptrCells_some, F53]
                  refine wpCall_of (dnumR hQ0 hL hlen) ?_
                  rintro out G1 ⟨rfl, u1, hQ1⟩
                  simp only [WW, partV, eqCells, eqLf, minV, maxV, ifcV, zaa, zab, zac, zad, zae, zaf, zag, zah, zai, ofConst, ofConst1, List.replicate, zaj, zak, loadOp, Go.Abs.loadCells, binV, zal, pickV, zam, zan, zao, zap, zaq, zar, zas, zat, zau, outR, resAll, resOne, zav, zaw, zax, zay, zaz, zba, zbb, zbc, zbd, zbe, zbf, zbg, zbh, zbi, zbj, zbk, storeOp, storeCell, overlay, zbl, zbm, zbn, lookupOp, keyT, okRes, mapUpdateOp, zbo, zbp, zbq, zbr, zbs, zbt, zbu, Nat.reduceSub, Nat.reduceAdd, Int.reduceLT, Int.reduceLE, Int.reduceAdd, Int.reduceSub, Int.reduceToNat, Int.reduceBEq, Int.reduceBNe, Int.reduceMul, Nat.reduceBEq, Nat.reduceBNe, Nat.reduceLT, Nat.reduceLeDiff, Nat.reduceMul, Nat.reduceEqDiff, WD, effB, effH, isPriv, isHeap, isImm, zbx, zby, zbz, chkO, setD, dslot, zca, zcb, zcc, zcd, ptrCells_some, F53]
                  refine wpCall_of (dnumR hQ1 hL hlen) ?_
                  rintro out G2 ⟨rfl, u2, hQ2⟩
                  simp only [WW, partV, eqCells, eqLf, minV, maxV, ifcV, zaa, zab, zac, zad, zae, zaf, zag, zah, zai, ofConst, ofConst1, List.replicate, zaj, zak, loadOp, Go.Abs.loadCells, binV, zal, pickV, zam, zan, zao, zap, zaq, zar, zas, zat, zau, outR, resAll, resOne, zav, zaw, zax, zay, zaz, zba, zbb, zbc, zbd, zbe, zbf, zbg, zbh, zbi, zbj, zbk, storeOp, storeCell, overlay, zbl, zbm, zbn, lookupOp, keyT, okRes, mapUpdateOp, zbo, zbp, zbq, zbr, zbs, zbt, zbu, Nat.reduceSub, Nat.reduceAdd, Int.reduceLT, Int.reduceLE, Int.reduceAdd, Int.reduceSub, Int.reduceToNat, Int.reduceBEq, Int.reduceBNe, Int.reduceMul, Nat.reduceBEq, Nat.reduceBNe, Nat.reduceLT, Nat.reduceLeDiff, Nat.reduceMul, Nat.reduceEqDiff, WD, effB, effH, isPriv, isHeap, isImm, zbx, zby, zbz, chkO, setD, dslot, zca, zcb, zcc, zcd, ptrCells_some, F53]
                  obtain ⟨out, G3, hc, rfl, u3, hQ3⟩ := wpCall_run (dnumR hQ2 hL hlen)
                  have hcw : ∀ K, wpCall (evW Tryd.prog notes) 52 [.ptr w 0 0] G2 K = K _ G3 := fun K => wpCall_eq hc
                  simp only at hcw
                  have hsub : IntKind.i64.wrap (((n + 1 : Nat) : Int) - 1) = (n : Int) := by rw [IntWalk.i64_in _ (by omega)]; omega
                  have hwa : wideAll (acc.map tryV) 4 = true := wide_mapN (f := tryV) (fun _ => rfl) acc
                  have hwv : wideAll [tryV (tryS L s1).1] 4 = true := rfl
                  have hel : elemOk Tryd.prog 107 (acc.length + [tryV (tryS L s1).1].length) = true := by rw [room107]; simp; omega
                  have hap : ∀ (s : List Slot) (b : List (List V)) (H : Hp), appendOp Tryd.prog .priv ⟨s, b, [⟨true, true, (allS L (capS L) s3).1.map capV⟩, ⟨true, true, (allS L (insS L) (allS L (capS L) s3).2).1.map inV⟩, ⟨true, true, acc.map tryV⟩]⟩ H (some 101) 107 (.lr 2 acc.length) [tryV (tryS L s1).1] = some (⟨s.set 101 (.v (.lr 2 (acc.length + 1))), b, [⟨true, true, (allS L (capS L) s3).1.map capV⟩, ⟨true, true, (allS L (insS L) (allS L (capS L) s3).2).1.map inV⟩, ⟨true, true, acc.map tryV ++ [tryV (tryS L s1).1]⟩]⟩, H) := fun s b H => app_own (q := ⟨true, true, acc.map tryV⟩) rfl rfl (List.length_map ..).symm hel (by rw [size107]; exact hwa) (by rw [size107]; exact hwv)
                  simp only [tryV, tryS] at hap hwv
                  refine wC_dr alts53_22 (by kernel_rfl) ?_
                  simp only [WW, partV, eqCells, eqLf, minV, maxV, ifcV, zaa, zab, zac, zad, zae, zaf, zag, zah, zai, ofConst, ofConst1, List.replicate, zaj, zak, loadOp, Go.Abs.loadCells, binV, zal, pickV, zam, zan, zao, zap, zaq, zar, zas, zat, zau, outR, resAll, resOne, zav, zaw, zax, zay, zaz, zba, zbb, zbc, zbd, zbe, zbf, zbg, zbh, zbi, zbj, zbk, storeOp, storeCell, overlay, zbl, zbm, zbn, lookupOp, keyT, okRes, mapUpdateOp, zbo, zbp, zbq, zbr, zbs, zbt, zbu, Nat.reduceSub, Nat.reduceAdd, Int.reduceLT, Int.reduceLE, Int.reduceAdd, Int.reduceSub, Int.reduceToNat, Int.reduceBEq, Int.reduceBNe, Int.reduceMul, Nat.reduceBEq, Nat.reduceBNe, Nat.reduceLT, Nat.reduceLeDiff, Nat.reduceMul, Nat.reduceEqDiff, WD, effB, effH, isPriv, isHeap, isImm, zbx, zby, zbz, chkO, setD, dslot, zca, zcb, zcc, zcd, ptrCells_some, F53, hcw, buildOp, fillV, Lay.place, Bool.or_self, Bool.or_false, Bool.false_or, decide_not, ne_eq, not_true_eq_false, decide_eq_true_eq, Nat.lt_irrefl, buildSliceV, lits, srcV_eq, srcK_sl, srcK_str, srcSl_nils, srcSl_rsl, srcSl_sl, frow, zbv, zbw, List.all_nil, List.all_cons, rowV, Bool.false_and, Bool.and_false, not_false_eq_true, grows_lr, callOut_t, hap, alts53_22, hsub, repL_shut, repL_ok, repL_cells, repL_width]
                  refine ⟨n, by omega, n, (tryS L s1).2, acc ++ [(tryS L s1).1], ?_, rfl, ((((hf.trans u0).trans u1).trans u2).trans u3), hQ3, by rw [List.append_assoc]; exact hl1, hl2, by rw [List.length_append, List.length_singleton]; omega⟩
                  simp only [WN, firstReg, growAll, zbv, zbw, norm, killS, zag, zah, zaa, zab, zbl, zat, zad, growOne, zae, zaf, zac, zas, zak, Nat.reduceLT, Nat.reduceAdd, zbj, zav, F53, hc1, hsub, List.map_append, List.length_append, List.length_singleton]
                  rfl
                · obtain ⟨ha, hs⟩ := cont True (by
                    by_cases h0 : k = 0
                    · exact .inl h0
                    · exact .inr fun h => hgo ⟨h0, h⟩)
                  have hbr : (k = 0) ∨ (k ≠ 0 ∧ s1.e ≠ 0) := by
                    by_cases h0 : k = 0
                    · exact .inl h0
                    · exact .inr ⟨h0, fun h => hgo ⟨h0, h⟩⟩
                  clear cont hgo hl1 hl2 hle
                  subst hs
                  have g0 : (decide ((0 : Int) < (k : Int)) = false) ∨ (decide ((0 : Int) < (k : Int)) = true ∧ (((allS L (tryS L) (allS L (insS L) (allS L (capS L) s3).2).2).2.e : Int) == 0) = false) := by
                    rcases hbr with h | ⟨h1, h2⟩
                    · exact .inl (decide_eq_false (by omega))
                    · exact .inr ⟨decide_eq_true (by omega), by rw [beq_eq_false_iff_ne]; omega⟩
                  subst ha
                  rcases g0 with g0 | ⟨g0, g00⟩
                  · simp only [WW, partV, eqCells, eqLf, minV, maxV, ifcV, zaa, zab, zac, zad, zae, zaf, zag, zah, zai, ofConst, ofConst1, List.replicate, zaj, zak, loadOp, Go.Abs.loadCells, binV, zal, pickV, zam, zan, zao, zap, zaq, zar, zas, zat, zau, outR, resAll, resOne, zav, zaw, zax, zay, zaz, zba, zbb, zbc, zbd, zbe, zbf, zbg, zbh, zbi, zbj, zbk, storeOp, storeCell, overlay, zbl, zbm, zbn, lookupOp, keyT, okRes, mapUpdateOp, zbo, zbp, zbq, zbr, zbs, zbt, zbu, Nat.reduceSub, Nat.reduceAdd, Int.reduceLT, Int.reduceLE, Int.reduceAdd, Int.reduceSub, Int.reduceToNat, Int.reduceBEq, Int.reduceBNe, Int.reduceMul, Nat.reduceBEq, Nat.reduceBNe, Nat.reduceLT, Nat.reduceLeDiff, Nat.reduceMul, Nat.reduceEqDiff, WD, effB, effH, isPriv, isHeap, isImm, zbx, zby, zbz, chkO, setD, dslot, zca, zcb, zcc, zcd, ptrCells_some, F53, g0, repL_shut, repL_ok, repL_cells, repL_width, rowV_map, seal_lr]
                    exact ⟨rfl, hf, hR'⟩
                  · simp only [WW, partV, eqCells, eqLf, minV, maxV, ifcV, zaa, zab, zac, zad, zae, zaf, zag, zah, zai, ofConst, ofConst1, List.replicate, zaj, zak, loadOp, Go.Abs.loadCells, binV, zal, pickV, zam, zan, zao, zap, zaq, zar, zas, zat, zau, outR, resAll, resOne, zav, zaw, zax, zay, zaz, zba, zbb, zbc, zbd, zbe, zbf, zbg, zbh, zbi, zbj, zbk, storeOp, storeCell, overlay, zbl, zbm, zbn, lookupOp, keyT, okRes, mapUpdateOp, zbo, zbp, zbq, zbr, zbs, zbt, zbu, Nat.reduceSub, Nat.reduceAdd, Int.reduceLT, Int.reduceLE, Int.reduceAdd, Int.reduceSub, Int.reduceToNat, Int.reduceBEq, Int.reduceBNe, Int.reduceMul, Nat.reduceBEq, Nat.reduceBNe, Nat.reduceLT, Nat.reduceLeDiff, Nat.reduceMul, Nat.reduceEqDiff, WD, effB, effH, isPriv, isHeap, isImm, zbx, zby, zbz, chkO, setD, dslot, zca, zcb, zcc, zcd, ptrCells_some, F53, g0, g00, hb, repL_shut, repL_ok, repL_cells, repL_width, rowV_map, seal_lr]
                    exact ⟨rfl, hf, hR'⟩
end Go.Proofs.YtgjobbmbbedecaaDoor

/- The program's reader: an image. -/
namespace Go.Proofs.YtgjobbmbbedecaaDoor
open Go Go.Abs Go.Proofs
set_option maxRecDepth 100000
set_option maxHeartbeats 4000000
set_option linter.unusedVariables false
set_option linter.unusedSimpArgs false
def noIm : ImM := ⟨[], [], [], 0⟩
def decT (L : List Nat) (r : ImM × S) : List V := match r.2.e with
  | 0 => [imVal r.1, .int .i64 0, .int .i64 (L.length : Nat)]
  | e + 1 => [imVal noIm, .int .i64 ((e + 1 : Nat) : Int), .int .i64 (r.2.at_ : Nat)]
def contG (ms : List Nat) (L : List Nat) (s : S) : S := match s.e with
  | 0 => magG ms (L.drop s.at_) s.at_
  | _ + 1 => s
theorem magic_at {i : Nat} (hi : i < 4) : ∃ (u : UInt8) (m : Nat), (⟨#[74, 81, 48, 49]⟩ : ByteArray).data.toList[i]? = some u ∧ u.toNat = m ∧ magicB.drop i = m :: magicB.drop (i + 1) := by
  obtain rfl | rfl | rfl | rfl : i = 0 ∨ i = 1 ∨ i = 2 ∨ i = 3 := by omega
  all_goals exact ⟨_, _, rfl, rfl, rfl⟩
theorem set_last2 {α : Type} (l : List α) (a b : α) : (l ++ [a]).set l.length b = l ++ [b] := by
  rw [List.set_append_right _ _ (Nat.le_refl _), Nat.sub_self]; rfl
/-- Nothing of what was there is written to -/
def Kp (H H' : Hp) : Prop := H.length ≤ H'.length ∧ ∀ i, i < H.length → H'[i]? = H[i]?
theorem Kp.refl {H : Hp} : Kp H H := ⟨Nat.le_refl _, fun _ _ => rfl⟩
theorem Kp.trans {H H1 H2 : Hp} (a : Kp H H1) (b : Kp H1 H2) : Kp H H2 := ⟨Nat.le_trans a.1 b.1, fun i h => (b.2 i (Nat.lt_of_lt_of_le h a.1)).trans (a.2 i h)⟩
theorem decode16 {H : Hp} {x : V} {L : List Nat} (hx : ∀ H', Kp H H' → RdB H' x L) (hL : ∀ y ∈ L, y < 256) (hlen : L.length ≤ 4194304) :
    wpCall EW 16 [x] H (fun out H' => out = .ret (.tup (decT L (decS L))) false ∧ Kp H H') := by
  have hx0 := (hx H Kp.refl).1
  have hxs := hx0.shutIn
  have hxc := hx0.clip2
  have hxl : ∀ (H' : Hp), lenK H' (.slice 5) x = some (.int .i64 (L.length : Nat)) := fun H' => by
    have := hx0.len 5
    rw [bs_len] at this
    cases x <;> first | exact this | (cases this)
  refine runs f16 b16 r16 n16 _ _ ?_
  simp only [bodyOf, Tryd.f16, Option.getD_some]
  have hb4 : decide ((4194304 : Int) < (L.length : Int)) = false := decide_eq_false (by omega)
  simp only [WW, partV, eqCells, eqLf, minV, maxV, ifcV, zaa, zab, zac, zad, zae, zaf, zag, zah, zai, ofConst, ofConst1, List.replicate, zaj, zak, loadOp, Go.Abs.loadCells, binV, zal, pickV, zam, zan, zao, zap, zaq, zar, zas, zat, zau, outR, resAll, resOne, zav, zaw, zax, zay, zaz, zba, zbb, zbc, zbd, zbe, zbf, zbg, zbh, zbi, zbj, zbk, storeOp, storeCell, overlay, zbl, zbm, zbn, lookupOp, keyT, okRes, mapUpdateOp, zbo, zbp, zbq, zbr, zbs, zbt, zbu, Nat.reduceSub, Nat.reduceAdd, Int.reduceLT, Int.reduceLE, Int.reduceAdd, Int.reduceSub, Int.reduceToNat, Int.reduceBEq, Int.reduceBNe, Int.reduceMul, Nat.reduceBEq, Nat.reduceBNe, Nat.reduceLT, Nat.reduceLeDiff, Nat.reduceMul, Nat.reduceEqDiff, WD, effB, effH, isPriv, isHeap, isImm, zbx, zby, zbz, chkO, setD, dslot, zca, zcb, zcc, zcd, ptrCells_some, F16, hxs, hxl, hb4, hx0.ok, hx0.cells1, hx0.width1, buildOp, fillV, Lay.place, Bool.or_self, Bool.or_false, Bool.false_or, decide_not, ne_eq, not_true_eq_false, decide_eq_true_eq, Nat.lt_irrefl, storeHeap, promote, heapSet, elemSet, List.getElem?_concat_length, set_last2]
  have l1 : (H ++ [Blk.cells [V.agg [x, .int .i64 0, .int .i64 0]]]).length = H.length + 1 := by simp
  rw [l1]
  have hW : (H ++ [Blk.cells [V.agg [x, .int .i64 0, .int .i64 0]]] ++ [Blk.cells [V.ptr H.length 0 0]])[H.length]? = some (.cells [.agg [x, .int .i64 0, .int .i64 0]]) := by
    rw [List.getElem?_append_left (by simp)]; exact List.getElem?_concat_length
  have hC : (H ++ [Blk.cells [V.agg [x, .int .i64 0, .int .i64 0]]] ++ [Blk.cells [V.ptr H.length 0 0]])[H.length + 1]? = some (.cells [.ptr H.length 0 0]) := by
    rw [← l1]; exact List.getElem?_concat_length
  have hk1 : ∀ H', Ff H.length (H ++ [Blk.cells [V.agg [x, .int .i64 0, .int .i64 0]]] ++ [Blk.cells [V.ptr H.length 0 0]]) H' → Kp H H' := fun H' hf => by
    refine ⟨by have := hf.1; simp at this; omega, fun i hi => ?_⟩
    rw [hf.2 i (by simp; omega) (by omega), List.getElem?_append_left (by simp; omega), List.getElem?_append_left hi]
  have hln : (H ++ [Blk.cells [V.agg [x, .int .i64 0, .int .i64 0]]] ++ [Blk.cells [V.ptr H.length 0 0]]).length = H.length + 2 := by simp
  have hR : Rr (H ++ [Blk.cells [V.agg [x, .int .i64 0, .int .i64 0]]] ++ [Blk.cells [V.ptr H.length 0 0]]) H.length x L ⟨0, 0⟩ :=
    ⟨hW, fun H' hf => hx H' (hk1 H' hf), Nat.zero_le _⟩
  clear hW
  generalize (H ++ [Blk.cells [V.agg [x, .int .i64 0, .int .i64 0]]] ++ [Blk.cells [V.ptr H.length 0 0]]) = H1 at *
  generalize hw : H.length = w at *
  have hcw : w + 1 ≠ w := by omega
  refine wC_loop _ (fun k st' H' => ∃ (i : Nat) (s1 : S), (st' = ⟨L16_5 (.v x) (.box 0) (.v (.ptr (w + 1) 0 0)) (.v (.int .i64 i)), [[.nils, .nils, .nils, .int .i64 0]], []⟩) ∧ Ff w H1 H' ∧ Rr H' w x L s1 ∧ i ≤ 4 ∧ k = 4 - i ∧ contG (magicB.drop i) L s1 = magG magicB L 0 ∧ (s1.e = 0 → s1.at_ = i)) 4 ⟨0, ⟨0, 0⟩, ?_, Ff.refl, hR, by omega, rfl, rfl, fun _ => rfl⟩ ?_
  · simp only [WN, firstReg, growAll, zbv, zbw, norm, killS, zag, zah, zaa, zab, zbl, zat, zad, growOne, zae, zaf, zac, zas, zak, Nat.reduceLT, Nat.reduceAdd, zbj, zav, F16, L16_5, hxc]
    rfl
  · rintro k st' H' ⟨i, s1, rfl, hf, hR', hi4, rfl, hm, hat0⟩
    simp only [L16_5]
    simp only [WW, partV, eqCells, eqLf, minV, maxV, ifcV, zaa, zab, zac, zad, zae, zaf, zag, zah, zai, ofConst, ofConst1, List.replicate, zaj, zak, loadOp, Go.Abs.loadCells, binV, zal, pickV, zam, zan, zao, zap, zaq, zar, zas, zat, zau, outR, resAll, resOne, zav, zaw, zax, zay, zaz, zba, zbb, zbc, zbd, zbe, zbf, zbg, zbh, zbi, zbj, zbk, storeOp, storeCell, overlay, zbl, zbm, zbn, lookupOp, keyT, okRes, mapUpdateOp, zbo, zbp, zbq, zbr, zbs, zbt, zbu, Nat.reduceSub, Nat.reduceAdd, Int.reduceLT, Int.reduceLE, Int.reduceAdd, Int.reduceSub, Int.reduceToNat, Int.reduceBEq, Int.reduceBNe, Int.reduceMul, Nat.reduceBEq, Nat.reduceBNe, Nat.reduceLT, Nat.reduceLeDiff, Nat.reduceMul, Nat.reduceEqDiff, WD, effB, effH, isPriv, isHeap, isImm, zbx, zby, zbz, chkO, setD, dslot, zca, zcb, zcc, zcd, ptrCells_some, F16]
    have hC' : H'[w + 1]? = some (.cells [.ptr w 0 0]) := (hf.2 (w + 1) (by omega) hcw).trans hC
    have hb := hR'.b
    simp only [rdr] at hb
    refine cSplit (fun hlt => ?_) (fun hge => ?_)
    · have hi : i < 4 := by have := of_decide_eq_true hlt; omega
      simp only [hlt]
      obtain ⟨u, m, hu, hum, hmd⟩ := magic_at hi
      rw [hmd] at hm
      simp only [WW, partV, eqCells, eqLf, minV, maxV, ifcV, zaa, zab, zac, zad, zae, zaf, zag, zah, zai, ofConst, ofConst1, List.replicate, zaj, zak, loadOp, Go.Abs.loadCells, binV, zal, pickV, zam, zan, zao, zap, zaq, zar, zas, zat, zau, outR, resAll, resOne, zav, zaw, zax, zay, zaz, zba, zbb, zbc, zbd, zbe, zbf, zbg, zbh, zbi, zbj, zbk, storeOp, storeCell, overlay, zbl, zbm, zbn, lookupOp, keyT, okRes, mapUpdateOp, zbo, zbp, zbq, zbr, zbs, zbt, zbu, Nat.reduceSub, Nat.reduceAdd, Int.reduceLT, Int.reduceLE, Int.reduceAdd, Int.reduceSub, Int.reduceToNat, Int.reduceBEq, Int.reduceBNe, Int.reduceMul, Nat.reduceBEq, Nat.reduceBNe, Nat.reduceLT, Nat.reduceLeDiff, Nat.reduceMul, Nat.reduceEqDiff, WD, effB, effH, isPriv, isHeap, isImm, zbx, zby, zbz, chkO, setD, dslot, zca, zcb, zcc, zcd, ptrCells_some, F16]
      refine wC_dr alts16_7 (by kernel_rfl) ?_
      obtain ⟨p, e⟩ := s1
      simp only at hat0 hb
      have hnx : IntKind.i64.wrap ((i : Int) + 1) = ((i + 1 : Nat) : Int) := by rw [IntWalk.i64_in _ (by omega)]; omega
      cases e with
      | succ e1 =>
        have g0 : (((e1 + 1 : Nat) : Int) == 0) = false := by rw [beq_eq_false_iff_ne]; omega
        simp only [WW, partV, eqCells, eqLf, minV, maxV, ifcV, zaa, zab, zac, zad, zae, zaf, zag, zah, zai, ofConst, ofConst1, List.replicate, zaj, zak, loadOp, Go.Abs.loadCells, binV, zal, pickV, zam, zan, zao, zap, zaq, zar, zas, zat, zau, outR, resAll, resOne, zav, zaw, zax, zay, zaz, zba, zbb, zbc, zbd, zbe, zbf, zbg, zbh, zbi, zbj, zbk, storeOp, storeCell, overlay, zbl, zbm, zbn, lookupOp, keyT, okRes, mapUpdateOp, zbo, zbp, zbq, zbr, zbs, zbt, zbu, Nat.reduceSub, Nat.reduceAdd, Int.reduceLT, Int.reduceLE, Int.reduceAdd, Int.reduceSub, Int.reduceToNat, Int.reduceBEq, Int.reduceBNe, Int.reduceMul, Nat.reduceBEq, Nat.reduceBNe, Nat.reduceLT, Nat.reduceLeDiff, Nat.reduceMul, Nat.reduceEqDiff, WD, effB, effH, isPriv, isHeap, isImm, zbx, zby, zbz, chkO, setD, dslot, zca, zcb, zcc, zcd, ptrCells_some, F16, hb, hC', g0, alts16_7]
        refine ⟨4 - (i + 1), by omega, i + 1, ⟨p, e1 + 1⟩, ?_, hf, hR', by omega, rfl, hm, fun h => by cases h⟩
        simp only [WN, firstReg, growAll, zbv, zbw, norm, killS, zag, zah, zaa, zab, zbl, zat, zad, growOne, zae, zaf, zac, zas, zak, Nat.reduceLT, Nat.reduceAdd, zbj, zav, F16, hxc, hnx]
        try rfl
      | zero =>
        obtain rfl := hat0 rfl
        have g0 : (((0 : Nat) : Int) == 0) = true := rfl
        simp only [contG] at hm
        have hfl := fun p => failR hR' 6 p
        have h6 : ((6 : Nat) : Int) = 6 := rfl
        rw [h6] at hfl
        have hfw : ∀ K, wpCall (evW Tryd.prog notes) 41 [.ptr w 0 0, .int .i64 6, .int .i64 (p : Nat)] H' K = K (.ret (.tup []) false) (H'.set w (rdr x ⟨p, 6⟩)) := fun K => wpCall_eq (hfl p)
        have hR6 := hR'.to (s' := ⟨p, 6⟩) hR'.o
        have hb6 : (H'.set w (rdr x ⟨p, 6⟩))[w]? = some (.cells [.agg [x, .int .i64 (p : Nat), .int .i64 6]]) := hR6.b
        have hC6 : (H'.set w (rdr x ⟨p, 6⟩))[w + 1]? = some (.cells [.ptr w 0 0]) := by rw [List.getElem?_set, if_neg (by omega)]; exact hC'
        have g6 : ((6 : Int) == 0) = false := rfl
        cases hLp : L[p]? with
        | none =>
          have hpl : p = L.length := by
            have := List.getElem?_eq_none_iff.1 hLp
            have : p ≤ L.length := hR'.o
            omega
          have g1 : ((p : Int) == (L.length : Int)) = true := by rw [hpl]; simp
          rw [List.drop_of_length_le (show L.length ≤ p by omega)] at hm
          simp only [WW, partV, eqCells, eqLf, minV, maxV, ifcV, zaa, zab, zac, zad, zae, zaf, zag, zah, zai, ofConst, ofConst1, List.replicate, zaj, zak, loadOp, Go.Abs.loadCells, binV, zal, pickV, zam, zan, zao, zap, zaq, zar, zas, zat, zau, outR, resAll, resOne, zav, zaw, zax, zay, zaz, zba, zbb, zbc, zbd, zbe, zbf, zbg, zbh, zbi, zbj, zbk, storeOp, storeCell, overlay, zbl, zbm, zbn, lookupOp, keyT, okRes, mapUpdateOp, zbo, zbp, zbq, zbr, zbs, zbt, zbu, Nat.reduceSub, Nat.reduceAdd, Int.reduceLT, Int.reduceLE, Int.reduceAdd, Int.reduceSub, Int.reduceToNat, Int.reduceBEq, Int.reduceBNe, Int.reduceMul, Nat.reduceBEq, Nat.reduceBNe, Nat.reduceLT, Nat.reduceLeDiff, Nat.reduceMul, Nat.reduceEqDiff, WD, effB, effH, isPriv, isHeap, isImm, zbx, zby, zbz, chkO, setD, dslot, zca, zcb, zcc, zcd, ptrCells_some, F16, hb, hC', g0, hxs, hxl, g1, alts16_7]
          refine wC_dr alts16_8 (by kernel_rfl) ?_
          simp only [WW, partV, eqCells, eqLf, minV, maxV, ifcV, zaa, zab, zac, zad, zae, zaf, zag, zah, zai, ofConst, ofConst1, List.replicate, zaj, zak, loadOp, Go.Abs.loadCells, binV, zal, pickV, zam, zan, zao, zap, zaq, zar, zas, zat, zau, outR, resAll, resOne, zav, zaw, zax, zay, zaz, zba, zbb, zbc, zbd, zbe, zbf, zbg, zbh, zbi, zbj, zbk, storeOp, storeCell, overlay, zbl, zbm, zbn, lookupOp, keyT, okRes, mapUpdateOp, zbo, zbp, zbq, zbr, zbs, zbt, zbu, Nat.reduceSub, Nat.reduceAdd, Int.reduceLT, Int.reduceLE, Int.reduceAdd, Int.reduceSub, Int.reduceToNat, Int.reduceBEq, Int.reduceBNe, Int.reduceMul, Nat.reduceBEq, Nat.reduceBNe, Nat.reduceLT, Nat.reduceLeDiff, Nat.reduceMul, Nat.reduceEqDiff, WD, effB, effH, isPriv, isHeap, isImm, zbx, zby, zbz, chkO, setD, dslot, zca, zcb, zcc, zcd, ptrCells_some, F16, hb, hC', hb6, hC6, g0, g6, hfw, alts16_8]
          refine ⟨4 - (p + 1), by omega, p + 1, ⟨p, 6⟩, ?_, hf.trans (Ff.set _), hR6, by omega, rfl, hm, fun h => by cases h⟩
          simp only [WN, firstReg, growAll, zbv, zbw, norm, killS, zag, zah, zaa, zab, zbl, zat, zad, growOne, zae, zaf, zac, zas, zak, Nat.reduceLT, Nat.reduceAdd, zbj, zav, F16, hxc, hnx]
          try rfl
        | some c =>
          have hpl : p < L.length := (List.getElem?_eq_some_iff.1 hLp).1
          have g1 : ((p : Int) == (L.length : Int)) = false := by rw [beq_eq_false_iff_ne]; omega
          rw [drop_get hLp, magG] at hm
          have hxr := hR'.rd
          have hat := hxr.at_ (sz := 1) (i := p) (e := .int .u8 (c : Nat)) (by simp [bs, hLp]) rfl
          by_cases hcm : c = m
          · rw [if_pos hcm] at hm
            have g2 : (((c : Nat) : Int) != (u.toNat : Int)) = false := by rw [hum, hcm]; simp
            have hR2 := hR'.to (s' := ⟨p + 1, 0⟩) hpl
            have hb2 : (H'.set w (.cells [.agg [x, .int .i64 ((p + 1 : Nat) : Int), .int .i64 ((0 : Nat) : Int)]]))[w]? = some (.cells [.agg [x, .int .i64 ((p + 1 : Nat) : Int), .int .i64 ((0 : Nat) : Int)]]) := List.getElem?_set_self hR'.lt
            simp only [WW, partV, eqCells, eqLf, minV, maxV, ifcV, zaa, zab, zac, zad, zae, zaf, zag, zah, zai, ofConst, ofConst1, List.replicate, zaj, zak, loadOp, Go.Abs.loadCells, binV, zal, pickV, zam, zan, zao, zap, zaq, zar, zas, zat, zau, outR, resAll, resOne, zav, zaw, zax, zay, zaz, zba, zbb, zbc, zbd, zbe, zbf, zbg, zbh, zbi, zbj, zbk, storeOp, storeCell, overlay, zbl, zbm, zbn, lookupOp, keyT, okRes, mapUpdateOp, zbo, zbp, zbq, zbr, zbs, zbt, zbu, Nat.reduceSub, Nat.reduceAdd, Int.reduceLT, Int.reduceLE, Int.reduceAdd, Int.reduceSub, Int.reduceToNat, Int.reduceBEq, Int.reduceBNe, Int.reduceMul, Nat.reduceBEq, Nat.reduceBNe, Nat.reduceLT, Nat.reduceLeDiff, Nat.reduceMul, Nat.reduceEqDiff, WD, effB, effH, isPriv, isHeap, isImm, zbx, zby, zbz, chkO, setD, dslot, zca, zcb, zcc, zcd, ptrCells_some, F16, hb, hC', g0, hxs, hxl, g1, hat.at1 hxr, hat.cells, hu, byteV, g2, alts16_7]
            simp only [WW, partV, eqCells, eqLf, minV, maxV, ifcV, zaa, zab, zac, zad, zae, zaf, zag, zah, zai, ofConst, ofConst1, List.replicate, zaj, zak, loadOp, Go.Abs.loadCells, binV, zal, pickV, zam, zan, zao, zap, zaq, zar, zas, zat, zau, outR, resAll, resOne, zav, zaw, zax, zay, zaz, zba, zbb, zbc, zbd, zbe, zbf, zbg, zbh, zbi, zbj, zbk, storeOp, storeCell, overlay, zbl, zbm, zbn, lookupOp, keyT, okRes, mapUpdateOp, zbo, zbp, zbq, zbr, zbs, zbt, zbu, Nat.reduceSub, Nat.reduceAdd, Int.reduceLT, Int.reduceLE, Int.reduceAdd, Int.reduceSub, Int.reduceToNat, Int.reduceBEq, Int.reduceBNe, Int.reduceMul, Nat.reduceBEq, Nat.reduceBNe, Nat.reduceLT, Nat.reduceLeDiff, Nat.reduceMul, Nat.reduceEqDiff, WD, effB, effH, isPriv, isHeap, isImm, zbx, zby, zbz, chkO, setD, dslot, zca, zcb, zcc, zcd, ptrCells_some, F16, hb, hC', g0, hnx, storeHeap, promote, heapSet, elemSet, hb2]
            refine ⟨4 - (p + 1), by omega, p + 1, ⟨p + 1, 0⟩, ?_, hf.trans (Ff.set _), hR2, by omega, rfl, hm, fun _ => rfl⟩
            simp only [WN, firstReg, growAll, zbv, zbw, norm, killS, zag, zah, zaa, zab, zbl, zat, zad, growOne, zae, zaf, zac, zas, zak, Nat.reduceLT, Nat.reduceAdd, zbj, zav, F16, hxc, hnx]
            try rfl
          · rw [if_neg hcm] at hm
            have g2 : (((c : Nat) : Int) != (u.toNat : Int)) = true := by rw [hum]; simp; omega
            simp only [WW, partV, eqCells, eqLf, minV, maxV, ifcV, zaa, zab, zac, zad, zae, zaf, zag, zah, zai, ofConst, ofConst1, List.replicate, zaj, zak, loadOp, Go.Abs.loadCells, binV, zal, pickV, zam, zan, zao, zap, zaq, zar, zas, zat, zau, outR, resAll, resOne, zav, zaw, zax, zay, zaz, zba, zbb, zbc, zbd, zbe, zbf, zbg, zbh, zbi, zbj, zbk, storeOp, storeCell, overlay, zbl, zbm, zbn, lookupOp, keyT, okRes, mapUpdateOp, zbo, zbp, zbq, zbr, zbs, zbt, zbu, Nat.reduceSub, Nat.reduceAdd, Int.reduceLT, Int.reduceLE, Int.reduceAdd, Int.reduceSub, Int.reduceToNat, Int.reduceBEq, Int.reduceBNe, Int.reduceMul, Nat.reduceBEq, Nat.reduceBNe, Nat.reduceLT, Nat.reduceLeDiff, Nat.reduceMul, Nat.reduceEqDiff, WD, effB, effH, isPriv, isHeap, isImm, zbx, zby, zbz, chkO, setD, dslot, zca, zcb, zcc, zcd, ptrCells_some, F16, hb, hC', g0, hxs, hxl, g1, hat.at1 hxr, hat.cells, hu, byteV, g2, alts16_7]
            refine wC_dr alts16_8 (by kernel_rfl) ?_
            simp only [WW, partV, eqCells, eqLf, minV, maxV, ifcV, zaa, zab, zac, zad, zae, zaf, zag, zah, zai, ofConst, ofConst1, List.replicate, zaj, zak, loadOp, Go.Abs.loadCells, binV, zal, pickV, zam, zan, zao, zap, zaq, zar, zas, zat, zau, outR, resAll, resOne, zav, zaw, zax, zay, zaz, zba, zbb, zbc, zbd, zbe, zbf, zbg, zbh, zbi, zbj, zbk, storeOp, storeCell, overlay, zbl, zbm, zbn, lookupOp, keyT, okRes, mapUpdateOp, zbo, zbp, zbq, zbr, zbs, zbt, zbu, Nat.reduceSub, Nat.reduceAdd, Int.reduceLT, Int.reduceLE, Int.reduceAdd, Int.reduceSub, Int.reduceToNat, Int.reduceBEq, Int.reduceBNe, Int.reduceMul, Nat.reduceBEq, Nat.reduceBNe, Nat.reduceLT, Nat.reduceLeDiff, Nat.reduceMul, Nat.reduceEqDiff, WD, effB, effH, isPriv, isHeap, isImm, zbx, zby, zbz, chkO, setD, dslot, zca, zcb, zcc, zcd, ptrCells_some, F16, hb, hC', hb6, hC6, g0, g6, hfw, alts16_8]
            refine ⟨4 - (p + 1), by omega, p + 1, ⟨p, 6⟩, ?_, hf.trans (Ff.set _), hR6, by omega, rfl, hm, fun h => by cases h⟩
            simp only [WN, firstReg, growAll, zbv, zbw, norm, killS, zag, zah, zaa, zab, zbl, zat, zad, growOne, zae, zaf, zac, zas, zak, Nat.reduceLT, Nat.reduceAdd, zbj, zav, F16, hxc, hnx]
            try rfl
    · have hi : i = 4 := by have := of_decide_eq_false hge; omega
      subst hi
      have hs1 : s1 = magG magicB L 0 := by
        rw [← hm]; unfold contG
        obtain ⟨p, e⟩ := s1
        cases e <;> rfl
      subst hs1
      simp only [hge]
      have h5m : L.length ≤ 5000000 := by omega
      have hc1 : w + 1 < H'.length := by have := hf.1; omega
      clear hm hat0 hb
      simp only [WW, partV, eqCells, eqLf, minV, maxV, ifcV, zaa, zab, zac, zad, zae, zaf, zag, zah, zai, ofConst, ofConst1, List.replicate, zaj, zak, loadOp, Go.Abs.loadCells, binV, zal, pickV, zam, zan, zao, zap, zaq, zar, zas, zat, zau, outR, resAll, resOne, zav, zaw, zax, zay, zaz, zba, zbb, zbc, zbd, zbe, zbf, zbg, zbh, zbi, zbj, zbk, storeOp, storeCell, overlay, zbl, zbm, zbn, lookupOp, keyT, okRes, mapUpdateOp, zbo, zbp, zbq, zbr, zbs, zbt, zbu, Nat.reduceSub, Nat.reduceAdd, Int.reduceLT, Int.reduceLE, Int.reduceAdd, Int.reduceSub, Int.reduceToNat, Int.reduceBEq, Int.reduceBNe, Int.reduceMul, Nat.reduceBEq, Nat.reduceBNe, Nat.reduceLT, Nat.reduceLeDiff, Nat.reduceMul, Nat.reduceEqDiff, WD, effB, effH, isPriv, isHeap, isImm, zbx, zby, zbz, chkO, setD, dslot, zca, zcb, zcc, zcd, ptrCells_some, F16, hC']
      refine wpCall_of (allR42 (textS L) V.str (fun _ _ => rfl) (fun _ => rfl) (fun _ => rfl) call43 hR' hL h5m (fun H1 s1 h1 h2 => text43 h2 hL h5m)) ?_
      rintro out H2' ⟨y2, rfl, g2', hR2', hO2⟩
      obtain ⟨H2, e2, g2, hR2⟩ := own_done g2' hR'.lt hR'.r hR2' hO2
      have hf2 := hf.trans g2
      have hC2 := (g2.2 (w + 1) hc1 hcw).trans hC'
      have hc2 := Nat.lt_of_lt_of_le hc1 g2.1
      simp only [WW, partV, eqCells, eqLf, minV, maxV, ifcV, zaa, zab, zac, zad, zae, zaf, zag, zah, zai, ofConst, ofConst1, List.replicate, zaj, zak, loadOp, Go.Abs.loadCells, binV, zal, pickV, zam, zan, zao, zap, zaq, zar, zas, zat, zau, outR, resAll, resOne, zav, zaw, zax, zay, zaz, zba, zbb, zbc, zbd, zbe, zbf, zbg, zbh, zbi, zbj, zbk, storeOp, storeCell, overlay, zbl, zbm, zbn, lookupOp, keyT, okRes, mapUpdateOp, zbo, zbp, zbq, zbr, zbs, zbt, zbu, Nat.reduceSub, Nat.reduceAdd, Int.reduceLT, Int.reduceLE, Int.reduceAdd, Int.reduceSub, Int.reduceToNat, Int.reduceBEq, Int.reduceBNe, Int.reduceMul, Nat.reduceBEq, Nat.reduceBNe, Nat.reduceLT, Nat.reduceLeDiff, Nat.reduceMul, Nat.reduceEqDiff, WD, effB, effH, isPriv, isHeap, isImm, zbx, zby, zbz, chkO, setD, dslot, zca, zcb, zcc, zcd, ptrCells_some, F16, e2, hC2, buildOp, fillV, Lay.place, Bool.or_self, Bool.or_false, Bool.false_or, decide_not, ne_eq, not_true_eq_false, decide_eq_true_eq, Nat.lt_irrefl, repL_shut, repL_ok, repL_cells, repL_width]
      refine wpCall_of (allR44 (keysS L) keyV (fun _ st => repL_shut _ st) (fun _ => repL_ok _) (fun _ => repL_width _) call45 hR2 hL h5m (fun H1 s1 h1 h2 => clos45 ((h1.2 (w + 1) hc2 hcw).trans hC2) h2 hL h5m)) ?_
      rintro out H3' ⟨y3, rfl, g3', hR3', hO3⟩
      obtain ⟨H3, e3, g3, hR3⟩ := own_done g3' hR2.lt hR2.r hR3' hO3
      have hf3 := hf2.trans g3
      have hC3 := (g3.2 (w + 1) hc2 hcw).trans hC2
      have hc3 := Nat.lt_of_lt_of_le hc2 g3.1
      simp only [WW, partV, eqCells, eqLf, minV, maxV, ifcV, zaa, zab, zac, zad, zae, zaf, zag, zah, zai, ofConst, ofConst1, List.replicate, zaj, zak, loadOp, Go.Abs.loadCells, binV, zal, pickV, zam, zan, zao, zap, zaq, zar, zas, zat, zau, outR, resAll, resOne, zav, zaw, zax, zay, zaz, zba, zbb, zbc, zbd, zbe, zbf, zbg, zbh, zbi, zbj, zbk, storeOp, storeCell, overlay, zbl, zbm, zbn, lookupOp, keyT, okRes, mapUpdateOp, zbo, zbp, zbq, zbr, zbs, zbt, zbu, Nat.reduceSub, Nat.reduceAdd, Int.reduceLT, Int.reduceLE, Int.reduceAdd, Int.reduceSub, Int.reduceToNat, Int.reduceBEq, Int.reduceBNe, Int.reduceMul, Nat.reduceBEq, Nat.reduceBNe, Nat.reduceLT, Nat.reduceLeDiff, Nat.reduceMul, Nat.reduceEqDiff, WD, effB, effH, isPriv, isHeap, isImm, zbx, zby, zbz, chkO, setD, dslot, zca, zcb, zcc, zcd, ptrCells_some, F16, e3, hC3, buildOp, fillV, Lay.place, Bool.or_self, Bool.or_false, Bool.false_or, decide_not, ne_eq, not_true_eq_false, decide_eq_true_eq, Nat.lt_irrefl, repL_shut, repL_ok, repL_cells, repL_width]
      refine wpCall_of (numR hR3 hL h5m) ?_
      rintro out H4 ⟨rfl, g4, hR4⟩
      have hf4 := hf3.trans g4
      have hC4 := (g4.2 (w + 1) hc3 hcw).trans hC3
      have hc4 := Nat.lt_of_lt_of_le hc3 g4.1
      simp only [WW, partV, eqCells, eqLf, minV, maxV, ifcV, zaa, zab, zac, zad, zae, zaf, zag, zah, zai, ofConst, ofConst1, List.replicate, zaj, zak, loadOp, Go.Abs.loadCells, binV, zal, pickV, zam, zan, zao, zap, zaq, zar, zas, zat, zau, outR, resAll, resOne, zav, zaw, zax, zay, zaz, zba, zbb, zbc, zbd, zbe, zbf, zbg, zbh, zbi, zbj, zbk, storeOp, storeCell, overlay, zbl, zbm, zbn, lookupOp, keyT, okRes, mapUpdateOp, zbo, zbp, zbq, zbr, zbs, zbt, zbu, Nat.reduceSub, Nat.reduceAdd, Int.reduceLT, Int.reduceLE, Int.reduceAdd, Int.reduceSub, Int.reduceToNat, Int.reduceBEq, Int.reduceBNe, Int.reduceMul, Nat.reduceBEq, Nat.reduceBNe, Nat.reduceLT, Nat.reduceLeDiff, Nat.reduceMul, Nat.reduceEqDiff, WD, effB, effH, isPriv, isHeap, isImm, zbx, zby, zbz, chkO, setD, dslot, zca, zcb, zcc, zcd, ptrCells_some, F16, hC4, buildOp, fillV, Lay.place, Bool.or_self, Bool.or_false, Bool.false_or, decide_not, ne_eq, not_true_eq_false, decide_eq_true_eq, Nat.lt_irrefl, repL_shut, repL_ok, repL_cells, repL_width]
      refine wpCall_of (allR48 (fnS L) fnVal (fun _ _ => rfl) (fun _ => rfl) (fun _ => rfl) call49 hR4 hL h5m (fun H1 s1 h1 h2 => function49 h2 hL h5m)) ?_
      rintro out H5' ⟨y5, rfl, g5', hR5', hO5⟩
      obtain ⟨H5, e5, g5, hR5⟩ := own_done g5' hR4.lt hR4.r hR5' hO5
      have hf5 := hf4.trans g5
      have hC5 := (g5.2 (w + 1) hc4 hcw).trans hC4
      have hc5 := Nat.lt_of_lt_of_le hc4 g5.1
      have him : (imgS L (magG magicB L 0)).2 = (allS L (fnS L) (num L (allS L (keysS L) (allS L (textS L) (magG magicB L 0)).2).2).2).2 := rfl
      have hT : decT L (decS L) = decT L (⟨(allS L (fnS L) (num L (allS L (keysS L) (allS L (textS L) (magG magicB L 0)).2).2).2).1, (allS L (textS L) (magG magicB L 0)).1, (allS L (keysS L) (allS L (textS L) (magG magicB L 0)).2).1, ((num L (allS L (keysS L) (allS L (textS L) (magG magicB L 0)).2).2).1 : Int)⟩, endS L (allS L (fnS L) (num L (allS L (keysS L) (allS L (textS L) (magG magicB L 0)).2).2).2).2) := rfl
      rw [hT]
      generalize (allS L (fnS L) (num L (allS L (keysS L) (allS L (textS L) (magG magicB L 0)).2).2).2).2 = s5 at *
      obtain ⟨p, e⟩ := s5
      have hb5 := hR5.b
      simp only [rdr] at hb5
      have hp5 : p ≤ L.length := hR5.o
      have hend : Kp H H5 := hk1 H5 hf5
      cases e with
      | succ e1 =>
        have h00 : (((e1 + 1 : Nat) : Int) == 0) = false := by rw [beq_eq_false_iff_ne]; omega
        have h01 : (((e1 + 1 : Nat) : Int) != 0) = true := by simp only [bne_iff_ne, ne_eq]; omega
        simp only [WW, partV, eqCells, eqLf, minV, maxV, ifcV, zaa, zab, zac, zad, zae, zaf, zag, zah, zai, ofConst, ofConst1, List.replicate, zaj, zak, loadOp, Go.Abs.loadCells, binV, zal, pickV, zam, zan, zao, zap, zaq, zar, zas, zat, zau, outR, resAll, resOne, zav, zaw, zax, zay, zaz, zba, zbb, zbc, zbd, zbe, zbf, zbg, zbh, zbi, zbj, zbk, storeOp, storeCell, overlay, zbl, zbm, zbn, lookupOp, keyT, okRes, mapUpdateOp, zbo, zbp, zbq, zbr, zbs, zbt, zbu, Nat.reduceSub, Nat.reduceAdd, Int.reduceLT, Int.reduceLE, Int.reduceAdd, Int.reduceSub, Int.reduceToNat, Int.reduceBEq, Int.reduceBNe, Int.reduceMul, Nat.reduceBEq, Nat.reduceBNe, Nat.reduceLT, Nat.reduceLeDiff, Nat.reduceMul, Nat.reduceEqDiff, WD, effB, effH, isPriv, isHeap, isImm, zbx, zby, zbz, chkO, setD, dslot, zca, zcb, zcc, zcd, ptrCells_some, F16, e5, hC5, hb5, h00, h01, buildOp, fillV, Lay.place, Bool.or_self, Bool.or_false, Bool.false_or, decide_not, ne_eq, not_true_eq_false, decide_eq_true_eq, Nat.lt_irrefl, repL_shut, repL_ok, repL_cells, repL_width]
        refine wC_dr alts16_19 (by kernel_rfl) ?_
        simp only [WW, partV, eqCells, eqLf, minV, maxV, ifcV, zaa, zab, zac, zad, zae, zaf, zag, zah, zai, ofConst, ofConst1, List.replicate, zaj, zak, loadOp, Go.Abs.loadCells, binV, zal, pickV, zam, zan, zao, zap, zaq, zar, zas, zat, zau, outR, resAll, resOne, zav, zaw, zax, zay, zaz, zba, zbb, zbc, zbd, zbe, zbf, zbg, zbh, zbi, zbj, zbk, storeOp, storeCell, overlay, zbl, zbm, zbn, lookupOp, keyT, okRes, mapUpdateOp, zbo, zbp, zbq, zbr, zbs, zbt, zbu, Nat.reduceSub, Nat.reduceAdd, Int.reduceLT, Int.reduceLE, Int.reduceAdd, Int.reduceSub, Int.reduceToNat, Int.reduceBEq, Int.reduceBNe, Int.reduceMul, Nat.reduceBEq, Nat.reduceBNe, Nat.reduceLT, Nat.reduceLeDiff, Nat.reduceMul, Nat.reduceEqDiff, WD, effB, effH, isPriv, isHeap, isImm, zbx, zby, zbz, chkO, setD, dslot, zca, zcb, zcc, zcd, ptrCells_some, F16, hC5, hb5, alts16_19, buildOp, fillV, Lay.place, Bool.or_self, Bool.or_false, Bool.false_or, decide_not, ne_eq, not_true_eq_false, decide_eq_true_eq, Nat.lt_irrefl, repL_shut, repL_ok, repL_cells, repL_width]
        exact ⟨rfl, hend⟩
      | zero =>
        have h00 : (((0 : Nat) : Int) == 0) = true := rfl
        have h01 : (((0 : Nat) : Int) != 0) = false := rfl
        by_cases hpl : p < L.length
        · have hd : decide ((p : Int) < (L.length : Int)) = true := decide_eq_true (by omega)
          have hfw : ∀ K, wpCall (evW Tryd.prog notes) 41 [.ptr w 0 0, .int .i64 6, .int .i64 (p : Nat)] H5 K = K (.ret (.tup []) false) (H5.set w (rdr x ⟨p, 6⟩)) := fun K => wpCall_eq (failR hR5 6 p)
          have hR6 := hR5.to (s' := ⟨p, 6⟩) hR5.o
          have hb6 : (H5.set w (rdr x ⟨p, 6⟩))[w]? = some (.cells [.agg [x, .int .i64 (p : Nat), .int .i64 6]]) := hR6.b
          have hC6 : (H5.set w (rdr x ⟨p, 6⟩))[w + 1]? = some (.cells [.ptr w 0 0]) := by rw [List.getElem?_set, if_neg (by omega)]; exact hC5
          have g6 : ((6 : Int) != 0) = true := rfl
          have hes : endS L ⟨p, 0⟩ = ⟨p, 6⟩ := by simp only [endS]; rw [if_pos hpl]
          rw [hes]
          simp only [WW, partV, eqCells, eqLf, minV, maxV, ifcV, zaa, zab, zac, zad, zae, zaf, zag, zah, zai, ofConst, ofConst1, List.replicate, zaj, zak, loadOp, Go.Abs.loadCells, binV, zal, pickV, zam, zan, zao, zap, zaq, zar, zas, zat, zau, outR, resAll, resOne, zav, zaw, zax, zay, zaz, zba, zbb, zbc, zbd, zbe, zbf, zbg, zbh, zbi, zbj, zbk, storeOp, storeCell, overlay, zbl, zbm, zbn, lookupOp, keyT, okRes, mapUpdateOp, zbo, zbp, zbq, zbr, zbs, zbt, zbu, Nat.reduceSub, Nat.reduceAdd, Int.reduceLT, Int.reduceLE, Int.reduceAdd, Int.reduceSub, Int.reduceToNat, Int.reduceBEq, Int.reduceBNe, Int.reduceMul, Nat.reduceBEq, Nat.reduceBNe, Nat.reduceLT, Nat.reduceLeDiff, Nat.reduceMul, Nat.reduceEqDiff, WD, effB, effH, isPriv, isHeap, isImm, zbx, zby, zbz, chkO, setD, dslot, zca, zcb, zcc, zcd, ptrCells_some, F16, e5, hC5, hb5, h00, hd, hxs, hxl, buildOp, fillV, Lay.place, Bool.or_self, Bool.or_false, Bool.false_or, decide_not, ne_eq, not_true_eq_false, decide_eq_true_eq, Nat.lt_irrefl, repL_shut, repL_ok, repL_cells, repL_width]
          refine wC_dr alts16_17 (by kernel_rfl) ?_
          simp only [WW, partV, eqCells, eqLf, minV, maxV, ifcV, zaa, zab, zac, zad, zae, zaf, zag, zah, zai, ofConst, ofConst1, List.replicate, zaj, zak, loadOp, Go.Abs.loadCells, binV, zal, pickV, zam, zan, zao, zap, zaq, zar, zas, zat, zau, outR, resAll, resOne, zav, zaw, zax, zay, zaz, zba, zbb, zbc, zbd, zbe, zbf, zbg, zbh, zbi, zbj, zbk, storeOp, storeCell, overlay, zbl, zbm, zbn, lookupOp, keyT, okRes, mapUpdateOp, zbo, zbp, zbq, zbr, zbs, zbt, zbu, Nat.reduceSub, Nat.reduceAdd, Int.reduceLT, Int.reduceLE, Int.reduceAdd, Int.reduceSub, Int.reduceToNat, Int.reduceBEq, Int.reduceBNe, Int.reduceMul, Nat.reduceBEq, Nat.reduceBNe, Nat.reduceLT, Nat.reduceLeDiff, Nat.reduceMul, Nat.reduceEqDiff, WD, effB, effH, isPriv, isHeap, isImm, zbx, zby, zbz, chkO, setD, dslot, zca, zcb, zcc, zcd, ptrCells_some, F16, hC5, hb5, hC6, hb6, hfw, g6, alts16_17]
          refine wC_dr alts16_19 (by kernel_rfl) ?_
          simp only [WW, partV, eqCells, eqLf, minV, maxV, ifcV, zaa, zab, zac, zad, zae, zaf, zag, zah, zai, ofConst, ofConst1, List.replicate, zaj, zak, loadOp, Go.Abs.loadCells, binV, zal, pickV, zam, zan, zao, zap, zaq, zar, zas, zat, zau, outR, resAll, resOne, zav, zaw, zax, zay, zaz, zba, zbb, zbc, zbd, zbe, zbf, zbg, zbh, zbi, zbj, zbk, storeOp, storeCell, overlay, zbl, zbm, zbn, lookupOp, keyT, okRes, mapUpdateOp, zbo, zbp, zbq, zbr, zbs, zbt, zbu, Nat.reduceSub, Nat.reduceAdd, Int.reduceLT, Int.reduceLE, Int.reduceAdd, Int.reduceSub, Int.reduceToNat, Int.reduceBEq, Int.reduceBNe, Int.reduceMul, Nat.reduceBEq, Nat.reduceBNe, Nat.reduceLT, Nat.reduceLeDiff, Nat.reduceMul, Nat.reduceEqDiff, WD, effB, effH, isPriv, isHeap, isImm, zbx, zby, zbz, chkO, setD, dslot, zca, zcb, zcc, zcd, ptrCells_some, F16, hC6, hb6, alts16_19, buildOp, fillV, Lay.place, Bool.or_self, Bool.or_false, Bool.false_or, decide_not, ne_eq, not_true_eq_false, decide_eq_true_eq, Nat.lt_irrefl, repL_shut, repL_ok, repL_cells, repL_width]
          exact ⟨rfl, hk1 _ (hf5.trans (Ff.set _))⟩
        · have hd : decide ((p : Int) < (L.length : Int)) = false := decide_eq_false (by omega)
          have hes : endS L ⟨p, 0⟩ = ⟨p, 0⟩ := by simp only [endS]; rw [if_neg hpl]
          rw [hes]
          simp only [WW, partV, eqCells, eqLf, minV, maxV, ifcV, zaa, zab, zac, zad, zae, zaf, zag, zah, zai, ofConst, ofConst1, List.replicate, zaj, zak, loadOp, Go.Abs.loadCells, binV, zal, pickV, zam, zan, zao, zap, zaq, zar, zas, zat, zau, outR, resAll, resOne, zav, zaw, zax, zay, zaz, zba, zbb, zbc, zbd, zbe, zbf, zbg, zbh, zbi, zbj, zbk, storeOp, storeCell, overlay, zbl, zbm, zbn, lookupOp, keyT, okRes, mapUpdateOp, zbo, zbp, zbq, zbr, zbs, zbt, zbu, Nat.reduceSub, Nat.reduceAdd, Int.reduceLT, Int.reduceLE, Int.reduceAdd, Int.reduceSub, Int.reduceToNat, Int.reduceBEq, Int.reduceBNe, Int.reduceMul, Nat.reduceBEq, Nat.reduceBNe, Nat.reduceLT, Nat.reduceLeDiff, Nat.reduceMul, Nat.reduceEqDiff, WD, effB, effH, isPriv, isHeap, isImm, zbx, zby, zbz, chkO, setD, dslot, zca, zcb, zcc, zcd, ptrCells_some, F16, e5, hC5, hb5, h00, h01, hd, hxs, hxl, buildOp, fillV, Lay.place, Bool.or_self, Bool.or_false, Bool.false_or, decide_not, ne_eq, not_true_eq_false, decide_eq_true_eq, Nat.lt_irrefl, repL_shut, repL_ok, repL_cells, repL_width]
          exact ⟨rfl, hend⟩
end Go.Proofs.YtgjobbmbbedecaaDoor

/- Plain law: what is told is read as it was. -/
namespace Go.Proofs.YtgjobbmbbedecaaDoor
open Go Go.Abs Go.Proofs
set_option maxRecDepth 100000
set_option maxHeartbeats 2000000
set_option linter.unusedVariables false
set_option linter.unusedSimpArgs false
theorem drop_head {L R : List Nat} {p x : Nat} (h : L.drop p = x :: R) : L[p]? = some x ∧ L.drop (p + 1) = R := by
  refine ⟨?_, ?_⟩
  · have := congrArg (fun l => l[0]?) h
    simpa using this
  · rw [← List.drop_drop, h]; rfl
theorem drop_len {L A R : List Nat} {p : Nat} (h : L.drop p = A ++ R) : L.drop (p + A.length) = R := by
  rw [← List.drop_drop, h, List.drop_left]
theorem drop_le {L A R : List Nat} {p : Nat} (h : L.drop p = A ++ R) (ha : 0 < A.length) : p + A.length + R.length = L.length := by
  have := congrArg List.length h
  simp only [List.length_drop, List.length_append] at this
  omega
theorem numG_enc {L : List Nat} : ∀ (k i v m p : Nat) (R : List Nat), i + k = 9 → L.drop p = encN m ++ R → v + m * 2 ^ (7 * i) ≤ 4611686018427387903 → (0 < i → 0 < m) → numG L k i v p = (v + m * 2 ^ (7 * i), ⟨p + (encN m).length, 0⟩)
  | 0, i, v, m, p, R, hk, hd, hle, hpos => by
    exfalso
    have hi : i = 9 := by omega
    subst hi
    have := hpos (by omega)
    have e : (2 : Nat) ^ (7 * 9) = 9223372036854775808 := by decide
    rw [e] at hle
    have : 1 * 9223372036854775808 ≤ m * 9223372036854775808 := Nat.mul_le_mul_right _ this
    omega
  | k + 1, i, v, m, p, R, hk, hd, hle, hpos => by
    have h8 : i = 8 → m < 64 := fun h => by
      subst h
      have e : (2 : Nat) ^ (7 * 8) = 72057594037927936 := by decide
      rw [e] at hle
      omega
    unfold numG
    by_cases hm : m < 128
    · rw [encN_small hm] at hd ⊢
      obtain ⟨h1, h2⟩ := drop_head hd
      have hb : badN i m = false := by
        simp only [badN, Bool.or_eq_false_iff, Bool.and_eq_false_iff, decide_eq_false_iff_not]
        refine ⟨?_, ?_⟩
        · by_cases h0 : 0 < i
          · exact .inr (by have := hpos h0; omega)
          · exact .inl h0
        · by_cases h0 : i = 8
          · exact .inr (by have := h8 h0; omega)
          · exact .inl h0
      rw [h1]
      simp only [hb, decide_eq_true hm]
      rw [Nat.mod_eq_of_lt hm]; rfl
    · rw [encN_big hm] at hd ⊢
      obtain ⟨h1, h2⟩ := drop_head hd
      have hb : badN i (128 + m % 128) = false := by
        simp only [badN, Bool.or_eq_false_iff, Bool.and_eq_false_iff, decide_eq_false_iff_not]
        refine ⟨.inr (by omega), ?_⟩
        by_cases h0 : i = 8
        · have := h8 h0; omega
        · exact .inl h0
      have hx : decide (128 + m % 128 < 128) = false := decide_eq_false (by omega)
      have e7 : 2 ^ (7 * (i + 1)) = 2 ^ (7 * i) * 128 := by rw [Nat.mul_add, Nat.pow_add]
      have em : (128 + m % 128) % 128 = m % 128 := by omega
      have etot : v + m % 128 * 2 ^ (7 * i) + m / 128 * 2 ^ (7 * (i + 1)) = v + m * 2 ^ (7 * i) := by
        have : m * 2 ^ (7 * i) = m % 128 * 2 ^ (7 * i) + m / 128 * 2 ^ (7 * (i + 1)) := by
          rw [e7, Nat.mul_comm (2 ^ (7 * i)) 128, ← Nat.mul_assoc, ← Nat.add_mul]
          congr 1; omega
        omega
      rw [h1]
      simp only [hb, hx, em]
      rw [numG_enc k (i + 1) _ (m / 128) (p + 1) R (by omega) h2 (by omega) (fun _ => by omega), etot, List.length_cons]
      congr 2; omega
theorem num_enc {L : List Nat} {n p : Nat} {R : List Nat} (hn : n ≤ 4611686018427387903) (hd : L.drop p = encN n ++ R) : num L ⟨p, 0⟩ = (n, ⟨p + (encN n).length, 0⟩) := by
  have := numG_enc 9 0 0 n p R rfl hd (by simpa using hn) (fun h => absurd h (by omega))
  simpa [num] using this
theorem encN_pos (n : Nat) : 0 < (encN n).length := by
  by_cases h : n < 128
  · rw [encN_small h]; simp
  · rw [encN_big h]; simp
theorem encI_pos (n : Int) : 0 < (encI n).length := encN_pos _
theorem count_enc {L : List Nat} {n p : Nat} {R : List Nat} (hn : n ≤ R.length) (hl : L.length ≤ 4000000000) (hd : L.drop p = encN n ++ R) : count L ⟨p, 0⟩ = (n, ⟨p + (encN n).length, 0⟩) := by
  have hle := drop_le hd (encN_pos n)
  unfold count
  rw [num_enc (by omega) hd]
  unfold countOf
  have : decide (L.length - (p + (encN n).length) < n) = false := decide_eq_false (by omega)
  simp only [this]
theorem allG_enc {α : Type} {L : List Nat} {f : S → α × S} {enc : α → List Nat} : ∀ (l : List α) (p : Nat) (R : List Nat), (∀ a ∈ l, ∀ p R, L.drop p = enc a ++ R → f ⟨p, 0⟩ = (a, ⟨p + (enc a).length, 0⟩)) → L.drop p = l.flatMap enc ++ R → allG f l.length ⟨p, 0⟩ = (l, ⟨p + (l.flatMap enc).length, 0⟩)
  | [], p, R, _, _ => by simp [allG]
  | a :: l, p, R, hA, hd => by
    rw [List.flatMap_cons, List.append_assoc] at hd
    have h1 := hA a (List.mem_cons_self ..) p _ hd
    have h2 := allG_enc l _ R (fun b hb => hA b (List.mem_cons_of_mem _ hb)) (drop_len hd)
    simp only [List.length_cons, allG, h1, h2, List.flatMap_cons, List.length_append]
    congr 2; omega
theorem flat_ge {α : Type} {enc : α → List Nat} (hp : ∀ a, 0 < (enc a).length) : ∀ l : List α, l.length ≤ (l.flatMap enc).length
  | [] => by simp
  | a :: l => by
    have := flat_ge hp l
    have := hp a
    simp only [List.flatMap_cons, List.length_append, List.length_cons]; omega
theorem allS_enc {α : Type} {L : List Nat} {f : S → α × S} {enc : α → List Nat} (hp : ∀ a, 0 < (enc a).length) (hl : L.length ≤ 4000000000) {l : List α} {p : Nat} {R : List Nat} (hA : ∀ a ∈ l, ∀ p R, L.drop p = enc a ++ R → f ⟨p, 0⟩ = (a, ⟨p + (enc a).length, 0⟩)) (hd : L.drop p = encL enc l ++ R) : allS L f ⟨p, 0⟩ = (l, ⟨p + (encL enc l).length, 0⟩) := by
  unfold encL at hd ⊢
  rw [List.append_assoc] at hd
  unfold allS
  have hge := flat_ge hp l
  rw [count_enc (by rw [List.length_append]; omega) hl hd]
  simp only
  rw [allG_enc l _ R hA (drop_len hd), List.length_append, Nat.add_assoc]
theorem encL_pos {α : Type} (f : α → List Nat) (l : List α) : 0 < (encL f l).length := by
  have := encN_pos l.length
  simp only [encL, List.length_append]; omega
section
variable {L : List Nat}
theorem int_enc {n : Int} (h : plain n = true) {p : Nat} {R : List Nat} (hd : L.drop p = encI n ++ R) : num L ⟨p, 0⟩ = (n.toNat, ⟨p + (encI n).length, 0⟩) ∧ ((n.toNat : Nat) : Int) = n := by
  obtain ⟨h1, h2⟩ := plain_iff.1 h
  exact ⟨num_enc (by omega) hd, by omega⟩
theorem intS_enc {n : Int} (h : plain n = true) (p : Nat) (R : List Nat) (hd : L.drop p = encI n ++ R) : intS L ⟨p, 0⟩ = (n, ⟨p + (encI n).length, 0⟩) := by
  obtain ⟨h1, h2⟩ := int_enc h hd
  simp only [intS, natI, h1, h2]
theorem unzz_zz (z : Int) : unzz (zz z).toNat = z := by
  unfold unzz zz
  split
  · have : (-2 * z - 1).toNat % 2 = 1 := by omega
    rw [if_pos this]; omega
  · have : ¬ (2 * z).toNat % 2 = 1 := by omega
    rw [if_neg this]; omega
theorem sgn_enc {z : Int} (h : signedOk z = true) {p : Nat} {R : List Nat} (hd : L.drop p = encZ z ++ R) : sgn L ⟨p, 0⟩ = (z, ⟨p + (encZ z).length, 0⟩) := by
  obtain ⟨h1, h2⟩ := int_enc (zz_plain h) hd
  simp only [sgn, h1, unzz_zz]; rfl
theorem capS_enc {a : Int × Int} (h : capOk a = true) (p : Nat) (R : List Nat) (hd : L.drop p = encCap a ++ R) : capS L ⟨p, 0⟩ = (a, ⟨p + (encCap a).length, 0⟩) := by
  simp only [capOk, Bool.and_eq_true] at h
  unfold encCap at hd ⊢
  rw [List.append_assoc] at hd
  obtain ⟨h1, e1⟩ := int_enc h.1 hd
  obtain ⟨h2, e2⟩ := int_enc h.2 (drop_len hd)
  simp only [capS, h1, h2, e1, e2, List.length_append, Nat.add_assoc]
theorem insS_enc {a : Int × Int × Int} (h : inOk a = true) (p : Nat) (R : List Nat) (hd : L.drop p = encIn a ++ R) : insS L ⟨p, 0⟩ = (a, ⟨p + (encIn a).length, 0⟩) := by
  simp only [inOk, Bool.and_eq_true] at h
  unfold encIn at hd ⊢
  simp only [List.append_assoc] at hd
  obtain ⟨h1, e1⟩ := int_enc h.1 hd
  have d2 := drop_len hd
  have h2 := sgn_enc h.2.1 d2
  have h3 := sgn_enc h.2.2 (drop_len d2)
  simp only [insS, h1, h2, h3, e1]
  simp only [List.length_append, Nat.add_assoc]
theorem tryS_enc {a : Int × Int × Int × Int} (h : tryOk a = true) (p : Nat) (R : List Nat) (hd : L.drop p = encTry a ++ R) : tryS L ⟨p, 0⟩ = (a, ⟨p + (encTry a).length, 0⟩) := by
  simp only [tryOk, Bool.and_eq_true] at h
  unfold encTry at hd ⊢
  simp only [List.append_assoc] at hd
  obtain ⟨h1, e1⟩ := int_enc h.1 hd
  have d2 := drop_len hd
  obtain ⟨h2, e2⟩ := int_enc h.2.1 d2
  have d3 := drop_len d2
  obtain ⟨h3, e3⟩ := int_enc h.2.2.1 d3
  obtain ⟨h4, e4⟩ := int_enc h.2.2.2 (drop_len d3)
  simp only [tryS, h1, h2, h3, h4, e1, e2, e3, e4]
  simp only [List.length_append, Nat.add_assoc]
theorem encCap_pos (a : Int × Int) : 0 < (encCap a).length := by have := encI_pos a.1; simp only [encCap, List.length_append]; omega
theorem encIn_pos (a : Int × Int × Int) : 0 < (encIn a).length := by have := encI_pos a.1; simp only [encIn, List.length_append]; omega
theorem encTry_pos (a : Int × Int × Int × Int) : 0 < (encTry a).length := by have := encI_pos a.1; simp only [encTry, List.length_append]; omega
theorem encFn_pos (c : FnM) : 0 < (encFn c).length := by have := encI_pos c.params; simp only [encFn, List.length_append]; omega
theorem encS_pos (s : ByteArray) : 0 < (encS s).length := by have := encN_pos s.size; simp only [encS, List.length_append]; omega
theorem keysS_enc (hl : L.length ≤ 4000000000) {k : List Int} (h : k.all plain = true) (p : Nat) (R : List Nat) (hd : L.drop p = encL encI k ++ R) : keysS L ⟨p, 0⟩ = (k, ⟨p + (encL encI k).length, 0⟩) :=
  allS_enc encI_pos hl (fun a ha p R hd => intS_enc (all_mem h ha) p R hd) hd
theorem fnS_enc (hl : L.length ≤ 4000000000) {c : FnM} (h : fnOk c = true) (p : Nat) (R : List Nat) (hd : L.drop p = encFn c ++ R) : fnS L ⟨p, 0⟩ = (c, ⟨p + (encFn c).length, 0⟩) := by
  simp only [fnOk, Bool.and_eq_true] at h
  obtain ⟨o1, o2, o3, o4, o5, o6⟩ := h
  unfold encFn at hd ⊢
  simp only [List.append_assoc] at hd
  obtain ⟨h1, e1⟩ := int_enc o1 hd
  have d2 := drop_len hd
  obtain ⟨h2, e2⟩ := int_enc o2 d2
  have d3 := drop_len d2
  have h3 := allS_enc (f := intS L) encI_pos hl (fun a ha p R hd => intS_enc (all_mem o3 ha) p R hd) d3
  have d4 := drop_len d3
  have h4 := allS_enc (f := capS L) encCap_pos hl (fun a ha p R hd => capS_enc (all_mem o4 ha) p R hd) d4
  have d5 := drop_len d4
  have h5 := allS_enc (f := insS L) encIn_pos hl (fun a ha p R hd => insS_enc (all_mem o5 ha) p R hd) d5
  have h6 := allS_enc (f := tryS L) encTry_pos hl (fun a ha p R hd => tryS_enc (all_mem o6 ha) p R hd) (drop_len d5)
  simp only [fnS, h1, h2, h3, h4, h5, h6, e1, e2]
  simp only [List.length_append, Nat.add_assoc]
theorem strL_strB (s : ByteArray) : strL (strB s) = s := by
  unfold strL strB
  rw [List.map_map]
  have : (UInt8.ofNat ∘ fun (x : UInt8) => x.toNat) = id := by funext x; simp
  rw [this, List.map_id]
theorem textS_enc (hl : L.length ≤ 4000000000) {s : ByteArray} (p : Nat) (R : List Nat) (hd : L.drop p = encS s ++ R) : textS L ⟨p, 0⟩ = (s, ⟨p + (encS s).length, 0⟩) := by
  unfold encS at hd ⊢
  rw [List.append_assoc] at hd
  have hc := count_enc (n := s.size) (by rw [List.length_append, strB_len]; omega) hl hd
  have d2 := drop_len hd
  simp only [textS, hc, d2]
  have : (strB s ++ R).take s.size = strB s := by rw [← strB_len, List.take_left]
  rw [this, strL_strB, List.length_append, strB_len, Nat.add_assoc]
theorem magG_enc (ms R : List Nat) : ∀ p, magG ms (ms ++ R) p = ⟨p + ms.length, 0⟩ := by
  induction ms with
  | nil => intro p; rfl
  | cons m ms ih =>
    intro p
    simp only [List.cons_append, magG, if_true, ih, List.length_cons]
    congr 1; omega
theorem imgS_enc {im : ImM} (h : imOk im = true) {R : List Nat} (hL : L = encIm im ++ R) (hl : L.length ≤ 4000000000) : imgS L (magG magicB L 0) = (im, ⟨(encIm im).length, 0⟩) := by
  simp only [imOk, Bool.and_eq_true] at h
  obtain ⟨o1, o2, o3⟩ := h
  have hm : magG magicB L 0 = ⟨magicB.length, 0⟩ := by
    rw [hL, encIm, List.append_assoc, magG_enc, Nat.zero_add]
  have hd : L.drop magicB.length = encL encS im.strs ++ (encL (encL encI) im.keys ++ (encI im.globals ++ (encL encFn im.funs ++ R))) := by
    rw [hL, encIm]
    simp only [List.append_assoc]
    exact List.drop_left
  rw [hm]
  have h1 := allS_enc (f := textS L) encS_pos hl (fun a ha p R hd => textS_enc hl p R hd) hd
  have d2 := drop_len hd
  have h2 := allS_enc (f := keysS L) (encL_pos encI) hl (fun a ha p R hd => keysS_enc hl (all_mem o1 ha) p R hd) d2
  have d3 := drop_len d2
  obtain ⟨h3, e3⟩ := int_enc o2 d3
  have h4 := allS_enc (f := fnS L) encFn_pos hl (fun a ha p R hd => fnS_enc hl (all_mem o3 ha) p R hd) (drop_len d3)
  simp only [imgS, h1, h2, h3, h4, e3]
  simp only [encIm, List.length_append, Nat.add_assoc]
end
theorem decS_enc {im : ImM} (h : imOk im = true) (hl : (encIm im).length ≤ 4000000000) : decS (encIm im) = (im, ⟨(encIm im).length, 0⟩) := by
  have hi := imgS_enc h (List.append_nil (encIm im)).symm hl
  unfold decS
  rw [hi]
  simp only [endS, Nat.lt_irrefl, if_false]
/-- One byte more -/
theorem decS_more {im : ImM} (h : imOk im = true) (m : Nat) (hl : (encIm im).length ≤ 3000000000) : (decS (encIm im ++ [m])).2 = ⟨(encIm im).length, 6⟩ := by
  have hi := imgS_enc h (L := encIm im ++ [m]) (R := [m]) rfl (by rw [List.length_append]; simp; omega)
  unfold decS
  rw [hi]
  simp only [endS, List.length_append, List.length_singleton]
  rw [if_pos (by omega)]
end Go.Proofs.YtgjobbmbbedecaaDoor

/- Plain law: what is read is told by the same bytes. -/
namespace Go.Proofs.YtgjobbmbbedecaaDoor
open Go Go.Abs Go.Proofs
set_option maxRecDepth 100000
set_option maxHeartbeats 2000000
set_option linter.unusedVariables false
set_option linter.unusedSimpArgs false
section
variable {L : List Nat}
/-! a fault stays -/
theorem num_e {s : S} (h : (num L s).2.e = 0) : s.e = 0 := by
  unfold num at h
  cases he : s.e with
  | zero => rfl
  | succ e => rw [he] at h; simp only at h; rw [he] at h; cases h
theorem failS_e {s : S} {e p : Nat} (h : (failS s (e + 1) p).e = 0) : False := by
  unfold failS at h
  cases he : s.e with
  | zero => rw [he] at h; cases h
  | succ e => rw [he] at h; simp only at h; rw [he] at h; cases h
theorem countOf_e {p : Nat} {r : Nat × S} (h : (countOf L p r).2.e = 0) : r.2.e = 0 ∧ countOf L p r = r ∧ r.1 ≤ L.length - r.2.at_ := by
  unfold countOf at h ⊢
  cases hd : decide (L.length - r.2.at_ < r.1) with
  | true => rw [hd] at h; exact (failS_e h).elim
  | false =>
    have := of_decide_eq_false hd
    rw [hd] at h
    simp only at h ⊢
    cases he : r.2.e with
    | zero => exact ⟨rfl, rfl, by omega⟩
    | succ e => rw [he] at h; simp only at h; rw [he] at h; cases h
theorem count_e {s : S} (h : (count L s).2.e = 0) : (num L s).2.e = 0 ∧ count L s = num L s ∧ (num L s).1 ≤ L.length - (num L s).2.at_ := countOf_e h
theorem allG_e {α : Type} {f : S → α × S} (hf : ∀ s, (f s).2.e = 0 → s.e = 0) : ∀ (n : Nat) (s : S), (allG f n s).2.e = 0 → s.e = 0
  | 0, s, h => h
  | n + 1, s, h => by
    unfold allG at h
    cases he : s.e with
    | zero => rfl
    | succ e => rw [he] at h; simp only at h; rw [he] at h; cases h
theorem allS_e {α : Type} {f : S → α × S} (hf : ∀ s, (f s).2.e = 0 → s.e = 0) {s : S} (h : (allS L f s).2.e = 0) : s.e = 0 := num_e (count_e (allG_e hf _ _ h)).1
theorem intS_e (s : S) (h : (intS L s).2.e = 0) : s.e = 0 := num_e h
theorem sgn_e {s : S} (h : (sgn L s).2.e = 0) : s.e = 0 := num_e h
theorem capS_e (s : S) (h : (capS L s).2.e = 0) : s.e = 0 := num_e (num_e h)
theorem insS_e (s : S) (h : (insS L s).2.e = 0) : s.e = 0 := num_e (sgn_e (sgn_e h))
theorem tryS_e (s : S) (h : (tryS L s).2.e = 0) : s.e = 0 := num_e (num_e (num_e (num_e h)))
theorem keysS_e (s : S) (h : (keysS L s).2.e = 0) : s.e = 0 := allS_e intS_e h
theorem fnS_e (s : S) (h : (fnS L s).2.e = 0) : s.e = 0 := num_e (num_e (allS_e intS_e (allS_e capS_e (allS_e insS_e (allS_e tryS_e h)))))
theorem textS_e (s : S) (h : (textS L s).2.e = 0) : s.e = 0 := by
  unfold textS at h
  simp only at h
  cases he : (count L s).2.e with
  | zero => exact num_e (count_e he).1
  | succ e => rw [he] at h; simp only at h; rw [he] at h; cases h
/-! what was read is what is told -/
/-- From p on the bytes of a stand, ahead of where s is -/
def Can (L : List Nat) (p : Nat) (b : List Nat) (s : S) : Prop := L.drop p = b ++ L.drop s.at_
theorem numG_can (hL : ∀ x ∈ L, x < 256) : ∀ (k i v p : Nat), (numG L k i v p).2.e = 0 → ∃ m, (numG L k i v p).1 = v + m * 2 ^ (7 * i) ∧ Can L p (encN m) (numG L k i v p).2 ∧ (0 < i → 0 < m)
  | 0, i, v, p, h => by simp [numG] at h
  | k + 1, i, v, p, h => by
    unfold numG at h ⊢
    cases hx : L[p]? with
    | none => rw [hx] at h; cases h
    | some x =>
      rw [hx] at h
      have hlt := (List.getElem?_eq_some_iff.1 hx).1
      have hdp : L.drop p = x :: L.drop (p + 1) := by rw [List.drop_eq_getElem_cons hlt, (List.getElem?_eq_some_iff.1 hx).2]
      have hx256 := hL x (List.mem_of_getElem? hx)
      simp only at h ⊢
      cases hb : badN i x with
      | true => rw [hb] at h; cases h
      | false =>
        rw [hb] at h
        simp only at h ⊢
        have hx0 : 0 < i → x ≠ 0 := fun hi h0 => by
          simp only [badN, Bool.or_eq_false_iff, Bool.and_eq_false_iff, decide_eq_false_iff_not] at hb
          rcases hb.1 with h1 | h1
          · exact h1 hi
          · exact h1 h0
        cases hd : decide (x < 128) with
        | true =>
          have hx128 := of_decide_eq_true hd
          refine ⟨x, by simp only; rw [Nat.mod_eq_of_lt hx128], ?_, fun hi => by have := hx0 hi; omega⟩
          show L.drop p = encN x ++ L.drop (p + 1)
          rw [encN_small hx128, hdp]; rfl
        | false =>
          have hx128 := of_decide_eq_false hd
          rw [hd] at h
          simp only at h ⊢
          obtain ⟨m, h1, h2, h3⟩ := numG_can hL k (i + 1) _ (p + 1) h
          have hm := h3 (by omega)
          refine ⟨x % 128 + m * 128, ?_, ?_, fun _ => by omega⟩
          · rw [h1]
            have e7 : 2 ^ (7 * (i + 1)) = 2 ^ (7 * i) * 128 := by rw [Nat.mul_add, Nat.pow_add]
            rw [e7, Nat.add_mul, Nat.mul_comm (2 ^ (7 * i)) 128, Nat.mul_assoc, Nat.add_assoc]
          · unfold Can at h2 ⊢
            rw [encN_big (by omega), hdp, h2]
            have e1 : 128 + (x % 128 + m * 128) % 128 = x := by omega
            have e2 : (x % 128 + m * 128) / 128 = m := by omega
            rw [e1, e2]; rfl
theorem num_can (hL : ∀ x ∈ L, x < 256) {s : S} (h : (num L s).2.e = 0) : Can L s.at_ (encN (num L s).1) (num L s).2 := by
  have hs := num_e h
  unfold num at h ⊢
  rw [hs] at h ⊢
  simp only at h ⊢
  obtain ⟨m, h1, h2, _⟩ := numG_can hL 9 0 0 s.at_ h
  have : (numG L 9 0 0 s.at_).1 = m := by rw [h1]; simp
  rw [this]; exact h2
theorem Can.trans {p : Nat} {a b : List Nat} {s t : S} (h1 : Can L p a s) (h2 : Can L s.at_ b t) : Can L p (a ++ b) t := by
  unfold Can at *
  rw [h1, h2, List.append_assoc]
theorem plain_nat {n : Nat} (h : n ≤ 4611686018427387903) : plain (n : Int) = true ∧ encI (n : Int) = encN n := ⟨plain_iff.2 ⟨by omega, by omega⟩, rfl⟩
theorem int_can (hL : ∀ x ∈ L, x < 256) {s : S} (h : (num L s).2.e = 0) : plain ((num L s).1 : Int) = true ∧ Can L s.at_ (encI ((num L s).1 : Int)) (num L s).2 :=
  ⟨(plain_nat (num_lt hL s)).1, num_can hL h⟩
theorem sgn_can (hL : ∀ x ∈ L, x < 256) {s : S} (h : (sgn L s).2.e = 0) : signedOk (sgn L s).1 = true ∧ Can L s.at_ (encZ (sgn L s).1) (sgn L s).2 := by
  have h1 := num_can hL h
  have h2 := num_lt hL s
  have e : zz (sgn L s).1 = ((num L s).1 : Int) := by
    simp only [sgn, unzz]
    unfold zz
    split <;> split <;> omega
  refine ⟨?_, ?_⟩
  · rw [signed_iff]
    simp only [sgn, unzz]
    split <;> omega
  · rw [encZ, e]; exact h1
theorem count_can (hL : ∀ x ∈ L, x < 256) {s : S} (h : (count L s).2.e = 0) : Can L s.at_ (encN (count L s).1) (count L s).2 := by
  obtain ⟨h1, h2, _⟩ := count_e h
  rw [h2]; exact num_can hL h1
theorem allG_can {α : Type} {f : S → α × S} {enc : α → List Nat} {ok : α → Bool} (hf : ∀ s, (f s).2.e = 0 → s.e = 0) (hc : ∀ s, (f s).2.e = 0 → ok (f s).1 = true ∧ Can L s.at_ (enc (f s).1) (f s).2) : ∀ (n : Nat) (s : S), (allG f n s).2.e = 0 → (allG f n s).1.length = n ∧ (allG f n s).1.all ok = true ∧ Can L s.at_ ((allG f n s).1.flatMap enc) (allG f n s).2
  | 0, s, h => ⟨rfl, rfl, rfl⟩
  | n + 1, s, h => by
    have hs := allG_e hf _ _ h
    unfold allG at h ⊢
    rw [hs] at h ⊢
    simp only at h ⊢
    obtain ⟨h1, h2, h3⟩ := allG_can hf hc n (f s).2 h
    obtain ⟨h4, h5⟩ := hc s (allG_e hf _ _ h)
    refine ⟨by simp [h1], by simp [h4, h2], ?_⟩
    rw [List.flatMap_cons]
    exact h5.trans h3
theorem allS_can (hL : ∀ x ∈ L, x < 256) {α : Type} {f : S → α × S} {enc : α → List Nat} {ok : α → Bool} (hf : ∀ s, (f s).2.e = 0 → s.e = 0) (hc : ∀ s, (f s).2.e = 0 → ok (f s).1 = true ∧ Can L s.at_ (enc (f s).1) (f s).2) {s : S} (h : (allS L f s).2.e = 0) : (allS L f s).1.all ok = true ∧ Can L s.at_ (encL enc (allS L f s).1) (allS L f s).2 := by
  unfold allS at h ⊢
  have h0 := allG_e hf _ _ h
  obtain ⟨h1, h2, h3⟩ := allG_can hf hc _ _ h
  refine ⟨h2, ?_⟩
  unfold encL
  rw [h1]
  exact (count_can hL h0).trans h3
theorem intS_can (hL : ∀ x ∈ L, x < 256) (s : S) (h : (intS L s).2.e = 0) : plain (intS L s).1 = true ∧ Can L s.at_ (encI (intS L s).1) (intS L s).2 := int_can hL h
theorem capS_can (hL : ∀ x ∈ L, x < 256) (s : S) (h : (capS L s).2.e = 0) : capOk (capS L s).1 = true ∧ Can L s.at_ (encCap (capS L s).1) (capS L s).2 := by
  have h1 := num_e h
  obtain ⟨a1, a2⟩ := int_can hL h1
  obtain ⟨b1, b2⟩ := int_can hL (s := (num L s).2) h
  exact ⟨by simp only [capOk, capS, a1, b1, Bool.and_self], a2.trans b2⟩
theorem insS_can (hL : ∀ x ∈ L, x < 256) (s : S) (h : (insS L s).2.e = 0) : inOk (insS L s).1 = true ∧ Can L s.at_ (encIn (insS L s).1) (insS L s).2 := by
  have h2 := sgn_e (s := (sgn L (num L s).2).2) h
  have h1 := sgn_e (s := (num L s).2) h2
  obtain ⟨a1, a2⟩ := int_can hL h1
  obtain ⟨b1, b2⟩ := sgn_can hL h2
  obtain ⟨c1, c2⟩ := sgn_can hL (s := (sgn L (num L s).2).2) h
  exact ⟨by simp only [inOk, insS, a1, b1, c1, Bool.and_self], a2.trans (b2.trans c2)⟩
theorem tryS_can (hL : ∀ x ∈ L, x < 256) (s : S) (h : (tryS L s).2.e = 0) : tryOk (tryS L s).1 = true ∧ Can L s.at_ (encTry (tryS L s).1) (tryS L s).2 := by
  have h3 := num_e (s := (num L (num L (num L s).2).2).2) h
  have h2 := num_e (s := (num L (num L s).2).2) h3
  have h1 := num_e (s := (num L s).2) h2
  obtain ⟨a1, a2⟩ := int_can hL h1
  obtain ⟨b1, b2⟩ := int_can hL h2
  obtain ⟨c1, c2⟩ := int_can hL h3
  obtain ⟨d1, d2⟩ := int_can hL (s := (num L (num L (num L s).2).2).2) h
  exact ⟨by simp only [tryOk, tryS, a1, b1, c1, d1, Bool.and_self], a2.trans (b2.trans (c2.trans d2))⟩
theorem keysS_can (hL : ∀ x ∈ L, x < 256) (s : S) (h : (keysS L s).2.e = 0) : (keysS L s).1.all plain = true ∧ Can L s.at_ (encL encI (keysS L s).1) (keysS L s).2 := allS_can hL intS_e (intS_can hL) h
theorem fnS_can (hL : ∀ x ∈ L, x < 256) (s : S) (h : (fnS L s).2.e = 0) : fnOk (fnS L s).1 = true ∧ Can L s.at_ (encFn (fnS L s).1) (fnS L s).2 := by
  simp only [fnS] at h ⊢
  have h5 := allS_e tryS_e h
  have h4 := allS_e insS_e h5
  have h3 := allS_e capS_e h4
  have h2 := allS_e intS_e h3
  have h1 := num_e h2
  obtain ⟨a1, a2⟩ := int_can hL h1
  obtain ⟨b1, b2⟩ := int_can hL h2
  obtain ⟨c1, c2⟩ := allS_can hL intS_e (intS_can hL) h3
  obtain ⟨d1, d2⟩ := allS_can hL capS_e (capS_can hL) h4
  obtain ⟨e1, e2⟩ := allS_can hL insS_e (insS_can hL) h5
  obtain ⟨f1, f2⟩ := allS_can hL tryS_e (tryS_can hL) h
  exact ⟨by simp only [fnOk, a1, b1, c1, d1, e1, f1, Bool.and_self], a2.trans (b2.trans (c2.trans (d2.trans (e2.trans f2))))⟩
theorem strB_strL {l : List Nat} (h : ∀ x ∈ l, x < 256) : strB (strL l) = l := by
  unfold strB strL
  simp only [List.map_map]
  rw [show l.map ((fun (x : UInt8) => x.toNat) ∘ UInt8.ofNat) = l.map id from List.map_congr_left fun a ha => by
    have := h a ha
    simp [UInt8.toNat_ofNat, Nat.mod_eq_of_lt this]]
  simp
theorem strL_size (l : List Nat) : (strL l).size = l.length := by
  show (l.map UInt8.ofNat).toArray.size = _
  simp
theorem textS_can (hL : ∀ x ∈ L, x < 256) (s : S) (h : (textS L s).2.e = 0) : True ∧ Can L s.at_ (encS (textS L s).1) (textS L s).2 := by
  refine ⟨trivial, ?_⟩
  have h0 : (count L s).2.e = 0 := by
    unfold textS at h
    simp only at h
    cases he : (count L s).2.e with
    | zero => rfl
    | succ e => rw [he] at h; simp only at h; rw [he] at h; cases h
  have hc := count_can hL h0
  obtain ⟨h1, h2, h3⟩ := count_e h0
  rw [← h2] at h3
  unfold textS
  simp only [h0]
  have hlen : ((L.drop (count L s).2.at_).take (count L s).1).length = (count L s).1 := by rw [List.length_take, List.length_drop]; omega
  have hsub : ∀ x ∈ (L.drop (count L s).2.at_).take (count L s).1, x < 256 := fun x hx => hL x (List.mem_of_mem_drop (List.mem_of_mem_take hx))
  unfold encS
  rw [strL_size, hlen, strB_strL hsub]
  refine hc.trans ?_
  show L.drop _ = _ ++ L.drop ((count L s).2.at_ + (count L s).1)
  rw [← List.drop_drop, List.take_append_drop]
theorem magG_can : ∀ (ms xs : List Nat) (p : Nat), (magG ms xs p).e = 0 → ∃ ys, xs = ms ++ ys ∧ magG ms xs p = ⟨p + ms.length, 0⟩
  | [], xs, p, _ => ⟨xs, rfl, rfl⟩
  | m :: ms, [], p, h => by cases h
  | m :: ms, x :: xs, p, h => by
    unfold magG at h ⊢
    by_cases hx : x = m
    · rw [if_pos hx] at h ⊢
      obtain ⟨ys, h1, h2⟩ := magG_can ms xs (p + 1) h
      refine ⟨ys, by rw [hx, h1]; rfl, ?_⟩
      rw [h2, List.length_cons]; congr 1; omega
    · rw [if_neg hx] at h; cases h
theorem imgS_e {s : S} (h : (imgS L s).2.e = 0) : s.e = 0 := allS_e textS_e (allS_e keysS_e (num_e (allS_e fnS_e h)))
theorem imgS_can (hL : ∀ x ∈ L, x < 256) (h : (imgS L (magG magicB L 0)).2.e = 0) : imOk (imgS L (magG magicB L 0)).1 = true ∧ Can L 0 (encIm (imgS L (magG magicB L 0)).1) (imgS L (magG magicB L 0)).2 := by
  obtain ⟨ys, hL2, hm⟩ := magG_can magicB L 0 (imgS_e h)
  rw [hm] at h ⊢
  simp only [imgS] at h ⊢
  have h3 := allS_e fnS_e h
  have h2 := num_e h3
  have h1 := allS_e keysS_e h2
  obtain ⟨_, a2⟩ := allS_can hL (ok := fun _ => true) textS_e (fun s hs => ⟨rfl, (textS_can hL s hs).2⟩) h1
  obtain ⟨b1, b2⟩ := allS_can hL (ok := fun k => k.all plain) (enc := encL encI) keysS_e (keysS_can hL) h2
  obtain ⟨c1, c2⟩ := int_can hL h3
  obtain ⟨d1, d2⟩ := allS_can hL fnS_e (fnS_can hL) h
  have h0 : Can L 0 magicB ⟨0 + magicB.length, 0⟩ := by
    show L.drop 0 = magicB ++ L.drop (0 + magicB.length)
    rw [hL2, Nat.zero_add, List.drop_left]; rfl
  exact ⟨by simp only [imOk, b1, c1, d1, Bool.and_self], h0.trans (a2.trans (b2.trans (c2.trans d2)))⟩
/-- What is read is told by the same bytes -/
theorem decS_can (hL : ∀ x ∈ L, x < 256) (h : (decS L).2.e = 0) : imOk (decS L).1 = true ∧ encIm (decS L).1 = L ∧ (decS L).2 = ⟨L.length, 0⟩ := by
  unfold decS at h ⊢
  simp only at h ⊢
  have ho := imgS_ok (L := L) _ (mag_ok L)
  have he : (imgS L (magG magicB L 0)).2.e = 0 ∧ (imgS L (magG magicB L 0)).2.at_ = L.length := by
    have ho' : (imgS L (magG magicB L 0)).2.at_ ≤ L.length := ho
    unfold endS at h
    cases hz : (imgS L (magG magicB L 0)).2.e with
    | zero =>
      rw [hz] at h
      simp only at h
      by_cases hlt : (imgS L (magG magicB L 0)).2.at_ < L.length
      · rw [if_pos hlt] at h; cases h
      · exact ⟨rfl, by omega⟩
    | succ e => rw [hz] at h; simp only at h; rw [hz] at h; cases h
  obtain ⟨h1, h2⟩ := imgS_can hL he.1
  refine ⟨h1, ?_, ?_⟩
  · unfold Can at h2
    rw [he.2, List.drop_length, List.append_nil] at h2
    exact h2.symm
  · unfold endS
    rw [he.1]
    simp only [he.2, Nat.lt_irrefl, if_false]
    generalize (imgS L (magG magicB L 0)).2 = s at *
    obtain ⟨p, e⟩ := s
    obtain ⟨rfl, rfl⟩ := he
    rfl
end
end Go.Proofs.YtgjobbmbbedecaaDoor
