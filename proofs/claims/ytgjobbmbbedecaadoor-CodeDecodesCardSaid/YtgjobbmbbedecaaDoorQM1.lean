/- A part of the proofs over this seat. -/
import Derived.Test.YtgjobbmbbedecaaDoorQK1
import Derived.Test.YtgjobbmbbedecaaDoorQAbsTv
import Derived.Test.YtgjobbmbbedecaaDoorQAbsSl
/- The writer's numbers, and what fails. -/
namespace Go.Proofs.YtgjobbmbbedecaaDoor
open Go Go.Abs Go.Proofs
set_option maxRecDepth 100000
set_option maxHeartbeats 2000000
set_option linter.unusedVariables false
set_option linter.unusedSimpArgs false
noncomputable abbrev EW := evW Tryd.prog notes
theorem num_eq (n : Int) (H : Hp) : EW 15 [.int .i64 n] H = some (.ret (.int .i64 n) false, H) := by
  refine eqOf (runsP f15 b15 r15 n15 _ rfl _ ?_)
  simp only [bodyOf, Tryd.f15, Option.getD_some]
  repeat' (first | simp only [WW, partV, eqCells, eqLf, minV, maxV, ifcV, zaa, zab, zac, zad, zae, zaf, zag, zah, zai, ofConst, ofConst1, List.replicate, zaj, zak, loadOp, Go.Abs.loadCells, binV, zal, pickV, zam, zan, zao, zap, zaq, zar, zas, zat, zau, outR, resAll, resOne, zav, zaw, zax, zay, zaz, zba, zbb, zbc, zbd, zbe, zbf, zbg, zbh, zbi, zbj, zbk, storeOp, storeCell, overlay, zbl, zbm, zbn, lookupOp, keyT, okRes, mapUpdateOp, zbo, zbp, zbq, zbr, zbs, zbt, zbu, Nat.reduceSub, Nat.reduceAdd, Int.reduceLT, Int.reduceLE, Int.reduceAdd, Int.reduceSub, Int.reduceToNat, Int.reduceBEq, Int.reduceBNe, Int.reduceMul, Nat.reduceBEq, Nat.reduceBNe, Nat.reduceLT, Nat.reduceLeDiff, Nat.reduceMul, Nat.reduceEqDiff, WD, effB, effH, isPriv, isHeap, isImm, zbx, zby, zbz, chkO, setD, dslot, zca, zcb, zcc, zcd, ptrCells_some, convertOp] | refine wC_dr [] (by kernel_rfl) ?_ | refine cSplit (fun hb => ?_) (fun hb => ?_) | refine gSplit (fun hb => ?_) (fun hb => ?_))
  all_goals rfl
/-- A number as bytes -/
def encN (n : Nat) : List Nat := if n < 128 then [n] else (128 + n % 128) :: encN (n / 128)
termination_by n
decreasing_by omega
theorem encN_small {n : Nat} (h : n < 128) : encN n = [n] := by rw [encN, if_pos h]
theorem encN_big {n : Nat} (h : ¬ n < 128) : encN n = (128 + n % 128) :: encN (n / 128) := by rw [encN, if_neg h]
def bs (l : List Nat) : List V := l.map fun (n : Nat) => V.int .u8 n
theorem bs_app (a b : List Nat) : bs (a ++ b) = bs a ++ bs b := by simp [bs]
theorem bs_len (a : List Nat) : (bs a).length = a.length := by simp [bs]
theorem elemOk5 {n : Nat} (hn : n ≤ 70368744177664) : elemOk Tryd.prog 5 n = true := by
  have h1 : Tryd.prog.cellsOf 5 = 1 := by kernel_rfl
  have h2 : zeroT Tryd.prog 5 = .int .u8 0 := by kernel_rfl
  have h3 : sizeT Tryd.prog 5 = 1 := by kernel_rfl
  have h4 : Tryd.prog.bytesOf 5 = 1 := by kernel_rfl
  unfold elemOk
  rw [h1, h2, h3, h4]
  have a : decide (n * 1 ≤ 70368744177664) = true := decide_eq_true (by omega)
  have b : decide (n ≤ 4611686018427387904) = true := decide_eq_true (by omega)
  rw [a, b]
  rfl

theorem app_heap {H : Hp} {N : Nat → Prop} {x : V} {l : List V} {d : Option Nat} (vs : List V) (hx : SlW 1 H N x l) (hN : ∀ i, N i → i < H.length) (hv : wideAll vs 1 = true) (hne : vs ≠ []) (hlen : l.length + vs.length ≤ 70368744177664) :
    ∃ x' H', (∀ st, appendOp Tryd.prog .heap st H d 5 x vs = some (putS st d (.v x'), H')) ∧ SlW 1 H' N x' (l ++ vs) ∧ (∀ i, N i → H'[i]? = H[i]?) ∧ H.length ≤ H'.length :=
  app_sl vs size5 hx hN hv hne (elemOk5 hlen)
theorem or128 (n : Nat) : IntKind.u8.wrap ((BitVec.ofInt 8 (IntKind.u8.wrap n) ||| BitVec.ofInt 8 128).toNat : Nat) = ((128 + n % 128 : Nat) : Int) := by
  have key : ∀ k : Fin 256, IntKind.u8.wrap ((BitVec.ofInt 8 ((k.val : Nat) : Int) ||| BitVec.ofInt 8 128).toNat : Nat) = ((128 + k.val % 128 : Nat) : Int) := by decide +kernel
  have hw : IntKind.u8.wrap n = ((n % 256 : Nat) : Int) := by simp [IntKind.wrap, IntKind.bits, IntKind.signed]
  rw [hw]
  have := key ⟨n % 256, Nat.mod_lt _ (by decide)⟩
  simp only at this
  rw [this]
  omega
theorem shr7 (n : Nat) : (n : Int).fdiv (2 ^ 7) = ((n / 128 : Nat) : Int) := by
  rw [Int.fdiv_eq_ediv_of_nonneg _ (by decide)]; norm_cast
theorem u8_small {n : Nat} (h : n < 128) : IntKind.u8.wrap n = (n : Int) := by
  simp [IntKind.wrap, IntKind.bits, IntKind.signed]; omega
theorem or128' (n : Nat) : IntKind.u8.wrap ((BitVec.ofInt IntKind.u8.bits (IntKind.u8.wrap n) ||| BitVec.ofInt IntKind.u8.bits 128).toNat : Nat) = ((128 + n % 128 : Nat) : Int) := or128 n
theorem encN_len : ∀ (k n : Nat), n < 128 ^ (k + 1) → (encN n).length ≤ k + 1
  | 0, n, h => by rw [encN_small (by simpa using h)]; simp
  | k + 1, n, h => by
    by_cases hs : n < 128
    · rw [encN_small hs]; simp
    · rw [encN_big hs]
      have := encN_len k (n / 128) (by rw [Nat.div_lt_iff_lt_mul (by decide)]; rw [Nat.pow_succ] at h; exact h)
      simp only [List.length_cons]; omega
theorem encN_len9 {n : Nat} (h : n ≤ 4611686018427387903) : (encN n).length ≤ 9 := encN_len 8 n (by omega)
/-- What a writer holds: the bytes l, no error -/
def Wr (H : Hp) (N : Nat → Prop) (w : Nat) (l : List V) : Prop := ∃ x, SlW 1 H N x l ∧ H[w]? = some (.cells [.agg [x, .int .i64 0]])
def Fr0 (N : Nat → Prop) (w : Nat) (H H' : Hp) : Prop := H.length ≤ H'.length ∧ ∀ i, N i → i ≠ w → H'[i]? = H[i]?
theorem Fr0.trans {N : Nat → Prop} {w : Nat} {H H1 H2 : Hp} (a : Fr0 N w H H1) (b : Fr0 N w H1 H2) : Fr0 N w H H2 := ⟨Nat.le_trans a.1 b.1, fun i h1 h2 => (b.2 i h1 h2).trans (a.2 i h1 h2)⟩
theorem number_spec {H : Hp} {N : Nat → Prop} {l : List V} {w : Nat} (hN : ∀ i, N i → i < H.length) (hw : N w) (hW : Wr H N w l) (n : Nat) (hn : n ≤ 4611686018427387903) (hl : l.length ≤ 5000000) :
    wpCall EW 28 [.ptr w 0 0, .int .i64 n] H (fun out H' => out = .ret (.tup []) false ∧ Fr0 N w H H' ∧ Wr H' N w (l ++ bs (encN n))) := by
  obtain ⟨x, hx, hb⟩ := hW
  refine runs f28 b28 r28 n28 _ _ ?_
  simp only [bodyOf, Tryd.f28, Option.getD_some]
  have h1 : decide ((n : Int) < 0) = false := decide_eq_false (by omega)
  have h2 : decide ((4611686018427387903 : Int) < (n : Int)) = false := decide_eq_false (by omega)
  have h3 : ((0 : Int) != 0) = false := rfl
  simp only [WW, partV, eqCells, eqLf, minV, maxV, ifcV, zaa, zab, zac, zad, zae, zaf, zag, zah, zai, ofConst, ofConst1, List.replicate, zaj, zak, loadOp, Go.Abs.loadCells, binV, zal, pickV, zam, zan, zao, zap, zaq, zar, zas, zat, zau, outR, resAll, resOne, zav, zaw, zax, zay, zaz, zba, zbb, zbc, zbd, zbe, zbf, zbg, zbh, zbi, zbj, zbk, storeOp, storeCell, overlay, zbl, zbm, zbn, lookupOp, keyT, okRes, mapUpdateOp, zbo, zbp, zbq, zbr, zbs, zbt, zbu, Nat.reduceSub, Nat.reduceAdd, Int.reduceLT, Int.reduceLE, Int.reduceAdd, Int.reduceSub, Int.reduceToNat, Int.reduceBEq, Int.reduceBNe, Int.reduceMul, Nat.reduceBEq, Nat.reduceBNe, Nat.reduceLT, Nat.reduceLeDiff, Nat.reduceMul, Nat.reduceEqDiff, WD, effB, effH, isPriv, isHeap, isImm, zbx, zby, zbz, chkO, setD, dslot, zca, zcb, zcc, zcd, ptrCells_some, F28, h1, h2, hb, hx.shut, h3, bne_self_eq_false]
  refine wC_loop _ (fun k st' H' => ∃ m : Nat, ∃ x' lc, st' = ⟨L28_3 (.v (.ptr w 0 0)) (.v (.int .i64 m)), [], []⟩ ∧ k = m ∧ SlW 1 H' N x' lc ∧ H'[w]? = some (.cells [.agg [x', .int .i64 0]]) ∧ lc ++ bs (encN m) = l ++ bs (encN n) ∧ Fr0 N w H H' ∧ m ≤ n) n ⟨n, x, l, ?_, rfl, hx, hb, rfl, ⟨Nat.le_refl _, fun _ _ _ => rfl⟩, Nat.le_refl _⟩ ?_
  · simp only [WN, firstReg, growAll, zbv, zbw, norm, killS, zag, zah, zaa, zab, zbl, zat, zad, growOne, zae, zaf, zac, zas, zak, Nat.reduceLT, Nat.reduceAdd, zbj, zav, F28, L28_3]
  · rintro m st' H' ⟨_, x', lc, rfl, rfl, hx', hb', he, hf, hmn⟩
    simp only [L28_3]
    simp only [WW, partV, eqCells, eqLf, minV, maxV, ifcV, zaa, zab, zac, zad, zae, zaf, zag, zah, zai, ofConst, ofConst1, List.replicate, zaj, zak, loadOp, Go.Abs.loadCells, binV, zal, pickV, zam, zan, zao, zap, zaq, zar, zas, zat, zau, outR, resAll, resOne, zav, zaw, zax, zay, zaz, zba, zbb, zbc, zbd, zbe, zbf, zbg, zbh, zbi, zbj, zbk, storeOp, storeCell, overlay, zbl, zbm, zbn, lookupOp, keyT, okRes, mapUpdateOp, zbo, zbp, zbq, zbr, zbs, zbt, zbu, Nat.reduceSub, Nat.reduceAdd, Int.reduceLT, Int.reduceLE, Int.reduceAdd, Int.reduceSub, Int.reduceToNat, Int.reduceBEq, Int.reduceBNe, Int.reduceMul, Nat.reduceBEq, Nat.reduceBNe, Nat.reduceLT, Nat.reduceLeDiff, Nat.reduceMul, Nat.reduceEqDiff, WD, effB, effH, isPriv, isHeap, isImm, zbx, zby, zbz, chkO, setD, dslot, zca, zcb, zcc, zcd, ptrCells_some, F28]
    have hN' : ∀ i, N i → i < H'.length := fun i hi => Nat.lt_of_lt_of_le (hN i hi) hf.1
    have hlc : lc.length ≤ l.length + 9 := by
      have := congrArg List.length he
      simp only [List.length_append, bs_len] at this
      have := encN_len9 hn
      omega
    refine cSplit (fun hge => ?_) (fun hlt => ?_)
    · have hm : ¬ m < 128 := by have := of_decide_eq_true hge; omega
      simp only [hge]
      obtain ⟨x2, H2, ha, hx2, hf2, hl2⟩ := app_heap (d := some 30) [.int .u8 ((128 + m % 128 : Nat) : Int)] hx' hN' rfl (by simp) (by simp; omega)
      have hb2 : H2[w]? = some (.cells [.agg [x', .int .i64 0]]) := (hf2 w hw).trans hb'
      simp only [WW, partV, eqCells, eqLf, minV, maxV, ifcV, zaa, zab, zac, zad, zae, zaf, zag, zah, zai, ofConst, ofConst1, List.replicate, zaj, zak, loadOp, Go.Abs.loadCells, binV, zal, pickV, zam, zan, zao, zap, zaq, zar, zas, zat, zau, outR, resAll, resOne, zav, zaw, zax, zay, zaz, zba, zbb, zbc, zbd, zbe, zbf, zbg, zbh, zbi, zbj, zbk, storeOp, storeCell, overlay, zbl, zbm, zbn, lookupOp, keyT, okRes, mapUpdateOp, zbo, zbp, zbq, zbr, zbs, zbt, zbu, Nat.reduceSub, Nat.reduceAdd, Int.reduceLT, Int.reduceLE, Int.reduceAdd, Int.reduceSub, Int.reduceToNat, Int.reduceBEq, Int.reduceBNe, Int.reduceMul, Nat.reduceBEq, Nat.reduceBNe, Nat.reduceLT, Nat.reduceLeDiff, Nat.reduceMul, Nat.reduceEqDiff, WD, effB, effH, isPriv, isHeap, isImm, zbx, zby, zbz, chkO, setD, dslot, zca, zcb, zcc, zcd, ptrCells_some, F28, hb', hx'.shut, hx'.cells1, convertOp, or128', buildSliceV, lits, srcV, frow, rowV, zbv, zbw, List.all_nil, List.all_cons, ne_eq, Nat.one_ne_zero, not_false_eq_true, ha]
      have hb3 : (H2.set w (.cells [.agg [x2, .int .i64 0]]))[w]? = some (.cells [.agg [x2, .int .i64 0]]) := List.getElem?_set_self (Nat.lt_of_lt_of_le (hN' w hw) hl2)
      simp only [WW, partV, eqCells, eqLf, minV, maxV, ifcV, zaa, zab, zac, zad, zae, zaf, zag, zah, zai, ofConst, ofConst1, List.replicate, zaj, zak, loadOp, Go.Abs.loadCells, binV, zal, pickV, zam, zan, zao, zap, zaq, zar, zas, zat, zau, outR, resAll, resOne, zav, zaw, zax, zay, zaz, zba, zbb, zbc, zbd, zbe, zbf, zbg, zbh, zbi, zbj, zbk, storeOp, storeCell, overlay, zbl, zbm, zbn, lookupOp, keyT, okRes, mapUpdateOp, zbo, zbp, zbq, zbr, zbs, zbt, zbu, Nat.reduceSub, Nat.reduceAdd, Int.reduceLT, Int.reduceLE, Int.reduceAdd, Int.reduceSub, Int.reduceToNat, Int.reduceBEq, Int.reduceBNe, Int.reduceMul, Nat.reduceBEq, Nat.reduceBNe, Nat.reduceLT, Nat.reduceLeDiff, Nat.reduceMul, Nat.reduceEqDiff, WD, effB, effH, isPriv, isHeap, isImm, zbx, zby, zbz, chkO, setD, dslot, zca, zcb, zcc, zcd, ptrCells_some, F28, storeHeap, hx2.prom, heapSet, elemSet, hb2, hx2.shut, hx2.cells1, hx2.ok, hx2.width1]
      refine ⟨m / 128, by omega, m / 128, x2, lc ++ [.int .u8 ((128 + m % 128 : Nat) : Int)], ?_, rfl, hx2.set hw _, hb3, ?_, ⟨?_, fun i h4 h5 => ?_⟩, by omega⟩
      · simp only [WN, firstReg, growAll, zbv, zbw, norm, killS, zag, zah, zaa, zab, zbl, zat, zad, growOne, zae, zaf, zac, zas, zak, Nat.reduceLT, Nat.reduceAdd, zbj, zav, F28]
        rw [show min 7 IntKind.i64.bits = 7 from rfl, shr7]
      · rw [encN_big hm] at he
        rw [← he]
        simp [bs]
      · rw [List.length_set]; exact Nat.le_trans hf.1 hl2
      · rw [List.getElem?_set, if_neg (fun h => h5 h.symm), hf2 i h4]; exact hf.2 i h4 h5
    · have hm : m < 128 := by have := of_decide_eq_false hlt; omega
      simp only [hlt]
      obtain ⟨x2, H2, ha, hx2, hf2, hl2⟩ := app_heap (d := some 41) [.int .u8 (m : Int)] hx' hN' rfl (by simp) (by simp; omega)
      have hb2 : H2[w]? = some (.cells [.agg [x', .int .i64 0]]) := (hf2 w hw).trans hb'
      have hb3 : (H2.set w (.cells [.agg [x2, .int .i64 0]]))[w]? = some (.cells [.agg [x2, .int .i64 0]]) := List.getElem?_set_self (Nat.lt_of_lt_of_le (hN' w hw) hl2)
      simp only [WW, partV, eqCells, eqLf, minV, maxV, ifcV, zaa, zab, zac, zad, zae, zaf, zag, zah, zai, ofConst, ofConst1, List.replicate, zaj, zak, loadOp, Go.Abs.loadCells, binV, zal, pickV, zam, zan, zao, zap, zaq, zar, zas, zat, zau, outR, resAll, resOne, zav, zaw, zax, zay, zaz, zba, zbb, zbc, zbd, zbe, zbf, zbg, zbh, zbi, zbj, zbk, storeOp, storeCell, overlay, zbl, zbm, zbn, lookupOp, keyT, okRes, mapUpdateOp, zbo, zbp, zbq, zbr, zbs, zbt, zbu, Nat.reduceSub, Nat.reduceAdd, Int.reduceLT, Int.reduceLE, Int.reduceAdd, Int.reduceSub, Int.reduceToNat, Int.reduceBEq, Int.reduceBNe, Int.reduceMul, Nat.reduceBEq, Nat.reduceBNe, Nat.reduceLT, Nat.reduceLeDiff, Nat.reduceMul, Nat.reduceEqDiff, WD, effB, effH, isPriv, isHeap, isImm, zbx, zby, zbz, chkO, setD, dslot, zca, zcb, zcc, zcd, ptrCells_some, F28, hb', hx'.shut, hx'.cells1, convertOp, u8_small hm, buildSliceV, lits, srcV, frow, rowV, zbv, zbw, List.all_nil, List.all_cons, ne_eq, Nat.one_ne_zero, not_false_eq_true, ha]
      simp only [WW, partV, eqCells, eqLf, minV, maxV, ifcV, zaa, zab, zac, zad, zae, zaf, zag, zah, zai, ofConst, ofConst1, List.replicate, zaj, zak, loadOp, Go.Abs.loadCells, binV, zal, pickV, zam, zan, zao, zap, zaq, zar, zas, zat, zau, outR, resAll, resOne, zav, zaw, zax, zay, zaz, zba, zbb, zbc, zbd, zbe, zbf, zbg, zbh, zbi, zbj, zbk, storeOp, storeCell, overlay, zbl, zbm, zbn, lookupOp, keyT, okRes, mapUpdateOp, zbo, zbp, zbq, zbr, zbs, zbt, zbu, Nat.reduceSub, Nat.reduceAdd, Int.reduceLT, Int.reduceLE, Int.reduceAdd, Int.reduceSub, Int.reduceToNat, Int.reduceBEq, Int.reduceBNe, Int.reduceMul, Nat.reduceBEq, Nat.reduceBNe, Nat.reduceLT, Nat.reduceLeDiff, Nat.reduceMul, Nat.reduceEqDiff, WD, effB, effH, isPriv, isHeap, isImm, zbx, zby, zbz, chkO, setD, dslot, zca, zcb, zcc, zcd, ptrCells_some, F28, storeHeap, hx2.prom, heapSet, elemSet, hb2, hx2.shut, hx2.cells1, hx2.ok, hx2.width1]
      refine ⟨⟨?_, fun i h4 h5 => ?_⟩, x2, ?_, hb3⟩
      · rw [List.length_set]; exact Nat.le_trans hf.1 hl2
      · rw [List.getElem?_set, if_neg (fun h => h5 h.symm), hf2 i h4]; exact hf.2 i h4 h5
      · rw [← he, encN_small hm]
        have := hx2.set hw (.cells [.agg [x2, .int .i64 0]])
        simpa [bs] using this
theorem fail_spec {H : Hp} {w : Nat} {x : V} (hx : ∀ st, sealV st x = x) (hb : H[w]? = some (.cells [.agg [x, .int .i64 0]])) (e : Int) :
    EW 29 [.ptr w 0 0, .int .i64 e] H = some (.ret (.tup []) false, H.set w (.cells [.agg [x, .int .i64 e]])) := by
  have key : wpCall EW 29 [.ptr w 0 0, .int .i64 e] H (fun out H' => out = .ret (.tup []) false ∧ H' = H.set w (.cells [.agg [x, .int .i64 e]])) := by
    refine runs f29 b29 r29 n29 _ _ ?_
    simp only [bodyOf, Tryd.f29, Option.getD_some]
    have h3 : ((0 : Int) == 0) = true := rfl
    simp only [WW, partV, eqCells, eqLf, minV, maxV, ifcV, zaa, zab, zac, zad, zae, zaf, zag, zah, zai, ofConst, ofConst1, List.replicate, zaj, zak, loadOp, Go.Abs.loadCells, binV, zal, pickV, zam, zan, zao, zap, zaq, zar, zas, zat, zau, outR, resAll, resOne, zav, zaw, zax, zay, zaz, zba, zbb, zbc, zbd, zbe, zbf, zbg, zbh, zbi, zbj, zbk, storeOp, storeCell, overlay, zbl, zbm, zbn, lookupOp, keyT, okRes, mapUpdateOp, zbo, zbp, zbq, zbr, zbs, zbt, zbu, Nat.reduceSub, Nat.reduceAdd, Int.reduceLT, Int.reduceLE, Int.reduceAdd, Int.reduceSub, Int.reduceToNat, Int.reduceBEq, Int.reduceBNe, Int.reduceMul, Nat.reduceBEq, Nat.reduceBNe, Nat.reduceLT, Nat.reduceLeDiff, Nat.reduceMul, Nat.reduceEqDiff, WD, effB, effH, isPriv, isHeap, isImm, zbx, zby, zbz, chkO, setD, dslot, zca, zcb, zcc, zcd, ptrCells_some, F29, hb, h3, storeHeap, promote, heapSet, elemSet]
  unfold wpCall at key
  cases hc : EW 29 [.ptr w 0 0, .int .i64 e] H with
  | none => rw [hc] at key; exact key.elim
  | some x => rw [hc] at key; obtain ⟨o, H'⟩ := x; obtain ⟨h1, h2⟩ := key; simp only at h1 h2; rw [h1, h2]
theorem number_bad {H : Hp} {w : Nat} {x : V} (hx : ∀ st, sealV st x = x) (hb : H[w]? = some (.cells [.agg [x, .int .i64 0]])) (n : Int) (hn : n < 0 ∨ 4611686018427387903 < n) :
    wpCall EW 28 [.ptr w 0 0, .int .i64 n] H (fun out H' => out = .ret (.tup []) false ∧ H' = H.set w (.cells [.agg [x, .int .i64 1]])) := by
  refine runs f28 b28 r28 n28 _ _ ?_
  simp only [bodyOf, Tryd.f28, Option.getD_some]
  simp only [WW, partV, eqCells, eqLf, minV, maxV, ifcV, zaa, zab, zac, zad, zae, zaf, zag, zah, zai, ofConst, ofConst1, List.replicate, zaj, zak, loadOp, Go.Abs.loadCells, binV, zal, pickV, zam, zan, zao, zap, zaq, zar, zas, zat, zau, outR, resAll, resOne, zav, zaw, zax, zay, zaz, zba, zbb, zbc, zbd, zbe, zbf, zbg, zbh, zbi, zbj, zbk, storeOp, storeCell, overlay, zbl, zbm, zbn, lookupOp, keyT, okRes, mapUpdateOp, zbo, zbp, zbq, zbr, zbs, zbt, zbu, Nat.reduceSub, Nat.reduceAdd, Int.reduceLT, Int.reduceLE, Int.reduceAdd, Int.reduceSub, Int.reduceToNat, Int.reduceBEq, Int.reduceBNe, Int.reduceMul, Nat.reduceBEq, Nat.reduceBNe, Nat.reduceLT, Nat.reduceLeDiff, Nat.reduceMul, Nat.reduceEqDiff, WD, effB, effH, isPriv, isHeap, isImm, zbx, zby, zbz, chkO, setD, dslot, zca, zcb, zcc, zcd, ptrCells_some, F28]
  have hwl : w < H.length := (List.getElem?_eq_some_iff.1 hb).1
  have hb2 : (H.set w (.cells [.agg [x, .int .i64 1]]))[w]? = some (.cells [.agg [x, .int .i64 1]]) := List.getElem?_set_self hwl
  have h1 : ((1 : Int) != 0) = true := rfl
  refine gSplit (fun h0 => ?_) (fun h0 => ?_)
  · simp only [h0]
    simp only [WW, partV, eqCells, eqLf, minV, maxV, ifcV, zaa, zab, zac, zad, zae, zaf, zag, zah, zai, ofConst, ofConst1, List.replicate, zaj, zak, loadOp, Go.Abs.loadCells, binV, zal, pickV, zam, zan, zao, zap, zaq, zar, zas, zat, zau, outR, resAll, resOne, zav, zaw, zax, zay, zaz, zba, zbb, zbc, zbd, zbe, zbf, zbg, zbh, zbi, zbj, zbk, storeOp, storeCell, overlay, zbl, zbm, zbn, lookupOp, keyT, okRes, mapUpdateOp, zbo, zbp, zbq, zbr, zbs, zbt, zbu, Nat.reduceSub, Nat.reduceAdd, Int.reduceLT, Int.reduceLE, Int.reduceAdd, Int.reduceSub, Int.reduceToNat, Int.reduceBEq, Int.reduceBNe, Int.reduceMul, Nat.reduceBEq, Nat.reduceBNe, Nat.reduceLT, Nat.reduceLeDiff, Nat.reduceMul, Nat.reduceEqDiff, WD, effB, effH, isPriv, isHeap, isImm, zbx, zby, zbz, chkO, setD, dslot, zca, zcb, zcc, zcd, ptrCells_some, F28]
    rw [wpCall_eq (fail_spec hx hb 1)]
    simp only [WW, partV, eqCells, eqLf, minV, maxV, ifcV, zaa, zab, zac, zad, zae, zaf, zag, zah, zai, ofConst, ofConst1, List.replicate, zaj, zak, loadOp, Go.Abs.loadCells, binV, zal, pickV, zam, zan, zao, zap, zaq, zar, zas, zat, zau, outR, resAll, resOne, zav, zaw, zax, zay, zaz, zba, zbb, zbc, zbd, zbe, zbf, zbg, zbh, zbi, zbj, zbk, storeOp, storeCell, overlay, zbl, zbm, zbn, lookupOp, keyT, okRes, mapUpdateOp, zbo, zbp, zbq, zbr, zbs, zbt, zbu, Nat.reduceSub, Nat.reduceAdd, Int.reduceLT, Int.reduceLE, Int.reduceAdd, Int.reduceSub, Int.reduceToNat, Int.reduceBEq, Int.reduceBNe, Int.reduceMul, Nat.reduceBEq, Nat.reduceBNe, Nat.reduceLT, Nat.reduceLeDiff, Nat.reduceMul, Nat.reduceEqDiff, WD, effB, effH, isPriv, isHeap, isImm, zbx, zby, zbz, chkO, setD, dslot, zca, zcb, zcc, zcd, ptrCells_some, F28, hb2, h1]
  · simp only [h0]
    simp only [WW, partV, eqCells, eqLf, minV, maxV, ifcV, zaa, zab, zac, zad, zae, zaf, zag, zah, zai, ofConst, ofConst1, List.replicate, zaj, zak, loadOp, Go.Abs.loadCells, binV, zal, pickV, zam, zan, zao, zap, zaq, zar, zas, zat, zau, outR, resAll, resOne, zav, zaw, zax, zay, zaz, zba, zbb, zbc, zbd, zbe, zbf, zbg, zbh, zbi, zbj, zbk, storeOp, storeCell, overlay, zbl, zbm, zbn, lookupOp, keyT, okRes, mapUpdateOp, zbo, zbp, zbq, zbr, zbs, zbt, zbu, Nat.reduceSub, Nat.reduceAdd, Int.reduceLT, Int.reduceLE, Int.reduceAdd, Int.reduceSub, Int.reduceToNat, Int.reduceBEq, Int.reduceBNe, Int.reduceMul, Nat.reduceBEq, Nat.reduceBNe, Nat.reduceLT, Nat.reduceLeDiff, Nat.reduceMul, Nat.reduceEqDiff, WD, effB, effH, isPriv, isHeap, isImm, zbx, zby, zbz, chkO, setD, dslot, zca, zcb, zcc, zcd, ptrCells_some, F28]
    have hg : decide (4611686018427387903 < n) = true := decide_eq_true (by have := of_decide_eq_false h0; omega)
    simp only [hg]
    simp only [WW, partV, eqCells, eqLf, minV, maxV, ifcV, zaa, zab, zac, zad, zae, zaf, zag, zah, zai, ofConst, ofConst1, List.replicate, zaj, zak, loadOp, Go.Abs.loadCells, binV, zal, pickV, zam, zan, zao, zap, zaq, zar, zas, zat, zau, outR, resAll, resOne, zav, zaw, zax, zay, zaz, zba, zbb, zbc, zbd, zbe, zbf, zbg, zbh, zbi, zbj, zbk, storeOp, storeCell, overlay, zbl, zbm, zbn, lookupOp, keyT, okRes, mapUpdateOp, zbo, zbp, zbq, zbr, zbs, zbt, zbu, Nat.reduceSub, Nat.reduceAdd, Int.reduceLT, Int.reduceLE, Int.reduceAdd, Int.reduceSub, Int.reduceToNat, Int.reduceBEq, Int.reduceBNe, Int.reduceMul, Nat.reduceBEq, Nat.reduceBNe, Nat.reduceLT, Nat.reduceLeDiff, Nat.reduceMul, Nat.reduceEqDiff, WD, effB, effH, isPriv, isHeap, isImm, zbx, zby, zbz, chkO, setD, dslot, zca, zcb, zcc, zcd, ptrCells_some, F28]
    rw [wpCall_eq (fail_spec hx hb 1)]
    simp only [WW, partV, eqCells, eqLf, minV, maxV, ifcV, zaa, zab, zac, zad, zae, zaf, zag, zah, zai, ofConst, ofConst1, List.replicate, zaj, zak, loadOp, Go.Abs.loadCells, binV, zal, pickV, zam, zan, zao, zap, zaq, zar, zas, zat, zau, outR, resAll, resOne, zav, zaw, zax, zay, zaz, zba, zbb, zbc, zbd, zbe, zbf, zbg, zbh, zbi, zbj, zbk, storeOp, storeCell, overlay, zbl, zbm, zbn, lookupOp, keyT, okRes, mapUpdateOp, zbo, zbp, zbq, zbr, zbs, zbt, zbu, Nat.reduceSub, Nat.reduceAdd, Int.reduceLT, Int.reduceLE, Int.reduceAdd, Int.reduceSub, Int.reduceToNat, Int.reduceBEq, Int.reduceBNe, Int.reduceMul, Nat.reduceBEq, Nat.reduceBNe, Nat.reduceLT, Nat.reduceLeDiff, Nat.reduceMul, Nat.reduceEqDiff, WD, effB, effH, isPriv, isHeap, isImm, zbx, zby, zbz, chkO, setD, dslot, zca, zcb, zcc, zcd, ptrCells_some, F28, hb2, h1]
theorem cut0 {H : Hp} {N : Nat → Prop} {x : V} {l : List V} (h : SlW 1 H N x l) : ∃ x', (∀ st, sliceOp Tryd.prog st H 29 x none (some (.int .i64 0)) none = some x') ∧ SlW 1 H N x' [] := by
  have h29 : ixT Tryd.prog 29 = .sl 5 := by kernel_rfl
  have h3 : sizeT Tryd.prog 5 = 1 := by kernel_rfl
  rcases h with ⟨rfl, rfl⟩ | ⟨s, es, rfl, h1, h2, h3', h4, h5, h6⟩
  · exact ⟨.nils, fun st => by simp [sliceOp, h29, viewV, sealV, boundV], .inl ⟨rfl, rfl⟩⟩
  · refine ⟨.sl s 0 0, fun st => by simp [sliceOp, h29, viewV, sealV, boundV, h2, h3, h6], .inr ⟨s, es, rfl, h1, h2, by simp, by simp, h5, h6⟩⟩
end Go.Proofs.YtgjobbmbbedecaaDoor

/- The model: an image, its bytes, which numbers can be told; how long the bytes are. -/
namespace Go.Proofs.YtgjobbmbbedecaaDoor
open Go Go.Abs Go.Proofs
set_option maxRecDepth 100000
set_option linter.unusedVariables false
set_option linter.unusedSimpArgs false
theorem wide_bs (l : List Nat) : wideAll (bs l) 1 = true := wide_mapN (f := fun (n : Nat) => V.int .u8 n) (fun _ => rfl) l
theorem drop_get {α : Type} {l : List α} {i : Nat} {a : α} (h : l[i]? = some a) : l.drop i = a :: l.drop (i + 1) := by
  obtain ⟨h1, h2⟩ := List.getElem?_eq_some_iff.1 h
  rw [List.drop_eq_getElem_cons h1, h2]
structure FnM where
  params : Int
  slots : Int
  boxes : List Int
  caps : List (Int × Int)
  code : List (Int × Int × Int)
  tries : List (Int × Int × Int × Int)
structure ImM where
  funs : List FnM
  strs : List ByteArray
  keys : List (List Int)
  globals : Int
def encI (n : Int) : List Nat := encN n.toNat
def zz (z : Int) : Int := if z < 0 then -2 * z - 1 else 2 * z
def encZ (z : Int) : List Nat := encI (zz z)
def encL {α : Type} (f : α → List Nat) (l : List α) : List Nat := encN l.length ++ l.flatMap f
def strB (s : ByteArray) : List Nat := s.data.toList.map (·.toNat)
def encS (s : ByteArray) : List Nat := encN s.size ++ strB s
def encCap (x : Int × Int) : List Nat := encI x.1 ++ encI x.2
def encIn (x : Int × Int × Int) : List Nat := encI x.1 ++ (encZ x.2.1 ++ encZ x.2.2)
def encTry (x : Int × Int × Int × Int) : List Nat := encI x.1 ++ (encI x.2.1 ++ (encI x.2.2.1 ++ encI x.2.2.2))
def encFn (c : FnM) : List Nat := encI c.params ++ (encI c.slots ++ (encL encI c.boxes ++ (encL encCap c.caps ++ (encL encIn c.code ++ encL encTry c.tries))))
def magicB : List Nat := [74, 81, 48, 49]
def encIm (im : ImM) : List Nat := magicB ++ (encL encS im.strs ++ (encL (encL encI) im.keys ++ (encI im.globals ++ encL encFn im.funs)))
/-! which numbers can be told -/
def plain (n : Int) : Bool := decide (0 ≤ n) && decide (n ≤ 4611686018427387903)
def signedOk (z : Int) : Bool := decide (-2305843009213693952 ≤ z) && decide (z ≤ 2305843009213693951)
def capOk (x : Int × Int) : Bool := plain x.1 && plain x.2
def inOk (x : Int × Int × Int) : Bool := plain x.1 && (signedOk x.2.1 && signedOk x.2.2)
def tryOk (x : Int × Int × Int × Int) : Bool := plain x.1 && (plain x.2.1 && (plain x.2.2.1 && plain x.2.2.2))
def fnOk (c : FnM) : Bool := plain c.params && (plain c.slots && (c.boxes.all plain && (c.caps.all capOk && (c.code.all inOk && c.tries.all tryOk))))
def imOk (im : ImM) : Bool := im.keys.all (fun k => k.all plain) && (plain im.globals && im.funs.all fnOk)
theorem plain_iff {n : Int} : plain n = true ↔ 0 ≤ n ∧ n ≤ 4611686018427387903 := by simp [plain]
theorem signed_iff {z : Int} : signedOk z = true ↔ -2305843009213693952 ≤ z ∧ z ≤ 2305843009213693951 := by simp [signedOk]
theorem zz_plain {z : Int} (h : signedOk z = true) : plain (zz z) = true := by
  rw [signed_iff] at h; rw [plain_iff]; unfold zz; split <;> omega
/-! how long the bytes are -/
theorem encI_len {n : Int} (h : plain n = true) : (encI n).length ≤ 9 := by
  rw [plain_iff] at h; exact encN_len9 (by omega)
theorem encN_len5 {n : Nat} (h : n ≤ 4000000) : (encN n).length ≤ 5 := encN_len 4 n (by omega)
theorem encZ_len {z : Int} (h : signedOk z = true) : (encZ z).length ≤ 9 := encI_len (zz_plain h)
theorem flat_len {α : Type} (f : α → List Nat) (m : Nat) : ∀ (l : List α), (∀ a ∈ l, (f a).length ≤ m) → (l.flatMap f).length ≤ l.length * m
  | [], _ => by simp
  | a :: l, h => by
    have h1 := h a (List.mem_cons_self ..)
    have h2 := flat_len f m l (fun b hb => h b (List.mem_cons_of_mem _ hb))
    simp only [List.flatMap_cons, List.length_append, List.length_cons, Nat.succ_mul]; omega
theorem encL_len {α : Type} (f : α → List Nat) (m k : Nat) {l : List α} (h : ∀ a ∈ l, (f a).length ≤ m) (hl : l.length ≤ k) (hk : k ≤ 4000000) : (encL f l).length ≤ 5 + k * m := by
  have h1 := flat_len f m l h
  have h2 := encN_len5 (n := l.length) (by omega)
  have h3 : l.length * m ≤ k * m := Nat.mul_le_mul_right _ hl
  simp only [encL, List.length_append]; omega
theorem all_mem {α : Type} {p : α → Bool} {l : List α} (h : l.all p = true) {a : α} (ha : a ∈ l) : p a = true := List.all_eq_true.1 h a ha
theorem encCap_len {x : Int × Int} (h : capOk x = true) : (encCap x).length ≤ 18 := by
  simp only [capOk, Bool.and_eq_true] at h
  have h1 := encI_len h.1
  have h2 := encI_len h.2
  simp only [encCap, List.length_append]; omega
theorem encIn_len {x : Int × Int × Int} (h : inOk x = true) : (encIn x).length ≤ 27 := by
  simp only [inOk, Bool.and_eq_true] at h
  have h1 := encI_len h.1
  have h2 := encZ_len h.2.1
  have h3 := encZ_len h.2.2
  simp only [encIn, List.length_append]; omega
theorem encTry_len {x : Int × Int × Int × Int} (h : tryOk x = true) : (encTry x).length ≤ 36 := by
  simp only [tryOk, Bool.and_eq_true] at h
  have h1 := encI_len h.1
  have h2 := encI_len h.2.1
  have h3 := encI_len h.2.2.1
  have h4 := encI_len h.2.2.2
  simp only [encTry, List.length_append]; omega
/-- A function that is asked -/
def fnSm (c : FnM) : Prop := c.boxes.length ≤ 100 ∧ c.caps.length ≤ 100 ∧ c.code.length ≤ 500 ∧ c.tries.length ≤ 50
def imSm (im : ImM) : Prop := im.funs.length ≤ 30 ∧ im.strs.length ≤ 100 ∧ im.keys.length ≤ 50 ∧ (∀ s ∈ im.strs, s.size ≤ 2000) ∧ (∀ k ∈ im.keys, k.length ≤ 100) ∧ ∀ c ∈ im.funs, fnSm c
/-- Not too great -/
def fnSz (c : FnM) : Prop := c.boxes.length ≤ 10000 ∧ c.caps.length ≤ 10000 ∧ c.code.length ≤ 10000 ∧ c.tries.length ≤ 10000
def imSz (im : ImM) : Prop := im.funs.length ≤ 10000 ∧ im.strs.length ≤ 10000 ∧ im.keys.length ≤ 10000 ∧ (∀ s ∈ im.strs, s.size ≤ 10000) ∧ (∀ k ∈ im.keys, k.length ≤ 10000) ∧ ∀ c ∈ im.funs, fnSz c
theorem fnSm.sz {c : FnM} (h : fnSm c) : fnSz c := by
  obtain ⟨h1, h2, h3, h4⟩ := h
  exact ⟨by omega, by omega, by omega, by omega⟩
theorem imSm.sz {im : ImM} (h : imSm im) : imSz im := by
  obtain ⟨h1, h2, h3, h4, h5, h6⟩ := h
  exact ⟨by omega, by omega, by omega, fun s hs => by have := h4 s hs; omega, fun s hs => by have := h5 s hs; omega, fun s hs => (h6 s hs).sz⟩
theorem encFn_len {c : FnM} (h : fnOk c = true) (hs : fnSm c) : (encFn c).length ≤ 20000 := by
  simp only [fnOk, Bool.and_eq_true] at h
  obtain ⟨h1, h2, h3, h4, h5, h6⟩ := h
  obtain ⟨s1, s2, s3, s4⟩ := hs
  have a1 := encI_len h1
  have a2 := encI_len h2
  have a3 := encL_len encI 9 100 (fun a ha => encI_len (all_mem h3 ha)) s1 (by omega)
  have a4 := encL_len encCap 18 100 (fun a ha => encCap_len (all_mem h4 ha)) s2 (by omega)
  have a5 := encL_len encIn 27 500 (fun a ha => encIn_len (all_mem h5 ha)) s3 (by omega)
  have a6 := encL_len encTry 36 50 (fun a ha => encTry_len (all_mem h6 ha)) s4 (by omega)
  simp only [encFn, List.length_append]; omega
theorem strB_len (s : ByteArray) : (strB s).length = s.size := by
  simp only [strB, List.length_map]; rfl
theorem encIm_len {im : ImM} (h : imOk im = true) (hs : imSm im) : (encIm im).length ≤ 1000000 := by
  simp only [imOk, Bool.and_eq_true] at h
  obtain ⟨h1, h2, h3⟩ := h
  obtain ⟨s1, s2, s3, s4, s5, s6⟩ := hs
  have a1 := encL_len encS 2005 100 (fun a ha => by
    have := s4 a ha
    have := encN_len5 (n := a.size) (by omega)
    simp only [encS, List.length_append, strB_len]; omega) s2 (by omega)
  have a2 := encL_len (encL encI) 905 50 (fun a ha => encL_len encI 9 100 (fun b hb => encI_len (all_mem (all_mem h1 ha) hb)) (s5 a ha) (by omega)) s3 (by omega)
  have a3 := encI_len h2
  have a4 := encL_len encFn 20000 30 (fun a ha => encFn_len (all_mem h3 ha) (s6 a ha)) s1 (by omega)
  simp only [encIm, magicB, List.length_append, List.length_cons, List.length_nil]; omega
/-! how a model lies in the evaluator's values -/
def capV (x : Int × Int) : V := .agg [.int .i64 x.1, .int .i64 x.2]
def inV (x : Int × Int × Int) : V := .agg [.int .i64 x.1, .int .i64 x.2.1, .int .i64 x.2.2]
def tryV (x : Int × Int × Int × Int) : V := .agg [.int .i64 x.1, .int .i64 x.2.1, .int .i64 x.2.2.1, .int .i64 x.2.2.2]
def intV (n : Int) : V := .int .i64 n
/-- A value that reads as a list in any heap: immutable -/
def RdA (x : V) (l : List V) : Prop := ∀ H, Rd H x l
structure FnV (v : V) (c : FnM) where
  k1 : V
  k2 : V
  k3 : V
  k4 : V
  e : v = .agg [.int .i64 c.params, .int .i64 c.slots, k1, k2, k3, k4]
  r1 : RdA k1 (c.boxes.map intV)
  r2 : RdA k2 (c.caps.map capV)
  r3 : RdA k3 (c.code.map inV)
  r4 : RdA k4 (c.tries.map tryV)
/-- values one by one -/
inductive All2 {α : Type} (R : V → α → Prop) : List V → List α → Prop
  | nil : All2 R [] []
  | cons {v : V} {a : α} {vs : List V} {us : List α} : R v a → All2 R vs us → All2 R (v :: vs) (a :: us)
theorem All2.len {α : Type} {R : V → α → Prop} {vs : List V} {us : List α} (h : All2 R vs us) : vs.length = us.length := by
  induction h with
  | nil => rfl
  | cons _ _ ih => simp [ih]
theorem All2.get {α : Type} {R : V → α → Prop} {vs : List V} {us : List α} (h : All2 R vs us) : ∀ {i : Nat} {a : α}, us[i]? = some a → ∃ v, vs[i]? = some v ∧ R v a := by
  induction h with
  | nil => intro i a hi; simp at hi
  | cons h1 _ ih =>
    intro i a hi
    cases i with
    | zero => simp only [List.getElem?_cons_zero, Option.some.injEq] at hi ⊢; subst hi; exact ⟨_, rfl, h1⟩
    | succ i => exact ih hi
theorem All2.map {α : Type} {R : V → α → Prop} (f : α → V) : ∀ (l : List α), (∀ a ∈ l, R (f a) a) → All2 R (l.map f) l
  | [], _ => .nil
  | a :: l, h => .cons (h a (List.mem_cons_self ..)) (All2.map f l fun b hb => h b (List.mem_cons_of_mem _ hb))
/-- An image -/
structure ImV (v : V) (im : ImM) where
  fu : V
  st : V
  ke : V
  fs : List V
  ks : List V
  e : v = .agg [fu, st, ke, .int .i64 im.globals]
  hf : RdA fu fs
  hs : RdA st (im.strs.map .str)
  hk : RdA ke ks
  f2 : All2 (fun v c => Nonempty (FnV v c)) fs im.funs
  k2 : All2 (fun v (l : List Int) => RdA v (l.map intV)) ks im.keys
end Go.Proofs.YtgjobbmbbedecaaDoor

/- The model of reading: bytes, a place and a fault. -/
namespace Go.Proofs.YtgjobbmbbedecaaDoor
open Go Go.Abs Go.Proofs
set_option maxRecDepth 100000
set_option maxHeartbeats 2000000
set_option linter.unusedVariables false
set_option linter.unusedSimpArgs false
/-- A place among the bytes, and the first fault -/
structure S where
  at_ : Nat
  e : Nat
def badN (i x : Nat) : Bool := (decide (0 < i) && decide (x = 0)) || (decide (i = 8) && decide (64 ≤ x))
def numG (L : List Nat) : Nat → Nat → Nat → Nat → Nat × S
  | 0, _, _, p => (0, ⟨p, 6⟩)
  | k + 1, i, v, p => match L[p]? with
    | none => (0, ⟨p, 6⟩)
    | some x => match badN i x with
      | true => (0, ⟨p, 6⟩)
      | false => match decide (x < 128) with
        | true => (v + x % 128 * 2 ^ (7 * i), ⟨p + 1, 0⟩)
        | false => numG L k (i + 1) (v + x % 128 * 2 ^ (7 * i)) (p + 1)
def num (L : List Nat) (s : S) : Nat × S := match s.e with
  | 0 => numG L 9 0 0 s.at_
  | _ + 1 => (0, s)
def unzz (n : Nat) : Int := if n % 2 = 1 then -((n / 2 : Nat) : Int) - 1 else ((n / 2 : Nat) : Int)
def sgn (L : List Nat) (s : S) : Int × S := (unzz (num L s).1, (num L s).2)
def failS (s : S) (e p : Nat) : S := match s.e with
  | 0 => ⟨p, e⟩
  | _ + 1 => s
def countOf (L : List Nat) (p0 : Nat) (r : Nat × S) : Nat × S :=
  match decide (L.length - r.2.at_ < r.1) with
  | true => (0, failS r.2 3 p0)
  | false => match r.2.e with
    | 0 => r
    | _ + 1 => (0, r.2)
def count (L : List Nat) (s : S) : Nat × S := countOf L s.at_ (num L s)
def allG {α : Type} (f : S → α × S) : Nat → S → List α × S
  | 0, s => ([], s)
  | n + 1, s => match s.e with
    | _ + 1 => ([], s)
    | 0 => ((f s).1 :: (allG f n (f s).2).1, (allG f n (f s).2).2)
def allS {α : Type} (L : List Nat) (f : S → α × S) (s : S) : List α × S := allG f (count L s).1 (count L s).2
def natI (r : Nat × S) : Int × S := ((r.1 : Int), r.2)
def capS (L : List Nat) (s : S) : (Int × Int) × S := (((num L s).1, (num L (num L s).2).1), (num L (num L s).2).2)
def insS (L : List Nat) (s : S) : (Int × Int × Int) × S :=
  (((num L s).1, (sgn L (num L s).2).1, (sgn L (sgn L (num L s).2).2).1), (sgn L (sgn L (num L s).2).2).2)
def tryS (L : List Nat) (s : S) : (Int × Int × Int × Int) × S :=
  let a := num L s
  let b := num L a.2
  let c := num L b.2
  let d := num L c.2
  ((a.1, b.1, c.1, d.1), d.2)
def intS (L : List Nat) (s : S) : Int × S := natI (num L s)
def fnS (L : List Nat) (s : S) : FnM × S :=
  let a := num L s
  let b := num L a.2
  let c := allS L (intS L) b.2
  let d := allS L (capS L) c.2
  let e := allS L (insS L) d.2
  let f := allS L (tryS L) e.2
  (⟨a.1, b.1, c.1, d.1, e.1, f.1⟩, f.2)
/-- Bytes as a string -/
def strL (l : List Nat) : ByteArray := ⟨(l.map UInt8.ofNat).toArray⟩
def textS (L : List Nat) (s : S) : ByteArray × S :=
  let a := count L s
  (strL ((L.drop a.2.at_).take a.1), match a.2.e with | 0 => ⟨a.2.at_ + a.1, 0⟩ | _ + 1 => a.2)
def keysS (L : List Nat) (s : S) : List Int × S := allS L (intS L) s
def imgS (L : List Nat) (s : S) : ImM × S :=
  let a := allS L (textS L) s
  let b := allS L (keysS L) a.2
  let c := num L b.2
  let d := allS L (fnS L) c.2
  (⟨d.1, a.1, b.1, c.1⟩, d.2)
/-- How far the magic goes -/
def magG : List Nat → List Nat → Nat → S
  | [], _, p => ⟨p, 0⟩
  | m :: ms, [], p => ⟨p, 6⟩
  | m :: ms, x :: xs, p => if x = m then magG ms xs (p + 1) else ⟨p, 6⟩
def endS (L : List Nat) (s : S) : S := match s.e with
  | 0 => if s.at_ < L.length then ⟨s.at_, 6⟩ else s
  | _ + 1 => s
/-- The whole: an image, a fault, a place -/
def decS (L : List Nat) : ImM × S := ((imgS L (magG magicB L 0)).1, endS L (imgS L (magG magicB L 0)).2)
/-! where it may be -/
def Ok (L : List Nat) (s : S) : Prop := s.at_ ≤ L.length
theorem numG_ok {L : List Nat} : ∀ (k i v p : Nat), p ≤ L.length → Ok L (numG L k i v p).2
  | 0, i, v, p, h => h
  | k + 1, i, v, p, h => by
    unfold numG
    cases hx : L[p]? with
    | none => exact h
    | some x =>
      have hp := (List.getElem?_eq_some_iff.1 hx).1
      simp only
      cases badN i x with
      | true => exact h
      | false =>
        simp only
        cases decide (x < 128) with
        | true => exact hp
        | false => exact numG_ok k (i + 1) _ (p + 1) hp
theorem num_ok {L : List Nat} {s : S} (h : Ok L s) : Ok L (num L s).2 := by
  unfold num
  cases he : s.e with
  | zero => exact numG_ok 9 0 0 s.at_ h
  | succ e => exact h
theorem failS_ok {L : List Nat} {s : S} {e p : Nat} (h : Ok L s) (hp : p ≤ L.length) : Ok L (failS s e p) := by
  unfold failS
  cases s.e with
  | zero => exact hp
  | succ e => exact h
theorem countOf_ok {L : List Nat} {p : Nat} {r : Nat × S} (h : Ok L r.2) (hp : p ≤ L.length) : Ok L (countOf L p r).2 ∧ (countOf L p r).2.at_ + (countOf L p r).1 ≤ L.length := by
  unfold countOf
  cases hd : decide (L.length - r.2.at_ < r.1) with
  | true => exact ⟨failS_ok h hp, failS_ok h hp⟩
  | false =>
    have := of_decide_eq_false hd
    have h' : r.2.at_ ≤ L.length := h
    cases he : r.2.e with
    | zero => exact ⟨h, by simp only; omega⟩
    | succ e => exact ⟨h, h⟩
theorem count_ok {L : List Nat} {s : S} (h : Ok L s) : Ok L (count L s).2 := (countOf_ok (num_ok h) h).1
theorem count_le {L : List Nat} {s : S} (h : Ok L s) : (count L s).2.at_ + (count L s).1 ≤ L.length := (countOf_ok (num_ok h) h).2
theorem allG_ok {α : Type} {L : List Nat} {f : S → α × S} (hf : ∀ s, Ok L s → Ok L (f s).2) : ∀ (n : Nat) (s : S), Ok L s → Ok L (allG f n s).2
  | 0, s, h => h
  | n + 1, s, h => by
    unfold allG
    cases s.e with
    | zero => exact allG_ok hf n _ (hf s h)
    | succ e => exact h
theorem allS_ok {α : Type} {L : List Nat} {f : S → α × S} (hf : ∀ s, Ok L s → Ok L (f s).2) {s : S} (h : Ok L s) : Ok L (allS L f s).2 := allG_ok hf _ _ (count_ok h)
theorem sgn_ok {L : List Nat} {s : S} (h : Ok L s) : Ok L (sgn L s).2 := num_ok h
theorem intS_ok {L : List Nat} (s : S) (h : Ok L s) : Ok L (intS L s).2 := num_ok h
theorem capS_ok {L : List Nat} (s : S) (h : Ok L s) : Ok L (capS L s).2 := num_ok (num_ok h)
theorem insS_ok {L : List Nat} (s : S) (h : Ok L s) : Ok L (insS L s).2 := num_ok (num_ok (num_ok h))
theorem tryS_ok {L : List Nat} (s : S) (h : Ok L s) : Ok L (tryS L s).2 := num_ok (num_ok (num_ok (num_ok h)))
theorem keysS_ok {L : List Nat} (s : S) (h : Ok L s) : Ok L (keysS L s).2 := allS_ok intS_ok h
theorem fnS_ok {L : List Nat} (s : S) (h : Ok L s) : Ok L (fnS L s).2 := allS_ok tryS_ok (allS_ok insS_ok (allS_ok capS_ok (allS_ok intS_ok (num_ok (num_ok h)))))
theorem textS_ok {L : List Nat} (s : S) (h : Ok L s) : Ok L (textS L s).2 := by
  have h1 := count_ok h
  have h2 := count_le h
  unfold textS
  simp only
  cases (count L s).2.e with
  | zero => exact h2
  | succ e => exact h1
theorem magG_ok : ∀ (ms xs : List Nat) (p n : Nat), p + xs.length = n → (magG ms xs p).at_ ≤ n
  | [], _, p, n, h => by show p ≤ n; omega
  | m :: ms, [], p, n, h => by show p ≤ n; simp at h; omega
  | m :: ms, x :: xs, p, n, h => by
    unfold magG
    split
    · exact magG_ok ms xs (p + 1) n (by simp at h; omega)
    · show p ≤ n; simp at h; omega
theorem mag_ok (L : List Nat) : Ok L (magG magicB L 0) := magG_ok magicB L 0 L.length (by omega)
theorem imgS_ok {L : List Nat} (s : S) (h : Ok L s) : Ok L (imgS L s).2 := allS_ok fnS_ok (num_ok (allS_ok keysS_ok (allS_ok textS_ok h)))
theorem endS_ok {L : List Nat} {s : S} (h : Ok L s) : Ok L (endS L s) := by
  unfold endS
  cases s.e with
  | zero => simp only; split <;> exact h
  | succ e => exact h
/-! how great a number may be -/
theorem numG_lt {L : List Nat} (hL : ∀ x ∈ L, x < 256) : ∀ (k i v p : Nat), i + k = 9 → v < 2 ^ (7 * i) → (numG L k i v p).1 ≤ 4611686018427387903
  | 0, i, v, p, _, _ => by simp [numG]
  | k + 1, i, v, p, hk, hv => by
    unfold numG
    cases hx : L[p]? with
    | none => simp
    | some x =>
      have hx256 := hL x (List.mem_of_getElem? hx)
      simp only
      cases hb : badN i x with
      | true => simp
      | false =>
        simp only
        have e7 : 2 ^ (7 * (i + 1)) = 2 ^ (7 * i) * 128 := by rw [Nat.mul_add, Nat.pow_add]
        have hm : x % 128 * 2 ^ (7 * i) ≤ 127 * 2 ^ (7 * i) := Nat.mul_le_mul_right _ (by omega)
        cases hd : decide (x < 128) with
        | false => exact numG_lt hL k (i + 1) _ (p + 1) (by omega) (by omega)
        | true =>
          simp only
          by_cases h8 : i = 8
          · subst h8
            have h64 : x < 64 := by
              simp only [badN, decide_true, Bool.true_and, Bool.or_eq_false_iff, decide_eq_false_iff_not] at hb
              omega
            have e : (2 : Nat) ^ (7 * 8) = 72057594037927936 := by decide
            rw [e] at hv hm ⊢
            have : x % 128 * 72057594037927936 ≤ 63 * 72057594037927936 := Nat.mul_le_mul_right _ (by omega)
            omega
          · have hle : 2 ^ (7 * (i + 1)) ≤ 2 ^ 56 := Nat.pow_le_pow_right (by decide) (by omega)
            have e56 : (2 : Nat) ^ 56 = 72057594037927936 := by decide
            omega
theorem num_lt {L : List Nat} (hL : ∀ x ∈ L, x < 256) (s : S) : (num L s).1 ≤ 4611686018427387903 := by
  unfold num
  cases s.e with
  | zero => exact numG_lt hL 9 0 0 _ rfl (by simp)
  | succ e => simp
end Go.Proofs.YtgjobbmbbedecaaDoor

/- The program's reader: numbers. -/
namespace Go.Proofs.YtgjobbmbbedecaaDoor
open Go Go.Abs Go.Proofs
set_option maxRecDepth 100000
set_option maxHeartbeats 4000000
set_option linter.unusedVariables false
set_option linter.unusedSimpArgs false
theorem and127 (n : Nat) (h : n < 256) : IntKind.u8.wrap ((BitVec.ofInt IntKind.u8.bits (n : Int) &&& BitVec.ofInt IntKind.u8.bits 127).toNat : Nat) = ((n % 128 : Nat) : Int) := by
  have key : ∀ k : Fin 256, IntKind.u8.wrap ((BitVec.ofInt 8 ((k.val : Nat) : Int) &&& BitVec.ofInt 8 127).toNat : Nat) = ((k.val % 128 : Nat) : Int) := by decide +kernel
  exact key ⟨n, h⟩
theorem or_add (v y k : Nat) (hv : v < 2 ^ k) (ht : v + y * 2 ^ k ≤ 9223372036854775807) : IntKind.i64.wrap ((BitVec.ofInt IntKind.i64.bits (v : Int) ||| BitVec.ofInt IntKind.i64.bits ((y * 2 ^ k : Nat) : Int)).toNat : Nat) = ((v + y * 2 ^ k : Nat) : Int) := by
  show IntKind.i64.wrap ((BitVec.ofInt 64 (v : Int) ||| BitVec.ofInt 64 ((y * 2 ^ k : Nat) : Int)).toNat : Nat) = _
  rw [BitVec.toNat_or, BitVec.toNat_ofInt, BitVec.toNat_ofInt]
  have e1 : ((v : Int) % ((2 ^ 64 : Nat) : Int)).toNat = v := by
    rw [Int.emod_eq_of_lt (by omega) (by omega)]; simp
  have e2 : (((y * 2 ^ k : Nat) : Int) % ((2 ^ 64 : Nat) : Int)).toNat = y * 2 ^ k := by
    rw [Int.emod_eq_of_lt (by omega) (by omega)]; exact Int.toNat_natCast _
  rw [e1, e2, Nat.or_comm, Nat.mul_comm y, ← Nat.two_pow_add_eq_or_of_lt hv, Nat.mul_comm, Nat.add_comm]
  exact IntWalk.i64_in _ (by omega)

/-- All but one block, of those that were there, is as it was -/
def Ff (w : Nat) (H H' : Hp) : Prop := H.length ≤ H'.length ∧ ∀ i, i < H.length → i ≠ w → H'[i]? = H[i]?
theorem Ff.refl {w : Nat} {H : Hp} : Ff w H H := ⟨Nat.le_refl _, fun _ _ _ => rfl⟩
theorem Ff.trans {w : Nat} {H H1 H2 : Hp} (a : Ff w H H1) (b : Ff w H1 H2) : Ff w H H2 :=
  ⟨Nat.le_trans a.1 b.1, fun i h1 h2 => (b.2 i (Nat.lt_of_lt_of_le h1 a.1) h2).trans (a.2 i h1 h2)⟩
theorem Ff.set {w : Nat} {H : Hp} (b : Blk) : Ff w H (H.set w b) := ⟨by simp, fun i h1 h2 => by rw [List.getElem?_set, if_neg (fun h => h2 h.symm)]⟩
theorem Ff.app {w : Nat} {H : Hp} (b : Blk) : Ff w H (H ++ [b]) := ⟨by simp, fun i h1 h2 => List.getElem?_append_left h1⟩
def rdr (x : V) (s : S) : Blk := .cells [.agg [x, .int .i64 (s.at_ : Nat), .int .i64 (s.e : Nat)]]
/-- A slice of bytes that can be read and cut -/
def RdB (H : Hp) (x : V) (L : List Nat) : Prop := Rd H x (bs L) ∧ ∀ id lo n es, x = .sl id lo n → H[id]? = some (.cells es) → wideAll es 1 = true
/-- A reader: its bytes, where it is, its fault -/
structure Rr (H : Hp) (w : Nat) (x : V) (L : List Nat) (s : S) : Prop where
  b : H[w]? = some (rdr x s)
  r : ∀ H', Ff w H H' → RdB H' x L
  o : Ok L s
theorem Rr.rd {H : Hp} {w : Nat} {x : V} {L : List Nat} {s : S} (h : Rr H w x L s) : Rd H x (bs L) := (h.r _ Ff.refl).1
theorem Rr.lt {H : Hp} {w : Nat} {x : V} {L : List Nat} {s : S} (h : Rr H w x L s) : w < H.length := (List.getElem?_eq_some_iff.1 h.b).1
theorem Rr.to {H : Hp} {w : Nat} {x : V} {L : List Nat} {s : S} (h : Rr H w x L s) {s' : S} (ho : Ok L s') : Rr (H.set w (rdr x s')) w x L s' :=
  ⟨List.getElem?_set_self h.lt, fun H' hf => h.r H' ((Ff.set _).trans hf), ho⟩
theorem Rr.mov {H H' : Hp} {w : Nat} {x : V} {L : List Nat} {s : S} (h : Rr H w x L s) (hf : Ff w H H') (hb : H'[w]? = H[w]?) : Rr H' w x L s :=
  ⟨hb.trans h.b, fun H2 h2 => h.r H2 (hf.trans h2), h.o⟩
theorem Rr.same {H : Hp} {w : Nat} {x : V} {L : List Nat} {s : S} (h : Rr H w x L s) : H.set w (rdr x s) = H := by
  have h1 := h.lt
  have h2 : H[w] = rdr x s := by have := h.b; rw [List.getElem?_eq_getElem h1] at this; exact Option.some.inj this
  rw [← h2, List.set_getElem_self]
theorem failR {H : Hp} {w : Nat} {x : V} {L : List Nat} {s : S} (h : Rr H w x L s) (e p : Nat) :
    EW 41 [.ptr w 0 0, .int .i64 (e : Nat), .int .i64 (p : Nat)] H = some (.ret (.tup []) false, H.set w (rdr x (failS s e p))) := by
  have hx := h.rd
  have hb := h.b
  have hl := h.lt
  have hsm := h.same
  obtain ⟨q, e0⟩ := s
  refine eqOf2 (runs f41 b41 r41 n41 _ _ ?_)
  simp only [bodyOf, Tryd.f41, Option.getD_some]
  simp only [rdr] at hb
  cases e0 with
  | zero =>
    have h3 : (((0 : Nat) : Int) == 0) = true := rfl
    have hb2 : (H.set w (.cells [.agg [x, .int .i64 (q : Nat), .int .i64 (e : Nat)]]))[w]? = some (.cells [.agg [x, .int .i64 (q : Nat), .int .i64 (e : Nat)]]) := List.getElem?_set_self hl
    simp only [WW, partV, eqCells, eqLf, minV, maxV, ifcV, zaa, zab, zac, zad, zae, zaf, zag, zah, zai, ofConst, ofConst1, List.replicate, zaj, zak, loadOp, Go.Abs.loadCells, binV, zal, pickV, zam, zan, zao, zap, zaq, zar, zas, zat, zau, outR, resAll, resOne, zav, zaw, zax, zay, zaz, zba, zbb, zbc, zbd, zbe, zbf, zbg, zbh, zbi, zbj, zbk, storeOp, storeCell, overlay, zbl, zbm, zbn, lookupOp, keyT, okRes, mapUpdateOp, zbo, zbp, zbq, zbr, zbs, zbt, zbu, Nat.reduceSub, Nat.reduceAdd, Int.reduceLT, Int.reduceLE, Int.reduceAdd, Int.reduceSub, Int.reduceToNat, Int.reduceBEq, Int.reduceBNe, Int.reduceMul, Nat.reduceBEq, Nat.reduceBNe, Nat.reduceLT, Nat.reduceLeDiff, Nat.reduceMul, Nat.reduceEqDiff, WD, effB, effH, isPriv, isHeap, isImm, zbx, zby, zbz, chkO, setD, dslot, zca, zcb, zcc, zcd, ptrCells_some, F41, hb, h3, storeHeap, promote, heapSet, elemSet, hb2, List.set_set]
    simp [failS, rdr]
  | succ e1 =>
    have h3 : (((e1 + 1 : Nat) : Int) == 0) = false := by rw [beq_eq_false_iff_ne]; omega
    simp only [WW, partV, eqCells, eqLf, minV, maxV, ifcV, zaa, zab, zac, zad, zae, zaf, zag, zah, zai, ofConst, ofConst1, List.replicate, zaj, zak, loadOp, Go.Abs.loadCells, binV, zal, pickV, zam, zan, zao, zap, zaq, zar, zas, zat, zau, outR, resAll, resOne, zav, zaw, zax, zay, zaz, zba, zbb, zbc, zbd, zbe, zbf, zbg, zbh, zbi, zbj, zbk, storeOp, storeCell, overlay, zbl, zbm, zbn, lookupOp, keyT, okRes, mapUpdateOp, zbo, zbp, zbq, zbr, zbs, zbt, zbu, Nat.reduceSub, Nat.reduceAdd, Int.reduceLT, Int.reduceLE, Int.reduceAdd, Int.reduceSub, Int.reduceToNat, Int.reduceBEq, Int.reduceBNe, Int.reduceMul, Nat.reduceBEq, Nat.reduceBNe, Nat.reduceLT, Nat.reduceLeDiff, Nat.reduceMul, Nat.reduceEqDiff, WD, effB, effH, isPriv, isHeap, isImm, zbx, zby, zbz, chkO, setD, dslot, zca, zcb, zcc, zcd, ptrCells_some, F41, hb, h3]
    simp only [failS]
    rw [hsm]
theorem number_at0 {H : Hp} {w : Nat} {x : V} {L : List Nat} {p e1 : Nat} (hR : Rr H w x L ⟨p, e1 + 1⟩) :
    EW 47 [.ptr w 0 0] H = some (.ret (.int .i64 (0 : Nat)) false, H) := by
  have hb := hR.b
  simp only [rdr] at hb
  refine eqOf (runs f47 b47 r47 n47 _ _ ?_)
  simp only [bodyOf, Tryd.f47, Option.getD_some]
  simp only [WW, partV, eqCells, eqLf, minV, maxV, ifcV, zaa, zab, zac, zad, zae, zaf, zag, zah, zai, ofConst, ofConst1, List.replicate, zaj, zak, loadOp, Go.Abs.loadCells, binV, zal, pickV, zam, zan, zao, zap, zaq, zar, zas, zat, zau, outR, resAll, resOne, zav, zaw, zax, zay, zaz, zba, zbb, zbc, zbd, zbe, zbf, zbg, zbh, zbi, zbj, zbk, storeOp, storeCell, overlay, zbl, zbm, zbn, lookupOp, keyT, okRes, mapUpdateOp, zbo, zbp, zbq, zbr, zbs, zbt, zbu, Nat.reduceSub, Nat.reduceAdd, Int.reduceLT, Int.reduceLE, Int.reduceAdd, Int.reduceSub, Int.reduceToNat, Int.reduceBEq, Int.reduceBNe, Int.reduceMul, Nat.reduceBEq, Nat.reduceBNe, Nat.reduceLT, Nat.reduceLeDiff, Nat.reduceMul, Nat.reduceEqDiff, WD, effB, effH, isPriv, isHeap, isImm, zbx, zby, zbz, chkO, setD, dslot, zca, zcb, zcc, zcd, ptrCells_some, F47]
  have h3 : (((e1 + 1 : Nat) : Int) == 0) = false := by rw [beq_eq_false_iff_ne]; omega
  refine wC_loop _ (fun k st' H' => st' = ⟨L47_3 (.v (.ptr w 0 0)) (.v (.int .i64 0)) (.v (.int .i64 0)), [], []⟩ ∧ H' = H) 0 ⟨?_, rfl⟩ ?_
  · simp only [WN, firstReg, growAll, zbv, zbw, norm, killS, zag, zah, zaa, zab, zbl, zat, zad, growOne, zae, zaf, zac, zas, zak, Nat.reduceLT, Nat.reduceAdd, zbj, zav, F47, L47_3]
  · rintro k st' H ⟨rfl, rfl⟩
    simp only [L47_3]
    simp only [WW, partV, eqCells, eqLf, minV, maxV, ifcV, zaa, zab, zac, zad, zae, zaf, zag, zah, zai, ofConst, ofConst1, List.replicate, zaj, zak, loadOp, Go.Abs.loadCells, binV, zal, pickV, zam, zan, zao, zap, zaq, zar, zas, zat, zau, outR, resAll, resOne, zav, zaw, zax, zay, zaz, zba, zbb, zbc, zbd, zbe, zbf, zbg, zbh, zbi, zbj, zbk, storeOp, storeCell, overlay, zbl, zbm, zbn, lookupOp, keyT, okRes, mapUpdateOp, zbo, zbp, zbq, zbr, zbs, zbt, zbu, Nat.reduceSub, Nat.reduceAdd, Int.reduceLT, Int.reduceLE, Int.reduceAdd, Int.reduceSub, Int.reduceToNat, Int.reduceBEq, Int.reduceBNe, Int.reduceMul, Nat.reduceBEq, Nat.reduceBNe, Nat.reduceLT, Nat.reduceLeDiff, Nat.reduceMul, Nat.reduceEqDiff, WD, effB, effH, isPriv, isHeap, isImm, zbx, zby, zbz, chkO, setD, dslot, zca, zcb, zcc, zcd, ptrCells_some, F47, hb, h3]
    rfl
theorem number_at {H : Hp} {w : Nat} {x : V} {L : List Nat} {p0 : Nat} (hR : Rr H w x L ⟨p0, 0⟩) (hL : ∀ y ∈ L, y < 256) (hlen : L.length ≤ 5000000) :
    wpCall EW 47 [.ptr w 0 0] H (fun out H' => out = .ret (.int .i64 ((num L ⟨p0, 0⟩).1 : Nat)) false ∧ H' = H.set w (rdr x (num L ⟨p0, 0⟩).2)) := by
  refine runs f47 b47 r47 n47 _ _ ?_
  simp only [bodyOf, Tryd.f47, Option.getD_some]
  simp only [WW, partV, eqCells, eqLf, minV, maxV, ifcV, zaa, zab, zac, zad, zae, zaf, zag, zah, zai, ofConst, ofConst1, List.replicate, zaj, zak, loadOp, Go.Abs.loadCells, binV, zal, pickV, zam, zan, zao, zap, zaq, zar, zas, zat, zau, outR, resAll, resOne, zav, zaw, zax, zay, zaz, zba, zbb, zbc, zbd, zbe, zbf, zbg, zbh, zbi, zbj, zbk, storeOp, storeCell, overlay, zbl, zbm, zbn, lookupOp, keyT, okRes, mapUpdateOp, zbo, zbp, zbq, zbr, zbs, zbt, zbu, Nat.reduceSub, Nat.reduceAdd, Int.reduceLT, Int.reduceLE, Int.reduceAdd, Int.reduceSub, Int.reduceToNat, Int.reduceBEq, Int.reduceBNe, Int.reduceMul, Nat.reduceBEq, Nat.reduceBNe, Nat.reduceLT, Nat.reduceLeDiff, Nat.reduceMul, Nat.reduceEqDiff, WD, effB, effH, isPriv, isHeap, isImm, zbx, zby, zbz, chkO, setD, dslot, zca, zcb, zcc, zcd, ptrCells_some, F47]
  refine wC_loop _ (fun k st' H' => ∃ i v p : Nat, st' = ⟨L47_3 (.v (.ptr w 0 0)) (.v (.int .i64 v)) (.v (.int .i64 i)), [], []⟩ ∧ (k = 9 - i ∧ i ≤ 8) ∧ Rr H' w x L ⟨p, 0⟩ ∧ (∀ b, H'.set w b = H.set w b) ∧ v < 2 ^ (7 * i) ∧ numG L (9 - i) i v p = num L ⟨p0, 0⟩) 9 ⟨0, 0, p0, ?_, ⟨rfl, by omega⟩, hR, fun _ => rfl, by simp, rfl⟩ ?_
  · simp only [WN, firstReg, growAll, zbv, zbw, norm, killS, zag, zah, zaa, zab, zbl, zat, zad, growOne, zae, zaf, zac, zas, zak, Nat.reduceLT, Nat.reduceAdd, zbj, zav, F47, L47_3]; rfl
  · rintro k st' H' ⟨i, v, p, rfl, ⟨rfl, hi8⟩, hR', hset, hv, hnum⟩
    simp only [L47_3]
    have hb := hR'.b
    simp only [rdr] at hb
    have hx := hR'.rd
    have hpl : p ≤ L.length := hR'.o
    have h00 : (((0 : Nat) : Int) == 0) = true := rfl
    simp only [WW, partV, eqCells, eqLf, minV, maxV, ifcV, zaa, zab, zac, zad, zae, zaf, zag, zah, zai, ofConst, ofConst1, List.replicate, zaj, zak, loadOp, Go.Abs.loadCells, binV, zal, pickV, zam, zan, zao, zap, zaq, zar, zas, zat, zau, outR, resAll, resOne, zav, zaw, zax, zay, zaz, zba, zbb, zbc, zbd, zbe, zbf, zbg, zbh, zbi, zbj, zbk, storeOp, storeCell, overlay, zbl, zbm, zbn, lookupOp, keyT, okRes, mapUpdateOp, zbo, zbp, zbq, zbr, zbs, zbt, zbu, Nat.reduceSub, Nat.reduceAdd, Int.reduceLT, Int.reduceLE, Int.reduceAdd, Int.reduceSub, Int.reduceToNat, Int.reduceBEq, Int.reduceBNe, Int.reduceMul, Nat.reduceBEq, Nat.reduceBNe, Nat.reduceLT, Nat.reduceLeDiff, Nat.reduceMul, Nat.reduceEqDiff, WD, effB, effH, isPriv, isHeap, isImm, zbx, zby, zbz, chkO, setD, dslot, zca, zcb, zcc, zcd, ptrCells_some, F47, hb, h00, hx.shutIn]
    refine wC_dr alts47_5 (by kernel_rfl) ?_
    have e9 : 9 - i = (8 - i) + 1 := by omega
    rw [e9, numG] at hnum
    cases hLp : L[p]? with
    | none =>
      rw [hLp] at hnum
      have hpe : p = L.length := by have := List.getElem?_eq_none_iff.1 hLp; omega
      have hne : ((p : Int) == ((bs L).length : Int)) = true := by rw [bs_len, hpe]; simp
      simp only [WW, partV, eqCells, eqLf, minV, maxV, ifcV, zaa, zab, zac, zad, zae, zaf, zag, zah, zai, ofConst, ofConst1, List.replicate, zaj, zak, loadOp, Go.Abs.loadCells, binV, zal, pickV, zam, zan, zao, zap, zaq, zar, zas, zat, zau, outR, resAll, resOne, zav, zaw, zax, zay, zaz, zba, zbb, zbc, zbd, zbe, zbf, zbg, zbh, zbi, zbj, zbk, storeOp, storeCell, overlay, zbl, zbm, zbn, lookupOp, keyT, okRes, mapUpdateOp, zbo, zbp, zbq, zbr, zbs, zbt, zbu, Nat.reduceSub, Nat.reduceAdd, Int.reduceLT, Int.reduceLE, Int.reduceAdd, Int.reduceSub, Int.reduceToNat, Int.reduceBEq, Int.reduceBNe, Int.reduceMul, Nat.reduceBEq, Nat.reduceBNe, Nat.reduceLT, Nat.reduceLeDiff, Nat.reduceMul, Nat.reduceEqDiff, WD, effB, effH, isPriv, isHeap, isImm, zbx, zby, zbz, chkO, setD, dslot, zca, zcb, zcc, zcd, ptrCells_some, F47, hb, hx.shutIn, hx.len, hne, alts47_5]
      have h6 : (6 : Int) = ((6 : Nat) : Int) := rfl
      rw [h6, wpCall_eq (failR hR' 6 p)]
      simp only [WW, partV, eqCells, eqLf, minV, maxV, ifcV, zaa, zab, zac, zad, zae, zaf, zag, zah, zai, ofConst, ofConst1, List.replicate, zaj, zak, loadOp, Go.Abs.loadCells, binV, zal, pickV, zam, zan, zao, zap, zaq, zar, zas, zat, zau, outR, resAll, resOne, zav, zaw, zax, zay, zaz, zba, zbb, zbc, zbd, zbe, zbf, zbg, zbh, zbi, zbj, zbk, storeOp, storeCell, overlay, zbl, zbm, zbn, lookupOp, keyT, okRes, mapUpdateOp, zbo, zbp, zbq, zbr, zbs, zbt, zbu, Nat.reduceSub, Nat.reduceAdd, Int.reduceLT, Int.reduceLE, Int.reduceAdd, Int.reduceSub, Int.reduceToNat, Int.reduceBEq, Int.reduceBNe, Int.reduceMul, Nat.reduceBEq, Nat.reduceBNe, Nat.reduceLT, Nat.reduceLeDiff, Nat.reduceMul, Nat.reduceEqDiff, WD, effB, effH, isPriv, isHeap, isImm, zbx, zby, zbz, chkO, setD, dslot, zca, zcb, zcc, zcd, ptrCells_some, F47]
      rw [← hnum]
      exact ⟨rfl, hset _⟩
    | some c =>
      rw [hLp] at hnum
      simp only at hnum
      have hlt : p < L.length := (List.getElem?_eq_some_iff.1 hLp).1
      have hc256 : c < 256 := hL c (List.mem_of_getElem? hLp)
      have hne : ((p : Int) == ((bs L).length : Int)) = false := by rw [bs_len, beq_eq_false_iff_ne]; omega
      have hat := hx.at_ (sz := 1) (i := p) (e := .int .u8 (c : Nat)) (by simp [bs, hLp]) rfl
      simp only [WW, partV, eqCells, eqLf, minV, maxV, ifcV, zaa, zab, zac, zad, zae, zaf, zag, zah, zai, ofConst, ofConst1, List.replicate, zaj, zak, loadOp, Go.Abs.loadCells, binV, zal, pickV, zam, zan, zao, zap, zaq, zar, zas, zat, zau, outR, resAll, resOne, zav, zaw, zax, zay, zaz, zba, zbb, zbc, zbd, zbe, zbf, zbg, zbh, zbi, zbj, zbk, storeOp, storeCell, overlay, zbl, zbm, zbn, lookupOp, keyT, okRes, mapUpdateOp, zbo, zbp, zbq, zbr, zbs, zbt, zbu, Nat.reduceSub, Nat.reduceAdd, Int.reduceLT, Int.reduceLE, Int.reduceAdd, Int.reduceSub, Int.reduceToNat, Int.reduceBEq, Int.reduceBNe, Int.reduceMul, Nat.reduceBEq, Nat.reduceBNe, Nat.reduceLT, Nat.reduceLeDiff, Nat.reduceMul, Nat.reduceEqDiff, WD, effB, effH, isPriv, isHeap, isImm, zbx, zby, zbz, chkO, setD, dslot, zca, zcb, zcc, zcd, ptrCells_some, F47, hb, hx.shutIn, hx.len, hne, alts47_5]
      refine wC_dr alts47_7 (by kernel_rfl) ?_
      simp only [WW, partV, eqCells, eqLf, minV, maxV, ifcV, zaa, zab, zac, zad, zae, zaf, zag, zah, zai, ofConst, ofConst1, List.replicate, zaj, zak, loadOp, Go.Abs.loadCells, binV, zal, pickV, zam, zan, zao, zap, zaq, zar, zas, zat, zau, outR, resAll, resOne, zav, zaw, zax, zay, zaz, zba, zbb, zbc, zbd, zbe, zbf, zbg, zbh, zbi, zbj, zbk, storeOp, storeCell, overlay, zbl, zbm, zbn, lookupOp, keyT, okRes, mapUpdateOp, zbo, zbp, zbq, zbr, zbs, zbt, zbu, Nat.reduceSub, Nat.reduceAdd, Int.reduceLT, Int.reduceLE, Int.reduceAdd, Int.reduceSub, Int.reduceToNat, Int.reduceBEq, Int.reduceBNe, Int.reduceMul, Nat.reduceBEq, Nat.reduceBNe, Nat.reduceLT, Nat.reduceLeDiff, Nat.reduceMul, Nat.reduceEqDiff, WD, effB, effH, isPriv, isHeap, isImm, zbx, zby, zbz, chkO, setD, dslot, zca, zcb, zcc, zcd, ptrCells_some, F47, hb, hx.shutIn, hat.at1 hx, hat.cells, alts47_7]
      have hm7 : IntKind.i64.wrap (7 * (i : Int)) = ((7 * i : Nat) : Int) := by rw [IntWalk.i64_in _ (by omega)]; simp
      have hneg : ¬ (((7 * i : Nat) : Int) < 0) := by omega
      have htn : min (7 * i) IntKind.i64.bits = 7 * i := by show min (7 * i) 64 = _; omega
      have hcw : IntKind.i64.wrap ((c % 128 : Nat) : Int) = ((c % 128 : Nat) : Int) := IntWalk.i64_in _ (by omega)
      have e7 : 2 ^ (7 * (i + 1)) = 2 ^ (7 * i) * 128 := by rw [Nat.mul_add, Nat.pow_add]
      have hmq : c % 128 * 2 ^ (7 * i) ≤ 127 * 2 ^ (7 * i) := Nat.mul_le_mul_right _ (by omega)
      have e8 : (2 : Nat) ^ (7 * 8) = 72057594037927936 := by decide
      have hp8 : 2 ^ (7 * i) ≤ 2 ^ (7 * 8) := Nat.pow_le_pow_right (by decide) (by omega)
      have hsh : IntKind.i64.wrap (((c % 128 : Nat) : Int) * 2 ^ (7 * i)) = ((c % 128 * 2 ^ (7 * i) : Nat) : Int) := by
        rw [show (((c % 128 : Nat) : Int) * 2 ^ (7 * i)) = ((c % 128 * 2 ^ (7 * i) : Nat) : Int) by rw [Int.natCast_mul, Int.natCast_pow]; rfl]
        exact IntWalk.i64_in _ (by omega)
      have hor := or_add v (c % 128) (7 * i) hv (by omega)
      have hp1 : IntKind.i64.wrap ((p : Int) + 1) = ((p + 1 : Nat) : Int) := by rw [IntWalk.i64_in _ (by omega)]; omega
      have hb2 : (H'.set w (.cells [.agg [x, .int .i64 ((p + 1 : Nat) : Int), .int .i64 ((0 : Nat) : Int)]]))[w]? = some (.cells [.agg [x, .int .i64 ((p + 1 : Nat) : Int), .int .i64 ((0 : Nat) : Int)]]) := List.getElem?_set_self hR'.lt
      have hvv : v + c % 128 * 2 ^ (7 * i) < 2 ^ (7 * (i + 1)) := by omega
      have hR2 := hR'.to (s' := ⟨p + 1, 0⟩) hlt
      have h6 : (6 : Int) = ((6 : Nat) : Int) := rfl
      obtain ⟨b1, h1⟩ : ∃ b, decide ((0 : Int) < (i : Int)) = b := ⟨_, rfl⟩
      obtain ⟨b2, h2⟩ : ∃ b, ((c : Int) == 0) = b := ⟨_, rfl⟩
      obtain ⟨b3, h3⟩ : ∃ b, ((i : Int) == 8) = b := ⟨_, rfl⟩
      obtain ⟨b4, h4⟩ : ∃ b, decide ((64 : Int) ≤ (c : Int)) = b := ⟨_, rfl⟩
      have hbad : badN i c = ((b1 && b2) || (b3 && b4)) := by
        rw [← h1, ← h2, ← h3, ← h4, badN, Bool.eq_iff_iff]
        simp only [Bool.or_eq_true, Bool.and_eq_true, decide_eq_true_eq, beq_iff_eq]
        omega
      rw [hbad] at hnum
      cases b1 with
      | false =>
        cases b3 with
        | false =>
          simp only [WW, partV, eqCells, eqLf, minV, maxV, ifcV, zaa, zab, zac, zad, zae, zaf, zag, zah, zai, ofConst, ofConst1, List.replicate, zaj, zak, loadOp, Go.Abs.loadCells, binV, zal, pickV, zam, zan, zao, zap, zaq, zar, zas, zat, zau, outR, resAll, resOne, zav, zaw, zax, zay, zaz, zba, zbb, zbc, zbd, zbe, zbf, zbg, zbh, zbi, zbj, zbk, storeOp, storeCell, overlay, zbl, zbm, zbn, lookupOp, keyT, okRes, mapUpdateOp, zbo, zbp, zbq, zbr, zbs, zbt, zbu, Nat.reduceSub, Nat.reduceAdd, Int.reduceLT, Int.reduceLE, Int.reduceAdd, Int.reduceSub, Int.reduceToNat, Int.reduceBEq, Int.reduceBNe, Int.reduceMul, Nat.reduceBEq, Nat.reduceBNe, Nat.reduceLT, Nat.reduceLeDiff, Nat.reduceMul, Nat.reduceEqDiff, WD, effB, effH, isPriv, isHeap, isImm, zbx, zby, zbz, chkO, setD, dslot, zca, zcb, zcc, zcd, ptrCells_some, F47, h1, h3, convertOp, and127 c hc256, hb, hm7, hneg, htn, hcw, hsh, hor, if_neg hneg]
          simp only [WW, partV, eqCells, eqLf, minV, maxV, ifcV, zaa, zab, zac, zad, zae, zaf, zag, zah, zai, ofConst, ofConst1, List.replicate, zaj, zak, loadOp, Go.Abs.loadCells, binV, zal, pickV, zam, zan, zao, zap, zaq, zar, zas, zat, zau, outR, resAll, resOne, zav, zaw, zax, zay, zaz, zba, zbb, zbc, zbd, zbe, zbf, zbg, zbh, zbi, zbj, zbk, storeOp, storeCell, overlay, zbl, zbm, zbn, lookupOp, keyT, okRes, mapUpdateOp, zbo, zbp, zbq, zbr, zbs, zbt, zbu, Nat.reduceSub, Nat.reduceAdd, Int.reduceLT, Int.reduceLE, Int.reduceAdd, Int.reduceSub, Int.reduceToNat, Int.reduceBEq, Int.reduceBNe, Int.reduceMul, Nat.reduceBEq, Nat.reduceBNe, Nat.reduceLT, Nat.reduceLeDiff, Nat.reduceMul, Nat.reduceEqDiff, WD, effB, effH, isPriv, isHeap, isImm, zbx, zby, zbz, chkO, setD, dslot, zca, zcb, zcc, zcd, ptrCells_some, F47, hb, hb2, hp1, storeHeap, promote, heapSet, elemSet]
          simp only [Bool.false_and, Bool.and_false, Bool.or_self, Bool.false_or, Bool.or_false] at hnum
          refine cSplit (fun g9 => ?_) (fun g9 => ?_)
          · have hm : decide (c < 128) = true := decide_eq_true (by have := of_decide_eq_true g9; omega)
            rw [hm] at hnum
            simp only [g9]
            simp only [WW, partV, eqCells, eqLf, minV, maxV, ifcV, zaa, zab, zac, zad, zae, zaf, zag, zah, zai, ofConst, ofConst1, List.replicate, zaj, zak, loadOp, Go.Abs.loadCells, binV, zal, pickV, zam, zan, zao, zap, zaq, zar, zas, zat, zau, outR, resAll, resOne, zav, zaw, zax, zay, zaz, zba, zbb, zbc, zbd, zbe, zbf, zbg, zbh, zbi, zbj, zbk, storeOp, storeCell, overlay, zbl, zbm, zbn, lookupOp, keyT, okRes, mapUpdateOp, zbo, zbp, zbq, zbr, zbs, zbt, zbu, Nat.reduceSub, Nat.reduceAdd, Int.reduceLT, Int.reduceLE, Int.reduceAdd, Int.reduceSub, Int.reduceToNat, Int.reduceBEq, Int.reduceBNe, Int.reduceMul, Nat.reduceBEq, Nat.reduceBNe, Nat.reduceLT, Nat.reduceLeDiff, Nat.reduceMul, Nat.reduceEqDiff, WD, effB, effH, isPriv, isHeap, isImm, zbx, zby, zbz, chkO, setD, dslot, zca, zcb, zcc, zcd, ptrCells_some, F47]
            rw [← hnum]
            exact ⟨rfl, hset _⟩
          · have hm : decide (c < 128) = false := decide_eq_false (by have := of_decide_eq_false g9; omega)
            rw [hm] at hnum
            simp only [g9]
            simp only [WW, partV, eqCells, eqLf, minV, maxV, ifcV, zaa, zab, zac, zad, zae, zaf, zag, zah, zai, ofConst, ofConst1, List.replicate, zaj, zak, loadOp, Go.Abs.loadCells, binV, zal, pickV, zam, zan, zao, zap, zaq, zar, zas, zat, zau, outR, resAll, resOne, zav, zaw, zax, zay, zaz, zba, zbb, zbc, zbd, zbe, zbf, zbg, zbh, zbi, zbj, zbk, storeOp, storeCell, overlay, zbl, zbm, zbn, lookupOp, keyT, okRes, mapUpdateOp, zbo, zbp, zbq, zbr, zbs, zbt, zbu, Nat.reduceSub, Nat.reduceAdd, Int.reduceLT, Int.reduceLE, Int.reduceAdd, Int.reduceSub, Int.reduceToNat, Int.reduceBEq, Int.reduceBNe, Int.reduceMul, Nat.reduceBEq, Nat.reduceBNe, Nat.reduceLT, Nat.reduceLeDiff, Nat.reduceMul, Nat.reduceEqDiff, WD, effB, effH, isPriv, isHeap, isImm, zbx, zby, zbz, chkO, setD, dslot, zca, zcb, zcc, zcd, ptrCells_some, F47]
            have h8 : i ≤ 7 := by
              have := of_decide_eq_false g9
              by_cases hh : i = 8
              · exfalso
                have hq : badN i c = true := by rw [badN, hh, decide_eq_true (show 64 ≤ c by omega)]; simp
                rw [hbad] at hq
                simp at hq
              · omega
            refine ⟨9 - (i + 1), by omega, i + 1, v + c % 128 * 2 ^ (7 * i), p + 1, ?_, ⟨rfl, by omega⟩, hR2, fun b => by rw [List.set_set]; exact hset b, hvv, ?_⟩
            · simp only [WN, firstReg, growAll, zbv, zbw, norm, killS, zag, zah, zaa, zab, zbl, zat, zad, growOne, zae, zaf, zac, zas, zak, Nat.reduceLT, Nat.reduceAdd, zbj, zav, F47]
              rw [IntWalk.i64_in ((i : Int) + 1) (by omega)]; rfl
            · have e9' : 9 - (i + 1) = 8 - i := by omega
              rw [e9']; exact hnum
        | true =>
          cases b4 with
          | true =>
            simp only [WW, partV, eqCells, eqLf, minV, maxV, ifcV, zaa, zab, zac, zad, zae, zaf, zag, zah, zai, ofConst, ofConst1, List.replicate, zaj, zak, loadOp, Go.Abs.loadCells, binV, zal, pickV, zam, zan, zao, zap, zaq, zar, zas, zat, zau, outR, resAll, resOne, zav, zaw, zax, zay, zaz, zba, zbb, zbc, zbd, zbe, zbf, zbg, zbh, zbi, zbj, zbk, storeOp, storeCell, overlay, zbl, zbm, zbn, lookupOp, keyT, okRes, mapUpdateOp, zbo, zbp, zbq, zbr, zbs, zbt, zbu, Nat.reduceSub, Nat.reduceAdd, Int.reduceLT, Int.reduceLE, Int.reduceAdd, Int.reduceSub, Int.reduceToNat, Int.reduceBEq, Int.reduceBNe, Int.reduceMul, Nat.reduceBEq, Nat.reduceBNe, Nat.reduceLT, Nat.reduceLeDiff, Nat.reduceMul, Nat.reduceEqDiff, WD, effB, effH, isPriv, isHeap, isImm, zbx, zby, zbz, chkO, setD, dslot, zca, zcb, zcc, zcd, ptrCells_some, F47, h1, h3, h4, hb]
            rw [h6, wpCall_eq (failR hR' 6 p)]
            simp only [WW, partV, eqCells, eqLf, minV, maxV, ifcV, zaa, zab, zac, zad, zae, zaf, zag, zah, zai, ofConst, ofConst1, List.replicate, zaj, zak, loadOp, Go.Abs.loadCells, binV, zal, pickV, zam, zan, zao, zap, zaq, zar, zas, zat, zau, outR, resAll, resOne, zav, zaw, zax, zay, zaz, zba, zbb, zbc, zbd, zbe, zbf, zbg, zbh, zbi, zbj, zbk, storeOp, storeCell, overlay, zbl, zbm, zbn, lookupOp, keyT, okRes, mapUpdateOp, zbo, zbp, zbq, zbr, zbs, zbt, zbu, Nat.reduceSub, Nat.reduceAdd, Int.reduceLT, Int.reduceLE, Int.reduceAdd, Int.reduceSub, Int.reduceToNat, Int.reduceBEq, Int.reduceBNe, Int.reduceMul, Nat.reduceBEq, Nat.reduceBNe, Nat.reduceLT, Nat.reduceLeDiff, Nat.reduceMul, Nat.reduceEqDiff, WD, effB, effH, isPriv, isHeap, isImm, zbx, zby, zbz, chkO, setD, dslot, zca, zcb, zcc, zcd, ptrCells_some, F47]
            simp only [Bool.true_and, Bool.and_true, Bool.or_true, Bool.true_or, Bool.or_self, Bool.and_self, Bool.false_and, Bool.false_or] at hnum
            rw [← hnum]
            exact ⟨rfl, hset _⟩
          | false =>
            simp only [WW, partV, eqCells, eqLf, minV, maxV, ifcV, zaa, zab, zac, zad, zae, zaf, zag, zah, zai, ofConst, ofConst1, List.replicate, zaj, zak, loadOp, Go.Abs.loadCells, binV, zal, pickV, zam, zan, zao, zap, zaq, zar, zas, zat, zau, outR, resAll, resOne, zav, zaw, zax, zay, zaz, zba, zbb, zbc, zbd, zbe, zbf, zbg, zbh, zbi, zbj, zbk, storeOp, storeCell, overlay, zbl, zbm, zbn, lookupOp, keyT, okRes, mapUpdateOp, zbo, zbp, zbq, zbr, zbs, zbt, zbu, Nat.reduceSub, Nat.reduceAdd, Int.reduceLT, Int.reduceLE, Int.reduceAdd, Int.reduceSub, Int.reduceToNat, Int.reduceBEq, Int.reduceBNe, Int.reduceMul, Nat.reduceBEq, Nat.reduceBNe, Nat.reduceLT, Nat.reduceLeDiff, Nat.reduceMul, Nat.reduceEqDiff, WD, effB, effH, isPriv, isHeap, isImm, zbx, zby, zbz, chkO, setD, dslot, zca, zcb, zcc, zcd, ptrCells_some, F47, h1, h3, h4, convertOp, and127 c hc256, hb, hm7, hneg, htn, hcw, hsh, hor, if_neg hneg]
            simp only [WW, partV, eqCells, eqLf, minV, maxV, ifcV, zaa, zab, zac, zad, zae, zaf, zag, zah, zai, ofConst, ofConst1, List.replicate, zaj, zak, loadOp, Go.Abs.loadCells, binV, zal, pickV, zam, zan, zao, zap, zaq, zar, zas, zat, zau, outR, resAll, resOne, zav, zaw, zax, zay, zaz, zba, zbb, zbc, zbd, zbe, zbf, zbg, zbh, zbi, zbj, zbk, storeOp, storeCell, overlay, zbl, zbm, zbn, lookupOp, keyT, okRes, mapUpdateOp, zbo, zbp, zbq, zbr, zbs, zbt, zbu, Nat.reduceSub, Nat.reduceAdd, Int.reduceLT, Int.reduceLE, Int.reduceAdd, Int.reduceSub, Int.reduceToNat, Int.reduceBEq, Int.reduceBNe, Int.reduceMul, Nat.reduceBEq, Nat.reduceBNe, Nat.reduceLT, Nat.reduceLeDiff, Nat.reduceMul, Nat.reduceEqDiff, WD, effB, effH, isPriv, isHeap, isImm, zbx, zby, zbz, chkO, setD, dslot, zca, zcb, zcc, zcd, ptrCells_some, F47, hb, hb2, hp1, storeHeap, promote, heapSet, elemSet]
            simp only [Bool.false_and, Bool.and_false, Bool.or_self, Bool.false_or, Bool.or_false] at hnum
            refine cSplit (fun g9 => ?_) (fun g9 => ?_)
            · have hm : decide (c < 128) = true := decide_eq_true (by have := of_decide_eq_true g9; omega)
              rw [hm] at hnum
              simp only [g9]
              simp only [WW, partV, eqCells, eqLf, minV, maxV, ifcV, zaa, zab, zac, zad, zae, zaf, zag, zah, zai, ofConst, ofConst1, List.replicate, zaj, zak, loadOp, Go.Abs.loadCells, binV, zal, pickV, zam, zan, zao, zap, zaq, zar, zas, zat, zau, outR, resAll, resOne, zav, zaw, zax, zay, zaz, zba, zbb, zbc, zbd, zbe, zbf, zbg, zbh, zbi, zbj, zbk, storeOp, storeCell, overlay, zbl, zbm, zbn, lookupOp, keyT, okRes, mapUpdateOp, zbo, zbp, zbq, zbr, zbs, zbt, zbu, Nat.reduceSub, Nat.reduceAdd, Int.reduceLT, Int.reduceLE, Int.reduceAdd, Int.reduceSub, Int.reduceToNat, Int.reduceBEq, Int.reduceBNe, Int.reduceMul, Nat.reduceBEq, Nat.reduceBNe, Nat.reduceLT, Nat.reduceLeDiff, Nat.reduceMul, Nat.reduceEqDiff, WD, effB, effH, isPriv, isHeap, isImm, zbx, zby, zbz, chkO, setD, dslot, zca, zcb, zcc, zcd, ptrCells_some, F47]
              rw [← hnum]
              exact ⟨rfl, hset _⟩
            · have hm : decide (c < 128) = false := decide_eq_false (by have := of_decide_eq_false g9; omega)
              rw [hm] at hnum
              simp only [g9]
              simp only [WW, partV, eqCells, eqLf, minV, maxV, ifcV, zaa, zab, zac, zad, zae, zaf, zag, zah, zai, ofConst, ofConst1, List.replicate, zaj, zak, loadOp, Go.Abs.loadCells, binV, zal, pickV, zam, zan, zao, zap, zaq, zar, zas, zat, zau, outR, resAll, resOne, zav, zaw, zax, zay, zaz, zba, zbb, zbc, zbd, zbe, zbf, zbg, zbh, zbi, zbj, zbk, storeOp, storeCell, overlay, zbl, zbm, zbn, lookupOp, keyT, okRes, mapUpdateOp, zbo, zbp, zbq, zbr, zbs, zbt, zbu, Nat.reduceSub, Nat.reduceAdd, Int.reduceLT, Int.reduceLE, Int.reduceAdd, Int.reduceSub, Int.reduceToNat, Int.reduceBEq, Int.reduceBNe, Int.reduceMul, Nat.reduceBEq, Nat.reduceBNe, Nat.reduceLT, Nat.reduceLeDiff, Nat.reduceMul, Nat.reduceEqDiff, WD, effB, effH, isPriv, isHeap, isImm, zbx, zby, zbz, chkO, setD, dslot, zca, zcb, zcc, zcd, ptrCells_some, F47]
              have h8 : i ≤ 7 := by
                have := of_decide_eq_false g9
                by_cases hh : i = 8
                · exfalso
                  have hq : badN i c = true := by rw [badN, hh, decide_eq_true (show 64 ≤ c by omega)]; simp
                  rw [hbad] at hq
                  simp at hq
                · omega
              refine ⟨9 - (i + 1), by omega, i + 1, v + c % 128 * 2 ^ (7 * i), p + 1, ?_, ⟨rfl, by omega⟩, hR2, fun b => by rw [List.set_set]; exact hset b, hvv, ?_⟩
              · simp only [WN, firstReg, growAll, zbv, zbw, norm, killS, zag, zah, zaa, zab, zbl, zat, zad, growOne, zae, zaf, zac, zas, zak, Nat.reduceLT, Nat.reduceAdd, zbj, zav, F47]
                rw [IntWalk.i64_in ((i : Int) + 1) (by omega)]; rfl
              · have e9' : 9 - (i + 1) = 8 - i := by omega
                rw [e9']; exact hnum
      | true =>
        cases b2 with
        | true =>
          simp only [WW, partV, eqCells, eqLf, minV, maxV, ifcV, zaa, zab, zac, zad, zae, zaf, zag, zah, zai, ofConst, ofConst1, List.replicate, zaj, zak, loadOp, Go.Abs.loadCells, binV, zal, pickV, zam, zan, zao, zap, zaq, zar, zas, zat, zau, outR, resAll, resOne, zav, zaw, zax, zay, zaz, zba, zbb, zbc, zbd, zbe, zbf, zbg, zbh, zbi, zbj, zbk, storeOp, storeCell, overlay, zbl, zbm, zbn, lookupOp, keyT, okRes, mapUpdateOp, zbo, zbp, zbq, zbr, zbs, zbt, zbu, Nat.reduceSub, Nat.reduceAdd, Int.reduceLT, Int.reduceLE, Int.reduceAdd, Int.reduceSub, Int.reduceToNat, Int.reduceBEq, Int.reduceBNe, Int.reduceMul, Nat.reduceBEq, Nat.reduceBNe, Nat.reduceLT, Nat.reduceLeDiff, Nat.reduceMul, Nat.reduceEqDiff, WD, effB, effH, isPriv, isHeap, isImm, zbx, zby, zbz, chkO, setD, dslot, zca, zcb, zcc, zcd, ptrCells_some, F47, h1, h2, hb]
          rw [h6, wpCall_eq (failR hR' 6 p)]
          simp only [WW, partV, eqCells, eqLf, minV, maxV, ifcV, zaa, zab, zac, zad, zae, zaf, zag, zah, zai, ofConst, ofConst1, List.replicate, zaj, zak, loadOp, Go.Abs.loadCells, binV, zal, pickV, zam, zan, zao, zap, zaq, zar, zas, zat, zau, outR, resAll, resOne, zav, zaw, zax, zay, zaz, zba, zbb, zbc, zbd, zbe, zbf, zbg, zbh, zbi, zbj, zbk, storeOp, storeCell, overlay, zbl, zbm, zbn, lookupOp, keyT, okRes, mapUpdateOp, zbo, zbp, zbq, zbr, zbs, zbt, zbu, Nat.reduceSub, Nat.reduceAdd, Int.reduceLT, Int.reduceLE, Int.reduceAdd, Int.reduceSub, Int.reduceToNat, Int.reduceBEq, Int.reduceBNe, Int.reduceMul, Nat.reduceBEq, Nat.reduceBNe, Nat.reduceLT, Nat.reduceLeDiff, Nat.reduceMul, Nat.reduceEqDiff, WD, effB, effH, isPriv, isHeap, isImm, zbx, zby, zbz, chkO, setD, dslot, zca, zcb, zcc, zcd, ptrCells_some, F47]
          simp only [Bool.true_and, Bool.and_true, Bool.or_true, Bool.true_or, Bool.or_self, Bool.and_self, Bool.false_and, Bool.false_or] at hnum
          rw [← hnum]
          exact ⟨rfl, hset _⟩
        | false =>
          cases b3 with
          | false =>
            simp only [WW, partV, eqCells, eqLf, minV, maxV, ifcV, zaa, zab, zac, zad, zae, zaf, zag, zah, zai, ofConst, ofConst1, List.replicate, zaj, zak, loadOp, Go.Abs.loadCells, binV, zal, pickV, zam, zan, zao, zap, zaq, zar, zas, zat, zau, outR, resAll, resOne, zav, zaw, zax, zay, zaz, zba, zbb, zbc, zbd, zbe, zbf, zbg, zbh, zbi, zbj, zbk, storeOp, storeCell, overlay, zbl, zbm, zbn, lookupOp, keyT, okRes, mapUpdateOp, zbo, zbp, zbq, zbr, zbs, zbt, zbu, Nat.reduceSub, Nat.reduceAdd, Int.reduceLT, Int.reduceLE, Int.reduceAdd, Int.reduceSub, Int.reduceToNat, Int.reduceBEq, Int.reduceBNe, Int.reduceMul, Nat.reduceBEq, Nat.reduceBNe, Nat.reduceLT, Nat.reduceLeDiff, Nat.reduceMul, Nat.reduceEqDiff, WD, effB, effH, isPriv, isHeap, isImm, zbx, zby, zbz, chkO, setD, dslot, zca, zcb, zcc, zcd, ptrCells_some, F47, h1, h2, h3, convertOp, and127 c hc256, hb, hm7, hneg, htn, hcw, hsh, hor, if_neg hneg]
            simp only [WW, partV, eqCells, eqLf, minV, maxV, ifcV, zaa, zab, zac, zad, zae, zaf, zag, zah, zai, ofConst, ofConst1, List.replicate, zaj, zak, loadOp, Go.Abs.loadCells, binV, zal, pickV, zam, zan, zao, zap, zaq, zar, zas, zat, zau, outR, resAll, resOne, zav, zaw, zax, zay, zaz, zba, zbb, zbc, zbd, zbe, zbf, zbg, zbh, zbi, zbj, zbk, storeOp, storeCell, overlay, zbl, zbm, zbn, lookupOp, keyT, okRes, mapUpdateOp, zbo, zbp, zbq, zbr, zbs, zbt, zbu, Nat.reduceSub, Nat.reduceAdd, Int.reduceLT, Int.reduceLE, Int.reduceAdd, Int.reduceSub, Int.reduceToNat, Int.reduceBEq, Int.reduceBNe, Int.reduceMul, Nat.reduceBEq, Nat.reduceBNe, Nat.reduceLT, Nat.reduceLeDiff, Nat.reduceMul, Nat.reduceEqDiff, WD, effB, effH, isPriv, isHeap, isImm, zbx, zby, zbz, chkO, setD, dslot, zca, zcb, zcc, zcd, ptrCells_some, F47, hb, hb2, hp1, storeHeap, promote, heapSet, elemSet]
            simp only [Bool.false_and, Bool.and_false, Bool.or_self, Bool.false_or, Bool.or_false] at hnum
            refine cSplit (fun g9 => ?_) (fun g9 => ?_)
            · have hm : decide (c < 128) = true := decide_eq_true (by have := of_decide_eq_true g9; omega)
              rw [hm] at hnum
              simp only [g9]
              simp only [WW, partV, eqCells, eqLf, minV, maxV, ifcV, zaa, zab, zac, zad, zae, zaf, zag, zah, zai, ofConst, ofConst1, List.replicate, zaj, zak, loadOp, Go.Abs.loadCells, binV, zal, pickV, zam, zan, zao, zap, zaq, zar, zas, zat, zau, outR, resAll, resOne, zav, zaw, zax, zay, zaz, zba, zbb, zbc, zbd, zbe, zbf, zbg, zbh, zbi, zbj, zbk, storeOp, storeCell, overlay, zbl, zbm, zbn, lookupOp, keyT, okRes, mapUpdateOp, zbo, zbp, zbq, zbr, zbs, zbt, zbu, Nat.reduceSub, Nat.reduceAdd, Int.reduceLT, Int.reduceLE, Int.reduceAdd, Int.reduceSub, Int.reduceToNat, Int.reduceBEq, Int.reduceBNe, Int.reduceMul, Nat.reduceBEq, Nat.reduceBNe, Nat.reduceLT, Nat.reduceLeDiff, Nat.reduceMul, Nat.reduceEqDiff, WD, effB, effH, isPriv, isHeap, isImm, zbx, zby, zbz, chkO, setD, dslot, zca, zcb, zcc, zcd, ptrCells_some, F47]
              rw [← hnum]
              exact ⟨rfl, hset _⟩
            · have hm : decide (c < 128) = false := decide_eq_false (by have := of_decide_eq_false g9; omega)
              rw [hm] at hnum
              simp only [g9]
              simp only [WW, partV, eqCells, eqLf, minV, maxV, ifcV, zaa, zab, zac, zad, zae, zaf, zag, zah, zai, ofConst, ofConst1, List.replicate, zaj, zak, loadOp, Go.Abs.loadCells, binV, zal, pickV, zam, zan, zao, zap, zaq, zar, zas, zat, zau, outR, resAll, resOne, zav, zaw, zax, zay, zaz, zba, zbb, zbc, zbd, zbe, zbf, zbg, zbh, zbi, zbj, zbk, storeOp, storeCell, overlay, zbl, zbm, zbn, lookupOp, keyT, okRes, mapUpdateOp, zbo, zbp, zbq, zbr, zbs, zbt, zbu, Nat.reduceSub, Nat.reduceAdd, Int.reduceLT, Int.reduceLE, Int.reduceAdd, Int.reduceSub, Int.reduceToNat, Int.reduceBEq, Int.reduceBNe, Int.reduceMul, Nat.reduceBEq, Nat.reduceBNe, Nat.reduceLT, Nat.reduceLeDiff, Nat.reduceMul, Nat.reduceEqDiff, WD, effB, effH, isPriv, isHeap, isImm, zbx, zby, zbz, chkO, setD, dslot, zca, zcb, zcc, zcd, ptrCells_some, F47]
              have h8 : i ≤ 7 := by
                have := of_decide_eq_false g9
                by_cases hh : i = 8
                · exfalso
                  have hq : badN i c = true := by rw [badN, hh, decide_eq_true (show 64 ≤ c by omega)]; simp
                  rw [hbad] at hq
                  simp at hq
                · omega
              refine ⟨9 - (i + 1), by omega, i + 1, v + c % 128 * 2 ^ (7 * i), p + 1, ?_, ⟨rfl, by omega⟩, hR2, fun b => by rw [List.set_set]; exact hset b, hvv, ?_⟩
              · simp only [WN, firstReg, growAll, zbv, zbw, norm, killS, zag, zah, zaa, zab, zbl, zat, zad, growOne, zae, zaf, zac, zas, zak, Nat.reduceLT, Nat.reduceAdd, zbj, zav, F47]
                rw [IntWalk.i64_in ((i : Int) + 1) (by omega)]; rfl
              · have e9' : 9 - (i + 1) = 8 - i := by omega
                rw [e9']; exact hnum
          | true =>
            cases b4 with
            | true =>
              simp only [WW, partV, eqCells, eqLf, minV, maxV, ifcV, zaa, zab, zac, zad, zae, zaf, zag, zah, zai, ofConst, ofConst1, List.replicate, zaj, zak, loadOp, Go.Abs.loadCells, binV, zal, pickV, zam, zan, zao, zap, zaq, zar, zas, zat, zau, outR, resAll, resOne, zav, zaw, zax, zay, zaz, zba, zbb, zbc, zbd, zbe, zbf, zbg, zbh, zbi, zbj, zbk, storeOp, storeCell, overlay, zbl, zbm, zbn, lookupOp, keyT, okRes, mapUpdateOp, zbo, zbp, zbq, zbr, zbs, zbt, zbu, Nat.reduceSub, Nat.reduceAdd, Int.reduceLT, Int.reduceLE, Int.reduceAdd, Int.reduceSub, Int.reduceToNat, Int.reduceBEq, Int.reduceBNe, Int.reduceMul, Nat.reduceBEq, Nat.reduceBNe, Nat.reduceLT, Nat.reduceLeDiff, Nat.reduceMul, Nat.reduceEqDiff, WD, effB, effH, isPriv, isHeap, isImm, zbx, zby, zbz, chkO, setD, dslot, zca, zcb, zcc, zcd, ptrCells_some, F47, h1, h2, h3, h4, hb]
              rw [h6, wpCall_eq (failR hR' 6 p)]
              simp only [WW, partV, eqCells, eqLf, minV, maxV, ifcV, zaa, zab, zac, zad, zae, zaf, zag, zah, zai, ofConst, ofConst1, List.replicate, zaj, zak, loadOp, Go.Abs.loadCells, binV, zal, pickV, zam, zan, zao, zap, zaq, zar, zas, zat, zau, outR, resAll, resOne, zav, zaw, zax, zay, zaz, zba, zbb, zbc, zbd, zbe, zbf, zbg, zbh, zbi, zbj, zbk, storeOp, storeCell, overlay, zbl, zbm, zbn, lookupOp, keyT, okRes, mapUpdateOp, zbo, zbp, zbq, zbr, zbs, zbt, zbu, Nat.reduceSub, Nat.reduceAdd, Int.reduceLT, Int.reduceLE, Int.reduceAdd, Int.reduceSub, Int.reduceToNat, Int.reduceBEq, Int.reduceBNe, Int.reduceMul, Nat.reduceBEq, Nat.reduceBNe, Nat.reduceLT, Nat.reduceLeDiff, Nat.reduceMul, Nat.reduceEqDiff, WD, effB, effH, isPriv, isHeap, isImm, zbx, zby, zbz, chkO, setD, dslot, zca, zcb, zcc, zcd, ptrCells_some, F47]
              simp only [Bool.true_and, Bool.and_true, Bool.or_true, Bool.true_or, Bool.or_self, Bool.and_self, Bool.false_and, Bool.false_or] at hnum
              rw [← hnum]
              exact ⟨rfl, hset _⟩
            | false =>
              simp only [WW, partV, eqCells, eqLf, minV, maxV, ifcV, zaa, zab, zac, zad, zae, zaf, zag, zah, zai, ofConst, ofConst1, List.replicate, zaj, zak, loadOp, Go.Abs.loadCells, binV, zal, pickV, zam, zan, zao, zap, zaq, zar, zas, zat, zau, outR, resAll, resOne, zav, zaw, zax, zay, zaz, zba, zbb, zbc, zbd, zbe, zbf, zbg, zbh, zbi, zbj, zbk, storeOp, storeCell, overlay, zbl, zbm, zbn, lookupOp, keyT, okRes, mapUpdateOp, zbo, zbp, zbq, zbr, zbs, zbt, zbu, Nat.reduceSub, Nat.reduceAdd, Int.reduceLT, Int.reduceLE, Int.reduceAdd, Int.reduceSub, Int.reduceToNat, Int.reduceBEq, Int.reduceBNe, Int.reduceMul, Nat.reduceBEq, Nat.reduceBNe, Nat.reduceLT, Nat.reduceLeDiff, Nat.reduceMul, Nat.reduceEqDiff, WD, effB, effH, isPriv, isHeap, isImm, zbx, zby, zbz, chkO, setD, dslot, zca, zcb, zcc, zcd, ptrCells_some, F47, h1, h2, h3, h4, convertOp, and127 c hc256, hb, hm7, hneg, htn, hcw, hsh, hor, if_neg hneg]
              simp only [WW, partV, eqCells, eqLf, minV, maxV, ifcV, zaa, zab, zac, zad, zae, zaf, zag, zah, zai, ofConst, ofConst1, List.replicate, zaj, zak, loadOp, Go.Abs.loadCells, binV, zal, pickV, zam, zan, zao, zap, zaq, zar, zas, zat, zau, outR, resAll, resOne, zav, zaw, zax, zay, zaz, zba, zbb, zbc, zbd, zbe, zbf, zbg, zbh, zbi, zbj, zbk, storeOp, storeCell, overlay, zbl, zbm, zbn, lookupOp, keyT, okRes, mapUpdateOp, zbo, zbp, zbq, zbr, zbs, zbt, zbu, Nat.reduceSub, Nat.reduceAdd, Int.reduceLT, Int.reduceLE, Int.reduceAdd, Int.reduceSub, Int.reduceToNat, Int.reduceBEq, Int.reduceBNe, Int.reduceMul, Nat.reduceBEq, Nat.reduceBNe, Nat.reduceLT, Nat.reduceLeDiff, Nat.reduceMul, Nat.reduceEqDiff, WD, effB, effH, isPriv, isHeap, isImm, zbx, zby, zbz, chkO, setD, dslot, zca, zcb, zcc, zcd, ptrCells_some, F47, hb, hb2, hp1, storeHeap, promote, heapSet, elemSet]
              simp only [Bool.false_and, Bool.and_false, Bool.or_self, Bool.false_or, Bool.or_false] at hnum
              refine cSplit (fun g9 => ?_) (fun g9 => ?_)
              · have hm : decide (c < 128) = true := decide_eq_true (by have := of_decide_eq_true g9; omega)
                rw [hm] at hnum
                simp only [g9]
                simp only [WW, partV, eqCells, eqLf, minV, maxV, ifcV, zaa, zab, zac, zad, zae, zaf, zag, zah, zai, ofConst, ofConst1, List.replicate, zaj, zak, loadOp, Go.Abs.loadCells, binV, zal, pickV, zam, zan, zao, zap, zaq, zar, zas, zat, zau, outR, resAll, resOne, zav, zaw, zax, zay, zaz, zba, zbb, zbc, zbd, zbe, zbf, zbg, zbh, zbi, zbj, zbk, storeOp, storeCell, overlay, zbl, zbm, zbn, lookupOp, keyT, okRes, mapUpdateOp, zbo, zbp, zbq, zbr, zbs, zbt, zbu, Nat.reduceSub, Nat.reduceAdd, Int.reduceLT, Int.reduceLE, Int.reduceAdd, Int.reduceSub, Int.reduceToNat, Int.reduceBEq, Int.reduceBNe, Int.reduceMul, Nat.reduceBEq, Nat.reduceBNe, Nat.reduceLT, Nat.reduceLeDiff, Nat.reduceMul, Nat.reduceEqDiff, WD, effB, effH, isPriv, isHeap, isImm, zbx, zby, zbz, chkO, setD, dslot, zca, zcb, zcc, zcd, ptrCells_some, F47]
                rw [← hnum]
                exact ⟨rfl, hset _⟩
              · have hm : decide (c < 128) = false := decide_eq_false (by have := of_decide_eq_false g9; omega)
                rw [hm] at hnum
                simp only [g9]
                simp only [WW, partV, eqCells, eqLf, minV, maxV, ifcV, zaa, zab, zac, zad, zae, zaf, zag, zah, zai, ofConst, ofConst1, List.replicate, zaj, zak, loadOp, Go.Abs.loadCells, binV, zal, pickV, zam, zan, zao, zap, zaq, zar, zas, zat, zau, outR, resAll, resOne, zav, zaw, zax, zay, zaz, zba, zbb, zbc, zbd, zbe, zbf, zbg, zbh, zbi, zbj, zbk, storeOp, storeCell, overlay, zbl, zbm, zbn, lookupOp, keyT, okRes, mapUpdateOp, zbo, zbp, zbq, zbr, zbs, zbt, zbu, Nat.reduceSub, Nat.reduceAdd, Int.reduceLT, Int.reduceLE, Int.reduceAdd, Int.reduceSub, Int.reduceToNat, Int.reduceBEq, Int.reduceBNe, Int.reduceMul, Nat.reduceBEq, Nat.reduceBNe, Nat.reduceLT, Nat.reduceLeDiff, Nat.reduceMul, Nat.reduceEqDiff, WD, effB, effH, isPriv, isHeap, isImm, zbx, zby, zbz, chkO, setD, dslot, zca, zcb, zcc, zcd, ptrCells_some, F47]
                have h8 : i ≤ 7 := by
                  have := of_decide_eq_false g9
                  by_cases hh : i = 8
                  · exfalso
                    have hq : badN i c = true := by rw [badN, hh, decide_eq_true (show 64 ≤ c by omega)]; simp
                    rw [hbad] at hq
                    simp at hq
                  · omega
                refine ⟨9 - (i + 1), by omega, i + 1, v + c % 128 * 2 ^ (7 * i), p + 1, ?_, ⟨rfl, by omega⟩, hR2, fun b => by rw [List.set_set]; exact hset b, hvv, ?_⟩
                · simp only [WN, firstReg, growAll, zbv, zbw, norm, killS, zag, zah, zaa, zab, zbl, zat, zad, growOne, zae, zaf, zac, zas, zak, Nat.reduceLT, Nat.reduceAdd, zbj, zav, F47]
                  rw [IntWalk.i64_in ((i : Int) + 1) (by omega)]; rfl
                · have e9' : 9 - (i + 1) = 8 - i := by omega
                  rw [e9']; exact hnum
end Go.Proofs.YtgjobbmbbedecaaDoor

/- The program's reader: numbers of either sign, how many; lists. -/
namespace Go.Proofs.YtgjobbmbbedecaaDoor
open Go Go.Abs Go.Proofs
set_option maxRecDepth 100000
set_option maxHeartbeats 4000000
set_option linter.unusedVariables false
set_option linter.unusedSimpArgs false
theorem numR {H : Hp} {w : Nat} {x : V} {L : List Nat} {s : S} (hR : Rr H w x L s) (hL : ∀ y ∈ L, y < 256) (hlen : L.length ≤ 5000000) :
    wpCall EW 47 [.ptr w 0 0] H (fun out H' => out = .ret (.int .i64 ((num L s).1 : Nat)) false ∧ Ff w H H' ∧ Rr H' w x L (num L s).2) := by
  have ho := num_ok hR.o
  obtain ⟨p, e⟩ := s
  cases e with
  | zero =>
    refine wpCall_of (number_at hR hL hlen) ?_
    rintro out H' ⟨rfl, rfl⟩
    exact ⟨rfl, Ff.set _, hR.to ho⟩
  | succ e1 =>
    rw [wpCall_eq (number_at0 hR)]
    exact ⟨rfl, Ff.refl, hR⟩
theorem sgnR {H : Hp} {w : Nat} {x : V} {L : List Nat} {s : S} (hR : Rr H w x L s) (hL : ∀ y ∈ L, y < 256) (hlen : L.length ≤ 5000000) :
    wpCall EW 72 [.ptr w 0 0] H (fun out H' => out = .ret (.int .i64 (sgn L s).1) false ∧ Ff w H H' ∧ Rr H' w x L (sgn L s).2) := by
  have hn := num_lt hL s
  refine runs f72 b72 r72 n72 _ _ ?_
  simp only [bodyOf, Tryd.f72, Option.getD_some]
  simp only [WW, partV, eqCells, eqLf, minV, maxV, ifcV, zaa, zab, zac, zad, zae, zaf, zag, zah, zai, ofConst, ofConst1, List.replicate, zaj, zak, loadOp, Go.Abs.loadCells, binV, zal, pickV, zam, zan, zao, zap, zaq, zar, zas, zat, zau, outR, resAll, resOne, zav, zaw, zax, zay, zaz, zba, zbb, zbc, zbd, zbe, zbf, zbg, zbh, zbi, zbj, zbk, storeOp, storeCell, overlay, zbl, zbm, zbn, lookupOp, keyT, okRes, mapUpdateOp, zbo, zbp, zbq, zbr, zbs, zbt, zbu, Nat.reduceSub, Nat.reduceAdd, Int.reduceLT, Int.reduceLE, Int.reduceAdd, Int.reduceSub, Int.reduceToNat, Int.reduceBEq, Int.reduceBNe, Int.reduceMul, Nat.reduceBEq, Nat.reduceBNe, Nat.reduceLT, Nat.reduceLeDiff, Nat.reduceMul, Nat.reduceEqDiff, WD, effB, effH, isPriv, isHeap, isImm, zbx, zby, zbz, chkO, setD, dslot, zca, zcb, zcc, zcd, ptrCells_some, F72]
  refine wpCall_of (numR hR hL hlen) ?_
  rintro out H' ⟨rfl, hf, hR'⟩
  unfold sgn
  generalize hq : (num L s).1 = n at *
  have hand : IntKind.i64.wrap ((BitVec.ofInt IntKind.i64.bits (n : Int) &&& BitVec.ofInt IntKind.i64.bits 1).toNat : Nat) = ((n % 2 : Nat) : Int) := by
    show IntKind.i64.wrap ((BitVec.ofInt 64 (n : Int) &&& BitVec.ofInt 64 1).toNat : Nat) = _
    rw [BitVec.toNat_and, BitVec.toNat_ofInt, BitVec.toNat_ofInt]
    have e1 : ((n : Int) % ((2 ^ 64 : Nat) : Int)).toNat = n := by rw [Int.emod_eq_of_lt (by omega) (by omega)]; simp
    have e2 : ((1 : Int) % ((2 ^ 64 : Nat) : Int)).toNat = 1 := by decide
    rw [e1, e2, Nat.and_one_is_mod]
    exact IntWalk.i64_in _ (by omega)
  have hshr : (n : Int).fdiv (2 ^ 1) = ((n / 2 : Nat) : Int) := by
    rw [Int.fdiv_eq_ediv_of_nonneg _ (by decide)]; norm_cast
  have hneg : IntKind.i64.wrap (0 - ((n / 2 : Nat) : Int)) = -((n / 2 : Nat) : Int) := by rw [IntWalk.i64_in _ (by omega)]; omega
  have hsub : IntKind.i64.wrap (-((n / 2 : Nat) : Int) - 1) = -((n / 2 : Nat) : Int) - 1 := IntWalk.i64_in _ (by omega)
  have h11 : ¬ ((1 : Int) < 0) := by decide
  have hmin : min 1 IntKind.i64.bits = 1 := rfl
  by_cases h2 : n % 2 = 1
  · have hu : unzz n = -((n / 2 : Nat) : Int) - 1 := by unfold unzz; rw [if_pos h2]
    have hb : (((n % 2 : Nat) : Int) == 1) = true := by rw [h2]; rfl
    simp only [WW, partV, eqCells, eqLf, minV, maxV, ifcV, zaa, zab, zac, zad, zae, zaf, zag, zah, zai, ofConst, ofConst1, List.replicate, zaj, zak, loadOp, Go.Abs.loadCells, binV, zal, pickV, zam, zan, zao, zap, zaq, zar, zas, zat, zau, outR, resAll, resOne, zav, zaw, zax, zay, zaz, zba, zbb, zbc, zbd, zbe, zbf, zbg, zbh, zbi, zbj, zbk, storeOp, storeCell, overlay, zbl, zbm, zbn, lookupOp, keyT, okRes, mapUpdateOp, zbo, zbp, zbq, zbr, zbs, zbt, zbu, Nat.reduceSub, Nat.reduceAdd, Int.reduceLT, Int.reduceLE, Int.reduceAdd, Int.reduceSub, Int.reduceToNat, Int.reduceBEq, Int.reduceBNe, Int.reduceMul, Nat.reduceBEq, Nat.reduceBNe, Nat.reduceLT, Nat.reduceLeDiff, Nat.reduceMul, Nat.reduceEqDiff, WD, effB, effH, isPriv, isHeap, isImm, zbx, zby, zbz, chkO, setD, dslot, zca, zcb, zcc, zcd, ptrCells_some, F72, hand, hb, h11, hmin, hshr, hneg, hsub]
    rw [hu]
    exact ⟨rfl, hf, hR'⟩
  · have hu : unzz n = ((n / 2 : Nat) : Int) := by unfold unzz; rw [if_neg h2]
    have hb : (((n % 2 : Nat) : Int) == 1) = false := by rw [beq_eq_false_iff_ne]; omega
    simp only [WW, partV, eqCells, eqLf, minV, maxV, ifcV, zaa, zab, zac, zad, zae, zaf, zag, zah, zai, ofConst, ofConst1, List.replicate, zaj, zak, loadOp, Go.Abs.loadCells, binV, zal, pickV, zam, zan, zao, zap, zaq, zar, zas, zat, zau, outR, resAll, resOne, zav, zaw, zax, zay, zaz, zba, zbb, zbc, zbd, zbe, zbf, zbg, zbh, zbi, zbj, zbk, storeOp, storeCell, overlay, zbl, zbm, zbn, lookupOp, keyT, okRes, mapUpdateOp, zbo, zbp, zbq, zbr, zbs, zbt, zbu, Nat.reduceSub, Nat.reduceAdd, Int.reduceLT, Int.reduceLE, Int.reduceAdd, Int.reduceSub, Int.reduceToNat, Int.reduceBEq, Int.reduceBNe, Int.reduceMul, Nat.reduceBEq, Nat.reduceBNe, Nat.reduceLT, Nat.reduceLeDiff, Nat.reduceMul, Nat.reduceEqDiff, WD, effB, effH, isPriv, isHeap, isImm, zbx, zby, zbz, chkO, setD, dslot, zca, zcb, zcc, zcd, ptrCells_some, F72, hand, hb, h11, hmin, hshr]
    rw [hu]
    exact ⟨rfl, hf, hR'⟩
theorem countR {H : Hp} {w : Nat} {x : V} {L : List Nat} {s : S} (hR : Rr H w x L s) (hL : ∀ y ∈ L, y < 256) (hlen : L.length ≤ 5000000) :
    wpCall EW 67 [.ptr w 0 0] H (fun out H' => out = .ret (.int .i64 ((count L s).1 : Nat)) false ∧ Ff w H H' ∧ Rr H' w x L (count L s).2) := by
  have hn := num_lt hL s
  have hb0 := hR.b
  simp only [rdr] at hb0
  have hs := hR.o
  refine runs f67 b67 r67 n67 _ _ ?_
  simp only [bodyOf, Tryd.f67, Option.getD_some]
  simp only [WW, partV, eqCells, eqLf, minV, maxV, ifcV, zaa, zab, zac, zad, zae, zaf, zag, zah, zai, ofConst, ofConst1, List.replicate, zaj, zak, loadOp, Go.Abs.loadCells, binV, zal, pickV, zam, zan, zao, zap, zaq, zar, zas, zat, zau, outR, resAll, resOne, zav, zaw, zax, zay, zaz, zba, zbb, zbc, zbd, zbe, zbf, zbg, zbh, zbi, zbj, zbk, storeOp, storeCell, overlay, zbl, zbm, zbn, lookupOp, keyT, okRes, mapUpdateOp, zbo, zbp, zbq, zbr, zbs, zbt, zbu, Nat.reduceSub, Nat.reduceAdd, Int.reduceLT, Int.reduceLE, Int.reduceAdd, Int.reduceSub, Int.reduceToNat, Int.reduceBEq, Int.reduceBNe, Int.reduceMul, Nat.reduceBEq, Nat.reduceBNe, Nat.reduceLT, Nat.reduceLeDiff, Nat.reduceMul, Nat.reduceEqDiff, WD, effB, effH, isPriv, isHeap, isImm, zbx, zby, zbz, chkO, setD, dslot, zca, zcb, zcc, zcd, ptrCells_some, F67, hb0]
  refine wpCall_of (numR hR hL hlen) ?_
  rintro out H' ⟨rfl, hf, hR'⟩
  unfold count
  have ho := hR'.o
  have hb := hR'.b
  simp only [rdr] at hb
  generalize num L s = r at *
  obtain ⟨n, q, e⟩ := r
  simp only at *
  have hx := hR'.rd
  have hql : q ≤ L.length := ho
  have hw1 : IntKind.i64.wrap (((bs L).length : Int) - (q : Int)) = (L.length : Int) - (q : Int) := by rw [bs_len]; exact IntWalk.i64_in _ (by omega)
  simp only [WW, partV, eqCells, eqLf, minV, maxV, ifcV, zaa, zab, zac, zad, zae, zaf, zag, zah, zai, ofConst, ofConst1, List.replicate, zaj, zak, loadOp, Go.Abs.loadCells, binV, zal, pickV, zam, zan, zao, zap, zaq, zar, zas, zat, zau, outR, resAll, resOne, zav, zaw, zax, zay, zaz, zba, zbb, zbc, zbd, zbe, zbf, zbg, zbh, zbi, zbj, zbk, storeOp, storeCell, overlay, zbl, zbm, zbn, lookupOp, keyT, okRes, mapUpdateOp, zbo, zbp, zbq, zbr, zbs, zbt, zbu, Nat.reduceSub, Nat.reduceAdd, Int.reduceLT, Int.reduceLE, Int.reduceAdd, Int.reduceSub, Int.reduceToNat, Int.reduceBEq, Int.reduceBNe, Int.reduceMul, Nat.reduceBEq, Nat.reduceBNe, Nat.reduceLT, Nat.reduceLeDiff, Nat.reduceMul, Nat.reduceEqDiff, WD, effB, effH, isPriv, isHeap, isImm, zbx, zby, zbz, chkO, setD, dslot, zca, zcb, zcc, zcd, ptrCells_some, F67]
  refine wC_dr alts67_3 (by kernel_rfl) ?_
  have hfail := failR hR' 3 s.at_
  have h3c : ((3 : Nat) : Int) = 3 := rfl
  rw [h3c] at hfail
  have hff := failS_ok (s := ⟨q, e⟩) (e := 3) (p := s.at_) hR'.o hs
  by_cases hd : L.length - q < n
  · have g : decide ((L.length : Int) - (q : Int) < (n : Int)) = true := decide_eq_true (by omega)
    have hc : countOf L s.at_ (n, ⟨q, e⟩) = (0, failS ⟨q, e⟩ 3 s.at_) := by simp only [countOf, decide_eq_true hd]
    simp only [WW, partV, eqCells, eqLf, minV, maxV, ifcV, zaa, zab, zac, zad, zae, zaf, zag, zah, zai, ofConst, ofConst1, List.replicate, zaj, zak, loadOp, Go.Abs.loadCells, binV, zal, pickV, zam, zan, zao, zap, zaq, zar, zas, zat, zau, outR, resAll, resOne, zav, zaw, zax, zay, zaz, zba, zbb, zbc, zbd, zbe, zbf, zbg, zbh, zbi, zbj, zbk, storeOp, storeCell, overlay, zbl, zbm, zbn, lookupOp, keyT, okRes, mapUpdateOp, zbo, zbp, zbq, zbr, zbs, zbt, zbu, Nat.reduceSub, Nat.reduceAdd, Int.reduceLT, Int.reduceLE, Int.reduceAdd, Int.reduceSub, Int.reduceToNat, Int.reduceBEq, Int.reduceBNe, Int.reduceMul, Nat.reduceBEq, Nat.reduceBNe, Nat.reduceLT, Nat.reduceLeDiff, Nat.reduceMul, Nat.reduceEqDiff, WD, effB, effH, isPriv, isHeap, isImm, zbx, zby, zbz, chkO, setD, dslot, zca, zcb, zcc, zcd, ptrCells_some, F67, hb, hx.shutIn, hx.len, hw1, g, alts67_3]
    rw [wpCall_eq hfail, hc]
    have hR2 := hR'.to hff
    have hb2 := hR2.b
    simp only [rdr] at hb2
    have hne : ((((failS ⟨q, e⟩ 3 s.at_).e : Nat) : Int) != 0) = true := by
      unfold failS
      cases e with
      | zero => rfl
      | succ e1 => simp only [bne_iff_ne, ne_eq]; omega
    simp only [WW, partV, eqCells, eqLf, minV, maxV, ifcV, zaa, zab, zac, zad, zae, zaf, zag, zah, zai, ofConst, ofConst1, List.replicate, zaj, zak, loadOp, Go.Abs.loadCells, binV, zal, pickV, zam, zan, zao, zap, zaq, zar, zas, zat, zau, outR, resAll, resOne, zav, zaw, zax, zay, zaz, zba, zbb, zbc, zbd, zbe, zbf, zbg, zbh, zbi, zbj, zbk, storeOp, storeCell, overlay, zbl, zbm, zbn, lookupOp, keyT, okRes, mapUpdateOp, zbo, zbp, zbq, zbr, zbs, zbt, zbu, Nat.reduceSub, Nat.reduceAdd, Int.reduceLT, Int.reduceLE, Int.reduceAdd, Int.reduceSub, Int.reduceToNat, Int.reduceBEq, Int.reduceBNe, Int.reduceMul, Nat.reduceBEq, Nat.reduceBNe, Nat.reduceLT, Nat.reduceLeDiff, Nat.reduceMul, Nat.reduceEqDiff, WD, effB, effH, isPriv, isHeap, isImm, zbx, zby, zbz, chkO, setD, dslot, zca, zcb, zcc, zcd, ptrCells_some, F67]
    have hb3 : (H'.set w (rdr x (failS ⟨q, e⟩ 3 s.at_)))[w]? = some (.cells [.agg [x, .int .i64 ((failS ⟨q, e⟩ 3 s.at_).at_ : Nat), .int .i64 ((failS ⟨q, e⟩ 3 s.at_).e : Nat)]]) := hR2.b
    simp only [WW, partV, eqCells, eqLf, minV, maxV, ifcV, zaa, zab, zac, zad, zae, zaf, zag, zah, zai, ofConst, ofConst1, List.replicate, zaj, zak, loadOp, Go.Abs.loadCells, binV, zal, pickV, zam, zan, zao, zap, zaq, zar, zas, zat, zau, outR, resAll, resOne, zav, zaw, zax, zay, zaz, zba, zbb, zbc, zbd, zbe, zbf, zbg, zbh, zbi, zbj, zbk, storeOp, storeCell, overlay, zbl, zbm, zbn, lookupOp, keyT, okRes, mapUpdateOp, zbo, zbp, zbq, zbr, zbs, zbt, zbu, Nat.reduceSub, Nat.reduceAdd, Int.reduceLT, Int.reduceLE, Int.reduceAdd, Int.reduceSub, Int.reduceToNat, Int.reduceBEq, Int.reduceBNe, Int.reduceMul, Nat.reduceBEq, Nat.reduceBNe, Nat.reduceLT, Nat.reduceLeDiff, Nat.reduceMul, Nat.reduceEqDiff, WD, effB, effH, isPriv, isHeap, isImm, zbx, zby, zbz, chkO, setD, dslot, zca, zcb, zcc, zcd, ptrCells_some, F67, hb3, hne]
    exact ⟨rfl, hf.trans (Ff.set _), hR2⟩
  · have g : decide ((L.length : Int) - (q : Int) < (n : Int)) = false := decide_eq_false (by omega)
    simp only [WW, partV, eqCells, eqLf, minV, maxV, ifcV, zaa, zab, zac, zad, zae, zaf, zag, zah, zai, ofConst, ofConst1, List.replicate, zaj, zak, loadOp, Go.Abs.loadCells, binV, zal, pickV, zam, zan, zao, zap, zaq, zar, zas, zat, zau, outR, resAll, resOne, zav, zaw, zax, zay, zaz, zba, zbb, zbc, zbd, zbe, zbf, zbg, zbh, zbi, zbj, zbk, storeOp, storeCell, overlay, zbl, zbm, zbn, lookupOp, keyT, okRes, mapUpdateOp, zbo, zbp, zbq, zbr, zbs, zbt, zbu, Nat.reduceSub, Nat.reduceAdd, Int.reduceLT, Int.reduceLE, Int.reduceAdd, Int.reduceSub, Int.reduceToNat, Int.reduceBEq, Int.reduceBNe, Int.reduceMul, Nat.reduceBEq, Nat.reduceBNe, Nat.reduceLT, Nat.reduceLeDiff, Nat.reduceMul, Nat.reduceEqDiff, WD, effB, effH, isPriv, isHeap, isImm, zbx, zby, zbz, chkO, setD, dslot, zca, zcb, zcc, zcd, ptrCells_some, F67, hb, hx.shutIn, hx.len, hw1, g, alts67_3]
    cases e with
    | zero =>
      have hc : countOf L s.at_ (n, ⟨q, 0⟩) = (n, ⟨q, 0⟩) := by simp only [countOf, decide_eq_false hd]
      rw [hc]
      have h01 : (((0 : Nat) : Int) != 0) = false := rfl
      simp only [WW, partV, eqCells, eqLf, minV, maxV, ifcV, zaa, zab, zac, zad, zae, zaf, zag, zah, zai, ofConst, ofConst1, List.replicate, zaj, zak, loadOp, Go.Abs.loadCells, binV, zal, pickV, zam, zan, zao, zap, zaq, zar, zas, zat, zau, outR, resAll, resOne, zav, zaw, zax, zay, zaz, zba, zbb, zbc, zbd, zbe, zbf, zbg, zbh, zbi, zbj, zbk, storeOp, storeCell, overlay, zbl, zbm, zbn, lookupOp, keyT, okRes, mapUpdateOp, zbo, zbp, zbq, zbr, zbs, zbt, zbu, Nat.reduceSub, Nat.reduceAdd, Int.reduceLT, Int.reduceLE, Int.reduceAdd, Int.reduceSub, Int.reduceToNat, Int.reduceBEq, Int.reduceBNe, Int.reduceMul, Nat.reduceBEq, Nat.reduceBNe, Nat.reduceLT, Nat.reduceLeDiff, Nat.reduceMul, Nat.reduceEqDiff, WD, effB, effH, isPriv, isHeap, isImm, zbx, zby, zbz, chkO, setD, dslot, zca, zcb, zcc, zcd, ptrCells_some, F67, h01, hb]
      exact ⟨hf, hR'⟩
    | succ e1 =>
      have hc : countOf L s.at_ (n, ⟨q, e1 + 1⟩) = (0, ⟨q, e1 + 1⟩) := by simp only [countOf, decide_eq_false hd]
      rw [hc]
      have h01 : (((e1 + 1 : Nat) : Int) != 0) = true := by simp only [bne_iff_ne, ne_eq]; omega
      simp only [WW, partV, eqCells, eqLf, minV, maxV, ifcV, zaa, zab, zac, zad, zae, zaf, zag, zah, zai, ofConst, ofConst1, List.replicate, zaj, zak, loadOp, Go.Abs.loadCells, binV, zal, pickV, zam, zan, zao, zap, zaq, zar, zas, zat, zau, outR, resAll, resOne, zav, zaw, zax, zay, zaz, zba, zbb, zbc, zbd, zbe, zbf, zbg, zbh, zbi, zbj, zbk, storeOp, storeCell, overlay, zbl, zbm, zbn, lookupOp, keyT, okRes, mapUpdateOp, zbo, zbp, zbq, zbr, zbs, zbt, zbu, Nat.reduceSub, Nat.reduceAdd, Int.reduceLT, Int.reduceLE, Int.reduceAdd, Int.reduceSub, Int.reduceToNat, Int.reduceBEq, Int.reduceBNe, Int.reduceMul, Nat.reduceBEq, Nat.reduceBNe, Nat.reduceLT, Nat.reduceLeDiff, Nat.reduceMul, Nat.reduceEqDiff, WD, effB, effH, isPriv, isHeap, isImm, zbx, zby, zbz, chkO, setD, dslot, zca, zcb, zcc, zcd, ptrCells_some, F67, h01, hb]
      exact ⟨rfl, hf, hR'⟩
/-- A list that a function makes anew -/
def Own (H : Hp) (n0 : Nat) (y : V) (l : List V) : Prop := (y = .nils ∧ l = []) ∨ ∃ s, y = .sl s 0 l.length ∧ n0 ≤ s ∧ H[s]? = some (.cells l) ∧ l ≠ []
theorem Own.shut {H : Hp} {n0 : Nat} {y : V} {l : List V} (h : Own H n0 y l) (st : St) : sealV st y = y := by
  rcases h with ⟨rfl, _⟩ | ⟨s, rfl, _⟩ <;> rfl
theorem Own.clip2 {H : Hp} {n0 : Nat} {y : V} {l : List V} (h : Own H n0 y l) (a b : Nat) : clip a b (.v y) = .v y := by
  rcases h with ⟨rfl, _⟩ | ⟨s, rfl, _⟩ <;> rfl
theorem Own.grows {H : Hp} {n0 : Nat} {y : V} {l : List V} (h : Own H n0 y l) (r : List LRow) : growsAs r (.v y) = false := by
  rcases h with ⟨rfl, _⟩ | ⟨s, rfl, _⟩ <;> rfl
theorem Own.mov {H H' : Hp} {n0 w : Nat} {y : V} {l : List V} (h : Own H n0 y l) (hw : w < n0) (hf : Ff w H H') : Own H' n0 y l := by
  rcases h with h | ⟨s, h1, h2, h3, h4⟩
  · exact .inl h
  · exact .inr ⟨s, h1, h2, by rw [hf.2 s (List.getElem?_eq_some_iff.1 h3).1 (by omega)]; exact h3, h4⟩
theorem own_app {e : TypeId} {sz : Nat} {H : Hp} {n0 : Nat} {y v : V} {l : List V} {d : Option Nat} (hsz : sizeT Tryd.prog e = sz) (hy : Own H n0 y l) (hn : n0 ≤ H.length) (hv : v.width = sz) (hl : wideAll l sz = true) (hel : elemOk Tryd.prog e (l.length + 1) = true) :
    ∃ y' H', (∀ st, appendOp Tryd.prog .heap st H d e y [v] = some (putS st d (.v y'), H')) ∧ Own H' n0 y' (l ++ [v]) ∧ H.length ≤ H'.length ∧ ∀ i, i < n0 → H'[i]? = H[i]? := by
  have hw1 : wideAll [v] sz = true := by simp [wideAll, hv]
  rcases hy with ⟨rfl, rfl⟩ | ⟨s, rfl, h2, h3, h4⟩
  · refine ⟨.sl H.length 0 1, H ++ [.cells [v]], fun st => ?_, .inr ⟨H.length, rfl, hn, by simp, by simp⟩, by simp, fun i hi => List.getElem?_append_left (by omega)⟩
    have hel : elemOk Tryd.prog e 1 = true := by simpa using hel
    simp [appendOp, hsz, hw1, newSl, hel]
  · have hsl := (List.getElem?_eq_some_iff.1 h3).1
    have he : l.isEmpty = false := by cases l <;> simp_all
    refine ⟨.sl H.length 0 (l.length + 1), H.set s .dead ++ [.cells (l ++ [v])], fun st => ?_, .inr ⟨H.length, by simp, by omega, by rw [List.getElem?_append_right (by simp)]; simp, by simp⟩, by simp, fun i hi => ?_⟩
    · simp [appendOp, hsz, hw1, h3, appendSl, hl, he, hel]
      omega
    · rw [List.getElem?_append_left (by simp; omega), List.getElem?_set_ne (by omega)]
/-- A list as a value that is written to no more -/
def repL (l : List V) : V := match l with | [] => .nils | a :: r => .rsl (a :: r)
theorem repL_rd (l : List V) : RdA (repL l) l := fun H => by
  cases l with
  | nil => exact .nils
  | cons a r => exact .rsl _
theorem repL_shut (l : List V) (st : St) : sealV st (repL l) = repL l := by cases l <;> rfl
theorem repL_cells (l : List V) : (repL l).cells = [repL l] := by cases l <;> rfl
theorem repL_ok (l : List V) : okV (repL l) = true := by cases l <;> rfl
theorem repL_width (l : List V) : (repL l).width = 1 := by cases l <;> rfl
theorem repL_clip (l : List V) (n : Nat) : clipV n (repL l) = repL l := by cases l <;> rfl
theorem repL_grows (l : List V) (r : List LRow) : growsAs r (.v (repL l)) = false := by cases l <;> rfl
theorem repL_prom (l : List V) (st : St) (H : Hp) : promote st H (repL l) = some (repL l, st, H) := by cases l <;> rfl
theorem own_seal {H : Hp} {n0 w : Nat} {y : V} {l : List V} (h : Own H n0 y l) (hw : w < n0) : ∃ H2, sealH .imm y H = (repL l, H2) ∧ H2.length = H.length ∧ H2[w]? = H[w]? ∧ ∀ i, i < n0 → H2[i]? = H[i]? := by
  rcases h with ⟨rfl, rfl⟩ | ⟨s, rfl, h2, h3, h4⟩
  · exact ⟨H, rfl, rfl, rfl, fun _ _ => rfl⟩
  · refine ⟨H.set s .dead, ?_, by simp, List.getElem?_set_ne (by omega), fun i hi => List.getElem?_set_ne (by omega)⟩
    rw [sealH_sl h3 rfl]
    cases l with
    | nil => exact absurd rfl h4
    | cons a r => rfl
/-- After a list was read and is written to no more -/
theorem own_done {H H' : Hp} {w : Nat} {x y : V} {L : List Nat} {s : S} {l : List V} (hf : Ff w H H') (hw : w < H.length) (hx : ∀ H', Ff w H H' → RdB H' x L) (hR : Rr H' w x L s) (h : Own H' H.length y l) :
    ∃ H2, sealH .imm y H' = (repL l, H2) ∧ Ff w H H2 ∧ Rr H2 w x L s := by
  obtain ⟨H2, h1, h2, h3, h4⟩ := own_seal h hw
  have hf2 : Ff w H H2 := ⟨by rw [h2]; exact hf.1, fun i hi hne => by rw [h4 i hi]; exact hf.2 i hi hne⟩
  exact ⟨H2, h1, hf2, ⟨h3.trans hR.b, fun H3 h => hx H3 (hf2.trans h), hR.o⟩⟩
theorem allR42 {α : Type} {H : Hp} {w : Nat} {x : V} {L : List Nat} {s : S} {fa : FuncId} {fb fc : List V} (f : S → α × S) (rep : α → V) (hrs : ∀ a st, sealV st (rep a) = rep a) (hro : ∀ a, okV (rep a) = true) (hrw : ∀ a, (rep a).width = 1) (hcf : callable Tryd.prog fa = true)
    (hR : Rr H w x L s) (hL : ∀ y ∈ L, y < 256) (hlen : L.length ≤ 5000000)
    (hE : ∀ (H1 : Hp) (s1 : S), Ff w H H1 → Rr H1 w x L s1 → wpCall EW fa (fb ++ fc) H1 (fun out H2 => out = .ret (rep (f s1).1) false ∧ Ff w H1 H2 ∧ Rr H2 w x L (f s1).2)) :
    wpCall EW 42 [.ptr w 0 0, .fn fa fb fc] H (fun out H' => ∃ y, out = .ret y false ∧ Ff w H H' ∧ Rr H' w x L (allS L f s).2 ∧ Own H' H.length y ((allS L f s).1.map rep)) := by
  have hcl := count_le hR.o
  have hwl := hR.lt
  refine runs f42 b42 r42 n42 _ _ ?_
  simp only [bodyOf, Tryd.f42, Option.getD_some]
  simp only [WW, partV, eqCells, eqLf, minV, maxV, ifcV, zaa, zab, zac, zad, zae, zaf, zag, zah, zai, ofConst, ofConst1, List.replicate, zaj, zak, loadOp, Go.Abs.loadCells, binV, zal, pickV, zam, zan, zao, zap, zaq, zar, zas, zat, zau, outR, resAll, resOne, zav, zaw, zax, zay, zaz, zba, zbb, zbc, zbd, zbe, zbf, zbg, zbh, zbi, zbj, zbk, storeOp, storeCell, overlay, zbl, zbm, zbn, lookupOp, keyT, okRes, mapUpdateOp, zbo, zbp, zbq, zbr, zbs, zbt, zbu, Nat.reduceSub, Nat.reduceAdd, Int.reduceLT, Int.reduceLE, Int.reduceAdd, Int.reduceSub, Int.reduceToNat, Int.reduceBEq, Int.reduceBNe, Int.reduceMul, Nat.reduceBEq, Nat.reduceBNe, Nat.reduceLT, Nat.reduceLeDiff, Nat.reduceMul, Nat.reduceEqDiff, WD, effB, effH, isPriv, isHeap, isImm, zbx, zby, zbz, chkO, setD, dslot, zca, zcb, zcc, zcd, ptrCells_some, F42]
  refine wpCall_of (countR hR hL hlen) ?_
  rintro out H0 ⟨rfl, hf0, hR0⟩
  simp only [WW, partV, eqCells, eqLf, minV, maxV, ifcV, zaa, zab, zac, zad, zae, zaf, zag, zah, zai, ofConst, ofConst1, List.replicate, zaj, zak, loadOp, Go.Abs.loadCells, binV, zal, pickV, zam, zan, zao, zap, zaq, zar, zas, zat, zau, outR, resAll, resOne, zav, zaw, zax, zay, zaz, zba, zbb, zbc, zbd, zbe, zbf, zbg, zbh, zbi, zbj, zbk, storeOp, storeCell, overlay, zbl, zbm, zbn, lookupOp, keyT, okRes, mapUpdateOp, zbo, zbp, zbq, zbr, zbs, zbt, zbu, Nat.reduceSub, Nat.reduceAdd, Int.reduceLT, Int.reduceLE, Int.reduceAdd, Int.reduceSub, Int.reduceToNat, Int.reduceBEq, Int.reduceBNe, Int.reduceMul, Nat.reduceBEq, Nat.reduceBNe, Nat.reduceLT, Nat.reduceLeDiff, Nat.reduceMul, Nat.reduceEqDiff, WD, effB, effH, isPriv, isHeap, isImm, zbx, zby, zbz, chkO, setD, dslot, zca, zcb, zcc, zcd, ptrCells_some, F42]
  refine wC_loop _ (fun k st' H' => ∃ (n : Nat) (s1 : S) (acc : List α) (y : V), st' = ⟨L42_3 (.v (.ptr w 0 0)) (.v (.fn fa fb fc)) (.v y) (.v (.int .i64 n)), [], []⟩ ∧ k = n ∧ Ff w H H' ∧ Rr H' w x L s1 ∧ Own H' H.length y (acc.map rep) ∧ acc ++ (allG f n s1).1 = (allS L f s).1 ∧ (allG f n s1).2 = (allS L f s).2 ∧ acc.length + n ≤ 5000000) (count L s).1 ⟨(count L s).1, (count L s).2, [], .nils, ?_, rfl, hf0, hR0, .inl ⟨rfl, rfl⟩, rfl, rfl, by simp only [List.length_nil]; omega⟩ ?_
  · simp only [WN, firstReg, growAll, zbv, zbw, norm, killS, zag, zah, zaa, zab, zbl, zat, zad, growOne, zae, zaf, zac, zas, zak, Nat.reduceLT, Nat.reduceAdd, zbj, zav, F42, L42_3]
  · rintro k st' H' ⟨n, s1, acc, y, rfl, rfl, hf, hR', hO, hl1, hl2, hle⟩
    simp only [L42_3]
    have hb := hR'.b
    simp only [rdr] at hb
    cases k with
    | zero =>
      have g0 : decide ((0 : Int) < ((0 : Nat) : Int)) = false := rfl
      simp only [allG, List.append_nil] at hl1 hl2
      simp only [WW, partV, eqCells, eqLf, minV, maxV, ifcV, zaa, zab, zac, zad, zae, zaf, zag, zah, zai, ofConst, ofConst1, List.replicate, zaj, zak, loadOp, Go.Abs.loadCells, binV, zal, pickV, zam, zan, zao, zap, zaq, zar, zas, zat, zau, outR, resAll, resOne, zav, zaw, zax, zay, zaz, zba, zbb, zbc, zbd, zbe, zbf, zbg, zbh, zbi, zbj, zbk, storeOp, storeCell, overlay, zbl, zbm, zbn, lookupOp, keyT, okRes, mapUpdateOp, zbo, zbp, zbq, zbr, zbs, zbt, zbu, Nat.reduceSub, Nat.reduceAdd, Int.reduceLT, Int.reduceLE, Int.reduceAdd, Int.reduceSub, Int.reduceToNat, Int.reduceBEq, Int.reduceBNe, Int.reduceMul, Nat.reduceBEq, Nat.reduceBNe, Nat.reduceLT, Nat.reduceLeDiff, Nat.reduceMul, Nat.reduceEqDiff, WD, effB, effH, isPriv, isHeap, isImm, zbx, zby, zbz, chkO, setD, dslot, zca, zcb, zcc, zcd, ptrCells_some, F42, g0, hO.shut, hO.grows]
      rw [← hl2, ← hl1]
      exact ⟨y, rfl, hf, hR', hO⟩
    | succ n =>
      have g1 : decide ((0 : Int) < ((n + 1 : Nat) : Int)) = true := decide_eq_true (by omega)
      cases he : s1.e with
      | succ e1 =>
        rw [he] at hb
        have g2 : (((e1 + 1 : Nat) : Int) == 0) = false := by rw [beq_eq_false_iff_ne]; omega
        simp only [allG, he, List.append_nil] at hl1 hl2
        simp only [WW, partV, eqCells, eqLf, minV, maxV, ifcV, zaa, zab, zac, zad, zae, zaf, zag, zah, zai, ofConst, ofConst1, List.replicate, zaj, zak, loadOp, Go.Abs.loadCells, binV, zal, pickV, zam, zan, zao, zap, zaq, zar, zas, zat, zau, outR, resAll, resOne, zav, zaw, zax, zay, zaz, zba, zbb, zbc, zbd, zbe, zbf, zbg, zbh, zbi, zbj, zbk, storeOp, storeCell, overlay, zbl, zbm, zbn, lookupOp, keyT, okRes, mapUpdateOp, zbo, zbp, zbq, zbr, zbs, zbt, zbu, Nat.reduceSub, Nat.reduceAdd, Int.reduceLT, Int.reduceLE, Int.reduceAdd, Int.reduceSub, Int.reduceToNat, Int.reduceBEq, Int.reduceBNe, Int.reduceMul, Nat.reduceBEq, Nat.reduceBNe, Nat.reduceLT, Nat.reduceLeDiff, Nat.reduceMul, Nat.reduceEqDiff, WD, effB, effH, isPriv, isHeap, isImm, zbx, zby, zbz, chkO, setD, dslot, zca, zcb, zcc, zcd, ptrCells_some, F42, g1, g2, hb, hO.shut, hO.grows]
        rw [← hl2, ← hl1]
        exact ⟨y, rfl, hf, hR', hO⟩
      | zero =>
        rw [he] at hb
        have g2 : (((0 : Nat) : Int) == 0) = true := rfl
        simp only [allG, he] at hl1 hl2
        simp only [WW, partV, eqCells, eqLf, minV, maxV, ifcV, zaa, zab, zac, zad, zae, zaf, zag, zah, zai, ofConst, ofConst1, List.replicate, zaj, zak, loadOp, Go.Abs.loadCells, binV, zal, pickV, zam, zan, zao, zap, zaq, zar, zas, zat, zau, outR, resAll, resOne, zav, zaw, zax, zay, zaz, zba, zbb, zbc, zbd, zbe, zbf, zbg, zbh, zbi, zbj, zbk, storeOp, storeCell, overlay, zbl, zbm, zbn, lookupOp, keyT, okRes, mapUpdateOp, zbo, zbp, zbq, zbr, zbs, zbt, zbu, Nat.reduceSub, Nat.reduceAdd, Int.reduceLT, Int.reduceLE, Int.reduceAdd, Int.reduceSub, Int.reduceToNat, Int.reduceBEq, Int.reduceBNe, Int.reduceMul, Nat.reduceBEq, Nat.reduceBNe, Nat.reduceLT, Nat.reduceLeDiff, Nat.reduceMul, Nat.reduceEqDiff, WD, effB, effH, isPriv, isHeap, isImm, zbx, zby, zbz, chkO, setD, dslot, zca, zcb, zcc, zcd, ptrCells_some, F42, g1, g2, hb]
        refine ⟨hcf, wpCall_of (hE H' s1 hf hR') ?_⟩
        rintro out H2 ⟨rfl, hf2, hR2⟩
        have hO2 := hO.mov hwl hf2
        have hwd : wideAll (acc.map rep) 1 = true := wide_mapN hrw acc
        obtain ⟨y3, H3, ha, hO3, hl3, hk3⟩ := own_app (d := some 24) (e := 9) (v := rep (f s1).1) size9 hO2 (by have := (hf.trans hf2).1; omega) (hrw _) hwd (by rw [room9, List.length_map]; simp; omega)
        have hrow : wideAll [rep (f s1).1] 1 = true := by simp [wideAll, hrw]
        have hrc : (rep (f s1).1).cells.length = 1 := hrw _
        have hsub : IntKind.i64.wrap (((n + 1 : Nat) : Int) - 1) = (n : Int) := by rw [IntWalk.i64_in _ (by omega)]; omega
        simp only [WW, partV, eqCells, eqLf, minV, maxV, ifcV, zaa, zab, zac, zad, zae, zaf, zag, zah, zai, ofConst, ofConst1, List.replicate, zaj, zak, loadOp, Go.Abs.loadCells, binV, zal, pickV, zam, zan, zao, zap, zaq, zar, zas, zat, zau, outR, resAll, resOne, zav, zaw, zax, zay, zaz, zba, zbb, zbc, zbd, zbe, zbf, zbg, zbh, zbi, zbj, zbk, storeOp, storeCell, overlay, zbl, zbm, zbn, lookupOp, keyT, okRes, mapUpdateOp, zbo, zbp, zbq, zbr, zbs, zbt, zbu, Nat.reduceSub, Nat.reduceAdd, Int.reduceLT, Int.reduceLE, Int.reduceAdd, Int.reduceSub, Int.reduceToNat, Int.reduceBEq, Int.reduceBNe, Int.reduceMul, Nat.reduceBEq, Nat.reduceBNe, Nat.reduceLT, Nat.reduceLeDiff, Nat.reduceMul, Nat.reduceEqDiff, WD, effB, effH, isPriv, isHeap, isImm, zbx, zby, zbz, chkO, setD, dslot, zca, zcb, zcc, zcd, ptrCells_some, F42, hrs, hro, hrw, hrc, buildSliceV, lits, srcV_eq, srcK_sl, srcK_str, srcSl_nils, srcSl_rsl, srcSl_sl, frow, zbv, zbw, List.all_nil, List.all_cons, rowV, Bool.false_and, Bool.and_false, ne_eq, not_false_eq_true, grows_lr, callOut_t, hO.shut, hO2.shut, ha, hsub]
        have hf3 : Ff w H H3 := ⟨by have := (hf.trans hf2).1; omega, fun i h1 h2 => by rw [hk3 i h1]; exact (hf.trans hf2).2 i h1 h2⟩
        refine ⟨n, by omega, n, (f s1).2, acc ++ [(f s1).1], y3, ?_, rfl, hf3, ?_, by rw [List.map_append]; exact hO3, by rw [List.append_assoc]; exact hl1, hl2, by simp; omega⟩
        · simp only [WN, firstReg, growAll, zbv, zbw, norm, killS, zag, zah, zaa, zab, zbl, zat, zad, growOne, zae, zaf, zac, zas, zak, Nat.reduceLT, Nat.reduceAdd, zbj, zav, F42, hO3.clip2, hsub]
          try rfl
        · exact ⟨by rw [hk3 w hwl]; exact hR2.b, fun H4 h4 => hR.r H4 (hf3.trans h4), hR2.o⟩
theorem allR44 {α : Type} {H : Hp} {w : Nat} {x : V} {L : List Nat} {s : S} {fa : FuncId} {fb fc : List V} (f : S → α × S) (rep : α → V) (hrs : ∀ a st, sealV st (rep a) = rep a) (hro : ∀ a, okV (rep a) = true) (hrw : ∀ a, (rep a).width = 1) (hcf : callable Tryd.prog fa = true)
    (hR : Rr H w x L s) (hL : ∀ y ∈ L, y < 256) (hlen : L.length ≤ 5000000)
    (hE : ∀ (H1 : Hp) (s1 : S), Ff w H H1 → Rr H1 w x L s1 → wpCall EW fa (fb ++ fc) H1 (fun out H2 => out = .ret (rep (f s1).1) false ∧ Ff w H1 H2 ∧ Rr H2 w x L (f s1).2)) :
    wpCall EW 44 [.ptr w 0 0, .fn fa fb fc] H (fun out H' => ∃ y, out = .ret y false ∧ Ff w H H' ∧ Rr H' w x L (allS L f s).2 ∧ Own H' H.length y ((allS L f s).1.map rep)) := by
  have hcl := count_le hR.o
  have hwl := hR.lt
  refine runs f44 b44 r44 n44 _ _ ?_
  simp only [bodyOf, Tryd.f44, Option.getD_some]
  simp only [WW, partV, eqCells, eqLf, minV, maxV, ifcV, zaa, zab, zac, zad, zae, zaf, zag, zah, zai, ofConst, ofConst1, List.replicate, zaj, zak, loadOp, Go.Abs.loadCells, binV, zal, pickV, zam, zan, zao, zap, zaq, zar, zas, zat, zau, outR, resAll, resOne, zav, zaw, zax, zay, zaz, zba, zbb, zbc, zbd, zbe, zbf, zbg, zbh, zbi, zbj, zbk, storeOp, storeCell, overlay, zbl, zbm, zbn, lookupOp, keyT, okRes, mapUpdateOp, zbo, zbp, zbq, zbr, zbs, zbt, zbu, Nat.reduceSub, Nat.reduceAdd, Int.reduceLT, Int.reduceLE, Int.reduceAdd, Int.reduceSub, Int.reduceToNat, Int.reduceBEq, Int.reduceBNe, Int.reduceMul, Nat.reduceBEq, Nat.reduceBNe, Nat.reduceLT, Nat.reduceLeDiff, Nat.reduceMul, Nat.reduceEqDiff, WD, effB, effH, isPriv, isHeap, isImm, zbx, zby, zbz, chkO, setD, dslot, zca, zcb, zcc, zcd, ptrCells_some, F44]
  refine wpCall_of (countR hR hL hlen) ?_
  rintro out H0 ⟨rfl, hf0, hR0⟩
  simp only [WW, partV, eqCells, eqLf, minV, maxV, ifcV, zaa, zab, zac, zad, zae, zaf, zag, zah, zai, ofConst, ofConst1, List.replicate, zaj, zak, loadOp, Go.Abs.loadCells, binV, zal, pickV, zam, zan, zao, zap, zaq, zar, zas, zat, zau, outR, resAll, resOne, zav, zaw, zax, zay, zaz, zba, zbb, zbc, zbd, zbe, zbf, zbg, zbh, zbi, zbj, zbk, storeOp, storeCell, overlay, zbl, zbm, zbn, lookupOp, keyT, okRes, mapUpdateOp, zbo, zbp, zbq, zbr, zbs, zbt, zbu, Nat.reduceSub, Nat.reduceAdd, Int.reduceLT, Int.reduceLE, Int.reduceAdd, Int.reduceSub, Int.reduceToNat, Int.reduceBEq, Int.reduceBNe, Int.reduceMul, Nat.reduceBEq, Nat.reduceBNe, Nat.reduceLT, Nat.reduceLeDiff, Nat.reduceMul, Nat.reduceEqDiff, WD, effB, effH, isPriv, isHeap, isImm, zbx, zby, zbz, chkO, setD, dslot, zca, zcb, zcc, zcd, ptrCells_some, F44]
  refine wC_loop _ (fun k st' H' => ∃ (n : Nat) (s1 : S) (acc : List α) (y : V), st' = ⟨L44_3 (.v (.ptr w 0 0)) (.v (.fn fa fb fc)) (.v y) (.v (.int .i64 n)), [], []⟩ ∧ k = n ∧ Ff w H H' ∧ Rr H' w x L s1 ∧ Own H' H.length y (acc.map rep) ∧ acc ++ (allG f n s1).1 = (allS L f s).1 ∧ (allG f n s1).2 = (allS L f s).2 ∧ acc.length + n ≤ 5000000) (count L s).1 ⟨(count L s).1, (count L s).2, [], .nils, ?_, rfl, hf0, hR0, .inl ⟨rfl, rfl⟩, rfl, rfl, by simp only [List.length_nil]; omega⟩ ?_
  · simp only [WN, firstReg, growAll, zbv, zbw, norm, killS, zag, zah, zaa, zab, zbl, zat, zad, growOne, zae, zaf, zac, zas, zak, Nat.reduceLT, Nat.reduceAdd, zbj, zav, F44, L44_3]
  · rintro k st' H' ⟨n, s1, acc, y, rfl, rfl, hf, hR', hO, hl1, hl2, hle⟩
    simp only [L44_3]
    have hb := hR'.b
    simp only [rdr] at hb
    cases k with
    | zero =>
      have g0 : decide ((0 : Int) < ((0 : Nat) : Int)) = false := rfl
      simp only [allG, List.append_nil] at hl1 hl2
      simp only [WW, partV, eqCells, eqLf, minV, maxV, ifcV, zaa, zab, zac, zad, zae, zaf, zag, zah, zai, ofConst, ofConst1, List.replicate, zaj, zak, loadOp, Go.Abs.loadCells, binV, zal, pickV, zam, zan, zao, zap, zaq, zar, zas, zat, zau, outR, resAll, resOne, zav, zaw, zax, zay, zaz, zba, zbb, zbc, zbd, zbe, zbf, zbg, zbh, zbi, zbj, zbk, storeOp, storeCell, overlay, zbl, zbm, zbn, lookupOp, keyT, okRes, mapUpdateOp, zbo, zbp, zbq, zbr, zbs, zbt, zbu, Nat.reduceSub, Nat.reduceAdd, Int.reduceLT, Int.reduceLE, Int.reduceAdd, Int.reduceSub, Int.reduceToNat, Int.reduceBEq, Int.reduceBNe, Int.reduceMul, Nat.reduceBEq, Nat.reduceBNe, Nat.reduceLT, Nat.reduceLeDiff, Nat.reduceMul, Nat.reduceEqDiff, WD, effB, effH, isPriv, isHeap, isImm, zbx, zby, zbz, chkO, setD, dslot, zca, zcb, zcc, zcd, ptrCells_some, F44, g0, hO.shut, hO.grows]
      rw [← hl2, ← hl1]
      exact ⟨y, rfl, hf, hR', hO⟩
    | succ n =>
      have g1 : decide ((0 : Int) < ((n + 1 : Nat) : Int)) = true := decide_eq_true (by omega)
      cases he : s1.e with
      | succ e1 =>
        rw [he] at hb
        have g2 : (((e1 + 1 : Nat) : Int) == 0) = false := by rw [beq_eq_false_iff_ne]; omega
        simp only [allG, he, List.append_nil] at hl1 hl2
        simp only [WW, partV, eqCells, eqLf, minV, maxV, ifcV, zaa, zab, zac, zad, zae, zaf, zag, zah, zai, ofConst, ofConst1, List.replicate, zaj, zak, loadOp, Go.Abs.loadCells, binV, zal, pickV, zam, zan, zao, zap, zaq, zar, zas, zat, zau, outR, resAll, resOne, zav, zaw, zax, zay, zaz, zba, zbb, zbc, zbd, zbe, zbf, zbg, zbh, zbi, zbj, zbk, storeOp, storeCell, overlay, zbl, zbm, zbn, lookupOp, keyT, okRes, mapUpdateOp, zbo, zbp, zbq, zbr, zbs, zbt, zbu, Nat.reduceSub, Nat.reduceAdd, Int.reduceLT, Int.reduceLE, Int.reduceAdd, Int.reduceSub, Int.reduceToNat, Int.reduceBEq, Int.reduceBNe, Int.reduceMul, Nat.reduceBEq, Nat.reduceBNe, Nat.reduceLT, Nat.reduceLeDiff, Nat.reduceMul, Nat.reduceEqDiff, WD, effB, effH, isPriv, isHeap, isImm, zbx, zby, zbz, chkO, setD, dslot, zca, zcb, zcc, zcd, ptrCells_some, F44, g1, g2, hb, hO.shut, hO.grows]
        rw [← hl2, ← hl1]
        exact ⟨y, rfl, hf, hR', hO⟩
      | zero =>
        rw [he] at hb
        have g2 : (((0 : Nat) : Int) == 0) = true := rfl
        simp only [allG, he] at hl1 hl2
        simp only [WW, partV, eqCells, eqLf, minV, maxV, ifcV, zaa, zab, zac, zad, zae, zaf, zag, zah, zai, ofConst, ofConst1, List.replicate, zaj, zak, loadOp, Go.Abs.loadCells, binV, zal, pickV, zam, zan, zao, zap, zaq, zar, zas, zat, zau, outR, resAll, resOne, zav, zaw, zax, zay, zaz, zba, zbb, zbc, zbd, zbe, zbf, zbg, zbh, zbi, zbj, zbk, storeOp, storeCell, overlay, zbl, zbm, zbn, lookupOp, keyT, okRes, mapUpdateOp, zbo, zbp, zbq, zbr, zbs, zbt, zbu, Nat.reduceSub, Nat.reduceAdd, Int.reduceLT, Int.reduceLE, Int.reduceAdd, Int.reduceSub, Int.reduceToNat, Int.reduceBEq, Int.reduceBNe, Int.reduceMul, Nat.reduceBEq, Nat.reduceBNe, Nat.reduceLT, Nat.reduceLeDiff, Nat.reduceMul, Nat.reduceEqDiff, WD, effB, effH, isPriv, isHeap, isImm, zbx, zby, zbz, chkO, setD, dslot, zca, zcb, zcc, zcd, ptrCells_some, F44, g1, g2, hb]
        refine ⟨hcf, wpCall_of (hE H' s1 hf hR') ?_⟩
        rintro out H2 ⟨rfl, hf2, hR2⟩
        have hO2 := hO.mov hwl hf2
        have hwd : wideAll (acc.map rep) 1 = true := wide_mapN hrw acc
        obtain ⟨y3, H3, ha, hO3, hl3, hk3⟩ := own_app (d := some 24) (e := 45) (v := rep (f s1).1) size45 hO2 (by have := (hf.trans hf2).1; omega) (hrw _) hwd (by rw [room45, List.length_map]; simp; omega)
        have hrow : wideAll [rep (f s1).1] 1 = true := by simp [wideAll, hrw]
        have hrc : (rep (f s1).1).cells.length = 1 := hrw _
        have hsub : IntKind.i64.wrap (((n + 1 : Nat) : Int) - 1) = (n : Int) := by rw [IntWalk.i64_in _ (by omega)]; omega
        simp only [WW, partV, eqCells, eqLf, minV, maxV, ifcV, zaa, zab, zac, zad, zae, zaf, zag, zah, zai, ofConst, ofConst1, List.replicate, zaj, zak, loadOp, Go.Abs.loadCells, binV, zal, pickV, zam, zan, zao, zap, zaq, zar, zas, zat, zau, outR, resAll, resOne, zav, zaw, zax, zay, zaz, zba, zbb, zbc, zbd, zbe, zbf, zbg, zbh, zbi, zbj, zbk, storeOp, storeCell, overlay, zbl, zbm, zbn, lookupOp, keyT, okRes, mapUpdateOp, zbo, zbp, zbq, zbr, zbs, zbt, zbu, Nat.reduceSub, Nat.reduceAdd, Int.reduceLT, Int.reduceLE, Int.reduceAdd, Int.reduceSub, Int.reduceToNat, Int.reduceBEq, Int.reduceBNe, Int.reduceMul, Nat.reduceBEq, Nat.reduceBNe, Nat.reduceLT, Nat.reduceLeDiff, Nat.reduceMul, Nat.reduceEqDiff, WD, effB, effH, isPriv, isHeap, isImm, zbx, zby, zbz, chkO, setD, dslot, zca, zcb, zcc, zcd, ptrCells_some, F44, hrs, hro, hrw, hrc, buildSliceV, lits, srcV_eq, srcK_sl, srcK_str, srcSl_nils, srcSl_rsl, srcSl_sl, frow, zbv, zbw, List.all_nil, List.all_cons, rowV, Bool.false_and, Bool.and_false, ne_eq, not_false_eq_true, grows_lr, callOut_t, hO.shut, hO2.shut, ha, hsub]
        have hf3 : Ff w H H3 := ⟨by have := (hf.trans hf2).1; omega, fun i h1 h2 => by rw [hk3 i h1]; exact (hf.trans hf2).2 i h1 h2⟩
        refine ⟨n, by omega, n, (f s1).2, acc ++ [(f s1).1], y3, ?_, rfl, hf3, ?_, by rw [List.map_append]; exact hO3, by rw [List.append_assoc]; exact hl1, hl2, by simp; omega⟩
        · simp only [WN, firstReg, growAll, zbv, zbw, norm, killS, zag, zah, zaa, zab, zbl, zat, zad, growOne, zae, zaf, zac, zas, zak, Nat.reduceLT, Nat.reduceAdd, zbj, zav, F44, hO3.clip2, hsub]
          try rfl
        · exact ⟨by rw [hk3 w hwl]; exact hR2.b, fun H4 h4 => hR.r H4 (hf3.trans h4), hR2.o⟩
theorem allR46 {α : Type} {H : Hp} {w : Nat} {x : V} {L : List Nat} {s : S} {fa : FuncId} {fb fc : List V} (f : S → α × S) (rep : α → V) (hrs : ∀ a st, sealV st (rep a) = rep a) (hro : ∀ a, okV (rep a) = true) (hrw : ∀ a, (rep a).width = 1) (hcf : callable Tryd.prog fa = true)
    (hR : Rr H w x L s) (hL : ∀ y ∈ L, y < 256) (hlen : L.length ≤ 5000000)
    (hE : ∀ (H1 : Hp) (s1 : S), Ff w H H1 → Rr H1 w x L s1 → wpCall EW fa (fb ++ fc) H1 (fun out H2 => out = .ret (rep (f s1).1) false ∧ Ff w H1 H2 ∧ Rr H2 w x L (f s1).2)) :
    wpCall EW 46 [.ptr w 0 0, .fn fa fb fc] H (fun out H' => ∃ y, out = .ret y false ∧ Ff w H H' ∧ Rr H' w x L (allS L f s).2 ∧ Own H' H.length y ((allS L f s).1.map rep)) := by
  have hcl := count_le hR.o
  have hwl := hR.lt
  refine runs f46 b46 r46 n46 _ _ ?_
  simp only [bodyOf, Tryd.f46, Option.getD_some]
  simp only [WW, partV, eqCells, eqLf, minV, maxV, ifcV, zaa, zab, zac, zad, zae, zaf, zag, zah, zai, ofConst, ofConst1, List.replicate, zaj, zak, loadOp, Go.Abs.loadCells, binV, zal, pickV, zam, zan, zao, zap, zaq, zar, zas, zat, zau, outR, resAll, resOne, zav, zaw, zax, zay, zaz, zba, zbb, zbc, zbd, zbe, zbf, zbg, zbh, zbi, zbj, zbk, storeOp, storeCell, overlay, zbl, zbm, zbn, lookupOp, keyT, okRes, mapUpdateOp, zbo, zbp, zbq, zbr, zbs, zbt, zbu, Nat.reduceSub, Nat.reduceAdd, Int.reduceLT, Int.reduceLE, Int.reduceAdd, Int.reduceSub, Int.reduceToNat, Int.reduceBEq, Int.reduceBNe, Int.reduceMul, Nat.reduceBEq, Nat.reduceBNe, Nat.reduceLT, Nat.reduceLeDiff, Nat.reduceMul, Nat.reduceEqDiff, WD, effB, effH, isPriv, isHeap, isImm, zbx, zby, zbz, chkO, setD, dslot, zca, zcb, zcc, zcd, ptrCells_some, F46]
  refine wpCall_of (countR hR hL hlen) ?_
  rintro out H0 ⟨rfl, hf0, hR0⟩
  simp only [WW, partV, eqCells, eqLf, minV, maxV, ifcV, zaa, zab, zac, zad, zae, zaf, zag, zah, zai, ofConst, ofConst1, List.replicate, zaj, zak, loadOp, Go.Abs.loadCells, binV, zal, pickV, zam, zan, zao, zap, zaq, zar, zas, zat, zau, outR, resAll, resOne, zav, zaw, zax, zay, zaz, zba, zbb, zbc, zbd, zbe, zbf, zbg, zbh, zbi, zbj, zbk, storeOp, storeCell, overlay, zbl, zbm, zbn, lookupOp, keyT, okRes, mapUpdateOp, zbo, zbp, zbq, zbr, zbs, zbt, zbu, Nat.reduceSub, Nat.reduceAdd, Int.reduceLT, Int.reduceLE, Int.reduceAdd, Int.reduceSub, Int.reduceToNat, Int.reduceBEq, Int.reduceBNe, Int.reduceMul, Nat.reduceBEq, Nat.reduceBNe, Nat.reduceLT, Nat.reduceLeDiff, Nat.reduceMul, Nat.reduceEqDiff, WD, effB, effH, isPriv, isHeap, isImm, zbx, zby, zbz, chkO, setD, dslot, zca, zcb, zcc, zcd, ptrCells_some, F46]
  refine wC_loop _ (fun k st' H' => ∃ (n : Nat) (s1 : S) (acc : List α) (y : V), st' = ⟨L46_3 (.v (.ptr w 0 0)) (.v (.fn fa fb fc)) (.v y) (.v (.int .i64 n)), [], []⟩ ∧ k = n ∧ Ff w H H' ∧ Rr H' w x L s1 ∧ Own H' H.length y (acc.map rep) ∧ acc ++ (allG f n s1).1 = (allS L f s).1 ∧ (allG f n s1).2 = (allS L f s).2 ∧ acc.length + n ≤ 5000000) (count L s).1 ⟨(count L s).1, (count L s).2, [], .nils, ?_, rfl, hf0, hR0, .inl ⟨rfl, rfl⟩, rfl, rfl, by simp only [List.length_nil]; omega⟩ ?_
  · simp only [WN, firstReg, growAll, zbv, zbw, norm, killS, zag, zah, zaa, zab, zbl, zat, zad, growOne, zae, zaf, zac, zas, zak, Nat.reduceLT, Nat.reduceAdd, zbj, zav, F46, L46_3]
  · rintro k st' H' ⟨n, s1, acc, y, rfl, rfl, hf, hR', hO, hl1, hl2, hle⟩
    simp only [L46_3]
    have hb := hR'.b
    simp only [rdr] at hb
    cases k with
    | zero =>
      have g0 : decide ((0 : Int) < ((0 : Nat) : Int)) = false := rfl
      simp only [allG, List.append_nil] at hl1 hl2
      simp only [WW, partV, eqCells, eqLf, minV, maxV, ifcV, zaa, zab, zac, zad, zae, zaf, zag, zah, zai, ofConst, ofConst1, List.replicate, zaj, zak, loadOp, Go.Abs.loadCells, binV, zal, pickV, zam, zan, zao, zap, zaq, zar, zas, zat, zau, outR, resAll, resOne, zav, zaw, zax, zay, zaz, zba, zbb, zbc, zbd, zbe, zbf, zbg, zbh, zbi, zbj, zbk, storeOp, storeCell, overlay, zbl, zbm, zbn, lookupOp, keyT, okRes, mapUpdateOp, zbo, zbp, zbq, zbr, zbs, zbt, zbu, Nat.reduceSub, Nat.reduceAdd, Int.reduceLT, Int.reduceLE, Int.reduceAdd, Int.reduceSub, Int.reduceToNat, Int.reduceBEq, Int.reduceBNe, Int.reduceMul, Nat.reduceBEq, Nat.reduceBNe, Nat.reduceLT, Nat.reduceLeDiff, Nat.reduceMul, Nat.reduceEqDiff, WD, effB, effH, isPriv, isHeap, isImm, zbx, zby, zbz, chkO, setD, dslot, zca, zcb, zcc, zcd, ptrCells_some, F46, g0, hO.shut, hO.grows]
      rw [← hl2, ← hl1]
      exact ⟨y, rfl, hf, hR', hO⟩
    | succ n =>
      have g1 : decide ((0 : Int) < ((n + 1 : Nat) : Int)) = true := decide_eq_true (by omega)
      cases he : s1.e with
      | succ e1 =>
        rw [he] at hb
        have g2 : (((e1 + 1 : Nat) : Int) == 0) = false := by rw [beq_eq_false_iff_ne]; omega
        simp only [allG, he, List.append_nil] at hl1 hl2
        simp only [WW, partV, eqCells, eqLf, minV, maxV, ifcV, zaa, zab, zac, zad, zae, zaf, zag, zah, zai, ofConst, ofConst1, List.replicate, zaj, zak, loadOp, Go.Abs.loadCells, binV, zal, pickV, zam, zan, zao, zap, zaq, zar, zas, zat, zau, outR, resAll, resOne, zav, zaw, zax, zay, zaz, zba, zbb, zbc, zbd, zbe, zbf, zbg, zbh, zbi, zbj, zbk, storeOp, storeCell, overlay, zbl, zbm, zbn, lookupOp, keyT, okRes, mapUpdateOp, zbo, zbp, zbq, zbr, zbs, zbt, zbu, Nat.reduceSub, Nat.reduceAdd, Int.reduceLT, Int.reduceLE, Int.reduceAdd, Int.reduceSub, Int.reduceToNat, Int.reduceBEq, Int.reduceBNe, Int.reduceMul, Nat.reduceBEq, Nat.reduceBNe, Nat.reduceLT, Nat.reduceLeDiff, Nat.reduceMul, Nat.reduceEqDiff, WD, effB, effH, isPriv, isHeap, isImm, zbx, zby, zbz, chkO, setD, dslot, zca, zcb, zcc, zcd, ptrCells_some, F46, g1, g2, hb, hO.shut, hO.grows]
        rw [← hl2, ← hl1]
        exact ⟨y, rfl, hf, hR', hO⟩
      | zero =>
        rw [he] at hb
        have g2 : (((0 : Nat) : Int) == 0) = true := rfl
        simp only [allG, he] at hl1 hl2
        simp only [WW, partV, eqCells, eqLf, minV, maxV, ifcV, zaa, zab, zac, zad, zae, zaf, zag, zah, zai, ofConst, ofConst1, List.replicate, zaj, zak, loadOp, Go.Abs.loadCells, binV, zal, pickV, zam, zan, zao, zap, zaq, zar, zas, zat, zau, outR, resAll, resOne, zav, zaw, zax, zay, zaz, zba, zbb, zbc, zbd, zbe, zbf, zbg, zbh, zbi, zbj, zbk, storeOp, storeCell, overlay, zbl, zbm, zbn, lookupOp, keyT, okRes, mapUpdateOp, zbo, zbp, zbq, zbr, zbs, zbt, zbu, Nat.reduceSub, Nat.reduceAdd, Int.reduceLT, Int.reduceLE, Int.reduceAdd, Int.reduceSub, Int.reduceToNat, Int.reduceBEq, Int.reduceBNe, Int.reduceMul, Nat.reduceBEq, Nat.reduceBNe, Nat.reduceLT, Nat.reduceLeDiff, Nat.reduceMul, Nat.reduceEqDiff, WD, effB, effH, isPriv, isHeap, isImm, zbx, zby, zbz, chkO, setD, dslot, zca, zcb, zcc, zcd, ptrCells_some, F46, g1, g2, hb]
        refine ⟨hcf, wpCall_of (hE H' s1 hf hR') ?_⟩
        rintro out H2 ⟨rfl, hf2, hR2⟩
        have hO2 := hO.mov hwl hf2
        have hwd : wideAll (acc.map rep) 1 = true := wide_mapN hrw acc
        obtain ⟨y3, H3, ha, hO3, hl3, hk3⟩ := own_app (d := some 24) (e := 3) (v := rep (f s1).1) size3 hO2 (by have := (hf.trans hf2).1; omega) (hrw _) hwd (by rw [room3, List.length_map]; simp; omega)
        have hrow : wideAll [rep (f s1).1] 1 = true := by simp [wideAll, hrw]
        have hrc : (rep (f s1).1).cells.length = 1 := hrw _
        have hsub : IntKind.i64.wrap (((n + 1 : Nat) : Int) - 1) = (n : Int) := by rw [IntWalk.i64_in _ (by omega)]; omega
        simp only [WW, partV, eqCells, eqLf, minV, maxV, ifcV, zaa, zab, zac, zad, zae, zaf, zag, zah, zai, ofConst, ofConst1, List.replicate, zaj, zak, loadOp, Go.Abs.loadCells, binV, zal, pickV, zam, zan, zao, zap, zaq, zar, zas, zat, zau, outR, resAll, resOne, zav, zaw, zax, zay, zaz, zba, zbb, zbc, zbd, zbe, zbf, zbg, zbh, zbi, zbj, zbk, storeOp, storeCell, overlay, zbl, zbm, zbn, lookupOp, keyT, okRes, mapUpdateOp, zbo, zbp, zbq, zbr, zbs, zbt, zbu, Nat.reduceSub, Nat.reduceAdd, Int.reduceLT, Int.reduceLE, Int.reduceAdd, Int.reduceSub, Int.reduceToNat, Int.reduceBEq, Int.reduceBNe, Int.reduceMul, Nat.reduceBEq, Nat.reduceBNe, Nat.reduceLT, Nat.reduceLeDiff, Nat.reduceMul, Nat.reduceEqDiff, WD, effB, effH, isPriv, isHeap, isImm, zbx, zby, zbz, chkO, setD, dslot, zca, zcb, zcc, zcd, ptrCells_some, F46, hrs, hro, hrw, hrc, buildSliceV, lits, srcV_eq, srcK_sl, srcK_str, srcSl_nils, srcSl_rsl, srcSl_sl, frow, zbv, zbw, List.all_nil, List.all_cons, rowV, Bool.false_and, Bool.and_false, ne_eq, not_false_eq_true, grows_lr, callOut_t, hO.shut, hO2.shut, ha, hsub]
        have hf3 : Ff w H H3 := ⟨by have := (hf.trans hf2).1; omega, fun i h1 h2 => by rw [hk3 i h1]; exact (hf.trans hf2).2 i h1 h2⟩
        refine ⟨n, by omega, n, (f s1).2, acc ++ [(f s1).1], y3, ?_, rfl, hf3, ?_, by rw [List.map_append]; exact hO3, by rw [List.append_assoc]; exact hl1, hl2, by simp; omega⟩
        · simp only [WN, firstReg, growAll, zbv, zbw, norm, killS, zag, zah, zaa, zab, zbl, zat, zad, growOne, zae, zaf, zac, zas, zak, Nat.reduceLT, Nat.reduceAdd, zbj, zav, F46, hO3.clip2, hsub]
          try rfl
        · exact ⟨by rw [hk3 w hwl]; exact hR2.b, fun H4 h4 => hR.r H4 (hf3.trans h4), hR2.o⟩
theorem allR48 {α : Type} {H : Hp} {w : Nat} {x : V} {L : List Nat} {s : S} {fa : FuncId} {fb fc : List V} (f : S → α × S) (rep : α → V) (hrs : ∀ a st, sealV st (rep a) = rep a) (hro : ∀ a, okV (rep a) = true) (hrw : ∀ a, (rep a).width = 6) (hcf : callable Tryd.prog fa = true)
    (hR : Rr H w x L s) (hL : ∀ y ∈ L, y < 256) (hlen : L.length ≤ 5000000)
    (hE : ∀ (H1 : Hp) (s1 : S), Ff w H H1 → Rr H1 w x L s1 → wpCall EW fa (fb ++ fc) H1 (fun out H2 => out = .ret (rep (f s1).1) false ∧ Ff w H1 H2 ∧ Rr H2 w x L (f s1).2)) :
    wpCall EW 48 [.ptr w 0 0, .fn fa fb fc] H (fun out H' => ∃ y, out = .ret y false ∧ Ff w H H' ∧ Rr H' w x L (allS L f s).2 ∧ Own H' H.length y ((allS L f s).1.map rep)) := by
  have hcl := count_le hR.o
  have hwl := hR.lt
  refine runs f48 b48 r48 n48 _ _ ?_
  simp only [bodyOf, Tryd.f48, Option.getD_some]
  simp only [WW, partV, eqCells, eqLf, minV, maxV, ifcV, zaa, zab, zac, zad, zae, zaf, zag, zah, zai, ofConst, ofConst1, List.replicate, zaj, zak, loadOp, Go.Abs.loadCells, binV, zal, pickV, zam, zan, zao, zap, zaq, zar, zas, zat, zau, outR, resAll, resOne, zav, zaw, zax, zay, zaz, zba, zbb, zbc, zbd, zbe, zbf, zbg, zbh, zbi, zbj, zbk, storeOp, storeCell, overlay, zbl, zbm, zbn, lookupOp, keyT, okRes, mapUpdateOp, zbo, zbp, zbq, zbr, zbs, zbt, zbu, Nat.reduceSub, Nat.reduceAdd, Int.reduceLT, Int.reduceLE, Int.reduceAdd, Int.reduceSub, Int.reduceToNat, Int.reduceBEq, Int.reduceBNe, Int.reduceMul, Nat.reduceBEq, Nat.reduceBNe, Nat.reduceLT, Nat.reduceLeDiff, Nat.reduceMul, Nat.reduceEqDiff, WD, effB, effH, isPriv, isHeap, isImm, zbx, zby, zbz, chkO, setD, dslot, zca, zcb, zcc, zcd, ptrCells_some, F48]
  refine wpCall_of (countR hR hL hlen) ?_
  rintro out H0 ⟨rfl, hf0, hR0⟩
  simp only [WW, partV, eqCells, eqLf, minV, maxV, ifcV, zaa, zab, zac, zad, zae, zaf, zag, zah, zai, ofConst, ofConst1, List.replicate, zaj, zak, loadOp, Go.Abs.loadCells, binV, zal, pickV, zam, zan, zao, zap, zaq, zar, zas, zat, zau, outR, resAll, resOne, zav, zaw, zax, zay, zaz, zba, zbb, zbc, zbd, zbe, zbf, zbg, zbh, zbi, zbj, zbk, storeOp, storeCell, overlay, zbl, zbm, zbn, lookupOp, keyT, okRes, mapUpdateOp, zbo, zbp, zbq, zbr, zbs, zbt, zbu, Nat.reduceSub, Nat.reduceAdd, Int.reduceLT, Int.reduceLE, Int.reduceAdd, Int.reduceSub, Int.reduceToNat, Int.reduceBEq, Int.reduceBNe, Int.reduceMul, Nat.reduceBEq, Nat.reduceBNe, Nat.reduceLT, Nat.reduceLeDiff, Nat.reduceMul, Nat.reduceEqDiff, WD, effB, effH, isPriv, isHeap, isImm, zbx, zby, zbz, chkO, setD, dslot, zca, zcb, zcc, zcd, ptrCells_some, F48]
  refine wC_loop _ (fun k st' H' => ∃ (n : Nat) (s1 : S) (acc : List α) (y : V), st' = ⟨L48_3 (.v (.ptr w 0 0)) (.v (.fn fa fb fc)) (.v y) (.v (.int .i64 n)), [], []⟩ ∧ k = n ∧ Ff w H H' ∧ Rr H' w x L s1 ∧ Own H' H.length y (acc.map rep) ∧ acc ++ (allG f n s1).1 = (allS L f s).1 ∧ (allG f n s1).2 = (allS L f s).2 ∧ acc.length + n ≤ 5000000) (count L s).1 ⟨(count L s).1, (count L s).2, [], .nils, ?_, rfl, hf0, hR0, .inl ⟨rfl, rfl⟩, rfl, rfl, by simp only [List.length_nil]; omega⟩ ?_
  · simp only [WN, firstReg, growAll, zbv, zbw, norm, killS, zag, zah, zaa, zab, zbl, zat, zad, growOne, zae, zaf, zac, zas, zak, Nat.reduceLT, Nat.reduceAdd, zbj, zav, F48, L48_3]
  · rintro k st' H' ⟨n, s1, acc, y, rfl, rfl, hf, hR', hO, hl1, hl2, hle⟩
    simp only [L48_3]
    have hb := hR'.b
    simp only [rdr] at hb
    cases k with
    | zero =>
      have g0 : decide ((0 : Int) < ((0 : Nat) : Int)) = false := rfl
      simp only [allG, List.append_nil] at hl1 hl2
      simp only [WW, partV, eqCells, eqLf, minV, maxV, ifcV, zaa, zab, zac, zad, zae, zaf, zag, zah, zai, ofConst, ofConst1, List.replicate, zaj, zak, loadOp, Go.Abs.loadCells, binV, zal, pickV, zam, zan, zao, zap, zaq, zar, zas, zat, zau, outR, resAll, resOne, zav, zaw, zax, zay, zaz, zba, zbb, zbc, zbd, zbe, zbf, zbg, zbh, zbi, zbj, zbk, storeOp, storeCell, overlay, zbl, zbm, zbn, lookupOp, keyT, okRes, mapUpdateOp, zbo, zbp, zbq, zbr, zbs, zbt, zbu, Nat.reduceSub, Nat.reduceAdd, Int.reduceLT, Int.reduceLE, Int.reduceAdd, Int.reduceSub, Int.reduceToNat, Int.reduceBEq, Int.reduceBNe, Int.reduceMul, Nat.reduceBEq, Nat.reduceBNe, Nat.reduceLT, Nat.reduceLeDiff, Nat.reduceMul, Nat.reduceEqDiff, WD, effB, effH, isPriv, isHeap, isImm, zbx, zby, zbz, chkO, setD, dslot, zca, zcb, zcc, zcd, ptrCells_some, F48, g0, hO.shut, hO.grows]
      rw [← hl2, ← hl1]
      exact ⟨y, rfl, hf, hR', hO⟩
    | succ n =>
      have g1 : decide ((0 : Int) < ((n + 1 : Nat) : Int)) = true := decide_eq_true (by omega)
      cases he : s1.e with
      | succ e1 =>
        rw [he] at hb
        have g2 : (((e1 + 1 : Nat) : Int) == 0) = false := by rw [beq_eq_false_iff_ne]; omega
        simp only [allG, he, List.append_nil] at hl1 hl2
        simp only [WW, partV, eqCells, eqLf, minV, maxV, ifcV, zaa, zab, zac, zad, zae, zaf, zag, zah, zai, ofConst, ofConst1, List.replicate, zaj, zak, loadOp, Go.Abs.loadCells, binV, zal, pickV, zam, zan, zao, zap, zaq, zar, zas, zat, zau, outR, resAll, resOne, zav, zaw, zax, zay, zaz, zba, zbb, zbc, zbd, zbe, zbf, zbg, zbh, zbi, zbj, zbk, storeOp, storeCell, overlay, zbl, zbm, zbn, lookupOp, keyT, okRes, mapUpdateOp, zbo, zbp, zbq, zbr, zbs, zbt, zbu, Nat.reduceSub, Nat.reduceAdd, Int.reduceLT, Int.reduceLE, Int.reduceAdd, Int.reduceSub, Int.reduceToNat, Int.reduceBEq, Int.reduceBNe, Int.reduceMul, Nat.reduceBEq, Nat.reduceBNe, Nat.reduceLT, Nat.reduceLeDiff, Nat.reduceMul, Nat.reduceEqDiff, WD, effB, effH, isPriv, isHeap, isImm, zbx, zby, zbz, chkO, setD, dslot, zca, zcb, zcc, zcd, ptrCells_some, F48, g1, g2, hb, hO.shut, hO.grows]
        rw [← hl2, ← hl1]
        exact ⟨y, rfl, hf, hR', hO⟩
      | zero =>
        rw [he] at hb
        have g2 : (((0 : Nat) : Int) == 0) = true := rfl
        simp only [allG, he] at hl1 hl2
        simp only [WW, partV, eqCells, eqLf, minV, maxV, ifcV, zaa, zab, zac, zad, zae, zaf, zag, zah, zai, ofConst, ofConst1, List.replicate, zaj, zak, loadOp, Go.Abs.loadCells, binV, zal, pickV, zam, zan, zao, zap, zaq, zar, zas, zat, zau, outR, resAll, resOne, zav, zaw, zax, zay, zaz, zba, zbb, zbc, zbd, zbe, zbf, zbg, zbh, zbi, zbj, zbk, storeOp, storeCell, overlay, zbl, zbm, zbn, lookupOp, keyT, okRes, mapUpdateOp, zbo, zbp, zbq, zbr, zbs, zbt, zbu, Nat.reduceSub, Nat.reduceAdd, Int.reduceLT, Int.reduceLE, Int.reduceAdd, Int.reduceSub, Int.reduceToNat, Int.reduceBEq, Int.reduceBNe, Int.reduceMul, Nat.reduceBEq, Nat.reduceBNe, Nat.reduceLT, Nat.reduceLeDiff, Nat.reduceMul, Nat.reduceEqDiff, WD, effB, effH, isPriv, isHeap, isImm, zbx, zby, zbz, chkO, setD, dslot, zca, zcb, zcc, zcd, ptrCells_some, F48, g1, g2, hb]
        refine ⟨hcf, wpCall_of (hE H' s1 hf hR') ?_⟩
        rintro out H2 ⟨rfl, hf2, hR2⟩
        have hO2 := hO.mov hwl hf2
        have hwd : wideAll (acc.map rep) 6 = true := wide_mapN hrw acc
        obtain ⟨y3, H3, ha, hO3, hl3, hk3⟩ := own_app (d := some 24) (e := 50) (v := rep (f s1).1) size50 hO2 (by have := (hf.trans hf2).1; omega) (hrw _) hwd (by rw [room50, List.length_map]; simp; omega)
        have hrow : wideAll [rep (f s1).1] 6 = true := by simp [wideAll, hrw]
        have hrc : (rep (f s1).1).cells.length = 6 := hrw _
        have hsub : IntKind.i64.wrap (((n + 1 : Nat) : Int) - 1) = (n : Int) := by rw [IntWalk.i64_in _ (by omega)]; omega
        simp only [WW, partV, eqCells, eqLf, minV, maxV, ifcV, zaa, zab, zac, zad, zae, zaf, zag, zah, zai, ofConst, ofConst1, List.replicate, zaj, zak, loadOp, Go.Abs.loadCells, binV, zal, pickV, zam, zan, zao, zap, zaq, zar, zas, zat, zau, outR, resAll, resOne, zav, zaw, zax, zay, zaz, zba, zbb, zbc, zbd, zbe, zbf, zbg, zbh, zbi, zbj, zbk, storeOp, storeCell, overlay, zbl, zbm, zbn, lookupOp, keyT, okRes, mapUpdateOp, zbo, zbp, zbq, zbr, zbs, zbt, zbu, Nat.reduceSub, Nat.reduceAdd, Int.reduceLT, Int.reduceLE, Int.reduceAdd, Int.reduceSub, Int.reduceToNat, Int.reduceBEq, Int.reduceBNe, Int.reduceMul, Nat.reduceBEq, Nat.reduceBNe, Nat.reduceLT, Nat.reduceLeDiff, Nat.reduceMul, Nat.reduceEqDiff, WD, effB, effH, isPriv, isHeap, isImm, zbx, zby, zbz, chkO, setD, dslot, zca, zcb, zcc, zcd, ptrCells_some, F48, hrs, hro, hrw, hrc, buildSliceV, lits, srcV_eq, srcK_sl, srcK_str, srcSl_nils, srcSl_rsl, srcSl_sl, frow, zbv, zbw, List.all_nil, List.all_cons, rowV, Bool.false_and, Bool.and_false, ne_eq, not_false_eq_true, grows_lr, callOut_t, hO.shut, hO2.shut, ha, hsub]
        have hf3 : Ff w H H3 := ⟨by have := (hf.trans hf2).1; omega, fun i h1 h2 => by rw [hk3 i h1]; exact (hf.trans hf2).2 i h1 h2⟩
        refine ⟨n, by omega, n, (f s1).2, acc ++ [(f s1).1], y3, ?_, rfl, hf3, ?_, by rw [List.map_append]; exact hO3, by rw [List.append_assoc]; exact hl1, hl2, by simp; omega⟩
        · simp only [WN, firstReg, growAll, zbv, zbw, norm, killS, zag, zah, zaa, zab, zbl, zat, zad, growOne, zae, zaf, zac, zas, zak, Nat.reduceLT, Nat.reduceAdd, zbj, zav, F48, hO3.clip2, hsub]
          try rfl
        · exact ⟨by rw [hk3 w hwl]; exact hR2.b, fun H4 h4 => hR.r H4 (hf3.trans h4), hR2.o⟩
theorem allR68 {α : Type} {H : Hp} {w : Nat} {x : V} {L : List Nat} {s : S} {fa : FuncId} {fb fc : List V} (f : S → α × S) (rep : α → V) (hrs : ∀ a st, sealV st (rep a) = rep a) (hro : ∀ a, okV (rep a) = true) (hrw : ∀ a, (rep a).width = 2) (hcf : callable Tryd.prog fa = true)
    (hR : Rr H w x L s) (hL : ∀ y ∈ L, y < 256) (hlen : L.length ≤ 5000000)
    (hE : ∀ (H1 : Hp) (s1 : S), Ff w H H1 → Rr H1 w x L s1 → wpCall EW fa (fb ++ fc) H1 (fun out H2 => out = .ret (rep (f s1).1) false ∧ Ff w H1 H2 ∧ Rr H2 w x L (f s1).2)) :
    wpCall EW 68 [.ptr w 0 0, .fn fa fb fc] H (fun out H' => ∃ y, out = .ret y false ∧ Ff w H H' ∧ Rr H' w x L (allS L f s).2 ∧ Own H' H.length y ((allS L f s).1.map rep)) := by
  have hcl := count_le hR.o
  have hwl := hR.lt
  refine runs f68 b68 r68 n68 _ _ ?_
  simp only [bodyOf, Tryd.f68, Option.getD_some]
  simp only [WW, partV, eqCells, eqLf, minV, maxV, ifcV, zaa, zab, zac, zad, zae, zaf, zag, zah, zai, ofConst, ofConst1, List.replicate, zaj, zak, loadOp, Go.Abs.loadCells, binV, zal, pickV, zam, zan, zao, zap, zaq, zar, zas, zat, zau, outR, resAll, resOne, zav, zaw, zax, zay, zaz, zba, zbb, zbc, zbd, zbe, zbf, zbg, zbh, zbi, zbj, zbk, storeOp, storeCell, overlay, zbl, zbm, zbn, lookupOp, keyT, okRes, mapUpdateOp, zbo, zbp, zbq, zbr, zbs, zbt, zbu, Nat.reduceSub, Nat.reduceAdd, Int.reduceLT, Int.reduceLE, Int.reduceAdd, Int.reduceSub, Int.reduceToNat, Int.reduceBEq, Int.reduceBNe, Int.reduceMul, Nat.reduceBEq, Nat.reduceBNe, Nat.reduceLT, Nat.reduceLeDiff, Nat.reduceMul, Nat.reduceEqDiff, WD, effB, effH, isPriv, isHeap, isImm, zbx, zby, zbz, chkO, setD, dslot, zca, zcb, zcc, zcd, ptrCells_some, F68]
  refine wpCall_of (countR hR hL hlen) ?_
  rintro out H0 ⟨rfl, hf0, hR0⟩
  simp only [WW, partV, eqCells, eqLf, minV, maxV, ifcV, zaa, zab, zac, zad, zae, zaf, zag, zah, zai, ofConst, ofConst1, List.replicate, zaj, zak, loadOp, Go.Abs.loadCells, binV, zal, pickV, zam, zan, zao, zap, zaq, zar, zas, zat, zau, outR, resAll, resOne, zav, zaw, zax, zay, zaz, zba, zbb, zbc, zbd, zbe, zbf, zbg, zbh, zbi, zbj, zbk, storeOp, storeCell, overlay, zbl, zbm, zbn, lookupOp, keyT, okRes, mapUpdateOp, zbo, zbp, zbq, zbr, zbs, zbt, zbu, Nat.reduceSub, Nat.reduceAdd, Int.reduceLT, Int.reduceLE, Int.reduceAdd, Int.reduceSub, Int.reduceToNat, Int.reduceBEq, Int.reduceBNe, Int.reduceMul, Nat.reduceBEq, Nat.reduceBNe, Nat.reduceLT, Nat.reduceLeDiff, Nat.reduceMul, Nat.reduceEqDiff, WD, effB, effH, isPriv, isHeap, isImm, zbx, zby, zbz, chkO, setD, dslot, zca, zcb, zcc, zcd, ptrCells_some, F68]
  refine wC_loop _ (fun k st' H' => ∃ (n : Nat) (s1 : S) (acc : List α) (y : V), st' = ⟨L68_3 (.v (.ptr w 0 0)) (.v (.fn fa fb fc)) (.v y) (.v (.int .i64 n)), [], []⟩ ∧ k = n ∧ Ff w H H' ∧ Rr H' w x L s1 ∧ Own H' H.length y (acc.map rep) ∧ acc ++ (allG f n s1).1 = (allS L f s).1 ∧ (allG f n s1).2 = (allS L f s).2 ∧ acc.length + n ≤ 5000000) (count L s).1 ⟨(count L s).1, (count L s).2, [], .nils, ?_, rfl, hf0, hR0, .inl ⟨rfl, rfl⟩, rfl, rfl, by simp only [List.length_nil]; omega⟩ ?_
  · simp only [WN, firstReg, growAll, zbv, zbw, norm, killS, zag, zah, zaa, zab, zbl, zat, zad, growOne, zae, zaf, zac, zas, zak, Nat.reduceLT, Nat.reduceAdd, zbj, zav, F68, L68_3]
  · rintro k st' H' ⟨n, s1, acc, y, rfl, rfl, hf, hR', hO, hl1, hl2, hle⟩
    simp only [L68_3]
    have hb := hR'.b
    simp only [rdr] at hb
    cases k with
    | zero =>
      have g0 : decide ((0 : Int) < ((0 : Nat) : Int)) = false := rfl
      simp only [allG, List.append_nil] at hl1 hl2
      simp only [WW, partV, eqCells, eqLf, minV, maxV, ifcV, zaa, zab, zac, zad, zae, zaf, zag, zah, zai, ofConst, ofConst1, List.replicate, zaj, zak, loadOp, Go.Abs.loadCells, binV, zal, pickV, zam, zan, zao, zap, zaq, zar, zas, zat, zau, outR, resAll, resOne, zav, zaw, zax, zay, zaz, zba, zbb, zbc, zbd, zbe, zbf, zbg, zbh, zbi, zbj, zbk, storeOp, storeCell, overlay, zbl, zbm, zbn, lookupOp, keyT, okRes, mapUpdateOp, zbo, zbp, zbq, zbr, zbs, zbt, zbu, Nat.reduceSub, Nat.reduceAdd, Int.reduceLT, Int.reduceLE, Int.reduceAdd, Int.reduceSub, Int.reduceToNat, Int.reduceBEq, Int.reduceBNe, Int.reduceMul, Nat.reduceBEq, Nat.reduceBNe, Nat.reduceLT, Nat.reduceLeDiff, Nat.reduceMul, Nat.reduceEqDiff, WD, effB, effH, isPriv, isHeap, isImm, zbx, zby, zbz, chkO, setD, dslot, zca, zcb, zcc, zcd, ptrCells_some, F68, g0, hO.shut, hO.grows]
      rw [← hl2, ← hl1]
      exact ⟨y, rfl, hf, hR', hO⟩
    | succ n =>
      have g1 : decide ((0 : Int) < ((n + 1 : Nat) : Int)) = true := decide_eq_true (by omega)
      cases he : s1.e with
      | succ e1 =>
        rw [he] at hb
        have g2 : (((e1 + 1 : Nat) : Int) == 0) = false := by rw [beq_eq_false_iff_ne]; omega
        simp only [allG, he, List.append_nil] at hl1 hl2
        simp only [WW, partV, eqCells, eqLf, minV, maxV, ifcV, zaa, zab, zac, zad, zae, zaf, zag, zah, zai, ofConst, ofConst1, List.replicate, zaj, zak, loadOp, Go.Abs.loadCells, binV, zal, pickV, zam, zan, zao, zap, zaq, zar, zas, zat, zau, outR, resAll, resOne, zav, zaw, zax, zay, zaz, zba, zbb, zbc, zbd, zbe, zbf, zbg, zbh, zbi, zbj, zbk, storeOp, storeCell, overlay, zbl, zbm, zbn, lookupOp, keyT, okRes, mapUpdateOp, zbo, zbp, zbq, zbr, zbs, zbt, zbu, Nat.reduceSub, Nat.reduceAdd, Int.reduceLT, Int.reduceLE, Int.reduceAdd, Int.reduceSub, Int.reduceToNat, Int.reduceBEq, Int.reduceBNe, Int.reduceMul, Nat.reduceBEq, Nat.reduceBNe, Nat.reduceLT, Nat.reduceLeDiff, Nat.reduceMul, Nat.reduceEqDiff, WD, effB, effH, isPriv, isHeap, isImm, zbx, zby, zbz, chkO, setD, dslot, zca, zcb, zcc, zcd, ptrCells_some, F68, g1, g2, hb, hO.shut, hO.grows]
        rw [← hl2, ← hl1]
        exact ⟨y, rfl, hf, hR', hO⟩
      | zero =>
        rw [he] at hb
        have g2 : (((0 : Nat) : Int) == 0) = true := rfl
        simp only [allG, he] at hl1 hl2
        simp only [WW, partV, eqCells, eqLf, minV, maxV, ifcV, zaa, zab, zac, zad, zae, zaf, zag, zah, zai, ofConst, ofConst1, List.replicate, zaj, zak, loadOp, Go.Abs.loadCells, binV, zal, pickV, zam, zan, zao, zap, zaq, zar, zas, zat, zau, outR, resAll, resOne, zav, zaw, zax, zay, zaz, zba, zbb, zbc, zbd, zbe, zbf, zbg, zbh, zbi, zbj, zbk, storeOp, storeCell, overlay, zbl, zbm, zbn, lookupOp, keyT, okRes, mapUpdateOp, zbo, zbp, zbq, zbr, zbs, zbt, zbu, Nat.reduceSub, Nat.reduceAdd, Int.reduceLT, Int.reduceLE, Int.reduceAdd, Int.reduceSub, Int.reduceToNat, Int.reduceBEq, Int.reduceBNe, Int.reduceMul, Nat.reduceBEq, Nat.reduceBNe, Nat.reduceLT, Nat.reduceLeDiff, Nat.reduceMul, Nat.reduceEqDiff, WD, effB, effH, isPriv, isHeap, isImm, zbx, zby, zbz, chkO, setD, dslot, zca, zcb, zcc, zcd, ptrCells_some, F68, g1, g2, hb]
        refine ⟨hcf, wpCall_of (hE H' s1 hf hR') ?_⟩
        rintro out H2 ⟨rfl, hf2, hR2⟩
        have hO2 := hO.mov hwl hf2
        have hwd : wideAll (acc.map rep) 2 = true := wide_mapN hrw acc
        obtain ⟨y3, H3, ha, hO3, hl3, hk3⟩ := own_app (d := some 24) (e := 105) (v := rep (f s1).1) size105 hO2 (by have := (hf.trans hf2).1; omega) (hrw _) hwd (by rw [room105, List.length_map]; simp; omega)
        have hrow : wideAll [rep (f s1).1] 2 = true := by simp [wideAll, hrw]
        have hrc : (rep (f s1).1).cells.length = 2 := hrw _
        have hsub : IntKind.i64.wrap (((n + 1 : Nat) : Int) - 1) = (n : Int) := by rw [IntWalk.i64_in _ (by omega)]; omega
        simp only [WW, partV, eqCells, eqLf, minV, maxV, ifcV, zaa, zab, zac, zad, zae, zaf, zag, zah, zai, ofConst, ofConst1, List.replicate, zaj, zak, loadOp, Go.Abs.loadCells, binV, zal, pickV, zam, zan, zao, zap, zaq, zar, zas, zat, zau, outR, resAll, resOne, zav, zaw, zax, zay, zaz, zba, zbb, zbc, zbd, zbe, zbf, zbg, zbh, zbi, zbj, zbk, storeOp, storeCell, overlay, zbl, zbm, zbn, lookupOp, keyT, okRes, mapUpdateOp, zbo, zbp, zbq, zbr, zbs, zbt, zbu, Nat.reduceSub, Nat.reduceAdd, Int.reduceLT, Int.reduceLE, Int.reduceAdd, Int.reduceSub, Int.reduceToNat, Int.reduceBEq, Int.reduceBNe, Int.reduceMul, Nat.reduceBEq, Nat.reduceBNe, Nat.reduceLT, Nat.reduceLeDiff, Nat.reduceMul, Nat.reduceEqDiff, WD, effB, effH, isPriv, isHeap, isImm, zbx, zby, zbz, chkO, setD, dslot, zca, zcb, zcc, zcd, ptrCells_some, F68, hrs, hro, hrw, hrc, buildSliceV, lits, srcV_eq, srcK_sl, srcK_str, srcSl_nils, srcSl_rsl, srcSl_sl, frow, zbv, zbw, List.all_nil, List.all_cons, rowV, Bool.false_and, Bool.and_false, ne_eq, not_false_eq_true, grows_lr, callOut_t, hO.shut, hO2.shut, ha, hsub]
        have hf3 : Ff w H H3 := ⟨by have := (hf.trans hf2).1; omega, fun i h1 h2 => by rw [hk3 i h1]; exact (hf.trans hf2).2 i h1 h2⟩
        refine ⟨n, by omega, n, (f s1).2, acc ++ [(f s1).1], y3, ?_, rfl, hf3, ?_, by rw [List.map_append]; exact hO3, by rw [List.append_assoc]; exact hl1, hl2, by simp; omega⟩
        · simp only [WN, firstReg, growAll, zbv, zbw, norm, killS, zag, zah, zaa, zab, zbl, zat, zad, growOne, zae, zaf, zac, zas, zak, Nat.reduceLT, Nat.reduceAdd, zbj, zav, F68, hO3.clip2, hsub]
          try rfl
        · exact ⟨by rw [hk3 w hwl]; exact hR2.b, fun H4 h4 => hR.r H4 (hf3.trans h4), hR2.o⟩
theorem allR70 {α : Type} {H : Hp} {w : Nat} {x : V} {L : List Nat} {s : S} {fa : FuncId} {fb fc : List V} (f : S → α × S) (rep : α → V) (hrs : ∀ a st, sealV st (rep a) = rep a) (hro : ∀ a, okV (rep a) = true) (hrw : ∀ a, (rep a).width = 3) (hcf : callable Tryd.prog fa = true)
    (hR : Rr H w x L s) (hL : ∀ y ∈ L, y < 256) (hlen : L.length ≤ 5000000)
    (hE : ∀ (H1 : Hp) (s1 : S), Ff w H H1 → Rr H1 w x L s1 → wpCall EW fa (fb ++ fc) H1 (fun out H2 => out = .ret (rep (f s1).1) false ∧ Ff w H1 H2 ∧ Rr H2 w x L (f s1).2)) :
    wpCall EW 70 [.ptr w 0 0, .fn fa fb fc] H (fun out H' => ∃ y, out = .ret y false ∧ Ff w H H' ∧ Rr H' w x L (allS L f s).2 ∧ Own H' H.length y ((allS L f s).1.map rep)) := by
  have hcl := count_le hR.o
  have hwl := hR.lt
  refine runs f70 b70 r70 n70 _ _ ?_
  simp only [bodyOf, Tryd.f70, Option.getD_some]
  simp only [WW, partV, eqCells, eqLf, minV, maxV, ifcV, zaa, zab, zac, zad, zae, zaf, zag, zah, zai, ofConst, ofConst1, List.replicate, zaj, zak, loadOp, Go.Abs.loadCells, binV, zal, pickV, zam, zan, zao, zap, zaq, zar, zas, zat, zau, outR, resAll, resOne, zav, zaw, zax, zay, zaz, zba, zbb, zbc, zbd, zbe, zbf, zbg, zbh, zbi, zbj, zbk, storeOp, storeCell, overlay, zbl, zbm, zbn, lookupOp, keyT, okRes, mapUpdateOp, zbo, zbp, zbq, zbr, zbs, zbt, zbu, Nat.reduceSub, Nat.reduceAdd, Int.reduceLT, Int.reduceLE, Int.reduceAdd, Int.reduceSub, Int.reduceToNat, Int.reduceBEq, Int.reduceBNe, Int.reduceMul, Nat.reduceBEq, Nat.reduceBNe, Nat.reduceLT, Nat.reduceLeDiff, Nat.reduceMul, Nat.reduceEqDiff, WD, effB, effH, isPriv, isHeap, isImm, zbx, zby, zbz, chkO, setD, dslot, zca, zcb, zcc, zcd, ptrCells_some, F70]
  refine wpCall_of (countR hR hL hlen) ?_
  rintro out H0 ⟨rfl, hf0, hR0⟩
  simp only [WW, partV, eqCells, eqLf, minV, maxV, ifcV, zaa, zab, zac, zad, zae, zaf, zag, zah, zai, ofConst, ofConst1, List.replicate, zaj, zak, loadOp, Go.Abs.loadCells, binV, zal, pickV, zam, zan, zao, zap, zaq, zar, zas, zat, zau, outR, resAll, resOne, zav, zaw, zax, zay, zaz, zba, zbb, zbc, zbd, zbe, zbf, zbg, zbh, zbi, zbj, zbk, storeOp, storeCell, overlay, zbl, zbm, zbn, lookupOp, keyT, okRes, mapUpdateOp, zbo, zbp, zbq, zbr, zbs, zbt, zbu, Nat.reduceSub, Nat.reduceAdd, Int.reduceLT, Int.reduceLE, Int.reduceAdd, Int.reduceSub, Int.reduceToNat, Int.reduceBEq, Int.reduceBNe, Int.reduceMul, Nat.reduceBEq, Nat.reduceBNe, Nat.reduceLT, Nat.reduceLeDiff, Nat.reduceMul, Nat.reduceEqDiff, WD, effB, effH, isPriv, isHeap, isImm, zbx, zby, zbz, chkO, setD, dslot, zca, zcb, zcc, zcd, ptrCells_some, F70]
  refine wC_loop _ (fun k st' H' => ∃ (n : Nat) (s1 : S) (acc : List α) (y : V), st' = ⟨L70_3 (.v (.ptr w 0 0)) (.v (.fn fa fb fc)) (.v y) (.v (.int .i64 n)), [], []⟩ ∧ k = n ∧ Ff w H H' ∧ Rr H' w x L s1 ∧ Own H' H.length y (acc.map rep) ∧ acc ++ (allG f n s1).1 = (allS L f s).1 ∧ (allG f n s1).2 = (allS L f s).2 ∧ acc.length + n ≤ 5000000) (count L s).1 ⟨(count L s).1, (count L s).2, [], .nils, ?_, rfl, hf0, hR0, .inl ⟨rfl, rfl⟩, rfl, rfl, by simp only [List.length_nil]; omega⟩ ?_
  · simp only [WN, firstReg, growAll, zbv, zbw, norm, killS, zag, zah, zaa, zab, zbl, zat, zad, growOne, zae, zaf, zac, zas, zak, Nat.reduceLT, Nat.reduceAdd, zbj, zav, F70, L70_3]
  · rintro k st' H' ⟨n, s1, acc, y, rfl, rfl, hf, hR', hO, hl1, hl2, hle⟩
    simp only [L70_3]
    have hb := hR'.b
    simp only [rdr] at hb
    cases k with
    | zero =>
      have g0 : decide ((0 : Int) < ((0 : Nat) : Int)) = false := rfl
      simp only [allG, List.append_nil] at hl1 hl2
      simp only [WW, partV, eqCells, eqLf, minV, maxV, ifcV, zaa, zab, zac, zad, zae, zaf, zag, zah, zai, ofConst, ofConst1, List.replicate, zaj, zak, loadOp, Go.Abs.loadCells, binV, zal, pickV, zam, zan, zao, zap, zaq, zar, zas, zat, zau, outR, resAll, resOne, zav, zaw, zax, zay, zaz, zba, zbb, zbc, zbd, zbe, zbf, zbg, zbh, zbi, zbj, zbk, storeOp, storeCell, overlay, zbl, zbm, zbn, lookupOp, keyT, okRes, mapUpdateOp, zbo, zbp, zbq, zbr, zbs, zbt, zbu, Nat.reduceSub, Nat.reduceAdd, Int.reduceLT, Int.reduceLE, Int.reduceAdd, Int.reduceSub, Int.reduceToNat, Int.reduceBEq, Int.reduceBNe, Int.reduceMul, Nat.reduceBEq, Nat.reduceBNe, Nat.reduceLT, Nat.reduceLeDiff, Nat.reduceMul, Nat.reduceEqDiff, WD, effB, effH, isPriv, isHeap, isImm, zbx, zby, zbz, chkO, setD, dslot, zca, zcb, zcc, zcd, ptrCells_some, F70, g0, hO.shut, hO.grows]
      rw [← hl2, ← hl1]
      exact ⟨y, rfl, hf, hR', hO⟩
    | succ n =>
      have g1 : decide ((0 : Int) < ((n + 1 : Nat) : Int)) = true := decide_eq_true (by omega)
      cases he : s1.e with
      | succ e1 =>
        rw [he] at hb
        have g2 : (((e1 + 1 : Nat) : Int) == 0) = false := by rw [beq_eq_false_iff_ne]; omega
        simp only [allG, he, List.append_nil] at hl1 hl2
        simp only [WW, partV, eqCells, eqLf, minV, maxV, ifcV, zaa, zab, zac, zad, zae, zaf, zag, zah, zai, ofConst, ofConst1, List.replicate, zaj, zak, loadOp, Go.Abs.loadCells, binV, zal, pickV, zam, zan, zao, zap, zaq, zar, zas, zat, zau, outR, resAll, resOne, zav, zaw, zax, zay, zaz, zba, zbb, zbc, zbd, zbe, zbf, zbg, zbh, zbi, zbj, zbk, storeOp, storeCell, overlay, zbl, zbm, zbn, lookupOp, keyT, okRes, mapUpdateOp, zbo, zbp, zbq, zbr, zbs, zbt, zbu, Nat.reduceSub, Nat.reduceAdd, Int.reduceLT, Int.reduceLE, Int.reduceAdd, Int.reduceSub, Int.reduceToNat, Int.reduceBEq, Int.reduceBNe, Int.reduceMul, Nat.reduceBEq, Nat.reduceBNe, Nat.reduceLT, Nat.reduceLeDiff, Nat.reduceMul, Nat.reduceEqDiff, WD, effB, effH, isPriv, isHeap, isImm, zbx, zby, zbz, chkO, setD, dslot, zca, zcb, zcc, zcd, ptrCells_some, F70, g1, g2, hb, hO.shut, hO.grows]
        rw [← hl2, ← hl1]
        exact ⟨y, rfl, hf, hR', hO⟩
      | zero =>
        rw [he] at hb
        have g2 : (((0 : Nat) : Int) == 0) = true := rfl
        simp only [allG, he] at hl1 hl2
        simp only [WW, partV, eqCells, eqLf, minV, maxV, ifcV, zaa, zab, zac, zad, zae, zaf, zag, zah, zai, ofConst, ofConst1, List.replicate, zaj, zak, loadOp, Go.Abs.loadCells, binV, zal, pickV, zam, zan, zao, zap, zaq, zar, zas, zat, zau, outR, resAll, resOne, zav, zaw, zax, zay, zaz, zba, zbb, zbc, zbd, zbe, zbf, zbg, zbh, zbi, zbj, zbk, storeOp, storeCell, overlay, zbl, zbm, zbn, lookupOp, keyT, okRes, mapUpdateOp, zbo, zbp, zbq, zbr, zbs, zbt, zbu, Nat.reduceSub, Nat.reduceAdd, Int.reduceLT, Int.reduceLE, Int.reduceAdd, Int.reduceSub, Int.reduceToNat, Int.reduceBEq, Int.reduceBNe, Int.reduceMul, Nat.reduceBEq, Nat.reduceBNe, Nat.reduceLT, Nat.reduceLeDiff, Nat.reduceMul, Nat.reduceEqDiff, WD, effB, effH, isPriv, isHeap, isImm, zbx, zby, zbz, chkO, setD, dslot, zca, zcb, zcc, zcd, ptrCells_some, F70, g1, g2, hb]
        refine ⟨hcf, wpCall_of (hE H' s1 hf hR') ?_⟩
        rintro out H2 ⟨rfl, hf2, hR2⟩
        have hO2 := hO.mov hwl hf2
        have hwd : wideAll (acc.map rep) 3 = true := wide_mapN hrw acc
        obtain ⟨y3, H3, ha, hO3, hl3, hk3⟩ := own_app (d := some 24) (e := 52) (v := rep (f s1).1) size52 hO2 (by have := (hf.trans hf2).1; omega) (hrw _) hwd (by rw [room52, List.length_map]; simp; omega)
        have hrow : wideAll [rep (f s1).1] 3 = true := by simp [wideAll, hrw]
        have hrc : (rep (f s1).1).cells.length = 3 := hrw _
        have hsub : IntKind.i64.wrap (((n + 1 : Nat) : Int) - 1) = (n : Int) := by rw [IntWalk.i64_in _ (by omega)]; omega
        simp only [WW, partV, eqCells, eqLf, minV, maxV, ifcV, zaa, zab, zac, zad, zae, zaf, zag, zah, zai, ofConst, ofConst1, List.replicate, zaj, zak, loadOp, Go.Abs.loadCells, binV, zal, pickV, zam, zan, zao, zap, zaq, zar, zas, zat, zau, outR, resAll, resOne, zav, zaw, zax, zay, zaz, zba, zbb, zbc, zbd, zbe, zbf, zbg, zbh, zbi, zbj, zbk, storeOp, storeCell, overlay, zbl, zbm, zbn, lookupOp, keyT, okRes, mapUpdateOp, zbo, zbp, zbq, zbr, zbs, zbt, zbu, Nat.reduceSub, Nat.reduceAdd, Int.reduceLT, Int.reduceLE, Int.reduceAdd, Int.reduceSub, Int.reduceToNat, Int.reduceBEq, Int.reduceBNe, Int.reduceMul, Nat.reduceBEq, Nat.reduceBNe, Nat.reduceLT, Nat.reduceLeDiff, Nat.reduceMul, Nat.reduceEqDiff, WD, effB, effH, isPriv, isHeap, isImm, zbx, zby, zbz, chkO, setD, dslot, zca, zcb, zcc, zcd, ptrCells_some, F70, hrs, hro, hrw, hrc, buildSliceV, lits, srcV_eq, srcK_sl, srcK_str, srcSl_nils, srcSl_rsl, srcSl_sl, frow, zbv, zbw, List.all_nil, List.all_cons, rowV, Bool.false_and, Bool.and_false, ne_eq, not_false_eq_true, grows_lr, callOut_t, hO.shut, hO2.shut, ha, hsub]
        have hf3 : Ff w H H3 := ⟨by have := (hf.trans hf2).1; omega, fun i h1 h2 => by rw [hk3 i h1]; exact (hf.trans hf2).2 i h1 h2⟩
        refine ⟨n, by omega, n, (f s1).2, acc ++ [(f s1).1], y3, ?_, rfl, hf3, ?_, by rw [List.map_append]; exact hO3, by rw [List.append_assoc]; exact hl1, hl2, by simp; omega⟩
        · simp only [WN, firstReg, growAll, zbv, zbw, norm, killS, zag, zah, zaa, zab, zbl, zat, zad, growOne, zae, zaf, zac, zas, zak, Nat.reduceLT, Nat.reduceAdd, zbj, zav, F70, hO3.clip2, hsub]
          try rfl
        · exact ⟨by rw [hk3 w hwl]; exact hR2.b, fun H4 h4 => hR.r H4 (hf3.trans h4), hR2.o⟩
theorem allR73 {α : Type} {H : Hp} {w : Nat} {x : V} {L : List Nat} {s : S} {fa : FuncId} {fb fc : List V} (f : S → α × S) (rep : α → V) (hrs : ∀ a st, sealV st (rep a) = rep a) (hro : ∀ a, okV (rep a) = true) (hrw : ∀ a, (rep a).width = 4) (hcf : callable Tryd.prog fa = true)
    (hR : Rr H w x L s) (hL : ∀ y ∈ L, y < 256) (hlen : L.length ≤ 5000000)
    (hE : ∀ (H1 : Hp) (s1 : S), Ff w H H1 → Rr H1 w x L s1 → wpCall EW fa (fb ++ fc) H1 (fun out H2 => out = .ret (rep (f s1).1) false ∧ Ff w H1 H2 ∧ Rr H2 w x L (f s1).2)) :
    wpCall EW 73 [.ptr w 0 0, .fn fa fb fc] H (fun out H' => ∃ y, out = .ret y false ∧ Ff w H H' ∧ Rr H' w x L (allS L f s).2 ∧ Own H' H.length y ((allS L f s).1.map rep)) := by
  have hcl := count_le hR.o
  have hwl := hR.lt
  refine runs f73 b73 r73 n73 _ _ ?_
  simp only [bodyOf, Tryd.f73, Option.getD_some]
  simp only [WW, partV, eqCells, eqLf, minV, maxV, ifcV, zaa, zab, zac, zad, zae, zaf, zag, zah, zai, ofConst, ofConst1, List.replicate, zaj, zak, loadOp, Go.Abs.loadCells, binV, zal, pickV, zam, zan, zao, zap, zaq, zar, zas, zat, zau, outR, resAll, resOne, zav, zaw, zax, zay, zaz, zba, zbb, zbc, zbd, zbe, zbf, zbg, zbh, zbi, zbj, zbk, storeOp, storeCell, overlay, zbl, zbm, zbn, lookupOp, keyT, okRes, mapUpdateOp, zbo, zbp, zbq, zbr, zbs, zbt, zbu, Nat.reduceSub, Nat.reduceAdd, Int.reduceLT, Int.reduceLE, Int.reduceAdd, Int.reduceSub, Int.reduceToNat, Int.reduceBEq, Int.reduceBNe, Int.reduceMul, Nat.reduceBEq, Nat.reduceBNe, Nat.reduceLT, Nat.reduceLeDiff, Nat.reduceMul, Nat.reduceEqDiff, WD, effB, effH, isPriv, isHeap, isImm, zbx, zby, zbz, chkO, setD, dslot, zca, zcb, zcc, zcd, ptrCells_some, F73]
  refine wpCall_of (countR hR hL hlen) ?_
  rintro out H0 ⟨rfl, hf0, hR0⟩
  simp only [WW, partV, eqCells, eqLf, minV, maxV, ifcV, zaa, zab, zac, zad, zae, zaf, zag, zah, zai, ofConst, ofConst1, List.replicate, zaj, zak, loadOp, Go.Abs.loadCells, binV, zal, pickV, zam, zan, zao, zap, zaq, zar, zas, zat, zau, outR, resAll, resOne, zav, zaw, zax, zay, zaz, zba, zbb, zbc, zbd, zbe, zbf, zbg, zbh, zbi, zbj, zbk, storeOp, storeCell, overlay, zbl, zbm, zbn, lookupOp, keyT, okRes, mapUpdateOp, zbo, zbp, zbq, zbr, zbs, zbt, zbu, Nat.reduceSub, Nat.reduceAdd, Int.reduceLT, Int.reduceLE, Int.reduceAdd, Int.reduceSub, Int.reduceToNat, Int.reduceBEq, Int.reduceBNe, Int.reduceMul, Nat.reduceBEq, Nat.reduceBNe, Nat.reduceLT, Nat.reduceLeDiff, Nat.reduceMul, Nat.reduceEqDiff, WD, effB, effH, isPriv, isHeap, isImm, zbx, zby, zbz, chkO, setD, dslot, zca, zcb, zcc, zcd, ptrCells_some, F73]
  refine wC_loop _ (fun k st' H' => ∃ (n : Nat) (s1 : S) (acc : List α) (y : V), st' = ⟨L73_3 (.v (.ptr w 0 0)) (.v (.fn fa fb fc)) (.v y) (.v (.int .i64 n)), [], []⟩ ∧ k = n ∧ Ff w H H' ∧ Rr H' w x L s1 ∧ Own H' H.length y (acc.map rep) ∧ acc ++ (allG f n s1).1 = (allS L f s).1 ∧ (allG f n s1).2 = (allS L f s).2 ∧ acc.length + n ≤ 5000000) (count L s).1 ⟨(count L s).1, (count L s).2, [], .nils, ?_, rfl, hf0, hR0, .inl ⟨rfl, rfl⟩, rfl, rfl, by simp only [List.length_nil]; omega⟩ ?_
  · simp only [WN, firstReg, growAll, zbv, zbw, norm, killS, zag, zah, zaa, zab, zbl, zat, zad, growOne, zae, zaf, zac, zas, zak, Nat.reduceLT, Nat.reduceAdd, zbj, zav, F73, L73_3]
  · rintro k st' H' ⟨n, s1, acc, y, rfl, rfl, hf, hR', hO, hl1, hl2, hle⟩
    simp only [L73_3]
    have hb := hR'.b
    simp only [rdr] at hb
    cases k with
    | zero =>
      have g0 : decide ((0 : Int) < ((0 : Nat) : Int)) = false := rfl
      simp only [allG, List.append_nil] at hl1 hl2
      simp only [WW, partV, eqCells, eqLf, minV, maxV, ifcV, zaa, zab, zac, zad, zae, zaf, zag, zah, zai, ofConst, ofConst1, List.replicate, zaj, zak, loadOp, Go.Abs.loadCells, binV, zal, pickV, zam, zan, zao, zap, zaq, zar, zas, zat, zau, outR, resAll, resOne, zav, zaw, zax, zay, zaz, zba, zbb, zbc, zbd, zbe, zbf, zbg, zbh, zbi, zbj, zbk, storeOp, storeCell, overlay, zbl, zbm, zbn, lookupOp, keyT, okRes, mapUpdateOp, zbo, zbp, zbq, zbr, zbs, zbt, zbu, Nat.reduceSub, Nat.reduceAdd, Int.reduceLT, Int.reduceLE, Int.reduceAdd, Int.reduceSub, Int.reduceToNat, Int.reduceBEq, Int.reduceBNe, Int.reduceMul, Nat.reduceBEq, Nat.reduceBNe, Nat.reduceLT, Nat.reduceLeDiff, Nat.reduceMul, Nat.reduceEqDiff, WD, effB, effH, isPriv, isHeap, isImm, zbx, zby, zbz, chkO, setD, dslot, zca, zcb, zcc, zcd, ptrCells_some, F73, g0, hO.shut, hO.grows]
      rw [← hl2, ← hl1]
      exact ⟨y, rfl, hf, hR', hO⟩
    | succ n =>
      have g1 : decide ((0 : Int) < ((n + 1 : Nat) : Int)) = true := decide_eq_true (by omega)
      cases he : s1.e with
      | succ e1 =>
        rw [he] at hb
        have g2 : (((e1 + 1 : Nat) : Int) == 0) = false := by rw [beq_eq_false_iff_ne]; omega
        simp only [allG, he, List.append_nil] at hl1 hl2
        simp only [WW, partV, eqCells, eqLf, minV, maxV, ifcV, zaa, zab, zac, zad, zae, zaf, zag, zah, zai, ofConst, ofConst1, List.replicate, zaj, zak, loadOp, Go.Abs.loadCells, binV, zal, pickV, zam, zan, zao, zap, zaq, zar, zas, zat, zau, outR, resAll, resOne, zav, zaw, zax, zay, zaz, zba, zbb, zbc, zbd, zbe, zbf, zbg, zbh, zbi, zbj, zbk, storeOp, storeCell, overlay, zbl, zbm, zbn, lookupOp, keyT, okRes, mapUpdateOp, zbo, zbp, zbq, zbr, zbs, zbt, zbu, Nat.reduceSub, Nat.reduceAdd, Int.reduceLT, Int.reduceLE, Int.reduceAdd, Int.reduceSub, Int.reduceToNat, Int.reduceBEq, Int.reduceBNe, Int.reduceMul, Nat.reduceBEq, Nat.reduceBNe, Nat.reduceLT, Nat.reduceLeDiff, Nat.reduceMul, Nat.reduceEqDiff, WD, effB, effH, isPriv, isHeap, isImm, zbx, zby, zbz, chkO, setD, dslot, zca, zcb, zcc, zcd, ptrCells_some, F73, g1, g2, hb, hO.shut, hO.grows]
        rw [← hl2, ← hl1]
        exact ⟨y, rfl, hf, hR', hO⟩
      | zero =>
        rw [he] at hb
        have g2 : (((0 : Nat) : Int) == 0) = true := rfl
        simp only [allG, he] at hl1 hl2
        simp only [WW, partV, eqCells, eqLf, minV, maxV, ifcV, zaa, zab, zac, zad, zae, zaf, zag, zah, zai, ofConst, ofConst1, List.replicate, zaj, zak, loadOp, Go.Abs.loadCells, binV, zal, pickV, zam, zan, zao, zap, zaq, zar, zas, zat, zau, outR, resAll, resOne, zav, zaw, zax, zay, zaz, zba, zbb, zbc, zbd, zbe, zbf, zbg, zbh, zbi, zbj, zbk, storeOp, storeCell, overlay, zbl, zbm, zbn, lookupOp, keyT, okRes, mapUpdateOp, zbo, zbp, zbq, zbr, zbs, zbt, zbu, Nat.reduceSub, Nat.reduceAdd, Int.reduceLT, Int.reduceLE, Int.reduceAdd, Int.reduceSub, Int.reduceToNat, Int.reduceBEq, Int.reduceBNe, Int.reduceMul, Nat.reduceBEq, Nat.reduceBNe, Nat.reduceLT, Nat.reduceLeDiff, Nat.reduceMul, Nat.reduceEqDiff, WD, effB, effH, isPriv, isHeap, isImm, zbx, zby, zbz, chkO, setD, dslot, zca, zcb, zcc, zcd, ptrCells_some, F73, g1, g2, hb]
        refine ⟨hcf, wpCall_of (hE H' s1 hf hR') ?_⟩
        rintro out H2 ⟨rfl, hf2, hR2⟩
        have hO2 := hO.mov hwl hf2
        have hwd : wideAll (acc.map rep) 4 = true := wide_mapN hrw acc
        obtain ⟨y3, H3, ha, hO3, hl3, hk3⟩ := own_app (d := some 24) (e := 107) (v := rep (f s1).1) size107 hO2 (by have := (hf.trans hf2).1; omega) (hrw _) hwd (by rw [room107, List.length_map]; simp; omega)
        have hrow : wideAll [rep (f s1).1] 4 = true := by simp [wideAll, hrw]
        have hrc : (rep (f s1).1).cells.length = 4 := hrw _
        have hsub : IntKind.i64.wrap (((n + 1 : Nat) : Int) - 1) = (n : Int) := by rw [IntWalk.i64_in _ (by omega)]; omega
        simp only [WW, partV, eqCells, eqLf, minV, maxV, ifcV, zaa, zab, zac, zad, zae, zaf, zag, zah, zai, ofConst, ofConst1, List.replicate, zaj, zak, loadOp, Go.Abs.loadCells, binV, zal, pickV, zam, zan, zao, zap, zaq, zar, zas, zat, zau, outR, resAll, resOne, zav, zaw, zax, zay, zaz, zba, zbb, zbc, zbd, zbe, zbf, zbg, zbh, zbi, zbj, zbk, storeOp, storeCell, overlay, zbl, zbm, zbn, lookupOp, keyT, okRes, mapUpdateOp, zbo, zbp, zbq, zbr, zbs, zbt, zbu, Nat.reduceSub, Nat.reduceAdd, Int.reduceLT, Int.reduceLE, Int.reduceAdd, Int.reduceSub, Int.reduceToNat, Int.reduceBEq, Int.reduceBNe, Int.reduceMul, Nat.reduceBEq, Nat.reduceBNe, Nat.reduceLT, Nat.reduceLeDiff, Nat.reduceMul, Nat.reduceEqDiff, WD, effB, effH, isPriv, isHeap, isImm, zbx, zby, zbz, chkO, setD, dslot, zca, zcb, zcc, zcd, ptrCells_some, F73, hrs, hro, hrw, hrc, buildSliceV, lits, srcV_eq, srcK_sl, srcK_str, srcSl_nils, srcSl_rsl, srcSl_sl, frow, zbv, zbw, List.all_nil, List.all_cons, rowV, Bool.false_and, Bool.and_false, ne_eq, not_false_eq_true, grows_lr, callOut_t, hO.shut, hO2.shut, ha, hsub]
        have hf3 : Ff w H H3 := ⟨by have := (hf.trans hf2).1; omega, fun i h1 h2 => by rw [hk3 i h1]; exact (hf.trans hf2).2 i h1 h2⟩
        refine ⟨n, by omega, n, (f s1).2, acc ++ [(f s1).1], y3, ?_, rfl, hf3, ?_, by rw [List.map_append]; exact hO3, by rw [List.append_assoc]; exact hl1, hl2, by simp; omega⟩
        · simp only [WN, firstReg, growAll, zbv, zbw, norm, killS, zag, zah, zaa, zab, zbl, zat, zad, growOne, zae, zaf, zac, zas, zak, Nat.reduceLT, Nat.reduceAdd, zbj, zav, F73, hO3.clip2, hsub]
          try rfl
        · exact ⟨by rw [hk3 w hwl]; exact hR2.b, fun H4 h4 => hR.r H4 (hf3.trans h4), hR2.o⟩
end Go.Proofs.YtgjobbmbbedecaaDoor

/- The document's reader: numbers. -/
namespace Go.Proofs.YtgjobbmbbedecaaDoor
open Go Go.Abs Go.Proofs
set_option maxRecDepth 100000
set_option maxHeartbeats 4000000
set_option linter.unusedVariables false
set_option linter.unusedSimpArgs false
theorem badD {H : Hp} {w : Nat} {x : V} {L : List Nat} {s : S} (h : Rr H w x L s) (e p : Nat) :
    EW 54 [.ptr w 0 0, .int .i64 (e : Nat), .int .i64 (p : Nat)] H = some (.ret (.tup []) false, H.set w (rdr x (failS s e p))) := by
  have hx := h.rd
  have hb := h.b
  have hl := h.lt
  have hsm := h.same
  obtain ⟨q, e0⟩ := s
  refine eqOf2 (runs f54 b54 r54 n54 _ _ ?_)
  simp only [bodyOf, Tryd.f54, Option.getD_some]
  simp only [rdr] at hb
  cases e0 with
  | zero =>
    have h3 : (((0 : Nat) : Int) == 0) = true := rfl
    have hb2 : (H.set w (.cells [.agg [x, .int .i64 (q : Nat), .int .i64 (e : Nat)]]))[w]? = some (.cells [.agg [x, .int .i64 (q : Nat), .int .i64 (e : Nat)]]) := List.getElem?_set_self hl
    simp only [WW, partV, eqCells, eqLf, minV, maxV, ifcV, zaa, zab, zac, zad, zae, zaf, zag, zah, zai, ofConst, ofConst1, List.replicate, zaj, zak, loadOp, Go.Abs.loadCells, binV, zal, pickV, zam, zan, zao, zap, zaq, zar, zas, zat, zau, outR, resAll, resOne, zav, zaw, zax, zay, zaz, zba, zbb, zbc, zbd, zbe, zbf, zbg, zbh, zbi, zbj, zbk, storeOp, storeCell, overlay, zbl, zbm, zbn, lookupOp, keyT, okRes, mapUpdateOp, zbo, zbp, zbq, zbr, zbs, zbt, zbu, Nat.reduceSub, Nat.reduceAdd, Int.reduceLT, Int.reduceLE, Int.reduceAdd, Int.reduceSub, Int.reduceToNat, Int.reduceBEq, Int.reduceBNe, Int.reduceMul, Nat.reduceBEq, Nat.reduceBNe, Nat.reduceLT, Nat.reduceLeDiff, Nat.reduceMul, Nat.reduceEqDiff, WD, effB, effH, isPriv, isHeap, isImm, zbx, zby, zbz, chkO, setD, dslot, zca, zcb, zcc, zcd, ptrCells_some, F54, hb, h3, storeHeap, promote, heapSet, elemSet, hb2, List.set_set]
    simp [failS, rdr]
  | succ e1 =>
    have h3 : (((e1 + 1 : Nat) : Int) == 0) = false := by rw [beq_eq_false_iff_ne]; omega
    simp only [WW, partV, eqCells, eqLf, minV, maxV, ifcV, zaa, zab, zac, zad, zae, zaf, zag, zah, zai, ofConst, ofConst1, List.replicate, zaj, zak, loadOp, Go.Abs.loadCells, binV, zal, pickV, zam, zan, zao, zap, zaq, zar, zas, zat, zau, outR, resAll, resOne, zav, zaw, zax, zay, zaz, zba, zbb, zbc, zbd, zbe, zbf, zbg, zbh, zbi, zbj, zbk, storeOp, storeCell, overlay, zbl, zbm, zbn, lookupOp, keyT, okRes, mapUpdateOp, zbo, zbp, zbq, zbr, zbs, zbt, zbu, Nat.reduceSub, Nat.reduceAdd, Int.reduceLT, Int.reduceLE, Int.reduceAdd, Int.reduceSub, Int.reduceToNat, Int.reduceBEq, Int.reduceBNe, Int.reduceMul, Nat.reduceBEq, Nat.reduceBNe, Nat.reduceLT, Nat.reduceLeDiff, Nat.reduceMul, Nat.reduceEqDiff, WD, effB, effH, isPriv, isHeap, isImm, zbx, zby, zbz, chkO, setD, dslot, zca, zcb, zcc, zcd, ptrCells_some, F54, hb, h3]
    simp only [failS]
    rw [hsm]
theorem dnumber_at0 {H : Hp} {w : Nat} {x : V} {L : List Nat} {p e1 : Nat} (hR : Rr H w x L ⟨p, e1 + 1⟩) :
    EW 52 [.ptr w 0 0] H = some (.ret (.int .i64 (0 : Nat)) false, H) := by
  have hb := hR.b
  simp only [rdr] at hb
  refine eqOf (runs f52 b52 r52 n52 _ _ ?_)
  simp only [bodyOf, Tryd.f52, Option.getD_some]
  simp only [WW, partV, eqCells, eqLf, minV, maxV, ifcV, zaa, zab, zac, zad, zae, zaf, zag, zah, zai, ofConst, ofConst1, List.replicate, zaj, zak, loadOp, Go.Abs.loadCells, binV, zal, pickV, zam, zan, zao, zap, zaq, zar, zas, zat, zau, outR, resAll, resOne, zav, zaw, zax, zay, zaz, zba, zbb, zbc, zbd, zbe, zbf, zbg, zbh, zbi, zbj, zbk, storeOp, storeCell, overlay, zbl, zbm, zbn, lookupOp, keyT, okRes, mapUpdateOp, zbo, zbp, zbq, zbr, zbs, zbt, zbu, Nat.reduceSub, Nat.reduceAdd, Int.reduceLT, Int.reduceLE, Int.reduceAdd, Int.reduceSub, Int.reduceToNat, Int.reduceBEq, Int.reduceBNe, Int.reduceMul, Nat.reduceBEq, Nat.reduceBNe, Nat.reduceLT, Nat.reduceLeDiff, Nat.reduceMul, Nat.reduceEqDiff, WD, effB, effH, isPriv, isHeap, isImm, zbx, zby, zbz, chkO, setD, dslot, zca, zcb, zcc, zcd, ptrCells_some, F52]
  have h3 : (((e1 + 1 : Nat) : Int) == 0) = false := by rw [beq_eq_false_iff_ne]; omega
  refine wC_loop _ (fun k st' H' => st' = ⟨L52_3 (.v (.ptr w 0 0)) (.v (.int .i64 0)) (.v (.int .i64 1)) (.v (.int .i64 0)), [], []⟩ ∧ H' = H) 0 ⟨?_, rfl⟩ ?_
  · simp only [WN, firstReg, growAll, zbv, zbw, norm, killS, zag, zah, zaa, zab, zbl, zat, zad, growOne, zae, zaf, zac, zas, zak, Nat.reduceLT, Nat.reduceAdd, zbj, zav, F52, L52_3]
  · rintro k st' H ⟨rfl, rfl⟩
    simp only [L52_3]
    simp only [WW, partV, eqCells, eqLf, minV, maxV, ifcV, zaa, zab, zac, zad, zae, zaf, zag, zah, zai, ofConst, ofConst1, List.replicate, zaj, zak, loadOp, Go.Abs.loadCells, binV, zal, pickV, zam, zan, zao, zap, zaq, zar, zas, zat, zau, outR, resAll, resOne, zav, zaw, zax, zay, zaz, zba, zbb, zbc, zbd, zbe, zbf, zbg, zbh, zbi, zbj, zbk, storeOp, storeCell, overlay, zbl, zbm, zbn, lookupOp, keyT, okRes, mapUpdateOp, zbo, zbp, zbq, zbr, zbs, zbt, zbu, Nat.reduceSub, Nat.reduceAdd, Int.reduceLT, Int.reduceLE, Int.reduceAdd, Int.reduceSub, Int.reduceToNat, Int.reduceBEq, Int.reduceBNe, Int.reduceMul, Nat.reduceBEq, Nat.reduceBNe, Nat.reduceLT, Nat.reduceLeDiff, Nat.reduceMul, Nat.reduceEqDiff, WD, effB, effH, isPriv, isHeap, isImm, zbx, zby, zbz, chkO, setD, dslot, zca, zcb, zcc, zcd, ptrCells_some, F52, hb, h3]
    rfl
theorem dnumber_at {H : Hp} {w : Nat} {x : V} {L : List Nat} {p0 : Nat} (hR : Rr H w x L ⟨p0, 0⟩) (hL : ∀ y ∈ L, y < 256) (hlen : L.length ≤ 5000000) :
    wpCall EW 52 [.ptr w 0 0] H (fun out H' => out = .ret (.int .i64 ((num L ⟨p0, 0⟩).1 : Nat)) false ∧ H' = H.set w (rdr x (num L ⟨p0, 0⟩).2)) := by
  refine runs f52 b52 r52 n52 _ _ ?_
  simp only [bodyOf, Tryd.f52, Option.getD_some]
  simp only [WW, partV, eqCells, eqLf, minV, maxV, ifcV, zaa, zab, zac, zad, zae, zaf, zag, zah, zai, ofConst, ofConst1, List.replicate, zaj, zak, loadOp, Go.Abs.loadCells, binV, zal, pickV, zam, zan, zao, zap, zaq, zar, zas, zat, zau, outR, resAll, resOne, zav, zaw, zax, zay, zaz, zba, zbb, zbc, zbd, zbe, zbf, zbg, zbh, zbi, zbj, zbk, storeOp, storeCell, overlay, zbl, zbm, zbn, lookupOp, keyT, okRes, mapUpdateOp, zbo, zbp, zbq, zbr, zbs, zbt, zbu, Nat.reduceSub, Nat.reduceAdd, Int.reduceLT, Int.reduceLE, Int.reduceAdd, Int.reduceSub, Int.reduceToNat, Int.reduceBEq, Int.reduceBNe, Int.reduceMul, Nat.reduceBEq, Nat.reduceBNe, Nat.reduceLT, Nat.reduceLeDiff, Nat.reduceMul, Nat.reduceEqDiff, WD, effB, effH, isPriv, isHeap, isImm, zbx, zby, zbz, chkO, setD, dslot, zca, zcb, zcc, zcd, ptrCells_some, F52]
  refine wC_loop _ (fun k st' H' => ∃ i v p : Nat, st' = ⟨L52_3 (.v (.ptr w 0 0)) (.v (.int .i64 v)) (.v (.int .i64 ((2 ^ (7 * i) : Nat) : Int))) (.v (.int .i64 i)), [], []⟩ ∧ (k = 9 - i ∧ i ≤ 8) ∧ Rr H' w x L ⟨p, 0⟩ ∧ (∀ b, H'.set w b = H.set w b) ∧ v < 2 ^ (7 * i) ∧ numG L (9 - i) i v p = num L ⟨p0, 0⟩) 9 ⟨0, 0, p0, ?_, ⟨rfl, by omega⟩, hR, fun _ => rfl, by simp, rfl⟩ ?_
  · simp only [WN, firstReg, growAll, zbv, zbw, norm, killS, zag, zah, zaa, zab, zbl, zat, zad, growOne, zae, zaf, zac, zas, zak, Nat.reduceLT, Nat.reduceAdd, zbj, zav, F52, L52_3]; rfl
  · rintro k st' H' ⟨i, v, p, rfl, ⟨rfl, hi8⟩, hR', hset, hv, hnum⟩
    simp only [L52_3]
    have hb := hR'.b
    simp only [rdr] at hb
    have hx := hR'.rd
    have hpl : p ≤ L.length := hR'.o
    have h00 : (((0 : Nat) : Int) == 0) = true := rfl
    simp only [WW, partV, eqCells, eqLf, minV, maxV, ifcV, zaa, zab, zac, zad, zae, zaf, zag, zah, zai, ofConst, ofConst1, List.replicate, zaj, zak, loadOp, Go.Abs.loadCells, binV, zal, pickV, zam, zan, zao, zap, zaq, zar, zas, zat, zau, outR, resAll, resOne, zav, zaw, zax, zay, zaz, zba, zbb, zbc, zbd, zbe, zbf, zbg, zbh, zbi, zbj, zbk, storeOp, storeCell, overlay, zbl, zbm, zbn, lookupOp, keyT, okRes, mapUpdateOp, zbo, zbp, zbq, zbr, zbs, zbt, zbu, Nat.reduceSub, Nat.reduceAdd, Int.reduceLT, Int.reduceLE, Int.reduceAdd, Int.reduceSub, Int.reduceToNat, Int.reduceBEq, Int.reduceBNe, Int.reduceMul, Nat.reduceBEq, Nat.reduceBNe, Nat.reduceLT, Nat.reduceLeDiff, Nat.reduceMul, Nat.reduceEqDiff, WD, effB, effH, isPriv, isHeap, isImm, zbx, zby, zbz, chkO, setD, dslot, zca, zcb, zcc, zcd, ptrCells_some, F52, hb, h00, hx.shutIn]
    refine wC_dr alts52_5 (by kernel_rfl) ?_
    have e9 : 9 - i = (8 - i) + 1 := by omega
    rw [e9, numG] at hnum
    have h6 : (6 : Int) = ((6 : Nat) : Int) := rfl
    cases hLp : L[p]? with
    | none =>
      rw [hLp] at hnum
      have hpe : p = L.length := by have := List.getElem?_eq_none_iff.1 hLp; omega
      have hne : decide (((bs L).length : Int) ≤ (p : Int)) = true := decide_eq_true (by rw [bs_len, hpe]; exact Int.le_refl _)
      have hple : ((bs L).length : Int) = (p : Int) := by rw [bs_len, hpe]
      simp only [WW, partV, eqCells, eqLf, minV, maxV, ifcV, zaa, zab, zac, zad, zae, zaf, zag, zah, zai, ofConst, ofConst1, List.replicate, zaj, zak, loadOp, Go.Abs.loadCells, binV, zal, pickV, zam, zan, zao, zap, zaq, zar, zas, zat, zau, outR, resAll, resOne, zav, zaw, zax, zay, zaz, zba, zbb, zbc, zbd, zbe, zbf, zbg, zbh, zbi, zbj, zbk, storeOp, storeCell, overlay, zbl, zbm, zbn, lookupOp, keyT, okRes, mapUpdateOp, zbo, zbp, zbq, zbr, zbs, zbt, zbu, Nat.reduceSub, Nat.reduceAdd, Int.reduceLT, Int.reduceLE, Int.reduceAdd, Int.reduceSub, Int.reduceToNat, Int.reduceBEq, Int.reduceBNe, Int.reduceMul, Nat.reduceBEq, Nat.reduceBNe, Nat.reduceLT, Nat.reduceLeDiff, Nat.reduceMul, Nat.reduceEqDiff, WD, effB, effH, isPriv, isHeap, isImm, zbx, zby, zbz, chkO, setD, dslot, zca, zcb, zcc, zcd, ptrCells_some, F52, hb, hx.shutIn, hx.len, hne, alts52_5]
      rw [h6, hple, wpCall_eq (badD hR' 6 p)]
      simp only [WW, partV, eqCells, eqLf, minV, maxV, ifcV, zaa, zab, zac, zad, zae, zaf, zag, zah, zai, ofConst, ofConst1, List.replicate, zaj, zak, loadOp, Go.Abs.loadCells, binV, zal, pickV, zam, zan, zao, zap, zaq, zar, zas, zat, zau, outR, resAll, resOne, zav, zaw, zax, zay, zaz, zba, zbb, zbc, zbd, zbe, zbf, zbg, zbh, zbi, zbj, zbk, storeOp, storeCell, overlay, zbl, zbm, zbn, lookupOp, keyT, okRes, mapUpdateOp, zbo, zbp, zbq, zbr, zbs, zbt, zbu, Nat.reduceSub, Nat.reduceAdd, Int.reduceLT, Int.reduceLE, Int.reduceAdd, Int.reduceSub, Int.reduceToNat, Int.reduceBEq, Int.reduceBNe, Int.reduceMul, Nat.reduceBEq, Nat.reduceBNe, Nat.reduceLT, Nat.reduceLeDiff, Nat.reduceMul, Nat.reduceEqDiff, WD, effB, effH, isPriv, isHeap, isImm, zbx, zby, zbz, chkO, setD, dslot, zca, zcb, zcc, zcd, ptrCells_some, F52]
      rw [← hnum]
      exact ⟨rfl, hset _⟩
    | some c =>
      rw [hLp] at hnum
      simp only at hnum
      have hlt : p < L.length := (List.getElem?_eq_some_iff.1 hLp).1
      have hc256 : c < 256 := hL c (List.mem_of_getElem? hLp)
      have hne : decide (((bs L).length : Int) ≤ (p : Int)) = false := decide_eq_false (by rw [bs_len]; omega)
      have hat := hx.at_ (sz := 1) (i := p) (e := .int .u8 (c : Nat)) (by simp [bs, hLp]) rfl
      have hcc : IntKind.i64.wrap ((c : Nat) : Int) = (c : Int) := IntWalk.i64_in _ (by omega)
      simp only [WW, partV, eqCells, eqLf, minV, maxV, ifcV, zaa, zab, zac, zad, zae, zaf, zag, zah, zai, ofConst, ofConst1, List.replicate, zaj, zak, loadOp, Go.Abs.loadCells, binV, zal, pickV, zam, zan, zao, zap, zaq, zar, zas, zat, zau, outR, resAll, resOne, zav, zaw, zax, zay, zaz, zba, zbb, zbc, zbd, zbe, zbf, zbg, zbh, zbi, zbj, zbk, storeOp, storeCell, overlay, zbl, zbm, zbn, lookupOp, keyT, okRes, mapUpdateOp, zbo, zbp, zbq, zbr, zbs, zbt, zbu, Nat.reduceSub, Nat.reduceAdd, Int.reduceLT, Int.reduceLE, Int.reduceAdd, Int.reduceSub, Int.reduceToNat, Int.reduceBEq, Int.reduceBNe, Int.reduceMul, Nat.reduceBEq, Nat.reduceBNe, Nat.reduceLT, Nat.reduceLeDiff, Nat.reduceMul, Nat.reduceEqDiff, WD, effB, effH, isPriv, isHeap, isImm, zbx, zby, zbz, chkO, setD, dslot, zca, zcb, zcc, zcd, ptrCells_some, F52, hb, hx.shutIn, hx.len, hne, alts52_5]
      refine wC_dr alts52_8 (by kernel_rfl) ?_
      simp only [WW, partV, eqCells, eqLf, minV, maxV, ifcV, zaa, zab, zac, zad, zae, zaf, zag, zah, zai, ofConst, ofConst1, List.replicate, zaj, zak, loadOp, Go.Abs.loadCells, binV, zal, pickV, zam, zan, zao, zap, zaq, zar, zas, zat, zau, outR, resAll, resOne, zav, zaw, zax, zay, zaz, zba, zbb, zbc, zbd, zbe, zbf, zbg, zbh, zbi, zbj, zbk, storeOp, storeCell, overlay, zbl, zbm, zbn, lookupOp, keyT, okRes, mapUpdateOp, zbo, zbp, zbq, zbr, zbs, zbt, zbu, Nat.reduceSub, Nat.reduceAdd, Int.reduceLT, Int.reduceLE, Int.reduceAdd, Int.reduceSub, Int.reduceToNat, Int.reduceBEq, Int.reduceBNe, Int.reduceMul, Nat.reduceBEq, Nat.reduceBNe, Nat.reduceLT, Nat.reduceLeDiff, Nat.reduceMul, Nat.reduceEqDiff, WD, effB, effH, isPriv, isHeap, isImm, zbx, zby, zbz, chkO, setD, dslot, zca, zcb, zcc, zcd, ptrCells_some, F52, hb, hx.shutIn, hat.at1 hx, hat.cells, convertOp, hcc, alts52_8]
      have h128 : ((128 : Int) = 0) = False := by simp
      have hmod : ((c : Nat) : Int).tmod 128 = ((c % 128 : Nat) : Int) := by rw [Int.tmod_eq_emod_of_nonneg (by omega)]; norm_cast
      have e7 : 2 ^ (7 * (i + 1)) = 2 ^ (7 * i) * 128 := by rw [Nat.mul_add, Nat.pow_add]
      have hmq : c % 128 * 2 ^ (7 * i) ≤ 127 * 2 ^ (7 * i) := Nat.mul_le_mul_right _ (by omega)
      have e8 : (2 : Nat) ^ (7 * 8) = 72057594037927936 := by decide
      have hp8 : 2 ^ (7 * i) ≤ 2 ^ (7 * 8) := Nat.pow_le_pow_right (by decide) (by omega)
      have hsh : IntKind.i64.wrap (((c % 128 : Nat) : Int) * ((2 ^ (7 * i) : Nat) : Int)) = ((c % 128 * 2 ^ (7 * i) : Nat) : Int) := by
        rw [show (((c % 128 : Nat) : Int) * ((2 ^ (7 * i) : Nat) : Int)) = ((c % 128 * 2 ^ (7 * i) : Nat) : Int) by rw [Int.natCast_mul]]
        exact IntWalk.i64_in _ (by omega)
      have hor : IntKind.i64.wrap ((v : Int) + ((c % 128 * 2 ^ (7 * i) : Nat) : Int)) = ((v + c % 128 * 2 ^ (7 * i) : Nat) : Int) := by rw [IntWalk.i64_in _ (by omega)]; omega
      have hp1 : IntKind.i64.wrap ((p : Int) + 1) = ((p + 1 : Nat) : Int) := by rw [IntWalk.i64_in _ (by omega)]; omega
      have hb2 : (H'.set w (.cells [.agg [x, .int .i64 ((p + 1 : Nat) : Int), .int .i64 ((0 : Nat) : Int)]]))[w]? = some (.cells [.agg [x, .int .i64 ((p + 1 : Nat) : Int), .int .i64 ((0 : Nat) : Int)]]) := List.getElem?_set_self hR'.lt
      have hvv : v + c % 128 * 2 ^ (7 * i) < 2 ^ (7 * (i + 1)) := by omega
      have hR2 := hR'.to (s' := ⟨p + 1, 0⟩) hlt
      obtain ⟨b1, h1⟩ : ∃ b, decide ((0 : Int) < (i : Int)) = b := ⟨_, rfl⟩
      obtain ⟨b2, h2⟩ : ∃ b, ((c : Int) == 0) = b := ⟨_, rfl⟩
      obtain ⟨b3, h3⟩ : ∃ b, ((i : Int) == 8) = b := ⟨_, rfl⟩
      obtain ⟨b4, h4⟩ : ∃ b, decide ((63 : Int) < (c : Int)) = b := ⟨_, rfl⟩
      have hbad : badN i c = ((b1 && b2) || (b3 && b4)) := by
        rw [← h1, ← h2, ← h3, ← h4, badN, Bool.eq_iff_iff]
        simp only [Bool.or_eq_true, Bool.and_eq_true, decide_eq_true_eq, beq_iff_eq]
        omega
      rw [hbad] at hnum
      cases b2 with
      | false =>
        cases b3 with
        | false =>
          simp only [WW, partV, eqCells, eqLf, minV, maxV, ifcV, zaa, zab, zac, zad, zae, zaf, zag, zah, zai, ofConst, ofConst1, List.replicate, zaj, zak, loadOp, Go.Abs.loadCells, binV, zal, pickV, zam, zan, zao, zap, zaq, zar, zas, zat, zau, outR, resAll, resOne, zav, zaw, zax, zay, zaz, zba, zbb, zbc, zbd, zbe, zbf, zbg, zbh, zbi, zbj, zbk, storeOp, storeCell, overlay, zbl, zbm, zbn, lookupOp, keyT, okRes, mapUpdateOp, zbo, zbp, zbq, zbr, zbs, zbt, zbu, Nat.reduceSub, Nat.reduceAdd, Int.reduceLT, Int.reduceLE, Int.reduceAdd, Int.reduceSub, Int.reduceToNat, Int.reduceBEq, Int.reduceBNe, Int.reduceMul, Nat.reduceBEq, Nat.reduceBNe, Nat.reduceLT, Nat.reduceLeDiff, Nat.reduceMul, Nat.reduceEqDiff, WD, effB, effH, isPriv, isHeap, isImm, zbx, zby, zbz, chkO, setD, dslot, zca, zcb, zcc, zcd, ptrCells_some, F52, h2, h3, h128, hmod, hsh, hor, hb]
          simp only [WW, partV, eqCells, eqLf, minV, maxV, ifcV, zaa, zab, zac, zad, zae, zaf, zag, zah, zai, ofConst, ofConst1, List.replicate, zaj, zak, loadOp, Go.Abs.loadCells, binV, zal, pickV, zam, zan, zao, zap, zaq, zar, zas, zat, zau, outR, resAll, resOne, zav, zaw, zax, zay, zaz, zba, zbb, zbc, zbd, zbe, zbf, zbg, zbh, zbi, zbj, zbk, storeOp, storeCell, overlay, zbl, zbm, zbn, lookupOp, keyT, okRes, mapUpdateOp, zbo, zbp, zbq, zbr, zbs, zbt, zbu, Nat.reduceSub, Nat.reduceAdd, Int.reduceLT, Int.reduceLE, Int.reduceAdd, Int.reduceSub, Int.reduceToNat, Int.reduceBEq, Int.reduceBNe, Int.reduceMul, Nat.reduceBEq, Nat.reduceBNe, Nat.reduceLT, Nat.reduceLeDiff, Nat.reduceMul, Nat.reduceEqDiff, WD, effB, effH, isPriv, isHeap, isImm, zbx, zby, zbz, chkO, setD, dslot, zca, zcb, zcc, zcd, ptrCells_some, F52, hb, hb2, hp1, storeHeap, promote, heapSet, elemSet]
          simp only [Bool.false_and, Bool.and_false, Bool.or_self, Bool.false_or, Bool.or_false] at hnum
          refine cSplit (fun g9 => ?_) (fun g9 => ?_)
          · have hm : decide (c < 128) = true := decide_eq_true (by have := of_decide_eq_true g9; omega)
            rw [hm] at hnum
            simp only [g9]
            simp only [WW, partV, eqCells, eqLf, minV, maxV, ifcV, zaa, zab, zac, zad, zae, zaf, zag, zah, zai, ofConst, ofConst1, List.replicate, zaj, zak, loadOp, Go.Abs.loadCells, binV, zal, pickV, zam, zan, zao, zap, zaq, zar, zas, zat, zau, outR, resAll, resOne, zav, zaw, zax, zay, zaz, zba, zbb, zbc, zbd, zbe, zbf, zbg, zbh, zbi, zbj, zbk, storeOp, storeCell, overlay, zbl, zbm, zbn, lookupOp, keyT, okRes, mapUpdateOp, zbo, zbp, zbq, zbr, zbs, zbt, zbu, Nat.reduceSub, Nat.reduceAdd, Int.reduceLT, Int.reduceLE, Int.reduceAdd, Int.reduceSub, Int.reduceToNat, Int.reduceBEq, Int.reduceBNe, Int.reduceMul, Nat.reduceBEq, Nat.reduceBNe, Nat.reduceLT, Nat.reduceLeDiff, Nat.reduceMul, Nat.reduceEqDiff, WD, effB, effH, isPriv, isHeap, isImm, zbx, zby, zbz, chkO, setD, dslot, zca, zcb, zcc, zcd, ptrCells_some, F52]
            rw [← hnum]
            exact ⟨rfl, hset _⟩
          · have hm : decide (c < 128) = false := decide_eq_false (by have := of_decide_eq_false g9; omega)
            rw [hm] at hnum
            simp only [g9]
            have h8 : i ≤ 7 := by
              have := of_decide_eq_false g9
              by_cases hh : i = 8
              · exfalso
                have hq : badN i c = true := by rw [badN, hh, decide_eq_true (show 64 ≤ c by omega)]; simp
                rw [hbad] at hq
                simp at hq
              · omega
            have hp7 : 2 ^ (7 * i) ≤ 2 ^ (7 * 7) := Nat.pow_le_pow_right (by decide) (by omega)
            have e77 : (2 : Nat) ^ (7 * 7) = 562949953421312 := by decide
            have hun : IntKind.i64.wrap (((2 ^ (7 * i) : Nat) : Int) * 128) = ((2 ^ (7 * (i + 1)) : Nat) : Int) := by rw [e7, IntWalk.i64_in _ (by omega)]; omega
            simp only [WW, partV, eqCells, eqLf, minV, maxV, ifcV, zaa, zab, zac, zad, zae, zaf, zag, zah, zai, ofConst, ofConst1, List.replicate, zaj, zak, loadOp, Go.Abs.loadCells, binV, zal, pickV, zam, zan, zao, zap, zaq, zar, zas, zat, zau, outR, resAll, resOne, zav, zaw, zax, zay, zaz, zba, zbb, zbc, zbd, zbe, zbf, zbg, zbh, zbi, zbj, zbk, storeOp, storeCell, overlay, zbl, zbm, zbn, lookupOp, keyT, okRes, mapUpdateOp, zbo, zbp, zbq, zbr, zbs, zbt, zbu, Nat.reduceSub, Nat.reduceAdd, Int.reduceLT, Int.reduceLE, Int.reduceAdd, Int.reduceSub, Int.reduceToNat, Int.reduceBEq, Int.reduceBNe, Int.reduceMul, Nat.reduceBEq, Nat.reduceBNe, Nat.reduceLT, Nat.reduceLeDiff, Nat.reduceMul, Nat.reduceEqDiff, WD, effB, effH, isPriv, isHeap, isImm, zbx, zby, zbz, chkO, setD, dslot, zca, zcb, zcc, zcd, ptrCells_some, F52, hun]
            refine ⟨9 - (i + 1), by omega, i + 1, v + c % 128 * 2 ^ (7 * i), p + 1, ?_, ⟨rfl, by omega⟩, hR2, fun b => by rw [List.set_set]; exact hset b, hvv, ?_⟩
            · simp only [WN, firstReg, growAll, zbv, zbw, norm, killS, zag, zah, zaa, zab, zbl, zat, zad, growOne, zae, zaf, zac, zas, zak, Nat.reduceLT, Nat.reduceAdd, zbj, zav, F52]
              rw [IntWalk.i64_in ((i : Int) + 1) (by omega)]; rfl
            · have e9' : 9 - (i + 1) = 8 - i := by omega
              rw [e9']; exact hnum
        | true =>
          cases b4 with
          | true =>
            simp only [WW, partV, eqCells, eqLf, minV, maxV, ifcV, zaa, zab, zac, zad, zae, zaf, zag, zah, zai, ofConst, ofConst1, List.replicate, zaj, zak, loadOp, Go.Abs.loadCells, binV, zal, pickV, zam, zan, zao, zap, zaq, zar, zas, zat, zau, outR, resAll, resOne, zav, zaw, zax, zay, zaz, zba, zbb, zbc, zbd, zbe, zbf, zbg, zbh, zbi, zbj, zbk, storeOp, storeCell, overlay, zbl, zbm, zbn, lookupOp, keyT, okRes, mapUpdateOp, zbo, zbp, zbq, zbr, zbs, zbt, zbu, Nat.reduceSub, Nat.reduceAdd, Int.reduceLT, Int.reduceLE, Int.reduceAdd, Int.reduceSub, Int.reduceToNat, Int.reduceBEq, Int.reduceBNe, Int.reduceMul, Nat.reduceBEq, Nat.reduceBNe, Nat.reduceLT, Nat.reduceLeDiff, Nat.reduceMul, Nat.reduceEqDiff, WD, effB, effH, isPriv, isHeap, isImm, zbx, zby, zbz, chkO, setD, dslot, zca, zcb, zcc, zcd, ptrCells_some, F52, h2, h3, h4, hb]
            rw [h6, wpCall_eq (badD hR' 6 p)]
            simp only [WW, partV, eqCells, eqLf, minV, maxV, ifcV, zaa, zab, zac, zad, zae, zaf, zag, zah, zai, ofConst, ofConst1, List.replicate, zaj, zak, loadOp, Go.Abs.loadCells, binV, zal, pickV, zam, zan, zao, zap, zaq, zar, zas, zat, zau, outR, resAll, resOne, zav, zaw, zax, zay, zaz, zba, zbb, zbc, zbd, zbe, zbf, zbg, zbh, zbi, zbj, zbk, storeOp, storeCell, overlay, zbl, zbm, zbn, lookupOp, keyT, okRes, mapUpdateOp, zbo, zbp, zbq, zbr, zbs, zbt, zbu, Nat.reduceSub, Nat.reduceAdd, Int.reduceLT, Int.reduceLE, Int.reduceAdd, Int.reduceSub, Int.reduceToNat, Int.reduceBEq, Int.reduceBNe, Int.reduceMul, Nat.reduceBEq, Nat.reduceBNe, Nat.reduceLT, Nat.reduceLeDiff, Nat.reduceMul, Nat.reduceEqDiff, WD, effB, effH, isPriv, isHeap, isImm, zbx, zby, zbz, chkO, setD, dslot, zca, zcb, zcc, zcd, ptrCells_some, F52]
            simp only [Bool.true_and, Bool.and_true, Bool.or_true, Bool.true_or, Bool.or_self, Bool.and_self, Bool.false_and, Bool.false_or, Bool.and_false] at hnum
            rw [← hnum]
            exact ⟨rfl, hset _⟩
          | false =>
            simp only [WW, partV, eqCells, eqLf, minV, maxV, ifcV, zaa, zab, zac, zad, zae, zaf, zag, zah, zai, ofConst, ofConst1, List.replicate, zaj, zak, loadOp, Go.Abs.loadCells, binV, zal, pickV, zam, zan, zao, zap, zaq, zar, zas, zat, zau, outR, resAll, resOne, zav, zaw, zax, zay, zaz, zba, zbb, zbc, zbd, zbe, zbf, zbg, zbh, zbi, zbj, zbk, storeOp, storeCell, overlay, zbl, zbm, zbn, lookupOp, keyT, okRes, mapUpdateOp, zbo, zbp, zbq, zbr, zbs, zbt, zbu, Nat.reduceSub, Nat.reduceAdd, Int.reduceLT, Int.reduceLE, Int.reduceAdd, Int.reduceSub, Int.reduceToNat, Int.reduceBEq, Int.reduceBNe, Int.reduceMul, Nat.reduceBEq, Nat.reduceBNe, Nat.reduceLT, Nat.reduceLeDiff, Nat.reduceMul, Nat.reduceEqDiff, WD, effB, effH, isPriv, isHeap, isImm, zbx, zby, zbz, chkO, setD, dslot, zca, zcb, zcc, zcd, ptrCells_some, F52, h2, h3, h4, h128, hmod, hsh, hor, hb]
            simp only [WW, partV, eqCells, eqLf, minV, maxV, ifcV, zaa, zab, zac, zad, zae, zaf, zag, zah, zai, ofConst, ofConst1, List.replicate, zaj, zak, loadOp, Go.Abs.loadCells, binV, zal, pickV, zam, zan, zao, zap, zaq, zar, zas, zat, zau, outR, resAll, resOne, zav, zaw, zax, zay, zaz, zba, zbb, zbc, zbd, zbe, zbf, zbg, zbh, zbi, zbj, zbk, storeOp, storeCell, overlay, zbl, zbm, zbn, lookupOp, keyT, okRes, mapUpdateOp, zbo, zbp, zbq, zbr, zbs, zbt, zbu, Nat.reduceSub, Nat.reduceAdd, Int.reduceLT, Int.reduceLE, Int.reduceAdd, Int.reduceSub, Int.reduceToNat, Int.reduceBEq, Int.reduceBNe, Int.reduceMul, Nat.reduceBEq, Nat.reduceBNe, Nat.reduceLT, Nat.reduceLeDiff, Nat.reduceMul, Nat.reduceEqDiff, WD, effB, effH, isPriv, isHeap, isImm, zbx, zby, zbz, chkO, setD, dslot, zca, zcb, zcc, zcd, ptrCells_some, F52, hb, hb2, hp1, storeHeap, promote, heapSet, elemSet]
            simp only [Bool.false_and, Bool.and_false, Bool.or_self, Bool.false_or, Bool.or_false] at hnum
            refine cSplit (fun g9 => ?_) (fun g9 => ?_)
            · have hm : decide (c < 128) = true := decide_eq_true (by have := of_decide_eq_true g9; omega)
              rw [hm] at hnum
              simp only [g9]
              simp only [WW, partV, eqCells, eqLf, minV, maxV, ifcV, zaa, zab, zac, zad, zae, zaf, zag, zah, zai, ofConst, ofConst1, List.replicate, zaj, zak, loadOp, Go.Abs.loadCells, binV, zal, pickV, zam, zan, zao, zap, zaq, zar, zas, zat, zau, outR, resAll, resOne, zav, zaw, zax, zay, zaz, zba, zbb, zbc, zbd, zbe, zbf, zbg, zbh, zbi, zbj, zbk, storeOp, storeCell, overlay, zbl, zbm, zbn, lookupOp, keyT, okRes, mapUpdateOp, zbo, zbp, zbq, zbr, zbs, zbt, zbu, Nat.reduceSub, Nat.reduceAdd, Int.reduceLT, Int.reduceLE, Int.reduceAdd, Int.reduceSub, Int.reduceToNat, Int.reduceBEq, Int.reduceBNe, Int.reduceMul, Nat.reduceBEq, Nat.reduceBNe, Nat.reduceLT, Nat.reduceLeDiff, Nat.reduceMul, Nat.reduceEqDiff, WD, effB, effH, isPriv, isHeap, isImm, zbx, zby, zbz, chkO, setD, dslot, zca, zcb, zcc, zcd, ptrCells_some, F52]
              rw [← hnum]
              exact ⟨rfl, hset _⟩
            · have hm : decide (c < 128) = false := decide_eq_false (by have := of_decide_eq_false g9; omega)
              rw [hm] at hnum
              simp only [g9]
              have h8 : i ≤ 7 := by
                have := of_decide_eq_false g9
                by_cases hh : i = 8
                · exfalso
                  have hq : badN i c = true := by rw [badN, hh, decide_eq_true (show 64 ≤ c by omega)]; simp
                  rw [hbad] at hq
                  simp at hq
                · omega
              have hp7 : 2 ^ (7 * i) ≤ 2 ^ (7 * 7) := Nat.pow_le_pow_right (by decide) (by omega)
              have e77 : (2 : Nat) ^ (7 * 7) = 562949953421312 := by decide
              have hun : IntKind.i64.wrap (((2 ^ (7 * i) : Nat) : Int) * 128) = ((2 ^ (7 * (i + 1)) : Nat) : Int) := by rw [e7, IntWalk.i64_in _ (by omega)]; omega
              simp only [WW, partV, eqCells, eqLf, minV, maxV, ifcV, zaa, zab, zac, zad, zae, zaf, zag, zah, zai, ofConst, ofConst1, List.replicate, zaj, zak, loadOp, Go.Abs.loadCells, binV, zal, pickV, zam, zan, zao, zap, zaq, zar, zas, zat, zau, outR, resAll, resOne, zav, zaw, zax, zay, zaz, zba, zbb, zbc, zbd, zbe, zbf, zbg, zbh, zbi, zbj, zbk, storeOp, storeCell, overlay, zbl, zbm, zbn, lookupOp, keyT, okRes, mapUpdateOp, zbo, zbp, zbq, zbr, zbs, zbt, zbu, Nat.reduceSub, Nat.reduceAdd, Int.reduceLT, Int.reduceLE, Int.reduceAdd, Int.reduceSub, Int.reduceToNat, Int.reduceBEq, Int.reduceBNe, Int.reduceMul, Nat.reduceBEq, Nat.reduceBNe, Nat.reduceLT, Nat.reduceLeDiff, Nat.reduceMul, Nat.reduceEqDiff, WD, effB, effH, isPriv, isHeap, isImm, zbx, zby, zbz, chkO, setD, dslot, zca, zcb, zcc, zcd, ptrCells_some, F52, hun]
              refine ⟨9 - (i + 1), by omega, i + 1, v + c % 128 * 2 ^ (7 * i), p + 1, ?_, ⟨rfl, by omega⟩, hR2, fun b => by rw [List.set_set]; exact hset b, hvv, ?_⟩
              · simp only [WN, firstReg, growAll, zbv, zbw, norm, killS, zag, zah, zaa, zab, zbl, zat, zad, growOne, zae, zaf, zac, zas, zak, Nat.reduceLT, Nat.reduceAdd, zbj, zav, F52]
                rw [IntWalk.i64_in ((i : Int) + 1) (by omega)]; rfl
              · have e9' : 9 - (i + 1) = 8 - i := by omega
                rw [e9']; exact hnum
      | true =>
        cases b1 with
        | true =>
          simp only [WW, partV, eqCells, eqLf, minV, maxV, ifcV, zaa, zab, zac, zad, zae, zaf, zag, zah, zai, ofConst, ofConst1, List.replicate, zaj, zak, loadOp, Go.Abs.loadCells, binV, zal, pickV, zam, zan, zao, zap, zaq, zar, zas, zat, zau, outR, resAll, resOne, zav, zaw, zax, zay, zaz, zba, zbb, zbc, zbd, zbe, zbf, zbg, zbh, zbi, zbj, zbk, storeOp, storeCell, overlay, zbl, zbm, zbn, lookupOp, keyT, okRes, mapUpdateOp, zbo, zbp, zbq, zbr, zbs, zbt, zbu, Nat.reduceSub, Nat.reduceAdd, Int.reduceLT, Int.reduceLE, Int.reduceAdd, Int.reduceSub, Int.reduceToNat, Int.reduceBEq, Int.reduceBNe, Int.reduceMul, Nat.reduceBEq, Nat.reduceBNe, Nat.reduceLT, Nat.reduceLeDiff, Nat.reduceMul, Nat.reduceEqDiff, WD, effB, effH, isPriv, isHeap, isImm, zbx, zby, zbz, chkO, setD, dslot, zca, zcb, zcc, zcd, ptrCells_some, F52, h1, h2, hb]
          rw [h6, wpCall_eq (badD hR' 6 p)]
          simp only [WW, partV, eqCells, eqLf, minV, maxV, ifcV, zaa, zab, zac, zad, zae, zaf, zag, zah, zai, ofConst, ofConst1, List.replicate, zaj, zak, loadOp, Go.Abs.loadCells, binV, zal, pickV, zam, zan, zao, zap, zaq, zar, zas, zat, zau, outR, resAll, resOne, zav, zaw, zax, zay, zaz, zba, zbb, zbc, zbd, zbe, zbf, zbg, zbh, zbi, zbj, zbk, storeOp, storeCell, overlay, zbl, zbm, zbn, lookupOp, keyT, okRes, mapUpdateOp, zbo, zbp, zbq, zbr, zbs, zbt, zbu, Nat.reduceSub, Nat.reduceAdd, Int.reduceLT, Int.reduceLE, Int.reduceAdd, Int.reduceSub, Int.reduceToNat, Int.reduceBEq, Int.reduceBNe, Int.reduceMul, Nat.reduceBEq, Nat.reduceBNe, Nat.reduceLT, Nat.reduceLeDiff, Nat.reduceMul, Nat.reduceEqDiff, WD, effB, effH, isPriv, isHeap, isImm, zbx, zby, zbz, chkO, setD, dslot, zca, zcb, zcc, zcd, ptrCells_some, F52]
          simp only [Bool.true_and, Bool.and_true, Bool.or_true, Bool.true_or, Bool.or_self, Bool.and_self, Bool.false_and, Bool.false_or, Bool.and_false] at hnum
          rw [← hnum]
          exact ⟨rfl, hset _⟩
        | false =>
          cases b3 with
          | false =>
            simp only [WW, partV, eqCells, eqLf, minV, maxV, ifcV, zaa, zab, zac, zad, zae, zaf, zag, zah, zai, ofConst, ofConst1, List.replicate, zaj, zak, loadOp, Go.Abs.loadCells, binV, zal, pickV, zam, zan, zao, zap, zaq, zar, zas, zat, zau, outR, resAll, resOne, zav, zaw, zax, zay, zaz, zba, zbb, zbc, zbd, zbe, zbf, zbg, zbh, zbi, zbj, zbk, storeOp, storeCell, overlay, zbl, zbm, zbn, lookupOp, keyT, okRes, mapUpdateOp, zbo, zbp, zbq, zbr, zbs, zbt, zbu, Nat.reduceSub, Nat.reduceAdd, Int.reduceLT, Int.reduceLE, Int.reduceAdd, Int.reduceSub, Int.reduceToNat, Int.reduceBEq, Int.reduceBNe, Int.reduceMul, Nat.reduceBEq, Nat.reduceBNe, Nat.reduceLT, Nat.reduceLeDiff, Nat.reduceMul, Nat.reduceEqDiff, WD, effB, effH, isPriv, isHeap, isImm, zbx, zby, zbz, chkO, setD, dslot, zca, zcb, zcc, zcd, ptrCells_some, F52, h1, h2, h3, h128, hmod, hsh, hor, hb]
            simp only [WW, partV, eqCells, eqLf, minV, maxV, ifcV, zaa, zab, zac, zad, zae, zaf, zag, zah, zai, ofConst, ofConst1, List.replicate, zaj, zak, loadOp, Go.Abs.loadCells, binV, zal, pickV, zam, zan, zao, zap, zaq, zar, zas, zat, zau, outR, resAll, resOne, zav, zaw, zax, zay, zaz, zba, zbb, zbc, zbd, zbe, zbf, zbg, zbh, zbi, zbj, zbk, storeOp, storeCell, overlay, zbl, zbm, zbn, lookupOp, keyT, okRes, mapUpdateOp, zbo, zbp, zbq, zbr, zbs, zbt, zbu, Nat.reduceSub, Nat.reduceAdd, Int.reduceLT, Int.reduceLE, Int.reduceAdd, Int.reduceSub, Int.reduceToNat, Int.reduceBEq, Int.reduceBNe, Int.reduceMul, Nat.reduceBEq, Nat.reduceBNe, Nat.reduceLT, Nat.reduceLeDiff, Nat.reduceMul, Nat.reduceEqDiff, WD, effB, effH, isPriv, isHeap, isImm, zbx, zby, zbz, chkO, setD, dslot, zca, zcb, zcc, zcd, ptrCells_some, F52, hb, hb2, hp1, storeHeap, promote, heapSet, elemSet]
            simp only [Bool.false_and, Bool.and_false, Bool.or_self, Bool.false_or, Bool.or_false] at hnum
            refine cSplit (fun g9 => ?_) (fun g9 => ?_)
            · have hm : decide (c < 128) = true := decide_eq_true (by have := of_decide_eq_true g9; omega)
              rw [hm] at hnum
              simp only [g9]
              simp only [WW, partV, eqCells, eqLf, minV, maxV, ifcV, zaa, zab, zac, zad, zae, zaf, zag, zah, zai, ofConst, ofConst1, List.replicate, zaj, zak, loadOp, Go.Abs.loadCells, binV, zal, pickV, zam, zan, zao, zap, zaq, zar, zas, zat, zau, outR, resAll, resOne, zav, zaw, zax, zay, zaz, zba, zbb, zbc, zbd, zbe, zbf, zbg, zbh, zbi, zbj, zbk, storeOp, storeCell, overlay, zbl, zbm, zbn, lookupOp, keyT, okRes, mapUpdateOp, zbo, zbp, zbq, zbr, zbs, zbt, zbu, Nat.reduceSub, Nat.reduceAdd, Int.reduceLT, Int.reduceLE, Int.reduceAdd, Int.reduceSub, Int.reduceToNat, Int.reduceBEq, Int.reduceBNe, Int.reduceMul, Nat.reduceBEq, Nat.reduceBNe, Nat.reduceLT, Nat.reduceLeDiff, Nat.reduceMul, Nat.reduceEqDiff, WD, effB, effH, isPriv, isHeap, isImm, zbx, zby, zbz, chkO, setD, dslot, zca, zcb, zcc, zcd, ptrCells_some, F52]
              rw [← hnum]
              exact ⟨rfl, hset _⟩
            · have hm : decide (c < 128) = false := decide_eq_false (by have := of_decide_eq_false g9; omega)
              rw [hm] at hnum
              simp only [g9]
              have h8 : i ≤ 7 := by
                have := of_decide_eq_false g9
                by_cases hh : i = 8
                · exfalso
                  have hq : badN i c = true := by rw [badN, hh, decide_eq_true (show 64 ≤ c by omega)]; simp
                  rw [hbad] at hq
                  simp at hq
                · omega
              have hp7 : 2 ^ (7 * i) ≤ 2 ^ (7 * 7) := Nat.pow_le_pow_right (by decide) (by omega)
              have e77 : (2 : Nat) ^ (7 * 7) = 562949953421312 := by decide
              have hun : IntKind.i64.wrap (((2 ^ (7 * i) : Nat) : Int) * 128) = ((2 ^ (7 * (i + 1)) : Nat) : Int) := by rw [e7, IntWalk.i64_in _ (by omega)]; omega
              simp only [WW, partV, eqCells, eqLf, minV, maxV, ifcV, zaa, zab, zac, zad, zae, zaf, zag, zah, zai, ofConst, ofConst1, List.replicate, zaj, zak, loadOp, Go.Abs.loadCells, binV, zal, pickV, zam, zan, zao, zap, zaq, zar, zas, zat, zau, outR, resAll, resOne, zav, zaw, zax, zay, zaz, zba, zbb, zbc, zbd, zbe, zbf, zbg, zbh, zbi, zbj, zbk, storeOp, storeCell, overlay, zbl, zbm, zbn, lookupOp, keyT, okRes, mapUpdateOp, zbo, zbp, zbq, zbr, zbs, zbt, zbu, Nat.reduceSub, Nat.reduceAdd, Int.reduceLT, Int.reduceLE, Int.reduceAdd, Int.reduceSub, Int.reduceToNat, Int.reduceBEq, Int.reduceBNe, Int.reduceMul, Nat.reduceBEq, Nat.reduceBNe, Nat.reduceLT, Nat.reduceLeDiff, Nat.reduceMul, Nat.reduceEqDiff, WD, effB, effH, isPriv, isHeap, isImm, zbx, zby, zbz, chkO, setD, dslot, zca, zcb, zcc, zcd, ptrCells_some, F52, hun]
              refine ⟨9 - (i + 1), by omega, i + 1, v + c % 128 * 2 ^ (7 * i), p + 1, ?_, ⟨rfl, by omega⟩, hR2, fun b => by rw [List.set_set]; exact hset b, hvv, ?_⟩
              · simp only [WN, firstReg, growAll, zbv, zbw, norm, killS, zag, zah, zaa, zab, zbl, zat, zad, growOne, zae, zaf, zac, zas, zak, Nat.reduceLT, Nat.reduceAdd, zbj, zav, F52]
                rw [IntWalk.i64_in ((i : Int) + 1) (by omega)]; rfl
              · have e9' : 9 - (i + 1) = 8 - i := by omega
                rw [e9']; exact hnum
          | true =>
            cases b4 with
            | true =>
              simp only [WW, partV, eqCells, eqLf, minV, maxV, ifcV, zaa, zab, zac, zad, zae, zaf, zag, zah, zai, ofConst, ofConst1, List.replicate, zaj, zak, loadOp, Go.Abs.loadCells, binV, zal, pickV, zam, zan, zao, zap, zaq, zar, zas, zat, zau, outR, resAll, resOne, zav, zaw, zax, zay, zaz, zba, zbb, zbc, zbd, zbe, zbf, zbg, zbh, zbi, zbj, zbk, storeOp, storeCell, overlay, zbl, zbm, zbn, lookupOp, keyT, okRes, mapUpdateOp, zbo, zbp, zbq, zbr, zbs, zbt, zbu, Nat.reduceSub, Nat.reduceAdd, Int.reduceLT, Int.reduceLE, Int.reduceAdd, Int.reduceSub, Int.reduceToNat, Int.reduceBEq, Int.reduceBNe, Int.reduceMul, Nat.reduceBEq, Nat.reduceBNe, Nat.reduceLT, Nat.reduceLeDiff, Nat.reduceMul, Nat.reduceEqDiff, WD, effB, effH, isPriv, isHeap, isImm, zbx, zby, zbz, chkO, setD, dslot, zca, zcb, zcc, zcd, ptrCells_some, F52, h1, h2, h3, h4, hb]
              rw [h6, wpCall_eq (badD hR' 6 p)]
              simp only [WW, partV, eqCells, eqLf, minV, maxV, ifcV, zaa, zab, zac, zad, zae, zaf, zag, zah, zai, ofConst, ofConst1, List.replicate, zaj, zak, loadOp, Go.Abs.loadCells, binV, zal, pickV, zam, zan, zao, zap, zaq, zar, zas, zat, zau, outR, resAll, resOne, zav, zaw, zax, zay, zaz, zba, zbb, zbc, zbd, zbe, zbf, zbg, zbh, zbi, zbj, zbk, storeOp, storeCell, overlay, zbl, zbm, zbn, lookupOp, keyT, okRes, mapUpdateOp, zbo, zbp, zbq, zbr, zbs, zbt, zbu, Nat.reduceSub, Nat.reduceAdd, Int.reduceLT, Int.reduceLE, Int.reduceAdd, Int.reduceSub, Int.reduceToNat, Int.reduceBEq, Int.reduceBNe, Int.reduceMul, Nat.reduceBEq, Nat.reduceBNe, Nat.reduceLT, Nat.reduceLeDiff, Nat.reduceMul, Nat.reduceEqDiff, WD, effB, effH, isPriv, isHeap, isImm, zbx, zby, zbz, chkO, setD, dslot, zca, zcb, zcc, zcd, ptrCells_some, F52]
              simp only [Bool.true_and, Bool.and_true, Bool.or_true, Bool.true_or, Bool.or_self, Bool.and_self, Bool.false_and, Bool.false_or, Bool.and_false] at hnum
              rw [← hnum]
              exact ⟨rfl, hset _⟩
            | false =>
              simp only [WW, partV, eqCells, eqLf, minV, maxV, ifcV, zaa, zab, zac, zad, zae, zaf, zag, zah, zai, ofConst, ofConst1, List.replicate, zaj, zak, loadOp, Go.Abs.loadCells, binV, zal, pickV, zam, zan, zao, zap, zaq, zar, zas, zat, zau, outR, resAll, resOne, zav, zaw, zax, zay, zaz, zba, zbb, zbc, zbd, zbe, zbf, zbg, zbh, zbi, zbj, zbk, storeOp, storeCell, overlay, zbl, zbm, zbn, lookupOp, keyT, okRes, mapUpdateOp, zbo, zbp, zbq, zbr, zbs, zbt, zbu, Nat.reduceSub, Nat.reduceAdd, Int.reduceLT, Int.reduceLE, Int.reduceAdd, Int.reduceSub, Int.reduceToNat, Int.reduceBEq, Int.reduceBNe, Int.reduceMul, Nat.reduceBEq, Nat.reduceBNe, Nat.reduceLT, Nat.reduceLeDiff, Nat.reduceMul, Nat.reduceEqDiff, WD, effB, effH, isPriv, isHeap, isImm, zbx, zby, zbz, chkO, setD, dslot, zca, zcb, zcc, zcd, ptrCells_some, F52, h1, h2, h3, h4, h128, hmod, hsh, hor, hb]
              simp only [WW, partV, eqCells, eqLf, minV, maxV, ifcV, zaa, zab, zac, zad, zae, zaf, zag, zah, zai, ofConst, ofConst1, List.replicate, zaj, zak, loadOp, Go.Abs.loadCells, binV, zal, pickV, zam, zan, zao, zap, zaq, zar, zas, zat, zau, outR, resAll, resOne, zav, zaw, zax, zay, zaz, zba, zbb, zbc, zbd, zbe, zbf, zbg, zbh, zbi, zbj, zbk, storeOp, storeCell, overlay, zbl, zbm, zbn, lookupOp, keyT, okRes, mapUpdateOp, zbo, zbp, zbq, zbr, zbs, zbt, zbu, Nat.reduceSub, Nat.reduceAdd, Int.reduceLT, Int.reduceLE, Int.reduceAdd, Int.reduceSub, Int.reduceToNat, Int.reduceBEq, Int.reduceBNe, Int.reduceMul, Nat.reduceBEq, Nat.reduceBNe, Nat.reduceLT, Nat.reduceLeDiff, Nat.reduceMul, Nat.reduceEqDiff, WD, effB, effH, isPriv, isHeap, isImm, zbx, zby, zbz, chkO, setD, dslot, zca, zcb, zcc, zcd, ptrCells_some, F52, hb, hb2, hp1, storeHeap, promote, heapSet, elemSet]
              simp only [Bool.false_and, Bool.and_false, Bool.or_self, Bool.false_or, Bool.or_false] at hnum
              refine cSplit (fun g9 => ?_) (fun g9 => ?_)
              · have hm : decide (c < 128) = true := decide_eq_true (by have := of_decide_eq_true g9; omega)
                rw [hm] at hnum
                simp only [g9]
                simp only [WW, partV, eqCells, eqLf, minV, maxV, ifcV, zaa, zab, zac, zad, zae, zaf, zag, zah, zai, ofConst, ofConst1, List.replicate, zaj, zak, loadOp, Go.Abs.loadCells, binV, zal, pickV, zam, zan, zao, zap, zaq, zar, zas, zat, zau, outR, resAll, resOne, zav, zaw, zax, zay, zaz, zba, zbb, zbc, zbd, zbe, zbf, zbg, zbh, zbi, zbj, zbk, storeOp, storeCell, overlay, zbl, zbm, zbn, lookupOp, keyT, okRes, mapUpdateOp, zbo, zbp, zbq, zbr, zbs, zbt, zbu, Nat.reduceSub, Nat.reduceAdd, Int.reduceLT, Int.reduceLE, Int.reduceAdd, Int.reduceSub, Int.reduceToNat, Int.reduceBEq, Int.reduceBNe, Int.reduceMul, Nat.reduceBEq, Nat.reduceBNe, Nat.reduceLT, Nat.reduceLeDiff, Nat.reduceMul, Nat.reduceEqDiff, WD, effB, effH, isPriv, isHeap, isImm, zbx, zby, zbz, chkO, setD, dslot, zca, zcb, zcc, zcd, ptrCells_some, F52]
                rw [← hnum]
                exact ⟨rfl, hset _⟩
              · have hm : decide (c < 128) = false := decide_eq_false (by have := of_decide_eq_false g9; omega)
                rw [hm] at hnum
                simp only [g9]
                have h8 : i ≤ 7 := by
                  have := of_decide_eq_false g9
                  by_cases hh : i = 8
                  · exfalso
                    have hq : badN i c = true := by rw [badN, hh, decide_eq_true (show 64 ≤ c by omega)]; simp
                    rw [hbad] at hq
                    simp at hq
                  · omega
                have hp7 : 2 ^ (7 * i) ≤ 2 ^ (7 * 7) := Nat.pow_le_pow_right (by decide) (by omega)
                have e77 : (2 : Nat) ^ (7 * 7) = 562949953421312 := by decide
                have hun : IntKind.i64.wrap (((2 ^ (7 * i) : Nat) : Int) * 128) = ((2 ^ (7 * (i + 1)) : Nat) : Int) := by rw [e7, IntWalk.i64_in _ (by omega)]; omega
                simp only [WW, partV, eqCells, eqLf, minV, maxV, ifcV, zaa, zab, zac, zad, zae, zaf, zag, zah, zai, ofConst, ofConst1, List.replicate, zaj, zak, loadOp, Go.Abs.loadCells, binV, zal, pickV, zam, zan, zao, zap, zaq, zar, zas, zat, zau, outR, resAll, resOne, zav, zaw, zax, zay, zaz, zba, zbb, zbc, zbd, zbe, zbf, zbg, zbh, zbi, zbj, zbk, storeOp, storeCell, overlay, zbl, zbm, zbn, lookupOp, keyT, okRes, mapUpdateOp, zbo, zbp, zbq, zbr, zbs, zbt, zbu, Nat.reduceSub, Nat.reduceAdd, Int.reduceLT, Int.reduceLE, Int.reduceAdd, Int.reduceSub, Int.reduceToNat, Int.reduceBEq, Int.reduceBNe, Int.reduceMul, Nat.reduceBEq, Nat.reduceBNe, Nat.reduceLT, Nat.reduceLeDiff, Nat.reduceMul, Nat.reduceEqDiff, WD, effB, effH, isPriv, isHeap, isImm, zbx, zby, zbz, chkO, setD, dslot, zca, zcb, zcc, zcd, ptrCells_some, F52, hun]
                refine ⟨9 - (i + 1), by omega, i + 1, v + c % 128 * 2 ^ (7 * i), p + 1, ?_, ⟨rfl, by omega⟩, hR2, fun b => by rw [List.set_set]; exact hset b, hvv, ?_⟩
                · simp only [WN, firstReg, growAll, zbv, zbw, norm, killS, zag, zah, zaa, zab, zbl, zat, zad, growOne, zae, zaf, zac, zas, zak, Nat.reduceLT, Nat.reduceAdd, zbj, zav, F52]
                  rw [IntWalk.i64_in ((i : Int) + 1) (by omega)]; rfl
                · have e9' : 9 - (i + 1) = 8 - i := by omega
                  rw [e9']; exact hnum
theorem dnumR {H : Hp} {w : Nat} {x : V} {L : List Nat} {s : S} (hR : Rr H w x L s) (hL : ∀ y ∈ L, y < 256) (hlen : L.length ≤ 5000000) :
    wpCall EW 52 [.ptr w 0 0] H (fun out H' => out = .ret (.int .i64 ((num L s).1 : Nat)) false ∧ Ff w H H' ∧ Rr H' w x L (num L s).2) := by
  have ho := num_ok hR.o
  obtain ⟨p, e⟩ := s
  cases e with
  | zero =>
    refine wpCall_of (dnumber_at hR hL hlen) ?_
    rintro out H' ⟨rfl, rfl⟩
    exact ⟨rfl, Ff.set _, hR.to ho⟩
  | succ e1 =>
    rw [wpCall_eq (dnumber_at0 hR)]
    exact ⟨rfl, Ff.refl, hR⟩
theorem dsgnR {H : Hp} {w : Nat} {x : V} {L : List Nat} {s : S} (hR : Rr H w x L s) (hL : ∀ y ∈ L, y < 256) (hlen : L.length ≤ 5000000) :
    wpCall EW 75 [.ptr w 0 0] H (fun out H' => out = .ret (.int .i64 (sgn L s).1) false ∧ Ff w H H' ∧ Rr H' w x L (sgn L s).2) := by
  have hn := num_lt hL s
  refine runs f75 b75 r75 n75 _ _ ?_
  simp only [bodyOf, Tryd.f75, Option.getD_some]
  simp only [WW, partV, eqCells, eqLf, minV, maxV, ifcV, zaa, zab, zac, zad, zae, zaf, zag, zah, zai, ofConst, ofConst1, List.replicate, zaj, zak, loadOp, Go.Abs.loadCells, binV, zal, pickV, zam, zan, zao, zap, zaq, zar, zas, zat, zau, outR, resAll, resOne, zav, zaw, zax, zay, zaz, zba, zbb, zbc, zbd, zbe, zbf, zbg, zbh, zbi, zbj, zbk, storeOp, storeCell, overlay, zbl, zbm, zbn, lookupOp, keyT, okRes, mapUpdateOp, zbo, zbp, zbq, zbr, zbs, zbt, zbu, Nat.reduceSub, Nat.reduceAdd, Int.reduceLT, Int.reduceLE, Int.reduceAdd, Int.reduceSub, Int.reduceToNat, Int.reduceBEq, Int.reduceBNe, Int.reduceMul, Nat.reduceBEq, Nat.reduceBNe, Nat.reduceLT, Nat.reduceLeDiff, Nat.reduceMul, Nat.reduceEqDiff, WD, effB, effH, isPriv, isHeap, isImm, zbx, zby, zbz, chkO, setD, dslot, zca, zcb, zcc, zcd, ptrCells_some, F75]
  refine wpCall_of (dnumR hR hL hlen) ?_
  rintro out H' ⟨rfl, hf, hR'⟩
  unfold sgn
  generalize hq : (num L s).1 = n at *
  have h20 : ((2 : Int) = 0) = False := by simp
  have hmod : ((n : Nat) : Int).tmod 2 = ((n % 2 : Nat) : Int) := by rw [Int.tmod_eq_emod_of_nonneg (by omega)]; norm_cast
  have hquo : IntKind.i64.wrap (((n : Nat) : Int).tdiv 2) = ((n / 2 : Nat) : Int) := by
    rw [show ((n : Nat) : Int).tdiv 2 = ((n / 2 : Nat) : Int) by rw [Int.tdiv_eq_ediv_of_nonneg (by omega)]; norm_cast]
    exact IntWalk.i64_in _ (by omega)
  have hneg : IntKind.i64.wrap (0 - ((n / 2 : Nat) : Int)) = -((n / 2 : Nat) : Int) := by rw [IntWalk.i64_in _ (by omega)]; omega
  have hsub : IntKind.i64.wrap (-((n / 2 : Nat) : Int) - 1) = -((n / 2 : Nat) : Int) - 1 := IntWalk.i64_in _ (by omega)
  by_cases h2 : n % 2 = 1
  · have hu : unzz n = -((n / 2 : Nat) : Int) - 1 := by unfold unzz; rw [if_pos h2]
    have hb : (((n % 2 : Nat) : Int) == 1) = true := by rw [h2]; rfl
    simp only [WW, partV, eqCells, eqLf, minV, maxV, ifcV, zaa, zab, zac, zad, zae, zaf, zag, zah, zai, ofConst, ofConst1, List.replicate, zaj, zak, loadOp, Go.Abs.loadCells, binV, zal, pickV, zam, zan, zao, zap, zaq, zar, zas, zat, zau, outR, resAll, resOne, zav, zaw, zax, zay, zaz, zba, zbb, zbc, zbd, zbe, zbf, zbg, zbh, zbi, zbj, zbk, storeOp, storeCell, overlay, zbl, zbm, zbn, lookupOp, keyT, okRes, mapUpdateOp, zbo, zbp, zbq, zbr, zbs, zbt, zbu, Nat.reduceSub, Nat.reduceAdd, Int.reduceLT, Int.reduceLE, Int.reduceAdd, Int.reduceSub, Int.reduceToNat, Int.reduceBEq, Int.reduceBNe, Int.reduceMul, Nat.reduceBEq, Nat.reduceBNe, Nat.reduceLT, Nat.reduceLeDiff, Nat.reduceMul, Nat.reduceEqDiff, WD, effB, effH, isPriv, isHeap, isImm, zbx, zby, zbz, chkO, setD, dslot, zca, zcb, zcc, zcd, ptrCells_some, F75, h20, hmod, hb, hquo, hneg, hsub]
    rw [hu]
    exact ⟨rfl, hf, hR'⟩
  · have hu : unzz n = ((n / 2 : Nat) : Int) := by unfold unzz; rw [if_neg h2]
    have hb : (((n % 2 : Nat) : Int) == 1) = false := by rw [beq_eq_false_iff_ne]; omega
    simp only [WW, partV, eqCells, eqLf, minV, maxV, ifcV, zaa, zab, zac, zad, zae, zaf, zag, zah, zai, ofConst, ofConst1, List.replicate, zaj, zak, loadOp, Go.Abs.loadCells, binV, zal, pickV, zam, zan, zao, zap, zaq, zar, zas, zat, zau, outR, resAll, resOne, zav, zaw, zax, zay, zaz, zba, zbb, zbc, zbd, zbe, zbf, zbg, zbh, zbi, zbj, zbk, storeOp, storeCell, overlay, zbl, zbm, zbn, lookupOp, keyT, okRes, mapUpdateOp, zbo, zbp, zbq, zbr, zbs, zbt, zbu, Nat.reduceSub, Nat.reduceAdd, Int.reduceLT, Int.reduceLE, Int.reduceAdd, Int.reduceSub, Int.reduceToNat, Int.reduceBEq, Int.reduceBNe, Int.reduceMul, Nat.reduceBEq, Nat.reduceBNe, Nat.reduceLT, Nat.reduceLeDiff, Nat.reduceMul, Nat.reduceEqDiff, WD, effB, effH, isPriv, isHeap, isImm, zbx, zby, zbz, chkO, setD, dslot, zca, zcb, zcc, zcd, ptrCells_some, F75, h20, hmod, hb, hquo]
    rw [hu]
    exact ⟨rfl, hf, hR'⟩
theorem numG_zero {L : List Nat} : ∀ (k i v p : Nat), (numG L k i v p).2.e ≠ 0 → (numG L k i v p).1 = 0
  | 0, i, v, p, _ => rfl
  | k + 1, i, v, p, h => by
    unfold numG at h ⊢
    cases hx : L[p]? with
    | none => rfl
    | some x =>
      rw [hx] at h
      simp only at h ⊢
      cases hb : badN i x with
      | true => rfl
      | false =>
        rw [hb] at h
        simp only at h ⊢
        cases hd : decide (x < 128) with
        | true => rw [hd] at h; exact absurd rfl h
        | false => rw [hd] at h; exact numG_zero k _ _ _ h
theorem num_zero {L : List Nat} {s : S} (h : (num L s).2.e ≠ 0) : (num L s).1 = 0 := by
  unfold num at h ⊢
  cases he : s.e with
  | zero => rw [he] at h; exact numG_zero _ _ _ _ h
  | succ e => rfl
theorem dcountR {H : Hp} {w : Nat} {x : V} {L : List Nat} {s : S} (hR : Rr H w x L s) (hL : ∀ y ∈ L, y < 256) (hlen : L.length ≤ 5000000) :
    wpCall EW 50 [.ptr w 0 0] H (fun out H' => out = .ret (.int .i64 ((count L s).1 : Nat)) false ∧ Ff w H H' ∧ Rr H' w x L (count L s).2) := by
  have hn := num_lt hL s
  have hn0 : (num L s).2.e ≠ 0 → (num L s).1 = 0 := num_zero
  have hb0 := hR.b
  simp only [rdr] at hb0
  have hs := hR.o
  refine runs f50 b50 r50 n50 _ _ ?_
  simp only [bodyOf, Tryd.f50, Option.getD_some]
  simp only [WW, partV, eqCells, eqLf, minV, maxV, ifcV, zaa, zab, zac, zad, zae, zaf, zag, zah, zai, ofConst, ofConst1, List.replicate, zaj, zak, loadOp, Go.Abs.loadCells, binV, zal, pickV, zam, zan, zao, zap, zaq, zar, zas, zat, zau, outR, resAll, resOne, zav, zaw, zax, zay, zaz, zba, zbb, zbc, zbd, zbe, zbf, zbg, zbh, zbi, zbj, zbk, storeOp, storeCell, overlay, zbl, zbm, zbn, lookupOp, keyT, okRes, mapUpdateOp, zbo, zbp, zbq, zbr, zbs, zbt, zbu, Nat.reduceSub, Nat.reduceAdd, Int.reduceLT, Int.reduceLE, Int.reduceAdd, Int.reduceSub, Int.reduceToNat, Int.reduceBEq, Int.reduceBNe, Int.reduceMul, Nat.reduceBEq, Nat.reduceBNe, Nat.reduceLT, Nat.reduceLeDiff, Nat.reduceMul, Nat.reduceEqDiff, WD, effB, effH, isPriv, isHeap, isImm, zbx, zby, zbz, chkO, setD, dslot, zca, zcb, zcc, zcd, ptrCells_some, F50, hb0]
  refine wpCall_of (dnumR hR hL hlen) ?_
  rintro out H' ⟨rfl, hf, hR'⟩
  unfold count
  have ho := hR'.o
  have hb := hR'.b
  simp only [rdr] at hb
  generalize num L s = r at *
  obtain ⟨n, q, e⟩ := r
  simp only at *
  have hx := hR'.rd
  have hql : q ≤ L.length := ho
  have hw1 : IntKind.i64.wrap (((bs L).length : Int) - (q : Int)) = (L.length : Int) - (q : Int) := by rw [bs_len]; exact IntWalk.i64_in _ (by omega)
  simp only [WW, partV, eqCells, eqLf, minV, maxV, ifcV, zaa, zab, zac, zad, zae, zaf, zag, zah, zai, ofConst, ofConst1, List.replicate, zaj, zak, loadOp, Go.Abs.loadCells, binV, zal, pickV, zam, zan, zao, zap, zaq, zar, zas, zat, zau, outR, resAll, resOne, zav, zaw, zax, zay, zaz, zba, zbb, zbc, zbd, zbe, zbf, zbg, zbh, zbi, zbj, zbk, storeOp, storeCell, overlay, zbl, zbm, zbn, lookupOp, keyT, okRes, mapUpdateOp, zbo, zbp, zbq, zbr, zbs, zbt, zbu, Nat.reduceSub, Nat.reduceAdd, Int.reduceLT, Int.reduceLE, Int.reduceAdd, Int.reduceSub, Int.reduceToNat, Int.reduceBEq, Int.reduceBNe, Int.reduceMul, Nat.reduceBEq, Nat.reduceBNe, Nat.reduceLT, Nat.reduceLeDiff, Nat.reduceMul, Nat.reduceEqDiff, WD, effB, effH, isPriv, isHeap, isImm, zbx, zby, zbz, chkO, setD, dslot, zca, zcb, zcc, zcd, ptrCells_some, F50]
  refine wC_dr alts50_3 (by kernel_rfl) ?_
  have hfail := badD hR' 3 s.at_
  have h3c : ((3 : Nat) : Int) = 3 := rfl
  rw [h3c] at hfail
  have hff := failS_ok (s := ⟨q, e⟩) (e := 3) (p := s.at_) hR'.o hs
  cases e with
  | succ e1 =>
    obtain rfl := hn0 (by omega)
    have h00 : (((e1 + 1 : Nat) : Int) == 0) = false := by rw [beq_eq_false_iff_ne]; omega
    have h01 : (((e1 + 1 : Nat) : Int) != 0) = true := by simp only [bne_iff_ne, ne_eq]; omega
    have hd : decide (L.length - q < 0) = false := decide_eq_false (by omega)
    have hc : countOf L s.at_ (0, ⟨q, e1 + 1⟩) = (0, ⟨q, e1 + 1⟩) := by simp only [countOf, hd]
    simp only [WW, partV, eqCells, eqLf, minV, maxV, ifcV, zaa, zab, zac, zad, zae, zaf, zag, zah, zai, ofConst, ofConst1, List.replicate, zaj, zak, loadOp, Go.Abs.loadCells, binV, zal, pickV, zam, zan, zao, zap, zaq, zar, zas, zat, zau, outR, resAll, resOne, zav, zaw, zax, zay, zaz, zba, zbb, zbc, zbd, zbe, zbf, zbg, zbh, zbi, zbj, zbk, storeOp, storeCell, overlay, zbl, zbm, zbn, lookupOp, keyT, okRes, mapUpdateOp, zbo, zbp, zbq, zbr, zbs, zbt, zbu, Nat.reduceSub, Nat.reduceAdd, Int.reduceLT, Int.reduceLE, Int.reduceAdd, Int.reduceSub, Int.reduceToNat, Int.reduceBEq, Int.reduceBNe, Int.reduceMul, Nat.reduceBEq, Nat.reduceBNe, Nat.reduceLT, Nat.reduceLeDiff, Nat.reduceMul, Nat.reduceEqDiff, WD, effB, effH, isPriv, isHeap, isImm, zbx, zby, zbz, chkO, setD, dslot, zca, zcb, zcc, zcd, ptrCells_some, F50, hb, h00, h01, alts50_3]
    rw [hc]
    exact ⟨rfl, hf, hR'⟩
  | zero =>
    have h00 : (((0 : Nat) : Int) == 0) = true := rfl
    by_cases hd : L.length - q < n
    · have g : decide ((L.length : Int) - (q : Int) < (n : Int)) = true := decide_eq_true (by omega)
      have hc : countOf L s.at_ (n, ⟨q, 0⟩) = (0, failS ⟨q, 0⟩ 3 s.at_) := by simp only [countOf, decide_eq_true hd]
      simp only [WW, partV, eqCells, eqLf, minV, maxV, ifcV, zaa, zab, zac, zad, zae, zaf, zag, zah, zai, ofConst, ofConst1, List.replicate, zaj, zak, loadOp, Go.Abs.loadCells, binV, zal, pickV, zam, zan, zao, zap, zaq, zar, zas, zat, zau, outR, resAll, resOne, zav, zaw, zax, zay, zaz, zba, zbb, zbc, zbd, zbe, zbf, zbg, zbh, zbi, zbj, zbk, storeOp, storeCell, overlay, zbl, zbm, zbn, lookupOp, keyT, okRes, mapUpdateOp, zbo, zbp, zbq, zbr, zbs, zbt, zbu, Nat.reduceSub, Nat.reduceAdd, Int.reduceLT, Int.reduceLE, Int.reduceAdd, Int.reduceSub, Int.reduceToNat, Int.reduceBEq, Int.reduceBNe, Int.reduceMul, Nat.reduceBEq, Nat.reduceBNe, Nat.reduceLT, Nat.reduceLeDiff, Nat.reduceMul, Nat.reduceEqDiff, WD, effB, effH, isPriv, isHeap, isImm, zbx, zby, zbz, chkO, setD, dslot, zca, zcb, zcc, zcd, ptrCells_some, F50, hb, h00, hx.shutIn, hx.len, hw1, g, alts50_3]
      rw [wpCall_eq hfail, hc]
      have hR2 := hR'.to hff
      have hb3 : (H'.set w (rdr x (failS ⟨q, 0⟩ 3 s.at_)))[w]? = some (.cells [.agg [x, .int .i64 (s.at_ : Nat), .int .i64 3]]) := hR2.b
      have h31 : ((3 : Int) != 0) = true := rfl
      simp only [WW, partV, eqCells, eqLf, minV, maxV, ifcV, zaa, zab, zac, zad, zae, zaf, zag, zah, zai, ofConst, ofConst1, List.replicate, zaj, zak, loadOp, Go.Abs.loadCells, binV, zal, pickV, zam, zan, zao, zap, zaq, zar, zas, zat, zau, outR, resAll, resOne, zav, zaw, zax, zay, zaz, zba, zbb, zbc, zbd, zbe, zbf, zbg, zbh, zbi, zbj, zbk, storeOp, storeCell, overlay, zbl, zbm, zbn, lookupOp, keyT, okRes, mapUpdateOp, zbo, zbp, zbq, zbr, zbs, zbt, zbu, Nat.reduceSub, Nat.reduceAdd, Int.reduceLT, Int.reduceLE, Int.reduceAdd, Int.reduceSub, Int.reduceToNat, Int.reduceBEq, Int.reduceBNe, Int.reduceMul, Nat.reduceBEq, Nat.reduceBNe, Nat.reduceLT, Nat.reduceLeDiff, Nat.reduceMul, Nat.reduceEqDiff, WD, effB, effH, isPriv, isHeap, isImm, zbx, zby, zbz, chkO, setD, dslot, zca, zcb, zcc, zcd, ptrCells_some, F50, hb3, h31]
      exact ⟨rfl, hf.trans (Ff.set _), hR2⟩
    · have g : decide ((L.length : Int) - (q : Int) < (n : Int)) = false := decide_eq_false (by omega)
      have hc : countOf L s.at_ (n, ⟨q, 0⟩) = (n, ⟨q, 0⟩) := by simp only [countOf, decide_eq_false hd]
      have h01 : (((0 : Nat) : Int) != 0) = false := rfl
      simp only [WW, partV, eqCells, eqLf, minV, maxV, ifcV, zaa, zab, zac, zad, zae, zaf, zag, zah, zai, ofConst, ofConst1, List.replicate, zaj, zak, loadOp, Go.Abs.loadCells, binV, zal, pickV, zam, zan, zao, zap, zaq, zar, zas, zat, zau, outR, resAll, resOne, zav, zaw, zax, zay, zaz, zba, zbb, zbc, zbd, zbe, zbf, zbg, zbh, zbi, zbj, zbk, storeOp, storeCell, overlay, zbl, zbm, zbn, lookupOp, keyT, okRes, mapUpdateOp, zbo, zbp, zbq, zbr, zbs, zbt, zbu, Nat.reduceSub, Nat.reduceAdd, Int.reduceLT, Int.reduceLE, Int.reduceAdd, Int.reduceSub, Int.reduceToNat, Int.reduceBEq, Int.reduceBNe, Int.reduceMul, Nat.reduceBEq, Nat.reduceBNe, Nat.reduceLT, Nat.reduceLeDiff, Nat.reduceMul, Nat.reduceEqDiff, WD, effB, effH, isPriv, isHeap, isImm, zbx, zby, zbz, chkO, setD, dslot, zca, zcb, zcc, zcd, ptrCells_some, F50, hb, h00, hx.shutIn, hx.len, hw1, g, h01, alts50_3]
      rw [hc]
      exact ⟨rfl, hf, hR'⟩
end Go.Proofs.YtgjobbmbbedecaaDoor
