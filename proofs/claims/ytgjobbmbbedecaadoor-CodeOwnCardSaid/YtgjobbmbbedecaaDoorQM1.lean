/- A part of the proofs over this seat. -/
import Derived.Test.YtgjobbmbbedecaaDoorQK1
import Derived.Test.YtgjobbmbbedecaaDoorQAbsTv
import Derived.Test.YtgjobbmbbedecaaDoorQAbsSl
/- The writer's numbers, and what fails. -/
namespace Go.Proofs.YtgjobbmbbedecaaDoor
open Go Go.Abs Go.Proofs
set_option maxRecDepth 100000
set_option maxHeartbeats 2000000
set_option linter.unusedVariables false
set_option linter.unusedSimpArgs false
noncomputable abbrev EW := evW Tryd.prog notes
theorem num_eq (n : Int) (H : Hp) : EW 15 [.int .i64 n] H = some (.ret (.int .i64 n) false, H) := by
  refine eqOf (runsP f15 b15 r15 n15 _ rfl _ ?_)
  simp only [bodyOf, Tryd.f15, Option.getD_some]
  repeat' (first | simp only [WW, partV, eqCells, eqLf, minV, maxV, ifcV, zaa, zab, zac, zad, zae, zaf, zag, zah, zai, ofConst, ofConst1, List.replicate, zaj, zak, loadOp, Go.Abs.loadCells, binV, zal, pickV, zam, zan, zao, zap, zaq, zar, zas, zat, zau, outR, resAll, resOne, zav, zaw, zax, zay, zaz, zba, zbb, zbc, zbd, zbe, zbf, zbg, zbh, zbi, zbj, zbk, storeOp, storeCell, overlay, zbl, zbm, zbn, lookupOp, keyT, okRes, mapUpdateOp, zbo, zbp, zbq, zbr, zbs, zbt, zbu, Nat.reduceSub, Nat.reduceAdd, Int.reduceLT, Int.reduceLE, Int.reduceAdd, Int.reduceSub, Int.reduceToNat, Int.reduceBEq, Int.reduceBNe, Int.reduceMul, Nat.reduceBEq, Nat.reduceBNe, Nat.reduceLT, Nat.reduceLeDiff, Nat.reduceMul, Nat.reduceEqDiff, WD, effB, effH, isPriv, isHeap, isImm, zbx, zby, zbz, chkO, setD, dslot, zca, zcb, zcc, zcd, ptrCells_some, convertOp] | refine wC_dr [] (by kernel_rfl) ?_ | refine cSplit (fun hb => ?_) (fun hb => ?_) | refine gSplit (fun hb => ?_) (fun hb => ?_))
  all_goals rfl
/-- A number as bytes -/
def encN (n : Nat) : List Nat := if n < 128 then [n] else (128 + n % 128) :: encN (n / 128)
termination_by n
decreasing_by omega
theorem encN_small {n : Nat} (h : n < 128) : encN n = [n] := by rw [encN, if_pos h]
theorem encN_big {n : Nat} (h : ¬ n < 128) : encN n = (128 + n % 128) :: encN (n / 128) := by rw [encN, if_neg h]
def bs (l : List Nat) : List V := l.map fun (n : Nat) => V.int .u8 n
theorem bs_app (a b : List Nat) : bs (a ++ b) = bs a ++ bs b := by simp [bs]
theorem bs_len (a : List Nat) : (bs a).length = a.length := by simp [bs]
theorem elemOk5 {n : Nat} (hn : n ≤ 70368744177664) : elemOk Tryd.prog 5 n = true := by
  have h1 : Tryd.prog.cellsOf 5 = 1 := by kernel_rfl
  have h2 : zeroT Tryd.prog 5 = .int .u8 0 := by kernel_rfl
  have h3 : sizeT Tryd.prog 5 = 1 := by kernel_rfl
  have h4 : Tryd.prog.bytesOf 5 = 1 := by kernel_rfl
  unfold elemOk
  rw [h1, h2, h3, h4]
  have a : decide (n * 1 ≤ 70368744177664) = true := decide_eq_true (by omega)
  have b : decide (n ≤ 4611686018427387904) = true := decide_eq_true (by omega)
  rw [a, b]
  rfl

theorem app_heap {H : Hp} {N : Nat → Prop} {x : V} {l : List V} {d : Option Nat} (vs : List V) (hx : SlW 1 H N x l) (hN : ∀ i, N i → i < H.length) (hv : wideAll vs 1 = true) (hne : vs ≠ []) (hlen : l.length + vs.length ≤ 70368744177664) :
    ∃ x' H', (∀ st, appendOp Tryd.prog .heap st H d 5 x vs = some (putS st d (.v x'), H')) ∧ SlW 1 H' N x' (l ++ vs) ∧ (∀ i, N i → H'[i]? = H[i]?) ∧ H.length ≤ H'.length :=
  app_sl vs size5 hx hN hv hne (elemOk5 hlen)
theorem or128 (n : Nat) : IntKind.u8.wrap ((BitVec.ofInt 8 (IntKind.u8.wrap n) ||| BitVec.ofInt 8 128).toNat : Nat) = ((128 + n % 128 : Nat) : Int) := by
  have key : ∀ k : Fin 256, IntKind.u8.wrap ((BitVec.ofInt 8 ((k.val : Nat) : Int) ||| BitVec.ofInt 8 128).toNat : Nat) = ((128 + k.val % 128 : Nat) : Int) := by decide +kernel
  have hw : IntKind.u8.wrap n = ((n % 256 : Nat) : Int) := by simp [IntKind.wrap, IntKind.bits, IntKind.signed]
  rw [hw]
  have := key ⟨n % 256, Nat.mod_lt _ (by decide)⟩
  simp only at this
  rw [this]
  omega
theorem shr7 (n : Nat) : (n : Int).fdiv (2 ^ 7) = ((n / 128 : Nat) : Int) := by
  rw [Int.fdiv_eq_ediv_of_nonneg _ (by decide)]; norm_cast
theorem u8_small {n : Nat} (h : n < 128) : IntKind.u8.wrap n = (n : Int) := by
  simp [IntKind.wrap, IntKind.bits, IntKind.signed]; omega
theorem or128' (n : Nat) : IntKind.u8.wrap ((BitVec.ofInt IntKind.u8.bits (IntKind.u8.wrap n) ||| BitVec.ofInt IntKind.u8.bits 128).toNat : Nat) = ((128 + n % 128 : Nat) : Int) := or128 n
theorem encN_len : ∀ (k n : Nat), n < 128 ^ (k + 1) → (encN n).length ≤ k + 1
  | 0, n, h => by rw [encN_small (by simpa using h)]; simp
  | k + 1, n, h => by
    by_cases hs : n < 128
    · rw [encN_small hs]; simp
    · rw [encN_big hs]
      have := encN_len k (n / 128) (by rw [Nat.div_lt_iff_lt_mul (by decide)]; rw [Nat.pow_succ] at h; exact h)
      simp only [List.length_cons]; omega
theorem encN_len9 {n : Nat} (h : n ≤ 4611686018427387903) : (encN n).length ≤ 9 := encN_len 8 n (by omega)
/-- What a writer holds: the bytes l, no error -/
def Wr (H : Hp) (N : Nat → Prop) (w : Nat) (l : List V) : Prop := ∃ x, SlW 1 H N x l ∧ H[w]? = some (.cells [.agg [x, .int .i64 0]])
def Fr0 (N : Nat → Prop) (w : Nat) (H H' : Hp) : Prop := H.length ≤ H'.length ∧ ∀ i, N i → i ≠ w → H'[i]? = H[i]?
theorem Fr0.trans {N : Nat → Prop} {w : Nat} {H H1 H2 : Hp} (a : Fr0 N w H H1) (b : Fr0 N w H1 H2) : Fr0 N w H H2 := ⟨Nat.le_trans a.1 b.1, fun i h1 h2 => (b.2 i h1 h2).trans (a.2 i h1 h2)⟩
theorem number_spec {H : Hp} {N : Nat → Prop} {l : List V} {w : Nat} (hN : ∀ i, N i → i < H.length) (hw : N w) (hW : Wr H N w l) (n : Nat) (hn : n ≤ 4611686018427387903) (hl : l.length ≤ 5000000) :
    wpCall EW 28 [.ptr w 0 0, .int .i64 n] H (fun out H' => out = .ret (.tup []) false ∧ Fr0 N w H H' ∧ Wr H' N w (l ++ bs (encN n))) := by
  obtain ⟨x, hx, hb⟩ := hW
  refine runs f28 b28 r28 n28 _ _ ?_
  simp only [bodyOf, Tryd.f28, Option.getD_some]
  have h1 : decide ((n : Int) < 0) = false := decide_eq_false (by omega)
  have h2 : decide ((4611686018427387903 : Int) < (n : Int)) = false := decide_eq_false (by omega)
  have h3 : ((0 : Int) != 0) = false := rfl
  simp only [WW, partV, eqCells, eqLf, minV, maxV, ifcV, zaa, zab, zac, zad, zae, zaf, zag, zah, zai, ofConst, ofConst1, List.replicate, zaj, zak, loadOp, Go.Abs.loadCells, binV, zal, pickV, zam, zan, zao, zap, zaq, zar, zas, zat, zau, outR, resAll, resOne, zav, zaw, zax, zay, zaz, zba, zbb, zbc, zbd, zbe, zbf, zbg, zbh, zbi, zbj, zbk, storeOp, storeCell, overlay, zbl, zbm, zbn, lookupOp, keyT, okRes, mapUpdateOp, zbo, zbp, zbq, zbr, zbs, zbt, zbu, Nat.reduceSub, Nat.reduceAdd, Int.reduceLT, Int.reduceLE, Int.reduceAdd, Int.reduceSub, Int.reduceToNat, Int.reduceBEq, Int.reduceBNe, Int.reduceMul, Nat.reduceBEq, Nat.reduceBNe, Nat.reduceLT, Nat.reduceLeDiff, Nat.reduceMul, Nat.reduceEqDiff, WD, effB, effH, isPriv, isHeap, isImm, zbx, zby, zbz, chkO, setD, dslot, zca, zcb, zcc, zcd, ptrCells_some, F28, h1, h2, hb, hx.shut, h3, bne_self_eq_false]
  refine wC_loop _ (fun k st' H' => ∃ m : Nat, ∃ x' lc, st' = ⟨L28_3 (.v (.ptr w 0 0)) (.v (.int .i64 m)), [], []⟩ ∧ k = m ∧ SlW 1 H' N x' lc ∧ H'[w]? = some (.cells [.agg [x', .int .i64 0]]) ∧ lc ++ bs (encN m) = l ++ bs (encN n) ∧ Fr0 N w H H' ∧ m ≤ n) n ⟨n, x, l, ?_, rfl, hx, hb, rfl, ⟨Nat.le_refl _, fun _ _ _ => rfl⟩, Nat.le_refl _⟩ ?_
  · simp only [WN, firstReg, growAll, zbv, zbw, norm, killS, zag, zah, zaa, zab, zbl, zat, zad, growOne, zae, zaf, zac, zas, zak, Nat.reduceLT, Nat.reduceAdd, zbj, zav, F28, L28_3]
  · rintro m st' H' ⟨_, x', lc, rfl, rfl, hx', hb', he, hf, hmn⟩
    simp only [L28_3]
    simp only [WW, partV, eqCells, eqLf, minV, maxV, ifcV, zaa, zab, zac, zad, zae, zaf, zag, zah, zai, ofConst, ofConst1, List.replicate, zaj, zak, loadOp, Go.Abs.loadCells, binV, zal, pickV, zam, zan, zao, zap, zaq, zar, zas, zat, zau, outR, resAll, resOne, zav, zaw, zax, zay, zaz, zba, zbb, zbc, zbd, zbe, zbf, zbg, zbh, zbi, zbj, zbk, storeOp, storeCell, overlay, zbl, zbm, zbn, lookupOp, keyT, okRes, mapUpdateOp, zbo, zbp, zbq, zbr, zbs, zbt, zbu, Nat.reduceSub, Nat.reduceAdd, Int.reduceLT, Int.reduceLE, Int.reduceAdd, Int.reduceSub, Int.reduceToNat, Int.reduceBEq, Int.reduceBNe, Int.reduceMul, Nat.reduceBEq, Nat.reduceBNe, Nat.reduceLT, Nat.reduceLeDiff, Nat.reduceMul, Nat.reduceEqDiff, WD, effB, effH, isPriv, isHeap, isImm, zbx, zby, zbz, chkO, setD, dslot, zca, zcb, zcc, zcd, ptrCells_some, F28]
    have hN' : ∀ i, N i → i < H'.length := fun i hi => Nat.lt_of_lt_of_le (hN i hi) hf.1
    have hlc : lc.length ≤ l.length + 9 := by
      have := congrArg List.length he
      simp only [List.length_append, bs_len] at this
      have := encN_len9 hn
      omega
    refine cSplit (fun hge => ?_) (fun hlt => ?_)
    · have hm : ¬ m < 128 := by have := of_decide_eq_true hge; omega
      simp only [hge]
      obtain ⟨x2, H2, ha, hx2, hf2, hl2⟩ := app_heap (d := some 30) [.int .u8 ((128 + m % 128 : Nat) : Int)] hx' hN' rfl (by simp) (by simp; omega)
      have hb2 : H2[w]? = some (.cells [.agg [x', .int .i64 0]]) := (hf2 w hw).trans hb'
      simp only [WW, partV, eqCells, eqLf, minV, maxV, ifcV, zaa, zab, zac, zad, zae, zaf, zag, zah, zai, ofConst, ofConst1, List.replicate, zaj, zak, loadOp, Go.Abs.loadCells, binV, zal, pickV, zam, zan, zao, zap, zaq, zar, zas, zat, zau, outR, resAll, resOne, zav, zaw, zax, zay, zaz, zba, zbb, zbc, zbd, zbe, zbf, zbg, zbh, zbi, zbj, zbk, storeOp, storeCell, overlay, zbl, zbm, zbn, lookupOp, keyT, okRes, mapUpdateOp, zbo, zbp, zbq, zbr, zbs, zbt, zbu, Nat.reduceSub, Nat.reduceAdd, Int.reduceLT, Int.reduceLE, Int.reduceAdd, Int.reduceSub, Int.reduceToNat, Int.reduceBEq, Int.reduceBNe, Int.reduceMul, Nat.reduceBEq, Nat.reduceBNe, Nat.reduceLT, Nat.reduceLeDiff, Nat.reduceMul, Nat.reduceEqDiff, WD, effB, effH, isPriv, isHeap, isImm, zbx, zby, zbz, chkO, setD, dslot, zca, zcb, zcc, zcd, ptrCells_some, F28, hb', hx'.shut, hx'.cells1, convertOp, or128', buildSliceV, lits, srcV, frow, rowV, zbv, zbw, List.all_nil, List.all_cons, ne_eq, Nat.one_ne_zero, not_false_eq_true, ha]
      have hb3 : (H2.set w (.cells [.agg [x2, .int .i64 0]]))[w]? = some (.cells [.agg [x2, .int .i64 0]]) := List.getElem?_set_self (Nat.lt_of_lt_of_le (hN' w hw) hl2)
      simp only [WW, partV, eqCells, eqLf, minV, maxV, ifcV, zaa, zab, zac, zad, zae, zaf, zag, zah, zai, ofConst, ofConst1, List.replicate, zaj, zak, loadOp, Go.Abs.loadCells, binV, zal, pickV, zam, zan, zao, zap, zaq, zar, zas, zat, zau, outR, resAll, resOne, zav, zaw, zax, zay, zaz, zba, zbb, zbc, zbd, zbe, zbf, zbg, zbh, zbi, zbj, zbk, storeOp, storeCell, overlay, zbl, zbm, zbn, lookupOp, keyT, okRes, mapUpdateOp, zbo, zbp, zbq, zbr, zbs, zbt, zbu, Nat.reduceSub, Nat.reduceAdd, Int.reduceLT, Int.reduceLE, Int.reduceAdd, Int.reduceSub, Int.reduceToNat, Int.reduceBEq, Int.reduceBNe, Int.reduceMul, Nat.reduceBEq, Nat.reduceBNe, Nat.reduceLT, Nat.reduceLeDiff, Nat.reduceMul, Nat.reduceEqDiff, WD, effB, effH, isPriv, isHeap, isImm, zbx, zby, zbz, chkO, setD, dslot, zca, zcb, zcc, zcd, ptrCells_some, F28, storeHeap, hx2.prom, heapSet, elemSet, hb2, hx2.shut, hx2.cells1, hx2.ok, hx2.width1]
      refine ⟨m / 128, by omega, m / 128, x2, lc ++ [.int .u8 ((128 + m % 128 : Nat) : Int)], ?_, rfl, hx2.set hw _, hb3, ?_, ⟨?_, fun i h4 h5 => ?_⟩, by omega⟩
      · simp only [WN, firstReg, growAll, zbv, zbw, norm, killS, zag, zah, zaa, zab, zbl, zat, zad, growOne, zae, zaf, zac, zas, zak, Nat.reduceLT, Nat.reduceAdd, zbj, zav, F28]
        rw [show min 7 IntKind.i64.bits = 7 from rfl, shr7]
      · rw [encN_big hm] at he
        rw [← he]
        simp [bs]
      · rw [List.length_set]; exact Nat.le_trans hf.1 hl2
      · rw [List.getElem?_set, if_neg (fun h => h5 h.symm), hf2 i h4]; exact hf.2 i h4 h5
    · have hm : m < 128 := by have := of_decide_eq_false hlt; omega
      simp only [hlt]
      obtain ⟨x2, H2, ha, hx2, hf2, hl2⟩ := app_heap (d := some 41) [.int .u8 (m : Int)] hx' hN' rfl (by simp) (by simp; omega)
      have hb2 : H2[w]? = some (.cells [.agg [x', .int .i64 0]]) := (hf2 w hw).trans hb'
      have hb3 : (H2.set w (.cells [.agg [x2, .int .i64 0]]))[w]? = some (.cells [.agg [x2, .int .i64 0]]) := List.getElem?_set_self (Nat.lt_of_lt_of_le (hN' w hw) hl2)
      simp only [WW, partV, eqCells, eqLf, minV, maxV, ifcV, zaa, zab, zac, zad, zae, zaf, zag, zah, zai, ofConst, ofConst1, List.replicate, zaj, zak, loadOp, Go.Abs.loadCells, binV, zal, pickV, zam, zan, zao, zap, zaq, zar, zas, zat, zau, outR, resAll, resOne, zav, zaw, zax, zay, zaz, zba, zbb, zbc, zbd, zbe, zbf, zbg, zbh, zbi, zbj, zbk, storeOp, storeCell, overlay, zbl, zbm, zbn, lookupOp, keyT, okRes, mapUpdateOp, zbo, zbp, zbq, zbr, zbs, zbt, zbu, Nat.reduceSub, Nat.reduceAdd, Int.reduceLT, Int.reduceLE, Int.reduceAdd, Int.reduceSub, Int.reduceToNat, Int.reduceBEq, Int.reduceBNe, Int.reduceMul, Nat.reduceBEq, Nat.reduceBNe, Nat.reduceLT, Nat.reduceLeDiff, Nat.reduceMul, Nat.reduceEqDiff, WD, effB, effH, isPriv, isHeap, isImm, zbx, zby, zbz, chkO, setD, dslot, zca, zcb, zcc, zcd, ptrCells_some, F28, hb', hx'.shut, hx'.cells1, convertOp, u8_small hm, buildSliceV, lits, srcV, frow, rowV, zbv, zbw, List.all_nil, List.all_cons, ne_eq, Nat.one_ne_zero, not_false_eq_true, ha]
      simp only [WW, partV, eqCells, eqLf, minV, maxV, ifcV, zaa, zab, zac, zad, zae, zaf, zag, zah, zai, ofConst, ofConst1, List.replicate, zaj, zak, loadOp, Go.Abs.loadCells, binV, zal, pickV, zam, zan, zao, zap, zaq, zar, zas, zat, zau, outR, resAll, resOne, zav, zaw, zax, zay, zaz, zba, zbb, zbc, zbd, zbe, zbf, zbg, zbh, zbi, zbj, zbk, storeOp, storeCell, overlay, zbl, zbm, zbn, lookupOp, keyT, okRes, mapUpdateOp, zbo, zbp, zbq, zbr, zbs, zbt, zbu, Nat.reduceSub, Nat.reduceAdd, Int.reduceLT, Int.reduceLE, Int.reduceAdd, Int.reduceSub, Int.reduceToNat, Int.reduceBEq, Int.reduceBNe, Int.reduceMul, Nat.reduceBEq, Nat.reduceBNe, Nat.reduceLT, Nat.reduceLeDiff, Nat.reduceMul, Nat.reduceEqDiff, WD, effB, effH, isPriv, isHeap, isImm, zbx, zby, zbz, chkO, setD, dslot, zca, zcb, zcc, zcd, ptrCells_some, F28, storeHeap, hx2.prom, heapSet, elemSet, hb2, hx2.shut, hx2.cells1, hx2.ok, hx2.width1]
      refine ⟨⟨?_, fun i h4 h5 => ?_⟩, x2, ?_, hb3⟩
      · rw [List.length_set]; exact Nat.le_trans hf.1 hl2
      · rw [List.getElem?_set, if_neg (fun h => h5 h.symm), hf2 i h4]; exact hf.2 i h4 h5
      · rw [← he, encN_small hm]
        have := hx2.set hw (.cells [.agg [x2, .int .i64 0]])
        simpa [bs] using this
theorem fail_spec {H : Hp} {w : Nat} {x : V} (hx : ∀ st, sealV st x = x) (hb : H[w]? = some (.cells [.agg [x, .int .i64 0]])) (e : Int) :
    EW 29 [.ptr w 0 0, .int .i64 e] H = some (.ret (.tup []) false, H.set w (.cells [.agg [x, .int .i64 e]])) := by
  have key : wpCall EW 29 [.ptr w 0 0, .int .i64 e] H (fun out H' => out = .ret (.tup []) false ∧ H' = H.set w (.cells [.agg [x, .int .i64 e]])) := by
    refine runs f29 b29 r29 n29 _ _ ?_
    simp only [bodyOf, Tryd.f29, Option.getD_some]
    have h3 : ((0 : Int) == 0) = true := rfl
    simp only [WW, partV, eqCells, eqLf, minV, maxV, ifcV, zaa, zab, zac, zad, zae, zaf, zag, zah, zai, ofConst, ofConst1, List.replicate, zaj, zak, loadOp, Go.Abs.loadCells, binV, zal, pickV, zam, zan, zao, zap, zaq, zar, zas, zat, zau, outR, resAll, resOne, zav, zaw, zax, zay, zaz, zba, zbb, zbc, zbd, zbe, zbf, zbg, zbh, zbi, zbj, zbk, storeOp, storeCell, overlay, zbl, zbm, zbn, lookupOp, keyT, okRes, mapUpdateOp, zbo, zbp, zbq, zbr, zbs, zbt, zbu, Nat.reduceSub, Nat.reduceAdd, Int.reduceLT, Int.reduceLE, Int.reduceAdd, Int.reduceSub, Int.reduceToNat, Int.reduceBEq, Int.reduceBNe, Int.reduceMul, Nat.reduceBEq, Nat.reduceBNe, Nat.reduceLT, Nat.reduceLeDiff, Nat.reduceMul, Nat.reduceEqDiff, WD, effB, effH, isPriv, isHeap, isImm, zbx, zby, zbz, chkO, setD, dslot, zca, zcb, zcc, zcd, ptrCells_some, F29, hb, h3, storeHeap, promote, heapSet, elemSet]
  unfold wpCall at key
  cases hc : EW 29 [.ptr w 0 0, .int .i64 e] H with
  | none => rw [hc] at key; exact key.elim
  | some x => rw [hc] at key; obtain ⟨o, H'⟩ := x; obtain ⟨h1, h2⟩ := key; simp only at h1 h2; rw [h1, h2]
theorem number_bad {H : Hp} {w : Nat} {x : V} (hx : ∀ st, sealV st x = x) (hb : H[w]? = some (.cells [.agg [x, .int .i64 0]])) (n : Int) (hn : n < 0 ∨ 4611686018427387903 < n) :
    wpCall EW 28 [.ptr w 0 0, .int .i64 n] H (fun out H' => out = .ret (.tup []) false ∧ H' = H.set w (.cells [.agg [x, .int .i64 1]])) := by
  refine runs f28 b28 r28 n28 _ _ ?_
  simp only [bodyOf, Tryd.f28, Option.getD_some]
  simp only [WW, partV, eqCells, eqLf, minV, maxV, ifcV, zaa, zab, zac, zad, zae, zaf, zag, zah, zai, ofConst, ofConst1, List.replicate, zaj, zak, loadOp, Go.Abs.loadCells, binV, zal, pickV, zam, zan, zao, zap, zaq, zar, zas, zat, zau, outR, resAll, resOne, zav, zaw, zax, zay, zaz, zba, zbb, zbc, zbd, zbe, zbf, zbg, zbh, zbi, zbj, zbk, storeOp, storeCell, overlay, zbl, zbm, zbn, lookupOp, keyT, okRes, mapUpdateOp, zbo, zbp, zbq, zbr, zbs, zbt, zbu, Nat.reduceSub, Nat.reduceAdd, Int.reduceLT, Int.reduceLE, Int.reduceAdd, Int.reduceSub, Int.reduceToNat, Int.reduceBEq, Int.reduceBNe, Int.reduceMul, Nat.reduceBEq, Nat.reduceBNe, Nat.reduceLT, Nat.reduceLeDiff, Nat.reduceMul, Nat.reduceEqDiff, WD, effB, effH, isPriv, isHeap, isImm, zbx, zby, zbz, chkO, setD, dslot, zca, zcb, zcc, zcd, ptrCells_some, F28]
  have hwl : w < H.length := (List.getElem?_eq_some_iff.1 hb).1
  have hb2 : (H.set w (.cells [.agg [x, .int .i64 1]]))[w]? = some (.cells [.agg [x, .int .i64 1]]) := List.getElem?_set_self hwl
  have h1 : ((1 : Int) != 0) = true := rfl
  refine gSplit (fun h0 => ?_) (fun h0 => ?_)
  · simp only [h0]
    simp only [WW, partV, eqCells, eqLf, minV, maxV, ifcV, zaa, zab, zac, zad, zae, zaf, zag, zah, zai, ofConst, ofConst1, List.replicate, zaj, zak, loadOp, Go.Abs.loadCells, binV, zal, pickV, zam, zan, zao, zap, zaq, zar, zas, zat, zau, outR, resAll, resOne, zav, zaw, zax, zay, zaz, zba, zbb, zbc, zbd, zbe, zbf, zbg, zbh, zbi, zbj, zbk, storeOp, storeCell, overlay, zbl, zbm, zbn, lookupOp, keyT, okRes, mapUpdateOp, zbo, zbp, zbq, zbr, zbs, zbt, zbu, Nat.reduceSub, Nat.reduceAdd, Int.reduceLT, Int.reduceLE, Int.reduceAdd, Int.reduceSub, Int.reduceToNat, Int.reduceBEq, Int.reduceBNe, Int.reduceMul, Nat.reduceBEq, Nat.reduceBNe, Nat.reduceLT, Nat.reduceLeDiff, Nat.reduceMul, Nat.reduceEqDiff, WD, effB, effH, isPriv, isHeap, isImm, zbx, zby, zbz, chkO, setD, dslot, zca, zcb, zcc, zcd, ptrCells_some, F28]
    rw [wpCall_eq (fail_spec hx hb 1)]
    simp only [WW, partV, eqCells, eqLf, minV, maxV, ifcV, zaa, zab, zac, zad, zae, zaf, zag, zah, zai, ofConst, ofConst1, List.replicate, zaj, zak, loadOp, Go.Abs.loadCells, binV, zal, pickV, zam, zan, zao, zap, zaq, zar, zas, zat, zau, outR, resAll, resOne, zav, zaw, zax, zay, zaz, zba, zbb, zbc, zbd, zbe, zbf, zbg, zbh, zbi, zbj, zbk, storeOp, storeCell, overlay, zbl, zbm, zbn, lookupOp, keyT, okRes, mapUpdateOp, zbo, zbp, zbq, zbr, zbs, zbt, zbu, Nat.reduceSub, Nat.reduceAdd, Int.reduceLT, Int.reduceLE, Int.reduceAdd, Int.reduceSub, Int.reduceToNat, Int.reduceBEq, Int.reduceBNe, Int.reduceMul, Nat.reduceBEq, Nat.reduceBNe, Nat.reduceLT, Nat.reduceLeDiff, Nat.reduceMul, Nat.reduceEqDiff, WD, effB, effH, isPriv, isHeap, isImm, zbx, zby, zbz, chkO, setD, dslot, zca, zcb, zcc, zcd, ptrCells_some, F28, hb2, h1]
  · simp only [h0]
    simp only [WW, partV, eqCells, eqLf, minV, maxV, ifcV, zaa, zab, zac, zad, zae, zaf, zag, zah, zai, ofConst, ofConst1, List.replicate, zaj, zak, loadOp, Go.Abs.loadCells, binV, zal, pickV, zam, zan, zao, zap, zaq, zar, zas, zat, zau, outR, resAll, resOne, zav, zaw, zax, zay, zaz, zba, zbb, zbc, zbd, zbe, zbf, zbg, zbh, zbi, zbj, zbk, storeOp, storeCell, overlay, zbl, zbm, zbn, lookupOp, keyT, okRes, mapUpdateOp, zbo, zbp, zbq, zbr, zbs, zbt, zbu, Nat.reduceSub, Nat.reduceAdd, Int.reduceLT, Int.reduceLE, Int.reduceAdd, Int.reduceSub, Int.reduceToNat, Int.reduceBEq, Int.reduceBNe, Int.reduceMul, Nat.reduceBEq, Nat.reduceBNe, Nat.reduceLT, Nat.reduceLeDiff, Nat.reduceMul, Nat.reduceEqDiff, WD, effB, effH, isPriv, isHeap, isImm, zbx, zby, zbz, chkO, setD, dslot, zca, zcb, zcc, zcd, ptrCells_some, F28]
    have hg : decide (4611686018427387903 < n) = true := decide_eq_true (by have := of_decide_eq_false h0; omega)
    simp only [hg]
    simp only [WW, partV, eqCells, eqLf, minV, maxV, ifcV, zaa, zab, zac, zad, zae, zaf, zag, zah, zai, ofConst, ofConst1, List.replicate, zaj, zak, loadOp, Go.Abs.loadCells, binV, zal, pickV, zam, zan, zao, zap, zaq, zar, zas, zat, zau, outR, resAll, resOne, zav, zaw, zax, zay, zaz, zba, zbb, zbc, zbd, zbe, zbf, zbg, zbh, zbi, zbj, zbk, storeOp, storeCell, overlay, zbl, zbm, zbn, lookupOp, keyT, okRes, mapUpdateOp, zbo, zbp, zbq, zbr, zbs, zbt, zbu, Nat.reduceSub, Nat.reduceAdd, Int.reduceLT, Int.reduceLE, Int.reduceAdd, Int.reduceSub, Int.reduceToNat, Int.reduceBEq, Int.reduceBNe, Int.reduceMul, Nat.reduceBEq, Nat.reduceBNe, Nat.reduceLT, Nat.reduceLeDiff, Nat.reduceMul, Nat.reduceEqDiff, WD, effB, effH, isPriv, isHeap, isImm, zbx, zby, zbz, chkO, setD, dslot, zca, zcb, zcc, zcd, ptrCells_some, F28]
    rw [wpCall_eq (fail_spec hx hb 1)]
    simp only [WW, partV, eqCells, eqLf, minV, maxV, ifcV, zaa, zab, zac, zad, zae, zaf, zag, zah, zai, ofConst, ofConst1, List.replicate, zaj, zak, loadOp, Go.Abs.loadCells, binV, zal, pickV, zam, zan, zao, zap, zaq, zar, zas, zat, zau, outR, resAll, resOne, zav, zaw, zax, zay, zaz, zba, zbb, zbc, zbd, zbe, zbf, zbg, zbh, zbi, zbj, zbk, storeOp, storeCell, overlay, zbl, zbm, zbn, lookupOp, keyT, okRes, mapUpdateOp, zbo, zbp, zbq, zbr, zbs, zbt, zbu, Nat.reduceSub, Nat.reduceAdd, Int.reduceLT, Int.reduceLE, Int.reduceAdd, Int.reduceSub, Int.reduceToNat, Int.reduceBEq, Int.reduceBNe, Int.reduceMul, Nat.reduceBEq, Nat.reduceBNe, Nat.reduceLT, Nat.reduceLeDiff, Nat.reduceMul, Nat.reduceEqDiff, WD, effB, effH, isPriv, isHeap, isImm, zbx, zby, zbz, chkO, setD, dslot, zca, zcb, zcc, zcd, ptrCells_some, F28, hb2, h1]
theorem cut0 {H : Hp} {N : Nat → Prop} {x : V} {l : List V} (h : SlW 1 H N x l) : ∃ x', (∀ st, sliceOp Tryd.prog st H 29 x none (some (.int .i64 0)) none = some x') ∧ SlW 1 H N x' [] := by
  have h29 : ixT Tryd.prog 29 = .sl 5 := by kernel_rfl
  have h3 : sizeT Tryd.prog 5 = 1 := by kernel_rfl
  rcases h with ⟨rfl, rfl⟩ | ⟨s, es, rfl, h1, h2, h3', h4, h5, h6⟩
  · exact ⟨.nils, fun st => by simp [sliceOp, h29, viewV, sealV, boundV], .inl ⟨rfl, rfl⟩⟩
  · refine ⟨.sl s 0 0, fun st => by simp [sliceOp, h29, viewV, sealV, boundV, h2, h3, h6], .inr ⟨s, es, rfl, h1, h2, by simp, by simp, h5, h6⟩⟩
end Go.Proofs.YtgjobbmbbedecaaDoor

/- The model: an image, its bytes, which numbers can be told; how long the bytes are. -/
namespace Go.Proofs.YtgjobbmbbedecaaDoor
open Go Go.Abs Go.Proofs
set_option maxRecDepth 100000
set_option linter.unusedVariables false
set_option linter.unusedSimpArgs false
theorem wide_bs (l : List Nat) : wideAll (bs l) 1 = true := wide_mapN (f := fun (n : Nat) => V.int .u8 n) (fun _ => rfl) l
theorem drop_get {α : Type} {l : List α} {i : Nat} {a : α} (h : l[i]? = some a) : l.drop i = a :: l.drop (i + 1) := by
  obtain ⟨h1, h2⟩ := List.getElem?_eq_some_iff.1 h
  rw [List.drop_eq_getElem_cons h1, h2]
structure FnM where
  params : Int
  slots : Int
  boxes : List Int
  caps : List (Int × Int)
  code : List (Int × Int × Int)
  tries : List (Int × Int × Int × Int)
structure ImM where
  funs : List FnM
  strs : List ByteArray
  keys : List (List Int)
  globals : Int
def encI (n : Int) : List Nat := encN n.toNat
def zz (z : Int) : Int := if z < 0 then -2 * z - 1 else 2 * z
def encZ (z : Int) : List Nat := encI (zz z)
def encL {α : Type} (f : α → List Nat) (l : List α) : List Nat := encN l.length ++ l.flatMap f
def strB (s : ByteArray) : List Nat := s.data.toList.map (·.toNat)
def encS (s : ByteArray) : List Nat := encN s.size ++ strB s
def encCap (x : Int × Int) : List Nat := encI x.1 ++ encI x.2
def encIn (x : Int × Int × Int) : List Nat := encI x.1 ++ (encZ x.2.1 ++ encZ x.2.2)
def encTry (x : Int × Int × Int × Int) : List Nat := encI x.1 ++ (encI x.2.1 ++ (encI x.2.2.1 ++ encI x.2.2.2))
def encFn (c : FnM) : List Nat := encI c.params ++ (encI c.slots ++ (encL encI c.boxes ++ (encL encCap c.caps ++ (encL encIn c.code ++ encL encTry c.tries))))
def magicB : List Nat := [74, 81, 48, 49]
def encIm (im : ImM) : List Nat := magicB ++ (encL encS im.strs ++ (encL (encL encI) im.keys ++ (encI im.globals ++ encL encFn im.funs)))
/-! which numbers can be told -/
def plain (n : Int) : Bool := decide (0 ≤ n) && decide (n ≤ 4611686018427387903)
def signedOk (z : Int) : Bool := decide (-2305843009213693952 ≤ z) && decide (z ≤ 2305843009213693951)
def capOk (x : Int × Int) : Bool := plain x.1 && plain x.2
def inOk (x : Int × Int × Int) : Bool := plain x.1 && (signedOk x.2.1 && signedOk x.2.2)
def tryOk (x : Int × Int × Int × Int) : Bool := plain x.1 && (plain x.2.1 && (plain x.2.2.1 && plain x.2.2.2))
def fnOk (c : FnM) : Bool := plain c.params && (plain c.slots && (c.boxes.all plain && (c.caps.all capOk && (c.code.all inOk && c.tries.all tryOk))))
def imOk (im : ImM) : Bool := im.keys.all (fun k => k.all plain) && (plain im.globals && im.funs.all fnOk)
theorem plain_iff {n : Int} : plain n = true ↔ 0 ≤ n ∧ n ≤ 4611686018427387903 := by simp [plain]
theorem signed_iff {z : Int} : signedOk z = true ↔ -2305843009213693952 ≤ z ∧ z ≤ 2305843009213693951 := by simp [signedOk]
theorem zz_plain {z : Int} (h : signedOk z = true) : plain (zz z) = true := by
  rw [signed_iff] at h; rw [plain_iff]; unfold zz; split <;> omega
/-! how long the bytes are -/
theorem encI_len {n : Int} (h : plain n = true) : (encI n).length ≤ 9 := by
  rw [plain_iff] at h; exact encN_len9 (by omega)
theorem encN_len5 {n : Nat} (h : n ≤ 4000000) : (encN n).length ≤ 5 := encN_len 4 n (by omega)
theorem encZ_len {z : Int} (h : signedOk z = true) : (encZ z).length ≤ 9 := encI_len (zz_plain h)
theorem flat_len {α : Type} (f : α → List Nat) (m : Nat) : ∀ (l : List α), (∀ a ∈ l, (f a).length ≤ m) → (l.flatMap f).length ≤ l.length * m
  | [], _ => by simp
  | a :: l, h => by
    have h1 := h a (List.mem_cons_self ..)
    have h2 := flat_len f m l (fun b hb => h b (List.mem_cons_of_mem _ hb))
    simp only [List.flatMap_cons, List.length_append, List.length_cons, Nat.succ_mul]; omega
theorem encL_len {α : Type} (f : α → List Nat) (m k : Nat) {l : List α} (h : ∀ a ∈ l, (f a).length ≤ m) (hl : l.length ≤ k) (hk : k ≤ 4000000) : (encL f l).length ≤ 5 + k * m := by
  have h1 := flat_len f m l h
  have h2 := encN_len5 (n := l.length) (by omega)
  have h3 : l.length * m ≤ k * m := Nat.mul_le_mul_right _ hl
  simp only [encL, List.length_append]; omega
theorem all_mem {α : Type} {p : α → Bool} {l : List α} (h : l.all p = true) {a : α} (ha : a ∈ l) : p a = true := List.all_eq_true.1 h a ha
theorem encCap_len {x : Int × Int} (h : capOk x = true) : (encCap x).length ≤ 18 := by
  simp only [capOk, Bool.and_eq_true] at h
  have h1 := encI_len h.1
  have h2 := encI_len h.2
  simp only [encCap, List.length_append]; omega
theorem encIn_len {x : Int × Int × Int} (h : inOk x = true) : (encIn x).length ≤ 27 := by
  simp only [inOk, Bool.and_eq_true] at h
  have h1 := encI_len h.1
  have h2 := encZ_len h.2.1
  have h3 := encZ_len h.2.2
  simp only [encIn, List.length_append]; omega
theorem encTry_len {x : Int × Int × Int × Int} (h : tryOk x = true) : (encTry x).length ≤ 36 := by
  simp only [tryOk, Bool.and_eq_true] at h
  have h1 := encI_len h.1
  have h2 := encI_len h.2.1
  have h3 := encI_len h.2.2.1
  have h4 := encI_len h.2.2.2
  simp only [encTry, List.length_append]; omega
/-- A function that is asked -/
def fnSm (c : FnM) : Prop := c.boxes.length ≤ 100 ∧ c.caps.length ≤ 100 ∧ c.code.length ≤ 500 ∧ c.tries.length ≤ 50
def imSm (im : ImM) : Prop := im.funs.length ≤ 30 ∧ im.strs.length ≤ 100 ∧ im.keys.length ≤ 50 ∧ (∀ s ∈ im.strs, s.size ≤ 2000) ∧ (∀ k ∈ im.keys, k.length ≤ 100) ∧ ∀ c ∈ im.funs, fnSm c
/-- Not too great -/
def fnSz (c : FnM) : Prop := c.boxes.length ≤ 10000 ∧ c.caps.length ≤ 10000 ∧ c.code.length ≤ 10000 ∧ c.tries.length ≤ 10000
def imSz (im : ImM) : Prop := im.funs.length ≤ 10000 ∧ im.strs.length ≤ 10000 ∧ im.keys.length ≤ 10000 ∧ (∀ s ∈ im.strs, s.size ≤ 10000) ∧ (∀ k ∈ im.keys, k.length ≤ 10000) ∧ ∀ c ∈ im.funs, fnSz c
theorem fnSm.sz {c : FnM} (h : fnSm c) : fnSz c := by
  obtain ⟨h1, h2, h3, h4⟩ := h
  exact ⟨by omega, by omega, by omega, by omega⟩
theorem imSm.sz {im : ImM} (h : imSm im) : imSz im := by
  obtain ⟨h1, h2, h3, h4, h5, h6⟩ := h
  exact ⟨by omega, by omega, by omega, fun s hs => by have := h4 s hs; omega, fun s hs => by have := h5 s hs; omega, fun s hs => (h6 s hs).sz⟩
theorem encFn_len {c : FnM} (h : fnOk c = true) (hs : fnSm c) : (encFn c).length ≤ 20000 := by
  simp only [fnOk, Bool.and_eq_true] at h
  obtain ⟨h1, h2, h3, h4, h5, h6⟩ := h
  obtain ⟨s1, s2, s3, s4⟩ := hs
  have a1 := encI_len h1
  have a2 := encI_len h2
  have a3 := encL_len encI 9 100 (fun a ha => encI_len (all_mem h3 ha)) s1 (by omega)
  have a4 := encL_len encCap 18 100 (fun a ha => encCap_len (all_mem h4 ha)) s2 (by omega)
  have a5 := encL_len encIn 27 500 (fun a ha => encIn_len (all_mem h5 ha)) s3 (by omega)
  have a6 := encL_len encTry 36 50 (fun a ha => encTry_len (all_mem h6 ha)) s4 (by omega)
  simp only [encFn, List.length_append]; omega
theorem strB_len (s : ByteArray) : (strB s).length = s.size := by
  simp only [strB, List.length_map]; rfl
theorem encIm_len {im : ImM} (h : imOk im = true) (hs : imSm im) : (encIm im).length ≤ 1000000 := by
  simp only [imOk, Bool.and_eq_true] at h
  obtain ⟨h1, h2, h3⟩ := h
  obtain ⟨s1, s2, s3, s4, s5, s6⟩ := hs
  have a1 := encL_len encS 2005 100 (fun a ha => by
    have := s4 a ha
    have := encN_len5 (n := a.size) (by omega)
    simp only [encS, List.length_append, strB_len]; omega) s2 (by omega)
  have a2 := encL_len (encL encI) 905 50 (fun a ha => encL_len encI 9 100 (fun b hb => encI_len (all_mem (all_mem h1 ha) hb)) (s5 a ha) (by omega)) s3 (by omega)
  have a3 := encI_len h2
  have a4 := encL_len encFn 20000 30 (fun a ha => encFn_len (all_mem h3 ha) (s6 a ha)) s1 (by omega)
  simp only [encIm, magicB, List.length_append, List.length_cons, List.length_nil]; omega
/-! how a model lies in the evaluator's values -/
def capV (x : Int × Int) : V := .agg [.int .i64 x.1, .int .i64 x.2]
def inV (x : Int × Int × Int) : V := .agg [.int .i64 x.1, .int .i64 x.2.1, .int .i64 x.2.2]
def tryV (x : Int × Int × Int × Int) : V := .agg [.int .i64 x.1, .int .i64 x.2.1, .int .i64 x.2.2.1, .int .i64 x.2.2.2]
def intV (n : Int) : V := .int .i64 n
/-- A value that reads as a list in any heap: immutable -/
def RdA (x : V) (l : List V) : Prop := ∀ H, Rd H x l
structure FnV (v : V) (c : FnM) where
  k1 : V
  k2 : V
  k3 : V
  k4 : V
  e : v = .agg [.int .i64 c.params, .int .i64 c.slots, k1, k2, k3, k4]
  r1 : RdA k1 (c.boxes.map intV)
  r2 : RdA k2 (c.caps.map capV)
  r3 : RdA k3 (c.code.map inV)
  r4 : RdA k4 (c.tries.map tryV)
/-- values one by one -/
inductive All2 {α : Type} (R : V → α → Prop) : List V → List α → Prop
  | nil : All2 R [] []
  | cons {v : V} {a : α} {vs : List V} {us : List α} : R v a → All2 R vs us → All2 R (v :: vs) (a :: us)
theorem All2.len {α : Type} {R : V → α → Prop} {vs : List V} {us : List α} (h : All2 R vs us) : vs.length = us.length := by
  induction h with
  | nil => rfl
  | cons _ _ ih => simp [ih]
theorem All2.get {α : Type} {R : V → α → Prop} {vs : List V} {us : List α} (h : All2 R vs us) : ∀ {i : Nat} {a : α}, us[i]? = some a → ∃ v, vs[i]? = some v ∧ R v a := by
  induction h with
  | nil => intro i a hi; simp at hi
  | cons h1 _ ih =>
    intro i a hi
    cases i with
    | zero => simp only [List.getElem?_cons_zero, Option.some.injEq] at hi ⊢; subst hi; exact ⟨_, rfl, h1⟩
    | succ i => exact ih hi
theorem All2.map {α : Type} {R : V → α → Prop} (f : α → V) : ∀ (l : List α), (∀ a ∈ l, R (f a) a) → All2 R (l.map f) l
  | [], _ => .nil
  | a :: l, h => .cons (h a (List.mem_cons_self ..)) (All2.map f l fun b hb => h b (List.mem_cons_of_mem _ hb))
/-- An image -/
structure ImV (v : V) (im : ImM) where
  fu : V
  st : V
  ke : V
  fs : List V
  ks : List V
  e : v = .agg [fu, st, ke, .int .i64 im.globals]
  hf : RdA fu fs
  hs : RdA st (im.strs.map .str)
  hk : RdA ke ks
  f2 : All2 (fun v c => Nonempty (FnV v c)) fs im.funs
  k2 : All2 (fun v (l : List Int) => RdA v (l.map intV)) ks im.keys
end Go.Proofs.YtgjobbmbbedecaaDoor

/- The writer: numbers of either sign, and what a writer with a fault does. -/
namespace Go.Proofs.YtgjobbmbbedecaaDoor
open Go Go.Abs Go.Proofs
set_option maxRecDepth 100000
set_option maxHeartbeats 2000000
set_option linter.unusedVariables false
set_option linter.unusedSimpArgs false
def eI (ok : Bool) : Int := if ok then 0 else 1
theorem fail_err {H : Hp} {w : Nat} {x : V} (hx : ∀ st, sealV st x = x) (hb : H[w]? = some (.cells [.agg [x, .int .i64 1]])) (e : Int) :
    EW 29 [.ptr w 0 0, .int .i64 e] H = some (.ret (.tup []) false, H) := by
  refine eqOf (runs f29 b29 r29 n29 _ _ ?_)
  simp only [bodyOf, Tryd.f29, Option.getD_some]
  have h3 : ((1 : Int) == 0) = false := rfl
  simp only [WW, partV, eqCells, eqLf, minV, maxV, ifcV, zaa, zab, zac, zad, zae, zaf, zag, zah, zai, ofConst, ofConst1, List.replicate, zaj, zak, loadOp, Go.Abs.loadCells, binV, zal, pickV, zam, zan, zao, zap, zaq, zar, zas, zat, zau, outR, resAll, resOne, zav, zaw, zax, zay, zaz, zba, zbb, zbc, zbd, zbe, zbf, zbg, zbh, zbi, zbj, zbk, storeOp, storeCell, overlay, zbl, zbm, zbn, lookupOp, keyT, okRes, mapUpdateOp, zbo, zbp, zbq, zbr, zbs, zbt, zbu, Nat.reduceSub, Nat.reduceAdd, Int.reduceLT, Int.reduceLE, Int.reduceAdd, Int.reduceSub, Int.reduceToNat, Int.reduceBEq, Int.reduceBNe, Int.reduceMul, Nat.reduceBEq, Nat.reduceBNe, Nat.reduceLT, Nat.reduceLeDiff, Nat.reduceMul, Nat.reduceEqDiff, WD, effB, effH, isPriv, isHeap, isImm, zbx, zby, zbz, chkO, setD, dslot, zca, zcb, zcc, zcd, ptrCells_some, F29, hb, h3, storeHeap, promote, heapSet, elemSet]
theorem number_err {H : Hp} {w : Nat} {x : V} (hx : ∀ st, sealV st x = x) (hb : H[w]? = some (.cells [.agg [x, .int .i64 1]])) (n : Int) :
    EW 28 [.ptr w 0 0, .int .i64 n] H = some (.ret (.tup []) false, H) := by
  refine eqOf (runs f28 b28 r28 n28 _ _ ?_)
  simp only [bodyOf, Tryd.f28, Option.getD_some]
  simp only [WW, partV, eqCells, eqLf, minV, maxV, ifcV, zaa, zab, zac, zad, zae, zaf, zag, zah, zai, ofConst, ofConst1, List.replicate, zaj, zak, loadOp, Go.Abs.loadCells, binV, zal, pickV, zam, zan, zao, zap, zaq, zar, zas, zat, zau, outR, resAll, resOne, zav, zaw, zax, zay, zaz, zba, zbb, zbc, zbd, zbe, zbf, zbg, zbh, zbi, zbj, zbk, storeOp, storeCell, overlay, zbl, zbm, zbn, lookupOp, keyT, okRes, mapUpdateOp, zbo, zbp, zbq, zbr, zbs, zbt, zbu, Nat.reduceSub, Nat.reduceAdd, Int.reduceLT, Int.reduceLE, Int.reduceAdd, Int.reduceSub, Int.reduceToNat, Int.reduceBEq, Int.reduceBNe, Int.reduceMul, Nat.reduceBEq, Nat.reduceBNe, Nat.reduceLT, Nat.reduceLeDiff, Nat.reduceMul, Nat.reduceEqDiff, WD, effB, effH, isPriv, isHeap, isImm, zbx, zby, zbz, chkO, setD, dslot, zca, zcb, zcc, zcd, ptrCells_some, F28]
  have h1 : ((1 : Int) != 0) = true := rfl
  refine gSplit (fun h0 => ?_) (fun h0 => ?_)
  · simp only [h0]
    simp only [WW, partV, eqCells, eqLf, minV, maxV, ifcV, zaa, zab, zac, zad, zae, zaf, zag, zah, zai, ofConst, ofConst1, List.replicate, zaj, zak, loadOp, Go.Abs.loadCells, binV, zal, pickV, zam, zan, zao, zap, zaq, zar, zas, zat, zau, outR, resAll, resOne, zav, zaw, zax, zay, zaz, zba, zbb, zbc, zbd, zbe, zbf, zbg, zbh, zbi, zbj, zbk, storeOp, storeCell, overlay, zbl, zbm, zbn, lookupOp, keyT, okRes, mapUpdateOp, zbo, zbp, zbq, zbr, zbs, zbt, zbu, Nat.reduceSub, Nat.reduceAdd, Int.reduceLT, Int.reduceLE, Int.reduceAdd, Int.reduceSub, Int.reduceToNat, Int.reduceBEq, Int.reduceBNe, Int.reduceMul, Nat.reduceBEq, Nat.reduceBNe, Nat.reduceLT, Nat.reduceLeDiff, Nat.reduceMul, Nat.reduceEqDiff, WD, effB, effH, isPriv, isHeap, isImm, zbx, zby, zbz, chkO, setD, dslot, zca, zcb, zcc, zcd, ptrCells_some, F28]
    rw [wpCall_eq (fail_err hx hb 1)]
    simp only [WW, partV, eqCells, eqLf, minV, maxV, ifcV, zaa, zab, zac, zad, zae, zaf, zag, zah, zai, ofConst, ofConst1, List.replicate, zaj, zak, loadOp, Go.Abs.loadCells, binV, zal, pickV, zam, zan, zao, zap, zaq, zar, zas, zat, zau, outR, resAll, resOne, zav, zaw, zax, zay, zaz, zba, zbb, zbc, zbd, zbe, zbf, zbg, zbh, zbi, zbj, zbk, storeOp, storeCell, overlay, zbl, zbm, zbn, lookupOp, keyT, okRes, mapUpdateOp, zbo, zbp, zbq, zbr, zbs, zbt, zbu, Nat.reduceSub, Nat.reduceAdd, Int.reduceLT, Int.reduceLE, Int.reduceAdd, Int.reduceSub, Int.reduceToNat, Int.reduceBEq, Int.reduceBNe, Int.reduceMul, Nat.reduceBEq, Nat.reduceBNe, Nat.reduceLT, Nat.reduceLeDiff, Nat.reduceMul, Nat.reduceEqDiff, WD, effB, effH, isPriv, isHeap, isImm, zbx, zby, zbz, chkO, setD, dslot, zca, zcb, zcc, zcd, ptrCells_some, F28, hb, h1]
  · simp only [h0]
    simp only [WW, partV, eqCells, eqLf, minV, maxV, ifcV, zaa, zab, zac, zad, zae, zaf, zag, zah, zai, ofConst, ofConst1, List.replicate, zaj, zak, loadOp, Go.Abs.loadCells, binV, zal, pickV, zam, zan, zao, zap, zaq, zar, zas, zat, zau, outR, resAll, resOne, zav, zaw, zax, zay, zaz, zba, zbb, zbc, zbd, zbe, zbf, zbg, zbh, zbi, zbj, zbk, storeOp, storeCell, overlay, zbl, zbm, zbn, lookupOp, keyT, okRes, mapUpdateOp, zbo, zbp, zbq, zbr, zbs, zbt, zbu, Nat.reduceSub, Nat.reduceAdd, Int.reduceLT, Int.reduceLE, Int.reduceAdd, Int.reduceSub, Int.reduceToNat, Int.reduceBEq, Int.reduceBNe, Int.reduceMul, Nat.reduceBEq, Nat.reduceBNe, Nat.reduceLT, Nat.reduceLeDiff, Nat.reduceMul, Nat.reduceEqDiff, WD, effB, effH, isPriv, isHeap, isImm, zbx, zby, zbz, chkO, setD, dslot, zca, zcb, zcc, zcd, ptrCells_some, F28]
    refine cSplit (fun h2 => ?_) (fun h2 => ?_)
    · simp only [h2]
      simp only [WW, partV, eqCells, eqLf, minV, maxV, ifcV, zaa, zab, zac, zad, zae, zaf, zag, zah, zai, ofConst, ofConst1, List.replicate, zaj, zak, loadOp, Go.Abs.loadCells, binV, zal, pickV, zam, zan, zao, zap, zaq, zar, zas, zat, zau, outR, resAll, resOne, zav, zaw, zax, zay, zaz, zba, zbb, zbc, zbd, zbe, zbf, zbg, zbh, zbi, zbj, zbk, storeOp, storeCell, overlay, zbl, zbm, zbn, lookupOp, keyT, okRes, mapUpdateOp, zbo, zbp, zbq, zbr, zbs, zbt, zbu, Nat.reduceSub, Nat.reduceAdd, Int.reduceLT, Int.reduceLE, Int.reduceAdd, Int.reduceSub, Int.reduceToNat, Int.reduceBEq, Int.reduceBNe, Int.reduceMul, Nat.reduceBEq, Nat.reduceBNe, Nat.reduceLT, Nat.reduceLeDiff, Nat.reduceMul, Nat.reduceEqDiff, WD, effB, effH, isPriv, isHeap, isImm, zbx, zby, zbz, chkO, setD, dslot, zca, zcb, zcc, zcd, ptrCells_some, F28]
      rw [wpCall_eq (fail_err hx hb 1)]
      simp only [WW, partV, eqCells, eqLf, minV, maxV, ifcV, zaa, zab, zac, zad, zae, zaf, zag, zah, zai, ofConst, ofConst1, List.replicate, zaj, zak, loadOp, Go.Abs.loadCells, binV, zal, pickV, zam, zan, zao, zap, zaq, zar, zas, zat, zau, outR, resAll, resOne, zav, zaw, zax, zay, zaz, zba, zbb, zbc, zbd, zbe, zbf, zbg, zbh, zbi, zbj, zbk, storeOp, storeCell, overlay, zbl, zbm, zbn, lookupOp, keyT, okRes, mapUpdateOp, zbo, zbp, zbq, zbr, zbs, zbt, zbu, Nat.reduceSub, Nat.reduceAdd, Int.reduceLT, Int.reduceLE, Int.reduceAdd, Int.reduceSub, Int.reduceToNat, Int.reduceBEq, Int.reduceBNe, Int.reduceMul, Nat.reduceBEq, Nat.reduceBNe, Nat.reduceLT, Nat.reduceLeDiff, Nat.reduceMul, Nat.reduceEqDiff, WD, effB, effH, isPriv, isHeap, isImm, zbx, zby, zbz, chkO, setD, dslot, zca, zcb, zcc, zcd, ptrCells_some, F28, hb, h1]
    · simp only [h2]
      simp only [WW, partV, eqCells, eqLf, minV, maxV, ifcV, zaa, zab, zac, zad, zae, zaf, zag, zah, zai, ofConst, ofConst1, List.replicate, zaj, zak, loadOp, Go.Abs.loadCells, binV, zal, pickV, zam, zan, zao, zap, zaq, zar, zas, zat, zau, outR, resAll, resOne, zav, zaw, zax, zay, zaz, zba, zbb, zbc, zbd, zbe, zbf, zbg, zbh, zbi, zbj, zbk, storeOp, storeCell, overlay, zbl, zbm, zbn, lookupOp, keyT, okRes, mapUpdateOp, zbo, zbp, zbq, zbr, zbs, zbt, zbu, Nat.reduceSub, Nat.reduceAdd, Int.reduceLT, Int.reduceLE, Int.reduceAdd, Int.reduceSub, Int.reduceToNat, Int.reduceBEq, Int.reduceBNe, Int.reduceMul, Nat.reduceBEq, Nat.reduceBNe, Nat.reduceLT, Nat.reduceLeDiff, Nat.reduceMul, Nat.reduceEqDiff, WD, effB, effH, isPriv, isHeap, isImm, zbx, zby, zbz, chkO, setD, dslot, zca, zcb, zcc, zcd, ptrCells_some, F28, hb, h1]
theorem number_w {H : Hp} {N : Nat → Prop} {x : V} {l : List V} {w : Nat} (ok : Bool) (hN : ∀ i, N i → i < H.length) (hw : N w) (hx : SlW 1 H N x l) (hb : H[w]? = some (.cells [.agg [x, .int .i64 (eI ok)]])) (hl : l.length ≤ 4000000) (n : Int) :
    wpCall EW 28 [.ptr w 0 0, .int .i64 n] H (fun out H' => out = .ret (.tup []) false ∧ Fr0 N w H H' ∧ ∃ x' l', SlW 1 H' N x' l' ∧ H'[w]? = some (.cells [.agg [x', .int .i64 (eI (ok && plain n))]]) ∧ l'.length ≤ l.length + 9) := by
  have hwl := hN w hw
  cases ok with
  | false =>
    rw [wpCall_eq (number_err hx.shut hb n)]
    exact ⟨rfl, ⟨Nat.le_refl _, fun _ _ _ => rfl⟩, x, l, hx, hb, by omega⟩
  | true =>
    cases hp : plain n with
    | true =>
      obtain ⟨h1, h2⟩ := plain_iff.1 hp
      obtain ⟨m, rfl⟩ : ∃ m : Nat, n = m := ⟨n.toNat, by omega⟩
      refine wpCall_of (number_spec hN hw ⟨x, hx, hb⟩ m (by omega) (by omega)) ?_
      rintro out H' ⟨rfl, hf, x', hx', hb'⟩
      refine ⟨rfl, hf, x', _, hx', hb', ?_⟩
      have := encN_len9 (n := m) (by omega)
      simp only [List.length_append, bs_len]; omega
    | false =>
      have hn : n < 0 ∨ 4611686018427387903 < n := by
        by_cases h : n < 0
        · exact .inl h
        · refine .inr ?_
          by_cases h2 : 4611686018427387903 < n
          · exact h2
          · rw [plain_iff.2 ⟨by omega, by omega⟩] at hp; cases hp
      refine wpCall_of (number_bad hx.shut hb n hn) ?_
      rintro out H' ⟨rfl, rfl⟩
      refine ⟨rfl, ⟨by simp, fun i h1 h2 => by rw [List.getElem?_set, if_neg (fun h => h2 h.symm)]⟩, x, l, hx.set hw _, ?_, by omega⟩
      exact List.getElem?_set_self hwl
theorem zz_neg {z : Int} (h : z < 0) : zz z = -2 * z - 1 := by unfold zz; rw [if_pos h]
theorem zz_pos {z : Int} (h : ¬ z < 0) : zz z = 2 * z := by unfold zz; rw [if_neg h]
/-- A number of either sign is told as one without -/
theorem signed_any {H : Hp} {w : Nat} {x : V} {K : Out → Hp → Prop} (hx : ∀ st, sealV st x = x) (hb : H[w]? = some (.cells [.agg [x, .int .i64 0]])) (z : Int) (hz : signedOk z = true)
    (h : wpCall EW 28 [.ptr w 0 0, .int .i64 (zz z)] H (fun out H' => out = .ret (.tup []) false ∧ K (.ret (.tup []) false) H')) : wpCall EW 58 [.ptr w 0 0, .int .i64 z] H K := by
  obtain ⟨h1, h2⟩ := signed_iff.1 hz
  refine runs f58 b58 r58 n58 _ _ ?_
  simp only [bodyOf, Tryd.f58, Option.getD_some]
  have g1 : decide (z < -2305843009213693952) = false := decide_eq_false (by omega)
  have g2 : decide (2305843009213693951 < z) = false := decide_eq_false (by omega)
  have h3 : ((0 : Int) != 0) = false := rfl
  simp only [WW, partV, eqCells, eqLf, minV, maxV, ifcV, zaa, zab, zac, zad, zae, zaf, zag, zah, zai, ofConst, ofConst1, List.replicate, zaj, zak, loadOp, Go.Abs.loadCells, binV, zal, pickV, zam, zan, zao, zap, zaq, zar, zas, zat, zau, outR, resAll, resOne, zav, zaw, zax, zay, zaz, zba, zbb, zbc, zbd, zbe, zbf, zbg, zbh, zbi, zbj, zbk, storeOp, storeCell, overlay, zbl, zbm, zbn, lookupOp, keyT, okRes, mapUpdateOp, zbo, zbp, zbq, zbr, zbs, zbt, zbu, Nat.reduceSub, Nat.reduceAdd, Int.reduceLT, Int.reduceLE, Int.reduceAdd, Int.reduceSub, Int.reduceToNat, Int.reduceBEq, Int.reduceBNe, Int.reduceMul, Nat.reduceBEq, Nat.reduceBNe, Nat.reduceLT, Nat.reduceLeDiff, Nat.reduceMul, Nat.reduceEqDiff, WD, effB, effH, isPriv, isHeap, isImm, zbx, zby, zbz, chkO, setD, dslot, zca, zcb, zcc, zcd, ptrCells_some, F58, g1, g2, hb, h3, bne_self_eq_false]
  refine cSplit (fun h2 => ?_) (fun h2 => ?_)
  · have hlt := of_decide_eq_true h2
    simp only [h2]
    simp only [WW, partV, eqCells, eqLf, minV, maxV, ifcV, zaa, zab, zac, zad, zae, zaf, zag, zah, zai, ofConst, ofConst1, List.replicate, zaj, zak, loadOp, Go.Abs.loadCells, binV, zal, pickV, zam, zan, zao, zap, zaq, zar, zas, zat, zau, outR, resAll, resOne, zav, zaw, zax, zay, zaz, zba, zbb, zbc, zbd, zbe, zbf, zbg, zbh, zbi, zbj, zbk, storeOp, storeCell, overlay, zbl, zbm, zbn, lookupOp, keyT, okRes, mapUpdateOp, zbo, zbp, zbq, zbr, zbs, zbt, zbu, Nat.reduceSub, Nat.reduceAdd, Int.reduceLT, Int.reduceLE, Int.reduceAdd, Int.reduceSub, Int.reduceToNat, Int.reduceBEq, Int.reduceBNe, Int.reduceMul, Nat.reduceBEq, Nat.reduceBNe, Nat.reduceLT, Nat.reduceLeDiff, Nat.reduceMul, Nat.reduceEqDiff, WD, effB, effH, isPriv, isHeap, isImm, zbx, zby, zbz, chkO, setD, dslot, zca, zcb, zcc, zcd, ptrCells_some, F58]
    have e : IntKind.i64.wrap (IntKind.i64.wrap (-2 * z) - 1) = zz z := by rw [IntWalk.i64_in (-2 * z) (by omega), IntWalk.i64_in _ (by omega), zz_neg hlt]
    rw [e]
    refine wpCall_of h ?_
    rintro out H' ⟨rfl, hk⟩
    simp only [WW, partV, eqCells, eqLf, minV, maxV, ifcV, zaa, zab, zac, zad, zae, zaf, zag, zah, zai, ofConst, ofConst1, List.replicate, zaj, zak, loadOp, Go.Abs.loadCells, binV, zal, pickV, zam, zan, zao, zap, zaq, zar, zas, zat, zau, outR, resAll, resOne, zav, zaw, zax, zay, zaz, zba, zbb, zbc, zbd, zbe, zbf, zbg, zbh, zbi, zbj, zbk, storeOp, storeCell, overlay, zbl, zbm, zbn, lookupOp, keyT, okRes, mapUpdateOp, zbo, zbp, zbq, zbr, zbs, zbt, zbu, Nat.reduceSub, Nat.reduceAdd, Int.reduceLT, Int.reduceLE, Int.reduceAdd, Int.reduceSub, Int.reduceToNat, Int.reduceBEq, Int.reduceBNe, Int.reduceMul, Nat.reduceBEq, Nat.reduceBNe, Nat.reduceLT, Nat.reduceLeDiff, Nat.reduceMul, Nat.reduceEqDiff, WD, effB, effH, isPriv, isHeap, isImm, zbx, zby, zbz, chkO, setD, dslot, zca, zcb, zcc, zcd, ptrCells_some, F58]
    exact hk
  · have hlt := of_decide_eq_false h2
    simp only [h2]
    simp only [WW, partV, eqCells, eqLf, minV, maxV, ifcV, zaa, zab, zac, zad, zae, zaf, zag, zah, zai, ofConst, ofConst1, List.replicate, zaj, zak, loadOp, Go.Abs.loadCells, binV, zal, pickV, zam, zan, zao, zap, zaq, zar, zas, zat, zau, outR, resAll, resOne, zav, zaw, zax, zay, zaz, zba, zbb, zbc, zbd, zbe, zbf, zbg, zbh, zbi, zbj, zbk, storeOp, storeCell, overlay, zbl, zbm, zbn, lookupOp, keyT, okRes, mapUpdateOp, zbo, zbp, zbq, zbr, zbs, zbt, zbu, Nat.reduceSub, Nat.reduceAdd, Int.reduceLT, Int.reduceLE, Int.reduceAdd, Int.reduceSub, Int.reduceToNat, Int.reduceBEq, Int.reduceBNe, Int.reduceMul, Nat.reduceBEq, Nat.reduceBNe, Nat.reduceLT, Nat.reduceLeDiff, Nat.reduceMul, Nat.reduceEqDiff, WD, effB, effH, isPriv, isHeap, isImm, zbx, zby, zbz, chkO, setD, dslot, zca, zcb, zcc, zcd, ptrCells_some, F58]
    have e : IntKind.i64.wrap (2 * z) = zz z := by rw [IntWalk.i64_in _ (by omega), zz_pos hlt]
    rw [e]
    refine wpCall_of h ?_
    rintro out H' ⟨rfl, hk⟩
    simp only [WW, partV, eqCells, eqLf, minV, maxV, ifcV, zaa, zab, zac, zad, zae, zaf, zag, zah, zai, ofConst, ofConst1, List.replicate, zaj, zak, loadOp, Go.Abs.loadCells, binV, zal, pickV, zam, zan, zao, zap, zaq, zar, zas, zat, zau, outR, resAll, resOne, zav, zaw, zax, zay, zaz, zba, zbb, zbc, zbd, zbe, zbf, zbg, zbh, zbi, zbj, zbk, storeOp, storeCell, overlay, zbl, zbm, zbn, lookupOp, keyT, okRes, mapUpdateOp, zbo, zbp, zbq, zbr, zbs, zbt, zbu, Nat.reduceSub, Nat.reduceAdd, Int.reduceLT, Int.reduceLE, Int.reduceAdd, Int.reduceSub, Int.reduceToNat, Int.reduceBEq, Int.reduceBNe, Int.reduceMul, Nat.reduceBEq, Nat.reduceBNe, Nat.reduceLT, Nat.reduceLeDiff, Nat.reduceMul, Nat.reduceEqDiff, WD, effB, effH, isPriv, isHeap, isImm, zbx, zby, zbz, chkO, setD, dslot, zca, zcb, zcc, zcd, ptrCells_some, F58]
    exact hk
theorem signed_err {H : Hp} {w : Nat} {x : V} (hx : ∀ st, sealV st x = x) (hb : H[w]? = some (.cells [.agg [x, .int .i64 1]])) (n : Int) :
    EW 58 [.ptr w 0 0, .int .i64 n] H = some (.ret (.tup []) false, H) := by
  refine eqOf (runs f58 b58 r58 n58 _ _ ?_)
  simp only [bodyOf, Tryd.f58, Option.getD_some]
  simp only [WW, partV, eqCells, eqLf, minV, maxV, ifcV, zaa, zab, zac, zad, zae, zaf, zag, zah, zai, ofConst, ofConst1, List.replicate, zaj, zak, loadOp, Go.Abs.loadCells, binV, zal, pickV, zam, zan, zao, zap, zaq, zar, zas, zat, zau, outR, resAll, resOne, zav, zaw, zax, zay, zaz, zba, zbb, zbc, zbd, zbe, zbf, zbg, zbh, zbi, zbj, zbk, storeOp, storeCell, overlay, zbl, zbm, zbn, lookupOp, keyT, okRes, mapUpdateOp, zbo, zbp, zbq, zbr, zbs, zbt, zbu, Nat.reduceSub, Nat.reduceAdd, Int.reduceLT, Int.reduceLE, Int.reduceAdd, Int.reduceSub, Int.reduceToNat, Int.reduceBEq, Int.reduceBNe, Int.reduceMul, Nat.reduceBEq, Nat.reduceBNe, Nat.reduceLT, Nat.reduceLeDiff, Nat.reduceMul, Nat.reduceEqDiff, WD, effB, effH, isPriv, isHeap, isImm, zbx, zby, zbz, chkO, setD, dslot, zca, zcb, zcc, zcd, ptrCells_some, F58]
  have h1 : ((1 : Int) != 0) = true := rfl
  refine gSplit (fun h0 => ?_) (fun h0 => ?_)
  · simp only [h0]
    simp only [WW, partV, eqCells, eqLf, minV, maxV, ifcV, zaa, zab, zac, zad, zae, zaf, zag, zah, zai, ofConst, ofConst1, List.replicate, zaj, zak, loadOp, Go.Abs.loadCells, binV, zal, pickV, zam, zan, zao, zap, zaq, zar, zas, zat, zau, outR, resAll, resOne, zav, zaw, zax, zay, zaz, zba, zbb, zbc, zbd, zbe, zbf, zbg, zbh, zbi, zbj, zbk, storeOp, storeCell, overlay, zbl, zbm, zbn, lookupOp, keyT, okRes, mapUpdateOp, zbo, zbp, zbq, zbr, zbs, zbt, zbu, Nat.reduceSub, Nat.reduceAdd, Int.reduceLT, Int.reduceLE, Int.reduceAdd, Int.reduceSub, Int.reduceToNat, Int.reduceBEq, Int.reduceBNe, Int.reduceMul, Nat.reduceBEq, Nat.reduceBNe, Nat.reduceLT, Nat.reduceLeDiff, Nat.reduceMul, Nat.reduceEqDiff, WD, effB, effH, isPriv, isHeap, isImm, zbx, zby, zbz, chkO, setD, dslot, zca, zcb, zcc, zcd, ptrCells_some, F58]
    rw [wpCall_eq (fail_err hx hb 1)]
    simp only [WW, partV, eqCells, eqLf, minV, maxV, ifcV, zaa, zab, zac, zad, zae, zaf, zag, zah, zai, ofConst, ofConst1, List.replicate, zaj, zak, loadOp, Go.Abs.loadCells, binV, zal, pickV, zam, zan, zao, zap, zaq, zar, zas, zat, zau, outR, resAll, resOne, zav, zaw, zax, zay, zaz, zba, zbb, zbc, zbd, zbe, zbf, zbg, zbh, zbi, zbj, zbk, storeOp, storeCell, overlay, zbl, zbm, zbn, lookupOp, keyT, okRes, mapUpdateOp, zbo, zbp, zbq, zbr, zbs, zbt, zbu, Nat.reduceSub, Nat.reduceAdd, Int.reduceLT, Int.reduceLE, Int.reduceAdd, Int.reduceSub, Int.reduceToNat, Int.reduceBEq, Int.reduceBNe, Int.reduceMul, Nat.reduceBEq, Nat.reduceBNe, Nat.reduceLT, Nat.reduceLeDiff, Nat.reduceMul, Nat.reduceEqDiff, WD, effB, effH, isPriv, isHeap, isImm, zbx, zby, zbz, chkO, setD, dslot, zca, zcb, zcc, zcd, ptrCells_some, F58, hb, h1]
  · simp only [h0]
    simp only [WW, partV, eqCells, eqLf, minV, maxV, ifcV, zaa, zab, zac, zad, zae, zaf, zag, zah, zai, ofConst, ofConst1, List.replicate, zaj, zak, loadOp, Go.Abs.loadCells, binV, zal, pickV, zam, zan, zao, zap, zaq, zar, zas, zat, zau, outR, resAll, resOne, zav, zaw, zax, zay, zaz, zba, zbb, zbc, zbd, zbe, zbf, zbg, zbh, zbi, zbj, zbk, storeOp, storeCell, overlay, zbl, zbm, zbn, lookupOp, keyT, okRes, mapUpdateOp, zbo, zbp, zbq, zbr, zbs, zbt, zbu, Nat.reduceSub, Nat.reduceAdd, Int.reduceLT, Int.reduceLE, Int.reduceAdd, Int.reduceSub, Int.reduceToNat, Int.reduceBEq, Int.reduceBNe, Int.reduceMul, Nat.reduceBEq, Nat.reduceBNe, Nat.reduceLT, Nat.reduceLeDiff, Nat.reduceMul, Nat.reduceEqDiff, WD, effB, effH, isPriv, isHeap, isImm, zbx, zby, zbz, chkO, setD, dslot, zca, zcb, zcc, zcd, ptrCells_some, F58]
    refine cSplit (fun h2 => ?_) (fun h2 => ?_)
    · simp only [h2]
      simp only [WW, partV, eqCells, eqLf, minV, maxV, ifcV, zaa, zab, zac, zad, zae, zaf, zag, zah, zai, ofConst, ofConst1, List.replicate, zaj, zak, loadOp, Go.Abs.loadCells, binV, zal, pickV, zam, zan, zao, zap, zaq, zar, zas, zat, zau, outR, resAll, resOne, zav, zaw, zax, zay, zaz, zba, zbb, zbc, zbd, zbe, zbf, zbg, zbh, zbi, zbj, zbk, storeOp, storeCell, overlay, zbl, zbm, zbn, lookupOp, keyT, okRes, mapUpdateOp, zbo, zbp, zbq, zbr, zbs, zbt, zbu, Nat.reduceSub, Nat.reduceAdd, Int.reduceLT, Int.reduceLE, Int.reduceAdd, Int.reduceSub, Int.reduceToNat, Int.reduceBEq, Int.reduceBNe, Int.reduceMul, Nat.reduceBEq, Nat.reduceBNe, Nat.reduceLT, Nat.reduceLeDiff, Nat.reduceMul, Nat.reduceEqDiff, WD, effB, effH, isPriv, isHeap, isImm, zbx, zby, zbz, chkO, setD, dslot, zca, zcb, zcc, zcd, ptrCells_some, F58]
      rw [wpCall_eq (fail_err hx hb 1)]
      simp only [WW, partV, eqCells, eqLf, minV, maxV, ifcV, zaa, zab, zac, zad, zae, zaf, zag, zah, zai, ofConst, ofConst1, List.replicate, zaj, zak, loadOp, Go.Abs.loadCells, binV, zal, pickV, zam, zan, zao, zap, zaq, zar, zas, zat, zau, outR, resAll, resOne, zav, zaw, zax, zay, zaz, zba, zbb, zbc, zbd, zbe, zbf, zbg, zbh, zbi, zbj, zbk, storeOp, storeCell, overlay, zbl, zbm, zbn, lookupOp, keyT, okRes, mapUpdateOp, zbo, zbp, zbq, zbr, zbs, zbt, zbu, Nat.reduceSub, Nat.reduceAdd, Int.reduceLT, Int.reduceLE, Int.reduceAdd, Int.reduceSub, Int.reduceToNat, Int.reduceBEq, Int.reduceBNe, Int.reduceMul, Nat.reduceBEq, Nat.reduceBNe, Nat.reduceLT, Nat.reduceLeDiff, Nat.reduceMul, Nat.reduceEqDiff, WD, effB, effH, isPriv, isHeap, isImm, zbx, zby, zbz, chkO, setD, dslot, zca, zcb, zcc, zcd, ptrCells_some, F58, hb, h1]
    · simp only [h2]
      simp only [WW, partV, eqCells, eqLf, minV, maxV, ifcV, zaa, zab, zac, zad, zae, zaf, zag, zah, zai, ofConst, ofConst1, List.replicate, zaj, zak, loadOp, Go.Abs.loadCells, binV, zal, pickV, zam, zan, zao, zap, zaq, zar, zas, zat, zau, outR, resAll, resOne, zav, zaw, zax, zay, zaz, zba, zbb, zbc, zbd, zbe, zbf, zbg, zbh, zbi, zbj, zbk, storeOp, storeCell, overlay, zbl, zbm, zbn, lookupOp, keyT, okRes, mapUpdateOp, zbo, zbp, zbq, zbr, zbs, zbt, zbu, Nat.reduceSub, Nat.reduceAdd, Int.reduceLT, Int.reduceLE, Int.reduceAdd, Int.reduceSub, Int.reduceToNat, Int.reduceBEq, Int.reduceBNe, Int.reduceMul, Nat.reduceBEq, Nat.reduceBNe, Nat.reduceLT, Nat.reduceLeDiff, Nat.reduceMul, Nat.reduceEqDiff, WD, effB, effH, isPriv, isHeap, isImm, zbx, zby, zbz, chkO, setD, dslot, zca, zcb, zcc, zcd, ptrCells_some, F58, hb, h1]
theorem signed_bad {H : Hp} {w : Nat} {x : V} (hx : ∀ st, sealV st x = x) (hb : H[w]? = some (.cells [.agg [x, .int .i64 0]])) (z : Int) (hz : signedOk z = false) :
    EW 58 [.ptr w 0 0, .int .i64 z] H = some (.ret (.tup []) false, H.set w (.cells [.agg [x, .int .i64 1]])) := by
  have hwl : w < H.length := (List.getElem?_eq_some_iff.1 hb).1
  have hb2 : (H.set w (.cells [.agg [x, .int .i64 1]]))[w]? = some (.cells [.agg [x, .int .i64 1]]) := List.getElem?_set_self hwl
  refine eqOf2 (runs f58 b58 r58 n58 _ _ ?_)
  simp only [bodyOf, Tryd.f58, Option.getD_some]
  simp only [WW, partV, eqCells, eqLf, minV, maxV, ifcV, zaa, zab, zac, zad, zae, zaf, zag, zah, zai, ofConst, ofConst1, List.replicate, zaj, zak, loadOp, Go.Abs.loadCells, binV, zal, pickV, zam, zan, zao, zap, zaq, zar, zas, zat, zau, outR, resAll, resOne, zav, zaw, zax, zay, zaz, zba, zbb, zbc, zbd, zbe, zbf, zbg, zbh, zbi, zbj, zbk, storeOp, storeCell, overlay, zbl, zbm, zbn, lookupOp, keyT, okRes, mapUpdateOp, zbo, zbp, zbq, zbr, zbs, zbt, zbu, Nat.reduceSub, Nat.reduceAdd, Int.reduceLT, Int.reduceLE, Int.reduceAdd, Int.reduceSub, Int.reduceToNat, Int.reduceBEq, Int.reduceBNe, Int.reduceMul, Nat.reduceBEq, Nat.reduceBNe, Nat.reduceLT, Nat.reduceLeDiff, Nat.reduceMul, Nat.reduceEqDiff, WD, effB, effH, isPriv, isHeap, isImm, zbx, zby, zbz, chkO, setD, dslot, zca, zcb, zcc, zcd, ptrCells_some, F58]
  have h1 : ((1 : Int) != 0) = true := rfl
  refine gSplit (fun h0 => ?_) (fun h0 => ?_)
  · simp only [h0]
    simp only [WW, partV, eqCells, eqLf, minV, maxV, ifcV, zaa, zab, zac, zad, zae, zaf, zag, zah, zai, ofConst, ofConst1, List.replicate, zaj, zak, loadOp, Go.Abs.loadCells, binV, zal, pickV, zam, zan, zao, zap, zaq, zar, zas, zat, zau, outR, resAll, resOne, zav, zaw, zax, zay, zaz, zba, zbb, zbc, zbd, zbe, zbf, zbg, zbh, zbi, zbj, zbk, storeOp, storeCell, overlay, zbl, zbm, zbn, lookupOp, keyT, okRes, mapUpdateOp, zbo, zbp, zbq, zbr, zbs, zbt, zbu, Nat.reduceSub, Nat.reduceAdd, Int.reduceLT, Int.reduceLE, Int.reduceAdd, Int.reduceSub, Int.reduceToNat, Int.reduceBEq, Int.reduceBNe, Int.reduceMul, Nat.reduceBEq, Nat.reduceBNe, Nat.reduceLT, Nat.reduceLeDiff, Nat.reduceMul, Nat.reduceEqDiff, WD, effB, effH, isPriv, isHeap, isImm, zbx, zby, zbz, chkO, setD, dslot, zca, zcb, zcc, zcd, ptrCells_some, F58]
    rw [wpCall_eq (fail_spec hx hb 1)]
    simp only [WW, partV, eqCells, eqLf, minV, maxV, ifcV, zaa, zab, zac, zad, zae, zaf, zag, zah, zai, ofConst, ofConst1, List.replicate, zaj, zak, loadOp, Go.Abs.loadCells, binV, zal, pickV, zam, zan, zao, zap, zaq, zar, zas, zat, zau, outR, resAll, resOne, zav, zaw, zax, zay, zaz, zba, zbb, zbc, zbd, zbe, zbf, zbg, zbh, zbi, zbj, zbk, storeOp, storeCell, overlay, zbl, zbm, zbn, lookupOp, keyT, okRes, mapUpdateOp, zbo, zbp, zbq, zbr, zbs, zbt, zbu, Nat.reduceSub, Nat.reduceAdd, Int.reduceLT, Int.reduceLE, Int.reduceAdd, Int.reduceSub, Int.reduceToNat, Int.reduceBEq, Int.reduceBNe, Int.reduceMul, Nat.reduceBEq, Nat.reduceBNe, Nat.reduceLT, Nat.reduceLeDiff, Nat.reduceMul, Nat.reduceEqDiff, WD, effB, effH, isPriv, isHeap, isImm, zbx, zby, zbz, chkO, setD, dslot, zca, zcb, zcc, zcd, ptrCells_some, F58, hb2, h1]
  · simp only [h0]
    have hg : decide (2305843009213693951 < z) = true := by
      refine decide_eq_true ?_
      have := of_decide_eq_false h0
      by_cases h2 : 2305843009213693951 < z
      · exact h2
      · rw [signed_iff.2 ⟨by omega, by omega⟩] at hz; cases hz
    simp only [WW, partV, eqCells, eqLf, minV, maxV, ifcV, zaa, zab, zac, zad, zae, zaf, zag, zah, zai, ofConst, ofConst1, List.replicate, zaj, zak, loadOp, Go.Abs.loadCells, binV, zal, pickV, zam, zan, zao, zap, zaq, zar, zas, zat, zau, outR, resAll, resOne, zav, zaw, zax, zay, zaz, zba, zbb, zbc, zbd, zbe, zbf, zbg, zbh, zbi, zbj, zbk, storeOp, storeCell, overlay, zbl, zbm, zbn, lookupOp, keyT, okRes, mapUpdateOp, zbo, zbp, zbq, zbr, zbs, zbt, zbu, Nat.reduceSub, Nat.reduceAdd, Int.reduceLT, Int.reduceLE, Int.reduceAdd, Int.reduceSub, Int.reduceToNat, Int.reduceBEq, Int.reduceBNe, Int.reduceMul, Nat.reduceBEq, Nat.reduceBNe, Nat.reduceLT, Nat.reduceLeDiff, Nat.reduceMul, Nat.reduceEqDiff, WD, effB, effH, isPriv, isHeap, isImm, zbx, zby, zbz, chkO, setD, dslot, zca, zcb, zcc, zcd, ptrCells_some, F58, hg]
    rw [wpCall_eq (fail_spec hx hb 1)]
    simp only [WW, partV, eqCells, eqLf, minV, maxV, ifcV, zaa, zab, zac, zad, zae, zaf, zag, zah, zai, ofConst, ofConst1, List.replicate, zaj, zak, loadOp, Go.Abs.loadCells, binV, zal, pickV, zam, zan, zao, zap, zaq, zar, zas, zat, zau, outR, resAll, resOne, zav, zaw, zax, zay, zaz, zba, zbb, zbc, zbd, zbe, zbf, zbg, zbh, zbi, zbj, zbk, storeOp, storeCell, overlay, zbl, zbm, zbn, lookupOp, keyT, okRes, mapUpdateOp, zbo, zbp, zbq, zbr, zbs, zbt, zbu, Nat.reduceSub, Nat.reduceAdd, Int.reduceLT, Int.reduceLE, Int.reduceAdd, Int.reduceSub, Int.reduceToNat, Int.reduceBEq, Int.reduceBNe, Int.reduceMul, Nat.reduceBEq, Nat.reduceBNe, Nat.reduceLT, Nat.reduceLeDiff, Nat.reduceMul, Nat.reduceEqDiff, WD, effB, effH, isPriv, isHeap, isImm, zbx, zby, zbz, chkO, setD, dslot, zca, zcb, zcc, zcd, ptrCells_some, F58, hb2, h1]
theorem signed_spec {H : Hp} {N : Nat → Prop} {l : List V} {w : Nat} (hN : ∀ i, N i → i < H.length) (hw : N w) (hW : Wr H N w l) (z : Int) (hz : signedOk z = true) (hl : l.length ≤ 5000000) :
    wpCall EW 58 [.ptr w 0 0, .int .i64 z] H (fun out H' => out = .ret (.tup []) false ∧ Fr0 N w H H' ∧ Wr H' N w (l ++ bs (encZ z))) := by
  obtain ⟨x, hx, hb⟩ := hW
  obtain ⟨h1, h2⟩ := plain_iff.1 (zz_plain hz)
  refine signed_any hx.shut hb z hz ?_
  have e : zz z = ((zz z).toNat : Int) := by omega
  rw [e]
  refine wpCall_of (number_spec hN hw ⟨x, hx, hb⟩ (zz z).toNat (by omega) hl) ?_
  rintro out H' ⟨rfl, hf, hW'⟩
  exact ⟨rfl, rfl, hf, hW'⟩
theorem plain_spec {H : Hp} {N : Nat → Prop} {l : List V} {w : Nat} (hN : ∀ i, N i → i < H.length) (hw : N w) (hW : Wr H N w l) (n : Int) (hn : plain n = true) (hl : l.length ≤ 5000000) :
    wpCall EW 28 [.ptr w 0 0, .int .i64 n] H (fun out H' => out = .ret (.tup []) false ∧ Fr0 N w H H' ∧ Wr H' N w (l ++ bs (encI n))) := by
  obtain ⟨h1, h2⟩ := plain_iff.1 hn
  obtain ⟨m, rfl⟩ : ∃ m : Nat, n = m := ⟨n.toNat, by omega⟩
  exact number_spec hN hw hW m (by omega) hl
theorem signed_w {H : Hp} {N : Nat → Prop} {x : V} {l : List V} {w : Nat} (ok : Bool) (hN : ∀ i, N i → i < H.length) (hw : N w) (hx : SlW 1 H N x l) (hb : H[w]? = some (.cells [.agg [x, .int .i64 (eI ok)]])) (hl : l.length ≤ 4000000) (n : Int) :
    wpCall EW 58 [.ptr w 0 0, .int .i64 n] H (fun out H' => out = .ret (.tup []) false ∧ Fr0 N w H H' ∧ ∃ x' l', SlW 1 H' N x' l' ∧ H'[w]? = some (.cells [.agg [x', .int .i64 (eI (ok && signedOk n))]]) ∧ l'.length ≤ l.length + 9) := by
  have hwl := hN w hw
  cases ok with
  | false =>
    rw [wpCall_eq (signed_err hx.shut hb n)]
    exact ⟨rfl, ⟨Nat.le_refl _, fun _ _ _ => rfl⟩, x, l, hx, hb, by omega⟩
  | true =>
    cases hp : signedOk n with
    | true =>
      refine wpCall_of (signed_spec hN hw ⟨x, hx, hb⟩ n hp (by omega)) ?_
      rintro out H' ⟨rfl, hf, x', hx', hb'⟩
      refine ⟨rfl, hf, x', _, hx', hb', ?_⟩
      have := encZ_len hp
      simp only [List.length_append, bs_len]; omega
    | false =>
      rw [wpCall_eq (signed_bad hx.shut hb n hp)]
      refine ⟨rfl, ⟨by simp, fun i h1 h2 => by rw [List.getElem?_set, if_neg (fun h => h2 h.symm)]⟩, x, l, hx.set hw _, ?_, by omega⟩
      exact List.getElem?_set_self hwl
end Go.Proofs.YtgjobbmbbedecaaDoor

/- The writer's lists. -/
namespace Go.Proofs.YtgjobbmbbedecaaDoor
open Go Go.Abs Go.Proofs
set_option maxRecDepth 100000
set_option maxHeartbeats 2000000
set_option linter.unusedVariables false
set_option linter.unusedSimpArgs false
theorem encL_cons {α : Type} (f : α → List Nat) (l : List α) : encL f l = encN l.length ++ l.flatMap f := rfl
theorem Fr0.refl {N : Nat → Prop} {w : Nat} {H : Hp} : Fr0 N w H H := ⟨Nat.le_refl _, fun _ _ _ => rfl⟩
theorem sl_clip2 {H : Hp} {N : Nat → Prop} {x : V} {l : List V} (h : SlW 1 H N x l) (a b : Nat) : clip a b (.v x) = .v x := by
  rcases h with ⟨rfl, rfl⟩ | ⟨s, es, rfl, _⟩ <;> rfl
def StrR (v : V) (s : ByteArray) : Prop := v = .str s
def IntR (v : V) (n : Int) : Prop := v = .int .i64 n
def KeyR (v : V) (k : List Int) : Prop := RdA v (k.map intV)
def CapR (v : V) (x : Int × Int) : Prop := v = capV x
def InR (v : V) (x : Int × Int × Int) : Prop := v = inV x
def TryR (v : V) (x : Int × Int × Int × Int) : Prop := v = tryV x
def FnR (v : V) (c : FnM) : Prop := Nonempty (FnV v c)
theorem severalG26 {H : Hp} {N : Nat → Prop} {l : List V} {w : Nat} {x : V} {vs : List V} {us : List ByteArray} {fa : FuncId} {fb fc : List V} (enc : ByteArray → List Nat) (hcf : callable Tryd.prog fa = true) (hN : ∀ i, N i → i < H.length) (hw : N w) (hW : Wr H N w l) (hx : RdA x vs) (h2 : All2 StrR vs us)
    (hE : ∀ (H1 : Hp) (l1 : List V) (v : V) (a : ByteArray), a ∈ us → StrR v a → Fr0 N w H H1 → Wr H1 N w l1 → l1.length + (enc a).length ≤ 4000000 → wpCall EW fa (fb ++ [v] ++ fc) H1 (fun out H2 => out = .ret (.tup []) false ∧ Fr0 N w H1 H2 ∧ Wr H2 N w (l1 ++ bs (enc a))))
    (hl : l.length + (encL enc us).length ≤ 4000000) (hc : us.length ≤ 4000000) :
    wpCall EW 26 [.ptr w 0 0, x, .fn fa fb fc] H (fun out H' => out = .ret (.tup []) false ∧ Fr0 N w H H' ∧ Wr H' N w (l ++ bs (encL enc us))) := by
  have hlen := h2.len
  refine runs f26 b26 r26 n26 _ _ ?_
  simp only [bodyOf, Tryd.f26, Option.getD_some]
  simp only [WW, partV, eqCells, eqLf, minV, maxV, ifcV, zaa, zab, zac, zad, zae, zaf, zag, zah, zai, ofConst, ofConst1, List.replicate, zaj, zak, loadOp, Go.Abs.loadCells, binV, zal, pickV, zam, zan, zao, zap, zaq, zar, zas, zat, zau, outR, resAll, resOne, zav, zaw, zax, zay, zaz, zba, zbb, zbc, zbd, zbe, zbf, zbg, zbh, zbi, zbj, zbk, storeOp, storeCell, overlay, zbl, zbm, zbn, lookupOp, keyT, okRes, mapUpdateOp, zbo, zbp, zbq, zbr, zbs, zbt, zbu, Nat.reduceSub, Nat.reduceAdd, Int.reduceLT, Int.reduceLE, Int.reduceAdd, Int.reduceSub, Int.reduceToNat, Int.reduceBEq, Int.reduceBNe, Int.reduceMul, Nat.reduceBEq, Nat.reduceBNe, Nat.reduceLT, Nat.reduceLeDiff, Nat.reduceMul, Nat.reduceEqDiff, WD, effB, effH, isPriv, isHeap, isImm, zbx, zby, zbz, chkO, setD, dslot, zca, zcb, zcc, zcd, ptrCells_some, F26, (hx H).len, (hx H).shutIn, hlen]
  refine wpCall_of (number_spec hN hw hW us.length (by omega) (by omega)) ?_
  rintro out H0 ⟨rfl, hf0, hW0⟩
  simp only [WW, partV, eqCells, eqLf, minV, maxV, ifcV, zaa, zab, zac, zad, zae, zaf, zag, zah, zai, ofConst, ofConst1, List.replicate, zaj, zak, loadOp, Go.Abs.loadCells, binV, zal, pickV, zam, zan, zao, zap, zaq, zar, zas, zat, zau, outR, resAll, resOne, zav, zaw, zax, zay, zaz, zba, zbb, zbc, zbd, zbe, zbf, zbg, zbh, zbi, zbj, zbk, storeOp, storeCell, overlay, zbl, zbm, zbn, lookupOp, keyT, okRes, mapUpdateOp, zbo, zbp, zbq, zbr, zbs, zbt, zbu, Nat.reduceSub, Nat.reduceAdd, Int.reduceLT, Int.reduceLE, Int.reduceAdd, Int.reduceSub, Int.reduceToNat, Int.reduceBEq, Int.reduceBNe, Int.reduceMul, Nat.reduceBEq, Nat.reduceBNe, Nat.reduceLT, Nat.reduceLeDiff, Nat.reduceMul, Nat.reduceEqDiff, WD, effB, effH, isPriv, isHeap, isImm, zbx, zby, zbz, chkO, setD, dslot, zca, zcb, zcc, zcd, ptrCells_some, F26, (hx H0).len, (hx H0).shutIn, hlen]
  refine wC_loop _ (fun k st' H' => ∃ (i : Nat) (lc : List V), st' = ⟨L26_2 (.v (.ptr w 0 0)) (.v (.fn fa fb fc)) (.v x) (.v (.int .i64 us.length)) (.v (.int .i64 i)), [], []⟩ ∧ i ≤ us.length ∧ k = us.length - i ∧ Fr0 N w H H' ∧ Wr H' N w lc ∧ lc ++ bs ((us.drop i).flatMap enc) = l ++ bs (encL enc us)) us.length ⟨0, _, ?_, by omega, by omega, hf0, hW0, by rw [encL_cons, bs_app, List.drop_zero, List.append_assoc]⟩ ?_
  · simp only [WN, firstReg, growAll, zbv, zbw, norm, killS, zag, zah, zaa, zab, zbl, zat, zad, growOne, zae, zaf, zac, zas, zak, Nat.reduceLT, Nat.reduceAdd, zbj, zav, F26, L26_2, (hx H).clip2, (hx H).clip]
    try rfl
  · rintro k st' H' ⟨i, lc, rfl, hi, rfl, hf, hW', he⟩
    simp only [L26_2]
    simp only [WW, partV, eqCells, eqLf, minV, maxV, ifcV, zaa, zab, zac, zad, zae, zaf, zag, zah, zai, ofConst, ofConst1, List.replicate, zaj, zak, loadOp, Go.Abs.loadCells, binV, zal, pickV, zam, zan, zao, zap, zaq, zar, zas, zat, zau, outR, resAll, resOne, zav, zaw, zax, zay, zaz, zba, zbb, zbc, zbd, zbe, zbf, zbg, zbh, zbi, zbj, zbk, storeOp, storeCell, overlay, zbl, zbm, zbn, lookupOp, keyT, okRes, mapUpdateOp, zbo, zbp, zbq, zbr, zbs, zbt, zbu, Nat.reduceSub, Nat.reduceAdd, Int.reduceLT, Int.reduceLE, Int.reduceAdd, Int.reduceSub, Int.reduceToNat, Int.reduceBEq, Int.reduceBNe, Int.reduceMul, Nat.reduceBEq, Nat.reduceBNe, Nat.reduceLT, Nat.reduceLeDiff, Nat.reduceMul, Nat.reduceEqDiff, WD, effB, effH, isPriv, isHeap, isImm, zbx, zby, zbz, chkO, setD, dslot, zca, zcb, zcc, zcd, ptrCells_some, F26, (hx H').len, (hx H').shutIn]
    have hN' : ∀ i, N i → i < H'.length := fun i hi => Nat.lt_of_lt_of_le (hN i hi) hf.1
    refine cSplit (fun hlt => ?_) (fun hge => ?_)
    · have hi2 : i < us.length := by have := of_decide_eq_true hlt; omega
      simp only [hlt]
      have hs : us[i]? = some us[i] := List.getElem?_eq_getElem hi2
      generalize us[i] = a at hs
      obtain ⟨v, hv, hR⟩ := h2.get hs
      have hmem : a ∈ us := List.mem_of_getElem? hs
      rw [drop_get hs, List.flatMap_cons, bs_app, ← List.append_assoc] at he
      have hlc : lc.length + (enc a).length ≤ 4000000 := by
        have := congrArg List.length he
        simp only [List.length_append, bs_len] at this
        omega
      have hE' := hE H' lc v a hmem hR hf hW' hlc
      have hat := (hx H').at_ (sz := 1) (i := i) (e := v) hv (by rw [hR]; rfl)
      obtain ⟨x0, hx0, hb0⟩ := hW'
      have hn1 : ((0 : Int) != 0) = false := rfl
      have hn2 : decide ((4194304 : Int) < (lc.length : Int)) = false := decide_eq_false (by omega)
      obtain rfl : v = .str a := hR
      simp only [WW, partV, eqCells, eqLf, minV, maxV, ifcV, zaa, zab, zac, zad, zae, zaf, zag, zah, zai, ofConst, ofConst1, List.replicate, zaj, zak, loadOp, Go.Abs.loadCells, binV, zal, pickV, zam, zan, zao, zap, zaq, zar, zas, zat, zau, outR, resAll, resOne, zav, zaw, zax, zay, zaz, zba, zbb, zbc, zbd, zbe, zbf, zbg, zbh, zbi, zbj, zbk, storeOp, storeCell, overlay, zbl, zbm, zbn, lookupOp, keyT, okRes, mapUpdateOp, zbo, zbp, zbq, zbr, zbs, zbt, zbu, Nat.reduceSub, Nat.reduceAdd, Int.reduceLT, Int.reduceLE, Int.reduceAdd, Int.reduceSub, Int.reduceToNat, Int.reduceBEq, Int.reduceBNe, Int.reduceMul, Nat.reduceBEq, Nat.reduceBNe, Nat.reduceLT, Nat.reduceLeDiff, Nat.reduceMul, Nat.reduceEqDiff, WD, effB, effH, isPriv, isHeap, isImm, zbx, zby, zbz, chkO, setD, dslot, zca, zcb, zcc, zcd, ptrCells_some, F26, (hx H').len, (hx H').shutIn, hat.at1 (hx H'), hat.cells, hb0, hx0.shut, hx0.len, hx0.cells1, hn1, hn2, bne_self_eq_false]
      refine ⟨hcf, wpCall_of hE' ?_⟩
      rintro out H2 ⟨rfl, hf2, hW2⟩
      simp only [WW, partV, eqCells, eqLf, minV, maxV, ifcV, zaa, zab, zac, zad, zae, zaf, zag, zah, zai, ofConst, ofConst1, List.replicate, zaj, zak, loadOp, Go.Abs.loadCells, binV, zal, pickV, zam, zan, zao, zap, zaq, zar, zas, zat, zau, outR, resAll, resOne, zav, zaw, zax, zay, zaz, zba, zbb, zbc, zbd, zbe, zbf, zbg, zbh, zbi, zbj, zbk, storeOp, storeCell, overlay, zbl, zbm, zbn, lookupOp, keyT, okRes, mapUpdateOp, zbo, zbp, zbq, zbr, zbs, zbt, zbu, Nat.reduceSub, Nat.reduceAdd, Int.reduceLT, Int.reduceLE, Int.reduceAdd, Int.reduceSub, Int.reduceToNat, Int.reduceBEq, Int.reduceBNe, Int.reduceMul, Nat.reduceBEq, Nat.reduceBNe, Nat.reduceLT, Nat.reduceLeDiff, Nat.reduceMul, Nat.reduceEqDiff, WD, effB, effH, isPriv, isHeap, isImm, zbx, zby, zbz, chkO, setD, dslot, zca, zcb, zcc, zcd, ptrCells_some, F26]
      refine ⟨us.length - (i + 1), by omega, i + 1, _, ?_, by omega, rfl, hf.trans hf2, hW2, he⟩
      simp only [WN, firstReg, growAll, zbv, zbw, norm, killS, zag, zah, zaa, zab, zbl, zat, zad, growOne, zae, zaf, zac, zas, zak, Nat.reduceLT, Nat.reduceAdd, zbj, zav, F26, (hx H').clip2, (hx H').clip]
      rw [IntWalk.i64_in ((i : Int) + 1) (by omega)]; rfl
    · have hi2 : i = us.length := by have := of_decide_eq_false hge; omega
      simp only [hge]
      simp only [WW, partV, eqCells, eqLf, minV, maxV, ifcV, zaa, zab, zac, zad, zae, zaf, zag, zah, zai, ofConst, ofConst1, List.replicate, zaj, zak, loadOp, Go.Abs.loadCells, binV, zal, pickV, zam, zan, zao, zap, zaq, zar, zas, zat, zau, outR, resAll, resOne, zav, zaw, zax, zay, zaz, zba, zbb, zbc, zbd, zbe, zbf, zbg, zbh, zbi, zbj, zbk, storeOp, storeCell, overlay, zbl, zbm, zbn, lookupOp, keyT, okRes, mapUpdateOp, zbo, zbp, zbq, zbr, zbs, zbt, zbu, Nat.reduceSub, Nat.reduceAdd, Int.reduceLT, Int.reduceLE, Int.reduceAdd, Int.reduceSub, Int.reduceToNat, Int.reduceBEq, Int.reduceBNe, Int.reduceMul, Nat.reduceBEq, Nat.reduceBNe, Nat.reduceLT, Nat.reduceLeDiff, Nat.reduceMul, Nat.reduceEqDiff, WD, effB, effH, isPriv, isHeap, isImm, zbx, zby, zbz, chkO, setD, dslot, zca, zcb, zcc, zcd, ptrCells_some, F26]
      refine ⟨hf, ?_⟩
      rw [hi2, List.drop_length, List.flatMap_nil] at he
      rw [← he]
      simpa [bs] using hW'
theorem severalG30 {H : Hp} {N : Nat → Prop} {l : List V} {w : Nat} {x : V} {vs : List V} {us : List (List Int)} {fa : FuncId} {fb fc : List V} (enc : (List Int) → List Nat) (hcf : callable Tryd.prog fa = true) (hN : ∀ i, N i → i < H.length) (hw : N w) (hW : Wr H N w l) (hx : RdA x vs) (h2 : All2 KeyR vs us)
    (hE : ∀ (H1 : Hp) (l1 : List V) (v : V) (a : (List Int)), a ∈ us → KeyR v a → Fr0 N w H H1 → Wr H1 N w l1 → l1.length + (enc a).length ≤ 4000000 → wpCall EW fa (fb ++ [v] ++ fc) H1 (fun out H2 => out = .ret (.tup []) false ∧ Fr0 N w H1 H2 ∧ Wr H2 N w (l1 ++ bs (enc a))))
    (hl : l.length + (encL enc us).length ≤ 4000000) (hc : us.length ≤ 4000000) :
    wpCall EW 30 [.ptr w 0 0, x, .fn fa fb fc] H (fun out H' => out = .ret (.tup []) false ∧ Fr0 N w H H' ∧ Wr H' N w (l ++ bs (encL enc us))) := by
  have hlen := h2.len
  refine runs f30 b30 r30 n30 _ _ ?_
  simp only [bodyOf, Tryd.f30, Option.getD_some]
  simp only [WW, partV, eqCells, eqLf, minV, maxV, ifcV, zaa, zab, zac, zad, zae, zaf, zag, zah, zai, ofConst, ofConst1, List.replicate, zaj, zak, loadOp, Go.Abs.loadCells, binV, zal, pickV, zam, zan, zao, zap, zaq, zar, zas, zat, zau, outR, resAll, resOne, zav, zaw, zax, zay, zaz, zba, zbb, zbc, zbd, zbe, zbf, zbg, zbh, zbi, zbj, zbk, storeOp, storeCell, overlay, zbl, zbm, zbn, lookupOp, keyT, okRes, mapUpdateOp, zbo, zbp, zbq, zbr, zbs, zbt, zbu, Nat.reduceSub, Nat.reduceAdd, Int.reduceLT, Int.reduceLE, Int.reduceAdd, Int.reduceSub, Int.reduceToNat, Int.reduceBEq, Int.reduceBNe, Int.reduceMul, Nat.reduceBEq, Nat.reduceBNe, Nat.reduceLT, Nat.reduceLeDiff, Nat.reduceMul, Nat.reduceEqDiff, WD, effB, effH, isPriv, isHeap, isImm, zbx, zby, zbz, chkO, setD, dslot, zca, zcb, zcc, zcd, ptrCells_some, F30, (hx H).len, (hx H).shutIn, hlen]
  refine wpCall_of (number_spec hN hw hW us.length (by omega) (by omega)) ?_
  rintro out H0 ⟨rfl, hf0, hW0⟩
  simp only [WW, partV, eqCells, eqLf, minV, maxV, ifcV, zaa, zab, zac, zad, zae, zaf, zag, zah, zai, ofConst, ofConst1, List.replicate, zaj, zak, loadOp, Go.Abs.loadCells, binV, zal, pickV, zam, zan, zao, zap, zaq, zar, zas, zat, zau, outR, resAll, resOne, zav, zaw, zax, zay, zaz, zba, zbb, zbc, zbd, zbe, zbf, zbg, zbh, zbi, zbj, zbk, storeOp, storeCell, overlay, zbl, zbm, zbn, lookupOp, keyT, okRes, mapUpdateOp, zbo, zbp, zbq, zbr, zbs, zbt, zbu, Nat.reduceSub, Nat.reduceAdd, Int.reduceLT, Int.reduceLE, Int.reduceAdd, Int.reduceSub, Int.reduceToNat, Int.reduceBEq, Int.reduceBNe, Int.reduceMul, Nat.reduceBEq, Nat.reduceBNe, Nat.reduceLT, Nat.reduceLeDiff, Nat.reduceMul, Nat.reduceEqDiff, WD, effB, effH, isPriv, isHeap, isImm, zbx, zby, zbz, chkO, setD, dslot, zca, zcb, zcc, zcd, ptrCells_some, F30, (hx H0).len, (hx H0).shutIn, hlen]
  refine wC_loop _ (fun k st' H' => ∃ (i : Nat) (lc : List V), st' = ⟨L30_2 (.v (.ptr w 0 0)) (.v (.fn fa fb fc)) (.v x) (.v (.int .i64 us.length)) (.v (.int .i64 i)), [], []⟩ ∧ i ≤ us.length ∧ k = us.length - i ∧ Fr0 N w H H' ∧ Wr H' N w lc ∧ lc ++ bs ((us.drop i).flatMap enc) = l ++ bs (encL enc us)) us.length ⟨0, _, ?_, by omega, by omega, hf0, hW0, by rw [encL_cons, bs_app, List.drop_zero, List.append_assoc]⟩ ?_
  · simp only [WN, firstReg, growAll, zbv, zbw, norm, killS, zag, zah, zaa, zab, zbl, zat, zad, growOne, zae, zaf, zac, zas, zak, Nat.reduceLT, Nat.reduceAdd, zbj, zav, F30, L30_2, (hx H).clip2, (hx H).clip]
    try rfl
  · rintro k st' H' ⟨i, lc, rfl, hi, rfl, hf, hW', he⟩
    simp only [L30_2]
    simp only [WW, partV, eqCells, eqLf, minV, maxV, ifcV, zaa, zab, zac, zad, zae, zaf, zag, zah, zai, ofConst, ofConst1, List.replicate, zaj, zak, loadOp, Go.Abs.loadCells, binV, zal, pickV, zam, zan, zao, zap, zaq, zar, zas, zat, zau, outR, resAll, resOne, zav, zaw, zax, zay, zaz, zba, zbb, zbc, zbd, zbe, zbf, zbg, zbh, zbi, zbj, zbk, storeOp, storeCell, overlay, zbl, zbm, zbn, lookupOp, keyT, okRes, mapUpdateOp, zbo, zbp, zbq, zbr, zbs, zbt, zbu, Nat.reduceSub, Nat.reduceAdd, Int.reduceLT, Int.reduceLE, Int.reduceAdd, Int.reduceSub, Int.reduceToNat, Int.reduceBEq, Int.reduceBNe, Int.reduceMul, Nat.reduceBEq, Nat.reduceBNe, Nat.reduceLT, Nat.reduceLeDiff, Nat.reduceMul, Nat.reduceEqDiff, WD, effB, effH, isPriv, isHeap, isImm, zbx, zby, zbz, chkO, setD, dslot, zca, zcb, zcc, zcd, ptrCells_some, F30, (hx H').len, (hx H').shutIn]
    have hN' : ∀ i, N i → i < H'.length := fun i hi => Nat.lt_of_lt_of_le (hN i hi) hf.1
    refine cSplit (fun hlt => ?_) (fun hge => ?_)
    · have hi2 : i < us.length := by have := of_decide_eq_true hlt; omega
      simp only [hlt]
      have hs : us[i]? = some us[i] := List.getElem?_eq_getElem hi2
      generalize us[i] = a at hs
      obtain ⟨v, hv, hR⟩ := h2.get hs
      have hmem : a ∈ us := List.mem_of_getElem? hs
      rw [drop_get hs, List.flatMap_cons, bs_app, ← List.append_assoc] at he
      have hlc : lc.length + (enc a).length ≤ 4000000 := by
        have := congrArg List.length he
        simp only [List.length_append, bs_len] at this
        omega
      have hE' := hE H' lc v a hmem hR hf hW' hlc
      have hat := (hx H').at_ (sz := 1) (i := i) (e := v) hv (hR H).width1
      obtain ⟨x0, hx0, hb0⟩ := hW'
      have hn1 : ((0 : Int) != 0) = false := rfl
      have hn2 : decide ((4194304 : Int) < (lc.length : Int)) = false := decide_eq_false (by omega)
      skip
      simp only [WW, partV, eqCells, eqLf, minV, maxV, ifcV, zaa, zab, zac, zad, zae, zaf, zag, zah, zai, ofConst, ofConst1, List.replicate, zaj, zak, loadOp, Go.Abs.loadCells, binV, zal, pickV, zam, zan, zao, zap, zaq, zar, zas, zat, zau, outR, resAll, resOne, zav, zaw, zax, zay, zaz, zba, zbb, zbc, zbd, zbe, zbf, zbg, zbh, zbi, zbj, zbk, storeOp, storeCell, overlay, zbl, zbm, zbn, lookupOp, keyT, okRes, mapUpdateOp, zbo, zbp, zbq, zbr, zbs, zbt, zbu, Nat.reduceSub, Nat.reduceAdd, Int.reduceLT, Int.reduceLE, Int.reduceAdd, Int.reduceSub, Int.reduceToNat, Int.reduceBEq, Int.reduceBNe, Int.reduceMul, Nat.reduceBEq, Nat.reduceBNe, Nat.reduceLT, Nat.reduceLeDiff, Nat.reduceMul, Nat.reduceEqDiff, WD, effB, effH, isPriv, isHeap, isImm, zbx, zby, zbz, chkO, setD, dslot, zca, zcb, zcc, zcd, ptrCells_some, F30, (hx H').len, (hx H').shutIn, hat.at1 (hx H'), hat.cells, hb0, hx0.shut, hx0.len, hx0.cells1, hn1, hn2, bne_self_eq_false, (hR H').cells1, (hR H').shutIn, (hR H').ok, (hR H').width1]
      refine ⟨hcf, wpCall_of hE' ?_⟩
      rintro out H2 ⟨rfl, hf2, hW2⟩
      simp only [WW, partV, eqCells, eqLf, minV, maxV, ifcV, zaa, zab, zac, zad, zae, zaf, zag, zah, zai, ofConst, ofConst1, List.replicate, zaj, zak, loadOp, Go.Abs.loadCells, binV, zal, pickV, zam, zan, zao, zap, zaq, zar, zas, zat, zau, outR, resAll, resOne, zav, zaw, zax, zay, zaz, zba, zbb, zbc, zbd, zbe, zbf, zbg, zbh, zbi, zbj, zbk, storeOp, storeCell, overlay, zbl, zbm, zbn, lookupOp, keyT, okRes, mapUpdateOp, zbo, zbp, zbq, zbr, zbs, zbt, zbu, Nat.reduceSub, Nat.reduceAdd, Int.reduceLT, Int.reduceLE, Int.reduceAdd, Int.reduceSub, Int.reduceToNat, Int.reduceBEq, Int.reduceBNe, Int.reduceMul, Nat.reduceBEq, Nat.reduceBNe, Nat.reduceLT, Nat.reduceLeDiff, Nat.reduceMul, Nat.reduceEqDiff, WD, effB, effH, isPriv, isHeap, isImm, zbx, zby, zbz, chkO, setD, dslot, zca, zcb, zcc, zcd, ptrCells_some, F30]
      refine ⟨us.length - (i + 1), by omega, i + 1, _, ?_, by omega, rfl, hf.trans hf2, hW2, he⟩
      simp only [WN, firstReg, growAll, zbv, zbw, norm, killS, zag, zah, zaa, zab, zbl, zat, zad, growOne, zae, zaf, zac, zas, zak, Nat.reduceLT, Nat.reduceAdd, zbj, zav, F30, (hx H').clip2, (hx H').clip]
      rw [IntWalk.i64_in ((i : Int) + 1) (by omega)]; rfl
    · have hi2 : i = us.length := by have := of_decide_eq_false hge; omega
      simp only [hge]
      simp only [WW, partV, eqCells, eqLf, minV, maxV, ifcV, zaa, zab, zac, zad, zae, zaf, zag, zah, zai, ofConst, ofConst1, List.replicate, zaj, zak, loadOp, Go.Abs.loadCells, binV, zal, pickV, zam, zan, zao, zap, zaq, zar, zas, zat, zau, outR, resAll, resOne, zav, zaw, zax, zay, zaz, zba, zbb, zbc, zbd, zbe, zbf, zbg, zbh, zbi, zbj, zbk, storeOp, storeCell, overlay, zbl, zbm, zbn, lookupOp, keyT, okRes, mapUpdateOp, zbo, zbp, zbq, zbr, zbs, zbt, zbu, Nat.reduceSub, Nat.reduceAdd, Int.reduceLT, Int.reduceLE, Int.reduceAdd, Int.reduceSub, Int.reduceToNat, Int.reduceBEq, Int.reduceBNe, Int.reduceMul, Nat.reduceBEq, Nat.reduceBNe, Nat.reduceLT, Nat.reduceLeDiff, Nat.reduceMul, Nat.reduceEqDiff, WD, effB, effH, isPriv, isHeap, isImm, zbx, zby, zbz, chkO, setD, dslot, zca, zcb, zcc, zcd, ptrCells_some, F30]
      refine ⟨hf, ?_⟩
      rw [hi2, List.drop_length, List.flatMap_nil] at he
      rw [← he]
      simpa [bs] using hW'
theorem severalG32 {H : Hp} {N : Nat → Prop} {l : List V} {w : Nat} {x : V} {vs : List V} {us : List Int} {fa : FuncId} {fb fc : List V} (enc : Int → List Nat) (hcf : callable Tryd.prog fa = true) (hN : ∀ i, N i → i < H.length) (hw : N w) (hW : Wr H N w l) (hx : RdA x vs) (h2 : All2 IntR vs us)
    (hE : ∀ (H1 : Hp) (l1 : List V) (v : V) (a : Int), a ∈ us → IntR v a → Fr0 N w H H1 → Wr H1 N w l1 → l1.length + (enc a).length ≤ 4000000 → wpCall EW fa (fb ++ [v] ++ fc) H1 (fun out H2 => out = .ret (.tup []) false ∧ Fr0 N w H1 H2 ∧ Wr H2 N w (l1 ++ bs (enc a))))
    (hl : l.length + (encL enc us).length ≤ 4000000) (hc : us.length ≤ 4000000) :
    wpCall EW 32 [.ptr w 0 0, x, .fn fa fb fc] H (fun out H' => out = .ret (.tup []) false ∧ Fr0 N w H H' ∧ Wr H' N w (l ++ bs (encL enc us))) := by
  have hlen := h2.len
  refine runs f32 b32 r32 n32 _ _ ?_
  simp only [bodyOf, Tryd.f32, Option.getD_some]
  simp only [WW, partV, eqCells, eqLf, minV, maxV, ifcV, zaa, zab, zac, zad, zae, zaf, zag, zah, zai, ofConst, ofConst1, List.replicate, zaj, zak, loadOp, Go.Abs.loadCells, binV, zal, pickV, zam, zan, zao, zap, zaq, zar, zas, zat, zau, outR, resAll, resOne, zav, zaw, zax, zay, zaz, zba, zbb, zbc, zbd, zbe, zbf, zbg, zbh, zbi, zbj, zbk, storeOp, storeCell, overlay, zbl, zbm, zbn, lookupOp, keyT, okRes, mapUpdateOp, zbo, zbp, zbq, zbr, zbs, zbt, zbu, Nat.reduceSub, Nat.reduceAdd, Int.reduceLT, Int.reduceLE, Int.reduceAdd, Int.reduceSub, Int.reduceToNat, Int.reduceBEq, Int.reduceBNe, Int.reduceMul, Nat.reduceBEq, Nat.reduceBNe, Nat.reduceLT, Nat.reduceLeDiff, Nat.reduceMul, Nat.reduceEqDiff, WD, effB, effH, isPriv, isHeap, isImm, zbx, zby, zbz, chkO, setD, dslot, zca, zcb, zcc, zcd, ptrCells_some, F32, (hx H).len, (hx H).shutIn, hlen]
  refine wpCall_of (number_spec hN hw hW us.length (by omega) (by omega)) ?_
  rintro out H0 ⟨rfl, hf0, hW0⟩
  simp only [WW, partV, eqCells, eqLf, minV, maxV, ifcV, zaa, zab, zac, zad, zae, zaf, zag, zah, zai, ofConst, ofConst1, List.replicate, zaj, zak, loadOp, Go.Abs.loadCells, binV, zal, pickV, zam, zan, zao, zap, zaq, zar, zas, zat, zau, outR, resAll, resOne, zav, zaw, zax, zay, zaz, zba, zbb, zbc, zbd, zbe, zbf, zbg, zbh, zbi, zbj, zbk, storeOp, storeCell, overlay, zbl, zbm, zbn, lookupOp, keyT, okRes, mapUpdateOp, zbo, zbp, zbq, zbr, zbs, zbt, zbu, Nat.reduceSub, Nat.reduceAdd, Int.reduceLT, Int.reduceLE, Int.reduceAdd, Int.reduceSub, Int.reduceToNat, Int.reduceBEq, Int.reduceBNe, Int.reduceMul, Nat.reduceBEq, Nat.reduceBNe, Nat.reduceLT, Nat.reduceLeDiff, Nat.reduceMul, Nat.reduceEqDiff, WD, effB, effH, isPriv, isHeap, isImm, zbx, zby, zbz, chkO, setD, dslot, zca, zcb, zcc, zcd, ptrCells_some, F32, (hx H0).len, (hx H0).shutIn, hlen]
  refine wC_loop _ (fun k st' H' => ∃ (i : Nat) (lc : List V), st' = ⟨L32_2 (.v (.ptr w 0 0)) (.v (.fn fa fb fc)) (.v x) (.v (.int .i64 us.length)) (.v (.int .i64 i)), [], []⟩ ∧ i ≤ us.length ∧ k = us.length - i ∧ Fr0 N w H H' ∧ Wr H' N w lc ∧ lc ++ bs ((us.drop i).flatMap enc) = l ++ bs (encL enc us)) us.length ⟨0, _, ?_, by omega, by omega, hf0, hW0, by rw [encL_cons, bs_app, List.drop_zero, List.append_assoc]⟩ ?_
  · simp only [WN, firstReg, growAll, zbv, zbw, norm, killS, zag, zah, zaa, zab, zbl, zat, zad, growOne, zae, zaf, zac, zas, zak, Nat.reduceLT, Nat.reduceAdd, zbj, zav, F32, L32_2, (hx H).clip2, (hx H).clip]
    try rfl
  · rintro k st' H' ⟨i, lc, rfl, hi, rfl, hf, hW', he⟩
    simp only [L32_2]
    simp only [WW, partV, eqCells, eqLf, minV, maxV, ifcV, zaa, zab, zac, zad, zae, zaf, zag, zah, zai, ofConst, ofConst1, List.replicate, zaj, zak, loadOp, Go.Abs.loadCells, binV, zal, pickV, zam, zan, zao, zap, zaq, zar, zas, zat, zau, outR, resAll, resOne, zav, zaw, zax, zay, zaz, zba, zbb, zbc, zbd, zbe, zbf, zbg, zbh, zbi, zbj, zbk, storeOp, storeCell, overlay, zbl, zbm, zbn, lookupOp, keyT, okRes, mapUpdateOp, zbo, zbp, zbq, zbr, zbs, zbt, zbu, Nat.reduceSub, Nat.reduceAdd, Int.reduceLT, Int.reduceLE, Int.reduceAdd, Int.reduceSub, Int.reduceToNat, Int.reduceBEq, Int.reduceBNe, Int.reduceMul, Nat.reduceBEq, Nat.reduceBNe, Nat.reduceLT, Nat.reduceLeDiff, Nat.reduceMul, Nat.reduceEqDiff, WD, effB, effH, isPriv, isHeap, isImm, zbx, zby, zbz, chkO, setD, dslot, zca, zcb, zcc, zcd, ptrCells_some, F32, (hx H').len, (hx H').shutIn]
    have hN' : ∀ i, N i → i < H'.length := fun i hi => Nat.lt_of_lt_of_le (hN i hi) hf.1
    refine cSplit (fun hlt => ?_) (fun hge => ?_)
    · have hi2 : i < us.length := by have := of_decide_eq_true hlt; omega
      simp only [hlt]
      have hs : us[i]? = some us[i] := List.getElem?_eq_getElem hi2
      generalize us[i] = a at hs
      obtain ⟨v, hv, hR⟩ := h2.get hs
      have hmem : a ∈ us := List.mem_of_getElem? hs
      rw [drop_get hs, List.flatMap_cons, bs_app, ← List.append_assoc] at he
      have hlc : lc.length + (enc a).length ≤ 4000000 := by
        have := congrArg List.length he
        simp only [List.length_append, bs_len] at this
        omega
      have hE' := hE H' lc v a hmem hR hf hW' hlc
      have hat := (hx H').at_ (sz := 1) (i := i) (e := v) hv (by rw [hR]; rfl)
      obtain ⟨x0, hx0, hb0⟩ := hW'
      have hn1 : ((0 : Int) != 0) = false := rfl
      have hn2 : decide ((4194304 : Int) < (lc.length : Int)) = false := decide_eq_false (by omega)
      obtain rfl : v = .int .i64 a := hR
      simp only [WW, partV, eqCells, eqLf, minV, maxV, ifcV, zaa, zab, zac, zad, zae, zaf, zag, zah, zai, ofConst, ofConst1, List.replicate, zaj, zak, loadOp, Go.Abs.loadCells, binV, zal, pickV, zam, zan, zao, zap, zaq, zar, zas, zat, zau, outR, resAll, resOne, zav, zaw, zax, zay, zaz, zba, zbb, zbc, zbd, zbe, zbf, zbg, zbh, zbi, zbj, zbk, storeOp, storeCell, overlay, zbl, zbm, zbn, lookupOp, keyT, okRes, mapUpdateOp, zbo, zbp, zbq, zbr, zbs, zbt, zbu, Nat.reduceSub, Nat.reduceAdd, Int.reduceLT, Int.reduceLE, Int.reduceAdd, Int.reduceSub, Int.reduceToNat, Int.reduceBEq, Int.reduceBNe, Int.reduceMul, Nat.reduceBEq, Nat.reduceBNe, Nat.reduceLT, Nat.reduceLeDiff, Nat.reduceMul, Nat.reduceEqDiff, WD, effB, effH, isPriv, isHeap, isImm, zbx, zby, zbz, chkO, setD, dslot, zca, zcb, zcc, zcd, ptrCells_some, F32, (hx H').len, (hx H').shutIn, hat.at1 (hx H'), hat.cells, hb0, hx0.shut, hx0.len, hx0.cells1, hn1, hn2, bne_self_eq_false]
      refine ⟨hcf, wpCall_of hE' ?_⟩
      rintro out H2 ⟨rfl, hf2, hW2⟩
      simp only [WW, partV, eqCells, eqLf, minV, maxV, ifcV, zaa, zab, zac, zad, zae, zaf, zag, zah, zai, ofConst, ofConst1, List.replicate, zaj, zak, loadOp, Go.Abs.loadCells, binV, zal, pickV, zam, zan, zao, zap, zaq, zar, zas, zat, zau, outR, resAll, resOne, zav, zaw, zax, zay, zaz, zba, zbb, zbc, zbd, zbe, zbf, zbg, zbh, zbi, zbj, zbk, storeOp, storeCell, overlay, zbl, zbm, zbn, lookupOp, keyT, okRes, mapUpdateOp, zbo, zbp, zbq, zbr, zbs, zbt, zbu, Nat.reduceSub, Nat.reduceAdd, Int.reduceLT, Int.reduceLE, Int.reduceAdd, Int.reduceSub, Int.reduceToNat, Int.reduceBEq, Int.reduceBNe, Int.reduceMul, Nat.reduceBEq, Nat.reduceBNe, Nat.reduceLT, Nat.reduceLeDiff, Nat.reduceMul, Nat.reduceEqDiff, WD, effB, effH, isPriv, isHeap, isImm, zbx, zby, zbz, chkO, setD, dslot, zca, zcb, zcc, zcd, ptrCells_some, F32]
      refine ⟨us.length - (i + 1), by omega, i + 1, _, ?_, by omega, rfl, hf.trans hf2, hW2, he⟩
      simp only [WN, firstReg, growAll, zbv, zbw, norm, killS, zag, zah, zaa, zab, zbl, zat, zad, growOne, zae, zaf, zac, zas, zak, Nat.reduceLT, Nat.reduceAdd, zbj, zav, F32, (hx H').clip2, (hx H').clip]
      rw [IntWalk.i64_in ((i : Int) + 1) (by omega)]; rfl
    · have hi2 : i = us.length := by have := of_decide_eq_false hge; omega
      simp only [hge]
      simp only [WW, partV, eqCells, eqLf, minV, maxV, ifcV, zaa, zab, zac, zad, zae, zaf, zag, zah, zai, ofConst, ofConst1, List.replicate, zaj, zak, loadOp, Go.Abs.loadCells, binV, zal, pickV, zam, zan, zao, zap, zaq, zar, zas, zat, zau, outR, resAll, resOne, zav, zaw, zax, zay, zaz, zba, zbb, zbc, zbd, zbe, zbf, zbg, zbh, zbi, zbj, zbk, storeOp, storeCell, overlay, zbl, zbm, zbn, lookupOp, keyT, okRes, mapUpdateOp, zbo, zbp, zbq, zbr, zbs, zbt, zbu, Nat.reduceSub, Nat.reduceAdd, Int.reduceLT, Int.reduceLE, Int.reduceAdd, Int.reduceSub, Int.reduceToNat, Int.reduceBEq, Int.reduceBNe, Int.reduceMul, Nat.reduceBEq, Nat.reduceBNe, Nat.reduceLT, Nat.reduceLeDiff, Nat.reduceMul, Nat.reduceEqDiff, WD, effB, effH, isPriv, isHeap, isImm, zbx, zby, zbz, chkO, setD, dslot, zca, zcb, zcc, zcd, ptrCells_some, F32]
      refine ⟨hf, ?_⟩
      rw [hi2, List.drop_length, List.flatMap_nil] at he
      rw [← he]
      simpa [bs] using hW'
theorem severalG33 {H : Hp} {N : Nat → Prop} {l : List V} {w : Nat} {x : V} {vs : List V} {us : List FnM} {fa : FuncId} {fb fc : List V} (enc : FnM → List Nat) (hcf : callable Tryd.prog fa = true) (hN : ∀ i, N i → i < H.length) (hw : N w) (hW : Wr H N w l) (hx : RdA x vs) (h2 : All2 FnR vs us)
    (hE : ∀ (H1 : Hp) (l1 : List V) (v : V) (a : FnM), a ∈ us → FnR v a → Fr0 N w H H1 → Wr H1 N w l1 → l1.length + (enc a).length ≤ 4000000 → wpCall EW fa (fb ++ [v] ++ fc) H1 (fun out H2 => out = .ret (.tup []) false ∧ Fr0 N w H1 H2 ∧ Wr H2 N w (l1 ++ bs (enc a))))
    (hl : l.length + (encL enc us).length ≤ 4000000) (hc : us.length ≤ 4000000) :
    wpCall EW 33 [.ptr w 0 0, x, .fn fa fb fc] H (fun out H' => out = .ret (.tup []) false ∧ Fr0 N w H H' ∧ Wr H' N w (l ++ bs (encL enc us))) := by
  have hlen := h2.len
  refine runs f33 b33 r33 n33 _ _ ?_
  simp only [bodyOf, Tryd.f33, Option.getD_some]
  simp only [WW, partV, eqCells, eqLf, minV, maxV, ifcV, zaa, zab, zac, zad, zae, zaf, zag, zah, zai, ofConst, ofConst1, List.replicate, zaj, zak, loadOp, Go.Abs.loadCells, binV, zal, pickV, zam, zan, zao, zap, zaq, zar, zas, zat, zau, outR, resAll, resOne, zav, zaw, zax, zay, zaz, zba, zbb, zbc, zbd, zbe, zbf, zbg, zbh, zbi, zbj, zbk, storeOp, storeCell, overlay, zbl, zbm, zbn, lookupOp, keyT, okRes, mapUpdateOp, zbo, zbp, zbq, zbr, zbs, zbt, zbu, Nat.reduceSub, Nat.reduceAdd, Int.reduceLT, Int.reduceLE, Int.reduceAdd, Int.reduceSub, Int.reduceToNat, Int.reduceBEq, Int.reduceBNe, Int.reduceMul, Nat.reduceBEq, Nat.reduceBNe, Nat.reduceLT, Nat.reduceLeDiff, Nat.reduceMul, Nat.reduceEqDiff, WD, effB, effH, isPriv, isHeap, isImm, zbx, zby, zbz, chkO, setD, dslot, zca, zcb, zcc, zcd, ptrCells_some, F33, (hx H).len, (hx H).shutIn, hlen]
  refine wpCall_of (number_spec hN hw hW us.length (by omega) (by omega)) ?_
  rintro out H0 ⟨rfl, hf0, hW0⟩
  simp only [WW, partV, eqCells, eqLf, minV, maxV, ifcV, zaa, zab, zac, zad, zae, zaf, zag, zah, zai, ofConst, ofConst1, List.replicate, zaj, zak, loadOp, Go.Abs.loadCells, binV, zal, pickV, zam, zan, zao, zap, zaq, zar, zas, zat, zau, outR, resAll, resOne, zav, zaw, zax, zay, zaz, zba, zbb, zbc, zbd, zbe, zbf, zbg, zbh, zbi, zbj, zbk, storeOp, storeCell, overlay, zbl, zbm, zbn, lookupOp, keyT, okRes, mapUpdateOp, zbo, zbp, zbq, zbr, zbs, zbt, zbu, Nat.reduceSub, Nat.reduceAdd, Int.reduceLT, Int.reduceLE, Int.reduceAdd, Int.reduceSub, Int.reduceToNat, Int.reduceBEq, Int.reduceBNe, Int.reduceMul, Nat.reduceBEq, Nat.reduceBNe, Nat.reduceLT, Nat.reduceLeDiff, Nat.reduceMul, Nat.reduceEqDiff, WD, effB, effH, isPriv, isHeap, isImm, zbx, zby, zbz, chkO, setD, dslot, zca, zcb, zcc, zcd, ptrCells_some, F33, (hx H0).len, (hx H0).shutIn, hlen]
  refine wC_loop _ (fun k st' H' => ∃ (i : Nat) (lc : List V), st' = ⟨L33_2 (.v (.ptr w 0 0)) (.v (.fn fa fb fc)) (.v x) (.v (.int .i64 us.length)) (.v (.int .i64 i)), [], []⟩ ∧ i ≤ us.length ∧ k = us.length - i ∧ Fr0 N w H H' ∧ Wr H' N w lc ∧ lc ++ bs ((us.drop i).flatMap enc) = l ++ bs (encL enc us)) us.length ⟨0, _, ?_, by omega, by omega, hf0, hW0, by rw [encL_cons, bs_app, List.drop_zero, List.append_assoc]⟩ ?_
  · simp only [WN, firstReg, growAll, zbv, zbw, norm, killS, zag, zah, zaa, zab, zbl, zat, zad, growOne, zae, zaf, zac, zas, zak, Nat.reduceLT, Nat.reduceAdd, zbj, zav, F33, L33_2, (hx H).clip2, (hx H).clip]
    try rfl
  · rintro k st' H' ⟨i, lc, rfl, hi, rfl, hf, hW', he⟩
    simp only [L33_2]
    simp only [WW, partV, eqCells, eqLf, minV, maxV, ifcV, zaa, zab, zac, zad, zae, zaf, zag, zah, zai, ofConst, ofConst1, List.replicate, zaj, zak, loadOp, Go.Abs.loadCells, binV, zal, pickV, zam, zan, zao, zap, zaq, zar, zas, zat, zau, outR, resAll, resOne, zav, zaw, zax, zay, zaz, zba, zbb, zbc, zbd, zbe, zbf, zbg, zbh, zbi, zbj, zbk, storeOp, storeCell, overlay, zbl, zbm, zbn, lookupOp, keyT, okRes, mapUpdateOp, zbo, zbp, zbq, zbr, zbs, zbt, zbu, Nat.reduceSub, Nat.reduceAdd, Int.reduceLT, Int.reduceLE, Int.reduceAdd, Int.reduceSub, Int.reduceToNat, Int.reduceBEq, Int.reduceBNe, Int.reduceMul, Nat.reduceBEq, Nat.reduceBNe, Nat.reduceLT, Nat.reduceLeDiff, Nat.reduceMul, Nat.reduceEqDiff, WD, effB, effH, isPriv, isHeap, isImm, zbx, zby, zbz, chkO, setD, dslot, zca, zcb, zcc, zcd, ptrCells_some, F33, (hx H').len, (hx H').shutIn]
    have hN' : ∀ i, N i → i < H'.length := fun i hi => Nat.lt_of_lt_of_le (hN i hi) hf.1
    refine cSplit (fun hlt => ?_) (fun hge => ?_)
    · have hi2 : i < us.length := by have := of_decide_eq_true hlt; omega
      simp only [hlt]
      have hs : us[i]? = some us[i] := List.getElem?_eq_getElem hi2
      generalize us[i] = a at hs
      obtain ⟨v, hv, hR⟩ := h2.get hs
      have hmem : a ∈ us := List.mem_of_getElem? hs
      rw [drop_get hs, List.flatMap_cons, bs_app, ← List.append_assoc] at he
      have hlc : lc.length + (enc a).length ≤ 4000000 := by
        have := congrArg List.length he
        simp only [List.length_append, bs_len] at this
        omega
      have hE' := hE H' lc v a hmem hR hf hW' hlc
      have hat := (hx H').at_ (sz := 6) (i := i) (e := v) hv (by obtain ⟨q⟩ := hR; rw [q.e]; rfl)
      obtain ⟨x0, hx0, hb0⟩ := hW'
      have hn1 : ((0 : Int) != 0) = false := rfl
      have hn2 : decide ((4194304 : Int) < (lc.length : Int)) = false := decide_eq_false (by omega)
      obtain ⟨⟨k1, k2, k3, k4, rfl, q1, q2, q3, q4⟩⟩ := hR
      simp only [WW, partV, eqCells, eqLf, minV, maxV, ifcV, zaa, zab, zac, zad, zae, zaf, zag, zah, zai, ofConst, ofConst1, List.replicate, zaj, zak, loadOp, Go.Abs.loadCells, binV, zal, pickV, zam, zan, zao, zap, zaq, zar, zas, zat, zau, outR, resAll, resOne, zav, zaw, zax, zay, zaz, zba, zbb, zbc, zbd, zbe, zbf, zbg, zbh, zbi, zbj, zbk, storeOp, storeCell, overlay, zbl, zbm, zbn, lookupOp, keyT, okRes, mapUpdateOp, zbo, zbp, zbq, zbr, zbs, zbt, zbu, Nat.reduceSub, Nat.reduceAdd, Int.reduceLT, Int.reduceLE, Int.reduceAdd, Int.reduceSub, Int.reduceToNat, Int.reduceBEq, Int.reduceBNe, Int.reduceMul, Nat.reduceBEq, Nat.reduceBNe, Nat.reduceLT, Nat.reduceLeDiff, Nat.reduceMul, Nat.reduceEqDiff, WD, effB, effH, isPriv, isHeap, isImm, zbx, zby, zbz, chkO, setD, dslot, zca, zcb, zcc, zcd, ptrCells_some, F33, (hx H').len, (hx H').shutIn, hat.at1 (hx H'), hat.cells, hb0, hx0.shut, hx0.len, hx0.cells1, hn1, hn2, bne_self_eq_false, (q1 H').cells1, (q1 H').shutIn, (q1 H').ok, (q2 H').cells1, (q2 H').shutIn, (q2 H').ok, (q3 H').cells1, (q3 H').shutIn, (q3 H').ok, (q4 H').cells1, (q4 H').shutIn, (q4 H').ok]
      refine ⟨hcf, wpCall_of hE' ?_⟩
      rintro out H2 ⟨rfl, hf2, hW2⟩
      simp only [WW, partV, eqCells, eqLf, minV, maxV, ifcV, zaa, zab, zac, zad, zae, zaf, zag, zah, zai, ofConst, ofConst1, List.replicate, zaj, zak, loadOp, Go.Abs.loadCells, binV, zal, pickV, zam, zan, zao, zap, zaq, zar, zas, zat, zau, outR, resAll, resOne, zav, zaw, zax, zay, zaz, zba, zbb, zbc, zbd, zbe, zbf, zbg, zbh, zbi, zbj, zbk, storeOp, storeCell, overlay, zbl, zbm, zbn, lookupOp, keyT, okRes, mapUpdateOp, zbo, zbp, zbq, zbr, zbs, zbt, zbu, Nat.reduceSub, Nat.reduceAdd, Int.reduceLT, Int.reduceLE, Int.reduceAdd, Int.reduceSub, Int.reduceToNat, Int.reduceBEq, Int.reduceBNe, Int.reduceMul, Nat.reduceBEq, Nat.reduceBNe, Nat.reduceLT, Nat.reduceLeDiff, Nat.reduceMul, Nat.reduceEqDiff, WD, effB, effH, isPriv, isHeap, isImm, zbx, zby, zbz, chkO, setD, dslot, zca, zcb, zcc, zcd, ptrCells_some, F33]
      refine ⟨us.length - (i + 1), by omega, i + 1, _, ?_, by omega, rfl, hf.trans hf2, hW2, he⟩
      simp only [WN, firstReg, growAll, zbv, zbw, norm, killS, zag, zah, zaa, zab, zbl, zat, zad, growOne, zae, zaf, zac, zas, zak, Nat.reduceLT, Nat.reduceAdd, zbj, zav, F33, (hx H').clip2, (hx H').clip]
      rw [IntWalk.i64_in ((i : Int) + 1) (by omega)]; rfl
    · have hi2 : i = us.length := by have := of_decide_eq_false hge; omega
      simp only [hge]
      simp only [WW, partV, eqCells, eqLf, minV, maxV, ifcV, zaa, zab, zac, zad, zae, zaf, zag, zah, zai, ofConst, ofConst1, List.replicate, zaj, zak, loadOp, Go.Abs.loadCells, binV, zal, pickV, zam, zan, zao, zap, zaq, zar, zas, zat, zau, outR, resAll, resOne, zav, zaw, zax, zay, zaz, zba, zbb, zbc, zbd, zbe, zbf, zbg, zbh, zbi, zbj, zbk, storeOp, storeCell, overlay, zbl, zbm, zbn, lookupOp, keyT, okRes, mapUpdateOp, zbo, zbp, zbq, zbr, zbs, zbt, zbu, Nat.reduceSub, Nat.reduceAdd, Int.reduceLT, Int.reduceLE, Int.reduceAdd, Int.reduceSub, Int.reduceToNat, Int.reduceBEq, Int.reduceBNe, Int.reduceMul, Nat.reduceBEq, Nat.reduceBNe, Nat.reduceLT, Nat.reduceLeDiff, Nat.reduceMul, Nat.reduceEqDiff, WD, effB, effH, isPriv, isHeap, isImm, zbx, zby, zbz, chkO, setD, dslot, zca, zcb, zcc, zcd, ptrCells_some, F33]
      refine ⟨hf, ?_⟩
      rw [hi2, List.drop_length, List.flatMap_nil] at he
      rw [← he]
      simpa [bs] using hW'
theorem severalG59 {H : Hp} {N : Nat → Prop} {l : List V} {w : Nat} {x : V} {vs : List V} {us : List (Int × Int)} {fa : FuncId} {fb fc : List V} (enc : (Int × Int) → List Nat) (hcf : callable Tryd.prog fa = true) (hN : ∀ i, N i → i < H.length) (hw : N w) (hW : Wr H N w l) (hx : RdA x vs) (h2 : All2 CapR vs us)
    (hE : ∀ (H1 : Hp) (l1 : List V) (v : V) (a : (Int × Int)), a ∈ us → CapR v a → Fr0 N w H H1 → Wr H1 N w l1 → l1.length + (enc a).length ≤ 4000000 → wpCall EW fa (fb ++ [v] ++ fc) H1 (fun out H2 => out = .ret (.tup []) false ∧ Fr0 N w H1 H2 ∧ Wr H2 N w (l1 ++ bs (enc a))))
    (hl : l.length + (encL enc us).length ≤ 4000000) (hc : us.length ≤ 4000000) :
    wpCall EW 59 [.ptr w 0 0, x, .fn fa fb fc] H (fun out H' => out = .ret (.tup []) false ∧ Fr0 N w H H' ∧ Wr H' N w (l ++ bs (encL enc us))) := by
  have hlen := h2.len
  refine runs f59 b59 r59 n59 _ _ ?_
  simp only [bodyOf, Tryd.f59, Option.getD_some]
  simp only [WW, partV, eqCells, eqLf, minV, maxV, ifcV, zaa, zab, zac, zad, zae, zaf, zag, zah, zai, ofConst, ofConst1, List.replicate, zaj, zak, loadOp, Go.Abs.loadCells, binV, zal, pickV, zam, zan, zao, zap, zaq, zar, zas, zat, zau, outR, resAll, resOne, zav, zaw, zax, zay, zaz, zba, zbb, zbc, zbd, zbe, zbf, zbg, zbh, zbi, zbj, zbk, storeOp, storeCell, overlay, zbl, zbm, zbn, lookupOp, keyT, okRes, mapUpdateOp, zbo, zbp, zbq, zbr, zbs, zbt, zbu, Nat.reduceSub, Nat.reduceAdd, Int.reduceLT, Int.reduceLE, Int.reduceAdd, Int.reduceSub, Int.reduceToNat, Int.reduceBEq, Int.reduceBNe, Int.reduceMul, Nat.reduceBEq, Nat.reduceBNe, Nat.reduceLT, Nat.reduceLeDiff, Nat.reduceMul, Nat.reduceEqDiff, WD, effB, effH, isPriv, isHeap, isImm, zbx, zby, zbz, chkO, setD, dslot, zca, zcb, zcc, zcd, ptrCells_some, F59, (hx H).len, (hx H).shutIn, hlen]
  refine wpCall_of (number_spec hN hw hW us.length (by omega) (by omega)) ?_
  rintro out H0 ⟨rfl, hf0, hW0⟩
  simp only [WW, partV, eqCells, eqLf, minV, maxV, ifcV, zaa, zab, zac, zad, zae, zaf, zag, zah, zai, ofConst, ofConst1, List.replicate, zaj, zak, loadOp, Go.Abs.loadCells, binV, zal, pickV, zam, zan, zao, zap, zaq, zar, zas, zat, zau, outR, resAll, resOne, zav, zaw, zax, zay, zaz, zba, zbb, zbc, zbd, zbe, zbf, zbg, zbh, zbi, zbj, zbk, storeOp, storeCell, overlay, zbl, zbm, zbn, lookupOp, keyT, okRes, mapUpdateOp, zbo, zbp, zbq, zbr, zbs, zbt, zbu, Nat.reduceSub, Nat.reduceAdd, Int.reduceLT, Int.reduceLE, Int.reduceAdd, Int.reduceSub, Int.reduceToNat, Int.reduceBEq, Int.reduceBNe, Int.reduceMul, Nat.reduceBEq, Nat.reduceBNe, Nat.reduceLT, Nat.reduceLeDiff, Nat.reduceMul, Nat.reduceEqDiff, WD, effB, effH, isPriv, isHeap, isImm, zbx, zby, zbz, chkO, setD, dslot, zca, zcb, zcc, zcd, ptrCells_some, F59, (hx H0).len, (hx H0).shutIn, hlen]
  refine wC_loop _ (fun k st' H' => ∃ (i : Nat) (lc : List V), st' = ⟨L59_2 (.v (.ptr w 0 0)) (.v (.fn fa fb fc)) (.v x) (.v (.int .i64 us.length)) (.v (.int .i64 i)), [], []⟩ ∧ i ≤ us.length ∧ k = us.length - i ∧ Fr0 N w H H' ∧ Wr H' N w lc ∧ lc ++ bs ((us.drop i).flatMap enc) = l ++ bs (encL enc us)) us.length ⟨0, _, ?_, by omega, by omega, hf0, hW0, by rw [encL_cons, bs_app, List.drop_zero, List.append_assoc]⟩ ?_
  · simp only [WN, firstReg, growAll, zbv, zbw, norm, killS, zag, zah, zaa, zab, zbl, zat, zad, growOne, zae, zaf, zac, zas, zak, Nat.reduceLT, Nat.reduceAdd, zbj, zav, F59, L59_2, (hx H).clip2, (hx H).clip]
    try rfl
  · rintro k st' H' ⟨i, lc, rfl, hi, rfl, hf, hW', he⟩
    simp only [L59_2]
    simp only [WW, partV, eqCells, eqLf, minV, maxV, ifcV, zaa, zab, zac, zad, zae, zaf, zag, zah, zai, ofConst, ofConst1, List.replicate, zaj, zak, loadOp, Go.Abs.loadCells, binV, zal, pickV, zam, zan, zao, zap, zaq, zar, zas, zat, zau, outR, resAll, resOne, zav, zaw, zax, zay, zaz, zba, zbb, zbc, zbd, zbe, zbf, zbg, zbh, zbi, zbj, zbk, storeOp, storeCell, overlay, zbl, zbm, zbn, lookupOp, keyT, okRes, mapUpdateOp, zbo, zbp, zbq, zbr, zbs, zbt, zbu, Nat.reduceSub, Nat.reduceAdd, Int.reduceLT, Int.reduceLE, Int.reduceAdd, Int.reduceSub, Int.reduceToNat, Int.reduceBEq, Int.reduceBNe, Int.reduceMul, Nat.reduceBEq, Nat.reduceBNe, Nat.reduceLT, Nat.reduceLeDiff, Nat.reduceMul, Nat.reduceEqDiff, WD, effB, effH, isPriv, isHeap, isImm, zbx, zby, zbz, chkO, setD, dslot, zca, zcb, zcc, zcd, ptrCells_some, F59, (hx H').len, (hx H').shutIn]
    have hN' : ∀ i, N i → i < H'.length := fun i hi => Nat.lt_of_lt_of_le (hN i hi) hf.1
    refine cSplit (fun hlt => ?_) (fun hge => ?_)
    · have hi2 : i < us.length := by have := of_decide_eq_true hlt; omega
      simp only [hlt]
      have hs : us[i]? = some us[i] := List.getElem?_eq_getElem hi2
      generalize us[i] = a at hs
      obtain ⟨v, hv, hR⟩ := h2.get hs
      have hmem : a ∈ us := List.mem_of_getElem? hs
      rw [drop_get hs, List.flatMap_cons, bs_app, ← List.append_assoc] at he
      have hlc : lc.length + (enc a).length ≤ 4000000 := by
        have := congrArg List.length he
        simp only [List.length_append, bs_len] at this
        omega
      have hE' := hE H' lc v a hmem hR hf hW' hlc
      have hat := (hx H').at_ (sz := 2) (i := i) (e := v) hv (by rw [hR]; rfl)
      obtain ⟨x0, hx0, hb0⟩ := hW'
      have hn1 : ((0 : Int) != 0) = false := rfl
      have hn2 : decide ((4194304 : Int) < (lc.length : Int)) = false := decide_eq_false (by omega)
      obtain rfl : v = capV a := hR
      simp only [WW, partV, eqCells, eqLf, minV, maxV, ifcV, zaa, zab, zac, zad, zae, zaf, zag, zah, zai, ofConst, ofConst1, List.replicate, zaj, zak, loadOp, Go.Abs.loadCells, binV, zal, pickV, zam, zan, zao, zap, zaq, zar, zas, zat, zau, outR, resAll, resOne, zav, zaw, zax, zay, zaz, zba, zbb, zbc, zbd, zbe, zbf, zbg, zbh, zbi, zbj, zbk, storeOp, storeCell, overlay, zbl, zbm, zbn, lookupOp, keyT, okRes, mapUpdateOp, zbo, zbp, zbq, zbr, zbs, zbt, zbu, Nat.reduceSub, Nat.reduceAdd, Int.reduceLT, Int.reduceLE, Int.reduceAdd, Int.reduceSub, Int.reduceToNat, Int.reduceBEq, Int.reduceBNe, Int.reduceMul, Nat.reduceBEq, Nat.reduceBNe, Nat.reduceLT, Nat.reduceLeDiff, Nat.reduceMul, Nat.reduceEqDiff, WD, effB, effH, isPriv, isHeap, isImm, zbx, zby, zbz, chkO, setD, dslot, zca, zcb, zcc, zcd, ptrCells_some, F59, (hx H').len, (hx H').shutIn, hat.at1 (hx H'), hat.cells, hb0, hx0.shut, hx0.len, hx0.cells1, hn1, hn2, bne_self_eq_false, capV]
      refine ⟨hcf, wpCall_of hE' ?_⟩
      rintro out H2 ⟨rfl, hf2, hW2⟩
      simp only [WW, partV, eqCells, eqLf, minV, maxV, ifcV, zaa, zab, zac, zad, zae, zaf, zag, zah, zai, ofConst, ofConst1, List.replicate, zaj, zak, loadOp, Go.Abs.loadCells, binV, zal, pickV, zam, zan, zao, zap, zaq, zar, zas, zat, zau, outR, resAll, resOne, zav, zaw, zax, zay, zaz, zba, zbb, zbc, zbd, zbe, zbf, zbg, zbh, zbi, zbj, zbk, storeOp, storeCell, overlay, zbl, zbm, zbn, lookupOp, keyT, okRes, mapUpdateOp, zbo, zbp, zbq, zbr, zbs, zbt, zbu, Nat.reduceSub, Nat.reduceAdd, Int.reduceLT, Int.reduceLE, Int.reduceAdd, Int.reduceSub, Int.reduceToNat, Int.reduceBEq, Int.reduceBNe, Int.reduceMul, Nat.reduceBEq, Nat.reduceBNe, Nat.reduceLT, Nat.reduceLeDiff, Nat.reduceMul, Nat.reduceEqDiff, WD, effB, effH, isPriv, isHeap, isImm, zbx, zby, zbz, chkO, setD, dslot, zca, zcb, zcc, zcd, ptrCells_some, F59]
      refine ⟨us.length - (i + 1), by omega, i + 1, _, ?_, by omega, rfl, hf.trans hf2, hW2, he⟩
      simp only [WN, firstReg, growAll, zbv, zbw, norm, killS, zag, zah, zaa, zab, zbl, zat, zad, growOne, zae, zaf, zac, zas, zak, Nat.reduceLT, Nat.reduceAdd, zbj, zav, F59, (hx H').clip2, (hx H').clip]
      rw [IntWalk.i64_in ((i : Int) + 1) (by omega)]; rfl
    · have hi2 : i = us.length := by have := of_decide_eq_false hge; omega
      simp only [hge]
      simp only [WW, partV, eqCells, eqLf, minV, maxV, ifcV, zaa, zab, zac, zad, zae, zaf, zag, zah, zai, ofConst, ofConst1, List.replicate, zaj, zak, loadOp, Go.Abs.loadCells, binV, zal, pickV, zam, zan, zao, zap, zaq, zar, zas, zat, zau, outR, resAll, resOne, zav, zaw, zax, zay, zaz, zba, zbb, zbc, zbd, zbe, zbf, zbg, zbh, zbi, zbj, zbk, storeOp, storeCell, overlay, zbl, zbm, zbn, lookupOp, keyT, okRes, mapUpdateOp, zbo, zbp, zbq, zbr, zbs, zbt, zbu, Nat.reduceSub, Nat.reduceAdd, Int.reduceLT, Int.reduceLE, Int.reduceAdd, Int.reduceSub, Int.reduceToNat, Int.reduceBEq, Int.reduceBNe, Int.reduceMul, Nat.reduceBEq, Nat.reduceBNe, Nat.reduceLT, Nat.reduceLeDiff, Nat.reduceMul, Nat.reduceEqDiff, WD, effB, effH, isPriv, isHeap, isImm, zbx, zby, zbz, chkO, setD, dslot, zca, zcb, zcc, zcd, ptrCells_some, F59]
      refine ⟨hf, ?_⟩
      rw [hi2, List.drop_length, List.flatMap_nil] at he
      rw [← he]
      simpa [bs] using hW'
theorem severalG61 {H : Hp} {N : Nat → Prop} {l : List V} {w : Nat} {x : V} {vs : List V} {us : List (Int × Int × Int)} {fa : FuncId} {fb fc : List V} (enc : (Int × Int × Int) → List Nat) (hcf : callable Tryd.prog fa = true) (hN : ∀ i, N i → i < H.length) (hw : N w) (hW : Wr H N w l) (hx : RdA x vs) (h2 : All2 InR vs us)
    (hE : ∀ (H1 : Hp) (l1 : List V) (v : V) (a : (Int × Int × Int)), a ∈ us → InR v a → Fr0 N w H H1 → Wr H1 N w l1 → l1.length + (enc a).length ≤ 4000000 → wpCall EW fa (fb ++ [v] ++ fc) H1 (fun out H2 => out = .ret (.tup []) false ∧ Fr0 N w H1 H2 ∧ Wr H2 N w (l1 ++ bs (enc a))))
    (hl : l.length + (encL enc us).length ≤ 4000000) (hc : us.length ≤ 4000000) :
    wpCall EW 61 [.ptr w 0 0, x, .fn fa fb fc] H (fun out H' => out = .ret (.tup []) false ∧ Fr0 N w H H' ∧ Wr H' N w (l ++ bs (encL enc us))) := by
  have hlen := h2.len
  refine runs f61 b61 r61 n61 _ _ ?_
  simp only [bodyOf, Tryd.f61, Option.getD_some]
  simp only [WW, partV, eqCells, eqLf, minV, maxV, ifcV, zaa, zab, zac, zad, zae, zaf, zag, zah, zai, ofConst, ofConst1, List.replicate, zaj, zak, loadOp, Go.Abs.loadCells, binV, zal, pickV, zam, zan, zao, zap, zaq, zar, zas, zat, zau, outR, resAll, resOne, zav, zaw, zax, zay, zaz, zba, zbb, zbc, zbd, zbe, zbf, zbg, zbh, zbi, zbj, zbk, storeOp, storeCell, overlay, zbl, zbm, zbn, lookupOp, keyT, okRes, mapUpdateOp, zbo, zbp, zbq, zbr, zbs, zbt, zbu, Nat.reduceSub, Nat.reduceAdd, Int.reduceLT, Int.reduceLE, Int.reduceAdd, Int.reduceSub, Int.reduceToNat, Int.reduceBEq, Int.reduceBNe, Int.reduceMul, Nat.reduceBEq, Nat.reduceBNe, Nat.reduceLT, Nat.reduceLeDiff, Nat.reduceMul, Nat.reduceEqDiff, WD, effB, effH, isPriv, isHeap, isImm, zbx, zby, zbz, chkO, setD, dslot, zca, zcb, zcc, zcd, ptrCells_some, F61, (hx H).len, (hx H).shutIn, hlen]
  refine wpCall_of (number_spec hN hw hW us.length (by omega) (by omega)) ?_
  rintro out H0 ⟨rfl, hf0, hW0⟩
  simp only [WW, partV, eqCells, eqLf, minV, maxV, ifcV, zaa, zab, zac, zad, zae, zaf, zag, zah, zai, ofConst, ofConst1, List.replicate, zaj, zak, loadOp, Go.Abs.loadCells, binV, zal, pickV, zam, zan, zao, zap, zaq, zar, zas, zat, zau, outR, resAll, resOne, zav, zaw, zax, zay, zaz, zba, zbb, zbc, zbd, zbe, zbf, zbg, zbh, zbi, zbj, zbk, storeOp, storeCell, overlay, zbl, zbm, zbn, lookupOp, keyT, okRes, mapUpdateOp, zbo, zbp, zbq, zbr, zbs, zbt, zbu, Nat.reduceSub, Nat.reduceAdd, Int.reduceLT, Int.reduceLE, Int.reduceAdd, Int.reduceSub, Int.reduceToNat, Int.reduceBEq, Int.reduceBNe, Int.reduceMul, Nat.reduceBEq, Nat.reduceBNe, Nat.reduceLT, Nat.reduceLeDiff, Nat.reduceMul, Nat.reduceEqDiff, WD, effB, effH, isPriv, isHeap, isImm, zbx, zby, zbz, chkO, setD, dslot, zca, zcb, zcc, zcd, ptrCells_some, F61, (hx H0).len, (hx H0).shutIn, hlen]
  refine wC_loop _ (fun k st' H' => ∃ (i : Nat) (lc : List V), st' = ⟨L61_2 (.v (.ptr w 0 0)) (.v (.fn fa fb fc)) (.v x) (.v (.int .i64 us.length)) (.v (.int .i64 i)), [], []⟩ ∧ i ≤ us.length ∧ k = us.length - i ∧ Fr0 N w H H' ∧ Wr H' N w lc ∧ lc ++ bs ((us.drop i).flatMap enc) = l ++ bs (encL enc us)) us.length ⟨0, _, ?_, by omega, by omega, hf0, hW0, by rw [encL_cons, bs_app, List.drop_zero, List.append_assoc]⟩ ?_
  · simp only [WN, firstReg, growAll, zbv, zbw, norm, killS, zag, zah, zaa, zab, zbl, zat, zad, growOne, zae, zaf, zac, zas, zak, Nat.reduceLT, Nat.reduceAdd, zbj, zav, F61, L61_2, (hx H).clip2, (hx H).clip]
    try rfl
  · rintro k st' H' ⟨i, lc, rfl, hi, rfl, hf, hW', he⟩
    simp only [L61_2]
    simp only [WW, partV, eqCells, eqLf, minV, maxV, ifcV, zaa, zab, zac, zad, zae, zaf, zag, zah, zai, ofConst, ofConst1, List.replicate, zaj, zak, loadOp, Go.Abs.loadCells, binV, zal, pickV, zam, zan, zao, zap, zaq, zar, zas, zat, zau, outR, resAll, resOne, zav, zaw, zax, zay, zaz, zba, zbb, zbc, zbd, zbe, zbf, zbg, zbh, zbi, zbj, zbk, storeOp, storeCell, overlay, zbl, zbm, zbn, lookupOp, keyT, okRes, mapUpdateOp, zbo, zbp, zbq, zbr, zbs, zbt, zbu, Nat.reduceSub, Nat.reduceAdd, Int.reduceLT, Int.reduceLE, Int.reduceAdd, Int.reduceSub, Int.reduceToNat, Int.reduceBEq, Int.reduceBNe, Int.reduceMul, Nat.reduceBEq, Nat.reduceBNe, Nat.reduceLT, Nat.reduceLeDiff, Nat.reduceMul, Nat.reduceEqDiff, WD, effB, effH, isPriv, isHeap, isImm, zbx, zby, zbz, chkO, setD, dslot, zca, zcb, zcc, zcd, ptrCells_some, F61, (hx H').len, (hx H').shutIn]
    have hN' : ∀ i, N i → i < H'.length := fun i hi => Nat.lt_of_lt_of_le (hN i hi) hf.1
    refine cSplit (fun hlt => ?_) (fun hge => ?_)
    · have hi2 : i < us.length := by have := of_decide_eq_true hlt; omega
      simp only [hlt]
      have hs : us[i]? = some us[i] := List.getElem?_eq_getElem hi2
      generalize us[i] = a at hs
      obtain ⟨v, hv, hR⟩ := h2.get hs
      have hmem : a ∈ us := List.mem_of_getElem? hs
      rw [drop_get hs, List.flatMap_cons, bs_app, ← List.append_assoc] at he
      have hlc : lc.length + (enc a).length ≤ 4000000 := by
        have := congrArg List.length he
        simp only [List.length_append, bs_len] at this
        omega
      have hE' := hE H' lc v a hmem hR hf hW' hlc
      have hat := (hx H').at_ (sz := 3) (i := i) (e := v) hv (by rw [hR]; rfl)
      obtain ⟨x0, hx0, hb0⟩ := hW'
      have hn1 : ((0 : Int) != 0) = false := rfl
      have hn2 : decide ((4194304 : Int) < (lc.length : Int)) = false := decide_eq_false (by omega)
      obtain rfl : v = inV a := hR
      simp only [WW, partV, eqCells, eqLf, minV, maxV, ifcV, zaa, zab, zac, zad, zae, zaf, zag, zah, zai, ofConst, ofConst1, List.replicate, zaj, zak, loadOp, Go.Abs.loadCells, binV, zal, pickV, zam, zan, zao, zap, zaq, zar, zas, zat, zau, outR, resAll, resOne, zav, zaw, zax, zay, zaz, zba, zbb, zbc, zbd, zbe, zbf, zbg, zbh, zbi, zbj, zbk, storeOp, storeCell, overlay, zbl, zbm, zbn, lookupOp, keyT, okRes, mapUpdateOp, zbo, zbp, zbq, zbr, zbs, zbt, zbu, Nat.reduceSub, Nat.reduceAdd, Int.reduceLT, Int.reduceLE, Int.reduceAdd, Int.reduceSub, Int.reduceToNat, Int.reduceBEq, Int.reduceBNe, Int.reduceMul, Nat.reduceBEq, Nat.reduceBNe, Nat.reduceLT, Nat.reduceLeDiff, Nat.reduceMul, Nat.reduceEqDiff, WD, effB, effH, isPriv, isHeap, isImm, zbx, zby, zbz, chkO, setD, dslot, zca, zcb, zcc, zcd, ptrCells_some, F61, (hx H').len, (hx H').shutIn, hat.at1 (hx H'), hat.cells, hb0, hx0.shut, hx0.len, hx0.cells1, hn1, hn2, bne_self_eq_false, inV]
      refine ⟨hcf, wpCall_of hE' ?_⟩
      rintro out H2 ⟨rfl, hf2, hW2⟩
      simp only [WW, partV, eqCells, eqLf, minV, maxV, ifcV, zaa, zab, zac, zad, zae, zaf, zag, zah, zai, ofConst, ofConst1, List.replicate, zaj, zak, loadOp, Go.Abs.loadCells, binV, zal, pickV, zam, zan, zao, zap, zaq, zar, zas, zat, zau, outR, resAll, resOne, zav, zaw, zax, zay, zaz, zba, zbb, zbc, zbd, zbe, zbf, zbg, zbh, zbi, zbj, zbk, storeOp, storeCell, overlay, zbl, zbm, zbn, lookupOp, keyT, okRes, mapUpdateOp, zbo, zbp, zbq, zbr, zbs, zbt, zbu, Nat.reduceSub, Nat.reduceAdd, Int.reduceLT, Int.reduceLE, Int.reduceAdd, Int.reduceSub, Int.reduceToNat, Int.reduceBEq, Int.reduceBNe, Int.reduceMul, Nat.reduceBEq, Nat.reduceBNe, Nat.reduceLT, Nat.reduceLeDiff, Nat.reduceMul, Nat.reduceEqDiff, WD, effB, effH, isPriv, isHeap, isImm, zbx, zby, zbz, chkO, setD, dslot, zca, zcb, zcc, zcd, ptrCells_some, F61]
      refine ⟨us.length - (i + 1), by omega, i + 1, _, ?_, by omega, rfl, hf.trans hf2, hW2, he⟩
      simp only [WN, firstReg, growAll, zbv, zbw, norm, killS, zag, zah, zaa, zab, zbl, zat, zad, growOne, zae, zaf, zac, zas, zak, Nat.reduceLT, Nat.reduceAdd, zbj, zav, F61, (hx H').clip2, (hx H').clip]
      rw [IntWalk.i64_in ((i : Int) + 1) (by omega)]; rfl
    · have hi2 : i = us.length := by have := of_decide_eq_false hge; omega
      simp only [hge]
      simp only [WW, partV, eqCells, eqLf, minV, maxV, ifcV, zaa, zab, zac, zad, zae, zaf, zag, zah, zai, ofConst, ofConst1, List.replicate, zaj, zak, loadOp, Go.Abs.loadCells, binV, zal, pickV, zam, zan, zao, zap, zaq, zar, zas, zat, zau, outR, resAll, resOne, zav, zaw, zax, zay, zaz, zba, zbb, zbc, zbd, zbe, zbf, zbg, zbh, zbi, zbj, zbk, storeOp, storeCell, overlay, zbl, zbm, zbn, lookupOp, keyT, okRes, mapUpdateOp, zbo, zbp, zbq, zbr, zbs, zbt, zbu, Nat.reduceSub, Nat.reduceAdd, Int.reduceLT, Int.reduceLE, Int.reduceAdd, Int.reduceSub, Int.reduceToNat, Int.reduceBEq, Int.reduceBNe, Int.reduceMul, Nat.reduceBEq, Nat.reduceBNe, Nat.reduceLT, Nat.reduceLeDiff, Nat.reduceMul, Nat.reduceEqDiff, WD, effB, effH, isPriv, isHeap, isImm, zbx, zby, zbz, chkO, setD, dslot, zca, zcb, zcc, zcd, ptrCells_some, F61]
      refine ⟨hf, ?_⟩
      rw [hi2, List.drop_length, List.flatMap_nil] at he
      rw [← he]
      simpa [bs] using hW'
theorem severalG63 {H : Hp} {N : Nat → Prop} {l : List V} {w : Nat} {x : V} {vs : List V} {us : List (Int × Int × Int × Int)} {fa : FuncId} {fb fc : List V} (enc : (Int × Int × Int × Int) → List Nat) (hcf : callable Tryd.prog fa = true) (hN : ∀ i, N i → i < H.length) (hw : N w) (hW : Wr H N w l) (hx : RdA x vs) (h2 : All2 TryR vs us)
    (hE : ∀ (H1 : Hp) (l1 : List V) (v : V) (a : (Int × Int × Int × Int)), a ∈ us → TryR v a → Fr0 N w H H1 → Wr H1 N w l1 → l1.length + (enc a).length ≤ 4000000 → wpCall EW fa (fb ++ [v] ++ fc) H1 (fun out H2 => out = .ret (.tup []) false ∧ Fr0 N w H1 H2 ∧ Wr H2 N w (l1 ++ bs (enc a))))
    (hl : l.length + (encL enc us).length ≤ 4000000) (hc : us.length ≤ 4000000) :
    wpCall EW 63 [.ptr w 0 0, x, .fn fa fb fc] H (fun out H' => out = .ret (.tup []) false ∧ Fr0 N w H H' ∧ Wr H' N w (l ++ bs (encL enc us))) := by
  have hlen := h2.len
  refine runs f63 b63 r63 n63 _ _ ?_
  simp only [bodyOf, Tryd.f63, Option.getD_some]
  simp only [WW, partV, eqCells, eqLf, minV, maxV, ifcV, zaa, zab, zac, zad, zae, zaf, zag, zah, zai, ofConst, ofConst1, List.replicate, zaj, zak, loadOp, Go.Abs.loadCells, binV, zal, pickV, zam, zan, zao, zap, zaq, zar, zas, zat, zau, outR, resAll, resOne, zav, zaw, zax, zay, zaz, zba, zbb, zbc, zbd, zbe, zbf, zbg, zbh, zbi, zbj, zbk, storeOp, storeCell, overlay, zbl, zbm, zbn, lookupOp, keyT, okRes, mapUpdateOp, zbo, zbp, zbq, zbr, zbs, zbt, zbu, Nat.reduceSub, Nat.reduceAdd, Int.reduceLT, Int.reduceLE, Int.reduceAdd, Int.reduceSub, Int.reduceToNat, Int.reduceBEq, Int.reduceBNe, Int.reduceMul, Nat.reduceBEq, Nat.reduceBNe, Nat.reduceLT, Nat.reduceLeDiff, Nat.reduceMul, Nat.reduceEqDiff, WD, effB, effH, isPriv, isHeap, isImm, zbx, zby, zbz, chkO, setD, dslot, zca, zcb, zcc, zcd, ptrCells_some, F63, (hx H).len, (hx H).shutIn, hlen]
  refine wpCall_of (number_spec hN hw hW us.length (by omega) (by omega)) ?_
  rintro out H0 ⟨rfl, hf0, hW0⟩
  simp only [WW, partV, eqCells, eqLf, minV, maxV, ifcV, zaa, zab, zac, zad, zae, zaf, zag, zah, zai, ofConst, ofConst1, List.replicate, zaj, zak, loadOp, Go.Abs.loadCells, binV, zal, pickV, zam, zan, zao, zap, zaq, zar, zas, zat, zau, outR, resAll, resOne, zav, zaw, zax, zay, zaz, zba, zbb, zbc, zbd, zbe, zbf, zbg, zbh, zbi, zbj, zbk, storeOp, storeCell, overlay, zbl, zbm, zbn, lookupOp, keyT, okRes, mapUpdateOp, zbo, zbp, zbq, zbr, zbs, zbt, zbu, Nat.reduceSub, Nat.reduceAdd, Int.reduceLT, Int.reduceLE, Int.reduceAdd, Int.reduceSub, Int.reduceToNat, Int.reduceBEq, Int.reduceBNe, Int.reduceMul, Nat.reduceBEq, Nat.reduceBNe, Nat.reduceLT, Nat.reduceLeDiff, Nat.reduceMul, Nat.reduceEqDiff, WD, effB, effH, isPriv, isHeap, isImm, zbx, zby, zbz, chkO, setD, dslot, zca, zcb, zcc, zcd, ptrCells_some, F63, (hx H0).len, (hx H0).shutIn, hlen]
  refine wC_loop _ (fun k st' H' => ∃ (i : Nat) (lc : List V), st' = ⟨L63_2 (.v (.ptr w 0 0)) (.v (.fn fa fb fc)) (.v x) (.v (.int .i64 us.length)) (.v (.int .i64 i)), [], []⟩ ∧ i ≤ us.length ∧ k = us.length - i ∧ Fr0 N w H H' ∧ Wr H' N w lc ∧ lc ++ bs ((us.drop i).flatMap enc) = l ++ bs (encL enc us)) us.length ⟨0, _, ?_, by omega, by omega, hf0, hW0, by rw [encL_cons, bs_app, List.drop_zero, List.append_assoc]⟩ ?_
  · simp only [WN, firstReg, growAll, zbv, zbw, norm, killS, zag, zah, zaa, zab, zbl, zat, zad, growOne, zae, zaf, zac, zas, zak, Nat.reduceLT, Nat.reduceAdd, zbj, zav, F63, L63_2, (hx H).clip2, (hx H).clip]
    try rfl
  · rintro k st' H' ⟨i, lc, rfl, hi, rfl, hf, hW', he⟩
    simp only [L63_2]
    simp only [WW, partV, eqCells, eqLf, minV, maxV, ifcV, zaa, zab, zac, zad, zae, zaf, zag, zah, zai, ofConst, ofConst1, List.replicate, zaj, zak, loadOp, Go.Abs.loadCells, binV, zal, pickV, zam, zan, zao, zap, zaq, zar, zas, zat, zau, outR, resAll, resOne, zav, zaw, zax, zay, zaz, zba, zbb, zbc, zbd, zbe, zbf, zbg, zbh, zbi, zbj, zbk, storeOp, storeCell, overlay, zbl, zbm, zbn, lookupOp, keyT, okRes, mapUpdateOp, zbo, zbp, zbq, zbr, zbs, zbt, zbu, Nat.reduceSub, Nat.reduceAdd, Int.reduceLT, Int.reduceLE, Int.reduceAdd, Int.reduceSub, Int.reduceToNat, Int.reduceBEq, Int.reduceBNe, Int.reduceMul, Nat.reduceBEq, Nat.reduceBNe, Nat.reduceLT, Nat.reduceLeDiff, Nat.reduceMul, Nat.reduceEqDiff, WD, effB, effH, isPriv, isHeap, isImm, zbx, zby, zbz, chkO, setD, dslot, zca, zcb, zcc, zcd, ptrCells_some, F63, (hx H').len, (hx H').shutIn]
    have hN' : ∀ i, N i → i < H'.length := fun i hi => Nat.lt_of_lt_of_le (hN i hi) hf.1
    refine cSplit (fun hlt => ?_) (fun hge => ?_)
    · have hi2 : i < us.length := by have := of_decide_eq_true hlt; omega
      simp only [hlt]
      have hs : us[i]? = some us[i] := List.getElem?_eq_getElem hi2
      generalize us[i] = a at hs
      obtain ⟨v, hv, hR⟩ := h2.get hs
      have hmem : a ∈ us := List.mem_of_getElem? hs
      rw [drop_get hs, List.flatMap_cons, bs_app, ← List.append_assoc] at he
      have hlc : lc.length + (enc a).length ≤ 4000000 := by
        have := congrArg List.length he
        simp only [List.length_append, bs_len] at this
        omega
      have hE' := hE H' lc v a hmem hR hf hW' hlc
      have hat := (hx H').at_ (sz := 4) (i := i) (e := v) hv (by rw [hR]; rfl)
      obtain ⟨x0, hx0, hb0⟩ := hW'
      have hn1 : ((0 : Int) != 0) = false := rfl
      have hn2 : decide ((4194304 : Int) < (lc.length : Int)) = false := decide_eq_false (by omega)
      obtain rfl : v = tryV a := hR
      simp only [WW, partV, eqCells, eqLf, minV, maxV, ifcV, zaa, zab, zac, zad, zae, zaf, zag, zah, zai, ofConst, ofConst1, List.replicate, zaj, zak, loadOp, Go.Abs.loadCells, binV, zal, pickV, zam, zan, zao, zap, zaq, zar, zas, zat, zau, outR, resAll, resOne, zav, zaw, zax, zay, zaz, zba, zbb, zbc, zbd, zbe, zbf, zbg, zbh, zbi, zbj, zbk, storeOp, storeCell, overlay, zbl, zbm, zbn, lookupOp, keyT, okRes, mapUpdateOp, zbo, zbp, zbq, zbr, zbs, zbt, zbu, Nat.reduceSub, Nat.reduceAdd, Int.reduceLT, Int.reduceLE, Int.reduceAdd, Int.reduceSub, Int.reduceToNat, Int.reduceBEq, Int.reduceBNe, Int.reduceMul, Nat.reduceBEq, Nat.reduceBNe, Nat.reduceLT, Nat.reduceLeDiff, Nat.reduceMul, Nat.reduceEqDiff, WD, effB, effH, isPriv, isHeap, isImm, zbx, zby, zbz, chkO, setD, dslot, zca, zcb, zcc, zcd, ptrCells_some, F63, (hx H').len, (hx H').shutIn, hat.at1 (hx H'), hat.cells, hb0, hx0.shut, hx0.len, hx0.cells1, hn1, hn2, bne_self_eq_false, tryV]
      refine ⟨hcf, wpCall_of hE' ?_⟩
      rintro out H2 ⟨rfl, hf2, hW2⟩
      simp only [WW, partV, eqCells, eqLf, minV, maxV, ifcV, zaa, zab, zac, zad, zae, zaf, zag, zah, zai, ofConst, ofConst1, List.replicate, zaj, zak, loadOp, Go.Abs.loadCells, binV, zal, pickV, zam, zan, zao, zap, zaq, zar, zas, zat, zau, outR, resAll, resOne, zav, zaw, zax, zay, zaz, zba, zbb, zbc, zbd, zbe, zbf, zbg, zbh, zbi, zbj, zbk, storeOp, storeCell, overlay, zbl, zbm, zbn, lookupOp, keyT, okRes, mapUpdateOp, zbo, zbp, zbq, zbr, zbs, zbt, zbu, Nat.reduceSub, Nat.reduceAdd, Int.reduceLT, Int.reduceLE, Int.reduceAdd, Int.reduceSub, Int.reduceToNat, Int.reduceBEq, Int.reduceBNe, Int.reduceMul, Nat.reduceBEq, Nat.reduceBNe, Nat.reduceLT, Nat.reduceLeDiff, Nat.reduceMul, Nat.reduceEqDiff, WD, effB, effH, isPriv, isHeap, isImm, zbx, zby, zbz, chkO, setD, dslot, zca, zcb, zcc, zcd, ptrCells_some, F63]
      refine ⟨us.length - (i + 1), by omega, i + 1, _, ?_, by omega, rfl, hf.trans hf2, hW2, he⟩
      simp only [WN, firstReg, growAll, zbv, zbw, norm, killS, zag, zah, zaa, zab, zbl, zat, zad, growOne, zae, zaf, zac, zas, zak, Nat.reduceLT, Nat.reduceAdd, zbj, zav, F63, (hx H').clip2, (hx H').clip]
      rw [IntWalk.i64_in ((i : Int) + 1) (by omega)]; rfl
    · have hi2 : i = us.length := by have := of_decide_eq_false hge; omega
      simp only [hge]
      simp only [WW, partV, eqCells, eqLf, minV, maxV, ifcV, zaa, zab, zac, zad, zae, zaf, zag, zah, zai, ofConst, ofConst1, List.replicate, zaj, zak, loadOp, Go.Abs.loadCells, binV, zal, pickV, zam, zan, zao, zap, zaq, zar, zas, zat, zau, outR, resAll, resOne, zav, zaw, zax, zay, zaz, zba, zbb, zbc, zbd, zbe, zbf, zbg, zbh, zbi, zbj, zbk, storeOp, storeCell, overlay, zbl, zbm, zbn, lookupOp, keyT, okRes, mapUpdateOp, zbo, zbp, zbq, zbr, zbs, zbt, zbu, Nat.reduceSub, Nat.reduceAdd, Int.reduceLT, Int.reduceLE, Int.reduceAdd, Int.reduceSub, Int.reduceToNat, Int.reduceBEq, Int.reduceBNe, Int.reduceMul, Nat.reduceBEq, Nat.reduceBNe, Nat.reduceLT, Nat.reduceLeDiff, Nat.reduceMul, Nat.reduceEqDiff, WD, effB, effH, isPriv, isHeap, isImm, zbx, zby, zbz, chkO, setD, dslot, zca, zcb, zcc, zcd, ptrCells_some, F63]
      refine ⟨hf, ?_⟩
      rw [hi2, List.drop_length, List.flatMap_nil] at he
      rw [← he]
      simpa [bs] using hW'
end Go.Proofs.YtgjobbmbbedecaaDoor

/- The writer's closures, a function's bytes. -/
namespace Go.Proofs.YtgjobbmbbedecaaDoor
open Go Go.Abs Go.Proofs
set_option maxRecDepth 100000
set_option maxHeartbeats 2000000
set_option linter.unusedVariables false
set_option linter.unusedSimpArgs false
theorem strB_bs (s : ByteArray) : s.data.toList.map (fun b => V.int .u8 (b.toNat : Nat)) = bs (strB s) := by
  simp [bs, strB]
theorem app_any {H : Hp} {N : Nat → Prop} {x : V} {l : List V} {d : Option Nat} (vs : List V) (hx : SlW 1 H N x l) (hN : ∀ i, N i → i < H.length) (hv : wideAll vs 1 = true) (hlen : l.length + vs.length ≤ 70368744177664) :
    ∃ x' H', (∀ st, appendOp Tryd.prog .heap st H d 5 x vs = some (putS st d (.v x'), H')) ∧ SlW 1 H' N x' (l ++ vs) ∧ (∀ i, N i → H'[i]? = H[i]?) ∧ H.length ≤ H'.length := by
  by_cases hne : vs = []
  · subst hne
    rcases hx with ⟨rfl, rfl⟩ | ⟨s, es, rfl, hs, hc, hl, ht, hn0, hw⟩
    · exact ⟨.nils, H, fun st => by simp [appendOp, wideAll], .inl ⟨rfl, rfl⟩, fun _ _ => rfl, Nat.le_refl _⟩
    · have hsl : s < H.length := (List.getElem?_eq_some_iff.1 hc).1
      have he : es.isEmpty = false := by cases es <;> simp_all
      have ho : overlay es l.length [] = es := by simp [overlay]
      refine ⟨.sl s 0 (l.length + 0), H.set s (.cells es), fun st => ?_, .inr ⟨s, es, by simp, hs, by rw [List.getElem?_set_self hsl], by simpa using hl, by simpa using ht, hn0, hw⟩, fun i hi => by rw [List.getElem?_set_ne (by rintro rfl; exact hs hi)], by simp⟩
      simp [appendOp, wideAll, hc, appendSl, size5, he, hl, Nat.not_lt.2 hl, ho]
      simpa [wideAll] using hw
  · exact app_heap vs hx hN hv hne hlen
/-- A writer behind a captured pointer -/
def Cw (H : Hp) (c w : Nat) : Prop := H[c]? = some (.cells [.ptr w 0 0])
theorem Cw.fr {H H' : Hp} {N : Nat → Prop} {c w : Nat} (h : Cw H c w) (hc : N c) (hcw : c ≠ w) (hf : Fr0 N w H H') : Cw H' c w := (hf.2 c hc hcw).trans h
theorem clos27 {H : Hp} {N : Nat → Prop} {l : List V} {w c : Nat} (hN : ∀ i, N i → i < H.length) (hw : N w) (hc : N c) (hcw : c ≠ w) (hC : Cw H c w) (hW : Wr H N w l) (s : ByteArray) (hs : s.size ≤ 4000000) (hl : l.length + (encS s).length ≤ 4000000) :
    wpCall EW 27 [.str s, .ptr c 0 0] H (fun out H' => out = .ret (.tup []) false ∧ Fr0 N w H H' ∧ Wr H' N w (l ++ bs (encS s))) := by
  refine runs f27 b27 r27 n27 _ _ ?_
  simp only [bodyOf, Tryd.f27, Option.getD_some]
  simp only [WW, partV, eqCells, eqLf, minV, maxV, ifcV, zaa, zab, zac, zad, zae, zaf, zag, zah, zai, ofConst, ofConst1, List.replicate, zaj, zak, loadOp, Go.Abs.loadCells, binV, zal, pickV, zam, zan, zao, zap, zaq, zar, zas, zat, zau, outR, resAll, resOne, zav, zaw, zax, zay, zaz, zba, zbb, zbc, zbd, zbe, zbf, zbg, zbh, zbi, zbj, zbk, storeOp, storeCell, overlay, zbl, zbm, zbn, lookupOp, keyT, okRes, mapUpdateOp, zbo, zbp, zbq, zbr, zbs, zbt, zbu, Nat.reduceSub, Nat.reduceAdd, Int.reduceLT, Int.reduceLE, Int.reduceAdd, Int.reduceSub, Int.reduceToNat, Int.reduceBEq, Int.reduceBNe, Int.reduceMul, Nat.reduceBEq, Nat.reduceBNe, Nat.reduceLT, Nat.reduceLeDiff, Nat.reduceMul, Nat.reduceEqDiff, WD, effB, effH, isPriv, isHeap, isImm, zbx, zby, zbz, chkO, setD, dslot, zca, zcb, zcc, zcd, ptrCells_some, F27, hC]
  have hC0 : H[c]? = some (.cells [.ptr w 0 0]) := hC
  simp only [WW, partV, eqCells, eqLf, minV, maxV, ifcV, zaa, zab, zac, zad, zae, zaf, zag, zah, zai, ofConst, ofConst1, List.replicate, zaj, zak, loadOp, Go.Abs.loadCells, binV, zal, pickV, zam, zan, zao, zap, zaq, zar, zas, zat, zau, outR, resAll, resOne, zav, zaw, zax, zay, zaz, zba, zbb, zbc, zbd, zbe, zbf, zbg, zbh, zbi, zbj, zbk, storeOp, storeCell, overlay, zbl, zbm, zbn, lookupOp, keyT, okRes, mapUpdateOp, zbo, zbp, zbq, zbr, zbs, zbt, zbu, Nat.reduceSub, Nat.reduceAdd, Int.reduceLT, Int.reduceLE, Int.reduceAdd, Int.reduceSub, Int.reduceToNat, Int.reduceBEq, Int.reduceBNe, Int.reduceMul, Nat.reduceBEq, Nat.reduceBNe, Nat.reduceLT, Nat.reduceLeDiff, Nat.reduceMul, Nat.reduceEqDiff, WD, effB, effH, isPriv, isHeap, isImm, zbx, zby, zbz, chkO, setD, dslot, zca, zcb, zcc, zcd, ptrCells_some, F27, hC0]
  simp only [encS, List.length_append] at hl
  refine wpCall_of (number_spec hN hw hW s.size (by omega) (by omega)) ?_
  rintro out H1 ⟨rfl, hf1, hW1⟩
  have hC1 : H1[c]? = some (.cells [.ptr w 0 0]) := hC.fr hc hcw hf1
  have hN1 : ∀ i, N i → i < H1.length := fun i hi => Nat.lt_of_lt_of_le (hN i hi) hf1.1
  obtain ⟨x, hx, hb⟩ := hW1
  have h4 : decide ((4194304 : Int) < (s.size : Int)) = false := decide_eq_false (by omega)
  simp only [WW, partV, eqCells, eqLf, minV, maxV, ifcV, zaa, zab, zac, zad, zae, zaf, zag, zah, zai, ofConst, ofConst1, List.replicate, zaj, zak, loadOp, Go.Abs.loadCells, binV, zal, pickV, zam, zan, zao, zap, zaq, zar, zas, zat, zau, outR, resAll, resOne, zav, zaw, zax, zay, zaz, zba, zbb, zbc, zbd, zbe, zbf, zbg, zbh, zbi, zbj, zbk, storeOp, storeCell, overlay, zbl, zbm, zbn, lookupOp, keyT, okRes, mapUpdateOp, zbo, zbp, zbq, zbr, zbs, zbt, zbu, Nat.reduceSub, Nat.reduceAdd, Int.reduceLT, Int.reduceLE, Int.reduceAdd, Int.reduceSub, Int.reduceToNat, Int.reduceBEq, Int.reduceBNe, Int.reduceMul, Nat.reduceBEq, Nat.reduceBNe, Nat.reduceLT, Nat.reduceLeDiff, Nat.reduceMul, Nat.reduceEqDiff, WD, effB, effH, isPriv, isHeap, isImm, zbx, zby, zbz, chkO, setD, dslot, zca, zcb, zcc, zcd, ptrCells_some, F27, h4]
  have hxl : (l ++ bs (encN s.size)).length ≤ 4000000 := by simp only [List.length_append, bs_len]; omega
  obtain ⟨x2, H2, ha, hx2, hf2, hl2⟩ := app_any (d := some 18) (bs (strB s)) hx hN1 (wide_bs _) (by rw [bs_len, strB_len]; omega)
  refine wC_dr alts27_3 (by kernel_rfl) ?_
  have hb2 : H2[w]? = some (.cells [.agg [x, .int .i64 0]]) := (hf2 w hw).trans hb
  have hC2 : H2[c]? = some (.cells [.ptr w 0 0]) := (hf2 c hc).trans hC1
  have hb3 : (H2.set w (.cells [.agg [x2, .int .i64 0]]))[w]? = some (.cells [.agg [x2, .int .i64 0]]) := List.getElem?_set_self (Nat.lt_of_lt_of_le (hN1 w hw) hl2)
  simp only [WW, partV, eqCells, eqLf, minV, maxV, ifcV, zaa, zab, zac, zad, zae, zaf, zag, zah, zai, ofConst, ofConst1, List.replicate, zaj, zak, loadOp, Go.Abs.loadCells, binV, zal, pickV, zam, zan, zao, zap, zaq, zar, zas, zat, zau, outR, resAll, resOne, zav, zaw, zax, zay, zaz, zba, zbb, zbc, zbd, zbe, zbf, zbg, zbh, zbi, zbj, zbk, storeOp, storeCell, overlay, zbl, zbm, zbn, lookupOp, keyT, okRes, mapUpdateOp, zbo, zbp, zbq, zbr, zbs, zbt, zbu, Nat.reduceSub, Nat.reduceAdd, Int.reduceLT, Int.reduceLE, Int.reduceAdd, Int.reduceSub, Int.reduceToNat, Int.reduceBEq, Int.reduceBNe, Int.reduceMul, Nat.reduceBEq, Nat.reduceBNe, Nat.reduceLT, Nat.reduceLeDiff, Nat.reduceMul, Nat.reduceEqDiff, WD, effB, effH, isPriv, isHeap, isImm, zbx, zby, zbz, chkO, setD, dslot, zca, zcb, zcc, zcd, ptrCells_some, F27, hC1, hC2, hb, hx.shut, hx.cells1, alts27_3, srcV_eq, srcK_str, strB_bs, ha, storeHeap, hx2.prom, heapSet, elemSet, hb2, hx2.shut, hx2.cells1, hx2.ok, hx2.width1]
  refine ⟨⟨?_, fun i h4 h5 => ?_⟩, x2, ?_, hb3⟩
  · rw [List.length_set]; exact Nat.le_trans hf1.1 hl2
  · rw [List.getElem?_set, if_neg (fun h => h5 h.symm), hf2 i h4]; exact hf1.2 i h4 h5
  · rw [encS, bs_app, ← List.append_assoc]; exact hx2.set hw _
/-- A block more that is kept -/
theorem slw_ext {sz : Nat} {H : Hp} {N : Nat → Prop} {x : V} {l : List V} (h : SlW sz H N x l) (b : Blk) : SlW sz (H ++ [b]) (fun i => N i ∨ i = H.length) x l := by
  rcases h with h | ⟨s, es, h1, h2, h3, h4⟩
  · exact .inl h
  · have hs := (List.getElem?_eq_some_iff.1 h3).1
    exact .inr ⟨s, es, h1, fun h => by
      rcases h with h | h
      · exact h2 h
      · omega, by rw [List.getElem?_append_left hs]; exact h3, h4⟩
theorem Wr.ext {H : Hp} {N : Nat → Prop} {w : Nat} {l : List V} (h : Wr H N w l) (b : Blk) : Wr (H ++ [b]) (fun i => N i ∨ i = H.length) w l := by
  obtain ⟨x, hx, hb⟩ := h
  exact ⟨x, slw_ext hx b, by rw [List.getElem?_append_left ((List.getElem?_eq_some_iff.1 hb).1)]; exact hb⟩
theorem Wr.weaken {H : Hp} {N N' : Nat → Prop} {w : Nat} {l : List V} (h : Wr H N w l) (hN : ∀ i, N' i → N i) : Wr H N' w l := by
  obtain ⟨x, hx, hb⟩ := h
  exact ⟨x, hx.weaken hN, hb⟩
theorem Fr0.ext {H H' : Hp} {N : Nat → Prop} {w : Nat} {b : Blk} (hN : ∀ i, N i → i < H.length) (h : Fr0 (fun i => N i ∨ i = H.length) w (H ++ [b]) H') : Fr0 N w H H' := by
  refine ⟨?_, fun i h1 h2 => ?_⟩
  · have := h.1; simp at this; omega
  · rw [h.2 i (.inl h1) h2, List.getElem?_append_left (hN i h1)]
theorem clos31 {H : Hp} {N : Nat → Prop} {l : List V} {w c : Nat} (hN : ∀ i, N i → i < H.length) (hw : N w) (hc : N c) (hcw : c ≠ w) (hC : Cw H c w) (hW : Wr H N w l) {v : V} {k : List Int} (hk : KeyR v k) (hp : k.all plain = true) (hs : k.length ≤ 4000000) (hl : l.length + (encL encI k).length ≤ 4000000) :
    wpCall EW 31 [v, .ptr c 0 0] H (fun out H' => out = .ret (.tup []) false ∧ Fr0 N w H H' ∧ Wr H' N w (l ++ bs (encL encI k))) := by
  refine runs f31 b31 r31 n31 _ _ ?_
  simp only [bodyOf, Tryd.f31, Option.getD_some]
  have hC0 : H[c]? = some (.cells [.ptr w 0 0]) := hC
  simp only [WW, partV, eqCells, eqLf, minV, maxV, ifcV, zaa, zab, zac, zad, zae, zaf, zag, zah, zai, ofConst, ofConst1, List.replicate, zaj, zak, loadOp, Go.Abs.loadCells, binV, zal, pickV, zam, zan, zao, zap, zaq, zar, zas, zat, zau, outR, resAll, resOne, zav, zaw, zax, zay, zaz, zba, zbb, zbc, zbd, zbe, zbf, zbg, zbh, zbi, zbj, zbk, storeOp, storeCell, overlay, zbl, zbm, zbn, lookupOp, keyT, okRes, mapUpdateOp, zbo, zbp, zbq, zbr, zbs, zbt, zbu, Nat.reduceSub, Nat.reduceAdd, Int.reduceLT, Int.reduceLE, Int.reduceAdd, Int.reduceSub, Int.reduceToNat, Int.reduceBEq, Int.reduceBNe, Int.reduceMul, Nat.reduceBEq, Nat.reduceBNe, Nat.reduceLT, Nat.reduceLeDiff, Nat.reduceMul, Nat.reduceEqDiff, WD, effB, effH, isPriv, isHeap, isImm, zbx, zby, zbz, chkO, setD, dslot, zca, zcb, zcc, zcd, ptrCells_some, F31, hC0, (hk H).shutIn, (hk H).cells1]
  refine wpCall_of (severalG32 encI call28 hN hw hW hk (All2.map intV k fun _ _ => rfl) (fun H1 l1 v a ha hR hf hW1 hl1 => ?_) hl hs) ?_
  · obtain rfl : v = .int .i64 a := hR
    exact plain_spec (fun i hi => Nat.lt_of_lt_of_le (hN i hi) hf.1) hw hW1 a (all_mem hp ha) (by omega)
  · rintro out H' ⟨rfl, h⟩
    simp only [WW, partV, eqCells, eqLf, minV, maxV, ifcV, zaa, zab, zac, zad, zae, zaf, zag, zah, zai, ofConst, ofConst1, List.replicate, zaj, zak, loadOp, Go.Abs.loadCells, binV, zal, pickV, zam, zan, zao, zap, zaq, zar, zas, zat, zau, outR, resAll, resOne, zav, zaw, zax, zay, zaz, zba, zbb, zbc, zbd, zbe, zbf, zbg, zbh, zbi, zbj, zbk, storeOp, storeCell, overlay, zbl, zbm, zbn, lookupOp, keyT, okRes, mapUpdateOp, zbo, zbp, zbq, zbr, zbs, zbt, zbu, Nat.reduceSub, Nat.reduceAdd, Int.reduceLT, Int.reduceLE, Int.reduceAdd, Int.reduceSub, Int.reduceToNat, Int.reduceBEq, Int.reduceBNe, Int.reduceMul, Nat.reduceBEq, Nat.reduceBNe, Nat.reduceLT, Nat.reduceLeDiff, Nat.reduceMul, Nat.reduceEqDiff, WD, effB, effH, isPriv, isHeap, isImm, zbx, zby, zbz, chkO, setD, dslot, zca, zcb, zcc, zcd, ptrCells_some, F31]
    exact h
theorem clos60 {H : Hp} {N : Nat → Prop} {l : List V} {w c : Nat} (hN : ∀ i, N i → i < H.length) (hw : N w) (hc : N c) (hcw : c ≠ w) (hC : Cw H c w) (hW : Wr H N w l) (a : Int × Int) (hp : capOk a = true) (hl : l.length + (encCap a).length ≤ 4000000) :
    wpCall EW 60 [capV a, .ptr c 0 0] H (fun out H' => out = .ret (.tup []) false ∧ Fr0 N w H H' ∧ Wr H' N w (l ++ bs (encCap a))) := by
  simp only [capOk, Bool.and_eq_true] at hp
  simp only [encCap, List.length_append] at hl
  have hC0 : H[c]? = some (.cells [.ptr w 0 0]) := hC
  refine runs f60 b60 r60 n60 _ _ ?_
  simp only [bodyOf, Tryd.f60, Option.getD_some]
  simp only [WW, partV, eqCells, eqLf, minV, maxV, ifcV, zaa, zab, zac, zad, zae, zaf, zag, zah, zai, ofConst, ofConst1, List.replicate, zaj, zak, loadOp, Go.Abs.loadCells, binV, zal, pickV, zam, zan, zao, zap, zaq, zar, zas, zat, zau, outR, resAll, resOne, zav, zaw, zax, zay, zaz, zba, zbb, zbc, zbd, zbe, zbf, zbg, zbh, zbi, zbj, zbk, storeOp, storeCell, overlay, zbl, zbm, zbn, lookupOp, keyT, okRes, mapUpdateOp, zbo, zbp, zbq, zbr, zbs, zbt, zbu, Nat.reduceSub, Nat.reduceAdd, Int.reduceLT, Int.reduceLE, Int.reduceAdd, Int.reduceSub, Int.reduceToNat, Int.reduceBEq, Int.reduceBNe, Int.reduceMul, Nat.reduceBEq, Nat.reduceBNe, Nat.reduceLT, Nat.reduceLeDiff, Nat.reduceMul, Nat.reduceEqDiff, WD, effB, effH, isPriv, isHeap, isImm, zbx, zby, zbz, chkO, setD, dslot, zca, zcb, zcc, zcd, ptrCells_some, F60, capV, hC0]
  refine wpCall_of (plain_spec hN hw hW a.1 hp.1 (by omega)) ?_
  rintro out H1 ⟨rfl, hf1, hW1⟩
  have hN1 : ∀ i, N i → i < H1.length := fun i hi => Nat.lt_of_lt_of_le (hN i hi) hf1.1
  have hC1 : H1[c]? = some (.cells [.ptr w 0 0]) := hC.fr hc hcw hf1
  simp only [WW, partV, eqCells, eqLf, minV, maxV, ifcV, zaa, zab, zac, zad, zae, zaf, zag, zah, zai, ofConst, ofConst1, List.replicate, zaj, zak, loadOp, Go.Abs.loadCells, binV, zal, pickV, zam, zan, zao, zap, zaq, zar, zas, zat, zau, outR, resAll, resOne, zav, zaw, zax, zay, zaz, zba, zbb, zbc, zbd, zbe, zbf, zbg, zbh, zbi, zbj, zbk, storeOp, storeCell, overlay, zbl, zbm, zbn, lookupOp, keyT, okRes, mapUpdateOp, zbo, zbp, zbq, zbr, zbs, zbt, zbu, Nat.reduceSub, Nat.reduceAdd, Int.reduceLT, Int.reduceLE, Int.reduceAdd, Int.reduceSub, Int.reduceToNat, Int.reduceBEq, Int.reduceBNe, Int.reduceMul, Nat.reduceBEq, Nat.reduceBNe, Nat.reduceLT, Nat.reduceLeDiff, Nat.reduceMul, Nat.reduceEqDiff, WD, effB, effH, isPriv, isHeap, isImm, zbx, zby, zbz, chkO, setD, dslot, zca, zcb, zcc, zcd, ptrCells_some, F60, hC1]
  refine wpCall_of (plain_spec hN1 hw hW1 a.2 hp.2 (by simp only [List.length_append, bs_len]; omega)) ?_
  rintro out H2 ⟨rfl, hf2, hW2⟩
  simp only [WW, partV, eqCells, eqLf, minV, maxV, ifcV, zaa, zab, zac, zad, zae, zaf, zag, zah, zai, ofConst, ofConst1, List.replicate, zaj, zak, loadOp, Go.Abs.loadCells, binV, zal, pickV, zam, zan, zao, zap, zaq, zar, zas, zat, zau, outR, resAll, resOne, zav, zaw, zax, zay, zaz, zba, zbb, zbc, zbd, zbe, zbf, zbg, zbh, zbi, zbj, zbk, storeOp, storeCell, overlay, zbl, zbm, zbn, lookupOp, keyT, okRes, mapUpdateOp, zbo, zbp, zbq, zbr, zbs, zbt, zbu, Nat.reduceSub, Nat.reduceAdd, Int.reduceLT, Int.reduceLE, Int.reduceAdd, Int.reduceSub, Int.reduceToNat, Int.reduceBEq, Int.reduceBNe, Int.reduceMul, Nat.reduceBEq, Nat.reduceBNe, Nat.reduceLT, Nat.reduceLeDiff, Nat.reduceMul, Nat.reduceEqDiff, WD, effB, effH, isPriv, isHeap, isImm, zbx, zby, zbz, chkO, setD, dslot, zca, zcb, zcc, zcd, ptrCells_some, F60]
  refine ⟨hf1.trans hf2, ?_⟩
  rw [encCap, bs_app, ← List.append_assoc]; exact hW2
theorem clos62 {H : Hp} {N : Nat → Prop} {l : List V} {w c : Nat} (hN : ∀ i, N i → i < H.length) (hw : N w) (hc : N c) (hcw : c ≠ w) (hC : Cw H c w) (hW : Wr H N w l) (a : Int × Int × Int) (hp : inOk a = true) (hl : l.length + (encIn a).length ≤ 4000000) :
    wpCall EW 62 [inV a, .ptr c 0 0] H (fun out H' => out = .ret (.tup []) false ∧ Fr0 N w H H' ∧ Wr H' N w (l ++ bs (encIn a))) := by
  simp only [inOk, Bool.and_eq_true] at hp
  simp only [encIn, List.length_append] at hl
  have hC0 : H[c]? = some (.cells [.ptr w 0 0]) := hC
  refine runs f62 b62 r62 n62 _ _ ?_
  simp only [bodyOf, Tryd.f62, Option.getD_some]
  simp only [WW, partV, eqCells, eqLf, minV, maxV, ifcV, zaa, zab, zac, zad, zae, zaf, zag, zah, zai, ofConst, ofConst1, List.replicate, zaj, zak, loadOp, Go.Abs.loadCells, binV, zal, pickV, zam, zan, zao, zap, zaq, zar, zas, zat, zau, outR, resAll, resOne, zav, zaw, zax, zay, zaz, zba, zbb, zbc, zbd, zbe, zbf, zbg, zbh, zbi, zbj, zbk, storeOp, storeCell, overlay, zbl, zbm, zbn, lookupOp, keyT, okRes, mapUpdateOp, zbo, zbp, zbq, zbr, zbs, zbt, zbu, Nat.reduceSub, Nat.reduceAdd, Int.reduceLT, Int.reduceLE, Int.reduceAdd, Int.reduceSub, Int.reduceToNat, Int.reduceBEq, Int.reduceBNe, Int.reduceMul, Nat.reduceBEq, Nat.reduceBNe, Nat.reduceLT, Nat.reduceLeDiff, Nat.reduceMul, Nat.reduceEqDiff, WD, effB, effH, isPriv, isHeap, isImm, zbx, zby, zbz, chkO, setD, dslot, zca, zcb, zcc, zcd, ptrCells_some, F62, inV, hC0]
  refine wpCall_of (plain_spec hN hw hW a.1 hp.1 (by omega)) ?_
  rintro out H1 ⟨rfl, hf1, hW1⟩
  have hN1 : ∀ i, N i → i < H1.length := fun i hi => Nat.lt_of_lt_of_le (hN i hi) hf1.1
  have hC1 : H1[c]? = some (.cells [.ptr w 0 0]) := hC.fr hc hcw hf1
  simp only [WW, partV, eqCells, eqLf, minV, maxV, ifcV, zaa, zab, zac, zad, zae, zaf, zag, zah, zai, ofConst, ofConst1, List.replicate, zaj, zak, loadOp, Go.Abs.loadCells, binV, zal, pickV, zam, zan, zao, zap, zaq, zar, zas, zat, zau, outR, resAll, resOne, zav, zaw, zax, zay, zaz, zba, zbb, zbc, zbd, zbe, zbf, zbg, zbh, zbi, zbj, zbk, storeOp, storeCell, overlay, zbl, zbm, zbn, lookupOp, keyT, okRes, mapUpdateOp, zbo, zbp, zbq, zbr, zbs, zbt, zbu, Nat.reduceSub, Nat.reduceAdd, Int.reduceLT, Int.reduceLE, Int.reduceAdd, Int.reduceSub, Int.reduceToNat, Int.reduceBEq, Int.reduceBNe, Int.reduceMul, Nat.reduceBEq, Nat.reduceBNe, Nat.reduceLT, Nat.reduceLeDiff, Nat.reduceMul, Nat.reduceEqDiff, WD, effB, effH, isPriv, isHeap, isImm, zbx, zby, zbz, chkO, setD, dslot, zca, zcb, zcc, zcd, ptrCells_some, F62, hC1]
  refine wpCall_of (signed_spec hN1 hw hW1 a.2.1 hp.2.1 (by simp only [List.length_append, bs_len]; omega)) ?_
  rintro out H2 ⟨rfl, hf2, hW2⟩
  have hN2 : ∀ i, N i → i < H2.length := fun i hi => Nat.lt_of_lt_of_le (hN1 i hi) hf2.1
  have hC2 : H2[c]? = some (.cells [.ptr w 0 0]) := Cw.fr hC1 hc hcw hf2
  simp only [WW, partV, eqCells, eqLf, minV, maxV, ifcV, zaa, zab, zac, zad, zae, zaf, zag, zah, zai, ofConst, ofConst1, List.replicate, zaj, zak, loadOp, Go.Abs.loadCells, binV, zal, pickV, zam, zan, zao, zap, zaq, zar, zas, zat, zau, outR, resAll, resOne, zav, zaw, zax, zay, zaz, zba, zbb, zbc, zbd, zbe, zbf, zbg, zbh, zbi, zbj, zbk, storeOp, storeCell, overlay, zbl, zbm, zbn, lookupOp, keyT, okRes, mapUpdateOp, zbo, zbp, zbq, zbr, zbs, zbt, zbu, Nat.reduceSub, Nat.reduceAdd, Int.reduceLT, Int.reduceLE, Int.reduceAdd, Int.reduceSub, Int.reduceToNat, Int.reduceBEq, Int.reduceBNe, Int.reduceMul, Nat.reduceBEq, Nat.reduceBNe, Nat.reduceLT, Nat.reduceLeDiff, Nat.reduceMul, Nat.reduceEqDiff, WD, effB, effH, isPriv, isHeap, isImm, zbx, zby, zbz, chkO, setD, dslot, zca, zcb, zcc, zcd, ptrCells_some, F62, hC2]
  refine wpCall_of (signed_spec hN2 hw hW2 a.2.2 hp.2.2 (by simp only [List.length_append, bs_len]; omega)) ?_
  rintro out H3 ⟨rfl, hf3, hW3⟩
  simp only [WW, partV, eqCells, eqLf, minV, maxV, ifcV, zaa, zab, zac, zad, zae, zaf, zag, zah, zai, ofConst, ofConst1, List.replicate, zaj, zak, loadOp, Go.Abs.loadCells, binV, zal, pickV, zam, zan, zao, zap, zaq, zar, zas, zat, zau, outR, resAll, resOne, zav, zaw, zax, zay, zaz, zba, zbb, zbc, zbd, zbe, zbf, zbg, zbh, zbi, zbj, zbk, storeOp, storeCell, overlay, zbl, zbm, zbn, lookupOp, keyT, okRes, mapUpdateOp, zbo, zbp, zbq, zbr, zbs, zbt, zbu, Nat.reduceSub, Nat.reduceAdd, Int.reduceLT, Int.reduceLE, Int.reduceAdd, Int.reduceSub, Int.reduceToNat, Int.reduceBEq, Int.reduceBNe, Int.reduceMul, Nat.reduceBEq, Nat.reduceBNe, Nat.reduceLT, Nat.reduceLeDiff, Nat.reduceMul, Nat.reduceEqDiff, WD, effB, effH, isPriv, isHeap, isImm, zbx, zby, zbz, chkO, setD, dslot, zca, zcb, zcc, zcd, ptrCells_some, F62]
  refine ⟨(hf1.trans hf2).trans hf3, ?_⟩
  simp only [encIn, bs_app, ← List.append_assoc]; exact hW3
theorem clos64 {H : Hp} {N : Nat → Prop} {l : List V} {w c : Nat} (hN : ∀ i, N i → i < H.length) (hw : N w) (hc : N c) (hcw : c ≠ w) (hC : Cw H c w) (hW : Wr H N w l) (a : Int × Int × Int × Int) (hp : tryOk a = true) (hl : l.length + (encTry a).length ≤ 4000000) :
    wpCall EW 64 [tryV a, .ptr c 0 0] H (fun out H' => out = .ret (.tup []) false ∧ Fr0 N w H H' ∧ Wr H' N w (l ++ bs (encTry a))) := by
  simp only [tryOk, Bool.and_eq_true] at hp
  have hC0 : H[c]? = some (.cells [.ptr w 0 0]) := hC
  refine runs f64 b64 r64 n64 _ _ ?_
  simp only [bodyOf, Tryd.f64, Option.getD_some]
  have e4 : encTry a = [a.1, a.2.1, a.2.2.1, a.2.2.2].flatMap encI := by simp [encTry]
  have hpl : ∀ n ∈ [a.1, a.2.1, a.2.2.1, a.2.2.2], plain n = true := by
    intro n hn
    simp only [List.mem_cons, List.not_mem_nil, or_false] at hn
    rcases hn with rfl | rfl | rfl | rfl
    · exact hp.1
    · exact hp.2.1
    · exact hp.2.2.1
    · exact hp.2.2.2
  simp only [WW, partV, eqCells, eqLf, minV, maxV, ifcV, zaa, zab, zac, zad, zae, zaf, zag, zah, zai, ofConst, ofConst1, List.replicate, zaj, zak, loadOp, Go.Abs.loadCells, binV, zal, pickV, zam, zan, zao, zap, zaq, zar, zas, zat, zau, outR, resAll, resOne, zav, zaw, zax, zay, zaz, zba, zbb, zbc, zbd, zbe, zbf, zbg, zbh, zbi, zbj, zbk, storeOp, storeCell, overlay, zbl, zbm, zbn, lookupOp, keyT, okRes, mapUpdateOp, zbo, zbp, zbq, zbr, zbs, zbt, zbu, Nat.reduceSub, Nat.reduceAdd, Int.reduceLT, Int.reduceLE, Int.reduceAdd, Int.reduceSub, Int.reduceToNat, Int.reduceBEq, Int.reduceBNe, Int.reduceMul, Nat.reduceBEq, Nat.reduceBNe, Nat.reduceLT, Nat.reduceLeDiff, Nat.reduceMul, Nat.reduceEqDiff, WD, effB, effH, isPriv, isHeap, isImm, zbx, zby, zbz, chkO, setD, dslot, zca, zcb, zcc, zcd, ptrCells_some, F64, tryV, buildOp, fillV, Lay.place, Bool.or_self, Bool.or_false, Bool.false_or, decide_not, ne_eq, not_true_eq_false, decide_eq_true_eq, Nat.lt_irrefl, buildSliceV, lits, srcV_eq, srcK_sl, srcK_str, srcSl_nils, srcSl_rsl, srcSl_sl, appendOp, frow, zbv, zbw, List.all_nil, List.all_cons, rowV, Bool.false_and, Bool.and_false, not_false_eq_true, grows_lr, callOut_t]
  rw [e4] at hl ⊢
  have hr4 : [V.int .i64 a.1, V.int .i64 a.2.1, V.int .i64 a.2.2.1, V.int .i64 a.2.2.2] = [a.1, a.2.1, a.2.2.1, a.2.2.2].map intV := rfl
  have hl4 : [a.1, a.2.1, a.2.2.1, a.2.2.2].length = 4 := rfl
  rw [hr4]
  generalize [a.1, a.2.1, a.2.2.1, a.2.2.2] = us at *
  have hx : ∀ H, Rd H (.rsl (us.map intV)) (us.map intV) := fun _ => .rsl _
  refine wC_loop _ (fun k st' H' => ∃ (i : Nat) (lc : List V) (B : List (List V)), st' = ⟨L64_2 (.v (.ptr c 0 0)) (.v (.rsl (us.map intV))) (.v (.int .i64 4)) (.v (.int .i64 i)), B, []⟩ ∧ i ≤ us.length ∧ k = us.length - i ∧ Fr0 N w H H' ∧ Wr H' N w lc ∧ lc ++ bs ((us.drop i).flatMap encI) = l ++ bs (us.flatMap encI)) us.length ⟨0, _, ?B, ?hst, by omega, by omega, Fr0.refl, hW, rfl⟩ ?_
  case hst =>
    simp only [WN, firstReg, growAll, zbv, zbw, norm, killS, zag, zah, zaa, zab, zbl, zat, zad, growOne, zae, zaf, zac, zas, zak, Nat.reduceLT, Nat.reduceAdd, zbj, zav, F64, L64_2, hl4]
    rfl
  · rintro k st' H' ⟨i, lc, B, rfl, hi, rfl, hf, hW', he⟩
    simp only [L64_2]
    simp only [WW, partV, eqCells, eqLf, minV, maxV, ifcV, zaa, zab, zac, zad, zae, zaf, zag, zah, zai, ofConst, ofConst1, List.replicate, zaj, zak, loadOp, Go.Abs.loadCells, binV, zal, pickV, zam, zan, zao, zap, zaq, zar, zas, zat, zau, outR, resAll, resOne, zav, zaw, zax, zay, zaz, zba, zbb, zbc, zbd, zbe, zbf, zbg, zbh, zbi, zbj, zbk, storeOp, storeCell, overlay, zbl, zbm, zbn, lookupOp, keyT, okRes, mapUpdateOp, zbo, zbp, zbq, zbr, zbs, zbt, zbu, Nat.reduceSub, Nat.reduceAdd, Int.reduceLT, Int.reduceLE, Int.reduceAdd, Int.reduceSub, Int.reduceToNat, Int.reduceBEq, Int.reduceBNe, Int.reduceMul, Nat.reduceBEq, Nat.reduceBNe, Nat.reduceLT, Nat.reduceLeDiff, Nat.reduceMul, Nat.reduceEqDiff, WD, effB, effH, isPriv, isHeap, isImm, zbx, zby, zbz, chkO, setD, dslot, zca, zcb, zcc, zcd, ptrCells_some, F64]
    have hN' : ∀ i, N i → i < H'.length := fun i hi => Nat.lt_of_lt_of_le (hN i hi) hf.1
    have hC' : H'[c]? = some (.cells [.ptr w 0 0]) := hC.fr hc hcw hf
    refine cSplit (fun hlt => ?_) (fun hge => ?_)
    · have hi2 : i < us.length := by have := of_decide_eq_true hlt; omega
      simp only [hlt]
      have hs : us[i]? = some us[i] := List.getElem?_eq_getElem hi2
      generalize us[i] = n at hs
      have hmem : n ∈ us := List.mem_of_getElem? hs
      rw [drop_get hs, List.flatMap_cons, bs_app, ← List.append_assoc] at he
      have hlc : lc.length + (encI n).length ≤ 4000000 := by
        have := congrArg List.length he
        simp only [List.length_append, bs_len] at this
        omega
      have hsi : (us.map intV)[i]? = some (.int .i64 n) := by rw [List.getElem?_map, hs]; rfl
      simp only [WW, partV, eqCells, eqLf, minV, maxV, ifcV, zaa, zab, zac, zad, zae, zaf, zag, zah, zai, ofConst, ofConst1, List.replicate, zaj, zak, loadOp, Go.Abs.loadCells, binV, zal, pickV, zam, zan, zao, zap, zaq, zar, zas, zat, zau, outR, resAll, resOne, zav, zaw, zax, zay, zaz, zba, zbb, zbc, zbd, zbe, zbf, zbg, zbh, zbi, zbj, zbk, storeOp, storeCell, overlay, zbl, zbm, zbn, lookupOp, keyT, okRes, mapUpdateOp, zbo, zbp, zbq, zbr, zbs, zbt, zbu, Nat.reduceSub, Nat.reduceAdd, Int.reduceLT, Int.reduceLE, Int.reduceAdd, Int.reduceSub, Int.reduceToNat, Int.reduceBEq, Int.reduceBNe, Int.reduceMul, Nat.reduceBEq, Nat.reduceBNe, Nat.reduceLT, Nat.reduceLeDiff, Nat.reduceMul, Nat.reduceEqDiff, WD, effB, effH, isPriv, isHeap, isImm, zbx, zby, zbz, chkO, setD, dslot, zca, zcb, zcc, zcd, ptrCells_some, F64, hsi, hC']
      refine wpCall_of (plain_spec hN' hw hW' n (hpl n hmem) (by omega)) ?_
      rintro out H2 ⟨rfl, hf2, hW2⟩
      simp only [WW, partV, eqCells, eqLf, minV, maxV, ifcV, zaa, zab, zac, zad, zae, zaf, zag, zah, zai, ofConst, ofConst1, List.replicate, zaj, zak, loadOp, Go.Abs.loadCells, binV, zal, pickV, zam, zan, zao, zap, zaq, zar, zas, zat, zau, outR, resAll, resOne, zav, zaw, zax, zay, zaz, zba, zbb, zbc, zbd, zbe, zbf, zbg, zbh, zbi, zbj, zbk, storeOp, storeCell, overlay, zbl, zbm, zbn, lookupOp, keyT, okRes, mapUpdateOp, zbo, zbp, zbq, zbr, zbs, zbt, zbu, Nat.reduceSub, Nat.reduceAdd, Int.reduceLT, Int.reduceLE, Int.reduceAdd, Int.reduceSub, Int.reduceToNat, Int.reduceBEq, Int.reduceBNe, Int.reduceMul, Nat.reduceBEq, Nat.reduceBNe, Nat.reduceLT, Nat.reduceLeDiff, Nat.reduceMul, Nat.reduceEqDiff, WD, effB, effH, isPriv, isHeap, isImm, zbx, zby, zbz, chkO, setD, dslot, zca, zcb, zcc, zcd, ptrCells_some, F64]
      refine ⟨us.length - (i + 1), by omega, i + 1, _, ?B2, ?hst2, by omega, rfl, hf.trans hf2, hW2, he⟩
      case hst2 =>
        simp only [WN, firstReg, growAll, zbv, zbw, norm, killS, zag, zah, zaa, zab, zbl, zat, zad, growOne, zae, zaf, zac, zas, zak, Nat.reduceLT, Nat.reduceAdd, zbj, zav, F64]
        rw [IntWalk.i64_in ((i : Int) + 1) (by omega)]; rfl
    · have hi2 : i = us.length := by have := of_decide_eq_false hge; omega
      simp only [hge]
      simp only [WW, partV, eqCells, eqLf, minV, maxV, ifcV, zaa, zab, zac, zad, zae, zaf, zag, zah, zai, ofConst, ofConst1, List.replicate, zaj, zak, loadOp, Go.Abs.loadCells, binV, zal, pickV, zam, zan, zao, zap, zaq, zar, zas, zat, zau, outR, resAll, resOne, zav, zaw, zax, zay, zaz, zba, zbb, zbc, zbd, zbe, zbf, zbg, zbh, zbi, zbj, zbk, storeOp, storeCell, overlay, zbl, zbm, zbn, lookupOp, keyT, okRes, mapUpdateOp, zbo, zbp, zbq, zbr, zbs, zbt, zbu, Nat.reduceSub, Nat.reduceAdd, Int.reduceLT, Int.reduceLE, Int.reduceAdd, Int.reduceSub, Int.reduceToNat, Int.reduceBEq, Int.reduceBNe, Int.reduceMul, Nat.reduceBEq, Nat.reduceBNe, Nat.reduceLT, Nat.reduceLeDiff, Nat.reduceMul, Nat.reduceEqDiff, WD, effB, effH, isPriv, isHeap, isImm, zbx, zby, zbz, chkO, setD, dslot, zca, zcb, zcc, zcd, ptrCells_some, F64]
      refine ⟨hf, ?_⟩
      rw [hi2, List.drop_length, List.flatMap_nil] at he
      rw [← he]
      simpa [bs] using hW'
end Go.Proofs.YtgjobbmbbedecaaDoor

/- A function's bytes. -/
namespace Go.Proofs.YtgjobbmbbedecaaDoor
open Go Go.Abs Go.Proofs
set_option maxRecDepth 100000
set_option maxHeartbeats 2000000
set_option linter.unusedVariables false
set_option linter.unusedSimpArgs false
theorem Wr.enter {H : Hp} {N : Nat → Prop} {l : List V} {w : Nat} (b : Blk) (hN : ∀ i, N i → i < H.length) (hw : N w) (hW : Wr H N w l) :
    ∃ M : Nat → Prop, (∀ i, M i → i < (H ++ [b]).length) ∧ M w ∧ M H.length ∧ H.length ≠ w ∧ Wr (H ++ [b]) M w l ∧ (∀ H', Fr0 M w (H ++ [b]) H' → Fr0 N w H H') ∧ (∀ H' l, Wr H' M w l → Wr H' N w l) ∧ (H ++ [b])[H.length]? = some b :=
  ⟨fun i => N i ∨ i = H.length, fun i hi => by
    rw [List.length_append, List.length_singleton]
    rcases hi with hi | hi
    · have := hN i hi; omega
    · omega, .inl hw, .inr rfl, by have := hN w hw; omega, hW.ext b, fun H' => Fr0.ext hN, fun H' l h => h.weaken fun i hi => .inl hi, List.getElem?_concat_length⟩
theorem function34 {H : Hp} {N : Nat → Prop} {l : List V} {w : Nat} {v : V} {c : FnM} (hN : ∀ i, N i → i < H.length) (hw : N w) (hW : Wr H N w l) (hq : FnR v c) (hok : fnOk c = true) (hs : fnSz c) (hl : l.length + (encFn c).length ≤ 4000000) :
    wpCall EW 34 [.ptr w 0 0, v] H (fun out H' => out = .ret (.tup []) false ∧ Fr0 N w H H' ∧ Wr H' N w (l ++ bs (encFn c))) := by
  obtain ⟨⟨k1, k2, k3, k4, rfl, q1, q2, q3, q4⟩⟩ := hq
  simp only [fnOk, Bool.and_eq_true] at hok
  obtain ⟨o1, o2, o3, o4, o5, o6⟩ := hok
  obtain ⟨s1, s2, s3, s4⟩ := hs
  simp only [encFn, List.length_append] at hl
  have z1 := fun st => (q1 []).shutIn st
  have z2 := fun st => (q2 []).shutIn st
  have z3 := fun st => (q3 []).shutIn st
  have z4 := fun st => (q4 []).shutIn st
  refine runs f34 b34 r34 n34 _ _ ?_
  simp only [bodyOf, Tryd.f34, Option.getD_some]
  simp only [WW, partV, eqCells, eqLf, minV, maxV, ifcV, zaa, zab, zac, zad, zae, zaf, zag, zah, zai, ofConst, ofConst1, List.replicate, zaj, zak, loadOp, Go.Abs.loadCells, binV, zal, pickV, zam, zan, zao, zap, zaq, zar, zas, zat, zau, outR, resAll, resOne, zav, zaw, zax, zay, zaz, zba, zbb, zbc, zbd, zbe, zbf, zbg, zbh, zbi, zbj, zbk, storeOp, storeCell, overlay, zbl, zbm, zbn, lookupOp, keyT, okRes, mapUpdateOp, zbo, zbp, zbq, zbr, zbs, zbt, zbu, Nat.reduceSub, Nat.reduceAdd, Int.reduceLT, Int.reduceLE, Int.reduceAdd, Int.reduceSub, Int.reduceToNat, Int.reduceBEq, Int.reduceBNe, Int.reduceMul, Nat.reduceBEq, Nat.reduceBNe, Nat.reduceLT, Nat.reduceLeDiff, Nat.reduceMul, Nat.reduceEqDiff, WD, effB, effH, isPriv, isHeap, isImm, zbx, zby, zbz, chkO, setD, dslot, zca, zcb, zcc, zcd, ptrCells_some, F34, (q1 H).ok, (q2 H).ok, (q3 H).ok, (q4 H).ok, (q1 H).cells1, (q2 H).cells1, (q3 H).cells1, (q4 H).cells1, (q1 H).shutIn, (q2 H).shutIn, (q3 H).shutIn, (q4 H).shutIn]
  obtain ⟨M, hN1, hw', hc, hcw, hW1, hfx, hwk, hC1⟩ := hW.enter (.cells [.ptr w 0 0]) hN hw
  generalize H.length = p at *
  generalize (H ++ [Blk.cells [.ptr w 0 0]]) = H1 at *
  simp only [WW, partV, eqCells, eqLf, minV, maxV, ifcV, zaa, zab, zac, zad, zae, zaf, zag, zah, zai, ofConst, ofConst1, List.replicate, zaj, zak, loadOp, Go.Abs.loadCells, binV, zal, pickV, zam, zan, zao, zap, zaq, zar, zas, zat, zau, outR, resAll, resOne, zav, zaw, zax, zay, zaz, zba, zbb, zbc, zbd, zbe, zbf, zbg, zbh, zbi, zbj, zbk, storeOp, storeCell, overlay, zbl, zbm, zbn, lookupOp, keyT, okRes, mapUpdateOp, zbo, zbp, zbq, zbr, zbs, zbt, zbu, Nat.reduceSub, Nat.reduceAdd, Int.reduceLT, Int.reduceLE, Int.reduceAdd, Int.reduceSub, Int.reduceToNat, Int.reduceBEq, Int.reduceBNe, Int.reduceMul, Nat.reduceBEq, Nat.reduceBNe, Nat.reduceLT, Nat.reduceLeDiff, Nat.reduceMul, Nat.reduceEqDiff, WD, effB, effH, isPriv, isHeap, isImm, zbx, zby, zbz, chkO, setD, dslot, zca, zcb, zcc, zcd, ptrCells_some, F34, hC1, z1, z2, z3, z4]
  refine wpCall_of (plain_spec hN1 hw' hW1 c.params o1 (by omega)) ?_
  rintro out H2 ⟨rfl, hf2, hW2⟩
  have hN2 : ∀ i, M i → i < H2.length := fun i hi => Nat.lt_of_lt_of_le (hN1 i hi) hf2.1
  have hC2 : H2[p]? = some (.cells [.ptr w 0 0]) := Cw.fr hC1 hc hcw hf2
  simp only [WW, partV, eqCells, eqLf, minV, maxV, ifcV, zaa, zab, zac, zad, zae, zaf, zag, zah, zai, ofConst, ofConst1, List.replicate, zaj, zak, loadOp, Go.Abs.loadCells, binV, zal, pickV, zam, zan, zao, zap, zaq, zar, zas, zat, zau, outR, resAll, resOne, zav, zaw, zax, zay, zaz, zba, zbb, zbc, zbd, zbe, zbf, zbg, zbh, zbi, zbj, zbk, storeOp, storeCell, overlay, zbl, zbm, zbn, lookupOp, keyT, okRes, mapUpdateOp, zbo, zbp, zbq, zbr, zbs, zbt, zbu, Nat.reduceSub, Nat.reduceAdd, Int.reduceLT, Int.reduceLE, Int.reduceAdd, Int.reduceSub, Int.reduceToNat, Int.reduceBEq, Int.reduceBNe, Int.reduceMul, Nat.reduceBEq, Nat.reduceBNe, Nat.reduceLT, Nat.reduceLeDiff, Nat.reduceMul, Nat.reduceEqDiff, WD, effB, effH, isPriv, isHeap, isImm, zbx, zby, zbz, chkO, setD, dslot, zca, zcb, zcc, zcd, ptrCells_some, F34, hC2, z1, z2, z3, z4]
  refine wpCall_of (plain_spec hN2 hw' hW2 c.slots o2 (by simp only [List.length_append, bs_len]; omega)) ?_
  rintro out H3 ⟨rfl, hf3, hW3⟩
  have hN3 : ∀ i, M i → i < H3.length := fun i hi => Nat.lt_of_lt_of_le (hN2 i hi) hf3.1
  have hC3 : H3[p]? = some (.cells [.ptr w 0 0]) := Cw.fr hC2 hc hcw hf3
  simp only [WW, partV, eqCells, eqLf, minV, maxV, ifcV, zaa, zab, zac, zad, zae, zaf, zag, zah, zai, ofConst, ofConst1, List.replicate, zaj, zak, loadOp, Go.Abs.loadCells, binV, zal, pickV, zam, zan, zao, zap, zaq, zar, zas, zat, zau, outR, resAll, resOne, zav, zaw, zax, zay, zaz, zba, zbb, zbc, zbd, zbe, zbf, zbg, zbh, zbi, zbj, zbk, storeOp, storeCell, overlay, zbl, zbm, zbn, lookupOp, keyT, okRes, mapUpdateOp, zbo, zbp, zbq, zbr, zbs, zbt, zbu, Nat.reduceSub, Nat.reduceAdd, Int.reduceLT, Int.reduceLE, Int.reduceAdd, Int.reduceSub, Int.reduceToNat, Int.reduceBEq, Int.reduceBNe, Int.reduceMul, Nat.reduceBEq, Nat.reduceBNe, Nat.reduceLT, Nat.reduceLeDiff, Nat.reduceMul, Nat.reduceEqDiff, WD, effB, effH, isPriv, isHeap, isImm, zbx, zby, zbz, chkO, setD, dslot, zca, zcb, zcc, zcd, ptrCells_some, F34, hC3, z1, z2, z3, z4]
  refine wpCall_of (severalG32 encI call28 hN3 hw' hW3 q1 (All2.map intV c.boxes fun _ _ => rfl) (fun G l1 v a ha hR hf hW1 hl1 => ?_) (by simp only [List.length_append, bs_len]; omega) (by omega)) ?_
  · obtain rfl : v = .int .i64 a := hR
    exact plain_spec (fun i hi => Nat.lt_of_lt_of_le (hN3 i hi) hf.1) hw' hW1 a (all_mem o3 ha) (by omega)
  rintro out H4 ⟨rfl, hf4, hW4⟩
  have hN4 : ∀ i, M i → i < H4.length := fun i hi => Nat.lt_of_lt_of_le (hN3 i hi) hf4.1
  have hC4 : H4[p]? = some (.cells [.ptr w 0 0]) := Cw.fr hC3 hc hcw hf4
  simp only [WW, partV, eqCells, eqLf, minV, maxV, ifcV, zaa, zab, zac, zad, zae, zaf, zag, zah, zai, ofConst, ofConst1, List.replicate, zaj, zak, loadOp, Go.Abs.loadCells, binV, zal, pickV, zam, zan, zao, zap, zaq, zar, zas, zat, zau, outR, resAll, resOne, zav, zaw, zax, zay, zaz, zba, zbb, zbc, zbd, zbe, zbf, zbg, zbh, zbi, zbj, zbk, storeOp, storeCell, overlay, zbl, zbm, zbn, lookupOp, keyT, okRes, mapUpdateOp, zbo, zbp, zbq, zbr, zbs, zbt, zbu, Nat.reduceSub, Nat.reduceAdd, Int.reduceLT, Int.reduceLE, Int.reduceAdd, Int.reduceSub, Int.reduceToNat, Int.reduceBEq, Int.reduceBNe, Int.reduceMul, Nat.reduceBEq, Nat.reduceBNe, Nat.reduceLT, Nat.reduceLeDiff, Nat.reduceMul, Nat.reduceEqDiff, WD, effB, effH, isPriv, isHeap, isImm, zbx, zby, zbz, chkO, setD, dslot, zca, zcb, zcc, zcd, ptrCells_some, F34, hC4, z1, z2, z3, z4]
  refine wpCall_of (severalG59 encCap call60 hN4 hw' hW4 q2 (All2.map capV c.caps fun _ _ => rfl) (fun G l1 v a ha hR hf hW1 hl1 => ?_) (by simp only [List.length_append, bs_len]; omega) (by omega)) ?_
  · obtain rfl : v = capV a := hR
    exact clos60 (fun i hi => Nat.lt_of_lt_of_le (hN4 i hi) hf.1) hw' hc hcw (Cw.fr hC4 hc hcw hf) hW1 a (all_mem o4 ha) hl1
  rintro out H5 ⟨rfl, hf5, hW5⟩
  have hN5 : ∀ i, M i → i < H5.length := fun i hi => Nat.lt_of_lt_of_le (hN4 i hi) hf5.1
  have hC5 : H5[p]? = some (.cells [.ptr w 0 0]) := Cw.fr hC4 hc hcw hf5
  simp only [WW, partV, eqCells, eqLf, minV, maxV, ifcV, zaa, zab, zac, zad, zae, zaf, zag, zah, zai, ofConst, ofConst1, List.replicate, zaj, zak, loadOp, Go.Abs.loadCells, binV, zal, pickV, zam, zan, zao, zap, zaq, zar, zas, zat, zau, outR, resAll, resOne, zav, zaw, zax, zay, zaz, zba, zbb, zbc, zbd, zbe, zbf, zbg, zbh, zbi, zbj, zbk, storeOp, storeCell, overlay, zbl, zbm, zbn, lookupOp, keyT, okRes, mapUpdateOp, zbo, zbp, zbq, zbr, zbs, zbt, zbu, Nat.reduceSub, Nat.reduceAdd, Int.reduceLT, Int.reduceLE, Int.reduceAdd, Int.reduceSub, Int.reduceToNat, Int.reduceBEq, Int.reduceBNe, Int.reduceMul, Nat.reduceBEq, Nat.reduceBNe, Nat.reduceLT, Nat.reduceLeDiff, Nat.reduceMul, Nat.reduceEqDiff, WD, effB, effH, isPriv, isHeap, isImm, zbx, zby, zbz, chkO, setD, dslot, zca, zcb, zcc, zcd, ptrCells_some, F34, hC5, z1, z2, z3, z4]
  refine wpCall_of (severalG61 encIn call62 hN5 hw' hW5 q3 (All2.map inV c.code fun _ _ => rfl) (fun G l1 v a ha hR hf hW1 hl1 => ?_) (by simp only [List.length_append, bs_len]; omega) (by omega)) ?_
  · obtain rfl : v = inV a := hR
    exact clos62 (fun i hi => Nat.lt_of_lt_of_le (hN5 i hi) hf.1) hw' hc hcw (Cw.fr hC5 hc hcw hf) hW1 a (all_mem o5 ha) hl1
  rintro out H6 ⟨rfl, hf6, hW6⟩
  have hN6 : ∀ i, M i → i < H6.length := fun i hi => Nat.lt_of_lt_of_le (hN5 i hi) hf6.1
  have hC6 : H6[p]? = some (.cells [.ptr w 0 0]) := Cw.fr hC5 hc hcw hf6
  simp only [WW, partV, eqCells, eqLf, minV, maxV, ifcV, zaa, zab, zac, zad, zae, zaf, zag, zah, zai, ofConst, ofConst1, List.replicate, zaj, zak, loadOp, Go.Abs.loadCells, binV, zal, pickV, zam, zan, zao, zap, zaq, zar, zas, zat, zau, outR, resAll, resOne, zav, zaw, zax, zay, zaz, zba, zbb, zbc, zbd, zbe, zbf, zbg, zbh, zbi, zbj, zbk, storeOp, storeCell, overlay, zbl, zbm, zbn, lookupOp, keyT, okRes, mapUpdateOp, zbo, zbp, zbq, zbr, zbs, zbt, zbu, Nat.reduceSub, Nat.reduceAdd, Int.reduceLT, Int.reduceLE, Int.reduceAdd, Int.reduceSub, Int.reduceToNat, Int.reduceBEq, Int.reduceBNe, Int.reduceMul, Nat.reduceBEq, Nat.reduceBNe, Nat.reduceLT, Nat.reduceLeDiff, Nat.reduceMul, Nat.reduceEqDiff, WD, effB, effH, isPriv, isHeap, isImm, zbx, zby, zbz, chkO, setD, dslot, zca, zcb, zcc, zcd, ptrCells_some, F34, hC6, z1, z2, z3, z4]
  refine wpCall_of (severalG63 encTry call64 hN6 hw' hW6 q4 (All2.map tryV c.tries fun _ _ => rfl) (fun G l1 v a ha hR hf hW1 hl1 => ?_) (by simp only [List.length_append, bs_len]; omega) (by omega)) ?_
  · obtain rfl : v = tryV a := hR
    exact clos64 (fun i hi => Nat.lt_of_lt_of_le (hN6 i hi) hf.1) hw' hc hcw (Cw.fr hC6 hc hcw hf) hW1 a (all_mem o6 ha) hl1
  rintro out H7 ⟨rfl, hf7, hW7⟩
  simp only [WW, partV, eqCells, eqLf, minV, maxV, ifcV, zaa, zab, zac, zad, zae, zaf, zag, zah, zai, ofConst, ofConst1, List.replicate, zaj, zak, loadOp, Go.Abs.loadCells, binV, zal, pickV, zam, zan, zao, zap, zaq, zar, zas, zat, zau, outR, resAll, resOne, zav, zaw, zax, zay, zaz, zba, zbb, zbc, zbd, zbe, zbf, zbg, zbh, zbi, zbj, zbk, storeOp, storeCell, overlay, zbl, zbm, zbn, lookupOp, keyT, okRes, mapUpdateOp, zbo, zbp, zbq, zbr, zbs, zbt, zbu, Nat.reduceSub, Nat.reduceAdd, Int.reduceLT, Int.reduceLE, Int.reduceAdd, Int.reduceSub, Int.reduceToNat, Int.reduceBEq, Int.reduceBNe, Int.reduceMul, Nat.reduceBEq, Nat.reduceBNe, Nat.reduceLT, Nat.reduceLeDiff, Nat.reduceMul, Nat.reduceEqDiff, WD, effB, effH, isPriv, isHeap, isImm, zbx, zby, zbz, chkO, setD, dslot, zca, zcb, zcc, zcd, ptrCells_some, F34]
  refine ⟨hfx _ (((((hf2.trans hf3).trans hf4).trans hf5).trans hf6).trans hf7), hwk _ _ ?_⟩
  simp only [encFn, bs_app, ← List.append_assoc]; exact hW7
end Go.Proofs.YtgjobbmbbedecaaDoor

/- Whether an image's numbers can be told: the program's walk through them. -/
namespace Go.Proofs.YtgjobbmbbedecaaDoor
open Go Go.Abs Go.Proofs
set_option maxRecDepth 100000
set_option maxHeartbeats 4000000
set_option linter.unusedVariables false
set_option linter.unusedSimpArgs false
/-- A writer with a fault, or without; its bytes are few -/
def WrE (H : Hp) (N : Nat → Prop) (w : Nat) (ok : Bool) (m : Nat) : Prop := ∃ x l, SlW 1 H N x l ∧ H[w]? = some (.cells [.agg [x, .int .i64 (eI ok)]]) ∧ l.length ≤ m
theorem numE {H : Hp} {N : Nat → Prop} {w m : Nat} {ok : Bool} (hN : ∀ i, N i → i < H.length) (hw : N w) (h : WrE H N w ok m) (hm : m ≤ 4000000) (n : Int) :
    wpCall EW 28 [.ptr w 0 0, .int .i64 n] H (fun out H' => out = .ret (.tup []) false ∧ Fr0 N w H H' ∧ WrE H' N w (ok && plain n) (m + 9)) := by
  obtain ⟨x, l, hx, hb, hl⟩ := h
  refine wpCall_of (number_w ok hN hw hx hb (by omega) n) ?_
  rintro out H' ⟨rfl, hf, x', l', hx', hb', hl'⟩
  exact ⟨rfl, hf, x', l', hx', hb', by omega⟩
theorem sgnE {H : Hp} {N : Nat → Prop} {w m : Nat} {ok : Bool} (hN : ∀ i, N i → i < H.length) (hw : N w) (h : WrE H N w ok m) (hm : m ≤ 4000000) (n : Int) :
    wpCall EW 58 [.ptr w 0 0, .int .i64 n] H (fun out H' => out = .ret (.tup []) false ∧ Fr0 N w H H' ∧ WrE H' N w (ok && signedOk n) (m + 9)) := by
  obtain ⟨x, l, hx, hb, hl⟩ := h
  refine wpCall_of (signed_w ok hN hw hx hb (by omega) n) ?_
  rintro out H' ⟨rfl, hf, x', l', hx', hb', hl'⟩
  exact ⟨rfl, hf, x', l', hx', hb', by omega⟩
theorem tryE {H : Hp} {N : Nat → Prop} {w c : Nat} {v : V} {ns : List Int} {ok : Bool} (hN : ∀ i, N i → i < H.length) (hw : N w) (hc : N c) (hcw : c ≠ w) (hC : Cw H c w) (hx : RdA v (ns.map intV)) (hns : ns.length ≤ 10000) (h : WrE H N w ok 0) :
    wpCall EW 57 [v, .ptr c 0 0] H (fun out H' => out = .ret (.tup []) false ∧ Fr0 N w H H' ∧ WrE H' N w (ok && ns.all plain) 0) := by
  refine runs f57 b57 r57 n57 _ _ ?_
  simp only [bodyOf, Tryd.f57, Option.getD_some]
  have z1 := fun st => (hx []).shutIn st
  have hlm : (ns.map intV).length = ns.length := List.length_map ..
  simp only [WW, partV, eqCells, eqLf, minV, maxV, ifcV, zaa, zab, zac, zad, zae, zaf, zag, zah, zai, ofConst, ofConst1, List.replicate, zaj, zak, loadOp, Go.Abs.loadCells, binV, zal, pickV, zam, zan, zao, zap, zaq, zar, zas, zat, zau, outR, resAll, resOne, zav, zaw, zax, zay, zaz, zba, zbb, zbc, zbd, zbe, zbf, zbg, zbh, zbi, zbj, zbk, storeOp, storeCell, overlay, zbl, zbm, zbn, lookupOp, keyT, okRes, mapUpdateOp, zbo, zbp, zbq, zbr, zbs, zbt, zbu, Nat.reduceSub, Nat.reduceAdd, Int.reduceLT, Int.reduceLE, Int.reduceAdd, Int.reduceSub, Int.reduceToNat, Int.reduceBEq, Int.reduceBNe, Int.reduceMul, Nat.reduceBEq, Nat.reduceBNe, Nat.reduceLT, Nat.reduceLeDiff, Nat.reduceMul, Nat.reduceEqDiff, WD, effB, effH, isPriv, isHeap, isImm, zbx, zby, zbz, chkO, setD, dslot, zca, zcb, zcc, zcd, ptrCells_some, F57, z1, (hx H).len, hlm]
  refine wC_loop _ (fun k st' H' => ∃ (i : Nat) (o : Bool), st' = ⟨L57_1 (.v (.ptr c 0 0)) (.v v) (.v (.int .i64 ns.length)) (.v (.int .i64 i)), [], []⟩ ∧ i ≤ ns.length ∧ k = ns.length - i ∧ Fr0 N w H H' ∧ WrE H' N w o (9 * i) ∧ (o && (ns.drop i).all plain) = (ok && ns.all plain)) ns.length ⟨0, ok, ?_, by omega, by omega, Fr0.refl, h, rfl⟩ ?_
  · simp only [WN, firstReg, growAll, zbv, zbw, norm, killS, zag, zah, zaa, zab, zbl, zat, zad, growOne, zae, zaf, zac, zas, zak, Nat.reduceLT, Nat.reduceAdd, zbj, zav, F57, L57_1, (hx []).clip2]
    rfl
  · rintro k st' H' ⟨i, o, rfl, hi, rfl, hf, hW', he⟩
    simp only [L57_1]
    simp only [WW, partV, eqCells, eqLf, minV, maxV, ifcV, zaa, zab, zac, zad, zae, zaf, zag, zah, zai, ofConst, ofConst1, List.replicate, zaj, zak, loadOp, Go.Abs.loadCells, binV, zal, pickV, zam, zan, zao, zap, zaq, zar, zas, zat, zau, outR, resAll, resOne, zav, zaw, zax, zay, zaz, zba, zbb, zbc, zbd, zbe, zbf, zbg, zbh, zbi, zbj, zbk, storeOp, storeCell, overlay, zbl, zbm, zbn, lookupOp, keyT, okRes, mapUpdateOp, zbo, zbp, zbq, zbr, zbs, zbt, zbu, Nat.reduceSub, Nat.reduceAdd, Int.reduceLT, Int.reduceLE, Int.reduceAdd, Int.reduceSub, Int.reduceToNat, Int.reduceBEq, Int.reduceBNe, Int.reduceMul, Nat.reduceBEq, Nat.reduceBNe, Nat.reduceLT, Nat.reduceLeDiff, Nat.reduceMul, Nat.reduceEqDiff, WD, effB, effH, isPriv, isHeap, isImm, zbx, zby, zbz, chkO, setD, dslot, zca, zcb, zcc, zcd, ptrCells_some, F57]
    have hN' : ∀ i, N i → i < H'.length := fun i hi => Nat.lt_of_lt_of_le (hN i hi) hf.1
    have hC' : H'[c]? = some (.cells [.ptr w 0 0]) := hC.fr hc hcw hf
    refine cSplit (fun hlt => ?_) (fun hge => ?_)
    · have hi2 : i < ns.length := by have := of_decide_eq_true hlt; omega
      have hs : ns[i]? = some ns[i] := List.getElem?_eq_getElem hi2
      generalize ns[i] = n at hs
      rw [drop_get hs, List.all_cons, ← Bool.and_assoc] at he
      simp only [hlt]
      have hat := (hx H').at_ (sz := 1) (i := i) (e := .int .i64 n) (by rw [List.getElem?_map, hs]; rfl) rfl
      simp only [WW, partV, eqCells, eqLf, minV, maxV, ifcV, zaa, zab, zac, zad, zae, zaf, zag, zah, zai, ofConst, ofConst1, List.replicate, zaj, zak, loadOp, Go.Abs.loadCells, binV, zal, pickV, zam, zan, zao, zap, zaq, zar, zas, zat, zau, outR, resAll, resOne, zav, zaw, zax, zay, zaz, zba, zbb, zbc, zbd, zbe, zbf, zbg, zbh, zbi, zbj, zbk, storeOp, storeCell, overlay, zbl, zbm, zbn, lookupOp, keyT, okRes, mapUpdateOp, zbo, zbp, zbq, zbr, zbs, zbt, zbu, Nat.reduceSub, Nat.reduceAdd, Int.reduceLT, Int.reduceLE, Int.reduceAdd, Int.reduceSub, Int.reduceToNat, Int.reduceBEq, Int.reduceBNe, Int.reduceMul, Nat.reduceBEq, Nat.reduceBNe, Nat.reduceLT, Nat.reduceLeDiff, Nat.reduceMul, Nat.reduceEqDiff, WD, effB, effH, isPriv, isHeap, isImm, zbx, zby, zbz, chkO, setD, dslot, zca, zcb, zcc, zcd, ptrCells_some, F57, hC', z1, hat.at1 (hx H'), hat.cells]
      refine wpCall_of (numE hN' hw hW' (by omega) n) ?_
      rintro out H2 ⟨rfl, hf2, hW2⟩
      simp only [WW, partV, eqCells, eqLf, minV, maxV, ifcV, zaa, zab, zac, zad, zae, zaf, zag, zah, zai, ofConst, ofConst1, List.replicate, zaj, zak, loadOp, Go.Abs.loadCells, binV, zal, pickV, zam, zan, zao, zap, zaq, zar, zas, zat, zau, outR, resAll, resOne, zav, zaw, zax, zay, zaz, zba, zbb, zbc, zbd, zbe, zbf, zbg, zbh, zbi, zbj, zbk, storeOp, storeCell, overlay, zbl, zbm, zbn, lookupOp, keyT, okRes, mapUpdateOp, zbo, zbp, zbq, zbr, zbs, zbt, zbu, Nat.reduceSub, Nat.reduceAdd, Int.reduceLT, Int.reduceLE, Int.reduceAdd, Int.reduceSub, Int.reduceToNat, Int.reduceBEq, Int.reduceBNe, Int.reduceMul, Nat.reduceBEq, Nat.reduceBNe, Nat.reduceLT, Nat.reduceLeDiff, Nat.reduceMul, Nat.reduceEqDiff, WD, effB, effH, isPriv, isHeap, isImm, zbx, zby, zbz, chkO, setD, dslot, zca, zcb, zcc, zcd, ptrCells_some, F57]
      refine ⟨ns.length - (i + 1), by omega, i + 1, _, ?_, by omega, rfl, hf.trans hf2, hW2, he⟩
      simp only [WN, firstReg, growAll, zbv, zbw, norm, killS, zag, zah, zaa, zab, zbl, zat, zad, growOne, zae, zaf, zac, zas, zak, Nat.reduceLT, Nat.reduceAdd, zbj, zav, F57, (hx []).clip2]
      rw [IntWalk.i64_in ((i : Int) + 1) (by omega)]; rfl
    · have hi2 : i = ns.length := by have := of_decide_eq_false hge; omega
      rw [hi2, List.drop_length, List.all_nil, Bool.and_true] at he
      subst he
      simp only [hge]
      simp only [WW, partV, eqCells, eqLf, minV, maxV, ifcV, zaa, zab, zac, zad, zae, zaf, zag, zah, zai, ofConst, ofConst1, List.replicate, zaj, zak, loadOp, Go.Abs.loadCells, binV, zal, pickV, zam, zan, zao, zap, zaq, zar, zas, zat, zau, outR, resAll, resOne, zav, zaw, zax, zay, zaz, zba, zbb, zbc, zbd, zbe, zbf, zbg, zbh, zbi, zbj, zbk, storeOp, storeCell, overlay, zbl, zbm, zbn, lookupOp, keyT, okRes, mapUpdateOp, zbo, zbp, zbq, zbr, zbs, zbt, zbu, Nat.reduceSub, Nat.reduceAdd, Int.reduceLT, Int.reduceLE, Int.reduceAdd, Int.reduceSub, Int.reduceToNat, Int.reduceBEq, Int.reduceBNe, Int.reduceMul, Nat.reduceBEq, Nat.reduceBNe, Nat.reduceLT, Nat.reduceLeDiff, Nat.reduceMul, Nat.reduceEqDiff, WD, effB, effH, isPriv, isHeap, isImm, zbx, zby, zbz, chkO, setD, dslot, zca, zcb, zcc, zcd, ptrCells_some, F57]
      refine wC_dr alts57_5 (by kernel_rfl) ?_
      obtain ⟨x, l, hx, hb, hl⟩ := hW'
      obtain ⟨x2, hcut, hx2⟩ := cut0 hx
      have hb3 : (H'.set w (.cells [.agg [x2, .int .i64 (eI (ok && ns.all plain))]]))[w]? = some (.cells [.agg [x2, .int .i64 (eI (ok && ns.all plain))]]) := List.getElem?_set_self (hN' w hw)
      simp only [WW, partV, eqCells, eqLf, minV, maxV, ifcV, zaa, zab, zac, zad, zae, zaf, zag, zah, zai, ofConst, ofConst1, List.replicate, zaj, zak, loadOp, Go.Abs.loadCells, binV, zal, pickV, zam, zan, zao, zap, zaq, zar, zas, zat, zau, outR, resAll, resOne, zav, zaw, zax, zay, zaz, zba, zbb, zbc, zbd, zbe, zbf, zbg, zbh, zbi, zbj, zbk, storeOp, storeCell, overlay, zbl, zbm, zbn, lookupOp, keyT, okRes, mapUpdateOp, zbo, zbp, zbq, zbr, zbs, zbt, zbu, Nat.reduceSub, Nat.reduceAdd, Int.reduceLT, Int.reduceLE, Int.reduceAdd, Int.reduceSub, Int.reduceToNat, Int.reduceBEq, Int.reduceBNe, Int.reduceMul, Nat.reduceBEq, Nat.reduceBNe, Nat.reduceLT, Nat.reduceLeDiff, Nat.reduceMul, Nat.reduceEqDiff, WD, effB, effH, isPriv, isHeap, isImm, zbx, zby, zbz, chkO, setD, dslot, zca, zcb, zcc, zcd, ptrCells_some, F57, hC', hb, alts57_5, Option.map_none, hcut, storeHeap, hx2.prom, heapSet, elemSet, hx2.shut, hx2.cells1, hx2.ok, hx2.width1]
      refine ⟨⟨?_, fun i h4 h5 => ?_⟩, x2, [], hx2.set hw _, hb3, by simp⟩
      · rw [List.length_set]; exact hf.1
      · rw [List.getElem?_set, if_neg (fun h => h5 h.symm)]; exact hf.2 i h4 h5
end Go.Proofs.YtgjobbmbbedecaaDoor

/- Whether an image's numbers can be told. -/
namespace Go.Proofs.YtgjobbmbbedecaaDoor
open Go Go.Abs Go.Proofs
set_option maxRecDepth 100000
set_option maxHeartbeats 8000000
set_option linter.unusedVariables false
set_option linter.unusedSimpArgs false
theorem set_last {α : Type} (l : List α) (a b : α) : (l ++ [a]).set l.length b = l ++ [b] := by
  rw [List.set_append_right _ _ (Nat.le_refl _), Nat.sub_self]; rfl
theorem all2 (a b : Int) : [a, b].all plain = (plain a && plain b) := by simp
theorem all1 (a : Int) : [a].all plain = plain a := by simp
theorem all4 (x : Int × Int × Int × Int) : [x.1, x.2.1, x.2.2.1, x.2.2.2].all plain = tryOk x := by simp [tryOk]
theorem wrong_spec {H : Hp} {v : V} {im : ImM} (q : ImV v im) (hsm : imSz im) : wpCall EW 25 [v] H (fun out H' => out = .ret (.bool (!imOk im)) false ∧ H.length ≤ H'.length ∧ ∀ i, i < H.length → H'[i]? = H[i]?) := by
  obtain ⟨fu, st, ke, fs, ks, rfl, hf, hs, hk, f2, k2⟩ := q
  obtain ⟨m1, m2, m3, m4, m5, m6⟩ := hsm
  have z1 := fun st => (hf []).shutIn st
  have z2 := fun s => (hs []).shutIn s
  have z3 := fun st => (hk []).shutIn st
  have y1 := fun n => (hf []).clip n
  have y2 := fun n => (hs []).clip n
  have y3 := fun n => (hk []).clip n
  have x1 := (hf []).cells1
  have x2 := (hs []).cells1
  have x3 := (hk []).cells1
  have w1 := (hf []).ok
  have w2 := (hs []).ok
  have w3 := (hk []).ok
  have fl := f2.len
  have kl := k2.len
  refine runs f25 b25 r25 n25 _ _ ?_
  simp only [bodyOf, Tryd.f25, Option.getD_some]
  have hC : (H ++ [Blk.cells [.agg [.nils, .int .i64 0]]] ++ [Blk.cells [.ptr H.length 0 0]])[(H ++ [Blk.cells [.agg [.nils, .int .i64 0]]]).length]? = some (.cells [.ptr H.length 0 0]) := List.getElem?_concat_length
  have hW : (H ++ [Blk.cells [.agg [.nils, .int .i64 0]]] ++ [Blk.cells [.ptr H.length 0 0]])[H.length]? = some (.cells [.agg [.nils, .int .i64 0]]) := by rw [List.getElem?_append_left (by simp)]; exact List.getElem?_concat_length
  have hO : ∀ i, i < H.length → (H ++ [Blk.cells [.agg [.nils, .int .i64 0]]] ++ [Blk.cells [.ptr H.length 0 0]])[i]? = H[i]? := fun i hi => by rw [List.getElem?_append_left (by simp; omega), List.getElem?_append_left hi]
  simp only [WW, partV, eqCells, eqLf, minV, maxV, ifcV, zaa, zab, zac, zad, zae, zaf, zag, zah, zai, ofConst, ofConst1, List.replicate, zaj, zak, loadOp, Go.Abs.loadCells, binV, zal, pickV, zam, zan, zao, zap, zaq, zar, zas, zat, zau, outR, resAll, resOne, zav, zaw, zax, zay, zaz, zba, zbb, zbc, zbd, zbe, zbf, zbg, zbh, zbi, zbj, zbk, storeOp, storeCell, overlay, zbl, zbm, zbn, lookupOp, keyT, okRes, mapUpdateOp, zbo, zbp, zbq, zbr, zbs, zbt, zbu, Nat.reduceSub, Nat.reduceAdd, Int.reduceLT, Int.reduceLE, Int.reduceAdd, Int.reduceSub, Int.reduceToNat, Int.reduceBEq, Int.reduceBNe, Int.reduceMul, Nat.reduceBEq, Nat.reduceBNe, Nat.reduceLT, Nat.reduceLeDiff, Nat.reduceMul, Nat.reduceEqDiff, WD, effB, effH, isPriv, isHeap, isImm, zbx, zby, zbz, chkO, setD, dslot, zca, zcb, zcc, zcd, ptrCells_some, F25, z1, z2, z3, x1, x2, x3, w1, w2, w3, buildOp, fillV, Lay.place, Bool.or_self, Bool.or_false, Bool.false_or, decide_not, ne_eq, not_true_eq_false, decide_eq_true_eq, Nat.lt_irrefl, storeHeap, promote, heapSet, elemSet, List.getElem?_concat_length, set_last]
  have hlen : (H ++ [Blk.cells [.agg [.nils, .int .i64 0]]] ++ [Blk.cells [.ptr H.length 0 0]]).length = H.length + 2 := by simp
  have hl1 : (H ++ [Blk.cells [.agg [.nils, .int .i64 0]]]).length = H.length + 1 := by simp
  rw [hl1] at hC ⊢
  generalize (H ++ [Blk.cells [.agg [.nils, .int .i64 0]]] ++ [Blk.cells [.ptr H.length 0 0]]) = H1 at *
  generalize H.length = p at *
  obtain ⟨N, hNd⟩ : ∃ N : Nat → Prop, N = fun i => i < p + 2 := ⟨_, rfl⟩
  have hN : ∀ i, N i → i < H1.length := fun i hi => by rw [hNd] at hi; rw [hlen]; exact hi
  have hw : N p := by rw [hNd]; show p < p + 2; omega
  have hc : N (p + 1) := by rw [hNd]; show p + 1 < p + 2; omega
  have hcw : p + 1 ≠ p := by omega
  have hOf : ∀ H', Fr0 N p H1 H' → p ≤ H'.length ∧ ∀ i, i < p → H'[i]? = H[i]? := fun H' hf => ⟨by have := hf.1; omega, fun i hi => by rw [hf.2 i (by rw [hNd]; show i < p + 2; omega) (by omega)]; exact hO i hi⟩
  have hE : WrE H1 N p true 0 := ⟨.nils, [], .inl ⟨rfl, rfl⟩, hW, by simp⟩
  clear hNd hO hW
  simp only [WW, partV, eqCells, eqLf, minV, maxV, ifcV, zaa, zab, zac, zad, zae, zaf, zag, zah, zai, ofConst, ofConst1, List.replicate, zaj, zak, loadOp, Go.Abs.loadCells, binV, zal, pickV, zam, zan, zao, zap, zaq, zar, zas, zat, zau, outR, resAll, resOne, zav, zaw, zax, zay, zaz, zba, zbb, zbc, zbd, zbe, zbf, zbg, zbh, zbi, zbj, zbk, storeOp, storeCell, overlay, zbl, zbm, zbn, lookupOp, keyT, okRes, mapUpdateOp, zbo, zbp, zbq, zbr, zbs, zbt, zbu, Nat.reduceSub, Nat.reduceAdd, Int.reduceLT, Int.reduceLE, Int.reduceAdd, Int.reduceSub, Int.reduceToNat, Int.reduceBEq, Int.reduceBNe, Int.reduceMul, Nat.reduceBEq, Nat.reduceBNe, Nat.reduceLT, Nat.reduceLeDiff, Nat.reduceMul, Nat.reduceEqDiff, WD, effB, effH, isPriv, isHeap, isImm, zbx, zby, zbz, chkO, setD, dslot, zca, zcb, zcc, zcd, ptrCells_some, F25, (hk H1).len, kl]
  refine wC_loop _ (fun k st' H' => ∃ (i : Nat) (o : Bool), st' = ⟨L25_4 (.box 0) (.v (.ptr (p + 1) 0 0)) (.v (.fn 57 [] [.ptr (p + 1) 0 0])) (.v ke) (.v (.int .i64 im.keys.length)) (.v (.int .i64 i)), [[fu, st, ke, .int .i64 im.globals]], []⟩ ∧ i ≤ im.keys.length ∧ k = im.keys.length - i ∧ Fr0 N p H1 H' ∧ WrE H' N p o 0 ∧ (o && (im.keys.drop i).all (fun k => k.all plain)) = im.keys.all (fun k => k.all plain)) im.keys.length ⟨0, true, ?_, by omega, by omega, Fr0.refl, hE, rfl⟩ ?_
  · simp only [WN, firstReg, growAll, zbv, zbw, norm, killS, zag, zah, zaa, zab, zbl, zat, zad, growOne, zae, zaf, zac, zas, zak, Nat.reduceLT, Nat.reduceAdd, zbj, zav, F25, L25_4, (hk []).clip2, y1, y2, y3]
    rfl
  · rintro k st' H' ⟨i, o, rfl, hi, rfl, hfr, hE', he⟩
    simp only [L25_4]
    simp only [WW, partV, eqCells, eqLf, minV, maxV, ifcV, zaa, zab, zac, zad, zae, zaf, zag, zah, zai, ofConst, ofConst1, List.replicate, zaj, zak, loadOp, Go.Abs.loadCells, binV, zal, pickV, zam, zan, zao, zap, zaq, zar, zas, zat, zau, outR, resAll, resOne, zav, zaw, zax, zay, zaz, zba, zbb, zbc, zbd, zbe, zbf, zbg, zbh, zbi, zbj, zbk, storeOp, storeCell, overlay, zbl, zbm, zbn, lookupOp, keyT, okRes, mapUpdateOp, zbo, zbp, zbq, zbr, zbs, zbt, zbu, Nat.reduceSub, Nat.reduceAdd, Int.reduceLT, Int.reduceLE, Int.reduceAdd, Int.reduceSub, Int.reduceToNat, Int.reduceBEq, Int.reduceBNe, Int.reduceMul, Nat.reduceBEq, Nat.reduceBNe, Nat.reduceLT, Nat.reduceLeDiff, Nat.reduceMul, Nat.reduceEqDiff, WD, effB, effH, isPriv, isHeap, isImm, zbx, zby, zbz, chkO, setD, dslot, zca, zcb, zcc, zcd, ptrCells_some, F25]
    have hN' : ∀ i, N i → i < H'.length := fun i hi => Nat.lt_of_lt_of_le (hN i hi) hfr.1
    have hC' : H'[p + 1]? = some (.cells [.ptr p 0 0]) := Cw.fr hC hc hcw hfr
    refine cSplit (fun hlt => ?_) (fun hge => ?_)
    · have hi2 : i < im.keys.length := by have := of_decide_eq_true hlt; omega
      have hsk : im.keys[i]? = some im.keys[i] := List.getElem?_eq_getElem hi2
      generalize im.keys[i] = a at hsk
      obtain ⟨u, hu, hR⟩ := k2.get hsk
      have hmem := List.mem_of_getElem? hsk
      rw [drop_get hsk, List.all_cons, ← Bool.and_assoc] at he
      simp only [hlt]
      have hat := (hk H').at_ (sz := 1) (i := i) (e := u) hu (hR []).width1
      simp only [WW, partV, eqCells, eqLf, minV, maxV, ifcV, zaa, zab, zac, zad, zae, zaf, zag, zah, zai, ofConst, ofConst1, List.replicate, zaj, zak, loadOp, Go.Abs.loadCells, binV, zal, pickV, zam, zan, zao, zap, zaq, zar, zas, zat, zau, outR, resAll, resOne, zav, zaw, zax, zay, zaz, zba, zbb, zbc, zbd, zbe, zbf, zbg, zbh, zbi, zbj, zbk, storeOp, storeCell, overlay, zbl, zbm, zbn, lookupOp, keyT, okRes, mapUpdateOp, zbo, zbp, zbq, zbr, zbs, zbt, zbu, Nat.reduceSub, Nat.reduceAdd, Int.reduceLT, Int.reduceLE, Int.reduceAdd, Int.reduceSub, Int.reduceToNat, Int.reduceBEq, Int.reduceBNe, Int.reduceMul, Nat.reduceBEq, Nat.reduceBNe, Nat.reduceLT, Nat.reduceLeDiff, Nat.reduceMul, Nat.reduceEqDiff, WD, effB, effH, isPriv, isHeap, isImm, zbx, zby, zbz, chkO, setD, dslot, zca, zcb, zcc, zcd, ptrCells_some, F25, z3, hat.at1 (hk H'), hat.cells, (hR []).cells1, (hR []).shutIn]
      refine wpCall_of (tryE hN' hw hc hcw hC' hR (by have := m5 a hmem; omega) hE') ?_
      rintro out H2 ⟨rfl, hf2, hE2⟩
      simp only [WW, partV, eqCells, eqLf, minV, maxV, ifcV, zaa, zab, zac, zad, zae, zaf, zag, zah, zai, ofConst, ofConst1, List.replicate, zaj, zak, loadOp, Go.Abs.loadCells, binV, zal, pickV, zam, zan, zao, zap, zaq, zar, zas, zat, zau, outR, resAll, resOne, zav, zaw, zax, zay, zaz, zba, zbb, zbc, zbd, zbe, zbf, zbg, zbh, zbi, zbj, zbk, storeOp, storeCell, overlay, zbl, zbm, zbn, lookupOp, keyT, okRes, mapUpdateOp, zbo, zbp, zbq, zbr, zbs, zbt, zbu, Nat.reduceSub, Nat.reduceAdd, Int.reduceLT, Int.reduceLE, Int.reduceAdd, Int.reduceSub, Int.reduceToNat, Int.reduceBEq, Int.reduceBNe, Int.reduceMul, Nat.reduceBEq, Nat.reduceBNe, Nat.reduceLT, Nat.reduceLeDiff, Nat.reduceMul, Nat.reduceEqDiff, WD, effB, effH, isPriv, isHeap, isImm, zbx, zby, zbz, chkO, setD, dslot, zca, zcb, zcc, zcd, ptrCells_some, F25]
      refine ⟨im.keys.length - (i + 1), by omega, i + 1, _, ?_, by omega, rfl, hfr.trans hf2, hE2, he⟩
      simp only [WN, firstReg, growAll, zbv, zbw, norm, killS, zag, zah, zaa, zab, zbl, zat, zad, growOne, zae, zaf, zac, zas, zak, Nat.reduceLT, Nat.reduceAdd, zbj, zav, F25, (hk []).clip2, y1, y2, y3]
      rw [IntWalk.i64_in ((i : Int) + 1) (by omega)]; rfl
    · have hi2 : i = im.keys.length := by have := of_decide_eq_false hge; omega
      rw [hi2, List.drop_length, List.all_nil, Bool.and_true] at he
      subst he
      simp only [hge]
      simp only [WW, partV, eqCells, eqLf, minV, maxV, ifcV, zaa, zab, zac, zad, zae, zaf, zag, zah, zai, ofConst, ofConst1, List.replicate, zaj, zak, loadOp, Go.Abs.loadCells, binV, zal, pickV, zam, zan, zao, zap, zaq, zar, zas, zat, zau, outR, resAll, resOne, zav, zaw, zax, zay, zaz, zba, zbb, zbc, zbd, zbe, zbf, zbg, zbh, zbi, zbj, zbk, storeOp, storeCell, overlay, zbl, zbm, zbn, lookupOp, keyT, okRes, mapUpdateOp, zbo, zbp, zbq, zbr, zbs, zbt, zbu, Nat.reduceSub, Nat.reduceAdd, Int.reduceLT, Int.reduceLE, Int.reduceAdd, Int.reduceSub, Int.reduceToNat, Int.reduceBEq, Int.reduceBNe, Int.reduceMul, Nat.reduceBEq, Nat.reduceBNe, Nat.reduceLT, Nat.reduceLeDiff, Nat.reduceMul, Nat.reduceEqDiff, WD, effB, effH, isPriv, isHeap, isImm, zbx, zby, zbz, chkO, setD, dslot, zca, zcb, zcc, zcd, ptrCells_some, F25, buildOp, fillV, Lay.place, Bool.or_self, Bool.or_false, Bool.false_or, decide_not, ne_eq, not_true_eq_false, decide_eq_true_eq, Nat.lt_irrefl, buildSliceV, lits, srcV_eq, srcK_sl, srcK_str, srcSl_nils, srcSl_rsl, srcSl_sl, appendOp, frow, zbv, zbw, List.all_nil, List.all_cons, rowV, Bool.false_and, Bool.and_false, not_false_eq_true, grows_lr, callOut_t]
      refine wpCall_of (tryE (ns := [im.globals]) hN' hw hc hcw hC' (fun _ => .rsl _) (by simp) hE') ?_
      rintro out H2 ⟨rfl, hf2, hE2⟩
      rw [all1] at hE2
      have hfr2 := hfr.trans hf2
      clear hE' hfr hf2 hC' hN' hi2 hge hi
      simp only [WW, partV, eqCells, eqLf, minV, maxV, ifcV, zaa, zab, zac, zad, zae, zaf, zag, zah, zai, ofConst, ofConst1, List.replicate, zaj, zak, loadOp, Go.Abs.loadCells, binV, zal, pickV, zam, zan, zao, zap, zaq, zar, zas, zat, zau, outR, resAll, resOne, zav, zaw, zax, zay, zaz, zba, zbb, zbc, zbd, zbe, zbf, zbg, zbh, zbi, zbj, zbk, storeOp, storeCell, overlay, zbl, zbm, zbn, lookupOp, keyT, okRes, mapUpdateOp, zbo, zbp, zbq, zbr, zbs, zbt, zbu, Nat.reduceSub, Nat.reduceAdd, Int.reduceLT, Int.reduceLE, Int.reduceAdd, Int.reduceSub, Int.reduceToNat, Int.reduceBEq, Int.reduceBNe, Int.reduceMul, Nat.reduceBEq, Nat.reduceBNe, Nat.reduceLT, Nat.reduceLeDiff, Nat.reduceMul, Nat.reduceEqDiff, WD, effB, effH, isPriv, isHeap, isImm, zbx, zby, zbz, chkO, setD, dslot, zca, zcb, zcc, zcd, ptrCells_some, F25, z1, (hf H2).len, fl]
      refine wC_loop _ (fun k st' H' => ∃ (i : Nat) (o : Bool), st' = ⟨L25_10 (.v (.ptr (p + 1) 0 0)) (.v (.fn 57 [] [.ptr (p + 1) 0 0])) (.v fu) (.v (.int .i64 im.funs.length)) (.v (.int .i64 i)), [[fu, st, ke, .int .i64 im.globals]], []⟩ ∧ i ≤ im.funs.length ∧ k = im.funs.length - i ∧ Fr0 N p H1 H' ∧ WrE H' N p o 0 ∧ (o && (im.funs.drop i).all fnOk) = imOk im) im.funs.length ⟨0, _, ?_, by omega, by omega, hfr2, hE2, by rw [List.drop_zero, Bool.and_assoc]; rfl⟩ ?_
      · simp only [WN, firstReg, growAll, zbv, zbw, norm, killS, zag, zah, zaa, zab, zbl, zat, zad, growOne, zae, zaf, zac, zas, zak, Nat.reduceLT, Nat.reduceAdd, zbj, zav, F25, L25_10, (hf []).clip2, y1, y2, y3]
        rfl
      · clear hE2 hfr2
        rintro k st' H' ⟨i, o, rfl, hi, rfl, hfr, hE', he⟩
        simp only [L25_10]
        simp only [WW, partV, eqCells, eqLf, minV, maxV, ifcV, zaa, zab, zac, zad, zae, zaf, zag, zah, zai, ofConst, ofConst1, List.replicate, zaj, zak, loadOp, Go.Abs.loadCells, binV, zal, pickV, zam, zan, zao, zap, zaq, zar, zas, zat, zau, outR, resAll, resOne, zav, zaw, zax, zay, zaz, zba, zbb, zbc, zbd, zbe, zbf, zbg, zbh, zbi, zbj, zbk, storeOp, storeCell, overlay, zbl, zbm, zbn, lookupOp, keyT, okRes, mapUpdateOp, zbo, zbp, zbq, zbr, zbs, zbt, zbu, Nat.reduceSub, Nat.reduceAdd, Int.reduceLT, Int.reduceLE, Int.reduceAdd, Int.reduceSub, Int.reduceToNat, Int.reduceBEq, Int.reduceBNe, Int.reduceMul, Nat.reduceBEq, Nat.reduceBNe, Nat.reduceLT, Nat.reduceLeDiff, Nat.reduceMul, Nat.reduceEqDiff, WD, effB, effH, isPriv, isHeap, isImm, zbx, zby, zbz, chkO, setD, dslot, zca, zcb, zcc, zcd, ptrCells_some, F25]
        have hN' : ∀ i, N i → i < H'.length := fun i hi => Nat.lt_of_lt_of_le (hN i hi) hfr.1
        have hC' : H'[p + 1]? = some (.cells [.ptr p 0 0]) := Cw.fr hC hc hcw hfr
        refine cSplit (fun hlt => ?_) (fun hge => ?_)
        · have hi2 : i < im.funs.length := by have := of_decide_eq_true hlt; omega
          have hsk : im.funs[i]? = some im.funs[i] := List.getElem?_eq_getElem hi2
          generalize im.funs[i] = a at hsk
          obtain ⟨u, hu, ⟨⟨k1, k2, k3, k4, rfl, q1, q2, q3, q4⟩⟩⟩ := f2.get hsk
          have hmem := List.mem_of_getElem? hsk
          obtain ⟨n1, n2, n3, n4⟩ := m6 a hmem
          rw [drop_get hsk, List.all_cons, ← Bool.and_assoc] at he
          simp only [hlt]
          have hat := (hf H').at_ (sz := 6) (i := i) hu rfl
          have a1 := fun st => (q1 []).shutIn st
          have a2 := fun st => (q2 []).shutIn st
          have a3 := fun st => (q3 []).shutIn st
          have a4 := fun st => (q4 []).shutIn st
          have b1 := fun n => (q1 []).clip n
          have b2 := fun n => (q2 []).clip n
          have b3 := fun n => (q3 []).clip n
          have b4 := fun n => (q4 []).clip n
          simp only [WW, partV, eqCells, eqLf, minV, maxV, ifcV, zaa, zab, zac, zad, zae, zaf, zag, zah, zai, ofConst, ofConst1, List.replicate, zaj, zak, loadOp, Go.Abs.loadCells, binV, zal, pickV, zam, zan, zao, zap, zaq, zar, zas, zat, zau, outR, resAll, resOne, zav, zaw, zax, zay, zaz, zba, zbb, zbc, zbd, zbe, zbf, zbg, zbh, zbi, zbj, zbk, storeOp, storeCell, overlay, zbl, zbm, zbn, lookupOp, keyT, okRes, mapUpdateOp, zbo, zbp, zbq, zbr, zbs, zbt, zbu, Nat.reduceSub, Nat.reduceAdd, Int.reduceLT, Int.reduceLE, Int.reduceAdd, Int.reduceSub, Int.reduceToNat, Int.reduceBEq, Int.reduceBNe, Int.reduceMul, Nat.reduceBEq, Nat.reduceBNe, Nat.reduceLT, Nat.reduceLeDiff, Nat.reduceMul, Nat.reduceEqDiff, WD, effB, effH, isPriv, isHeap, isImm, zbx, zby, zbz, chkO, setD, dslot, zca, zcb, zcc, zcd, ptrCells_some, F25, z1, hat.at1 (hf H'), hat.cells, a1, a2, a3, a4, buildOp, fillV, Lay.place, Bool.or_self, Bool.or_false, Bool.false_or, decide_not, ne_eq, not_true_eq_false, decide_eq_true_eq, Nat.lt_irrefl, buildSliceV, lits, srcV_eq, srcK_sl, srcK_str, srcSl_nils, srcSl_rsl, srcSl_sl, appendOp, frow, zbv, zbw, List.all_nil, List.all_cons, rowV, Bool.false_and, Bool.and_false, not_false_eq_true, grows_lr, callOut_t, (q1 []).cells1, (q2 []).cells1, (q3 []).cells1, (q4 []).cells1]
          refine wpCall_of (tryE (ns := [a.params, a.slots]) hN' hw hc hcw hC' (fun _ => .rsl _) (by simp) hE') ?_
          rintro out H2 ⟨rfl, hf2, hE2⟩
          rw [all2] at hE2
          have hN2 : ∀ i, N i → i < H2.length := fun i hi => Nat.lt_of_lt_of_le (hN' i hi) hf2.1
          have hC2 : H2[p + 1]? = some (.cells [.ptr p 0 0]) := Cw.fr hC' hc hcw hf2
          simp only [WW, partV, eqCells, eqLf, minV, maxV, ifcV, zaa, zab, zac, zad, zae, zaf, zag, zah, zai, ofConst, ofConst1, List.replicate, zaj, zak, loadOp, Go.Abs.loadCells, binV, zal, pickV, zam, zan, zao, zap, zaq, zar, zas, zat, zau, outR, resAll, resOne, zav, zaw, zax, zay, zaz, zba, zbb, zbc, zbd, zbe, zbf, zbg, zbh, zbi, zbj, zbk, storeOp, storeCell, overlay, zbl, zbm, zbn, lookupOp, keyT, okRes, mapUpdateOp, zbo, zbp, zbq, zbr, zbs, zbt, zbu, Nat.reduceSub, Nat.reduceAdd, Int.reduceLT, Int.reduceLE, Int.reduceAdd, Int.reduceSub, Int.reduceToNat, Int.reduceBEq, Int.reduceBNe, Int.reduceMul, Nat.reduceBEq, Nat.reduceBNe, Nat.reduceLT, Nat.reduceLeDiff, Nat.reduceMul, Nat.reduceEqDiff, WD, effB, effH, isPriv, isHeap, isImm, zbx, zby, zbz, chkO, setD, dslot, zca, zcb, zcc, zcd, ptrCells_some, F25, a1, a2, a3, a4]
          refine wpCall_of (tryE hN2 hw hc hcw hC2 q1 (by omega) hE2) ?_
          rintro out H3 ⟨rfl, hf3, hE3⟩
          have hfr3 := (hfr.trans hf2).trans hf3
          clear hE2 hE' hN2 hN' hC2 hC' hf2 hf3 hfr
          have lm2 : (a.caps.map capV).length = a.caps.length := List.length_map ..
          have lm3 : (a.code.map inV).length = a.code.length := List.length_map ..
          have lm4 : (a.tries.map tryV).length = a.tries.length := List.length_map ..
          simp only [WW, partV, eqCells, eqLf, minV, maxV, ifcV, zaa, zab, zac, zad, zae, zaf, zag, zah, zai, ofConst, ofConst1, List.replicate, zaj, zak, loadOp, Go.Abs.loadCells, binV, zal, pickV, zam, zan, zao, zap, zaq, zar, zas, zat, zau, outR, resAll, resOne, zav, zaw, zax, zay, zaz, zba, zbb, zbc, zbd, zbe, zbf, zbg, zbh, zbi, zbj, zbk, storeOp, storeCell, overlay, zbl, zbm, zbn, lookupOp, keyT, okRes, mapUpdateOp, zbo, zbp, zbq, zbr, zbs, zbt, zbu, Nat.reduceSub, Nat.reduceAdd, Int.reduceLT, Int.reduceLE, Int.reduceAdd, Int.reduceSub, Int.reduceToNat, Int.reduceBEq, Int.reduceBNe, Int.reduceMul, Nat.reduceBEq, Nat.reduceBNe, Nat.reduceLT, Nat.reduceLeDiff, Nat.reduceMul, Nat.reduceEqDiff, WD, effB, effH, isPriv, isHeap, isImm, zbx, zby, zbz, chkO, setD, dslot, zca, zcb, zcc, zcd, ptrCells_some, F25, a1, a2, a3, a4, (q2 H3).len, lm2]
          refine wC_loop _ (fun k st' H' => ∃ (j : Nat) (o' : Bool), st' = ⟨L25_15 (.v (.ptr (p + 1) 0 0)) (.v (.fn 57 [] [.ptr (p + 1) 0 0])) (.box 1) (.v fu) (.v (.int .i64 im.funs.length)) (.v (.int .i64 i)) (.v k2) (.v (.int .i64 a.caps.length)) (.v (.int .i64 j)), [[fu, st, ke, .int .i64 im.globals], [.int .i64 a.params, .int .i64 a.slots, k1, k2, k3, k4]], []⟩ ∧ j ≤ a.caps.length ∧ k = a.caps.length - j ∧ Fr0 N p H1 H' ∧ WrE H' N p o' 0 ∧ (o' && (a.caps.drop j).all capOk) = (((o && (plain a.params && plain a.slots)) && a.boxes.all plain) && a.caps.all capOk)) a.caps.length ⟨0, _, ?_, by omega, by omega, hfr3, hE3, rfl⟩ ?_
          · simp only [WN, firstReg, growAll, zbv, zbw, norm, killS, zag, zah, zaa, zab, zbl, zat, zad, growOne, zae, zaf, zac, zas, zak, Nat.reduceLT, Nat.reduceAdd, zbj, zav, F25, L25_15, (hf []).clip2, (q2 []).clip2, y1, y2, y3, b1, b2, b3, b4]
            rfl
          · clear hE3 hfr3
            rintro k st' H' ⟨j, o', rfl, hj, rfl, hfr, hE', he'⟩
            simp only [L25_15]
            simp only [WW, partV, eqCells, eqLf, minV, maxV, ifcV, zaa, zab, zac, zad, zae, zaf, zag, zah, zai, ofConst, ofConst1, List.replicate, zaj, zak, loadOp, Go.Abs.loadCells, binV, zal, pickV, zam, zan, zao, zap, zaq, zar, zas, zat, zau, outR, resAll, resOne, zav, zaw, zax, zay, zaz, zba, zbb, zbc, zbd, zbe, zbf, zbg, zbh, zbi, zbj, zbk, storeOp, storeCell, overlay, zbl, zbm, zbn, lookupOp, keyT, okRes, mapUpdateOp, zbo, zbp, zbq, zbr, zbs, zbt, zbu, Nat.reduceSub, Nat.reduceAdd, Int.reduceLT, Int.reduceLE, Int.reduceAdd, Int.reduceSub, Int.reduceToNat, Int.reduceBEq, Int.reduceBNe, Int.reduceMul, Nat.reduceBEq, Nat.reduceBNe, Nat.reduceLT, Nat.reduceLeDiff, Nat.reduceMul, Nat.reduceEqDiff, WD, effB, effH, isPriv, isHeap, isImm, zbx, zby, zbz, chkO, setD, dslot, zca, zcb, zcc, zcd, ptrCells_some, F25]
            have hN' : ∀ i, N i → i < H'.length := fun i hi => Nat.lt_of_lt_of_le (hN i hi) hfr.1
            have hC' : H'[p + 1]? = some (.cells [.ptr p 0 0]) := Cw.fr hC hc hcw hfr
            refine cSplit (fun hlt => ?_) (fun hge => ?_)
            · have hj2 : j < a.caps.length := by have := of_decide_eq_true hlt; omega
              have hsj : a.caps[j]? = some a.caps[j] := List.getElem?_eq_getElem hj2
              generalize a.caps[j] = y at hsj
              rw [drop_get hsj, List.all_cons, ← Bool.and_assoc] at he'
              simp only [hlt]
              have hat := (q2 H').at_ (sz := 2) (i := j) (e := .agg [.int .i64 y.1, .int .i64 y.2]) (by rw [List.getElem?_map, hsj]; rfl) rfl
              simp only [WW, partV, eqCells, eqLf, minV, maxV, ifcV, zaa, zab, zac, zad, zae, zaf, zag, zah, zai, ofConst, ofConst1, List.replicate, zaj, zak, loadOp, Go.Abs.loadCells, binV, zal, pickV, zam, zan, zao, zap, zaq, zar, zas, zat, zau, outR, resAll, resOne, zav, zaw, zax, zay, zaz, zba, zbb, zbc, zbd, zbe, zbf, zbg, zbh, zbi, zbj, zbk, storeOp, storeCell, overlay, zbl, zbm, zbn, lookupOp, keyT, okRes, mapUpdateOp, zbo, zbp, zbq, zbr, zbs, zbt, zbu, Nat.reduceSub, Nat.reduceAdd, Int.reduceLT, Int.reduceLE, Int.reduceAdd, Int.reduceSub, Int.reduceToNat, Int.reduceBEq, Int.reduceBNe, Int.reduceMul, Nat.reduceBEq, Nat.reduceBNe, Nat.reduceLT, Nat.reduceLeDiff, Nat.reduceMul, Nat.reduceEqDiff, WD, effB, effH, isPriv, isHeap, isImm, zbx, zby, zbz, chkO, setD, dslot, zca, zcb, zcc, zcd, ptrCells_some, F25, a2, hat.at1 (q2 H'), hat.cells, buildOp, fillV, Lay.place, Bool.or_self, Bool.or_false, Bool.false_or, decide_not, ne_eq, not_true_eq_false, decide_eq_true_eq, Nat.lt_irrefl, buildSliceV, lits, srcV_eq, srcK_sl, srcK_str, srcSl_nils, srcSl_rsl, srcSl_sl, appendOp, frow, zbv, zbw, List.all_nil, List.all_cons, rowV, Bool.false_and, Bool.and_false, not_false_eq_true, grows_lr, callOut_t]
              refine wpCall_of (tryE (ns := [y.1, y.2]) hN' hw hc hcw hC' (fun _ => .rsl _) (by simp) hE') ?_
              rintro out H2 ⟨rfl, hf2, hE2⟩
              rw [all2] at hE2
              simp only [WW, partV, eqCells, eqLf, minV, maxV, ifcV, zaa, zab, zac, zad, zae, zaf, zag, zah, zai, ofConst, ofConst1, List.replicate, zaj, zak, loadOp, Go.Abs.loadCells, binV, zal, pickV, zam, zan, zao, zap, zaq, zar, zas, zat, zau, outR, resAll, resOne, zav, zaw, zax, zay, zaz, zba, zbb, zbc, zbd, zbe, zbf, zbg, zbh, zbi, zbj, zbk, storeOp, storeCell, overlay, zbl, zbm, zbn, lookupOp, keyT, okRes, mapUpdateOp, zbo, zbp, zbq, zbr, zbs, zbt, zbu, Nat.reduceSub, Nat.reduceAdd, Int.reduceLT, Int.reduceLE, Int.reduceAdd, Int.reduceSub, Int.reduceToNat, Int.reduceBEq, Int.reduceBNe, Int.reduceMul, Nat.reduceBEq, Nat.reduceBNe, Nat.reduceLT, Nat.reduceLeDiff, Nat.reduceMul, Nat.reduceEqDiff, WD, effB, effH, isPriv, isHeap, isImm, zbx, zby, zbz, chkO, setD, dslot, zca, zcb, zcc, zcd, ptrCells_some, F25]
              refine ⟨a.caps.length - (j + 1), by omega, j + 1, _, ?_, by omega, rfl, hfr.trans hf2, hE2, he'⟩
              simp only [WN, firstReg, growAll, zbv, zbw, norm, killS, zag, zah, zaa, zab, zbl, zat, zad, growOne, zae, zaf, zac, zas, zak, Nat.reduceLT, Nat.reduceAdd, zbj, zav, F25, (hf []).clip2, (q2 []).clip2, y1, y2, y3, b1, b2, b3, b4]
              rw [IntWalk.i64_in ((j : Int) + 1) (by omega)]; rfl
            · have hj2 : j = a.caps.length := by have := of_decide_eq_false hge; omega
              rw [hj2, List.drop_length, List.all_nil, Bool.and_true] at he'
              subst he'
              simp only [hge]
              clear hN' hC' hj2 hge hj
              simp only [WW, partV, eqCells, eqLf, minV, maxV, ifcV, zaa, zab, zac, zad, zae, zaf, zag, zah, zai, ofConst, ofConst1, List.replicate, zaj, zak, loadOp, Go.Abs.loadCells, binV, zal, pickV, zam, zan, zao, zap, zaq, zar, zas, zat, zau, outR, resAll, resOne, zav, zaw, zax, zay, zaz, zba, zbb, zbc, zbd, zbe, zbf, zbg, zbh, zbi, zbj, zbk, storeOp, storeCell, overlay, zbl, zbm, zbn, lookupOp, keyT, okRes, mapUpdateOp, zbo, zbp, zbq, zbr, zbs, zbt, zbu, Nat.reduceSub, Nat.reduceAdd, Int.reduceLT, Int.reduceLE, Int.reduceAdd, Int.reduceSub, Int.reduceToNat, Int.reduceBEq, Int.reduceBNe, Int.reduceMul, Nat.reduceBEq, Nat.reduceBNe, Nat.reduceLT, Nat.reduceLeDiff, Nat.reduceMul, Nat.reduceEqDiff, WD, effB, effH, isPriv, isHeap, isImm, zbx, zby, zbz, chkO, setD, dslot, zca, zcb, zcc, zcd, ptrCells_some, F25, a1, a2, a3, a4, (q3 H').len, lm3]
              refine wC_loop _ (fun k st' H' => ∃ (j : Nat) (o' : Bool), st' = ⟨L25_20 (.v (.ptr (p + 1) 0 0)) (.v (.fn 57 [] [.ptr (p + 1) 0 0])) (.box 1) (.v fu) (.v (.int .i64 im.funs.length)) (.v (.int .i64 i)) (.v k3) (.v (.int .i64 a.code.length)) (.v (.int .i64 j)), [[fu, st, ke, .int .i64 im.globals], [.int .i64 a.params, .int .i64 a.slots, k1, k2, k3, k4]], []⟩ ∧ j ≤ a.code.length ∧ k = a.code.length - j ∧ Fr0 N p H1 H' ∧ WrE H' N p o' 0 ∧ (o' && (a.code.drop j).all inOk) = ((((o && (plain a.params && plain a.slots)) && a.boxes.all plain) && a.caps.all capOk) && a.code.all inOk)) a.code.length ⟨0, _, ?_, by omega, by omega, hfr, hE', rfl⟩ ?_
              · simp only [WN, firstReg, growAll, zbv, zbw, norm, killS, zag, zah, zaa, zab, zbl, zat, zad, growOne, zae, zaf, zac, zas, zak, Nat.reduceLT, Nat.reduceAdd, zbj, zav, F25, L25_20, (hf []).clip2, (q3 []).clip2, y1, y2, y3, b1, b2, b3, b4]
                rfl
              · clear hE' hfr
                rintro k st' H' ⟨j, o', rfl, hj, rfl, hfr, hE', he'⟩
                simp only [L25_20]
                simp only [WW, partV, eqCells, eqLf, minV, maxV, ifcV, zaa, zab, zac, zad, zae, zaf, zag, zah, zai, ofConst, ofConst1, List.replicate, zaj, zak, loadOp, Go.Abs.loadCells, binV, zal, pickV, zam, zan, zao, zap, zaq, zar, zas, zat, zau, outR, resAll, resOne, zav, zaw, zax, zay, zaz, zba, zbb, zbc, zbd, zbe, zbf, zbg, zbh, zbi, zbj, zbk, storeOp, storeCell, overlay, zbl, zbm, zbn, lookupOp, keyT, okRes, mapUpdateOp, zbo, zbp, zbq, zbr, zbs, zbt, zbu, Nat.reduceSub, Nat.reduceAdd, Int.reduceLT, Int.reduceLE, Int.reduceAdd, Int.reduceSub, Int.reduceToNat, Int.reduceBEq, Int.reduceBNe, Int.reduceMul, Nat.reduceBEq, Nat.reduceBNe, Nat.reduceLT, Nat.reduceLeDiff, Nat.reduceMul, Nat.reduceEqDiff, WD, effB, effH, isPriv, isHeap, isImm, zbx, zby, zbz, chkO, setD, dslot, zca, zcb, zcc, zcd, ptrCells_some, F25]
                have hN' : ∀ i, N i → i < H'.length := fun i hi => Nat.lt_of_lt_of_le (hN i hi) hfr.1
                have hC' : H'[p + 1]? = some (.cells [.ptr p 0 0]) := Cw.fr hC hc hcw hfr
                refine cSplit (fun hlt => ?_) (fun hge => ?_)
                · have hj2 : j < a.code.length := by have := of_decide_eq_true hlt; omega
                  have hsj : a.code[j]? = some a.code[j] := List.getElem?_eq_getElem hj2
                  generalize a.code[j] = y at hsj
                  rw [drop_get hsj, List.all_cons, ← Bool.and_assoc] at he'
                  simp only [hlt]
                  have hat := (q3 H').at_ (sz := 3) (i := j) (e := .agg [.int .i64 y.1, .int .i64 y.2.1, .int .i64 y.2.2]) (by rw [List.getElem?_map, hsj]; rfl) rfl
                  simp only [WW, partV, eqCells, eqLf, minV, maxV, ifcV, zaa, zab, zac, zad, zae, zaf, zag, zah, zai, ofConst, ofConst1, List.replicate, zaj, zak, loadOp, Go.Abs.loadCells, binV, zal, pickV, zam, zan, zao, zap, zaq, zar, zas, zat, zau, outR, resAll, resOne, zav, zaw, zax, zay, zaz, zba, zbb, zbc, zbd, zbe, zbf, zbg, zbh, zbi, zbj, zbk, storeOp, storeCell, overlay, zbl, zbm, zbn, lookupOp, keyT, okRes, mapUpdateOp, zbo, zbp, zbq, zbr, zbs, zbt, zbu, Nat.reduceSub, Nat.reduceAdd, Int.reduceLT, Int.reduceLE, Int.reduceAdd, Int.reduceSub, Int.reduceToNat, Int.reduceBEq, Int.reduceBNe, Int.reduceMul, Nat.reduceBEq, Nat.reduceBNe, Nat.reduceLT, Nat.reduceLeDiff, Nat.reduceMul, Nat.reduceEqDiff, WD, effB, effH, isPriv, isHeap, isImm, zbx, zby, zbz, chkO, setD, dslot, zca, zcb, zcc, zcd, ptrCells_some, F25, a3, hat.at1 (q3 H'), hat.cells, buildOp, fillV, Lay.place, Bool.or_self, Bool.or_false, Bool.false_or, decide_not, ne_eq, not_true_eq_false, decide_eq_true_eq, Nat.lt_irrefl, buildSliceV, lits, srcV_eq, srcK_sl, srcK_str, srcSl_nils, srcSl_rsl, srcSl_sl, appendOp, frow, zbv, zbw, List.all_nil, List.all_cons, rowV, Bool.false_and, Bool.and_false, not_false_eq_true, grows_lr, callOut_t]
                  refine wpCall_of (tryE (ns := [y.1]) hN' hw hc hcw hC' (fun _ => .rsl _) (by simp) hE') ?_
                  rintro out H2 ⟨rfl, hf2, hE2⟩
                  rw [all1] at hE2
                  have hN2 : ∀ i, N i → i < H2.length := fun i hi => Nat.lt_of_lt_of_le (hN' i hi) hf2.1
                  have hC2 : H2[p + 1]? = some (.cells [.ptr p 0 0]) := Cw.fr hC' hc hcw hf2
                  simp only [WW, partV, eqCells, eqLf, minV, maxV, ifcV, zaa, zab, zac, zad, zae, zaf, zag, zah, zai, ofConst, ofConst1, List.replicate, zaj, zak, loadOp, Go.Abs.loadCells, binV, zal, pickV, zam, zan, zao, zap, zaq, zar, zas, zat, zau, outR, resAll, resOne, zav, zaw, zax, zay, zaz, zba, zbb, zbc, zbd, zbe, zbf, zbg, zbh, zbi, zbj, zbk, storeOp, storeCell, overlay, zbl, zbm, zbn, lookupOp, keyT, okRes, mapUpdateOp, zbo, zbp, zbq, zbr, zbs, zbt, zbu, Nat.reduceSub, Nat.reduceAdd, Int.reduceLT, Int.reduceLE, Int.reduceAdd, Int.reduceSub, Int.reduceToNat, Int.reduceBEq, Int.reduceBNe, Int.reduceMul, Nat.reduceBEq, Nat.reduceBNe, Nat.reduceLT, Nat.reduceLeDiff, Nat.reduceMul, Nat.reduceEqDiff, WD, effB, effH, isPriv, isHeap, isImm, zbx, zby, zbz, chkO, setD, dslot, zca, zcb, zcc, zcd, ptrCells_some, F25, hC2]
                  refine wpCall_of (sgnE hN2 hw hE2 (by omega) y.2.1) ?_
                  rintro out H3 ⟨rfl, hf3, hE3⟩
                  have hN3 : ∀ i, N i → i < H3.length := fun i hi => Nat.lt_of_lt_of_le (hN2 i hi) hf3.1
                  have hC3 : H3[p + 1]? = some (.cells [.ptr p 0 0]) := Cw.fr hC2 hc hcw hf3
                  simp only [WW, partV, eqCells, eqLf, minV, maxV, ifcV, zaa, zab, zac, zad, zae, zaf, zag, zah, zai, ofConst, ofConst1, List.replicate, zaj, zak, loadOp, Go.Abs.loadCells, binV, zal, pickV, zam, zan, zao, zap, zaq, zar, zas, zat, zau, outR, resAll, resOne, zav, zaw, zax, zay, zaz, zba, zbb, zbc, zbd, zbe, zbf, zbg, zbh, zbi, zbj, zbk, storeOp, storeCell, overlay, zbl, zbm, zbn, lookupOp, keyT, okRes, mapUpdateOp, zbo, zbp, zbq, zbr, zbs, zbt, zbu, Nat.reduceSub, Nat.reduceAdd, Int.reduceLT, Int.reduceLE, Int.reduceAdd, Int.reduceSub, Int.reduceToNat, Int.reduceBEq, Int.reduceBNe, Int.reduceMul, Nat.reduceBEq, Nat.reduceBNe, Nat.reduceLT, Nat.reduceLeDiff, Nat.reduceMul, Nat.reduceEqDiff, WD, effB, effH, isPriv, isHeap, isImm, zbx, zby, zbz, chkO, setD, dslot, zca, zcb, zcc, zcd, ptrCells_some, F25, hC3]
                  refine wpCall_of (sgnE hN3 hw hE3 (by omega) y.2.2) ?_
                  rintro out H4 ⟨rfl, hf4, hE4⟩
                  have hN4 : ∀ i, N i → i < H4.length := fun i hi => Nat.lt_of_lt_of_le (hN3 i hi) hf4.1
                  have hC4 : H4[p + 1]? = some (.cells [.ptr p 0 0]) := Cw.fr hC3 hc hcw hf4
                  have he2 : (o' && inOk y) = (((o' && plain y.1) && signedOk y.2.1) && signedOk y.2.2) := by simp only [inOk, Bool.and_assoc]
                  rw [he2] at he'
                  simp only [WW, partV, eqCells, eqLf, minV, maxV, ifcV, zaa, zab, zac, zad, zae, zaf, zag, zah, zai, ofConst, ofConst1, List.replicate, zaj, zak, loadOp, Go.Abs.loadCells, binV, zal, pickV, zam, zan, zao, zap, zaq, zar, zas, zat, zau, outR, resAll, resOne, zav, zaw, zax, zay, zaz, zba, zbb, zbc, zbd, zbe, zbf, zbg, zbh, zbi, zbj, zbk, storeOp, storeCell, overlay, zbl, zbm, zbn, lookupOp, keyT, okRes, mapUpdateOp, zbo, zbp, zbq, zbr, zbs, zbt, zbu, Nat.reduceSub, Nat.reduceAdd, Int.reduceLT, Int.reduceLE, Int.reduceAdd, Int.reduceSub, Int.reduceToNat, Int.reduceBEq, Int.reduceBNe, Int.reduceMul, Nat.reduceBEq, Nat.reduceBNe, Nat.reduceLT, Nat.reduceLeDiff, Nat.reduceMul, Nat.reduceEqDiff, WD, effB, effH, isPriv, isHeap, isImm, zbx, zby, zbz, chkO, setD, dslot, zca, zcb, zcc, zcd, ptrCells_some, F25]
                  refine wC_dr alts25_25 (by kernel_rfl) ?_
                  obtain ⟨x, l, hx, hb, hl⟩ := hE4
                  obtain ⟨x9, hcut, hx9⟩ := cut0 hx
                  generalize (((o' && plain y.1) && signedOk y.2.1) && signedOk y.2.2) = o9 at *
                  have hb3 : (H4.set p (.cells [.agg [x9, .int .i64 (eI o9)]]))[p]? = some (.cells [.agg [x9, .int .i64 (eI o9)]]) := List.getElem?_set_self (hN4 p hw)
                  simp only [WW, partV, eqCells, eqLf, minV, maxV, ifcV, zaa, zab, zac, zad, zae, zaf, zag, zah, zai, ofConst, ofConst1, List.replicate, zaj, zak, loadOp, Go.Abs.loadCells, binV, zal, pickV, zam, zan, zao, zap, zaq, zar, zas, zat, zau, outR, resAll, resOne, zav, zaw, zax, zay, zaz, zba, zbb, zbc, zbd, zbe, zbf, zbg, zbh, zbi, zbj, zbk, storeOp, storeCell, overlay, zbl, zbm, zbn, lookupOp, keyT, okRes, mapUpdateOp, zbo, zbp, zbq, zbr, zbs, zbt, zbu, Nat.reduceSub, Nat.reduceAdd, Int.reduceLT, Int.reduceLE, Int.reduceAdd, Int.reduceSub, Int.reduceToNat, Int.reduceBEq, Int.reduceBNe, Int.reduceMul, Nat.reduceBEq, Nat.reduceBNe, Nat.reduceLT, Nat.reduceLeDiff, Nat.reduceMul, Nat.reduceEqDiff, WD, effB, effH, isPriv, isHeap, isImm, zbx, zby, zbz, chkO, setD, dslot, zca, zcb, zcc, zcd, ptrCells_some, F25, hC4, hb, alts25_25, Option.map_none, hcut, storeHeap, hx9.prom, heapSet, elemSet, hx9.shut, hx9.cells1, hx9.ok, hx9.width1]
                  have hfr4 := ((hfr.trans hf2).trans hf3).trans hf4
                  refine ⟨a.code.length - (j + 1), by omega, j + 1, o9, ?_, by omega, rfl, ⟨?_, fun i h4 h5 => ?_⟩, ⟨x9, [], hx9.set hw _, hb3, by simp⟩, he'⟩
                  · simp only [WN, firstReg, growAll, zbv, zbw, norm, killS, zag, zah, zaa, zab, zbl, zat, zad, growOne, zae, zaf, zac, zas, zak, Nat.reduceLT, Nat.reduceAdd, zbj, zav, F25, (hf []).clip2, (q3 []).clip2, y1, y2, y3, b1, b2, b3, b4]
                    rw [IntWalk.i64_in ((j : Int) + 1) (by omega)]; rfl
                  · rw [List.length_set]; exact hfr4.1
                  · rw [List.getElem?_set, if_neg (fun h => h5 h.symm)]; exact hfr4.2 i h4 h5
                · have hj2 : j = a.code.length := by have := of_decide_eq_false hge; omega
                  rw [hj2, List.drop_length, List.all_nil, Bool.and_true] at he'
                  subst he'
                  simp only [hge]
                  clear hN' hC' hj2 hge hj
                  simp only [WW, partV, eqCells, eqLf, minV, maxV, ifcV, zaa, zab, zac, zad, zae, zaf, zag, zah, zai, ofConst, ofConst1, List.replicate, zaj, zak, loadOp, Go.Abs.loadCells, binV, zal, pickV, zam, zan, zao, zap, zaq, zar, zas, zat, zau, outR, resAll, resOne, zav, zaw, zax, zay, zaz, zba, zbb, zbc, zbd, zbe, zbf, zbg, zbh, zbi, zbj, zbk, storeOp, storeCell, overlay, zbl, zbm, zbn, lookupOp, keyT, okRes, mapUpdateOp, zbo, zbp, zbq, zbr, zbs, zbt, zbu, Nat.reduceSub, Nat.reduceAdd, Int.reduceLT, Int.reduceLE, Int.reduceAdd, Int.reduceSub, Int.reduceToNat, Int.reduceBEq, Int.reduceBNe, Int.reduceMul, Nat.reduceBEq, Nat.reduceBNe, Nat.reduceLT, Nat.reduceLeDiff, Nat.reduceMul, Nat.reduceEqDiff, WD, effB, effH, isPriv, isHeap, isImm, zbx, zby, zbz, chkO, setD, dslot, zca, zcb, zcc, zcd, ptrCells_some, F25, a1, a2, a3, a4, (q4 H').len, lm4]
                  refine wC_loop _ (fun k st' H' => ∃ (j : Nat) (o' : Bool), st' = ⟨L25_28 (.v (.ptr (p + 1) 0 0)) (.v (.fn 57 [] [.ptr (p + 1) 0 0])) (.v fu) (.v (.int .i64 im.funs.length)) (.v (.int .i64 i)) (.v k4) (.v (.int .i64 a.tries.length)) (.v (.int .i64 j)), [[fu, st, ke, .int .i64 im.globals], [.int .i64 a.params, .int .i64 a.slots, k1, k2, k3, k4]], []⟩ ∧ j ≤ a.tries.length ∧ k = a.tries.length - j ∧ Fr0 N p H1 H' ∧ WrE H' N p o' 0 ∧ (o' && (a.tries.drop j).all tryOk) = (((((o && (plain a.params && plain a.slots)) && a.boxes.all plain) && a.caps.all capOk) && a.code.all inOk) && a.tries.all tryOk)) a.tries.length ⟨0, _, ?_, by omega, by omega, hfr, hE', rfl⟩ ?_
                  · simp only [WN, firstReg, growAll, zbv, zbw, norm, killS, zag, zah, zaa, zab, zbl, zat, zad, growOne, zae, zaf, zac, zas, zak, Nat.reduceLT, Nat.reduceAdd, zbj, zav, F25, L25_28, (hf []).clip2, (q4 []).clip2, y1, y2, y3, b1, b2, b3, b4]
                    rfl
                  · clear hE' hfr
                    rintro k st' H' ⟨j, o', rfl, hj, rfl, hfr, hE', he'⟩
                    simp only [L25_28]
                    simp only [WW, partV, eqCells, eqLf, minV, maxV, ifcV, zaa, zab, zac, zad, zae, zaf, zag, zah, zai, ofConst, ofConst1, List.replicate, zaj, zak, loadOp, Go.Abs.loadCells, binV, zal, pickV, zam, zan, zao, zap, zaq, zar, zas, zat, zau, outR, resAll, resOne, zav, zaw, zax, zay, zaz, zba, zbb, zbc, zbd, zbe, zbf, zbg, zbh, zbi, zbj, zbk, storeOp, storeCell, overlay, zbl, zbm, zbn, lookupOp, keyT, okRes, mapUpdateOp, zbo, zbp, zbq, zbr, zbs, zbt, zbu, Nat.reduceSub, Nat.reduceAdd, Int.reduceLT, Int.reduceLE, Int.reduceAdd, Int.reduceSub, Int.reduceToNat, Int.reduceBEq, Int.reduceBNe, Int.reduceMul, Nat.reduceBEq, Nat.reduceBNe, Nat.reduceLT, Nat.reduceLeDiff, Nat.reduceMul, Nat.reduceEqDiff, WD, effB, effH, isPriv, isHeap, isImm, zbx, zby, zbz, chkO, setD, dslot, zca, zcb, zcc, zcd, ptrCells_some, F25]
                    have hN' : ∀ i, N i → i < H'.length := fun i hi => Nat.lt_of_lt_of_le (hN i hi) hfr.1
                    have hC' : H'[p + 1]? = some (.cells [.ptr p 0 0]) := Cw.fr hC hc hcw hfr
                    refine cSplit (fun hlt => ?_) (fun hge => ?_)
                    · have hj2 : j < a.tries.length := by have := of_decide_eq_true hlt; omega
                      have hsj : a.tries[j]? = some a.tries[j] := List.getElem?_eq_getElem hj2
                      generalize a.tries[j] = y at hsj
                      rw [drop_get hsj, List.all_cons, ← Bool.and_assoc] at he'
                      simp only [hlt]
                      have hat := (q4 H').at_ (sz := 4) (i := j) (e := .agg [.int .i64 y.1, .int .i64 y.2.1, .int .i64 y.2.2.1, .int .i64 y.2.2.2]) (by rw [List.getElem?_map, hsj]; rfl) rfl
                      simp only [WW, partV, eqCells, eqLf, minV, maxV, ifcV, zaa, zab, zac, zad, zae, zaf, zag, zah, zai, ofConst, ofConst1, List.replicate, zaj, zak, loadOp, Go.Abs.loadCells, binV, zal, pickV, zam, zan, zao, zap, zaq, zar, zas, zat, zau, outR, resAll, resOne, zav, zaw, zax, zay, zaz, zba, zbb, zbc, zbd, zbe, zbf, zbg, zbh, zbi, zbj, zbk, storeOp, storeCell, overlay, zbl, zbm, zbn, lookupOp, keyT, okRes, mapUpdateOp, zbo, zbp, zbq, zbr, zbs, zbt, zbu, Nat.reduceSub, Nat.reduceAdd, Int.reduceLT, Int.reduceLE, Int.reduceAdd, Int.reduceSub, Int.reduceToNat, Int.reduceBEq, Int.reduceBNe, Int.reduceMul, Nat.reduceBEq, Nat.reduceBNe, Nat.reduceLT, Nat.reduceLeDiff, Nat.reduceMul, Nat.reduceEqDiff, WD, effB, effH, isPriv, isHeap, isImm, zbx, zby, zbz, chkO, setD, dslot, zca, zcb, zcc, zcd, ptrCells_some, F25, a4, hat.at1 (q4 H'), hat.cells, buildOp, fillV, Lay.place, Bool.or_self, Bool.or_false, Bool.false_or, decide_not, ne_eq, not_true_eq_false, decide_eq_true_eq, Nat.lt_irrefl, buildSliceV, lits, srcV_eq, srcK_sl, srcK_str, srcSl_nils, srcSl_rsl, srcSl_sl, appendOp, frow, zbv, zbw, List.all_nil, List.all_cons, rowV, Bool.false_and, Bool.and_false, not_false_eq_true, grows_lr, callOut_t]
                      refine wpCall_of (tryE (ns := [y.1, y.2.1, y.2.2.1, y.2.2.2]) hN' hw hc hcw hC' (fun _ => .rsl _) (by simp) hE') ?_
                      rintro out H2 ⟨rfl, hf2, hE2⟩
                      rw [all4] at hE2
                      simp only [WW, partV, eqCells, eqLf, minV, maxV, ifcV, zaa, zab, zac, zad, zae, zaf, zag, zah, zai, ofConst, ofConst1, List.replicate, zaj, zak, loadOp, Go.Abs.loadCells, binV, zal, pickV, zam, zan, zao, zap, zaq, zar, zas, zat, zau, outR, resAll, resOne, zav, zaw, zax, zay, zaz, zba, zbb, zbc, zbd, zbe, zbf, zbg, zbh, zbi, zbj, zbk, storeOp, storeCell, overlay, zbl, zbm, zbn, lookupOp, keyT, okRes, mapUpdateOp, zbo, zbp, zbq, zbr, zbs, zbt, zbu, Nat.reduceSub, Nat.reduceAdd, Int.reduceLT, Int.reduceLE, Int.reduceAdd, Int.reduceSub, Int.reduceToNat, Int.reduceBEq, Int.reduceBNe, Int.reduceMul, Nat.reduceBEq, Nat.reduceBNe, Nat.reduceLT, Nat.reduceLeDiff, Nat.reduceMul, Nat.reduceEqDiff, WD, effB, effH, isPriv, isHeap, isImm, zbx, zby, zbz, chkO, setD, dslot, zca, zcb, zcc, zcd, ptrCells_some, F25]
                      refine ⟨a.tries.length - (j + 1), by omega, j + 1, _, ?_, by omega, rfl, hfr.trans hf2, hE2, he'⟩
                      simp only [WN, firstReg, growAll, zbv, zbw, norm, killS, zag, zah, zaa, zab, zbl, zat, zad, growOne, zae, zaf, zac, zas, zak, Nat.reduceLT, Nat.reduceAdd, zbj, zav, F25, (hf []).clip2, (q4 []).clip2, y1, y2, y3, b1, b2, b3, b4]
                      rw [IntWalk.i64_in ((j : Int) + 1) (by omega)]; rfl
                    · have hj2 : j = a.tries.length := by have := of_decide_eq_false hge; omega
                      rw [hj2, List.drop_length, List.all_nil, Bool.and_true] at he'
                      subst he'
                      simp only [hge]
                      simp only [WW, partV, eqCells, eqLf, minV, maxV, ifcV, zaa, zab, zac, zad, zae, zaf, zag, zah, zai, ofConst, ofConst1, List.replicate, zaj, zak, loadOp, Go.Abs.loadCells, binV, zal, pickV, zam, zan, zao, zap, zaq, zar, zas, zat, zau, outR, resAll, resOne, zav, zaw, zax, zay, zaz, zba, zbb, zbc, zbd, zbe, zbf, zbg, zbh, zbi, zbj, zbk, storeOp, storeCell, overlay, zbl, zbm, zbn, lookupOp, keyT, okRes, mapUpdateOp, zbo, zbp, zbq, zbr, zbs, zbt, zbu, Nat.reduceSub, Nat.reduceAdd, Int.reduceLT, Int.reduceLE, Int.reduceAdd, Int.reduceSub, Int.reduceToNat, Int.reduceBEq, Int.reduceBNe, Int.reduceMul, Nat.reduceBEq, Nat.reduceBNe, Nat.reduceLT, Nat.reduceLeDiff, Nat.reduceMul, Nat.reduceEqDiff, WD, effB, effH, isPriv, isHeap, isImm, zbx, zby, zbz, chkO, setD, dslot, zca, zcb, zcc, zcd, ptrCells_some, F25]
                      have he2 : (o && fnOk a) = (((((o && (plain a.params && plain a.slots)) && a.boxes.all plain) && a.caps.all capOk) && a.code.all inOk) && a.tries.all tryOk) := by simp only [fnOk, Bool.and_assoc]
                      rw [he2] at he
                      refine ⟨im.funs.length - (i + 1), by omega, i + 1, _, ?_, by omega, rfl, hfr, hE', he⟩
                      simp only [WN, firstReg, growAll, zbv, zbw, norm, killS, zag, zah, zaa, zab, zbl, zat, zad, growOne, zae, zaf, zac, zas, zak, Nat.reduceLT, Nat.reduceAdd, zbj, zav, F25, (hf []).clip2, y1, y2, y3, b1, b2, b3, b4]
                      rw [IntWalk.i64_in ((i : Int) + 1) (by omega)]; rfl
        · have hi2 : i = im.funs.length := by have := of_decide_eq_false hge; omega
          rw [hi2, List.drop_length, List.all_nil, Bool.and_true] at he
          subst he
          simp only [hge]
          obtain ⟨x, l, hx, hb, hl⟩ := hE'
          have hee : (eI (imOk im) != 0) = !imOk im := by cases imOk im <;> rfl
          simp only [WW, partV, eqCells, eqLf, minV, maxV, ifcV, zaa, zab, zac, zad, zae, zaf, zag, zah, zai, ofConst, ofConst1, List.replicate, zaj, zak, loadOp, Go.Abs.loadCells, binV, zal, pickV, zam, zan, zao, zap, zaq, zar, zas, zat, zau, outR, resAll, resOne, zav, zaw, zax, zay, zaz, zba, zbb, zbc, zbd, zbe, zbf, zbg, zbh, zbi, zbj, zbk, storeOp, storeCell, overlay, zbl, zbm, zbn, lookupOp, keyT, okRes, mapUpdateOp, zbo, zbp, zbq, zbr, zbs, zbt, zbu, Nat.reduceSub, Nat.reduceAdd, Int.reduceLT, Int.reduceLE, Int.reduceAdd, Int.reduceSub, Int.reduceToNat, Int.reduceBEq, Int.reduceBNe, Int.reduceMul, Nat.reduceBEq, Nat.reduceBNe, Nat.reduceLT, Nat.reduceLeDiff, Nat.reduceMul, Nat.reduceEqDiff, WD, effB, effH, isPriv, isHeap, isImm, zbx, zby, zbz, chkO, setD, dslot, zca, zcb, zcc, zcd, ptrCells_some, F25, hC', hb, hee]
          exact hOf _ hfr
end Go.Proofs.YtgjobbmbbedecaaDoor
