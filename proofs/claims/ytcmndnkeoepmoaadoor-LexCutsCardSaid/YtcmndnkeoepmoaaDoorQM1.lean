/- A part of the proofs over this seat. -/
import Derived.Test.YtcmndnkeoepmoaaDoorQC0
import Derived.Test.YtcmndnkeoepmoaaDoorQAbsTv
import Derived.Test.YtcmndnkeoepmoaaDoorQAbsSl
namespace Go.Proofs.YtcmndnkeoepmoaaDoor
open Go Go.Abs Go.Proofs
set_option maxRecDepth 100000
set_option maxHeartbeats 2000000
set_option linter.unusedVariables false
set_option linter.unusedSimpArgs false
noncomputable abbrev EW := evW Tryd.prog notes
def letterB (c : Int) : Bool := (decide (97 ≤ c) && decide (c ≤ 122)) || ((decide (65 ≤ c) && decide (c ≤ 90)) || (c == 95))
def digitB (c : Int) : Bool := decide (48 ≤ c) && decide (c ≤ 57)
theorem num_eq (n : Int) (H : Hp) : EW 13 [.int .i64 n] H = some (.ret (.int .i64 n) false, H) := by
  refine eqOf (runs f13 b13 r13 n13 _ _ ?_)
  simp only [bodyOf, Tryd.f13, Option.getD_some]
  repeat' (first | simp only [WW, partV, eqCells, eqLf, minV, maxV, ifcV, zaa, zab, zac, zad, zae, zaf, zag, zah, zai, ofConst, ofConst1, List.replicate, zaj, zak, loadOp, Go.Abs.loadCells, binV, zal, pickV, zam, zan, zao, zap, zaq, zar, zas, zat, zau, outR, resAll, resOne, zav, zaw, zax, zay, zaz, zba, zbb, zbc, zbd, zbe, zbf, zbg, zbh, zbi, zbj, zbk, storeOp, storeCell, overlay, zbl, zbm, zbn, lookupOp, keyT, okRes, mapUpdateOp, zbo, zbp, zbq, zbr, zbs, zbt, zbu, Nat.reduceSub, Nat.reduceAdd, Int.reduceLT, Int.reduceLE, Int.reduceAdd, Int.reduceSub, Int.reduceToNat, Int.reduceBEq, Int.reduceBNe, Int.reduceMul, Nat.reduceBEq, Nat.reduceBNe, Nat.reduceLT, Nat.reduceLeDiff, Nat.reduceMul, Nat.reduceEqDiff, WD, effB, effH, isPriv, isHeap, isImm, zbx, zby, zbz, chkO, setD, dslot, zca, zcb, zcc, zcd, ptrCells_some, convertOp] | refine wC_dr [] (by kernel_rfl) ?_ | refine cSplit (fun hb => ?_) (fun hb => ?_) | refine gSplit (fun hb => ?_) (fun hb => ?_))
theorem letter_eq (c : Int) (H : Hp) : EW 28 [.int .u8 c] H = some (.ret (.bool (letterB c)) false, H) := by
  refine eqOf (runsP f28 b28 r28 n28 _ rfl _ ?_)
  simp only [bodyOf, Tryd.f28, Option.getD_some]
  repeat' (first | simp only [WW, partV, eqCells, eqLf, minV, maxV, ifcV, zaa, zab, zac, zad, zae, zaf, zag, zah, zai, ofConst, ofConst1, List.replicate, zaj, zak, loadOp, Go.Abs.loadCells, binV, zal, pickV, zam, zan, zao, zap, zaq, zar, zas, zat, zau, outR, resAll, resOne, zav, zaw, zax, zay, zaz, zba, zbb, zbc, zbd, zbe, zbf, zbg, zbh, zbi, zbj, zbk, storeOp, storeCell, overlay, zbl, zbm, zbn, lookupOp, keyT, okRes, mapUpdateOp, zbo, zbp, zbq, zbr, zbs, zbt, zbu, Nat.reduceSub, Nat.reduceAdd, Int.reduceLT, Int.reduceLE, Int.reduceAdd, Int.reduceSub, Int.reduceToNat, Int.reduceBEq, Int.reduceBNe, Int.reduceMul, Nat.reduceBEq, Nat.reduceBNe, Nat.reduceLT, Nat.reduceLeDiff, Nat.reduceMul, Nat.reduceEqDiff, WD, effB, effH, isPriv, isHeap, isImm, zbx, zby, zbz, chkO, setD, dslot, zca, zcb, zcc, zcd, ptrCells_some, F28, *] | refine wC_dr [] (by kernel_rfl) ?_ | refine cSplit (fun hb => ?_) (fun hb => ?_) | refine gSplit (fun hb => ?_) (fun hb => ?_))
  all_goals simp only [letterB, noHeapO, noHeap, noHeapL, zbp, zbq, Bool.false_and, Bool.and_false, Bool.true_or, Bool.or_true, Bool.false_or, Bool.or_false, zbr, zbs, zbo, Bool.or_self, zcd, zay, zax, zav, zaw, zba, zaz, *]
theorem digit_eq (c : Int) (H : Hp) : EW 29 [.int .u8 c] H = some (.ret (.bool (digitB c)) false, H) := by
  refine eqOf (runsP f29 b29 r29 n29 _ rfl _ ?_)
  simp only [bodyOf, Tryd.f29, Option.getD_some]
  repeat' (first | simp only [WW, partV, eqCells, eqLf, minV, maxV, ifcV, zaa, zab, zac, zad, zae, zaf, zag, zah, zai, ofConst, ofConst1, List.replicate, zaj, zak, loadOp, Go.Abs.loadCells, binV, zal, pickV, zam, zan, zao, zap, zaq, zar, zas, zat, zau, outR, resAll, resOne, zav, zaw, zax, zay, zaz, zba, zbb, zbc, zbd, zbe, zbf, zbg, zbh, zbi, zbj, zbk, storeOp, storeCell, overlay, zbl, zbm, zbn, lookupOp, keyT, okRes, mapUpdateOp, zbo, zbp, zbq, zbr, zbs, zbt, zbu, Nat.reduceSub, Nat.reduceAdd, Int.reduceLT, Int.reduceLE, Int.reduceAdd, Int.reduceSub, Int.reduceToNat, Int.reduceBEq, Int.reduceBNe, Int.reduceMul, Nat.reduceBEq, Nat.reduceBNe, Nat.reduceLT, Nat.reduceLeDiff, Nat.reduceMul, Nat.reduceEqDiff, WD, effB, effH, isPriv, isHeap, isImm, zbx, zby, zbz, chkO, setD, dslot, zca, zcb, zcc, zcd, ptrCells_some, F29, *] | refine wC_dr [] (by kernel_rfl) ?_ | refine cSplit (fun hb => ?_) (fun hb => ?_) | refine gSplit (fun hb => ?_) (fun hb => ?_))
  all_goals simp only [digitB, noHeapO, noHeap, noHeapL, zbp, zbq, Bool.false_and, Bool.and_false, Bool.true_or, Bool.or_true, Bool.false_or, Bool.or_false, zbr, zbs, zbo, Bool.or_self, zcd, zay, zax, zav, zaw, zba, zaz, *]
theorem rletter_eq (c : Int) (H : Hp) : EW 23 [.int .u8 c] H = some (.ret (.bool (letterB c)) false, H) := by
  refine eqOf (runsP f23 b23 r23 n23 _ rfl _ ?_)
  simp only [bodyOf, Tryd.f23, Option.getD_some]
  repeat' (first | simp only [WW, partV, eqCells, eqLf, minV, maxV, ifcV, zaa, zab, zac, zad, zae, zaf, zag, zah, zai, ofConst, ofConst1, List.replicate, zaj, zak, loadOp, Go.Abs.loadCells, binV, zal, pickV, zam, zan, zao, zap, zaq, zar, zas, zat, zau, outR, resAll, resOne, zav, zaw, zax, zay, zaz, zba, zbb, zbc, zbd, zbe, zbf, zbg, zbh, zbi, zbj, zbk, storeOp, storeCell, overlay, zbl, zbm, zbn, lookupOp, keyT, okRes, mapUpdateOp, zbo, zbp, zbq, zbr, zbs, zbt, zbu, Nat.reduceSub, Nat.reduceAdd, Int.reduceLT, Int.reduceLE, Int.reduceAdd, Int.reduceSub, Int.reduceToNat, Int.reduceBEq, Int.reduceBNe, Int.reduceMul, Nat.reduceBEq, Nat.reduceBNe, Nat.reduceLT, Nat.reduceLeDiff, Nat.reduceMul, Nat.reduceEqDiff, WD, effB, effH, isPriv, isHeap, isImm, zbx, zby, zbz, chkO, setD, dslot, zca, zcb, zcc, zcd, ptrCells_some, F23, *] | refine wC_dr [] (by kernel_rfl) ?_ | refine cSplit (fun hb => ?_) (fun hb => ?_) | refine gSplit (fun hb => ?_) (fun hb => ?_))
  all_goals simp only [letterB, noHeapO, noHeap, noHeapL, zbp, zbq, Bool.false_and, Bool.and_false, Bool.true_or, Bool.or_true, Bool.false_or, Bool.or_false, zbr, zbs, zbo, Bool.or_self, zcd, zay, zax, zav, zaw, zba, zaz, *]
theorem rdigit_eq (c : Int) (H : Hp) : EW 24 [.int .u8 c] H = some (.ret (.bool (digitB c)) false, H) := by
  refine eqOf (runsP f24 b24 r24 n24 _ rfl _ ?_)
  simp only [bodyOf, Tryd.f24, Option.getD_some]
  repeat' (first | simp only [WW, partV, eqCells, eqLf, minV, maxV, ifcV, zaa, zab, zac, zad, zae, zaf, zag, zah, zai, ofConst, ofConst1, List.replicate, zaj, zak, loadOp, Go.Abs.loadCells, binV, zal, pickV, zam, zan, zao, zap, zaq, zar, zas, zat, zau, outR, resAll, resOne, zav, zaw, zax, zay, zaz, zba, zbb, zbc, zbd, zbe, zbf, zbg, zbh, zbi, zbj, zbk, storeOp, storeCell, overlay, zbl, zbm, zbn, lookupOp, keyT, okRes, mapUpdateOp, zbo, zbp, zbq, zbr, zbs, zbt, zbu, Nat.reduceSub, Nat.reduceAdd, Int.reduceLT, Int.reduceLE, Int.reduceAdd, Int.reduceSub, Int.reduceToNat, Int.reduceBEq, Int.reduceBNe, Int.reduceMul, Nat.reduceBEq, Nat.reduceBNe, Nat.reduceLT, Nat.reduceLeDiff, Nat.reduceMul, Nat.reduceEqDiff, WD, effB, effH, isPriv, isHeap, isImm, zbx, zby, zbz, chkO, setD, dslot, zca, zcb, zcc, zcd, ptrCells_some, F24, *] | refine wC_dr [] (by kernel_rfl) ?_ | refine cSplit (fun hb => ?_) (fun hb => ?_) | refine gSplit (fun hb => ?_) (fun hb => ?_))
  all_goals simp only [digitB, noHeapO, noHeap, noHeapL, zbp, zbq, Bool.false_and, Bool.and_false, Bool.true_or, Bool.or_true, Bool.false_or, Bool.or_false, zbr, zbs, zbo, Bool.or_self, zcd, zay, zax, zav, zaw, zba, zaz, *]
end Go.Proofs.YtcmndnkeoepmoaaDoor

namespace Go.Proofs.YtcmndnkeoepmoaaDoor
open Go Go.Abs Go.Proofs
set_option maxRecDepth 100000
set_option maxHeartbeats 2000000
set_option linter.unusedVariables false
set_option linter.unusedSimpArgs false
def words : List ByteArray := [⟨#[118, 97, 114]⟩, ⟨#[102, 110]⟩, ⟨#[105, 102]⟩, ⟨#[101, 108, 115, 101]⟩, ⟨#[119, 104, 105, 108, 101]⟩, ⟨#[98, 114, 101, 97, 107]⟩, ⟨#[99, 111, 110, 116, 105, 110, 117, 101]⟩, ⟨#[114, 101, 116, 117, 114, 110]⟩, ⟨#[116, 104, 114, 111, 119]⟩, ⟨#[116, 114, 121]⟩, ⟨#[99, 97, 116, 99, 104]⟩, ⟨#[115, 112, 97, 119, 110]⟩, ⟨#[116, 114, 117, 101]⟩, ⟨#[102, 97, 108, 115, 101]⟩, ⟨#[110, 105, 108]⟩, ⟨#[97, 110, 100]⟩, ⟨#[111, 114]⟩, ⟨#[110, 111, 116]⟩]
def wordB (s : ByteArray) : Bool := words.any fun w => s.toList == w.toList
theorem word_eq (s : ByteArray) (H : Hp) : EW 14 [.str s] H = some (.ret (.bool (wordB s)) false, H) := by
  refine eqOf (runsP f14 b14 r14 n14 _ rfl _ ?_)
  simp only [bodyOf, Tryd.f14, Option.getD_some]
  repeat' (first | simp only [WW, partV, eqCells, eqLf, minV, maxV, ifcV, zaa, zab, zac, zad, zae, zaf, zag, zah, zai, ofConst, ofConst1, List.replicate, zaj, zak, loadOp, Go.Abs.loadCells, binV, zal, pickV, zam, zan, zao, zap, zaq, zar, zas, zat, zau, outR, resAll, resOne, zav, zaw, zax, zay, zaz, zba, zbb, zbc, zbd, zbe, zbf, zbg, zbh, zbi, zbj, zbk, storeOp, storeCell, overlay, zbl, zbm, zbn, lookupOp, keyT, okRes, mapUpdateOp, zbo, zbp, zbq, zbr, zbs, zbt, zbu, Nat.reduceSub, Nat.reduceAdd, Int.reduceLT, Int.reduceLE, Int.reduceAdd, Int.reduceSub, Int.reduceToNat, Int.reduceBEq, Int.reduceBNe, Int.reduceMul, Nat.reduceBEq, Nat.reduceBNe, Nat.reduceLT, Nat.reduceLeDiff, Nat.reduceMul, Nat.reduceEqDiff, WD, effB, effH, isPriv, isHeap, isImm, zbx, zby, zbz, chkO, setD, dslot, zca, zcb, zcc, zcd, ptrCells_some, F14, *] | refine wC_dr [] (by kernel_rfl) ?_ | refine cSplit (fun hb => ?_) (fun hb => ?_) | refine gSplit (fun hb => ?_) (fun hb => ?_))
  all_goals simp only [wordB, words, List.any_cons, List.any_nil, noHeapO, noHeap, noHeapL, zbp, zbq, Bool.false_and, Bool.and_false, Bool.true_or, Bool.or_true, Bool.false_or, Bool.or_false, zbr, zbs, zbo, Bool.or_self, zcd, zay, zax, zav, zaw, zba, zaz, *]
theorem built50 : buildOp Tryd.prog 50 (words.zipIdx.map fun p => (p.2, .str p.1)) = some (.agg (words.map .str)) := by kernel_rfl
theorem rword_eq (s : ByteArray) (H : Hp) : EW 15 [.str s] H = some (.ret (.bool (wordB s)) false, H) := by
  refine eqOf (runsP f15 b15 r15 n15 _ rfl _ ?_)
  simp only [bodyOf, Tryd.f15, Option.getD_some]
  have hb := built50
  simp only [words, List.zipIdx_cons, List.zipIdx_nil, List.map_cons, List.map_nil, Nat.zero_add, Nat.reduceAdd] at hb
  simp only [WW, partV, eqCells, eqLf, minV, maxV, ifcV, zaa, zab, zac, zad, zae, zaf, zag, zah, zai, ofConst, ofConst1, List.replicate, zaj, zak, loadOp, Go.Abs.loadCells, binV, zal, pickV, zam, zan, zao, zap, zaq, zar, zas, zat, zau, outR, resAll, resOne, zav, zaw, zax, zay, zaz, zba, zbb, zbc, zbd, zbe, zbf, zbg, zbh, zbi, zbj, zbk, storeOp, storeCell, overlay, zbl, zbm, zbn, lookupOp, keyT, okRes, mapUpdateOp, zbo, zbp, zbq, zbr, zbs, zbt, zbu, Nat.reduceSub, Nat.reduceAdd, Int.reduceLT, Int.reduceLE, Int.reduceAdd, Int.reduceSub, Int.reduceToNat, Int.reduceBEq, Int.reduceBNe, Int.reduceMul, Nat.reduceBEq, Nat.reduceBNe, Nat.reduceLT, Nat.reduceLeDiff, Nat.reduceMul, Nat.reduceEqDiff, WD, effB, effH, isPriv, isHeap, isImm, zbx, zby, zbz, chkO, setD, dslot, zca, zcb, zcc, zcd, ptrCells_some, F15, hb]
  refine wC_loop _ (fun n st H' => ∃ i : Nat, st = ⟨L15_3 (.v (.str s)) (.box 0) (.v (.int .i64 i)), [words.map .str], []⟩ ∧ H' = [] ∧ i ≤ 18 ∧ n = 18 - i ∧ ∀ (j : Nat) w, j < i → words[j]? = some w → (s.toList == w.toList) = false) 18 ⟨0, ?_, rfl, by omega, by omega, fun j w hj => by omega⟩ ?_
  · simp only [WN, firstReg, growAll, zbv, zbw, norm, killS, zag, zah, zaa, zab, zbl, zat, zad, growOne, zae, zaf, zac, zas, zak, Nat.reduceLT, Nat.reduceAdd, zbj, zav, F15, L15_3]; rfl
  · rintro n st H' ⟨i, rfl, rfl, hi, hn, hno⟩
    simp only [L15_3]
    simp only [WW, partV, eqCells, eqLf, minV, maxV, ifcV, zaa, zab, zac, zad, zae, zaf, zag, zah, zai, ofConst, ofConst1, List.replicate, zaj, zak, loadOp, Go.Abs.loadCells, binV, zal, pickV, zam, zan, zao, zap, zaq, zar, zas, zat, zau, outR, resAll, resOne, zav, zaw, zax, zay, zaz, zba, zbb, zbc, zbd, zbe, zbf, zbg, zbh, zbi, zbj, zbk, storeOp, storeCell, overlay, zbl, zbm, zbn, lookupOp, keyT, okRes, mapUpdateOp, zbo, zbp, zbq, zbr, zbs, zbt, zbu, Nat.reduceSub, Nat.reduceAdd, Int.reduceLT, Int.reduceLE, Int.reduceAdd, Int.reduceSub, Int.reduceToNat, Int.reduceBEq, Int.reduceBNe, Int.reduceMul, Nat.reduceBEq, Nat.reduceBNe, Nat.reduceLT, Nat.reduceLeDiff, Nat.reduceMul, Nat.reduceEqDiff, WD, effB, effH, isPriv, isHeap, isImm, zbx, zby, zbz, chkO, setD, dslot, zca, zcb, zcc, zcd, ptrCells_some, F15]
    refine cSplit (fun hlt => ?_) (fun hge => ?_)
    · have hi2 : i < 18 := by simp at hlt; omega
      have hw : words[i]? = some (words[i]'hi2) := List.getElem?_eq_getElem hi2
      generalize (words[i]'hi2) = w at hw
      have h18 : (i : Int) < ((18 : Nat) : Int) := by omega
      simp only [hlt]
      simp only [WW, partV, eqCells, eqLf, minV, maxV, ifcV, zaa, zab, zac, zad, zae, zaf, zag, zah, zai, ofConst, ofConst1, List.replicate, zaj, zak, loadOp, Go.Abs.loadCells, binV, zal, pickV, zam, zan, zao, zap, zaq, zar, zas, zat, zau, outR, resAll, resOne, zav, zaw, zax, zay, zaz, zba, zbb, zbc, zbd, zbe, zbf, zbg, zbh, zbi, zbj, zbk, storeOp, storeCell, overlay, zbl, zbm, zbn, lookupOp, keyT, okRes, mapUpdateOp, zbo, zbp, zbq, zbr, zbs, zbt, zbu, Nat.reduceSub, Nat.reduceAdd, Int.reduceLT, Int.reduceLE, Int.reduceAdd, Int.reduceSub, Int.reduceToNat, Int.reduceBEq, Int.reduceBNe, Int.reduceMul, Nat.reduceBEq, Nat.reduceBNe, Nat.reduceLT, Nat.reduceLeDiff, Nat.reduceMul, Nat.reduceEqDiff, WD, effB, effH, isPriv, isHeap, isImm, zbx, zby, zbz, chkO, setD, dslot, zca, zcb, zcc, zcd, ptrCells_some, F15, List.getElem?_map, hw, h18, Nat.mul_one]
      refine cSplit (fun he => ?_) (fun he => ?_)
      · simp only [he]
        simp only [WW, partV, eqCells, eqLf, minV, maxV, ifcV, zaa, zab, zac, zad, zae, zaf, zag, zah, zai, ofConst, ofConst1, List.replicate, zaj, zak, loadOp, Go.Abs.loadCells, binV, zal, pickV, zam, zan, zao, zap, zaq, zar, zas, zat, zau, outR, resAll, resOne, zav, zaw, zax, zay, zaz, zba, zbb, zbc, zbd, zbe, zbf, zbg, zbh, zbi, zbj, zbk, storeOp, storeCell, overlay, zbl, zbm, zbn, lookupOp, keyT, okRes, mapUpdateOp, zbo, zbp, zbq, zbr, zbs, zbt, zbu, Nat.reduceSub, Nat.reduceAdd, Int.reduceLT, Int.reduceLE, Int.reduceAdd, Int.reduceSub, Int.reduceToNat, Int.reduceBEq, Int.reduceBNe, Int.reduceMul, Nat.reduceBEq, Nat.reduceBNe, Nat.reduceLT, Nat.reduceLeDiff, Nat.reduceMul, Nat.reduceEqDiff, WD, effB, effH, isPriv, isHeap, isImm, zbx, zby, zbz, chkO, setD, dslot, zca, zcb, zcc, zcd, ptrCells_some, F15]
        have : wordB s = true := by
          unfold wordB
          rw [List.any_eq_true]
          exact ⟨w, List.mem_of_getElem? hw, by simp only [beq_iff_eq] at he ⊢; exact he.symm⟩
        simp only [this, noHeapO, noHeap, noHeapL, zbp, zbq, Bool.false_and, Bool.and_false, Bool.true_or, Bool.or_true, Bool.false_or, Bool.or_false, zbr, zbs, zbo, Bool.or_self, zcd, zay, zax, zav, zaw, zba, zaz]
      · simp only [he]
        simp only [WW, partV, eqCells, eqLf, minV, maxV, ifcV, zaa, zab, zac, zad, zae, zaf, zag, zah, zai, ofConst, ofConst1, List.replicate, zaj, zak, loadOp, Go.Abs.loadCells, binV, zal, pickV, zam, zan, zao, zap, zaq, zar, zas, zat, zau, outR, resAll, resOne, zav, zaw, zax, zay, zaz, zba, zbb, zbc, zbd, zbe, zbf, zbg, zbh, zbi, zbj, zbk, storeOp, storeCell, overlay, zbl, zbm, zbn, lookupOp, keyT, okRes, mapUpdateOp, zbo, zbp, zbq, zbr, zbs, zbt, zbu, Nat.reduceSub, Nat.reduceAdd, Int.reduceLT, Int.reduceLE, Int.reduceAdd, Int.reduceSub, Int.reduceToNat, Int.reduceBEq, Int.reduceBNe, Int.reduceMul, Nat.reduceBEq, Nat.reduceBNe, Nat.reduceLT, Nat.reduceLeDiff, Nat.reduceMul, Nat.reduceEqDiff, WD, effB, effH, isPriv, isHeap, isImm, zbx, zby, zbz, chkO, setD, dslot, zca, zcb, zcc, zcd, ptrCells_some, F15]
        refine ⟨n - 1, by omega, i + 1, ?_, by omega, by omega, fun j v hj hv => ?_⟩
        · simp only [WN, firstReg, growAll, zbv, zbw, norm, killS, zag, zah, zaa, zab, zbl, zat, zad, growOne, zae, zaf, zac, zas, zak, Nat.reduceLT, Nat.reduceAdd, zbj, zav, F15]
          rw [IntWalk.i64_in _ (by omega)]; rfl
        · by_cases e : j = i
          · subst e; rw [hw] at hv; cases hv
            simp only [beq_eq_false_iff_ne, ne_eq] at he ⊢; exact fun h => he h.symm
          · exact hno j v (by omega) hv
    · simp only [hge]
      simp only [WW, partV, eqCells, eqLf, minV, maxV, ifcV, zaa, zab, zac, zad, zae, zaf, zag, zah, zai, ofConst, ofConst1, List.replicate, zaj, zak, loadOp, Go.Abs.loadCells, binV, zal, pickV, zam, zan, zao, zap, zaq, zar, zas, zat, zau, outR, resAll, resOne, zav, zaw, zax, zay, zaz, zba, zbb, zbc, zbd, zbe, zbf, zbg, zbh, zbi, zbj, zbk, storeOp, storeCell, overlay, zbl, zbm, zbn, lookupOp, keyT, okRes, mapUpdateOp, zbo, zbp, zbq, zbr, zbs, zbt, zbu, Nat.reduceSub, Nat.reduceAdd, Int.reduceLT, Int.reduceLE, Int.reduceAdd, Int.reduceSub, Int.reduceToNat, Int.reduceBEq, Int.reduceBNe, Int.reduceMul, Nat.reduceBEq, Nat.reduceBNe, Nat.reduceLT, Nat.reduceLeDiff, Nat.reduceMul, Nat.reduceEqDiff, WD, effB, effH, isPriv, isHeap, isImm, zbx, zby, zbz, chkO, setD, dslot, zca, zcb, zcc, zcd, ptrCells_some, F15]
      have hi2 : i = 18 := by simp at hge; omega
      subst hi2
      have : wordB s = false := by
        unfold wordB
        rw [List.any_eq_false]
        intro w hw
        obtain ⟨j, hj, e⟩ := List.getElem_of_mem hw
        simp [hno j w hj (by rw [List.getElem?_eq_getElem hj, e])]
      simp only [this, noHeapO, noHeap, noHeapL, zbp, zbq, Bool.false_and, Bool.and_false, Bool.true_or, Bool.or_true, Bool.false_or, Bool.or_false, zbr, zbs, zbo, Bool.or_self, zcd, zay, zax, zav, zaw, zba, zaz]
def allP (p : Nat → UInt8 → Bool) (l : List UInt8) : Bool := l.zipIdx.all fun x => p x.2 x.1
theorem allP_of {p : Nat → UInt8 → Bool} {l : List UInt8} (h : ∀ j c, l[j]? = some c → p j c = true) : allP p l = true := by
  unfold allP
  rw [List.all_eq_true]
  rintro ⟨c, j⟩ hx
  exact h j c (by rw [List.mem_iff_getElem?] at hx; obtain ⟨k, hk⟩ := hx; rw [List.getElem?_zipIdx] at hk; cases hl : l[k]? with
    | none => rw [hl] at hk; cases hk
    | some c' => rw [hl] at hk; simp at hk; obtain ⟨rfl, rfl⟩ := hk; exact hl)
theorem allP_not {p : Nat → UInt8 → Bool} {l : List UInt8} {j : Nat} {c : UInt8} (h : l[j]? = some c) (hp : p j c = false) : allP p l = false := by
  unfold allP
  rw [List.all_eq_false]
  refine ⟨(c, j), ?_, by simp [hp]⟩
  rw [List.mem_iff_getElem?]
  exact ⟨j, by rw [List.getElem?_zipIdx, h]; simp⟩
def nameP (j : Nat) (c : UInt8) : Bool := letterB c.toNat || (!((j : Int) == 0) && digitB c.toNat)
def nameB (s : ByteArray) : Bool := allP nameP s.data.toList && (!(s.toList == (⟨#[]⟩ : ByteArray).toList) && !wordB s)
theorem size_len (s : ByteArray) : (s.size : Int) = (s.data.toList.length : Int) := by rw [Array.length_toList]; rfl
theorem name_eq (s : ByteArray) (hs : s.size < 4294967296) (H : Hp) : EW 16 [.str s] H = some (.ret (.bool (nameB s)) false, H) := by
  refine eqOf (runsP f16 b16 r16 n16 _ rfl _ ?_)
  simp only [bodyOf, Tryd.f16, Option.getD_some]
  simp only [WW, partV, eqCells, eqLf, minV, maxV, ifcV, zaa, zab, zac, zad, zae, zaf, zag, zah, zai, ofConst, ofConst1, List.replicate, zaj, zak, loadOp, Go.Abs.loadCells, binV, zal, pickV, zam, zan, zao, zap, zaq, zar, zas, zat, zau, outR, resAll, resOne, zav, zaw, zax, zay, zaz, zba, zbb, zbc, zbd, zbe, zbf, zbg, zbh, zbi, zbj, zbk, storeOp, storeCell, overlay, zbl, zbm, zbn, lookupOp, keyT, okRes, mapUpdateOp, zbo, zbp, zbq, zbr, zbs, zbt, zbu, Nat.reduceSub, Nat.reduceAdd, Int.reduceLT, Int.reduceLE, Int.reduceAdd, Int.reduceSub, Int.reduceToNat, Int.reduceBEq, Int.reduceBNe, Int.reduceMul, Nat.reduceBEq, Nat.reduceBNe, Nat.reduceLT, Nat.reduceLeDiff, Nat.reduceMul, Nat.reduceEqDiff, WD, effB, effH, isPriv, isHeap, isImm, zbx, zby, zbz, chkO, setD, dslot, zca, zcb, zcc, zcd, ptrCells_some, F16, size_len]
  have hl : s.data.toList.length = s.size := by rw [Array.length_toList]; rfl
  generalize hL : s.data.toList = L at hl
  refine wC_loop _ (fun n st H' => ∃ i : Nat, st = ⟨L16_2 (.v (.str s)) (.v (.int .i64 L.length)) (.v (.int .i64 i)), [], []⟩ ∧ H' = [] ∧ i ≤ L.length ∧ n = L.length - i ∧ ∀ (j : Nat) c, j < i → L[j]? = some c → nameP j c = true) L.length ⟨0, ?_, rfl, by omega, by omega, fun j c hj => by omega⟩ ?_
  · simp only [WN, firstReg, growAll, zbv, zbw, norm, killS, zag, zah, zaa, zab, zbl, zat, zad, growOne, zae, zaf, zac, zas, zak, Nat.reduceLT, Nat.reduceAdd, zbj, zav, F16, L16_2]; rfl
  · rintro n st H' ⟨i, rfl, rfl, hi, hn, hno⟩
    simp only [L16_2]
    simp only [WW, partV, eqCells, eqLf, minV, maxV, ifcV, zaa, zab, zac, zad, zae, zaf, zag, zah, zai, ofConst, ofConst1, List.replicate, zaj, zak, loadOp, Go.Abs.loadCells, binV, zal, pickV, zam, zan, zao, zap, zaq, zar, zas, zat, zau, outR, resAll, resOne, zav, zaw, zax, zay, zaz, zba, zbb, zbc, zbd, zbe, zbf, zbg, zbh, zbi, zbj, zbk, storeOp, storeCell, overlay, zbl, zbm, zbn, lookupOp, keyT, okRes, mapUpdateOp, zbo, zbp, zbq, zbr, zbs, zbt, zbu, Nat.reduceSub, Nat.reduceAdd, Int.reduceLT, Int.reduceLE, Int.reduceAdd, Int.reduceSub, Int.reduceToNat, Int.reduceBEq, Int.reduceBNe, Int.reduceMul, Nat.reduceBEq, Nat.reduceBNe, Nat.reduceLT, Nat.reduceLeDiff, Nat.reduceMul, Nat.reduceEqDiff, WD, effB, effH, isPriv, isHeap, isImm, zbx, zby, zbz, chkO, setD, dslot, zca, zcb, zcc, zcd, ptrCells_some, F16]
    refine cSplit (fun hlt => ?_) (fun hge => ?_)
    · have hi2 : i < L.length := by simpa using hlt
      have hc : L[i]? = some L[i] := List.getElem?_eq_getElem hi2
      generalize L[i] = c at hc
      simp only [hlt]
      simp only [WW, partV, eqCells, eqLf, minV, maxV, ifcV, zaa, zab, zac, zad, zae, zaf, zag, zah, zai, ofConst, ofConst1, List.replicate, zaj, zak, loadOp, Go.Abs.loadCells, binV, zal, pickV, zam, zan, zao, zap, zaq, zar, zas, zat, zau, outR, resAll, resOne, zav, zaw, zax, zay, zaz, zba, zbb, zbc, zbd, zbe, zbf, zbg, zbh, zbi, zbj, zbk, storeOp, storeCell, overlay, zbl, zbm, zbn, lookupOp, keyT, okRes, mapUpdateOp, zbo, zbp, zbq, zbr, zbs, zbt, zbu, Nat.reduceSub, Nat.reduceAdd, Int.reduceLT, Int.reduceLE, Int.reduceAdd, Int.reduceSub, Int.reduceToNat, Int.reduceBEq, Int.reduceBNe, Int.reduceMul, Nat.reduceBEq, Nat.reduceBNe, Nat.reduceLT, Nat.reduceLeDiff, Nat.reduceMul, Nat.reduceEqDiff, WD, effB, effH, isPriv, isHeap, isImm, zbx, zby, zbz, chkO, setD, dslot, zca, zcb, zcc, zcd, ptrCells_some, F16, hL, hc]
      rw [wpCall_eq (letter_eq _ _)]
      simp only [WW, partV, eqCells, eqLf, minV, maxV, ifcV, zaa, zab, zac, zad, zae, zaf, zag, zah, zai, ofConst, ofConst1, List.replicate, zaj, zak, loadOp, Go.Abs.loadCells, binV, zal, pickV, zam, zan, zao, zap, zaq, zar, zas, zat, zau, outR, resAll, resOne, zav, zaw, zax, zay, zaz, zba, zbb, zbc, zbd, zbe, zbf, zbg, zbh, zbi, zbj, zbk, storeOp, storeCell, overlay, zbl, zbm, zbn, lookupOp, keyT, okRes, mapUpdateOp, zbo, zbp, zbq, zbr, zbs, zbt, zbu, Nat.reduceSub, Nat.reduceAdd, Int.reduceLT, Int.reduceLE, Int.reduceAdd, Int.reduceSub, Int.reduceToNat, Int.reduceBEq, Int.reduceBNe, Int.reduceMul, Nat.reduceBEq, Nat.reduceBNe, Nat.reduceLT, Nat.reduceLeDiff, Nat.reduceMul, Nat.reduceEqDiff, WD, effB, effH, isPriv, isHeap, isImm, zbx, zby, zbz, chkO, setD, dslot, zca, zcb, zcc, zcd, ptrCells_some, F16, hL, hc]
      have step : ∀ (st' : St), st'.s = st'.s → nameP i c = true → True := fun _ _ _ => trivial
      cases hlet : letterB c.toNat with
      | true =>
        simp only [WW, partV, eqCells, eqLf, minV, maxV, ifcV, zaa, zab, zac, zad, zae, zaf, zag, zah, zai, ofConst, ofConst1, List.replicate, zaj, zak, loadOp, Go.Abs.loadCells, binV, zal, pickV, zam, zan, zao, zap, zaq, zar, zas, zat, zau, outR, resAll, resOne, zav, zaw, zax, zay, zaz, zba, zbb, zbc, zbd, zbe, zbf, zbg, zbh, zbi, zbj, zbk, storeOp, storeCell, overlay, zbl, zbm, zbn, lookupOp, keyT, okRes, mapUpdateOp, zbo, zbp, zbq, zbr, zbs, zbt, zbu, Nat.reduceSub, Nat.reduceAdd, Int.reduceLT, Int.reduceLE, Int.reduceAdd, Int.reduceSub, Int.reduceToNat, Int.reduceBEq, Int.reduceBNe, Int.reduceMul, Nat.reduceBEq, Nat.reduceBNe, Nat.reduceLT, Nat.reduceLeDiff, Nat.reduceMul, Nat.reduceEqDiff, WD, effB, effH, isPriv, isHeap, isImm, zbx, zby, zbz, chkO, setD, dslot, zca, zcb, zcc, zcd, ptrCells_some, F16, hL, hc]
        refine ⟨n - 1, by omega, i + 1, ?_, by omega, by omega, fun j v hj hv => ?_⟩
        · simp only [WN, firstReg, growAll, zbv, zbw, norm, killS, zag, zah, zaa, zab, zbl, zat, zad, growOne, zae, zaf, zac, zas, zak, Nat.reduceLT, Nat.reduceAdd, zbj, zav, F16]
          rw [IntWalk.i64_in _ (by omega)]; rfl
        · by_cases e : j = i
          · subst e; rw [hc] at hv; cases hv; simp [nameP, hlet]
          · exact hno j v (by omega) hv
      | false =>
        simp only [WW, partV, eqCells, eqLf, minV, maxV, ifcV, zaa, zab, zac, zad, zae, zaf, zag, zah, zai, ofConst, ofConst1, List.replicate, zaj, zak, loadOp, Go.Abs.loadCells, binV, zal, pickV, zam, zan, zao, zap, zaq, zar, zas, zat, zau, outR, resAll, resOne, zav, zaw, zax, zay, zaz, zba, zbb, zbc, zbd, zbe, zbf, zbg, zbh, zbi, zbj, zbk, storeOp, storeCell, overlay, zbl, zbm, zbn, lookupOp, keyT, okRes, mapUpdateOp, zbo, zbp, zbq, zbr, zbs, zbt, zbu, Nat.reduceSub, Nat.reduceAdd, Int.reduceLT, Int.reduceLE, Int.reduceAdd, Int.reduceSub, Int.reduceToNat, Int.reduceBEq, Int.reduceBNe, Int.reduceMul, Nat.reduceBEq, Nat.reduceBNe, Nat.reduceLT, Nat.reduceLeDiff, Nat.reduceMul, Nat.reduceEqDiff, WD, effB, effH, isPriv, isHeap, isImm, zbx, zby, zbz, chkO, setD, dslot, zca, zcb, zcc, zcd, ptrCells_some, F16, hL, hc]
        refine gSplit (fun h0 => ?_) (fun h0 => ?_)
        · simp only [h0]
          simp only [WW, partV, eqCells, eqLf, minV, maxV, ifcV, zaa, zab, zac, zad, zae, zaf, zag, zah, zai, ofConst, ofConst1, List.replicate, zaj, zak, loadOp, Go.Abs.loadCells, binV, zal, pickV, zam, zan, zao, zap, zaq, zar, zas, zat, zau, outR, resAll, resOne, zav, zaw, zax, zay, zaz, zba, zbb, zbc, zbd, zbe, zbf, zbg, zbh, zbi, zbj, zbk, storeOp, storeCell, overlay, zbl, zbm, zbn, lookupOp, keyT, okRes, mapUpdateOp, zbo, zbp, zbq, zbr, zbs, zbt, zbu, Nat.reduceSub, Nat.reduceAdd, Int.reduceLT, Int.reduceLE, Int.reduceAdd, Int.reduceSub, Int.reduceToNat, Int.reduceBEq, Int.reduceBNe, Int.reduceMul, Nat.reduceBEq, Nat.reduceBNe, Nat.reduceLT, Nat.reduceLeDiff, Nat.reduceMul, Nat.reduceEqDiff, WD, effB, effH, isPriv, isHeap, isImm, zbx, zby, zbz, chkO, setD, dslot, zca, zcb, zcc, zcd, ptrCells_some, F16, hL, hc]
          have : nameP i c = false := by simp only [nameP, hlet, h0, noHeapO, noHeap, noHeapL, zbp, zbq, Bool.false_and, Bool.and_false, Bool.true_or, Bool.or_true, Bool.false_or, Bool.or_false, zbr, zbs, zbo, Bool.or_self, zcd, zay, zax, zav, zaw, zba, zaz]
          simp only [nameB, hL, allP_not hc this, noHeapO, noHeap, noHeapL, zbp, zbq, Bool.false_and, Bool.and_false, Bool.true_or, Bool.or_true, Bool.false_or, Bool.or_false, zbr, zbs, zbo, Bool.or_self, zcd, zay, zax, zav, zaw, zba, zaz]
        · simp only [h0]
          simp only [WW, partV, eqCells, eqLf, minV, maxV, ifcV, zaa, zab, zac, zad, zae, zaf, zag, zah, zai, ofConst, ofConst1, List.replicate, zaj, zak, loadOp, Go.Abs.loadCells, binV, zal, pickV, zam, zan, zao, zap, zaq, zar, zas, zat, zau, outR, resAll, resOne, zav, zaw, zax, zay, zaz, zba, zbb, zbc, zbd, zbe, zbf, zbg, zbh, zbi, zbj, zbk, storeOp, storeCell, overlay, zbl, zbm, zbn, lookupOp, keyT, okRes, mapUpdateOp, zbo, zbp, zbq, zbr, zbs, zbt, zbu, Nat.reduceSub, Nat.reduceAdd, Int.reduceLT, Int.reduceLE, Int.reduceAdd, Int.reduceSub, Int.reduceToNat, Int.reduceBEq, Int.reduceBNe, Int.reduceMul, Nat.reduceBEq, Nat.reduceBNe, Nat.reduceLT, Nat.reduceLeDiff, Nat.reduceMul, Nat.reduceEqDiff, WD, effB, effH, isPriv, isHeap, isImm, zbx, zby, zbz, chkO, setD, dslot, zca, zcb, zcc, zcd, ptrCells_some, F16, hL, hc]
          rw [wpCall_eq (digit_eq _ _)]
          simp only [WW, partV, eqCells, eqLf, minV, maxV, ifcV, zaa, zab, zac, zad, zae, zaf, zag, zah, zai, ofConst, ofConst1, List.replicate, zaj, zak, loadOp, Go.Abs.loadCells, binV, zal, pickV, zam, zan, zao, zap, zaq, zar, zas, zat, zau, outR, resAll, resOne, zav, zaw, zax, zay, zaz, zba, zbb, zbc, zbd, zbe, zbf, zbg, zbh, zbi, zbj, zbk, storeOp, storeCell, overlay, zbl, zbm, zbn, lookupOp, keyT, okRes, mapUpdateOp, zbo, zbp, zbq, zbr, zbs, zbt, zbu, Nat.reduceSub, Nat.reduceAdd, Int.reduceLT, Int.reduceLE, Int.reduceAdd, Int.reduceSub, Int.reduceToNat, Int.reduceBEq, Int.reduceBNe, Int.reduceMul, Nat.reduceBEq, Nat.reduceBNe, Nat.reduceLT, Nat.reduceLeDiff, Nat.reduceMul, Nat.reduceEqDiff, WD, effB, effH, isPriv, isHeap, isImm, zbx, zby, zbz, chkO, setD, dslot, zca, zcb, zcc, zcd, ptrCells_some, F16, hL, hc]
          cases hdig : digitB c.toNat with
          | true =>
            simp only [WW, partV, eqCells, eqLf, minV, maxV, ifcV, zaa, zab, zac, zad, zae, zaf, zag, zah, zai, ofConst, ofConst1, List.replicate, zaj, zak, loadOp, Go.Abs.loadCells, binV, zal, pickV, zam, zan, zao, zap, zaq, zar, zas, zat, zau, outR, resAll, resOne, zav, zaw, zax, zay, zaz, zba, zbb, zbc, zbd, zbe, zbf, zbg, zbh, zbi, zbj, zbk, storeOp, storeCell, overlay, zbl, zbm, zbn, lookupOp, keyT, okRes, mapUpdateOp, zbo, zbp, zbq, zbr, zbs, zbt, zbu, Nat.reduceSub, Nat.reduceAdd, Int.reduceLT, Int.reduceLE, Int.reduceAdd, Int.reduceSub, Int.reduceToNat, Int.reduceBEq, Int.reduceBNe, Int.reduceMul, Nat.reduceBEq, Nat.reduceBNe, Nat.reduceLT, Nat.reduceLeDiff, Nat.reduceMul, Nat.reduceEqDiff, WD, effB, effH, isPriv, isHeap, isImm, zbx, zby, zbz, chkO, setD, dslot, zca, zcb, zcc, zcd, ptrCells_some, F16, hL, hc]
            refine ⟨n - 1, by omega, i + 1, ?_, by omega, by omega, fun j v hj hv => ?_⟩
            · simp only [WN, firstReg, growAll, zbv, zbw, norm, killS, zag, zah, zaa, zab, zbl, zat, zad, growOne, zae, zaf, zac, zas, zak, Nat.reduceLT, Nat.reduceAdd, zbj, zav, F16]
              rw [IntWalk.i64_in _ (by omega)]; rfl
            · by_cases e : j = i
              · subst e; rw [hc] at hv; cases hv; simp only [nameP, hlet, h0, hdig, noHeapO, noHeap, noHeapL, zbp, zbq, Bool.false_and, Bool.and_false, Bool.true_or, Bool.or_true, Bool.false_or, Bool.or_false, zbr, zbs, zbo, Bool.or_self, zcd, zay, zax, zav, zaw, zba, zaz]
              · exact hno j v (by omega) hv
          | false =>
            simp only [WW, partV, eqCells, eqLf, minV, maxV, ifcV, zaa, zab, zac, zad, zae, zaf, zag, zah, zai, ofConst, ofConst1, List.replicate, zaj, zak, loadOp, Go.Abs.loadCells, binV, zal, pickV, zam, zan, zao, zap, zaq, zar, zas, zat, zau, outR, resAll, resOne, zav, zaw, zax, zay, zaz, zba, zbb, zbc, zbd, zbe, zbf, zbg, zbh, zbi, zbj, zbk, storeOp, storeCell, overlay, zbl, zbm, zbn, lookupOp, keyT, okRes, mapUpdateOp, zbo, zbp, zbq, zbr, zbs, zbt, zbu, Nat.reduceSub, Nat.reduceAdd, Int.reduceLT, Int.reduceLE, Int.reduceAdd, Int.reduceSub, Int.reduceToNat, Int.reduceBEq, Int.reduceBNe, Int.reduceMul, Nat.reduceBEq, Nat.reduceBNe, Nat.reduceLT, Nat.reduceLeDiff, Nat.reduceMul, Nat.reduceEqDiff, WD, effB, effH, isPriv, isHeap, isImm, zbx, zby, zbz, chkO, setD, dslot, zca, zcb, zcc, zcd, ptrCells_some, F16, hL, hc]
            have : nameP i c = false := by simp only [nameP, hlet, h0, hdig, noHeapO, noHeap, noHeapL, zbp, zbq, Bool.false_and, Bool.and_false, Bool.true_or, Bool.or_true, Bool.false_or, Bool.or_false, zbr, zbs, zbo, Bool.or_self, zcd, zay, zax, zav, zaw, zba, zaz]
            simp only [nameB, hL, allP_not hc this, noHeapO, noHeap, noHeapL, zbp, zbq, Bool.false_and, Bool.and_false, Bool.true_or, Bool.or_true, Bool.false_or, Bool.or_false, zbr, zbs, zbo, Bool.or_self, zcd, zay, zax, zav, zaw, zba, zaz]
    · have hi2 : i = L.length := by simp at hge; omega
      simp only [hge]
      simp only [WW, partV, eqCells, eqLf, minV, maxV, ifcV, zaa, zab, zac, zad, zae, zaf, zag, zah, zai, ofConst, ofConst1, List.replicate, zaj, zak, loadOp, Go.Abs.loadCells, binV, zal, pickV, zam, zan, zao, zap, zaq, zar, zas, zat, zau, outR, resAll, resOne, zav, zaw, zax, zay, zaz, zba, zbb, zbc, zbd, zbe, zbf, zbg, zbh, zbi, zbj, zbk, storeOp, storeCell, overlay, zbl, zbm, zbn, lookupOp, keyT, okRes, mapUpdateOp, zbo, zbp, zbq, zbr, zbs, zbt, zbu, Nat.reduceSub, Nat.reduceAdd, Int.reduceLT, Int.reduceLE, Int.reduceAdd, Int.reduceSub, Int.reduceToNat, Int.reduceBEq, Int.reduceBNe, Int.reduceMul, Nat.reduceBEq, Nat.reduceBNe, Nat.reduceLT, Nat.reduceLeDiff, Nat.reduceMul, Nat.reduceEqDiff, WD, effB, effH, isPriv, isHeap, isImm, zbx, zby, zbz, chkO, setD, dslot, zca, zcb, zcc, zcd, ptrCells_some, F16]
      have hall : allP nameP L = true := allP_of fun j c hc => hno j c (by have := (List.getElem?_eq_some_iff.1 hc).1; omega) hc
      cases he : (s.toList == (⟨#[]⟩ : ByteArray).toList) with
      | true =>
        simp only [WW, partV, eqCells, eqLf, minV, maxV, ifcV, zaa, zab, zac, zad, zae, zaf, zag, zah, zai, ofConst, ofConst1, List.replicate, zaj, zak, loadOp, Go.Abs.loadCells, binV, zal, pickV, zam, zan, zao, zap, zaq, zar, zas, zat, zau, outR, resAll, resOne, zav, zaw, zax, zay, zaz, zba, zbb, zbc, zbd, zbe, zbf, zbg, zbh, zbi, zbj, zbk, storeOp, storeCell, overlay, zbl, zbm, zbn, lookupOp, keyT, okRes, mapUpdateOp, zbo, zbp, zbq, zbr, zbs, zbt, zbu, Nat.reduceSub, Nat.reduceAdd, Int.reduceLT, Int.reduceLE, Int.reduceAdd, Int.reduceSub, Int.reduceToNat, Int.reduceBEq, Int.reduceBNe, Int.reduceMul, Nat.reduceBEq, Nat.reduceBNe, Nat.reduceLT, Nat.reduceLeDiff, Nat.reduceMul, Nat.reduceEqDiff, WD, effB, effH, isPriv, isHeap, isImm, zbx, zby, zbz, chkO, setD, dslot, zca, zcb, zcc, zcd, ptrCells_some, F16, he]
        simp only [nameB, hL, hall, he, noHeapO, noHeap, noHeapL, zbp, zbq, Bool.false_and, Bool.and_false, Bool.true_or, Bool.or_true, Bool.false_or, Bool.or_false, zbr, zbs, zbo, Bool.or_self, zcd, zay, zax, zav, zaw, zba, zaz]
      | false =>
        simp only [WW, partV, eqCells, eqLf, minV, maxV, ifcV, zaa, zab, zac, zad, zae, zaf, zag, zah, zai, ofConst, ofConst1, List.replicate, zaj, zak, loadOp, Go.Abs.loadCells, binV, zal, pickV, zam, zan, zao, zap, zaq, zar, zas, zat, zau, outR, resAll, resOne, zav, zaw, zax, zay, zaz, zba, zbb, zbc, zbd, zbe, zbf, zbg, zbh, zbi, zbj, zbk, storeOp, storeCell, overlay, zbl, zbm, zbn, lookupOp, keyT, okRes, mapUpdateOp, zbo, zbp, zbq, zbr, zbs, zbt, zbu, Nat.reduceSub, Nat.reduceAdd, Int.reduceLT, Int.reduceLE, Int.reduceAdd, Int.reduceSub, Int.reduceToNat, Int.reduceBEq, Int.reduceBNe, Int.reduceMul, Nat.reduceBEq, Nat.reduceBNe, Nat.reduceLT, Nat.reduceLeDiff, Nat.reduceMul, Nat.reduceEqDiff, WD, effB, effH, isPriv, isHeap, isImm, zbx, zby, zbz, chkO, setD, dslot, zca, zcb, zcc, zcd, ptrCells_some, F16, he]
        rw [wpCall_eq (word_eq _ _)]
        simp only [WW, partV, eqCells, eqLf, minV, maxV, ifcV, zaa, zab, zac, zad, zae, zaf, zag, zah, zai, ofConst, ofConst1, List.replicate, zaj, zak, loadOp, Go.Abs.loadCells, binV, zal, pickV, zam, zan, zao, zap, zaq, zar, zas, zat, zau, outR, resAll, resOne, zav, zaw, zax, zay, zaz, zba, zbb, zbc, zbd, zbe, zbf, zbg, zbh, zbi, zbj, zbk, storeOp, storeCell, overlay, zbl, zbm, zbn, lookupOp, keyT, okRes, mapUpdateOp, zbo, zbp, zbq, zbr, zbs, zbt, zbu, Nat.reduceSub, Nat.reduceAdd, Int.reduceLT, Int.reduceLE, Int.reduceAdd, Int.reduceSub, Int.reduceToNat, Int.reduceBEq, Int.reduceBNe, Int.reduceMul, Nat.reduceBEq, Nat.reduceBNe, Nat.reduceLT, Nat.reduceLeDiff, Nat.reduceMul, Nat.reduceEqDiff, WD, effB, effH, isPriv, isHeap, isImm, zbx, zby, zbz, chkO, setD, dslot, zca, zcb, zcc, zcd, ptrCells_some, F16]
        simp only [nameB, hL, hall, he, noHeapO, noHeap, noHeapL, zbp, zbq, Bool.false_and, Bool.and_false, Bool.true_or, Bool.or_true, Bool.false_or, Bool.or_false, zbr, zbs, zbo, Bool.or_self, zcd, zay, zax, zav, zaw, zba, zaz]
end Go.Proofs.YtcmndnkeoepmoaaDoor

namespace Go.Proofs.YtcmndnkeoepmoaaDoor
open Go Go.Abs Go.Proofs
set_option maxRecDepth 100000
set_option maxHeartbeats 1000000
set_option linter.unusedVariables false
set_option linter.unusedSimpArgs false
def by8 (L : List UInt8) : List V := L.map byteV
theorem by8_len (L : List UInt8) : (by8 L).length = L.length := by simp [by8]
/-- Bytes that nothing writes to -/
def Bx (x : V) (L : List UInt8) : Prop := (x = .nils ∧ L = []) ∨ x = .rsl (by8 L)
theorem Bx.rd {x : V} {L : List UInt8} (h : Bx x L) (H : Hp) : Rd H x (by8 L) := by
  rcases h with ⟨rfl, rfl⟩ | rfl
  · exact .nils
  · exact .rsl _
/-- Bytes that are not the cutter's own memory -/
def By (H : Hp) (w : Nat) (x : V) (L : List UInt8) : Prop := Bx x L ∨ ∃ id, x = .sl id 0 L.length ∧ id ≠ w ∧ H[id]? = some (.cells (by8 L))
theorem Bx.by_ {x : V} {L : List UInt8} (h : Bx x L) (H : Hp) (w : Nat) : By H w x L := .inl h
theorem By.rd {H : Hp} {w : Nat} {x : V} {L : List UInt8} (h : By H w x L) : Rd H x (by8 L) := by
  rcases h with h | ⟨id, rfl, _, h⟩
  · exact h.rd H
  · have := Rd.whole h
    rwa [by8_len] at this
theorem By.same {H H' : Hp} {w : Nat} {x : V} {L : List UInt8} (h : By H w x L) (hs : ∀ b, H'.set w b = H.set w b) : By H' w x L := by
  rcases h with h | ⟨id, e, hw, h⟩
  · exact .inl h
  · refine .inr ⟨id, e, hw, ?_⟩
    have := hs .dead
    have h2 : (H'.set w .dead)[id]? = (H.set w .dead)[id]? := by rw [this]
    rw [List.getElem?_set_ne (fun e => hw e.symm), List.getElem?_set_ne (fun e => hw e.symm)] at h2
    rw [h2]; exact h
theorem By.to {H : Hp} {w : Nat} {x : V} {L : List UInt8} (h : By H w x L) (b : Blk) : By (H.set w b) w x L := h.same fun b' => List.set_set ..
/-- The cutter: its bytes, and where it is -/
def Ct (H : Hp) (w : Nat) (x : V) (p : Int) : Prop := H[w]? = some (.cells [.agg [x, .int .i64 p]])
def ctr (x : V) (p : Int) : Blk := .cells [.agg [x, .int .i64 p]]
theorem Ct.to {H : Hp} {w : Nat} {x : V} {p : Int} (h : Ct H w x p) (q : Int) : Ct (H.set w (ctr x q)) w x q :=
  List.getElem?_set_self (List.getElem?_eq_some_iff.1 h).1
theorem Ct.self {H : Hp} {w : Nat} {x : V} {p : Int} (h : Ct H w x p) : H.set w (ctr x p) = H := by
  apply List.ext_getElem?
  intro i
  rw [List.getElem?_set]
  split
  · rename_i e; subst e
    have hl := (List.getElem?_eq_some_iff.1 h).1
    rw [if_pos hl]; exact h.symm
  · rfl
theorem u8b (c k : UInt8) : (((c.toNat : Nat) : Int) == ((k.toNat : Nat) : Int)) = (c == k) := by
  rw [Bool.eq_iff_iff]
  simp only [beq_iff_eq, Int.natCast_inj]
  exact UInt8.toNat_inj
/-- How many bytes are skipped -/
def skipN : Bool → List UInt8 → Nat
  | _, [] => 0
  | note, c :: r => if c = 10 then 1 + skipN false r else if (note || c == 32 || c == 9 || c == 13) = true then 1 + skipN note r else if c = 35 then 1 + skipN true r else 0
theorem drop_cons {α : Type} {L : List α} {i : Nat} {c : α} (h : L[i]? = some c) : L.drop i = c :: L.drop (i + 1) := by
  have hi := (List.getElem?_eq_some_iff.1 h).1
  rw [List.drop_eq_getElem_cons hi]
  congr 1
  rw [List.getElem?_eq_getElem hi] at h
  exact Option.some.inj h
theorem skip_spec {H : Hp} {w : Nat} {x : V} {L : List UInt8} {p : Nat} (hB : By H w x L) (hC : Ct H w x p) (hp : p ≤ L.length) (hL : L.length ≤ 4611686018427387904) :
    wpCall EW 20 [.ptr w 0 0] H (fun out H' => out = .ret (.tup []) false ∧ H' = H.set w (ctr x ((p + skipN false (L.drop p) : Nat) : Int))) := by
  refine runs f20 b20 r20 n20 _ _ ?_
  simp only [bodyOf, Tryd.f20, Option.getD_some]
  simp only [WW, partV, eqCells, eqLf, minV, maxV, ifcV, zaa, zab, zac, zad, zae, zaf, zag, zah, zai, ofConst, ofConst1, List.replicate, zaj, zak, loadOp, Go.Abs.loadCells, binV, zal, pickV, zam, zan, zao, zap, zaq, zar, zas, zat, zau, outR, resAll, resOne, zav, zaw, zax, zay, zaz, zba, zbb, zbc, zbd, zbe, zbf, zbg, zbh, zbi, zbj, zbk, storeOp, storeCell, overlay, zbl, zbm, zbn, lookupOp, keyT, okRes, mapUpdateOp, zbo, zbp, zbq, zbr, zbs, zbt, zbu, Nat.reduceSub, Nat.reduceAdd, Int.reduceLT, Int.reduceLE, Int.reduceAdd, Int.reduceSub, Int.reduceToNat, Int.reduceBEq, Int.reduceBNe, Int.reduceMul, Nat.reduceBEq, Nat.reduceBNe, Nat.reduceLT, Nat.reduceLeDiff, Nat.reduceMul, Nat.reduceEqDiff, WD, effB, effH, isPriv, isHeap, isImm, zbx, zby, zbz, chkO, setD, dslot, zca, zcb, zcc, zcd, ptrCells_some, F20]
  refine wC_loop _ (fun k st' H' => ∃ i : Nat, ∃ nt : Bool, st' = ⟨L20_1 (.v (.ptr w 0 0)) (.v (.bool nt)), [], []⟩ ∧ Ct H' w x (i : Int) ∧ (∀ b, H'.set w b = H.set w b) ∧ k = L.length - i ∧ p ≤ i ∧ i ≤ L.length ∧ i + skipN nt (L.drop i) = p + skipN false (L.drop p)) (L.length - p) ⟨p, false, ?_, hC, fun _ => rfl, rfl, Nat.le_refl _, hp, rfl⟩ ?_
  · simp only [WN, firstReg, growAll, zbv, zbw, norm, killS, zag, zah, zaa, zab, zbl, zat, zad, growOne, zae, zaf, zac, zas, zak, Nat.reduceLT, Nat.reduceAdd, zbj, zav, F20, L20_1]
  · rintro k st' H' ⟨i, nt, rfl, hC', hset, rfl, hpi, hi, hs⟩
    simp only [L20_1]
    have hx := (hB.same hset).rd
    have hb : H'[w]? = some (.cells [.agg [x, .int .i64 (i : Int)]]) := hC'
    simp only [WW, partV, eqCells, eqLf, minV, maxV, ifcV, zaa, zab, zac, zad, zae, zaf, zag, zah, zai, ofConst, ofConst1, List.replicate, zaj, zak, loadOp, Go.Abs.loadCells, binV, zal, pickV, zam, zan, zao, zap, zaq, zar, zas, zat, zau, outR, resAll, resOne, zav, zaw, zax, zay, zaz, zba, zbb, zbc, zbd, zbe, zbf, zbg, zbh, zbi, zbj, zbk, storeOp, storeCell, overlay, zbl, zbm, zbn, lookupOp, keyT, okRes, mapUpdateOp, zbo, zbp, zbq, zbr, zbs, zbt, zbu, Nat.reduceSub, Nat.reduceAdd, Int.reduceLT, Int.reduceLE, Int.reduceAdd, Int.reduceSub, Int.reduceToNat, Int.reduceBEq, Int.reduceBNe, Int.reduceMul, Nat.reduceBEq, Nat.reduceBNe, Nat.reduceLT, Nat.reduceLeDiff, Nat.reduceMul, Nat.reduceEqDiff, WD, effB, effH, isPriv, isHeap, isImm, zbx, zby, zbz, chkO, setD, dslot, zca, zcb, zcc, zcd, ptrCells_some, F20]
    refine wC_dr alts20_1 (by kernel_rfl) ?_
    simp only [WW, partV, eqCells, eqLf, minV, maxV, ifcV, zaa, zab, zac, zad, zae, zaf, zag, zah, zai, ofConst, ofConst1, List.replicate, zaj, zak, loadOp, Go.Abs.loadCells, binV, zal, pickV, zam, zan, zao, zap, zaq, zar, zas, zat, zau, outR, resAll, resOne, zav, zaw, zax, zay, zaz, zba, zbb, zbc, zbd, zbe, zbf, zbg, zbh, zbi, zbj, zbk, storeOp, storeCell, overlay, zbl, zbm, zbn, lookupOp, keyT, okRes, mapUpdateOp, zbo, zbp, zbq, zbr, zbs, zbt, zbu, Nat.reduceSub, Nat.reduceAdd, Int.reduceLT, Int.reduceLE, Int.reduceAdd, Int.reduceSub, Int.reduceToNat, Int.reduceBEq, Int.reduceBNe, Int.reduceMul, Nat.reduceBEq, Nat.reduceBNe, Nat.reduceLT, Nat.reduceLeDiff, Nat.reduceMul, Nat.reduceEqDiff, WD, effB, effH, isPriv, isHeap, isImm, zbx, zby, zbz, chkO, setD, dslot, zca, zcb, zcc, zcd, ptrCells_some, F20, hb, hx.shutIn, hx.len, by8_len, alts20_1]
    refine cSplit (fun hlt => ?_) (fun hge => ?_)
    · have hi2 : i < L.length := by have := of_decide_eq_true hlt; omega
      have hc : L[i]? = some L[i] := List.getElem?_eq_getElem hi2
      generalize L[i] = c at hc
      have hc8 : (by8 L)[i]? = some (byteV c) := by simp [by8, hc]
      have hat := hx.at_ (sz := 1) hc8 rfl
      rw [drop_cons hc] at hs
      have hp1 : IntKind.i64.wrap ((i : Int) + 1) = ((i + 1 : Nat) : Int) := by rw [IntWalk.i64_in _ (by omega)]; omega
      simp only [hlt]
      simp only [WW, partV, eqCells, eqLf, minV, maxV, ifcV, zaa, zab, zac, zad, zae, zaf, zag, zah, zai, ofConst, ofConst1, List.replicate, zaj, zak, loadOp, Go.Abs.loadCells, binV, zal, pickV, zam, zan, zao, zap, zaq, zar, zas, zat, zau, outR, resAll, resOne, zav, zaw, zax, zay, zaz, zba, zbb, zbc, zbd, zbe, zbf, zbg, zbh, zbi, zbj, zbk, storeOp, storeCell, overlay, zbl, zbm, zbn, lookupOp, keyT, okRes, mapUpdateOp, zbo, zbp, zbq, zbr, zbs, zbt, zbu, Nat.reduceSub, Nat.reduceAdd, Int.reduceLT, Int.reduceLE, Int.reduceAdd, Int.reduceSub, Int.reduceToNat, Int.reduceBEq, Int.reduceBNe, Int.reduceMul, Nat.reduceBEq, Nat.reduceBNe, Nat.reduceLT, Nat.reduceLeDiff, Nat.reduceMul, Nat.reduceEqDiff, WD, effB, effH, isPriv, isHeap, isImm, zbx, zby, zbz, chkO, setD, dslot, zca, zcb, zcc, zcd, ptrCells_some, F20]
      refine wC_dr alts20_3 (by kernel_rfl) ?_
      simp only [WW, partV, eqCells, eqLf, minV, maxV, ifcV, zaa, zab, zac, zad, zae, zaf, zag, zah, zai, ofConst, ofConst1, List.replicate, zaj, zak, loadOp, Go.Abs.loadCells, binV, zal, pickV, zam, zan, zao, zap, zaq, zar, zas, zat, zau, outR, resAll, resOne, zav, zaw, zax, zay, zaz, zba, zbb, zbc, zbd, zbe, zbf, zbg, zbh, zbi, zbj, zbk, storeOp, storeCell, overlay, zbl, zbm, zbn, lookupOp, keyT, okRes, mapUpdateOp, zbo, zbp, zbq, zbr, zbs, zbt, zbu, Nat.reduceSub, Nat.reduceAdd, Int.reduceLT, Int.reduceLE, Int.reduceAdd, Int.reduceSub, Int.reduceToNat, Int.reduceBEq, Int.reduceBNe, Int.reduceMul, Nat.reduceBEq, Nat.reduceBNe, Nat.reduceLT, Nat.reduceLeDiff, Nat.reduceMul, Nat.reduceEqDiff, WD, effB, effH, isPriv, isHeap, isImm, zbx, zby, zbz, chkO, setD, dslot, zca, zcb, zcc, zcd, ptrCells_some, F20, hb, hx.shutIn, hat.at1 hx, hat.cells, alts20_3, byteV]
      have e10 : (((c.toNat : Nat) : Int) == 10) = (c == 10) := u8b c 10
      have e32 : (((c.toNat : Nat) : Int) == 32) = (c == 32) := u8b c 32
      have e9 : (((c.toNat : Nat) : Int) == 9) = (c == 9) := u8b c 9
      have e13 : (((c.toNat : Nat) : Int) == 13) = (c == 13) := u8b c 13
      have e35 : (((c.toNat : Nat) : Int) == 35) = (c == 35) := u8b c 35
      cases h10 : (c == 10) with
      | true =>
        simp only [WW, partV, eqCells, eqLf, minV, maxV, ifcV, zaa, zab, zac, zad, zae, zaf, zag, zah, zai, ofConst, ofConst1, List.replicate, zaj, zak, loadOp, Go.Abs.loadCells, binV, zal, pickV, zam, zan, zao, zap, zaq, zar, zas, zat, zau, outR, resAll, resOne, zav, zaw, zax, zay, zaz, zba, zbb, zbc, zbd, zbe, zbf, zbg, zbh, zbi, zbj, zbk, storeOp, storeCell, overlay, zbl, zbm, zbn, lookupOp, keyT, okRes, mapUpdateOp, zbo, zbp, zbq, zbr, zbs, zbt, zbu, Nat.reduceSub, Nat.reduceAdd, Int.reduceLT, Int.reduceLE, Int.reduceAdd, Int.reduceSub, Int.reduceToNat, Int.reduceBEq, Int.reduceBNe, Int.reduceMul, Nat.reduceBEq, Nat.reduceBNe, Nat.reduceLT, Nat.reduceLeDiff, Nat.reduceMul, Nat.reduceEqDiff, WD, effB, effH, isPriv, isHeap, isImm, zbx, zby, zbz, chkO, setD, dslot, zca, zcb, zcc, zcd, ptrCells_some, F20, e10, e32, e9, e13, e35, h10, hb, storeHeap, promote, heapSet, elemSet, hp1]
        refine ⟨L.length - (i + 1), by omega, i + 1, false, ?_, hC'.to _, fun b => by rw [List.set_set]; exact hset b, rfl, by omega, by omega, ?_⟩
        · simp only [WN, firstReg, growAll, zbv, zbw, norm, killS, zag, zah, zaa, zab, zbl, zat, zad, growOne, zae, zaf, zac, zas, zak, Nat.reduceLT, Nat.reduceAdd, zbj, zav, F20]
          try rfl
        · rw [← hs]
          simp only [skipN]
          rw [if_pos (eq_of_beq h10)]; omega
      | false =>
        have n10 : ¬ c = 10 := by simpa using h10
        cases nt with
        | true =>
          simp only [WW, partV, eqCells, eqLf, minV, maxV, ifcV, zaa, zab, zac, zad, zae, zaf, zag, zah, zai, ofConst, ofConst1, List.replicate, zaj, zak, loadOp, Go.Abs.loadCells, binV, zal, pickV, zam, zan, zao, zap, zaq, zar, zas, zat, zau, outR, resAll, resOne, zav, zaw, zax, zay, zaz, zba, zbb, zbc, zbd, zbe, zbf, zbg, zbh, zbi, zbj, zbk, storeOp, storeCell, overlay, zbl, zbm, zbn, lookupOp, keyT, okRes, mapUpdateOp, zbo, zbp, zbq, zbr, zbs, zbt, zbu, Nat.reduceSub, Nat.reduceAdd, Int.reduceLT, Int.reduceLE, Int.reduceAdd, Int.reduceSub, Int.reduceToNat, Int.reduceBEq, Int.reduceBNe, Int.reduceMul, Nat.reduceBEq, Nat.reduceBNe, Nat.reduceLT, Nat.reduceLeDiff, Nat.reduceMul, Nat.reduceEqDiff, WD, effB, effH, isPriv, isHeap, isImm, zbx, zby, zbz, chkO, setD, dslot, zca, zcb, zcc, zcd, ptrCells_some, F20, e10, e32, e9, e13, e35, h10, hb, storeHeap, promote, heapSet, elemSet, hp1]
          refine ⟨L.length - (i + 1), by omega, i + 1, true, ?_, hC'.to _, fun b => by rw [List.set_set]; exact hset b, rfl, by omega, by omega, ?_⟩
          · simp only [WN, firstReg, growAll, zbv, zbw, norm, killS, zag, zah, zaa, zab, zbl, zat, zad, growOne, zae, zaf, zac, zas, zak, Nat.reduceLT, Nat.reduceAdd, zbj, zav, F20]
            try rfl
          · rw [← hs]
            simp only [skipN]
            rw [if_neg n10, Bool.true_or, Bool.true_or, Bool.true_or, if_pos rfl]; omega
        | false =>
          cases h32 : (c == 32) with
          | true =>
            simp only [WW, partV, eqCells, eqLf, minV, maxV, ifcV, zaa, zab, zac, zad, zae, zaf, zag, zah, zai, ofConst, ofConst1, List.replicate, zaj, zak, loadOp, Go.Abs.loadCells, binV, zal, pickV, zam, zan, zao, zap, zaq, zar, zas, zat, zau, outR, resAll, resOne, zav, zaw, zax, zay, zaz, zba, zbb, zbc, zbd, zbe, zbf, zbg, zbh, zbi, zbj, zbk, storeOp, storeCell, overlay, zbl, zbm, zbn, lookupOp, keyT, okRes, mapUpdateOp, zbo, zbp, zbq, zbr, zbs, zbt, zbu, Nat.reduceSub, Nat.reduceAdd, Int.reduceLT, Int.reduceLE, Int.reduceAdd, Int.reduceSub, Int.reduceToNat, Int.reduceBEq, Int.reduceBNe, Int.reduceMul, Nat.reduceBEq, Nat.reduceBNe, Nat.reduceLT, Nat.reduceLeDiff, Nat.reduceMul, Nat.reduceEqDiff, WD, effB, effH, isPriv, isHeap, isImm, zbx, zby, zbz, chkO, setD, dslot, zca, zcb, zcc, zcd, ptrCells_some, F20, e10, e32, e9, e13, e35, h10, h32, hb, storeHeap, promote, heapSet, elemSet, hp1]
            refine ⟨L.length - (i + 1), by omega, i + 1, false, ?_, hC'.to _, fun b => by rw [List.set_set]; exact hset b, rfl, by omega, by omega, ?_⟩
            · simp only [WN, firstReg, growAll, zbv, zbw, norm, killS, zag, zah, zaa, zab, zbl, zat, zad, growOne, zae, zaf, zac, zas, zak, Nat.reduceLT, Nat.reduceAdd, zbj, zav, F20]
              try rfl
            · rw [← hs]
              simp only [skipN]
              rw [if_neg n10, if_pos (by simp [h32])]; omega
          | false =>
            cases h9 : (c == 9) with
            | true =>
              simp only [WW, partV, eqCells, eqLf, minV, maxV, ifcV, zaa, zab, zac, zad, zae, zaf, zag, zah, zai, ofConst, ofConst1, List.replicate, zaj, zak, loadOp, Go.Abs.loadCells, binV, zal, pickV, zam, zan, zao, zap, zaq, zar, zas, zat, zau, outR, resAll, resOne, zav, zaw, zax, zay, zaz, zba, zbb, zbc, zbd, zbe, zbf, zbg, zbh, zbi, zbj, zbk, storeOp, storeCell, overlay, zbl, zbm, zbn, lookupOp, keyT, okRes, mapUpdateOp, zbo, zbp, zbq, zbr, zbs, zbt, zbu, Nat.reduceSub, Nat.reduceAdd, Int.reduceLT, Int.reduceLE, Int.reduceAdd, Int.reduceSub, Int.reduceToNat, Int.reduceBEq, Int.reduceBNe, Int.reduceMul, Nat.reduceBEq, Nat.reduceBNe, Nat.reduceLT, Nat.reduceLeDiff, Nat.reduceMul, Nat.reduceEqDiff, WD, effB, effH, isPriv, isHeap, isImm, zbx, zby, zbz, chkO, setD, dslot, zca, zcb, zcc, zcd, ptrCells_some, F20, e10, e32, e9, e13, e35, h10, h32, h9, hb, storeHeap, promote, heapSet, elemSet, hp1]
              refine ⟨L.length - (i + 1), by omega, i + 1, false, ?_, hC'.to _, fun b => by rw [List.set_set]; exact hset b, rfl, by omega, by omega, ?_⟩
              · simp only [WN, firstReg, growAll, zbv, zbw, norm, killS, zag, zah, zaa, zab, zbl, zat, zad, growOne, zae, zaf, zac, zas, zak, Nat.reduceLT, Nat.reduceAdd, zbj, zav, F20]
                try rfl
              · rw [← hs]
                simp only [skipN]
                rw [if_neg n10, if_pos (by simp [h9])]; omega
            | false =>
              cases h13 : (c == 13) with
              | true =>
                simp only [WW, partV, eqCells, eqLf, minV, maxV, ifcV, zaa, zab, zac, zad, zae, zaf, zag, zah, zai, ofConst, ofConst1, List.replicate, zaj, zak, loadOp, Go.Abs.loadCells, binV, zal, pickV, zam, zan, zao, zap, zaq, zar, zas, zat, zau, outR, resAll, resOne, zav, zaw, zax, zay, zaz, zba, zbb, zbc, zbd, zbe, zbf, zbg, zbh, zbi, zbj, zbk, storeOp, storeCell, overlay, zbl, zbm, zbn, lookupOp, keyT, okRes, mapUpdateOp, zbo, zbp, zbq, zbr, zbs, zbt, zbu, Nat.reduceSub, Nat.reduceAdd, Int.reduceLT, Int.reduceLE, Int.reduceAdd, Int.reduceSub, Int.reduceToNat, Int.reduceBEq, Int.reduceBNe, Int.reduceMul, Nat.reduceBEq, Nat.reduceBNe, Nat.reduceLT, Nat.reduceLeDiff, Nat.reduceMul, Nat.reduceEqDiff, WD, effB, effH, isPriv, isHeap, isImm, zbx, zby, zbz, chkO, setD, dslot, zca, zcb, zcc, zcd, ptrCells_some, F20, e10, e32, e9, e13, e35, h10, h32, h9, h13, hb, storeHeap, promote, heapSet, elemSet, hp1]
                refine ⟨L.length - (i + 1), by omega, i + 1, false, ?_, hC'.to _, fun b => by rw [List.set_set]; exact hset b, rfl, by omega, by omega, ?_⟩
                · simp only [WN, firstReg, growAll, zbv, zbw, norm, killS, zag, zah, zaa, zab, zbl, zat, zad, growOne, zae, zaf, zac, zas, zak, Nat.reduceLT, Nat.reduceAdd, zbj, zav, F20]
                  try rfl
                · rw [← hs]
                  simp only [skipN]
                  rw [if_neg n10, if_pos (by simp [h13])]; omega
              | false =>
                cases h35 : (c == 35) with
                | true =>
                  simp only [WW, partV, eqCells, eqLf, minV, maxV, ifcV, zaa, zab, zac, zad, zae, zaf, zag, zah, zai, ofConst, ofConst1, List.replicate, zaj, zak, loadOp, Go.Abs.loadCells, binV, zal, pickV, zam, zan, zao, zap, zaq, zar, zas, zat, zau, outR, resAll, resOne, zav, zaw, zax, zay, zaz, zba, zbb, zbc, zbd, zbe, zbf, zbg, zbh, zbi, zbj, zbk, storeOp, storeCell, overlay, zbl, zbm, zbn, lookupOp, keyT, okRes, mapUpdateOp, zbo, zbp, zbq, zbr, zbs, zbt, zbu, Nat.reduceSub, Nat.reduceAdd, Int.reduceLT, Int.reduceLE, Int.reduceAdd, Int.reduceSub, Int.reduceToNat, Int.reduceBEq, Int.reduceBNe, Int.reduceMul, Nat.reduceBEq, Nat.reduceBNe, Nat.reduceLT, Nat.reduceLeDiff, Nat.reduceMul, Nat.reduceEqDiff, WD, effB, effH, isPriv, isHeap, isImm, zbx, zby, zbz, chkO, setD, dslot, zca, zcb, zcc, zcd, ptrCells_some, F20, e10, e32, e9, e13, e35, h10, h32, h9, h13, h35, hb, storeHeap, promote, heapSet, elemSet, hp1]
                  refine ⟨L.length - (i + 1), by omega, i + 1, true, ?_, hC'.to _, fun b => by rw [List.set_set]; exact hset b, rfl, by omega, by omega, ?_⟩
                  · simp only [WN, firstReg, growAll, zbv, zbw, norm, killS, zag, zah, zaa, zab, zbl, zat, zad, growOne, zae, zaf, zac, zas, zak, Nat.reduceLT, Nat.reduceAdd, zbj, zav, F20]
                    try rfl
                  · rw [← hs]
                    simp only [skipN]
                    rw [if_neg n10, if_neg (by simp [h32, h9, h13]), if_pos (eq_of_beq h35)]; omega
                | false =>
                  simp only [WW, partV, eqCells, eqLf, minV, maxV, ifcV, zaa, zab, zac, zad, zae, zaf, zag, zah, zai, ofConst, ofConst1, List.replicate, zaj, zak, loadOp, Go.Abs.loadCells, binV, zal, pickV, zam, zan, zao, zap, zaq, zar, zas, zat, zau, outR, resAll, resOne, zav, zaw, zax, zay, zaz, zba, zbb, zbc, zbd, zbe, zbf, zbg, zbh, zbi, zbj, zbk, storeOp, storeCell, overlay, zbl, zbm, zbn, lookupOp, keyT, okRes, mapUpdateOp, zbo, zbp, zbq, zbr, zbs, zbt, zbu, Nat.reduceSub, Nat.reduceAdd, Int.reduceLT, Int.reduceLE, Int.reduceAdd, Int.reduceSub, Int.reduceToNat, Int.reduceBEq, Int.reduceBNe, Int.reduceMul, Nat.reduceBEq, Nat.reduceBNe, Nat.reduceLT, Nat.reduceLeDiff, Nat.reduceMul, Nat.reduceEqDiff, WD, effB, effH, isPriv, isHeap, isImm, zbx, zby, zbz, chkO, setD, dslot, zca, zcb, zcc, zcd, ptrCells_some, F20, e10, e32, e9, e13, e35, h10, h32, h9, h13, h35]
                  have n35 : ¬ c = 35 := by simpa using h35
                  have e0 : skipN false (c :: L.drop (i + 1)) = 0 := by simp only [skipN]; rw [if_neg n10, if_neg (by simp [h32, h9, h13]), if_neg n35]
                  rw [e0, Nat.add_zero] at hs
                  rw [← hs, ← hset]
                  exact hC'.self.symm
    · have hi2 : i = L.length := by have := of_decide_eq_false hge; omega
      simp only [hge]
      simp only [WW, partV, eqCells, eqLf, minV, maxV, ifcV, zaa, zab, zac, zad, zae, zaf, zag, zah, zai, ofConst, ofConst1, List.replicate, zaj, zak, loadOp, Go.Abs.loadCells, binV, zal, pickV, zam, zan, zao, zap, zaq, zar, zas, zat, zau, outR, resAll, resOne, zav, zaw, zax, zay, zaz, zba, zbb, zbc, zbd, zbe, zbf, zbg, zbh, zbi, zbj, zbk, storeOp, storeCell, overlay, zbl, zbm, zbn, lookupOp, keyT, okRes, mapUpdateOp, zbo, zbp, zbq, zbr, zbs, zbt, zbu, Nat.reduceSub, Nat.reduceAdd, Int.reduceLT, Int.reduceLE, Int.reduceAdd, Int.reduceSub, Int.reduceToNat, Int.reduceBEq, Int.reduceBNe, Int.reduceMul, Nat.reduceBEq, Nat.reduceBNe, Nat.reduceLT, Nat.reduceLeDiff, Nat.reduceMul, Nat.reduceEqDiff, WD, effB, effH, isPriv, isHeap, isImm, zbx, zby, zbz, chkO, setD, dslot, zca, zcb, zcc, zcd, ptrCells_some, F20]
      rw [hi2, List.drop_of_length_le (Nat.le_refl _)] at hs
      simp only [skipN, Nat.add_zero] at hs
      rw [← hs, ← hset, ← hi2]
      exact hC'.self.symm
end Go.Proofs.YtcmndnkeoepmoaaDoor

namespace Go.Proofs.YtcmndnkeoepmoaaDoor
open Go Go.Abs Go.Proofs
set_option maxRecDepth 100000
set_option maxHeartbeats 1000000
set_option linter.unusedVariables false
set_option linter.unusedSimpArgs false
theorem bytesOf_by8 : ∀ L : List UInt8, bytesOf (by8 L) = some L
  | [] => rfl
  | c :: r => by
    have ih := bytesOf_by8 r
    have h1 := c.toNat_lt
    simp only [by8, List.map_cons, byteV, bytesOf] at *
    rw [ih]
    have e : Abs.byteOf (V.int IntKind.u8 ((c.toNat : Nat) : Int)) = some c := by
      unfold Abs.byteOf
      simp
    rw [e]; rfl
theorem wide_by8 (L : List UInt8) : wideAll (by8 L) 1 = true := by
  unfold wideAll by8
  rw [List.all_eq_true]
  intro x hx
  obtain ⟨c, _, rfl⟩ := List.mem_map.1 hx
  rfl
theorem Bx.cut {x : V} {L : List UInt8} (h : Bx x L) {p q : Nat} (hpq : p ≤ q) (hq : q ≤ L.length) (H : Hp) :
    ∃ y, (∀ st, sliceOp Tryd.prog st H 22 x (some (.int .i64 (p : Int))) (some (.int .i64 (q : Int))) none = some y) ∧ Bx y ((L.take q).drop p) := by
  have h22 : ixT Tryd.prog 22 = .sl 5 := by kernel_rfl
  have h3 : sizeT Tryd.prog 5 = 1 := by kernel_rfl
  rcases h with ⟨rfl, rfl⟩ | rfl
  · have : p = 0 ∧ q = 0 := by simp at hq; omega
    obtain ⟨rfl, rfl⟩ := this
    exact ⟨.nils, fun st => by simp [sliceOp, h22, viewV, sealV, boundV], .inl ⟨rfl, rfl⟩⟩
  · refine ⟨.rsl (((by8 L).take q).drop p), fun st => ?_, .inr ?_⟩
    · simp [sliceOp, h22, viewV, sealV, boundV, h3, wide_by8, by8_len, hpq, hq]
    · simp [by8, List.map_take, List.map_drop]
theorem str_of {x : V} {L : List UInt8} (h : Bx x L) (H : Hp) (st : St) (d : Option Nat) (m : Abs.Mode) : convertOp Tryd.prog m st H d 22 9 x = some (putS st d (.v (.str ⟨L.toArray⟩)), H) := by
  have h9 : tk Tryd.prog 9 = .str := by kernel_rfl
  have h22 : tk Tryd.prog 22 = .slice 5 := by kernel_rfl
  have h5 : tk Tryd.prog 5 = .int .u8 := by kernel_rfl
  simp [convertOp, h9, h22, h5, (h.rd H).cont, strOf, bytesOf_by8]
theorem By.cut {w : Nat} {x : V} {L : List UInt8} {H : Hp} (h : By H w x L) {p q : Nat} (hpq : p ≤ q) (hq : q ≤ L.length) :
    ∃ y, (∀ st, sliceOp Tryd.prog st H 22 x (some (.int .i64 (p : Int))) (some (.int .i64 (q : Int))) none = some y) ∧ Rd H y (by8 ((L.take q).drop p)) := by
  have h22 : ixT Tryd.prog 22 = .sl 5 := by kernel_rfl
  have h3 : sizeT Tryd.prog 5 = 1 := by kernel_rfl
  rcases h with h | ⟨id, rfl, _, h⟩
  · obtain ⟨y, h1, h2⟩ := h.cut hpq hq H
    exact ⟨y, h1, h2.rd H⟩
  · have hl : (by8 L).length = L.length := by8_len L
    have hmap : by8 ((L.take q).drop p) = ((by8 L).drop p).take (q - p) := by
      rw [← List.drop_take]; simp [by8, List.map_take, List.map_drop]
    have hq2 : q ≤ (by8 L).length := by omega
    refine ⟨if p = 0 then .sl id 0 q else if p = q then .rsl [] else .sl id p (q - p), fun st => ?_, ?_⟩
    · simp [sliceOp, h22, viewV, sealV, boundV, h3, wide_by8, by8_len, hpq, hq, h]
    · rw [hmap]
      split
      · rename_i e; subst e
        rw [Nat.sub_zero]
        exact Rd.sl id 0 q (by8 L) h (by omega)
      · split
        · rename_i e; subst e
          rw [Nat.sub_self]; exact Rd.rsl _
        · exact Rd.sl id p (q - p) (by8 L) h (by omega)
theorem str_rd {x : V} {L : List UInt8} {H : Hp} (h : Rd H x (by8 L)) (st : St) (d : Option Nat) (m : Abs.Mode) : convertOp Tryd.prog m st H d 22 9 x = some (putS st d (.v (.str ⟨L.toArray⟩)), H) := by
  have h9 : tk Tryd.prog 9 = .str := by kernel_rfl
  have h22 : tk Tryd.prog 22 = .slice 5 := by kernel_rfl
  have h5 : tk Tryd.prog 5 = .int .u8 := by kernel_rfl
  simp [convertOp, h9, h22, h5, h.cont, strOf, bytesOf_by8]
theorem run_spec {H : Hp} {w : Nat} {x : V} {L : List UInt8} {p : Nat} {fid : FuncId} {P : Int → Bool} (hcl : callable Tryd.prog fid = true) (hP : ∀ c H, EW fid [.int .u8 c] H = some (.ret (.bool (P c)) false, H))
    (hB : By H w x L) (hC : Ct H w x p) (hp : p ≤ L.length) (hL : L.length ≤ 4611686018427387904) :
    wpCall EW 36 [.ptr w 0 0, .fn fid [] []] H (fun out H' => out = .ret (.str ⟨((L.drop p).takeWhile fun c => P c.toNat).toArray⟩) false ∧ H' = H.set w (ctr x ((p + ((L.drop p).takeWhile fun c => P c.toNat).length : Nat) : Int))) := by
  refine runs f36 b36 r36 n36 _ _ ?_
  simp only [bodyOf, Tryd.f36, Option.getD_some]
  have hb0 : H[w]? = some (.cells [.agg [x, .int .i64 (p : Int)]]) := hC
  simp only [WW, partV, eqCells, eqLf, minV, maxV, ifcV, zaa, zab, zac, zad, zae, zaf, zag, zah, zai, ofConst, ofConst1, List.replicate, zaj, zak, loadOp, Go.Abs.loadCells, binV, zal, pickV, zam, zan, zao, zap, zaq, zar, zas, zat, zau, outR, resAll, resOne, zav, zaw, zax, zay, zaz, zba, zbb, zbc, zbd, zbe, zbf, zbg, zbh, zbi, zbj, zbk, storeOp, storeCell, overlay, zbl, zbm, zbn, lookupOp, keyT, okRes, mapUpdateOp, zbo, zbp, zbq, zbr, zbs, zbt, zbu, Nat.reduceSub, Nat.reduceAdd, Int.reduceLT, Int.reduceLE, Int.reduceAdd, Int.reduceSub, Int.reduceToNat, Int.reduceBEq, Int.reduceBNe, Int.reduceMul, Nat.reduceBEq, Nat.reduceBNe, Nat.reduceLT, Nat.reduceLeDiff, Nat.reduceMul, Nat.reduceEqDiff, WD, effB, effH, isPriv, isHeap, isImm, zbx, zby, zbz, chkO, setD, dslot, zca, zcb, zcc, zcd, ptrCells_some, F36, hb0]
  refine wC_loop _ (fun k st' H' => ∃ i : Nat, st' = ⟨L36_2 (.v (.ptr w 0 0)) (.v (.fn fid [] [])) (.v (.int .i64 (p : Int))), [], []⟩ ∧ Ct H' w x (i : Int) ∧ (∀ b, H'.set w b = H.set w b) ∧ k = L.length - i ∧ p ≤ i ∧ i ≤ L.length ∧ (L.take i).drop p ++ (L.drop i).takeWhile (fun c => P c.toNat) = (L.drop p).takeWhile (fun c => P c.toNat)) (L.length - p) ⟨p, ?_, hC, fun _ => rfl, rfl, Nat.le_refl _, hp, by rw [List.drop_of_length_le (by simp; omega)]; rfl⟩ ?_
  · simp only [WN, firstReg, growAll, zbv, zbw, norm, killS, zag, zah, zaa, zab, zbl, zat, zad, growOne, zae, zaf, zac, zas, zak, Nat.reduceLT, Nat.reduceAdd, zbj, zav, F36, L36_2]
  · rintro k st' H' ⟨i, rfl, hC', hset, rfl, hpi, hi, hs⟩
    simp only [L36_2]
    have hx := (hB.same hset).rd
    have hb : H'[w]? = some (.cells [.agg [x, .int .i64 (i : Int)]]) := hC'
    obtain ⟨y, hcut, hy⟩ := (hB.same hset).cut hpi hi
    have hdone : (L.drop i).takeWhile (fun c => P c.toNat) = [] → (L.drop p).takeWhile (fun c => P c.toNat) = (L.take i).drop p ∧ H' = H.set w (ctr x ((p + ((L.drop p).takeWhile fun c => P c.toNat).length : Nat) : Int)) := fun h => by
      rw [h, List.append_nil] at hs
      refine ⟨hs.symm, ?_⟩
      rw [← hs, ← hset]
      have : p + ((L.take i).drop p).length = i := by simp; omega
      rw [this]
      exact hC'.self.symm
    simp only [WW, partV, eqCells, eqLf, minV, maxV, ifcV, zaa, zab, zac, zad, zae, zaf, zag, zah, zai, ofConst, ofConst1, List.replicate, zaj, zak, loadOp, Go.Abs.loadCells, binV, zal, pickV, zam, zan, zao, zap, zaq, zar, zas, zat, zau, outR, resAll, resOne, zav, zaw, zax, zay, zaz, zba, zbb, zbc, zbd, zbe, zbf, zbg, zbh, zbi, zbj, zbk, storeOp, storeCell, overlay, zbl, zbm, zbn, lookupOp, keyT, okRes, mapUpdateOp, zbo, zbp, zbq, zbr, zbs, zbt, zbu, Nat.reduceSub, Nat.reduceAdd, Int.reduceLT, Int.reduceLE, Int.reduceAdd, Int.reduceSub, Int.reduceToNat, Int.reduceBEq, Int.reduceBNe, Int.reduceMul, Nat.reduceBEq, Nat.reduceBNe, Nat.reduceLT, Nat.reduceLeDiff, Nat.reduceMul, Nat.reduceEqDiff, WD, effB, effH, isPriv, isHeap, isImm, zbx, zby, zbz, chkO, setD, dslot, zca, zcb, zcc, zcd, ptrCells_some, F36]
    refine wC_dr alts36_2 (by kernel_rfl) ?_
    simp only [WW, partV, eqCells, eqLf, minV, maxV, ifcV, zaa, zab, zac, zad, zae, zaf, zag, zah, zai, ofConst, ofConst1, List.replicate, zaj, zak, loadOp, Go.Abs.loadCells, binV, zal, pickV, zam, zan, zao, zap, zaq, zar, zas, zat, zau, outR, resAll, resOne, zav, zaw, zax, zay, zaz, zba, zbb, zbc, zbd, zbe, zbf, zbg, zbh, zbi, zbj, zbk, storeOp, storeCell, overlay, zbl, zbm, zbn, lookupOp, keyT, okRes, mapUpdateOp, zbo, zbp, zbq, zbr, zbs, zbt, zbu, Nat.reduceSub, Nat.reduceAdd, Int.reduceLT, Int.reduceLE, Int.reduceAdd, Int.reduceSub, Int.reduceToNat, Int.reduceBEq, Int.reduceBNe, Int.reduceMul, Nat.reduceBEq, Nat.reduceBNe, Nat.reduceLT, Nat.reduceLeDiff, Nat.reduceMul, Nat.reduceEqDiff, WD, effB, effH, isPriv, isHeap, isImm, zbx, zby, zbz, chkO, setD, dslot, zca, zcb, zcc, zcd, ptrCells_some, F36, hb, hx.shutIn, hx.len, by8_len, alts36_2]
    refine gSplit (fun hlt => ?_) (fun hge => ?_)
    · have hi2 : i < L.length := by have := of_decide_eq_true hlt; omega
      have hc : L[i]? = some L[i] := List.getElem?_eq_getElem hi2
      generalize L[i] = c at hc
      have hc8 : (by8 L)[i]? = some (byteV c) := by simp [by8, hc]
      have hat := hx.at_ (sz := 1) hc8 rfl
      have hp1 : IntKind.i64.wrap ((i : Int) + 1) = ((i + 1 : Nat) : Int) := by rw [IntWalk.i64_in _ (by omega)]; omega
      simp only [hlt]
      simp only [WW, partV, eqCells, eqLf, minV, maxV, ifcV, zaa, zab, zac, zad, zae, zaf, zag, zah, zai, ofConst, ofConst1, List.replicate, zaj, zak, loadOp, Go.Abs.loadCells, binV, zal, pickV, zam, zan, zao, zap, zaq, zar, zas, zat, zau, outR, resAll, resOne, zav, zaw, zax, zay, zaz, zba, zbb, zbc, zbd, zbe, zbf, zbg, zbh, zbi, zbj, zbk, storeOp, storeCell, overlay, zbl, zbm, zbn, lookupOp, keyT, okRes, mapUpdateOp, zbo, zbp, zbq, zbr, zbs, zbt, zbu, Nat.reduceSub, Nat.reduceAdd, Int.reduceLT, Int.reduceLE, Int.reduceAdd, Int.reduceSub, Int.reduceToNat, Int.reduceBEq, Int.reduceBNe, Int.reduceMul, Nat.reduceBEq, Nat.reduceBNe, Nat.reduceLT, Nat.reduceLeDiff, Nat.reduceMul, Nat.reduceEqDiff, WD, effB, effH, isPriv, isHeap, isImm, zbx, zby, zbz, chkO, setD, dslot, zca, zcb, zcc, zcd, ptrCells_some, F36, hb, hx.shutIn, hat.at1 hx, hat.cells, byteV, hcl, alts36_2]
      rw [wpCall_eq (hP _ _)]
      simp only [WW, partV, eqCells, eqLf, minV, maxV, ifcV, zaa, zab, zac, zad, zae, zaf, zag, zah, zai, ofConst, ofConst1, List.replicate, zaj, zak, loadOp, Go.Abs.loadCells, binV, zal, pickV, zam, zan, zao, zap, zaq, zar, zas, zat, zau, outR, resAll, resOne, zav, zaw, zax, zay, zaz, zba, zbb, zbc, zbd, zbe, zbf, zbg, zbh, zbi, zbj, zbk, storeOp, storeCell, overlay, zbl, zbm, zbn, lookupOp, keyT, okRes, mapUpdateOp, zbo, zbp, zbq, zbr, zbs, zbt, zbu, Nat.reduceSub, Nat.reduceAdd, Int.reduceLT, Int.reduceLE, Int.reduceAdd, Int.reduceSub, Int.reduceToNat, Int.reduceBEq, Int.reduceBNe, Int.reduceMul, Nat.reduceBEq, Nat.reduceBNe, Nat.reduceLT, Nat.reduceLeDiff, Nat.reduceMul, Nat.reduceEqDiff, WD, effB, effH, isPriv, isHeap, isImm, zbx, zby, zbz, chkO, setD, dslot, zca, zcb, zcc, zcd, ptrCells_some, F36, alts36_2]
      cases hPc : P c.toNat with
      | true =>
        simp only [WW, partV, eqCells, eqLf, minV, maxV, ifcV, zaa, zab, zac, zad, zae, zaf, zag, zah, zai, ofConst, ofConst1, List.replicate, zaj, zak, loadOp, Go.Abs.loadCells, binV, zal, pickV, zam, zan, zao, zap, zaq, zar, zas, zat, zau, outR, resAll, resOne, zav, zaw, zax, zay, zaz, zba, zbb, zbc, zbd, zbe, zbf, zbg, zbh, zbi, zbj, zbk, storeOp, storeCell, overlay, zbl, zbm, zbn, lookupOp, keyT, okRes, mapUpdateOp, zbo, zbp, zbq, zbr, zbs, zbt, zbu, Nat.reduceSub, Nat.reduceAdd, Int.reduceLT, Int.reduceLE, Int.reduceAdd, Int.reduceSub, Int.reduceToNat, Int.reduceBEq, Int.reduceBNe, Int.reduceMul, Nat.reduceBEq, Nat.reduceBNe, Nat.reduceLT, Nat.reduceLeDiff, Nat.reduceMul, Nat.reduceEqDiff, WD, effB, effH, isPriv, isHeap, isImm, zbx, zby, zbz, chkO, setD, dslot, zca, zcb, zcc, zcd, ptrCells_some, F36, hb, storeHeap, promote, heapSet, elemSet, hp1, alts36_2]
        refine ⟨L.length - (i + 1), by omega, i + 1, ?_, hC'.to _, fun b => by rw [List.set_set]; exact hset b, rfl, by omega, by omega, ?_⟩
        · simp only [WN, firstReg, growAll, zbv, zbw, norm, killS, zag, zah, zaa, zab, zbl, zat, zad, growOne, zae, zaf, zac, zas, zak, Nat.reduceLT, Nat.reduceAdd, zbj, zav, F36]
          try rfl
        · rw [← hs, drop_cons hc, List.takeWhile_cons, if_pos hPc, List.take_add_one, hc, List.drop_append_of_le_length (by simp; omega)]
          simp
      | false =>
        have hz : (L.drop i).takeWhile (fun c => P c.toNat) = [] := by rw [drop_cons hc, List.takeWhile_cons, if_neg (by simp [hPc])]
        simp only [WW, partV, eqCells, eqLf, minV, maxV, ifcV, zaa, zab, zac, zad, zae, zaf, zag, zah, zai, ofConst, ofConst1, List.replicate, zaj, zak, loadOp, Go.Abs.loadCells, binV, zal, pickV, zam, zan, zao, zap, zaq, zar, zas, zat, zau, outR, resAll, resOne, zav, zaw, zax, zay, zaz, zba, zbb, zbc, zbd, zbe, zbf, zbg, zbh, zbi, zbj, zbk, storeOp, storeCell, overlay, zbl, zbm, zbn, lookupOp, keyT, okRes, mapUpdateOp, zbo, zbp, zbq, zbr, zbs, zbt, zbu, Nat.reduceSub, Nat.reduceAdd, Int.reduceLT, Int.reduceLE, Int.reduceAdd, Int.reduceSub, Int.reduceToNat, Int.reduceBEq, Int.reduceBNe, Int.reduceMul, Nat.reduceBEq, Nat.reduceBNe, Nat.reduceLT, Nat.reduceLeDiff, Nat.reduceMul, Nat.reduceEqDiff, WD, effB, effH, isPriv, isHeap, isImm, zbx, zby, zbz, chkO, setD, dslot, zca, zcb, zcc, zcd, ptrCells_some, F36, alts36_2]
        refine wC_dr alts36_4 (by kernel_rfl) ?_
        simp only [WW, partV, eqCells, eqLf, minV, maxV, ifcV, zaa, zab, zac, zad, zae, zaf, zag, zah, zai, ofConst, ofConst1, List.replicate, zaj, zak, loadOp, Go.Abs.loadCells, binV, zal, pickV, zam, zan, zao, zap, zaq, zar, zas, zat, zau, outR, resAll, resOne, zav, zaw, zax, zay, zaz, zba, zbb, zbc, zbd, zbe, zbf, zbg, zbh, zbi, zbj, zbk, storeOp, storeCell, overlay, zbl, zbm, zbn, lookupOp, keyT, okRes, mapUpdateOp, zbo, zbp, zbq, zbr, zbs, zbt, zbu, Nat.reduceSub, Nat.reduceAdd, Int.reduceLT, Int.reduceLE, Int.reduceAdd, Int.reduceSub, Int.reduceToNat, Int.reduceBEq, Int.reduceBNe, Int.reduceMul, Nat.reduceBEq, Nat.reduceBNe, Nat.reduceLT, Nat.reduceLeDiff, Nat.reduceMul, Nat.reduceEqDiff, WD, effB, effH, isPriv, isHeap, isImm, zbx, zby, zbz, chkO, setD, dslot, zca, zcb, zcc, zcd, ptrCells_some, F36, hb, hx.shutIn, hcut, hy.shutIn, str_rd hy, alts36_4, Option.map_none]
        rw [(hdone hz).1]
        refine ⟨rfl, ?_⟩
        rw [← (hdone hz).1]
        exact (hdone hz).2
    · have hi2 : i = L.length := by have := of_decide_eq_false hge; omega
      have hz : (L.drop i).takeWhile (fun c => P c.toNat) = [] := by rw [hi2, List.drop_of_length_le (Nat.le_refl _)]; rfl
      simp only [hge]
      simp only [WW, partV, eqCells, eqLf, minV, maxV, ifcV, zaa, zab, zac, zad, zae, zaf, zag, zah, zai, ofConst, ofConst1, List.replicate, zaj, zak, loadOp, Go.Abs.loadCells, binV, zal, pickV, zam, zan, zao, zap, zaq, zar, zas, zat, zau, outR, resAll, resOne, zav, zaw, zax, zay, zaz, zba, zbb, zbc, zbd, zbe, zbf, zbg, zbh, zbi, zbj, zbk, storeOp, storeCell, overlay, zbl, zbm, zbn, lookupOp, keyT, okRes, mapUpdateOp, zbo, zbp, zbq, zbr, zbs, zbt, zbu, Nat.reduceSub, Nat.reduceAdd, Int.reduceLT, Int.reduceLE, Int.reduceAdd, Int.reduceSub, Int.reduceToNat, Int.reduceBEq, Int.reduceBNe, Int.reduceMul, Nat.reduceBEq, Nat.reduceBNe, Nat.reduceLT, Nat.reduceLeDiff, Nat.reduceMul, Nat.reduceEqDiff, WD, effB, effH, isPriv, isHeap, isImm, zbx, zby, zbz, chkO, setD, dslot, zca, zcb, zcc, zcd, ptrCells_some, F36, alts36_2]
      refine wC_dr alts36_4 (by kernel_rfl) ?_
      simp only [WW, partV, eqCells, eqLf, minV, maxV, ifcV, zaa, zab, zac, zad, zae, zaf, zag, zah, zai, ofConst, ofConst1, List.replicate, zaj, zak, loadOp, Go.Abs.loadCells, binV, zal, pickV, zam, zan, zao, zap, zaq, zar, zas, zat, zau, outR, resAll, resOne, zav, zaw, zax, zay, zaz, zba, zbb, zbc, zbd, zbe, zbf, zbg, zbh, zbi, zbj, zbk, storeOp, storeCell, overlay, zbl, zbm, zbn, lookupOp, keyT, okRes, mapUpdateOp, zbo, zbp, zbq, zbr, zbs, zbt, zbu, Nat.reduceSub, Nat.reduceAdd, Int.reduceLT, Int.reduceLE, Int.reduceAdd, Int.reduceSub, Int.reduceToNat, Int.reduceBEq, Int.reduceBNe, Int.reduceMul, Nat.reduceBEq, Nat.reduceBNe, Nat.reduceLT, Nat.reduceLeDiff, Nat.reduceMul, Nat.reduceEqDiff, WD, effB, effH, isPriv, isHeap, isImm, zbx, zby, zbz, chkO, setD, dslot, zca, zcb, zcc, zcd, ptrCells_some, F36, hb, hx.shutIn, hcut, hy.shutIn, str_rd hy, alts36_4, Option.map_none]
      rw [(hdone hz).1]
      refine ⟨rfl, ?_⟩
      rw [← (hdone hz).1]
      exact (hdone hz).2
end Go.Proofs.YtcmndnkeoepmoaaDoor

namespace Go.Proofs.YtcmndnkeoepmoaaDoor
open Go Go.Abs Go.Proofs
set_option maxRecDepth 100000
set_option maxHeartbeats 1000000
set_option linter.unusedVariables false
set_option linter.unusedSimpArgs false
def decL (n : Nat) : List UInt8 := if n < 10 then [UInt8.ofNat (48 + n)] else decL (n / 10) ++ [UInt8.ofNat (48 + n % 10)]
termination_by n
decreasing_by omega
theorem decL_small {n : Nat} (h : n < 10) : decL n = [UInt8.ofNat (48 + n)] := by rw [decL, if_pos h]
theorem decL_big {n : Nat} (h : ¬ n < 10) : decL n = decL (n / 10) ++ [UInt8.ofNat (48 + n % 10)] := by rw [decL, if_neg h]
theorem ba_app (a b : List UInt8) : (⟨a.toArray⟩ : ByteArray) ++ (⟨b.toArray⟩ : ByteArray) = ⟨(a ++ b).toArray⟩ := by
  apply ByteArray.ext
  simp
theorem digV (d : Nat) (h : d < 10) : V.int .u8 (IntKind.u8.wrap (48 + (d : Int))) = byteV (UInt8.ofNat (48 + d)) := by
  unfold byteV
  congr 1
theorem dig_str (d : Nat) (st : St) (H : Hp) (k : Option Nat) (m : Abs.Mode) : convertOp Tryd.prog m st H k 22 9 (.rsl [.int .u8 (((UInt8.ofNat (48 + d)).toNat : Nat) : Int)]) = some (putS st k (.v (.str ⟨[UInt8.ofNat (48 + d)].toArray⟩)), H) :=
  str_of (L := [UInt8.ofNat (48 + d)]) (.inr rfl) H st k m
theorem conv35 (st : St) (H : Hp) (d : Option Nat) (m : Abs.Mode) (k : Int) : convertOp Tryd.prog m st H d 3 5 (.int .i64 k) = some (putS st d (.v (.int .u8 (IntKind.u8.wrap k))), H) := by
  have a : tk Tryd.prog 3 = .int .i64 := by kernel_rfl
  have b : tk Tryd.prog 5 = .int .u8 := by kernel_rfl
  simp [convertOp, a, b]
theorem digW (d : Nat) (h : d < 10) : IntKind.u8.wrap (48 + (d : Int)) = (((UInt8.ofNat (48 + d)).toNat : Nat) : Int) := by
  have := digV d h
  simpa [byteV] using this
theorem decL_len : ∀ (k n : Nat), n < 10 ^ (k + 1) → (decL n).length ≤ k + 1
  | 0, n, h => by rw [decL_small (by simpa using h)]; simp
  | k + 1, n, h => by
    by_cases hs : n < 10
    · rw [decL_small hs]; simp
    · rw [decL_big hs]
      have := decL_len k (n / 10) (by rw [Nat.div_lt_iff_lt_mul (by decide)]; rw [Nat.pow_succ] at h; exact h)
      simp only [List.length_append, List.length_cons, List.length_nil]; omega
theorem dec_eq : ∀ (n : Nat) (hn : n ≤ 9223372036854775807) (H : Hp), EW 19 [.int .i64 n] H = some (.ret (.str ⟨(decL n).toArray⟩) false, H) := by
  intro n
  induction n using Nat.strongRecOn with
  | ind n ih =>
    intro hn H
    refine eqOf (runsP f19 b19 r19 n19 _ rfl _ ?_)
    simp only [bodyOf, Tryd.f19, Option.getD_some]
    have h1 : decide ((n : Int) < 0) = false := decide_eq_false (by omega)
    simp only [WW, partV, eqCells, eqLf, minV, maxV, ifcV, zaa, zab, zac, zad, zae, zaf, zag, zah, zai, ofConst, ofConst1, List.replicate, zaj, zak, loadOp, Go.Abs.loadCells, binV, zal, pickV, zam, zan, zao, zap, zaq, zar, zas, zat, zau, outR, resAll, resOne, zav, zaw, zax, zay, zaz, zba, zbb, zbc, zbd, zbe, zbf, zbg, zbh, zbi, zbj, zbk, storeOp, storeCell, overlay, zbl, zbm, zbn, lookupOp, keyT, okRes, mapUpdateOp, zbo, zbp, zbq, zbr, zbs, zbt, zbu, Nat.reduceSub, Nat.reduceAdd, Int.reduceLT, Int.reduceLE, Int.reduceAdd, Int.reduceSub, Int.reduceToNat, Int.reduceBEq, Int.reduceBNe, Int.reduceMul, Nat.reduceBEq, Nat.reduceBNe, Nat.reduceLT, Nat.reduceLeDiff, Nat.reduceMul, Nat.reduceEqDiff, WD, effB, effH, isPriv, isHeap, isImm, zbx, zby, zbz, chkO, setD, dslot, zca, zcb, zcc, zcd, ptrCells_some, F19, h1]
    refine cSplit (fun hlt => ?_) (fun hge => ?_)
    · have h10 : n < 10 := by have := of_decide_eq_true hlt; omega
      have hw : IntKind.i64.wrap (48 + (n : Int)) = 48 + (n : Int) := IntWalk.i64_in _ (by omega)
      simp only [hlt]
      simp only [WW, partV, eqCells, eqLf, minV, maxV, ifcV, zaa, zab, zac, zad, zae, zaf, zag, zah, zai, ofConst, ofConst1, List.replicate, zaj, zak, loadOp, Go.Abs.loadCells, binV, zal, pickV, zam, zan, zao, zap, zaq, zar, zas, zat, zau, outR, resAll, resOne, zav, zaw, zax, zay, zaz, zba, zbb, zbc, zbd, zbe, zbf, zbg, zbh, zbi, zbj, zbk, storeOp, storeCell, overlay, zbl, zbm, zbn, lookupOp, keyT, okRes, mapUpdateOp, zbo, zbp, zbq, zbr, zbs, zbt, zbu, Nat.reduceSub, Nat.reduceAdd, Int.reduceLT, Int.reduceLE, Int.reduceAdd, Int.reduceSub, Int.reduceToNat, Int.reduceBEq, Int.reduceBNe, Int.reduceMul, Nat.reduceBEq, Nat.reduceBNe, Nat.reduceLT, Nat.reduceLeDiff, Nat.reduceMul, Nat.reduceEqDiff, WD, effB, effH, isPriv, isHeap, isImm, zbx, zby, zbz, chkO, setD, dslot, zca, zcb, zcc, zcd, ptrCells_some, F19, hw, conv35, digW n h10, buildSliceV, lits, frow, rowV, zbv, zbw, List.all_nil, List.all_cons, ne_eq, Nat.one_ne_zero, not_false_eq_true, dig_str]
      rw [decL_small h10]
      exact ⟨rfl, rfl⟩
    · have h10 : ¬ n < 10 := by have := of_decide_eq_false hge; omega
      simp only [hge]
      have hq : IntKind.i64.wrap ((n : Int).tdiv 10) = ((n / 10 : Nat) : Int) := by
        rw [show (n : Int).tdiv 10 = ((n / 10 : Nat) : Int) by rw [Int.tdiv_eq_ediv_of_nonneg (by omega)]; norm_cast]
        exact IntWalk.i64_in _ (by omega)
      have hr : (n : Int).tmod 10 = ((n % 10 : Nat) : Int) := by rw [Int.tmod_eq_emod_of_nonneg (by omega)]; norm_cast
      have hw : IntKind.i64.wrap (48 + ((n % 10 : Nat) : Int)) = 48 + ((n % 10 : Nat) : Int) := IntWalk.i64_in _ (by omega)
      have hdw := digW (n % 10) (by omega)
      have hl := decL_len 18 (n / 10) (by omega)
      have hsz : ¬ (IntKind.i64.max < ((((⟨(decL (n / 10)).toArray⟩ : ByteArray).size + (⟨#[UInt8.ofNat (48 + n % 10)]⟩ : ByteArray).size : Nat)) : Int)) := by
        have e1 : (⟨(decL (n / 10)).toArray⟩ : ByteArray).size = (decL (n / 10)).length := by simp [ByteArray.size]
        have e2 : (⟨#[UInt8.ofNat (48 + n % 10)]⟩ : ByteArray).size = 1 := rfl
        have e3 : IntKind.i64.max = 9223372036854775807 := rfl
        rw [e1, e2, e3]; omega
      have h100 : ¬ ((10 : Int) = 0) := by decide
      simp only [WW, partV, eqCells, eqLf, minV, maxV, ifcV, zaa, zab, zac, zad, zae, zaf, zag, zah, zai, ofConst, ofConst1, List.replicate, zaj, zak, loadOp, Go.Abs.loadCells, binV, zal, pickV, zam, zan, zao, zap, zaq, zar, zas, zat, zau, outR, resAll, resOne, zav, zaw, zax, zay, zaz, zba, zbb, zbc, zbd, zbe, zbf, zbg, zbh, zbi, zbj, zbk, storeOp, storeCell, overlay, zbl, zbm, zbn, lookupOp, keyT, okRes, mapUpdateOp, zbo, zbp, zbq, zbr, zbs, zbt, zbu, Nat.reduceSub, Nat.reduceAdd, Int.reduceLT, Int.reduceLE, Int.reduceAdd, Int.reduceSub, Int.reduceToNat, Int.reduceBEq, Int.reduceBNe, Int.reduceMul, Nat.reduceBEq, Nat.reduceBNe, Nat.reduceLT, Nat.reduceLeDiff, Nat.reduceMul, Nat.reduceEqDiff, WD, effB, effH, isPriv, isHeap, isImm, zbx, zby, zbz, chkO, setD, dslot, zca, zcb, zcc, zcd, ptrCells_some, F19]
      refine wC_dr alts19_7 (by kernel_rfl) ?_
      simp only [WW, partV, eqCells, eqLf, minV, maxV, ifcV, zaa, zab, zac, zad, zae, zaf, zag, zah, zai, ofConst, ofConst1, List.replicate, zaj, zak, loadOp, Go.Abs.loadCells, binV, zal, pickV, zam, zan, zao, zap, zaq, zar, zas, zat, zau, outR, resAll, resOne, zav, zaw, zax, zay, zaz, zba, zbb, zbc, zbd, zbe, zbf, zbg, zbh, zbi, zbj, zbk, storeOp, storeCell, overlay, zbl, zbm, zbn, lookupOp, keyT, okRes, mapUpdateOp, zbo, zbp, zbq, zbr, zbs, zbt, zbu, Nat.reduceSub, Nat.reduceAdd, Int.reduceLT, Int.reduceLE, Int.reduceAdd, Int.reduceSub, Int.reduceToNat, Int.reduceBEq, Int.reduceBNe, Int.reduceMul, Nat.reduceBEq, Nat.reduceBNe, Nat.reduceLT, Nat.reduceLeDiff, Nat.reduceMul, Nat.reduceEqDiff, WD, effB, effH, isPriv, isHeap, isImm, zbx, zby, zbz, chkO, setD, dslot, zca, zcb, zcc, zcd, ptrCells_some, F19, hq, hr, hw, conv35, hdw, h100, buildSliceV, lits, frow, rowV, zbv, zbw, List.all_nil, List.all_cons, ne_eq, Nat.one_ne_zero, not_false_eq_true, dig_str, alts19_7]
      rw [wpCall_eq (ih (n / 10) (by omega) (by omega) _)]
      simp only [WW, partV, eqCells, eqLf, minV, maxV, ifcV, zaa, zab, zac, zad, zae, zaf, zag, zah, zai, ofConst, ofConst1, List.replicate, zaj, zak, loadOp, Go.Abs.loadCells, binV, zal, pickV, zam, zan, zao, zap, zaq, zar, zas, zat, zau, outR, resAll, resOne, zav, zaw, zax, zay, zaz, zba, zbb, zbc, zbd, zbe, zbf, zbg, zbh, zbi, zbj, zbk, storeOp, storeCell, overlay, zbl, zbm, zbn, lookupOp, keyT, okRes, mapUpdateOp, zbo, zbp, zbq, zbr, zbs, zbt, zbu, Nat.reduceSub, Nat.reduceAdd, Int.reduceLT, Int.reduceLE, Int.reduceAdd, Int.reduceSub, Int.reduceToNat, Int.reduceBEq, Int.reduceBNe, Int.reduceMul, Nat.reduceBEq, Nat.reduceBNe, Nat.reduceLT, Nat.reduceLeDiff, Nat.reduceMul, Nat.reduceEqDiff, WD, effB, effH, isPriv, isHeap, isImm, zbx, zby, zbz, chkO, setD, dslot, zca, zcb, zcc, zcd, ptrCells_some, F19, hq, hr, hw, conv35, hdw, h100, buildSliceV, lits, frow, rowV, zbv, zbw, List.all_nil, List.all_cons, ne_eq, Nat.one_ne_zero, not_false_eq_true, dig_str, alts19_7, ba_app, hsz]
      rw [decL_big h10]
      try exact ⟨rfl, rfl⟩
end Go.Proofs.YtcmndnkeoepmoaaDoor

namespace Go.Proofs.YtcmndnkeoepmoaaDoor
open Go Go.Abs Go.Proofs
set_option maxRecDepth 100000
set_option maxHeartbeats 400000
set_option linter.unusedVariables false
set_option linter.unusedSimpArgs false
def numMax : Nat := 2305843009213693951
def dig (c : UInt8) : Nat := c.toNat - 48
def numR : Nat → List UInt8 → Option Nat
  | t, [] => some t
  | t, c :: r => if (2305843009213693951 - dig c) / 10 < t then none else numR (10 * t + dig c) r
/-! ### What the lexer computes, on lists of bytes -/
structure Tk where
  k : Nat
  t : List UInt8
  n : Nat
  p : Nat
def tokV (t : Tk) : V := .agg [.int .i64 t.k, .str ⟨t.t.toArray⟩, .int .i64 t.n, .int .i64 t.p]
/-- A token and how many bytes it is; or an error and how far off. -/
inductive Nx
  | tok (k : Nat) (t : List UInt8) (n len : Nat)
  | bad (e off : Nat)
def hexN (c : UInt8) : Option Nat :=
  if 48 ≤ c.toNat ∧ c.toNat ≤ 57 then some (c.toNat - 48) else if 97 ≤ c.toNat ∧ c.toNat ≤ 102 then some (c.toNat - 87) else if 65 ≤ c.toNat ∧ c.toNat ≤ 70 then some (c.toNat - 55) else none
def escB (d : UInt8) : Option UInt8 := if d = 110 then some 10 else if d = 116 then some 9 else if d = 34 ∨ d = 92 then some d else none
def textS : List UInt8 → List UInt8 → Nat → Nx
  | [], _, o => .bad 6 o
  | c :: r, out, o =>
    if c = 10 then .bad 6 o
    else if c = 34 then .tok 4 out 0 (o + 1)
    else if c ≠ 92 then textS r (out ++ [c]) (o + 1)
    else match r with
      | [] => .bad 6 (o + 1)
      | d :: r1 =>
        if d = 120 then
          match r1 with
          | [] => .bad 6 (o + 2)
          | a :: r2 => match hexN a with
            | none => .bad 6 (o + 2)
            | some x => match r2 with
              | [] => .bad 6 (o + 3)
              | b :: r3 => match hexN b with
                | none => .bad 6 (o + 3)
                | some y => textS r3 (out ++ [UInt8.ofNat (16 * x + y)]) (o + 4)
        else match escB d with
          | some y => textS r1 (out ++ [y]) (o + 2)
          | none => .bad 6 (o + 1)
def numS (R : List UInt8) : Nx :=
  let D := R.takeWhile fun c => digitB c.toNat
  if decide (1 < D.length) && D[0]? == some 48 then .bad 6 1
  else if (R[D.length]?).any (fun c => letterB c.toNat) then .bad 6 D.length
  else match numR 0 D with
    | some n => .tok 3 [] n D.length
    | none => .bad 9 0
def nameC (c : UInt8) : Bool := letterB c.toNat || digitB c.toNat
def nameS (R : List UInt8) : Nx :=
  let D := R.takeWhile nameC
  .tok (if wordB ⟨D.toArray⟩ then 2 else 1) D 0 D.length
def sign1 : List UInt8 := [43, 45, 42, 47, 37, 60, 62, 61, 40, 41, 91, 93, 123, 125, 44, 59, 58, 46]
def signS (c : UInt8) (r : List UInt8) : Nx :=
  if r.head? = some 61 ∧ (c = 61 ∨ c = 33 ∨ c = 60 ∨ c = 62) then .tok 5 [c, 61] 0 2
  else if c ∈ sign1 then .tok 5 [c] 0 1
  else .bad 6 (if c = 33 then 1 else 0)
def nextS : List UInt8 → Nx
  | [] => .bad 0 0
  | c :: r => if letterB c.toNat then nameS (c :: r) else if digitB c.toNat then numS (c :: r) else if c = 34 then textS r [] 1 else signS c r
theorem skipN_le : ∀ (b : Bool) (R : List UInt8), skipN b R ≤ R.length
  | _, [] => Nat.le_refl _
  | b, c :: r => by
    unfold skipN
    have h1 := skipN_le false r
    have h2 := skipN_le b r
    have h3 := skipN_le true r
    simp only [List.length_cons]
    split
    · omega
    · split
      · omega
      · split <;> omega
/-- The tokens of what is left, from a place on, with so many before; or the error and its place -/
def lexS (R : List UInt8) (p k : Nat) : Except (Nat × Nat) (List Tk) :=
  let s := skipN false R
  match hR : R.drop s with
  | [] => .ok [⟨0, [], 0, p + s⟩]
  | c :: r =>
    if k = 16384 then .error (3, p + s)
    else match nextS (c :: r) with
      | .bad e off => .error (e, p + s + off)
      | .tok kd t n len => match lexS (r.drop (len - 1)) (p + s + len) (k + 1) with
        | .ok l => .ok (⟨kd, t, n, p + s⟩ :: l)
        | .error x => .error x
termination_by R.length
decreasing_by
  have h1 := congrArg List.length hR
  simp only [List.length_drop, List.length_cons] at h1 ⊢
  omega
theorem lexS_end {R : List UInt8} {p k : Nat} (h : R.drop (skipN false R) = []) : lexS R p k = .ok [⟨0, [], 0, p + skipN false R⟩] := by
  rw [lexS]
  split
  · rfl
  · rename_i c r h2; rw [h] at h2; cases h2
theorem lexS_many {R : List UInt8} {p : Nat} (h : R.drop (skipN false R) ≠ []) : lexS R p 16384 = .error (3, p + skipN false R) := by
  rw [lexS]
  split
  · rename_i h2; exact absurd h2 h
  · rw [if_pos rfl]
theorem lexS_bad {R : List UInt8} {p k e off : Nat} {c : UInt8} {r : List UInt8} (h : R.drop (skipN false R) = c :: r) (hk : k ≠ 16384) (hn : nextS (c :: r) = .bad e off) : lexS R p k = .error (e, p + skipN false R + off) := by
  rw [lexS]
  split
  · rename_i h2; rw [h] at h2; cases h2
  · rename_i c' r' h2
    rw [h] at h2; cases h2
    rw [if_neg hk, hn]
theorem lexS_tok {R : List UInt8} {p k kd n len : Nat} {t : List UInt8} {c : UInt8} {r : List UInt8} (h : R.drop (skipN false R) = c :: r) (hk : k ≠ 16384) (hn : nextS (c :: r) = .tok kd t n len) :
    lexS R p k = match lexS (r.drop (len - 1)) (p + skipN false R + len) (k + 1) with | .ok l => .ok (⟨kd, t, n, p + skipN false R⟩ :: l) | .error x => .error x := by
  rw [lexS]
  split
  · rename_i h2; rw [h] at h2; cases h2
  · rename_i c' r' h2
    rw [h] at h2; cases h2
    rw [if_neg hk, hn]
/-- A token has a byte at least, and no more than there are. -/
theorem textS_len : ∀ (R out : List UInt8) (o : Nat) {k t n len}, textS R out o = .tok k t n len → o + 1 ≤ len ∧ len ≤ o + R.length
  | [], out, o, k, t, n, len, h => by rw [textS] at h; cases h
  | c :: r, out, o, k, t, n, len, h => by
    unfold textS at h
    split at h
    · cases h
    split at h
    · cases h; simp <;> omega
    split at h
    · have := textS_len r _ _ h; simp only [List.length_cons]; omega
    match r, h with
    | [], h => cases h
    | d :: r1, h =>
      simp only at h
      split at h
      · match r1, h with
        | [], h => cases h
        | a :: r2, h =>
          simp only at h
          split at h
          · cases h
          match r2, h with
          | [], h => cases h
          | b :: r3, h =>
            simp only at h
            split at h
            · cases h
            have := textS_len r3 _ _ h; simp only [List.length_cons]; omega
      · split at h
        · have := textS_len r1 _ _ h; simp only [List.length_cons]; omega
        · cases h
theorem takeWhile_le {α : Type} (P : α → Bool) : ∀ l : List α, (l.takeWhile P).length ≤ l.length
  | [] => by simp
  | c :: r => by rw [List.takeWhile_cons]; split <;> simp [takeWhile_le P r]
theorem nextS_len {R : List UInt8} {k t n len} (h : nextS R = .tok k t n len) : 1 ≤ len ∧ len ≤ R.length := by
  cases R with
  | nil => cases h
  | cons c r =>
    simp only [nextS] at h
    split at h
    · rename_i hc
      unfold nameS at h
      simp only [Nx.tok.injEq] at h
      obtain ⟨_, _, _, rfl⟩ := h
      refine ⟨?_, takeWhile_le _ _⟩
      rw [List.takeWhile_cons, if_pos (by simp [nameC, hc])]; simp
    split at h
    · rename_i hc
      unfold numS at h
      simp only at h
      split at h
      · cases h
      split at h
      · cases h
      split at h
      · simp only [Nx.tok.injEq] at h
        obtain ⟨_, _, _, rfl⟩ := h
        refine ⟨?_, takeWhile_le _ _⟩
        rw [List.takeWhile_cons, if_pos hc]; simp
      · cases h
    split at h
    · have := textS_len r [] 1 h; simp only [List.length_cons]; omega
    · unfold signS at h
      split at h
      · rename_i h2
        simp only [Nx.tok.injEq] at h
        obtain ⟨_, _, _, rfl⟩ := h
        cases r with
        | nil => simp at h2
        | cons d r => simp
      split at h
      · simp only [Nx.tok.injEq] at h
        obtain ⟨_, _, _, rfl⟩ := h
        simp
      · cases h
end Go.Proofs.YtcmndnkeoepmoaaDoor

namespace Go.Proofs.YtcmndnkeoepmoaaDoor
open Go Go.Abs Go.Proofs
set_option maxRecDepth 100000
set_option maxHeartbeats 1000000
set_option linter.unusedVariables false
set_option linter.unusedSimpArgs false
theorem nameq_eq (c : Int) (H : Hp) : EW 37 [.int .u8 c] H = some (.ret (.bool (letterB c || digitB c)) false, H) := by
  refine eqOf (runs f37 b37 r37 n37 _ _ ?_)
  simp only [bodyOf, Tryd.f37, Option.getD_some]
  simp only [WW, partV, eqCells, eqLf, minV, maxV, ifcV, zaa, zab, zac, zad, zae, zaf, zag, zah, zai, ofConst, ofConst1, List.replicate, zaj, zak, loadOp, Go.Abs.loadCells, binV, zal, pickV, zam, zan, zao, zap, zaq, zar, zas, zat, zau, outR, resAll, resOne, zav, zaw, zax, zay, zaz, zba, zbb, zbc, zbd, zbe, zbf, zbg, zbh, zbi, zbj, zbk, storeOp, storeCell, overlay, zbl, zbm, zbn, lookupOp, keyT, okRes, mapUpdateOp, zbo, zbp, zbq, zbr, zbs, zbt, zbu, Nat.reduceSub, Nat.reduceAdd, Int.reduceLT, Int.reduceLE, Int.reduceAdd, Int.reduceSub, Int.reduceToNat, Int.reduceBEq, Int.reduceBNe, Int.reduceMul, Nat.reduceBEq, Nat.reduceBNe, Nat.reduceLT, Nat.reduceLeDiff, Nat.reduceMul, Nat.reduceEqDiff, WD, effB, effH, isPriv, isHeap, isImm, zbx, zby, zbz, chkO, setD, dslot, zca, zcb, zcc, zcd, ptrCells_some, F37]
  rw [wpCall_eq (letter_eq _ _)]
  cases h : letterB c with
  | true => simp only [WW, partV, eqCells, eqLf, minV, maxV, ifcV, zaa, zab, zac, zad, zae, zaf, zag, zah, zai, ofConst, ofConst1, List.replicate, zaj, zak, loadOp, Go.Abs.loadCells, binV, zal, pickV, zam, zan, zao, zap, zaq, zar, zas, zat, zau, outR, resAll, resOne, zav, zaw, zax, zay, zaz, zba, zbb, zbc, zbd, zbe, zbf, zbg, zbh, zbi, zbj, zbk, storeOp, storeCell, overlay, zbl, zbm, zbn, lookupOp, keyT, okRes, mapUpdateOp, zbo, zbp, zbq, zbr, zbs, zbt, zbu, Nat.reduceSub, Nat.reduceAdd, Int.reduceLT, Int.reduceLE, Int.reduceAdd, Int.reduceSub, Int.reduceToNat, Int.reduceBEq, Int.reduceBNe, Int.reduceMul, Nat.reduceBEq, Nat.reduceBNe, Nat.reduceLT, Nat.reduceLeDiff, Nat.reduceMul, Nat.reduceEqDiff, WD, effB, effH, isPriv, isHeap, isImm, zbx, zby, zbz, chkO, setD, dslot, zca, zcb, zcc, zcd, ptrCells_some, F37, Bool.true_or]
  | false =>
    simp only [WW, partV, eqCells, eqLf, minV, maxV, ifcV, zaa, zab, zac, zad, zae, zaf, zag, zah, zai, ofConst, ofConst1, List.replicate, zaj, zak, loadOp, Go.Abs.loadCells, binV, zal, pickV, zam, zan, zao, zap, zaq, zar, zas, zat, zau, outR, resAll, resOne, zav, zaw, zax, zay, zaz, zba, zbb, zbc, zbd, zbe, zbf, zbg, zbh, zbi, zbj, zbk, storeOp, storeCell, overlay, zbl, zbm, zbn, lookupOp, keyT, okRes, mapUpdateOp, zbo, zbp, zbq, zbr, zbs, zbt, zbu, Nat.reduceSub, Nat.reduceAdd, Int.reduceLT, Int.reduceLE, Int.reduceAdd, Int.reduceSub, Int.reduceToNat, Int.reduceBEq, Int.reduceBNe, Int.reduceMul, Nat.reduceBEq, Nat.reduceBNe, Nat.reduceLT, Nat.reduceLeDiff, Nat.reduceMul, Nat.reduceEqDiff, WD, effB, effH, isPriv, isHeap, isImm, zbx, zby, zbz, chkO, setD, dslot, zca, zcb, zcc, zcd, ptrCells_some, F37]
    rw [wpCall_eq (digit_eq _ _)]
    simp only [WW, partV, eqCells, eqLf, minV, maxV, ifcV, zaa, zab, zac, zad, zae, zaf, zag, zah, zai, ofConst, ofConst1, List.replicate, zaj, zak, loadOp, Go.Abs.loadCells, binV, zal, pickV, zam, zan, zao, zap, zaq, zar, zas, zat, zau, outR, resAll, resOne, zav, zaw, zax, zay, zaz, zba, zbb, zbc, zbd, zbe, zbf, zbg, zbh, zbi, zbj, zbk, storeOp, storeCell, overlay, zbl, zbm, zbn, lookupOp, keyT, okRes, mapUpdateOp, zbo, zbp, zbq, zbr, zbs, zbt, zbu, Nat.reduceSub, Nat.reduceAdd, Int.reduceLT, Int.reduceLE, Int.reduceAdd, Int.reduceSub, Int.reduceToNat, Int.reduceBEq, Int.reduceBNe, Int.reduceMul, Nat.reduceBEq, Nat.reduceBNe, Nat.reduceLT, Nat.reduceLeDiff, Nat.reduceMul, Nat.reduceEqDiff, WD, effB, effH, isPriv, isHeap, isImm, zbx, zby, zbz, chkO, setD, dslot, zca, zcb, zcc, zcd, ptrCells_some, F37, Bool.false_or]
theorem name_spec {H : Hp} {w : Nat} {x : V} {L : List UInt8} {p : Nat} (hB : By H w x L) (hC : Ct H w x p) (hp : p ≤ L.length) (hL : L.length ≤ 65536) :
    wpCall EW 31 [.ptr w 0 0] H (fun out H' => out = .ret (tokV ⟨if wordB ⟨((L.drop p).takeWhile nameC).toArray⟩ then 2 else 1, (L.drop p).takeWhile nameC, 0, p⟩) false ∧ H' = H.set w (ctr x ((p + ((L.drop p).takeWhile nameC).length : Nat) : Int))) := by
  refine runs f31 b31 r31 n31 _ _ ?_
  simp only [bodyOf, Tryd.f31, Option.getD_some]
  have hb0 : H[w]? = some (.cells [.agg [x, .int .i64 (p : Int)]]) := hC
  simp only [WW, partV, eqCells, eqLf, minV, maxV, ifcV, zaa, zab, zac, zad, zae, zaf, zag, zah, zai, ofConst, ofConst1, List.replicate, zaj, zak, loadOp, Go.Abs.loadCells, binV, zal, pickV, zam, zan, zao, zap, zaq, zar, zas, zat, zau, outR, resAll, resOne, zav, zaw, zax, zay, zaz, zba, zbb, zbc, zbd, zbe, zbf, zbg, zbh, zbi, zbj, zbk, storeOp, storeCell, overlay, zbl, zbm, zbn, lookupOp, keyT, okRes, mapUpdateOp, zbo, zbp, zbq, zbr, zbs, zbt, zbu, Nat.reduceSub, Nat.reduceAdd, Int.reduceLT, Int.reduceLE, Int.reduceAdd, Int.reduceSub, Int.reduceToNat, Int.reduceBEq, Int.reduceBNe, Int.reduceMul, Nat.reduceBEq, Nat.reduceBNe, Nat.reduceLT, Nat.reduceLeDiff, Nat.reduceMul, Nat.reduceEqDiff, WD, effB, effH, isPriv, isHeap, isImm, zbx, zby, zbz, chkO, setD, dslot, zca, zcb, zcc, zcd, ptrCells_some, F31, hb0, buildOp, fillV, Lay.place, Bool.or_self, Bool.or_false, Bool.false_or, decide_not, ne_eq, not_true_eq_false, decide_eq_true_eq, Nat.lt_irrefl]
  refine wpCall_of (run_spec (P := fun c => letterB c || digitB c) call37 nameq_eq hB hC hp (by omega)) ?_
  rintro out H1 ⟨rfl, rfl⟩
  have e : (L.drop p).takeWhile (fun c => letterB c.toNat || digitB c.toNat) = (L.drop p).takeWhile nameC := rfl
  simp only [e]
  generalize (L.drop p).takeWhile nameC = D
  simp only [WW, partV, eqCells, eqLf, minV, maxV, ifcV, zaa, zab, zac, zad, zae, zaf, zag, zah, zai, ofConst, ofConst1, List.replicate, zaj, zak, loadOp, Go.Abs.loadCells, binV, zal, pickV, zam, zan, zao, zap, zaq, zar, zas, zat, zau, outR, resAll, resOne, zav, zaw, zax, zay, zaz, zba, zbb, zbc, zbd, zbe, zbf, zbg, zbh, zbi, zbj, zbk, storeOp, storeCell, overlay, zbl, zbm, zbn, lookupOp, keyT, okRes, mapUpdateOp, zbo, zbp, zbq, zbr, zbs, zbt, zbu, Nat.reduceSub, Nat.reduceAdd, Int.reduceLT, Int.reduceLE, Int.reduceAdd, Int.reduceSub, Int.reduceToNat, Int.reduceBEq, Int.reduceBNe, Int.reduceMul, Nat.reduceBEq, Nat.reduceBNe, Nat.reduceLT, Nat.reduceLeDiff, Nat.reduceMul, Nat.reduceEqDiff, WD, effB, effH, isPriv, isHeap, isImm, zbx, zby, zbz, chkO, setD, dslot, zca, zcb, zcc, zcd, ptrCells_some, F31]
  rw [wpCall_eq (word_eq _ _)]
  cases hw : wordB ⟨D.toArray⟩ with
  | true =>
    simp only [WW, partV, eqCells, eqLf, minV, maxV, ifcV, zaa, zab, zac, zad, zae, zaf, zag, zah, zai, ofConst, ofConst1, List.replicate, zaj, zak, loadOp, Go.Abs.loadCells, binV, zal, pickV, zam, zan, zao, zap, zaq, zar, zas, zat, zau, outR, resAll, resOne, zav, zaw, zax, zay, zaz, zba, zbb, zbc, zbd, zbe, zbf, zbg, zbh, zbi, zbj, zbk, storeOp, storeCell, overlay, zbl, zbm, zbn, lookupOp, keyT, okRes, mapUpdateOp, zbo, zbp, zbq, zbr, zbs, zbt, zbu, Nat.reduceSub, Nat.reduceAdd, Int.reduceLT, Int.reduceLE, Int.reduceAdd, Int.reduceSub, Int.reduceToNat, Int.reduceBEq, Int.reduceBNe, Int.reduceMul, Nat.reduceBEq, Nat.reduceBNe, Nat.reduceLT, Nat.reduceLeDiff, Nat.reduceMul, Nat.reduceEqDiff, WD, effB, effH, isPriv, isHeap, isImm, zbx, zby, zbz, chkO, setD, dslot, zca, zcb, zcc, zcd, ptrCells_some, F31]
    simp [tokV]
  | false =>
    simp only [WW, partV, eqCells, eqLf, minV, maxV, ifcV, zaa, zab, zac, zad, zae, zaf, zag, zah, zai, ofConst, ofConst1, List.replicate, zaj, zak, loadOp, Go.Abs.loadCells, binV, zal, pickV, zam, zan, zao, zap, zaq, zar, zas, zat, zau, outR, resAll, resOne, zav, zaw, zax, zay, zaz, zba, zbb, zbc, zbd, zbe, zbf, zbg, zbh, zbi, zbj, zbk, storeOp, storeCell, overlay, zbl, zbm, zbn, lookupOp, keyT, okRes, mapUpdateOp, zbo, zbp, zbq, zbr, zbs, zbt, zbu, Nat.reduceSub, Nat.reduceAdd, Int.reduceLT, Int.reduceLE, Int.reduceAdd, Int.reduceSub, Int.reduceToNat, Int.reduceBEq, Int.reduceBNe, Int.reduceMul, Nat.reduceBEq, Nat.reduceBNe, Nat.reduceLT, Nat.reduceLeDiff, Nat.reduceMul, Nat.reduceEqDiff, WD, effB, effH, isPriv, isHeap, isImm, zbx, zby, zbz, chkO, setD, dslot, zca, zcb, zcc, zcd, ptrCells_some, F31]
    simp [tokV]
def hexI (c : UInt8) : Int := match hexN c with | some n => n | none => -1
theorem u8wrap {n : Int} (h : 0 ≤ n ∧ n < 256) : IntKind.u8.wrap n = n := by
  simp [IntKind.wrap, IntKind.bits, IntKind.signed]; omega
theorem hexit_eq (c : UInt8) (H : Hp) : EW 40 [.int .u8 (c.toNat : Int)] H = some (.ret (.int .i64 (hexI c)) false, H) := by
  have hlt := c.toNat_lt
  refine eqOf (runsP f40 b40 r40 n40 _ rfl _ ?_)
  simp only [bodyOf, Tryd.f40, Option.getD_some]
  simp only [WW, partV, eqCells, eqLf, minV, maxV, ifcV, zaa, zab, zac, zad, zae, zaf, zag, zah, zai, ofConst, ofConst1, List.replicate, zaj, zak, loadOp, Go.Abs.loadCells, binV, zal, pickV, zam, zan, zao, zap, zaq, zar, zas, zat, zau, outR, resAll, resOne, zav, zaw, zax, zay, zaz, zba, zbb, zbc, zbd, zbe, zbf, zbg, zbh, zbi, zbj, zbk, storeOp, storeCell, overlay, zbl, zbm, zbn, lookupOp, keyT, okRes, mapUpdateOp, zbo, zbp, zbq, zbr, zbs, zbt, zbu, Nat.reduceSub, Nat.reduceAdd, Int.reduceLT, Int.reduceLE, Int.reduceAdd, Int.reduceSub, Int.reduceToNat, Int.reduceBEq, Int.reduceBNe, Int.reduceMul, Nat.reduceBEq, Nat.reduceBNe, Nat.reduceLT, Nat.reduceLeDiff, Nat.reduceMul, Nat.reduceEqDiff, WD, effB, effH, isPriv, isHeap, isImm, zbx, zby, zbz, chkO, setD, dslot, zca, zcb, zcc, zcd, ptrCells_some, F40]
  rw [wpCall_eq (digit_eq _ _)]
  by_cases h1 : 48 ≤ c.toNat ∧ c.toNat ≤ 57
  · have hd : digitB (c.toNat : Int) = true := by simp [digitB]; omega
    have e : hexI c = (c.toNat : Int) - 48 := by unfold hexI hexN; rw [if_pos h1]; simp only []; omega
    have hw : IntKind.u8.wrap ((c.toNat : Int) - 48) = (c.toNat : Int) - 48 := u8wrap (by omega)
    have hw2 : IntKind.i64.wrap ((c.toNat : Int) - 48) = (c.toNat : Int) - 48 := IntWalk.i64_in _ (by omega)
    simp only [WW, partV, eqCells, eqLf, minV, maxV, ifcV, zaa, zab, zac, zad, zae, zaf, zag, zah, zai, ofConst, ofConst1, List.replicate, zaj, zak, loadOp, Go.Abs.loadCells, binV, zal, pickV, zam, zan, zao, zap, zaq, zar, zas, zat, zau, outR, resAll, resOne, zav, zaw, zax, zay, zaz, zba, zbb, zbc, zbd, zbe, zbf, zbg, zbh, zbi, zbj, zbk, storeOp, storeCell, overlay, zbl, zbm, zbn, lookupOp, keyT, okRes, mapUpdateOp, zbo, zbp, zbq, zbr, zbs, zbt, zbu, Nat.reduceSub, Nat.reduceAdd, Int.reduceLT, Int.reduceLE, Int.reduceAdd, Int.reduceSub, Int.reduceToNat, Int.reduceBEq, Int.reduceBNe, Int.reduceMul, Nat.reduceBEq, Nat.reduceBNe, Nat.reduceLT, Nat.reduceLeDiff, Nat.reduceMul, Nat.reduceEqDiff, WD, effB, effH, isPriv, isHeap, isImm, zbx, zby, zbz, chkO, setD, dslot, zca, zcb, zcc, zcd, ptrCells_some, F40, hd, hw, hw2, convertOp]
    rw [e]
    first | exact ⟨rfl, rfl⟩ | exact rfl
  · have hd : digitB (c.toNat : Int) = false := by simp [digitB]; omega
    by_cases h2 : 97 ≤ c.toNat ∧ c.toNat ≤ 102
    · have e : hexI c = (c.toNat : Int) - 87 := by unfold hexI hexN; rw [if_neg h1, if_pos h2]; simp only []; omega
      have hw : IntKind.u8.wrap ((c.toNat : Int) - 97) = (c.toNat : Int) - 97 := u8wrap (by omega)
      have hw2 : IntKind.i64.wrap ((c.toNat : Int) - 97) = (c.toNat : Int) - 97 := IntWalk.i64_in _ (by omega)
      have hw3 : IntKind.i64.wrap ((c.toNat : Int) - 97 + 10) = (c.toNat : Int) - 87 := by rw [IntWalk.i64_in _ (by omega)]; omega
      have g1 : decide ((97 : Int) ≤ (c.toNat : Int)) = true := decide_eq_true (by omega)
      have g2 : decide ((c.toNat : Int) ≤ 102) = true := decide_eq_true (by omega)
      simp only [WW, partV, eqCells, eqLf, minV, maxV, ifcV, zaa, zab, zac, zad, zae, zaf, zag, zah, zai, ofConst, ofConst1, List.replicate, zaj, zak, loadOp, Go.Abs.loadCells, binV, zal, pickV, zam, zan, zao, zap, zaq, zar, zas, zat, zau, outR, resAll, resOne, zav, zaw, zax, zay, zaz, zba, zbb, zbc, zbd, zbe, zbf, zbg, zbh, zbi, zbj, zbk, storeOp, storeCell, overlay, zbl, zbm, zbn, lookupOp, keyT, okRes, mapUpdateOp, zbo, zbp, zbq, zbr, zbs, zbt, zbu, Nat.reduceSub, Nat.reduceAdd, Int.reduceLT, Int.reduceLE, Int.reduceAdd, Int.reduceSub, Int.reduceToNat, Int.reduceBEq, Int.reduceBNe, Int.reduceMul, Nat.reduceBEq, Nat.reduceBNe, Nat.reduceLT, Nat.reduceLeDiff, Nat.reduceMul, Nat.reduceEqDiff, WD, effB, effH, isPriv, isHeap, isImm, zbx, zby, zbz, chkO, setD, dslot, zca, zcb, zcc, zcd, ptrCells_some, F40, hd, hw, hw2, hw3, g1, g2, convertOp]
      rw [e]
      first | exact ⟨rfl, rfl⟩ | exact rfl
    · by_cases h3 : 65 ≤ c.toNat ∧ c.toNat ≤ 70
      · have e : hexI c = (c.toNat : Int) - 55 := by unfold hexI hexN; rw [if_neg h1, if_neg h2, if_pos h3]; simp only []; omega
        have hw : IntKind.u8.wrap ((c.toNat : Int) - 65) = (c.toNat : Int) - 65 := u8wrap (by omega)
        have hw2 : IntKind.i64.wrap ((c.toNat : Int) - 65) = (c.toNat : Int) - 65 := IntWalk.i64_in _ (by omega)
        have hw3 : IntKind.i64.wrap ((c.toNat : Int) - 65 + 10) = (c.toNat : Int) - 55 := by rw [IntWalk.i64_in _ (by omega)]; omega
        have g1 : decide ((97 : Int) ≤ (c.toNat : Int)) = false := decide_eq_false (by omega)
        have g2 : decide ((65 : Int) ≤ (c.toNat : Int)) = true := decide_eq_true (by omega)
        have g3 : decide ((c.toNat : Int) ≤ 70) = true := decide_eq_true (by omega)
        simp only [WW, partV, eqCells, eqLf, minV, maxV, ifcV, zaa, zab, zac, zad, zae, zaf, zag, zah, zai, ofConst, ofConst1, List.replicate, zaj, zak, loadOp, Go.Abs.loadCells, binV, zal, pickV, zam, zan, zao, zap, zaq, zar, zas, zat, zau, outR, resAll, resOne, zav, zaw, zax, zay, zaz, zba, zbb, zbc, zbd, zbe, zbf, zbg, zbh, zbi, zbj, zbk, storeOp, storeCell, overlay, zbl, zbm, zbn, lookupOp, keyT, okRes, mapUpdateOp, zbo, zbp, zbq, zbr, zbs, zbt, zbu, Nat.reduceSub, Nat.reduceAdd, Int.reduceLT, Int.reduceLE, Int.reduceAdd, Int.reduceSub, Int.reduceToNat, Int.reduceBEq, Int.reduceBNe, Int.reduceMul, Nat.reduceBEq, Nat.reduceBNe, Nat.reduceLT, Nat.reduceLeDiff, Nat.reduceMul, Nat.reduceEqDiff, WD, effB, effH, isPriv, isHeap, isImm, zbx, zby, zbz, chkO, setD, dslot, zca, zcb, zcc, zcd, ptrCells_some, F40, hd, hw, hw2, hw3, g1, g2, g3, convertOp]
        rw [e]
        first | exact ⟨rfl, rfl⟩ | exact rfl
      · have e : hexI c = -1 := by unfold hexI hexN; rw [if_neg h1, if_neg h2, if_neg h3]
        rw [e]
        by_cases k1 : 97 ≤ c.toNat
        · have g1 : decide ((97 : Int) ≤ (c.toNat : Int)) = true := decide_eq_true (by omega)
          have g2 : decide ((c.toNat : Int) ≤ 102) = false := decide_eq_false (by omega)
          have g3 : decide ((65 : Int) ≤ (c.toNat : Int)) = true := decide_eq_true (by omega)
          have g4 : decide ((c.toNat : Int) ≤ 70) = false := decide_eq_false (by omega)
          simp only [WW, partV, eqCells, eqLf, minV, maxV, ifcV, zaa, zab, zac, zad, zae, zaf, zag, zah, zai, ofConst, ofConst1, List.replicate, zaj, zak, loadOp, Go.Abs.loadCells, binV, zal, pickV, zam, zan, zao, zap, zaq, zar, zas, zat, zau, outR, resAll, resOne, zav, zaw, zax, zay, zaz, zba, zbb, zbc, zbd, zbe, zbf, zbg, zbh, zbi, zbj, zbk, storeOp, storeCell, overlay, zbl, zbm, zbn, lookupOp, keyT, okRes, mapUpdateOp, zbo, zbp, zbq, zbr, zbs, zbt, zbu, Nat.reduceSub, Nat.reduceAdd, Int.reduceLT, Int.reduceLE, Int.reduceAdd, Int.reduceSub, Int.reduceToNat, Int.reduceBEq, Int.reduceBNe, Int.reduceMul, Nat.reduceBEq, Nat.reduceBNe, Nat.reduceLT, Nat.reduceLeDiff, Nat.reduceMul, Nat.reduceEqDiff, WD, effB, effH, isPriv, isHeap, isImm, zbx, zby, zbz, chkO, setD, dslot, zca, zcb, zcc, zcd, ptrCells_some, F40, hd, g1, g2, g3, g4]
          first | exact ⟨rfl, rfl⟩ | exact rfl
        · have g1 : decide ((97 : Int) ≤ (c.toNat : Int)) = false := decide_eq_false (by omega)
          by_cases k2 : 65 ≤ c.toNat
          · have g3 : decide ((65 : Int) ≤ (c.toNat : Int)) = true := decide_eq_true (by omega)
            have g4 : decide ((c.toNat : Int) ≤ 70) = false := decide_eq_false (by omega)
            simp only [WW, partV, eqCells, eqLf, minV, maxV, ifcV, zaa, zab, zac, zad, zae, zaf, zag, zah, zai, ofConst, ofConst1, List.replicate, zaj, zak, loadOp, Go.Abs.loadCells, binV, zal, pickV, zam, zan, zao, zap, zaq, zar, zas, zat, zau, outR, resAll, resOne, zav, zaw, zax, zay, zaz, zba, zbb, zbc, zbd, zbe, zbf, zbg, zbh, zbi, zbj, zbk, storeOp, storeCell, overlay, zbl, zbm, zbn, lookupOp, keyT, okRes, mapUpdateOp, zbo, zbp, zbq, zbr, zbs, zbt, zbu, Nat.reduceSub, Nat.reduceAdd, Int.reduceLT, Int.reduceLE, Int.reduceAdd, Int.reduceSub, Int.reduceToNat, Int.reduceBEq, Int.reduceBNe, Int.reduceMul, Nat.reduceBEq, Nat.reduceBNe, Nat.reduceLT, Nat.reduceLeDiff, Nat.reduceMul, Nat.reduceEqDiff, WD, effB, effH, isPriv, isHeap, isImm, zbx, zby, zbz, chkO, setD, dslot, zca, zcb, zcc, zcd, ptrCells_some, F40, hd, g1, g3, g4]
            first | exact ⟨rfl, rfl⟩ | exact rfl
          · have g3 : decide ((65 : Int) ≤ (c.toNat : Int)) = false := decide_eq_false (by omega)
            simp only [WW, partV, eqCells, eqLf, minV, maxV, ifcV, zaa, zab, zac, zad, zae, zaf, zag, zah, zai, ofConst, ofConst1, List.replicate, zaj, zak, loadOp, Go.Abs.loadCells, binV, zal, pickV, zam, zan, zao, zap, zaq, zar, zas, zat, zau, outR, resAll, resOne, zav, zaw, zax, zay, zaz, zba, zbb, zbc, zbd, zbe, zbf, zbg, zbh, zbi, zbj, zbk, storeOp, storeCell, overlay, zbl, zbm, zbn, lookupOp, keyT, okRes, mapUpdateOp, zbo, zbp, zbq, zbr, zbs, zbt, zbu, Nat.reduceSub, Nat.reduceAdd, Int.reduceLT, Int.reduceLE, Int.reduceAdd, Int.reduceSub, Int.reduceToNat, Int.reduceBEq, Int.reduceBNe, Int.reduceMul, Nat.reduceBEq, Nat.reduceBNe, Nat.reduceLT, Nat.reduceLeDiff, Nat.reduceMul, Nat.reduceEqDiff, WD, effB, effH, isPriv, isHeap, isImm, zbx, zby, zbz, chkO, setD, dslot, zca, zcb, zcc, zcd, ptrCells_some, F40, hd, g1, g3]
            first | exact ⟨rfl, rfl⟩ | exact rfl
/-- Does one text begin with another? -/
def preB (s q : List UInt8) : Bool := decide (q.length ≤ s.length) && s.take q.length == q
theorem ba_size (l : List UInt8) : (⟨l.toArray⟩ : ByteArray).size = l.length := rfl
theorem ba_list (l : List UInt8) : (⟨l.toArray⟩ : ByteArray).toList = l := by rw [ByteArray.toList_eq]
theorem prefix0_eq (s q : List UInt8) (H : Hp) : EW 41 [.str ⟨s.toArray⟩, .str ⟨q.toArray⟩] H = some (.ret (.bool (preB s q)) false, H) := by
  refine eqOf (runsP f41 b41 r41 n41 _ rfl _ ?_)
  simp only [bodyOf, Tryd.f41, Option.getD_some]
  simp only [WW, partV, eqCells, eqLf, minV, maxV, ifcV, zaa, zab, zac, zad, zae, zaf, zag, zah, zai, ofConst, ofConst1, List.replicate, zaj, zak, loadOp, Go.Abs.loadCells, binV, zal, pickV, zam, zan, zao, zap, zaq, zar, zas, zat, zau, outR, resAll, resOne, zav, zaw, zax, zay, zaz, zba, zbb, zbc, zbd, zbe, zbf, zbg, zbh, zbi, zbj, zbk, storeOp, storeCell, overlay, zbl, zbm, zbn, lookupOp, keyT, okRes, mapUpdateOp, zbo, zbp, zbq, zbr, zbs, zbt, zbu, Nat.reduceSub, Nat.reduceAdd, Int.reduceLT, Int.reduceLE, Int.reduceAdd, Int.reduceSub, Int.reduceToNat, Int.reduceBEq, Int.reduceBNe, Int.reduceMul, Nat.reduceBEq, Nat.reduceBNe, Nat.reduceLT, Nat.reduceLeDiff, Nat.reduceMul, Nat.reduceEqDiff, WD, effB, effH, isPriv, isHeap, isImm, zbx, zby, zbz, chkO, setD, dslot, zca, zcb, zcc, zcd, ptrCells_some, F41, ba_size]
  by_cases h : q.length ≤ s.length
  · have hd : decide ((q.length : Int) ≤ (s.length : Int)) = true := decide_eq_true (by omega)
    have hsl : ∀ st H, sliceOp Tryd.prog st H 9 (.str ⟨s.toArray⟩) none (some (.int .i64 (q.length : Int))) none = some (.str ⟨(s.take q.length).toArray⟩)   := fun st H => by
      have h9 : ixT Tryd.prog 9 = .str := by kernel_rfl
      simp [sliceOp, h9, viewV, sealV, boundV, ba_size, h]
      apply ByteArray.ext
      simp
    simp only [WW, partV, eqCells, eqLf, minV, maxV, ifcV, zaa, zab, zac, zad, zae, zaf, zag, zah, zai, ofConst, ofConst1, List.replicate, zaj, zak, loadOp, Go.Abs.loadCells, binV, zal, pickV, zam, zan, zao, zap, zaq, zar, zas, zat, zau, outR, resAll, resOne, zav, zaw, zax, zay, zaz, zba, zbb, zbc, zbd, zbe, zbf, zbg, zbh, zbi, zbj, zbk, storeOp, storeCell, overlay, zbl, zbm, zbn, lookupOp, keyT, okRes, mapUpdateOp, zbo, zbp, zbq, zbr, zbs, zbt, zbu, Nat.reduceSub, Nat.reduceAdd, Int.reduceLT, Int.reduceLE, Int.reduceAdd, Int.reduceSub, Int.reduceToNat, Int.reduceBEq, Int.reduceBNe, Int.reduceMul, Nat.reduceBEq, Nat.reduceBNe, Nat.reduceLT, Nat.reduceLeDiff, Nat.reduceMul, Nat.reduceEqDiff, WD, effB, effH, isPriv, isHeap, isImm, zbx, zby, zbz, chkO, setD, dslot, zca, zcb, zcc, zcd, ptrCells_some, F41, hd, hsl, ba_list, ba_size, Option.map_none]
    simp [preB, h, noHeapO, noHeap, noHeapL, Bool.and_true, Bool.true_and, Bool.false_and, Bool.and_false, Bool.true_or, Bool.or_true, Bool.false_or, Bool.or_false, Bool.not_true, Bool.not_false, Bool.and_self, Bool.or_self, and_self, true_and, and_true, if_true, if_false, Bool.false_eq_true, Bool.true_eq_false]
  · have hd : decide ((q.length : Int) ≤ (s.length : Int)) = false := decide_eq_false (by omega)
    simp only [WW, partV, eqCells, eqLf, minV, maxV, ifcV, zaa, zab, zac, zad, zae, zaf, zag, zah, zai, ofConst, ofConst1, List.replicate, zaj, zak, loadOp, Go.Abs.loadCells, binV, zal, pickV, zam, zan, zao, zap, zaq, zar, zas, zat, zau, outR, resAll, resOne, zav, zaw, zax, zay, zaz, zba, zbb, zbc, zbd, zbe, zbf, zbg, zbh, zbi, zbj, zbk, storeOp, storeCell, overlay, zbl, zbm, zbn, lookupOp, keyT, okRes, mapUpdateOp, zbo, zbp, zbq, zbr, zbs, zbt, zbu, Nat.reduceSub, Nat.reduceAdd, Int.reduceLT, Int.reduceLE, Int.reduceAdd, Int.reduceSub, Int.reduceToNat, Int.reduceBEq, Int.reduceBNe, Int.reduceMul, Nat.reduceBEq, Nat.reduceBNe, Nat.reduceLT, Nat.reduceLeDiff, Nat.reduceMul, Nat.reduceEqDiff, WD, effB, effH, isPriv, isHeap, isImm, zbx, zby, zbz, chkO, setD, dslot, zca, zcb, zcc, zcd, ptrCells_some, F41, hd]
    simp [preB, h, noHeapO, noHeap, noHeapL, Bool.and_true, Bool.true_and, Bool.false_and, Bool.and_false, Bool.true_or, Bool.or_true, Bool.false_or, Bool.or_false, Bool.not_true, Bool.not_false, Bool.and_self, Bool.or_self, and_self, true_and, and_true, if_true, if_false, Bool.false_eq_true, Bool.true_eq_false]
theorem prefix_eq (s q : List UInt8) (H : Hp) : EW 39 [.str ⟨s.toArray⟩, .str ⟨q.toArray⟩] H = some (.ret (.bool (preB s q)) false, H) := by
  refine eqOf (runsP f39 b39 r39 n39 _ rfl _ ?_)
  simp only [bodyOf, Tryd.f39, Option.getD_some]
  simp only [WW, partV, eqCells, eqLf, minV, maxV, ifcV, zaa, zab, zac, zad, zae, zaf, zag, zah, zai, ofConst, ofConst1, List.replicate, zaj, zak, loadOp, Go.Abs.loadCells, binV, zal, pickV, zam, zan, zao, zap, zaq, zar, zas, zat, zau, outR, resAll, resOne, zav, zaw, zax, zay, zaz, zba, zbb, zbc, zbd, zbe, zbf, zbg, zbh, zbi, zbj, zbk, storeOp, storeCell, overlay, zbl, zbm, zbn, lookupOp, keyT, okRes, mapUpdateOp, zbo, zbp, zbq, zbr, zbs, zbt, zbu, Nat.reduceSub, Nat.reduceAdd, Int.reduceLT, Int.reduceLE, Int.reduceAdd, Int.reduceSub, Int.reduceToNat, Int.reduceBEq, Int.reduceBNe, Int.reduceMul, Nat.reduceBEq, Nat.reduceBNe, Nat.reduceLT, Nat.reduceLeDiff, Nat.reduceMul, Nat.reduceEqDiff, WD, effB, effH, isPriv, isHeap, isImm, zbx, zby, zbz, chkO, setD, dslot, zca, zcb, zcc, zcd, ptrCells_some, F39]
  rw [wpCall_eq (prefix0_eq _ _ _)]
  simp only [WW, partV, eqCells, eqLf, minV, maxV, ifcV, zaa, zab, zac, zad, zae, zaf, zag, zah, zai, ofConst, ofConst1, List.replicate, zaj, zak, loadOp, Go.Abs.loadCells, binV, zal, pickV, zam, zan, zao, zap, zaq, zar, zas, zat, zau, outR, resAll, resOne, zav, zaw, zax, zay, zaz, zba, zbb, zbc, zbd, zbe, zbf, zbg, zbh, zbi, zbj, zbk, storeOp, storeCell, overlay, zbl, zbm, zbn, lookupOp, keyT, okRes, mapUpdateOp, zbo, zbp, zbq, zbr, zbs, zbt, zbu, Nat.reduceSub, Nat.reduceAdd, Int.reduceLT, Int.reduceLE, Int.reduceAdd, Int.reduceSub, Int.reduceToNat, Int.reduceBEq, Int.reduceBNe, Int.reduceMul, Nat.reduceBEq, Nat.reduceBNe, Nat.reduceLT, Nat.reduceLeDiff, Nat.reduceMul, Nat.reduceEqDiff, WD, effB, effH, isPriv, isHeap, isImm, zbx, zby, zbz, chkO, setD, dslot, zca, zcb, zcc, zcd, ptrCells_some, F39]
  first | exact ⟨rfl, rfl⟩ | exact rfl
end Go.Proofs.YtcmndnkeoepmoaaDoor

namespace Go.Proofs.YtcmndnkeoepmoaaDoor
open Go Go.Abs Go.Proofs
set_option maxRecDepth 100000
set_option maxHeartbeats 1000000
set_option linter.unusedVariables false
set_option linter.unusedSimpArgs false
/-- What is answered of a token that begins here -/
def nxR (H : Hp) (w : Nat) (x : V) (p : Nat) (nx : Nx) (out : Out) (H' : Hp) : Prop := match nx with
  | .tok k t n len => out = .ret (.tup [tokV ⟨k, t, n, p⟩, .int .i64 0]) false ∧ H' = H.set w (ctr x ((p + len : Nat) : Int))
  | .bad e off => (∃ t : Tk, out = .ret (.tup [tokV t, .int .i64 e]) false) ∧ H' = H.set w (ctr x ((p + off : Nat) : Int))
/-! ### signs -/
def signsL : List (List UInt8) := [[61, 61], [33, 61], [60, 61], [62, 61], [43], [45], [42], [47], [37], [60], [62], [61], [40], [41], [91], [93], [123], [125], [44], [59], [58], [46]]
def strV (q : List UInt8) : V := .str ⟨q.toArray⟩
theorem pre2 (c a b : UInt8) (r : List UInt8) : preB ((c :: r).take 2) [a, b] = (c == a && r.head? == some b) := by
  cases r with
  | nil => simp [preB]
  | cons d r => simp [preB]
theorem pre1 (c a : UInt8) (r : List UInt8) : preB ((c :: r).take 2) [a] = (c == a) := by
  cases r <;> simp [preB]
theorem sign_find (c : UInt8) (r : List UInt8) : signsL.find? (preB ((c :: r).take 2)) = if r.head? = some 61 ∧ (c = 61 ∨ c = 33 ∨ c = 60 ∨ c = 62) then some [c, 61] else if c ∈ sign1 then some [c] else none := by
  simp only [signsL, List.find?_cons, pre2, pre1, List.find?_nil]
  by_cases h : r.head? = some 61
  · have h' : (r.head? == some 61) = true := by simp [h]
    simp only [h', Bool.and_true, h, true_and]
    by_cases hm : c ∈ sign1 ∨ c = 33
    · simp only [sign1, List.mem_cons, List.not_mem_nil, or_false] at hm
      rcases hm with (rfl | rfl | rfl | rfl | rfl | rfl | rfl | rfl | rfl | rfl | rfl | rfl | rfl | rfl | rfl | rfl | rfl | rfl) | rfl <;> decide
    · have h1 : c ∉ sign1 := fun e => hm (.inl e)
      have h2 : c ≠ 33 := fun e => hm (.inr e)
      rw [if_neg h1]
      have hb : ∀ k ∈ sign1, (c == k) = false := fun k hk => by rw [beq_eq_false_iff_ne]; rintro rfl; exact h1 hk
      have h33 : (c == 33) = false := by simpa using h2
      have hn : ¬ (c = 61 ∨ c = 33 ∨ c = 60 ∨ c = 62) := by rintro (rfl | rfl | rfl | rfl) <;> first | exact h2 rfl | exact h1 (by decide)
      simp only [h33, hb 43 (by decide), hb 45 (by decide), hb 42 (by decide), hb 47 (by decide), hb 37 (by decide), hb 60 (by decide), hb 62 (by decide), hb 61 (by decide), hb 40 (by decide), hb 41 (by decide), hb 91 (by decide), hb 93 (by decide), hb 123 (by decide), hb 125 (by decide), hb 44 (by decide), hb 59 (by decide), hb 58 (by decide), hb 46 (by decide), hn, zaw, Bool.false_and]
  · have h' : (r.head? == some 61) = false := by simp [h]
    simp only [h', Bool.and_false, h, false_and, if_false]
    by_cases hm : c ∈ sign1
    · rw [if_pos hm]
      simp only [sign1, List.mem_cons, List.not_mem_nil, or_false] at hm
      rcases hm with rfl | rfl | rfl | rfl | rfl | rfl | rfl | rfl | rfl | rfl | rfl | rfl | rfl | rfl | rfl | rfl | rfl | rfl <;> decide
    · rw [if_neg hm]
      have hb : ∀ k ∈ sign1, (c == k) = false := fun k hk => by rw [beq_eq_false_iff_ne]; rintro rfl; exact hm hk
      simp only [hb 43 (by decide), hb 45 (by decide), hb 42 (by decide), hb 47 (by decide), hb 37 (by decide), hb 60 (by decide), hb 62 (by decide), hb 61 (by decide), hb 40 (by decide), hb 41 (by decide), hb 91 (by decide), hb 93 (by decide), hb 123 (by decide), hb 125 (by decide), hb 44 (by decide), hb 59 (by decide), hb 58 (by decide), hb 46 (by decide)]
theorem sign_spec {H : Hp} {w : Nat} {x : V} {L : List UInt8} {p : Nat} {c : UInt8} {r : List UInt8} (hB : By H w x L) (hC : Ct H w x p) (hcr : L.drop p = c :: r) (hL : L.length ≤ 65536) :
    wpCall EW 34 [.ptr w 0 0] H (nxR H w x p (signS c r)) := by
  have hp : p < L.length := by
    have := congrArg List.length hcr
    simp at this; omega
  have hb0 : H[w]? = some (.cells [.agg [x, .int .i64 (p : Int)]]) := hC
  have hx := hB.rd
  have hp2 : IntKind.i64.wrap ((p : Int) + 2) = ((p + 2 : Nat) : Int) := by rw [IntWalk.i64_in _ (by omega)]; omega
  obtain ⟨q, hq⟩ : ∃ q : Nat, q = min (p + 2) L.length := ⟨_, rfl⟩
  have hmn : (if (L.length : Int) < ((p + 2 : Nat) : Int) then (L.length : Int) else ((p + 2 : Nat) : Int)) = (q : Int) := by split <;> omega
  obtain ⟨y, hcut, hy⟩ := hB.cut (p := p) (q := q) (by omega) (by omega)
  have hrest : (L.take q).drop p = (c :: r).take 2 := by
    rw [← hcr, hq, List.take_drop]
    congr 1
    by_cases h : p + 2 ≤ L.length
    · rw [Nat.min_eq_left h]
    · rw [Nat.min_eq_right (by omega), List.take_length, List.take_of_length_le (by omega)]
  rw [hrest] at hy
  have hfe := sign_find c r
  have hc0 : ((c :: r).take 2)[0]? = some c := by simp
  generalize (c :: r).take 2 = rest at hy hfe hc0
  have hself := hC.self
  refine runs f34 b34 r34 n34 _ _ ?_
  simp only [bodyOf, Tryd.f34, Option.getD_some]
  simp only [WW, partV, eqCells, eqLf, minV, maxV, ifcV, zaa, zab, zac, zad, zae, zaf, zag, zah, zai, ofConst, ofConst1, List.replicate, zaj, zak, loadOp, Go.Abs.loadCells, binV, zal, pickV, zam, zan, zao, zap, zaq, zar, zas, zat, zau, outR, resAll, resOne, zav, zaw, zax, zay, zaz, zba, zbb, zbc, zbd, zbe, zbf, zbg, zbh, zbi, zbj, zbk, storeOp, storeCell, overlay, zbl, zbm, zbn, lookupOp, keyT, okRes, mapUpdateOp, zbo, zbp, zbq, zbr, zbs, zbt, zbu, Nat.reduceSub, Nat.reduceAdd, Int.reduceLT, Int.reduceLE, Int.reduceAdd, Int.reduceSub, Int.reduceToNat, Int.reduceBEq, Int.reduceBNe, Int.reduceMul, Nat.reduceBEq, Nat.reduceBNe, Nat.reduceLT, Nat.reduceLeDiff, Nat.reduceMul, Nat.reduceEqDiff, WD, effB, effH, isPriv, isHeap, isImm, zbx, zby, zbz, chkO, setD, dslot, zca, zcb, zcc, zcd, ptrCells_some, F34, hb0, buildOp, fillV, Lay.place, Bool.or_self, Bool.or_false, Bool.false_or, decide_not, ne_eq, not_true_eq_false, decide_eq_true_eq, Nat.lt_irrefl]
  refine wC_dr alts34_2 (by kernel_rfl) ?_
  simp only [WW, partV, eqCells, eqLf, minV, maxV, ifcV, zaa, zab, zac, zad, zae, zaf, zag, zah, zai, ofConst, ofConst1, List.replicate, zaj, zak, loadOp, Go.Abs.loadCells, binV, zal, pickV, zam, zan, zao, zap, zaq, zar, zas, zat, zau, outR, resAll, resOne, zav, zaw, zax, zay, zaz, zba, zbb, zbc, zbd, zbe, zbf, zbg, zbh, zbi, zbj, zbk, storeOp, storeCell, overlay, zbl, zbm, zbn, lookupOp, keyT, okRes, mapUpdateOp, zbo, zbp, zbq, zbr, zbs, zbt, zbu, Nat.reduceSub, Nat.reduceAdd, Int.reduceLT, Int.reduceLE, Int.reduceAdd, Int.reduceSub, Int.reduceToNat, Int.reduceBEq, Int.reduceBNe, Int.reduceMul, Nat.reduceBEq, Nat.reduceBNe, Nat.reduceLT, Nat.reduceLeDiff, Nat.reduceMul, Nat.reduceEqDiff, WD, effB, effH, isPriv, isHeap, isImm, zbx, zby, zbz, chkO, setD, dslot, zca, zcb, zcc, zcd, ptrCells_some, F34, hb0, hx.shutIn, hx.len, by8_len, hp2, hmn, hcut, hy.shutIn, str_rd hy, alts34_2, Option.map_none]
  refine wC_loop _ (fun k st' H' => ∃ i : Nat, st' = ⟨L34_4 (.v (.ptr w 0 0)) (.box 0) (.box 1) (.v (strV rest)) (.v (.agg (signsL.map strV))) (.v (.int .i64 (i : Int))), [[.int .i64 0, .str ByteArray.empty, .int .i64 0, .int .i64 0], [.int .i64 5, .str ByteArray.empty, .int .i64 0, .int .i64 (p : Int)]], []⟩ ∧ H' = H ∧ i ≤ 22 ∧ k = 22 - i ∧ ∀ (j : Nat) q', j < i → signsL[j]? = some q' → preB rest q' = false) 22 ⟨0, ?_, rfl, by omega, by omega, fun j q' hj => by omega⟩ ?_
  · simp only [WN, firstReg, growAll, zbv, zbw, norm, killS, zag, zah, zaa, zab, zbl, zat, zad, growOne, zae, zaf, zac, zas, zak, Nat.reduceLT, Nat.reduceAdd, zbj, zav, F34, L34_4]
    rfl
  · rintro k st' H' ⟨i, rfl, rfl, hi, rfl, hno⟩
    simp only [L34_4]
    simp only [WW, partV, eqCells, eqLf, minV, maxV, ifcV, zaa, zab, zac, zad, zae, zaf, zag, zah, zai, ofConst, ofConst1, List.replicate, zaj, zak, loadOp, Go.Abs.loadCells, binV, zal, pickV, zam, zan, zao, zap, zaq, zar, zas, zat, zau, outR, resAll, resOne, zav, zaw, zax, zay, zaz, zba, zbb, zbc, zbd, zbe, zbf, zbg, zbh, zbi, zbj, zbk, storeOp, storeCell, overlay, zbl, zbm, zbn, lookupOp, keyT, okRes, mapUpdateOp, zbo, zbp, zbq, zbr, zbs, zbt, zbu, Nat.reduceSub, Nat.reduceAdd, Int.reduceLT, Int.reduceLE, Int.reduceAdd, Int.reduceSub, Int.reduceToNat, Int.reduceBEq, Int.reduceBNe, Int.reduceMul, Nat.reduceBEq, Nat.reduceBNe, Nat.reduceLT, Nat.reduceLeDiff, Nat.reduceMul, Nat.reduceEqDiff, WD, effB, effH, isPriv, isHeap, isImm, zbx, zby, zbz, chkO, setD, dslot, zca, zcb, zcc, zcd, ptrCells_some, F34]
    refine cSplit (fun hlt => ?_) (fun hge => ?_)
    · have hi2 : i < 22 := by have := of_decide_eq_true hlt; omega
      have hlen : signsL.length = 22 := rfl
      have hs : signsL[i]? = some (signsL[i]'(by omega)) := List.getElem?_eq_getElem _
      generalize signsL[i]'_ = s at hs
      have hi0 : ((i : Int) < ((22 : Nat) : Int)) := by omega
      simp only [hlt]
      simp only [WW, partV, eqCells, eqLf, minV, maxV, ifcV, zaa, zab, zac, zad, zae, zaf, zag, zah, zai, ofConst, ofConst1, List.replicate, zaj, zak, loadOp, Go.Abs.loadCells, binV, zal, pickV, zam, zan, zao, zap, zaq, zar, zas, zat, zau, outR, resAll, resOne, zav, zaw, zax, zay, zaz, zba, zbb, zbc, zbd, zbe, zbf, zbg, zbh, zbi, zbj, zbk, storeOp, storeCell, overlay, zbl, zbm, zbn, lookupOp, keyT, okRes, mapUpdateOp, zbo, zbp, zbq, zbr, zbs, zbt, zbu, Nat.reduceSub, Nat.reduceAdd, Int.reduceLT, Int.reduceLE, Int.reduceAdd, Int.reduceSub, Int.reduceToNat, Int.reduceBEq, Int.reduceBNe, Int.reduceMul, Nat.reduceBEq, Nat.reduceBNe, Nat.reduceLT, Nat.reduceLeDiff, Nat.reduceMul, Nat.reduceEqDiff, WD, effB, effH, isPriv, isHeap, isImm, zbx, zby, zbz, chkO, setD, dslot, zca, zcb, zcc, zcd, ptrCells_some, F34, hi0, Nat.mul_one, List.getElem?_map, hs, strV]
      rw [wpCall_eq (prefix_eq _ _ _)]
      simp only [WW, partV, eqCells, eqLf, minV, maxV, ifcV, zaa, zab, zac, zad, zae, zaf, zag, zah, zai, ofConst, ofConst1, List.replicate, zaj, zak, loadOp, Go.Abs.loadCells, binV, zal, pickV, zam, zan, zao, zap, zaq, zar, zas, zat, zau, outR, resAll, resOne, zav, zaw, zax, zay, zaz, zba, zbb, zbc, zbd, zbe, zbf, zbg, zbh, zbi, zbj, zbk, storeOp, storeCell, overlay, zbl, zbm, zbn, lookupOp, keyT, okRes, mapUpdateOp, zbo, zbp, zbq, zbr, zbs, zbt, zbu, Nat.reduceSub, Nat.reduceAdd, Int.reduceLT, Int.reduceLE, Int.reduceAdd, Int.reduceSub, Int.reduceToNat, Int.reduceBEq, Int.reduceBNe, Int.reduceMul, Nat.reduceBEq, Nat.reduceBNe, Nat.reduceLT, Nat.reduceLeDiff, Nat.reduceMul, Nat.reduceEqDiff, WD, effB, effH, isPriv, isHeap, isImm, zbx, zby, zbz, chkO, setD, dslot, zca, zcb, zcc, zcd, ptrCells_some, F34]
      cases hP : preB rest s with
      | true =>
        have hfind : signsL.find? (preB rest) = some s := by
          rw [List.find?_eq_some_iff_getElem]
          refine ⟨hP, i, by omega, by rw [List.getElem?_eq_getElem (by omega)] at hs; exact Option.some.inj hs, fun j hj => ?_⟩
          rw [hno j _ hj (List.getElem?_eq_getElem (by omega))]; rfl
        rw [hfe] at hfind
        have hsl : s.length ≤ 2 ∧ signS c r = .tok 5 s 0 s.length := by
          unfold signS
          split at hfind
          · rename_i h
            cases hfind
            rw [if_pos h]; exact ⟨by simp, rfl⟩
          · rename_i h
            rw [if_neg h]
            split at hfind
            · rename_i h2
              cases hfind
              rw [if_pos h2]; exact ⟨by simp, rfl⟩
            · cases hfind
        have hps : IntKind.i64.wrap ((p : Int) + (s.length : Int)) = ((p + s.length : Nat) : Int) := by rw [IntWalk.i64_in _ (by omega)]; omega
        simp only [WW, partV, eqCells, eqLf, minV, maxV, ifcV, zaa, zab, zac, zad, zae, zaf, zag, zah, zai, ofConst, ofConst1, List.replicate, zaj, zak, loadOp, Go.Abs.loadCells, binV, zal, pickV, zam, zan, zao, zap, zaq, zar, zas, zat, zau, outR, resAll, resOne, zav, zaw, zax, zay, zaz, zba, zbb, zbc, zbd, zbe, zbf, zbg, zbh, zbi, zbj, zbk, storeOp, storeCell, overlay, zbl, zbm, zbn, lookupOp, keyT, okRes, mapUpdateOp, zbo, zbp, zbq, zbr, zbs, zbt, zbu, Nat.reduceSub, Nat.reduceAdd, Int.reduceLT, Int.reduceLE, Int.reduceAdd, Int.reduceSub, Int.reduceToNat, Int.reduceBEq, Int.reduceBNe, Int.reduceMul, Nat.reduceBEq, Nat.reduceBNe, Nat.reduceLT, Nat.reduceLeDiff, Nat.reduceMul, Nat.reduceEqDiff, WD, effB, effH, isPriv, isHeap, isImm, zbx, zby, zbz, chkO, setD, dslot, zca, zcb, zcc, zcd, ptrCells_some, F34, hb0, ba_size, hps, storeHeap, promote, heapSet, elemSet]
        rw [hsl.2]
        exact ⟨rfl, rfl⟩
      | false =>
        have hi1 : IntKind.i64.wrap ((i : Int) + 1) = ((i + 1 : Nat) : Int) := by rw [IntWalk.i64_in _ (by omega)]; omega
        simp only [WW, partV, eqCells, eqLf, minV, maxV, ifcV, zaa, zab, zac, zad, zae, zaf, zag, zah, zai, ofConst, ofConst1, List.replicate, zaj, zak, loadOp, Go.Abs.loadCells, binV, zal, pickV, zam, zan, zao, zap, zaq, zar, zas, zat, zau, outR, resAll, resOne, zav, zaw, zax, zay, zaz, zba, zbb, zbc, zbd, zbe, zbf, zbg, zbh, zbi, zbj, zbk, storeOp, storeCell, overlay, zbl, zbm, zbn, lookupOp, keyT, okRes, mapUpdateOp, zbo, zbp, zbq, zbr, zbs, zbt, zbu, Nat.reduceSub, Nat.reduceAdd, Int.reduceLT, Int.reduceLE, Int.reduceAdd, Int.reduceSub, Int.reduceToNat, Int.reduceBEq, Int.reduceBNe, Int.reduceMul, Nat.reduceBEq, Nat.reduceBNe, Nat.reduceLT, Nat.reduceLeDiff, Nat.reduceMul, Nat.reduceEqDiff, WD, effB, effH, isPriv, isHeap, isImm, zbx, zby, zbz, chkO, setD, dslot, zca, zcb, zcc, zcd, ptrCells_some, F34, hi1]
        refine ⟨22 - (i + 1), by omega, i + 1, ?_, by omega, rfl, fun j q' hj hq' => ?_⟩
        · simp only [WN, firstReg, growAll, zbv, zbw, norm, killS, zag, zah, zaa, zab, zbl, zat, zad, growOne, zae, zaf, zac, zas, zak, Nat.reduceLT, Nat.reduceAdd, zbj, zav, F34, hi1]
          try rfl
        · by_cases e : j = i
          · subst e; rw [hs] at hq'; cases hq'; exact hP
          · exact hno j q' (by omega) hq'
    · have hi2 : i = 22 := by have := of_decide_eq_false hge; omega
      subst hi2
      have hfind : signsL.find? (preB rest) = none := by
        rw [List.find?_eq_none]
        intro s hs
        obtain ⟨j, hj, e⟩ := List.getElem_of_mem hs
        have h22 : signsL.length = 22 := rfl
        rw [hno j s (by omega) (by rw [List.getElem?_eq_getElem hj, e])]
        simp
      rw [hfe] at hfind
      have hbad : signS c r = .bad 6 (if c = 33 then 1 else 0) := by
        unfold signS
        split at hfind
        · cases hfind
        · rename_i h
          rw [if_neg h]
          split at hfind
          · cases hfind
          · rename_i h2; rw [if_neg h2]
      have e33 : (((c.toNat : Nat) : Int) == 33) = (c == 33) := u8b c 33
      simp only [hge]
      simp only [WW, partV, eqCells, eqLf, minV, maxV, ifcV, zaa, zab, zac, zad, zae, zaf, zag, zah, zai, ofConst, ofConst1, List.replicate, zaj, zak, loadOp, Go.Abs.loadCells, binV, zal, pickV, zam, zan, zao, zap, zaq, zar, zas, zat, zau, outR, resAll, resOne, zav, zaw, zax, zay, zaz, zba, zbb, zbc, zbd, zbe, zbf, zbg, zbh, zbi, zbj, zbk, storeOp, storeCell, overlay, zbl, zbm, zbn, lookupOp, keyT, okRes, mapUpdateOp, zbo, zbp, zbq, zbr, zbs, zbt, zbu, Nat.reduceSub, Nat.reduceAdd, Int.reduceLT, Int.reduceLE, Int.reduceAdd, Int.reduceSub, Int.reduceToNat, Int.reduceBEq, Int.reduceBNe, Int.reduceMul, Nat.reduceBEq, Nat.reduceBNe, Nat.reduceLT, Nat.reduceLeDiff, Nat.reduceMul, Nat.reduceEqDiff, WD, effB, effH, isPriv, isHeap, isImm, zbx, zby, zbz, chkO, setD, dslot, zca, zcb, zcc, zcd, ptrCells_some, F34, strV, Int.toNat_zero, Int.le_refl, List.toList_toArray, hc0, e33]
      rw [hbad]
      cases h33 : (c == 33) with
      | true =>
        have : c = 33 := by simpa using h33
        have hp1 : IntKind.i64.wrap ((p : Int) + 1) = ((p + 1 : Nat) : Int) := by rw [IntWalk.i64_in _ (by omega)]; omega
        simp only [WW, partV, eqCells, eqLf, minV, maxV, ifcV, zaa, zab, zac, zad, zae, zaf, zag, zah, zai, ofConst, ofConst1, List.replicate, zaj, zak, loadOp, Go.Abs.loadCells, binV, zal, pickV, zam, zan, zao, zap, zaq, zar, zas, zat, zau, outR, resAll, resOne, zav, zaw, zax, zay, zaz, zba, zbb, zbc, zbd, zbe, zbf, zbg, zbh, zbi, zbj, zbk, storeOp, storeCell, overlay, zbl, zbm, zbn, lookupOp, keyT, okRes, mapUpdateOp, zbo, zbp, zbq, zbr, zbs, zbt, zbu, Nat.reduceSub, Nat.reduceAdd, Int.reduceLT, Int.reduceLE, Int.reduceAdd, Int.reduceSub, Int.reduceToNat, Int.reduceBEq, Int.reduceBNe, Int.reduceMul, Nat.reduceBEq, Nat.reduceBNe, Nat.reduceLT, Nat.reduceLeDiff, Nat.reduceMul, Nat.reduceEqDiff, WD, effB, effH, isPriv, isHeap, isImm, zbx, zby, zbz, chkO, setD, dslot, zca, zcb, zcc, zcd, ptrCells_some, F34, hb0, hp1, storeHeap, promote, heapSet, elemSet]
        rw [if_pos this]
        exact ⟨⟨⟨5, [], 0, p⟩, rfl⟩, rfl⟩
      | false =>
        have : ¬ c = 33 := by simpa using h33
        simp only [WW, partV, eqCells, eqLf, minV, maxV, ifcV, zaa, zab, zac, zad, zae, zaf, zag, zah, zai, ofConst, ofConst1, List.replicate, zaj, zak, loadOp, Go.Abs.loadCells, binV, zal, pickV, zam, zan, zao, zap, zaq, zar, zas, zat, zau, outR, resAll, resOne, zav, zaw, zax, zay, zaz, zba, zbb, zbc, zbd, zbe, zbf, zbg, zbh, zbi, zbj, zbk, storeOp, storeCell, overlay, zbl, zbm, zbn, lookupOp, keyT, okRes, mapUpdateOp, zbo, zbp, zbq, zbr, zbs, zbt, zbu, Nat.reduceSub, Nat.reduceAdd, Int.reduceLT, Int.reduceLE, Int.reduceAdd, Int.reduceSub, Int.reduceToNat, Int.reduceBEq, Int.reduceBNe, Int.reduceMul, Nat.reduceBEq, Nat.reduceBNe, Nat.reduceLT, Nat.reduceLeDiff, Nat.reduceMul, Nat.reduceEqDiff, WD, effB, effH, isPriv, isHeap, isImm, zbx, zby, zbz, chkO, setD, dslot, zca, zcb, zcc, zcd, ptrCells_some, F34]
        rw [if_neg this]
        exact ⟨⟨⟨5, [], 0, p⟩, rfl⟩, hself.symm⟩
end Go.Proofs.YtcmndnkeoepmoaaDoor

namespace Go.Proofs.YtcmndnkeoepmoaaDoor
open Go Go.Abs Go.Proofs
set_option maxRecDepth 100000
set_option maxHeartbeats 1000000
set_option linter.unusedVariables false
set_option linter.unusedSimpArgs false
/-! ### strings -/
inductive Esc
  | ok (b : UInt8) (len : Nat)
  | bad (off : Nat)
def escS : List UInt8 → Esc
  | [] => .bad 0
  | d :: r1 =>
    if d = 120 then
      match r1 with
      | [] => .bad 1
      | a :: r2 => match hexN a with
        | none => .bad 1
        | some x => match r2 with
          | [] => .bad 2
          | b :: _ => match hexN b with
            | none => .bad 2
            | some y => .ok (UInt8.ofNat (16 * x + y)) 3
    else match escB d with
      | some y => .ok y 1
      | none => .bad 0
theorem text_esc (r out : List UInt8) (o : Nat) : textS (92 :: r) out o = match escS r with | .bad off => .bad 6 (o + 1 + off) | .ok y len => textS (r.drop len) (out ++ [y]) (o + 1 + len) := by
  rw [textS.eq_def]
  simp only
  rw [if_neg (by decide), if_neg (by decide), if_neg (by decide)]
  match r with
  | [] => rfl
  | d :: r1 =>
    simp only [escS]
    by_cases h : d = 120
    · rw [if_pos h, if_pos h]
      match r1 with
      | [] => rfl
      | a :: r2 =>
        simp only
        cases hexN a with
        | none => rfl
        | some x =>
          match r2 with
          | [] => rfl
          | b :: r3 =>
            simp only
            cases hexN b <;> rfl
    · rw [if_neg h, if_neg h]
      cases escB d <;> rfl
theorem hexN_lt {c : UInt8} {n : Nat} (h : hexN c = some n) : n < 16 := by
  unfold hexN at h
  split at h
  · cases h; omega
  split at h
  · cases h; omega
  split at h
  · cases h; omega
  · cases h
def escR (H : Hp) (w : Nat) (x : V) (p : Nat) (e : Esc) (out : Out) (H' : Hp) : Prop := match e with
  | .ok b len => out = .ret (.tup [.int .u8 (b.toNat : Int), .bool true]) false ∧ H' = H.set w (ctr x ((p + len : Nat) : Int))
  | .bad off => out = .ret (.tup [.int .u8 0, .bool false]) false ∧ H' = H.set w (ctr x ((p + off : Nat) : Int))
theorem esc_spec {H : Hp} {w : Nat} {x : V} {L : List UInt8} {p : Nat} (hB : By H w x L) (hC : Ct H w x p) (hp : p ≤ L.length) (hL : L.length ≤ 65536) :
    wpCall EW 38 [.ptr w 0 0] H (escR H w x p (escS (L.drop p))) := by
  have hb0 : H[w]? = some (.cells [.agg [x, .int .i64 (p : Int)]]) := hC
  have hx := hB.rd
  have hself := hC.self
  refine runs f38 b38 r38 n38 _ _ ?_
  simp only [bodyOf, Tryd.f38, Option.getD_some]
  simp only [WW, partV, eqCells, eqLf, minV, maxV, ifcV, zaa, zab, zac, zad, zae, zaf, zag, zah, zai, ofConst, ofConst1, List.replicate, zaj, zak, loadOp, Go.Abs.loadCells, binV, zal, pickV, zam, zan, zao, zap, zaq, zar, zas, zat, zau, outR, resAll, resOne, zav, zaw, zax, zay, zaz, zba, zbb, zbc, zbd, zbe, zbf, zbg, zbh, zbi, zbj, zbk, storeOp, storeCell, overlay, zbl, zbm, zbn, lookupOp, keyT, okRes, mapUpdateOp, zbo, zbp, zbq, zbr, zbs, zbt, zbu, Nat.reduceSub, Nat.reduceAdd, Int.reduceLT, Int.reduceLE, Int.reduceAdd, Int.reduceSub, Int.reduceToNat, Int.reduceBEq, Int.reduceBNe, Int.reduceMul, Nat.reduceBEq, Nat.reduceBNe, Nat.reduceLT, Nat.reduceLeDiff, Nat.reduceMul, Nat.reduceEqDiff, WD, effB, effH, isPriv, isHeap, isImm, zbx, zby, zbz, chkO, setD, dslot, zca, zcb, zcc, zcd, ptrCells_some, F38]
  refine wC_dr alts38_1 (by kernel_rfl) ?_
  by_cases hpe : p = L.length
  · have he : ((p : Int) == (L.length : Int)) = true := by simp [hpe]
    simp only [WW, partV, eqCells, eqLf, minV, maxV, ifcV, zaa, zab, zac, zad, zae, zaf, zag, zah, zai, ofConst, ofConst1, List.replicate, zaj, zak, loadOp, Go.Abs.loadCells, binV, zal, pickV, zam, zan, zao, zap, zaq, zar, zas, zat, zau, outR, resAll, resOne, zav, zaw, zax, zay, zaz, zba, zbb, zbc, zbd, zbe, zbf, zbg, zbh, zbi, zbj, zbk, storeOp, storeCell, overlay, zbl, zbm, zbn, lookupOp, keyT, okRes, mapUpdateOp, zbo, zbp, zbq, zbr, zbs, zbt, zbu, Nat.reduceSub, Nat.reduceAdd, Int.reduceLT, Int.reduceLE, Int.reduceAdd, Int.reduceSub, Int.reduceToNat, Int.reduceBEq, Int.reduceBNe, Int.reduceMul, Nat.reduceBEq, Nat.reduceBNe, Nat.reduceLT, Nat.reduceLeDiff, Nat.reduceMul, Nat.reduceEqDiff, WD, effB, effH, isPriv, isHeap, isImm, zbx, zby, zbz, chkO, setD, dslot, zca, zcb, zcc, zcd, ptrCells_some, F38, hb0, hx.shutIn, hx.len, by8_len, alts38_1, he]
    rw [List.drop_of_length_le (by omega)]
    exact ⟨rfl, hself.symm⟩
  · have he : ((p : Int) == (L.length : Int)) = false := by rw [beq_eq_false_iff_ne]; omega
    simp only [WW, partV, eqCells, eqLf, minV, maxV, ifcV, zaa, zab, zac, zad, zae, zaf, zag, zah, zai, ofConst, ofConst1, List.replicate, zaj, zak, loadOp, Go.Abs.loadCells, binV, zal, pickV, zam, zan, zao, zap, zaq, zar, zas, zat, zau, outR, resAll, resOne, zav, zaw, zax, zay, zaz, zba, zbb, zbc, zbd, zbe, zbf, zbg, zbh, zbi, zbj, zbk, storeOp, storeCell, overlay, zbl, zbm, zbn, lookupOp, keyT, okRes, mapUpdateOp, zbo, zbp, zbq, zbr, zbs, zbt, zbu, Nat.reduceSub, Nat.reduceAdd, Int.reduceLT, Int.reduceLE, Int.reduceAdd, Int.reduceSub, Int.reduceToNat, Int.reduceBEq, Int.reduceBNe, Int.reduceMul, Nat.reduceBEq, Nat.reduceBNe, Nat.reduceLT, Nat.reduceLeDiff, Nat.reduceMul, Nat.reduceEqDiff, WD, effB, effH, isPriv, isHeap, isImm, zbx, zby, zbz, chkO, setD, dslot, zca, zcb, zcc, zcd, ptrCells_some, F38, hb0, hx.shutIn, hx.len, by8_len, alts38_1, he]
    have hplt : p < L.length := by omega
    have hc : L[p]? = some L[p] := List.getElem?_eq_getElem hplt
    generalize L[p] = d at hc
    have hc8 : (by8 L)[p]? = some (byteV d) := by simp [by8, hc]
    have hat := hx.at_ (sz := 1) hc8 rfl
    have hp1 : IntKind.i64.wrap ((p : Int) + 1) = ((p + 1 : Nat) : Int) := by rw [IntWalk.i64_in _ (by omega)]; omega
    rw [drop_cons hc]
    refine wC_dr alts38_3 (by kernel_rfl) ?_
    simp only [WW, partV, eqCells, eqLf, minV, maxV, ifcV, zaa, zab, zac, zad, zae, zaf, zag, zah, zai, ofConst, ofConst1, List.replicate, zaj, zak, loadOp, Go.Abs.loadCells, binV, zal, pickV, zam, zan, zao, zap, zaq, zar, zas, zat, zau, outR, resAll, resOne, zav, zaw, zax, zay, zaz, zba, zbb, zbc, zbd, zbe, zbf, zbg, zbh, zbi, zbj, zbk, storeOp, storeCell, overlay, zbl, zbm, zbn, lookupOp, keyT, okRes, mapUpdateOp, zbo, zbp, zbq, zbr, zbs, zbt, zbu, Nat.reduceSub, Nat.reduceAdd, Int.reduceLT, Int.reduceLE, Int.reduceAdd, Int.reduceSub, Int.reduceToNat, Int.reduceBEq, Int.reduceBNe, Int.reduceMul, Nat.reduceBEq, Nat.reduceBNe, Nat.reduceLT, Nat.reduceLeDiff, Nat.reduceMul, Nat.reduceEqDiff, WD, effB, effH, isPriv, isHeap, isImm, zbx, zby, zbz, chkO, setD, dslot, zca, zcb, zcc, zcd, ptrCells_some, F38, hb0, hx.shutIn, hat.at1 hx, hat.cells, byteV, alts38_3]
    have e110 : (((d.toNat : Nat) : Int) == 110) = (d == 110) := u8b d 110
    have e116 : (((d.toNat : Nat) : Int) == 116) = (d == 116) := u8b d 116
    have e34 : (((d.toNat : Nat) : Int) == 34) = (d == 34) := u8b d 34
    have e92 : (((d.toNat : Nat) : Int) == 92) = (d == 92) := u8b d 92
    have e120 : (((d.toNat : Nat) : Int) == 120) = (d == 120) := u8b d 120
    cases h110 : (d == 110) with
    | true =>
      obtain rfl : d = 110 := by simpa using h110
      simp only [WW, partV, eqCells, eqLf, minV, maxV, ifcV, zaa, zab, zac, zad, zae, zaf, zag, zah, zai, ofConst, ofConst1, List.replicate, zaj, zak, loadOp, Go.Abs.loadCells, binV, zal, pickV, zam, zan, zao, zap, zaq, zar, zas, zat, zau, outR, resAll, resOne, zav, zaw, zax, zay, zaz, zba, zbb, zbc, zbd, zbe, zbf, zbg, zbh, zbi, zbj, zbk, storeOp, storeCell, overlay, zbl, zbm, zbn, lookupOp, keyT, okRes, mapUpdateOp, zbo, zbp, zbq, zbr, zbs, zbt, zbu, Nat.reduceSub, Nat.reduceAdd, Int.reduceLT, Int.reduceLE, Int.reduceAdd, Int.reduceSub, Int.reduceToNat, Int.reduceBEq, Int.reduceBNe, Int.reduceMul, Nat.reduceBEq, Nat.reduceBNe, Nat.reduceLT, Nat.reduceLeDiff, Nat.reduceMul, Nat.reduceEqDiff, WD, effB, effH, isPriv, isHeap, isImm, zbx, zby, zbz, chkO, setD, dslot, zca, zcb, zcc, zcd, ptrCells_some, F38, e110, h110, hb0, hp1, storeHeap, promote, heapSet, elemSet]
      exact ⟨rfl, rfl⟩
    | false =>
      have n110 : d ≠ 110 := by simpa using h110
      cases h116 : (d == 116) with
      | true =>
        obtain rfl : d = 116 := by simpa using h116
        simp only [WW, partV, eqCells, eqLf, minV, maxV, ifcV, zaa, zab, zac, zad, zae, zaf, zag, zah, zai, ofConst, ofConst1, List.replicate, zaj, zak, loadOp, Go.Abs.loadCells, binV, zal, pickV, zam, zan, zao, zap, zaq, zar, zas, zat, zau, outR, resAll, resOne, zav, zaw, zax, zay, zaz, zba, zbb, zbc, zbd, zbe, zbf, zbg, zbh, zbi, zbj, zbk, storeOp, storeCell, overlay, zbl, zbm, zbn, lookupOp, keyT, okRes, mapUpdateOp, zbo, zbp, zbq, zbr, zbs, zbt, zbu, Nat.reduceSub, Nat.reduceAdd, Int.reduceLT, Int.reduceLE, Int.reduceAdd, Int.reduceSub, Int.reduceToNat, Int.reduceBEq, Int.reduceBNe, Int.reduceMul, Nat.reduceBEq, Nat.reduceBNe, Nat.reduceLT, Nat.reduceLeDiff, Nat.reduceMul, Nat.reduceEqDiff, WD, effB, effH, isPriv, isHeap, isImm, zbx, zby, zbz, chkO, setD, dslot, zca, zcb, zcc, zcd, ptrCells_some, F38, e110, h110, e116, h116, hb0, hp1, storeHeap, promote, heapSet, elemSet]
        exact ⟨rfl, rfl⟩
      | false =>
        have n116 : d ≠ 116 := by simpa using h116
        cases h34 : (d == 34) with
        | true =>
          obtain rfl : d = 34 := by simpa using h34
          simp only [WW, partV, eqCells, eqLf, minV, maxV, ifcV, zaa, zab, zac, zad, zae, zaf, zag, zah, zai, ofConst, ofConst1, List.replicate, zaj, zak, loadOp, Go.Abs.loadCells, binV, zal, pickV, zam, zan, zao, zap, zaq, zar, zas, zat, zau, outR, resAll, resOne, zav, zaw, zax, zay, zaz, zba, zbb, zbc, zbd, zbe, zbf, zbg, zbh, zbi, zbj, zbk, storeOp, storeCell, overlay, zbl, zbm, zbn, lookupOp, keyT, okRes, mapUpdateOp, zbo, zbp, zbq, zbr, zbs, zbt, zbu, Nat.reduceSub, Nat.reduceAdd, Int.reduceLT, Int.reduceLE, Int.reduceAdd, Int.reduceSub, Int.reduceToNat, Int.reduceBEq, Int.reduceBNe, Int.reduceMul, Nat.reduceBEq, Nat.reduceBNe, Nat.reduceLT, Nat.reduceLeDiff, Nat.reduceMul, Nat.reduceEqDiff, WD, effB, effH, isPriv, isHeap, isImm, zbx, zby, zbz, chkO, setD, dslot, zca, zcb, zcc, zcd, ptrCells_some, F38, e110, h110, e116, h116, e34, h34, hb0, hp1, storeHeap, promote, heapSet, elemSet]
          exact ⟨rfl, rfl⟩
        | false =>
          have n34 : d ≠ 34 := by simpa using h34
          cases h92 : (d == 92) with
          | true =>
            obtain rfl : d = 92 := by simpa using h92
            simp only [WW, partV, eqCells, eqLf, minV, maxV, ifcV, zaa, zab, zac, zad, zae, zaf, zag, zah, zai, ofConst, ofConst1, List.replicate, zaj, zak, loadOp, Go.Abs.loadCells, binV, zal, pickV, zam, zan, zao, zap, zaq, zar, zas, zat, zau, outR, resAll, resOne, zav, zaw, zax, zay, zaz, zba, zbb, zbc, zbd, zbe, zbf, zbg, zbh, zbi, zbj, zbk, storeOp, storeCell, overlay, zbl, zbm, zbn, lookupOp, keyT, okRes, mapUpdateOp, zbo, zbp, zbq, zbr, zbs, zbt, zbu, Nat.reduceSub, Nat.reduceAdd, Int.reduceLT, Int.reduceLE, Int.reduceAdd, Int.reduceSub, Int.reduceToNat, Int.reduceBEq, Int.reduceBNe, Int.reduceMul, Nat.reduceBEq, Nat.reduceBNe, Nat.reduceLT, Nat.reduceLeDiff, Nat.reduceMul, Nat.reduceEqDiff, WD, effB, effH, isPriv, isHeap, isImm, zbx, zby, zbz, chkO, setD, dslot, zca, zcb, zcc, zcd, ptrCells_some, F38, e110, h110, e116, h116, e34, h34, e92, h92, hb0, hp1, storeHeap, promote, heapSet, elemSet]
            exact ⟨rfl, rfl⟩
          | false =>
            have n92 : d ≠ 92 := by simpa using h92
            cases h120 : (d == 120) with
            | false =>
              have n120 : d ≠ 120 := by simpa using h120
              have hesc : escS (d :: L.drop (p + 1)) = .bad 0 := by
                simp only [escS]
                rw [if_neg n120]
                simp [escB, n110, n116, n34, n92]
              simp only [WW, partV, eqCells, eqLf, minV, maxV, ifcV, zaa, zab, zac, zad, zae, zaf, zag, zah, zai, ofConst, ofConst1, List.replicate, zaj, zak, loadOp, Go.Abs.loadCells, binV, zal, pickV, zam, zan, zao, zap, zaq, zar, zas, zat, zau, outR, resAll, resOne, zav, zaw, zax, zay, zaz, zba, zbb, zbc, zbd, zbe, zbf, zbg, zbh, zbi, zbj, zbk, storeOp, storeCell, overlay, zbl, zbm, zbn, lookupOp, keyT, okRes, mapUpdateOp, zbo, zbp, zbq, zbr, zbs, zbt, zbu, Nat.reduceSub, Nat.reduceAdd, Int.reduceLT, Int.reduceLE, Int.reduceAdd, Int.reduceSub, Int.reduceToNat, Int.reduceBEq, Int.reduceBNe, Int.reduceMul, Nat.reduceBEq, Nat.reduceBNe, Nat.reduceLT, Nat.reduceLeDiff, Nat.reduceMul, Nat.reduceEqDiff, WD, effB, effH, isPriv, isHeap, isImm, zbx, zby, zbz, chkO, setD, dslot, zca, zcb, zcc, zcd, ptrCells_some, F38, e110, h110, e116, h116, e34, h34, e92, h92, e120, h120]
              rw [hesc]
              exact ⟨rfl, hself.symm⟩
            | true =>
              obtain rfl : d = 120 := by simpa using h120
              simp only [WW, partV, eqCells, eqLf, minV, maxV, ifcV, zaa, zab, zac, zad, zae, zaf, zag, zah, zai, ofConst, ofConst1, List.replicate, zaj, zak, loadOp, Go.Abs.loadCells, binV, zal, pickV, zam, zan, zao, zap, zaq, zar, zas, zat, zau, outR, resAll, resOne, zav, zaw, zax, zay, zaz, zba, zbb, zbc, zbd, zbe, zbf, zbg, zbh, zbi, zbj, zbk, storeOp, storeCell, overlay, zbl, zbm, zbn, lookupOp, keyT, okRes, mapUpdateOp, zbo, zbp, zbq, zbr, zbs, zbt, zbu, Nat.reduceSub, Nat.reduceAdd, Int.reduceLT, Int.reduceLE, Int.reduceAdd, Int.reduceSub, Int.reduceToNat, Int.reduceBEq, Int.reduceBNe, Int.reduceMul, Nat.reduceBEq, Nat.reduceBNe, Nat.reduceLT, Nat.reduceLeDiff, Nat.reduceMul, Nat.reduceEqDiff, WD, effB, effH, isPriv, isHeap, isImm, zbx, zby, zbz, chkO, setD, dslot, zca, zcb, zcc, zcd, ptrCells_some, F38, e110, h110, e116, h116, e34, h34, e92, h92, e120, h120]
              refine wC_loop _ (fun k st' H' => ∃ i nn : Nat, st' = ⟨L38_15 (.v (.ptr w 0 0)) (.v (.int .i64 (nn : Int))) (.v (.int .i64 (i : Int))), [], []⟩ ∧ Ct H' w x ((p + i : Nat) : Int) ∧ (∀ b, H'.set w b = H.set w b) ∧ i ≤ 2 ∧ k = 2 - i ∧
                ((i = 0 ∧ nn = 0) ∨ (i = 1 ∧ ∃ a, L[p + 1]? = some a ∧ hexN a = some nn) ∨ (i = 2 ∧ ∃ a b m1 m2, L[p + 1]? = some a ∧ hexN a = some m1 ∧ L[p + 2]? = some b ∧ hexN b = some m2 ∧ nn = 16 * m1 + m2))) 2 ⟨0, 0, ?_, hC, fun _ => rfl, by omega, rfl, .inl ⟨rfl, rfl⟩⟩ ?_
              · simp only [WN, firstReg, growAll, zbv, zbw, norm, killS, zag, zah, zaa, zab, zbl, zat, zad, growOne, zae, zaf, zac, zas, zak, Nat.reduceLT, Nat.reduceAdd, zbj, zav, F38, L38_15]
                try rfl
              · rintro k st' H' ⟨i, nn, rfl, hC', hset, hi, rfl, hcase⟩
                have hb1 : H'[w]? = some (.cells [.agg [x, .int .i64 ((p + i : Nat) : Int)]]) := hC'
                simp only [L38_15]
                simp only [WW, partV, eqCells, eqLf, minV, maxV, ifcV, zaa, zab, zac, zad, zae, zaf, zag, zah, zai, ofConst, ofConst1, List.replicate, zaj, zak, loadOp, Go.Abs.loadCells, binV, zal, pickV, zam, zan, zao, zap, zaq, zar, zas, zat, zau, outR, resAll, resOne, zav, zaw, zax, zay, zaz, zba, zbb, zbc, zbd, zbe, zbf, zbg, zbh, zbi, zbj, zbk, storeOp, storeCell, overlay, zbl, zbm, zbn, lookupOp, keyT, okRes, mapUpdateOp, zbo, zbp, zbq, zbr, zbs, zbt, zbu, Nat.reduceSub, Nat.reduceAdd, Int.reduceLT, Int.reduceLE, Int.reduceAdd, Int.reduceSub, Int.reduceToNat, Int.reduceBEq, Int.reduceBNe, Int.reduceMul, Nat.reduceBEq, Nat.reduceBNe, Nat.reduceLT, Nat.reduceLeDiff, Nat.reduceMul, Nat.reduceEqDiff, WD, effB, effH, isPriv, isHeap, isImm, zbx, zby, zbz, chkO, setD, dslot, zca, zcb, zcc, zcd, ptrCells_some, F38]
                refine cSplit (fun hlt => ?_) (fun hge => ?_)
                · have hi2 : i < 2 := by have := of_decide_eq_true hlt; omega
                  simp only [hlt]
                  have hq1 : IntKind.i64.wrap (((p + i : Nat) : Int) + 1) = ((p + (i + 1) : Nat) : Int) := by rw [IntWalk.i64_in _ (by omega)]; omega
                  simp only [WW, partV, eqCells, eqLf, minV, maxV, ifcV, zaa, zab, zac, zad, zae, zaf, zag, zah, zai, ofConst, ofConst1, List.replicate, zaj, zak, loadOp, Go.Abs.loadCells, binV, zal, pickV, zam, zan, zao, zap, zaq, zar, zas, zat, zau, outR, resAll, resOne, zav, zaw, zax, zay, zaz, zba, zbb, zbc, zbd, zbe, zbf, zbg, zbh, zbi, zbj, zbk, storeOp, storeCell, overlay, zbl, zbm, zbn, lookupOp, keyT, okRes, mapUpdateOp, zbo, zbp, zbq, zbr, zbs, zbt, zbu, Nat.reduceSub, Nat.reduceAdd, Int.reduceLT, Int.reduceLE, Int.reduceAdd, Int.reduceSub, Int.reduceToNat, Int.reduceBEq, Int.reduceBNe, Int.reduceMul, Nat.reduceBEq, Nat.reduceBNe, Nat.reduceLT, Nat.reduceLeDiff, Nat.reduceMul, Nat.reduceEqDiff, WD, effB, effH, isPriv, isHeap, isImm, zbx, zby, zbz, chkO, setD, dslot, zca, zcb, zcc, zcd, ptrCells_some, F38, hb1, hq1, storeHeap, promote, heapSet, elemSet]
                  have hC2 := hC'.to ((p + (i + 1) : Nat) : Int)
                  have hset2 : ∀ b, (H'.set w (ctr x ((p + (i + 1) : Nat) : Int))).set w b = H.set w b := fun b => by rw [List.set_set]; exact hset b
                  have hfold : H'.set w (Blk.cells [V.agg [x, V.int IntKind.i64 ((p + (i + 1) : Nat) : Int)]]) = H'.set w (ctr x ((p + (i + 1) : Nat) : Int)) := rfl
                  rw [hfold]
                  generalize H'.set w (ctr x ((p + (i + 1) : Nat) : Int)) = H2 at hC2 hset2 ⊢
                  have hb2 : H2[w]? = some (.cells [.agg [x, .int .i64 ((p + (i + 1) : Nat) : Int)]]) := hC2
                  have hx2 := (hB.same hset2).rd
                  have hbad : H2 = H.set w (ctr x ((p + (i + 1) : Nat) : Int)) := by rw [← hset2]; exact hC2.self.symm
                  have hn16 : nn < 16 := by
                    rcases hcase with ⟨_, rfl⟩ | ⟨_, a, _, h⟩ | ⟨h, _⟩
                    · omega
                    · exact hexN_lt h
                    · omega
                  refine wC_dr alts38_17 (by kernel_rfl) ?_
                  by_cases hqe : p + (i + 1) = L.length
                  · have he2 : (((p + (i + 1) : Nat) : Int) == (L.length : Int)) = true := by simp; omega
                    simp only [WW, partV, eqCells, eqLf, minV, maxV, ifcV, zaa, zab, zac, zad, zae, zaf, zag, zah, zai, ofConst, ofConst1, List.replicate, zaj, zak, loadOp, Go.Abs.loadCells, binV, zal, pickV, zam, zan, zao, zap, zaq, zar, zas, zat, zau, outR, resAll, resOne, zav, zaw, zax, zay, zaz, zba, zbb, zbc, zbd, zbe, zbf, zbg, zbh, zbi, zbj, zbk, storeOp, storeCell, overlay, zbl, zbm, zbn, lookupOp, keyT, okRes, mapUpdateOp, zbo, zbp, zbq, zbr, zbs, zbt, zbu, Nat.reduceSub, Nat.reduceAdd, Int.reduceLT, Int.reduceLE, Int.reduceAdd, Int.reduceSub, Int.reduceToNat, Int.reduceBEq, Int.reduceBNe, Int.reduceMul, Nat.reduceBEq, Nat.reduceBNe, Nat.reduceLT, Nat.reduceLeDiff, Nat.reduceMul, Nat.reduceEqDiff, WD, effB, effH, isPriv, isHeap, isImm, zbx, zby, zbz, chkO, setD, dslot, zca, zcb, zcc, zcd, ptrCells_some, F38, hb2, hx2.shutIn, hx2.len, by8_len, alts38_17, he2]
                    have hesc : escS (120 :: L.drop (p + 1)) = .bad (i + 1) := by
                      simp only [escS]
                      rcases hcase with ⟨rfl, rfl⟩ | ⟨rfl, a, ha, h⟩ | ⟨h, _⟩
                      · rw [List.drop_of_length_le (by omega)]; rfl
                      · rw [drop_cons ha, List.drop_of_length_le (by omega)]
                        simp [h]
                      · omega
                    rw [hesc]
                    exact ⟨rfl, hbad⟩
                  · have he2 : (((p + (i + 1) : Nat) : Int) == (L.length : Int)) = false := by rw [beq_eq_false_iff_ne]; omega
                    have hqlt : p + (i + 1) < L.length := by
                      rcases hcase with ⟨rfl, rfl⟩ | ⟨rfl, a, ha, h⟩ | ⟨h, _⟩
                      · omega
                      · have := (List.getElem?_eq_some_iff.1 ha).1; omega
                      · omega
                    have hc2 : L[p + (i + 1)]? = some L[p + (i + 1)] := List.getElem?_eq_getElem hqlt
                    generalize L[p + (i + 1)] = a at hc2
                    have hc28 : (by8 L)[p + (i + 1)]? = some (byteV a) := by simp [by8, hc2]
                    have hat2 := hx2.at_ (sz := 1) hc28 rfl
                    simp only [WW, partV, eqCells, eqLf, minV, maxV, ifcV, zaa, zab, zac, zad, zae, zaf, zag, zah, zai, ofConst, ofConst1, List.replicate, zaj, zak, loadOp, Go.Abs.loadCells, binV, zal, pickV, zam, zan, zao, zap, zaq, zar, zas, zat, zau, outR, resAll, resOne, zav, zaw, zax, zay, zaz, zba, zbb, zbc, zbd, zbe, zbf, zbg, zbh, zbi, zbj, zbk, storeOp, storeCell, overlay, zbl, zbm, zbn, lookupOp, keyT, okRes, mapUpdateOp, zbo, zbp, zbq, zbr, zbs, zbt, zbu, Nat.reduceSub, Nat.reduceAdd, Int.reduceLT, Int.reduceLE, Int.reduceAdd, Int.reduceSub, Int.reduceToNat, Int.reduceBEq, Int.reduceBNe, Int.reduceMul, Nat.reduceBEq, Nat.reduceBNe, Nat.reduceLT, Nat.reduceLeDiff, Nat.reduceMul, Nat.reduceEqDiff, WD, effB, effH, isPriv, isHeap, isImm, zbx, zby, zbz, chkO, setD, dslot, zca, zcb, zcc, zcd, ptrCells_some, F38, hb2, hx2.shutIn, hx2.len, by8_len, alts38_17, he2, hat2.at1 hx2, hat2.cells, byteV]
                    rw [wpCall_eq (hexit_eq a _)]
                    cases hh : hexN a with
                    | none =>
                      have hI : hexI a = -1 := by unfold hexI; rw [hh]
                      simp only [WW, partV, eqCells, eqLf, minV, maxV, ifcV, zaa, zab, zac, zad, zae, zaf, zag, zah, zai, ofConst, ofConst1, List.replicate, zaj, zak, loadOp, Go.Abs.loadCells, binV, zal, pickV, zam, zan, zao, zap, zaq, zar, zas, zat, zau, outR, resAll, resOne, zav, zaw, zax, zay, zaz, zba, zbb, zbc, zbd, zbe, zbf, zbg, zbh, zbi, zbj, zbk, storeOp, storeCell, overlay, zbl, zbm, zbn, lookupOp, keyT, okRes, mapUpdateOp, zbo, zbp, zbq, zbr, zbs, zbt, zbu, Nat.reduceSub, Nat.reduceAdd, Int.reduceLT, Int.reduceLE, Int.reduceAdd, Int.reduceSub, Int.reduceToNat, Int.reduceBEq, Int.reduceBNe, Int.reduceMul, Nat.reduceBEq, Nat.reduceBNe, Nat.reduceLT, Nat.reduceLeDiff, Nat.reduceMul, Nat.reduceEqDiff, WD, effB, effH, isPriv, isHeap, isImm, zbx, zby, zbz, chkO, setD, dslot, zca, zcb, zcc, zcd, ptrCells_some, F38, hb2, hx2.shutIn, hx2.len, by8_len, alts38_17, he2, hat2.at1 hx2, hat2.cells, byteV, hI]
                      have hesc : escS (120 :: L.drop (p + 1)) = .bad (i + 1) := by
                        simp only [escS]
                        rcases hcase with ⟨rfl, rfl⟩ | ⟨rfl, a', ha, h⟩ | ⟨h, _⟩
                        · rw [drop_cons hc2]; simp [hh]
                        · rw [drop_cons ha, drop_cons hc2]; simp [hh, h]
                        · omega
                      rw [hesc]
                      exact ⟨rfl, hbad⟩
                    | some m =>
                      have hI : hexI a = m := by unfold hexI; rw [hh]
                      have hm := hexN_lt hh
                      have hneg : decide ((m : Int) < 0) = false := decide_eq_false (by omega)
                      have hw1 : IntKind.i64.wrap (16 * (nn : Int)) = ((16 * nn : Nat) : Int) := by rw [IntWalk.i64_in _ (by omega)]; omega
                      have hw2 : IntKind.i64.wrap (((16 * nn : Nat) : Int) + (m : Int)) = ((16 * nn + m : Nat) : Int) := by rw [IntWalk.i64_in _ (by omega)]; omega
                      have hi1 : IntKind.i64.wrap ((i : Int) + 1) = ((i + 1 : Nat) : Int) := by rw [IntWalk.i64_in _ (by omega)]; omega
                      simp only [WW, partV, eqCells, eqLf, minV, maxV, ifcV, zaa, zab, zac, zad, zae, zaf, zag, zah, zai, ofConst, ofConst1, List.replicate, zaj, zak, loadOp, Go.Abs.loadCells, binV, zal, pickV, zam, zan, zao, zap, zaq, zar, zas, zat, zau, outR, resAll, resOne, zav, zaw, zax, zay, zaz, zba, zbb, zbc, zbd, zbe, zbf, zbg, zbh, zbi, zbj, zbk, storeOp, storeCell, overlay, zbl, zbm, zbn, lookupOp, keyT, okRes, mapUpdateOp, zbo, zbp, zbq, zbr, zbs, zbt, zbu, Nat.reduceSub, Nat.reduceAdd, Int.reduceLT, Int.reduceLE, Int.reduceAdd, Int.reduceSub, Int.reduceToNat, Int.reduceBEq, Int.reduceBNe, Int.reduceMul, Nat.reduceBEq, Nat.reduceBNe, Nat.reduceLT, Nat.reduceLeDiff, Nat.reduceMul, Nat.reduceEqDiff, WD, effB, effH, isPriv, isHeap, isImm, zbx, zby, zbz, chkO, setD, dslot, zca, zcb, zcc, zcd, ptrCells_some, F38, hb2, hx2.shutIn, hx2.len, by8_len, alts38_17, he2, hat2.at1 hx2, hat2.cells, byteV, hI, hneg]
                      refine wC_dr alts38_19 (by kernel_rfl) ?_
                      simp only [WW, partV, eqCells, eqLf, minV, maxV, ifcV, zaa, zab, zac, zad, zae, zaf, zag, zah, zai, ofConst, ofConst1, List.replicate, zaj, zak, loadOp, Go.Abs.loadCells, binV, zal, pickV, zam, zan, zao, zap, zaq, zar, zas, zat, zau, outR, resAll, resOne, zav, zaw, zax, zay, zaz, zba, zbb, zbc, zbd, zbe, zbf, zbg, zbh, zbi, zbj, zbk, storeOp, storeCell, overlay, zbl, zbm, zbn, lookupOp, keyT, okRes, mapUpdateOp, zbo, zbp, zbq, zbr, zbs, zbt, zbu, Nat.reduceSub, Nat.reduceAdd, Int.reduceLT, Int.reduceLE, Int.reduceAdd, Int.reduceSub, Int.reduceToNat, Int.reduceBEq, Int.reduceBNe, Int.reduceMul, Nat.reduceBEq, Nat.reduceBNe, Nat.reduceLT, Nat.reduceLeDiff, Nat.reduceMul, Nat.reduceEqDiff, WD, effB, effH, isPriv, isHeap, isImm, zbx, zby, zbz, chkO, setD, dslot, zca, zcb, zcc, zcd, ptrCells_some, F38, hb2, hx2.shutIn, hx2.len, by8_len, alts38_19, he2, hat2.at1 hx2, hat2.cells, byteV, hI, hneg, hw1]
                      rw [wpCall_eq (hexit_eq a _)]
                      simp only [WW, partV, eqCells, eqLf, minV, maxV, ifcV, zaa, zab, zac, zad, zae, zaf, zag, zah, zai, ofConst, ofConst1, List.replicate, zaj, zak, loadOp, Go.Abs.loadCells, binV, zal, pickV, zam, zan, zao, zap, zaq, zar, zas, zat, zau, outR, resAll, resOne, zav, zaw, zax, zay, zaz, zba, zbb, zbc, zbd, zbe, zbf, zbg, zbh, zbi, zbj, zbk, storeOp, storeCell, overlay, zbl, zbm, zbn, lookupOp, keyT, okRes, mapUpdateOp, zbo, zbp, zbq, zbr, zbs, zbt, zbu, Nat.reduceSub, Nat.reduceAdd, Int.reduceLT, Int.reduceLE, Int.reduceAdd, Int.reduceSub, Int.reduceToNat, Int.reduceBEq, Int.reduceBNe, Int.reduceMul, Nat.reduceBEq, Nat.reduceBNe, Nat.reduceLT, Nat.reduceLeDiff, Nat.reduceMul, Nat.reduceEqDiff, WD, effB, effH, isPriv, isHeap, isImm, zbx, zby, zbz, chkO, setD, dslot, zca, zcb, zcc, zcd, ptrCells_some, F38, hb2, hx2.shutIn, hx2.len, by8_len, alts38_19, he2, hat2.at1 hx2, hat2.cells, byteV, hI, hneg, hw1, hw2, hi1]
                      refine ⟨2 - (i + 1), by omega, i + 1, 16 * nn + m, ?_, hC2, hset2, by omega, rfl, ?_⟩
                      · simp only [WN, firstReg, growAll, zbv, zbw, norm, killS, zag, zah, zaa, zab, zbl, zat, zad, growOne, zae, zaf, zac, zas, zak, Nat.reduceLT, Nat.reduceAdd, zbj, zav, F38, hi1]
                        try rfl
                      · rcases hcase with ⟨rfl, rfl⟩ | ⟨rfl, a', ha, h⟩ | ⟨h, _⟩
                        · exact .inr (.inl ⟨rfl, a, hc2, by rw [hh]; simp⟩)
                        · exact .inr (.inr ⟨rfl, a', a, nn, m, ha, h, hc2, hh, rfl⟩)
                        · omega
                · have hi2 : i = 2 := by have := of_decide_eq_false hge; omega
                  subst hi2
                  rcases hcase with ⟨h, _⟩ | ⟨h, _⟩ | ⟨_, a, b, m1, m2, ha, hm1, hb, hm2, rfl⟩
                  · omega
                  · omega
                  · have := hexN_lt hm1
                    have := hexN_lt hm2
                    have hw8 : IntKind.u8.wrap ((16 * m1 + m2 : Nat) : Int) = (((UInt8.ofNat (16 * m1 + m2)).toNat : Nat) : Int) := by
                      rw [u8wrap (by omega)]; simp; omega
                    have hq1 : IntKind.i64.wrap (((p + 2 : Nat) : Int) + 1) = ((p + 3 : Nat) : Int) := by rw [IntWalk.i64_in _ (by omega)]; omega
                    simp only [hge]
                    simp only [WW, partV, eqCells, eqLf, minV, maxV, ifcV, zaa, zab, zac, zad, zae, zaf, zag, zah, zai, ofConst, ofConst1, List.replicate, zaj, zak, loadOp, Go.Abs.loadCells, binV, zal, pickV, zam, zan, zao, zap, zaq, zar, zas, zat, zau, outR, resAll, resOne, zav, zaw, zax, zay, zaz, zba, zbb, zbc, zbd, zbe, zbf, zbg, zbh, zbi, zbj, zbk, storeOp, storeCell, overlay, zbl, zbm, zbn, lookupOp, keyT, okRes, mapUpdateOp, zbo, zbp, zbq, zbr, zbs, zbt, zbu, Nat.reduceSub, Nat.reduceAdd, Int.reduceLT, Int.reduceLE, Int.reduceAdd, Int.reduceSub, Int.reduceToNat, Int.reduceBEq, Int.reduceBNe, Int.reduceMul, Nat.reduceBEq, Nat.reduceBNe, Nat.reduceLT, Nat.reduceLeDiff, Nat.reduceMul, Nat.reduceEqDiff, WD, effB, effH, isPriv, isHeap, isImm, zbx, zby, zbz, chkO, setD, dslot, zca, zcb, zcc, zcd, ptrCells_some, F38, conv35, hw8, hb1, hq1, storeHeap, promote, heapSet, elemSet]
                    have hesc : escS (120 :: L.drop (p + 1)) = .ok (UInt8.ofNat (16 * m1 + m2)) 3 := by
                      simp only [escS]
                      rw [drop_cons ha, drop_cons hb]
                      simp [hm1, hm2]
                    rw [hesc]
                    exact ⟨rfl, hset _⟩
end Go.Proofs.YtcmndnkeoepmoaaDoor

namespace Go.Proofs.YtcmndnkeoepmoaaDoor
open Go Go.Abs Go.Proofs
set_option maxRecDepth 100000
set_option maxHeartbeats 1000000
set_option linter.unusedVariables false
set_option linter.unusedSimpArgs false
theorem bx_row (o : List UInt8) : Bx (rowV true (by8 o) o.length) o := by
  unfold rowV
  cases o with
  | nil => exact .inl ⟨rfl, rfl⟩
  | cons a b =>
    rw [if_neg (by simp)]
    exact .inr (by rw [List.take_of_length_le (by simp [by8])])
theorem text_one {c : UInt8} {r out : List UInt8} {o : Nat} (h10 : c ≠ 10) (h34 : c ≠ 34) (h92 : c ≠ 92) : textS (c :: r) out o = textS r (out ++ [c]) (o + 1) := by
  rw [textS.eq_def]
  simp only
  rw [if_neg h10, if_neg h34, if_pos h92]
theorem escS_len {R : List UInt8} {b : UInt8} {len : Nat} (h : escS R = .ok b len) : 1 ≤ len ∧ len ≤ R.length := by
  match R with
  | [] => cases h
  | d :: r1 =>
    simp only [escS] at h
    split at h
    · match r1, h with
      | [], h => cases h
      | a :: r2, h =>
        simp only at h
        split at h
        · cases h
        match r2, h with
        | [], h => cases h
        | b :: r3, h =>
          simp only at h
          split at h
          · cases h
          · cases h; simp
    · split at h
      · cases h; simp
      · cases h
theorem text_spec {H : Hp} {w : Nat} {x : V} {L : List UInt8} {p : Nat} {r : List UInt8} (hB : By H w x L) (hC : Ct H w x p) (hcr : L.drop p = 34 :: r) (hL : L.length ≤ 65536) :
    wpCall EW 33 [.ptr w 0 0] H (nxR H w x p (textS r [] 1)) := by
  have hp : p < L.length := by
    have := congrArg List.length hcr
    simp at this; omega
  have hr : L.drop (p + 1) = r := by
    rw [← List.drop_drop, hcr]; rfl
  have hb0 : H[w]? = some (.cells [.agg [x, .int .i64 (p : Int)]]) := hC
  have hp1 : IntKind.i64.wrap ((p : Int) + 1) = ((p + 1 : Nat) : Int) := by rw [IntWalk.i64_in _ (by omega)]; omega
  refine runs f33 b33 r33 n33 _ _ ?_
  simp only [bodyOf, Tryd.f33, Option.getD_some]
  simp only [WW, partV, eqCells, eqLf, minV, maxV, ifcV, zaa, zab, zac, zad, zae, zaf, zag, zah, zai, ofConst, ofConst1, List.replicate, zaj, zak, loadOp, Go.Abs.loadCells, binV, zal, pickV, zam, zan, zao, zap, zaq, zar, zas, zat, zau, outR, resAll, resOne, zav, zaw, zax, zay, zaz, zba, zbb, zbc, zbd, zbe, zbf, zbg, zbh, zbi, zbj, zbk, storeOp, storeCell, overlay, zbl, zbm, zbn, lookupOp, keyT, okRes, mapUpdateOp, zbo, zbp, zbq, zbr, zbs, zbt, zbu, Nat.reduceSub, Nat.reduceAdd, Int.reduceLT, Int.reduceLE, Int.reduceAdd, Int.reduceSub, Int.reduceToNat, Int.reduceBEq, Int.reduceBNe, Int.reduceMul, Nat.reduceBEq, Nat.reduceBNe, Nat.reduceLT, Nat.reduceLeDiff, Nat.reduceMul, Nat.reduceEqDiff, WD, effB, effH, isPriv, isHeap, isImm, zbx, zby, zbz, chkO, setD, dslot, zca, zcb, zcc, zcd, ptrCells_some, F33, hb0, hp1, buildOp, fillV, Lay.place, Bool.or_self, Bool.or_false, Bool.false_or, decide_not, ne_eq, not_true_eq_false, decide_eq_true_eq, Nat.lt_irrefl, storeHeap, promote, heapSet, elemSet]
  have hC1 := hC.to ((p + 1 : Nat) : Int)
  have hset1 : ∀ b, (H.set w (ctr x ((p + 1 : Nat) : Int))).set w b = H.set w b := fun b => List.set_set ..
  have hfold : H.set w (Blk.cells [V.agg [x, V.int IntKind.i64 ((p + 1 : Nat) : Int)]]) = H.set w (ctr x ((p + 1 : Nat) : Int)) := rfl
  rw [hfold]
  generalize H.set w (ctr x ((p + 1 : Nat) : Int)) = H1 at hC1 hset1 ⊢
  refine wC_loop _ (fun k st' H' => ∃ (i : Nat) (out : List UInt8), st' = ⟨L33_4 (.v (.ptr w 0 0)) (.box 0) (.box 1) (.v (.lr 0 out.length)), [[.int .i64 0, .str ByteArray.empty, .int .i64 0, .int .i64 0], [.int .i64 4, .str ByteArray.empty, .int .i64 0, .int .i64 (p : Int)]], [⟨true, true, by8 out⟩]⟩ ∧ Ct H' w x (i : Int) ∧ (∀ b, H'.set w b = H.set w b) ∧ k = L.length - i ∧ p < i ∧ i ≤ L.length ∧ out.length ≤ i ∧ textS (L.drop i) out (i - p) = textS r [] 1) (L.length - (p + 1)) ⟨p + 1, [], ?_, hC1, hset1, rfl, by omega, by omega, by simp, by rw [hr]; congr 1; omega⟩ ?_
  · simp only [WN, firstReg, growAll, zbv, zbw, norm, killS, zag, zah, zaa, zab, zbl, zat, zad, growOne, zae, zaf, zac, zas, zak, Nat.reduceLT, Nat.reduceAdd, zbj, zav, F33, L33_4]
    rfl
  · rintro k st' H' ⟨i, out, rfl, hC', hset, rfl, hpi, hi, hol, hs⟩
    simp only [L33_4]
    have hx := (hB.same hset).rd
    have hb : H'[w]? = some (.cells [.agg [x, .int .i64 (i : Int)]]) := hC'
    have hself' : H' = H.set w (ctr x (i : Int)) := by rw [← hset]; exact hC'.self.symm
    have hpi2 : p + (i - p) = i := by omega
    simp only [WW, partV, eqCells, eqLf, minV, maxV, ifcV, zaa, zab, zac, zad, zae, zaf, zag, zah, zai, ofConst, ofConst1, List.replicate, zaj, zak, loadOp, Go.Abs.loadCells, binV, zal, pickV, zam, zan, zao, zap, zaq, zar, zas, zat, zau, outR, resAll, resOne, zav, zaw, zax, zay, zaz, zba, zbb, zbc, zbd, zbe, zbf, zbg, zbh, zbi, zbj, zbk, storeOp, storeCell, overlay, zbl, zbm, zbn, lookupOp, keyT, okRes, mapUpdateOp, zbo, zbp, zbq, zbr, zbs, zbt, zbu, Nat.reduceSub, Nat.reduceAdd, Int.reduceLT, Int.reduceLE, Int.reduceAdd, Int.reduceSub, Int.reduceToNat, Int.reduceBEq, Int.reduceBNe, Int.reduceMul, Nat.reduceBEq, Nat.reduceBNe, Nat.reduceLT, Nat.reduceLeDiff, Nat.reduceMul, Nat.reduceEqDiff, WD, effB, effH, isPriv, isHeap, isImm, zbx, zby, zbz, chkO, setD, dslot, zca, zcb, zcc, zcd, ptrCells_some, F33]
    refine wC_dr alts33_4 (by kernel_rfl) ?_
    simp only [WW, partV, eqCells, eqLf, minV, maxV, ifcV, zaa, zab, zac, zad, zae, zaf, zag, zah, zai, ofConst, ofConst1, List.replicate, zaj, zak, loadOp, Go.Abs.loadCells, binV, zal, pickV, zam, zan, zao, zap, zaq, zar, zas, zat, zau, outR, resAll, resOne, zav, zaw, zax, zay, zaz, zba, zbb, zbc, zbd, zbe, zbf, zbg, zbh, zbi, zbj, zbk, storeOp, storeCell, overlay, zbl, zbm, zbn, lookupOp, keyT, okRes, mapUpdateOp, zbo, zbp, zbq, zbr, zbs, zbt, zbu, Nat.reduceSub, Nat.reduceAdd, Int.reduceLT, Int.reduceLE, Int.reduceAdd, Int.reduceSub, Int.reduceToNat, Int.reduceBEq, Int.reduceBNe, Int.reduceMul, Nat.reduceBEq, Nat.reduceBNe, Nat.reduceLT, Nat.reduceLeDiff, Nat.reduceMul, Nat.reduceEqDiff, WD, effB, effH, isPriv, isHeap, isImm, zbx, zby, zbz, chkO, setD, dslot, zca, zcb, zcc, zcd, ptrCells_some, F33, hb, hx.shutIn, hx.len, by8_len, alts33_4]
    refine cSplit (fun hlt => ?_) (fun hge => ?_)
    · have hi2 : i < L.length := by have := of_decide_eq_true hlt; omega
      have hc : L[i]? = some L[i] := List.getElem?_eq_getElem hi2
      generalize L[i] = c at hc
      have hc8 : (by8 L)[i]? = some (byteV c) := by simp [by8, hc]
      have hat := hx.at_ (sz := 1) hc8 rfl
      rw [drop_cons hc] at hs
      have hq1 : IntKind.i64.wrap ((i : Int) + 1) = ((i + 1 : Nat) : Int) := by rw [IntWalk.i64_in _ (by omega)]; omega
      have e10 : (((c.toNat : Nat) : Int) == 10) = (c == 10) := u8b c 10
      have e34 : (((c.toNat : Nat) : Int) == 34) = (c == 34) := u8b c 34
      have e92 : (((c.toNat : Nat) : Int) == 92) = (c == 92) := u8b c 92
      have h40 : ∀ a b : V, wideAll [V.int .u8 (c.toNat : Int)] 1 = true := fun _ _ => rfl
      have hw1 : wideAll [V.int .u8 (c.toNat : Int)] 1 = true := rfl
      have hwo : wideAll (by8 out) 1 = true := wide_by8 out
      have q1 : (out.length == (by8 out).length) = true := by simp [by8]
      have q2 : decide ((out.length + 1) * 1 ≤ 70368744177664) = true := by simp; omega
      have q3 : decide (out.length ≤ 4611686018427387903) = true := by simp; omega
      have q4 : decide (out.length + 1 ≤ 70368744177664) = true := by simp; omega
      simp only [hlt]
      simp only [WW, partV, eqCells, eqLf, minV, maxV, ifcV, zaa, zab, zac, zad, zae, zaf, zag, zah, zai, ofConst, ofConst1, List.replicate, zaj, zak, loadOp, Go.Abs.loadCells, binV, zal, pickV, zam, zan, zao, zap, zaq, zar, zas, zat, zau, outR, resAll, resOne, zav, zaw, zax, zay, zaz, zba, zbb, zbc, zbd, zbe, zbf, zbg, zbh, zbi, zbj, zbk, storeOp, storeCell, overlay, zbl, zbm, zbn, lookupOp, keyT, okRes, mapUpdateOp, zbo, zbp, zbq, zbr, zbs, zbt, zbu, Nat.reduceSub, Nat.reduceAdd, Int.reduceLT, Int.reduceLE, Int.reduceAdd, Int.reduceSub, Int.reduceToNat, Int.reduceBEq, Int.reduceBNe, Int.reduceMul, Nat.reduceBEq, Nat.reduceBNe, Nat.reduceLT, Nat.reduceLeDiff, Nat.reduceMul, Nat.reduceEqDiff, WD, effB, effH, isPriv, isHeap, isImm, zbx, zby, zbz, chkO, setD, dslot, zca, zcb, zcc, zcd, ptrCells_some, F33]
      refine wC_dr alts33_5 (by kernel_rfl) ?_
      simp only [WW, partV, eqCells, eqLf, minV, maxV, ifcV, zaa, zab, zac, zad, zae, zaf, zag, zah, zai, ofConst, ofConst1, List.replicate, zaj, zak, loadOp, Go.Abs.loadCells, binV, zal, pickV, zam, zan, zao, zap, zaq, zar, zas, zat, zau, outR, resAll, resOne, zav, zaw, zax, zay, zaz, zba, zbb, zbc, zbd, zbe, zbf, zbg, zbh, zbi, zbj, zbk, storeOp, storeCell, overlay, zbl, zbm, zbn, lookupOp, keyT, okRes, mapUpdateOp, zbo, zbp, zbq, zbr, zbs, zbt, zbu, Nat.reduceSub, Nat.reduceAdd, Int.reduceLT, Int.reduceLE, Int.reduceAdd, Int.reduceSub, Int.reduceToNat, Int.reduceBEq, Int.reduceBNe, Int.reduceMul, Nat.reduceBEq, Nat.reduceBNe, Nat.reduceLT, Nat.reduceLeDiff, Nat.reduceMul, Nat.reduceEqDiff, WD, effB, effH, isPriv, isHeap, isImm, zbx, zby, zbz, chkO, setD, dslot, zca, zcb, zcc, zcd, ptrCells_some, F33, hb, hx.shutIn, hat.at1 hx, hat.cells, byteV, alts33_5]
      cases h10 : (c == 10) with
      | true =>
        obtain rfl : c = 10 := by simpa using h10
        have ht : textS (10 :: L.drop (i + 1)) out (i - p) = .bad 6 (i - p) := by rw [textS.eq_def]; rfl
        rw [ht] at hs
        simp only [WW, partV, eqCells, eqLf, minV, maxV, ifcV, zaa, zab, zac, zad, zae, zaf, zag, zah, zai, ofConst, ofConst1, List.replicate, zaj, zak, loadOp, Go.Abs.loadCells, binV, zal, pickV, zam, zan, zao, zap, zaq, zar, zas, zat, zau, outR, resAll, resOne, zav, zaw, zax, zay, zaz, zba, zbb, zbc, zbd, zbe, zbf, zbg, zbh, zbi, zbj, zbk, storeOp, storeCell, overlay, zbl, zbm, zbn, lookupOp, keyT, okRes, mapUpdateOp, zbo, zbp, zbq, zbr, zbs, zbt, zbu, Nat.reduceSub, Nat.reduceAdd, Int.reduceLT, Int.reduceLE, Int.reduceAdd, Int.reduceSub, Int.reduceToNat, Int.reduceBEq, Int.reduceBNe, Int.reduceMul, Nat.reduceBEq, Nat.reduceBNe, Nat.reduceLT, Nat.reduceLeDiff, Nat.reduceMul, Nat.reduceEqDiff, WD, effB, effH, isPriv, isHeap, isImm, zbx, zby, zbz, chkO, setD, dslot, zca, zcb, zcc, zcd, ptrCells_some, F33, e10, h10]
        rw [← hs]
        exact ⟨⟨⟨4, [], 0, p⟩, rfl⟩, by rw [hpi2]; exact hself'⟩
      | false =>
        have n10 : c ≠ 10 := by simpa using h10
        cases h34 : (c == 34) with
        | true =>
          obtain rfl : c = 34 := by simpa using h34
          have ht : textS (34 :: L.drop (i + 1)) out (i - p) = .tok 4 out 0 (i - p + 1) := by rw [textS.eq_def]; rfl
          rw [ht] at hs
          have hbx := bx_row out
          simp only [WW, partV, eqCells, eqLf, minV, maxV, ifcV, zaa, zab, zac, zad, zae, zaf, zag, zah, zai, ofConst, ofConst1, List.replicate, zaj, zak, loadOp, Go.Abs.loadCells, binV, zal, pickV, zam, zan, zao, zap, zaq, zar, zas, zat, zau, outR, resAll, resOne, zav, zaw, zax, zay, zaz, zba, zbb, zbc, zbd, zbe, zbf, zbg, zbh, zbi, zbj, zbk, storeOp, storeCell, overlay, zbl, zbm, zbn, lookupOp, keyT, okRes, mapUpdateOp, zbo, zbp, zbq, zbr, zbs, zbt, zbu, Nat.reduceSub, Nat.reduceAdd, Int.reduceLT, Int.reduceLE, Int.reduceAdd, Int.reduceSub, Int.reduceToNat, Int.reduceBEq, Int.reduceBNe, Int.reduceMul, Nat.reduceBEq, Nat.reduceBNe, Nat.reduceLT, Nat.reduceLeDiff, Nat.reduceMul, Nat.reduceEqDiff, WD, effB, effH, isPriv, isHeap, isImm, zbx, zby, zbz, chkO, setD, dslot, zca, zcb, zcc, zcd, ptrCells_some, F33, e10, h10, e34, h34, hb, hq1, storeHeap, promote, heapSet, elemSet, str_of hbx, seal_lr]
          rw [← hs]
          exact ⟨rfl, by rw [show p + (i - p + 1) = i + 1 by omega]; exact hset _⟩
        | false =>
          have n34 : c ≠ 34 := by simpa using h34
          cases h92 : (c == 92) with
          | false =>
            have n92 : c ≠ 92 := by simpa using h92
            rw [text_one n10 n34 n92] at hs
            simp only [WW, partV, eqCells, eqLf, minV, maxV, ifcV, zaa, zab, zac, zad, zae, zaf, zag, zah, zai, ofConst, ofConst1, List.replicate, zaj, zak, loadOp, Go.Abs.loadCells, binV, zal, pickV, zam, zan, zao, zap, zaq, zar, zas, zat, zau, outR, resAll, resOne, zav, zaw, zax, zay, zaz, zba, zbb, zbc, zbd, zbe, zbf, zbg, zbh, zbi, zbj, zbk, storeOp, storeCell, overlay, zbl, zbm, zbn, lookupOp, keyT, okRes, mapUpdateOp, zbo, zbp, zbq, zbr, zbs, zbt, zbu, Nat.reduceSub, Nat.reduceAdd, Int.reduceLT, Int.reduceLE, Int.reduceAdd, Int.reduceSub, Int.reduceToNat, Int.reduceBEq, Int.reduceBNe, Int.reduceMul, Nat.reduceBEq, Nat.reduceBNe, Nat.reduceLT, Nat.reduceLeDiff, Nat.reduceMul, Nat.reduceEqDiff, WD, effB, effH, isPriv, isHeap, isImm, zbx, zby, zbz, chkO, setD, dslot, zca, zcb, zcc, zcd, ptrCells_some, F33, e10, h10, e34, h34, e92, h92, hb, hq1, storeHeap, promote, heapSet, elemSet, buildSliceV, lits, srcV_eq, srcK_sl, srcK_str, srcSl_nils, srcSl_rsl, srcSl_sl, appendOp, frow, zbv, zbw, List.all_nil, List.all_cons, rowV, Bool.false_and, Bool.and_false, ne_eq, not_false_eq_true, grows_lr, callOut_t, hw1, hwo, q1, q2, q3, q4]
            refine ⟨L.length - (i + 1), by omega, i + 1, out ++ [c], ?_, hC'.to _, fun b => by rw [List.set_set]; exact hset b, rfl, by omega, by omega, by simp; omega, by rw [show i + 1 - p = i - p + 1 by omega]; exact hs⟩
            simp only [WN, firstReg, growAll, zbv, zbw, norm, killS, zag, zah, zaa, zab, zbl, zat, zad, growOne, zae, zaf, zac, zas, zak, Nat.reduceLT, Nat.reduceAdd, zbj, zav, F33, by8, List.map_append, List.length_append, List.length_cons, List.length_nil, byteV]
            try rfl
          | true =>
            obtain rfl : c = 92 := by simpa using h92
            rw [text_esc] at hs
            simp only [WW, partV, eqCells, eqLf, minV, maxV, ifcV, zaa, zab, zac, zad, zae, zaf, zag, zah, zai, ofConst, ofConst1, List.replicate, zaj, zak, loadOp, Go.Abs.loadCells, binV, zal, pickV, zam, zan, zao, zap, zaq, zar, zas, zat, zau, outR, resAll, resOne, zav, zaw, zax, zay, zaz, zba, zbb, zbc, zbd, zbe, zbf, zbg, zbh, zbi, zbj, zbk, storeOp, storeCell, overlay, zbl, zbm, zbn, lookupOp, keyT, okRes, mapUpdateOp, zbo, zbp, zbq, zbr, zbs, zbt, zbu, Nat.reduceSub, Nat.reduceAdd, Int.reduceLT, Int.reduceLE, Int.reduceAdd, Int.reduceSub, Int.reduceToNat, Int.reduceBEq, Int.reduceBNe, Int.reduceMul, Nat.reduceBEq, Nat.reduceBNe, Nat.reduceLT, Nat.reduceLeDiff, Nat.reduceMul, Nat.reduceEqDiff, WD, effB, effH, isPriv, isHeap, isImm, zbx, zby, zbz, chkO, setD, dslot, zca, zcb, zcc, zcd, ptrCells_some, F33, e10, h10, e34, h34, e92, h92, hb, hq1, storeHeap, promote, heapSet, elemSet]
            have hC2 := hC'.to ((i + 1 : Nat) : Int)
            have hset2 : ∀ b, (H'.set w (ctr x ((i + 1 : Nat) : Int))).set w b = H.set w b := fun b => by rw [List.set_set]; exact hset b
            have hfold2 : H'.set w (Blk.cells [V.agg [x, V.int IntKind.i64 ((i + 1 : Nat) : Int)]]) = H'.set w (ctr x ((i + 1 : Nat) : Int)) := rfl
            rw [hfold2]
            generalize H'.set w (ctr x ((i + 1 : Nat) : Int)) = H2 at hC2 hset2 ⊢
            refine wpCall_of (esc_spec (hB.same hset2) hC2 (by omega) hL) ?_
            intro out' H3 hres
            cases hesc : escS (L.drop (i + 1)) with
            | bad off =>
              rw [hesc] at hres hs
              obtain ⟨rfl, rfl⟩ := hres
              simp only [WW, partV, eqCells, eqLf, minV, maxV, ifcV, zaa, zab, zac, zad, zae, zaf, zag, zah, zai, ofConst, ofConst1, List.replicate, zaj, zak, loadOp, Go.Abs.loadCells, binV, zal, pickV, zam, zan, zao, zap, zaq, zar, zas, zat, zau, outR, resAll, resOne, zav, zaw, zax, zay, zaz, zba, zbb, zbc, zbd, zbe, zbf, zbg, zbh, zbi, zbj, zbk, storeOp, storeCell, overlay, zbl, zbm, zbn, lookupOp, keyT, okRes, mapUpdateOp, zbo, zbp, zbq, zbr, zbs, zbt, zbu, Nat.reduceSub, Nat.reduceAdd, Int.reduceLT, Int.reduceLE, Int.reduceAdd, Int.reduceSub, Int.reduceToNat, Int.reduceBEq, Int.reduceBNe, Int.reduceMul, Nat.reduceBEq, Nat.reduceBNe, Nat.reduceLT, Nat.reduceLeDiff, Nat.reduceMul, Nat.reduceEqDiff, WD, effB, effH, isPriv, isHeap, isImm, zbx, zby, zbz, chkO, setD, dslot, zca, zcb, zcc, zcd, ptrCells_some, F33]
              rw [← hs]
              exact ⟨⟨⟨4, [], 0, p⟩, rfl⟩, by rw [show p + (i - p + 1 + off) = i + 1 + off by omega]; exact hset2 _⟩
            | ok y len =>
              rw [hesc] at hres hs
              obtain ⟨rfl, rfl⟩ := hres
              obtain ⟨l1, l2⟩ := escS_len hesc
              simp only [List.length_drop] at l2
              have hw1 : wideAll [V.int .u8 (y.toNat : Int)] 1 = true := rfl
              simp only [WW, partV, eqCells, eqLf, minV, maxV, ifcV, zaa, zab, zac, zad, zae, zaf, zag, zah, zai, ofConst, ofConst1, List.replicate, zaj, zak, loadOp, Go.Abs.loadCells, binV, zal, pickV, zam, zan, zao, zap, zaq, zar, zas, zat, zau, outR, resAll, resOne, zav, zaw, zax, zay, zaz, zba, zbb, zbc, zbd, zbe, zbf, zbg, zbh, zbi, zbj, zbk, storeOp, storeCell, overlay, zbl, zbm, zbn, lookupOp, keyT, okRes, mapUpdateOp, zbo, zbp, zbq, zbr, zbs, zbt, zbu, Nat.reduceSub, Nat.reduceAdd, Int.reduceLT, Int.reduceLE, Int.reduceAdd, Int.reduceSub, Int.reduceToNat, Int.reduceBEq, Int.reduceBNe, Int.reduceMul, Nat.reduceBEq, Nat.reduceBNe, Nat.reduceLT, Nat.reduceLeDiff, Nat.reduceMul, Nat.reduceEqDiff, WD, effB, effH, isPriv, isHeap, isImm, zbx, zby, zbz, chkO, setD, dslot, zca, zcb, zcc, zcd, ptrCells_some, F33, buildSliceV, lits, srcV_eq, srcK_sl, srcK_str, srcSl_nils, srcSl_rsl, srcSl_sl, appendOp, frow, zbv, zbw, List.all_nil, List.all_cons, rowV, Bool.false_and, Bool.and_false, ne_eq, not_false_eq_true, grows_lr, callOut_t, hw1, hwo, q1, q2, q3, q4]
              refine ⟨L.length - (i + 1 + len), by omega, i + 1 + len, out ++ [y], ?_, hC2.to _, fun b => by rw [List.set_set]; exact hset2 b, rfl, by omega, by omega, by simp; omega, ?_⟩
              · simp only [WN, firstReg, growAll, zbv, zbw, norm, killS, zag, zah, zaa, zab, zbl, zat, zad, growOne, zae, zaf, zac, zas, zak, Nat.reduceLT, Nat.reduceAdd, zbj, zav, F33, by8, List.map_append, List.length_append, List.length_cons, List.length_nil, byteV]
                try rfl
              · simp only [List.drop_drop] at hs
                rw [show i + 1 + len - p = i - p + 1 + len by omega]; exact hs
    · have hi2 : i = L.length := by have := of_decide_eq_false hge; omega
      have ht : textS (L.drop i) out (i - p) = .bad 6 (i - p) := by rw [List.drop_of_length_le (by omega)]; rw [textS]
      rw [ht] at hs
      simp only [hge]
      simp only [WW, partV, eqCells, eqLf, minV, maxV, ifcV, zaa, zab, zac, zad, zae, zaf, zag, zah, zai, ofConst, ofConst1, List.replicate, zaj, zak, loadOp, Go.Abs.loadCells, binV, zal, pickV, zam, zan, zao, zap, zaq, zar, zas, zat, zau, outR, resAll, resOne, zav, zaw, zax, zay, zaz, zba, zbb, zbc, zbd, zbe, zbf, zbg, zbh, zbi, zbj, zbk, storeOp, storeCell, overlay, zbl, zbm, zbn, lookupOp, keyT, okRes, mapUpdateOp, zbo, zbp, zbq, zbr, zbs, zbt, zbu, Nat.reduceSub, Nat.reduceAdd, Int.reduceLT, Int.reduceLE, Int.reduceAdd, Int.reduceSub, Int.reduceToNat, Int.reduceBEq, Int.reduceBNe, Int.reduceMul, Nat.reduceBEq, Nat.reduceBNe, Nat.reduceLT, Nat.reduceLeDiff, Nat.reduceMul, Nat.reduceEqDiff, WD, effB, effH, isPriv, isHeap, isImm, zbx, zby, zbz, chkO, setD, dslot, zca, zcb, zcc, zcd, ptrCells_some, F33]
      rw [← hs]
      exact ⟨⟨⟨4, [], 0, p⟩, rfl⟩, by rw [hpi2]; exact hself'⟩
end Go.Proofs.YtcmndnkeoepmoaaDoor

namespace Go.Proofs.YtcmndnkeoepmoaaDoor
open Go Go.Abs Go.Proofs
set_option maxRecDepth 100000
set_option maxHeartbeats 1000000
set_option linter.unusedVariables false
set_option linter.unusedSimpArgs false
/-! ### numbers -/
theorem tw_mem {α : Type} {P : α → Bool} : ∀ {l : List α} {c : α}, c ∈ l.takeWhile P → P c = true
  | [], c, h => by cases h
  | a :: r, c, h => by
    rw [List.takeWhile_cons] at h
    split at h
    · rcases List.mem_cons.1 h with rfl | h
      · assumption
      · exact tw_mem h
    · cases h
theorem number_spec {H : Hp} {w : Nat} {x : V} {L : List UInt8} {p : Nat} {c0 : UInt8} {r : List UInt8} (hB : By H w x L) (hC : Ct H w x p) (hcr : L.drop p = c0 :: r) (hc0 : digitB c0.toNat = true) (hL : L.length ≤ 65536) :
    wpCall EW 32 [.ptr w 0 0] H (nxR H w x p (numS (c0 :: r))) := by
  have hp : p < L.length := by
    have := congrArg List.length hcr
    simp at this; omega
  rw [← hcr]
  refine runs f32 b32 r32 n32 _ _ ?_
  simp only [bodyOf, Tryd.f32, Option.getD_some]
  have hb0 : H[w]? = some (.cells [.agg [x, .int .i64 (p : Int)]]) := hC
  simp only [WW, partV, eqCells, eqLf, minV, maxV, ifcV, zaa, zab, zac, zad, zae, zaf, zag, zah, zai, ofConst, ofConst1, List.replicate, zaj, zak, loadOp, Go.Abs.loadCells, binV, zal, pickV, zam, zan, zao, zap, zaq, zar, zas, zat, zau, outR, resAll, resOne, zav, zaw, zax, zay, zaz, zba, zbb, zbc, zbd, zbe, zbf, zbg, zbh, zbi, zbj, zbk, storeOp, storeCell, overlay, zbl, zbm, zbn, lookupOp, keyT, okRes, mapUpdateOp, zbo, zbp, zbq, zbr, zbs, zbt, zbu, Nat.reduceSub, Nat.reduceAdd, Int.reduceLT, Int.reduceLE, Int.reduceAdd, Int.reduceSub, Int.reduceToNat, Int.reduceBEq, Int.reduceBNe, Int.reduceMul, Nat.reduceBEq, Nat.reduceBNe, Nat.reduceLT, Nat.reduceLeDiff, Nat.reduceMul, Nat.reduceEqDiff, WD, effB, effH, isPriv, isHeap, isImm, zbx, zby, zbz, chkO, setD, dslot, zca, zcb, zcc, zcd, ptrCells_some, F32, hb0, buildOp, fillV, Lay.place, Bool.or_self, Bool.or_false, Bool.false_or, decide_not, ne_eq, not_true_eq_false, decide_eq_true_eq, Nat.lt_irrefl]
  refine wpCall_of (run_spec (P := digitB) call29 digit_eq hB hC (by omega) (by omega)) ?_
  obtain ⟨D, hD⟩ : ∃ D, D = (L.drop p).takeWhile fun c => digitB c.toNat := ⟨_, rfl⟩
  rw [← hD]
  have hDl : p + D.length ≤ L.length := by
    have := takeWhile_le (fun c : UInt8 => digitB c.toNat) (L.drop p)
    rw [← hD] at this; simp at this; omega
  have hd : ∀ c ∈ D, digitB c.toNat = true := fun c hc => by rw [hD] at hc; exact tw_mem (P := fun c : UInt8 => digitB c.toNat) hc
  have hD0 : D[0]? = some c0 := by rw [hD, hcr, List.takeWhile_cons, if_pos hc0]; rfl
  have hDp : 0 < D.length := (List.getElem?_eq_some_iff.1 hD0).1
  have hnS : numS (L.drop p) = if decide (1 < D.length) && D[0]? == some 48 then .bad 6 1 else if (L[p + D.length]?).any (fun c => letterB c.toNat) then .bad 6 D.length else match numR 0 D with | some n => .tok 3 [] n D.length | none => .bad 9 0 := by
    unfold numS
    simp only [← hD, List.getElem?_drop]
    try rfl
  rw [hnS]
  rintro out H1 ⟨rfl, rfl⟩
  have hC1 := hC.to ((p + D.length : Nat) : Int)
  have hset1 : ∀ b, (H.set w (ctr x ((p + D.length : Nat) : Int))).set w b = H.set w b := fun b => List.set_set ..
  generalize hH1 : H.set w (ctr x ((p + D.length : Nat) : Int)) = H1 at hC1 hset1 ⊢
  have hb1 : H1[w]? = some (.cells [.agg [x, .int .i64 ((p + D.length : Nat) : Int)]]) := hC1
  have hx1 := (hB.same hset1).rd
  have hself := hC1.self
  have e48 : (((c0.toNat : Nat) : Int) == 48) = (c0 == 48) := u8b c0 48
  have hp1 : IntKind.i64.wrap ((p : Int) + 1) = ((p + 1 : Nat) : Int) := by rw [IntWalk.i64_in _ (by omega)]; omega
  have h1s : decide ((1 : Int) < (D.length : Int)) = decide (1 < D.length) := by rw [Bool.eq_iff_iff]; simp; omega
  have hq0 : (D[0]? == some (48 : UInt8)) = (c0 == 48) := by rw [hD0]; rfl
  rw [hq0]
  simp only [WW, partV, eqCells, eqLf, minV, maxV, ifcV, zaa, zab, zac, zad, zae, zaf, zag, zah, zai, ofConst, ofConst1, List.replicate, zaj, zak, loadOp, Go.Abs.loadCells, binV, zal, pickV, zam, zan, zao, zap, zaq, zar, zas, zat, zau, outR, resAll, resOne, zav, zaw, zax, zay, zaz, zba, zbb, zbc, zbd, zbe, zbf, zbg, zbh, zbi, zbj, zbk, storeOp, storeCell, overlay, zbl, zbm, zbn, lookupOp, keyT, okRes, mapUpdateOp, zbo, zbp, zbq, zbr, zbs, zbt, zbu, Nat.reduceSub, Nat.reduceAdd, Int.reduceLT, Int.reduceLE, Int.reduceAdd, Int.reduceSub, Int.reduceToNat, Int.reduceBEq, Int.reduceBNe, Int.reduceMul, Nat.reduceBEq, Nat.reduceBNe, Nat.reduceLT, Nat.reduceLeDiff, Nat.reduceMul, Nat.reduceEqDiff, WD, effB, effH, isPriv, isHeap, isImm, zbx, zby, zbz, chkO, setD, dslot, zca, zcb, zcc, zcd, ptrCells_some, F32, size_len, h1s]
  by_cases hlead : decide (1 < D.length) = true ∧ (c0 == 48) = true
  · obtain ⟨g1, h48⟩ := hlead
    simp only [g1]
    simp only [WW, partV, eqCells, eqLf, minV, maxV, ifcV, zaa, zab, zac, zad, zae, zaf, zag, zah, zai, ofConst, ofConst1, List.replicate, zaj, zak, loadOp, Go.Abs.loadCells, binV, zal, pickV, zam, zan, zao, zap, zaq, zar, zas, zat, zau, outR, resAll, resOne, zav, zaw, zax, zay, zaz, zba, zbb, zbc, zbd, zbe, zbf, zbg, zbh, zbi, zbj, zbk, storeOp, storeCell, overlay, zbl, zbm, zbn, lookupOp, keyT, okRes, mapUpdateOp, zbo, zbp, zbq, zbr, zbs, zbt, zbu, Nat.reduceSub, Nat.reduceAdd, Int.reduceLT, Int.reduceLE, Int.reduceAdd, Int.reduceSub, Int.reduceToNat, Int.reduceBEq, Int.reduceBNe, Int.reduceMul, Nat.reduceBEq, Nat.reduceBNe, Nat.reduceLT, Nat.reduceLeDiff, Nat.reduceMul, Nat.reduceEqDiff, WD, effB, effH, isPriv, isHeap, isImm, zbx, zby, zbz, chkO, setD, dslot, zca, zcb, zcc, zcd, ptrCells_some, F32, hD0, e48, h48, Int.toNat_zero, Int.le_refl, size_len, hb1, hp1, storeHeap, promote, heapSet, elemSet]
    exact ⟨⟨⟨3, [], 0, p⟩, rfl⟩, by rw [← hset1]; rfl⟩
  have hG : decide (1 < D.length) = false ∨ (decide (1 < D.length) = true ∧ (c0 == 48) = false) := by
    cases h1 : decide (1 < D.length) with
    | false => exact .inl rfl
    | true =>
      cases h2 : (c0 == 48) with
      | false => exact .inr ⟨rfl, rfl⟩
      | true => exact absurd ⟨h1, h2⟩ hlead
  have hnot : (decide (1 < D.length) && (c0 == 48)) = false := by
    rcases hG with h | ⟨h, h'⟩
    · rw [h]; rfl
    · rw [h, h']; rfl
  rw [hnot]
  simp only [Bool.false_eq_true, if_false]
  by_cases hl : (L[p + D.length]?).any (fun c => letterB c.toNat) = true
  · rw [if_pos hl]
    obtain ⟨cq, hcq, hlet⟩ : ∃ cq, L[p + D.length]? = some cq ∧ letterB cq.toNat = true := by
      cases h : L[p + D.length]? with
      | none => rw [h] at hl; cases hl
      | some cq => rw [h] at hl; exact ⟨cq, rfl, hl⟩
    have hqlt := (List.getElem?_eq_some_iff.1 hcq).1
    have hg : decide (((p + D.length : Nat) : Int) < (L.length : Int)) = true := decide_eq_true (by omega)
    have hc8 : (by8 L)[p + D.length]? = some (byteV cq) := by simp [by8, hcq]
    have hat := hx1.at_ (sz := 1) hc8 rfl
    rcases hG with g1 | ⟨g1, h48⟩
    all_goals simp only [g1]
    all_goals first | simp only [WW, partV, eqCells, eqLf, minV, maxV, ifcV, zaa, zab, zac, zad, zae, zaf, zag, zah, zai, ofConst, ofConst1, List.replicate, zaj, zak, loadOp, Go.Abs.loadCells, binV, zal, pickV, zam, zan, zao, zap, zaq, zar, zas, zat, zau, outR, resAll, resOne, zav, zaw, zax, zay, zaz, zba, zbb, zbc, zbd, zbe, zbf, zbg, zbh, zbi, zbj, zbk, storeOp, storeCell, overlay, zbl, zbm, zbn, lookupOp, keyT, okRes, mapUpdateOp, zbo, zbp, zbq, zbr, zbs, zbt, zbu, Nat.reduceSub, Nat.reduceAdd, Int.reduceLT, Int.reduceLE, Int.reduceAdd, Int.reduceSub, Int.reduceToNat, Int.reduceBEq, Int.reduceBNe, Int.reduceMul, Nat.reduceBEq, Nat.reduceBNe, Nat.reduceLT, Nat.reduceLeDiff, Nat.reduceMul, Nat.reduceEqDiff, WD, effB, effH, isPriv, isHeap, isImm, zbx, zby, zbz, chkO, setD, dslot, zca, zcb, zcc, zcd, ptrCells_some, F32, hD0, e48, h48, Int.toNat_zero, Int.le_refl, size_len] | simp only [WW, partV, eqCells, eqLf, minV, maxV, ifcV, zaa, zab, zac, zad, zae, zaf, zag, zah, zai, ofConst, ofConst1, List.replicate, zaj, zak, loadOp, Go.Abs.loadCells, binV, zal, pickV, zam, zan, zao, zap, zaq, zar, zas, zat, zau, outR, resAll, resOne, zav, zaw, zax, zay, zaz, zba, zbb, zbc, zbd, zbe, zbf, zbg, zbh, zbi, zbj, zbk, storeOp, storeCell, overlay, zbl, zbm, zbn, lookupOp, keyT, okRes, mapUpdateOp, zbo, zbp, zbq, zbr, zbs, zbt, zbu, Nat.reduceSub, Nat.reduceAdd, Int.reduceLT, Int.reduceLE, Int.reduceAdd, Int.reduceSub, Int.reduceToNat, Int.reduceBEq, Int.reduceBNe, Int.reduceMul, Nat.reduceBEq, Nat.reduceBNe, Nat.reduceLT, Nat.reduceLeDiff, Nat.reduceMul, Nat.reduceEqDiff, WD, effB, effH, isPriv, isHeap, isImm, zbx, zby, zbz, chkO, setD, dslot, zca, zcb, zcc, zcd, ptrCells_some, F32]
    all_goals refine wC_dr alts32_7 (by kernel_rfl) ?_
    all_goals simp only [WW, partV, eqCells, eqLf, minV, maxV, ifcV, zaa, zab, zac, zad, zae, zaf, zag, zah, zai, ofConst, ofConst1, List.replicate, zaj, zak, loadOp, Go.Abs.loadCells, binV, zal, pickV, zam, zan, zao, zap, zaq, zar, zas, zat, zau, outR, resAll, resOne, zav, zaw, zax, zay, zaz, zba, zbb, zbc, zbd, zbe, zbf, zbg, zbh, zbi, zbj, zbk, storeOp, storeCell, overlay, zbl, zbm, zbn, lookupOp, keyT, okRes, mapUpdateOp, zbo, zbp, zbq, zbr, zbs, zbt, zbu, Nat.reduceSub, Nat.reduceAdd, Int.reduceLT, Int.reduceLE, Int.reduceAdd, Int.reduceSub, Int.reduceToNat, Int.reduceBEq, Int.reduceBNe, Int.reduceMul, Nat.reduceBEq, Nat.reduceBNe, Nat.reduceLT, Nat.reduceLeDiff, Nat.reduceMul, Nat.reduceEqDiff, WD, effB, effH, isPriv, isHeap, isImm, zbx, zby, zbz, chkO, setD, dslot, zca, zcb, zcc, zcd, ptrCells_some, F32, hb1, hx1.shutIn, hx1.len, by8_len, alts32_7, size_len, hg, hat.at1 hx1, hat.cells, byteV]
    all_goals rw [wpCall_eq (letter_eq _ _)]
    all_goals simp only [WW, partV, eqCells, eqLf, minV, maxV, ifcV, zaa, zab, zac, zad, zae, zaf, zag, zah, zai, ofConst, ofConst1, List.replicate, zaj, zak, loadOp, Go.Abs.loadCells, binV, zal, pickV, zam, zan, zao, zap, zaq, zar, zas, zat, zau, outR, resAll, resOne, zav, zaw, zax, zay, zaz, zba, zbb, zbc, zbd, zbe, zbf, zbg, zbh, zbi, zbj, zbk, storeOp, storeCell, overlay, zbl, zbm, zbn, lookupOp, keyT, okRes, mapUpdateOp, zbo, zbp, zbq, zbr, zbs, zbt, zbu, Nat.reduceSub, Nat.reduceAdd, Int.reduceLT, Int.reduceLE, Int.reduceAdd, Int.reduceSub, Int.reduceToNat, Int.reduceBEq, Int.reduceBNe, Int.reduceMul, Nat.reduceBEq, Nat.reduceBNe, Nat.reduceLT, Nat.reduceLeDiff, Nat.reduceMul, Nat.reduceEqDiff, WD, effB, effH, isPriv, isHeap, isImm, zbx, zby, zbz, chkO, setD, dslot, zca, zcb, zcc, zcd, ptrCells_some, F32, hb1, hx1.shutIn, hx1.len, by8_len, alts32_7, size_len, hg, hat.at1 hx1, hat.cells, byteV, hlet]
    all_goals exact ⟨⟨⟨3, [], 0, p⟩, rfl⟩, by rw [← hset1]; exact hself.symm⟩
  · rw [if_neg hl]
    have hcase : (L.length ≤ p + D.length) ∨ ∃ cq, L[p + D.length]? = some cq ∧ letterB cq.toNat = false := by
      cases h : L[p + D.length]? with
      | none => exact .inl (List.getElem?_eq_none_iff.1 h)
      | some cq => rw [h] at hl; exact .inr ⟨cq, rfl, by simpa using hl⟩
    rcases hG with g1 | ⟨g1, h48⟩
    all_goals simp only [g1]
    all_goals first | simp only [WW, partV, eqCells, eqLf, minV, maxV, ifcV, zaa, zab, zac, zad, zae, zaf, zag, zah, zai, ofConst, ofConst1, List.replicate, zaj, zak, loadOp, Go.Abs.loadCells, binV, zal, pickV, zam, zan, zao, zap, zaq, zar, zas, zat, zau, outR, resAll, resOne, zav, zaw, zax, zay, zaz, zba, zbb, zbc, zbd, zbe, zbf, zbg, zbh, zbi, zbj, zbk, storeOp, storeCell, overlay, zbl, zbm, zbn, lookupOp, keyT, okRes, mapUpdateOp, zbo, zbp, zbq, zbr, zbs, zbt, zbu, Nat.reduceSub, Nat.reduceAdd, Int.reduceLT, Int.reduceLE, Int.reduceAdd, Int.reduceSub, Int.reduceToNat, Int.reduceBEq, Int.reduceBNe, Int.reduceMul, Nat.reduceBEq, Nat.reduceBNe, Nat.reduceLT, Nat.reduceLeDiff, Nat.reduceMul, Nat.reduceEqDiff, WD, effB, effH, isPriv, isHeap, isImm, zbx, zby, zbz, chkO, setD, dslot, zca, zcb, zcc, zcd, ptrCells_some, F32, hD0, e48, h48, Int.toNat_zero, Int.le_refl, size_len] | simp only [WW, partV, eqCells, eqLf, minV, maxV, ifcV, zaa, zab, zac, zad, zae, zaf, zag, zah, zai, ofConst, ofConst1, List.replicate, zaj, zak, loadOp, Go.Abs.loadCells, binV, zal, pickV, zam, zan, zao, zap, zaq, zar, zas, zat, zau, outR, resAll, resOne, zav, zaw, zax, zay, zaz, zba, zbb, zbc, zbd, zbe, zbf, zbg, zbh, zbi, zbj, zbk, storeOp, storeCell, overlay, zbl, zbm, zbn, lookupOp, keyT, okRes, mapUpdateOp, zbo, zbp, zbq, zbr, zbs, zbt, zbu, Nat.reduceSub, Nat.reduceAdd, Int.reduceLT, Int.reduceLE, Int.reduceAdd, Int.reduceSub, Int.reduceToNat, Int.reduceBEq, Int.reduceBNe, Int.reduceMul, Nat.reduceBEq, Nat.reduceBNe, Nat.reduceLT, Nat.reduceLeDiff, Nat.reduceMul, Nat.reduceEqDiff, WD, effB, effH, isPriv, isHeap, isImm, zbx, zby, zbz, chkO, setD, dslot, zca, zcb, zcc, zcd, ptrCells_some, F32]
    all_goals refine wC_dr alts32_7 (by kernel_rfl) ?_
    all_goals rcases hcase with hge | ⟨cq, hcq, hlet⟩
    all_goals first
      | (have hg : decide (((p + D.length : Nat) : Int) < (L.length : Int)) = false := decide_eq_false (by omega)
         simp only [WW, partV, eqCells, eqLf, minV, maxV, ifcV, zaa, zab, zac, zad, zae, zaf, zag, zah, zai, ofConst, ofConst1, List.replicate, zaj, zak, loadOp, Go.Abs.loadCells, binV, zal, pickV, zam, zan, zao, zap, zaq, zar, zas, zat, zau, outR, resAll, resOne, zav, zaw, zax, zay, zaz, zba, zbb, zbc, zbd, zbe, zbf, zbg, zbh, zbi, zbj, zbk, storeOp, storeCell, overlay, zbl, zbm, zbn, lookupOp, keyT, okRes, mapUpdateOp, zbo, zbp, zbq, zbr, zbs, zbt, zbu, Nat.reduceSub, Nat.reduceAdd, Int.reduceLT, Int.reduceLE, Int.reduceAdd, Int.reduceSub, Int.reduceToNat, Int.reduceBEq, Int.reduceBNe, Int.reduceMul, Nat.reduceBEq, Nat.reduceBNe, Nat.reduceLT, Nat.reduceLeDiff, Nat.reduceMul, Nat.reduceEqDiff, WD, effB, effH, isPriv, isHeap, isImm, zbx, zby, zbz, chkO, setD, dslot, zca, zcb, zcc, zcd, ptrCells_some, F32, hb1, hx1.shutIn, hx1.len, by8_len, alts32_7, size_len, hg])
      | (have hqlt := (List.getElem?_eq_some_iff.1 hcq).1
         have hg : decide (((p + D.length : Nat) : Int) < (L.length : Int)) = true := decide_eq_true (by omega)
         have hc8 : (by8 L)[p + D.length]? = some (byteV cq) := by simp [by8, hcq]
         have hat := hx1.at_ (sz := 1) hc8 rfl
         simp only [WW, partV, eqCells, eqLf, minV, maxV, ifcV, zaa, zab, zac, zad, zae, zaf, zag, zah, zai, ofConst, ofConst1, List.replicate, zaj, zak, loadOp, Go.Abs.loadCells, binV, zal, pickV, zam, zan, zao, zap, zaq, zar, zas, zat, zau, outR, resAll, resOne, zav, zaw, zax, zay, zaz, zba, zbb, zbc, zbd, zbe, zbf, zbg, zbh, zbi, zbj, zbk, storeOp, storeCell, overlay, zbl, zbm, zbn, lookupOp, keyT, okRes, mapUpdateOp, zbo, zbp, zbq, zbr, zbs, zbt, zbu, Nat.reduceSub, Nat.reduceAdd, Int.reduceLT, Int.reduceLE, Int.reduceAdd, Int.reduceSub, Int.reduceToNat, Int.reduceBEq, Int.reduceBNe, Int.reduceMul, Nat.reduceBEq, Nat.reduceBNe, Nat.reduceLT, Nat.reduceLeDiff, Nat.reduceMul, Nat.reduceEqDiff, WD, effB, effH, isPriv, isHeap, isImm, zbx, zby, zbz, chkO, setD, dslot, zca, zcb, zcc, zcd, ptrCells_some, F32, hb1, hx1.shutIn, hx1.len, by8_len, alts32_7, size_len, hg, hat.at1 hx1, hat.cells, byteV]
         rw [wpCall_eq (letter_eq _ _)]
         simp only [WW, partV, eqCells, eqLf, minV, maxV, ifcV, zaa, zab, zac, zad, zae, zaf, zag, zah, zai, ofConst, ofConst1, List.replicate, zaj, zak, loadOp, Go.Abs.loadCells, binV, zal, pickV, zam, zan, zao, zap, zaq, zar, zas, zat, zau, outR, resAll, resOne, zav, zaw, zax, zay, zaz, zba, zbb, zbc, zbd, zbe, zbf, zbg, zbh, zbi, zbj, zbk, storeOp, storeCell, overlay, zbl, zbm, zbn, lookupOp, keyT, okRes, mapUpdateOp, zbo, zbp, zbq, zbr, zbs, zbt, zbu, Nat.reduceSub, Nat.reduceAdd, Int.reduceLT, Int.reduceLE, Int.reduceAdd, Int.reduceSub, Int.reduceToNat, Int.reduceBEq, Int.reduceBNe, Int.reduceMul, Nat.reduceBEq, Nat.reduceBNe, Nat.reduceLT, Nat.reduceLeDiff, Nat.reduceMul, Nat.reduceEqDiff, WD, effB, effH, isPriv, isHeap, isImm, zbx, zby, zbz, chkO, setD, dslot, zca, zcb, zcc, zcd, ptrCells_some, F32, hb1, hx1.shutIn, hx1.len, by8_len, alts32_7, size_len, hg, hat.at1 hx1, hat.cells, byteV, hlet])
    all_goals refine wC_loop _ (fun q st' H' => ∃ k t : Nat, st' = ⟨L32_10 (.v (.ptr w 0 0)) (.box 0) (.box 1) (.v (.int .i64 (p : Int))) (.v (.str ⟨D.toArray⟩)) (.v (.int .i64 (D.length : Int))) (.v (.int .i64 (k : Int))), [[.int .i64 0, .str ByteArray.empty, .int .i64 0, .int .i64 0], [.int .i64 3, .str ByteArray.empty, .int .i64 (t : Int), .int .i64 (p : Int)]], []⟩ ∧ H' = H1 ∧ q = D.length - k ∧ k ≤ D.length ∧ numR t (D.drop k) = numR 0 D ∧ t ≤ 2305843009213693951) D.length ⟨0, 0, ?_, rfl, rfl, Nat.zero_le _, rfl, by omega⟩ ?_
    all_goals first
      | (simp only [WN, firstReg, growAll, zbv, zbw, norm, killS, zag, zah, zaa, zab, zbl, zat, zad, growOne, zae, zaf, zac, zas, zak, Nat.reduceLT, Nat.reduceAdd, zbj, zav, F32, L32_10]
         rfl)
      | skip
    all_goals
      rintro q st' H' ⟨k, t, rfl, rfl, rfl, hk, hnum, ht⟩
      simp only [L32_10]
      simp only [WW, partV, eqCells, eqLf, minV, maxV, ifcV, zaa, zab, zac, zad, zae, zaf, zag, zah, zai, ofConst, ofConst1, List.replicate, zaj, zak, loadOp, Go.Abs.loadCells, binV, zal, pickV, zam, zan, zao, zap, zaq, zar, zas, zat, zau, outR, resAll, resOne, zav, zaw, zax, zay, zaz, zba, zbb, zbc, zbd, zbe, zbf, zbg, zbh, zbi, zbj, zbk, storeOp, storeCell, overlay, zbl, zbm, zbn, lookupOp, keyT, okRes, mapUpdateOp, zbo, zbp, zbq, zbr, zbs, zbt, zbu, Nat.reduceSub, Nat.reduceAdd, Int.reduceLT, Int.reduceLE, Int.reduceAdd, Int.reduceSub, Int.reduceToNat, Int.reduceBEq, Int.reduceBNe, Int.reduceMul, Nat.reduceBEq, Nat.reduceBNe, Nat.reduceLT, Nat.reduceLeDiff, Nat.reduceMul, Nat.reduceEqDiff, WD, effB, effH, isPriv, isHeap, isImm, zbx, zby, zbz, chkO, setD, dslot, zca, zcb, zcc, zcd, ptrCells_some, F32]
      refine cSplit (fun glt => ?_) (fun gge => ?_)
      · have hk2 : k < D.length := by have := of_decide_eq_true glt; omega
        have hc : D[k]? = some D[k] := List.getElem?_eq_getElem hk2
        have hdc := hd D[k] (List.getElem_mem hk2)
        generalize D[k] = c at hc hdc
        have hc48 : 48 ≤ c.toNat ∧ c.toNat ≤ 57 := by simp only [digitB, Bool.and_eq_true, decide_eq_true_eq] at hdc; omega
        have hd1 : IntKind.u8.wrap (((c.toNat : Nat) : Int) - 48) = ((dig c : Nat) : Int) := by simp [IntKind.wrap, IntKind.bits, IntKind.signed, dig]; omega
        have hd2 : IntKind.i64.wrap ((dig c : Nat) : Int) = ((dig c : Nat) : Int) := IntWalk.i64_in _ (by simp only [dig]; omega)
        have hdg : dig c ≤ 9 := by simp only [dig]; omega
        have hd3 : IntKind.i64.wrap (2305843009213693951 - ((dig c : Nat) : Int)) = ((2305843009213693951 - dig c : Nat) : Int) := by rw [IntWalk.i64_in _ (by omega)]; omega
        have hd4 : IntKind.i64.wrap (((2305843009213693951 - dig c : Nat) : Int).tdiv 10) = (((2305843009213693951 - dig c) / 10 : Nat) : Int) := by
          rw [show ((2305843009213693951 - dig c : Nat) : Int).tdiv 10 = (((2305843009213693951 - dig c) / 10 : Nat) : Int) by rw [Int.tdiv_eq_ediv_of_nonneg (by omega)]; norm_cast]
          exact IntWalk.i64_in _ (by omega)
        rw [drop_cons hc, numR] at hnum
        simp only [glt]
        have h100 : ¬ ((10 : Int) = 0) := by decide
        simp only [WW, partV, eqCells, eqLf, minV, maxV, ifcV, zaa, zab, zac, zad, zae, zaf, zag, zah, zai, ofConst, ofConst1, List.replicate, zaj, zak, loadOp, Go.Abs.loadCells, binV, zal, pickV, zam, zan, zao, zap, zaq, zar, zas, zat, zau, outR, resAll, resOne, zav, zaw, zax, zay, zaz, zba, zbb, zbc, zbd, zbe, zbf, zbg, zbh, zbi, zbj, zbk, storeOp, storeCell, overlay, zbl, zbm, zbn, lookupOp, keyT, okRes, mapUpdateOp, zbo, zbp, zbq, zbr, zbs, zbt, zbu, Nat.reduceSub, Nat.reduceAdd, Int.reduceLT, Int.reduceLE, Int.reduceAdd, Int.reduceSub, Int.reduceToNat, Int.reduceBEq, Int.reduceBNe, Int.reduceMul, Nat.reduceBEq, Nat.reduceBNe, Nat.reduceLT, Nat.reduceLeDiff, Nat.reduceMul, Nat.reduceEqDiff, WD, effB, effH, isPriv, isHeap, isImm, zbx, zby, zbz, chkO, setD, dslot, zca, zcb, zcc, zcd, ptrCells_some, F32, hc, hd1, hd2, hd3, hd4, convertOp, h100]
        refine cSplit (fun gov => ?_) (fun gov => ?_)
        · have hov : (2305843009213693951 - dig c) / 10 < t := by have := of_decide_eq_true gov; omega
          rw [if_pos hov] at hnum
          simp only [gov]
          simp only [WW, partV, eqCells, eqLf, minV, maxV, ifcV, zaa, zab, zac, zad, zae, zaf, zag, zah, zai, ofConst, ofConst1, List.replicate, zaj, zak, loadOp, Go.Abs.loadCells, binV, zal, pickV, zam, zan, zao, zap, zaq, zar, zas, zat, zau, outR, resAll, resOne, zav, zaw, zax, zay, zaz, zba, zbb, zbc, zbd, zbe, zbf, zbg, zbh, zbi, zbj, zbk, storeOp, storeCell, overlay, zbl, zbm, zbn, lookupOp, keyT, okRes, mapUpdateOp, zbo, zbp, zbq, zbr, zbs, zbt, zbu, Nat.reduceSub, Nat.reduceAdd, Int.reduceLT, Int.reduceLE, Int.reduceAdd, Int.reduceSub, Int.reduceToNat, Int.reduceBEq, Int.reduceBNe, Int.reduceMul, Nat.reduceBEq, Nat.reduceBNe, Nat.reduceLT, Nat.reduceLeDiff, Nat.reduceMul, Nat.reduceEqDiff, WD, effB, effH, isPriv, isHeap, isImm, zbx, zby, zbz, chkO, setD, dslot, zca, zcb, zcc, zcd, ptrCells_some, F32, hb1, storeHeap, promote, heapSet, elemSet]
          rw [← hnum]
          exact ⟨⟨⟨3, [], t, p⟩, rfl⟩, hset1 _⟩
        · have hov : ¬ (2305843009213693951 - dig c) / 10 < t := by have := of_decide_eq_false gov; omega
          rw [if_neg hov] at hnum
          simp only [gov]
          have hm1 : IntKind.i64.wrap (10 * (t : Int)) = ((10 * t : Nat) : Int) := by rw [IntWalk.i64_in _ (by omega)]; omega
          have hm2 : IntKind.i64.wrap (((10 * t : Nat) : Int) + ((dig c : Nat) : Int)) = ((10 * t + dig c : Nat) : Int) := by rw [IntWalk.i64_in _ (by omega)]; omega
          have hk1 : IntKind.i64.wrap ((k : Int) + 1) = ((k + 1 : Nat) : Int) := by rw [IntWalk.i64_in _ (by omega)]; omega
          simp only [WW, partV, eqCells, eqLf, minV, maxV, ifcV, zaa, zab, zac, zad, zae, zaf, zag, zah, zai, ofConst, ofConst1, List.replicate, zaj, zak, loadOp, Go.Abs.loadCells, binV, zal, pickV, zam, zan, zao, zap, zaq, zar, zas, zat, zau, outR, resAll, resOne, zav, zaw, zax, zay, zaz, zba, zbb, zbc, zbd, zbe, zbf, zbg, zbh, zbi, zbj, zbk, storeOp, storeCell, overlay, zbl, zbm, zbn, lookupOp, keyT, okRes, mapUpdateOp, zbo, zbp, zbq, zbr, zbs, zbt, zbu, Nat.reduceSub, Nat.reduceAdd, Int.reduceLT, Int.reduceLE, Int.reduceAdd, Int.reduceSub, Int.reduceToNat, Int.reduceBEq, Int.reduceBNe, Int.reduceMul, Nat.reduceBEq, Nat.reduceBNe, Nat.reduceLT, Nat.reduceLeDiff, Nat.reduceMul, Nat.reduceEqDiff, WD, effB, effH, isPriv, isHeap, isImm, zbx, zby, zbz, chkO, setD, dslot, zca, zcb, zcc, zcd, ptrCells_some, F32, hm1, hm2, hk1]
          refine ⟨D.length - (k + 1), by omega, k + 1, 10 * t + dig c, ?_, rfl, by omega, hnum, by omega⟩
          try simp only [WW, partV, eqCells, eqLf, minV, maxV, ifcV, zaa, zab, zac, zad, zae, zaf, zag, zah, zai, ofConst, ofConst1, List.replicate, zaj, zak, loadOp, Go.Abs.loadCells, binV, zal, pickV, zam, zan, zao, zap, zaq, zar, zas, zat, zau, outR, resAll, resOne, zav, zaw, zax, zay, zaz, zba, zbb, zbc, zbd, zbe, zbf, zbg, zbh, zbi, zbj, zbk, storeOp, storeCell, overlay, zbl, zbm, zbn, lookupOp, keyT, okRes, mapUpdateOp, zbo, zbp, zbq, zbr, zbs, zbt, zbu, Nat.reduceSub, Nat.reduceAdd, Int.reduceLT, Int.reduceLE, Int.reduceAdd, Int.reduceSub, Int.reduceToNat, Int.reduceBEq, Int.reduceBNe, Int.reduceMul, Nat.reduceBEq, Nat.reduceBNe, Nat.reduceLT, Nat.reduceLeDiff, Nat.reduceMul, Nat.reduceEqDiff, F32, hk1]
          simp only [WN, firstReg, growAll, zbv, zbw, norm, killS, zag, zah, zaa, zab, zbl, zat, zad, growOne, zae, zaf, zac, zas, zak, Nat.reduceLT, Nat.reduceAdd, zbj, zav, F32, hk1]
          try rfl
      · have hk2 : k = D.length := by have := of_decide_eq_false gge; omega
        simp only [gge]
        rw [hk2, List.drop_of_length_le (Nat.le_refl _), numR] at hnum
        simp only [WW, partV, eqCells, eqLf, minV, maxV, ifcV, zaa, zab, zac, zad, zae, zaf, zag, zah, zai, ofConst, ofConst1, List.replicate, zaj, zak, loadOp, Go.Abs.loadCells, binV, zal, pickV, zam, zan, zao, zap, zaq, zar, zas, zat, zau, outR, resAll, resOne, zav, zaw, zax, zay, zaz, zba, zbb, zbc, zbd, zbe, zbf, zbg, zbh, zbi, zbj, zbk, storeOp, storeCell, overlay, zbl, zbm, zbn, lookupOp, keyT, okRes, mapUpdateOp, zbo, zbp, zbq, zbr, zbs, zbt, zbu, Nat.reduceSub, Nat.reduceAdd, Int.reduceLT, Int.reduceLE, Int.reduceAdd, Int.reduceSub, Int.reduceToNat, Int.reduceBEq, Int.reduceBNe, Int.reduceMul, Nat.reduceBEq, Nat.reduceBNe, Nat.reduceLT, Nat.reduceLeDiff, Nat.reduceMul, Nat.reduceEqDiff, WD, effB, effH, isPriv, isHeap, isImm, zbx, zby, zbz, chkO, setD, dslot, zca, zcb, zcc, zcd, ptrCells_some, F32]
        rw [← hnum]
        exact ⟨rfl, by rw [← hset1]; exact hself.symm⟩
/-! ### the token that begins here -/
theorem nx_tok {H : Hp} {w p : Nat} {x : V} {nx : Nx} {out : Out} {H' : Hp} (h : nxR H w x p nx out H') : ∃ (t : Tk) (e : Nat), out = .ret (.tup [tokV t, .int .i64 e]) false := by
  cases nx with
  | tok k t n len => exact ⟨_, 0, h.1⟩
  | bad e off => obtain ⟨⟨t, h⟩, _⟩ := h; exact ⟨t, e, h⟩
theorem next_spec {H : Hp} {w : Nat} {x : V} {L : List UInt8} {p : Nat} {c : UInt8} {r : List UInt8} (hB : By H w x L) (hC : Ct H w x p) (hcr : L.drop p = c :: r) (hL : L.length ≤ 65536) :
    wpCall EW 21 [.ptr w 0 0] H (nxR H w x p (nextS (c :: r))) := by
  have hp : p < L.length := by
    have := congrArg List.length hcr
    simp at this; omega
  have hc : L[p]? = some c := by
    have : (L.drop p)[0]? = some c := by rw [hcr]; rfl
    simpa using this
  have hc8 : (by8 L)[p]? = some (byteV c) := by simp [by8, hc]
  have hx := hB.rd
  have hat := hx.at_ (sz := 1) hc8 rfl
  have hb : H[w]? = some (.cells [.agg [x, .int .i64 (p : Int)]]) := hC
  have e34 : (((c.toNat : Nat) : Int) == 34) = (c == 34) := u8b c 34
  refine runs f21 b21 r21 n21 _ _ ?_
  simp only [bodyOf, Tryd.f21, Option.getD_some]
  simp only [WW, partV, eqCells, eqLf, minV, maxV, ifcV, zaa, zab, zac, zad, zae, zaf, zag, zah, zai, ofConst, ofConst1, List.replicate, zaj, zak, loadOp, Go.Abs.loadCells, binV, zal, pickV, zam, zan, zao, zap, zaq, zar, zas, zat, zau, outR, resAll, resOne, zav, zaw, zax, zay, zaz, zba, zbb, zbc, zbd, zbe, zbf, zbg, zbh, zbi, zbj, zbk, storeOp, storeCell, overlay, zbl, zbm, zbn, lookupOp, keyT, okRes, mapUpdateOp, zbo, zbp, zbq, zbr, zbs, zbt, zbu, Nat.reduceSub, Nat.reduceAdd, Int.reduceLT, Int.reduceLE, Int.reduceAdd, Int.reduceSub, Int.reduceToNat, Int.reduceBEq, Int.reduceBNe, Int.reduceMul, Nat.reduceBEq, Nat.reduceBNe, Nat.reduceLT, Nat.reduceLeDiff, Nat.reduceMul, Nat.reduceEqDiff, WD, effB, effH, isPriv, isHeap, isImm, zbx, zby, zbz, chkO, setD, dslot, zca, zcb, zcc, zcd, ptrCells_some, F21]
  refine wC_dr alts21_1 (by kernel_rfl) ?_
  simp only [WW, partV, eqCells, eqLf, minV, maxV, ifcV, zaa, zab, zac, zad, zae, zaf, zag, zah, zai, ofConst, ofConst1, List.replicate, zaj, zak, loadOp, Go.Abs.loadCells, binV, zal, pickV, zam, zan, zao, zap, zaq, zar, zas, zat, zau, outR, resAll, resOne, zav, zaw, zax, zay, zaz, zba, zbb, zbc, zbd, zbe, zbf, zbg, zbh, zbi, zbj, zbk, storeOp, storeCell, overlay, zbl, zbm, zbn, lookupOp, keyT, okRes, mapUpdateOp, zbo, zbp, zbq, zbr, zbs, zbt, zbu, Nat.reduceSub, Nat.reduceAdd, Int.reduceLT, Int.reduceLE, Int.reduceAdd, Int.reduceSub, Int.reduceToNat, Int.reduceBEq, Int.reduceBNe, Int.reduceMul, Nat.reduceBEq, Nat.reduceBNe, Nat.reduceLT, Nat.reduceLeDiff, Nat.reduceMul, Nat.reduceEqDiff, WD, effB, effH, isPriv, isHeap, isImm, zbx, zby, zbz, chkO, setD, dslot, zca, zcb, zcc, zcd, ptrCells_some, F21, hb, hx.shutIn, hat.at1 hx, hat.cells, byteV, alts21_1]
  rw [wpCall_eq (letter_eq _ _)]
  cases hl : letterB c.toNat with
  | true =>
    simp only [WW, partV, eqCells, eqLf, minV, maxV, ifcV, zaa, zab, zac, zad, zae, zaf, zag, zah, zai, ofConst, ofConst1, List.replicate, zaj, zak, loadOp, Go.Abs.loadCells, binV, zal, pickV, zam, zan, zao, zap, zaq, zar, zas, zat, zau, outR, resAll, resOne, zav, zaw, zax, zay, zaz, zba, zbb, zbc, zbd, zbe, zbf, zbg, zbh, zbi, zbj, zbk, storeOp, storeCell, overlay, zbl, zbm, zbn, lookupOp, keyT, okRes, mapUpdateOp, zbo, zbp, zbq, zbr, zbs, zbt, zbu, Nat.reduceSub, Nat.reduceAdd, Int.reduceLT, Int.reduceLE, Int.reduceAdd, Int.reduceSub, Int.reduceToNat, Int.reduceBEq, Int.reduceBNe, Int.reduceMul, Nat.reduceBEq, Nat.reduceBNe, Nat.reduceLT, Nat.reduceLeDiff, Nat.reduceMul, Nat.reduceEqDiff, WD, effB, effH, isPriv, isHeap, isImm, zbx, zby, zbz, chkO, setD, dslot, zca, zcb, zcc, zcd, ptrCells_some, F21, hl]
    refine wpCall_of (name_spec hB hC (by omega) hL) ?_
    rintro out H1 ⟨rfl, rfl⟩
    rw [hcr]
    have hn : nextS (c :: r) = nameS (c :: r) := by simp only [nextS]; rw [if_pos hl]
    rw [hn]
    unfold nameS
    generalize (c :: r).takeWhile nameC = D
    simp only [tokV]
    simp only [WW, partV, eqCells, eqLf, minV, maxV, ifcV, zaa, zab, zac, zad, zae, zaf, zag, zah, zai, ofConst, ofConst1, List.replicate, zaj, zak, loadOp, Go.Abs.loadCells, binV, zal, pickV, zam, zan, zao, zap, zaq, zar, zas, zat, zau, outR, resAll, resOne, zav, zaw, zax, zay, zaz, zba, zbb, zbc, zbd, zbe, zbf, zbg, zbh, zbi, zbj, zbk, storeOp, storeCell, overlay, zbl, zbm, zbn, lookupOp, keyT, okRes, mapUpdateOp, zbo, zbp, zbq, zbr, zbs, zbt, zbu, Nat.reduceSub, Nat.reduceAdd, Int.reduceLT, Int.reduceLE, Int.reduceAdd, Int.reduceSub, Int.reduceToNat, Int.reduceBEq, Int.reduceBNe, Int.reduceMul, Nat.reduceBEq, Nat.reduceBNe, Nat.reduceLT, Nat.reduceLeDiff, Nat.reduceMul, Nat.reduceEqDiff, WD, effB, effH, isPriv, isHeap, isImm, zbx, zby, zbz, chkO, setD, dslot, zca, zcb, zcc, zcd, ptrCells_some, F21]
    exact ⟨rfl, rfl⟩
  | false =>
    simp only [WW, partV, eqCells, eqLf, minV, maxV, ifcV, zaa, zab, zac, zad, zae, zaf, zag, zah, zai, ofConst, ofConst1, List.replicate, zaj, zak, loadOp, Go.Abs.loadCells, binV, zal, pickV, zam, zan, zao, zap, zaq, zar, zas, zat, zau, outR, resAll, resOne, zav, zaw, zax, zay, zaz, zba, zbb, zbc, zbd, zbe, zbf, zbg, zbh, zbi, zbj, zbk, storeOp, storeCell, overlay, zbl, zbm, zbn, lookupOp, keyT, okRes, mapUpdateOp, zbo, zbp, zbq, zbr, zbs, zbt, zbu, Nat.reduceSub, Nat.reduceAdd, Int.reduceLT, Int.reduceLE, Int.reduceAdd, Int.reduceSub, Int.reduceToNat, Int.reduceBEq, Int.reduceBNe, Int.reduceMul, Nat.reduceBEq, Nat.reduceBNe, Nat.reduceLT, Nat.reduceLeDiff, Nat.reduceMul, Nat.reduceEqDiff, WD, effB, effH, isPriv, isHeap, isImm, zbx, zby, zbz, chkO, setD, dslot, zca, zcb, zcc, zcd, ptrCells_some, F21, hl]
    rw [wpCall_eq (digit_eq _ _)]
    cases hd : digitB c.toNat with
    | true =>
      simp only [WW, partV, eqCells, eqLf, minV, maxV, ifcV, zaa, zab, zac, zad, zae, zaf, zag, zah, zai, ofConst, ofConst1, List.replicate, zaj, zak, loadOp, Go.Abs.loadCells, binV, zal, pickV, zam, zan, zao, zap, zaq, zar, zas, zat, zau, outR, resAll, resOne, zav, zaw, zax, zay, zaz, zba, zbb, zbc, zbd, zbe, zbf, zbg, zbh, zbi, zbj, zbk, storeOp, storeCell, overlay, zbl, zbm, zbn, lookupOp, keyT, okRes, mapUpdateOp, zbo, zbp, zbq, zbr, zbs, zbt, zbu, Nat.reduceSub, Nat.reduceAdd, Int.reduceLT, Int.reduceLE, Int.reduceAdd, Int.reduceSub, Int.reduceToNat, Int.reduceBEq, Int.reduceBNe, Int.reduceMul, Nat.reduceBEq, Nat.reduceBNe, Nat.reduceLT, Nat.reduceLeDiff, Nat.reduceMul, Nat.reduceEqDiff, WD, effB, effH, isPriv, isHeap, isImm, zbx, zby, zbz, chkO, setD, dslot, zca, zcb, zcc, zcd, ptrCells_some, F21, hd]
      refine wpCall_of (number_spec hB hC hcr hd hL) ?_
      intro out H1 hres
      have hn : nextS (c :: r) = numS (c :: r) := by simp only [nextS]; rw [if_neg (by simp [hl]), if_pos hd]
      rw [hn]
      obtain ⟨t, e, ho⟩ := nx_tok hres
      subst ho
      simp only [tokV]
      simp only [WW, partV, eqCells, eqLf, minV, maxV, ifcV, zaa, zab, zac, zad, zae, zaf, zag, zah, zai, ofConst, ofConst1, List.replicate, zaj, zak, loadOp, Go.Abs.loadCells, binV, zal, pickV, zam, zan, zao, zap, zaq, zar, zas, zat, zau, outR, resAll, resOne, zav, zaw, zax, zay, zaz, zba, zbb, zbc, zbd, zbe, zbf, zbg, zbh, zbi, zbj, zbk, storeOp, storeCell, overlay, zbl, zbm, zbn, lookupOp, keyT, okRes, mapUpdateOp, zbo, zbp, zbq, zbr, zbs, zbt, zbu, Nat.reduceSub, Nat.reduceAdd, Int.reduceLT, Int.reduceLE, Int.reduceAdd, Int.reduceSub, Int.reduceToNat, Int.reduceBEq, Int.reduceBNe, Int.reduceMul, Nat.reduceBEq, Nat.reduceBNe, Nat.reduceLT, Nat.reduceLeDiff, Nat.reduceMul, Nat.reduceEqDiff, WD, effB, effH, isPriv, isHeap, isImm, zbx, zby, zbz, chkO, setD, dslot, zca, zcb, zcc, zcd, ptrCells_some, F21]
      exact hres
    | false =>
      cases h34 : (c == 34) with
      | true =>
        obtain rfl : c = 34 := by simpa using h34
        simp only [WW, partV, eqCells, eqLf, minV, maxV, ifcV, zaa, zab, zac, zad, zae, zaf, zag, zah, zai, ofConst, ofConst1, List.replicate, zaj, zak, loadOp, Go.Abs.loadCells, binV, zal, pickV, zam, zan, zao, zap, zaq, zar, zas, zat, zau, outR, resAll, resOne, zav, zaw, zax, zay, zaz, zba, zbb, zbc, zbd, zbe, zbf, zbg, zbh, zbi, zbj, zbk, storeOp, storeCell, overlay, zbl, zbm, zbn, lookupOp, keyT, okRes, mapUpdateOp, zbo, zbp, zbq, zbr, zbs, zbt, zbu, Nat.reduceSub, Nat.reduceAdd, Int.reduceLT, Int.reduceLE, Int.reduceAdd, Int.reduceSub, Int.reduceToNat, Int.reduceBEq, Int.reduceBNe, Int.reduceMul, Nat.reduceBEq, Nat.reduceBNe, Nat.reduceLT, Nat.reduceLeDiff, Nat.reduceMul, Nat.reduceEqDiff, WD, effB, effH, isPriv, isHeap, isImm, zbx, zby, zbz, chkO, setD, dslot, zca, zcb, zcc, zcd, ptrCells_some, F21, hd, e34, h34]
        refine wpCall_of (text_spec hB hC hcr hL) ?_
        intro out H1 hres
        have hn : nextS (34 :: r) = textS r [] 1 := by simp only [nextS]; rw [if_neg (by decide), if_neg (by decide), if_pos trivial]
        rw [hn]
        obtain ⟨t, e, ho⟩ := nx_tok hres
        subst ho
        simp only [tokV]
        simp only [WW, partV, eqCells, eqLf, minV, maxV, ifcV, zaa, zab, zac, zad, zae, zaf, zag, zah, zai, ofConst, ofConst1, List.replicate, zaj, zak, loadOp, Go.Abs.loadCells, binV, zal, pickV, zam, zan, zao, zap, zaq, zar, zas, zat, zau, outR, resAll, resOne, zav, zaw, zax, zay, zaz, zba, zbb, zbc, zbd, zbe, zbf, zbg, zbh, zbi, zbj, zbk, storeOp, storeCell, overlay, zbl, zbm, zbn, lookupOp, keyT, okRes, mapUpdateOp, zbo, zbp, zbq, zbr, zbs, zbt, zbu, Nat.reduceSub, Nat.reduceAdd, Int.reduceLT, Int.reduceLE, Int.reduceAdd, Int.reduceSub, Int.reduceToNat, Int.reduceBEq, Int.reduceBNe, Int.reduceMul, Nat.reduceBEq, Nat.reduceBNe, Nat.reduceLT, Nat.reduceLeDiff, Nat.reduceMul, Nat.reduceEqDiff, WD, effB, effH, isPriv, isHeap, isImm, zbx, zby, zbz, chkO, setD, dslot, zca, zcb, zcc, zcd, ptrCells_some, F21]
        exact hres
      | false =>
        have n34 : c ≠ 34 := by simpa using h34
        simp only [WW, partV, eqCells, eqLf, minV, maxV, ifcV, zaa, zab, zac, zad, zae, zaf, zag, zah, zai, ofConst, ofConst1, List.replicate, zaj, zak, loadOp, Go.Abs.loadCells, binV, zal, pickV, zam, zan, zao, zap, zaq, zar, zas, zat, zau, outR, resAll, resOne, zav, zaw, zax, zay, zaz, zba, zbb, zbc, zbd, zbe, zbf, zbg, zbh, zbi, zbj, zbk, storeOp, storeCell, overlay, zbl, zbm, zbn, lookupOp, keyT, okRes, mapUpdateOp, zbo, zbp, zbq, zbr, zbs, zbt, zbu, Nat.reduceSub, Nat.reduceAdd, Int.reduceLT, Int.reduceLE, Int.reduceAdd, Int.reduceSub, Int.reduceToNat, Int.reduceBEq, Int.reduceBNe, Int.reduceMul, Nat.reduceBEq, Nat.reduceBNe, Nat.reduceLT, Nat.reduceLeDiff, Nat.reduceMul, Nat.reduceEqDiff, WD, effB, effH, isPriv, isHeap, isImm, zbx, zby, zbz, chkO, setD, dslot, zca, zcb, zcc, zcd, ptrCells_some, F21, hd, e34, h34]
        refine wpCall_of (sign_spec hB hC hcr hL) ?_
        intro out H1 hres
        have hn : nextS (c :: r) = signS c r := by simp only [nextS]; rw [if_neg (by simp [hl]), if_neg (by simp [hd]), if_neg n34]
        rw [hn]
        obtain ⟨t, e, ho⟩ := nx_tok hres
        subst ho
        simp only [tokV]
        simp only [WW, partV, eqCells, eqLf, minV, maxV, ifcV, zaa, zab, zac, zad, zae, zaf, zag, zah, zai, ofConst, ofConst1, List.replicate, zaj, zak, loadOp, Go.Abs.loadCells, binV, zal, pickV, zam, zan, zao, zap, zaq, zar, zas, zat, zau, outR, resAll, resOne, zav, zaw, zax, zay, zaz, zba, zbb, zbc, zbd, zbe, zbf, zbg, zbh, zbi, zbj, zbk, storeOp, storeCell, overlay, zbl, zbm, zbn, lookupOp, keyT, okRes, mapUpdateOp, zbo, zbp, zbq, zbr, zbs, zbt, zbu, Nat.reduceSub, Nat.reduceAdd, Int.reduceLT, Int.reduceLE, Int.reduceAdd, Int.reduceSub, Int.reduceToNat, Int.reduceBEq, Int.reduceBNe, Int.reduceMul, Nat.reduceBEq, Nat.reduceBNe, Nat.reduceLT, Nat.reduceLeDiff, Nat.reduceMul, Nat.reduceEqDiff, WD, effB, effH, isPriv, isHeap, isImm, zbx, zby, zbz, chkO, setD, dslot, zca, zcb, zcc, zcd, ptrCells_some, F21]
        exact hres
end Go.Proofs.YtcmndnkeoepmoaaDoor
