/- A part of the proofs over this seat. -/
import Derived.Test.YtfjbgmcdkhepkaaQC0
import Derived.Test.YtfjbgmcdkhepkaaQAbsTv
import Derived.Test.YtfjbgmcdkhepkaaQK1
import Derived.Test.YtfjbgmcdkhepkaaQAbsSl
namespace Go.Proofs.Ytfjbgmcdkhepkaa
open Go Go.Abs Go.Proofs
set_option maxRecDepth 100000
set_option maxHeartbeats 2000000
set_option linter.unusedVariables false
set_option linter.unusedSimpArgs false
noncomputable abbrev EW := evW Try.prog notes
def depV (d : Int × Int) : V := .agg [.int .i64 d.1, .int .u64 d.2]
theorem num_eq (n : Int) (H : Hp) : EW 10 [.int .i64 n] H = some (.ret (.int .i64 n) false, H) := by
  refine eqOf (runs f10 b10 r10 n10 _ _ ?_)
  simp only [bodyOf, Try.f10, Option.getD_some]
  simp only [WW, partV, eqCells, eqLf, minV, maxV, ifcV, zaa, zab, zac, zad, zae, zaf, zag, zah, zai, ofConst, ofConst1, List.replicate, zaj, zak, loadOp, Go.Abs.loadCells, binV, zal, pickV, zam, zan, zao, zap, zaq, zar, zas, zat, zau, outR, resAll, resOne, zav, zaw, zax, zay, zaz, zba, zbb, zbc, zbd, zbe, zbf, zbg, zbh, zbi, zbj, zbk, storeOp, storeCell, overlay, zbl, zbm, zbn, lookupOp, keyT, okRes, mapUpdateOp, zbo, zbp, zbq, zbr, zbs, zbt, zbu, Nat.reduceSub, Nat.reduceAdd, Int.reduceLT, Int.reduceLE, Int.reduceAdd, Int.reduceSub, Int.reduceToNat, Int.reduceBEq, Int.reduceBNe, Int.reduceMul, Nat.reduceBEq, Nat.reduceBNe, Nat.reduceLT, Nat.reduceLeDiff, Nat.reduceMul, Nat.reduceEqDiff, WD, effB, effH, isPriv, isHeap, isImm, zbx, zby, zbz, chkO, setD, dslot, zca, zcb, zcc, zcd, ptrCells_some, convertOp]
theorem key_eq (d : Int × Int) (H : Hp) : EW 34 [depV d] H = some (.ret (.int .i64 d.1) false, H) := by
  refine eqOf (runs f34 b34 r34 n34 _ _ ?_)
  simp only [depV]
  simp only [bodyOf, Try.f34, Option.getD_some]
  simp only [WW, partV, eqCells, eqLf, minV, maxV, ifcV, zaa, zab, zac, zad, zae, zaf, zag, zah, zai, ofConst, ofConst1, List.replicate, zaj, zak, loadOp, Go.Abs.loadCells, binV, zal, pickV, zam, zan, zao, zap, zaq, zar, zas, zat, zau, outR, resAll, resOne, zav, zaw, zax, zay, zaz, zba, zbb, zbc, zbd, zbe, zbf, zbg, zbh, zbi, zbj, zbk, storeOp, storeCell, overlay, zbl, zbm, zbn, lookupOp, keyT, okRes, mapUpdateOp, zbo, zbp, zbq, zbr, zbs, zbt, zbu, Nat.reduceSub, Nat.reduceAdd, Int.reduceLT, Int.reduceLE, Int.reduceAdd, Int.reduceSub, Int.reduceToNat, Int.reduceBEq, Int.reduceBNe, Int.reduceMul, Nat.reduceBEq, Nat.reduceBNe, Nat.reduceLT, Nat.reduceLeDiff, Nat.reduceMul, Nat.reduceEqDiff, WD, effB, effH, isPriv, isHeap, isImm, zbx, zby, zbz, chkO, setD, dslot, zca, zcb, zcc, zcd, ptrCells_some, F34]
theorem ends_dropped (n id : Int) (v : V) (H : Hp) : EW 53 [.int .i64 n, .int .i64 id, v] H = some (.ret (.bool (n == id)) false, H) := by
  refine eqOf (runs f53 b53 r53 n53 _ _ ?_)
  simp only [bodyOf, Try.f53, Option.getD_some]
  simp only [WW, partV, eqCells, eqLf, minV, maxV, ifcV, zaa, zab, zac, zad, zae, zaf, zag, zah, zai, ofConst, ofConst1, List.replicate, zaj, zak, loadOp, Go.Abs.loadCells, binV, zal, pickV, zam, zan, zao, zap, zaq, zar, zas, zat, zau, outR, resAll, resOne, zav, zaw, zax, zay, zaz, zba, zbb, zbc, zbd, zbe, zbf, zbg, zbh, zbi, zbj, zbk, storeOp, storeCell, overlay, zbl, zbm, zbn, lookupOp, keyT, okRes, mapUpdateOp, zbo, zbp, zbq, zbr, zbs, zbt, zbu, Nat.reduceSub, Nat.reduceAdd, Int.reduceLT, Int.reduceLE, Int.reduceAdd, Int.reduceSub, Int.reduceToNat, Int.reduceBEq, Int.reduceBNe, Int.reduceMul, Nat.reduceBEq, Nat.reduceBNe, Nat.reduceLT, Nat.reduceLeDiff, Nat.reduceMul, Nat.reduceEqDiff, WD, effB, effH, isPriv, isHeap, isImm, zbx, zby, zbz, chkO, setD, dslot, zca, zcb, zcc, zcd, ptrCells_some, F53]
theorem ends1 (g v : Int) (d : Int × Int) (H : Hp) : EW 52 [depV d, .ept (.agg [.int .i64 g, .int .u64 v]) 0] H = some (.ret (.bool (d.1 == g && d.2 != v)) false, H) := by
  refine eqOf (runs f52 b52 r52 n52 _ _ ?_)
  simp only [depV]
  simp only [bodyOf, Try.f52, Option.getD_some]
  cases h : d.1 == g
  · simp only [WW, partV, eqCells, eqLf, minV, maxV, ifcV, zaa, zab, zac, zad, zae, zaf, zag, zah, zai, ofConst, ofConst1, List.replicate, zaj, zak, loadOp, Go.Abs.loadCells, binV, zal, pickV, zam, zan, zao, zap, zaq, zar, zas, zat, zau, outR, resAll, resOne, zav, zaw, zax, zay, zaz, zba, zbb, zbc, zbd, zbe, zbf, zbg, zbh, zbi, zbj, zbk, storeOp, storeCell, overlay, zbl, zbm, zbn, lookupOp, keyT, okRes, mapUpdateOp, zbo, zbp, zbq, zbr, zbs, zbt, zbu, Nat.reduceSub, Nat.reduceAdd, Int.reduceLT, Int.reduceLE, Int.reduceAdd, Int.reduceSub, Int.reduceToNat, Int.reduceBEq, Int.reduceBNe, Int.reduceMul, Nat.reduceBEq, Nat.reduceBNe, Nat.reduceLT, Nat.reduceLeDiff, Nat.reduceMul, Nat.reduceEqDiff, WD, effB, effH, isPriv, isHeap, isImm, zbx, zby, zbz, chkO, setD, dslot, zca, zcb, zcc, zcd, ptrCells_some, F52, h]
    try simp
  · simp only [WW, partV, eqCells, eqLf, minV, maxV, ifcV, zaa, zab, zac, zad, zae, zaf, zag, zah, zai, ofConst, ofConst1, List.replicate, zaj, zak, loadOp, Go.Abs.loadCells, binV, zal, pickV, zam, zan, zao, zap, zaq, zar, zas, zat, zau, outR, resAll, resOne, zav, zaw, zax, zay, zaz, zba, zbb, zbc, zbd, zbe, zbf, zbg, zbh, zbi, zbj, zbk, storeOp, storeCell, overlay, zbl, zbm, zbn, lookupOp, keyT, okRes, mapUpdateOp, zbo, zbp, zbq, zbr, zbs, zbt, zbu, Nat.reduceSub, Nat.reduceAdd, Int.reduceLT, Int.reduceLE, Int.reduceAdd, Int.reduceSub, Int.reduceToNat, Int.reduceBEq, Int.reduceBNe, Int.reduceMul, Nat.reduceBEq, Nat.reduceBNe, Nat.reduceLT, Nat.reduceLeDiff, Nat.reduceMul, Nat.reduceEqDiff, WD, effB, effH, isPriv, isHeap, isImm, zbx, zby, zbz, chkO, setD, dslot, zca, zcb, zcc, zcd, ptrCells_some, F52, h]
    try simp
def findI (l : List (Int × Int)) (p : Int × Int → Bool) : Int := match l.findIdx? p with | some i => i | none => -1
theorem depAt {H : Hp} {x : V} {l : List (Int × Int)} (hx : Rd H x (l.map depV)) {i : Nat} {d : Int × Int} (hd : l[i]? = some d) : RdAt H x 2 i (depV d) :=
  hx.at_ (by rw [List.getElem?_map, hd]; rfl) rfl
theorem indexFunc (l : List (Int × Int)) (p : Int × Int → Bool) (fid : FuncId) (a b : List V) (H : Hp) (hc : callable Try.prog fid = true) (hlen : l.length < 4611686018427387904)
  (hp : ∀ v ∈ l, EW fid (a ++ [depV v] ++ b) H = some (.ret (.bool (p v)) false, H)) (x : V) (hx : Rd H x (l.map depV)) :
  EW 35 [x, .fn fid a b] H = some (.ret (.int .i64 (findI l p)) false, H) := by
  refine eqOf (runs f35 b35 r35 n35 _ _ ?_)
  simp only [bodyOf, Try.f35, Option.getD_some]
  simp only [WW, partV, eqCells, eqLf, minV, maxV, ifcV, zaa, zab, zac, zad, zae, zaf, zag, zah, zai, ofConst, ofConst1, List.replicate, zaj, zak, loadOp, Go.Abs.loadCells, binV, zal, pickV, zam, zan, zao, zap, zaq, zar, zas, zat, zau, outR, resAll, resOne, zav, zaw, zax, zay, zaz, zba, zbb, zbc, zbd, zbe, zbf, zbg, zbh, zbi, zbj, zbk, storeOp, storeCell, overlay, zbl, zbm, zbn, lookupOp, keyT, okRes, mapUpdateOp, zbo, zbp, zbq, zbr, zbs, zbt, zbu, Nat.reduceSub, Nat.reduceAdd, Int.reduceLT, Int.reduceLE, Int.reduceAdd, Int.reduceSub, Int.reduceToNat, Int.reduceBEq, Int.reduceBNe, Int.reduceMul, Nat.reduceBEq, Nat.reduceBNe, Nat.reduceLT, Nat.reduceLeDiff, Nat.reduceMul, Nat.reduceEqDiff, WD, effB, effH, isPriv, isHeap, isImm, zbx, zby, zbz, chkO, setD, dslot, zca, zcb, zcc, zcd, ptrCells_some, F35, hx.shutIn, hx.len]
  refine wC_loop _ (fun n st H' => ∃ i : Nat, st = ⟨L35_2 (.v x) (.v (.fn fid a b)) (.v (.int .i64 l.length)) (.v (.int .i64 i)), [], []⟩ ∧ H' = H ∧ i ≤ l.length ∧ n = l.length - i ∧ ∀ (j : Nat) v, j < i → l[j]? = some v → p v = false) l.length ⟨0, ?_, rfl, by omega, by omega, fun j v hj => by omega⟩ ?_
  · simp only [WN, firstReg, growAll, zbv, zbw, norm, killS, zag, zah, zaa, zab, zbl, zat, zad, growOne, zae, zaf, zac, zas, zak, Nat.reduceLT, Nat.reduceAdd, zbj, zav, F35, L35_2, hx.clip2, List.length_map]; rfl
  · rintro n st H' ⟨i, rfl, rfl, hi, hn, hno⟩
    simp only [L35_2]
    simp only [WW, partV, eqCells, eqLf, minV, maxV, ifcV, zaa, zab, zac, zad, zae, zaf, zag, zah, zai, ofConst, ofConst1, List.replicate, zaj, zak, loadOp, Go.Abs.loadCells, binV, zal, pickV, zam, zan, zao, zap, zaq, zar, zas, zat, zau, outR, resAll, resOne, zav, zaw, zax, zay, zaz, zba, zbb, zbc, zbd, zbe, zbf, zbg, zbh, zbi, zbj, zbk, storeOp, storeCell, overlay, zbl, zbm, zbn, lookupOp, keyT, okRes, mapUpdateOp, zbo, zbp, zbq, zbr, zbs, zbt, zbu, Nat.reduceSub, Nat.reduceAdd, Int.reduceLT, Int.reduceLE, Int.reduceAdd, Int.reduceSub, Int.reduceToNat, Int.reduceBEq, Int.reduceBNe, Int.reduceMul, Nat.reduceBEq, Nat.reduceBNe, Nat.reduceLT, Nat.reduceLeDiff, Nat.reduceMul, Nat.reduceEqDiff, WD, effB, effH, isPriv, isHeap, isImm, zbx, zby, zbz, chkO, setD, dslot, zca, zcb, zcc, zcd, ptrCells_some, F35, hx.shutIn, hx.len]
    refine cStep_of (fun hlt => ?_) (fun hge => ?_)
    · have hi2 : i < l.length := by simpa using hlt
      obtain ⟨d, hd⟩ : ∃ d, l[i]? = some d := ⟨_, List.getElem?_eq_getElem hi2⟩
      have hat := depAt hx hd
      have h1 := hp d (List.mem_of_getElem? hd)
      simp only [depV] at h1
      simp only [WW, partV, eqCells, eqLf, minV, maxV, ifcV, zaa, zab, zac, zad, zae, zaf, zag, zah, zai, ofConst, ofConst1, List.replicate, zaj, zak, loadOp, Go.Abs.loadCells, binV, zal, pickV, zam, zan, zao, zap, zaq, zar, zas, zat, zau, outR, resAll, resOne, zav, zaw, zax, zay, zaz, zba, zbb, zbc, zbd, zbe, zbf, zbg, zbh, zbi, zbj, zbk, storeOp, storeCell, overlay, zbl, zbm, zbn, lookupOp, keyT, okRes, mapUpdateOp, zbo, zbp, zbq, zbr, zbs, zbt, zbu, Nat.reduceSub, Nat.reduceAdd, Int.reduceLT, Int.reduceLE, Int.reduceAdd, Int.reduceSub, Int.reduceToNat, Int.reduceBEq, Int.reduceBNe, Int.reduceMul, Nat.reduceBEq, Nat.reduceBNe, Nat.reduceLT, Nat.reduceLeDiff, Nat.reduceMul, Nat.reduceEqDiff, WD, effB, effH, isPriv, isHeap, isImm, zbx, zby, zbz, chkO, setD, dslot, zca, zcb, zcc, zcd, ptrCells_some, F35, hx.shutIn, hat.at1 hx, hat.cells, depV, hc]
      rw [wpCall_eq h1]
      simp only [WW, partV, eqCells, eqLf, minV, maxV, ifcV, zaa, zab, zac, zad, zae, zaf, zag, zah, zai, ofConst, ofConst1, List.replicate, zaj, zak, loadOp, Go.Abs.loadCells, binV, zal, pickV, zam, zan, zao, zap, zaq, zar, zas, zat, zau, outR, resAll, resOne, zav, zaw, zax, zay, zaz, zba, zbb, zbc, zbd, zbe, zbf, zbg, zbh, zbi, zbj, zbk, storeOp, storeCell, overlay, zbl, zbm, zbn, lookupOp, keyT, okRes, mapUpdateOp, zbo, zbp, zbq, zbr, zbs, zbt, zbu, Nat.reduceSub, Nat.reduceAdd, Int.reduceLT, Int.reduceLE, Int.reduceAdd, Int.reduceSub, Int.reduceToNat, Int.reduceBEq, Int.reduceBNe, Int.reduceMul, Nat.reduceBEq, Nat.reduceBNe, Nat.reduceLT, Nat.reduceLeDiff, Nat.reduceMul, Nat.reduceEqDiff, WD, effB, effH, isPriv, isHeap, isImm, zbx, zby, zbz, chkO, setD, dslot, zca, zcb, zcc, zcd, ptrCells_some, F35]
      refine cStep_of (fun hT => ?_) (fun hF => ?_)
      · simp only [WW, partV, eqCells, eqLf, minV, maxV, ifcV, zaa, zab, zac, zad, zae, zaf, zag, zah, zai, ofConst, ofConst1, List.replicate, zaj, zak, loadOp, Go.Abs.loadCells, binV, zal, pickV, zam, zan, zao, zap, zaq, zar, zas, zat, zau, outR, resAll, resOne, zav, zaw, zax, zay, zaz, zba, zbb, zbc, zbd, zbe, zbf, zbg, zbh, zbi, zbj, zbk, storeOp, storeCell, overlay, zbl, zbm, zbn, lookupOp, keyT, okRes, mapUpdateOp, zbo, zbp, zbq, zbr, zbs, zbt, zbu, Nat.reduceSub, Nat.reduceAdd, Int.reduceLT, Int.reduceLE, Int.reduceAdd, Int.reduceSub, Int.reduceToNat, Int.reduceBEq, Int.reduceBNe, Int.reduceMul, Nat.reduceBEq, Nat.reduceBNe, Nat.reduceLT, Nat.reduceLeDiff, Nat.reduceMul, Nat.reduceEqDiff, WD, effB, effH, isPriv, isHeap, isImm, zbx, zby, zbz, chkO, setD, dslot, zca, zcb, zcc, zcd, ptrCells_some, F35]
        have : l.findIdx? p = some i := by
          rw [List.findIdx?_eq_some_iff_getElem]
          refine ⟨hi2, by rw [List.getElem?_eq_getElem hi2] at hd; cases hd; exact hT, fun j hj => ?_⟩
          rw [hno j _ hj (List.getElem?_eq_getElem (by omega))]; simp
        unfold findI; rw [this]
      · simp only [WW, partV, eqCells, eqLf, minV, maxV, ifcV, zaa, zab, zac, zad, zae, zaf, zag, zah, zai, ofConst, ofConst1, List.replicate, zaj, zak, loadOp, Go.Abs.loadCells, binV, zal, pickV, zam, zan, zao, zap, zaq, zar, zas, zat, zau, outR, resAll, resOne, zav, zaw, zax, zay, zaz, zba, zbb, zbc, zbd, zbe, zbf, zbg, zbh, zbi, zbj, zbk, storeOp, storeCell, overlay, zbl, zbm, zbn, lookupOp, keyT, okRes, mapUpdateOp, zbo, zbp, zbq, zbr, zbs, zbt, zbu, Nat.reduceSub, Nat.reduceAdd, Int.reduceLT, Int.reduceLE, Int.reduceAdd, Int.reduceSub, Int.reduceToNat, Int.reduceBEq, Int.reduceBNe, Int.reduceMul, Nat.reduceBEq, Nat.reduceBNe, Nat.reduceLT, Nat.reduceLeDiff, Nat.reduceMul, Nat.reduceEqDiff, WD, effB, effH, isPriv, isHeap, isImm, zbx, zby, zbz, chkO, setD, dslot, zca, zcb, zcc, zcd, ptrCells_some, F35]
        refine ⟨n - 1, by omega, i + 1, ?_, by omega, by omega, fun j v hj hv => ?_⟩
        · simp only [WN, firstReg, growAll, zbv, zbw, norm, killS, zag, zah, zaa, zab, zbl, zat, zad, growOne, zae, zaf, zac, zas, zak, Nat.reduceLT, Nat.reduceAdd, zbj, zav, F35, hx.clip2]
          rw [IntWalk.i64_in _ (by omega)]; rfl
        · by_cases e : j = i
          · subst e; rw [hd] at hv; cases hv; exact hF
          · exact hno j v (by omega) hv
    · have hi2 : i = l.length := by simp at hge; omega
      simp only [WW, partV, eqCells, eqLf, minV, maxV, ifcV, zaa, zab, zac, zad, zae, zaf, zag, zah, zai, ofConst, ofConst1, List.replicate, zaj, zak, loadOp, Go.Abs.loadCells, binV, zal, pickV, zam, zan, zao, zap, zaq, zar, zas, zat, zau, outR, resAll, resOne, zav, zaw, zax, zay, zaz, zba, zbb, zbc, zbd, zbe, zbf, zbg, zbh, zbi, zbj, zbk, storeOp, storeCell, overlay, zbl, zbm, zbn, lookupOp, keyT, okRes, mapUpdateOp, zbo, zbp, zbq, zbr, zbs, zbt, zbu, Nat.reduceSub, Nat.reduceAdd, Int.reduceLT, Int.reduceLE, Int.reduceAdd, Int.reduceSub, Int.reduceToNat, Int.reduceBEq, Int.reduceBNe, Int.reduceMul, Nat.reduceBEq, Nat.reduceBNe, Nat.reduceLT, Nat.reduceLeDiff, Nat.reduceMul, Nat.reduceEqDiff, WD, effB, effH, isPriv, isHeap, isImm, zbx, zby, zbz, chkO, setD, dslot, zca, zcb, zcc, zcd, ptrCells_some, F35]
      have : l.findIdx? p = none := by
        rw [List.findIdx?_eq_none_iff]
        intro v hv
        obtain ⟨j, hj, e⟩ := List.getElem_of_mem hv
        exact hno j v (by omega) (by rw [List.getElem?_eq_getElem hj, e])
      unfold findI; rw [this]
theorem containsFunc (l : List (Int × Int)) (p : Int × Int → Bool) (fid : FuncId) (a b : List V) (H : Hp) (hc : callable Try.prog fid = true) (hlen : l.length < 4611686018427387904)
    (hp : ∀ v ∈ l, EW fid (a ++ [depV v] ++ b) H = some (.ret (.bool (p v)) false, H)) (x : V) (hx : Rd H x (l.map depV)) :
    EW 31 [x, .fn fid a b] H = some (.ret (.bool (l.any p)) false, H) := by
  have h1 := indexFunc l p fid a b H hc hlen hp x hx
  have h2 : findI l p ≥ 0 ↔ l.any p = true := by
    unfold findI
    cases h : l.findIdx? p with
    | none =>
      rw [List.findIdx?_eq_none_iff] at h
      simp only [List.any_eq_true]
      constructor
      · intro hh; omega
      · rintro ⟨v, hv, hpv⟩; rw [h v hv] at hpv; cases hpv
    | some i =>
      obtain ⟨hi, hpi, _⟩ := List.findIdx?_eq_some_iff_getElem.1 h
      simp only [List.any_eq_true]
      exact ⟨fun _ => ⟨_, List.getElem_mem hi, hpi⟩, fun _ => by simp⟩
  refine eqOf (runs f31 b31 r31 n31 _ _ ?_)
  simp only [bodyOf, Try.f31, Option.getD_some]
  simp only [WW, partV, eqCells, eqLf, minV, maxV, ifcV, zaa, zab, zac, zad, zae, zaf, zag, zah, zai, ofConst, ofConst1, List.replicate, zaj, zak, loadOp, Go.Abs.loadCells, binV, zal, pickV, zam, zan, zao, zap, zaq, zar, zas, zat, zau, outR, resAll, resOne, zav, zaw, zax, zay, zaz, zba, zbb, zbc, zbd, zbe, zbf, zbg, zbh, zbi, zbj, zbk, storeOp, storeCell, overlay, zbl, zbm, zbn, lookupOp, keyT, okRes, mapUpdateOp, zbo, zbp, zbq, zbr, zbs, zbt, zbu, Nat.reduceSub, Nat.reduceAdd, Int.reduceLT, Int.reduceLE, Int.reduceAdd, Int.reduceSub, Int.reduceToNat, Int.reduceBEq, Int.reduceBNe, Int.reduceMul, Nat.reduceBEq, Nat.reduceBNe, Nat.reduceLT, Nat.reduceLeDiff, Nat.reduceMul, Nat.reduceEqDiff, WD, effB, effH, isPriv, isHeap, isImm, zbx, zby, zbz, chkO, setD, dslot, zca, zcb, zcc, zcd, ptrCells_some, F31, hx.shutIn]
  rw [wpCall_eq h1]
  simp only [WW, partV, eqCells, eqLf, minV, maxV, ifcV, zaa, zab, zac, zad, zae, zaf, zag, zah, zai, ofConst, ofConst1, List.replicate, zaj, zak, loadOp, Go.Abs.loadCells, binV, zal, pickV, zam, zan, zao, zap, zaq, zar, zas, zat, zau, outR, resAll, resOne, zav, zaw, zax, zay, zaz, zba, zbb, zbc, zbd, zbe, zbf, zbg, zbh, zbi, zbj, zbk, storeOp, storeCell, overlay, zbl, zbm, zbn, lookupOp, keyT, okRes, mapUpdateOp, zbo, zbp, zbq, zbr, zbs, zbt, zbu, Nat.reduceSub, Nat.reduceAdd, Int.reduceLT, Int.reduceLE, Int.reduceAdd, Int.reduceSub, Int.reduceToNat, Int.reduceBEq, Int.reduceBNe, Int.reduceMul, Nat.reduceBEq, Nat.reduceBNe, Nat.reduceLT, Nat.reduceLeDiff, Nat.reduceMul, Nat.reduceEqDiff, WD, effB, effH, isPriv, isHeap, isImm, zbx, zby, zbz, chkO, setD, dslot, zca, zcb, zcc, zcd, ptrCells_some, F31]
  have : decide (0 ≤ findI l p) = l.any p := by
    rw [Bool.eq_iff_iff]; simpa using h2
  rw [this]
/-- What is kept of a slice of Deps: nil, or a row that nothing writes to. -/
inductive IsDeps : V → List (Int × Int) → Prop
  | nils : IsDeps .nils []
  | rsl (l : List (Int × Int)) : IsDeps (.rsl (l.map depV)) l
theorem IsDeps.rd {x : V} {l : List (Int × Int)} (h : IsDeps x l) (H : Hp) : Rd H x (l.map depV) := by
  cases h with
  | nils => exact .nils
  | rsl => exact .rsl _
theorem ends_written (g v : Int) (id : Int) (H : Hp) (vid : Nat) (f : Int) (on : V) (l : List (Int × Int)) (vl : Bool) (hv : H[vid]? = some (.cells [.agg [.int .i64 f, on, .bool vl]])) (hon : IsDeps on l) (hlen : l.length < 4611686018427387904) :
    EW 51 [.agg [.int .i64 g, .int .u64 v], .int .i64 id, .ptr vid 0 0] H = some (.ret (.bool (l.any fun d => d.1 == g && d.2 != v)) false, H) := by
  have h1 := containsFunc l (fun d => d.1 == g && d.2 != v) 52 [] [.ept (.agg [.int .i64 g, .int .u64 v]) 0] H call52 hlen (fun d _ => by simpa using ends1 g v d H) on (hon.rd H)
  refine eqOf (runs f51 b51 r51 n51 _ _ ?_)
  simp only [bodyOf, Try.f51, Option.getD_some]
  simp only [WW, partV, eqCells, eqLf, minV, maxV, ifcV, zaa, zab, zac, zad, zae, zaf, zag, zah, zai, ofConst, ofConst1, List.replicate, zaj, zak, loadOp, Go.Abs.loadCells, binV, zal, pickV, zam, zan, zao, zap, zaq, zar, zas, zat, zau, outR, resAll, resOne, zav, zaw, zax, zay, zaz, zba, zbb, zbc, zbd, zbe, zbf, zbg, zbh, zbi, zbj, zbk, storeOp, storeCell, overlay, zbl, zbm, zbn, lookupOp, keyT, okRes, mapUpdateOp, zbo, zbp, zbq, zbr, zbs, zbt, zbu, Nat.reduceSub, Nat.reduceAdd, Int.reduceLT, Int.reduceLE, Int.reduceAdd, Int.reduceSub, Int.reduceToNat, Int.reduceBEq, Int.reduceBNe, Int.reduceMul, Nat.reduceBEq, Nat.reduceBNe, Nat.reduceLT, Nat.reduceLeDiff, Nat.reduceMul, Nat.reduceEqDiff, WD, effB, effH, isPriv, isHeap, isImm, zbx, zby, zbz, chkO, setD, dslot, zca, zcb, zcc, zcd, ptrCells_some, F51, (hon.rd H).shutIn, hv]
  rw [wpCall_eq h1]
  simp only [WW, partV, eqCells, eqLf, minV, maxV, ifcV, zaa, zab, zac, zad, zae, zaf, zag, zah, zai, ofConst, ofConst1, List.replicate, zaj, zak, loadOp, Go.Abs.loadCells, binV, zal, pickV, zam, zan, zao, zap, zaq, zar, zas, zat, zau, outR, resAll, resOne, zav, zaw, zax, zay, zaz, zba, zbb, zbc, zbd, zbe, zbf, zbg, zbh, zbi, zbj, zbk, storeOp, storeCell, overlay, zbl, zbm, zbn, lookupOp, keyT, okRes, mapUpdateOp, zbo, zbp, zbq, zbr, zbs, zbt, zbu, Nat.reduceSub, Nat.reduceAdd, Int.reduceLT, Int.reduceLE, Int.reduceAdd, Int.reduceSub, Int.reduceToNat, Int.reduceBEq, Int.reduceBNe, Int.reduceMul, Nat.reduceBEq, Nat.reduceBNe, Nat.reduceLT, Nat.reduceLeDiff, Nat.reduceMul, Nat.reduceEqDiff, WD, effB, effH, isPriv, isHeap, isImm, zbx, zby, zbz, chkO, setD, dslot, zca, zcb, zcc, zcd, ptrCells_some, F51]
theorem wrong1 (x : Int × Int) (dd : Nat) (g : Int) (al ct : V) (H : Hp) (hd : H[dd]? = some (.cells [.agg [.int .i64 g, al, ct]])) :
    EW 32 [depV x, .ept (.ptr dd 0 0) 0] H = some (.ret (.bool (decide (x.1 < 0) || decide (x.1 ≥ g))) false, H) := by
  refine eqOf (runs f32 b32 r32 n32 _ _ ?_)
  simp only [depV]
  simp only [bodyOf, Try.f32, Option.getD_some]
  simp only [WW, partV, eqCells, eqLf, minV, maxV, ifcV, zaa, zab, zac, zad, zae, zaf, zag, zah, zai, ofConst, ofConst1, List.replicate, zaj, zak, loadOp, Go.Abs.loadCells, binV, zal, pickV, zam, zan, zao, zap, zaq, zar, zas, zat, zau, outR, resAll, resOne, zav, zaw, zax, zay, zaz, zba, zbb, zbc, zbd, zbe, zbf, zbg, zbh, zbi, zbj, zbk, storeOp, storeCell, overlay, zbl, zbm, zbn, lookupOp, keyT, okRes, mapUpdateOp, zbo, zbp, zbq, zbr, zbs, zbt, zbu, Nat.reduceSub, Nat.reduceAdd, Int.reduceLT, Int.reduceLE, Int.reduceAdd, Int.reduceSub, Int.reduceToNat, Int.reduceBEq, Int.reduceBNe, Int.reduceMul, Nat.reduceBEq, Nat.reduceBNe, Nat.reduceLT, Nat.reduceLeDiff, Nat.reduceMul, Nat.reduceEqDiff, WD, effB, effH, isPriv, isHeap, isImm, zbx, zby, zbz, chkO, setD, dslot, zca, zcb, zcc, zcd, ptrCells_some, F32]
  refine wC_dr alts32_1 (by kernel_rfl) ?_
  simp only [WW, partV, eqCells, eqLf, minV, maxV, ifcV, zaa, zab, zac, zad, zae, zaf, zag, zah, zai, ofConst, ofConst1, List.replicate, zaj, zak, loadOp, Go.Abs.loadCells, binV, zal, pickV, zam, zan, zao, zap, zaq, zar, zas, zat, zau, outR, resAll, resOne, zav, zaw, zax, zay, zaz, zba, zbb, zbc, zbd, zbe, zbf, zbg, zbh, zbi, zbj, zbk, storeOp, storeCell, overlay, zbl, zbm, zbn, lookupOp, keyT, okRes, mapUpdateOp, zbo, zbp, zbq, zbr, zbs, zbt, zbu, Nat.reduceSub, Nat.reduceAdd, Int.reduceLT, Int.reduceLE, Int.reduceAdd, Int.reduceSub, Int.reduceToNat, Int.reduceBEq, Int.reduceBNe, Int.reduceMul, Nat.reduceBEq, Nat.reduceBNe, Nat.reduceLT, Nat.reduceLeDiff, Nat.reduceMul, Nat.reduceEqDiff, WD, effB, effH, isPriv, isHeap, isImm, zbx, zby, zbz, chkO, setD, dslot, zca, zcb, zcc, zcd, ptrCells_some, F32, alts32_1]
  cases h : decide (x.1 < 0)
  · simp only [WW, partV, eqCells, eqLf, minV, maxV, ifcV, zaa, zab, zac, zad, zae, zaf, zag, zah, zai, ofConst, ofConst1, List.replicate, zaj, zak, loadOp, Go.Abs.loadCells, binV, zal, pickV, zam, zan, zao, zap, zaq, zar, zas, zat, zau, outR, resAll, resOne, zav, zaw, zax, zay, zaz, zba, zbb, zbc, zbd, zbe, zbf, zbg, zbh, zbi, zbj, zbk, storeOp, storeCell, overlay, zbl, zbm, zbn, lookupOp, keyT, okRes, mapUpdateOp, zbo, zbp, zbq, zbr, zbs, zbt, zbu, Nat.reduceSub, Nat.reduceAdd, Int.reduceLT, Int.reduceLE, Int.reduceAdd, Int.reduceSub, Int.reduceToNat, Int.reduceBEq, Int.reduceBNe, Int.reduceMul, Nat.reduceBEq, Nat.reduceBNe, Nat.reduceLT, Nat.reduceLeDiff, Nat.reduceMul, Nat.reduceEqDiff, WD, effB, effH, isPriv, isHeap, isImm, zbx, zby, zbz, chkO, setD, dslot, zca, zcb, zcc, zcd, ptrCells_some, F32, hd]
    simp
  · simp only [WW, partV, eqCells, eqLf, minV, maxV, ifcV, zaa, zab, zac, zad, zae, zaf, zag, zah, zai, ofConst, ofConst1, List.replicate, zaj, zak, loadOp, Go.Abs.loadCells, binV, zal, pickV, zam, zan, zao, zap, zaq, zar, zas, zat, zau, outR, resAll, resOne, zav, zaw, zax, zay, zaz, zba, zbb, zbc, zbd, zbe, zbf, zbg, zbh, zbi, zbj, zbk, storeOp, storeCell, overlay, zbl, zbm, zbn, lookupOp, keyT, okRes, mapUpdateOp, zbo, zbp, zbq, zbr, zbs, zbt, zbu, Nat.reduceSub, Nat.reduceAdd, Int.reduceLT, Int.reduceLE, Int.reduceAdd, Int.reduceSub, Int.reduceToNat, Int.reduceBEq, Int.reduceBNe, Int.reduceMul, Nat.reduceBEq, Nat.reduceBNe, Nat.reduceLT, Nat.reduceLeDiff, Nat.reduceMul, Nat.reduceEqDiff, WD, effB, effH, isPriv, isHeap, isImm, zbx, zby, zbz, chkO, setD, dslot, zca, zcb, zcc, zcd, ptrCells_some, F32]
    simp
end Go.Proofs.Ytfjbgmcdkhepkaa

namespace Go.Proofs.Ytfjbgmcdkhepkaa
open Go Go.Abs Go.Proofs
set_option maxRecDepth 100000
set_option maxHeartbeats 2000000
set_option linter.unusedVariables false
set_option linter.unusedSimpArgs false
/-! ### keys, each once -/
def dedupR (xs : List Int) : List Int := xs.foldl (fun a x => if x ∈ a then a else a ++ [x]) []
theorem dedupR_snoc (xs : List Int) (x : Int) : dedupR (xs ++ [x]) = if x ∈ dedupR xs then dedupR xs else dedupR xs ++ [x] := by
  unfold dedupR; rw [List.foldl_append]; rfl
def entV (p : Int × Int) : V × V := (.int .i64 p.1, .int .i64 p.2)
theorem findK_ent (k : Int) : ∀ (m : List (Int × Int)) (i : Nat), findK (.int .i64 k) (m.map entV) i = some ((m.findIdx? (fun p => k == p.1)).map (· + i))
  | [], i => rfl
  | p :: m, i => by
    simp only [List.map_cons, findK, entV, eqV, if_true]
    cases h : (k == p.1) with
    | true => simp [List.findIdx?_cons, h]
    | false =>
      simp only
      rw [findK_ent k m (i + 1)]
      rw [List.findIdx?_cons]
      simp only [h]
      cases m.findIdx? (fun p => k == p.1) with
      | none => simp
      | some j => simp; omega
theorem set_last {α : Type} (l : List α) (x y : α) : (l ++ [x]).set l.length y = l ++ [y] := by
  rw [List.set_append]; simp
theorem unique_eq (l : List (Int × Int)) (x : V) (H : Hp) (hx : Rd H x (l.map depV)) (hlen : l.length < 4611686018427387904) :
    wpCall EW 33 [x, .fn 34 [] []] H (fun out H' => out = .ret (.bool (decide ((dedupR (l.map (·.1))).length = l.length))) false ∧ ∃ e, H' = H ++ [e]) := by
  refine runs f33 b33 r33 n33 _ _ ?_
  simp only [bodyOf, Try.f33, Option.getD_some]
  have hxa : ∀ e, Rd (H ++ e) x (l.map depV) := fun e => hx.app e
  simp only [WW, partV, eqCells, eqLf, minV, maxV, ifcV, zaa, zab, zac, zad, zae, zaf, zag, zah, zai, ofConst, ofConst1, List.replicate, zaj, zak, loadOp, Go.Abs.loadCells, binV, zal, pickV, zam, zan, zao, zap, zaq, zar, zas, zat, zau, outR, resAll, resOne, zav, zaw, zax, zay, zaz, zba, zbb, zbc, zbd, zbe, zbf, zbg, zbh, zbi, zbj, zbk, storeOp, storeCell, overlay, zbl, zbm, zbn, lookupOp, keyT, okRes, mapUpdateOp, zbo, zbp, zbq, zbr, zbs, zbt, zbu, Nat.reduceSub, Nat.reduceAdd, Int.reduceLT, Int.reduceLE, Int.reduceAdd, Int.reduceSub, Int.reduceToNat, Int.reduceBEq, Int.reduceBNe, Int.reduceMul, Nat.reduceBEq, Nat.reduceBNe, Nat.reduceLT, Nat.reduceLeDiff, Nat.reduceMul, Nat.reduceEqDiff, WD, effB, effH, isPriv, isHeap, isImm, zbx, zby, zbz, chkO, setD, dslot, zca, zcb, zcc, zcd, ptrCells_some, F33, hx.shutIn, (hxa _).len, call34]
  refine wC_loop _ (fun n st H' => ∃ (i : Nat) (m : List (Int × Int)), st = ⟨L33_3 (.v x) (.v (.fn 34 [] [])) (.v (.map H.length)) (.v x) (.v (.int .i64 l.length)) (.v (.int .i64 i)), [], []⟩ ∧ H' = H ++ [.map (m.map entV)] ∧ i ≤ l.length ∧ n = l.length - i ∧
    m.map (·.1) = dedupR ((l.take i).map (·.1))) l.length ⟨0, [], ?_, rfl, by omega, by omega, rfl⟩ ?_
  · simp only [WN, firstReg, growAll, zbv, zbw, norm, killS, zag, zah, zaa, zab, zbl, zat, zad, growOne, zae, zaf, zac, zas, zak, Nat.reduceLT, Nat.reduceAdd, zbj, zav, F33, call34, L33_3, hx.clip2, List.length_map]; rfl
  · rintro n st H' ⟨i, m, rfl, rfl, hi, hn, hm⟩
    simp only [L33_3]
    simp only [WW, partV, eqCells, eqLf, minV, maxV, ifcV, zaa, zab, zac, zad, zae, zaf, zag, zah, zai, ofConst, ofConst1, List.replicate, zaj, zak, loadOp, Go.Abs.loadCells, binV, zal, pickV, zam, zan, zao, zap, zaq, zar, zas, zat, zau, outR, resAll, resOne, zav, zaw, zax, zay, zaz, zba, zbb, zbc, zbd, zbe, zbf, zbg, zbh, zbi, zbj, zbk, storeOp, storeCell, overlay, zbl, zbm, zbn, lookupOp, keyT, okRes, mapUpdateOp, zbo, zbp, zbq, zbr, zbs, zbt, zbu, Nat.reduceSub, Nat.reduceAdd, Int.reduceLT, Int.reduceLE, Int.reduceAdd, Int.reduceSub, Int.reduceToNat, Int.reduceBEq, Int.reduceBNe, Int.reduceMul, Nat.reduceBEq, Nat.reduceBNe, Nat.reduceLT, Nat.reduceLeDiff, Nat.reduceMul, Nat.reduceEqDiff, WD, effB, effH, isPriv, isHeap, isImm, zbx, zby, zbz, chkO, setD, dslot, zca, zcb, zcc, zcd, ptrCells_some, F33, call34]
    refine cStep_of (fun hlt => ?_) (fun hge => ?_)
    · have hi2 : i < l.length := by simpa using hlt
      obtain ⟨d, hd⟩ : ∃ d, l[i]? = some d := ⟨_, List.getElem?_eq_getElem hi2⟩
      have hat := depAt (hxa [.map (m.map entV)]) hd
      simp only [WW, partV, eqCells, eqLf, minV, maxV, ifcV, zaa, zab, zac, zad, zae, zaf, zag, zah, zai, ofConst, ofConst1, List.replicate, zaj, zak, loadOp, Go.Abs.loadCells, binV, zal, pickV, zam, zan, zao, zap, zaq, zar, zas, zat, zau, outR, resAll, resOne, zav, zaw, zax, zay, zaz, zba, zbb, zbc, zbd, zbe, zbf, zbg, zbh, zbi, zbj, zbk, storeOp, storeCell, overlay, zbl, zbm, zbn, lookupOp, keyT, okRes, mapUpdateOp, zbo, zbp, zbq, zbr, zbs, zbt, zbu, Nat.reduceSub, Nat.reduceAdd, Int.reduceLT, Int.reduceLE, Int.reduceAdd, Int.reduceSub, Int.reduceToNat, Int.reduceBEq, Int.reduceBNe, Int.reduceMul, Nat.reduceBEq, Nat.reduceBNe, Nat.reduceLT, Nat.reduceLeDiff, Nat.reduceMul, Nat.reduceEqDiff, WD, effB, effH, isPriv, isHeap, isImm, zbx, zby, zbz, chkO, setD, dslot, zca, zcb, zcc, zcd, ptrCells_some, F33, call34, hx.shutIn, hat.at1 (hxa _), hat.cells, depV]
      have h1 := key_eq d (H ++ [.map (m.map entV)])
      simp only [depV] at h1
      rw [wpCall_eq h1]
      have hdec : dedupR ((l.take (i + 1)).map (·.1)) = if d.1 ∈ dedupR ((l.take i).map (·.1)) then dedupR ((l.take i).map (·.1)) else dedupR ((l.take i).map (·.1)) ++ [d.1] := by
        rw [List.take_add_one, hd, Option.toList_some, List.map_append, List.map_cons, List.map_nil, dedupR_snoc]
      cases hf : m.findIdx? (fun p => d.1 == p.1) with
      | none =>
        simp only [WW, partV, eqCells, eqLf, minV, maxV, ifcV, zaa, zab, zac, zad, zae, zaf, zag, zah, zai, ofConst, ofConst1, List.replicate, zaj, zak, loadOp, Go.Abs.loadCells, binV, zal, pickV, zam, zan, zao, zap, zaq, zar, zas, zat, zau, outR, resAll, resOne, zav, zaw, zax, zay, zaz, zba, zbb, zbc, zbd, zbe, zbf, zbg, zbh, zbi, zbj, zbk, storeOp, storeCell, overlay, zbl, zbm, zbn, lookupOp, keyT, okRes, mapUpdateOp, zbo, zbp, zbq, zbr, zbs, zbt, zbu, Nat.reduceSub, Nat.reduceAdd, Int.reduceLT, Int.reduceLE, Int.reduceAdd, Int.reduceSub, Int.reduceToNat, Int.reduceBEq, Int.reduceBNe, Int.reduceMul, Nat.reduceBEq, Nat.reduceBNe, Nat.reduceLT, Nat.reduceLeDiff, Nat.reduceMul, Nat.reduceEqDiff, WD, effB, effH, isPriv, isHeap, isImm, zbx, zby, zbz, chkO, setD, dslot, zca, zcb, zcc, zcd, ptrCells_some, F33, call34, List.getElem?_concat_length, findK_ent, hf, Option.map_none, set_last]
        refine ⟨n - 1, by omega, i + 1, m ++ [(d.1, 1)], ?_, ?_, by omega, by omega, ?_⟩
        · simp only [WN, firstReg, growAll, zbv, zbw, norm, killS, zag, zah, zaa, zab, zbl, zat, zad, growOne, zae, zaf, zac, zas, zak, Nat.reduceLT, Nat.reduceAdd, zbj, zav, F33, call34, hx.clip2]
          rw [IntWalk.i64_in _ (by omega)]; rfl
        · rw [List.map_append]; rfl
        · rw [List.findIdx?_eq_none_iff] at hf
          rw [hdec, if_neg, List.map_append, hm]; rfl
          intro hin
          rw [← hm, List.mem_map] at hin
          obtain ⟨p, hp, e⟩ := hin
          have := hf p hp
          rw [e] at this; simp at this
      | some j =>
        obtain ⟨hj, hpj, _⟩ := List.findIdx?_eq_some_iff_getElem.1 hf
        have hk : d.1 = m[j].1 := by simpa using hpj
        have hg : ((m.map entV).getD j (.undef, .undef)).2 = .int .i64 m[j].2 := by
          rw [List.getD_eq_getElem?_getD, List.getElem?_map, List.getElem?_eq_getElem hj]; rfl
        simp only [WW, partV, eqCells, eqLf, minV, maxV, ifcV, zaa, zab, zac, zad, zae, zaf, zag, zah, zai, ofConst, ofConst1, List.replicate, zaj, zak, loadOp, Go.Abs.loadCells, binV, zal, pickV, zam, zan, zao, zap, zaq, zar, zas, zat, zau, outR, resAll, resOne, zav, zaw, zax, zay, zaz, zba, zbb, zbc, zbd, zbe, zbf, zbg, zbh, zbi, zbj, zbk, storeOp, storeCell, overlay, zbl, zbm, zbn, lookupOp, keyT, okRes, mapUpdateOp, zbo, zbp, zbq, zbr, zbs, zbt, zbu, Nat.reduceSub, Nat.reduceAdd, Int.reduceLT, Int.reduceLE, Int.reduceAdd, Int.reduceSub, Int.reduceToNat, Int.reduceBEq, Int.reduceBNe, Int.reduceMul, Nat.reduceBEq, Nat.reduceBNe, Nat.reduceLT, Nat.reduceLeDiff, Nat.reduceMul, Nat.reduceEqDiff, WD, effB, effH, isPriv, isHeap, isImm, zbx, zby, zbz, chkO, setD, dslot, zca, zcb, zcc, zcd, ptrCells_some, F33, call34, List.getElem?_concat_length, findK_ent, hf, hg, set_last]
        refine ⟨n - 1, by omega, i + 1, m.set j (d.1, IntKind.i64.wrap (m[j].2 + 1)), ?_, ?_, by omega, by omega, ?_⟩
        · simp only [WN, firstReg, growAll, zbv, zbw, norm, killS, zag, zah, zaa, zab, zbl, zat, zad, growOne, zae, zaf, zac, zas, zak, Nat.reduceLT, Nat.reduceAdd, zbj, zav, F33, call34, hx.clip2]
          rw [IntWalk.i64_in _ (by omega)]; rfl
        · rw [List.map_set]; rfl
        · rw [hdec, if_pos, List.map_set, ← hm]
          · rw [hk]
            refine List.ext_getElem? fun k => ?_
            rw [List.getElem?_set]
            split
            · rename_i e; subst e
              simp [hj]
            · rfl
          · rw [← hm, hk]
            exact List.mem_map.2 ⟨m[j], List.getElem_mem hj, rfl⟩
    · have hi2 : i = l.length := by simp at hge; omega
      simp only [WW, partV, eqCells, eqLf, minV, maxV, ifcV, zaa, zab, zac, zad, zae, zaf, zag, zah, zai, ofConst, ofConst1, List.replicate, zaj, zak, loadOp, Go.Abs.loadCells, binV, zal, pickV, zam, zan, zao, zap, zaq, zar, zas, zat, zau, outR, resAll, resOne, zav, zaw, zax, zay, zaz, zba, zbb, zbc, zbd, zbe, zbf, zbg, zbh, zbi, zbj, zbk, storeOp, storeCell, overlay, zbl, zbm, zbn, lookupOp, keyT, okRes, mapUpdateOp, zbo, zbp, zbq, zbr, zbs, zbt, zbu, Nat.reduceSub, Nat.reduceAdd, Int.reduceLT, Int.reduceLE, Int.reduceAdd, Int.reduceSub, Int.reduceToNat, Int.reduceBEq, Int.reduceBNe, Int.reduceMul, Nat.reduceBEq, Nat.reduceBNe, Nat.reduceLT, Nat.reduceLeDiff, Nat.reduceMul, Nat.reduceEqDiff, WD, effB, effH, isPriv, isHeap, isImm, zbx, zby, zbz, chkO, setD, dslot, zca, zcb, zcc, zcd, ptrCells_some, F33, call34, List.getElem?_concat_length, lenMap_some, hx.shutIn, (hxa _).len]
      subst hi2
      rw [List.take_length] at hm
      have : m.length = (dedupR (l.map (·.1))).length := by rw [← hm, List.length_map]
      refine ⟨?_, _, rfl⟩
      rw [this]
      congr 2
      rw [Bool.eq_iff_iff]
      simp only [decide_eq_true_eq, beq_iff_eq]
      omega
end Go.Proofs.Ytfjbgmcdkhepkaa

namespace Go.Proofs.Ytfjbgmcdkhepkaa
open Go Go.Abs Go.Proofs
set_option maxRecDepth 100000
set_option maxHeartbeats 2000000
set_option linter.unusedVariables false
set_option linter.unusedSimpArgs false
/-- A version, where it lies. -/
structure Ver where
  id : Nat
  f : Int
  on : V
  l : List (Int × Int)
  ok : Bool
def verV (v : Ver) : V := .agg [.int .i64 v.f, v.on, .bool v.ok]
def ptrV (v : Ver) : V := .ptr v.id 0 0
/-- The registry, as it lies in the heap. -/
structure Reg (H : Hp) (d c : Nat) (g : Int) (cnt : List Int) (all : List Ver) : Prop where
  ex : ∃ al, H[d]? = some (.cells [.agg [.int .i64 g, al, .sl c 0 cnt.length]]) ∧ ((al = .nils ∧ all = []) ∨ (∃ rid ns, al = .hr rid all.length ∧ H[rid]? = some (.row ns (all.map ptrV)) ∧ all ≠ []))
  cn : H[c]? = some (.cells (cnt.map (.int .i64)))
  vs : ∀ v ∈ all, H[v.id]? = some (.cells [verV v]) ∧ IsDeps v.on v.l ∧ v.l.length < 4294967296
  nd : (all.map (·.id)).Nodup
  nc : d ≠ c ∧ d ∉ all.map (·.id) ∧ c ∉ all.map (·.id)
  len : all.length < 4294967296
  cl : cnt.length < 4294967296
theorem view_hr {H : Hp} {rid n : Nat} {ns : Bool} {es : List V} (h : H[rid]? = some (.row ns es)) (hn : n = es.length) (he : es ≠ []) : viewV H (.hr rid n) = .rsl es := by
  subst hn
  have : es.length ≠ 0 := by simpa using he
  simp only [viewV, h, rowV]
  rw [if_neg (by simp [this]), List.take_length]
theorem sealOn {v : V} {l : List (Int × Int)} (h : IsDeps v l) (st : St) : sealV st v = v := by cases h <;> rfl
theorem wrong_eq {H : Hp} {d c : Nat} {g : Int} {cnt : List Int} {all : List Ver} (R : Reg H d c g cnt all) (f : Int) (x : V) (l : List (Int × Int)) (hx : Rd H x (l.map depV)) (hlen : l.length < 4611686018427387904) :
    wpCall EW 24 [.ptr d 0 0, .int .i64 f, x] H (fun out H' => out = .ret (.bool (decide (f < 0) || decide ((cnt.length : Int) ≤ f) || (l.any fun y => decide (y.1 < 0) || decide (y.1 ≥ g)) || !decide ((dedupR (l.map (·.1))).length = l.length))) false ∧ ∃ e, H' = H ++ e) := by
  obtain ⟨al, ho, _⟩ := R.ex
  have sx := hx.shutIn
  refine runs f24 b24 r24 n24 _ _ ?_
  simp only [bodyOf, Try.f24, Option.getD_some]
  simp only [WW, partV, eqCells, eqLf, minV, maxV, ifcV, zaa, zab, zac, zad, zae, zaf, zag, zah, zai, ofConst, ofConst1, List.replicate, zaj, zak, loadOp, Go.Abs.loadCells, binV, zal, pickV, zam, zan, zao, zap, zaq, zar, zas, zat, zau, outR, resAll, resOne, zav, zaw, zax, zay, zaz, zba, zbb, zbc, zbd, zbe, zbf, zbg, zbh, zbi, zbj, zbk, storeOp, storeCell, overlay, zbl, zbm, zbn, lookupOp, keyT, okRes, mapUpdateOp, zbo, zbp, zbq, zbr, zbs, zbt, zbu, Nat.reduceSub, Nat.reduceAdd, Int.reduceLT, Int.reduceLE, Int.reduceAdd, Int.reduceSub, Int.reduceToNat, Int.reduceBEq, Int.reduceBNe, Int.reduceMul, Nat.reduceBEq, Nat.reduceBNe, Nat.reduceLT, Nat.reduceLeDiff, Nat.reduceMul, Nat.reduceEqDiff, WD, effB, effH, isPriv, isHeap, isImm, zbx, zby, zbz, chkO, setD, dslot, zca, zcb, zcc, zcd, ptrCells_some, F24, sx]
  cases h0 : decide (f < 0) with
  | true =>
    simp only [WW, partV, eqCells, eqLf, minV, maxV, ifcV, zaa, zab, zac, zad, zae, zaf, zag, zah, zai, ofConst, ofConst1, List.replicate, zaj, zak, loadOp, Go.Abs.loadCells, binV, zal, pickV, zam, zan, zao, zap, zaq, zar, zas, zat, zau, outR, resAll, resOne, zav, zaw, zax, zay, zaz, zba, zbb, zbc, zbd, zbe, zbf, zbg, zbh, zbi, zbj, zbk, storeOp, storeCell, overlay, zbl, zbm, zbn, lookupOp, keyT, okRes, mapUpdateOp, zbo, zbp, zbq, zbr, zbs, zbt, zbu, Nat.reduceSub, Nat.reduceAdd, Int.reduceLT, Int.reduceLE, Int.reduceAdd, Int.reduceSub, Int.reduceToNat, Int.reduceBEq, Int.reduceBNe, Int.reduceMul, Nat.reduceBEq, Nat.reduceBNe, Nat.reduceLT, Nat.reduceLeDiff, Nat.reduceMul, Nat.reduceEqDiff, WD, effB, effH, isPriv, isHeap, isImm, zbx, zby, zbz, chkO, setD, dslot, zca, zcb, zcc, zcd, ptrCells_some, F24, sx]
    exact ⟨by simp, [], by simp⟩
  | false =>
    simp only [WW, partV, eqCells, eqLf, minV, maxV, ifcV, zaa, zab, zac, zad, zae, zaf, zag, zah, zai, ofConst, ofConst1, List.replicate, zaj, zak, loadOp, Go.Abs.loadCells, binV, zal, pickV, zam, zan, zao, zap, zaq, zar, zas, zat, zau, outR, resAll, resOne, zav, zaw, zax, zay, zaz, zba, zbb, zbc, zbd, zbe, zbf, zbg, zbh, zbi, zbj, zbk, storeOp, storeCell, overlay, zbl, zbm, zbn, lookupOp, keyT, okRes, mapUpdateOp, zbo, zbp, zbq, zbr, zbs, zbt, zbu, Nat.reduceSub, Nat.reduceAdd, Int.reduceLT, Int.reduceLE, Int.reduceAdd, Int.reduceSub, Int.reduceToNat, Int.reduceBEq, Int.reduceBNe, Int.reduceMul, Nat.reduceBEq, Nat.reduceBNe, Nat.reduceLT, Nat.reduceLeDiff, Nat.reduceMul, Nat.reduceEqDiff, WD, effB, effH, isPriv, isHeap, isImm, zbx, zby, zbz, chkO, setD, dslot, zca, zcb, zcc, zcd, ptrCells_some, F24, sx, ho]
    refine cStep_of (fun h1 => ?_) (fun h1 => ?_)
    · simp only [WW, partV, eqCells, eqLf, minV, maxV, ifcV, zaa, zab, zac, zad, zae, zaf, zag, zah, zai, ofConst, ofConst1, List.replicate, zaj, zak, loadOp, Go.Abs.loadCells, binV, zal, pickV, zam, zan, zao, zap, zaq, zar, zas, zat, zau, outR, resAll, resOne, zav, zaw, zax, zay, zaz, zba, zbb, zbc, zbd, zbe, zbf, zbg, zbh, zbi, zbj, zbk, storeOp, storeCell, overlay, zbl, zbm, zbn, lookupOp, keyT, okRes, mapUpdateOp, zbo, zbp, zbq, zbr, zbs, zbt, zbu, Nat.reduceSub, Nat.reduceAdd, Int.reduceLT, Int.reduceLE, Int.reduceAdd, Int.reduceSub, Int.reduceToNat, Int.reduceBEq, Int.reduceBNe, Int.reduceMul, Nat.reduceBEq, Nat.reduceBNe, Nat.reduceLT, Nat.reduceLeDiff, Nat.reduceMul, Nat.reduceEqDiff, WD, effB, effH, isPriv, isHeap, isImm, zbx, zby, zbz, chkO, setD, dslot, zca, zcb, zcc, zcd, ptrCells_some, F24, sx]
      exact ⟨by simp [h1], [], by simp⟩
    · simp only [WW, partV, eqCells, eqLf, minV, maxV, ifcV, zaa, zab, zac, zad, zae, zaf, zag, zah, zai, ofConst, ofConst1, List.replicate, zaj, zak, loadOp, Go.Abs.loadCells, binV, zal, pickV, zam, zan, zao, zap, zaq, zar, zas, zat, zau, outR, resAll, resOne, zav, zaw, zax, zay, zaz, zba, zbb, zbc, zbd, zbe, zbf, zbg, zbh, zbi, zbj, zbk, storeOp, storeCell, overlay, zbl, zbm, zbn, lookupOp, keyT, okRes, mapUpdateOp, zbo, zbp, zbq, zbr, zbs, zbt, zbu, Nat.reduceSub, Nat.reduceAdd, Int.reduceLT, Int.reduceLE, Int.reduceAdd, Int.reduceSub, Int.reduceToNat, Int.reduceBEq, Int.reduceBNe, Int.reduceMul, Nat.reduceBEq, Nat.reduceBNe, Nat.reduceLT, Nat.reduceLeDiff, Nat.reduceMul, Nat.reduceEqDiff, WD, effB, effH, isPriv, isHeap, isImm, zbx, zby, zbz, chkO, setD, dslot, zca, zcb, zcc, zcd, ptrCells_some, F24, sx]
      have hc := containsFunc l (fun y => decide (y.1 < 0) || decide (y.1 ≥ g)) 32 [] [.ept (.ptr d 0 0) 0] H call32 hlen (fun y _ => by simpa using wrong1 y d g al _ H ho) x hx
      rw [wpCall_eq hc]
      simp only [WW, partV, eqCells, eqLf, minV, maxV, ifcV, zaa, zab, zac, zad, zae, zaf, zag, zah, zai, ofConst, ofConst1, List.replicate, zaj, zak, loadOp, Go.Abs.loadCells, binV, zal, pickV, zam, zan, zao, zap, zaq, zar, zas, zat, zau, outR, resAll, resOne, zav, zaw, zax, zay, zaz, zba, zbb, zbc, zbd, zbe, zbf, zbg, zbh, zbi, zbj, zbk, storeOp, storeCell, overlay, zbl, zbm, zbn, lookupOp, keyT, okRes, mapUpdateOp, zbo, zbp, zbq, zbr, zbs, zbt, zbu, Nat.reduceSub, Nat.reduceAdd, Int.reduceLT, Int.reduceLE, Int.reduceAdd, Int.reduceSub, Int.reduceToNat, Int.reduceBEq, Int.reduceBNe, Int.reduceMul, Nat.reduceBEq, Nat.reduceBNe, Nat.reduceLT, Nat.reduceLeDiff, Nat.reduceMul, Nat.reduceEqDiff, WD, effB, effH, isPriv, isHeap, isImm, zbx, zby, zbz, chkO, setD, dslot, zca, zcb, zcc, zcd, ptrCells_some, F24, sx]
      refine cStep_of (fun h2 => ?_) (fun h2 => ?_)
      · simp only [WW, partV, eqCells, eqLf, minV, maxV, ifcV, zaa, zab, zac, zad, zae, zaf, zag, zah, zai, ofConst, ofConst1, List.replicate, zaj, zak, loadOp, Go.Abs.loadCells, binV, zal, pickV, zam, zan, zao, zap, zaq, zar, zas, zat, zau, outR, resAll, resOne, zav, zaw, zax, zay, zaz, zba, zbb, zbc, zbd, zbe, zbf, zbg, zbh, zbi, zbj, zbk, storeOp, storeCell, overlay, zbl, zbm, zbn, lookupOp, keyT, okRes, mapUpdateOp, zbo, zbp, zbq, zbr, zbs, zbt, zbu, Nat.reduceSub, Nat.reduceAdd, Int.reduceLT, Int.reduceLE, Int.reduceAdd, Int.reduceSub, Int.reduceToNat, Int.reduceBEq, Int.reduceBNe, Int.reduceMul, Nat.reduceBEq, Nat.reduceBNe, Nat.reduceLT, Nat.reduceLeDiff, Nat.reduceMul, Nat.reduceEqDiff, WD, effB, effH, isPriv, isHeap, isImm, zbx, zby, zbz, chkO, setD, dslot, zca, zcb, zcc, zcd, ptrCells_some, F24, sx]
        exact ⟨by rw [h2]; simp, [], by simp⟩
      · simp only [WW, partV, eqCells, eqLf, minV, maxV, ifcV, zaa, zab, zac, zad, zae, zaf, zag, zah, zai, ofConst, ofConst1, List.replicate, zaj, zak, loadOp, Go.Abs.loadCells, binV, zal, pickV, zam, zan, zao, zap, zaq, zar, zas, zat, zau, outR, resAll, resOne, zav, zaw, zax, zay, zaz, zba, zbb, zbc, zbd, zbe, zbf, zbg, zbh, zbi, zbj, zbk, storeOp, storeCell, overlay, zbl, zbm, zbn, lookupOp, keyT, okRes, mapUpdateOp, zbo, zbp, zbq, zbr, zbs, zbt, zbu, Nat.reduceSub, Nat.reduceAdd, Int.reduceLT, Int.reduceLE, Int.reduceAdd, Int.reduceSub, Int.reduceToNat, Int.reduceBEq, Int.reduceBNe, Int.reduceMul, Nat.reduceBEq, Nat.reduceBNe, Nat.reduceLT, Nat.reduceLeDiff, Nat.reduceMul, Nat.reduceEqDiff, WD, effB, effH, isPriv, isHeap, isImm, zbx, zby, zbz, chkO, setD, dslot, zca, zcb, zcc, zcd, ptrCells_some, F24, sx]
        refine wpCall_of (unique_eq l x H hx hlen) ?_
        rintro out H' ⟨rfl, e, rfl⟩
        simp only [WW, partV, eqCells, eqLf, minV, maxV, ifcV, zaa, zab, zac, zad, zae, zaf, zag, zah, zai, ofConst, ofConst1, List.replicate, zaj, zak, loadOp, Go.Abs.loadCells, binV, zal, pickV, zam, zan, zao, zap, zaq, zar, zas, zat, zau, outR, resAll, resOne, zav, zaw, zax, zay, zaz, zba, zbb, zbc, zbd, zbe, zbf, zbg, zbh, zbi, zbj, zbk, storeOp, storeCell, overlay, zbl, zbm, zbn, lookupOp, keyT, okRes, mapUpdateOp, zbo, zbp, zbq, zbr, zbs, zbt, zbu, Nat.reduceSub, Nat.reduceAdd, Int.reduceLT, Int.reduceLE, Int.reduceAdd, Int.reduceSub, Int.reduceToNat, Int.reduceBEq, Int.reduceBNe, Int.reduceMul, Nat.reduceBEq, Nat.reduceBNe, Nat.reduceLT, Nat.reduceLeDiff, Nat.reduceMul, Nat.reduceEqDiff, WD, effB, effH, isPriv, isHeap, isImm, zbx, zby, zbz, chkO, setD, dslot, zca, zcb, zcc, zcd, ptrCells_some, F24, sx]
        refine ⟨?_, [e], rfl⟩
        rw [h1, h2]; simp
theorem of_nil (f : Int) (H : Hp) : EW 22 [.nilp, .int .i64 f] H = some (.ret (.tup [.int .i64 0, .bool false]) false, H) := by
  refine eqOf (runs f22 b22 r22 n22 _ _ ?_)
  simp only [bodyOf, Try.f22, Option.getD_some]
  simp only [WW, partV, eqCells, eqLf, minV, maxV, ifcV, zaa, zab, zac, zad, zae, zaf, zag, zah, zai, ofConst, ofConst1, List.replicate, zaj, zak, loadOp, Go.Abs.loadCells, binV, zal, pickV, zam, zan, zao, zap, zaq, zar, zas, zat, zau, outR, resAll, resOne, zav, zaw, zax, zay, zaz, zba, zbb, zbc, zbd, zbe, zbf, zbg, zbh, zbi, zbj, zbk, storeOp, storeCell, overlay, zbl, zbm, zbn, lookupOp, keyT, okRes, mapUpdateOp, zbo, zbp, zbq, zbr, zbs, zbt, zbu, Nat.reduceSub, Nat.reduceAdd, Int.reduceLT, Int.reduceLE, Int.reduceAdd, Int.reduceSub, Int.reduceToNat, Int.reduceBEq, Int.reduceBNe, Int.reduceMul, Nat.reduceBEq, Nat.reduceBNe, Nat.reduceLT, Nat.reduceLeDiff, Nat.reduceMul, Nat.reduceEqDiff, WD, effB, effH, isPriv, isHeap, isImm, zbx, zby, zbz, chkO, setD, dslot, zca, zcb, zcc, zcd, ptrCells_some, F22]
def findV (all : List Ver) (f : Int) : V := match all.findIdx? (fun v => v.ok && v.f == f) with | some i => .tup [.int .i64 i, .bool true] | none => .tup [.int .i64 0, .bool false]
theorem of_eq {H : Hp} {d c : Nat} {g : Int} {cnt : List Int} {all : List Ver} (R : Reg H d c g cnt all) (f : Int) :
    EW 22 [.ptr d 0 0, .int .i64 f] H = some (.ret (findV all f) false, H) := by
  obtain ⟨al, ho, ha⟩ := R.ex
  refine eqOf (runs f22 b22 r22 n22 _ _ ?_)
  simp only [bodyOf, Try.f22, Option.getD_some]
  rcases ha with ⟨rfl, rfl⟩ | ⟨rid, ns, rfl, hrow, hne⟩
  · simp only [WW, partV, eqCells, eqLf, minV, maxV, ifcV, zaa, zab, zac, zad, zae, zaf, zag, zah, zai, ofConst, ofConst1, List.replicate, zaj, zak, loadOp, Go.Abs.loadCells, binV, zal, pickV, zam, zan, zao, zap, zaq, zar, zas, zat, zau, outR, resAll, resOne, zav, zaw, zax, zay, zaz, zba, zbb, zbc, zbd, zbe, zbf, zbg, zbh, zbi, zbj, zbk, storeOp, storeCell, overlay, zbl, zbm, zbn, lookupOp, keyT, okRes, mapUpdateOp, zbo, zbp, zbq, zbr, zbs, zbt, zbu, Nat.reduceSub, Nat.reduceAdd, Int.reduceLT, Int.reduceLE, Int.reduceAdd, Int.reduceSub, Int.reduceToNat, Int.reduceBEq, Int.reduceBNe, Int.reduceMul, Nat.reduceBEq, Nat.reduceBNe, Nat.reduceLT, Nat.reduceLeDiff, Nat.reduceMul, Nat.reduceEqDiff, WD, effB, effH, isPriv, isHeap, isImm, zbx, zby, zbz, chkO, setD, dslot, zca, zcb, zcc, zcd, ptrCells_some, F22, ho]
    refine wC_loop _ (fun n st H' => st = ⟨L22_4 (.v (.int .i64 f)) (.v .nils) (.v (.int .i64 0)) (.v (.int .i64 0)), [], []⟩ ∧ H' = H) 0 ⟨?_, rfl⟩ ?_
    · simp only [WN, firstReg, growAll, zbv, zbw, norm, killS, zag, zah, zaa, zab, zbl, zat, zad, growOne, zae, zaf, zac, zas, zak, Nat.reduceLT, Nat.reduceAdd, zbj, zav, F22, L22_4]
    · rintro n st H' ⟨rfl, rfl⟩
      simp only [L22_4, WW, partV, eqCells, eqLf, minV, maxV, ifcV, zaa, zab, zac, zad, zae, zaf, zag, zah, zai, ofConst, ofConst1, List.replicate, zaj, zak, loadOp, Go.Abs.loadCells, binV, zal, pickV, zam, zan, zao, zap, zaq, zar, zas, zat, zau, outR, resAll, resOne, zav, zaw, zax, zay, zaz, zba, zbb, zbc, zbd, zbe, zbf, zbg, zbh, zbi, zbj, zbk, storeOp, storeCell, overlay, zbl, zbm, zbn, lookupOp, keyT, okRes, mapUpdateOp, zbo, zbp, zbq, zbr, zbs, zbt, zbu, Nat.reduceSub, Nat.reduceAdd, Int.reduceLT, Int.reduceLE, Int.reduceAdd, Int.reduceSub, Int.reduceToNat, Int.reduceBEq, Int.reduceBNe, Int.reduceMul, Nat.reduceBEq, Nat.reduceBNe, Nat.reduceLT, Nat.reduceLeDiff, Nat.reduceMul, Nat.reduceEqDiff, F22]
      rfl
  · have hv := view_hr (n := all.length) hrow (by simp) (by simpa using hne)
    simp only [WW, partV, eqCells, eqLf, minV, maxV, ifcV, zaa, zab, zac, zad, zae, zaf, zag, zah, zai, ofConst, ofConst1, List.replicate, zaj, zak, loadOp, Go.Abs.loadCells, binV, zal, pickV, zam, zan, zao, zap, zaq, zar, zas, zat, zau, outR, resAll, resOne, zav, zaw, zax, zay, zaz, zba, zbb, zbc, zbd, zbe, zbf, zbg, zbh, zbi, zbj, zbk, storeOp, storeCell, overlay, zbl, zbm, zbn, lookupOp, keyT, okRes, mapUpdateOp, zbo, zbp, zbq, zbr, zbs, zbt, zbu, Nat.reduceSub, Nat.reduceAdd, Int.reduceLT, Int.reduceLE, Int.reduceAdd, Int.reduceSub, Int.reduceToNat, Int.reduceBEq, Int.reduceBNe, Int.reduceMul, Nat.reduceBEq, Nat.reduceBNe, Nat.reduceLT, Nat.reduceLeDiff, Nat.reduceMul, Nat.reduceEqDiff, WD, effB, effH, isPriv, isHeap, isImm, zbx, zby, zbz, chkO, setD, dslot, zca, zcb, zcc, zcd, ptrCells_some, F22, ho]
    refine wC_loop _ (fun n st H' => ∃ i : Nat, st = ⟨L22_4 (.v (.int .i64 f)) (.v (.hr rid all.length)) (.v (.int .i64 all.length)) (.v (.int .i64 i)), [], []⟩ ∧ H' = H ∧ i ≤ all.length ∧ n = all.length - i ∧ ∀ (j : Nat) v, j < i → all[j]? = some v → (v.ok && v.f == f) = false) all.length ⟨0, ?_, rfl, by omega, by omega, fun j v hj => by omega⟩ ?_
    · simp only [WN, firstReg, growAll, zbv, zbw, norm, killS, zag, zah, zaa, zab, zbl, zat, zad, growOne, zae, zaf, zac, zas, zak, Nat.reduceLT, Nat.reduceAdd, zbj, zav, F22, L22_4]; rfl
    · rintro n st H' ⟨i, rfl, rfl, hi, hn, hno⟩
      simp only [L22_4, WW, partV, eqCells, eqLf, minV, maxV, ifcV, zaa, zab, zac, zad, zae, zaf, zag, zah, zai, ofConst, ofConst1, List.replicate, zaj, zak, loadOp, Go.Abs.loadCells, binV, zal, pickV, zam, zan, zao, zap, zaq, zar, zas, zat, zau, outR, resAll, resOne, zav, zaw, zax, zay, zaz, zba, zbb, zbc, zbd, zbe, zbf, zbg, zbh, zbi, zbj, zbk, storeOp, storeCell, overlay, zbl, zbm, zbn, lookupOp, keyT, okRes, mapUpdateOp, zbo, zbp, zbq, zbr, zbs, zbt, zbu, Nat.reduceSub, Nat.reduceAdd, Int.reduceLT, Int.reduceLE, Int.reduceAdd, Int.reduceSub, Int.reduceToNat, Int.reduceBEq, Int.reduceBNe, Int.reduceMul, Nat.reduceBEq, Nat.reduceBNe, Nat.reduceLT, Nat.reduceLeDiff, Nat.reduceMul, Nat.reduceEqDiff, F22]
      refine cStep_of (fun hlt => ?_) (fun hge => ?_)
      · have hi2 : i < all.length := by simpa using hlt
        have hd : all[i]? = some all[i] := List.getElem?_eq_getElem hi2
        generalize all[i] = v at hd
        obtain ⟨hv1, hv2, hv3⟩ := R.vs v (List.mem_of_getElem? hd)
        have hll := R.len
        simp only [WW, partV, eqCells, eqLf, minV, maxV, ifcV, zaa, zab, zac, zad, zae, zaf, zag, zah, zai, ofConst, ofConst1, List.replicate, zaj, zak, loadOp, Go.Abs.loadCells, binV, zal, pickV, zam, zan, zao, zap, zaq, zar, zas, zat, zau, outR, resAll, resOne, zav, zaw, zax, zay, zaz, zba, zbb, zbc, zbd, zbe, zbf, zbg, zbh, zbi, zbj, zbk, storeOp, storeCell, overlay, zbl, zbm, zbn, lookupOp, keyT, okRes, mapUpdateOp, zbo, zbp, zbq, zbr, zbs, zbt, zbu, Nat.reduceSub, Nat.reduceAdd, Int.reduceLT, Int.reduceLE, Int.reduceAdd, Int.reduceSub, Int.reduceToNat, Int.reduceBEq, Int.reduceBNe, Int.reduceMul, Nat.reduceBEq, Nat.reduceBNe, Nat.reduceLT, Nat.reduceLeDiff, Nat.reduceMul, Nat.reduceEqDiff, WD, effB, effH, isPriv, isHeap, isImm, zbx, zby, zbz, chkO, setD, dslot, zca, zcb, zcc, zcd, ptrCells_some, F22, hv, List.getElem?_map, hd, ptrV, hv1, verV]
        cases hok : v.ok with
        | false =>
          simp only [WW, partV, eqCells, eqLf, minV, maxV, ifcV, zaa, zab, zac, zad, zae, zaf, zag, zah, zai, ofConst, ofConst1, List.replicate, zaj, zak, loadOp, Go.Abs.loadCells, binV, zal, pickV, zam, zan, zao, zap, zaq, zar, zas, zat, zau, outR, resAll, resOne, zav, zaw, zax, zay, zaz, zba, zbb, zbc, zbd, zbe, zbf, zbg, zbh, zbi, zbj, zbk, storeOp, storeCell, overlay, zbl, zbm, zbn, lookupOp, keyT, okRes, mapUpdateOp, zbo, zbp, zbq, zbr, zbs, zbt, zbu, Nat.reduceSub, Nat.reduceAdd, Int.reduceLT, Int.reduceLE, Int.reduceAdd, Int.reduceSub, Int.reduceToNat, Int.reduceBEq, Int.reduceBNe, Int.reduceMul, Nat.reduceBEq, Nat.reduceBNe, Nat.reduceLT, Nat.reduceLeDiff, Nat.reduceMul, Nat.reduceEqDiff, WD, effB, effH, isPriv, isHeap, isImm, zbx, zby, zbz, chkO, setD, dslot, zca, zcb, zcc, zcd, ptrCells_some, F22, hv1, verV]
          refine ⟨n - 1, by omega, i + 1, ?_, by omega, by omega, fun j w hj hw => ?_⟩
          · simp only [WN, firstReg, growAll, zbv, zbw, norm, killS, zag, zah, zaa, zab, zbl, zat, zad, growOne, zae, zaf, zac, zas, zak, Nat.reduceLT, Nat.reduceAdd, zbj, zav, F22]
            rw [IntWalk.i64_in _ (by omega)]; rfl
          · by_cases e : j = i
            · subst e; rw [hd] at hw; cases hw; simp [hok]
            · exact hno j w (by omega) hw
        | true =>
          simp only [WW, partV, eqCells, eqLf, minV, maxV, ifcV, zaa, zab, zac, zad, zae, zaf, zag, zah, zai, ofConst, ofConst1, List.replicate, zaj, zak, loadOp, Go.Abs.loadCells, binV, zal, pickV, zam, zan, zao, zap, zaq, zar, zas, zat, zau, outR, resAll, resOne, zav, zaw, zax, zay, zaz, zba, zbb, zbc, zbd, zbe, zbf, zbg, zbh, zbi, zbj, zbk, storeOp, storeCell, overlay, zbl, zbm, zbn, lookupOp, keyT, okRes, mapUpdateOp, zbo, zbp, zbq, zbr, zbs, zbt, zbu, Nat.reduceSub, Nat.reduceAdd, Int.reduceLT, Int.reduceLE, Int.reduceAdd, Int.reduceSub, Int.reduceToNat, Int.reduceBEq, Int.reduceBNe, Int.reduceMul, Nat.reduceBEq, Nat.reduceBNe, Nat.reduceLT, Nat.reduceLeDiff, Nat.reduceMul, Nat.reduceEqDiff, WD, effB, effH, isPriv, isHeap, isImm, zbx, zby, zbz, chkO, setD, dslot, zca, zcb, zcc, zcd, ptrCells_some, F22, hv1, verV]
          refine cStep_of (fun h2 => ?_) (fun h2 => ?_)
          · simp only [WW, partV, eqCells, eqLf, minV, maxV, ifcV, zaa, zab, zac, zad, zae, zaf, zag, zah, zai, ofConst, ofConst1, List.replicate, zaj, zak, loadOp, Go.Abs.loadCells, binV, zal, pickV, zam, zan, zao, zap, zaq, zar, zas, zat, zau, outR, resAll, resOne, zav, zaw, zax, zay, zaz, zba, zbb, zbc, zbd, zbe, zbf, zbg, zbh, zbi, zbj, zbk, storeOp, storeCell, overlay, zbl, zbm, zbn, lookupOp, keyT, okRes, mapUpdateOp, zbo, zbp, zbq, zbr, zbs, zbt, zbu, Nat.reduceSub, Nat.reduceAdd, Int.reduceLT, Int.reduceLE, Int.reduceAdd, Int.reduceSub, Int.reduceToNat, Int.reduceBEq, Int.reduceBNe, Int.reduceMul, Nat.reduceBEq, Nat.reduceBNe, Nat.reduceLT, Nat.reduceLeDiff, Nat.reduceMul, Nat.reduceEqDiff, WD, effB, effH, isPriv, isHeap, isImm, zbx, zby, zbz, chkO, setD, dslot, zca, zcb, zcc, zcd, ptrCells_some, F22]
            have : all.findIdx? (fun v => v.ok && v.f == f) = some i := by
              rw [List.findIdx?_eq_some_iff_getElem]
              refine ⟨hi2, by rw [List.getElem?_eq_getElem hi2] at hd; cases hd; rw [hok]; simpa using h2, fun j hj => ?_⟩
              rw [hno j _ hj (List.getElem?_eq_getElem (by omega))]; simp
            unfold findV; rw [this]
          · simp only [WW, partV, eqCells, eqLf, minV, maxV, ifcV, zaa, zab, zac, zad, zae, zaf, zag, zah, zai, ofConst, ofConst1, List.replicate, zaj, zak, loadOp, Go.Abs.loadCells, binV, zal, pickV, zam, zan, zao, zap, zaq, zar, zas, zat, zau, outR, resAll, resOne, zav, zaw, zax, zay, zaz, zba, zbb, zbc, zbd, zbe, zbf, zbg, zbh, zbi, zbj, zbk, storeOp, storeCell, overlay, zbl, zbm, zbn, lookupOp, keyT, okRes, mapUpdateOp, zbo, zbp, zbq, zbr, zbs, zbt, zbu, Nat.reduceSub, Nat.reduceAdd, Int.reduceLT, Int.reduceLE, Int.reduceAdd, Int.reduceSub, Int.reduceToNat, Int.reduceBEq, Int.reduceBNe, Int.reduceMul, Nat.reduceBEq, Nat.reduceBNe, Nat.reduceLT, Nat.reduceLeDiff, Nat.reduceMul, Nat.reduceEqDiff, WD, effB, effH, isPriv, isHeap, isImm, zbx, zby, zbz, chkO, setD, dslot, zca, zcb, zcc, zcd, ptrCells_some, F22]
            refine ⟨n - 1, by omega, i + 1, ?_, by omega, by omega, fun j w hj hw => ?_⟩
            · simp only [WN, firstReg, growAll, zbv, zbw, norm, killS, zag, zah, zaa, zab, zbl, zat, zad, growOne, zae, zaf, zac, zas, zak, Nat.reduceLT, Nat.reduceAdd, zbj, zav, F22]
              rw [IntWalk.i64_in _ (by omega)]; rfl
            · by_cases e : j = i
              · subst e; rw [hd] at hw; cases hw; rw [hok]; simpa using h2
              · exact hno j w (by omega) hw
      · have hi2 : i = all.length := by simp at hge; omega
        simp only [WW, partV, eqCells, eqLf, minV, maxV, ifcV, zaa, zab, zac, zad, zae, zaf, zag, zah, zai, ofConst, ofConst1, List.replicate, zaj, zak, loadOp, Go.Abs.loadCells, binV, zal, pickV, zam, zan, zao, zap, zaq, zar, zas, zat, zau, outR, resAll, resOne, zav, zaw, zax, zay, zaz, zba, zbb, zbc, zbd, zbe, zbf, zbg, zbh, zbi, zbj, zbk, storeOp, storeCell, overlay, zbl, zbm, zbn, lookupOp, keyT, okRes, mapUpdateOp, zbo, zbp, zbq, zbr, zbs, zbt, zbu, Nat.reduceSub, Nat.reduceAdd, Int.reduceLT, Int.reduceLE, Int.reduceAdd, Int.reduceSub, Int.reduceToNat, Int.reduceBEq, Int.reduceBNe, Int.reduceMul, Nat.reduceBEq, Nat.reduceBNe, Nat.reduceLT, Nat.reduceLeDiff, Nat.reduceMul, Nat.reduceEqDiff, WD, effB, effH, isPriv, isHeap, isImm, zbx, zby, zbz, chkO, setD, dslot, zca, zcb, zcc, zcd, ptrCells_some, F22]
        have : all.findIdx? (fun v => v.ok && v.f == f) = none := by
          rw [List.findIdx?_eq_none_iff]
          intro v hv
          obtain ⟨j, hj, e⟩ := List.getElem_of_mem hv
          exact hno j v (by omega) (by rw [List.getElem?_eq_getElem hj, e])
        unfold findV; rw [this]
end Go.Proofs.Ytfjbgmcdkhepkaa

namespace Go.Proofs.Ytfjbgmcdkhepkaa
open Go Go.Abs Go.Proofs
set_option maxRecDepth 100000
set_option maxHeartbeats 2000000
set_option linter.unusedVariables false
set_option linter.unusedSimpArgs false
theorem wide_dep (l : List (Int × Int)) : wideAll (l.map depV) 2 = true := by
  simp [wideAll, depV, V.width, V.cells]
/-- A copy: nil stays nil; what is not empty is new memory. -/
def cloneR (x : V) (l : List (Int × Int)) (H : Hp) : V × Hp := if isNils x then (.nils, H) else if l.isEmpty then (.rsl [], H) else (.sl H.length 0 l.length, H ++ [.cells (l.map depV)])
theorem clone_eq (x : V) (l : List (Int × Int)) (H : Hp) (hx : Sx H x (l.map depV)) (hlen : l.length < 4294967296) : EW 25 [x] H = some (.ret (cloneR x l H).1 false, (cloneR x l H).2) := by
  have hr := wide_dep l
  have h1 : decide (l.length * 16 ≤ 70368744177664) = true := by simp; omega
  have h2 : decide (l.length ≤ 4611686018427387904) = true := by simp; omega
  have h0 : wideAll [] 2 = true := rfl
  have hs := hx.rd.src (P := Try.prog) ix22
  have hq := hx.eqNil (P := Try.prog) tk22
  simp only [binV, tk22] at hq
  refine eqOf2 (runs f25 b25 r25 n25 _ _ ?_)
  simp only [bodyOf, Try.f25, Option.getD_some]
  simp only [WW, partV, eqCells, eqLf, minV, maxV, ifcV, zaa, zab, zac, zad, zae, zaf, zag, zah, zai, ofConst, ofConst1, List.replicate, zaj, zak, loadOp, Go.Abs.loadCells, binV, zal, pickV, zam, zan, zao, zap, zaq, zar, zas, zat, zau, outR, resAll, resOne, zav, zaw, zax, zay, zaz, zba, zbb, zbc, zbd, zbe, zbf, zbg, zbh, zbi, zbj, zbk, storeOp, storeCell, overlay, zbl, zbm, zbn, lookupOp, keyT, okRes, mapUpdateOp, zbo, zbp, zbq, zbr, zbs, zbt, zbu, Nat.reduceSub, Nat.reduceAdd, Int.reduceLT, Int.reduceLE, Int.reduceAdd, Int.reduceSub, Int.reduceToNat, Int.reduceBEq, Int.reduceBNe, Int.reduceMul, Nat.reduceBEq, Nat.reduceBNe, Nat.reduceLT, Nat.reduceLeDiff, Nat.reduceMul, Nat.reduceEqDiff, WD, effB, effH, isPriv, isHeap, isImm, zbx, zby, zbz, chkO, setD, dslot, zca, zcb, zcc, zcd, ptrCells_some, F25, hx.rd.shutIn, hq]
  cases hn : isNils x with
  | true =>
    simp only [WW, partV, eqCells, eqLf, minV, maxV, ifcV, zaa, zab, zac, zad, zae, zaf, zag, zah, zai, ofConst, ofConst1, List.replicate, zaj, zak, loadOp, Go.Abs.loadCells, binV, zal, pickV, zam, zan, zao, zap, zaq, zar, zas, zat, zau, outR, resAll, resOne, zav, zaw, zax, zay, zaz, zba, zbb, zbc, zbd, zbe, zbf, zbg, zbh, zbi, zbj, zbk, storeOp, storeCell, overlay, zbl, zbm, zbn, lookupOp, keyT, okRes, mapUpdateOp, zbo, zbp, zbq, zbr, zbs, zbt, zbu, Nat.reduceSub, Nat.reduceAdd, Int.reduceLT, Int.reduceLE, Int.reduceAdd, Int.reduceSub, Int.reduceToNat, Int.reduceBEq, Int.reduceBNe, Int.reduceMul, Nat.reduceBEq, Nat.reduceBNe, Nat.reduceLT, Nat.reduceLeDiff, Nat.reduceMul, Nat.reduceEqDiff, WD, effB, effH, isPriv, isHeap, isImm, zbx, zby, zbz, chkO, setD, dslot, zca, zcb, zcc, zcd, ptrCells_some, F25]
    simp [cloneR, hn]
  | false =>
    have he : (l.map depV).isEmpty = l.isEmpty := by cases l <;> rfl
    cases hl : l.isEmpty with
    | true =>
      simp only [WW, partV, eqCells, eqLf, minV, maxV, ifcV, zaa, zab, zac, zad, zae, zaf, zag, zah, zai, ofConst, ofConst1, List.replicate, zaj, zak, loadOp, Go.Abs.loadCells, binV, zal, pickV, zam, zan, zao, zap, zaq, zar, zas, zat, zau, outR, resAll, resOne, zav, zaw, zax, zay, zaz, zba, zbb, zbc, zbd, zbe, zbf, zbg, zbh, zbi, zbj, zbk, storeOp, storeCell, overlay, zbl, zbm, zbn, lookupOp, keyT, okRes, mapUpdateOp, zbo, zbp, zbq, zbr, zbs, zbt, zbu, Nat.reduceSub, Nat.reduceAdd, Int.reduceLT, Int.reduceLE, Int.reduceAdd, Int.reduceSub, Int.reduceToNat, Int.reduceBEq, Int.reduceBNe, Int.reduceMul, Nat.reduceBEq, Nat.reduceBNe, Nat.reduceLT, Nat.reduceLeDiff, Nat.reduceMul, Nat.reduceEqDiff, WD, effB, effH, isPriv, isHeap, isImm, zbx, zby, zbz, chkO, setD, dslot, zca, zcb, zcc, zcd, ptrCells_some, F25, hx.rd.shutIn, hx.rd.srcSl, buildSliceV, lits, srcV_eq, srcK_sl, srcK_str, srcSl_nils, srcSl_rsl, srcSl_sl, appendOp, frow, zbv, zbw, List.all_nil, List.all_cons, rowV, Bool.false_and, Bool.and_false, ne_eq, not_false_eq_true, grows_lr, callOut_t, slCont, newSl, appendSl, sliceOp, boundV, convertOp, contV, Bool.false_or, Bool.or_false, List.isEmpty_nil, List.isEmpty_cons, Option.map_none, h0, hr, he, hl]
      simp [cloneR, hn, hl]
    | false =>
      simp only [WW, partV, eqCells, eqLf, minV, maxV, ifcV, zaa, zab, zac, zad, zae, zaf, zag, zah, zai, ofConst, ofConst1, List.replicate, zaj, zak, loadOp, Go.Abs.loadCells, binV, zal, pickV, zam, zan, zao, zap, zaq, zar, zas, zat, zau, outR, resAll, resOne, zav, zaw, zax, zay, zaz, zba, zbb, zbc, zbd, zbe, zbf, zbg, zbh, zbi, zbj, zbk, storeOp, storeCell, overlay, zbl, zbm, zbn, lookupOp, keyT, okRes, mapUpdateOp, zbo, zbp, zbq, zbr, zbs, zbt, zbu, Nat.reduceSub, Nat.reduceAdd, Int.reduceLT, Int.reduceLE, Int.reduceAdd, Int.reduceSub, Int.reduceToNat, Int.reduceBEq, Int.reduceBNe, Int.reduceMul, Nat.reduceBEq, Nat.reduceBNe, Nat.reduceLT, Nat.reduceLeDiff, Nat.reduceMul, Nat.reduceEqDiff, WD, effB, effH, isPriv, isHeap, isImm, zbx, zby, zbz, chkO, setD, dslot, zca, zcb, zcc, zcd, ptrCells_some, F25, hx.rd.shutIn, hx.rd.srcSl, buildSliceV, lits, srcV_eq, srcK_sl, srcK_str, srcSl_nils, srcSl_rsl, srcSl_sl, appendOp, frow, zbv, zbw, List.all_nil, List.all_cons, rowV, Bool.false_and, Bool.and_false, ne_eq, not_false_eq_true, grows_lr, callOut_t, slCont, newSl, appendSl, sliceOp, boundV, convertOp, contV, Bool.false_or, Bool.or_false, List.isEmpty_nil, List.isEmpty_cons, Option.map_none, h0, hr, he, hl, h1, h2]
      simp [cloneR, hn, hl]
theorem valid_nil (id : Int) (H : Hp) : EW 15 [.nilp, .int .i64 id] H = some (.ret (.bool false) false, H) := by
  refine eqOf (runs f15 b15 r15 n15 _ _ ?_)
  simp only [bodyOf, Try.f15, Option.getD_some]
  simp only [WW, partV, eqCells, eqLf, minV, maxV, ifcV, zaa, zab, zac, zad, zae, zaf, zag, zah, zai, ofConst, ofConst1, List.replicate, zaj, zak, loadOp, Go.Abs.loadCells, binV, zal, pickV, zam, zan, zao, zap, zaq, zar, zas, zat, zau, outR, resAll, resOne, zav, zaw, zax, zay, zaz, zba, zbb, zbc, zbd, zbe, zbf, zbg, zbh, zbi, zbj, zbk, storeOp, storeCell, overlay, zbl, zbm, zbn, lookupOp, keyT, okRes, mapUpdateOp, zbo, zbp, zbq, zbr, zbs, zbt, zbu, Nat.reduceSub, Nat.reduceAdd, Int.reduceLT, Int.reduceLE, Int.reduceAdd, Int.reduceSub, Int.reduceToNat, Int.reduceBEq, Int.reduceBNe, Int.reduceMul, Nat.reduceBEq, Nat.reduceBNe, Nat.reduceLT, Nat.reduceLeDiff, Nat.reduceMul, Nat.reduceEqDiff, WD, effB, effH, isPriv, isHeap, isImm, zbx, zby, zbz, chkO, setD, dslot, zca, zcb, zcc, zcd, ptrCells_some, F15]
def getVer (all : List Ver) (i : Int) : Option Ver := if 0 ≤ i then all[i.toNat]? else none
theorem valid_eq {H : Hp} {d c : Nat} {g : Int} {cnt : List Int} {all : List Ver} (R : Reg H d c g cnt all) (i : Int) :
    EW 15 [.ptr d 0 0, .int .i64 i] H = some (.ret (.bool ((getVer all i).any (·.ok))) false, H) := by
  obtain ⟨al, ho, ha⟩ := R.ex
  refine eqOf (runs f15 b15 r15 n15 _ _ ?_)
  simp only [bodyOf, Try.f15, Option.getD_some]
  simp only [WW, partV, eqCells, eqLf, minV, maxV, ifcV, zaa, zab, zac, zad, zae, zaf, zag, zah, zai, ofConst, ofConst1, List.replicate, zaj, zak, loadOp, Go.Abs.loadCells, binV, zal, pickV, zam, zan, zao, zap, zaq, zar, zas, zat, zau, outR, resAll, resOne, zav, zaw, zax, zay, zaz, zba, zbb, zbc, zbd, zbe, zbf, zbg, zbh, zbi, zbj, zbk, storeOp, storeCell, overlay, zbl, zbm, zbn, lookupOp, keyT, okRes, mapUpdateOp, zbo, zbp, zbq, zbr, zbs, zbt, zbu, Nat.reduceSub, Nat.reduceAdd, Int.reduceLT, Int.reduceLE, Int.reduceAdd, Int.reduceSub, Int.reduceToNat, Int.reduceBEq, Int.reduceBNe, Int.reduceMul, Nat.reduceBEq, Nat.reduceBNe, Nat.reduceLT, Nat.reduceLeDiff, Nat.reduceMul, Nat.reduceEqDiff, WD, effB, effH, isPriv, isHeap, isImm, zbx, zby, zbz, chkO, setD, dslot, zca, zcb, zcc, zcd, ptrCells_some, F15]
  cases h0 : decide (0 ≤ i) with
  | false =>
    have h0' : ¬ (0 ≤ i) := by simpa using h0
    simp only [WW, partV, eqCells, eqLf, minV, maxV, ifcV, zaa, zab, zac, zad, zae, zaf, zag, zah, zai, ofConst, ofConst1, List.replicate, zaj, zak, loadOp, Go.Abs.loadCells, binV, zal, pickV, zam, zan, zao, zap, zaq, zar, zas, zat, zau, outR, resAll, resOne, zav, zaw, zax, zay, zaz, zba, zbb, zbc, zbd, zbe, zbf, zbg, zbh, zbi, zbj, zbk, storeOp, storeCell, overlay, zbl, zbm, zbn, lookupOp, keyT, okRes, mapUpdateOp, zbo, zbp, zbq, zbr, zbs, zbt, zbu, Nat.reduceSub, Nat.reduceAdd, Int.reduceLT, Int.reduceLE, Int.reduceAdd, Int.reduceSub, Int.reduceToNat, Int.reduceBEq, Int.reduceBNe, Int.reduceMul, Nat.reduceBEq, Nat.reduceBNe, Nat.reduceLT, Nat.reduceLeDiff, Nat.reduceMul, Nat.reduceEqDiff, WD, effB, effH, isPriv, isHeap, isImm, zbx, zby, zbz, chkO, setD, dslot, zca, zcb, zcc, zcd, ptrCells_some, F15]
    simp [getVer, h0']
  | true =>
    have h0' : 0 ≤ i := by simpa using h0
    simp only [WW, partV, eqCells, eqLf, minV, maxV, ifcV, zaa, zab, zac, zad, zae, zaf, zag, zah, zai, ofConst, ofConst1, List.replicate, zaj, zak, loadOp, Go.Abs.loadCells, binV, zal, pickV, zam, zan, zao, zap, zaq, zar, zas, zat, zau, outR, resAll, resOne, zav, zaw, zax, zay, zaz, zba, zbb, zbc, zbd, zbe, zbf, zbg, zbh, zbi, zbj, zbk, storeOp, storeCell, overlay, zbl, zbm, zbn, lookupOp, keyT, okRes, mapUpdateOp, zbo, zbp, zbq, zbr, zbs, zbt, zbu, Nat.reduceSub, Nat.reduceAdd, Int.reduceLT, Int.reduceLE, Int.reduceAdd, Int.reduceSub, Int.reduceToNat, Int.reduceBEq, Int.reduceBNe, Int.reduceMul, Nat.reduceBEq, Nat.reduceBNe, Nat.reduceLT, Nat.reduceLeDiff, Nat.reduceMul, Nat.reduceEqDiff, WD, effB, effH, isPriv, isHeap, isImm, zbx, zby, zbz, chkO, setD, dslot, zca, zcb, zcc, zcd, ptrCells_some, F15, ho]
    rcases ha with ⟨rfl, rfl⟩ | ⟨rid, ns, rfl, hrow, hne⟩
    · have h3 : decide (i < 0) = false := by simpa using h0'
      simp only [WW, partV, eqCells, eqLf, minV, maxV, ifcV, zaa, zab, zac, zad, zae, zaf, zag, zah, zai, ofConst, ofConst1, List.replicate, zaj, zak, loadOp, Go.Abs.loadCells, binV, zal, pickV, zam, zan, zao, zap, zaq, zar, zas, zat, zau, outR, resAll, resOne, zav, zaw, zax, zay, zaz, zba, zbb, zbc, zbd, zbe, zbf, zbg, zbh, zbi, zbj, zbk, storeOp, storeCell, overlay, zbl, zbm, zbn, lookupOp, keyT, okRes, mapUpdateOp, zbo, zbp, zbq, zbr, zbs, zbt, zbu, Nat.reduceSub, Nat.reduceAdd, Int.reduceLT, Int.reduceLE, Int.reduceAdd, Int.reduceSub, Int.reduceToNat, Int.reduceBEq, Int.reduceBNe, Int.reduceMul, Nat.reduceBEq, Nat.reduceBNe, Nat.reduceLT, Nat.reduceLeDiff, Nat.reduceMul, Nat.reduceEqDiff, WD, effB, effH, isPriv, isHeap, isImm, zbx, zby, zbz, chkO, setD, dslot, zca, zcb, zcc, zcd, ptrCells_some, F15, h3]
      simp [getVer]
    · have hv := view_hr (n := all.length) hrow (by simp) (by simpa using hne)
      cases h1 : decide (i < (all.length : Int)) with
      | false =>
        have h1' : ¬ i < (all.length : Int) := by simpa using h1
        simp only [WW, partV, eqCells, eqLf, minV, maxV, ifcV, zaa, zab, zac, zad, zae, zaf, zag, zah, zai, ofConst, ofConst1, List.replicate, zaj, zak, loadOp, Go.Abs.loadCells, binV, zal, pickV, zam, zan, zao, zap, zaq, zar, zas, zat, zau, outR, resAll, resOne, zav, zaw, zax, zay, zaz, zba, zbb, zbc, zbd, zbe, zbf, zbg, zbh, zbi, zbj, zbk, storeOp, storeCell, overlay, zbl, zbm, zbn, lookupOp, keyT, okRes, mapUpdateOp, zbo, zbp, zbq, zbr, zbs, zbt, zbu, Nat.reduceSub, Nat.reduceAdd, Int.reduceLT, Int.reduceLE, Int.reduceAdd, Int.reduceSub, Int.reduceToNat, Int.reduceBEq, Int.reduceBNe, Int.reduceMul, Nat.reduceBEq, Nat.reduceBNe, Nat.reduceLT, Nat.reduceLeDiff, Nat.reduceMul, Nat.reduceEqDiff, WD, effB, effH, isPriv, isHeap, isImm, zbx, zby, zbz, chkO, setD, dslot, zca, zcb, zcc, zcd, ptrCells_some, F15, ho, h1]
        have : all[i.toNat]? = none := List.getElem?_eq_none (by omega)
        simp [getVer, this]
      | true =>
        have h1' : i < (all.length : Int) := by simpa using h1
        have hi2 : i.toNat < all.length := by omega
        have hd : all[i.toNat]? = some all[i.toNat] := List.getElem?_eq_getElem hi2
        generalize all[i.toNat] = v at hd
        obtain ⟨hv1, hv2, hv3⟩ := R.vs v (List.mem_of_getElem? hd)
        simp only [WW, partV, eqCells, eqLf, minV, maxV, ifcV, zaa, zab, zac, zad, zae, zaf, zag, zah, zai, ofConst, ofConst1, List.replicate, zaj, zak, loadOp, Go.Abs.loadCells, binV, zal, pickV, zam, zan, zao, zap, zaq, zar, zas, zat, zau, outR, resAll, resOne, zav, zaw, zax, zay, zaz, zba, zbb, zbc, zbd, zbe, zbf, zbg, zbh, zbi, zbj, zbk, storeOp, storeCell, overlay, zbl, zbm, zbn, lookupOp, keyT, okRes, mapUpdateOp, zbo, zbp, zbq, zbr, zbs, zbt, zbu, Nat.reduceSub, Nat.reduceAdd, Int.reduceLT, Int.reduceLE, Int.reduceAdd, Int.reduceSub, Int.reduceToNat, Int.reduceBEq, Int.reduceBNe, Int.reduceMul, Nat.reduceBEq, Nat.reduceBNe, Nat.reduceLT, Nat.reduceLeDiff, Nat.reduceMul, Nat.reduceEqDiff, WD, effB, effH, isPriv, isHeap, isImm, zbx, zby, zbz, chkO, setD, dslot, zca, zcb, zcc, zcd, ptrCells_some, F15, ho, h1, hv, h0', List.getElem?_map, hd, ptrV, hv1, verV]
        simp [getVer, h0', hd]
theorem versions_nil (f : Int) (H : Hp) : EW 21 [.nilp, .int .i64 f] H = some (.ret (.tup [.int .i64 0, .int .i64 5]) false, H) := by
  refine eqOf (runs f21 b21 r21 n21 _ _ ?_)
  simp only [bodyOf, Try.f21, Option.getD_some]
  simp only [WW, partV, eqCells, eqLf, minV, maxV, ifcV, zaa, zab, zac, zad, zae, zaf, zag, zah, zai, ofConst, ofConst1, List.replicate, zaj, zak, loadOp, Go.Abs.loadCells, binV, zal, pickV, zam, zan, zao, zap, zaq, zar, zas, zat, zau, outR, resAll, resOne, zav, zaw, zax, zay, zaz, zba, zbb, zbc, zbd, zbe, zbf, zbg, zbh, zbi, zbj, zbk, storeOp, storeCell, overlay, zbl, zbm, zbn, lookupOp, keyT, okRes, mapUpdateOp, zbo, zbp, zbq, zbr, zbs, zbt, zbu, Nat.reduceSub, Nat.reduceAdd, Int.reduceLT, Int.reduceLE, Int.reduceAdd, Int.reduceSub, Int.reduceToNat, Int.reduceBEq, Int.reduceBNe, Int.reduceMul, Nat.reduceBEq, Nat.reduceBNe, Nat.reduceLT, Nat.reduceLeDiff, Nat.reduceMul, Nat.reduceEqDiff, WD, effB, effH, isPriv, isHeap, isImm, zbx, zby, zbz, chkO, setD, dslot, zca, zcb, zcc, zcd, ptrCells_some, F21]
def getCnt (cnt : List Int) (i : Int) : Option Int := if 0 ≤ i then cnt[i.toNat]? else none
theorem versions_eq {H : Hp} {d c : Nat} {g : Int} {cnt : List Int} {all : List Ver} (R : Reg H d c g cnt all) (i : Int) :
    EW 21 [.ptr d 0 0, .int .i64 i] H = some (.ret (match getCnt cnt i with | some n => .tup [.int .i64 n, .int .i64 0] | none => .tup [.int .i64 0, .int .i64 1]) false, H) := by
  obtain ⟨al, ho, ha⟩ := R.ex
  have hc := R.cn
  refine eqOf (runs f21 b21 r21 n21 _ _ ?_)
  simp only [bodyOf, Try.f21, Option.getD_some]
  simp only [WW, partV, eqCells, eqLf, minV, maxV, ifcV, zaa, zab, zac, zad, zae, zaf, zag, zah, zai, ofConst, ofConst1, List.replicate, zaj, zak, loadOp, Go.Abs.loadCells, binV, zal, pickV, zam, zan, zao, zap, zaq, zar, zas, zat, zau, outR, resAll, resOne, zav, zaw, zax, zay, zaz, zba, zbb, zbc, zbd, zbe, zbf, zbg, zbh, zbi, zbj, zbk, storeOp, storeCell, overlay, zbl, zbm, zbn, lookupOp, keyT, okRes, mapUpdateOp, zbo, zbp, zbq, zbr, zbs, zbt, zbu, Nat.reduceSub, Nat.reduceAdd, Int.reduceLT, Int.reduceLE, Int.reduceAdd, Int.reduceSub, Int.reduceToNat, Int.reduceBEq, Int.reduceBNe, Int.reduceMul, Nat.reduceBEq, Nat.reduceBNe, Nat.reduceLT, Nat.reduceLeDiff, Nat.reduceMul, Nat.reduceEqDiff, WD, effB, effH, isPriv, isHeap, isImm, zbx, zby, zbz, chkO, setD, dslot, zca, zcb, zcc, zcd, ptrCells_some, F21]
  cases h0 : decide (i < 0) with
  | true =>
    have h0' : ¬ (0 ≤ i) := by simp at h0; omega
    simp only [WW, partV, eqCells, eqLf, minV, maxV, ifcV, zaa, zab, zac, zad, zae, zaf, zag, zah, zai, ofConst, ofConst1, List.replicate, zaj, zak, loadOp, Go.Abs.loadCells, binV, zal, pickV, zam, zan, zao, zap, zaq, zar, zas, zat, zau, outR, resAll, resOne, zav, zaw, zax, zay, zaz, zba, zbb, zbc, zbd, zbe, zbf, zbg, zbh, zbi, zbj, zbk, storeOp, storeCell, overlay, zbl, zbm, zbn, lookupOp, keyT, okRes, mapUpdateOp, zbo, zbp, zbq, zbr, zbs, zbt, zbu, Nat.reduceSub, Nat.reduceAdd, Int.reduceLT, Int.reduceLE, Int.reduceAdd, Int.reduceSub, Int.reduceToNat, Int.reduceBEq, Int.reduceBNe, Int.reduceMul, Nat.reduceBEq, Nat.reduceBNe, Nat.reduceLT, Nat.reduceLeDiff, Nat.reduceMul, Nat.reduceEqDiff, WD, effB, effH, isPriv, isHeap, isImm, zbx, zby, zbz, chkO, setD, dslot, zca, zcb, zcc, zcd, ptrCells_some, F21]
    simp [getCnt, h0']
  | false =>
    have h0' : 0 ≤ i := by simpa using h0
    simp only [WW, partV, eqCells, eqLf, minV, maxV, ifcV, zaa, zab, zac, zad, zae, zaf, zag, zah, zai, ofConst, ofConst1, List.replicate, zaj, zak, loadOp, Go.Abs.loadCells, binV, zal, pickV, zam, zan, zao, zap, zaq, zar, zas, zat, zau, outR, resAll, resOne, zav, zaw, zax, zay, zaz, zba, zbb, zbc, zbd, zbe, zbf, zbg, zbh, zbi, zbj, zbk, storeOp, storeCell, overlay, zbl, zbm, zbn, lookupOp, keyT, okRes, mapUpdateOp, zbo, zbp, zbq, zbr, zbs, zbt, zbu, Nat.reduceSub, Nat.reduceAdd, Int.reduceLT, Int.reduceLE, Int.reduceAdd, Int.reduceSub, Int.reduceToNat, Int.reduceBEq, Int.reduceBNe, Int.reduceMul, Nat.reduceBEq, Nat.reduceBNe, Nat.reduceLT, Nat.reduceLeDiff, Nat.reduceMul, Nat.reduceEqDiff, WD, effB, effH, isPriv, isHeap, isImm, zbx, zby, zbz, chkO, setD, dslot, zca, zcb, zcc, zcd, ptrCells_some, F21, ho]
    refine cStep_of (fun h1 => ?_) (fun h1 => ?_)
    · have h1' : ¬ i < (cnt.length : Int) := by simpa using h1
      simp only [WW, partV, eqCells, eqLf, minV, maxV, ifcV, zaa, zab, zac, zad, zae, zaf, zag, zah, zai, ofConst, ofConst1, List.replicate, zaj, zak, loadOp, Go.Abs.loadCells, binV, zal, pickV, zam, zan, zao, zap, zaq, zar, zas, zat, zau, outR, resAll, resOne, zav, zaw, zax, zay, zaz, zba, zbb, zbc, zbd, zbe, zbf, zbg, zbh, zbi, zbj, zbk, storeOp, storeCell, overlay, zbl, zbm, zbn, lookupOp, keyT, okRes, mapUpdateOp, zbo, zbp, zbq, zbr, zbs, zbt, zbu, Nat.reduceSub, Nat.reduceAdd, Int.reduceLT, Int.reduceLE, Int.reduceAdd, Int.reduceSub, Int.reduceToNat, Int.reduceBEq, Int.reduceBNe, Int.reduceMul, Nat.reduceBEq, Nat.reduceBNe, Nat.reduceLT, Nat.reduceLeDiff, Nat.reduceMul, Nat.reduceEqDiff, WD, effB, effH, isPriv, isHeap, isImm, zbx, zby, zbz, chkO, setD, dslot, zca, zcb, zcc, zcd, ptrCells_some, F21, ho]
      have : cnt[i.toNat]? = none := List.getElem?_eq_none (by omega)
      simp [getCnt, this]
    · have h1' : i < (cnt.length : Int) := by simpa using h1
      have hi2 : i.toNat < cnt.length := by omega
      have hd : cnt[i.toNat]? = some cnt[i.toNat] := List.getElem?_eq_getElem hi2
      generalize cnt[i.toNat] = v at hd
      simp only [WW, partV, eqCells, eqLf, minV, maxV, ifcV, zaa, zab, zac, zad, zae, zaf, zag, zah, zai, ofConst, ofConst1, List.replicate, zaj, zak, loadOp, Go.Abs.loadCells, binV, zal, pickV, zam, zan, zao, zap, zaq, zar, zas, zat, zau, outR, resAll, resOne, zav, zaw, zax, zay, zaz, zba, zbb, zbc, zbd, zbe, zbf, zbg, zbh, zbi, zbj, zbk, storeOp, storeCell, overlay, zbl, zbm, zbn, lookupOp, keyT, okRes, mapUpdateOp, zbo, zbp, zbq, zbr, zbs, zbt, zbu, Nat.reduceSub, Nat.reduceAdd, Int.reduceLT, Int.reduceLE, Int.reduceAdd, Int.reduceSub, Int.reduceToNat, Int.reduceBEq, Int.reduceBNe, Int.reduceMul, Nat.reduceBEq, Nat.reduceBNe, Nat.reduceLT, Nat.reduceLeDiff, Nat.reduceMul, Nat.reduceEqDiff, WD, effB, effH, isPriv, isHeap, isImm, zbx, zby, zbz, chkO, setD, dslot, zca, zcb, zcc, zcd, ptrCells_some, F21, ho, h0', h1', hc, List.getElem?_map, hd]
      simp [getCnt, h0', hd, wpX_some]
theorem on_nil (i : Int) (H : Hp) : EW 12 [.nilp, .int .i64 i] H = some (.ret .nils false, H) := by
  refine eqOf (runs f12 b12 r12 n12 _ _ ?_)
  simp only [bodyOf, Try.f12, Option.getD_some]
  simp only [WW, partV, eqCells, eqLf, minV, maxV, ifcV, zaa, zab, zac, zad, zae, zaf, zag, zah, zai, ofConst, ofConst1, List.replicate, zaj, zak, loadOp, Go.Abs.loadCells, binV, zal, pickV, zam, zan, zao, zap, zaq, zar, zas, zat, zau, outR, resAll, resOne, zav, zaw, zax, zay, zaz, zba, zbb, zbc, zbd, zbe, zbf, zbg, zbh, zbi, zbj, zbk, storeOp, storeCell, overlay, zbl, zbm, zbn, lookupOp, keyT, okRes, mapUpdateOp, zbo, zbp, zbq, zbr, zbs, zbt, zbu, Nat.reduceSub, Nat.reduceAdd, Int.reduceLT, Int.reduceLE, Int.reduceAdd, Int.reduceSub, Int.reduceToNat, Int.reduceBEq, Int.reduceBNe, Int.reduceMul, Nat.reduceBEq, Nat.reduceBNe, Nat.reduceLT, Nat.reduceLeDiff, Nat.reduceMul, Nat.reduceEqDiff, WD, effB, effH, isPriv, isHeap, isImm, zbx, zby, zbz, chkO, setD, dslot, zca, zcb, zcc, zcd, ptrCells_some, F12]
theorem Reg.sx {H : Hp} {d c : Nat} {g : Int} {cnt : List Int} {all : List Ver} (R : Reg H d c g cnt all) {v : Ver} (h : v ∈ all) : Sx H v.on (v.l.map depV) := by
  have := (R.vs v h).2.1
  generalize v.on = x at this
  generalize v.l = l at this
  cases this with
  | nils => exact .nils
  | rsl => exact .rsl _
theorem on_eq {H : Hp} {d c : Nat} {g : Int} {cnt : List Int} {all : List Ver} (R : Reg H d c g cnt all) (i : Int) :
    EW 12 [.ptr d 0 0, .int .i64 i] H = some (match getVer all i with | some v => (.ret (cloneR v.on v.l H).1 false, (cloneR v.on v.l H).2) | none => (.ret .nils false, H)) := by
  obtain ⟨al, ho, ha⟩ := R.ex
  refine eqOf2 (runs f12 b12 r12 n12 _ _ ?_)
  simp only [bodyOf, Try.f12, Option.getD_some]
  simp only [WW, partV, eqCells, eqLf, minV, maxV, ifcV, zaa, zab, zac, zad, zae, zaf, zag, zah, zai, ofConst, ofConst1, List.replicate, zaj, zak, loadOp, Go.Abs.loadCells, binV, zal, pickV, zam, zan, zao, zap, zaq, zar, zas, zat, zau, outR, resAll, resOne, zav, zaw, zax, zay, zaz, zba, zbb, zbc, zbd, zbe, zbf, zbg, zbh, zbi, zbj, zbk, storeOp, storeCell, overlay, zbl, zbm, zbn, lookupOp, keyT, okRes, mapUpdateOp, zbo, zbp, zbq, zbr, zbs, zbt, zbu, Nat.reduceSub, Nat.reduceAdd, Int.reduceLT, Int.reduceLE, Int.reduceAdd, Int.reduceSub, Int.reduceToNat, Int.reduceBEq, Int.reduceBNe, Int.reduceMul, Nat.reduceBEq, Nat.reduceBNe, Nat.reduceLT, Nat.reduceLeDiff, Nat.reduceMul, Nat.reduceEqDiff, WD, effB, effH, isPriv, isHeap, isImm, zbx, zby, zbz, chkO, setD, dslot, zca, zcb, zcc, zcd, ptrCells_some, F12]
  cases h0 : decide (i < 0) with
  | true =>
    have h0' : ¬ (0 ≤ i) := by simp at h0; omega
    simp only [WW, partV, eqCells, eqLf, minV, maxV, ifcV, zaa, zab, zac, zad, zae, zaf, zag, zah, zai, ofConst, ofConst1, List.replicate, zaj, zak, loadOp, Go.Abs.loadCells, binV, zal, pickV, zam, zan, zao, zap, zaq, zar, zas, zat, zau, outR, resAll, resOne, zav, zaw, zax, zay, zaz, zba, zbb, zbc, zbd, zbe, zbf, zbg, zbh, zbi, zbj, zbk, storeOp, storeCell, overlay, zbl, zbm, zbn, lookupOp, keyT, okRes, mapUpdateOp, zbo, zbp, zbq, zbr, zbs, zbt, zbu, Nat.reduceSub, Nat.reduceAdd, Int.reduceLT, Int.reduceLE, Int.reduceAdd, Int.reduceSub, Int.reduceToNat, Int.reduceBEq, Int.reduceBNe, Int.reduceMul, Nat.reduceBEq, Nat.reduceBNe, Nat.reduceLT, Nat.reduceLeDiff, Nat.reduceMul, Nat.reduceEqDiff, WD, effB, effH, isPriv, isHeap, isImm, zbx, zby, zbz, chkO, setD, dslot, zca, zcb, zcc, zcd, ptrCells_some, F12]
    simp [getVer, h0']
  | false =>
    have h0' : 0 ≤ i := by simpa using h0
    simp only [WW, partV, eqCells, eqLf, minV, maxV, ifcV, zaa, zab, zac, zad, zae, zaf, zag, zah, zai, ofConst, ofConst1, List.replicate, zaj, zak, loadOp, Go.Abs.loadCells, binV, zal, pickV, zam, zan, zao, zap, zaq, zar, zas, zat, zau, outR, resAll, resOne, zav, zaw, zax, zay, zaz, zba, zbb, zbc, zbd, zbe, zbf, zbg, zbh, zbi, zbj, zbk, storeOp, storeCell, overlay, zbl, zbm, zbn, lookupOp, keyT, okRes, mapUpdateOp, zbo, zbp, zbq, zbr, zbs, zbt, zbu, Nat.reduceSub, Nat.reduceAdd, Int.reduceLT, Int.reduceLE, Int.reduceAdd, Int.reduceSub, Int.reduceToNat, Int.reduceBEq, Int.reduceBNe, Int.reduceMul, Nat.reduceBEq, Nat.reduceBNe, Nat.reduceLT, Nat.reduceLeDiff, Nat.reduceMul, Nat.reduceEqDiff, WD, effB, effH, isPriv, isHeap, isImm, zbx, zby, zbz, chkO, setD, dslot, zca, zcb, zcc, zcd, ptrCells_some, F12, ho]
    rcases ha with ⟨rfl, rfl⟩ | ⟨rid, ns, rfl, hrow, hne⟩
    · simp only [WW, partV, eqCells, eqLf, minV, maxV, ifcV, zaa, zab, zac, zad, zae, zaf, zag, zah, zai, ofConst, ofConst1, List.replicate, zaj, zak, loadOp, Go.Abs.loadCells, binV, zal, pickV, zam, zan, zao, zap, zaq, zar, zas, zat, zau, outR, resAll, resOne, zav, zaw, zax, zay, zaz, zba, zbb, zbc, zbd, zbe, zbf, zbg, zbh, zbi, zbj, zbk, storeOp, storeCell, overlay, zbl, zbm, zbn, lookupOp, keyT, okRes, mapUpdateOp, zbo, zbp, zbq, zbr, zbs, zbt, zbu, Nat.reduceSub, Nat.reduceAdd, Int.reduceLT, Int.reduceLE, Int.reduceAdd, Int.reduceSub, Int.reduceToNat, Int.reduceBEq, Int.reduceBNe, Int.reduceMul, Nat.reduceBEq, Nat.reduceBNe, Nat.reduceLT, Nat.reduceLeDiff, Nat.reduceMul, Nat.reduceEqDiff, WD, effB, effH, isPriv, isHeap, isImm, zbx, zby, zbz, chkO, setD, dslot, zca, zcb, zcc, zcd, ptrCells_some, F12, h0']
      simp [getVer]
    · have hv := view_hr (n := all.length) hrow (by simp) (by simpa using hne)
      simp only [WW, partV, eqCells, eqLf, minV, maxV, ifcV, zaa, zab, zac, zad, zae, zaf, zag, zah, zai, ofConst, ofConst1, List.replicate, zaj, zak, loadOp, Go.Abs.loadCells, binV, zal, pickV, zam, zan, zao, zap, zaq, zar, zas, zat, zau, outR, resAll, resOne, zav, zaw, zax, zay, zaz, zba, zbb, zbc, zbd, zbe, zbf, zbg, zbh, zbi, zbj, zbk, storeOp, storeCell, overlay, zbl, zbm, zbn, lookupOp, keyT, okRes, mapUpdateOp, zbo, zbp, zbq, zbr, zbs, zbt, zbu, Nat.reduceSub, Nat.reduceAdd, Int.reduceLT, Int.reduceLE, Int.reduceAdd, Int.reduceSub, Int.reduceToNat, Int.reduceBEq, Int.reduceBNe, Int.reduceMul, Nat.reduceBEq, Nat.reduceBNe, Nat.reduceLT, Nat.reduceLeDiff, Nat.reduceMul, Nat.reduceEqDiff, WD, effB, effH, isPriv, isHeap, isImm, zbx, zby, zbz, chkO, setD, dslot, zca, zcb, zcc, zcd, ptrCells_some, F12, ho]
      refine cStep_of (fun h1 => ?_) (fun h1 => ?_)
      · have h1' : ¬ i < (all.length : Int) := by simpa using h1
        simp only [WW, partV, eqCells, eqLf, minV, maxV, ifcV, zaa, zab, zac, zad, zae, zaf, zag, zah, zai, ofConst, ofConst1, List.replicate, zaj, zak, loadOp, Go.Abs.loadCells, binV, zal, pickV, zam, zan, zao, zap, zaq, zar, zas, zat, zau, outR, resAll, resOne, zav, zaw, zax, zay, zaz, zba, zbb, zbc, zbd, zbe, zbf, zbg, zbh, zbi, zbj, zbk, storeOp, storeCell, overlay, zbl, zbm, zbn, lookupOp, keyT, okRes, mapUpdateOp, zbo, zbp, zbq, zbr, zbs, zbt, zbu, Nat.reduceSub, Nat.reduceAdd, Int.reduceLT, Int.reduceLE, Int.reduceAdd, Int.reduceSub, Int.reduceToNat, Int.reduceBEq, Int.reduceBNe, Int.reduceMul, Nat.reduceBEq, Nat.reduceBNe, Nat.reduceLT, Nat.reduceLeDiff, Nat.reduceMul, Nat.reduceEqDiff, WD, effB, effH, isPriv, isHeap, isImm, zbx, zby, zbz, chkO, setD, dslot, zca, zcb, zcc, zcd, ptrCells_some, F12, ho]
        have : all[i.toNat]? = none := List.getElem?_eq_none (by omega)
        simp [getVer, this]
      · have h1' : i < (all.length : Int) := by simpa using h1
        have hi2 : i.toNat < all.length := by omega
        have hd : all[i.toNat]? = some all[i.toNat] := List.getElem?_eq_getElem hi2
        generalize all[i.toNat] = v at hd
        obtain ⟨hv1, hv2, hv3⟩ := R.vs v (List.mem_of_getElem? hd)
        have hcl := clone_eq v.on v.l H (R.sx (List.mem_of_getElem? hd)) hv3
        have hso := sealOn hv2
        have hg : getVer all i = some v := by simp [getVer, h0', hd]
        simp only [WW, partV, eqCells, eqLf, minV, maxV, ifcV, zaa, zab, zac, zad, zae, zaf, zag, zah, zai, ofConst, ofConst1, List.replicate, zaj, zak, loadOp, Go.Abs.loadCells, binV, zal, pickV, zam, zan, zao, zap, zaq, zar, zas, zat, zau, outR, resAll, resOne, zav, zaw, zax, zay, zaz, zba, zbb, zbc, zbd, zbe, zbf, zbg, zbh, zbi, zbj, zbk, storeOp, storeCell, overlay, zbl, zbm, zbn, lookupOp, keyT, okRes, mapUpdateOp, zbo, zbp, zbq, zbr, zbs, zbt, zbu, Nat.reduceSub, Nat.reduceAdd, Int.reduceLT, Int.reduceLE, Int.reduceAdd, Int.reduceSub, Int.reduceToNat, Int.reduceBEq, Int.reduceBNe, Int.reduceMul, Nat.reduceBEq, Nat.reduceBNe, Nat.reduceLT, Nat.reduceLeDiff, Nat.reduceMul, Nat.reduceEqDiff, WD, effB, effH, isPriv, isHeap, isImm, zbx, zby, zbz, chkO, setD, dslot, zca, zcb, zcc, zcd, ptrCells_some, F12, ho, hv, h0', List.getElem?_map, hd, ptrV, hv1, verV, hso]
        rw [wpCall_eq hcl]
        rw [hg]
        have hcs : ∀ st, sealV st (cloneR v.on v.l H).1 = (cloneR v.on v.l H).1 := fun st => by
          unfold cloneR; split
          · rfl
          · split <;> rfl
        have hgr : growsAs [] (.v (cloneR v.on v.l H).1) = false := by
          unfold cloneR; split
          · rfl
          · split <;> rfl
        simp only [WW, partV, eqCells, eqLf, minV, maxV, ifcV, zaa, zab, zac, zad, zae, zaf, zag, zah, zai, ofConst, ofConst1, List.replicate, zaj, zak, loadOp, Go.Abs.loadCells, binV, zal, pickV, zam, zan, zao, zap, zaq, zar, zas, zat, zau, outR, resAll, resOne, zav, zaw, zax, zay, zaz, zba, zbb, zbc, zbd, zbe, zbf, zbg, zbh, zbi, zbj, zbk, storeOp, storeCell, overlay, zbl, zbm, zbn, lookupOp, keyT, okRes, mapUpdateOp, zbo, zbp, zbq, zbr, zbs, zbt, zbu, Nat.reduceSub, Nat.reduceAdd, Int.reduceLT, Int.reduceLE, Int.reduceAdd, Int.reduceSub, Int.reduceToNat, Int.reduceBEq, Int.reduceBNe, Int.reduceMul, Nat.reduceBEq, Nat.reduceBNe, Nat.reduceLT, Nat.reduceLeDiff, Nat.reduceMul, Nat.reduceEqDiff, WD, effB, effH, isPriv, isHeap, isImm, zbx, zby, zbz, chkO, setD, dslot, zca, zcb, zcc, zcd, ptrCells_some, F12, hcs, hgr]
theorem new_eq (funs globals : Int) (H : Hp) : wpCall EW 9 [.int .i64 funs, .int .i64 globals] H (fun out H' =>
    if funs < 1 ∨ funs > 1024 ∨ globals < 0 ∨ globals > 1024 then out = .ret (.tup [.nilp, .int .i64 1]) false ∧ H' = H
    else out = .ret (.tup [.ptr (H.length + 1) 0 0, .int .i64 0]) false ∧ Reg H' (H.length + 1) H.length globals (List.replicate funs.toNat 0) [] ∧ ∃ e, H' = H ++ e) := by
  refine runs f9 b9 r9 n9 _ _ ?_
  simp only [bodyOf, Try.f9, Option.getD_some]
  simp only [WW, partV, eqCells, eqLf, minV, maxV, ifcV, zaa, zab, zac, zad, zae, zaf, zag, zah, zai, ofConst, ofConst1, List.replicate, zaj, zak, loadOp, Go.Abs.loadCells, binV, zal, pickV, zam, zan, zao, zap, zaq, zar, zas, zat, zau, outR, resAll, resOne, zav, zaw, zax, zay, zaz, zba, zbb, zbc, zbd, zbe, zbf, zbg, zbh, zbi, zbj, zbk, storeOp, storeCell, overlay, zbl, zbm, zbn, lookupOp, keyT, okRes, mapUpdateOp, zbo, zbp, zbq, zbr, zbs, zbt, zbu, Nat.reduceSub, Nat.reduceAdd, Int.reduceLT, Int.reduceLE, Int.reduceAdd, Int.reduceSub, Int.reduceToNat, Int.reduceBEq, Int.reduceBNe, Int.reduceMul, Nat.reduceBEq, Nat.reduceBNe, Nat.reduceLT, Nat.reduceLeDiff, Nat.reduceMul, Nat.reduceEqDiff, WD, effB, effH, isPriv, isHeap, isImm, zbx, zby, zbz, chkO, setD, dslot, zca, zcb, zcc, zcd, ptrCells_some, F9]
  cases h0 : decide (funs < 1) with
  | true =>
    have h0' : funs < 1 := by simpa using h0
    simp only [WW, partV, eqCells, eqLf, minV, maxV, ifcV, zaa, zab, zac, zad, zae, zaf, zag, zah, zai, ofConst, ofConst1, List.replicate, zaj, zak, loadOp, Go.Abs.loadCells, binV, zal, pickV, zam, zan, zao, zap, zaq, zar, zas, zat, zau, outR, resAll, resOne, zav, zaw, zax, zay, zaz, zba, zbb, zbc, zbd, zbe, zbf, zbg, zbh, zbi, zbj, zbk, storeOp, storeCell, overlay, zbl, zbm, zbn, lookupOp, keyT, okRes, mapUpdateOp, zbo, zbp, zbq, zbr, zbs, zbt, zbu, Nat.reduceSub, Nat.reduceAdd, Int.reduceLT, Int.reduceLE, Int.reduceAdd, Int.reduceSub, Int.reduceToNat, Int.reduceBEq, Int.reduceBNe, Int.reduceMul, Nat.reduceBEq, Nat.reduceBNe, Nat.reduceLT, Nat.reduceLeDiff, Nat.reduceMul, Nat.reduceEqDiff, WD, effB, effH, isPriv, isHeap, isImm, zbx, zby, zbz, chkO, setD, dslot, zca, zcb, zcc, zcd, ptrCells_some, F9]
    simp [h0']
  | false =>
    have h0' : ¬ funs < 1 := by simpa using h0
    simp only [WW, partV, eqCells, eqLf, minV, maxV, ifcV, zaa, zab, zac, zad, zae, zaf, zag, zah, zai, ofConst, ofConst1, List.replicate, zaj, zak, loadOp, Go.Abs.loadCells, binV, zal, pickV, zam, zan, zao, zap, zaq, zar, zas, zat, zau, outR, resAll, resOne, zav, zaw, zax, zay, zaz, zba, zbb, zbc, zbd, zbe, zbf, zbg, zbh, zbi, zbj, zbk, storeOp, storeCell, overlay, zbl, zbm, zbn, lookupOp, keyT, okRes, mapUpdateOp, zbo, zbp, zbq, zbr, zbs, zbt, zbu, Nat.reduceSub, Nat.reduceAdd, Int.reduceLT, Int.reduceLE, Int.reduceAdd, Int.reduceSub, Int.reduceToNat, Int.reduceBEq, Int.reduceBNe, Int.reduceMul, Nat.reduceBEq, Nat.reduceBNe, Nat.reduceLT, Nat.reduceLeDiff, Nat.reduceMul, Nat.reduceEqDiff, WD, effB, effH, isPriv, isHeap, isImm, zbx, zby, zbz, chkO, setD, dslot, zca, zcb, zcc, zcd, ptrCells_some, F9]
    cases h1 : decide (1024 < funs) with
    | true =>
      have h1' : 1024 < funs := by simpa using h1
      simp only [WW, partV, eqCells, eqLf, minV, maxV, ifcV, zaa, zab, zac, zad, zae, zaf, zag, zah, zai, ofConst, ofConst1, List.replicate, zaj, zak, loadOp, Go.Abs.loadCells, binV, zal, pickV, zam, zan, zao, zap, zaq, zar, zas, zat, zau, outR, resAll, resOne, zav, zaw, zax, zay, zaz, zba, zbb, zbc, zbd, zbe, zbf, zbg, zbh, zbi, zbj, zbk, storeOp, storeCell, overlay, zbl, zbm, zbn, lookupOp, keyT, okRes, mapUpdateOp, zbo, zbp, zbq, zbr, zbs, zbt, zbu, Nat.reduceSub, Nat.reduceAdd, Int.reduceLT, Int.reduceLE, Int.reduceAdd, Int.reduceSub, Int.reduceToNat, Int.reduceBEq, Int.reduceBNe, Int.reduceMul, Nat.reduceBEq, Nat.reduceBNe, Nat.reduceLT, Nat.reduceLeDiff, Nat.reduceMul, Nat.reduceEqDiff, WD, effB, effH, isPriv, isHeap, isImm, zbx, zby, zbz, chkO, setD, dslot, zca, zcb, zcc, zcd, ptrCells_some, F9]
      simp [h1']
    | false =>
      have h1' : ¬ 1024 < funs := by simpa using h1
      simp only [WW, partV, eqCells, eqLf, minV, maxV, ifcV, zaa, zab, zac, zad, zae, zaf, zag, zah, zai, ofConst, ofConst1, List.replicate, zaj, zak, loadOp, Go.Abs.loadCells, binV, zal, pickV, zam, zan, zao, zap, zaq, zar, zas, zat, zau, outR, resAll, resOne, zav, zaw, zax, zay, zaz, zba, zbb, zbc, zbd, zbe, zbf, zbg, zbh, zbi, zbj, zbk, storeOp, storeCell, overlay, zbl, zbm, zbn, lookupOp, keyT, okRes, mapUpdateOp, zbo, zbp, zbq, zbr, zbs, zbt, zbu, Nat.reduceSub, Nat.reduceAdd, Int.reduceLT, Int.reduceLE, Int.reduceAdd, Int.reduceSub, Int.reduceToNat, Int.reduceBEq, Int.reduceBNe, Int.reduceMul, Nat.reduceBEq, Nat.reduceBNe, Nat.reduceLT, Nat.reduceLeDiff, Nat.reduceMul, Nat.reduceEqDiff, WD, effB, effH, isPriv, isHeap, isImm, zbx, zby, zbz, chkO, setD, dslot, zca, zcb, zcc, zcd, ptrCells_some, F9]
      cases h2 : decide (globals < 0) with
      | true =>
        have h2' : globals < 0 := by simpa using h2
        simp only [WW, partV, eqCells, eqLf, minV, maxV, ifcV, zaa, zab, zac, zad, zae, zaf, zag, zah, zai, ofConst, ofConst1, List.replicate, zaj, zak, loadOp, Go.Abs.loadCells, binV, zal, pickV, zam, zan, zao, zap, zaq, zar, zas, zat, zau, outR, resAll, resOne, zav, zaw, zax, zay, zaz, zba, zbb, zbc, zbd, zbe, zbf, zbg, zbh, zbi, zbj, zbk, storeOp, storeCell, overlay, zbl, zbm, zbn, lookupOp, keyT, okRes, mapUpdateOp, zbo, zbp, zbq, zbr, zbs, zbt, zbu, Nat.reduceSub, Nat.reduceAdd, Int.reduceLT, Int.reduceLE, Int.reduceAdd, Int.reduceSub, Int.reduceToNat, Int.reduceBEq, Int.reduceBNe, Int.reduceMul, Nat.reduceBEq, Nat.reduceBNe, Nat.reduceLT, Nat.reduceLeDiff, Nat.reduceMul, Nat.reduceEqDiff, WD, effB, effH, isPriv, isHeap, isImm, zbx, zby, zbz, chkO, setD, dslot, zca, zcb, zcc, zcd, ptrCells_some, F9]
        simp [h2']
      | false =>
        have h2' : ¬ globals < 0 := by simpa using h2
        simp only [WW, partV, eqCells, eqLf, minV, maxV, ifcV, zaa, zab, zac, zad, zae, zaf, zag, zah, zai, ofConst, ofConst1, List.replicate, zaj, zak, loadOp, Go.Abs.loadCells, binV, zal, pickV, zam, zan, zao, zap, zaq, zar, zas, zat, zau, outR, resAll, resOne, zav, zaw, zax, zay, zaz, zba, zbb, zbc, zbd, zbe, zbf, zbg, zbh, zbi, zbj, zbk, storeOp, storeCell, overlay, zbl, zbm, zbn, lookupOp, keyT, okRes, mapUpdateOp, zbo, zbp, zbq, zbr, zbs, zbt, zbu, Nat.reduceSub, Nat.reduceAdd, Int.reduceLT, Int.reduceLE, Int.reduceAdd, Int.reduceSub, Int.reduceToNat, Int.reduceBEq, Int.reduceBNe, Int.reduceMul, Nat.reduceBEq, Nat.reduceBNe, Nat.reduceLT, Nat.reduceLeDiff, Nat.reduceMul, Nat.reduceEqDiff, WD, effB, effH, isPriv, isHeap, isImm, zbx, zby, zbz, chkO, setD, dslot, zca, zcb, zcc, zcd, ptrCells_some, F9]
        refine cStep_of (fun h3 => ?_) (fun h3 => ?_)
        · have h3' : 1024 < globals := by simpa using h3
          simp only [WW, partV, eqCells, eqLf, minV, maxV, ifcV, zaa, zab, zac, zad, zae, zaf, zag, zah, zai, ofConst, ofConst1, List.replicate, zaj, zak, loadOp, Go.Abs.loadCells, binV, zal, pickV, zam, zan, zao, zap, zaq, zar, zas, zat, zau, outR, resAll, resOne, zav, zaw, zax, zay, zaz, zba, zbb, zbc, zbd, zbe, zbf, zbg, zbh, zbi, zbj, zbk, storeOp, storeCell, overlay, zbl, zbm, zbn, lookupOp, keyT, okRes, mapUpdateOp, zbo, zbp, zbq, zbr, zbs, zbt, zbu, Nat.reduceSub, Nat.reduceAdd, Int.reduceLT, Int.reduceLE, Int.reduceAdd, Int.reduceSub, Int.reduceToNat, Int.reduceBEq, Int.reduceBNe, Int.reduceMul, Nat.reduceBEq, Nat.reduceBNe, Nat.reduceLT, Nat.reduceLeDiff, Nat.reduceMul, Nat.reduceEqDiff, WD, effB, effH, isPriv, isHeap, isImm, zbx, zby, zbz, chkO, setD, dslot, zca, zcb, zcc, zcd, ptrCells_some, F9]
          simp [h3']
        · have h3' : ¬ 1024 < globals := by simpa using h3
          have hb : funs = funs ∧ 0 ≤ funs ∧ funs ≤ 16777216 ∧ okV (.int .i64 0) = true ∧ V.width (.int .i64 0) = 1 ∧ 8 ≤ 4096 := ⟨rfl, by omega, by omega, rfl, rfl, by omega⟩
          have hb1 : 0 ≤ funs := by omega
          have hb2 : funs ≤ 16777216 := by omega
          simp only [WW, partV, eqCells, eqLf, minV, maxV, ifcV, zaa, zab, zac, zad, zae, zaf, zag, zah, zai, ofConst, ofConst1, List.replicate, zaj, zak, loadOp, Go.Abs.loadCells, binV, zal, pickV, zam, zan, zao, zap, zaq, zar, zas, zat, zau, outR, resAll, resOne, zav, zaw, zax, zay, zaz, zba, zbb, zbc, zbd, zbe, zbf, zbg, zbh, zbi, zbj, zbk, storeOp, storeCell, overlay, zbl, zbm, zbn, lookupOp, keyT, okRes, mapUpdateOp, zbo, zbp, zbq, zbr, zbs, zbt, zbu, Nat.reduceSub, Nat.reduceAdd, Int.reduceLT, Int.reduceLE, Int.reduceAdd, Int.reduceSub, Int.reduceToNat, Int.reduceBEq, Int.reduceBNe, Int.reduceMul, Nat.reduceBEq, Nat.reduceBNe, Nat.reduceLT, Nat.reduceLeDiff, Nat.reduceMul, Nat.reduceEqDiff, WD, effB, effH, isPriv, isHeap, isImm, zbx, zby, zbz, chkO, setD, dslot, zca, zcb, zcc, zcd, ptrCells_some, F9, buildOp, fillV, Lay.place, Bool.or_self, Bool.or_false, Bool.false_or, decide_not, ne_eq, not_true_eq_false, decide_eq_true_eq, Nat.lt_irrefl, makeSliceV, hb1, hb2]
          rw [if_neg (by omega)]
          refine ⟨by simp, ⟨⟨.nils, by simp, .inl ⟨rfl, rfl⟩⟩, ?_, (fun v hv => by cases hv), by simp, by simp, by simp, ?_⟩, _, List.append_assoc _ _ _⟩
          · rw [List.append_assoc, List.getElem?_append_right (Nat.le_refl _)]
            simp
          · simp; omega
end Go.Proofs.Ytfjbgmcdkhepkaa

namespace Go.Proofs.Ytfjbgmcdkhepkaa
open Go Go.Abs Go.Proofs
set_option maxRecDepth 100000
set_option maxHeartbeats 2000000
set_option linter.unusedVariables false
set_option linter.unusedSimpArgs false
def Ver.off (v : Ver) : Ver := { v with ok := false }
def hit (p : Nat → Ver → Bool) (all : List Ver) (j : Nat) : Bool := match all[j]? with | some v => v.ok && p j v | none => false
def hits (p : Nat → Ver → Bool) (all : List Ver) (i : Nat) : List Nat := (List.range i).filter (hit p all)
def upd (p : Nat → Ver → Bool) (all : List Ver) (i : Nat) : List Ver := all.mapIdx fun j v => if decide (j < i) && (v.ok && p j v) then v.off else v
theorem hits_succ (p : Nat → Ver → Bool) (all : List Ver) (i : Nat) : hits p all (i + 1) = hits p all i ++ (if hit p all i then [i] else []) := by
  unfold hits
  rw [List.range_succ, List.filter_append]
  congr 1
  cases h : hit p all i <;> simp [h]
theorem hits_le (p : Nat → Ver → Bool) (all : List Ver) (i : Nat) : (hits p all i).length ≤ i := by
  unfold hits
  exact Nat.le_trans (List.length_filter_le _ _) (by simp)
theorem upd_length (p : Nat → Ver → Bool) (all : List Ver) (i : Nat) : (upd p all i).length = all.length := by simp [upd]
theorem upd_at (p : Nat → Ver → Bool) (all : List Ver) (i j : Nat) : (upd p all i)[j]? = (all[j]?).map fun v => if decide (j < i) && (v.ok && p j v) then v.off else v := by
  simp [upd, List.getElem?_mapIdx]
theorem upd_id (p : Nat → Ver → Bool) (all : List Ver) (i : Nat) : (upd p all i).map (·.id) = all.map (·.id) := by
  refine List.ext_getElem? fun j => ?_
  rw [List.getElem?_map, upd_at, List.getElem?_map, Option.map_map]
  congr 1
  funext v
  simp only [Function.comp]
  split <;> rfl
theorem upd_ptr (p : Nat → Ver → Bool) (all : List Ver) (i : Nat) : (upd p all i).map ptrV = all.map ptrV := by
  have : ∀ l : List Ver, l.map ptrV = (l.map (·.id)).map fun k => V.ptr k 0 0 := fun l => by rw [List.map_map]; rfl
  rw [this, this, upd_id]
theorem upd_zero (p : Nat → Ver → Bool) (all : List Ver) : upd p all 0 = all := by
  refine List.ext_getElem? fun j => ?_
  rw [upd_at]; simp
theorem upd_succ_no (p : Nat → Ver → Bool) (all : List Ver) (i : Nat) (h : hit p all i = false) : upd p all (i + 1) = upd p all i := by
  refine List.ext_getElem? fun j => ?_
  rw [upd_at, upd_at]
  cases hj : all[j]? with
  | none => rfl
  | some v =>
    simp only [Option.map_some]
    by_cases e : j = i
    · subst e
      unfold hit at h; rw [hj] at h
      simp only at h
      simp [h]
    · have : decide (j < i + 1) = decide (j < i) := by by_cases e2 : j < i <;> simp [e2] <;> omega
      rw [this]
theorem upd_succ_yes (p : Nat → Ver → Bool) (all : List Ver) (i : Nat) (v : Ver) (hv : all[i]? = some v) (h : hit p all i = true) : upd p all (i + 1) = (upd p all i).set i v.off := by
  refine List.ext_getElem? fun j => ?_
  rw [List.getElem?_set, upd_at, upd_at, upd_length]
  by_cases e : i = j
  · subst e
    have hi : i < all.length := (List.getElem?_eq_some_iff.1 hv).1
    rw [if_pos rfl, if_pos hi, hv]
    unfold hit at h; rw [hv] at h
    simp only at h
    rw [Option.map_some, h]
    simp
  · rw [if_neg e]
    have : decide (j < i + 1) = decide (j < i) := by by_cases e2 : j < i <;> simp [e2] <;> omega
    rw [this]
/-- A version is ended. -/
theorem Reg.off {H : Hp} {d c : Nat} {g : Int} {cnt : List Int} {all : List Ver} (R : Reg H d c g cnt all) {i : Nat} {v : Ver} (hv : all[i]? = some v) : Reg (H.set v.id (.cells [verV v.off])) d c g cnt (all.set i v.off) := by
  have hmem := List.mem_of_getElem? hv
  have hi : i < all.length := (List.getElem?_eq_some_iff.1 hv).1
  have hvid : v.id ∈ all.map (·.id) := List.mem_map.2 ⟨v, hmem, rfl⟩
  have hids : (all.set i v.off).map (·.id) = all.map (·.id) := by
    rw [List.map_set]
    refine List.ext_getElem? fun j => ?_
    rw [List.getElem?_set]
    split
    · rename_i e; subst e; simp [hi, Ver.off]
      rw [List.getElem?_eq_getElem hi] at hv; cases hv; rfl
    · rfl
  have hptr : (all.set i v.off).map ptrV = all.map ptrV := by
    have : ∀ l : List Ver, l.map ptrV = (l.map (·.id)).map fun k => V.ptr k 0 0 := fun l => by rw [List.map_map]; rfl
    rw [this, this, hids]
  have hlt : v.id < H.length := (List.getElem?_eq_some_iff.1 (R.vs v hmem).1).1
  refine ⟨?_, ?_, fun w hw => ?_, by rw [hids]; exact R.nd, by rw [hids]; exact R.nc, by simp; exact R.len, R.cl⟩
  · obtain ⟨al, h1, h2⟩ := R.ex
    refine ⟨al, ?_, ?_⟩
    · rw [List.getElem?_set, if_neg (fun e => R.nc.2.1 (by rw [← e]; exact hvid))]; exact h1
    · rcases h2 with ⟨h2, h3⟩ | ⟨rid, ns, h2, h3, h4⟩
      · subst h3; simp at hi
      · refine .inr ⟨rid, ns, by simp [h2], ?_, by simpa using h4⟩
        rw [hptr, List.getElem?_set]
        split
        · rename_i e; subst e; rw [(R.vs v hmem).1] at h3; cases h3
        · exact h3
  · rw [List.getElem?_set, if_neg (fun e => R.nc.2.2 (by rw [← e]; exact hvid))]; exact R.cn
  · obtain ⟨j, hj⟩ := List.getElem?_of_mem hw
    rw [List.getElem?_set] at hj
    split at hj
    · rename_i e
      subst e
      simp only [hi, if_true, Option.some.injEq] at hj
      subst hj
      have := R.vs v hmem
      refine ⟨?_, this.2⟩
      show (H.set v.id _)[v.id]? = _
      rw [List.getElem?_set, if_pos rfl, if_pos hlt]
    · rename_i e
      have hw2 := List.mem_of_getElem? hj
      have hne : v.id ≠ w.id := fun e2 => by
        have h1 : (all.map (·.id))[i]? = some v.id := by rw [List.getElem?_map, hv]; rfl
        have h2 : (all.map (·.id))[j]? = some v.id := by rw [List.getElem?_map, hj, e2]; rfl
        have hj2 : j < (all.map (·.id)).length := (List.getElem?_eq_some_iff.1 h2).1
        have hi2 : i < (all.map (·.id)).length := (List.getElem?_eq_some_iff.1 h1).1
        rw [List.getElem?_eq_getElem hi2] at h1
        rw [List.getElem?_eq_getElem hj2] at h2
        exact e ((List.getElem_inj R.nd).1 (by simp only [Option.some.injEq] at h1 h2; rw [h1, h2]))
      have := R.vs w hw2
      refine ⟨?_, this.2⟩
      rw [List.getElem?_set, if_neg hne]; exact this.1
theorem wide_ints (l : List Nat) : wideAll (l.map fun (j : Nat) => V.int .i64 j) 1 = true := by
  simp [wideAll, V.width, V.cells]
def idsV (l : List Nat) : List V := l.map fun (j : Nat) => V.int .i64 j
/-- More memory leaves the registry as it is. -/
theorem Reg.more {H : Hp} {d c : Nat} {g : Int} {cnt : List Int} {all : List Ver} (R : Reg H d c g cnt all) (e : Hp) : Reg (H ++ e) d c g cnt all := by
  have mono : ∀ {k : Nat} {b : Blk}, H[k]? = some b → (H ++ e)[k]? = some b := fun {k b} h => by
    rw [List.getElem?_append_left ((List.getElem?_eq_some_iff.1 h).1)]; exact h
  obtain ⟨al, h1, h2⟩ := R.ex
  refine ⟨⟨al, mono h1, h2.imp id fun ⟨rid, ns, a, b, c⟩ => ⟨rid, ns, a, mono b, c⟩⟩, mono R.cn, fun v hv => ⟨mono (R.vs v hv).1, (R.vs v hv).2⟩, R.nd, R.nc, R.len, R.cl⟩
/-- Only what is new is changed. -/
structure Fsh (n : Nat) (H H' : Hp) : Prop where
  lt : ∀ k, k < n → H'[k]? = H[k]?
  row : ∀ (k : Nat) ns es, H[k]? = some (.row ns es) → H'[k]? = some (.row ns es)
  len : H.length ≤ H'.length
theorem Fsh.refl (n : Nat) (H : Hp) : Fsh n H H := ⟨fun _ _ => rfl, fun _ _ _ h => h, Nat.le_refl _⟩
theorem Fsh.trans {n : Nat} {A B C : Hp} (h : Fsh n A B) (k : Fsh n B C) : Fsh n A C := ⟨fun i hi => (k.lt i hi).trans (h.lt i hi), fun i ns es e => k.row i ns es (h.row i ns es e), Nat.le_trans h.len k.len⟩
theorem Fsh.app {n : Nat} {H : Hp} (hn : n ≤ H.length) (e : Hp) : Fsh n H (H ++ e) := ⟨fun k hk => by rw [List.getElem?_append_left (by omega)], fun k ns es h => by rw [List.getElem?_append_left ((List.getElem?_eq_some_iff.1 h).1)]; exact h, by simp⟩
theorem Fsh.set {n : Nat} {H : Hp} {id : Nat} {es : List V} (hn : n ≤ id) (h : H[id]? = some (.cells es)) (b : Blk) : Fsh n H (H.set id b) := ⟨fun k hk => by rw [List.getElem?_set_ne (by omega)], fun k ns es' hk => (by
  rw [List.getElem?_set_ne]
  · exact hk
  · rintro rfl; rw [h] at hk; cases hk), by simp⟩
theorem Fsh.setCells {n : Nat} {H : Hp} {id : Nat} {es : List V} (hn : n ≤ id) (h : H[id]? = some (.cells es)) (es' : List V) : Fsh n H (H.set id (.cells es')) := Fsh.set hn h _
theorem Fsh.mono {n m : Nat} {A B : Hp} (h : Fsh n A B) (hm : m ≤ n) : Fsh m A B := ⟨fun k hk => h.lt k (by omega), h.row, h.len⟩
structure RegLt (n d c : Nat) (all : List Ver) : Prop where
  d : d < n
  c : c < n
  v : ∀ v ∈ all, v.id < n
theorem Reg.lt {H : Hp} {d c : Nat} {g : Int} {cnt : List Int} {all : List Ver} (R : Reg H d c g cnt all) : RegLt H.length d c all := by
  obtain ⟨al, ho, _⟩ := R.ex
  exact ⟨(List.getElem?_eq_some_iff.1 ho).1, (List.getElem?_eq_some_iff.1 R.cn).1, fun v hv => (List.getElem?_eq_some_iff.1 (R.vs v hv).1).1⟩
theorem RegLt.ids {n d c : Nat} {all all' : List Ver} (h : RegLt n d c all) (e : all'.map (·.id) = all.map (·.id)) : RegLt n d c all' := ⟨h.d, h.c, fun v hv => by
  have : v.id ∈ all'.map (·.id) := List.mem_map.2 ⟨v, hv, rfl⟩
  rw [e] at this
  obtain ⟨w, hw, e2⟩ := List.mem_map.1 this
  rw [← e2]; exact h.v w hw⟩
theorem Reg.fsh {H H' : Hp} {d c n : Nat} {g : Int} {cnt : List Int} {all : List Ver} (R : Reg H d c g cnt all) (hl : RegLt n d c all) (hf : Fsh n H H') : Reg H' d c g cnt all := by
  obtain ⟨al, h1, h2⟩ := R.ex
  refine ⟨⟨al, by rw [hf.lt _ hl.d]; exact h1, h2.imp id fun ⟨rid, ns, a, b, c⟩ => ⟨rid, ns, a, hf.row _ _ _ b, c⟩⟩, by rw [hf.lt _ hl.c]; exact R.cn, fun v hv => ⟨by rw [hf.lt _ (hl.v v hv)]; exact (R.vs v hv).1, (R.vs v hv).2⟩, R.nd, R.nc, R.len, R.cl⟩
/-- What is handed back: nil, or new memory. -/
def OutS (n : Nat) (H : Hp) (y : V) (l : List Nat) : Prop := (l = [] ∧ y = .nils) ∨ (l ≠ [] ∧ ∃ id, n ≤ id ∧ y = .sl id 0 l.length ∧ H[id]? = some (.cells (idsV l)))
theorem OutS.sx {n : Nat} {H : Hp} {y : V} {l : List Nat} (h : OutS n H y l) : Sx H y (idsV l) := by
  rcases h with ⟨rfl, rfl⟩ | ⟨_, id, _, rfl, h⟩
  · exact .nils
  · have := Sx.whole h
    rwa [show (idsV l).length = l.length by simp [idsV]] at this
/-- All but the versions' own memory is as it was. -/
structure Frm (all : List Ver) (H H' : Hp) : Prop where
  old : ∀ k, k < H.length → k ∉ all.map (·.id) → H'[k]? = H[k]?
  len : H.length ≤ H'.length
theorem happen_eq {H : Hp} {d c : Nat} {g : Int} {cnt : List Int} {all : List Ver} (R : Reg H d c g cnt all) (t : TypeId) (x : V) (fid : FuncId) (p : Nat → Ver → Bool)
    (hm : methodT Try.prog t "jacquard/deps.ends" = some fid) (hc : callable Try.prog fid = true)
    (hp : ∀ (i : Nat) (v : Ver) (H' : Hp), all[i]? = some v → H'[v.id]? = some (.cells [verV v]) → EW fid [x, .int .i64 i, .ptr v.id 0 0] H' = some (.ret (.bool (p i v)) false, H')) :
    wpCall EW 26 [.ptr d 0 0, .ifc t x] H (fun out H' => ∃ y, out = .ret y false ∧ OutS H.length H' y (hits p all all.length) ∧ Reg H' d c g cnt (upd p all all.length) ∧ Frm all H H') := by
  obtain ⟨al, ho, ha⟩ := R.ex
  have hltv := R.lt.v
  refine runs f26 b26 r26 n26 _ _ ?_
  simp only [bodyOf, Try.f26, Option.getD_some]
  rcases ha with ⟨rfl, rfl⟩ | ⟨rid, ns, rfl, hrow, hne⟩
  · simp only [WW, partV, eqCells, eqLf, minV, maxV, ifcV, zaa, zab, zac, zad, zae, zaf, zag, zah, zai, ofConst, ofConst1, List.replicate, zaj, zak, loadOp, Go.Abs.loadCells, binV, zal, pickV, zam, zan, zao, zap, zaq, zar, zas, zat, zau, outR, resAll, resOne, zav, zaw, zax, zay, zaz, zba, zbb, zbc, zbd, zbe, zbf, zbg, zbh, zbi, zbj, zbk, storeOp, storeCell, overlay, zbl, zbm, zbn, lookupOp, keyT, okRes, mapUpdateOp, zbo, zbp, zbq, zbr, zbs, zbt, zbu, Nat.reduceSub, Nat.reduceAdd, Int.reduceLT, Int.reduceLE, Int.reduceAdd, Int.reduceSub, Int.reduceToNat, Int.reduceBEq, Int.reduceBNe, Int.reduceMul, Nat.reduceBEq, Nat.reduceBNe, Nat.reduceLT, Nat.reduceLeDiff, Nat.reduceMul, Nat.reduceEqDiff, WD, effB, effH, isPriv, isHeap, isImm, zbx, zby, zbz, chkO, setD, dslot, zca, zcb, zcc, zcd, ptrCells_some, F26, ho]
    refine wC_loop _ (fun n st H' => st = ⟨L26_3 (.v (.ifc t x)) (.v .nils) (.v .nils) (.v (.int .i64 0)) (.v (.int .i64 0)), [], []⟩ ∧ H' = H) 0 ⟨?_, rfl⟩ ?_
    · simp only [WN, firstReg, growAll, zbv, zbw, norm, killS, zag, zah, zaa, zab, zbl, zat, zad, growOne, zae, zaf, zac, zas, zak, Nat.reduceLT, Nat.reduceAdd, zbj, zav, F26, L26_3, WW, partV, eqCells, eqLf, minV, maxV, ifcV, zai, ofConst, ofConst1, List.replicate, zaj, loadOp, Go.Abs.loadCells, binV, zal, pickV, zam, zan, zao, zap, zaq, zar, zau, outR, resAll, resOne, zaw, zax, zay, zaz, zba, zbb, zbc, zbd, zbe, zbf, zbg, zbh, zbi, zbk, storeOp, storeCell, overlay, zbm, zbn, lookupOp, keyT, okRes, mapUpdateOp, zbo, zbp, zbq, zbr, zbs, zbt, zbu, Nat.reduceSub, Int.reduceLT, Int.reduceLE, Int.reduceAdd, Int.reduceSub, Int.reduceToNat, Int.reduceBEq, Int.reduceBNe, Int.reduceMul, Nat.reduceBEq, Nat.reduceBNe, Nat.reduceLeDiff, Nat.reduceMul, Nat.reduceEqDiff]
    · rintro n st H' ⟨rfl, rfl⟩
      simp only [L26_3]
      simp only [WW, partV, eqCells, eqLf, minV, maxV, ifcV, zaa, zab, zac, zad, zae, zaf, zag, zah, zai, ofConst, ofConst1, List.replicate, zaj, zak, loadOp, Go.Abs.loadCells, binV, zal, pickV, zam, zan, zao, zap, zaq, zar, zas, zat, zau, outR, resAll, resOne, zav, zaw, zax, zay, zaz, zba, zbb, zbc, zbd, zbe, zbf, zbg, zbh, zbi, zbj, zbk, storeOp, storeCell, overlay, zbl, zbm, zbn, lookupOp, keyT, okRes, mapUpdateOp, zbo, zbp, zbq, zbr, zbs, zbt, zbu, Nat.reduceSub, Nat.reduceAdd, Int.reduceLT, Int.reduceLE, Int.reduceAdd, Int.reduceSub, Int.reduceToNat, Int.reduceBEq, Int.reduceBNe, Int.reduceMul, Nat.reduceBEq, Nat.reduceBNe, Nat.reduceLT, Nat.reduceLeDiff, Nat.reduceMul, Nat.reduceEqDiff, WD, effB, effH, isPriv, isHeap, isImm, zbx, zby, zbz, chkO, setD, dslot, zca, zcb, zcc, zcd, ptrCells_some, F26]
      exact ⟨_, rfl, .inl ⟨rfl, rfl⟩, by simpa [upd_zero] using R, fun _ _ _ => rfl, Nat.le_refl _⟩
  · simp only [WW, partV, eqCells, eqLf, minV, maxV, ifcV, zaa, zab, zac, zad, zae, zaf, zag, zah, zai, ofConst, ofConst1, List.replicate, zaj, zak, loadOp, Go.Abs.loadCells, binV, zal, pickV, zam, zan, zao, zap, zaq, zar, zas, zat, zau, outR, resAll, resOne, zav, zaw, zax, zay, zaz, zba, zbb, zbc, zbd, zbe, zbf, zbg, zbh, zbi, zbj, zbk, storeOp, storeCell, overlay, zbl, zbm, zbn, lookupOp, keyT, okRes, mapUpdateOp, zbo, zbp, zbq, zbr, zbs, zbt, zbu, Nat.reduceSub, Nat.reduceAdd, Int.reduceLT, Int.reduceLE, Int.reduceAdd, Int.reduceSub, Int.reduceToNat, Int.reduceBEq, Int.reduceBNe, Int.reduceMul, Nat.reduceBEq, Nat.reduceBNe, Nat.reduceLT, Nat.reduceLeDiff, Nat.reduceMul, Nat.reduceEqDiff, WD, effB, effH, isPriv, isHeap, isImm, zbx, zby, zbz, chkO, setD, dslot, zca, zcb, zcc, zcd, ptrCells_some, F26, ho]
    refine wC_loop _ (fun n st H' => ∃ (i : Nat) (y : V), st = ⟨L26_3 (.v (.ifc t x)) (.v y) (.v (.hr rid all.length)) (.v (.int .i64 all.length)) (.v (.int .i64 i)), [], []⟩ ∧ i ≤ all.length ∧ n = all.length - i ∧
      OutS H.length H' y (hits p all i) ∧ Reg H' d c g cnt (upd p all i) ∧ Frm all H H' ∧ H'[rid]? = some (.row ns (all.map ptrV))) all.length ⟨0, .nils, ?_, by omega, by omega, .inl ⟨rfl, rfl⟩, by rw [upd_zero]; exact R, ⟨fun _ _ _ => rfl, Nat.le_refl _⟩, hrow⟩ ?_
    · simp only [WN, firstReg, growAll, zbv, zbw, norm, killS, zag, zah, zaa, zab, zbl, zat, zad, growOne, zae, zaf, zac, zas, zak, Nat.reduceLT, Nat.reduceAdd, zbj, zav, F26, L26_3, WW, partV, eqCells, eqLf, minV, maxV, ifcV, zai, ofConst, ofConst1, List.replicate, zaj, loadOp, Go.Abs.loadCells, binV, zal, pickV, zam, zan, zao, zap, zaq, zar, zau, outR, resAll, resOne, zaw, zax, zay, zaz, zba, zbb, zbc, zbd, zbe, zbf, zbg, zbh, zbi, zbk, storeOp, storeCell, overlay, zbm, zbn, lookupOp, keyT, okRes, mapUpdateOp, zbo, zbp, zbq, zbr, zbs, zbt, zbu, Nat.reduceSub, Int.reduceLT, Int.reduceLE, Int.reduceAdd, Int.reduceSub, Int.reduceToNat, Int.reduceBEq, Int.reduceBNe, Int.reduceMul, Nat.reduceBEq, Nat.reduceBNe, Nat.reduceLeDiff, Nat.reduceMul, Nat.reduceEqDiff]
      rfl
    · rintro n st H' ⟨i, y, rfl, hi, hn, hy, R', hfr, hrow'⟩
      have hv := view_hr (n := all.length) hrow' (by simp) (by simpa using hne)
      have hcy : ∀ a b, clip a b (.v y) = .v y := hy.sx.rd.clip2
      simp only [L26_3]
      simp only [WW, partV, eqCells, eqLf, minV, maxV, ifcV, zaa, zab, zac, zad, zae, zaf, zag, zah, zai, ofConst, ofConst1, List.replicate, zaj, zak, loadOp, Go.Abs.loadCells, binV, zal, pickV, zam, zan, zao, zap, zaq, zar, zas, zat, zau, outR, resAll, resOne, zav, zaw, zax, zay, zaz, zba, zbb, zbc, zbd, zbe, zbf, zbg, zbh, zbi, zbj, zbk, storeOp, storeCell, overlay, zbl, zbm, zbn, lookupOp, keyT, okRes, mapUpdateOp, zbo, zbp, zbq, zbr, zbs, zbt, zbu, Nat.reduceSub, Nat.reduceAdd, Int.reduceLT, Int.reduceLE, Int.reduceAdd, Int.reduceSub, Int.reduceToNat, Int.reduceBEq, Int.reduceBNe, Int.reduceMul, Nat.reduceBEq, Nat.reduceBNe, Nat.reduceLT, Nat.reduceLeDiff, Nat.reduceMul, Nat.reduceEqDiff, WD, effB, effH, isPriv, isHeap, isImm, zbx, zby, zbz, chkO, setD, dslot, zca, zcb, zcc, zcd, ptrCells_some, F26]
      refine cStep_of (fun hlt => ?_) (fun hge => ?_)
      · have hi2 : i < all.length := by simpa using hlt
        have hd : all[i]? = some all[i] := List.getElem?_eq_getElem hi2
        generalize all[i] = v at hd
        have hd' : (upd p all i)[i]? = some v := by rw [upd_at, hd]; simp
        obtain ⟨hv1, hv2, hv3⟩ := R'.vs v (List.mem_of_getElem? hd')
        have hll := R.len
        have hcall := hp i v H' hd hv1
        simp only [WW, partV, eqCells, eqLf, minV, maxV, ifcV, zaa, zab, zac, zad, zae, zaf, zag, zah, zai, ofConst, ofConst1, List.replicate, zaj, zak, loadOp, Go.Abs.loadCells, binV, zal, pickV, zam, zan, zao, zap, zaq, zar, zas, zat, zau, outR, resAll, resOne, zav, zaw, zax, zay, zaz, zba, zbb, zbc, zbd, zbe, zbf, zbg, zbh, zbi, zbj, zbk, storeOp, storeCell, overlay, zbl, zbm, zbn, lookupOp, keyT, okRes, mapUpdateOp, zbo, zbp, zbq, zbr, zbs, zbt, zbu, Nat.reduceSub, Nat.reduceAdd, Int.reduceLT, Int.reduceLE, Int.reduceAdd, Int.reduceSub, Int.reduceToNat, Int.reduceBEq, Int.reduceBNe, Int.reduceMul, Nat.reduceBEq, Nat.reduceBNe, Nat.reduceLT, Nat.reduceLeDiff, Nat.reduceMul, Nat.reduceEqDiff, WD, effB, effH, isPriv, isHeap, isImm, zbx, zby, zbz, chkO, setD, dslot, zca, zcb, zcc, zcd, ptrCells_some, F26, hv, List.getElem?_map, hd, ptrV, hv1, verV]
        cases hok : v.ok with
        | false =>
          have hh : hit p all i = false := by unfold hit; rw [hd]; simp [hok]
          simp only [WW, partV, eqCells, eqLf, minV, maxV, ifcV, zaa, zab, zac, zad, zae, zaf, zag, zah, zai, ofConst, ofConst1, List.replicate, zaj, zak, loadOp, Go.Abs.loadCells, binV, zal, pickV, zam, zan, zao, zap, zaq, zar, zas, zat, zau, outR, resAll, resOne, zav, zaw, zax, zay, zaz, zba, zbb, zbc, zbd, zbe, zbf, zbg, zbh, zbi, zbj, zbk, storeOp, storeCell, overlay, zbl, zbm, zbn, lookupOp, keyT, okRes, mapUpdateOp, zbo, zbp, zbq, zbr, zbs, zbt, zbu, Nat.reduceSub, Nat.reduceAdd, Int.reduceLT, Int.reduceLE, Int.reduceAdd, Int.reduceSub, Int.reduceToNat, Int.reduceBEq, Int.reduceBNe, Int.reduceMul, Nat.reduceBEq, Nat.reduceBNe, Nat.reduceLT, Nat.reduceLeDiff, Nat.reduceMul, Nat.reduceEqDiff, WD, effB, effH, isPriv, isHeap, isImm, zbx, zby, zbz, chkO, setD, dslot, zca, zcb, zcc, zcd, ptrCells_some, F26]
          refine ⟨n - 1, by omega, i + 1, y, ?_, by omega, by omega, ?_, by rw [upd_succ_no p all i hh]; exact R', hfr, hrow'⟩
          · simp only [WN, firstReg, growAll, zbv, zbw, norm, killS, zag, zah, zaa, zab, zbl, zat, zad, growOne, zae, zaf, zac, zas, zak, Nat.reduceLT, Nat.reduceAdd, zbj, zav, F26, WW, partV, eqCells, eqLf, minV, maxV, ifcV, zai, ofConst, ofConst1, List.replicate, zaj, loadOp, Go.Abs.loadCells, binV, zal, pickV, zam, zan, zao, zap, zaq, zar, zau, outR, resAll, resOne, zaw, zax, zay, zaz, zba, zbb, zbc, zbd, zbe, zbf, zbg, zbh, zbi, zbk, storeOp, storeCell, overlay, zbm, zbn, lookupOp, keyT, okRes, mapUpdateOp, zbo, zbp, zbq, zbr, zbs, zbt, zbu, Nat.reduceSub, Int.reduceLT, Int.reduceLE, Int.reduceAdd, Int.reduceSub, Int.reduceToNat, Int.reduceBEq, Int.reduceBNe, Int.reduceMul, Nat.reduceBEq, Nat.reduceBNe, Nat.reduceLeDiff, Nat.reduceMul, Nat.reduceEqDiff, hcy]
            rw [IntWalk.i64_in _ (by omega)]
            rfl
          · rw [hits_succ, hh, if_neg (by simp), List.append_nil]; exact hy
        | true =>
          simp only [WW, partV, eqCells, eqLf, minV, maxV, ifcV, zaa, zab, zac, zad, zae, zaf, zag, zah, zai, ofConst, ofConst1, List.replicate, zaj, zak, loadOp, Go.Abs.loadCells, binV, zal, pickV, zam, zan, zao, zap, zaq, zar, zas, zat, zau, outR, resAll, resOne, zav, zaw, zax, zay, zaz, zba, zbb, zbc, zbd, zbe, zbf, zbg, zbh, zbi, zbj, zbk, storeOp, storeCell, overlay, zbl, zbm, zbn, lookupOp, keyT, okRes, mapUpdateOp, zbo, zbp, zbq, zbr, zbs, zbt, zbu, Nat.reduceSub, Nat.reduceAdd, Int.reduceLT, Int.reduceLE, Int.reduceAdd, Int.reduceSub, Int.reduceToNat, Int.reduceBEq, Int.reduceBNe, Int.reduceMul, Nat.reduceBEq, Nat.reduceBNe, Nat.reduceLT, Nat.reduceLeDiff, Nat.reduceMul, Nat.reduceEqDiff, WD, effB, effH, isPriv, isHeap, isImm, zbx, zby, zbz, chkO, setD, dslot, zca, zcb, zcc, zcd, ptrCells_some, F26, hm, hc]
          rw [wpCall_eq hcall]
          simp only [WW, partV, eqCells, eqLf, minV, maxV, ifcV, zaa, zab, zac, zad, zae, zaf, zag, zah, zai, ofConst, ofConst1, List.replicate, zaj, zak, loadOp, Go.Abs.loadCells, binV, zal, pickV, zam, zan, zao, zap, zaq, zar, zas, zat, zau, outR, resAll, resOne, zav, zaw, zax, zay, zaz, zba, zbb, zbc, zbd, zbe, zbf, zbg, zbh, zbi, zbj, zbk, storeOp, storeCell, overlay, zbl, zbm, zbn, lookupOp, keyT, okRes, mapUpdateOp, zbo, zbp, zbq, zbr, zbs, zbt, zbu, Nat.reduceSub, Nat.reduceAdd, Int.reduceLT, Int.reduceLE, Int.reduceAdd, Int.reduceSub, Int.reduceToNat, Int.reduceBEq, Int.reduceBNe, Int.reduceMul, Nat.reduceBEq, Nat.reduceBNe, Nat.reduceLT, Nat.reduceLeDiff, Nat.reduceMul, Nat.reduceEqDiff, WD, effB, effH, isPriv, isHeap, isImm, zbx, zby, zbz, chkO, setD, dslot, zca, zcb, zcc, zcd, ptrCells_some, F26]
          refine cStep_of (fun h2 => ?_) (fun h2 => ?_)
          · have hh : hit p all i = true := by unfold hit; rw [hd]; simp [hok, h2]
            have hle := hits_le p all i
            have w1 : wideAll [V.int .i64 (i : Int)] 1 = true := rfl
            have w2 : wideAll (idsV (hits p all i)) 1 = true := wide_ints _
            have q1 : (idsV (hits p all i)).length = (hits p all i).length := by simp [idsV]
            have q2 : decide (((hits p all i).length + 1) * 8 ≤ 70368744177664) = true := by simp; omega
            have q3 : decide ((hits p all i).length ≤ 4611686018427387903) = true := by simp; omega
            have hvid : v.id ∈ all.map (·.id) := List.mem_map.2 ⟨v, List.mem_of_getElem? hd, rfl⟩
            have hvlt : v.id < H.length := hltv v (List.mem_of_getElem? hd)
            have hR := R'.off hd'
            simp only [verV, Ver.off] at hR
            have hlen1 := hfr.len
            rcases hy with ⟨he, rfl⟩ | ⟨he, id, hid, rfl, hcell⟩
            · simp only [WW, partV, eqCells, eqLf, minV, maxV, ifcV, zaa, zab, zac, zad, zae, zaf, zag, zah, zai, ofConst, ofConst1, List.replicate, zaj, zak, loadOp, Go.Abs.loadCells, binV, zal, pickV, zam, zan, zao, zap, zaq, zar, zas, zat, zau, outR, resAll, resOne, zav, zaw, zax, zay, zaz, zba, zbb, zbc, zbd, zbe, zbf, zbg, zbh, zbi, zbj, zbk, storeOp, storeCell, overlay, zbl, zbm, zbn, lookupOp, keyT, okRes, mapUpdateOp, zbo, zbp, zbq, zbr, zbs, zbt, zbu, Nat.reduceSub, Nat.reduceAdd, Int.reduceLT, Int.reduceLE, Int.reduceAdd, Int.reduceSub, Int.reduceToNat, Int.reduceBEq, Int.reduceBNe, Int.reduceMul, Nat.reduceBEq, Nat.reduceBNe, Nat.reduceLT, Nat.reduceLeDiff, Nat.reduceMul, Nat.reduceEqDiff, WD, effB, effH, isPriv, isHeap, isImm, zbx, zby, zbz, chkO, setD, dslot, zca, zcb, zcc, zcd, ptrCells_some, F26, storeHeap, promote, heapSet, elemSet, buildSliceV, lits, srcV_eq, srcK_sl, srcK_str, srcSl_nils, srcSl_rsl, srcSl_sl, appendOp, frow, zbv, zbw, List.all_nil, List.all_cons, rowV, Bool.false_and, Bool.and_false, ne_eq, not_false_eq_true, grows_lr, callOut_t, slCont, newSl, appendSl, sliceOp, boundV, convertOp, contV, Bool.false_or, Bool.or_false, List.isEmpty_nil, List.isEmpty_cons, Option.map_none, hv1, verV, w1]
              refine ⟨n - 1, by omega, i + 1, .sl H'.length 0 1, ?_, by omega, by omega, ?_, ?_, ⟨fun k hk hno => ?_, by simp; omega⟩, ?_⟩
              · simp only [WN, firstReg, growAll, zbv, zbw, norm, killS, zag, zah, zaa, zab, zbl, zat, zad, growOne, zae, zaf, zac, zas, zak, Nat.reduceLT, Nat.reduceAdd, zbj, zav, F26, WW, partV, eqCells, eqLf, minV, maxV, ifcV, zai, ofConst, ofConst1, List.replicate, zaj, loadOp, Go.Abs.loadCells, binV, zal, pickV, zam, zan, zao, zap, zaq, zar, zau, outR, resAll, resOne, zaw, zax, zay, zaz, zba, zbb, zbc, zbd, zbe, zbf, zbg, zbh, zbi, zbk, storeOp, storeCell, overlay, zbm, zbn, lookupOp, keyT, okRes, mapUpdateOp, zbo, zbp, zbq, zbr, zbs, zbt, zbu, Nat.reduceSub, Int.reduceLT, Int.reduceLE, Int.reduceAdd, Int.reduceSub, Int.reduceToNat, Int.reduceBEq, Int.reduceBNe, Int.reduceMul, Nat.reduceBEq, Nat.reduceBNe, Nat.reduceLeDiff, Nat.reduceMul, Nat.reduceEqDiff, List.length_set]
                rw [IntWalk.i64_in _ (by omega)]
                rfl
              · right
                rw [hits_succ, hh, if_pos rfl, he]
                exact ⟨by simp, H'.length, hlen1, rfl, by rw [List.getElem?_append_right (by simp)]; simp [idsV]⟩
              · rw [upd_succ_yes p all i v hd hh]; exact hR.more _
              · rw [List.getElem?_append_left (by simp; omega), List.getElem?_set_ne (fun e => hno (by rw [← e]; exact hvid))]
                exact hfr.old k hk hno
              · rw [List.getElem?_append_left (by simp; exact (List.getElem?_eq_some_iff.1 hrow').1), List.getElem?_set_ne]
                · exact hrow'
                · intro e; rw [← e, hv1] at hrow'; cases hrow'
            · have hidlt := (List.getElem?_eq_some_iff.1 hcell).1
              have hcell2 : (H'.set v.id (.cells [.agg [.int .i64 v.f, v.on, .bool false]]))[id]? = some (.cells (idsV (hits p all i))) := by
                rw [List.getElem?_set_ne (by omega)]; exact hcell
              have e1 : (idsV (hits p all i)).isEmpty = false := by
                cases hq : hits p all i with
                | nil => exact absurd hq he
                | cons a b => rfl
              have e2 : decide ((idsV (hits p all i)).length < (hits p all i).length) = false := by rw [q1]; simp
              have e3 : ¬ (hits p all i).length + 1 ≤ (idsV (hits p all i)).length := by rw [q1]; omega
              simp only [WW, partV, eqCells, eqLf, minV, maxV, ifcV, zaa, zab, zac, zad, zae, zaf, zag, zah, zai, ofConst, ofConst1, List.replicate, zaj, zak, loadOp, Go.Abs.loadCells, binV, zal, pickV, zam, zan, zao, zap, zaq, zar, zas, zat, zau, outR, resAll, resOne, zav, zaw, zax, zay, zaz, zba, zbb, zbc, zbd, zbe, zbf, zbg, zbh, zbi, zbj, zbk, storeOp, storeCell, overlay, zbl, zbm, zbn, lookupOp, keyT, okRes, mapUpdateOp, zbo, zbp, zbq, zbr, zbs, zbt, zbu, Nat.reduceSub, Nat.reduceAdd, Int.reduceLT, Int.reduceLE, Int.reduceAdd, Int.reduceSub, Int.reduceToNat, Int.reduceBEq, Int.reduceBNe, Int.reduceMul, Nat.reduceBEq, Nat.reduceBNe, Nat.reduceLT, Nat.reduceLeDiff, Nat.reduceMul, Nat.reduceEqDiff, WD, effB, effH, isPriv, isHeap, isImm, zbx, zby, zbz, chkO, setD, dslot, zca, zcb, zcc, zcd, ptrCells_some, F26, storeHeap, promote, heapSet, elemSet, buildSliceV, lits, srcV_eq, srcK_sl, srcK_str, srcSl_nils, srcSl_rsl, srcSl_sl, appendOp, frow, zbv, zbw, List.all_nil, List.all_cons, rowV, Bool.false_and, Bool.and_false, ne_eq, not_false_eq_true, grows_lr, callOut_t, slCont, newSl, appendSl, sliceOp, boundV, convertOp, contV, Bool.false_or, Bool.or_false, List.isEmpty_nil, List.isEmpty_cons, Option.map_none, hv1, verV, w1, w2, hcell2, e1, e2, e3, q2, q3]
              refine ⟨n - 1, by omega, i + 1, .sl H'.length 0 ((hits p all i).length + 1), ?_, by omega, by omega, ?_, ?_, ⟨fun k hk hno => ?_, by simp; omega⟩, ?_⟩
              · simp only [WN, firstReg, growAll, zbv, zbw, norm, killS, zag, zah, zaa, zab, zbl, zat, zad, growOne, zae, zaf, zac, zas, zak, Nat.reduceLT, Nat.reduceAdd, zbj, zav, F26, WW, partV, eqCells, eqLf, minV, maxV, ifcV, zai, ofConst, ofConst1, List.replicate, zaj, loadOp, Go.Abs.loadCells, binV, zal, pickV, zam, zan, zao, zap, zaq, zar, zau, outR, resAll, resOne, zaw, zax, zay, zaz, zba, zbb, zbc, zbd, zbe, zbf, zbg, zbh, zbi, zbk, storeOp, storeCell, overlay, zbm, zbn, lookupOp, keyT, okRes, mapUpdateOp, zbo, zbp, zbq, zbr, zbs, zbt, zbu, Nat.reduceSub, Int.reduceLT, Int.reduceLE, Int.reduceAdd, Int.reduceSub, Int.reduceToNat, Int.reduceBEq, Int.reduceBNe, Int.reduceMul, Nat.reduceBEq, Nat.reduceBNe, Nat.reduceLeDiff, Nat.reduceMul, Nat.reduceEqDiff, List.length_set]
                rw [IntWalk.i64_in _ (by omega)]
                rfl
              · right
                rw [hits_succ, hh, if_pos rfl]
                refine ⟨by simp, H'.length, hlen1, by simp, ?_⟩
                rw [List.getElem?_append_right (by simp)]
                simp only [List.length_set, Nat.sub_self, List.getElem?_cons_zero]
                rw [List.take_of_length_le (by rw [q1]; exact Nat.le_refl _)]
                simp [idsV]
              · rw [upd_succ_yes p all i v hd hh]
                refine ((hR.fsh (n := H.length) ?_ (Fsh.set hid hcell2 _))).more _
                have hu := upd_succ_yes p all i v hd hh
                simp only [Ver.off] at hu
                exact R.lt.ids (by rw [← hu, upd_id])
              · rw [List.getElem?_append_left (by simp; omega), List.getElem?_set_ne (by omega), List.getElem?_set_ne (fun e => hno (by rw [← e]; exact hvid))]
                exact hfr.old k hk hno
              · rw [List.getElem?_append_left (by simp; exact (List.getElem?_eq_some_iff.1 hrow').1), List.getElem?_set_ne, List.getElem?_set_ne]
                · exact hrow'
                · intro e; rw [← e, hv1] at hrow'; cases hrow'
                · intro e; rw [← e, hcell] at hrow'; cases hrow'
          · have hh : hit p all i = false := by unfold hit; rw [hd]; simp [h2]
            simp only [WW, partV, eqCells, eqLf, minV, maxV, ifcV, zaa, zab, zac, zad, zae, zaf, zag, zah, zai, ofConst, ofConst1, List.replicate, zaj, zak, loadOp, Go.Abs.loadCells, binV, zal, pickV, zam, zan, zao, zap, zaq, zar, zas, zat, zau, outR, resAll, resOne, zav, zaw, zax, zay, zaz, zba, zbb, zbc, zbd, zbe, zbf, zbg, zbh, zbi, zbj, zbk, storeOp, storeCell, overlay, zbl, zbm, zbn, lookupOp, keyT, okRes, mapUpdateOp, zbo, zbp, zbq, zbr, zbs, zbt, zbu, Nat.reduceSub, Nat.reduceAdd, Int.reduceLT, Int.reduceLE, Int.reduceAdd, Int.reduceSub, Int.reduceToNat, Int.reduceBEq, Int.reduceBNe, Int.reduceMul, Nat.reduceBEq, Nat.reduceBNe, Nat.reduceLT, Nat.reduceLeDiff, Nat.reduceMul, Nat.reduceEqDiff, WD, effB, effH, isPriv, isHeap, isImm, zbx, zby, zbz, chkO, setD, dslot, zca, zcb, zcc, zcd, ptrCells_some, F26]
            refine ⟨n - 1, by omega, i + 1, y, ?_, by omega, by omega, ?_, by rw [upd_succ_no p all i hh]; exact R', hfr, hrow'⟩
            · simp only [WN, firstReg, growAll, zbv, zbw, norm, killS, zag, zah, zaa, zab, zbl, zat, zad, growOne, zae, zaf, zac, zas, zak, Nat.reduceLT, Nat.reduceAdd, zbj, zav, F26, WW, partV, eqCells, eqLf, minV, maxV, ifcV, zai, ofConst, ofConst1, List.replicate, zaj, loadOp, Go.Abs.loadCells, binV, zal, pickV, zam, zan, zao, zap, zaq, zar, zau, outR, resAll, resOne, zaw, zax, zay, zaz, zba, zbb, zbc, zbd, zbe, zbf, zbg, zbh, zbi, zbk, storeOp, storeCell, overlay, zbm, zbn, lookupOp, keyT, okRes, mapUpdateOp, zbo, zbp, zbq, zbr, zbs, zbt, zbu, Nat.reduceSub, Int.reduceLT, Int.reduceLE, Int.reduceAdd, Int.reduceSub, Int.reduceToNat, Int.reduceBEq, Int.reduceBNe, Int.reduceMul, Nat.reduceBEq, Nat.reduceBNe, Nat.reduceLeDiff, Nat.reduceMul, Nat.reduceEqDiff, hcy]
              rw [IntWalk.i64_in _ (by omega)]
              rfl
            · rw [hits_succ, hh, if_neg (by simp), List.append_nil]; exact hy
      · have hi2 : i = all.length := by simp at hge; omega
        subst hi2
        simp only [WW, partV, eqCells, eqLf, minV, maxV, ifcV, zaa, zab, zac, zad, zae, zaf, zag, zah, zai, ofConst, ofConst1, List.replicate, zaj, zak, loadOp, Go.Abs.loadCells, binV, zal, pickV, zam, zan, zao, zap, zaq, zar, zas, zat, zau, outR, resAll, resOne, zav, zaw, zax, zay, zaz, zba, zbb, zbc, zbd, zbe, zbf, zbg, zbh, zbi, zbj, zbk, storeOp, storeCell, overlay, zbl, zbm, zbn, lookupOp, keyT, okRes, mapUpdateOp, zbo, zbp, zbq, zbr, zbs, zbt, zbu, Nat.reduceSub, Nat.reduceAdd, Int.reduceLT, Int.reduceLE, Int.reduceAdd, Int.reduceSub, Int.reduceToNat, Int.reduceBEq, Int.reduceBNe, Int.reduceMul, Nat.reduceBEq, Nat.reduceBNe, Nat.reduceLT, Nat.reduceLeDiff, Nat.reduceMul, Nat.reduceEqDiff, WD, effB, effH, isPriv, isHeap, isImm, zbx, zby, zbz, chkO, setD, dslot, zca, zcb, zcc, zcd, ptrCells_some, F26, hy.sx.rd.shutIn, hy.sx.rd.grows]
        exact ⟨_, rfl, hy, R', hfr⟩
end Go.Proofs.Ytfjbgmcdkhepkaa

namespace Go.Proofs.Ytfjbgmcdkhepkaa
open Go Go.Abs Go.Proofs
set_option maxRecDepth 100000
set_option maxHeartbeats 2000000
set_option linter.unusedVariables false
set_option linter.unusedSimpArgs false
theorem meth76 : methodT Try.prog 76 "jacquard/deps.ends" = some 51 := by kernel_rfl
theorem meth77 : methodT Try.prog 77 "jacquard/deps.ends" = some 53 := by kernel_rfl
def writes (gl v : Int) : Nat → Ver → Bool := fun _ w => w.l.any fun d => d.1 == gl && d.2 != v
theorem wrote_nil (gl v : Int) (H : Hp) : EW 14 [.nilp, .int .i64 gl, .int .u64 v] H = some (.ret (.tup [.nils, .int .i64 5]) false, H) := by
  refine eqOf (runs f14 b14 r14 n14 _ _ ?_)
  simp only [bodyOf, Try.f14, Option.getD_some]
  simp only [WW, partV, eqCells, eqLf, minV, maxV, ifcV, zaa, zab, zac, zad, zae, zaf, zag, zah, zai, ofConst, ofConst1, List.replicate, zaj, zak, loadOp, Go.Abs.loadCells, binV, zal, pickV, zam, zan, zao, zap, zaq, zar, zas, zat, zau, outR, resAll, resOne, zav, zaw, zax, zay, zaz, zba, zbb, zbc, zbd, zbe, zbf, zbg, zbh, zbi, zbj, zbk, storeOp, storeCell, overlay, zbl, zbm, zbn, lookupOp, keyT, okRes, mapUpdateOp, zbo, zbp, zbq, zbr, zbs, zbt, zbu, Nat.reduceSub, Nat.reduceAdd, Int.reduceLT, Int.reduceLE, Int.reduceAdd, Int.reduceSub, Int.reduceToNat, Int.reduceBEq, Int.reduceBNe, Int.reduceMul, Nat.reduceBEq, Nat.reduceBNe, Nat.reduceLT, Nat.reduceLeDiff, Nat.reduceMul, Nat.reduceEqDiff, WD, effB, effH, isPriv, isHeap, isImm, zbx, zby, zbz, chkO, setD, dslot, zca, zcb, zcc, zcd, ptrCells_some, F14]
theorem wrote_eq {H : Hp} {d c : Nat} {g : Int} {cnt : List Int} {all : List Ver} (R : Reg H d c g cnt all) (gl v : Int) :
    wpCall EW 14 [.ptr d 0 0, .int .i64 gl, .int .u64 v] H (fun out H' => if gl < 0 ∨ g ≤ gl then out = .ret (.tup [.nils, .int .i64 1]) false ∧ H' = H
      else ∃ y, out = .ret (.tup [y, .int .i64 0]) false ∧ OutS H.length H' y (hits (writes gl v) all all.length) ∧ Reg H' d c g cnt (upd (writes gl v) all all.length) ∧ Frm all H H') := by
  obtain ⟨al, ho, ha⟩ := R.ex
  refine runs f14 b14 r14 n14 _ _ ?_
  simp only [bodyOf, Try.f14, Option.getD_some]
  simp only [WW, partV, eqCells, eqLf, minV, maxV, ifcV, zaa, zab, zac, zad, zae, zaf, zag, zah, zai, ofConst, ofConst1, List.replicate, zaj, zak, loadOp, Go.Abs.loadCells, binV, zal, pickV, zam, zan, zao, zap, zaq, zar, zas, zat, zau, outR, resAll, resOne, zav, zaw, zax, zay, zaz, zba, zbb, zbc, zbd, zbe, zbf, zbg, zbh, zbi, zbj, zbk, storeOp, storeCell, overlay, zbl, zbm, zbn, lookupOp, keyT, okRes, mapUpdateOp, zbo, zbp, zbq, zbr, zbs, zbt, zbu, Nat.reduceSub, Nat.reduceAdd, Int.reduceLT, Int.reduceLE, Int.reduceAdd, Int.reduceSub, Int.reduceToNat, Int.reduceBEq, Int.reduceBNe, Int.reduceMul, Nat.reduceBEq, Nat.reduceBNe, Nat.reduceLT, Nat.reduceLeDiff, Nat.reduceMul, Nat.reduceEqDiff, WD, effB, effH, isPriv, isHeap, isImm, zbx, zby, zbz, chkO, setD, dslot, zca, zcb, zcc, zcd, ptrCells_some, F14]
  cases h0 : decide (gl < 0) with
  | true =>
    have h0' : gl < 0 := by simpa using h0
    simp only [WW, partV, eqCells, eqLf, minV, maxV, ifcV, zaa, zab, zac, zad, zae, zaf, zag, zah, zai, ofConst, ofConst1, List.replicate, zaj, zak, loadOp, Go.Abs.loadCells, binV, zal, pickV, zam, zan, zao, zap, zaq, zar, zas, zat, zau, outR, resAll, resOne, zav, zaw, zax, zay, zaz, zba, zbb, zbc, zbd, zbe, zbf, zbg, zbh, zbi, zbj, zbk, storeOp, storeCell, overlay, zbl, zbm, zbn, lookupOp, keyT, okRes, mapUpdateOp, zbo, zbp, zbq, zbr, zbs, zbt, zbu, Nat.reduceSub, Nat.reduceAdd, Int.reduceLT, Int.reduceLE, Int.reduceAdd, Int.reduceSub, Int.reduceToNat, Int.reduceBEq, Int.reduceBNe, Int.reduceMul, Nat.reduceBEq, Nat.reduceBNe, Nat.reduceLT, Nat.reduceLeDiff, Nat.reduceMul, Nat.reduceEqDiff, WD, effB, effH, isPriv, isHeap, isImm, zbx, zby, zbz, chkO, setD, dslot, zca, zcb, zcc, zcd, ptrCells_some, F14]
    simp [h0']
  | false =>
    have h0' : ¬ gl < 0 := by simpa using h0
    simp only [WW, partV, eqCells, eqLf, minV, maxV, ifcV, zaa, zab, zac, zad, zae, zaf, zag, zah, zai, ofConst, ofConst1, List.replicate, zaj, zak, loadOp, Go.Abs.loadCells, binV, zal, pickV, zam, zan, zao, zap, zaq, zar, zas, zat, zau, outR, resAll, resOne, zav, zaw, zax, zay, zaz, zba, zbb, zbc, zbd, zbe, zbf, zbg, zbh, zbi, zbj, zbk, storeOp, storeCell, overlay, zbl, zbm, zbn, lookupOp, keyT, okRes, mapUpdateOp, zbo, zbp, zbq, zbr, zbs, zbt, zbu, Nat.reduceSub, Nat.reduceAdd, Int.reduceLT, Int.reduceLE, Int.reduceAdd, Int.reduceSub, Int.reduceToNat, Int.reduceBEq, Int.reduceBNe, Int.reduceMul, Nat.reduceBEq, Nat.reduceBNe, Nat.reduceLT, Nat.reduceLeDiff, Nat.reduceMul, Nat.reduceEqDiff, WD, effB, effH, isPriv, isHeap, isImm, zbx, zby, zbz, chkO, setD, dslot, zca, zcb, zcc, zcd, ptrCells_some, F14, ho]
    refine cStep_of (fun h1 => ?_) (fun h1 => ?_)
    · have h1' : g ≤ gl := by simpa using h1
      simp only [WW, partV, eqCells, eqLf, minV, maxV, ifcV, zaa, zab, zac, zad, zae, zaf, zag, zah, zai, ofConst, ofConst1, List.replicate, zaj, zak, loadOp, Go.Abs.loadCells, binV, zal, pickV, zam, zan, zao, zap, zaq, zar, zas, zat, zau, outR, resAll, resOne, zav, zaw, zax, zay, zaz, zba, zbb, zbc, zbd, zbe, zbf, zbg, zbh, zbi, zbj, zbk, storeOp, storeCell, overlay, zbl, zbm, zbn, lookupOp, keyT, okRes, mapUpdateOp, zbo, zbp, zbq, zbr, zbs, zbt, zbu, Nat.reduceSub, Nat.reduceAdd, Int.reduceLT, Int.reduceLE, Int.reduceAdd, Int.reduceSub, Int.reduceToNat, Int.reduceBEq, Int.reduceBNe, Int.reduceMul, Nat.reduceBEq, Nat.reduceBNe, Nat.reduceLT, Nat.reduceLeDiff, Nat.reduceMul, Nat.reduceEqDiff, WD, effB, effH, isPriv, isHeap, isImm, zbx, zby, zbz, chkO, setD, dslot, zca, zcb, zcc, zcd, ptrCells_some, F14]
      simp [h1']
    · have h1' : ¬ g ≤ gl := by simpa using h1
      have h26 := happen_eq R 76 (.agg [.int .i64 gl, .int .u64 v]) 51 (writes gl v) meth76 call51 (fun i w H' hw hH => by
        have hvs := R.vs w (List.mem_of_getElem? hw)
        exact ends_written gl v i H' w.id w.f w.on w.l w.ok hH hvs.2.1 (by have := hvs.2.2; omega))
      simp only [WW, partV, eqCells, eqLf, minV, maxV, ifcV, zaa, zab, zac, zad, zae, zaf, zag, zah, zai, ofConst, ofConst1, List.replicate, zaj, zak, loadOp, Go.Abs.loadCells, binV, zal, pickV, zam, zan, zao, zap, zaq, zar, zas, zat, zau, outR, resAll, resOne, zav, zaw, zax, zay, zaz, zba, zbb, zbc, zbd, zbe, zbf, zbg, zbh, zbi, zbj, zbk, storeOp, storeCell, overlay, zbl, zbm, zbn, lookupOp, keyT, okRes, mapUpdateOp, zbo, zbp, zbq, zbr, zbs, zbt, zbu, Nat.reduceSub, Nat.reduceAdd, Int.reduceLT, Int.reduceLE, Int.reduceAdd, Int.reduceSub, Int.reduceToNat, Int.reduceBEq, Int.reduceBNe, Int.reduceMul, Nat.reduceBEq, Nat.reduceBNe, Nat.reduceLT, Nat.reduceLeDiff, Nat.reduceMul, Nat.reduceEqDiff, WD, effB, effH, isPriv, isHeap, isImm, zbx, zby, zbz, chkO, setD, dslot, zca, zcb, zcc, zcd, ptrCells_some, F14, buildOp, fillV, Lay.place, Bool.or_self, Bool.or_false, Bool.false_or, decide_not, ne_eq, not_true_eq_false, decide_eq_true_eq, Nat.lt_irrefl]
      refine wpCall_of h26 ?_
      rintro out H' ⟨y, rfl, hy, R', hfr⟩
      simp only [WW, partV, eqCells, eqLf, minV, maxV, ifcV, zaa, zab, zac, zad, zae, zaf, zag, zah, zai, ofConst, ofConst1, List.replicate, zaj, zak, loadOp, Go.Abs.loadCells, binV, zal, pickV, zam, zan, zao, zap, zaq, zar, zas, zat, zau, outR, resAll, resOne, zav, zaw, zax, zay, zaz, zba, zbb, zbc, zbd, zbe, zbf, zbg, zbh, zbi, zbj, zbk, storeOp, storeCell, overlay, zbl, zbm, zbn, lookupOp, keyT, okRes, mapUpdateOp, zbo, zbp, zbq, zbr, zbs, zbt, zbu, Nat.reduceSub, Nat.reduceAdd, Int.reduceLT, Int.reduceLE, Int.reduceAdd, Int.reduceSub, Int.reduceToNat, Int.reduceBEq, Int.reduceBNe, Int.reduceMul, Nat.reduceBEq, Nat.reduceBNe, Nat.reduceLT, Nat.reduceLeDiff, Nat.reduceMul, Nat.reduceEqDiff, WD, effB, effH, isPriv, isHeap, isImm, zbx, zby, zbz, chkO, setD, dslot, zca, zcb, zcc, zcd, ptrCells_some, F14, hy.sx.rd.shutIn]
      rw [if_neg (by omega)]
      exact ⟨y, rfl, hy, R', hfr⟩
theorem drop_nil (i : Int) (H : Hp) : EW 17 [.nilp, .int .i64 i] H = some (.ret (.int .i64 5) false, H) := by
  refine eqOf (runs f17 b17 r17 n17 _ _ ?_)
  simp only [bodyOf, Try.f17, Option.getD_some]
  simp only [WW, partV, eqCells, eqLf, minV, maxV, ifcV, zaa, zab, zac, zad, zae, zaf, zag, zah, zai, ofConst, ofConst1, List.replicate, zaj, zak, loadOp, Go.Abs.loadCells, binV, zal, pickV, zam, zan, zao, zap, zaq, zar, zas, zat, zau, outR, resAll, resOne, zav, zaw, zax, zay, zaz, zba, zbb, zbc, zbd, zbe, zbf, zbg, zbh, zbi, zbj, zbk, storeOp, storeCell, overlay, zbl, zbm, zbn, lookupOp, keyT, okRes, mapUpdateOp, zbo, zbp, zbq, zbr, zbs, zbt, zbu, Nat.reduceSub, Nat.reduceAdd, Int.reduceLT, Int.reduceLE, Int.reduceAdd, Int.reduceSub, Int.reduceToNat, Int.reduceBEq, Int.reduceBNe, Int.reduceMul, Nat.reduceBEq, Nat.reduceBNe, Nat.reduceLT, Nat.reduceLeDiff, Nat.reduceMul, Nat.reduceEqDiff, WD, effB, effH, isPriv, isHeap, isImm, zbx, zby, zbz, chkO, setD, dslot, zca, zcb, zcc, zcd, ptrCells_some, F17]
def drops (i : Int) : Nat → Ver → Bool := fun j _ => i == (j : Int)
theorem drop_eq {H : Hp} {d c : Nat} {g : Int} {cnt : List Int} {all : List Ver} (R : Reg H d c g cnt all) (i : Int) :
    wpCall EW 17 [.ptr d 0 0, .int .i64 i] H (fun out H' => if i < 0 ∨ (all.length : Int) ≤ i then out = .ret (.int .i64 1) false ∧ H' = H
      else out = .ret (.int .i64 0) false ∧ Reg H' d c g cnt (upd (drops i) all all.length) ∧ Frm all H H') := by
  obtain ⟨al, ho, ha⟩ := R.ex
  have hlen : lenOp Try.prog H 66 al = some (.int .i64 all.length) := by
    rcases ha with ⟨rfl, rfl⟩ | ⟨rid, ns, rfl, _, _⟩ <;> simp only [lenOp, tk66] <;> rfl
  have hal : ∀ st, sealV st al = al := fun st => by rcases ha with ⟨rfl, rfl⟩ | ⟨rid, ns, rfl, _, _⟩ <;> rfl
  refine runs f17 b17 r17 n17 _ _ ?_
  simp only [bodyOf, Try.f17, Option.getD_some]
  simp only [WW, partV, eqCells, eqLf, minV, maxV, ifcV, zaa, zab, zac, zad, zae, zaf, zag, zah, zai, ofConst, ofConst1, List.replicate, zaj, zak, loadOp, Go.Abs.loadCells, binV, zal, pickV, zam, zan, zao, zap, zaq, zar, zas, zat, zau, outR, resAll, resOne, zav, zaw, zax, zay, zaz, zba, zbb, zbc, zbd, zbe, zbf, zbg, zbh, zbi, zbj, zbk, storeOp, storeCell, overlay, zbl, zbm, zbn, lookupOp, keyT, okRes, mapUpdateOp, zbo, zbp, zbq, zbr, zbs, zbt, zbu, Nat.reduceSub, Nat.reduceAdd, Int.reduceLT, Int.reduceLE, Int.reduceAdd, Int.reduceSub, Int.reduceToNat, Int.reduceBEq, Int.reduceBNe, Int.reduceMul, Nat.reduceBEq, Nat.reduceBNe, Nat.reduceLT, Nat.reduceLeDiff, Nat.reduceMul, Nat.reduceEqDiff, WD, effB, effH, isPriv, isHeap, isImm, zbx, zby, zbz, chkO, setD, dslot, zca, zcb, zcc, zcd, ptrCells_some, F17]
  cases h0 : decide (i < 0) with
  | true =>
    have h0' : i < 0 := by simpa using h0
    simp only [WW, partV, eqCells, eqLf, minV, maxV, ifcV, zaa, zab, zac, zad, zae, zaf, zag, zah, zai, ofConst, ofConst1, List.replicate, zaj, zak, loadOp, Go.Abs.loadCells, binV, zal, pickV, zam, zan, zao, zap, zaq, zar, zas, zat, zau, outR, resAll, resOne, zav, zaw, zax, zay, zaz, zba, zbb, zbc, zbd, zbe, zbf, zbg, zbh, zbi, zbj, zbk, storeOp, storeCell, overlay, zbl, zbm, zbn, lookupOp, keyT, okRes, mapUpdateOp, zbo, zbp, zbq, zbr, zbs, zbt, zbu, Nat.reduceSub, Nat.reduceAdd, Int.reduceLT, Int.reduceLE, Int.reduceAdd, Int.reduceSub, Int.reduceToNat, Int.reduceBEq, Int.reduceBNe, Int.reduceMul, Nat.reduceBEq, Nat.reduceBNe, Nat.reduceLT, Nat.reduceLeDiff, Nat.reduceMul, Nat.reduceEqDiff, WD, effB, effH, isPriv, isHeap, isImm, zbx, zby, zbz, chkO, setD, dslot, zca, zcb, zcc, zcd, ptrCells_some, F17]
    simp [h0']
  | false =>
    have h0' : ¬ i < 0 := by simpa using h0
    rcases ha with ⟨rfl, rfl⟩ | ⟨rid, ns, rfl, hrow, hne⟩
    · simp only [WW, partV, eqCells, eqLf, minV, maxV, ifcV, zaa, zab, zac, zad, zae, zaf, zag, zah, zai, ofConst, ofConst1, List.replicate, zaj, zak, loadOp, Go.Abs.loadCells, binV, zal, pickV, zam, zan, zao, zap, zaq, zar, zas, zat, zau, outR, resAll, resOne, zav, zaw, zax, zay, zaz, zba, zbb, zbc, zbd, zbe, zbf, zbg, zbh, zbi, zbj, zbk, storeOp, storeCell, overlay, zbl, zbm, zbn, lookupOp, keyT, okRes, mapUpdateOp, zbo, zbp, zbq, zbr, zbs, zbt, zbu, Nat.reduceSub, Nat.reduceAdd, Int.reduceLT, Int.reduceLE, Int.reduceAdd, Int.reduceSub, Int.reduceToNat, Int.reduceBEq, Int.reduceBNe, Int.reduceMul, Nat.reduceBEq, Nat.reduceBNe, Nat.reduceLT, Nat.reduceLeDiff, Nat.reduceMul, Nat.reduceEqDiff, WD, effB, effH, isPriv, isHeap, isImm, zbx, zby, zbz, chkO, setD, dslot, zca, zcb, zcc, zcd, ptrCells_some, F17, ho]
      have h1 : decide (0 ≤ i) = true := by simp; omega
      simp only [WW, partV, eqCells, eqLf, minV, maxV, ifcV, zaa, zab, zac, zad, zae, zaf, zag, zah, zai, ofConst, ofConst1, List.replicate, zaj, zak, loadOp, Go.Abs.loadCells, binV, zal, pickV, zam, zan, zao, zap, zaq, zar, zas, zat, zau, outR, resAll, resOne, zav, zaw, zax, zay, zaz, zba, zbb, zbc, zbd, zbe, zbf, zbg, zbh, zbi, zbj, zbk, storeOp, storeCell, overlay, zbl, zbm, zbn, lookupOp, keyT, okRes, mapUpdateOp, zbo, zbp, zbq, zbr, zbs, zbt, zbu, Nat.reduceSub, Nat.reduceAdd, Int.reduceLT, Int.reduceLE, Int.reduceAdd, Int.reduceSub, Int.reduceToNat, Int.reduceBEq, Int.reduceBNe, Int.reduceMul, Nat.reduceBEq, Nat.reduceBNe, Nat.reduceLT, Nat.reduceLeDiff, Nat.reduceMul, Nat.reduceEqDiff, WD, effB, effH, isPriv, isHeap, isImm, zbx, zby, zbz, chkO, setD, dslot, zca, zcb, zcc, zcd, ptrCells_some, F17, ho, h1]
      simp; omega
    · simp only [WW, partV, eqCells, eqLf, minV, maxV, ifcV, zaa, zab, zac, zad, zae, zaf, zag, zah, zai, ofConst, ofConst1, List.replicate, zaj, zak, loadOp, Go.Abs.loadCells, binV, zal, pickV, zam, zan, zao, zap, zaq, zar, zas, zat, zau, outR, resAll, resOne, zav, zaw, zax, zay, zaz, zba, zbb, zbc, zbd, zbe, zbf, zbg, zbh, zbi, zbj, zbk, storeOp, storeCell, overlay, zbl, zbm, zbn, lookupOp, keyT, okRes, mapUpdateOp, zbo, zbp, zbq, zbr, zbs, zbt, zbu, Nat.reduceSub, Nat.reduceAdd, Int.reduceLT, Int.reduceLE, Int.reduceAdd, Int.reduceSub, Int.reduceToNat, Int.reduceBEq, Int.reduceBNe, Int.reduceMul, Nat.reduceBEq, Nat.reduceBNe, Nat.reduceLT, Nat.reduceLeDiff, Nat.reduceMul, Nat.reduceEqDiff, WD, effB, effH, isPriv, isHeap, isImm, zbx, zby, zbz, chkO, setD, dslot, zca, zcb, zcc, zcd, ptrCells_some, F17, ho]
      refine cStep_of (fun h1 => ?_) (fun h1 => ?_)
      · have h1' : (all.length : Int) ≤ i := by simpa using h1
        simp only [WW, partV, eqCells, eqLf, minV, maxV, ifcV, zaa, zab, zac, zad, zae, zaf, zag, zah, zai, ofConst, ofConst1, List.replicate, zaj, zak, loadOp, Go.Abs.loadCells, binV, zal, pickV, zam, zan, zao, zap, zaq, zar, zas, zat, zau, outR, resAll, resOne, zav, zaw, zax, zay, zaz, zba, zbb, zbc, zbd, zbe, zbf, zbg, zbh, zbi, zbj, zbk, storeOp, storeCell, overlay, zbl, zbm, zbn, lookupOp, keyT, okRes, mapUpdateOp, zbo, zbp, zbq, zbr, zbs, zbt, zbu, Nat.reduceSub, Nat.reduceAdd, Int.reduceLT, Int.reduceLE, Int.reduceAdd, Int.reduceSub, Int.reduceToNat, Int.reduceBEq, Int.reduceBNe, Int.reduceMul, Nat.reduceBEq, Nat.reduceBNe, Nat.reduceLT, Nat.reduceLeDiff, Nat.reduceMul, Nat.reduceEqDiff, WD, effB, effH, isPriv, isHeap, isImm, zbx, zby, zbz, chkO, setD, dslot, zca, zcb, zcc, zcd, ptrCells_some, F17]
        simp [h1']
      · have h1' : ¬ (all.length : Int) ≤ i := by simpa using h1
        have h26 := happen_eq R 77 (.int .i64 i) 53 (drops i) meth77 call53 (fun j w H' hw hH => ends_dropped i j _ H')
        simp only [WW, partV, eqCells, eqLf, minV, maxV, ifcV, zaa, zab, zac, zad, zae, zaf, zag, zah, zai, ofConst, ofConst1, List.replicate, zaj, zak, loadOp, Go.Abs.loadCells, binV, zal, pickV, zam, zan, zao, zap, zaq, zar, zas, zat, zau, outR, resAll, resOne, zav, zaw, zax, zay, zaz, zba, zbb, zbc, zbd, zbe, zbf, zbg, zbh, zbi, zbj, zbk, storeOp, storeCell, overlay, zbl, zbm, zbn, lookupOp, keyT, okRes, mapUpdateOp, zbo, zbp, zbq, zbr, zbs, zbt, zbu, Nat.reduceSub, Nat.reduceAdd, Int.reduceLT, Int.reduceLE, Int.reduceAdd, Int.reduceSub, Int.reduceToNat, Int.reduceBEq, Int.reduceBNe, Int.reduceMul, Nat.reduceBEq, Nat.reduceBNe, Nat.reduceLT, Nat.reduceLeDiff, Nat.reduceMul, Nat.reduceEqDiff, WD, effB, effH, isPriv, isHeap, isImm, zbx, zby, zbz, chkO, setD, dslot, zca, zcb, zcc, zcd, ptrCells_some, F17, buildOp, fillV, Lay.place, Bool.or_self, Bool.or_false, Bool.false_or, decide_not, ne_eq, not_true_eq_false, decide_eq_true_eq, Nat.lt_irrefl]
        refine wpCall_of h26 ?_
        rintro out H' ⟨y, rfl, hy, R', hfr⟩
        simp only [WW, partV, eqCells, eqLf, minV, maxV, ifcV, zaa, zab, zac, zad, zae, zaf, zag, zah, zai, ofConst, ofConst1, List.replicate, zaj, zak, loadOp, Go.Abs.loadCells, binV, zal, pickV, zam, zan, zao, zap, zaq, zar, zas, zat, zau, outR, resAll, resOne, zav, zaw, zax, zay, zaz, zba, zbb, zbc, zbd, zbe, zbf, zbg, zbh, zbi, zbj, zbk, storeOp, storeCell, overlay, zbl, zbm, zbn, lookupOp, keyT, okRes, mapUpdateOp, zbo, zbp, zbq, zbr, zbs, zbt, zbu, Nat.reduceSub, Nat.reduceAdd, Int.reduceLT, Int.reduceLE, Int.reduceAdd, Int.reduceSub, Int.reduceToNat, Int.reduceBEq, Int.reduceBNe, Int.reduceMul, Nat.reduceBEq, Nat.reduceBNe, Nat.reduceLT, Nat.reduceLeDiff, Nat.reduceMul, Nat.reduceEqDiff, WD, effB, effH, isPriv, isHeap, isImm, zbx, zby, zbz, chkO, setD, dslot, zca, zcb, zcc, zcd, ptrCells_some, F17, hy.sx.rd.shutIn]
        rw [if_neg (by omega)]
        exact ⟨R', hfr⟩
end Go.Proofs.Ytfjbgmcdkhepkaa

namespace Go.Proofs.Ytfjbgmcdkhepkaa
open Go Go.Abs Go.Proofs
set_option maxRecDepth 100000
set_option maxHeartbeats 4000000
set_option linter.unusedVariables false
set_option linter.unusedSimpArgs false
theorem wptr (a b c : Nat) : wideAll [V.ptr a b c] 1 = true := rfl
theorem wptrs (all : List Ver) : wideAll (all.map ptrV) 1 = true := by simp [wideAll, ptrV, V.width, V.cells]
theorem add_nil (f : Int) (x : V) (H : Hp) (l : List (Int × Int)) (hx : Sx H x (l.map depV)) : EW 11 [.nilp, .int .i64 f, x] H = some (.ret (.tup [.int .i64 0, .int .i64 5]) false, H) := by
  refine eqOf (runs f11 b11 r11 n11 _ _ ?_)
  simp only [bodyOf, Try.f11, Option.getD_some]
  simp only [WW, partV, eqCells, eqLf, minV, maxV, ifcV, zaa, zab, zac, zad, zae, zaf, zag, zah, zai, ofConst, ofConst1, List.replicate, zaj, zak, loadOp, Go.Abs.loadCells, binV, zal, pickV, zam, zan, zao, zap, zaq, zar, zas, zat, zau, outR, resAll, resOne, zav, zaw, zax, zay, zaz, zba, zbb, zbc, zbd, zbe, zbf, zbg, zbh, zbi, zbj, zbk, storeOp, storeCell, overlay, zbl, zbm, zbn, lookupOp, keyT, okRes, mapUpdateOp, zbo, zbp, zbq, zbr, zbs, zbt, zbu, Nat.reduceSub, Nat.reduceAdd, Int.reduceLT, Int.reduceLE, Int.reduceAdd, Int.reduceSub, Int.reduceToNat, Int.reduceBEq, Int.reduceBNe, Int.reduceMul, Nat.reduceBEq, Nat.reduceBNe, Nat.reduceLT, Nat.reduceLeDiff, Nat.reduceMul, Nat.reduceEqDiff, WD, effB, effH, isPriv, isHeap, isImm, zbx, zby, zbz, chkO, setD, dslot, zca, zcb, zcc, zcd, ptrCells_some, F11, hx.rd.shutIn]
theorem Reg.bump {H : Hp} {d c : Nat} {g : Int} {cnt : List Int} {all : List Ver} (R : Reg H d c g cnt all) {i : Nat} {k : Int} (hk : cnt[i]? = some k) :
    Reg (H.set c (.cells ((cnt.map (V.int .i64)).set i (.int .i64 (k + 1))))) d c g (cnt.modify i (· + 1)) all := by
  have hclt : c < H.length := (List.getElem?_eq_some_iff.1 R.cn).1
  have keep : ∀ {j : Nat} {b : Blk}, j ≠ c → H[j]? = some b → (H.set c (.cells ((cnt.map (V.int .i64)).set i (.int .i64 (k + 1)))))[j]? = some b := fun {j b} hj h => by
    rw [List.getElem?_set, if_neg (fun e => hj e.symm)]; exact h
  obtain ⟨al, h1, h2⟩ := R.ex
  refine ⟨⟨al, by rw [List.length_modify]; exact keep R.nc.1 h1, h2.imp id fun ⟨rid, ns, a, b, e⟩ => ⟨rid, ns, a, keep (fun e2 => by rw [e2, R.cn] at b; cases b) b, e⟩⟩, ?_, fun v hv => ⟨keep (fun e => R.nc.2.2 (by rw [← e]; exact List.mem_map.2 ⟨v, hv, rfl⟩)) (R.vs v hv).1, (R.vs v hv).2⟩, R.nd, R.nc, R.len, by rw [List.length_modify]; exact R.cl⟩
  rw [List.getElem?_set, if_pos rfl, if_pos hclt]
  congr 2
  refine List.ext_getElem? fun j => ?_
  rw [List.getElem?_set, List.length_map, List.getElem?_map, List.getElem?_map, List.getElem?_modify]
  have hi : i < cnt.length := (List.getElem?_eq_some_iff.1 hk).1
  by_cases e : i = j
  · subst e
    rw [if_pos rfl, if_pos hi, hk]; simp
  · rw [if_neg e]; cases cnt[j]? <;> simp [e]
/-- A version more -/
theorem Reg.push {H : Hp} {d c : Nat} {g : Int} {cnt : List Int} {all : List Ver} (R : Reg H d c g cnt all) (f : Int) (on : V) (l : List (Int × Int)) (hon : IsDeps on l) (hl : l.length < 4294967296) (hroom : all.length + 1 < 4294967296) {H' : Hp}
    (keep : ∀ (j : Nat) (b : Blk), H[j]? = some b → j ≠ d → (∀ ns es, b ≠ .row ns es) → H'[j]? = some b) (hnew : H'[H.length]? = some (.cells [.agg [.int .i64 f, on, .bool true]]))
    (rid : Nat) (ns : Bool) (hd : H'[d]? = some (.cells [.agg [.int .i64 g, .hr rid (all.length + 1), .sl c 0 cnt.length]])) (hrow : H'[rid]? = some (.row ns (all.map ptrV ++ [.ptr H.length 0 0]))) :
    Reg H' d c g cnt (all ++ [⟨H.length, f, on, l, true⟩]) := by
  obtain ⟨al, h1, h2⟩ := R.ex
  have hdlt : d < H.length := (List.getElem?_eq_some_iff.1 h1).1
  have hclt : c < H.length := (List.getElem?_eq_some_iff.1 R.cn).1
  have vlt : ∀ v ∈ all, v.id < H.length := fun v hv => (List.getElem?_eq_some_iff.1 (R.vs v hv).1).1
  refine ⟨⟨_, hd, .inr ⟨rid, ns, by simp, by rw [List.map_append]; exact hrow, by simp⟩⟩, keep _ _ R.cn (fun e => R.nc.1 e.symm) (fun _ _ h => by cases h), fun v hv => ?_, ?_, ⟨R.nc.1, ?_, ?_⟩, by simp; omega, R.cl⟩
  · rcases List.mem_append.1 hv with hv | hv
    · exact ⟨keep _ _ (R.vs v hv).1 (fun e => R.nc.2.1 (by rw [← e]; exact List.mem_map.2 ⟨v, hv, rfl⟩)) (fun _ _ h => by cases h), (R.vs v hv).2⟩
    · simp at hv; subst hv; exact ⟨hnew, hon, hl⟩
  · rw [List.map_append, List.nodup_append]
    refine ⟨R.nd, by simp, fun a ha b hb => ?_⟩
    simp at hb; subst hb
    obtain ⟨v, hv, rfl⟩ := List.mem_map.1 ha
    have := vlt v hv; omega
  · rw [List.map_append]; simp only [List.mem_append, List.map_cons, List.map_nil, List.mem_singleton]; exact fun h => h.elim R.nc.2.1 (fun e => by omega)
  · rw [List.map_append]; simp only [List.mem_append, List.map_cons, List.map_nil, List.mem_singleton]; exact fun h => h.elim R.nc.2.2 (fun e => by omega)
theorem Reg.pushNil {H : Hp} {d c : Nat} {g : Int} {cnt : List Int} (R : Reg H d c g cnt []) (f : Int) (on : V) (l : List (Int × Int)) (hon : IsDeps on l) (hl : l.length < 4294967296) (hroom : 0 + 1 < 4294967296) :
    Reg ((H ++ [Blk.cells [.agg [.int .i64 f, on, .bool true]]] ++ [Blk.row true [.ptr H.length 0 0]]).set d (.cells [.agg [.int .i64 g, .hr (List.length (H ++ [Blk.cells [.agg [.int .i64 f, on, .bool true]]])) 1, .sl c 0 cnt.length]])) d c g cnt [⟨H.length, f, on, l, true⟩] := by
  have hdlt : d < H.length := by obtain ⟨al, h1, _⟩ := R.ex; exact (List.getElem?_eq_some_iff.1 h1).1
  refine R.push f on l hon hl hroom (fun j b hj hjd _ => ?_) ?_ (List.length (H ++ [Blk.cells [.agg [.int .i64 f, on, .bool true]]])) true ?_ ?_
  · have hjlt : j < H.length := (List.getElem?_eq_some_iff.1 hj).1
    rw [List.getElem?_set, if_neg (fun e => hjd e.symm), List.append_assoc, List.getElem?_append_left hjlt]; exact hj
  · rw [List.getElem?_set, if_neg (by omega), List.append_assoc, List.getElem?_append_right (Nat.le_refl _)]; simp
  · rw [List.getElem?_set, if_pos rfl, if_pos (by simp; omega)]; rfl
  · rw [List.getElem?_set, if_neg (by simp; omega), List.getElem?_append_right (Nat.le_refl _)]; simp
theorem Reg.pushHr {H : Hp} {d c : Nat} {g : Int} {cnt : List Int} {all : List Ver} (R : Reg H d c g cnt all) (f : Int) (on : V) (l : List (Int × Int)) (hon : IsDeps on l) (hl : l.length < 4294967296) (hroom : all.length + 1 < 4294967296) {rid : Nat} {ns : Bool}
    (hrow : H[rid]? = some (.row ns (all.map ptrV))) :
    Reg (((H ++ [Blk.cells [.agg [.int .i64 f, on, .bool true]]]).set rid (.row ns (all.map ptrV ++ [.ptr H.length 0 0]))).set d (.cells [.agg [.int .i64 g, .hr rid (all.length + 1), .sl c 0 cnt.length]])) d c g cnt (all ++ [⟨H.length, f, on, l, true⟩]) := by
  obtain ⟨al, h1, _⟩ := R.ex
  have hdlt : d < H.length := (List.getElem?_eq_some_iff.1 h1).1
  have hrlt : rid < H.length := (List.getElem?_eq_some_iff.1 hrow).1
  have hrd : rid ≠ d := fun e => by rw [e, h1] at hrow; cases hrow
  refine R.push f on l hon hl hroom (fun j b hj hjd hnr => ?_) ?_ rid ns ?_ ?_
  · have hjlt : j < H.length := (List.getElem?_eq_some_iff.1 hj).1
    have hjr : rid ≠ j := fun e => by rw [← e, hrow] at hj; cases hj; exact hnr _ _ rfl
    rw [List.getElem?_set, if_neg (fun e => hjd e.symm), List.getElem?_set, if_neg hjr, List.getElem?_append_left hjlt]; exact hj
  · rw [List.getElem?_set, if_neg (by omega), List.getElem?_set, if_neg (by omega), List.getElem?_append_right (Nat.le_refl _)]; simp
  · rw [List.getElem?_set, if_pos rfl, if_pos (by simp; omega)]
  · rw [List.getElem?_set, if_neg (fun e => hrd e.symm), List.getElem?_set, if_pos rfl, if_pos (by simp; omega)]
/-- Why a version is not taken -/
def addErr (g : Int) (cnt : List Int) (all : List Ver) (f : Int) (l : List (Int × Int)) : Int :=
  if decide (f < 0) || decide ((cnt.length : Int) ≤ f) || (l.any fun y => decide (y.1 < 0) || decide (y.1 ≥ g)) || !decide ((dedupR (l.map (·.1))).length = l.length) then 1
  else if (all.findIdx? (fun v => v.ok && v.f == f)).isSome then 7
  else if getCnt cnt f = some 4 then 3
  else 0
/-- A version's copy of what it counts on, once nothing writes to it any more -/
def keepR (x : V) (l : List (Int × Int)) (H : Hp) : V × Hp := if isNils x then (.nils, H) else (.rsl (l.map depV), if l.isEmpty then H else H ++ [.dead])
theorem keep_seal (x : V) (l : List (Int × Int)) (H : Hp) : sealH .imm (cloneR x l H).1 (cloneR x l H).2 = keepR x l H := by
  unfold cloneR keepR
  cases isNils x with
  | true => rfl
  | false =>
    simp only [Bool.false_eq_true, if_false]
    cases l with
    | nil => rfl
    | cons d r =>
      simp only [List.isEmpty_cons, Bool.false_eq_true, if_false]
      rw [sealH_sl (es := (d :: r).map depV) List.getElem?_concat_length (by simp)]
      simp
theorem keep_deps {H : Hp} {x : V} {l : List (Int × Int)} (hx : Sx H x (l.map depV)) : IsDeps (keepR x l H).1 l := by
  unfold keepR
  cases hn : isNils x with
  | true =>
    have := (hx.nil_l hn).2
    obtain rfl : l = [] := by simpa using this
    exact .nils
  | false => exact .rsl l
theorem keep_more (x : V) (l : List (Int × Int)) (H : Hp) : ∃ e, (keepR x l H).2 = H ++ e := by
  unfold keepR
  cases isNils x with
  | true => exact ⟨[], by simp⟩
  | false => cases l with
    | nil => exact ⟨[], by simp⟩
    | cons d r => exact ⟨[.dead], rfl⟩
theorem add_eq {H : Hp} {d c : Nat} {g : Int} {cnt : List Int} {all : List Ver} (R : Reg H d c g cnt all) (f : Int) (x : V) (l : List (Int × Int)) (hx : Sx H x (l.map depV)) (hlen : l.length < 4294967296) (hxc : ∀ id lo n, x = .sl id lo n → id ≠ c) (hroom : all.length + 1 < 4294967296) (hcnt : ∀ n ∈ cnt, 0 ≤ n ∧ n < 4294967296) :
    wpCall EW 11 [.ptr d 0 0, .int .i64 f, x] H (fun out H' =>
      if addErr g cnt all f l ≠ 0 then out = .ret (.tup [.int .i64 0, .int .i64 (addErr g cnt all f l)]) false ∧ ∃ e, H' = H ++ e
      else out = .ret (.tup [.int .i64 all.length, .int .i64 0]) false ∧ (∃ v : Ver, v.f = f ∧ v.l = l ∧ v.ok = true ∧ H.length ≤ v.id ∧ Reg H' d c g (cnt.modify f.toNat (· + 1)) (all ++ [v])) ∧ H.length ≤ H'.length ∧ ∀ k es, k ≠ d → k ≠ c → H[k]? = some (.cells es) → H'[k]? = some (.cells es)) := by
  have sx := hx.rd.shutIn
  refine runs f11 b11 r11 n11 _ _ ?_
  simp only [bodyOf, Try.f11, Option.getD_some]
  simp only [WW, partV, eqCells, eqLf, minV, maxV, ifcV, zaa, zab, zac, zad, zae, zaf, zag, zah, zai, ofConst, ofConst1, List.replicate, zaj, zak, loadOp, Go.Abs.loadCells, binV, zal, pickV, zam, zan, zao, zap, zaq, zar, zas, zat, zau, outR, resAll, resOne, zav, zaw, zax, zay, zaz, zba, zbb, zbc, zbd, zbe, zbf, zbg, zbh, zbi, zbj, zbk, storeOp, storeCell, overlay, zbl, zbm, zbn, lookupOp, keyT, okRes, mapUpdateOp, zbo, zbp, zbq, zbr, zbs, zbt, zbu, Nat.reduceSub, Nat.reduceAdd, Int.reduceLT, Int.reduceLE, Int.reduceAdd, Int.reduceSub, Int.reduceToNat, Int.reduceBEq, Int.reduceBNe, Int.reduceMul, Nat.reduceBEq, Nat.reduceBNe, Nat.reduceLT, Nat.reduceLeDiff, Nat.reduceMul, Nat.reduceEqDiff, WD, effB, effH, isPriv, isHeap, isImm, zbx, zby, zbz, chkO, setD, dslot, zca, zcb, zcc, zcd, ptrCells_some, F11, sx]
  refine wpCall_of (wrong_eq R f x l hx.rd (by omega)) ?_
  rintro out H1 ⟨rfl, e1, rfl⟩
  simp only [WW, partV, eqCells, eqLf, minV, maxV, ifcV, zaa, zab, zac, zad, zae, zaf, zag, zah, zai, ofConst, ofConst1, List.replicate, zaj, zak, loadOp, Go.Abs.loadCells, binV, zal, pickV, zam, zan, zao, zap, zaq, zar, zas, zat, zau, outR, resAll, resOne, zav, zaw, zax, zay, zaz, zba, zbb, zbc, zbd, zbe, zbf, zbg, zbh, zbi, zbj, zbk, storeOp, storeCell, overlay, zbl, zbm, zbn, lookupOp, keyT, okRes, mapUpdateOp, zbo, zbp, zbq, zbr, zbs, zbt, zbu, Nat.reduceSub, Nat.reduceAdd, Int.reduceLT, Int.reduceLE, Int.reduceAdd, Int.reduceSub, Int.reduceToNat, Int.reduceBEq, Int.reduceBNe, Int.reduceMul, Nat.reduceBEq, Nat.reduceBNe, Nat.reduceLT, Nat.reduceLeDiff, Nat.reduceMul, Nat.reduceEqDiff, WD, effB, effH, isPriv, isHeap, isImm, zbx, zby, zbz, chkO, setD, dslot, zca, zcb, zcc, zcd, ptrCells_some, F11, sx]
  refine cStep_of (fun h1 => ?_) (fun h1 => ?_)
  · simp only [WW, partV, eqCells, eqLf, minV, maxV, ifcV, zaa, zab, zac, zad, zae, zaf, zag, zah, zai, ofConst, ofConst1, List.replicate, zaj, zak, loadOp, Go.Abs.loadCells, binV, zal, pickV, zam, zan, zao, zap, zaq, zar, zas, zat, zau, outR, resAll, resOne, zav, zaw, zax, zay, zaz, zba, zbb, zbc, zbd, zbe, zbf, zbg, zbh, zbi, zbj, zbk, storeOp, storeCell, overlay, zbl, zbm, zbn, lookupOp, keyT, okRes, mapUpdateOp, zbo, zbp, zbq, zbr, zbs, zbt, zbu, Nat.reduceSub, Nat.reduceAdd, Int.reduceLT, Int.reduceLE, Int.reduceAdd, Int.reduceSub, Int.reduceToNat, Int.reduceBEq, Int.reduceBNe, Int.reduceMul, Nat.reduceBEq, Nat.reduceBNe, Nat.reduceLT, Nat.reduceLeDiff, Nat.reduceMul, Nat.reduceEqDiff, WD, effB, effH, isPriv, isHeap, isImm, zbx, zby, zbz, chkO, setD, dslot, zca, zcb, zcc, zcd, ptrCells_some, F11, sx]
    have : addErr g cnt all f l = 1 := by unfold addErr; rw [if_pos h1]
    rw [if_pos (by omega), this]
    exact ⟨rfl, e1, rfl⟩
  · simp only [WW, partV, eqCells, eqLf, minV, maxV, ifcV, zaa, zab, zac, zad, zae, zaf, zag, zah, zai, ofConst, ofConst1, List.replicate, zaj, zak, loadOp, Go.Abs.loadCells, binV, zal, pickV, zam, zan, zao, zap, zaq, zar, zas, zat, zau, outR, resAll, resOne, zav, zaw, zax, zay, zaz, zba, zbb, zbc, zbd, zbe, zbf, zbg, zbh, zbi, zbj, zbk, storeOp, storeCell, overlay, zbl, zbm, zbn, lookupOp, keyT, okRes, mapUpdateOp, zbo, zbp, zbq, zbr, zbs, zbt, zbu, Nat.reduceSub, Nat.reduceAdd, Int.reduceLT, Int.reduceLE, Int.reduceAdd, Int.reduceSub, Int.reduceToNat, Int.reduceBEq, Int.reduceBNe, Int.reduceMul, Nat.reduceBEq, Nat.reduceBNe, Nat.reduceLT, Nat.reduceLeDiff, Nat.reduceMul, Nat.reduceEqDiff, WD, effB, effH, isPriv, isHeap, isImm, zbx, zby, zbz, chkO, setD, dslot, zca, zcb, zcc, zcd, ptrCells_some, F11, sx]
    have R1 := R.more e1
    rw [wpCall_eq (of_eq R1 f)]
    have hf1 : ¬ (f < 0) := by intro h; simp [h] at h1
    have hf2 : ¬ ((cnt.length : Int) ≤ f) := by intro h; simp [h] at h1
    unfold findV
    cases hfi : all.findIdx? (fun v => v.ok && v.f == f) with
    | some i =>
      simp only [WW, partV, eqCells, eqLf, minV, maxV, ifcV, zaa, zab, zac, zad, zae, zaf, zag, zah, zai, ofConst, ofConst1, List.replicate, zaj, zak, loadOp, Go.Abs.loadCells, binV, zal, pickV, zam, zan, zao, zap, zaq, zar, zas, zat, zau, outR, resAll, resOne, zav, zaw, zax, zay, zaz, zba, zbb, zbc, zbd, zbe, zbf, zbg, zbh, zbi, zbj, zbk, storeOp, storeCell, overlay, zbl, zbm, zbn, lookupOp, keyT, okRes, mapUpdateOp, zbo, zbp, zbq, zbr, zbs, zbt, zbu, Nat.reduceSub, Nat.reduceAdd, Int.reduceLT, Int.reduceLE, Int.reduceAdd, Int.reduceSub, Int.reduceToNat, Int.reduceBEq, Int.reduceBNe, Int.reduceMul, Nat.reduceBEq, Nat.reduceBNe, Nat.reduceLT, Nat.reduceLeDiff, Nat.reduceMul, Nat.reduceEqDiff, WD, effB, effH, isPriv, isHeap, isImm, zbx, zby, zbz, chkO, setD, dslot, zca, zcb, zcc, zcd, ptrCells_some, F11, sx]
      have : addErr g cnt all f l = 7 := by unfold addErr; rw [if_neg (by rw [h1]; simp), hfi]; rfl
      rw [if_pos (by omega), this]
      exact ⟨rfl, e1, rfl⟩
    | none =>
      obtain ⟨al, ho, ha⟩ := R1.ex
      have hc := R1.cn
      have hi2 : f.toNat < cnt.length := by omega
      have hd : cnt[f.toNat]? = some cnt[f.toNat] := List.getElem?_eq_getElem hi2
      have hmem : cnt[f.toNat] ∈ cnt := List.getElem_mem hi2
      generalize cnt[f.toNat] = k at hd hmem
      have hk := hcnt k hmem
      have hf3 : 0 ≤ f := by omega
      have hf4 : f < (cnt.length : Int) := by omega
      have hg : getCnt cnt f = some k := by simp [getCnt, hf3, hd]
      simp only [WW, partV, eqCells, eqLf, minV, maxV, ifcV, zaa, zab, zac, zad, zae, zaf, zag, zah, zai, ofConst, ofConst1, List.replicate, zaj, zak, loadOp, Go.Abs.loadCells, binV, zal, pickV, zam, zan, zao, zap, zaq, zar, zas, zat, zau, outR, resAll, resOne, zav, zaw, zax, zay, zaz, zba, zbb, zbc, zbd, zbe, zbf, zbg, zbh, zbi, zbj, zbk, storeOp, storeCell, overlay, zbl, zbm, zbn, lookupOp, keyT, okRes, mapUpdateOp, zbo, zbp, zbq, zbr, zbs, zbt, zbu, Nat.reduceSub, Nat.reduceAdd, Int.reduceLT, Int.reduceLE, Int.reduceAdd, Int.reduceSub, Int.reduceToNat, Int.reduceBEq, Int.reduceBNe, Int.reduceMul, Nat.reduceBEq, Nat.reduceBNe, Nat.reduceLT, Nat.reduceLeDiff, Nat.reduceMul, Nat.reduceEqDiff, WD, effB, effH, isPriv, isHeap, isImm, zbx, zby, zbz, chkO, setD, dslot, zca, zcb, zcc, zcd, ptrCells_some, F11, sx, ho, hc, hf3, hf4, List.getElem?_map, hd]
      refine cStep_of (fun h2 => ?_) (fun h2 => ?_)
      · have h2' : k = 4 := by simpa using h2
        simp only [WW, partV, eqCells, eqLf, minV, maxV, ifcV, zaa, zab, zac, zad, zae, zaf, zag, zah, zai, ofConst, ofConst1, List.replicate, zaj, zak, loadOp, Go.Abs.loadCells, binV, zal, pickV, zam, zan, zao, zap, zaq, zar, zas, zat, zau, outR, resAll, resOne, zav, zaw, zax, zay, zaz, zba, zbb, zbc, zbd, zbe, zbf, zbg, zbh, zbi, zbj, zbk, storeOp, storeCell, overlay, zbl, zbm, zbn, lookupOp, keyT, okRes, mapUpdateOp, zbo, zbp, zbq, zbr, zbs, zbt, zbu, Nat.reduceSub, Nat.reduceAdd, Int.reduceLT, Int.reduceLE, Int.reduceAdd, Int.reduceSub, Int.reduceToNat, Int.reduceBEq, Int.reduceBNe, Int.reduceMul, Nat.reduceBEq, Nat.reduceBNe, Nat.reduceLT, Nat.reduceLeDiff, Nat.reduceMul, Nat.reduceEqDiff, WD, effB, effH, isPriv, isHeap, isImm, zbx, zby, zbz, chkO, setD, dslot, zca, zcb, zcc, zcd, ptrCells_some, F11, sx]
        have : addErr g cnt all f l = 3 := by unfold addErr; rw [if_neg (by rw [h1]; simp), hfi, if_neg (by simp), if_pos (by rw [hg, h2'])]
        rw [if_pos (by omega), this]
        exact ⟨rfl, e1, rfl⟩
      · have h2' : k ≠ 4 := by simpa using h2
        have herr : addErr g cnt all f l = 0 := by unfold addErr; rw [if_neg (by rw [h1]; simp), hfi, if_neg (by simp), if_neg (by rw [hg]; simpa using h2')]
        have hw : IntKind.i64.wrap (k + 1) = k + 1 := IntWalk.i64_in _ (by omega)
        simp only [WW, partV, eqCells, eqLf, minV, maxV, ifcV, zaa, zab, zac, zad, zae, zaf, zag, zah, zai, ofConst, ofConst1, List.replicate, zaj, zak, loadOp, Go.Abs.loadCells, binV, zal, pickV, zam, zan, zao, zap, zaq, zar, zas, zat, zau, outR, resAll, resOne, zav, zaw, zax, zay, zaz, zba, zbb, zbc, zbd, zbe, zbf, zbg, zbh, zbi, zbj, zbk, storeOp, storeCell, overlay, zbl, zbm, zbn, lookupOp, keyT, okRes, mapUpdateOp, zbo, zbp, zbq, zbr, zbs, zbt, zbu, Nat.reduceSub, Nat.reduceAdd, Int.reduceLT, Int.reduceLE, Int.reduceAdd, Int.reduceSub, Int.reduceToNat, Int.reduceBEq, Int.reduceBNe, Int.reduceMul, Nat.reduceBEq, Nat.reduceBNe, Nat.reduceLT, Nat.reduceLeDiff, Nat.reduceMul, Nat.reduceEqDiff, WD, effB, effH, isPriv, isHeap, isImm, zbx, zby, zbz, chkO, setD, dslot, zca, zcb, zcc, zcd, ptrCells_some, F11, storeHeap, promote, heapSet, elemSet, sx, ho, hc, hf3, hf4, List.getElem?_map, hd, hw]
        have R2 := R1.bump hd
        have hlen2 : ((H ++ e1).set c (.cells ((cnt.map (V.int .i64)).set f.toNat (.int .i64 (k + 1))))).length = H.length + e1.length := by simp
        have hclt := (List.getElem?_eq_some_iff.1 R.cn).1
        have hold : ∀ (j : Nat) (es : List V), j ≠ c → H[j]? = some (.cells es) → ((H ++ e1).set c (.cells ((cnt.map (V.int .i64)).set f.toNat (.int .i64 (k + 1)))))[j]? = some (.cells es) := fun j es hj h => by
          rw [List.getElem?_set_ne (fun e => hj e.symm), List.getElem?_append_left ((List.getElem?_eq_some_iff.1 h).1)]; exact h
        have hx2 : Sx ((H ++ e1).set c (.cells ((cnt.map (V.int .i64)).set f.toNat (.int .i64 (k + 1))))) x (l.map depV) := by
          generalize l.map depV = L at hx
          cases hx with
          | nils => exact .nils
          | rsl => exact .rsl _
          | sl id lo len es h1 h2 => exact .sl id lo len es (hold _ _ (hxc _ _ _ rfl) h1) h2
        generalize (H ++ e1).set c (.cells ((cnt.map (V.int .i64)).set f.toNat (.int .i64 (k + 1)))) = H2 at R2 hlen2 hx2 hold
        clear ho ha hc
        obtain ⟨al, ho, ha⟩ := R2.ex
        have hdlt : d < H2.length := (List.getElem?_eq_some_iff.1 ho).1
        have hcl := clone_eq x l H2 hx2 hlen
        have hsl := keep_seal x l H2
        have hkd := keep_deps hx2
        obtain ⟨e2, he2⟩ := keep_more x l H2
        have hk1 : (keepR x l H2).1.cells = [(keepR x l H2).1] := (hkd.rd []).cells1
        have hk2 : okV (keepR x l H2).1 = true := (hkd.rd []).ok
        have hk3 : ∀ st, sealV st (keepR x l H2).1 = (keepR x l H2).1 := (hkd.rd []).shutIn
        have R3 : Reg (keepR x l H2).2 d c g (cnt.modify f.toNat (· + 1)) all := by rw [he2]; exact R2.more e2
        have hlen3 : H2.length ≤ (keepR x l H2).2.length := by rw [he2]; simp
        have hold3 : ∀ (j : Nat) (es : List V), j ≠ c → H[j]? = some (.cells es) → (keepR x l H2).2[j]? = some (.cells es) := fun j es hj h => by
          rw [he2, List.getElem?_append_left ((List.getElem?_eq_some_iff.1 (hold j es hj h)).1)]; exact hold j es hj h
        refine wC_dr alts11_11 (by kernel_rfl) ?_
        generalize hK : keepR x l H2 = K at *
        obtain ⟨on, H3⟩ := K
        simp only at hk1 hk2 hk3 R3 hlen3 hold3 he2
        have hd3 : d < H3.length := by omega
        have ho3 : H3[d]? = H2[d]? := by rw [he2, List.getElem?_append_left hdlt]
        rcases ha with ⟨rfl, rfl⟩ | ⟨rid, ns, rfl, hrow, hne⟩
        · have hap : ∀ e : Hp, (H3 ++ e)[d]? = some (.cells [.agg [.int .i64 g, .nils, .sl c 0 (cnt.modify f.toNat (· + 1)).length]]) := fun e => by
            rw [List.getElem?_append_left hd3, ho3]; exact ho
          have hap2 : ∀ e e' : Hp, (H3 ++ e ++ e')[d]? = some (.cells [.agg [.int .i64 g, .nils, .sl c 0 (cnt.modify f.toNat (· + 1)).length]]) := fun e e' => by
            rw [List.append_assoc]; exact hap _
          have hfin : ∀ (e e' : Hp) (Y : Blk), ((H3 ++ e ++ e').set d Y)[d]? = some Y := fun e e' Y => by
            rw [List.getElem?_set, if_pos rfl, if_pos (by simp; omega)]
          rw [ho] at ho3
          simp only [WW, partV, eqCells, eqLf, minV, maxV, ifcV, zaa, zab, zac, zad, zae, zaf, zag, zah, zai, ofConst, ofConst1, List.replicate, zaj, zak, loadOp, Go.Abs.loadCells, binV, zal, pickV, zam, zan, zao, zap, zaq, zar, zas, zat, zau, outR, resAll, resOne, zav, zaw, zax, zay, zaz, zba, zbb, zbc, zbd, zbe, zbf, zbg, zbh, zbi, zbj, zbk, storeOp, storeCell, overlay, zbl, zbm, zbn, lookupOp, keyT, okRes, mapUpdateOp, zbo, zbp, zbq, zbr, zbs, zbt, zbu, Nat.reduceSub, Nat.reduceAdd, Int.reduceLT, Int.reduceLE, Int.reduceAdd, Int.reduceSub, Int.reduceToNat, Int.reduceBEq, Int.reduceBNe, Int.reduceMul, Nat.reduceBEq, Nat.reduceBNe, Nat.reduceLT, Nat.reduceLeDiff, Nat.reduceMul, Nat.reduceEqDiff, WD, effB, effH, isPriv, isHeap, isImm, zbx, zby, zbz, chkO, setD, dslot, zca, zcb, zcc, zcd, ptrCells_some, F11, buildSliceV, lits, srcV_eq, srcK_sl, srcK_str, srcSl_nils, srcSl_rsl, srcSl_sl, appendOp, frow, zbv, zbw, List.all_nil, List.all_cons, rowV, Bool.false_and, Bool.and_false, ne_eq, not_false_eq_true, grows_lr, callOut_t, storeHeap, promote, heapSet, elemSet, buildOp, fillV, Lay.place, Bool.or_self, Bool.or_false, Bool.false_or, decide_not, not_true_eq_false, decide_eq_true_eq, Nat.lt_irrefl, ho, ho3, sx]
          rw [wpCall_eq hcl]
          simp only [WW, partV, eqCells, eqLf, minV, maxV, ifcV, zaa, zab, zac, zad, zae, zaf, zag, zah, zai, ofConst, ofConst1, List.replicate, zaj, zak, loadOp, Go.Abs.loadCells, binV, zal, pickV, zam, zan, zao, zap, zaq, zar, zas, zat, zau, outR, resAll, resOne, zav, zaw, zax, zay, zaz, zba, zbb, zbc, zbd, zbe, zbf, zbg, zbh, zbi, zbj, zbk, storeOp, storeCell, overlay, zbl, zbm, zbn, lookupOp, keyT, okRes, mapUpdateOp, zbo, zbp, zbq, zbr, zbs, zbt, zbu, Nat.reduceSub, Nat.reduceAdd, Int.reduceLT, Int.reduceLE, Int.reduceAdd, Int.reduceSub, Int.reduceToNat, Int.reduceBEq, Int.reduceBNe, Int.reduceMul, Nat.reduceBEq, Nat.reduceBNe, Nat.reduceLT, Nat.reduceLeDiff, Nat.reduceMul, Nat.reduceEqDiff, WD, effB, effH, isPriv, isHeap, isImm, zbx, zby, zbz, chkO, setD, dslot, zca, zcb, zcc, zcd, ptrCells_some, F11, buildSliceV, lits, srcV_eq, srcK_sl, srcK_str, srcSl_nils, srcSl_rsl, srcSl_sl, appendOp, frow, zbv, zbw, List.all_nil, List.all_cons, rowV, Bool.false_and, Bool.and_false, ne_eq, not_false_eq_true, grows_lr, callOut_t, storeHeap, promote, heapSet, elemSet, buildOp, fillV, Lay.place, Bool.or_self, Bool.or_false, Bool.false_or, decide_not, not_true_eq_false, decide_eq_true_eq, Nat.lt_irrefl, hsl, hk1, hk2, hk3, ho, ho3, hap, hap2, hfin, wptr, alts11_11]
          rw [if_neg (by rw [herr]; simp)]
          refine ⟨rfl, ⟨⟨H3.length, f, on, l, true⟩, rfl, rfl, rfl, by simp only []; omega, R3.pushNil f on l hkd hlen hroom⟩, by simp; omega, fun j es hjd hjc h => ?_⟩
          rw [List.getElem?_set_ne (fun e => hjd e.symm), List.append_assoc, List.getElem?_append_left (by have := (List.getElem?_eq_some_iff.1 h).1; omega)]
          exact hold3 j es hjc h
        · have hrlt : rid < H2.length := (List.getElem?_eq_some_iff.1 hrow).1
          have hrd : rid ≠ d := fun e => by rw [e, ho] at hrow; cases hrow
          have hrow3 : H3[rid]? = some (.row ns (all.map ptrV)) := by rw [he2, List.getElem?_append_left hrlt]; exact hrow
          have hrw : ∀ e : Hp, (H3 ++ e)[rid]? = some (.row ns (all.map ptrV)) := fun e => by rw [List.getElem?_append_left (by omega)]; exact hrow3
          have hap : ∀ e : Hp, (H3 ++ e)[d]? = some (.cells [.agg [.int .i64 g, .hr rid all.length, .sl c 0 (cnt.modify f.toNat (· + 1)).length]]) := fun e => by
            rw [List.getElem?_append_left hd3, ho3]; exact ho
          have hap2 : ∀ (e : Hp) (X : Blk), ((H3 ++ e).set rid X)[d]? = some (.cells [.agg [.int .i64 g, .hr rid all.length, .sl c 0 (cnt.modify f.toNat (· + 1)).length]]) := fun e X => by
            rw [List.getElem?_set, if_neg hrd]; exact hap _
          have hfin : ∀ (e : Hp) (X Y : Blk), (((H3 ++ e).set rid X).set d Y)[d]? = some Y := fun e X Y => by
            rw [List.getElem?_set, if_pos rfl, if_pos (by simp; omega)]
          have hwp := wptrs all
          have q2 : decide ((all.length + 1) * 8 ≤ 70368744177664) = true := by simp; omega
          have q3 : decide (all.length ≤ 4611686018427387903) = true := by simp; omega
          have hw2 : IntKind.i64.wrap (((all.length + 1 : Nat) : Int) - 1) = (all.length : Int) := by rw [IntWalk.i64_in _ (by omega)]; omega
          rw [ho] at ho3
          simp only [WW, partV, eqCells, eqLf, minV, maxV, ifcV, zaa, zab, zac, zad, zae, zaf, zag, zah, zai, ofConst, ofConst1, List.replicate, zaj, zak, loadOp, Go.Abs.loadCells, binV, zal, pickV, zam, zan, zao, zap, zaq, zar, zas, zat, zau, outR, resAll, resOne, zav, zaw, zax, zay, zaz, zba, zbb, zbc, zbd, zbe, zbf, zbg, zbh, zbi, zbj, zbk, storeOp, storeCell, overlay, zbl, zbm, zbn, lookupOp, keyT, okRes, mapUpdateOp, zbo, zbp, zbq, zbr, zbs, zbt, zbu, Nat.reduceSub, Nat.reduceAdd, Int.reduceLT, Int.reduceLE, Int.reduceAdd, Int.reduceSub, Int.reduceToNat, Int.reduceBEq, Int.reduceBNe, Int.reduceMul, Nat.reduceBEq, Nat.reduceBNe, Nat.reduceLT, Nat.reduceLeDiff, Nat.reduceMul, Nat.reduceEqDiff, WD, effB, effH, isPriv, isHeap, isImm, zbx, zby, zbz, chkO, setD, dslot, zca, zcb, zcc, zcd, ptrCells_some, F11, buildSliceV, lits, srcV_eq, srcK_sl, srcK_str, srcSl_nils, srcSl_rsl, srcSl_sl, appendOp, frow, zbv, zbw, List.all_nil, List.all_cons, rowV, Bool.false_and, Bool.and_false, ne_eq, not_false_eq_true, grows_lr, callOut_t, storeHeap, promote, heapSet, elemSet, buildOp, fillV, Lay.place, Bool.or_self, Bool.or_false, Bool.false_or, decide_not, not_true_eq_false, decide_eq_true_eq, Nat.lt_irrefl, ho, ho3, sx]
          rw [wpCall_eq hcl]
          simp only [WW, partV, eqCells, eqLf, minV, maxV, ifcV, zaa, zab, zac, zad, zae, zaf, zag, zah, zai, ofConst, ofConst1, List.replicate, zaj, zak, loadOp, Go.Abs.loadCells, binV, zal, pickV, zam, zan, zao, zap, zaq, zar, zas, zat, zau, outR, resAll, resOne, zav, zaw, zax, zay, zaz, zba, zbb, zbc, zbd, zbe, zbf, zbg, zbh, zbi, zbj, zbk, storeOp, storeCell, overlay, zbl, zbm, zbn, lookupOp, keyT, okRes, mapUpdateOp, zbo, zbp, zbq, zbr, zbs, zbt, zbu, Nat.reduceSub, Nat.reduceAdd, Int.reduceLT, Int.reduceLE, Int.reduceAdd, Int.reduceSub, Int.reduceToNat, Int.reduceBEq, Int.reduceBNe, Int.reduceMul, Nat.reduceBEq, Nat.reduceBNe, Nat.reduceLT, Nat.reduceLeDiff, Nat.reduceMul, Nat.reduceEqDiff, WD, effB, effH, isPriv, isHeap, isImm, zbx, zby, zbz, chkO, setD, dslot, zca, zcb, zcc, zcd, ptrCells_some, F11, buildSliceV, lits, srcV_eq, srcK_sl, srcK_str, srcSl_nils, srcSl_rsl, srcSl_sl, appendOp, frow, zbv, zbw, List.all_nil, List.all_cons, rowV, Bool.false_and, Bool.and_false, ne_eq, not_false_eq_true, grows_lr, callOut_t, storeHeap, promote, heapSet, elemSet, buildOp, fillV, Lay.place, Bool.or_self, Bool.or_false, Bool.false_or, decide_not, not_true_eq_false, decide_eq_true_eq, Nat.lt_irrefl, hsl, hk1, hk2, hk3, ho, ho3, hap, hap2, hfin, hrw, hwp, q2, q3, wptr, alts11_11]
          rw [if_neg (by rw [herr]; simp), hw2]
          refine ⟨rfl, ⟨⟨H3.length, f, on, l, true⟩, rfl, rfl, rfl, by simp only []; omega, R3.pushHr f on l hkd hlen hroom hrow3⟩, by simp; omega, fun j es hjd hjc h => ?_⟩
          rw [List.getElem?_set_ne (fun e => hjd e.symm), List.getElem?_set_ne, List.getElem?_append_left (by have := (List.getElem?_eq_some_iff.1 h).1; omega)]
          · exact hold3 j es hjc h
          · rintro rfl; rw [hold3 _ es hjc h] at hrow3; cases hrow3
end Go.Proofs.Ytfjbgmcdkhepkaa

namespace Go.Proofs.Ytfjbgmcdkhepkaa
open Go Go.Abs Go.Proofs
set_option maxRecDepth 100000
set_option maxHeartbeats 2000000
set_option linter.unusedVariables false
set_option linter.unusedSimpArgs false
theorem sameDeps_eq {H : Hp} {x y : V} {l m : List (Int × Int)} (hx : Rd H x (l.map depV)) (hy : Rd H y (m.map depV)) (hl : l.length < 4294967296) :
    EW 13 [x, y] H = some (.ret (.bool (decide (l = m))) false, H) := by
  refine eqOf (runs f13 b13 r13 n13 _ _ ?_)
  simp only [bodyOf, Try.f13, Option.getD_some]
  simp only [WW, partV, eqCells, eqLf, minV, maxV, ifcV, zaa, zab, zac, zad, zae, zaf, zag, zah, zai, ofConst, ofConst1, List.replicate, zaj, zak, loadOp, Go.Abs.loadCells, binV, zal, pickV, zam, zan, zao, zap, zaq, zar, zas, zat, zau, outR, resAll, resOne, zav, zaw, zax, zay, zaz, zba, zbb, zbc, zbd, zbe, zbf, zbg, zbh, zbi, zbj, zbk, storeOp, storeCell, overlay, zbl, zbm, zbn, lookupOp, keyT, okRes, mapUpdateOp, zbo, zbp, zbq, zbr, zbs, zbt, zbu, Nat.reduceSub, Nat.reduceAdd, Int.reduceLT, Int.reduceLE, Int.reduceAdd, Int.reduceSub, Int.reduceToNat, Int.reduceBEq, Int.reduceBNe, Int.reduceMul, Nat.reduceBEq, Nat.reduceBNe, Nat.reduceLT, Nat.reduceLeDiff, Nat.reduceMul, Nat.reduceEqDiff, WD, effB, effH, isPriv, isHeap, isImm, zbx, zby, zbz, chkO, setD, dslot, zca, zcb, zcc, zcd, ptrCells_some, F13, hx.shutIn, hy.shutIn, hx.len, hy.len]
  refine cSplit (fun h => ?_) (fun h => ?_)
  · simp only [h]
    simp only [WW, partV, eqCells, eqLf, minV, maxV, ifcV, zaa, zab, zac, zad, zae, zaf, zag, zah, zai, ofConst, ofConst1, List.replicate, zaj, zak, loadOp, Go.Abs.loadCells, binV, zal, pickV, zam, zan, zao, zap, zaq, zar, zas, zat, zau, outR, resAll, resOne, zav, zaw, zax, zay, zaz, zba, zbb, zbc, zbd, zbe, zbf, zbg, zbh, zbi, zbj, zbk, storeOp, storeCell, overlay, zbl, zbm, zbn, lookupOp, keyT, okRes, mapUpdateOp, zbo, zbp, zbq, zbr, zbs, zbt, zbu, Nat.reduceSub, Nat.reduceAdd, Int.reduceLT, Int.reduceLE, Int.reduceAdd, Int.reduceSub, Int.reduceToNat, Int.reduceBEq, Int.reduceBNe, Int.reduceMul, Nat.reduceBEq, Nat.reduceBNe, Nat.reduceLT, Nat.reduceLeDiff, Nat.reduceMul, Nat.reduceEqDiff, WD, effB, effH, isPriv, isHeap, isImm, zbx, zby, zbz, chkO, setD, dslot, zca, zcb, zcc, zcd, ptrCells_some, F13]
    have : l ≠ m := fun e => by subst e; simp at h
    simp [this]
  · simp only [h]
    have hlm : l.length = m.length := by simp at h; omega
    simp only [WW, partV, eqCells, eqLf, minV, maxV, ifcV, zaa, zab, zac, zad, zae, zaf, zag, zah, zai, ofConst, ofConst1, List.replicate, zaj, zak, loadOp, Go.Abs.loadCells, binV, zal, pickV, zam, zan, zao, zap, zaq, zar, zas, zat, zau, outR, resAll, resOne, zav, zaw, zax, zay, zaz, zba, zbb, zbc, zbd, zbe, zbf, zbg, zbh, zbi, zbj, zbk, storeOp, storeCell, overlay, zbl, zbm, zbn, lookupOp, keyT, okRes, mapUpdateOp, zbo, zbp, zbq, zbr, zbs, zbt, zbu, Nat.reduceSub, Nat.reduceAdd, Int.reduceLT, Int.reduceLE, Int.reduceAdd, Int.reduceSub, Int.reduceToNat, Int.reduceBEq, Int.reduceBNe, Int.reduceMul, Nat.reduceBEq, Nat.reduceBNe, Nat.reduceLT, Nat.reduceLeDiff, Nat.reduceMul, Nat.reduceEqDiff, WD, effB, effH, isPriv, isHeap, isImm, zbx, zby, zbz, chkO, setD, dslot, zca, zcb, zcc, zcd, ptrCells_some, F13]
    refine wC_loop _ (fun n st H' => ∃ i : Nat, st = ⟨L13_4 (.v x) (.v y) (.v (.int .i64 i)), [], []⟩ ∧ H' = H ∧ i ≤ l.length ∧ n = l.length - i ∧ l.take i = m.take i) l.length ⟨0, ?_, rfl, by omega, by omega, rfl⟩ ?_
    · simp only [WN, firstReg, growAll, zbv, zbw, norm, killS, zag, zah, zaa, zab, zbl, zat, zad, growOne, zae, zaf, zac, zas, zak, Nat.reduceLT, Nat.reduceAdd, zbj, zav, F13, L13_4, hx.clip2, hy.clip2]
      rfl
    · rintro n st H' ⟨i, rfl, rfl, hi, hn, hno⟩
      simp only [L13_4]
      simp only [WW, partV, eqCells, eqLf, minV, maxV, ifcV, zaa, zab, zac, zad, zae, zaf, zag, zah, zai, ofConst, ofConst1, List.replicate, zaj, zak, loadOp, Go.Abs.loadCells, binV, zal, pickV, zam, zan, zao, zap, zaq, zar, zas, zat, zau, outR, resAll, resOne, zav, zaw, zax, zay, zaz, zba, zbb, zbc, zbd, zbe, zbf, zbg, zbh, zbi, zbj, zbk, storeOp, storeCell, overlay, zbl, zbm, zbn, lookupOp, keyT, okRes, mapUpdateOp, zbo, zbp, zbq, zbr, zbs, zbt, zbu, Nat.reduceSub, Nat.reduceAdd, Int.reduceLT, Int.reduceLE, Int.reduceAdd, Int.reduceSub, Int.reduceToNat, Int.reduceBEq, Int.reduceBNe, Int.reduceMul, Nat.reduceBEq, Nat.reduceBNe, Nat.reduceLT, Nat.reduceLeDiff, Nat.reduceMul, Nat.reduceEqDiff, WD, effB, effH, isPriv, isHeap, isImm, zbx, zby, zbz, chkO, setD, dslot, zca, zcb, zcc, zcd, ptrCells_some, F13, hx.shutIn, hy.shutIn, hx.len, hy.len]
      refine cSplit (fun hlt => ?_) (fun hge => ?_)
      · have hi2 : i < l.length := by simpa using hlt
        obtain ⟨d, hd⟩ : ∃ d, l[i]? = some d := ⟨_, List.getElem?_eq_getElem hi2⟩
        obtain ⟨e, he⟩ : ∃ e, m[i]? = some e := ⟨_, List.getElem?_eq_getElem (by omega)⟩
        have hat := depAt hx hd
        have hbt := depAt hy he
        simp only [hlt]
        simp only [WW, partV, eqCells, eqLf, minV, maxV, ifcV, zaa, zab, zac, zad, zae, zaf, zag, zah, zai, ofConst, ofConst1, List.replicate, zaj, zak, loadOp, Go.Abs.loadCells, binV, zal, pickV, zam, zan, zao, zap, zaq, zar, zas, zat, zau, outR, resAll, resOne, zav, zaw, zax, zay, zaz, zba, zbb, zbc, zbd, zbe, zbf, zbg, zbh, zbi, zbj, zbk, storeOp, storeCell, overlay, zbl, zbm, zbn, lookupOp, keyT, okRes, mapUpdateOp, zbo, zbp, zbq, zbr, zbs, zbt, zbu, Nat.reduceSub, Nat.reduceAdd, Int.reduceLT, Int.reduceLE, Int.reduceAdd, Int.reduceSub, Int.reduceToNat, Int.reduceBEq, Int.reduceBNe, Int.reduceMul, Nat.reduceBEq, Nat.reduceBNe, Nat.reduceLT, Nat.reduceLeDiff, Nat.reduceMul, Nat.reduceEqDiff, WD, effB, effH, isPriv, isHeap, isImm, zbx, zby, zbz, chkO, setD, dslot, zca, zcb, zcc, zcd, ptrCells_some, F13]
        refine wC_dr alts13_6 (by kernel_rfl) ?_
        simp only [WW, partV, eqCells, eqLf, minV, maxV, ifcV, zaa, zab, zac, zad, zae, zaf, zag, zah, zai, ofConst, ofConst1, List.replicate, zaj, zak, loadOp, Go.Abs.loadCells, binV, zal, pickV, zam, zan, zao, zap, zaq, zar, zas, zat, zau, outR, resAll, resOne, zav, zaw, zax, zay, zaz, zba, zbb, zbc, zbd, zbe, zbf, zbg, zbh, zbi, zbj, zbk, storeOp, storeCell, overlay, zbl, zbm, zbn, lookupOp, keyT, okRes, mapUpdateOp, zbo, zbp, zbq, zbr, zbs, zbt, zbu, Nat.reduceSub, Nat.reduceAdd, Int.reduceLT, Int.reduceLE, Int.reduceAdd, Int.reduceSub, Int.reduceToNat, Int.reduceBEq, Int.reduceBNe, Int.reduceMul, Nat.reduceBEq, Nat.reduceBNe, Nat.reduceLT, Nat.reduceLeDiff, Nat.reduceMul, Nat.reduceEqDiff, WD, effB, effH, isPriv, isHeap, isImm, zbx, zby, zbz, chkO, setD, dslot, zca, zcb, zcc, zcd, ptrCells_some, F13, hx.shutIn, hy.shutIn, hat.at1 hx, hat.cells, hbt.at1 hy, hbt.cells, depV, alts13_6]
        refine cSplit (fun hT => ?_) (fun hF => ?_)
        · simp only [hT]
          simp only [WW, partV, eqCells, eqLf, minV, maxV, ifcV, zaa, zab, zac, zad, zae, zaf, zag, zah, zai, ofConst, ofConst1, List.replicate, zaj, zak, loadOp, Go.Abs.loadCells, binV, zal, pickV, zam, zan, zao, zap, zaq, zar, zas, zat, zau, outR, resAll, resOne, zav, zaw, zax, zay, zaz, zba, zbb, zbc, zbd, zbe, zbf, zbg, zbh, zbi, zbj, zbk, storeOp, storeCell, overlay, zbl, zbm, zbn, lookupOp, keyT, okRes, mapUpdateOp, zbo, zbp, zbq, zbr, zbs, zbt, zbu, Nat.reduceSub, Nat.reduceAdd, Int.reduceLT, Int.reduceLE, Int.reduceAdd, Int.reduceSub, Int.reduceToNat, Int.reduceBEq, Int.reduceBNe, Int.reduceMul, Nat.reduceBEq, Nat.reduceBNe, Nat.reduceLT, Nat.reduceLeDiff, Nat.reduceMul, Nat.reduceEqDiff, WD, effB, effH, isPriv, isHeap, isImm, zbx, zby, zbz, chkO, setD, dslot, zca, zcb, zcc, zcd, ptrCells_some, F13]
          have : l ≠ m := fun e2 => by subst e2; rw [hd] at he; cases he; simp at hT
          simp [this]
        · simp only [hF]
          have hde : d = e := by
            obtain ⟨d1, d2⟩ := d
            obtain ⟨e1, e2⟩ := e
            simpa using hF
          simp only [WW, partV, eqCells, eqLf, minV, maxV, ifcV, zaa, zab, zac, zad, zae, zaf, zag, zah, zai, ofConst, ofConst1, List.replicate, zaj, zak, loadOp, Go.Abs.loadCells, binV, zal, pickV, zam, zan, zao, zap, zaq, zar, zas, zat, zau, outR, resAll, resOne, zav, zaw, zax, zay, zaz, zba, zbb, zbc, zbd, zbe, zbf, zbg, zbh, zbi, zbj, zbk, storeOp, storeCell, overlay, zbl, zbm, zbn, lookupOp, keyT, okRes, mapUpdateOp, zbo, zbp, zbq, zbr, zbs, zbt, zbu, Nat.reduceSub, Nat.reduceAdd, Int.reduceLT, Int.reduceLE, Int.reduceAdd, Int.reduceSub, Int.reduceToNat, Int.reduceBEq, Int.reduceBNe, Int.reduceMul, Nat.reduceBEq, Nat.reduceBNe, Nat.reduceLT, Nat.reduceLeDiff, Nat.reduceMul, Nat.reduceEqDiff, WD, effB, effH, isPriv, isHeap, isImm, zbx, zby, zbz, chkO, setD, dslot, zca, zcb, zcc, zcd, ptrCells_some, F13]
          refine ⟨n - 1, by omega, i + 1, ?_, by omega, by omega, ?_⟩
          · simp only [WN, firstReg, growAll, zbv, zbw, norm, killS, zag, zah, zaa, zab, zbl, zat, zad, growOne, zae, zaf, zac, zas, zak, Nat.reduceLT, Nat.reduceAdd, zbj, zav, F13, hx.clip2, hy.clip2]
            rw [IntWalk.i64_in _ (by omega)]; rfl
          · rw [List.take_add_one, List.take_add_one, hd, he, hno, hde]
      · have hi2 : i = l.length := by simp at hge; omega
        simp only [hge]
        simp only [WW, partV, eqCells, eqLf, minV, maxV, ifcV, zaa, zab, zac, zad, zae, zaf, zag, zah, zai, ofConst, ofConst1, List.replicate, zaj, zak, loadOp, Go.Abs.loadCells, binV, zal, pickV, zam, zan, zao, zap, zaq, zar, zas, zat, zau, outR, resAll, resOne, zav, zaw, zax, zay, zaz, zba, zbb, zbc, zbd, zbe, zbf, zbg, zbh, zbi, zbj, zbk, storeOp, storeCell, overlay, zbl, zbm, zbn, lookupOp, keyT, okRes, mapUpdateOp, zbo, zbp, zbq, zbr, zbs, zbt, zbu, Nat.reduceSub, Nat.reduceAdd, Int.reduceLT, Int.reduceLE, Int.reduceAdd, Int.reduceSub, Int.reduceToNat, Int.reduceBEq, Int.reduceBNe, Int.reduceMul, Nat.reduceBEq, Nat.reduceBNe, Nat.reduceLT, Nat.reduceLeDiff, Nat.reduceMul, Nat.reduceEqDiff, WD, effB, effH, isPriv, isHeap, isImm, zbx, zby, zbz, chkO, setD, dslot, zca, zcb, zcc, zcd, ptrCells_some, F13]
        subst hi2
        rw [List.take_length, hlm, List.take_length] at hno
        simp [hno]
/-- Memory that is not the registry's is written to. -/
theorem Reg.poke {H : Hp} {d c : Nat} {g : Int} {cnt : List Int} {all : List Ver} (R : Reg H d c g cnt all) {id : Nat} {es : List V} (h : H[id]? = some (.cells es)) (hd : id ≠ d) (hc : id ≠ c) (hv : id ∉ all.map (·.id)) (es' : List V) : Reg (H.set id (.cells es')) d c g cnt all := by
  obtain ⟨al, h1, h2⟩ := R.ex
  have keep : ∀ {k : Nat} {b : Blk}, k ≠ id → H[k]? = some b → (H.set id (.cells es'))[k]? = some b := fun {k b} hk e => by
    rw [List.getElem?_set_ne (fun e => hk e.symm)]; exact e
  refine ⟨⟨al, keep hd.symm h1, h2.imp (fun e => e) fun ⟨rid, ns, a, b, c⟩ => ⟨rid, ns, a, keep (fun e => by rw [e, h] at b; cases b) b, c⟩⟩, keep hc.symm R.cn, fun v hvm => ⟨keep (fun e => hv (by rw [← e]; exact List.mem_map.2 ⟨v, hvm, rfl⟩)) (R.vs v hvm).1, (R.vs v hvm).2⟩, R.nd, R.nc, R.len, R.cl⟩
/-- A row of Deps that may be written to, beside the registry -/
def Wr (H : Hp) (d c : Nat) (all : List Ver) (x : V) (n : Nat) : Prop := (n = 0 ∧ (x = .nils ∨ x = .rsl [])) ∨ ∃ id, ∃ m : List (Int × Int), x = .sl id 0 n ∧ H[id]? = some (.cells (m.map depV)) ∧ m.length = n ∧ id ≠ d ∧ id ≠ c ∧ id ∉ all.map (·.id)
theorem Wr.rd {H : Hp} {d c n : Nat} {all : List Ver} {x : V} (h : Wr H d c all x n) : ∃ m : List (Int × Int), Rd H x (m.map depV) ∧ m.length = n := by
  rcases h with ⟨rfl, rfl | rfl⟩ | ⟨id, m, rfl, h, rfl, _⟩
  · exact ⟨[], .nils, rfl⟩
  · exact ⟨[], .rsl _, rfl⟩
  · have := Rd.whole h
    rw [List.length_map] at this
    exact ⟨m, this, rfl⟩
theorem addErr_one (l : List (Int × Int)) : addErr 50 [0, 0] [] 1 l = 1 ∨ (addErr 50 [0, 0] [] 1 l = 0 ∧ ∀ y ∈ l, 0 ≤ y.1 ∧ y.1 < 50) := by
  unfold addErr
  split
  · exact .inl rfl
  · rename_i h
    rw [if_neg (by simp), if_neg (by simp [getCnt])]
    refine .inr ⟨rfl, fun y hy => ?_⟩
    simp only [Bool.or_eq_true, not_or, Bool.not_eq_true, List.any_eq_false, Bool.or_eq_false_iff, decide_eq_false_iff_not] at h
    have := h.1.2 y hy
    simp at this
    omega
theorem Wr.clip2 {H : Hp} {d c n : Nat} {all : List Ver} {x : V} (h : Wr H d c all x n) (a b : Nat) : Abs.clip a b (.v x) = .v x := by
  obtain ⟨m, h, _⟩ := h.rd; exact h.clip2 a b
theorem Wr.shut {H : Hp} {d c n : Nat} {all : List Ver} {x : V} (h : Wr H d c all x n) (st : St) : sealV st x = x := by
  obtain ⟨m, h, _⟩ := h.rd; exact h.shutIn st
theorem Wr.len {H : Hp} {d c n : Nat} {all : List Ver} {x : V} (h : Wr H d c all x n) (e : TypeId) : lenK H (.slice e) x = some (.int .i64 n) := by
  obtain ⟨m, hm, hl⟩ := h.rd; rw [hm.len, List.length_map, hl]
theorem clone_sx {H : Hp} {x : V} {l : List (Int × Int)} (h : Sx H x (l.map depV)) : Sx (cloneR x l H).2 (cloneR x l H).1 (l.map depV) := by
  unfold cloneR
  split
  · rename_i hn
    rw [(h.nil_l hn).2]; exact .nils
  · cases l with
    | nil => exact .rsl []
    | cons a b =>
      have := Sx.whole (H := H ++ [Blk.cells ((a :: b).map depV)]) (id := H.length) (es := (a :: b).map depV) (by simp)
      rw [List.length_map] at this
      exact this
theorem hits_mem {p : Nat → Ver → Bool} {A : List Ver} {n j : Nat} (h : j ∈ hits p A n) : j < n ∧ ∃ v, A[j]? = some v ∧ v.ok = true ∧ p j v = true := by
  unfold hits at h
  rw [List.mem_filter] at h
  refine ⟨List.mem_range.1 h.1, ?_⟩
  have h2 := h.2
  unfold hit at h2
  cases hA : A[j]? with
  | none => rw [hA] at h2; cases h2
  | some v => rw [hA] at h2; simp only [Bool.and_eq_true] at h2; exact ⟨v, rfl, h2⟩
theorem hits_off {p : Nat → Ver → Bool} {A : List Ver} {j : Nat} (h : j ∈ hits p A A.length) : ∃ w, (upd p A A.length)[j]? = some w ∧ w.ok = false := by
  obtain ⟨hj, v, h1, h2, h3⟩ := hits_mem h
  refine ⟨v.off, ?_, rfl⟩
  rw [upd_at, h1]
  simp [hj, h2, h3]
theorem depsOwn_eq (x : V) (l : List (Int × Int)) (hx : IsDeps x l) (hu : ∀ y ∈ l, 0 ≤ y.2 ∧ y.2 < 18446744073709551616) (v : Int) :
    wpCall EW 3 [x, .int .u64 v] [] (fun out H' => out = .ret (.bool true) false) := by
  have hr := fun H => hx.rd H
  have hs := (hr []).shutIn
  refine runs f3 b3 r3 n3 _ _ ?_
  simp only [bodyOf, Try.f3, Option.getD_some]
  simp only [WW, partV, eqCells, eqLf, minV, maxV, ifcV, zaa, zab, zac, zad, zae, zaf, zag, zah, zai, ofConst, ofConst1, List.replicate, zaj, zak, loadOp, Go.Abs.loadCells, binV, zal, pickV, zam, zan, zao, zap, zaq, zar, zas, zat, zau, outR, resAll, resOne, zav, zaw, zax, zay, zaz, zba, zbb, zbc, zbd, zbe, zbf, zbg, zbh, zbi, zbj, zbk, storeOp, storeCell, overlay, zbl, zbm, zbn, lookupOp, keyT, okRes, mapUpdateOp, zbo, zbp, zbq, zbr, zbs, zbt, zbu, Nat.reduceSub, Nat.reduceAdd, Int.reduceLT, Int.reduceLE, Int.reduceAdd, Int.reduceSub, Int.reduceToNat, Int.reduceBEq, Int.reduceBNe, Int.reduceMul, Nat.reduceBEq, Nat.reduceBNe, Nat.reduceLT, Nat.reduceLeDiff, Nat.reduceMul, Nat.reduceEqDiff, WD, effB, effH, isPriv, isHeap, isImm, zbx, zby, zbz, chkO, setD, dslot, zca, zcb, zcc, zcd, ptrCells_some, F3, hs, (hr _).len]
  refine cSplit (fun h => ?_) (fun h => ?_)
  · simp only [h]
    simp only [WW, partV, eqCells, eqLf, minV, maxV, ifcV, zaa, zab, zac, zad, zae, zaf, zag, zah, zai, ofConst, ofConst1, List.replicate, zaj, zak, loadOp, Go.Abs.loadCells, binV, zal, pickV, zam, zan, zao, zap, zaq, zar, zas, zat, zau, outR, resAll, resOne, zav, zaw, zax, zay, zaz, zba, zbb, zbc, zbd, zbe, zbf, zbg, zbh, zbi, zbj, zbk, storeOp, storeCell, overlay, zbl, zbm, zbn, lookupOp, keyT, okRes, mapUpdateOp, zbo, zbp, zbq, zbr, zbs, zbt, zbu, Nat.reduceSub, Nat.reduceAdd, Int.reduceLT, Int.reduceLE, Int.reduceAdd, Int.reduceSub, Int.reduceToNat, Int.reduceBEq, Int.reduceBNe, Int.reduceMul, Nat.reduceBEq, Nat.reduceBNe, Nat.reduceLT, Nat.reduceLeDiff, Nat.reduceMul, Nat.reduceEqDiff, WD, effB, effH, isPriv, isHeap, isImm, zbx, zby, zbz, chkO, setD, dslot, zca, zcb, zcc, zcd, ptrCells_some, F3]
    rw [wpCall_eq (live_eq _)]
    simp only [WW, partV, eqCells, eqLf, minV, maxV, ifcV, zaa, zab, zac, zad, zae, zaf, zag, zah, zai, ofConst, ofConst1, List.replicate, zaj, zak, loadOp, Go.Abs.loadCells, binV, zal, pickV, zam, zan, zao, zap, zaq, zar, zas, zat, zau, outR, resAll, resOne, zav, zaw, zax, zay, zaz, zba, zbb, zbc, zbd, zbe, zbf, zbg, zbh, zbi, zbj, zbk, storeOp, storeCell, overlay, zbl, zbm, zbn, lookupOp, keyT, okRes, mapUpdateOp, zbo, zbp, zbq, zbr, zbs, zbt, zbu, Nat.reduceSub, Nat.reduceAdd, Int.reduceLT, Int.reduceLE, Int.reduceAdd, Int.reduceSub, Int.reduceToNat, Int.reduceBEq, Int.reduceBNe, Int.reduceMul, Nat.reduceBEq, Nat.reduceBNe, Nat.reduceLT, Nat.reduceLeDiff, Nat.reduceMul, Nat.reduceEqDiff, WD, effB, effH, isPriv, isHeap, isImm, zbx, zby, zbz, chkO, setD, dslot, zca, zcb, zcc, zcd, ptrCells_some, F3]
  · have hlen : l.length ≤ 40 := by simp at h; omega
    simp only [h]
    simp only [WW, partV, eqCells, eqLf, minV, maxV, ifcV, zaa, zab, zac, zad, zae, zaf, zag, zah, zai, ofConst, ofConst1, List.replicate, zaj, zak, loadOp, Go.Abs.loadCells, binV, zal, pickV, zam, zan, zao, zap, zaq, zar, zas, zat, zau, outR, resAll, resOne, zav, zaw, zax, zay, zaz, zba, zbb, zbc, zbd, zbe, zbf, zbg, zbh, zbi, zbj, zbk, storeOp, storeCell, overlay, zbl, zbm, zbn, lookupOp, keyT, okRes, mapUpdateOp, zbo, zbp, zbq, zbr, zbs, zbt, zbu, Nat.reduceSub, Nat.reduceAdd, Int.reduceLT, Int.reduceLE, Int.reduceAdd, Int.reduceSub, Int.reduceToNat, Int.reduceBEq, Int.reduceBNe, Int.reduceMul, Nat.reduceBEq, Nat.reduceBNe, Nat.reduceLT, Nat.reduceLeDiff, Nat.reduceMul, Nat.reduceEqDiff, WD, effB, effH, isPriv, isHeap, isImm, zbx, zby, zbz, chkO, setD, dslot, zca, zcb, zcc, zcd, ptrCells_some, F3]
    refine wpCall_of (new_eq 2 50 []) ?_
    rintro out H1 hp
    rw [if_neg (by decide)] at hp
    obtain ⟨rfl, R0, _⟩ := hp
    simp only [List.length_nil, Nat.zero_add] at R0
    simp only [WW, partV, eqCells, eqLf, minV, maxV, ifcV, zaa, zab, zac, zad, zae, zaf, zag, zah, zai, ofConst, ofConst1, List.replicate, zaj, zak, loadOp, Go.Abs.loadCells, binV, zal, pickV, zam, zan, zao, zap, zaq, zar, zas, zat, zau, outR, resAll, resOne, zav, zaw, zax, zay, zaz, zba, zbb, zbc, zbd, zbe, zbf, zbg, zbh, zbi, zbj, zbk, storeOp, storeCell, overlay, zbl, zbm, zbn, lookupOp, keyT, okRes, mapUpdateOp, zbo, zbp, zbq, zbr, zbs, zbt, zbu, Nat.reduceSub, Nat.reduceAdd, Int.reduceLT, Int.reduceLE, Int.reduceAdd, Int.reduceSub, Int.reduceToNat, Int.reduceBEq, Int.reduceBNe, Int.reduceMul, Nat.reduceBEq, Nat.reduceBNe, Nat.reduceLT, Nat.reduceLeDiff, Nat.reduceMul, Nat.reduceEqDiff, WD, effB, effH, isPriv, isHeap, isImm, zbx, zby, zbz, chkO, setD, dslot, zca, zcb, zcc, zcd, ptrCells_some, F3, wpCall_eq (num_eq _ _)]
    have R0' : Reg H1 1 0 50 [0, 0] [] := R0
    have hd1 := R0'.lt.d
    have hcp : ∀ (st : St) (rid : Nat) (H : Hp) (d : Option Nat), st.r[rid]? = some ⟨true, false, []⟩ → appendOp Try.prog .heap st H d 34 (.lr rid 0) (l.map depV) = some (putS st d (.v (copyR (l.map depV) H).1), (copyR (l.map depV) H).2) := fun st rid H d hr =>
      app_copy hr (by rw [size34]; exact wide_dep l) (by rw [room34]; simp; omega)
    simp only [WW, partV, eqCells, eqLf, minV, maxV, ifcV, zaa, zab, zac, zad, zae, zaf, zag, zah, zai, ofConst, ofConst1, List.replicate, zaj, zak, loadOp, Go.Abs.loadCells, binV, zal, pickV, zam, zan, zao, zap, zaq, zar, zas, zat, zau, outR, resAll, resOne, zav, zaw, zax, zay, zaz, zba, zbb, zbc, zbd, zbe, zbf, zbg, zbh, zbi, zbj, zbk, storeOp, storeCell, overlay, zbl, zbm, zbn, lookupOp, keyT, okRes, mapUpdateOp, zbo, zbp, zbq, zbr, zbs, zbt, zbu, Nat.reduceSub, Nat.reduceAdd, Int.reduceLT, Int.reduceLE, Int.reduceAdd, Int.reduceSub, Int.reduceToNat, Int.reduceBEq, Int.reduceBNe, Int.reduceMul, Nat.reduceBEq, Nat.reduceBNe, Nat.reduceLT, Nat.reduceLeDiff, Nat.reduceMul, Nat.reduceEqDiff, WD, effB, effH, isPriv, isHeap, isImm, zbx, zby, zbz, chkO, setD, dslot, zca, zcb, zcc, zcd, ptrCells_some, F3, hs, (hr _).srcSl, hcp, buildSliceV, lits, srcV_eq, srcK_sl, srcK_str, srcSl_nils, srcSl_rsl, srcSl_sl, frow, zbv, zbw, List.all_nil, List.all_cons, rowV, Bool.false_and, Bool.and_false, ne_eq, not_false_eq_true, grows_lr, callOut_t]
    have hcs := copy_sx (es := l.map depV) (H := H1)
    have hW : Wr (copyR (l.map depV) H1).2 1 0 [] (copyR (l.map depV) H1).1 l.length := by
      unfold copyR
      cases l with
      | nil => exact .inl ⟨rfl, .inr rfl⟩
      | cons a b => exact .inr ⟨H1.length, a :: b, by simp, by simp, rfl, by omega, by omega, by simp⟩
    have hRC : Reg (copyR (l.map depV) H1).2 1 0 50 [0, 0] [] := by
      unfold copyR; split
      · exact R0'
      · exact R0'.more _
    generalize copyR (l.map depV) H1 = K at hcs hW hRC ⊢
    obtain ⟨cv, HC⟩ := K
    simp only at hcs hW hRC
    simp only [WW, partV, eqCells, eqLf, minV, maxV, ifcV, zaa, zab, zac, zad, zae, zaf, zag, zah, zai, ofConst, ofConst1, List.replicate, zaj, zak, loadOp, Go.Abs.loadCells, binV, zal, pickV, zam, zan, zao, zap, zaq, zar, zas, zat, zau, outR, resAll, resOne, zav, zaw, zax, zay, zaz, zba, zbb, zbc, zbd, zbe, zbf, zbg, zbh, zbi, zbj, zbk, storeOp, storeCell, overlay, zbl, zbm, zbn, lookupOp, keyT, okRes, mapUpdateOp, zbo, zbp, zbq, zbr, zbs, zbt, zbu, Nat.reduceSub, Nat.reduceAdd, Int.reduceLT, Int.reduceLE, Int.reduceAdd, Int.reduceSub, Int.reduceToNat, Int.reduceBEq, Int.reduceBNe, Int.reduceMul, Nat.reduceBEq, Nat.reduceBNe, Nat.reduceLT, Nat.reduceLeDiff, Nat.reduceMul, Nat.reduceEqDiff, WD, effB, effH, isPriv, isHeap, isImm, zbx, zby, zbz, chkO, setD, dslot, zca, zcb, zcc, zcd, ptrCells_some, F3, hW.shut]
    refine wpCall_of (add_eq hRC 1 cv l hcs (by omega) (fun id lo n e => by
      rcases hW with ⟨_, rfl | rfl⟩ | ⟨id', m, rfl, _, _, _, h, _⟩
      · cases e
      · cases e
      · cases e; exact h) (by simp) (by decide)) ?_
    rintro out H2 hp
    rcases addErr_one l with he | ⟨he, hrg⟩
    · rw [if_pos (by rw [he]; decide), he] at hp
      obtain ⟨rfl, _⟩ := hp
      simp only [WW, partV, eqCells, eqLf, minV, maxV, ifcV, zaa, zab, zac, zad, zae, zaf, zag, zah, zai, ofConst, ofConst1, List.replicate, zaj, zak, loadOp, Go.Abs.loadCells, binV, zal, pickV, zam, zan, zao, zap, zaq, zar, zas, zat, zau, outR, resAll, resOne, zav, zaw, zax, zay, zaz, zba, zbb, zbc, zbd, zbe, zbf, zbg, zbh, zbi, zbj, zbk, storeOp, storeCell, overlay, zbl, zbm, zbn, lookupOp, keyT, okRes, mapUpdateOp, zbo, zbp, zbq, zbr, zbs, zbt, zbu, Nat.reduceSub, Nat.reduceAdd, Int.reduceLT, Int.reduceLE, Int.reduceAdd, Int.reduceSub, Int.reduceToNat, Int.reduceBEq, Int.reduceBNe, Int.reduceMul, Nat.reduceBEq, Nat.reduceBNe, Nat.reduceLT, Nat.reduceLeDiff, Nat.reduceMul, Nat.reduceEqDiff, WD, effB, effH, isPriv, isHeap, isImm, zbx, zby, zbz, chkO, setD, dslot, zca, zcb, zcc, zcd, ptrCells_some, F3, wpCall_eq (num_eq _ _)]
      rw [wpCall_eq (live_eq _)]
      simp only [WW, partV, eqCells, eqLf, minV, maxV, ifcV, zaa, zab, zac, zad, zae, zaf, zag, zah, zai, ofConst, ofConst1, List.replicate, zaj, zak, loadOp, Go.Abs.loadCells, binV, zal, pickV, zam, zan, zao, zap, zaq, zar, zas, zat, zau, outR, resAll, resOne, zav, zaw, zax, zay, zaz, zba, zbb, zbc, zbd, zbe, zbf, zbg, zbh, zbi, zbj, zbk, storeOp, storeCell, overlay, zbl, zbm, zbn, lookupOp, keyT, okRes, mapUpdateOp, zbo, zbp, zbq, zbr, zbs, zbt, zbu, Nat.reduceSub, Nat.reduceAdd, Int.reduceLT, Int.reduceLE, Int.reduceAdd, Int.reduceSub, Int.reduceToNat, Int.reduceBEq, Int.reduceBNe, Int.reduceMul, Nat.reduceBEq, Nat.reduceBNe, Nat.reduceLT, Nat.reduceLeDiff, Nat.reduceMul, Nat.reduceEqDiff, WD, effB, effH, isPriv, isHeap, isImm, zbx, zby, zbz, chkO, setD, dslot, zca, zcb, zcc, zcd, ptrCells_some, F3]
    · rw [if_neg (by rw [he]; decide)] at hp
      obtain ⟨rfl, ⟨v1, hv1, hv2, hv3, hv4, R2⟩, hl2, hk2⟩ := hp
      have R2' : Reg H2 1 0 50 [0, 1] [v1] := R2
      clear R2
      have hW2 : Wr H2 1 0 [v1] cv l.length := by
        rcases hW with h | ⟨id, m, rfl, h1, h2, h3, h4, h5⟩
        · exact .inl h
        · refine .inr ⟨id, m, rfl, hk2 _ _ h3 h4 h1, h2, h3, h4, ?_⟩
          have := (List.getElem?_eq_some_iff.1 h1).1
          simp; omega
      simp only [WW, partV, eqCells, eqLf, minV, maxV, ifcV, zaa, zab, zac, zad, zae, zaf, zag, zah, zai, ofConst, ofConst1, List.replicate, zaj, zak, loadOp, Go.Abs.loadCells, binV, zal, pickV, zam, zan, zao, zap, zaq, zar, zas, zat, zau, outR, resAll, resOne, zav, zaw, zax, zay, zaz, zba, zbb, zbc, zbd, zbe, zbf, zbg, zbh, zbi, zbj, zbk, storeOp, storeCell, overlay, zbl, zbm, zbn, lookupOp, keyT, okRes, mapUpdateOp, zbo, zbp, zbq, zbr, zbs, zbt, zbu, Nat.reduceSub, Nat.reduceAdd, Int.reduceLT, Int.reduceLE, Int.reduceAdd, Int.reduceSub, Int.reduceToNat, Int.reduceBEq, Int.reduceBNe, Int.reduceMul, Nat.reduceBEq, Nat.reduceBNe, Nat.reduceLT, Nat.reduceLeDiff, Nat.reduceMul, Nat.reduceEqDiff, WD, effB, effH, isPriv, isHeap, isImm, zbx, zby, zbz, chkO, setD, dslot, zca, zcb, zcc, zcd, ptrCells_some, F3, wpCall_eq (num_eq _ _)]
      refine wC_loop _ (fun n st H' => ∃ i : Nat, st = ⟨L3_11 (.v x) (.v (.ptr 1 0 0)) (.v cv) (.v (.int .i64 0)) (.v (.int .i64 i)), [], [⟨true, false, []⟩]⟩ ∧ i ≤ l.length ∧ n = l.length - i ∧ Reg H' 1 0 50 [0, 1] [v1] ∧ Wr H' 1 0 [v1] cv l.length) l.length ⟨0, ?_, by omega, by omega, R2', hW2⟩ ?_
      · simp only [WN, firstReg, growAll, zbv, zbw, norm, killS, zag, zah, zaa, zab, zbl, zat, zad, growOne, zae, zaf, zac, zas, zak, Nat.reduceLT, Nat.reduceAdd, zbj, zav, F3, L3_11, (hr []).clip2, hW.clip2]
        try rfl
      · rintro n st H' ⟨i, rfl, hi, hn, R, hWi⟩
        simp only [L3_11]
        simp only [WW, partV, eqCells, eqLf, minV, maxV, ifcV, zaa, zab, zac, zad, zae, zaf, zag, zah, zai, ofConst, ofConst1, List.replicate, zaj, zak, loadOp, Go.Abs.loadCells, binV, zal, pickV, zam, zan, zao, zap, zaq, zar, zas, zat, zau, outR, resAll, resOne, zav, zaw, zax, zay, zaz, zba, zbb, zbc, zbd, zbe, zbf, zbg, zbh, zbi, zbj, zbk, storeOp, storeCell, overlay, zbl, zbm, zbn, lookupOp, keyT, okRes, mapUpdateOp, zbo, zbp, zbq, zbr, zbs, zbt, zbu, Nat.reduceSub, Nat.reduceAdd, Int.reduceLT, Int.reduceLE, Int.reduceAdd, Int.reduceSub, Int.reduceToNat, Int.reduceBEq, Int.reduceBNe, Int.reduceMul, Nat.reduceBEq, Nat.reduceBNe, Nat.reduceLT, Nat.reduceLeDiff, Nat.reduceMul, Nat.reduceEqDiff, WD, effB, effH, isPriv, isHeap, isImm, zbx, zby, zbz, chkO, setD, dslot, zca, zcb, zcc, zcd, ptrCells_some, F3, hWi.shut, hWi.len]
        refine cSplit (fun hlt => ?_) (fun hge => ?_)
        · have hi2 : i < l.length := by simpa using hlt
          rcases hWi with ⟨h0, _⟩ | ⟨id, m, rfl, h1, h2, h3, h4, h5⟩
          · omega
          · have hm : m[i]? = some m[i] := List.getElem?_eq_getElem (by omega)
            generalize m[i] = y at hm
            have hir : (0:Int) ≤ i ∧ (i:Int) < l.length := ⟨by omega, by omega⟩
            simp only [hlt]
            simp only [WW, partV, eqCells, eqLf, minV, maxV, ifcV, zaa, zab, zac, zad, zae, zaf, zag, zah, zai, ofConst, ofConst1, List.replicate, zaj, zak, loadOp, Go.Abs.loadCells, binV, zal, pickV, zam, zan, zao, zap, zaq, zar, zas, zat, zau, outR, resAll, resOne, zav, zaw, zax, zay, zaz, zba, zbb, zbc, zbd, zbe, zbf, zbg, zbh, zbi, zbj, zbk, storeOp, storeCell, overlay, zbl, zbm, zbn, lookupOp, keyT, okRes, mapUpdateOp, zbo, zbp, zbq, zbr, zbs, zbt, zbu, Nat.reduceSub, Nat.reduceAdd, Int.reduceLT, Int.reduceLE, Int.reduceAdd, Int.reduceSub, Int.reduceToNat, Int.reduceBEq, Int.reduceBNe, Int.reduceMul, Nat.reduceBEq, Nat.reduceBNe, Nat.reduceLT, Nat.reduceLeDiff, Nat.reduceMul, Nat.reduceEqDiff, WD, effB, effH, isPriv, isHeap, isImm, zbx, zby, zbz, chkO, setD, dslot, zca, zcb, zcc, zcd, ptrCells_some, F3, slAt_sl, hir.1, hir.2, slIn_some, h1, List.getElem?_map, hm, depV, storeHeap, promote, heapSet, elemSet]
            refine ⟨n - 1, by omega, i + 1, ?_, by omega, by omega, R.poke h1 h3 h4 h5 _, .inr ⟨id, m.set i (y.1, 99), rfl, ?_, by simpa using h2, h3, h4, h5⟩⟩
            · simp only [WN, firstReg, growAll, zbv, zbw, norm, killS, zag, zah, zaa, zab, zbl, zat, zad, growOne, zae, zaf, zac, zas, zak, Nat.reduceLT, Nat.reduceAdd, zbj, zav, F3, (hr []).clip2]
              rw [IntWalk.i64_in _ (by omega)]; rfl
            · rw [List.getElem?_set_self (List.getElem?_eq_some_iff.1 h1).1, List.map_set]; rfl
        · simp only [hge]
          clear hWi hW2
          simp only [WW, partV, eqCells, eqLf, minV, maxV, ifcV, zaa, zab, zac, zad, zae, zaf, zag, zah, zai, ofConst, ofConst1, List.replicate, zaj, zak, loadOp, Go.Abs.loadCells, binV, zal, pickV, zam, zan, zao, zap, zaq, zar, zas, zat, zau, outR, resAll, resOne, zav, zaw, zax, zay, zaz, zba, zbb, zbc, zbd, zbe, zbf, zbg, zbh, zbi, zbj, zbk, storeOp, storeCell, overlay, zbl, zbm, zbn, lookupOp, keyT, okRes, mapUpdateOp, zbo, zbp, zbq, zbr, zbs, zbt, zbu, Nat.reduceSub, Nat.reduceAdd, Int.reduceLT, Int.reduceLE, Int.reduceAdd, Int.reduceSub, Int.reduceToNat, Int.reduceBEq, Int.reduceBNe, Int.reduceMul, Nat.reduceBEq, Nat.reduceBNe, Nat.reduceLT, Nat.reduceLeDiff, Nat.reduceMul, Nat.reduceEqDiff, WD, effB, effH, isPriv, isHeap, isImm, zbx, zby, zbz, chkO, setD, dslot, zca, zcb, zcc, zcd, ptrCells_some, F3]
          have hvm : v1 ∈ [v1] := by simp
          have hg0 : getVer [v1] 0 = some v1 := rfl
          have hon : ∀ {H : Hp}, Reg H 1 0 50 [0, 1] [v1] → EW 12 [.ptr 1 0 0, .int .i64 0] H = some (.ret (cloneR v1.on v1.l H).1 false, (cloneR v1.on v1.l H).2) := fun R => on_eq R 0
          rw [wpCall_eq (hon R)]
          have hWx : Wr (cloneR v1.on v1.l H').2 1 0 [v1] (cloneR v1.on v1.l H').1 l.length := by
            rw [hv2]; unfold cloneR
            split
            · rename_i hn
              have := (R.sx hvm).nil_l hn
              rw [hv2] at this
              refine .inl ⟨?_, .inl rfl⟩
              have := this.2; simp at this; simp [this]
            · split
              · rename_i hq
                refine .inl ⟨?_, .inr rfl⟩
                simpa using hq
              · have hlt := R.lt
                refine .inr ⟨H'.length, l, rfl, by simp, rfl, by have := hlt.d; omega, by have := hlt.c; omega, ?_⟩
                have := hlt.v v1 hvm
                simp; omega
          have hRx : Reg (cloneR v1.on v1.l H').2 1 0 50 [0, 1] [v1] := by
            unfold cloneR; split
            · exact R
            · split
              · exact R
              · exact R.more _
          generalize cloneR v1.on v1.l H' = K at hWx hRx ⊢
          obtain ⟨xv, H3⟩ := K
          simp only at hWx hRx
          simp only [WW, partV, eqCells, eqLf, minV, maxV, ifcV, zaa, zab, zac, zad, zae, zaf, zag, zah, zai, ofConst, ofConst1, List.replicate, zaj, zak, loadOp, Go.Abs.loadCells, binV, zal, pickV, zam, zan, zao, zap, zaq, zar, zas, zat, zau, outR, resAll, resOne, zav, zaw, zax, zay, zaz, zba, zbb, zbc, zbd, zbe, zbf, zbg, zbh, zbi, zbj, zbk, storeOp, storeCell, overlay, zbl, zbm, zbn, lookupOp, keyT, okRes, mapUpdateOp, zbo, zbp, zbq, zbr, zbs, zbt, zbu, Nat.reduceSub, Nat.reduceAdd, Int.reduceLT, Int.reduceLE, Int.reduceAdd, Int.reduceSub, Int.reduceToNat, Int.reduceBEq, Int.reduceBNe, Int.reduceMul, Nat.reduceBEq, Nat.reduceBNe, Nat.reduceLT, Nat.reduceLeDiff, Nat.reduceMul, Nat.reduceEqDiff, WD, effB, effH, isPriv, isHeap, isImm, zbx, zby, zbz, chkO, setD, dslot, zca, zcb, zcc, zcd, ptrCells_some, F3, hWx.shut]
          refine wC_loop _ (fun n st H' => ∃ i : Nat, st = ⟨L3_16 (.v x) (.v (.ptr 1 0 0)) (.v (.int .i64 0)) (.v xv) (.v (.int .i64 i)), [], [⟨true, false, []⟩]⟩ ∧ i ≤ l.length ∧ n = l.length - i ∧ Reg H' 1 0 50 [0, 1] [v1] ∧ Wr H' 1 0 [v1] xv l.length) l.length ⟨0, ?_, by omega, by omega, hRx, hWx⟩ ?_
          · simp only [WN, firstReg, growAll, zbv, zbw, norm, killS, zag, zah, zaa, zab, zbl, zat, zad, growOne, zae, zaf, zac, zas, zak, Nat.reduceLT, Nat.reduceAdd, zbj, zav, F3, L3_16, (hr []).clip2, hWx.clip2]
            try rfl
          · clear R hn hi n H'
            rintro n st H' ⟨i, rfl, hi, hn, R, hWi⟩
            simp only [L3_16]
            simp only [WW, partV, eqCells, eqLf, minV, maxV, ifcV, zaa, zab, zac, zad, zae, zaf, zag, zah, zai, ofConst, ofConst1, List.replicate, zaj, zak, loadOp, Go.Abs.loadCells, binV, zal, pickV, zam, zan, zao, zap, zaq, zar, zas, zat, zau, outR, resAll, resOne, zav, zaw, zax, zay, zaz, zba, zbb, zbc, zbd, zbe, zbf, zbg, zbh, zbi, zbj, zbk, storeOp, storeCell, overlay, zbl, zbm, zbn, lookupOp, keyT, okRes, mapUpdateOp, zbo, zbp, zbq, zbr, zbs, zbt, zbu, Nat.reduceSub, Nat.reduceAdd, Int.reduceLT, Int.reduceLE, Int.reduceAdd, Int.reduceSub, Int.reduceToNat, Int.reduceBEq, Int.reduceBNe, Int.reduceMul, Nat.reduceBEq, Nat.reduceBNe, Nat.reduceLT, Nat.reduceLeDiff, Nat.reduceMul, Nat.reduceEqDiff, WD, effB, effH, isPriv, isHeap, isImm, zbx, zby, zbz, chkO, setD, dslot, zca, zcb, zcc, zcd, ptrCells_some, F3, hWi.shut, hWi.len]
            refine cSplit (fun hlt => ?_) (fun hge => ?_)
            · have hi2 : i < l.length := by simpa using hlt
              rcases hWi with ⟨h0, _⟩ | ⟨id, m, rfl, h1, h2, h3, h4, h5⟩
              · omega
              · have hm : m[i]? = some m[i] := List.getElem?_eq_getElem (by omega)
                generalize m[i] = y at hm
                have hir : (0:Int) ≤ i ∧ (i:Int) < l.length := ⟨by omega, by omega⟩
                simp only [hlt]
                simp only [WW, partV, eqCells, eqLf, minV, maxV, ifcV, zaa, zab, zac, zad, zae, zaf, zag, zah, zai, ofConst, ofConst1, List.replicate, zaj, zak, loadOp, Go.Abs.loadCells, binV, zal, pickV, zam, zan, zao, zap, zaq, zar, zas, zat, zau, outR, resAll, resOne, zav, zaw, zax, zay, zaz, zba, zbb, zbc, zbd, zbe, zbf, zbg, zbh, zbi, zbj, zbk, storeOp, storeCell, overlay, zbl, zbm, zbn, lookupOp, keyT, okRes, mapUpdateOp, zbo, zbp, zbq, zbr, zbs, zbt, zbu, Nat.reduceSub, Nat.reduceAdd, Int.reduceLT, Int.reduceLE, Int.reduceAdd, Int.reduceSub, Int.reduceToNat, Int.reduceBEq, Int.reduceBNe, Int.reduceMul, Nat.reduceBEq, Nat.reduceBNe, Nat.reduceLT, Nat.reduceLeDiff, Nat.reduceMul, Nat.reduceEqDiff, WD, effB, effH, isPriv, isHeap, isImm, zbx, zby, zbz, chkO, setD, dslot, zca, zcb, zcc, zcd, ptrCells_some, F3, slAt_sl, hir.1, hir.2, slIn_some, h1, List.getElem?_map, hm, depV, storeHeap, promote, heapSet, elemSet]
                refine ⟨n - 1, by omega, i + 1, ?_, by omega, by omega, R.poke h1 h3 h4 h5 _, .inr ⟨id, m.set i (0, y.2), rfl, ?_, by simpa using h2, h3, h4, h5⟩⟩
                · simp only [WN, firstReg, growAll, zbv, zbw, norm, killS, zag, zah, zaa, zab, zbl, zat, zad, growOne, zae, zaf, zac, zas, zak, Nat.reduceLT, Nat.reduceAdd, zbj, zav, F3, (hr []).clip2]
                  rw [IntWalk.i64_in _ (by omega)]; rfl
                · rw [List.getElem?_set_self (List.getElem?_eq_some_iff.1 h1).1, List.map_set]; rfl
            · simp only [hge]
              clear hWi hWx
              simp only [WW, partV, eqCells, eqLf, minV, maxV, ifcV, zaa, zab, zac, zad, zae, zaf, zag, zah, zai, ofConst, ofConst1, List.replicate, zaj, zak, loadOp, Go.Abs.loadCells, binV, zal, pickV, zam, zan, zao, zap, zaq, zar, zas, zat, zau, outR, resAll, resOne, zav, zaw, zax, zay, zaz, zba, zbb, zbc, zbd, zbe, zbf, zbg, zbh, zbi, zbj, zbk, storeOp, storeCell, overlay, zbl, zbm, zbn, lookupOp, keyT, okRes, mapUpdateOp, zbo, zbp, zbq, zbr, zbs, zbt, zbu, Nat.reduceSub, Nat.reduceAdd, Int.reduceLT, Int.reduceLE, Int.reduceAdd, Int.reduceSub, Int.reduceToNat, Int.reduceBEq, Int.reduceBNe, Int.reduceMul, Nat.reduceBEq, Nat.reduceBNe, Nat.reduceLT, Nat.reduceLeDiff, Nat.reduceMul, Nat.reduceEqDiff, WD, effB, effH, isPriv, isHeap, isImm, zbx, zby, zbz, chkO, setD, dslot, zca, zcb, zcc, zcd, ptrCells_some, F3]
              rw [wpCall_eq (hon R)]
              have hRx2 : Reg (cloneR v1.on v1.l H').2 1 0 50 [0, 1] [v1] := by
                unfold cloneR; split
                · exact R
                · split
                  · exact R
                  · exact R.more _
              have hcx := clone_sx (R.sx hvm)
              generalize cloneR v1.on v1.l H' = K at hcx hRx2 ⊢
              obtain ⟨xw, H4⟩ := K
              simp only at hcx hRx2
              rw [hv2] at hcx
              simp only [WW, partV, eqCells, eqLf, minV, maxV, ifcV, zaa, zab, zac, zad, zae, zaf, zag, zah, zai, ofConst, ofConst1, List.replicate, zaj, zak, loadOp, Go.Abs.loadCells, binV, zal, pickV, zam, zan, zao, zap, zaq, zar, zas, zat, zau, outR, resAll, resOne, zav, zaw, zax, zay, zaz, zba, zbb, zbc, zbd, zbe, zbf, zbg, zbh, zbi, zbj, zbk, storeOp, storeCell, overlay, zbl, zbm, zbn, lookupOp, keyT, okRes, mapUpdateOp, zbo, zbp, zbq, zbr, zbs, zbt, zbu, Nat.reduceSub, Nat.reduceAdd, Int.reduceLT, Int.reduceLE, Int.reduceAdd, Int.reduceSub, Int.reduceToNat, Int.reduceBEq, Int.reduceBNe, Int.reduceMul, Nat.reduceBEq, Nat.reduceBNe, Nat.reduceLT, Nat.reduceLeDiff, Nat.reduceMul, Nat.reduceEqDiff, WD, effB, effH, isPriv, isHeap, isImm, zbx, zby, zbz, chkO, setD, dslot, zca, zcb, zcc, zcd, ptrCells_some, F3, hcx.rd.shutIn, hs]
              rw [wpCall_eq (sameDeps_eq hcx.rd (hr H4) (by omega))]
              simp only [WW, partV, eqCells, eqLf, minV, maxV, ifcV, zaa, zab, zac, zad, zae, zaf, zag, zah, zai, ofConst, ofConst1, List.replicate, zaj, zak, loadOp, Go.Abs.loadCells, binV, zal, pickV, zam, zan, zao, zap, zaq, zar, zas, zat, zau, outR, resAll, resOne, zav, zaw, zax, zay, zaz, zba, zbb, zbc, zbd, zbe, zbf, zbg, zbh, zbi, zbj, zbk, storeOp, storeCell, overlay, zbl, zbm, zbn, lookupOp, keyT, okRes, mapUpdateOp, zbo, zbp, zbq, zbr, zbs, zbt, zbu, Nat.reduceSub, Nat.reduceAdd, Int.reduceLT, Int.reduceLE, Int.reduceAdd, Int.reduceSub, Int.reduceToNat, Int.reduceBEq, Int.reduceBNe, Int.reduceMul, Nat.reduceBEq, Nat.reduceBNe, Nat.reduceLT, Nat.reduceLeDiff, Nat.reduceMul, Nat.reduceEqDiff, WD, effB, effH, isPriv, isHeap, isImm, zbx, zby, zbz, chkO, setD, dslot, zca, zcb, zcc, zcd, ptrCells_some, F3, (hr _).len, hs]
              cases hl0 : ((l.length : Int) == 0) with
              | true =>
                simp only [WW, partV, eqCells, eqLf, minV, maxV, ifcV, zaa, zab, zac, zad, zae, zaf, zag, zah, zai, ofConst, ofConst1, List.replicate, zaj, zak, loadOp, Go.Abs.loadCells, binV, zal, pickV, zam, zan, zao, zap, zaq, zar, zas, zat, zau, outR, resAll, resOne, zav, zaw, zax, zay, zaz, zba, zbb, zbc, zbd, zbe, zbf, zbg, zbh, zbi, zbj, zbk, storeOp, storeCell, overlay, zbl, zbm, zbn, lookupOp, keyT, okRes, mapUpdateOp, zbo, zbp, zbq, zbr, zbs, zbt, zbu, Nat.reduceSub, Nat.reduceAdd, Int.reduceLT, Int.reduceLE, Int.reduceAdd, Int.reduceSub, Int.reduceToNat, Int.reduceBEq, Int.reduceBNe, Int.reduceMul, Nat.reduceBEq, Nat.reduceBNe, Nat.reduceLT, Nat.reduceLeDiff, Nat.reduceMul, Nat.reduceEqDiff, WD, effB, effH, isPriv, isHeap, isImm, zbx, zby, zbz, chkO, setD, dslot, zca, zcb, zcc, zcd, ptrCells_some, F3]
                rw [wpCall_eq (live_eq _)]
                simp only [WW, partV, eqCells, eqLf, minV, maxV, ifcV, zaa, zab, zac, zad, zae, zaf, zag, zah, zai, ofConst, ofConst1, List.replicate, zaj, zak, loadOp, Go.Abs.loadCells, binV, zal, pickV, zam, zan, zao, zap, zaq, zar, zas, zat, zau, outR, resAll, resOne, zav, zaw, zax, zay, zaz, zba, zbb, zbc, zbd, zbe, zbf, zbg, zbh, zbi, zbj, zbk, storeOp, storeCell, overlay, zbl, zbm, zbn, lookupOp, keyT, okRes, mapUpdateOp, zbo, zbp, zbq, zbr, zbs, zbt, zbu, Nat.reduceSub, Nat.reduceAdd, Int.reduceLT, Int.reduceLE, Int.reduceAdd, Int.reduceSub, Int.reduceToNat, Int.reduceBEq, Int.reduceBNe, Int.reduceMul, Nat.reduceBEq, Nat.reduceBNe, Nat.reduceLT, Nat.reduceLeDiff, Nat.reduceMul, Nat.reduceEqDiff, WD, effB, effH, isPriv, isHeap, isImm, zbx, zby, zbz, chkO, setD, dslot, zca, zcb, zcc, zcd, ptrCells_some, F3]
              | false =>
                have hpos : 0 < l.length := by simp at hl0; exact List.length_pos_iff.2 hl0
                have hd0 : l[0]? = some l[0] := List.getElem?_eq_getElem hpos
                have hy0 := hu l[0] (List.getElem_mem hpos)
                have hrg0 := hrg l[0] (List.getElem_mem hpos)
                have hmem0 : l[0] ∈ l := List.getElem_mem hpos
                generalize l[0] = y0 at hd0 hy0 hrg0 hmem0
                have hat := depAt (hr H4) hd0
                have hat0 : slAt 2 H4 (viewV H4 x) (0 : Int) = some (.v (atV H4 x 0 0)) := hat.at1 (hr H4)
                simp only [WW, partV, eqCells, eqLf, minV, maxV, ifcV, zaa, zab, zac, zad, zae, zaf, zag, zah, zai, ofConst, ofConst1, List.replicate, zaj, zak, loadOp, Go.Abs.loadCells, binV, zal, pickV, zam, zan, zao, zap, zaq, zar, zas, zat, zau, outR, resAll, resOne, zav, zaw, zax, zay, zaz, zba, zbb, zbc, zbd, zbe, zbf, zbg, zbh, zbi, zbj, zbk, storeOp, storeCell, overlay, zbl, zbm, zbn, lookupOp, keyT, okRes, mapUpdateOp, zbo, zbp, zbq, zbr, zbs, zbt, zbu, Nat.reduceSub, Nat.reduceAdd, Int.reduceLT, Int.reduceLE, Int.reduceAdd, Int.reduceSub, Int.reduceToNat, Int.reduceBEq, Int.reduceBNe, Int.reduceMul, Nat.reduceBEq, Nat.reduceBNe, Nat.reduceLT, Nat.reduceLeDiff, Nat.reduceMul, Nat.reduceEqDiff, WD, effB, effH, isPriv, isHeap, isImm, zbx, zby, zbz, chkO, setD, dslot, zca, zcb, zcc, zcd, ptrCells_some, F3]
                refine wC_dr alts3_23 (by kernel_rfl) ?_
                simp only [WW, partV, eqCells, eqLf, minV, maxV, ifcV, zaa, zab, zac, zad, zae, zaf, zag, zah, zai, ofConst, ofConst1, List.replicate, zaj, zak, loadOp, Go.Abs.loadCells, binV, zal, pickV, zam, zan, zao, zap, zaq, zar, zas, zat, zau, outR, resAll, resOne, zav, zaw, zax, zay, zaz, zba, zbb, zbc, zbd, zbe, zbf, zbg, zbh, zbi, zbj, zbk, storeOp, storeCell, overlay, zbl, zbm, zbn, lookupOp, keyT, okRes, mapUpdateOp, zbo, zbp, zbq, zbr, zbs, zbt, zbu, Nat.reduceSub, Nat.reduceAdd, Int.reduceLT, Int.reduceLE, Int.reduceAdd, Int.reduceSub, Int.reduceToNat, Int.reduceBEq, Int.reduceBNe, Int.reduceMul, Nat.reduceBEq, Nat.reduceBNe, Nat.reduceLT, Nat.reduceLeDiff, Nat.reduceMul, Nat.reduceEqDiff, WD, effB, effH, isPriv, isHeap, isImm, zbx, zby, zbz, chkO, setD, dslot, zca, zcb, zcc, zcd, ptrCells_some, F3, hs, hat0, hat.cells, hat.fa, depV, alts3_23]
                have hw4 : y0.2 ≠ IntKind.u64.wrap (y0.2 + 4) := by
                  simp only [IntKind.wrap, IntKind.bits, IntKind.signed]
                  simp
                  omega
                have hh : hits (writes y0.1 (IntKind.u64.wrap (y0.2 + 4))) [v1] (List.length [v1]) = [0] := by
                  have : hit (writes y0.1 (IntKind.u64.wrap (y0.2 + 4))) [v1] 0 = true := by
                    simp only [hit, List.getElem?_cons_zero, hv3, Bool.true_and, writes, hv2, List.any_eq_true]
                    exact ⟨y0, hmem0, by simp [hw4]⟩
                  simp [hits, this]
                refine wpCall_of (wrote_eq hRx2 y0.1 (IntKind.u64.wrap (y0.2 + 4))) ?_
                rintro out H5 hp
                rw [if_neg (by omega), hh] at hp
                obtain ⟨y, rfl, hy, R5, _⟩ := hp
                have hval := (hits_off (p := writes y0.1 (IntKind.u64.wrap (y0.2 + 4))) (A := [v1]) (j := 0) (by rw [hh]; simp))
                have hlt4 := hRx2.lt
                have hids5 : (upd (writes y0.1 (IntKind.u64.wrap (y0.2 + 4))) [v1] (List.length [v1])).map (·.id) = [v1.id] := upd_id _ _ _
                generalize upd (writes y0.1 (IntKind.u64.wrap (y0.2 + 4))) [v1] (List.length [v1]) = all5 at R5 hval hids5
                rcases hy with ⟨h0, _⟩ | ⟨_, id, hid, rfl, hcell⟩
                · cases h0
                simp only [WW, partV, eqCells, eqLf, minV, maxV, ifcV, zaa, zab, zac, zad, zae, zaf, zag, zah, zai, ofConst, ofConst1, List.replicate, zaj, zak, loadOp, Go.Abs.loadCells, binV, zal, pickV, zam, zan, zao, zap, zaq, zar, zas, zat, zau, outR, resAll, resOne, zav, zaw, zax, zay, zaz, zba, zbb, zbc, zbd, zbe, zbf, zbg, zbh, zbi, zbj, zbk, storeOp, storeCell, overlay, zbl, zbm, zbn, lookupOp, keyT, okRes, mapUpdateOp, zbo, zbp, zbq, zbr, zbs, zbt, zbu, Nat.reduceSub, Nat.reduceAdd, Int.reduceLT, Int.reduceLE, Int.reduceAdd, Int.reduceSub, Int.reduceToNat, Int.reduceBEq, Int.reduceBNe, Int.reduceMul, Nat.reduceBEq, Nat.reduceBNe, Nat.reduceLT, Nat.reduceLeDiff, Nat.reduceMul, Nat.reduceEqDiff, WD, effB, effH, isPriv, isHeap, isImm, zbx, zby, zbz, chkO, setD, dslot, zca, zcb, zcc, zcd, ptrCells_some, F3, hcx.rd.shutIn, alts3_23]
                refine wC_loop _ (fun n st H' => ∃ (i : Nat) (m : List Int), st = ⟨L3_25 (.v (.ptr 1 0 0)) (.v (.int .i64 0)) (.v (.sl id 0 1)) (.v (.int .i64 0)) (.v (.int .i64 i)), [], [⟨true, false, []⟩]⟩ ∧ i ≤ 1 ∧ n = 1 - i ∧ Reg H' 1 0 50 [0, 1] all5 ∧ H'[id]? = some (.cells (m.map (.int .i64))) ∧ m.length = 1) 1 ⟨0, [0], ?_, by omega, by omega, R5, hcell, rfl⟩ ?_
                · simp only [WN, firstReg, growAll, zbv, zbw, norm, killS, zag, zah, zaa, zab, zbl, zat, zad, growOne, zae, zaf, zac, zas, zak, Nat.reduceLT, Nat.reduceAdd, zbj, zav, F3, L3_25, List.length_cons, List.length_nil]
                  try rfl
                · clear R hn hi n H'
                  rintro n st H' ⟨i, m, rfl, hi, hn, R, hm, hml⟩
                  simp only [L3_25]
                  simp only [WW, partV, eqCells, eqLf, minV, maxV, ifcV, zaa, zab, zac, zad, zae, zaf, zag, zah, zai, ofConst, ofConst1, List.replicate, zaj, zak, loadOp, Go.Abs.loadCells, binV, zal, pickV, zam, zan, zao, zap, zaq, zar, zas, zat, zau, outR, resAll, resOne, zav, zaw, zax, zay, zaz, zba, zbb, zbc, zbd, zbe, zbf, zbg, zbh, zbi, zbj, zbk, storeOp, storeCell, overlay, zbl, zbm, zbn, lookupOp, keyT, okRes, mapUpdateOp, zbo, zbp, zbq, zbr, zbs, zbt, zbu, Nat.reduceSub, Nat.reduceAdd, Int.reduceLT, Int.reduceLE, Int.reduceAdd, Int.reduceSub, Int.reduceToNat, Int.reduceBEq, Int.reduceBNe, Int.reduceMul, Nat.reduceBEq, Nat.reduceBNe, Nat.reduceLT, Nat.reduceLeDiff, Nat.reduceMul, Nat.reduceEqDiff, WD, effB, effH, isPriv, isHeap, isImm, zbx, zby, zbz, chkO, setD, dslot, zca, zcb, zcc, zcd, ptrCells_some, F3]
                  refine cSplit (fun hlt => ?_) (fun hge => ?_)
                  · obtain rfl : i = 0 := by simp at hlt; omega
                    obtain ⟨m0, rfl⟩ : ∃ m0, m = [m0] := by
                      match m, hml with
                      | [m0], _ => exact ⟨m0, rfl⟩
                    have hz : (((0 : Nat) : Int)) = 0 := rfl
                    have hz1 : (((1 : Nat) : Int)) = 1 := rfl
                    simp only [hlt]
                    simp only [WW, partV, eqCells, eqLf, minV, maxV, ifcV, zaa, zab, zac, zad, zae, zaf, zag, zah, zai, ofConst, ofConst1, List.replicate, zaj, zak, loadOp, Go.Abs.loadCells, binV, zal, pickV, zam, zan, zao, zap, zaq, zar, zas, zat, zau, outR, resAll, resOne, zav, zaw, zax, zay, zaz, zba, zbb, zbc, zbd, zbe, zbf, zbg, zbh, zbi, zbj, zbk, storeOp, storeCell, overlay, zbl, zbm, zbn, lookupOp, keyT, okRes, mapUpdateOp, zbo, zbp, zbq, zbr, zbs, zbt, zbu, Nat.reduceSub, Nat.reduceAdd, Int.reduceLT, Int.reduceLE, Int.reduceAdd, Int.reduceSub, Int.reduceToNat, Int.reduceBEq, Int.reduceBNe, Int.reduceMul, Nat.reduceBEq, Nat.reduceBNe, Nat.reduceLT, Nat.reduceLeDiff, Nat.reduceMul, Nat.reduceEqDiff, WD, effB, effH, isPriv, isHeap, isImm, zbx, zby, zbz, chkO, setD, dslot, zca, zcb, zcc, zcd, ptrCells_some, F3, slAt_sl, hz, hz1, slIn_some, hm, storeHeap, promote, heapSet, elemSet]
                    have := hlt4.d
                    have := hlt4.c
                    have := hlt4.v v1 hvm
                    refine ⟨n - 1, by omega, 1, [-1], ?_, by omega, by omega, R.poke hm (by omega) (by omega) (by rw [hids5]; simp; omega) _, ?_, rfl⟩
                    · simp only [WN, firstReg, growAll, zbv, zbw, norm, killS, zag, zah, zaa, zab, zbl, zat, zad, growOne, zae, zaf, zac, zas, zak, Nat.reduceLT, Nat.reduceAdd, zbj, zav, F3]
                      try rfl
                    · rw [List.getElem?_set_self (List.getElem?_eq_some_iff.1 hm).1]; rfl
                  · simp only [hge]
                    have hz1 : (((1 : Nat) : Int)) = 1 := rfl
                    simp only [WW, partV, eqCells, eqLf, minV, maxV, ifcV, zaa, zab, zac, zad, zae, zaf, zag, zah, zai, ofConst, ofConst1, List.replicate, zaj, zak, loadOp, Go.Abs.loadCells, binV, zal, pickV, zam, zan, zao, zap, zaq, zar, zas, zat, zau, outR, resAll, resOne, zav, zaw, zax, zay, zaz, zba, zbb, zbc, zbd, zbe, zbf, zbg, zbh, zbi, zbj, zbk, storeOp, storeCell, overlay, zbl, zbm, zbn, lookupOp, keyT, okRes, mapUpdateOp, zbo, zbp, zbq, zbr, zbs, zbt, zbu, Nat.reduceSub, Nat.reduceAdd, Int.reduceLT, Int.reduceLE, Int.reduceAdd, Int.reduceSub, Int.reduceToNat, Int.reduceBEq, Int.reduceBNe, Int.reduceMul, Nat.reduceBEq, Nat.reduceBNe, Nat.reduceLT, Nat.reduceLeDiff, Nat.reduceMul, Nat.reduceEqDiff, WD, effB, effH, isPriv, isHeap, isImm, zbx, zby, zbz, chkO, setD, dslot, zca, zcb, zcc, zcd, ptrCells_some, F3, wpCall_eq (num_eq _ _), hz1]
                    have hvv := valid_eq R 0
                    obtain ⟨w, hw1, hw2⟩ := hval
                    have hvf : (getVer all5 0).any (·.ok) = false := by simp [getVer, hw1, hw2]
                    rw [hvf] at hvv
                    rw [wpCall_eq hvv]
                    simp only [WW, partV, eqCells, eqLf, minV, maxV, ifcV, zaa, zab, zac, zad, zae, zaf, zag, zah, zai, ofConst, ofConst1, List.replicate, zaj, zak, loadOp, Go.Abs.loadCells, binV, zal, pickV, zam, zan, zao, zap, zaq, zar, zas, zat, zau, outR, resAll, resOne, zav, zaw, zax, zay, zaz, zba, zbb, zbc, zbd, zbe, zbf, zbg, zbh, zbi, zbj, zbk, storeOp, storeCell, overlay, zbl, zbm, zbn, lookupOp, keyT, okRes, mapUpdateOp, zbo, zbp, zbq, zbr, zbs, zbt, zbu, Nat.reduceSub, Nat.reduceAdd, Int.reduceLT, Int.reduceLE, Int.reduceAdd, Int.reduceSub, Int.reduceToNat, Int.reduceBEq, Int.reduceBNe, Int.reduceMul, Nat.reduceBEq, Nat.reduceBNe, Nat.reduceLT, Nat.reduceLeDiff, Nat.reduceMul, Nat.reduceEqDiff, WD, effB, effH, isPriv, isHeap, isImm, zbx, zby, zbz, chkO, setD, dslot, zca, zcb, zcc, zcd, ptrCells_some, F3]
                    rw [wpCall_eq (live_eq _)]
                    simp only [WW, partV, eqCells, eqLf, minV, maxV, ifcV, zaa, zab, zac, zad, zae, zaf, zag, zah, zai, ofConst, ofConst1, List.replicate, zaj, zak, loadOp, Go.Abs.loadCells, binV, zal, pickV, zam, zan, zao, zap, zaq, zar, zas, zat, zau, outR, resAll, resOne, zav, zaw, zax, zay, zaz, zba, zbb, zbc, zbd, zbe, zbf, zbg, zbh, zbi, zbj, zbk, storeOp, storeCell, overlay, zbl, zbm, zbn, lookupOp, keyT, okRes, mapUpdateOp, zbo, zbp, zbq, zbr, zbs, zbt, zbu, Nat.reduceSub, Nat.reduceAdd, Int.reduceLT, Int.reduceLE, Int.reduceAdd, Int.reduceSub, Int.reduceToNat, Int.reduceBEq, Int.reduceBNe, Int.reduceMul, Nat.reduceBEq, Nat.reduceBNe, Nat.reduceLT, Nat.reduceLeDiff, Nat.reduceMul, Nat.reduceEqDiff, WD, effB, effH, isPriv, isHeap, isImm, zbx, zby, zbz, chkO, setD, dslot, zca, zcb, zcc, zcd, ptrCells_some, F3]
end Go.Proofs.Ytfjbgmcdkhepkaa

namespace Go.Proofs.Ytfjbgmcdkhepkaa
open Go Go.Abs Go.Proofs
set_option maxRecDepth 100000
set_option maxHeartbeats 2000000
set_option linter.unusedVariables false
set_option linter.unusedSimpArgs false
theorem u3 : Try.prog.underlying 3 = some (.int .i64) := by kernel_rfl
theorem u24 : Try.prog.underlying 24 = some (.int .u64) := by kernel_rfl
theorem u22 : Try.prog.underlying 22 = some (.slice 34) := by kernel_rfl
theorem u42 : Try.prog.underlying 42 = some (.slice 45) := by kernel_rfl
theorem s34 : tysOf Try.prog 34 = some [3, 24] := by kernel_rfl
theorem s45 : tysOf Try.prog 45 = some [3, 3, 22, 24] := by kernel_rfl
theorem ag34 : isAggT Try.prog 34 = true := by kernel_rfl
theorem ag45 : isAggT Try.prog 45 = true := by kernel_rfl
theorem ag22 : isAggT Try.prog 22 = false := by kernel_rfl
theorem ag24 : isAggT Try.prog 24 = false := by kernel_rfl
theorem ag3 : isAggT Try.prog 3 = false := by kernel_rfl
theorem ag42 : isAggT Try.prog 42 = false := by kernel_rfl
theorem open_deps {d : Nat} {v : List V} (h : Tv Try.prog (d + 3) 22 v) : ∃ x l, v = [x] ∧ IsDeps x l ∧ l.length ≤ maxLen ∧ ∀ y ∈ l, (-9223372036854775808 ≤ y.1 ∧ y.1 ≤ 9223372036854775807) ∧ 0 ≤ y.2 ∧ y.2 ≤ 18446744073709551615 := by
  obtain ⟨x, rows, rfl, hx, hl, hr⟩ := tv_slice h u22
  rw [ag34] at hx
  obtain ⟨l, e, el, hq⟩ := rows_map (f := mkV true) (tv := depV) (Q := fun y => (-9223372036854775808 ≤ y.1 ∧ y.1 ≤ 9223372036854775807) ∧ 0 ≤ y.2 ∧ y.2 ≤ 18446744073709551615) (rows := rows) (fun r hr' => by
    obtain ⟨a, _, rfl, ha, b, _, rfl, hb, rfl⟩ := tv_fields (hr r hr') s34
    obtain ⟨n, rfl, hn⟩ := tv_int ha u3
    obtain ⟨m, rfl, hm⟩ := tv_int hb u24
    exact ⟨(n, m), rfl, i64_wf hn, u64_wf hm⟩)
  rw [e] at hx
  refine ⟨x, l, rfl, ?_, by omega, hq⟩
  rcases (hx []).flat with ⟨rfl, h2⟩ | rfl
  · obtain rfl : l = [] := by simpa using h2
    exact .nils
  · exact .rsl l
theorem depsOwn_main {v0 v1 : List V} (h0 : Tv Try.prog 8 22 v0) (h1 : Tv Try.prog 8 24 v1) :
    wpCall (evW Try.prog notes) 3 [mkV (isAggT Try.prog 22) v0, mkV (isAggT Try.prog 24) v1] [] (fun out H' => out = .ret (.bool true) false) := by
  obtain ⟨x, l, rfl, hx, _, hl⟩ := open_deps h0
  obtain ⟨n, rfl, _⟩ := tv_int h1 u24
  rw [ag22, ag24]
  exact depsOwn_eq x l hx (fun y hy => by have := hl y hy; omega) n
end Go.Proofs.Ytfjbgmcdkhepkaa
