/- A part of the proofs over this seat. -/
import Derived.Test.YtfjbgmcdkhepkaaQM1
namespace Go.Proofs.Ytfjbgmcdkhepkaa
open Go Go.Abs Go.Proofs
set_option maxRecDepth 100000
set_option maxHeartbeats 2000000
set_option linter.unusedVariables false
set_option linter.unusedSimpArgs false
/-- An act, as it is handed in -/
structure ActR where
  d : Int
  f : Int
  x : V
  l : List (Int × Int)
  v : Int
  h : IsDeps x l
def actV (a : ActR) : V := .agg [.int .i64 a.d, .int .i64 a.f, a.x, .int .u64 a.v]
def muchB (l : List ActR) : Bool := decide (60 < l.length) || l.any fun a => decide (40 < a.l.length)
theorem actAt {H : Hp} {x : V} {l : List ActR} (hx : Rd H x (l.map actV)) {i : Nat} {a : ActR} (hd : l[i]? = some a) : RdAt H x 4 i (actV a) :=
  hx.at_ (by rw [List.getElem?_map, hd]; rfl) rfl
theorem much_eq {H : Hp} {x : V} {l : List ActR} (hx : Rd H x (l.map actV)) : EW 16 [x] H = some (.ret (.bool (muchB l)) false, H) := by
  refine eqOf (runs f16 b16 r16 n16 _ _ ?_)
  simp only [bodyOf, Try.f16, Option.getD_some]
  simp only [WW, partV, eqCells, eqLf, minV, maxV, ifcV, zaa, zab, zac, zad, zae, zaf, zag, zah, zai, ofConst, ofConst1, List.replicate, zaj, zak, loadOp, Go.Abs.loadCells, binV, zal, pickV, zam, zan, zao, zap, zaq, zar, zas, zat, zau, outR, resAll, resOne, zav, zaw, zax, zay, zaz, zba, zbb, zbc, zbd, zbe, zbf, zbg, zbh, zbi, zbj, zbk, storeOp, storeCell, overlay, zbl, zbm, zbn, lookupOp, keyT, okRes, mapUpdateOp, zbo, zbp, zbq, zbr, zbs, zbt, zbu, Nat.reduceSub, Nat.reduceAdd, Int.reduceLT, Int.reduceLE, Int.reduceAdd, Int.reduceSub, Int.reduceToNat, Int.reduceBEq, Int.reduceBNe, Int.reduceMul, Nat.reduceBEq, Nat.reduceBNe, Nat.reduceLT, Nat.reduceLeDiff, Nat.reduceMul, Nat.reduceEqDiff, WD, effB, effH, isPriv, isHeap, isImm, zbx, zby, zbz, chkO, setD, dslot, zca, zcb, zcc, zcd, ptrCells_some, F16, hx.shutIn, hx.len]
  refine cSplit (fun h => ?_) (fun h => ?_)
  · have h' : 60 < l.length := by have := of_decide_eq_true h; omega
    simp only [h]
    simp only [WW, partV, eqCells, eqLf, minV, maxV, ifcV, zaa, zab, zac, zad, zae, zaf, zag, zah, zai, ofConst, ofConst1, List.replicate, zaj, zak, loadOp, Go.Abs.loadCells, binV, zal, pickV, zam, zan, zao, zap, zaq, zar, zas, zat, zau, outR, resAll, resOne, zav, zaw, zax, zay, zaz, zba, zbb, zbc, zbd, zbe, zbf, zbg, zbh, zbi, zbj, zbk, storeOp, storeCell, overlay, zbl, zbm, zbn, lookupOp, keyT, okRes, mapUpdateOp, zbo, zbp, zbq, zbr, zbs, zbt, zbu, Nat.reduceSub, Nat.reduceAdd, Int.reduceLT, Int.reduceLE, Int.reduceAdd, Int.reduceSub, Int.reduceToNat, Int.reduceBEq, Int.reduceBNe, Int.reduceMul, Nat.reduceBEq, Nat.reduceBNe, Nat.reduceLT, Nat.reduceLeDiff, Nat.reduceMul, Nat.reduceEqDiff, WD, effB, effH, isPriv, isHeap, isImm, zbx, zby, zbz, chkO, setD, dslot, zca, zcb, zcc, zcd, ptrCells_some, F16]
    simp [muchB, h']
  · have h' : ¬ 60 < l.length := by have := of_decide_eq_false h; omega
    simp only [h]
    simp only [WW, partV, eqCells, eqLf, minV, maxV, ifcV, zaa, zab, zac, zad, zae, zaf, zag, zah, zai, ofConst, ofConst1, List.replicate, zaj, zak, loadOp, Go.Abs.loadCells, binV, zal, pickV, zam, zan, zao, zap, zaq, zar, zas, zat, zau, outR, resAll, resOne, zav, zaw, zax, zay, zaz, zba, zbb, zbc, zbd, zbe, zbf, zbg, zbh, zbi, zbj, zbk, storeOp, storeCell, overlay, zbl, zbm, zbn, lookupOp, keyT, okRes, mapUpdateOp, zbo, zbp, zbq, zbr, zbs, zbt, zbu, Nat.reduceSub, Nat.reduceAdd, Int.reduceLT, Int.reduceLE, Int.reduceAdd, Int.reduceSub, Int.reduceToNat, Int.reduceBEq, Int.reduceBNe, Int.reduceMul, Nat.reduceBEq, Nat.reduceBNe, Nat.reduceLT, Nat.reduceLeDiff, Nat.reduceMul, Nat.reduceEqDiff, WD, effB, effH, isPriv, isHeap, isImm, zbx, zby, zbz, chkO, setD, dslot, zca, zcb, zcc, zcd, ptrCells_some, F16]
    refine wC_loop _ (fun n st H' => ∃ i : Nat, st = ⟨L16_4 (.v x) (.v (.int .i64 i)), [], []⟩ ∧ H' = H ∧ i ≤ l.length ∧ n = l.length - i ∧ ∀ (j : Nat) (a : ActR), j < i → l[j]? = some a → ¬ 40 < a.l.length) l.length ⟨0, ?_, rfl, by omega, by omega, fun j a hj => by omega⟩ ?_
    · simp only [WN, firstReg, growAll, zbv, zbw, norm, killS, zag, zah, zaa, zab, zbl, zat, zad, growOne, zae, zaf, zac, zas, zak, Nat.reduceLT, Nat.reduceAdd, zbj, zav, F16, L16_4, hx.clip2]
      rfl
    · rintro n st H' ⟨i, rfl, rfl, hi, hn, hno⟩
      simp only [L16_4]
      simp only [WW, partV, eqCells, eqLf, minV, maxV, ifcV, zaa, zab, zac, zad, zae, zaf, zag, zah, zai, ofConst, ofConst1, List.replicate, zaj, zak, loadOp, Go.Abs.loadCells, binV, zal, pickV, zam, zan, zao, zap, zaq, zar, zas, zat, zau, outR, resAll, resOne, zav, zaw, zax, zay, zaz, zba, zbb, zbc, zbd, zbe, zbf, zbg, zbh, zbi, zbj, zbk, storeOp, storeCell, overlay, zbl, zbm, zbn, lookupOp, keyT, okRes, mapUpdateOp, zbo, zbp, zbq, zbr, zbs, zbt, zbu, Nat.reduceSub, Nat.reduceAdd, Int.reduceLT, Int.reduceLE, Int.reduceAdd, Int.reduceSub, Int.reduceToNat, Int.reduceBEq, Int.reduceBNe, Int.reduceMul, Nat.reduceBEq, Nat.reduceBNe, Nat.reduceLT, Nat.reduceLeDiff, Nat.reduceMul, Nat.reduceEqDiff, WD, effB, effH, isPriv, isHeap, isImm, zbx, zby, zbz, chkO, setD, dslot, zca, zcb, zcc, zcd, ptrCells_some, F16, hx.shutIn, hx.len]
      refine cSplit (fun hlt => ?_) (fun hge => ?_)
      · have hi2 : i < l.length := by simpa using hlt
        have hd : l[i]? = some l[i] := List.getElem?_eq_getElem hi2
        generalize l[i] = a at hd
        have hat := actAt hx hd
        have ha := a.h.rd H'
        simp only [hlt]
        simp only [WW, partV, eqCells, eqLf, minV, maxV, ifcV, zaa, zab, zac, zad, zae, zaf, zag, zah, zai, ofConst, ofConst1, List.replicate, zaj, zak, loadOp, Go.Abs.loadCells, binV, zal, pickV, zam, zan, zao, zap, zaq, zar, zas, zat, zau, outR, resAll, resOne, zav, zaw, zax, zay, zaz, zba, zbb, zbc, zbd, zbe, zbf, zbg, zbh, zbi, zbj, zbk, storeOp, storeCell, overlay, zbl, zbm, zbn, lookupOp, keyT, okRes, mapUpdateOp, zbo, zbp, zbq, zbr, zbs, zbt, zbu, Nat.reduceSub, Nat.reduceAdd, Int.reduceLT, Int.reduceLE, Int.reduceAdd, Int.reduceSub, Int.reduceToNat, Int.reduceBEq, Int.reduceBNe, Int.reduceMul, Nat.reduceBEq, Nat.reduceBNe, Nat.reduceLT, Nat.reduceLeDiff, Nat.reduceMul, Nat.reduceEqDiff, WD, effB, effH, isPriv, isHeap, isImm, zbx, zby, zbz, chkO, setD, dslot, zca, zcb, zcc, zcd, ptrCells_some, F16, hx.shutIn, hat.at1 hx, hat.cells, hat.fa, actV, ha.shutIn, ha.len]
        refine cSplit (fun hT => ?_) (fun hF => ?_)
        · simp only [hT]
          simp only [WW, partV, eqCells, eqLf, minV, maxV, ifcV, zaa, zab, zac, zad, zae, zaf, zag, zah, zai, ofConst, ofConst1, List.replicate, zaj, zak, loadOp, Go.Abs.loadCells, binV, zal, pickV, zam, zan, zao, zap, zaq, zar, zas, zat, zau, outR, resAll, resOne, zav, zaw, zax, zay, zaz, zba, zbb, zbc, zbd, zbe, zbf, zbg, zbh, zbi, zbj, zbk, storeOp, storeCell, overlay, zbl, zbm, zbn, lookupOp, keyT, okRes, mapUpdateOp, zbo, zbp, zbq, zbr, zbs, zbt, zbu, Nat.reduceSub, Nat.reduceAdd, Int.reduceLT, Int.reduceLE, Int.reduceAdd, Int.reduceSub, Int.reduceToNat, Int.reduceBEq, Int.reduceBNe, Int.reduceMul, Nat.reduceBEq, Nat.reduceBNe, Nat.reduceLT, Nat.reduceLeDiff, Nat.reduceMul, Nat.reduceEqDiff, WD, effB, effH, isPriv, isHeap, isImm, zbx, zby, zbz, chkO, setD, dslot, zca, zcb, zcc, zcd, ptrCells_some, F16]
          have : l.any (fun a => decide (40 < a.l.length)) = true := List.any_eq_true.2 ⟨a, List.mem_of_getElem? hd, by have := of_decide_eq_true hT; simp; omega⟩
          simp [muchB, this]
        · simp only [hF]
          simp only [WW, partV, eqCells, eqLf, minV, maxV, ifcV, zaa, zab, zac, zad, zae, zaf, zag, zah, zai, ofConst, ofConst1, List.replicate, zaj, zak, loadOp, Go.Abs.loadCells, binV, zal, pickV, zam, zan, zao, zap, zaq, zar, zas, zat, zau, outR, resAll, resOne, zav, zaw, zax, zay, zaz, zba, zbb, zbc, zbd, zbe, zbf, zbg, zbh, zbi, zbj, zbk, storeOp, storeCell, overlay, zbl, zbm, zbn, lookupOp, keyT, okRes, mapUpdateOp, zbo, zbp, zbq, zbr, zbs, zbt, zbu, Nat.reduceSub, Nat.reduceAdd, Int.reduceLT, Int.reduceLE, Int.reduceAdd, Int.reduceSub, Int.reduceToNat, Int.reduceBEq, Int.reduceBNe, Int.reduceMul, Nat.reduceBEq, Nat.reduceBNe, Nat.reduceLT, Nat.reduceLeDiff, Nat.reduceMul, Nat.reduceEqDiff, WD, effB, effH, isPriv, isHeap, isImm, zbx, zby, zbz, chkO, setD, dslot, zca, zcb, zcc, zcd, ptrCells_some, F16]
          refine ⟨n - 1, by omega, i + 1, ?_, by omega, by omega, fun j b hj hb => ?_⟩
          · simp only [WN, firstReg, growAll, zbv, zbw, norm, killS, zag, zah, zaa, zab, zbl, zat, zad, growOne, zae, zaf, zac, zas, zak, Nat.reduceLT, Nat.reduceAdd, zbj, zav, F16, hx.clip2]
            rw [IntWalk.i64_in _ (by omega)]; rfl
          · by_cases e : j = i
            · subst e; rw [hd] at hb; cases hb; have := of_decide_eq_false hF; omega
            · exact hno j b (by omega) hb
      · have hi2 : i = l.length := by simp at hge; omega
        simp only [hge]
        simp only [WW, partV, eqCells, eqLf, minV, maxV, ifcV, zaa, zab, zac, zad, zae, zaf, zag, zah, zai, ofConst, ofConst1, List.replicate, zaj, zak, loadOp, Go.Abs.loadCells, binV, zal, pickV, zam, zan, zao, zap, zaq, zar, zas, zat, zau, outR, resAll, resOne, zav, zaw, zax, zay, zaz, zba, zbb, zbc, zbd, zbe, zbf, zbg, zbh, zbi, zbj, zbk, storeOp, storeCell, overlay, zbl, zbm, zbn, lookupOp, keyT, okRes, mapUpdateOp, zbo, zbp, zbq, zbr, zbs, zbt, zbu, Nat.reduceSub, Nat.reduceAdd, Int.reduceLT, Int.reduceLE, Int.reduceAdd, Int.reduceSub, Int.reduceToNat, Int.reduceBEq, Int.reduceBNe, Int.reduceMul, Nat.reduceBEq, Nat.reduceBNe, Nat.reduceLT, Nat.reduceLeDiff, Nat.reduceMul, Nat.reduceEqDiff, WD, effB, effH, isPriv, isHeap, isImm, zbx, zby, zbz, chkO, setD, dslot, zca, zcb, zcc, zcd, ptrCells_some, F16]
        have : l.any (fun a => decide (40 < a.l.length)) = false := by
          rw [List.any_eq_false]
          intro a ha
          obtain ⟨j, hj, e⟩ := List.getElem_of_mem ha
          have := hno j a (by omega) (by rw [List.getElem?_eq_getElem hj, e])
          simpa using this
        simp [muchB, this, h']
theorem open_acts {d : Nat} {v : List V} (h : Tv Try.prog (d + 5) 42 v) : ∃ (x : V) (l : List ActR), v = [x] ∧ (∀ H, Rd H x (l.map actV)) ∧ ∀ a ∈ l, ∀ y ∈ a.l, 0 ≤ y.2 ∧ y.2 ≤ 18446744073709551615 := by
  obtain ⟨x, rows, rfl, hx, hl, hr⟩ := tv_slice h u42
  rw [ag45] at hx
  obtain ⟨l, e, el, hq⟩ := rows_map (f := mkV true) (tv := actV) (Q := fun a => ∀ y ∈ a.l, 0 ≤ y.2 ∧ y.2 ≤ 18446744073709551615) (rows := rows) (fun r hr' => by
    obtain ⟨a, _, rfl, ha, b, _, rfl, hb, c, _, rfl, hc, d, _, rfl, hd, rfl⟩ := tv_fields (hr r hr') s45
    obtain ⟨n, rfl, hn⟩ := tv_int ha u3
    obtain ⟨m, rfl, hm⟩ := tv_int hb u3
    obtain ⟨x, l, rfl, hx, _, hl⟩ := open_deps hc
    obtain ⟨k, rfl, hk⟩ := tv_int hd u24
    exact ⟨⟨n, m, x, l, k, hx⟩, rfl, fun y hy => (hl y hy).2⟩)
  rw [e] at hx
  exact ⟨x, l, rfl, hx, hq⟩
end Go.Proofs.Ytfjbgmcdkhepkaa

namespace Go.Proofs.Ytfjbgmcdkhepkaa
open Go Go.Abs Go.Proofs
set_option maxRecDepth 100000
set_option maxHeartbeats 8000000
set_option linter.unusedVariables false
set_option linter.unusedSimpArgs false
/-- The registry of a law's own calls: few versions, one valid of a function, what they count on is there. -/
structure Inv (H : Hp) (d c : Nat) (cnt : List Int) (all : List Ver) : Prop where
  reg : Reg H d c 4 cnt all
  cl : cnt.length = 4
  cb : ∀ n ∈ cnt, 0 ≤ n ∧ n ≤ 4
  vf : ∀ v ∈ all, (0 ≤ v.f ∧ v.f < 4) ∧ ∀ y ∈ v.l, 0 ≤ y.1 ∧ y.1 < 4
  un : ∀ (i j : Nat) (v w : Ver), all[i]? = some v → all[j]? = some w → v.ok = true → w.ok = true → v.f = w.f → i = j
theorem Inv.with {H H' : Hp} {d c : Nat} {cnt : List Int} {all : List Ver} (I : Inv H d c cnt all) (R : Reg H' d c 4 cnt all) : Inv H' d c cnt all := ⟨R, I.cl, I.cb, I.vf, I.un⟩
theorem upd_mem {p : Nat → Ver → Bool} {A : List Ver} {n : Nat} {w : Ver} (h : w ∈ upd p A n) : ∃ u ∈ A, u.f = w.f ∧ u.l = w.l ∧ u.id = w.id := by
  obtain ⟨j, hj⟩ := List.getElem?_of_mem h
  rw [upd_at] at hj
  cases hA : A[j]? with
  | none => rw [hA] at hj; cases hj
  | some u =>
    rw [hA] at hj
    simp only [Option.map_some, Option.some.injEq] at hj
    refine ⟨u, List.mem_of_getElem? hA, ?_⟩
    rw [← hj]; split <;> exact ⟨rfl, rfl, rfl⟩
theorem upd_get {p : Nat → Ver → Bool} {A : List Ver} {j : Nat} {w : Ver} (h : (upd p A A.length)[j]? = some w) : ∃ u, A[j]? = some u ∧ u.f = w.f ∧ u.l = w.l ∧ (w.ok = true → u.ok = true ∧ p j u = false) := by
  rw [upd_at] at h
  cases hA : A[j]? with
  | none => rw [hA] at h; cases h
  | some u =>
    have hj := (List.getElem?_eq_some_iff.1 hA).1
    rw [hA] at h
    simp only [Option.map_some, Option.some.injEq, hj, decide_true, Bool.true_and] at h
    refine ⟨u, rfl, ?_⟩
    split at h
    · subst h; exact ⟨rfl, rfl, fun e => by cases e⟩
    · rename_i hc
      subst h
      refine ⟨rfl, rfl, fun e => ⟨e, ?_⟩⟩
      rw [e, Bool.true_and] at hc
      simpa using hc
theorem upd_f (p : Nat → Ver → Bool) (A : List Ver) (n : Nat) : (upd p A n).map (fun v => V.int .i64 v.f) = A.map (fun v => V.int .i64 v.f) := by
  refine List.ext_getElem? fun j => ?_
  rw [List.getElem?_map, upd_at, List.getElem?_map, Option.map_map]
  congr 1
  funext v
  simp only [Function.comp]
  split <;> rfl
theorem Inv.upd {H H' : Hp} {d c : Nat} {cnt : List Int} {all : List Ver} (I : Inv H d c cnt all) (p : Nat → Ver → Bool) (R : Reg H' d c 4 cnt (upd p all all.length)) : Inv H' d c cnt (upd p all all.length) :=
  ⟨R, I.cl, I.cb, fun v hv => by
    obtain ⟨u, hu, e1, e2, _⟩ := upd_mem hv
    have := I.vf u hu
    rw [← e1, ← e2]; exact this, fun i j v w hi hj hv hw e => by
    obtain ⟨a, ha, a1, _, a3⟩ := upd_get hi
    obtain ⟨b, hb, b1, _, b3⟩ := upd_get hj
    exact I.un i j a b ha hb (a3 hv).1 (b3 hw).1 (by rw [a1, b1, e])⟩
theorem addErr_ok {cnt : List Int} {all : List Ver} {f : Int} {l : List (Int × Int)} (h : addErr 4 cnt all f l = 0) : (0 ≤ f ∧ f < (cnt.length : Int)) ∧ (∀ y ∈ l, 0 ≤ y.1 ∧ y.1 < 4) ∧ (∀ v ∈ all, v.ok = true → v.f ≠ f) ∧ getCnt cnt f ≠ some 4 := by
  unfold addErr at h
  split at h
  · cases h
  rename_i h1
  split at h
  · cases h
  rename_i h2
  split at h
  · cases h
  rename_i h3
  simp only [Bool.or_eq_true, decide_eq_true_eq, not_or, List.any_eq_true, not_exists, not_and] at h1
  refine ⟨by omega, fun y hy => by have := h1.1.2 y hy; omega, fun v hv hok e => ?_, h3⟩
  apply h2
  rw [List.findIdx?_isSome, List.any_eq_true]
  exact ⟨v, hv, by simp [hok, e]⟩
theorem Inv.add {H H' : Hp} {d c : Nat} {cnt : List Int} {all : List Ver} (I : Inv H d c cnt all) {f : Int} {l : List (Int × Int)} (h : addErr 4 cnt all f l = 0) {v : Ver} (hf : v.f = f) (hl : v.l = l) (R : Reg H' d c 4 (cnt.modify f.toNat (· + 1)) (all ++ [v])) : Inv H' d c (cnt.modify f.toNat (· + 1)) (all ++ [v]) := by
  obtain ⟨h1, h2, h3, h4⟩ := addErr_ok h
  have hcl := I.cl
  refine ⟨R, by rw [List.length_modify]; exact hcl, fun n hn => ?_, fun w hw => ?_, fun i j w w' hi hj ho ho' e => ?_⟩
  · obtain ⟨j, hj⟩ := List.getElem?_of_mem hn
    rw [List.getElem?_modify] at hj
    cases hc : cnt[j]? with
    | none => rw [hc] at hj; cases hj
    | some n' =>
      have hb := I.cb n' (List.mem_of_getElem? hc)
      rw [hc] at hj
      simp only [Option.map_eq_map, Option.map_some, Option.some.injEq] at hj
      split at hj
      · rename_i e
        have : n' ≠ 4 := fun e4 => h4 (by simp only [getCnt, h1.1, if_true]; rw [e, hc, e4])
        omega
      · omega
  · rcases List.mem_append.1 hw with hw | hw
    · exact I.vf w hw
    · obtain rfl := List.mem_singleton.1 hw
      rw [hf, hl]
      exact ⟨by omega, h2⟩
  · by_cases hi' : i < all.length
    · rw [List.getElem?_append_left hi'] at hi
      by_cases hj' : j < all.length
      · rw [List.getElem?_append_left hj'] at hj
        exact I.un i j w w' hi hj ho ho' e
      · have hj2 : j = all.length := by have := (List.getElem?_eq_some_iff.1 hj).1; simp at this; omega
        subst hj2
        simp at hj; subst hj
        exact absurd (e.trans hf) (h3 w (List.mem_of_getElem? hi) ho)
    · have hi2 : i = all.length := by have := (List.getElem?_eq_some_iff.1 hi).1; simp at this; omega
      subst hi2
      simp at hi; subst hi
      by_cases hj' : j < all.length
      · rw [List.getElem?_append_left hj'] at hj
        exact absurd (e.symm.trans hf) (h3 w' (List.mem_of_getElem? hj) ho')
      · have := (List.getElem?_eq_some_iff.1 hj).1; simp at this; omega
/-- What the registry is made of -/
def RN (d c : Nat) (all : List Ver) : Nat → Prop := fun i => i = d ∨ i = c ∨ i ∈ all.map (·.id)
def RNr (H : Hp) (d c : Nat) (all : List Ver) : Nat → Prop := fun i => RN d c all i ∨ ∃ ns es, H[i]? = some (.row ns es)
theorem SlW_row {sz : Nat} {H : Hp} {d c : Nat} {all : List Ver} {x : V} {l : List V} (h : SlW sz H (RN d c all) x l) : SlW sz H (RNr H d c all) x l := by
  rcases h with h | ⟨s, es, h1, h2, h3, h4⟩
  · exact .inl h
  · refine .inr ⟨s, es, h1, ?_, h3, h4⟩
    rintro (h | ⟨ns, es', h⟩)
    · exact h2 h
    · rw [h3] at h; cases h
theorem Reg.byN {H H' : Hp} {d c : Nat} {g : Int} {cnt : List Int} {all : List Ver} (R : Reg H d c g cnt all) (h : ∀ i, RNr H d c all i → H'[i]? = H[i]?) : Reg H' d c g cnt all := by
  obtain ⟨al, h1, h2⟩ := R.ex
  refine ⟨⟨al, by rw [h d (.inl (.inl rfl))]; exact h1, h2.imp (fun e => e) fun ⟨rid, ns, a, b, c⟩ => ⟨rid, ns, a, by rw [h rid (.inr ⟨_, _, b⟩)]; exact b, c⟩⟩, by rw [h c (.inl (.inr (.inl rfl)))]; exact R.cn, fun v hv => ⟨by rw [h v.id (.inl (.inr (.inr (List.mem_map.2 ⟨v, hv, rfl⟩))))]; exact (R.vs v hv).1, (R.vs v hv).2⟩, R.nd, R.nc, R.len, R.cl⟩
theorem RNr_lt {H : Hp} {d c : Nat} {g : Int} {cnt : List Int} {all : List Ver} (R : Reg H d c g cnt all) : ∀ i, RNr H d c all i → i < H.length := by
  have hl := R.lt
  rintro i ((rfl | rfl | h) | ⟨ns, es, h⟩)
  · exact hl.d
  · exact hl.c
  · obtain ⟨v, hv, rfl⟩ := List.mem_map.1 h; exact hl.v v hv
  · exact (List.getElem?_eq_some_iff.1 h).1
theorem RN_ids {d c : Nat} {all all' : List Ver} (e : all'.map (·.id) = all.map (·.id)) : RN d c all' = RN d c all := by funext i; simp only [RN, e]
def boolsV (l : List Bool) : List V := l.map .bool
theorem wide_bools (l : List Bool) : wideAll (boolsV l) 1 = true := wide_mapN (f := V.bool) (fun _ => rfl) l
/-- How many of the first k versions are valid ones of a function -/
def nowC (all : List Ver) (k : Nat) (f : Int) : Nat := ((all.take k).filter fun v => v.ok && v.f == f).length
theorem nowC_succ {all : List Ver} {k : Nat} {v : Ver} (h : all[k]? = some v) (f : Int) : nowC all (k + 1) f = nowC all k f + (if v.ok && v.f == f then 1 else 0) := by
  unfold nowC
  rw [List.take_add_one, h, Option.toList_some, List.filter_append, List.length_append]
  congr 1
  cases hb : (v.ok && v.f == f) <;> simp [hb]
theorem nowC_le {H : Hp} {d c : Nat} {cnt : List Int} {all : List Ver} (I : Inv H d c cnt all) (f : Int) : ∀ k, k ≤ all.length → nowC all k f ≤ 1 ∧ (nowC all k f = 1 → ∃ j v, j < k ∧ all[j]? = some v ∧ v.ok = true ∧ v.f = f)
  | 0, _ => by simp [nowC]
  | k + 1, hk => by
    obtain ⟨h1, h2⟩ := nowC_le I f k (by omega)
    have hv : all[k]? = some all[k] := List.getElem?_eq_getElem (by omega)
    generalize all[k] = v at hv
    rw [nowC_succ hv]
    cases hb : (v.ok && v.f == f) with
    | false =>
      simp only [Bool.false_eq_true, if_false, Nat.add_zero]
      exact ⟨h1, fun e => by obtain ⟨j, w, hj, hw⟩ := h2 e; exact ⟨j, w, by omega, hw⟩⟩
    | true =>
      simp only [if_true]
      simp only [Bool.and_eq_true, beq_iff_eq] at hb
      have h0 : nowC all k f = 0 := by
        rcases Nat.lt_or_ge (nowC all k f) 1 with h | h
        · omega
        · obtain ⟨j, w, hj, hw, ho, hf⟩ := h2 (by omega)
          have := I.un j k w v hw hv ho hb.1 (by rw [hf, hb.2])
          omega
      exact ⟨by omega, fun _ => ⟨k, v, by omega, hv, hb.1, hb.2⟩⟩
def nowV (all : List Ver) (k : Nat) : List V := [.int .i64 (nowC all k 0), .int .i64 (nowC all k 1), .int .i64 (nowC all k 2), .int .i64 (nowC all k 3)]
end Go.Proofs.Ytfjbgmcdkhepkaa

namespace Go.Proofs.Ytfjbgmcdkhepkaa
open Go Go.Abs Go.Proofs
set_option maxRecDepth 100000
set_option maxHeartbeats 4000000
set_option linter.unusedVariables false
set_option linter.unusedSimpArgs false
/-! ### the document's registry -/
/-- All versions: a row, or memory that is not the registry's -/
def Rs (H : Hp) (N : Nat → Prop) (x : V) (l : List V) : Prop := (x = .nils ∧ l = []) ∨ x = .rsl l ∨ ∃ s, x = .sl s 0 l.length ∧ ¬ N s ∧ H[s]? = some (.cells l)
theorem Rs.sx {H : Hp} {N : Nat → Prop} {x : V} {l : List V} (h : Rs H N x l) : Sx H x l := by
  rcases h with ⟨rfl, rfl⟩ | rfl | ⟨s, rfl, _, h⟩
  · exact .nils
  · exact .rsl _
  · exact Sx.whole h
theorem Rs.rd {H : Hp} {N : Nat → Prop} {x : V} {l : List V} (h : Rs H N x l) : Rd H x l := h.sx.rd
theorem Rs.keep {H H' : Hp} {N N' : Nat → Prop} {x : V} {l : List V} (h : Rs H N x l) (hk : ∀ (s : Nat) es, ¬ N s → H[s]? = some (.cells es) → ¬ N' s ∧ H'[s]? = some (.cells es)) : Rs H' N' x l := by
  rcases h with h | h | ⟨s, e, hs, h⟩
  · exact .inl h
  · exact .inr (.inl h)
  · obtain ⟨h1, h2⟩ := hk s l hs h
    exact .inr (.inr ⟨s, e, h1, h2⟩)
def refV (funs globals : Int) (x : V) : V := .agg [.int .i64 funs, .int .i64 globals, x]
def cntR (l : List Ver) (f : Int) : Nat := (l.filter fun v => v.f == f).length
def lastR (l : List Ver) (f : Int) : Int := l.zipIdx.foldl (fun a p => if (p.1.f == f && p.1.ok) = true then (p.2 : Int) else a) (-1)
theorem cntR_snoc (l : List Ver) (v : Ver) (f : Int) : cntR (l ++ [v]) f = cntR l f + (if (v.f == f) = true then 1 else 0) := by
  unfold cntR
  rw [List.filter_append, List.length_append]
  congr 1
  cases h : (v.f == f) <;> simp [h]
theorem lastR_snoc (l : List Ver) (v : Ver) (f : Int) : lastR (l ++ [v]) f = if (v.f == f && v.ok) = true then (l.length : Int) else lastR l f := by
  unfold lastR
  rw [List.zipIdx_append, List.foldl_append]
  simp
theorem cntR_le (l : List Ver) (f : Int) : cntR l f ≤ l.length := List.length_filter_le _ _
theorem verAt {H : Hp} {x : V} {l : List Ver} (hx : Rd H x (l.map verV)) {i : Nat} {v : Ver} (hd : l[i]? = some v) : RdAt H x 3 i (verV v) :=
  hx.at_ (by rw [List.getElem?_map, hd]; rfl) rfl
theorem rversions_eq {H : Hp} {x : V} {l : List Ver} (hx : Rd H x (l.map verV)) (hl : l.length < 4294967296) (fu gl f : Int) :
    EW 30 [refV fu gl x, .int .i64 f] H = some (.ret (.tup [.int .i64 (cntR l f), .int .i64 (lastR l f)]) false, H) := by
  have hc1 := hx.cells1
  have hok := hx.ok
  have hcx : ∀ n, clipV n x = x := hx.clip
  have hci : ∀ (n : Nat) (k : IntKind) (m : Int), clipV n (.int k m) = .int k m := fun _ _ _ => rfl
  refine eqOf (runs f30 b30 r30 n30 _ _ ?_)
  simp only [refV]
  simp only [bodyOf, Try.f30, Option.getD_some]
  simp only [WW, partV, eqCells, eqLf, minV, maxV, ifcV, zaa, zab, zac, zad, zae, zaf, zag, zah, zai, ofConst, ofConst1, List.replicate, zaj, zak, loadOp, Go.Abs.loadCells, binV, zal, pickV, zam, zan, zao, zap, zaq, zar, zas, zat, zau, outR, resAll, resOne, zav, zaw, zax, zay, zaz, zba, zbb, zbc, zbd, zbe, zbf, zbg, zbh, zbi, zbj, zbk, storeOp, storeCell, overlay, zbl, zbm, zbn, lookupOp, keyT, okRes, mapUpdateOp, zbo, zbp, zbq, zbr, zbs, zbt, zbu, Nat.reduceSub, Nat.reduceAdd, Int.reduceLT, Int.reduceLE, Int.reduceAdd, Int.reduceSub, Int.reduceToNat, Int.reduceBEq, Int.reduceBNe, Int.reduceMul, Nat.reduceBEq, Nat.reduceBNe, Nat.reduceLT, Nat.reduceLeDiff, Nat.reduceMul, Nat.reduceEqDiff, WD, effB, effH, isPriv, isHeap, isImm, zbx, zby, zbz, chkO, setD, dslot, zca, zcb, zcc, zcd, ptrCells_some, F30]
  refine wC_loop _ (fun n st H' => ∃ i : Nat, st = ⟨L30_3 (.v (.int .i64 f)) (.box 0) (.v (.int .i64 (cntR (l.take i) f : Int))) (.v (.int .i64 (lastR (l.take i) f))) (.v (.int .i64 (i : Int))), [[.int .i64 fu, .int .i64 gl, x]], []⟩ ∧ H' = H ∧ i ≤ l.length ∧ n = l.length - i) l.length ⟨0, ?_, rfl, by omega, rfl⟩ ?_
  · simp only [WN, firstReg, growAll, zbv, zbw, norm, killS, zag, zah, zaa, zab, zbl, zat, zad, growOne, zae, zaf, zac, zas, zak, Nat.reduceLT, Nat.reduceAdd, zbj, zav, F30, L30_3, hcx, hci]
    rfl
  · rintro n st H' ⟨i, rfl, rfl, hi, rfl⟩
    simp only [L30_3]
    simp only [WW, partV, eqCells, eqLf, minV, maxV, ifcV, zaa, zab, zac, zad, zae, zaf, zag, zah, zai, ofConst, ofConst1, List.replicate, zaj, zak, loadOp, Go.Abs.loadCells, binV, zal, pickV, zam, zan, zao, zap, zaq, zar, zas, zat, zau, outR, resAll, resOne, zav, zaw, zax, zay, zaz, zba, zbb, zbc, zbd, zbe, zbf, zbg, zbh, zbi, zbj, zbk, storeOp, storeCell, overlay, zbl, zbm, zbn, lookupOp, keyT, okRes, mapUpdateOp, zbo, zbp, zbq, zbr, zbs, zbt, zbu, Nat.reduceSub, Nat.reduceAdd, Int.reduceLT, Int.reduceLE, Int.reduceAdd, Int.reduceSub, Int.reduceToNat, Int.reduceBEq, Int.reduceBNe, Int.reduceMul, Nat.reduceBEq, Nat.reduceBNe, Nat.reduceLT, Nat.reduceLeDiff, Nat.reduceMul, Nat.reduceEqDiff, WD, effB, effH, isPriv, isHeap, isImm, zbx, zby, zbz, chkO, setD, dslot, zca, zcb, zcc, zcd, ptrCells_some, F30, hx.shutIn, hx.len]
    refine cSplit (fun hlt => ?_) (fun hge => ?_)
    · have hi2 : i < l.length := by have := of_decide_eq_true hlt; omega
      have hd : l[i]? = some l[i] := List.getElem?_eq_getElem hi2
      generalize l[i] = v at hd
      have hat := verAt hx hd
      have hi1 : IntKind.i64.wrap ((i : Int) + 1) = ((i + 1 : Nat) : Int) := by rw [IntWalk.i64_in _ (by omega)]; omega
      have hct := cntR_le (l.take i) f
      have hct2 : (l.take i).length ≤ l.length := by rw [List.length_take]; omega
      have htl : (l.take i).length = i := by rw [List.length_take]; omega
      have hn1 : IntKind.i64.wrap ((cntR (l.take i) f : Int) + 1) = ((cntR (l.take i) f + 1 : Nat) : Int) := by rw [IntWalk.i64_in _ (by omega)]; omega
      have hsn : l.take (i + 1) = l.take i ++ [v] := by rw [List.take_add_one, hd]; rfl
      have hcs := cntR_snoc (l.take i) v f
      have hls := lastR_snoc (l.take i) v f
      rw [← hsn] at hcs hls
      rw [htl] at hls
      simp only [hlt]
      simp only [WW, partV, eqCells, eqLf, minV, maxV, ifcV, zaa, zab, zac, zad, zae, zaf, zag, zah, zai, ofConst, ofConst1, List.replicate, zaj, zak, loadOp, Go.Abs.loadCells, binV, zal, pickV, zam, zan, zao, zap, zaq, zar, zas, zat, zau, outR, resAll, resOne, zav, zaw, zax, zay, zaz, zba, zbb, zbc, zbd, zbe, zbf, zbg, zbh, zbi, zbj, zbk, storeOp, storeCell, overlay, zbl, zbm, zbn, lookupOp, keyT, okRes, mapUpdateOp, zbo, zbp, zbq, zbr, zbs, zbt, zbu, Nat.reduceSub, Nat.reduceAdd, Int.reduceLT, Int.reduceLE, Int.reduceAdd, Int.reduceSub, Int.reduceToNat, Int.reduceBEq, Int.reduceBNe, Int.reduceMul, Nat.reduceBEq, Nat.reduceBNe, Nat.reduceLT, Nat.reduceLeDiff, Nat.reduceMul, Nat.reduceEqDiff, WD, effB, effH, isPriv, isHeap, isImm, zbx, zby, zbz, chkO, setD, dslot, zca, zcb, zcc, zcd, ptrCells_some, F30, hx.shutIn, hat.at1 hx, hat.cells, hat.fa, verV]
      cases hf : (v.f == f) with
      | false =>
        rw [hf] at hcs hls
        simp only [Bool.false_eq_true, if_false, Nat.add_zero, Bool.false_and] at hcs hls
        simp only [WW, partV, eqCells, eqLf, minV, maxV, ifcV, zaa, zab, zac, zad, zae, zaf, zag, zah, zai, ofConst, ofConst1, List.replicate, zaj, zak, loadOp, Go.Abs.loadCells, binV, zal, pickV, zam, zan, zao, zap, zaq, zar, zas, zat, zau, outR, resAll, resOne, zav, zaw, zax, zay, zaz, zba, zbb, zbc, zbd, zbe, zbf, zbg, zbh, zbi, zbj, zbk, storeOp, storeCell, overlay, zbl, zbm, zbn, lookupOp, keyT, okRes, mapUpdateOp, zbo, zbp, zbq, zbr, zbs, zbt, zbu, Nat.reduceSub, Nat.reduceAdd, Int.reduceLT, Int.reduceLE, Int.reduceAdd, Int.reduceSub, Int.reduceToNat, Int.reduceBEq, Int.reduceBNe, Int.reduceMul, Nat.reduceBEq, Nat.reduceBNe, Nat.reduceLT, Nat.reduceLeDiff, Nat.reduceMul, Nat.reduceEqDiff, WD, effB, effH, isPriv, isHeap, isImm, zbx, zby, zbz, chkO, setD, dslot, zca, zcb, zcc, zcd, ptrCells_some, F30, hi1]
        refine ⟨l.length - (i + 1), by omega, i + 1, ?_, by omega, rfl⟩
        simp only [WN, firstReg, growAll, zbv, zbw, norm, killS, zag, zah, zaa, zab, zbl, zat, zad, growOne, zae, zaf, zac, zas, zak, Nat.reduceLT, Nat.reduceAdd, zbj, zav, F30, hcx, hci, hcs, hls, hi1]
        try rfl
      | true =>
        rw [hf] at hcs hls
        simp only [if_true, Bool.true_and] at hcs hls
        cases hok2 : v.ok with
        | false =>
          rw [hok2] at hls
          simp only [Bool.false_eq_true, if_false] at hls
          simp only [WW, partV, eqCells, eqLf, minV, maxV, ifcV, zaa, zab, zac, zad, zae, zaf, zag, zah, zai, ofConst, ofConst1, List.replicate, zaj, zak, loadOp, Go.Abs.loadCells, binV, zal, pickV, zam, zan, zao, zap, zaq, zar, zas, zat, zau, outR, resAll, resOne, zav, zaw, zax, zay, zaz, zba, zbb, zbc, zbd, zbe, zbf, zbg, zbh, zbi, zbj, zbk, storeOp, storeCell, overlay, zbl, zbm, zbn, lookupOp, keyT, okRes, mapUpdateOp, zbo, zbp, zbq, zbr, zbs, zbt, zbu, Nat.reduceSub, Nat.reduceAdd, Int.reduceLT, Int.reduceLE, Int.reduceAdd, Int.reduceSub, Int.reduceToNat, Int.reduceBEq, Int.reduceBNe, Int.reduceMul, Nat.reduceBEq, Nat.reduceBNe, Nat.reduceLT, Nat.reduceLeDiff, Nat.reduceMul, Nat.reduceEqDiff, WD, effB, effH, isPriv, isHeap, isImm, zbx, zby, zbz, chkO, setD, dslot, zca, zcb, zcc, zcd, ptrCells_some, F30, hx.shutIn, hat.at1 hx, hat.cells, hat.fa, verV, hok2, hi1, hn1]
          refine ⟨l.length - (i + 1), by omega, i + 1, ?_, by omega, rfl⟩
          simp only [WN, firstReg, growAll, zbv, zbw, norm, killS, zag, zah, zaa, zab, zbl, zat, zad, growOne, zae, zaf, zac, zas, zak, Nat.reduceLT, Nat.reduceAdd, zbj, zav, F30, hcx, hci, hcs, hls, hi1]
          try rfl
        | true =>
          rw [hok2] at hls
          simp only [if_true] at hls
          simp only [WW, partV, eqCells, eqLf, minV, maxV, ifcV, zaa, zab, zac, zad, zae, zaf, zag, zah, zai, ofConst, ofConst1, List.replicate, zaj, zak, loadOp, Go.Abs.loadCells, binV, zal, pickV, zam, zan, zao, zap, zaq, zar, zas, zat, zau, outR, resAll, resOne, zav, zaw, zax, zay, zaz, zba, zbb, zbc, zbd, zbe, zbf, zbg, zbh, zbi, zbj, zbk, storeOp, storeCell, overlay, zbl, zbm, zbn, lookupOp, keyT, okRes, mapUpdateOp, zbo, zbp, zbq, zbr, zbs, zbt, zbu, Nat.reduceSub, Nat.reduceAdd, Int.reduceLT, Int.reduceLE, Int.reduceAdd, Int.reduceSub, Int.reduceToNat, Int.reduceBEq, Int.reduceBNe, Int.reduceMul, Nat.reduceBEq, Nat.reduceBNe, Nat.reduceLT, Nat.reduceLeDiff, Nat.reduceMul, Nat.reduceEqDiff, WD, effB, effH, isPriv, isHeap, isImm, zbx, zby, zbz, chkO, setD, dslot, zca, zcb, zcc, zcd, ptrCells_some, F30, hx.shutIn, hat.at1 hx, hat.cells, hat.fa, verV, hok2, hi1, hn1]
          refine ⟨l.length - (i + 1), by omega, i + 1, ?_, by omega, rfl⟩
          simp only [WN, firstReg, growAll, zbv, zbw, norm, killS, zag, zah, zaa, zab, zbl, zat, zad, growOne, zae, zaf, zac, zas, zak, Nat.reduceLT, Nat.reduceAdd, zbj, zav, F30, hcx, hci, hcs, hls, hi1]
          try rfl
    · have hi2 : i = l.length := by have := of_decide_eq_false hge; omega
      subst hi2
      rw [List.take_length]
      simp only [hge]
      simp only [WW, partV, eqCells, eqLf, minV, maxV, ifcV, zaa, zab, zac, zad, zae, zaf, zag, zah, zai, ofConst, ofConst1, List.replicate, zaj, zak, loadOp, Go.Abs.loadCells, binV, zal, pickV, zam, zan, zao, zap, zaq, zar, zas, zat, zau, outR, resAll, resOne, zav, zaw, zax, zay, zaz, zba, zbb, zbc, zbd, zbe, zbf, zbg, zbh, zbi, zbj, zbk, storeOp, storeCell, overlay, zbl, zbm, zbn, lookupOp, keyT, okRes, mapUpdateOp, zbo, zbp, zbq, zbr, zbs, zbt, zbu, Nat.reduceSub, Nat.reduceAdd, Int.reduceLT, Int.reduceLE, Int.reduceAdd, Int.reduceSub, Int.reduceToNat, Int.reduceBEq, Int.reduceBNe, Int.reduceMul, Nat.reduceBEq, Nat.reduceBNe, Nat.reduceLT, Nat.reduceLeDiff, Nat.reduceMul, Nat.reduceEqDiff, WD, effB, effH, isPriv, isHeap, isImm, zbx, zby, zbz, chkO, setD, dslot, zca, zcb, zcc, zcd, ptrCells_some, F30]
theorem rnew_eq (fu gl : Int) (H : Hp) : EW 18 [.int .i64 fu, .int .i64 gl] H = some (.ret (.tup (if fu < 1 ∨ fu > 1024 ∨ gl < 0 ∨ gl > 1024 then [refV 0 0 .nils, .int .i64 1] else [refV fu gl .nils, .int .i64 0])) false, H) := by
  refine eqOf (runsP f18 b18 r18 n18 _ rfl _ ?_)
  simp only [bodyOf, Try.f18, Option.getD_some]
  by_cases h1 : fu < 1
  · have g1 : decide (fu < 1) = true := decide_eq_true h1
    simp only [WW, partV, eqCells, eqLf, minV, maxV, ifcV, zaa, zab, zac, zad, zae, zaf, zag, zah, zai, ofConst, ofConst1, List.replicate, zaj, zak, loadOp, Go.Abs.loadCells, binV, zal, pickV, zam, zan, zao, zap, zaq, zar, zas, zat, zau, outR, resAll, resOne, zav, zaw, zax, zay, zaz, zba, zbb, zbc, zbd, zbe, zbf, zbg, zbh, zbi, zbj, zbk, storeOp, storeCell, overlay, zbl, zbm, zbn, lookupOp, keyT, okRes, mapUpdateOp, zbo, zbp, zbq, zbr, zbs, zbt, zbu, Nat.reduceSub, Nat.reduceAdd, Int.reduceLT, Int.reduceLE, Int.reduceAdd, Int.reduceSub, Int.reduceToNat, Int.reduceBEq, Int.reduceBNe, Int.reduceMul, Nat.reduceBEq, Nat.reduceBNe, Nat.reduceLT, Nat.reduceLeDiff, Nat.reduceMul, Nat.reduceEqDiff, WD, effB, effH, isPriv, isHeap, isImm, zbx, zby, zbz, chkO, setD, dslot, zca, zcb, zcc, zcd, ptrCells_some, F18, g1, buildOp, fillV, Lay.place, Bool.or_self, Bool.or_false, Bool.false_or, decide_not, ne_eq, not_true_eq_false, decide_eq_true_eq, Nat.lt_irrefl]
    rw [if_pos (.inl h1)]; exact ⟨rfl, rfl⟩
  · have g1 : decide (fu < 1) = false := decide_eq_false h1
    by_cases h2 : fu > 1024
    · have g2 : decide (1024 < fu) = true := decide_eq_true h2
      simp only [WW, partV, eqCells, eqLf, minV, maxV, ifcV, zaa, zab, zac, zad, zae, zaf, zag, zah, zai, ofConst, ofConst1, List.replicate, zaj, zak, loadOp, Go.Abs.loadCells, binV, zal, pickV, zam, zan, zao, zap, zaq, zar, zas, zat, zau, outR, resAll, resOne, zav, zaw, zax, zay, zaz, zba, zbb, zbc, zbd, zbe, zbf, zbg, zbh, zbi, zbj, zbk, storeOp, storeCell, overlay, zbl, zbm, zbn, lookupOp, keyT, okRes, mapUpdateOp, zbo, zbp, zbq, zbr, zbs, zbt, zbu, Nat.reduceSub, Nat.reduceAdd, Int.reduceLT, Int.reduceLE, Int.reduceAdd, Int.reduceSub, Int.reduceToNat, Int.reduceBEq, Int.reduceBNe, Int.reduceMul, Nat.reduceBEq, Nat.reduceBNe, Nat.reduceLT, Nat.reduceLeDiff, Nat.reduceMul, Nat.reduceEqDiff, WD, effB, effH, isPriv, isHeap, isImm, zbx, zby, zbz, chkO, setD, dslot, zca, zcb, zcc, zcd, ptrCells_some, F18, g1, g2, buildOp, fillV, Lay.place, Bool.or_self, Bool.or_false, Bool.false_or, decide_not, ne_eq, not_true_eq_false, decide_eq_true_eq, Nat.lt_irrefl]
      rw [if_pos (.inr (.inl h2))]; exact ⟨rfl, rfl⟩
    · have g2 : decide (1024 < fu) = false := decide_eq_false h2
      by_cases h3 : gl < 0
      · have g3 : decide (gl < 0) = true := decide_eq_true h3
        simp only [WW, partV, eqCells, eqLf, minV, maxV, ifcV, zaa, zab, zac, zad, zae, zaf, zag, zah, zai, ofConst, ofConst1, List.replicate, zaj, zak, loadOp, Go.Abs.loadCells, binV, zal, pickV, zam, zan, zao, zap, zaq, zar, zas, zat, zau, outR, resAll, resOne, zav, zaw, zax, zay, zaz, zba, zbb, zbc, zbd, zbe, zbf, zbg, zbh, zbi, zbj, zbk, storeOp, storeCell, overlay, zbl, zbm, zbn, lookupOp, keyT, okRes, mapUpdateOp, zbo, zbp, zbq, zbr, zbs, zbt, zbu, Nat.reduceSub, Nat.reduceAdd, Int.reduceLT, Int.reduceLE, Int.reduceAdd, Int.reduceSub, Int.reduceToNat, Int.reduceBEq, Int.reduceBNe, Int.reduceMul, Nat.reduceBEq, Nat.reduceBNe, Nat.reduceLT, Nat.reduceLeDiff, Nat.reduceMul, Nat.reduceEqDiff, WD, effB, effH, isPriv, isHeap, isImm, zbx, zby, zbz, chkO, setD, dslot, zca, zcb, zcc, zcd, ptrCells_some, F18, g1, g2, g3, buildOp, fillV, Lay.place, Bool.or_self, Bool.or_false, Bool.false_or, decide_not, ne_eq, not_true_eq_false, decide_eq_true_eq, Nat.lt_irrefl]
        rw [if_pos (.inr (.inr (.inl h3)))]; exact ⟨rfl, rfl⟩
      · have g3 : decide (gl < 0) = false := decide_eq_false h3
        by_cases h4 : gl > 1024
        · have g4 : decide (1024 < gl) = true := decide_eq_true h4
          simp only [WW, partV, eqCells, eqLf, minV, maxV, ifcV, zaa, zab, zac, zad, zae, zaf, zag, zah, zai, ofConst, ofConst1, List.replicate, zaj, zak, loadOp, Go.Abs.loadCells, binV, zal, pickV, zam, zan, zao, zap, zaq, zar, zas, zat, zau, outR, resAll, resOne, zav, zaw, zax, zay, zaz, zba, zbb, zbc, zbd, zbe, zbf, zbg, zbh, zbi, zbj, zbk, storeOp, storeCell, overlay, zbl, zbm, zbn, lookupOp, keyT, okRes, mapUpdateOp, zbo, zbp, zbq, zbr, zbs, zbt, zbu, Nat.reduceSub, Nat.reduceAdd, Int.reduceLT, Int.reduceLE, Int.reduceAdd, Int.reduceSub, Int.reduceToNat, Int.reduceBEq, Int.reduceBNe, Int.reduceMul, Nat.reduceBEq, Nat.reduceBNe, Nat.reduceLT, Nat.reduceLeDiff, Nat.reduceMul, Nat.reduceEqDiff, WD, effB, effH, isPriv, isHeap, isImm, zbx, zby, zbz, chkO, setD, dslot, zca, zcb, zcc, zcd, ptrCells_some, F18, g1, g2, g3, g4, buildOp, fillV, Lay.place, Bool.or_self, Bool.or_false, Bool.false_or, decide_not, ne_eq, not_true_eq_false, decide_eq_true_eq, Nat.lt_irrefl]
          rw [if_pos (.inr (.inr (.inr h4)))]; exact ⟨rfl, rfl⟩
        · have g4 : decide (1024 < gl) = false := decide_eq_false h4
          simp only [WW, partV, eqCells, eqLf, minV, maxV, ifcV, zaa, zab, zac, zad, zae, zaf, zag, zah, zai, ofConst, ofConst1, List.replicate, zaj, zak, loadOp, Go.Abs.loadCells, binV, zal, pickV, zam, zan, zao, zap, zaq, zar, zas, zat, zau, outR, resAll, resOne, zav, zaw, zax, zay, zaz, zba, zbb, zbc, zbd, zbe, zbf, zbg, zbh, zbi, zbj, zbk, storeOp, storeCell, overlay, zbl, zbm, zbn, lookupOp, keyT, okRes, mapUpdateOp, zbo, zbp, zbq, zbr, zbs, zbt, zbu, Nat.reduceSub, Nat.reduceAdd, Int.reduceLT, Int.reduceLE, Int.reduceAdd, Int.reduceSub, Int.reduceToNat, Int.reduceBEq, Int.reduceBNe, Int.reduceMul, Nat.reduceBEq, Nat.reduceBNe, Nat.reduceLT, Nat.reduceLeDiff, Nat.reduceMul, Nat.reduceEqDiff, WD, effB, effH, isPriv, isHeap, isImm, zbx, zby, zbz, chkO, setD, dslot, zca, zcb, zcc, zcd, ptrCells_some, F18, g1, g2, g3, g4, buildOp, fillV, Lay.place, Bool.or_self, Bool.or_false, Bool.false_or, decide_not, ne_eq, not_true_eq_false, decide_eq_true_eq, Nat.lt_irrefl]
          rw [if_neg (by omega)]; exact ⟨rfl, rfl⟩
end Go.Proofs.Ytfjbgmcdkhepkaa

namespace Go.Proofs.Ytfjbgmcdkhepkaa
open Go Go.Abs Go.Proofs
set_option maxRecDepth 100000
set_option maxHeartbeats 4000000
set_option linter.unusedVariables false
set_option linter.unusedSimpArgs false
theorem wide_ver (l : List Ver) : wideAll (l.map verV) 3 = true := wide_mapN (f := verV) (fun _ => rfl) l
theorem copy_ver {l : List Ver} (hl : l.length < 4294967296) (st : St) (rid : Nat) (H : Hp) (d : Option Nat) (hr : st.r[rid]? = some ⟨true, false, []⟩) :
    appendOp Try.prog .heap st H d 57 (.lr rid 0) (l.map verV) = some (putS st d (.v (copyR (l.map verV) H).1), (copyR (l.map verV) H).2) :=
  app_copy hr (by rw [size57]; exact wide_ver l) (by rw [room57]; simp; omega)
/-- Old memory is as it was. -/
structure Old (H H' : Hp) : Prop where
  at_ : ∀ k, k < H.length → H'[k]? = H[k]?
  len : H.length ≤ H'.length
theorem Old.refl (H : Hp) : Old H H := ⟨fun _ _ => rfl, Nat.le_refl _⟩
theorem Old.app (H e : Hp) : Old H (H ++ e) := ⟨fun k hk => List.getElem?_append_left hk, by simp⟩
theorem Old.trans {A B C : Hp} (h : Old A B) (k : Old B C) : Old A C := ⟨fun i hi => (k.at_ i (by have := h.len; omega)).trans (h.at_ i hi), Nat.le_trans h.len k.len⟩
theorem rdrop_eq {H : Hp} {x : V} {l : List Ver} (hx : Sx H x (l.map verV)) (hl : l.length < 4294967296) (fu gl id : Int) :
    wpCall EW 29 [refV fu gl x, .int .i64 id] H (fun out H' => if id < 0 ∨ (l.length : Int) ≤ id then out = .ret (.tup [refV fu gl x, .int .i64 1]) false ∧ H' = H
      else ∃ y, out = .ret (.tup [refV fu gl y, .int .i64 0]) false ∧ Rs H' (fun k => k < H.length) y ((l.mapIdx fun j v => if (j : Int) = id then v.off else v).map verV) ∧ Old H H') := by
  have hr := hx.rd
  have hc1 := hr.cells1
  have hok := hr.ok
  refine runs f29 b29 r29 n29 _ _ ?_
  simp only [refV]
  simp only [bodyOf, Try.f29, Option.getD_some]
  by_cases h0 : id < 0
  · have g0 : decide (id < 0) = true := decide_eq_true h0
    simp only [WW, partV, eqCells, eqLf, minV, maxV, ifcV, zaa, zab, zac, zad, zae, zaf, zag, zah, zai, ofConst, ofConst1, List.replicate, zaj, zak, loadOp, Go.Abs.loadCells, binV, zal, pickV, zam, zan, zao, zap, zaq, zar, zas, zat, zau, outR, resAll, resOne, zav, zaw, zax, zay, zaz, zba, zbb, zbc, zbd, zbe, zbf, zbg, zbh, zbi, zbj, zbk, storeOp, storeCell, overlay, zbl, zbm, zbn, lookupOp, keyT, okRes, mapUpdateOp, zbo, zbp, zbq, zbr, zbs, zbt, zbu, Nat.reduceSub, Nat.reduceAdd, Int.reduceLT, Int.reduceLE, Int.reduceAdd, Int.reduceSub, Int.reduceToNat, Int.reduceBEq, Int.reduceBNe, Int.reduceMul, Nat.reduceBEq, Nat.reduceBNe, Nat.reduceLT, Nat.reduceLeDiff, Nat.reduceMul, Nat.reduceEqDiff, WD, effB, effH, isPriv, isHeap, isImm, zbx, zby, zbz, chkO, setD, dslot, zca, zcb, zcc, zcd, ptrCells_some, F29, g0, hr.shutIn]
    rw [if_pos (.inl h0)]
    first | trivial | exact ⟨rfl, rfl⟩
  · have g0 : decide (id < 0) = false := decide_eq_false h0
    by_cases h1 : (l.length : Int) ≤ id
    · have g1 : decide ((l.length : Int) ≤ id) = true := decide_eq_true h1
      simp only [WW, partV, eqCells, eqLf, minV, maxV, ifcV, zaa, zab, zac, zad, zae, zaf, zag, zah, zai, ofConst, ofConst1, List.replicate, zaj, zak, loadOp, Go.Abs.loadCells, binV, zal, pickV, zam, zan, zao, zap, zaq, zar, zas, zat, zau, outR, resAll, resOne, zav, zaw, zax, zay, zaz, zba, zbb, zbc, zbd, zbe, zbf, zbg, zbh, zbi, zbj, zbk, storeOp, storeCell, overlay, zbl, zbm, zbn, lookupOp, keyT, okRes, mapUpdateOp, zbo, zbp, zbq, zbr, zbs, zbt, zbu, Nat.reduceSub, Nat.reduceAdd, Int.reduceLT, Int.reduceLE, Int.reduceAdd, Int.reduceSub, Int.reduceToNat, Int.reduceBEq, Int.reduceBNe, Int.reduceMul, Nat.reduceBEq, Nat.reduceBNe, Nat.reduceLT, Nat.reduceLeDiff, Nat.reduceMul, Nat.reduceEqDiff, WD, effB, effH, isPriv, isHeap, isImm, zbx, zby, zbz, chkO, setD, dslot, zca, zcb, zcc, zcd, ptrCells_some, F29, g0, hr.shutIn, hr.len, g1]
      rw [if_pos (.inr h1)]
      first | trivial | exact ⟨rfl, rfl⟩
    · have g1 : decide ((l.length : Int) ≤ id) = false := decide_eq_false h1
      obtain ⟨i, rfl⟩ : ∃ i : Nat, id = i := ⟨id.toNat, by omega⟩
      have hi : i < l.length := by omega
      have hd : l[i]? = some l[i] := List.getElem?_eq_getElem hi
      generalize l[i] = v at hd
      have hne : (l.map verV).isEmpty = false := by cases l with | nil => simp at hi | cons a b => rfl
      have hcr : copyR (l.map verV) H = (.sl H.length 0 l.length, H ++ [.cells (l.map verV)]) := by
        unfold copyR; rw [hne]; simp
      have hcc : ∀ (st : St) (rid : Nat) (d : Option Nat), st.r[rid]? = some ⟨true, false, []⟩ → appendOp Try.prog .heap st H d 57 (.lr rid 0) (l.map verV) = some (putS st d (.v (.sl H.length 0 l.length)), H ++ [.cells (l.map verV)]) := fun st rid d h => by
        have := copy_ver hl st rid H d h
        rw [hcr] at this; exact this
      have hi0 : (0 : Int) ≤ (i : Int) ∧ (i : Int) < (l.length : Int) := ⟨by omega, by omega⟩
      simp only [WW, partV, eqCells, eqLf, minV, maxV, ifcV, zaa, zab, zac, zad, zae, zaf, zag, zah, zai, ofConst, ofConst1, List.replicate, zaj, zak, loadOp, Go.Abs.loadCells, binV, zal, pickV, zam, zan, zao, zap, zaq, zar, zas, zat, zau, outR, resAll, resOne, zav, zaw, zax, zay, zaz, zba, zbb, zbc, zbd, zbe, zbf, zbg, zbh, zbi, zbj, zbk, storeOp, storeCell, overlay, zbl, zbm, zbn, lookupOp, keyT, okRes, mapUpdateOp, zbo, zbp, zbq, zbr, zbs, zbt, zbu, Nat.reduceSub, Nat.reduceAdd, Int.reduceLT, Int.reduceLE, Int.reduceAdd, Int.reduceSub, Int.reduceToNat, Int.reduceBEq, Int.reduceBNe, Int.reduceMul, Nat.reduceBEq, Nat.reduceBNe, Nat.reduceLT, Nat.reduceLeDiff, Nat.reduceMul, Nat.reduceEqDiff, WD, effB, effH, isPriv, isHeap, isImm, zbx, zby, zbz, chkO, setD, dslot, zca, zcb, zcc, zcd, ptrCells_some, F29, g0, hr.shutIn, hr.len, g1]
      simp only [WW, partV, eqCells, eqLf, minV, maxV, ifcV, zaa, zab, zac, zad, zae, zaf, zag, zah, zai, ofConst, ofConst1, List.replicate, zaj, zak, loadOp, Go.Abs.loadCells, binV, zal, pickV, zam, zan, zao, zap, zaq, zar, zas, zat, zau, outR, resAll, resOne, zav, zaw, zax, zay, zaz, zba, zbb, zbc, zbd, zbe, zbf, zbg, zbh, zbi, zbj, zbk, storeOp, storeCell, overlay, zbl, zbm, zbn, lookupOp, keyT, okRes, mapUpdateOp, zbo, zbp, zbq, zbr, zbs, zbt, zbu, Nat.reduceSub, Nat.reduceAdd, Int.reduceLT, Int.reduceLE, Int.reduceAdd, Int.reduceSub, Int.reduceToNat, Int.reduceBEq, Int.reduceBNe, Int.reduceMul, Nat.reduceBEq, Nat.reduceBNe, Nat.reduceLT, Nat.reduceLeDiff, Nat.reduceMul, Nat.reduceEqDiff, WD, effB, effH, isPriv, isHeap, isImm, zbx, zby, zbz, chkO, setD, dslot, zca, zcb, zcc, zcd, ptrCells_some, F29, buildSliceV, lits, srcV_eq, srcK_sl, srcK_str, srcSl_nils, srcSl_rsl, srcSl_sl, frow, zbv, zbw, List.all_nil, List.all_cons, rowV, Bool.false_and, Bool.and_false, ne_eq, not_false_eq_true, grows_lr, callOut_t, hr.shutIn, hr.srcSl, hcc, hc1, hok, width_eq, slAt_sl, hi0.1, hi0.2, slIn_some, List.getElem?_concat_length, List.getElem?_map, hd, verV, storeHeap, promote, heapSet, elemSet]
      rw [if_neg (by omega)]
      refine ⟨_, rfl, .inr (.inr ⟨H.length, by simp, by simp, ?_⟩), ⟨fun k hk => ?_, by simp⟩⟩
      · rw [List.getElem?_set_self (by simp)]
        congr 2
        refine List.ext_getElem? fun j => ?_
        rw [List.getElem?_set, List.getElem?_map, List.getElem?_map, List.getElem?_mapIdx, List.length_map]
        by_cases e : i = j
        · subst e
          rw [if_pos rfl, if_pos hi, hd]; simp [verV, Ver.off]
        · rw [if_neg e]
          cases l[j]? with
          | none => rfl
          | some w =>
            have hji : ¬ ((j : Int) = (i : Int)) := by omega
            simp [hji]
      · rw [List.getElem?_set_ne (by omega), List.getElem?_append_left hk]
theorem any_take_succ {l : List (Int × Int)} {p : Int × Int → Bool} {k : Nat} {y : Int × Int} (h : l[k]? = some y) : (l.take (k + 1)).any p = ((l.take k).any p || p y) := by
  rw [List.take_add_one, h, Option.toList_some, List.any_append]; simp
theorem rwrote_eq {H : Hp} {x : V} {l : List Ver} (hx : Sx H x (l.map verV)) (hl : l.length < 4294967296) (hon : ∀ v ∈ l, IsDeps v.on v.l ∧ v.l.length < 4294967296) (fu gl g v : Int) :
    wpCall EW 28 [refV fu gl x, .int .i64 g, .int .u64 v] H (fun out H' => if g < 0 ∨ gl ≤ g then out = .ret (.tup [refV fu gl x, .nils, .int .i64 1]) false ∧ H' = H
      else ∃ y, out = .ret (.tup [refV fu gl y, rowV true (idsV (hits (writes g v) l l.length)) (hits (writes g v) l l.length).length, .int .i64 0]) false ∧ Rs H' (fun k => k < H.length) y ((upd (writes g v) l l.length).map verV) ∧ Old H H') := by
  have hr := hx.rd
  have hc1 := hr.cells1
  have hok := hr.ok
  refine runs f28 b28 r28 n28 _ _ ?_
  simp only [refV]
  simp only [bodyOf, Try.f28, Option.getD_some]
  by_cases h0 : g < 0
  · have g0 : decide (g < 0) = true := decide_eq_true h0
    simp only [WW, partV, eqCells, eqLf, minV, maxV, ifcV, zaa, zab, zac, zad, zae, zaf, zag, zah, zai, ofConst, ofConst1, List.replicate, zaj, zak, loadOp, Go.Abs.loadCells, binV, zal, pickV, zam, zan, zao, zap, zaq, zar, zas, zat, zau, outR, resAll, resOne, zav, zaw, zax, zay, zaz, zba, zbb, zbc, zbd, zbe, zbf, zbg, zbh, zbi, zbj, zbk, storeOp, storeCell, overlay, zbl, zbm, zbn, lookupOp, keyT, okRes, mapUpdateOp, zbo, zbp, zbq, zbr, zbs, zbt, zbu, Nat.reduceSub, Nat.reduceAdd, Int.reduceLT, Int.reduceLE, Int.reduceAdd, Int.reduceSub, Int.reduceToNat, Int.reduceBEq, Int.reduceBNe, Int.reduceMul, Nat.reduceBEq, Nat.reduceBNe, Nat.reduceLT, Nat.reduceLeDiff, Nat.reduceMul, Nat.reduceEqDiff, WD, effB, effH, isPriv, isHeap, isImm, zbx, zby, zbz, chkO, setD, dslot, zca, zcb, zcc, zcd, ptrCells_some, F28, g0, hr.shutIn]
    rw [if_pos (.inl h0)]
    first | trivial | exact ⟨rfl, rfl⟩
  · have g0 : decide (g < 0) = false := decide_eq_false h0
    by_cases h1 : gl ≤ g
    · have g1 : decide (gl ≤ g) = true := decide_eq_true h1
      simp only [WW, partV, eqCells, eqLf, minV, maxV, ifcV, zaa, zab, zac, zad, zae, zaf, zag, zah, zai, ofConst, ofConst1, List.replicate, zaj, zak, loadOp, Go.Abs.loadCells, binV, zal, pickV, zam, zan, zao, zap, zaq, zar, zas, zat, zau, outR, resAll, resOne, zav, zaw, zax, zay, zaz, zba, zbb, zbc, zbd, zbe, zbf, zbg, zbh, zbi, zbj, zbk, storeOp, storeCell, overlay, zbl, zbm, zbn, lookupOp, keyT, okRes, mapUpdateOp, zbo, zbp, zbq, zbr, zbs, zbt, zbu, Nat.reduceSub, Nat.reduceAdd, Int.reduceLT, Int.reduceLE, Int.reduceAdd, Int.reduceSub, Int.reduceToNat, Int.reduceBEq, Int.reduceBNe, Int.reduceMul, Nat.reduceBEq, Nat.reduceBNe, Nat.reduceLT, Nat.reduceLeDiff, Nat.reduceMul, Nat.reduceEqDiff, WD, effB, effH, isPriv, isHeap, isImm, zbx, zby, zbz, chkO, setD, dslot, zca, zcb, zcc, zcd, ptrCells_some, F28, g0, hr.shutIn, hr.len, g1]
      rw [if_pos (.inr h1)]
      first | trivial | exact ⟨rfl, rfl⟩
    · have g1 : decide (gl ≤ g) = false := decide_eq_false h1
      have hcc := copy_ver hl
      have hnot : ¬ (g < 0 ∨ gl ≤ g) := by omega
      simp only [if_neg hnot]
      simp only [WW, partV, eqCells, eqLf, minV, maxV, ifcV, zaa, zab, zac, zad, zae, zaf, zag, zah, zai, ofConst, ofConst1, List.replicate, zaj, zak, loadOp, Go.Abs.loadCells, binV, zal, pickV, zam, zan, zao, zap, zaq, zar, zas, zat, zau, outR, resAll, resOne, zav, zaw, zax, zay, zaz, zba, zbb, zbc, zbd, zbe, zbf, zbg, zbh, zbi, zbj, zbk, storeOp, storeCell, overlay, zbl, zbm, zbn, lookupOp, keyT, okRes, mapUpdateOp, zbo, zbp, zbq, zbr, zbs, zbt, zbu, Nat.reduceSub, Nat.reduceAdd, Int.reduceLT, Int.reduceLE, Int.reduceAdd, Int.reduceSub, Int.reduceToNat, Int.reduceBEq, Int.reduceBNe, Int.reduceMul, Nat.reduceBEq, Nat.reduceBNe, Nat.reduceLT, Nat.reduceLeDiff, Nat.reduceMul, Nat.reduceEqDiff, WD, effB, effH, isPriv, isHeap, isImm, zbx, zby, zbz, chkO, setD, dslot, zca, zcb, zcc, zcd, ptrCells_some, F28, g0, hr.shutIn, hr.len, g1]
      simp only [WW, partV, eqCells, eqLf, minV, maxV, ifcV, zaa, zab, zac, zad, zae, zaf, zag, zah, zai, ofConst, ofConst1, List.replicate, zaj, zak, loadOp, Go.Abs.loadCells, binV, zal, pickV, zam, zan, zao, zap, zaq, zar, zas, zat, zau, outR, resAll, resOne, zav, zaw, zax, zay, zaz, zba, zbb, zbc, zbd, zbe, zbf, zbg, zbh, zbi, zbj, zbk, storeOp, storeCell, overlay, zbl, zbm, zbn, lookupOp, keyT, okRes, mapUpdateOp, zbo, zbp, zbq, zbr, zbs, zbt, zbu, Nat.reduceSub, Nat.reduceAdd, Int.reduceLT, Int.reduceLE, Int.reduceAdd, Int.reduceSub, Int.reduceToNat, Int.reduceBEq, Int.reduceBNe, Int.reduceMul, Nat.reduceBEq, Nat.reduceBNe, Nat.reduceLT, Nat.reduceLeDiff, Nat.reduceMul, Nat.reduceEqDiff, WD, effB, effH, isPriv, isHeap, isImm, zbx, zby, zbz, chkO, setD, dslot, zca, zcb, zcc, zcd, ptrCells_some, F28, buildSliceV, lits, srcV_eq, srcK_sl, srcK_str, srcSl_nils, srcSl_rsl, srcSl_sl, frow, zbv, zbw, List.all_nil, List.all_cons, rowV, Bool.false_and, Bool.and_false, ne_eq, not_false_eq_true, grows_lr, callOut_t, hr.shutIn, hr.srcSl, hcc]
      obtain ⟨p, hp⟩ : ∃ p, p = writes g v := ⟨_, rfl⟩
      rw [← hp]
      -- the copy
      have hRB : ((copyR (l.map verV) H).1 = .rsl [] ∧ l = [] ∧ (copyR (l.map verV) H).2 = H) ∨ ((copyR (l.map verV) H).1 = .sl H.length 0 l.length ∧ (copyR (l.map verV) H).2 = H ++ [.cells (l.map verV)] ∧ l ≠ []) := by
        unfold copyR
        cases l with
        | nil => exact .inl ⟨rfl, rfl, rfl⟩
        | cons a b => exact .inr ⟨by simp, rfl, by simp⟩
      generalize copyR (l.map verV) H = K at hRB ⊢
      obtain ⟨y, H1⟩ := K
      simp only at hRB
      rcases hRB with ⟨rfl, rfl, rfl⟩ | ⟨rfl, rfl, hlne⟩
      · refine wC_loop _ (fun n st H' => st = ⟨L28_6 (.v (.int .i64 g)) (.v (.int .u64 v)) (.box 0) (.box 1) (.v (.lr 1 0)) (.v (.rsl [])) (.v (.int .i64 0)), [[.int .i64 fu, .int .i64 gl, x], [.int .i64 0, .int .i64 0, .nils]], [⟨true, false, []⟩, ⟨true, true, []⟩]⟩ ∧ H' = H1) 0 ⟨?_, rfl⟩ ?_
        · simp only [WN, firstReg, growAll, zbv, zbw, norm, killS, zag, zah, zaa, zab, zbl, zat, zad, growOne, zae, zaf, zac, zas, zak, Nat.reduceLT, Nat.reduceAdd, zbj, zav, F28, L28_6, hr.clip]
          rfl
        · rintro n st H' ⟨rfl, rfl⟩
          simp only [L28_6]
          simp only [WW, partV, eqCells, eqLf, minV, maxV, ifcV, zaa, zab, zac, zad, zae, zaf, zag, zah, zai, ofConst, ofConst1, List.replicate, zaj, zak, loadOp, Go.Abs.loadCells, binV, zal, pickV, zam, zan, zao, zap, zaq, zar, zas, zat, zau, outR, resAll, resOne, zav, zaw, zax, zay, zaz, zba, zbb, zbc, zbd, zbe, zbf, zbg, zbh, zbi, zbj, zbk, storeOp, storeCell, overlay, zbl, zbm, zbn, lookupOp, keyT, okRes, mapUpdateOp, zbo, zbp, zbq, zbr, zbs, zbt, zbu, Nat.reduceSub, Nat.reduceAdd, Int.reduceLT, Int.reduceLE, Int.reduceAdd, Int.reduceSub, Int.reduceToNat, Int.reduceBEq, Int.reduceBNe, Int.reduceMul, Nat.reduceBEq, Nat.reduceBNe, Nat.reduceLT, Nat.reduceLeDiff, Nat.reduceMul, Nat.reduceEqDiff, WD, effB, effH, isPriv, isHeap, isImm, zbx, zby, zbz, chkO, setD, dslot, zca, zcb, zcc, zcd, ptrCells_some, F28, rowV, hr.shutIn]
          exact ⟨_, rfl, .inr (.inl rfl), Old.refl _⟩
      · have hcx : ∀ n, clipV n x = x := hr.clip
        have hci : ∀ (n : Nat) (k : IntKind) (m : Int), clipV n (.int k m) = .int k m := fun _ _ _ => rfl
        refine wC_loop _ (fun n st H' => ∃ i : Nat, st = ⟨L28_6 (.v (.int .i64 g)) (.v (.int .u64 v)) (.box 0) (.box 1) (.v (.lr 1 (hits p l i).length)) (.v (.sl H.length 0 l.length)) (.v (.int .i64 (i : Int))), [[.int .i64 fu, .int .i64 gl, x], [.int .i64 0, .int .i64 0, .nils]], [⟨true, false, []⟩, ⟨true, true, idsV (hits p l i)⟩]⟩ ∧ H' = H ++ [.cells ((upd p l i).map verV)] ∧ i ≤ l.length ∧ n = l.length - i) l.length ⟨0, ?_, by rw [upd_zero], by omega, rfl⟩ ?_
        · simp only [WN, firstReg, growAll, zbv, zbw, norm, killS, zag, zah, zaa, zab, zbl, zat, zad, growOne, zae, zaf, zac, zas, zak, Nat.reduceLT, Nat.reduceAdd, zbj, zav, F28, L28_6, hcx]
          rfl
        · rintro n st H' ⟨i, rfl, rfl, hi, rfl⟩
          simp only [L28_6]
          simp only [WW, partV, eqCells, eqLf, minV, maxV, ifcV, zaa, zab, zac, zad, zae, zaf, zag, zah, zai, ofConst, ofConst1, List.replicate, zaj, zak, loadOp, Go.Abs.loadCells, binV, zal, pickV, zam, zan, zao, zap, zaq, zar, zas, zat, zau, outR, resAll, resOne, zav, zaw, zax, zay, zaz, zba, zbb, zbc, zbd, zbe, zbf, zbg, zbh, zbi, zbj, zbk, storeOp, storeCell, overlay, zbl, zbm, zbn, lookupOp, keyT, okRes, mapUpdateOp, zbo, zbp, zbq, zbr, zbs, zbt, zbu, Nat.reduceSub, Nat.reduceAdd, Int.reduceLT, Int.reduceLE, Int.reduceAdd, Int.reduceSub, Int.reduceToNat, Int.reduceBEq, Int.reduceBNe, Int.reduceMul, Nat.reduceBEq, Nat.reduceBNe, Nat.reduceLT, Nat.reduceLeDiff, Nat.reduceMul, Nat.reduceEqDiff, WD, effB, effH, isPriv, isHeap, isImm, zbx, zby, zbz, chkO, setD, dslot, zca, zcb, zcc, zcd, ptrCells_some, F28]
          refine cSplit (fun hlt => ?_) (fun hge => ?_)
          rotate_left
          · have hi2 : i = l.length := by have := of_decide_eq_false hge; omega
            subst hi2
            simp only [hge]
            have hul := upd_length p l l.length
            simp only [WW, partV, eqCells, eqLf, minV, maxV, ifcV, zaa, zab, zac, zad, zae, zaf, zag, zah, zai, ofConst, ofConst1, List.replicate, zaj, zak, loadOp, Go.Abs.loadCells, binV, zal, pickV, zam, zan, zao, zap, zaq, zar, zas, zat, zau, outR, resAll, resOne, zav, zaw, zax, zay, zaz, zba, zbb, zbc, zbd, zbe, zbf, zbg, zbh, zbi, zbj, zbk, storeOp, storeCell, overlay, zbl, zbm, zbn, lookupOp, keyT, okRes, mapUpdateOp, zbo, zbp, zbq, zbr, zbs, zbt, zbu, Nat.reduceSub, Nat.reduceAdd, Int.reduceLT, Int.reduceLE, Int.reduceAdd, Int.reduceSub, Int.reduceToNat, Int.reduceBEq, Int.reduceBNe, Int.reduceMul, Nat.reduceBEq, Nat.reduceBNe, Nat.reduceLT, Nat.reduceLeDiff, Nat.reduceMul, Nat.reduceEqDiff, WD, effB, effH, isPriv, isHeap, isImm, zbx, zby, zbz, chkO, setD, dslot, zca, zcb, zcc, zcd, ptrCells_some, F28, hr.shutIn]
            refine ⟨_, rfl, .inr (.inr ⟨H.length, by simp [hul], by simp, by simp⟩), Old.app _ _⟩
          · have hi2 : i < l.length := by have := of_decide_eq_true hlt; omega
            have hd : l[i]? = some l[i] := List.getElem?_eq_getElem hi2
            generalize l[i] = v0 at hd
            have hd' : (upd p l i)[i]? = some v0 := by rw [upd_at, hd]; simp
            have hon0 := hon v0 (List.mem_of_getElem? hd)
            have hrd := hon0.1.rd
            have hir : (0 : Int) ≤ (i : Int) ∧ (i : Int) < (l.length : Int) := ⟨by omega, by omega⟩
            have hi1 : IntKind.i64.wrap ((i : Int) + 1) = ((i + 1 : Nat) : Int) := by rw [IntWalk.i64_in _ (by omega)]; omega
            obtain ⟨q, hq⟩ : ∃ q : Int × Int → Bool, q = fun d => d.1 == g && d.2 != v := ⟨_, rfl⟩
            have hpq : p i v0 = v0.l.any q := by rw [hp, hq]; rfl
            simp only [hlt]
            simp only [WW, partV, eqCells, eqLf, minV, maxV, ifcV, zaa, zab, zac, zad, zae, zaf, zag, zah, zai, ofConst, ofConst1, List.replicate, zaj, zak, loadOp, Go.Abs.loadCells, binV, zal, pickV, zam, zan, zao, zap, zaq, zar, zas, zat, zau, outR, resAll, resOne, zav, zaw, zax, zay, zaz, zba, zbb, zbc, zbd, zbe, zbf, zbg, zbh, zbi, zbj, zbk, storeOp, storeCell, overlay, zbl, zbm, zbn, lookupOp, keyT, okRes, mapUpdateOp, zbo, zbp, zbq, zbr, zbs, zbt, zbu, Nat.reduceSub, Nat.reduceAdd, Int.reduceLT, Int.reduceLE, Int.reduceAdd, Int.reduceSub, Int.reduceToNat, Int.reduceBEq, Int.reduceBNe, Int.reduceMul, Nat.reduceBEq, Nat.reduceBNe, Nat.reduceLT, Nat.reduceLeDiff, Nat.reduceMul, Nat.reduceEqDiff, WD, effB, effH, isPriv, isHeap, isImm, zbx, zby, zbz, chkO, setD, dslot, zca, zcb, zcc, zcd, ptrCells_some, F28]
            refine wC_loop _ (fun n st H' => ∃ k : Nat, st = ⟨L28_10 (.v (.int .i64 g)) (.v (.int .u64 v)) (.box 0) (.box 1) (.v (.lr 1 (hits p l i).length)) (.v (.sl H.length 0 l.length)) (.v (.int .i64 (i : Int))) (.v (.bool ((v0.l.take k).any q))) (.v (.int .i64 (k : Int))), [[.int .i64 fu, .int .i64 gl, x], [.int .i64 0, .int .i64 0, .nils]], [⟨true, false, []⟩, ⟨true, true, idsV (hits p l i)⟩]⟩ ∧ H' = H ++ [.cells ((upd p l i).map verV)] ∧ k ≤ v0.l.length ∧ n = v0.l.length - k) v0.l.length ⟨0, ?_, rfl, by omega, rfl⟩ ?_
            · simp only [WN, firstReg, growAll, zbv, zbw, norm, killS, zag, zah, zaa, zab, zbl, zat, zad, growOne, zae, zaf, zac, zas, zak, Nat.reduceLT, Nat.reduceAdd, zbj, zav, F28, L28_10, hcx]
              rfl
            · rintro n st H' ⟨k, rfl, rfl, hk, rfl⟩
              simp only [L28_10]
              simp only [WW, partV, eqCells, eqLf, minV, maxV, ifcV, zaa, zab, zac, zad, zae, zaf, zag, zah, zai, ofConst, ofConst1, List.replicate, zaj, zak, loadOp, Go.Abs.loadCells, binV, zal, pickV, zam, zan, zao, zap, zaq, zar, zas, zat, zau, outR, resAll, resOne, zav, zaw, zax, zay, zaz, zba, zbb, zbc, zbd, zbe, zbf, zbg, zbh, zbi, zbj, zbk, storeOp, storeCell, overlay, zbl, zbm, zbn, lookupOp, keyT, okRes, mapUpdateOp, zbo, zbp, zbq, zbr, zbs, zbt, zbu, Nat.reduceSub, Nat.reduceAdd, Int.reduceLT, Int.reduceLE, Int.reduceAdd, Int.reduceSub, Int.reduceToNat, Int.reduceBEq, Int.reduceBNe, Int.reduceMul, Nat.reduceBEq, Nat.reduceBNe, Nat.reduceLT, Nat.reduceLeDiff, Nat.reduceMul, Nat.reduceEqDiff, WD, effB, effH, isPriv, isHeap, isImm, zbx, zby, zbz, chkO, setD, dslot, zca, zcb, zcc, zcd, ptrCells_some, F28, slAt_sl, hir.1, hir.2, slIn_some, List.getElem?_concat_length, List.getElem?_map, hd', verV, (hrd []).shutIn, (hrd _).len]
              refine cSplit (fun hltk => ?_) (fun hgek => ?_)
              · have hk2 : k < v0.l.length := by have := of_decide_eq_true hltk; omega
                have hy : v0.l[k]? = some v0.l[k] := List.getElem?_eq_getElem hk2
                generalize v0.l[k] = yy at hy
                have hat := depAt (hrd (H ++ [.cells ((upd p l i).map verV)])) hy
                have hk1 : IntKind.i64.wrap ((k : Int) + 1) = ((k + 1 : Nat) : Int) := by rw [IntWalk.i64_in _ (by have := hon0.2; omega)]; omega
                have hts := any_take_succ (p := q) hy
                have hqy : q yy = (yy.1 == g && yy.2 != v) := by rw [hq]
                rw [hqy] at hts
                simp only [hltk]
                cases hb : (v0.l.take k).any q with
                | true =>
                  rw [hb] at hts
                  simp only [WW, partV, eqCells, eqLf, minV, maxV, ifcV, zaa, zab, zac, zad, zae, zaf, zag, zah, zai, ofConst, ofConst1, List.replicate, zaj, zak, loadOp, Go.Abs.loadCells, binV, zal, pickV, zam, zan, zao, zap, zaq, zar, zas, zat, zau, outR, resAll, resOne, zav, zaw, zax, zay, zaz, zba, zbb, zbc, zbd, zbe, zbf, zbg, zbh, zbi, zbj, zbk, storeOp, storeCell, overlay, zbl, zbm, zbn, lookupOp, keyT, okRes, mapUpdateOp, zbo, zbp, zbq, zbr, zbs, zbt, zbu, Nat.reduceSub, Nat.reduceAdd, Int.reduceLT, Int.reduceLE, Int.reduceAdd, Int.reduceSub, Int.reduceToNat, Int.reduceBEq, Int.reduceBNe, Int.reduceMul, Nat.reduceBEq, Nat.reduceBNe, Nat.reduceLT, Nat.reduceLeDiff, Nat.reduceMul, Nat.reduceEqDiff, WD, effB, effH, isPriv, isHeap, isImm, zbx, zby, zbz, chkO, setD, dslot, zca, zcb, zcc, zcd, ptrCells_some, F28, hk1]
                  refine ⟨v0.l.length - (k + 1), by omega, k + 1, ?_, by omega, rfl⟩
                  simp only [WN, firstReg, growAll, zbv, zbw, norm, killS, zag, zah, zaa, zab, zbl, zat, zad, growOne, zae, zaf, zac, zas, zak, Nat.reduceLT, Nat.reduceAdd, zbj, zav, F28, hcx, hk1, hts, Bool.true_or]
                  try rfl
                | false =>
                  rw [hb] at hts
                  cases hg : (yy.1 == g) with
                  | false =>
                    rw [hg] at hts
                    simp only [WW, partV, eqCells, eqLf, minV, maxV, ifcV, zaa, zab, zac, zad, zae, zaf, zag, zah, zai, ofConst, ofConst1, List.replicate, zaj, zak, loadOp, Go.Abs.loadCells, binV, zal, pickV, zam, zan, zao, zap, zaq, zar, zas, zat, zau, outR, resAll, resOne, zav, zaw, zax, zay, zaz, zba, zbb, zbc, zbd, zbe, zbf, zbg, zbh, zbi, zbj, zbk, storeOp, storeCell, overlay, zbl, zbm, zbn, lookupOp, keyT, okRes, mapUpdateOp, zbo, zbp, zbq, zbr, zbs, zbt, zbu, Nat.reduceSub, Nat.reduceAdd, Int.reduceLT, Int.reduceLE, Int.reduceAdd, Int.reduceSub, Int.reduceToNat, Int.reduceBEq, Int.reduceBNe, Int.reduceMul, Nat.reduceBEq, Nat.reduceBNe, Nat.reduceLT, Nat.reduceLeDiff, Nat.reduceMul, Nat.reduceEqDiff, WD, effB, effH, isPriv, isHeap, isImm, zbx, zby, zbz, chkO, setD, dslot, zca, zcb, zcc, zcd, ptrCells_some, F28, slAt_sl, hir.1, hir.2, slIn_some, List.getElem?_concat_length, List.getElem?_map, hd', verV, (hrd []).shutIn, hat.at1 (hrd _), hat.cells, hat.fa, depV, hg, hk1]
                    refine ⟨v0.l.length - (k + 1), by omega, k + 1, ?_, by omega, rfl⟩
                    simp only [WN, firstReg, growAll, zbv, zbw, norm, killS, zag, zah, zaa, zab, zbl, zat, zad, growOne, zae, zaf, zac, zas, zak, Nat.reduceLT, Nat.reduceAdd, zbj, zav, F28, hcx, hk1, hts, Bool.false_or, Bool.false_and]
                    try rfl
                  | true =>
                    rw [hg] at hts
                    simp only [WW, partV, eqCells, eqLf, minV, maxV, ifcV, zaa, zab, zac, zad, zae, zaf, zag, zah, zai, ofConst, ofConst1, List.replicate, zaj, zak, loadOp, Go.Abs.loadCells, binV, zal, pickV, zam, zan, zao, zap, zaq, zar, zas, zat, zau, outR, resAll, resOne, zav, zaw, zax, zay, zaz, zba, zbb, zbc, zbd, zbe, zbf, zbg, zbh, zbi, zbj, zbk, storeOp, storeCell, overlay, zbl, zbm, zbn, lookupOp, keyT, okRes, mapUpdateOp, zbo, zbp, zbq, zbr, zbs, zbt, zbu, Nat.reduceSub, Nat.reduceAdd, Int.reduceLT, Int.reduceLE, Int.reduceAdd, Int.reduceSub, Int.reduceToNat, Int.reduceBEq, Int.reduceBNe, Int.reduceMul, Nat.reduceBEq, Nat.reduceBNe, Nat.reduceLT, Nat.reduceLeDiff, Nat.reduceMul, Nat.reduceEqDiff, WD, effB, effH, isPriv, isHeap, isImm, zbx, zby, zbz, chkO, setD, dslot, zca, zcb, zcc, zcd, ptrCells_some, F28, slAt_sl, hir.1, hir.2, slIn_some, List.getElem?_concat_length, List.getElem?_map, hd', verV, (hrd []).shutIn, hat.at1 (hrd _), hat.cells, hat.fa, depV, hg, hk1]
                    refine ⟨v0.l.length - (k + 1), by omega, k + 1, ?_, by omega, rfl⟩
                    simp only [WN, firstReg, growAll, zbv, zbw, norm, killS, zag, zah, zaa, zab, zbl, zat, zad, growOne, zae, zaf, zac, zas, zak, Nat.reduceLT, Nat.reduceAdd, zbj, zav, F28, hcx, hk1, hts, Bool.false_or, Bool.true_and]
                    try rfl
              · have hk2 : k = v0.l.length := by have := of_decide_eq_false hgek; omega
                subst hk2
                rw [List.take_length, ← hpq]
                simp only [hgek]
                have hle := hits_le p l i
                have w1 : ∀ a : Int, wideAll [V.int .i64 a] 1 = true := fun _ => rfl
                have w2 : wideAll (idsV (hits p l i)) 1 = true := wide_ints _
                have w3 : wideAll [V.int .i64 (i : Int)] 1 = true := rfl
                have q1 : ((hits p l i).length == (idsV (hits p l i)).length) = true := by simp [idsV]
                have q2 : decide (((hits p l i).length + 1) * 8 ≤ 70368744177664) = true := by simp; omega
                have q3 : decide ((hits p l i).length ≤ 4611686018427387903) = true := by simp; omega
                cases hok2 : v0.ok with
                | false =>
                  have hh : hit p l i = false := by unfold hit; rw [hd]; simp [hok2]
                  have hus := upd_succ_no p l i hh
                  simp only [WW, partV, eqCells, eqLf, minV, maxV, ifcV, zaa, zab, zac, zad, zae, zaf, zag, zah, zai, ofConst, ofConst1, List.replicate, zaj, zak, loadOp, Go.Abs.loadCells, binV, zal, pickV, zam, zan, zao, zap, zaq, zar, zas, zat, zau, outR, resAll, resOne, zav, zaw, zax, zay, zaz, zba, zbb, zbc, zbd, zbe, zbf, zbg, zbh, zbi, zbj, zbk, storeOp, storeCell, overlay, zbl, zbm, zbn, lookupOp, keyT, okRes, mapUpdateOp, zbo, zbp, zbq, zbr, zbs, zbt, zbu, Nat.reduceSub, Nat.reduceAdd, Int.reduceLT, Int.reduceLE, Int.reduceAdd, Int.reduceSub, Int.reduceToNat, Int.reduceBEq, Int.reduceBNe, Int.reduceMul, Nat.reduceBEq, Nat.reduceBNe, Nat.reduceLT, Nat.reduceLeDiff, Nat.reduceMul, Nat.reduceEqDiff, WD, effB, effH, isPriv, isHeap, isImm, zbx, zby, zbz, chkO, setD, dslot, zca, zcb, zcc, zcd, ptrCells_some, F28, slAt_sl, hir.1, hir.2, slIn_some, List.getElem?_concat_length, List.getElem?_map, hd', verV, hok2, hi1]
                  refine ⟨l.length - (i + 1), by omega, i + 1, ?_, by rw [hus], by omega, rfl⟩
                  rw [hits_succ, hh, if_neg (by simp), List.append_nil]
                  simp only [WN, firstReg, growAll, zbv, zbw, norm, killS, zag, zah, zaa, zab, zbl, zat, zad, growOne, zae, zaf, zac, zas, zak, Nat.reduceLT, Nat.reduceAdd, zbj, zav, F28, hcx, hi1]
                  try rfl
                | true =>
                  cases hpp : p i v0 with
                  | false =>
                    have hh : hit p l i = false := by unfold hit; rw [hd]; simp [hpp]
                    have hus := upd_succ_no p l i hh
                    simp only [WW, partV, eqCells, eqLf, minV, maxV, ifcV, zaa, zab, zac, zad, zae, zaf, zag, zah, zai, ofConst, ofConst1, List.replicate, zaj, zak, loadOp, Go.Abs.loadCells, binV, zal, pickV, zam, zan, zao, zap, zaq, zar, zas, zat, zau, outR, resAll, resOne, zav, zaw, zax, zay, zaz, zba, zbb, zbc, zbd, zbe, zbf, zbg, zbh, zbi, zbj, zbk, storeOp, storeCell, overlay, zbl, zbm, zbn, lookupOp, keyT, okRes, mapUpdateOp, zbo, zbp, zbq, zbr, zbs, zbt, zbu, Nat.reduceSub, Nat.reduceAdd, Int.reduceLT, Int.reduceLE, Int.reduceAdd, Int.reduceSub, Int.reduceToNat, Int.reduceBEq, Int.reduceBNe, Int.reduceMul, Nat.reduceBEq, Nat.reduceBNe, Nat.reduceLT, Nat.reduceLeDiff, Nat.reduceMul, Nat.reduceEqDiff, WD, effB, effH, isPriv, isHeap, isImm, zbx, zby, zbz, chkO, setD, dslot, zca, zcb, zcc, zcd, ptrCells_some, F28, slAt_sl, hir.1, hir.2, slIn_some, List.getElem?_concat_length, List.getElem?_map, hd', verV, hok2, hi1]
                    refine ⟨l.length - (i + 1), by omega, i + 1, ?_, by rw [hus], by omega, rfl⟩
                    rw [hits_succ, hh, if_neg (by simp), List.append_nil]
                    simp only [WN, firstReg, growAll, zbv, zbw, norm, killS, zag, zah, zaa, zab, zbl, zat, zad, growOne, zae, zaf, zac, zas, zak, Nat.reduceLT, Nat.reduceAdd, zbj, zav, F28, hcx, hi1]
                    try rfl
                  | true =>
                    have hh : hit p l i = true := by unfold hit; rw [hd]; simp [hok2, hpp]
                    have hus := upd_succ_yes p l i v0 hd hh
                    simp only [WW, partV, eqCells, eqLf, minV, maxV, ifcV, zaa, zab, zac, zad, zae, zaf, zag, zah, zai, ofConst, ofConst1, List.replicate, zaj, zak, loadOp, Go.Abs.loadCells, binV, zal, pickV, zam, zan, zao, zap, zaq, zar, zas, zat, zau, outR, resAll, resOne, zav, zaw, zax, zay, zaz, zba, zbb, zbc, zbd, zbe, zbf, zbg, zbh, zbi, zbj, zbk, storeOp, storeCell, overlay, zbl, zbm, zbn, lookupOp, keyT, okRes, mapUpdateOp, zbo, zbp, zbq, zbr, zbs, zbt, zbu, Nat.reduceSub, Nat.reduceAdd, Int.reduceLT, Int.reduceLE, Int.reduceAdd, Int.reduceSub, Int.reduceToNat, Int.reduceBEq, Int.reduceBNe, Int.reduceMul, Nat.reduceBEq, Nat.reduceBNe, Nat.reduceLT, Nat.reduceLeDiff, Nat.reduceMul, Nat.reduceEqDiff, WD, effB, effH, isPriv, isHeap, isImm, zbx, zby, zbz, chkO, setD, dslot, zca, zcb, zcc, zcd, ptrCells_some, F28, slAt_sl, hir.1, hir.2, slIn_some, List.getElem?_concat_length, List.getElem?_map, hd', verV, hok2, storeHeap, promote, heapSet, elemSet, buildSliceV, lits, srcV_eq, srcK_sl, srcK_str, srcSl_nils, srcSl_rsl, srcSl_sl, appendOp, frow, zbv, zbw, List.all_nil, List.all_cons, rowV, Bool.false_and, Bool.and_false, ne_eq, not_false_eq_true, grows_lr, callOut_t, w3, w2, q1, q2, q3, hi1]
                    refine ⟨l.length - (i + 1), by omega, i + 1, ?_, ?_, by omega, rfl⟩
                    · rw [hits_succ, hh, if_pos rfl]
                      simp only [WN, firstReg, growAll, zbv, zbw, norm, killS, zag, zah, zaa, zab, zbl, zat, zad, growOne, zae, zaf, zac, zas, zak, Nat.reduceLT, Nat.reduceAdd, zbj, zav, F28, hcx, hi1, idsV, List.map_append, List.length_append, List.length_cons, List.length_nil]
                      try rfl
                    · rw [hus, List.map_set]
                      simp only [set_last]
                      rfl
end Go.Proofs.Ytfjbgmcdkhepkaa

namespace Go.Proofs.Ytfjbgmcdkhepkaa
open Go Go.Abs Go.Proofs
set_option maxRecDepth 100000
set_option maxHeartbeats 8000000
set_option linter.unusedVariables false
set_option linter.unusedSimpArgs false
/-! ### Add, by the document -/
/-- Is a list of what is counted on wrong at one of the first i places? -/
def badAt (gl : Int) (l : List (Int × Int)) (i : Nat) : Bool := match l[i]? with
  | some y => decide (y.1 < 0) || decide (y.1 ≥ gl) || (l.take i).any fun z => z.1 == y.1
  | none => false
def badB (gl : Int) (l : List (Int × Int)) : Bool := (List.range l.length).any (badAt gl l)
theorem snocInd {P : List Int → Prop} (nil : P []) (snoc : ∀ xs y, P xs → P (xs ++ [y])) (xs : List Int) : P xs := by
  have h : ∀ ys : List Int, P ys.reverse := by
    intro ys
    induction ys with
    | nil => exact nil
    | cons y ys ih => rw [List.reverse_cons]; exact snoc _ _ ih
  have := h xs.reverse
  rwa [List.reverse_reverse] at this
theorem dedup_mem (xs : List Int) (x : Int) : x ∈ dedupR xs ↔ x ∈ xs := by
  induction xs using snocInd with
  | nil => simp [dedupR]
  | snoc xs y ih =>
    rw [dedupR_snoc]
    split
    · rename_i h
      rw [ih, List.mem_append]
      constructor
      · exact .inl
      · rintro (h2 | h2)
        · exact h2
        · obtain rfl := List.mem_singleton.1 h2
          exact ih.1 h
    · rw [List.mem_append, List.mem_append, ih]
theorem dedup_len (xs : List Int) : (dedupR xs).length ≤ xs.length := by
  induction xs using snocInd with
  | nil => simp [dedupR]
  | snoc xs y ih => rw [dedupR_snoc]; split <;> simp <;> omega
/-- All are once there just if none stands behind its like. -/
theorem dedup_all (xs : List Int) : (dedupR xs).length = xs.length ↔ ∀ (i : Nat) (x : Int), xs[i]? = some x → x ∉ xs.take i := by
  induction xs using snocInd with
  | nil => simp [dedupR]
  | snoc xs y ih =>
    have hle := dedup_len xs
    rw [dedupR_snoc]
    constructor
    · intro h i x hx
      split at h
      · rw [List.length_append] at h
        simp at h; omega
      · rename_i hy
        rw [List.length_append, List.length_append] at h
        have h2 := ih.1 (by simpa using h)
        by_cases hi : i < xs.length
        · rw [List.getElem?_append_left hi] at hx
          rw [List.take_append_of_le_length (by omega)]
          exact h2 i x hx
        · have hi2 : i = xs.length := by have := (List.getElem?_eq_some_iff.1 hx).1; simp at this; omega
          subst hi2
          simp at hx; subst hx
          rw [List.take_append_of_le_length (by omega), List.take_length]
          exact fun h3 => hy ((dedup_mem _ _).2 h3)
    · intro h
      have h2 := ih.2 (fun i x hx => by
        have hi := (List.getElem?_eq_some_iff.1 hx).1
        have := h i x (by rw [List.getElem?_append_left hi]; exact hx)
        rwa [List.take_append_of_le_length (by omega)] at this)
      have hy := h xs.length y (by simp)
      rw [List.take_append_of_le_length (by omega), List.take_length] at hy
      rw [if_neg (fun h3 => hy ((dedup_mem _ _).1 h3)), List.length_append, List.length_append, h2]
theorem bad_eq (gl : Int) (l : List (Int × Int)) : badB gl l = ((l.any fun y => decide (y.1 < 0) || decide (y.1 ≥ gl)) || !decide ((dedupR (l.map (·.1))).length = l.length)) := by
  have hlen : (l.map (·.1)).length = l.length := by simp
  rw [Bool.eq_iff_iff]
  simp only [badB, List.any_eq_true, List.mem_range, Bool.or_eq_true, Bool.not_eq_true', decide_eq_false_iff_not]
  have hd := dedup_all (l.map (·.1))
  rw [hlen] at hd
  constructor
  · rintro ⟨i, hi, h⟩
    have hy : l[i]? = some l[i] := List.getElem?_eq_getElem hi
    unfold badAt at h
    rw [hy] at h
    simp only [Bool.or_eq_true, List.any_eq_true] at h
    rcases h with h | ⟨z, hz, hzy⟩
    · exact .inl ⟨l[i], List.getElem_mem hi, by simpa using h⟩
    · refine .inr fun e => ?_
      have := hd.1 e i l[i].1 (by rw [List.getElem?_map, hy]; rfl)
      apply this
      rw [← List.map_take]
      exact List.mem_map.2 ⟨z, hz, by simpa using hzy⟩
  · intro h
    by_cases hr : l.any (fun y => decide (y.1 < 0) || decide (y.1 ≥ gl)) = true
    · rw [List.any_eq_true] at hr
      obtain ⟨y, hy, h2⟩ := hr
      obtain ⟨i, hi, rfl⟩ := List.getElem_of_mem hy
      refine ⟨i, hi, ?_⟩
      unfold badAt
      rw [List.getElem?_eq_getElem hi]
      simp only [Bool.or_eq_true]
      exact .inl (by simpa using h2)
    · have hne : ¬ (dedupR (l.map (·.1))).length = l.length := by
        rcases h with ⟨y, hy, h2⟩ | h
        · exact absurd (List.any_eq_true.2 ⟨y, hy, by simpa using h2⟩) hr
        · exact h
      have : ¬ ∀ (i : Nat) (x : Int), (l.map (·.1))[i]? = some x → x ∉ (l.map (·.1)).take i := fun h => hne (hd.2 h)
      simp only [Classical.not_forall, Decidable.not_not] at this
      obtain ⟨i, x, hx, hm⟩ := this
      rw [List.getElem?_map] at hx
      cases hy : l[i]? with
      | none => rw [hy] at hx; cases hx
      | some y =>
        rw [hy] at hx; cases hx
        refine ⟨i, (List.getElem?_eq_some_iff.1 hy).1, ?_⟩
        unfold badAt
        rw [hy]
        simp only [Bool.or_eq_true, List.any_eq_true]
        rw [← List.map_take] at hm
        obtain ⟨z, hz, e⟩ := List.mem_map.1 hm
        exact .inr ⟨z, hz, by simpa using e⟩
end Go.Proofs.Ytfjbgmcdkhepkaa

namespace Go.Proofs.Ytfjbgmcdkhepkaa
open Go Go.Abs Go.Proofs
set_option maxRecDepth 100000
set_option maxHeartbeats 8000000
set_option linter.unusedVariables false
set_option linter.unusedSimpArgs false
def rErr (fu gl : Int) (l : List Ver) (f : Int) (al : List (Int × Int)) : Int := if f < 0 ∨ fu ≤ f ∨ badB gl al = true then 1 else if 0 ≤ lastR l f then 7 else if 4 ≤ cntR l f then 3 else 0
theorem badB_at {gl : Int} {al : List (Int × Int)} {i : Nat} (h : badAt gl al i = true) : badB gl al = true := by
  unfold badB
  rw [List.any_eq_true]
  refine ⟨i, List.mem_range.2 ?_, h⟩
  unfold badAt at h
  cases hy : al[i]? with
  | none => rw [hy] at h; cases h
  | some y => exact (List.getElem?_eq_some_iff.1 hy).1
theorem radd_eq {H : Hp} {x : V} {l : List Ver} (hx : Sx H x (l.map verV)) (hl : l.length < 4294967296) {ax : V} {al : List (Int × Int)} (ha : Sx H ax (al.map depV)) (hal : al.length < 4294967296) (fu gl f : Int) :
    wpCall EW 27 [refV fu gl x, .int .i64 f, ax] H (fun out H' => H' = H ∧ out = if rErr fu gl l f al ≠ 0 then .ret (.tup [refV fu gl x, .int .i64 0, .int .i64 (rErr fu gl l f al)]) false
      else .ret (.tup [refV fu gl (.rsl ((l ++ [(⟨0, f, .rsl (al.map depV), al, true⟩ : Ver)]).map verV)), .int .i64 l.length, .int .i64 0]) false) := by
  have hr := hx.rd
  have hc1 := hr.cells1
  have hok := hr.ok
  have hcx : ∀ n, clipV n x = x := hr.clip
  have har := ha.rd
  have hci : ∀ (n : Nat) (k : IntKind) (m : Int), clipV n (.int k m) = .int k m := fun _ _ _ => rfl
  refine runs f27 b27 r27 n27 _ _ ?_
  simp only [refV]
  simp only [bodyOf, Try.f27, Option.getD_some]
  by_cases h0 : f < 0
  · have g0 : decide (f < 0) = true := decide_eq_true h0
    have he : rErr fu gl l f al = 1 := by unfold rErr; rw [if_pos (.inl h0)]
    simp only [WW, partV, eqCells, eqLf, minV, maxV, ifcV, zaa, zab, zac, zad, zae, zaf, zag, zah, zai, ofConst, ofConst1, List.replicate, zaj, zak, loadOp, Go.Abs.loadCells, binV, zal, pickV, zam, zan, zao, zap, zaq, zar, zas, zat, zau, outR, resAll, resOne, zav, zaw, zax, zay, zaz, zba, zbb, zbc, zbd, zbe, zbf, zbg, zbh, zbi, zbj, zbk, storeOp, storeCell, overlay, zbl, zbm, zbn, lookupOp, keyT, okRes, mapUpdateOp, zbo, zbp, zbq, zbr, zbs, zbt, zbu, Nat.reduceSub, Nat.reduceAdd, Int.reduceLT, Int.reduceLE, Int.reduceAdd, Int.reduceSub, Int.reduceToNat, Int.reduceBEq, Int.reduceBNe, Int.reduceMul, Nat.reduceBEq, Nat.reduceBNe, Nat.reduceLT, Nat.reduceLeDiff, Nat.reduceMul, Nat.reduceEqDiff, WD, effB, effH, isPriv, isHeap, isImm, zbx, zby, zbz, chkO, setD, dslot, zca, zcb, zcc, zcd, ptrCells_some, F27, g0, hr.shutIn]
    rw [he]; first | exact ⟨rfl, rfl⟩ | exact ⟨trivial, rfl⟩ | rfl | simp
  · have g0 : decide (f < 0) = false := decide_eq_false h0
    by_cases h1 : fu ≤ f
    · have g1 : decide (fu ≤ f) = true := decide_eq_true h1
      have he : rErr fu gl l f al = 1 := by unfold rErr; rw [if_pos (.inr (.inl h1))]
      simp only [WW, partV, eqCells, eqLf, minV, maxV, ifcV, zaa, zab, zac, zad, zae, zaf, zag, zah, zai, ofConst, ofConst1, List.replicate, zaj, zak, loadOp, Go.Abs.loadCells, binV, zal, pickV, zam, zan, zao, zap, zaq, zar, zas, zat, zau, outR, resAll, resOne, zav, zaw, zax, zay, zaz, zba, zbb, zbc, zbd, zbe, zbf, zbg, zbh, zbi, zbj, zbk, storeOp, storeCell, overlay, zbl, zbm, zbn, lookupOp, keyT, okRes, mapUpdateOp, zbo, zbp, zbq, zbr, zbs, zbt, zbu, Nat.reduceSub, Nat.reduceAdd, Int.reduceLT, Int.reduceLE, Int.reduceAdd, Int.reduceSub, Int.reduceToNat, Int.reduceBEq, Int.reduceBNe, Int.reduceMul, Nat.reduceBEq, Nat.reduceBNe, Nat.reduceLT, Nat.reduceLeDiff, Nat.reduceMul, Nat.reduceEqDiff, WD, effB, effH, isPriv, isHeap, isImm, zbx, zby, zbz, chkO, setD, dslot, zca, zcb, zcc, zcd, ptrCells_some, F27, g0, g1, hr.shutIn]
      rw [he]; first | exact ⟨rfl, rfl⟩ | exact ⟨trivial, rfl⟩ | rfl | simp
    · have g1 : decide (fu ≤ f) = false := decide_eq_false h1
      simp only [WW, partV, eqCells, eqLf, minV, maxV, ifcV, zaa, zab, zac, zad, zae, zaf, zag, zah, zai, ofConst, ofConst1, List.replicate, zaj, zak, loadOp, Go.Abs.loadCells, binV, zal, pickV, zam, zan, zao, zap, zaq, zar, zas, zat, zau, outR, resAll, resOne, zav, zaw, zax, zay, zaz, zba, zbb, zbc, zbd, zbe, zbf, zbg, zbh, zbi, zbj, zbk, storeOp, storeCell, overlay, zbl, zbm, zbn, lookupOp, keyT, okRes, mapUpdateOp, zbo, zbp, zbq, zbr, zbs, zbt, zbu, Nat.reduceSub, Nat.reduceAdd, Int.reduceLT, Int.reduceLE, Int.reduceAdd, Int.reduceSub, Int.reduceToNat, Int.reduceBEq, Int.reduceBNe, Int.reduceMul, Nat.reduceBEq, Nat.reduceBNe, Nat.reduceLT, Nat.reduceLeDiff, Nat.reduceMul, Nat.reduceEqDiff, WD, effB, effH, isPriv, isHeap, isImm, zbx, zby, zbz, chkO, setD, dslot, zca, zcb, zcc, zcd, ptrCells_some, F27, g0, g1, hr.shutIn]
      refine wC_loop _ (fun n st H' => ∃ i : Nat, st = ⟨L27_4 (.v (.int .i64 f)) (.v ax) (.box 0) (.box 1) (.v (.int .i64 (i : Int))), [[.int .i64 fu, .int .i64 gl, x], [.int .i64 0, .int .i64 0, .nils]], []⟩ ∧ H' = H ∧ (∀ j, j < i → badAt gl al j = false) ∧ i ≤ al.length ∧ n = al.length - i) al.length ⟨0, ?_, rfl, fun j hj => by omega, by omega, rfl⟩ ?_
      · simp only [WN, firstReg, growAll, zbv, zbw, norm, killS, zag, zah, zaa, zab, zbl, zat, zad, growOne, zae, zaf, zac, zas, zak, Nat.reduceLT, Nat.reduceAdd, zbj, zav, F27, L27_4, hcx, har.clip2]
        try rfl
      · rintro n st H' ⟨i, rfl, rfl, hno, hi, rfl⟩
        simp only [L27_4]
        simp only [WW, partV, eqCells, eqLf, minV, maxV, ifcV, zaa, zab, zac, zad, zae, zaf, zag, zah, zai, ofConst, ofConst1, List.replicate, zaj, zak, loadOp, Go.Abs.loadCells, binV, zal, pickV, zam, zan, zao, zap, zaq, zar, zas, zat, zau, outR, resAll, resOne, zav, zaw, zax, zay, zaz, zba, zbb, zbc, zbd, zbe, zbf, zbg, zbh, zbi, zbj, zbk, storeOp, storeCell, overlay, zbl, zbm, zbn, lookupOp, keyT, okRes, mapUpdateOp, zbo, zbp, zbq, zbr, zbs, zbt, zbu, Nat.reduceSub, Nat.reduceAdd, Int.reduceLT, Int.reduceLE, Int.reduceAdd, Int.reduceSub, Int.reduceToNat, Int.reduceBEq, Int.reduceBNe, Int.reduceMul, Nat.reduceBEq, Nat.reduceBNe, Nat.reduceLT, Nat.reduceLeDiff, Nat.reduceMul, Nat.reduceEqDiff, WD, effB, effH, isPriv, isHeap, isImm, zbx, zby, zbz, chkO, setD, dslot, zca, zcb, zcc, zcd, ptrCells_some, F27, har.shutIn, har.len]
        refine cSplit (fun hlt => ?_) (fun hge => ?_)
        · have hi2 : i < al.length := by have := of_decide_eq_true hlt; omega
          have hy : al[i]? = some al[i] := List.getElem?_eq_getElem hi2
          generalize al[i] = y at hy
          have hat := depAt har hy
          have hi1 : IntKind.i64.wrap ((i : Int) + 1) = ((i + 1 : Nat) : Int) := by rw [IntWalk.i64_in _ (by omega)]; omega
          have hba : badAt gl al i = (decide (y.1 < 0) || decide (y.1 ≥ gl) || (al.take i).any fun z => z.1 == y.1) := by unfold badAt; rw [hy]
          have hone : badAt gl al i = true → rErr fu gl l f al = 1 := fun h => by unfold rErr; rw [if_pos (.inr (.inr (badB_at h)))]
          simp only [hlt]
          simp only [WW, partV, eqCells, eqLf, minV, maxV, ifcV, zaa, zab, zac, zad, zae, zaf, zag, zah, zai, ofConst, ofConst1, List.replicate, zaj, zak, loadOp, Go.Abs.loadCells, binV, zal, pickV, zam, zan, zao, zap, zaq, zar, zas, zat, zau, outR, resAll, resOne, zav, zaw, zax, zay, zaz, zba, zbb, zbc, zbd, zbe, zbf, zbg, zbh, zbi, zbj, zbk, storeOp, storeCell, overlay, zbl, zbm, zbn, lookupOp, keyT, okRes, mapUpdateOp, zbo, zbp, zbq, zbr, zbs, zbt, zbu, Nat.reduceSub, Nat.reduceAdd, Int.reduceLT, Int.reduceLE, Int.reduceAdd, Int.reduceSub, Int.reduceToNat, Int.reduceBEq, Int.reduceBNe, Int.reduceMul, Nat.reduceBEq, Nat.reduceBNe, Nat.reduceLT, Nat.reduceLeDiff, Nat.reduceMul, Nat.reduceEqDiff, WD, effB, effH, isPriv, isHeap, isImm, zbx, zby, zbz, chkO, setD, dslot, zca, zcb, zcc, zcd, ptrCells_some, F27]
          refine wC_dr alts27_6 (by kernel_rfl) ?_
          cases k1 : decide (y.1 < 0) with
          | true =>
            have he := hone (by rw [hba, k1]; rfl)
            simp only [WW, partV, eqCells, eqLf, minV, maxV, ifcV, zaa, zab, zac, zad, zae, zaf, zag, zah, zai, ofConst, ofConst1, List.replicate, zaj, zak, loadOp, Go.Abs.loadCells, binV, zal, pickV, zam, zan, zao, zap, zaq, zar, zas, zat, zau, outR, resAll, resOne, zav, zaw, zax, zay, zaz, zba, zbb, zbc, zbd, zbe, zbf, zbg, zbh, zbi, zbj, zbk, storeOp, storeCell, overlay, zbl, zbm, zbn, lookupOp, keyT, okRes, mapUpdateOp, zbo, zbp, zbq, zbr, zbs, zbt, zbu, Nat.reduceSub, Nat.reduceAdd, Int.reduceLT, Int.reduceLE, Int.reduceAdd, Int.reduceSub, Int.reduceToNat, Int.reduceBEq, Int.reduceBNe, Int.reduceMul, Nat.reduceBEq, Nat.reduceBNe, Nat.reduceLT, Nat.reduceLeDiff, Nat.reduceMul, Nat.reduceEqDiff, WD, effB, effH, isPriv, isHeap, isImm, zbx, zby, zbz, chkO, setD, dslot, zca, zcb, zcc, zcd, ptrCells_some, F27, har.shutIn, hat.at1 har, hat.cells, hat.fa, depV, k1, alts27_6]
            simp only [WW, partV, eqCells, eqLf, minV, maxV, ifcV, zaa, zab, zac, zad, zae, zaf, zag, zah, zai, ofConst, ofConst1, List.replicate, zaj, zak, loadOp, Go.Abs.loadCells, binV, zal, pickV, zam, zan, zao, zap, zaq, zar, zas, zat, zau, outR, resAll, resOne, zav, zaw, zax, zay, zaz, zba, zbb, zbc, zbd, zbe, zbf, zbg, zbh, zbi, zbj, zbk, storeOp, storeCell, overlay, zbl, zbm, zbn, lookupOp, keyT, okRes, mapUpdateOp, zbo, zbp, zbq, zbr, zbs, zbt, zbu, Nat.reduceSub, Nat.reduceAdd, Int.reduceLT, Int.reduceLE, Int.reduceAdd, Int.reduceSub, Int.reduceToNat, Int.reduceBEq, Int.reduceBNe, Int.reduceMul, Nat.reduceBEq, Nat.reduceBNe, Nat.reduceLT, Nat.reduceLeDiff, Nat.reduceMul, Nat.reduceEqDiff, WD, effB, effH, isPriv, isHeap, isImm, zbx, zby, zbz, chkO, setD, dslot, zca, zcb, zcc, zcd, ptrCells_some, F27, hr.shutIn]
            rw [he]; first | exact ⟨rfl, rfl⟩ | exact ⟨trivial, rfl⟩ | rfl | simp
          | false =>
            cases k2 : decide (gl ≤ y.1) with
            | true =>
              have he := hone (by rw [hba, k1]; simp [of_decide_eq_true k2])
              simp only [WW, partV, eqCells, eqLf, minV, maxV, ifcV, zaa, zab, zac, zad, zae, zaf, zag, zah, zai, ofConst, ofConst1, List.replicate, zaj, zak, loadOp, Go.Abs.loadCells, binV, zal, pickV, zam, zan, zao, zap, zaq, zar, zas, zat, zau, outR, resAll, resOne, zav, zaw, zax, zay, zaz, zba, zbb, zbc, zbd, zbe, zbf, zbg, zbh, zbi, zbj, zbk, storeOp, storeCell, overlay, zbl, zbm, zbn, lookupOp, keyT, okRes, mapUpdateOp, zbo, zbp, zbq, zbr, zbs, zbt, zbu, Nat.reduceSub, Nat.reduceAdd, Int.reduceLT, Int.reduceLE, Int.reduceAdd, Int.reduceSub, Int.reduceToNat, Int.reduceBEq, Int.reduceBNe, Int.reduceMul, Nat.reduceBEq, Nat.reduceBNe, Nat.reduceLT, Nat.reduceLeDiff, Nat.reduceMul, Nat.reduceEqDiff, WD, effB, effH, isPriv, isHeap, isImm, zbx, zby, zbz, chkO, setD, dslot, zca, zcb, zcc, zcd, ptrCells_some, F27, har.shutIn, hat.at1 har, hat.cells, hat.fa, depV, k1, k2, alts27_6]
              simp only [WW, partV, eqCells, eqLf, minV, maxV, ifcV, zaa, zab, zac, zad, zae, zaf, zag, zah, zai, ofConst, ofConst1, List.replicate, zaj, zak, loadOp, Go.Abs.loadCells, binV, zal, pickV, zam, zan, zao, zap, zaq, zar, zas, zat, zau, outR, resAll, resOne, zav, zaw, zax, zay, zaz, zba, zbb, zbc, zbd, zbe, zbf, zbg, zbh, zbi, zbj, zbk, storeOp, storeCell, overlay, zbl, zbm, zbn, lookupOp, keyT, okRes, mapUpdateOp, zbo, zbp, zbq, zbr, zbs, zbt, zbu, Nat.reduceSub, Nat.reduceAdd, Int.reduceLT, Int.reduceLE, Int.reduceAdd, Int.reduceSub, Int.reduceToNat, Int.reduceBEq, Int.reduceBNe, Int.reduceMul, Nat.reduceBEq, Nat.reduceBNe, Nat.reduceLT, Nat.reduceLeDiff, Nat.reduceMul, Nat.reduceEqDiff, WD, effB, effH, isPriv, isHeap, isImm, zbx, zby, zbz, chkO, setD, dslot, zca, zcb, zcc, zcd, ptrCells_some, F27, hr.shutIn]
              rw [he]; first | exact ⟨rfl, rfl⟩ | exact ⟨trivial, rfl⟩ | rfl | simp
            | false =>
              simp only [WW, partV, eqCells, eqLf, minV, maxV, ifcV, zaa, zab, zac, zad, zae, zaf, zag, zah, zai, ofConst, ofConst1, List.replicate, zaj, zak, loadOp, Go.Abs.loadCells, binV, zal, pickV, zam, zan, zao, zap, zaq, zar, zas, zat, zau, outR, resAll, resOne, zav, zaw, zax, zay, zaz, zba, zbb, zbc, zbd, zbe, zbf, zbg, zbh, zbi, zbj, zbk, storeOp, storeCell, overlay, zbl, zbm, zbn, lookupOp, keyT, okRes, mapUpdateOp, zbo, zbp, zbq, zbr, zbs, zbt, zbu, Nat.reduceSub, Nat.reduceAdd, Int.reduceLT, Int.reduceLE, Int.reduceAdd, Int.reduceSub, Int.reduceToNat, Int.reduceBEq, Int.reduceBNe, Int.reduceMul, Nat.reduceBEq, Nat.reduceBNe, Nat.reduceLT, Nat.reduceLeDiff, Nat.reduceMul, Nat.reduceEqDiff, WD, effB, effH, isPriv, isHeap, isImm, zbx, zby, zbz, chkO, setD, dslot, zca, zcb, zcc, zcd, ptrCells_some, F27, har.shutIn, hat.at1 har, hat.cells, hat.fa, depV, k1, k2, alts27_6]
              refine wC_loop _ (fun n st H2 => ∃ k : Nat, st = ⟨L27_9 (.v (.int .i64 f)) (.v ax) (.box 0) (.box 1) (.v (.int .i64 (i : Int))) (.v (.int .i64 (k : Int))), [[.int .i64 fu, .int .i64 gl, x], [.int .i64 0, .int .i64 0, .nils]], []⟩ ∧ H2 = H' ∧ (∀ (j : Nat) z, j < k → al[j]? = some z → z.1 ≠ y.1) ∧ k ≤ i ∧ n = i - k) i ⟨0, ?_, rfl, fun j z hj => by omega, by omega, rfl⟩ ?_
              · simp only [WN, firstReg, growAll, zbv, zbw, norm, killS, zag, zah, zaa, zab, zbl, zat, zad, growOne, zae, zaf, zac, zas, zak, Nat.reduceLT, Nat.reduceAdd, zbj, zav, F27, L27_9, hcx, har.clip2]
                try rfl
              · rintro n st H' ⟨k, rfl, rfl, hnk, hk, rfl⟩
                simp only [L27_9]
                simp only [WW, partV, eqCells, eqLf, minV, maxV, ifcV, zaa, zab, zac, zad, zae, zaf, zag, zah, zai, ofConst, ofConst1, List.replicate, zaj, zak, loadOp, Go.Abs.loadCells, binV, zal, pickV, zam, zan, zao, zap, zaq, zar, zas, zat, zau, outR, resAll, resOne, zav, zaw, zax, zay, zaz, zba, zbb, zbc, zbd, zbe, zbf, zbg, zbh, zbi, zbj, zbk, storeOp, storeCell, overlay, zbl, zbm, zbn, lookupOp, keyT, okRes, mapUpdateOp, zbo, zbp, zbq, zbr, zbs, zbt, zbu, Nat.reduceSub, Nat.reduceAdd, Int.reduceLT, Int.reduceLE, Int.reduceAdd, Int.reduceSub, Int.reduceToNat, Int.reduceBEq, Int.reduceBNe, Int.reduceMul, Nat.reduceBEq, Nat.reduceBNe, Nat.reduceLT, Nat.reduceLeDiff, Nat.reduceMul, Nat.reduceEqDiff, WD, effB, effH, isPriv, isHeap, isImm, zbx, zby, zbz, chkO, setD, dslot, zca, zcb, zcc, zcd, ptrCells_some, F27]
                refine cSplit (fun hltk => ?_) (fun hgek => ?_)
                · have hk2 : k < i := by have := of_decide_eq_true hltk; omega
                  have hz : al[k]? = some (al[k]'(by omega)) := List.getElem?_eq_getElem _
                  generalize al[k]'_ = z at hz
                  have hbt := depAt har hz
                  have hk1 : IntKind.i64.wrap ((k : Int) + 1) = ((k + 1 : Nat) : Int) := by rw [IntWalk.i64_in _ (by omega)]; omega
                  simp only [hltk]
                  simp only [WW, partV, eqCells, eqLf, minV, maxV, ifcV, zaa, zab, zac, zad, zae, zaf, zag, zah, zai, ofConst, ofConst1, List.replicate, zaj, zak, loadOp, Go.Abs.loadCells, binV, zal, pickV, zam, zan, zao, zap, zaq, zar, zas, zat, zau, outR, resAll, resOne, zav, zaw, zax, zay, zaz, zba, zbb, zbc, zbd, zbe, zbf, zbg, zbh, zbi, zbj, zbk, storeOp, storeCell, overlay, zbl, zbm, zbn, lookupOp, keyT, okRes, mapUpdateOp, zbo, zbp, zbq, zbr, zbs, zbt, zbu, Nat.reduceSub, Nat.reduceAdd, Int.reduceLT, Int.reduceLE, Int.reduceAdd, Int.reduceSub, Int.reduceToNat, Int.reduceBEq, Int.reduceBNe, Int.reduceMul, Nat.reduceBEq, Nat.reduceBNe, Nat.reduceLT, Nat.reduceLeDiff, Nat.reduceMul, Nat.reduceEqDiff, WD, effB, effH, isPriv, isHeap, isImm, zbx, zby, zbz, chkO, setD, dslot, zca, zcb, zcc, zcd, ptrCells_some, F27]
                  refine wC_dr alts27_11 (by kernel_rfl) ?_
                  cases hzy : (z.1 == y.1) with
                  | true =>
                    have he := hone (by
                      rw [hba, k1]
                      have : (al.take i).any (fun z => z.1 == y.1) = true := by
                        rw [List.any_eq_true]
                        exact ⟨z, List.mem_of_getElem? (i := k) (by rw [List.getElem?_take, if_pos hk2]; exact hz), hzy⟩
                      rw [this]; simp)
                    simp only [WW, partV, eqCells, eqLf, minV, maxV, ifcV, zaa, zab, zac, zad, zae, zaf, zag, zah, zai, ofConst, ofConst1, List.replicate, zaj, zak, loadOp, Go.Abs.loadCells, binV, zal, pickV, zam, zan, zao, zap, zaq, zar, zas, zat, zau, outR, resAll, resOne, zav, zaw, zax, zay, zaz, zba, zbb, zbc, zbd, zbe, zbf, zbg, zbh, zbi, zbj, zbk, storeOp, storeCell, overlay, zbl, zbm, zbn, lookupOp, keyT, okRes, mapUpdateOp, zbo, zbp, zbq, zbr, zbs, zbt, zbu, Nat.reduceSub, Nat.reduceAdd, Int.reduceLT, Int.reduceLE, Int.reduceAdd, Int.reduceSub, Int.reduceToNat, Int.reduceBEq, Int.reduceBNe, Int.reduceMul, Nat.reduceBEq, Nat.reduceBNe, Nat.reduceLT, Nat.reduceLeDiff, Nat.reduceMul, Nat.reduceEqDiff, WD, effB, effH, isPriv, isHeap, isImm, zbx, zby, zbz, chkO, setD, dslot, zca, zcb, zcc, zcd, ptrCells_some, F27, har.shutIn, hat.at1 har, hat.cells, hat.fa, hbt.at1 har, hbt.cells, hbt.fa, depV, hzy, alts27_11]
                    simp only [WW, partV, eqCells, eqLf, minV, maxV, ifcV, zaa, zab, zac, zad, zae, zaf, zag, zah, zai, ofConst, ofConst1, List.replicate, zaj, zak, loadOp, Go.Abs.loadCells, binV, zal, pickV, zam, zan, zao, zap, zaq, zar, zas, zat, zau, outR, resAll, resOne, zav, zaw, zax, zay, zaz, zba, zbb, zbc, zbd, zbe, zbf, zbg, zbh, zbi, zbj, zbk, storeOp, storeCell, overlay, zbl, zbm, zbn, lookupOp, keyT, okRes, mapUpdateOp, zbo, zbp, zbq, zbr, zbs, zbt, zbu, Nat.reduceSub, Nat.reduceAdd, Int.reduceLT, Int.reduceLE, Int.reduceAdd, Int.reduceSub, Int.reduceToNat, Int.reduceBEq, Int.reduceBNe, Int.reduceMul, Nat.reduceBEq, Nat.reduceBNe, Nat.reduceLT, Nat.reduceLeDiff, Nat.reduceMul, Nat.reduceEqDiff, WD, effB, effH, isPriv, isHeap, isImm, zbx, zby, zbz, chkO, setD, dslot, zca, zcb, zcc, zcd, ptrCells_some, F27, hr.shutIn]
                    rw [he]; first | exact ⟨rfl, rfl⟩ | exact ⟨trivial, rfl⟩ | rfl | simp
                  | false =>
                    simp only [WW, partV, eqCells, eqLf, minV, maxV, ifcV, zaa, zab, zac, zad, zae, zaf, zag, zah, zai, ofConst, ofConst1, List.replicate, zaj, zak, loadOp, Go.Abs.loadCells, binV, zal, pickV, zam, zan, zao, zap, zaq, zar, zas, zat, zau, outR, resAll, resOne, zav, zaw, zax, zay, zaz, zba, zbb, zbc, zbd, zbe, zbf, zbg, zbh, zbi, zbj, zbk, storeOp, storeCell, overlay, zbl, zbm, zbn, lookupOp, keyT, okRes, mapUpdateOp, zbo, zbp, zbq, zbr, zbs, zbt, zbu, Nat.reduceSub, Nat.reduceAdd, Int.reduceLT, Int.reduceLE, Int.reduceAdd, Int.reduceSub, Int.reduceToNat, Int.reduceBEq, Int.reduceBNe, Int.reduceMul, Nat.reduceBEq, Nat.reduceBNe, Nat.reduceLT, Nat.reduceLeDiff, Nat.reduceMul, Nat.reduceEqDiff, WD, effB, effH, isPriv, isHeap, isImm, zbx, zby, zbz, chkO, setD, dslot, zca, zcb, zcc, zcd, ptrCells_some, F27, har.shutIn, hat.at1 har, hat.cells, hat.fa, hbt.at1 har, hbt.cells, hbt.fa, depV, hzy, alts27_11, hk1]
                    refine ⟨i - (k + 1), by omega, k + 1, ?_, fun j z' hj hz' => ?_, by omega, rfl⟩
                    · simp only [WN, firstReg, growAll, zbv, zbw, norm, killS, zag, zah, zaa, zab, zbl, zat, zad, growOne, zae, zaf, zac, zas, zak, Nat.reduceLT, Nat.reduceAdd, zbj, zav, F27, hcx, har.clip2, hk1]
                      try rfl
                    · by_cases e : j = k
                      · subst e; rw [hz] at hz'; cases hz'; simpa using hzy
                      · exact hnk j z' (by omega) hz'
                · have hk2 : k = i := by have := of_decide_eq_false hgek; omega
                  subst hk2
                  simp only [hgek]
                  simp only [WW, partV, eqCells, eqLf, minV, maxV, ifcV, zaa, zab, zac, zad, zae, zaf, zag, zah, zai, ofConst, ofConst1, List.replicate, zaj, zak, loadOp, Go.Abs.loadCells, binV, zal, pickV, zam, zan, zao, zap, zaq, zar, zas, zat, zau, outR, resAll, resOne, zav, zaw, zax, zay, zaz, zba, zbb, zbc, zbd, zbe, zbf, zbg, zbh, zbi, zbj, zbk, storeOp, storeCell, overlay, zbl, zbm, zbn, lookupOp, keyT, okRes, mapUpdateOp, zbo, zbp, zbq, zbr, zbs, zbt, zbu, Nat.reduceSub, Nat.reduceAdd, Int.reduceLT, Int.reduceLE, Int.reduceAdd, Int.reduceSub, Int.reduceToNat, Int.reduceBEq, Int.reduceBNe, Int.reduceMul, Nat.reduceBEq, Nat.reduceBNe, Nat.reduceLT, Nat.reduceLeDiff, Nat.reduceMul, Nat.reduceEqDiff, WD, effB, effH, isPriv, isHeap, isImm, zbx, zby, zbz, chkO, setD, dslot, zca, zcb, zcc, zcd, ptrCells_some, F27, hi1]
                  refine ⟨al.length - (k + 1), by omega, k + 1, ?_, fun j hj => ?_, by omega, rfl⟩
                  · simp only [WN, firstReg, growAll, zbv, zbw, norm, killS, zag, zah, zaa, zab, zbl, zat, zad, growOne, zae, zaf, zac, zas, zak, Nat.reduceLT, Nat.reduceAdd, zbj, zav, F27, hcx, har.clip2, hi1]
                    try rfl
                  · by_cases e : j = k
                    · subst e
                      rw [hba, k1]
                      have hk2' : ¬ y.1 ≥ gl := by have := of_decide_eq_false k2; omega
                      have : (al.take j).any (fun z => z.1 == y.1) = false := by
                        rw [List.any_eq_false]
                        intro z hz
                        obtain ⟨m, hm, e⟩ := List.getElem_of_mem hz
                        rw [List.length_take] at hm
                        have := hnk m z (by omega) (by rw [← e, List.getElem_take]; exact List.getElem?_eq_getElem _)
                        simpa using this
                      rw [this]; simp [hk2']
                    · exact hno j (by omega)
        · have hi2 : i = al.length := by have := of_decide_eq_false hge; omega
          subst hi2
          have hbB : badB gl al = false := by
            unfold badB
            rw [List.any_eq_false]
            intro j hj
            rw [hno j (List.mem_range.1 hj)]; simp
          have hn1 : ¬ (f < 0 ∨ fu ≤ f ∨ badB gl al = true) := by rw [hbB]; simp; omega
          have hrv := rversions_eq hr hl fu gl f
          simp only [refV] at hrv
          simp only [hge]
          simp only [WW, partV, eqCells, eqLf, minV, maxV, ifcV, zaa, zab, zac, zad, zae, zaf, zag, zah, zai, ofConst, ofConst1, List.replicate, zaj, zak, loadOp, Go.Abs.loadCells, binV, zal, pickV, zam, zan, zao, zap, zaq, zar, zas, zat, zau, outR, resAll, resOne, zav, zaw, zax, zay, zaz, zba, zbb, zbc, zbd, zbe, zbf, zbg, zbh, zbi, zbj, zbk, storeOp, storeCell, overlay, zbl, zbm, zbn, lookupOp, keyT, okRes, mapUpdateOp, zbo, zbp, zbq, zbr, zbs, zbt, zbu, Nat.reduceSub, Nat.reduceAdd, Int.reduceLT, Int.reduceLE, Int.reduceAdd, Int.reduceSub, Int.reduceToNat, Int.reduceBEq, Int.reduceBNe, Int.reduceMul, Nat.reduceBEq, Nat.reduceBNe, Nat.reduceLT, Nat.reduceLeDiff, Nat.reduceMul, Nat.reduceEqDiff, WD, effB, effH, isPriv, isHeap, isImm, zbx, zby, zbz, chkO, setD, dslot, zca, zcb, zcc, zcd, ptrCells_some, F27, hr.shutIn]
          rw [wpCall_eq hrv]
          by_cases h7 : 0 ≤ lastR l f
          · have g7 : decide (0 ≤ lastR l f) = true := decide_eq_true h7
            have he : rErr fu gl l f al = 7 := by unfold rErr; rw [if_neg hn1, if_pos h7]
            simp only [WW, partV, eqCells, eqLf, minV, maxV, ifcV, zaa, zab, zac, zad, zae, zaf, zag, zah, zai, ofConst, ofConst1, List.replicate, zaj, zak, loadOp, Go.Abs.loadCells, binV, zal, pickV, zam, zan, zao, zap, zaq, zar, zas, zat, zau, outR, resAll, resOne, zav, zaw, zax, zay, zaz, zba, zbb, zbc, zbd, zbe, zbf, zbg, zbh, zbi, zbj, zbk, storeOp, storeCell, overlay, zbl, zbm, zbn, lookupOp, keyT, okRes, mapUpdateOp, zbo, zbp, zbq, zbr, zbs, zbt, zbu, Nat.reduceSub, Nat.reduceAdd, Int.reduceLT, Int.reduceLE, Int.reduceAdd, Int.reduceSub, Int.reduceToNat, Int.reduceBEq, Int.reduceBNe, Int.reduceMul, Nat.reduceBEq, Nat.reduceBNe, Nat.reduceLT, Nat.reduceLeDiff, Nat.reduceMul, Nat.reduceEqDiff, WD, effB, effH, isPriv, isHeap, isImm, zbx, zby, zbz, chkO, setD, dslot, zca, zcb, zcc, zcd, ptrCells_some, F27, g7, hr.shutIn]
            rw [he]; first | exact ⟨rfl, rfl⟩ | exact ⟨trivial, rfl⟩ | rfl | simp
          · have g7 : decide (0 ≤ lastR l f) = false := decide_eq_false h7
            by_cases h3 : 4 ≤ cntR l f
            · have g3 : decide ((4 : Int) ≤ (cntR l f : Int)) = true := decide_eq_true (by omega)
              have he : rErr fu gl l f al = 3 := by unfold rErr; rw [if_neg hn1, if_neg h7, if_pos h3]
              simp only [WW, partV, eqCells, eqLf, minV, maxV, ifcV, zaa, zab, zac, zad, zae, zaf, zag, zah, zai, ofConst, ofConst1, List.replicate, zaj, zak, loadOp, Go.Abs.loadCells, binV, zal, pickV, zam, zan, zao, zap, zaq, zar, zas, zat, zau, outR, resAll, resOne, zav, zaw, zax, zay, zaz, zba, zbb, zbc, zbd, zbe, zbf, zbg, zbh, zbi, zbj, zbk, storeOp, storeCell, overlay, zbl, zbm, zbn, lookupOp, keyT, okRes, mapUpdateOp, zbo, zbp, zbq, zbr, zbs, zbt, zbu, Nat.reduceSub, Nat.reduceAdd, Int.reduceLT, Int.reduceLE, Int.reduceAdd, Int.reduceSub, Int.reduceToNat, Int.reduceBEq, Int.reduceBNe, Int.reduceMul, Nat.reduceBEq, Nat.reduceBNe, Nat.reduceLT, Nat.reduceLeDiff, Nat.reduceMul, Nat.reduceEqDiff, WD, effB, effH, isPriv, isHeap, isImm, zbx, zby, zbz, chkO, setD, dslot, zca, zcb, zcc, zcd, ptrCells_some, F27, g7, g3, hr.shutIn]
              rw [he]; first | exact ⟨rfl, rfl⟩ | exact ⟨trivial, rfl⟩ | rfl | simp
            · have g3 : decide ((4 : Int) ≤ (cntR l f : Int)) = false := decide_eq_false (by omega)
              have he : rErr fu gl l f al = 0 := by unfold rErr; rw [if_neg hn1, if_neg h7, if_neg h3]
              have w2 := wide_dep al
              have w0 : ∀ n, wideAll [] n = true := fun _ => rfl
              have w3 := wide_ver l
              have a1 : decide (al.length * 16 ≤ 70368744177664) = true := by simp; omega
              have a2 : decide (al.length ≤ 4611686018427387904) = true := by simp; omega
              simp only [WW, partV, eqCells, eqLf, minV, maxV, ifcV, zaa, zab, zac, zad, zae, zaf, zag, zah, zai, ofConst, ofConst1, List.replicate, zaj, zak, loadOp, Go.Abs.loadCells, binV, zal, pickV, zam, zan, zao, zap, zaq, zar, zas, zat, zau, outR, resAll, resOne, zav, zaw, zax, zay, zaz, zba, zbb, zbc, zbd, zbe, zbf, zbg, zbh, zbi, zbj, zbk, storeOp, storeCell, overlay, zbl, zbm, zbn, lookupOp, keyT, okRes, mapUpdateOp, zbo, zbp, zbq, zbr, zbs, zbt, zbu, Nat.reduceSub, Nat.reduceAdd, Int.reduceLT, Int.reduceLE, Int.reduceAdd, Int.reduceSub, Int.reduceToNat, Int.reduceBEq, Int.reduceBNe, Int.reduceMul, Nat.reduceBEq, Nat.reduceBNe, Nat.reduceLT, Nat.reduceLeDiff, Nat.reduceMul, Nat.reduceEqDiff, WD, effB, effH, isPriv, isHeap, isImm, zbx, zby, zbz, chkO, setD, dslot, zca, zcb, zcc, zcd, ptrCells_some, F27, g7, g3, hr.shutIn]
              simp only [WW, partV, eqCells, eqLf, minV, maxV, ifcV, zaa, zab, zac, zad, zae, zaf, zag, zah, zai, ofConst, ofConst1, List.replicate, zaj, zak, loadOp, Go.Abs.loadCells, binV, zal, pickV, zam, zan, zao, zap, zaq, zar, zas, zat, zau, outR, resAll, resOne, zav, zaw, zax, zay, zaz, zba, zbb, zbc, zbd, zbe, zbf, zbg, zbh, zbi, zbj, zbk, storeOp, storeCell, overlay, zbl, zbm, zbn, lookupOp, keyT, okRes, mapUpdateOp, zbo, zbp, zbq, zbr, zbs, zbt, zbu, Nat.reduceSub, Nat.reduceAdd, Int.reduceLT, Int.reduceLE, Int.reduceAdd, Int.reduceSub, Int.reduceToNat, Int.reduceBEq, Int.reduceBNe, Int.reduceMul, Nat.reduceBEq, Nat.reduceBNe, Nat.reduceLT, Nat.reduceLeDiff, Nat.reduceMul, Nat.reduceEqDiff, WD, effB, effH, isPriv, isHeap, isImm, zbx, zby, zbz, chkO, setD, dslot, zca, zcb, zcc, zcd, ptrCells_some, F27, har.shutIn, har.srcSl, buildSliceV, lits, srcV_eq, srcK_sl, srcK_str, srcSl_nils, srcSl_rsl, srcSl_sl, appendOp, frow, zbv, zbw, List.all_nil, List.all_cons, rowV, Bool.false_and, Bool.and_false, ne_eq, not_false_eq_true, grows_lr, callOut_t, w0, w2, a1, a2, buildOp, fillV, Lay.place, Bool.or_self, Bool.or_false, Bool.false_or, decide_not, not_true_eq_false, decide_eq_true_eq, Nat.lt_irrefl]
              have htk : List.take al.length (al.map depV) = al.map depV := List.take_of_length_le (by simp)
              have b1 : decide (l.length * 40 ≤ 70368744177664) = true := by simp; omega
              have b2 : decide (l.length ≤ 4611686018427387904) = true := by simp; omega
              have b3 : decide ((l.length + 1) * 40 ≤ 70368744177664) = true := by simp; omega
              have b4 : decide (l.length ≤ 4611686018427387903) = true := by simp; omega
              have wv : wideAll [V.agg [.int .i64 f, .rsl (al.map depV), .bool true]] 3 = true := rfl
              have b5 : l.length * 40 ≤ 70368744177664 := by omega
              have b6 : l.length ≤ 4611686018427387904 := by omega
              have b7 : (l.length + 1) * 40 ≤ 70368744177664 := by omega
              have b8 : l.length ≤ 4611686018427387903 := by omega
              simp only [htk]
              refine wC_dr alts27_19 (by kernel_rfl) ?_
              simp only [WW, partV, eqCells, eqLf, minV, maxV, ifcV, zaa, zab, zac, zad, zae, zaf, zag, zah, zai, ofConst, ofConst1, List.replicate, zaj, zak, loadOp, Go.Abs.loadCells, binV, zal, pickV, zam, zan, zao, zap, zaq, zar, zas, zat, zau, outR, resAll, resOne, zav, zaw, zax, zay, zaz, zba, zbb, zbc, zbd, zbe, zbf, zbg, zbh, zbi, zbj, zbk, storeOp, storeCell, overlay, zbl, zbm, zbn, lookupOp, keyT, okRes, mapUpdateOp, zbo, zbp, zbq, zbr, zbs, zbt, zbu, Nat.reduceSub, Nat.reduceAdd, Int.reduceLT, Int.reduceLE, Int.reduceAdd, Int.reduceSub, Int.reduceToNat, Int.reduceBEq, Int.reduceBNe, Int.reduceMul, Nat.reduceBEq, Nat.reduceBNe, Nat.reduceLT, Nat.reduceLeDiff, Nat.reduceMul, Nat.reduceEqDiff, WD, effB, effH, isPriv, isHeap, isImm, zbx, zby, zbz, chkO, setD, dslot, zca, zcb, zcc, zcd, ptrCells_some, F27, hr.shutIn, hr.srcSl, hc1, hok, buildSliceV, lits, srcV_eq, srcK_sl, srcK_str, srcSl_nils, srcSl_rsl, srcSl_sl, appendOp, frow, zbv, zbw, List.all_nil, List.all_cons, rowV, Bool.false_and, Bool.and_false, ne_eq, not_false_eq_true, grows_lr, callOut_t, w0, w3, wv, b1, b2, b3, b4, b5, b6, b7, b8, buildOp, fillV, Lay.place, Bool.or_self, Bool.or_false, Bool.false_or, decide_not, not_true_eq_false, decide_eq_true_eq, Nat.lt_irrefl, alts27_19]
              try (refine ⟨b5, ?_⟩)
              try simp only [WW, partV, eqCells, eqLf, minV, maxV, ifcV, zaa, zab, zac, zad, zae, zaf, zag, zah, zai, ofConst, ofConst1, List.replicate, zaj, zak, loadOp, Go.Abs.loadCells, binV, zal, pickV, zam, zan, zao, zap, zaq, zar, zas, zat, zau, outR, resAll, resOne, zav, zaw, zax, zay, zaz, zba, zbb, zbc, zbd, zbe, zbf, zbg, zbh, zbi, zbj, zbk, storeOp, storeCell, overlay, zbl, zbm, zbn, lookupOp, keyT, okRes, mapUpdateOp, zbo, zbp, zbq, zbr, zbs, zbt, zbu, Nat.reduceSub, Nat.reduceAdd, Int.reduceLT, Int.reduceLE, Int.reduceAdd, Int.reduceSub, Int.reduceToNat, Int.reduceBEq, Int.reduceBNe, Int.reduceMul, Nat.reduceBEq, Nat.reduceBNe, Nat.reduceLT, Nat.reduceLeDiff, Nat.reduceMul, Nat.reduceEqDiff, WD, effB, effH, isPriv, isHeap, isImm, zbx, zby, zbz, chkO, setD, dslot, zca, zcb, zcc, zcd, ptrCells_some, F27, hr.shutIn, hc1, hok, buildSliceV, lits, srcV_eq, srcK_sl, srcK_str, srcSl_nils, srcSl_rsl, srcSl_sl, appendOp, frow, zbv, zbw, List.all_nil, List.all_cons, rowV, Bool.false_and, Bool.and_false, ne_eq, not_false_eq_true, grows_lr, callOut_t, w0, w3, wv, b1, b2, b3, b4, b5, b6, b7, b8, buildOp, fillV, Lay.place, Bool.or_self, Bool.or_false, Bool.false_or, decide_not, not_true_eq_false, decide_eq_true_eq, Nat.lt_irrefl, alts27_19]
              have hm1 : IntKind.i64.wrap (((l.length + 1 : Nat) : Int) - 1) = (l.length : Int) := by rw [IntWalk.i64_in _ (by omega)]; omega
              have hm2 : IntKind.i64.wrap ((l.length : Int) + 1 - 1) = (l.length : Int) := by rw [IntWalk.i64_in _ (by omega)]; omega
              have hmv : List.map verV l ++ [V.agg [V.int .i64 f, V.rsl (List.map depV al), V.bool true]] = List.map verV (l ++ [(⟨0, f, .rsl (al.map depV), al, true⟩ : Ver)]) := by rw [List.map_append]; rfl
              have hmt : List.take (l.length + 1) (List.map verV (l ++ [(⟨0, f, .rsl (al.map depV), al, true⟩ : Ver)])) = List.map verV (l ++ [(⟨0, f, .rsl (al.map depV), al, true⟩ : Ver)]) := List.take_of_length_le (by simp)
              simp only [hmv]
              have hWl : (List.map verV (l ++ [(⟨0, f, .rsl (al.map depV), al, true⟩ : Ver)])).length = l.length + 1 := by simp
              generalize List.map verV (l ++ [(⟨0, f, .rsl (al.map depV), al, true⟩ : Ver)]) = W at hmt hWl ⊢
              have hrow : rowV false W (l.length + 1) = .rsl W := by unfold rowV; rw [hmt]; simp
              have hlk : ∀ e, lenK H' (.slice e) (.rsl W) = some (.int .i64 ((l.length + 1 : Nat) : Int)) := fun e => by
                have := (Rd.rsl (H := H') W).len (e := e); rw [hWl] at this; exact this
              refine wC_dr alts27_20 (by kernel_rfl) ?_
              simp only [WW, partV, eqCells, eqLf, minV, maxV, ifcV, zaa, zab, zac, zad, zae, zaf, zag, zah, zai, ofConst, ofConst1, List.replicate, zaj, zak, loadOp, Go.Abs.loadCells, binV, zal, pickV, zam, zan, zao, zap, zaq, zar, zas, zat, zau, outR, resAll, resOne, zav, zaw, zax, zay, zaz, zba, zbb, zbc, zbd, zbe, zbf, zbg, zbh, zbi, zbj, zbk, storeOp, storeCell, overlay, zbl, zbm, zbn, lookupOp, keyT, okRes, mapUpdateOp, zbo, zbp, zbq, zbr, zbs, zbt, zbu, Nat.reduceSub, Nat.reduceAdd, Int.reduceLT, Int.reduceLE, Int.reduceAdd, Int.reduceSub, Int.reduceToNat, Int.reduceBEq, Int.reduceBNe, Int.reduceMul, Nat.reduceBEq, Nat.reduceBNe, Nat.reduceLT, Nat.reduceLeDiff, Nat.reduceMul, Nat.reduceEqDiff, WD, effB, effH, isPriv, isHeap, isImm, zbx, zby, zbz, chkO, setD, dslot, zca, zcb, zcc, zcd, ptrCells_some, F27, hrow, hlk, hm1, hm2, hmt, hc1, hok, buildOp, fillV, Lay.place, Bool.or_self, Bool.or_false, Bool.false_or, decide_not, ne_eq, not_true_eq_false, decide_eq_true_eq, Nat.lt_irrefl, alts27_20]
              rw [he]; simp
end Go.Proofs.Ytfjbgmcdkhepkaa

namespace Go.Proofs.Ytfjbgmcdkhepkaa
open Go Go.Abs Go.Proofs
set_option maxRecDepth 100000
set_option maxHeartbeats 4000000
set_option linter.unusedVariables false
set_option linter.unusedSimpArgs false
/-! ### the document's list and the registry's -/
def keyV (v : Ver) : Int × List (Int × Int) × Bool := (v.f, v.l, v.ok)
theorem snocInd2 {α : Type} {P : List α → Prop} (nil : P []) (snoc : ∀ xs y, P xs → P (xs ++ [y])) (xs : List α) : P xs := by
  have h : ∀ ys : List α, P ys.reverse := by
    intro ys
    induction ys with
    | nil => exact nil
    | cons y ys ih => rw [List.reverse_cons]; exact snoc _ _ ih
  have := h xs.reverse
  rwa [List.reverse_reverse] at this
theorem key_len {a b : List Ver} (h : a.map keyV = b.map keyV) : a.length = b.length := by
  have := congrArg List.length h
  simpa using this
theorem key_at {a b : List Ver} (h : a.map keyV = b.map keyV) (j : Nat) : (a[j]?).map keyV = (b[j]?).map keyV := by
  rw [← List.getElem?_map, ← List.getElem?_map, h]
theorem key_some {a b : List Ver} (h : a.map keyV = b.map keyV) {j : Nat} {v : Ver} (hv : a[j]? = some v) : ∃ w, b[j]? = some w ∧ w.f = v.f ∧ w.l = v.l ∧ w.ok = v.ok := by
  have := key_at h j
  rw [hv] at this
  cases hw : b[j]? with
  | none => rw [hw] at this; cases this
  | some w =>
    rw [hw] at this
    simp only [Option.map_some, Option.some.injEq, keyV, Prod.mk.injEq] at this
    exact ⟨w, rfl, this.1.symm, this.2.1.symm, this.2.2.symm⟩
theorem key_none {a b : List Ver} (h : a.map keyV = b.map keyV) {j : Nat} (hv : a[j]? = none) : b[j]? = none := by
  rw [List.getElem?_eq_none_iff] at hv ⊢
  have := key_len h; omega
theorem key_get {a b : List Ver} (h : a.map keyV = b.map keyV) (i : Int) : (getVer a i).any (·.ok) = (getVer b i).any (·.ok) := by
  unfold getVer
  split
  · cases ha : a[i.toNat]? with
    | none => rw [key_none h ha]
    | some v =>
      obtain ⟨w, hw, _, _, e⟩ := key_some h ha
      rw [hw]; simp [e]
  · rfl
theorem cntR_key {a b : List Ver} (h : a.map keyV = b.map keyV) (f : Int) : cntR a f = cntR b f := by
  have : ∀ l : List Ver, cntR l f = ((l.map keyV).filter fun k => k.1 == f).length := fun l => by
    unfold cntR
    rw [List.filter_map, List.length_map]; rfl
  rw [this, this, h]
theorem lastR_key {a b : List Ver} (h : a.map keyV = b.map keyV) (f : Int) : lastR a f = lastR b f := by
  have : ∀ l : List Ver, lastR l f = (l.map keyV).zipIdx.foldl (fun a p => if (p.1.1 == f && p.1.2.2) = true then (p.2 : Int) else a) (-1) := fun l => by
    unfold lastR
    rw [List.zipIdx_map, List.foldl_map]; rfl
  rw [this, this, h]
theorem hit_key {a b : List Ver} (h : a.map keyV = b.map keyV) (g v : Int) (j : Nat) : hit (writes g v) a j = hit (writes g v) b j := by
  unfold hit
  cases ha : a[j]? with
  | none => rw [key_none h ha]
  | some w =>
    obtain ⟨u, hu, _, e1, e2⟩ := key_some h ha
    rw [hu]; simp only [writes, e1, e2]
theorem hits_key {a b : List Ver} (h : a.map keyV = b.map keyV) (g v : Int) : hits (writes g v) a a.length = hits (writes g v) b b.length := by
  unfold hits
  rw [key_len h]
  exact List.filter_congr fun j _ => hit_key h g v j
theorem updw_key {a b : List Ver} (h : a.map keyV = b.map keyV) (g v : Int) : (upd (writes g v) a a.length).map keyV = (upd (writes g v) b b.length).map keyV := by
  refine List.ext_getElem? fun j => ?_
  rw [List.getElem?_map, List.getElem?_map, upd_at, upd_at]
  cases ha : a[j]? with
  | none => rw [key_none h ha]; rfl
  | some w =>
    obtain ⟨u, hu, e0, e1, e2⟩ := key_some h ha
    rw [hu, key_len h]
    have hw : (u.ok && writes g v j u) = (w.ok && writes g v j w) := by simp only [writes, e1, e2]
    simp only [Option.map_some, hw]
    congr 1
    by_cases hb : (decide (j < b.length) && (w.ok && writes g v j w)) = true
    · rw [if_pos hb, if_pos hb]; simp [keyV, Ver.off, e0, e1, e2]
    · rw [if_neg hb, if_neg hb]; simp [keyV, Ver.off, e0, e1, e2]
theorem updd_key {a b : List Ver} (h : a.map keyV = b.map keyV) (id : Int) : (a.mapIdx fun j v => if (j : Int) = id then v.off else v).map keyV = (upd (drops id) b b.length).map keyV := by
  refine List.ext_getElem? fun j => ?_
  rw [List.getElem?_map, List.getElem?_map, upd_at, List.getElem?_mapIdx]
  cases ha : a[j]? with
  | none => rw [key_none h ha]; rfl
  | some w =>
    obtain ⟨u, hu, e0, e1, e2⟩ := key_some h ha
    have hj : j < b.length := (List.getElem?_eq_some_iff.1 hu).1
    rw [hu]
    simp only [Option.map_some, drops, hj, decide_true, Bool.true_and]
    congr 1
    by_cases e : (j : Int) = id
    · subst e
      simp only [if_pos rfl, BEq.rfl, Bool.and_true]
      cases hu2 : u.ok with
      | true => simp [keyV, Ver.off, e0, e1]
      | false => simp [keyV, Ver.off, e0, e1, hu2]
    · have : (id == (j : Int)) = false := by simp; omega
      rw [if_neg e, this]
      simp [keyV, e0, e1, e2]
/-- One valid version of a function at most -/
def Un (all : List Ver) : Prop := ∀ (i j : Nat) (v w : Ver), all[i]? = some v → all[j]? = some w → v.ok = true → w.ok = true → v.f = w.f → i = j
theorem last_find (all : List Ver) (f : Int) : Un all → lastR all f = match all.findIdx? (fun v => v.ok && v.f == f) with | some i => (i : Int) | none => -1 := by
  induction all using snocInd2 with
  | nil => intro _; rfl
  | snoc xs y ih =>
    intro hu
    have hux : Un xs := fun i j v w h1 h2 => hu i j v w (by rw [List.getElem?_append_left (List.getElem?_eq_some_iff.1 h1).1]; exact h1) (by rw [List.getElem?_append_left (List.getElem?_eq_some_iff.1 h2).1]; exact h2)
    rw [lastR_snoc, List.findIdx?_append]
    by_cases hy : (y.f == f && y.ok) = true
    · rw [if_pos hy]
      have hy2 : (y.ok && y.f == f) = true := by rw [Bool.and_comm]; exact hy
      cases hx : xs.findIdx? (fun v => v.ok && v.f == f) with
      | none => simp [List.findIdx?_cons, hy2]
      | some i =>
        exfalso
        rw [List.findIdx?_eq_some_iff_getElem] at hx
        obtain ⟨hi, h2, _⟩ := hx
        simp only [Bool.and_eq_true, beq_iff_eq] at h2 hy2
        have := hu i xs.length xs[i] y (by rw [List.getElem?_append_left hi]; exact List.getElem?_eq_getElem hi) (by simp) h2.1 hy2.1 (by rw [h2.2, hy2.2])
        omega
    · rw [if_neg hy, ih hux]
      have hy2 : (y.ok && y.f == f) = false := by rw [Bool.and_comm]; simpa using hy
      cases hx : xs.findIdx? (fun v => v.ok && v.f == f) with
      | none => simp [List.findIdx?_cons, hy2]
      | some i => simp
/-- Where a play stands -/
structure Play (H : Hp) (d c : Nat) (gl : Int) (cnt : List Int) (all : List Ver) (x : V) (rl : List Ver) : Prop where
  reg : Reg H d c gl cnt all
  sm : rl.map keyV = all.map keyV
  rs : Rs H (RN d c all) x (rl.map verV)
  on : ∀ v ∈ rl, IsDeps v.on v.l ∧ v.l.length < 4294967296
  cn : ∀ f : Nat, f < cnt.length → cnt[f]? = some (cntR all f : Int)
  cb : ∀ n ∈ cnt, 0 ≤ n ∧ n ≤ 4
  un : Un all
  vf : ∀ v ∈ all, 0 ≤ v.f ∧ v.f < (cnt.length : Int)
theorem Play.err {H : Hp} {d c : Nat} {gl : Int} {cnt : List Int} {all : List Ver} {x : V} {rl : List Ver} (P : Play H d c gl cnt all x rl) (f : Int) (al : List (Int × Int)) : rErr (cnt.length : Int) gl rl f al = addErr gl cnt all f al := by
  unfold rErr addErr
  rw [lastR_key P.sm, cntR_key P.sm, last_find all f P.un, bad_eq]
  by_cases h1 : f < 0
  · simp [h1]
  · by_cases h2 : (cnt.length : Int) ≤ f
    · simp [h2]
    · simp only [h1, h2, decide_false, Bool.false_or, false_or]
      generalize ((al.any fun y => decide (y.1 < 0) || decide (y.1 ≥ gl)) || !decide ((dedupR (al.map (·.1))).length = al.length)) = b
      cases b with
      | true => rfl
      | false =>
        simp only [Bool.false_eq_true, if_false]
        cases hx : all.findIdx? (fun v => v.ok && v.f == f) with
        | some i =>
          have : (0 : Int) ≤ (i : Int) := by omega
          simp [this]
        | none =>
          obtain ⟨k, rfl⟩ : ∃ k : Nat, f = k := ⟨f.toNat, by omega⟩
          have hk := P.cn k (by omega)
          have hm := P.cb _ (List.mem_of_getElem? hk)
          have hg : getCnt cnt (k : Int) = some (cntR all k : Int) := by unfold getCnt; rw [if_pos (by omega)]; simpa using hk
          rw [hg]
          simp only [Option.isSome_none, Bool.false_eq_true, if_false, show ¬ ((0 : Int) ≤ -1) by omega, Option.some.injEq]
          by_cases e : 4 ≤ cntR all k
          · rw [if_pos e, if_pos (by omega)]
          · rw [if_neg e, if_neg (by omega)]
end Go.Proofs.Ytfjbgmcdkhepkaa

namespace Go.Proofs.Ytfjbgmcdkhepkaa
open Go Go.Abs Go.Proofs
set_option maxRecDepth 100000
set_option maxHeartbeats 8000000
set_option linter.unusedVariables false
set_option linter.unusedSimpArgs false
theorem idAt {H : Hp} {x : V} {l : List Nat} (hx : Rd H x (idsV l)) {i : Nat} {v : Nat} (hd : l[i]? = some v) : RdAt H x 1 i (.int .i64 (v : Int)) :=
  hx.at_ (by unfold idsV; rw [List.getElem?_map, hd]; rfl) rfl
theorem ids_len (l : List Nat) : (idsV l).length = l.length := by simp [idsV]
theorem sameInts_eq {H : Hp} {x y : V} {l m : List Nat} (hx : Rd H x (idsV l)) (hy : Rd H y (idsV m)) (hl : l.length < 4294967296) :
    EW 23 [x, y] H = some (.ret (.bool (decide (l = m))) false, H) := by
  have lx : ∀ e, lenK H (.slice e) x = some (.int .i64 l.length) := fun e => by rw [hx.len, ids_len]
  have ly : ∀ e, lenK H (.slice e) y = some (.int .i64 m.length) := fun e => by rw [hy.len, ids_len]
  refine eqOf (runs f23 b23 r23 n23 _ _ ?_)
  simp only [bodyOf, Try.f23, Option.getD_some]
  simp only [WW, partV, eqCells, eqLf, minV, maxV, ifcV, zaa, zab, zac, zad, zae, zaf, zag, zah, zai, ofConst, ofConst1, List.replicate, zaj, zak, loadOp, Go.Abs.loadCells, binV, zal, pickV, zam, zan, zao, zap, zaq, zar, zas, zat, zau, outR, resAll, resOne, zav, zaw, zax, zay, zaz, zba, zbb, zbc, zbd, zbe, zbf, zbg, zbh, zbi, zbj, zbk, storeOp, storeCell, overlay, zbl, zbm, zbn, lookupOp, keyT, okRes, mapUpdateOp, zbo, zbp, zbq, zbr, zbs, zbt, zbu, Nat.reduceSub, Nat.reduceAdd, Int.reduceLT, Int.reduceLE, Int.reduceAdd, Int.reduceSub, Int.reduceToNat, Int.reduceBEq, Int.reduceBNe, Int.reduceMul, Nat.reduceBEq, Nat.reduceBNe, Nat.reduceLT, Nat.reduceLeDiff, Nat.reduceMul, Nat.reduceEqDiff, WD, effB, effH, isPriv, isHeap, isImm, zbx, zby, zbz, chkO, setD, dslot, zca, zcb, zcc, zcd, ptrCells_some, F23, hx.shutIn, hy.shutIn, lx, ly]
  refine cSplit (fun h => ?_) (fun h => ?_)
  · simp only [h]
    simp only [WW, partV, eqCells, eqLf, minV, maxV, ifcV, zaa, zab, zac, zad, zae, zaf, zag, zah, zai, ofConst, ofConst1, List.replicate, zaj, zak, loadOp, Go.Abs.loadCells, binV, zal, pickV, zam, zan, zao, zap, zaq, zar, zas, zat, zau, outR, resAll, resOne, zav, zaw, zax, zay, zaz, zba, zbb, zbc, zbd, zbe, zbf, zbg, zbh, zbi, zbj, zbk, storeOp, storeCell, overlay, zbl, zbm, zbn, lookupOp, keyT, okRes, mapUpdateOp, zbo, zbp, zbq, zbr, zbs, zbt, zbu, Nat.reduceSub, Nat.reduceAdd, Int.reduceLT, Int.reduceLE, Int.reduceAdd, Int.reduceSub, Int.reduceToNat, Int.reduceBEq, Int.reduceBNe, Int.reduceMul, Nat.reduceBEq, Nat.reduceBNe, Nat.reduceLT, Nat.reduceLeDiff, Nat.reduceMul, Nat.reduceEqDiff, WD, effB, effH, isPriv, isHeap, isImm, zbx, zby, zbz, chkO, setD, dslot, zca, zcb, zcc, zcd, ptrCells_some, F23]
    have : l ≠ m := fun e => by subst e; simp at h
    simp [this]
  · simp only [h]
    have hlm : l.length = m.length := by simp at h; omega
    simp only [WW, partV, eqCells, eqLf, minV, maxV, ifcV, zaa, zab, zac, zad, zae, zaf, zag, zah, zai, ofConst, ofConst1, List.replicate, zaj, zak, loadOp, Go.Abs.loadCells, binV, zal, pickV, zam, zan, zao, zap, zaq, zar, zas, zat, zau, outR, resAll, resOne, zav, zaw, zax, zay, zaz, zba, zbb, zbc, zbd, zbe, zbf, zbg, zbh, zbi, zbj, zbk, storeOp, storeCell, overlay, zbl, zbm, zbn, lookupOp, keyT, okRes, mapUpdateOp, zbo, zbp, zbq, zbr, zbs, zbt, zbu, Nat.reduceSub, Nat.reduceAdd, Int.reduceLT, Int.reduceLE, Int.reduceAdd, Int.reduceSub, Int.reduceToNat, Int.reduceBEq, Int.reduceBNe, Int.reduceMul, Nat.reduceBEq, Nat.reduceBNe, Nat.reduceLT, Nat.reduceLeDiff, Nat.reduceMul, Nat.reduceEqDiff, WD, effB, effH, isPriv, isHeap, isImm, zbx, zby, zbz, chkO, setD, dslot, zca, zcb, zcc, zcd, ptrCells_some, F23]
    refine wC_loop _ (fun n st H' => ∃ i : Nat, st = ⟨L23_4 (.v x) (.v y) (.v (.int .i64 i)), [], []⟩ ∧ H' = H ∧ i ≤ l.length ∧ n = l.length - i ∧ l.take i = m.take i) l.length ⟨0, ?_, rfl, by omega, by omega, rfl⟩ ?_
    · simp only [WN, firstReg, growAll, zbv, zbw, norm, killS, zag, zah, zaa, zab, zbl, zat, zad, growOne, zae, zaf, zac, zas, zak, Nat.reduceLT, Nat.reduceAdd, zbj, zav, F23, L23_4, hx.clip2, hy.clip2]
      rfl
    · rintro n st H' ⟨i, rfl, rfl, hi, hn, hno⟩
      simp only [L23_4]
      simp only [WW, partV, eqCells, eqLf, minV, maxV, ifcV, zaa, zab, zac, zad, zae, zaf, zag, zah, zai, ofConst, ofConst1, List.replicate, zaj, zak, loadOp, Go.Abs.loadCells, binV, zal, pickV, zam, zan, zao, zap, zaq, zar, zas, zat, zau, outR, resAll, resOne, zav, zaw, zax, zay, zaz, zba, zbb, zbc, zbd, zbe, zbf, zbg, zbh, zbi, zbj, zbk, storeOp, storeCell, overlay, zbl, zbm, zbn, lookupOp, keyT, okRes, mapUpdateOp, zbo, zbp, zbq, zbr, zbs, zbt, zbu, Nat.reduceSub, Nat.reduceAdd, Int.reduceLT, Int.reduceLE, Int.reduceAdd, Int.reduceSub, Int.reduceToNat, Int.reduceBEq, Int.reduceBNe, Int.reduceMul, Nat.reduceBEq, Nat.reduceBNe, Nat.reduceLT, Nat.reduceLeDiff, Nat.reduceMul, Nat.reduceEqDiff, WD, effB, effH, isPriv, isHeap, isImm, zbx, zby, zbz, chkO, setD, dslot, zca, zcb, zcc, zcd, ptrCells_some, F23, hx.shutIn, hy.shutIn, lx, ly]
      refine cSplit (fun hlt => ?_) (fun hge => ?_)
      · have hi2 : i < l.length := by simpa using hlt
        obtain ⟨d, hd⟩ : ∃ d, l[i]? = some d := ⟨_, List.getElem?_eq_getElem hi2⟩
        obtain ⟨e, he⟩ : ∃ e, m[i]? = some e := ⟨_, List.getElem?_eq_getElem (by omega)⟩
        have hat := idAt hx hd
        have hbt := idAt hy he
        simp only [hlt]
        simp only [WW, partV, eqCells, eqLf, minV, maxV, ifcV, zaa, zab, zac, zad, zae, zaf, zag, zah, zai, ofConst, ofConst1, List.replicate, zaj, zak, loadOp, Go.Abs.loadCells, binV, zal, pickV, zam, zan, zao, zap, zaq, zar, zas, zat, zau, outR, resAll, resOne, zav, zaw, zax, zay, zaz, zba, zbb, zbc, zbd, zbe, zbf, zbg, zbh, zbi, zbj, zbk, storeOp, storeCell, overlay, zbl, zbm, zbn, lookupOp, keyT, okRes, mapUpdateOp, zbo, zbp, zbq, zbr, zbs, zbt, zbu, Nat.reduceSub, Nat.reduceAdd, Int.reduceLT, Int.reduceLE, Int.reduceAdd, Int.reduceSub, Int.reduceToNat, Int.reduceBEq, Int.reduceBNe, Int.reduceMul, Nat.reduceBEq, Nat.reduceBNe, Nat.reduceLT, Nat.reduceLeDiff, Nat.reduceMul, Nat.reduceEqDiff, WD, effB, effH, isPriv, isHeap, isImm, zbx, zby, zbz, chkO, setD, dslot, zca, zcb, zcc, zcd, ptrCells_some, F23]
        refine wC_dr alts23_6 (by kernel_rfl) ?_
        simp only [WW, partV, eqCells, eqLf, minV, maxV, ifcV, zaa, zab, zac, zad, zae, zaf, zag, zah, zai, ofConst, ofConst1, List.replicate, zaj, zak, loadOp, Go.Abs.loadCells, binV, zal, pickV, zam, zan, zao, zap, zaq, zar, zas, zat, zau, outR, resAll, resOne, zav, zaw, zax, zay, zaz, zba, zbb, zbc, zbd, zbe, zbf, zbg, zbh, zbi, zbj, zbk, storeOp, storeCell, overlay, zbl, zbm, zbn, lookupOp, keyT, okRes, mapUpdateOp, zbo, zbp, zbq, zbr, zbs, zbt, zbu, Nat.reduceSub, Nat.reduceAdd, Int.reduceLT, Int.reduceLE, Int.reduceAdd, Int.reduceSub, Int.reduceToNat, Int.reduceBEq, Int.reduceBNe, Int.reduceMul, Nat.reduceBEq, Nat.reduceBNe, Nat.reduceLT, Nat.reduceLeDiff, Nat.reduceMul, Nat.reduceEqDiff, WD, effB, effH, isPriv, isHeap, isImm, zbx, zby, zbz, chkO, setD, dslot, zca, zcb, zcc, zcd, ptrCells_some, F23, hx.shutIn, hy.shutIn, hat.at1 hx, hat.cells, hbt.at1 hy, hbt.cells, alts23_6]
        refine cSplit (fun hT => ?_) (fun hF => ?_)
        · simp only [hT]
          simp only [WW, partV, eqCells, eqLf, minV, maxV, ifcV, zaa, zab, zac, zad, zae, zaf, zag, zah, zai, ofConst, ofConst1, List.replicate, zaj, zak, loadOp, Go.Abs.loadCells, binV, zal, pickV, zam, zan, zao, zap, zaq, zar, zas, zat, zau, outR, resAll, resOne, zav, zaw, zax, zay, zaz, zba, zbb, zbc, zbd, zbe, zbf, zbg, zbh, zbi, zbj, zbk, storeOp, storeCell, overlay, zbl, zbm, zbn, lookupOp, keyT, okRes, mapUpdateOp, zbo, zbp, zbq, zbr, zbs, zbt, zbu, Nat.reduceSub, Nat.reduceAdd, Int.reduceLT, Int.reduceLE, Int.reduceAdd, Int.reduceSub, Int.reduceToNat, Int.reduceBEq, Int.reduceBNe, Int.reduceMul, Nat.reduceBEq, Nat.reduceBNe, Nat.reduceLT, Nat.reduceLeDiff, Nat.reduceMul, Nat.reduceEqDiff, WD, effB, effH, isPriv, isHeap, isImm, zbx, zby, zbz, chkO, setD, dslot, zca, zcb, zcc, zcd, ptrCells_some, F23]
          have : l ≠ m := fun e2 => by subst e2; rw [hd] at he; cases he; simp at hT
          simp [this]
        · simp only [hF]
          have hde : d = e := by
            have : (d : Int) = (e : Int) := by simpa using hF
            omega
          simp only [WW, partV, eqCells, eqLf, minV, maxV, ifcV, zaa, zab, zac, zad, zae, zaf, zag, zah, zai, ofConst, ofConst1, List.replicate, zaj, zak, loadOp, Go.Abs.loadCells, binV, zal, pickV, zam, zan, zao, zap, zaq, zar, zas, zat, zau, outR, resAll, resOne, zav, zaw, zax, zay, zaz, zba, zbb, zbc, zbd, zbe, zbf, zbg, zbh, zbi, zbj, zbk, storeOp, storeCell, overlay, zbl, zbm, zbn, lookupOp, keyT, okRes, mapUpdateOp, zbo, zbp, zbq, zbr, zbs, zbt, zbu, Nat.reduceSub, Nat.reduceAdd, Int.reduceLT, Int.reduceLE, Int.reduceAdd, Int.reduceSub, Int.reduceToNat, Int.reduceBEq, Int.reduceBNe, Int.reduceMul, Nat.reduceBEq, Nat.reduceBNe, Nat.reduceLT, Nat.reduceLeDiff, Nat.reduceMul, Nat.reduceEqDiff, WD, effB, effH, isPriv, isHeap, isImm, zbx, zby, zbz, chkO, setD, dslot, zca, zcb, zcc, zcd, ptrCells_some, F23]
          refine ⟨n - 1, by omega, i + 1, ?_, by omega, by omega, ?_⟩
          · simp only [WN, firstReg, growAll, zbv, zbw, norm, killS, zag, zah, zaa, zab, zbl, zat, zad, growOne, zae, zaf, zac, zas, zak, Nat.reduceLT, Nat.reduceAdd, zbj, zav, F23, hx.clip2, hy.clip2]
            rw [IntWalk.i64_in _ (by omega)]; rfl
          · rw [List.take_add_one, List.take_add_one, hd, he, hno, hde]
      · have hi2 : i = l.length := by simp at hge; omega
        simp only [hge]
        simp only [WW, partV, eqCells, eqLf, minV, maxV, ifcV, zaa, zab, zac, zad, zae, zaf, zag, zah, zai, ofConst, ofConst1, List.replicate, zaj, zak, loadOp, Go.Abs.loadCells, binV, zal, pickV, zam, zan, zao, zap, zaq, zar, zas, zat, zau, outR, resAll, resOne, zav, zaw, zax, zay, zaz, zba, zbb, zbc, zbd, zbe, zbf, zbg, zbh, zbi, zbj, zbk, storeOp, storeCell, overlay, zbl, zbm, zbn, lookupOp, keyT, okRes, mapUpdateOp, zbo, zbp, zbq, zbr, zbs, zbt, zbu, Nat.reduceSub, Nat.reduceAdd, Int.reduceLT, Int.reduceLE, Int.reduceAdd, Int.reduceSub, Int.reduceToNat, Int.reduceBEq, Int.reduceBNe, Int.reduceMul, Nat.reduceBEq, Nat.reduceBNe, Nat.reduceLT, Nat.reduceLeDiff, Nat.reduceMul, Nat.reduceEqDiff, WD, effB, effH, isPriv, isHeap, isImm, zbx, zby, zbz, chkO, setD, dslot, zca, zcb, zcc, zcd, ptrCells_some, F23]
        subst hi2
        rw [List.take_length, hlm, List.take_length] at hno
        simp [hno]
end Go.Proofs.Ytfjbgmcdkhepkaa

namespace Go.Proofs.Ytfjbgmcdkhepkaa
open Go Go.Abs Go.Proofs
set_option maxRecDepth 100000
set_option maxHeartbeats 8000000
set_option linter.unusedVariables false
set_option linter.unusedSimpArgs false
theorem clone_ex (x : V) (l : List (Int × Int)) (H : Hp) : ∃ e, (cloneR x l H).2 = H ++ e := by
  unfold cloneR
  split
  · exact ⟨[], by simp⟩
  · split
    · exact ⟨[], by simp⟩
    · exact ⟨_, rfl⟩
theorem find_out {cnt : List Int} {all : List Ver} (vf : ∀ v ∈ all, 0 ≤ v.f ∧ v.f < (cnt.length : Int)) {n : Int} (h : ¬ (0 ≤ n ∧ n < (cnt.length : Int))) : all.findIdx? (fun v => v.ok && v.f == n) = none := by
  rw [List.findIdx?_eq_none_iff]
  intro v hv
  have := vf v hv
  have : (v.f == n) = false := by simp; omega
  rw [this, Bool.and_false]
theorem Rs.atV {H : Hp} {N : Nat → Prop} {x : V} {l : List V} (h : Rs H N x l) (H' : Hp) (i o : Nat) : atV H' x i o = atV H x i o := by
  rcases h with ⟨rfl, _⟩ | rfl | ⟨s, rfl, _⟩ <;> rfl
theorem asks_eq {H : Hp} {d c : Nat} {gl : Int} {cnt : List Int} {all : List Ver} {x : V} {rl : List Ver} (P : Play H d c gl cnt all x rl) (n : Int) :
    wpCall EW 20 [.ptr d 0 0, refV (cnt.length : Int) gl x, .int .i64 n] H (fun out H' => out = .ret (.bool true) false ∧ ∃ e, H' = H ++ e) := by
  have R := P.reg
  have hr := P.rs.rd
  have hc1 := hr.cells1
  have hok := hr.ok
  have hcx : ∀ n, clipV n x = x := hr.clip
  have hlr : rl.length < 4294967296 := by rw [key_len P.sm]; exact R.len
  have hla := key_len P.sm
  have hrl : ∀ e, lenK H (.slice e) x = some (.int .i64 rl.length) := fun e => by rw [hr.len, List.length_map]
  refine runs f20 b20 r20 n20 _ _ ?_
  simp only [refV]
  simp only [bodyOf, Try.f20, Option.getD_some]
  cases h0 : decide (0 ≤ n) with
  | false =>
    have hn0 : ¬ 0 ≤ n := by simpa using h0
    have hg : getVer all n = none := by unfold getVer; rw [if_neg hn0]
    have hval : EW 15 [.ptr d 0 0, .int .i64 n] H = some (.ret (.bool false) false, H) := by rw [valid_eq R n, hg]; rfl
    have hon : EW 12 [.ptr d 0 0, .int .i64 n] H = some (.ret .nils false, H) := by rw [on_eq R n, hg]
    have hrv := rversions_eq hr hlr (cnt.length : Int) gl n
    simp only [refV] at hrv
    have hcz : getCnt cnt n = none := by unfold getCnt; rw [if_neg hn0]
    have hvs := versions_eq R n
    rw [hcz] at hvs
    have hof := of_eq R n
    unfold findV at hof
    rw [find_out P.vf (fun h => hn0 h.1)] at hof
    simp only at hvs hof
    simp only [WW, partV, eqCells, eqLf, minV, maxV, ifcV, zaa, zab, zac, zad, zae, zaf, zag, zah, zai, ofConst, ofConst1, List.replicate, zaj, zak, loadOp, Go.Abs.loadCells, binV, zal, pickV, zam, zan, zao, zap, zaq, zar, zas, zat, zau, outR, resAll, resOne, zav, zaw, zax, zay, zaz, zba, zbb, zbc, zbd, zbe, zbf, zbg, zbh, zbi, zbj, zbk, storeOp, storeCell, overlay, zbl, zbm, zbn, lookupOp, keyT, okRes, mapUpdateOp, zbo, zbp, zbq, zbr, zbs, zbt, zbu, Nat.reduceSub, Nat.reduceAdd, Int.reduceLT, Int.reduceLE, Int.reduceAdd, Int.reduceSub, Int.reduceToNat, Int.reduceBEq, Int.reduceBNe, Int.reduceMul, Nat.reduceBEq, Nat.reduceBNe, Nat.reduceLT, Nat.reduceLeDiff, Nat.reduceMul, Nat.reduceEqDiff, WD, effB, effH, isPriv, isHeap, isImm, zbx, zby, zbz, chkO, setD, dslot, zca, zcb, zcc, zcd, ptrCells_some, F20, h0, hr.shutIn, hrl, hc1]
    rw [wpCall_eq hval]
    simp only [WW, partV, eqCells, eqLf, minV, maxV, ifcV, zaa, zab, zac, zad, zae, zaf, zag, zah, zai, ofConst, ofConst1, List.replicate, zaj, zak, loadOp, Go.Abs.loadCells, binV, zal, pickV, zam, zan, zao, zap, zaq, zar, zas, zat, zau, outR, resAll, resOne, zav, zaw, zax, zay, zaz, zba, zbb, zbc, zbd, zbe, zbf, zbg, zbh, zbi, zbj, zbk, storeOp, storeCell, overlay, zbl, zbm, zbn, lookupOp, keyT, okRes, mapUpdateOp, zbo, zbp, zbq, zbr, zbs, zbt, zbu, Nat.reduceSub, Nat.reduceAdd, Int.reduceLT, Int.reduceLE, Int.reduceAdd, Int.reduceSub, Int.reduceToNat, Int.reduceBEq, Int.reduceBNe, Int.reduceMul, Nat.reduceBEq, Nat.reduceBNe, Nat.reduceLT, Nat.reduceLeDiff, Nat.reduceMul, Nat.reduceEqDiff, WD, effB, effH, isPriv, isHeap, isImm, zbx, zby, zbz, chkO, setD, dslot, zca, zcb, zcc, zcd, ptrCells_some, F20]
    refine wC_dr alts20_4 (by kernel_rfl) ?_
    simp only [WW, partV, eqCells, eqLf, minV, maxV, ifcV, zaa, zab, zac, zad, zae, zaf, zag, zah, zai, ofConst, ofConst1, List.replicate, zaj, zak, loadOp, Go.Abs.loadCells, binV, zal, pickV, zam, zan, zao, zap, zaq, zar, zas, zat, zau, outR, resAll, resOne, zav, zaw, zax, zay, zaz, zba, zbb, zbc, zbd, zbe, zbf, zbg, zbh, zbi, zbj, zbk, storeOp, storeCell, overlay, zbl, zbm, zbn, lookupOp, keyT, okRes, mapUpdateOp, zbo, zbp, zbq, zbr, zbs, zbt, zbu, Nat.reduceSub, Nat.reduceAdd, Int.reduceLT, Int.reduceLE, Int.reduceAdd, Int.reduceSub, Int.reduceToNat, Int.reduceBEq, Int.reduceBNe, Int.reduceMul, Nat.reduceBEq, Nat.reduceBNe, Nat.reduceLT, Nat.reduceLeDiff, Nat.reduceMul, Nat.reduceEqDiff, WD, effB, effH, isPriv, isHeap, isImm, zbx, zby, zbz, chkO, setD, dslot, zca, zcb, zcc, zcd, ptrCells_some, F20, alts20_4]
    rw [wpCall_eq hon]
    simp only [WW, partV, eqCells, eqLf, minV, maxV, ifcV, zaa, zab, zac, zad, zae, zaf, zag, zah, zai, ofConst, ofConst1, List.replicate, zaj, zak, loadOp, Go.Abs.loadCells, binV, zal, pickV, zam, zan, zao, zap, zaq, zar, zas, zat, zau, outR, resAll, resOne, zav, zaw, zax, zay, zaz, zba, zbb, zbc, zbd, zbe, zbf, zbg, zbh, zbi, zbj, zbk, storeOp, storeCell, overlay, zbl, zbm, zbn, lookupOp, keyT, okRes, mapUpdateOp, zbo, zbp, zbq, zbr, zbs, zbt, zbu, Nat.reduceSub, Nat.reduceAdd, Int.reduceLT, Int.reduceLE, Int.reduceAdd, Int.reduceSub, Int.reduceToNat, Int.reduceBEq, Int.reduceBNe, Int.reduceMul, Nat.reduceBEq, Nat.reduceBNe, Nat.reduceLT, Nat.reduceLeDiff, Nat.reduceMul, Nat.reduceEqDiff, WD, effB, effH, isPriv, isHeap, isImm, zbx, zby, zbz, chkO, setD, dslot, zca, zcb, zcc, zcd, ptrCells_some, F20, alts20_4, h0, hr.shutIn]
    rw [wpCall_eq hrv]
    simp only [WW, partV, eqCells, eqLf, minV, maxV, ifcV, zaa, zab, zac, zad, zae, zaf, zag, zah, zai, ofConst, ofConst1, List.replicate, zaj, zak, loadOp, Go.Abs.loadCells, binV, zal, pickV, zam, zan, zao, zap, zaq, zar, zas, zat, zau, outR, resAll, resOne, zav, zaw, zax, zay, zaz, zba, zbb, zbc, zbd, zbe, zbf, zbg, zbh, zbi, zbj, zbk, storeOp, storeCell, overlay, zbl, zbm, zbn, lookupOp, keyT, okRes, mapUpdateOp, zbo, zbp, zbq, zbr, zbs, zbt, zbu, Nat.reduceSub, Nat.reduceAdd, Int.reduceLT, Int.reduceLE, Int.reduceAdd, Int.reduceSub, Int.reduceToNat, Int.reduceBEq, Int.reduceBNe, Int.reduceMul, Nat.reduceBEq, Nat.reduceBNe, Nat.reduceLT, Nat.reduceLeDiff, Nat.reduceMul, Nat.reduceEqDiff, WD, effB, effH, isPriv, isHeap, isImm, zbx, zby, zbz, chkO, setD, dslot, zca, zcb, zcc, zcd, ptrCells_some, F20, h0]
    rw [wpCall_eq hvs]
    simp only [WW, partV, eqCells, eqLf, minV, maxV, ifcV, zaa, zab, zac, zad, zae, zaf, zag, zah, zai, ofConst, ofConst1, List.replicate, zaj, zak, loadOp, Go.Abs.loadCells, binV, zal, pickV, zam, zan, zao, zap, zaq, zar, zas, zat, zau, outR, resAll, resOne, zav, zaw, zax, zay, zaz, zba, zbb, zbc, zbd, zbe, zbf, zbg, zbh, zbi, zbj, zbk, storeOp, storeCell, overlay, zbl, zbm, zbn, lookupOp, keyT, okRes, mapUpdateOp, zbo, zbp, zbq, zbr, zbs, zbt, zbu, Nat.reduceSub, Nat.reduceAdd, Int.reduceLT, Int.reduceLE, Int.reduceAdd, Int.reduceSub, Int.reduceToNat, Int.reduceBEq, Int.reduceBNe, Int.reduceMul, Nat.reduceBEq, Nat.reduceBNe, Nat.reduceLT, Nat.reduceLeDiff, Nat.reduceMul, Nat.reduceEqDiff, WD, effB, effH, isPriv, isHeap, isImm, zbx, zby, zbz, chkO, setD, dslot, zca, zcb, zcc, zcd, ptrCells_some, F20, h0]
    rw [wpCall_eq hof]
    simp only [WW, partV, eqCells, eqLf, minV, maxV, ifcV, zaa, zab, zac, zad, zae, zaf, zag, zah, zai, ofConst, ofConst1, List.replicate, zaj, zak, loadOp, Go.Abs.loadCells, binV, zal, pickV, zam, zan, zao, zap, zaq, zar, zas, zat, zau, outR, resAll, resOne, zav, zaw, zax, zay, zaz, zba, zbb, zbc, zbd, zbe, zbf, zbg, zbh, zbi, zbj, zbk, storeOp, storeCell, overlay, zbl, zbm, zbn, lookupOp, keyT, okRes, mapUpdateOp, zbo, zbp, zbq, zbr, zbs, zbt, zbu, Nat.reduceSub, Nat.reduceAdd, Int.reduceLT, Int.reduceLE, Int.reduceAdd, Int.reduceSub, Int.reduceToNat, Int.reduceBEq, Int.reduceBNe, Int.reduceMul, Nat.reduceBEq, Nat.reduceBNe, Nat.reduceLT, Nat.reduceLeDiff, Nat.reduceMul, Nat.reduceEqDiff, WD, effB, effH, isPriv, isHeap, isImm, zbx, zby, zbz, chkO, setD, dslot, zca, zcb, zcc, zcd, ptrCells_some, F20, h0]
    rw [wpCall_eq (num_eq _ _)]
    simp only [WW, partV, eqCells, eqLf, minV, maxV, ifcV, zaa, zab, zac, zad, zae, zaf, zag, zah, zai, ofConst, ofConst1, List.replicate, zaj, zak, loadOp, Go.Abs.loadCells, binV, zal, pickV, zam, zan, zao, zap, zaq, zar, zas, zat, zau, outR, resAll, resOne, zav, zaw, zax, zay, zaz, zba, zbb, zbc, zbd, zbe, zbf, zbg, zbh, zbi, zbj, zbk, storeOp, storeCell, overlay, zbl, zbm, zbn, lookupOp, keyT, okRes, mapUpdateOp, zbo, zbp, zbq, zbr, zbs, zbt, zbu, Nat.reduceSub, Nat.reduceAdd, Int.reduceLT, Int.reduceLE, Int.reduceAdd, Int.reduceSub, Int.reduceToNat, Int.reduceBEq, Int.reduceBNe, Int.reduceMul, Nat.reduceBEq, Nat.reduceBNe, Nat.reduceLT, Nat.reduceLeDiff, Nat.reduceMul, Nat.reduceEqDiff, WD, effB, effH, isPriv, isHeap, isImm, zbx, zby, zbz, chkO, setD, dslot, zca, zcb, zcc, zcd, ptrCells_some, F20, h0]
    first | exact ⟨e, rfl⟩ | exact ⟨rfl, e, rfl⟩ | exact ⟨trivial, [], by simp⟩ | exact ⟨rfl, [], by simp⟩ | exact ⟨[], by simp⟩ | exact ⟨rfl, _, rfl⟩ | exact ⟨_, rfl⟩ | skip
  | true =>
    obtain ⟨k, rfl⟩ : ∃ k : Nat, n = k := ⟨n.toNat, by have := of_decide_eq_true h0; omega⟩
    clear h0
    have h0 : decide ((0 : Int) ≤ (k : Int)) = true := decide_eq_true (by omega)
    have hk0 : (0 : Int) ≤ (k : Int) := by omega
    have tl : ∀ e, ∃ b : Bool, ∃ q : Int, (decide ((k : Int) < (cnt.length : Int)) = b) ∧ EW 30 [.agg [.int .i64 (cnt.length : Int), .int .i64 gl, x], .int .i64 (k : Int)] (H ++ e) = some (.ret (.tup [.int .i64 (cntR all k), .int .i64 q]) false, H ++ e) ∧
        EW 21 [.ptr d 0 0, .int .i64 (k : Int)] (H ++ e) = some (.ret (if b = true then .tup [.int .i64 (cntR all k), .int .i64 0] else .tup [.int .i64 0, .int .i64 1]) false, H ++ e) ∧
        ((q = -1 ∧ EW 22 [.ptr d 0 0, .int .i64 (k : Int)] (H ++ e) = some (.ret (.tup [.int .i64 0, .bool false]) false, H ++ e)) ∨
         (b = true ∧ 0 ≤ q ∧ EW 22 [.ptr d 0 0, .int .i64 (k : Int)] (H ++ e) = some (.ret (.tup [.int .i64 q, .bool true]) false, H ++ e))) := fun e => by
      have R2 := R.more e
      have hr2 : Rd (H ++ e) x (rl.map verV) := (P.rs.keep (N' := RN d c all) (fun s es hs h => ⟨hs, by rw [List.getElem?_append_left (List.getElem?_eq_some_iff.1 h).1]; exact h⟩)).rd
      have hrv := rversions_eq hr2 hlr (cnt.length : Int) gl (k : Int)
      simp only [refV, cntR_key P.sm, lastR_key P.sm] at hrv
      have hvs := versions_eq R2 (k : Int)
      have hof := of_eq R2 (k : Int)
      have hlf := last_find all (k : Int) P.un
      refine ⟨_, lastR all k, rfl, hrv, ?_, ?_⟩
      · by_cases hkc : k < cnt.length
        · have hg : getCnt cnt (k : Int) = some (cntR all k : Int) := by unfold getCnt; rw [if_pos hk0]; simpa using P.cn k hkc
          rw [hg] at hvs
          have : decide ((k : Int) < (cnt.length : Int)) = true := decide_eq_true (by omega)
          rw [if_pos this]; exact hvs
        · have hg : getCnt cnt (k : Int) = none := by unfold getCnt; rw [if_pos hk0]; exact List.getElem?_eq_none (by simp; omega)
          rw [hg] at hvs
          have : ¬ decide ((k : Int) < (cnt.length : Int)) = true := by simp; omega
          rw [if_neg this]; exact hvs
      · unfold findV at hof
        cases hx : all.findIdx? (fun v => v.ok && v.f == (k : Int)) with
        | none => rw [hx] at hof hlf; simp only at hof hlf; exact .inl ⟨hlf, hof⟩
        | some i =>
          rw [hx] at hof hlf
          simp only at hof hlf
          refine .inr ⟨?_, by rw [hlf]; omega, by rw [hlf]; exact hof⟩
          rw [List.findIdx?_eq_some_iff_getElem] at hx
          obtain ⟨hi, h2, _⟩ := hx
          simp only [Bool.and_eq_true, beq_iff_eq] at h2
          have := P.vf _ (List.getElem_mem hi)
          exact decide_eq_true (by omega)
    cases h1 : decide ((k : Int) < (rl.length : Int)) with
    | false =>
      have hk1 : ¬ k < rl.length := by have := of_decide_eq_false h1; omega
      have hg : getVer all (k : Int) = none := by unfold getVer; rw [if_pos hk0]; exact List.getElem?_eq_none (by simp; omega)
      have hval : EW 15 [.ptr d 0 0, .int .i64 (k : Int)] H = some (.ret (.bool false) false, H) := by rw [valid_eq R k, hg]; rfl
      have hon : EW 12 [.ptr d 0 0, .int .i64 (k : Int)] H = some (.ret .nils false, H) := by rw [on_eq R k, hg]
      obtain ⟨b, q, hb, hrv, hvs, hof⟩ := tl []
      simp only [List.append_nil] at hrv hvs hof
      simp only [WW, partV, eqCells, eqLf, minV, maxV, ifcV, zaa, zab, zac, zad, zae, zaf, zag, zah, zai, ofConst, ofConst1, List.replicate, zaj, zak, loadOp, Go.Abs.loadCells, binV, zal, pickV, zam, zan, zao, zap, zaq, zar, zas, zat, zau, outR, resAll, resOne, zav, zaw, zax, zay, zaz, zba, zbb, zbc, zbd, zbe, zbf, zbg, zbh, zbi, zbj, zbk, storeOp, storeCell, overlay, zbl, zbm, zbn, lookupOp, keyT, okRes, mapUpdateOp, zbo, zbp, zbq, zbr, zbs, zbt, zbu, Nat.reduceSub, Nat.reduceAdd, Int.reduceLT, Int.reduceLE, Int.reduceAdd, Int.reduceSub, Int.reduceToNat, Int.reduceBEq, Int.reduceBNe, Int.reduceMul, Nat.reduceBEq, Nat.reduceBNe, Nat.reduceLT, Nat.reduceLeDiff, Nat.reduceMul, Nat.reduceEqDiff, WD, effB, effH, isPriv, isHeap, isImm, zbx, zby, zbz, chkO, setD, dslot, zca, zcb, zcc, zcd, ptrCells_some, F20, h0, h1, hr.shutIn, hrl, hc1]
      rw [wpCall_eq hval]
      simp only [WW, partV, eqCells, eqLf, minV, maxV, ifcV, zaa, zab, zac, zad, zae, zaf, zag, zah, zai, ofConst, ofConst1, List.replicate, zaj, zak, loadOp, Go.Abs.loadCells, binV, zal, pickV, zam, zan, zao, zap, zaq, zar, zas, zat, zau, outR, resAll, resOne, zav, zaw, zax, zay, zaz, zba, zbb, zbc, zbd, zbe, zbf, zbg, zbh, zbi, zbj, zbk, storeOp, storeCell, overlay, zbl, zbm, zbn, lookupOp, keyT, okRes, mapUpdateOp, zbo, zbp, zbq, zbr, zbs, zbt, zbu, Nat.reduceSub, Nat.reduceAdd, Int.reduceLT, Int.reduceLE, Int.reduceAdd, Int.reduceSub, Int.reduceToNat, Int.reduceBEq, Int.reduceBNe, Int.reduceMul, Nat.reduceBEq, Nat.reduceBNe, Nat.reduceLT, Nat.reduceLeDiff, Nat.reduceMul, Nat.reduceEqDiff, WD, effB, effH, isPriv, isHeap, isImm, zbx, zby, zbz, chkO, setD, dslot, zca, zcb, zcc, zcd, ptrCells_some, F20, h0, h1]
      refine wC_dr alts20_4 (by kernel_rfl) ?_
      simp only [WW, partV, eqCells, eqLf, minV, maxV, ifcV, zaa, zab, zac, zad, zae, zaf, zag, zah, zai, ofConst, ofConst1, List.replicate, zaj, zak, loadOp, Go.Abs.loadCells, binV, zal, pickV, zam, zan, zao, zap, zaq, zar, zas, zat, zau, outR, resAll, resOne, zav, zaw, zax, zay, zaz, zba, zbb, zbc, zbd, zbe, zbf, zbg, zbh, zbi, zbj, zbk, storeOp, storeCell, overlay, zbl, zbm, zbn, lookupOp, keyT, okRes, mapUpdateOp, zbo, zbp, zbq, zbr, zbs, zbt, zbu, Nat.reduceSub, Nat.reduceAdd, Int.reduceLT, Int.reduceLE, Int.reduceAdd, Int.reduceSub, Int.reduceToNat, Int.reduceBEq, Int.reduceBNe, Int.reduceMul, Nat.reduceBEq, Nat.reduceBNe, Nat.reduceLT, Nat.reduceLeDiff, Nat.reduceMul, Nat.reduceEqDiff, WD, effB, effH, isPriv, isHeap, isImm, zbx, zby, zbz, chkO, setD, dslot, zca, zcb, zcc, zcd, ptrCells_some, F20, alts20_4]
      rw [wpCall_eq hon]
      simp only [WW, partV, eqCells, eqLf, minV, maxV, ifcV, zaa, zab, zac, zad, zae, zaf, zag, zah, zai, ofConst, ofConst1, List.replicate, zaj, zak, loadOp, Go.Abs.loadCells, binV, zal, pickV, zam, zan, zao, zap, zaq, zar, zas, zat, zau, outR, resAll, resOne, zav, zaw, zax, zay, zaz, zba, zbb, zbc, zbd, zbe, zbf, zbg, zbh, zbi, zbj, zbk, storeOp, storeCell, overlay, zbl, zbm, zbn, lookupOp, keyT, okRes, mapUpdateOp, zbo, zbp, zbq, zbr, zbs, zbt, zbu, Nat.reduceSub, Nat.reduceAdd, Int.reduceLT, Int.reduceLE, Int.reduceAdd, Int.reduceSub, Int.reduceToNat, Int.reduceBEq, Int.reduceBNe, Int.reduceMul, Nat.reduceBEq, Nat.reduceBNe, Nat.reduceLT, Nat.reduceLeDiff, Nat.reduceMul, Nat.reduceEqDiff, WD, effB, effH, isPriv, isHeap, isImm, zbx, zby, zbz, chkO, setD, dslot, zca, zcb, zcc, zcd, ptrCells_some, F20, alts20_4, h0, hb]
      try simp only [WW, partV, eqCells, eqLf, minV, maxV, ifcV, zaa, zab, zac, zad, zae, zaf, zag, zah, zai, ofConst, ofConst1, List.replicate, zaj, zak, loadOp, Go.Abs.loadCells, binV, zal, pickV, zam, zan, zao, zap, zaq, zar, zas, zat, zau, outR, resAll, resOne, zav, zaw, zax, zay, zaz, zba, zbb, zbc, zbd, zbe, zbf, zbg, zbh, zbi, zbj, zbk, storeOp, storeCell, overlay, zbl, zbm, zbn, lookupOp, keyT, okRes, mapUpdateOp, zbo, zbp, zbq, zbr, zbs, zbt, zbu, Nat.reduceSub, Nat.reduceAdd, Int.reduceLT, Int.reduceLE, Int.reduceAdd, Int.reduceSub, Int.reduceToNat, Int.reduceBEq, Int.reduceBNe, Int.reduceMul, Nat.reduceBEq, Nat.reduceBNe, Nat.reduceLT, Nat.reduceLeDiff, Nat.reduceMul, Nat.reduceEqDiff, WD, effB, effH, isPriv, isHeap, isImm, zbx, zby, zbz, chkO, setD, dslot, zca, zcb, zcc, zcd, ptrCells_some, F20, alts20_4, h0, hb, hc1, hr.shutIn]
      cases b with
      | false =>
        simp only [Bool.false_eq_true, if_false] at hvs
        rcases hof with ⟨rfl, hof⟩ | ⟨hbt, _⟩
        · try simp only [WW, partV, eqCells, eqLf, minV, maxV, ifcV, zaa, zab, zac, zad, zae, zaf, zag, zah, zai, ofConst, ofConst1, List.replicate, zaj, zak, loadOp, Go.Abs.loadCells, binV, zal, pickV, zam, zan, zao, zap, zaq, zar, zas, zat, zau, outR, resAll, resOne, zav, zaw, zax, zay, zaz, zba, zbb, zbc, zbd, zbe, zbf, zbg, zbh, zbi, zbj, zbk, storeOp, storeCell, overlay, zbl, zbm, zbn, lookupOp, keyT, okRes, mapUpdateOp, zbo, zbp, zbq, zbr, zbs, zbt, zbu, Nat.reduceSub, Nat.reduceAdd, Int.reduceLT, Int.reduceLE, Int.reduceAdd, Int.reduceSub, Int.reduceToNat, Int.reduceBEq, Int.reduceBNe, Int.reduceMul, Nat.reduceBEq, Nat.reduceBNe, Nat.reduceLT, Nat.reduceLeDiff, Nat.reduceMul, Nat.reduceEqDiff, WD, effB, effH, isPriv, isHeap, isImm, zbx, zby, zbz, chkO, setD, dslot, zca, zcb, zcc, zcd, ptrCells_some, F20, h0, hb, hc1, hr.shutIn]
          rw [wpCall_eq hrv]
          simp only [WW, partV, eqCells, eqLf, minV, maxV, ifcV, zaa, zab, zac, zad, zae, zaf, zag, zah, zai, ofConst, ofConst1, List.replicate, zaj, zak, loadOp, Go.Abs.loadCells, binV, zal, pickV, zam, zan, zao, zap, zaq, zar, zas, zat, zau, outR, resAll, resOne, zav, zaw, zax, zay, zaz, zba, zbb, zbc, zbd, zbe, zbf, zbg, zbh, zbi, zbj, zbk, storeOp, storeCell, overlay, zbl, zbm, zbn, lookupOp, keyT, okRes, mapUpdateOp, zbo, zbp, zbq, zbr, zbs, zbt, zbu, Nat.reduceSub, Nat.reduceAdd, Int.reduceLT, Int.reduceLE, Int.reduceAdd, Int.reduceSub, Int.reduceToNat, Int.reduceBEq, Int.reduceBNe, Int.reduceMul, Nat.reduceBEq, Nat.reduceBNe, Nat.reduceLT, Nat.reduceLeDiff, Nat.reduceMul, Nat.reduceEqDiff, WD, effB, effH, isPriv, isHeap, isImm, zbx, zby, zbz, chkO, setD, dslot, zca, zcb, zcc, zcd, ptrCells_some, F20, h0, hb]
          rw [wpCall_eq hvs]
          simp only [WW, partV, eqCells, eqLf, minV, maxV, ifcV, zaa, zab, zac, zad, zae, zaf, zag, zah, zai, ofConst, ofConst1, List.replicate, zaj, zak, loadOp, Go.Abs.loadCells, binV, zal, pickV, zam, zan, zao, zap, zaq, zar, zas, zat, zau, outR, resAll, resOne, zav, zaw, zax, zay, zaz, zba, zbb, zbc, zbd, zbe, zbf, zbg, zbh, zbi, zbj, zbk, storeOp, storeCell, overlay, zbl, zbm, zbn, lookupOp, keyT, okRes, mapUpdateOp, zbo, zbp, zbq, zbr, zbs, zbt, zbu, Nat.reduceSub, Nat.reduceAdd, Int.reduceLT, Int.reduceLE, Int.reduceAdd, Int.reduceSub, Int.reduceToNat, Int.reduceBEq, Int.reduceBNe, Int.reduceMul, Nat.reduceBEq, Nat.reduceBNe, Nat.reduceLT, Nat.reduceLeDiff, Nat.reduceMul, Nat.reduceEqDiff, WD, effB, effH, isPriv, isHeap, isImm, zbx, zby, zbz, chkO, setD, dslot, zca, zcb, zcc, zcd, ptrCells_some, F20, h0, hb]
          rw [wpCall_eq hof]
          simp only [WW, partV, eqCells, eqLf, minV, maxV, ifcV, zaa, zab, zac, zad, zae, zaf, zag, zah, zai, ofConst, ofConst1, List.replicate, zaj, zak, loadOp, Go.Abs.loadCells, binV, zal, pickV, zam, zan, zao, zap, zaq, zar, zas, zat, zau, outR, resAll, resOne, zav, zaw, zax, zay, zaz, zba, zbb, zbc, zbd, zbe, zbf, zbg, zbh, zbi, zbj, zbk, storeOp, storeCell, overlay, zbl, zbm, zbn, lookupOp, keyT, okRes, mapUpdateOp, zbo, zbp, zbq, zbr, zbs, zbt, zbu, Nat.reduceSub, Nat.reduceAdd, Int.reduceLT, Int.reduceLE, Int.reduceAdd, Int.reduceSub, Int.reduceToNat, Int.reduceBEq, Int.reduceBNe, Int.reduceMul, Nat.reduceBEq, Nat.reduceBNe, Nat.reduceLT, Nat.reduceLeDiff, Nat.reduceMul, Nat.reduceEqDiff, WD, effB, effH, isPriv, isHeap, isImm, zbx, zby, zbz, chkO, setD, dslot, zca, zcb, zcc, zcd, ptrCells_some, F20, h0, hb]
          rw [wpCall_eq (num_eq _ _)]
          simp only [WW, partV, eqCells, eqLf, minV, maxV, ifcV, zaa, zab, zac, zad, zae, zaf, zag, zah, zai, ofConst, ofConst1, List.replicate, zaj, zak, loadOp, Go.Abs.loadCells, binV, zal, pickV, zam, zan, zao, zap, zaq, zar, zas, zat, zau, outR, resAll, resOne, zav, zaw, zax, zay, zaz, zba, zbb, zbc, zbd, zbe, zbf, zbg, zbh, zbi, zbj, zbk, storeOp, storeCell, overlay, zbl, zbm, zbn, lookupOp, keyT, okRes, mapUpdateOp, zbo, zbp, zbq, zbr, zbs, zbt, zbu, Nat.reduceSub, Nat.reduceAdd, Int.reduceLT, Int.reduceLE, Int.reduceAdd, Int.reduceSub, Int.reduceToNat, Int.reduceBEq, Int.reduceBNe, Int.reduceMul, Nat.reduceBEq, Nat.reduceBNe, Nat.reduceLT, Nat.reduceLeDiff, Nat.reduceMul, Nat.reduceEqDiff, WD, effB, effH, isPriv, isHeap, isImm, zbx, zby, zbz, chkO, setD, dslot, zca, zcb, zcc, zcd, ptrCells_some, F20, h0, hb]
          first | exact ⟨e, rfl⟩ | exact ⟨rfl, e, rfl⟩ | exact ⟨trivial, [], by simp⟩ | exact ⟨rfl, [], by simp⟩ | exact ⟨[], by simp⟩ | exact ⟨rfl, _, rfl⟩ | exact ⟨_, rfl⟩ | skip
        · cases hbt
      | true =>
        simp only [if_true] at hvs
        have hnc : ((cntR all (k : Int) : Int) != (cntR all (k : Int) : Int)) = false := bne_self_eq_false _
        rcases hof with ⟨rfl, hof⟩ | ⟨_, hq, hof⟩
        · try simp only [WW, partV, eqCells, eqLf, minV, maxV, ifcV, zaa, zab, zac, zad, zae, zaf, zag, zah, zai, ofConst, ofConst1, List.replicate, zaj, zak, loadOp, Go.Abs.loadCells, binV, zal, pickV, zam, zan, zao, zap, zaq, zar, zas, zat, zau, outR, resAll, resOne, zav, zaw, zax, zay, zaz, zba, zbb, zbc, zbd, zbe, zbf, zbg, zbh, zbi, zbj, zbk, storeOp, storeCell, overlay, zbl, zbm, zbn, lookupOp, keyT, okRes, mapUpdateOp, zbo, zbp, zbq, zbr, zbs, zbt, zbu, Nat.reduceSub, Nat.reduceAdd, Int.reduceLT, Int.reduceLE, Int.reduceAdd, Int.reduceSub, Int.reduceToNat, Int.reduceBEq, Int.reduceBNe, Int.reduceMul, Nat.reduceBEq, Nat.reduceBNe, Nat.reduceLT, Nat.reduceLeDiff, Nat.reduceMul, Nat.reduceEqDiff, WD, effB, effH, isPriv, isHeap, isImm, zbx, zby, zbz, chkO, setD, dslot, zca, zcb, zcc, zcd, ptrCells_some, F20, h0, hb, hc1, hr.shutIn]
          rw [wpCall_eq hrv]
          simp only [WW, partV, eqCells, eqLf, minV, maxV, ifcV, zaa, zab, zac, zad, zae, zaf, zag, zah, zai, ofConst, ofConst1, List.replicate, zaj, zak, loadOp, Go.Abs.loadCells, binV, zal, pickV, zam, zan, zao, zap, zaq, zar, zas, zat, zau, outR, resAll, resOne, zav, zaw, zax, zay, zaz, zba, zbb, zbc, zbd, zbe, zbf, zbg, zbh, zbi, zbj, zbk, storeOp, storeCell, overlay, zbl, zbm, zbn, lookupOp, keyT, okRes, mapUpdateOp, zbo, zbp, zbq, zbr, zbs, zbt, zbu, Nat.reduceSub, Nat.reduceAdd, Int.reduceLT, Int.reduceLE, Int.reduceAdd, Int.reduceSub, Int.reduceToNat, Int.reduceBEq, Int.reduceBNe, Int.reduceMul, Nat.reduceBEq, Nat.reduceBNe, Nat.reduceLT, Nat.reduceLeDiff, Nat.reduceMul, Nat.reduceEqDiff, WD, effB, effH, isPriv, isHeap, isImm, zbx, zby, zbz, chkO, setD, dslot, zca, zcb, zcc, zcd, ptrCells_some, F20, h0, hb]
          rw [wpCall_eq hvs]
          simp only [WW, partV, eqCells, eqLf, minV, maxV, ifcV, zaa, zab, zac, zad, zae, zaf, zag, zah, zai, ofConst, ofConst1, List.replicate, zaj, zak, loadOp, Go.Abs.loadCells, binV, zal, pickV, zam, zan, zao, zap, zaq, zar, zas, zat, zau, outR, resAll, resOne, zav, zaw, zax, zay, zaz, zba, zbb, zbc, zbd, zbe, zbf, zbg, zbh, zbi, zbj, zbk, storeOp, storeCell, overlay, zbl, zbm, zbn, lookupOp, keyT, okRes, mapUpdateOp, zbo, zbp, zbq, zbr, zbs, zbt, zbu, Nat.reduceSub, Nat.reduceAdd, Int.reduceLT, Int.reduceLE, Int.reduceAdd, Int.reduceSub, Int.reduceToNat, Int.reduceBEq, Int.reduceBNe, Int.reduceMul, Nat.reduceBEq, Nat.reduceBNe, Nat.reduceLT, Nat.reduceLeDiff, Nat.reduceMul, Nat.reduceEqDiff, WD, effB, effH, isPriv, isHeap, isImm, zbx, zby, zbz, chkO, setD, dslot, zca, zcb, zcc, zcd, ptrCells_some, F20, h0, hb]
          rw [wpCall_eq hof]
          simp only [WW, partV, eqCells, eqLf, minV, maxV, ifcV, zaa, zab, zac, zad, zae, zaf, zag, zah, zai, ofConst, ofConst1, List.replicate, zaj, zak, loadOp, Go.Abs.loadCells, binV, zal, pickV, zam, zan, zao, zap, zaq, zar, zas, zat, zau, outR, resAll, resOne, zav, zaw, zax, zay, zaz, zba, zbb, zbc, zbd, zbe, zbf, zbg, zbh, zbi, zbj, zbk, storeOp, storeCell, overlay, zbl, zbm, zbn, lookupOp, keyT, okRes, mapUpdateOp, zbo, zbp, zbq, zbr, zbs, zbt, zbu, Nat.reduceSub, Nat.reduceAdd, Int.reduceLT, Int.reduceLE, Int.reduceAdd, Int.reduceSub, Int.reduceToNat, Int.reduceBEq, Int.reduceBNe, Int.reduceMul, Nat.reduceBEq, Nat.reduceBNe, Nat.reduceLT, Nat.reduceLeDiff, Nat.reduceMul, Nat.reduceEqDiff, WD, effB, effH, isPriv, isHeap, isImm, zbx, zby, zbz, chkO, setD, dslot, zca, zcb, zcc, zcd, ptrCells_some, F20, h0, hb]
          rw [wpCall_eq (num_eq _ _)]
          simp only [WW, partV, eqCells, eqLf, minV, maxV, ifcV, zaa, zab, zac, zad, zae, zaf, zag, zah, zai, ofConst, ofConst1, List.replicate, zaj, zak, loadOp, Go.Abs.loadCells, binV, zal, pickV, zam, zan, zao, zap, zaq, zar, zas, zat, zau, outR, resAll, resOne, zav, zaw, zax, zay, zaz, zba, zbb, zbc, zbd, zbe, zbf, zbg, zbh, zbi, zbj, zbk, storeOp, storeCell, overlay, zbl, zbm, zbn, lookupOp, keyT, okRes, mapUpdateOp, zbo, zbp, zbq, zbr, zbs, zbt, zbu, Nat.reduceSub, Nat.reduceAdd, Int.reduceLT, Int.reduceLE, Int.reduceAdd, Int.reduceSub, Int.reduceToNat, Int.reduceBEq, Int.reduceBNe, Int.reduceMul, Nat.reduceBEq, Nat.reduceBNe, Nat.reduceLT, Nat.reduceLeDiff, Nat.reduceMul, Nat.reduceEqDiff, WD, effB, effH, isPriv, isHeap, isImm, zbx, zby, zbz, chkO, setD, dslot, zca, zcb, zcc, zcd, ptrCells_some, F20, h0, hb, hnc]
          first | exact ⟨e, rfl⟩ | exact ⟨rfl, e, rfl⟩ | exact ⟨trivial, [], by simp⟩ | exact ⟨rfl, [], by simp⟩ | exact ⟨[], by simp⟩ | exact ⟨rfl, _, rfl⟩ | exact ⟨_, rfl⟩ | skip
        · have hq2 : decide ((0 : Int) ≤ q) = true := decide_eq_true hq
          have hqq : (q == q) = true := beq_self_eq_true q
          try simp only [WW, partV, eqCells, eqLf, minV, maxV, ifcV, zaa, zab, zac, zad, zae, zaf, zag, zah, zai, ofConst, ofConst1, List.replicate, zaj, zak, loadOp, Go.Abs.loadCells, binV, zal, pickV, zam, zan, zao, zap, zaq, zar, zas, zat, zau, outR, resAll, resOne, zav, zaw, zax, zay, zaz, zba, zbb, zbc, zbd, zbe, zbf, zbg, zbh, zbi, zbj, zbk, storeOp, storeCell, overlay, zbl, zbm, zbn, lookupOp, keyT, okRes, mapUpdateOp, zbo, zbp, zbq, zbr, zbs, zbt, zbu, Nat.reduceSub, Nat.reduceAdd, Int.reduceLT, Int.reduceLE, Int.reduceAdd, Int.reduceSub, Int.reduceToNat, Int.reduceBEq, Int.reduceBNe, Int.reduceMul, Nat.reduceBEq, Nat.reduceBNe, Nat.reduceLT, Nat.reduceLeDiff, Nat.reduceMul, Nat.reduceEqDiff, WD, effB, effH, isPriv, isHeap, isImm, zbx, zby, zbz, chkO, setD, dslot, zca, zcb, zcc, zcd, ptrCells_some, F20, h0, hb, hc1, hr.shutIn]
          rw [wpCall_eq hrv]
          simp only [WW, partV, eqCells, eqLf, minV, maxV, ifcV, zaa, zab, zac, zad, zae, zaf, zag, zah, zai, ofConst, ofConst1, List.replicate, zaj, zak, loadOp, Go.Abs.loadCells, binV, zal, pickV, zam, zan, zao, zap, zaq, zar, zas, zat, zau, outR, resAll, resOne, zav, zaw, zax, zay, zaz, zba, zbb, zbc, zbd, zbe, zbf, zbg, zbh, zbi, zbj, zbk, storeOp, storeCell, overlay, zbl, zbm, zbn, lookupOp, keyT, okRes, mapUpdateOp, zbo, zbp, zbq, zbr, zbs, zbt, zbu, Nat.reduceSub, Nat.reduceAdd, Int.reduceLT, Int.reduceLE, Int.reduceAdd, Int.reduceSub, Int.reduceToNat, Int.reduceBEq, Int.reduceBNe, Int.reduceMul, Nat.reduceBEq, Nat.reduceBNe, Nat.reduceLT, Nat.reduceLeDiff, Nat.reduceMul, Nat.reduceEqDiff, WD, effB, effH, isPriv, isHeap, isImm, zbx, zby, zbz, chkO, setD, dslot, zca, zcb, zcc, zcd, ptrCells_some, F20, h0, hb]
          rw [wpCall_eq hvs]
          simp only [WW, partV, eqCells, eqLf, minV, maxV, ifcV, zaa, zab, zac, zad, zae, zaf, zag, zah, zai, ofConst, ofConst1, List.replicate, zaj, zak, loadOp, Go.Abs.loadCells, binV, zal, pickV, zam, zan, zao, zap, zaq, zar, zas, zat, zau, outR, resAll, resOne, zav, zaw, zax, zay, zaz, zba, zbb, zbc, zbd, zbe, zbf, zbg, zbh, zbi, zbj, zbk, storeOp, storeCell, overlay, zbl, zbm, zbn, lookupOp, keyT, okRes, mapUpdateOp, zbo, zbp, zbq, zbr, zbs, zbt, zbu, Nat.reduceSub, Nat.reduceAdd, Int.reduceLT, Int.reduceLE, Int.reduceAdd, Int.reduceSub, Int.reduceToNat, Int.reduceBEq, Int.reduceBNe, Int.reduceMul, Nat.reduceBEq, Nat.reduceBNe, Nat.reduceLT, Nat.reduceLeDiff, Nat.reduceMul, Nat.reduceEqDiff, WD, effB, effH, isPriv, isHeap, isImm, zbx, zby, zbz, chkO, setD, dslot, zca, zcb, zcc, zcd, ptrCells_some, F20, h0, hb]
          rw [wpCall_eq hof]
          simp only [WW, partV, eqCells, eqLf, minV, maxV, ifcV, zaa, zab, zac, zad, zae, zaf, zag, zah, zai, ofConst, ofConst1, List.replicate, zaj, zak, loadOp, Go.Abs.loadCells, binV, zal, pickV, zam, zan, zao, zap, zaq, zar, zas, zat, zau, outR, resAll, resOne, zav, zaw, zax, zay, zaz, zba, zbb, zbc, zbd, zbe, zbf, zbg, zbh, zbi, zbj, zbk, storeOp, storeCell, overlay, zbl, zbm, zbn, lookupOp, keyT, okRes, mapUpdateOp, zbo, zbp, zbq, zbr, zbs, zbt, zbu, Nat.reduceSub, Nat.reduceAdd, Int.reduceLT, Int.reduceLE, Int.reduceAdd, Int.reduceSub, Int.reduceToNat, Int.reduceBEq, Int.reduceBNe, Int.reduceMul, Nat.reduceBEq, Nat.reduceBNe, Nat.reduceLT, Nat.reduceLeDiff, Nat.reduceMul, Nat.reduceEqDiff, WD, effB, effH, isPriv, isHeap, isImm, zbx, zby, zbz, chkO, setD, dslot, zca, zcb, zcc, zcd, ptrCells_some, F20, h0, hb]
          rw [wpCall_eq (num_eq _ _)]
          simp only [WW, partV, eqCells, eqLf, minV, maxV, ifcV, zaa, zab, zac, zad, zae, zaf, zag, zah, zai, ofConst, ofConst1, List.replicate, zaj, zak, loadOp, Go.Abs.loadCells, binV, zal, pickV, zam, zan, zao, zap, zaq, zar, zas, zat, zau, outR, resAll, resOne, zav, zaw, zax, zay, zaz, zba, zbb, zbc, zbd, zbe, zbf, zbg, zbh, zbi, zbj, zbk, storeOp, storeCell, overlay, zbl, zbm, zbn, lookupOp, keyT, okRes, mapUpdateOp, zbo, zbp, zbq, zbr, zbs, zbt, zbu, Nat.reduceSub, Nat.reduceAdd, Int.reduceLT, Int.reduceLE, Int.reduceAdd, Int.reduceSub, Int.reduceToNat, Int.reduceBEq, Int.reduceBNe, Int.reduceMul, Nat.reduceBEq, Nat.reduceBNe, Nat.reduceLT, Nat.reduceLeDiff, Nat.reduceMul, Nat.reduceEqDiff, WD, effB, effH, isPriv, isHeap, isImm, zbx, zby, zbz, chkO, setD, dslot, zca, zcb, zcc, zcd, ptrCells_some, F20, h0, hb, hnc, hq2, hqq]
          first | exact ⟨e, rfl⟩ | exact ⟨rfl, e, rfl⟩ | exact ⟨trivial, [], by simp⟩ | exact ⟨rfl, [], by simp⟩ | exact ⟨[], by simp⟩ | exact ⟨rfl, _, rfl⟩ | exact ⟨_, rfl⟩ | skip
    | true =>
      have hk1 : k < rl.length := by have := of_decide_eq_true h1; omega
      have hv : rl[k]? = some rl[k] := List.getElem?_eq_getElem hk1
      generalize rl[k] = v at hv
      obtain ⟨w, hw, e0, e1, e2⟩ := key_some P.sm hv
      have hg : getVer all (k : Int) = some w := by unfold getVer; rw [if_pos hk0]; simpa using hw
      have hval : EW 15 [.ptr d 0 0, .int .i64 (k : Int)] H = some (.ret (.bool v.ok) false, H) := by rw [valid_eq R k, hg]; simp [e2]
      have hon : EW 12 [.ptr d 0 0, .int .i64 (k : Int)] H = some (.ret (cloneR w.on w.l H).1 false, (cloneR w.on w.l H).2) := by rw [on_eq R k, hg]
      obtain ⟨e, he⟩ := clone_ex w.on w.l H
      have hcl := clone_sx (R.sx (List.mem_of_getElem? hw))
      have hcs : ∀ st, sealV st (cloneR w.on w.l H).1 = (cloneR w.on w.l H).1 := fun st => by
        unfold cloneR; split
        · rfl
        · split <;> rfl
      have hgr : growsAs [] (.v (cloneR w.on w.l H).1) = false := by
        unfold cloneR; split
        · rfl
        · split <;> rfl
      rw [he] at hon hcl
      generalize (cloneR w.on w.l H).1 = y at hon hcl hcs hgr
      have hr2 : Rd (H ++ e) x (rl.map verV) := (P.rs.keep (N' := RN d c all) (fun s es hs h => ⟨hs, by rw [List.getElem?_append_left (List.getElem?_eq_some_iff.1 h).1]; exact h⟩)).rd
      have hvo := (P.on v (List.mem_of_getElem? hv))
      have hvr := hvo.1.rd (H ++ e)
      have hsd : EW 13 [y, v.on] (H ++ e) = some (.ret (.bool true) false, H ++ e) := by
        rw [sameDeps_eq hcl.rd hvr (by rw [e1]; exact hvo.2), e1]; simp
      have hat := verAt hr hv
      have hat2 := verAt hr2 hv
      have hav : ∀ i o, atV (H ++ e) x i o = atV H x i o := P.rs.atV _
      have h2a := hat2.at1 hr2
      have h2c := hat2.cells
      have h2f := hat2.fa
      simp only [hav] at h2a h2c h2f
      have hnb : (v.ok != v.ok) = false := bne_self_eq_false _
      have hso : ∀ st, sealV st v.on = v.on := hvr.shutIn
      have hci : ∀ n, clipV n v.on = v.on := hvr.clip
      obtain ⟨b, q, hb, hrv, hvs, hof⟩ := tl e
      simp only [WW, partV, eqCells, eqLf, minV, maxV, ifcV, zaa, zab, zac, zad, zae, zaf, zag, zah, zai, ofConst, ofConst1, List.replicate, zaj, zak, loadOp, Go.Abs.loadCells, binV, zal, pickV, zam, zan, zao, zap, zaq, zar, zas, zat, zau, outR, resAll, resOne, zav, zaw, zax, zay, zaz, zba, zbb, zbc, zbd, zbe, zbf, zbg, zbh, zbi, zbj, zbk, storeOp, storeCell, overlay, zbl, zbm, zbn, lookupOp, keyT, okRes, mapUpdateOp, zbo, zbp, zbq, zbr, zbs, zbt, zbu, Nat.reduceSub, Nat.reduceAdd, Int.reduceLT, Int.reduceLE, Int.reduceAdd, Int.reduceSub, Int.reduceToNat, Int.reduceBEq, Int.reduceBNe, Int.reduceMul, Nat.reduceBEq, Nat.reduceBNe, Nat.reduceLT, Nat.reduceLeDiff, Nat.reduceMul, Nat.reduceEqDiff, WD, effB, effH, isPriv, isHeap, isImm, zbx, zby, zbz, chkO, setD, dslot, zca, zcb, zcc, zcd, ptrCells_some, F20, h0, h1, hr.shutIn, hrl, hc1]
      rw [wpCall_eq hval]
      simp only [WW, partV, eqCells, eqLf, minV, maxV, ifcV, zaa, zab, zac, zad, zae, zaf, zag, zah, zai, ofConst, ofConst1, List.replicate, zaj, zak, loadOp, Go.Abs.loadCells, binV, zal, pickV, zam, zan, zao, zap, zaq, zar, zas, zat, zau, outR, resAll, resOne, zav, zaw, zax, zay, zaz, zba, zbb, zbc, zbd, zbe, zbf, zbg, zbh, zbi, zbj, zbk, storeOp, storeCell, overlay, zbl, zbm, zbn, lookupOp, keyT, okRes, mapUpdateOp, zbo, zbp, zbq, zbr, zbs, zbt, zbu, Nat.reduceSub, Nat.reduceAdd, Int.reduceLT, Int.reduceLE, Int.reduceAdd, Int.reduceSub, Int.reduceToNat, Int.reduceBEq, Int.reduceBNe, Int.reduceMul, Nat.reduceBEq, Nat.reduceBNe, Nat.reduceLT, Nat.reduceLeDiff, Nat.reduceMul, Nat.reduceEqDiff, WD, effB, effH, isPriv, isHeap, isImm, zbx, zby, zbz, chkO, setD, dslot, zca, zcb, zcc, zcd, ptrCells_some, F20, h0, h1, hr.shutIn, hc1, hat.at1 hr, hat.cells, hat.fa, verV, hnb]
      refine wC_dr alts20_4 (by kernel_rfl) ?_
      simp only [WW, partV, eqCells, eqLf, minV, maxV, ifcV, zaa, zab, zac, zad, zae, zaf, zag, zah, zai, ofConst, ofConst1, List.replicate, zaj, zak, loadOp, Go.Abs.loadCells, binV, zal, pickV, zam, zan, zao, zap, zaq, zar, zas, zat, zau, outR, resAll, resOne, zav, zaw, zax, zay, zaz, zba, zbb, zbc, zbd, zbe, zbf, zbg, zbh, zbi, zbj, zbk, storeOp, storeCell, overlay, zbl, zbm, zbn, lookupOp, keyT, okRes, mapUpdateOp, zbo, zbp, zbq, zbr, zbs, zbt, zbu, Nat.reduceSub, Nat.reduceAdd, Int.reduceLT, Int.reduceLE, Int.reduceAdd, Int.reduceSub, Int.reduceToNat, Int.reduceBEq, Int.reduceBNe, Int.reduceMul, Nat.reduceBEq, Nat.reduceBNe, Nat.reduceLT, Nat.reduceLeDiff, Nat.reduceMul, Nat.reduceEqDiff, WD, effB, effH, isPriv, isHeap, isImm, zbx, zby, zbz, chkO, setD, dslot, zca, zcb, zcc, zcd, ptrCells_some, F20, alts20_4]
      rw [wpCall_eq hon]
      simp only [WW, partV, eqCells, eqLf, minV, maxV, ifcV, zaa, zab, zac, zad, zae, zaf, zag, zah, zai, ofConst, ofConst1, List.replicate, zaj, zak, loadOp, Go.Abs.loadCells, binV, zal, pickV, zam, zan, zao, zap, zaq, zar, zas, zat, zau, outR, resAll, resOne, zav, zaw, zax, zay, zaz, zba, zbb, zbc, zbd, zbe, zbf, zbg, zbh, zbi, zbj, zbk, storeOp, storeCell, overlay, zbl, zbm, zbn, lookupOp, keyT, okRes, mapUpdateOp, zbo, zbp, zbq, zbr, zbs, zbt, zbu, Nat.reduceSub, Nat.reduceAdd, Int.reduceLT, Int.reduceLE, Int.reduceAdd, Int.reduceSub, Int.reduceToNat, Int.reduceBEq, Int.reduceBNe, Int.reduceMul, Nat.reduceBEq, Nat.reduceBNe, Nat.reduceLT, Nat.reduceLeDiff, Nat.reduceMul, Nat.reduceEqDiff, WD, effB, effH, isPriv, isHeap, isImm, zbx, zby, zbz, chkO, setD, dslot, zca, zcb, zcc, zcd, ptrCells_some, F20, alts20_4, h0, hb, hc1, hr2.shutIn, hr.shutIn, hcs, hgr, hat.at1 hr, hat.cells, hat.fa, h2a, h2c, h2f, verV, hso, hci]
      rw [wpCall_eq hsd]
      try simp only [WW, partV, eqCells, eqLf, minV, maxV, ifcV, zaa, zab, zac, zad, zae, zaf, zag, zah, zai, ofConst, ofConst1, List.replicate, zaj, zak, loadOp, Go.Abs.loadCells, binV, zal, pickV, zam, zan, zao, zap, zaq, zar, zas, zat, zau, outR, resAll, resOne, zav, zaw, zax, zay, zaz, zba, zbb, zbc, zbd, zbe, zbf, zbg, zbh, zbi, zbj, zbk, storeOp, storeCell, overlay, zbl, zbm, zbn, lookupOp, keyT, okRes, mapUpdateOp, zbo, zbp, zbq, zbr, zbs, zbt, zbu, Nat.reduceSub, Nat.reduceAdd, Int.reduceLT, Int.reduceLE, Int.reduceAdd, Int.reduceSub, Int.reduceToNat, Int.reduceBEq, Int.reduceBNe, Int.reduceMul, Nat.reduceBEq, Nat.reduceBNe, Nat.reduceLT, Nat.reduceLeDiff, Nat.reduceMul, Nat.reduceEqDiff, WD, effB, effH, isPriv, isHeap, isImm, zbx, zby, zbz, chkO, setD, dslot, zca, zcb, zcc, zcd, ptrCells_some, F20, alts20_4, h0, hb, hc1, hok, hr.shutIn, hr2.shutIn, hat.at1 hr, hat.cells, hat.fa, h2a, h2c, h2f, verV, hso, hci, hcs, hgr]
      cases b with
      | false =>
        simp only [Bool.false_eq_true, if_false] at hvs
        rcases hof with ⟨rfl, hof⟩ | ⟨hbt, _⟩
        · try simp only [WW, partV, eqCells, eqLf, minV, maxV, ifcV, zaa, zab, zac, zad, zae, zaf, zag, zah, zai, ofConst, ofConst1, List.replicate, zaj, zak, loadOp, Go.Abs.loadCells, binV, zal, pickV, zam, zan, zao, zap, zaq, zar, zas, zat, zau, outR, resAll, resOne, zav, zaw, zax, zay, zaz, zba, zbb, zbc, zbd, zbe, zbf, zbg, zbh, zbi, zbj, zbk, storeOp, storeCell, overlay, zbl, zbm, zbn, lookupOp, keyT, okRes, mapUpdateOp, zbo, zbp, zbq, zbr, zbs, zbt, zbu, Nat.reduceSub, Nat.reduceAdd, Int.reduceLT, Int.reduceLE, Int.reduceAdd, Int.reduceSub, Int.reduceToNat, Int.reduceBEq, Int.reduceBNe, Int.reduceMul, Nat.reduceBEq, Nat.reduceBNe, Nat.reduceLT, Nat.reduceLeDiff, Nat.reduceMul, Nat.reduceEqDiff, WD, effB, effH, isPriv, isHeap, isImm, zbx, zby, zbz, chkO, setD, dslot, zca, zcb, zcc, zcd, ptrCells_some, F20, h0, hb, hc1, hr2.shutIn]
          rw [wpCall_eq hrv]
          simp only [WW, partV, eqCells, eqLf, minV, maxV, ifcV, zaa, zab, zac, zad, zae, zaf, zag, zah, zai, ofConst, ofConst1, List.replicate, zaj, zak, loadOp, Go.Abs.loadCells, binV, zal, pickV, zam, zan, zao, zap, zaq, zar, zas, zat, zau, outR, resAll, resOne, zav, zaw, zax, zay, zaz, zba, zbb, zbc, zbd, zbe, zbf, zbg, zbh, zbi, zbj, zbk, storeOp, storeCell, overlay, zbl, zbm, zbn, lookupOp, keyT, okRes, mapUpdateOp, zbo, zbp, zbq, zbr, zbs, zbt, zbu, Nat.reduceSub, Nat.reduceAdd, Int.reduceLT, Int.reduceLE, Int.reduceAdd, Int.reduceSub, Int.reduceToNat, Int.reduceBEq, Int.reduceBNe, Int.reduceMul, Nat.reduceBEq, Nat.reduceBNe, Nat.reduceLT, Nat.reduceLeDiff, Nat.reduceMul, Nat.reduceEqDiff, WD, effB, effH, isPriv, isHeap, isImm, zbx, zby, zbz, chkO, setD, dslot, zca, zcb, zcc, zcd, ptrCells_some, F20, h0, hb]
          rw [wpCall_eq hvs]
          simp only [WW, partV, eqCells, eqLf, minV, maxV, ifcV, zaa, zab, zac, zad, zae, zaf, zag, zah, zai, ofConst, ofConst1, List.replicate, zaj, zak, loadOp, Go.Abs.loadCells, binV, zal, pickV, zam, zan, zao, zap, zaq, zar, zas, zat, zau, outR, resAll, resOne, zav, zaw, zax, zay, zaz, zba, zbb, zbc, zbd, zbe, zbf, zbg, zbh, zbi, zbj, zbk, storeOp, storeCell, overlay, zbl, zbm, zbn, lookupOp, keyT, okRes, mapUpdateOp, zbo, zbp, zbq, zbr, zbs, zbt, zbu, Nat.reduceSub, Nat.reduceAdd, Int.reduceLT, Int.reduceLE, Int.reduceAdd, Int.reduceSub, Int.reduceToNat, Int.reduceBEq, Int.reduceBNe, Int.reduceMul, Nat.reduceBEq, Nat.reduceBNe, Nat.reduceLT, Nat.reduceLeDiff, Nat.reduceMul, Nat.reduceEqDiff, WD, effB, effH, isPriv, isHeap, isImm, zbx, zby, zbz, chkO, setD, dslot, zca, zcb, zcc, zcd, ptrCells_some, F20, h0, hb]
          rw [wpCall_eq hof]
          simp only [WW, partV, eqCells, eqLf, minV, maxV, ifcV, zaa, zab, zac, zad, zae, zaf, zag, zah, zai, ofConst, ofConst1, List.replicate, zaj, zak, loadOp, Go.Abs.loadCells, binV, zal, pickV, zam, zan, zao, zap, zaq, zar, zas, zat, zau, outR, resAll, resOne, zav, zaw, zax, zay, zaz, zba, zbb, zbc, zbd, zbe, zbf, zbg, zbh, zbi, zbj, zbk, storeOp, storeCell, overlay, zbl, zbm, zbn, lookupOp, keyT, okRes, mapUpdateOp, zbo, zbp, zbq, zbr, zbs, zbt, zbu, Nat.reduceSub, Nat.reduceAdd, Int.reduceLT, Int.reduceLE, Int.reduceAdd, Int.reduceSub, Int.reduceToNat, Int.reduceBEq, Int.reduceBNe, Int.reduceMul, Nat.reduceBEq, Nat.reduceBNe, Nat.reduceLT, Nat.reduceLeDiff, Nat.reduceMul, Nat.reduceEqDiff, WD, effB, effH, isPriv, isHeap, isImm, zbx, zby, zbz, chkO, setD, dslot, zca, zcb, zcc, zcd, ptrCells_some, F20, h0, hb]
          rw [wpCall_eq (num_eq _ _)]
          simp only [WW, partV, eqCells, eqLf, minV, maxV, ifcV, zaa, zab, zac, zad, zae, zaf, zag, zah, zai, ofConst, ofConst1, List.replicate, zaj, zak, loadOp, Go.Abs.loadCells, binV, zal, pickV, zam, zan, zao, zap, zaq, zar, zas, zat, zau, outR, resAll, resOne, zav, zaw, zax, zay, zaz, zba, zbb, zbc, zbd, zbe, zbf, zbg, zbh, zbi, zbj, zbk, storeOp, storeCell, overlay, zbl, zbm, zbn, lookupOp, keyT, okRes, mapUpdateOp, zbo, zbp, zbq, zbr, zbs, zbt, zbu, Nat.reduceSub, Nat.reduceAdd, Int.reduceLT, Int.reduceLE, Int.reduceAdd, Int.reduceSub, Int.reduceToNat, Int.reduceBEq, Int.reduceBNe, Int.reduceMul, Nat.reduceBEq, Nat.reduceBNe, Nat.reduceLT, Nat.reduceLeDiff, Nat.reduceMul, Nat.reduceEqDiff, WD, effB, effH, isPriv, isHeap, isImm, zbx, zby, zbz, chkO, setD, dslot, zca, zcb, zcc, zcd, ptrCells_some, F20, h0, hb]
          first | exact ⟨e, rfl⟩ | exact ⟨rfl, e, rfl⟩ | exact ⟨trivial, [], by simp⟩ | exact ⟨rfl, [], by simp⟩ | exact ⟨[], by simp⟩ | exact ⟨rfl, _, rfl⟩ | exact ⟨_, rfl⟩ | skip
        · cases hbt
      | true =>
        simp only [if_true] at hvs
        have hnc : ((cntR all (k : Int) : Int) != (cntR all (k : Int) : Int)) = false := bne_self_eq_false _
        rcases hof with ⟨rfl, hof⟩ | ⟨_, hq, hof⟩
        · try simp only [WW, partV, eqCells, eqLf, minV, maxV, ifcV, zaa, zab, zac, zad, zae, zaf, zag, zah, zai, ofConst, ofConst1, List.replicate, zaj, zak, loadOp, Go.Abs.loadCells, binV, zal, pickV, zam, zan, zao, zap, zaq, zar, zas, zat, zau, outR, resAll, resOne, zav, zaw, zax, zay, zaz, zba, zbb, zbc, zbd, zbe, zbf, zbg, zbh, zbi, zbj, zbk, storeOp, storeCell, overlay, zbl, zbm, zbn, lookupOp, keyT, okRes, mapUpdateOp, zbo, zbp, zbq, zbr, zbs, zbt, zbu, Nat.reduceSub, Nat.reduceAdd, Int.reduceLT, Int.reduceLE, Int.reduceAdd, Int.reduceSub, Int.reduceToNat, Int.reduceBEq, Int.reduceBNe, Int.reduceMul, Nat.reduceBEq, Nat.reduceBNe, Nat.reduceLT, Nat.reduceLeDiff, Nat.reduceMul, Nat.reduceEqDiff, WD, effB, effH, isPriv, isHeap, isImm, zbx, zby, zbz, chkO, setD, dslot, zca, zcb, zcc, zcd, ptrCells_some, F20, h0, hb, hc1, hr2.shutIn]
          rw [wpCall_eq hrv]
          simp only [WW, partV, eqCells, eqLf, minV, maxV, ifcV, zaa, zab, zac, zad, zae, zaf, zag, zah, zai, ofConst, ofConst1, List.replicate, zaj, zak, loadOp, Go.Abs.loadCells, binV, zal, pickV, zam, zan, zao, zap, zaq, zar, zas, zat, zau, outR, resAll, resOne, zav, zaw, zax, zay, zaz, zba, zbb, zbc, zbd, zbe, zbf, zbg, zbh, zbi, zbj, zbk, storeOp, storeCell, overlay, zbl, zbm, zbn, lookupOp, keyT, okRes, mapUpdateOp, zbo, zbp, zbq, zbr, zbs, zbt, zbu, Nat.reduceSub, Nat.reduceAdd, Int.reduceLT, Int.reduceLE, Int.reduceAdd, Int.reduceSub, Int.reduceToNat, Int.reduceBEq, Int.reduceBNe, Int.reduceMul, Nat.reduceBEq, Nat.reduceBNe, Nat.reduceLT, Nat.reduceLeDiff, Nat.reduceMul, Nat.reduceEqDiff, WD, effB, effH, isPriv, isHeap, isImm, zbx, zby, zbz, chkO, setD, dslot, zca, zcb, zcc, zcd, ptrCells_some, F20, h0, hb]
          rw [wpCall_eq hvs]
          simp only [WW, partV, eqCells, eqLf, minV, maxV, ifcV, zaa, zab, zac, zad, zae, zaf, zag, zah, zai, ofConst, ofConst1, List.replicate, zaj, zak, loadOp, Go.Abs.loadCells, binV, zal, pickV, zam, zan, zao, zap, zaq, zar, zas, zat, zau, outR, resAll, resOne, zav, zaw, zax, zay, zaz, zba, zbb, zbc, zbd, zbe, zbf, zbg, zbh, zbi, zbj, zbk, storeOp, storeCell, overlay, zbl, zbm, zbn, lookupOp, keyT, okRes, mapUpdateOp, zbo, zbp, zbq, zbr, zbs, zbt, zbu, Nat.reduceSub, Nat.reduceAdd, Int.reduceLT, Int.reduceLE, Int.reduceAdd, Int.reduceSub, Int.reduceToNat, Int.reduceBEq, Int.reduceBNe, Int.reduceMul, Nat.reduceBEq, Nat.reduceBNe, Nat.reduceLT, Nat.reduceLeDiff, Nat.reduceMul, Nat.reduceEqDiff, WD, effB, effH, isPriv, isHeap, isImm, zbx, zby, zbz, chkO, setD, dslot, zca, zcb, zcc, zcd, ptrCells_some, F20, h0, hb]
          rw [wpCall_eq hof]
          simp only [WW, partV, eqCells, eqLf, minV, maxV, ifcV, zaa, zab, zac, zad, zae, zaf, zag, zah, zai, ofConst, ofConst1, List.replicate, zaj, zak, loadOp, Go.Abs.loadCells, binV, zal, pickV, zam, zan, zao, zap, zaq, zar, zas, zat, zau, outR, resAll, resOne, zav, zaw, zax, zay, zaz, zba, zbb, zbc, zbd, zbe, zbf, zbg, zbh, zbi, zbj, zbk, storeOp, storeCell, overlay, zbl, zbm, zbn, lookupOp, keyT, okRes, mapUpdateOp, zbo, zbp, zbq, zbr, zbs, zbt, zbu, Nat.reduceSub, Nat.reduceAdd, Int.reduceLT, Int.reduceLE, Int.reduceAdd, Int.reduceSub, Int.reduceToNat, Int.reduceBEq, Int.reduceBNe, Int.reduceMul, Nat.reduceBEq, Nat.reduceBNe, Nat.reduceLT, Nat.reduceLeDiff, Nat.reduceMul, Nat.reduceEqDiff, WD, effB, effH, isPriv, isHeap, isImm, zbx, zby, zbz, chkO, setD, dslot, zca, zcb, zcc, zcd, ptrCells_some, F20, h0, hb]
          rw [wpCall_eq (num_eq _ _)]
          simp only [WW, partV, eqCells, eqLf, minV, maxV, ifcV, zaa, zab, zac, zad, zae, zaf, zag, zah, zai, ofConst, ofConst1, List.replicate, zaj, zak, loadOp, Go.Abs.loadCells, binV, zal, pickV, zam, zan, zao, zap, zaq, zar, zas, zat, zau, outR, resAll, resOne, zav, zaw, zax, zay, zaz, zba, zbb, zbc, zbd, zbe, zbf, zbg, zbh, zbi, zbj, zbk, storeOp, storeCell, overlay, zbl, zbm, zbn, lookupOp, keyT, okRes, mapUpdateOp, zbo, zbp, zbq, zbr, zbs, zbt, zbu, Nat.reduceSub, Nat.reduceAdd, Int.reduceLT, Int.reduceLE, Int.reduceAdd, Int.reduceSub, Int.reduceToNat, Int.reduceBEq, Int.reduceBNe, Int.reduceMul, Nat.reduceBEq, Nat.reduceBNe, Nat.reduceLT, Nat.reduceLeDiff, Nat.reduceMul, Nat.reduceEqDiff, WD, effB, effH, isPriv, isHeap, isImm, zbx, zby, zbz, chkO, setD, dslot, zca, zcb, zcc, zcd, ptrCells_some, F20, h0, hb, hnc]
          first | exact ⟨e, rfl⟩ | exact ⟨rfl, e, rfl⟩ | exact ⟨trivial, [], by simp⟩ | exact ⟨rfl, [], by simp⟩ | exact ⟨[], by simp⟩ | exact ⟨rfl, _, rfl⟩ | exact ⟨_, rfl⟩ | skip
        · have hq2 : decide ((0 : Int) ≤ q) = true := decide_eq_true hq
          have hqq : (q == q) = true := beq_self_eq_true q
          try simp only [WW, partV, eqCells, eqLf, minV, maxV, ifcV, zaa, zab, zac, zad, zae, zaf, zag, zah, zai, ofConst, ofConst1, List.replicate, zaj, zak, loadOp, Go.Abs.loadCells, binV, zal, pickV, zam, zan, zao, zap, zaq, zar, zas, zat, zau, outR, resAll, resOne, zav, zaw, zax, zay, zaz, zba, zbb, zbc, zbd, zbe, zbf, zbg, zbh, zbi, zbj, zbk, storeOp, storeCell, overlay, zbl, zbm, zbn, lookupOp, keyT, okRes, mapUpdateOp, zbo, zbp, zbq, zbr, zbs, zbt, zbu, Nat.reduceSub, Nat.reduceAdd, Int.reduceLT, Int.reduceLE, Int.reduceAdd, Int.reduceSub, Int.reduceToNat, Int.reduceBEq, Int.reduceBNe, Int.reduceMul, Nat.reduceBEq, Nat.reduceBNe, Nat.reduceLT, Nat.reduceLeDiff, Nat.reduceMul, Nat.reduceEqDiff, WD, effB, effH, isPriv, isHeap, isImm, zbx, zby, zbz, chkO, setD, dslot, zca, zcb, zcc, zcd, ptrCells_some, F20, h0, hb, hc1, hr2.shutIn]
          rw [wpCall_eq hrv]
          simp only [WW, partV, eqCells, eqLf, minV, maxV, ifcV, zaa, zab, zac, zad, zae, zaf, zag, zah, zai, ofConst, ofConst1, List.replicate, zaj, zak, loadOp, Go.Abs.loadCells, binV, zal, pickV, zam, zan, zao, zap, zaq, zar, zas, zat, zau, outR, resAll, resOne, zav, zaw, zax, zay, zaz, zba, zbb, zbc, zbd, zbe, zbf, zbg, zbh, zbi, zbj, zbk, storeOp, storeCell, overlay, zbl, zbm, zbn, lookupOp, keyT, okRes, mapUpdateOp, zbo, zbp, zbq, zbr, zbs, zbt, zbu, Nat.reduceSub, Nat.reduceAdd, Int.reduceLT, Int.reduceLE, Int.reduceAdd, Int.reduceSub, Int.reduceToNat, Int.reduceBEq, Int.reduceBNe, Int.reduceMul, Nat.reduceBEq, Nat.reduceBNe, Nat.reduceLT, Nat.reduceLeDiff, Nat.reduceMul, Nat.reduceEqDiff, WD, effB, effH, isPriv, isHeap, isImm, zbx, zby, zbz, chkO, setD, dslot, zca, zcb, zcc, zcd, ptrCells_some, F20, h0, hb]
          rw [wpCall_eq hvs]
          simp only [WW, partV, eqCells, eqLf, minV, maxV, ifcV, zaa, zab, zac, zad, zae, zaf, zag, zah, zai, ofConst, ofConst1, List.replicate, zaj, zak, loadOp, Go.Abs.loadCells, binV, zal, pickV, zam, zan, zao, zap, zaq, zar, zas, zat, zau, outR, resAll, resOne, zav, zaw, zax, zay, zaz, zba, zbb, zbc, zbd, zbe, zbf, zbg, zbh, zbi, zbj, zbk, storeOp, storeCell, overlay, zbl, zbm, zbn, lookupOp, keyT, okRes, mapUpdateOp, zbo, zbp, zbq, zbr, zbs, zbt, zbu, Nat.reduceSub, Nat.reduceAdd, Int.reduceLT, Int.reduceLE, Int.reduceAdd, Int.reduceSub, Int.reduceToNat, Int.reduceBEq, Int.reduceBNe, Int.reduceMul, Nat.reduceBEq, Nat.reduceBNe, Nat.reduceLT, Nat.reduceLeDiff, Nat.reduceMul, Nat.reduceEqDiff, WD, effB, effH, isPriv, isHeap, isImm, zbx, zby, zbz, chkO, setD, dslot, zca, zcb, zcc, zcd, ptrCells_some, F20, h0, hb]
          rw [wpCall_eq hof]
          simp only [WW, partV, eqCells, eqLf, minV, maxV, ifcV, zaa, zab, zac, zad, zae, zaf, zag, zah, zai, ofConst, ofConst1, List.replicate, zaj, zak, loadOp, Go.Abs.loadCells, binV, zal, pickV, zam, zan, zao, zap, zaq, zar, zas, zat, zau, outR, resAll, resOne, zav, zaw, zax, zay, zaz, zba, zbb, zbc, zbd, zbe, zbf, zbg, zbh, zbi, zbj, zbk, storeOp, storeCell, overlay, zbl, zbm, zbn, lookupOp, keyT, okRes, mapUpdateOp, zbo, zbp, zbq, zbr, zbs, zbt, zbu, Nat.reduceSub, Nat.reduceAdd, Int.reduceLT, Int.reduceLE, Int.reduceAdd, Int.reduceSub, Int.reduceToNat, Int.reduceBEq, Int.reduceBNe, Int.reduceMul, Nat.reduceBEq, Nat.reduceBNe, Nat.reduceLT, Nat.reduceLeDiff, Nat.reduceMul, Nat.reduceEqDiff, WD, effB, effH, isPriv, isHeap, isImm, zbx, zby, zbz, chkO, setD, dslot, zca, zcb, zcc, zcd, ptrCells_some, F20, h0, hb]
          rw [wpCall_eq (num_eq _ _)]
          simp only [WW, partV, eqCells, eqLf, minV, maxV, ifcV, zaa, zab, zac, zad, zae, zaf, zag, zah, zai, ofConst, ofConst1, List.replicate, zaj, zak, loadOp, Go.Abs.loadCells, binV, zal, pickV, zam, zan, zao, zap, zaq, zar, zas, zat, zau, outR, resAll, resOne, zav, zaw, zax, zay, zaz, zba, zbb, zbc, zbd, zbe, zbf, zbg, zbh, zbi, zbj, zbk, storeOp, storeCell, overlay, zbl, zbm, zbn, lookupOp, keyT, okRes, mapUpdateOp, zbo, zbp, zbq, zbr, zbs, zbt, zbu, Nat.reduceSub, Nat.reduceAdd, Int.reduceLT, Int.reduceLE, Int.reduceAdd, Int.reduceSub, Int.reduceToNat, Int.reduceBEq, Int.reduceBNe, Int.reduceMul, Nat.reduceBEq, Nat.reduceBNe, Nat.reduceLT, Nat.reduceLeDiff, Nat.reduceMul, Nat.reduceEqDiff, WD, effB, effH, isPriv, isHeap, isImm, zbx, zby, zbz, chkO, setD, dslot, zca, zcb, zcc, zcd, ptrCells_some, F20, h0, hb, hnc, hq2, hqq]
          first | exact ⟨e, rfl⟩ | exact ⟨rfl, e, rfl⟩ | exact ⟨trivial, [], by simp⟩ | exact ⟨rfl, [], by simp⟩ | exact ⟨[], by simp⟩ | exact ⟨rfl, _, rfl⟩ | exact ⟨_, rfl⟩ | skip
end Go.Proofs.Ytfjbgmcdkhepkaa

namespace Go.Proofs.Ytfjbgmcdkhepkaa
open Go Go.Abs Go.Proofs
set_option maxRecDepth 100000
set_option maxHeartbeats 8000000
set_option linter.unusedVariables false
set_option linter.unusedSimpArgs false
theorem actr_clip (a : ActR) (n : Nat) : clipV n a.x = a.x := (a.h.rd []).clip n
theorem Old.fsh {H H' : Hp} (h : Old H H') : Fsh H.length H H' := ⟨fun k hk => h.at_ k hk, fun k ns es hk => by rw [h.at_ k (List.getElem?_eq_some_iff.1 hk).1]; exact hk, h.len⟩
theorem RN_lt {H : Hp} {d c : Nat} {g : Int} {cnt : List Int} {all : List Ver} (R : Reg H d c g cnt all) {k : Nat} (h : RN d c all k) : k < H.length := by
  have hl := R.lt
  rcases h with rfl | rfl | h
  · exact hl.d
  · exact hl.c
  · obtain ⟨v, hv, rfl⟩ := List.mem_map.1 h; exact hl.v v hv
theorem un_upd {all : List Ver} (h : Un all) (p : Nat → Ver → Bool) : Un (upd p all all.length) := fun i j v w hi hj ho ho' e => by
  obtain ⟨u, hu, e0, _, e2⟩ := upd_get hi
  obtain ⟨u', hu', e0', _, e2'⟩ := upd_get hj
  exact h i j u u' hu hu' (e2 ho).1 (e2' ho').1 (by rw [e0, e0', e])
theorem cntR_upd (p : Nat → Ver → Bool) (all : List Ver) (n : Nat) (f : Int) : cntR (upd p all n) f = cntR all f := by
  have : ∀ l : List Ver, cntR l f = ((l.map (fun v => v.f)).filter fun k => k == f).length := fun l => by
    unfold cntR
    rw [List.filter_map, List.length_map]; rfl
  rw [this, this]
  have : (upd p all n).map (fun v => v.f) = all.map (fun v => v.f) := by
    refine List.ext_getElem? fun j => ?_
    rw [List.getElem?_map, upd_at, List.getElem?_map, Option.map_map]
    congr 1
    funext v
    simp only [Function.comp]
    split <;> rfl
  rw [this]
/-- Some versions are no longer valid, here and there. -/
theorem Play.off {H H1 H2 : Hp} {d c : Nat} {gl : Int} {cnt : List Int} {all : List Ver} {x y : V} {rl rl2 : List Ver} (P : Play H d c gl cnt all x rl) (p : Nat → Ver → Bool)
    (R1 : Reg H1 d c gl cnt (upd p all all.length)) (hold : Old H1 H2) (hs : rl2.map keyV = (upd p all all.length).map keyV)
    (hy : Rs H2 (fun k => k < H1.length) y (rl2.map verV)) (hon : ∀ v ∈ rl2, IsDeps v.on v.l ∧ v.l.length < 4294967296) : Play H2 d c gl cnt (upd p all all.length) y rl2 :=
  { reg := R1.fsh R1.lt hold.fsh
    sm := hs
    rs := hy.keep fun s es hs h => ⟨fun hc => hs (RN_lt R1 hc), h⟩
    on := hon
    cn := fun f hf => by rw [cntR_upd]; exact P.cn f hf
    cb := P.cb
    un := un_upd P.un p
    vf := fun v hv => by
      obtain ⟨u, hu, e1, _⟩ := upd_mem hv
      rw [← e1]; exact P.vf u hu }
/-- More memory leaves a play as it is. -/
theorem Play.more {H : Hp} {d c : Nat} {gl : Int} {cnt : List Int} {all : List Ver} {x : V} {rl : List Ver} (P : Play H d c gl cnt all x rl) (e : Hp) : Play (H ++ e) d c gl cnt all x rl :=
  { reg := P.reg.more e
    sm := P.sm
    rs := P.rs.keep fun s es hs h => ⟨hs, by rw [List.getElem?_append_left (List.getElem?_eq_some_iff.1 h).1]; exact h⟩
    on := P.on
    cn := P.cn
    cb := P.cb
    un := P.un
    vf := P.vf }
theorem mod_get {cnt : List Int} {f j : Nat} : (cnt.modify f (· + 1))[j]? = (cnt[j]?).map fun n => if j = f then n + 1 else n := by
  rw [List.getElem?_modify]
  by_cases e : f = j
  · subst e; cases cnt[f]? <;> simp
  · have : ¬ j = f := fun h => e h.symm
    cases cnt[j]? <;> simp [this, e]
/-- A version more -/
theorem Play.add {H H1 : Hp} {d c : Nat} {gl : Int} {cnt : List Int} {all : List Ver} {x : V} {rl : List Ver} (P : Play H d c gl cnt all x rl) {f : Int} {al : List (Int × Int)} (hal : al.length < 4294967296) (he : addErr gl cnt all f al = 0)
    {v : Ver} (hf : v.f = f) (hl : v.l = al) (ho : v.ok = true) (R1 : Reg H1 d c gl (cnt.modify f.toNat (· + 1)) (all ++ [v])) :
    Play H1 d c gl (cnt.modify f.toNat (· + 1)) (all ++ [v]) (.rsl ((rl ++ [(⟨0, f, .rsl (al.map depV), al, true⟩ : Ver)]).map verV)) (rl ++ [(⟨0, f, .rsl (al.map depV), al, true⟩ : Ver)]) := by
  unfold addErr at he
  split at he
  · cases he
  rename_i h1
  split at he
  · cases he
  rename_i h2
  split at he
  · cases he
  rename_i h3
  simp only [Bool.not_eq_true, Bool.or_eq_false_iff, decide_eq_false_iff_not] at h1
  obtain ⟨⟨⟨h0, h1⟩, _⟩, _⟩ := h1
  obtain ⟨k, rfl⟩ : ∃ k : Nat, f = k := ⟨f.toNat, by omega⟩
  have hkc : k < cnt.length := by omega
  have hck := P.cn k hkc
  have hlen : (cnt.modify (k : Int).toNat (· + 1)).length = cnt.length := by rw [List.length_modify]
  refine ⟨R1, ?_, .inr (.inl rfl), ?_, ?_, ?_, ?_, ?_⟩
  · rw [List.map_append, List.map_append, P.sm]
    simp [keyV, hf, hl, ho]
  · intro w hw
    rcases List.mem_append.1 hw with h | h
    · exact P.on w h
    · obtain rfl := List.mem_singleton.1 h
      exact ⟨.rsl _, hal⟩
  · intro j hj
    rw [hlen] at hj
    rw [mod_get, P.cn j hj, cntR_snoc]
    simp only [Option.map_some, Int.toNat_natCast, hf]
    by_cases e : j = k
    · subst e; simp
    · have : ((k : Int) == (j : Int)) = false := by simp; omega
      rw [if_neg e, this]; simp
  · intro n hn
    obtain ⟨j, hj⟩ := List.getElem?_of_mem hn
    rw [mod_get] at hj
    cases hc : cnt[j]? with
    | none => rw [hc] at hj; cases hj
    | some m =>
      rw [hc] at hj
      have hm := P.cb m (List.mem_of_getElem? hc)
      simp only [Option.map_some, Option.some.injEq, Int.toNat_natCast] at hj
      by_cases e : j = k
      · subst e
        rw [if_pos rfl] at hj
        have : m ≠ 4 := fun e => h3 (by unfold getCnt; rw [if_pos (by omega)]; simpa [e] using hc)
        omega
      · rw [if_neg e] at hj; omega
  · have hno : ∀ w ∈ all, w.ok = true → w.f ≠ v.f := by
      intro w hw hwo hwf
      apply h2
      rw [List.findIdx?_isSome, List.any_eq_true]
      exact ⟨w, hw, by simp [hwo, hwf, hf]⟩
    intro i j a b hi hj ha hb e
    by_cases h4 : i < all.length
    · rw [List.getElem?_append_left h4] at hi
      by_cases h5 : j < all.length
      · rw [List.getElem?_append_left h5] at hj
        exact P.un i j a b hi hj ha hb e
      · have hj2 := (List.getElem?_eq_some_iff.1 hj).1
        simp at hj2
        obtain rfl : j = all.length := by omega
        simp at hj; subst hj
        exact absurd e (hno a (List.mem_of_getElem? hi) ha)
    · have hi2 := (List.getElem?_eq_some_iff.1 hi).1
      simp at hi2
      obtain rfl : i = all.length := by omega
      simp at hi; subst hi
      by_cases h5 : j < all.length
      · rw [List.getElem?_append_left h5] at hj
        exact absurd e.symm (hno b (List.mem_of_getElem? hj) hb)
      · have hj2 := (List.getElem?_eq_some_iff.1 hj).1
        simp at hj2
        omega
  · intro w hw
    rw [hlen]
    rcases List.mem_append.1 hw with h | h
    · exact P.vf w h
    · obtain rfl := List.mem_singleton.1 h
      rw [hf]; omega
end Go.Proofs.Ytfjbgmcdkhepkaa

namespace Go.Proofs.Ytfjbgmcdkhepkaa
open Go Go.Abs Go.Proofs
set_option maxRecDepth 100000
set_option maxHeartbeats 8000000
set_option linter.unusedVariables false
set_option linter.unusedSimpArgs false
theorem IsDeps.sx {x : V} {l : List (Int × Int)} (h : IsDeps x l) (H : Hp) : Sx H x (l.map depV) := by
  cases h with
  | nils => exact .nils
  | rsl => exact .rsl _
theorem OutS.old {n : Nat} {H H' : Hp} {y : V} {l : List Nat} (h : OutS n H y l) (ho : Old H H') : OutS n H' y l := by
  rcases h with h | ⟨h1, id, h2, h3, h4⟩
  · exact .inl h
  · exact .inr ⟨h1, id, h2, h3, by rw [ho.at_ id (List.getElem?_eq_some_iff.1 h4).1]; exact h4⟩
theorem row_ids (H : Hp) (l : List Nat) : Rd H (rowV true (idsV l) l.length) (idsV l) := by
  unfold rowV
  by_cases h : l.length = 0
  · have : l = [] := List.length_eq_zero_iff.1 h
    subst this; exact .nils
  · have h2 : (l.length == 0) = false := by simpa using h
    rw [h2, List.take_of_length_le (by simp [idsV])]
    exact .rsl _
theorem upd_on {p : Nat → Ver → Bool} {A : List Ver} {n : Nat} (h : ∀ v ∈ A, IsDeps v.on v.l ∧ v.l.length < 4294967296) : ∀ v ∈ upd p A n, IsDeps v.on v.l ∧ v.l.length < 4294967296 := by
  intro w hw
  obtain ⟨j, hj⟩ := List.getElem?_of_mem hw
  rw [upd_at] at hj
  cases hA : A[j]? with
  | none => rw [hA] at hj; cases hj
  | some u =>
    rw [hA] at hj
    simp only [Option.map_some, Option.some.injEq] at hj
    have := h u (List.mem_of_getElem? hA)
    split at hj <;> (subst hj; exact this)
theorem off_on {A : List Ver} {id : Int} (h : ∀ v ∈ A, IsDeps v.on v.l ∧ v.l.length < 4294967296) : ∀ v ∈ A.mapIdx (fun j v => if (j : Int) = id then v.off else v), IsDeps v.on v.l ∧ v.l.length < 4294967296 := by
  intro w hw
  obtain ⟨j, hj⟩ := List.getElem?_of_mem hw
  rw [List.getElem?_mapIdx] at hj
  cases hA : A[j]? with
  | none => rw [hA] at hj; cases hj
  | some u =>
    rw [hA] at hj
    simp only [Option.map_some, Option.some.injEq] at hj
    have := h u (List.mem_of_getElem? hA)
    split at hj <;> (subst hj; exact this)
def StepQ (d c : Nat) (gl : Int) (cnt : List Int) (all : List Ver) (out : Out) (H' : Hp) : Prop :=
  ∃ (y : V) (cnt' : List Int) (all' rl' : List Ver), out = .ret (.tup [refV (cnt.length : Int) gl y, .bool true]) false ∧ Play H' d c gl cnt' all' y rl' ∧ cnt'.length = cnt.length ∧ all'.length ≤ all.length + 1
theorem step_eq {H : Hp} {d c : Nat} {gl : Int} {cnt : List Int} {all : List Ver} {x : V} {rl : List Ver} (P : Play H d c gl cnt all x rl) (a : ActR) (hal : a.l.length ≤ 40) (hroom : all.length + 1 < 4294967296) :
    wpCall EW 19 [.ptr d 0 0, refV (cnt.length : Int) gl x, actV a] H (StepQ d c gl cnt all) := by
  have R := P.reg
  have hsx := P.rs.sx
  have hr := hsx.rd
  have hc1 := hr.cells1
  have hok := hr.ok
  have hcx : ∀ n, clipV n x = x := hr.clip
  have ha := fun H => a.h.rd H
  have hasx := fun H => IsDeps.sx a.h H
  have hca : ∀ n, clipV n a.x = a.x := actr_clip a
  have hla := key_len P.sm
  have hlr : rl.length < 4294967296 := by omega
  have hce : ∀ k : Int, (k == k) = true := fun k => beq_self_eq_true k
  refine runs f19 b19 r19 n19 _ _ ?_
  simp only [refV, actV]
  simp only [bodyOf, Try.f19, Option.getD_some]
  cases h0 : (a.d == 0) with
  | true =>
    have hd0 : a.d = 0 := by simpa using h0
    simp only [WW, partV, eqCells, eqLf, minV, maxV, ifcV, zaa, zab, zac, zad, zae, zaf, zag, zah, zai, ofConst, ofConst1, List.replicate, zaj, zak, loadOp, Go.Abs.loadCells, binV, zal, pickV, zam, zan, zao, zap, zaq, zar, zas, zat, zau, outR, resAll, resOne, zav, zaw, zax, zay, zaz, zba, zbb, zbc, zbd, zbe, zbf, zbg, zbh, zbi, zbj, zbk, storeOp, storeCell, overlay, zbl, zbm, zbn, lookupOp, keyT, okRes, mapUpdateOp, zbo, zbp, zbq, zbr, zbs, zbt, zbu, Nat.reduceSub, Nat.reduceAdd, Int.reduceLT, Int.reduceLE, Int.reduceAdd, Int.reduceSub, Int.reduceToNat, Int.reduceBEq, Int.reduceBNe, Int.reduceMul, Nat.reduceBEq, Nat.reduceBNe, Nat.reduceLT, Nat.reduceLeDiff, Nat.reduceMul, Nat.reduceEqDiff, WD, effB, effH, isPriv, isHeap, isImm, zbx, zby, zbz, chkO, setD, dslot, zca, zcb, zcc, zcd, ptrCells_some, F19, h0, hr.shutIn, (ha H).shutIn]
    refine wpCall_of (add_eq R a.f a.x a.l (hasx H) (by omega) (fun id lo m e => by have := a.h; rw [e] at this; cases this) hroom (fun m hm => by have := P.cb m hm; omega)) ?_
    rintro out H2 hp
    by_cases herr : addErr gl cnt all a.f a.l = 0
    · rw [if_neg (by simp [herr])] at hp
      obtain ⟨rfl, ⟨v1, hv1, hv2, hv3, hv4, R2⟩, hl2, hk2⟩ := hp
      have P2 := P.add (by omega) herr hv1 hv2 hv3 R2
      have hsx2 : Sx H2 x (rl.map verV) := (P.rs.keep (N' := fun _ => False) fun s es hs h => ⟨fun h => h, hk2 s es (fun e => hs (.inl e)) (fun e => hs (.inr (.inl e))) h⟩).sx
      have hr2 := hsx2.rd
      have hra := radd_eq hsx2 hlr (hasx H2) (by omega) (cnt.length : Int) gl a.f
      rw [P.err] at hra
      simp only [herr, refV] at hra
      simp only [WW, partV, eqCells, eqLf, minV, maxV, ifcV, zaa, zab, zac, zad, zae, zaf, zag, zah, zai, ofConst, ofConst1, List.replicate, zaj, zak, loadOp, Go.Abs.loadCells, binV, zal, pickV, zam, zan, zao, zap, zaq, zar, zas, zat, zau, outR, resAll, resOne, zav, zaw, zax, zay, zaz, zba, zbb, zbc, zbd, zbe, zbf, zbg, zbh, zbi, zbj, zbk, storeOp, storeCell, overlay, zbl, zbm, zbn, lookupOp, keyT, okRes, mapUpdateOp, zbo, zbp, zbq, zbr, zbs, zbt, zbu, Nat.reduceSub, Nat.reduceAdd, Int.reduceLT, Int.reduceLE, Int.reduceAdd, Int.reduceSub, Int.reduceToNat, Int.reduceBEq, Int.reduceBNe, Int.reduceMul, Nat.reduceBEq, Nat.reduceBNe, Nat.reduceLT, Nat.reduceLeDiff, Nat.reduceMul, Nat.reduceEqDiff, WD, effB, effH, isPriv, isHeap, isImm, zbx, zby, zbz, chkO, setD, dslot, zca, zcb, zcc, zcd, ptrCells_some, F19, hr2.shutIn, (ha H2).shutIn]
      refine wpCall_of hra ?_
      rintro out H3 ⟨rfl, rfl⟩
      rw [if_neg (by simp)]
      generalize hW : List.map verV (rl ++ [(⟨0, a.f, .rsl (a.l.map depV), a.l, true⟩ : Ver)]) = W at P2 ⊢
      simp only [WW, partV, eqCells, eqLf, minV, maxV, ifcV, zaa, zab, zac, zad, zae, zaf, zag, zah, zai, ofConst, ofConst1, List.replicate, zaj, zak, loadOp, Go.Abs.loadCells, binV, zal, pickV, zam, zan, zao, zap, zaq, zar, zas, zat, zau, outR, resAll, resOne, zav, zaw, zax, zay, zaz, zba, zbb, zbc, zbd, zbe, zbf, zbg, zbh, zbi, zbj, zbk, storeOp, storeCell, overlay, zbl, zbm, zbn, lookupOp, keyT, okRes, mapUpdateOp, zbo, zbp, zbq, zbr, zbs, zbt, zbu, Nat.reduceSub, Nat.reduceAdd, Int.reduceLT, Int.reduceLE, Int.reduceAdd, Int.reduceSub, Int.reduceToNat, Int.reduceBEq, Int.reduceBNe, Int.reduceMul, Nat.reduceBEq, Nat.reduceBNe, Nat.reduceLT, Nat.reduceLeDiff, Nat.reduceMul, Nat.reduceEqDiff, WD, effB, effH, isPriv, isHeap, isImm, zbx, zby, zbz, chkO, setD, dslot, zca, zcb, zcc, zcd, ptrCells_some, F19, hc1, hce, hla]
      refine wC_dr alts19_5 (by kernel_rfl) ?_
      simp only [WW, partV, eqCells, eqLf, minV, maxV, ifcV, zaa, zab, zac, zad, zae, zaf, zag, zah, zai, ofConst, ofConst1, List.replicate, zaj, zak, loadOp, Go.Abs.loadCells, binV, zal, pickV, zam, zan, zao, zap, zaq, zar, zas, zat, zau, outR, resAll, resOne, zav, zaw, zax, zay, zaz, zba, zbb, zbc, zbd, zbe, zbf, zbg, zbh, zbi, zbj, zbk, storeOp, storeCell, overlay, zbl, zbm, zbn, lookupOp, keyT, okRes, mapUpdateOp, zbo, zbp, zbq, zbr, zbs, zbt, zbu, Nat.reduceSub, Nat.reduceAdd, Int.reduceLT, Int.reduceLE, Int.reduceAdd, Int.reduceSub, Int.reduceToNat, Int.reduceBEq, Int.reduceBNe, Int.reduceMul, Nat.reduceBEq, Nat.reduceBNe, Nat.reduceLT, Nat.reduceLeDiff, Nat.reduceMul, Nat.reduceEqDiff, WD, effB, effH, isPriv, isHeap, isImm, zbx, zby, zbz, chkO, setD, dslot, zca, zcb, zcc, zcd, ptrCells_some, F19, hc1, hce, hla, alts19_5]
      rw [wpCall_eq (num_eq _ _)]
      simp only [WW, partV, eqCells, eqLf, minV, maxV, ifcV, zaa, zab, zac, zad, zae, zaf, zag, zah, zai, ofConst, ofConst1, List.replicate, zaj, zak, loadOp, Go.Abs.loadCells, binV, zal, pickV, zam, zan, zao, zap, zaq, zar, zas, zat, zau, outR, resAll, resOne, zav, zaw, zax, zay, zaz, zba, zbb, zbc, zbd, zbe, zbf, zbg, zbh, zbi, zbj, zbk, storeOp, storeCell, overlay, zbl, zbm, zbn, lookupOp, keyT, okRes, mapUpdateOp, zbo, zbp, zbq, zbr, zbs, zbt, zbu, Nat.reduceSub, Nat.reduceAdd, Int.reduceLT, Int.reduceLE, Int.reduceAdd, Int.reduceSub, Int.reduceToNat, Int.reduceBEq, Int.reduceBNe, Int.reduceMul, Nat.reduceBEq, Nat.reduceBNe, Nat.reduceLT, Nat.reduceLeDiff, Nat.reduceMul, Nat.reduceEqDiff, WD, effB, effH, isPriv, isHeap, isImm, zbx, zby, zbz, chkO, setD, dslot, zca, zcb, zcc, zcd, ptrCells_some, F19, hce, alts19_5]
      exact ⟨_, _, _, _, rfl, P2, by rw [List.length_modify], by simp⟩
    · rw [if_pos herr] at hp
      obtain ⟨rfl, e, rfl⟩ := hp
      have P2 := P.more e
      have hsx2 := P2.rs.sx
      have hr2 := hsx2.rd
      have hra := radd_eq hsx2 hlr (hasx (H ++ e)) (by omega) (cnt.length : Int) gl a.f
      rw [P.err] at hra
      simp only [refV] at hra
      simp only [WW, partV, eqCells, eqLf, minV, maxV, ifcV, zaa, zab, zac, zad, zae, zaf, zag, zah, zai, ofConst, ofConst1, List.replicate, zaj, zak, loadOp, Go.Abs.loadCells, binV, zal, pickV, zam, zan, zao, zap, zaq, zar, zas, zat, zau, outR, resAll, resOne, zav, zaw, zax, zay, zaz, zba, zbb, zbc, zbd, zbe, zbf, zbg, zbh, zbi, zbj, zbk, storeOp, storeCell, overlay, zbl, zbm, zbn, lookupOp, keyT, okRes, mapUpdateOp, zbo, zbp, zbq, zbr, zbs, zbt, zbu, Nat.reduceSub, Nat.reduceAdd, Int.reduceLT, Int.reduceLE, Int.reduceAdd, Int.reduceSub, Int.reduceToNat, Int.reduceBEq, Int.reduceBNe, Int.reduceMul, Nat.reduceBEq, Nat.reduceBNe, Nat.reduceLT, Nat.reduceLeDiff, Nat.reduceMul, Nat.reduceEqDiff, WD, effB, effH, isPriv, isHeap, isImm, zbx, zby, zbz, chkO, setD, dslot, zca, zcb, zcc, zcd, ptrCells_some, F19, hr2.shutIn, (ha (H ++ e)).shutIn]
      refine wpCall_of hra ?_
      rintro out H3 ⟨rfl, rfl⟩
      rw [if_pos herr]
      generalize addErr gl cnt all a.f a.l = er
      simp only [WW, partV, eqCells, eqLf, minV, maxV, ifcV, zaa, zab, zac, zad, zae, zaf, zag, zah, zai, ofConst, ofConst1, List.replicate, zaj, zak, loadOp, Go.Abs.loadCells, binV, zal, pickV, zam, zan, zao, zap, zaq, zar, zas, zat, zau, outR, resAll, resOne, zav, zaw, zax, zay, zaz, zba, zbb, zbc, zbd, zbe, zbf, zbg, zbh, zbi, zbj, zbk, storeOp, storeCell, overlay, zbl, zbm, zbn, lookupOp, keyT, okRes, mapUpdateOp, zbo, zbp, zbq, zbr, zbs, zbt, zbu, Nat.reduceSub, Nat.reduceAdd, Int.reduceLT, Int.reduceLE, Int.reduceAdd, Int.reduceSub, Int.reduceToNat, Int.reduceBEq, Int.reduceBNe, Int.reduceMul, Nat.reduceBEq, Nat.reduceBNe, Nat.reduceLT, Nat.reduceLeDiff, Nat.reduceMul, Nat.reduceEqDiff, WD, effB, effH, isPriv, isHeap, isImm, zbx, zby, zbz, chkO, setD, dslot, zca, zcb, zcc, zcd, ptrCells_some, F19, hc1, hce, hr2.shutIn]
      refine wC_dr alts19_5 (by kernel_rfl) ?_
      simp only [WW, partV, eqCells, eqLf, minV, maxV, ifcV, zaa, zab, zac, zad, zae, zaf, zag, zah, zai, ofConst, ofConst1, List.replicate, zaj, zak, loadOp, Go.Abs.loadCells, binV, zal, pickV, zam, zan, zao, zap, zaq, zar, zas, zat, zau, outR, resAll, resOne, zav, zaw, zax, zay, zaz, zba, zbb, zbc, zbd, zbe, zbf, zbg, zbh, zbi, zbj, zbk, storeOp, storeCell, overlay, zbl, zbm, zbn, lookupOp, keyT, okRes, mapUpdateOp, zbo, zbp, zbq, zbr, zbs, zbt, zbu, Nat.reduceSub, Nat.reduceAdd, Int.reduceLT, Int.reduceLE, Int.reduceAdd, Int.reduceSub, Int.reduceToNat, Int.reduceBEq, Int.reduceBNe, Int.reduceMul, Nat.reduceBEq, Nat.reduceBNe, Nat.reduceLT, Nat.reduceLeDiff, Nat.reduceMul, Nat.reduceEqDiff, WD, effB, effH, isPriv, isHeap, isImm, zbx, zby, zbz, chkO, setD, dslot, zca, zcb, zcc, zcd, ptrCells_some, F19, hc1, hce, hr2.shutIn, alts19_5]
      rw [wpCall_eq (num_eq _ _)]
      simp only [WW, partV, eqCells, eqLf, minV, maxV, ifcV, zaa, zab, zac, zad, zae, zaf, zag, zah, zai, ofConst, ofConst1, List.replicate, zaj, zak, loadOp, Go.Abs.loadCells, binV, zal, pickV, zam, zan, zao, zap, zaq, zar, zas, zat, zau, outR, resAll, resOne, zav, zaw, zax, zay, zaz, zba, zbb, zbc, zbd, zbe, zbf, zbg, zbh, zbi, zbj, zbk, storeOp, storeCell, overlay, zbl, zbm, zbn, lookupOp, keyT, okRes, mapUpdateOp, zbo, zbp, zbq, zbr, zbs, zbt, zbu, Nat.reduceSub, Nat.reduceAdd, Int.reduceLT, Int.reduceLE, Int.reduceAdd, Int.reduceSub, Int.reduceToNat, Int.reduceBEq, Int.reduceBNe, Int.reduceMul, Nat.reduceBEq, Nat.reduceBNe, Nat.reduceLT, Nat.reduceLeDiff, Nat.reduceMul, Nat.reduceEqDiff, WD, effB, effH, isPriv, isHeap, isImm, zbx, zby, zbz, chkO, setD, dslot, zca, zcb, zcc, zcd, ptrCells_some, F19, hce, hr2.shutIn, alts19_5]
      exact ⟨_, _, _, _, rfl, P2, rfl, by omega⟩
  | false =>
    cases h1 : (a.d == 1) with
    | true =>
      simp only [WW, partV, eqCells, eqLf, minV, maxV, ifcV, zaa, zab, zac, zad, zae, zaf, zag, zah, zai, ofConst, ofConst1, List.replicate, zaj, zak, loadOp, Go.Abs.loadCells, binV, zal, pickV, zam, zan, zao, zap, zaq, zar, zas, zat, zau, outR, resAll, resOne, zav, zaw, zax, zay, zaz, zba, zbb, zbc, zbd, zbe, zbf, zbg, zbh, zbi, zbj, zbk, storeOp, storeCell, overlay, zbl, zbm, zbn, lookupOp, keyT, okRes, mapUpdateOp, zbo, zbp, zbq, zbr, zbs, zbt, zbu, Nat.reduceSub, Nat.reduceAdd, Int.reduceLT, Int.reduceLE, Int.reduceAdd, Int.reduceSub, Int.reduceToNat, Int.reduceBEq, Int.reduceBNe, Int.reduceMul, Nat.reduceBEq, Nat.reduceBNe, Nat.reduceLT, Nat.reduceLeDiff, Nat.reduceMul, Nat.reduceEqDiff, WD, effB, effH, isPriv, isHeap, isImm, zbx, zby, zbz, chkO, setD, dslot, zca, zcb, zcc, zcd, ptrCells_some, F19, h0, h1, hr.shutIn, (ha H).shutIn]
      refine wpCall_of (wrote_eq R a.f a.v) ?_
      rintro out H2 hp
      by_cases hbad : a.f < 0 ∨ gl ≤ a.f
      · rw [if_pos hbad] at hp
        obtain ⟨rfl, rfl⟩ := hp
        have hrw := rwrote_eq hsx hlr P.on (cnt.length : Int) gl a.f a.v
        simp only [refV, if_pos hbad] at hrw
        have hsi := sameInts_eq (H := H2) (x := .nils) (y := .nils) (l := []) (m := []) .nils .nils (by simp)
        simp only [decide_true] at hsi
        simp only [WW, partV, eqCells, eqLf, minV, maxV, ifcV, zaa, zab, zac, zad, zae, zaf, zag, zah, zai, ofConst, ofConst1, List.replicate, zaj, zak, loadOp, Go.Abs.loadCells, binV, zal, pickV, zam, zan, zao, zap, zaq, zar, zas, zat, zau, outR, resAll, resOne, zav, zaw, zax, zay, zaz, zba, zbb, zbc, zbd, zbe, zbf, zbg, zbh, zbi, zbj, zbk, storeOp, storeCell, overlay, zbl, zbm, zbn, lookupOp, keyT, okRes, mapUpdateOp, zbo, zbp, zbq, zbr, zbs, zbt, zbu, Nat.reduceSub, Nat.reduceAdd, Int.reduceLT, Int.reduceLE, Int.reduceAdd, Int.reduceSub, Int.reduceToNat, Int.reduceBEq, Int.reduceBNe, Int.reduceMul, Nat.reduceBEq, Nat.reduceBNe, Nat.reduceLT, Nat.reduceLeDiff, Nat.reduceMul, Nat.reduceEqDiff, WD, effB, effH, isPriv, isHeap, isImm, zbx, zby, zbz, chkO, setD, dslot, zca, zcb, zcc, zcd, ptrCells_some, F19, hr.shutIn, (ha H2).shutIn]
        refine wpCall_of hrw ?_
        rintro out H3 ⟨rfl, rfl⟩
        simp only [WW, partV, eqCells, eqLf, minV, maxV, ifcV, zaa, zab, zac, zad, zae, zaf, zag, zah, zai, ofConst, ofConst1, List.replicate, zaj, zak, loadOp, Go.Abs.loadCells, binV, zal, pickV, zam, zan, zao, zap, zaq, zar, zas, zat, zau, outR, resAll, resOne, zav, zaw, zax, zay, zaz, zba, zbb, zbc, zbd, zbe, zbf, zbg, zbh, zbi, zbj, zbk, storeOp, storeCell, overlay, zbl, zbm, zbn, lookupOp, keyT, okRes, mapUpdateOp, zbo, zbp, zbq, zbr, zbs, zbt, zbu, Nat.reduceSub, Nat.reduceAdd, Int.reduceLT, Int.reduceLE, Int.reduceAdd, Int.reduceSub, Int.reduceToNat, Int.reduceBEq, Int.reduceBNe, Int.reduceMul, Nat.reduceBEq, Nat.reduceBNe, Nat.reduceLT, Nat.reduceLeDiff, Nat.reduceMul, Nat.reduceEqDiff, WD, effB, effH, isPriv, isHeap, isImm, zbx, zby, zbz, chkO, setD, dslot, zca, zcb, zcc, zcd, ptrCells_some, F19, hc1, hce, hr.shutIn]
        refine wC_dr alts19_9 (by kernel_rfl) ?_
        simp only [WW, partV, eqCells, eqLf, minV, maxV, ifcV, zaa, zab, zac, zad, zae, zaf, zag, zah, zai, ofConst, ofConst1, List.replicate, zaj, zak, loadOp, Go.Abs.loadCells, binV, zal, pickV, zam, zan, zao, zap, zaq, zar, zas, zat, zau, outR, resAll, resOne, zav, zaw, zax, zay, zaz, zba, zbb, zbc, zbd, zbe, zbf, zbg, zbh, zbi, zbj, zbk, storeOp, storeCell, overlay, zbl, zbm, zbn, lookupOp, keyT, okRes, mapUpdateOp, zbo, zbp, zbq, zbr, zbs, zbt, zbu, Nat.reduceSub, Nat.reduceAdd, Int.reduceLT, Int.reduceLE, Int.reduceAdd, Int.reduceSub, Int.reduceToNat, Int.reduceBEq, Int.reduceBNe, Int.reduceMul, Nat.reduceBEq, Nat.reduceBNe, Nat.reduceLT, Nat.reduceLeDiff, Nat.reduceMul, Nat.reduceEqDiff, WD, effB, effH, isPriv, isHeap, isImm, zbx, zby, zbz, chkO, setD, dslot, zca, zcb, zcc, zcd, ptrCells_some, F19, hc1, hce, hr.shutIn, alts19_9]
        rw [wpCall_eq hsi]
        simp only [WW, partV, eqCells, eqLf, minV, maxV, ifcV, zaa, zab, zac, zad, zae, zaf, zag, zah, zai, ofConst, ofConst1, List.replicate, zaj, zak, loadOp, Go.Abs.loadCells, binV, zal, pickV, zam, zan, zao, zap, zaq, zar, zas, zat, zau, outR, resAll, resOne, zav, zaw, zax, zay, zaz, zba, zbb, zbc, zbd, zbe, zbf, zbg, zbh, zbi, zbj, zbk, storeOp, storeCell, overlay, zbl, zbm, zbn, lookupOp, keyT, okRes, mapUpdateOp, zbo, zbp, zbq, zbr, zbs, zbt, zbu, Nat.reduceSub, Nat.reduceAdd, Int.reduceLT, Int.reduceLE, Int.reduceAdd, Int.reduceSub, Int.reduceToNat, Int.reduceBEq, Int.reduceBNe, Int.reduceMul, Nat.reduceBEq, Nat.reduceBNe, Nat.reduceLT, Nat.reduceLeDiff, Nat.reduceMul, Nat.reduceEqDiff, WD, effB, effH, isPriv, isHeap, isImm, zbx, zby, zbz, chkO, setD, dslot, zca, zcb, zcc, zcd, ptrCells_some, F19, hc1, hce, hr.shutIn, alts19_9]
        rw [wpCall_eq (num_eq _ _)]
        simp only [WW, partV, eqCells, eqLf, minV, maxV, ifcV, zaa, zab, zac, zad, zae, zaf, zag, zah, zai, ofConst, ofConst1, List.replicate, zaj, zak, loadOp, Go.Abs.loadCells, binV, zal, pickV, zam, zan, zao, zap, zaq, zar, zas, zat, zau, outR, resAll, resOne, zav, zaw, zax, zay, zaz, zba, zbb, zbc, zbd, zbe, zbf, zbg, zbh, zbi, zbj, zbk, storeOp, storeCell, overlay, zbl, zbm, zbn, lookupOp, keyT, okRes, mapUpdateOp, zbo, zbp, zbq, zbr, zbs, zbt, zbu, Nat.reduceSub, Nat.reduceAdd, Int.reduceLT, Int.reduceLE, Int.reduceAdd, Int.reduceSub, Int.reduceToNat, Int.reduceBEq, Int.reduceBNe, Int.reduceMul, Nat.reduceBEq, Nat.reduceBNe, Nat.reduceLT, Nat.reduceLeDiff, Nat.reduceMul, Nat.reduceEqDiff, WD, effB, effH, isPriv, isHeap, isImm, zbx, zby, zbz, chkO, setD, dslot, zca, zcb, zcc, zcd, ptrCells_some, F19, hce, hr.shutIn, alts19_9]
        exact ⟨_, _, _, _, rfl, P, rfl, by omega⟩
      · rw [if_neg hbad] at hp
        obtain ⟨y1, rfl, hy1, R2, hfr⟩ := hp
        have hsx2 : Sx H2 x (rl.map verV) := (P.rs.keep (N' := fun _ => False) fun s es hs h => ⟨fun h => h, by rw [hfr.old s (List.getElem?_eq_some_iff.1 h).1 (fun e => hs (.inr (.inr e)))]; exact h⟩).sx
        have hr2 := hsx2.rd
        have hy1s := hy1.sx
        have hrw := rwrote_eq hsx2 hlr P.on (cnt.length : Int) gl a.f a.v
        simp only [refV, if_neg hbad] at hrw
        have hs1 := hy1s.rd.shutIn
        simp only [WW, partV, eqCells, eqLf, minV, maxV, ifcV, zaa, zab, zac, zad, zae, zaf, zag, zah, zai, ofConst, ofConst1, List.replicate, zaj, zak, loadOp, Go.Abs.loadCells, binV, zal, pickV, zam, zan, zao, zap, zaq, zar, zas, zat, zau, outR, resAll, resOne, zav, zaw, zax, zay, zaz, zba, zbb, zbc, zbd, zbe, zbf, zbg, zbh, zbi, zbj, zbk, storeOp, storeCell, overlay, zbl, zbm, zbn, lookupOp, keyT, okRes, mapUpdateOp, zbo, zbp, zbq, zbr, zbs, zbt, zbu, Nat.reduceSub, Nat.reduceAdd, Int.reduceLT, Int.reduceLE, Int.reduceAdd, Int.reduceSub, Int.reduceToNat, Int.reduceBEq, Int.reduceBNe, Int.reduceMul, Nat.reduceBEq, Nat.reduceBNe, Nat.reduceLT, Nat.reduceLeDiff, Nat.reduceMul, Nat.reduceEqDiff, WD, effB, effH, isPriv, isHeap, isImm, zbx, zby, zbz, chkO, setD, dslot, zca, zcb, zcc, zcd, ptrCells_some, F19, hr2.shutIn, hs1, (ha H2).shutIn]
        refine wpCall_of hrw ?_
        rintro out H3 ⟨y, rfl, hy, hold⟩
        rw [hits_key P.sm]
        have P2 := P.off (writes a.f a.v) R2 hold (updw_key P.sm a.f a.v) hy (upd_on P.on)
        have hyr := hy.rd
        have hy3 := (hy1.old hold).sx.rd
        have hrow := row_ids H3 (hits (writes a.f a.v) all all.length)
        have hle := hits_le (writes a.f a.v) all all.length
        have hsi := sameInts_eq hy3 hrow (by omega)
        simp only [decide_true] at hsi
        have hul : (upd (writes a.f a.v) all all.length).length ≤ all.length + 1 := by rw [upd_length]; omega
        generalize upd (writes a.f a.v) rl rl.length = rl2 at P2 hy hyr
        generalize upd (writes a.f a.v) all all.length = all2 at P2 hul
        have hrs := hrow.shutIn
        have hrc := hrow.clip
        generalize rowV true (idsV (hits (writes a.f a.v) all all.length)) (hits (writes a.f a.v) all all.length).length = rw2 at hsi hrow hrs hrc ⊢
        have hyc := hyr.cells1
        have hyk := hyr.clip
        have h1c := hy3.clip
        simp only [WW, partV, eqCells, eqLf, minV, maxV, ifcV, zaa, zab, zac, zad, zae, zaf, zag, zah, zai, ofConst, ofConst1, List.replicate, zaj, zak, loadOp, Go.Abs.loadCells, binV, zal, pickV, zam, zan, zao, zap, zaq, zar, zas, zat, zau, outR, resAll, resOne, zav, zaw, zax, zay, zaz, zba, zbb, zbc, zbd, zbe, zbf, zbg, zbh, zbi, zbj, zbk, storeOp, storeCell, overlay, zbl, zbm, zbn, lookupOp, keyT, okRes, mapUpdateOp, zbo, zbp, zbq, zbr, zbs, zbt, zbu, Nat.reduceSub, Nat.reduceAdd, Int.reduceLT, Int.reduceLE, Int.reduceAdd, Int.reduceSub, Int.reduceToNat, Int.reduceBEq, Int.reduceBNe, Int.reduceMul, Nat.reduceBEq, Nat.reduceBNe, Nat.reduceLT, Nat.reduceLeDiff, Nat.reduceMul, Nat.reduceEqDiff, WD, effB, effH, isPriv, isHeap, isImm, zbx, zby, zbz, chkO, setD, dslot, zca, zcb, zcc, zcd, ptrCells_some, F19, hc1, hyc, hyk, h1c, hrs, hrc, hce, hyr.shutIn, hs1, hr.shutIn]
        refine wC_dr alts19_9 (by kernel_rfl) ?_
        simp only [WW, partV, eqCells, eqLf, minV, maxV, ifcV, zaa, zab, zac, zad, zae, zaf, zag, zah, zai, ofConst, ofConst1, List.replicate, zaj, zak, loadOp, Go.Abs.loadCells, binV, zal, pickV, zam, zan, zao, zap, zaq, zar, zas, zat, zau, outR, resAll, resOne, zav, zaw, zax, zay, zaz, zba, zbb, zbc, zbd, zbe, zbf, zbg, zbh, zbi, zbj, zbk, storeOp, storeCell, overlay, zbl, zbm, zbn, lookupOp, keyT, okRes, mapUpdateOp, zbo, zbp, zbq, zbr, zbs, zbt, zbu, Nat.reduceSub, Nat.reduceAdd, Int.reduceLT, Int.reduceLE, Int.reduceAdd, Int.reduceSub, Int.reduceToNat, Int.reduceBEq, Int.reduceBNe, Int.reduceMul, Nat.reduceBEq, Nat.reduceBNe, Nat.reduceLT, Nat.reduceLeDiff, Nat.reduceMul, Nat.reduceEqDiff, WD, effB, effH, isPriv, isHeap, isImm, zbx, zby, zbz, chkO, setD, dslot, zca, zcb, zcc, zcd, ptrCells_some, F19, hc1, hyc, hyk, h1c, hrs, hrc, hce, hyr.shutIn, hs1, hr.shutIn, alts19_9]
        rw [wpCall_eq hsi]
        simp only [WW, partV, eqCells, eqLf, minV, maxV, ifcV, zaa, zab, zac, zad, zae, zaf, zag, zah, zai, ofConst, ofConst1, List.replicate, zaj, zak, loadOp, Go.Abs.loadCells, binV, zal, pickV, zam, zan, zao, zap, zaq, zar, zas, zat, zau, outR, resAll, resOne, zav, zaw, zax, zay, zaz, zba, zbb, zbc, zbd, zbe, zbf, zbg, zbh, zbi, zbj, zbk, storeOp, storeCell, overlay, zbl, zbm, zbn, lookupOp, keyT, okRes, mapUpdateOp, zbo, zbp, zbq, zbr, zbs, zbt, zbu, Nat.reduceSub, Nat.reduceAdd, Int.reduceLT, Int.reduceLE, Int.reduceAdd, Int.reduceSub, Int.reduceToNat, Int.reduceBEq, Int.reduceBNe, Int.reduceMul, Nat.reduceBEq, Nat.reduceBNe, Nat.reduceLT, Nat.reduceLeDiff, Nat.reduceMul, Nat.reduceEqDiff, WD, effB, effH, isPriv, isHeap, isImm, zbx, zby, zbz, chkO, setD, dslot, zca, zcb, zcc, zcd, ptrCells_some, F19, hc1, hyc, hyk, h1c, hrs, hrc, hce, hyr.shutIn, hs1, hr.shutIn, alts19_9]
        rw [wpCall_eq (num_eq _ _)]
        simp only [WW, partV, eqCells, eqLf, minV, maxV, ifcV, zaa, zab, zac, zad, zae, zaf, zag, zah, zai, ofConst, ofConst1, List.replicate, zaj, zak, loadOp, Go.Abs.loadCells, binV, zal, pickV, zam, zan, zao, zap, zaq, zar, zas, zat, zau, outR, resAll, resOne, zav, zaw, zax, zay, zaz, zba, zbb, zbc, zbd, zbe, zbf, zbg, zbh, zbi, zbj, zbk, storeOp, storeCell, overlay, zbl, zbm, zbn, lookupOp, keyT, okRes, mapUpdateOp, zbo, zbp, zbq, zbr, zbs, zbt, zbu, Nat.reduceSub, Nat.reduceAdd, Int.reduceLT, Int.reduceLE, Int.reduceAdd, Int.reduceSub, Int.reduceToNat, Int.reduceBEq, Int.reduceBNe, Int.reduceMul, Nat.reduceBEq, Nat.reduceBNe, Nat.reduceLT, Nat.reduceLeDiff, Nat.reduceMul, Nat.reduceEqDiff, WD, effB, effH, isPriv, isHeap, isImm, zbx, zby, zbz, chkO, setD, dslot, zca, zcb, zcc, zcd, ptrCells_some, F19, hc1, hyc, hyk, h1c, hrs, hrc, hce, hyr.shutIn, hs1, hr.shutIn, alts19_9]
        exact ⟨_, _, _, _, rfl, P2, rfl, hul⟩
    | false =>
      cases h2 : (a.d == 2) with
      | true =>
        simp only [WW, partV, eqCells, eqLf, minV, maxV, ifcV, zaa, zab, zac, zad, zae, zaf, zag, zah, zai, ofConst, ofConst1, List.replicate, zaj, zak, loadOp, Go.Abs.loadCells, binV, zal, pickV, zam, zan, zao, zap, zaq, zar, zas, zat, zau, outR, resAll, resOne, zav, zaw, zax, zay, zaz, zba, zbb, zbc, zbd, zbe, zbf, zbg, zbh, zbi, zbj, zbk, storeOp, storeCell, overlay, zbl, zbm, zbn, lookupOp, keyT, okRes, mapUpdateOp, zbo, zbp, zbq, zbr, zbs, zbt, zbu, Nat.reduceSub, Nat.reduceAdd, Int.reduceLT, Int.reduceLE, Int.reduceAdd, Int.reduceSub, Int.reduceToNat, Int.reduceBEq, Int.reduceBNe, Int.reduceMul, Nat.reduceBEq, Nat.reduceBNe, Nat.reduceLT, Nat.reduceLeDiff, Nat.reduceMul, Nat.reduceEqDiff, WD, effB, effH, isPriv, isHeap, isImm, zbx, zby, zbz, chkO, setD, dslot, zca, zcb, zcc, zcd, ptrCells_some, F19, h0, h1, h2, hr.shutIn, (ha H).shutIn]
        refine wpCall_of (drop_eq R a.f) ?_
        rintro out H2 hp
        by_cases hbad : a.f < 0 ∨ (all.length : Int) ≤ a.f
        · rw [if_pos hbad] at hp
          obtain ⟨rfl, rfl⟩ := hp
          have hrw := rdrop_eq hsx hlr (cnt.length : Int) gl a.f
          rw [hla] at hrw
          simp only [refV, if_pos hbad] at hrw
          simp only [WW, partV, eqCells, eqLf, minV, maxV, ifcV, zaa, zab, zac, zad, zae, zaf, zag, zah, zai, ofConst, ofConst1, List.replicate, zaj, zak, loadOp, Go.Abs.loadCells, binV, zal, pickV, zam, zan, zao, zap, zaq, zar, zas, zat, zau, outR, resAll, resOne, zav, zaw, zax, zay, zaz, zba, zbb, zbc, zbd, zbe, zbf, zbg, zbh, zbi, zbj, zbk, storeOp, storeCell, overlay, zbl, zbm, zbn, lookupOp, keyT, okRes, mapUpdateOp, zbo, zbp, zbq, zbr, zbs, zbt, zbu, Nat.reduceSub, Nat.reduceAdd, Int.reduceLT, Int.reduceLE, Int.reduceAdd, Int.reduceSub, Int.reduceToNat, Int.reduceBEq, Int.reduceBNe, Int.reduceMul, Nat.reduceBEq, Nat.reduceBNe, Nat.reduceLT, Nat.reduceLeDiff, Nat.reduceMul, Nat.reduceEqDiff, WD, effB, effH, isPriv, isHeap, isImm, zbx, zby, zbz, chkO, setD, dslot, zca, zcb, zcc, zcd, ptrCells_some, F19, hr.shutIn, (ha H2).shutIn]
          refine wpCall_of hrw ?_
          rintro out H3 ⟨rfl, rfl⟩
          simp only [WW, partV, eqCells, eqLf, minV, maxV, ifcV, zaa, zab, zac, zad, zae, zaf, zag, zah, zai, ofConst, ofConst1, List.replicate, zaj, zak, loadOp, Go.Abs.loadCells, binV, zal, pickV, zam, zan, zao, zap, zaq, zar, zas, zat, zau, outR, resAll, resOne, zav, zaw, zax, zay, zaz, zba, zbb, zbc, zbd, zbe, zbf, zbg, zbh, zbi, zbj, zbk, storeOp, storeCell, overlay, zbl, zbm, zbn, lookupOp, keyT, okRes, mapUpdateOp, zbo, zbp, zbq, zbr, zbs, zbt, zbu, Nat.reduceSub, Nat.reduceAdd, Int.reduceLT, Int.reduceLE, Int.reduceAdd, Int.reduceSub, Int.reduceToNat, Int.reduceBEq, Int.reduceBNe, Int.reduceMul, Nat.reduceBEq, Nat.reduceBNe, Nat.reduceLT, Nat.reduceLeDiff, Nat.reduceMul, Nat.reduceEqDiff, WD, effB, effH, isPriv, isHeap, isImm, zbx, zby, zbz, chkO, setD, dslot, zca, zcb, zcc, zcd, ptrCells_some, F19, hc1, hce, hr.shutIn]
          refine wC_dr alts19_13 (by kernel_rfl) ?_
          simp only [WW, partV, eqCells, eqLf, minV, maxV, ifcV, zaa, zab, zac, zad, zae, zaf, zag, zah, zai, ofConst, ofConst1, List.replicate, zaj, zak, loadOp, Go.Abs.loadCells, binV, zal, pickV, zam, zan, zao, zap, zaq, zar, zas, zat, zau, outR, resAll, resOne, zav, zaw, zax, zay, zaz, zba, zbb, zbc, zbd, zbe, zbf, zbg, zbh, zbi, zbj, zbk, storeOp, storeCell, overlay, zbl, zbm, zbn, lookupOp, keyT, okRes, mapUpdateOp, zbo, zbp, zbq, zbr, zbs, zbt, zbu, Nat.reduceSub, Nat.reduceAdd, Int.reduceLT, Int.reduceLE, Int.reduceAdd, Int.reduceSub, Int.reduceToNat, Int.reduceBEq, Int.reduceBNe, Int.reduceMul, Nat.reduceBEq, Nat.reduceBNe, Nat.reduceLT, Nat.reduceLeDiff, Nat.reduceMul, Nat.reduceEqDiff, WD, effB, effH, isPriv, isHeap, isImm, zbx, zby, zbz, chkO, setD, dslot, zca, zcb, zcc, zcd, ptrCells_some, F19, hc1, hce, hr.shutIn, alts19_13]
          rw [wpCall_eq (num_eq _ _)]
          simp only [WW, partV, eqCells, eqLf, minV, maxV, ifcV, zaa, zab, zac, zad, zae, zaf, zag, zah, zai, ofConst, ofConst1, List.replicate, zaj, zak, loadOp, Go.Abs.loadCells, binV, zal, pickV, zam, zan, zao, zap, zaq, zar, zas, zat, zau, outR, resAll, resOne, zav, zaw, zax, zay, zaz, zba, zbb, zbc, zbd, zbe, zbf, zbg, zbh, zbi, zbj, zbk, storeOp, storeCell, overlay, zbl, zbm, zbn, lookupOp, keyT, okRes, mapUpdateOp, zbo, zbp, zbq, zbr, zbs, zbt, zbu, Nat.reduceSub, Nat.reduceAdd, Int.reduceLT, Int.reduceLE, Int.reduceAdd, Int.reduceSub, Int.reduceToNat, Int.reduceBEq, Int.reduceBNe, Int.reduceMul, Nat.reduceBEq, Nat.reduceBNe, Nat.reduceLT, Nat.reduceLeDiff, Nat.reduceMul, Nat.reduceEqDiff, WD, effB, effH, isPriv, isHeap, isImm, zbx, zby, zbz, chkO, setD, dslot, zca, zcb, zcc, zcd, ptrCells_some, F19, hce, hr.shutIn, alts19_13]
          exact ⟨_, _, _, _, rfl, P, rfl, by omega⟩
        · rw [if_neg hbad] at hp
          obtain ⟨rfl, R2, hfr⟩ := hp
          have hsx2 : Sx H2 x (rl.map verV) := (P.rs.keep (N' := fun _ => False) fun s es hs h => ⟨fun h => h, by rw [hfr.old s (List.getElem?_eq_some_iff.1 h).1 (fun e => hs (.inr (.inr e)))]; exact h⟩).sx
          have hr2 := hsx2.rd
          have hrw := rdrop_eq hsx2 hlr (cnt.length : Int) gl a.f
          rw [hla] at hrw
          simp only [refV, if_neg hbad] at hrw
          simp only [WW, partV, eqCells, eqLf, minV, maxV, ifcV, zaa, zab, zac, zad, zae, zaf, zag, zah, zai, ofConst, ofConst1, List.replicate, zaj, zak, loadOp, Go.Abs.loadCells, binV, zal, pickV, zam, zan, zao, zap, zaq, zar, zas, zat, zau, outR, resAll, resOne, zav, zaw, zax, zay, zaz, zba, zbb, zbc, zbd, zbe, zbf, zbg, zbh, zbi, zbj, zbk, storeOp, storeCell, overlay, zbl, zbm, zbn, lookupOp, keyT, okRes, mapUpdateOp, zbo, zbp, zbq, zbr, zbs, zbt, zbu, Nat.reduceSub, Nat.reduceAdd, Int.reduceLT, Int.reduceLE, Int.reduceAdd, Int.reduceSub, Int.reduceToNat, Int.reduceBEq, Int.reduceBNe, Int.reduceMul, Nat.reduceBEq, Nat.reduceBNe, Nat.reduceLT, Nat.reduceLeDiff, Nat.reduceMul, Nat.reduceEqDiff, WD, effB, effH, isPriv, isHeap, isImm, zbx, zby, zbz, chkO, setD, dslot, zca, zcb, zcc, zcd, ptrCells_some, F19, hr2.shutIn, (ha H2).shutIn]
          refine wpCall_of hrw ?_
          rintro out H3 ⟨y, rfl, hy, hold⟩
          have P2 := P.off (drops a.f) R2 hold (updd_key P.sm a.f) hy (off_on P.on)
          have hyr := hy.rd
          have hul : (upd (drops a.f) all all.length).length ≤ all.length + 1 := by rw [upd_length]; omega
          generalize (rl.mapIdx fun j v => if (j : Int) = a.f then v.off else v) = rl2 at P2 hy hyr
          generalize upd (drops a.f) all all.length = all2 at P2 hul
          have hyc := hyr.cells1
          have hyk := hyr.clip
          simp only [WW, partV, eqCells, eqLf, minV, maxV, ifcV, zaa, zab, zac, zad, zae, zaf, zag, zah, zai, ofConst, ofConst1, List.replicate, zaj, zak, loadOp, Go.Abs.loadCells, binV, zal, pickV, zam, zan, zao, zap, zaq, zar, zas, zat, zau, outR, resAll, resOne, zav, zaw, zax, zay, zaz, zba, zbb, zbc, zbd, zbe, zbf, zbg, zbh, zbi, zbj, zbk, storeOp, storeCell, overlay, zbl, zbm, zbn, lookupOp, keyT, okRes, mapUpdateOp, zbo, zbp, zbq, zbr, zbs, zbt, zbu, Nat.reduceSub, Nat.reduceAdd, Int.reduceLT, Int.reduceLE, Int.reduceAdd, Int.reduceSub, Int.reduceToNat, Int.reduceBEq, Int.reduceBNe, Int.reduceMul, Nat.reduceBEq, Nat.reduceBNe, Nat.reduceLT, Nat.reduceLeDiff, Nat.reduceMul, Nat.reduceEqDiff, WD, effB, effH, isPriv, isHeap, isImm, zbx, zby, zbz, chkO, setD, dslot, zca, zcb, zcc, zcd, ptrCells_some, F19, hc1, hyc, hyk, hce, hyr.shutIn, hr.shutIn]
          refine wC_dr alts19_13 (by kernel_rfl) ?_
          simp only [WW, partV, eqCells, eqLf, minV, maxV, ifcV, zaa, zab, zac, zad, zae, zaf, zag, zah, zai, ofConst, ofConst1, List.replicate, zaj, zak, loadOp, Go.Abs.loadCells, binV, zal, pickV, zam, zan, zao, zap, zaq, zar, zas, zat, zau, outR, resAll, resOne, zav, zaw, zax, zay, zaz, zba, zbb, zbc, zbd, zbe, zbf, zbg, zbh, zbi, zbj, zbk, storeOp, storeCell, overlay, zbl, zbm, zbn, lookupOp, keyT, okRes, mapUpdateOp, zbo, zbp, zbq, zbr, zbs, zbt, zbu, Nat.reduceSub, Nat.reduceAdd, Int.reduceLT, Int.reduceLE, Int.reduceAdd, Int.reduceSub, Int.reduceToNat, Int.reduceBEq, Int.reduceBNe, Int.reduceMul, Nat.reduceBEq, Nat.reduceBNe, Nat.reduceLT, Nat.reduceLeDiff, Nat.reduceMul, Nat.reduceEqDiff, WD, effB, effH, isPriv, isHeap, isImm, zbx, zby, zbz, chkO, setD, dslot, zca, zcb, zcc, zcd, ptrCells_some, F19, hc1, hyc, hyk, hce, hyr.shutIn, hr.shutIn, alts19_13]
          rw [wpCall_eq (num_eq _ _)]
          simp only [WW, partV, eqCells, eqLf, minV, maxV, ifcV, zaa, zab, zac, zad, zae, zaf, zag, zah, zai, ofConst, ofConst1, List.replicate, zaj, zak, loadOp, Go.Abs.loadCells, binV, zal, pickV, zam, zan, zao, zap, zaq, zar, zas, zat, zau, outR, resAll, resOne, zav, zaw, zax, zay, zaz, zba, zbb, zbc, zbd, zbe, zbf, zbg, zbh, zbi, zbj, zbk, storeOp, storeCell, overlay, zbl, zbm, zbn, lookupOp, keyT, okRes, mapUpdateOp, zbo, zbp, zbq, zbr, zbs, zbt, zbu, Nat.reduceSub, Nat.reduceAdd, Int.reduceLT, Int.reduceLE, Int.reduceAdd, Int.reduceSub, Int.reduceToNat, Int.reduceBEq, Int.reduceBNe, Int.reduceMul, Nat.reduceBEq, Nat.reduceBNe, Nat.reduceLT, Nat.reduceLeDiff, Nat.reduceMul, Nat.reduceEqDiff, WD, effB, effH, isPriv, isHeap, isImm, zbx, zby, zbz, chkO, setD, dslot, zca, zcb, zcc, zcd, ptrCells_some, F19, hc1, hyc, hyk, hce, hyr.shutIn, hr.shutIn, alts19_13]
          exact ⟨_, _, _, _, rfl, P2, rfl, hul⟩
      | false =>
        simp only [WW, partV, eqCells, eqLf, minV, maxV, ifcV, zaa, zab, zac, zad, zae, zaf, zag, zah, zai, ofConst, ofConst1, List.replicate, zaj, zak, loadOp, Go.Abs.loadCells, binV, zal, pickV, zam, zan, zao, zap, zaq, zar, zas, zat, zau, outR, resAll, resOne, zav, zaw, zax, zay, zaz, zba, zbb, zbc, zbd, zbe, zbf, zbg, zbh, zbi, zbj, zbk, storeOp, storeCell, overlay, zbl, zbm, zbn, lookupOp, keyT, okRes, mapUpdateOp, zbo, zbp, zbq, zbr, zbs, zbt, zbu, Nat.reduceSub, Nat.reduceAdd, Int.reduceLT, Int.reduceLE, Int.reduceAdd, Int.reduceSub, Int.reduceToNat, Int.reduceBEq, Int.reduceBNe, Int.reduceMul, Nat.reduceBEq, Nat.reduceBNe, Nat.reduceLT, Nat.reduceLeDiff, Nat.reduceMul, Nat.reduceEqDiff, WD, effB, effH, isPriv, isHeap, isImm, zbx, zby, zbz, chkO, setD, dslot, zca, zcb, zcc, zcd, ptrCells_some, F19, h0, h1, h2, hc1, hr.shutIn, (ha H).shutIn]
        exact ⟨_, _, _, _, rfl, P, rfl, by omega⟩
end Go.Proofs.Ytfjbgmcdkhepkaa
