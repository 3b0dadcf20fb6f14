/- A part of the proofs over this seat. -/
import Derived.Test.YtfjbgmcdkhepkaaQM1
namespace Go.Proofs.Ytfjbgmcdkhepkaa
open Go Go.Abs Go.Proofs
set_option maxRecDepth 100000
set_option maxHeartbeats 2000000
set_option linter.unusedVariables false
set_option linter.unusedSimpArgs false
/-- An act, as it is handed in -/
structure ActR where
  d : Int
  f : Int
  x : V
  l : List (Int × Int)
  v : Int
  h : IsDeps x l
def actV (a : ActR) : V := .agg [.int .i64 a.d, .int .i64 a.f, a.x, .int .u64 a.v]
def muchB (l : List ActR) : Bool := decide (60 < l.length) || l.any fun a => decide (40 < a.l.length)
theorem actAt {H : Hp} {x : V} {l : List ActR} (hx : Rd H x (l.map actV)) {i : Nat} {a : ActR} (hd : l[i]? = some a) : RdAt H x 4 i (actV a) :=
  hx.at_ (by rw [List.getElem?_map, hd]; rfl) rfl
theorem much_eq {H : Hp} {x : V} {l : List ActR} (hx : Rd H x (l.map actV)) : EW 16 [x] H = some (.ret (.bool (muchB l)) false, H) := by
  refine eqOf (runs f16 b16 r16 n16 _ _ ?_)
  simp only [bodyOf, Try.f16, Option.getD_some]
  simp only [WW, partV, eqCells, eqLf, minV, maxV, ifcV, zaa, zab, zac, zad, zae, zaf, zag, zah, zai, ofConst, ofConst1, List.replicate, zaj, zak, loadOp, Go.Abs.loadCells, binV, zal, pickV, zam, zan, zao, zap, zaq, zar, zas, zat, zau, outR, resAll, resOne, zav, zaw, zax, zay, zaz, zba, zbb, zbc, zbd, zbe, zbf, zbg, zbh, zbi, zbj, zbk, storeOp, storeCell, overlay, zbl, zbm, zbn, lookupOp, keyT, okRes, mapUpdateOp, zbo, zbp, zbq, zbr, zbs, zbt, zbu, Nat.reduceSub, Nat.reduceAdd, Int.reduceLT, Int.reduceLE, Int.reduceAdd, Int.reduceSub, Int.reduceToNat, Int.reduceBEq, Int.reduceBNe, Int.reduceMul, Nat.reduceBEq, Nat.reduceBNe, Nat.reduceLT, Nat.reduceLeDiff, Nat.reduceMul, Nat.reduceEqDiff, WD, effB, effH, isPriv, isHeap, isImm, zbx, zby, zbz, chkO, setD, dslot, zca, zcb, zcc, zcd, ptrCells_some, F16, hx.shutIn, hx.len]
  refine cSplit (fun h => ?_) (fun h => ?_)
  · have h' : 60 < l.length := by have := of_decide_eq_true h; omega
    simp only [h]
    simp only [WW, partV, eqCells, eqLf, minV, maxV, ifcV, zaa, zab, zac, zad, zae, zaf, zag, zah, zai, ofConst, ofConst1, List.replicate, zaj, zak, loadOp, Go.Abs.loadCells, binV, zal, pickV, zam, zan, zao, zap, zaq, zar, zas, zat, zau, outR, resAll, resOne, zav, zaw, zax, zay, zaz, zba, zbb, zbc, zbd, zbe, zbf, zbg, zbh, zbi, zbj, zbk, storeOp, storeCell, overlay, zbl, zbm, zbn, lookupOp, keyT, okRes, mapUpdateOp, zbo, zbp, zbq, zbr, zbs, zbt, zbu, Nat.reduceSub, Nat.reduceAdd, Int.reduceLT, Int.reduceLE, Int.reduceAdd, Int.reduceSub, Int.reduceToNat, Int.reduceBEq, Int.reduceBNe, Int.reduceMul, Nat.reduceBEq, Nat.reduceBNe, Nat.reduceLT, Nat.reduceLeDiff, Nat.reduceMul, Nat.reduceEqDiff, WD, effB, effH, isPriv, isHeap, isImm, zbx, zby, zbz, chkO, setD, dslot, zca, zcb, zcc, zcd, ptrCells_some, F16]
    simp [muchB, h']
  · have h' : ¬ 60 < l.length := by have := of_decide_eq_false h; omega
    simp only [h]
    simp only [WW, partV, eqCells, eqLf, minV, maxV, ifcV, zaa, zab, zac, zad, zae, zaf, zag, zah, zai, ofConst, ofConst1, List.replicate, zaj, zak, loadOp, Go.Abs.loadCells, binV, zal, pickV, zam, zan, zao, zap, zaq, zar, zas, zat, zau, outR, resAll, resOne, zav, zaw, zax, zay, zaz, zba, zbb, zbc, zbd, zbe, zbf, zbg, zbh, zbi, zbj, zbk, storeOp, storeCell, overlay, zbl, zbm, zbn, lookupOp, keyT, okRes, mapUpdateOp, zbo, zbp, zbq, zbr, zbs, zbt, zbu, Nat.reduceSub, Nat.reduceAdd, Int.reduceLT, Int.reduceLE, Int.reduceAdd, Int.reduceSub, Int.reduceToNat, Int.reduceBEq, Int.reduceBNe, Int.reduceMul, Nat.reduceBEq, Nat.reduceBNe, Nat.reduceLT, Nat.reduceLeDiff, Nat.reduceMul, Nat.reduceEqDiff, WD, effB, effH, isPriv, isHeap, isImm, zbx, zby, zbz, chkO, setD, dslot, zca, zcb, zcc, zcd, ptrCells_some, F16]
    refine wC_loop _ (fun n st H' => ∃ i : Nat, st = ⟨L16_4 (.v x) (.v (.int .i64 i)), [], []⟩ ∧ H' = H ∧ i ≤ l.length ∧ n = l.length - i ∧ ∀ (j : Nat) (a : ActR), j < i → l[j]? = some a → ¬ 40 < a.l.length) l.length ⟨0, ?_, rfl, by omega, by omega, fun j a hj => by omega⟩ ?_
    · simp only [WN, firstReg, growAll, zbv, zbw, norm, killS, zag, zah, zaa, zab, zbl, zat, zad, growOne, zae, zaf, zac, zas, zak, Nat.reduceLT, Nat.reduceAdd, zbj, zav, F16, L16_4, hx.clip2]
      rfl
    · rintro n st H' ⟨i, rfl, rfl, hi, hn, hno⟩
      simp only [L16_4]
      simp only [WW, partV, eqCells, eqLf, minV, maxV, ifcV, zaa, zab, zac, zad, zae, zaf, zag, zah, zai, ofConst, ofConst1, List.replicate, zaj, zak, loadOp, Go.Abs.loadCells, binV, zal, pickV, zam, zan, zao, zap, zaq, zar, zas, zat, zau, outR, resAll, resOne, zav, zaw, zax, zay, zaz, zba, zbb, zbc, zbd, zbe, zbf, zbg, zbh, zbi, zbj, zbk, storeOp, storeCell, overlay, zbl, zbm, zbn, lookupOp, keyT, okRes, mapUpdateOp, zbo, zbp, zbq, zbr, zbs, zbt, zbu, Nat.reduceSub, Nat.reduceAdd, Int.reduceLT, Int.reduceLE, Int.reduceAdd, Int.reduceSub, Int.reduceToNat, Int.reduceBEq, Int.reduceBNe, Int.reduceMul, Nat.reduceBEq, Nat.reduceBNe, Nat.reduceLT, Nat.reduceLeDiff, Nat.reduceMul, Nat.reduceEqDiff, WD, effB, effH, isPriv, isHeap, isImm, zbx, zby, zbz, chkO, setD, dslot, zca, zcb, zcc, zcd, ptrCells_some, F16, hx.shutIn, hx.len]
      refine cSplit (fun hlt => ?_) (fun hge => ?_)
      · have hi2 : i < l.length := by simpa using hlt
        have hd : l[i]? = some l[i] := List.getElem?_eq_getElem hi2
        generalize l[i] = a at hd
        have hat := actAt hx hd
        have ha := a.h.rd H'
        simp only [hlt]
        simp only [WW, partV, eqCells, eqLf, minV, maxV, ifcV, zaa, zab, zac, zad, zae, zaf, zag, zah, zai, ofConst, ofConst1, List.replicate, zaj, zak, loadOp, Go.Abs.loadCells, binV, zal, pickV, zam, zan, zao, zap, zaq, zar, zas, zat, zau, outR, resAll, resOne, zav, zaw, zax, zay, zaz, zba, zbb, zbc, zbd, zbe, zbf, zbg, zbh, zbi, zbj, zbk, storeOp, storeCell, overlay, zbl, zbm, zbn, lookupOp, keyT, okRes, mapUpdateOp, zbo, zbp, zbq, zbr, zbs, zbt, zbu, Nat.reduceSub, Nat.reduceAdd, Int.reduceLT, Int.reduceLE, Int.reduceAdd, Int.reduceSub, Int.reduceToNat, Int.reduceBEq, Int.reduceBNe, Int.reduceMul, Nat.reduceBEq, Nat.reduceBNe, Nat.reduceLT, Nat.reduceLeDiff, Nat.reduceMul, Nat.reduceEqDiff, WD, effB, effH, isPriv, isHeap, isImm, zbx, zby, zbz, chkO, setD, dslot, zca, zcb, zcc, zcd, ptrCells_some, F16, hx.shutIn, hat.at1 hx, hat.cells, hat.fa, actV, ha.shutIn, ha.len]
        refine cSplit (fun hT => ?_) (fun hF => ?_)
        · simp only [hT]
          simp only [WW, partV, eqCells, eqLf, minV, maxV, ifcV, zaa, zab, zac, zad, zae, zaf, zag, zah, zai, ofConst, ofConst1, List.replicate, zaj, zak, loadOp, Go.Abs.loadCells, binV, zal, pickV, zam, zan, zao, zap, zaq, zar, zas, zat, zau, outR, resAll, resOne, zav, zaw, zax, zay, zaz, zba, zbb, zbc, zbd, zbe, zbf, zbg, zbh, zbi, zbj, zbk, storeOp, storeCell, overlay, zbl, zbm, zbn, lookupOp, keyT, okRes, mapUpdateOp, zbo, zbp, zbq, zbr, zbs, zbt, zbu, Nat.reduceSub, Nat.reduceAdd, Int.reduceLT, Int.reduceLE, Int.reduceAdd, Int.reduceSub, Int.reduceToNat, Int.reduceBEq, Int.reduceBNe, Int.reduceMul, Nat.reduceBEq, Nat.reduceBNe, Nat.reduceLT, Nat.reduceLeDiff, Nat.reduceMul, Nat.reduceEqDiff, WD, effB, effH, isPriv, isHeap, isImm, zbx, zby, zbz, chkO, setD, dslot, zca, zcb, zcc, zcd, ptrCells_some, F16]
          have : l.any (fun a => decide (40 < a.l.length)) = true := List.any_eq_true.2 ⟨a, List.mem_of_getElem? hd, by have := of_decide_eq_true hT; simp; omega⟩
          simp [muchB, this]
        · simp only [hF]
          simp only [WW, partV, eqCells, eqLf, minV, maxV, ifcV, zaa, zab, zac, zad, zae, zaf, zag, zah, zai, ofConst, ofConst1, List.replicate, zaj, zak, loadOp, Go.Abs.loadCells, binV, zal, pickV, zam, zan, zao, zap, zaq, zar, zas, zat, zau, outR, resAll, resOne, zav, zaw, zax, zay, zaz, zba, zbb, zbc, zbd, zbe, zbf, zbg, zbh, zbi, zbj, zbk, storeOp, storeCell, overlay, zbl, zbm, zbn, lookupOp, keyT, okRes, mapUpdateOp, zbo, zbp, zbq, zbr, zbs, zbt, zbu, Nat.reduceSub, Nat.reduceAdd, Int.reduceLT, Int.reduceLE, Int.reduceAdd, Int.reduceSub, Int.reduceToNat, Int.reduceBEq, Int.reduceBNe, Int.reduceMul, Nat.reduceBEq, Nat.reduceBNe, Nat.reduceLT, Nat.reduceLeDiff, Nat.reduceMul, Nat.reduceEqDiff, WD, effB, effH, isPriv, isHeap, isImm, zbx, zby, zbz, chkO, setD, dslot, zca, zcb, zcc, zcd, ptrCells_some, F16]
          refine ⟨n - 1, by omega, i + 1, ?_, by omega, by omega, fun j b hj hb => ?_⟩
          · simp only [WN, firstReg, growAll, zbv, zbw, norm, killS, zag, zah, zaa, zab, zbl, zat, zad, growOne, zae, zaf, zac, zas, zak, Nat.reduceLT, Nat.reduceAdd, zbj, zav, F16, hx.clip2]
            rw [IntWalk.i64_in _ (by omega)]; rfl
          · by_cases e : j = i
            · subst e; rw [hd] at hb; cases hb; have := of_decide_eq_false hF; omega
            · exact hno j b (by omega) hb
      · have hi2 : i = l.length := by simp at hge; omega
        simp only [hge]
        simp only [WW, partV, eqCells, eqLf, minV, maxV, ifcV, zaa, zab, zac, zad, zae, zaf, zag, zah, zai, ofConst, ofConst1, List.replicate, zaj, zak, loadOp, Go.Abs.loadCells, binV, zal, pickV, zam, zan, zao, zap, zaq, zar, zas, zat, zau, outR, resAll, resOne, zav, zaw, zax, zay, zaz, zba, zbb, zbc, zbd, zbe, zbf, zbg, zbh, zbi, zbj, zbk, storeOp, storeCell, overlay, zbl, zbm, zbn, lookupOp, keyT, okRes, mapUpdateOp, zbo, zbp, zbq, zbr, zbs, zbt, zbu, Nat.reduceSub, Nat.reduceAdd, Int.reduceLT, Int.reduceLE, Int.reduceAdd, Int.reduceSub, Int.reduceToNat, Int.reduceBEq, Int.reduceBNe, Int.reduceMul, Nat.reduceBEq, Nat.reduceBNe, Nat.reduceLT, Nat.reduceLeDiff, Nat.reduceMul, Nat.reduceEqDiff, WD, effB, effH, isPriv, isHeap, isImm, zbx, zby, zbz, chkO, setD, dslot, zca, zcb, zcc, zcd, ptrCells_some, F16]
        have : l.any (fun a => decide (40 < a.l.length)) = false := by
          rw [List.any_eq_false]
          intro a ha
          obtain ⟨j, hj, e⟩ := List.getElem_of_mem ha
          have := hno j a (by omega) (by rw [List.getElem?_eq_getElem hj, e])
          simpa using this
        simp [muchB, this, h']
theorem open_acts {d : Nat} {v : List V} (h : Tv Try.prog (d + 5) 42 v) : ∃ (x : V) (l : List ActR), v = [x] ∧ (∀ H, Rd H x (l.map actV)) ∧ ∀ a ∈ l, ∀ y ∈ a.l, 0 ≤ y.2 ∧ y.2 ≤ 18446744073709551615 := by
  obtain ⟨x, rows, rfl, hx, hl, hr⟩ := tv_slice h u42
  rw [ag45] at hx
  obtain ⟨l, e, el, hq⟩ := rows_map (f := mkV true) (tv := actV) (Q := fun a => ∀ y ∈ a.l, 0 ≤ y.2 ∧ y.2 ≤ 18446744073709551615) (rows := rows) (fun r hr' => by
    obtain ⟨a, _, rfl, ha, b, _, rfl, hb, c, _, rfl, hc, d, _, rfl, hd, rfl⟩ := tv_fields (hr r hr') s45
    obtain ⟨n, rfl, hn⟩ := tv_int ha u3
    obtain ⟨m, rfl, hm⟩ := tv_int hb u3
    obtain ⟨x, l, rfl, hx, _, hl⟩ := open_deps hc
    obtain ⟨k, rfl, hk⟩ := tv_int hd u24
    exact ⟨⟨n, m, x, l, k, hx⟩, rfl, fun y hy => (hl y hy).2⟩)
  rw [e] at hx
  exact ⟨x, l, rfl, hx, hq⟩
end Go.Proofs.Ytfjbgmcdkhepkaa

namespace Go.Proofs.Ytfjbgmcdkhepkaa
open Go Go.Abs Go.Proofs
set_option maxRecDepth 100000
set_option maxHeartbeats 8000000
set_option linter.unusedVariables false
set_option linter.unusedSimpArgs false
/-- The registry of a law's own calls: few versions, one valid of a function, what they count on is there. -/
structure Inv (H : Hp) (d c : Nat) (cnt : List Int) (all : List Ver) : Prop where
  reg : Reg H d c 4 cnt all
  cl : cnt.length = 4
  cb : ∀ n ∈ cnt, 0 ≤ n ∧ n ≤ 4
  vf : ∀ v ∈ all, (0 ≤ v.f ∧ v.f < 4) ∧ ∀ y ∈ v.l, 0 ≤ y.1 ∧ y.1 < 4
  un : ∀ (i j : Nat) (v w : Ver), all[i]? = some v → all[j]? = some w → v.ok = true → w.ok = true → v.f = w.f → i = j
theorem Inv.with {H H' : Hp} {d c : Nat} {cnt : List Int} {all : List Ver} (I : Inv H d c cnt all) (R : Reg H' d c 4 cnt all) : Inv H' d c cnt all := ⟨R, I.cl, I.cb, I.vf, I.un⟩
theorem upd_mem {p : Nat → Ver → Bool} {A : List Ver} {n : Nat} {w : Ver} (h : w ∈ upd p A n) : ∃ u ∈ A, u.f = w.f ∧ u.l = w.l ∧ u.id = w.id := by
  obtain ⟨j, hj⟩ := List.getElem?_of_mem h
  rw [upd_at] at hj
  cases hA : A[j]? with
  | none => rw [hA] at hj; cases hj
  | some u =>
    rw [hA] at hj
    simp only [Option.map_some, Option.some.injEq] at hj
    refine ⟨u, List.mem_of_getElem? hA, ?_⟩
    rw [← hj]; split <;> exact ⟨rfl, rfl, rfl⟩
theorem upd_get {p : Nat → Ver → Bool} {A : List Ver} {j : Nat} {w : Ver} (h : (upd p A A.length)[j]? = some w) : ∃ u, A[j]? = some u ∧ u.f = w.f ∧ u.l = w.l ∧ (w.ok = true → u.ok = true ∧ p j u = false) := by
  rw [upd_at] at h
  cases hA : A[j]? with
  | none => rw [hA] at h; cases h
  | some u =>
    have hj := (List.getElem?_eq_some_iff.1 hA).1
    rw [hA] at h
    simp only [Option.map_some, Option.some.injEq, hj, decide_true, Bool.true_and] at h
    refine ⟨u, rfl, ?_⟩
    split at h
    · subst h; exact ⟨rfl, rfl, fun e => by cases e⟩
    · rename_i hc
      subst h
      refine ⟨rfl, rfl, fun e => ⟨e, ?_⟩⟩
      rw [e, Bool.true_and] at hc
      simpa using hc
theorem upd_f (p : Nat → Ver → Bool) (A : List Ver) (n : Nat) : (upd p A n).map (fun v => V.int .i64 v.f) = A.map (fun v => V.int .i64 v.f) := by
  refine List.ext_getElem? fun j => ?_
  rw [List.getElem?_map, upd_at, List.getElem?_map, Option.map_map]
  congr 1
  funext v
  simp only [Function.comp]
  split <;> rfl
theorem Inv.upd {H H' : Hp} {d c : Nat} {cnt : List Int} {all : List Ver} (I : Inv H d c cnt all) (p : Nat → Ver → Bool) (R : Reg H' d c 4 cnt (upd p all all.length)) : Inv H' d c cnt (upd p all all.length) :=
  ⟨R, I.cl, I.cb, fun v hv => by
    obtain ⟨u, hu, e1, e2, _⟩ := upd_mem hv
    have := I.vf u hu
    rw [← e1, ← e2]; exact this, fun i j v w hi hj hv hw e => by
    obtain ⟨a, ha, a1, _, a3⟩ := upd_get hi
    obtain ⟨b, hb, b1, _, b3⟩ := upd_get hj
    exact I.un i j a b ha hb (a3 hv).1 (b3 hw).1 (by rw [a1, b1, e])⟩
theorem addErr_ok {cnt : List Int} {all : List Ver} {f : Int} {l : List (Int × Int)} (h : addErr 4 cnt all f l = 0) : (0 ≤ f ∧ f < (cnt.length : Int)) ∧ (∀ y ∈ l, 0 ≤ y.1 ∧ y.1 < 4) ∧ (∀ v ∈ all, v.ok = true → v.f ≠ f) ∧ getCnt cnt f ≠ some 4 := by
  unfold addErr at h
  split at h
  · cases h
  rename_i h1
  split at h
  · cases h
  rename_i h2
  split at h
  · cases h
  rename_i h3
  simp only [Bool.or_eq_true, decide_eq_true_eq, not_or, List.any_eq_true, not_exists, not_and] at h1
  refine ⟨by omega, fun y hy => by have := h1.1.2 y hy; omega, fun v hv hok e => ?_, h3⟩
  apply h2
  rw [List.findIdx?_isSome, List.any_eq_true]
  exact ⟨v, hv, by simp [hok, e]⟩
theorem Inv.add {H H' : Hp} {d c : Nat} {cnt : List Int} {all : List Ver} (I : Inv H d c cnt all) {f : Int} {l : List (Int × Int)} (h : addErr 4 cnt all f l = 0) {v : Ver} (hf : v.f = f) (hl : v.l = l) (R : Reg H' d c 4 (cnt.modify f.toNat (· + 1)) (all ++ [v])) : Inv H' d c (cnt.modify f.toNat (· + 1)) (all ++ [v]) := by
  obtain ⟨h1, h2, h3, h4⟩ := addErr_ok h
  have hcl := I.cl
  refine ⟨R, by rw [List.length_modify]; exact hcl, fun n hn => ?_, fun w hw => ?_, fun i j w w' hi hj ho ho' e => ?_⟩
  · obtain ⟨j, hj⟩ := List.getElem?_of_mem hn
    rw [List.getElem?_modify] at hj
    cases hc : cnt[j]? with
    | none => rw [hc] at hj; cases hj
    | some n' =>
      have hb := I.cb n' (List.mem_of_getElem? hc)
      rw [hc] at hj
      simp only [Option.map_eq_map, Option.map_some, Option.some.injEq] at hj
      split at hj
      · rename_i e
        have : n' ≠ 4 := fun e4 => h4 (by simp only [getCnt, h1.1, if_true]; rw [e, hc, e4])
        omega
      · omega
  · rcases List.mem_append.1 hw with hw | hw
    · exact I.vf w hw
    · obtain rfl := List.mem_singleton.1 hw
      rw [hf, hl]
      exact ⟨by omega, h2⟩
  · by_cases hi' : i < all.length
    · rw [List.getElem?_append_left hi'] at hi
      by_cases hj' : j < all.length
      · rw [List.getElem?_append_left hj'] at hj
        exact I.un i j w w' hi hj ho ho' e
      · have hj2 : j = all.length := by have := (List.getElem?_eq_some_iff.1 hj).1; simp at this; omega
        subst hj2
        simp at hj; subst hj
        exact absurd (e.trans hf) (h3 w (List.mem_of_getElem? hi) ho)
    · have hi2 : i = all.length := by have := (List.getElem?_eq_some_iff.1 hi).1; simp at this; omega
      subst hi2
      simp at hi; subst hi
      by_cases hj' : j < all.length
      · rw [List.getElem?_append_left hj'] at hj
        exact absurd (e.symm.trans hf) (h3 w' (List.mem_of_getElem? hj) ho')
      · have := (List.getElem?_eq_some_iff.1 hj).1; simp at this; omega
/-- What the registry is made of -/
def RN (d c : Nat) (all : List Ver) : Nat → Prop := fun i => i = d ∨ i = c ∨ i ∈ all.map (·.id)
def RNr (H : Hp) (d c : Nat) (all : List Ver) : Nat → Prop := fun i => RN d c all i ∨ ∃ ns es, H[i]? = some (.row ns es)
theorem SlW_row {sz : Nat} {H : Hp} {d c : Nat} {all : List Ver} {x : V} {l : List V} (h : SlW sz H (RN d c all) x l) : SlW sz H (RNr H d c all) x l := by
  rcases h with h | ⟨s, es, h1, h2, h3, h4⟩
  · exact .inl h
  · refine .inr ⟨s, es, h1, ?_, h3, h4⟩
    rintro (h | ⟨ns, es', h⟩)
    · exact h2 h
    · rw [h3] at h; cases h
theorem Reg.byN {H H' : Hp} {d c : Nat} {g : Int} {cnt : List Int} {all : List Ver} (R : Reg H d c g cnt all) (h : ∀ i, RNr H d c all i → H'[i]? = H[i]?) : Reg H' d c g cnt all := by
  obtain ⟨al, h1, h2⟩ := R.ex
  refine ⟨⟨al, by rw [h d (.inl (.inl rfl))]; exact h1, h2.imp (fun e => e) fun ⟨rid, ns, a, b, c⟩ => ⟨rid, ns, a, by rw [h rid (.inr ⟨_, _, b⟩)]; exact b, c⟩⟩, by rw [h c (.inl (.inr (.inl rfl)))]; exact R.cn, fun v hv => ⟨by rw [h v.id (.inl (.inr (.inr (List.mem_map.2 ⟨v, hv, rfl⟩))))]; exact (R.vs v hv).1, (R.vs v hv).2⟩, R.nd, R.nc, R.len, R.cl⟩
theorem RNr_lt {H : Hp} {d c : Nat} {g : Int} {cnt : List Int} {all : List Ver} (R : Reg H d c g cnt all) : ∀ i, RNr H d c all i → i < H.length := by
  have hl := R.lt
  rintro i ((rfl | rfl | h) | ⟨ns, es, h⟩)
  · exact hl.d
  · exact hl.c
  · obtain ⟨v, hv, rfl⟩ := List.mem_map.1 h; exact hl.v v hv
  · exact (List.getElem?_eq_some_iff.1 h).1
theorem RN_ids {d c : Nat} {all all' : List Ver} (e : all'.map (·.id) = all.map (·.id)) : RN d c all' = RN d c all := by funext i; simp only [RN, e]
def boolsV (l : List Bool) : List V := l.map .bool
theorem wide_bools (l : List Bool) : wideAll (boolsV l) 1 = true := wide_mapN (f := V.bool) (fun _ => rfl) l
/-- How many of the first k versions are valid ones of a function -/
def nowC (all : List Ver) (k : Nat) (f : Int) : Nat := ((all.take k).filter fun v => v.ok && v.f == f).length
theorem nowC_succ {all : List Ver} {k : Nat} {v : Ver} (h : all[k]? = some v) (f : Int) : nowC all (k + 1) f = nowC all k f + (if v.ok && v.f == f then 1 else 0) := by
  unfold nowC
  rw [List.take_add_one, h, Option.toList_some, List.filter_append, List.length_append]
  congr 1
  cases hb : (v.ok && v.f == f) <;> simp [hb]
theorem nowC_le {H : Hp} {d c : Nat} {cnt : List Int} {all : List Ver} (I : Inv H d c cnt all) (f : Int) : ∀ k, k ≤ all.length → nowC all k f ≤ 1 ∧ (nowC all k f = 1 → ∃ j v, j < k ∧ all[j]? = some v ∧ v.ok = true ∧ v.f = f)
  | 0, _ => by simp [nowC]
  | k + 1, hk => by
    obtain ⟨h1, h2⟩ := nowC_le I f k (by omega)
    have hv : all[k]? = some all[k] := List.getElem?_eq_getElem (by omega)
    generalize all[k] = v at hv
    rw [nowC_succ hv]
    cases hb : (v.ok && v.f == f) with
    | false =>
      simp only [Bool.false_eq_true, if_false, Nat.add_zero]
      exact ⟨h1, fun e => by obtain ⟨j, w, hj, hw⟩ := h2 e; exact ⟨j, w, by omega, hw⟩⟩
    | true =>
      simp only [if_true]
      simp only [Bool.and_eq_true, beq_iff_eq] at hb
      have h0 : nowC all k f = 0 := by
        rcases Nat.lt_or_ge (nowC all k f) 1 with h | h
        · omega
        · obtain ⟨j, w, hj, hw, ho, hf⟩ := h2 (by omega)
          have := I.un j k w v hw hv ho hb.1 (by rw [hf, hb.2])
          omega
      exact ⟨by omega, fun _ => ⟨k, v, by omega, hv, hb.1, hb.2⟩⟩
def nowV (all : List Ver) (k : Nat) : List V := [.int .i64 (nowC all k 0), .int .i64 (nowC all k 1), .int .i64 (nowC all k 2), .int .i64 (nowC all k 3)]
end Go.Proofs.Ytfjbgmcdkhepkaa

namespace Go.Proofs.Ytfjbgmcdkhepkaa
open Go Go.Abs Go.Proofs
set_option maxRecDepth 100000
set_option maxHeartbeats 20000000
set_option linter.unusedVariables false
set_option linter.unusedSimpArgs false
def fsV (all : List Ver) : List V := all.map fun v => V.int .i64 v.f
theorem wide_fs (all : List Ver) : wideAll (fsV all) 1 = true := wide_mapN (f := fun v : Ver => V.int .i64 v.f) (fun _ => rfl) all
theorem fs_len (all : List Ver) : (fsV all).length = all.length := by simp [fsV]
theorem fs_row {all : List Ver} (h : all ≠ []) : rowV true (fsV all) all.length = .rsl (fsV all) := by
  unfold rowV
  have : all.length ≠ 0 := by simpa using h
  rw [if_neg (by simp [this]), List.take_of_length_le (by simp [fsV])]
theorem fs_rlen (all : List Ver) (H : Hp) : lenK H (.slice 3) (rowV true (fsV all) all.length) = some (.int .i64 all.length) := by
  unfold rowV
  cases hall : all with
  | nil => rfl
  | cons b r => rw [if_neg (by simp), lenK_rsl]; simp [fsV]
def actC (a : ActR) : List V := [.int .i64 a.d, .int .i64 a.f, a.x, .int .u64 a.v]
/-- The slots when the versions have been gone through -/
def X7_26 (x vv : V) (i n : Nat) : List Slot :=
  ((((L7_26 (.v x) (.v (.ptr 1 0 0)) (.v (.lr 0 n)) (.v vv) (.v (.int .i64 (i : Int))) (.box 0) (.box 1) (.v (.int .i64 (n : Int)))).set 85 (.v (.int .i64 (n : Int)))).set 86 (.v (.lr 0 n))).set 87 (.v (.int .i64 (n : Int)))).set 88 (.v (.bool false))
theorem set_take_len {α : Type} {es : List α} {n k : Nat} {a : α} : (es.set k a).take n = (es.take n).set k a := by rw [List.take_set]
theorem wide_set {sz : Nat} {es : List V} (h : wideAll es sz = true) {k : Nat} {a : V} (ha : a.width = sz) : wideAll (es.set k a) sz = true := by
  unfold wideAll at *
  rw [List.all_eq_true] at *
  intro x hx
  rcases List.mem_or_eq_of_mem_set hx with hx | rfl
  · exact h x hx
  · simp [ha]
theorem loop26 {Q : Post} {st : St} {H : Hp} {x : V} {i : Nat} {a : ActR} {cnt : List Int} {all : List Ver} {vv : V} {V1 : List Bool} {tl : List LRow}
    (hx : ∀ H, ∃ l : List V, Rd H x l)
    (hst : norm (notes.kill 7 26) st.b.length st.r.length st = ⟨L7_26 (.v x) (.v (.ptr 1 0 0)) (.v (.lr 0 all.length)) (.v vv) (.v (.int .i64 (i : Int))) (.box 0) (.box 1) (.v (.int .i64 0)), [actC a, nowV all 0], ⟨true, true, fsV all⟩ :: tl⟩)
    (hb : st.b.length = 2) (hr : st.r.length = tl.length + 1)
    (I : Inv H 1 0 cnt all) (hV : SlW 1 H (RN 1 0 all) vv (boolsV V1)) (hVl : V1.length = all.length) (hVk : ∀ (j : Nat) w, all[j]? = some w → w.ok = true → V1[j]? = some true)
    (hC : a.d = 1 → ∀ w ∈ all, w.ok = true → ∀ y ∈ w.l, ¬ (y.1 = a.f ∧ y.2 ≠ a.v)) (hal : all.length ≤ 61)
    (hq : ∀ H' vv', Inv H' 1 0 cnt all → SlW 1 H' (RN 1 0 all) vv' (boolsV (all.map (·.ok))) → Q (.exit 3) ⟨X7_26 x vv' i all.length, [actC a, nowV all all.length], ⟨true, true, fsV all⟩ :: tl⟩ H') :
    wpC (envOf Try.prog notes (evW Try.prog notes) 7) (.loop (loopOf Try.f7 26)) st H Q := by
  have hpos : (0 < tl.length + 1) = True := by simp
  have hci : ∀ (n : Nat) (k : IntKind) (m : Int), clipV n (.int k m) = .int k m := fun _ _ _ => rfl
  have hcA : ∀ n, (actC a).map (clipV n) = actC a := fun n => by simp only [actC, List.map_cons, List.map_nil, hci, (a.h.rd []).clip]
  have hcN : ∀ n k, (nowV all k).map (clipV n) = nowV all k := fun n k => rfl
  have hcx : ∀ p q, clip p q (.v x) = .v x := fun p q => by obtain ⟨l, h⟩ := hx []; exact h.clip2 p q
  simp only [loopOf, bodyOf, Try.f7, Option.getD_some, findLoop, firstReg, orC_some, orC_none, Nat.reduceEqDiff, decide_true, decide_false]
  refine wC_loop _ (fun n st' H' => ∃ (k : Nat) (Vk : List Bool) (vv' : V), st' = ⟨L7_26 (.v x) (.v (.ptr 1 0 0)) (.v (.lr 0 all.length)) (.v vv') (.v (.int .i64 (i : Int))) (.box 0) (.box 1) (.v (.int .i64 (k : Int))), [actC a, nowV all k], ⟨true, true, fsV all⟩ :: tl⟩ ∧ Inv H' 1 0 cnt all ∧ SlW 1 H' (RN 1 0 all) vv' (boolsV Vk) ∧ Vk.length = all.length ∧ (∀ (j : Nat) w, all[j]? = some w → j < k → Vk[j]? = some w.ok) ∧ (∀ (j : Nat) w, all[j]? = some w → k ≤ j → w.ok = true → Vk[j]? = some true) ∧ k ≤ all.length ∧ n = all.length - k) all.length ⟨0, V1, vv, ?_, I, hV, hVl, fun j w _ h => by omega, fun j w h _ ho => hVk j w h ho, by omega, rfl⟩ ?_
  · simp only [envG, envK, firstReg, grow7_26, growAll, List.foldl_nil]
    exact hst
  · simp only [envG, envK, firstReg, grow7_26, growAll, List.foldl_nil, hb, hr]
    rintro n st' H' ⟨k, Vk, vv', rfl, I', hV', hVkl, hV1, hV2, hk, rfl⟩
    simp only [L7_26]
    have hcv : ∀ p q, clip p q (.v vv') = .v vv' := fun p q => hV'.rd.clip2 p q
    simp only [WW, partV, eqCells, eqLf, minV, maxV, ifcV, zaa, zab, zac, zad, zae, zaf, zag, zah, zai, ofConst, ofConst1, List.replicate, zaj, zak, loadOp, Go.Abs.loadCells, binV, zal, pickV, zam, zan, zao, zap, zaq, zar, zas, zat, zau, outR, resAll, resOne, zav, zaw, zax, zay, zaz, zba, zbb, zbc, zbd, zbe, zbf, zbg, zbh, zbi, zbj, zbk, storeOp, storeCell, overlay, zbl, zbm, zbn, lookupOp, keyT, okRes, mapUpdateOp, zbo, zbp, zbq, zbr, zbs, zbt, zbu, Nat.reduceSub, Nat.reduceAdd, Int.reduceLT, Int.reduceLE, Int.reduceAdd, Int.reduceSub, Int.reduceToNat, Int.reduceBEq, Int.reduceBNe, Int.reduceMul, Nat.reduceBEq, Nat.reduceBNe, Nat.reduceLT, Nat.reduceLeDiff, Nat.reduceMul, Nat.reduceEqDiff, WD, effB, effH, isPriv, isHeap, isImm, zbx, zby, zbz, chkO, setD, dslot, zca, zcb, zcc, zcd, ptrCells_some, F7, fs_rlen]
    refine cSplit (fun hlt => ?_) (fun hge => ?_)
    rotate_left
    · have hk2 : k = all.length := by have := of_decide_eq_false hge; omega
      subst hk2
      simp only [hge]
      simp only [WW, partV, eqCells, eqLf, minV, maxV, ifcV, zaa, zab, zac, zad, zae, zaf, zag, zah, zai, ofConst, ofConst1, List.replicate, zaj, zak, loadOp, Go.Abs.loadCells, binV, zal, pickV, zam, zan, zao, zap, zaq, zar, zas, zat, zau, outR, resAll, resOne, zav, zaw, zax, zay, zaz, zba, zbb, zbc, zbd, zbe, zbf, zbg, zbh, zbi, zbj, zbk, storeOp, storeCell, overlay, zbl, zbm, zbn, lookupOp, keyT, okRes, mapUpdateOp, zbo, zbp, zbq, zbr, zbs, zbt, zbu, Nat.reduceSub, Nat.reduceAdd, Int.reduceLT, Int.reduceLE, Int.reduceAdd, Int.reduceSub, Int.reduceToNat, Int.reduceBEq, Int.reduceBNe, Int.reduceMul, Nat.reduceBEq, Nat.reduceBNe, Nat.reduceLT, Nat.reduceLeDiff, Nat.reduceMul, Nat.reduceEqDiff, WD, effB, effH, isPriv, isHeap, isImm, zbx, zby, zbz, chkO, setD, dslot, zca, zcb, zcc, zcd, ptrCells_some, F7]
      have hVe : Vk = all.map (·.ok) := by
        refine List.ext_getElem? fun j => ?_
        rw [List.getElem?_map]
        cases hj : all[j]? with
        | none => exact List.getElem?_eq_none (by have := List.getElem?_eq_none_iff.1 hj; omega)
        | some w => rw [hV1 j w hj (List.getElem?_eq_some_iff.1 hj).1]; rfl
      subst hVe
      exact hq H' vv' I' hV'
    · have hk2 : k < all.length := by have := of_decide_eq_true hlt; omega
      have hv : all[k]? = some all[k] := List.getElem?_eq_getElem hk2
      generalize all[k] = v at hv
      have hvm := List.mem_of_getElem? hv
      have hne : all ≠ [] := by rintro rfl; simp at hk2
      have hgv : getVer all (k : Int) = some v := by simp [getVer, hv]
      have hvf := I'.vf v hvm
      have hrow := fs_row hne
      have hfv : (fsV all)[k]? = some (.int .i64 v.f) := by simp [fsV, hv]
      have hkin : (0 : Int) ≤ (k : Int) := by omega
      have hk1 : IntKind.i64.wrap ((k : Int) + 1) = ((k + 1 : Nat) : Int) := by rw [IntWalk.i64_in _ (by omega)]; omega
      simp only [hlt]
      simp only [WW, partV, eqCells, eqLf, minV, maxV, ifcV, zaa, zab, zac, zad, zae, zaf, zag, zah, zai, ofConst, ofConst1, List.replicate, zaj, zak, loadOp, Go.Abs.loadCells, binV, zal, pickV, zam, zan, zao, zap, zaq, zar, zas, zat, zau, outR, resAll, resOne, zav, zaw, zax, zay, zaz, zba, zbb, zbc, zbd, zbe, zbf, zbg, zbh, zbi, zbj, zbk, storeOp, storeCell, overlay, zbl, zbm, zbn, lookupOp, keyT, okRes, mapUpdateOp, zbo, zbp, zbq, zbr, zbs, zbt, zbu, Nat.reduceSub, Nat.reduceAdd, Int.reduceLT, Int.reduceLE, Int.reduceAdd, Int.reduceSub, Int.reduceToNat, Int.reduceBEq, Int.reduceBNe, Int.reduceMul, Nat.reduceBEq, Nat.reduceBNe, Nat.reduceLT, Nat.reduceLeDiff, Nat.reduceMul, Nat.reduceEqDiff, WD, effB, effH, isPriv, isHeap, isImm, zbx, zby, zbz, chkO, setD, dslot, zca, zcb, zcc, zcd, ptrCells_some, F7]
      rw [wpCall_eq (valid_eq I'.reg (k : Int)), hgv]
      have hany : (some v).any (·.ok) = v.ok := rfl
      rw [hany]
      -- the row of bools
      rcases hV' with ⟨rfl, h0⟩ | ⟨s, es, rfl, hsN, hsc, hsl, hst2, hsne, hsw⟩
      · have : Vk.length = 0 := by simpa [boolsV] using congrArg List.length h0
        omega
      have hbl : (boolsV Vk).length = all.length := by simp [boolsV, hVkl]
      rw [hbl] at hsl hst2 ⊢
      have hse : ∀ b, Vk[k]? = some b → es[k]? = some (.bool b) := fun b hb => by
        have : (es.take all.length)[k]? = some (.bool b) := by rw [hst2]; simp [boolsV, hb]
        rw [List.getElem?_take, if_pos hk2] at this
        exact this
      obtain ⟨b0, hb0⟩ : ∃ b0, Vk[k]? = some b0 := ⟨_, List.getElem?_eq_getElem (by omega)⟩
      have hes := hse b0 hb0
      have hkr : (0 : Int) ≤ (k : Int) ∧ (k : Int) < (all.length : Int) := ⟨by omega, by omega⟩
      have hb0' : v.ok = true → b0 = true := fun ho => by
        have := hV2 k v hv (Nat.le_refl _) ho
        rw [hb0] at this; exact Option.some.inj this
      -- what is left when the validity is written
      have hI2 : Inv (H'.set s (.cells (es.set k (.bool v.ok)))) 1 0 cnt all := I'.with (I'.reg.poke hsc (fun e => hsN (.inl e)) (fun e => hsN (.inr (.inl e))) (fun e => hsN (.inr (.inr e))) _)
      have hS2 : ∀ H2 : Hp, H2[s]? = some (.cells (es.set k (.bool v.ok))) → SlW 1 H2 (RN 1 0 all) (.sl s 0 all.length) (boolsV (Vk.set k v.ok)) := fun H2 h2 => by
        have e1 : (boolsV (Vk.set k v.ok)).length = all.length := by simp [boolsV, hVkl]
        refine .inr ⟨s, es.set k (.bool v.ok), by rw [e1], hsN, h2, by rw [e1]; simpa using hsl, ?_, ?_, wide_set hsw rfl⟩
        · rw [e1, List.take_set, hst2]; simp [boolsV, List.map_set]
        · intro e; apply hsne; have := congrArg List.length e; simp at this; exact this
      have hslt := (List.getElem?_eq_some_iff.1 hsc).1
      have hpre1 : ∀ (j : Nat) w, all[j]? = some w → j < k + 1 → (Vk.set k v.ok)[j]? = some w.ok := fun j w hj hlt => by
        rw [List.getElem?_set]
        split
        · rename_i e; subst e
          rw [hv] at hj; cases hj
          rw [if_pos (by omega)]
        · exact hV1 j w hj (by omega)
      have hpre2 : ∀ (j : Nat) w, all[j]? = some w → k + 1 ≤ j → w.ok = true → (Vk.set k v.ok)[j]? = some true := fun j w hj hlt ho => by
        rw [List.getElem?_set_ne (by omega)]
        exact hV2 j w hj (by omega) ho
      have hcl := on_eq hI2.reg (k : Int)
      rw [hgv] at hcl
      simp only at hcl
      have hsx := clone_sx (hI2.reg.sx hvm)
      have hI3 : Inv (cloneR v.on v.l (H'.set s (.cells (es.set k (.bool v.ok))))).2 1 0 cnt all := by
        unfold cloneR; split
        · exact hI2
        · split
          · exact hI2
          · exact hI2.with (hI2.reg.more _)
      have hS3 : (cloneR v.on v.l (H'.set s (.cells (es.set k (.bool v.ok))))).2[s]? = some (.cells (es.set k (.bool v.ok))) := by
        have : (H'.set s (.cells (es.set k (.bool v.ok))))[s]? = some (.cells (es.set k (.bool v.ok))) := List.getElem?_set_self hslt
        unfold cloneR; split
        · exact this
        · split
          · exact this
          · rw [List.getElem?_append_left (by simpa using hslt)]; exact this
      have hcs : ∀ c : Int, clip 2 (tl.length + 1) (.v (.sl s 0 all.length)) = .v (.sl s 0 all.length) := fun _ => rfl
      have hlen40 := (I'.reg.vs v hvm).2.2
      -- the inner loop, over what a version counts on
      cases hok : v.ok with
      | false =>
        rw [hok] at hcl hsx hI3 hS3 hpre1 hpre2 hS2
        simp only [WW, partV, eqCells, eqLf, minV, maxV, ifcV, zaa, zab, zac, zad, zae, zaf, zag, zah, zai, ofConst, ofConst1, List.replicate, zaj, zak, loadOp, Go.Abs.loadCells, binV, zal, pickV, zam, zan, zao, zap, zaq, zar, zas, zat, zau, outR, resAll, resOne, zav, zaw, zax, zay, zaz, zba, zbb, zbc, zbd, zbe, zbf, zbg, zbh, zbi, zbj, zbk, storeOp, storeCell, overlay, zbl, zbm, zbn, lookupOp, keyT, okRes, mapUpdateOp, zbo, zbp, zbq, zbr, zbs, zbt, zbu, Nat.reduceSub, Nat.reduceAdd, Int.reduceLT, Int.reduceLE, Int.reduceAdd, Int.reduceSub, Int.reduceToNat, Int.reduceBEq, Int.reduceBNe, Int.reduceMul, Nat.reduceBEq, Nat.reduceBNe, Nat.reduceLT, Nat.reduceLeDiff, Nat.reduceMul, Nat.reduceEqDiff, WD, effB, effH, isPriv, isHeap, isImm, zbx, zby, zbz, chkO, setD, dslot, zca, zcb, zcc, zcd, ptrCells_some, F7, slAt_sl, hkr.1, hkr.2, slIn_some, hsc, hes, storeHeap, promote, heapSet, elemSet]
        rw [wpCall_eq hcl]
        generalize cloneR v.on v.l (H'.set s (.cells (es.set k (.bool false)))) = K at hsx hI3 hS3 ⊢
        obtain ⟨ov, H3⟩ := K
        simp only at hsx hI3 hS3
        have hnow : ∀ f, nowC all (k + 1) f = nowC all k f := fun f => by rw [nowC_succ hv, hok]; simp
        simp only [WW, partV, eqCells, eqLf, minV, maxV, ifcV, zaa, zab, zac, zad, zae, zaf, zag, zah, zai, ofConst, ofConst1, List.replicate, zaj, zak, loadOp, Go.Abs.loadCells, binV, zal, pickV, zam, zan, zao, zap, zaq, zar, zas, zat, zau, outR, resAll, resOne, zav, zaw, zax, zay, zaz, zba, zbb, zbc, zbd, zbe, zbf, zbg, zbh, zbi, zbj, zbk, storeOp, storeCell, overlay, zbl, zbm, zbn, lookupOp, keyT, okRes, mapUpdateOp, zbo, zbp, zbq, zbr, zbs, zbt, zbu, Nat.reduceSub, Nat.reduceAdd, Int.reduceLT, Int.reduceLE, Int.reduceAdd, Int.reduceSub, Int.reduceToNat, Int.reduceBEq, Int.reduceBNe, Int.reduceMul, Nat.reduceBEq, Nat.reduceBNe, Nat.reduceLT, Nat.reduceLeDiff, Nat.reduceMul, Nat.reduceEqDiff, WD, effB, effH, isPriv, isHeap, isImm, zbx, zby, zbz, chkO, setD, dslot, zca, zcb, zcc, zcd, ptrCells_some, F7, hsx.rd.shutIn]
        refine wC_loop _ (fun m st2 H2 => st2 = ⟨L7_36 (.v x) (.v (.ptr 1 0 0)) (.v (.lr 0 all.length)) (.v (.sl s 0 all.length)) (.v (.int .i64 (i : Int))) (.box 0) (.box 1) (.v (.int .i64 (k : Int))) (.v (.bool false)) (.v ov) (.v (.int .i64 0)), [actC a, nowV all k], ⟨true, true, fsV all⟩ :: tl⟩ ∧ H2 = H3) 0 ⟨?_, rfl⟩ ?_
        · simp only [WN, firstReg, growAll, zbv, zbw, norm, killS, zag, zah, zaa, zab, zbl, zat, zad, growOne, zae, zaf, zac, zas, zak, Nat.reduceLT, Nat.reduceAdd, zbj, zav, F7, L7_36, hcx, hsx.rd.clip2, hpos, hcA, hcN, List.take_length]
          try rfl
        · rintro m st2 H2 ⟨rfl, rfl⟩
          simp only [L7_36]
          have hexit : ∀ b : Bool, decide ((0 : Int) < ((v.l.map depV).length : Int)) = b → True := fun _ _ => trivial
          simp only [WW, partV, eqCells, eqLf, minV, maxV, ifcV, zaa, zab, zac, zad, zae, zaf, zag, zah, zai, ofConst, ofConst1, List.replicate, zaj, zak, loadOp, Go.Abs.loadCells, binV, zal, pickV, zam, zan, zao, zap, zaq, zar, zas, zat, zau, outR, resAll, resOne, zav, zaw, zax, zay, zaz, zba, zbb, zbc, zbd, zbe, zbf, zbg, zbh, zbi, zbj, zbk, storeOp, storeCell, overlay, zbl, zbm, zbn, lookupOp, keyT, okRes, mapUpdateOp, zbo, zbp, zbq, zbr, zbs, zbt, zbu, Nat.reduceSub, Nat.reduceAdd, Int.reduceLT, Int.reduceLE, Int.reduceAdd, Int.reduceSub, Int.reduceToNat, Int.reduceBEq, Int.reduceBNe, Int.reduceMul, Nat.reduceBEq, Nat.reduceBNe, Nat.reduceLT, Nat.reduceLeDiff, Nat.reduceMul, Nat.reduceEqDiff, WD, effB, effH, isPriv, isHeap, isImm, zbx, zby, zbz, chkO, setD, dslot, zca, zcb, zcc, zcd, ptrCells_some, F7, hsx.rd.shutIn, hsx.rd.len]
          cases hl0 : decide ((0 : Int) < (v.l.length : Int))
          all_goals
            simp only [WW, partV, eqCells, eqLf, minV, maxV, ifcV, zaa, zab, zac, zad, zae, zaf, zag, zah, zai, ofConst, ofConst1, List.replicate, zaj, zak, loadOp, Go.Abs.loadCells, binV, zal, pickV, zam, zan, zao, zap, zaq, zar, zas, zat, zau, outR, resAll, resOne, zav, zaw, zax, zay, zaz, zba, zbb, zbc, zbd, zbe, zbf, zbg, zbh, zbi, zbj, zbk, storeOp, storeCell, overlay, zbl, zbm, zbn, lookupOp, keyT, okRes, mapUpdateOp, zbo, zbp, zbq, zbr, zbs, zbt, zbu, Nat.reduceSub, Nat.reduceAdd, Int.reduceLT, Int.reduceLE, Int.reduceAdd, Int.reduceSub, Int.reduceToNat, Int.reduceBEq, Int.reduceBNe, Int.reduceMul, Nat.reduceBEq, Nat.reduceBNe, Nat.reduceLT, Nat.reduceLeDiff, Nat.reduceMul, Nat.reduceEqDiff, WD, effB, effH, isPriv, isHeap, isImm, zbx, zby, zbz, chkO, setD, dslot, zca, zcb, zcc, zcd, ptrCells_some, F7, hk1]
            refine ⟨all.length - (k + 1), by omega, k + 1, Vk.set k false, .sl s 0 all.length, ?_, hI3, hS2 _ hS3, by simp [hVkl], hpre1, hpre2, by omega, rfl⟩
            simp only [WN, firstReg, growAll, zbv, zbw, norm, killS, zag, zah, zaa, zab, zbl, zat, zad, growOne, zae, zaf, zac, zas, zak, Nat.reduceLT, Nat.reduceAdd, zbj, zav, F7, hcx, hk1, hcA, nowV, hci, hnow, hpos, List.take_length]
            try rfl
      | true =>
        have hbt := hb0' hok
        subst hbt
        rw [hok] at hcl hsx hI3 hS3 hpre1 hpre2 hS2
        obtain ⟨F, hF⟩ : ∃ F : Nat, v.f = F := ⟨v.f.toNat, by omega⟩
        have hF4 : F < 4 := by omega
        have hnow : ∀ f : Int, nowC all (k + 1) f = nowC all k f + (if (v.f == f) = true then 1 else 0) := fun f => by rw [nowC_succ hv, hok]; simp
        have hnow' : ∀ f : Int, ((nowC all (k + 1) f : Nat) : Int) = (nowC all k f : Int) + (if (v.f == f) = true then 1 else 0) := fun f => by rw [hnow]; split <;> simp
        have hbnd : ∀ f : Int, nowC all k f ≤ 1 := fun f => (nowC_le I' f k (by omega)).1
        have hinc : ∀ f : Int, IntKind.i64.wrap ((nowC all k f : Int) + 1) = ((nowC all k f + 1 : Nat) : Int) := fun f => by rw [IntWalk.i64_in _ (by have := hbnd f; omega)]; omega
        rw [hF] at hfv hnow
        have hF0 : (0 : Int) ≤ (F : Int) := by omega
        have hF4' : (F : Int) < ((4 : Nat) : Int) := by omega
        obtain ⟨N', hN'⟩ : ∃ N', N' = nowV all (k + 1) := ⟨_, rfl⟩
        obtain ⟨N0, hN0⟩ : ∃ N0, N0 = nowV all k := ⟨_, rfl⟩
        have hcase : F = 0 ∨ F = 1 ∨ F = 2 ∨ F = 3 := by omega
        have hget : N0[F]? = some (.int .i64 (nowC all k (F : Int) : Int)) := by
          rw [hN0]; rcases hcase with rfl | rfl | rfl | rfl <;> rfl
        have hlen4 : N0.length = 4 := by rw [hN0]; rfl
        have hF1 : (F + 1 ≤ 4) = True := by simp; omega
        have hF1' : (F < 4) = True := by simp; omega
        have hput : N0.take F ++ [V.int .i64 ((nowC all k (F : Int) + 1 : Nat) : Int)] ++ N0.drop (F + 1) = N' := by
          rw [hN0, hN']
          rcases hcase with rfl | rfl | rfl | rfl
          all_goals
            simp only [nowV, hnow]
            simp
        have hput2 : N0.take F ++ (V.int .i64 ((nowC all k (F : Int) + 1 : Nat) : Int) :: N0.drop (F + 1)) = N' := by rw [← hput]; simp
        have hnt : (!true) = false := rfl
        rw [← hN0]
        simp only [WW, partV, eqCells, eqLf, minV, maxV, ifcV, zaa, zab, zac, zad, zae, zaf, zag, zah, zai, ofConst, ofConst1, List.replicate, zaj, zak, loadOp, Go.Abs.loadCells, binV, zal, pickV, zam, zan, zao, zap, zaq, zar, zas, zat, zau, outR, resAll, resOne, zav, zaw, zax, zay, zaz, zba, zbb, zbc, zbd, zbe, zbf, zbg, zbh, zbi, zbj, zbk, storeOp, storeCell, overlay, zbl, zbm, zbn, lookupOp, keyT, okRes, mapUpdateOp, zbo, zbp, zbq, zbr, zbs, zbt, zbu, Nat.reduceSub, Nat.reduceAdd, Int.reduceLT, Int.reduceLE, Int.reduceAdd, Int.reduceSub, Int.reduceToNat, Int.reduceBEq, Int.reduceBNe, Int.reduceMul, Nat.reduceBEq, Nat.reduceBNe, Nat.reduceLT, Nat.reduceLeDiff, Nat.reduceMul, Nat.reduceEqDiff, WD, effB, effH, isPriv, isHeap, isImm, zbx, zby, zbz, chkO, setD, dslot, zca, zcb, zcc, zcd, ptrCells_some, F7, slAt_sl, hkr.1, hkr.2, slIn_some, hsc, hes, hnt, storeHeap, promote, heapSet, elemSet, hrow, slAt_rsl, hfv, hkin, hF0, hF4', Nat.mul_one, hget, hlen4, hF1, hF1', hinc, hput, hput2]
        rw [wpCall_eq hcl]
        generalize cloneR v.on v.l (H'.set s (.cells (es.set k (.bool true)))) = K at hsx hI3 hS3 ⊢
        obtain ⟨ov, H3⟩ := K
        simp only at hsx hI3 hS3
        simp only [WW, partV, eqCells, eqLf, minV, maxV, ifcV, zaa, zab, zac, zad, zae, zaf, zag, zah, zai, ofConst, ofConst1, List.replicate, zaj, zak, loadOp, Go.Abs.loadCells, binV, zal, pickV, zam, zan, zao, zap, zaq, zar, zas, zat, zau, outR, resAll, resOne, zav, zaw, zax, zay, zaz, zba, zbb, zbc, zbd, zbe, zbf, zbg, zbh, zbi, zbj, zbk, storeOp, storeCell, overlay, zbl, zbm, zbn, lookupOp, keyT, okRes, mapUpdateOp, zbo, zbp, zbq, zbr, zbs, zbt, zbu, Nat.reduceSub, Nat.reduceAdd, Int.reduceLT, Int.reduceLE, Int.reduceAdd, Int.reduceSub, Int.reduceToNat, Int.reduceBEq, Int.reduceBNe, Int.reduceMul, Nat.reduceBEq, Nat.reduceBNe, Nat.reduceLT, Nat.reduceLeDiff, Nat.reduceMul, Nat.reduceEqDiff, WD, effB, effH, isPriv, isHeap, isImm, zbx, zby, zbz, chkO, setD, dslot, zca, zcb, zcc, zcd, ptrCells_some, F7, hsx.rd.shutIn]
        all_goals
          have hcN' : ∀ n, N'.map (clipV n) = N' := fun n => by rw [hN']; rfl
          have hA0 : (actC a)[0]? = some (.int .i64 a.d) := rfl
          have hA1 : (actC a)[1]? = some (.int .i64 a.f) := rfl
          have hA3 : (actC a)[3]? = some (.int .u64 a.v) := rfl
          refine wC_loop _ (fun m st2 H2 => ∃ j : Nat, st2 = ⟨L7_36 (.v x) (.v (.ptr 1 0 0)) (.v (.lr 0 all.length)) (.v (.sl s 0 all.length)) (.v (.int .i64 (i : Int))) (.box 0) (.box 1) (.v (.int .i64 (k : Int))) (.v (.bool true)) (.v ov) (.v (.int .i64 (j : Int))), [actC a, N'], ⟨true, true, fsV all⟩ :: tl⟩ ∧ H2 = H3 ∧ j ≤ v.l.length ∧ m = v.l.length - j) v.l.length ⟨0, ?_, rfl, by omega, rfl⟩ ?_
          · simp only [WN, firstReg, growAll, zbv, zbw, norm, killS, zag, zah, zaa, zab, zbl, zat, zad, growOne, zae, zaf, zac, zas, zak, Nat.reduceLT, Nat.reduceAdd, zbj, zav, F7, L7_36, hcx, hsx.rd.clip2, hpos, hcA, hcN', List.take_length]
            try rfl
          · rintro m st2 H2 ⟨j, rfl, rfl, hj, rfl⟩
            simp only [L7_36]
            simp only [WW, partV, eqCells, eqLf, minV, maxV, ifcV, zaa, zab, zac, zad, zae, zaf, zag, zah, zai, ofConst, ofConst1, List.replicate, zaj, zak, loadOp, Go.Abs.loadCells, binV, zal, pickV, zam, zan, zao, zap, zaq, zar, zas, zat, zau, outR, resAll, resOne, zav, zaw, zax, zay, zaz, zba, zbb, zbc, zbd, zbe, zbf, zbg, zbh, zbi, zbj, zbk, storeOp, storeCell, overlay, zbl, zbm, zbn, lookupOp, keyT, okRes, mapUpdateOp, zbo, zbp, zbq, zbr, zbs, zbt, zbu, Nat.reduceSub, Nat.reduceAdd, Int.reduceLT, Int.reduceLE, Int.reduceAdd, Int.reduceSub, Int.reduceToNat, Int.reduceBEq, Int.reduceBNe, Int.reduceMul, Nat.reduceBEq, Nat.reduceBNe, Nat.reduceLT, Nat.reduceLeDiff, Nat.reduceMul, Nat.reduceEqDiff, WD, effB, effH, isPriv, isHeap, isImm, zbx, zby, zbz, chkO, setD, dslot, zca, zcb, zcc, zcd, ptrCells_some, F7, hsx.rd.shutIn, hsx.rd.len, hA0]
            have hout : N' = nowV all (k + 1) := hN'
            cases hlj : decide ((j : Int) < (v.l.length : Int)) with
            | false =>
              simp only [WW, partV, eqCells, eqLf, minV, maxV, ifcV, zaa, zab, zac, zad, zae, zaf, zag, zah, zai, ofConst, ofConst1, List.replicate, zaj, zak, loadOp, Go.Abs.loadCells, binV, zal, pickV, zam, zan, zao, zap, zaq, zar, zas, zat, zau, outR, resAll, resOne, zav, zaw, zax, zay, zaz, zba, zbb, zbc, zbd, zbe, zbf, zbg, zbh, zbi, zbj, zbk, storeOp, storeCell, overlay, zbl, zbm, zbn, lookupOp, keyT, okRes, mapUpdateOp, zbo, zbp, zbq, zbr, zbs, zbt, zbu, Nat.reduceSub, Nat.reduceAdd, Int.reduceLT, Int.reduceLE, Int.reduceAdd, Int.reduceSub, Int.reduceToNat, Int.reduceBEq, Int.reduceBNe, Int.reduceMul, Nat.reduceBEq, Nat.reduceBNe, Nat.reduceLT, Nat.reduceLeDiff, Nat.reduceMul, Nat.reduceEqDiff, WD, effB, effH, isPriv, isHeap, isImm, zbx, zby, zbz, chkO, setD, dslot, zca, zcb, zcc, zcd, ptrCells_some, F7, hk1]
              refine ⟨all.length - (k + 1), by omega, k + 1, Vk.set k true, .sl s 0 all.length, ?_, hI3, hS2 _ hS3, by simp [hVkl], hpre1, hpre2, by omega, rfl⟩
              simp only [WN, firstReg, growAll, zbv, zbw, norm, killS, zag, zah, zaa, zab, zbl, zat, zad, growOne, zae, zaf, zac, zas, zak, Nat.reduceLT, Nat.reduceAdd, zbj, zav, F7, hcx, hk1, hcA, hcN', hpos, List.take_length]
              rw [hout]; try rfl
            | true =>
              have hj2 : j < v.l.length := by have := of_decide_eq_true hlj; omega
              cases h1 : (a.d == 1) with
              | false =>
                simp only [WW, partV, eqCells, eqLf, minV, maxV, ifcV, zaa, zab, zac, zad, zae, zaf, zag, zah, zai, ofConst, ofConst1, List.replicate, zaj, zak, loadOp, Go.Abs.loadCells, binV, zal, pickV, zam, zan, zao, zap, zaq, zar, zas, zat, zau, outR, resAll, resOne, zav, zaw, zax, zay, zaz, zba, zbb, zbc, zbd, zbe, zbf, zbg, zbh, zbi, zbj, zbk, storeOp, storeCell, overlay, zbl, zbm, zbn, lookupOp, keyT, okRes, mapUpdateOp, zbo, zbp, zbq, zbr, zbs, zbt, zbu, Nat.reduceSub, Nat.reduceAdd, Int.reduceLT, Int.reduceLE, Int.reduceAdd, Int.reduceSub, Int.reduceToNat, Int.reduceBEq, Int.reduceBNe, Int.reduceMul, Nat.reduceBEq, Nat.reduceBNe, Nat.reduceLT, Nat.reduceLeDiff, Nat.reduceMul, Nat.reduceEqDiff, WD, effB, effH, isPriv, isHeap, isImm, zbx, zby, zbz, chkO, setD, dslot, zca, zcb, zcc, zcd, ptrCells_some, F7, hA0, h1, hk1]
                refine ⟨all.length - (k + 1), by omega, k + 1, Vk.set k true, .sl s 0 all.length, ?_, hI3, hS2 _ hS3, by simp [hVkl], hpre1, hpre2, by omega, rfl⟩
                simp only [WN, firstReg, growAll, zbv, zbw, norm, killS, zag, zah, zaa, zab, zbl, zat, zad, growOne, zae, zaf, zac, zas, zak, Nat.reduceLT, Nat.reduceAdd, zbj, zav, F7, hcx, hk1, hcA, hcN', hpos, List.take_length]
                rw [hout]; try rfl
              | true =>
                have hd1 : a.d = 1 := by simpa using h1
                have hy : v.l[j]? = some v.l[j] := List.getElem?_eq_getElem hj2
                have hno := hC hd1 v hvm hok v.l[j] (List.getElem_mem hj2)
                generalize v.l[j] = y at hy hno
                have hat := depAt hsx.rd hy
                have hj1 : IntKind.i64.wrap ((j : Int) + 1) = ((j + 1 : Nat) : Int) := by rw [IntWalk.i64_in _ (by omega)]; omega
                simp only [WW, partV, eqCells, eqLf, minV, maxV, ifcV, zaa, zab, zac, zad, zae, zaf, zag, zah, zai, ofConst, ofConst1, List.replicate, zaj, zak, loadOp, Go.Abs.loadCells, binV, zal, pickV, zam, zan, zao, zap, zaq, zar, zas, zat, zau, outR, resAll, resOne, zav, zaw, zax, zay, zaz, zba, zbb, zbc, zbd, zbe, zbf, zbg, zbh, zbi, zbj, zbk, storeOp, storeCell, overlay, zbl, zbm, zbn, lookupOp, keyT, okRes, mapUpdateOp, zbo, zbp, zbq, zbr, zbs, zbt, zbu, Nat.reduceSub, Nat.reduceAdd, Int.reduceLT, Int.reduceLE, Int.reduceAdd, Int.reduceSub, Int.reduceToNat, Int.reduceBEq, Int.reduceBNe, Int.reduceMul, Nat.reduceBEq, Nat.reduceBNe, Nat.reduceLT, Nat.reduceLeDiff, Nat.reduceMul, Nat.reduceEqDiff, WD, effB, effH, isPriv, isHeap, isImm, zbx, zby, zbz, chkO, setD, dslot, zca, zcb, zcc, zcd, ptrCells_some, F7, hA0, h1]
                refine wC_dr alts7_38 (by kernel_rfl) ?_
                simp only [WW, partV, eqCells, eqLf, minV, maxV, ifcV, zaa, zab, zac, zad, zae, zaf, zag, zah, zai, ofConst, ofConst1, List.replicate, zaj, zak, loadOp, Go.Abs.loadCells, binV, zal, pickV, zam, zan, zao, zap, zaq, zar, zas, zat, zau, outR, resAll, resOne, zav, zaw, zax, zay, zaz, zba, zbb, zbc, zbd, zbe, zbf, zbg, zbh, zbi, zbj, zbk, storeOp, storeCell, overlay, zbl, zbm, zbn, lookupOp, keyT, okRes, mapUpdateOp, zbo, zbp, zbq, zbr, zbs, zbt, zbu, Nat.reduceSub, Nat.reduceAdd, Int.reduceLT, Int.reduceLE, Int.reduceAdd, Int.reduceSub, Int.reduceToNat, Int.reduceBEq, Int.reduceBNe, Int.reduceMul, Nat.reduceBEq, Nat.reduceBNe, Nat.reduceLT, Nat.reduceLeDiff, Nat.reduceMul, Nat.reduceEqDiff, WD, effB, effH, isPriv, isHeap, isImm, zbx, zby, zbz, chkO, setD, dslot, zca, zcb, zcc, zcd, ptrCells_some, F7, hsx.rd.shutIn, hat.at1 hsx.rd, hat.cells, hat.fa, depV, hA1, hA3, alts7_38]
                cases hg : (y.1 == a.f) with
                | false =>
                  simp only [WW, partV, eqCells, eqLf, minV, maxV, ifcV, zaa, zab, zac, zad, zae, zaf, zag, zah, zai, ofConst, ofConst1, List.replicate, zaj, zak, loadOp, Go.Abs.loadCells, binV, zal, pickV, zam, zan, zao, zap, zaq, zar, zas, zat, zau, outR, resAll, resOne, zav, zaw, zax, zay, zaz, zba, zbb, zbc, zbd, zbe, zbf, zbg, zbh, zbi, zbj, zbk, storeOp, storeCell, overlay, zbl, zbm, zbn, lookupOp, keyT, okRes, mapUpdateOp, zbo, zbp, zbq, zbr, zbs, zbt, zbu, Nat.reduceSub, Nat.reduceAdd, Int.reduceLT, Int.reduceLE, Int.reduceAdd, Int.reduceSub, Int.reduceToNat, Int.reduceBEq, Int.reduceBNe, Int.reduceMul, Nat.reduceBEq, Nat.reduceBNe, Nat.reduceLT, Nat.reduceLeDiff, Nat.reduceMul, Nat.reduceEqDiff, WD, effB, effH, isPriv, isHeap, isImm, zbx, zby, zbz, chkO, setD, dslot, zca, zcb, zcc, zcd, ptrCells_some, F7, hsx.rd.shutIn, hat.at1 hsx.rd, hat.cells, hat.fa, depV, hA1, hA3, alts7_38, hj1]
                  refine ⟨v.l.length - (j + 1), by omega, j + 1, ?_, by omega, rfl⟩
                  simp only [WN, firstReg, growAll, zbv, zbw, norm, killS, zag, zah, zaa, zab, zbl, zat, zad, growOne, zae, zaf, zac, zas, zak, Nat.reduceLT, Nat.reduceAdd, zbj, zav, F7, hcx, hsx.rd.clip2, hj1, hcA, hcN', hpos, List.take_length]
                  try rfl
                | true =>
                  have hyv : y.2 = a.v := by
                    by_cases e : y.2 = a.v
                    · exact e
                    · exact absurd ⟨by simpa using hg, e⟩ hno
                  have hbn : (y.2 != a.v) = false := by rw [hyv]; simp
                  simp only [WW, partV, eqCells, eqLf, minV, maxV, ifcV, zaa, zab, zac, zad, zae, zaf, zag, zah, zai, ofConst, ofConst1, List.replicate, zaj, zak, loadOp, Go.Abs.loadCells, binV, zal, pickV, zam, zan, zao, zap, zaq, zar, zas, zat, zau, outR, resAll, resOne, zav, zaw, zax, zay, zaz, zba, zbb, zbc, zbd, zbe, zbf, zbg, zbh, zbi, zbj, zbk, storeOp, storeCell, overlay, zbl, zbm, zbn, lookupOp, keyT, okRes, mapUpdateOp, zbo, zbp, zbq, zbr, zbs, zbt, zbu, Nat.reduceSub, Nat.reduceAdd, Int.reduceLT, Int.reduceLE, Int.reduceAdd, Int.reduceSub, Int.reduceToNat, Int.reduceBEq, Int.reduceBNe, Int.reduceMul, Nat.reduceBEq, Nat.reduceBNe, Nat.reduceLT, Nat.reduceLeDiff, Nat.reduceMul, Nat.reduceEqDiff, WD, effB, effH, isPriv, isHeap, isImm, zbx, zby, zbz, chkO, setD, dslot, zca, zcb, zcc, zcd, ptrCells_some, F7, hsx.rd.shutIn, hat.at1 hsx.rd, hat.cells, hat.fa, depV, hA1, hA3, alts7_38, hbn, hj1]
                  refine ⟨v.l.length - (j + 1), by omega, j + 1, ?_, by omega, rfl⟩
                  simp only [WN, firstReg, growAll, zbv, zbw, norm, killS, zag, zah, zaa, zab, zbl, zat, zad, growOne, zae, zaf, zac, zas, zak, Nat.reduceLT, Nat.reduceAdd, zbj, zav, F7, hcx, hsx.rd.clip2, hj1, hcA, hcN', hpos, List.take_length]
                  try rfl
end Go.Proofs.Ytfjbgmcdkhepkaa

namespace Go.Proofs.Ytfjbgmcdkhepkaa
open Go Go.Abs Go.Proofs
set_option maxRecDepth 100000
set_option maxHeartbeats 20000000
set_option linter.unusedVariables false
set_option linter.unusedSimpArgs false
def X7_41 (x vv : V) (i n : Nat) : List Slot :=
  ((L7_41 (.v x) (.v (.ptr 1 0 0)) (.v (.lr 0 n)) (.v vv) (.v (.int .i64 (i : Int))) (.box 1) (.v (.int .i64 4))).set 150 (.v (.int .i64 4))).set 151 (.v (.bool false))
theorem loop41 {Q : Post} {st : St} {H : Hp} {x : V} {i : Nat} {a : ActR} {cnt : List Int} {all : List Ver} {vv : V} {tl : List LRow}
    (hx : ∀ H, ∃ l : List V, Rd H x l) (hvv : ∃ l : List V, Rd H vv l)
    (hst : norm (notes.kill 7 41) st.b.length st.r.length st = ⟨L7_41 (.v x) (.v (.ptr 1 0 0)) (.v (.lr 0 all.length)) (.v vv) (.v (.int .i64 (i : Int))) (.box 1) (.v (.int .i64 0)), [actC a, nowV all all.length], ⟨true, true, fsV all⟩ :: tl⟩)
    (hb : st.b.length = 2) (hr : st.r.length = tl.length + 1)
    (I : Inv H 1 0 cnt all)
    (hq : Q (.exit 7) ⟨X7_41 x vv i all.length, [actC a, nowV all all.length], ⟨true, true, fsV all⟩ :: tl⟩ H) :
    wpC (envOf Try.prog notes (evW Try.prog notes) 7) (.loop (loopOf Try.f7 41)) st H Q := by
  have hpos : (0 < tl.length + 1) = True := by simp
  have hci : ∀ (n : Nat) (k : IntKind) (m : Int), clipV n (.int k m) = .int k m := fun _ _ _ => rfl
  have hcA : ∀ n, (actC a).map (clipV n) = actC a := fun n => by simp only [actC, List.map_cons, List.map_nil, hci, (a.h.rd []).clip]
  have hcN : ∀ n k, (nowV all k).map (clipV n) = nowV all k := fun n k => rfl
  have hcx : ∀ p q, clip p q (.v x) = .v x := fun p q => by obtain ⟨l, h⟩ := hx []; exact h.clip2 p q
  have hcv : ∀ p q, clip p q (.v vv) = .v vv := fun p q => by obtain ⟨l, h⟩ := hvv; exact h.clip2 p q
  simp only [loopOf, bodyOf, Try.f7, Option.getD_some, findLoop, firstReg, orC_some, orC_none, Nat.reduceEqDiff, decide_true, decide_false]
  refine wC_loop _ (fun n st' H' => ∃ (f : Nat), st' = ⟨L7_41 (.v x) (.v (.ptr 1 0 0)) (.v (.lr 0 all.length)) (.v vv) (.v (.int .i64 (i : Int))) (.box 1) (.v (.int .i64 (f : Int))), [actC a, nowV all all.length], ⟨true, true, fsV all⟩ :: tl⟩ ∧ H' = H ∧ f ≤ 4 ∧ n = 4 - f) 4 ⟨0, ?_, rfl, by omega, rfl⟩ ?_
  · simp only [envG, envK, firstReg, grow7_41, growAll, List.foldl_nil]
    exact hst
  · simp only [envG, envK, firstReg, grow7_41, growAll, List.foldl_nil, hb, hr]
    rintro n st' H' ⟨f, rfl, rfl, hf, rfl⟩
    simp only [L7_41]
    simp only [WW, partV, eqCells, eqLf, minV, maxV, ifcV, zaa, zab, zac, zad, zae, zaf, zag, zah, zai, ofConst, ofConst1, List.replicate, zaj, zak, loadOp, Go.Abs.loadCells, binV, zal, pickV, zam, zan, zao, zap, zaq, zar, zas, zat, zau, outR, resAll, resOne, zav, zaw, zax, zay, zaz, zba, zbb, zbc, zbd, zbe, zbf, zbg, zbh, zbi, zbj, zbk, storeOp, storeCell, overlay, zbl, zbm, zbn, lookupOp, keyT, okRes, mapUpdateOp, zbo, zbp, zbq, zbr, zbs, zbt, zbu, Nat.reduceSub, Nat.reduceAdd, Int.reduceLT, Int.reduceLE, Int.reduceAdd, Int.reduceSub, Int.reduceToNat, Int.reduceBEq, Int.reduceBNe, Int.reduceMul, Nat.reduceBEq, Nat.reduceBNe, Nat.reduceLT, Nat.reduceLeDiff, Nat.reduceMul, Nat.reduceEqDiff, WD, effB, effH, isPriv, isHeap, isImm, zbx, zby, zbz, chkO, setD, dslot, zca, zcb, zcc, zcd, ptrCells_some, F7]
    refine cSplit (fun hlt => ?_) (fun hge => ?_)
    rotate_left
    · have hf2 : f = 4 := by have := of_decide_eq_false hge; omega
      subst hf2
      simp only [hge]
      simp only [WW, partV, eqCells, eqLf, minV, maxV, ifcV, zaa, zab, zac, zad, zae, zaf, zag, zah, zai, ofConst, ofConst1, List.replicate, zaj, zak, loadOp, Go.Abs.loadCells, binV, zal, pickV, zam, zan, zao, zap, zaq, zar, zas, zat, zau, outR, resAll, resOne, zav, zaw, zax, zay, zaz, zba, zbb, zbc, zbd, zbe, zbf, zbg, zbh, zbi, zbj, zbk, storeOp, storeCell, overlay, zbl, zbm, zbn, lookupOp, keyT, okRes, mapUpdateOp, zbo, zbp, zbq, zbr, zbs, zbt, zbu, Nat.reduceSub, Nat.reduceAdd, Int.reduceLT, Int.reduceLE, Int.reduceAdd, Int.reduceSub, Int.reduceToNat, Int.reduceBEq, Int.reduceBNe, Int.reduceMul, Nat.reduceBEq, Nat.reduceBNe, Nat.reduceLT, Nat.reduceLeDiff, Nat.reduceMul, Nat.reduceEqDiff, WD, effB, effH, isPriv, isHeap, isImm, zbx, zby, zbz, chkO, setD, dslot, zca, zcb, zcc, zcd, ptrCells_some, F7]
      exact hq
    · have hf2 : f < 4 := by have := of_decide_eq_true hlt; omega
      have hcl := I.cl
      obtain ⟨m, hm⟩ : ∃ m, cnt[f]? = some m := ⟨_, List.getElem?_eq_getElem (by omega)⟩
      have hmb := I.cb m (List.mem_of_getElem? hm)
      have hg : getCnt cnt (f : Int) = some m := by simp [getCnt, hm]
      have hve := versions_eq I.reg (f : Int)
      rw [hg] at hve
      simp only at hve
      have hget : (nowV all all.length)[f]? = some (.int .i64 (nowC all all.length (f : Int) : Int)) := by
        have : f = 0 ∨ f = 1 ∨ f = 2 ∨ f = 3 := by omega
        rcases this with rfl | rfl | rfl | rfl <;> rfl
      have hbnd := (nowC_le I (f : Int) all.length (Nat.le_refl _)).1
      have g1 : decide ((1 : Int) < (nowC all all.length (f : Int) : Int)) = false := decide_eq_false (by omega)
      have g2 : decide ((4 : Int) < m) = false := decide_eq_false (by omega)
      have hf0 : (0 : Int) ≤ (f : Int) := by omega
      have hf4 : (f : Int) < ((4 : Nat) : Int) := by omega
      have hf1 : IntKind.i64.wrap ((f : Int) + 1) = ((f + 1 : Nat) : Int) := by rw [IntWalk.i64_in _ (by omega)]; omega
      simp only [hlt]
      simp only [WW, partV, eqCells, eqLf, minV, maxV, ifcV, zaa, zab, zac, zad, zae, zaf, zag, zah, zai, ofConst, ofConst1, List.replicate, zaj, zak, loadOp, Go.Abs.loadCells, binV, zal, pickV, zam, zan, zao, zap, zaq, zar, zas, zat, zau, outR, resAll, resOne, zav, zaw, zax, zay, zaz, zba, zbb, zbc, zbd, zbe, zbf, zbg, zbh, zbi, zbj, zbk, storeOp, storeCell, overlay, zbl, zbm, zbn, lookupOp, keyT, okRes, mapUpdateOp, zbo, zbp, zbq, zbr, zbs, zbt, zbu, Nat.reduceSub, Nat.reduceAdd, Int.reduceLT, Int.reduceLE, Int.reduceAdd, Int.reduceSub, Int.reduceToNat, Int.reduceBEq, Int.reduceBNe, Int.reduceMul, Nat.reduceBEq, Nat.reduceBNe, Nat.reduceLT, Nat.reduceLeDiff, Nat.reduceMul, Nat.reduceEqDiff, WD, effB, effH, isPriv, isHeap, isImm, zbx, zby, zbz, chkO, setD, dslot, zca, zcb, zcc, zcd, ptrCells_some, F7]
      rw [wpCall_eq hve]
      simp only [WW, partV, eqCells, eqLf, minV, maxV, ifcV, zaa, zab, zac, zad, zae, zaf, zag, zah, zai, ofConst, ofConst1, List.replicate, zaj, zak, loadOp, Go.Abs.loadCells, binV, zal, pickV, zam, zan, zao, zap, zaq, zar, zas, zat, zau, outR, resAll, resOne, zav, zaw, zax, zay, zaz, zba, zbb, zbc, zbd, zbe, zbf, zbg, zbh, zbi, zbj, zbk, storeOp, storeCell, overlay, zbl, zbm, zbn, lookupOp, keyT, okRes, mapUpdateOp, zbo, zbp, zbq, zbr, zbs, zbt, zbu, Nat.reduceSub, Nat.reduceAdd, Int.reduceLT, Int.reduceLE, Int.reduceAdd, Int.reduceSub, Int.reduceToNat, Int.reduceBEq, Int.reduceBNe, Int.reduceMul, Nat.reduceBEq, Nat.reduceBNe, Nat.reduceLT, Nat.reduceLeDiff, Nat.reduceMul, Nat.reduceEqDiff, WD, effB, effH, isPriv, isHeap, isImm, zbx, zby, zbz, chkO, setD, dslot, zca, zcb, zcc, zcd, ptrCells_some, F7, hf0, hf4, Nat.mul_one, hget, g1, g2, hf1]
      refine ⟨4 - (f + 1), by omega, f + 1, ?_, by omega, rfl⟩
      simp only [WN, firstReg, growAll, zbv, zbw, norm, killS, zag, zah, zaa, zab, zbl, zat, zad, growOne, zae, zaf, zac, zas, zak, Nat.reduceLT, Nat.reduceAdd, zbj, zav, F7, hcx, hcv, hf1, hpos, hcA, hcN, List.take_length]
      try rfl
end Go.Proofs.Ytfjbgmcdkhepkaa

namespace Go.Proofs.Ytfjbgmcdkhepkaa
open Go Go.Abs Go.Proofs
set_option maxRecDepth 100000
set_option maxHeartbeats 40000000
set_option linter.unusedVariables false
set_option linter.unusedSimpArgs false
theorem depsTrue_eq (x : V) (l : List ActR) (hx : ∀ H, Rd H x (l.map actV)) :
    wpCall EW 7 [x] [] (fun out H' => out = .ret (.bool true) false) := by
  have hs := (hx []).shutIn
  have hcx := (hx []).clip2
  have hcia : ∀ (n : Nat) (k : IntKind) (m : Int), clipV n (.int k m) = .int k m := fun _ _ _ => rfl
  refine runs f7 b7 r7 n7 _ _ ?_
  simp only [bodyOf, Try.f7, Option.getD_some]
  simp only [WW, partV, eqCells, eqLf, minV, maxV, ifcV, zaa, zab, zac, zad, zae, zaf, zag, zah, zai, ofConst, ofConst1, List.replicate, zaj, zak, loadOp, Go.Abs.loadCells, binV, zal, pickV, zam, zan, zao, zap, zaq, zar, zas, zat, zau, outR, resAll, resOne, zav, zaw, zax, zay, zaz, zba, zbb, zbc, zbd, zbe, zbf, zbg, zbh, zbi, zbj, zbk, storeOp, storeCell, overlay, zbl, zbm, zbn, lookupOp, keyT, okRes, mapUpdateOp, zbo, zbp, zbq, zbr, zbs, zbt, zbu, Nat.reduceSub, Nat.reduceAdd, Int.reduceLT, Int.reduceLE, Int.reduceAdd, Int.reduceSub, Int.reduceToNat, Int.reduceBEq, Int.reduceBNe, Int.reduceMul, Nat.reduceBEq, Nat.reduceBNe, Nat.reduceLT, Nat.reduceLeDiff, Nat.reduceMul, Nat.reduceEqDiff, WD, effB, effH, isPriv, isHeap, isImm, zbx, zby, zbz, chkO, setD, dslot, zca, zcb, zcc, zcd, ptrCells_some, F7, hs]
  rw [wpCall_eq (much_eq (hx _))]
  simp only [WW, partV, eqCells, eqLf, minV, maxV, ifcV, zaa, zab, zac, zad, zae, zaf, zag, zah, zai, ofConst, ofConst1, List.replicate, zaj, zak, loadOp, Go.Abs.loadCells, binV, zal, pickV, zam, zan, zao, zap, zaq, zar, zas, zat, zau, outR, resAll, resOne, zav, zaw, zax, zay, zaz, zba, zbb, zbc, zbd, zbe, zbf, zbg, zbh, zbi, zbj, zbk, storeOp, storeCell, overlay, zbl, zbm, zbn, lookupOp, keyT, okRes, mapUpdateOp, zbo, zbp, zbq, zbr, zbs, zbt, zbu, Nat.reduceSub, Nat.reduceAdd, Int.reduceLT, Int.reduceLE, Int.reduceAdd, Int.reduceSub, Int.reduceToNat, Int.reduceBEq, Int.reduceBNe, Int.reduceMul, Nat.reduceBEq, Nat.reduceBNe, Nat.reduceLT, Nat.reduceLeDiff, Nat.reduceMul, Nat.reduceEqDiff, WD, effB, effH, isPriv, isHeap, isImm, zbx, zby, zbz, chkO, setD, dslot, zca, zcb, zcc, zcd, ptrCells_some, F7]
  refine cSplit (fun h => ?_) (fun h => ?_)
  · simp only [h]
    simp only [WW, partV, eqCells, eqLf, minV, maxV, ifcV, zaa, zab, zac, zad, zae, zaf, zag, zah, zai, ofConst, ofConst1, List.replicate, zaj, zak, loadOp, Go.Abs.loadCells, binV, zal, pickV, zam, zan, zao, zap, zaq, zar, zas, zat, zau, outR, resAll, resOne, zav, zaw, zax, zay, zaz, zba, zbb, zbc, zbd, zbe, zbf, zbg, zbh, zbi, zbj, zbk, storeOp, storeCell, overlay, zbl, zbm, zbn, lookupOp, keyT, okRes, mapUpdateOp, zbo, zbp, zbq, zbr, zbs, zbt, zbu, Nat.reduceSub, Nat.reduceAdd, Int.reduceLT, Int.reduceLE, Int.reduceAdd, Int.reduceSub, Int.reduceToNat, Int.reduceBEq, Int.reduceBNe, Int.reduceMul, Nat.reduceBEq, Nat.reduceBNe, Nat.reduceLT, Nat.reduceLeDiff, Nat.reduceMul, Nat.reduceEqDiff, WD, effB, effH, isPriv, isHeap, isImm, zbx, zby, zbz, chkO, setD, dslot, zca, zcb, zcc, zcd, ptrCells_some, F7]
    rw [wpCall_eq (live_eq _)]
    simp only [WW, partV, eqCells, eqLf, minV, maxV, ifcV, zaa, zab, zac, zad, zae, zaf, zag, zah, zai, ofConst, ofConst1, List.replicate, zaj, zak, loadOp, Go.Abs.loadCells, binV, zal, pickV, zam, zan, zao, zap, zaq, zar, zas, zat, zau, outR, resAll, resOne, zav, zaw, zax, zay, zaz, zba, zbb, zbc, zbd, zbe, zbf, zbg, zbh, zbi, zbj, zbk, storeOp, storeCell, overlay, zbl, zbm, zbn, lookupOp, keyT, okRes, mapUpdateOp, zbo, zbp, zbq, zbr, zbs, zbt, zbu, Nat.reduceSub, Nat.reduceAdd, Int.reduceLT, Int.reduceLE, Int.reduceAdd, Int.reduceSub, Int.reduceToNat, Int.reduceBEq, Int.reduceBNe, Int.reduceMul, Nat.reduceBEq, Nat.reduceBNe, Nat.reduceLT, Nat.reduceLeDiff, Nat.reduceMul, Nat.reduceEqDiff, WD, effB, effH, isPriv, isHeap, isImm, zbx, zby, zbz, chkO, setD, dslot, zca, zcb, zcc, zcd, ptrCells_some, F7]
  · have hlen : l.length ≤ 60 := by unfold muchB at h; simp at h; omega
    have hls : ∀ a ∈ l, a.l.length ≤ 40 := fun a ha => by
      unfold muchB at h; simp at h; exact h.2 a ha
    simp only [h]
    simp only [WW, partV, eqCells, eqLf, minV, maxV, ifcV, zaa, zab, zac, zad, zae, zaf, zag, zah, zai, ofConst, ofConst1, List.replicate, zaj, zak, loadOp, Go.Abs.loadCells, binV, zal, pickV, zam, zan, zao, zap, zaq, zar, zas, zat, zau, outR, resAll, resOne, zav, zaw, zax, zay, zaz, zba, zbb, zbc, zbd, zbe, zbf, zbg, zbh, zbi, zbj, zbk, storeOp, storeCell, overlay, zbl, zbm, zbn, lookupOp, keyT, okRes, mapUpdateOp, zbo, zbp, zbq, zbr, zbs, zbt, zbu, Nat.reduceSub, Nat.reduceAdd, Int.reduceLT, Int.reduceLE, Int.reduceAdd, Int.reduceSub, Int.reduceToNat, Int.reduceBEq, Int.reduceBNe, Int.reduceMul, Nat.reduceBEq, Nat.reduceBNe, Nat.reduceLT, Nat.reduceLeDiff, Nat.reduceMul, Nat.reduceEqDiff, WD, effB, effH, isPriv, isHeap, isImm, zbx, zby, zbz, chkO, setD, dslot, zca, zcb, zcc, zcd, ptrCells_some, F7]
    refine wpCall_of (new_eq 4 4 []) ?_
    rintro out H1 hp
    rw [if_neg (by decide)] at hp
    obtain ⟨rfl, R0, _⟩ := hp
    simp only [List.length_nil, Nat.zero_add] at R0
    have I0 : Inv H1 1 0 [0, 0, 0, 0] [] := ⟨R0, rfl, by decide, (fun v hv => by cases hv), (fun i j v w hi _ _ _ _ => by simp at hi)⟩
    simp only [WW, partV, eqCells, eqLf, minV, maxV, ifcV, zaa, zab, zac, zad, zae, zaf, zag, zah, zai, ofConst, ofConst1, List.replicate, zaj, zak, loadOp, Go.Abs.loadCells, binV, zal, pickV, zam, zan, zao, zap, zaq, zar, zas, zat, zau, outR, resAll, resOne, zav, zaw, zax, zay, zaz, zba, zbb, zbc, zbd, zbe, zbf, zbg, zbh, zbi, zbj, zbk, storeOp, storeCell, overlay, zbl, zbm, zbn, lookupOp, keyT, okRes, mapUpdateOp, zbo, zbp, zbq, zbr, zbs, zbt, zbu, Nat.reduceSub, Nat.reduceAdd, Int.reduceLT, Int.reduceLE, Int.reduceAdd, Int.reduceSub, Int.reduceToNat, Int.reduceBEq, Int.reduceBNe, Int.reduceMul, Nat.reduceBEq, Nat.reduceBNe, Nat.reduceLT, Nat.reduceLeDiff, Nat.reduceMul, Nat.reduceEqDiff, WD, effB, effH, isPriv, isHeap, isImm, zbx, zby, zbz, chkO, setD, dslot, zca, zcb, zcc, zcd, ptrCells_some, F7, wpCall_eq (num_eq _ _)]
    refine wC_loop _ (fun n st H' => ∃ (i : Nat) (cnt : List Int) (all : List Ver) (vv : V), st = ⟨L7_9 (.v x) (.v (.ptr 1 0 0)) (.v (.lr 0 all.length)) (.v vv) (.v (.int .i64 (i : Int))), [], [⟨true, true, fsV all⟩]⟩ ∧ Inv H' 1 0 cnt all ∧ SlW 1 H' (RN 1 0 all) vv (boolsV (all.map (·.ok))) ∧ all.length ≤ i ∧ i ≤ l.length ∧ n = l.length - i) l.length ⟨0, [0, 0, 0, 0], [], .nils, ?_, I0, .inl ⟨rfl, rfl⟩, Nat.le_refl _, by omega, rfl⟩ ?_
    · simp only [WN, firstReg, growAll, zbv, zbw, norm, killS, zag, zah, zaa, zab, zbl, zat, zad, growOne, zae, zaf, zac, zas, zak, Nat.reduceLT, Nat.reduceAdd, zbj, zav, F7, L7_9, hcx]
      rfl
    · rintro n st H' ⟨i, cnt, all, vv, rfl, I, hV, hai, hi, rfl⟩
      simp only [L7_9]
      simp only [WW, partV, eqCells, eqLf, minV, maxV, ifcV, zaa, zab, zac, zad, zae, zaf, zag, zah, zai, ofConst, ofConst1, List.replicate, zaj, zak, loadOp, Go.Abs.loadCells, binV, zal, pickV, zam, zan, zao, zap, zaq, zar, zas, zat, zau, outR, resAll, resOne, zav, zaw, zax, zay, zaz, zba, zbb, zbc, zbd, zbe, zbf, zbg, zbh, zbi, zbj, zbk, storeOp, storeCell, overlay, zbl, zbm, zbn, lookupOp, keyT, okRes, mapUpdateOp, zbo, zbp, zbq, zbr, zbs, zbt, zbu, Nat.reduceSub, Nat.reduceAdd, Int.reduceLT, Int.reduceLE, Int.reduceAdd, Int.reduceSub, Int.reduceToNat, Int.reduceBEq, Int.reduceBNe, Int.reduceMul, Nat.reduceBEq, Nat.reduceBNe, Nat.reduceLT, Nat.reduceLeDiff, Nat.reduceMul, Nat.reduceEqDiff, WD, effB, effH, isPriv, isHeap, isImm, zbx, zby, zbz, chkO, setD, dslot, zca, zcb, zcc, zcd, ptrCells_some, F7, (hx H').shutIn, (hx H').len]
      refine cSplit (fun hlt => ?_) (fun hge => ?_)
      rotate_left
      · simp only [hge]
        simp only [WW, partV, eqCells, eqLf, minV, maxV, ifcV, zaa, zab, zac, zad, zae, zaf, zag, zah, zai, ofConst, ofConst1, List.replicate, zaj, zak, loadOp, Go.Abs.loadCells, binV, zal, pickV, zam, zan, zao, zap, zaq, zar, zas, zat, zau, outR, resAll, resOne, zav, zaw, zax, zay, zaz, zba, zbb, zbc, zbd, zbe, zbf, zbg, zbh, zbi, zbj, zbk, storeOp, storeCell, overlay, zbl, zbm, zbn, lookupOp, keyT, okRes, mapUpdateOp, zbo, zbp, zbq, zbr, zbs, zbt, zbu, Nat.reduceSub, Nat.reduceAdd, Int.reduceLT, Int.reduceLE, Int.reduceAdd, Int.reduceSub, Int.reduceToNat, Int.reduceBEq, Int.reduceBNe, Int.reduceMul, Nat.reduceBEq, Nat.reduceBNe, Nat.reduceLT, Nat.reduceLeDiff, Nat.reduceMul, Nat.reduceEqDiff, WD, effB, effH, isPriv, isHeap, isImm, zbx, zby, zbz, chkO, setD, dslot, zca, zcb, zcc, zcd, ptrCells_some, F7]
        rw [wpCall_eq (live_eq _)]
        simp only [WW, partV, eqCells, eqLf, minV, maxV, ifcV, zaa, zab, zac, zad, zae, zaf, zag, zah, zai, ofConst, ofConst1, List.replicate, zaj, zak, loadOp, Go.Abs.loadCells, binV, zal, pickV, zam, zan, zao, zap, zaq, zar, zas, zat, zau, outR, resAll, resOne, zav, zaw, zax, zay, zaz, zba, zbb, zbc, zbd, zbe, zbf, zbg, zbh, zbi, zbj, zbk, storeOp, storeCell, overlay, zbl, zbm, zbn, lookupOp, keyT, okRes, mapUpdateOp, zbo, zbp, zbq, zbr, zbs, zbt, zbu, Nat.reduceSub, Nat.reduceAdd, Int.reduceLT, Int.reduceLE, Int.reduceAdd, Int.reduceSub, Int.reduceToNat, Int.reduceBEq, Int.reduceBNe, Int.reduceMul, Nat.reduceBEq, Nat.reduceBNe, Nat.reduceLT, Nat.reduceLeDiff, Nat.reduceMul, Nat.reduceEqDiff, WD, effB, effH, isPriv, isHeap, isImm, zbx, zby, zbz, chkO, setD, dslot, zca, zcb, zcc, zcd, ptrCells_some, F7]
      · have hi2 : i < l.length := by have := of_decide_eq_true hlt; omega
        have hd : l[i]? = some l[i] := List.getElem?_eq_getElem hi2
        have hal := hls l[i] (List.getElem_mem hi2)
        generalize l[i] = a at hd hal
        have hat := actAt (hx H') hd
        have ha := a.h.rd
        have hasx : ∀ H, Sx H a.x (a.l.map depV) := fun H => by
          have := a.h
          generalize a.x = y at this
          generalize a.l = z at this
          cases this with
          | nils => exact .nils
          | rsl => exact .rsl _
        have hqi : IntKind.i64.wrap ((i : Int) + 1) = ((i + 1 : Nat) : Int) := by rw [IntWalk.i64_in _ (by omega)]; omega
        have hVs := hV.shut
        have hcA : ∀ n, (actC a).map (clipV n) = actC a := fun n => by simp only [actC, List.map_cons, List.map_nil, hcia, (a.h.rd []).clip]
        have hcN : ∀ (A : List Ver) n k, (nowV A k).map (clipV n) = nowV A k := fun A n k => rfl
        simp only [hlt]
        simp only [WW, partV, eqCells, eqLf, minV, maxV, ifcV, zaa, zab, zac, zad, zae, zaf, zag, zah, zai, ofConst, ofConst1, List.replicate, zaj, zak, loadOp, Go.Abs.loadCells, binV, zal, pickV, zam, zan, zao, zap, zaq, zar, zas, zat, zau, outR, resAll, resOne, zav, zaw, zax, zay, zaz, zba, zbb, zbc, zbd, zbe, zbf, zbg, zbh, zbi, zbj, zbk, storeOp, storeCell, overlay, zbl, zbm, zbn, lookupOp, keyT, okRes, mapUpdateOp, zbo, zbp, zbq, zbr, zbs, zbt, zbu, Nat.reduceSub, Nat.reduceAdd, Int.reduceLT, Int.reduceLE, Int.reduceAdd, Int.reduceSub, Int.reduceToNat, Int.reduceBEq, Int.reduceBNe, Int.reduceMul, Nat.reduceBEq, Nat.reduceBNe, Nat.reduceLT, Nat.reduceLeDiff, Nat.reduceMul, Nat.reduceEqDiff, WD, effB, effH, isPriv, isHeap, isImm, zbx, zby, zbz, chkO, setD, dslot, zca, zcb, zcc, zcd, ptrCells_some, F7, (hx H').shutIn, hat.at1 (hx H'), hat.cells, actV]
        cases h0 : (a.d == 0) with
        | true =>
          have hd0 : a.d = 0 := by simpa using h0
          have hd1 : ¬ a.d = 1 := by omega
          simp only [WW, partV, eqCells, eqLf, minV, maxV, ifcV, zaa, zab, zac, zad, zae, zaf, zag, zah, zai, ofConst, ofConst1, List.replicate, zaj, zak, loadOp, Go.Abs.loadCells, binV, zal, pickV, zam, zan, zao, zap, zaq, zar, zas, zat, zau, outR, resAll, resOne, zav, zaw, zax, zay, zaz, zba, zbb, zbc, zbd, zbe, zbf, zbg, zbh, zbi, zbj, zbk, storeOp, storeCell, overlay, zbl, zbm, zbn, lookupOp, keyT, okRes, mapUpdateOp, zbo, zbp, zbq, zbr, zbs, zbt, zbu, Nat.reduceSub, Nat.reduceAdd, Int.reduceLT, Int.reduceLE, Int.reduceAdd, Int.reduceSub, Int.reduceToNat, Int.reduceBEq, Int.reduceBNe, Int.reduceMul, Nat.reduceBEq, Nat.reduceBNe, Nat.reduceLT, Nat.reduceLeDiff, Nat.reduceMul, Nat.reduceEqDiff, WD, effB, effH, isPriv, isHeap, isImm, zbx, zby, zbz, chkO, setD, dslot, zca, zcb, zcc, zcd, ptrCells_some, F7, (ha H').shutIn]
          refine wpCall_of (add_eq I.reg a.f a.x a.l (hasx _) (by omega) (fun id lo m e => by have := a.h; rw [e] at this; cases this) (by omega) (fun m hm => by have := I.cb m hm; omega)) ?_
          rintro out H2 hp
          by_cases herr : addErr 4 cnt all a.f a.l = 0
          · rw [if_neg (by simp [herr])] at hp
            obtain ⟨rfl, ⟨v1, hv1, hv2, hv3, hv4, R2⟩, hl2, hk2⟩ := hp
            have I2 := I.add herr hv1 hv2 R2
            have hne : (((all.length : Nat) : Int) != ((all.length : Nat) : Int)) = false := bne_self_eq_false _
            have hz : ((0 : Int) == 0) = true := rfl
            have hwf := wide_fs all
            have hrf := fs_rlen all
            have hV2 : SlW 1 H2 (RN 1 0 (all ++ [v1])) vv (boolsV (all.map (·.ok))) := by
              rcases hV with h | ⟨s, es, e1, e2, e3, e4⟩
              · exact .inl h
              · refine .inr ⟨s, es, e1, ?_, hk2 s es (fun e => e2 (.inl e)) (fun e => e2 (.inr (.inl e))) e3, e4⟩
                have hslt := (List.getElem?_eq_some_iff.1 e3).1
                rintro (h | h | h)
                · exact e2 (.inl h)
                · exact e2 (.inr (.inl h))
                · rw [List.map_append] at h
                  rcases List.mem_append.1 h with h | h
                  · exact e2 (.inr (.inr h))
                  · simp at h; omega
            obtain ⟨vv1, H3, happ, hV3, hN3, hl3⟩ := app_sl (P := Try.prog) (e := 4) (d := some 70) [V.bool true] (by kernel_rfl) (SlW_row hV2) (RNr_lt R2) rfl (by simp) (by rw [room4]; simp [boolsV]; omega)
            have I3 := I2.with (R2.byN hN3)
            have hV4 : SlW 1 H3 (RN 1 0 (all ++ [v1])) vv1 (boolsV ((all ++ [v1]).map (·.ok))) := by
              have := hV3.weaken (N' := RN 1 0 (all ++ [v1])) (fun i h => .inl h)
              rw [List.map_append]
              simpa [boolsV, hv3] using this
            have hown : ∀ (st : St) (H : Hp) (d : Option Nat), st.r[0]? = some ⟨true, true, fsV all⟩ → appendOp Try.prog .priv st H d 3 (.lr 0 all.length) [V.int .i64 a.f] = some ({ putS st d (.v (.lr 0 (all.length + 1))) with r := st.r.set 0 ⟨true, true, fsV all ++ [V.int .i64 a.f]⟩ }, H) := fun st H d h =>
              app_own h rfl (by simp [fsV]) (by rw [room3]; simp; omega) (by rw [size3]; exact hwf) (by rw [size3]; rfl)
            have hfn : fsV all ++ [V.int .i64 a.f] = fsV (all ++ [v1]) := by simp [fsV, hv1]
            have hln : all.length + 1 = (all ++ [v1]).length := by simp
            simp only [WW, partV, eqCells, eqLf, minV, maxV, ifcV, zaa, zab, zac, zad, zae, zaf, zag, zah, zai, ofConst, ofConst1, List.replicate, zaj, zak, loadOp, Go.Abs.loadCells, binV, zal, pickV, zam, zan, zao, zap, zaq, zar, zas, zat, zau, outR, resAll, resOne, zav, zaw, zax, zay, zaz, zba, zbb, zbc, zbd, zbe, zbf, zbg, zbh, zbi, zbj, zbk, storeOp, storeCell, overlay, zbl, zbm, zbn, lookupOp, keyT, okRes, mapUpdateOp, zbo, zbp, zbq, zbr, zbs, zbt, zbu, Nat.reduceSub, Nat.reduceAdd, Int.reduceLT, Int.reduceLE, Int.reduceAdd, Int.reduceSub, Int.reduceToNat, Int.reduceBEq, Int.reduceBNe, Int.reduceMul, Nat.reduceBEq, Nat.reduceBNe, Nat.reduceLT, Nat.reduceLeDiff, Nat.reduceMul, Nat.reduceEqDiff, WD, effB, effH, isPriv, isHeap, isImm, zbx, zby, zbz, chkO, setD, dslot, zca, zcb, zcc, zcd, ptrCells_some, F7, wpCall_eq (num_eq _ _), hz, hrf, hne]
            simp only [WW, partV, eqCells, eqLf, minV, maxV, ifcV, zaa, zab, zac, zad, zae, zaf, zag, zah, zai, ofConst, ofConst1, List.replicate, zaj, zak, loadOp, Go.Abs.loadCells, binV, zal, pickV, zam, zan, zao, zap, zaq, zar, zas, zat, zau, outR, resAll, resOne, zav, zaw, zax, zay, zaz, zba, zbb, zbc, zbd, zbe, zbf, zbg, zbh, zbi, zbj, zbk, storeOp, storeCell, overlay, zbl, zbm, zbn, lookupOp, keyT, okRes, mapUpdateOp, zbo, zbp, zbq, zbr, zbs, zbt, zbu, Nat.reduceSub, Nat.reduceAdd, Int.reduceLT, Int.reduceLE, Int.reduceAdd, Int.reduceSub, Int.reduceToNat, Int.reduceBEq, Int.reduceBNe, Int.reduceMul, Nat.reduceBEq, Nat.reduceBNe, Nat.reduceLT, Nat.reduceLeDiff, Nat.reduceMul, Nat.reduceEqDiff, WD, effB, effH, isPriv, isHeap, isImm, zbx, zby, zbz, chkO, setD, dslot, zca, zcb, zcc, zcd, ptrCells_some, F7, buildSliceV, lits, srcV_eq, srcK_sl, srcK_str, srcSl_nils, srcSl_rsl, srcSl_sl, frow, zbv, zbw, List.all_nil, List.all_cons, rowV, Bool.false_and, Bool.and_false, ne_eq, not_false_eq_true, grows_lr, callOut_t, hown, happ]
            rw [hfn, hln]
            refine loop26 (x := x) (i := i) (a := a) (cnt := cnt.modify a.f.toNat (· + 1)) (all := all ++ [v1]) (V1 := (all ++ [v1]).map (·.ok)) (tl := [⟨true, false, [V.int .i64 a.f]⟩, ⟨true, false, [V.bool true]⟩]) (fun H => ⟨_, hx H⟩) ?_ rfl rfl I3 hV4 (by simp) (fun j w h ho => by rw [List.getElem?_map, h]; simp [ho]) (fun e => absurd e hd1) (by simp; omega) ?_
            · simp only [WN, firstReg, growAll, zbv, zbw, norm, killS, zag, zah, zaa, zab, zbl, zat, zad, growOne, zae, zaf, zac, zas, zak, Nat.reduceLT, Nat.reduceAdd, zbj, zav, F7, L7_26, hcx, hV4.rd.clip2, hcia, (a.h.rd []).clip, List.length_cons, List.length_nil]
              try rfl
            · intro H5 vv5 I5 hV5
              simp only [X7_26, L7_26]
              simp only [WW, partV, eqCells, eqLf, minV, maxV, ifcV, zaa, zab, zac, zad, zae, zaf, zag, zah, zai, ofConst, ofConst1, List.replicate, zaj, zak, loadOp, Go.Abs.loadCells, binV, zal, pickV, zam, zan, zao, zap, zaq, zar, zas, zat, zau, outR, resAll, resOne, zav, zaw, zax, zay, zaz, zba, zbb, zbc, zbd, zbe, zbf, zbg, zbh, zbi, zbj, zbk, storeOp, storeCell, overlay, zbl, zbm, zbn, lookupOp, keyT, okRes, mapUpdateOp, zbo, zbp, zbq, zbr, zbs, zbt, zbu, Nat.reduceSub, Nat.reduceAdd, Int.reduceLT, Int.reduceLE, Int.reduceAdd, Int.reduceSub, Int.reduceToNat, Int.reduceBEq, Int.reduceBNe, Int.reduceMul, Nat.reduceBEq, Nat.reduceBNe, Nat.reduceLT, Nat.reduceLeDiff, Nat.reduceMul, Nat.reduceEqDiff, WD, effB, effH, isPriv, isHeap, isImm, zbx, zby, zbz, chkO, setD, dslot, zca, zcb, zcc, zcd, ptrCells_some, F7]
              refine loop41 (x := x) (i := i) (a := a) (cnt := cnt.modify a.f.toNat (· + 1)) (all := all ++ [v1]) (tl := [⟨true, false, [V.int .i64 a.f]⟩, ⟨true, false, [V.bool true]⟩]) (vv := vv5) (fun H => ⟨_, hx H⟩) ⟨_, hV5.rd⟩ ?_ rfl rfl I5 ?_
              · simp only [WN, firstReg, growAll, zbv, zbw, norm, killS, zag, zah, zaa, zab, zbl, zat, zad, growOne, zae, zaf, zac, zas, zak, Nat.reduceLT, Nat.reduceAdd, zbj, zav, F7, L7_41, hcx, hV5.rd.clip2, hcia, hcA, hcN, List.length_cons, List.length_nil]
                try rfl
              · simp only [X7_41, L7_41]
                simp only [WW, partV, eqCells, eqLf, minV, maxV, ifcV, zaa, zab, zac, zad, zae, zaf, zag, zah, zai, ofConst, ofConst1, List.replicate, zaj, zak, loadOp, Go.Abs.loadCells, binV, zal, pickV, zam, zan, zao, zap, zaq, zar, zas, zat, zau, outR, resAll, resOne, zav, zaw, zax, zay, zaz, zba, zbb, zbc, zbd, zbe, zbf, zbg, zbh, zbi, zbj, zbk, storeOp, storeCell, overlay, zbl, zbm, zbn, lookupOp, keyT, okRes, mapUpdateOp, zbo, zbp, zbq, zbr, zbs, zbt, zbu, Nat.reduceSub, Nat.reduceAdd, Int.reduceLT, Int.reduceLE, Int.reduceAdd, Int.reduceSub, Int.reduceToNat, Int.reduceBEq, Int.reduceBNe, Int.reduceMul, Nat.reduceBEq, Nat.reduceBNe, Nat.reduceLT, Nat.reduceLeDiff, Nat.reduceMul, Nat.reduceEqDiff, WD, effB, effH, isPriv, isHeap, isImm, zbx, zby, zbz, chkO, setD, dslot, zca, zcb, zcc, zcd, ptrCells_some, F7, hqi]
                refine ⟨l.length - (i + 1), by omega, i + 1, cnt.modify a.f.toNat (· + 1), all ++ [v1], vv5, ?_, I5, hV5, (by simp; omega), by omega, rfl⟩
                simp only [WN, firstReg, growAll, zbv, zbw, norm, killS, zag, zah, zaa, zab, zbl, zat, zad, growOne, zae, zaf, zac, zas, zak, Nat.reduceLT, Nat.reduceAdd, zbj, zav, F7, hcx, hV5.rd.clip2, hqi]
                try rfl
          · rw [if_pos herr] at hp
            obtain ⟨rfl, e1, rfl⟩ := hp
            have hb : ((addErr 4 cnt all a.f a.l) == 0) = false := by simpa using herr
            have I3 := I.with (I.reg.more e1)
            have hV4 := hV.app e1
            simp only [WW, partV, eqCells, eqLf, minV, maxV, ifcV, zaa, zab, zac, zad, zae, zaf, zag, zah, zai, ofConst, ofConst1, List.replicate, zaj, zak, loadOp, Go.Abs.loadCells, binV, zal, pickV, zam, zan, zao, zap, zaq, zar, zas, zat, zau, outR, resAll, resOne, zav, zaw, zax, zay, zaz, zba, zbb, zbc, zbd, zbe, zbf, zbg, zbh, zbi, zbj, zbk, storeOp, storeCell, overlay, zbl, zbm, zbn, lookupOp, keyT, okRes, mapUpdateOp, zbo, zbp, zbq, zbr, zbs, zbt, zbu, Nat.reduceSub, Nat.reduceAdd, Int.reduceLT, Int.reduceLE, Int.reduceAdd, Int.reduceSub, Int.reduceToNat, Int.reduceBEq, Int.reduceBNe, Int.reduceMul, Nat.reduceBEq, Nat.reduceBNe, Nat.reduceLT, Nat.reduceLeDiff, Nat.reduceMul, Nat.reduceEqDiff, WD, effB, effH, isPriv, isHeap, isImm, zbx, zby, zbz, chkO, setD, dslot, zca, zcb, zcc, zcd, ptrCells_some, F7, wpCall_eq (num_eq _ _), hb]
            refine loop26 (x := x) (i := i) (a := a) (cnt := cnt) (all := all) (V1 := all.map (·.ok)) (tl := []) (fun H => ⟨_, hx H⟩) ?_ rfl rfl I3 hV4 (by simp) (fun j w h ho => by rw [List.getElem?_map, h]; simp [ho]) (fun e => absurd e hd1) (by omega) ?_
            · simp only [WN, firstReg, growAll, zbv, zbw, norm, killS, zag, zah, zaa, zab, zbl, zat, zad, growOne, zae, zaf, zac, zas, zak, Nat.reduceLT, Nat.reduceAdd, zbj, zav, F7, L7_26, hcx, hV.rd.clip2, hcia, (a.h.rd []).clip, List.length_cons, List.length_nil]
              try rfl
            · intro H5 vv5 I5 hV5
              simp only [X7_26, L7_26]
              simp only [WW, partV, eqCells, eqLf, minV, maxV, ifcV, zaa, zab, zac, zad, zae, zaf, zag, zah, zai, ofConst, ofConst1, List.replicate, zaj, zak, loadOp, Go.Abs.loadCells, binV, zal, pickV, zam, zan, zao, zap, zaq, zar, zas, zat, zau, outR, resAll, resOne, zav, zaw, zax, zay, zaz, zba, zbb, zbc, zbd, zbe, zbf, zbg, zbh, zbi, zbj, zbk, storeOp, storeCell, overlay, zbl, zbm, zbn, lookupOp, keyT, okRes, mapUpdateOp, zbo, zbp, zbq, zbr, zbs, zbt, zbu, Nat.reduceSub, Nat.reduceAdd, Int.reduceLT, Int.reduceLE, Int.reduceAdd, Int.reduceSub, Int.reduceToNat, Int.reduceBEq, Int.reduceBNe, Int.reduceMul, Nat.reduceBEq, Nat.reduceBNe, Nat.reduceLT, Nat.reduceLeDiff, Nat.reduceMul, Nat.reduceEqDiff, WD, effB, effH, isPriv, isHeap, isImm, zbx, zby, zbz, chkO, setD, dslot, zca, zcb, zcc, zcd, ptrCells_some, F7]
              refine loop41 (x := x) (i := i) (a := a) (cnt := cnt) (all := all) (tl := []) (vv := vv5) (fun H => ⟨_, hx H⟩) ⟨_, hV5.rd⟩ ?_ rfl rfl I5 ?_
              · simp only [WN, firstReg, growAll, zbv, zbw, norm, killS, zag, zah, zaa, zab, zbl, zat, zad, growOne, zae, zaf, zac, zas, zak, Nat.reduceLT, Nat.reduceAdd, zbj, zav, F7, L7_41, hcx, hV5.rd.clip2, hcia, hcA, hcN, List.length_cons, List.length_nil]
                try rfl
              · simp only [X7_41, L7_41]
                simp only [WW, partV, eqCells, eqLf, minV, maxV, ifcV, zaa, zab, zac, zad, zae, zaf, zag, zah, zai, ofConst, ofConst1, List.replicate, zaj, zak, loadOp, Go.Abs.loadCells, binV, zal, pickV, zam, zan, zao, zap, zaq, zar, zas, zat, zau, outR, resAll, resOne, zav, zaw, zax, zay, zaz, zba, zbb, zbc, zbd, zbe, zbf, zbg, zbh, zbi, zbj, zbk, storeOp, storeCell, overlay, zbl, zbm, zbn, lookupOp, keyT, okRes, mapUpdateOp, zbo, zbp, zbq, zbr, zbs, zbt, zbu, Nat.reduceSub, Nat.reduceAdd, Int.reduceLT, Int.reduceLE, Int.reduceAdd, Int.reduceSub, Int.reduceToNat, Int.reduceBEq, Int.reduceBNe, Int.reduceMul, Nat.reduceBEq, Nat.reduceBNe, Nat.reduceLT, Nat.reduceLeDiff, Nat.reduceMul, Nat.reduceEqDiff, WD, effB, effH, isPriv, isHeap, isImm, zbx, zby, zbz, chkO, setD, dslot, zca, zcb, zcc, zcd, ptrCells_some, F7, hqi]
                refine ⟨l.length - (i + 1), by omega, i + 1, cnt, all, vv5, ?_, I5, hV5, (by omega), by omega, rfl⟩
                simp only [WN, firstReg, growAll, zbv, zbw, norm, killS, zag, zah, zaa, zab, zbl, zat, zad, growOne, zae, zaf, zac, zas, zak, Nat.reduceLT, Nat.reduceAdd, zbj, zav, F7, hcx, hV5.rd.clip2, hqi]
                try rfl
        | false =>
          have hkeep : ∀ (p : Nat → Ver → Bool) (H2 : Hp), Frm all H' H2 → SlW 1 H2 (RN 1 0 (upd p all all.length)) vv (boolsV (all.map (·.ok))) := fun p H2 hf => by
            rw [RN_ids (upd_id p all all.length)]
            refine hV.keep fun s es hs h => ?_
            rw [hf.old s (List.getElem?_eq_some_iff.1 h).1 (fun e => hs (.inr (.inr e)))]; exact h
          have hVk : ∀ (p : Nat → Ver → Bool) (j : Nat) w, (upd p all all.length)[j]? = some w → w.ok = true → (all.map (·.ok))[j]? = some true := fun p j w h ho => by
            obtain ⟨u, hu, _, _, h3⟩ := upd_get h
            rw [List.getElem?_map, hu]; simp [(h3 ho).1]
          have hfs : ∀ p, fsV (upd p all all.length) = fsV all := fun p => upd_f p all all.length
          cases h1 : (a.d == 1) with
          | true =>
            have hd1 : a.d = 1 := by simpa using h1
            simp only [WW, partV, eqCells, eqLf, minV, maxV, ifcV, zaa, zab, zac, zad, zae, zaf, zag, zah, zai, ofConst, ofConst1, List.replicate, zaj, zak, loadOp, Go.Abs.loadCells, binV, zal, pickV, zam, zan, zao, zap, zaq, zar, zas, zat, zau, outR, resAll, resOne, zav, zaw, zax, zay, zaz, zba, zbb, zbc, zbd, zbe, zbf, zbg, zbh, zbi, zbj, zbk, storeOp, storeCell, overlay, zbl, zbm, zbn, lookupOp, keyT, okRes, mapUpdateOp, zbo, zbp, zbq, zbr, zbs, zbt, zbu, Nat.reduceSub, Nat.reduceAdd, Int.reduceLT, Int.reduceLE, Int.reduceAdd, Int.reduceSub, Int.reduceToNat, Int.reduceBEq, Int.reduceBNe, Int.reduceMul, Nat.reduceBEq, Nat.reduceBNe, Nat.reduceLT, Nat.reduceLeDiff, Nat.reduceMul, Nat.reduceEqDiff, WD, effB, effH, isPriv, isHeap, isImm, zbx, zby, zbz, chkO, setD, dslot, zca, zcb, zcc, zcd, ptrCells_some, F7, h1, (ha H').shutIn]
            refine wpCall_of (wrote_eq I.reg a.f a.v) ?_
            rintro out H2 hp
            split at hp
            · rename_i hbad
              obtain ⟨rfl, rfl⟩ := hp
              simp only [WW, partV, eqCells, eqLf, minV, maxV, ifcV, zaa, zab, zac, zad, zae, zaf, zag, zah, zai, ofConst, ofConst1, List.replicate, zaj, zak, loadOp, Go.Abs.loadCells, binV, zal, pickV, zam, zan, zao, zap, zaq, zar, zas, zat, zau, outR, resAll, resOne, zav, zaw, zax, zay, zaz, zba, zbb, zbc, zbd, zbe, zbf, zbg, zbh, zbi, zbj, zbk, storeOp, storeCell, overlay, zbl, zbm, zbn, lookupOp, keyT, okRes, mapUpdateOp, zbo, zbp, zbq, zbr, zbs, zbt, zbu, Nat.reduceSub, Nat.reduceAdd, Int.reduceLT, Int.reduceLE, Int.reduceAdd, Int.reduceSub, Int.reduceToNat, Int.reduceBEq, Int.reduceBNe, Int.reduceMul, Nat.reduceBEq, Nat.reduceBNe, Nat.reduceLT, Nat.reduceLeDiff, Nat.reduceMul, Nat.reduceEqDiff, WD, effB, effH, isPriv, isHeap, isImm, zbx, zby, zbz, chkO, setD, dslot, zca, zcb, zcc, zcd, ptrCells_some, F7]
              refine loop26 (x := x) (i := i) (a := a) (cnt := cnt) (all := all) (V1 := all.map (·.ok)) (tl := []) (fun H => ⟨_, hx H⟩) ?_ rfl rfl I hV (by simp) (fun j w h ho => by rw [List.getElem?_map, h]; simp [ho]) (fun _ w hw _ y hy => by have := (I.vf w hw).2 y hy; omega) (by omega) ?_
              · simp only [WN, firstReg, growAll, zbv, zbw, norm, killS, zag, zah, zaa, zab, zbl, zat, zad, growOne, zae, zaf, zac, zas, zak, Nat.reduceLT, Nat.reduceAdd, zbj, zav, F7, L7_26, hcx, hV.rd.clip2, hcia, (a.h.rd []).clip, List.length_cons, List.length_nil]
                try rfl
              · intro H5 vv5 I5 hV5
                simp only [X7_26, L7_26]
                simp only [WW, partV, eqCells, eqLf, minV, maxV, ifcV, zaa, zab, zac, zad, zae, zaf, zag, zah, zai, ofConst, ofConst1, List.replicate, zaj, zak, loadOp, Go.Abs.loadCells, binV, zal, pickV, zam, zan, zao, zap, zaq, zar, zas, zat, zau, outR, resAll, resOne, zav, zaw, zax, zay, zaz, zba, zbb, zbc, zbd, zbe, zbf, zbg, zbh, zbi, zbj, zbk, storeOp, storeCell, overlay, zbl, zbm, zbn, lookupOp, keyT, okRes, mapUpdateOp, zbo, zbp, zbq, zbr, zbs, zbt, zbu, Nat.reduceSub, Nat.reduceAdd, Int.reduceLT, Int.reduceLE, Int.reduceAdd, Int.reduceSub, Int.reduceToNat, Int.reduceBEq, Int.reduceBNe, Int.reduceMul, Nat.reduceBEq, Nat.reduceBNe, Nat.reduceLT, Nat.reduceLeDiff, Nat.reduceMul, Nat.reduceEqDiff, WD, effB, effH, isPriv, isHeap, isImm, zbx, zby, zbz, chkO, setD, dslot, zca, zcb, zcc, zcd, ptrCells_some, F7]
                refine loop41 (x := x) (i := i) (a := a) (cnt := cnt) (all := all) (tl := []) (vv := vv5) (fun H => ⟨_, hx H⟩) ⟨_, hV5.rd⟩ ?_ rfl rfl I5 ?_
                · simp only [WN, firstReg, growAll, zbv, zbw, norm, killS, zag, zah, zaa, zab, zbl, zat, zad, growOne, zae, zaf, zac, zas, zak, Nat.reduceLT, Nat.reduceAdd, zbj, zav, F7, L7_41, hcx, hV5.rd.clip2, hcia, hcA, hcN, List.length_cons, List.length_nil]
                  try rfl
                · simp only [X7_41, L7_41]
                  simp only [WW, partV, eqCells, eqLf, minV, maxV, ifcV, zaa, zab, zac, zad, zae, zaf, zag, zah, zai, ofConst, ofConst1, List.replicate, zaj, zak, loadOp, Go.Abs.loadCells, binV, zal, pickV, zam, zan, zao, zap, zaq, zar, zas, zat, zau, outR, resAll, resOne, zav, zaw, zax, zay, zaz, zba, zbb, zbc, zbd, zbe, zbf, zbg, zbh, zbi, zbj, zbk, storeOp, storeCell, overlay, zbl, zbm, zbn, lookupOp, keyT, okRes, mapUpdateOp, zbo, zbp, zbq, zbr, zbs, zbt, zbu, Nat.reduceSub, Nat.reduceAdd, Int.reduceLT, Int.reduceLE, Int.reduceAdd, Int.reduceSub, Int.reduceToNat, Int.reduceBEq, Int.reduceBNe, Int.reduceMul, Nat.reduceBEq, Nat.reduceBNe, Nat.reduceLT, Nat.reduceLeDiff, Nat.reduceMul, Nat.reduceEqDiff, WD, effB, effH, isPriv, isHeap, isImm, zbx, zby, zbz, chkO, setD, dslot, zca, zcb, zcc, zcd, ptrCells_some, F7, hqi]
                  refine ⟨l.length - (i + 1), by omega, i + 1, cnt, all, vv5, ?_, I5, hV5, (by omega), by omega, rfl⟩
                  simp only [WN, firstReg, growAll, zbv, zbw, norm, killS, zag, zah, zaa, zab, zbl, zat, zad, growOne, zae, zaf, zac, zas, zak, Nat.reduceLT, Nat.reduceAdd, zbj, zav, F7, hcx, hV5.rd.clip2, hqi]
                  try rfl
            · rename_i hgood
              obtain ⟨y, rfl, hy, R2, hf⟩ := hp
              have I2 := I.upd _ R2
              have hlu := upd_length (writes a.f a.v) all all.length
              simp only [WW, partV, eqCells, eqLf, minV, maxV, ifcV, zaa, zab, zac, zad, zae, zaf, zag, zah, zai, ofConst, ofConst1, List.replicate, zaj, zak, loadOp, Go.Abs.loadCells, binV, zal, pickV, zam, zan, zao, zap, zaq, zar, zas, zat, zau, outR, resAll, resOne, zav, zaw, zax, zay, zaz, zba, zbb, zbc, zbd, zbe, zbf, zbg, zbh, zbi, zbj, zbk, storeOp, storeCell, overlay, zbl, zbm, zbn, lookupOp, keyT, okRes, mapUpdateOp, zbo, zbp, zbq, zbr, zbs, zbt, zbu, Nat.reduceSub, Nat.reduceAdd, Int.reduceLT, Int.reduceLE, Int.reduceAdd, Int.reduceSub, Int.reduceToNat, Int.reduceBEq, Int.reduceBNe, Int.reduceMul, Nat.reduceBEq, Nat.reduceBNe, Nat.reduceLT, Nat.reduceLeDiff, Nat.reduceMul, Nat.reduceEqDiff, WD, effB, effH, isPriv, isHeap, isImm, zbx, zby, zbz, chkO, setD, dslot, zca, zcb, zcc, zcd, ptrCells_some, F7, hy.sx.rd.shutIn]
              have hS := hkeep (writes a.f a.v) _ hf
              have hVk' := hVk (writes a.f a.v)
              have hfs' := hfs (writes a.f a.v)
              have hCx : ∀ w ∈ upd (writes a.f a.v) all all.length, w.ok = true → ∀ y ∈ w.l, ¬ (y.1 = a.f ∧ y.2 ≠ a.v) := (fun w hw ho y hy hc => by
                obtain ⟨j, hj⟩ := List.getElem?_of_mem hw
                obtain ⟨u, hu, _, e2, e3⟩ := upd_get hj
                have := (e3 ho).2
                unfold writes at this
                rw [List.any_eq_false] at this
                have := this y (by rw [e2]; exact hy)
                simp [hc.1, hc.2] at this)
              generalize upd (writes a.f a.v) all all.length = U at I2 hS hVk' hfs' hlu hCx
              rw [← hfs', ← hlu]
              refine loop26 (x := x) (i := i) (a := a) (cnt := cnt) (all := U) (V1 := all.map (·.ok)) (tl := []) (fun H => ⟨_, hx H⟩) ?_ rfl rfl I2 hS (by simp [hlu]) hVk' (fun _ => hCx) (by omega) ?_
              · simp only [WN, firstReg, growAll, zbv, zbw, norm, killS, zag, zah, zaa, zab, zbl, zat, zad, growOne, zae, zaf, zac, zas, zak, Nat.reduceLT, Nat.reduceAdd, zbj, zav, F7, L7_26, hcx, hV.rd.clip2, hcia, (a.h.rd []).clip, List.length_cons, List.length_nil]
                try rfl
              · intro H5 vv5 I5 hV5
                simp only [X7_26, L7_26]
                simp only [WW, partV, eqCells, eqLf, minV, maxV, ifcV, zaa, zab, zac, zad, zae, zaf, zag, zah, zai, ofConst, ofConst1, List.replicate, zaj, zak, loadOp, Go.Abs.loadCells, binV, zal, pickV, zam, zan, zao, zap, zaq, zar, zas, zat, zau, outR, resAll, resOne, zav, zaw, zax, zay, zaz, zba, zbb, zbc, zbd, zbe, zbf, zbg, zbh, zbi, zbj, zbk, storeOp, storeCell, overlay, zbl, zbm, zbn, lookupOp, keyT, okRes, mapUpdateOp, zbo, zbp, zbq, zbr, zbs, zbt, zbu, Nat.reduceSub, Nat.reduceAdd, Int.reduceLT, Int.reduceLE, Int.reduceAdd, Int.reduceSub, Int.reduceToNat, Int.reduceBEq, Int.reduceBNe, Int.reduceMul, Nat.reduceBEq, Nat.reduceBNe, Nat.reduceLT, Nat.reduceLeDiff, Nat.reduceMul, Nat.reduceEqDiff, WD, effB, effH, isPriv, isHeap, isImm, zbx, zby, zbz, chkO, setD, dslot, zca, zcb, zcc, zcd, ptrCells_some, F7]
                refine loop41 (x := x) (i := i) (a := a) (cnt := cnt) (all := U) (tl := []) (vv := vv5) (fun H => ⟨_, hx H⟩) ⟨_, hV5.rd⟩ ?_ rfl rfl I5 ?_
                · simp only [WN, firstReg, growAll, zbv, zbw, norm, killS, zag, zah, zaa, zab, zbl, zat, zad, growOne, zae, zaf, zac, zas, zak, Nat.reduceLT, Nat.reduceAdd, zbj, zav, F7, L7_41, hcx, hV5.rd.clip2, hcia, hcA, hcN, List.length_cons, List.length_nil]
                  try rfl
                · simp only [X7_41, L7_41]
                  simp only [WW, partV, eqCells, eqLf, minV, maxV, ifcV, zaa, zab, zac, zad, zae, zaf, zag, zah, zai, ofConst, ofConst1, List.replicate, zaj, zak, loadOp, Go.Abs.loadCells, binV, zal, pickV, zam, zan, zao, zap, zaq, zar, zas, zat, zau, outR, resAll, resOne, zav, zaw, zax, zay, zaz, zba, zbb, zbc, zbd, zbe, zbf, zbg, zbh, zbi, zbj, zbk, storeOp, storeCell, overlay, zbl, zbm, zbn, lookupOp, keyT, okRes, mapUpdateOp, zbo, zbp, zbq, zbr, zbs, zbt, zbu, Nat.reduceSub, Nat.reduceAdd, Int.reduceLT, Int.reduceLE, Int.reduceAdd, Int.reduceSub, Int.reduceToNat, Int.reduceBEq, Int.reduceBNe, Int.reduceMul, Nat.reduceBEq, Nat.reduceBNe, Nat.reduceLT, Nat.reduceLeDiff, Nat.reduceMul, Nat.reduceEqDiff, WD, effB, effH, isPriv, isHeap, isImm, zbx, zby, zbz, chkO, setD, dslot, zca, zcb, zcc, zcd, ptrCells_some, F7, hqi]
                  refine ⟨l.length - (i + 1), by omega, i + 1, cnt, U, vv5, ?_, I5, hV5, (by omega), by omega, rfl⟩
                  simp only [WN, firstReg, growAll, zbv, zbw, norm, killS, zag, zah, zaa, zab, zbl, zat, zad, growOne, zae, zaf, zac, zas, zak, Nat.reduceLT, Nat.reduceAdd, zbj, zav, F7, hcx, hV5.rd.clip2, hqi]
                  try rfl
          | false =>
            have hd1 : ¬ a.d = 1 := by simpa using h1
            cases h2 : (a.d == 2) with
            | true =>
              simp only [WW, partV, eqCells, eqLf, minV, maxV, ifcV, zaa, zab, zac, zad, zae, zaf, zag, zah, zai, ofConst, ofConst1, List.replicate, zaj, zak, loadOp, Go.Abs.loadCells, binV, zal, pickV, zam, zan, zao, zap, zaq, zar, zas, zat, zau, outR, resAll, resOne, zav, zaw, zax, zay, zaz, zba, zbb, zbc, zbd, zbe, zbf, zbg, zbh, zbi, zbj, zbk, storeOp, storeCell, overlay, zbl, zbm, zbn, lookupOp, keyT, okRes, mapUpdateOp, zbo, zbp, zbq, zbr, zbs, zbt, zbu, Nat.reduceSub, Nat.reduceAdd, Int.reduceLT, Int.reduceLE, Int.reduceAdd, Int.reduceSub, Int.reduceToNat, Int.reduceBEq, Int.reduceBNe, Int.reduceMul, Nat.reduceBEq, Nat.reduceBNe, Nat.reduceLT, Nat.reduceLeDiff, Nat.reduceMul, Nat.reduceEqDiff, WD, effB, effH, isPriv, isHeap, isImm, zbx, zby, zbz, chkO, setD, dslot, zca, zcb, zcc, zcd, ptrCells_some, F7, h1, h2, (ha H').shutIn]
              refine wpCall_of (drop_eq I.reg a.f) ?_
              rintro out H2 hp
              split at hp
              · rename_i hbad
                obtain ⟨rfl, rfl⟩ := hp
                simp only [WW, partV, eqCells, eqLf, minV, maxV, ifcV, zaa, zab, zac, zad, zae, zaf, zag, zah, zai, ofConst, ofConst1, List.replicate, zaj, zak, loadOp, Go.Abs.loadCells, binV, zal, pickV, zam, zan, zao, zap, zaq, zar, zas, zat, zau, outR, resAll, resOne, zav, zaw, zax, zay, zaz, zba, zbb, zbc, zbd, zbe, zbf, zbg, zbh, zbi, zbj, zbk, storeOp, storeCell, overlay, zbl, zbm, zbn, lookupOp, keyT, okRes, mapUpdateOp, zbo, zbp, zbq, zbr, zbs, zbt, zbu, Nat.reduceSub, Nat.reduceAdd, Int.reduceLT, Int.reduceLE, Int.reduceAdd, Int.reduceSub, Int.reduceToNat, Int.reduceBEq, Int.reduceBNe, Int.reduceMul, Nat.reduceBEq, Nat.reduceBNe, Nat.reduceLT, Nat.reduceLeDiff, Nat.reduceMul, Nat.reduceEqDiff, WD, effB, effH, isPriv, isHeap, isImm, zbx, zby, zbz, chkO, setD, dslot, zca, zcb, zcc, zcd, ptrCells_some, F7]
                refine loop26 (x := x) (i := i) (a := a) (cnt := cnt) (all := all) (V1 := all.map (·.ok)) (tl := []) (fun H => ⟨_, hx H⟩) ?_ rfl rfl I hV (by simp) (fun j w h ho => by rw [List.getElem?_map, h]; simp [ho]) (fun e => absurd e hd1) (by omega) ?_
                · simp only [WN, firstReg, growAll, zbv, zbw, norm, killS, zag, zah, zaa, zab, zbl, zat, zad, growOne, zae, zaf, zac, zas, zak, Nat.reduceLT, Nat.reduceAdd, zbj, zav, F7, L7_26, hcx, hV.rd.clip2, hcia, (a.h.rd []).clip, List.length_cons, List.length_nil]
                  try rfl
                · intro H5 vv5 I5 hV5
                  simp only [X7_26, L7_26]
                  simp only [WW, partV, eqCells, eqLf, minV, maxV, ifcV, zaa, zab, zac, zad, zae, zaf, zag, zah, zai, ofConst, ofConst1, List.replicate, zaj, zak, loadOp, Go.Abs.loadCells, binV, zal, pickV, zam, zan, zao, zap, zaq, zar, zas, zat, zau, outR, resAll, resOne, zav, zaw, zax, zay, zaz, zba, zbb, zbc, zbd, zbe, zbf, zbg, zbh, zbi, zbj, zbk, storeOp, storeCell, overlay, zbl, zbm, zbn, lookupOp, keyT, okRes, mapUpdateOp, zbo, zbp, zbq, zbr, zbs, zbt, zbu, Nat.reduceSub, Nat.reduceAdd, Int.reduceLT, Int.reduceLE, Int.reduceAdd, Int.reduceSub, Int.reduceToNat, Int.reduceBEq, Int.reduceBNe, Int.reduceMul, Nat.reduceBEq, Nat.reduceBNe, Nat.reduceLT, Nat.reduceLeDiff, Nat.reduceMul, Nat.reduceEqDiff, WD, effB, effH, isPriv, isHeap, isImm, zbx, zby, zbz, chkO, setD, dslot, zca, zcb, zcc, zcd, ptrCells_some, F7]
                  refine loop41 (x := x) (i := i) (a := a) (cnt := cnt) (all := all) (tl := []) (vv := vv5) (fun H => ⟨_, hx H⟩) ⟨_, hV5.rd⟩ ?_ rfl rfl I5 ?_
                  · simp only [WN, firstReg, growAll, zbv, zbw, norm, killS, zag, zah, zaa, zab, zbl, zat, zad, growOne, zae, zaf, zac, zas, zak, Nat.reduceLT, Nat.reduceAdd, zbj, zav, F7, L7_41, hcx, hV5.rd.clip2, hcia, hcA, hcN, List.length_cons, List.length_nil]
                    try rfl
                  · simp only [X7_41, L7_41]
                    simp only [WW, partV, eqCells, eqLf, minV, maxV, ifcV, zaa, zab, zac, zad, zae, zaf, zag, zah, zai, ofConst, ofConst1, List.replicate, zaj, zak, loadOp, Go.Abs.loadCells, binV, zal, pickV, zam, zan, zao, zap, zaq, zar, zas, zat, zau, outR, resAll, resOne, zav, zaw, zax, zay, zaz, zba, zbb, zbc, zbd, zbe, zbf, zbg, zbh, zbi, zbj, zbk, storeOp, storeCell, overlay, zbl, zbm, zbn, lookupOp, keyT, okRes, mapUpdateOp, zbo, zbp, zbq, zbr, zbs, zbt, zbu, Nat.reduceSub, Nat.reduceAdd, Int.reduceLT, Int.reduceLE, Int.reduceAdd, Int.reduceSub, Int.reduceToNat, Int.reduceBEq, Int.reduceBNe, Int.reduceMul, Nat.reduceBEq, Nat.reduceBNe, Nat.reduceLT, Nat.reduceLeDiff, Nat.reduceMul, Nat.reduceEqDiff, WD, effB, effH, isPriv, isHeap, isImm, zbx, zby, zbz, chkO, setD, dslot, zca, zcb, zcc, zcd, ptrCells_some, F7, hqi]
                    refine ⟨l.length - (i + 1), by omega, i + 1, cnt, all, vv5, ?_, I5, hV5, (by omega), by omega, rfl⟩
                    simp only [WN, firstReg, growAll, zbv, zbw, norm, killS, zag, zah, zaa, zab, zbl, zat, zad, growOne, zae, zaf, zac, zas, zak, Nat.reduceLT, Nat.reduceAdd, zbj, zav, F7, hcx, hV5.rd.clip2, hqi]
                    try rfl
              · rename_i hgood
                obtain ⟨rfl, R2, hf⟩ := hp
                have I2 := I.upd _ R2
                have hlu := upd_length (drops a.f) all all.length
                simp only [WW, partV, eqCells, eqLf, minV, maxV, ifcV, zaa, zab, zac, zad, zae, zaf, zag, zah, zai, ofConst, ofConst1, List.replicate, zaj, zak, loadOp, Go.Abs.loadCells, binV, zal, pickV, zam, zan, zao, zap, zaq, zar, zas, zat, zau, outR, resAll, resOne, zav, zaw, zax, zay, zaz, zba, zbb, zbc, zbd, zbe, zbf, zbg, zbh, zbi, zbj, zbk, storeOp, storeCell, overlay, zbl, zbm, zbn, lookupOp, keyT, okRes, mapUpdateOp, zbo, zbp, zbq, zbr, zbs, zbt, zbu, Nat.reduceSub, Nat.reduceAdd, Int.reduceLT, Int.reduceLE, Int.reduceAdd, Int.reduceSub, Int.reduceToNat, Int.reduceBEq, Int.reduceBNe, Int.reduceMul, Nat.reduceBEq, Nat.reduceBNe, Nat.reduceLT, Nat.reduceLeDiff, Nat.reduceMul, Nat.reduceEqDiff, WD, effB, effH, isPriv, isHeap, isImm, zbx, zby, zbz, chkO, setD, dslot, zca, zcb, zcc, zcd, ptrCells_some, F7]
                have hS := hkeep (drops a.f) _ hf
                have hVk' := hVk (drops a.f)
                have hfs' := hfs (drops a.f)
                generalize upd (drops a.f) all all.length = U at I2 hS hVk' hfs' hlu
                rw [← hfs', ← hlu]
                refine loop26 (x := x) (i := i) (a := a) (cnt := cnt) (all := U) (V1 := all.map (·.ok)) (tl := []) (fun H => ⟨_, hx H⟩) ?_ rfl rfl I2 hS (by simp [hlu]) hVk' (fun e => absurd e hd1) (by omega) ?_
                · simp only [WN, firstReg, growAll, zbv, zbw, norm, killS, zag, zah, zaa, zab, zbl, zat, zad, growOne, zae, zaf, zac, zas, zak, Nat.reduceLT, Nat.reduceAdd, zbj, zav, F7, L7_26, hcx, hV.rd.clip2, hcia, (a.h.rd []).clip, List.length_cons, List.length_nil]
                  try rfl
                · intro H5 vv5 I5 hV5
                  simp only [X7_26, L7_26]
                  simp only [WW, partV, eqCells, eqLf, minV, maxV, ifcV, zaa, zab, zac, zad, zae, zaf, zag, zah, zai, ofConst, ofConst1, List.replicate, zaj, zak, loadOp, Go.Abs.loadCells, binV, zal, pickV, zam, zan, zao, zap, zaq, zar, zas, zat, zau, outR, resAll, resOne, zav, zaw, zax, zay, zaz, zba, zbb, zbc, zbd, zbe, zbf, zbg, zbh, zbi, zbj, zbk, storeOp, storeCell, overlay, zbl, zbm, zbn, lookupOp, keyT, okRes, mapUpdateOp, zbo, zbp, zbq, zbr, zbs, zbt, zbu, Nat.reduceSub, Nat.reduceAdd, Int.reduceLT, Int.reduceLE, Int.reduceAdd, Int.reduceSub, Int.reduceToNat, Int.reduceBEq, Int.reduceBNe, Int.reduceMul, Nat.reduceBEq, Nat.reduceBNe, Nat.reduceLT, Nat.reduceLeDiff, Nat.reduceMul, Nat.reduceEqDiff, WD, effB, effH, isPriv, isHeap, isImm, zbx, zby, zbz, chkO, setD, dslot, zca, zcb, zcc, zcd, ptrCells_some, F7]
                  refine loop41 (x := x) (i := i) (a := a) (cnt := cnt) (all := U) (tl := []) (vv := vv5) (fun H => ⟨_, hx H⟩) ⟨_, hV5.rd⟩ ?_ rfl rfl I5 ?_
                  · simp only [WN, firstReg, growAll, zbv, zbw, norm, killS, zag, zah, zaa, zab, zbl, zat, zad, growOne, zae, zaf, zac, zas, zak, Nat.reduceLT, Nat.reduceAdd, zbj, zav, F7, L7_41, hcx, hV5.rd.clip2, hcia, hcA, hcN, List.length_cons, List.length_nil]
                    try rfl
                  · simp only [X7_41, L7_41]
                    simp only [WW, partV, eqCells, eqLf, minV, maxV, ifcV, zaa, zab, zac, zad, zae, zaf, zag, zah, zai, ofConst, ofConst1, List.replicate, zaj, zak, loadOp, Go.Abs.loadCells, binV, zal, pickV, zam, zan, zao, zap, zaq, zar, zas, zat, zau, outR, resAll, resOne, zav, zaw, zax, zay, zaz, zba, zbb, zbc, zbd, zbe, zbf, zbg, zbh, zbi, zbj, zbk, storeOp, storeCell, overlay, zbl, zbm, zbn, lookupOp, keyT, okRes, mapUpdateOp, zbo, zbp, zbq, zbr, zbs, zbt, zbu, Nat.reduceSub, Nat.reduceAdd, Int.reduceLT, Int.reduceLE, Int.reduceAdd, Int.reduceSub, Int.reduceToNat, Int.reduceBEq, Int.reduceBNe, Int.reduceMul, Nat.reduceBEq, Nat.reduceBNe, Nat.reduceLT, Nat.reduceLeDiff, Nat.reduceMul, Nat.reduceEqDiff, WD, effB, effH, isPriv, isHeap, isImm, zbx, zby, zbz, chkO, setD, dslot, zca, zcb, zcc, zcd, ptrCells_some, F7, hqi]
                    refine ⟨l.length - (i + 1), by omega, i + 1, cnt, U, vv5, ?_, I5, hV5, (by omega), by omega, rfl⟩
                    simp only [WN, firstReg, growAll, zbv, zbw, norm, killS, zag, zah, zaa, zab, zbl, zat, zad, growOne, zae, zaf, zac, zas, zak, Nat.reduceLT, Nat.reduceAdd, zbj, zav, F7, hcx, hV5.rd.clip2, hqi]
                    try rfl
            | false =>
              simp only [WW, partV, eqCells, eqLf, minV, maxV, ifcV, zaa, zab, zac, zad, zae, zaf, zag, zah, zai, ofConst, ofConst1, List.replicate, zaj, zak, loadOp, Go.Abs.loadCells, binV, zal, pickV, zam, zan, zao, zap, zaq, zar, zas, zat, zau, outR, resAll, resOne, zav, zaw, zax, zay, zaz, zba, zbb, zbc, zbd, zbe, zbf, zbg, zbh, zbi, zbj, zbk, storeOp, storeCell, overlay, zbl, zbm, zbn, lookupOp, keyT, okRes, mapUpdateOp, zbo, zbp, zbq, zbr, zbs, zbt, zbu, Nat.reduceSub, Nat.reduceAdd, Int.reduceLT, Int.reduceLE, Int.reduceAdd, Int.reduceSub, Int.reduceToNat, Int.reduceBEq, Int.reduceBNe, Int.reduceMul, Nat.reduceBEq, Nat.reduceBNe, Nat.reduceLT, Nat.reduceLeDiff, Nat.reduceMul, Nat.reduceEqDiff, WD, effB, effH, isPriv, isHeap, isImm, zbx, zby, zbz, chkO, setD, dslot, zca, zcb, zcc, zcd, ptrCells_some, F7, h1, h2, (ha H').shutIn]
              refine loop26 (x := x) (i := i) (a := a) (cnt := cnt) (all := all) (V1 := all.map (·.ok)) (tl := []) (fun H => ⟨_, hx H⟩) ?_ rfl rfl I hV (by simp) (fun j w h ho => by rw [List.getElem?_map, h]; simp [ho]) (fun e => absurd e hd1) (by omega) ?_
              · simp only [WN, firstReg, growAll, zbv, zbw, norm, killS, zag, zah, zaa, zab, zbl, zat, zad, growOne, zae, zaf, zac, zas, zak, Nat.reduceLT, Nat.reduceAdd, zbj, zav, F7, L7_26, hcx, hV.rd.clip2, hcia, (a.h.rd []).clip, List.length_cons, List.length_nil]
                try rfl
              · intro H5 vv5 I5 hV5
                simp only [X7_26, L7_26]
                simp only [WW, partV, eqCells, eqLf, minV, maxV, ifcV, zaa, zab, zac, zad, zae, zaf, zag, zah, zai, ofConst, ofConst1, List.replicate, zaj, zak, loadOp, Go.Abs.loadCells, binV, zal, pickV, zam, zan, zao, zap, zaq, zar, zas, zat, zau, outR, resAll, resOne, zav, zaw, zax, zay, zaz, zba, zbb, zbc, zbd, zbe, zbf, zbg, zbh, zbi, zbj, zbk, storeOp, storeCell, overlay, zbl, zbm, zbn, lookupOp, keyT, okRes, mapUpdateOp, zbo, zbp, zbq, zbr, zbs, zbt, zbu, Nat.reduceSub, Nat.reduceAdd, Int.reduceLT, Int.reduceLE, Int.reduceAdd, Int.reduceSub, Int.reduceToNat, Int.reduceBEq, Int.reduceBNe, Int.reduceMul, Nat.reduceBEq, Nat.reduceBNe, Nat.reduceLT, Nat.reduceLeDiff, Nat.reduceMul, Nat.reduceEqDiff, WD, effB, effH, isPriv, isHeap, isImm, zbx, zby, zbz, chkO, setD, dslot, zca, zcb, zcc, zcd, ptrCells_some, F7]
                refine loop41 (x := x) (i := i) (a := a) (cnt := cnt) (all := all) (tl := []) (vv := vv5) (fun H => ⟨_, hx H⟩) ⟨_, hV5.rd⟩ ?_ rfl rfl I5 ?_
                · simp only [WN, firstReg, growAll, zbv, zbw, norm, killS, zag, zah, zaa, zab, zbl, zat, zad, growOne, zae, zaf, zac, zas, zak, Nat.reduceLT, Nat.reduceAdd, zbj, zav, F7, L7_41, hcx, hV5.rd.clip2, hcia, hcA, hcN, List.length_cons, List.length_nil]
                  try rfl
                · simp only [X7_41, L7_41]
                  simp only [WW, partV, eqCells, eqLf, minV, maxV, ifcV, zaa, zab, zac, zad, zae, zaf, zag, zah, zai, ofConst, ofConst1, List.replicate, zaj, zak, loadOp, Go.Abs.loadCells, binV, zal, pickV, zam, zan, zao, zap, zaq, zar, zas, zat, zau, outR, resAll, resOne, zav, zaw, zax, zay, zaz, zba, zbb, zbc, zbd, zbe, zbf, zbg, zbh, zbi, zbj, zbk, storeOp, storeCell, overlay, zbl, zbm, zbn, lookupOp, keyT, okRes, mapUpdateOp, zbo, zbp, zbq, zbr, zbs, zbt, zbu, Nat.reduceSub, Nat.reduceAdd, Int.reduceLT, Int.reduceLE, Int.reduceAdd, Int.reduceSub, Int.reduceToNat, Int.reduceBEq, Int.reduceBNe, Int.reduceMul, Nat.reduceBEq, Nat.reduceBNe, Nat.reduceLT, Nat.reduceLeDiff, Nat.reduceMul, Nat.reduceEqDiff, WD, effB, effH, isPriv, isHeap, isImm, zbx, zby, zbz, chkO, setD, dslot, zca, zcb, zcc, zcd, ptrCells_some, F7, hqi]
                  refine ⟨l.length - (i + 1), by omega, i + 1, cnt, all, vv5, ?_, I5, hV5, (by omega), by omega, rfl⟩
                  simp only [WN, firstReg, growAll, zbv, zbw, norm, killS, zag, zah, zaa, zab, zbl, zat, zad, growOne, zae, zaf, zac, zas, zak, Nat.reduceLT, Nat.reduceAdd, zbj, zav, F7, hcx, hV5.rd.clip2, hqi]
                  try rfl
theorem depsTrue_main {v0 : List V} (h0 : Tv Try.prog 8 42 v0) : wpCall (evW Try.prog notes) 7 [mkV (isAggT Try.prog 42) v0] [] (fun out H' => out = .ret (.bool true) false) := by
  obtain ⟨x, l, rfl, hx, _⟩ := open_acts h0
  rw [ag42]
  exact depsTrue_eq x l hx
end Go.Proofs.Ytfjbgmcdkhepkaa
