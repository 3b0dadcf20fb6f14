/- A part of the proofs over this seat. -/
import Derived.Test.YteenpfdpokekgaaQM1
/- The reader of scripts: a line. -/
namespace Go.Proofs.Yteenpfdpokekgaa
open Go Go.Abs Go.Proofs
set_option maxRecDepth 100000
set_option maxHeartbeats 8000000
set_option linter.unusedVariables false
set_option linter.unusedSimpArgs false
def oneP (B : List UInt8) (ne nd at_ : Nat) : (Nat × Int) × List Ent × List Int :=
  let p1 := numM B 0 2305843009213693951 (moreM B ne at_ (wantM B [112, 105, 99, 107] (at_, 0)))
  let p2 := numM B 1 64 (wantM B [32] p1.2)
  (wantM B [10] p2.2, [⟨1, p1.1, p2.1, 0, 0, 0⟩], [])
def oneE (B : List UInt8) (ne nd at_ : Nat) : (Nat × Int) × List Ent × List Int :=
  let p1 := numM B 0 1023 (moreM B ne at_ (wantM B [101, 114] (wantM B [116, 105] (at_, 0))))
  let p2 := numM B 0 1 (wantM B [32] p1.2)
  let p3 := numM B 0 1 (wantM B [32] p2.2)
  let p4 := numM B 0 4 (wantM B [32] p3.2)
  (wantM B [10] p4.2, [⟨3, p1.1, 0, p2.1, p3.1, p4.1⟩], [])
def oneK (B : List UInt8) (ne nd at_ : Nat) : (Nat × Int) × List Ent × List Int :=
  let p1 := numM B 0 1048576 (moreM B ne at_ (wantM B [99, 107] (wantM B [116, 105] (at_, 0))))
  (wantM B [10] p1.2, [⟨2, p1.1, 0, 0, 0, 0⟩], [])
def oneT (B : List UInt8) (ne nd at_ : Nat) : (Nat × Int) × List Ent × List Int :=
  (wantM B [10] (wantM B [116, 105] (at_, 0)), [], [])
def oneD (B : List UInt8) (ne nd at_ : Nat) : (Nat × Int) × List Ent × List Int :=
  let p1 := numM B (-2305843009213693952) 2305843009213693951 (moreM B nd at_ (wantM B [100, 114, 97, 119] (at_, 0)))
  (wantM B [10] p1.2, [], [p1.1])
def OneR (G : Hp) (r q : Nat) (x : V) (B : List UInt8) (E : List Ent) (D : List Int) (z : (Nat × Int) × List Ent × List Int) (H' : Hp) : Prop :=
  ∃ xe' xd' E' D', QS G H' r q x B z.1 xe' xd' E' D' ∧ (z.1.2 = 0 → E' = E ++ z.2.1 ∧ D' = D ++ z.2.2)
theorem bx_drop {x : V} {a i : Nat} (h : bx (dropV x a) = some i) : bx x = some i := by
  cases x with
  | sl id lo len =>
    simp only [dropV] at h
    split at h
    · exact h
    · split at h
      · cases h
      · exact h
  | _ => first | exact h | cases h
theorem u8eq101 (b : UInt8) : (((b.toNat : Nat) : Int) == 101) = (b == 101) := u8eq b 101 (by omega)
theorem get_last (H : Hp) (b : Blk) : (H ++ [b])[H.length]? = some b := by rw [List.getElem?_append_right (Nat.le_refl _), Nat.sub_self]; rfl
theorem ent_tag (k a b f g i : Int) : V.agg [.int .i64 k, .int .i64 a, .int .i64 b, .int .i64 f, .int .i64 g, .int .i64 i] = entV ⟨k, a, b, f, g, i⟩ := rfl
theorem list_tag (l : List UInt8) : Sx [.cells (by8 l)] (.sl 0 0 l.length) (by8 l) := by
  have := Sx.whole (H := [.cells (by8 l)]) (id := 0) (es := by8 l) rfl
  rwa [by8_len] at this
theorem one_P {G H : Hp} {r q : Nat} {x : V} {B : List UInt8} {a : Nat} {xe xd : V} {E : List Ent} {D : List Int} (h : QS G H r q x B (a, 0) xe xd E D) (hB : B.length < 4294967296) (hEl : E.length < 4294967296) (hDl : D.length < 4294967296) (ht0 : preB (B.drop a) [112] = true)  :
    wpCall EW 17 [.ptr r 0 0, .ptr q 0 0] H (fun out H' => out = .ret (.tup []) false ∧ OneR G r q x B E D (oneP B E.length D.length a) H') := by
  have hb1 : H[r]? = some (.cells [.agg [x, .int .i64 (a : Int), .int .i64 0]]) := h.rs.blk
  have hx := h.rs.txt.rd
  have hle : a ≤ B.length := h.rs.le
  have hsl : ∀ st, sliceOp Try.prog st H 22 x (some (.int .i64 (a : Nat))) none none = some (dropV x a) := fun st => (slice_lo (P := Try.prog) (st := st) (t := 22) (e := 5) (by kernel_rfl) (by kernel_rfl) h.rs.txt h.wd hle).1
  have hy := (slice_lo (P := Try.prog) (st := ⟨[], [], []⟩) (t := 22) (e := 5) (by kernel_rfl) (by kernel_rfl) h.rs.txt h.wd hle).2
  have hyx : ∀ i, bx (dropV x a) = some i → bx x = some i := fun i hi => bx_drop hi
  have hpre0 : EW 26 [dropV x a, .sl (H).length 0 1] (H ++ [Blk.cells [.int .u8 112]]) = some (.ret (.bool true) false, (H ++ [Blk.cells [.int .u8 112]])) := by
    have hyS : Sx (H ++ [Blk.cells [.int .u8 112]]) (dropV x a) (by8 (B.drop a)) := (hy.1.app _)
    have hyW : Wd (H ++ [Blk.cells [.int .u8 112]]) (dropV x a) := by
      intro id lo len es e1 e2
      have hlt := h.xl id (hyx id (by rw [e1]; rfl))
      refine hy.2 id lo len es e1 ?_
      rw [← e2]
      skip
      rw [List.getElem?_append_left hlt]
    have hz : Rd (H ++ [Blk.cells [.int .u8 112]]) (.sl (H).length 0 1) (by8 [112]) := Rd.whole (es := by8 [112]) (by rw [List.getElem?_append_right (Nat.le_refl _), Nat.sub_self]; rfl)
    have := prefix_eq hyS hyW hz
    rwa [ht0] at this
  have qA := (h.app [Blk.cells [.int .u8 112]])
  have c1 := want_eq qA.rs [112, 105, 99, 107] hB (by simp)
  have q1 := qA.toR (wantM_le (w := [112, 105, 99, 107]) qA.rs.le)
  obtain ⟨s1, hs1⟩ : ∃ s, s = wantM B [112, 105, 99, 107] (a, 0) := ⟨_, rfl⟩
  rw [← hs1] at c1 q1
  have c2 := more_eq q1.rs (E.length : Int) a hB
  have q2 := q1.toR (moreM_le (n := (E.length : Int)) (fr := a) q1.rs.le hle)
  rw [List.set_set] at c2 q2
  obtain ⟨s2, hs2⟩ : ∃ s, s = moreM B (E.length : Int) a s1 := ⟨_, rfl⟩
  rw [← hs2] at c2 q2
  have c3 := number_eq q2.rs (0) 2305843009213693951 hB (by omega) (by omega)
  have q3 := q2.toR (numM_le (low := (0)) (high := 2305843009213693951) (s := s2) q2.rs.le)
  rw [List.set_set] at c3 q3
  obtain ⟨⟨v3, s3⟩, hs3⟩ : ∃ s, s = numM B (0) 2305843009213693951 s2 := ⟨_, rfl⟩
  rw [← hs3] at c3 q3
  simp only at c3 q3
  have c4 := next_eq q3.rs (1) 64 hB (by omega) (by omega)
  have q4 := q3.toR (numM_le (low := (1)) (high := 64) (s := wantM B [32] s3) (wantM_le (w := [32]) q3.rs.le))
  rw [List.set_set] at c4 q4
  obtain ⟨⟨v4, s4⟩, hs4⟩ : ∃ s, s = numM B (1) 64 (wantM B [32] s3) := ⟨_, rfl⟩
  rw [← hs4] at c4 q4
  simp only at c4 q4
  have c5 := want_eq q4.rs [10] hB (by simp)
  have q5 := q4.toR (wantM_le (w := [10]) q4.rs.le)
  rw [List.set_set] at c5 q5
  obtain ⟨s5, hs5⟩ : ∃ s, s = wantM B [10] s4 := ⟨_, rfl⟩
  rw [← hs5] at c5 q5
  obtain ⟨a5, e5⟩ := s5
  have hbe : ((H ++ [Blk.cells [.int .u8 112]]).set r (rb x (a5, e5)))[r]? = some (.cells [.agg [x, .int .i64 (a5 : Int), .int .i64 e5]]) := q5.rs.blk
  have hqe := q5.sb
  have hone : oneP B E.length D.length a = ((a5, e5), [⟨1, v3, v4, 0, 0, 0⟩], []) := by
    unfold oneP
    simp only [← hs1, ← hs2, ← hs3, ← hs4, ← hs5]
  rw [hone]
  by_cases he : e5 = 0
  · subst he
    obtain ⟨xe', H2, hap, hq2, hs2, Q2⟩ := q5.entry ⟨1, v3, v4, 0, 0, 0⟩ hEl
    simp only [entV] at hap
    refine runs f17 b17 r17 n17 _ _ ?_
    simp only [bodyOf, Try.f17, Option.getD_some]
    simp only [WW, partV, eqCells, eqLf, minV, maxV, ifcV, zaa, zab, zac, zad, zae, zaf, zag, zah, zai, ofConst, ofConst1, List.replicate, zaj, zak, loadOp, Go.Abs.loadCells, binV, zal, pickV, zam, zan, zao, zap, zaq, zar, zas, zat, zau, outR, resAll, resOne, zav, zaw, zax, zay, zaz, zba, zbb, zbc, zbd, zbe, zbf, zbg, zbh, zbi, zbj, zbk, storeOp, storeCell, overlay, zbl, zbm, zbn, lookupOp, keyT, okRes, mapUpdateOp, zbo, zbp, zbq, zbr, zbs, zbt, zbu, Nat.reduceSub, Nat.reduceAdd, Int.reduceLT, Int.reduceLE, Int.reduceAdd, Int.reduceSub, Int.reduceToNat, Int.reduceBEq, Int.reduceBNe, Int.reduceMul, Nat.reduceBEq, Nat.reduceBNe, Nat.reduceLT, Nat.reduceLeDiff, Nat.reduceMul, Nat.reduceEqDiff, WD, effB, effH, isPriv, isHeap, isImm, zbx, zby, zbz, chkO, setD, dslot, zca, zcb, zcc, zcd, ptrCells_some, F17, hb1]
    refine wC_dr [] (by kernel_rfl) ?_
    simp only [WW, partV, eqCells, eqLf, minV, maxV, ifcV, zaa, zab, zac, zad, zae, zaf, zag, zah, zai, ofConst, ofConst1, List.replicate, zaj, zak, loadOp, Go.Abs.loadCells, binV, zal, pickV, zam, zan, zao, zap, zaq, zar, zas, zat, zau, outR, resAll, resOne, zav, zaw, zax, zay, zaz, zba, zbb, zbc, zbd, zbe, zbf, zbg, zbh, zbi, zbj, zbk, storeOp, storeCell, overlay, zbl, zbm, zbn, lookupOp, keyT, okRes, mapUpdateOp, zbo, zbp, zbq, zbr, zbs, zbt, zbu, Nat.reduceSub, Nat.reduceAdd, Int.reduceLT, Int.reduceLE, Int.reduceAdd, Int.reduceSub, Int.reduceToNat, Int.reduceBEq, Int.reduceBNe, Int.reduceMul, Nat.reduceBEq, Nat.reduceBNe, Nat.reduceLT, Nat.reduceLeDiff, Nat.reduceMul, Nat.reduceEqDiff, WD, effB, effH, isPriv, isHeap, isImm, zbx, zby, zbz, chkO, setD, dslot, zca, zcb, zcc, zcd, ptrCells_some, F17, hb1, hx.shutIn, hsl, Option.map_none, hy.1.rd.shutIn, buildOp, fillV, Lay.place, Bool.or_self, Bool.or_false, Bool.false_or, decide_not, ne_eq, not_true_eq_false, decide_eq_true_eq, Nat.lt_irrefl, buildSliceV, lits, srcV_eq, srcK_sl, srcK_str, srcSl_nils, srcSl_rsl, srcSl_sl, frow, zbv, zbw, List.all_nil, List.all_cons, rowV, Bool.false_and, Bool.and_false, not_false_eq_true, grows_lr, callOut_t, convertOp, get_last]
    rw [wpCall_eq hpre0]
    simp only [WW, partV, eqCells, eqLf, minV, maxV, ifcV, zaa, zab, zac, zad, zae, zaf, zag, zah, zai, ofConst, ofConst1, List.replicate, zaj, zak, loadOp, Go.Abs.loadCells, binV, zal, pickV, zam, zan, zao, zap, zaq, zar, zas, zat, zau, outR, resAll, resOne, zav, zaw, zax, zay, zaz, zba, zbb, zbc, zbd, zbe, zbf, zbg, zbh, zbi, zbj, zbk, storeOp, storeCell, overlay, zbl, zbm, zbn, lookupOp, keyT, okRes, mapUpdateOp, zbo, zbp, zbq, zbr, zbs, zbt, zbu, Nat.reduceSub, Nat.reduceAdd, Int.reduceLT, Int.reduceLE, Int.reduceAdd, Int.reduceSub, Int.reduceToNat, Int.reduceBEq, Int.reduceBNe, Int.reduceMul, Nat.reduceBEq, Nat.reduceBNe, Nat.reduceLT, Nat.reduceLeDiff, Nat.reduceMul, Nat.reduceEqDiff, WD, effB, effH, isPriv, isHeap, isImm, zbx, zby, zbz, chkO, setD, dslot, zca, zcb, zcc, zcd, ptrCells_some, F17, hy.1.rd.shutIn, buildOp, fillV, Lay.place, Bool.or_self, Bool.or_false, Bool.false_or, decide_not, ne_eq, not_true_eq_false, decide_eq_true_eq, Nat.lt_irrefl, buildSliceV, lits, srcV_eq, srcK_sl, srcK_str, srcSl_nils, srcSl_rsl, srcSl_sl, frow, zbv, zbw, List.all_nil, List.all_cons, rowV, Bool.false_and, Bool.and_false, not_false_eq_true, grows_lr, callOut_t, convertOp, get_last]
    rw [wpCall_eq c1]
    simp only [WW, partV, eqCells, eqLf, minV, maxV, ifcV, zaa, zab, zac, zad, zae, zaf, zag, zah, zai, ofConst, ofConst1, List.replicate, zaj, zak, loadOp, Go.Abs.loadCells, binV, zal, pickV, zam, zan, zao, zap, zaq, zar, zas, zat, zau, outR, resAll, resOne, zav, zaw, zax, zay, zaz, zba, zbb, zbc, zbd, zbe, zbf, zbg, zbh, zbi, zbj, zbk, storeOp, storeCell, overlay, zbl, zbm, zbn, lookupOp, keyT, okRes, mapUpdateOp, zbo, zbp, zbq, zbr, zbs, zbt, zbu, Nat.reduceSub, Nat.reduceAdd, Int.reduceLT, Int.reduceLE, Int.reduceAdd, Int.reduceSub, Int.reduceToNat, Int.reduceBEq, Int.reduceBNe, Int.reduceMul, Nat.reduceBEq, Nat.reduceBNe, Nat.reduceLT, Nat.reduceLeDiff, Nat.reduceMul, Nat.reduceEqDiff, WD, effB, effH, isPriv, isHeap, isImm, zbx, zby, zbz, chkO, setD, dslot, zca, zcb, zcc, zcd, ptrCells_some, F17, q1.sb, q1.se.shut, q1.sd.shut, q1.se.len, q1.sd.len, buildOp, fillV, Lay.place, Bool.or_self, Bool.or_false, Bool.false_or, decide_not, ne_eq, not_true_eq_false, decide_eq_true_eq, Nat.lt_irrefl]
    rw [wpCall_eq c2]
    simp only [WW, partV, eqCells, eqLf, minV, maxV, ifcV, zaa, zab, zac, zad, zae, zaf, zag, zah, zai, ofConst, ofConst1, List.replicate, zaj, zak, loadOp, Go.Abs.loadCells, binV, zal, pickV, zam, zan, zao, zap, zaq, zar, zas, zat, zau, outR, resAll, resOne, zav, zaw, zax, zay, zaz, zba, zbb, zbc, zbd, zbe, zbf, zbg, zbh, zbi, zbj, zbk, storeOp, storeCell, overlay, zbl, zbm, zbn, lookupOp, keyT, okRes, mapUpdateOp, zbo, zbp, zbq, zbr, zbs, zbt, zbu, Nat.reduceSub, Nat.reduceAdd, Int.reduceLT, Int.reduceLE, Int.reduceAdd, Int.reduceSub, Int.reduceToNat, Int.reduceBEq, Int.reduceBNe, Int.reduceMul, Nat.reduceBEq, Nat.reduceBNe, Nat.reduceLT, Nat.reduceLeDiff, Nat.reduceMul, Nat.reduceEqDiff, WD, effB, effH, isPriv, isHeap, isImm, zbx, zby, zbz, chkO, setD, dslot, zca, zcb, zcc, zcd, ptrCells_some, F17, q2.sb, q2.se.shut, q2.sd.shut, q2.se.len, q2.sd.len, buildOp, fillV, Lay.place, Bool.or_self, Bool.or_false, Bool.false_or, decide_not, ne_eq, not_true_eq_false, decide_eq_true_eq, Nat.lt_irrefl]
    rw [wpCall_eq c3]
    simp only [WW, partV, eqCells, eqLf, minV, maxV, ifcV, zaa, zab, zac, zad, zae, zaf, zag, zah, zai, ofConst, ofConst1, List.replicate, zaj, zak, loadOp, Go.Abs.loadCells, binV, zal, pickV, zam, zan, zao, zap, zaq, zar, zas, zat, zau, outR, resAll, resOne, zav, zaw, zax, zay, zaz, zba, zbb, zbc, zbd, zbe, zbf, zbg, zbh, zbi, zbj, zbk, storeOp, storeCell, overlay, zbl, zbm, zbn, lookupOp, keyT, okRes, mapUpdateOp, zbo, zbp, zbq, zbr, zbs, zbt, zbu, Nat.reduceSub, Nat.reduceAdd, Int.reduceLT, Int.reduceLE, Int.reduceAdd, Int.reduceSub, Int.reduceToNat, Int.reduceBEq, Int.reduceBNe, Int.reduceMul, Nat.reduceBEq, Nat.reduceBNe, Nat.reduceLT, Nat.reduceLeDiff, Nat.reduceMul, Nat.reduceEqDiff, WD, effB, effH, isPriv, isHeap, isImm, zbx, zby, zbz, chkO, setD, dslot, zca, zcb, zcc, zcd, ptrCells_some, F17, q3.sb, q3.se.shut, q3.sd.shut, q3.se.len, q3.sd.len, buildOp, fillV, Lay.place, Bool.or_self, Bool.or_false, Bool.false_or, decide_not, ne_eq, not_true_eq_false, decide_eq_true_eq, Nat.lt_irrefl]
    rw [wpCall_eq c4]
    simp only [WW, partV, eqCells, eqLf, minV, maxV, ifcV, zaa, zab, zac, zad, zae, zaf, zag, zah, zai, ofConst, ofConst1, List.replicate, zaj, zak, loadOp, Go.Abs.loadCells, binV, zal, pickV, zam, zan, zao, zap, zaq, zar, zas, zat, zau, outR, resAll, resOne, zav, zaw, zax, zay, zaz, zba, zbb, zbc, zbd, zbe, zbf, zbg, zbh, zbi, zbj, zbk, storeOp, storeCell, overlay, zbl, zbm, zbn, lookupOp, keyT, okRes, mapUpdateOp, zbo, zbp, zbq, zbr, zbs, zbt, zbu, Nat.reduceSub, Nat.reduceAdd, Int.reduceLT, Int.reduceLE, Int.reduceAdd, Int.reduceSub, Int.reduceToNat, Int.reduceBEq, Int.reduceBNe, Int.reduceMul, Nat.reduceBEq, Nat.reduceBNe, Nat.reduceLT, Nat.reduceLeDiff, Nat.reduceMul, Nat.reduceEqDiff, WD, effB, effH, isPriv, isHeap, isImm, zbx, zby, zbz, chkO, setD, dslot, zca, zcb, zcc, zcd, ptrCells_some, F17, q4.sb, q4.se.shut, q4.sd.shut, q4.se.len, q4.sd.len, buildOp, fillV, Lay.place, Bool.or_self, Bool.or_false, Bool.false_or, decide_not, ne_eq, not_true_eq_false, decide_eq_true_eq, Nat.lt_irrefl]
    rw [wpCall_eq c5]
    simp only [WW, partV, eqCells, eqLf, minV, maxV, ifcV, zaa, zab, zac, zad, zae, zaf, zag, zah, zai, ofConst, ofConst1, List.replicate, zaj, zak, loadOp, Go.Abs.loadCells, binV, zal, pickV, zam, zan, zao, zap, zaq, zar, zas, zat, zau, outR, resAll, resOne, zav, zaw, zax, zay, zaz, zba, zbb, zbc, zbd, zbe, zbf, zbg, zbh, zbi, zbj, zbk, storeOp, storeCell, overlay, zbl, zbm, zbn, lookupOp, keyT, okRes, mapUpdateOp, zbo, zbp, zbq, zbr, zbs, zbt, zbu, Nat.reduceSub, Nat.reduceAdd, Int.reduceLT, Int.reduceLE, Int.reduceAdd, Int.reduceSub, Int.reduceToNat, Int.reduceBEq, Int.reduceBNe, Int.reduceMul, Nat.reduceBEq, Nat.reduceBNe, Nat.reduceLT, Nat.reduceLeDiff, Nat.reduceMul, Nat.reduceEqDiff, WD, effB, effH, isPriv, isHeap, isImm, zbx, zby, zbz, chkO, setD, dslot, zca, zcb, zcc, zcd, ptrCells_some, F17, hbe, buildOp, fillV, Lay.place, Bool.or_self, Bool.or_false, Bool.false_or, decide_not, ne_eq, not_true_eq_false, decide_eq_true_eq, Nat.lt_irrefl]
    refine wC_dr alts17_29 (by kernel_rfl) ?_
    simp only [WW, partV, eqCells, eqLf, minV, maxV, ifcV, zaa, zab, zac, zad, zae, zaf, zag, zah, zai, ofConst, ofConst1, List.replicate, zaj, zak, loadOp, Go.Abs.loadCells, binV, zal, pickV, zam, zan, zao, zap, zaq, zar, zas, zat, zau, outR, resAll, resOne, zav, zaw, zax, zay, zaz, zba, zbb, zbc, zbd, zbe, zbf, zbg, zbh, zbi, zbj, zbk, storeOp, storeCell, overlay, zbl, zbm, zbn, lookupOp, keyT, okRes, mapUpdateOp, zbo, zbp, zbq, zbr, zbs, zbt, zbu, Nat.reduceSub, Nat.reduceAdd, Int.reduceLT, Int.reduceLE, Int.reduceAdd, Int.reduceSub, Int.reduceToNat, Int.reduceBEq, Int.reduceBNe, Int.reduceMul, Nat.reduceBEq, Nat.reduceBNe, Nat.reduceLT, Nat.reduceLeDiff, Nat.reduceMul, Nat.reduceEqDiff, WD, effB, effH, isPriv, isHeap, isImm, zbx, zby, zbz, chkO, setD, dslot, zca, zcb, zcc, zcd, ptrCells_some, F17, hbe, hqe, alts17_29, q5.se.shut, q5.sd.shut, buildSliceV, lits, srcV_eq, srcK_sl, srcK_str, srcSl_nils, srcSl_rsl, srcSl_sl, frow, zbv, zbw, List.all_nil, List.all_cons, rowV, Bool.false_and, Bool.and_false, ne_eq, not_false_eq_true, grows_lr, callOut_t, hap, hq2, hs2.shut, hs2.prom, hs2.cells1, hs2.width1, hs2.ok, storeHeap, heapSet, elemSet]
    exact ⟨xe', xd, _, D, Q2, fun _ => ⟨rfl, by simp⟩⟩
  · have he' : (e5 == 0) = false := by simpa using he
    refine runs f17 b17 r17 n17 _ _ ?_
    simp only [bodyOf, Try.f17, Option.getD_some]
    simp only [WW, partV, eqCells, eqLf, minV, maxV, ifcV, zaa, zab, zac, zad, zae, zaf, zag, zah, zai, ofConst, ofConst1, List.replicate, zaj, zak, loadOp, Go.Abs.loadCells, binV, zal, pickV, zam, zan, zao, zap, zaq, zar, zas, zat, zau, outR, resAll, resOne, zav, zaw, zax, zay, zaz, zba, zbb, zbc, zbd, zbe, zbf, zbg, zbh, zbi, zbj, zbk, storeOp, storeCell, overlay, zbl, zbm, zbn, lookupOp, keyT, okRes, mapUpdateOp, zbo, zbp, zbq, zbr, zbs, zbt, zbu, Nat.reduceSub, Nat.reduceAdd, Int.reduceLT, Int.reduceLE, Int.reduceAdd, Int.reduceSub, Int.reduceToNat, Int.reduceBEq, Int.reduceBNe, Int.reduceMul, Nat.reduceBEq, Nat.reduceBNe, Nat.reduceLT, Nat.reduceLeDiff, Nat.reduceMul, Nat.reduceEqDiff, WD, effB, effH, isPriv, isHeap, isImm, zbx, zby, zbz, chkO, setD, dslot, zca, zcb, zcc, zcd, ptrCells_some, F17, hb1]
    refine wC_dr [] (by kernel_rfl) ?_
    simp only [WW, partV, eqCells, eqLf, minV, maxV, ifcV, zaa, zab, zac, zad, zae, zaf, zag, zah, zai, ofConst, ofConst1, List.replicate, zaj, zak, loadOp, Go.Abs.loadCells, binV, zal, pickV, zam, zan, zao, zap, zaq, zar, zas, zat, zau, outR, resAll, resOne, zav, zaw, zax, zay, zaz, zba, zbb, zbc, zbd, zbe, zbf, zbg, zbh, zbi, zbj, zbk, storeOp, storeCell, overlay, zbl, zbm, zbn, lookupOp, keyT, okRes, mapUpdateOp, zbo, zbp, zbq, zbr, zbs, zbt, zbu, Nat.reduceSub, Nat.reduceAdd, Int.reduceLT, Int.reduceLE, Int.reduceAdd, Int.reduceSub, Int.reduceToNat, Int.reduceBEq, Int.reduceBNe, Int.reduceMul, Nat.reduceBEq, Nat.reduceBNe, Nat.reduceLT, Nat.reduceLeDiff, Nat.reduceMul, Nat.reduceEqDiff, WD, effB, effH, isPriv, isHeap, isImm, zbx, zby, zbz, chkO, setD, dslot, zca, zcb, zcc, zcd, ptrCells_some, F17, hb1, hx.shutIn, hsl, Option.map_none, hy.1.rd.shutIn, buildOp, fillV, Lay.place, Bool.or_self, Bool.or_false, Bool.false_or, decide_not, ne_eq, not_true_eq_false, decide_eq_true_eq, Nat.lt_irrefl, buildSliceV, lits, srcV_eq, srcK_sl, srcK_str, srcSl_nils, srcSl_rsl, srcSl_sl, frow, zbv, zbw, List.all_nil, List.all_cons, rowV, Bool.false_and, Bool.and_false, not_false_eq_true, grows_lr, callOut_t, convertOp, get_last]
    rw [wpCall_eq hpre0]
    simp only [WW, partV, eqCells, eqLf, minV, maxV, ifcV, zaa, zab, zac, zad, zae, zaf, zag, zah, zai, ofConst, ofConst1, List.replicate, zaj, zak, loadOp, Go.Abs.loadCells, binV, zal, pickV, zam, zan, zao, zap, zaq, zar, zas, zat, zau, outR, resAll, resOne, zav, zaw, zax, zay, zaz, zba, zbb, zbc, zbd, zbe, zbf, zbg, zbh, zbi, zbj, zbk, storeOp, storeCell, overlay, zbl, zbm, zbn, lookupOp, keyT, okRes, mapUpdateOp, zbo, zbp, zbq, zbr, zbs, zbt, zbu, Nat.reduceSub, Nat.reduceAdd, Int.reduceLT, Int.reduceLE, Int.reduceAdd, Int.reduceSub, Int.reduceToNat, Int.reduceBEq, Int.reduceBNe, Int.reduceMul, Nat.reduceBEq, Nat.reduceBNe, Nat.reduceLT, Nat.reduceLeDiff, Nat.reduceMul, Nat.reduceEqDiff, WD, effB, effH, isPriv, isHeap, isImm, zbx, zby, zbz, chkO, setD, dslot, zca, zcb, zcc, zcd, ptrCells_some, F17, hy.1.rd.shutIn, buildOp, fillV, Lay.place, Bool.or_self, Bool.or_false, Bool.false_or, decide_not, ne_eq, not_true_eq_false, decide_eq_true_eq, Nat.lt_irrefl, buildSliceV, lits, srcV_eq, srcK_sl, srcK_str, srcSl_nils, srcSl_rsl, srcSl_sl, frow, zbv, zbw, List.all_nil, List.all_cons, rowV, Bool.false_and, Bool.and_false, not_false_eq_true, grows_lr, callOut_t, convertOp, get_last]
    rw [wpCall_eq c1]
    simp only [WW, partV, eqCells, eqLf, minV, maxV, ifcV, zaa, zab, zac, zad, zae, zaf, zag, zah, zai, ofConst, ofConst1, List.replicate, zaj, zak, loadOp, Go.Abs.loadCells, binV, zal, pickV, zam, zan, zao, zap, zaq, zar, zas, zat, zau, outR, resAll, resOne, zav, zaw, zax, zay, zaz, zba, zbb, zbc, zbd, zbe, zbf, zbg, zbh, zbi, zbj, zbk, storeOp, storeCell, overlay, zbl, zbm, zbn, lookupOp, keyT, okRes, mapUpdateOp, zbo, zbp, zbq, zbr, zbs, zbt, zbu, Nat.reduceSub, Nat.reduceAdd, Int.reduceLT, Int.reduceLE, Int.reduceAdd, Int.reduceSub, Int.reduceToNat, Int.reduceBEq, Int.reduceBNe, Int.reduceMul, Nat.reduceBEq, Nat.reduceBNe, Nat.reduceLT, Nat.reduceLeDiff, Nat.reduceMul, Nat.reduceEqDiff, WD, effB, effH, isPriv, isHeap, isImm, zbx, zby, zbz, chkO, setD, dslot, zca, zcb, zcc, zcd, ptrCells_some, F17, q1.sb, q1.se.shut, q1.sd.shut, q1.se.len, q1.sd.len, buildOp, fillV, Lay.place, Bool.or_self, Bool.or_false, Bool.false_or, decide_not, ne_eq, not_true_eq_false, decide_eq_true_eq, Nat.lt_irrefl]
    rw [wpCall_eq c2]
    simp only [WW, partV, eqCells, eqLf, minV, maxV, ifcV, zaa, zab, zac, zad, zae, zaf, zag, zah, zai, ofConst, ofConst1, List.replicate, zaj, zak, loadOp, Go.Abs.loadCells, binV, zal, pickV, zam, zan, zao, zap, zaq, zar, zas, zat, zau, outR, resAll, resOne, zav, zaw, zax, zay, zaz, zba, zbb, zbc, zbd, zbe, zbf, zbg, zbh, zbi, zbj, zbk, storeOp, storeCell, overlay, zbl, zbm, zbn, lookupOp, keyT, okRes, mapUpdateOp, zbo, zbp, zbq, zbr, zbs, zbt, zbu, Nat.reduceSub, Nat.reduceAdd, Int.reduceLT, Int.reduceLE, Int.reduceAdd, Int.reduceSub, Int.reduceToNat, Int.reduceBEq, Int.reduceBNe, Int.reduceMul, Nat.reduceBEq, Nat.reduceBNe, Nat.reduceLT, Nat.reduceLeDiff, Nat.reduceMul, Nat.reduceEqDiff, WD, effB, effH, isPriv, isHeap, isImm, zbx, zby, zbz, chkO, setD, dslot, zca, zcb, zcc, zcd, ptrCells_some, F17, q2.sb, q2.se.shut, q2.sd.shut, q2.se.len, q2.sd.len, buildOp, fillV, Lay.place, Bool.or_self, Bool.or_false, Bool.false_or, decide_not, ne_eq, not_true_eq_false, decide_eq_true_eq, Nat.lt_irrefl]
    rw [wpCall_eq c3]
    simp only [WW, partV, eqCells, eqLf, minV, maxV, ifcV, zaa, zab, zac, zad, zae, zaf, zag, zah, zai, ofConst, ofConst1, List.replicate, zaj, zak, loadOp, Go.Abs.loadCells, binV, zal, pickV, zam, zan, zao, zap, zaq, zar, zas, zat, zau, outR, resAll, resOne, zav, zaw, zax, zay, zaz, zba, zbb, zbc, zbd, zbe, zbf, zbg, zbh, zbi, zbj, zbk, storeOp, storeCell, overlay, zbl, zbm, zbn, lookupOp, keyT, okRes, mapUpdateOp, zbo, zbp, zbq, zbr, zbs, zbt, zbu, Nat.reduceSub, Nat.reduceAdd, Int.reduceLT, Int.reduceLE, Int.reduceAdd, Int.reduceSub, Int.reduceToNat, Int.reduceBEq, Int.reduceBNe, Int.reduceMul, Nat.reduceBEq, Nat.reduceBNe, Nat.reduceLT, Nat.reduceLeDiff, Nat.reduceMul, Nat.reduceEqDiff, WD, effB, effH, isPriv, isHeap, isImm, zbx, zby, zbz, chkO, setD, dslot, zca, zcb, zcc, zcd, ptrCells_some, F17, q3.sb, q3.se.shut, q3.sd.shut, q3.se.len, q3.sd.len, buildOp, fillV, Lay.place, Bool.or_self, Bool.or_false, Bool.false_or, decide_not, ne_eq, not_true_eq_false, decide_eq_true_eq, Nat.lt_irrefl]
    rw [wpCall_eq c4]
    simp only [WW, partV, eqCells, eqLf, minV, maxV, ifcV, zaa, zab, zac, zad, zae, zaf, zag, zah, zai, ofConst, ofConst1, List.replicate, zaj, zak, loadOp, Go.Abs.loadCells, binV, zal, pickV, zam, zan, zao, zap, zaq, zar, zas, zat, zau, outR, resAll, resOne, zav, zaw, zax, zay, zaz, zba, zbb, zbc, zbd, zbe, zbf, zbg, zbh, zbi, zbj, zbk, storeOp, storeCell, overlay, zbl, zbm, zbn, lookupOp, keyT, okRes, mapUpdateOp, zbo, zbp, zbq, zbr, zbs, zbt, zbu, Nat.reduceSub, Nat.reduceAdd, Int.reduceLT, Int.reduceLE, Int.reduceAdd, Int.reduceSub, Int.reduceToNat, Int.reduceBEq, Int.reduceBNe, Int.reduceMul, Nat.reduceBEq, Nat.reduceBNe, Nat.reduceLT, Nat.reduceLeDiff, Nat.reduceMul, Nat.reduceEqDiff, WD, effB, effH, isPriv, isHeap, isImm, zbx, zby, zbz, chkO, setD, dslot, zca, zcb, zcc, zcd, ptrCells_some, F17, q4.sb, q4.se.shut, q4.sd.shut, q4.se.len, q4.sd.len, buildOp, fillV, Lay.place, Bool.or_self, Bool.or_false, Bool.false_or, decide_not, ne_eq, not_true_eq_false, decide_eq_true_eq, Nat.lt_irrefl]
    rw [wpCall_eq c5]
    simp only [WW, partV, eqCells, eqLf, minV, maxV, ifcV, zaa, zab, zac, zad, zae, zaf, zag, zah, zai, ofConst, ofConst1, List.replicate, zaj, zak, loadOp, Go.Abs.loadCells, binV, zal, pickV, zam, zan, zao, zap, zaq, zar, zas, zat, zau, outR, resAll, resOne, zav, zaw, zax, zay, zaz, zba, zbb, zbc, zbd, zbe, zbf, zbg, zbh, zbi, zbj, zbk, storeOp, storeCell, overlay, zbl, zbm, zbn, lookupOp, keyT, okRes, mapUpdateOp, zbo, zbp, zbq, zbr, zbs, zbt, zbu, Nat.reduceSub, Nat.reduceAdd, Int.reduceLT, Int.reduceLE, Int.reduceAdd, Int.reduceSub, Int.reduceToNat, Int.reduceBEq, Int.reduceBNe, Int.reduceMul, Nat.reduceBEq, Nat.reduceBNe, Nat.reduceLT, Nat.reduceLeDiff, Nat.reduceMul, Nat.reduceEqDiff, WD, effB, effH, isPriv, isHeap, isImm, zbx, zby, zbz, chkO, setD, dslot, zca, zcb, zcc, zcd, ptrCells_some, F17, hbe, he', buildOp, fillV, Lay.place, Bool.or_self, Bool.or_false, Bool.false_or, decide_not, ne_eq, not_true_eq_false, decide_eq_true_eq, Nat.lt_irrefl]
    exact ⟨xe, xd, E, D, q5, fun q => absurd q he⟩
theorem one_E {G H : Hp} {r q : Nat} {x : V} {B : List UInt8} {a : Nat} {xe xd : V} {E : List Ent} {D : List Int} (h : QS G H r q x B (a, 0) xe xd E D) (hB : B.length < 4294967296) (hEl : E.length < 4294967296) (hDl : D.length < 4294967296) (ht0 : preB (B.drop a) [112] = false) (ht1 : preB (B.drop a) [116, 105] = true) (hc : B[(wantM B [116, 105] (a, 0)).1]? = some 101) :
    wpCall EW 17 [.ptr r 0 0, .ptr q 0 0] H (fun out H' => out = .ret (.tup []) false ∧ OneR G r q x B E D (oneE B E.length D.length a) H') := by
  have hb1 : H[r]? = some (.cells [.agg [x, .int .i64 (a : Int), .int .i64 0]]) := h.rs.blk
  have hx := h.rs.txt.rd
  have hle : a ≤ B.length := h.rs.le
  have hsl : ∀ st, sliceOp Try.prog st H 22 x (some (.int .i64 (a : Nat))) none none = some (dropV x a) := fun st => (slice_lo (P := Try.prog) (st := st) (t := 22) (e := 5) (by kernel_rfl) (by kernel_rfl) h.rs.txt h.wd hle).1
  have hy := (slice_lo (P := Try.prog) (st := ⟨[], [], []⟩) (t := 22) (e := 5) (by kernel_rfl) (by kernel_rfl) h.rs.txt h.wd hle).2
  have hyx : ∀ i, bx (dropV x a) = some i → bx x = some i := fun i hi => bx_drop hi
  have hpre0 : EW 26 [dropV x a, .sl (H).length 0 1] (H ++ [Blk.cells [.int .u8 112]]) = some (.ret (.bool false) false, (H ++ [Blk.cells [.int .u8 112]])) := by
    have hyS : Sx (H ++ [Blk.cells [.int .u8 112]]) (dropV x a) (by8 (B.drop a)) := (hy.1.app _)
    have hyW : Wd (H ++ [Blk.cells [.int .u8 112]]) (dropV x a) := by
      intro id lo len es e1 e2
      have hlt := h.xl id (hyx id (by rw [e1]; rfl))
      refine hy.2 id lo len es e1 ?_
      rw [← e2]
      skip
      rw [List.getElem?_append_left hlt]
    have hz : Rd (H ++ [Blk.cells [.int .u8 112]]) (.sl (H).length 0 1) (by8 [112]) := Rd.whole (es := by8 [112]) (by rw [List.getElem?_append_right (Nat.le_refl _), Nat.sub_self]; rfl)
    have := prefix_eq hyS hyW hz
    rwa [ht0] at this
  have hpre1 : EW 26 [dropV x a, .sl ((H ++ [Blk.cells [.int .u8 112]])).length 0 2] ((H ++ [Blk.cells [.int .u8 112]]) ++ [Blk.cells [.int .u8 116, .int .u8 105]]) = some (.ret (.bool true) false, ((H ++ [Blk.cells [.int .u8 112]]) ++ [Blk.cells [.int .u8 116, .int .u8 105]])) := by
    have hyS : Sx ((H ++ [Blk.cells [.int .u8 112]]) ++ [Blk.cells [.int .u8 116, .int .u8 105]]) (dropV x a) (by8 (B.drop a)) := ((hy.1.app _).app _)
    have hyW : Wd ((H ++ [Blk.cells [.int .u8 112]]) ++ [Blk.cells [.int .u8 116, .int .u8 105]]) (dropV x a) := by
      intro id lo len es e1 e2
      have hlt := h.xl id (hyx id (by rw [e1]; rfl))
      refine hy.2 id lo len es e1 ?_
      rw [← e2]
      simp only [List.append_assoc]
      rw [List.getElem?_append_left hlt]
    have hz : Rd ((H ++ [Blk.cells [.int .u8 112]]) ++ [Blk.cells [.int .u8 116, .int .u8 105]]) (.sl ((H ++ [Blk.cells [.int .u8 112]])).length 0 2) (by8 [116, 105]) := Rd.whole (es := by8 [116, 105]) (by rw [List.getElem?_append_right (Nat.le_refl _), Nat.sub_self]; rfl)
    have := prefix_eq hyS hyW hz
    rwa [ht1] at this
  have qA := ((h.app [Blk.cells [.int .u8 112]]).app [Blk.cells [.int .u8 116, .int .u8 105]])
  have c1 := want_eq qA.rs [116, 105] hB (by simp)
  have q1 := qA.toR (wantM_le (w := [116, 105]) qA.rs.le)
  obtain ⟨s1, hs1⟩ : ∃ s, s = wantM B [116, 105] (a, 0) := ⟨_, rfl⟩
  rw [← hs1] at c1 q1
  have c2 := want_eq q1.rs [101, 114] hB (by simp)
  have q2 := q1.toR (wantM_le (w := [101, 114]) q1.rs.le)
  rw [List.set_set] at c2 q2
  obtain ⟨s2, hs2⟩ : ∃ s, s = wantM B [101, 114] s1 := ⟨_, rfl⟩
  rw [← hs2] at c2 q2
  have c3 := more_eq q2.rs (E.length : Int) a hB
  have q3 := q2.toR (moreM_le (n := (E.length : Int)) (fr := a) q2.rs.le hle)
  rw [List.set_set] at c3 q3
  obtain ⟨s3, hs3⟩ : ∃ s, s = moreM B (E.length : Int) a s2 := ⟨_, rfl⟩
  rw [← hs3] at c3 q3
  have c4 := number_eq q3.rs (0) 1023 hB (by omega) (by omega)
  have q4 := q3.toR (numM_le (low := (0)) (high := 1023) (s := s3) q3.rs.le)
  rw [List.set_set] at c4 q4
  obtain ⟨⟨v4, s4⟩, hs4⟩ : ∃ s, s = numM B (0) 1023 s3 := ⟨_, rfl⟩
  rw [← hs4] at c4 q4
  simp only at c4 q4
  have c5 := next_eq q4.rs (0) 1 hB (by omega) (by omega)
  have q5 := q4.toR (numM_le (low := (0)) (high := 1) (s := wantM B [32] s4) (wantM_le (w := [32]) q4.rs.le))
  rw [List.set_set] at c5 q5
  obtain ⟨⟨v5, s5⟩, hs5⟩ : ∃ s, s = numM B (0) 1 (wantM B [32] s4) := ⟨_, rfl⟩
  rw [← hs5] at c5 q5
  simp only at c5 q5
  have c6 := next_eq q5.rs (0) 1 hB (by omega) (by omega)
  have q6 := q5.toR (numM_le (low := (0)) (high := 1) (s := wantM B [32] s5) (wantM_le (w := [32]) q5.rs.le))
  rw [List.set_set] at c6 q6
  obtain ⟨⟨v6, s6⟩, hs6⟩ : ∃ s, s = numM B (0) 1 (wantM B [32] s5) := ⟨_, rfl⟩
  rw [← hs6] at c6 q6
  simp only at c6 q6
  have c7 := next_eq q6.rs (0) 4 hB (by omega) (by omega)
  have q7 := q6.toR (numM_le (low := (0)) (high := 4) (s := wantM B [32] s6) (wantM_le (w := [32]) q6.rs.le))
  rw [List.set_set] at c7 q7
  obtain ⟨⟨v7, s7⟩, hs7⟩ : ∃ s, s = numM B (0) 4 (wantM B [32] s6) := ⟨_, rfl⟩
  rw [← hs7] at c7 q7
  simp only at c7 q7
  have c8 := want_eq q7.rs [10] hB (by simp)
  have q8 := q7.toR (wantM_le (w := [10]) q7.rs.le)
  rw [List.set_set] at c8 q8
  obtain ⟨s8, hs8⟩ : ∃ s, s = wantM B [10] s7 := ⟨_, rfl⟩
  rw [← hs8] at c8 q8
  obtain ⟨a8, e8⟩ := s8
  have hbe : (((H ++ [Blk.cells [.int .u8 112]]) ++ [Blk.cells [.int .u8 116, .int .u8 105]]).set r (rb x (a8, e8)))[r]? = some (.cells [.agg [x, .int .i64 (a8 : Int), .int .i64 e8]]) := q8.rs.blk
  have hqe := q8.sb
  obtain ⟨a1, e1⟩ := s1
  rw [← hs1] at hc
  simp only at hc
  have hbm : ((H ++ [Blk.cells [.int .u8 112]] ++ [Blk.cells [.int .u8 116, .int .u8 105]]).set r (rb x (a1, e1)))[r]? = some (.cells [.agg [x, .int .i64 (a1 : Int), .int .i64 e1]]) := q1.rs.blk
  have hxm := q1.rs.txt.rd
  have hgm : decide ((a1 : Int) < (B.length : Int)) = true := decide_eq_true (by have := (List.getElem?_eq_some_iff.1 hc).1; omega)
  have hc8m : (by8 B)[a1]? = some (byteV 101) := by unfold by8; rw [List.getElem?_map, hc]; rfl
  have hatm := hxm.at_ (sz := 1) hc8m rfl
  have h101 : (((101 : UInt8).toNat : Int) == 101) = true := by decide
  have hone : oneE B E.length D.length a = ((a8, e8), [⟨3, v4, 0, v5, v6, v7⟩], []) := by
    unfold oneE
    simp only [← hs1, ← hs2, ← hs3, ← hs4, ← hs5, ← hs6, ← hs7, ← hs8]
  rw [hone]
  by_cases he : e8 = 0
  · subst he
    obtain ⟨xe', H2, hap, hq2, hs2, Q2⟩ := q8.entry ⟨3, v4, 0, v5, v6, v7⟩ hEl
    simp only [entV] at hap
    refine runs f17 b17 r17 n17 _ _ ?_
    simp only [bodyOf, Try.f17, Option.getD_some]
    simp only [WW, partV, eqCells, eqLf, minV, maxV, ifcV, zaa, zab, zac, zad, zae, zaf, zag, zah, zai, ofConst, ofConst1, List.replicate, zaj, zak, loadOp, Go.Abs.loadCells, binV, zal, pickV, zam, zan, zao, zap, zaq, zar, zas, zat, zau, outR, resAll, resOne, zav, zaw, zax, zay, zaz, zba, zbb, zbc, zbd, zbe, zbf, zbg, zbh, zbi, zbj, zbk, storeOp, storeCell, overlay, zbl, zbm, zbn, lookupOp, keyT, okRes, mapUpdateOp, zbo, zbp, zbq, zbr, zbs, zbt, zbu, Nat.reduceSub, Nat.reduceAdd, Int.reduceLT, Int.reduceLE, Int.reduceAdd, Int.reduceSub, Int.reduceToNat, Int.reduceBEq, Int.reduceBNe, Int.reduceMul, Nat.reduceBEq, Nat.reduceBNe, Nat.reduceLT, Nat.reduceLeDiff, Nat.reduceMul, Nat.reduceEqDiff, WD, effB, effH, isPriv, isHeap, isImm, zbx, zby, zbz, chkO, setD, dslot, zca, zcb, zcc, zcd, ptrCells_some, F17, hb1]
    refine wC_dr [] (by kernel_rfl) ?_
    simp only [WW, partV, eqCells, eqLf, minV, maxV, ifcV, zaa, zab, zac, zad, zae, zaf, zag, zah, zai, ofConst, ofConst1, List.replicate, zaj, zak, loadOp, Go.Abs.loadCells, binV, zal, pickV, zam, zan, zao, zap, zaq, zar, zas, zat, zau, outR, resAll, resOne, zav, zaw, zax, zay, zaz, zba, zbb, zbc, zbd, zbe, zbf, zbg, zbh, zbi, zbj, zbk, storeOp, storeCell, overlay, zbl, zbm, zbn, lookupOp, keyT, okRes, mapUpdateOp, zbo, zbp, zbq, zbr, zbs, zbt, zbu, Nat.reduceSub, Nat.reduceAdd, Int.reduceLT, Int.reduceLE, Int.reduceAdd, Int.reduceSub, Int.reduceToNat, Int.reduceBEq, Int.reduceBNe, Int.reduceMul, Nat.reduceBEq, Nat.reduceBNe, Nat.reduceLT, Nat.reduceLeDiff, Nat.reduceMul, Nat.reduceEqDiff, WD, effB, effH, isPriv, isHeap, isImm, zbx, zby, zbz, chkO, setD, dslot, zca, zcb, zcc, zcd, ptrCells_some, F17, hb1, hx.shutIn, hsl, Option.map_none, hy.1.rd.shutIn, buildOp, fillV, Lay.place, Bool.or_self, Bool.or_false, Bool.false_or, decide_not, ne_eq, not_true_eq_false, decide_eq_true_eq, Nat.lt_irrefl, buildSliceV, lits, srcV_eq, srcK_sl, srcK_str, srcSl_nils, srcSl_rsl, srcSl_sl, frow, zbv, zbw, List.all_nil, List.all_cons, rowV, Bool.false_and, Bool.and_false, not_false_eq_true, grows_lr, callOut_t, convertOp, get_last]
    rw [wpCall_eq hpre0]
    simp only [WW, partV, eqCells, eqLf, minV, maxV, ifcV, zaa, zab, zac, zad, zae, zaf, zag, zah, zai, ofConst, ofConst1, List.replicate, zaj, zak, loadOp, Go.Abs.loadCells, binV, zal, pickV, zam, zan, zao, zap, zaq, zar, zas, zat, zau, outR, resAll, resOne, zav, zaw, zax, zay, zaz, zba, zbb, zbc, zbd, zbe, zbf, zbg, zbh, zbi, zbj, zbk, storeOp, storeCell, overlay, zbl, zbm, zbn, lookupOp, keyT, okRes, mapUpdateOp, zbo, zbp, zbq, zbr, zbs, zbt, zbu, Nat.reduceSub, Nat.reduceAdd, Int.reduceLT, Int.reduceLE, Int.reduceAdd, Int.reduceSub, Int.reduceToNat, Int.reduceBEq, Int.reduceBNe, Int.reduceMul, Nat.reduceBEq, Nat.reduceBNe, Nat.reduceLT, Nat.reduceLeDiff, Nat.reduceMul, Nat.reduceEqDiff, WD, effB, effH, isPriv, isHeap, isImm, zbx, zby, zbz, chkO, setD, dslot, zca, zcb, zcc, zcd, ptrCells_some, F17, hy.1.rd.shutIn, buildOp, fillV, Lay.place, Bool.or_self, Bool.or_false, Bool.false_or, decide_not, ne_eq, not_true_eq_false, decide_eq_true_eq, Nat.lt_irrefl, buildSliceV, lits, srcV_eq, srcK_sl, srcK_str, srcSl_nils, srcSl_rsl, srcSl_sl, frow, zbv, zbw, List.all_nil, List.all_cons, rowV, Bool.false_and, Bool.and_false, not_false_eq_true, grows_lr, callOut_t, convertOp, get_last]
    rw [wpCall_eq hpre1]
    simp only [WW, partV, eqCells, eqLf, minV, maxV, ifcV, zaa, zab, zac, zad, zae, zaf, zag, zah, zai, ofConst, ofConst1, List.replicate, zaj, zak, loadOp, Go.Abs.loadCells, binV, zal, pickV, zam, zan, zao, zap, zaq, zar, zas, zat, zau, outR, resAll, resOne, zav, zaw, zax, zay, zaz, zba, zbb, zbc, zbd, zbe, zbf, zbg, zbh, zbi, zbj, zbk, storeOp, storeCell, overlay, zbl, zbm, zbn, lookupOp, keyT, okRes, mapUpdateOp, zbo, zbp, zbq, zbr, zbs, zbt, zbu, Nat.reduceSub, Nat.reduceAdd, Int.reduceLT, Int.reduceLE, Int.reduceAdd, Int.reduceSub, Int.reduceToNat, Int.reduceBEq, Int.reduceBNe, Int.reduceMul, Nat.reduceBEq, Nat.reduceBNe, Nat.reduceLT, Nat.reduceLeDiff, Nat.reduceMul, Nat.reduceEqDiff, WD, effB, effH, isPriv, isHeap, isImm, zbx, zby, zbz, chkO, setD, dslot, zca, zcb, zcc, zcd, ptrCells_some, F17, hy.1.rd.shutIn, buildOp, fillV, Lay.place, Bool.or_self, Bool.or_false, Bool.false_or, decide_not, ne_eq, not_true_eq_false, decide_eq_true_eq, Nat.lt_irrefl, buildSliceV, lits, srcV_eq, srcK_sl, srcK_str, srcSl_nils, srcSl_rsl, srcSl_sl, frow, zbv, zbw, List.all_nil, List.all_cons, rowV, Bool.false_and, Bool.and_false, not_false_eq_true, grows_lr, callOut_t, convertOp, get_last]
    rw [wpCall_eq c1]
    simp only [WW, partV, eqCells, eqLf, minV, maxV, ifcV, zaa, zab, zac, zad, zae, zaf, zag, zah, zai, ofConst, ofConst1, List.replicate, zaj, zak, loadOp, Go.Abs.loadCells, binV, zal, pickV, zam, zan, zao, zap, zaq, zar, zas, zat, zau, outR, resAll, resOne, zav, zaw, zax, zay, zaz, zba, zbb, zbc, zbd, zbe, zbf, zbg, zbh, zbi, zbj, zbk, storeOp, storeCell, overlay, zbl, zbm, zbn, lookupOp, keyT, okRes, mapUpdateOp, zbo, zbp, zbq, zbr, zbs, zbt, zbu, Nat.reduceSub, Nat.reduceAdd, Int.reduceLT, Int.reduceLE, Int.reduceAdd, Int.reduceSub, Int.reduceToNat, Int.reduceBEq, Int.reduceBNe, Int.reduceMul, Nat.reduceBEq, Nat.reduceBNe, Nat.reduceLT, Nat.reduceLeDiff, Nat.reduceMul, Nat.reduceEqDiff, WD, effB, effH, isPriv, isHeap, isImm, zbx, zby, zbz, chkO, setD, dslot, zca, zcb, zcc, zcd, ptrCells_some, F17, buildOp, fillV, Lay.place, Bool.or_self, Bool.or_false, Bool.false_or, decide_not, ne_eq, not_true_eq_false, decide_eq_true_eq, Nat.lt_irrefl]
    refine wC_dr [] (by kernel_rfl) ?_
    simp only [WW, partV, eqCells, eqLf, minV, maxV, ifcV, zaa, zab, zac, zad, zae, zaf, zag, zah, zai, ofConst, ofConst1, List.replicate, zaj, zak, loadOp, Go.Abs.loadCells, binV, zal, pickV, zam, zan, zao, zap, zaq, zar, zas, zat, zau, outR, resAll, resOne, zav, zaw, zax, zay, zaz, zba, zbb, zbc, zbd, zbe, zbf, zbg, zbh, zbi, zbj, zbk, storeOp, storeCell, overlay, zbl, zbm, zbn, lookupOp, keyT, okRes, mapUpdateOp, zbo, zbp, zbq, zbr, zbs, zbt, zbu, Nat.reduceSub, Nat.reduceAdd, Int.reduceLT, Int.reduceLE, Int.reduceAdd, Int.reduceSub, Int.reduceToNat, Int.reduceBEq, Int.reduceBNe, Int.reduceMul, Nat.reduceBEq, Nat.reduceBNe, Nat.reduceLT, Nat.reduceLeDiff, Nat.reduceMul, Nat.reduceEqDiff, WD, effB, effH, isPriv, isHeap, isImm, zbx, zby, zbz, chkO, setD, dslot, zca, zcb, zcc, zcd, ptrCells_some, F17, hbm, hxm.shutIn, hxm.len, by8_len, hgm, hatm.at1 hxm, hatm.cells, byteV, h101, buildOp, fillV, Lay.place, Bool.or_self, Bool.or_false, Bool.false_or, decide_not, ne_eq, not_true_eq_false, decide_eq_true_eq, Nat.lt_irrefl]
    rw [wpCall_eq c2]
    simp only [WW, partV, eqCells, eqLf, minV, maxV, ifcV, zaa, zab, zac, zad, zae, zaf, zag, zah, zai, ofConst, ofConst1, List.replicate, zaj, zak, loadOp, Go.Abs.loadCells, binV, zal, pickV, zam, zan, zao, zap, zaq, zar, zas, zat, zau, outR, resAll, resOne, zav, zaw, zax, zay, zaz, zba, zbb, zbc, zbd, zbe, zbf, zbg, zbh, zbi, zbj, zbk, storeOp, storeCell, overlay, zbl, zbm, zbn, lookupOp, keyT, okRes, mapUpdateOp, zbo, zbp, zbq, zbr, zbs, zbt, zbu, Nat.reduceSub, Nat.reduceAdd, Int.reduceLT, Int.reduceLE, Int.reduceAdd, Int.reduceSub, Int.reduceToNat, Int.reduceBEq, Int.reduceBNe, Int.reduceMul, Nat.reduceBEq, Nat.reduceBNe, Nat.reduceLT, Nat.reduceLeDiff, Nat.reduceMul, Nat.reduceEqDiff, WD, effB, effH, isPriv, isHeap, isImm, zbx, zby, zbz, chkO, setD, dslot, zca, zcb, zcc, zcd, ptrCells_some, F17, q2.sb, q2.se.shut, q2.sd.shut, q2.se.len, q2.sd.len, buildOp, fillV, Lay.place, Bool.or_self, Bool.or_false, Bool.false_or, decide_not, ne_eq, not_true_eq_false, decide_eq_true_eq, Nat.lt_irrefl]
    rw [wpCall_eq c3]
    simp only [WW, partV, eqCells, eqLf, minV, maxV, ifcV, zaa, zab, zac, zad, zae, zaf, zag, zah, zai, ofConst, ofConst1, List.replicate, zaj, zak, loadOp, Go.Abs.loadCells, binV, zal, pickV, zam, zan, zao, zap, zaq, zar, zas, zat, zau, outR, resAll, resOne, zav, zaw, zax, zay, zaz, zba, zbb, zbc, zbd, zbe, zbf, zbg, zbh, zbi, zbj, zbk, storeOp, storeCell, overlay, zbl, zbm, zbn, lookupOp, keyT, okRes, mapUpdateOp, zbo, zbp, zbq, zbr, zbs, zbt, zbu, Nat.reduceSub, Nat.reduceAdd, Int.reduceLT, Int.reduceLE, Int.reduceAdd, Int.reduceSub, Int.reduceToNat, Int.reduceBEq, Int.reduceBNe, Int.reduceMul, Nat.reduceBEq, Nat.reduceBNe, Nat.reduceLT, Nat.reduceLeDiff, Nat.reduceMul, Nat.reduceEqDiff, WD, effB, effH, isPriv, isHeap, isImm, zbx, zby, zbz, chkO, setD, dslot, zca, zcb, zcc, zcd, ptrCells_some, F17, q3.sb, q3.se.shut, q3.sd.shut, q3.se.len, q3.sd.len, buildOp, fillV, Lay.place, Bool.or_self, Bool.or_false, Bool.false_or, decide_not, ne_eq, not_true_eq_false, decide_eq_true_eq, Nat.lt_irrefl]
    rw [wpCall_eq c4]
    simp only [WW, partV, eqCells, eqLf, minV, maxV, ifcV, zaa, zab, zac, zad, zae, zaf, zag, zah, zai, ofConst, ofConst1, List.replicate, zaj, zak, loadOp, Go.Abs.loadCells, binV, zal, pickV, zam, zan, zao, zap, zaq, zar, zas, zat, zau, outR, resAll, resOne, zav, zaw, zax, zay, zaz, zba, zbb, zbc, zbd, zbe, zbf, zbg, zbh, zbi, zbj, zbk, storeOp, storeCell, overlay, zbl, zbm, zbn, lookupOp, keyT, okRes, mapUpdateOp, zbo, zbp, zbq, zbr, zbs, zbt, zbu, Nat.reduceSub, Nat.reduceAdd, Int.reduceLT, Int.reduceLE, Int.reduceAdd, Int.reduceSub, Int.reduceToNat, Int.reduceBEq, Int.reduceBNe, Int.reduceMul, Nat.reduceBEq, Nat.reduceBNe, Nat.reduceLT, Nat.reduceLeDiff, Nat.reduceMul, Nat.reduceEqDiff, WD, effB, effH, isPriv, isHeap, isImm, zbx, zby, zbz, chkO, setD, dslot, zca, zcb, zcc, zcd, ptrCells_some, F17, q4.sb, q4.se.shut, q4.sd.shut, q4.se.len, q4.sd.len, buildOp, fillV, Lay.place, Bool.or_self, Bool.or_false, Bool.false_or, decide_not, ne_eq, not_true_eq_false, decide_eq_true_eq, Nat.lt_irrefl]
    rw [wpCall_eq c5]
    simp only [WW, partV, eqCells, eqLf, minV, maxV, ifcV, zaa, zab, zac, zad, zae, zaf, zag, zah, zai, ofConst, ofConst1, List.replicate, zaj, zak, loadOp, Go.Abs.loadCells, binV, zal, pickV, zam, zan, zao, zap, zaq, zar, zas, zat, zau, outR, resAll, resOne, zav, zaw, zax, zay, zaz, zba, zbb, zbc, zbd, zbe, zbf, zbg, zbh, zbi, zbj, zbk, storeOp, storeCell, overlay, zbl, zbm, zbn, lookupOp, keyT, okRes, mapUpdateOp, zbo, zbp, zbq, zbr, zbs, zbt, zbu, Nat.reduceSub, Nat.reduceAdd, Int.reduceLT, Int.reduceLE, Int.reduceAdd, Int.reduceSub, Int.reduceToNat, Int.reduceBEq, Int.reduceBNe, Int.reduceMul, Nat.reduceBEq, Nat.reduceBNe, Nat.reduceLT, Nat.reduceLeDiff, Nat.reduceMul, Nat.reduceEqDiff, WD, effB, effH, isPriv, isHeap, isImm, zbx, zby, zbz, chkO, setD, dslot, zca, zcb, zcc, zcd, ptrCells_some, F17, q5.sb, q5.se.shut, q5.sd.shut, q5.se.len, q5.sd.len, buildOp, fillV, Lay.place, Bool.or_self, Bool.or_false, Bool.false_or, decide_not, ne_eq, not_true_eq_false, decide_eq_true_eq, Nat.lt_irrefl]
    rw [wpCall_eq c6]
    simp only [WW, partV, eqCells, eqLf, minV, maxV, ifcV, zaa, zab, zac, zad, zae, zaf, zag, zah, zai, ofConst, ofConst1, List.replicate, zaj, zak, loadOp, Go.Abs.loadCells, binV, zal, pickV, zam, zan, zao, zap, zaq, zar, zas, zat, zau, outR, resAll, resOne, zav, zaw, zax, zay, zaz, zba, zbb, zbc, zbd, zbe, zbf, zbg, zbh, zbi, zbj, zbk, storeOp, storeCell, overlay, zbl, zbm, zbn, lookupOp, keyT, okRes, mapUpdateOp, zbo, zbp, zbq, zbr, zbs, zbt, zbu, Nat.reduceSub, Nat.reduceAdd, Int.reduceLT, Int.reduceLE, Int.reduceAdd, Int.reduceSub, Int.reduceToNat, Int.reduceBEq, Int.reduceBNe, Int.reduceMul, Nat.reduceBEq, Nat.reduceBNe, Nat.reduceLT, Nat.reduceLeDiff, Nat.reduceMul, Nat.reduceEqDiff, WD, effB, effH, isPriv, isHeap, isImm, zbx, zby, zbz, chkO, setD, dslot, zca, zcb, zcc, zcd, ptrCells_some, F17, q6.sb, q6.se.shut, q6.sd.shut, q6.se.len, q6.sd.len, buildOp, fillV, Lay.place, Bool.or_self, Bool.or_false, Bool.false_or, decide_not, ne_eq, not_true_eq_false, decide_eq_true_eq, Nat.lt_irrefl]
    rw [wpCall_eq c7]
    simp only [WW, partV, eqCells, eqLf, minV, maxV, ifcV, zaa, zab, zac, zad, zae, zaf, zag, zah, zai, ofConst, ofConst1, List.replicate, zaj, zak, loadOp, Go.Abs.loadCells, binV, zal, pickV, zam, zan, zao, zap, zaq, zar, zas, zat, zau, outR, resAll, resOne, zav, zaw, zax, zay, zaz, zba, zbb, zbc, zbd, zbe, zbf, zbg, zbh, zbi, zbj, zbk, storeOp, storeCell, overlay, zbl, zbm, zbn, lookupOp, keyT, okRes, mapUpdateOp, zbo, zbp, zbq, zbr, zbs, zbt, zbu, Nat.reduceSub, Nat.reduceAdd, Int.reduceLT, Int.reduceLE, Int.reduceAdd, Int.reduceSub, Int.reduceToNat, Int.reduceBEq, Int.reduceBNe, Int.reduceMul, Nat.reduceBEq, Nat.reduceBNe, Nat.reduceLT, Nat.reduceLeDiff, Nat.reduceMul, Nat.reduceEqDiff, WD, effB, effH, isPriv, isHeap, isImm, zbx, zby, zbz, chkO, setD, dslot, zca, zcb, zcc, zcd, ptrCells_some, F17, q7.sb, q7.se.shut, q7.sd.shut, q7.se.len, q7.sd.len, buildOp, fillV, Lay.place, Bool.or_self, Bool.or_false, Bool.false_or, decide_not, ne_eq, not_true_eq_false, decide_eq_true_eq, Nat.lt_irrefl]
    rw [wpCall_eq c8]
    simp only [WW, partV, eqCells, eqLf, minV, maxV, ifcV, zaa, zab, zac, zad, zae, zaf, zag, zah, zai, ofConst, ofConst1, List.replicate, zaj, zak, loadOp, Go.Abs.loadCells, binV, zal, pickV, zam, zan, zao, zap, zaq, zar, zas, zat, zau, outR, resAll, resOne, zav, zaw, zax, zay, zaz, zba, zbb, zbc, zbd, zbe, zbf, zbg, zbh, zbi, zbj, zbk, storeOp, storeCell, overlay, zbl, zbm, zbn, lookupOp, keyT, okRes, mapUpdateOp, zbo, zbp, zbq, zbr, zbs, zbt, zbu, Nat.reduceSub, Nat.reduceAdd, Int.reduceLT, Int.reduceLE, Int.reduceAdd, Int.reduceSub, Int.reduceToNat, Int.reduceBEq, Int.reduceBNe, Int.reduceMul, Nat.reduceBEq, Nat.reduceBNe, Nat.reduceLT, Nat.reduceLeDiff, Nat.reduceMul, Nat.reduceEqDiff, WD, effB, effH, isPriv, isHeap, isImm, zbx, zby, zbz, chkO, setD, dslot, zca, zcb, zcc, zcd, ptrCells_some, F17, hbe, buildOp, fillV, Lay.place, Bool.or_self, Bool.or_false, Bool.false_or, decide_not, ne_eq, not_true_eq_false, decide_eq_true_eq, Nat.lt_irrefl]
    refine wC_dr alts17_29 (by kernel_rfl) ?_
    simp only [WW, partV, eqCells, eqLf, minV, maxV, ifcV, zaa, zab, zac, zad, zae, zaf, zag, zah, zai, ofConst, ofConst1, List.replicate, zaj, zak, loadOp, Go.Abs.loadCells, binV, zal, pickV, zam, zan, zao, zap, zaq, zar, zas, zat, zau, outR, resAll, resOne, zav, zaw, zax, zay, zaz, zba, zbb, zbc, zbd, zbe, zbf, zbg, zbh, zbi, zbj, zbk, storeOp, storeCell, overlay, zbl, zbm, zbn, lookupOp, keyT, okRes, mapUpdateOp, zbo, zbp, zbq, zbr, zbs, zbt, zbu, Nat.reduceSub, Nat.reduceAdd, Int.reduceLT, Int.reduceLE, Int.reduceAdd, Int.reduceSub, Int.reduceToNat, Int.reduceBEq, Int.reduceBNe, Int.reduceMul, Nat.reduceBEq, Nat.reduceBNe, Nat.reduceLT, Nat.reduceLeDiff, Nat.reduceMul, Nat.reduceEqDiff, WD, effB, effH, isPriv, isHeap, isImm, zbx, zby, zbz, chkO, setD, dslot, zca, zcb, zcc, zcd, ptrCells_some, F17, hbe, hqe, alts17_29, q8.se.shut, q8.sd.shut, buildSliceV, lits, srcV_eq, srcK_sl, srcK_str, srcSl_nils, srcSl_rsl, srcSl_sl, frow, zbv, zbw, List.all_nil, List.all_cons, rowV, Bool.false_and, Bool.and_false, ne_eq, not_false_eq_true, grows_lr, callOut_t, hap, hq2, hs2.shut, hs2.prom, hs2.cells1, hs2.width1, hs2.ok, storeHeap, heapSet, elemSet]
    exact ⟨xe', xd, _, D, Q2, fun _ => ⟨rfl, by simp⟩⟩
  · have he' : (e8 == 0) = false := by simpa using he
    refine runs f17 b17 r17 n17 _ _ ?_
    simp only [bodyOf, Try.f17, Option.getD_some]
    simp only [WW, partV, eqCells, eqLf, minV, maxV, ifcV, zaa, zab, zac, zad, zae, zaf, zag, zah, zai, ofConst, ofConst1, List.replicate, zaj, zak, loadOp, Go.Abs.loadCells, binV, zal, pickV, zam, zan, zao, zap, zaq, zar, zas, zat, zau, outR, resAll, resOne, zav, zaw, zax, zay, zaz, zba, zbb, zbc, zbd, zbe, zbf, zbg, zbh, zbi, zbj, zbk, storeOp, storeCell, overlay, zbl, zbm, zbn, lookupOp, keyT, okRes, mapUpdateOp, zbo, zbp, zbq, zbr, zbs, zbt, zbu, Nat.reduceSub, Nat.reduceAdd, Int.reduceLT, Int.reduceLE, Int.reduceAdd, Int.reduceSub, Int.reduceToNat, Int.reduceBEq, Int.reduceBNe, Int.reduceMul, Nat.reduceBEq, Nat.reduceBNe, Nat.reduceLT, Nat.reduceLeDiff, Nat.reduceMul, Nat.reduceEqDiff, WD, effB, effH, isPriv, isHeap, isImm, zbx, zby, zbz, chkO, setD, dslot, zca, zcb, zcc, zcd, ptrCells_some, F17, hb1]
    refine wC_dr [] (by kernel_rfl) ?_
    simp only [WW, partV, eqCells, eqLf, minV, maxV, ifcV, zaa, zab, zac, zad, zae, zaf, zag, zah, zai, ofConst, ofConst1, List.replicate, zaj, zak, loadOp, Go.Abs.loadCells, binV, zal, pickV, zam, zan, zao, zap, zaq, zar, zas, zat, zau, outR, resAll, resOne, zav, zaw, zax, zay, zaz, zba, zbb, zbc, zbd, zbe, zbf, zbg, zbh, zbi, zbj, zbk, storeOp, storeCell, overlay, zbl, zbm, zbn, lookupOp, keyT, okRes, mapUpdateOp, zbo, zbp, zbq, zbr, zbs, zbt, zbu, Nat.reduceSub, Nat.reduceAdd, Int.reduceLT, Int.reduceLE, Int.reduceAdd, Int.reduceSub, Int.reduceToNat, Int.reduceBEq, Int.reduceBNe, Int.reduceMul, Nat.reduceBEq, Nat.reduceBNe, Nat.reduceLT, Nat.reduceLeDiff, Nat.reduceMul, Nat.reduceEqDiff, WD, effB, effH, isPriv, isHeap, isImm, zbx, zby, zbz, chkO, setD, dslot, zca, zcb, zcc, zcd, ptrCells_some, F17, hb1, hx.shutIn, hsl, Option.map_none, hy.1.rd.shutIn, buildOp, fillV, Lay.place, Bool.or_self, Bool.or_false, Bool.false_or, decide_not, ne_eq, not_true_eq_false, decide_eq_true_eq, Nat.lt_irrefl, buildSliceV, lits, srcV_eq, srcK_sl, srcK_str, srcSl_nils, srcSl_rsl, srcSl_sl, frow, zbv, zbw, List.all_nil, List.all_cons, rowV, Bool.false_and, Bool.and_false, not_false_eq_true, grows_lr, callOut_t, convertOp, get_last]
    rw [wpCall_eq hpre0]
    simp only [WW, partV, eqCells, eqLf, minV, maxV, ifcV, zaa, zab, zac, zad, zae, zaf, zag, zah, zai, ofConst, ofConst1, List.replicate, zaj, zak, loadOp, Go.Abs.loadCells, binV, zal, pickV, zam, zan, zao, zap, zaq, zar, zas, zat, zau, outR, resAll, resOne, zav, zaw, zax, zay, zaz, zba, zbb, zbc, zbd, zbe, zbf, zbg, zbh, zbi, zbj, zbk, storeOp, storeCell, overlay, zbl, zbm, zbn, lookupOp, keyT, okRes, mapUpdateOp, zbo, zbp, zbq, zbr, zbs, zbt, zbu, Nat.reduceSub, Nat.reduceAdd, Int.reduceLT, Int.reduceLE, Int.reduceAdd, Int.reduceSub, Int.reduceToNat, Int.reduceBEq, Int.reduceBNe, Int.reduceMul, Nat.reduceBEq, Nat.reduceBNe, Nat.reduceLT, Nat.reduceLeDiff, Nat.reduceMul, Nat.reduceEqDiff, WD, effB, effH, isPriv, isHeap, isImm, zbx, zby, zbz, chkO, setD, dslot, zca, zcb, zcc, zcd, ptrCells_some, F17, hy.1.rd.shutIn, buildOp, fillV, Lay.place, Bool.or_self, Bool.or_false, Bool.false_or, decide_not, ne_eq, not_true_eq_false, decide_eq_true_eq, Nat.lt_irrefl, buildSliceV, lits, srcV_eq, srcK_sl, srcK_str, srcSl_nils, srcSl_rsl, srcSl_sl, frow, zbv, zbw, List.all_nil, List.all_cons, rowV, Bool.false_and, Bool.and_false, not_false_eq_true, grows_lr, callOut_t, convertOp, get_last]
    rw [wpCall_eq hpre1]
    simp only [WW, partV, eqCells, eqLf, minV, maxV, ifcV, zaa, zab, zac, zad, zae, zaf, zag, zah, zai, ofConst, ofConst1, List.replicate, zaj, zak, loadOp, Go.Abs.loadCells, binV, zal, pickV, zam, zan, zao, zap, zaq, zar, zas, zat, zau, outR, resAll, resOne, zav, zaw, zax, zay, zaz, zba, zbb, zbc, zbd, zbe, zbf, zbg, zbh, zbi, zbj, zbk, storeOp, storeCell, overlay, zbl, zbm, zbn, lookupOp, keyT, okRes, mapUpdateOp, zbo, zbp, zbq, zbr, zbs, zbt, zbu, Nat.reduceSub, Nat.reduceAdd, Int.reduceLT, Int.reduceLE, Int.reduceAdd, Int.reduceSub, Int.reduceToNat, Int.reduceBEq, Int.reduceBNe, Int.reduceMul, Nat.reduceBEq, Nat.reduceBNe, Nat.reduceLT, Nat.reduceLeDiff, Nat.reduceMul, Nat.reduceEqDiff, WD, effB, effH, isPriv, isHeap, isImm, zbx, zby, zbz, chkO, setD, dslot, zca, zcb, zcc, zcd, ptrCells_some, F17, hy.1.rd.shutIn, buildOp, fillV, Lay.place, Bool.or_self, Bool.or_false, Bool.false_or, decide_not, ne_eq, not_true_eq_false, decide_eq_true_eq, Nat.lt_irrefl, buildSliceV, lits, srcV_eq, srcK_sl, srcK_str, srcSl_nils, srcSl_rsl, srcSl_sl, frow, zbv, zbw, List.all_nil, List.all_cons, rowV, Bool.false_and, Bool.and_false, not_false_eq_true, grows_lr, callOut_t, convertOp, get_last]
    rw [wpCall_eq c1]
    simp only [WW, partV, eqCells, eqLf, minV, maxV, ifcV, zaa, zab, zac, zad, zae, zaf, zag, zah, zai, ofConst, ofConst1, List.replicate, zaj, zak, loadOp, Go.Abs.loadCells, binV, zal, pickV, zam, zan, zao, zap, zaq, zar, zas, zat, zau, outR, resAll, resOne, zav, zaw, zax, zay, zaz, zba, zbb, zbc, zbd, zbe, zbf, zbg, zbh, zbi, zbj, zbk, storeOp, storeCell, overlay, zbl, zbm, zbn, lookupOp, keyT, okRes, mapUpdateOp, zbo, zbp, zbq, zbr, zbs, zbt, zbu, Nat.reduceSub, Nat.reduceAdd, Int.reduceLT, Int.reduceLE, Int.reduceAdd, Int.reduceSub, Int.reduceToNat, Int.reduceBEq, Int.reduceBNe, Int.reduceMul, Nat.reduceBEq, Nat.reduceBNe, Nat.reduceLT, Nat.reduceLeDiff, Nat.reduceMul, Nat.reduceEqDiff, WD, effB, effH, isPriv, isHeap, isImm, zbx, zby, zbz, chkO, setD, dslot, zca, zcb, zcc, zcd, ptrCells_some, F17, buildOp, fillV, Lay.place, Bool.or_self, Bool.or_false, Bool.false_or, decide_not, ne_eq, not_true_eq_false, decide_eq_true_eq, Nat.lt_irrefl]
    refine wC_dr [] (by kernel_rfl) ?_
    simp only [WW, partV, eqCells, eqLf, minV, maxV, ifcV, zaa, zab, zac, zad, zae, zaf, zag, zah, zai, ofConst, ofConst1, List.replicate, zaj, zak, loadOp, Go.Abs.loadCells, binV, zal, pickV, zam, zan, zao, zap, zaq, zar, zas, zat, zau, outR, resAll, resOne, zav, zaw, zax, zay, zaz, zba, zbb, zbc, zbd, zbe, zbf, zbg, zbh, zbi, zbj, zbk, storeOp, storeCell, overlay, zbl, zbm, zbn, lookupOp, keyT, okRes, mapUpdateOp, zbo, zbp, zbq, zbr, zbs, zbt, zbu, Nat.reduceSub, Nat.reduceAdd, Int.reduceLT, Int.reduceLE, Int.reduceAdd, Int.reduceSub, Int.reduceToNat, Int.reduceBEq, Int.reduceBNe, Int.reduceMul, Nat.reduceBEq, Nat.reduceBNe, Nat.reduceLT, Nat.reduceLeDiff, Nat.reduceMul, Nat.reduceEqDiff, WD, effB, effH, isPriv, isHeap, isImm, zbx, zby, zbz, chkO, setD, dslot, zca, zcb, zcc, zcd, ptrCells_some, F17, hbm, hxm.shutIn, hxm.len, by8_len, hgm, hatm.at1 hxm, hatm.cells, byteV, h101, buildOp, fillV, Lay.place, Bool.or_self, Bool.or_false, Bool.false_or, decide_not, ne_eq, not_true_eq_false, decide_eq_true_eq, Nat.lt_irrefl]
    rw [wpCall_eq c2]
    simp only [WW, partV, eqCells, eqLf, minV, maxV, ifcV, zaa, zab, zac, zad, zae, zaf, zag, zah, zai, ofConst, ofConst1, List.replicate, zaj, zak, loadOp, Go.Abs.loadCells, binV, zal, pickV, zam, zan, zao, zap, zaq, zar, zas, zat, zau, outR, resAll, resOne, zav, zaw, zax, zay, zaz, zba, zbb, zbc, zbd, zbe, zbf, zbg, zbh, zbi, zbj, zbk, storeOp, storeCell, overlay, zbl, zbm, zbn, lookupOp, keyT, okRes, mapUpdateOp, zbo, zbp, zbq, zbr, zbs, zbt, zbu, Nat.reduceSub, Nat.reduceAdd, Int.reduceLT, Int.reduceLE, Int.reduceAdd, Int.reduceSub, Int.reduceToNat, Int.reduceBEq, Int.reduceBNe, Int.reduceMul, Nat.reduceBEq, Nat.reduceBNe, Nat.reduceLT, Nat.reduceLeDiff, Nat.reduceMul, Nat.reduceEqDiff, WD, effB, effH, isPriv, isHeap, isImm, zbx, zby, zbz, chkO, setD, dslot, zca, zcb, zcc, zcd, ptrCells_some, F17, q2.sb, q2.se.shut, q2.sd.shut, q2.se.len, q2.sd.len, buildOp, fillV, Lay.place, Bool.or_self, Bool.or_false, Bool.false_or, decide_not, ne_eq, not_true_eq_false, decide_eq_true_eq, Nat.lt_irrefl]
    rw [wpCall_eq c3]
    simp only [WW, partV, eqCells, eqLf, minV, maxV, ifcV, zaa, zab, zac, zad, zae, zaf, zag, zah, zai, ofConst, ofConst1, List.replicate, zaj, zak, loadOp, Go.Abs.loadCells, binV, zal, pickV, zam, zan, zao, zap, zaq, zar, zas, zat, zau, outR, resAll, resOne, zav, zaw, zax, zay, zaz, zba, zbb, zbc, zbd, zbe, zbf, zbg, zbh, zbi, zbj, zbk, storeOp, storeCell, overlay, zbl, zbm, zbn, lookupOp, keyT, okRes, mapUpdateOp, zbo, zbp, zbq, zbr, zbs, zbt, zbu, Nat.reduceSub, Nat.reduceAdd, Int.reduceLT, Int.reduceLE, Int.reduceAdd, Int.reduceSub, Int.reduceToNat, Int.reduceBEq, Int.reduceBNe, Int.reduceMul, Nat.reduceBEq, Nat.reduceBNe, Nat.reduceLT, Nat.reduceLeDiff, Nat.reduceMul, Nat.reduceEqDiff, WD, effB, effH, isPriv, isHeap, isImm, zbx, zby, zbz, chkO, setD, dslot, zca, zcb, zcc, zcd, ptrCells_some, F17, q3.sb, q3.se.shut, q3.sd.shut, q3.se.len, q3.sd.len, buildOp, fillV, Lay.place, Bool.or_self, Bool.or_false, Bool.false_or, decide_not, ne_eq, not_true_eq_false, decide_eq_true_eq, Nat.lt_irrefl]
    rw [wpCall_eq c4]
    simp only [WW, partV, eqCells, eqLf, minV, maxV, ifcV, zaa, zab, zac, zad, zae, zaf, zag, zah, zai, ofConst, ofConst1, List.replicate, zaj, zak, loadOp, Go.Abs.loadCells, binV, zal, pickV, zam, zan, zao, zap, zaq, zar, zas, zat, zau, outR, resAll, resOne, zav, zaw, zax, zay, zaz, zba, zbb, zbc, zbd, zbe, zbf, zbg, zbh, zbi, zbj, zbk, storeOp, storeCell, overlay, zbl, zbm, zbn, lookupOp, keyT, okRes, mapUpdateOp, zbo, zbp, zbq, zbr, zbs, zbt, zbu, Nat.reduceSub, Nat.reduceAdd, Int.reduceLT, Int.reduceLE, Int.reduceAdd, Int.reduceSub, Int.reduceToNat, Int.reduceBEq, Int.reduceBNe, Int.reduceMul, Nat.reduceBEq, Nat.reduceBNe, Nat.reduceLT, Nat.reduceLeDiff, Nat.reduceMul, Nat.reduceEqDiff, WD, effB, effH, isPriv, isHeap, isImm, zbx, zby, zbz, chkO, setD, dslot, zca, zcb, zcc, zcd, ptrCells_some, F17, q4.sb, q4.se.shut, q4.sd.shut, q4.se.len, q4.sd.len, buildOp, fillV, Lay.place, Bool.or_self, Bool.or_false, Bool.false_or, decide_not, ne_eq, not_true_eq_false, decide_eq_true_eq, Nat.lt_irrefl]
    rw [wpCall_eq c5]
    simp only [WW, partV, eqCells, eqLf, minV, maxV, ifcV, zaa, zab, zac, zad, zae, zaf, zag, zah, zai, ofConst, ofConst1, List.replicate, zaj, zak, loadOp, Go.Abs.loadCells, binV, zal, pickV, zam, zan, zao, zap, zaq, zar, zas, zat, zau, outR, resAll, resOne, zav, zaw, zax, zay, zaz, zba, zbb, zbc, zbd, zbe, zbf, zbg, zbh, zbi, zbj, zbk, storeOp, storeCell, overlay, zbl, zbm, zbn, lookupOp, keyT, okRes, mapUpdateOp, zbo, zbp, zbq, zbr, zbs, zbt, zbu, Nat.reduceSub, Nat.reduceAdd, Int.reduceLT, Int.reduceLE, Int.reduceAdd, Int.reduceSub, Int.reduceToNat, Int.reduceBEq, Int.reduceBNe, Int.reduceMul, Nat.reduceBEq, Nat.reduceBNe, Nat.reduceLT, Nat.reduceLeDiff, Nat.reduceMul, Nat.reduceEqDiff, WD, effB, effH, isPriv, isHeap, isImm, zbx, zby, zbz, chkO, setD, dslot, zca, zcb, zcc, zcd, ptrCells_some, F17, q5.sb, q5.se.shut, q5.sd.shut, q5.se.len, q5.sd.len, buildOp, fillV, Lay.place, Bool.or_self, Bool.or_false, Bool.false_or, decide_not, ne_eq, not_true_eq_false, decide_eq_true_eq, Nat.lt_irrefl]
    rw [wpCall_eq c6]
    simp only [WW, partV, eqCells, eqLf, minV, maxV, ifcV, zaa, zab, zac, zad, zae, zaf, zag, zah, zai, ofConst, ofConst1, List.replicate, zaj, zak, loadOp, Go.Abs.loadCells, binV, zal, pickV, zam, zan, zao, zap, zaq, zar, zas, zat, zau, outR, resAll, resOne, zav, zaw, zax, zay, zaz, zba, zbb, zbc, zbd, zbe, zbf, zbg, zbh, zbi, zbj, zbk, storeOp, storeCell, overlay, zbl, zbm, zbn, lookupOp, keyT, okRes, mapUpdateOp, zbo, zbp, zbq, zbr, zbs, zbt, zbu, Nat.reduceSub, Nat.reduceAdd, Int.reduceLT, Int.reduceLE, Int.reduceAdd, Int.reduceSub, Int.reduceToNat, Int.reduceBEq, Int.reduceBNe, Int.reduceMul, Nat.reduceBEq, Nat.reduceBNe, Nat.reduceLT, Nat.reduceLeDiff, Nat.reduceMul, Nat.reduceEqDiff, WD, effB, effH, isPriv, isHeap, isImm, zbx, zby, zbz, chkO, setD, dslot, zca, zcb, zcc, zcd, ptrCells_some, F17, q6.sb, q6.se.shut, q6.sd.shut, q6.se.len, q6.sd.len, buildOp, fillV, Lay.place, Bool.or_self, Bool.or_false, Bool.false_or, decide_not, ne_eq, not_true_eq_false, decide_eq_true_eq, Nat.lt_irrefl]
    rw [wpCall_eq c7]
    simp only [WW, partV, eqCells, eqLf, minV, maxV, ifcV, zaa, zab, zac, zad, zae, zaf, zag, zah, zai, ofConst, ofConst1, List.replicate, zaj, zak, loadOp, Go.Abs.loadCells, binV, zal, pickV, zam, zan, zao, zap, zaq, zar, zas, zat, zau, outR, resAll, resOne, zav, zaw, zax, zay, zaz, zba, zbb, zbc, zbd, zbe, zbf, zbg, zbh, zbi, zbj, zbk, storeOp, storeCell, overlay, zbl, zbm, zbn, lookupOp, keyT, okRes, mapUpdateOp, zbo, zbp, zbq, zbr, zbs, zbt, zbu, Nat.reduceSub, Nat.reduceAdd, Int.reduceLT, Int.reduceLE, Int.reduceAdd, Int.reduceSub, Int.reduceToNat, Int.reduceBEq, Int.reduceBNe, Int.reduceMul, Nat.reduceBEq, Nat.reduceBNe, Nat.reduceLT, Nat.reduceLeDiff, Nat.reduceMul, Nat.reduceEqDiff, WD, effB, effH, isPriv, isHeap, isImm, zbx, zby, zbz, chkO, setD, dslot, zca, zcb, zcc, zcd, ptrCells_some, F17, q7.sb, q7.se.shut, q7.sd.shut, q7.se.len, q7.sd.len, buildOp, fillV, Lay.place, Bool.or_self, Bool.or_false, Bool.false_or, decide_not, ne_eq, not_true_eq_false, decide_eq_true_eq, Nat.lt_irrefl]
    rw [wpCall_eq c8]
    simp only [WW, partV, eqCells, eqLf, minV, maxV, ifcV, zaa, zab, zac, zad, zae, zaf, zag, zah, zai, ofConst, ofConst1, List.replicate, zaj, zak, loadOp, Go.Abs.loadCells, binV, zal, pickV, zam, zan, zao, zap, zaq, zar, zas, zat, zau, outR, resAll, resOne, zav, zaw, zax, zay, zaz, zba, zbb, zbc, zbd, zbe, zbf, zbg, zbh, zbi, zbj, zbk, storeOp, storeCell, overlay, zbl, zbm, zbn, lookupOp, keyT, okRes, mapUpdateOp, zbo, zbp, zbq, zbr, zbs, zbt, zbu, Nat.reduceSub, Nat.reduceAdd, Int.reduceLT, Int.reduceLE, Int.reduceAdd, Int.reduceSub, Int.reduceToNat, Int.reduceBEq, Int.reduceBNe, Int.reduceMul, Nat.reduceBEq, Nat.reduceBNe, Nat.reduceLT, Nat.reduceLeDiff, Nat.reduceMul, Nat.reduceEqDiff, WD, effB, effH, isPriv, isHeap, isImm, zbx, zby, zbz, chkO, setD, dslot, zca, zcb, zcc, zcd, ptrCells_some, F17, hbe, he', buildOp, fillV, Lay.place, Bool.or_self, Bool.or_false, Bool.false_or, decide_not, ne_eq, not_true_eq_false, decide_eq_true_eq, Nat.lt_irrefl]
    exact ⟨xe, xd, E, D, q8, fun q => absurd q he⟩
theorem one_K0 {G H : Hp} {r q : Nat} {x : V} {B : List UInt8} {a : Nat} {xe xd : V} {E : List Ent} {D : List Int} (h : QS G H r q x B (a, 0) xe xd E D) (hB : B.length < 4294967296) (hEl : E.length < 4294967296) (hDl : D.length < 4294967296) (ht0 : preB (B.drop a) [112] = false) (ht1 : preB (B.drop a) [116, 105] = true) (hc : B[(wantM B [116, 105] (a, 0)).1]? = none) :
    wpCall EW 17 [.ptr r 0 0, .ptr q 0 0] H (fun out H' => out = .ret (.tup []) false ∧ OneR G r q x B E D (oneK B E.length D.length a) H') := by
  have hb1 : H[r]? = some (.cells [.agg [x, .int .i64 (a : Int), .int .i64 0]]) := h.rs.blk
  have hx := h.rs.txt.rd
  have hle : a ≤ B.length := h.rs.le
  have hsl : ∀ st, sliceOp Try.prog st H 22 x (some (.int .i64 (a : Nat))) none none = some (dropV x a) := fun st => (slice_lo (P := Try.prog) (st := st) (t := 22) (e := 5) (by kernel_rfl) (by kernel_rfl) h.rs.txt h.wd hle).1
  have hy := (slice_lo (P := Try.prog) (st := ⟨[], [], []⟩) (t := 22) (e := 5) (by kernel_rfl) (by kernel_rfl) h.rs.txt h.wd hle).2
  have hyx : ∀ i, bx (dropV x a) = some i → bx x = some i := fun i hi => bx_drop hi
  have hpre0 : EW 26 [dropV x a, .sl (H).length 0 1] (H ++ [Blk.cells [.int .u8 112]]) = some (.ret (.bool false) false, (H ++ [Blk.cells [.int .u8 112]])) := by
    have hyS : Sx (H ++ [Blk.cells [.int .u8 112]]) (dropV x a) (by8 (B.drop a)) := (hy.1.app _)
    have hyW : Wd (H ++ [Blk.cells [.int .u8 112]]) (dropV x a) := by
      intro id lo len es e1 e2
      have hlt := h.xl id (hyx id (by rw [e1]; rfl))
      refine hy.2 id lo len es e1 ?_
      rw [← e2]
      skip
      rw [List.getElem?_append_left hlt]
    have hz : Rd (H ++ [Blk.cells [.int .u8 112]]) (.sl (H).length 0 1) (by8 [112]) := Rd.whole (es := by8 [112]) (by rw [List.getElem?_append_right (Nat.le_refl _), Nat.sub_self]; rfl)
    have := prefix_eq hyS hyW hz
    rwa [ht0] at this
  have hpre1 : EW 26 [dropV x a, .sl ((H ++ [Blk.cells [.int .u8 112]])).length 0 2] ((H ++ [Blk.cells [.int .u8 112]]) ++ [Blk.cells [.int .u8 116, .int .u8 105]]) = some (.ret (.bool true) false, ((H ++ [Blk.cells [.int .u8 112]]) ++ [Blk.cells [.int .u8 116, .int .u8 105]])) := by
    have hyS : Sx ((H ++ [Blk.cells [.int .u8 112]]) ++ [Blk.cells [.int .u8 116, .int .u8 105]]) (dropV x a) (by8 (B.drop a)) := ((hy.1.app _).app _)
    have hyW : Wd ((H ++ [Blk.cells [.int .u8 112]]) ++ [Blk.cells [.int .u8 116, .int .u8 105]]) (dropV x a) := by
      intro id lo len es e1 e2
      have hlt := h.xl id (hyx id (by rw [e1]; rfl))
      refine hy.2 id lo len es e1 ?_
      rw [← e2]
      simp only [List.append_assoc]
      rw [List.getElem?_append_left hlt]
    have hz : Rd ((H ++ [Blk.cells [.int .u8 112]]) ++ [Blk.cells [.int .u8 116, .int .u8 105]]) (.sl ((H ++ [Blk.cells [.int .u8 112]])).length 0 2) (by8 [116, 105]) := Rd.whole (es := by8 [116, 105]) (by rw [List.getElem?_append_right (Nat.le_refl _), Nat.sub_self]; rfl)
    have := prefix_eq hyS hyW hz
    rwa [ht1] at this
  have qA := ((h.app [Blk.cells [.int .u8 112]]).app [Blk.cells [.int .u8 116, .int .u8 105]])
  have c1 := want_eq qA.rs [116, 105] hB (by simp)
  have q1 := qA.toR (wantM_le (w := [116, 105]) qA.rs.le)
  obtain ⟨s1, hs1⟩ : ∃ s, s = wantM B [116, 105] (a, 0) := ⟨_, rfl⟩
  rw [← hs1] at c1 q1
  have c2 := want_eq q1.rs [99, 107] hB (by simp)
  have q2 := q1.toR (wantM_le (w := [99, 107]) q1.rs.le)
  rw [List.set_set] at c2 q2
  obtain ⟨s2, hs2⟩ : ∃ s, s = wantM B [99, 107] s1 := ⟨_, rfl⟩
  rw [← hs2] at c2 q2
  have c3 := more_eq q2.rs (E.length : Int) a hB
  have q3 := q2.toR (moreM_le (n := (E.length : Int)) (fr := a) q2.rs.le hle)
  rw [List.set_set] at c3 q3
  obtain ⟨s3, hs3⟩ : ∃ s, s = moreM B (E.length : Int) a s2 := ⟨_, rfl⟩
  rw [← hs3] at c3 q3
  have c4 := number_eq q3.rs (0) 1048576 hB (by omega) (by omega)
  have q4 := q3.toR (numM_le (low := (0)) (high := 1048576) (s := s3) q3.rs.le)
  rw [List.set_set] at c4 q4
  obtain ⟨⟨v4, s4⟩, hs4⟩ : ∃ s, s = numM B (0) 1048576 s3 := ⟨_, rfl⟩
  rw [← hs4] at c4 q4
  simp only at c4 q4
  have c5 := want_eq q4.rs [10] hB (by simp)
  have q5 := q4.toR (wantM_le (w := [10]) q4.rs.le)
  rw [List.set_set] at c5 q5
  obtain ⟨s5, hs5⟩ : ∃ s, s = wantM B [10] s4 := ⟨_, rfl⟩
  rw [← hs5] at c5 q5
  obtain ⟨a5, e5⟩ := s5
  have hbe : (((H ++ [Blk.cells [.int .u8 112]]) ++ [Blk.cells [.int .u8 116, .int .u8 105]]).set r (rb x (a5, e5)))[r]? = some (.cells [.agg [x, .int .i64 (a5 : Int), .int .i64 e5]]) := q5.rs.blk
  have hqe := q5.sb
  obtain ⟨a1, e1⟩ := s1
  rw [← hs1] at hc
  simp only at hc
  have hbm : ((H ++ [Blk.cells [.int .u8 112]] ++ [Blk.cells [.int .u8 116, .int .u8 105]]).set r (rb x (a1, e1)))[r]? = some (.cells [.agg [x, .int .i64 (a1 : Int), .int .i64 e1]]) := q1.rs.blk
  have hxm := q1.rs.txt.rd
  have hgm : decide ((a1 : Int) < (B.length : Int)) = false := decide_eq_false (by have := List.getElem?_eq_none_iff.1 hc; omega)
  have hone : oneK B E.length D.length a = ((a5, e5), [⟨2, v4, 0, 0, 0, 0⟩], []) := by
    unfold oneK
    simp only [← hs1, ← hs2, ← hs3, ← hs4, ← hs5]
  rw [hone]
  by_cases he : e5 = 0
  · subst he
    obtain ⟨xe', H2, hap, hq2, hs2, Q2⟩ := q5.entry ⟨2, v4, 0, 0, 0, 0⟩ hEl
    simp only [entV] at hap
    refine runs f17 b17 r17 n17 _ _ ?_
    simp only [bodyOf, Try.f17, Option.getD_some]
    simp only [WW, partV, eqCells, eqLf, minV, maxV, ifcV, zaa, zab, zac, zad, zae, zaf, zag, zah, zai, ofConst, ofConst1, List.replicate, zaj, zak, loadOp, Go.Abs.loadCells, binV, zal, pickV, zam, zan, zao, zap, zaq, zar, zas, zat, zau, outR, resAll, resOne, zav, zaw, zax, zay, zaz, zba, zbb, zbc, zbd, zbe, zbf, zbg, zbh, zbi, zbj, zbk, storeOp, storeCell, overlay, zbl, zbm, zbn, lookupOp, keyT, okRes, mapUpdateOp, zbo, zbp, zbq, zbr, zbs, zbt, zbu, Nat.reduceSub, Nat.reduceAdd, Int.reduceLT, Int.reduceLE, Int.reduceAdd, Int.reduceSub, Int.reduceToNat, Int.reduceBEq, Int.reduceBNe, Int.reduceMul, Nat.reduceBEq, Nat.reduceBNe, Nat.reduceLT, Nat.reduceLeDiff, Nat.reduceMul, Nat.reduceEqDiff, WD, effB, effH, isPriv, isHeap, isImm, zbx, zby, zbz, chkO, setD, dslot, zca, zcb, zcc, zcd, ptrCells_some, F17, hb1]
    refine wC_dr [] (by kernel_rfl) ?_
    simp only [WW, partV, eqCells, eqLf, minV, maxV, ifcV, zaa, zab, zac, zad, zae, zaf, zag, zah, zai, ofConst, ofConst1, List.replicate, zaj, zak, loadOp, Go.Abs.loadCells, binV, zal, pickV, zam, zan, zao, zap, zaq, zar, zas, zat, zau, outR, resAll, resOne, zav, zaw, zax, zay, zaz, zba, zbb, zbc, zbd, zbe, zbf, zbg, zbh, zbi, zbj, zbk, storeOp, storeCell, overlay, zbl, zbm, zbn, lookupOp, keyT, okRes, mapUpdateOp, zbo, zbp, zbq, zbr, zbs, zbt, zbu, Nat.reduceSub, Nat.reduceAdd, Int.reduceLT, Int.reduceLE, Int.reduceAdd, Int.reduceSub, Int.reduceToNat, Int.reduceBEq, Int.reduceBNe, Int.reduceMul, Nat.reduceBEq, Nat.reduceBNe, Nat.reduceLT, Nat.reduceLeDiff, Nat.reduceMul, Nat.reduceEqDiff, WD, effB, effH, isPriv, isHeap, isImm, zbx, zby, zbz, chkO, setD, dslot, zca, zcb, zcc, zcd, ptrCells_some, F17, hb1, hx.shutIn, hsl, Option.map_none, hy.1.rd.shutIn, buildOp, fillV, Lay.place, Bool.or_self, Bool.or_false, Bool.false_or, decide_not, ne_eq, not_true_eq_false, decide_eq_true_eq, Nat.lt_irrefl, buildSliceV, lits, srcV_eq, srcK_sl, srcK_str, srcSl_nils, srcSl_rsl, srcSl_sl, frow, zbv, zbw, List.all_nil, List.all_cons, rowV, Bool.false_and, Bool.and_false, not_false_eq_true, grows_lr, callOut_t, convertOp, get_last]
    rw [wpCall_eq hpre0]
    simp only [WW, partV, eqCells, eqLf, minV, maxV, ifcV, zaa, zab, zac, zad, zae, zaf, zag, zah, zai, ofConst, ofConst1, List.replicate, zaj, zak, loadOp, Go.Abs.loadCells, binV, zal, pickV, zam, zan, zao, zap, zaq, zar, zas, zat, zau, outR, resAll, resOne, zav, zaw, zax, zay, zaz, zba, zbb, zbc, zbd, zbe, zbf, zbg, zbh, zbi, zbj, zbk, storeOp, storeCell, overlay, zbl, zbm, zbn, lookupOp, keyT, okRes, mapUpdateOp, zbo, zbp, zbq, zbr, zbs, zbt, zbu, Nat.reduceSub, Nat.reduceAdd, Int.reduceLT, Int.reduceLE, Int.reduceAdd, Int.reduceSub, Int.reduceToNat, Int.reduceBEq, Int.reduceBNe, Int.reduceMul, Nat.reduceBEq, Nat.reduceBNe, Nat.reduceLT, Nat.reduceLeDiff, Nat.reduceMul, Nat.reduceEqDiff, WD, effB, effH, isPriv, isHeap, isImm, zbx, zby, zbz, chkO, setD, dslot, zca, zcb, zcc, zcd, ptrCells_some, F17, hy.1.rd.shutIn, buildOp, fillV, Lay.place, Bool.or_self, Bool.or_false, Bool.false_or, decide_not, ne_eq, not_true_eq_false, decide_eq_true_eq, Nat.lt_irrefl, buildSliceV, lits, srcV_eq, srcK_sl, srcK_str, srcSl_nils, srcSl_rsl, srcSl_sl, frow, zbv, zbw, List.all_nil, List.all_cons, rowV, Bool.false_and, Bool.and_false, not_false_eq_true, grows_lr, callOut_t, convertOp, get_last]
    rw [wpCall_eq hpre1]
    simp only [WW, partV, eqCells, eqLf, minV, maxV, ifcV, zaa, zab, zac, zad, zae, zaf, zag, zah, zai, ofConst, ofConst1, List.replicate, zaj, zak, loadOp, Go.Abs.loadCells, binV, zal, pickV, zam, zan, zao, zap, zaq, zar, zas, zat, zau, outR, resAll, resOne, zav, zaw, zax, zay, zaz, zba, zbb, zbc, zbd, zbe, zbf, zbg, zbh, zbi, zbj, zbk, storeOp, storeCell, overlay, zbl, zbm, zbn, lookupOp, keyT, okRes, mapUpdateOp, zbo, zbp, zbq, zbr, zbs, zbt, zbu, Nat.reduceSub, Nat.reduceAdd, Int.reduceLT, Int.reduceLE, Int.reduceAdd, Int.reduceSub, Int.reduceToNat, Int.reduceBEq, Int.reduceBNe, Int.reduceMul, Nat.reduceBEq, Nat.reduceBNe, Nat.reduceLT, Nat.reduceLeDiff, Nat.reduceMul, Nat.reduceEqDiff, WD, effB, effH, isPriv, isHeap, isImm, zbx, zby, zbz, chkO, setD, dslot, zca, zcb, zcc, zcd, ptrCells_some, F17, hy.1.rd.shutIn, buildOp, fillV, Lay.place, Bool.or_self, Bool.or_false, Bool.false_or, decide_not, ne_eq, not_true_eq_false, decide_eq_true_eq, Nat.lt_irrefl, buildSliceV, lits, srcV_eq, srcK_sl, srcK_str, srcSl_nils, srcSl_rsl, srcSl_sl, frow, zbv, zbw, List.all_nil, List.all_cons, rowV, Bool.false_and, Bool.and_false, not_false_eq_true, grows_lr, callOut_t, convertOp, get_last]
    rw [wpCall_eq c1]
    simp only [WW, partV, eqCells, eqLf, minV, maxV, ifcV, zaa, zab, zac, zad, zae, zaf, zag, zah, zai, ofConst, ofConst1, List.replicate, zaj, zak, loadOp, Go.Abs.loadCells, binV, zal, pickV, zam, zan, zao, zap, zaq, zar, zas, zat, zau, outR, resAll, resOne, zav, zaw, zax, zay, zaz, zba, zbb, zbc, zbd, zbe, zbf, zbg, zbh, zbi, zbj, zbk, storeOp, storeCell, overlay, zbl, zbm, zbn, lookupOp, keyT, okRes, mapUpdateOp, zbo, zbp, zbq, zbr, zbs, zbt, zbu, Nat.reduceSub, Nat.reduceAdd, Int.reduceLT, Int.reduceLE, Int.reduceAdd, Int.reduceSub, Int.reduceToNat, Int.reduceBEq, Int.reduceBNe, Int.reduceMul, Nat.reduceBEq, Nat.reduceBNe, Nat.reduceLT, Nat.reduceLeDiff, Nat.reduceMul, Nat.reduceEqDiff, WD, effB, effH, isPriv, isHeap, isImm, zbx, zby, zbz, chkO, setD, dslot, zca, zcb, zcc, zcd, ptrCells_some, F17, buildOp, fillV, Lay.place, Bool.or_self, Bool.or_false, Bool.false_or, decide_not, ne_eq, not_true_eq_false, decide_eq_true_eq, Nat.lt_irrefl]
    refine wC_dr [] (by kernel_rfl) ?_
    simp only [WW, partV, eqCells, eqLf, minV, maxV, ifcV, zaa, zab, zac, zad, zae, zaf, zag, zah, zai, ofConst, ofConst1, List.replicate, zaj, zak, loadOp, Go.Abs.loadCells, binV, zal, pickV, zam, zan, zao, zap, zaq, zar, zas, zat, zau, outR, resAll, resOne, zav, zaw, zax, zay, zaz, zba, zbb, zbc, zbd, zbe, zbf, zbg, zbh, zbi, zbj, zbk, storeOp, storeCell, overlay, zbl, zbm, zbn, lookupOp, keyT, okRes, mapUpdateOp, zbo, zbp, zbq, zbr, zbs, zbt, zbu, Nat.reduceSub, Nat.reduceAdd, Int.reduceLT, Int.reduceLE, Int.reduceAdd, Int.reduceSub, Int.reduceToNat, Int.reduceBEq, Int.reduceBNe, Int.reduceMul, Nat.reduceBEq, Nat.reduceBNe, Nat.reduceLT, Nat.reduceLeDiff, Nat.reduceMul, Nat.reduceEqDiff, WD, effB, effH, isPriv, isHeap, isImm, zbx, zby, zbz, chkO, setD, dslot, zca, zcb, zcc, zcd, ptrCells_some, F17, hbm, hxm.shutIn, hxm.len, by8_len, hgm, buildOp, fillV, Lay.place, Bool.or_self, Bool.or_false, Bool.false_or, decide_not, ne_eq, not_true_eq_false, decide_eq_true_eq, Nat.lt_irrefl]
    rw [wpCall_eq c2]
    simp only [WW, partV, eqCells, eqLf, minV, maxV, ifcV, zaa, zab, zac, zad, zae, zaf, zag, zah, zai, ofConst, ofConst1, List.replicate, zaj, zak, loadOp, Go.Abs.loadCells, binV, zal, pickV, zam, zan, zao, zap, zaq, zar, zas, zat, zau, outR, resAll, resOne, zav, zaw, zax, zay, zaz, zba, zbb, zbc, zbd, zbe, zbf, zbg, zbh, zbi, zbj, zbk, storeOp, storeCell, overlay, zbl, zbm, zbn, lookupOp, keyT, okRes, mapUpdateOp, zbo, zbp, zbq, zbr, zbs, zbt, zbu, Nat.reduceSub, Nat.reduceAdd, Int.reduceLT, Int.reduceLE, Int.reduceAdd, Int.reduceSub, Int.reduceToNat, Int.reduceBEq, Int.reduceBNe, Int.reduceMul, Nat.reduceBEq, Nat.reduceBNe, Nat.reduceLT, Nat.reduceLeDiff, Nat.reduceMul, Nat.reduceEqDiff, WD, effB, effH, isPriv, isHeap, isImm, zbx, zby, zbz, chkO, setD, dslot, zca, zcb, zcc, zcd, ptrCells_some, F17, q2.sb, q2.se.shut, q2.sd.shut, q2.se.len, q2.sd.len, buildOp, fillV, Lay.place, Bool.or_self, Bool.or_false, Bool.false_or, decide_not, ne_eq, not_true_eq_false, decide_eq_true_eq, Nat.lt_irrefl]
    rw [wpCall_eq c3]
    simp only [WW, partV, eqCells, eqLf, minV, maxV, ifcV, zaa, zab, zac, zad, zae, zaf, zag, zah, zai, ofConst, ofConst1, List.replicate, zaj, zak, loadOp, Go.Abs.loadCells, binV, zal, pickV, zam, zan, zao, zap, zaq, zar, zas, zat, zau, outR, resAll, resOne, zav, zaw, zax, zay, zaz, zba, zbb, zbc, zbd, zbe, zbf, zbg, zbh, zbi, zbj, zbk, storeOp, storeCell, overlay, zbl, zbm, zbn, lookupOp, keyT, okRes, mapUpdateOp, zbo, zbp, zbq, zbr, zbs, zbt, zbu, Nat.reduceSub, Nat.reduceAdd, Int.reduceLT, Int.reduceLE, Int.reduceAdd, Int.reduceSub, Int.reduceToNat, Int.reduceBEq, Int.reduceBNe, Int.reduceMul, Nat.reduceBEq, Nat.reduceBNe, Nat.reduceLT, Nat.reduceLeDiff, Nat.reduceMul, Nat.reduceEqDiff, WD, effB, effH, isPriv, isHeap, isImm, zbx, zby, zbz, chkO, setD, dslot, zca, zcb, zcc, zcd, ptrCells_some, F17, q3.sb, q3.se.shut, q3.sd.shut, q3.se.len, q3.sd.len, buildOp, fillV, Lay.place, Bool.or_self, Bool.or_false, Bool.false_or, decide_not, ne_eq, not_true_eq_false, decide_eq_true_eq, Nat.lt_irrefl]
    rw [wpCall_eq c4]
    simp only [WW, partV, eqCells, eqLf, minV, maxV, ifcV, zaa, zab, zac, zad, zae, zaf, zag, zah, zai, ofConst, ofConst1, List.replicate, zaj, zak, loadOp, Go.Abs.loadCells, binV, zal, pickV, zam, zan, zao, zap, zaq, zar, zas, zat, zau, outR, resAll, resOne, zav, zaw, zax, zay, zaz, zba, zbb, zbc, zbd, zbe, zbf, zbg, zbh, zbi, zbj, zbk, storeOp, storeCell, overlay, zbl, zbm, zbn, lookupOp, keyT, okRes, mapUpdateOp, zbo, zbp, zbq, zbr, zbs, zbt, zbu, Nat.reduceSub, Nat.reduceAdd, Int.reduceLT, Int.reduceLE, Int.reduceAdd, Int.reduceSub, Int.reduceToNat, Int.reduceBEq, Int.reduceBNe, Int.reduceMul, Nat.reduceBEq, Nat.reduceBNe, Nat.reduceLT, Nat.reduceLeDiff, Nat.reduceMul, Nat.reduceEqDiff, WD, effB, effH, isPriv, isHeap, isImm, zbx, zby, zbz, chkO, setD, dslot, zca, zcb, zcc, zcd, ptrCells_some, F17, q4.sb, q4.se.shut, q4.sd.shut, q4.se.len, q4.sd.len, buildOp, fillV, Lay.place, Bool.or_self, Bool.or_false, Bool.false_or, decide_not, ne_eq, not_true_eq_false, decide_eq_true_eq, Nat.lt_irrefl]
    rw [wpCall_eq c5]
    simp only [WW, partV, eqCells, eqLf, minV, maxV, ifcV, zaa, zab, zac, zad, zae, zaf, zag, zah, zai, ofConst, ofConst1, List.replicate, zaj, zak, loadOp, Go.Abs.loadCells, binV, zal, pickV, zam, zan, zao, zap, zaq, zar, zas, zat, zau, outR, resAll, resOne, zav, zaw, zax, zay, zaz, zba, zbb, zbc, zbd, zbe, zbf, zbg, zbh, zbi, zbj, zbk, storeOp, storeCell, overlay, zbl, zbm, zbn, lookupOp, keyT, okRes, mapUpdateOp, zbo, zbp, zbq, zbr, zbs, zbt, zbu, Nat.reduceSub, Nat.reduceAdd, Int.reduceLT, Int.reduceLE, Int.reduceAdd, Int.reduceSub, Int.reduceToNat, Int.reduceBEq, Int.reduceBNe, Int.reduceMul, Nat.reduceBEq, Nat.reduceBNe, Nat.reduceLT, Nat.reduceLeDiff, Nat.reduceMul, Nat.reduceEqDiff, WD, effB, effH, isPriv, isHeap, isImm, zbx, zby, zbz, chkO, setD, dslot, zca, zcb, zcc, zcd, ptrCells_some, F17, hbe, buildOp, fillV, Lay.place, Bool.or_self, Bool.or_false, Bool.false_or, decide_not, ne_eq, not_true_eq_false, decide_eq_true_eq, Nat.lt_irrefl]
    refine wC_dr alts17_29 (by kernel_rfl) ?_
    simp only [WW, partV, eqCells, eqLf, minV, maxV, ifcV, zaa, zab, zac, zad, zae, zaf, zag, zah, zai, ofConst, ofConst1, List.replicate, zaj, zak, loadOp, Go.Abs.loadCells, binV, zal, pickV, zam, zan, zao, zap, zaq, zar, zas, zat, zau, outR, resAll, resOne, zav, zaw, zax, zay, zaz, zba, zbb, zbc, zbd, zbe, zbf, zbg, zbh, zbi, zbj, zbk, storeOp, storeCell, overlay, zbl, zbm, zbn, lookupOp, keyT, okRes, mapUpdateOp, zbo, zbp, zbq, zbr, zbs, zbt, zbu, Nat.reduceSub, Nat.reduceAdd, Int.reduceLT, Int.reduceLE, Int.reduceAdd, Int.reduceSub, Int.reduceToNat, Int.reduceBEq, Int.reduceBNe, Int.reduceMul, Nat.reduceBEq, Nat.reduceBNe, Nat.reduceLT, Nat.reduceLeDiff, Nat.reduceMul, Nat.reduceEqDiff, WD, effB, effH, isPriv, isHeap, isImm, zbx, zby, zbz, chkO, setD, dslot, zca, zcb, zcc, zcd, ptrCells_some, F17, hbe, hqe, alts17_29, q5.se.shut, q5.sd.shut, buildSliceV, lits, srcV_eq, srcK_sl, srcK_str, srcSl_nils, srcSl_rsl, srcSl_sl, frow, zbv, zbw, List.all_nil, List.all_cons, rowV, Bool.false_and, Bool.and_false, ne_eq, not_false_eq_true, grows_lr, callOut_t, hap, hq2, hs2.shut, hs2.prom, hs2.cells1, hs2.width1, hs2.ok, storeHeap, heapSet, elemSet]
    exact ⟨xe', xd, _, D, Q2, fun _ => ⟨rfl, by simp⟩⟩
  · have he' : (e5 == 0) = false := by simpa using he
    refine runs f17 b17 r17 n17 _ _ ?_
    simp only [bodyOf, Try.f17, Option.getD_some]
    simp only [WW, partV, eqCells, eqLf, minV, maxV, ifcV, zaa, zab, zac, zad, zae, zaf, zag, zah, zai, ofConst, ofConst1, List.replicate, zaj, zak, loadOp, Go.Abs.loadCells, binV, zal, pickV, zam, zan, zao, zap, zaq, zar, zas, zat, zau, outR, resAll, resOne, zav, zaw, zax, zay, zaz, zba, zbb, zbc, zbd, zbe, zbf, zbg, zbh, zbi, zbj, zbk, storeOp, storeCell, overlay, zbl, zbm, zbn, lookupOp, keyT, okRes, mapUpdateOp, zbo, zbp, zbq, zbr, zbs, zbt, zbu, Nat.reduceSub, Nat.reduceAdd, Int.reduceLT, Int.reduceLE, Int.reduceAdd, Int.reduceSub, Int.reduceToNat, Int.reduceBEq, Int.reduceBNe, Int.reduceMul, Nat.reduceBEq, Nat.reduceBNe, Nat.reduceLT, Nat.reduceLeDiff, Nat.reduceMul, Nat.reduceEqDiff, WD, effB, effH, isPriv, isHeap, isImm, zbx, zby, zbz, chkO, setD, dslot, zca, zcb, zcc, zcd, ptrCells_some, F17, hb1]
    refine wC_dr [] (by kernel_rfl) ?_
    simp only [WW, partV, eqCells, eqLf, minV, maxV, ifcV, zaa, zab, zac, zad, zae, zaf, zag, zah, zai, ofConst, ofConst1, List.replicate, zaj, zak, loadOp, Go.Abs.loadCells, binV, zal, pickV, zam, zan, zao, zap, zaq, zar, zas, zat, zau, outR, resAll, resOne, zav, zaw, zax, zay, zaz, zba, zbb, zbc, zbd, zbe, zbf, zbg, zbh, zbi, zbj, zbk, storeOp, storeCell, overlay, zbl, zbm, zbn, lookupOp, keyT, okRes, mapUpdateOp, zbo, zbp, zbq, zbr, zbs, zbt, zbu, Nat.reduceSub, Nat.reduceAdd, Int.reduceLT, Int.reduceLE, Int.reduceAdd, Int.reduceSub, Int.reduceToNat, Int.reduceBEq, Int.reduceBNe, Int.reduceMul, Nat.reduceBEq, Nat.reduceBNe, Nat.reduceLT, Nat.reduceLeDiff, Nat.reduceMul, Nat.reduceEqDiff, WD, effB, effH, isPriv, isHeap, isImm, zbx, zby, zbz, chkO, setD, dslot, zca, zcb, zcc, zcd, ptrCells_some, F17, hb1, hx.shutIn, hsl, Option.map_none, hy.1.rd.shutIn, buildOp, fillV, Lay.place, Bool.or_self, Bool.or_false, Bool.false_or, decide_not, ne_eq, not_true_eq_false, decide_eq_true_eq, Nat.lt_irrefl, buildSliceV, lits, srcV_eq, srcK_sl, srcK_str, srcSl_nils, srcSl_rsl, srcSl_sl, frow, zbv, zbw, List.all_nil, List.all_cons, rowV, Bool.false_and, Bool.and_false, not_false_eq_true, grows_lr, callOut_t, convertOp, get_last]
    rw [wpCall_eq hpre0]
    simp only [WW, partV, eqCells, eqLf, minV, maxV, ifcV, zaa, zab, zac, zad, zae, zaf, zag, zah, zai, ofConst, ofConst1, List.replicate, zaj, zak, loadOp, Go.Abs.loadCells, binV, zal, pickV, zam, zan, zao, zap, zaq, zar, zas, zat, zau, outR, resAll, resOne, zav, zaw, zax, zay, zaz, zba, zbb, zbc, zbd, zbe, zbf, zbg, zbh, zbi, zbj, zbk, storeOp, storeCell, overlay, zbl, zbm, zbn, lookupOp, keyT, okRes, mapUpdateOp, zbo, zbp, zbq, zbr, zbs, zbt, zbu, Nat.reduceSub, Nat.reduceAdd, Int.reduceLT, Int.reduceLE, Int.reduceAdd, Int.reduceSub, Int.reduceToNat, Int.reduceBEq, Int.reduceBNe, Int.reduceMul, Nat.reduceBEq, Nat.reduceBNe, Nat.reduceLT, Nat.reduceLeDiff, Nat.reduceMul, Nat.reduceEqDiff, WD, effB, effH, isPriv, isHeap, isImm, zbx, zby, zbz, chkO, setD, dslot, zca, zcb, zcc, zcd, ptrCells_some, F17, hy.1.rd.shutIn, buildOp, fillV, Lay.place, Bool.or_self, Bool.or_false, Bool.false_or, decide_not, ne_eq, not_true_eq_false, decide_eq_true_eq, Nat.lt_irrefl, buildSliceV, lits, srcV_eq, srcK_sl, srcK_str, srcSl_nils, srcSl_rsl, srcSl_sl, frow, zbv, zbw, List.all_nil, List.all_cons, rowV, Bool.false_and, Bool.and_false, not_false_eq_true, grows_lr, callOut_t, convertOp, get_last]
    rw [wpCall_eq hpre1]
    simp only [WW, partV, eqCells, eqLf, minV, maxV, ifcV, zaa, zab, zac, zad, zae, zaf, zag, zah, zai, ofConst, ofConst1, List.replicate, zaj, zak, loadOp, Go.Abs.loadCells, binV, zal, pickV, zam, zan, zao, zap, zaq, zar, zas, zat, zau, outR, resAll, resOne, zav, zaw, zax, zay, zaz, zba, zbb, zbc, zbd, zbe, zbf, zbg, zbh, zbi, zbj, zbk, storeOp, storeCell, overlay, zbl, zbm, zbn, lookupOp, keyT, okRes, mapUpdateOp, zbo, zbp, zbq, zbr, zbs, zbt, zbu, Nat.reduceSub, Nat.reduceAdd, Int.reduceLT, Int.reduceLE, Int.reduceAdd, Int.reduceSub, Int.reduceToNat, Int.reduceBEq, Int.reduceBNe, Int.reduceMul, Nat.reduceBEq, Nat.reduceBNe, Nat.reduceLT, Nat.reduceLeDiff, Nat.reduceMul, Nat.reduceEqDiff, WD, effB, effH, isPriv, isHeap, isImm, zbx, zby, zbz, chkO, setD, dslot, zca, zcb, zcc, zcd, ptrCells_some, F17, hy.1.rd.shutIn, buildOp, fillV, Lay.place, Bool.or_self, Bool.or_false, Bool.false_or, decide_not, ne_eq, not_true_eq_false, decide_eq_true_eq, Nat.lt_irrefl, buildSliceV, lits, srcV_eq, srcK_sl, srcK_str, srcSl_nils, srcSl_rsl, srcSl_sl, frow, zbv, zbw, List.all_nil, List.all_cons, rowV, Bool.false_and, Bool.and_false, not_false_eq_true, grows_lr, callOut_t, convertOp, get_last]
    rw [wpCall_eq c1]
    simp only [WW, partV, eqCells, eqLf, minV, maxV, ifcV, zaa, zab, zac, zad, zae, zaf, zag, zah, zai, ofConst, ofConst1, List.replicate, zaj, zak, loadOp, Go.Abs.loadCells, binV, zal, pickV, zam, zan, zao, zap, zaq, zar, zas, zat, zau, outR, resAll, resOne, zav, zaw, zax, zay, zaz, zba, zbb, zbc, zbd, zbe, zbf, zbg, zbh, zbi, zbj, zbk, storeOp, storeCell, overlay, zbl, zbm, zbn, lookupOp, keyT, okRes, mapUpdateOp, zbo, zbp, zbq, zbr, zbs, zbt, zbu, Nat.reduceSub, Nat.reduceAdd, Int.reduceLT, Int.reduceLE, Int.reduceAdd, Int.reduceSub, Int.reduceToNat, Int.reduceBEq, Int.reduceBNe, Int.reduceMul, Nat.reduceBEq, Nat.reduceBNe, Nat.reduceLT, Nat.reduceLeDiff, Nat.reduceMul, Nat.reduceEqDiff, WD, effB, effH, isPriv, isHeap, isImm, zbx, zby, zbz, chkO, setD, dslot, zca, zcb, zcc, zcd, ptrCells_some, F17, buildOp, fillV, Lay.place, Bool.or_self, Bool.or_false, Bool.false_or, decide_not, ne_eq, not_true_eq_false, decide_eq_true_eq, Nat.lt_irrefl]
    refine wC_dr [] (by kernel_rfl) ?_
    simp only [WW, partV, eqCells, eqLf, minV, maxV, ifcV, zaa, zab, zac, zad, zae, zaf, zag, zah, zai, ofConst, ofConst1, List.replicate, zaj, zak, loadOp, Go.Abs.loadCells, binV, zal, pickV, zam, zan, zao, zap, zaq, zar, zas, zat, zau, outR, resAll, resOne, zav, zaw, zax, zay, zaz, zba, zbb, zbc, zbd, zbe, zbf, zbg, zbh, zbi, zbj, zbk, storeOp, storeCell, overlay, zbl, zbm, zbn, lookupOp, keyT, okRes, mapUpdateOp, zbo, zbp, zbq, zbr, zbs, zbt, zbu, Nat.reduceSub, Nat.reduceAdd, Int.reduceLT, Int.reduceLE, Int.reduceAdd, Int.reduceSub, Int.reduceToNat, Int.reduceBEq, Int.reduceBNe, Int.reduceMul, Nat.reduceBEq, Nat.reduceBNe, Nat.reduceLT, Nat.reduceLeDiff, Nat.reduceMul, Nat.reduceEqDiff, WD, effB, effH, isPriv, isHeap, isImm, zbx, zby, zbz, chkO, setD, dslot, zca, zcb, zcc, zcd, ptrCells_some, F17, hbm, hxm.shutIn, hxm.len, by8_len, hgm, buildOp, fillV, Lay.place, Bool.or_self, Bool.or_false, Bool.false_or, decide_not, ne_eq, not_true_eq_false, decide_eq_true_eq, Nat.lt_irrefl]
    rw [wpCall_eq c2]
    simp only [WW, partV, eqCells, eqLf, minV, maxV, ifcV, zaa, zab, zac, zad, zae, zaf, zag, zah, zai, ofConst, ofConst1, List.replicate, zaj, zak, loadOp, Go.Abs.loadCells, binV, zal, pickV, zam, zan, zao, zap, zaq, zar, zas, zat, zau, outR, resAll, resOne, zav, zaw, zax, zay, zaz, zba, zbb, zbc, zbd, zbe, zbf, zbg, zbh, zbi, zbj, zbk, storeOp, storeCell, overlay, zbl, zbm, zbn, lookupOp, keyT, okRes, mapUpdateOp, zbo, zbp, zbq, zbr, zbs, zbt, zbu, Nat.reduceSub, Nat.reduceAdd, Int.reduceLT, Int.reduceLE, Int.reduceAdd, Int.reduceSub, Int.reduceToNat, Int.reduceBEq, Int.reduceBNe, Int.reduceMul, Nat.reduceBEq, Nat.reduceBNe, Nat.reduceLT, Nat.reduceLeDiff, Nat.reduceMul, Nat.reduceEqDiff, WD, effB, effH, isPriv, isHeap, isImm, zbx, zby, zbz, chkO, setD, dslot, zca, zcb, zcc, zcd, ptrCells_some, F17, q2.sb, q2.se.shut, q2.sd.shut, q2.se.len, q2.sd.len, buildOp, fillV, Lay.place, Bool.or_self, Bool.or_false, Bool.false_or, decide_not, ne_eq, not_true_eq_false, decide_eq_true_eq, Nat.lt_irrefl]
    rw [wpCall_eq c3]
    simp only [WW, partV, eqCells, eqLf, minV, maxV, ifcV, zaa, zab, zac, zad, zae, zaf, zag, zah, zai, ofConst, ofConst1, List.replicate, zaj, zak, loadOp, Go.Abs.loadCells, binV, zal, pickV, zam, zan, zao, zap, zaq, zar, zas, zat, zau, outR, resAll, resOne, zav, zaw, zax, zay, zaz, zba, zbb, zbc, zbd, zbe, zbf, zbg, zbh, zbi, zbj, zbk, storeOp, storeCell, overlay, zbl, zbm, zbn, lookupOp, keyT, okRes, mapUpdateOp, zbo, zbp, zbq, zbr, zbs, zbt, zbu, Nat.reduceSub, Nat.reduceAdd, Int.reduceLT, Int.reduceLE, Int.reduceAdd, Int.reduceSub, Int.reduceToNat, Int.reduceBEq, Int.reduceBNe, Int.reduceMul, Nat.reduceBEq, Nat.reduceBNe, Nat.reduceLT, Nat.reduceLeDiff, Nat.reduceMul, Nat.reduceEqDiff, WD, effB, effH, isPriv, isHeap, isImm, zbx, zby, zbz, chkO, setD, dslot, zca, zcb, zcc, zcd, ptrCells_some, F17, q3.sb, q3.se.shut, q3.sd.shut, q3.se.len, q3.sd.len, buildOp, fillV, Lay.place, Bool.or_self, Bool.or_false, Bool.false_or, decide_not, ne_eq, not_true_eq_false, decide_eq_true_eq, Nat.lt_irrefl]
    rw [wpCall_eq c4]
    simp only [WW, partV, eqCells, eqLf, minV, maxV, ifcV, zaa, zab, zac, zad, zae, zaf, zag, zah, zai, ofConst, ofConst1, List.replicate, zaj, zak, loadOp, Go.Abs.loadCells, binV, zal, pickV, zam, zan, zao, zap, zaq, zar, zas, zat, zau, outR, resAll, resOne, zav, zaw, zax, zay, zaz, zba, zbb, zbc, zbd, zbe, zbf, zbg, zbh, zbi, zbj, zbk, storeOp, storeCell, overlay, zbl, zbm, zbn, lookupOp, keyT, okRes, mapUpdateOp, zbo, zbp, zbq, zbr, zbs, zbt, zbu, Nat.reduceSub, Nat.reduceAdd, Int.reduceLT, Int.reduceLE, Int.reduceAdd, Int.reduceSub, Int.reduceToNat, Int.reduceBEq, Int.reduceBNe, Int.reduceMul, Nat.reduceBEq, Nat.reduceBNe, Nat.reduceLT, Nat.reduceLeDiff, Nat.reduceMul, Nat.reduceEqDiff, WD, effB, effH, isPriv, isHeap, isImm, zbx, zby, zbz, chkO, setD, dslot, zca, zcb, zcc, zcd, ptrCells_some, F17, q4.sb, q4.se.shut, q4.sd.shut, q4.se.len, q4.sd.len, buildOp, fillV, Lay.place, Bool.or_self, Bool.or_false, Bool.false_or, decide_not, ne_eq, not_true_eq_false, decide_eq_true_eq, Nat.lt_irrefl]
    rw [wpCall_eq c5]
    simp only [WW, partV, eqCells, eqLf, minV, maxV, ifcV, zaa, zab, zac, zad, zae, zaf, zag, zah, zai, ofConst, ofConst1, List.replicate, zaj, zak, loadOp, Go.Abs.loadCells, binV, zal, pickV, zam, zan, zao, zap, zaq, zar, zas, zat, zau, outR, resAll, resOne, zav, zaw, zax, zay, zaz, zba, zbb, zbc, zbd, zbe, zbf, zbg, zbh, zbi, zbj, zbk, storeOp, storeCell, overlay, zbl, zbm, zbn, lookupOp, keyT, okRes, mapUpdateOp, zbo, zbp, zbq, zbr, zbs, zbt, zbu, Nat.reduceSub, Nat.reduceAdd, Int.reduceLT, Int.reduceLE, Int.reduceAdd, Int.reduceSub, Int.reduceToNat, Int.reduceBEq, Int.reduceBNe, Int.reduceMul, Nat.reduceBEq, Nat.reduceBNe, Nat.reduceLT, Nat.reduceLeDiff, Nat.reduceMul, Nat.reduceEqDiff, WD, effB, effH, isPriv, isHeap, isImm, zbx, zby, zbz, chkO, setD, dslot, zca, zcb, zcc, zcd, ptrCells_some, F17, hbe, he', buildOp, fillV, Lay.place, Bool.or_self, Bool.or_false, Bool.false_or, decide_not, ne_eq, not_true_eq_false, decide_eq_true_eq, Nat.lt_irrefl]
    exact ⟨xe, xd, E, D, q5, fun q => absurd q he⟩
theorem one_K1 {G H : Hp} {r q : Nat} {x : V} {B : List UInt8} {a : Nat} {xe xd : V} {E : List Ent} {D : List Int} (h : QS G H r q x B (a, 0) xe xd E D) (hB : B.length < 4294967296) (hEl : E.length < 4294967296) (hDl : D.length < 4294967296) (ht0 : preB (B.drop a) [112] = false) (ht1 : preB (B.drop a) [116, 105] = true) {c : UInt8} (hc : B[(wantM B [116, 105] (a, 0)).1]? = some c) (hne : (c == 101) = false) :
    wpCall EW 17 [.ptr r 0 0, .ptr q 0 0] H (fun out H' => out = .ret (.tup []) false ∧ OneR G r q x B E D (oneK B E.length D.length a) H') := by
  have hb1 : H[r]? = some (.cells [.agg [x, .int .i64 (a : Int), .int .i64 0]]) := h.rs.blk
  have hx := h.rs.txt.rd
  have hle : a ≤ B.length := h.rs.le
  have hsl : ∀ st, sliceOp Try.prog st H 22 x (some (.int .i64 (a : Nat))) none none = some (dropV x a) := fun st => (slice_lo (P := Try.prog) (st := st) (t := 22) (e := 5) (by kernel_rfl) (by kernel_rfl) h.rs.txt h.wd hle).1
  have hy := (slice_lo (P := Try.prog) (st := ⟨[], [], []⟩) (t := 22) (e := 5) (by kernel_rfl) (by kernel_rfl) h.rs.txt h.wd hle).2
  have hyx : ∀ i, bx (dropV x a) = some i → bx x = some i := fun i hi => bx_drop hi
  have hpre0 : EW 26 [dropV x a, .sl (H).length 0 1] (H ++ [Blk.cells [.int .u8 112]]) = some (.ret (.bool false) false, (H ++ [Blk.cells [.int .u8 112]])) := by
    have hyS : Sx (H ++ [Blk.cells [.int .u8 112]]) (dropV x a) (by8 (B.drop a)) := (hy.1.app _)
    have hyW : Wd (H ++ [Blk.cells [.int .u8 112]]) (dropV x a) := by
      intro id lo len es e1 e2
      have hlt := h.xl id (hyx id (by rw [e1]; rfl))
      refine hy.2 id lo len es e1 ?_
      rw [← e2]
      skip
      rw [List.getElem?_append_left hlt]
    have hz : Rd (H ++ [Blk.cells [.int .u8 112]]) (.sl (H).length 0 1) (by8 [112]) := Rd.whole (es := by8 [112]) (by rw [List.getElem?_append_right (Nat.le_refl _), Nat.sub_self]; rfl)
    have := prefix_eq hyS hyW hz
    rwa [ht0] at this
  have hpre1 : EW 26 [dropV x a, .sl ((H ++ [Blk.cells [.int .u8 112]])).length 0 2] ((H ++ [Blk.cells [.int .u8 112]]) ++ [Blk.cells [.int .u8 116, .int .u8 105]]) = some (.ret (.bool true) false, ((H ++ [Blk.cells [.int .u8 112]]) ++ [Blk.cells [.int .u8 116, .int .u8 105]])) := by
    have hyS : Sx ((H ++ [Blk.cells [.int .u8 112]]) ++ [Blk.cells [.int .u8 116, .int .u8 105]]) (dropV x a) (by8 (B.drop a)) := ((hy.1.app _).app _)
    have hyW : Wd ((H ++ [Blk.cells [.int .u8 112]]) ++ [Blk.cells [.int .u8 116, .int .u8 105]]) (dropV x a) := by
      intro id lo len es e1 e2
      have hlt := h.xl id (hyx id (by rw [e1]; rfl))
      refine hy.2 id lo len es e1 ?_
      rw [← e2]
      simp only [List.append_assoc]
      rw [List.getElem?_append_left hlt]
    have hz : Rd ((H ++ [Blk.cells [.int .u8 112]]) ++ [Blk.cells [.int .u8 116, .int .u8 105]]) (.sl ((H ++ [Blk.cells [.int .u8 112]])).length 0 2) (by8 [116, 105]) := Rd.whole (es := by8 [116, 105]) (by rw [List.getElem?_append_right (Nat.le_refl _), Nat.sub_self]; rfl)
    have := prefix_eq hyS hyW hz
    rwa [ht1] at this
  have qA := ((h.app [Blk.cells [.int .u8 112]]).app [Blk.cells [.int .u8 116, .int .u8 105]])
  have c1 := want_eq qA.rs [116, 105] hB (by simp)
  have q1 := qA.toR (wantM_le (w := [116, 105]) qA.rs.le)
  obtain ⟨s1, hs1⟩ : ∃ s, s = wantM B [116, 105] (a, 0) := ⟨_, rfl⟩
  rw [← hs1] at c1 q1
  have c2 := want_eq q1.rs [99, 107] hB (by simp)
  have q2 := q1.toR (wantM_le (w := [99, 107]) q1.rs.le)
  rw [List.set_set] at c2 q2
  obtain ⟨s2, hs2⟩ : ∃ s, s = wantM B [99, 107] s1 := ⟨_, rfl⟩
  rw [← hs2] at c2 q2
  have c3 := more_eq q2.rs (E.length : Int) a hB
  have q3 := q2.toR (moreM_le (n := (E.length : Int)) (fr := a) q2.rs.le hle)
  rw [List.set_set] at c3 q3
  obtain ⟨s3, hs3⟩ : ∃ s, s = moreM B (E.length : Int) a s2 := ⟨_, rfl⟩
  rw [← hs3] at c3 q3
  have c4 := number_eq q3.rs (0) 1048576 hB (by omega) (by omega)
  have q4 := q3.toR (numM_le (low := (0)) (high := 1048576) (s := s3) q3.rs.le)
  rw [List.set_set] at c4 q4
  obtain ⟨⟨v4, s4⟩, hs4⟩ : ∃ s, s = numM B (0) 1048576 s3 := ⟨_, rfl⟩
  rw [← hs4] at c4 q4
  simp only at c4 q4
  have c5 := want_eq q4.rs [10] hB (by simp)
  have q5 := q4.toR (wantM_le (w := [10]) q4.rs.le)
  rw [List.set_set] at c5 q5
  obtain ⟨s5, hs5⟩ : ∃ s, s = wantM B [10] s4 := ⟨_, rfl⟩
  rw [← hs5] at c5 q5
  obtain ⟨a5, e5⟩ := s5
  have hbe : (((H ++ [Blk.cells [.int .u8 112]]) ++ [Blk.cells [.int .u8 116, .int .u8 105]]).set r (rb x (a5, e5)))[r]? = some (.cells [.agg [x, .int .i64 (a5 : Int), .int .i64 e5]]) := q5.rs.blk
  have hqe := q5.sb
  obtain ⟨a1, e1⟩ := s1
  rw [← hs1] at hc
  simp only at hc
  have hbm : ((H ++ [Blk.cells [.int .u8 112]] ++ [Blk.cells [.int .u8 116, .int .u8 105]]).set r (rb x (a1, e1)))[r]? = some (.cells [.agg [x, .int .i64 (a1 : Int), .int .i64 e1]]) := q1.rs.blk
  have hxm := q1.rs.txt.rd
  have hgm : decide ((a1 : Int) < (B.length : Int)) = true := decide_eq_true (by have := (List.getElem?_eq_some_iff.1 hc).1; omega)
  have hc8m : (by8 B)[a1]? = some (byteV c) := by unfold by8; rw [List.getElem?_map, hc]; rfl
  have hatm := hxm.at_ (sz := 1) hc8m rfl
  have h101 : (((c.toNat : Nat) : Int) == 101) = false := by rw [u8eq101, hne]
  have hone : oneK B E.length D.length a = ((a5, e5), [⟨2, v4, 0, 0, 0, 0⟩], []) := by
    unfold oneK
    simp only [← hs1, ← hs2, ← hs3, ← hs4, ← hs5]
  rw [hone]
  by_cases he : e5 = 0
  · subst he
    obtain ⟨xe', H2, hap, hq2, hs2, Q2⟩ := q5.entry ⟨2, v4, 0, 0, 0, 0⟩ hEl
    simp only [entV] at hap
    refine runs f17 b17 r17 n17 _ _ ?_
    simp only [bodyOf, Try.f17, Option.getD_some]
    simp only [WW, partV, eqCells, eqLf, minV, maxV, ifcV, zaa, zab, zac, zad, zae, zaf, zag, zah, zai, ofConst, ofConst1, List.replicate, zaj, zak, loadOp, Go.Abs.loadCells, binV, zal, pickV, zam, zan, zao, zap, zaq, zar, zas, zat, zau, outR, resAll, resOne, zav, zaw, zax, zay, zaz, zba, zbb, zbc, zbd, zbe, zbf, zbg, zbh, zbi, zbj, zbk, storeOp, storeCell, overlay, zbl, zbm, zbn, lookupOp, keyT, okRes, mapUpdateOp, zbo, zbp, zbq, zbr, zbs, zbt, zbu, Nat.reduceSub, Nat.reduceAdd, Int.reduceLT, Int.reduceLE, Int.reduceAdd, Int.reduceSub, Int.reduceToNat, Int.reduceBEq, Int.reduceBNe, Int.reduceMul, Nat.reduceBEq, Nat.reduceBNe, Nat.reduceLT, Nat.reduceLeDiff, Nat.reduceMul, Nat.reduceEqDiff, WD, effB, effH, isPriv, isHeap, isImm, zbx, zby, zbz, chkO, setD, dslot, zca, zcb, zcc, zcd, ptrCells_some, F17, hb1]
    refine wC_dr [] (by kernel_rfl) ?_
    simp only [WW, partV, eqCells, eqLf, minV, maxV, ifcV, zaa, zab, zac, zad, zae, zaf, zag, zah, zai, ofConst, ofConst1, List.replicate, zaj, zak, loadOp, Go.Abs.loadCells, binV, zal, pickV, zam, zan, zao, zap, zaq, zar, zas, zat, zau, outR, resAll, resOne, zav, zaw, zax, zay, zaz, zba, zbb, zbc, zbd, zbe, zbf, zbg, zbh, zbi, zbj, zbk, storeOp, storeCell, overlay, zbl, zbm, zbn, lookupOp, keyT, okRes, mapUpdateOp, zbo, zbp, zbq, zbr, zbs, zbt, zbu, Nat.reduceSub, Nat.reduceAdd, Int.reduceLT, Int.reduceLE, Int.reduceAdd, Int.reduceSub, Int.reduceToNat, Int.reduceBEq, Int.reduceBNe, Int.reduceMul, Nat.reduceBEq, Nat.reduceBNe, Nat.reduceLT, Nat.reduceLeDiff, Nat.reduceMul, Nat.reduceEqDiff, WD, effB, effH, isPriv, isHeap, isImm, zbx, zby, zbz, chkO, setD, dslot, zca, zcb, zcc, zcd, ptrCells_some, F17, hb1, hx.shutIn, hsl, Option.map_none, hy.1.rd.shutIn, buildOp, fillV, Lay.place, Bool.or_self, Bool.or_false, Bool.false_or, decide_not, ne_eq, not_true_eq_false, decide_eq_true_eq, Nat.lt_irrefl, buildSliceV, lits, srcV_eq, srcK_sl, srcK_str, srcSl_nils, srcSl_rsl, srcSl_sl, frow, zbv, zbw, List.all_nil, List.all_cons, rowV, Bool.false_and, Bool.and_false, not_false_eq_true, grows_lr, callOut_t, convertOp, get_last]
    rw [wpCall_eq hpre0]
    simp only [WW, partV, eqCells, eqLf, minV, maxV, ifcV, zaa, zab, zac, zad, zae, zaf, zag, zah, zai, ofConst, ofConst1, List.replicate, zaj, zak, loadOp, Go.Abs.loadCells, binV, zal, pickV, zam, zan, zao, zap, zaq, zar, zas, zat, zau, outR, resAll, resOne, zav, zaw, zax, zay, zaz, zba, zbb, zbc, zbd, zbe, zbf, zbg, zbh, zbi, zbj, zbk, storeOp, storeCell, overlay, zbl, zbm, zbn, lookupOp, keyT, okRes, mapUpdateOp, zbo, zbp, zbq, zbr, zbs, zbt, zbu, Nat.reduceSub, Nat.reduceAdd, Int.reduceLT, Int.reduceLE, Int.reduceAdd, Int.reduceSub, Int.reduceToNat, Int.reduceBEq, Int.reduceBNe, Int.reduceMul, Nat.reduceBEq, Nat.reduceBNe, Nat.reduceLT, Nat.reduceLeDiff, Nat.reduceMul, Nat.reduceEqDiff, WD, effB, effH, isPriv, isHeap, isImm, zbx, zby, zbz, chkO, setD, dslot, zca, zcb, zcc, zcd, ptrCells_some, F17, hy.1.rd.shutIn, buildOp, fillV, Lay.place, Bool.or_self, Bool.or_false, Bool.false_or, decide_not, ne_eq, not_true_eq_false, decide_eq_true_eq, Nat.lt_irrefl, buildSliceV, lits, srcV_eq, srcK_sl, srcK_str, srcSl_nils, srcSl_rsl, srcSl_sl, frow, zbv, zbw, List.all_nil, List.all_cons, rowV, Bool.false_and, Bool.and_false, not_false_eq_true, grows_lr, callOut_t, convertOp, get_last]
    rw [wpCall_eq hpre1]
    simp only [WW, partV, eqCells, eqLf, minV, maxV, ifcV, zaa, zab, zac, zad, zae, zaf, zag, zah, zai, ofConst, ofConst1, List.replicate, zaj, zak, loadOp, Go.Abs.loadCells, binV, zal, pickV, zam, zan, zao, zap, zaq, zar, zas, zat, zau, outR, resAll, resOne, zav, zaw, zax, zay, zaz, zba, zbb, zbc, zbd, zbe, zbf, zbg, zbh, zbi, zbj, zbk, storeOp, storeCell, overlay, zbl, zbm, zbn, lookupOp, keyT, okRes, mapUpdateOp, zbo, zbp, zbq, zbr, zbs, zbt, zbu, Nat.reduceSub, Nat.reduceAdd, Int.reduceLT, Int.reduceLE, Int.reduceAdd, Int.reduceSub, Int.reduceToNat, Int.reduceBEq, Int.reduceBNe, Int.reduceMul, Nat.reduceBEq, Nat.reduceBNe, Nat.reduceLT, Nat.reduceLeDiff, Nat.reduceMul, Nat.reduceEqDiff, WD, effB, effH, isPriv, isHeap, isImm, zbx, zby, zbz, chkO, setD, dslot, zca, zcb, zcc, zcd, ptrCells_some, F17, hy.1.rd.shutIn, buildOp, fillV, Lay.place, Bool.or_self, Bool.or_false, Bool.false_or, decide_not, ne_eq, not_true_eq_false, decide_eq_true_eq, Nat.lt_irrefl, buildSliceV, lits, srcV_eq, srcK_sl, srcK_str, srcSl_nils, srcSl_rsl, srcSl_sl, frow, zbv, zbw, List.all_nil, List.all_cons, rowV, Bool.false_and, Bool.and_false, not_false_eq_true, grows_lr, callOut_t, convertOp, get_last]
    rw [wpCall_eq c1]
    simp only [WW, partV, eqCells, eqLf, minV, maxV, ifcV, zaa, zab, zac, zad, zae, zaf, zag, zah, zai, ofConst, ofConst1, List.replicate, zaj, zak, loadOp, Go.Abs.loadCells, binV, zal, pickV, zam, zan, zao, zap, zaq, zar, zas, zat, zau, outR, resAll, resOne, zav, zaw, zax, zay, zaz, zba, zbb, zbc, zbd, zbe, zbf, zbg, zbh, zbi, zbj, zbk, storeOp, storeCell, overlay, zbl, zbm, zbn, lookupOp, keyT, okRes, mapUpdateOp, zbo, zbp, zbq, zbr, zbs, zbt, zbu, Nat.reduceSub, Nat.reduceAdd, Int.reduceLT, Int.reduceLE, Int.reduceAdd, Int.reduceSub, Int.reduceToNat, Int.reduceBEq, Int.reduceBNe, Int.reduceMul, Nat.reduceBEq, Nat.reduceBNe, Nat.reduceLT, Nat.reduceLeDiff, Nat.reduceMul, Nat.reduceEqDiff, WD, effB, effH, isPriv, isHeap, isImm, zbx, zby, zbz, chkO, setD, dslot, zca, zcb, zcc, zcd, ptrCells_some, F17, buildOp, fillV, Lay.place, Bool.or_self, Bool.or_false, Bool.false_or, decide_not, ne_eq, not_true_eq_false, decide_eq_true_eq, Nat.lt_irrefl]
    refine wC_dr [] (by kernel_rfl) ?_
    simp only [WW, partV, eqCells, eqLf, minV, maxV, ifcV, zaa, zab, zac, zad, zae, zaf, zag, zah, zai, ofConst, ofConst1, List.replicate, zaj, zak, loadOp, Go.Abs.loadCells, binV, zal, pickV, zam, zan, zao, zap, zaq, zar, zas, zat, zau, outR, resAll, resOne, zav, zaw, zax, zay, zaz, zba, zbb, zbc, zbd, zbe, zbf, zbg, zbh, zbi, zbj, zbk, storeOp, storeCell, overlay, zbl, zbm, zbn, lookupOp, keyT, okRes, mapUpdateOp, zbo, zbp, zbq, zbr, zbs, zbt, zbu, Nat.reduceSub, Nat.reduceAdd, Int.reduceLT, Int.reduceLE, Int.reduceAdd, Int.reduceSub, Int.reduceToNat, Int.reduceBEq, Int.reduceBNe, Int.reduceMul, Nat.reduceBEq, Nat.reduceBNe, Nat.reduceLT, Nat.reduceLeDiff, Nat.reduceMul, Nat.reduceEqDiff, WD, effB, effH, isPriv, isHeap, isImm, zbx, zby, zbz, chkO, setD, dslot, zca, zcb, zcc, zcd, ptrCells_some, F17, hbm, hxm.shutIn, hxm.len, by8_len, hgm, hatm.at1 hxm, hatm.cells, byteV, h101, buildOp, fillV, Lay.place, Bool.or_self, Bool.or_false, Bool.false_or, decide_not, ne_eq, not_true_eq_false, decide_eq_true_eq, Nat.lt_irrefl]
    rw [wpCall_eq c2]
    simp only [WW, partV, eqCells, eqLf, minV, maxV, ifcV, zaa, zab, zac, zad, zae, zaf, zag, zah, zai, ofConst, ofConst1, List.replicate, zaj, zak, loadOp, Go.Abs.loadCells, binV, zal, pickV, zam, zan, zao, zap, zaq, zar, zas, zat, zau, outR, resAll, resOne, zav, zaw, zax, zay, zaz, zba, zbb, zbc, zbd, zbe, zbf, zbg, zbh, zbi, zbj, zbk, storeOp, storeCell, overlay, zbl, zbm, zbn, lookupOp, keyT, okRes, mapUpdateOp, zbo, zbp, zbq, zbr, zbs, zbt, zbu, Nat.reduceSub, Nat.reduceAdd, Int.reduceLT, Int.reduceLE, Int.reduceAdd, Int.reduceSub, Int.reduceToNat, Int.reduceBEq, Int.reduceBNe, Int.reduceMul, Nat.reduceBEq, Nat.reduceBNe, Nat.reduceLT, Nat.reduceLeDiff, Nat.reduceMul, Nat.reduceEqDiff, WD, effB, effH, isPriv, isHeap, isImm, zbx, zby, zbz, chkO, setD, dslot, zca, zcb, zcc, zcd, ptrCells_some, F17, q2.sb, q2.se.shut, q2.sd.shut, q2.se.len, q2.sd.len, buildOp, fillV, Lay.place, Bool.or_self, Bool.or_false, Bool.false_or, decide_not, ne_eq, not_true_eq_false, decide_eq_true_eq, Nat.lt_irrefl]
    rw [wpCall_eq c3]
    simp only [WW, partV, eqCells, eqLf, minV, maxV, ifcV, zaa, zab, zac, zad, zae, zaf, zag, zah, zai, ofConst, ofConst1, List.replicate, zaj, zak, loadOp, Go.Abs.loadCells, binV, zal, pickV, zam, zan, zao, zap, zaq, zar, zas, zat, zau, outR, resAll, resOne, zav, zaw, zax, zay, zaz, zba, zbb, zbc, zbd, zbe, zbf, zbg, zbh, zbi, zbj, zbk, storeOp, storeCell, overlay, zbl, zbm, zbn, lookupOp, keyT, okRes, mapUpdateOp, zbo, zbp, zbq, zbr, zbs, zbt, zbu, Nat.reduceSub, Nat.reduceAdd, Int.reduceLT, Int.reduceLE, Int.reduceAdd, Int.reduceSub, Int.reduceToNat, Int.reduceBEq, Int.reduceBNe, Int.reduceMul, Nat.reduceBEq, Nat.reduceBNe, Nat.reduceLT, Nat.reduceLeDiff, Nat.reduceMul, Nat.reduceEqDiff, WD, effB, effH, isPriv, isHeap, isImm, zbx, zby, zbz, chkO, setD, dslot, zca, zcb, zcc, zcd, ptrCells_some, F17, q3.sb, q3.se.shut, q3.sd.shut, q3.se.len, q3.sd.len, buildOp, fillV, Lay.place, Bool.or_self, Bool.or_false, Bool.false_or, decide_not, ne_eq, not_true_eq_false, decide_eq_true_eq, Nat.lt_irrefl]
    rw [wpCall_eq c4]
    simp only [WW, partV, eqCells, eqLf, minV, maxV, ifcV, zaa, zab, zac, zad, zae, zaf, zag, zah, zai, ofConst, ofConst1, List.replicate, zaj, zak, loadOp, Go.Abs.loadCells, binV, zal, pickV, zam, zan, zao, zap, zaq, zar, zas, zat, zau, outR, resAll, resOne, zav, zaw, zax, zay, zaz, zba, zbb, zbc, zbd, zbe, zbf, zbg, zbh, zbi, zbj, zbk, storeOp, storeCell, overlay, zbl, zbm, zbn, lookupOp, keyT, okRes, mapUpdateOp, zbo, zbp, zbq, zbr, zbs, zbt, zbu, Nat.reduceSub, Nat.reduceAdd, Int.reduceLT, Int.reduceLE, Int.reduceAdd, Int.reduceSub, Int.reduceToNat, Int.reduceBEq, Int.reduceBNe, Int.reduceMul, Nat.reduceBEq, Nat.reduceBNe, Nat.reduceLT, Nat.reduceLeDiff, Nat.reduceMul, Nat.reduceEqDiff, WD, effB, effH, isPriv, isHeap, isImm, zbx, zby, zbz, chkO, setD, dslot, zca, zcb, zcc, zcd, ptrCells_some, F17, q4.sb, q4.se.shut, q4.sd.shut, q4.se.len, q4.sd.len, buildOp, fillV, Lay.place, Bool.or_self, Bool.or_false, Bool.false_or, decide_not, ne_eq, not_true_eq_false, decide_eq_true_eq, Nat.lt_irrefl]
    rw [wpCall_eq c5]
    simp only [WW, partV, eqCells, eqLf, minV, maxV, ifcV, zaa, zab, zac, zad, zae, zaf, zag, zah, zai, ofConst, ofConst1, List.replicate, zaj, zak, loadOp, Go.Abs.loadCells, binV, zal, pickV, zam, zan, zao, zap, zaq, zar, zas, zat, zau, outR, resAll, resOne, zav, zaw, zax, zay, zaz, zba, zbb, zbc, zbd, zbe, zbf, zbg, zbh, zbi, zbj, zbk, storeOp, storeCell, overlay, zbl, zbm, zbn, lookupOp, keyT, okRes, mapUpdateOp, zbo, zbp, zbq, zbr, zbs, zbt, zbu, Nat.reduceSub, Nat.reduceAdd, Int.reduceLT, Int.reduceLE, Int.reduceAdd, Int.reduceSub, Int.reduceToNat, Int.reduceBEq, Int.reduceBNe, Int.reduceMul, Nat.reduceBEq, Nat.reduceBNe, Nat.reduceLT, Nat.reduceLeDiff, Nat.reduceMul, Nat.reduceEqDiff, WD, effB, effH, isPriv, isHeap, isImm, zbx, zby, zbz, chkO, setD, dslot, zca, zcb, zcc, zcd, ptrCells_some, F17, hbe, buildOp, fillV, Lay.place, Bool.or_self, Bool.or_false, Bool.false_or, decide_not, ne_eq, not_true_eq_false, decide_eq_true_eq, Nat.lt_irrefl]
    refine wC_dr alts17_29 (by kernel_rfl) ?_
    simp only [WW, partV, eqCells, eqLf, minV, maxV, ifcV, zaa, zab, zac, zad, zae, zaf, zag, zah, zai, ofConst, ofConst1, List.replicate, zaj, zak, loadOp, Go.Abs.loadCells, binV, zal, pickV, zam, zan, zao, zap, zaq, zar, zas, zat, zau, outR, resAll, resOne, zav, zaw, zax, zay, zaz, zba, zbb, zbc, zbd, zbe, zbf, zbg, zbh, zbi, zbj, zbk, storeOp, storeCell, overlay, zbl, zbm, zbn, lookupOp, keyT, okRes, mapUpdateOp, zbo, zbp, zbq, zbr, zbs, zbt, zbu, Nat.reduceSub, Nat.reduceAdd, Int.reduceLT, Int.reduceLE, Int.reduceAdd, Int.reduceSub, Int.reduceToNat, Int.reduceBEq, Int.reduceBNe, Int.reduceMul, Nat.reduceBEq, Nat.reduceBNe, Nat.reduceLT, Nat.reduceLeDiff, Nat.reduceMul, Nat.reduceEqDiff, WD, effB, effH, isPriv, isHeap, isImm, zbx, zby, zbz, chkO, setD, dslot, zca, zcb, zcc, zcd, ptrCells_some, F17, hbe, hqe, alts17_29, q5.se.shut, q5.sd.shut, buildSliceV, lits, srcV_eq, srcK_sl, srcK_str, srcSl_nils, srcSl_rsl, srcSl_sl, frow, zbv, zbw, List.all_nil, List.all_cons, rowV, Bool.false_and, Bool.and_false, ne_eq, not_false_eq_true, grows_lr, callOut_t, hap, hq2, hs2.shut, hs2.prom, hs2.cells1, hs2.width1, hs2.ok, storeHeap, heapSet, elemSet]
    exact ⟨xe', xd, _, D, Q2, fun _ => ⟨rfl, by simp⟩⟩
  · have he' : (e5 == 0) = false := by simpa using he
    refine runs f17 b17 r17 n17 _ _ ?_
    simp only [bodyOf, Try.f17, Option.getD_some]
    simp only [WW, partV, eqCells, eqLf, minV, maxV, ifcV, zaa, zab, zac, zad, zae, zaf, zag, zah, zai, ofConst, ofConst1, List.replicate, zaj, zak, loadOp, Go.Abs.loadCells, binV, zal, pickV, zam, zan, zao, zap, zaq, zar, zas, zat, zau, outR, resAll, resOne, zav, zaw, zax, zay, zaz, zba, zbb, zbc, zbd, zbe, zbf, zbg, zbh, zbi, zbj, zbk, storeOp, storeCell, overlay, zbl, zbm, zbn, lookupOp, keyT, okRes, mapUpdateOp, zbo, zbp, zbq, zbr, zbs, zbt, zbu, Nat.reduceSub, Nat.reduceAdd, Int.reduceLT, Int.reduceLE, Int.reduceAdd, Int.reduceSub, Int.reduceToNat, Int.reduceBEq, Int.reduceBNe, Int.reduceMul, Nat.reduceBEq, Nat.reduceBNe, Nat.reduceLT, Nat.reduceLeDiff, Nat.reduceMul, Nat.reduceEqDiff, WD, effB, effH, isPriv, isHeap, isImm, zbx, zby, zbz, chkO, setD, dslot, zca, zcb, zcc, zcd, ptrCells_some, F17, hb1]
    refine wC_dr [] (by kernel_rfl) ?_
    simp only [WW, partV, eqCells, eqLf, minV, maxV, ifcV, zaa, zab, zac, zad, zae, zaf, zag, zah, zai, ofConst, ofConst1, List.replicate, zaj, zak, loadOp, Go.Abs.loadCells, binV, zal, pickV, zam, zan, zao, zap, zaq, zar, zas, zat, zau, outR, resAll, resOne, zav, zaw, zax, zay, zaz, zba, zbb, zbc, zbd, zbe, zbf, zbg, zbh, zbi, zbj, zbk, storeOp, storeCell, overlay, zbl, zbm, zbn, lookupOp, keyT, okRes, mapUpdateOp, zbo, zbp, zbq, zbr, zbs, zbt, zbu, Nat.reduceSub, Nat.reduceAdd, Int.reduceLT, Int.reduceLE, Int.reduceAdd, Int.reduceSub, Int.reduceToNat, Int.reduceBEq, Int.reduceBNe, Int.reduceMul, Nat.reduceBEq, Nat.reduceBNe, Nat.reduceLT, Nat.reduceLeDiff, Nat.reduceMul, Nat.reduceEqDiff, WD, effB, effH, isPriv, isHeap, isImm, zbx, zby, zbz, chkO, setD, dslot, zca, zcb, zcc, zcd, ptrCells_some, F17, hb1, hx.shutIn, hsl, Option.map_none, hy.1.rd.shutIn, buildOp, fillV, Lay.place, Bool.or_self, Bool.or_false, Bool.false_or, decide_not, ne_eq, not_true_eq_false, decide_eq_true_eq, Nat.lt_irrefl, buildSliceV, lits, srcV_eq, srcK_sl, srcK_str, srcSl_nils, srcSl_rsl, srcSl_sl, frow, zbv, zbw, List.all_nil, List.all_cons, rowV, Bool.false_and, Bool.and_false, not_false_eq_true, grows_lr, callOut_t, convertOp, get_last]
    rw [wpCall_eq hpre0]
    simp only [WW, partV, eqCells, eqLf, minV, maxV, ifcV, zaa, zab, zac, zad, zae, zaf, zag, zah, zai, ofConst, ofConst1, List.replicate, zaj, zak, loadOp, Go.Abs.loadCells, binV, zal, pickV, zam, zan, zao, zap, zaq, zar, zas, zat, zau, outR, resAll, resOne, zav, zaw, zax, zay, zaz, zba, zbb, zbc, zbd, zbe, zbf, zbg, zbh, zbi, zbj, zbk, storeOp, storeCell, overlay, zbl, zbm, zbn, lookupOp, keyT, okRes, mapUpdateOp, zbo, zbp, zbq, zbr, zbs, zbt, zbu, Nat.reduceSub, Nat.reduceAdd, Int.reduceLT, Int.reduceLE, Int.reduceAdd, Int.reduceSub, Int.reduceToNat, Int.reduceBEq, Int.reduceBNe, Int.reduceMul, Nat.reduceBEq, Nat.reduceBNe, Nat.reduceLT, Nat.reduceLeDiff, Nat.reduceMul, Nat.reduceEqDiff, WD, effB, effH, isPriv, isHeap, isImm, zbx, zby, zbz, chkO, setD, dslot, zca, zcb, zcc, zcd, ptrCells_some, F17, hy.1.rd.shutIn, buildOp, fillV, Lay.place, Bool.or_self, Bool.or_false, Bool.false_or, decide_not, ne_eq, not_true_eq_false, decide_eq_true_eq, Nat.lt_irrefl, buildSliceV, lits, srcV_eq, srcK_sl, srcK_str, srcSl_nils, srcSl_rsl, srcSl_sl, frow, zbv, zbw, List.all_nil, List.all_cons, rowV, Bool.false_and, Bool.and_false, not_false_eq_true, grows_lr, callOut_t, convertOp, get_last]
    rw [wpCall_eq hpre1]
    simp only [WW, partV, eqCells, eqLf, minV, maxV, ifcV, zaa, zab, zac, zad, zae, zaf, zag, zah, zai, ofConst, ofConst1, List.replicate, zaj, zak, loadOp, Go.Abs.loadCells, binV, zal, pickV, zam, zan, zao, zap, zaq, zar, zas, zat, zau, outR, resAll, resOne, zav, zaw, zax, zay, zaz, zba, zbb, zbc, zbd, zbe, zbf, zbg, zbh, zbi, zbj, zbk, storeOp, storeCell, overlay, zbl, zbm, zbn, lookupOp, keyT, okRes, mapUpdateOp, zbo, zbp, zbq, zbr, zbs, zbt, zbu, Nat.reduceSub, Nat.reduceAdd, Int.reduceLT, Int.reduceLE, Int.reduceAdd, Int.reduceSub, Int.reduceToNat, Int.reduceBEq, Int.reduceBNe, Int.reduceMul, Nat.reduceBEq, Nat.reduceBNe, Nat.reduceLT, Nat.reduceLeDiff, Nat.reduceMul, Nat.reduceEqDiff, WD, effB, effH, isPriv, isHeap, isImm, zbx, zby, zbz, chkO, setD, dslot, zca, zcb, zcc, zcd, ptrCells_some, F17, hy.1.rd.shutIn, buildOp, fillV, Lay.place, Bool.or_self, Bool.or_false, Bool.false_or, decide_not, ne_eq, not_true_eq_false, decide_eq_true_eq, Nat.lt_irrefl, buildSliceV, lits, srcV_eq, srcK_sl, srcK_str, srcSl_nils, srcSl_rsl, srcSl_sl, frow, zbv, zbw, List.all_nil, List.all_cons, rowV, Bool.false_and, Bool.and_false, not_false_eq_true, grows_lr, callOut_t, convertOp, get_last]
    rw [wpCall_eq c1]
    simp only [WW, partV, eqCells, eqLf, minV, maxV, ifcV, zaa, zab, zac, zad, zae, zaf, zag, zah, zai, ofConst, ofConst1, List.replicate, zaj, zak, loadOp, Go.Abs.loadCells, binV, zal, pickV, zam, zan, zao, zap, zaq, zar, zas, zat, zau, outR, resAll, resOne, zav, zaw, zax, zay, zaz, zba, zbb, zbc, zbd, zbe, zbf, zbg, zbh, zbi, zbj, zbk, storeOp, storeCell, overlay, zbl, zbm, zbn, lookupOp, keyT, okRes, mapUpdateOp, zbo, zbp, zbq, zbr, zbs, zbt, zbu, Nat.reduceSub, Nat.reduceAdd, Int.reduceLT, Int.reduceLE, Int.reduceAdd, Int.reduceSub, Int.reduceToNat, Int.reduceBEq, Int.reduceBNe, Int.reduceMul, Nat.reduceBEq, Nat.reduceBNe, Nat.reduceLT, Nat.reduceLeDiff, Nat.reduceMul, Nat.reduceEqDiff, WD, effB, effH, isPriv, isHeap, isImm, zbx, zby, zbz, chkO, setD, dslot, zca, zcb, zcc, zcd, ptrCells_some, F17, buildOp, fillV, Lay.place, Bool.or_self, Bool.or_false, Bool.false_or, decide_not, ne_eq, not_true_eq_false, decide_eq_true_eq, Nat.lt_irrefl]
    refine wC_dr [] (by kernel_rfl) ?_
    simp only [WW, partV, eqCells, eqLf, minV, maxV, ifcV, zaa, zab, zac, zad, zae, zaf, zag, zah, zai, ofConst, ofConst1, List.replicate, zaj, zak, loadOp, Go.Abs.loadCells, binV, zal, pickV, zam, zan, zao, zap, zaq, zar, zas, zat, zau, outR, resAll, resOne, zav, zaw, zax, zay, zaz, zba, zbb, zbc, zbd, zbe, zbf, zbg, zbh, zbi, zbj, zbk, storeOp, storeCell, overlay, zbl, zbm, zbn, lookupOp, keyT, okRes, mapUpdateOp, zbo, zbp, zbq, zbr, zbs, zbt, zbu, Nat.reduceSub, Nat.reduceAdd, Int.reduceLT, Int.reduceLE, Int.reduceAdd, Int.reduceSub, Int.reduceToNat, Int.reduceBEq, Int.reduceBNe, Int.reduceMul, Nat.reduceBEq, Nat.reduceBNe, Nat.reduceLT, Nat.reduceLeDiff, Nat.reduceMul, Nat.reduceEqDiff, WD, effB, effH, isPriv, isHeap, isImm, zbx, zby, zbz, chkO, setD, dslot, zca, zcb, zcc, zcd, ptrCells_some, F17, hbm, hxm.shutIn, hxm.len, by8_len, hgm, hatm.at1 hxm, hatm.cells, byteV, h101, buildOp, fillV, Lay.place, Bool.or_self, Bool.or_false, Bool.false_or, decide_not, ne_eq, not_true_eq_false, decide_eq_true_eq, Nat.lt_irrefl]
    rw [wpCall_eq c2]
    simp only [WW, partV, eqCells, eqLf, minV, maxV, ifcV, zaa, zab, zac, zad, zae, zaf, zag, zah, zai, ofConst, ofConst1, List.replicate, zaj, zak, loadOp, Go.Abs.loadCells, binV, zal, pickV, zam, zan, zao, zap, zaq, zar, zas, zat, zau, outR, resAll, resOne, zav, zaw, zax, zay, zaz, zba, zbb, zbc, zbd, zbe, zbf, zbg, zbh, zbi, zbj, zbk, storeOp, storeCell, overlay, zbl, zbm, zbn, lookupOp, keyT, okRes, mapUpdateOp, zbo, zbp, zbq, zbr, zbs, zbt, zbu, Nat.reduceSub, Nat.reduceAdd, Int.reduceLT, Int.reduceLE, Int.reduceAdd, Int.reduceSub, Int.reduceToNat, Int.reduceBEq, Int.reduceBNe, Int.reduceMul, Nat.reduceBEq, Nat.reduceBNe, Nat.reduceLT, Nat.reduceLeDiff, Nat.reduceMul, Nat.reduceEqDiff, WD, effB, effH, isPriv, isHeap, isImm, zbx, zby, zbz, chkO, setD, dslot, zca, zcb, zcc, zcd, ptrCells_some, F17, q2.sb, q2.se.shut, q2.sd.shut, q2.se.len, q2.sd.len, buildOp, fillV, Lay.place, Bool.or_self, Bool.or_false, Bool.false_or, decide_not, ne_eq, not_true_eq_false, decide_eq_true_eq, Nat.lt_irrefl]
    rw [wpCall_eq c3]
    simp only [WW, partV, eqCells, eqLf, minV, maxV, ifcV, zaa, zab, zac, zad, zae, zaf, zag, zah, zai, ofConst, ofConst1, List.replicate, zaj, zak, loadOp, Go.Abs.loadCells, binV, zal, pickV, zam, zan, zao, zap, zaq, zar, zas, zat, zau, outR, resAll, resOne, zav, zaw, zax, zay, zaz, zba, zbb, zbc, zbd, zbe, zbf, zbg, zbh, zbi, zbj, zbk, storeOp, storeCell, overlay, zbl, zbm, zbn, lookupOp, keyT, okRes, mapUpdateOp, zbo, zbp, zbq, zbr, zbs, zbt, zbu, Nat.reduceSub, Nat.reduceAdd, Int.reduceLT, Int.reduceLE, Int.reduceAdd, Int.reduceSub, Int.reduceToNat, Int.reduceBEq, Int.reduceBNe, Int.reduceMul, Nat.reduceBEq, Nat.reduceBNe, Nat.reduceLT, Nat.reduceLeDiff, Nat.reduceMul, Nat.reduceEqDiff, WD, effB, effH, isPriv, isHeap, isImm, zbx, zby, zbz, chkO, setD, dslot, zca, zcb, zcc, zcd, ptrCells_some, F17, q3.sb, q3.se.shut, q3.sd.shut, q3.se.len, q3.sd.len, buildOp, fillV, Lay.place, Bool.or_self, Bool.or_false, Bool.false_or, decide_not, ne_eq, not_true_eq_false, decide_eq_true_eq, Nat.lt_irrefl]
    rw [wpCall_eq c4]
    simp only [WW, partV, eqCells, eqLf, minV, maxV, ifcV, zaa, zab, zac, zad, zae, zaf, zag, zah, zai, ofConst, ofConst1, List.replicate, zaj, zak, loadOp, Go.Abs.loadCells, binV, zal, pickV, zam, zan, zao, zap, zaq, zar, zas, zat, zau, outR, resAll, resOne, zav, zaw, zax, zay, zaz, zba, zbb, zbc, zbd, zbe, zbf, zbg, zbh, zbi, zbj, zbk, storeOp, storeCell, overlay, zbl, zbm, zbn, lookupOp, keyT, okRes, mapUpdateOp, zbo, zbp, zbq, zbr, zbs, zbt, zbu, Nat.reduceSub, Nat.reduceAdd, Int.reduceLT, Int.reduceLE, Int.reduceAdd, Int.reduceSub, Int.reduceToNat, Int.reduceBEq, Int.reduceBNe, Int.reduceMul, Nat.reduceBEq, Nat.reduceBNe, Nat.reduceLT, Nat.reduceLeDiff, Nat.reduceMul, Nat.reduceEqDiff, WD, effB, effH, isPriv, isHeap, isImm, zbx, zby, zbz, chkO, setD, dslot, zca, zcb, zcc, zcd, ptrCells_some, F17, q4.sb, q4.se.shut, q4.sd.shut, q4.se.len, q4.sd.len, buildOp, fillV, Lay.place, Bool.or_self, Bool.or_false, Bool.false_or, decide_not, ne_eq, not_true_eq_false, decide_eq_true_eq, Nat.lt_irrefl]
    rw [wpCall_eq c5]
    simp only [WW, partV, eqCells, eqLf, minV, maxV, ifcV, zaa, zab, zac, zad, zae, zaf, zag, zah, zai, ofConst, ofConst1, List.replicate, zaj, zak, loadOp, Go.Abs.loadCells, binV, zal, pickV, zam, zan, zao, zap, zaq, zar, zas, zat, zau, outR, resAll, resOne, zav, zaw, zax, zay, zaz, zba, zbb, zbc, zbd, zbe, zbf, zbg, zbh, zbi, zbj, zbk, storeOp, storeCell, overlay, zbl, zbm, zbn, lookupOp, keyT, okRes, mapUpdateOp, zbo, zbp, zbq, zbr, zbs, zbt, zbu, Nat.reduceSub, Nat.reduceAdd, Int.reduceLT, Int.reduceLE, Int.reduceAdd, Int.reduceSub, Int.reduceToNat, Int.reduceBEq, Int.reduceBNe, Int.reduceMul, Nat.reduceBEq, Nat.reduceBNe, Nat.reduceLT, Nat.reduceLeDiff, Nat.reduceMul, Nat.reduceEqDiff, WD, effB, effH, isPriv, isHeap, isImm, zbx, zby, zbz, chkO, setD, dslot, zca, zcb, zcc, zcd, ptrCells_some, F17, hbe, he', buildOp, fillV, Lay.place, Bool.or_self, Bool.or_false, Bool.false_or, decide_not, ne_eq, not_true_eq_false, decide_eq_true_eq, Nat.lt_irrefl]
    exact ⟨xe, xd, E, D, q5, fun q => absurd q he⟩
theorem one_T {G H : Hp} {r q : Nat} {x : V} {B : List UInt8} {a : Nat} {xe xd : V} {E : List Ent} {D : List Int} (h : QS G H r q x B (a, 0) xe xd E D) (hB : B.length < 4294967296) (hEl : E.length < 4294967296) (hDl : D.length < 4294967296) (ht0 : preB (B.drop a) [112] = false) (ht1 : preB (B.drop a) [116, 105] = false) (ht2 : preB (B.drop a) [116] = true)  :
    wpCall EW 17 [.ptr r 0 0, .ptr q 0 0] H (fun out H' => out = .ret (.tup []) false ∧ OneR G r q x B E D (oneT B E.length D.length a) H') := by
  have hb1 : H[r]? = some (.cells [.agg [x, .int .i64 (a : Int), .int .i64 0]]) := h.rs.blk
  have hx := h.rs.txt.rd
  have hle : a ≤ B.length := h.rs.le
  have hsl : ∀ st, sliceOp Try.prog st H 22 x (some (.int .i64 (a : Nat))) none none = some (dropV x a) := fun st => (slice_lo (P := Try.prog) (st := st) (t := 22) (e := 5) (by kernel_rfl) (by kernel_rfl) h.rs.txt h.wd hle).1
  have hy := (slice_lo (P := Try.prog) (st := ⟨[], [], []⟩) (t := 22) (e := 5) (by kernel_rfl) (by kernel_rfl) h.rs.txt h.wd hle).2
  have hyx : ∀ i, bx (dropV x a) = some i → bx x = some i := fun i hi => bx_drop hi
  have hpre0 : EW 26 [dropV x a, .sl (H).length 0 1] (H ++ [Blk.cells [.int .u8 112]]) = some (.ret (.bool false) false, (H ++ [Blk.cells [.int .u8 112]])) := by
    have hyS : Sx (H ++ [Blk.cells [.int .u8 112]]) (dropV x a) (by8 (B.drop a)) := (hy.1.app _)
    have hyW : Wd (H ++ [Blk.cells [.int .u8 112]]) (dropV x a) := by
      intro id lo len es e1 e2
      have hlt := h.xl id (hyx id (by rw [e1]; rfl))
      refine hy.2 id lo len es e1 ?_
      rw [← e2]
      skip
      rw [List.getElem?_append_left hlt]
    have hz : Rd (H ++ [Blk.cells [.int .u8 112]]) (.sl (H).length 0 1) (by8 [112]) := Rd.whole (es := by8 [112]) (by rw [List.getElem?_append_right (Nat.le_refl _), Nat.sub_self]; rfl)
    have := prefix_eq hyS hyW hz
    rwa [ht0] at this
  have hpre1 : EW 26 [dropV x a, .sl ((H ++ [Blk.cells [.int .u8 112]])).length 0 2] ((H ++ [Blk.cells [.int .u8 112]]) ++ [Blk.cells [.int .u8 116, .int .u8 105]]) = some (.ret (.bool false) false, ((H ++ [Blk.cells [.int .u8 112]]) ++ [Blk.cells [.int .u8 116, .int .u8 105]])) := by
    have hyS : Sx ((H ++ [Blk.cells [.int .u8 112]]) ++ [Blk.cells [.int .u8 116, .int .u8 105]]) (dropV x a) (by8 (B.drop a)) := ((hy.1.app _).app _)
    have hyW : Wd ((H ++ [Blk.cells [.int .u8 112]]) ++ [Blk.cells [.int .u8 116, .int .u8 105]]) (dropV x a) := by
      intro id lo len es e1 e2
      have hlt := h.xl id (hyx id (by rw [e1]; rfl))
      refine hy.2 id lo len es e1 ?_
      rw [← e2]
      simp only [List.append_assoc]
      rw [List.getElem?_append_left hlt]
    have hz : Rd ((H ++ [Blk.cells [.int .u8 112]]) ++ [Blk.cells [.int .u8 116, .int .u8 105]]) (.sl ((H ++ [Blk.cells [.int .u8 112]])).length 0 2) (by8 [116, 105]) := Rd.whole (es := by8 [116, 105]) (by rw [List.getElem?_append_right (Nat.le_refl _), Nat.sub_self]; rfl)
    have := prefix_eq hyS hyW hz
    rwa [ht1] at this
  have hpre2 : EW 26 [dropV x a, .sl (((H ++ [Blk.cells [.int .u8 112]]) ++ [Blk.cells [.int .u8 116, .int .u8 105]])).length 0 1] (((H ++ [Blk.cells [.int .u8 112]]) ++ [Blk.cells [.int .u8 116, .int .u8 105]]) ++ [Blk.cells [.int .u8 116]]) = some (.ret (.bool true) false, (((H ++ [Blk.cells [.int .u8 112]]) ++ [Blk.cells [.int .u8 116, .int .u8 105]]) ++ [Blk.cells [.int .u8 116]])) := by
    have hyS : Sx (((H ++ [Blk.cells [.int .u8 112]]) ++ [Blk.cells [.int .u8 116, .int .u8 105]]) ++ [Blk.cells [.int .u8 116]]) (dropV x a) (by8 (B.drop a)) := (((hy.1.app _).app _).app _)
    have hyW : Wd (((H ++ [Blk.cells [.int .u8 112]]) ++ [Blk.cells [.int .u8 116, .int .u8 105]]) ++ [Blk.cells [.int .u8 116]]) (dropV x a) := by
      intro id lo len es e1 e2
      have hlt := h.xl id (hyx id (by rw [e1]; rfl))
      refine hy.2 id lo len es e1 ?_
      rw [← e2]
      simp only [List.append_assoc]
      rw [List.getElem?_append_left hlt]
    have hz : Rd (((H ++ [Blk.cells [.int .u8 112]]) ++ [Blk.cells [.int .u8 116, .int .u8 105]]) ++ [Blk.cells [.int .u8 116]]) (.sl (((H ++ [Blk.cells [.int .u8 112]]) ++ [Blk.cells [.int .u8 116, .int .u8 105]])).length 0 1) (by8 [116]) := Rd.whole (es := by8 [116]) (by rw [List.getElem?_append_right (Nat.le_refl _), Nat.sub_self]; rfl)
    have := prefix_eq hyS hyW hz
    rwa [ht2] at this
  have qA := (((h.app [Blk.cells [.int .u8 112]]).app [Blk.cells [.int .u8 116, .int .u8 105]]).app [Blk.cells [.int .u8 116]])
  have c1 := want_eq qA.rs [116, 105] hB (by simp)
  have q1 := qA.toR (wantM_le (w := [116, 105]) qA.rs.le)
  obtain ⟨s1, hs1⟩ : ∃ s, s = wantM B [116, 105] (a, 0) := ⟨_, rfl⟩
  rw [← hs1] at c1 q1
  have c2 := want_eq q1.rs [10] hB (by simp)
  have q2 := q1.toR (wantM_le (w := [10]) q1.rs.le)
  rw [List.set_set] at c2 q2
  obtain ⟨s2, hs2⟩ : ∃ s, s = wantM B [10] s1 := ⟨_, rfl⟩
  rw [← hs2] at c2 q2
  obtain ⟨a2, e2⟩ := s2
  have hbe : ((((H ++ [Blk.cells [.int .u8 112]]) ++ [Blk.cells [.int .u8 116, .int .u8 105]]) ++ [Blk.cells [.int .u8 116]]).set r (rb x (a2, e2)))[r]? = some (.cells [.agg [x, .int .i64 (a2 : Int), .int .i64 e2]]) := q2.rs.blk
  have hqe := q2.sb
  have hone : oneT B E.length D.length a = ((a2, e2), [], []) := by
    unfold oneT
    simp only [← hs1, ← hs2]
  rw [hone]
  by_cases he : e2 = 0
  · subst he
    refine runs f17 b17 r17 n17 _ _ ?_
    simp only [bodyOf, Try.f17, Option.getD_some]
    simp only [WW, partV, eqCells, eqLf, minV, maxV, ifcV, zaa, zab, zac, zad, zae, zaf, zag, zah, zai, ofConst, ofConst1, List.replicate, zaj, zak, loadOp, Go.Abs.loadCells, binV, zal, pickV, zam, zan, zao, zap, zaq, zar, zas, zat, zau, outR, resAll, resOne, zav, zaw, zax, zay, zaz, zba, zbb, zbc, zbd, zbe, zbf, zbg, zbh, zbi, zbj, zbk, storeOp, storeCell, overlay, zbl, zbm, zbn, lookupOp, keyT, okRes, mapUpdateOp, zbo, zbp, zbq, zbr, zbs, zbt, zbu, Nat.reduceSub, Nat.reduceAdd, Int.reduceLT, Int.reduceLE, Int.reduceAdd, Int.reduceSub, Int.reduceToNat, Int.reduceBEq, Int.reduceBNe, Int.reduceMul, Nat.reduceBEq, Nat.reduceBNe, Nat.reduceLT, Nat.reduceLeDiff, Nat.reduceMul, Nat.reduceEqDiff, WD, effB, effH, isPriv, isHeap, isImm, zbx, zby, zbz, chkO, setD, dslot, zca, zcb, zcc, zcd, ptrCells_some, F17, hb1]
    refine wC_dr [] (by kernel_rfl) ?_
    simp only [WW, partV, eqCells, eqLf, minV, maxV, ifcV, zaa, zab, zac, zad, zae, zaf, zag, zah, zai, ofConst, ofConst1, List.replicate, zaj, zak, loadOp, Go.Abs.loadCells, binV, zal, pickV, zam, zan, zao, zap, zaq, zar, zas, zat, zau, outR, resAll, resOne, zav, zaw, zax, zay, zaz, zba, zbb, zbc, zbd, zbe, zbf, zbg, zbh, zbi, zbj, zbk, storeOp, storeCell, overlay, zbl, zbm, zbn, lookupOp, keyT, okRes, mapUpdateOp, zbo, zbp, zbq, zbr, zbs, zbt, zbu, Nat.reduceSub, Nat.reduceAdd, Int.reduceLT, Int.reduceLE, Int.reduceAdd, Int.reduceSub, Int.reduceToNat, Int.reduceBEq, Int.reduceBNe, Int.reduceMul, Nat.reduceBEq, Nat.reduceBNe, Nat.reduceLT, Nat.reduceLeDiff, Nat.reduceMul, Nat.reduceEqDiff, WD, effB, effH, isPriv, isHeap, isImm, zbx, zby, zbz, chkO, setD, dslot, zca, zcb, zcc, zcd, ptrCells_some, F17, hb1, hx.shutIn, hsl, Option.map_none, hy.1.rd.shutIn, buildOp, fillV, Lay.place, Bool.or_self, Bool.or_false, Bool.false_or, decide_not, ne_eq, not_true_eq_false, decide_eq_true_eq, Nat.lt_irrefl, buildSliceV, lits, srcV_eq, srcK_sl, srcK_str, srcSl_nils, srcSl_rsl, srcSl_sl, frow, zbv, zbw, List.all_nil, List.all_cons, rowV, Bool.false_and, Bool.and_false, not_false_eq_true, grows_lr, callOut_t, convertOp, get_last]
    rw [wpCall_eq hpre0]
    simp only [WW, partV, eqCells, eqLf, minV, maxV, ifcV, zaa, zab, zac, zad, zae, zaf, zag, zah, zai, ofConst, ofConst1, List.replicate, zaj, zak, loadOp, Go.Abs.loadCells, binV, zal, pickV, zam, zan, zao, zap, zaq, zar, zas, zat, zau, outR, resAll, resOne, zav, zaw, zax, zay, zaz, zba, zbb, zbc, zbd, zbe, zbf, zbg, zbh, zbi, zbj, zbk, storeOp, storeCell, overlay, zbl, zbm, zbn, lookupOp, keyT, okRes, mapUpdateOp, zbo, zbp, zbq, zbr, zbs, zbt, zbu, Nat.reduceSub, Nat.reduceAdd, Int.reduceLT, Int.reduceLE, Int.reduceAdd, Int.reduceSub, Int.reduceToNat, Int.reduceBEq, Int.reduceBNe, Int.reduceMul, Nat.reduceBEq, Nat.reduceBNe, Nat.reduceLT, Nat.reduceLeDiff, Nat.reduceMul, Nat.reduceEqDiff, WD, effB, effH, isPriv, isHeap, isImm, zbx, zby, zbz, chkO, setD, dslot, zca, zcb, zcc, zcd, ptrCells_some, F17, hy.1.rd.shutIn, buildOp, fillV, Lay.place, Bool.or_self, Bool.or_false, Bool.false_or, decide_not, ne_eq, not_true_eq_false, decide_eq_true_eq, Nat.lt_irrefl, buildSliceV, lits, srcV_eq, srcK_sl, srcK_str, srcSl_nils, srcSl_rsl, srcSl_sl, frow, zbv, zbw, List.all_nil, List.all_cons, rowV, Bool.false_and, Bool.and_false, not_false_eq_true, grows_lr, callOut_t, convertOp, get_last]
    rw [wpCall_eq hpre1]
    simp only [WW, partV, eqCells, eqLf, minV, maxV, ifcV, zaa, zab, zac, zad, zae, zaf, zag, zah, zai, ofConst, ofConst1, List.replicate, zaj, zak, loadOp, Go.Abs.loadCells, binV, zal, pickV, zam, zan, zao, zap, zaq, zar, zas, zat, zau, outR, resAll, resOne, zav, zaw, zax, zay, zaz, zba, zbb, zbc, zbd, zbe, zbf, zbg, zbh, zbi, zbj, zbk, storeOp, storeCell, overlay, zbl, zbm, zbn, lookupOp, keyT, okRes, mapUpdateOp, zbo, zbp, zbq, zbr, zbs, zbt, zbu, Nat.reduceSub, Nat.reduceAdd, Int.reduceLT, Int.reduceLE, Int.reduceAdd, Int.reduceSub, Int.reduceToNat, Int.reduceBEq, Int.reduceBNe, Int.reduceMul, Nat.reduceBEq, Nat.reduceBNe, Nat.reduceLT, Nat.reduceLeDiff, Nat.reduceMul, Nat.reduceEqDiff, WD, effB, effH, isPriv, isHeap, isImm, zbx, zby, zbz, chkO, setD, dslot, zca, zcb, zcc, zcd, ptrCells_some, F17, hy.1.rd.shutIn, buildOp, fillV, Lay.place, Bool.or_self, Bool.or_false, Bool.false_or, decide_not, ne_eq, not_true_eq_false, decide_eq_true_eq, Nat.lt_irrefl, buildSliceV, lits, srcV_eq, srcK_sl, srcK_str, srcSl_nils, srcSl_rsl, srcSl_sl, frow, zbv, zbw, List.all_nil, List.all_cons, rowV, Bool.false_and, Bool.and_false, not_false_eq_true, grows_lr, callOut_t, convertOp, get_last]
    rw [wpCall_eq hpre2]
    simp only [WW, partV, eqCells, eqLf, minV, maxV, ifcV, zaa, zab, zac, zad, zae, zaf, zag, zah, zai, ofConst, ofConst1, List.replicate, zaj, zak, loadOp, Go.Abs.loadCells, binV, zal, pickV, zam, zan, zao, zap, zaq, zar, zas, zat, zau, outR, resAll, resOne, zav, zaw, zax, zay, zaz, zba, zbb, zbc, zbd, zbe, zbf, zbg, zbh, zbi, zbj, zbk, storeOp, storeCell, overlay, zbl, zbm, zbn, lookupOp, keyT, okRes, mapUpdateOp, zbo, zbp, zbq, zbr, zbs, zbt, zbu, Nat.reduceSub, Nat.reduceAdd, Int.reduceLT, Int.reduceLE, Int.reduceAdd, Int.reduceSub, Int.reduceToNat, Int.reduceBEq, Int.reduceBNe, Int.reduceMul, Nat.reduceBEq, Nat.reduceBNe, Nat.reduceLT, Nat.reduceLeDiff, Nat.reduceMul, Nat.reduceEqDiff, WD, effB, effH, isPriv, isHeap, isImm, zbx, zby, zbz, chkO, setD, dslot, zca, zcb, zcc, zcd, ptrCells_some, F17, hy.1.rd.shutIn, buildOp, fillV, Lay.place, Bool.or_self, Bool.or_false, Bool.false_or, decide_not, ne_eq, not_true_eq_false, decide_eq_true_eq, Nat.lt_irrefl, buildSliceV, lits, srcV_eq, srcK_sl, srcK_str, srcSl_nils, srcSl_rsl, srcSl_sl, frow, zbv, zbw, List.all_nil, List.all_cons, rowV, Bool.false_and, Bool.and_false, not_false_eq_true, grows_lr, callOut_t, convertOp, get_last]
    rw [wpCall_eq c1]
    simp only [WW, partV, eqCells, eqLf, minV, maxV, ifcV, zaa, zab, zac, zad, zae, zaf, zag, zah, zai, ofConst, ofConst1, List.replicate, zaj, zak, loadOp, Go.Abs.loadCells, binV, zal, pickV, zam, zan, zao, zap, zaq, zar, zas, zat, zau, outR, resAll, resOne, zav, zaw, zax, zay, zaz, zba, zbb, zbc, zbd, zbe, zbf, zbg, zbh, zbi, zbj, zbk, storeOp, storeCell, overlay, zbl, zbm, zbn, lookupOp, keyT, okRes, mapUpdateOp, zbo, zbp, zbq, zbr, zbs, zbt, zbu, Nat.reduceSub, Nat.reduceAdd, Int.reduceLT, Int.reduceLE, Int.reduceAdd, Int.reduceSub, Int.reduceToNat, Int.reduceBEq, Int.reduceBNe, Int.reduceMul, Nat.reduceBEq, Nat.reduceBNe, Nat.reduceLT, Nat.reduceLeDiff, Nat.reduceMul, Nat.reduceEqDiff, WD, effB, effH, isPriv, isHeap, isImm, zbx, zby, zbz, chkO, setD, dslot, zca, zcb, zcc, zcd, ptrCells_some, F17, q1.sb, q1.se.shut, q1.sd.shut, q1.se.len, q1.sd.len, buildOp, fillV, Lay.place, Bool.or_self, Bool.or_false, Bool.false_or, decide_not, ne_eq, not_true_eq_false, decide_eq_true_eq, Nat.lt_irrefl]
    rw [wpCall_eq c2]
    simp only [WW, partV, eqCells, eqLf, minV, maxV, ifcV, zaa, zab, zac, zad, zae, zaf, zag, zah, zai, ofConst, ofConst1, List.replicate, zaj, zak, loadOp, Go.Abs.loadCells, binV, zal, pickV, zam, zan, zao, zap, zaq, zar, zas, zat, zau, outR, resAll, resOne, zav, zaw, zax, zay, zaz, zba, zbb, zbc, zbd, zbe, zbf, zbg, zbh, zbi, zbj, zbk, storeOp, storeCell, overlay, zbl, zbm, zbn, lookupOp, keyT, okRes, mapUpdateOp, zbo, zbp, zbq, zbr, zbs, zbt, zbu, Nat.reduceSub, Nat.reduceAdd, Int.reduceLT, Int.reduceLE, Int.reduceAdd, Int.reduceSub, Int.reduceToNat, Int.reduceBEq, Int.reduceBNe, Int.reduceMul, Nat.reduceBEq, Nat.reduceBNe, Nat.reduceLT, Nat.reduceLeDiff, Nat.reduceMul, Nat.reduceEqDiff, WD, effB, effH, isPriv, isHeap, isImm, zbx, zby, zbz, chkO, setD, dslot, zca, zcb, zcc, zcd, ptrCells_some, F17, hbe, buildOp, fillV, Lay.place, Bool.or_self, Bool.or_false, Bool.false_or, decide_not, ne_eq, not_true_eq_false, decide_eq_true_eq, Nat.lt_irrefl]
    exact ⟨xe, xd, E, D, q2, fun _ => ⟨by simp, by simp⟩⟩
  · have he' : (e2 == 0) = false := by simpa using he
    refine runs f17 b17 r17 n17 _ _ ?_
    simp only [bodyOf, Try.f17, Option.getD_some]
    simp only [WW, partV, eqCells, eqLf, minV, maxV, ifcV, zaa, zab, zac, zad, zae, zaf, zag, zah, zai, ofConst, ofConst1, List.replicate, zaj, zak, loadOp, Go.Abs.loadCells, binV, zal, pickV, zam, zan, zao, zap, zaq, zar, zas, zat, zau, outR, resAll, resOne, zav, zaw, zax, zay, zaz, zba, zbb, zbc, zbd, zbe, zbf, zbg, zbh, zbi, zbj, zbk, storeOp, storeCell, overlay, zbl, zbm, zbn, lookupOp, keyT, okRes, mapUpdateOp, zbo, zbp, zbq, zbr, zbs, zbt, zbu, Nat.reduceSub, Nat.reduceAdd, Int.reduceLT, Int.reduceLE, Int.reduceAdd, Int.reduceSub, Int.reduceToNat, Int.reduceBEq, Int.reduceBNe, Int.reduceMul, Nat.reduceBEq, Nat.reduceBNe, Nat.reduceLT, Nat.reduceLeDiff, Nat.reduceMul, Nat.reduceEqDiff, WD, effB, effH, isPriv, isHeap, isImm, zbx, zby, zbz, chkO, setD, dslot, zca, zcb, zcc, zcd, ptrCells_some, F17, hb1]
    refine wC_dr [] (by kernel_rfl) ?_
    simp only [WW, partV, eqCells, eqLf, minV, maxV, ifcV, zaa, zab, zac, zad, zae, zaf, zag, zah, zai, ofConst, ofConst1, List.replicate, zaj, zak, loadOp, Go.Abs.loadCells, binV, zal, pickV, zam, zan, zao, zap, zaq, zar, zas, zat, zau, outR, resAll, resOne, zav, zaw, zax, zay, zaz, zba, zbb, zbc, zbd, zbe, zbf, zbg, zbh, zbi, zbj, zbk, storeOp, storeCell, overlay, zbl, zbm, zbn, lookupOp, keyT, okRes, mapUpdateOp, zbo, zbp, zbq, zbr, zbs, zbt, zbu, Nat.reduceSub, Nat.reduceAdd, Int.reduceLT, Int.reduceLE, Int.reduceAdd, Int.reduceSub, Int.reduceToNat, Int.reduceBEq, Int.reduceBNe, Int.reduceMul, Nat.reduceBEq, Nat.reduceBNe, Nat.reduceLT, Nat.reduceLeDiff, Nat.reduceMul, Nat.reduceEqDiff, WD, effB, effH, isPriv, isHeap, isImm, zbx, zby, zbz, chkO, setD, dslot, zca, zcb, zcc, zcd, ptrCells_some, F17, hb1, hx.shutIn, hsl, Option.map_none, hy.1.rd.shutIn, buildOp, fillV, Lay.place, Bool.or_self, Bool.or_false, Bool.false_or, decide_not, ne_eq, not_true_eq_false, decide_eq_true_eq, Nat.lt_irrefl, buildSliceV, lits, srcV_eq, srcK_sl, srcK_str, srcSl_nils, srcSl_rsl, srcSl_sl, frow, zbv, zbw, List.all_nil, List.all_cons, rowV, Bool.false_and, Bool.and_false, not_false_eq_true, grows_lr, callOut_t, convertOp, get_last]
    rw [wpCall_eq hpre0]
    simp only [WW, partV, eqCells, eqLf, minV, maxV, ifcV, zaa, zab, zac, zad, zae, zaf, zag, zah, zai, ofConst, ofConst1, List.replicate, zaj, zak, loadOp, Go.Abs.loadCells, binV, zal, pickV, zam, zan, zao, zap, zaq, zar, zas, zat, zau, outR, resAll, resOne, zav, zaw, zax, zay, zaz, zba, zbb, zbc, zbd, zbe, zbf, zbg, zbh, zbi, zbj, zbk, storeOp, storeCell, overlay, zbl, zbm, zbn, lookupOp, keyT, okRes, mapUpdateOp, zbo, zbp, zbq, zbr, zbs, zbt, zbu, Nat.reduceSub, Nat.reduceAdd, Int.reduceLT, Int.reduceLE, Int.reduceAdd, Int.reduceSub, Int.reduceToNat, Int.reduceBEq, Int.reduceBNe, Int.reduceMul, Nat.reduceBEq, Nat.reduceBNe, Nat.reduceLT, Nat.reduceLeDiff, Nat.reduceMul, Nat.reduceEqDiff, WD, effB, effH, isPriv, isHeap, isImm, zbx, zby, zbz, chkO, setD, dslot, zca, zcb, zcc, zcd, ptrCells_some, F17, hy.1.rd.shutIn, buildOp, fillV, Lay.place, Bool.or_self, Bool.or_false, Bool.false_or, decide_not, ne_eq, not_true_eq_false, decide_eq_true_eq, Nat.lt_irrefl, buildSliceV, lits, srcV_eq, srcK_sl, srcK_str, srcSl_nils, srcSl_rsl, srcSl_sl, frow, zbv, zbw, List.all_nil, List.all_cons, rowV, Bool.false_and, Bool.and_false, not_false_eq_true, grows_lr, callOut_t, convertOp, get_last]
    rw [wpCall_eq hpre1]
    simp only [WW, partV, eqCells, eqLf, minV, maxV, ifcV, zaa, zab, zac, zad, zae, zaf, zag, zah, zai, ofConst, ofConst1, List.replicate, zaj, zak, loadOp, Go.Abs.loadCells, binV, zal, pickV, zam, zan, zao, zap, zaq, zar, zas, zat, zau, outR, resAll, resOne, zav, zaw, zax, zay, zaz, zba, zbb, zbc, zbd, zbe, zbf, zbg, zbh, zbi, zbj, zbk, storeOp, storeCell, overlay, zbl, zbm, zbn, lookupOp, keyT, okRes, mapUpdateOp, zbo, zbp, zbq, zbr, zbs, zbt, zbu, Nat.reduceSub, Nat.reduceAdd, Int.reduceLT, Int.reduceLE, Int.reduceAdd, Int.reduceSub, Int.reduceToNat, Int.reduceBEq, Int.reduceBNe, Int.reduceMul, Nat.reduceBEq, Nat.reduceBNe, Nat.reduceLT, Nat.reduceLeDiff, Nat.reduceMul, Nat.reduceEqDiff, WD, effB, effH, isPriv, isHeap, isImm, zbx, zby, zbz, chkO, setD, dslot, zca, zcb, zcc, zcd, ptrCells_some, F17, hy.1.rd.shutIn, buildOp, fillV, Lay.place, Bool.or_self, Bool.or_false, Bool.false_or, decide_not, ne_eq, not_true_eq_false, decide_eq_true_eq, Nat.lt_irrefl, buildSliceV, lits, srcV_eq, srcK_sl, srcK_str, srcSl_nils, srcSl_rsl, srcSl_sl, frow, zbv, zbw, List.all_nil, List.all_cons, rowV, Bool.false_and, Bool.and_false, not_false_eq_true, grows_lr, callOut_t, convertOp, get_last]
    rw [wpCall_eq hpre2]
    simp only [WW, partV, eqCells, eqLf, minV, maxV, ifcV, zaa, zab, zac, zad, zae, zaf, zag, zah, zai, ofConst, ofConst1, List.replicate, zaj, zak, loadOp, Go.Abs.loadCells, binV, zal, pickV, zam, zan, zao, zap, zaq, zar, zas, zat, zau, outR, resAll, resOne, zav, zaw, zax, zay, zaz, zba, zbb, zbc, zbd, zbe, zbf, zbg, zbh, zbi, zbj, zbk, storeOp, storeCell, overlay, zbl, zbm, zbn, lookupOp, keyT, okRes, mapUpdateOp, zbo, zbp, zbq, zbr, zbs, zbt, zbu, Nat.reduceSub, Nat.reduceAdd, Int.reduceLT, Int.reduceLE, Int.reduceAdd, Int.reduceSub, Int.reduceToNat, Int.reduceBEq, Int.reduceBNe, Int.reduceMul, Nat.reduceBEq, Nat.reduceBNe, Nat.reduceLT, Nat.reduceLeDiff, Nat.reduceMul, Nat.reduceEqDiff, WD, effB, effH, isPriv, isHeap, isImm, zbx, zby, zbz, chkO, setD, dslot, zca, zcb, zcc, zcd, ptrCells_some, F17, hy.1.rd.shutIn, buildOp, fillV, Lay.place, Bool.or_self, Bool.or_false, Bool.false_or, decide_not, ne_eq, not_true_eq_false, decide_eq_true_eq, Nat.lt_irrefl, buildSliceV, lits, srcV_eq, srcK_sl, srcK_str, srcSl_nils, srcSl_rsl, srcSl_sl, frow, zbv, zbw, List.all_nil, List.all_cons, rowV, Bool.false_and, Bool.and_false, not_false_eq_true, grows_lr, callOut_t, convertOp, get_last]
    rw [wpCall_eq c1]
    simp only [WW, partV, eqCells, eqLf, minV, maxV, ifcV, zaa, zab, zac, zad, zae, zaf, zag, zah, zai, ofConst, ofConst1, List.replicate, zaj, zak, loadOp, Go.Abs.loadCells, binV, zal, pickV, zam, zan, zao, zap, zaq, zar, zas, zat, zau, outR, resAll, resOne, zav, zaw, zax, zay, zaz, zba, zbb, zbc, zbd, zbe, zbf, zbg, zbh, zbi, zbj, zbk, storeOp, storeCell, overlay, zbl, zbm, zbn, lookupOp, keyT, okRes, mapUpdateOp, zbo, zbp, zbq, zbr, zbs, zbt, zbu, Nat.reduceSub, Nat.reduceAdd, Int.reduceLT, Int.reduceLE, Int.reduceAdd, Int.reduceSub, Int.reduceToNat, Int.reduceBEq, Int.reduceBNe, Int.reduceMul, Nat.reduceBEq, Nat.reduceBNe, Nat.reduceLT, Nat.reduceLeDiff, Nat.reduceMul, Nat.reduceEqDiff, WD, effB, effH, isPriv, isHeap, isImm, zbx, zby, zbz, chkO, setD, dslot, zca, zcb, zcc, zcd, ptrCells_some, F17, q1.sb, q1.se.shut, q1.sd.shut, q1.se.len, q1.sd.len, buildOp, fillV, Lay.place, Bool.or_self, Bool.or_false, Bool.false_or, decide_not, ne_eq, not_true_eq_false, decide_eq_true_eq, Nat.lt_irrefl]
    rw [wpCall_eq c2]
    simp only [WW, partV, eqCells, eqLf, minV, maxV, ifcV, zaa, zab, zac, zad, zae, zaf, zag, zah, zai, ofConst, ofConst1, List.replicate, zaj, zak, loadOp, Go.Abs.loadCells, binV, zal, pickV, zam, zan, zao, zap, zaq, zar, zas, zat, zau, outR, resAll, resOne, zav, zaw, zax, zay, zaz, zba, zbb, zbc, zbd, zbe, zbf, zbg, zbh, zbi, zbj, zbk, storeOp, storeCell, overlay, zbl, zbm, zbn, lookupOp, keyT, okRes, mapUpdateOp, zbo, zbp, zbq, zbr, zbs, zbt, zbu, Nat.reduceSub, Nat.reduceAdd, Int.reduceLT, Int.reduceLE, Int.reduceAdd, Int.reduceSub, Int.reduceToNat, Int.reduceBEq, Int.reduceBNe, Int.reduceMul, Nat.reduceBEq, Nat.reduceBNe, Nat.reduceLT, Nat.reduceLeDiff, Nat.reduceMul, Nat.reduceEqDiff, WD, effB, effH, isPriv, isHeap, isImm, zbx, zby, zbz, chkO, setD, dslot, zca, zcb, zcc, zcd, ptrCells_some, F17, hbe, he', buildOp, fillV, Lay.place, Bool.or_self, Bool.or_false, Bool.false_or, decide_not, ne_eq, not_true_eq_false, decide_eq_true_eq, Nat.lt_irrefl]
    exact ⟨xe, xd, E, D, q2, fun _ => ⟨by simp, by simp⟩⟩
theorem one_D {G H : Hp} {r q : Nat} {x : V} {B : List UInt8} {a : Nat} {xe xd : V} {E : List Ent} {D : List Int} (h : QS G H r q x B (a, 0) xe xd E D) (hB : B.length < 4294967296) (hEl : E.length < 4294967296) (hDl : D.length < 4294967296) (ht0 : preB (B.drop a) [112] = false) (ht1 : preB (B.drop a) [116, 105] = false) (ht2 : preB (B.drop a) [116] = false)  :
    wpCall EW 17 [.ptr r 0 0, .ptr q 0 0] H (fun out H' => out = .ret (.tup []) false ∧ OneR G r q x B E D (oneD B E.length D.length a) H') := by
  have hb1 : H[r]? = some (.cells [.agg [x, .int .i64 (a : Int), .int .i64 0]]) := h.rs.blk
  have hx := h.rs.txt.rd
  have hle : a ≤ B.length := h.rs.le
  have hsl : ∀ st, sliceOp Try.prog st H 22 x (some (.int .i64 (a : Nat))) none none = some (dropV x a) := fun st => (slice_lo (P := Try.prog) (st := st) (t := 22) (e := 5) (by kernel_rfl) (by kernel_rfl) h.rs.txt h.wd hle).1
  have hy := (slice_lo (P := Try.prog) (st := ⟨[], [], []⟩) (t := 22) (e := 5) (by kernel_rfl) (by kernel_rfl) h.rs.txt h.wd hle).2
  have hyx : ∀ i, bx (dropV x a) = some i → bx x = some i := fun i hi => bx_drop hi
  have hpre0 : EW 26 [dropV x a, .sl (H).length 0 1] (H ++ [Blk.cells [.int .u8 112]]) = some (.ret (.bool false) false, (H ++ [Blk.cells [.int .u8 112]])) := by
    have hyS : Sx (H ++ [Blk.cells [.int .u8 112]]) (dropV x a) (by8 (B.drop a)) := (hy.1.app _)
    have hyW : Wd (H ++ [Blk.cells [.int .u8 112]]) (dropV x a) := by
      intro id lo len es e1 e2
      have hlt := h.xl id (hyx id (by rw [e1]; rfl))
      refine hy.2 id lo len es e1 ?_
      rw [← e2]
      skip
      rw [List.getElem?_append_left hlt]
    have hz : Rd (H ++ [Blk.cells [.int .u8 112]]) (.sl (H).length 0 1) (by8 [112]) := Rd.whole (es := by8 [112]) (by rw [List.getElem?_append_right (Nat.le_refl _), Nat.sub_self]; rfl)
    have := prefix_eq hyS hyW hz
    rwa [ht0] at this
  have hpre1 : EW 26 [dropV x a, .sl ((H ++ [Blk.cells [.int .u8 112]])).length 0 2] ((H ++ [Blk.cells [.int .u8 112]]) ++ [Blk.cells [.int .u8 116, .int .u8 105]]) = some (.ret (.bool false) false, ((H ++ [Blk.cells [.int .u8 112]]) ++ [Blk.cells [.int .u8 116, .int .u8 105]])) := by
    have hyS : Sx ((H ++ [Blk.cells [.int .u8 112]]) ++ [Blk.cells [.int .u8 116, .int .u8 105]]) (dropV x a) (by8 (B.drop a)) := ((hy.1.app _).app _)
    have hyW : Wd ((H ++ [Blk.cells [.int .u8 112]]) ++ [Blk.cells [.int .u8 116, .int .u8 105]]) (dropV x a) := by
      intro id lo len es e1 e2
      have hlt := h.xl id (hyx id (by rw [e1]; rfl))
      refine hy.2 id lo len es e1 ?_
      rw [← e2]
      simp only [List.append_assoc]
      rw [List.getElem?_append_left hlt]
    have hz : Rd ((H ++ [Blk.cells [.int .u8 112]]) ++ [Blk.cells [.int .u8 116, .int .u8 105]]) (.sl ((H ++ [Blk.cells [.int .u8 112]])).length 0 2) (by8 [116, 105]) := Rd.whole (es := by8 [116, 105]) (by rw [List.getElem?_append_right (Nat.le_refl _), Nat.sub_self]; rfl)
    have := prefix_eq hyS hyW hz
    rwa [ht1] at this
  have hpre2 : EW 26 [dropV x a, .sl (((H ++ [Blk.cells [.int .u8 112]]) ++ [Blk.cells [.int .u8 116, .int .u8 105]])).length 0 1] (((H ++ [Blk.cells [.int .u8 112]]) ++ [Blk.cells [.int .u8 116, .int .u8 105]]) ++ [Blk.cells [.int .u8 116]]) = some (.ret (.bool false) false, (((H ++ [Blk.cells [.int .u8 112]]) ++ [Blk.cells [.int .u8 116, .int .u8 105]]) ++ [Blk.cells [.int .u8 116]])) := by
    have hyS : Sx (((H ++ [Blk.cells [.int .u8 112]]) ++ [Blk.cells [.int .u8 116, .int .u8 105]]) ++ [Blk.cells [.int .u8 116]]) (dropV x a) (by8 (B.drop a)) := (((hy.1.app _).app _).app _)
    have hyW : Wd (((H ++ [Blk.cells [.int .u8 112]]) ++ [Blk.cells [.int .u8 116, .int .u8 105]]) ++ [Blk.cells [.int .u8 116]]) (dropV x a) := by
      intro id lo len es e1 e2
      have hlt := h.xl id (hyx id (by rw [e1]; rfl))
      refine hy.2 id lo len es e1 ?_
      rw [← e2]
      simp only [List.append_assoc]
      rw [List.getElem?_append_left hlt]
    have hz : Rd (((H ++ [Blk.cells [.int .u8 112]]) ++ [Blk.cells [.int .u8 116, .int .u8 105]]) ++ [Blk.cells [.int .u8 116]]) (.sl (((H ++ [Blk.cells [.int .u8 112]]) ++ [Blk.cells [.int .u8 116, .int .u8 105]])).length 0 1) (by8 [116]) := Rd.whole (es := by8 [116]) (by rw [List.getElem?_append_right (Nat.le_refl _), Nat.sub_self]; rfl)
    have := prefix_eq hyS hyW hz
    rwa [ht2] at this
  have qA := (((h.app [Blk.cells [.int .u8 112]]).app [Blk.cells [.int .u8 116, .int .u8 105]]).app [Blk.cells [.int .u8 116]])
  have c1 := want_eq qA.rs [100, 114, 97, 119] hB (by simp)
  have q1 := qA.toR (wantM_le (w := [100, 114, 97, 119]) qA.rs.le)
  obtain ⟨s1, hs1⟩ : ∃ s, s = wantM B [100, 114, 97, 119] (a, 0) := ⟨_, rfl⟩
  rw [← hs1] at c1 q1
  have c2 := more_eq q1.rs (D.length : Int) a hB
  have q2 := q1.toR (moreM_le (n := (D.length : Int)) (fr := a) q1.rs.le hle)
  rw [List.set_set] at c2 q2
  obtain ⟨s2, hs2⟩ : ∃ s, s = moreM B (D.length : Int) a s1 := ⟨_, rfl⟩
  rw [← hs2] at c2 q2
  have c3 := number_eq q2.rs (-2305843009213693952) 2305843009213693951 hB (by omega) (by omega)
  have q3 := q2.toR (numM_le (low := (-2305843009213693952)) (high := 2305843009213693951) (s := s2) q2.rs.le)
  rw [List.set_set] at c3 q3
  obtain ⟨⟨v3, s3⟩, hs3⟩ : ∃ s, s = numM B (-2305843009213693952) 2305843009213693951 s2 := ⟨_, rfl⟩
  rw [← hs3] at c3 q3
  simp only at c3 q3
  obtain ⟨a3, e3⟩ := s3
  have hbe : ((((H ++ [Blk.cells [.int .u8 112]]) ++ [Blk.cells [.int .u8 116, .int .u8 105]]) ++ [Blk.cells [.int .u8 116]]).set r (rb x (a3, e3)))[r]? = some (.cells [.agg [x, .int .i64 (a3 : Int), .int .i64 e3]]) := q3.rs.blk
  have hqe := q3.sb
  by_cases he : e3 = 0
  · subst he
    obtain ⟨xd', H2, hap, hq2, hsw, Q2⟩ := q3.draw v3 hDl
    have c4 := want_eq Q2.rs [10] hB (by simp)
    have q4 := Q2.toR (wantM_le (w := [10]) Q2.rs.le)
    obtain ⟨s4, hs4⟩ : ∃ s, s = wantM B [10] (a3, 0) := ⟨_, rfl⟩
    rw [← hs4] at c4 q4
    obtain ⟨a4, e4⟩ := s4
    have hb4 : ((H2.set q (.cells [.agg [xe, xd']])).set r (rb x (a4, e4)))[r]? = some (.cells [.agg [x, .int .i64 (a4 : Int), .int .i64 e4]]) := q4.rs.blk
    have hone : oneD B E.length D.length a = ((a4, e4), [], [v3]) := by
      unfold oneD
      simp only [← hs1, ← hs2, ← hs3, ← hs4]
    rw [hone]
    refine runs f17 b17 r17 n17 _ _ ?_
    simp only [bodyOf, Try.f17, Option.getD_some]
    simp only [WW, partV, eqCells, eqLf, minV, maxV, ifcV, zaa, zab, zac, zad, zae, zaf, zag, zah, zai, ofConst, ofConst1, List.replicate, zaj, zak, loadOp, Go.Abs.loadCells, binV, zal, pickV, zam, zan, zao, zap, zaq, zar, zas, zat, zau, outR, resAll, resOne, zav, zaw, zax, zay, zaz, zba, zbb, zbc, zbd, zbe, zbf, zbg, zbh, zbi, zbj, zbk, storeOp, storeCell, overlay, zbl, zbm, zbn, lookupOp, keyT, okRes, mapUpdateOp, zbo, zbp, zbq, zbr, zbs, zbt, zbu, Nat.reduceSub, Nat.reduceAdd, Int.reduceLT, Int.reduceLE, Int.reduceAdd, Int.reduceSub, Int.reduceToNat, Int.reduceBEq, Int.reduceBNe, Int.reduceMul, Nat.reduceBEq, Nat.reduceBNe, Nat.reduceLT, Nat.reduceLeDiff, Nat.reduceMul, Nat.reduceEqDiff, WD, effB, effH, isPriv, isHeap, isImm, zbx, zby, zbz, chkO, setD, dslot, zca, zcb, zcc, zcd, ptrCells_some, F17, hb1]
    refine wC_dr [] (by kernel_rfl) ?_
    simp only [WW, partV, eqCells, eqLf, minV, maxV, ifcV, zaa, zab, zac, zad, zae, zaf, zag, zah, zai, ofConst, ofConst1, List.replicate, zaj, zak, loadOp, Go.Abs.loadCells, binV, zal, pickV, zam, zan, zao, zap, zaq, zar, zas, zat, zau, outR, resAll, resOne, zav, zaw, zax, zay, zaz, zba, zbb, zbc, zbd, zbe, zbf, zbg, zbh, zbi, zbj, zbk, storeOp, storeCell, overlay, zbl, zbm, zbn, lookupOp, keyT, okRes, mapUpdateOp, zbo, zbp, zbq, zbr, zbs, zbt, zbu, Nat.reduceSub, Nat.reduceAdd, Int.reduceLT, Int.reduceLE, Int.reduceAdd, Int.reduceSub, Int.reduceToNat, Int.reduceBEq, Int.reduceBNe, Int.reduceMul, Nat.reduceBEq, Nat.reduceBNe, Nat.reduceLT, Nat.reduceLeDiff, Nat.reduceMul, Nat.reduceEqDiff, WD, effB, effH, isPriv, isHeap, isImm, zbx, zby, zbz, chkO, setD, dslot, zca, zcb, zcc, zcd, ptrCells_some, F17, hb1, hx.shutIn, hsl, Option.map_none, hy.1.rd.shutIn, buildOp, fillV, Lay.place, Bool.or_self, Bool.or_false, Bool.false_or, decide_not, ne_eq, not_true_eq_false, decide_eq_true_eq, Nat.lt_irrefl, buildSliceV, lits, srcV_eq, srcK_sl, srcK_str, srcSl_nils, srcSl_rsl, srcSl_sl, frow, zbv, zbw, List.all_nil, List.all_cons, rowV, Bool.false_and, Bool.and_false, not_false_eq_true, grows_lr, callOut_t, convertOp, get_last]
    rw [wpCall_eq hpre0]
    simp only [WW, partV, eqCells, eqLf, minV, maxV, ifcV, zaa, zab, zac, zad, zae, zaf, zag, zah, zai, ofConst, ofConst1, List.replicate, zaj, zak, loadOp, Go.Abs.loadCells, binV, zal, pickV, zam, zan, zao, zap, zaq, zar, zas, zat, zau, outR, resAll, resOne, zav, zaw, zax, zay, zaz, zba, zbb, zbc, zbd, zbe, zbf, zbg, zbh, zbi, zbj, zbk, storeOp, storeCell, overlay, zbl, zbm, zbn, lookupOp, keyT, okRes, mapUpdateOp, zbo, zbp, zbq, zbr, zbs, zbt, zbu, Nat.reduceSub, Nat.reduceAdd, Int.reduceLT, Int.reduceLE, Int.reduceAdd, Int.reduceSub, Int.reduceToNat, Int.reduceBEq, Int.reduceBNe, Int.reduceMul, Nat.reduceBEq, Nat.reduceBNe, Nat.reduceLT, Nat.reduceLeDiff, Nat.reduceMul, Nat.reduceEqDiff, WD, effB, effH, isPriv, isHeap, isImm, zbx, zby, zbz, chkO, setD, dslot, zca, zcb, zcc, zcd, ptrCells_some, F17, hy.1.rd.shutIn, buildOp, fillV, Lay.place, Bool.or_self, Bool.or_false, Bool.false_or, decide_not, ne_eq, not_true_eq_false, decide_eq_true_eq, Nat.lt_irrefl, buildSliceV, lits, srcV_eq, srcK_sl, srcK_str, srcSl_nils, srcSl_rsl, srcSl_sl, frow, zbv, zbw, List.all_nil, List.all_cons, rowV, Bool.false_and, Bool.and_false, not_false_eq_true, grows_lr, callOut_t, convertOp, get_last]
    rw [wpCall_eq hpre1]
    simp only [WW, partV, eqCells, eqLf, minV, maxV, ifcV, zaa, zab, zac, zad, zae, zaf, zag, zah, zai, ofConst, ofConst1, List.replicate, zaj, zak, loadOp, Go.Abs.loadCells, binV, zal, pickV, zam, zan, zao, zap, zaq, zar, zas, zat, zau, outR, resAll, resOne, zav, zaw, zax, zay, zaz, zba, zbb, zbc, zbd, zbe, zbf, zbg, zbh, zbi, zbj, zbk, storeOp, storeCell, overlay, zbl, zbm, zbn, lookupOp, keyT, okRes, mapUpdateOp, zbo, zbp, zbq, zbr, zbs, zbt, zbu, Nat.reduceSub, Nat.reduceAdd, Int.reduceLT, Int.reduceLE, Int.reduceAdd, Int.reduceSub, Int.reduceToNat, Int.reduceBEq, Int.reduceBNe, Int.reduceMul, Nat.reduceBEq, Nat.reduceBNe, Nat.reduceLT, Nat.reduceLeDiff, Nat.reduceMul, Nat.reduceEqDiff, WD, effB, effH, isPriv, isHeap, isImm, zbx, zby, zbz, chkO, setD, dslot, zca, zcb, zcc, zcd, ptrCells_some, F17, hy.1.rd.shutIn, buildOp, fillV, Lay.place, Bool.or_self, Bool.or_false, Bool.false_or, decide_not, ne_eq, not_true_eq_false, decide_eq_true_eq, Nat.lt_irrefl, buildSliceV, lits, srcV_eq, srcK_sl, srcK_str, srcSl_nils, srcSl_rsl, srcSl_sl, frow, zbv, zbw, List.all_nil, List.all_cons, rowV, Bool.false_and, Bool.and_false, not_false_eq_true, grows_lr, callOut_t, convertOp, get_last]
    rw [wpCall_eq hpre2]
    simp only [WW, partV, eqCells, eqLf, minV, maxV, ifcV, zaa, zab, zac, zad, zae, zaf, zag, zah, zai, ofConst, ofConst1, List.replicate, zaj, zak, loadOp, Go.Abs.loadCells, binV, zal, pickV, zam, zan, zao, zap, zaq, zar, zas, zat, zau, outR, resAll, resOne, zav, zaw, zax, zay, zaz, zba, zbb, zbc, zbd, zbe, zbf, zbg, zbh, zbi, zbj, zbk, storeOp, storeCell, overlay, zbl, zbm, zbn, lookupOp, keyT, okRes, mapUpdateOp, zbo, zbp, zbq, zbr, zbs, zbt, zbu, Nat.reduceSub, Nat.reduceAdd, Int.reduceLT, Int.reduceLE, Int.reduceAdd, Int.reduceSub, Int.reduceToNat, Int.reduceBEq, Int.reduceBNe, Int.reduceMul, Nat.reduceBEq, Nat.reduceBNe, Nat.reduceLT, Nat.reduceLeDiff, Nat.reduceMul, Nat.reduceEqDiff, WD, effB, effH, isPriv, isHeap, isImm, zbx, zby, zbz, chkO, setD, dslot, zca, zcb, zcc, zcd, ptrCells_some, F17, hy.1.rd.shutIn, buildOp, fillV, Lay.place, Bool.or_self, Bool.or_false, Bool.false_or, decide_not, ne_eq, not_true_eq_false, decide_eq_true_eq, Nat.lt_irrefl, buildSliceV, lits, srcV_eq, srcK_sl, srcK_str, srcSl_nils, srcSl_rsl, srcSl_sl, frow, zbv, zbw, List.all_nil, List.all_cons, rowV, Bool.false_and, Bool.and_false, not_false_eq_true, grows_lr, callOut_t, convertOp, get_last]
    rw [wpCall_eq c1]
    simp only [WW, partV, eqCells, eqLf, minV, maxV, ifcV, zaa, zab, zac, zad, zae, zaf, zag, zah, zai, ofConst, ofConst1, List.replicate, zaj, zak, loadOp, Go.Abs.loadCells, binV, zal, pickV, zam, zan, zao, zap, zaq, zar, zas, zat, zau, outR, resAll, resOne, zav, zaw, zax, zay, zaz, zba, zbb, zbc, zbd, zbe, zbf, zbg, zbh, zbi, zbj, zbk, storeOp, storeCell, overlay, zbl, zbm, zbn, lookupOp, keyT, okRes, mapUpdateOp, zbo, zbp, zbq, zbr, zbs, zbt, zbu, Nat.reduceSub, Nat.reduceAdd, Int.reduceLT, Int.reduceLE, Int.reduceAdd, Int.reduceSub, Int.reduceToNat, Int.reduceBEq, Int.reduceBNe, Int.reduceMul, Nat.reduceBEq, Nat.reduceBNe, Nat.reduceLT, Nat.reduceLeDiff, Nat.reduceMul, Nat.reduceEqDiff, WD, effB, effH, isPriv, isHeap, isImm, zbx, zby, zbz, chkO, setD, dslot, zca, zcb, zcc, zcd, ptrCells_some, F17, q1.sb, q1.se.shut, q1.sd.shut, q1.se.len, q1.sd.len, buildOp, fillV, Lay.place, Bool.or_self, Bool.or_false, Bool.false_or, decide_not, ne_eq, not_true_eq_false, decide_eq_true_eq, Nat.lt_irrefl]
    rw [wpCall_eq c2]
    simp only [WW, partV, eqCells, eqLf, minV, maxV, ifcV, zaa, zab, zac, zad, zae, zaf, zag, zah, zai, ofConst, ofConst1, List.replicate, zaj, zak, loadOp, Go.Abs.loadCells, binV, zal, pickV, zam, zan, zao, zap, zaq, zar, zas, zat, zau, outR, resAll, resOne, zav, zaw, zax, zay, zaz, zba, zbb, zbc, zbd, zbe, zbf, zbg, zbh, zbi, zbj, zbk, storeOp, storeCell, overlay, zbl, zbm, zbn, lookupOp, keyT, okRes, mapUpdateOp, zbo, zbp, zbq, zbr, zbs, zbt, zbu, Nat.reduceSub, Nat.reduceAdd, Int.reduceLT, Int.reduceLE, Int.reduceAdd, Int.reduceSub, Int.reduceToNat, Int.reduceBEq, Int.reduceBNe, Int.reduceMul, Nat.reduceBEq, Nat.reduceBNe, Nat.reduceLT, Nat.reduceLeDiff, Nat.reduceMul, Nat.reduceEqDiff, WD, effB, effH, isPriv, isHeap, isImm, zbx, zby, zbz, chkO, setD, dslot, zca, zcb, zcc, zcd, ptrCells_some, F17, q2.sb, q2.se.shut, q2.sd.shut, q2.se.len, q2.sd.len, buildOp, fillV, Lay.place, Bool.or_self, Bool.or_false, Bool.false_or, decide_not, ne_eq, not_true_eq_false, decide_eq_true_eq, Nat.lt_irrefl]
    rw [wpCall_eq c3]
    simp only [WW, partV, eqCells, eqLf, minV, maxV, ifcV, zaa, zab, zac, zad, zae, zaf, zag, zah, zai, ofConst, ofConst1, List.replicate, zaj, zak, loadOp, Go.Abs.loadCells, binV, zal, pickV, zam, zan, zao, zap, zaq, zar, zas, zat, zau, outR, resAll, resOne, zav, zaw, zax, zay, zaz, zba, zbb, zbc, zbd, zbe, zbf, zbg, zbh, zbi, zbj, zbk, storeOp, storeCell, overlay, zbl, zbm, zbn, lookupOp, keyT, okRes, mapUpdateOp, zbo, zbp, zbq, zbr, zbs, zbt, zbu, Nat.reduceSub, Nat.reduceAdd, Int.reduceLT, Int.reduceLE, Int.reduceAdd, Int.reduceSub, Int.reduceToNat, Int.reduceBEq, Int.reduceBNe, Int.reduceMul, Nat.reduceBEq, Nat.reduceBNe, Nat.reduceLT, Nat.reduceLeDiff, Nat.reduceMul, Nat.reduceEqDiff, WD, effB, effH, isPriv, isHeap, isImm, zbx, zby, zbz, chkO, setD, dslot, zca, zcb, zcc, zcd, ptrCells_some, F17, hbe, hqe, q3.se.shut, q3.sd.shut, buildSliceV, lits, srcV_eq, srcK_sl, srcK_str, srcSl_nils, srcSl_rsl, srcSl_sl, frow, zbv, zbw, List.all_nil, List.all_cons, rowV, Bool.false_and, Bool.and_false, ne_eq, not_false_eq_true, grows_lr, callOut_t, hap, hq2, hsw.shut, hsw.prom, hsw.cells1, hsw.width1, hsw.ok, storeHeap, heapSet, elemSet]
    rw [wpCall_eq c4]
    refine bSplit (b := (e4 == 0)) (fun he4 => ?_) (fun he4 => ?_)
    · simp only [WW, partV, eqCells, eqLf, minV, maxV, ifcV, zaa, zab, zac, zad, zae, zaf, zag, zah, zai, ofConst, ofConst1, List.replicate, zaj, zak, loadOp, Go.Abs.loadCells, binV, zal, pickV, zam, zan, zao, zap, zaq, zar, zas, zat, zau, outR, resAll, resOne, zav, zaw, zax, zay, zaz, zba, zbb, zbc, zbd, zbe, zbf, zbg, zbh, zbi, zbj, zbk, storeOp, storeCell, overlay, zbl, zbm, zbn, lookupOp, keyT, okRes, mapUpdateOp, zbo, zbp, zbq, zbr, zbs, zbt, zbu, Nat.reduceSub, Nat.reduceAdd, Int.reduceLT, Int.reduceLE, Int.reduceAdd, Int.reduceSub, Int.reduceToNat, Int.reduceBEq, Int.reduceBNe, Int.reduceMul, Nat.reduceBEq, Nat.reduceBNe, Nat.reduceLT, Nat.reduceLeDiff, Nat.reduceMul, Nat.reduceEqDiff, WD, effB, effH, isPriv, isHeap, isImm, zbx, zby, zbz, chkO, setD, dslot, zca, zcb, zcc, zcd, ptrCells_some, F17, hb4, he4, buildOp, fillV, Lay.place, Bool.or_self, Bool.or_false, Bool.false_or, decide_not, ne_eq, not_true_eq_false, decide_eq_true_eq, Nat.lt_irrefl]
      exact ⟨xe, xd', E, _, q4, fun _ => ⟨by simp, rfl⟩⟩
    · simp only [WW, partV, eqCells, eqLf, minV, maxV, ifcV, zaa, zab, zac, zad, zae, zaf, zag, zah, zai, ofConst, ofConst1, List.replicate, zaj, zak, loadOp, Go.Abs.loadCells, binV, zal, pickV, zam, zan, zao, zap, zaq, zar, zas, zat, zau, outR, resAll, resOne, zav, zaw, zax, zay, zaz, zba, zbb, zbc, zbd, zbe, zbf, zbg, zbh, zbi, zbj, zbk, storeOp, storeCell, overlay, zbl, zbm, zbn, lookupOp, keyT, okRes, mapUpdateOp, zbo, zbp, zbq, zbr, zbs, zbt, zbu, Nat.reduceSub, Nat.reduceAdd, Int.reduceLT, Int.reduceLE, Int.reduceAdd, Int.reduceSub, Int.reduceToNat, Int.reduceBEq, Int.reduceBNe, Int.reduceMul, Nat.reduceBEq, Nat.reduceBNe, Nat.reduceLT, Nat.reduceLeDiff, Nat.reduceMul, Nat.reduceEqDiff, WD, effB, effH, isPriv, isHeap, isImm, zbx, zby, zbz, chkO, setD, dslot, zca, zcb, zcc, zcd, ptrCells_some, F17, hb4, he4, buildOp, fillV, Lay.place, Bool.or_self, Bool.or_false, Bool.false_or, decide_not, ne_eq, not_true_eq_false, decide_eq_true_eq, Nat.lt_irrefl]
      exact ⟨xe, xd', E, _, q4, fun _ => ⟨by simp, rfl⟩⟩
  · have he' : (e3 == 0) = false := by simpa using he
    have c4 := want_eq q3.rs [10] hB (by simp)
    rw [wantM_bad (by exact he), q3.rs.same] at c4
    have hone : oneD B E.length D.length a = ((a3, e3), [], [v3]) := by
      unfold oneD
      simp only [← hs1, ← hs2, ← hs3, wantM_bad (show (a3, e3).2 ≠ 0 from he)]
    rw [hone]
    refine runs f17 b17 r17 n17 _ _ ?_
    simp only [bodyOf, Try.f17, Option.getD_some]
    simp only [WW, partV, eqCells, eqLf, minV, maxV, ifcV, zaa, zab, zac, zad, zae, zaf, zag, zah, zai, ofConst, ofConst1, List.replicate, zaj, zak, loadOp, Go.Abs.loadCells, binV, zal, pickV, zam, zan, zao, zap, zaq, zar, zas, zat, zau, outR, resAll, resOne, zav, zaw, zax, zay, zaz, zba, zbb, zbc, zbd, zbe, zbf, zbg, zbh, zbi, zbj, zbk, storeOp, storeCell, overlay, zbl, zbm, zbn, lookupOp, keyT, okRes, mapUpdateOp, zbo, zbp, zbq, zbr, zbs, zbt, zbu, Nat.reduceSub, Nat.reduceAdd, Int.reduceLT, Int.reduceLE, Int.reduceAdd, Int.reduceSub, Int.reduceToNat, Int.reduceBEq, Int.reduceBNe, Int.reduceMul, Nat.reduceBEq, Nat.reduceBNe, Nat.reduceLT, Nat.reduceLeDiff, Nat.reduceMul, Nat.reduceEqDiff, WD, effB, effH, isPriv, isHeap, isImm, zbx, zby, zbz, chkO, setD, dslot, zca, zcb, zcc, zcd, ptrCells_some, F17, hb1]
    refine wC_dr [] (by kernel_rfl) ?_
    simp only [WW, partV, eqCells, eqLf, minV, maxV, ifcV, zaa, zab, zac, zad, zae, zaf, zag, zah, zai, ofConst, ofConst1, List.replicate, zaj, zak, loadOp, Go.Abs.loadCells, binV, zal, pickV, zam, zan, zao, zap, zaq, zar, zas, zat, zau, outR, resAll, resOne, zav, zaw, zax, zay, zaz, zba, zbb, zbc, zbd, zbe, zbf, zbg, zbh, zbi, zbj, zbk, storeOp, storeCell, overlay, zbl, zbm, zbn, lookupOp, keyT, okRes, mapUpdateOp, zbo, zbp, zbq, zbr, zbs, zbt, zbu, Nat.reduceSub, Nat.reduceAdd, Int.reduceLT, Int.reduceLE, Int.reduceAdd, Int.reduceSub, Int.reduceToNat, Int.reduceBEq, Int.reduceBNe, Int.reduceMul, Nat.reduceBEq, Nat.reduceBNe, Nat.reduceLT, Nat.reduceLeDiff, Nat.reduceMul, Nat.reduceEqDiff, WD, effB, effH, isPriv, isHeap, isImm, zbx, zby, zbz, chkO, setD, dslot, zca, zcb, zcc, zcd, ptrCells_some, F17, hb1, hx.shutIn, hsl, Option.map_none, hy.1.rd.shutIn, buildOp, fillV, Lay.place, Bool.or_self, Bool.or_false, Bool.false_or, decide_not, ne_eq, not_true_eq_false, decide_eq_true_eq, Nat.lt_irrefl, buildSliceV, lits, srcV_eq, srcK_sl, srcK_str, srcSl_nils, srcSl_rsl, srcSl_sl, frow, zbv, zbw, List.all_nil, List.all_cons, rowV, Bool.false_and, Bool.and_false, not_false_eq_true, grows_lr, callOut_t, convertOp, get_last]
    rw [wpCall_eq hpre0]
    simp only [WW, partV, eqCells, eqLf, minV, maxV, ifcV, zaa, zab, zac, zad, zae, zaf, zag, zah, zai, ofConst, ofConst1, List.replicate, zaj, zak, loadOp, Go.Abs.loadCells, binV, zal, pickV, zam, zan, zao, zap, zaq, zar, zas, zat, zau, outR, resAll, resOne, zav, zaw, zax, zay, zaz, zba, zbb, zbc, zbd, zbe, zbf, zbg, zbh, zbi, zbj, zbk, storeOp, storeCell, overlay, zbl, zbm, zbn, lookupOp, keyT, okRes, mapUpdateOp, zbo, zbp, zbq, zbr, zbs, zbt, zbu, Nat.reduceSub, Nat.reduceAdd, Int.reduceLT, Int.reduceLE, Int.reduceAdd, Int.reduceSub, Int.reduceToNat, Int.reduceBEq, Int.reduceBNe, Int.reduceMul, Nat.reduceBEq, Nat.reduceBNe, Nat.reduceLT, Nat.reduceLeDiff, Nat.reduceMul, Nat.reduceEqDiff, WD, effB, effH, isPriv, isHeap, isImm, zbx, zby, zbz, chkO, setD, dslot, zca, zcb, zcc, zcd, ptrCells_some, F17, hy.1.rd.shutIn, buildOp, fillV, Lay.place, Bool.or_self, Bool.or_false, Bool.false_or, decide_not, ne_eq, not_true_eq_false, decide_eq_true_eq, Nat.lt_irrefl, buildSliceV, lits, srcV_eq, srcK_sl, srcK_str, srcSl_nils, srcSl_rsl, srcSl_sl, frow, zbv, zbw, List.all_nil, List.all_cons, rowV, Bool.false_and, Bool.and_false, not_false_eq_true, grows_lr, callOut_t, convertOp, get_last]
    rw [wpCall_eq hpre1]
    simp only [WW, partV, eqCells, eqLf, minV, maxV, ifcV, zaa, zab, zac, zad, zae, zaf, zag, zah, zai, ofConst, ofConst1, List.replicate, zaj, zak, loadOp, Go.Abs.loadCells, binV, zal, pickV, zam, zan, zao, zap, zaq, zar, zas, zat, zau, outR, resAll, resOne, zav, zaw, zax, zay, zaz, zba, zbb, zbc, zbd, zbe, zbf, zbg, zbh, zbi, zbj, zbk, storeOp, storeCell, overlay, zbl, zbm, zbn, lookupOp, keyT, okRes, mapUpdateOp, zbo, zbp, zbq, zbr, zbs, zbt, zbu, Nat.reduceSub, Nat.reduceAdd, Int.reduceLT, Int.reduceLE, Int.reduceAdd, Int.reduceSub, Int.reduceToNat, Int.reduceBEq, Int.reduceBNe, Int.reduceMul, Nat.reduceBEq, Nat.reduceBNe, Nat.reduceLT, Nat.reduceLeDiff, Nat.reduceMul, Nat.reduceEqDiff, WD, effB, effH, isPriv, isHeap, isImm, zbx, zby, zbz, chkO, setD, dslot, zca, zcb, zcc, zcd, ptrCells_some, F17, hy.1.rd.shutIn, buildOp, fillV, Lay.place, Bool.or_self, Bool.or_false, Bool.false_or, decide_not, ne_eq, not_true_eq_false, decide_eq_true_eq, Nat.lt_irrefl, buildSliceV, lits, srcV_eq, srcK_sl, srcK_str, srcSl_nils, srcSl_rsl, srcSl_sl, frow, zbv, zbw, List.all_nil, List.all_cons, rowV, Bool.false_and, Bool.and_false, not_false_eq_true, grows_lr, callOut_t, convertOp, get_last]
    rw [wpCall_eq hpre2]
    simp only [WW, partV, eqCells, eqLf, minV, maxV, ifcV, zaa, zab, zac, zad, zae, zaf, zag, zah, zai, ofConst, ofConst1, List.replicate, zaj, zak, loadOp, Go.Abs.loadCells, binV, zal, pickV, zam, zan, zao, zap, zaq, zar, zas, zat, zau, outR, resAll, resOne, zav, zaw, zax, zay, zaz, zba, zbb, zbc, zbd, zbe, zbf, zbg, zbh, zbi, zbj, zbk, storeOp, storeCell, overlay, zbl, zbm, zbn, lookupOp, keyT, okRes, mapUpdateOp, zbo, zbp, zbq, zbr, zbs, zbt, zbu, Nat.reduceSub, Nat.reduceAdd, Int.reduceLT, Int.reduceLE, Int.reduceAdd, Int.reduceSub, Int.reduceToNat, Int.reduceBEq, Int.reduceBNe, Int.reduceMul, Nat.reduceBEq, Nat.reduceBNe, Nat.reduceLT, Nat.reduceLeDiff, Nat.reduceMul, Nat.reduceEqDiff, WD, effB, effH, isPriv, isHeap, isImm, zbx, zby, zbz, chkO, setD, dslot, zca, zcb, zcc, zcd, ptrCells_some, F17, hy.1.rd.shutIn, buildOp, fillV, Lay.place, Bool.or_self, Bool.or_false, Bool.false_or, decide_not, ne_eq, not_true_eq_false, decide_eq_true_eq, Nat.lt_irrefl, buildSliceV, lits, srcV_eq, srcK_sl, srcK_str, srcSl_nils, srcSl_rsl, srcSl_sl, frow, zbv, zbw, List.all_nil, List.all_cons, rowV, Bool.false_and, Bool.and_false, not_false_eq_true, grows_lr, callOut_t, convertOp, get_last]
    rw [wpCall_eq c1]
    simp only [WW, partV, eqCells, eqLf, minV, maxV, ifcV, zaa, zab, zac, zad, zae, zaf, zag, zah, zai, ofConst, ofConst1, List.replicate, zaj, zak, loadOp, Go.Abs.loadCells, binV, zal, pickV, zam, zan, zao, zap, zaq, zar, zas, zat, zau, outR, resAll, resOne, zav, zaw, zax, zay, zaz, zba, zbb, zbc, zbd, zbe, zbf, zbg, zbh, zbi, zbj, zbk, storeOp, storeCell, overlay, zbl, zbm, zbn, lookupOp, keyT, okRes, mapUpdateOp, zbo, zbp, zbq, zbr, zbs, zbt, zbu, Nat.reduceSub, Nat.reduceAdd, Int.reduceLT, Int.reduceLE, Int.reduceAdd, Int.reduceSub, Int.reduceToNat, Int.reduceBEq, Int.reduceBNe, Int.reduceMul, Nat.reduceBEq, Nat.reduceBNe, Nat.reduceLT, Nat.reduceLeDiff, Nat.reduceMul, Nat.reduceEqDiff, WD, effB, effH, isPriv, isHeap, isImm, zbx, zby, zbz, chkO, setD, dslot, zca, zcb, zcc, zcd, ptrCells_some, F17, q1.sb, q1.se.shut, q1.sd.shut, q1.se.len, q1.sd.len, buildOp, fillV, Lay.place, Bool.or_self, Bool.or_false, Bool.false_or, decide_not, ne_eq, not_true_eq_false, decide_eq_true_eq, Nat.lt_irrefl]
    rw [wpCall_eq c2]
    simp only [WW, partV, eqCells, eqLf, minV, maxV, ifcV, zaa, zab, zac, zad, zae, zaf, zag, zah, zai, ofConst, ofConst1, List.replicate, zaj, zak, loadOp, Go.Abs.loadCells, binV, zal, pickV, zam, zan, zao, zap, zaq, zar, zas, zat, zau, outR, resAll, resOne, zav, zaw, zax, zay, zaz, zba, zbb, zbc, zbd, zbe, zbf, zbg, zbh, zbi, zbj, zbk, storeOp, storeCell, overlay, zbl, zbm, zbn, lookupOp, keyT, okRes, mapUpdateOp, zbo, zbp, zbq, zbr, zbs, zbt, zbu, Nat.reduceSub, Nat.reduceAdd, Int.reduceLT, Int.reduceLE, Int.reduceAdd, Int.reduceSub, Int.reduceToNat, Int.reduceBEq, Int.reduceBNe, Int.reduceMul, Nat.reduceBEq, Nat.reduceBNe, Nat.reduceLT, Nat.reduceLeDiff, Nat.reduceMul, Nat.reduceEqDiff, WD, effB, effH, isPriv, isHeap, isImm, zbx, zby, zbz, chkO, setD, dslot, zca, zcb, zcc, zcd, ptrCells_some, F17, q2.sb, q2.se.shut, q2.sd.shut, q2.se.len, q2.sd.len, buildOp, fillV, Lay.place, Bool.or_self, Bool.or_false, Bool.false_or, decide_not, ne_eq, not_true_eq_false, decide_eq_true_eq, Nat.lt_irrefl]
    rw [wpCall_eq c3]
    simp only [WW, partV, eqCells, eqLf, minV, maxV, ifcV, zaa, zab, zac, zad, zae, zaf, zag, zah, zai, ofConst, ofConst1, List.replicate, zaj, zak, loadOp, Go.Abs.loadCells, binV, zal, pickV, zam, zan, zao, zap, zaq, zar, zas, zat, zau, outR, resAll, resOne, zav, zaw, zax, zay, zaz, zba, zbb, zbc, zbd, zbe, zbf, zbg, zbh, zbi, zbj, zbk, storeOp, storeCell, overlay, zbl, zbm, zbn, lookupOp, keyT, okRes, mapUpdateOp, zbo, zbp, zbq, zbr, zbs, zbt, zbu, Nat.reduceSub, Nat.reduceAdd, Int.reduceLT, Int.reduceLE, Int.reduceAdd, Int.reduceSub, Int.reduceToNat, Int.reduceBEq, Int.reduceBNe, Int.reduceMul, Nat.reduceBEq, Nat.reduceBNe, Nat.reduceLT, Nat.reduceLeDiff, Nat.reduceMul, Nat.reduceEqDiff, WD, effB, effH, isPriv, isHeap, isImm, zbx, zby, zbz, chkO, setD, dslot, zca, zcb, zcc, zcd, ptrCells_some, F17, hbe, he', buildOp, fillV, Lay.place, Bool.or_self, Bool.or_false, Bool.false_or, decide_not, ne_eq, not_true_eq_false, decide_eq_true_eq, Nat.lt_irrefl]
    rw [wpCall_eq c4]
    simp only [WW, partV, eqCells, eqLf, minV, maxV, ifcV, zaa, zab, zac, zad, zae, zaf, zag, zah, zai, ofConst, ofConst1, List.replicate, zaj, zak, loadOp, Go.Abs.loadCells, binV, zal, pickV, zam, zan, zao, zap, zaq, zar, zas, zat, zau, outR, resAll, resOne, zav, zaw, zax, zay, zaz, zba, zbb, zbc, zbd, zbe, zbf, zbg, zbh, zbi, zbj, zbk, storeOp, storeCell, overlay, zbl, zbm, zbn, lookupOp, keyT, okRes, mapUpdateOp, zbo, zbp, zbq, zbr, zbs, zbt, zbu, Nat.reduceSub, Nat.reduceAdd, Int.reduceLT, Int.reduceLE, Int.reduceAdd, Int.reduceSub, Int.reduceToNat, Int.reduceBEq, Int.reduceBNe, Int.reduceMul, Nat.reduceBEq, Nat.reduceBNe, Nat.reduceLT, Nat.reduceLeDiff, Nat.reduceMul, Nat.reduceEqDiff, WD, effB, effH, isPriv, isHeap, isImm, zbx, zby, zbz, chkO, setD, dslot, zca, zcb, zcc, zcd, ptrCells_some, F17, hbe, he', buildOp, fillV, Lay.place, Bool.or_self, Bool.or_false, Bool.false_or, decide_not, ne_eq, not_true_eq_false, decide_eq_true_eq, Nat.lt_irrefl]
    exact ⟨xe, xd, E, D, q3, fun q => absurd q he⟩
end Go.Proofs.Yteenpfdpokekgaa

/- The reader of scripts: a whole text. -/
namespace Go.Proofs.Yteenpfdpokekgaa
open Go Go.Abs Go.Proofs
set_option maxRecDepth 100000
set_option maxHeartbeats 4000000
set_option linter.unusedVariables false
set_option linter.unusedSimpArgs false
def oneM (B : List UInt8) (ne nd a : Nat) : (Nat × Int) × List Ent × List Int :=
  if preB (B.drop a) [112] = true then oneP B ne nd a
  else if preB (B.drop a) [116, 105] = true then (if B[(wantM B [116, 105] (a, 0)).1]? = some 101 then oneE B ne nd a else oneK B ne nd a)
  else if preB (B.drop a) [116] = true then oneT B ne nd a else oneD B ne nd a
theorem one_spec {G H : Hp} {r q : Nat} {x : V} {B : List UInt8} {a : Nat} {xe xd : V} {E : List Ent} {D : List Int} (h : QS G H r q x B (a, 0) xe xd E D) (hB : B.length < 4294967296) (hEl : E.length < 4294967296) (hDl : D.length < 4294967296) :
    wpCall EW 17 [.ptr r 0 0, .ptr q 0 0] H (fun out H' => out = .ret (.tup []) false ∧ OneR G r q x B E D (oneM B E.length D.length a) H') := by
  unfold oneM
  cases h0 : preB (B.drop a) [112] with
  | true => simp only [if_true]; exact one_P h hB hEl hDl h0
  | false =>
    simp only [Bool.false_eq_true, if_false]
    cases h1 : preB (B.drop a) [116, 105] with
    | true =>
      simp only [if_true]
      cases hc : B[(wantM B [116, 105] (a, 0)).1]? with
      | none => rw [if_neg (by simp)]; exact one_K0 h hB hEl hDl h0 h1 hc
      | some c =>
        cases hne : (c == 101) with
        | true => rw [eq_of_beq hne] at hc ⊢; rw [if_pos rfl]; exact one_E h hB hEl hDl h0 h1 hc
        | false => rw [if_neg (by intro q; cases q; simp at hne)]; exact one_K1 h hB hEl hDl h0 h1 hc hne
    | false =>
      simp only [Bool.false_eq_true, if_false]
      cases h2 : preB (B.drop a) [116] with
      | true => simp only [if_true]; exact one_T h hB hEl hDl h0 h1 h2
      | false => simp only [Bool.false_eq_true, if_false]; exact one_D h hB hEl hDl h0 h1 h2
/-! Progress -/
theorem want_ok {B : List UInt8} : ∀ {w : List UInt8} {s : Nat × Int}, (wantM B w s).2 = 0 → s.2 = 0 ∧ (wantM B w s).1 = s.1 + w.length
  | [], s, h => ⟨h, rfl⟩
  | c :: w, s, h => by
    unfold wantM at h ⊢
    by_cases h0 : s.2 = 0
    · rw [if_pos h0] at h ⊢
      by_cases h1 : B[s.1]? = some c
      · rw [if_pos h1] at h ⊢
        have := want_ok h
        exact ⟨h0, by rw [this.2]; simp; omega⟩
      · rw [if_neg h1] at h; cases h
    · rw [if_neg h0] at h; exact absurd h h0
theorem more_ok {B : List UInt8} {n : Int} {fr : Nat} {s : Nat × Int} (h : (moreM B n fr s).2 = 0) : n ≠ 65536 ∧ moreM B n fr s = wantM B [32] s ∧ s.2 = 0 ∧ (moreM B n fr s).1 = s.1 + 1 := by
  unfold moreM at h ⊢
  split at h
  · cases h
  · rename_i hc
    rw [if_neg hc]
    have h2 := want_ok h
    exact ⟨fun e => hc ⟨h, e⟩, rfl, h2.1, h2.2⟩
theorem digsL_ge : ∀ (l : List UInt8) (i : Nat) (n : Int), i ≤ (digsL l i n).1
  | [], i, n => Nat.le_refl _
  | c :: l, i, n => by
    unfold digsL
    split
    · have := digsL_ge l (i + 1) (stepN n c); omega
    · exact Nat.le_refl _
theorem end_ok {low high : Int} {fr : Nat} {sg : Int} {q : Nat × Int} (h : (endM low high fr sg q).2.2 = 0) : (endM low high fr sg q).2 = (q.1, 0) := by
  unfold endM at h ⊢
  split at h
  · cases h
  · rename_i hc; rw [if_neg hc]
theorem num_ok {B : List UInt8} {low high : Int} {s : Nat × Int} (h : (numM B low high s).2.2 = 0) : s.2 = 0 ∧ s.1 ≤ (numM B low high s).2.1 := by
  unfold numM at h ⊢
  by_cases h0 : s.2 = 0
  · rw [if_neg (by simp [h0])] at h ⊢
    refine ⟨h0, ?_⟩
    have key : ∀ (neg : Bool) (a1 : Nat), s.1 ≤ a1 → (signM B low high s.1 neg a1).2.2 = 0 → s.1 ≤ (signM B low high s.1 neg a1).2.1 := fun neg a1 ha hs => by
      unfold signM at hs ⊢
      split at hs
      · cases hs
      rename_i c1; rw [if_neg c1]
      split at hs
      · cases hs
      rename_i c2; rw [if_neg c2]
      unfold digsM at hs ⊢
      split at hs
      · rename_i c3; rw [if_pos c3]
        split at hs
        · cases hs
        · rename_i c4; rw [if_neg c4, end_ok hs]
          have := digsL_ge (B.drop (a1 + 1)) (a1 + 1) 0
          simp only; omega
      · rename_i c3; rw [if_neg c3, end_ok hs]
        have := digsL_ge (B.drop a1) a1 0
        simp only; omega
    split at h
    · rename_i c; rw [if_pos c]; exact key _ _ (by omega) h
    · rename_i c; rw [if_neg c]; exact key _ _ (by omega) h
  · rw [if_pos h0] at h; exact absurd h h0
theorem one_lt {B : List UInt8} {ne nd a : Nat} (h : (oneM B ne nd a).1.2 = 0) : a < (oneM B ne nd a).1.1 := by
  unfold oneM at h ⊢
  split at h
  · rename_i c; rw [if_pos c]
    simp only [oneP] at h ⊢
    have h1 := want_ok h; have h2 := num_ok h1.1; have h3 := want_ok h2.1; have h4 := num_ok h3.1; have h5 := more_ok h4.1; have h6 := want_ok h5.2.2.1
    simp only [List.length_cons, List.length_nil] at *; omega
  · rename_i c; rw [if_neg c]
    split at h
    · rename_i c; rw [if_pos c]
      split at h
      · rename_i c; rw [if_pos c]
        simp only [oneE] at h ⊢
        have h1 := want_ok h; have h2 := num_ok h1.1; have h3 := want_ok h2.1; have h4 := num_ok h3.1; have h5 := want_ok h4.1; have h6 := num_ok h5.1; have h7 := want_ok h6.1; have h8 := num_ok h7.1; have h9 := more_ok h8.1; have ha := want_ok h9.2.2.1; have hb := want_ok ha.1
        simp only [List.length_cons, List.length_nil] at *; omega
      · rename_i c; rw [if_neg c]
        simp only [oneK] at h ⊢
        have h1 := want_ok h; have h8 := num_ok h1.1; have h9 := more_ok h8.1; have ha := want_ok h9.2.2.1; have hb := want_ok ha.1
        simp only [List.length_cons, List.length_nil] at *; omega
    · rename_i c; rw [if_neg c]
      split at h
      · rename_i c; rw [if_pos c]
        simp only [oneT] at h ⊢
        have h1 := want_ok h; have h2 := want_ok h1.1
        simp only [List.length_cons, List.length_nil] at *; omega
      · rename_i c; rw [if_neg c]
        simp only [oneD] at h ⊢
        have h1 := want_ok h; have h2 := num_ok h1.1; have h5 := more_ok h2.1; have h6 := want_ok h5.2.2.1
        simp only [List.length_cons, List.length_nil] at *; omega
theorem one_len {B : List UInt8} {ne nd a : Nat} : (oneM B ne nd a).2.1.length + (oneM B ne nd a).2.2.length ≤ 1 := by
  unfold oneM
  split
  · simp [oneP]
  · split
    · split
      · simp [oneE]
      · simp [oneK]
    · split
      · simp [oneT]
      · simp [oneD]
def parseM (B : List UInt8) : Nat → Nat × Int → List Ent → List Int → (Nat × Int) × List Ent × List Int
  | 0, s, E, D => (s, E, D)
  | n + 1, s, E, D => if s.2 = 0 ∧ s.1 < B.length then parseM B n (oneM B E.length D.length s.1).1 (E ++ (oneM B E.length D.length s.1).2.1) (D ++ (oneM B E.length D.length s.1).2.2) else (s, E, D)
theorem parse_end {B : List UInt8} {n : Nat} {s : Nat × Int} {E : List Ent} {D : List Int} (h : ¬ (s.2 = 0 ∧ s.1 < B.length)) : parseM B n s E D = (s, E, D) := by
  cases n with
  | zero => rfl
  | succ n => rw [parseM, if_neg h]
end Go.Proofs.Yteenpfdpokekgaa

/- The reader of scripts: Parse. -/
namespace Go.Proofs.Yteenpfdpokekgaa
open Go Go.Abs Go.Proofs
set_option maxRecDepth 100000
set_option maxHeartbeats 4000000
set_option linter.unusedVariables false
set_option linter.unusedSimpArgs false
structure Res where
  E : List Ent
  D : List Int
  e : Int
  at_ : Nat
def parseR (B : List UInt8) : Res :=
  if 1048576 < B.length then ⟨[], [], 2, 0⟩ else
  let z := parseM B (B.length + 1) (0, 0) [] []
  if z.1.2 = 0 then ⟨z.2.1, z.2.2, 0, B.length⟩ else ⟨[], [], z.1.2, z.1.1⟩
/-- A script in the heap, newer than G -/
structure ScR (G H : Hp) (xe xd : V) (E : List Ent) (D : List Int) : Prop where
  se : SlW 6 H (fun i => i < G.length) xe (E.map entV)
  sd : SlW 1 H (fun i => i < G.length ∨ bx xe = some i) xd (D.map intV)
  fr : ∀ i, i < G.length → H[i]? = G[i]?
  ge : G.length ≤ H.length
theorem sx_lt {H : Hp} {x : V} {l : List V} (h : Sx H x l) {i : Nat} (hi : bx x = some i) : i < H.length := by
  cases h with
  | nils => cases hi
  | rsl l => cases hi
  | sl id lo len es h1 h2 => cases hi; exact (List.getElem?_eq_some_iff.1 h1).1
theorem parse_spec {G : Hp} {x : V} {B : List UInt8} (hx : Sx G x (by8 B)) (hw : Wd G x) (hB : B.length < 4294967296) :
    wpCall EW 8 [x] G (fun out H' => ∃ xe xd, out = .ret (.tup [.agg [xe, xd], .int .i64 (parseR B).e, .int .i64 (parseR B).at_]) false ∧ ScR G H' xe xd (parseR B).E (parseR B).D) := by
  have hxr := hx.rd
  have hxl : ∀ i, bx x = some i → i < G.length := fun i hi => sx_lt hx hi
  have hxl1 := fun e => (hxr.app [Blk.cells [V.agg [V.nils, V.nils]]]).len e
  by_cases hbig : 1048576 < B.length
  · have g1 : decide ((1048576 : Int) < (B.length : Int)) = true := decide_eq_true (by omega)
    have hR : parseR B = ⟨[], [], 2, 0⟩ := by unfold parseR; rw [if_pos hbig]
    rw [hR]
    refine runs f8 b8 r8 n8 _ _ ?_
    simp only [bodyOf, Try.f8, Option.getD_some]
    have hgs : ∀ b : Blk, ((G ++ [Blk.cells [V.agg [V.nils, V.nils]]]).set G.length b)[G.length]? = some b := fun b => List.getElem?_set_self (by simp)
    simp only [WW, partV, eqCells, eqLf, minV, maxV, ifcV, zaa, zab, zac, zad, zae, zaf, zag, zah, zai, ofConst, ofConst1, List.replicate, zaj, zak, loadOp, Go.Abs.loadCells, binV, zal, pickV, zam, zan, zao, zap, zaq, zar, zas, zat, zau, outR, resAll, resOne, zav, zaw, zax, zay, zaz, zba, zbb, zbc, zbd, zbe, zbf, zbg, zbh, zbi, zbj, zbk, storeOp, storeCell, overlay, zbl, zbm, zbn, lookupOp, keyT, okRes, mapUpdateOp, zbo, zbp, zbq, zbr, zbs, zbt, zbu, Nat.reduceSub, Nat.reduceAdd, Int.reduceLT, Int.reduceLE, Int.reduceAdd, Int.reduceSub, Int.reduceToNat, Int.reduceBEq, Int.reduceBNe, Int.reduceMul, Nat.reduceBEq, Nat.reduceBNe, Nat.reduceLT, Nat.reduceLeDiff, Nat.reduceMul, Nat.reduceEqDiff, WD, effB, effH, isPriv, isHeap, isImm, zbx, zby, zbz, chkO, setD, dslot, zca, zcb, zcc, zcd, ptrCells_some, F8, hxr.shutIn, hxl1, by8_len, g1, buildOp, fillV, Lay.place, Bool.or_self, Bool.or_false, Bool.false_or, decide_not, ne_eq, not_true_eq_false, decide_eq_true_eq, Nat.lt_irrefl, storeHeap, promote, heapSet, elemSet, get_last, hgs]
    refine ⟨.nils, .nils, rfl, .inl ⟨rfl, rfl⟩, .inl ⟨rfl, rfl⟩, fun i hi => ?_, by simp⟩
    rw [List.getElem?_set, if_neg (by omega), List.getElem?_append_left hi]
  have g1 : decide ((1048576 : Int) < (B.length : Int)) = false := decide_eq_false (by omega)
  have hR : parseR B = (let z := parseM B (B.length + 1) (0, 0) [] []; if z.1.2 = 0 then ⟨z.2.1, z.2.2, 0, B.length⟩ else ⟨[], [], z.1.2, z.1.1⟩) := by unfold parseR; rw [if_neg hbig]
  rw [hR]
  refine runs f8 b8 r8 n8 _ _ ?_
  simp only [bodyOf, Try.f8, Option.getD_some]
  simp only [WW, partV, eqCells, eqLf, minV, maxV, ifcV, zaa, zab, zac, zad, zae, zaf, zag, zah, zai, ofConst, ofConst1, List.replicate, zaj, zak, loadOp, Go.Abs.loadCells, binV, zal, pickV, zam, zan, zao, zap, zaq, zar, zas, zat, zau, outR, resAll, resOne, zav, zaw, zax, zay, zaz, zba, zbb, zbc, zbd, zbe, zbf, zbg, zbh, zbi, zbj, zbk, storeOp, storeCell, overlay, zbl, zbm, zbn, lookupOp, keyT, okRes, mapUpdateOp, zbo, zbp, zbq, zbr, zbs, zbt, zbu, Nat.reduceSub, Nat.reduceAdd, Int.reduceLT, Int.reduceLE, Int.reduceAdd, Int.reduceSub, Int.reduceToNat, Int.reduceBEq, Int.reduceBNe, Int.reduceMul, Nat.reduceBEq, Nat.reduceBNe, Nat.reduceLT, Nat.reduceLeDiff, Nat.reduceMul, Nat.reduceEqDiff, WD, effB, effH, isPriv, isHeap, isImm, zbx, zby, zbz, chkO, setD, dslot, zca, zcb, zcc, zcd, ptrCells_some, F8, hxr.shutIn, hxl1, hxr.ok, hxr.cells1, hxr.width1, by8_len, g1, buildOp, fillV, Lay.place, Bool.or_self, Bool.or_false, Bool.false_or, decide_not, ne_eq, not_true_eq_false, decide_eq_true_eq, Nat.lt_irrefl]
  have hl1 : (G ++ [Blk.cells [V.agg [V.nils, V.nils]]]).length = G.length + 1 := by simp
  have hq0 : (G ++ [Blk.cells [V.agg [V.nils, V.nils]]] ++ [rb x (0, 0)])[G.length]? = some (.cells [.agg [.nils, .nils]]) := by simp
  have hr0 : (G ++ [Blk.cells [V.agg [V.nils, V.nils]]] ++ [rb x (0, 0)])[G.length + 1]? = some (rb x (0, 0)) := by simp
  have Q0 : QS G (G ++ [Blk.cells [V.agg [V.nils, V.nils]]] ++ [rb x (0, 0)]) (G.length + 1) G.length x B (0, 0) .nils .nils [] [] :=
    ⟨⟨hr0, (hx.app _).app _, fun e => by have := hxl _ e; omega, Nat.zero_le _⟩, fun id lo len es e1 e2 => by
      have hlt := hxl id (by rw [e1]; rfl)
      rw [List.append_assoc, List.getElem?_append_left hlt] at e2
      exact hw id lo len es e1 e2, hq0, .inl ⟨rfl, rfl⟩, .inl ⟨rfl, rfl⟩, by omega, fun e => by have := hxl _ e; omega, fun i hi => by have := hxl i hi; simp; omega, by omega, by omega, fun i hi => by rw [List.append_assoc, List.getElem?_append_left hi]⟩
  rw [hl1]
  refine wC_loop _ (fun n st H' => ∃ (s : Nat × Int) (xe xd : V) (E Em : List Ent) (D Dm : List Int) (k : Nat), st = ⟨L8_4 (.v x) (.v (.ptr G.length 0 0)) (.v (.ptr (G.length + 1) 0 0)), [], []⟩ ∧ QS G H' (G.length + 1) G.length x B s xe xd E D ∧ (s.2 = 0 → E = Em ∧ D = Dm) ∧ parseM B k s Em Dm = parseM B (B.length + 1) (0, 0) [] [] ∧ (s.2 = 0 → B.length < k + s.1) ∧ (s.2 = 0 → E.length + D.length ≤ s.1) ∧ n = (if s.2 = 0 then B.length + 1 - s.1 else 0)) (B.length + 1) ⟨(0, 0), .nils, .nils, [], [], [], [], B.length + 1, ?_, Q0, fun _ => ⟨rfl, rfl⟩, rfl, fun _ => by simp, fun _ => by simp, by simp⟩ ?_
  · simp only [WN, firstReg, growAll, zbv, zbw, norm, killS, zag, zah, zaa, zab, zbl, zat, zad, growOne, zae, zaf, zac, zas, zak, Nat.reduceLT, Nat.reduceAdd, zbj, zav, F8, L8_4, hxr.clip2]
    try rfl
  · rintro n st H' ⟨⟨a, e⟩, xe, xd, E, Em, D, Dm, k, rfl, Q, hE, hP, hk, hEl, rfl⟩
    have hb1 : H'[G.length + 1]? = some (.cells [.agg [x, .int .i64 (a : Int), .int .i64 e]]) := Q.rs.blk
    have hsb := Q.sb
    have hx' := Q.rs.txt.rd
    have hale : a ≤ B.length := Q.rs.le
    have hgl := Nat.le_of_lt (List.getElem?_eq_some_iff.1 hsb).1
    simp only [L8_4]
    by_cases he : e = 0
    · subst he
      obtain ⟨rfl, rfl⟩ := hE rfl
      have hEl' := hEl rfl
      have hk' := hk rfl
      simp only at hEl' hk'
      by_cases ha : a < B.length
      · have g2 : decide ((a : Int) < (B.length : Int)) = true := decide_eq_true (by omega)
        simp only [WW, partV, eqCells, eqLf, minV, maxV, ifcV, zaa, zab, zac, zad, zae, zaf, zag, zah, zai, ofConst, ofConst1, List.replicate, zaj, zak, loadOp, Go.Abs.loadCells, binV, zal, pickV, zam, zan, zao, zap, zaq, zar, zas, zat, zau, outR, resAll, resOne, zav, zaw, zax, zay, zaz, zba, zbb, zbc, zbd, zbe, zbf, zbg, zbh, zbi, zbj, zbk, storeOp, storeCell, overlay, zbl, zbm, zbn, lookupOp, keyT, okRes, mapUpdateOp, zbo, zbp, zbq, zbr, zbs, zbt, zbu, Nat.reduceSub, Nat.reduceAdd, Int.reduceLT, Int.reduceLE, Int.reduceAdd, Int.reduceSub, Int.reduceToNat, Int.reduceBEq, Int.reduceBNe, Int.reduceMul, Nat.reduceBEq, Nat.reduceBNe, Nat.reduceLT, Nat.reduceLeDiff, Nat.reduceMul, Nat.reduceEqDiff, WD, effB, effH, isPriv, isHeap, isImm, zbx, zby, zbz, chkO, setD, dslot, zca, zcb, zcc, zcd, ptrCells_some, F8, hb1, hx'.shutIn, hx'.len, by8_len, g2]
        refine wpCall_of (one_spec Q hB (by omega) (by omega)) ?_
        rintro out H2 ⟨rfl, xe', xd', E', D', Q', hz⟩
        obtain ⟨k', rfl⟩ : ∃ k', k = k' + 1 := ⟨k - 1, by omega⟩
        rw [parseM, if_pos ⟨rfl, ha⟩] at hP
        simp only at hP
        have hlt := one_lt (B := B) (ne := E.length) (nd := D.length) (a := a)
        have hln := one_len (B := B) (ne := E.length) (nd := D.length) (a := a)
        have hle2 := Q'.rs.le
        generalize oneM B E.length D.length a = z at Q' hz hP hlt hln hle2
        obtain ⟨⟨a2, e2⟩, ez, dz⟩ := z
        simp only at Q' hz hP hlt hln hle2
        simp only [WW, partV, eqCells, eqLf, minV, maxV, ifcV, zaa, zab, zac, zad, zae, zaf, zag, zah, zai, ofConst, ofConst1, List.replicate, zaj, zak, loadOp, Go.Abs.loadCells, binV, zal, pickV, zam, zan, zao, zap, zaq, zar, zas, zat, zau, outR, resAll, resOne, zav, zaw, zax, zay, zaz, zba, zbb, zbc, zbd, zbe, zbf, zbg, zbh, zbi, zbj, zbk, storeOp, storeCell, overlay, zbl, zbm, zbn, lookupOp, keyT, okRes, mapUpdateOp, zbo, zbp, zbq, zbr, zbs, zbt, zbu, Nat.reduceSub, Nat.reduceAdd, Int.reduceLT, Int.reduceLE, Int.reduceAdd, Int.reduceSub, Int.reduceToNat, Int.reduceBEq, Int.reduceBNe, Int.reduceMul, Nat.reduceBEq, Nat.reduceBNe, Nat.reduceLT, Nat.reduceLeDiff, Nat.reduceMul, Nat.reduceEqDiff, WD, effB, effH, isPriv, isHeap, isImm, zbx, zby, zbz, chkO, setD, dslot, zca, zcb, zcc, zcd, ptrCells_some, F8]
        refine ⟨if e2 = 0 then B.length + 1 - a2 else 0, ?_, (a2, e2), xe', xd', E', E ++ ez, D', D ++ dz, k', ?_, Q', hz, hP, fun h0 => ?_, fun h0 => ?_, rfl⟩
        · split
          · rename_i h0; have := hlt h0; simp; omega
          · omega
        · simp only [WN, firstReg, growAll, zbv, zbw, norm, killS, zag, zah, zaa, zab, zbl, zat, zad, growOne, zae, zaf, zac, zas, zak, Nat.reduceLT, Nat.reduceAdd, zbj, zav, F8, L8_4, hxr.clip2]
          try rfl
        · have := hlt h0; omega
        · have := hlt h0
          obtain ⟨rfl, rfl⟩ := hz h0
          simp only [List.length_append]; omega
      · have g2 : decide ((a : Int) < (B.length : Int)) = false := decide_eq_false (by omega)
        rw [parse_end (by simp; omega)] at hP
        rw [← hP]
        simp only [WW, partV, eqCells, eqLf, minV, maxV, ifcV, zaa, zab, zac, zad, zae, zaf, zag, zah, zai, ofConst, ofConst1, List.replicate, zaj, zak, loadOp, Go.Abs.loadCells, binV, zal, pickV, zam, zan, zao, zap, zaq, zar, zas, zat, zau, outR, resAll, resOne, zav, zaw, zax, zay, zaz, zba, zbb, zbc, zbd, zbe, zbf, zbg, zbh, zbi, zbj, zbk, storeOp, storeCell, overlay, zbl, zbm, zbn, lookupOp, keyT, okRes, mapUpdateOp, zbo, zbp, zbq, zbr, zbs, zbt, zbu, Nat.reduceSub, Nat.reduceAdd, Int.reduceLT, Int.reduceLE, Int.reduceAdd, Int.reduceSub, Int.reduceToNat, Int.reduceBEq, Int.reduceBNe, Int.reduceMul, Nat.reduceBEq, Nat.reduceBNe, Nat.reduceLT, Nat.reduceLeDiff, Nat.reduceMul, Nat.reduceEqDiff, WD, effB, effH, isPriv, isHeap, isImm, zbx, zby, zbz, chkO, setD, dslot, zca, zcb, zcc, zcd, ptrCells_some, F8, hb1, hx'.shutIn, hx'.len, by8_len, g2, hsb, Q.se.shut, Q.sd.shut]
        have hql := (List.getElem?_eq_some_iff.1 hsb).1
        have hqs : H'.set G.length (.cells [.agg [xe, xd]]) = H' := set_same hsb
        simp only [WW, partV, eqCells, eqLf, minV, maxV, ifcV, zaa, zab, zac, zad, zae, zaf, zag, zah, zai, ofConst, ofConst1, List.replicate, zaj, zak, loadOp, Go.Abs.loadCells, binV, zal, pickV, zam, zan, zao, zap, zaq, zar, zas, zat, zau, outR, resAll, resOne, zav, zaw, zax, zay, zaz, zba, zbb, zbc, zbd, zbe, zbf, zbg, zbh, zbi, zbj, zbk, storeOp, storeCell, overlay, zbl, zbm, zbn, lookupOp, keyT, okRes, mapUpdateOp, zbo, zbp, zbq, zbr, zbs, zbt, zbu, Nat.reduceSub, Nat.reduceAdd, Int.reduceLT, Int.reduceLE, Int.reduceAdd, Int.reduceSub, Int.reduceToNat, Int.reduceBEq, Int.reduceBNe, Int.reduceMul, Nat.reduceBEq, Nat.reduceBNe, Nat.reduceLT, Nat.reduceLeDiff, Nat.reduceMul, Nat.reduceEqDiff, WD, effB, effH, isPriv, isHeap, isImm, zbx, zby, zbz, chkO, setD, dslot, zca, zcb, zcc, zcd, ptrCells_some, F8, hb1, hx'.shutIn, hx'.len, by8_len, hsb, Q.se.shut, Q.sd.shut, storeHeap, promote, heapSet, elemSet, hqs, Q.se.cells1, Q.sd.cells1]
        refine ⟨xe, xd, rfl, Q.se.weaken (fun i hi => .inr (.inr (.inr (.inr hi)))), Q.sd.weaken (fun i hi => Or.elim hi (fun h => .inr (.inr (.inr (.inr h)))) (fun h => .inr (.inr (.inr (.inl h))))), Q.fr, hgl⟩
    · have he' : (e == 0) = false := by simpa using he
      have he2 : (e != 0) = true := by simpa using he
      rw [parse_end (by simp [he])] at hP
      rw [← hP]
      have hql := (List.getElem?_eq_some_iff.1 hsb).1
      have hqs : ∀ b : Blk, (H'.set G.length b)[G.length]? = some b := fun b => List.getElem?_set_self hql
      simp only [WW, partV, eqCells, eqLf, minV, maxV, ifcV, zaa, zab, zac, zad, zae, zaf, zag, zah, zai, ofConst, ofConst1, List.replicate, zaj, zak, loadOp, Go.Abs.loadCells, binV, zal, pickV, zam, zan, zao, zap, zaq, zar, zas, zat, zau, outR, resAll, resOne, zav, zaw, zax, zay, zaz, zba, zbb, zbc, zbd, zbe, zbf, zbg, zbh, zbi, zbj, zbk, storeOp, storeCell, overlay, zbl, zbm, zbn, lookupOp, keyT, okRes, mapUpdateOp, zbo, zbp, zbq, zbr, zbs, zbt, zbu, Nat.reduceSub, Nat.reduceAdd, Int.reduceLT, Int.reduceLE, Int.reduceAdd, Int.reduceSub, Int.reduceToNat, Int.reduceBEq, Int.reduceBNe, Int.reduceMul, Nat.reduceBEq, Nat.reduceBNe, Nat.reduceLT, Nat.reduceLeDiff, Nat.reduceMul, Nat.reduceEqDiff, WD, effB, effH, isPriv, isHeap, isImm, zbx, zby, zbz, chkO, setD, dslot, zca, zcb, zcc, zcd, ptrCells_some, F8, hb1, he', he2, hsb]
      refine wC_dr [] (by kernel_rfl) ?_
      simp only [WW, partV, eqCells, eqLf, minV, maxV, ifcV, zaa, zab, zac, zad, zae, zaf, zag, zah, zai, ofConst, ofConst1, List.replicate, zaj, zak, loadOp, Go.Abs.loadCells, binV, zal, pickV, zam, zan, zao, zap, zaq, zar, zas, zat, zau, outR, resAll, resOne, zav, zaw, zax, zay, zaz, zba, zbb, zbc, zbd, zbe, zbf, zbg, zbh, zbi, zbj, zbk, storeOp, storeCell, overlay, zbl, zbm, zbn, lookupOp, keyT, okRes, mapUpdateOp, zbo, zbp, zbq, zbr, zbs, zbt, zbu, Nat.reduceSub, Nat.reduceAdd, Int.reduceLT, Int.reduceLE, Int.reduceAdd, Int.reduceSub, Int.reduceToNat, Int.reduceBEq, Int.reduceBNe, Int.reduceMul, Nat.reduceBEq, Nat.reduceBNe, Nat.reduceLT, Nat.reduceLeDiff, Nat.reduceMul, Nat.reduceEqDiff, WD, effB, effH, isPriv, isHeap, isImm, zbx, zby, zbz, chkO, setD, dslot, zca, zcb, zcc, zcd, ptrCells_some, F8, hb1, he', he2, hsb, buildOp, fillV, Lay.place, Bool.or_self, Bool.or_false, Bool.false_or, decide_not, ne_eq, not_true_eq_false, decide_eq_true_eq, Nat.lt_irrefl, storeHeap, promote, heapSet, elemSet, hqs]
      simp only [he, if_false]
      refine ⟨.nils, .nils, rfl, .inl ⟨rfl, rfl⟩, .inl ⟨rfl, rfl⟩, fun i hi => ?_, by simp; omega⟩
      rw [List.getElem?_set, if_neg (by omega)]; exact Q.fr i hi
end Go.Proofs.Yteenpfdpokekgaa

/- Scripts: counted, compared. -/
namespace Go.Proofs.Yteenpfdpokekgaa
open Go Go.Abs Go.Proofs
set_option maxRecDepth 100000
set_option maxHeartbeats 4000000
set_option linter.unusedVariables false
set_option linter.unusedSimpArgs false
def entsV (E : List Ent) : List V := E.map entV
def intsV (D : List Int) : List V := D.map intV
theorem ents_len (E : List Ent) : (entsV E).length = E.length := by simp [entsV]
theorem ints_len (D : List Int) : (intsV D).length = D.length := by simp [intsV]
theorem much_eq {H : Hp} {xe xd : V} {E : List Ent} {D : List Int} (he : Rd H xe (entsV E)) (hd : Rd H xd (intsV D)) : EW 12 [.agg [xe, xd]] H = some (.ret (.bool (decide (300 < E.length) || decide (300 < D.length))) false, H) := by
  refine eqOf2 (runs f12 b12 r12 n12 _ _ ?_)
  simp only [bodyOf, Try.f12, Option.getD_some]
  have e1 : decide ((300 : Int) < (E.length : Int)) = decide (300 < E.length) := by rw [Bool.eq_iff_iff]; simp; omega
  have e2 : decide ((300 : Int) < (D.length : Int)) = decide (300 < D.length) := by rw [Bool.eq_iff_iff]; simp; omega
  cases h1 : decide (300 < E.length) with
  | true => simp only [WW, partV, eqCells, eqLf, minV, maxV, ifcV, zaa, zab, zac, zad, zae, zaf, zag, zah, zai, ofConst, ofConst1, List.replicate, zaj, zak, loadOp, Go.Abs.loadCells, binV, zal, pickV, zam, zan, zao, zap, zaq, zar, zas, zat, zau, outR, resAll, resOne, zav, zaw, zax, zay, zaz, zba, zbb, zbc, zbd, zbe, zbf, zbg, zbh, zbi, zbj, zbk, storeOp, storeCell, overlay, zbl, zbm, zbn, lookupOp, keyT, okRes, mapUpdateOp, zbo, zbp, zbq, zbr, zbs, zbt, zbu, Nat.reduceSub, Nat.reduceAdd, Int.reduceLT, Int.reduceLE, Int.reduceAdd, Int.reduceSub, Int.reduceToNat, Int.reduceBEq, Int.reduceBNe, Int.reduceMul, Nat.reduceBEq, Nat.reduceBNe, Nat.reduceLT, Nat.reduceLeDiff, Nat.reduceMul, Nat.reduceEqDiff, WD, effB, effH, isPriv, isHeap, isImm, zbx, zby, zbz, chkO, setD, dslot, zca, zcb, zcc, zcd, ptrCells_some, F12, he.shutIn, he.len, ents_len, e1, h1]
            rfl
  | false => simp only [WW, partV, eqCells, eqLf, minV, maxV, ifcV, zaa, zab, zac, zad, zae, zaf, zag, zah, zai, ofConst, ofConst1, List.replicate, zaj, zak, loadOp, Go.Abs.loadCells, binV, zal, pickV, zam, zan, zao, zap, zaq, zar, zas, zat, zau, outR, resAll, resOne, zav, zaw, zax, zay, zaz, zba, zbb, zbc, zbd, zbe, zbf, zbg, zbh, zbi, zbj, zbk, storeOp, storeCell, overlay, zbl, zbm, zbn, lookupOp, keyT, okRes, mapUpdateOp, zbo, zbp, zbq, zbr, zbs, zbt, zbu, Nat.reduceSub, Nat.reduceAdd, Int.reduceLT, Int.reduceLE, Int.reduceAdd, Int.reduceSub, Int.reduceToNat, Int.reduceBEq, Int.reduceBNe, Int.reduceMul, Nat.reduceBEq, Nat.reduceBNe, Nat.reduceLT, Nat.reduceLeDiff, Nat.reduceMul, Nat.reduceEqDiff, WD, effB, effH, isPriv, isHeap, isImm, zbx, zby, zbz, chkO, setD, dslot, zca, zcb, zcc, zcd, ptrCells_some, F12, he.shutIn, he.len, ents_len, hd.shutIn, hd.len, ints_len, e1, e2, h1]
             rfl
def cntP (E : List Ent) : Nat := (E.filter (·.k == 1)).length
theorem cntP_take {E : List Ent} {i : Nat} {e : Ent} (h : E[i]? = some e) : cntP (E.take (i + 1)) = cntP (E.take i) + (if e.k == 1 then 1 else 0) := by
  unfold cntP
  rw [List.take_add_one, h, Option.toList_some, List.filter_append, List.length_append]
  cases hk : (e.k == 1) <;> simp [hk]
theorem cntP_le (E : List Ent) : cntP E ≤ E.length := List.length_filter_le ..
theorem picks_eq {H : Hp} {xe xd : V} {E : List Ent} {D : List Int} (he : Rd H xe (entsV E)) (hd : Rd H xd (intsV D)) (hl : E.length < 4294967296) : EW 11 [.agg [xe, xd]] H = some (.ret (.int .i64 (cntP E)) false, H) := by
  refine eqOf2 (runs f11 b11 r11 n11 _ _ ?_)
  simp only [bodyOf, Try.f11, Option.getD_some]
  simp only [WW, partV, eqCells, eqLf, minV, maxV, ifcV, zaa, zab, zac, zad, zae, zaf, zag, zah, zai, ofConst, ofConst1, List.replicate, zaj, zak, loadOp, Go.Abs.loadCells, binV, zal, pickV, zam, zan, zao, zap, zaq, zar, zas, zat, zau, outR, resAll, resOne, zav, zaw, zax, zay, zaz, zba, zbb, zbc, zbd, zbe, zbf, zbg, zbh, zbi, zbj, zbk, storeOp, storeCell, overlay, zbl, zbm, zbn, lookupOp, keyT, okRes, mapUpdateOp, zbo, zbp, zbq, zbr, zbs, zbt, zbu, Nat.reduceSub, Nat.reduceAdd, Int.reduceLT, Int.reduceLE, Int.reduceAdd, Int.reduceSub, Int.reduceToNat, Int.reduceBEq, Int.reduceBNe, Int.reduceMul, Nat.reduceBEq, Nat.reduceBNe, Nat.reduceLT, Nat.reduceLeDiff, Nat.reduceMul, Nat.reduceEqDiff, WD, effB, effH, isPriv, isHeap, isImm, zbx, zby, zbz, chkO, setD, dslot, zca, zcb, zcc, zcd, ptrCells_some, F11, he.shutIn, he.len, ents_len, he.ok, hd.ok]
  refine wC_loop _ (fun n st H' => ∃ i : Nat, st = ⟨L11_3 (.v (.int .i64 (cntP (E.take i)))) (.v xe) (.v (.int .i64 E.length)) (.v (.int .i64 i)), [[xe, xd]], []⟩ ∧ H' = H ∧ i ≤ E.length ∧ n = E.length - i) E.length ⟨0, ?_, rfl, by omega, by omega⟩ ?_
  · simp only [WN, firstReg, growAll, zbv, zbw, norm, killS, zag, zah, zaa, zab, zbl, zat, zad, growOne, zae, zaf, zac, zas, zak, Nat.reduceLT, Nat.reduceAdd, zbj, zav, F11, L11_3, he.clip2, he.clip, hd.clip]
    try rfl
  · rintro n st H' ⟨i, rfl, rfl, hi, rfl⟩
    simp only [L11_3]
    by_cases hlt : i < E.length
    · have g1 : decide ((i : Int) < (E.length : Int)) = true := decide_eq_true (by omega)
      have hE : E[i]? = some E[i] := List.getElem?_eq_getElem hlt
      generalize E[i] = e at hE
      have hat := he.at_ (sz := 6) (i := i) (e := entV e) (by simp [entsV, hE]) rfl
      have hi1 : IntKind.i64.wrap ((i : Int) + 1) = ((i + 1 : Nat) : Int) := by rw [IntWalk.i64_in _ (by omega)]; omega
      have hc := cntP_take hE
      have hcl := cntP_le (E.take i)
      have hcl2 : (E.take i).length ≤ E.length := by simp; omega
      have hc1 : IntKind.i64.wrap ((cntP (E.take i) : Int) + 1) = ((cntP (E.take i) + 1 : Nat) : Int) := by rw [IntWalk.i64_in _ (by omega)]; omega
      cases hk : (e.k == 1) with
      | true =>
        rw [hk] at hc
        simp only [if_true] at hc
        simp only [WW, partV, eqCells, eqLf, minV, maxV, ifcV, zaa, zab, zac, zad, zae, zaf, zag, zah, zai, ofConst, ofConst1, List.replicate, zaj, zak, loadOp, Go.Abs.loadCells, binV, zal, pickV, zam, zan, zao, zap, zaq, zar, zas, zat, zau, outR, resAll, resOne, zav, zaw, zax, zay, zaz, zba, zbb, zbc, zbd, zbe, zbf, zbg, zbh, zbi, zbj, zbk, storeOp, storeCell, overlay, zbl, zbm, zbn, lookupOp, keyT, okRes, mapUpdateOp, zbo, zbp, zbq, zbr, zbs, zbt, zbu, Nat.reduceSub, Nat.reduceAdd, Int.reduceLT, Int.reduceLE, Int.reduceAdd, Int.reduceSub, Int.reduceToNat, Int.reduceBEq, Int.reduceBNe, Int.reduceMul, Nat.reduceBEq, Nat.reduceBNe, Nat.reduceLT, Nat.reduceLeDiff, Nat.reduceMul, Nat.reduceEqDiff, WD, effB, effH, isPriv, isHeap, isImm, zbx, zby, zbz, chkO, setD, dslot, zca, zcb, zcc, zcd, ptrCells_some, F11, g1, he.shutIn, hat.at1 he, hat.cells, entV, hi1, hk, hc1]
        first | refine ⟨E.length - (i + 1), by omega, i + 1, ?_, by omega, rfl⟩ | refine ⟨E.length - (i + 1), by omega, i + 1, ?_, rfl, by omega, rfl⟩
        rw [hc]
        simp only [WN, firstReg, growAll, zbv, zbw, norm, killS, zag, zah, zaa, zab, zbl, zat, zad, growOne, zae, zaf, zac, zas, zak, Nat.reduceLT, Nat.reduceAdd, zbj, zav, F11, L11_3, he.clip2, he.clip, hd.clip]
        try rfl
      | false =>
        rw [hk] at hc
        simp only [Bool.false_eq_true, if_false, Nat.add_zero] at hc
        simp only [WW, partV, eqCells, eqLf, minV, maxV, ifcV, zaa, zab, zac, zad, zae, zaf, zag, zah, zai, ofConst, ofConst1, List.replicate, zaj, zak, loadOp, Go.Abs.loadCells, binV, zal, pickV, zam, zan, zao, zap, zaq, zar, zas, zat, zau, outR, resAll, resOne, zav, zaw, zax, zay, zaz, zba, zbb, zbc, zbd, zbe, zbf, zbg, zbh, zbi, zbj, zbk, storeOp, storeCell, overlay, zbl, zbm, zbn, lookupOp, keyT, okRes, mapUpdateOp, zbo, zbp, zbq, zbr, zbs, zbt, zbu, Nat.reduceSub, Nat.reduceAdd, Int.reduceLT, Int.reduceLE, Int.reduceAdd, Int.reduceSub, Int.reduceToNat, Int.reduceBEq, Int.reduceBNe, Int.reduceMul, Nat.reduceBEq, Nat.reduceBNe, Nat.reduceLT, Nat.reduceLeDiff, Nat.reduceMul, Nat.reduceEqDiff, WD, effB, effH, isPriv, isHeap, isImm, zbx, zby, zbz, chkO, setD, dslot, zca, zcb, zcc, zcd, ptrCells_some, F11, g1, he.shutIn, hat.at1 he, hat.cells, entV, hi1, hk, hc1]
        first | refine ⟨E.length - (i + 1), by omega, i + 1, ?_, by omega, rfl⟩ | refine ⟨E.length - (i + 1), by omega, i + 1, ?_, rfl, by omega, rfl⟩
        rw [hc]
        simp only [WN, firstReg, growAll, zbv, zbw, norm, killS, zag, zah, zaa, zab, zbl, zat, zad, growOne, zae, zaf, zac, zas, zak, Nat.reduceLT, Nat.reduceAdd, zbj, zav, F11, L11_3, he.clip2, he.clip, hd.clip]
        try rfl
    · have g1 : decide ((i : Int) < (E.length : Int)) = false := decide_eq_false (by omega)
      have hie : E.take i = E := List.take_of_length_le (by omega)
      rw [hie]
      simp only [WW, partV, eqCells, eqLf, minV, maxV, ifcV, zaa, zab, zac, zad, zae, zaf, zag, zah, zai, ofConst, ofConst1, List.replicate, zaj, zak, loadOp, Go.Abs.loadCells, binV, zal, pickV, zam, zan, zao, zap, zaq, zar, zas, zat, zau, outR, resAll, resOne, zav, zaw, zax, zay, zaz, zba, zbb, zbc, zbd, zbe, zbf, zbg, zbh, zbi, zbj, zbk, storeOp, storeCell, overlay, zbl, zbm, zbn, lookupOp, keyT, okRes, mapUpdateOp, zbo, zbp, zbq, zbr, zbs, zbt, zbu, Nat.reduceSub, Nat.reduceAdd, Int.reduceLT, Int.reduceLE, Int.reduceAdd, Int.reduceSub, Int.reduceToNat, Int.reduceBEq, Int.reduceBNe, Int.reduceMul, Nat.reduceBEq, Nat.reduceBNe, Nat.reduceLT, Nat.reduceLeDiff, Nat.reduceMul, Nat.reduceEqDiff, WD, effB, effH, isPriv, isHeap, isImm, zbx, zby, zbz, chkO, setD, dslot, zca, zcb, zcc, zcd, ptrCells_some, F11, g1]
end Go.Proofs.Yteenpfdpokekgaa

/- Scripts: compared, without their tiers. -/
namespace Go.Proofs.Yteenpfdpokekgaa
open Go Go.Abs Go.Proofs
set_option maxRecDepth 100000
set_option maxHeartbeats 8000000
set_option linter.unusedVariables false
set_option linter.unusedSimpArgs false
def zE : V := .agg [.int .i64 0, .int .i64 0, .int .i64 0, .int .i64 0, .int .i64 0, .int .i64 0]
theorem sx_atV {H : Hp} {x : V} {l : List V} (h : Sx H x l) (H' : Hp) (i o : Nat) : atV H' x i o = atV H x i o := by cases h <;> rfl
theorem same_eq {H : Hp} {x1 x2 d1 d2 : V} {E : List Ent} {D : List Int} (y1 : Sx H x1 (entsV E)) (y2 : Sx H x2 (entsV E)) (h3 : Rd H d1 (intsV D)) (h4 : Rd H d2 (intsV D)) (hE : E.length < 4294967296) (hD : D.length < 4294967296) :
    wpCall EW 10 [.agg [x1, d1], .agg [x2, d2], .bool false] H (fun out H' => out = .ret (.bool true) false ∧ ∃ e, H' = H ++ e) := by
  have h1 := y1.rd
  have h2 := y2.rd
  refine runs f10 b10 r10 n10 _ _ ?_
  simp only [bodyOf, Try.f10, Option.getD_some]
  have en : ∀ n : Nat, ((n : Int) != (n : Int)) = false := fun n => by simp
  simp only [WW, partV, eqCells, eqLf, minV, maxV, ifcV, zaa, zab, zac, zad, zae, zaf, zag, zah, zai, ofConst, ofConst1, List.replicate, zaj, zak, loadOp, Go.Abs.loadCells, binV, zal, pickV, zam, zan, zao, zap, zaq, zar, zas, zat, zau, outR, resAll, resOne, zav, zaw, zax, zay, zaz, zba, zbb, zbc, zbd, zbe, zbf, zbg, zbh, zbi, zbj, zbk, storeOp, storeCell, overlay, zbl, zbm, zbn, lookupOp, keyT, okRes, mapUpdateOp, zbo, zbp, zbq, zbr, zbs, zbt, zbu, Nat.reduceSub, Nat.reduceAdd, Int.reduceLT, Int.reduceLE, Int.reduceAdd, Int.reduceSub, Int.reduceToNat, Int.reduceBEq, Int.reduceBNe, Int.reduceMul, Nat.reduceBEq, Nat.reduceBNe, Nat.reduceLT, Nat.reduceLeDiff, Nat.reduceMul, Nat.reduceEqDiff, WD, effB, effH, isPriv, isHeap, isImm, zbx, zby, zbz, chkO, setD, dslot, zca, zcb, zcc, zcd, ptrCells_some, F10, h1.shutIn, h1.len, h1.ok, h2.ok, h3.ok, h4.ok, ents_len, h2.shutIn, h2.len, h3.shutIn, h3.len, h4.shutIn, h4.len, ints_len, en]
  refine wC_loop _ (fun n st H' => ∃ i : Nat, st = ⟨L10_4 (.v (.bool false)) (.box 0) (.box 1) (.v (.int .i64 i)), [[x1, d1], [x2, d2]], []⟩ ∧ (∃ e, H' = H ++ e) ∧ i ≤ E.length ∧ n = E.length - i) E.length ⟨0, ?_, ⟨[], by simp⟩, by omega, by omega⟩ ?_
  · simp only [WN, firstReg, growAll, zbv, zbw, norm, killS, zag, zah, zaa, zab, zbl, zat, zad, growOne, zae, zaf, zac, zas, zak, Nat.reduceLT, Nat.reduceAdd, zbj, zav, F10, L10_4, h1.clip, h2.clip, h3.clip, h4.clip]
    try rfl
  · rintro n st H' ⟨i, rfl, ⟨ex, rfl⟩, hi, rfl⟩
    have k1 := h1.app ex
    have k2 := h2.app ex
    have k3 := h3.app ex
    have k4 := h4.app ex
    have z1 := y1.app ex
    have z2 := y2.app ex
    generalize hHn : H ++ ex = Hn at k1 k2 k3 k4 z1 z2
    simp only [L10_4]
    by_cases hlt : i < E.length
    · have g1 : decide ((i : Int) < (E.length : Int)) = true := decide_eq_true (by omega)
      have hEi : E[i]? = some E[i] := List.getElem?_eq_getElem hlt
      generalize E[i] = e at hEi
      have hat1 := k1.at_ (sz := 6) (i := i) (e := entV e) (by simp [entsV, hEi]) rfl
      have hat2 := k2.at_ (sz := 6) (i := i) (e := entV e) (by simp [entsV, hEi]) rfl
      have m1 := k1.app [Blk.cells [zE]]
      have m2 := k2.app [Blk.cells [zE]]
      have mat1 := m1.at_ (sz := 6) (i := i) (e := entV e) (by simp [entsV, hEi]) rfl
      have mat2 := m2.at_ (sz := 6) (i := i) (e := entV e) (by simp [entsV, hEi]) rfl
      have u1 := mat1.at1 m1
      have u2 := mat2.at1 m2
      have v1 := mat1.cells
      have v2 := mat2.cells
      simp only [sx_atV z1, sx_atV z2] at u1 u2 v1 v2
      have hi1 : IntKind.i64.wrap ((i : Int) + 1) = ((i + 1 : Nat) : Int) := by rw [IntWalk.i64_in _ (by omega)]; omega
      have hgl : (Hn ++ [Blk.cells [zE]])[Hn.length]? = some (Blk.cells [zE]) := get_last Hn _
      have hgs : ∀ b : Blk, ((Hn ++ [Blk.cells [zE]]).set Hn.length b)[Hn.length]? = some b := fun b => List.getElem?_set_self (by simp)
      have hst : (Hn ++ [Blk.cells [zE]]).set Hn.length (Blk.cells [entV e]) = Hn ++ [Blk.cells [entV e]] := by simp [List.set_append]
      obtain ⟨ek, ea, eb, ef, eg, ei⟩ := e
      simp only [entV, zE] at hat1 hat2 u1 u2 v1 v2 hgl hgs hst m1 m2
      simp only [WW, partV, eqCells, eqLf, minV, maxV, ifcV, zaa, zab, zac, zad, zae, zaf, zag, zah, zai, ofConst, ofConst1, List.replicate, zaj, zak, loadOp, Go.Abs.loadCells, binV, zal, pickV, zam, zan, zao, zap, zaq, zar, zas, zat, zau, outR, resAll, resOne, zav, zaw, zax, zay, zaz, zba, zbb, zbc, zbd, zbe, zbf, zbg, zbh, zbi, zbj, zbk, storeOp, storeCell, overlay, zbl, zbm, zbn, lookupOp, keyT, okRes, mapUpdateOp, zbo, zbp, zbq, zbr, zbs, zbt, zbu, Nat.reduceSub, Nat.reduceAdd, Int.reduceLT, Int.reduceLE, Int.reduceAdd, Int.reduceSub, Int.reduceToNat, Int.reduceBEq, Int.reduceBNe, Int.reduceMul, Nat.reduceBEq, Nat.reduceBNe, Nat.reduceLT, Nat.reduceLeDiff, Nat.reduceMul, Nat.reduceEqDiff, WD, effB, effH, isPriv, isHeap, isImm, zbx, zby, zbz, chkO, setD, dslot, zca, zcb, zcc, zcd, ptrCells_some, F10, k1.shutIn, k1.len, ents_len, g1]
      refine wC_dr alts10_6 (by kernel_rfl) ?_
      simp only [WW, partV, eqCells, eqLf, minV, maxV, ifcV, zaa, zab, zac, zad, zae, zaf, zag, zah, zai, ofConst, ofConst1, List.replicate, zaj, zak, loadOp, Go.Abs.loadCells, binV, zal, pickV, zam, zan, zao, zap, zaq, zar, zas, zat, zau, outR, resAll, resOne, zav, zaw, zax, zay, zaz, zba, zbb, zbc, zbd, zbe, zbf, zbg, zbh, zbi, zbj, zbk, storeOp, storeCell, overlay, zbl, zbm, zbn, lookupOp, keyT, okRes, mapUpdateOp, zbo, zbp, zbq, zbr, zbs, zbt, zbu, Nat.reduceSub, Nat.reduceAdd, Int.reduceLT, Int.reduceLE, Int.reduceAdd, Int.reduceSub, Int.reduceToNat, Int.reduceBEq, Int.reduceBNe, Int.reduceMul, Nat.reduceBEq, Nat.reduceBNe, Nat.reduceLT, Nat.reduceLeDiff, Nat.reduceMul, Nat.reduceEqDiff, WD, effB, effH, isPriv, isHeap, isImm, zbx, zby, zbz, chkO, setD, dslot, zca, zcb, zcc, zcd, ptrCells_some, F10, alts10_6, k1.shutIn, k2.shutIn, m1.shutIn, m2.shutIn, hat1.at1 k1, hat1.cells, hat2.at1 k2, hat2.cells, u1, u2, v1, v2, storeHeap, promote, heapSet, elemSet, hgl, hgs, hst]
      have hgn : (Hn ++ [Blk.cells [V.agg [.int .i64 ek, .int .i64 ea, .int .i64 eb, .int .i64 ef, .int .i64 eg, .int .i64 ei]]])[Hn.length]? = some (Blk.cells [V.agg [.int .i64 ek, .int .i64 ea, .int .i64 eb, .int .i64 ef, .int .i64 eg, .int .i64 ei]]) := get_last Hn _
      simp only [WW, partV, eqCells, eqLf, minV, maxV, ifcV, zaa, zab, zac, zad, zae, zaf, zag, zah, zai, ofConst, ofConst1, List.replicate, zaj, zak, loadOp, Go.Abs.loadCells, binV, zal, pickV, zam, zan, zao, zap, zaq, zar, zas, zat, zau, outR, resAll, resOne, zav, zaw, zax, zay, zaz, zba, zbb, zbc, zbd, zbe, zbf, zbg, zbh, zbi, zbj, zbk, storeOp, storeCell, overlay, zbl, zbm, zbn, lookupOp, keyT, okRes, mapUpdateOp, zbo, zbp, zbq, zbr, zbs, zbt, zbu, Nat.reduceSub, Nat.reduceAdd, Int.reduceLT, Int.reduceLE, Int.reduceAdd, Int.reduceSub, Int.reduceToNat, Int.reduceBEq, Int.reduceBNe, Int.reduceMul, Nat.reduceBEq, Nat.reduceBNe, Nat.reduceLT, Nat.reduceLeDiff, Nat.reduceMul, Nat.reduceEqDiff, WD, effB, effH, isPriv, isHeap, isImm, zbx, zby, zbz, chkO, setD, dslot, zca, zcb, zcc, zcd, ptrCells_some, F10, hgn, hi1]
      refine ⟨E.length - (i + 1), by omega, i + 1, ?_, ⟨ex ++ [Blk.cells [V.agg [.int .i64 ek, .int .i64 ea, .int .i64 eb, .int .i64 ef, .int .i64 eg, .int .i64 ei]]], by rw [← hHn, List.append_assoc]⟩, by omega, rfl⟩
      simp only [WN, firstReg, growAll, zbv, zbw, norm, killS, zag, zah, zaa, zab, zbl, zat, zad, growOne, zae, zaf, zac, zas, zak, Nat.reduceLT, Nat.reduceAdd, zbj, zav, F10, L10_4, h1.clip, h2.clip, h3.clip, h4.clip]
      try rfl
    · have g1 : decide ((i : Int) < (E.length : Int)) = false := decide_eq_false (by omega)
      simp only [WW, partV, eqCells, eqLf, minV, maxV, ifcV, zaa, zab, zac, zad, zae, zaf, zag, zah, zai, ofConst, ofConst1, List.replicate, zaj, zak, loadOp, Go.Abs.loadCells, binV, zal, pickV, zam, zan, zao, zap, zaq, zar, zas, zat, zau, outR, resAll, resOne, zav, zaw, zax, zay, zaz, zba, zbb, zbc, zbd, zbe, zbf, zbg, zbh, zbi, zbj, zbk, storeOp, storeCell, overlay, zbl, zbm, zbn, lookupOp, keyT, okRes, mapUpdateOp, zbo, zbp, zbq, zbr, zbs, zbt, zbu, Nat.reduceSub, Nat.reduceAdd, Int.reduceLT, Int.reduceLE, Int.reduceAdd, Int.reduceSub, Int.reduceToNat, Int.reduceBEq, Int.reduceBNe, Int.reduceMul, Nat.reduceBEq, Nat.reduceBNe, Nat.reduceLT, Nat.reduceLeDiff, Nat.reduceMul, Nat.reduceEqDiff, WD, effB, effH, isPriv, isHeap, isImm, zbx, zby, zbz, chkO, setD, dslot, zca, zcb, zcc, zcd, ptrCells_some, F10, k1.shutIn, k1.len, ents_len, g1]
      refine wC_loop _ (fun n st H' => ∃ i : Nat, st = ⟨L10_12 (.box 0) (.box 1) (.v (.int .i64 i)), [[x1, d1], [x2, d2]], []⟩ ∧ H' = Hn ∧ i ≤ D.length ∧ n = D.length - i) D.length ⟨0, ?_, rfl, by omega, by omega⟩ ?_
      · simp only [WN, firstReg, growAll, zbv, zbw, norm, killS, zag, zah, zaa, zab, zbl, zat, zad, growOne, zae, zaf, zac, zas, zak, Nat.reduceLT, Nat.reduceAdd, zbj, zav, F10, L10_12, k1.clip, k2.clip, k3.clip, k4.clip]
        try rfl
      · rintro n st H' ⟨j, rfl, rfl, hj, rfl⟩
        simp only [L10_12]
        by_cases hlt : j < D.length
        · have g2 : decide ((j : Int) < (D.length : Int)) = true := decide_eq_true (by omega)
          have hDj : D[j]? = some D[j] := List.getElem?_eq_getElem hlt
          generalize D[j] = v at hDj
          have hat3 := k3.at_ (sz := 1) (i := j) (e := intV v) (by simp [intsV, hDj]) rfl
          have hat4 := k4.at_ (sz := 1) (i := j) (e := intV v) (by simp [intsV, hDj]) rfl
          have hj1 : IntKind.i64.wrap ((j : Int) + 1) = ((j + 1 : Nat) : Int) := by rw [IntWalk.i64_in _ (by omega)]; omega
          have ev : (v != v) = false := by simp
          simp only [WW, partV, eqCells, eqLf, minV, maxV, ifcV, zaa, zab, zac, zad, zae, zaf, zag, zah, zai, ofConst, ofConst1, List.replicate, zaj, zak, loadOp, Go.Abs.loadCells, binV, zal, pickV, zam, zan, zao, zap, zaq, zar, zas, zat, zau, outR, resAll, resOne, zav, zaw, zax, zay, zaz, zba, zbb, zbc, zbd, zbe, zbf, zbg, zbh, zbi, zbj, zbk, storeOp, storeCell, overlay, zbl, zbm, zbn, lookupOp, keyT, okRes, mapUpdateOp, zbo, zbp, zbq, zbr, zbs, zbt, zbu, Nat.reduceSub, Nat.reduceAdd, Int.reduceLT, Int.reduceLE, Int.reduceAdd, Int.reduceSub, Int.reduceToNat, Int.reduceBEq, Int.reduceBNe, Int.reduceMul, Nat.reduceBEq, Nat.reduceBNe, Nat.reduceLT, Nat.reduceLeDiff, Nat.reduceMul, Nat.reduceEqDiff, WD, effB, effH, isPriv, isHeap, isImm, zbx, zby, zbz, chkO, setD, dslot, zca, zcb, zcc, zcd, ptrCells_some, F10, k3.shutIn, k3.len, ints_len, g2]
          refine wC_dr [] (by kernel_rfl) ?_
          simp only [WW, partV, eqCells, eqLf, minV, maxV, ifcV, zaa, zab, zac, zad, zae, zaf, zag, zah, zai, ofConst, ofConst1, List.replicate, zaj, zak, loadOp, Go.Abs.loadCells, binV, zal, pickV, zam, zan, zao, zap, zaq, zar, zas, zat, zau, outR, resAll, resOne, zav, zaw, zax, zay, zaz, zba, zbb, zbc, zbd, zbe, zbf, zbg, zbh, zbi, zbj, zbk, storeOp, storeCell, overlay, zbl, zbm, zbn, lookupOp, keyT, okRes, mapUpdateOp, zbo, zbp, zbq, zbr, zbs, zbt, zbu, Nat.reduceSub, Nat.reduceAdd, Int.reduceLT, Int.reduceLE, Int.reduceAdd, Int.reduceSub, Int.reduceToNat, Int.reduceBEq, Int.reduceBNe, Int.reduceMul, Nat.reduceBEq, Nat.reduceBNe, Nat.reduceLT, Nat.reduceLeDiff, Nat.reduceMul, Nat.reduceEqDiff, WD, effB, effH, isPriv, isHeap, isImm, zbx, zby, zbz, chkO, setD, dslot, zca, zcb, zcc, zcd, ptrCells_some, F10, k3.shutIn, k4.shutIn, hat3.at1 k3, hat3.cells, hat4.at1 k4, hat4.cells, intV, ev, hj1]
          first | refine ⟨D.length - (j + 1), by omega, j + 1, ?_, by omega, rfl⟩ | refine ⟨D.length - (j + 1), by omega, j + 1, ?_, rfl, by omega, rfl⟩
          simp only [WN, firstReg, growAll, zbv, zbw, norm, killS, zag, zah, zaa, zab, zbl, zat, zad, growOne, zae, zaf, zac, zas, zak, Nat.reduceLT, Nat.reduceAdd, zbj, zav, F10, L10_12, k1.clip, k2.clip, k3.clip, k4.clip]
          try rfl
        · have g2 : decide ((j : Int) < (D.length : Int)) = false := decide_eq_false (by omega)
          simp only [WW, partV, eqCells, eqLf, minV, maxV, ifcV, zaa, zab, zac, zad, zae, zaf, zag, zah, zai, ofConst, ofConst1, List.replicate, zaj, zak, loadOp, Go.Abs.loadCells, binV, zal, pickV, zam, zan, zao, zap, zaq, zar, zas, zat, zau, outR, resAll, resOne, zav, zaw, zax, zay, zaz, zba, zbb, zbc, zbd, zbe, zbf, zbg, zbh, zbi, zbj, zbk, storeOp, storeCell, overlay, zbl, zbm, zbn, lookupOp, keyT, okRes, mapUpdateOp, zbo, zbp, zbq, zbr, zbs, zbt, zbu, Nat.reduceSub, Nat.reduceAdd, Int.reduceLT, Int.reduceLE, Int.reduceAdd, Int.reduceSub, Int.reduceToNat, Int.reduceBEq, Int.reduceBNe, Int.reduceMul, Nat.reduceBEq, Nat.reduceBNe, Nat.reduceLT, Nat.reduceLeDiff, Nat.reduceMul, Nat.reduceEqDiff, WD, effB, effH, isPriv, isHeap, isImm, zbx, zby, zbz, chkO, setD, dslot, zca, zcb, zcc, zcd, ptrCells_some, F10, k3.shutIn, k3.len, ints_len, g2]
          first | exact ⟨ex, hHn.symm⟩ | exact ⟨rfl, ex, hHn.symm⟩
end Go.Proofs.Yteenpfdpokekgaa

/- Scripts: without their tiers. -/
namespace Go.Proofs.Yteenpfdpokekgaa
open Go Go.Abs Go.Proofs
set_option maxRecDepth 100000
set_option maxHeartbeats 8000000
set_option linter.unusedVariables false
set_option linter.unusedSimpArgs false
theorem app_emp {P : Program} {e : TypeId} {st : St} {H : Hp} {d : Option Nat} {es : List V} (hw : wideAll es (sizeT P e) = true) (hel : elemOk P e es.length = true) :
    appendOp P .heap st H d e .emp es = some (putS st d (.v (copyR es H).1), (copyR es H).2) := by
  unfold copyR
  cases he : es.isEmpty with
  | true => simp [appendOp, hw, he]
  | false => simp [appendOp, hw, he, newSl, hel]
theorem ints_wide (D : List Int) : wideAll (intsV D) 1 = true := wide_mapN (f := intV) (fun _ => rfl) D
theorem ents_wide (E : List Ent) : wideAll (entsV E) 6 = true := wide_mapN (f := entV) (fun _ => rfl) E
def cloneR (x : V) (D : List Int) (H : Hp) : V × Hp := if isNils x then (.nils, H) else copyR (intsV D) H
theorem clone_eq {x : V} {D : List Int} {H : Hp} (hx : Sx H x (intsV D)) (hl : D.length < 4294967296) : EW 19 [x] H = some (.ret (cloneR x D H).1 false, (cloneR x D H).2) := by
  have hq := hx.eqNil (P := Try.prog) tk25
  simp only [binV, tk25] at hq
  have hr := hx.rd
  have ha : ∀ st d, appendOp Try.prog .heap st H d 3 .emp (intsV D) = some (putS st d (.v (copyR (intsV D) H).1), (copyR (intsV D) H).2) := fun st d => app_emp (by rw [size3]; exact ints_wide D) (by rw [room3, ints_len]; simp; omega)
  have hsh : ∀ st, sealV st (copyR (intsV D) H).1 = (copyR (intsV D) H).1 := fun st => by unfold copyR; split <;> rfl
  have hgr : ∀ r, growsAs r (.v (copyR (intsV D) H).1) = false := fun r => by unfold copyR; split <;> rfl
  refine eqOf2 (runs f19 b19 r19 n19 _ _ ?_)
  simp only [bodyOf, Try.f19, Option.getD_some]
  simp only [WW, partV, eqCells, eqLf, minV, maxV, ifcV, zaa, zab, zac, zad, zae, zaf, zag, zah, zai, ofConst, ofConst1, List.replicate, zaj, zak, loadOp, Go.Abs.loadCells, binV, zal, pickV, zam, zan, zao, zap, zaq, zar, zas, zat, zau, outR, resAll, resOne, zav, zaw, zax, zay, zaz, zba, zbb, zbc, zbd, zbe, zbf, zbg, zbh, zbi, zbj, zbk, storeOp, storeCell, overlay, zbl, zbm, zbn, lookupOp, keyT, okRes, mapUpdateOp, zbo, zbp, zbq, zbr, zbs, zbt, zbu, Nat.reduceSub, Nat.reduceAdd, Int.reduceLT, Int.reduceLE, Int.reduceAdd, Int.reduceSub, Int.reduceToNat, Int.reduceBEq, Int.reduceBNe, Int.reduceMul, Nat.reduceBEq, Nat.reduceBNe, Nat.reduceLT, Nat.reduceLeDiff, Nat.reduceMul, Nat.reduceEqDiff, WD, effB, effH, isPriv, isHeap, isImm, zbx, zby, zbz, chkO, setD, dslot, zca, zcb, zcc, zcd, ptrCells_some, F19, hr.shutIn, hq]
  cases hn : isNils x with
  | true =>
    simp only [WW, partV, eqCells, eqLf, minV, maxV, ifcV, zaa, zab, zac, zad, zae, zaf, zag, zah, zai, ofConst, ofConst1, List.replicate, zaj, zak, loadOp, Go.Abs.loadCells, binV, zal, pickV, zam, zan, zao, zap, zaq, zar, zas, zat, zau, outR, resAll, resOne, zav, zaw, zax, zay, zaz, zba, zbb, zbc, zbd, zbe, zbf, zbg, zbh, zbi, zbj, zbk, storeOp, storeCell, overlay, zbl, zbm, zbn, lookupOp, keyT, okRes, mapUpdateOp, zbo, zbp, zbq, zbr, zbs, zbt, zbu, Nat.reduceSub, Nat.reduceAdd, Int.reduceLT, Int.reduceLE, Int.reduceAdd, Int.reduceSub, Int.reduceToNat, Int.reduceBEq, Int.reduceBNe, Int.reduceMul, Nat.reduceBEq, Nat.reduceBNe, Nat.reduceLT, Nat.reduceLeDiff, Nat.reduceMul, Nat.reduceEqDiff, WD, effB, effH, isPriv, isHeap, isImm, zbx, zby, zbz, chkO, setD, dslot, zca, zcb, zcc, zcd, ptrCells_some, F19]
    simp [cloneR, hn]
  | false =>
    simp only [WW, partV, eqCells, eqLf, minV, maxV, ifcV, zaa, zab, zac, zad, zae, zaf, zag, zah, zai, ofConst, ofConst1, List.replicate, zaj, zak, loadOp, Go.Abs.loadCells, binV, zal, pickV, zam, zan, zao, zap, zaq, zar, zas, zat, zau, outR, resAll, resOne, zav, zaw, zax, zay, zaz, zba, zbb, zbc, zbd, zbe, zbf, zbg, zbh, zbi, zbj, zbk, storeOp, storeCell, overlay, zbl, zbm, zbn, lookupOp, keyT, okRes, mapUpdateOp, zbo, zbp, zbq, zbr, zbs, zbt, zbu, Nat.reduceSub, Nat.reduceAdd, Int.reduceLT, Int.reduceLE, Int.reduceAdd, Int.reduceSub, Int.reduceToNat, Int.reduceBEq, Int.reduceBNe, Int.reduceMul, Nat.reduceBEq, Nat.reduceBNe, Nat.reduceLT, Nat.reduceLeDiff, Nat.reduceMul, Nat.reduceEqDiff, WD, effB, effH, isPriv, isHeap, isImm, zbx, zby, zbz, chkO, setD, dslot, zca, zcb, zcc, zcd, ptrCells_some, F19, hr.shutIn, hr.srcSl, buildSliceV, lits, srcV_eq, srcK_sl, srcK_str, srcSl_nils, srcSl_rsl, srcSl_sl, frow, zbv, zbw, List.all_nil, List.all_cons, rowV, Bool.false_and, Bool.and_false, ne_eq, not_false_eq_true, grows_lr, callOut_t, ha, hsh, hgr]
    simp [cloneR, hn]
theorem cloneR_ext (x : V) (D : List Int) (H : Hp) : ∃ e, (cloneR x D H).2 = H ++ e := by
  unfold cloneR copyR
  split
  · exact ⟨[], by simp⟩
  · split
    · exact ⟨[], by simp⟩
    · exact ⟨_, rfl⟩
/-- Numbers that may be written over, newer than n blocks and none of a value's own -/
def WrD (H : Hp) (N : Nat → Prop) (x : V) (D : List Int) : Prop := (x = .rsl [] ∧ D = []) ∨ SlW 1 H N x (intsV D)
theorem cloneR_wr {x : V} {D : List Int} {H : Hp} (hx : Sx H x (intsV D)) {N : Nat → Prop} (hN : ∀ i, N i → i < H.length) : WrD (cloneR x D H).2 N (cloneR x D H).1 D := by
  unfold cloneR
  cases hn : isNils x with
  | true =>
    obtain ⟨rfl, h⟩ := hx.nil_l hn
    have : D = [] := by simpa [intsV] using h
    subst this
    exact .inr (.inl ⟨rfl, rfl⟩)
  | false =>
    simp only [Bool.false_eq_true, if_false]
    unfold copyR
    cases D with
    | nil => exact .inl ⟨rfl, rfl⟩
    | cons a l =>
      refine .inr (.inr ⟨H.length, intsV (a :: l), rfl, fun h => Nat.lt_irrefl _ (hN _ h), ?_, Nat.le_refl _, List.take_length, by simp [intsV], ints_wide _⟩)
      simp [intsV]
theorem WrD.sx {H : Hp} {N : Nat → Prop} {x : V} {D : List Int} (h : WrD H N x D) : Sx H x (intsV D) := by
  rcases h with ⟨rfl, rfl⟩ | h
  · exact .rsl []
  · exact h.sx
def filt (E : List Ent) : List Ent := E.filter (·.k != 3)
theorem filt_take {E : List Ent} {i : Nat} {e : Ent} (h : E[i]? = some e) : filt (E.take (i + 1)) = filt (E.take i) ++ (if e.k != 3 then [e] else []) := by
  unfold filt
  rw [List.take_add_one, h, Option.toList_some, List.filter_append]
  cases hk : (e.k != 3) <;> simp [hk]
theorem filt_len (E : List Ent) : (filt E).length ≤ E.length := List.length_filter_le ..
theorem sx_fr {H H' : Hp} {x : V} {l : List V} (h : Sx H x l) (hf : ∀ i, i < H.length → H'[i]? = H[i]?) : Sx H' x l :=
  sx_kept h fun i hi => hf i (sx_lt h hi)
theorem erase_eq {H : Hp} {xe xd : V} {E : List Ent} {D : List Int} (he : Sx H xe (entsV E)) (hd : Sx H xd (intsV D)) (hE : E.length < 4294967296) (hD : D.length < 4294967296) :
    wpCall EW 13 [.agg [xe, xd]] H (fun out H' => ∃ ye yd, out = .ret (.agg [ye, yd]) false ∧ SlW 6 H' (fun i => i < H.length) ye (entsV (filt E)) ∧ WrD H' (fun i => i < H.length ∨ bx ye = some i) yd D ∧ (∀ i, i < H.length → H'[i]? = H[i]?) ∧ H.length ≤ H'.length) := by
  have her := he.rd
  have hdr := hd.rd
  refine runs f13 b13 r13 n13 _ _ ?_
  simp only [bodyOf, Try.f13, Option.getD_some]
  simp only [WW, partV, eqCells, eqLf, minV, maxV, ifcV, zaa, zab, zac, zad, zae, zaf, zag, zah, zai, ofConst, ofConst1, List.replicate, zaj, zak, loadOp, Go.Abs.loadCells, binV, zal, pickV, zam, zan, zao, zap, zaq, zar, zas, zat, zau, outR, resAll, resOne, zav, zaw, zax, zay, zaz, zba, zbb, zbc, zbd, zbe, zbf, zbg, zbh, zbi, zbj, zbk, storeOp, storeCell, overlay, zbl, zbm, zbn, lookupOp, keyT, okRes, mapUpdateOp, zbo, zbp, zbq, zbr, zbs, zbt, zbu, Nat.reduceSub, Nat.reduceAdd, Int.reduceLT, Int.reduceLE, Int.reduceAdd, Int.reduceSub, Int.reduceToNat, Int.reduceBEq, Int.reduceBNe, Int.reduceMul, Nat.reduceBEq, Nat.reduceBNe, Nat.reduceLT, Nat.reduceLeDiff, Nat.reduceMul, Nat.reduceEqDiff, WD, effB, effH, isPriv, isHeap, isImm, zbx, zby, zbz, chkO, setD, dslot, zca, zcb, zcc, zcd, ptrCells_some, F13, her.shutIn, her.len, ents_len, her.ok, hdr.ok, buildOp, fillV, Lay.place, Bool.or_self, Bool.or_false, Bool.false_or, decide_not, ne_eq, not_true_eq_false, decide_eq_true_eq, Nat.lt_irrefl]
  refine wC_loop _ (fun n st H' => ∃ (i : Nat) (ye : V), st = ⟨L13_3 (.box 0) (.box 1) (.box 2) (.v xe) (.v (.int .i64 E.length)) (.v (.int .i64 i)), [[xe, xd], [.nils, .nils], [ye, .nils]], []⟩ ∧ SlW 6 H' (fun i => i < H.length) ye (entsV (filt (E.take i))) ∧ (∀ j, j < H.length → H'[j]? = H[j]?) ∧ H.length ≤ H'.length ∧ i ≤ E.length ∧ n = E.length - i) E.length ⟨0, .nils, ?_, .inl ⟨rfl, by simp [filt, entsV]⟩, fun _ _ => rfl, Nat.le_refl _, by omega, by omega⟩ ?_
  · simp only [WN, firstReg, growAll, zbv, zbw, norm, killS, zag, zah, zaa, zab, zbl, zat, zad, growOne, zae, zaf, zac, zas, zak, Nat.reduceLT, Nat.reduceAdd, zbj, zav, F13, L13_3, her.clip2, her.clip, hdr.clip]
    try rfl
  · rintro n st H' ⟨i, ye, rfl, hy, hf, hge, hi, rfl⟩
    have h1 := (sx_fr he hf).rd
    have h2 := sx_fr hd hf
    simp only [L13_3]
    by_cases hlt : i < E.length
    · have g1 : decide ((i : Int) < (E.length : Int)) = true := decide_eq_true (by omega)
      have hEi : E[i]? = some E[i] := List.getElem?_eq_getElem hlt
      generalize E[i] = e at hEi
      have hat := h1.at_ (sz := 6) (i := i) (e := entV e) (by simp [entsV, hEi]) rfl
      have hi1 : IntKind.i64.wrap ((i : Int) + 1) = ((i + 1 : Nat) : Int) := by rw [IntWalk.i64_in _ (by omega)]; omega
      have hft := filt_take hEi
      have hfl := filt_len (E.take i)
      have hfl2 : (E.take i).length ≤ E.length := by simp; omega
      cases hk : (e.k != 3) with
      | true =>
        rw [hk] at hft
        simp only [if_true] at hft
        obtain ⟨y2, H2, ha, hy2, hk2, hle2⟩ := app_sl (P := Try.prog) (sz := 6) (e := 40) (d := some 20) [entV e] (by kernel_rfl) hy (fun j hj => by omega) rfl (by simp) (by rw [room40]; simp [ents_len]; omega)
        have hy3 : SlW 6 H2 (fun i => i < H.length) y2 (entsV (filt (E.take (i + 1)))) := by rw [hft]; simp only [entsV, List.map_append] at hy2 ⊢; exact hy2
        simp only [entV] at ha
        simp only [WW, partV, eqCells, eqLf, minV, maxV, ifcV, zaa, zab, zac, zad, zae, zaf, zag, zah, zai, ofConst, ofConst1, List.replicate, zaj, zak, loadOp, Go.Abs.loadCells, binV, zal, pickV, zam, zan, zao, zap, zaq, zar, zas, zat, zau, outR, resAll, resOne, zav, zaw, zax, zay, zaz, zba, zbb, zbc, zbd, zbe, zbf, zbg, zbh, zbi, zbj, zbk, storeOp, storeCell, overlay, zbl, zbm, zbn, lookupOp, keyT, okRes, mapUpdateOp, zbo, zbp, zbq, zbr, zbs, zbt, zbu, Nat.reduceSub, Nat.reduceAdd, Int.reduceLT, Int.reduceLE, Int.reduceAdd, Int.reduceSub, Int.reduceToNat, Int.reduceBEq, Int.reduceBNe, Int.reduceMul, Nat.reduceBEq, Nat.reduceBNe, Nat.reduceLT, Nat.reduceLeDiff, Nat.reduceMul, Nat.reduceEqDiff, WD, effB, effH, isPriv, isHeap, isImm, zbx, zby, zbz, chkO, setD, dslot, zca, zcb, zcc, zcd, ptrCells_some, F13, g1, h1.shutIn, hat.at1 h1, hat.cells, entV, hi1, hk, buildSliceV, lits, srcV_eq, srcK_sl, srcK_str, srcSl_nils, srcSl_rsl, srcSl_sl, frow, zbv, zbw, List.all_nil, List.all_cons, rowV, Bool.false_and, Bool.and_false, ne_eq, not_false_eq_true, grows_lr, callOut_t, hy.shut, ha, hy3.ok, hy3.cells1, hy3.width1, hy3.shut]
        refine ⟨E.length - (i + 1), by omega, i + 1, y2, ?_, hy3, fun j hj => by rw [hk2 j hj]; exact hf j hj, by omega, by omega, rfl⟩
        simp only [WN, firstReg, growAll, zbv, zbw, norm, killS, zag, zah, zaa, zab, zbl, zat, zad, growOne, zae, zaf, zac, zas, zak, Nat.reduceLT, Nat.reduceAdd, zbj, zav, F13, L13_3, her.clip2, her.clip, hdr.clip, hy3.clip]
        try rfl
      | false =>
        rw [hk] at hft
        simp only [Bool.false_eq_true, if_false, List.append_nil] at hft
        simp only [WW, partV, eqCells, eqLf, minV, maxV, ifcV, zaa, zab, zac, zad, zae, zaf, zag, zah, zai, ofConst, ofConst1, List.replicate, zaj, zak, loadOp, Go.Abs.loadCells, binV, zal, pickV, zam, zan, zao, zap, zaq, zar, zas, zat, zau, outR, resAll, resOne, zav, zaw, zax, zay, zaz, zba, zbb, zbc, zbd, zbe, zbf, zbg, zbh, zbi, zbj, zbk, storeOp, storeCell, overlay, zbl, zbm, zbn, lookupOp, keyT, okRes, mapUpdateOp, zbo, zbp, zbq, zbr, zbs, zbt, zbu, Nat.reduceSub, Nat.reduceAdd, Int.reduceLT, Int.reduceLE, Int.reduceAdd, Int.reduceSub, Int.reduceToNat, Int.reduceBEq, Int.reduceBNe, Int.reduceMul, Nat.reduceBEq, Nat.reduceBNe, Nat.reduceLT, Nat.reduceLeDiff, Nat.reduceMul, Nat.reduceEqDiff, WD, effB, effH, isPriv, isHeap, isImm, zbx, zby, zbz, chkO, setD, dslot, zca, zcb, zcc, zcd, ptrCells_some, F13, g1, h1.shutIn, hat.at1 h1, hat.cells, entV, hi1, hk]
        refine ⟨E.length - (i + 1), by omega, i + 1, ye, ?_, by rw [hft]; exact hy, hf, hge, by omega, rfl⟩
        simp only [WN, firstReg, growAll, zbv, zbw, norm, killS, zag, zah, zaa, zab, zbl, zat, zad, growOne, zae, zaf, zac, zas, zak, Nat.reduceLT, Nat.reduceAdd, zbj, zav, F13, L13_3, her.clip2, her.clip, hdr.clip, hy.clip]
        try rfl
    · have g1 : decide ((i : Int) < (E.length : Int)) = false := decide_eq_false (by omega)
      have hie : E.take i = E := List.take_of_length_le (by omega)
      rw [hie] at hy
      have hcl := clone_eq h2 hD
      obtain ⟨ex, hex⟩ := cloneR_ext xd D H'
      have hwr := cloneR_wr h2 (N := fun i => i < H.length ∨ bx ye = some i) (fun j hj => by
        rcases hj with hj | hj
        · omega
        · exact (slw_lt hy hj).1)
      have hcs : ∀ st, sealV st (cloneR xd D H').1 = (cloneR xd D H').1 := fun st => hwr.sx.rd.shutIn st
      have hc1 := hwr.sx.rd.cells1
      have hco := hwr.sx.rd.ok
      have hcw := hwr.sx.rd.width1
      rw [hex] at hcl hwr
      generalize (cloneR xd D H').1 = yd at hcl hwr hcs hc1 hco hcw
      simp only [WW, partV, eqCells, eqLf, minV, maxV, ifcV, zaa, zab, zac, zad, zae, zaf, zag, zah, zai, ofConst, ofConst1, List.replicate, zaj, zak, loadOp, Go.Abs.loadCells, binV, zal, pickV, zam, zan, zao, zap, zaq, zar, zas, zat, zau, outR, resAll, resOne, zav, zaw, zax, zay, zaz, zba, zbb, zbc, zbd, zbe, zbf, zbg, zbh, zbi, zbj, zbk, storeOp, storeCell, overlay, zbl, zbm, zbn, lookupOp, keyT, okRes, mapUpdateOp, zbo, zbp, zbq, zbr, zbs, zbt, zbu, Nat.reduceSub, Nat.reduceAdd, Int.reduceLT, Int.reduceLE, Int.reduceAdd, Int.reduceSub, Int.reduceToNat, Int.reduceBEq, Int.reduceBNe, Int.reduceMul, Nat.reduceBEq, Nat.reduceBNe, Nat.reduceLT, Nat.reduceLeDiff, Nat.reduceMul, Nat.reduceEqDiff, WD, effB, effH, isPriv, isHeap, isImm, zbx, zby, zbz, chkO, setD, dslot, zca, zcb, zcc, zcd, ptrCells_some, F13, g1, h2.rd.shutIn]
      rw [wpCall_eq hcl]
      simp only [WW, partV, eqCells, eqLf, minV, maxV, ifcV, zaa, zab, zac, zad, zae, zaf, zag, zah, zai, ofConst, ofConst1, List.replicate, zaj, zak, loadOp, Go.Abs.loadCells, binV, zal, pickV, zam, zan, zao, zap, zaq, zar, zas, zat, zau, outR, resAll, resOne, zav, zaw, zax, zay, zaz, zba, zbb, zbc, zbd, zbe, zbf, zbg, zbh, zbi, zbj, zbk, storeOp, storeCell, overlay, zbl, zbm, zbn, lookupOp, keyT, okRes, mapUpdateOp, zbo, zbp, zbq, zbr, zbs, zbt, zbu, Nat.reduceSub, Nat.reduceAdd, Int.reduceLT, Int.reduceLE, Int.reduceAdd, Int.reduceSub, Int.reduceToNat, Int.reduceBEq, Int.reduceBNe, Int.reduceMul, Nat.reduceBEq, Nat.reduceBNe, Nat.reduceLT, Nat.reduceLeDiff, Nat.reduceMul, Nat.reduceEqDiff, WD, effB, effH, isPriv, isHeap, isImm, zbx, zby, zbz, chkO, setD, dslot, zca, zcb, zcc, zcd, ptrCells_some, F13, hcs, hc1, hco, hcw, hy.shut]
      exact ⟨ye, yd, rfl, hy.app ex, hwr, fun j hj => by rw [List.getElem?_append_left (by omega)]; exact hf j hj, by simp; omega⟩
end Go.Proofs.Yteenpfdpokekgaa
