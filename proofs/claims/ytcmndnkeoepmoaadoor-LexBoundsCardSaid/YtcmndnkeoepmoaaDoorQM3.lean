/- A part of the proofs over this seat. -/
import Derived.Test.YtcmndnkeoepmoaaDoorQM2
import Derived.Test.YtcmndnkeoepmoaaDoorQK1
namespace Go.Proofs.YtcmndnkeoepmoaaDoor
open Go Go.Abs Go.Proofs
set_option maxRecDepth 100000
set_option maxHeartbeats 1000000
set_option linter.unusedVariables false
set_option linter.unusedSimpArgs false
/-! ### numbers -/
theorem tw_mem {α : Type} {P : α → Bool} : ∀ {l : List α} {c : α}, c ∈ l.takeWhile P → P c = true
  | [], c, h => by cases h
  | a :: r, c, h => by
    rw [List.takeWhile_cons] at h
    split at h
    · rcases List.mem_cons.1 h with rfl | h
      · assumption
      · exact tw_mem h
    · cases h
theorem number_spec {H : Hp} {w : Nat} {x : V} {L : List UInt8} {p : Nat} {c0 : UInt8} {r : List UInt8} (hB : By H w x L) (hC : Ct H w x p) (hcr : L.drop p = c0 :: r) (hc0 : digitB c0.toNat = true) (hL : L.length ≤ 65536) :
    wpCall EW 32 [.ptr w 0 0] H (nxR H w x p (numS (c0 :: r))) := by
  have hp : p < L.length := by
    have := congrArg List.length hcr
    simp at this; omega
  rw [← hcr]
  refine runs f32 b32 r32 n32 _ _ ?_
  simp only [bodyOf, Tryd.f32, Option.getD_some]
  have hb0 : H[w]? = some (.cells [.agg [x, .int .i64 (p : Int)]]) := hC
  simp only [WW, partV, eqCells, eqLf, minV, maxV, ifcV, List.map_cons, List.map_nil, List.length_cons, List.length_nil, List.getD_cons_zero, List.getD_cons_succ, List.set_cons_zero, List.set_cons_succ, List.set_nil, ofConst, ofConst1, List.replicate, List.cons_append, List.nil_append, loadOp, Go.Abs.loadCells, binV, Int.toNat_natCast, pickV, List.getElem?_cons_zero, List.getElem?_cons_succ, Option.map_some, Option.bind_some, List.drop_zero, List.drop_succ_cons, List.take_succ_cons, List.take_zero, List.length_map, outR, resAll, resOne, if_true, if_false, and_true, true_and, Bool.true_eq_false, Bool.false_eq_true, forall_const, true_implies, false_implies, implies_true, decide_true, decide_false, beq_self_eq_true, Option.getD_some, Nat.zero_add, Nat.add_zero, storeOp, storeCell, overlay, List.take_nil, List.drop_nil, List.append_nil, lookupOp, keyT, okRes, mapUpdateOp, Bool.and_self, Bool.and_true, Bool.true_and, Bool.not_true, Bool.not_false, gt_iff_lt, ge_iff_le, Nat.reduceSub, Nat.reduceAdd, Int.reduceLT, Int.reduceLE, Int.reduceAdd, Int.reduceSub, Int.reduceToNat, Int.reduceBEq, Int.reduceBNe, Int.reduceMul, Nat.reduceBEq, Nat.reduceBNe, Nat.reduceLT, Nat.reduceLeDiff, Nat.reduceMul, Nat.reduceEqDiff, WD, effB, effH, isPriv, isHeap, isImm, Option.any_some, Option.any_none, Option.isSome_none, chkO, setD, dslot, Bool.toNat_true, Bool.toNat_false, Nat.add_zero, Nat.zero_add, List.append_eq, and_self, ptrCells_some, F32, hb0, buildOp, fillV, Lay.place, Bool.or_self, Bool.or_false, Bool.false_or, decide_not, ne_eq, not_true_eq_false, Bool.not_true, Bool.not_false, decide_eq_true_eq, Nat.lt_irrefl, gt_iff_lt, storeCell, overlay]
  refine wpCall_of (run_spec (P := digitB) call29 digit_eq hB hC (by omega) (by omega)) ?_
  obtain ⟨D, hD⟩ : ∃ D, D = (L.drop p).takeWhile fun c => digitB c.toNat := ⟨_, rfl⟩
  rw [← hD]
  have hDl : p + D.length ≤ L.length := by
    have := takeWhile_le (fun c : UInt8 => digitB c.toNat) (L.drop p)
    rw [← hD] at this; simp at this; omega
  have hd : ∀ c ∈ D, digitB c.toNat = true := fun c hc => by rw [hD] at hc; exact tw_mem (P := fun c : UInt8 => digitB c.toNat) hc
  have hD0 : D[0]? = some c0 := by rw [hD, hcr, List.takeWhile_cons, if_pos hc0]; rfl
  have hDp : 0 < D.length := (List.getElem?_eq_some_iff.1 hD0).1
  have hnS : numS (L.drop p) = if decide (1 < D.length) && D[0]? == some 48 then .bad 6 1 else if (L[p + D.length]?).any (fun c => letterB c.toNat) then .bad 6 D.length else match numR 0 D with | some n => .tok 3 [] n D.length | none => .bad 9 0 := by
    unfold numS
    simp only [← hD, List.getElem?_drop]
    rfl
  rw [hnS]
  rintro out H1 ⟨rfl, rfl⟩
  have hC1 := hC.to ((p + D.length : Nat) : Int)
  have hset1 : ∀ b, (H.set w (ctr x ((p + D.length : Nat) : Int))).set w b = H.set w b := fun b => List.set_set ..
  generalize hH1 : H.set w (ctr x ((p + D.length : Nat) : Int)) = H1 at hC1 hset1 ⊢
  have hb1 : H1[w]? = some (.cells [.agg [x, .int .i64 ((p + D.length : Nat) : Int)]]) := hC1
  have hx1 := (hB.same hset1).rd
  have hself := hC1.self
  have e48 : (((c0.toNat : Nat) : Int) == 48) = (c0 == 48) := u8b c0 48
  have hp1 : IntKind.i64.wrap ((p : Int) + 1) = ((p + 1 : Nat) : Int) := by rw [IntWalk.i64_in _ (by omega)]; omega
  have h1s : decide ((1 : Int) < (D.length : Int)) = decide (1 < D.length) := by rw [Bool.eq_iff_iff]; simp; omega
  have hq0 : (D[0]? == some (48 : UInt8)) = (c0 == 48) := by rw [hD0]; rfl
  rw [hq0]
  simp only [WW, partV, eqCells, eqLf, minV, maxV, ifcV, List.map_cons, List.map_nil, List.length_cons, List.length_nil, List.getD_cons_zero, List.getD_cons_succ, List.set_cons_zero, List.set_cons_succ, List.set_nil, ofConst, ofConst1, List.replicate, List.cons_append, List.nil_append, loadOp, Go.Abs.loadCells, binV, Int.toNat_natCast, pickV, List.getElem?_cons_zero, List.getElem?_cons_succ, Option.map_some, Option.bind_some, List.drop_zero, List.drop_succ_cons, List.take_succ_cons, List.take_zero, List.length_map, outR, resAll, resOne, if_true, if_false, and_true, true_and, Bool.true_eq_false, Bool.false_eq_true, forall_const, true_implies, false_implies, implies_true, decide_true, decide_false, beq_self_eq_true, Option.getD_some, Nat.zero_add, Nat.add_zero, storeOp, storeCell, overlay, List.take_nil, List.drop_nil, List.append_nil, lookupOp, keyT, okRes, mapUpdateOp, Bool.and_self, Bool.and_true, Bool.true_and, Bool.not_true, Bool.not_false, gt_iff_lt, ge_iff_le, Nat.reduceSub, Nat.reduceAdd, Int.reduceLT, Int.reduceLE, Int.reduceAdd, Int.reduceSub, Int.reduceToNat, Int.reduceBEq, Int.reduceBNe, Int.reduceMul, Nat.reduceBEq, Nat.reduceBNe, Nat.reduceLT, Nat.reduceLeDiff, Nat.reduceMul, Nat.reduceEqDiff, WD, effB, effH, isPriv, isHeap, isImm, Option.any_some, Option.any_none, Option.isSome_none, chkO, setD, dslot, Bool.toNat_true, Bool.toNat_false, Nat.add_zero, Nat.zero_add, List.append_eq, and_self, ptrCells_some, F32, size_len, h1s]
  by_cases hlead : decide (1 < D.length) = true ∧ (c0 == 48) = true
  · obtain ⟨g1, h48⟩ := hlead
    simp only [g1]
    simp only [WW, partV, eqCells, eqLf, minV, maxV, ifcV, List.map_cons, List.map_nil, List.length_cons, List.length_nil, List.getD_cons_zero, List.getD_cons_succ, List.set_cons_zero, List.set_cons_succ, List.set_nil, ofConst, ofConst1, List.replicate, List.cons_append, List.nil_append, loadOp, Go.Abs.loadCells, binV, Int.toNat_natCast, pickV, List.getElem?_cons_zero, List.getElem?_cons_succ, Option.map_some, Option.bind_some, List.drop_zero, List.drop_succ_cons, List.take_succ_cons, List.take_zero, List.length_map, outR, resAll, resOne, if_true, if_false, and_true, true_and, Bool.true_eq_false, Bool.false_eq_true, forall_const, true_implies, false_implies, implies_true, decide_true, decide_false, beq_self_eq_true, Option.getD_some, Nat.zero_add, Nat.add_zero, storeOp, storeCell, overlay, List.take_nil, List.drop_nil, List.append_nil, lookupOp, keyT, okRes, mapUpdateOp, Bool.and_self, Bool.and_true, Bool.true_and, Bool.not_true, Bool.not_false, gt_iff_lt, ge_iff_le, Nat.reduceSub, Nat.reduceAdd, Int.reduceLT, Int.reduceLE, Int.reduceAdd, Int.reduceSub, Int.reduceToNat, Int.reduceBEq, Int.reduceBNe, Int.reduceMul, Nat.reduceBEq, Nat.reduceBNe, Nat.reduceLT, Nat.reduceLeDiff, Nat.reduceMul, Nat.reduceEqDiff, WD, effB, effH, isPriv, isHeap, isImm, Option.any_some, Option.any_none, Option.isSome_none, chkO, setD, dslot, Bool.toNat_true, Bool.toNat_false, Nat.add_zero, Nat.zero_add, List.append_eq, and_self, ptrCells_some, F32, hD0, e48, h48, Int.toNat_zero, Int.le_refl, size_len, hb1, hp1, storeHeap, promote, heapSet, elemSet, storeCell, overlay]
    exact ⟨⟨⟨3, [], 0, p⟩, rfl⟩, by rw [← hset1]; rfl⟩
  have hG : decide (1 < D.length) = false ∨ (decide (1 < D.length) = true ∧ (c0 == 48) = false) := by
    cases h1 : decide (1 < D.length) with
    | false => exact .inl rfl
    | true =>
      cases h2 : (c0 == 48) with
      | false => exact .inr ⟨rfl, rfl⟩
      | true => exact absurd ⟨h1, h2⟩ hlead
  have hnot : (decide (1 < D.length) && (c0 == 48)) = false := by
    rcases hG with h | ⟨h, h'⟩
    · rw [h]; rfl
    · rw [h, h']; rfl
  rw [hnot]
  simp only [Bool.false_eq_true, if_false]
  by_cases hl : (L[p + D.length]?).any (fun c => letterB c.toNat) = true
  · rw [if_pos hl]
    obtain ⟨cq, hcq, hlet⟩ : ∃ cq, L[p + D.length]? = some cq ∧ letterB cq.toNat = true := by
      cases h : L[p + D.length]? with
      | none => rw [h] at hl; cases hl
      | some cq => rw [h] at hl; exact ⟨cq, rfl, hl⟩
    have hqlt := (List.getElem?_eq_some_iff.1 hcq).1
    have hg : decide (((p + D.length : Nat) : Int) < (L.length : Int)) = true := decide_eq_true (by omega)
    have hc8 : (by8 L)[p + D.length]? = some (byteV cq) := by simp [by8, hcq]
    have hat := hx1.at_ (sz := 1) hc8 rfl
    rcases hG with g1 | ⟨g1, h48⟩
    all_goals simp only [g1]
    all_goals first | simp only [WW, partV, eqCells, eqLf, minV, maxV, ifcV, List.map_cons, List.map_nil, List.length_cons, List.length_nil, List.getD_cons_zero, List.getD_cons_succ, List.set_cons_zero, List.set_cons_succ, List.set_nil, ofConst, ofConst1, List.replicate, List.cons_append, List.nil_append, loadOp, Go.Abs.loadCells, binV, Int.toNat_natCast, pickV, List.getElem?_cons_zero, List.getElem?_cons_succ, Option.map_some, Option.bind_some, List.drop_zero, List.drop_succ_cons, List.take_succ_cons, List.take_zero, List.length_map, outR, resAll, resOne, if_true, if_false, and_true, true_and, Bool.true_eq_false, Bool.false_eq_true, forall_const, true_implies, false_implies, implies_true, decide_true, decide_false, beq_self_eq_true, Option.getD_some, Nat.zero_add, Nat.add_zero, storeOp, storeCell, overlay, List.take_nil, List.drop_nil, List.append_nil, lookupOp, keyT, okRes, mapUpdateOp, Bool.and_self, Bool.and_true, Bool.true_and, Bool.not_true, Bool.not_false, gt_iff_lt, ge_iff_le, Nat.reduceSub, Nat.reduceAdd, Int.reduceLT, Int.reduceLE, Int.reduceAdd, Int.reduceSub, Int.reduceToNat, Int.reduceBEq, Int.reduceBNe, Int.reduceMul, Nat.reduceBEq, Nat.reduceBNe, Nat.reduceLT, Nat.reduceLeDiff, Nat.reduceMul, Nat.reduceEqDiff, WD, effB, effH, isPriv, isHeap, isImm, Option.any_some, Option.any_none, Option.isSome_none, chkO, setD, dslot, Bool.toNat_true, Bool.toNat_false, Nat.add_zero, Nat.zero_add, List.append_eq, and_self, ptrCells_some, F32, hD0, e48, h48, Int.toNat_zero, Int.le_refl, size_len] | simp only [WW, partV, eqCells, eqLf, minV, maxV, ifcV, List.map_cons, List.map_nil, List.length_cons, List.length_nil, List.getD_cons_zero, List.getD_cons_succ, List.set_cons_zero, List.set_cons_succ, List.set_nil, ofConst, ofConst1, List.replicate, List.cons_append, List.nil_append, loadOp, Go.Abs.loadCells, binV, Int.toNat_natCast, pickV, List.getElem?_cons_zero, List.getElem?_cons_succ, Option.map_some, Option.bind_some, List.drop_zero, List.drop_succ_cons, List.take_succ_cons, List.take_zero, List.length_map, outR, resAll, resOne, if_true, if_false, and_true, true_and, Bool.true_eq_false, Bool.false_eq_true, forall_const, true_implies, false_implies, implies_true, decide_true, decide_false, beq_self_eq_true, Option.getD_some, Nat.zero_add, Nat.add_zero, storeOp, storeCell, overlay, List.take_nil, List.drop_nil, List.append_nil, lookupOp, keyT, okRes, mapUpdateOp, Bool.and_self, Bool.and_true, Bool.true_and, Bool.not_true, Bool.not_false, gt_iff_lt, ge_iff_le, Nat.reduceSub, Nat.reduceAdd, Int.reduceLT, Int.reduceLE, Int.reduceAdd, Int.reduceSub, Int.reduceToNat, Int.reduceBEq, Int.reduceBNe, Int.reduceMul, Nat.reduceBEq, Nat.reduceBNe, Nat.reduceLT, Nat.reduceLeDiff, Nat.reduceMul, Nat.reduceEqDiff, WD, effB, effH, isPriv, isHeap, isImm, Option.any_some, Option.any_none, Option.isSome_none, chkO, setD, dslot, Bool.toNat_true, Bool.toNat_false, Nat.add_zero, Nat.zero_add, List.append_eq, and_self, ptrCells_some, F32]
    all_goals refine wC_dr alts32_7 (by kernel_rfl) ?_
    all_goals simp only [WW, partV, eqCells, eqLf, minV, maxV, ifcV, List.map_cons, List.map_nil, List.length_cons, List.length_nil, List.getD_cons_zero, List.getD_cons_succ, List.set_cons_zero, List.set_cons_succ, List.set_nil, ofConst, ofConst1, List.replicate, List.cons_append, List.nil_append, loadOp, Go.Abs.loadCells, binV, Int.toNat_natCast, pickV, List.getElem?_cons_zero, List.getElem?_cons_succ, Option.map_some, Option.bind_some, List.drop_zero, List.drop_succ_cons, List.take_succ_cons, List.take_zero, List.length_map, outR, resAll, resOne, if_true, if_false, and_true, true_and, Bool.true_eq_false, Bool.false_eq_true, forall_const, true_implies, false_implies, implies_true, decide_true, decide_false, beq_self_eq_true, Option.getD_some, Nat.zero_add, Nat.add_zero, storeOp, storeCell, overlay, List.take_nil, List.drop_nil, List.append_nil, lookupOp, keyT, okRes, mapUpdateOp, Bool.and_self, Bool.and_true, Bool.true_and, Bool.not_true, Bool.not_false, gt_iff_lt, ge_iff_le, Nat.reduceSub, Nat.reduceAdd, Int.reduceLT, Int.reduceLE, Int.reduceAdd, Int.reduceSub, Int.reduceToNat, Int.reduceBEq, Int.reduceBNe, Int.reduceMul, Nat.reduceBEq, Nat.reduceBNe, Nat.reduceLT, Nat.reduceLeDiff, Nat.reduceMul, Nat.reduceEqDiff, WD, effB, effH, isPriv, isHeap, isImm, Option.any_some, Option.any_none, Option.isSome_none, chkO, setD, dslot, Bool.toNat_true, Bool.toNat_false, Nat.add_zero, Nat.zero_add, List.append_eq, and_self, ptrCells_some, F32, hb1, hx1.shutIn, hx1.len, by8_len, alts32_7, size_len, hg, hat.at1 hx1, hat.cells, byteV]
    all_goals rw [wpCall_eq (letter_eq _ _)]
    all_goals simp only [WW, partV, eqCells, eqLf, minV, maxV, ifcV, List.map_cons, List.map_nil, List.length_cons, List.length_nil, List.getD_cons_zero, List.getD_cons_succ, List.set_cons_zero, List.set_cons_succ, List.set_nil, ofConst, ofConst1, List.replicate, List.cons_append, List.nil_append, loadOp, Go.Abs.loadCells, binV, Int.toNat_natCast, pickV, List.getElem?_cons_zero, List.getElem?_cons_succ, Option.map_some, Option.bind_some, List.drop_zero, List.drop_succ_cons, List.take_succ_cons, List.take_zero, List.length_map, outR, resAll, resOne, if_true, if_false, and_true, true_and, Bool.true_eq_false, Bool.false_eq_true, forall_const, true_implies, false_implies, implies_true, decide_true, decide_false, beq_self_eq_true, Option.getD_some, Nat.zero_add, Nat.add_zero, storeOp, storeCell, overlay, List.take_nil, List.drop_nil, List.append_nil, lookupOp, keyT, okRes, mapUpdateOp, Bool.and_self, Bool.and_true, Bool.true_and, Bool.not_true, Bool.not_false, gt_iff_lt, ge_iff_le, Nat.reduceSub, Nat.reduceAdd, Int.reduceLT, Int.reduceLE, Int.reduceAdd, Int.reduceSub, Int.reduceToNat, Int.reduceBEq, Int.reduceBNe, Int.reduceMul, Nat.reduceBEq, Nat.reduceBNe, Nat.reduceLT, Nat.reduceLeDiff, Nat.reduceMul, Nat.reduceEqDiff, WD, effB, effH, isPriv, isHeap, isImm, Option.any_some, Option.any_none, Option.isSome_none, chkO, setD, dslot, Bool.toNat_true, Bool.toNat_false, Nat.add_zero, Nat.zero_add, List.append_eq, and_self, ptrCells_some, F32, hb1, hx1.shutIn, hx1.len, by8_len, alts32_7, size_len, hg, hat.at1 hx1, hat.cells, byteV, hlet, storeCell, overlay]
    all_goals exact ⟨⟨⟨3, [], 0, p⟩, rfl⟩, by rw [← hset1]; exact hself.symm⟩
  · rw [if_neg hl]
    have hcase : (L.length ≤ p + D.length) ∨ ∃ cq, L[p + D.length]? = some cq ∧ letterB cq.toNat = false := by
      cases h : L[p + D.length]? with
      | none => exact .inl (List.getElem?_eq_none_iff.1 h)
      | some cq => rw [h] at hl; exact .inr ⟨cq, rfl, by simpa using hl⟩
    rcases hG with g1 | ⟨g1, h48⟩
    all_goals simp only [g1]
    all_goals first | simp only [WW, partV, eqCells, eqLf, minV, maxV, ifcV, List.map_cons, List.map_nil, List.length_cons, List.length_nil, List.getD_cons_zero, List.getD_cons_succ, List.set_cons_zero, List.set_cons_succ, List.set_nil, ofConst, ofConst1, List.replicate, List.cons_append, List.nil_append, loadOp, Go.Abs.loadCells, binV, Int.toNat_natCast, pickV, List.getElem?_cons_zero, List.getElem?_cons_succ, Option.map_some, Option.bind_some, List.drop_zero, List.drop_succ_cons, List.take_succ_cons, List.take_zero, List.length_map, outR, resAll, resOne, if_true, if_false, and_true, true_and, Bool.true_eq_false, Bool.false_eq_true, forall_const, true_implies, false_implies, implies_true, decide_true, decide_false, beq_self_eq_true, Option.getD_some, Nat.zero_add, Nat.add_zero, storeOp, storeCell, overlay, List.take_nil, List.drop_nil, List.append_nil, lookupOp, keyT, okRes, mapUpdateOp, Bool.and_self, Bool.and_true, Bool.true_and, Bool.not_true, Bool.not_false, gt_iff_lt, ge_iff_le, Nat.reduceSub, Nat.reduceAdd, Int.reduceLT, Int.reduceLE, Int.reduceAdd, Int.reduceSub, Int.reduceToNat, Int.reduceBEq, Int.reduceBNe, Int.reduceMul, Nat.reduceBEq, Nat.reduceBNe, Nat.reduceLT, Nat.reduceLeDiff, Nat.reduceMul, Nat.reduceEqDiff, WD, effB, effH, isPriv, isHeap, isImm, Option.any_some, Option.any_none, Option.isSome_none, chkO, setD, dslot, Bool.toNat_true, Bool.toNat_false, Nat.add_zero, Nat.zero_add, List.append_eq, and_self, ptrCells_some, F32, hD0, e48, h48, Int.toNat_zero, Int.le_refl, size_len] | simp only [WW, partV, eqCells, eqLf, minV, maxV, ifcV, List.map_cons, List.map_nil, List.length_cons, List.length_nil, List.getD_cons_zero, List.getD_cons_succ, List.set_cons_zero, List.set_cons_succ, List.set_nil, ofConst, ofConst1, List.replicate, List.cons_append, List.nil_append, loadOp, Go.Abs.loadCells, binV, Int.toNat_natCast, pickV, List.getElem?_cons_zero, List.getElem?_cons_succ, Option.map_some, Option.bind_some, List.drop_zero, List.drop_succ_cons, List.take_succ_cons, List.take_zero, List.length_map, outR, resAll, resOne, if_true, if_false, and_true, true_and, Bool.true_eq_false, Bool.false_eq_true, forall_const, true_implies, false_implies, implies_true, decide_true, decide_false, beq_self_eq_true, Option.getD_some, Nat.zero_add, Nat.add_zero, storeOp, storeCell, overlay, List.take_nil, List.drop_nil, List.append_nil, lookupOp, keyT, okRes, mapUpdateOp, Bool.and_self, Bool.and_true, Bool.true_and, Bool.not_true, Bool.not_false, gt_iff_lt, ge_iff_le, Nat.reduceSub, Nat.reduceAdd, Int.reduceLT, Int.reduceLE, Int.reduceAdd, Int.reduceSub, Int.reduceToNat, Int.reduceBEq, Int.reduceBNe, Int.reduceMul, Nat.reduceBEq, Nat.reduceBNe, Nat.reduceLT, Nat.reduceLeDiff, Nat.reduceMul, Nat.reduceEqDiff, WD, effB, effH, isPriv, isHeap, isImm, Option.any_some, Option.any_none, Option.isSome_none, chkO, setD, dslot, Bool.toNat_true, Bool.toNat_false, Nat.add_zero, Nat.zero_add, List.append_eq, and_self, ptrCells_some, F32]
    all_goals refine wC_dr alts32_7 (by kernel_rfl) ?_
    all_goals rcases hcase with hge | ⟨cq, hcq, hlet⟩
    all_goals first
      | (have hg : decide (((p + D.length : Nat) : Int) < (L.length : Int)) = false := decide_eq_false (by omega)
         simp only [WW, partV, eqCells, eqLf, minV, maxV, ifcV, List.map_cons, List.map_nil, List.length_cons, List.length_nil, List.getD_cons_zero, List.getD_cons_succ, List.set_cons_zero, List.set_cons_succ, List.set_nil, ofConst, ofConst1, List.replicate, List.cons_append, List.nil_append, loadOp, Go.Abs.loadCells, binV, Int.toNat_natCast, pickV, List.getElem?_cons_zero, List.getElem?_cons_succ, Option.map_some, Option.bind_some, List.drop_zero, List.drop_succ_cons, List.take_succ_cons, List.take_zero, List.length_map, outR, resAll, resOne, if_true, if_false, and_true, true_and, Bool.true_eq_false, Bool.false_eq_true, forall_const, true_implies, false_implies, implies_true, decide_true, decide_false, beq_self_eq_true, Option.getD_some, Nat.zero_add, Nat.add_zero, storeOp, storeCell, overlay, List.take_nil, List.drop_nil, List.append_nil, lookupOp, keyT, okRes, mapUpdateOp, Bool.and_self, Bool.and_true, Bool.true_and, Bool.not_true, Bool.not_false, gt_iff_lt, ge_iff_le, Nat.reduceSub, Nat.reduceAdd, Int.reduceLT, Int.reduceLE, Int.reduceAdd, Int.reduceSub, Int.reduceToNat, Int.reduceBEq, Int.reduceBNe, Int.reduceMul, Nat.reduceBEq, Nat.reduceBNe, Nat.reduceLT, Nat.reduceLeDiff, Nat.reduceMul, Nat.reduceEqDiff, WD, effB, effH, isPriv, isHeap, isImm, Option.any_some, Option.any_none, Option.isSome_none, chkO, setD, dslot, Bool.toNat_true, Bool.toNat_false, Nat.add_zero, Nat.zero_add, List.append_eq, and_self, ptrCells_some, F32, hb1, hx1.shutIn, hx1.len, by8_len, alts32_7, size_len, hg])
      | (have hqlt := (List.getElem?_eq_some_iff.1 hcq).1
         have hg : decide (((p + D.length : Nat) : Int) < (L.length : Int)) = true := decide_eq_true (by omega)
         have hc8 : (by8 L)[p + D.length]? = some (byteV cq) := by simp [by8, hcq]
         have hat := hx1.at_ (sz := 1) hc8 rfl
         simp only [WW, partV, eqCells, eqLf, minV, maxV, ifcV, List.map_cons, List.map_nil, List.length_cons, List.length_nil, List.getD_cons_zero, List.getD_cons_succ, List.set_cons_zero, List.set_cons_succ, List.set_nil, ofConst, ofConst1, List.replicate, List.cons_append, List.nil_append, loadOp, Go.Abs.loadCells, binV, Int.toNat_natCast, pickV, List.getElem?_cons_zero, List.getElem?_cons_succ, Option.map_some, Option.bind_some, List.drop_zero, List.drop_succ_cons, List.take_succ_cons, List.take_zero, List.length_map, outR, resAll, resOne, if_true, if_false, and_true, true_and, Bool.true_eq_false, Bool.false_eq_true, forall_const, true_implies, false_implies, implies_true, decide_true, decide_false, beq_self_eq_true, Option.getD_some, Nat.zero_add, Nat.add_zero, storeOp, storeCell, overlay, List.take_nil, List.drop_nil, List.append_nil, lookupOp, keyT, okRes, mapUpdateOp, Bool.and_self, Bool.and_true, Bool.true_and, Bool.not_true, Bool.not_false, gt_iff_lt, ge_iff_le, Nat.reduceSub, Nat.reduceAdd, Int.reduceLT, Int.reduceLE, Int.reduceAdd, Int.reduceSub, Int.reduceToNat, Int.reduceBEq, Int.reduceBNe, Int.reduceMul, Nat.reduceBEq, Nat.reduceBNe, Nat.reduceLT, Nat.reduceLeDiff, Nat.reduceMul, Nat.reduceEqDiff, WD, effB, effH, isPriv, isHeap, isImm, Option.any_some, Option.any_none, Option.isSome_none, chkO, setD, dslot, Bool.toNat_true, Bool.toNat_false, Nat.add_zero, Nat.zero_add, List.append_eq, and_self, ptrCells_some, F32, hb1, hx1.shutIn, hx1.len, by8_len, alts32_7, size_len, hg, hat.at1 hx1, hat.cells, byteV]
         rw [wpCall_eq (letter_eq _ _)]
         simp only [WW, partV, eqCells, eqLf, minV, maxV, ifcV, List.map_cons, List.map_nil, List.length_cons, List.length_nil, List.getD_cons_zero, List.getD_cons_succ, List.set_cons_zero, List.set_cons_succ, List.set_nil, ofConst, ofConst1, List.replicate, List.cons_append, List.nil_append, loadOp, Go.Abs.loadCells, binV, Int.toNat_natCast, pickV, List.getElem?_cons_zero, List.getElem?_cons_succ, Option.map_some, Option.bind_some, List.drop_zero, List.drop_succ_cons, List.take_succ_cons, List.take_zero, List.length_map, outR, resAll, resOne, if_true, if_false, and_true, true_and, Bool.true_eq_false, Bool.false_eq_true, forall_const, true_implies, false_implies, implies_true, decide_true, decide_false, beq_self_eq_true, Option.getD_some, Nat.zero_add, Nat.add_zero, storeOp, storeCell, overlay, List.take_nil, List.drop_nil, List.append_nil, lookupOp, keyT, okRes, mapUpdateOp, Bool.and_self, Bool.and_true, Bool.true_and, Bool.not_true, Bool.not_false, gt_iff_lt, ge_iff_le, Nat.reduceSub, Nat.reduceAdd, Int.reduceLT, Int.reduceLE, Int.reduceAdd, Int.reduceSub, Int.reduceToNat, Int.reduceBEq, Int.reduceBNe, Int.reduceMul, Nat.reduceBEq, Nat.reduceBNe, Nat.reduceLT, Nat.reduceLeDiff, Nat.reduceMul, Nat.reduceEqDiff, WD, effB, effH, isPriv, isHeap, isImm, Option.any_some, Option.any_none, Option.isSome_none, chkO, setD, dslot, Bool.toNat_true, Bool.toNat_false, Nat.add_zero, Nat.zero_add, List.append_eq, and_self, ptrCells_some, F32, hb1, hx1.shutIn, hx1.len, by8_len, alts32_7, size_len, hg, hat.at1 hx1, hat.cells, byteV, hlet])
    all_goals refine wC_loop _ (fun q st' H' => ∃ k t : Nat, st' = ⟨L32_10 (.v (.ptr w 0 0)) (.box 0) (.box 1) (.v (.int .i64 (p : Int))) (.v (.str ⟨D.toArray⟩)) (.v (.int .i64 (D.length : Int))) (.v (.int .i64 (k : Int))), [[.int .i64 0, .str ByteArray.empty, .int .i64 0, .int .i64 0], [.int .i64 3, .str ByteArray.empty, .int .i64 (t : Int), .int .i64 (p : Int)]], []⟩ ∧ H' = H1 ∧ q = D.length - k ∧ k ≤ D.length ∧ numR t (D.drop k) = numR 0 D ∧ t ≤ 2305843009213693951) D.length ⟨0, 0, ?_, rfl, rfl, Nat.zero_le _, rfl, by omega⟩ ?_
    all_goals first
      | (simp only [WN, firstReg, growAll, List.foldl_nil, List.foldl_cons, norm, killS, List.set_cons_zero, List.set_cons_succ, List.map_cons, List.map_nil, List.take_nil, List.take_zero, List.length_nil, growOne, List.getD_cons_zero, List.getD_cons_succ, List.length_cons, List.take_succ_cons, List.nil_append, Nat.reduceLT, Nat.reduceAdd, Nat.zero_add, if_true, F32, L32_10]
         rfl)
      | skip
    all_goals
      rintro q st' H' ⟨k, t, rfl, rfl, rfl, hk, hnum, ht⟩
      simp only [L32_10]
      simp only [WW, partV, eqCells, eqLf, minV, maxV, ifcV, List.map_cons, List.map_nil, List.length_cons, List.length_nil, List.getD_cons_zero, List.getD_cons_succ, List.set_cons_zero, List.set_cons_succ, List.set_nil, ofConst, ofConst1, List.replicate, List.cons_append, List.nil_append, loadOp, Go.Abs.loadCells, binV, Int.toNat_natCast, pickV, List.getElem?_cons_zero, List.getElem?_cons_succ, Option.map_some, Option.bind_some, List.drop_zero, List.drop_succ_cons, List.take_succ_cons, List.take_zero, List.length_map, outR, resAll, resOne, if_true, if_false, and_true, true_and, Bool.true_eq_false, Bool.false_eq_true, forall_const, true_implies, false_implies, implies_true, decide_true, decide_false, beq_self_eq_true, Option.getD_some, Nat.zero_add, Nat.add_zero, storeOp, storeCell, overlay, List.take_nil, List.drop_nil, List.append_nil, lookupOp, keyT, okRes, mapUpdateOp, Bool.and_self, Bool.and_true, Bool.true_and, Bool.not_true, Bool.not_false, gt_iff_lt, ge_iff_le, Nat.reduceSub, Nat.reduceAdd, Int.reduceLT, Int.reduceLE, Int.reduceAdd, Int.reduceSub, Int.reduceToNat, Int.reduceBEq, Int.reduceBNe, Int.reduceMul, Nat.reduceBEq, Nat.reduceBNe, Nat.reduceLT, Nat.reduceLeDiff, Nat.reduceMul, Nat.reduceEqDiff, WD, effB, effH, isPriv, isHeap, isImm, Option.any_some, Option.any_none, Option.isSome_none, chkO, setD, dslot, Bool.toNat_true, Bool.toNat_false, Nat.add_zero, Nat.zero_add, List.append_eq, and_self, ptrCells_some, F32]
      refine cSplit (fun glt => ?_) (fun gge => ?_)
      · have hk2 : k < D.length := by have := of_decide_eq_true glt; omega
        have hc : D[k]? = some D[k] := List.getElem?_eq_getElem hk2
        have hdc := hd D[k] (List.getElem_mem hk2)
        generalize D[k] = c at hc hdc
        have hc48 : 48 ≤ c.toNat ∧ c.toNat ≤ 57 := by simp only [digitB, Bool.and_eq_true, decide_eq_true_eq] at hdc; omega
        have hd1 : IntKind.u8.wrap (((c.toNat : Nat) : Int) - 48) = ((dig c : Nat) : Int) := by simp [IntKind.wrap, IntKind.bits, IntKind.signed, dig]; omega
        have hd2 : IntKind.i64.wrap ((dig c : Nat) : Int) = ((dig c : Nat) : Int) := IntWalk.i64_in _ (by simp only [dig]; omega)
        have hdg : dig c ≤ 9 := by simp only [dig]; omega
        have hd3 : IntKind.i64.wrap (2305843009213693951 - ((dig c : Nat) : Int)) = ((2305843009213693951 - dig c : Nat) : Int) := by rw [IntWalk.i64_in _ (by omega)]; omega
        have hd4 : IntKind.i64.wrap (((2305843009213693951 - dig c : Nat) : Int).tdiv 10) = (((2305843009213693951 - dig c) / 10 : Nat) : Int) := by
          rw [show ((2305843009213693951 - dig c : Nat) : Int).tdiv 10 = (((2305843009213693951 - dig c) / 10 : Nat) : Int) by rw [Int.tdiv_eq_ediv_of_nonneg (by omega)]; norm_cast]
          exact IntWalk.i64_in _ (by omega)
        rw [drop_cons hc, numR] at hnum
        simp only [glt]
        have h100 : ¬ ((10 : Int) = 0) := by decide
        simp only [WW, partV, eqCells, eqLf, minV, maxV, ifcV, List.map_cons, List.map_nil, List.length_cons, List.length_nil, List.getD_cons_zero, List.getD_cons_succ, List.set_cons_zero, List.set_cons_succ, List.set_nil, ofConst, ofConst1, List.replicate, List.cons_append, List.nil_append, loadOp, Go.Abs.loadCells, binV, Int.toNat_natCast, pickV, List.getElem?_cons_zero, List.getElem?_cons_succ, Option.map_some, Option.bind_some, List.drop_zero, List.drop_succ_cons, List.take_succ_cons, List.take_zero, List.length_map, outR, resAll, resOne, if_true, if_false, and_true, true_and, Bool.true_eq_false, Bool.false_eq_true, forall_const, true_implies, false_implies, implies_true, decide_true, decide_false, beq_self_eq_true, Option.getD_some, Nat.zero_add, Nat.add_zero, storeOp, storeCell, overlay, List.take_nil, List.drop_nil, List.append_nil, lookupOp, keyT, okRes, mapUpdateOp, Bool.and_self, Bool.and_true, Bool.true_and, Bool.not_true, Bool.not_false, gt_iff_lt, ge_iff_le, Nat.reduceSub, Nat.reduceAdd, Int.reduceLT, Int.reduceLE, Int.reduceAdd, Int.reduceSub, Int.reduceToNat, Int.reduceBEq, Int.reduceBNe, Int.reduceMul, Nat.reduceBEq, Nat.reduceBNe, Nat.reduceLT, Nat.reduceLeDiff, Nat.reduceMul, Nat.reduceEqDiff, WD, effB, effH, isPriv, isHeap, isImm, Option.any_some, Option.any_none, Option.isSome_none, chkO, setD, dslot, Bool.toNat_true, Bool.toNat_false, Nat.add_zero, Nat.zero_add, List.append_eq, and_self, ptrCells_some, F32, hc, hd1, hd2, hd3, hd4, convertOp, h100, if_false, storeCell, overlay]
        refine cSplit (fun gov => ?_) (fun gov => ?_)
        · have hov : (2305843009213693951 - dig c) / 10 < t := by have := of_decide_eq_true gov; omega
          rw [if_pos hov] at hnum
          simp only [gov]
          simp only [WW, partV, eqCells, eqLf, minV, maxV, ifcV, List.map_cons, List.map_nil, List.length_cons, List.length_nil, List.getD_cons_zero, List.getD_cons_succ, List.set_cons_zero, List.set_cons_succ, List.set_nil, ofConst, ofConst1, List.replicate, List.cons_append, List.nil_append, loadOp, Go.Abs.loadCells, binV, Int.toNat_natCast, pickV, List.getElem?_cons_zero, List.getElem?_cons_succ, Option.map_some, Option.bind_some, List.drop_zero, List.drop_succ_cons, List.take_succ_cons, List.take_zero, List.length_map, outR, resAll, resOne, if_true, if_false, and_true, true_and, Bool.true_eq_false, Bool.false_eq_true, forall_const, true_implies, false_implies, implies_true, decide_true, decide_false, beq_self_eq_true, Option.getD_some, Nat.zero_add, Nat.add_zero, storeOp, storeCell, overlay, List.take_nil, List.drop_nil, List.append_nil, lookupOp, keyT, okRes, mapUpdateOp, Bool.and_self, Bool.and_true, Bool.true_and, Bool.not_true, Bool.not_false, gt_iff_lt, ge_iff_le, Nat.reduceSub, Nat.reduceAdd, Int.reduceLT, Int.reduceLE, Int.reduceAdd, Int.reduceSub, Int.reduceToNat, Int.reduceBEq, Int.reduceBNe, Int.reduceMul, Nat.reduceBEq, Nat.reduceBNe, Nat.reduceLT, Nat.reduceLeDiff, Nat.reduceMul, Nat.reduceEqDiff, WD, effB, effH, isPriv, isHeap, isImm, Option.any_some, Option.any_none, Option.isSome_none, chkO, setD, dslot, Bool.toNat_true, Bool.toNat_false, Nat.add_zero, Nat.zero_add, List.append_eq, and_self, ptrCells_some, F32, hb1, storeHeap, promote, heapSet, elemSet, storeCell, overlay]
          rw [← hnum]
          exact ⟨⟨⟨3, [], t, p⟩, rfl⟩, hset1 _⟩
        · have hov : ¬ (2305843009213693951 - dig c) / 10 < t := by have := of_decide_eq_false gov; omega
          rw [if_neg hov] at hnum
          simp only [gov]
          have hm1 : IntKind.i64.wrap (10 * (t : Int)) = ((10 * t : Nat) : Int) := by rw [IntWalk.i64_in _ (by omega)]; omega
          have hm2 : IntKind.i64.wrap (((10 * t : Nat) : Int) + ((dig c : Nat) : Int)) = ((10 * t + dig c : Nat) : Int) := by rw [IntWalk.i64_in _ (by omega)]; omega
          have hk1 : IntKind.i64.wrap ((k : Int) + 1) = ((k + 1 : Nat) : Int) := by rw [IntWalk.i64_in _ (by omega)]; omega
          simp only [WW, partV, eqCells, eqLf, minV, maxV, ifcV, List.map_cons, List.map_nil, List.length_cons, List.length_nil, List.getD_cons_zero, List.getD_cons_succ, List.set_cons_zero, List.set_cons_succ, List.set_nil, ofConst, ofConst1, List.replicate, List.cons_append, List.nil_append, loadOp, Go.Abs.loadCells, binV, Int.toNat_natCast, pickV, List.getElem?_cons_zero, List.getElem?_cons_succ, Option.map_some, Option.bind_some, List.drop_zero, List.drop_succ_cons, List.take_succ_cons, List.take_zero, List.length_map, outR, resAll, resOne, if_true, if_false, and_true, true_and, Bool.true_eq_false, Bool.false_eq_true, forall_const, true_implies, false_implies, implies_true, decide_true, decide_false, beq_self_eq_true, Option.getD_some, Nat.zero_add, Nat.add_zero, storeOp, storeCell, overlay, List.take_nil, List.drop_nil, List.append_nil, lookupOp, keyT, okRes, mapUpdateOp, Bool.and_self, Bool.and_true, Bool.true_and, Bool.not_true, Bool.not_false, gt_iff_lt, ge_iff_le, Nat.reduceSub, Nat.reduceAdd, Int.reduceLT, Int.reduceLE, Int.reduceAdd, Int.reduceSub, Int.reduceToNat, Int.reduceBEq, Int.reduceBNe, Int.reduceMul, Nat.reduceBEq, Nat.reduceBNe, Nat.reduceLT, Nat.reduceLeDiff, Nat.reduceMul, Nat.reduceEqDiff, WD, effB, effH, isPriv, isHeap, isImm, Option.any_some, Option.any_none, Option.isSome_none, chkO, setD, dslot, Bool.toNat_true, Bool.toNat_false, Nat.add_zero, Nat.zero_add, List.append_eq, and_self, ptrCells_some, F32, hm1, hm2, hk1, storeCell, overlay]
          refine ⟨D.length - (k + 1), by omega, k + 1, 10 * t + dig c, ?_, rfl, by omega, hnum, by omega⟩
          try simp only [WW, partV, eqCells, eqLf, minV, maxV, ifcV, List.map_cons, List.map_nil, List.length_cons, List.length_nil, List.getD_cons_zero, List.getD_cons_succ, List.set_cons_zero, List.set_cons_succ, List.set_nil, ofConst, ofConst1, List.replicate, List.cons_append, List.nil_append, loadOp, Go.Abs.loadCells, binV, Int.toNat_natCast, pickV, List.getElem?_cons_zero, List.getElem?_cons_succ, Option.map_some, Option.bind_some, List.drop_zero, List.drop_succ_cons, List.take_succ_cons, List.take_zero, List.length_map, outR, resAll, resOne, if_true, if_false, and_true, true_and, Bool.true_eq_false, Bool.false_eq_true, forall_const, true_implies, false_implies, implies_true, decide_true, decide_false, beq_self_eq_true, Option.getD_some, Nat.zero_add, Nat.add_zero, storeOp, storeCell, overlay, List.take_nil, List.drop_nil, List.append_nil, lookupOp, keyT, okRes, mapUpdateOp, Bool.and_self, Bool.and_true, Bool.true_and, Bool.not_true, Bool.not_false, gt_iff_lt, ge_iff_le, Nat.reduceSub, Nat.reduceAdd, Int.reduceLT, Int.reduceLE, Int.reduceAdd, Int.reduceSub, Int.reduceToNat, Int.reduceBEq, Int.reduceBNe, Int.reduceMul, Nat.reduceBEq, Nat.reduceBNe, Nat.reduceLT, Nat.reduceLeDiff, Nat.reduceMul, Nat.reduceEqDiff, F32, hk1]
          simp only [WN, firstReg, growAll, List.foldl_nil, List.foldl_cons, norm, killS, List.set_cons_zero, List.set_cons_succ, List.map_cons, List.map_nil, List.take_nil, List.take_zero, List.length_nil, growOne, List.getD_cons_zero, List.getD_cons_succ, List.length_cons, List.take_succ_cons, List.nil_append, Nat.reduceLT, Nat.reduceAdd, Nat.zero_add, if_true, F32, hk1]
          try rfl
      · have hk2 : k = D.length := by have := of_decide_eq_false gge; omega
        simp only [gge]
        rw [hk2, List.drop_of_length_le (Nat.le_refl _), numR] at hnum
        simp only [WW, partV, eqCells, eqLf, minV, maxV, ifcV, List.map_cons, List.map_nil, List.length_cons, List.length_nil, List.getD_cons_zero, List.getD_cons_succ, List.set_cons_zero, List.set_cons_succ, List.set_nil, ofConst, ofConst1, List.replicate, List.cons_append, List.nil_append, loadOp, Go.Abs.loadCells, binV, Int.toNat_natCast, pickV, List.getElem?_cons_zero, List.getElem?_cons_succ, Option.map_some, Option.bind_some, List.drop_zero, List.drop_succ_cons, List.take_succ_cons, List.take_zero, List.length_map, outR, resAll, resOne, if_true, if_false, and_true, true_and, Bool.true_eq_false, Bool.false_eq_true, forall_const, true_implies, false_implies, implies_true, decide_true, decide_false, beq_self_eq_true, Option.getD_some, Nat.zero_add, Nat.add_zero, storeOp, storeCell, overlay, List.take_nil, List.drop_nil, List.append_nil, lookupOp, keyT, okRes, mapUpdateOp, Bool.and_self, Bool.and_true, Bool.true_and, Bool.not_true, Bool.not_false, gt_iff_lt, ge_iff_le, Nat.reduceSub, Nat.reduceAdd, Int.reduceLT, Int.reduceLE, Int.reduceAdd, Int.reduceSub, Int.reduceToNat, Int.reduceBEq, Int.reduceBNe, Int.reduceMul, Nat.reduceBEq, Nat.reduceBNe, Nat.reduceLT, Nat.reduceLeDiff, Nat.reduceMul, Nat.reduceEqDiff, WD, effB, effH, isPriv, isHeap, isImm, Option.any_some, Option.any_none, Option.isSome_none, chkO, setD, dslot, Bool.toNat_true, Bool.toNat_false, Nat.add_zero, Nat.zero_add, List.append_eq, and_self, ptrCells_some, F32, storeCell, overlay]
        rw [← hnum]
        exact ⟨rfl, by rw [← hset1]; exact hself.symm⟩
/-! ### the token that begins here -/
theorem nx_tok {H : Hp} {w p : Nat} {x : V} {nx : Nx} {out : Out} {H' : Hp} (h : nxR H w x p nx out H') : ∃ (t : Tk) (e : Nat), out = .ret (.tup [tokV t, .int .i64 e]) false := by
  cases nx with
  | tok k t n len => exact ⟨_, 0, h.1⟩
  | bad e off => obtain ⟨⟨t, h⟩, _⟩ := h; exact ⟨t, e, h⟩
theorem next_spec {H : Hp} {w : Nat} {x : V} {L : List UInt8} {p : Nat} {c : UInt8} {r : List UInt8} (hB : By H w x L) (hC : Ct H w x p) (hcr : L.drop p = c :: r) (hL : L.length ≤ 65536) :
    wpCall EW 21 [.ptr w 0 0] H (nxR H w x p (nextS (c :: r))) := by
  have hp : p < L.length := by
    have := congrArg List.length hcr
    simp at this; omega
  have hc : L[p]? = some c := by
    have : (L.drop p)[0]? = some c := by rw [hcr]; rfl
    simpa using this
  have hc8 : (by8 L)[p]? = some (byteV c) := by simp [by8, hc]
  have hx := hB.rd
  have hat := hx.at_ (sz := 1) hc8 rfl
  have hb : H[w]? = some (.cells [.agg [x, .int .i64 (p : Int)]]) := hC
  have e34 : (((c.toNat : Nat) : Int) == 34) = (c == 34) := u8b c 34
  refine runs f21 b21 r21 n21 _ _ ?_
  simp only [bodyOf, Tryd.f21, Option.getD_some]
  simp only [WW, partV, eqCells, eqLf, minV, maxV, ifcV, List.map_cons, List.map_nil, List.length_cons, List.length_nil, List.getD_cons_zero, List.getD_cons_succ, List.set_cons_zero, List.set_cons_succ, List.set_nil, ofConst, ofConst1, List.replicate, List.cons_append, List.nil_append, loadOp, Go.Abs.loadCells, binV, Int.toNat_natCast, pickV, List.getElem?_cons_zero, List.getElem?_cons_succ, Option.map_some, Option.bind_some, List.drop_zero, List.drop_succ_cons, List.take_succ_cons, List.take_zero, List.length_map, outR, resAll, resOne, if_true, if_false, and_true, true_and, Bool.true_eq_false, Bool.false_eq_true, forall_const, true_implies, false_implies, implies_true, decide_true, decide_false, beq_self_eq_true, Option.getD_some, Nat.zero_add, Nat.add_zero, storeOp, storeCell, overlay, List.take_nil, List.drop_nil, List.append_nil, lookupOp, keyT, okRes, mapUpdateOp, Bool.and_self, Bool.and_true, Bool.true_and, Bool.not_true, Bool.not_false, gt_iff_lt, ge_iff_le, Nat.reduceSub, Nat.reduceAdd, Int.reduceLT, Int.reduceLE, Int.reduceAdd, Int.reduceSub, Int.reduceToNat, Int.reduceBEq, Int.reduceBNe, Int.reduceMul, Nat.reduceBEq, Nat.reduceBNe, Nat.reduceLT, Nat.reduceLeDiff, Nat.reduceMul, Nat.reduceEqDiff, WD, effB, effH, isPriv, isHeap, isImm, Option.any_some, Option.any_none, Option.isSome_none, chkO, setD, dslot, Bool.toNat_true, Bool.toNat_false, Nat.add_zero, Nat.zero_add, List.append_eq, and_self, ptrCells_some, F21]
  refine wC_dr alts21_1 (by kernel_rfl) ?_
  simp only [WW, partV, eqCells, eqLf, minV, maxV, ifcV, List.map_cons, List.map_nil, List.length_cons, List.length_nil, List.getD_cons_zero, List.getD_cons_succ, List.set_cons_zero, List.set_cons_succ, List.set_nil, ofConst, ofConst1, List.replicate, List.cons_append, List.nil_append, loadOp, Go.Abs.loadCells, binV, Int.toNat_natCast, pickV, List.getElem?_cons_zero, List.getElem?_cons_succ, Option.map_some, Option.bind_some, List.drop_zero, List.drop_succ_cons, List.take_succ_cons, List.take_zero, List.length_map, outR, resAll, resOne, if_true, if_false, and_true, true_and, Bool.true_eq_false, Bool.false_eq_true, forall_const, true_implies, false_implies, implies_true, decide_true, decide_false, beq_self_eq_true, Option.getD_some, Nat.zero_add, Nat.add_zero, storeOp, storeCell, overlay, List.take_nil, List.drop_nil, List.append_nil, lookupOp, keyT, okRes, mapUpdateOp, Bool.and_self, Bool.and_true, Bool.true_and, Bool.not_true, Bool.not_false, gt_iff_lt, ge_iff_le, Nat.reduceSub, Nat.reduceAdd, Int.reduceLT, Int.reduceLE, Int.reduceAdd, Int.reduceSub, Int.reduceToNat, Int.reduceBEq, Int.reduceBNe, Int.reduceMul, Nat.reduceBEq, Nat.reduceBNe, Nat.reduceLT, Nat.reduceLeDiff, Nat.reduceMul, Nat.reduceEqDiff, WD, effB, effH, isPriv, isHeap, isImm, Option.any_some, Option.any_none, Option.isSome_none, chkO, setD, dslot, Bool.toNat_true, Bool.toNat_false, Nat.add_zero, Nat.zero_add, List.append_eq, and_self, ptrCells_some, F21, hb, hx.shutIn, hat.at1 hx, hat.cells, byteV, alts21_1]
  rw [wpCall_eq (letter_eq _ _)]
  cases hl : letterB c.toNat with
  | true =>
    simp only [WW, partV, eqCells, eqLf, minV, maxV, ifcV, List.map_cons, List.map_nil, List.length_cons, List.length_nil, List.getD_cons_zero, List.getD_cons_succ, List.set_cons_zero, List.set_cons_succ, List.set_nil, ofConst, ofConst1, List.replicate, List.cons_append, List.nil_append, loadOp, Go.Abs.loadCells, binV, Int.toNat_natCast, pickV, List.getElem?_cons_zero, List.getElem?_cons_succ, Option.map_some, Option.bind_some, List.drop_zero, List.drop_succ_cons, List.take_succ_cons, List.take_zero, List.length_map, outR, resAll, resOne, if_true, if_false, and_true, true_and, Bool.true_eq_false, Bool.false_eq_true, forall_const, true_implies, false_implies, implies_true, decide_true, decide_false, beq_self_eq_true, Option.getD_some, Nat.zero_add, Nat.add_zero, storeOp, storeCell, overlay, List.take_nil, List.drop_nil, List.append_nil, lookupOp, keyT, okRes, mapUpdateOp, Bool.and_self, Bool.and_true, Bool.true_and, Bool.not_true, Bool.not_false, gt_iff_lt, ge_iff_le, Nat.reduceSub, Nat.reduceAdd, Int.reduceLT, Int.reduceLE, Int.reduceAdd, Int.reduceSub, Int.reduceToNat, Int.reduceBEq, Int.reduceBNe, Int.reduceMul, Nat.reduceBEq, Nat.reduceBNe, Nat.reduceLT, Nat.reduceLeDiff, Nat.reduceMul, Nat.reduceEqDiff, WD, effB, effH, isPriv, isHeap, isImm, Option.any_some, Option.any_none, Option.isSome_none, chkO, setD, dslot, Bool.toNat_true, Bool.toNat_false, Nat.add_zero, Nat.zero_add, List.append_eq, and_self, ptrCells_some, F21, hl]
    refine wpCall_of (name_spec hB hC (by omega) hL) ?_
    rintro out H1 ⟨rfl, rfl⟩
    rw [hcr]
    have hn : nextS (c :: r) = nameS (c :: r) := by simp only [nextS]; rw [if_pos hl]
    rw [hn]
    unfold nameS
    generalize (c :: r).takeWhile nameC = D
    simp only [tokV]
    simp only [WW, partV, eqCells, eqLf, minV, maxV, ifcV, List.map_cons, List.map_nil, List.length_cons, List.length_nil, List.getD_cons_zero, List.getD_cons_succ, List.set_cons_zero, List.set_cons_succ, List.set_nil, ofConst, ofConst1, List.replicate, List.cons_append, List.nil_append, loadOp, Go.Abs.loadCells, binV, Int.toNat_natCast, pickV, List.getElem?_cons_zero, List.getElem?_cons_succ, Option.map_some, Option.bind_some, List.drop_zero, List.drop_succ_cons, List.take_succ_cons, List.take_zero, List.length_map, outR, resAll, resOne, if_true, if_false, and_true, true_and, Bool.true_eq_false, Bool.false_eq_true, forall_const, true_implies, false_implies, implies_true, decide_true, decide_false, beq_self_eq_true, Option.getD_some, Nat.zero_add, Nat.add_zero, storeOp, storeCell, overlay, List.take_nil, List.drop_nil, List.append_nil, lookupOp, keyT, okRes, mapUpdateOp, Bool.and_self, Bool.and_true, Bool.true_and, Bool.not_true, Bool.not_false, gt_iff_lt, ge_iff_le, Nat.reduceSub, Nat.reduceAdd, Int.reduceLT, Int.reduceLE, Int.reduceAdd, Int.reduceSub, Int.reduceToNat, Int.reduceBEq, Int.reduceBNe, Int.reduceMul, Nat.reduceBEq, Nat.reduceBNe, Nat.reduceLT, Nat.reduceLeDiff, Nat.reduceMul, Nat.reduceEqDiff, WD, effB, effH, isPriv, isHeap, isImm, Option.any_some, Option.any_none, Option.isSome_none, chkO, setD, dslot, Bool.toNat_true, Bool.toNat_false, Nat.add_zero, Nat.zero_add, List.append_eq, and_self, ptrCells_some, F21, storeCell, overlay]
    exact ⟨rfl, rfl⟩
  | false =>
    simp only [WW, partV, eqCells, eqLf, minV, maxV, ifcV, List.map_cons, List.map_nil, List.length_cons, List.length_nil, List.getD_cons_zero, List.getD_cons_succ, List.set_cons_zero, List.set_cons_succ, List.set_nil, ofConst, ofConst1, List.replicate, List.cons_append, List.nil_append, loadOp, Go.Abs.loadCells, binV, Int.toNat_natCast, pickV, List.getElem?_cons_zero, List.getElem?_cons_succ, Option.map_some, Option.bind_some, List.drop_zero, List.drop_succ_cons, List.take_succ_cons, List.take_zero, List.length_map, outR, resAll, resOne, if_true, if_false, and_true, true_and, Bool.true_eq_false, Bool.false_eq_true, forall_const, true_implies, false_implies, implies_true, decide_true, decide_false, beq_self_eq_true, Option.getD_some, Nat.zero_add, Nat.add_zero, storeOp, storeCell, overlay, List.take_nil, List.drop_nil, List.append_nil, lookupOp, keyT, okRes, mapUpdateOp, Bool.and_self, Bool.and_true, Bool.true_and, Bool.not_true, Bool.not_false, gt_iff_lt, ge_iff_le, Nat.reduceSub, Nat.reduceAdd, Int.reduceLT, Int.reduceLE, Int.reduceAdd, Int.reduceSub, Int.reduceToNat, Int.reduceBEq, Int.reduceBNe, Int.reduceMul, Nat.reduceBEq, Nat.reduceBNe, Nat.reduceLT, Nat.reduceLeDiff, Nat.reduceMul, Nat.reduceEqDiff, WD, effB, effH, isPriv, isHeap, isImm, Option.any_some, Option.any_none, Option.isSome_none, chkO, setD, dslot, Bool.toNat_true, Bool.toNat_false, Nat.add_zero, Nat.zero_add, List.append_eq, and_self, ptrCells_some, F21, hl]
    rw [wpCall_eq (digit_eq _ _)]
    cases hd : digitB c.toNat with
    | true =>
      simp only [WW, partV, eqCells, eqLf, minV, maxV, ifcV, List.map_cons, List.map_nil, List.length_cons, List.length_nil, List.getD_cons_zero, List.getD_cons_succ, List.set_cons_zero, List.set_cons_succ, List.set_nil, ofConst, ofConst1, List.replicate, List.cons_append, List.nil_append, loadOp, Go.Abs.loadCells, binV, Int.toNat_natCast, pickV, List.getElem?_cons_zero, List.getElem?_cons_succ, Option.map_some, Option.bind_some, List.drop_zero, List.drop_succ_cons, List.take_succ_cons, List.take_zero, List.length_map, outR, resAll, resOne, if_true, if_false, and_true, true_and, Bool.true_eq_false, Bool.false_eq_true, forall_const, true_implies, false_implies, implies_true, decide_true, decide_false, beq_self_eq_true, Option.getD_some, Nat.zero_add, Nat.add_zero, storeOp, storeCell, overlay, List.take_nil, List.drop_nil, List.append_nil, lookupOp, keyT, okRes, mapUpdateOp, Bool.and_self, Bool.and_true, Bool.true_and, Bool.not_true, Bool.not_false, gt_iff_lt, ge_iff_le, Nat.reduceSub, Nat.reduceAdd, Int.reduceLT, Int.reduceLE, Int.reduceAdd, Int.reduceSub, Int.reduceToNat, Int.reduceBEq, Int.reduceBNe, Int.reduceMul, Nat.reduceBEq, Nat.reduceBNe, Nat.reduceLT, Nat.reduceLeDiff, Nat.reduceMul, Nat.reduceEqDiff, WD, effB, effH, isPriv, isHeap, isImm, Option.any_some, Option.any_none, Option.isSome_none, chkO, setD, dslot, Bool.toNat_true, Bool.toNat_false, Nat.add_zero, Nat.zero_add, List.append_eq, and_self, ptrCells_some, F21, hd]
      refine wpCall_of (number_spec hB hC hcr hd hL) ?_
      intro out H1 hres
      have hn : nextS (c :: r) = numS (c :: r) := by simp only [nextS]; rw [if_neg (by simp [hl]), if_pos hd]
      rw [hn]
      obtain ⟨t, e, ho⟩ := nx_tok hres
      subst ho
      simp only [tokV]
      simp only [WW, partV, eqCells, eqLf, minV, maxV, ifcV, List.map_cons, List.map_nil, List.length_cons, List.length_nil, List.getD_cons_zero, List.getD_cons_succ, List.set_cons_zero, List.set_cons_succ, List.set_nil, ofConst, ofConst1, List.replicate, List.cons_append, List.nil_append, loadOp, Go.Abs.loadCells, binV, Int.toNat_natCast, pickV, List.getElem?_cons_zero, List.getElem?_cons_succ, Option.map_some, Option.bind_some, List.drop_zero, List.drop_succ_cons, List.take_succ_cons, List.take_zero, List.length_map, outR, resAll, resOne, if_true, if_false, and_true, true_and, Bool.true_eq_false, Bool.false_eq_true, forall_const, true_implies, false_implies, implies_true, decide_true, decide_false, beq_self_eq_true, Option.getD_some, Nat.zero_add, Nat.add_zero, storeOp, storeCell, overlay, List.take_nil, List.drop_nil, List.append_nil, lookupOp, keyT, okRes, mapUpdateOp, Bool.and_self, Bool.and_true, Bool.true_and, Bool.not_true, Bool.not_false, gt_iff_lt, ge_iff_le, Nat.reduceSub, Nat.reduceAdd, Int.reduceLT, Int.reduceLE, Int.reduceAdd, Int.reduceSub, Int.reduceToNat, Int.reduceBEq, Int.reduceBNe, Int.reduceMul, Nat.reduceBEq, Nat.reduceBNe, Nat.reduceLT, Nat.reduceLeDiff, Nat.reduceMul, Nat.reduceEqDiff, WD, effB, effH, isPriv, isHeap, isImm, Option.any_some, Option.any_none, Option.isSome_none, chkO, setD, dslot, Bool.toNat_true, Bool.toNat_false, Nat.add_zero, Nat.zero_add, List.append_eq, and_self, ptrCells_some, F21, storeCell, overlay]
      exact hres
    | false =>
      cases h34 : (c == 34) with
      | true =>
        obtain rfl : c = 34 := by simpa using h34
        simp only [WW, partV, eqCells, eqLf, minV, maxV, ifcV, List.map_cons, List.map_nil, List.length_cons, List.length_nil, List.getD_cons_zero, List.getD_cons_succ, List.set_cons_zero, List.set_cons_succ, List.set_nil, ofConst, ofConst1, List.replicate, List.cons_append, List.nil_append, loadOp, Go.Abs.loadCells, binV, Int.toNat_natCast, pickV, List.getElem?_cons_zero, List.getElem?_cons_succ, Option.map_some, Option.bind_some, List.drop_zero, List.drop_succ_cons, List.take_succ_cons, List.take_zero, List.length_map, outR, resAll, resOne, if_true, if_false, and_true, true_and, Bool.true_eq_false, Bool.false_eq_true, forall_const, true_implies, false_implies, implies_true, decide_true, decide_false, beq_self_eq_true, Option.getD_some, Nat.zero_add, Nat.add_zero, storeOp, storeCell, overlay, List.take_nil, List.drop_nil, List.append_nil, lookupOp, keyT, okRes, mapUpdateOp, Bool.and_self, Bool.and_true, Bool.true_and, Bool.not_true, Bool.not_false, gt_iff_lt, ge_iff_le, Nat.reduceSub, Nat.reduceAdd, Int.reduceLT, Int.reduceLE, Int.reduceAdd, Int.reduceSub, Int.reduceToNat, Int.reduceBEq, Int.reduceBNe, Int.reduceMul, Nat.reduceBEq, Nat.reduceBNe, Nat.reduceLT, Nat.reduceLeDiff, Nat.reduceMul, Nat.reduceEqDiff, WD, effB, effH, isPriv, isHeap, isImm, Option.any_some, Option.any_none, Option.isSome_none, chkO, setD, dslot, Bool.toNat_true, Bool.toNat_false, Nat.add_zero, Nat.zero_add, List.append_eq, and_self, ptrCells_some, F21, hd, e34, h34]
        refine wpCall_of (text_spec hB hC hcr hL) ?_
        intro out H1 hres
        have hn : nextS (34 :: r) = textS r [] 1 := by simp only [nextS]; rw [if_neg (by decide), if_neg (by decide), if_pos trivial]
        rw [hn]
        obtain ⟨t, e, ho⟩ := nx_tok hres
        subst ho
        simp only [tokV]
        simp only [WW, partV, eqCells, eqLf, minV, maxV, ifcV, List.map_cons, List.map_nil, List.length_cons, List.length_nil, List.getD_cons_zero, List.getD_cons_succ, List.set_cons_zero, List.set_cons_succ, List.set_nil, ofConst, ofConst1, List.replicate, List.cons_append, List.nil_append, loadOp, Go.Abs.loadCells, binV, Int.toNat_natCast, pickV, List.getElem?_cons_zero, List.getElem?_cons_succ, Option.map_some, Option.bind_some, List.drop_zero, List.drop_succ_cons, List.take_succ_cons, List.take_zero, List.length_map, outR, resAll, resOne, if_true, if_false, and_true, true_and, Bool.true_eq_false, Bool.false_eq_true, forall_const, true_implies, false_implies, implies_true, decide_true, decide_false, beq_self_eq_true, Option.getD_some, Nat.zero_add, Nat.add_zero, storeOp, storeCell, overlay, List.take_nil, List.drop_nil, List.append_nil, lookupOp, keyT, okRes, mapUpdateOp, Bool.and_self, Bool.and_true, Bool.true_and, Bool.not_true, Bool.not_false, gt_iff_lt, ge_iff_le, Nat.reduceSub, Nat.reduceAdd, Int.reduceLT, Int.reduceLE, Int.reduceAdd, Int.reduceSub, Int.reduceToNat, Int.reduceBEq, Int.reduceBNe, Int.reduceMul, Nat.reduceBEq, Nat.reduceBNe, Nat.reduceLT, Nat.reduceLeDiff, Nat.reduceMul, Nat.reduceEqDiff, WD, effB, effH, isPriv, isHeap, isImm, Option.any_some, Option.any_none, Option.isSome_none, chkO, setD, dslot, Bool.toNat_true, Bool.toNat_false, Nat.add_zero, Nat.zero_add, List.append_eq, and_self, ptrCells_some, F21, storeCell, overlay]
        exact hres
      | false =>
        have n34 : c ≠ 34 := by simpa using h34
        simp only [WW, partV, eqCells, eqLf, minV, maxV, ifcV, List.map_cons, List.map_nil, List.length_cons, List.length_nil, List.getD_cons_zero, List.getD_cons_succ, List.set_cons_zero, List.set_cons_succ, List.set_nil, ofConst, ofConst1, List.replicate, List.cons_append, List.nil_append, loadOp, Go.Abs.loadCells, binV, Int.toNat_natCast, pickV, List.getElem?_cons_zero, List.getElem?_cons_succ, Option.map_some, Option.bind_some, List.drop_zero, List.drop_succ_cons, List.take_succ_cons, List.take_zero, List.length_map, outR, resAll, resOne, if_true, if_false, and_true, true_and, Bool.true_eq_false, Bool.false_eq_true, forall_const, true_implies, false_implies, implies_true, decide_true, decide_false, beq_self_eq_true, Option.getD_some, Nat.zero_add, Nat.add_zero, storeOp, storeCell, overlay, List.take_nil, List.drop_nil, List.append_nil, lookupOp, keyT, okRes, mapUpdateOp, Bool.and_self, Bool.and_true, Bool.true_and, Bool.not_true, Bool.not_false, gt_iff_lt, ge_iff_le, Nat.reduceSub, Nat.reduceAdd, Int.reduceLT, Int.reduceLE, Int.reduceAdd, Int.reduceSub, Int.reduceToNat, Int.reduceBEq, Int.reduceBNe, Int.reduceMul, Nat.reduceBEq, Nat.reduceBNe, Nat.reduceLT, Nat.reduceLeDiff, Nat.reduceMul, Nat.reduceEqDiff, WD, effB, effH, isPriv, isHeap, isImm, Option.any_some, Option.any_none, Option.isSome_none, chkO, setD, dslot, Bool.toNat_true, Bool.toNat_false, Nat.add_zero, Nat.zero_add, List.append_eq, and_self, ptrCells_some, F21, hd, e34, h34]
        refine wpCall_of (sign_spec hB hC hcr hL) ?_
        intro out H1 hres
        have hn : nextS (c :: r) = signS c r := by simp only [nextS]; rw [if_neg (by simp [hl]), if_neg (by simp [hd]), if_neg n34]
        rw [hn]
        obtain ⟨t, e, ho⟩ := nx_tok hres
        subst ho
        simp only [tokV]
        simp only [WW, partV, eqCells, eqLf, minV, maxV, ifcV, List.map_cons, List.map_nil, List.length_cons, List.length_nil, List.getD_cons_zero, List.getD_cons_succ, List.set_cons_zero, List.set_cons_succ, List.set_nil, ofConst, ofConst1, List.replicate, List.cons_append, List.nil_append, loadOp, Go.Abs.loadCells, binV, Int.toNat_natCast, pickV, List.getElem?_cons_zero, List.getElem?_cons_succ, Option.map_some, Option.bind_some, List.drop_zero, List.drop_succ_cons, List.take_succ_cons, List.take_zero, List.length_map, outR, resAll, resOne, if_true, if_false, and_true, true_and, Bool.true_eq_false, Bool.false_eq_true, forall_const, true_implies, false_implies, implies_true, decide_true, decide_false, beq_self_eq_true, Option.getD_some, Nat.zero_add, Nat.add_zero, storeOp, storeCell, overlay, List.take_nil, List.drop_nil, List.append_nil, lookupOp, keyT, okRes, mapUpdateOp, Bool.and_self, Bool.and_true, Bool.true_and, Bool.not_true, Bool.not_false, gt_iff_lt, ge_iff_le, Nat.reduceSub, Nat.reduceAdd, Int.reduceLT, Int.reduceLE, Int.reduceAdd, Int.reduceSub, Int.reduceToNat, Int.reduceBEq, Int.reduceBNe, Int.reduceMul, Nat.reduceBEq, Nat.reduceBNe, Nat.reduceLT, Nat.reduceLeDiff, Nat.reduceMul, Nat.reduceEqDiff, WD, effB, effH, isPriv, isHeap, isImm, Option.any_some, Option.any_none, Option.isSome_none, chkO, setD, dslot, Bool.toNat_true, Bool.toNat_false, Nat.add_zero, Nat.zero_add, List.append_eq, and_self, ptrCells_some, F21, storeCell, overlay]
        exact hres
end Go.Proofs.YtcmndnkeoepmoaaDoor

namespace Go.Proofs.YtcmndnkeoepmoaaDoor
open Go Go.Abs Go.Proofs
set_option maxRecDepth 100000
set_option maxHeartbeats 1000000
set_option linter.unusedVariables false
set_option linter.unusedSimpArgs false
theorem textS_bad : ∀ (R out : List UInt8) (o : Nat) {e off}, textS R out o = .bad e off → e = 6
  | [], out, o, e, off, h => by rw [textS] at h; cases h; rfl
  | c :: r, out, o, e, off, h => by
    unfold textS at h
    split at h
    · cases h; rfl
    split at h
    · cases h
    split at h
    · exact textS_bad r _ _ h
    match r, h with
    | [], h => cases h; rfl
    | d :: r1, h =>
      simp only at h
      split at h
      · match r1, h with
        | [], h => cases h; rfl
        | a :: r2, h =>
          simp only at h
          split at h
          · cases h; rfl
          match r2, h with
          | [], h => cases h; rfl
          | b :: r3, h =>
            simp only at h
            split at h
            · cases h; rfl
            exact textS_bad r3 _ _ h
      · split at h
        · exact textS_bad r1 _ _ h
        · cases h; rfl
theorem nextS_bad {c : UInt8} {r : List UInt8} {e off} (h : nextS (c :: r) = .bad e off) : e = 6 ∨ e = 9 := by
  simp only [nextS] at h
  split at h
  · cases h
  split at h
  · unfold numS at h
    simp only at h
    split at h
    · cases h; exact .inl rfl
    split at h
    · cases h; exact .inl rfl
    split at h
    · cases h
    · cases h; exact .inr rfl
  split at h
  · exact .inl (textS_bad _ _ _ h)
  · unfold signS at h
    split at h
    · cases h
    split at h
    · cases h
    · cases h; exact .inl rfl
theorem lenK_row {H : Hp} {e : TypeId} {es : List V} {n : Nat} (h : n = es.length) : lenK H (.slice e) (rowV true es n) = some (.int .i64 n) := by
  subst h
  unfold rowV
  cases es with
  | nil => rfl
  | cons a b => rw [if_neg (by simp), lenK_rsl, List.take_length]
theorem tok_wide (ts : List Tk) : wideAll (ts.map tokV) 4 = true := wide_mapN (f := tokV) (fun _ => rfl) ts
/-- Bytes, in memory or not -/
def Bz (H : Hp) (x : V) (L : List UInt8) : Prop := Bx x L ∨ ∃ id, x = .sl id 0 L.length ∧ H[id]? = some (.cells (by8 L))
theorem Bz.rd {H : Hp} {x : V} {L : List UInt8} (h : Bz H x L) : Rd H x (by8 L) := by
  rcases h with h | ⟨id, rfl, h⟩
  · exact h.rd H
  · have := Rd.whole h
    rwa [by8_len] at this
theorem Bz.by_ {H : Hp} {x : V} {L : List UInt8} (h : Bz H x L) (e : Hp) : By (H ++ e) H.length x L := by
  rcases h with h | ⟨id, rfl, h⟩
  · exact .inl h
  · have hl := (List.getElem?_eq_some_iff.1 h).1
    exact .inr ⟨id, rfl, by omega, by rw [List.getElem?_append_left hl]; exact h⟩
/-- What is answered of a text -/
def lexOut (n : Nat) (res : Except (Nat × Nat) (List Tk)) (out : Out) : Prop := match res with
  | .ok l => out = .ret (.tup [.rsl (l.map tokV), .int .i64 0, .int .i64 n]) false
  | .error x => out = .ret (.tup [.nils, .int .i64 x.1, .int .i64 x.2]) false
theorem lex_spec {H : Hp} {x : V} {L : List UInt8} (hz : Bz H x L) (hL : L.length ≤ 65536) :
    wpCall EW 10 [x] H (fun out H' => lexOut L.length (lexS L 0 0) out) := by
  refine runs f10 b10 r10 n10 _ _ ?_
  simp only [bodyOf, Tryd.f10, Option.getD_some]
  have hx := hz.rd
  have hB0 := hz.by_ [ctr x ((0 : Nat) : Int)]
  have h65 : decide ((65536 : Int) < (L.length : Int)) = false := decide_eq_false (by omega)
  simp only [WW, partV, eqCells, eqLf, minV, maxV, ifcV, List.map_cons, List.map_nil, List.length_cons, List.length_nil, List.getD_cons_zero, List.getD_cons_succ, List.set_cons_zero, List.set_cons_succ, List.set_nil, ofConst, ofConst1, List.replicate, List.cons_append, List.nil_append, loadOp, Go.Abs.loadCells, binV, Int.toNat_natCast, pickV, List.getElem?_cons_zero, List.getElem?_cons_succ, Option.map_some, Option.bind_some, List.drop_zero, List.drop_succ_cons, List.take_succ_cons, List.take_zero, List.length_map, outR, resAll, resOne, if_true, if_false, and_true, true_and, Bool.true_eq_false, Bool.false_eq_true, forall_const, true_implies, false_implies, implies_true, decide_true, decide_false, beq_self_eq_true, Option.getD_some, Nat.zero_add, Nat.add_zero, storeOp, storeCell, overlay, List.take_nil, List.drop_nil, List.append_nil, lookupOp, keyT, okRes, mapUpdateOp, Bool.and_self, Bool.and_true, Bool.true_and, Bool.not_true, Bool.not_false, gt_iff_lt, ge_iff_le, Nat.reduceSub, Nat.reduceAdd, Int.reduceLT, Int.reduceLE, Int.reduceAdd, Int.reduceSub, Int.reduceToNat, Int.reduceBEq, Int.reduceBNe, Int.reduceMul, Nat.reduceBEq, Nat.reduceBNe, Nat.reduceLT, Nat.reduceLeDiff, Nat.reduceMul, Nat.reduceEqDiff, WD, effB, effH, isPriv, isHeap, isImm, Option.any_some, Option.any_none, Option.isSome_none, chkO, setD, dslot, Bool.toNat_true, Bool.toNat_false, Nat.add_zero, Nat.zero_add, List.append_eq, and_self, ptrCells_some, F10, hx.shutIn, hx.len, by8_len, h65, hx.ok, hx.cells1, hx.width1, buildOp, fillV, Lay.place, Bool.or_self, Bool.or_false, Bool.false_or, decide_not, ne_eq, not_true_eq_false, Bool.not_true, Bool.not_false, decide_eq_true_eq, Nat.lt_irrefl, gt_iff_lt, overlay]
  have hC0 : Ct (H ++ [ctr x ((0 : Nat) : Int)]) H.length x ((0 : Nat) : Int) := List.getElem?_concat_length
  refine wC_loop _ (fun k st' H' => ∃ (i : Nat) (ts : List Tk), st' = ⟨L10_4 (.v x) (.v (.lr 0 ts.length)) (.v (.ptr H.length 0 0)), [], [⟨true, true, ts.map tokV⟩]⟩ ∧ Ct H' H.length x (i : Int) ∧ By H' H.length x L ∧ i ≤ L.length ∧ ts.length ≤ i ∧ ts.length ≤ 16384 ∧ k = L.length - i ∧
    lexS L 0 0 = (match lexS (L.drop i) i ts.length with | .ok l => .ok (ts ++ l) | .error e => .error e)) L.length ⟨0, [], ?_, hC0, hB0, Nat.zero_le _, Nat.le_refl _, by simp, rfl, by rw [List.drop_zero]; cases lexS L 0 ([] : List Tk).length <;> rfl⟩ ?_
  · simp only [WN, firstReg, growAll, List.foldl_nil, List.foldl_cons, norm, killS, List.set_cons_zero, List.set_cons_succ, List.map_cons, List.map_nil, List.take_nil, List.take_zero, List.length_nil, growOne, List.getD_cons_zero, List.getD_cons_succ, List.length_cons, List.take_succ_cons, List.nil_append, Nat.reduceLT, Nat.reduceAdd, Nat.zero_add, if_true, F10, L10_4, hx.clip2]
    try rfl
  · rintro k st' H' ⟨i, ts, rfl, hC, hB, hi, hti, htm, rfl, hlex⟩
    simp only [L10_4]
    simp only [WW, partV, eqCells, eqLf, minV, maxV, ifcV, List.map_cons, List.map_nil, List.length_cons, List.length_nil, List.getD_cons_zero, List.getD_cons_succ, List.set_cons_zero, List.set_cons_succ, List.set_nil, ofConst, ofConst1, List.replicate, List.cons_append, List.nil_append, loadOp, Go.Abs.loadCells, binV, Int.toNat_natCast, pickV, List.getElem?_cons_zero, List.getElem?_cons_succ, Option.map_some, Option.bind_some, List.drop_zero, List.drop_succ_cons, List.take_succ_cons, List.take_zero, List.length_map, outR, resAll, resOne, if_true, if_false, and_true, true_and, Bool.true_eq_false, Bool.false_eq_true, forall_const, true_implies, false_implies, implies_true, decide_true, decide_false, beq_self_eq_true, Option.getD_some, Nat.zero_add, Nat.add_zero, storeOp, storeCell, overlay, List.take_nil, List.drop_nil, List.append_nil, lookupOp, keyT, okRes, mapUpdateOp, Bool.and_self, Bool.and_true, Bool.true_and, Bool.not_true, Bool.not_false, gt_iff_lt, ge_iff_le, Nat.reduceSub, Nat.reduceAdd, Int.reduceLT, Int.reduceLE, Int.reduceAdd, Int.reduceSub, Int.reduceToNat, Int.reduceBEq, Int.reduceBNe, Int.reduceMul, Nat.reduceBEq, Nat.reduceBNe, Nat.reduceLT, Nat.reduceLeDiff, Nat.reduceMul, Nat.reduceEqDiff, WD, effB, effH, isPriv, isHeap, isImm, Option.any_some, Option.any_none, Option.isSome_none, chkO, setD, dslot, Bool.toNat_true, Bool.toNat_false, Nat.add_zero, Nat.zero_add, List.append_eq, and_self, ptrCells_some, F10]
    refine wpCall_of (skip_spec hB hC hi (by omega)) ?_
    rintro out H2 ⟨rfl, rfl⟩
    have hle := skipN_le false (L.drop i)
    obtain ⟨s, hs⟩ : ∃ s, s = skipN false (L.drop i) := ⟨_, rfl⟩
    rw [← hs] at hle ⊢
    have hsl : i + s ≤ L.length := by simp at hle; omega
    have hC2 := hC.to ((i + s : Nat) : Int)
    have hB2 := hB.to (ctr x ((i + s : Nat) : Int))
    generalize H'.set H.length (ctr x ((i + s : Nat) : Int)) = H2 at hC2 hB2 ⊢
    have hb2 : H2[H.length]? = some (.cells [.agg [x, .int .i64 ((i + s : Nat) : Int)]]) := hC2
    have hx2 := hB2.rd
    have hrl := lenK_row (H := H2) (e := 36) (es := ts.map tokV) (n := ts.length) (by simp)
    have hwt := tok_wide ts
    have q1 : (ts.length == (ts.map tokV).length) = true := by simp
    have q2 : decide ((ts.length + 1) * 40 ≤ 70368744177664) = true := by simp; omega
    have q3 : decide (ts.length ≤ 4611686018427387903) = true := by simp; omega
    have hw1 : ∀ t : Tk, wideAll [V.agg [.int .i64 t.k, .str ⟨t.t.toArray⟩, .int .i64 t.n, .int .i64 t.p]] 4 = true := fun _ => rfl
    have hw0 : ∀ (a : Int) (b : ByteArray) (c d : Int), wideAll [V.agg [.int .i64 a, .str b, .int .i64 c, .int .i64 d]] 4 = true := fun _ _ _ _ => rfl
    have hdd : (L.drop i).drop s = L.drop (i + s) := List.drop_drop
    by_cases hend : i + s = L.length
    · have hnil : (L.drop i).drop s = [] := by rw [hdd, List.drop_of_length_le (by omega)]
      rw [hs] at hnil
      rw [lexS_end hnil, ← hs] at hlex
      have heq : (((i + s : Nat) : Int) == (L.length : Int)) = true := by rw [hend]; simp
      simp only [WW, partV, eqCells, eqLf, minV, maxV, ifcV, List.map_cons, List.map_nil, List.length_cons, List.length_nil, List.getD_cons_zero, List.getD_cons_succ, List.set_cons_zero, List.set_cons_succ, List.set_nil, ofConst, ofConst1, List.replicate, List.cons_append, List.nil_append, loadOp, Go.Abs.loadCells, binV, Int.toNat_natCast, pickV, List.getElem?_cons_zero, List.getElem?_cons_succ, Option.map_some, Option.bind_some, List.drop_zero, List.drop_succ_cons, List.take_succ_cons, List.take_zero, List.length_map, outR, resAll, resOne, if_true, if_false, and_true, true_and, Bool.true_eq_false, Bool.false_eq_true, forall_const, true_implies, false_implies, implies_true, decide_true, decide_false, beq_self_eq_true, Option.getD_some, Nat.zero_add, Nat.add_zero, storeOp, storeCell, overlay, List.take_nil, List.drop_nil, List.append_nil, lookupOp, keyT, okRes, mapUpdateOp, Bool.and_self, Bool.and_true, Bool.true_and, Bool.not_true, Bool.not_false, gt_iff_lt, ge_iff_le, Nat.reduceSub, Nat.reduceAdd, Int.reduceLT, Int.reduceLE, Int.reduceAdd, Int.reduceSub, Int.reduceToNat, Int.reduceBEq, Int.reduceBNe, Int.reduceMul, Nat.reduceBEq, Nat.reduceBNe, Nat.reduceLT, Nat.reduceLeDiff, Nat.reduceMul, Nat.reduceEqDiff, WD, effB, effH, isPriv, isHeap, isImm, Option.any_some, Option.any_none, Option.isSome_none, chkO, setD, dslot, Bool.toNat_true, Bool.toNat_false, Nat.add_zero, Nat.zero_add, List.append_eq, and_self, ptrCells_some, F10, hb2, hx2.shutIn, hx2.len, by8_len, heq, buildOp, fillV, Lay.place, Bool.or_self, Bool.or_false, Bool.false_or, decide_not, ne_eq, not_true_eq_false, Bool.not_true, Bool.not_false, decide_eq_true_eq, Nat.lt_irrefl, gt_iff_lt, buildSliceV, lits, srcV_eq, srcK_sl, srcK_str, srcSl_nils, srcSl_rsl, srcSl_sl, appendOp, frow, List.foldl_nil, List.foldl_cons, List.all_nil, List.all_cons, rowV, Bool.not_true, Bool.not_false, Bool.false_and, Bool.and_false, ne_eq, not_false_eq_true, Nat.zero_add, Nat.add_zero, grows_lr, callOut_t, hwt, hw0, q1, q2, q3, storeCell, overlay]
      rw [hlex, hend]
      simp only [lexOut, List.map_append, List.map_cons, List.map_nil, List.length_append, List.length_map, List.length_cons, List.length_nil]
      rw [if_neg (by simp), List.take_of_length_le (by simp)]
      rfl
    · have heq : (((i + s : Nat) : Int) == (L.length : Int)) = false := by rw [beq_eq_false_iff_ne]; omega
      have hlt : i + s < L.length := by omega
      obtain ⟨c, r, hcr⟩ : ∃ c r, L.drop (i + s) = c :: r := by
        cases h : L.drop (i + s) with
        | nil => have := congrArg List.length h; simp at this; omega
        | cons c r => exact ⟨c, r, rfl⟩
      have hcr2 : (L.drop i).drop (skipN false (L.drop i)) = c :: r := by rw [← hs, hdd]; exact hcr
      cases hmany : ((ts.length : Int) == 16384) with
      | true =>
        have hm : ts.length = 16384 := by simp at hmany; omega
        rw [hm, lexS_many (by rw [hcr2]; simp), ← hs] at hlex
        simp only [WW, partV, eqCells, eqLf, minV, maxV, ifcV, List.map_cons, List.map_nil, List.length_cons, List.length_nil, List.getD_cons_zero, List.getD_cons_succ, List.set_cons_zero, List.set_cons_succ, List.set_nil, ofConst, ofConst1, List.replicate, List.cons_append, List.nil_append, loadOp, Go.Abs.loadCells, binV, Int.toNat_natCast, pickV, List.getElem?_cons_zero, List.getElem?_cons_succ, Option.map_some, Option.bind_some, List.drop_zero, List.drop_succ_cons, List.take_succ_cons, List.take_zero, List.length_map, outR, resAll, resOne, if_true, if_false, and_true, true_and, Bool.true_eq_false, Bool.false_eq_true, forall_const, true_implies, false_implies, implies_true, decide_true, decide_false, beq_self_eq_true, Option.getD_some, Nat.zero_add, Nat.add_zero, storeOp, storeCell, overlay, List.take_nil, List.drop_nil, List.append_nil, lookupOp, keyT, okRes, mapUpdateOp, Bool.and_self, Bool.and_true, Bool.true_and, Bool.not_true, Bool.not_false, gt_iff_lt, ge_iff_le, Nat.reduceSub, Nat.reduceAdd, Int.reduceLT, Int.reduceLE, Int.reduceAdd, Int.reduceSub, Int.reduceToNat, Int.reduceBEq, Int.reduceBNe, Int.reduceMul, Nat.reduceBEq, Nat.reduceBNe, Nat.reduceLT, Nat.reduceLeDiff, Nat.reduceMul, Nat.reduceEqDiff, WD, effB, effH, isPriv, isHeap, isImm, Option.any_some, Option.any_none, Option.isSome_none, chkO, setD, dslot, Bool.toNat_true, Bool.toNat_false, Nat.add_zero, Nat.zero_add, List.append_eq, and_self, ptrCells_some, F10, hb2, hx2.shutIn, hx2.len, by8_len, heq, hrl, hmany]
        refine wC_dr alts10_8 (by kernel_rfl) ?_
        simp only [WW, partV, eqCells, eqLf, minV, maxV, ifcV, List.map_cons, List.map_nil, List.length_cons, List.length_nil, List.getD_cons_zero, List.getD_cons_succ, List.set_cons_zero, List.set_cons_succ, List.set_nil, ofConst, ofConst1, List.replicate, List.cons_append, List.nil_append, loadOp, Go.Abs.loadCells, binV, Int.toNat_natCast, pickV, List.getElem?_cons_zero, List.getElem?_cons_succ, Option.map_some, Option.bind_some, List.drop_zero, List.drop_succ_cons, List.take_succ_cons, List.take_zero, List.length_map, outR, resAll, resOne, if_true, if_false, and_true, true_and, Bool.true_eq_false, Bool.false_eq_true, forall_const, true_implies, false_implies, implies_true, decide_true, decide_false, beq_self_eq_true, Option.getD_some, Nat.zero_add, Nat.add_zero, storeOp, storeCell, overlay, List.take_nil, List.drop_nil, List.append_nil, lookupOp, keyT, okRes, mapUpdateOp, Bool.and_self, Bool.and_true, Bool.true_and, Bool.not_true, Bool.not_false, gt_iff_lt, ge_iff_le, Nat.reduceSub, Nat.reduceAdd, Int.reduceLT, Int.reduceLE, Int.reduceAdd, Int.reduceSub, Int.reduceToNat, Int.reduceBEq, Int.reduceBNe, Int.reduceMul, Nat.reduceBEq, Nat.reduceBNe, Nat.reduceLT, Nat.reduceLeDiff, Nat.reduceMul, Nat.reduceEqDiff, WD, effB, effH, isPriv, isHeap, isImm, Option.any_some, Option.any_none, Option.isSome_none, chkO, setD, dslot, Bool.toNat_true, Bool.toNat_false, Nat.add_zero, Nat.zero_add, List.append_eq, and_self, ptrCells_some, F10, hb2, alts10_8]
        rw [hlex]
        rfl
      | false =>
        have hm : ts.length ≠ 16384 := by simp at hmany; omega
        simp only [WW, partV, eqCells, eqLf, minV, maxV, ifcV, List.map_cons, List.map_nil, List.length_cons, List.length_nil, List.getD_cons_zero, List.getD_cons_succ, List.set_cons_zero, List.set_cons_succ, List.set_nil, ofConst, ofConst1, List.replicate, List.cons_append, List.nil_append, loadOp, Go.Abs.loadCells, binV, Int.toNat_natCast, pickV, List.getElem?_cons_zero, List.getElem?_cons_succ, Option.map_some, Option.bind_some, List.drop_zero, List.drop_succ_cons, List.take_succ_cons, List.take_zero, List.length_map, outR, resAll, resOne, if_true, if_false, and_true, true_and, Bool.true_eq_false, Bool.false_eq_true, forall_const, true_implies, false_implies, implies_true, decide_true, decide_false, beq_self_eq_true, Option.getD_some, Nat.zero_add, Nat.add_zero, storeOp, storeCell, overlay, List.take_nil, List.drop_nil, List.append_nil, lookupOp, keyT, okRes, mapUpdateOp, Bool.and_self, Bool.and_true, Bool.true_and, Bool.not_true, Bool.not_false, gt_iff_lt, ge_iff_le, Nat.reduceSub, Nat.reduceAdd, Int.reduceLT, Int.reduceLE, Int.reduceAdd, Int.reduceSub, Int.reduceToNat, Int.reduceBEq, Int.reduceBNe, Int.reduceMul, Nat.reduceBEq, Nat.reduceBNe, Nat.reduceLT, Nat.reduceLeDiff, Nat.reduceMul, Nat.reduceEqDiff, WD, effB, effH, isPriv, isHeap, isImm, Option.any_some, Option.any_none, Option.isSome_none, chkO, setD, dslot, Bool.toNat_true, Bool.toNat_false, Nat.add_zero, Nat.zero_add, List.append_eq, and_self, ptrCells_some, F10, hb2, hx2.shutIn, hx2.len, by8_len, heq, hrl, hmany]
        refine wpCall_of (next_spec hB2 hC2 hcr hL) ?_
        intro out H3 hres
        cases hnx : nextS (c :: r) with
        | bad e off =>
          rw [hnx] at hres
          obtain ⟨⟨t, rfl⟩, rfl⟩ := hres
          have hC3 := hC2.to ((i + s + off : Nat) : Int)
          generalize H2.set H.length (ctr x ((i + s + off : Nat) : Int)) = H3 at hC3 ⊢
          have hb3 : H3[H.length]? = some (.cells [.agg [x, .int .i64 ((i + s + off : Nat) : Int)]]) := hC3
          have he0 : ((e : Int) != 0) = true := by rcases nextS_bad hnx with rfl | rfl <;> rfl
          rw [lexS_bad hcr2 hm hnx, ← hs] at hlex
          simp only [tokV]
          simp only [WW, partV, eqCells, eqLf, minV, maxV, ifcV, List.map_cons, List.map_nil, List.length_cons, List.length_nil, List.getD_cons_zero, List.getD_cons_succ, List.set_cons_zero, List.set_cons_succ, List.set_nil, ofConst, ofConst1, List.replicate, List.cons_append, List.nil_append, loadOp, Go.Abs.loadCells, binV, Int.toNat_natCast, pickV, List.getElem?_cons_zero, List.getElem?_cons_succ, Option.map_some, Option.bind_some, List.drop_zero, List.drop_succ_cons, List.take_succ_cons, List.take_zero, List.length_map, outR, resAll, resOne, if_true, if_false, and_true, true_and, Bool.true_eq_false, Bool.false_eq_true, forall_const, true_implies, false_implies, implies_true, decide_true, decide_false, beq_self_eq_true, Option.getD_some, Nat.zero_add, Nat.add_zero, storeOp, storeCell, overlay, List.take_nil, List.drop_nil, List.append_nil, lookupOp, keyT, okRes, mapUpdateOp, Bool.and_self, Bool.and_true, Bool.true_and, Bool.not_true, Bool.not_false, gt_iff_lt, ge_iff_le, Nat.reduceSub, Nat.reduceAdd, Int.reduceLT, Int.reduceLE, Int.reduceAdd, Int.reduceSub, Int.reduceToNat, Int.reduceBEq, Int.reduceBNe, Int.reduceMul, Nat.reduceBEq, Nat.reduceBNe, Nat.reduceLT, Nat.reduceLeDiff, Nat.reduceMul, Nat.reduceEqDiff, WD, effB, effH, isPriv, isHeap, isImm, Option.any_some, Option.any_none, Option.isSome_none, chkO, setD, dslot, Bool.toNat_true, Bool.toNat_false, Nat.add_zero, Nat.zero_add, List.append_eq, and_self, ptrCells_some, F10, storeCell, overlay, he0]
          refine wC_dr alts10_11 (by kernel_rfl) ?_
          simp only [WW, partV, eqCells, eqLf, minV, maxV, ifcV, List.map_cons, List.map_nil, List.length_cons, List.length_nil, List.getD_cons_zero, List.getD_cons_succ, List.set_cons_zero, List.set_cons_succ, List.set_nil, ofConst, ofConst1, List.replicate, List.cons_append, List.nil_append, loadOp, Go.Abs.loadCells, binV, Int.toNat_natCast, pickV, List.getElem?_cons_zero, List.getElem?_cons_succ, Option.map_some, Option.bind_some, List.drop_zero, List.drop_succ_cons, List.take_succ_cons, List.take_zero, List.length_map, outR, resAll, resOne, if_true, if_false, and_true, true_and, Bool.true_eq_false, Bool.false_eq_true, forall_const, true_implies, false_implies, implies_true, decide_true, decide_false, beq_self_eq_true, Option.getD_some, Nat.zero_add, Nat.add_zero, storeOp, storeCell, overlay, List.take_nil, List.drop_nil, List.append_nil, lookupOp, keyT, okRes, mapUpdateOp, Bool.and_self, Bool.and_true, Bool.true_and, Bool.not_true, Bool.not_false, gt_iff_lt, ge_iff_le, Nat.reduceSub, Nat.reduceAdd, Int.reduceLT, Int.reduceLE, Int.reduceAdd, Int.reduceSub, Int.reduceToNat, Int.reduceBEq, Int.reduceBNe, Int.reduceMul, Nat.reduceBEq, Nat.reduceBNe, Nat.reduceLT, Nat.reduceLeDiff, Nat.reduceMul, Nat.reduceEqDiff, WD, effB, effH, isPriv, isHeap, isImm, Option.any_some, Option.any_none, Option.isSome_none, chkO, setD, dslot, Bool.toNat_true, Bool.toNat_false, Nat.add_zero, Nat.zero_add, List.append_eq, and_self, ptrCells_some, F10, hb3, alts10_11]
          rw [hlex]
          rfl
        | tok kd t n len =>
          rw [hnx] at hres
          obtain ⟨rfl, rfl⟩ := hres
          obtain ⟨hl1, hl2⟩ := nextS_len hnx
          have hlr : len ≤ L.length - (i + s) := by rw [← hcr] at hl2; simpa using hl2
          have hC3 := hC2.to ((i + s + len : Nat) : Int)
          have hB3 := hB2.to (ctr x ((i + s + len : Nat) : Int))
          generalize H2.set H.length (ctr x ((i + s + len : Nat) : Int)) = H3 at hC3 hB3 ⊢
          have h00 : ((0 : Int) != 0) = false := rfl
          rw [lexS_tok hcr2 hm hnx, ← hs] at hlex
          have hrd : r.drop (len - 1) = L.drop (i + s + len) := by
            rw [← List.drop_drop, hcr]
            cases len with
            | zero => omega
            | succ j => rfl
          simp only [tokV]
          simp only [WW, partV, eqCells, eqLf, minV, maxV, ifcV, List.map_cons, List.map_nil, List.length_cons, List.length_nil, List.getD_cons_zero, List.getD_cons_succ, List.set_cons_zero, List.set_cons_succ, List.set_nil, ofConst, ofConst1, List.replicate, List.cons_append, List.nil_append, loadOp, Go.Abs.loadCells, binV, Int.toNat_natCast, pickV, List.getElem?_cons_zero, List.getElem?_cons_succ, Option.map_some, Option.bind_some, List.drop_zero, List.drop_succ_cons, List.take_succ_cons, List.take_zero, List.length_map, outR, resAll, resOne, if_true, if_false, and_true, true_and, Bool.true_eq_false, Bool.false_eq_true, forall_const, true_implies, false_implies, implies_true, decide_true, decide_false, beq_self_eq_true, Option.getD_some, Nat.zero_add, Nat.add_zero, storeOp, storeCell, overlay, List.take_nil, List.drop_nil, List.append_nil, lookupOp, keyT, okRes, mapUpdateOp, Bool.and_self, Bool.and_true, Bool.true_and, Bool.not_true, Bool.not_false, gt_iff_lt, ge_iff_le, Nat.reduceSub, Nat.reduceAdd, Int.reduceLT, Int.reduceLE, Int.reduceAdd, Int.reduceSub, Int.reduceToNat, Int.reduceBEq, Int.reduceBNe, Int.reduceMul, Nat.reduceBEq, Nat.reduceBNe, Nat.reduceLT, Nat.reduceLeDiff, Nat.reduceMul, Nat.reduceEqDiff, WD, effB, effH, isPriv, isHeap, isImm, Option.any_some, Option.any_none, Option.isSome_none, chkO, setD, dslot, Bool.toNat_true, Bool.toNat_false, Nat.add_zero, Nat.zero_add, List.append_eq, and_self, ptrCells_some, F10, storeCell, overlay, h00, buildSliceV, lits, srcV_eq, srcK_sl, srcK_str, srcSl_nils, srcSl_rsl, srcSl_sl, appendOp, frow, List.foldl_nil, List.foldl_cons, List.all_nil, List.all_cons, rowV, Bool.not_true, Bool.not_false, Bool.false_and, Bool.and_false, ne_eq, not_false_eq_true, Nat.zero_add, Nat.add_zero, grows_lr, callOut_t, hwt, hw0, q1, q2, q3]
          refine ⟨L.length - (i + s + len), by omega, i + s + len, ts ++ [⟨kd, t, n, i + s⟩], ?_, hC3, hB3, by omega, by simp; omega, by simp; omega, rfl, ?_⟩
          · simp only [WN, firstReg, growAll, List.foldl_nil, List.foldl_cons, norm, killS, List.set_cons_zero, List.set_cons_succ, List.map_cons, List.map_nil, List.take_nil, List.take_zero, List.length_nil, growOne, List.getD_cons_zero, List.getD_cons_succ, List.length_cons, List.take_succ_cons, List.nil_append, Nat.reduceLT, Nat.reduceAdd, Nat.zero_add, if_true, F10, hx.clip2, List.map_append, List.length_append, List.length_cons, List.length_nil, List.map_cons, List.map_nil]
            try rfl
          · rw [hlex, hrd, List.length_append]
            simp only [List.length_cons, List.length_nil, Nat.zero_add]
            cases lexS (L.drop (i + s + len)) (i + s + len) (ts.length + 1) with
            | ok l => simp
            | error e => rfl
theorem lex_long {H : Hp} {x : V} {L : List UInt8} (hz : Bz H x L) (hL : 65536 < L.length) : wpCall EW 10 [x] H (fun out H' => out = .ret (.tup [.nils, .int .i64 2, .int .i64 0]) false) := by
  refine runs f10 b10 r10 n10 _ _ ?_
  simp only [bodyOf, Tryd.f10, Option.getD_some]
  have hx := hz.rd
  have h65 : decide ((65536 : Int) < (L.length : Int)) = true := decide_eq_true (by omega)
  simp only [WW, partV, eqCells, eqLf, minV, maxV, ifcV, List.map_cons, List.map_nil, List.length_cons, List.length_nil, List.getD_cons_zero, List.getD_cons_succ, List.set_cons_zero, List.set_cons_succ, List.set_nil, ofConst, ofConst1, List.replicate, List.cons_append, List.nil_append, loadOp, Go.Abs.loadCells, binV, Int.toNat_natCast, pickV, List.getElem?_cons_zero, List.getElem?_cons_succ, Option.map_some, Option.bind_some, List.drop_zero, List.drop_succ_cons, List.take_succ_cons, List.take_zero, List.length_map, outR, resAll, resOne, if_true, if_false, and_true, true_and, Bool.true_eq_false, Bool.false_eq_true, forall_const, true_implies, false_implies, implies_true, decide_true, decide_false, beq_self_eq_true, Option.getD_some, Nat.zero_add, Nat.add_zero, storeOp, storeCell, overlay, List.take_nil, List.drop_nil, List.append_nil, lookupOp, keyT, okRes, mapUpdateOp, Bool.and_self, Bool.and_true, Bool.true_and, Bool.not_true, Bool.not_false, gt_iff_lt, ge_iff_le, Nat.reduceSub, Nat.reduceAdd, Int.reduceLT, Int.reduceLE, Int.reduceAdd, Int.reduceSub, Int.reduceToNat, Int.reduceBEq, Int.reduceBNe, Int.reduceMul, Nat.reduceBEq, Nat.reduceBNe, Nat.reduceLT, Nat.reduceLeDiff, Nat.reduceMul, Nat.reduceEqDiff, WD, effB, effH, isPriv, isHeap, isImm, Option.any_some, Option.any_none, Option.isSome_none, chkO, setD, dslot, Bool.toNat_true, Bool.toNat_false, Nat.add_zero, Nat.zero_add, List.append_eq, and_self, ptrCells_some, F10, hx.shutIn, hx.len, by8_len, h65]
end Go.Proofs.YtcmndnkeoepmoaaDoor

namespace Go.Proofs.YtcmndnkeoepmoaaDoor
open Go Go.Abs Go.Proofs
set_option maxRecDepth 100000
set_option maxHeartbeats 1000000
set_option linter.unusedVariables false
set_option linter.unusedSimpArgs false
/-! ### the document's lexer -/
theorem noHeapL_by8 : ∀ L : List UInt8, noHeapL (by8 L) = true
  | [] => rfl
  | c :: r => by
    have := noHeapL_by8 r
    simp only [by8, List.map_cons, noHeapL] at this ⊢
    rw [this]; rfl
theorem noHeap_by8 (L : List UInt8) (p : Int) : noHeapL [.rsl (by8 L), .int .i64 p] = true := by
  simp only [noHeapL, noHeap, noHeapL_by8, Bool.and_self]
theorem Bx.noHeap {x : V} {L : List UInt8} (hB : Bx x L) : Abs.noHeap x = true := by
  rcases hB with ⟨rfl, _⟩ | rfl
  · rfl
  · simp only [Abs.noHeap, noHeapL_by8]
theorem u8n (c k : UInt8) : (((c.toNat : Nat) : Int) != ((k.toNat : Nat) : Int)) = !(c == k) := by
  simp only [bne, u8b]
theorem skip_note {c : UInt8} (h : c ≠ 10) (r : List UInt8) : skipN true (c :: r) = 1 + skipN true r := by
  rw [skipN, if_neg h]; simp
theorem skip_ten (b : Bool) (r : List UInt8) : skipN b (10 :: r) = 1 + skipN false r := by
  rw [skipN, if_pos rfl]
theorem skip_hash (b : Bool) (r : List UInt8) : skipN b (35 :: r) = 1 + skipN true r := by
  cases b
  · rw [skipN, if_neg (by decide), if_neg (by decide), if_pos rfl]
  · exact skip_note (by decide) r
theorem skip_blank {c : UInt8} (h : c = 32 ∨ c = 9 ∨ c = 10 ∨ c = 13) (r : List UInt8) : skipN false (c :: r) = 1 + skipN false r := by
  rcases h with rfl | rfl | rfl | rfl
  · rw [skipN, if_neg (by decide), if_pos (by decide)]
  · rw [skipN, if_neg (by decide), if_pos (by decide)]
  · exact skip_ten _ _
  · rw [skipN, if_neg (by decide), if_pos (by decide)]
theorem skip_none {c : UInt8} (h32 : c ≠ 32) (h9 : c ≠ 9) (h10 : c ≠ 10) (h13 : c ≠ 13) (h35 : c ≠ 35) (r : List UInt8) : skipN false (c :: r) = 0 := by
  rw [skipN, if_neg h10, if_neg (by simp [h32, h9, h13]), if_neg h35]
theorem rskip_eq {x : V} {L : List UInt8} (hB : Bx x L) (p : Nat) (hp : p ≤ L.length) (hL : L.length ≤ 4611686018427387904) (H : Hp) :
    EW 22 [x, .int .i64 (p : Int)] H = some (.ret (.int .i64 ((p + skipN false (L.drop p) : Nat) : Int)) false, H) := by
  have hx := hB.rd []
  have ha : noHeapL [x, .int .i64 (p : Int)] = true := by simp only [noHeapL, hB.noHeap, Abs.noHeap, Bool.and_self]
  refine eqOf (runsP f22 b22 r22 n22 _ ha _ ?_)
  simp only [bodyOf, Tryd.f22, Option.getD_some]
  simp only [WW, partV, eqCells, eqLf, minV, maxV, ifcV, List.map_cons, List.map_nil, List.length_cons, List.length_nil, List.getD_cons_zero, List.getD_cons_succ, List.set_cons_zero, List.set_cons_succ, List.set_nil, ofConst, ofConst1, List.replicate, List.cons_append, List.nil_append, loadOp, Go.Abs.loadCells, binV, Int.toNat_natCast, pickV, List.getElem?_cons_zero, List.getElem?_cons_succ, Option.map_some, Option.bind_some, List.drop_zero, List.drop_succ_cons, List.take_succ_cons, List.take_zero, List.length_map, outR, resAll, resOne, if_true, if_false, and_true, true_and, Bool.true_eq_false, Bool.false_eq_true, forall_const, true_implies, false_implies, implies_true, decide_true, decide_false, beq_self_eq_true, Option.getD_some, Nat.zero_add, Nat.add_zero, storeOp, storeCell, overlay, List.take_nil, List.drop_nil, List.append_nil, lookupOp, keyT, okRes, mapUpdateOp, Bool.and_self, Bool.and_true, Bool.true_and, Bool.not_true, Bool.not_false, gt_iff_lt, ge_iff_le, Nat.reduceSub, Nat.reduceAdd, Int.reduceLT, Int.reduceLE, Int.reduceAdd, Int.reduceSub, Int.reduceToNat, Int.reduceBEq, Int.reduceBNe, Int.reduceMul, Nat.reduceBEq, Nat.reduceBNe, Nat.reduceLT, Nat.reduceLeDiff, Nat.reduceMul, Nat.reduceEqDiff, WD, effB, effH, isPriv, isHeap, isImm, Option.any_some, Option.any_none, Option.isSome_none, chkO, setD, dslot, Bool.toNat_true, Bool.toNat_false, Nat.add_zero, Nat.zero_add, List.append_eq, and_self, ptrCells_some, F22]
  refine wC_loop _ (fun k st' H' => ∃ i : Nat, st' = ⟨L22_1 (.v x) (.v (.int .i64 (i : Int))), [], []⟩ ∧ H' = [] ∧ p ≤ i ∧ i ≤ L.length ∧ k = L.length - i ∧ i + skipN false (L.drop i) = p + skipN false (L.drop p)) (L.length - p) ⟨p, ?_, rfl, Nat.le_refl _, hp, rfl, rfl⟩ ?_
  · simp only [WN, firstReg, growAll, List.foldl_nil, List.foldl_cons, norm, killS, List.set_cons_zero, List.set_cons_succ, List.map_cons, List.map_nil, List.take_nil, List.take_zero, List.length_nil, growOne, List.getD_cons_zero, List.getD_cons_succ, List.length_cons, List.take_succ_cons, List.nil_append, Nat.reduceLT, Nat.reduceAdd, Nat.zero_add, if_true, F22, L22_1, hx.clip2]
  · rintro k st' H' ⟨i, rfl, rfl, hpi, hi, rfl, hs⟩
    simp only [L22_1]
    simp only [WW, partV, eqCells, eqLf, minV, maxV, ifcV, List.map_cons, List.map_nil, List.length_cons, List.length_nil, List.getD_cons_zero, List.getD_cons_succ, List.set_cons_zero, List.set_cons_succ, List.set_nil, ofConst, ofConst1, List.replicate, List.cons_append, List.nil_append, loadOp, Go.Abs.loadCells, binV, Int.toNat_natCast, pickV, List.getElem?_cons_zero, List.getElem?_cons_succ, Option.map_some, Option.bind_some, List.drop_zero, List.drop_succ_cons, List.take_succ_cons, List.take_zero, List.length_map, outR, resAll, resOne, if_true, if_false, and_true, true_and, Bool.true_eq_false, Bool.false_eq_true, forall_const, true_implies, false_implies, implies_true, decide_true, decide_false, beq_self_eq_true, Option.getD_some, Nat.zero_add, Nat.add_zero, storeOp, storeCell, overlay, List.take_nil, List.drop_nil, List.append_nil, lookupOp, keyT, okRes, mapUpdateOp, Bool.and_self, Bool.and_true, Bool.true_and, Bool.not_true, Bool.not_false, gt_iff_lt, ge_iff_le, Nat.reduceSub, Nat.reduceAdd, Int.reduceLT, Int.reduceLE, Int.reduceAdd, Int.reduceSub, Int.reduceToNat, Int.reduceBEq, Int.reduceBNe, Int.reduceMul, Nat.reduceBEq, Nat.reduceBNe, Nat.reduceLT, Nat.reduceLeDiff, Nat.reduceMul, Nat.reduceEqDiff, WD, effB, effH, isPriv, isHeap, isImm, Option.any_some, Option.any_none, Option.isSome_none, chkO, setD, dslot, Bool.toNat_true, Bool.toNat_false, Nat.add_zero, Nat.zero_add, List.append_eq, and_self, ptrCells_some, F22, hx.shutIn, hx.len, by8_len]
    refine cSplit (fun hlt => ?_) (fun hge => ?_)
    · have hi2 : i < L.length := by have := of_decide_eq_true hlt; omega
      have hc : L[i]? = some L[i] := List.getElem?_eq_getElem hi2
      generalize L[i] = c at hc
      have hc8 : (by8 L)[i]? = some (byteV c) := by simp [by8, hc]
      have hat := hx.at_ (sz := 1) hc8 rfl
      have hq1 : IntKind.i64.wrap ((i : Int) + 1) = ((i + 1 : Nat) : Int) := by rw [IntWalk.i64_in _ (by omega)]; omega
      have e35 : (((c.toNat : Nat) : Int) == 35) = (c == 35) := u8b c 35
      have n32 : (((c.toNat : Nat) : Int) != 32) = !(c == 32) := u8n c 32
      have n9 : (((c.toNat : Nat) : Int) != 9) = !(c == 9) := u8n c 9
      have n10 : (((c.toNat : Nat) : Int) != 10) = !(c == 10) := u8n c 10
      have n13 : (((c.toNat : Nat) : Int) != 13) = !(c == 13) := u8n c 13
      simp only [hlt]
      simp only [WW, partV, eqCells, eqLf, minV, maxV, ifcV, List.map_cons, List.map_nil, List.length_cons, List.length_nil, List.getD_cons_zero, List.getD_cons_succ, List.set_cons_zero, List.set_cons_succ, List.set_nil, ofConst, ofConst1, List.replicate, List.cons_append, List.nil_append, loadOp, Go.Abs.loadCells, binV, Int.toNat_natCast, pickV, List.getElem?_cons_zero, List.getElem?_cons_succ, Option.map_some, Option.bind_some, List.drop_zero, List.drop_succ_cons, List.take_succ_cons, List.take_zero, List.length_map, outR, resAll, resOne, if_true, if_false, and_true, true_and, Bool.true_eq_false, Bool.false_eq_true, forall_const, true_implies, false_implies, implies_true, decide_true, decide_false, beq_self_eq_true, Option.getD_some, Nat.zero_add, Nat.add_zero, storeOp, storeCell, overlay, List.take_nil, List.drop_nil, List.append_nil, lookupOp, keyT, okRes, mapUpdateOp, Bool.and_self, Bool.and_true, Bool.true_and, Bool.not_true, Bool.not_false, gt_iff_lt, ge_iff_le, Nat.reduceSub, Nat.reduceAdd, Int.reduceLT, Int.reduceLE, Int.reduceAdd, Int.reduceSub, Int.reduceToNat, Int.reduceBEq, Int.reduceBNe, Int.reduceMul, Nat.reduceBEq, Nat.reduceBNe, Nat.reduceLT, Nat.reduceLeDiff, Nat.reduceMul, Nat.reduceEqDiff, WD, effB, effH, isPriv, isHeap, isImm, Option.any_some, Option.any_none, Option.isSome_none, chkO, setD, dslot, Bool.toNat_true, Bool.toNat_false, Nat.add_zero, Nat.zero_add, List.append_eq, and_self, ptrCells_some, F22, hx.shutIn, hat.at1 hx, hat.cells, byteV]
      cases h35 : (c == 35) with
      | true =>
        obtain rfl : c = 35 := by simpa using h35
        simp only [WW, partV, eqCells, eqLf, minV, maxV, ifcV, List.map_cons, List.map_nil, List.length_cons, List.length_nil, List.getD_cons_zero, List.getD_cons_succ, List.set_cons_zero, List.set_cons_succ, List.set_nil, ofConst, ofConst1, List.replicate, List.cons_append, List.nil_append, loadOp, Go.Abs.loadCells, binV, Int.toNat_natCast, pickV, List.getElem?_cons_zero, List.getElem?_cons_succ, Option.map_some, Option.bind_some, List.drop_zero, List.drop_succ_cons, List.take_succ_cons, List.take_zero, List.length_map, outR, resAll, resOne, if_true, if_false, and_true, true_and, Bool.true_eq_false, Bool.false_eq_true, forall_const, true_implies, false_implies, implies_true, decide_true, decide_false, beq_self_eq_true, Option.getD_some, Nat.zero_add, Nat.add_zero, storeOp, storeCell, overlay, List.take_nil, List.drop_nil, List.append_nil, lookupOp, keyT, okRes, mapUpdateOp, Bool.and_self, Bool.and_true, Bool.true_and, Bool.not_true, Bool.not_false, gt_iff_lt, ge_iff_le, Nat.reduceSub, Nat.reduceAdd, Int.reduceLT, Int.reduceLE, Int.reduceAdd, Int.reduceSub, Int.reduceToNat, Int.reduceBEq, Int.reduceBNe, Int.reduceMul, Nat.reduceBEq, Nat.reduceBNe, Nat.reduceLT, Nat.reduceLeDiff, Nat.reduceMul, Nat.reduceEqDiff, WD, effB, effH, isPriv, isHeap, isImm, Option.any_some, Option.any_none, Option.isSome_none, chkO, setD, dslot, Bool.toNat_true, Bool.toNat_false, Nat.add_zero, Nat.zero_add, List.append_eq, and_self, ptrCells_some, F22, e35, h35]
        refine wC_loop _ (fun k st' H' => ∃ j : Nat, st' = ⟨L22_4 (.v x) (.v (.int .i64 (j : Int))), [], []⟩ ∧ H' = [] ∧ i ≤ j ∧ j ≤ L.length ∧ k = L.length - j ∧ j + skipN true (L.drop j) = p + skipN false (L.drop p)) (L.length - i) ⟨i, ?_, rfl, Nat.le_refl _, hi, rfl, ?_⟩ ?_
        · simp only [WN, firstReg, growAll, List.foldl_nil, List.foldl_cons, norm, killS, List.set_cons_zero, List.set_cons_succ, List.map_cons, List.map_nil, List.take_nil, List.take_zero, List.length_nil, growOne, List.getD_cons_zero, List.getD_cons_succ, List.length_cons, List.take_succ_cons, List.nil_append, Nat.reduceLT, Nat.reduceAdd, Nat.zero_add, if_true, F22, L22_4, hx.clip2]
        · rw [drop_cons hc, skip_hash] at hs ⊢; exact hs
        · rintro k st' H' ⟨j, rfl, rfl, hij, hj, rfl, hjs⟩
          simp only [L22_4]
          simp only [WW, partV, eqCells, eqLf, minV, maxV, ifcV, List.map_cons, List.map_nil, List.length_cons, List.length_nil, List.getD_cons_zero, List.getD_cons_succ, List.set_cons_zero, List.set_cons_succ, List.set_nil, ofConst, ofConst1, List.replicate, List.cons_append, List.nil_append, loadOp, Go.Abs.loadCells, binV, Int.toNat_natCast, pickV, List.getElem?_cons_zero, List.getElem?_cons_succ, Option.map_some, Option.bind_some, List.drop_zero, List.drop_succ_cons, List.take_succ_cons, List.take_zero, List.length_map, outR, resAll, resOne, if_true, if_false, and_true, true_and, Bool.true_eq_false, Bool.false_eq_true, forall_const, true_implies, false_implies, implies_true, decide_true, decide_false, beq_self_eq_true, Option.getD_some, Nat.zero_add, Nat.add_zero, storeOp, storeCell, overlay, List.take_nil, List.drop_nil, List.append_nil, lookupOp, keyT, okRes, mapUpdateOp, Bool.and_self, Bool.and_true, Bool.true_and, Bool.not_true, Bool.not_false, gt_iff_lt, ge_iff_le, Nat.reduceSub, Nat.reduceAdd, Int.reduceLT, Int.reduceLE, Int.reduceAdd, Int.reduceSub, Int.reduceToNat, Int.reduceBEq, Int.reduceBNe, Int.reduceMul, Nat.reduceBEq, Nat.reduceBNe, Nat.reduceLT, Nat.reduceLeDiff, Nat.reduceMul, Nat.reduceEqDiff, WD, effB, effH, isPriv, isHeap, isImm, Option.any_some, Option.any_none, Option.isSome_none, chkO, setD, dslot, Bool.toNat_true, Bool.toNat_false, Nat.add_zero, Nat.zero_add, List.append_eq, and_self, ptrCells_some, F22, hx.shutIn, hx.len, by8_len]
          cases hlj : decide ((j : Int) < (L.length : Int)) with
          | true =>
            have hj2 : j < L.length := by have := of_decide_eq_true hlj; omega
            have hcj : L[j]? = some L[j] := List.getElem?_eq_getElem hj2
            generalize L[j] = cj at hcj
            have hcj8 : (by8 L)[j]? = some (byteV cj) := by simp [by8, hcj]
            have hatj := hx.at_ (sz := 1) hcj8 rfl
            have hqj : IntKind.i64.wrap ((j : Int) + 1) = ((j + 1 : Nat) : Int) := by rw [IntWalk.i64_in _ (by omega)]; omega
            have m10 : (((cj.toNat : Nat) : Int) != 10) = !(cj == 10) := u8n cj 10
            simp only [WW, partV, eqCells, eqLf, minV, maxV, ifcV, List.map_cons, List.map_nil, List.length_cons, List.length_nil, List.getD_cons_zero, List.getD_cons_succ, List.set_cons_zero, List.set_cons_succ, List.set_nil, ofConst, ofConst1, List.replicate, List.cons_append, List.nil_append, loadOp, Go.Abs.loadCells, binV, Int.toNat_natCast, pickV, List.getElem?_cons_zero, List.getElem?_cons_succ, Option.map_some, Option.bind_some, List.drop_zero, List.drop_succ_cons, List.take_succ_cons, List.take_zero, List.length_map, outR, resAll, resOne, if_true, if_false, and_true, true_and, Bool.true_eq_false, Bool.false_eq_true, forall_const, true_implies, false_implies, implies_true, decide_true, decide_false, beq_self_eq_true, Option.getD_some, Nat.zero_add, Nat.add_zero, storeOp, storeCell, overlay, List.take_nil, List.drop_nil, List.append_nil, lookupOp, keyT, okRes, mapUpdateOp, Bool.and_self, Bool.and_true, Bool.true_and, Bool.not_true, Bool.not_false, gt_iff_lt, ge_iff_le, Nat.reduceSub, Nat.reduceAdd, Int.reduceLT, Int.reduceLE, Int.reduceAdd, Int.reduceSub, Int.reduceToNat, Int.reduceBEq, Int.reduceBNe, Int.reduceMul, Nat.reduceBEq, Nat.reduceBNe, Nat.reduceLT, Nat.reduceLeDiff, Nat.reduceMul, Nat.reduceEqDiff, WD, effB, effH, isPriv, isHeap, isImm, Option.any_some, Option.any_none, Option.isSome_none, chkO, setD, dslot, Bool.toNat_true, Bool.toNat_false, Nat.add_zero, Nat.zero_add, List.append_eq, and_self, ptrCells_some, F22, hlj, hx.shutIn, hatj.at1 hx, hatj.cells, byteV, m10]
            rw [drop_cons hcj] at hjs
            cases h10 : (cj == 10) with
            | true =>
              obtain rfl : cj = 10 := by simpa using h10
              simp only [WW, partV, eqCells, eqLf, minV, maxV, ifcV, List.map_cons, List.map_nil, List.length_cons, List.length_nil, List.getD_cons_zero, List.getD_cons_succ, List.set_cons_zero, List.set_cons_succ, List.set_nil, ofConst, ofConst1, List.replicate, List.cons_append, List.nil_append, loadOp, Go.Abs.loadCells, binV, Int.toNat_natCast, pickV, List.getElem?_cons_zero, List.getElem?_cons_succ, Option.map_some, Option.bind_some, List.drop_zero, List.drop_succ_cons, List.take_succ_cons, List.take_zero, List.length_map, outR, resAll, resOne, if_true, if_false, and_true, true_and, Bool.true_eq_false, Bool.false_eq_true, forall_const, true_implies, false_implies, implies_true, decide_true, decide_false, beq_self_eq_true, Option.getD_some, Nat.zero_add, Nat.add_zero, storeOp, storeCell, overlay, List.take_nil, List.drop_nil, List.append_nil, lookupOp, keyT, okRes, mapUpdateOp, Bool.and_self, Bool.and_true, Bool.true_and, Bool.not_true, Bool.not_false, gt_iff_lt, ge_iff_le, Nat.reduceSub, Nat.reduceAdd, Int.reduceLT, Int.reduceLE, Int.reduceAdd, Int.reduceSub, Int.reduceToNat, Int.reduceBEq, Int.reduceBNe, Int.reduceMul, Nat.reduceBEq, Nat.reduceBNe, Nat.reduceLT, Nat.reduceLeDiff, Nat.reduceMul, Nat.reduceEqDiff, WD, effB, effH, isPriv, isHeap, isImm, Option.any_some, Option.any_none, Option.isSome_none, chkO, setD, dslot, Bool.toNat_true, Bool.toNat_false, Nat.add_zero, Nat.zero_add, List.append_eq, and_self, ptrCells_some, F22]
              have hne : i ≠ j := by rintro rfl; rw [hc] at hcj; cases hcj
              refine ⟨L.length - j, by omega, j, ?_, by omega, hj, rfl, ?_⟩
              · simp only [WN, firstReg, growAll, List.foldl_nil, List.foldl_cons, norm, killS, List.set_cons_zero, List.set_cons_succ, List.map_cons, List.map_nil, List.take_nil, List.take_zero, List.length_nil, growOne, List.getD_cons_zero, List.getD_cons_succ, List.length_cons, List.take_succ_cons, List.nil_append, Nat.reduceLT, Nat.reduceAdd, Nat.zero_add, if_true, F22, hx.clip2]
              · rw [drop_cons hcj, skip_ten]; rw [skip_ten] at hjs; exact hjs
            | false =>
              have n10' : cj ≠ 10 := by simpa using h10
              simp only [WW, partV, eqCells, eqLf, minV, maxV, ifcV, List.map_cons, List.map_nil, List.length_cons, List.length_nil, List.getD_cons_zero, List.getD_cons_succ, List.set_cons_zero, List.set_cons_succ, List.set_nil, ofConst, ofConst1, List.replicate, List.cons_append, List.nil_append, loadOp, Go.Abs.loadCells, binV, Int.toNat_natCast, pickV, List.getElem?_cons_zero, List.getElem?_cons_succ, Option.map_some, Option.bind_some, List.drop_zero, List.drop_succ_cons, List.take_succ_cons, List.take_zero, List.length_map, outR, resAll, resOne, if_true, if_false, and_true, true_and, Bool.true_eq_false, Bool.false_eq_true, forall_const, true_implies, false_implies, implies_true, decide_true, decide_false, beq_self_eq_true, Option.getD_some, Nat.zero_add, Nat.add_zero, storeOp, storeCell, overlay, List.take_nil, List.drop_nil, List.append_nil, lookupOp, keyT, okRes, mapUpdateOp, Bool.and_self, Bool.and_true, Bool.true_and, Bool.not_true, Bool.not_false, gt_iff_lt, ge_iff_le, Nat.reduceSub, Nat.reduceAdd, Int.reduceLT, Int.reduceLE, Int.reduceAdd, Int.reduceSub, Int.reduceToNat, Int.reduceBEq, Int.reduceBNe, Int.reduceMul, Nat.reduceBEq, Nat.reduceBNe, Nat.reduceLT, Nat.reduceLeDiff, Nat.reduceMul, Nat.reduceEqDiff, WD, effB, effH, isPriv, isHeap, isImm, Option.any_some, Option.any_none, Option.isSome_none, chkO, setD, dslot, Bool.toNat_true, Bool.toNat_false, Nat.add_zero, Nat.zero_add, List.append_eq, and_self, ptrCells_some, F22, hqj]
              refine ⟨L.length - (j + 1), by omega, j + 1, ?_, by omega, by omega, rfl, ?_⟩
              · simp only [WN, firstReg, growAll, List.foldl_nil, List.foldl_cons, norm, killS, List.set_cons_zero, List.set_cons_succ, List.map_cons, List.map_nil, List.take_nil, List.take_zero, List.length_nil, growOne, List.getD_cons_zero, List.getD_cons_succ, List.length_cons, List.take_succ_cons, List.nil_append, Nat.reduceLT, Nat.reduceAdd, Nat.zero_add, if_true, F22, hx.clip2, hqj]
              · rw [skip_note n10'] at hjs; omega
          | false =>
            have hj2 : j = L.length := by have := of_decide_eq_false hlj; omega
            simp only [WW, partV, eqCells, eqLf, minV, maxV, ifcV, List.map_cons, List.map_nil, List.length_cons, List.length_nil, List.getD_cons_zero, List.getD_cons_succ, List.set_cons_zero, List.set_cons_succ, List.set_nil, ofConst, ofConst1, List.replicate, List.cons_append, List.nil_append, loadOp, Go.Abs.loadCells, binV, Int.toNat_natCast, pickV, List.getElem?_cons_zero, List.getElem?_cons_succ, Option.map_some, Option.bind_some, List.drop_zero, List.drop_succ_cons, List.take_succ_cons, List.take_zero, List.length_map, outR, resAll, resOne, if_true, if_false, and_true, true_and, Bool.true_eq_false, Bool.false_eq_true, forall_const, true_implies, false_implies, implies_true, decide_true, decide_false, beq_self_eq_true, Option.getD_some, Nat.zero_add, Nat.add_zero, storeOp, storeCell, overlay, List.take_nil, List.drop_nil, List.append_nil, lookupOp, keyT, okRes, mapUpdateOp, Bool.and_self, Bool.and_true, Bool.true_and, Bool.not_true, Bool.not_false, gt_iff_lt, ge_iff_le, Nat.reduceSub, Nat.reduceAdd, Int.reduceLT, Int.reduceLE, Int.reduceAdd, Int.reduceSub, Int.reduceToNat, Int.reduceBEq, Int.reduceBNe, Int.reduceMul, Nat.reduceBEq, Nat.reduceBNe, Nat.reduceLT, Nat.reduceLeDiff, Nat.reduceMul, Nat.reduceEqDiff, WD, effB, effH, isPriv, isHeap, isImm, Option.any_some, Option.any_none, Option.isSome_none, chkO, setD, dslot, Bool.toNat_true, Bool.toNat_false, Nat.add_zero, Nat.zero_add, List.append_eq, and_self, ptrCells_some, F22, hlj]
            refine ⟨L.length - j, by omega, j, ?_, by omega, hj, rfl, ?_⟩
            · simp only [WN, firstReg, growAll, List.foldl_nil, List.foldl_cons, norm, killS, List.set_cons_zero, List.set_cons_succ, List.map_cons, List.map_nil, List.take_nil, List.take_zero, List.length_nil, growOne, List.getD_cons_zero, List.getD_cons_succ, List.length_cons, List.take_succ_cons, List.nil_append, Nat.reduceLT, Nat.reduceAdd, Nat.zero_add, if_true, F22, hx.clip2]
            · rw [List.drop_of_length_le (by omega)] at hjs ⊢; exact hjs
      | false =>
        have h35' : c ≠ 35 := by simpa using h35
        rw [drop_cons hc] at hs
        have hgo : (c = 32 ∨ c = 9 ∨ c = 10 ∨ c = 13) → skipN false (c :: L.drop (i + 1)) = 1 + skipN false (L.drop (i + 1)) := fun h => skip_blank h _
        cases h32 : (c == 32) with
        | true =>
          rw [hgo (.inl (by simpa using h32))] at hs
          simp only [WW, partV, eqCells, eqLf, minV, maxV, ifcV, List.map_cons, List.map_nil, List.length_cons, List.length_nil, List.getD_cons_zero, List.getD_cons_succ, List.set_cons_zero, List.set_cons_succ, List.set_nil, ofConst, ofConst1, List.replicate, List.cons_append, List.nil_append, loadOp, Go.Abs.loadCells, binV, Int.toNat_natCast, pickV, List.getElem?_cons_zero, List.getElem?_cons_succ, Option.map_some, Option.bind_some, List.drop_zero, List.drop_succ_cons, List.take_succ_cons, List.take_zero, List.length_map, outR, resAll, resOne, if_true, if_false, and_true, true_and, Bool.true_eq_false, Bool.false_eq_true, forall_const, true_implies, false_implies, implies_true, decide_true, decide_false, beq_self_eq_true, Option.getD_some, Nat.zero_add, Nat.add_zero, storeOp, storeCell, overlay, List.take_nil, List.drop_nil, List.append_nil, lookupOp, keyT, okRes, mapUpdateOp, Bool.and_self, Bool.and_true, Bool.true_and, Bool.not_true, Bool.not_false, gt_iff_lt, ge_iff_le, Nat.reduceSub, Nat.reduceAdd, Int.reduceLT, Int.reduceLE, Int.reduceAdd, Int.reduceSub, Int.reduceToNat, Int.reduceBEq, Int.reduceBNe, Int.reduceMul, Nat.reduceBEq, Nat.reduceBNe, Nat.reduceLT, Nat.reduceLeDiff, Nat.reduceMul, Nat.reduceEqDiff, WD, effB, effH, isPriv, isHeap, isImm, Option.any_some, Option.any_none, Option.isSome_none, chkO, setD, dslot, Bool.toNat_true, Bool.toNat_false, Nat.add_zero, Nat.zero_add, List.append_eq, and_self, ptrCells_some, F22, e35, h35, n32, n9, n10, n13, h32, hq1]
          refine ⟨L.length - (i + 1), by omega, i + 1, ?_, by omega, by omega, rfl, by omega⟩
          simp only [WN, firstReg, growAll, List.foldl_nil, List.foldl_cons, norm, killS, List.set_cons_zero, List.set_cons_succ, List.map_cons, List.map_nil, List.take_nil, List.take_zero, List.length_nil, growOne, List.getD_cons_zero, List.getD_cons_succ, List.length_cons, List.take_succ_cons, List.nil_append, Nat.reduceLT, Nat.reduceAdd, Nat.zero_add, if_true, F22, hx.clip2, hq1]
        | false =>
          cases h9 : (c == 9) with
          | true =>
            rw [hgo (.inr (.inl (by simpa using h9)))] at hs
            simp only [WW, partV, eqCells, eqLf, minV, maxV, ifcV, List.map_cons, List.map_nil, List.length_cons, List.length_nil, List.getD_cons_zero, List.getD_cons_succ, List.set_cons_zero, List.set_cons_succ, List.set_nil, ofConst, ofConst1, List.replicate, List.cons_append, List.nil_append, loadOp, Go.Abs.loadCells, binV, Int.toNat_natCast, pickV, List.getElem?_cons_zero, List.getElem?_cons_succ, Option.map_some, Option.bind_some, List.drop_zero, List.drop_succ_cons, List.take_succ_cons, List.take_zero, List.length_map, outR, resAll, resOne, if_true, if_false, and_true, true_and, Bool.true_eq_false, Bool.false_eq_true, forall_const, true_implies, false_implies, implies_true, decide_true, decide_false, beq_self_eq_true, Option.getD_some, Nat.zero_add, Nat.add_zero, storeOp, storeCell, overlay, List.take_nil, List.drop_nil, List.append_nil, lookupOp, keyT, okRes, mapUpdateOp, Bool.and_self, Bool.and_true, Bool.true_and, Bool.not_true, Bool.not_false, gt_iff_lt, ge_iff_le, Nat.reduceSub, Nat.reduceAdd, Int.reduceLT, Int.reduceLE, Int.reduceAdd, Int.reduceSub, Int.reduceToNat, Int.reduceBEq, Int.reduceBNe, Int.reduceMul, Nat.reduceBEq, Nat.reduceBNe, Nat.reduceLT, Nat.reduceLeDiff, Nat.reduceMul, Nat.reduceEqDiff, WD, effB, effH, isPriv, isHeap, isImm, Option.any_some, Option.any_none, Option.isSome_none, chkO, setD, dslot, Bool.toNat_true, Bool.toNat_false, Nat.add_zero, Nat.zero_add, List.append_eq, and_self, ptrCells_some, F22, e35, h35, n32, n9, n10, n13, h32, h9, hq1]
            refine ⟨L.length - (i + 1), by omega, i + 1, ?_, by omega, by omega, rfl, by omega⟩
            simp only [WN, firstReg, growAll, List.foldl_nil, List.foldl_cons, norm, killS, List.set_cons_zero, List.set_cons_succ, List.map_cons, List.map_nil, List.take_nil, List.take_zero, List.length_nil, growOne, List.getD_cons_zero, List.getD_cons_succ, List.length_cons, List.take_succ_cons, List.nil_append, Nat.reduceLT, Nat.reduceAdd, Nat.zero_add, if_true, F22, hx.clip2, hq1]
          | false =>
            cases h10 : (c == 10) with
            | true =>
              rw [hgo (.inr (.inr (.inl (by simpa using h10))))] at hs
              simp only [WW, partV, eqCells, eqLf, minV, maxV, ifcV, List.map_cons, List.map_nil, List.length_cons, List.length_nil, List.getD_cons_zero, List.getD_cons_succ, List.set_cons_zero, List.set_cons_succ, List.set_nil, ofConst, ofConst1, List.replicate, List.cons_append, List.nil_append, loadOp, Go.Abs.loadCells, binV, Int.toNat_natCast, pickV, List.getElem?_cons_zero, List.getElem?_cons_succ, Option.map_some, Option.bind_some, List.drop_zero, List.drop_succ_cons, List.take_succ_cons, List.take_zero, List.length_map, outR, resAll, resOne, if_true, if_false, and_true, true_and, Bool.true_eq_false, Bool.false_eq_true, forall_const, true_implies, false_implies, implies_true, decide_true, decide_false, beq_self_eq_true, Option.getD_some, Nat.zero_add, Nat.add_zero, storeOp, storeCell, overlay, List.take_nil, List.drop_nil, List.append_nil, lookupOp, keyT, okRes, mapUpdateOp, Bool.and_self, Bool.and_true, Bool.true_and, Bool.not_true, Bool.not_false, gt_iff_lt, ge_iff_le, Nat.reduceSub, Nat.reduceAdd, Int.reduceLT, Int.reduceLE, Int.reduceAdd, Int.reduceSub, Int.reduceToNat, Int.reduceBEq, Int.reduceBNe, Int.reduceMul, Nat.reduceBEq, Nat.reduceBNe, Nat.reduceLT, Nat.reduceLeDiff, Nat.reduceMul, Nat.reduceEqDiff, WD, effB, effH, isPriv, isHeap, isImm, Option.any_some, Option.any_none, Option.isSome_none, chkO, setD, dslot, Bool.toNat_true, Bool.toNat_false, Nat.add_zero, Nat.zero_add, List.append_eq, and_self, ptrCells_some, F22, e35, h35, n32, n9, n10, n13, h32, h9, h10, hq1]
              refine ⟨L.length - (i + 1), by omega, i + 1, ?_, by omega, by omega, rfl, by omega⟩
              simp only [WN, firstReg, growAll, List.foldl_nil, List.foldl_cons, norm, killS, List.set_cons_zero, List.set_cons_succ, List.map_cons, List.map_nil, List.take_nil, List.take_zero, List.length_nil, growOne, List.getD_cons_zero, List.getD_cons_succ, List.length_cons, List.take_succ_cons, List.nil_append, Nat.reduceLT, Nat.reduceAdd, Nat.zero_add, if_true, F22, hx.clip2, hq1]
            | false =>
              cases h13 : (c == 13) with
              | true =>
                rw [hgo (.inr (.inr (.inr (by simpa using h13))))] at hs
                simp only [WW, partV, eqCells, eqLf, minV, maxV, ifcV, List.map_cons, List.map_nil, List.length_cons, List.length_nil, List.getD_cons_zero, List.getD_cons_succ, List.set_cons_zero, List.set_cons_succ, List.set_nil, ofConst, ofConst1, List.replicate, List.cons_append, List.nil_append, loadOp, Go.Abs.loadCells, binV, Int.toNat_natCast, pickV, List.getElem?_cons_zero, List.getElem?_cons_succ, Option.map_some, Option.bind_some, List.drop_zero, List.drop_succ_cons, List.take_succ_cons, List.take_zero, List.length_map, outR, resAll, resOne, if_true, if_false, and_true, true_and, Bool.true_eq_false, Bool.false_eq_true, forall_const, true_implies, false_implies, implies_true, decide_true, decide_false, beq_self_eq_true, Option.getD_some, Nat.zero_add, Nat.add_zero, storeOp, storeCell, overlay, List.take_nil, List.drop_nil, List.append_nil, lookupOp, keyT, okRes, mapUpdateOp, Bool.and_self, Bool.and_true, Bool.true_and, Bool.not_true, Bool.not_false, gt_iff_lt, ge_iff_le, Nat.reduceSub, Nat.reduceAdd, Int.reduceLT, Int.reduceLE, Int.reduceAdd, Int.reduceSub, Int.reduceToNat, Int.reduceBEq, Int.reduceBNe, Int.reduceMul, Nat.reduceBEq, Nat.reduceBNe, Nat.reduceLT, Nat.reduceLeDiff, Nat.reduceMul, Nat.reduceEqDiff, WD, effB, effH, isPriv, isHeap, isImm, Option.any_some, Option.any_none, Option.isSome_none, chkO, setD, dslot, Bool.toNat_true, Bool.toNat_false, Nat.add_zero, Nat.zero_add, List.append_eq, and_self, ptrCells_some, F22, e35, h35, n32, n9, n10, n13, h32, h9, h10, h13, hq1]
                refine ⟨L.length - (i + 1), by omega, i + 1, ?_, by omega, by omega, rfl, by omega⟩
                simp only [WN, firstReg, growAll, List.foldl_nil, List.foldl_cons, norm, killS, List.set_cons_zero, List.set_cons_succ, List.map_cons, List.map_nil, List.take_nil, List.take_zero, List.length_nil, growOne, List.getD_cons_zero, List.getD_cons_succ, List.length_cons, List.take_succ_cons, List.nil_append, Nat.reduceLT, Nat.reduceAdd, Nat.zero_add, if_true, F22, hx.clip2, hq1]
              | false =>
                rw [skip_none (by simpa using h32) (by simpa using h9) (by simpa using h10) (by simpa using h13) h35'] at hs
                simp only [WW, partV, eqCells, eqLf, minV, maxV, ifcV, List.map_cons, List.map_nil, List.length_cons, List.length_nil, List.getD_cons_zero, List.getD_cons_succ, List.set_cons_zero, List.set_cons_succ, List.set_nil, ofConst, ofConst1, List.replicate, List.cons_append, List.nil_append, loadOp, Go.Abs.loadCells, binV, Int.toNat_natCast, pickV, List.getElem?_cons_zero, List.getElem?_cons_succ, Option.map_some, Option.bind_some, List.drop_zero, List.drop_succ_cons, List.take_succ_cons, List.take_zero, List.length_map, outR, resAll, resOne, if_true, if_false, and_true, true_and, Bool.true_eq_false, Bool.false_eq_true, forall_const, true_implies, false_implies, implies_true, decide_true, decide_false, beq_self_eq_true, Option.getD_some, Nat.zero_add, Nat.add_zero, storeOp, storeCell, overlay, List.take_nil, List.drop_nil, List.append_nil, lookupOp, keyT, okRes, mapUpdateOp, Bool.and_self, Bool.and_true, Bool.true_and, Bool.not_true, Bool.not_false, gt_iff_lt, ge_iff_le, Nat.reduceSub, Nat.reduceAdd, Int.reduceLT, Int.reduceLE, Int.reduceAdd, Int.reduceSub, Int.reduceToNat, Int.reduceBEq, Int.reduceBNe, Int.reduceMul, Nat.reduceBEq, Nat.reduceBNe, Nat.reduceLT, Nat.reduceLeDiff, Nat.reduceMul, Nat.reduceEqDiff, WD, effB, effH, isPriv, isHeap, isImm, Option.any_some, Option.any_none, Option.isSome_none, chkO, setD, dslot, Bool.toNat_true, Bool.toNat_false, Nat.add_zero, Nat.zero_add, List.append_eq, and_self, ptrCells_some, F22, e35, h35, n32, n9, n10, n13, h32, h9, h10, h13]
                rw [← hs]
                exact ⟨rfl, rfl⟩
    · have hi2 : i = L.length := by have := of_decide_eq_false hge; omega
      simp only [hge]
      simp only [WW, partV, eqCells, eqLf, minV, maxV, ifcV, List.map_cons, List.map_nil, List.length_cons, List.length_nil, List.getD_cons_zero, List.getD_cons_succ, List.set_cons_zero, List.set_cons_succ, List.set_nil, ofConst, ofConst1, List.replicate, List.cons_append, List.nil_append, loadOp, Go.Abs.loadCells, binV, Int.toNat_natCast, pickV, List.getElem?_cons_zero, List.getElem?_cons_succ, Option.map_some, Option.bind_some, List.drop_zero, List.drop_succ_cons, List.take_succ_cons, List.take_zero, List.length_map, outR, resAll, resOne, if_true, if_false, and_true, true_and, Bool.true_eq_false, Bool.false_eq_true, forall_const, true_implies, false_implies, implies_true, decide_true, decide_false, beq_self_eq_true, Option.getD_some, Nat.zero_add, Nat.add_zero, storeOp, storeCell, overlay, List.take_nil, List.drop_nil, List.append_nil, lookupOp, keyT, okRes, mapUpdateOp, Bool.and_self, Bool.and_true, Bool.true_and, Bool.not_true, Bool.not_false, gt_iff_lt, ge_iff_le, Nat.reduceSub, Nat.reduceAdd, Int.reduceLT, Int.reduceLE, Int.reduceAdd, Int.reduceSub, Int.reduceToNat, Int.reduceBEq, Int.reduceBNe, Int.reduceMul, Nat.reduceBEq, Nat.reduceBNe, Nat.reduceLT, Nat.reduceLeDiff, Nat.reduceMul, Nat.reduceEqDiff, WD, effB, effH, isPriv, isHeap, isImm, Option.any_some, Option.any_none, Option.isSome_none, chkO, setD, dslot, Bool.toNat_true, Bool.toNat_false, Nat.add_zero, Nat.zero_add, List.append_eq, and_self, ptrCells_some, F22]
      rw [List.drop_of_length_le (by omega)] at hs
      rw [← hs]
      exact ⟨rfl, rfl⟩
def hexs : List UInt8 := [48, 49, 50, 51, 52, 53, 54, 55, 56, 57, 97, 98, 99, 100, 101, 102, 65, 66, 67, 68, 69, 70]
theorem hex_at (c : UInt8) (i : Nat) (h : hexs[i]? = some c) : hexI c = if 15 < i then ((i - 6 : Nat) : Int) else (i : Int) := by
  have hi : i < 22 := (List.getElem?_eq_some_iff.1 h).1
  match i, hi with
  | 0, _ => cases h; rfl
  | 1, _ => cases h; rfl
  | 2, _ => cases h; rfl
  | 3, _ => cases h; rfl
  | 4, _ => cases h; rfl
  | 5, _ => cases h; rfl
  | 6, _ => cases h; rfl
  | 7, _ => cases h; rfl
  | 8, _ => cases h; rfl
  | 9, _ => cases h; rfl
  | 10, _ => cases h; rfl
  | 11, _ => cases h; rfl
  | 12, _ => cases h; rfl
  | 13, _ => cases h; rfl
  | 14, _ => cases h; rfl
  | 15, _ => cases h; rfl
  | 16, _ => cases h; rfl
  | 17, _ => cases h; rfl
  | 18, _ => cases h; rfl
  | 19, _ => cases h; rfl
  | 20, _ => cases h; rfl
  | 21, _ => cases h; rfl
  | n + 22, hh => omega
theorem hex_none (c : UInt8) (h : c ∉ hexs) : hexI c = -1 := by
  have : hexN c = none := by
    have ne : ∀ k, k ∈ hexs → c ≠ k := fun k hk e => h (e ▸ hk)
    have hn : ∀ k : Nat, k < 256 → (∃ u ∈ hexs, u.toNat = k) → c.toNat ≠ k := fun k _ ⟨u, hu, e⟩ h2 => ne u hu (UInt8.toNat_inj.1 (h2.trans e.symm))
    unfold hexN
    have hlt := c.toNat_lt
    have all : ∀ k : Fin 256, (48 ≤ k.val ∧ k.val ≤ 57) ∨ (97 ≤ k.val ∧ k.val ≤ 102) ∨ (65 ≤ k.val ∧ k.val ≤ 70) → ∃ u ∈ hexs, u.toNat = k.val := by decide +kernel
    by_cases hb : (48 ≤ c.toNat ∧ c.toNat ≤ 57) ∨ (97 ≤ c.toNat ∧ c.toNat ≤ 102) ∨ (65 ≤ c.toNat ∧ c.toNat ≤ 70)
    · exact absurd rfl (hn c.toNat (by omega) (all ⟨c.toNat, by omega⟩ hb))
    · rw [if_neg (by omega), if_neg (by omega), if_neg (by omega)]
  unfold hexI; rw [this]
theorem rhexit_eq (c : UInt8) (H : Hp) : EW 35 [.int .u8 (c.toNat : Int)] H = some (.ret (.int .i64 (hexI c)) false, H) := by
  refine eqOf (runsP f35 b35 r35 n35 _ rfl _ ?_)
  simp only [bodyOf, Tryd.f35, Option.getD_some]
  simp only [WW, partV, eqCells, eqLf, minV, maxV, ifcV, List.map_cons, List.map_nil, List.length_cons, List.length_nil, List.getD_cons_zero, List.getD_cons_succ, List.set_cons_zero, List.set_cons_succ, List.set_nil, ofConst, ofConst1, List.replicate, List.cons_append, List.nil_append, loadOp, Go.Abs.loadCells, binV, Int.toNat_natCast, pickV, List.getElem?_cons_zero, List.getElem?_cons_succ, Option.map_some, Option.bind_some, List.drop_zero, List.drop_succ_cons, List.take_succ_cons, List.take_zero, List.length_map, outR, resAll, resOne, if_true, if_false, and_true, true_and, Bool.true_eq_false, Bool.false_eq_true, forall_const, true_implies, false_implies, implies_true, decide_true, decide_false, beq_self_eq_true, Option.getD_some, Nat.zero_add, Nat.add_zero, storeOp, storeCell, overlay, List.take_nil, List.drop_nil, List.append_nil, lookupOp, keyT, okRes, mapUpdateOp, Bool.and_self, Bool.and_true, Bool.true_and, Bool.not_true, Bool.not_false, gt_iff_lt, ge_iff_le, Nat.reduceSub, Nat.reduceAdd, Int.reduceLT, Int.reduceLE, Int.reduceAdd, Int.reduceSub, Int.reduceToNat, Int.reduceBEq, Int.reduceBNe, Int.reduceMul, Nat.reduceBEq, Nat.reduceBNe, Nat.reduceLT, Nat.reduceLeDiff, Nat.reduceMul, Nat.reduceEqDiff, WD, effB, effH, isPriv, isHeap, isImm, Option.any_some, Option.any_none, Option.isSome_none, chkO, setD, dslot, Bool.toNat_true, Bool.toNat_false, Nat.add_zero, Nat.zero_add, List.append_eq, and_self, ptrCells_some, F35]
  refine wC_loop _ (fun k st' H' => ∃ i : Nat, st' = ⟨L35_3 (.v (.int .u8 (c.toNat : Int))) (.v (.str ⟨hexs.toArray⟩)) (.v (.int .i64 (i : Int))), [], []⟩ ∧ H' = [] ∧ i ≤ 22 ∧ k = 22 - i ∧ ∀ j u, j < i → hexs[j]? = some u → (u == c) = false) 22 ⟨0, ?_, rfl, by omega, rfl, fun j u hj => by omega⟩ ?_
  · simp only [WN, firstReg, growAll, List.foldl_nil, List.foldl_cons, norm, killS, List.set_cons_zero, List.set_cons_succ, List.map_cons, List.map_nil, List.take_nil, List.take_zero, List.length_nil, growOne, List.getD_cons_zero, List.getD_cons_succ, List.length_cons, List.take_succ_cons, List.nil_append, Nat.reduceLT, Nat.reduceAdd, Nat.zero_add, if_true, F35, L35_3]
    rfl
  · rintro k st' H' ⟨i, rfl, rfl, hi, rfl, hno⟩
    simp only [L35_3]
    have hsz : (⟨hexs.toArray⟩ : ByteArray).size = 22 := rfl
    simp only [WW, partV, eqCells, eqLf, minV, maxV, ifcV, List.map_cons, List.map_nil, List.length_cons, List.length_nil, List.getD_cons_zero, List.getD_cons_succ, List.set_cons_zero, List.set_cons_succ, List.set_nil, ofConst, ofConst1, List.replicate, List.cons_append, List.nil_append, loadOp, Go.Abs.loadCells, binV, Int.toNat_natCast, pickV, List.getElem?_cons_zero, List.getElem?_cons_succ, Option.map_some, Option.bind_some, List.drop_zero, List.drop_succ_cons, List.take_succ_cons, List.take_zero, List.length_map, outR, resAll, resOne, if_true, if_false, and_true, true_and, Bool.true_eq_false, Bool.false_eq_true, forall_const, true_implies, false_implies, implies_true, decide_true, decide_false, beq_self_eq_true, Option.getD_some, Nat.zero_add, Nat.add_zero, storeOp, storeCell, overlay, List.take_nil, List.drop_nil, List.append_nil, lookupOp, keyT, okRes, mapUpdateOp, Bool.and_self, Bool.and_true, Bool.true_and, Bool.not_true, Bool.not_false, gt_iff_lt, ge_iff_le, Nat.reduceSub, Nat.reduceAdd, Int.reduceLT, Int.reduceLE, Int.reduceAdd, Int.reduceSub, Int.reduceToNat, Int.reduceBEq, Int.reduceBNe, Int.reduceMul, Nat.reduceBEq, Nat.reduceBNe, Nat.reduceLT, Nat.reduceLeDiff, Nat.reduceMul, Nat.reduceEqDiff, WD, effB, effH, isPriv, isHeap, isImm, Option.any_some, Option.any_none, Option.isSome_none, chkO, setD, dslot, Bool.toNat_true, Bool.toNat_false, Nat.add_zero, Nat.zero_add, List.append_eq, and_self, ptrCells_some, F35, hsz]
    refine cSplit (fun hlt => ?_) (fun hge => ?_)
    · have hi2 : i < 22 := by have := of_decide_eq_true hlt; omega
      have hlen : hexs.length = 22 := rfl
      have hs : hexs[i]? = some (hexs[i]'(by omega)) := List.getElem?_eq_getElem _
      generalize hexs[i]'_ = u at hs
      have eu : (((u.toNat : Nat) : Int) == ((c.toNat : Nat) : Int)) = (u == c) := u8b u c
      simp only [hlt]
      simp only [WW, partV, eqCells, eqLf, minV, maxV, ifcV, List.map_cons, List.map_nil, List.length_cons, List.length_nil, List.getD_cons_zero, List.getD_cons_succ, List.set_cons_zero, List.set_cons_succ, List.set_nil, ofConst, ofConst1, List.replicate, List.cons_append, List.nil_append, loadOp, Go.Abs.loadCells, binV, Int.toNat_natCast, pickV, List.getElem?_cons_zero, List.getElem?_cons_succ, Option.map_some, Option.bind_some, List.drop_zero, List.drop_succ_cons, List.take_succ_cons, List.take_zero, List.length_map, outR, resAll, resOne, if_true, if_false, and_true, true_and, Bool.true_eq_false, Bool.false_eq_true, forall_const, true_implies, false_implies, implies_true, decide_true, decide_false, beq_self_eq_true, Option.getD_some, Nat.zero_add, Nat.add_zero, storeOp, storeCell, overlay, List.take_nil, List.drop_nil, List.append_nil, lookupOp, keyT, okRes, mapUpdateOp, Bool.and_self, Bool.and_true, Bool.true_and, Bool.not_true, Bool.not_false, gt_iff_lt, ge_iff_le, Nat.reduceSub, Nat.reduceAdd, Int.reduceLT, Int.reduceLE, Int.reduceAdd, Int.reduceSub, Int.reduceToNat, Int.reduceBEq, Int.reduceBNe, Int.reduceMul, Nat.reduceBEq, Nat.reduceBNe, Nat.reduceLT, Nat.reduceLeDiff, Nat.reduceMul, Nat.reduceEqDiff, WD, effB, effH, isPriv, isHeap, isImm, Option.any_some, Option.any_none, Option.isSome_none, chkO, setD, dslot, Bool.toNat_true, Bool.toNat_false, Nat.add_zero, Nat.zero_add, List.append_eq, and_self, ptrCells_some, F35, List.toList_toArray, hs, eu]
      cases h : (u == c) with
      | true =>
        obtain rfl : u = c := by simpa using h
        have hx := hex_at _ i hs
        by_cases h15 : 15 < i
        · have g : decide ((15 : Int) < (i : Int)) = true := decide_eq_true (by omega)
          have hw : IntKind.i64.wrap ((i : Int) - 6) = ((i - 6 : Nat) : Int) := by rw [IntWalk.i64_in _ (by omega)]; omega
          simp only [WW, partV, eqCells, eqLf, minV, maxV, ifcV, List.map_cons, List.map_nil, List.length_cons, List.length_nil, List.getD_cons_zero, List.getD_cons_succ, List.set_cons_zero, List.set_cons_succ, List.set_nil, ofConst, ofConst1, List.replicate, List.cons_append, List.nil_append, loadOp, Go.Abs.loadCells, binV, Int.toNat_natCast, pickV, List.getElem?_cons_zero, List.getElem?_cons_succ, Option.map_some, Option.bind_some, List.drop_zero, List.drop_succ_cons, List.take_succ_cons, List.take_zero, List.length_map, outR, resAll, resOne, if_true, if_false, and_true, true_and, Bool.true_eq_false, Bool.false_eq_true, forall_const, true_implies, false_implies, implies_true, decide_true, decide_false, beq_self_eq_true, Option.getD_some, Nat.zero_add, Nat.add_zero, storeOp, storeCell, overlay, List.take_nil, List.drop_nil, List.append_nil, lookupOp, keyT, okRes, mapUpdateOp, Bool.and_self, Bool.and_true, Bool.true_and, Bool.not_true, Bool.not_false, gt_iff_lt, ge_iff_le, Nat.reduceSub, Nat.reduceAdd, Int.reduceLT, Int.reduceLE, Int.reduceAdd, Int.reduceSub, Int.reduceToNat, Int.reduceBEq, Int.reduceBNe, Int.reduceMul, Nat.reduceBEq, Nat.reduceBNe, Nat.reduceLT, Nat.reduceLeDiff, Nat.reduceMul, Nat.reduceEqDiff, WD, effB, effH, isPriv, isHeap, isImm, Option.any_some, Option.any_none, Option.isSome_none, chkO, setD, dslot, Bool.toNat_true, Bool.toNat_false, Nat.add_zero, Nat.zero_add, List.append_eq, and_self, ptrCells_some, F35, g, hw]
          rw [hx, if_pos h15]
          exact ⟨rfl, rfl⟩
        · have g : decide ((15 : Int) < (i : Int)) = false := decide_eq_false (by omega)
          simp only [WW, partV, eqCells, eqLf, minV, maxV, ifcV, List.map_cons, List.map_nil, List.length_cons, List.length_nil, List.getD_cons_zero, List.getD_cons_succ, List.set_cons_zero, List.set_cons_succ, List.set_nil, ofConst, ofConst1, List.replicate, List.cons_append, List.nil_append, loadOp, Go.Abs.loadCells, binV, Int.toNat_natCast, pickV, List.getElem?_cons_zero, List.getElem?_cons_succ, Option.map_some, Option.bind_some, List.drop_zero, List.drop_succ_cons, List.take_succ_cons, List.take_zero, List.length_map, outR, resAll, resOne, if_true, if_false, and_true, true_and, Bool.true_eq_false, Bool.false_eq_true, forall_const, true_implies, false_implies, implies_true, decide_true, decide_false, beq_self_eq_true, Option.getD_some, Nat.zero_add, Nat.add_zero, storeOp, storeCell, overlay, List.take_nil, List.drop_nil, List.append_nil, lookupOp, keyT, okRes, mapUpdateOp, Bool.and_self, Bool.and_true, Bool.true_and, Bool.not_true, Bool.not_false, gt_iff_lt, ge_iff_le, Nat.reduceSub, Nat.reduceAdd, Int.reduceLT, Int.reduceLE, Int.reduceAdd, Int.reduceSub, Int.reduceToNat, Int.reduceBEq, Int.reduceBNe, Int.reduceMul, Nat.reduceBEq, Nat.reduceBNe, Nat.reduceLT, Nat.reduceLeDiff, Nat.reduceMul, Nat.reduceEqDiff, WD, effB, effH, isPriv, isHeap, isImm, Option.any_some, Option.any_none, Option.isSome_none, chkO, setD, dslot, Bool.toNat_true, Bool.toNat_false, Nat.add_zero, Nat.zero_add, List.append_eq, and_self, ptrCells_some, F35, g]
          rw [hx, if_neg h15]
          exact ⟨rfl, rfl⟩
      | false =>
        have hq1 : IntKind.i64.wrap ((i : Int) + 1) = ((i + 1 : Nat) : Int) := by rw [IntWalk.i64_in _ (by omega)]; omega
        simp only [WW, partV, eqCells, eqLf, minV, maxV, ifcV, List.map_cons, List.map_nil, List.length_cons, List.length_nil, List.getD_cons_zero, List.getD_cons_succ, List.set_cons_zero, List.set_cons_succ, List.set_nil, ofConst, ofConst1, List.replicate, List.cons_append, List.nil_append, loadOp, Go.Abs.loadCells, binV, Int.toNat_natCast, pickV, List.getElem?_cons_zero, List.getElem?_cons_succ, Option.map_some, Option.bind_some, List.drop_zero, List.drop_succ_cons, List.take_succ_cons, List.take_zero, List.length_map, outR, resAll, resOne, if_true, if_false, and_true, true_and, Bool.true_eq_false, Bool.false_eq_true, forall_const, true_implies, false_implies, implies_true, decide_true, decide_false, beq_self_eq_true, Option.getD_some, Nat.zero_add, Nat.add_zero, storeOp, storeCell, overlay, List.take_nil, List.drop_nil, List.append_nil, lookupOp, keyT, okRes, mapUpdateOp, Bool.and_self, Bool.and_true, Bool.true_and, Bool.not_true, Bool.not_false, gt_iff_lt, ge_iff_le, Nat.reduceSub, Nat.reduceAdd, Int.reduceLT, Int.reduceLE, Int.reduceAdd, Int.reduceSub, Int.reduceToNat, Int.reduceBEq, Int.reduceBNe, Int.reduceMul, Nat.reduceBEq, Nat.reduceBNe, Nat.reduceLT, Nat.reduceLeDiff, Nat.reduceMul, Nat.reduceEqDiff, WD, effB, effH, isPriv, isHeap, isImm, Option.any_some, Option.any_none, Option.isSome_none, chkO, setD, dslot, Bool.toNat_true, Bool.toNat_false, Nat.add_zero, Nat.zero_add, List.append_eq, and_self, ptrCells_some, F35, hq1]
        refine ⟨22 - (i + 1), by omega, i + 1, ?_, by omega, rfl, fun j v hj hv => ?_⟩
        · simp only [WN, firstReg, growAll, List.foldl_nil, List.foldl_cons, norm, killS, List.set_cons_zero, List.set_cons_succ, List.map_cons, List.map_nil, List.take_nil, List.take_zero, List.length_nil, growOne, List.getD_cons_zero, List.getD_cons_succ, List.length_cons, List.take_succ_cons, List.nil_append, Nat.reduceLT, Nat.reduceAdd, Nat.zero_add, if_true, F35, hq1]
          try rfl
        · by_cases e : j = i
          · subst e; rw [hs] at hv; cases hv; exact h
          · exact hno j v (by omega) hv
    · have hi2 : i = 22 := by have := of_decide_eq_false hge; omega
      subst hi2
      simp only [hge]
      simp only [WW, partV, eqCells, eqLf, minV, maxV, ifcV, List.map_cons, List.map_nil, List.length_cons, List.length_nil, List.getD_cons_zero, List.getD_cons_succ, List.set_cons_zero, List.set_cons_succ, List.set_nil, ofConst, ofConst1, List.replicate, List.cons_append, List.nil_append, loadOp, Go.Abs.loadCells, binV, Int.toNat_natCast, pickV, List.getElem?_cons_zero, List.getElem?_cons_succ, Option.map_some, Option.bind_some, List.drop_zero, List.drop_succ_cons, List.take_succ_cons, List.take_zero, List.length_map, outR, resAll, resOne, if_true, if_false, and_true, true_and, Bool.true_eq_false, Bool.false_eq_true, forall_const, true_implies, false_implies, implies_true, decide_true, decide_false, beq_self_eq_true, Option.getD_some, Nat.zero_add, Nat.add_zero, storeOp, storeCell, overlay, List.take_nil, List.drop_nil, List.append_nil, lookupOp, keyT, okRes, mapUpdateOp, Bool.and_self, Bool.and_true, Bool.true_and, Bool.not_true, Bool.not_false, gt_iff_lt, ge_iff_le, Nat.reduceSub, Nat.reduceAdd, Int.reduceLT, Int.reduceLE, Int.reduceAdd, Int.reduceSub, Int.reduceToNat, Int.reduceBEq, Int.reduceBNe, Int.reduceMul, Nat.reduceBEq, Nat.reduceBNe, Nat.reduceLT, Nat.reduceLeDiff, Nat.reduceMul, Nat.reduceEqDiff, WD, effB, effH, isPriv, isHeap, isImm, Option.any_some, Option.any_none, Option.isSome_none, chkO, setD, dslot, Bool.toNat_true, Bool.toNat_false, Nat.add_zero, Nat.zero_add, List.append_eq, and_self, ptrCells_some, F35]
      rw [hex_none c (fun hm => by
        obtain ⟨j, hj, e⟩ := List.getElem_of_mem hm
        have h22 : hexs.length = 22 := rfl
        have := hno j c (by omega) (by rw [List.getElem?_eq_getElem hj, e])
        simp at this)]
      exact ⟨rfl, rfl⟩
end Go.Proofs.YtcmndnkeoepmoaaDoor

namespace Go.Proofs.YtcmndnkeoepmoaaDoor
open Go Go.Abs Go.Proofs
set_option maxRecDepth 100000
set_option maxHeartbeats 400000
set_option linter.unusedVariables false
set_option linter.unusedSimpArgs false
/-! ### Texts one behind the other -/
def Nl (R : List UInt8) : Prop := ∃ R0, R = R0 ++ [10]
theorem Nl.tail {c : UInt8} {r : List UInt8} (h : Nl (c :: r)) (hr : r ≠ []) : Nl r := by
  obtain ⟨R0, e⟩ := h
  cases R0 with
  | nil => simp at e; exact absurd e.2 hr
  | cons d R1 => simp at e; exact ⟨R1, e.2⟩
theorem Nl.ten {c : UInt8} (h : Nl [c]) : c = 10 := by
  obtain ⟨R0, e⟩ := h
  cases R0 with
  | nil => simpa using e
  | cons d R1 => simp at e
theorem Nl.drop {R : List UInt8} (h : Nl R) {n : Nat} (hn : n < R.length) : Nl (R.drop n) := by
  obtain ⟨R0, rfl⟩ := h
  simp at hn
  exact ⟨R0.drop n, by rw [List.drop_append_of_le_length (by omega)]⟩
theorem skipN_cons (b : Bool) (c : UInt8) (r : List UInt8) : skipN b (c :: r) = if c = 10 then 1 + skipN false r else if (b || c == 32 || c == 9 || c == 13) = true then 1 + skipN b r else if c = 35 then 1 + skipN true r else 0 := by rw [skipN]
theorem skip_app (B : List UInt8) : ∀ (b : Bool) (R : List UInt8), Nl R → skipN b (R ++ B) = if skipN b R = R.length then R.length + skipN false B else skipN b R
  | _, [], h => by obtain ⟨R0, e⟩ := h; simp at e
  | b, c :: r, h => by
    by_cases hr : r = []
    · subst hr
      obtain rfl := h.ten
      simp [skipN]
    · have h2 := h.tail hr
      have i1 := skip_app B false r h2
      have i2 := skip_app B b r h2
      have i3 := skip_app B true r h2
      rw [List.cons_append, skipN_cons, skipN_cons]
      split
      · rw [i1]
        by_cases e : skipN false r = r.length
        · rw [if_pos e, if_pos (by simp; omega)]; simp; omega
        · rw [if_neg e, if_neg (by simp; omega)]
      · split
        · rw [i2]
          by_cases e : skipN b r = r.length
          · rw [if_pos e, if_pos (by simp; omega)]; simp; omega
          · rw [if_neg e, if_neg (by simp; omega)]
        · split
          · rw [i3]
            by_cases e : skipN true r = r.length
            · rw [if_pos e, if_pos (by simp; omega)]; simp; omega
            · rw [if_neg e, if_neg (by simp; omega)]
          · rw [if_neg (by simp)]
theorem text_app (B : List UInt8) : ∀ (R out : List UInt8) (o : Nat) {k t n len}, textS R out o = .tok k t n len → textS (R ++ B) out o = .tok k t n len
  | [], out, o, k, t, n, len, h => by rw [textS] at h; cases h
  | c :: r, out, o, k, t, n, len, h => by
    rw [List.cons_append]
    unfold textS at h ⊢
    split at h
    · cases h
    rename_i h1
    rw [if_neg h1]
    split at h
    · rename_i h2; rw [if_pos h2]; exact h
    rename_i h2
    rw [if_neg h2]
    split at h
    · rename_i h3; rw [if_pos h3]; exact text_app B r _ _ h
    rename_i h3
    rw [if_neg h3]
    match r, h with
    | [], h => cases h
    | d :: r1, h =>
      simp only [List.cons_append] at h ⊢
      split at h
      · rename_i h4
        rw [if_pos h4]
        match r1, h with
        | [], h => cases h
        | a :: r2, h =>
          simp only [List.cons_append] at h ⊢
          split at h
          · cases h
          rename_i x hx
          try rw [hx]
          try simp only []
          match r2, h with
          | [], h => cases h
          | b :: r3, h =>
            simp only [List.cons_append] at h ⊢
            split at h
            · cases h
            rename_i y hy
            try rw [hy]
            try simp only []
            exact text_app B r3 _ _ h
      · rename_i h4
        rw [if_neg h4]
        split at h
        · rename_i y hy
          try rw [hy]
          exact text_app B r1 _ _ h
        · cases h
theorem text_nl : ∀ (R out : List UInt8) (o : Nat) {k t n len}, textS R out o = .tok k t n len → Nl R → len < o + R.length
  | [], out, o, k, t, n, len, h, hn => by rw [textS] at h; cases h
  | c :: r, out, o, k, t, n, len, h, hn => by
    unfold textS at h
    split at h
    · cases h
    rename_i h1
    have hr : r ≠ [] := fun e => by subst e; exact h1 hn.ten
    have hn1 := hn.tail hr
    split at h
    · cases h
      have : 0 < r.length := List.length_pos_iff.2 hr
      simp; omega
    split at h
    · have := text_nl r _ _ h hn1; simp only [List.length_cons]; omega
    match r, h, hn1 with
    | [], h, _ => cases h
    | d :: r1, h, hn1 =>
      simp only at h
      split at h
      · match r1, h, hn1 with
        | [], h, _ => cases h
        | a :: r2, h, hn1 =>
          simp only at h
          split at h
          · cases h
          match r2, h, hn1 with
          | [], h, _ => cases h
          | b :: r3, h, hn1 =>
            simp only at h
            split at h
            · cases h
            have h3 : r3 ≠ [] := fun e => by subst e; rw [textS] at h; cases h
            have := text_nl r3 _ _ h (((hn1.tail (by simp)).tail (by simp)).tail h3); simp only [List.length_cons]; omega
      · split at h
        · have h3 : r1 ≠ [] := fun e => by subst e; rw [textS] at h; cases h
          have := text_nl r1 _ _ h (hn1.tail h3); simp only [List.length_cons]; omega
        · cases h
theorem tw_app {P : UInt8 → Bool} (hP : P 10 = false) (B : List UInt8) : ∀ (R : List UInt8), Nl R → (R ++ B).takeWhile P = R.takeWhile P ∧ (R.takeWhile P).length < R.length
  | [], h => by obtain ⟨R0, e⟩ := h; simp at e
  | c :: r, h => by
    rw [List.cons_append, List.takeWhile_cons, List.takeWhile_cons]
    cases hc : P c with
    | false => simp
    | true =>
      have hr : r ≠ [] := fun e => by subst e; rw [h.ten] at hc; rw [hc] at hP; cases hP
      obtain ⟨i1, i2⟩ := tw_app hP B r (h.tail hr)
      simp only [if_true, List.length_cons]
      exact ⟨by rw [i1], by omega⟩
theorem next_app (B : List UInt8) {R : List UInt8} {k t n len} (h : nextS R = .tok k t n len) (hn : Nl R) : nextS (R ++ B) = .tok k t n len ∧ len < R.length := by
  cases R with
  | nil => cases h
  | cons c r =>
    rw [List.cons_append]
    simp only [nextS] at h ⊢
    split at h
    · rename_i hc
      rw [if_pos hc]
      obtain ⟨i1, i2⟩ := tw_app (P := nameC) (by decide) B _ hn
      unfold nameS at h ⊢
      rw [List.cons_append] at i1
      rw [i1]
      refine ⟨h, ?_⟩
      simp only [Nx.tok.injEq] at h
      omega
    rename_i hc
    rw [if_neg hc]
    split at h
    · rename_i hc
      rw [if_pos hc]
      obtain ⟨i1, i2⟩ := tw_app (P := fun c => digitB c.toNat) (by decide) B _ hn
      unfold numS at h ⊢
      rw [List.cons_append] at i1
      rw [i1]
      have e : (c :: (r ++ B))[((c :: r).takeWhile fun c => digitB c.toNat).length]? = (c :: r)[((c :: r).takeWhile fun c => digitB c.toNat).length]? := by
        rw [← List.cons_append, List.getElem?_append_left i2]
      simp only [e]
      refine ⟨h, ?_⟩
      simp only at h
      split at h
      · cases h
      split at h
      · cases h
      split at h
      · simp only [Nx.tok.injEq] at h; omega
      · cases h
    rename_i hc
    rw [if_neg hc]
    split at h
    · rename_i hc
      rw [if_pos hc]
      have hr : r ≠ [] := fun e => by subst e; rw [textS] at h; cases h
      have := text_nl r [] 1 h (hn.tail hr)
      exact ⟨text_app B r [] 1 h, by simp only [List.length_cons]; omega⟩
    · rename_i hc
      rw [if_neg hc]
      have hr : r ≠ [] := fun e => by
        subst e
        obtain rfl := hn.ten
        revert h
        simp [signS, sign1]
      have e : (r ++ B).head? = r.head? := by cases r with | nil => exact absurd rfl hr | cons d r => rfl
      unfold signS at h ⊢
      rw [e]
      refine ⟨h, ?_⟩
      have hl : 0 < r.length := List.length_pos_iff.2 hr
      split at h
      · rename_i h2
        have h1 : r ≠ [61] := fun e2 => by subst e2; have := (hn.tail (by simp)).ten; cases this
        have : 2 ≤ r.length := by
          match r, h1, h2 with
          | [], _, h2 => simp at h2
          | [d], h1, h2 => simp at h2; exact absurd (by rw [h2.1]) h1
          | _ :: _ :: _, _, _ => simp
        simp only [Nx.tok.injEq] at h
        simp; omega
      split at h
      · simp only [Nx.tok.injEq] at h
        simp; omega
      · cases h
/-- Text behind a text that ends with a line break -/
theorem lex_app (B : List UInt8) : ∀ (m : Nat) (R : List UInt8), R.length = m → (R = [] ∨ Nl R) → ∀ (p k : Nat) (l : List Tk), lexS R p k = .ok l →
    ∃ ts, l = ts ++ [⟨0, [], 0, p + R.length⟩] ∧ ts.length ≤ R.length ∧ lexS (R ++ B) p k = match lexS B (p + R.length) (k + ts.length) with | .ok l' => .ok (ts ++ l') | .error x => .error x := by
  intro m
  induction m using Nat.strongRecOn with
  | ind m ih =>
    rintro R rfl hR p k l h
    rcases hR with rfl | hn
    · rw [lexS_end rfl] at h
      cases h
      refine ⟨[], rfl, by simp, ?_⟩
      simp only [List.nil_append, List.length_nil, Nat.add_zero]
      cases lexS B p k <;> rfl
    · have hs := skip_app B false R hn
      by_cases e : skipN false R = R.length
      · rw [lexS_end (by rw [e]; simp)] at h
        cases h
        refine ⟨[], by rw [e]; rfl, by simp, ?_⟩
        rw [if_pos e] at hs
        simp only [List.nil_append, List.length_nil, Nat.add_zero]
        have hd : (R ++ B).drop (skipN false (R ++ B)) = B.drop (skipN false B) := by rw [hs, List.drop_append]; simp
        have key : lexS (R ++ B) p k = lexS B (p + R.length) k := by
          have e3 : p + skipN false (R ++ B) = p + R.length + skipN false B := by rw [hs]; omega
          cases hB : B.drop (skipN false B) with
          | nil => rw [lexS_end (hd.trans hB), lexS_end hB, e3]
          | cons c r =>
            by_cases hk : k = 16384
            · subst hk
              rw [lexS_many (by rw [hd, hB]; simp), lexS_many (by rw [hB]; simp), e3]
            cases hnx : nextS (c :: r) with
            | bad e2 off => rw [lexS_bad (hd.trans hB) hk hnx, lexS_bad hB hk hnx, e3]
            | tok kd t n len => rw [lexS_tok (hd.trans hB) hk hnx, lexS_tok hB hk hnx, e3]
        rw [key]
        cases lexS B (p + R.length) k <;> rfl
      · rw [if_neg e] at hs
        have hlt : skipN false R < R.length := by have := skipN_le false R; omega
        have hnd := hn.drop hlt
        obtain ⟨c, r, hcr⟩ : ∃ c r, R.drop (skipN false R) = c :: r := by
          cases hh : R.drop (skipN false R) with
          | nil => obtain ⟨R0, e2⟩ := hnd; rw [hh] at e2; simp at e2
          | cons c r => exact ⟨c, r, rfl⟩
        have hcr2 : (R ++ B).drop (skipN false (R ++ B)) = c :: (r ++ B) := by
          rw [hs, List.drop_append_of_le_length (by omega), hcr]; rfl
        by_cases hk : k = 16384
        · subst hk; rw [lexS_many (by rw [hcr]; simp)] at h; cases h
        cases hnx : nextS (c :: r) with
        | bad e2 off => rw [lexS_bad hcr hk hnx] at h; cases h
        | tok kd t n len =>
          rw [hcr] at hnd
          obtain ⟨hnx2, hlen⟩ := next_app B hnx hnd
          obtain ⟨hl1, _⟩ := nextS_len hnx
          rw [lexS_tok hcr hk hnx] at h
          rw [lexS_tok hcr2 hk hnx2]
          have hrl : R.length = skipN false R + 1 + r.length := by
            have := congrArg List.length hcr; simp at this; omega
          have hle : len - 1 ≤ r.length := by simp at hlen; omega
          have hrn : r.drop (len - 1) = [] ∨ Nl (r.drop (len - 1)) := by
            have : (c :: r).drop len = r.drop (len - 1) := by cases len with | zero => omega | succ j => rfl
            rw [← this]
            exact .inr (hnd.drop hlen)
          rw [List.drop_append_of_le_length hle]
          cases hrec : lexS (r.drop (len - 1)) (p + skipN false R + len) (k + 1) with
          | error x => rw [hrec] at h; cases h
          | ok l2 =>
            rw [hrec] at h
            cases h
            obtain ⟨ts, rfl, h1, h2⟩ := ih (r.drop (len - 1)).length (by simp; omega) _ rfl hrn _ _ _ hrec
            have hpos : p + skipN false R + len + (r.drop (len - 1)).length = p + R.length := by simp at hlen ⊢; omega
            rw [hpos] at h2
            refine ⟨⟨kd, t, n, p + skipN false R⟩ :: ts, by rw [hpos]; rfl, by simp at h1 ⊢; omega, ?_⟩
            rw [hs, h2]
            have : k + 1 + ts.length = k + (ts.length + 1) := by omega
            rw [this]
            simp only [List.length_cons]
            cases lexS B (p + R.length) (k + (ts.length + 1)) <;> rfl
def shiftT (q : Nat) (t : Tk) : Tk := { t with p := t.p + q }
def shiftR (q : Nat) : Except (Nat × Nat) (List Tk) → Except (Nat × Nat) (List Tk)
  | .ok l => .ok (l.map (shiftT q))
  | .error x => .error (x.1, x.2 + q)
theorem lex_shift (q : Nat) : ∀ (m : Nat) (R : List UInt8), R.length = m → ∀ (p k k' : Nat), k + R.length < 16384 → k' + R.length < 16384 → lexS R (p + q) k = shiftR q (lexS R p k') := by
  intro m
  induction m using Nat.strongRecOn with
  | ind m ih =>
    rintro R rfl p k k' hk hk'
    cases hcr : R.drop (skipN false R) with
    | nil => rw [lexS_end hcr, lexS_end hcr]; simp [shiftR, shiftT]; omega
    | cons c r =>
      have hrl : R.length = skipN false R + 1 + r.length := by
        have := congrArg List.length hcr
        have h3 := skipN_le false R
        simp at this; omega
      cases hnx : nextS (c :: r) with
      | bad e2 off => rw [lexS_bad hcr (by omega) hnx, lexS_bad hcr (by omega) hnx]; simp [shiftR]; omega
      | tok kd t n len =>
        rw [lexS_tok hcr (by omega) hnx, lexS_tok hcr (by omega) hnx]
        have := ih (r.drop (len - 1)).length (by simp; omega) _ rfl (p + skipN false R + len) (k + 1) (k' + 1) (by simp; omega) (by simp; omega)
        rw [show p + q + skipN false R + len = p + skipN false R + len + q by omega, this]
        cases lexS (r.drop (len - 1)) (p + skipN false R + len) (k' + 1) with
        | ok l => simp [shiftR, shiftT]; omega
        | error x => rfl
end Go.Proofs.YtcmndnkeoepmoaaDoor

namespace Go.Proofs.YtcmndnkeoepmoaaDoor
open Go Go.Abs Go.Proofs
set_option maxRecDepth 100000
set_option maxHeartbeats 1000000
set_option linter.unusedVariables false
set_option linter.unusedSimpArgs false
/-! ### strings as they are shown -/
def hexd (n : Nat) : UInt8 := hexs.getD n 0
theorem hexN_hexd : ∀ n, n < 16 → hexN (hexd n) = some n := by decide +kernel
def qb (c : UInt8) : List UInt8 :=
  if c = 10 then [92, 110] else if c = 9 then [92, 116] else if c = 34 ∨ c = 92 then [92, c]
  else if c.toNat < 32 ∨ 126 < c.toNat then [92, 120, hexd (c.toNat / 16), hexd (c.toNat % 16)] else [c]
def quoteL (L : List UInt8) : List UInt8 := [34] ++ L.flatMap qb ++ [34]
theorem text_qb (c : UInt8) (R out : List UInt8) (o : Nat) : textS (qb c ++ R) out o = textS R (out ++ [c]) (o + (qb c).length) := by
  unfold qb
  split
  · rename_i h; subst h
    show textS (92 :: 110 :: R) out o = _
    rw [text_esc]; rfl
  split
  · rename_i h; subst h
    show textS (92 :: 116 :: R) out o = _
    rw [text_esc]; rfl
  split
  · rename_i h
    show textS (92 :: c :: R) out o = _
    rw [text_esc]
    rcases h with rfl | rfl <;> rfl
  split
  · show textS (92 :: 120 :: hexd (c.toNat / 16) :: hexd (c.toNat % 16) :: R) out o = _
    have hlt := c.toNat_lt
    have e : escS (120 :: hexd (c.toNat / 16) :: hexd (c.toNat % 16) :: R) = .ok c 3 := by
      simp only [escS, hexN_hexd (c.toNat / 16) (by omega), hexN_hexd (c.toNat % 16) (by omega), if_true]
      rw [show 16 * (c.toNat / 16) + c.toNat % 16 = c.toNat by omega]
      simp
    rw [text_esc, e]; rfl
  · rename_i h1 h2 h3 h4
    exact text_one h1 (fun e => h3 (.inl e)) (fun e => h3 (.inr e))
theorem text_quote : ∀ (L out : List UInt8) (o : Nat), textS (L.flatMap qb ++ [34]) out o = .tok 4 (out ++ L) 0 (o + (L.flatMap qb).length + 1)
  | [], out, o => by
    simp only [List.flatMap_nil, List.nil_append, List.length_nil, Nat.add_zero, List.append_nil]
    rw [textS.eq_def]; rfl
  | c :: r, out, o => by
    rw [List.flatMap_cons, List.append_assoc, text_qb, text_quote r]
    simp; omega
theorem lex_quote (L : List UInt8) : lexS (quoteL L) 0 0 = .ok [⟨4, L, 0, 0⟩, ⟨0, [], 0, (quoteL L).length⟩] := by
  have hs : skipN false (quoteL L) = 0 := skip_none (by decide) (by decide) (by decide) (by decide) (by decide) _
  have hd : (quoteL L).drop (skipN false (quoteL L)) = 34 :: (L.flatMap qb ++ [34]) := by rw [hs]; simp [quoteL]
  have hn : nextS (34 :: (L.flatMap qb ++ [34])) = .tok 4 L 0 (quoteL L).length := by
    have : nextS (34 :: (L.flatMap qb ++ [34])) = textS (L.flatMap qb ++ [34]) [] 1 := by simp only [nextS]; rw [if_neg (by decide), if_neg (by decide), if_pos trivial]
    rw [this, text_quote]
    simp [quoteL]; omega
  rw [lexS_tok hd (by decide) hn, hs]
  have : (L.flatMap qb ++ [34]).drop ((quoteL L).length - 1) = [] := by
    apply List.drop_of_length_le; simp [quoteL]
  rw [this, lexS_end rfl]
  simp [skipN]
theorem qb_len (c : UInt8) : (qb c).length ≤ 4 := by
  unfold qb; split
  · simp
  split
  · simp
  split
  · simp
  split <;> simp
theorem flat_len : ∀ L : List UInt8, (L.flatMap qb).length ≤ 4 * L.length
  | [] => by simp
  | c :: r => by
    have := flat_len r
    have := qb_len c
    rw [List.flatMap_cons, List.length_append, List.length_cons]; omega
theorem hdigit_eq (n : Nat) (hn : n < 16) (H : Hp) : EW 30 [.int .i64 (n : Int)] H = some (.ret (.int .u8 ((hexd n).toNat : Int)) false, H) := by
  refine eqOf (runsP f30 b30 r30 n30 _ rfl _ ?_)
  simp only [bodyOf, Tryd.f30, Option.getD_some]
  have hb : ([48, 49, 50, 51, 52, 53, 54, 55, 56, 57, 97, 98, 99, 100, 101, 102] : List UInt8)[n]? = some (hexd n) := by
    match n, hn with
    | 0, _ => rfl
    | 1, _ => rfl
    | 2, _ => rfl
    | 3, _ => rfl
    | 4, _ => rfl
    | 5, _ => rfl
    | 6, _ => rfl
    | 7, _ => rfl
    | 8, _ => rfl
    | 9, _ => rfl
    | 10, _ => rfl
    | 11, _ => rfl
    | 12, _ => rfl
    | 13, _ => rfl
    | 14, _ => rfl
    | 15, _ => rfl
    | n + 16, h => omega
  simp only [WW, partV, eqCells, eqLf, minV, maxV, ifcV, List.map_cons, List.map_nil, List.length_cons, List.length_nil, List.getD_cons_zero, List.getD_cons_succ, List.set_cons_zero, List.set_cons_succ, List.set_nil, ofConst, ofConst1, List.replicate, List.cons_append, List.nil_append, loadOp, Go.Abs.loadCells, binV, Int.toNat_natCast, pickV, List.getElem?_cons_zero, List.getElem?_cons_succ, Option.map_some, Option.bind_some, List.drop_zero, List.drop_succ_cons, List.take_succ_cons, List.take_zero, List.length_map, outR, resAll, resOne, if_true, if_false, and_true, true_and, Bool.true_eq_false, Bool.false_eq_true, forall_const, true_implies, false_implies, implies_true, decide_true, decide_false, beq_self_eq_true, Option.getD_some, Nat.zero_add, Nat.add_zero, storeOp, storeCell, overlay, List.take_nil, List.drop_nil, List.append_nil, lookupOp, keyT, okRes, mapUpdateOp, Bool.and_self, Bool.and_true, Bool.true_and, Bool.not_true, Bool.not_false, gt_iff_lt, ge_iff_le, Nat.reduceSub, Nat.reduceAdd, Int.reduceLT, Int.reduceLE, Int.reduceAdd, Int.reduceSub, Int.reduceToNat, Int.reduceBEq, Int.reduceBNe, Int.reduceMul, Nat.reduceBEq, Nat.reduceBNe, Nat.reduceLT, Nat.reduceLeDiff, Nat.reduceMul, Nat.reduceEqDiff, WD, effB, effH, isPriv, isHeap, isImm, Option.any_some, Option.any_none, Option.isSome_none, chkO, setD, dslot, Bool.toNat_true, Bool.toNat_false, Nat.add_zero, Nat.zero_add, List.append_eq, and_self, ptrCells_some, F30, hb]
  first | exact ⟨rfl, rfl⟩ | rfl
theorem quote_eq {x : V} {L : List UInt8} (hB : Bx x L) (hL : L.length ≤ 3000) (H : Hp) : EW 18 [x] H = some (.ret (.rsl (by8 (quoteL L))) true, H) := by
  have hx := hB.rd []
  have ha : noHeapL [x] = true := by simp only [noHeapL, hB.noHeap, Bool.and_self]
  refine eqOf (runsP f18 b18 r18 n18 _ ha _ ?_)
  simp only [bodyOf, Tryd.f18, Option.getD_some]
  simp only [WW, partV, eqCells, eqLf, minV, maxV, ifcV, List.map_cons, List.map_nil, List.length_cons, List.length_nil, List.getD_cons_zero, List.getD_cons_succ, List.set_cons_zero, List.set_cons_succ, List.set_nil, ofConst, ofConst1, List.replicate, List.cons_append, List.nil_append, loadOp, Go.Abs.loadCells, binV, Int.toNat_natCast, pickV, List.getElem?_cons_zero, List.getElem?_cons_succ, Option.map_some, Option.bind_some, List.drop_zero, List.drop_succ_cons, List.take_succ_cons, List.take_zero, List.length_map, outR, resAll, resOne, if_true, if_false, and_true, true_and, Bool.true_eq_false, Bool.false_eq_true, forall_const, true_implies, false_implies, implies_true, decide_true, decide_false, beq_self_eq_true, Option.getD_some, Nat.zero_add, Nat.add_zero, storeOp, storeCell, overlay, List.take_nil, List.drop_nil, List.append_nil, lookupOp, keyT, okRes, mapUpdateOp, Bool.and_self, Bool.and_true, Bool.true_and, Bool.not_true, Bool.not_false, gt_iff_lt, ge_iff_le, Nat.reduceSub, Nat.reduceAdd, Int.reduceLT, Int.reduceLE, Int.reduceAdd, Int.reduceSub, Int.reduceToNat, Int.reduceBEq, Int.reduceBNe, Int.reduceMul, Nat.reduceBEq, Nat.reduceBNe, Nat.reduceLT, Nat.reduceLeDiff, Nat.reduceMul, Nat.reduceEqDiff, WD, effB, effH, isPriv, isHeap, isImm, Option.any_some, Option.any_none, Option.isSome_none, chkO, setD, dslot, Bool.toNat_true, Bool.toNat_false, Nat.add_zero, Nat.zero_add, List.append_eq, and_self, ptrCells_some, F18, buildSliceV, lits, srcV_eq, srcK_sl, srcK_str, srcSl_nils, srcSl_rsl, srcSl_sl, appendOp, frow, List.foldl_nil, List.foldl_cons, List.all_nil, List.all_cons, rowV, Bool.not_true, Bool.not_false, Bool.false_and, Bool.and_false, ne_eq, not_false_eq_true, Nat.zero_add, Nat.add_zero, grows_lr, callOut_t]
  refine wC_loop _ (fun k st' H' => ∃ (i : Nat) (O : List UInt8), st' = ⟨L18_3 (.v x) (.v (.lr 0 O.length)) (.v (.int .i64 (i : Int))), [], [⟨true, false, by8 O⟩]⟩ ∧ H' = [] ∧ O = [34] ++ (L.take i).flatMap qb ∧ i ≤ L.length ∧ k = L.length - i) L.length ⟨0, [34], ?_, rfl, rfl, by omega, rfl⟩ ?_
  · simp only [WN, firstReg, growAll, List.foldl_nil, List.foldl_cons, norm, killS, List.set_cons_zero, List.set_cons_succ, List.map_cons, List.map_nil, List.take_nil, List.take_zero, List.length_nil, growOne, List.getD_cons_zero, List.getD_cons_succ, List.length_cons, List.take_succ_cons, List.nil_append, Nat.reduceLT, Nat.reduceAdd, Nat.zero_add, if_true, F18, L18_3, hx.clip2]
    rfl
  · rintro k st' H' ⟨i, O, rfl, rfl, hO, hi, rfl⟩
    have hfl := flat_len (L.take i)
    have htl : (L.take i).length ≤ L.length := by rw [List.length_take]; omega
    have hOl : O.length ≤ 12001 := by
      have := congrArg List.length hO
      rw [List.length_append] at this
      simp only [List.length_cons, List.length_nil] at this
      omega
    simp only [L18_3]
    simp only [WW, partV, eqCells, eqLf, minV, maxV, ifcV, List.map_cons, List.map_nil, List.length_cons, List.length_nil, List.getD_cons_zero, List.getD_cons_succ, List.set_cons_zero, List.set_cons_succ, List.set_nil, ofConst, ofConst1, List.replicate, List.cons_append, List.nil_append, loadOp, Go.Abs.loadCells, binV, Int.toNat_natCast, pickV, List.getElem?_cons_zero, List.getElem?_cons_succ, Option.map_some, Option.bind_some, List.drop_zero, List.drop_succ_cons, List.take_succ_cons, List.take_zero, List.length_map, outR, resAll, resOne, if_true, if_false, and_true, true_and, Bool.true_eq_false, Bool.false_eq_true, forall_const, true_implies, false_implies, implies_true, decide_true, decide_false, beq_self_eq_true, Option.getD_some, Nat.zero_add, Nat.add_zero, storeOp, storeCell, overlay, List.take_nil, List.drop_nil, List.append_nil, lookupOp, keyT, okRes, mapUpdateOp, Bool.and_self, Bool.and_true, Bool.true_and, Bool.not_true, Bool.not_false, gt_iff_lt, ge_iff_le, Nat.reduceSub, Nat.reduceAdd, Int.reduceLT, Int.reduceLE, Int.reduceAdd, Int.reduceSub, Int.reduceToNat, Int.reduceBEq, Int.reduceBNe, Int.reduceMul, Nat.reduceBEq, Nat.reduceBNe, Nat.reduceLT, Nat.reduceLeDiff, Nat.reduceMul, Nat.reduceEqDiff, WD, effB, effH, isPriv, isHeap, isImm, Option.any_some, Option.any_none, Option.isSome_none, chkO, setD, dslot, Bool.toNat_true, Bool.toNat_false, Nat.add_zero, Nat.zero_add, List.append_eq, and_self, ptrCells_some, F18, hx.shutIn, hx.len, by8_len]
    have hwO : wideAll (by8 O) 1 = true := wide_by8 O
    have hw2 : ∀ a b : Int, wideAll [V.int .u8 a, V.int .u8 b] 1 = true := fun _ _ => rfl
    have hw1 : ∀ a : Int, wideAll [V.int .u8 a] 1 = true := fun _ => rfl
    have hw4 : ∀ a b c d : Int, wideAll [V.int .u8 a, V.int .u8 b, V.int .u8 c, V.int .u8 d] 1 = true := fun _ _ _ _ => rfl
    have q1 : decide ((O.length + 1) * 1 ≤ 70368744177664) = true := by simp; omega
    have q2 : decide ((O.length + 2) * 1 ≤ 70368744177664) = true := by simp; omega
    have q4 : decide ((O.length + 4) * 1 ≤ 70368744177664) = true := by simp; omega
    have p1 : decide (O.length ≤ 4611686018427387903) = true := by simp; omega
    have p2 : decide (O.length ≤ 4611686018427387902) = true := by simp; omega
    have p4 : decide (O.length ≤ 4611686018427387900) = true := by simp; omega
    refine cSplit (fun hlt => ?_) (fun hge => ?_)
    · have hi2 : i < L.length := by have := of_decide_eq_true hlt; omega
      have hc : L[i]? = some L[i] := List.getElem?_eq_getElem hi2
      generalize L[i] = c at hc
      have hc8 : (by8 L)[i]? = some (byteV c) := by simp [by8, hc]
      have hat := hx.at_ (sz := 1) hc8 rfl
      have hq1 : IntKind.i64.wrap ((i : Int) + 1) = ((i + 1 : Nat) : Int) := by rw [IntWalk.i64_in _ (by omega)]; omega
      have hnext : O ++ qb c = [34] ++ (L.take (i + 1)).flatMap qb := by
        rw [List.take_add_one, hc, hO]; simp
      have e10 : (((c.toNat : Nat) : Int) == 10) = (c == 10) := u8b c 10
      have e9 : (((c.toNat : Nat) : Int) == 9) = (c == 9) := u8b c 9
      have e34 : (((c.toNat : Nat) : Int) == 34) = (c == 34) := u8b c 34
      have e92 : (((c.toNat : Nat) : Int) == 92) = (c == 92) := u8b c 92
      simp only [hlt]
      simp only [WW, partV, eqCells, eqLf, minV, maxV, ifcV, List.map_cons, List.map_nil, List.length_cons, List.length_nil, List.getD_cons_zero, List.getD_cons_succ, List.set_cons_zero, List.set_cons_succ, List.set_nil, ofConst, ofConst1, List.replicate, List.cons_append, List.nil_append, loadOp, Go.Abs.loadCells, binV, Int.toNat_natCast, pickV, List.getElem?_cons_zero, List.getElem?_cons_succ, Option.map_some, Option.bind_some, List.drop_zero, List.drop_succ_cons, List.take_succ_cons, List.take_zero, List.length_map, outR, resAll, resOne, if_true, if_false, and_true, true_and, Bool.true_eq_false, Bool.false_eq_true, forall_const, true_implies, false_implies, implies_true, decide_true, decide_false, beq_self_eq_true, Option.getD_some, Nat.zero_add, Nat.add_zero, storeOp, storeCell, overlay, List.take_nil, List.drop_nil, List.append_nil, lookupOp, keyT, okRes, mapUpdateOp, Bool.and_self, Bool.and_true, Bool.true_and, Bool.not_true, Bool.not_false, gt_iff_lt, ge_iff_le, Nat.reduceSub, Nat.reduceAdd, Int.reduceLT, Int.reduceLE, Int.reduceAdd, Int.reduceSub, Int.reduceToNat, Int.reduceBEq, Int.reduceBNe, Int.reduceMul, Nat.reduceBEq, Nat.reduceBNe, Nat.reduceLT, Nat.reduceLeDiff, Nat.reduceMul, Nat.reduceEqDiff, WD, effB, effH, isPriv, isHeap, isImm, Option.any_some, Option.any_none, Option.isSome_none, chkO, setD, dslot, Bool.toNat_true, Bool.toNat_false, Nat.add_zero, Nat.zero_add, List.append_eq, and_self, ptrCells_some, F18, hx.shutIn, hat.at1 hx, hat.cells, byteV]
      cases h10 : (c == 10) with
      | true =>
        have hqb : qb c = [92, 110] := by unfold qb; rw [if_pos (by simpa using h10)]
        simp only [WW, partV, eqCells, eqLf, minV, maxV, ifcV, List.map_cons, List.map_nil, List.length_cons, List.length_nil, List.getD_cons_zero, List.getD_cons_succ, List.set_cons_zero, List.set_cons_succ, List.set_nil, ofConst, ofConst1, List.replicate, List.cons_append, List.nil_append, loadOp, Go.Abs.loadCells, binV, Int.toNat_natCast, pickV, List.getElem?_cons_zero, List.getElem?_cons_succ, Option.map_some, Option.bind_some, List.drop_zero, List.drop_succ_cons, List.take_succ_cons, List.take_zero, List.length_map, outR, resAll, resOne, if_true, if_false, and_true, true_and, Bool.true_eq_false, Bool.false_eq_true, forall_const, true_implies, false_implies, implies_true, decide_true, decide_false, beq_self_eq_true, Option.getD_some, Nat.zero_add, Nat.add_zero, storeOp, storeCell, overlay, List.take_nil, List.drop_nil, List.append_nil, lookupOp, keyT, okRes, mapUpdateOp, Bool.and_self, Bool.and_true, Bool.true_and, Bool.not_true, Bool.not_false, gt_iff_lt, ge_iff_le, Nat.reduceSub, Nat.reduceAdd, Int.reduceLT, Int.reduceLE, Int.reduceAdd, Int.reduceSub, Int.reduceToNat, Int.reduceBEq, Int.reduceBNe, Int.reduceMul, Nat.reduceBEq, Nat.reduceBNe, Nat.reduceLT, Nat.reduceLeDiff, Nat.reduceMul, Nat.reduceEqDiff, WD, effB, effH, isPriv, isHeap, isImm, Option.any_some, Option.any_none, Option.isSome_none, chkO, setD, dslot, Bool.toNat_true, Bool.toNat_false, Nat.add_zero, Nat.zero_add, List.append_eq, and_self, ptrCells_some, F18, e10, h10, buildSliceV, lits, srcV_eq, srcK_sl, srcK_str, srcSl_nils, srcSl_rsl, srcSl_sl, appendOp, frow, List.foldl_nil, List.foldl_cons, List.all_nil, List.all_cons, rowV, Bool.not_true, Bool.not_false, Bool.false_and, Bool.and_false, ne_eq, not_false_eq_true, Nat.zero_add, Nat.add_zero, grows_lr, callOut_t, hwO, hw2, q2, p2, by8_len, hq1]
        rw [hqb] at hnext
        refine ⟨L.length - (i + 1), by omega, i + 1, _, ?_, hnext, by omega, rfl⟩
        simp only [WN, firstReg, growAll, List.foldl_nil, List.foldl_cons, norm, killS, List.set_cons_zero, List.set_cons_succ, List.map_cons, List.map_nil, List.take_nil, List.take_zero, List.length_nil, growOne, List.getD_cons_zero, List.getD_cons_succ, List.length_cons, List.take_succ_cons, List.nil_append, Nat.reduceLT, Nat.reduceAdd, Nat.zero_add, if_true, F18, hx.clip2, by8, List.map_append, List.length_append, byteV]
        rfl
      | false =>
        have n10 : c ≠ 10 := by simpa using h10
        cases h9 : (c == 9) with
        | true =>
          have hqb : qb c = [92, 116] := by unfold qb; rw [if_neg n10, if_pos (by simpa using h9)]
          simp only [WW, partV, eqCells, eqLf, minV, maxV, ifcV, List.map_cons, List.map_nil, List.length_cons, List.length_nil, List.getD_cons_zero, List.getD_cons_succ, List.set_cons_zero, List.set_cons_succ, List.set_nil, ofConst, ofConst1, List.replicate, List.cons_append, List.nil_append, loadOp, Go.Abs.loadCells, binV, Int.toNat_natCast, pickV, List.getElem?_cons_zero, List.getElem?_cons_succ, Option.map_some, Option.bind_some, List.drop_zero, List.drop_succ_cons, List.take_succ_cons, List.take_zero, List.length_map, outR, resAll, resOne, if_true, if_false, and_true, true_and, Bool.true_eq_false, Bool.false_eq_true, forall_const, true_implies, false_implies, implies_true, decide_true, decide_false, beq_self_eq_true, Option.getD_some, Nat.zero_add, Nat.add_zero, storeOp, storeCell, overlay, List.take_nil, List.drop_nil, List.append_nil, lookupOp, keyT, okRes, mapUpdateOp, Bool.and_self, Bool.and_true, Bool.true_and, Bool.not_true, Bool.not_false, gt_iff_lt, ge_iff_le, Nat.reduceSub, Nat.reduceAdd, Int.reduceLT, Int.reduceLE, Int.reduceAdd, Int.reduceSub, Int.reduceToNat, Int.reduceBEq, Int.reduceBNe, Int.reduceMul, Nat.reduceBEq, Nat.reduceBNe, Nat.reduceLT, Nat.reduceLeDiff, Nat.reduceMul, Nat.reduceEqDiff, WD, effB, effH, isPriv, isHeap, isImm, Option.any_some, Option.any_none, Option.isSome_none, chkO, setD, dslot, Bool.toNat_true, Bool.toNat_false, Nat.add_zero, Nat.zero_add, List.append_eq, and_self, ptrCells_some, F18, e10, h10, e9, h9, buildSliceV, lits, srcV_eq, srcK_sl, srcK_str, srcSl_nils, srcSl_rsl, srcSl_sl, appendOp, frow, List.foldl_nil, List.foldl_cons, List.all_nil, List.all_cons, rowV, Bool.not_true, Bool.not_false, Bool.false_and, Bool.and_false, ne_eq, not_false_eq_true, Nat.zero_add, Nat.add_zero, grows_lr, callOut_t, hwO, hw2, q2, p2, by8_len, hq1]
          rw [hqb] at hnext
          refine ⟨L.length - (i + 1), by omega, i + 1, _, ?_, hnext, by omega, rfl⟩
          simp only [WN, firstReg, growAll, List.foldl_nil, List.foldl_cons, norm, killS, List.set_cons_zero, List.set_cons_succ, List.map_cons, List.map_nil, List.take_nil, List.take_zero, List.length_nil, growOne, List.getD_cons_zero, List.getD_cons_succ, List.length_cons, List.take_succ_cons, List.nil_append, Nat.reduceLT, Nat.reduceAdd, Nat.zero_add, if_true, F18, hx.clip2, by8, List.map_append, List.length_append, byteV]
          rfl
        | false =>
          have n9 : c ≠ 9 := by simpa using h9
          by_cases h3 : c = 34 ∨ c = 92
          · have hqb : qb c = [92, c] := by unfold qb; rw [if_neg n10, if_neg n9, if_pos h3]
            cases h34 : (c == 34) with
            | true =>
              simp only [WW, partV, eqCells, eqLf, minV, maxV, ifcV, List.map_cons, List.map_nil, List.length_cons, List.length_nil, List.getD_cons_zero, List.getD_cons_succ, List.set_cons_zero, List.set_cons_succ, List.set_nil, ofConst, ofConst1, List.replicate, List.cons_append, List.nil_append, loadOp, Go.Abs.loadCells, binV, Int.toNat_natCast, pickV, List.getElem?_cons_zero, List.getElem?_cons_succ, Option.map_some, Option.bind_some, List.drop_zero, List.drop_succ_cons, List.take_succ_cons, List.take_zero, List.length_map, outR, resAll, resOne, if_true, if_false, and_true, true_and, Bool.true_eq_false, Bool.false_eq_true, forall_const, true_implies, false_implies, implies_true, decide_true, decide_false, beq_self_eq_true, Option.getD_some, Nat.zero_add, Nat.add_zero, storeOp, storeCell, overlay, List.take_nil, List.drop_nil, List.append_nil, lookupOp, keyT, okRes, mapUpdateOp, Bool.and_self, Bool.and_true, Bool.true_and, Bool.not_true, Bool.not_false, gt_iff_lt, ge_iff_le, Nat.reduceSub, Nat.reduceAdd, Int.reduceLT, Int.reduceLE, Int.reduceAdd, Int.reduceSub, Int.reduceToNat, Int.reduceBEq, Int.reduceBNe, Int.reduceMul, Nat.reduceBEq, Nat.reduceBNe, Nat.reduceLT, Nat.reduceLeDiff, Nat.reduceMul, Nat.reduceEqDiff, WD, effB, effH, isPriv, isHeap, isImm, Option.any_some, Option.any_none, Option.isSome_none, chkO, setD, dslot, Bool.toNat_true, Bool.toNat_false, Nat.add_zero, Nat.zero_add, List.append_eq, and_self, ptrCells_some, F18, e10, h10, e9, h9, e34, h34, e92, buildSliceV, lits, srcV_eq, srcK_sl, srcK_str, srcSl_nils, srcSl_rsl, srcSl_sl, appendOp, frow, List.foldl_nil, List.foldl_cons, List.all_nil, List.all_cons, rowV, Bool.not_true, Bool.not_false, Bool.false_and, Bool.and_false, ne_eq, not_false_eq_true, Nat.zero_add, Nat.add_zero, grows_lr, callOut_t, hwO, hw2, q2, p2, by8_len, hq1]
              rw [hqb] at hnext
              refine ⟨L.length - (i + 1), by omega, i + 1, _, ?_, hnext, by omega, rfl⟩
              simp only [WN, firstReg, growAll, List.foldl_nil, List.foldl_cons, norm, killS, List.set_cons_zero, List.set_cons_succ, List.map_cons, List.map_nil, List.take_nil, List.take_zero, List.length_nil, growOne, List.getD_cons_zero, List.getD_cons_succ, List.length_cons, List.take_succ_cons, List.nil_append, Nat.reduceLT, Nat.reduceAdd, Nat.zero_add, if_true, F18, hx.clip2, by8, List.map_append, List.length_append, byteV]
              try rfl
            | false =>
              have h92 : (c == 92) = true := by rcases h3 with rfl | rfl; · cases h34
                                                rfl
              simp only [WW, partV, eqCells, eqLf, minV, maxV, ifcV, List.map_cons, List.map_nil, List.length_cons, List.length_nil, List.getD_cons_zero, List.getD_cons_succ, List.set_cons_zero, List.set_cons_succ, List.set_nil, ofConst, ofConst1, List.replicate, List.cons_append, List.nil_append, loadOp, Go.Abs.loadCells, binV, Int.toNat_natCast, pickV, List.getElem?_cons_zero, List.getElem?_cons_succ, Option.map_some, Option.bind_some, List.drop_zero, List.drop_succ_cons, List.take_succ_cons, List.take_zero, List.length_map, outR, resAll, resOne, if_true, if_false, and_true, true_and, Bool.true_eq_false, Bool.false_eq_true, forall_const, true_implies, false_implies, implies_true, decide_true, decide_false, beq_self_eq_true, Option.getD_some, Nat.zero_add, Nat.add_zero, storeOp, storeCell, overlay, List.take_nil, List.drop_nil, List.append_nil, lookupOp, keyT, okRes, mapUpdateOp, Bool.and_self, Bool.and_true, Bool.true_and, Bool.not_true, Bool.not_false, gt_iff_lt, ge_iff_le, Nat.reduceSub, Nat.reduceAdd, Int.reduceLT, Int.reduceLE, Int.reduceAdd, Int.reduceSub, Int.reduceToNat, Int.reduceBEq, Int.reduceBNe, Int.reduceMul, Nat.reduceBEq, Nat.reduceBNe, Nat.reduceLT, Nat.reduceLeDiff, Nat.reduceMul, Nat.reduceEqDiff, WD, effB, effH, isPriv, isHeap, isImm, Option.any_some, Option.any_none, Option.isSome_none, chkO, setD, dslot, Bool.toNat_true, Bool.toNat_false, Nat.add_zero, Nat.zero_add, List.append_eq, and_self, ptrCells_some, F18, e10, h10, e9, h9, e34, h34, e92, h92, buildSliceV, lits, srcV_eq, srcK_sl, srcK_str, srcSl_nils, srcSl_rsl, srcSl_sl, appendOp, frow, List.foldl_nil, List.foldl_cons, List.all_nil, List.all_cons, rowV, Bool.not_true, Bool.not_false, Bool.false_and, Bool.and_false, ne_eq, not_false_eq_true, Nat.zero_add, Nat.add_zero, grows_lr, callOut_t, hwO, hw2, q2, p2, by8_len, hq1]
              rw [hqb] at hnext
              refine ⟨L.length - (i + 1), by omega, i + 1, _, ?_, hnext, by omega, rfl⟩
              simp only [WN, firstReg, growAll, List.foldl_nil, List.foldl_cons, norm, killS, List.set_cons_zero, List.set_cons_succ, List.map_cons, List.map_nil, List.take_nil, List.take_zero, List.length_nil, growOne, List.getD_cons_zero, List.getD_cons_succ, List.length_cons, List.take_succ_cons, List.nil_append, Nat.reduceLT, Nat.reduceAdd, Nat.zero_add, if_true, F18, hx.clip2, by8, List.map_append, List.length_append, byteV]
              try rfl
          · have h34 : (c == 34) = false := by rw [beq_eq_false_iff_ne]; exact fun e => h3 (.inl e)
            have h92 : (c == 92) = false := by rw [beq_eq_false_iff_ne]; exact fun e => h3 (.inr e)
            have hlt8 := c.toNat_lt
            by_cases h4 : c.toNat < 32 ∨ 126 < c.toNat
            · have hqb : qb c = [92, 120, hexd (c.toNat / 16), hexd (c.toNat % 16)] := by unfold qb; rw [if_neg n10, if_neg n9, if_neg h3, if_pos h4]
              have hw : IntKind.i64.wrap (c.toNat : Int) = (c.toNat : Int) := IntWalk.i64_in _ (by omega)
              have hdv : IntKind.i64.wrap ((c.toNat : Int).tdiv 16) = ((c.toNat / 16 : Nat) : Int) := by
                rw [show (c.toNat : Int).tdiv 16 = ((c.toNat / 16 : Nat) : Int) by rw [Int.tdiv_eq_ediv_of_nonneg (by omega)]; norm_cast]
                exact IntWalk.i64_in _ (by omega)
              have hmd : (c.toNat : Int).tmod 16 = ((c.toNat % 16 : Nat) : Int) := by rw [Int.tmod_eq_emod_of_nonneg (by omega)]; norm_cast
              have h16 : ¬ ((16 : Int) = 0) := by decide
              have d1 := hdigit_eq (c.toNat / 16) (by omega)
              have d2 := hdigit_eq (c.toNat % 16) (by omega)
              cases g32 : decide ((c.toNat : Int) < 32) with
              | true =>
                simp only [WW, partV, eqCells, eqLf, minV, maxV, ifcV, List.map_cons, List.map_nil, List.length_cons, List.length_nil, List.getD_cons_zero, List.getD_cons_succ, List.set_cons_zero, List.set_cons_succ, List.set_nil, ofConst, ofConst1, List.replicate, List.cons_append, List.nil_append, loadOp, Go.Abs.loadCells, binV, Int.toNat_natCast, pickV, List.getElem?_cons_zero, List.getElem?_cons_succ, Option.map_some, Option.bind_some, List.drop_zero, List.drop_succ_cons, List.take_succ_cons, List.take_zero, List.length_map, outR, resAll, resOne, if_true, if_false, and_true, true_and, Bool.true_eq_false, Bool.false_eq_true, forall_const, true_implies, false_implies, implies_true, decide_true, decide_false, beq_self_eq_true, Option.getD_some, Nat.zero_add, Nat.add_zero, storeOp, storeCell, overlay, List.take_nil, List.drop_nil, List.append_nil, lookupOp, keyT, okRes, mapUpdateOp, Bool.and_self, Bool.and_true, Bool.true_and, Bool.not_true, Bool.not_false, gt_iff_lt, ge_iff_le, Nat.reduceSub, Nat.reduceAdd, Int.reduceLT, Int.reduceLE, Int.reduceAdd, Int.reduceSub, Int.reduceToNat, Int.reduceBEq, Int.reduceBNe, Int.reduceMul, Nat.reduceBEq, Nat.reduceBNe, Nat.reduceLT, Nat.reduceLeDiff, Nat.reduceMul, Nat.reduceEqDiff, WD, effB, effH, isPriv, isHeap, isImm, Option.any_some, Option.any_none, Option.isSome_none, chkO, setD, dslot, Bool.toNat_true, Bool.toNat_false, Nat.add_zero, Nat.zero_add, List.append_eq, and_self, ptrCells_some, F18, e10, h10, e9, h9, e34, h34, e92, h92, g32, hw, hdv, hmd, h16, if_false, convertOp]
                rw [wpCall_eq (d1 _)]
                simp only [WW, partV, eqCells, eqLf, minV, maxV, ifcV, List.map_cons, List.map_nil, List.length_cons, List.length_nil, List.getD_cons_zero, List.getD_cons_succ, List.set_cons_zero, List.set_cons_succ, List.set_nil, ofConst, ofConst1, List.replicate, List.cons_append, List.nil_append, loadOp, Go.Abs.loadCells, binV, Int.toNat_natCast, pickV, List.getElem?_cons_zero, List.getElem?_cons_succ, Option.map_some, Option.bind_some, List.drop_zero, List.drop_succ_cons, List.take_succ_cons, List.take_zero, List.length_map, outR, resAll, resOne, if_true, if_false, and_true, true_and, Bool.true_eq_false, Bool.false_eq_true, forall_const, true_implies, false_implies, implies_true, decide_true, decide_false, beq_self_eq_true, Option.getD_some, Nat.zero_add, Nat.add_zero, storeOp, storeCell, overlay, List.take_nil, List.drop_nil, List.append_nil, lookupOp, keyT, okRes, mapUpdateOp, Bool.and_self, Bool.and_true, Bool.true_and, Bool.not_true, Bool.not_false, gt_iff_lt, ge_iff_le, Nat.reduceSub, Nat.reduceAdd, Int.reduceLT, Int.reduceLE, Int.reduceAdd, Int.reduceSub, Int.reduceToNat, Int.reduceBEq, Int.reduceBNe, Int.reduceMul, Nat.reduceBEq, Nat.reduceBNe, Nat.reduceLT, Nat.reduceLeDiff, Nat.reduceMul, Nat.reduceEqDiff, WD, effB, effH, isPriv, isHeap, isImm, Option.any_some, Option.any_none, Option.isSome_none, chkO, setD, dslot, Bool.toNat_true, Bool.toNat_false, Nat.add_zero, Nat.zero_add, List.append_eq, and_self, ptrCells_some, F18, hw, hdv, hmd, h16, if_false, convertOp]
                rw [wpCall_eq (d2 _)]
                simp only [WW, partV, eqCells, eqLf, minV, maxV, ifcV, List.map_cons, List.map_nil, List.length_cons, List.length_nil, List.getD_cons_zero, List.getD_cons_succ, List.set_cons_zero, List.set_cons_succ, List.set_nil, ofConst, ofConst1, List.replicate, List.cons_append, List.nil_append, loadOp, Go.Abs.loadCells, binV, Int.toNat_natCast, pickV, List.getElem?_cons_zero, List.getElem?_cons_succ, Option.map_some, Option.bind_some, List.drop_zero, List.drop_succ_cons, List.take_succ_cons, List.take_zero, List.length_map, outR, resAll, resOne, if_true, if_false, and_true, true_and, Bool.true_eq_false, Bool.false_eq_true, forall_const, true_implies, false_implies, implies_true, decide_true, decide_false, beq_self_eq_true, Option.getD_some, Nat.zero_add, Nat.add_zero, storeOp, storeCell, overlay, List.take_nil, List.drop_nil, List.append_nil, lookupOp, keyT, okRes, mapUpdateOp, Bool.and_self, Bool.and_true, Bool.true_and, Bool.not_true, Bool.not_false, gt_iff_lt, ge_iff_le, Nat.reduceSub, Nat.reduceAdd, Int.reduceLT, Int.reduceLE, Int.reduceAdd, Int.reduceSub, Int.reduceToNat, Int.reduceBEq, Int.reduceBNe, Int.reduceMul, Nat.reduceBEq, Nat.reduceBNe, Nat.reduceLT, Nat.reduceLeDiff, Nat.reduceMul, Nat.reduceEqDiff, WD, effB, effH, isPriv, isHeap, isImm, Option.any_some, Option.any_none, Option.isSome_none, chkO, setD, dslot, Bool.toNat_true, Bool.toNat_false, Nat.add_zero, Nat.zero_add, List.append_eq, and_self, ptrCells_some, F18, buildSliceV, lits, srcV_eq, srcK_sl, srcK_str, srcSl_nils, srcSl_rsl, srcSl_sl, appendOp, frow, List.foldl_nil, List.foldl_cons, List.all_nil, List.all_cons, rowV, Bool.not_true, Bool.not_false, Bool.false_and, Bool.and_false, ne_eq, not_false_eq_true, Nat.zero_add, Nat.add_zero, grows_lr, callOut_t, hwO, hw4, q4, p4, by8_len, hq1]
                rw [hqb] at hnext
                refine ⟨L.length - (i + 1), by omega, i + 1, _, ?_, hnext, by omega, rfl⟩
                simp only [WN, firstReg, growAll, List.foldl_nil, List.foldl_cons, norm, killS, List.set_cons_zero, List.set_cons_succ, List.map_cons, List.map_nil, List.take_nil, List.take_zero, List.length_nil, growOne, List.getD_cons_zero, List.getD_cons_succ, List.length_cons, List.take_succ_cons, List.nil_append, Nat.reduceLT, Nat.reduceAdd, Nat.zero_add, if_true, F18, hx.clip2, by8, List.map_append, List.length_append, byteV]
                rfl
              | false =>
                have g126 : decide ((126 : Int) < (c.toNat : Int)) = true := decide_eq_true (by have := of_decide_eq_false g32; omega)
                simp only [WW, partV, eqCells, eqLf, minV, maxV, ifcV, List.map_cons, List.map_nil, List.length_cons, List.length_nil, List.getD_cons_zero, List.getD_cons_succ, List.set_cons_zero, List.set_cons_succ, List.set_nil, ofConst, ofConst1, List.replicate, List.cons_append, List.nil_append, loadOp, Go.Abs.loadCells, binV, Int.toNat_natCast, pickV, List.getElem?_cons_zero, List.getElem?_cons_succ, Option.map_some, Option.bind_some, List.drop_zero, List.drop_succ_cons, List.take_succ_cons, List.take_zero, List.length_map, outR, resAll, resOne, if_true, if_false, and_true, true_and, Bool.true_eq_false, Bool.false_eq_true, forall_const, true_implies, false_implies, implies_true, decide_true, decide_false, beq_self_eq_true, Option.getD_some, Nat.zero_add, Nat.add_zero, storeOp, storeCell, overlay, List.take_nil, List.drop_nil, List.append_nil, lookupOp, keyT, okRes, mapUpdateOp, Bool.and_self, Bool.and_true, Bool.true_and, Bool.not_true, Bool.not_false, gt_iff_lt, ge_iff_le, Nat.reduceSub, Nat.reduceAdd, Int.reduceLT, Int.reduceLE, Int.reduceAdd, Int.reduceSub, Int.reduceToNat, Int.reduceBEq, Int.reduceBNe, Int.reduceMul, Nat.reduceBEq, Nat.reduceBNe, Nat.reduceLT, Nat.reduceLeDiff, Nat.reduceMul, Nat.reduceEqDiff, WD, effB, effH, isPriv, isHeap, isImm, Option.any_some, Option.any_none, Option.isSome_none, chkO, setD, dslot, Bool.toNat_true, Bool.toNat_false, Nat.add_zero, Nat.zero_add, List.append_eq, and_self, ptrCells_some, F18, e10, h10, e9, h9, e34, h34, e92, h92, g32, g126, hw, hdv, hmd, h16, if_false, convertOp]
                rw [wpCall_eq (d1 _)]
                simp only [WW, partV, eqCells, eqLf, minV, maxV, ifcV, List.map_cons, List.map_nil, List.length_cons, List.length_nil, List.getD_cons_zero, List.getD_cons_succ, List.set_cons_zero, List.set_cons_succ, List.set_nil, ofConst, ofConst1, List.replicate, List.cons_append, List.nil_append, loadOp, Go.Abs.loadCells, binV, Int.toNat_natCast, pickV, List.getElem?_cons_zero, List.getElem?_cons_succ, Option.map_some, Option.bind_some, List.drop_zero, List.drop_succ_cons, List.take_succ_cons, List.take_zero, List.length_map, outR, resAll, resOne, if_true, if_false, and_true, true_and, Bool.true_eq_false, Bool.false_eq_true, forall_const, true_implies, false_implies, implies_true, decide_true, decide_false, beq_self_eq_true, Option.getD_some, Nat.zero_add, Nat.add_zero, storeOp, storeCell, overlay, List.take_nil, List.drop_nil, List.append_nil, lookupOp, keyT, okRes, mapUpdateOp, Bool.and_self, Bool.and_true, Bool.true_and, Bool.not_true, Bool.not_false, gt_iff_lt, ge_iff_le, Nat.reduceSub, Nat.reduceAdd, Int.reduceLT, Int.reduceLE, Int.reduceAdd, Int.reduceSub, Int.reduceToNat, Int.reduceBEq, Int.reduceBNe, Int.reduceMul, Nat.reduceBEq, Nat.reduceBNe, Nat.reduceLT, Nat.reduceLeDiff, Nat.reduceMul, Nat.reduceEqDiff, WD, effB, effH, isPriv, isHeap, isImm, Option.any_some, Option.any_none, Option.isSome_none, chkO, setD, dslot, Bool.toNat_true, Bool.toNat_false, Nat.add_zero, Nat.zero_add, List.append_eq, and_self, ptrCells_some, F18, hw, hdv, hmd, h16, if_false, convertOp]
                rw [wpCall_eq (d2 _)]
                simp only [WW, partV, eqCells, eqLf, minV, maxV, ifcV, List.map_cons, List.map_nil, List.length_cons, List.length_nil, List.getD_cons_zero, List.getD_cons_succ, List.set_cons_zero, List.set_cons_succ, List.set_nil, ofConst, ofConst1, List.replicate, List.cons_append, List.nil_append, loadOp, Go.Abs.loadCells, binV, Int.toNat_natCast, pickV, List.getElem?_cons_zero, List.getElem?_cons_succ, Option.map_some, Option.bind_some, List.drop_zero, List.drop_succ_cons, List.take_succ_cons, List.take_zero, List.length_map, outR, resAll, resOne, if_true, if_false, and_true, true_and, Bool.true_eq_false, Bool.false_eq_true, forall_const, true_implies, false_implies, implies_true, decide_true, decide_false, beq_self_eq_true, Option.getD_some, Nat.zero_add, Nat.add_zero, storeOp, storeCell, overlay, List.take_nil, List.drop_nil, List.append_nil, lookupOp, keyT, okRes, mapUpdateOp, Bool.and_self, Bool.and_true, Bool.true_and, Bool.not_true, Bool.not_false, gt_iff_lt, ge_iff_le, Nat.reduceSub, Nat.reduceAdd, Int.reduceLT, Int.reduceLE, Int.reduceAdd, Int.reduceSub, Int.reduceToNat, Int.reduceBEq, Int.reduceBNe, Int.reduceMul, Nat.reduceBEq, Nat.reduceBNe, Nat.reduceLT, Nat.reduceLeDiff, Nat.reduceMul, Nat.reduceEqDiff, WD, effB, effH, isPriv, isHeap, isImm, Option.any_some, Option.any_none, Option.isSome_none, chkO, setD, dslot, Bool.toNat_true, Bool.toNat_false, Nat.add_zero, Nat.zero_add, List.append_eq, and_self, ptrCells_some, F18, buildSliceV, lits, srcV_eq, srcK_sl, srcK_str, srcSl_nils, srcSl_rsl, srcSl_sl, appendOp, frow, List.foldl_nil, List.foldl_cons, List.all_nil, List.all_cons, rowV, Bool.not_true, Bool.not_false, Bool.false_and, Bool.and_false, ne_eq, not_false_eq_true, Nat.zero_add, Nat.add_zero, grows_lr, callOut_t, hwO, hw4, q4, p4, by8_len, hq1]
                rw [hqb] at hnext
                refine ⟨L.length - (i + 1), by omega, i + 1, _, ?_, hnext, by omega, rfl⟩
                simp only [WN, firstReg, growAll, List.foldl_nil, List.foldl_cons, norm, killS, List.set_cons_zero, List.set_cons_succ, List.map_cons, List.map_nil, List.take_nil, List.take_zero, List.length_nil, growOne, List.getD_cons_zero, List.getD_cons_succ, List.length_cons, List.take_succ_cons, List.nil_append, Nat.reduceLT, Nat.reduceAdd, Nat.zero_add, if_true, F18, hx.clip2, by8, List.map_append, List.length_append, byteV]
                rfl
            · have hqb : qb c = [c] := by unfold qb; rw [if_neg n10, if_neg n9, if_neg h3, if_neg h4]
              have g32 : decide ((c.toNat : Int) < 32) = false := decide_eq_false (by omega)
              have g126 : decide ((126 : Int) < (c.toNat : Int)) = false := decide_eq_false (by omega)
              simp only [WW, partV, eqCells, eqLf, minV, maxV, ifcV, List.map_cons, List.map_nil, List.length_cons, List.length_nil, List.getD_cons_zero, List.getD_cons_succ, List.set_cons_zero, List.set_cons_succ, List.set_nil, ofConst, ofConst1, List.replicate, List.cons_append, List.nil_append, loadOp, Go.Abs.loadCells, binV, Int.toNat_natCast, pickV, List.getElem?_cons_zero, List.getElem?_cons_succ, Option.map_some, Option.bind_some, List.drop_zero, List.drop_succ_cons, List.take_succ_cons, List.take_zero, List.length_map, outR, resAll, resOne, if_true, if_false, and_true, true_and, Bool.true_eq_false, Bool.false_eq_true, forall_const, true_implies, false_implies, implies_true, decide_true, decide_false, beq_self_eq_true, Option.getD_some, Nat.zero_add, Nat.add_zero, storeOp, storeCell, overlay, List.take_nil, List.drop_nil, List.append_nil, lookupOp, keyT, okRes, mapUpdateOp, Bool.and_self, Bool.and_true, Bool.true_and, Bool.not_true, Bool.not_false, gt_iff_lt, ge_iff_le, Nat.reduceSub, Nat.reduceAdd, Int.reduceLT, Int.reduceLE, Int.reduceAdd, Int.reduceSub, Int.reduceToNat, Int.reduceBEq, Int.reduceBNe, Int.reduceMul, Nat.reduceBEq, Nat.reduceBNe, Nat.reduceLT, Nat.reduceLeDiff, Nat.reduceMul, Nat.reduceEqDiff, WD, effB, effH, isPriv, isHeap, isImm, Option.any_some, Option.any_none, Option.isSome_none, chkO, setD, dslot, Bool.toNat_true, Bool.toNat_false, Nat.add_zero, Nat.zero_add, List.append_eq, and_self, ptrCells_some, F18, e10, h10, e9, h9, e34, h34, e92, h92, g32, g126, buildSliceV, lits, srcV_eq, srcK_sl, srcK_str, srcSl_nils, srcSl_rsl, srcSl_sl, appendOp, frow, List.foldl_nil, List.foldl_cons, List.all_nil, List.all_cons, rowV, Bool.not_true, Bool.not_false, Bool.false_and, Bool.and_false, ne_eq, not_false_eq_true, Nat.zero_add, Nat.add_zero, grows_lr, callOut_t, hwO, hw1, q1, p1, by8_len, hq1]
              rw [hqb] at hnext
              refine ⟨L.length - (i + 1), by omega, i + 1, _, ?_, hnext, by omega, rfl⟩
              simp only [WN, firstReg, growAll, List.foldl_nil, List.foldl_cons, norm, killS, List.set_cons_zero, List.set_cons_succ, List.map_cons, List.map_nil, List.take_nil, List.take_zero, List.length_nil, growOne, List.getD_cons_zero, List.getD_cons_succ, List.length_cons, List.take_succ_cons, List.nil_append, Nat.reduceLT, Nat.reduceAdd, Nat.zero_add, if_true, F18, hx.clip2, by8, List.map_append, List.length_append, byteV]
              try rfl
    · have hi2 : i = L.length := by have := of_decide_eq_false hge; omega
      have hq : O ++ [34] = quoteL L := by rw [hO, hi2, List.take_length]; rfl
      have f1 : by8 O ++ [V.int .u8 34] = by8 (quoteL L) := by rw [← hq]; simp [by8, byteV]
      have f2 : O.length + 1 = (by8 (quoteL L)).length := by rw [← hq]; simp [by8]
      have hnq : noHeapL (by8 (quoteL L)) = true := noHeapL_by8 _
      simp only [hge]
      simp only [WW, partV, eqCells, eqLf, minV, maxV, ifcV, List.map_cons, List.map_nil, List.length_cons, List.length_nil, List.getD_cons_zero, List.getD_cons_succ, List.set_cons_zero, List.set_cons_succ, List.set_nil, ofConst, ofConst1, List.replicate, List.cons_append, List.nil_append, loadOp, Go.Abs.loadCells, binV, Int.toNat_natCast, pickV, List.getElem?_cons_zero, List.getElem?_cons_succ, Option.map_some, Option.bind_some, List.drop_zero, List.drop_succ_cons, List.take_succ_cons, List.take_zero, List.length_map, outR, resAll, resOne, if_true, if_false, and_true, true_and, Bool.true_eq_false, Bool.false_eq_true, forall_const, true_implies, false_implies, implies_true, decide_true, decide_false, beq_self_eq_true, Option.getD_some, Nat.zero_add, Nat.add_zero, storeOp, storeCell, overlay, List.take_nil, List.drop_nil, List.append_nil, lookupOp, keyT, okRes, mapUpdateOp, Bool.and_self, Bool.and_true, Bool.true_and, Bool.not_true, Bool.not_false, gt_iff_lt, ge_iff_le, Nat.reduceSub, Nat.reduceAdd, Int.reduceLT, Int.reduceLE, Int.reduceAdd, Int.reduceSub, Int.reduceToNat, Int.reduceBEq, Int.reduceBNe, Int.reduceMul, Nat.reduceBEq, Nat.reduceBNe, Nat.reduceLT, Nat.reduceLeDiff, Nat.reduceMul, Nat.reduceEqDiff, WD, effB, effH, isPriv, isHeap, isImm, Option.any_some, Option.any_none, Option.isSome_none, chkO, setD, dslot, Bool.toNat_true, Bool.toNat_false, Nat.add_zero, Nat.zero_add, List.append_eq, and_self, ptrCells_some, F18, buildSliceV, lits, srcV_eq, srcK_sl, srcK_str, srcSl_nils, srcSl_rsl, srcSl_sl, appendOp, frow, List.foldl_nil, List.foldl_cons, List.all_nil, List.all_cons, rowV, Bool.not_true, Bool.not_false, Bool.false_and, Bool.and_false, ne_eq, not_false_eq_true, Nat.zero_add, Nat.add_zero, grows_lr, callOut_t, hwO, hw1, q1, p1, by8_len, f1]
      rw [by8_len] at f2
      simp only [f2, List.take_of_length_le (Nat.le_of_eq (by8_len (quoteL L)))]
      refine ⟨?_, by simp⟩
      simp only [noHeapO, Abs.noHeap, hnq]
end Go.Proofs.YtcmndnkeoepmoaaDoor
