/- A part of the proofs over this seat. -/
import Derived.Test.YtcmndnkeoepmoaaDoorQM1
import Derived.Test.YtcmndnkeoepmoaaDoorQAbsSl
namespace Go.Proofs.YtcmndnkeoepmoaaDoor
open Go Go.Abs Go.Proofs
set_option maxRecDepth 100000
set_option maxHeartbeats 300000
set_option linter.unusedVariables false
set_option linter.unusedSimpArgs false
theorem next_num {H : Hp} {w : Nat} {x : V} {L : List UInt8} {p : Nat} (hB : Bx x L) (hC : Ct H w x p) (hp : p < L.length) (hL : L.length ≤ 65536) (hd : ∀ c ∈ L.drop p, digitB c.toNat = true) (hz : 1 < (L.drop p).length → (L.drop p)[0]? ≠ some 48) :
    wpCall EW 21 [.ptr w 0 0] H (fun out H' => (∀ n, numR 0 (L.drop p) = some n → out = .ret (.tup [tok3 n p, .int .i64 0]) false ∧ H' = H.set w (ctr x (L.length : Int))) ∧ (numR 0 (L.drop p) = none → (∃ t : Nat, out = .ret (.tup [tok3 t p, .int .i64 9]) false) ∧ H' = H.set w (ctr x (p : Int)))) := by
  have hc : L[p]? = some L[p] := List.getElem?_eq_getElem hp
  have hdc : digitB L[p].toNat = true := hd _ (List.mem_of_getElem? (i := 0) (by rw [List.getElem?_drop]; simp))
  generalize L[p] = c at hc hdc
  have hc8 : (by8 L)[p]? = some (byteV c) := by simp [by8, hc]
  have hx := hB.rd H
  have hat := hx.at_ (sz := 1) hc8 rfl
  have hb : H[w]? = some (.cells [.agg [x, .int .i64 (p : Int)]]) := hC
  refine runs f21 b21 r21 n21 _ _ ?_
  simp only [bodyOf, Tryd.f21, Option.getD_some]
  simp only [WW, partV, eqCells, eqLf, minV, maxV, ifcV, List.map_cons, List.map_nil, List.length_cons, List.length_nil, List.getD_cons_zero, List.getD_cons_succ, List.set_cons_zero, List.set_cons_succ, List.set_nil, ofConst, ofConst1, List.replicate, List.cons_append, List.nil_append, loadOp, Go.Abs.loadCells, binV, Int.toNat_natCast, pickV, List.getElem?_cons_zero, List.getElem?_cons_succ, Option.map_some, Option.bind_some, List.drop_zero, List.drop_succ_cons, List.take_succ_cons, List.take_zero, List.length_map, outR, resAll, resOne, if_true, if_false, and_true, true_and, Bool.true_eq_false, Bool.false_eq_true, forall_const, true_implies, false_implies, implies_true, decide_true, decide_false, beq_self_eq_true, Option.getD_some, Nat.zero_add, Nat.add_zero, storeOp, storeCell, overlay, List.take_nil, List.drop_nil, List.append_nil, lookupOp, keyT, okRes, mapUpdateOp, Bool.and_self, Bool.and_true, Bool.true_and, Bool.not_true, Bool.not_false, gt_iff_lt, ge_iff_le, Nat.reduceSub, Nat.reduceAdd, Int.reduceLT, Int.reduceLE, Int.reduceAdd, Int.reduceSub, Int.reduceToNat, Int.reduceBEq, Int.reduceBNe, Int.reduceMul, Nat.reduceBEq, Nat.reduceBNe, Nat.reduceLT, Nat.reduceLeDiff, Nat.reduceMul, Nat.reduceEqDiff, WD, effB, effH, isPriv, isHeap, isImm, Option.any_some, Option.any_none, Option.isSome_none, chkO, setD, dslot, Bool.toNat_true, Bool.toNat_false, Nat.add_zero, Nat.zero_add, List.append_eq, and_self, ptrCells_some, F21]
  refine wC_dr alts21_1 (by kernel_rfl) ?_
  simp only [WW, partV, eqCells, eqLf, minV, maxV, ifcV, List.map_cons, List.map_nil, List.length_cons, List.length_nil, List.getD_cons_zero, List.getD_cons_succ, List.set_cons_zero, List.set_cons_succ, List.set_nil, ofConst, ofConst1, List.replicate, List.cons_append, List.nil_append, loadOp, Go.Abs.loadCells, binV, Int.toNat_natCast, pickV, List.getElem?_cons_zero, List.getElem?_cons_succ, Option.map_some, Option.bind_some, List.drop_zero, List.drop_succ_cons, List.take_succ_cons, List.take_zero, List.length_map, outR, resAll, resOne, if_true, if_false, and_true, true_and, Bool.true_eq_false, Bool.false_eq_true, forall_const, true_implies, false_implies, implies_true, decide_true, decide_false, beq_self_eq_true, Option.getD_some, Nat.zero_add, Nat.add_zero, storeOp, storeCell, overlay, List.take_nil, List.drop_nil, List.append_nil, lookupOp, keyT, okRes, mapUpdateOp, Bool.and_self, Bool.and_true, Bool.true_and, Bool.not_true, Bool.not_false, gt_iff_lt, ge_iff_le, Nat.reduceSub, Nat.reduceAdd, Int.reduceLT, Int.reduceLE, Int.reduceAdd, Int.reduceSub, Int.reduceToNat, Int.reduceBEq, Int.reduceBNe, Int.reduceMul, Nat.reduceBEq, Nat.reduceBNe, Nat.reduceLT, Nat.reduceLeDiff, Nat.reduceMul, Nat.reduceEqDiff, WD, effB, effH, isPriv, isHeap, isImm, Option.any_some, Option.any_none, Option.isSome_none, chkO, setD, dslot, Bool.toNat_true, Bool.toNat_false, Nat.add_zero, Nat.zero_add, List.append_eq, and_self, ptrCells_some, F21, hb, ptrCells_some, hx.shutIn, hat.at1 hx, hat.cells, byteV, alts21_1]
  rw [wpCall_eq (letter_eq _ _)]
  simp only [WW, partV, eqCells, eqLf, minV, maxV, ifcV, List.map_cons, List.map_nil, List.length_cons, List.length_nil, List.getD_cons_zero, List.getD_cons_succ, List.set_cons_zero, List.set_cons_succ, List.set_nil, ofConst, ofConst1, List.replicate, List.cons_append, List.nil_append, loadOp, Go.Abs.loadCells, binV, Int.toNat_natCast, pickV, List.getElem?_cons_zero, List.getElem?_cons_succ, Option.map_some, Option.bind_some, List.drop_zero, List.drop_succ_cons, List.take_succ_cons, List.take_zero, List.length_map, outR, resAll, resOne, if_true, if_false, and_true, true_and, Bool.true_eq_false, Bool.false_eq_true, forall_const, true_implies, false_implies, implies_true, decide_true, decide_false, beq_self_eq_true, Option.getD_some, Nat.zero_add, Nat.add_zero, storeOp, storeCell, overlay, List.take_nil, List.drop_nil, List.append_nil, lookupOp, keyT, okRes, mapUpdateOp, Bool.and_self, Bool.and_true, Bool.true_and, Bool.not_true, Bool.not_false, gt_iff_lt, ge_iff_le, Nat.reduceSub, Nat.reduceAdd, Int.reduceLT, Int.reduceLE, Int.reduceAdd, Int.reduceSub, Int.reduceToNat, Int.reduceBEq, Int.reduceBNe, Int.reduceMul, Nat.reduceBEq, Nat.reduceBNe, Nat.reduceLT, Nat.reduceLeDiff, Nat.reduceMul, Nat.reduceEqDiff, WD, effB, effH, isPriv, isHeap, isImm, Option.any_some, Option.any_none, Option.isSome_none, chkO, setD, dslot, Bool.toNat_true, Bool.toNat_false, Nat.add_zero, Nat.zero_add, List.append_eq, and_self, ptrCells_some, F21, digit_letter hdc]
  rw [wpCall_eq (digit_eq _ _)]
  simp only [WW, partV, eqCells, eqLf, minV, maxV, ifcV, List.map_cons, List.map_nil, List.length_cons, List.length_nil, List.getD_cons_zero, List.getD_cons_succ, List.set_cons_zero, List.set_cons_succ, List.set_nil, ofConst, ofConst1, List.replicate, List.cons_append, List.nil_append, loadOp, Go.Abs.loadCells, binV, Int.toNat_natCast, pickV, List.getElem?_cons_zero, List.getElem?_cons_succ, Option.map_some, Option.bind_some, List.drop_zero, List.drop_succ_cons, List.take_succ_cons, List.take_zero, List.length_map, outR, resAll, resOne, if_true, if_false, and_true, true_and, Bool.true_eq_false, Bool.false_eq_true, forall_const, true_implies, false_implies, implies_true, decide_true, decide_false, beq_self_eq_true, Option.getD_some, Nat.zero_add, Nat.add_zero, storeOp, storeCell, overlay, List.take_nil, List.drop_nil, List.append_nil, lookupOp, keyT, okRes, mapUpdateOp, Bool.and_self, Bool.and_true, Bool.true_and, Bool.not_true, Bool.not_false, gt_iff_lt, ge_iff_le, Nat.reduceSub, Nat.reduceAdd, Int.reduceLT, Int.reduceLE, Int.reduceAdd, Int.reduceSub, Int.reduceToNat, Int.reduceBEq, Int.reduceBNe, Int.reduceMul, Nat.reduceBEq, Nat.reduceBNe, Nat.reduceLT, Nat.reduceLeDiff, Nat.reduceMul, Nat.reduceEqDiff, WD, effB, effH, isPriv, isHeap, isImm, Option.any_some, Option.any_none, Option.isSome_none, chkO, setD, dslot, Bool.toNat_true, Bool.toNat_false, Nat.add_zero, Nat.zero_add, List.append_eq, and_self, ptrCells_some, F21, hdc]
  refine wpCall_of (number_end hB hC hp hL hd hz) ?_
  rintro out H' ⟨h1, h2⟩
  cases hn : numR 0 (L.drop p) with
  | none =>
    obtain ⟨⟨t, rfl⟩, rfl⟩ := h2 hn
    simp only [tok3]
    simp only [WW, partV, eqCells, eqLf, minV, maxV, ifcV, List.map_cons, List.map_nil, List.length_cons, List.length_nil, List.getD_cons_zero, List.getD_cons_succ, List.set_cons_zero, List.set_cons_succ, List.set_nil, ofConst, ofConst1, List.replicate, List.cons_append, List.nil_append, loadOp, Go.Abs.loadCells, binV, Int.toNat_natCast, pickV, List.getElem?_cons_zero, List.getElem?_cons_succ, Option.map_some, Option.bind_some, List.drop_zero, List.drop_succ_cons, List.take_succ_cons, List.take_zero, List.length_map, outR, resAll, resOne, if_true, if_false, and_true, true_and, Bool.true_eq_false, Bool.false_eq_true, forall_const, true_implies, false_implies, implies_true, decide_true, decide_false, beq_self_eq_true, Option.getD_some, Nat.zero_add, Nat.add_zero, storeOp, storeCell, overlay, List.take_nil, List.drop_nil, List.append_nil, lookupOp, keyT, okRes, mapUpdateOp, Bool.and_self, Bool.and_true, Bool.true_and, Bool.not_true, Bool.not_false, gt_iff_lt, ge_iff_le, Nat.reduceSub, Nat.reduceAdd, Int.reduceLT, Int.reduceLE, Int.reduceAdd, Int.reduceSub, Int.reduceToNat, Int.reduceBEq, Int.reduceBNe, Int.reduceMul, Nat.reduceBEq, Nat.reduceBNe, Nat.reduceLT, Nat.reduceLeDiff, Nat.reduceMul, Nat.reduceEqDiff, WD, effB, effH, isPriv, isHeap, isImm, Option.any_some, Option.any_none, Option.isSome_none, chkO, setD, dslot, Bool.toNat_true, Bool.toNat_false, Nat.add_zero, Nat.zero_add, List.append_eq, and_self, ptrCells_some, F21, storeCell, overlay]
    exact ⟨fun n h => (by cases h), ⟨t, rfl⟩⟩
  | some n =>
    obtain ⟨rfl, rfl⟩ := h1 n hn
    simp only [tok3]
    simp only [WW, partV, eqCells, eqLf, minV, maxV, ifcV, List.map_cons, List.map_nil, List.length_cons, List.length_nil, List.getD_cons_zero, List.getD_cons_succ, List.set_cons_zero, List.set_cons_succ, List.set_nil, ofConst, ofConst1, List.replicate, List.cons_append, List.nil_append, loadOp, Go.Abs.loadCells, binV, Int.toNat_natCast, pickV, List.getElem?_cons_zero, List.getElem?_cons_succ, Option.map_some, Option.bind_some, List.drop_zero, List.drop_succ_cons, List.take_succ_cons, List.take_zero, List.length_map, outR, resAll, resOne, if_true, if_false, and_true, true_and, Bool.true_eq_false, Bool.false_eq_true, forall_const, true_implies, false_implies, implies_true, decide_true, decide_false, beq_self_eq_true, Option.getD_some, Nat.zero_add, Nat.add_zero, storeOp, storeCell, overlay, List.take_nil, List.drop_nil, List.append_nil, lookupOp, keyT, okRes, mapUpdateOp, Bool.and_self, Bool.and_true, Bool.true_and, Bool.not_true, Bool.not_false, gt_iff_lt, ge_iff_le, Nat.reduceSub, Nat.reduceAdd, Int.reduceLT, Int.reduceLE, Int.reduceAdd, Int.reduceSub, Int.reduceToNat, Int.reduceBEq, Int.reduceBNe, Int.reduceMul, Nat.reduceBEq, Nat.reduceBNe, Nat.reduceLT, Nat.reduceLeDiff, Nat.reduceMul, Nat.reduceEqDiff, WD, effB, effH, isPriv, isHeap, isImm, Option.any_some, Option.any_none, Option.isSome_none, chkO, setD, dslot, Bool.toNat_true, Bool.toNat_false, Nat.add_zero, Nat.zero_add, List.append_eq, and_self, ptrCells_some, F21, storeCell, overlay]
    refine ⟨fun m h => ?_, fun h => (by cases h)⟩
    obtain rfl := Option.some.inj h
    rfl
theorem skip0 {c : UInt8} {r : List UInt8} (h : digitB c.toNat = true) : skipN false (c :: r) = 0 := by
  have : 48 ≤ c.toNat := by simp only [digitB, Bool.and_eq_true, decide_eq_true_eq] at h; omega
  have ne : ∀ k : UInt8, k.toNat < 48 → (c == k) = false := fun k hk => by
    rw [beq_eq_false_iff_ne]; rintro rfl; omega
  have n10 : ¬ c = 10 := by have := ne 10 (by decide); simpa using this
  have n35 : ¬ c = 35 := by have := ne 35 (by decide); simpa using this
  simp only [skipN]
  rw [if_neg n10, if_neg (by simp [ne 32 (by decide), ne 9 (by decide), ne 13 (by decide)] <;> exact ⟨⟨by have := ne 32 (by decide); simpa using this, by have := ne 9 (by decide); simpa using this⟩, by have := ne 13 (by decide); simpa using this⟩), if_neg n35]
def eof (p : Nat) : V := .agg [.int .i64 0, .str ByteArray.empty, .int .i64 0, .int .i64 p]
theorem lex_num {H : Hp} {x : V} {L : List UInt8} (hB : Bx x L) (hne : 0 < L.length) (hL : L.length ≤ 65536) (hd : ∀ c ∈ L, digitB c.toNat = true) (hz : 1 < L.length → L[0]? ≠ some 48) :
    wpCall EW 10 [x] H (fun out H' => (∀ n, numR 0 L = some n → out = .ret (.tup [.rsl [tok3 n 0, eof L.length], .int .i64 0, .int .i64 L.length]) false) ∧ (numR 0 L = none → out = .ret (.tup [.nils, .int .i64 9, .int .i64 0]) false)) := by
  refine runs f10 b10 r10 n10 _ _ ?_
  simp only [bodyOf, Tryd.f10, Option.getD_some]
  have hx := hB.rd H
  have h65 : decide ((65536 : Int) < (L.length : Int)) = false := decide_eq_false (by omega)
  simp only [WW, partV, eqCells, eqLf, minV, maxV, ifcV, List.map_cons, List.map_nil, List.length_cons, List.length_nil, List.getD_cons_zero, List.getD_cons_succ, List.set_cons_zero, List.set_cons_succ, List.set_nil, ofConst, ofConst1, List.replicate, List.cons_append, List.nil_append, loadOp, Go.Abs.loadCells, binV, Int.toNat_natCast, pickV, List.getElem?_cons_zero, List.getElem?_cons_succ, Option.map_some, Option.bind_some, List.drop_zero, List.drop_succ_cons, List.take_succ_cons, List.take_zero, List.length_map, outR, resAll, resOne, if_true, if_false, and_true, true_and, Bool.true_eq_false, Bool.false_eq_true, forall_const, true_implies, false_implies, implies_true, decide_true, decide_false, beq_self_eq_true, Option.getD_some, Nat.zero_add, Nat.add_zero, storeOp, storeCell, overlay, List.take_nil, List.drop_nil, List.append_nil, lookupOp, keyT, okRes, mapUpdateOp, Bool.and_self, Bool.and_true, Bool.true_and, Bool.not_true, Bool.not_false, gt_iff_lt, ge_iff_le, Nat.reduceSub, Nat.reduceAdd, Int.reduceLT, Int.reduceLE, Int.reduceAdd, Int.reduceSub, Int.reduceToNat, Int.reduceBEq, Int.reduceBNe, Int.reduceMul, Nat.reduceBEq, Nat.reduceBNe, Nat.reduceLT, Nat.reduceLeDiff, Nat.reduceMul, Nat.reduceEqDiff, WD, effB, effH, isPriv, isHeap, isImm, Option.any_some, Option.any_none, Option.isSome_none, chkO, setD, dslot, Bool.toNat_true, Bool.toNat_false, Nat.add_zero, Nat.zero_add, List.append_eq, and_self, ptrCells_some, F10, hx.shutIn, hx.len, by8_len, h65, hx.ok, hx.cells1, hx.width1, buildOp, fillV, Lay.place, Bool.or_self, Bool.or_false, Bool.false_or, decide_not, ne_eq, not_true_eq_false, Bool.not_true, Bool.not_false, decide_eq_true_eq, Nat.lt_irrefl, gt_iff_lt, overlay]
  have hC0 : Ct (H ++ [ctr x ((0 : Nat) : Int)]) H.length x ((0 : Nat) : Int) := List.getElem?_concat_length
  have hwa : ∀ (a : Int) (b : ByteArray) (c d : Int), wideAll [V.agg [.int .i64 a, .str b, .int .i64 c, .int .i64 d]] 4 = true := fun _ _ _ _ => rfl
  have hwn : wideAll [] 4 = true := rfl
  have h40 : ¬ ((4 : Nat) = 0) := by decide
  have hclip : ∀ a b, clip a b (.v x) = .v x := fun a b => by rcases hB with ⟨rfl, _⟩ | rfl <;> rfl
  refine wC_loop _ (fun k st' H' => (k = 1 ∧ st' = ⟨L10_4 (.v x) (.v (.lr 0 0)) (.v (.ptr H.length 0 0)), [], [⟨true, true, []⟩]⟩ ∧ Ct H' H.length x ((0 : Nat) : Int)) ∨ (k = 0 ∧ ∃ n, numR 0 L = some n ∧ st' = ⟨L10_4 (.v x) (.v (.lr 0 1)) (.v (.ptr H.length 0 0)), [], [⟨true, true, [tok3 n 0]⟩]⟩ ∧ Ct H' H.length x ((L.length : Nat) : Int))) 1 (.inl ⟨rfl, ?_, hC0⟩) ?_
  · simp only [WN, firstReg, growAll, List.foldl_nil, List.foldl_cons, norm, killS, List.set_cons_zero, List.set_cons_succ, List.map_cons, List.map_nil, List.take_nil, List.take_zero, List.length_nil, growOne, List.getD_cons_zero, List.getD_cons_succ, List.length_cons, List.take_succ_cons, List.nil_append, Nat.reduceLT, Nat.reduceAdd, Nat.zero_add, if_true, F10, L10_4, hclip]
    try rfl
  · rintro k st' H' (⟨rfl, rfl, hC⟩ | ⟨rfl, n, hn, rfl, hC⟩)
    · simp only [L10_4]
      simp only [WW, partV, eqCells, eqLf, minV, maxV, ifcV, List.map_cons, List.map_nil, List.length_cons, List.length_nil, List.getD_cons_zero, List.getD_cons_succ, List.set_cons_zero, List.set_cons_succ, List.set_nil, ofConst, ofConst1, List.replicate, List.cons_append, List.nil_append, loadOp, Go.Abs.loadCells, binV, Int.toNat_natCast, pickV, List.getElem?_cons_zero, List.getElem?_cons_succ, Option.map_some, Option.bind_some, List.drop_zero, List.drop_succ_cons, List.take_succ_cons, List.take_zero, List.length_map, outR, resAll, resOne, if_true, if_false, and_true, true_and, Bool.true_eq_false, Bool.false_eq_true, forall_const, true_implies, false_implies, implies_true, decide_true, decide_false, beq_self_eq_true, Option.getD_some, Nat.zero_add, Nat.add_zero, storeOp, storeCell, overlay, List.take_nil, List.drop_nil, List.append_nil, lookupOp, keyT, okRes, mapUpdateOp, Bool.and_self, Bool.and_true, Bool.true_and, Bool.not_true, Bool.not_false, gt_iff_lt, ge_iff_le, Nat.reduceSub, Nat.reduceAdd, Int.reduceLT, Int.reduceLE, Int.reduceAdd, Int.reduceSub, Int.reduceToNat, Int.reduceBEq, Int.reduceBNe, Int.reduceMul, Nat.reduceBEq, Nat.reduceBNe, Nat.reduceLT, Nat.reduceLeDiff, Nat.reduceMul, Nat.reduceEqDiff, WD, effB, effH, isPriv, isHeap, isImm, Option.any_some, Option.any_none, Option.isSome_none, chkO, setD, dslot, Bool.toNat_true, Bool.toNat_false, Nat.add_zero, Nat.zero_add, List.append_eq, and_self, ptrCells_some, F10]
      refine wpCall_of (skip_spec (hB.by_ _ _) hC (Nat.zero_le _) (by omega)) ?_
      rintro out H2 ⟨rfl, rfl⟩
      have hs0 : skipN false (L.drop 0) = 0 := by
        cases L with
        | nil => simp at hne
        | cons c r => exact skip0 (hd c (by simp))
      rw [hs0]
      have hC2 := hC.to ((0 + 0 : Nat) : Int)
      generalize H'.set H.length (ctr x ((0 + 0 : Nat) : Int)) = H2 at *
      have hb2 : H2[H.length]? = some (.cells [.agg [x, .int .i64 ((0 + 0 : Nat) : Int)]]) := hC2
      have hx2 := hB.rd H2
      have hne2 : (((0 + 0 : Nat) : Int) == (L.length : Int)) = false := by rw [beq_eq_false_iff_ne]; omega
      have hr0 : rowV true [] 0 = .nils := rfl
      have hz0 : ((0 : Int) == 16384) = false := rfl
      simp only [WW, partV, eqCells, eqLf, minV, maxV, ifcV, List.map_cons, List.map_nil, List.length_cons, List.length_nil, List.getD_cons_zero, List.getD_cons_succ, List.set_cons_zero, List.set_cons_succ, List.set_nil, ofConst, ofConst1, List.replicate, List.cons_append, List.nil_append, loadOp, Go.Abs.loadCells, binV, Int.toNat_natCast, pickV, List.getElem?_cons_zero, List.getElem?_cons_succ, Option.map_some, Option.bind_some, List.drop_zero, List.drop_succ_cons, List.take_succ_cons, List.take_zero, List.length_map, outR, resAll, resOne, if_true, if_false, and_true, true_and, Bool.true_eq_false, Bool.false_eq_true, forall_const, true_implies, false_implies, implies_true, decide_true, decide_false, beq_self_eq_true, Option.getD_some, Nat.zero_add, Nat.add_zero, storeOp, storeCell, overlay, List.take_nil, List.drop_nil, List.append_nil, lookupOp, keyT, okRes, mapUpdateOp, Bool.and_self, Bool.and_true, Bool.true_and, Bool.not_true, Bool.not_false, gt_iff_lt, ge_iff_le, Nat.reduceSub, Nat.reduceAdd, Int.reduceLT, Int.reduceLE, Int.reduceAdd, Int.reduceSub, Int.reduceToNat, Int.reduceBEq, Int.reduceBNe, Int.reduceMul, Nat.reduceBEq, Nat.reduceBNe, Nat.reduceLT, Nat.reduceLeDiff, Nat.reduceMul, Nat.reduceEqDiff, WD, effB, effH, isPriv, isHeap, isImm, Option.any_some, Option.any_none, Option.isSome_none, chkO, setD, dslot, Bool.toNat_true, Bool.toNat_false, Nat.add_zero, Nat.zero_add, List.append_eq, and_self, ptrCells_some, F10, hb2, ptrCells_some, hx2.shutIn, hx2.len, by8_len, hne2, hr0, hz0]
      refine wpCall_of (next_num (p := 0) hB hC2 hne hL (by simpa using hd) (by simpa using hz)) ?_
      rintro out H3 ⟨q1, q2⟩
      rw [List.drop_zero] at q1 q2
      cases hn : numR 0 L with
      | none =>
        obtain ⟨⟨t, rfl⟩, rfl⟩ := q2 hn
        have hC3 := hC2.to ((0 : Nat) : Int)
        generalize H2.set H.length (ctr x ((0 : Nat) : Int)) = H3 at *
        have hb3 : H3[H.length]? = some (.cells [.agg [x, .int .i64 ((0 : Nat) : Int)]]) := hC3
        have h90 : ((9 : Int) != 0) = true := rfl
        simp only [tok3]
        simp only [WW, partV, eqCells, eqLf, minV, maxV, ifcV, List.map_cons, List.map_nil, List.length_cons, List.length_nil, List.getD_cons_zero, List.getD_cons_succ, List.set_cons_zero, List.set_cons_succ, List.set_nil, ofConst, ofConst1, List.replicate, List.cons_append, List.nil_append, loadOp, Go.Abs.loadCells, binV, Int.toNat_natCast, pickV, List.getElem?_cons_zero, List.getElem?_cons_succ, Option.map_some, Option.bind_some, List.drop_zero, List.drop_succ_cons, List.take_succ_cons, List.take_zero, List.length_map, outR, resAll, resOne, if_true, if_false, and_true, true_and, Bool.true_eq_false, Bool.false_eq_true, forall_const, true_implies, false_implies, implies_true, decide_true, decide_false, beq_self_eq_true, Option.getD_some, Nat.zero_add, Nat.add_zero, storeOp, storeCell, overlay, List.take_nil, List.drop_nil, List.append_nil, lookupOp, keyT, okRes, mapUpdateOp, Bool.and_self, Bool.and_true, Bool.true_and, Bool.not_true, Bool.not_false, gt_iff_lt, ge_iff_le, Nat.reduceSub, Nat.reduceAdd, Int.reduceLT, Int.reduceLE, Int.reduceAdd, Int.reduceSub, Int.reduceToNat, Int.reduceBEq, Int.reduceBNe, Int.reduceMul, Nat.reduceBEq, Nat.reduceBNe, Nat.reduceLT, Nat.reduceLeDiff, Nat.reduceMul, Nat.reduceEqDiff, WD, effB, effH, isPriv, isHeap, isImm, Option.any_some, Option.any_none, Option.isSome_none, chkO, setD, dslot, Bool.toNat_true, Bool.toNat_false, Nat.add_zero, Nat.zero_add, List.append_eq, and_self, ptrCells_some, F10, storeCell, overlay, h90]
        refine wC_dr alts10_11 (by kernel_rfl) ?_
        simp only [WW, partV, eqCells, eqLf, minV, maxV, ifcV, List.map_cons, List.map_nil, List.length_cons, List.length_nil, List.getD_cons_zero, List.getD_cons_succ, List.set_cons_zero, List.set_cons_succ, List.set_nil, ofConst, ofConst1, List.replicate, List.cons_append, List.nil_append, loadOp, Go.Abs.loadCells, binV, Int.toNat_natCast, pickV, List.getElem?_cons_zero, List.getElem?_cons_succ, Option.map_some, Option.bind_some, List.drop_zero, List.drop_succ_cons, List.take_succ_cons, List.take_zero, List.length_map, outR, resAll, resOne, if_true, if_false, and_true, true_and, Bool.true_eq_false, Bool.false_eq_true, forall_const, true_implies, false_implies, implies_true, decide_true, decide_false, beq_self_eq_true, Option.getD_some, Nat.zero_add, Nat.add_zero, storeOp, storeCell, overlay, List.take_nil, List.drop_nil, List.append_nil, lookupOp, keyT, okRes, mapUpdateOp, Bool.and_self, Bool.and_true, Bool.true_and, Bool.not_true, Bool.not_false, gt_iff_lt, ge_iff_le, Nat.reduceSub, Nat.reduceAdd, Int.reduceLT, Int.reduceLE, Int.reduceAdd, Int.reduceSub, Int.reduceToNat, Int.reduceBEq, Int.reduceBNe, Int.reduceMul, Nat.reduceBEq, Nat.reduceBNe, Nat.reduceLT, Nat.reduceLeDiff, Nat.reduceMul, Nat.reduceEqDiff, WD, effB, effH, isPriv, isHeap, isImm, Option.any_some, Option.any_none, Option.isSome_none, chkO, setD, dslot, Bool.toNat_true, Bool.toNat_false, Nat.add_zero, Nat.zero_add, List.append_eq, and_self, ptrCells_some, F10, hb3, ptrCells_some, alts10_11]
        refine ⟨fun n h => (by cases h), ?_⟩
        first | rfl | exact fun _ => rfl
      | some n =>
        obtain ⟨rfl, rfl⟩ := q1 n hn
        have hC3 := hC2.to (L.length : Int)
        generalize H2.set H.length (ctr x (L.length : Int)) = H3 at *
        have h00 : ((0 : Int) != 0) = false := rfl
        simp only [tok3]
        simp only [WW, partV, eqCells, eqLf, minV, maxV, ifcV, List.map_cons, List.map_nil, List.length_cons, List.length_nil, List.getD_cons_zero, List.getD_cons_succ, List.set_cons_zero, List.set_cons_succ, List.set_nil, ofConst, ofConst1, List.replicate, List.cons_append, List.nil_append, loadOp, Go.Abs.loadCells, binV, Int.toNat_natCast, pickV, List.getElem?_cons_zero, List.getElem?_cons_succ, Option.map_some, Option.bind_some, List.drop_zero, List.drop_succ_cons, List.take_succ_cons, List.take_zero, List.length_map, outR, resAll, resOne, if_true, if_false, and_true, true_and, Bool.true_eq_false, Bool.false_eq_true, forall_const, true_implies, false_implies, implies_true, decide_true, decide_false, beq_self_eq_true, Option.getD_some, Nat.zero_add, Nat.add_zero, storeOp, storeCell, overlay, List.take_nil, List.drop_nil, List.append_nil, lookupOp, keyT, okRes, mapUpdateOp, Bool.and_self, Bool.and_true, Bool.true_and, Bool.not_true, Bool.not_false, gt_iff_lt, ge_iff_le, Nat.reduceSub, Nat.reduceAdd, Int.reduceLT, Int.reduceLE, Int.reduceAdd, Int.reduceSub, Int.reduceToNat, Int.reduceBEq, Int.reduceBNe, Int.reduceMul, Nat.reduceBEq, Nat.reduceBNe, Nat.reduceLT, Nat.reduceLeDiff, Nat.reduceMul, Nat.reduceEqDiff, WD, effB, effH, isPriv, isHeap, isImm, Option.any_some, Option.any_none, Option.isSome_none, chkO, setD, dslot, Bool.toNat_true, Bool.toNat_false, Nat.add_zero, Nat.zero_add, List.append_eq, and_self, ptrCells_some, F10, storeCell, overlay, h00, bne_self_eq_false, buildSliceV, lits, srcV, frow, List.foldl_nil, List.foldl_cons, List.all_nil, List.all_cons, Nat.one_ne_zero, not_false_eq_true, true_and, appendOp, rowV, Bool.false_and, h40, ne_eq, hwa, hwn, Bool.not_true, Bool.false_eq_true, if_false, if_true]
        refine ⟨0, by omega, .inr ⟨rfl, n, rfl, ?_, hC3⟩⟩
        simp only [WN, firstReg, growAll, List.foldl_nil, List.foldl_cons, norm, killS, List.set_cons_zero, List.set_cons_succ, List.map_cons, List.map_nil, List.take_nil, List.take_zero, List.length_nil, growOne, List.getD_cons_zero, List.getD_cons_succ, List.length_cons, List.take_succ_cons, List.nil_append, Nat.reduceLT, Nat.reduceAdd, Nat.zero_add, if_true, F10, hclip]
        try rfl
    · simp only [L10_4]
      simp only [WW, partV, eqCells, eqLf, minV, maxV, ifcV, List.map_cons, List.map_nil, List.length_cons, List.length_nil, List.getD_cons_zero, List.getD_cons_succ, List.set_cons_zero, List.set_cons_succ, List.set_nil, ofConst, ofConst1, List.replicate, List.cons_append, List.nil_append, loadOp, Go.Abs.loadCells, binV, Int.toNat_natCast, pickV, List.getElem?_cons_zero, List.getElem?_cons_succ, Option.map_some, Option.bind_some, List.drop_zero, List.drop_succ_cons, List.take_succ_cons, List.take_zero, List.length_map, outR, resAll, resOne, if_true, if_false, and_true, true_and, Bool.true_eq_false, Bool.false_eq_true, forall_const, true_implies, false_implies, implies_true, decide_true, decide_false, beq_self_eq_true, Option.getD_some, Nat.zero_add, Nat.add_zero, storeOp, storeCell, overlay, List.take_nil, List.drop_nil, List.append_nil, lookupOp, keyT, okRes, mapUpdateOp, Bool.and_self, Bool.and_true, Bool.true_and, Bool.not_true, Bool.not_false, gt_iff_lt, ge_iff_le, Nat.reduceSub, Nat.reduceAdd, Int.reduceLT, Int.reduceLE, Int.reduceAdd, Int.reduceSub, Int.reduceToNat, Int.reduceBEq, Int.reduceBNe, Int.reduceMul, Nat.reduceBEq, Nat.reduceBNe, Nat.reduceLT, Nat.reduceLeDiff, Nat.reduceMul, Nat.reduceEqDiff, WD, effB, effH, isPriv, isHeap, isImm, Option.any_some, Option.any_none, Option.isSome_none, chkO, setD, dslot, Bool.toNat_true, Bool.toNat_false, Nat.add_zero, Nat.zero_add, List.append_eq, and_self, ptrCells_some, F10]
      refine wpCall_of (skip_spec (hB.by_ _ _) hC (Nat.le_refl _) (by omega)) ?_
      rintro out H2 ⟨rfl, rfl⟩
      have hs0 : skipN false (L.drop L.length) = 0 := by rw [List.drop_of_length_le (Nat.le_refl _)]; rfl
      rw [hs0]
      have hC2 := hC.to ((L.length + 0 : Nat) : Int)
      generalize H'.set H.length (ctr x ((L.length + 0 : Nat) : Int)) = H2 at *
      have hb2 : H2[H.length]? = some (.cells [.agg [x, .int .i64 ((L.length : Nat) : Int)]]) := hC2
      have hx2 := hB.rd H2
      simp only [tok3]
      simp only [WW, partV, eqCells, eqLf, minV, maxV, ifcV, List.map_cons, List.map_nil, List.length_cons, List.length_nil, List.getD_cons_zero, List.getD_cons_succ, List.set_cons_zero, List.set_cons_succ, List.set_nil, ofConst, ofConst1, List.replicate, List.cons_append, List.nil_append, loadOp, Go.Abs.loadCells, binV, Int.toNat_natCast, pickV, List.getElem?_cons_zero, List.getElem?_cons_succ, Option.map_some, Option.bind_some, List.drop_zero, List.drop_succ_cons, List.take_succ_cons, List.take_zero, List.length_map, outR, resAll, resOne, if_true, if_false, and_true, true_and, Bool.true_eq_false, Bool.false_eq_true, forall_const, true_implies, false_implies, implies_true, decide_true, decide_false, beq_self_eq_true, Option.getD_some, Nat.zero_add, Nat.add_zero, storeOp, storeCell, overlay, List.take_nil, List.drop_nil, List.append_nil, lookupOp, keyT, okRes, mapUpdateOp, Bool.and_self, Bool.and_true, Bool.true_and, Bool.not_true, Bool.not_false, gt_iff_lt, ge_iff_le, Nat.reduceSub, Nat.reduceAdd, Int.reduceLT, Int.reduceLE, Int.reduceAdd, Int.reduceSub, Int.reduceToNat, Int.reduceBEq, Int.reduceBNe, Int.reduceMul, Nat.reduceBEq, Nat.reduceBNe, Nat.reduceLT, Nat.reduceLeDiff, Nat.reduceMul, Nat.reduceEqDiff, WD, effB, effH, isPriv, isHeap, isImm, Option.any_some, Option.any_none, Option.isSome_none, chkO, setD, dslot, Bool.toNat_true, Bool.toNat_false, Nat.add_zero, Nat.zero_add, List.append_eq, and_self, ptrCells_some, F10, hb2, ptrCells_some, hx2.shutIn, hx2.len, by8_len, beq_self_eq_true]
      have hrw : rowV true [V.agg [.int .i64 3, .str ByteArray.empty, .int .i64 (n : Int), .int .i64 ((0 : Nat) : Int)]] 1 = .rsl [V.agg [.int .i64 3, .str ByteArray.empty, .int .i64 (n : Int), .int .i64 ((0 : Nat) : Int)]] := rfl
      simp only [WW, partV, eqCells, eqLf, minV, maxV, ifcV, List.map_cons, List.map_nil, List.length_cons, List.length_nil, List.getD_cons_zero, List.getD_cons_succ, List.set_cons_zero, List.set_cons_succ, List.set_nil, ofConst, ofConst1, List.replicate, List.cons_append, List.nil_append, loadOp, Go.Abs.loadCells, binV, Int.toNat_natCast, pickV, List.getElem?_cons_zero, List.getElem?_cons_succ, Option.map_some, Option.bind_some, List.drop_zero, List.drop_succ_cons, List.take_succ_cons, List.take_zero, List.length_map, outR, resAll, resOne, if_true, if_false, and_true, true_and, Bool.true_eq_false, Bool.false_eq_true, forall_const, true_implies, false_implies, implies_true, decide_true, decide_false, beq_self_eq_true, Option.getD_some, Nat.zero_add, Nat.add_zero, storeOp, storeCell, overlay, List.take_nil, List.drop_nil, List.append_nil, lookupOp, keyT, okRes, mapUpdateOp, Bool.and_self, Bool.and_true, Bool.true_and, Bool.not_true, Bool.not_false, gt_iff_lt, ge_iff_le, Nat.reduceSub, Nat.reduceAdd, Int.reduceLT, Int.reduceLE, Int.reduceAdd, Int.reduceSub, Int.reduceToNat, Int.reduceBEq, Int.reduceBNe, Int.reduceMul, Nat.reduceBEq, Nat.reduceBNe, Nat.reduceLT, Nat.reduceLeDiff, Nat.reduceMul, Nat.reduceEqDiff, WD, effB, effH, isPriv, isHeap, isImm, Option.any_some, Option.any_none, Option.isSome_none, chkO, setD, dslot, Bool.toNat_true, Bool.toNat_false, Nat.add_zero, Nat.zero_add, List.append_eq, and_self, ptrCells_some, F10, buildOp, fillV, Lay.place, Bool.or_self, Bool.or_false, Bool.false_or, decide_not, ne_eq, not_true_eq_false, Bool.not_true, Bool.not_false, decide_eq_true_eq, Nat.lt_irrefl, gt_iff_lt, storeCell, overlay, buildSliceV, lits, srcV, frow, List.foldl_nil, List.foldl_cons, List.all_nil, List.all_cons, Nat.one_ne_zero, not_false_eq_true, true_and, appendOp, rowV, Bool.false_and, h40, ne_eq, hwa, hwn, Bool.not_true, Bool.false_eq_true, if_false, if_true, hx2.shutIn, hx2.len, by8_len]
      refine ⟨fun m h => ?_, fun h => by rw [h] at hn; cases hn⟩
      rw [hn] at h
      obtain rfl := Option.some.inj h
      rfl
end Go.Proofs.YtcmndnkeoepmoaaDoor

namespace Go.Proofs.YtcmndnkeoepmoaaDoor
open Go Go.Abs Go.Proofs
set_option maxRecDepth 100000
set_option maxHeartbeats 400000
set_option linter.unusedVariables false
set_option linter.unusedSimpArgs false
theorem ofNat48 {d : Nat} (h : d < 10) : (UInt8.ofNat (48 + d)).toNat = 48 + d := by simp; omega
theorem dig48 {d : Nat} (h : d < 10) : dig (UInt8.ofNat (48 + d)) = d := by unfold dig; rw [ofNat48 h]; omega
theorem numR_app (c : UInt8) : ∀ (A : List UInt8) (t : Nat), numR t (A ++ [c]) = (numR t A).bind fun u => numR u [c]
  | [], t => rfl
  | a :: r, t => by
    simp only [List.cons_append, numR]
    split
    · rfl
    · exact numR_app c r _
theorem numR_dec (n : Nat) : numR 0 (decL n) = if n ≤ 2305843009213693951 then some n else none := by
  induction n using Nat.strongRecOn with
  | ind n ih =>
    by_cases h : n < 10
    · rw [decL_small h, numR, numR, dig48 h, if_neg (by omega), if_pos (by omega)]; simp
    · rw [decL_big h, numR_app, ih (n / 10) (by omega)]
      by_cases h1 : n / 10 ≤ 2305843009213693951
      · rw [if_pos h1]
        simp only [Option.bind_some, numR]
        rw [dig48 (Nat.mod_lt _ (by decide))]
        by_cases h2 : n ≤ 2305843009213693951
        · rw [if_neg (by omega), if_pos h2]; congr 1; omega
        · rw [if_pos (by omega), if_neg h2]
      · rw [if_neg h1, if_neg (by omega)]; rfl
theorem decL_dig (n : Nat) : ∀ c ∈ decL n, digitB c.toNat = true := by
  induction n using Nat.strongRecOn with
  | ind n ih =>
    have one : ∀ d, d < 10 → digitB ((UInt8.ofNat (48 + d)).toNat : Nat) = true := fun d hd => by
      rw [ofNat48 hd]; simp [digitB]; omega
    by_cases h : n < 10
    · rw [decL_small h]; intro c hc; obtain rfl := List.mem_singleton.1 hc; exact one n h
    · rw [decL_big h]; intro c hc
      rcases List.mem_append.1 hc with hc | hc
      · exact ih (n / 10) (by omega) c hc
      · obtain rfl := List.mem_singleton.1 hc; exact one _ (Nat.mod_lt _ (by decide))
theorem decL_pos (n : Nat) : 0 < (decL n).length := by
  by_cases h : n < 10
  · rw [decL_small h]; simp
  · rw [decL_big h]; simp
theorem decL_lead (n : Nat) : 1 ≤ n → (decL n)[0]? ≠ some 48 := by
  induction n using Nat.strongRecOn with
  | ind n ih =>
    intro h1
    by_cases h : n < 10
    · rw [decL_small h]
      intro e
      have e2 : UInt8.ofNat (48 + n) = 48 := by simpa using e
      have := congrArg UInt8.toNat e2
      rw [ofNat48 h] at this
      have e48 : (48 : UInt8).toNat = 48 := rfl
      omega
    · rw [decL_big h, List.getElem?_append_left (decL_pos _)]
      exact ih (n / 10) (by omega) (by omega)
theorem lexNumbers_neg (n : Int) (hn : n < 0) : wpCall EW 8 [.int .i64 n] [] (fun out H' => out = .ret (.bool true) false) := by
  refine runs f8 b8 r8 n8 _ _ ?_
  simp only [bodyOf, Tryd.f8, Option.getD_some]
  simp only [WW, partV, eqCells, eqLf, minV, maxV, ifcV, List.map_cons, List.map_nil, List.length_cons, List.length_nil, List.getD_cons_zero, List.getD_cons_succ, List.set_cons_zero, List.set_cons_succ, List.set_nil, ofConst, ofConst1, List.replicate, List.cons_append, List.nil_append, loadOp, Go.Abs.loadCells, binV, Int.toNat_natCast, pickV, List.getElem?_cons_zero, List.getElem?_cons_succ, Option.map_some, Option.bind_some, List.drop_zero, List.drop_succ_cons, List.take_succ_cons, List.take_zero, List.length_map, outR, resAll, resOne, if_true, if_false, and_true, true_and, Bool.true_eq_false, Bool.false_eq_true, forall_const, true_implies, false_implies, implies_true, decide_true, decide_false, beq_self_eq_true, Option.getD_some, Nat.zero_add, Nat.add_zero, storeOp, storeCell, overlay, List.take_nil, List.drop_nil, List.append_nil, lookupOp, keyT, okRes, mapUpdateOp, Bool.and_self, Bool.and_true, Bool.true_and, Bool.not_true, Bool.not_false, gt_iff_lt, ge_iff_le, Nat.reduceSub, Nat.reduceAdd, Int.reduceLT, Int.reduceLE, Int.reduceAdd, Int.reduceSub, Int.reduceToNat, Int.reduceBEq, Int.reduceBNe, Int.reduceMul, Nat.reduceBEq, Nat.reduceBNe, Nat.reduceLT, Nat.reduceLeDiff, Nat.reduceMul, Nat.reduceEqDiff, WD, effB, effH, isPriv, isHeap, isImm, Option.any_some, Option.any_none, Option.isSome_none, chkO, setD, dslot, Bool.toNat_true, Bool.toNat_false, Nat.add_zero, Nat.zero_add, List.append_eq, and_self, ptrCells_some, F8, decide_eq_true hn]
  rw [wpCall_eq (live_eq _)]
  simp only [WW, partV, eqCells, eqLf, minV, maxV, ifcV, List.map_cons, List.map_nil, List.length_cons, List.length_nil, List.getD_cons_zero, List.getD_cons_succ, List.set_cons_zero, List.set_cons_succ, List.set_nil, ofConst, ofConst1, List.replicate, List.cons_append, List.nil_append, loadOp, Go.Abs.loadCells, binV, Int.toNat_natCast, pickV, List.getElem?_cons_zero, List.getElem?_cons_succ, Option.map_some, Option.bind_some, List.drop_zero, List.drop_succ_cons, List.take_succ_cons, List.take_zero, List.length_map, outR, resAll, resOne, if_true, if_false, and_true, true_and, Bool.true_eq_false, Bool.false_eq_true, forall_const, true_implies, false_implies, implies_true, decide_true, decide_false, beq_self_eq_true, Option.getD_some, Nat.zero_add, Nat.add_zero, storeOp, storeCell, overlay, List.take_nil, List.drop_nil, List.append_nil, lookupOp, keyT, okRes, mapUpdateOp, Bool.and_self, Bool.and_true, Bool.true_and, Bool.not_true, Bool.not_false, gt_iff_lt, ge_iff_le, Nat.reduceSub, Nat.reduceAdd, Int.reduceLT, Int.reduceLE, Int.reduceAdd, Int.reduceSub, Int.reduceToNat, Int.reduceBEq, Int.reduceBNe, Int.reduceMul, Nat.reduceBEq, Nat.reduceBNe, Nat.reduceLT, Nat.reduceLeDiff, Nat.reduceMul, Nat.reduceEqDiff, WD, effB, effH, isPriv, isHeap, isImm, Option.any_some, Option.any_none, Option.isSome_none, chkO, setD, dslot, Bool.toNat_true, Bool.toNat_false, Nat.add_zero, Nat.zero_add, List.append_eq, and_self, ptrCells_some, F8]
theorem lexNumbers_pos (n : Nat) (hn : n ≤ 9223372036854775807) : wpCall EW 8 [.int .i64 n] [] (fun out H' => out = .ret (.bool true) false) := by
  have hl := decL_len 18 n (by omega)
  have hB : Bx (.rsl (by8 (decL n))) (decL n) := .inr rfl
  have hlex := lex_num (H := []) hB (decL_pos n) (by omega) (decL_dig n) (fun h => decL_lead n (by
    rcases Nat.lt_or_ge n 1 with h0 | h0
    · have : n = 0 := by omega
      subst this; rw [decL_small (by omega)] at h; simp at h
    · exact h0))
  rw [numR_dec] at hlex
  have h9 : tk Tryd.prog 9 = .str := by kernel_rfl
  have h22 : tk Tryd.prog 22 = .slice 5 := by kernel_rfl
  have h5 : tk Tryd.prog 5 = .int .u8 := by kernel_rfl
  have hcv : ∀ (st : St) (d : Option Nat), convertOp Tryd.prog .priv st [] d 9 22 (.str ⟨(decL n).toArray⟩) = some (putS st d (.v (.rsl (by8 (decL n)))), []) := fun st d => by
    simp [convertOp, h9, h22, h5, bytesV, by8]
  refine runs f8 b8 r8 n8 _ _ ?_
  simp only [bodyOf, Tryd.f8, Option.getD_some]
  have h0 : decide ((n : Int) < 0) = false := decide_eq_false (by omega)
  simp only [WW, partV, eqCells, eqLf, minV, maxV, ifcV, List.map_cons, List.map_nil, List.length_cons, List.length_nil, List.getD_cons_zero, List.getD_cons_succ, List.set_cons_zero, List.set_cons_succ, List.set_nil, ofConst, ofConst1, List.replicate, List.cons_append, List.nil_append, loadOp, Go.Abs.loadCells, binV, Int.toNat_natCast, pickV, List.getElem?_cons_zero, List.getElem?_cons_succ, Option.map_some, Option.bind_some, List.drop_zero, List.drop_succ_cons, List.take_succ_cons, List.take_zero, List.length_map, outR, resAll, resOne, if_true, if_false, and_true, true_and, Bool.true_eq_false, Bool.false_eq_true, forall_const, true_implies, false_implies, implies_true, decide_true, decide_false, beq_self_eq_true, Option.getD_some, Nat.zero_add, Nat.add_zero, storeOp, storeCell, overlay, List.take_nil, List.drop_nil, List.append_nil, lookupOp, keyT, okRes, mapUpdateOp, Bool.and_self, Bool.and_true, Bool.true_and, Bool.not_true, Bool.not_false, gt_iff_lt, ge_iff_le, Nat.reduceSub, Nat.reduceAdd, Int.reduceLT, Int.reduceLE, Int.reduceAdd, Int.reduceSub, Int.reduceToNat, Int.reduceBEq, Int.reduceBNe, Int.reduceMul, Nat.reduceBEq, Nat.reduceBNe, Nat.reduceLT, Nat.reduceLeDiff, Nat.reduceMul, Nat.reduceEqDiff, WD, effB, effH, isPriv, isHeap, isImm, Option.any_some, Option.any_none, Option.isSome_none, chkO, setD, dslot, Bool.toNat_true, Bool.toNat_false, Nat.add_zero, Nat.zero_add, List.append_eq, and_self, ptrCells_some, F8, h0]
  rw [wpCall_eq (dec_eq n hn _)]
  simp only [WW, partV, eqCells, eqLf, minV, maxV, ifcV, List.map_cons, List.map_nil, List.length_cons, List.length_nil, List.getD_cons_zero, List.getD_cons_succ, List.set_cons_zero, List.set_cons_succ, List.set_nil, ofConst, ofConst1, List.replicate, List.cons_append, List.nil_append, loadOp, Go.Abs.loadCells, binV, Int.toNat_natCast, pickV, List.getElem?_cons_zero, List.getElem?_cons_succ, Option.map_some, Option.bind_some, List.drop_zero, List.drop_succ_cons, List.take_succ_cons, List.take_zero, List.length_map, outR, resAll, resOne, if_true, if_false, and_true, true_and, Bool.true_eq_false, Bool.false_eq_true, forall_const, true_implies, false_implies, implies_true, decide_true, decide_false, beq_self_eq_true, Option.getD_some, Nat.zero_add, Nat.add_zero, storeOp, storeCell, overlay, List.take_nil, List.drop_nil, List.append_nil, lookupOp, keyT, okRes, mapUpdateOp, Bool.and_self, Bool.and_true, Bool.true_and, Bool.not_true, Bool.not_false, gt_iff_lt, ge_iff_le, Nat.reduceSub, Nat.reduceAdd, Int.reduceLT, Int.reduceLE, Int.reduceAdd, Int.reduceSub, Int.reduceToNat, Int.reduceBEq, Int.reduceBNe, Int.reduceMul, Nat.reduceBEq, Nat.reduceBNe, Nat.reduceLT, Nat.reduceLeDiff, Nat.reduceMul, Nat.reduceEqDiff, WD, effB, effH, isPriv, isHeap, isImm, Option.any_some, Option.any_none, Option.isSome_none, chkO, setD, dslot, Bool.toNat_true, Bool.toNat_false, Nat.add_zero, Nat.zero_add, List.append_eq, and_self, ptrCells_some, F8, hcv]
  refine wpCall_of hlex ?_
  rintro out H' ⟨q1, q2⟩
  by_cases hm : n ≤ 2305843009213693951
  · rw [if_pos hm] at q1 q2
    obtain rfl := q1 n rfl
    have hg : decide ((2305843009213693951 : Int) < (n : Int)) = false := decide_eq_false (by omega)
    simp only [tok3, eof]
    simp only [WW, partV, eqCells, eqLf, minV, maxV, ifcV, List.map_cons, List.map_nil, List.length_cons, List.length_nil, List.getD_cons_zero, List.getD_cons_succ, List.set_cons_zero, List.set_cons_succ, List.set_nil, ofConst, ofConst1, List.replicate, List.cons_append, List.nil_append, loadOp, Go.Abs.loadCells, binV, Int.toNat_natCast, pickV, List.getElem?_cons_zero, List.getElem?_cons_succ, Option.map_some, Option.bind_some, List.drop_zero, List.drop_succ_cons, List.take_succ_cons, List.take_zero, List.length_map, outR, resAll, resOne, if_true, if_false, and_true, true_and, Bool.true_eq_false, Bool.false_eq_true, forall_const, true_implies, false_implies, implies_true, decide_true, decide_false, beq_self_eq_true, Option.getD_some, Nat.zero_add, Nat.add_zero, storeOp, storeCell, overlay, List.take_nil, List.drop_nil, List.append_nil, lookupOp, keyT, okRes, mapUpdateOp, Bool.and_self, Bool.and_true, Bool.true_and, Bool.not_true, Bool.not_false, gt_iff_lt, ge_iff_le, Nat.reduceSub, Nat.reduceAdd, Int.reduceLT, Int.reduceLE, Int.reduceAdd, Int.reduceSub, Int.reduceToNat, Int.reduceBEq, Int.reduceBNe, Int.reduceMul, Nat.reduceBEq, Nat.reduceBNe, Nat.reduceLT, Nat.reduceLeDiff, Nat.reduceMul, Nat.reduceEqDiff, WD, effB, effH, isPriv, isHeap, isImm, Option.any_some, Option.any_none, Option.isSome_none, chkO, setD, dslot, Bool.toNat_true, Bool.toNat_false, Nat.add_zero, Nat.zero_add, List.append_eq, and_self, ptrCells_some, F8, hg]
    rw [wpCall_eq (num_eq _ _)]
    have h22' : (((2 : Nat) : Int) == 2) = true := rfl
    have h33 : ((3 : Int) == 3) = true := rfl
    have h00 : ((0 : Int) ≤ 0) = True := eq_true (Int.le_refl 0)
    simp only [WW, partV, eqCells, eqLf, minV, maxV, ifcV, List.map_cons, List.map_nil, List.length_cons, List.length_nil, List.getD_cons_zero, List.getD_cons_succ, List.set_cons_zero, List.set_cons_succ, List.set_nil, ofConst, ofConst1, List.replicate, List.cons_append, List.nil_append, loadOp, Go.Abs.loadCells, binV, Int.toNat_natCast, pickV, List.getElem?_cons_zero, List.getElem?_cons_succ, Option.map_some, Option.bind_some, List.drop_zero, List.drop_succ_cons, List.take_succ_cons, List.take_zero, List.length_map, outR, resAll, resOne, if_true, if_false, and_true, true_and, Bool.true_eq_false, Bool.false_eq_true, forall_const, true_implies, false_implies, implies_true, decide_true, decide_false, beq_self_eq_true, Option.getD_some, Nat.zero_add, Nat.add_zero, storeOp, storeCell, overlay, List.take_nil, List.drop_nil, List.append_nil, lookupOp, keyT, okRes, mapUpdateOp, Bool.and_self, Bool.and_true, Bool.true_and, Bool.not_true, Bool.not_false, gt_iff_lt, ge_iff_le, Nat.reduceSub, Nat.reduceAdd, Int.reduceLT, Int.reduceLE, Int.reduceAdd, Int.reduceSub, Int.reduceToNat, Int.reduceBEq, Int.reduceBNe, Int.reduceMul, Nat.reduceBEq, Nat.reduceBNe, Nat.reduceLT, Nat.reduceLeDiff, Nat.reduceMul, Nat.reduceEqDiff, WD, effB, effH, isPriv, isHeap, isImm, Option.any_some, Option.any_none, Option.isSome_none, chkO, setD, dslot, Bool.toNat_true, Bool.toNat_false, Nat.add_zero, Nat.zero_add, List.append_eq, and_self, ptrCells_some, F8, beq_self_eq_true, by8_len, slAt_rsl, h22', h33]
    rw [wpCall_eq (live_eq _)]
    simp only [WW, partV, eqCells, eqLf, minV, maxV, ifcV, List.map_cons, List.map_nil, List.length_cons, List.length_nil, List.getD_cons_zero, List.getD_cons_succ, List.set_cons_zero, List.set_cons_succ, List.set_nil, ofConst, ofConst1, List.replicate, List.cons_append, List.nil_append, loadOp, Go.Abs.loadCells, binV, Int.toNat_natCast, pickV, List.getElem?_cons_zero, List.getElem?_cons_succ, Option.map_some, Option.bind_some, List.drop_zero, List.drop_succ_cons, List.take_succ_cons, List.take_zero, List.length_map, outR, resAll, resOne, if_true, if_false, and_true, true_and, Bool.true_eq_false, Bool.false_eq_true, forall_const, true_implies, false_implies, implies_true, decide_true, decide_false, beq_self_eq_true, Option.getD_some, Nat.zero_add, Nat.add_zero, storeOp, storeCell, overlay, List.take_nil, List.drop_nil, List.append_nil, lookupOp, keyT, okRes, mapUpdateOp, Bool.and_self, Bool.and_true, Bool.true_and, Bool.not_true, Bool.not_false, gt_iff_lt, ge_iff_le, Nat.reduceSub, Nat.reduceAdd, Int.reduceLT, Int.reduceLE, Int.reduceAdd, Int.reduceSub, Int.reduceToNat, Int.reduceBEq, Int.reduceBNe, Int.reduceMul, Nat.reduceBEq, Nat.reduceBNe, Nat.reduceLT, Nat.reduceLeDiff, Nat.reduceMul, Nat.reduceEqDiff, WD, effB, effH, isPriv, isHeap, isImm, Option.any_some, Option.any_none, Option.isSome_none, chkO, setD, dslot, Bool.toNat_true, Bool.toNat_false, Nat.add_zero, Nat.zero_add, List.append_eq, and_self, ptrCells_some, F8]
  · rw [if_neg hm] at q1 q2
    obtain rfl := q2 rfl
    have hg : decide ((2305843009213693951 : Int) < (n : Int)) = true := decide_eq_true (by omega)
    simp only [WW, partV, eqCells, eqLf, minV, maxV, ifcV, List.map_cons, List.map_nil, List.length_cons, List.length_nil, List.getD_cons_zero, List.getD_cons_succ, List.set_cons_zero, List.set_cons_succ, List.set_nil, ofConst, ofConst1, List.replicate, List.cons_append, List.nil_append, loadOp, Go.Abs.loadCells, binV, Int.toNat_natCast, pickV, List.getElem?_cons_zero, List.getElem?_cons_succ, Option.map_some, Option.bind_some, List.drop_zero, List.drop_succ_cons, List.take_succ_cons, List.take_zero, List.length_map, outR, resAll, resOne, if_true, if_false, and_true, true_and, Bool.true_eq_false, Bool.false_eq_true, forall_const, true_implies, false_implies, implies_true, decide_true, decide_false, beq_self_eq_true, Option.getD_some, Nat.zero_add, Nat.add_zero, storeOp, storeCell, overlay, List.take_nil, List.drop_nil, List.append_nil, lookupOp, keyT, okRes, mapUpdateOp, Bool.and_self, Bool.and_true, Bool.true_and, Bool.not_true, Bool.not_false, gt_iff_lt, ge_iff_le, Nat.reduceSub, Nat.reduceAdd, Int.reduceLT, Int.reduceLE, Int.reduceAdd, Int.reduceSub, Int.reduceToNat, Int.reduceBEq, Int.reduceBNe, Int.reduceMul, Nat.reduceBEq, Nat.reduceBNe, Nat.reduceLT, Nat.reduceLeDiff, Nat.reduceMul, Nat.reduceEqDiff, WD, effB, effH, isPriv, isHeap, isImm, Option.any_some, Option.any_none, Option.isSome_none, chkO, setD, dslot, Bool.toNat_true, Bool.toNat_false, Nat.add_zero, Nat.zero_add, List.append_eq, and_self, ptrCells_some, F8, hg]
    rw [wpCall_eq (num_eq _ _)]
    simp only [WW, partV, eqCells, eqLf, minV, maxV, ifcV, List.map_cons, List.map_nil, List.length_cons, List.length_nil, List.getD_cons_zero, List.getD_cons_succ, List.set_cons_zero, List.set_cons_succ, List.set_nil, ofConst, ofConst1, List.replicate, List.cons_append, List.nil_append, loadOp, Go.Abs.loadCells, binV, Int.toNat_natCast, pickV, List.getElem?_cons_zero, List.getElem?_cons_succ, Option.map_some, Option.bind_some, List.drop_zero, List.drop_succ_cons, List.take_succ_cons, List.take_zero, List.length_map, outR, resAll, resOne, if_true, if_false, and_true, true_and, Bool.true_eq_false, Bool.false_eq_true, forall_const, true_implies, false_implies, implies_true, decide_true, decide_false, beq_self_eq_true, Option.getD_some, Nat.zero_add, Nat.add_zero, storeOp, storeCell, overlay, List.take_nil, List.drop_nil, List.append_nil, lookupOp, keyT, okRes, mapUpdateOp, Bool.and_self, Bool.and_true, Bool.true_and, Bool.not_true, Bool.not_false, gt_iff_lt, ge_iff_le, Nat.reduceSub, Nat.reduceAdd, Int.reduceLT, Int.reduceLE, Int.reduceAdd, Int.reduceSub, Int.reduceToNat, Int.reduceBEq, Int.reduceBNe, Int.reduceMul, Nat.reduceBEq, Nat.reduceBNe, Nat.reduceLT, Nat.reduceLeDiff, Nat.reduceMul, Nat.reduceEqDiff, WD, effB, effH, isPriv, isHeap, isImm, Option.any_some, Option.any_none, Option.isSome_none, chkO, setD, dslot, Bool.toNat_true, Bool.toNat_false, Nat.add_zero, Nat.zero_add, List.append_eq, and_self, ptrCells_some, F8, beq_self_eq_true]
    rw [wpCall_eq (live_eq _)]
    simp only [WW, partV, eqCells, eqLf, minV, maxV, ifcV, List.map_cons, List.map_nil, List.length_cons, List.length_nil, List.getD_cons_zero, List.getD_cons_succ, List.set_cons_zero, List.set_cons_succ, List.set_nil, ofConst, ofConst1, List.replicate, List.cons_append, List.nil_append, loadOp, Go.Abs.loadCells, binV, Int.toNat_natCast, pickV, List.getElem?_cons_zero, List.getElem?_cons_succ, Option.map_some, Option.bind_some, List.drop_zero, List.drop_succ_cons, List.take_succ_cons, List.take_zero, List.length_map, outR, resAll, resOne, if_true, if_false, and_true, true_and, Bool.true_eq_false, Bool.false_eq_true, forall_const, true_implies, false_implies, implies_true, decide_true, decide_false, beq_self_eq_true, Option.getD_some, Nat.zero_add, Nat.add_zero, storeOp, storeCell, overlay, List.take_nil, List.drop_nil, List.append_nil, lookupOp, keyT, okRes, mapUpdateOp, Bool.and_self, Bool.and_true, Bool.true_and, Bool.not_true, Bool.not_false, gt_iff_lt, ge_iff_le, Nat.reduceSub, Nat.reduceAdd, Int.reduceLT, Int.reduceLE, Int.reduceAdd, Int.reduceSub, Int.reduceToNat, Int.reduceBEq, Int.reduceBNe, Int.reduceMul, Nat.reduceBEq, Nat.reduceBNe, Nat.reduceLT, Nat.reduceLeDiff, Nat.reduceMul, Nat.reduceEqDiff, WD, effB, effH, isPriv, isHeap, isImm, Option.any_some, Option.any_none, Option.isSome_none, chkO, setD, dslot, Bool.toNat_true, Bool.toNat_false, Nat.add_zero, Nat.zero_add, List.append_eq, and_self, ptrCells_some, F8]
theorem lexNumbers_main {v0 : List V} (h0 : Tv Tryd.prog 8 3 v0) : wpCall (evW Tryd.prog notes) 8 [mkV (isAggT Tryd.prog 3) v0] [] (fun out H' => out = .ret (.bool true) false) := by
  have u3 : Tryd.prog.underlying 3 = some (.int .i64) := by kernel_rfl
  have a3 : isAggT Tryd.prog 3 = false := by unfold isAggT; rw [u3]
  obtain ⟨n, rfl, hw⟩ := tv_int h0 u3
  have := i64_wf hw
  rw [a3]
  by_cases hn : n < 0
  · exact lexNumbers_neg n hn
  · obtain ⟨k, rfl⟩ : ∃ k : Nat, n = k := ⟨n.toNat, by omega⟩
    exact lexNumbers_pos k (by omega)
end Go.Proofs.YtcmndnkeoepmoaaDoor

namespace Go.Proofs.YtcmndnkeoepmoaaDoor
open Go Go.Abs Go.Proofs
set_option maxRecDepth 100000
set_option maxHeartbeats 400000
set_option linter.unusedVariables false
set_option linter.unusedSimpArgs false
/-! ### What the lexer computes, on lists of bytes -/
structure Tk where
  k : Nat
  t : List UInt8
  n : Nat
  p : Nat
def tokV (t : Tk) : V := .agg [.int .i64 t.k, .str ⟨t.t.toArray⟩, .int .i64 t.n, .int .i64 t.p]
/-- A token and how many bytes it is; or an error and how far off. -/
inductive Nx
  | tok (k : Nat) (t : List UInt8) (n len : Nat)
  | bad (e off : Nat)
def hexN (c : UInt8) : Option Nat :=
  if 48 ≤ c.toNat ∧ c.toNat ≤ 57 then some (c.toNat - 48) else if 97 ≤ c.toNat ∧ c.toNat ≤ 102 then some (c.toNat - 87) else if 65 ≤ c.toNat ∧ c.toNat ≤ 70 then some (c.toNat - 55) else none
def escB (d : UInt8) : Option UInt8 := if d = 110 then some 10 else if d = 116 then some 9 else if d = 34 ∨ d = 92 then some d else none
def textS : List UInt8 → List UInt8 → Nat → Nx
  | [], _, o => .bad 6 o
  | c :: r, out, o =>
    if c = 10 then .bad 6 o
    else if c = 34 then .tok 4 out 0 (o + 1)
    else if c ≠ 92 then textS r (out ++ [c]) (o + 1)
    else match r with
      | [] => .bad 6 (o + 1)
      | d :: r1 =>
        if d = 120 then
          match r1 with
          | [] => .bad 6 (o + 2)
          | a :: r2 => match hexN a with
            | none => .bad 6 (o + 2)
            | some x => match r2 with
              | [] => .bad 6 (o + 3)
              | b :: r3 => match hexN b with
                | none => .bad 6 (o + 3)
                | some y => textS r3 (out ++ [UInt8.ofNat (16 * x + y)]) (o + 4)
        else match escB d with
          | some y => textS r1 (out ++ [y]) (o + 2)
          | none => .bad 6 (o + 1)
def numS (R : List UInt8) : Nx :=
  let D := R.takeWhile fun c => digitB c.toNat
  if decide (1 < D.length) && D[0]? == some 48 then .bad 6 1
  else if (R[D.length]?).any (fun c => letterB c.toNat) then .bad 6 D.length
  else match numR 0 D with
    | some n => .tok 3 [] n D.length
    | none => .bad 9 0
def nameC (c : UInt8) : Bool := letterB c.toNat || digitB c.toNat
def nameS (R : List UInt8) : Nx :=
  let D := R.takeWhile nameC
  .tok (if wordB ⟨D.toArray⟩ then 2 else 1) D 0 D.length
def sign1 : List UInt8 := [43, 45, 42, 47, 37, 60, 62, 61, 40, 41, 91, 93, 123, 125, 44, 59, 58, 46]
def signS (c : UInt8) (r : List UInt8) : Nx :=
  if r.head? = some 61 ∧ (c = 61 ∨ c = 33 ∨ c = 60 ∨ c = 62) then .tok 5 [c, 61] 0 2
  else if c ∈ sign1 then .tok 5 [c] 0 1
  else .bad 6 (if c = 33 then 1 else 0)
def nextS : List UInt8 → Nx
  | [] => .bad 0 0
  | c :: r => if letterB c.toNat then nameS (c :: r) else if digitB c.toNat then numS (c :: r) else if c = 34 then textS r [] 1 else signS c r
theorem skipN_le : ∀ (b : Bool) (R : List UInt8), skipN b R ≤ R.length
  | _, [] => Nat.le_refl _
  | b, c :: r => by
    unfold skipN
    have h1 := skipN_le false r
    have h2 := skipN_le b r
    have h3 := skipN_le true r
    simp only [List.length_cons]
    split
    · omega
    · split
      · omega
      · split <;> omega
/-- The tokens of what is left, from a place on, with so many before; or the error and its place -/
def lexS (R : List UInt8) (p k : Nat) : Except (Nat × Nat) (List Tk) :=
  let s := skipN false R
  match hR : R.drop s with
  | [] => .ok [⟨0, [], 0, p + s⟩]
  | c :: r =>
    if k = 16384 then .error (3, p + s)
    else match nextS (c :: r) with
      | .bad e off => .error (e, p + s + off)
      | .tok kd t n len => match lexS (r.drop (len - 1)) (p + s + len) (k + 1) with
        | .ok l => .ok (⟨kd, t, n, p + s⟩ :: l)
        | .error x => .error x
termination_by R.length
decreasing_by
  have h1 := congrArg List.length hR
  simp only [List.length_drop, List.length_cons] at h1 ⊢
  omega
theorem lexS_end {R : List UInt8} {p k : Nat} (h : R.drop (skipN false R) = []) : lexS R p k = .ok [⟨0, [], 0, p + skipN false R⟩] := by
  rw [lexS]
  split
  · rfl
  · rename_i c r h2; rw [h] at h2; cases h2
theorem lexS_many {R : List UInt8} {p : Nat} (h : R.drop (skipN false R) ≠ []) : lexS R p 16384 = .error (3, p + skipN false R) := by
  rw [lexS]
  split
  · rename_i h2; exact absurd h2 h
  · rw [if_pos rfl]
theorem lexS_bad {R : List UInt8} {p k e off : Nat} {c : UInt8} {r : List UInt8} (h : R.drop (skipN false R) = c :: r) (hk : k ≠ 16384) (hn : nextS (c :: r) = .bad e off) : lexS R p k = .error (e, p + skipN false R + off) := by
  rw [lexS]
  split
  · rename_i h2; rw [h] at h2; cases h2
  · rename_i c' r' h2
    rw [h] at h2; cases h2
    rw [if_neg hk, hn]
theorem lexS_tok {R : List UInt8} {p k kd n len : Nat} {t : List UInt8} {c : UInt8} {r : List UInt8} (h : R.drop (skipN false R) = c :: r) (hk : k ≠ 16384) (hn : nextS (c :: r) = .tok kd t n len) :
    lexS R p k = match lexS (r.drop (len - 1)) (p + skipN false R + len) (k + 1) with | .ok l => .ok (⟨kd, t, n, p + skipN false R⟩ :: l) | .error x => .error x := by
  rw [lexS]
  split
  · rename_i h2; rw [h] at h2; cases h2
  · rename_i c' r' h2
    rw [h] at h2; cases h2
    rw [if_neg hk, hn]
/-- A token has a byte at least, and no more than there are. -/
theorem textS_len : ∀ (R out : List UInt8) (o : Nat) {k t n len}, textS R out o = .tok k t n len → o + 1 ≤ len ∧ len ≤ o + R.length
  | [], out, o, k, t, n, len, h => by rw [textS] at h; cases h
  | c :: r, out, o, k, t, n, len, h => by
    unfold textS at h
    split at h
    · cases h
    split at h
    · cases h; simp <;> omega
    split at h
    · have := textS_len r _ _ h; simp only [List.length_cons]; omega
    match r, h with
    | [], h => cases h
    | d :: r1, h =>
      simp only at h
      split at h
      · match r1, h with
        | [], h => cases h
        | a :: r2, h =>
          simp only at h
          split at h
          · cases h
          match r2, h with
          | [], h => cases h
          | b :: r3, h =>
            simp only at h
            split at h
            · cases h
            have := textS_len r3 _ _ h; simp only [List.length_cons]; omega
      · split at h
        · have := textS_len r1 _ _ h; simp only [List.length_cons]; omega
        · cases h
theorem takeWhile_le {α : Type} (P : α → Bool) : ∀ l : List α, (l.takeWhile P).length ≤ l.length
  | [] => by simp
  | c :: r => by rw [List.takeWhile_cons]; split <;> simp [takeWhile_le P r]
theorem nextS_len {R : List UInt8} {k t n len} (h : nextS R = .tok k t n len) : 1 ≤ len ∧ len ≤ R.length := by
  cases R with
  | nil => cases h
  | cons c r =>
    simp only [nextS] at h
    split at h
    · rename_i hc
      unfold nameS at h
      simp only [Nx.tok.injEq] at h
      obtain ⟨_, _, _, rfl⟩ := h
      refine ⟨?_, takeWhile_le _ _⟩
      rw [List.takeWhile_cons, if_pos (by simp [nameC, hc])]; simp
    split at h
    · rename_i hc
      unfold numS at h
      simp only at h
      split at h
      · cases h
      split at h
      · cases h
      split at h
      · simp only [Nx.tok.injEq] at h
        obtain ⟨_, _, _, rfl⟩ := h
        refine ⟨?_, takeWhile_le _ _⟩
        rw [List.takeWhile_cons, if_pos hc]; simp
      · cases h
    split at h
    · have := textS_len r [] 1 h; simp only [List.length_cons]; omega
    · unfold signS at h
      split at h
      · rename_i h2
        simp only [Nx.tok.injEq] at h
        obtain ⟨_, _, _, rfl⟩ := h
        cases r with
        | nil => simp at h2
        | cons d r => simp
      split at h
      · simp only [Nx.tok.injEq] at h
        obtain ⟨_, _, _, rfl⟩ := h
        simp
      · cases h
end Go.Proofs.YtcmndnkeoepmoaaDoor

namespace Go.Proofs.YtcmndnkeoepmoaaDoor
open Go Go.Abs Go.Proofs
set_option maxRecDepth 100000
set_option maxHeartbeats 1000000
set_option linter.unusedVariables false
set_option linter.unusedSimpArgs false
theorem nameq_eq (c : Int) (H : Hp) : EW 37 [.int .u8 c] H = some (.ret (.bool (letterB c || digitB c)) false, H) := by
  refine eqOf (runs f37 b37 r37 n37 _ _ ?_)
  simp only [bodyOf, Tryd.f37, Option.getD_some]
  simp only [WW, partV, eqCells, eqLf, minV, maxV, ifcV, List.map_cons, List.map_nil, List.length_cons, List.length_nil, List.getD_cons_zero, List.getD_cons_succ, List.set_cons_zero, List.set_cons_succ, List.set_nil, ofConst, ofConst1, List.replicate, List.cons_append, List.nil_append, loadOp, Go.Abs.loadCells, binV, Int.toNat_natCast, pickV, List.getElem?_cons_zero, List.getElem?_cons_succ, Option.map_some, Option.bind_some, List.drop_zero, List.drop_succ_cons, List.take_succ_cons, List.take_zero, List.length_map, outR, resAll, resOne, if_true, if_false, and_true, true_and, Bool.true_eq_false, Bool.false_eq_true, forall_const, true_implies, false_implies, implies_true, decide_true, decide_false, beq_self_eq_true, Option.getD_some, Nat.zero_add, Nat.add_zero, storeOp, storeCell, overlay, List.take_nil, List.drop_nil, List.append_nil, lookupOp, keyT, okRes, mapUpdateOp, Bool.and_self, Bool.and_true, Bool.true_and, Bool.not_true, Bool.not_false, gt_iff_lt, ge_iff_le, Nat.reduceSub, Nat.reduceAdd, Int.reduceLT, Int.reduceLE, Int.reduceAdd, Int.reduceSub, Int.reduceToNat, Int.reduceBEq, Int.reduceBNe, Int.reduceMul, Nat.reduceBEq, Nat.reduceBNe, Nat.reduceLT, Nat.reduceLeDiff, Nat.reduceMul, Nat.reduceEqDiff, WD, effB, effH, isPriv, isHeap, isImm, Option.any_some, Option.any_none, Option.isSome_none, chkO, setD, dslot, Bool.toNat_true, Bool.toNat_false, Nat.add_zero, Nat.zero_add, List.append_eq, and_self, ptrCells_some, F37]
  rw [wpCall_eq (letter_eq _ _)]
  cases h : letterB c with
  | true => simp only [WW, partV, eqCells, eqLf, minV, maxV, ifcV, List.map_cons, List.map_nil, List.length_cons, List.length_nil, List.getD_cons_zero, List.getD_cons_succ, List.set_cons_zero, List.set_cons_succ, List.set_nil, ofConst, ofConst1, List.replicate, List.cons_append, List.nil_append, loadOp, Go.Abs.loadCells, binV, Int.toNat_natCast, pickV, List.getElem?_cons_zero, List.getElem?_cons_succ, Option.map_some, Option.bind_some, List.drop_zero, List.drop_succ_cons, List.take_succ_cons, List.take_zero, List.length_map, outR, resAll, resOne, if_true, if_false, and_true, true_and, Bool.true_eq_false, Bool.false_eq_true, forall_const, true_implies, false_implies, implies_true, decide_true, decide_false, beq_self_eq_true, Option.getD_some, Nat.zero_add, Nat.add_zero, storeOp, storeCell, overlay, List.take_nil, List.drop_nil, List.append_nil, lookupOp, keyT, okRes, mapUpdateOp, Bool.and_self, Bool.and_true, Bool.true_and, Bool.not_true, Bool.not_false, gt_iff_lt, ge_iff_le, Nat.reduceSub, Nat.reduceAdd, Int.reduceLT, Int.reduceLE, Int.reduceAdd, Int.reduceSub, Int.reduceToNat, Int.reduceBEq, Int.reduceBNe, Int.reduceMul, Nat.reduceBEq, Nat.reduceBNe, Nat.reduceLT, Nat.reduceLeDiff, Nat.reduceMul, Nat.reduceEqDiff, WD, effB, effH, isPriv, isHeap, isImm, Option.any_some, Option.any_none, Option.isSome_none, chkO, setD, dslot, Bool.toNat_true, Bool.toNat_false, Nat.add_zero, Nat.zero_add, List.append_eq, and_self, ptrCells_some, F37, Bool.true_or]
  | false =>
    simp only [WW, partV, eqCells, eqLf, minV, maxV, ifcV, List.map_cons, List.map_nil, List.length_cons, List.length_nil, List.getD_cons_zero, List.getD_cons_succ, List.set_cons_zero, List.set_cons_succ, List.set_nil, ofConst, ofConst1, List.replicate, List.cons_append, List.nil_append, loadOp, Go.Abs.loadCells, binV, Int.toNat_natCast, pickV, List.getElem?_cons_zero, List.getElem?_cons_succ, Option.map_some, Option.bind_some, List.drop_zero, List.drop_succ_cons, List.take_succ_cons, List.take_zero, List.length_map, outR, resAll, resOne, if_true, if_false, and_true, true_and, Bool.true_eq_false, Bool.false_eq_true, forall_const, true_implies, false_implies, implies_true, decide_true, decide_false, beq_self_eq_true, Option.getD_some, Nat.zero_add, Nat.add_zero, storeOp, storeCell, overlay, List.take_nil, List.drop_nil, List.append_nil, lookupOp, keyT, okRes, mapUpdateOp, Bool.and_self, Bool.and_true, Bool.true_and, Bool.not_true, Bool.not_false, gt_iff_lt, ge_iff_le, Nat.reduceSub, Nat.reduceAdd, Int.reduceLT, Int.reduceLE, Int.reduceAdd, Int.reduceSub, Int.reduceToNat, Int.reduceBEq, Int.reduceBNe, Int.reduceMul, Nat.reduceBEq, Nat.reduceBNe, Nat.reduceLT, Nat.reduceLeDiff, Nat.reduceMul, Nat.reduceEqDiff, WD, effB, effH, isPriv, isHeap, isImm, Option.any_some, Option.any_none, Option.isSome_none, chkO, setD, dslot, Bool.toNat_true, Bool.toNat_false, Nat.add_zero, Nat.zero_add, List.append_eq, and_self, ptrCells_some, F37]
    rw [wpCall_eq (digit_eq _ _)]
    simp only [WW, partV, eqCells, eqLf, minV, maxV, ifcV, List.map_cons, List.map_nil, List.length_cons, List.length_nil, List.getD_cons_zero, List.getD_cons_succ, List.set_cons_zero, List.set_cons_succ, List.set_nil, ofConst, ofConst1, List.replicate, List.cons_append, List.nil_append, loadOp, Go.Abs.loadCells, binV, Int.toNat_natCast, pickV, List.getElem?_cons_zero, List.getElem?_cons_succ, Option.map_some, Option.bind_some, List.drop_zero, List.drop_succ_cons, List.take_succ_cons, List.take_zero, List.length_map, outR, resAll, resOne, if_true, if_false, and_true, true_and, Bool.true_eq_false, Bool.false_eq_true, forall_const, true_implies, false_implies, implies_true, decide_true, decide_false, beq_self_eq_true, Option.getD_some, Nat.zero_add, Nat.add_zero, storeOp, storeCell, overlay, List.take_nil, List.drop_nil, List.append_nil, lookupOp, keyT, okRes, mapUpdateOp, Bool.and_self, Bool.and_true, Bool.true_and, Bool.not_true, Bool.not_false, gt_iff_lt, ge_iff_le, Nat.reduceSub, Nat.reduceAdd, Int.reduceLT, Int.reduceLE, Int.reduceAdd, Int.reduceSub, Int.reduceToNat, Int.reduceBEq, Int.reduceBNe, Int.reduceMul, Nat.reduceBEq, Nat.reduceBNe, Nat.reduceLT, Nat.reduceLeDiff, Nat.reduceMul, Nat.reduceEqDiff, WD, effB, effH, isPriv, isHeap, isImm, Option.any_some, Option.any_none, Option.isSome_none, chkO, setD, dslot, Bool.toNat_true, Bool.toNat_false, Nat.add_zero, Nat.zero_add, List.append_eq, and_self, ptrCells_some, F37, Bool.false_or]
theorem name_spec {H : Hp} {w : Nat} {x : V} {L : List UInt8} {p : Nat} (hB : By H w x L) (hC : Ct H w x p) (hp : p ≤ L.length) (hL : L.length ≤ 65536) :
    wpCall EW 31 [.ptr w 0 0] H (fun out H' => out = .ret (tokV ⟨if wordB ⟨((L.drop p).takeWhile nameC).toArray⟩ then 2 else 1, (L.drop p).takeWhile nameC, 0, p⟩) false ∧ H' = H.set w (ctr x ((p + ((L.drop p).takeWhile nameC).length : Nat) : Int))) := by
  refine runs f31 b31 r31 n31 _ _ ?_
  simp only [bodyOf, Tryd.f31, Option.getD_some]
  have hb0 : H[w]? = some (.cells [.agg [x, .int .i64 (p : Int)]]) := hC
  simp only [WW, partV, eqCells, eqLf, minV, maxV, ifcV, List.map_cons, List.map_nil, List.length_cons, List.length_nil, List.getD_cons_zero, List.getD_cons_succ, List.set_cons_zero, List.set_cons_succ, List.set_nil, ofConst, ofConst1, List.replicate, List.cons_append, List.nil_append, loadOp, Go.Abs.loadCells, binV, Int.toNat_natCast, pickV, List.getElem?_cons_zero, List.getElem?_cons_succ, Option.map_some, Option.bind_some, List.drop_zero, List.drop_succ_cons, List.take_succ_cons, List.take_zero, List.length_map, outR, resAll, resOne, if_true, if_false, and_true, true_and, Bool.true_eq_false, Bool.false_eq_true, forall_const, true_implies, false_implies, implies_true, decide_true, decide_false, beq_self_eq_true, Option.getD_some, Nat.zero_add, Nat.add_zero, storeOp, storeCell, overlay, List.take_nil, List.drop_nil, List.append_nil, lookupOp, keyT, okRes, mapUpdateOp, Bool.and_self, Bool.and_true, Bool.true_and, Bool.not_true, Bool.not_false, gt_iff_lt, ge_iff_le, Nat.reduceSub, Nat.reduceAdd, Int.reduceLT, Int.reduceLE, Int.reduceAdd, Int.reduceSub, Int.reduceToNat, Int.reduceBEq, Int.reduceBNe, Int.reduceMul, Nat.reduceBEq, Nat.reduceBNe, Nat.reduceLT, Nat.reduceLeDiff, Nat.reduceMul, Nat.reduceEqDiff, WD, effB, effH, isPriv, isHeap, isImm, Option.any_some, Option.any_none, Option.isSome_none, chkO, setD, dslot, Bool.toNat_true, Bool.toNat_false, Nat.add_zero, Nat.zero_add, List.append_eq, and_self, ptrCells_some, F31, hb0, buildOp, fillV, Lay.place, Bool.or_self, Bool.or_false, Bool.false_or, decide_not, ne_eq, not_true_eq_false, Bool.not_true, Bool.not_false, decide_eq_true_eq, Nat.lt_irrefl, gt_iff_lt, storeCell, overlay]
  refine wpCall_of (run_spec (P := fun c => letterB c || digitB c) call37 nameq_eq hB hC hp (by omega)) ?_
  rintro out H1 ⟨rfl, rfl⟩
  have e : (L.drop p).takeWhile (fun c => letterB c.toNat || digitB c.toNat) = (L.drop p).takeWhile nameC := rfl
  simp only [e]
  generalize (L.drop p).takeWhile nameC = D
  simp only [WW, partV, eqCells, eqLf, minV, maxV, ifcV, List.map_cons, List.map_nil, List.length_cons, List.length_nil, List.getD_cons_zero, List.getD_cons_succ, List.set_cons_zero, List.set_cons_succ, List.set_nil, ofConst, ofConst1, List.replicate, List.cons_append, List.nil_append, loadOp, Go.Abs.loadCells, binV, Int.toNat_natCast, pickV, List.getElem?_cons_zero, List.getElem?_cons_succ, Option.map_some, Option.bind_some, List.drop_zero, List.drop_succ_cons, List.take_succ_cons, List.take_zero, List.length_map, outR, resAll, resOne, if_true, if_false, and_true, true_and, Bool.true_eq_false, Bool.false_eq_true, forall_const, true_implies, false_implies, implies_true, decide_true, decide_false, beq_self_eq_true, Option.getD_some, Nat.zero_add, Nat.add_zero, storeOp, storeCell, overlay, List.take_nil, List.drop_nil, List.append_nil, lookupOp, keyT, okRes, mapUpdateOp, Bool.and_self, Bool.and_true, Bool.true_and, Bool.not_true, Bool.not_false, gt_iff_lt, ge_iff_le, Nat.reduceSub, Nat.reduceAdd, Int.reduceLT, Int.reduceLE, Int.reduceAdd, Int.reduceSub, Int.reduceToNat, Int.reduceBEq, Int.reduceBNe, Int.reduceMul, Nat.reduceBEq, Nat.reduceBNe, Nat.reduceLT, Nat.reduceLeDiff, Nat.reduceMul, Nat.reduceEqDiff, WD, effB, effH, isPriv, isHeap, isImm, Option.any_some, Option.any_none, Option.isSome_none, chkO, setD, dslot, Bool.toNat_true, Bool.toNat_false, Nat.add_zero, Nat.zero_add, List.append_eq, and_self, ptrCells_some, F31, storeCell, overlay]
  rw [wpCall_eq (word_eq _ _)]
  cases hw : wordB ⟨D.toArray⟩ with
  | true =>
    simp only [WW, partV, eqCells, eqLf, minV, maxV, ifcV, List.map_cons, List.map_nil, List.length_cons, List.length_nil, List.getD_cons_zero, List.getD_cons_succ, List.set_cons_zero, List.set_cons_succ, List.set_nil, ofConst, ofConst1, List.replicate, List.cons_append, List.nil_append, loadOp, Go.Abs.loadCells, binV, Int.toNat_natCast, pickV, List.getElem?_cons_zero, List.getElem?_cons_succ, Option.map_some, Option.bind_some, List.drop_zero, List.drop_succ_cons, List.take_succ_cons, List.take_zero, List.length_map, outR, resAll, resOne, if_true, if_false, and_true, true_and, Bool.true_eq_false, Bool.false_eq_true, forall_const, true_implies, false_implies, implies_true, decide_true, decide_false, beq_self_eq_true, Option.getD_some, Nat.zero_add, Nat.add_zero, storeOp, storeCell, overlay, List.take_nil, List.drop_nil, List.append_nil, lookupOp, keyT, okRes, mapUpdateOp, Bool.and_self, Bool.and_true, Bool.true_and, Bool.not_true, Bool.not_false, gt_iff_lt, ge_iff_le, Nat.reduceSub, Nat.reduceAdd, Int.reduceLT, Int.reduceLE, Int.reduceAdd, Int.reduceSub, Int.reduceToNat, Int.reduceBEq, Int.reduceBNe, Int.reduceMul, Nat.reduceBEq, Nat.reduceBNe, Nat.reduceLT, Nat.reduceLeDiff, Nat.reduceMul, Nat.reduceEqDiff, WD, effB, effH, isPriv, isHeap, isImm, Option.any_some, Option.any_none, Option.isSome_none, chkO, setD, dslot, Bool.toNat_true, Bool.toNat_false, Nat.add_zero, Nat.zero_add, List.append_eq, and_self, ptrCells_some, F31, storeCell, overlay]
    simp [tokV]
  | false =>
    simp only [WW, partV, eqCells, eqLf, minV, maxV, ifcV, List.map_cons, List.map_nil, List.length_cons, List.length_nil, List.getD_cons_zero, List.getD_cons_succ, List.set_cons_zero, List.set_cons_succ, List.set_nil, ofConst, ofConst1, List.replicate, List.cons_append, List.nil_append, loadOp, Go.Abs.loadCells, binV, Int.toNat_natCast, pickV, List.getElem?_cons_zero, List.getElem?_cons_succ, Option.map_some, Option.bind_some, List.drop_zero, List.drop_succ_cons, List.take_succ_cons, List.take_zero, List.length_map, outR, resAll, resOne, if_true, if_false, and_true, true_and, Bool.true_eq_false, Bool.false_eq_true, forall_const, true_implies, false_implies, implies_true, decide_true, decide_false, beq_self_eq_true, Option.getD_some, Nat.zero_add, Nat.add_zero, storeOp, storeCell, overlay, List.take_nil, List.drop_nil, List.append_nil, lookupOp, keyT, okRes, mapUpdateOp, Bool.and_self, Bool.and_true, Bool.true_and, Bool.not_true, Bool.not_false, gt_iff_lt, ge_iff_le, Nat.reduceSub, Nat.reduceAdd, Int.reduceLT, Int.reduceLE, Int.reduceAdd, Int.reduceSub, Int.reduceToNat, Int.reduceBEq, Int.reduceBNe, Int.reduceMul, Nat.reduceBEq, Nat.reduceBNe, Nat.reduceLT, Nat.reduceLeDiff, Nat.reduceMul, Nat.reduceEqDiff, WD, effB, effH, isPriv, isHeap, isImm, Option.any_some, Option.any_none, Option.isSome_none, chkO, setD, dslot, Bool.toNat_true, Bool.toNat_false, Nat.add_zero, Nat.zero_add, List.append_eq, and_self, ptrCells_some, F31, storeCell, overlay]
    simp [tokV]
def hexI (c : UInt8) : Int := match hexN c with | some n => n | none => -1
theorem u8wrap {n : Int} (h : 0 ≤ n ∧ n < 256) : IntKind.u8.wrap n = n := by
  simp [IntKind.wrap, IntKind.bits, IntKind.signed]; omega
theorem hexit_eq (c : UInt8) (H : Hp) : EW 40 [.int .u8 (c.toNat : Int)] H = some (.ret (.int .i64 (hexI c)) false, H) := by
  have hlt := c.toNat_lt
  refine eqOf (runsP f40 b40 r40 n40 _ rfl _ ?_)
  simp only [bodyOf, Tryd.f40, Option.getD_some]
  simp only [WW, partV, eqCells, eqLf, minV, maxV, ifcV, List.map_cons, List.map_nil, List.length_cons, List.length_nil, List.getD_cons_zero, List.getD_cons_succ, List.set_cons_zero, List.set_cons_succ, List.set_nil, ofConst, ofConst1, List.replicate, List.cons_append, List.nil_append, loadOp, Go.Abs.loadCells, binV, Int.toNat_natCast, pickV, List.getElem?_cons_zero, List.getElem?_cons_succ, Option.map_some, Option.bind_some, List.drop_zero, List.drop_succ_cons, List.take_succ_cons, List.take_zero, List.length_map, outR, resAll, resOne, if_true, if_false, and_true, true_and, Bool.true_eq_false, Bool.false_eq_true, forall_const, true_implies, false_implies, implies_true, decide_true, decide_false, beq_self_eq_true, Option.getD_some, Nat.zero_add, Nat.add_zero, storeOp, storeCell, overlay, List.take_nil, List.drop_nil, List.append_nil, lookupOp, keyT, okRes, mapUpdateOp, Bool.and_self, Bool.and_true, Bool.true_and, Bool.not_true, Bool.not_false, gt_iff_lt, ge_iff_le, Nat.reduceSub, Nat.reduceAdd, Int.reduceLT, Int.reduceLE, Int.reduceAdd, Int.reduceSub, Int.reduceToNat, Int.reduceBEq, Int.reduceBNe, Int.reduceMul, Nat.reduceBEq, Nat.reduceBNe, Nat.reduceLT, Nat.reduceLeDiff, Nat.reduceMul, Nat.reduceEqDiff, WD, effB, effH, isPriv, isHeap, isImm, Option.any_some, Option.any_none, Option.isSome_none, chkO, setD, dslot, Bool.toNat_true, Bool.toNat_false, Nat.add_zero, Nat.zero_add, List.append_eq, and_self, ptrCells_some, F40]
  rw [wpCall_eq (digit_eq _ _)]
  by_cases h1 : 48 ≤ c.toNat ∧ c.toNat ≤ 57
  · have hd : digitB (c.toNat : Int) = true := by simp [digitB]; omega
    have e : hexI c = (c.toNat : Int) - 48 := by unfold hexI hexN; rw [if_pos h1]; simp only []; omega
    have hw : IntKind.u8.wrap ((c.toNat : Int) - 48) = (c.toNat : Int) - 48 := u8wrap (by omega)
    have hw2 : IntKind.i64.wrap ((c.toNat : Int) - 48) = (c.toNat : Int) - 48 := IntWalk.i64_in _ (by omega)
    simp only [WW, partV, eqCells, eqLf, minV, maxV, ifcV, List.map_cons, List.map_nil, List.length_cons, List.length_nil, List.getD_cons_zero, List.getD_cons_succ, List.set_cons_zero, List.set_cons_succ, List.set_nil, ofConst, ofConst1, List.replicate, List.cons_append, List.nil_append, loadOp, Go.Abs.loadCells, binV, Int.toNat_natCast, pickV, List.getElem?_cons_zero, List.getElem?_cons_succ, Option.map_some, Option.bind_some, List.drop_zero, List.drop_succ_cons, List.take_succ_cons, List.take_zero, List.length_map, outR, resAll, resOne, if_true, if_false, and_true, true_and, Bool.true_eq_false, Bool.false_eq_true, forall_const, true_implies, false_implies, implies_true, decide_true, decide_false, beq_self_eq_true, Option.getD_some, Nat.zero_add, Nat.add_zero, storeOp, storeCell, overlay, List.take_nil, List.drop_nil, List.append_nil, lookupOp, keyT, okRes, mapUpdateOp, Bool.and_self, Bool.and_true, Bool.true_and, Bool.not_true, Bool.not_false, gt_iff_lt, ge_iff_le, Nat.reduceSub, Nat.reduceAdd, Int.reduceLT, Int.reduceLE, Int.reduceAdd, Int.reduceSub, Int.reduceToNat, Int.reduceBEq, Int.reduceBNe, Int.reduceMul, Nat.reduceBEq, Nat.reduceBNe, Nat.reduceLT, Nat.reduceLeDiff, Nat.reduceMul, Nat.reduceEqDiff, WD, effB, effH, isPriv, isHeap, isImm, Option.any_some, Option.any_none, Option.isSome_none, chkO, setD, dslot, Bool.toNat_true, Bool.toNat_false, Nat.add_zero, Nat.zero_add, List.append_eq, and_self, ptrCells_some, F40, hd, hw, hw2, convertOp]
    rw [e]
    first | exact ⟨rfl, rfl⟩ | exact rfl
  · have hd : digitB (c.toNat : Int) = false := by simp [digitB]; omega
    by_cases h2 : 97 ≤ c.toNat ∧ c.toNat ≤ 102
    · have e : hexI c = (c.toNat : Int) - 87 := by unfold hexI hexN; rw [if_neg h1, if_pos h2]; simp only []; omega
      have hw : IntKind.u8.wrap ((c.toNat : Int) - 97) = (c.toNat : Int) - 97 := u8wrap (by omega)
      have hw2 : IntKind.i64.wrap ((c.toNat : Int) - 97) = (c.toNat : Int) - 97 := IntWalk.i64_in _ (by omega)
      have hw3 : IntKind.i64.wrap ((c.toNat : Int) - 97 + 10) = (c.toNat : Int) - 87 := by rw [IntWalk.i64_in _ (by omega)]; omega
      have g1 : decide ((97 : Int) ≤ (c.toNat : Int)) = true := decide_eq_true (by omega)
      have g2 : decide ((c.toNat : Int) ≤ 102) = true := decide_eq_true (by omega)
      simp only [WW, partV, eqCells, eqLf, minV, maxV, ifcV, List.map_cons, List.map_nil, List.length_cons, List.length_nil, List.getD_cons_zero, List.getD_cons_succ, List.set_cons_zero, List.set_cons_succ, List.set_nil, ofConst, ofConst1, List.replicate, List.cons_append, List.nil_append, loadOp, Go.Abs.loadCells, binV, Int.toNat_natCast, pickV, List.getElem?_cons_zero, List.getElem?_cons_succ, Option.map_some, Option.bind_some, List.drop_zero, List.drop_succ_cons, List.take_succ_cons, List.take_zero, List.length_map, outR, resAll, resOne, if_true, if_false, and_true, true_and, Bool.true_eq_false, Bool.false_eq_true, forall_const, true_implies, false_implies, implies_true, decide_true, decide_false, beq_self_eq_true, Option.getD_some, Nat.zero_add, Nat.add_zero, storeOp, storeCell, overlay, List.take_nil, List.drop_nil, List.append_nil, lookupOp, keyT, okRes, mapUpdateOp, Bool.and_self, Bool.and_true, Bool.true_and, Bool.not_true, Bool.not_false, gt_iff_lt, ge_iff_le, Nat.reduceSub, Nat.reduceAdd, Int.reduceLT, Int.reduceLE, Int.reduceAdd, Int.reduceSub, Int.reduceToNat, Int.reduceBEq, Int.reduceBNe, Int.reduceMul, Nat.reduceBEq, Nat.reduceBNe, Nat.reduceLT, Nat.reduceLeDiff, Nat.reduceMul, Nat.reduceEqDiff, WD, effB, effH, isPriv, isHeap, isImm, Option.any_some, Option.any_none, Option.isSome_none, chkO, setD, dslot, Bool.toNat_true, Bool.toNat_false, Nat.add_zero, Nat.zero_add, List.append_eq, and_self, ptrCells_some, F40, hd, hw, hw2, hw3, g1, g2, convertOp]
      rw [e]
      first | exact ⟨rfl, rfl⟩ | exact rfl
    · by_cases h3 : 65 ≤ c.toNat ∧ c.toNat ≤ 70
      · have e : hexI c = (c.toNat : Int) - 55 := by unfold hexI hexN; rw [if_neg h1, if_neg h2, if_pos h3]; simp only []; omega
        have hw : IntKind.u8.wrap ((c.toNat : Int) - 65) = (c.toNat : Int) - 65 := u8wrap (by omega)
        have hw2 : IntKind.i64.wrap ((c.toNat : Int) - 65) = (c.toNat : Int) - 65 := IntWalk.i64_in _ (by omega)
        have hw3 : IntKind.i64.wrap ((c.toNat : Int) - 65 + 10) = (c.toNat : Int) - 55 := by rw [IntWalk.i64_in _ (by omega)]; omega
        have g1 : decide ((97 : Int) ≤ (c.toNat : Int)) = false := decide_eq_false (by omega)
        have g2 : decide ((65 : Int) ≤ (c.toNat : Int)) = true := decide_eq_true (by omega)
        have g3 : decide ((c.toNat : Int) ≤ 70) = true := decide_eq_true (by omega)
        simp only [WW, partV, eqCells, eqLf, minV, maxV, ifcV, List.map_cons, List.map_nil, List.length_cons, List.length_nil, List.getD_cons_zero, List.getD_cons_succ, List.set_cons_zero, List.set_cons_succ, List.set_nil, ofConst, ofConst1, List.replicate, List.cons_append, List.nil_append, loadOp, Go.Abs.loadCells, binV, Int.toNat_natCast, pickV, List.getElem?_cons_zero, List.getElem?_cons_succ, Option.map_some, Option.bind_some, List.drop_zero, List.drop_succ_cons, List.take_succ_cons, List.take_zero, List.length_map, outR, resAll, resOne, if_true, if_false, and_true, true_and, Bool.true_eq_false, Bool.false_eq_true, forall_const, true_implies, false_implies, implies_true, decide_true, decide_false, beq_self_eq_true, Option.getD_some, Nat.zero_add, Nat.add_zero, storeOp, storeCell, overlay, List.take_nil, List.drop_nil, List.append_nil, lookupOp, keyT, okRes, mapUpdateOp, Bool.and_self, Bool.and_true, Bool.true_and, Bool.not_true, Bool.not_false, gt_iff_lt, ge_iff_le, Nat.reduceSub, Nat.reduceAdd, Int.reduceLT, Int.reduceLE, Int.reduceAdd, Int.reduceSub, Int.reduceToNat, Int.reduceBEq, Int.reduceBNe, Int.reduceMul, Nat.reduceBEq, Nat.reduceBNe, Nat.reduceLT, Nat.reduceLeDiff, Nat.reduceMul, Nat.reduceEqDiff, WD, effB, effH, isPriv, isHeap, isImm, Option.any_some, Option.any_none, Option.isSome_none, chkO, setD, dslot, Bool.toNat_true, Bool.toNat_false, Nat.add_zero, Nat.zero_add, List.append_eq, and_self, ptrCells_some, F40, hd, hw, hw2, hw3, g1, g2, g3, convertOp]
        rw [e]
        first | exact ⟨rfl, rfl⟩ | exact rfl
      · have e : hexI c = -1 := by unfold hexI hexN; rw [if_neg h1, if_neg h2, if_neg h3]
        rw [e]
        by_cases k1 : 97 ≤ c.toNat
        · have g1 : decide ((97 : Int) ≤ (c.toNat : Int)) = true := decide_eq_true (by omega)
          have g2 : decide ((c.toNat : Int) ≤ 102) = false := decide_eq_false (by omega)
          have g3 : decide ((65 : Int) ≤ (c.toNat : Int)) = true := decide_eq_true (by omega)
          have g4 : decide ((c.toNat : Int) ≤ 70) = false := decide_eq_false (by omega)
          simp only [WW, partV, eqCells, eqLf, minV, maxV, ifcV, List.map_cons, List.map_nil, List.length_cons, List.length_nil, List.getD_cons_zero, List.getD_cons_succ, List.set_cons_zero, List.set_cons_succ, List.set_nil, ofConst, ofConst1, List.replicate, List.cons_append, List.nil_append, loadOp, Go.Abs.loadCells, binV, Int.toNat_natCast, pickV, List.getElem?_cons_zero, List.getElem?_cons_succ, Option.map_some, Option.bind_some, List.drop_zero, List.drop_succ_cons, List.take_succ_cons, List.take_zero, List.length_map, outR, resAll, resOne, if_true, if_false, and_true, true_and, Bool.true_eq_false, Bool.false_eq_true, forall_const, true_implies, false_implies, implies_true, decide_true, decide_false, beq_self_eq_true, Option.getD_some, Nat.zero_add, Nat.add_zero, storeOp, storeCell, overlay, List.take_nil, List.drop_nil, List.append_nil, lookupOp, keyT, okRes, mapUpdateOp, Bool.and_self, Bool.and_true, Bool.true_and, Bool.not_true, Bool.not_false, gt_iff_lt, ge_iff_le, Nat.reduceSub, Nat.reduceAdd, Int.reduceLT, Int.reduceLE, Int.reduceAdd, Int.reduceSub, Int.reduceToNat, Int.reduceBEq, Int.reduceBNe, Int.reduceMul, Nat.reduceBEq, Nat.reduceBNe, Nat.reduceLT, Nat.reduceLeDiff, Nat.reduceMul, Nat.reduceEqDiff, WD, effB, effH, isPriv, isHeap, isImm, Option.any_some, Option.any_none, Option.isSome_none, chkO, setD, dslot, Bool.toNat_true, Bool.toNat_false, Nat.add_zero, Nat.zero_add, List.append_eq, and_self, ptrCells_some, F40, hd, g1, g2, g3, g4]
          first | exact ⟨rfl, rfl⟩ | exact rfl
        · have g1 : decide ((97 : Int) ≤ (c.toNat : Int)) = false := decide_eq_false (by omega)
          by_cases k2 : 65 ≤ c.toNat
          · have g3 : decide ((65 : Int) ≤ (c.toNat : Int)) = true := decide_eq_true (by omega)
            have g4 : decide ((c.toNat : Int) ≤ 70) = false := decide_eq_false (by omega)
            simp only [WW, partV, eqCells, eqLf, minV, maxV, ifcV, List.map_cons, List.map_nil, List.length_cons, List.length_nil, List.getD_cons_zero, List.getD_cons_succ, List.set_cons_zero, List.set_cons_succ, List.set_nil, ofConst, ofConst1, List.replicate, List.cons_append, List.nil_append, loadOp, Go.Abs.loadCells, binV, Int.toNat_natCast, pickV, List.getElem?_cons_zero, List.getElem?_cons_succ, Option.map_some, Option.bind_some, List.drop_zero, List.drop_succ_cons, List.take_succ_cons, List.take_zero, List.length_map, outR, resAll, resOne, if_true, if_false, and_true, true_and, Bool.true_eq_false, Bool.false_eq_true, forall_const, true_implies, false_implies, implies_true, decide_true, decide_false, beq_self_eq_true, Option.getD_some, Nat.zero_add, Nat.add_zero, storeOp, storeCell, overlay, List.take_nil, List.drop_nil, List.append_nil, lookupOp, keyT, okRes, mapUpdateOp, Bool.and_self, Bool.and_true, Bool.true_and, Bool.not_true, Bool.not_false, gt_iff_lt, ge_iff_le, Nat.reduceSub, Nat.reduceAdd, Int.reduceLT, Int.reduceLE, Int.reduceAdd, Int.reduceSub, Int.reduceToNat, Int.reduceBEq, Int.reduceBNe, Int.reduceMul, Nat.reduceBEq, Nat.reduceBNe, Nat.reduceLT, Nat.reduceLeDiff, Nat.reduceMul, Nat.reduceEqDiff, WD, effB, effH, isPriv, isHeap, isImm, Option.any_some, Option.any_none, Option.isSome_none, chkO, setD, dslot, Bool.toNat_true, Bool.toNat_false, Nat.add_zero, Nat.zero_add, List.append_eq, and_self, ptrCells_some, F40, hd, g1, g3, g4]
            first | exact ⟨rfl, rfl⟩ | exact rfl
          · have g3 : decide ((65 : Int) ≤ (c.toNat : Int)) = false := decide_eq_false (by omega)
            simp only [WW, partV, eqCells, eqLf, minV, maxV, ifcV, List.map_cons, List.map_nil, List.length_cons, List.length_nil, List.getD_cons_zero, List.getD_cons_succ, List.set_cons_zero, List.set_cons_succ, List.set_nil, ofConst, ofConst1, List.replicate, List.cons_append, List.nil_append, loadOp, Go.Abs.loadCells, binV, Int.toNat_natCast, pickV, List.getElem?_cons_zero, List.getElem?_cons_succ, Option.map_some, Option.bind_some, List.drop_zero, List.drop_succ_cons, List.take_succ_cons, List.take_zero, List.length_map, outR, resAll, resOne, if_true, if_false, and_true, true_and, Bool.true_eq_false, Bool.false_eq_true, forall_const, true_implies, false_implies, implies_true, decide_true, decide_false, beq_self_eq_true, Option.getD_some, Nat.zero_add, Nat.add_zero, storeOp, storeCell, overlay, List.take_nil, List.drop_nil, List.append_nil, lookupOp, keyT, okRes, mapUpdateOp, Bool.and_self, Bool.and_true, Bool.true_and, Bool.not_true, Bool.not_false, gt_iff_lt, ge_iff_le, Nat.reduceSub, Nat.reduceAdd, Int.reduceLT, Int.reduceLE, Int.reduceAdd, Int.reduceSub, Int.reduceToNat, Int.reduceBEq, Int.reduceBNe, Int.reduceMul, Nat.reduceBEq, Nat.reduceBNe, Nat.reduceLT, Nat.reduceLeDiff, Nat.reduceMul, Nat.reduceEqDiff, WD, effB, effH, isPriv, isHeap, isImm, Option.any_some, Option.any_none, Option.isSome_none, chkO, setD, dslot, Bool.toNat_true, Bool.toNat_false, Nat.add_zero, Nat.zero_add, List.append_eq, and_self, ptrCells_some, F40, hd, g1, g3]
            first | exact ⟨rfl, rfl⟩ | exact rfl
/-- Does one text begin with another? -/
def preB (s q : List UInt8) : Bool := decide (q.length ≤ s.length) && s.take q.length == q
theorem ba_size (l : List UInt8) : (⟨l.toArray⟩ : ByteArray).size = l.length := rfl
theorem ba_list (l : List UInt8) : (⟨l.toArray⟩ : ByteArray).toList = l := by rw [ByteArray.toList_eq]
theorem prefix0_eq (s q : List UInt8) (H : Hp) : EW 41 [.str ⟨s.toArray⟩, .str ⟨q.toArray⟩] H = some (.ret (.bool (preB s q)) false, H) := by
  refine eqOf (runsP f41 b41 r41 n41 _ rfl _ ?_)
  simp only [bodyOf, Tryd.f41, Option.getD_some]
  simp only [WW, partV, eqCells, eqLf, minV, maxV, ifcV, List.map_cons, List.map_nil, List.length_cons, List.length_nil, List.getD_cons_zero, List.getD_cons_succ, List.set_cons_zero, List.set_cons_succ, List.set_nil, ofConst, ofConst1, List.replicate, List.cons_append, List.nil_append, loadOp, Go.Abs.loadCells, binV, Int.toNat_natCast, pickV, List.getElem?_cons_zero, List.getElem?_cons_succ, Option.map_some, Option.bind_some, List.drop_zero, List.drop_succ_cons, List.take_succ_cons, List.take_zero, List.length_map, outR, resAll, resOne, if_true, if_false, and_true, true_and, Bool.true_eq_false, Bool.false_eq_true, forall_const, true_implies, false_implies, implies_true, decide_true, decide_false, beq_self_eq_true, Option.getD_some, Nat.zero_add, Nat.add_zero, storeOp, storeCell, overlay, List.take_nil, List.drop_nil, List.append_nil, lookupOp, keyT, okRes, mapUpdateOp, Bool.and_self, Bool.and_true, Bool.true_and, Bool.not_true, Bool.not_false, gt_iff_lt, ge_iff_le, Nat.reduceSub, Nat.reduceAdd, Int.reduceLT, Int.reduceLE, Int.reduceAdd, Int.reduceSub, Int.reduceToNat, Int.reduceBEq, Int.reduceBNe, Int.reduceMul, Nat.reduceBEq, Nat.reduceBNe, Nat.reduceLT, Nat.reduceLeDiff, Nat.reduceMul, Nat.reduceEqDiff, WD, effB, effH, isPriv, isHeap, isImm, Option.any_some, Option.any_none, Option.isSome_none, chkO, setD, dslot, Bool.toNat_true, Bool.toNat_false, Nat.add_zero, Nat.zero_add, List.append_eq, and_self, ptrCells_some, F41, ba_size]
  by_cases h : q.length ≤ s.length
  · have hd : decide ((q.length : Int) ≤ (s.length : Int)) = true := decide_eq_true (by omega)
    have hsl : ∀ st H, sliceOp Tryd.prog st H 9 (.str ⟨s.toArray⟩) none (some (.int .i64 (q.length : Int))) none = some (.str ⟨(s.take q.length).toArray⟩)   := fun st H => by
      have h9 : ixT Tryd.prog 9 = .str := by kernel_rfl
      simp [sliceOp, h9, viewV, sealV, boundV, ba_size, h]
      apply ByteArray.ext
      simp
    simp only [WW, partV, eqCells, eqLf, minV, maxV, ifcV, List.map_cons, List.map_nil, List.length_cons, List.length_nil, List.getD_cons_zero, List.getD_cons_succ, List.set_cons_zero, List.set_cons_succ, List.set_nil, ofConst, ofConst1, List.replicate, List.cons_append, List.nil_append, loadOp, Go.Abs.loadCells, binV, Int.toNat_natCast, pickV, List.getElem?_cons_zero, List.getElem?_cons_succ, Option.map_some, Option.bind_some, List.drop_zero, List.drop_succ_cons, List.take_succ_cons, List.take_zero, List.length_map, outR, resAll, resOne, if_true, if_false, and_true, true_and, Bool.true_eq_false, Bool.false_eq_true, forall_const, true_implies, false_implies, implies_true, decide_true, decide_false, beq_self_eq_true, Option.getD_some, Nat.zero_add, Nat.add_zero, storeOp, storeCell, overlay, List.take_nil, List.drop_nil, List.append_nil, lookupOp, keyT, okRes, mapUpdateOp, Bool.and_self, Bool.and_true, Bool.true_and, Bool.not_true, Bool.not_false, gt_iff_lt, ge_iff_le, Nat.reduceSub, Nat.reduceAdd, Int.reduceLT, Int.reduceLE, Int.reduceAdd, Int.reduceSub, Int.reduceToNat, Int.reduceBEq, Int.reduceBNe, Int.reduceMul, Nat.reduceBEq, Nat.reduceBNe, Nat.reduceLT, Nat.reduceLeDiff, Nat.reduceMul, Nat.reduceEqDiff, WD, effB, effH, isPriv, isHeap, isImm, Option.any_some, Option.any_none, Option.isSome_none, chkO, setD, dslot, Bool.toNat_true, Bool.toNat_false, Nat.add_zero, Nat.zero_add, List.append_eq, and_self, ptrCells_some, F41, hd, hsl, ba_list, ba_size, Option.map_some, Option.map_none]
    simp [preB, h, noHeapO, noHeap, noHeapL, Bool.and_true, Bool.true_and, Bool.false_and, Bool.and_false, Bool.true_or, Bool.or_true, Bool.false_or, Bool.or_false, Bool.not_true, Bool.not_false, Bool.and_self, Bool.or_self, and_self, true_and, and_true, if_true, if_false, Bool.false_eq_true, Bool.true_eq_false]
  · have hd : decide ((q.length : Int) ≤ (s.length : Int)) = false := decide_eq_false (by omega)
    simp only [WW, partV, eqCells, eqLf, minV, maxV, ifcV, List.map_cons, List.map_nil, List.length_cons, List.length_nil, List.getD_cons_zero, List.getD_cons_succ, List.set_cons_zero, List.set_cons_succ, List.set_nil, ofConst, ofConst1, List.replicate, List.cons_append, List.nil_append, loadOp, Go.Abs.loadCells, binV, Int.toNat_natCast, pickV, List.getElem?_cons_zero, List.getElem?_cons_succ, Option.map_some, Option.bind_some, List.drop_zero, List.drop_succ_cons, List.take_succ_cons, List.take_zero, List.length_map, outR, resAll, resOne, if_true, if_false, and_true, true_and, Bool.true_eq_false, Bool.false_eq_true, forall_const, true_implies, false_implies, implies_true, decide_true, decide_false, beq_self_eq_true, Option.getD_some, Nat.zero_add, Nat.add_zero, storeOp, storeCell, overlay, List.take_nil, List.drop_nil, List.append_nil, lookupOp, keyT, okRes, mapUpdateOp, Bool.and_self, Bool.and_true, Bool.true_and, Bool.not_true, Bool.not_false, gt_iff_lt, ge_iff_le, Nat.reduceSub, Nat.reduceAdd, Int.reduceLT, Int.reduceLE, Int.reduceAdd, Int.reduceSub, Int.reduceToNat, Int.reduceBEq, Int.reduceBNe, Int.reduceMul, Nat.reduceBEq, Nat.reduceBNe, Nat.reduceLT, Nat.reduceLeDiff, Nat.reduceMul, Nat.reduceEqDiff, WD, effB, effH, isPriv, isHeap, isImm, Option.any_some, Option.any_none, Option.isSome_none, chkO, setD, dslot, Bool.toNat_true, Bool.toNat_false, Nat.add_zero, Nat.zero_add, List.append_eq, and_self, ptrCells_some, F41, hd]
    simp [preB, h, noHeapO, noHeap, noHeapL, Bool.and_true, Bool.true_and, Bool.false_and, Bool.and_false, Bool.true_or, Bool.or_true, Bool.false_or, Bool.or_false, Bool.not_true, Bool.not_false, Bool.and_self, Bool.or_self, and_self, true_and, and_true, if_true, if_false, Bool.false_eq_true, Bool.true_eq_false]
theorem prefix_eq (s q : List UInt8) (H : Hp) : EW 39 [.str ⟨s.toArray⟩, .str ⟨q.toArray⟩] H = some (.ret (.bool (preB s q)) false, H) := by
  refine eqOf (runsP f39 b39 r39 n39 _ rfl _ ?_)
  simp only [bodyOf, Tryd.f39, Option.getD_some]
  simp only [WW, partV, eqCells, eqLf, minV, maxV, ifcV, List.map_cons, List.map_nil, List.length_cons, List.length_nil, List.getD_cons_zero, List.getD_cons_succ, List.set_cons_zero, List.set_cons_succ, List.set_nil, ofConst, ofConst1, List.replicate, List.cons_append, List.nil_append, loadOp, Go.Abs.loadCells, binV, Int.toNat_natCast, pickV, List.getElem?_cons_zero, List.getElem?_cons_succ, Option.map_some, Option.bind_some, List.drop_zero, List.drop_succ_cons, List.take_succ_cons, List.take_zero, List.length_map, outR, resAll, resOne, if_true, if_false, and_true, true_and, Bool.true_eq_false, Bool.false_eq_true, forall_const, true_implies, false_implies, implies_true, decide_true, decide_false, beq_self_eq_true, Option.getD_some, Nat.zero_add, Nat.add_zero, storeOp, storeCell, overlay, List.take_nil, List.drop_nil, List.append_nil, lookupOp, keyT, okRes, mapUpdateOp, Bool.and_self, Bool.and_true, Bool.true_and, Bool.not_true, Bool.not_false, gt_iff_lt, ge_iff_le, Nat.reduceSub, Nat.reduceAdd, Int.reduceLT, Int.reduceLE, Int.reduceAdd, Int.reduceSub, Int.reduceToNat, Int.reduceBEq, Int.reduceBNe, Int.reduceMul, Nat.reduceBEq, Nat.reduceBNe, Nat.reduceLT, Nat.reduceLeDiff, Nat.reduceMul, Nat.reduceEqDiff, WD, effB, effH, isPriv, isHeap, isImm, Option.any_some, Option.any_none, Option.isSome_none, chkO, setD, dslot, Bool.toNat_true, Bool.toNat_false, Nat.add_zero, Nat.zero_add, List.append_eq, and_self, ptrCells_some, F39]
  rw [wpCall_eq (prefix0_eq _ _ _)]
  simp only [WW, partV, eqCells, eqLf, minV, maxV, ifcV, List.map_cons, List.map_nil, List.length_cons, List.length_nil, List.getD_cons_zero, List.getD_cons_succ, List.set_cons_zero, List.set_cons_succ, List.set_nil, ofConst, ofConst1, List.replicate, List.cons_append, List.nil_append, loadOp, Go.Abs.loadCells, binV, Int.toNat_natCast, pickV, List.getElem?_cons_zero, List.getElem?_cons_succ, Option.map_some, Option.bind_some, List.drop_zero, List.drop_succ_cons, List.take_succ_cons, List.take_zero, List.length_map, outR, resAll, resOne, if_true, if_false, and_true, true_and, Bool.true_eq_false, Bool.false_eq_true, forall_const, true_implies, false_implies, implies_true, decide_true, decide_false, beq_self_eq_true, Option.getD_some, Nat.zero_add, Nat.add_zero, storeOp, storeCell, overlay, List.take_nil, List.drop_nil, List.append_nil, lookupOp, keyT, okRes, mapUpdateOp, Bool.and_self, Bool.and_true, Bool.true_and, Bool.not_true, Bool.not_false, gt_iff_lt, ge_iff_le, Nat.reduceSub, Nat.reduceAdd, Int.reduceLT, Int.reduceLE, Int.reduceAdd, Int.reduceSub, Int.reduceToNat, Int.reduceBEq, Int.reduceBNe, Int.reduceMul, Nat.reduceBEq, Nat.reduceBNe, Nat.reduceLT, Nat.reduceLeDiff, Nat.reduceMul, Nat.reduceEqDiff, WD, effB, effH, isPriv, isHeap, isImm, Option.any_some, Option.any_none, Option.isSome_none, chkO, setD, dslot, Bool.toNat_true, Bool.toNat_false, Nat.add_zero, Nat.zero_add, List.append_eq, and_self, ptrCells_some, F39]
  first | exact ⟨rfl, rfl⟩ | exact rfl
end Go.Proofs.YtcmndnkeoepmoaaDoor

namespace Go.Proofs.YtcmndnkeoepmoaaDoor
open Go Go.Abs Go.Proofs
set_option maxRecDepth 100000
set_option maxHeartbeats 1000000
set_option linter.unusedVariables false
set_option linter.unusedSimpArgs false
/-- What is answered of a token that begins here -/
def nxR (H : Hp) (w : Nat) (x : V) (p : Nat) (nx : Nx) (out : Out) (H' : Hp) : Prop := match nx with
  | .tok k t n len => out = .ret (.tup [tokV ⟨k, t, n, p⟩, .int .i64 0]) false ∧ H' = H.set w (ctr x ((p + len : Nat) : Int))
  | .bad e off => (∃ t : Tk, out = .ret (.tup [tokV t, .int .i64 e]) false) ∧ H' = H.set w (ctr x ((p + off : Nat) : Int))
/-! ### signs -/
def signsL : List (List UInt8) := [[61, 61], [33, 61], [60, 61], [62, 61], [43], [45], [42], [47], [37], [60], [62], [61], [40], [41], [91], [93], [123], [125], [44], [59], [58], [46]]
def strV (q : List UInt8) : V := .str ⟨q.toArray⟩
theorem pre2 (c a b : UInt8) (r : List UInt8) : preB ((c :: r).take 2) [a, b] = (c == a && r.head? == some b) := by
  cases r with
  | nil => simp [preB]
  | cons d r => simp [preB]
theorem pre1 (c a : UInt8) (r : List UInt8) : preB ((c :: r).take 2) [a] = (c == a) := by
  cases r <;> simp [preB]
theorem sign_find (c : UInt8) (r : List UInt8) : signsL.find? (preB ((c :: r).take 2)) = if r.head? = some 61 ∧ (c = 61 ∨ c = 33 ∨ c = 60 ∨ c = 62) then some [c, 61] else if c ∈ sign1 then some [c] else none := by
  simp only [signsL, List.find?_cons, pre2, pre1, List.find?_nil]
  by_cases h : r.head? = some 61
  · have h' : (r.head? == some 61) = true := by simp [h]
    simp only [h', Bool.and_true, h, true_and]
    by_cases hm : c ∈ sign1 ∨ c = 33
    · simp only [sign1, List.mem_cons, List.not_mem_nil, or_false] at hm
      rcases hm with (rfl | rfl | rfl | rfl | rfl | rfl | rfl | rfl | rfl | rfl | rfl | rfl | rfl | rfl | rfl | rfl | rfl | rfl) | rfl <;> decide
    · have h1 : c ∉ sign1 := fun e => hm (.inl e)
      have h2 : c ≠ 33 := fun e => hm (.inr e)
      rw [if_neg h1]
      have hb : ∀ k ∈ sign1, (c == k) = false := fun k hk => by rw [beq_eq_false_iff_ne]; rintro rfl; exact h1 hk
      have h33 : (c == 33) = false := by simpa using h2
      have hn : ¬ (c = 61 ∨ c = 33 ∨ c = 60 ∨ c = 62) := by rintro (rfl | rfl | rfl | rfl) <;> first | exact h2 rfl | exact h1 (by decide)
      simp only [h33, hb 43 (by decide), hb 45 (by decide), hb 42 (by decide), hb 47 (by decide), hb 37 (by decide), hb 60 (by decide), hb 62 (by decide), hb 61 (by decide), hb 40 (by decide), hb 41 (by decide), hb 91 (by decide), hb 93 (by decide), hb 123 (by decide), hb 125 (by decide), hb 44 (by decide), hb 59 (by decide), hb 58 (by decide), hb 46 (by decide), hn, if_false, Bool.false_and]
  · have h' : (r.head? == some 61) = false := by simp [h]
    simp only [h', Bool.and_false, h, false_and, if_false]
    by_cases hm : c ∈ sign1
    · rw [if_pos hm]
      simp only [sign1, List.mem_cons, List.not_mem_nil, or_false] at hm
      rcases hm with rfl | rfl | rfl | rfl | rfl | rfl | rfl | rfl | rfl | rfl | rfl | rfl | rfl | rfl | rfl | rfl | rfl | rfl <;> decide
    · rw [if_neg hm]
      have hb : ∀ k ∈ sign1, (c == k) = false := fun k hk => by rw [beq_eq_false_iff_ne]; rintro rfl; exact hm hk
      simp only [hb 43 (by decide), hb 45 (by decide), hb 42 (by decide), hb 47 (by decide), hb 37 (by decide), hb 60 (by decide), hb 62 (by decide), hb 61 (by decide), hb 40 (by decide), hb 41 (by decide), hb 91 (by decide), hb 93 (by decide), hb 123 (by decide), hb 125 (by decide), hb 44 (by decide), hb 59 (by decide), hb 58 (by decide), hb 46 (by decide)]
theorem sign_spec {H : Hp} {w : Nat} {x : V} {L : List UInt8} {p : Nat} {c : UInt8} {r : List UInt8} (hB : By H w x L) (hC : Ct H w x p) (hcr : L.drop p = c :: r) (hL : L.length ≤ 65536) :
    wpCall EW 34 [.ptr w 0 0] H (nxR H w x p (signS c r)) := by
  have hp : p < L.length := by
    have := congrArg List.length hcr
    simp at this; omega
  have hb0 : H[w]? = some (.cells [.agg [x, .int .i64 (p : Int)]]) := hC
  have hx := hB.rd
  have hp2 : IntKind.i64.wrap ((p : Int) + 2) = ((p + 2 : Nat) : Int) := by rw [IntWalk.i64_in _ (by omega)]; omega
  obtain ⟨q, hq⟩ : ∃ q : Nat, q = min (p + 2) L.length := ⟨_, rfl⟩
  have hmn : (if (L.length : Int) < ((p + 2 : Nat) : Int) then (L.length : Int) else ((p + 2 : Nat) : Int)) = (q : Int) := by split <;> omega
  obtain ⟨y, hcut, hy⟩ := hB.cut (p := p) (q := q) (by omega) (by omega)
  have hrest : (L.take q).drop p = (c :: r).take 2 := by
    rw [← hcr, hq, List.take_drop]
    congr 1
    by_cases h : p + 2 ≤ L.length
    · rw [Nat.min_eq_left h]
    · rw [Nat.min_eq_right (by omega), List.take_length, List.take_of_length_le (by omega)]
  rw [hrest] at hy
  have hfe := sign_find c r
  have hc0 : ((c :: r).take 2)[0]? = some c := by simp
  generalize (c :: r).take 2 = rest at hy hfe hc0
  have hself := hC.self
  refine runs f34 b34 r34 n34 _ _ ?_
  simp only [bodyOf, Tryd.f34, Option.getD_some]
  simp only [WW, partV, eqCells, eqLf, minV, maxV, ifcV, List.map_cons, List.map_nil, List.length_cons, List.length_nil, List.getD_cons_zero, List.getD_cons_succ, List.set_cons_zero, List.set_cons_succ, List.set_nil, ofConst, ofConst1, List.replicate, List.cons_append, List.nil_append, loadOp, Go.Abs.loadCells, binV, Int.toNat_natCast, pickV, List.getElem?_cons_zero, List.getElem?_cons_succ, Option.map_some, Option.bind_some, List.drop_zero, List.drop_succ_cons, List.take_succ_cons, List.take_zero, List.length_map, outR, resAll, resOne, if_true, if_false, and_true, true_and, Bool.true_eq_false, Bool.false_eq_true, forall_const, true_implies, false_implies, implies_true, decide_true, decide_false, beq_self_eq_true, Option.getD_some, Nat.zero_add, Nat.add_zero, storeOp, storeCell, overlay, List.take_nil, List.drop_nil, List.append_nil, lookupOp, keyT, okRes, mapUpdateOp, Bool.and_self, Bool.and_true, Bool.true_and, Bool.not_true, Bool.not_false, gt_iff_lt, ge_iff_le, Nat.reduceSub, Nat.reduceAdd, Int.reduceLT, Int.reduceLE, Int.reduceAdd, Int.reduceSub, Int.reduceToNat, Int.reduceBEq, Int.reduceBNe, Int.reduceMul, Nat.reduceBEq, Nat.reduceBNe, Nat.reduceLT, Nat.reduceLeDiff, Nat.reduceMul, Nat.reduceEqDiff, WD, effB, effH, isPriv, isHeap, isImm, Option.any_some, Option.any_none, Option.isSome_none, chkO, setD, dslot, Bool.toNat_true, Bool.toNat_false, Nat.add_zero, Nat.zero_add, List.append_eq, and_self, ptrCells_some, F34, hb0, buildOp, fillV, Lay.place, Bool.or_self, Bool.or_false, Bool.false_or, decide_not, ne_eq, not_true_eq_false, Bool.not_true, Bool.not_false, decide_eq_true_eq, Nat.lt_irrefl, gt_iff_lt, storeCell, overlay]
  refine wC_dr alts34_2 (by kernel_rfl) ?_
  simp only [WW, partV, eqCells, eqLf, minV, maxV, ifcV, List.map_cons, List.map_nil, List.length_cons, List.length_nil, List.getD_cons_zero, List.getD_cons_succ, List.set_cons_zero, List.set_cons_succ, List.set_nil, ofConst, ofConst1, List.replicate, List.cons_append, List.nil_append, loadOp, Go.Abs.loadCells, binV, Int.toNat_natCast, pickV, List.getElem?_cons_zero, List.getElem?_cons_succ, Option.map_some, Option.bind_some, List.drop_zero, List.drop_succ_cons, List.take_succ_cons, List.take_zero, List.length_map, outR, resAll, resOne, if_true, if_false, and_true, true_and, Bool.true_eq_false, Bool.false_eq_true, forall_const, true_implies, false_implies, implies_true, decide_true, decide_false, beq_self_eq_true, Option.getD_some, Nat.zero_add, Nat.add_zero, storeOp, storeCell, overlay, List.take_nil, List.drop_nil, List.append_nil, lookupOp, keyT, okRes, mapUpdateOp, Bool.and_self, Bool.and_true, Bool.true_and, Bool.not_true, Bool.not_false, gt_iff_lt, ge_iff_le, Nat.reduceSub, Nat.reduceAdd, Int.reduceLT, Int.reduceLE, Int.reduceAdd, Int.reduceSub, Int.reduceToNat, Int.reduceBEq, Int.reduceBNe, Int.reduceMul, Nat.reduceBEq, Nat.reduceBNe, Nat.reduceLT, Nat.reduceLeDiff, Nat.reduceMul, Nat.reduceEqDiff, WD, effB, effH, isPriv, isHeap, isImm, Option.any_some, Option.any_none, Option.isSome_none, chkO, setD, dslot, Bool.toNat_true, Bool.toNat_false, Nat.add_zero, Nat.zero_add, List.append_eq, and_self, ptrCells_some, F34, hb0, hx.shutIn, hx.len, by8_len, hp2, hmn, hcut, hy.shutIn, str_rd hy, alts34_2, Option.map_some, Option.map_none]
  refine wC_loop _ (fun k st' H' => ∃ i : Nat, st' = ⟨L34_4 (.v (.ptr w 0 0)) (.box 0) (.box 1) (.v (strV rest)) (.v (.agg (signsL.map strV))) (.v (.int .i64 (i : Int))), [[.int .i64 0, .str ByteArray.empty, .int .i64 0, .int .i64 0], [.int .i64 5, .str ByteArray.empty, .int .i64 0, .int .i64 (p : Int)]], []⟩ ∧ H' = H ∧ i ≤ 22 ∧ k = 22 - i ∧ ∀ (j : Nat) q', j < i → signsL[j]? = some q' → preB rest q' = false) 22 ⟨0, ?_, rfl, by omega, by omega, fun j q' hj => by omega⟩ ?_
  · simp only [WN, firstReg, growAll, List.foldl_nil, List.foldl_cons, norm, killS, List.set_cons_zero, List.set_cons_succ, List.map_cons, List.map_nil, List.take_nil, List.take_zero, List.length_nil, growOne, List.getD_cons_zero, List.getD_cons_succ, List.length_cons, List.take_succ_cons, List.nil_append, Nat.reduceLT, Nat.reduceAdd, Nat.zero_add, if_true, F34, L34_4]
    rfl
  · rintro k st' H' ⟨i, rfl, rfl, hi, rfl, hno⟩
    simp only [L34_4]
    simp only [WW, partV, eqCells, eqLf, minV, maxV, ifcV, List.map_cons, List.map_nil, List.length_cons, List.length_nil, List.getD_cons_zero, List.getD_cons_succ, List.set_cons_zero, List.set_cons_succ, List.set_nil, ofConst, ofConst1, List.replicate, List.cons_append, List.nil_append, loadOp, Go.Abs.loadCells, binV, Int.toNat_natCast, pickV, List.getElem?_cons_zero, List.getElem?_cons_succ, Option.map_some, Option.bind_some, List.drop_zero, List.drop_succ_cons, List.take_succ_cons, List.take_zero, List.length_map, outR, resAll, resOne, if_true, if_false, and_true, true_and, Bool.true_eq_false, Bool.false_eq_true, forall_const, true_implies, false_implies, implies_true, decide_true, decide_false, beq_self_eq_true, Option.getD_some, Nat.zero_add, Nat.add_zero, storeOp, storeCell, overlay, List.take_nil, List.drop_nil, List.append_nil, lookupOp, keyT, okRes, mapUpdateOp, Bool.and_self, Bool.and_true, Bool.true_and, Bool.not_true, Bool.not_false, gt_iff_lt, ge_iff_le, Nat.reduceSub, Nat.reduceAdd, Int.reduceLT, Int.reduceLE, Int.reduceAdd, Int.reduceSub, Int.reduceToNat, Int.reduceBEq, Int.reduceBNe, Int.reduceMul, Nat.reduceBEq, Nat.reduceBNe, Nat.reduceLT, Nat.reduceLeDiff, Nat.reduceMul, Nat.reduceEqDiff, WD, effB, effH, isPriv, isHeap, isImm, Option.any_some, Option.any_none, Option.isSome_none, chkO, setD, dslot, Bool.toNat_true, Bool.toNat_false, Nat.add_zero, Nat.zero_add, List.append_eq, and_self, ptrCells_some, F34]
    refine cSplit (fun hlt => ?_) (fun hge => ?_)
    · have hi2 : i < 22 := by have := of_decide_eq_true hlt; omega
      have hlen : signsL.length = 22 := rfl
      have hs : signsL[i]? = some (signsL[i]'(by omega)) := List.getElem?_eq_getElem _
      generalize signsL[i]'_ = s at hs
      have hi0 : ((i : Int) < ((22 : Nat) : Int)) := by omega
      simp only [hlt]
      simp only [WW, partV, eqCells, eqLf, minV, maxV, ifcV, List.map_cons, List.map_nil, List.length_cons, List.length_nil, List.getD_cons_zero, List.getD_cons_succ, List.set_cons_zero, List.set_cons_succ, List.set_nil, ofConst, ofConst1, List.replicate, List.cons_append, List.nil_append, loadOp, Go.Abs.loadCells, binV, Int.toNat_natCast, pickV, List.getElem?_cons_zero, List.getElem?_cons_succ, Option.map_some, Option.bind_some, List.drop_zero, List.drop_succ_cons, List.take_succ_cons, List.take_zero, List.length_map, outR, resAll, resOne, if_true, if_false, and_true, true_and, Bool.true_eq_false, Bool.false_eq_true, forall_const, true_implies, false_implies, implies_true, decide_true, decide_false, beq_self_eq_true, Option.getD_some, Nat.zero_add, Nat.add_zero, storeOp, storeCell, overlay, List.take_nil, List.drop_nil, List.append_nil, lookupOp, keyT, okRes, mapUpdateOp, Bool.and_self, Bool.and_true, Bool.true_and, Bool.not_true, Bool.not_false, gt_iff_lt, ge_iff_le, Nat.reduceSub, Nat.reduceAdd, Int.reduceLT, Int.reduceLE, Int.reduceAdd, Int.reduceSub, Int.reduceToNat, Int.reduceBEq, Int.reduceBNe, Int.reduceMul, Nat.reduceBEq, Nat.reduceBNe, Nat.reduceLT, Nat.reduceLeDiff, Nat.reduceMul, Nat.reduceEqDiff, WD, effB, effH, isPriv, isHeap, isImm, Option.any_some, Option.any_none, Option.isSome_none, chkO, setD, dslot, Bool.toNat_true, Bool.toNat_false, Nat.add_zero, Nat.zero_add, List.append_eq, and_self, ptrCells_some, F34, hi0, Nat.mul_one, List.getElem?_map, hs, strV]
      rw [wpCall_eq (prefix_eq _ _ _)]
      simp only [WW, partV, eqCells, eqLf, minV, maxV, ifcV, List.map_cons, List.map_nil, List.length_cons, List.length_nil, List.getD_cons_zero, List.getD_cons_succ, List.set_cons_zero, List.set_cons_succ, List.set_nil, ofConst, ofConst1, List.replicate, List.cons_append, List.nil_append, loadOp, Go.Abs.loadCells, binV, Int.toNat_natCast, pickV, List.getElem?_cons_zero, List.getElem?_cons_succ, Option.map_some, Option.bind_some, List.drop_zero, List.drop_succ_cons, List.take_succ_cons, List.take_zero, List.length_map, outR, resAll, resOne, if_true, if_false, and_true, true_and, Bool.true_eq_false, Bool.false_eq_true, forall_const, true_implies, false_implies, implies_true, decide_true, decide_false, beq_self_eq_true, Option.getD_some, Nat.zero_add, Nat.add_zero, storeOp, storeCell, overlay, List.take_nil, List.drop_nil, List.append_nil, lookupOp, keyT, okRes, mapUpdateOp, Bool.and_self, Bool.and_true, Bool.true_and, Bool.not_true, Bool.not_false, gt_iff_lt, ge_iff_le, Nat.reduceSub, Nat.reduceAdd, Int.reduceLT, Int.reduceLE, Int.reduceAdd, Int.reduceSub, Int.reduceToNat, Int.reduceBEq, Int.reduceBNe, Int.reduceMul, Nat.reduceBEq, Nat.reduceBNe, Nat.reduceLT, Nat.reduceLeDiff, Nat.reduceMul, Nat.reduceEqDiff, WD, effB, effH, isPriv, isHeap, isImm, Option.any_some, Option.any_none, Option.isSome_none, chkO, setD, dslot, Bool.toNat_true, Bool.toNat_false, Nat.add_zero, Nat.zero_add, List.append_eq, and_self, ptrCells_some, F34]
      cases hP : preB rest s with
      | true =>
        have hfind : signsL.find? (preB rest) = some s := by
          rw [List.find?_eq_some_iff_getElem]
          refine ⟨hP, i, by omega, by rw [List.getElem?_eq_getElem (by omega)] at hs; exact Option.some.inj hs, fun j hj => ?_⟩
          rw [hno j _ hj (List.getElem?_eq_getElem (by omega))]; rfl
        rw [hfe] at hfind
        have hsl : s.length ≤ 2 ∧ signS c r = .tok 5 s 0 s.length := by
          unfold signS
          split at hfind
          · rename_i h
            cases hfind
            rw [if_pos h]; exact ⟨by simp, rfl⟩
          · rename_i h
            rw [if_neg h]
            split at hfind
            · rename_i h2
              cases hfind
              rw [if_pos h2]; exact ⟨by simp, rfl⟩
            · cases hfind
        have hps : IntKind.i64.wrap ((p : Int) + (s.length : Int)) = ((p + s.length : Nat) : Int) := by rw [IntWalk.i64_in _ (by omega)]; omega
        simp only [WW, partV, eqCells, eqLf, minV, maxV, ifcV, List.map_cons, List.map_nil, List.length_cons, List.length_nil, List.getD_cons_zero, List.getD_cons_succ, List.set_cons_zero, List.set_cons_succ, List.set_nil, ofConst, ofConst1, List.replicate, List.cons_append, List.nil_append, loadOp, Go.Abs.loadCells, binV, Int.toNat_natCast, pickV, List.getElem?_cons_zero, List.getElem?_cons_succ, Option.map_some, Option.bind_some, List.drop_zero, List.drop_succ_cons, List.take_succ_cons, List.take_zero, List.length_map, outR, resAll, resOne, if_true, if_false, and_true, true_and, Bool.true_eq_false, Bool.false_eq_true, forall_const, true_implies, false_implies, implies_true, decide_true, decide_false, beq_self_eq_true, Option.getD_some, Nat.zero_add, Nat.add_zero, storeOp, storeCell, overlay, List.take_nil, List.drop_nil, List.append_nil, lookupOp, keyT, okRes, mapUpdateOp, Bool.and_self, Bool.and_true, Bool.true_and, Bool.not_true, Bool.not_false, gt_iff_lt, ge_iff_le, Nat.reduceSub, Nat.reduceAdd, Int.reduceLT, Int.reduceLE, Int.reduceAdd, Int.reduceSub, Int.reduceToNat, Int.reduceBEq, Int.reduceBNe, Int.reduceMul, Nat.reduceBEq, Nat.reduceBNe, Nat.reduceLT, Nat.reduceLeDiff, Nat.reduceMul, Nat.reduceEqDiff, WD, effB, effH, isPriv, isHeap, isImm, Option.any_some, Option.any_none, Option.isSome_none, chkO, setD, dslot, Bool.toNat_true, Bool.toNat_false, Nat.add_zero, Nat.zero_add, List.append_eq, and_self, ptrCells_some, F34, hb0, ba_size, hps, storeHeap, promote, heapSet, elemSet, storeCell, overlay]
        rw [hsl.2]
        exact ⟨rfl, rfl⟩
      | false =>
        have hi1 : IntKind.i64.wrap ((i : Int) + 1) = ((i + 1 : Nat) : Int) := by rw [IntWalk.i64_in _ (by omega)]; omega
        simp only [WW, partV, eqCells, eqLf, minV, maxV, ifcV, List.map_cons, List.map_nil, List.length_cons, List.length_nil, List.getD_cons_zero, List.getD_cons_succ, List.set_cons_zero, List.set_cons_succ, List.set_nil, ofConst, ofConst1, List.replicate, List.cons_append, List.nil_append, loadOp, Go.Abs.loadCells, binV, Int.toNat_natCast, pickV, List.getElem?_cons_zero, List.getElem?_cons_succ, Option.map_some, Option.bind_some, List.drop_zero, List.drop_succ_cons, List.take_succ_cons, List.take_zero, List.length_map, outR, resAll, resOne, if_true, if_false, and_true, true_and, Bool.true_eq_false, Bool.false_eq_true, forall_const, true_implies, false_implies, implies_true, decide_true, decide_false, beq_self_eq_true, Option.getD_some, Nat.zero_add, Nat.add_zero, storeOp, storeCell, overlay, List.take_nil, List.drop_nil, List.append_nil, lookupOp, keyT, okRes, mapUpdateOp, Bool.and_self, Bool.and_true, Bool.true_and, Bool.not_true, Bool.not_false, gt_iff_lt, ge_iff_le, Nat.reduceSub, Nat.reduceAdd, Int.reduceLT, Int.reduceLE, Int.reduceAdd, Int.reduceSub, Int.reduceToNat, Int.reduceBEq, Int.reduceBNe, Int.reduceMul, Nat.reduceBEq, Nat.reduceBNe, Nat.reduceLT, Nat.reduceLeDiff, Nat.reduceMul, Nat.reduceEqDiff, WD, effB, effH, isPriv, isHeap, isImm, Option.any_some, Option.any_none, Option.isSome_none, chkO, setD, dslot, Bool.toNat_true, Bool.toNat_false, Nat.add_zero, Nat.zero_add, List.append_eq, and_self, ptrCells_some, F34, hi1]
        refine ⟨22 - (i + 1), by omega, i + 1, ?_, by omega, rfl, fun j q' hj hq' => ?_⟩
        · simp only [WN, firstReg, growAll, List.foldl_nil, List.foldl_cons, norm, killS, List.set_cons_zero, List.set_cons_succ, List.map_cons, List.map_nil, List.take_nil, List.take_zero, List.length_nil, growOne, List.getD_cons_zero, List.getD_cons_succ, List.length_cons, List.take_succ_cons, List.nil_append, Nat.reduceLT, Nat.reduceAdd, Nat.zero_add, if_true, F34, hi1]
          try rfl
        · by_cases e : j = i
          · subst e; rw [hs] at hq'; cases hq'; exact hP
          · exact hno j q' (by omega) hq'
    · have hi2 : i = 22 := by have := of_decide_eq_false hge; omega
      subst hi2
      have hfind : signsL.find? (preB rest) = none := by
        rw [List.find?_eq_none]
        intro s hs
        obtain ⟨j, hj, e⟩ := List.getElem_of_mem hs
        have h22 : signsL.length = 22 := rfl
        rw [hno j s (by omega) (by rw [List.getElem?_eq_getElem hj, e])]
        simp
      rw [hfe] at hfind
      have hbad : signS c r = .bad 6 (if c = 33 then 1 else 0) := by
        unfold signS
        split at hfind
        · cases hfind
        · rename_i h
          rw [if_neg h]
          split at hfind
          · cases hfind
          · rename_i h2; rw [if_neg h2]
      have e33 : (((c.toNat : Nat) : Int) == 33) = (c == 33) := u8b c 33
      simp only [hge]
      simp only [WW, partV, eqCells, eqLf, minV, maxV, ifcV, List.map_cons, List.map_nil, List.length_cons, List.length_nil, List.getD_cons_zero, List.getD_cons_succ, List.set_cons_zero, List.set_cons_succ, List.set_nil, ofConst, ofConst1, List.replicate, List.cons_append, List.nil_append, loadOp, Go.Abs.loadCells, binV, Int.toNat_natCast, pickV, List.getElem?_cons_zero, List.getElem?_cons_succ, Option.map_some, Option.bind_some, List.drop_zero, List.drop_succ_cons, List.take_succ_cons, List.take_zero, List.length_map, outR, resAll, resOne, if_true, if_false, and_true, true_and, Bool.true_eq_false, Bool.false_eq_true, forall_const, true_implies, false_implies, implies_true, decide_true, decide_false, beq_self_eq_true, Option.getD_some, Nat.zero_add, Nat.add_zero, storeOp, storeCell, overlay, List.take_nil, List.drop_nil, List.append_nil, lookupOp, keyT, okRes, mapUpdateOp, Bool.and_self, Bool.and_true, Bool.true_and, Bool.not_true, Bool.not_false, gt_iff_lt, ge_iff_le, Nat.reduceSub, Nat.reduceAdd, Int.reduceLT, Int.reduceLE, Int.reduceAdd, Int.reduceSub, Int.reduceToNat, Int.reduceBEq, Int.reduceBNe, Int.reduceMul, Nat.reduceBEq, Nat.reduceBNe, Nat.reduceLT, Nat.reduceLeDiff, Nat.reduceMul, Nat.reduceEqDiff, WD, effB, effH, isPriv, isHeap, isImm, Option.any_some, Option.any_none, Option.isSome_none, chkO, setD, dslot, Bool.toNat_true, Bool.toNat_false, Nat.add_zero, Nat.zero_add, List.append_eq, and_self, ptrCells_some, F34, strV, Int.toNat_zero, Int.le_refl, List.toList_toArray, hc0, e33]
      rw [hbad]
      cases h33 : (c == 33) with
      | true =>
        have : c = 33 := by simpa using h33
        have hp1 : IntKind.i64.wrap ((p : Int) + 1) = ((p + 1 : Nat) : Int) := by rw [IntWalk.i64_in _ (by omega)]; omega
        simp only [WW, partV, eqCells, eqLf, minV, maxV, ifcV, List.map_cons, List.map_nil, List.length_cons, List.length_nil, List.getD_cons_zero, List.getD_cons_succ, List.set_cons_zero, List.set_cons_succ, List.set_nil, ofConst, ofConst1, List.replicate, List.cons_append, List.nil_append, loadOp, Go.Abs.loadCells, binV, Int.toNat_natCast, pickV, List.getElem?_cons_zero, List.getElem?_cons_succ, Option.map_some, Option.bind_some, List.drop_zero, List.drop_succ_cons, List.take_succ_cons, List.take_zero, List.length_map, outR, resAll, resOne, if_true, if_false, and_true, true_and, Bool.true_eq_false, Bool.false_eq_true, forall_const, true_implies, false_implies, implies_true, decide_true, decide_false, beq_self_eq_true, Option.getD_some, Nat.zero_add, Nat.add_zero, storeOp, storeCell, overlay, List.take_nil, List.drop_nil, List.append_nil, lookupOp, keyT, okRes, mapUpdateOp, Bool.and_self, Bool.and_true, Bool.true_and, Bool.not_true, Bool.not_false, gt_iff_lt, ge_iff_le, Nat.reduceSub, Nat.reduceAdd, Int.reduceLT, Int.reduceLE, Int.reduceAdd, Int.reduceSub, Int.reduceToNat, Int.reduceBEq, Int.reduceBNe, Int.reduceMul, Nat.reduceBEq, Nat.reduceBNe, Nat.reduceLT, Nat.reduceLeDiff, Nat.reduceMul, Nat.reduceEqDiff, WD, effB, effH, isPriv, isHeap, isImm, Option.any_some, Option.any_none, Option.isSome_none, chkO, setD, dslot, Bool.toNat_true, Bool.toNat_false, Nat.add_zero, Nat.zero_add, List.append_eq, and_self, ptrCells_some, F34, hb0, hp1, storeHeap, promote, heapSet, elemSet, storeCell, overlay]
        rw [if_pos this]
        exact ⟨⟨⟨5, [], 0, p⟩, rfl⟩, rfl⟩
      | false =>
        have : ¬ c = 33 := by simpa using h33
        simp only [WW, partV, eqCells, eqLf, minV, maxV, ifcV, List.map_cons, List.map_nil, List.length_cons, List.length_nil, List.getD_cons_zero, List.getD_cons_succ, List.set_cons_zero, List.set_cons_succ, List.set_nil, ofConst, ofConst1, List.replicate, List.cons_append, List.nil_append, loadOp, Go.Abs.loadCells, binV, Int.toNat_natCast, pickV, List.getElem?_cons_zero, List.getElem?_cons_succ, Option.map_some, Option.bind_some, List.drop_zero, List.drop_succ_cons, List.take_succ_cons, List.take_zero, List.length_map, outR, resAll, resOne, if_true, if_false, and_true, true_and, Bool.true_eq_false, Bool.false_eq_true, forall_const, true_implies, false_implies, implies_true, decide_true, decide_false, beq_self_eq_true, Option.getD_some, Nat.zero_add, Nat.add_zero, storeOp, storeCell, overlay, List.take_nil, List.drop_nil, List.append_nil, lookupOp, keyT, okRes, mapUpdateOp, Bool.and_self, Bool.and_true, Bool.true_and, Bool.not_true, Bool.not_false, gt_iff_lt, ge_iff_le, Nat.reduceSub, Nat.reduceAdd, Int.reduceLT, Int.reduceLE, Int.reduceAdd, Int.reduceSub, Int.reduceToNat, Int.reduceBEq, Int.reduceBNe, Int.reduceMul, Nat.reduceBEq, Nat.reduceBNe, Nat.reduceLT, Nat.reduceLeDiff, Nat.reduceMul, Nat.reduceEqDiff, WD, effB, effH, isPriv, isHeap, isImm, Option.any_some, Option.any_none, Option.isSome_none, chkO, setD, dslot, Bool.toNat_true, Bool.toNat_false, Nat.add_zero, Nat.zero_add, List.append_eq, and_self, ptrCells_some, F34, storeCell, overlay]
        rw [if_neg this]
        exact ⟨⟨⟨5, [], 0, p⟩, rfl⟩, hself.symm⟩
end Go.Proofs.YtcmndnkeoepmoaaDoor

namespace Go.Proofs.YtcmndnkeoepmoaaDoor
open Go Go.Abs Go.Proofs
set_option maxRecDepth 100000
set_option maxHeartbeats 1000000
set_option linter.unusedVariables false
set_option linter.unusedSimpArgs false
/-! ### strings -/
inductive Esc
  | ok (b : UInt8) (len : Nat)
  | bad (off : Nat)
def escS : List UInt8 → Esc
  | [] => .bad 0
  | d :: r1 =>
    if d = 120 then
      match r1 with
      | [] => .bad 1
      | a :: r2 => match hexN a with
        | none => .bad 1
        | some x => match r2 with
          | [] => .bad 2
          | b :: _ => match hexN b with
            | none => .bad 2
            | some y => .ok (UInt8.ofNat (16 * x + y)) 3
    else match escB d with
      | some y => .ok y 1
      | none => .bad 0
theorem text_esc (r out : List UInt8) (o : Nat) : textS (92 :: r) out o = match escS r with | .bad off => .bad 6 (o + 1 + off) | .ok y len => textS (r.drop len) (out ++ [y]) (o + 1 + len) := by
  rw [textS.eq_def]
  simp only
  rw [if_neg (by decide), if_neg (by decide), if_neg (by decide)]
  match r with
  | [] => rfl
  | d :: r1 =>
    simp only [escS]
    by_cases h : d = 120
    · rw [if_pos h, if_pos h]
      match r1 with
      | [] => rfl
      | a :: r2 =>
        simp only
        cases hexN a with
        | none => rfl
        | some x =>
          match r2 with
          | [] => rfl
          | b :: r3 =>
            simp only
            cases hexN b <;> rfl
    · rw [if_neg h, if_neg h]
      cases escB d <;> rfl
theorem hexN_lt {c : UInt8} {n : Nat} (h : hexN c = some n) : n < 16 := by
  unfold hexN at h
  split at h
  · cases h; omega
  split at h
  · cases h; omega
  split at h
  · cases h; omega
  · cases h
def escR (H : Hp) (w : Nat) (x : V) (p : Nat) (e : Esc) (out : Out) (H' : Hp) : Prop := match e with
  | .ok b len => out = .ret (.tup [.int .u8 (b.toNat : Int), .bool true]) false ∧ H' = H.set w (ctr x ((p + len : Nat) : Int))
  | .bad off => out = .ret (.tup [.int .u8 0, .bool false]) false ∧ H' = H.set w (ctr x ((p + off : Nat) : Int))
theorem esc_spec {H : Hp} {w : Nat} {x : V} {L : List UInt8} {p : Nat} (hB : By H w x L) (hC : Ct H w x p) (hp : p ≤ L.length) (hL : L.length ≤ 65536) :
    wpCall EW 38 [.ptr w 0 0] H (escR H w x p (escS (L.drop p))) := by
  have hb0 : H[w]? = some (.cells [.agg [x, .int .i64 (p : Int)]]) := hC
  have hx := hB.rd
  have hself := hC.self
  refine runs f38 b38 r38 n38 _ _ ?_
  simp only [bodyOf, Tryd.f38, Option.getD_some]
  simp only [WW, partV, eqCells, eqLf, minV, maxV, ifcV, List.map_cons, List.map_nil, List.length_cons, List.length_nil, List.getD_cons_zero, List.getD_cons_succ, List.set_cons_zero, List.set_cons_succ, List.set_nil, ofConst, ofConst1, List.replicate, List.cons_append, List.nil_append, loadOp, Go.Abs.loadCells, binV, Int.toNat_natCast, pickV, List.getElem?_cons_zero, List.getElem?_cons_succ, Option.map_some, Option.bind_some, List.drop_zero, List.drop_succ_cons, List.take_succ_cons, List.take_zero, List.length_map, outR, resAll, resOne, if_true, if_false, and_true, true_and, Bool.true_eq_false, Bool.false_eq_true, forall_const, true_implies, false_implies, implies_true, decide_true, decide_false, beq_self_eq_true, Option.getD_some, Nat.zero_add, Nat.add_zero, storeOp, storeCell, overlay, List.take_nil, List.drop_nil, List.append_nil, lookupOp, keyT, okRes, mapUpdateOp, Bool.and_self, Bool.and_true, Bool.true_and, Bool.not_true, Bool.not_false, gt_iff_lt, ge_iff_le, Nat.reduceSub, Nat.reduceAdd, Int.reduceLT, Int.reduceLE, Int.reduceAdd, Int.reduceSub, Int.reduceToNat, Int.reduceBEq, Int.reduceBNe, Int.reduceMul, Nat.reduceBEq, Nat.reduceBNe, Nat.reduceLT, Nat.reduceLeDiff, Nat.reduceMul, Nat.reduceEqDiff, WD, effB, effH, isPriv, isHeap, isImm, Option.any_some, Option.any_none, Option.isSome_none, chkO, setD, dslot, Bool.toNat_true, Bool.toNat_false, Nat.add_zero, Nat.zero_add, List.append_eq, and_self, ptrCells_some, F38]
  refine wC_dr alts38_1 (by kernel_rfl) ?_
  by_cases hpe : p = L.length
  · have he : ((p : Int) == (L.length : Int)) = true := by simp [hpe]
    simp only [WW, partV, eqCells, eqLf, minV, maxV, ifcV, List.map_cons, List.map_nil, List.length_cons, List.length_nil, List.getD_cons_zero, List.getD_cons_succ, List.set_cons_zero, List.set_cons_succ, List.set_nil, ofConst, ofConst1, List.replicate, List.cons_append, List.nil_append, loadOp, Go.Abs.loadCells, binV, Int.toNat_natCast, pickV, List.getElem?_cons_zero, List.getElem?_cons_succ, Option.map_some, Option.bind_some, List.drop_zero, List.drop_succ_cons, List.take_succ_cons, List.take_zero, List.length_map, outR, resAll, resOne, if_true, if_false, and_true, true_and, Bool.true_eq_false, Bool.false_eq_true, forall_const, true_implies, false_implies, implies_true, decide_true, decide_false, beq_self_eq_true, Option.getD_some, Nat.zero_add, Nat.add_zero, storeOp, storeCell, overlay, List.take_nil, List.drop_nil, List.append_nil, lookupOp, keyT, okRes, mapUpdateOp, Bool.and_self, Bool.and_true, Bool.true_and, Bool.not_true, Bool.not_false, gt_iff_lt, ge_iff_le, Nat.reduceSub, Nat.reduceAdd, Int.reduceLT, Int.reduceLE, Int.reduceAdd, Int.reduceSub, Int.reduceToNat, Int.reduceBEq, Int.reduceBNe, Int.reduceMul, Nat.reduceBEq, Nat.reduceBNe, Nat.reduceLT, Nat.reduceLeDiff, Nat.reduceMul, Nat.reduceEqDiff, WD, effB, effH, isPriv, isHeap, isImm, Option.any_some, Option.any_none, Option.isSome_none, chkO, setD, dslot, Bool.toNat_true, Bool.toNat_false, Nat.add_zero, Nat.zero_add, List.append_eq, and_self, ptrCells_some, F38, hb0, hx.shutIn, hx.len, by8_len, alts38_1, he]
    rw [List.drop_of_length_le (by omega)]
    exact ⟨rfl, hself.symm⟩
  · have he : ((p : Int) == (L.length : Int)) = false := by rw [beq_eq_false_iff_ne]; omega
    simp only [WW, partV, eqCells, eqLf, minV, maxV, ifcV, List.map_cons, List.map_nil, List.length_cons, List.length_nil, List.getD_cons_zero, List.getD_cons_succ, List.set_cons_zero, List.set_cons_succ, List.set_nil, ofConst, ofConst1, List.replicate, List.cons_append, List.nil_append, loadOp, Go.Abs.loadCells, binV, Int.toNat_natCast, pickV, List.getElem?_cons_zero, List.getElem?_cons_succ, Option.map_some, Option.bind_some, List.drop_zero, List.drop_succ_cons, List.take_succ_cons, List.take_zero, List.length_map, outR, resAll, resOne, if_true, if_false, and_true, true_and, Bool.true_eq_false, Bool.false_eq_true, forall_const, true_implies, false_implies, implies_true, decide_true, decide_false, beq_self_eq_true, Option.getD_some, Nat.zero_add, Nat.add_zero, storeOp, storeCell, overlay, List.take_nil, List.drop_nil, List.append_nil, lookupOp, keyT, okRes, mapUpdateOp, Bool.and_self, Bool.and_true, Bool.true_and, Bool.not_true, Bool.not_false, gt_iff_lt, ge_iff_le, Nat.reduceSub, Nat.reduceAdd, Int.reduceLT, Int.reduceLE, Int.reduceAdd, Int.reduceSub, Int.reduceToNat, Int.reduceBEq, Int.reduceBNe, Int.reduceMul, Nat.reduceBEq, Nat.reduceBNe, Nat.reduceLT, Nat.reduceLeDiff, Nat.reduceMul, Nat.reduceEqDiff, WD, effB, effH, isPriv, isHeap, isImm, Option.any_some, Option.any_none, Option.isSome_none, chkO, setD, dslot, Bool.toNat_true, Bool.toNat_false, Nat.add_zero, Nat.zero_add, List.append_eq, and_self, ptrCells_some, F38, hb0, hx.shutIn, hx.len, by8_len, alts38_1, he]
    have hplt : p < L.length := by omega
    have hc : L[p]? = some L[p] := List.getElem?_eq_getElem hplt
    generalize L[p] = d at hc
    have hc8 : (by8 L)[p]? = some (byteV d) := by simp [by8, hc]
    have hat := hx.at_ (sz := 1) hc8 rfl
    have hp1 : IntKind.i64.wrap ((p : Int) + 1) = ((p + 1 : Nat) : Int) := by rw [IntWalk.i64_in _ (by omega)]; omega
    rw [drop_cons hc]
    refine wC_dr alts38_3 (by kernel_rfl) ?_
    simp only [WW, partV, eqCells, eqLf, minV, maxV, ifcV, List.map_cons, List.map_nil, List.length_cons, List.length_nil, List.getD_cons_zero, List.getD_cons_succ, List.set_cons_zero, List.set_cons_succ, List.set_nil, ofConst, ofConst1, List.replicate, List.cons_append, List.nil_append, loadOp, Go.Abs.loadCells, binV, Int.toNat_natCast, pickV, List.getElem?_cons_zero, List.getElem?_cons_succ, Option.map_some, Option.bind_some, List.drop_zero, List.drop_succ_cons, List.take_succ_cons, List.take_zero, List.length_map, outR, resAll, resOne, if_true, if_false, and_true, true_and, Bool.true_eq_false, Bool.false_eq_true, forall_const, true_implies, false_implies, implies_true, decide_true, decide_false, beq_self_eq_true, Option.getD_some, Nat.zero_add, Nat.add_zero, storeOp, storeCell, overlay, List.take_nil, List.drop_nil, List.append_nil, lookupOp, keyT, okRes, mapUpdateOp, Bool.and_self, Bool.and_true, Bool.true_and, Bool.not_true, Bool.not_false, gt_iff_lt, ge_iff_le, Nat.reduceSub, Nat.reduceAdd, Int.reduceLT, Int.reduceLE, Int.reduceAdd, Int.reduceSub, Int.reduceToNat, Int.reduceBEq, Int.reduceBNe, Int.reduceMul, Nat.reduceBEq, Nat.reduceBNe, Nat.reduceLT, Nat.reduceLeDiff, Nat.reduceMul, Nat.reduceEqDiff, WD, effB, effH, isPriv, isHeap, isImm, Option.any_some, Option.any_none, Option.isSome_none, chkO, setD, dslot, Bool.toNat_true, Bool.toNat_false, Nat.add_zero, Nat.zero_add, List.append_eq, and_self, ptrCells_some, F38, hb0, hx.shutIn, hat.at1 hx, hat.cells, byteV, alts38_3]
    have e110 : (((d.toNat : Nat) : Int) == 110) = (d == 110) := u8b d 110
    have e116 : (((d.toNat : Nat) : Int) == 116) = (d == 116) := u8b d 116
    have e34 : (((d.toNat : Nat) : Int) == 34) = (d == 34) := u8b d 34
    have e92 : (((d.toNat : Nat) : Int) == 92) = (d == 92) := u8b d 92
    have e120 : (((d.toNat : Nat) : Int) == 120) = (d == 120) := u8b d 120
    cases h110 : (d == 110) with
    | true =>
      obtain rfl : d = 110 := by simpa using h110
      simp only [WW, partV, eqCells, eqLf, minV, maxV, ifcV, List.map_cons, List.map_nil, List.length_cons, List.length_nil, List.getD_cons_zero, List.getD_cons_succ, List.set_cons_zero, List.set_cons_succ, List.set_nil, ofConst, ofConst1, List.replicate, List.cons_append, List.nil_append, loadOp, Go.Abs.loadCells, binV, Int.toNat_natCast, pickV, List.getElem?_cons_zero, List.getElem?_cons_succ, Option.map_some, Option.bind_some, List.drop_zero, List.drop_succ_cons, List.take_succ_cons, List.take_zero, List.length_map, outR, resAll, resOne, if_true, if_false, and_true, true_and, Bool.true_eq_false, Bool.false_eq_true, forall_const, true_implies, false_implies, implies_true, decide_true, decide_false, beq_self_eq_true, Option.getD_some, Nat.zero_add, Nat.add_zero, storeOp, storeCell, overlay, List.take_nil, List.drop_nil, List.append_nil, lookupOp, keyT, okRes, mapUpdateOp, Bool.and_self, Bool.and_true, Bool.true_and, Bool.not_true, Bool.not_false, gt_iff_lt, ge_iff_le, Nat.reduceSub, Nat.reduceAdd, Int.reduceLT, Int.reduceLE, Int.reduceAdd, Int.reduceSub, Int.reduceToNat, Int.reduceBEq, Int.reduceBNe, Int.reduceMul, Nat.reduceBEq, Nat.reduceBNe, Nat.reduceLT, Nat.reduceLeDiff, Nat.reduceMul, Nat.reduceEqDiff, WD, effB, effH, isPriv, isHeap, isImm, Option.any_some, Option.any_none, Option.isSome_none, chkO, setD, dslot, Bool.toNat_true, Bool.toNat_false, Nat.add_zero, Nat.zero_add, List.append_eq, and_self, ptrCells_some, F38, e110, h110, hb0, hp1, storeHeap, promote, heapSet, elemSet, storeCell, overlay]
      exact ⟨rfl, rfl⟩
    | false =>
      have n110 : d ≠ 110 := by simpa using h110
      cases h116 : (d == 116) with
      | true =>
        obtain rfl : d = 116 := by simpa using h116
        simp only [WW, partV, eqCells, eqLf, minV, maxV, ifcV, List.map_cons, List.map_nil, List.length_cons, List.length_nil, List.getD_cons_zero, List.getD_cons_succ, List.set_cons_zero, List.set_cons_succ, List.set_nil, ofConst, ofConst1, List.replicate, List.cons_append, List.nil_append, loadOp, Go.Abs.loadCells, binV, Int.toNat_natCast, pickV, List.getElem?_cons_zero, List.getElem?_cons_succ, Option.map_some, Option.bind_some, List.drop_zero, List.drop_succ_cons, List.take_succ_cons, List.take_zero, List.length_map, outR, resAll, resOne, if_true, if_false, and_true, true_and, Bool.true_eq_false, Bool.false_eq_true, forall_const, true_implies, false_implies, implies_true, decide_true, decide_false, beq_self_eq_true, Option.getD_some, Nat.zero_add, Nat.add_zero, storeOp, storeCell, overlay, List.take_nil, List.drop_nil, List.append_nil, lookupOp, keyT, okRes, mapUpdateOp, Bool.and_self, Bool.and_true, Bool.true_and, Bool.not_true, Bool.not_false, gt_iff_lt, ge_iff_le, Nat.reduceSub, Nat.reduceAdd, Int.reduceLT, Int.reduceLE, Int.reduceAdd, Int.reduceSub, Int.reduceToNat, Int.reduceBEq, Int.reduceBNe, Int.reduceMul, Nat.reduceBEq, Nat.reduceBNe, Nat.reduceLT, Nat.reduceLeDiff, Nat.reduceMul, Nat.reduceEqDiff, WD, effB, effH, isPriv, isHeap, isImm, Option.any_some, Option.any_none, Option.isSome_none, chkO, setD, dslot, Bool.toNat_true, Bool.toNat_false, Nat.add_zero, Nat.zero_add, List.append_eq, and_self, ptrCells_some, F38, e110, h110, e116, h116, hb0, hp1, storeHeap, promote, heapSet, elemSet, storeCell, overlay]
        exact ⟨rfl, rfl⟩
      | false =>
        have n116 : d ≠ 116 := by simpa using h116
        cases h34 : (d == 34) with
        | true =>
          obtain rfl : d = 34 := by simpa using h34
          simp only [WW, partV, eqCells, eqLf, minV, maxV, ifcV, List.map_cons, List.map_nil, List.length_cons, List.length_nil, List.getD_cons_zero, List.getD_cons_succ, List.set_cons_zero, List.set_cons_succ, List.set_nil, ofConst, ofConst1, List.replicate, List.cons_append, List.nil_append, loadOp, Go.Abs.loadCells, binV, Int.toNat_natCast, pickV, List.getElem?_cons_zero, List.getElem?_cons_succ, Option.map_some, Option.bind_some, List.drop_zero, List.drop_succ_cons, List.take_succ_cons, List.take_zero, List.length_map, outR, resAll, resOne, if_true, if_false, and_true, true_and, Bool.true_eq_false, Bool.false_eq_true, forall_const, true_implies, false_implies, implies_true, decide_true, decide_false, beq_self_eq_true, Option.getD_some, Nat.zero_add, Nat.add_zero, storeOp, storeCell, overlay, List.take_nil, List.drop_nil, List.append_nil, lookupOp, keyT, okRes, mapUpdateOp, Bool.and_self, Bool.and_true, Bool.true_and, Bool.not_true, Bool.not_false, gt_iff_lt, ge_iff_le, Nat.reduceSub, Nat.reduceAdd, Int.reduceLT, Int.reduceLE, Int.reduceAdd, Int.reduceSub, Int.reduceToNat, Int.reduceBEq, Int.reduceBNe, Int.reduceMul, Nat.reduceBEq, Nat.reduceBNe, Nat.reduceLT, Nat.reduceLeDiff, Nat.reduceMul, Nat.reduceEqDiff, WD, effB, effH, isPriv, isHeap, isImm, Option.any_some, Option.any_none, Option.isSome_none, chkO, setD, dslot, Bool.toNat_true, Bool.toNat_false, Nat.add_zero, Nat.zero_add, List.append_eq, and_self, ptrCells_some, F38, e110, h110, e116, h116, e34, h34, hb0, hp1, storeHeap, promote, heapSet, elemSet, storeCell, overlay]
          exact ⟨rfl, rfl⟩
        | false =>
          have n34 : d ≠ 34 := by simpa using h34
          cases h92 : (d == 92) with
          | true =>
            obtain rfl : d = 92 := by simpa using h92
            simp only [WW, partV, eqCells, eqLf, minV, maxV, ifcV, List.map_cons, List.map_nil, List.length_cons, List.length_nil, List.getD_cons_zero, List.getD_cons_succ, List.set_cons_zero, List.set_cons_succ, List.set_nil, ofConst, ofConst1, List.replicate, List.cons_append, List.nil_append, loadOp, Go.Abs.loadCells, binV, Int.toNat_natCast, pickV, List.getElem?_cons_zero, List.getElem?_cons_succ, Option.map_some, Option.bind_some, List.drop_zero, List.drop_succ_cons, List.take_succ_cons, List.take_zero, List.length_map, outR, resAll, resOne, if_true, if_false, and_true, true_and, Bool.true_eq_false, Bool.false_eq_true, forall_const, true_implies, false_implies, implies_true, decide_true, decide_false, beq_self_eq_true, Option.getD_some, Nat.zero_add, Nat.add_zero, storeOp, storeCell, overlay, List.take_nil, List.drop_nil, List.append_nil, lookupOp, keyT, okRes, mapUpdateOp, Bool.and_self, Bool.and_true, Bool.true_and, Bool.not_true, Bool.not_false, gt_iff_lt, ge_iff_le, Nat.reduceSub, Nat.reduceAdd, Int.reduceLT, Int.reduceLE, Int.reduceAdd, Int.reduceSub, Int.reduceToNat, Int.reduceBEq, Int.reduceBNe, Int.reduceMul, Nat.reduceBEq, Nat.reduceBNe, Nat.reduceLT, Nat.reduceLeDiff, Nat.reduceMul, Nat.reduceEqDiff, WD, effB, effH, isPriv, isHeap, isImm, Option.any_some, Option.any_none, Option.isSome_none, chkO, setD, dslot, Bool.toNat_true, Bool.toNat_false, Nat.add_zero, Nat.zero_add, List.append_eq, and_self, ptrCells_some, F38, e110, h110, e116, h116, e34, h34, e92, h92, hb0, hp1, storeHeap, promote, heapSet, elemSet, storeCell, overlay]
            exact ⟨rfl, rfl⟩
          | false =>
            have n92 : d ≠ 92 := by simpa using h92
            cases h120 : (d == 120) with
            | false =>
              have n120 : d ≠ 120 := by simpa using h120
              have hesc : escS (d :: L.drop (p + 1)) = .bad 0 := by
                simp only [escS]
                rw [if_neg n120]
                simp [escB, n110, n116, n34, n92]
              simp only [WW, partV, eqCells, eqLf, minV, maxV, ifcV, List.map_cons, List.map_nil, List.length_cons, List.length_nil, List.getD_cons_zero, List.getD_cons_succ, List.set_cons_zero, List.set_cons_succ, List.set_nil, ofConst, ofConst1, List.replicate, List.cons_append, List.nil_append, loadOp, Go.Abs.loadCells, binV, Int.toNat_natCast, pickV, List.getElem?_cons_zero, List.getElem?_cons_succ, Option.map_some, Option.bind_some, List.drop_zero, List.drop_succ_cons, List.take_succ_cons, List.take_zero, List.length_map, outR, resAll, resOne, if_true, if_false, and_true, true_and, Bool.true_eq_false, Bool.false_eq_true, forall_const, true_implies, false_implies, implies_true, decide_true, decide_false, beq_self_eq_true, Option.getD_some, Nat.zero_add, Nat.add_zero, storeOp, storeCell, overlay, List.take_nil, List.drop_nil, List.append_nil, lookupOp, keyT, okRes, mapUpdateOp, Bool.and_self, Bool.and_true, Bool.true_and, Bool.not_true, Bool.not_false, gt_iff_lt, ge_iff_le, Nat.reduceSub, Nat.reduceAdd, Int.reduceLT, Int.reduceLE, Int.reduceAdd, Int.reduceSub, Int.reduceToNat, Int.reduceBEq, Int.reduceBNe, Int.reduceMul, Nat.reduceBEq, Nat.reduceBNe, Nat.reduceLT, Nat.reduceLeDiff, Nat.reduceMul, Nat.reduceEqDiff, WD, effB, effH, isPriv, isHeap, isImm, Option.any_some, Option.any_none, Option.isSome_none, chkO, setD, dslot, Bool.toNat_true, Bool.toNat_false, Nat.add_zero, Nat.zero_add, List.append_eq, and_self, ptrCells_some, F38, e110, h110, e116, h116, e34, h34, e92, h92, e120, h120]
              rw [hesc]
              exact ⟨rfl, hself.symm⟩
            | true =>
              obtain rfl : d = 120 := by simpa using h120
              simp only [WW, partV, eqCells, eqLf, minV, maxV, ifcV, List.map_cons, List.map_nil, List.length_cons, List.length_nil, List.getD_cons_zero, List.getD_cons_succ, List.set_cons_zero, List.set_cons_succ, List.set_nil, ofConst, ofConst1, List.replicate, List.cons_append, List.nil_append, loadOp, Go.Abs.loadCells, binV, Int.toNat_natCast, pickV, List.getElem?_cons_zero, List.getElem?_cons_succ, Option.map_some, Option.bind_some, List.drop_zero, List.drop_succ_cons, List.take_succ_cons, List.take_zero, List.length_map, outR, resAll, resOne, if_true, if_false, and_true, true_and, Bool.true_eq_false, Bool.false_eq_true, forall_const, true_implies, false_implies, implies_true, decide_true, decide_false, beq_self_eq_true, Option.getD_some, Nat.zero_add, Nat.add_zero, storeOp, storeCell, overlay, List.take_nil, List.drop_nil, List.append_nil, lookupOp, keyT, okRes, mapUpdateOp, Bool.and_self, Bool.and_true, Bool.true_and, Bool.not_true, Bool.not_false, gt_iff_lt, ge_iff_le, Nat.reduceSub, Nat.reduceAdd, Int.reduceLT, Int.reduceLE, Int.reduceAdd, Int.reduceSub, Int.reduceToNat, Int.reduceBEq, Int.reduceBNe, Int.reduceMul, Nat.reduceBEq, Nat.reduceBNe, Nat.reduceLT, Nat.reduceLeDiff, Nat.reduceMul, Nat.reduceEqDiff, WD, effB, effH, isPriv, isHeap, isImm, Option.any_some, Option.any_none, Option.isSome_none, chkO, setD, dslot, Bool.toNat_true, Bool.toNat_false, Nat.add_zero, Nat.zero_add, List.append_eq, and_self, ptrCells_some, F38, e110, h110, e116, h116, e34, h34, e92, h92, e120, h120]
              refine wC_loop _ (fun k st' H' => ∃ i nn : Nat, st' = ⟨L38_15 (.v (.ptr w 0 0)) (.v (.int .i64 (nn : Int))) (.v (.int .i64 (i : Int))), [], []⟩ ∧ Ct H' w x ((p + i : Nat) : Int) ∧ (∀ b, H'.set w b = H.set w b) ∧ i ≤ 2 ∧ k = 2 - i ∧
                ((i = 0 ∧ nn = 0) ∨ (i = 1 ∧ ∃ a, L[p + 1]? = some a ∧ hexN a = some nn) ∨ (i = 2 ∧ ∃ a b m1 m2, L[p + 1]? = some a ∧ hexN a = some m1 ∧ L[p + 2]? = some b ∧ hexN b = some m2 ∧ nn = 16 * m1 + m2))) 2 ⟨0, 0, ?_, hC, fun _ => rfl, by omega, rfl, .inl ⟨rfl, rfl⟩⟩ ?_
              · simp only [WN, firstReg, growAll, List.foldl_nil, List.foldl_cons, norm, killS, List.set_cons_zero, List.set_cons_succ, List.map_cons, List.map_nil, List.take_nil, List.take_zero, List.length_nil, growOne, List.getD_cons_zero, List.getD_cons_succ, List.length_cons, List.take_succ_cons, List.nil_append, Nat.reduceLT, Nat.reduceAdd, Nat.zero_add, if_true, F38, L38_15]
                try rfl
              · rintro k st' H' ⟨i, nn, rfl, hC', hset, hi, rfl, hcase⟩
                have hb1 : H'[w]? = some (.cells [.agg [x, .int .i64 ((p + i : Nat) : Int)]]) := hC'
                simp only [L38_15]
                simp only [WW, partV, eqCells, eqLf, minV, maxV, ifcV, List.map_cons, List.map_nil, List.length_cons, List.length_nil, List.getD_cons_zero, List.getD_cons_succ, List.set_cons_zero, List.set_cons_succ, List.set_nil, ofConst, ofConst1, List.replicate, List.cons_append, List.nil_append, loadOp, Go.Abs.loadCells, binV, Int.toNat_natCast, pickV, List.getElem?_cons_zero, List.getElem?_cons_succ, Option.map_some, Option.bind_some, List.drop_zero, List.drop_succ_cons, List.take_succ_cons, List.take_zero, List.length_map, outR, resAll, resOne, if_true, if_false, and_true, true_and, Bool.true_eq_false, Bool.false_eq_true, forall_const, true_implies, false_implies, implies_true, decide_true, decide_false, beq_self_eq_true, Option.getD_some, Nat.zero_add, Nat.add_zero, storeOp, storeCell, overlay, List.take_nil, List.drop_nil, List.append_nil, lookupOp, keyT, okRes, mapUpdateOp, Bool.and_self, Bool.and_true, Bool.true_and, Bool.not_true, Bool.not_false, gt_iff_lt, ge_iff_le, Nat.reduceSub, Nat.reduceAdd, Int.reduceLT, Int.reduceLE, Int.reduceAdd, Int.reduceSub, Int.reduceToNat, Int.reduceBEq, Int.reduceBNe, Int.reduceMul, Nat.reduceBEq, Nat.reduceBNe, Nat.reduceLT, Nat.reduceLeDiff, Nat.reduceMul, Nat.reduceEqDiff, WD, effB, effH, isPriv, isHeap, isImm, Option.any_some, Option.any_none, Option.isSome_none, chkO, setD, dslot, Bool.toNat_true, Bool.toNat_false, Nat.add_zero, Nat.zero_add, List.append_eq, and_self, ptrCells_some, F38]
                refine cSplit (fun hlt => ?_) (fun hge => ?_)
                · have hi2 : i < 2 := by have := of_decide_eq_true hlt; omega
                  simp only [hlt]
                  have hq1 : IntKind.i64.wrap (((p + i : Nat) : Int) + 1) = ((p + (i + 1) : Nat) : Int) := by rw [IntWalk.i64_in _ (by omega)]; omega
                  simp only [WW, partV, eqCells, eqLf, minV, maxV, ifcV, List.map_cons, List.map_nil, List.length_cons, List.length_nil, List.getD_cons_zero, List.getD_cons_succ, List.set_cons_zero, List.set_cons_succ, List.set_nil, ofConst, ofConst1, List.replicate, List.cons_append, List.nil_append, loadOp, Go.Abs.loadCells, binV, Int.toNat_natCast, pickV, List.getElem?_cons_zero, List.getElem?_cons_succ, Option.map_some, Option.bind_some, List.drop_zero, List.drop_succ_cons, List.take_succ_cons, List.take_zero, List.length_map, outR, resAll, resOne, if_true, if_false, and_true, true_and, Bool.true_eq_false, Bool.false_eq_true, forall_const, true_implies, false_implies, implies_true, decide_true, decide_false, beq_self_eq_true, Option.getD_some, Nat.zero_add, Nat.add_zero, storeOp, storeCell, overlay, List.take_nil, List.drop_nil, List.append_nil, lookupOp, keyT, okRes, mapUpdateOp, Bool.and_self, Bool.and_true, Bool.true_and, Bool.not_true, Bool.not_false, gt_iff_lt, ge_iff_le, Nat.reduceSub, Nat.reduceAdd, Int.reduceLT, Int.reduceLE, Int.reduceAdd, Int.reduceSub, Int.reduceToNat, Int.reduceBEq, Int.reduceBNe, Int.reduceMul, Nat.reduceBEq, Nat.reduceBNe, Nat.reduceLT, Nat.reduceLeDiff, Nat.reduceMul, Nat.reduceEqDiff, WD, effB, effH, isPriv, isHeap, isImm, Option.any_some, Option.any_none, Option.isSome_none, chkO, setD, dslot, Bool.toNat_true, Bool.toNat_false, Nat.add_zero, Nat.zero_add, List.append_eq, and_self, ptrCells_some, F38, hb1, hq1, storeHeap, promote, heapSet, elemSet, storeCell, overlay]
                  have hC2 := hC'.to ((p + (i + 1) : Nat) : Int)
                  have hset2 : ∀ b, (H'.set w (ctr x ((p + (i + 1) : Nat) : Int))).set w b = H.set w b := fun b => by rw [List.set_set]; exact hset b
                  have hfold : H'.set w (Blk.cells [V.agg [x, V.int IntKind.i64 ((p + (i + 1) : Nat) : Int)]]) = H'.set w (ctr x ((p + (i + 1) : Nat) : Int)) := rfl
                  rw [hfold]
                  generalize H'.set w (ctr x ((p + (i + 1) : Nat) : Int)) = H2 at hC2 hset2 ⊢
                  have hb2 : H2[w]? = some (.cells [.agg [x, .int .i64 ((p + (i + 1) : Nat) : Int)]]) := hC2
                  have hx2 := (hB.same hset2).rd
                  have hbad : H2 = H.set w (ctr x ((p + (i + 1) : Nat) : Int)) := by rw [← hset2]; exact hC2.self.symm
                  have hn16 : nn < 16 := by
                    rcases hcase with ⟨_, rfl⟩ | ⟨_, a, _, h⟩ | ⟨h, _⟩
                    · omega
                    · exact hexN_lt h
                    · omega
                  refine wC_dr alts38_17 (by kernel_rfl) ?_
                  by_cases hqe : p + (i + 1) = L.length
                  · have he2 : (((p + (i + 1) : Nat) : Int) == (L.length : Int)) = true := by simp; omega
                    simp only [WW, partV, eqCells, eqLf, minV, maxV, ifcV, List.map_cons, List.map_nil, List.length_cons, List.length_nil, List.getD_cons_zero, List.getD_cons_succ, List.set_cons_zero, List.set_cons_succ, List.set_nil, ofConst, ofConst1, List.replicate, List.cons_append, List.nil_append, loadOp, Go.Abs.loadCells, binV, Int.toNat_natCast, pickV, List.getElem?_cons_zero, List.getElem?_cons_succ, Option.map_some, Option.bind_some, List.drop_zero, List.drop_succ_cons, List.take_succ_cons, List.take_zero, List.length_map, outR, resAll, resOne, if_true, if_false, and_true, true_and, Bool.true_eq_false, Bool.false_eq_true, forall_const, true_implies, false_implies, implies_true, decide_true, decide_false, beq_self_eq_true, Option.getD_some, Nat.zero_add, Nat.add_zero, storeOp, storeCell, overlay, List.take_nil, List.drop_nil, List.append_nil, lookupOp, keyT, okRes, mapUpdateOp, Bool.and_self, Bool.and_true, Bool.true_and, Bool.not_true, Bool.not_false, gt_iff_lt, ge_iff_le, Nat.reduceSub, Nat.reduceAdd, Int.reduceLT, Int.reduceLE, Int.reduceAdd, Int.reduceSub, Int.reduceToNat, Int.reduceBEq, Int.reduceBNe, Int.reduceMul, Nat.reduceBEq, Nat.reduceBNe, Nat.reduceLT, Nat.reduceLeDiff, Nat.reduceMul, Nat.reduceEqDiff, WD, effB, effH, isPriv, isHeap, isImm, Option.any_some, Option.any_none, Option.isSome_none, chkO, setD, dslot, Bool.toNat_true, Bool.toNat_false, Nat.add_zero, Nat.zero_add, List.append_eq, and_self, ptrCells_some, F38, hb2, hx2.shutIn, hx2.len, by8_len, alts38_17, he2]
                    have hesc : escS (120 :: L.drop (p + 1)) = .bad (i + 1) := by
                      simp only [escS]
                      rcases hcase with ⟨rfl, rfl⟩ | ⟨rfl, a, ha, h⟩ | ⟨h, _⟩
                      · rw [List.drop_of_length_le (by omega)]; rfl
                      · rw [drop_cons ha, List.drop_of_length_le (by omega)]
                        simp [h]
                      · omega
                    rw [hesc]
                    exact ⟨rfl, hbad⟩
                  · have he2 : (((p + (i + 1) : Nat) : Int) == (L.length : Int)) = false := by rw [beq_eq_false_iff_ne]; omega
                    have hqlt : p + (i + 1) < L.length := by
                      rcases hcase with ⟨rfl, rfl⟩ | ⟨rfl, a, ha, h⟩ | ⟨h, _⟩
                      · omega
                      · have := (List.getElem?_eq_some_iff.1 ha).1; omega
                      · omega
                    have hc2 : L[p + (i + 1)]? = some L[p + (i + 1)] := List.getElem?_eq_getElem hqlt
                    generalize L[p + (i + 1)] = a at hc2
                    have hc28 : (by8 L)[p + (i + 1)]? = some (byteV a) := by simp [by8, hc2]
                    have hat2 := hx2.at_ (sz := 1) hc28 rfl
                    simp only [WW, partV, eqCells, eqLf, minV, maxV, ifcV, List.map_cons, List.map_nil, List.length_cons, List.length_nil, List.getD_cons_zero, List.getD_cons_succ, List.set_cons_zero, List.set_cons_succ, List.set_nil, ofConst, ofConst1, List.replicate, List.cons_append, List.nil_append, loadOp, Go.Abs.loadCells, binV, Int.toNat_natCast, pickV, List.getElem?_cons_zero, List.getElem?_cons_succ, Option.map_some, Option.bind_some, List.drop_zero, List.drop_succ_cons, List.take_succ_cons, List.take_zero, List.length_map, outR, resAll, resOne, if_true, if_false, and_true, true_and, Bool.true_eq_false, Bool.false_eq_true, forall_const, true_implies, false_implies, implies_true, decide_true, decide_false, beq_self_eq_true, Option.getD_some, Nat.zero_add, Nat.add_zero, storeOp, storeCell, overlay, List.take_nil, List.drop_nil, List.append_nil, lookupOp, keyT, okRes, mapUpdateOp, Bool.and_self, Bool.and_true, Bool.true_and, Bool.not_true, Bool.not_false, gt_iff_lt, ge_iff_le, Nat.reduceSub, Nat.reduceAdd, Int.reduceLT, Int.reduceLE, Int.reduceAdd, Int.reduceSub, Int.reduceToNat, Int.reduceBEq, Int.reduceBNe, Int.reduceMul, Nat.reduceBEq, Nat.reduceBNe, Nat.reduceLT, Nat.reduceLeDiff, Nat.reduceMul, Nat.reduceEqDiff, WD, effB, effH, isPriv, isHeap, isImm, Option.any_some, Option.any_none, Option.isSome_none, chkO, setD, dslot, Bool.toNat_true, Bool.toNat_false, Nat.add_zero, Nat.zero_add, List.append_eq, and_self, ptrCells_some, F38, hb2, hx2.shutIn, hx2.len, by8_len, alts38_17, he2, hat2.at1 hx2, hat2.cells, byteV]
                    rw [wpCall_eq (hexit_eq a _)]
                    cases hh : hexN a with
                    | none =>
                      have hI : hexI a = -1 := by unfold hexI; rw [hh]
                      simp only [WW, partV, eqCells, eqLf, minV, maxV, ifcV, List.map_cons, List.map_nil, List.length_cons, List.length_nil, List.getD_cons_zero, List.getD_cons_succ, List.set_cons_zero, List.set_cons_succ, List.set_nil, ofConst, ofConst1, List.replicate, List.cons_append, List.nil_append, loadOp, Go.Abs.loadCells, binV, Int.toNat_natCast, pickV, List.getElem?_cons_zero, List.getElem?_cons_succ, Option.map_some, Option.bind_some, List.drop_zero, List.drop_succ_cons, List.take_succ_cons, List.take_zero, List.length_map, outR, resAll, resOne, if_true, if_false, and_true, true_and, Bool.true_eq_false, Bool.false_eq_true, forall_const, true_implies, false_implies, implies_true, decide_true, decide_false, beq_self_eq_true, Option.getD_some, Nat.zero_add, Nat.add_zero, storeOp, storeCell, overlay, List.take_nil, List.drop_nil, List.append_nil, lookupOp, keyT, okRes, mapUpdateOp, Bool.and_self, Bool.and_true, Bool.true_and, Bool.not_true, Bool.not_false, gt_iff_lt, ge_iff_le, Nat.reduceSub, Nat.reduceAdd, Int.reduceLT, Int.reduceLE, Int.reduceAdd, Int.reduceSub, Int.reduceToNat, Int.reduceBEq, Int.reduceBNe, Int.reduceMul, Nat.reduceBEq, Nat.reduceBNe, Nat.reduceLT, Nat.reduceLeDiff, Nat.reduceMul, Nat.reduceEqDiff, WD, effB, effH, isPriv, isHeap, isImm, Option.any_some, Option.any_none, Option.isSome_none, chkO, setD, dslot, Bool.toNat_true, Bool.toNat_false, Nat.add_zero, Nat.zero_add, List.append_eq, and_self, ptrCells_some, F38, hb2, hx2.shutIn, hx2.len, by8_len, alts38_17, he2, hat2.at1 hx2, hat2.cells, byteV, hI]
                      have hesc : escS (120 :: L.drop (p + 1)) = .bad (i + 1) := by
                        simp only [escS]
                        rcases hcase with ⟨rfl, rfl⟩ | ⟨rfl, a', ha, h⟩ | ⟨h, _⟩
                        · rw [drop_cons hc2]; simp [hh]
                        · rw [drop_cons ha, drop_cons hc2]; simp [hh, h]
                        · omega
                      rw [hesc]
                      exact ⟨rfl, hbad⟩
                    | some m =>
                      have hI : hexI a = m := by unfold hexI; rw [hh]
                      have hm := hexN_lt hh
                      have hneg : decide ((m : Int) < 0) = false := decide_eq_false (by omega)
                      have hw1 : IntKind.i64.wrap (16 * (nn : Int)) = ((16 * nn : Nat) : Int) := by rw [IntWalk.i64_in _ (by omega)]; omega
                      have hw2 : IntKind.i64.wrap (((16 * nn : Nat) : Int) + (m : Int)) = ((16 * nn + m : Nat) : Int) := by rw [IntWalk.i64_in _ (by omega)]; omega
                      have hi1 : IntKind.i64.wrap ((i : Int) + 1) = ((i + 1 : Nat) : Int) := by rw [IntWalk.i64_in _ (by omega)]; omega
                      simp only [WW, partV, eqCells, eqLf, minV, maxV, ifcV, List.map_cons, List.map_nil, List.length_cons, List.length_nil, List.getD_cons_zero, List.getD_cons_succ, List.set_cons_zero, List.set_cons_succ, List.set_nil, ofConst, ofConst1, List.replicate, List.cons_append, List.nil_append, loadOp, Go.Abs.loadCells, binV, Int.toNat_natCast, pickV, List.getElem?_cons_zero, List.getElem?_cons_succ, Option.map_some, Option.bind_some, List.drop_zero, List.drop_succ_cons, List.take_succ_cons, List.take_zero, List.length_map, outR, resAll, resOne, if_true, if_false, and_true, true_and, Bool.true_eq_false, Bool.false_eq_true, forall_const, true_implies, false_implies, implies_true, decide_true, decide_false, beq_self_eq_true, Option.getD_some, Nat.zero_add, Nat.add_zero, storeOp, storeCell, overlay, List.take_nil, List.drop_nil, List.append_nil, lookupOp, keyT, okRes, mapUpdateOp, Bool.and_self, Bool.and_true, Bool.true_and, Bool.not_true, Bool.not_false, gt_iff_lt, ge_iff_le, Nat.reduceSub, Nat.reduceAdd, Int.reduceLT, Int.reduceLE, Int.reduceAdd, Int.reduceSub, Int.reduceToNat, Int.reduceBEq, Int.reduceBNe, Int.reduceMul, Nat.reduceBEq, Nat.reduceBNe, Nat.reduceLT, Nat.reduceLeDiff, Nat.reduceMul, Nat.reduceEqDiff, WD, effB, effH, isPriv, isHeap, isImm, Option.any_some, Option.any_none, Option.isSome_none, chkO, setD, dslot, Bool.toNat_true, Bool.toNat_false, Nat.add_zero, Nat.zero_add, List.append_eq, and_self, ptrCells_some, F38, hb2, hx2.shutIn, hx2.len, by8_len, alts38_17, he2, hat2.at1 hx2, hat2.cells, byteV, hI, hneg]
                      refine wC_dr alts38_19 (by kernel_rfl) ?_
                      simp only [WW, partV, eqCells, eqLf, minV, maxV, ifcV, List.map_cons, List.map_nil, List.length_cons, List.length_nil, List.getD_cons_zero, List.getD_cons_succ, List.set_cons_zero, List.set_cons_succ, List.set_nil, ofConst, ofConst1, List.replicate, List.cons_append, List.nil_append, loadOp, Go.Abs.loadCells, binV, Int.toNat_natCast, pickV, List.getElem?_cons_zero, List.getElem?_cons_succ, Option.map_some, Option.bind_some, List.drop_zero, List.drop_succ_cons, List.take_succ_cons, List.take_zero, List.length_map, outR, resAll, resOne, if_true, if_false, and_true, true_and, Bool.true_eq_false, Bool.false_eq_true, forall_const, true_implies, false_implies, implies_true, decide_true, decide_false, beq_self_eq_true, Option.getD_some, Nat.zero_add, Nat.add_zero, storeOp, storeCell, overlay, List.take_nil, List.drop_nil, List.append_nil, lookupOp, keyT, okRes, mapUpdateOp, Bool.and_self, Bool.and_true, Bool.true_and, Bool.not_true, Bool.not_false, gt_iff_lt, ge_iff_le, Nat.reduceSub, Nat.reduceAdd, Int.reduceLT, Int.reduceLE, Int.reduceAdd, Int.reduceSub, Int.reduceToNat, Int.reduceBEq, Int.reduceBNe, Int.reduceMul, Nat.reduceBEq, Nat.reduceBNe, Nat.reduceLT, Nat.reduceLeDiff, Nat.reduceMul, Nat.reduceEqDiff, WD, effB, effH, isPriv, isHeap, isImm, Option.any_some, Option.any_none, Option.isSome_none, chkO, setD, dslot, Bool.toNat_true, Bool.toNat_false, Nat.add_zero, Nat.zero_add, List.append_eq, and_self, ptrCells_some, F38, hb2, hx2.shutIn, hx2.len, by8_len, alts38_19, he2, hat2.at1 hx2, hat2.cells, byteV, hI, hneg, hw1]
                      rw [wpCall_eq (hexit_eq a _)]
                      simp only [WW, partV, eqCells, eqLf, minV, maxV, ifcV, List.map_cons, List.map_nil, List.length_cons, List.length_nil, List.getD_cons_zero, List.getD_cons_succ, List.set_cons_zero, List.set_cons_succ, List.set_nil, ofConst, ofConst1, List.replicate, List.cons_append, List.nil_append, loadOp, Go.Abs.loadCells, binV, Int.toNat_natCast, pickV, List.getElem?_cons_zero, List.getElem?_cons_succ, Option.map_some, Option.bind_some, List.drop_zero, List.drop_succ_cons, List.take_succ_cons, List.take_zero, List.length_map, outR, resAll, resOne, if_true, if_false, and_true, true_and, Bool.true_eq_false, Bool.false_eq_true, forall_const, true_implies, false_implies, implies_true, decide_true, decide_false, beq_self_eq_true, Option.getD_some, Nat.zero_add, Nat.add_zero, storeOp, storeCell, overlay, List.take_nil, List.drop_nil, List.append_nil, lookupOp, keyT, okRes, mapUpdateOp, Bool.and_self, Bool.and_true, Bool.true_and, Bool.not_true, Bool.not_false, gt_iff_lt, ge_iff_le, Nat.reduceSub, Nat.reduceAdd, Int.reduceLT, Int.reduceLE, Int.reduceAdd, Int.reduceSub, Int.reduceToNat, Int.reduceBEq, Int.reduceBNe, Int.reduceMul, Nat.reduceBEq, Nat.reduceBNe, Nat.reduceLT, Nat.reduceLeDiff, Nat.reduceMul, Nat.reduceEqDiff, WD, effB, effH, isPriv, isHeap, isImm, Option.any_some, Option.any_none, Option.isSome_none, chkO, setD, dslot, Bool.toNat_true, Bool.toNat_false, Nat.add_zero, Nat.zero_add, List.append_eq, and_self, ptrCells_some, F38, hb2, hx2.shutIn, hx2.len, by8_len, alts38_19, he2, hat2.at1 hx2, hat2.cells, byteV, hI, hneg, hw1, hw2, hi1]
                      refine ⟨2 - (i + 1), by omega, i + 1, 16 * nn + m, ?_, hC2, hset2, by omega, rfl, ?_⟩
                      · simp only [WN, firstReg, growAll, List.foldl_nil, List.foldl_cons, norm, killS, List.set_cons_zero, List.set_cons_succ, List.map_cons, List.map_nil, List.take_nil, List.take_zero, List.length_nil, growOne, List.getD_cons_zero, List.getD_cons_succ, List.length_cons, List.take_succ_cons, List.nil_append, Nat.reduceLT, Nat.reduceAdd, Nat.zero_add, if_true, F38, hi1]
                        try rfl
                      · rcases hcase with ⟨rfl, rfl⟩ | ⟨rfl, a', ha, h⟩ | ⟨h, _⟩
                        · exact .inr (.inl ⟨rfl, a, hc2, by rw [hh]; simp⟩)
                        · exact .inr (.inr ⟨rfl, a', a, nn, m, ha, h, hc2, hh, rfl⟩)
                        · omega
                · have hi2 : i = 2 := by have := of_decide_eq_false hge; omega
                  subst hi2
                  rcases hcase with ⟨h, _⟩ | ⟨h, _⟩ | ⟨_, a, b, m1, m2, ha, hm1, hb, hm2, rfl⟩
                  · omega
                  · omega
                  · have := hexN_lt hm1
                    have := hexN_lt hm2
                    have hw8 : IntKind.u8.wrap ((16 * m1 + m2 : Nat) : Int) = (((UInt8.ofNat (16 * m1 + m2)).toNat : Nat) : Int) := by
                      rw [u8wrap (by omega)]; simp; omega
                    have hq1 : IntKind.i64.wrap (((p + 2 : Nat) : Int) + 1) = ((p + 3 : Nat) : Int) := by rw [IntWalk.i64_in _ (by omega)]; omega
                    simp only [hge]
                    simp only [WW, partV, eqCells, eqLf, minV, maxV, ifcV, List.map_cons, List.map_nil, List.length_cons, List.length_nil, List.getD_cons_zero, List.getD_cons_succ, List.set_cons_zero, List.set_cons_succ, List.set_nil, ofConst, ofConst1, List.replicate, List.cons_append, List.nil_append, loadOp, Go.Abs.loadCells, binV, Int.toNat_natCast, pickV, List.getElem?_cons_zero, List.getElem?_cons_succ, Option.map_some, Option.bind_some, List.drop_zero, List.drop_succ_cons, List.take_succ_cons, List.take_zero, List.length_map, outR, resAll, resOne, if_true, if_false, and_true, true_and, Bool.true_eq_false, Bool.false_eq_true, forall_const, true_implies, false_implies, implies_true, decide_true, decide_false, beq_self_eq_true, Option.getD_some, Nat.zero_add, Nat.add_zero, storeOp, storeCell, overlay, List.take_nil, List.drop_nil, List.append_nil, lookupOp, keyT, okRes, mapUpdateOp, Bool.and_self, Bool.and_true, Bool.true_and, Bool.not_true, Bool.not_false, gt_iff_lt, ge_iff_le, Nat.reduceSub, Nat.reduceAdd, Int.reduceLT, Int.reduceLE, Int.reduceAdd, Int.reduceSub, Int.reduceToNat, Int.reduceBEq, Int.reduceBNe, Int.reduceMul, Nat.reduceBEq, Nat.reduceBNe, Nat.reduceLT, Nat.reduceLeDiff, Nat.reduceMul, Nat.reduceEqDiff, WD, effB, effH, isPriv, isHeap, isImm, Option.any_some, Option.any_none, Option.isSome_none, chkO, setD, dslot, Bool.toNat_true, Bool.toNat_false, Nat.add_zero, Nat.zero_add, List.append_eq, and_self, ptrCells_some, F38, conv35, hw8, hb1, hq1, storeHeap, promote, heapSet, elemSet, storeCell, overlay]
                    have hesc : escS (120 :: L.drop (p + 1)) = .ok (UInt8.ofNat (16 * m1 + m2)) 3 := by
                      simp only [escS]
                      rw [drop_cons ha, drop_cons hb]
                      simp [hm1, hm2]
                    rw [hesc]
                    exact ⟨rfl, hset _⟩
end Go.Proofs.YtcmndnkeoepmoaaDoor

namespace Go.Proofs.YtcmndnkeoepmoaaDoor
open Go Go.Abs Go.Proofs
set_option maxRecDepth 100000
set_option maxHeartbeats 1000000
set_option linter.unusedVariables false
set_option linter.unusedSimpArgs false
theorem bx_row (o : List UInt8) : Bx (rowV true (by8 o) o.length) o := by
  unfold rowV
  cases o with
  | nil => exact .inl ⟨rfl, rfl⟩
  | cons a b =>
    rw [if_neg (by simp)]
    exact .inr (by rw [List.take_of_length_le (by simp [by8])])
theorem text_one {c : UInt8} {r out : List UInt8} {o : Nat} (h10 : c ≠ 10) (h34 : c ≠ 34) (h92 : c ≠ 92) : textS (c :: r) out o = textS r (out ++ [c]) (o + 1) := by
  rw [textS.eq_def]
  simp only
  rw [if_neg h10, if_neg h34, if_pos h92]
theorem escS_len {R : List UInt8} {b : UInt8} {len : Nat} (h : escS R = .ok b len) : 1 ≤ len ∧ len ≤ R.length := by
  match R with
  | [] => cases h
  | d :: r1 =>
    simp only [escS] at h
    split at h
    · match r1, h with
      | [], h => cases h
      | a :: r2, h =>
        simp only at h
        split at h
        · cases h
        match r2, h with
        | [], h => cases h
        | b :: r3, h =>
          simp only at h
          split at h
          · cases h
          · cases h; simp
    · split at h
      · cases h; simp
      · cases h
theorem text_spec {H : Hp} {w : Nat} {x : V} {L : List UInt8} {p : Nat} {r : List UInt8} (hB : By H w x L) (hC : Ct H w x p) (hcr : L.drop p = 34 :: r) (hL : L.length ≤ 65536) :
    wpCall EW 33 [.ptr w 0 0] H (nxR H w x p (textS r [] 1)) := by
  have hp : p < L.length := by
    have := congrArg List.length hcr
    simp at this; omega
  have hr : L.drop (p + 1) = r := by
    rw [← List.drop_drop, hcr]; rfl
  have hb0 : H[w]? = some (.cells [.agg [x, .int .i64 (p : Int)]]) := hC
  have hp1 : IntKind.i64.wrap ((p : Int) + 1) = ((p + 1 : Nat) : Int) := by rw [IntWalk.i64_in _ (by omega)]; omega
  refine runs f33 b33 r33 n33 _ _ ?_
  simp only [bodyOf, Tryd.f33, Option.getD_some]
  simp only [WW, partV, eqCells, eqLf, minV, maxV, ifcV, List.map_cons, List.map_nil, List.length_cons, List.length_nil, List.getD_cons_zero, List.getD_cons_succ, List.set_cons_zero, List.set_cons_succ, List.set_nil, ofConst, ofConst1, List.replicate, List.cons_append, List.nil_append, loadOp, Go.Abs.loadCells, binV, Int.toNat_natCast, pickV, List.getElem?_cons_zero, List.getElem?_cons_succ, Option.map_some, Option.bind_some, List.drop_zero, List.drop_succ_cons, List.take_succ_cons, List.take_zero, List.length_map, outR, resAll, resOne, if_true, if_false, and_true, true_and, Bool.true_eq_false, Bool.false_eq_true, forall_const, true_implies, false_implies, implies_true, decide_true, decide_false, beq_self_eq_true, Option.getD_some, Nat.zero_add, Nat.add_zero, storeOp, storeCell, overlay, List.take_nil, List.drop_nil, List.append_nil, lookupOp, keyT, okRes, mapUpdateOp, Bool.and_self, Bool.and_true, Bool.true_and, Bool.not_true, Bool.not_false, gt_iff_lt, ge_iff_le, Nat.reduceSub, Nat.reduceAdd, Int.reduceLT, Int.reduceLE, Int.reduceAdd, Int.reduceSub, Int.reduceToNat, Int.reduceBEq, Int.reduceBNe, Int.reduceMul, Nat.reduceBEq, Nat.reduceBNe, Nat.reduceLT, Nat.reduceLeDiff, Nat.reduceMul, Nat.reduceEqDiff, WD, effB, effH, isPriv, isHeap, isImm, Option.any_some, Option.any_none, Option.isSome_none, chkO, setD, dslot, Bool.toNat_true, Bool.toNat_false, Nat.add_zero, Nat.zero_add, List.append_eq, and_self, ptrCells_some, F33, hb0, hp1, buildOp, fillV, Lay.place, Bool.or_self, Bool.or_false, Bool.false_or, decide_not, ne_eq, not_true_eq_false, Bool.not_true, Bool.not_false, decide_eq_true_eq, Nat.lt_irrefl, gt_iff_lt, storeHeap, promote, heapSet, elemSet, storeCell, overlay]
  have hC1 := hC.to ((p + 1 : Nat) : Int)
  have hset1 : ∀ b, (H.set w (ctr x ((p + 1 : Nat) : Int))).set w b = H.set w b := fun b => List.set_set ..
  have hfold : H.set w (Blk.cells [V.agg [x, V.int IntKind.i64 ((p + 1 : Nat) : Int)]]) = H.set w (ctr x ((p + 1 : Nat) : Int)) := rfl
  rw [hfold]
  generalize H.set w (ctr x ((p + 1 : Nat) : Int)) = H1 at hC1 hset1 ⊢
  refine wC_loop _ (fun k st' H' => ∃ (i : Nat) (out : List UInt8), st' = ⟨L33_4 (.v (.ptr w 0 0)) (.box 0) (.box 1) (.v (.lr 0 out.length)), [[.int .i64 0, .str ByteArray.empty, .int .i64 0, .int .i64 0], [.int .i64 4, .str ByteArray.empty, .int .i64 0, .int .i64 (p : Int)]], [⟨true, true, by8 out⟩]⟩ ∧ Ct H' w x (i : Int) ∧ (∀ b, H'.set w b = H.set w b) ∧ k = L.length - i ∧ p < i ∧ i ≤ L.length ∧ out.length ≤ i ∧ textS (L.drop i) out (i - p) = textS r [] 1) (L.length - (p + 1)) ⟨p + 1, [], ?_, hC1, hset1, rfl, by omega, by omega, by simp, by rw [hr]; congr 1; omega⟩ ?_
  · simp only [WN, firstReg, growAll, List.foldl_nil, List.foldl_cons, norm, killS, List.set_cons_zero, List.set_cons_succ, List.map_cons, List.map_nil, List.take_nil, List.take_zero, List.length_nil, growOne, List.getD_cons_zero, List.getD_cons_succ, List.length_cons, List.take_succ_cons, List.nil_append, Nat.reduceLT, Nat.reduceAdd, Nat.zero_add, if_true, F33, L33_4]
    rfl
  · rintro k st' H' ⟨i, out, rfl, hC', hset, rfl, hpi, hi, hol, hs⟩
    simp only [L33_4]
    have hx := (hB.same hset).rd
    have hb : H'[w]? = some (.cells [.agg [x, .int .i64 (i : Int)]]) := hC'
    have hself' : H' = H.set w (ctr x (i : Int)) := by rw [← hset]; exact hC'.self.symm
    have hpi2 : p + (i - p) = i := by omega
    simp only [WW, partV, eqCells, eqLf, minV, maxV, ifcV, List.map_cons, List.map_nil, List.length_cons, List.length_nil, List.getD_cons_zero, List.getD_cons_succ, List.set_cons_zero, List.set_cons_succ, List.set_nil, ofConst, ofConst1, List.replicate, List.cons_append, List.nil_append, loadOp, Go.Abs.loadCells, binV, Int.toNat_natCast, pickV, List.getElem?_cons_zero, List.getElem?_cons_succ, Option.map_some, Option.bind_some, List.drop_zero, List.drop_succ_cons, List.take_succ_cons, List.take_zero, List.length_map, outR, resAll, resOne, if_true, if_false, and_true, true_and, Bool.true_eq_false, Bool.false_eq_true, forall_const, true_implies, false_implies, implies_true, decide_true, decide_false, beq_self_eq_true, Option.getD_some, Nat.zero_add, Nat.add_zero, storeOp, storeCell, overlay, List.take_nil, List.drop_nil, List.append_nil, lookupOp, keyT, okRes, mapUpdateOp, Bool.and_self, Bool.and_true, Bool.true_and, Bool.not_true, Bool.not_false, gt_iff_lt, ge_iff_le, Nat.reduceSub, Nat.reduceAdd, Int.reduceLT, Int.reduceLE, Int.reduceAdd, Int.reduceSub, Int.reduceToNat, Int.reduceBEq, Int.reduceBNe, Int.reduceMul, Nat.reduceBEq, Nat.reduceBNe, Nat.reduceLT, Nat.reduceLeDiff, Nat.reduceMul, Nat.reduceEqDiff, WD, effB, effH, isPriv, isHeap, isImm, Option.any_some, Option.any_none, Option.isSome_none, chkO, setD, dslot, Bool.toNat_true, Bool.toNat_false, Nat.add_zero, Nat.zero_add, List.append_eq, and_self, ptrCells_some, F33]
    refine wC_dr alts33_4 (by kernel_rfl) ?_
    simp only [WW, partV, eqCells, eqLf, minV, maxV, ifcV, List.map_cons, List.map_nil, List.length_cons, List.length_nil, List.getD_cons_zero, List.getD_cons_succ, List.set_cons_zero, List.set_cons_succ, List.set_nil, ofConst, ofConst1, List.replicate, List.cons_append, List.nil_append, loadOp, Go.Abs.loadCells, binV, Int.toNat_natCast, pickV, List.getElem?_cons_zero, List.getElem?_cons_succ, Option.map_some, Option.bind_some, List.drop_zero, List.drop_succ_cons, List.take_succ_cons, List.take_zero, List.length_map, outR, resAll, resOne, if_true, if_false, and_true, true_and, Bool.true_eq_false, Bool.false_eq_true, forall_const, true_implies, false_implies, implies_true, decide_true, decide_false, beq_self_eq_true, Option.getD_some, Nat.zero_add, Nat.add_zero, storeOp, storeCell, overlay, List.take_nil, List.drop_nil, List.append_nil, lookupOp, keyT, okRes, mapUpdateOp, Bool.and_self, Bool.and_true, Bool.true_and, Bool.not_true, Bool.not_false, gt_iff_lt, ge_iff_le, Nat.reduceSub, Nat.reduceAdd, Int.reduceLT, Int.reduceLE, Int.reduceAdd, Int.reduceSub, Int.reduceToNat, Int.reduceBEq, Int.reduceBNe, Int.reduceMul, Nat.reduceBEq, Nat.reduceBNe, Nat.reduceLT, Nat.reduceLeDiff, Nat.reduceMul, Nat.reduceEqDiff, WD, effB, effH, isPriv, isHeap, isImm, Option.any_some, Option.any_none, Option.isSome_none, chkO, setD, dslot, Bool.toNat_true, Bool.toNat_false, Nat.add_zero, Nat.zero_add, List.append_eq, and_self, ptrCells_some, F33, hb, hx.shutIn, hx.len, by8_len, alts33_4]
    refine cSplit (fun hlt => ?_) (fun hge => ?_)
    · have hi2 : i < L.length := by have := of_decide_eq_true hlt; omega
      have hc : L[i]? = some L[i] := List.getElem?_eq_getElem hi2
      generalize L[i] = c at hc
      have hc8 : (by8 L)[i]? = some (byteV c) := by simp [by8, hc]
      have hat := hx.at_ (sz := 1) hc8 rfl
      rw [drop_cons hc] at hs
      have hq1 : IntKind.i64.wrap ((i : Int) + 1) = ((i + 1 : Nat) : Int) := by rw [IntWalk.i64_in _ (by omega)]; omega
      have e10 : (((c.toNat : Nat) : Int) == 10) = (c == 10) := u8b c 10
      have e34 : (((c.toNat : Nat) : Int) == 34) = (c == 34) := u8b c 34
      have e92 : (((c.toNat : Nat) : Int) == 92) = (c == 92) := u8b c 92
      have h40 : ∀ a b : V, wideAll [V.int .u8 (c.toNat : Int)] 1 = true := fun _ _ => rfl
      have hw1 : wideAll [V.int .u8 (c.toNat : Int)] 1 = true := rfl
      have hwo : wideAll (by8 out) 1 = true := wide_by8 out
      have q1 : (out.length == (by8 out).length) = true := by simp [by8]
      have q2 : decide ((out.length + 1) * 1 ≤ 70368744177664) = true := by simp; omega
      have q3 : decide (out.length ≤ 4611686018427387903) = true := by simp; omega
      have q4 : decide (out.length + 1 ≤ 70368744177664) = true := by simp; omega
      simp only [hlt]
      simp only [WW, partV, eqCells, eqLf, minV, maxV, ifcV, List.map_cons, List.map_nil, List.length_cons, List.length_nil, List.getD_cons_zero, List.getD_cons_succ, List.set_cons_zero, List.set_cons_succ, List.set_nil, ofConst, ofConst1, List.replicate, List.cons_append, List.nil_append, loadOp, Go.Abs.loadCells, binV, Int.toNat_natCast, pickV, List.getElem?_cons_zero, List.getElem?_cons_succ, Option.map_some, Option.bind_some, List.drop_zero, List.drop_succ_cons, List.take_succ_cons, List.take_zero, List.length_map, outR, resAll, resOne, if_true, if_false, and_true, true_and, Bool.true_eq_false, Bool.false_eq_true, forall_const, true_implies, false_implies, implies_true, decide_true, decide_false, beq_self_eq_true, Option.getD_some, Nat.zero_add, Nat.add_zero, storeOp, storeCell, overlay, List.take_nil, List.drop_nil, List.append_nil, lookupOp, keyT, okRes, mapUpdateOp, Bool.and_self, Bool.and_true, Bool.true_and, Bool.not_true, Bool.not_false, gt_iff_lt, ge_iff_le, Nat.reduceSub, Nat.reduceAdd, Int.reduceLT, Int.reduceLE, Int.reduceAdd, Int.reduceSub, Int.reduceToNat, Int.reduceBEq, Int.reduceBNe, Int.reduceMul, Nat.reduceBEq, Nat.reduceBNe, Nat.reduceLT, Nat.reduceLeDiff, Nat.reduceMul, Nat.reduceEqDiff, WD, effB, effH, isPriv, isHeap, isImm, Option.any_some, Option.any_none, Option.isSome_none, chkO, setD, dslot, Bool.toNat_true, Bool.toNat_false, Nat.add_zero, Nat.zero_add, List.append_eq, and_self, ptrCells_some, F33]
      refine wC_dr alts33_5 (by kernel_rfl) ?_
      simp only [WW, partV, eqCells, eqLf, minV, maxV, ifcV, List.map_cons, List.map_nil, List.length_cons, List.length_nil, List.getD_cons_zero, List.getD_cons_succ, List.set_cons_zero, List.set_cons_succ, List.set_nil, ofConst, ofConst1, List.replicate, List.cons_append, List.nil_append, loadOp, Go.Abs.loadCells, binV, Int.toNat_natCast, pickV, List.getElem?_cons_zero, List.getElem?_cons_succ, Option.map_some, Option.bind_some, List.drop_zero, List.drop_succ_cons, List.take_succ_cons, List.take_zero, List.length_map, outR, resAll, resOne, if_true, if_false, and_true, true_and, Bool.true_eq_false, Bool.false_eq_true, forall_const, true_implies, false_implies, implies_true, decide_true, decide_false, beq_self_eq_true, Option.getD_some, Nat.zero_add, Nat.add_zero, storeOp, storeCell, overlay, List.take_nil, List.drop_nil, List.append_nil, lookupOp, keyT, okRes, mapUpdateOp, Bool.and_self, Bool.and_true, Bool.true_and, Bool.not_true, Bool.not_false, gt_iff_lt, ge_iff_le, Nat.reduceSub, Nat.reduceAdd, Int.reduceLT, Int.reduceLE, Int.reduceAdd, Int.reduceSub, Int.reduceToNat, Int.reduceBEq, Int.reduceBNe, Int.reduceMul, Nat.reduceBEq, Nat.reduceBNe, Nat.reduceLT, Nat.reduceLeDiff, Nat.reduceMul, Nat.reduceEqDiff, WD, effB, effH, isPriv, isHeap, isImm, Option.any_some, Option.any_none, Option.isSome_none, chkO, setD, dslot, Bool.toNat_true, Bool.toNat_false, Nat.add_zero, Nat.zero_add, List.append_eq, and_self, ptrCells_some, F33, hb, hx.shutIn, hat.at1 hx, hat.cells, byteV, alts33_5]
      cases h10 : (c == 10) with
      | true =>
        obtain rfl : c = 10 := by simpa using h10
        have ht : textS (10 :: L.drop (i + 1)) out (i - p) = .bad 6 (i - p) := by rw [textS.eq_def]; rfl
        rw [ht] at hs
        simp only [WW, partV, eqCells, eqLf, minV, maxV, ifcV, List.map_cons, List.map_nil, List.length_cons, List.length_nil, List.getD_cons_zero, List.getD_cons_succ, List.set_cons_zero, List.set_cons_succ, List.set_nil, ofConst, ofConst1, List.replicate, List.cons_append, List.nil_append, loadOp, Go.Abs.loadCells, binV, Int.toNat_natCast, pickV, List.getElem?_cons_zero, List.getElem?_cons_succ, Option.map_some, Option.bind_some, List.drop_zero, List.drop_succ_cons, List.take_succ_cons, List.take_zero, List.length_map, outR, resAll, resOne, if_true, if_false, and_true, true_and, Bool.true_eq_false, Bool.false_eq_true, forall_const, true_implies, false_implies, implies_true, decide_true, decide_false, beq_self_eq_true, Option.getD_some, Nat.zero_add, Nat.add_zero, storeOp, storeCell, overlay, List.take_nil, List.drop_nil, List.append_nil, lookupOp, keyT, okRes, mapUpdateOp, Bool.and_self, Bool.and_true, Bool.true_and, Bool.not_true, Bool.not_false, gt_iff_lt, ge_iff_le, Nat.reduceSub, Nat.reduceAdd, Int.reduceLT, Int.reduceLE, Int.reduceAdd, Int.reduceSub, Int.reduceToNat, Int.reduceBEq, Int.reduceBNe, Int.reduceMul, Nat.reduceBEq, Nat.reduceBNe, Nat.reduceLT, Nat.reduceLeDiff, Nat.reduceMul, Nat.reduceEqDiff, WD, effB, effH, isPriv, isHeap, isImm, Option.any_some, Option.any_none, Option.isSome_none, chkO, setD, dslot, Bool.toNat_true, Bool.toNat_false, Nat.add_zero, Nat.zero_add, List.append_eq, and_self, ptrCells_some, F33, e10, h10, storeCell, overlay]
        rw [← hs]
        exact ⟨⟨⟨4, [], 0, p⟩, rfl⟩, by rw [hpi2]; exact hself'⟩
      | false =>
        have n10 : c ≠ 10 := by simpa using h10
        cases h34 : (c == 34) with
        | true =>
          obtain rfl : c = 34 := by simpa using h34
          have ht : textS (34 :: L.drop (i + 1)) out (i - p) = .tok 4 out 0 (i - p + 1) := by rw [textS.eq_def]; rfl
          rw [ht] at hs
          have hbx := bx_row out
          simp only [WW, partV, eqCells, eqLf, minV, maxV, ifcV, List.map_cons, List.map_nil, List.length_cons, List.length_nil, List.getD_cons_zero, List.getD_cons_succ, List.set_cons_zero, List.set_cons_succ, List.set_nil, ofConst, ofConst1, List.replicate, List.cons_append, List.nil_append, loadOp, Go.Abs.loadCells, binV, Int.toNat_natCast, pickV, List.getElem?_cons_zero, List.getElem?_cons_succ, Option.map_some, Option.bind_some, List.drop_zero, List.drop_succ_cons, List.take_succ_cons, List.take_zero, List.length_map, outR, resAll, resOne, if_true, if_false, and_true, true_and, Bool.true_eq_false, Bool.false_eq_true, forall_const, true_implies, false_implies, implies_true, decide_true, decide_false, beq_self_eq_true, Option.getD_some, Nat.zero_add, Nat.add_zero, storeOp, storeCell, overlay, List.take_nil, List.drop_nil, List.append_nil, lookupOp, keyT, okRes, mapUpdateOp, Bool.and_self, Bool.and_true, Bool.true_and, Bool.not_true, Bool.not_false, gt_iff_lt, ge_iff_le, Nat.reduceSub, Nat.reduceAdd, Int.reduceLT, Int.reduceLE, Int.reduceAdd, Int.reduceSub, Int.reduceToNat, Int.reduceBEq, Int.reduceBNe, Int.reduceMul, Nat.reduceBEq, Nat.reduceBNe, Nat.reduceLT, Nat.reduceLeDiff, Nat.reduceMul, Nat.reduceEqDiff, WD, effB, effH, isPriv, isHeap, isImm, Option.any_some, Option.any_none, Option.isSome_none, chkO, setD, dslot, Bool.toNat_true, Bool.toNat_false, Nat.add_zero, Nat.zero_add, List.append_eq, and_self, ptrCells_some, F33, e10, h10, e34, h34, hb, hq1, storeHeap, promote, heapSet, elemSet, storeCell, overlay, str_of hbx, seal_lr]
          rw [← hs]
          exact ⟨rfl, by rw [show p + (i - p + 1) = i + 1 by omega]; exact hset _⟩
        | false =>
          have n34 : c ≠ 34 := by simpa using h34
          cases h92 : (c == 92) with
          | false =>
            have n92 : c ≠ 92 := by simpa using h92
            rw [text_one n10 n34 n92] at hs
            simp only [WW, partV, eqCells, eqLf, minV, maxV, ifcV, List.map_cons, List.map_nil, List.length_cons, List.length_nil, List.getD_cons_zero, List.getD_cons_succ, List.set_cons_zero, List.set_cons_succ, List.set_nil, ofConst, ofConst1, List.replicate, List.cons_append, List.nil_append, loadOp, Go.Abs.loadCells, binV, Int.toNat_natCast, pickV, List.getElem?_cons_zero, List.getElem?_cons_succ, Option.map_some, Option.bind_some, List.drop_zero, List.drop_succ_cons, List.take_succ_cons, List.take_zero, List.length_map, outR, resAll, resOne, if_true, if_false, and_true, true_and, Bool.true_eq_false, Bool.false_eq_true, forall_const, true_implies, false_implies, implies_true, decide_true, decide_false, beq_self_eq_true, Option.getD_some, Nat.zero_add, Nat.add_zero, storeOp, storeCell, overlay, List.take_nil, List.drop_nil, List.append_nil, lookupOp, keyT, okRes, mapUpdateOp, Bool.and_self, Bool.and_true, Bool.true_and, Bool.not_true, Bool.not_false, gt_iff_lt, ge_iff_le, Nat.reduceSub, Nat.reduceAdd, Int.reduceLT, Int.reduceLE, Int.reduceAdd, Int.reduceSub, Int.reduceToNat, Int.reduceBEq, Int.reduceBNe, Int.reduceMul, Nat.reduceBEq, Nat.reduceBNe, Nat.reduceLT, Nat.reduceLeDiff, Nat.reduceMul, Nat.reduceEqDiff, WD, effB, effH, isPriv, isHeap, isImm, Option.any_some, Option.any_none, Option.isSome_none, chkO, setD, dslot, Bool.toNat_true, Bool.toNat_false, Nat.add_zero, Nat.zero_add, List.append_eq, and_self, ptrCells_some, F33, e10, h10, e34, h34, e92, h92, hb, hq1, storeHeap, promote, heapSet, elemSet, buildSliceV, lits, srcV_eq, srcK_sl, srcK_str, srcSl_nils, srcSl_rsl, srcSl_sl, appendOp, frow, List.foldl_nil, List.foldl_cons, List.all_nil, List.all_cons, rowV, Bool.not_true, Bool.not_false, Bool.false_and, Bool.and_false, ne_eq, not_false_eq_true, Nat.zero_add, Nat.add_zero, grows_lr, callOut_t, hw1, hwo, q1, q2, q3, q4, storeCell, overlay]
            refine ⟨L.length - (i + 1), by omega, i + 1, out ++ [c], ?_, hC'.to _, fun b => by rw [List.set_set]; exact hset b, rfl, by omega, by omega, by simp; omega, by rw [show i + 1 - p = i - p + 1 by omega]; exact hs⟩
            simp only [WN, firstReg, growAll, List.foldl_nil, List.foldl_cons, norm, killS, List.set_cons_zero, List.set_cons_succ, List.map_cons, List.map_nil, List.take_nil, List.take_zero, List.length_nil, growOne, List.getD_cons_zero, List.getD_cons_succ, List.length_cons, List.take_succ_cons, List.nil_append, Nat.reduceLT, Nat.reduceAdd, Nat.zero_add, if_true, F33, by8, List.map_append, List.length_append, List.length_cons, List.length_nil, byteV]
            try rfl
          | true =>
            obtain rfl : c = 92 := by simpa using h92
            rw [text_esc] at hs
            simp only [WW, partV, eqCells, eqLf, minV, maxV, ifcV, List.map_cons, List.map_nil, List.length_cons, List.length_nil, List.getD_cons_zero, List.getD_cons_succ, List.set_cons_zero, List.set_cons_succ, List.set_nil, ofConst, ofConst1, List.replicate, List.cons_append, List.nil_append, loadOp, Go.Abs.loadCells, binV, Int.toNat_natCast, pickV, List.getElem?_cons_zero, List.getElem?_cons_succ, Option.map_some, Option.bind_some, List.drop_zero, List.drop_succ_cons, List.take_succ_cons, List.take_zero, List.length_map, outR, resAll, resOne, if_true, if_false, and_true, true_and, Bool.true_eq_false, Bool.false_eq_true, forall_const, true_implies, false_implies, implies_true, decide_true, decide_false, beq_self_eq_true, Option.getD_some, Nat.zero_add, Nat.add_zero, storeOp, storeCell, overlay, List.take_nil, List.drop_nil, List.append_nil, lookupOp, keyT, okRes, mapUpdateOp, Bool.and_self, Bool.and_true, Bool.true_and, Bool.not_true, Bool.not_false, gt_iff_lt, ge_iff_le, Nat.reduceSub, Nat.reduceAdd, Int.reduceLT, Int.reduceLE, Int.reduceAdd, Int.reduceSub, Int.reduceToNat, Int.reduceBEq, Int.reduceBNe, Int.reduceMul, Nat.reduceBEq, Nat.reduceBNe, Nat.reduceLT, Nat.reduceLeDiff, Nat.reduceMul, Nat.reduceEqDiff, WD, effB, effH, isPriv, isHeap, isImm, Option.any_some, Option.any_none, Option.isSome_none, chkO, setD, dslot, Bool.toNat_true, Bool.toNat_false, Nat.add_zero, Nat.zero_add, List.append_eq, and_self, ptrCells_some, F33, e10, h10, e34, h34, e92, h92, hb, hq1, storeHeap, promote, heapSet, elemSet, storeCell, overlay]
            have hC2 := hC'.to ((i + 1 : Nat) : Int)
            have hset2 : ∀ b, (H'.set w (ctr x ((i + 1 : Nat) : Int))).set w b = H.set w b := fun b => by rw [List.set_set]; exact hset b
            have hfold2 : H'.set w (Blk.cells [V.agg [x, V.int IntKind.i64 ((i + 1 : Nat) : Int)]]) = H'.set w (ctr x ((i + 1 : Nat) : Int)) := rfl
            rw [hfold2]
            generalize H'.set w (ctr x ((i + 1 : Nat) : Int)) = H2 at hC2 hset2 ⊢
            refine wpCall_of (esc_spec (hB.same hset2) hC2 (by omega) hL) ?_
            intro out' H3 hres
            cases hesc : escS (L.drop (i + 1)) with
            | bad off =>
              rw [hesc] at hres hs
              obtain ⟨rfl, rfl⟩ := hres
              simp only [WW, partV, eqCells, eqLf, minV, maxV, ifcV, List.map_cons, List.map_nil, List.length_cons, List.length_nil, List.getD_cons_zero, List.getD_cons_succ, List.set_cons_zero, List.set_cons_succ, List.set_nil, ofConst, ofConst1, List.replicate, List.cons_append, List.nil_append, loadOp, Go.Abs.loadCells, binV, Int.toNat_natCast, pickV, List.getElem?_cons_zero, List.getElem?_cons_succ, Option.map_some, Option.bind_some, List.drop_zero, List.drop_succ_cons, List.take_succ_cons, List.take_zero, List.length_map, outR, resAll, resOne, if_true, if_false, and_true, true_and, Bool.true_eq_false, Bool.false_eq_true, forall_const, true_implies, false_implies, implies_true, decide_true, decide_false, beq_self_eq_true, Option.getD_some, Nat.zero_add, Nat.add_zero, storeOp, storeCell, overlay, List.take_nil, List.drop_nil, List.append_nil, lookupOp, keyT, okRes, mapUpdateOp, Bool.and_self, Bool.and_true, Bool.true_and, Bool.not_true, Bool.not_false, gt_iff_lt, ge_iff_le, Nat.reduceSub, Nat.reduceAdd, Int.reduceLT, Int.reduceLE, Int.reduceAdd, Int.reduceSub, Int.reduceToNat, Int.reduceBEq, Int.reduceBNe, Int.reduceMul, Nat.reduceBEq, Nat.reduceBNe, Nat.reduceLT, Nat.reduceLeDiff, Nat.reduceMul, Nat.reduceEqDiff, WD, effB, effH, isPriv, isHeap, isImm, Option.any_some, Option.any_none, Option.isSome_none, chkO, setD, dslot, Bool.toNat_true, Bool.toNat_false, Nat.add_zero, Nat.zero_add, List.append_eq, and_self, ptrCells_some, F33, storeCell, overlay]
              rw [← hs]
              exact ⟨⟨⟨4, [], 0, p⟩, rfl⟩, by rw [show p + (i - p + 1 + off) = i + 1 + off by omega]; exact hset2 _⟩
            | ok y len =>
              rw [hesc] at hres hs
              obtain ⟨rfl, rfl⟩ := hres
              obtain ⟨l1, l2⟩ := escS_len hesc
              simp only [List.length_drop] at l2
              have hw1 : wideAll [V.int .u8 (y.toNat : Int)] 1 = true := rfl
              simp only [WW, partV, eqCells, eqLf, minV, maxV, ifcV, List.map_cons, List.map_nil, List.length_cons, List.length_nil, List.getD_cons_zero, List.getD_cons_succ, List.set_cons_zero, List.set_cons_succ, List.set_nil, ofConst, ofConst1, List.replicate, List.cons_append, List.nil_append, loadOp, Go.Abs.loadCells, binV, Int.toNat_natCast, pickV, List.getElem?_cons_zero, List.getElem?_cons_succ, Option.map_some, Option.bind_some, List.drop_zero, List.drop_succ_cons, List.take_succ_cons, List.take_zero, List.length_map, outR, resAll, resOne, if_true, if_false, and_true, true_and, Bool.true_eq_false, Bool.false_eq_true, forall_const, true_implies, false_implies, implies_true, decide_true, decide_false, beq_self_eq_true, Option.getD_some, Nat.zero_add, Nat.add_zero, storeOp, storeCell, overlay, List.take_nil, List.drop_nil, List.append_nil, lookupOp, keyT, okRes, mapUpdateOp, Bool.and_self, Bool.and_true, Bool.true_and, Bool.not_true, Bool.not_false, gt_iff_lt, ge_iff_le, Nat.reduceSub, Nat.reduceAdd, Int.reduceLT, Int.reduceLE, Int.reduceAdd, Int.reduceSub, Int.reduceToNat, Int.reduceBEq, Int.reduceBNe, Int.reduceMul, Nat.reduceBEq, Nat.reduceBNe, Nat.reduceLT, Nat.reduceLeDiff, Nat.reduceMul, Nat.reduceEqDiff, WD, effB, effH, isPriv, isHeap, isImm, Option.any_some, Option.any_none, Option.isSome_none, chkO, setD, dslot, Bool.toNat_true, Bool.toNat_false, Nat.add_zero, Nat.zero_add, List.append_eq, and_self, ptrCells_some, F33, buildSliceV, lits, srcV_eq, srcK_sl, srcK_str, srcSl_nils, srcSl_rsl, srcSl_sl, appendOp, frow, List.foldl_nil, List.foldl_cons, List.all_nil, List.all_cons, rowV, Bool.not_true, Bool.not_false, Bool.false_and, Bool.and_false, ne_eq, not_false_eq_true, Nat.zero_add, Nat.add_zero, grows_lr, callOut_t, hw1, hwo, q1, q2, q3, q4]
              refine ⟨L.length - (i + 1 + len), by omega, i + 1 + len, out ++ [y], ?_, hC2.to _, fun b => by rw [List.set_set]; exact hset2 b, rfl, by omega, by omega, by simp; omega, ?_⟩
              · simp only [WN, firstReg, growAll, List.foldl_nil, List.foldl_cons, norm, killS, List.set_cons_zero, List.set_cons_succ, List.map_cons, List.map_nil, List.take_nil, List.take_zero, List.length_nil, growOne, List.getD_cons_zero, List.getD_cons_succ, List.length_cons, List.take_succ_cons, List.nil_append, Nat.reduceLT, Nat.reduceAdd, Nat.zero_add, if_true, F33, by8, List.map_append, List.length_append, List.length_cons, List.length_nil, byteV]
                try rfl
              · simp only [List.drop_drop] at hs
                rw [show i + 1 + len - p = i - p + 1 + len by omega]; exact hs
    · have hi2 : i = L.length := by have := of_decide_eq_false hge; omega
      have ht : textS (L.drop i) out (i - p) = .bad 6 (i - p) := by rw [List.drop_of_length_le (by omega)]; rw [textS]
      rw [ht] at hs
      simp only [hge]
      simp only [WW, partV, eqCells, eqLf, minV, maxV, ifcV, List.map_cons, List.map_nil, List.length_cons, List.length_nil, List.getD_cons_zero, List.getD_cons_succ, List.set_cons_zero, List.set_cons_succ, List.set_nil, ofConst, ofConst1, List.replicate, List.cons_append, List.nil_append, loadOp, Go.Abs.loadCells, binV, Int.toNat_natCast, pickV, List.getElem?_cons_zero, List.getElem?_cons_succ, Option.map_some, Option.bind_some, List.drop_zero, List.drop_succ_cons, List.take_succ_cons, List.take_zero, List.length_map, outR, resAll, resOne, if_true, if_false, and_true, true_and, Bool.true_eq_false, Bool.false_eq_true, forall_const, true_implies, false_implies, implies_true, decide_true, decide_false, beq_self_eq_true, Option.getD_some, Nat.zero_add, Nat.add_zero, storeOp, storeCell, overlay, List.take_nil, List.drop_nil, List.append_nil, lookupOp, keyT, okRes, mapUpdateOp, Bool.and_self, Bool.and_true, Bool.true_and, Bool.not_true, Bool.not_false, gt_iff_lt, ge_iff_le, Nat.reduceSub, Nat.reduceAdd, Int.reduceLT, Int.reduceLE, Int.reduceAdd, Int.reduceSub, Int.reduceToNat, Int.reduceBEq, Int.reduceBNe, Int.reduceMul, Nat.reduceBEq, Nat.reduceBNe, Nat.reduceLT, Nat.reduceLeDiff, Nat.reduceMul, Nat.reduceEqDiff, WD, effB, effH, isPriv, isHeap, isImm, Option.any_some, Option.any_none, Option.isSome_none, chkO, setD, dslot, Bool.toNat_true, Bool.toNat_false, Nat.add_zero, Nat.zero_add, List.append_eq, and_self, ptrCells_some, F33, storeCell, overlay]
      rw [← hs]
      exact ⟨⟨⟨4, [], 0, p⟩, rfl⟩, by rw [hpi2]; exact hself'⟩
end Go.Proofs.YtcmndnkeoepmoaaDoor
