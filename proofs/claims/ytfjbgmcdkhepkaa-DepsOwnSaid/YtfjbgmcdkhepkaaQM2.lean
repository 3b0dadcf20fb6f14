/- A part of the proofs over this seat. -/
import Derived.Test.YtfjbgmcdkhepkaaQM1
import Derived.Test.YtfjbgmcdkhepkaaQK1
import Derived.Test.YtfjbgmcdkhepkaaQAbsSl
import Derived.Test.YtfjbgmcdkhepkaaQAbsTv
namespace Go.Proofs.Ytfjbgmcdkhepkaa
open Go Go.Abs Go.Proofs
set_option maxRecDepth 100000
set_option maxHeartbeats 4000000
set_option linter.unusedVariables false
set_option linter.unusedSimpArgs false
theorem wptr (a b c : Nat) : wideAll [V.ptr a b c] 1 = true := rfl
theorem wptrs (all : List Ver) : wideAll (all.map ptrV) 1 = true := by simp [wideAll, ptrV, V.width, V.cells]
theorem add_nil (f : Int) (x : V) (H : Hp) (l : List (Int × Int)) (hx : Sx H x (l.map depV)) : EW 11 [.nilp, .int .i64 f, x] H = some (.ret (.tup [.int .i64 0, .int .i64 5]) false, H) := by
  refine eqOf (runs f11 b11 r11 n11 _ _ ?_)
  simp only [bodyOf, Try.f11, Option.getD_some]
  simp only [WW, partV, eqCells, eqLf, minV, maxV, ifcV, List.map_cons, List.map_nil, List.length_cons, List.length_nil, List.getD_cons_zero, List.getD_cons_succ, List.set_cons_zero, List.set_cons_succ, List.set_nil, ofConst, ofConst1, List.replicate, List.cons_append, List.nil_append, loadOp, Go.Abs.loadCells, binV, Int.toNat_natCast, pickV, List.getElem?_cons_zero, List.getElem?_cons_succ, Option.map_some, Option.bind_some, List.drop_zero, List.drop_succ_cons, List.take_succ_cons, List.take_zero, List.length_map, outR, resAll, resOne, if_true, if_false, and_true, true_and, Bool.true_eq_false, Bool.false_eq_true, forall_const, true_implies, false_implies, implies_true, decide_true, decide_false, beq_self_eq_true, Option.getD_some, Nat.zero_add, Nat.add_zero, storeOp, storeCell, overlay, List.take_nil, List.drop_nil, List.append_nil, lookupOp, keyT, okRes, mapUpdateOp, Bool.and_self, Bool.and_true, Bool.true_and, Bool.not_true, Bool.not_false, gt_iff_lt, ge_iff_le, Nat.reduceSub, Nat.reduceAdd, Int.reduceLT, Int.reduceLE, Int.reduceAdd, Int.reduceSub, Int.reduceToNat, Int.reduceBEq, Int.reduceBNe, Int.reduceMul, Nat.reduceBEq, Nat.reduceBNe, Nat.reduceLT, Nat.reduceLeDiff, Nat.reduceMul, Nat.reduceEqDiff, WD, effB, effH, isPriv, isHeap, isImm, Option.any_some, Option.any_none, Option.isSome_none, chkO, setD, dslot, Bool.toNat_true, Bool.toNat_false, Nat.add_zero, Nat.zero_add, List.append_eq, and_self, ptrCells_some, F11, hx.rd.shutIn]
theorem Reg.bump {H : Hp} {d c : Nat} {g : Int} {cnt : List Int} {all : List Ver} (R : Reg H d c g cnt all) {i : Nat} {k : Int} (hk : cnt[i]? = some k) :
    Reg (H.set c (.cells ((cnt.map (V.int .i64)).set i (.int .i64 (k + 1))))) d c g (cnt.modify i (· + 1)) all := by
  have hclt : c < H.length := (List.getElem?_eq_some_iff.1 R.cn).1
  have keep : ∀ {j : Nat} {b : Blk}, j ≠ c → H[j]? = some b → (H.set c (.cells ((cnt.map (V.int .i64)).set i (.int .i64 (k + 1)))))[j]? = some b := fun {j b} hj h => by
    rw [List.getElem?_set, if_neg (fun e => hj e.symm)]; exact h
  obtain ⟨al, h1, h2⟩ := R.ex
  refine ⟨⟨al, by rw [List.length_modify]; exact keep R.nc.1 h1, h2.imp id fun ⟨rid, ns, a, b, e⟩ => ⟨rid, ns, a, keep (fun e2 => by rw [e2, R.cn] at b; cases b) b, e⟩⟩, ?_, fun v hv => ⟨keep (fun e => R.nc.2.2 (by rw [← e]; exact List.mem_map.2 ⟨v, hv, rfl⟩)) (R.vs v hv).1, (R.vs v hv).2⟩, R.nd, R.nc, R.len, by rw [List.length_modify]; exact R.cl⟩
  rw [List.getElem?_set, if_pos rfl, if_pos hclt]
  congr 2
  refine List.ext_getElem? fun j => ?_
  rw [List.getElem?_set, List.length_map, List.getElem?_map, List.getElem?_map, List.getElem?_modify]
  have hi : i < cnt.length := (List.getElem?_eq_some_iff.1 hk).1
  by_cases e : i = j
  · subst e
    rw [if_pos rfl, if_pos hi, hk]; simp
  · rw [if_neg e]; cases cnt[j]? <;> simp [e]
/-- A version more -/
theorem Reg.push {H : Hp} {d c : Nat} {g : Int} {cnt : List Int} {all : List Ver} (R : Reg H d c g cnt all) (f : Int) (on : V) (l : List (Int × Int)) (hon : IsDeps on l) (hl : l.length < 4294967296) (hroom : all.length + 1 < 4294967296) {H' : Hp}
    (keep : ∀ (j : Nat) (b : Blk), H[j]? = some b → j ≠ d → (∀ ns es, b ≠ .row ns es) → H'[j]? = some b) (hnew : H'[H.length]? = some (.cells [.agg [.int .i64 f, on, .bool true]]))
    (rid : Nat) (ns : Bool) (hd : H'[d]? = some (.cells [.agg [.int .i64 g, .hr rid (all.length + 1), .sl c 0 cnt.length]])) (hrow : H'[rid]? = some (.row ns (all.map ptrV ++ [.ptr H.length 0 0]))) :
    Reg H' d c g cnt (all ++ [⟨H.length, f, on, l, true⟩]) := by
  obtain ⟨al, h1, h2⟩ := R.ex
  have hdlt : d < H.length := (List.getElem?_eq_some_iff.1 h1).1
  have hclt : c < H.length := (List.getElem?_eq_some_iff.1 R.cn).1
  have vlt : ∀ v ∈ all, v.id < H.length := fun v hv => (List.getElem?_eq_some_iff.1 (R.vs v hv).1).1
  refine ⟨⟨_, hd, .inr ⟨rid, ns, by simp, by rw [List.map_append]; exact hrow, by simp⟩⟩, keep _ _ R.cn (fun e => R.nc.1 e.symm) (fun _ _ h => by cases h), fun v hv => ?_, ?_, ⟨R.nc.1, ?_, ?_⟩, by simp; omega, R.cl⟩
  · rcases List.mem_append.1 hv with hv | hv
    · exact ⟨keep _ _ (R.vs v hv).1 (fun e => R.nc.2.1 (by rw [← e]; exact List.mem_map.2 ⟨v, hv, rfl⟩)) (fun _ _ h => by cases h), (R.vs v hv).2⟩
    · simp at hv; subst hv; exact ⟨hnew, hon, hl⟩
  · rw [List.map_append, List.nodup_append]
    refine ⟨R.nd, by simp, fun a ha b hb => ?_⟩
    simp at hb; subst hb
    obtain ⟨v, hv, rfl⟩ := List.mem_map.1 ha
    have := vlt v hv; omega
  · rw [List.map_append]; simp only [List.mem_append, List.map_cons, List.map_nil, List.mem_singleton]; exact fun h => h.elim R.nc.2.1 (fun e => by omega)
  · rw [List.map_append]; simp only [List.mem_append, List.map_cons, List.map_nil, List.mem_singleton]; exact fun h => h.elim R.nc.2.2 (fun e => by omega)
theorem Reg.pushNil {H : Hp} {d c : Nat} {g : Int} {cnt : List Int} (R : Reg H d c g cnt []) (f : Int) (on : V) (l : List (Int × Int)) (hon : IsDeps on l) (hl : l.length < 4294967296) (hroom : 0 + 1 < 4294967296) :
    Reg ((H ++ [Blk.cells [.agg [.int .i64 f, on, .bool true]]] ++ [Blk.row true [.ptr H.length 0 0]]).set d (.cells [.agg [.int .i64 g, .hr (List.length (H ++ [Blk.cells [.agg [.int .i64 f, on, .bool true]]])) 1, .sl c 0 cnt.length]])) d c g cnt [⟨H.length, f, on, l, true⟩] := by
  have hdlt : d < H.length := by obtain ⟨al, h1, _⟩ := R.ex; exact (List.getElem?_eq_some_iff.1 h1).1
  refine R.push f on l hon hl hroom (fun j b hj hjd _ => ?_) ?_ (List.length (H ++ [Blk.cells [.agg [.int .i64 f, on, .bool true]]])) true ?_ ?_
  · have hjlt : j < H.length := (List.getElem?_eq_some_iff.1 hj).1
    rw [List.getElem?_set, if_neg (fun e => hjd e.symm), List.append_assoc, List.getElem?_append_left hjlt]; exact hj
  · rw [List.getElem?_set, if_neg (by omega), List.append_assoc, List.getElem?_append_right (Nat.le_refl _)]; simp
  · rw [List.getElem?_set, if_pos rfl, if_pos (by simp; omega)]; rfl
  · rw [List.getElem?_set, if_neg (by simp; omega), List.getElem?_append_right (Nat.le_refl _)]; simp
theorem Reg.pushHr {H : Hp} {d c : Nat} {g : Int} {cnt : List Int} {all : List Ver} (R : Reg H d c g cnt all) (f : Int) (on : V) (l : List (Int × Int)) (hon : IsDeps on l) (hl : l.length < 4294967296) (hroom : all.length + 1 < 4294967296) {rid : Nat} {ns : Bool}
    (hrow : H[rid]? = some (.row ns (all.map ptrV))) :
    Reg (((H ++ [Blk.cells [.agg [.int .i64 f, on, .bool true]]]).set rid (.row ns (all.map ptrV ++ [.ptr H.length 0 0]))).set d (.cells [.agg [.int .i64 g, .hr rid (all.length + 1), .sl c 0 cnt.length]])) d c g cnt (all ++ [⟨H.length, f, on, l, true⟩]) := by
  obtain ⟨al, h1, _⟩ := R.ex
  have hdlt : d < H.length := (List.getElem?_eq_some_iff.1 h1).1
  have hrlt : rid < H.length := (List.getElem?_eq_some_iff.1 hrow).1
  have hrd : rid ≠ d := fun e => by rw [e, h1] at hrow; cases hrow
  refine R.push f on l hon hl hroom (fun j b hj hjd hnr => ?_) ?_ rid ns ?_ ?_
  · have hjlt : j < H.length := (List.getElem?_eq_some_iff.1 hj).1
    have hjr : rid ≠ j := fun e => by rw [← e, hrow] at hj; cases hj; exact hnr _ _ rfl
    rw [List.getElem?_set, if_neg (fun e => hjd e.symm), List.getElem?_set, if_neg hjr, List.getElem?_append_left hjlt]; exact hj
  · rw [List.getElem?_set, if_neg (by omega), List.getElem?_set, if_neg (by omega), List.getElem?_append_right (Nat.le_refl _)]; simp
  · rw [List.getElem?_set, if_pos rfl, if_pos (by simp; omega)]
  · rw [List.getElem?_set, if_neg (fun e => hrd e.symm), List.getElem?_set, if_pos rfl, if_pos (by simp; omega)]
/-- Why a version is not taken -/
def addErr (g : Int) (cnt : List Int) (all : List Ver) (f : Int) (l : List (Int × Int)) : Int :=
  if decide (f < 0) || decide ((cnt.length : Int) ≤ f) || (l.any fun y => decide (y.1 < 0) || decide (y.1 ≥ g)) || !decide ((dedupR (l.map (·.1))).length = l.length) then 1
  else if (all.findIdx? (fun v => v.ok && v.f == f)).isSome then 7
  else if getCnt cnt f = some 4 then 3
  else 0
/-- A version's copy of what it counts on, once nothing writes to it any more -/
def keepR (x : V) (l : List (Int × Int)) (H : Hp) : V × Hp := if isNils x then (.nils, H) else (.rsl (l.map depV), if l.isEmpty then H else H ++ [.dead])
theorem keep_seal (x : V) (l : List (Int × Int)) (H : Hp) : sealH .imm (cloneR x l H).1 (cloneR x l H).2 = keepR x l H := by
  unfold cloneR keepR
  cases isNils x with
  | true => rfl
  | false =>
    simp only [Bool.false_eq_true, if_false]
    cases l with
    | nil => rfl
    | cons d r =>
      simp only [List.isEmpty_cons, Bool.false_eq_true, if_false]
      rw [sealH_sl (es := (d :: r).map depV) List.getElem?_concat_length (by simp)]
      simp
theorem keep_deps {H : Hp} {x : V} {l : List (Int × Int)} (hx : Sx H x (l.map depV)) : IsDeps (keepR x l H).1 l := by
  unfold keepR
  cases hn : isNils x with
  | true =>
    have := (hx.nil_l hn).2
    obtain rfl : l = [] := by simpa using this
    exact .nils
  | false => exact .rsl l
theorem keep_more (x : V) (l : List (Int × Int)) (H : Hp) : ∃ e, (keepR x l H).2 = H ++ e := by
  unfold keepR
  cases isNils x with
  | true => exact ⟨[], by simp⟩
  | false => cases l with
    | nil => exact ⟨[], by simp⟩
    | cons d r => exact ⟨[.dead], rfl⟩
theorem add_eq {H : Hp} {d c : Nat} {g : Int} {cnt : List Int} {all : List Ver} (R : Reg H d c g cnt all) (f : Int) (x : V) (l : List (Int × Int)) (hx : Sx H x (l.map depV)) (hlen : l.length < 4294967296) (hxc : ∀ id lo n, x = .sl id lo n → id ≠ c) (hroom : all.length + 1 < 4294967296) (hcnt : ∀ n ∈ cnt, 0 ≤ n ∧ n < 4294967296) :
    wpCall EW 11 [.ptr d 0 0, .int .i64 f, x] H (fun out H' =>
      if addErr g cnt all f l ≠ 0 then out = .ret (.tup [.int .i64 0, .int .i64 (addErr g cnt all f l)]) false ∧ ∃ e, H' = H ++ e
      else out = .ret (.tup [.int .i64 all.length, .int .i64 0]) false ∧ (∃ v : Ver, v.f = f ∧ v.l = l ∧ v.ok = true ∧ H.length ≤ v.id ∧ Reg H' d c g (cnt.modify f.toNat (· + 1)) (all ++ [v])) ∧ H.length ≤ H'.length ∧ ∀ k es, k ≠ d → k ≠ c → H[k]? = some (.cells es) → H'[k]? = some (.cells es)) := by
  have sx := hx.rd.shutIn
  refine runs f11 b11 r11 n11 _ _ ?_
  simp only [bodyOf, Try.f11, Option.getD_some]
  simp only [WW, partV, eqCells, eqLf, minV, maxV, ifcV, List.map_cons, List.map_nil, List.length_cons, List.length_nil, List.getD_cons_zero, List.getD_cons_succ, List.set_cons_zero, List.set_cons_succ, List.set_nil, ofConst, ofConst1, List.replicate, List.cons_append, List.nil_append, loadOp, Go.Abs.loadCells, binV, Int.toNat_natCast, pickV, List.getElem?_cons_zero, List.getElem?_cons_succ, Option.map_some, Option.bind_some, List.drop_zero, List.drop_succ_cons, List.take_succ_cons, List.take_zero, List.length_map, outR, resAll, resOne, if_true, if_false, and_true, true_and, Bool.true_eq_false, Bool.false_eq_true, forall_const, true_implies, false_implies, implies_true, decide_true, decide_false, beq_self_eq_true, Option.getD_some, Nat.zero_add, Nat.add_zero, storeOp, storeCell, overlay, List.take_nil, List.drop_nil, List.append_nil, lookupOp, keyT, okRes, mapUpdateOp, Bool.and_self, Bool.and_true, Bool.true_and, Bool.not_true, Bool.not_false, gt_iff_lt, ge_iff_le, Nat.reduceSub, Nat.reduceAdd, Int.reduceLT, Int.reduceLE, Int.reduceAdd, Int.reduceSub, Int.reduceToNat, Int.reduceBEq, Int.reduceBNe, Int.reduceMul, Nat.reduceBEq, Nat.reduceBNe, Nat.reduceLT, Nat.reduceLeDiff, Nat.reduceMul, Nat.reduceEqDiff, WD, effB, effH, isPriv, isHeap, isImm, Option.any_some, Option.any_none, Option.isSome_none, chkO, setD, dslot, Bool.toNat_true, Bool.toNat_false, Nat.add_zero, Nat.zero_add, List.append_eq, and_self, ptrCells_some, F11, sx]
  refine wpCall_of (wrong_eq R f x l hx.rd (by omega)) ?_
  rintro out H1 ⟨rfl, e1, rfl⟩
  simp only [WW, partV, eqCells, eqLf, minV, maxV, ifcV, List.map_cons, List.map_nil, List.length_cons, List.length_nil, List.getD_cons_zero, List.getD_cons_succ, List.set_cons_zero, List.set_cons_succ, List.set_nil, ofConst, ofConst1, List.replicate, List.cons_append, List.nil_append, loadOp, Go.Abs.loadCells, binV, Int.toNat_natCast, pickV, List.getElem?_cons_zero, List.getElem?_cons_succ, Option.map_some, Option.bind_some, List.drop_zero, List.drop_succ_cons, List.take_succ_cons, List.take_zero, List.length_map, outR, resAll, resOne, if_true, if_false, and_true, true_and, Bool.true_eq_false, Bool.false_eq_true, forall_const, true_implies, false_implies, implies_true, decide_true, decide_false, beq_self_eq_true, Option.getD_some, Nat.zero_add, Nat.add_zero, storeOp, storeCell, overlay, List.take_nil, List.drop_nil, List.append_nil, lookupOp, keyT, okRes, mapUpdateOp, Bool.and_self, Bool.and_true, Bool.true_and, Bool.not_true, Bool.not_false, gt_iff_lt, ge_iff_le, Nat.reduceSub, Nat.reduceAdd, Int.reduceLT, Int.reduceLE, Int.reduceAdd, Int.reduceSub, Int.reduceToNat, Int.reduceBEq, Int.reduceBNe, Int.reduceMul, Nat.reduceBEq, Nat.reduceBNe, Nat.reduceLT, Nat.reduceLeDiff, Nat.reduceMul, Nat.reduceEqDiff, WD, effB, effH, isPriv, isHeap, isImm, Option.any_some, Option.any_none, Option.isSome_none, chkO, setD, dslot, Bool.toNat_true, Bool.toNat_false, Nat.add_zero, Nat.zero_add, List.append_eq, and_self, ptrCells_some, F11, sx]
  refine cStep_of (fun h1 => ?_) (fun h1 => ?_)
  · simp only [WW, partV, eqCells, eqLf, minV, maxV, ifcV, List.map_cons, List.map_nil, List.length_cons, List.length_nil, List.getD_cons_zero, List.getD_cons_succ, List.set_cons_zero, List.set_cons_succ, List.set_nil, ofConst, ofConst1, List.replicate, List.cons_append, List.nil_append, loadOp, Go.Abs.loadCells, binV, Int.toNat_natCast, pickV, List.getElem?_cons_zero, List.getElem?_cons_succ, Option.map_some, Option.bind_some, List.drop_zero, List.drop_succ_cons, List.take_succ_cons, List.take_zero, List.length_map, outR, resAll, resOne, if_true, if_false, and_true, true_and, Bool.true_eq_false, Bool.false_eq_true, forall_const, true_implies, false_implies, implies_true, decide_true, decide_false, beq_self_eq_true, Option.getD_some, Nat.zero_add, Nat.add_zero, storeOp, storeCell, overlay, List.take_nil, List.drop_nil, List.append_nil, lookupOp, keyT, okRes, mapUpdateOp, Bool.and_self, Bool.and_true, Bool.true_and, Bool.not_true, Bool.not_false, gt_iff_lt, ge_iff_le, Nat.reduceSub, Nat.reduceAdd, Int.reduceLT, Int.reduceLE, Int.reduceAdd, Int.reduceSub, Int.reduceToNat, Int.reduceBEq, Int.reduceBNe, Int.reduceMul, Nat.reduceBEq, Nat.reduceBNe, Nat.reduceLT, Nat.reduceLeDiff, Nat.reduceMul, Nat.reduceEqDiff, WD, effB, effH, isPriv, isHeap, isImm, Option.any_some, Option.any_none, Option.isSome_none, chkO, setD, dslot, Bool.toNat_true, Bool.toNat_false, Nat.add_zero, Nat.zero_add, List.append_eq, and_self, ptrCells_some, F11, sx]
    have : addErr g cnt all f l = 1 := by unfold addErr; rw [if_pos h1]
    rw [if_pos (by omega), this]
    exact ⟨rfl, e1, rfl⟩
  · simp only [WW, partV, eqCells, eqLf, minV, maxV, ifcV, List.map_cons, List.map_nil, List.length_cons, List.length_nil, List.getD_cons_zero, List.getD_cons_succ, List.set_cons_zero, List.set_cons_succ, List.set_nil, ofConst, ofConst1, List.replicate, List.cons_append, List.nil_append, loadOp, Go.Abs.loadCells, binV, Int.toNat_natCast, pickV, List.getElem?_cons_zero, List.getElem?_cons_succ, Option.map_some, Option.bind_some, List.drop_zero, List.drop_succ_cons, List.take_succ_cons, List.take_zero, List.length_map, outR, resAll, resOne, if_true, if_false, and_true, true_and, Bool.true_eq_false, Bool.false_eq_true, forall_const, true_implies, false_implies, implies_true, decide_true, decide_false, beq_self_eq_true, Option.getD_some, Nat.zero_add, Nat.add_zero, storeOp, storeCell, overlay, List.take_nil, List.drop_nil, List.append_nil, lookupOp, keyT, okRes, mapUpdateOp, Bool.and_self, Bool.and_true, Bool.true_and, Bool.not_true, Bool.not_false, gt_iff_lt, ge_iff_le, Nat.reduceSub, Nat.reduceAdd, Int.reduceLT, Int.reduceLE, Int.reduceAdd, Int.reduceSub, Int.reduceToNat, Int.reduceBEq, Int.reduceBNe, Int.reduceMul, Nat.reduceBEq, Nat.reduceBNe, Nat.reduceLT, Nat.reduceLeDiff, Nat.reduceMul, Nat.reduceEqDiff, WD, effB, effH, isPriv, isHeap, isImm, Option.any_some, Option.any_none, Option.isSome_none, chkO, setD, dslot, Bool.toNat_true, Bool.toNat_false, Nat.add_zero, Nat.zero_add, List.append_eq, and_self, ptrCells_some, F11, sx]
    have R1 := R.more e1
    rw [wpCall_eq (of_eq R1 f)]
    have hf1 : ¬ (f < 0) := by intro h; simp [h] at h1
    have hf2 : ¬ ((cnt.length : Int) ≤ f) := by intro h; simp [h] at h1
    unfold findV
    cases hfi : all.findIdx? (fun v => v.ok && v.f == f) with
    | some i =>
      simp only [WW, partV, eqCells, eqLf, minV, maxV, ifcV, List.map_cons, List.map_nil, List.length_cons, List.length_nil, List.getD_cons_zero, List.getD_cons_succ, List.set_cons_zero, List.set_cons_succ, List.set_nil, ofConst, ofConst1, List.replicate, List.cons_append, List.nil_append, loadOp, Go.Abs.loadCells, binV, Int.toNat_natCast, pickV, List.getElem?_cons_zero, List.getElem?_cons_succ, Option.map_some, Option.bind_some, List.drop_zero, List.drop_succ_cons, List.take_succ_cons, List.take_zero, List.length_map, outR, resAll, resOne, if_true, if_false, and_true, true_and, Bool.true_eq_false, Bool.false_eq_true, forall_const, true_implies, false_implies, implies_true, decide_true, decide_false, beq_self_eq_true, Option.getD_some, Nat.zero_add, Nat.add_zero, storeOp, storeCell, overlay, List.take_nil, List.drop_nil, List.append_nil, lookupOp, keyT, okRes, mapUpdateOp, Bool.and_self, Bool.and_true, Bool.true_and, Bool.not_true, Bool.not_false, gt_iff_lt, ge_iff_le, Nat.reduceSub, Nat.reduceAdd, Int.reduceLT, Int.reduceLE, Int.reduceAdd, Int.reduceSub, Int.reduceToNat, Int.reduceBEq, Int.reduceBNe, Int.reduceMul, Nat.reduceBEq, Nat.reduceBNe, Nat.reduceLT, Nat.reduceLeDiff, Nat.reduceMul, Nat.reduceEqDiff, WD, effB, effH, isPriv, isHeap, isImm, Option.any_some, Option.any_none, Option.isSome_none, chkO, setD, dslot, Bool.toNat_true, Bool.toNat_false, Nat.add_zero, Nat.zero_add, List.append_eq, and_self, ptrCells_some, F11, sx]
      have : addErr g cnt all f l = 7 := by unfold addErr; rw [if_neg (by rw [h1]; simp), hfi]; rfl
      rw [if_pos (by omega), this]
      exact ⟨rfl, e1, rfl⟩
    | none =>
      obtain ⟨al, ho, ha⟩ := R1.ex
      have hc := R1.cn
      have hi2 : f.toNat < cnt.length := by omega
      have hd : cnt[f.toNat]? = some cnt[f.toNat] := List.getElem?_eq_getElem hi2
      have hmem : cnt[f.toNat] ∈ cnt := List.getElem_mem hi2
      generalize cnt[f.toNat] = k at hd hmem
      have hk := hcnt k hmem
      have hf3 : 0 ≤ f := by omega
      have hf4 : f < (cnt.length : Int) := by omega
      have hg : getCnt cnt f = some k := by simp [getCnt, hf3, hd]
      simp only [WW, partV, eqCells, eqLf, minV, maxV, ifcV, List.map_cons, List.map_nil, List.length_cons, List.length_nil, List.getD_cons_zero, List.getD_cons_succ, List.set_cons_zero, List.set_cons_succ, List.set_nil, ofConst, ofConst1, List.replicate, List.cons_append, List.nil_append, loadOp, Go.Abs.loadCells, binV, Int.toNat_natCast, pickV, List.getElem?_cons_zero, List.getElem?_cons_succ, Option.map_some, Option.bind_some, List.drop_zero, List.drop_succ_cons, List.take_succ_cons, List.take_zero, List.length_map, outR, resAll, resOne, if_true, if_false, and_true, true_and, Bool.true_eq_false, Bool.false_eq_true, forall_const, true_implies, false_implies, implies_true, decide_true, decide_false, beq_self_eq_true, Option.getD_some, Nat.zero_add, Nat.add_zero, storeOp, storeCell, overlay, List.take_nil, List.drop_nil, List.append_nil, lookupOp, keyT, okRes, mapUpdateOp, Bool.and_self, Bool.and_true, Bool.true_and, Bool.not_true, Bool.not_false, gt_iff_lt, ge_iff_le, Nat.reduceSub, Nat.reduceAdd, Int.reduceLT, Int.reduceLE, Int.reduceAdd, Int.reduceSub, Int.reduceToNat, Int.reduceBEq, Int.reduceBNe, Int.reduceMul, Nat.reduceBEq, Nat.reduceBNe, Nat.reduceLT, Nat.reduceLeDiff, Nat.reduceMul, Nat.reduceEqDiff, WD, effB, effH, isPriv, isHeap, isImm, Option.any_some, Option.any_none, Option.isSome_none, chkO, setD, dslot, Bool.toNat_true, Bool.toNat_false, Nat.add_zero, Nat.zero_add, List.append_eq, and_self, ptrCells_some, F11, sx, ho, hc, hf3, hf4, List.getElem?_map, hd]
      refine cStep_of (fun h2 => ?_) (fun h2 => ?_)
      · have h2' : k = 4 := by simpa using h2
        simp only [WW, partV, eqCells, eqLf, minV, maxV, ifcV, List.map_cons, List.map_nil, List.length_cons, List.length_nil, List.getD_cons_zero, List.getD_cons_succ, List.set_cons_zero, List.set_cons_succ, List.set_nil, ofConst, ofConst1, List.replicate, List.cons_append, List.nil_append, loadOp, Go.Abs.loadCells, binV, Int.toNat_natCast, pickV, List.getElem?_cons_zero, List.getElem?_cons_succ, Option.map_some, Option.bind_some, List.drop_zero, List.drop_succ_cons, List.take_succ_cons, List.take_zero, List.length_map, outR, resAll, resOne, if_true, if_false, and_true, true_and, Bool.true_eq_false, Bool.false_eq_true, forall_const, true_implies, false_implies, implies_true, decide_true, decide_false, beq_self_eq_true, Option.getD_some, Nat.zero_add, Nat.add_zero, storeOp, storeCell, overlay, List.take_nil, List.drop_nil, List.append_nil, lookupOp, keyT, okRes, mapUpdateOp, Bool.and_self, Bool.and_true, Bool.true_and, Bool.not_true, Bool.not_false, gt_iff_lt, ge_iff_le, Nat.reduceSub, Nat.reduceAdd, Int.reduceLT, Int.reduceLE, Int.reduceAdd, Int.reduceSub, Int.reduceToNat, Int.reduceBEq, Int.reduceBNe, Int.reduceMul, Nat.reduceBEq, Nat.reduceBNe, Nat.reduceLT, Nat.reduceLeDiff, Nat.reduceMul, Nat.reduceEqDiff, WD, effB, effH, isPriv, isHeap, isImm, Option.any_some, Option.any_none, Option.isSome_none, chkO, setD, dslot, Bool.toNat_true, Bool.toNat_false, Nat.add_zero, Nat.zero_add, List.append_eq, and_self, ptrCells_some, F11, sx]
        have : addErr g cnt all f l = 3 := by unfold addErr; rw [if_neg (by rw [h1]; simp), hfi, if_neg (by simp), if_pos (by rw [hg, h2'])]
        rw [if_pos (by omega), this]
        exact ⟨rfl, e1, rfl⟩
      · have h2' : k ≠ 4 := by simpa using h2
        have herr : addErr g cnt all f l = 0 := by unfold addErr; rw [if_neg (by rw [h1]; simp), hfi, if_neg (by simp), if_neg (by rw [hg]; simpa using h2')]
        have hw : IntKind.i64.wrap (k + 1) = k + 1 := IntWalk.i64_in _ (by omega)
        simp only [WW, partV, eqCells, eqLf, minV, maxV, ifcV, List.map_cons, List.map_nil, List.length_cons, List.length_nil, List.getD_cons_zero, List.getD_cons_succ, List.set_cons_zero, List.set_cons_succ, List.set_nil, ofConst, ofConst1, List.replicate, List.cons_append, List.nil_append, loadOp, Go.Abs.loadCells, binV, Int.toNat_natCast, pickV, List.getElem?_cons_zero, List.getElem?_cons_succ, Option.map_some, Option.bind_some, List.drop_zero, List.drop_succ_cons, List.take_succ_cons, List.take_zero, List.length_map, outR, resAll, resOne, if_true, if_false, and_true, true_and, Bool.true_eq_false, Bool.false_eq_true, forall_const, true_implies, false_implies, implies_true, decide_true, decide_false, beq_self_eq_true, Option.getD_some, Nat.zero_add, Nat.add_zero, storeOp, storeCell, overlay, List.take_nil, List.drop_nil, List.append_nil, lookupOp, keyT, okRes, mapUpdateOp, Bool.and_self, Bool.and_true, Bool.true_and, Bool.not_true, Bool.not_false, gt_iff_lt, ge_iff_le, Nat.reduceSub, Nat.reduceAdd, Int.reduceLT, Int.reduceLE, Int.reduceAdd, Int.reduceSub, Int.reduceToNat, Int.reduceBEq, Int.reduceBNe, Int.reduceMul, Nat.reduceBEq, Nat.reduceBNe, Nat.reduceLT, Nat.reduceLeDiff, Nat.reduceMul, Nat.reduceEqDiff, WD, effB, effH, isPriv, isHeap, isImm, Option.any_some, Option.any_none, Option.isSome_none, chkO, setD, dslot, Bool.toNat_true, Bool.toNat_false, Nat.add_zero, Nat.zero_add, List.append_eq, and_self, ptrCells_some, F11, storeHeap, promote, heapSet, elemSet, sx, ho, hc, hf3, hf4, List.getElem?_map, hd, hw]
        have R2 := R1.bump hd
        have hlen2 : ((H ++ e1).set c (.cells ((cnt.map (V.int .i64)).set f.toNat (.int .i64 (k + 1))))).length = H.length + e1.length := by simp
        have hclt := (List.getElem?_eq_some_iff.1 R.cn).1
        have hold : ∀ (j : Nat) (es : List V), j ≠ c → H[j]? = some (.cells es) → ((H ++ e1).set c (.cells ((cnt.map (V.int .i64)).set f.toNat (.int .i64 (k + 1)))))[j]? = some (.cells es) := fun j es hj h => by
          rw [List.getElem?_set_ne (fun e => hj e.symm), List.getElem?_append_left ((List.getElem?_eq_some_iff.1 h).1)]; exact h
        have hx2 : Sx ((H ++ e1).set c (.cells ((cnt.map (V.int .i64)).set f.toNat (.int .i64 (k + 1))))) x (l.map depV) := by
          generalize l.map depV = L at hx
          cases hx with
          | nils => exact .nils
          | rsl => exact .rsl _
          | sl id lo len es h1 h2 => exact .sl id lo len es (hold _ _ (hxc _ _ _ rfl) h1) h2
        generalize (H ++ e1).set c (.cells ((cnt.map (V.int .i64)).set f.toNat (.int .i64 (k + 1)))) = H2 at R2 hlen2 hx2 hold
        clear ho ha hc
        obtain ⟨al, ho, ha⟩ := R2.ex
        have hdlt : d < H2.length := (List.getElem?_eq_some_iff.1 ho).1
        have hcl := clone_eq x l H2 hx2 hlen
        have hsl := keep_seal x l H2
        have hkd := keep_deps hx2
        obtain ⟨e2, he2⟩ := keep_more x l H2
        have hk1 : (keepR x l H2).1.cells = [(keepR x l H2).1] := (hkd.rd []).cells1
        have hk2 : okV (keepR x l H2).1 = true := (hkd.rd []).ok
        have hk3 : ∀ st, sealV st (keepR x l H2).1 = (keepR x l H2).1 := (hkd.rd []).shutIn
        have R3 : Reg (keepR x l H2).2 d c g (cnt.modify f.toNat (· + 1)) all := by rw [he2]; exact R2.more e2
        have hlen3 : H2.length ≤ (keepR x l H2).2.length := by rw [he2]; simp
        have hold3 : ∀ (j : Nat) (es : List V), j ≠ c → H[j]? = some (.cells es) → (keepR x l H2).2[j]? = some (.cells es) := fun j es hj h => by
          rw [he2, List.getElem?_append_left ((List.getElem?_eq_some_iff.1 (hold j es hj h)).1)]; exact hold j es hj h
        refine wC_dr alts11_11 (by kernel_rfl) ?_
        generalize hK : keepR x l H2 = K at *
        obtain ⟨on, H3⟩ := K
        simp only at hk1 hk2 hk3 R3 hlen3 hold3 he2
        have hd3 : d < H3.length := by omega
        have ho3 : H3[d]? = H2[d]? := by rw [he2, List.getElem?_append_left hdlt]
        rcases ha with ⟨rfl, rfl⟩ | ⟨rid, ns, rfl, hrow, hne⟩
        · have hap : ∀ e : Hp, (H3 ++ e)[d]? = some (.cells [.agg [.int .i64 g, .nils, .sl c 0 (cnt.modify f.toNat (· + 1)).length]]) := fun e => by
            rw [List.getElem?_append_left hd3, ho3]; exact ho
          have hap2 : ∀ e e' : Hp, (H3 ++ e ++ e')[d]? = some (.cells [.agg [.int .i64 g, .nils, .sl c 0 (cnt.modify f.toNat (· + 1)).length]]) := fun e e' => by
            rw [List.append_assoc]; exact hap _
          have hfin : ∀ (e e' : Hp) (Y : Blk), ((H3 ++ e ++ e').set d Y)[d]? = some Y := fun e e' Y => by
            rw [List.getElem?_set, if_pos rfl, if_pos (by simp; omega)]
          rw [ho] at ho3
          simp only [WW, partV, eqCells, eqLf, minV, maxV, ifcV, List.map_cons, List.map_nil, List.length_cons, List.length_nil, List.getD_cons_zero, List.getD_cons_succ, List.set_cons_zero, List.set_cons_succ, List.set_nil, ofConst, ofConst1, List.replicate, List.cons_append, List.nil_append, loadOp, Go.Abs.loadCells, binV, Int.toNat_natCast, pickV, List.getElem?_cons_zero, List.getElem?_cons_succ, Option.map_some, Option.bind_some, List.drop_zero, List.drop_succ_cons, List.take_succ_cons, List.take_zero, List.length_map, outR, resAll, resOne, if_true, if_false, and_true, true_and, Bool.true_eq_false, Bool.false_eq_true, forall_const, true_implies, false_implies, implies_true, decide_true, decide_false, beq_self_eq_true, Option.getD_some, Nat.zero_add, Nat.add_zero, storeOp, storeCell, overlay, List.take_nil, List.drop_nil, List.append_nil, lookupOp, keyT, okRes, mapUpdateOp, Bool.and_self, Bool.and_true, Bool.true_and, Bool.not_true, Bool.not_false, gt_iff_lt, ge_iff_le, Nat.reduceSub, Nat.reduceAdd, Int.reduceLT, Int.reduceLE, Int.reduceAdd, Int.reduceSub, Int.reduceToNat, Int.reduceBEq, Int.reduceBNe, Int.reduceMul, Nat.reduceBEq, Nat.reduceBNe, Nat.reduceLT, Nat.reduceLeDiff, Nat.reduceMul, Nat.reduceEqDiff, WD, effB, effH, isPriv, isHeap, isImm, Option.any_some, Option.any_none, Option.isSome_none, chkO, setD, dslot, Bool.toNat_true, Bool.toNat_false, Nat.add_zero, Nat.zero_add, List.append_eq, and_self, ptrCells_some, F11, buildSliceV, lits, srcV_eq, srcK_sl, srcK_str, srcSl_nils, srcSl_rsl, srcSl_sl, appendOp, frow, List.foldl_nil, List.foldl_cons, List.all_nil, List.all_cons, rowV, Bool.not_true, Bool.not_false, Bool.false_and, Bool.and_false, ne_eq, not_false_eq_true, Nat.zero_add, Nat.add_zero, grows_lr, callOut_t, storeHeap, promote, heapSet, elemSet, buildOp, fillV, Lay.place, Bool.or_self, Bool.or_false, Bool.false_or, decide_not, ne_eq, not_true_eq_false, Bool.not_true, Bool.not_false, decide_eq_true_eq, Nat.lt_irrefl, gt_iff_lt, ho, ho3, sx]
          rw [wpCall_eq hcl]
          simp only [WW, partV, eqCells, eqLf, minV, maxV, ifcV, List.map_cons, List.map_nil, List.length_cons, List.length_nil, List.getD_cons_zero, List.getD_cons_succ, List.set_cons_zero, List.set_cons_succ, List.set_nil, ofConst, ofConst1, List.replicate, List.cons_append, List.nil_append, loadOp, Go.Abs.loadCells, binV, Int.toNat_natCast, pickV, List.getElem?_cons_zero, List.getElem?_cons_succ, Option.map_some, Option.bind_some, List.drop_zero, List.drop_succ_cons, List.take_succ_cons, List.take_zero, List.length_map, outR, resAll, resOne, if_true, if_false, and_true, true_and, Bool.true_eq_false, Bool.false_eq_true, forall_const, true_implies, false_implies, implies_true, decide_true, decide_false, beq_self_eq_true, Option.getD_some, Nat.zero_add, Nat.add_zero, storeOp, storeCell, overlay, List.take_nil, List.drop_nil, List.append_nil, lookupOp, keyT, okRes, mapUpdateOp, Bool.and_self, Bool.and_true, Bool.true_and, Bool.not_true, Bool.not_false, gt_iff_lt, ge_iff_le, Nat.reduceSub, Nat.reduceAdd, Int.reduceLT, Int.reduceLE, Int.reduceAdd, Int.reduceSub, Int.reduceToNat, Int.reduceBEq, Int.reduceBNe, Int.reduceMul, Nat.reduceBEq, Nat.reduceBNe, Nat.reduceLT, Nat.reduceLeDiff, Nat.reduceMul, Nat.reduceEqDiff, WD, effB, effH, isPriv, isHeap, isImm, Option.any_some, Option.any_none, Option.isSome_none, chkO, setD, dslot, Bool.toNat_true, Bool.toNat_false, Nat.add_zero, Nat.zero_add, List.append_eq, and_self, ptrCells_some, F11, buildSliceV, lits, srcV_eq, srcK_sl, srcK_str, srcSl_nils, srcSl_rsl, srcSl_sl, appendOp, frow, List.foldl_nil, List.foldl_cons, List.all_nil, List.all_cons, rowV, Bool.not_true, Bool.not_false, Bool.false_and, Bool.and_false, ne_eq, not_false_eq_true, Nat.zero_add, Nat.add_zero, grows_lr, callOut_t, storeHeap, promote, heapSet, elemSet, buildOp, fillV, Lay.place, Bool.or_self, Bool.or_false, Bool.false_or, decide_not, ne_eq, not_true_eq_false, Bool.not_true, Bool.not_false, decide_eq_true_eq, Nat.lt_irrefl, gt_iff_lt, hsl, hk1, hk2, hk3, ho, ho3, hap, hap2, hfin, wptr, alts11_11]
          rw [if_neg (by rw [herr]; simp)]
          refine ⟨rfl, ⟨⟨H3.length, f, on, l, true⟩, rfl, rfl, rfl, by simp only []; omega, R3.pushNil f on l hkd hlen hroom⟩, by simp; omega, fun j es hjd hjc h => ?_⟩
          rw [List.getElem?_set_ne (fun e => hjd e.symm), List.append_assoc, List.getElem?_append_left (by have := (List.getElem?_eq_some_iff.1 h).1; omega)]
          exact hold3 j es hjc h
        · have hrlt : rid < H2.length := (List.getElem?_eq_some_iff.1 hrow).1
          have hrd : rid ≠ d := fun e => by rw [e, ho] at hrow; cases hrow
          have hrow3 : H3[rid]? = some (.row ns (all.map ptrV)) := by rw [he2, List.getElem?_append_left hrlt]; exact hrow
          have hrw : ∀ e : Hp, (H3 ++ e)[rid]? = some (.row ns (all.map ptrV)) := fun e => by rw [List.getElem?_append_left (by omega)]; exact hrow3
          have hap : ∀ e : Hp, (H3 ++ e)[d]? = some (.cells [.agg [.int .i64 g, .hr rid all.length, .sl c 0 (cnt.modify f.toNat (· + 1)).length]]) := fun e => by
            rw [List.getElem?_append_left hd3, ho3]; exact ho
          have hap2 : ∀ (e : Hp) (X : Blk), ((H3 ++ e).set rid X)[d]? = some (.cells [.agg [.int .i64 g, .hr rid all.length, .sl c 0 (cnt.modify f.toNat (· + 1)).length]]) := fun e X => by
            rw [List.getElem?_set, if_neg hrd]; exact hap _
          have hfin : ∀ (e : Hp) (X Y : Blk), (((H3 ++ e).set rid X).set d Y)[d]? = some Y := fun e X Y => by
            rw [List.getElem?_set, if_pos rfl, if_pos (by simp; omega)]
          have hwp := wptrs all
          have q2 : decide ((all.length + 1) * 8 ≤ 70368744177664) = true := by simp; omega
          have q3 : decide (all.length ≤ 4611686018427387903) = true := by simp; omega
          have hw2 : IntKind.i64.wrap (((all.length + 1 : Nat) : Int) - 1) = (all.length : Int) := by rw [IntWalk.i64_in _ (by omega)]; omega
          rw [ho] at ho3
          simp only [WW, partV, eqCells, eqLf, minV, maxV, ifcV, List.map_cons, List.map_nil, List.length_cons, List.length_nil, List.getD_cons_zero, List.getD_cons_succ, List.set_cons_zero, List.set_cons_succ, List.set_nil, ofConst, ofConst1, List.replicate, List.cons_append, List.nil_append, loadOp, Go.Abs.loadCells, binV, Int.toNat_natCast, pickV, List.getElem?_cons_zero, List.getElem?_cons_succ, Option.map_some, Option.bind_some, List.drop_zero, List.drop_succ_cons, List.take_succ_cons, List.take_zero, List.length_map, outR, resAll, resOne, if_true, if_false, and_true, true_and, Bool.true_eq_false, Bool.false_eq_true, forall_const, true_implies, false_implies, implies_true, decide_true, decide_false, beq_self_eq_true, Option.getD_some, Nat.zero_add, Nat.add_zero, storeOp, storeCell, overlay, List.take_nil, List.drop_nil, List.append_nil, lookupOp, keyT, okRes, mapUpdateOp, Bool.and_self, Bool.and_true, Bool.true_and, Bool.not_true, Bool.not_false, gt_iff_lt, ge_iff_le, Nat.reduceSub, Nat.reduceAdd, Int.reduceLT, Int.reduceLE, Int.reduceAdd, Int.reduceSub, Int.reduceToNat, Int.reduceBEq, Int.reduceBNe, Int.reduceMul, Nat.reduceBEq, Nat.reduceBNe, Nat.reduceLT, Nat.reduceLeDiff, Nat.reduceMul, Nat.reduceEqDiff, WD, effB, effH, isPriv, isHeap, isImm, Option.any_some, Option.any_none, Option.isSome_none, chkO, setD, dslot, Bool.toNat_true, Bool.toNat_false, Nat.add_zero, Nat.zero_add, List.append_eq, and_self, ptrCells_some, F11, buildSliceV, lits, srcV_eq, srcK_sl, srcK_str, srcSl_nils, srcSl_rsl, srcSl_sl, appendOp, frow, List.foldl_nil, List.foldl_cons, List.all_nil, List.all_cons, rowV, Bool.not_true, Bool.not_false, Bool.false_and, Bool.and_false, ne_eq, not_false_eq_true, Nat.zero_add, Nat.add_zero, grows_lr, callOut_t, storeHeap, promote, heapSet, elemSet, buildOp, fillV, Lay.place, Bool.or_self, Bool.or_false, Bool.false_or, decide_not, ne_eq, not_true_eq_false, Bool.not_true, Bool.not_false, decide_eq_true_eq, Nat.lt_irrefl, gt_iff_lt, ho, ho3, sx]
          rw [wpCall_eq hcl]
          simp only [WW, partV, eqCells, eqLf, minV, maxV, ifcV, List.map_cons, List.map_nil, List.length_cons, List.length_nil, List.getD_cons_zero, List.getD_cons_succ, List.set_cons_zero, List.set_cons_succ, List.set_nil, ofConst, ofConst1, List.replicate, List.cons_append, List.nil_append, loadOp, Go.Abs.loadCells, binV, Int.toNat_natCast, pickV, List.getElem?_cons_zero, List.getElem?_cons_succ, Option.map_some, Option.bind_some, List.drop_zero, List.drop_succ_cons, List.take_succ_cons, List.take_zero, List.length_map, outR, resAll, resOne, if_true, if_false, and_true, true_and, Bool.true_eq_false, Bool.false_eq_true, forall_const, true_implies, false_implies, implies_true, decide_true, decide_false, beq_self_eq_true, Option.getD_some, Nat.zero_add, Nat.add_zero, storeOp, storeCell, overlay, List.take_nil, List.drop_nil, List.append_nil, lookupOp, keyT, okRes, mapUpdateOp, Bool.and_self, Bool.and_true, Bool.true_and, Bool.not_true, Bool.not_false, gt_iff_lt, ge_iff_le, Nat.reduceSub, Nat.reduceAdd, Int.reduceLT, Int.reduceLE, Int.reduceAdd, Int.reduceSub, Int.reduceToNat, Int.reduceBEq, Int.reduceBNe, Int.reduceMul, Nat.reduceBEq, Nat.reduceBNe, Nat.reduceLT, Nat.reduceLeDiff, Nat.reduceMul, Nat.reduceEqDiff, WD, effB, effH, isPriv, isHeap, isImm, Option.any_some, Option.any_none, Option.isSome_none, chkO, setD, dslot, Bool.toNat_true, Bool.toNat_false, Nat.add_zero, Nat.zero_add, List.append_eq, and_self, ptrCells_some, F11, buildSliceV, lits, srcV_eq, srcK_sl, srcK_str, srcSl_nils, srcSl_rsl, srcSl_sl, appendOp, frow, List.foldl_nil, List.foldl_cons, List.all_nil, List.all_cons, rowV, Bool.not_true, Bool.not_false, Bool.false_and, Bool.and_false, ne_eq, not_false_eq_true, Nat.zero_add, Nat.add_zero, grows_lr, callOut_t, storeHeap, promote, heapSet, elemSet, buildOp, fillV, Lay.place, Bool.or_self, Bool.or_false, Bool.false_or, decide_not, ne_eq, not_true_eq_false, Bool.not_true, Bool.not_false, decide_eq_true_eq, Nat.lt_irrefl, gt_iff_lt, hsl, hk1, hk2, hk3, ho, ho3, hap, hap2, hfin, hrw, hwp, q2, q3, wptr, alts11_11]
          rw [if_neg (by rw [herr]; simp), hw2]
          refine ⟨rfl, ⟨⟨H3.length, f, on, l, true⟩, rfl, rfl, rfl, by simp only []; omega, R3.pushHr f on l hkd hlen hroom hrow3⟩, by simp; omega, fun j es hjd hjc h => ?_⟩
          rw [List.getElem?_set_ne (fun e => hjd e.symm), List.getElem?_set_ne, List.getElem?_append_left (by have := (List.getElem?_eq_some_iff.1 h).1; omega)]
          · exact hold3 j es hjc h
          · rintro rfl; rw [hold3 _ es hjc h] at hrow3; cases hrow3
end Go.Proofs.Ytfjbgmcdkhepkaa

namespace Go.Proofs.Ytfjbgmcdkhepkaa
open Go Go.Abs Go.Proofs
set_option maxRecDepth 100000
set_option maxHeartbeats 2000000
set_option linter.unusedVariables false
set_option linter.unusedSimpArgs false
theorem sameDeps_eq {H : Hp} {x y : V} {l m : List (Int × Int)} (hx : Rd H x (l.map depV)) (hy : Rd H y (m.map depV)) (hl : l.length < 4294967296) :
    EW 13 [x, y] H = some (.ret (.bool (decide (l = m))) false, H) := by
  refine eqOf (runs f13 b13 r13 n13 _ _ ?_)
  simp only [bodyOf, Try.f13, Option.getD_some]
  simp only [WW, partV, eqCells, eqLf, minV, maxV, ifcV, List.map_cons, List.map_nil, List.length_cons, List.length_nil, List.getD_cons_zero, List.getD_cons_succ, List.set_cons_zero, List.set_cons_succ, List.set_nil, ofConst, ofConst1, List.replicate, List.cons_append, List.nil_append, loadOp, Go.Abs.loadCells, binV, Int.toNat_natCast, pickV, List.getElem?_cons_zero, List.getElem?_cons_succ, Option.map_some, Option.bind_some, List.drop_zero, List.drop_succ_cons, List.take_succ_cons, List.take_zero, List.length_map, outR, resAll, resOne, if_true, if_false, and_true, true_and, Bool.true_eq_false, Bool.false_eq_true, forall_const, true_implies, false_implies, implies_true, decide_true, decide_false, beq_self_eq_true, Option.getD_some, Nat.zero_add, Nat.add_zero, storeOp, storeCell, overlay, List.take_nil, List.drop_nil, List.append_nil, lookupOp, keyT, okRes, mapUpdateOp, Bool.and_self, Bool.and_true, Bool.true_and, Bool.not_true, Bool.not_false, gt_iff_lt, ge_iff_le, Nat.reduceSub, Nat.reduceAdd, Int.reduceLT, Int.reduceLE, Int.reduceAdd, Int.reduceSub, Int.reduceToNat, Int.reduceBEq, Int.reduceBNe, Int.reduceMul, Nat.reduceBEq, Nat.reduceBNe, Nat.reduceLT, Nat.reduceLeDiff, Nat.reduceMul, Nat.reduceEqDiff, WD, effB, effH, isPriv, isHeap, isImm, Option.any_some, Option.any_none, Option.isSome_none, chkO, setD, dslot, Bool.toNat_true, Bool.toNat_false, Nat.add_zero, Nat.zero_add, List.append_eq, and_self, ptrCells_some, F13, hx.shutIn, hy.shutIn, hx.len, hy.len]
  refine cSplit (fun h => ?_) (fun h => ?_)
  · simp only [h]
    simp only [WW, partV, eqCells, eqLf, minV, maxV, ifcV, List.map_cons, List.map_nil, List.length_cons, List.length_nil, List.getD_cons_zero, List.getD_cons_succ, List.set_cons_zero, List.set_cons_succ, List.set_nil, ofConst, ofConst1, List.replicate, List.cons_append, List.nil_append, loadOp, Go.Abs.loadCells, binV, Int.toNat_natCast, pickV, List.getElem?_cons_zero, List.getElem?_cons_succ, Option.map_some, Option.bind_some, List.drop_zero, List.drop_succ_cons, List.take_succ_cons, List.take_zero, List.length_map, outR, resAll, resOne, if_true, if_false, and_true, true_and, Bool.true_eq_false, Bool.false_eq_true, forall_const, true_implies, false_implies, implies_true, decide_true, decide_false, beq_self_eq_true, Option.getD_some, Nat.zero_add, Nat.add_zero, storeOp, storeCell, overlay, List.take_nil, List.drop_nil, List.append_nil, lookupOp, keyT, okRes, mapUpdateOp, Bool.and_self, Bool.and_true, Bool.true_and, Bool.not_true, Bool.not_false, gt_iff_lt, ge_iff_le, Nat.reduceSub, Nat.reduceAdd, Int.reduceLT, Int.reduceLE, Int.reduceAdd, Int.reduceSub, Int.reduceToNat, Int.reduceBEq, Int.reduceBNe, Int.reduceMul, Nat.reduceBEq, Nat.reduceBNe, Nat.reduceLT, Nat.reduceLeDiff, Nat.reduceMul, Nat.reduceEqDiff, WD, effB, effH, isPriv, isHeap, isImm, Option.any_some, Option.any_none, Option.isSome_none, chkO, setD, dslot, Bool.toNat_true, Bool.toNat_false, Nat.add_zero, Nat.zero_add, List.append_eq, and_self, ptrCells_some, F13]
    have : l ≠ m := fun e => by subst e; simp at h
    simp [this]
  · simp only [h]
    have hlm : l.length = m.length := by simp at h; omega
    simp only [WW, partV, eqCells, eqLf, minV, maxV, ifcV, List.map_cons, List.map_nil, List.length_cons, List.length_nil, List.getD_cons_zero, List.getD_cons_succ, List.set_cons_zero, List.set_cons_succ, List.set_nil, ofConst, ofConst1, List.replicate, List.cons_append, List.nil_append, loadOp, Go.Abs.loadCells, binV, Int.toNat_natCast, pickV, List.getElem?_cons_zero, List.getElem?_cons_succ, Option.map_some, Option.bind_some, List.drop_zero, List.drop_succ_cons, List.take_succ_cons, List.take_zero, List.length_map, outR, resAll, resOne, if_true, if_false, and_true, true_and, Bool.true_eq_false, Bool.false_eq_true, forall_const, true_implies, false_implies, implies_true, decide_true, decide_false, beq_self_eq_true, Option.getD_some, Nat.zero_add, Nat.add_zero, storeOp, storeCell, overlay, List.take_nil, List.drop_nil, List.append_nil, lookupOp, keyT, okRes, mapUpdateOp, Bool.and_self, Bool.and_true, Bool.true_and, Bool.not_true, Bool.not_false, gt_iff_lt, ge_iff_le, Nat.reduceSub, Nat.reduceAdd, Int.reduceLT, Int.reduceLE, Int.reduceAdd, Int.reduceSub, Int.reduceToNat, Int.reduceBEq, Int.reduceBNe, Int.reduceMul, Nat.reduceBEq, Nat.reduceBNe, Nat.reduceLT, Nat.reduceLeDiff, Nat.reduceMul, Nat.reduceEqDiff, WD, effB, effH, isPriv, isHeap, isImm, Option.any_some, Option.any_none, Option.isSome_none, chkO, setD, dslot, Bool.toNat_true, Bool.toNat_false, Nat.add_zero, Nat.zero_add, List.append_eq, and_self, ptrCells_some, F13]
    refine wC_loop _ (fun n st H' => ∃ i : Nat, st = ⟨L13_4 (.v x) (.v y) (.v (.int .i64 i)), [], []⟩ ∧ H' = H ∧ i ≤ l.length ∧ n = l.length - i ∧ l.take i = m.take i) l.length ⟨0, ?_, rfl, by omega, by omega, rfl⟩ ?_
    · simp only [WN, firstReg, growAll, List.foldl_nil, List.foldl_cons, norm, killS, List.set_cons_zero, List.set_cons_succ, List.map_cons, List.map_nil, List.take_nil, List.take_zero, List.length_nil, growOne, List.getD_cons_zero, List.getD_cons_succ, List.length_cons, List.take_succ_cons, List.nil_append, Nat.reduceLT, Nat.reduceAdd, Nat.zero_add, if_true, F13, L13_4, hx.clip2, hy.clip2]
      rfl
    · rintro n st H' ⟨i, rfl, rfl, hi, hn, hno⟩
      simp only [L13_4]
      simp only [WW, partV, eqCells, eqLf, minV, maxV, ifcV, List.map_cons, List.map_nil, List.length_cons, List.length_nil, List.getD_cons_zero, List.getD_cons_succ, List.set_cons_zero, List.set_cons_succ, List.set_nil, ofConst, ofConst1, List.replicate, List.cons_append, List.nil_append, loadOp, Go.Abs.loadCells, binV, Int.toNat_natCast, pickV, List.getElem?_cons_zero, List.getElem?_cons_succ, Option.map_some, Option.bind_some, List.drop_zero, List.drop_succ_cons, List.take_succ_cons, List.take_zero, List.length_map, outR, resAll, resOne, if_true, if_false, and_true, true_and, Bool.true_eq_false, Bool.false_eq_true, forall_const, true_implies, false_implies, implies_true, decide_true, decide_false, beq_self_eq_true, Option.getD_some, Nat.zero_add, Nat.add_zero, storeOp, storeCell, overlay, List.take_nil, List.drop_nil, List.append_nil, lookupOp, keyT, okRes, mapUpdateOp, Bool.and_self, Bool.and_true, Bool.true_and, Bool.not_true, Bool.not_false, gt_iff_lt, ge_iff_le, Nat.reduceSub, Nat.reduceAdd, Int.reduceLT, Int.reduceLE, Int.reduceAdd, Int.reduceSub, Int.reduceToNat, Int.reduceBEq, Int.reduceBNe, Int.reduceMul, Nat.reduceBEq, Nat.reduceBNe, Nat.reduceLT, Nat.reduceLeDiff, Nat.reduceMul, Nat.reduceEqDiff, WD, effB, effH, isPriv, isHeap, isImm, Option.any_some, Option.any_none, Option.isSome_none, chkO, setD, dslot, Bool.toNat_true, Bool.toNat_false, Nat.add_zero, Nat.zero_add, List.append_eq, and_self, ptrCells_some, F13, hx.shutIn, hy.shutIn, hx.len, hy.len]
      refine cSplit (fun hlt => ?_) (fun hge => ?_)
      · have hi2 : i < l.length := by simpa using hlt
        obtain ⟨d, hd⟩ : ∃ d, l[i]? = some d := ⟨_, List.getElem?_eq_getElem hi2⟩
        obtain ⟨e, he⟩ : ∃ e, m[i]? = some e := ⟨_, List.getElem?_eq_getElem (by omega)⟩
        have hat := depAt hx hd
        have hbt := depAt hy he
        simp only [hlt]
        simp only [WW, partV, eqCells, eqLf, minV, maxV, ifcV, List.map_cons, List.map_nil, List.length_cons, List.length_nil, List.getD_cons_zero, List.getD_cons_succ, List.set_cons_zero, List.set_cons_succ, List.set_nil, ofConst, ofConst1, List.replicate, List.cons_append, List.nil_append, loadOp, Go.Abs.loadCells, binV, Int.toNat_natCast, pickV, List.getElem?_cons_zero, List.getElem?_cons_succ, Option.map_some, Option.bind_some, List.drop_zero, List.drop_succ_cons, List.take_succ_cons, List.take_zero, List.length_map, outR, resAll, resOne, if_true, if_false, and_true, true_and, Bool.true_eq_false, Bool.false_eq_true, forall_const, true_implies, false_implies, implies_true, decide_true, decide_false, beq_self_eq_true, Option.getD_some, Nat.zero_add, Nat.add_zero, storeOp, storeCell, overlay, List.take_nil, List.drop_nil, List.append_nil, lookupOp, keyT, okRes, mapUpdateOp, Bool.and_self, Bool.and_true, Bool.true_and, Bool.not_true, Bool.not_false, gt_iff_lt, ge_iff_le, Nat.reduceSub, Nat.reduceAdd, Int.reduceLT, Int.reduceLE, Int.reduceAdd, Int.reduceSub, Int.reduceToNat, Int.reduceBEq, Int.reduceBNe, Int.reduceMul, Nat.reduceBEq, Nat.reduceBNe, Nat.reduceLT, Nat.reduceLeDiff, Nat.reduceMul, Nat.reduceEqDiff, WD, effB, effH, isPriv, isHeap, isImm, Option.any_some, Option.any_none, Option.isSome_none, chkO, setD, dslot, Bool.toNat_true, Bool.toNat_false, Nat.add_zero, Nat.zero_add, List.append_eq, and_self, ptrCells_some, F13]
        refine wC_dr alts13_6 (by kernel_rfl) ?_
        simp only [WW, partV, eqCells, eqLf, minV, maxV, ifcV, List.map_cons, List.map_nil, List.length_cons, List.length_nil, List.getD_cons_zero, List.getD_cons_succ, List.set_cons_zero, List.set_cons_succ, List.set_nil, ofConst, ofConst1, List.replicate, List.cons_append, List.nil_append, loadOp, Go.Abs.loadCells, binV, Int.toNat_natCast, pickV, List.getElem?_cons_zero, List.getElem?_cons_succ, Option.map_some, Option.bind_some, List.drop_zero, List.drop_succ_cons, List.take_succ_cons, List.take_zero, List.length_map, outR, resAll, resOne, if_true, if_false, and_true, true_and, Bool.true_eq_false, Bool.false_eq_true, forall_const, true_implies, false_implies, implies_true, decide_true, decide_false, beq_self_eq_true, Option.getD_some, Nat.zero_add, Nat.add_zero, storeOp, storeCell, overlay, List.take_nil, List.drop_nil, List.append_nil, lookupOp, keyT, okRes, mapUpdateOp, Bool.and_self, Bool.and_true, Bool.true_and, Bool.not_true, Bool.not_false, gt_iff_lt, ge_iff_le, Nat.reduceSub, Nat.reduceAdd, Int.reduceLT, Int.reduceLE, Int.reduceAdd, Int.reduceSub, Int.reduceToNat, Int.reduceBEq, Int.reduceBNe, Int.reduceMul, Nat.reduceBEq, Nat.reduceBNe, Nat.reduceLT, Nat.reduceLeDiff, Nat.reduceMul, Nat.reduceEqDiff, WD, effB, effH, isPriv, isHeap, isImm, Option.any_some, Option.any_none, Option.isSome_none, chkO, setD, dslot, Bool.toNat_true, Bool.toNat_false, Nat.add_zero, Nat.zero_add, List.append_eq, and_self, ptrCells_some, F13, hx.shutIn, hy.shutIn, hat.at1 hx, hat.cells, hbt.at1 hy, hbt.cells, depV, alts13_6]
        refine cSplit (fun hT => ?_) (fun hF => ?_)
        · simp only [hT]
          simp only [WW, partV, eqCells, eqLf, minV, maxV, ifcV, List.map_cons, List.map_nil, List.length_cons, List.length_nil, List.getD_cons_zero, List.getD_cons_succ, List.set_cons_zero, List.set_cons_succ, List.set_nil, ofConst, ofConst1, List.replicate, List.cons_append, List.nil_append, loadOp, Go.Abs.loadCells, binV, Int.toNat_natCast, pickV, List.getElem?_cons_zero, List.getElem?_cons_succ, Option.map_some, Option.bind_some, List.drop_zero, List.drop_succ_cons, List.take_succ_cons, List.take_zero, List.length_map, outR, resAll, resOne, if_true, if_false, and_true, true_and, Bool.true_eq_false, Bool.false_eq_true, forall_const, true_implies, false_implies, implies_true, decide_true, decide_false, beq_self_eq_true, Option.getD_some, Nat.zero_add, Nat.add_zero, storeOp, storeCell, overlay, List.take_nil, List.drop_nil, List.append_nil, lookupOp, keyT, okRes, mapUpdateOp, Bool.and_self, Bool.and_true, Bool.true_and, Bool.not_true, Bool.not_false, gt_iff_lt, ge_iff_le, Nat.reduceSub, Nat.reduceAdd, Int.reduceLT, Int.reduceLE, Int.reduceAdd, Int.reduceSub, Int.reduceToNat, Int.reduceBEq, Int.reduceBNe, Int.reduceMul, Nat.reduceBEq, Nat.reduceBNe, Nat.reduceLT, Nat.reduceLeDiff, Nat.reduceMul, Nat.reduceEqDiff, WD, effB, effH, isPriv, isHeap, isImm, Option.any_some, Option.any_none, Option.isSome_none, chkO, setD, dslot, Bool.toNat_true, Bool.toNat_false, Nat.add_zero, Nat.zero_add, List.append_eq, and_self, ptrCells_some, F13]
          have : l ≠ m := fun e2 => by subst e2; rw [hd] at he; cases he; simp at hT
          simp [this]
        · simp only [hF]
          have hde : d = e := by
            obtain ⟨d1, d2⟩ := d
            obtain ⟨e1, e2⟩ := e
            simpa using hF
          simp only [WW, partV, eqCells, eqLf, minV, maxV, ifcV, List.map_cons, List.map_nil, List.length_cons, List.length_nil, List.getD_cons_zero, List.getD_cons_succ, List.set_cons_zero, List.set_cons_succ, List.set_nil, ofConst, ofConst1, List.replicate, List.cons_append, List.nil_append, loadOp, Go.Abs.loadCells, binV, Int.toNat_natCast, pickV, List.getElem?_cons_zero, List.getElem?_cons_succ, Option.map_some, Option.bind_some, List.drop_zero, List.drop_succ_cons, List.take_succ_cons, List.take_zero, List.length_map, outR, resAll, resOne, if_true, if_false, and_true, true_and, Bool.true_eq_false, Bool.false_eq_true, forall_const, true_implies, false_implies, implies_true, decide_true, decide_false, beq_self_eq_true, Option.getD_some, Nat.zero_add, Nat.add_zero, storeOp, storeCell, overlay, List.take_nil, List.drop_nil, List.append_nil, lookupOp, keyT, okRes, mapUpdateOp, Bool.and_self, Bool.and_true, Bool.true_and, Bool.not_true, Bool.not_false, gt_iff_lt, ge_iff_le, Nat.reduceSub, Nat.reduceAdd, Int.reduceLT, Int.reduceLE, Int.reduceAdd, Int.reduceSub, Int.reduceToNat, Int.reduceBEq, Int.reduceBNe, Int.reduceMul, Nat.reduceBEq, Nat.reduceBNe, Nat.reduceLT, Nat.reduceLeDiff, Nat.reduceMul, Nat.reduceEqDiff, WD, effB, effH, isPriv, isHeap, isImm, Option.any_some, Option.any_none, Option.isSome_none, chkO, setD, dslot, Bool.toNat_true, Bool.toNat_false, Nat.add_zero, Nat.zero_add, List.append_eq, and_self, ptrCells_some, F13]
          refine ⟨n - 1, by omega, i + 1, ?_, by omega, by omega, ?_⟩
          · simp only [WN, firstReg, growAll, List.foldl_nil, List.foldl_cons, norm, killS, List.set_cons_zero, List.set_cons_succ, List.map_cons, List.map_nil, List.take_nil, List.take_zero, List.length_nil, growOne, List.getD_cons_zero, List.getD_cons_succ, List.length_cons, List.take_succ_cons, List.nil_append, Nat.reduceLT, Nat.reduceAdd, Nat.zero_add, if_true, F13, hx.clip2, hy.clip2]
            rw [IntWalk.i64_in _ (by omega)]; rfl
          · rw [List.take_add_one, List.take_add_one, hd, he, hno, hde]
      · have hi2 : i = l.length := by simp at hge; omega
        simp only [hge]
        simp only [WW, partV, eqCells, eqLf, minV, maxV, ifcV, List.map_cons, List.map_nil, List.length_cons, List.length_nil, List.getD_cons_zero, List.getD_cons_succ, List.set_cons_zero, List.set_cons_succ, List.set_nil, ofConst, ofConst1, List.replicate, List.cons_append, List.nil_append, loadOp, Go.Abs.loadCells, binV, Int.toNat_natCast, pickV, List.getElem?_cons_zero, List.getElem?_cons_succ, Option.map_some, Option.bind_some, List.drop_zero, List.drop_succ_cons, List.take_succ_cons, List.take_zero, List.length_map, outR, resAll, resOne, if_true, if_false, and_true, true_and, Bool.true_eq_false, Bool.false_eq_true, forall_const, true_implies, false_implies, implies_true, decide_true, decide_false, beq_self_eq_true, Option.getD_some, Nat.zero_add, Nat.add_zero, storeOp, storeCell, overlay, List.take_nil, List.drop_nil, List.append_nil, lookupOp, keyT, okRes, mapUpdateOp, Bool.and_self, Bool.and_true, Bool.true_and, Bool.not_true, Bool.not_false, gt_iff_lt, ge_iff_le, Nat.reduceSub, Nat.reduceAdd, Int.reduceLT, Int.reduceLE, Int.reduceAdd, Int.reduceSub, Int.reduceToNat, Int.reduceBEq, Int.reduceBNe, Int.reduceMul, Nat.reduceBEq, Nat.reduceBNe, Nat.reduceLT, Nat.reduceLeDiff, Nat.reduceMul, Nat.reduceEqDiff, WD, effB, effH, isPriv, isHeap, isImm, Option.any_some, Option.any_none, Option.isSome_none, chkO, setD, dslot, Bool.toNat_true, Bool.toNat_false, Nat.add_zero, Nat.zero_add, List.append_eq, and_self, ptrCells_some, F13]
        subst hi2
        rw [List.take_length, hlm, List.take_length] at hno
        simp [hno]
/-- Memory that is not the registry's is written to. -/
theorem Reg.poke {H : Hp} {d c : Nat} {g : Int} {cnt : List Int} {all : List Ver} (R : Reg H d c g cnt all) {id : Nat} {es : List V} (h : H[id]? = some (.cells es)) (hd : id ≠ d) (hc : id ≠ c) (hv : id ∉ all.map (·.id)) (es' : List V) : Reg (H.set id (.cells es')) d c g cnt all := by
  obtain ⟨al, h1, h2⟩ := R.ex
  have keep : ∀ {k : Nat} {b : Blk}, k ≠ id → H[k]? = some b → (H.set id (.cells es'))[k]? = some b := fun {k b} hk e => by
    rw [List.getElem?_set_ne (fun e => hk e.symm)]; exact e
  refine ⟨⟨al, keep hd.symm h1, h2.imp (fun e => e) fun ⟨rid, ns, a, b, c⟩ => ⟨rid, ns, a, keep (fun e => by rw [e, h] at b; cases b) b, c⟩⟩, keep hc.symm R.cn, fun v hvm => ⟨keep (fun e => hv (by rw [← e]; exact List.mem_map.2 ⟨v, hvm, rfl⟩)) (R.vs v hvm).1, (R.vs v hvm).2⟩, R.nd, R.nc, R.len, R.cl⟩
/-- A row of Deps that may be written to, beside the registry -/
def Wr (H : Hp) (d c : Nat) (all : List Ver) (x : V) (n : Nat) : Prop := (n = 0 ∧ (x = .nils ∨ x = .rsl [])) ∨ ∃ id, ∃ m : List (Int × Int), x = .sl id 0 n ∧ H[id]? = some (.cells (m.map depV)) ∧ m.length = n ∧ id ≠ d ∧ id ≠ c ∧ id ∉ all.map (·.id)
theorem Wr.rd {H : Hp} {d c n : Nat} {all : List Ver} {x : V} (h : Wr H d c all x n) : ∃ m : List (Int × Int), Rd H x (m.map depV) ∧ m.length = n := by
  rcases h with ⟨rfl, rfl | rfl⟩ | ⟨id, m, rfl, h, rfl, _⟩
  · exact ⟨[], .nils, rfl⟩
  · exact ⟨[], .rsl _, rfl⟩
  · have := Rd.whole h
    rw [List.length_map] at this
    exact ⟨m, this, rfl⟩
theorem addErr_one (l : List (Int × Int)) : addErr 50 [0, 0] [] 1 l = 1 ∨ (addErr 50 [0, 0] [] 1 l = 0 ∧ ∀ y ∈ l, 0 ≤ y.1 ∧ y.1 < 50) := by
  unfold addErr
  split
  · exact .inl rfl
  · rename_i h
    rw [if_neg (by simp), if_neg (by simp [getCnt])]
    refine .inr ⟨rfl, fun y hy => ?_⟩
    simp only [Bool.or_eq_true, not_or, Bool.not_eq_true, List.any_eq_false, Bool.or_eq_false_iff, decide_eq_false_iff_not] at h
    have := h.1.2 y hy
    simp at this
    omega
theorem Wr.clip2 {H : Hp} {d c n : Nat} {all : List Ver} {x : V} (h : Wr H d c all x n) (a b : Nat) : Abs.clip a b (.v x) = .v x := by
  obtain ⟨m, h, _⟩ := h.rd; exact h.clip2 a b
theorem Wr.shut {H : Hp} {d c n : Nat} {all : List Ver} {x : V} (h : Wr H d c all x n) (st : St) : sealV st x = x := by
  obtain ⟨m, h, _⟩ := h.rd; exact h.shutIn st
theorem Wr.len {H : Hp} {d c n : Nat} {all : List Ver} {x : V} (h : Wr H d c all x n) (e : TypeId) : lenK H (.slice e) x = some (.int .i64 n) := by
  obtain ⟨m, hm, hl⟩ := h.rd; rw [hm.len, List.length_map, hl]
theorem clone_sx {H : Hp} {x : V} {l : List (Int × Int)} (h : Sx H x (l.map depV)) : Sx (cloneR x l H).2 (cloneR x l H).1 (l.map depV) := by
  unfold cloneR
  split
  · rename_i hn
    rw [(h.nil_l hn).2]; exact .nils
  · cases l with
    | nil => exact .rsl []
    | cons a b =>
      have := Sx.whole (H := H ++ [Blk.cells ((a :: b).map depV)]) (id := H.length) (es := (a :: b).map depV) (by simp)
      rw [List.length_map] at this
      exact this
theorem hits_mem {p : Nat → Ver → Bool} {A : List Ver} {n j : Nat} (h : j ∈ hits p A n) : j < n ∧ ∃ v, A[j]? = some v ∧ v.ok = true ∧ p j v = true := by
  unfold hits at h
  rw [List.mem_filter] at h
  refine ⟨List.mem_range.1 h.1, ?_⟩
  have h2 := h.2
  unfold hit at h2
  cases hA : A[j]? with
  | none => rw [hA] at h2; cases h2
  | some v => rw [hA] at h2; simp only [Bool.and_eq_true] at h2; exact ⟨v, rfl, h2⟩
theorem hits_off {p : Nat → Ver → Bool} {A : List Ver} {j : Nat} (h : j ∈ hits p A A.length) : ∃ w, (upd p A A.length)[j]? = some w ∧ w.ok = false := by
  obtain ⟨hj, v, h1, h2, h3⟩ := hits_mem h
  refine ⟨v.off, ?_, rfl⟩
  rw [upd_at, h1]
  simp [hj, h2, h3]
theorem depsOwn_eq (x : V) (l : List (Int × Int)) (hx : IsDeps x l) (hu : ∀ y ∈ l, 0 ≤ y.2 ∧ y.2 < 18446744073709551616) (v : Int) :
    wpCall EW 3 [x, .int .u64 v] [] (fun out H' => out = .ret (.bool true) false) := by
  have hr := fun H => hx.rd H
  have hs := (hr []).shutIn
  refine runs f3 b3 r3 n3 _ _ ?_
  simp only [bodyOf, Try.f3, Option.getD_some]
  simp only [WW, partV, eqCells, eqLf, minV, maxV, ifcV, List.map_cons, List.map_nil, List.length_cons, List.length_nil, List.getD_cons_zero, List.getD_cons_succ, List.set_cons_zero, List.set_cons_succ, List.set_nil, ofConst, ofConst1, List.replicate, List.cons_append, List.nil_append, loadOp, Go.Abs.loadCells, binV, Int.toNat_natCast, pickV, List.getElem?_cons_zero, List.getElem?_cons_succ, Option.map_some, Option.bind_some, List.drop_zero, List.drop_succ_cons, List.take_succ_cons, List.take_zero, List.length_map, outR, resAll, resOne, if_true, if_false, and_true, true_and, Bool.true_eq_false, Bool.false_eq_true, forall_const, true_implies, false_implies, implies_true, decide_true, decide_false, beq_self_eq_true, Option.getD_some, Nat.zero_add, Nat.add_zero, storeOp, storeCell, overlay, List.take_nil, List.drop_nil, List.append_nil, lookupOp, keyT, okRes, mapUpdateOp, Bool.and_self, Bool.and_true, Bool.true_and, Bool.not_true, Bool.not_false, gt_iff_lt, ge_iff_le, Nat.reduceSub, Nat.reduceAdd, Int.reduceLT, Int.reduceLE, Int.reduceAdd, Int.reduceSub, Int.reduceToNat, Int.reduceBEq, Int.reduceBNe, Int.reduceMul, Nat.reduceBEq, Nat.reduceBNe, Nat.reduceLT, Nat.reduceLeDiff, Nat.reduceMul, Nat.reduceEqDiff, WD, effB, effH, isPriv, isHeap, isImm, Option.any_some, Option.any_none, Option.isSome_none, chkO, setD, dslot, Bool.toNat_true, Bool.toNat_false, Nat.add_zero, Nat.zero_add, List.append_eq, and_self, ptrCells_some, F3, hs, (hr _).len]
  refine cSplit (fun h => ?_) (fun h => ?_)
  · simp only [h]
    simp only [WW, partV, eqCells, eqLf, minV, maxV, ifcV, List.map_cons, List.map_nil, List.length_cons, List.length_nil, List.getD_cons_zero, List.getD_cons_succ, List.set_cons_zero, List.set_cons_succ, List.set_nil, ofConst, ofConst1, List.replicate, List.cons_append, List.nil_append, loadOp, Go.Abs.loadCells, binV, Int.toNat_natCast, pickV, List.getElem?_cons_zero, List.getElem?_cons_succ, Option.map_some, Option.bind_some, List.drop_zero, List.drop_succ_cons, List.take_succ_cons, List.take_zero, List.length_map, outR, resAll, resOne, if_true, if_false, and_true, true_and, Bool.true_eq_false, Bool.false_eq_true, forall_const, true_implies, false_implies, implies_true, decide_true, decide_false, beq_self_eq_true, Option.getD_some, Nat.zero_add, Nat.add_zero, storeOp, storeCell, overlay, List.take_nil, List.drop_nil, List.append_nil, lookupOp, keyT, okRes, mapUpdateOp, Bool.and_self, Bool.and_true, Bool.true_and, Bool.not_true, Bool.not_false, gt_iff_lt, ge_iff_le, Nat.reduceSub, Nat.reduceAdd, Int.reduceLT, Int.reduceLE, Int.reduceAdd, Int.reduceSub, Int.reduceToNat, Int.reduceBEq, Int.reduceBNe, Int.reduceMul, Nat.reduceBEq, Nat.reduceBNe, Nat.reduceLT, Nat.reduceLeDiff, Nat.reduceMul, Nat.reduceEqDiff, WD, effB, effH, isPriv, isHeap, isImm, Option.any_some, Option.any_none, Option.isSome_none, chkO, setD, dslot, Bool.toNat_true, Bool.toNat_false, Nat.add_zero, Nat.zero_add, List.append_eq, and_self, ptrCells_some, F3]
    rw [wpCall_eq (live_eq _)]
    simp only [WW, partV, eqCells, eqLf, minV, maxV, ifcV, List.map_cons, List.map_nil, List.length_cons, List.length_nil, List.getD_cons_zero, List.getD_cons_succ, List.set_cons_zero, List.set_cons_succ, List.set_nil, ofConst, ofConst1, List.replicate, List.cons_append, List.nil_append, loadOp, Go.Abs.loadCells, binV, Int.toNat_natCast, pickV, List.getElem?_cons_zero, List.getElem?_cons_succ, Option.map_some, Option.bind_some, List.drop_zero, List.drop_succ_cons, List.take_succ_cons, List.take_zero, List.length_map, outR, resAll, resOne, if_true, if_false, and_true, true_and, Bool.true_eq_false, Bool.false_eq_true, forall_const, true_implies, false_implies, implies_true, decide_true, decide_false, beq_self_eq_true, Option.getD_some, Nat.zero_add, Nat.add_zero, storeOp, storeCell, overlay, List.take_nil, List.drop_nil, List.append_nil, lookupOp, keyT, okRes, mapUpdateOp, Bool.and_self, Bool.and_true, Bool.true_and, Bool.not_true, Bool.not_false, gt_iff_lt, ge_iff_le, Nat.reduceSub, Nat.reduceAdd, Int.reduceLT, Int.reduceLE, Int.reduceAdd, Int.reduceSub, Int.reduceToNat, Int.reduceBEq, Int.reduceBNe, Int.reduceMul, Nat.reduceBEq, Nat.reduceBNe, Nat.reduceLT, Nat.reduceLeDiff, Nat.reduceMul, Nat.reduceEqDiff, WD, effB, effH, isPriv, isHeap, isImm, Option.any_some, Option.any_none, Option.isSome_none, chkO, setD, dslot, Bool.toNat_true, Bool.toNat_false, Nat.add_zero, Nat.zero_add, List.append_eq, and_self, ptrCells_some, F3]
  · have hlen : l.length ≤ 40 := by simp at h; omega
    simp only [h]
    simp only [WW, partV, eqCells, eqLf, minV, maxV, ifcV, List.map_cons, List.map_nil, List.length_cons, List.length_nil, List.getD_cons_zero, List.getD_cons_succ, List.set_cons_zero, List.set_cons_succ, List.set_nil, ofConst, ofConst1, List.replicate, List.cons_append, List.nil_append, loadOp, Go.Abs.loadCells, binV, Int.toNat_natCast, pickV, List.getElem?_cons_zero, List.getElem?_cons_succ, Option.map_some, Option.bind_some, List.drop_zero, List.drop_succ_cons, List.take_succ_cons, List.take_zero, List.length_map, outR, resAll, resOne, if_true, if_false, and_true, true_and, Bool.true_eq_false, Bool.false_eq_true, forall_const, true_implies, false_implies, implies_true, decide_true, decide_false, beq_self_eq_true, Option.getD_some, Nat.zero_add, Nat.add_zero, storeOp, storeCell, overlay, List.take_nil, List.drop_nil, List.append_nil, lookupOp, keyT, okRes, mapUpdateOp, Bool.and_self, Bool.and_true, Bool.true_and, Bool.not_true, Bool.not_false, gt_iff_lt, ge_iff_le, Nat.reduceSub, Nat.reduceAdd, Int.reduceLT, Int.reduceLE, Int.reduceAdd, Int.reduceSub, Int.reduceToNat, Int.reduceBEq, Int.reduceBNe, Int.reduceMul, Nat.reduceBEq, Nat.reduceBNe, Nat.reduceLT, Nat.reduceLeDiff, Nat.reduceMul, Nat.reduceEqDiff, WD, effB, effH, isPriv, isHeap, isImm, Option.any_some, Option.any_none, Option.isSome_none, chkO, setD, dslot, Bool.toNat_true, Bool.toNat_false, Nat.add_zero, Nat.zero_add, List.append_eq, and_self, ptrCells_some, F3]
    refine wpCall_of (new_eq 2 50 []) ?_
    rintro out H1 hp
    rw [if_neg (by decide)] at hp
    obtain ⟨rfl, R0, _⟩ := hp
    simp only [List.length_nil, Nat.zero_add] at R0
    simp only [WW, partV, eqCells, eqLf, minV, maxV, ifcV, List.map_cons, List.map_nil, List.length_cons, List.length_nil, List.getD_cons_zero, List.getD_cons_succ, List.set_cons_zero, List.set_cons_succ, List.set_nil, ofConst, ofConst1, List.replicate, List.cons_append, List.nil_append, loadOp, Go.Abs.loadCells, binV, Int.toNat_natCast, pickV, List.getElem?_cons_zero, List.getElem?_cons_succ, Option.map_some, Option.bind_some, List.drop_zero, List.drop_succ_cons, List.take_succ_cons, List.take_zero, List.length_map, outR, resAll, resOne, if_true, if_false, and_true, true_and, Bool.true_eq_false, Bool.false_eq_true, forall_const, true_implies, false_implies, implies_true, decide_true, decide_false, beq_self_eq_true, Option.getD_some, Nat.zero_add, Nat.add_zero, storeOp, storeCell, overlay, List.take_nil, List.drop_nil, List.append_nil, lookupOp, keyT, okRes, mapUpdateOp, Bool.and_self, Bool.and_true, Bool.true_and, Bool.not_true, Bool.not_false, gt_iff_lt, ge_iff_le, Nat.reduceSub, Nat.reduceAdd, Int.reduceLT, Int.reduceLE, Int.reduceAdd, Int.reduceSub, Int.reduceToNat, Int.reduceBEq, Int.reduceBNe, Int.reduceMul, Nat.reduceBEq, Nat.reduceBNe, Nat.reduceLT, Nat.reduceLeDiff, Nat.reduceMul, Nat.reduceEqDiff, WD, effB, effH, isPriv, isHeap, isImm, Option.any_some, Option.any_none, Option.isSome_none, chkO, setD, dslot, Bool.toNat_true, Bool.toNat_false, Nat.add_zero, Nat.zero_add, List.append_eq, and_self, ptrCells_some, F3, wpCall_eq (num_eq _ _)]
    have R0' : Reg H1 1 0 50 [0, 0] [] := R0
    have hd1 := R0'.lt.d
    have hcp : ∀ (st : St) (rid : Nat) (H : Hp) (d : Option Nat), st.r[rid]? = some ⟨true, false, []⟩ → appendOp Try.prog .heap st H d 34 (.lr rid 0) (l.map depV) = some (putS st d (.v (copyR (l.map depV) H).1), (copyR (l.map depV) H).2) := fun st rid H d hr =>
      app_copy hr (by rw [size34]; exact wide_dep l) (by rw [room34]; simp; omega)
    simp only [WW, partV, eqCells, eqLf, minV, maxV, ifcV, List.map_cons, List.map_nil, List.length_cons, List.length_nil, List.getD_cons_zero, List.getD_cons_succ, List.set_cons_zero, List.set_cons_succ, List.set_nil, ofConst, ofConst1, List.replicate, List.cons_append, List.nil_append, loadOp, Go.Abs.loadCells, binV, Int.toNat_natCast, pickV, List.getElem?_cons_zero, List.getElem?_cons_succ, Option.map_some, Option.bind_some, List.drop_zero, List.drop_succ_cons, List.take_succ_cons, List.take_zero, List.length_map, outR, resAll, resOne, if_true, if_false, and_true, true_and, Bool.true_eq_false, Bool.false_eq_true, forall_const, true_implies, false_implies, implies_true, decide_true, decide_false, beq_self_eq_true, Option.getD_some, Nat.zero_add, Nat.add_zero, storeOp, storeCell, overlay, List.take_nil, List.drop_nil, List.append_nil, lookupOp, keyT, okRes, mapUpdateOp, Bool.and_self, Bool.and_true, Bool.true_and, Bool.not_true, Bool.not_false, gt_iff_lt, ge_iff_le, Nat.reduceSub, Nat.reduceAdd, Int.reduceLT, Int.reduceLE, Int.reduceAdd, Int.reduceSub, Int.reduceToNat, Int.reduceBEq, Int.reduceBNe, Int.reduceMul, Nat.reduceBEq, Nat.reduceBNe, Nat.reduceLT, Nat.reduceLeDiff, Nat.reduceMul, Nat.reduceEqDiff, WD, effB, effH, isPriv, isHeap, isImm, Option.any_some, Option.any_none, Option.isSome_none, chkO, setD, dslot, Bool.toNat_true, Bool.toNat_false, Nat.add_zero, Nat.zero_add, List.append_eq, and_self, ptrCells_some, F3, hs, (hr _).srcSl, hcp, buildSliceV, lits, srcV_eq, srcK_sl, srcK_str, srcSl_nils, srcSl_rsl, srcSl_sl, frow, List.foldl_nil, List.foldl_cons, List.all_nil, List.all_cons, rowV, Bool.not_true, Bool.not_false, Bool.false_and, Bool.and_false, ne_eq, not_false_eq_true, Nat.zero_add, Nat.add_zero, grows_lr, callOut_t]
    have hcs := copy_sx (es := l.map depV) (H := H1)
    have hW : Wr (copyR (l.map depV) H1).2 1 0 [] (copyR (l.map depV) H1).1 l.length := by
      unfold copyR
      cases l with
      | nil => exact .inl ⟨rfl, .inr rfl⟩
      | cons a b => exact .inr ⟨H1.length, a :: b, by simp, by simp, rfl, by omega, by omega, by simp⟩
    have hRC : Reg (copyR (l.map depV) H1).2 1 0 50 [0, 0] [] := by
      unfold copyR; split
      · exact R0'
      · exact R0'.more _
    generalize copyR (l.map depV) H1 = K at hcs hW hRC ⊢
    obtain ⟨cv, HC⟩ := K
    simp only at hcs hW hRC
    simp only [WW, partV, eqCells, eqLf, minV, maxV, ifcV, List.map_cons, List.map_nil, List.length_cons, List.length_nil, List.getD_cons_zero, List.getD_cons_succ, List.set_cons_zero, List.set_cons_succ, List.set_nil, ofConst, ofConst1, List.replicate, List.cons_append, List.nil_append, loadOp, Go.Abs.loadCells, binV, Int.toNat_natCast, pickV, List.getElem?_cons_zero, List.getElem?_cons_succ, Option.map_some, Option.bind_some, List.drop_zero, List.drop_succ_cons, List.take_succ_cons, List.take_zero, List.length_map, outR, resAll, resOne, if_true, if_false, and_true, true_and, Bool.true_eq_false, Bool.false_eq_true, forall_const, true_implies, false_implies, implies_true, decide_true, decide_false, beq_self_eq_true, Option.getD_some, Nat.zero_add, Nat.add_zero, storeOp, storeCell, overlay, List.take_nil, List.drop_nil, List.append_nil, lookupOp, keyT, okRes, mapUpdateOp, Bool.and_self, Bool.and_true, Bool.true_and, Bool.not_true, Bool.not_false, gt_iff_lt, ge_iff_le, Nat.reduceSub, Nat.reduceAdd, Int.reduceLT, Int.reduceLE, Int.reduceAdd, Int.reduceSub, Int.reduceToNat, Int.reduceBEq, Int.reduceBNe, Int.reduceMul, Nat.reduceBEq, Nat.reduceBNe, Nat.reduceLT, Nat.reduceLeDiff, Nat.reduceMul, Nat.reduceEqDiff, WD, effB, effH, isPriv, isHeap, isImm, Option.any_some, Option.any_none, Option.isSome_none, chkO, setD, dslot, Bool.toNat_true, Bool.toNat_false, Nat.add_zero, Nat.zero_add, List.append_eq, and_self, ptrCells_some, F3, hW.shut]
    refine wpCall_of (add_eq hRC 1 cv l hcs (by omega) (fun id lo n e => by
      rcases hW with ⟨_, rfl | rfl⟩ | ⟨id', m, rfl, _, _, _, h, _⟩
      · cases e
      · cases e
      · cases e; exact h) (by simp) (by decide)) ?_
    rintro out H2 hp
    rcases addErr_one l with he | ⟨he, hrg⟩
    · rw [if_pos (by rw [he]; decide), he] at hp
      obtain ⟨rfl, _⟩ := hp
      simp only [WW, partV, eqCells, eqLf, minV, maxV, ifcV, List.map_cons, List.map_nil, List.length_cons, List.length_nil, List.getD_cons_zero, List.getD_cons_succ, List.set_cons_zero, List.set_cons_succ, List.set_nil, ofConst, ofConst1, List.replicate, List.cons_append, List.nil_append, loadOp, Go.Abs.loadCells, binV, Int.toNat_natCast, pickV, List.getElem?_cons_zero, List.getElem?_cons_succ, Option.map_some, Option.bind_some, List.drop_zero, List.drop_succ_cons, List.take_succ_cons, List.take_zero, List.length_map, outR, resAll, resOne, if_true, if_false, and_true, true_and, Bool.true_eq_false, Bool.false_eq_true, forall_const, true_implies, false_implies, implies_true, decide_true, decide_false, beq_self_eq_true, Option.getD_some, Nat.zero_add, Nat.add_zero, storeOp, storeCell, overlay, List.take_nil, List.drop_nil, List.append_nil, lookupOp, keyT, okRes, mapUpdateOp, Bool.and_self, Bool.and_true, Bool.true_and, Bool.not_true, Bool.not_false, gt_iff_lt, ge_iff_le, Nat.reduceSub, Nat.reduceAdd, Int.reduceLT, Int.reduceLE, Int.reduceAdd, Int.reduceSub, Int.reduceToNat, Int.reduceBEq, Int.reduceBNe, Int.reduceMul, Nat.reduceBEq, Nat.reduceBNe, Nat.reduceLT, Nat.reduceLeDiff, Nat.reduceMul, Nat.reduceEqDiff, WD, effB, effH, isPriv, isHeap, isImm, Option.any_some, Option.any_none, Option.isSome_none, chkO, setD, dslot, Bool.toNat_true, Bool.toNat_false, Nat.add_zero, Nat.zero_add, List.append_eq, and_self, ptrCells_some, F3, wpCall_eq (num_eq _ _)]
      rw [wpCall_eq (live_eq _)]
      simp only [WW, partV, eqCells, eqLf, minV, maxV, ifcV, List.map_cons, List.map_nil, List.length_cons, List.length_nil, List.getD_cons_zero, List.getD_cons_succ, List.set_cons_zero, List.set_cons_succ, List.set_nil, ofConst, ofConst1, List.replicate, List.cons_append, List.nil_append, loadOp, Go.Abs.loadCells, binV, Int.toNat_natCast, pickV, List.getElem?_cons_zero, List.getElem?_cons_succ, Option.map_some, Option.bind_some, List.drop_zero, List.drop_succ_cons, List.take_succ_cons, List.take_zero, List.length_map, outR, resAll, resOne, if_true, if_false, and_true, true_and, Bool.true_eq_false, Bool.false_eq_true, forall_const, true_implies, false_implies, implies_true, decide_true, decide_false, beq_self_eq_true, Option.getD_some, Nat.zero_add, Nat.add_zero, storeOp, storeCell, overlay, List.take_nil, List.drop_nil, List.append_nil, lookupOp, keyT, okRes, mapUpdateOp, Bool.and_self, Bool.and_true, Bool.true_and, Bool.not_true, Bool.not_false, gt_iff_lt, ge_iff_le, Nat.reduceSub, Nat.reduceAdd, Int.reduceLT, Int.reduceLE, Int.reduceAdd, Int.reduceSub, Int.reduceToNat, Int.reduceBEq, Int.reduceBNe, Int.reduceMul, Nat.reduceBEq, Nat.reduceBNe, Nat.reduceLT, Nat.reduceLeDiff, Nat.reduceMul, Nat.reduceEqDiff, WD, effB, effH, isPriv, isHeap, isImm, Option.any_some, Option.any_none, Option.isSome_none, chkO, setD, dslot, Bool.toNat_true, Bool.toNat_false, Nat.add_zero, Nat.zero_add, List.append_eq, and_self, ptrCells_some, F3]
    · rw [if_neg (by rw [he]; decide)] at hp
      obtain ⟨rfl, ⟨v1, hv1, hv2, hv3, hv4, R2⟩, hl2, hk2⟩ := hp
      have R2' : Reg H2 1 0 50 [0, 1] [v1] := R2
      clear R2
      have hW2 : Wr H2 1 0 [v1] cv l.length := by
        rcases hW with h | ⟨id, m, rfl, h1, h2, h3, h4, h5⟩
        · exact .inl h
        · refine .inr ⟨id, m, rfl, hk2 _ _ h3 h4 h1, h2, h3, h4, ?_⟩
          have := (List.getElem?_eq_some_iff.1 h1).1
          simp; omega
      simp only [WW, partV, eqCells, eqLf, minV, maxV, ifcV, List.map_cons, List.map_nil, List.length_cons, List.length_nil, List.getD_cons_zero, List.getD_cons_succ, List.set_cons_zero, List.set_cons_succ, List.set_nil, ofConst, ofConst1, List.replicate, List.cons_append, List.nil_append, loadOp, Go.Abs.loadCells, binV, Int.toNat_natCast, pickV, List.getElem?_cons_zero, List.getElem?_cons_succ, Option.map_some, Option.bind_some, List.drop_zero, List.drop_succ_cons, List.take_succ_cons, List.take_zero, List.length_map, outR, resAll, resOne, if_true, if_false, and_true, true_and, Bool.true_eq_false, Bool.false_eq_true, forall_const, true_implies, false_implies, implies_true, decide_true, decide_false, beq_self_eq_true, Option.getD_some, Nat.zero_add, Nat.add_zero, storeOp, storeCell, overlay, List.take_nil, List.drop_nil, List.append_nil, lookupOp, keyT, okRes, mapUpdateOp, Bool.and_self, Bool.and_true, Bool.true_and, Bool.not_true, Bool.not_false, gt_iff_lt, ge_iff_le, Nat.reduceSub, Nat.reduceAdd, Int.reduceLT, Int.reduceLE, Int.reduceAdd, Int.reduceSub, Int.reduceToNat, Int.reduceBEq, Int.reduceBNe, Int.reduceMul, Nat.reduceBEq, Nat.reduceBNe, Nat.reduceLT, Nat.reduceLeDiff, Nat.reduceMul, Nat.reduceEqDiff, WD, effB, effH, isPriv, isHeap, isImm, Option.any_some, Option.any_none, Option.isSome_none, chkO, setD, dslot, Bool.toNat_true, Bool.toNat_false, Nat.add_zero, Nat.zero_add, List.append_eq, and_self, ptrCells_some, F3, wpCall_eq (num_eq _ _)]
      refine wC_loop _ (fun n st H' => ∃ i : Nat, st = ⟨L3_11 (.v x) (.v (.ptr 1 0 0)) (.v cv) (.v (.int .i64 0)) (.v (.int .i64 i)), [], [⟨true, false, []⟩]⟩ ∧ i ≤ l.length ∧ n = l.length - i ∧ Reg H' 1 0 50 [0, 1] [v1] ∧ Wr H' 1 0 [v1] cv l.length) l.length ⟨0, ?_, by omega, by omega, R2', hW2⟩ ?_
      · simp only [WN, firstReg, growAll, List.foldl_nil, List.foldl_cons, norm, killS, List.set_cons_zero, List.set_cons_succ, List.map_cons, List.map_nil, List.take_nil, List.take_zero, List.length_nil, growOne, List.getD_cons_zero, List.getD_cons_succ, List.length_cons, List.take_succ_cons, List.nil_append, Nat.reduceLT, Nat.reduceAdd, Nat.zero_add, if_true, F3, L3_11, (hr []).clip2, hW.clip2]
        try rfl
      · rintro n st H' ⟨i, rfl, hi, hn, R, hWi⟩
        simp only [L3_11]
        simp only [WW, partV, eqCells, eqLf, minV, maxV, ifcV, List.map_cons, List.map_nil, List.length_cons, List.length_nil, List.getD_cons_zero, List.getD_cons_succ, List.set_cons_zero, List.set_cons_succ, List.set_nil, ofConst, ofConst1, List.replicate, List.cons_append, List.nil_append, loadOp, Go.Abs.loadCells, binV, Int.toNat_natCast, pickV, List.getElem?_cons_zero, List.getElem?_cons_succ, Option.map_some, Option.bind_some, List.drop_zero, List.drop_succ_cons, List.take_succ_cons, List.take_zero, List.length_map, outR, resAll, resOne, if_true, if_false, and_true, true_and, Bool.true_eq_false, Bool.false_eq_true, forall_const, true_implies, false_implies, implies_true, decide_true, decide_false, beq_self_eq_true, Option.getD_some, Nat.zero_add, Nat.add_zero, storeOp, storeCell, overlay, List.take_nil, List.drop_nil, List.append_nil, lookupOp, keyT, okRes, mapUpdateOp, Bool.and_self, Bool.and_true, Bool.true_and, Bool.not_true, Bool.not_false, gt_iff_lt, ge_iff_le, Nat.reduceSub, Nat.reduceAdd, Int.reduceLT, Int.reduceLE, Int.reduceAdd, Int.reduceSub, Int.reduceToNat, Int.reduceBEq, Int.reduceBNe, Int.reduceMul, Nat.reduceBEq, Nat.reduceBNe, Nat.reduceLT, Nat.reduceLeDiff, Nat.reduceMul, Nat.reduceEqDiff, WD, effB, effH, isPriv, isHeap, isImm, Option.any_some, Option.any_none, Option.isSome_none, chkO, setD, dslot, Bool.toNat_true, Bool.toNat_false, Nat.add_zero, Nat.zero_add, List.append_eq, and_self, ptrCells_some, F3, hWi.shut, hWi.len]
        refine cSplit (fun hlt => ?_) (fun hge => ?_)
        · have hi2 : i < l.length := by simpa using hlt
          rcases hWi with ⟨h0, _⟩ | ⟨id, m, rfl, h1, h2, h3, h4, h5⟩
          · omega
          · have hm : m[i]? = some m[i] := List.getElem?_eq_getElem (by omega)
            generalize m[i] = y at hm
            have hir : (0:Int) ≤ i ∧ (i:Int) < l.length := ⟨by omega, by omega⟩
            simp only [hlt]
            simp only [WW, partV, eqCells, eqLf, minV, maxV, ifcV, List.map_cons, List.map_nil, List.length_cons, List.length_nil, List.getD_cons_zero, List.getD_cons_succ, List.set_cons_zero, List.set_cons_succ, List.set_nil, ofConst, ofConst1, List.replicate, List.cons_append, List.nil_append, loadOp, Go.Abs.loadCells, binV, Int.toNat_natCast, pickV, List.getElem?_cons_zero, List.getElem?_cons_succ, Option.map_some, Option.bind_some, List.drop_zero, List.drop_succ_cons, List.take_succ_cons, List.take_zero, List.length_map, outR, resAll, resOne, if_true, if_false, and_true, true_and, Bool.true_eq_false, Bool.false_eq_true, forall_const, true_implies, false_implies, implies_true, decide_true, decide_false, beq_self_eq_true, Option.getD_some, Nat.zero_add, Nat.add_zero, storeOp, storeCell, overlay, List.take_nil, List.drop_nil, List.append_nil, lookupOp, keyT, okRes, mapUpdateOp, Bool.and_self, Bool.and_true, Bool.true_and, Bool.not_true, Bool.not_false, gt_iff_lt, ge_iff_le, Nat.reduceSub, Nat.reduceAdd, Int.reduceLT, Int.reduceLE, Int.reduceAdd, Int.reduceSub, Int.reduceToNat, Int.reduceBEq, Int.reduceBNe, Int.reduceMul, Nat.reduceBEq, Nat.reduceBNe, Nat.reduceLT, Nat.reduceLeDiff, Nat.reduceMul, Nat.reduceEqDiff, WD, effB, effH, isPriv, isHeap, isImm, Option.any_some, Option.any_none, Option.isSome_none, chkO, setD, dslot, Bool.toNat_true, Bool.toNat_false, Nat.add_zero, Nat.zero_add, List.append_eq, and_self, ptrCells_some, F3, slAt_sl, hir.1, hir.2, slIn_some, h1, List.getElem?_map, hm, depV, storeHeap, promote, heapSet, elemSet]
            refine ⟨n - 1, by omega, i + 1, ?_, by omega, by omega, R.poke h1 h3 h4 h5 _, .inr ⟨id, m.set i (y.1, 99), rfl, ?_, by simpa using h2, h3, h4, h5⟩⟩
            · simp only [WN, firstReg, growAll, List.foldl_nil, List.foldl_cons, norm, killS, List.set_cons_zero, List.set_cons_succ, List.map_cons, List.map_nil, List.take_nil, List.take_zero, List.length_nil, growOne, List.getD_cons_zero, List.getD_cons_succ, List.length_cons, List.take_succ_cons, List.nil_append, Nat.reduceLT, Nat.reduceAdd, Nat.zero_add, if_true, F3, (hr []).clip2]
              rw [IntWalk.i64_in _ (by omega)]; rfl
            · rw [List.getElem?_set_self (List.getElem?_eq_some_iff.1 h1).1, List.map_set]; rfl
        · simp only [hge]
          clear hWi hW2
          simp only [WW, partV, eqCells, eqLf, minV, maxV, ifcV, List.map_cons, List.map_nil, List.length_cons, List.length_nil, List.getD_cons_zero, List.getD_cons_succ, List.set_cons_zero, List.set_cons_succ, List.set_nil, ofConst, ofConst1, List.replicate, List.cons_append, List.nil_append, loadOp, Go.Abs.loadCells, binV, Int.toNat_natCast, pickV, List.getElem?_cons_zero, List.getElem?_cons_succ, Option.map_some, Option.bind_some, List.drop_zero, List.drop_succ_cons, List.take_succ_cons, List.take_zero, List.length_map, outR, resAll, resOne, if_true, if_false, and_true, true_and, Bool.true_eq_false, Bool.false_eq_true, forall_const, true_implies, false_implies, implies_true, decide_true, decide_false, beq_self_eq_true, Option.getD_some, Nat.zero_add, Nat.add_zero, storeOp, storeCell, overlay, List.take_nil, List.drop_nil, List.append_nil, lookupOp, keyT, okRes, mapUpdateOp, Bool.and_self, Bool.and_true, Bool.true_and, Bool.not_true, Bool.not_false, gt_iff_lt, ge_iff_le, Nat.reduceSub, Nat.reduceAdd, Int.reduceLT, Int.reduceLE, Int.reduceAdd, Int.reduceSub, Int.reduceToNat, Int.reduceBEq, Int.reduceBNe, Int.reduceMul, Nat.reduceBEq, Nat.reduceBNe, Nat.reduceLT, Nat.reduceLeDiff, Nat.reduceMul, Nat.reduceEqDiff, WD, effB, effH, isPriv, isHeap, isImm, Option.any_some, Option.any_none, Option.isSome_none, chkO, setD, dslot, Bool.toNat_true, Bool.toNat_false, Nat.add_zero, Nat.zero_add, List.append_eq, and_self, ptrCells_some, F3]
          have hvm : v1 ∈ [v1] := by simp
          have hg0 : getVer [v1] 0 = some v1 := rfl
          have hon : ∀ {H : Hp}, Reg H 1 0 50 [0, 1] [v1] → EW 12 [.ptr 1 0 0, .int .i64 0] H = some (.ret (cloneR v1.on v1.l H).1 false, (cloneR v1.on v1.l H).2) := fun R => on_eq R 0
          rw [wpCall_eq (hon R)]
          have hWx : Wr (cloneR v1.on v1.l H').2 1 0 [v1] (cloneR v1.on v1.l H').1 l.length := by
            rw [hv2]; unfold cloneR
            split
            · rename_i hn
              have := (R.sx hvm).nil_l hn
              rw [hv2] at this
              refine .inl ⟨?_, .inl rfl⟩
              have := this.2; simp at this; simp [this]
            · split
              · rename_i hq
                refine .inl ⟨?_, .inr rfl⟩
                simpa using hq
              · have hlt := R.lt
                refine .inr ⟨H'.length, l, rfl, by simp, rfl, by have := hlt.d; omega, by have := hlt.c; omega, ?_⟩
                have := hlt.v v1 hvm
                simp; omega
          have hRx : Reg (cloneR v1.on v1.l H').2 1 0 50 [0, 1] [v1] := by
            unfold cloneR; split
            · exact R
            · split
              · exact R
              · exact R.more _
          generalize cloneR v1.on v1.l H' = K at hWx hRx ⊢
          obtain ⟨xv, H3⟩ := K
          simp only at hWx hRx
          simp only [WW, partV, eqCells, eqLf, minV, maxV, ifcV, List.map_cons, List.map_nil, List.length_cons, List.length_nil, List.getD_cons_zero, List.getD_cons_succ, List.set_cons_zero, List.set_cons_succ, List.set_nil, ofConst, ofConst1, List.replicate, List.cons_append, List.nil_append, loadOp, Go.Abs.loadCells, binV, Int.toNat_natCast, pickV, List.getElem?_cons_zero, List.getElem?_cons_succ, Option.map_some, Option.bind_some, List.drop_zero, List.drop_succ_cons, List.take_succ_cons, List.take_zero, List.length_map, outR, resAll, resOne, if_true, if_false, and_true, true_and, Bool.true_eq_false, Bool.false_eq_true, forall_const, true_implies, false_implies, implies_true, decide_true, decide_false, beq_self_eq_true, Option.getD_some, Nat.zero_add, Nat.add_zero, storeOp, storeCell, overlay, List.take_nil, List.drop_nil, List.append_nil, lookupOp, keyT, okRes, mapUpdateOp, Bool.and_self, Bool.and_true, Bool.true_and, Bool.not_true, Bool.not_false, gt_iff_lt, ge_iff_le, Nat.reduceSub, Nat.reduceAdd, Int.reduceLT, Int.reduceLE, Int.reduceAdd, Int.reduceSub, Int.reduceToNat, Int.reduceBEq, Int.reduceBNe, Int.reduceMul, Nat.reduceBEq, Nat.reduceBNe, Nat.reduceLT, Nat.reduceLeDiff, Nat.reduceMul, Nat.reduceEqDiff, WD, effB, effH, isPriv, isHeap, isImm, Option.any_some, Option.any_none, Option.isSome_none, chkO, setD, dslot, Bool.toNat_true, Bool.toNat_false, Nat.add_zero, Nat.zero_add, List.append_eq, and_self, ptrCells_some, F3, hWx.shut]
          refine wC_loop _ (fun n st H' => ∃ i : Nat, st = ⟨L3_16 (.v x) (.v (.ptr 1 0 0)) (.v (.int .i64 0)) (.v xv) (.v (.int .i64 i)), [], [⟨true, false, []⟩]⟩ ∧ i ≤ l.length ∧ n = l.length - i ∧ Reg H' 1 0 50 [0, 1] [v1] ∧ Wr H' 1 0 [v1] xv l.length) l.length ⟨0, ?_, by omega, by omega, hRx, hWx⟩ ?_
          · simp only [WN, firstReg, growAll, List.foldl_nil, List.foldl_cons, norm, killS, List.set_cons_zero, List.set_cons_succ, List.map_cons, List.map_nil, List.take_nil, List.take_zero, List.length_nil, growOne, List.getD_cons_zero, List.getD_cons_succ, List.length_cons, List.take_succ_cons, List.nil_append, Nat.reduceLT, Nat.reduceAdd, Nat.zero_add, if_true, F3, L3_16, (hr []).clip2, hWx.clip2]
            try rfl
          · clear R hn hi n H'
            rintro n st H' ⟨i, rfl, hi, hn, R, hWi⟩
            simp only [L3_16]
            simp only [WW, partV, eqCells, eqLf, minV, maxV, ifcV, List.map_cons, List.map_nil, List.length_cons, List.length_nil, List.getD_cons_zero, List.getD_cons_succ, List.set_cons_zero, List.set_cons_succ, List.set_nil, ofConst, ofConst1, List.replicate, List.cons_append, List.nil_append, loadOp, Go.Abs.loadCells, binV, Int.toNat_natCast, pickV, List.getElem?_cons_zero, List.getElem?_cons_succ, Option.map_some, Option.bind_some, List.drop_zero, List.drop_succ_cons, List.take_succ_cons, List.take_zero, List.length_map, outR, resAll, resOne, if_true, if_false, and_true, true_and, Bool.true_eq_false, Bool.false_eq_true, forall_const, true_implies, false_implies, implies_true, decide_true, decide_false, beq_self_eq_true, Option.getD_some, Nat.zero_add, Nat.add_zero, storeOp, storeCell, overlay, List.take_nil, List.drop_nil, List.append_nil, lookupOp, keyT, okRes, mapUpdateOp, Bool.and_self, Bool.and_true, Bool.true_and, Bool.not_true, Bool.not_false, gt_iff_lt, ge_iff_le, Nat.reduceSub, Nat.reduceAdd, Int.reduceLT, Int.reduceLE, Int.reduceAdd, Int.reduceSub, Int.reduceToNat, Int.reduceBEq, Int.reduceBNe, Int.reduceMul, Nat.reduceBEq, Nat.reduceBNe, Nat.reduceLT, Nat.reduceLeDiff, Nat.reduceMul, Nat.reduceEqDiff, WD, effB, effH, isPriv, isHeap, isImm, Option.any_some, Option.any_none, Option.isSome_none, chkO, setD, dslot, Bool.toNat_true, Bool.toNat_false, Nat.add_zero, Nat.zero_add, List.append_eq, and_self, ptrCells_some, F3, hWi.shut, hWi.len]
            refine cSplit (fun hlt => ?_) (fun hge => ?_)
            · have hi2 : i < l.length := by simpa using hlt
              rcases hWi with ⟨h0, _⟩ | ⟨id, m, rfl, h1, h2, h3, h4, h5⟩
              · omega
              · have hm : m[i]? = some m[i] := List.getElem?_eq_getElem (by omega)
                generalize m[i] = y at hm
                have hir : (0:Int) ≤ i ∧ (i:Int) < l.length := ⟨by omega, by omega⟩
                simp only [hlt]
                simp only [WW, partV, eqCells, eqLf, minV, maxV, ifcV, List.map_cons, List.map_nil, List.length_cons, List.length_nil, List.getD_cons_zero, List.getD_cons_succ, List.set_cons_zero, List.set_cons_succ, List.set_nil, ofConst, ofConst1, List.replicate, List.cons_append, List.nil_append, loadOp, Go.Abs.loadCells, binV, Int.toNat_natCast, pickV, List.getElem?_cons_zero, List.getElem?_cons_succ, Option.map_some, Option.bind_some, List.drop_zero, List.drop_succ_cons, List.take_succ_cons, List.take_zero, List.length_map, outR, resAll, resOne, if_true, if_false, and_true, true_and, Bool.true_eq_false, Bool.false_eq_true, forall_const, true_implies, false_implies, implies_true, decide_true, decide_false, beq_self_eq_true, Option.getD_some, Nat.zero_add, Nat.add_zero, storeOp, storeCell, overlay, List.take_nil, List.drop_nil, List.append_nil, lookupOp, keyT, okRes, mapUpdateOp, Bool.and_self, Bool.and_true, Bool.true_and, Bool.not_true, Bool.not_false, gt_iff_lt, ge_iff_le, Nat.reduceSub, Nat.reduceAdd, Int.reduceLT, Int.reduceLE, Int.reduceAdd, Int.reduceSub, Int.reduceToNat, Int.reduceBEq, Int.reduceBNe, Int.reduceMul, Nat.reduceBEq, Nat.reduceBNe, Nat.reduceLT, Nat.reduceLeDiff, Nat.reduceMul, Nat.reduceEqDiff, WD, effB, effH, isPriv, isHeap, isImm, Option.any_some, Option.any_none, Option.isSome_none, chkO, setD, dslot, Bool.toNat_true, Bool.toNat_false, Nat.add_zero, Nat.zero_add, List.append_eq, and_self, ptrCells_some, F3, slAt_sl, hir.1, hir.2, slIn_some, h1, List.getElem?_map, hm, depV, storeHeap, promote, heapSet, elemSet]
                refine ⟨n - 1, by omega, i + 1, ?_, by omega, by omega, R.poke h1 h3 h4 h5 _, .inr ⟨id, m.set i (0, y.2), rfl, ?_, by simpa using h2, h3, h4, h5⟩⟩
                · simp only [WN, firstReg, growAll, List.foldl_nil, List.foldl_cons, norm, killS, List.set_cons_zero, List.set_cons_succ, List.map_cons, List.map_nil, List.take_nil, List.take_zero, List.length_nil, growOne, List.getD_cons_zero, List.getD_cons_succ, List.length_cons, List.take_succ_cons, List.nil_append, Nat.reduceLT, Nat.reduceAdd, Nat.zero_add, if_true, F3, (hr []).clip2]
                  rw [IntWalk.i64_in _ (by omega)]; rfl
                · rw [List.getElem?_set_self (List.getElem?_eq_some_iff.1 h1).1, List.map_set]; rfl
            · simp only [hge]
              clear hWi hWx
              simp only [WW, partV, eqCells, eqLf, minV, maxV, ifcV, List.map_cons, List.map_nil, List.length_cons, List.length_nil, List.getD_cons_zero, List.getD_cons_succ, List.set_cons_zero, List.set_cons_succ, List.set_nil, ofConst, ofConst1, List.replicate, List.cons_append, List.nil_append, loadOp, Go.Abs.loadCells, binV, Int.toNat_natCast, pickV, List.getElem?_cons_zero, List.getElem?_cons_succ, Option.map_some, Option.bind_some, List.drop_zero, List.drop_succ_cons, List.take_succ_cons, List.take_zero, List.length_map, outR, resAll, resOne, if_true, if_false, and_true, true_and, Bool.true_eq_false, Bool.false_eq_true, forall_const, true_implies, false_implies, implies_true, decide_true, decide_false, beq_self_eq_true, Option.getD_some, Nat.zero_add, Nat.add_zero, storeOp, storeCell, overlay, List.take_nil, List.drop_nil, List.append_nil, lookupOp, keyT, okRes, mapUpdateOp, Bool.and_self, Bool.and_true, Bool.true_and, Bool.not_true, Bool.not_false, gt_iff_lt, ge_iff_le, Nat.reduceSub, Nat.reduceAdd, Int.reduceLT, Int.reduceLE, Int.reduceAdd, Int.reduceSub, Int.reduceToNat, Int.reduceBEq, Int.reduceBNe, Int.reduceMul, Nat.reduceBEq, Nat.reduceBNe, Nat.reduceLT, Nat.reduceLeDiff, Nat.reduceMul, Nat.reduceEqDiff, WD, effB, effH, isPriv, isHeap, isImm, Option.any_some, Option.any_none, Option.isSome_none, chkO, setD, dslot, Bool.toNat_true, Bool.toNat_false, Nat.add_zero, Nat.zero_add, List.append_eq, and_self, ptrCells_some, F3]
              rw [wpCall_eq (hon R)]
              have hRx2 : Reg (cloneR v1.on v1.l H').2 1 0 50 [0, 1] [v1] := by
                unfold cloneR; split
                · exact R
                · split
                  · exact R
                  · exact R.more _
              have hcx := clone_sx (R.sx hvm)
              generalize cloneR v1.on v1.l H' = K at hcx hRx2 ⊢
              obtain ⟨xw, H4⟩ := K
              simp only at hcx hRx2
              rw [hv2] at hcx
              simp only [WW, partV, eqCells, eqLf, minV, maxV, ifcV, List.map_cons, List.map_nil, List.length_cons, List.length_nil, List.getD_cons_zero, List.getD_cons_succ, List.set_cons_zero, List.set_cons_succ, List.set_nil, ofConst, ofConst1, List.replicate, List.cons_append, List.nil_append, loadOp, Go.Abs.loadCells, binV, Int.toNat_natCast, pickV, List.getElem?_cons_zero, List.getElem?_cons_succ, Option.map_some, Option.bind_some, List.drop_zero, List.drop_succ_cons, List.take_succ_cons, List.take_zero, List.length_map, outR, resAll, resOne, if_true, if_false, and_true, true_and, Bool.true_eq_false, Bool.false_eq_true, forall_const, true_implies, false_implies, implies_true, decide_true, decide_false, beq_self_eq_true, Option.getD_some, Nat.zero_add, Nat.add_zero, storeOp, storeCell, overlay, List.take_nil, List.drop_nil, List.append_nil, lookupOp, keyT, okRes, mapUpdateOp, Bool.and_self, Bool.and_true, Bool.true_and, Bool.not_true, Bool.not_false, gt_iff_lt, ge_iff_le, Nat.reduceSub, Nat.reduceAdd, Int.reduceLT, Int.reduceLE, Int.reduceAdd, Int.reduceSub, Int.reduceToNat, Int.reduceBEq, Int.reduceBNe, Int.reduceMul, Nat.reduceBEq, Nat.reduceBNe, Nat.reduceLT, Nat.reduceLeDiff, Nat.reduceMul, Nat.reduceEqDiff, WD, effB, effH, isPriv, isHeap, isImm, Option.any_some, Option.any_none, Option.isSome_none, chkO, setD, dslot, Bool.toNat_true, Bool.toNat_false, Nat.add_zero, Nat.zero_add, List.append_eq, and_self, ptrCells_some, F3, hcx.rd.shutIn, hs]
              rw [wpCall_eq (sameDeps_eq hcx.rd (hr H4) (by omega))]
              simp only [WW, partV, eqCells, eqLf, minV, maxV, ifcV, List.map_cons, List.map_nil, List.length_cons, List.length_nil, List.getD_cons_zero, List.getD_cons_succ, List.set_cons_zero, List.set_cons_succ, List.set_nil, ofConst, ofConst1, List.replicate, List.cons_append, List.nil_append, loadOp, Go.Abs.loadCells, binV, Int.toNat_natCast, pickV, List.getElem?_cons_zero, List.getElem?_cons_succ, Option.map_some, Option.bind_some, List.drop_zero, List.drop_succ_cons, List.take_succ_cons, List.take_zero, List.length_map, outR, resAll, resOne, if_true, if_false, and_true, true_and, Bool.true_eq_false, Bool.false_eq_true, forall_const, true_implies, false_implies, implies_true, decide_true, decide_false, beq_self_eq_true, Option.getD_some, Nat.zero_add, Nat.add_zero, storeOp, storeCell, overlay, List.take_nil, List.drop_nil, List.append_nil, lookupOp, keyT, okRes, mapUpdateOp, Bool.and_self, Bool.and_true, Bool.true_and, Bool.not_true, Bool.not_false, gt_iff_lt, ge_iff_le, Nat.reduceSub, Nat.reduceAdd, Int.reduceLT, Int.reduceLE, Int.reduceAdd, Int.reduceSub, Int.reduceToNat, Int.reduceBEq, Int.reduceBNe, Int.reduceMul, Nat.reduceBEq, Nat.reduceBNe, Nat.reduceLT, Nat.reduceLeDiff, Nat.reduceMul, Nat.reduceEqDiff, WD, effB, effH, isPriv, isHeap, isImm, Option.any_some, Option.any_none, Option.isSome_none, chkO, setD, dslot, Bool.toNat_true, Bool.toNat_false, Nat.add_zero, Nat.zero_add, List.append_eq, and_self, ptrCells_some, F3, decide_true, (hr _).len, hs]
              cases hl0 : ((l.length : Int) == 0) with
              | true =>
                simp only [WW, partV, eqCells, eqLf, minV, maxV, ifcV, List.map_cons, List.map_nil, List.length_cons, List.length_nil, List.getD_cons_zero, List.getD_cons_succ, List.set_cons_zero, List.set_cons_succ, List.set_nil, ofConst, ofConst1, List.replicate, List.cons_append, List.nil_append, loadOp, Go.Abs.loadCells, binV, Int.toNat_natCast, pickV, List.getElem?_cons_zero, List.getElem?_cons_succ, Option.map_some, Option.bind_some, List.drop_zero, List.drop_succ_cons, List.take_succ_cons, List.take_zero, List.length_map, outR, resAll, resOne, if_true, if_false, and_true, true_and, Bool.true_eq_false, Bool.false_eq_true, forall_const, true_implies, false_implies, implies_true, decide_true, decide_false, beq_self_eq_true, Option.getD_some, Nat.zero_add, Nat.add_zero, storeOp, storeCell, overlay, List.take_nil, List.drop_nil, List.append_nil, lookupOp, keyT, okRes, mapUpdateOp, Bool.and_self, Bool.and_true, Bool.true_and, Bool.not_true, Bool.not_false, gt_iff_lt, ge_iff_le, Nat.reduceSub, Nat.reduceAdd, Int.reduceLT, Int.reduceLE, Int.reduceAdd, Int.reduceSub, Int.reduceToNat, Int.reduceBEq, Int.reduceBNe, Int.reduceMul, Nat.reduceBEq, Nat.reduceBNe, Nat.reduceLT, Nat.reduceLeDiff, Nat.reduceMul, Nat.reduceEqDiff, WD, effB, effH, isPriv, isHeap, isImm, Option.any_some, Option.any_none, Option.isSome_none, chkO, setD, dslot, Bool.toNat_true, Bool.toNat_false, Nat.add_zero, Nat.zero_add, List.append_eq, and_self, ptrCells_some, F3]
                rw [wpCall_eq (live_eq _)]
                simp only [WW, partV, eqCells, eqLf, minV, maxV, ifcV, List.map_cons, List.map_nil, List.length_cons, List.length_nil, List.getD_cons_zero, List.getD_cons_succ, List.set_cons_zero, List.set_cons_succ, List.set_nil, ofConst, ofConst1, List.replicate, List.cons_append, List.nil_append, loadOp, Go.Abs.loadCells, binV, Int.toNat_natCast, pickV, List.getElem?_cons_zero, List.getElem?_cons_succ, Option.map_some, Option.bind_some, List.drop_zero, List.drop_succ_cons, List.take_succ_cons, List.take_zero, List.length_map, outR, resAll, resOne, if_true, if_false, and_true, true_and, Bool.true_eq_false, Bool.false_eq_true, forall_const, true_implies, false_implies, implies_true, decide_true, decide_false, beq_self_eq_true, Option.getD_some, Nat.zero_add, Nat.add_zero, storeOp, storeCell, overlay, List.take_nil, List.drop_nil, List.append_nil, lookupOp, keyT, okRes, mapUpdateOp, Bool.and_self, Bool.and_true, Bool.true_and, Bool.not_true, Bool.not_false, gt_iff_lt, ge_iff_le, Nat.reduceSub, Nat.reduceAdd, Int.reduceLT, Int.reduceLE, Int.reduceAdd, Int.reduceSub, Int.reduceToNat, Int.reduceBEq, Int.reduceBNe, Int.reduceMul, Nat.reduceBEq, Nat.reduceBNe, Nat.reduceLT, Nat.reduceLeDiff, Nat.reduceMul, Nat.reduceEqDiff, WD, effB, effH, isPriv, isHeap, isImm, Option.any_some, Option.any_none, Option.isSome_none, chkO, setD, dslot, Bool.toNat_true, Bool.toNat_false, Nat.add_zero, Nat.zero_add, List.append_eq, and_self, ptrCells_some, F3]
              | false =>
                have hpos : 0 < l.length := by simp at hl0; exact List.length_pos_iff.2 hl0
                have hd0 : l[0]? = some l[0] := List.getElem?_eq_getElem hpos
                have hy0 := hu l[0] (List.getElem_mem hpos)
                have hrg0 := hrg l[0] (List.getElem_mem hpos)
                have hmem0 : l[0] ∈ l := List.getElem_mem hpos
                generalize l[0] = y0 at hd0 hy0 hrg0 hmem0
                have hat := depAt (hr H4) hd0
                have hat0 : slAt 2 H4 (viewV H4 x) (0 : Int) = some (.v (atV H4 x 0 0)) := hat.at1 (hr H4)
                simp only [WW, partV, eqCells, eqLf, minV, maxV, ifcV, List.map_cons, List.map_nil, List.length_cons, List.length_nil, List.getD_cons_zero, List.getD_cons_succ, List.set_cons_zero, List.set_cons_succ, List.set_nil, ofConst, ofConst1, List.replicate, List.cons_append, List.nil_append, loadOp, Go.Abs.loadCells, binV, Int.toNat_natCast, pickV, List.getElem?_cons_zero, List.getElem?_cons_succ, Option.map_some, Option.bind_some, List.drop_zero, List.drop_succ_cons, List.take_succ_cons, List.take_zero, List.length_map, outR, resAll, resOne, if_true, if_false, and_true, true_and, Bool.true_eq_false, Bool.false_eq_true, forall_const, true_implies, false_implies, implies_true, decide_true, decide_false, beq_self_eq_true, Option.getD_some, Nat.zero_add, Nat.add_zero, storeOp, storeCell, overlay, List.take_nil, List.drop_nil, List.append_nil, lookupOp, keyT, okRes, mapUpdateOp, Bool.and_self, Bool.and_true, Bool.true_and, Bool.not_true, Bool.not_false, gt_iff_lt, ge_iff_le, Nat.reduceSub, Nat.reduceAdd, Int.reduceLT, Int.reduceLE, Int.reduceAdd, Int.reduceSub, Int.reduceToNat, Int.reduceBEq, Int.reduceBNe, Int.reduceMul, Nat.reduceBEq, Nat.reduceBNe, Nat.reduceLT, Nat.reduceLeDiff, Nat.reduceMul, Nat.reduceEqDiff, WD, effB, effH, isPriv, isHeap, isImm, Option.any_some, Option.any_none, Option.isSome_none, chkO, setD, dslot, Bool.toNat_true, Bool.toNat_false, Nat.add_zero, Nat.zero_add, List.append_eq, and_self, ptrCells_some, F3]
                refine wC_dr alts3_23 (by kernel_rfl) ?_
                simp only [WW, partV, eqCells, eqLf, minV, maxV, ifcV, List.map_cons, List.map_nil, List.length_cons, List.length_nil, List.getD_cons_zero, List.getD_cons_succ, List.set_cons_zero, List.set_cons_succ, List.set_nil, ofConst, ofConst1, List.replicate, List.cons_append, List.nil_append, loadOp, Go.Abs.loadCells, binV, Int.toNat_natCast, pickV, List.getElem?_cons_zero, List.getElem?_cons_succ, Option.map_some, Option.bind_some, List.drop_zero, List.drop_succ_cons, List.take_succ_cons, List.take_zero, List.length_map, outR, resAll, resOne, if_true, if_false, and_true, true_and, Bool.true_eq_false, Bool.false_eq_true, forall_const, true_implies, false_implies, implies_true, decide_true, decide_false, beq_self_eq_true, Option.getD_some, Nat.zero_add, Nat.add_zero, storeOp, storeCell, overlay, List.take_nil, List.drop_nil, List.append_nil, lookupOp, keyT, okRes, mapUpdateOp, Bool.and_self, Bool.and_true, Bool.true_and, Bool.not_true, Bool.not_false, gt_iff_lt, ge_iff_le, Nat.reduceSub, Nat.reduceAdd, Int.reduceLT, Int.reduceLE, Int.reduceAdd, Int.reduceSub, Int.reduceToNat, Int.reduceBEq, Int.reduceBNe, Int.reduceMul, Nat.reduceBEq, Nat.reduceBNe, Nat.reduceLT, Nat.reduceLeDiff, Nat.reduceMul, Nat.reduceEqDiff, WD, effB, effH, isPriv, isHeap, isImm, Option.any_some, Option.any_none, Option.isSome_none, chkO, setD, dslot, Bool.toNat_true, Bool.toNat_false, Nat.add_zero, Nat.zero_add, List.append_eq, and_self, ptrCells_some, F3, hs, hat0, hat.cells, hat.fa, depV, alts3_23]
                have hw4 : y0.2 ≠ IntKind.u64.wrap (y0.2 + 4) := by
                  simp only [IntKind.wrap, IntKind.bits, IntKind.signed]
                  simp
                  omega
                have hh : hits (writes y0.1 (IntKind.u64.wrap (y0.2 + 4))) [v1] (List.length [v1]) = [0] := by
                  have : hit (writes y0.1 (IntKind.u64.wrap (y0.2 + 4))) [v1] 0 = true := by
                    simp only [hit, List.getElem?_cons_zero, hv3, Bool.true_and, writes, hv2, List.any_eq_true]
                    exact ⟨y0, hmem0, by simp [hw4]⟩
                  simp [hits, this]
                refine wpCall_of (wrote_eq hRx2 y0.1 (IntKind.u64.wrap (y0.2 + 4))) ?_
                rintro out H5 hp
                rw [if_neg (by omega), hh] at hp
                obtain ⟨y, rfl, hy, R5, _⟩ := hp
                have hval := (hits_off (p := writes y0.1 (IntKind.u64.wrap (y0.2 + 4))) (A := [v1]) (j := 0) (by rw [hh]; simp))
                have hlt4 := hRx2.lt
                have hids5 : (upd (writes y0.1 (IntKind.u64.wrap (y0.2 + 4))) [v1] (List.length [v1])).map (·.id) = [v1.id] := upd_id _ _ _
                generalize upd (writes y0.1 (IntKind.u64.wrap (y0.2 + 4))) [v1] (List.length [v1]) = all5 at R5 hval hids5
                rcases hy with ⟨h0, _⟩ | ⟨_, id, hid, rfl, hcell⟩
                · cases h0
                simp only [WW, partV, eqCells, eqLf, minV, maxV, ifcV, List.map_cons, List.map_nil, List.length_cons, List.length_nil, List.getD_cons_zero, List.getD_cons_succ, List.set_cons_zero, List.set_cons_succ, List.set_nil, ofConst, ofConst1, List.replicate, List.cons_append, List.nil_append, loadOp, Go.Abs.loadCells, binV, Int.toNat_natCast, pickV, List.getElem?_cons_zero, List.getElem?_cons_succ, Option.map_some, Option.bind_some, List.drop_zero, List.drop_succ_cons, List.take_succ_cons, List.take_zero, List.length_map, outR, resAll, resOne, if_true, if_false, and_true, true_and, Bool.true_eq_false, Bool.false_eq_true, forall_const, true_implies, false_implies, implies_true, decide_true, decide_false, beq_self_eq_true, Option.getD_some, Nat.zero_add, Nat.add_zero, storeOp, storeCell, overlay, List.take_nil, List.drop_nil, List.append_nil, lookupOp, keyT, okRes, mapUpdateOp, Bool.and_self, Bool.and_true, Bool.true_and, Bool.not_true, Bool.not_false, gt_iff_lt, ge_iff_le, Nat.reduceSub, Nat.reduceAdd, Int.reduceLT, Int.reduceLE, Int.reduceAdd, Int.reduceSub, Int.reduceToNat, Int.reduceBEq, Int.reduceBNe, Int.reduceMul, Nat.reduceBEq, Nat.reduceBNe, Nat.reduceLT, Nat.reduceLeDiff, Nat.reduceMul, Nat.reduceEqDiff, WD, effB, effH, isPriv, isHeap, isImm, Option.any_some, Option.any_none, Option.isSome_none, chkO, setD, dslot, Bool.toNat_true, Bool.toNat_false, Nat.add_zero, Nat.zero_add, List.append_eq, and_self, ptrCells_some, F3, hcx.rd.shutIn, alts3_23]
                refine wC_loop _ (fun n st H' => ∃ (i : Nat) (m : List Int), st = ⟨L3_25 (.v (.ptr 1 0 0)) (.v (.int .i64 0)) (.v (.sl id 0 1)) (.v (.int .i64 0)) (.v (.int .i64 i)), [], [⟨true, false, []⟩]⟩ ∧ i ≤ 1 ∧ n = 1 - i ∧ Reg H' 1 0 50 [0, 1] all5 ∧ H'[id]? = some (.cells (m.map (.int .i64))) ∧ m.length = 1) 1 ⟨0, [0], ?_, by omega, by omega, R5, hcell, rfl⟩ ?_
                · simp only [WN, firstReg, growAll, List.foldl_nil, List.foldl_cons, norm, killS, List.set_cons_zero, List.set_cons_succ, List.map_cons, List.map_nil, List.take_nil, List.take_zero, List.length_nil, growOne, List.getD_cons_zero, List.getD_cons_succ, List.length_cons, List.take_succ_cons, List.nil_append, Nat.reduceLT, Nat.reduceAdd, Nat.zero_add, if_true, F3, L3_25, List.length_cons, List.length_nil]
                  try rfl
                · clear R hn hi n H'
                  rintro n st H' ⟨i, m, rfl, hi, hn, R, hm, hml⟩
                  simp only [L3_25]
                  simp only [WW, partV, eqCells, eqLf, minV, maxV, ifcV, List.map_cons, List.map_nil, List.length_cons, List.length_nil, List.getD_cons_zero, List.getD_cons_succ, List.set_cons_zero, List.set_cons_succ, List.set_nil, ofConst, ofConst1, List.replicate, List.cons_append, List.nil_append, loadOp, Go.Abs.loadCells, binV, Int.toNat_natCast, pickV, List.getElem?_cons_zero, List.getElem?_cons_succ, Option.map_some, Option.bind_some, List.drop_zero, List.drop_succ_cons, List.take_succ_cons, List.take_zero, List.length_map, outR, resAll, resOne, if_true, if_false, and_true, true_and, Bool.true_eq_false, Bool.false_eq_true, forall_const, true_implies, false_implies, implies_true, decide_true, decide_false, beq_self_eq_true, Option.getD_some, Nat.zero_add, Nat.add_zero, storeOp, storeCell, overlay, List.take_nil, List.drop_nil, List.append_nil, lookupOp, keyT, okRes, mapUpdateOp, Bool.and_self, Bool.and_true, Bool.true_and, Bool.not_true, Bool.not_false, gt_iff_lt, ge_iff_le, Nat.reduceSub, Nat.reduceAdd, Int.reduceLT, Int.reduceLE, Int.reduceAdd, Int.reduceSub, Int.reduceToNat, Int.reduceBEq, Int.reduceBNe, Int.reduceMul, Nat.reduceBEq, Nat.reduceBNe, Nat.reduceLT, Nat.reduceLeDiff, Nat.reduceMul, Nat.reduceEqDiff, WD, effB, effH, isPriv, isHeap, isImm, Option.any_some, Option.any_none, Option.isSome_none, chkO, setD, dslot, Bool.toNat_true, Bool.toNat_false, Nat.add_zero, Nat.zero_add, List.append_eq, and_self, ptrCells_some, F3]
                  refine cSplit (fun hlt => ?_) (fun hge => ?_)
                  · obtain rfl : i = 0 := by simp at hlt; omega
                    obtain ⟨m0, rfl⟩ : ∃ m0, m = [m0] := by
                      match m, hml with
                      | [m0], _ => exact ⟨m0, rfl⟩
                    have hz : (((0 : Nat) : Int)) = 0 := rfl
                    have hz1 : (((1 : Nat) : Int)) = 1 := rfl
                    simp only [hlt]
                    simp only [WW, partV, eqCells, eqLf, minV, maxV, ifcV, List.map_cons, List.map_nil, List.length_cons, List.length_nil, List.getD_cons_zero, List.getD_cons_succ, List.set_cons_zero, List.set_cons_succ, List.set_nil, ofConst, ofConst1, List.replicate, List.cons_append, List.nil_append, loadOp, Go.Abs.loadCells, binV, Int.toNat_natCast, pickV, List.getElem?_cons_zero, List.getElem?_cons_succ, Option.map_some, Option.bind_some, List.drop_zero, List.drop_succ_cons, List.take_succ_cons, List.take_zero, List.length_map, outR, resAll, resOne, if_true, if_false, and_true, true_and, Bool.true_eq_false, Bool.false_eq_true, forall_const, true_implies, false_implies, implies_true, decide_true, decide_false, beq_self_eq_true, Option.getD_some, Nat.zero_add, Nat.add_zero, storeOp, storeCell, overlay, List.take_nil, List.drop_nil, List.append_nil, lookupOp, keyT, okRes, mapUpdateOp, Bool.and_self, Bool.and_true, Bool.true_and, Bool.not_true, Bool.not_false, gt_iff_lt, ge_iff_le, Nat.reduceSub, Nat.reduceAdd, Int.reduceLT, Int.reduceLE, Int.reduceAdd, Int.reduceSub, Int.reduceToNat, Int.reduceBEq, Int.reduceBNe, Int.reduceMul, Nat.reduceBEq, Nat.reduceBNe, Nat.reduceLT, Nat.reduceLeDiff, Nat.reduceMul, Nat.reduceEqDiff, WD, effB, effH, isPriv, isHeap, isImm, Option.any_some, Option.any_none, Option.isSome_none, chkO, setD, dslot, Bool.toNat_true, Bool.toNat_false, Nat.add_zero, Nat.zero_add, List.append_eq, and_self, ptrCells_some, F3, slAt_sl, hz, hz1, slIn_some, hm, storeHeap, promote, heapSet, elemSet]
                    have := hlt4.d
                    have := hlt4.c
                    have := hlt4.v v1 hvm
                    refine ⟨n - 1, by omega, 1, [-1], ?_, by omega, by omega, R.poke hm (by omega) (by omega) (by rw [hids5]; simp; omega) _, ?_, rfl⟩
                    · simp only [WN, firstReg, growAll, List.foldl_nil, List.foldl_cons, norm, killS, List.set_cons_zero, List.set_cons_succ, List.map_cons, List.map_nil, List.take_nil, List.take_zero, List.length_nil, growOne, List.getD_cons_zero, List.getD_cons_succ, List.length_cons, List.take_succ_cons, List.nil_append, Nat.reduceLT, Nat.reduceAdd, Nat.zero_add, if_true, F3]
                      try rfl
                    · rw [List.getElem?_set_self (List.getElem?_eq_some_iff.1 hm).1]; rfl
                  · simp only [hge]
                    have hz1 : (((1 : Nat) : Int)) = 1 := rfl
                    simp only [WW, partV, eqCells, eqLf, minV, maxV, ifcV, List.map_cons, List.map_nil, List.length_cons, List.length_nil, List.getD_cons_zero, List.getD_cons_succ, List.set_cons_zero, List.set_cons_succ, List.set_nil, ofConst, ofConst1, List.replicate, List.cons_append, List.nil_append, loadOp, Go.Abs.loadCells, binV, Int.toNat_natCast, pickV, List.getElem?_cons_zero, List.getElem?_cons_succ, Option.map_some, Option.bind_some, List.drop_zero, List.drop_succ_cons, List.take_succ_cons, List.take_zero, List.length_map, outR, resAll, resOne, if_true, if_false, and_true, true_and, Bool.true_eq_false, Bool.false_eq_true, forall_const, true_implies, false_implies, implies_true, decide_true, decide_false, beq_self_eq_true, Option.getD_some, Nat.zero_add, Nat.add_zero, storeOp, storeCell, overlay, List.take_nil, List.drop_nil, List.append_nil, lookupOp, keyT, okRes, mapUpdateOp, Bool.and_self, Bool.and_true, Bool.true_and, Bool.not_true, Bool.not_false, gt_iff_lt, ge_iff_le, Nat.reduceSub, Nat.reduceAdd, Int.reduceLT, Int.reduceLE, Int.reduceAdd, Int.reduceSub, Int.reduceToNat, Int.reduceBEq, Int.reduceBNe, Int.reduceMul, Nat.reduceBEq, Nat.reduceBNe, Nat.reduceLT, Nat.reduceLeDiff, Nat.reduceMul, Nat.reduceEqDiff, WD, effB, effH, isPriv, isHeap, isImm, Option.any_some, Option.any_none, Option.isSome_none, chkO, setD, dslot, Bool.toNat_true, Bool.toNat_false, Nat.add_zero, Nat.zero_add, List.append_eq, and_self, ptrCells_some, F3, wpCall_eq (num_eq _ _), hz1]
                    have hvv := valid_eq R 0
                    obtain ⟨w, hw1, hw2⟩ := hval
                    have hvf : (getVer all5 0).any (·.ok) = false := by simp [getVer, hw1, hw2]
                    rw [hvf] at hvv
                    rw [wpCall_eq hvv]
                    simp only [WW, partV, eqCells, eqLf, minV, maxV, ifcV, List.map_cons, List.map_nil, List.length_cons, List.length_nil, List.getD_cons_zero, List.getD_cons_succ, List.set_cons_zero, List.set_cons_succ, List.set_nil, ofConst, ofConst1, List.replicate, List.cons_append, List.nil_append, loadOp, Go.Abs.loadCells, binV, Int.toNat_natCast, pickV, List.getElem?_cons_zero, List.getElem?_cons_succ, Option.map_some, Option.bind_some, List.drop_zero, List.drop_succ_cons, List.take_succ_cons, List.take_zero, List.length_map, outR, resAll, resOne, if_true, if_false, and_true, true_and, Bool.true_eq_false, Bool.false_eq_true, forall_const, true_implies, false_implies, implies_true, decide_true, decide_false, beq_self_eq_true, Option.getD_some, Nat.zero_add, Nat.add_zero, storeOp, storeCell, overlay, List.take_nil, List.drop_nil, List.append_nil, lookupOp, keyT, okRes, mapUpdateOp, Bool.and_self, Bool.and_true, Bool.true_and, Bool.not_true, Bool.not_false, gt_iff_lt, ge_iff_le, Nat.reduceSub, Nat.reduceAdd, Int.reduceLT, Int.reduceLE, Int.reduceAdd, Int.reduceSub, Int.reduceToNat, Int.reduceBEq, Int.reduceBNe, Int.reduceMul, Nat.reduceBEq, Nat.reduceBNe, Nat.reduceLT, Nat.reduceLeDiff, Nat.reduceMul, Nat.reduceEqDiff, WD, effB, effH, isPriv, isHeap, isImm, Option.any_some, Option.any_none, Option.isSome_none, chkO, setD, dslot, Bool.toNat_true, Bool.toNat_false, Nat.add_zero, Nat.zero_add, List.append_eq, and_self, ptrCells_some, F3]
                    rw [wpCall_eq (live_eq _)]
                    simp only [WW, partV, eqCells, eqLf, minV, maxV, ifcV, List.map_cons, List.map_nil, List.length_cons, List.length_nil, List.getD_cons_zero, List.getD_cons_succ, List.set_cons_zero, List.set_cons_succ, List.set_nil, ofConst, ofConst1, List.replicate, List.cons_append, List.nil_append, loadOp, Go.Abs.loadCells, binV, Int.toNat_natCast, pickV, List.getElem?_cons_zero, List.getElem?_cons_succ, Option.map_some, Option.bind_some, List.drop_zero, List.drop_succ_cons, List.take_succ_cons, List.take_zero, List.length_map, outR, resAll, resOne, if_true, if_false, and_true, true_and, Bool.true_eq_false, Bool.false_eq_true, forall_const, true_implies, false_implies, implies_true, decide_true, decide_false, beq_self_eq_true, Option.getD_some, Nat.zero_add, Nat.add_zero, storeOp, storeCell, overlay, List.take_nil, List.drop_nil, List.append_nil, lookupOp, keyT, okRes, mapUpdateOp, Bool.and_self, Bool.and_true, Bool.true_and, Bool.not_true, Bool.not_false, gt_iff_lt, ge_iff_le, Nat.reduceSub, Nat.reduceAdd, Int.reduceLT, Int.reduceLE, Int.reduceAdd, Int.reduceSub, Int.reduceToNat, Int.reduceBEq, Int.reduceBNe, Int.reduceMul, Nat.reduceBEq, Nat.reduceBNe, Nat.reduceLT, Nat.reduceLeDiff, Nat.reduceMul, Nat.reduceEqDiff, WD, effB, effH, isPriv, isHeap, isImm, Option.any_some, Option.any_none, Option.isSome_none, chkO, setD, dslot, Bool.toNat_true, Bool.toNat_false, Nat.add_zero, Nat.zero_add, List.append_eq, and_self, ptrCells_some, F3]
end Go.Proofs.Ytfjbgmcdkhepkaa

namespace Go.Proofs.Ytfjbgmcdkhepkaa
open Go Go.Abs Go.Proofs
set_option maxRecDepth 100000
set_option maxHeartbeats 2000000
set_option linter.unusedVariables false
set_option linter.unusedSimpArgs false
theorem u3 : Try.prog.underlying 3 = some (.int .i64) := by kernel_rfl
theorem u24 : Try.prog.underlying 24 = some (.int .u64) := by kernel_rfl
theorem u22 : Try.prog.underlying 22 = some (.slice 34) := by kernel_rfl
theorem u42 : Try.prog.underlying 42 = some (.slice 45) := by kernel_rfl
theorem s34 : tysOf Try.prog 34 = some [3, 24] := by kernel_rfl
theorem s45 : tysOf Try.prog 45 = some [3, 3, 22, 24] := by kernel_rfl
theorem ag34 : isAggT Try.prog 34 = true := by kernel_rfl
theorem ag45 : isAggT Try.prog 45 = true := by kernel_rfl
theorem ag22 : isAggT Try.prog 22 = false := by kernel_rfl
theorem ag24 : isAggT Try.prog 24 = false := by kernel_rfl
theorem ag3 : isAggT Try.prog 3 = false := by kernel_rfl
theorem ag42 : isAggT Try.prog 42 = false := by kernel_rfl
theorem open_deps {d : Nat} {v : List V} (h : Tv Try.prog (d + 3) 22 v) : ∃ x l, v = [x] ∧ IsDeps x l ∧ l.length ≤ maxLen ∧ ∀ y ∈ l, (-9223372036854775808 ≤ y.1 ∧ y.1 ≤ 9223372036854775807) ∧ 0 ≤ y.2 ∧ y.2 ≤ 18446744073709551615 := by
  obtain ⟨x, rows, rfl, hx, hl, hr⟩ := tv_slice h u22
  rw [ag34] at hx
  obtain ⟨l, e, el, hq⟩ := rows_map (f := mkV true) (tv := depV) (Q := fun y => (-9223372036854775808 ≤ y.1 ∧ y.1 ≤ 9223372036854775807) ∧ 0 ≤ y.2 ∧ y.2 ≤ 18446744073709551615) (rows := rows) (fun r hr' => by
    obtain ⟨a, _, rfl, ha, b, _, rfl, hb, rfl⟩ := tv_fields (hr r hr') s34
    obtain ⟨n, rfl, hn⟩ := tv_int ha u3
    obtain ⟨m, rfl, hm⟩ := tv_int hb u24
    exact ⟨(n, m), rfl, i64_wf hn, u64_wf hm⟩)
  rw [e] at hx
  refine ⟨x, l, rfl, ?_, by omega, hq⟩
  rcases (hx []).flat with ⟨rfl, h2⟩ | rfl
  · obtain rfl : l = [] := by simpa using h2
    exact .nils
  · exact .rsl l
theorem depsOwn_main {v0 v1 : List V} (h0 : Tv Try.prog 8 22 v0) (h1 : Tv Try.prog 8 24 v1) :
    wpCall (evW Try.prog notes) 3 [mkV (isAggT Try.prog 22) v0, mkV (isAggT Try.prog 24) v1] [] (fun out H' => out = .ret (.bool true) false) := by
  obtain ⟨x, l, rfl, hx, _, hl⟩ := open_deps h0
  obtain ⟨n, rfl, _⟩ := tv_int h1 u24
  rw [ag22, ag24]
  exact depsOwn_eq x l hx (fun y hy => by have := hl y hy; omega) n
end Go.Proofs.Ytfjbgmcdkhepkaa
