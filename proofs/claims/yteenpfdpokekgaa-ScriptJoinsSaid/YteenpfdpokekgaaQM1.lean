/- A part of the proofs over this seat. -/
import Derived.Test.YteenpfdpokekgaaQC0
import Derived.Test.YteenpfdpokekgaaQAbsTv
import Derived.Test.YteenpfdpokekgaaQAbsSl
/- The reader of scripts: a fault, a word, a digit. -/
namespace Go.Proofs.Yteenpfdpokekgaa
open Go Go.Abs Go.Proofs
set_option maxRecDepth 100000
set_option maxHeartbeats 2000000
set_option linter.unusedVariables false
set_option linter.unusedSimpArgs false
noncomputable abbrev EW := evW Try.prog notes
def by8 (L : List UInt8) : List V := L.map byteV
theorem by8_len (L : List UInt8) : (by8 L).length = L.length := by simp [by8]
def bx : V → Option Nat
  | .sl id _ _ => some id
  | _ => none
def rb (x : V) (s : Nat × Int) : Blk := .cells [.agg [x, .int .i64 s.1, .int .i64 s.2]]
/-- A reader at a place -/
structure RS (H : Hp) (r : Nat) (x : V) (B : List UInt8) (s : Nat × Int) : Prop where
  blk : H[r]? = some (rb x s)
  txt : Sx H x (by8 B)
  ne : bx x ≠ some r
  le : s.1 ≤ B.length
theorem sx_set {H : Hp} {x : V} {l : List V} {r : Nat} (h : Sx H x l) (hn : bx x ≠ some r) (b : Blk) : Sx (H.set r b) x l := by
  cases h with
  | nils => exact .nils
  | rsl l => exact .rsl l
  | sl id lo len es h1 h2 => exact .sl id lo len es (by rw [List.getElem?_set, if_neg (by rintro rfl; exact hn rfl)]; exact h1) h2
theorem RS.to {H : Hp} {r : Nat} {x : V} {B : List UInt8} {s : Nat × Int} (h : RS H r x B s) {s' : Nat × Int} (hl : s'.1 ≤ B.length) : RS (H.set r (rb x s')) r x B s' :=
  ⟨by rw [List.getElem?_set_self (List.getElem?_eq_some_iff.1 h.blk).1], sx_set h.txt h.ne _, h.ne, hl⟩
theorem set_same {H : Hp} {r : Nat} {b : Blk} (h : H[r]? = some b) : H.set r b = H := by
  obtain ⟨h1, h2⟩ := List.getElem?_eq_some_iff.1 h
  rw [← h2, List.set_getElem_self]
theorem RS.same {H : Hp} {r : Nat} {x : V} {B : List UInt8} {s : Nat × Int} (h : RS H r x B s) : H.set r (rb x s) = H := set_same h.blk
theorem num_eq (n : Int) (H : Hp) : EW 9 [.int .i64 n] H = some (.ret (.int .i64 n) false, H) := by
  refine eqOf (runs f9 b9 r9 n9 _ _ ?_)
  simp only [bodyOf, Try.f9, Option.getD_some]
  simp only [WW, partV, eqCells, eqLf, minV, maxV, ifcV, zaa, zab, zac, zad, zae, zaf, zag, zah, zai, ofConst, ofConst1, List.replicate, zaj, zak, loadOp, Go.Abs.loadCells, binV, zal, pickV, zam, zan, zao, zap, zaq, zar, zas, zat, zau, outR, resAll, resOne, zav, zaw, zax, zay, zaz, zba, zbb, zbc, zbd, zbe, zbf, zbg, zbh, zbi, zbj, zbk, storeOp, storeCell, overlay, zbl, zbm, zbn, lookupOp, keyT, okRes, mapUpdateOp, zbo, zbp, zbq, zbr, zbs, zbt, zbu, Nat.reduceSub, Nat.reduceAdd, Int.reduceLT, Int.reduceLE, Int.reduceAdd, Int.reduceSub, Int.reduceToNat, Int.reduceBEq, Int.reduceBNe, Int.reduceMul, Nat.reduceBEq, Nat.reduceBNe, Nat.reduceLT, Nat.reduceLeDiff, Nat.reduceMul, Nat.reduceEqDiff, WD, effB, effH, isPriv, isHeap, isImm, zbx, zby, zbz, chkO, setD, dslot, zca, zcb, zcc, zcd, ptrCells_some, convertOp]
theorem between_eq (n a b : Int) (H : Hp) : EW 23 [.int .i64 n, .int .i64 a, .int .i64 b] H = some (.ret (.bool (decide (a ≤ n) && decide (n ≤ b))) false, H) := by
  refine eqOf (runs f23 b23 r23 n23 _ _ ?_)
  simp only [bodyOf, Try.f23, Option.getD_some]
  cases h : decide (a ≤ n) with
  | true => simp only [WW, partV, eqCells, eqLf, minV, maxV, ifcV, zaa, zab, zac, zad, zae, zaf, zag, zah, zai, ofConst, ofConst1, List.replicate, zaj, zak, loadOp, Go.Abs.loadCells, binV, zal, pickV, zam, zan, zao, zap, zaq, zar, zas, zat, zau, outR, resAll, resOne, zav, zaw, zax, zay, zaz, zba, zbb, zbc, zbd, zbe, zbf, zbg, zbh, zbi, zbj, zbk, storeOp, storeCell, overlay, zbl, zbm, zbn, lookupOp, keyT, okRes, mapUpdateOp, zbo, zbp, zbq, zbr, zbs, zbt, zbu, Nat.reduceSub, Nat.reduceAdd, Int.reduceLT, Int.reduceLE, Int.reduceAdd, Int.reduceSub, Int.reduceToNat, Int.reduceBEq, Int.reduceBNe, Int.reduceMul, Nat.reduceBEq, Nat.reduceBNe, Nat.reduceLT, Nat.reduceLeDiff, Nat.reduceMul, Nat.reduceEqDiff, WD, effB, effH, isPriv, isHeap, isImm, zbx, zby, zbz, chkO, setD, dslot, zca, zcb, zcc, zcd, ptrCells_some, F23, h]
  | false => simp only [WW, partV, eqCells, eqLf, minV, maxV, ifcV, zaa, zab, zac, zad, zae, zaf, zag, zah, zai, ofConst, ofConst1, List.replicate, zaj, zak, loadOp, Go.Abs.loadCells, binV, zal, pickV, zam, zan, zao, zap, zaq, zar, zas, zat, zau, outR, resAll, resOne, zav, zaw, zax, zay, zaz, zba, zbb, zbc, zbd, zbe, zbf, zbg, zbh, zbi, zbj, zbk, storeOp, storeCell, overlay, zbl, zbm, zbn, lookupOp, keyT, okRes, mapUpdateOp, zbo, zbp, zbq, zbr, zbs, zbt, zbu, Nat.reduceSub, Nat.reduceAdd, Int.reduceLT, Int.reduceLE, Int.reduceAdd, Int.reduceSub, Int.reduceToNat, Int.reduceBEq, Int.reduceBNe, Int.reduceMul, Nat.reduceBEq, Nat.reduceBNe, Nat.reduceLT, Nat.reduceLeDiff, Nat.reduceMul, Nat.reduceEqDiff, WD, effB, effH, isPriv, isHeap, isImm, zbx, zby, zbz, chkO, setD, dslot, zca, zcb, zcc, zcd, ptrCells_some, F23, h, Bool.false_and]
def failM (e' : Int) (at' : Nat) (s : Nat × Int) : Nat × Int := if s.2 = 0 then (at', e') else s
theorem fail_eq {H : Hp} {r : Nat} {x : V} {s : Nat × Int} (hb : H[r]? = some (rb x s)) (hx : x.cells = [x]) (e' : Int) (at' : Nat) :
    EW 32 [.ptr r 0 0, .int .i64 e', .int .i64 at'] H = some (.ret (.tup []) false, H.set r (rb x (failM e' at' s))) := by
  obtain ⟨a, e⟩ := s
  have hb1 : H[r]? = some (.cells [.agg [x, .int .i64 (a : Int), .int .i64 e]]) := hb
  have hlt := (List.getElem?_eq_some_iff.1 hb).1
  refine eqOf2 (runs f32 b32 r32 n32 _ _ ?_)
  simp only [bodyOf, Try.f32, Option.getD_some]
  simp only [WW, partV, eqCells, eqLf, minV, maxV, ifcV, zaa, zab, zac, zad, zae, zaf, zag, zah, zai, ofConst, ofConst1, List.replicate, zaj, zak, loadOp, Go.Abs.loadCells, binV, zal, pickV, zam, zan, zao, zap, zaq, zar, zas, zat, zau, outR, resAll, resOne, zav, zaw, zax, zay, zaz, zba, zbb, zbc, zbd, zbe, zbf, zbg, zbh, zbi, zbj, zbk, storeOp, storeCell, overlay, zbl, zbm, zbn, lookupOp, keyT, okRes, mapUpdateOp, zbo, zbp, zbq, zbr, zbs, zbt, zbu, Nat.reduceSub, Nat.reduceAdd, Int.reduceLT, Int.reduceLE, Int.reduceAdd, Int.reduceSub, Int.reduceToNat, Int.reduceBEq, Int.reduceBNe, Int.reduceMul, Nat.reduceBEq, Nat.reduceBNe, Nat.reduceLT, Nat.reduceLeDiff, Nat.reduceMul, Nat.reduceEqDiff, WD, effB, effH, isPriv, isHeap, isImm, zbx, zby, zbz, chkO, setD, dslot, zca, zcb, zcc, zcd, ptrCells_some, F32, hb1]
  by_cases he : e = 0
  · subst he
    have hs : ∀ b : Blk, (H.set r b)[r]? = some b := fun b => List.getElem?_set_self hlt
    simp only [WW, partV, eqCells, eqLf, minV, maxV, ifcV, zaa, zab, zac, zad, zae, zaf, zag, zah, zai, ofConst, ofConst1, List.replicate, zaj, zak, loadOp, Go.Abs.loadCells, binV, zal, pickV, zam, zan, zao, zap, zaq, zar, zas, zat, zau, outR, resAll, resOne, zav, zaw, zax, zay, zaz, zba, zbb, zbc, zbd, zbe, zbf, zbg, zbh, zbi, zbj, zbk, storeOp, storeCell, overlay, zbl, zbm, zbn, lookupOp, keyT, okRes, mapUpdateOp, zbo, zbp, zbq, zbr, zbs, zbt, zbu, Nat.reduceSub, Nat.reduceAdd, Int.reduceLT, Int.reduceLE, Int.reduceAdd, Int.reduceSub, Int.reduceToNat, Int.reduceBEq, Int.reduceBNe, Int.reduceMul, Nat.reduceBEq, Nat.reduceBNe, Nat.reduceLT, Nat.reduceLeDiff, Nat.reduceMul, Nat.reduceEqDiff, WD, effB, effH, isPriv, isHeap, isImm, zbx, zby, zbz, chkO, setD, dslot, zca, zcb, zcc, zcd, ptrCells_some, F32, hb1, storeHeap, promote, heapSet, elemSet, hs]
    simp [failM, rb]
  · have he' : (e == 0) = false := by simpa using he
    simp only [WW, partV, eqCells, eqLf, minV, maxV, ifcV, zaa, zab, zac, zad, zae, zaf, zag, zah, zai, ofConst, ofConst1, List.replicate, zaj, zak, loadOp, Go.Abs.loadCells, binV, zal, pickV, zam, zan, zao, zap, zaq, zar, zas, zat, zau, outR, resAll, resOne, zav, zaw, zax, zay, zaz, zba, zbb, zbc, zbd, zbe, zbf, zbg, zbh, zbi, zbj, zbk, storeOp, storeCell, overlay, zbl, zbm, zbn, lookupOp, keyT, okRes, mapUpdateOp, zbo, zbp, zbq, zbr, zbs, zbt, zbu, Nat.reduceSub, Nat.reduceAdd, Int.reduceLT, Int.reduceLE, Int.reduceAdd, Int.reduceSub, Int.reduceToNat, Int.reduceBEq, Int.reduceBNe, Int.reduceMul, Nat.reduceBEq, Nat.reduceBNe, Nat.reduceLT, Nat.reduceLeDiff, Nat.reduceMul, Nat.reduceEqDiff, WD, effB, effH, isPriv, isHeap, isImm, zbx, zby, zbz, chkO, setD, dslot, zca, zcb, zcc, zcd, ptrCells_some, F32, he']
    simp only [failM, he, if_false]
    simp [set_same hb]
def dig (B : List UInt8) (i : Nat) : Bool := match B[i]? with | some c => decide (48 ≤ c.toNat) && decide (c.toNat ≤ 57) | none => false
theorem digit_eq {H : Hp} {r : Nat} {x : V} {B : List UInt8} {s : Nat × Int} (h : RS H r x B s) :
    EW 33 [.ptr r 0 0] H = some (.ret (.bool (dig B s.1)) false, H) := by
  obtain ⟨a, e⟩ := s
  have hb1 : H[r]? = some (.cells [.agg [x, .int .i64 (a : Int), .int .i64 e]]) := h.blk
  have hx := h.txt.rd
  refine eqOf2 (runs f33 b33 r33 n33 _ _ ?_)
  simp only [bodyOf, Try.f33, Option.getD_some]
  simp only [WW, partV, eqCells, eqLf, minV, maxV, ifcV, zaa, zab, zac, zad, zae, zaf, zag, zah, zai, ofConst, ofConst1, List.replicate, zaj, zak, loadOp, Go.Abs.loadCells, binV, zal, pickV, zam, zan, zao, zap, zaq, zar, zas, zat, zau, outR, resAll, resOne, zav, zaw, zax, zay, zaz, zba, zbb, zbc, zbd, zbe, zbf, zbg, zbh, zbi, zbj, zbk, storeOp, storeCell, overlay, zbl, zbm, zbn, lookupOp, keyT, okRes, mapUpdateOp, zbo, zbp, zbq, zbr, zbs, zbt, zbu, Nat.reduceSub, Nat.reduceAdd, Int.reduceLT, Int.reduceLE, Int.reduceAdd, Int.reduceSub, Int.reduceToNat, Int.reduceBEq, Int.reduceBNe, Int.reduceMul, Nat.reduceBEq, Nat.reduceBNe, Nat.reduceLT, Nat.reduceLeDiff, Nat.reduceMul, Nat.reduceEqDiff, WD, effB, effH, isPriv, isHeap, isImm, zbx, zby, zbz, chkO, setD, dslot, zca, zcb, zcc, zcd, ptrCells_some, F33]
  refine wC_dr [] (by kernel_rfl) ?_
  cases hB : B[a]? with
  | none =>
    have hge := List.getElem?_eq_none_iff.1 hB
    have hg : decide ((a : Int) < (B.length : Int)) = false := decide_eq_false (by omega)
    simp only [WW, partV, eqCells, eqLf, minV, maxV, ifcV, zaa, zab, zac, zad, zae, zaf, zag, zah, zai, ofConst, ofConst1, List.replicate, zaj, zak, loadOp, Go.Abs.loadCells, binV, zal, pickV, zam, zan, zao, zap, zaq, zar, zas, zat, zau, outR, resAll, resOne, zav, zaw, zax, zay, zaz, zba, zbb, zbc, zbd, zbe, zbf, zbg, zbh, zbi, zbj, zbk, storeOp, storeCell, overlay, zbl, zbm, zbn, lookupOp, keyT, okRes, mapUpdateOp, zbo, zbp, zbq, zbr, zbs, zbt, zbu, Nat.reduceSub, Nat.reduceAdd, Int.reduceLT, Int.reduceLE, Int.reduceAdd, Int.reduceSub, Int.reduceToNat, Int.reduceBEq, Int.reduceBNe, Int.reduceMul, Nat.reduceBEq, Nat.reduceBNe, Nat.reduceLT, Nat.reduceLeDiff, Nat.reduceMul, Nat.reduceEqDiff, WD, effB, effH, isPriv, isHeap, isImm, zbx, zby, zbz, chkO, setD, dslot, zca, zcb, zcc, zcd, ptrCells_some, F33, hb1, hx.shutIn, hx.len, by8_len, hg]
    simp [dig, hB]
  | some c =>
    have hlt := (List.getElem?_eq_some_iff.1 hB).1
    have hg : decide ((a : Int) < (B.length : Int)) = true := decide_eq_true (by omega)
    have hc8 : (by8 B)[a]? = some (byteV c) := by simp [by8, hB]
    have hat := hx.at_ (sz := 1) hc8 rfl
    have e1 : decide ((48 : Int) ≤ ((c.toNat : Nat) : Int)) = decide (48 ≤ c.toNat) := by rw [Bool.eq_iff_iff]; simp; omega
    have e2 : decide (((c.toNat : Nat) : Int) ≤ 57) = decide (c.toNat ≤ 57) := by rw [Bool.eq_iff_iff]; simp; omega
    cases h1 : decide (48 ≤ c.toNat) with
    | false =>
      simp only [WW, partV, eqCells, eqLf, minV, maxV, ifcV, zaa, zab, zac, zad, zae, zaf, zag, zah, zai, ofConst, ofConst1, List.replicate, zaj, zak, loadOp, Go.Abs.loadCells, binV, zal, pickV, zam, zan, zao, zap, zaq, zar, zas, zat, zau, outR, resAll, resOne, zav, zaw, zax, zay, zaz, zba, zbb, zbc, zbd, zbe, zbf, zbg, zbh, zbi, zbj, zbk, storeOp, storeCell, overlay, zbl, zbm, zbn, lookupOp, keyT, okRes, mapUpdateOp, zbo, zbp, zbq, zbr, zbs, zbt, zbu, Nat.reduceSub, Nat.reduceAdd, Int.reduceLT, Int.reduceLE, Int.reduceAdd, Int.reduceSub, Int.reduceToNat, Int.reduceBEq, Int.reduceBNe, Int.reduceMul, Nat.reduceBEq, Nat.reduceBNe, Nat.reduceLT, Nat.reduceLeDiff, Nat.reduceMul, Nat.reduceEqDiff, WD, effB, effH, isPriv, isHeap, isImm, zbx, zby, zbz, chkO, setD, dslot, zca, zcb, zcc, zcd, ptrCells_some, F33, hb1, hx.shutIn, hx.len, by8_len, hg, hat.at1 hx, hat.cells, byteV, e1, h1]
      simp [dig, hB, h1]
    | true =>
      simp only [WW, partV, eqCells, eqLf, minV, maxV, ifcV, zaa, zab, zac, zad, zae, zaf, zag, zah, zai, ofConst, ofConst1, List.replicate, zaj, zak, loadOp, Go.Abs.loadCells, binV, zal, pickV, zam, zan, zao, zap, zaq, zar, zas, zat, zau, outR, resAll, resOne, zav, zaw, zax, zay, zaz, zba, zbb, zbc, zbd, zbe, zbf, zbg, zbh, zbi, zbj, zbk, storeOp, storeCell, overlay, zbl, zbm, zbn, lookupOp, keyT, okRes, mapUpdateOp, zbo, zbp, zbq, zbr, zbs, zbt, zbu, Nat.reduceSub, Nat.reduceAdd, Int.reduceLT, Int.reduceLE, Int.reduceAdd, Int.reduceSub, Int.reduceToNat, Int.reduceBEq, Int.reduceBNe, Int.reduceMul, Nat.reduceBEq, Nat.reduceBNe, Nat.reduceLT, Nat.reduceLeDiff, Nat.reduceMul, Nat.reduceEqDiff, WD, effB, effH, isPriv, isHeap, isImm, zbx, zby, zbz, chkO, setD, dslot, zca, zcb, zcc, zcd, ptrCells_some, F33, hb1, hx.shutIn, hx.len, by8_len, hg, hat.at1 hx, hat.cells, byteV, e1, e2, h1]
      simp [dig, hB, h1]
end Go.Proofs.Yteenpfdpokekgaa

/- The reader of scripts: words, the room for one more. -/
namespace Go.Proofs.Yteenpfdpokekgaa
open Go Go.Abs Go.Proofs
set_option maxRecDepth 100000
set_option maxHeartbeats 2000000
set_option linter.unusedVariables false
set_option linter.unusedSimpArgs false
theorem size_len (D : List UInt8) : (ByteArray.mk D.toArray).size = D.length := by simp [ByteArray.size]
def wantM (B : List UInt8) : List UInt8 → Nat × Int → Nat × Int
  | [], s => s
  | c :: w, s => if s.2 = 0 then (if B[s.1]? = some c then wantM B w (s.1 + 1, 0) else (s.1, 6)) else s
theorem wantM_bad {B : List UInt8} {w : List UInt8} {s : Nat × Int} (h : s.2 ≠ 0) : wantM B w s = s := by
  cases w <;> simp [wantM, h]
theorem wantM_le {B : List UInt8} : ∀ {w : List UInt8} {s : Nat × Int}, s.1 ≤ B.length → (wantM B w s).1 ≤ B.length
  | [], s, h => h
  | c :: w, s, h => by
    unfold wantM
    split
    · split
      · rename_i h2
        exact wantM_le (by have := (List.getElem?_eq_some_iff.1 h2).1; exact this)
      · exact h
    · exact h
theorem drop_cons {α : Type} {L : List α} {k : Nat} {c : α} (h : L[k]? = some c) : L.drop k = c :: L.drop (k + 1) := by
  obtain ⟨h1, h2⟩ := List.getElem?_eq_some_iff.1 h
  rw [List.drop_eq_getElem_cons h1, h2]
theorem want_eq {H : Hp} {r : Nat} {x : V} {B : List UInt8} {s : Nat × Int} (h : RS H r x B s) (W : List UInt8) (hB : B.length < 4294967296) (hW : W.length < 4294967296) :
    EW 27 [.ptr r 0 0, .str ⟨W.toArray⟩] H = some (.ret (.tup []) false, H.set r (rb x (wantM B W s))) := by
  refine eqOf2 (runs f27 b27 r27 n27 _ _ ?_)
  simp only [bodyOf, Try.f27, Option.getD_some]
  simp only [WW, partV, eqCells, eqLf, minV, maxV, ifcV, zaa, zab, zac, zad, zae, zaf, zag, zah, zai, ofConst, ofConst1, List.replicate, zaj, zak, loadOp, Go.Abs.loadCells, binV, zal, pickV, zam, zan, zao, zap, zaq, zar, zas, zat, zau, outR, resAll, resOne, zav, zaw, zax, zay, zaz, zba, zbb, zbc, zbd, zbe, zbf, zbg, zbh, zbi, zbj, zbk, storeOp, storeCell, overlay, zbl, zbm, zbn, lookupOp, keyT, okRes, mapUpdateOp, zbo, zbp, zbq, zbr, zbs, zbt, zbu, Nat.reduceSub, Nat.reduceAdd, Int.reduceLT, Int.reduceLE, Int.reduceAdd, Int.reduceSub, Int.reduceToNat, Int.reduceBEq, Int.reduceBNe, Int.reduceMul, Nat.reduceBEq, Nat.reduceBNe, Nat.reduceLT, Nat.reduceLeDiff, Nat.reduceMul, Nat.reduceEqDiff, WD, effB, effH, isPriv, isHeap, isImm, zbx, zby, zbz, chkO, setD, dslot, zca, zcb, zcc, zcd, ptrCells_some, F27]
  refine wC_loop _ (fun n st H' => ∃ (i : Nat) (s' : Nat × Int), st = ⟨L27_1 (.v (.ptr r 0 0)) (.v (.str ⟨W.toArray⟩)) (.v (.int .i64 i)), [], []⟩ ∧ RS H' r x B s' ∧ (∀ b, H'.set r b = H.set r b) ∧ wantM B (W.drop i) s' = wantM B W s ∧ i ≤ W.length ∧ n = W.length - i) W.length ⟨0, s, ?_, h, fun _ => rfl, rfl, by omega, by omega⟩ ?_
  · simp only [WN, firstReg, growAll, zbv, zbw, norm, killS, zag, zah, zaa, zab, zbl, zat, zad, growOne, zae, zaf, zac, zas, zak, Nat.reduceLT, Nat.reduceAdd, zbj, zav, F27, L27_1]; rfl
  · rintro n st H' ⟨i, ⟨a, e⟩, rfl, hr, hset, hw, hi, rfl⟩
    have hb1 : H'[r]? = some (.cells [.agg [x, .int .i64 (a : Int), .int .i64 e]]) := hr.blk
    have hlt := (List.getElem?_eq_some_iff.1 hb1).1
    have hx := hr.txt.rd
    have hale : a ≤ B.length := hr.le
    simp only [L27_1]
    rcases Nat.lt_or_ge i W.length with hiw | hiw
    · have g1 : decide ((i : Int) < (W.length : Int)) = true := decide_eq_true (by omega)
      obtain ⟨c, hc⟩ : ∃ c, W[i]? = some c := ⟨_, List.getElem?_eq_getElem hiw⟩
      rw [drop_cons hc] at hw
      by_cases he : e = 0
      · subst he
        rw [wantM] at hw
        simp only [if_true] at hw
        simp only [WW, partV, eqCells, eqLf, minV, maxV, ifcV, zaa, zab, zac, zad, zae, zaf, zag, zah, zai, ofConst, ofConst1, List.replicate, zaj, zak, loadOp, Go.Abs.loadCells, binV, zal, pickV, zam, zan, zao, zap, zaq, zar, zas, zat, zau, outR, resAll, resOne, zav, zaw, zax, zay, zaz, zba, zbb, zbc, zbd, zbe, zbf, zbg, zbh, zbi, zbj, zbk, storeOp, storeCell, overlay, zbl, zbm, zbn, lookupOp, keyT, okRes, mapUpdateOp, zbo, zbp, zbq, zbr, zbs, zbt, zbu, Nat.reduceSub, Nat.reduceAdd, Int.reduceLT, Int.reduceLE, Int.reduceAdd, Int.reduceSub, Int.reduceToNat, Int.reduceBEq, Int.reduceBNe, Int.reduceMul, Nat.reduceBEq, Nat.reduceBNe, Nat.reduceLT, Nat.reduceLeDiff, Nat.reduceMul, Nat.reduceEqDiff, WD, effB, effH, isPriv, isHeap, isImm, zbx, zby, zbz, chkO, setD, dslot, zca, zcb, zcc, zcd, ptrCells_some, F27, size_len, g1, hb1]
        refine wC_dr [] (by kernel_rfl) ?_
        cases hBa : B[a]? with
        | none =>
          have hge := List.getElem?_eq_none_iff.1 hBa
          have hg : ((a : Int) == (B.length : Int)) = true := by simp; omega
          rw [hBa] at hw
          simp only [reduceCtorEq, if_false] at hw
          simp only [WW, partV, eqCells, eqLf, minV, maxV, ifcV, zaa, zab, zac, zad, zae, zaf, zag, zah, zai, ofConst, ofConst1, List.replicate, zaj, zak, loadOp, Go.Abs.loadCells, binV, zal, pickV, zam, zan, zao, zap, zaq, zar, zas, zat, zau, outR, resAll, resOne, zav, zaw, zax, zay, zaz, zba, zbb, zbc, zbd, zbe, zbf, zbg, zbh, zbi, zbj, zbk, storeOp, storeCell, overlay, zbl, zbm, zbn, lookupOp, keyT, okRes, mapUpdateOp, zbo, zbp, zbq, zbr, zbs, zbt, zbu, Nat.reduceSub, Nat.reduceAdd, Int.reduceLT, Int.reduceLE, Int.reduceAdd, Int.reduceSub, Int.reduceToNat, Int.reduceBEq, Int.reduceBNe, Int.reduceMul, Nat.reduceBEq, Nat.reduceBNe, Nat.reduceLT, Nat.reduceLeDiff, Nat.reduceMul, Nat.reduceEqDiff, WD, effB, effH, isPriv, isHeap, isImm, zbx, zby, zbz, chkO, setD, dslot, zca, zcb, zcc, zcd, ptrCells_some, F27, hb1, hx.shutIn, hx.len, by8_len, hg]
          rw [wpCall_eq (fail_eq hr.blk hr.txt.rd.cells1 6 a)]
          simp only [WW, partV, eqCells, eqLf, minV, maxV, ifcV, zaa, zab, zac, zad, zae, zaf, zag, zah, zai, ofConst, ofConst1, List.replicate, zaj, zak, loadOp, Go.Abs.loadCells, binV, zal, pickV, zam, zan, zao, zap, zaq, zar, zas, zat, zau, outR, resAll, resOne, zav, zaw, zax, zay, zaz, zba, zbb, zbc, zbd, zbe, zbf, zbg, zbh, zbi, zbj, zbk, storeOp, storeCell, overlay, zbl, zbm, zbn, lookupOp, keyT, okRes, mapUpdateOp, zbo, zbp, zbq, zbr, zbs, zbt, zbu, Nat.reduceSub, Nat.reduceAdd, Int.reduceLT, Int.reduceLE, Int.reduceAdd, Int.reduceSub, Int.reduceToNat, Int.reduceBEq, Int.reduceBNe, Int.reduceMul, Nat.reduceBEq, Nat.reduceBNe, Nat.reduceLT, Nat.reduceLeDiff, Nat.reduceMul, Nat.reduceEqDiff, WD, effB, effH, isPriv, isHeap, isImm, zbx, zby, zbz, chkO, setD, dslot, zca, zcb, zcc, zcd, ptrCells_some, F27]
          simp only [failM, if_true]
          rw [hset, ← hw]
        | some b =>
          have hlt2 := (List.getElem?_eq_some_iff.1 hBa).1
          have hg : ((a : Int) == (B.length : Int)) = false := by simp; omega
          have hc8 : (by8 B)[a]? = some (byteV b) := by simp [by8, hBa]
          have hat := hx.at_ (sz := 1) hc8 rfl
          have e1 : (((b.toNat : Nat) : Int) != ((c.toNat : Nat) : Int)) = !(b == c) := by
            rw [Bool.eq_iff_iff]; simp; exact not_congr ⟨fun h => UInt8.toNat_inj.1 (by omega), fun h => by rw [h]⟩
          cases hbc : (b == c) with
          | false =>
            have hne : ¬ B[a]? = some c := by rw [hBa]; intro q; cases q; simp at hbc
            rw [if_neg hne] at hw
            simp only [WW, partV, eqCells, eqLf, minV, maxV, ifcV, zaa, zab, zac, zad, zae, zaf, zag, zah, zai, ofConst, ofConst1, List.replicate, zaj, zak, loadOp, Go.Abs.loadCells, binV, zal, pickV, zam, zan, zao, zap, zaq, zar, zas, zat, zau, outR, resAll, resOne, zav, zaw, zax, zay, zaz, zba, zbb, zbc, zbd, zbe, zbf, zbg, zbh, zbi, zbj, zbk, storeOp, storeCell, overlay, zbl, zbm, zbn, lookupOp, keyT, okRes, mapUpdateOp, zbo, zbp, zbq, zbr, zbs, zbt, zbu, Nat.reduceSub, Nat.reduceAdd, Int.reduceLT, Int.reduceLE, Int.reduceAdd, Int.reduceSub, Int.reduceToNat, Int.reduceBEq, Int.reduceBNe, Int.reduceMul, Nat.reduceBEq, Nat.reduceBNe, Nat.reduceLT, Nat.reduceLeDiff, Nat.reduceMul, Nat.reduceEqDiff, WD, effB, effH, isPriv, isHeap, isImm, zbx, zby, zbz, chkO, setD, dslot, zca, zcb, zcc, zcd, ptrCells_some, F27, hb1, hx.shutIn, hx.len, by8_len, hg, hat.at1 hx, hat.cells, byteV, hc, e1, hbc, size_len]
            rw [wpCall_eq (fail_eq hr.blk hr.txt.rd.cells1 6 a)]
            simp only [WW, partV, eqCells, eqLf, minV, maxV, ifcV, zaa, zab, zac, zad, zae, zaf, zag, zah, zai, ofConst, ofConst1, List.replicate, zaj, zak, loadOp, Go.Abs.loadCells, binV, zal, pickV, zam, zan, zao, zap, zaq, zar, zas, zat, zau, outR, resAll, resOne, zav, zaw, zax, zay, zaz, zba, zbb, zbc, zbd, zbe, zbf, zbg, zbh, zbi, zbj, zbk, storeOp, storeCell, overlay, zbl, zbm, zbn, lookupOp, keyT, okRes, mapUpdateOp, zbo, zbp, zbq, zbr, zbs, zbt, zbu, Nat.reduceSub, Nat.reduceAdd, Int.reduceLT, Int.reduceLE, Int.reduceAdd, Int.reduceSub, Int.reduceToNat, Int.reduceBEq, Int.reduceBNe, Int.reduceMul, Nat.reduceBEq, Nat.reduceBNe, Nat.reduceLT, Nat.reduceLeDiff, Nat.reduceMul, Nat.reduceEqDiff, WD, effB, effH, isPriv, isHeap, isImm, zbx, zby, zbz, chkO, setD, dslot, zca, zcb, zcc, zcd, ptrCells_some, F27]
            simp only [failM, if_true]
            rw [hset, ← hw]
          | true =>
            have hbe : B[a]? = some c := by rw [hBa]; simpa using hbc
            rw [if_pos hbe] at hw
            have hs : ∀ b : Blk, (H'.set r b)[r]? = some b := fun b => List.getElem?_set_self hlt
            have ha1 : IntKind.i64.wrap ((a : Int) + 1) = ((a + 1 : Nat) : Int) := by rw [IntWalk.i64_in _ (by omega)]; omega
            have hi1 : IntKind.i64.wrap ((i : Int) + 1) = ((i + 1 : Nat) : Int) := by rw [IntWalk.i64_in _ (by omega)]; omega
            simp only [WW, partV, eqCells, eqLf, minV, maxV, ifcV, zaa, zab, zac, zad, zae, zaf, zag, zah, zai, ofConst, ofConst1, List.replicate, zaj, zak, loadOp, Go.Abs.loadCells, binV, zal, pickV, zam, zan, zao, zap, zaq, zar, zas, zat, zau, outR, resAll, resOne, zav, zaw, zax, zay, zaz, zba, zbb, zbc, zbd, zbe, zbf, zbg, zbh, zbi, zbj, zbk, storeOp, storeCell, overlay, zbl, zbm, zbn, lookupOp, keyT, okRes, mapUpdateOp, zbo, zbp, zbq, zbr, zbs, zbt, zbu, Nat.reduceSub, Nat.reduceAdd, Int.reduceLT, Int.reduceLE, Int.reduceAdd, Int.reduceSub, Int.reduceToNat, Int.reduceBEq, Int.reduceBNe, Int.reduceMul, Nat.reduceBEq, Nat.reduceBNe, Nat.reduceLT, Nat.reduceLeDiff, Nat.reduceMul, Nat.reduceEqDiff, WD, effB, effH, isPriv, isHeap, isImm, zbx, zby, zbz, chkO, setD, dslot, zca, zcb, zcc, zcd, ptrCells_some, F27, hb1, hx.shutIn, hx.len, by8_len, hg, hat.at1 hx, hat.cells, byteV, hc, e1, hbc, ha1, hi1, storeHeap, promote, heapSet, elemSet, hs, size_len]
            refine ⟨W.length - (i + 1), by omega, i + 1, (a + 1, 0), ?_, hr.to (s' := (a + 1, 0)) (by simp; omega), fun b => ?_, hw, by omega, rfl⟩
            · simp only [WN, firstReg, growAll, zbv, zbw, norm, killS, zag, zah, zaa, zab, zbl, zat, zad, growOne, zae, zaf, zac, zas, zak, Nat.reduceLT, Nat.reduceAdd, zbj, zav, F27, L27_1]
            · rw [List.set_set, hset]
      · have he' : (e == 0) = false := by simpa using he
        rw [wantM_bad (by simpa using he)] at hw
        simp only [WW, partV, eqCells, eqLf, minV, maxV, ifcV, zaa, zab, zac, zad, zae, zaf, zag, zah, zai, ofConst, ofConst1, List.replicate, zaj, zak, loadOp, Go.Abs.loadCells, binV, zal, pickV, zam, zan, zao, zap, zaq, zar, zas, zat, zau, outR, resAll, resOne, zav, zaw, zax, zay, zaz, zba, zbb, zbc, zbd, zbe, zbf, zbg, zbh, zbi, zbj, zbk, storeOp, storeCell, overlay, zbl, zbm, zbn, lookupOp, keyT, okRes, mapUpdateOp, zbo, zbp, zbq, zbr, zbs, zbt, zbu, Nat.reduceSub, Nat.reduceAdd, Int.reduceLT, Int.reduceLE, Int.reduceAdd, Int.reduceSub, Int.reduceToNat, Int.reduceBEq, Int.reduceBNe, Int.reduceMul, Nat.reduceBEq, Nat.reduceBNe, Nat.reduceLT, Nat.reduceLeDiff, Nat.reduceMul, Nat.reduceEqDiff, WD, effB, effH, isPriv, isHeap, isImm, zbx, zby, zbz, chkO, setD, dslot, zca, zcb, zcc, zcd, ptrCells_some, F27, size_len, g1, hb1, he']
        have := hr.same
        rw [hset, hw] at this
        rw [this]
    · have g1 : decide ((i : Int) < (W.length : Int)) = false := decide_eq_false (by omega)
      rw [List.drop_of_length_le (by omega), wantM] at hw
      simp only [WW, partV, eqCells, eqLf, minV, maxV, ifcV, zaa, zab, zac, zad, zae, zaf, zag, zah, zai, ofConst, ofConst1, List.replicate, zaj, zak, loadOp, Go.Abs.loadCells, binV, zal, pickV, zam, zan, zao, zap, zaq, zar, zas, zat, zau, outR, resAll, resOne, zav, zaw, zax, zay, zaz, zba, zbb, zbc, zbd, zbe, zbf, zbg, zbh, zbi, zbj, zbk, storeOp, storeCell, overlay, zbl, zbm, zbn, lookupOp, keyT, okRes, mapUpdateOp, zbo, zbp, zbq, zbr, zbs, zbt, zbu, Nat.reduceSub, Nat.reduceAdd, Int.reduceLT, Int.reduceLE, Int.reduceAdd, Int.reduceSub, Int.reduceToNat, Int.reduceBEq, Int.reduceBNe, Int.reduceMul, Nat.reduceBEq, Nat.reduceBNe, Nat.reduceLT, Nat.reduceLeDiff, Nat.reduceMul, Nat.reduceEqDiff, WD, effB, effH, isPriv, isHeap, isImm, zbx, zby, zbz, chkO, setD, dslot, zca, zcb, zcc, zcd, ptrCells_some, F27, size_len, g1]
      have := hr.same
      rw [hset, hw] at this
      rw [this]
def moreM (B : List UInt8) (n : Int) (fr : Nat) (s : Nat × Int) : Nat × Int :=
  if (wantM B [32] s).2 = 0 ∧ n = 65536 then (fr, 3) else wantM B [32] s
theorem moreM_le {B : List UInt8} {n : Int} {fr : Nat} {s : Nat × Int} (h : s.1 ≤ B.length) (hf : fr ≤ B.length) : (moreM B n fr s).1 ≤ B.length := by
  unfold moreM; split
  · exact hf
  · exact wantM_le h
theorem more_eq {H : Hp} {r : Nat} {x : V} {B : List UInt8} {s : Nat × Int} (h : RS H r x B s) (n : Int) (fr : Nat) (hB : B.length < 4294967296) :
    EW 28 [.ptr r 0 0, .int .i64 n, .int .i64 fr] H = some (.ret (.tup []) false, H.set r (rb x (moreM B n fr s))) := by
  have hw := want_eq h [32] hB (by simp)
  have h1 := h.to (wantM_le (w := [32]) h.le)
  have hset : ∀ b, (H.set r (rb x (wantM B [32] s))).set r b = H.set r b := fun b => List.set_set ..
  unfold moreM
  generalize hs1 : wantM B [32] s = s1 at hw h1 hset ⊢
  obtain ⟨a, e⟩ := s1
  generalize hH1 : H.set r (rb x (a, e)) = H1 at hw h1 hset ⊢
  have hb1 : H1[r]? = some (.cells [.agg [x, .int .i64 (a : Int), .int .i64 e]]) := h1.blk
  refine eqOf2 (runs f28 b28 r28 n28 _ _ ?_)
  simp only [bodyOf, Try.f28, Option.getD_some]
  simp only [WW, partV, eqCells, eqLf, minV, maxV, ifcV, zaa, zab, zac, zad, zae, zaf, zag, zah, zai, ofConst, ofConst1, List.replicate, zaj, zak, loadOp, Go.Abs.loadCells, binV, zal, pickV, zam, zan, zao, zap, zaq, zar, zas, zat, zau, outR, resAll, resOne, zav, zaw, zax, zay, zaz, zba, zbb, zbc, zbd, zbe, zbf, zbg, zbh, zbi, zbj, zbk, storeOp, storeCell, overlay, zbl, zbm, zbn, lookupOp, keyT, okRes, mapUpdateOp, zbo, zbp, zbq, zbr, zbs, zbt, zbu, Nat.reduceSub, Nat.reduceAdd, Int.reduceLT, Int.reduceLE, Int.reduceAdd, Int.reduceSub, Int.reduceToNat, Int.reduceBEq, Int.reduceBNe, Int.reduceMul, Nat.reduceBEq, Nat.reduceBNe, Nat.reduceLT, Nat.reduceLeDiff, Nat.reduceMul, Nat.reduceEqDiff, WD, effB, effH, isPriv, isHeap, isImm, zbx, zby, zbz, chkO, setD, dslot, zca, zcb, zcc, zcd, ptrCells_some, F28]
  rw [wpCall_eq hw]
  by_cases he : e = 0
  · subst he
    by_cases hn : n = 65536
    · subst hn
      simp only [WW, partV, eqCells, eqLf, minV, maxV, ifcV, zaa, zab, zac, zad, zae, zaf, zag, zah, zai, ofConst, ofConst1, List.replicate, zaj, zak, loadOp, Go.Abs.loadCells, binV, zal, pickV, zam, zan, zao, zap, zaq, zar, zas, zat, zau, outR, resAll, resOne, zav, zaw, zax, zay, zaz, zba, zbb, zbc, zbd, zbe, zbf, zbg, zbh, zbi, zbj, zbk, storeOp, storeCell, overlay, zbl, zbm, zbn, lookupOp, keyT, okRes, mapUpdateOp, zbo, zbp, zbq, zbr, zbs, zbt, zbu, Nat.reduceSub, Nat.reduceAdd, Int.reduceLT, Int.reduceLE, Int.reduceAdd, Int.reduceSub, Int.reduceToNat, Int.reduceBEq, Int.reduceBNe, Int.reduceMul, Nat.reduceBEq, Nat.reduceBNe, Nat.reduceLT, Nat.reduceLeDiff, Nat.reduceMul, Nat.reduceEqDiff, WD, effB, effH, isPriv, isHeap, isImm, zbx, zby, zbz, chkO, setD, dslot, zca, zcb, zcc, zcd, ptrCells_some, F28, hb1]
      rw [wpCall_eq (fail_eq h1.blk h1.txt.rd.cells1 3 fr)]
      simp only [WW, partV, eqCells, eqLf, minV, maxV, ifcV, zaa, zab, zac, zad, zae, zaf, zag, zah, zai, ofConst, ofConst1, List.replicate, zaj, zak, loadOp, Go.Abs.loadCells, binV, zal, pickV, zam, zan, zao, zap, zaq, zar, zas, zat, zau, outR, resAll, resOne, zav, zaw, zax, zay, zaz, zba, zbb, zbc, zbd, zbe, zbf, zbg, zbh, zbi, zbj, zbk, storeOp, storeCell, overlay, zbl, zbm, zbn, lookupOp, keyT, okRes, mapUpdateOp, zbo, zbp, zbq, zbr, zbs, zbt, zbu, Nat.reduceSub, Nat.reduceAdd, Int.reduceLT, Int.reduceLE, Int.reduceAdd, Int.reduceSub, Int.reduceToNat, Int.reduceBEq, Int.reduceBNe, Int.reduceMul, Nat.reduceBEq, Nat.reduceBNe, Nat.reduceLT, Nat.reduceLeDiff, Nat.reduceMul, Nat.reduceEqDiff, WD, effB, effH, isPriv, isHeap, isImm, zbx, zby, zbz, chkO, setD, dslot, zca, zcb, zcc, zcd, ptrCells_some, F28]
      simp [failM, hset]
    · have hn' : (n == 65536) = false := by simpa using hn
      simp only [WW, partV, eqCells, eqLf, minV, maxV, ifcV, zaa, zab, zac, zad, zae, zaf, zag, zah, zai, ofConst, ofConst1, List.replicate, zaj, zak, loadOp, Go.Abs.loadCells, binV, zal, pickV, zam, zan, zao, zap, zaq, zar, zas, zat, zau, outR, resAll, resOne, zav, zaw, zax, zay, zaz, zba, zbb, zbc, zbd, zbe, zbf, zbg, zbh, zbi, zbj, zbk, storeOp, storeCell, overlay, zbl, zbm, zbn, lookupOp, keyT, okRes, mapUpdateOp, zbo, zbp, zbq, zbr, zbs, zbt, zbu, Nat.reduceSub, Nat.reduceAdd, Int.reduceLT, Int.reduceLE, Int.reduceAdd, Int.reduceSub, Int.reduceToNat, Int.reduceBEq, Int.reduceBNe, Int.reduceMul, Nat.reduceBEq, Nat.reduceBNe, Nat.reduceLT, Nat.reduceLeDiff, Nat.reduceMul, Nat.reduceEqDiff, WD, effB, effH, isPriv, isHeap, isImm, zbx, zby, zbz, chkO, setD, dslot, zca, zcb, zcc, zcd, ptrCells_some, F28, hb1, hn']
      simp [hn, hH1]
  · have he' : (e == 0) = false := by simpa using he
    simp only [WW, partV, eqCells, eqLf, minV, maxV, ifcV, zaa, zab, zac, zad, zae, zaf, zag, zah, zai, ofConst, ofConst1, List.replicate, zaj, zak, loadOp, Go.Abs.loadCells, binV, zal, pickV, zam, zan, zao, zap, zaq, zar, zas, zat, zau, outR, resAll, resOne, zav, zaw, zax, zay, zaz, zba, zbb, zbc, zbd, zbe, zbf, zbg, zbh, zbi, zbj, zbk, storeOp, storeCell, overlay, zbl, zbm, zbn, lookupOp, keyT, okRes, mapUpdateOp, zbo, zbp, zbq, zbr, zbs, zbt, zbu, Nat.reduceSub, Nat.reduceAdd, Int.reduceLT, Int.reduceLE, Int.reduceAdd, Int.reduceSub, Int.reduceToNat, Int.reduceBEq, Int.reduceBNe, Int.reduceMul, Nat.reduceBEq, Nat.reduceBNe, Nat.reduceLT, Nat.reduceLeDiff, Nat.reduceMul, Nat.reduceEqDiff, WD, effB, effH, isPriv, isHeap, isImm, zbx, zby, zbz, chkO, setD, dslot, zca, zcb, zcc, zcd, ptrCells_some, F28, hb1, he']
    simp [he, hH1]
end Go.Proofs.Yteenpfdpokekgaa

/- The reader of scripts: numbers. -/
namespace Go.Proofs.Yteenpfdpokekgaa
open Go Go.Abs Go.Proofs
set_option maxRecDepth 100000
set_option maxHeartbeats 4000000
set_option linter.unusedVariables false
set_option linter.unusedSimpArgs false
def stepN (n : Int) (c : UInt8) : Int := if n ≤ 288230376151711743 then 10 * n + ((c.toNat : Int) - 48) else 2305843009213693953
def isD (c : UInt8) : Bool := decide (48 ≤ c.toNat) && decide (c.toNat ≤ 57)
def digsL : List UInt8 → Nat → Int → Nat × Int
  | [], i, n => (i, n)
  | c :: l, i, n => if isD c then digsL l (i + 1) (stepN n c) else (i, n)
def X29 (r : Nat) (low high n : Int) (fr : Nat) (sg : Int) : List Slot := ((L29_13 (.v (.ptr r 0 0)) (.v (.int .i64 low)) (.v (.int .i64 high)) (.v (.int .i64 n)) (.v (.int .i64 fr)) (.v (.int .i64 sg))).set 105 (.v (.ptr r 0 0))).set 106 (.v (.bool false))
theorem digsL_le {B : List UInt8} : ∀ (l : List UInt8) (i : Nat) (n : Int), B.length = i + l.length → (digsL l i n).1 ≤ B.length
  | [], i, n, h => by simp at h; simp [digsL, h]
  | c :: l, i, n, h => by
    unfold digsL
    split
    · exact digsL_le l (i + 1) _ (by simp at h; omega)
    · simp at h; simp; omega
theorem num_loop {H : Hp} {r : Nat} {x : V} {B : List UInt8} {a0 : Nat} {low high : Int} {fr : Nat} {sg : Int} {st : St} {Q : Post} (h : RS H r x B (a0, 0)) (hB : B.length < 4294967296)
    (hst : norm (notes.kill 29 13) 0 0 st = ⟨L29_13 (.v (.ptr r 0 0)) (.v (.int .i64 low)) (.v (.int .i64 high)) (.v (.int .i64 0)) (.v (.int .i64 fr)) (.v (.int .i64 sg)), [], []⟩)
    (hb : st.b = []) (hr : st.r = [])
    (hq : ∀ H', RS H' r x B ((digsL (B.drop a0) a0 0).1, 0) → (∀ b, H'.set r b = H.set r b) → 0 ≤ (digsL (B.drop a0) a0 0).2 → (digsL (B.drop a0) a0 0).2 ≤ 2882303761517117439 → Q (.exit 0) ⟨X29 r low high (digsL (B.drop a0) a0 0).2 fr sg, [], []⟩ H') :
    wpC (envOf Try.prog notes (evW Try.prog notes) 29) (.loop (loopOf Try.f29 13)) st H Q := by
  simp only [loopOf, bodyOf, Try.f29, Option.getD_some, findLoop, firstReg, orC_some, orC_none, Nat.reduceEqDiff, decide_true, decide_false]
  refine wC_loop _ (fun k st' H' => ∃ (a : Nat) (n : Int), st' = ⟨L29_13 (.v (.ptr r 0 0)) (.v (.int .i64 low)) (.v (.int .i64 high)) (.v (.int .i64 n)) (.v (.int .i64 fr)) (.v (.int .i64 sg)), [], []⟩ ∧ RS H' r x B (a, 0) ∧ (∀ b, H'.set r b = H.set r b) ∧ digsL (B.drop a) a n = digsL (B.drop a0) a0 0 ∧ 0 ≤ n ∧ n ≤ 2882303761517117439 ∧ k = B.length - a) (B.length - a0) ⟨a0, 0, ?_, h, fun _ => rfl, rfl, by omega, by omega, rfl⟩ ?_
  · simp only [envG, envK, firstReg, grow29_13, growAll, List.foldl_nil, hb, hr, List.length_nil]
    exact hst
  · simp only [envG, envK, firstReg, grow29_13, growAll, List.foldl_nil, hb, hr, List.length_nil]
    rintro k st' H' ⟨a, n, rfl, hrs, hset, hd, hn0, hn1, rfl⟩
    have hb1 : H'[r]? = some (.cells [.agg [x, .int .i64 (a : Int), .int .i64 0]]) := hrs.blk
    have hlt := (List.getElem?_eq_some_iff.1 hb1).1
    have hx := hrs.txt.rd
    simp only [L29_13]
    simp only [WW, partV, eqCells, eqLf, minV, maxV, ifcV, zaa, zab, zac, zad, zae, zaf, zag, zah, zai, ofConst, ofConst1, List.replicate, zaj, zak, loadOp, Go.Abs.loadCells, binV, zal, pickV, zam, zan, zao, zap, zaq, zar, zas, zat, zau, outR, resAll, resOne, zav, zaw, zax, zay, zaz, zba, zbb, zbc, zbd, zbe, zbf, zbg, zbh, zbi, zbj, zbk, storeOp, storeCell, overlay, zbl, zbm, zbn, lookupOp, keyT, okRes, mapUpdateOp, zbo, zbp, zbq, zbr, zbs, zbt, zbu, Nat.reduceSub, Nat.reduceAdd, Int.reduceLT, Int.reduceLE, Int.reduceAdd, Int.reduceSub, Int.reduceToNat, Int.reduceBEq, Int.reduceBNe, Int.reduceMul, Nat.reduceBEq, Nat.reduceBNe, Nat.reduceLT, Nat.reduceLeDiff, Nat.reduceMul, Nat.reduceEqDiff, WD, effB, effH, isPriv, isHeap, isImm, zbx, zby, zbz, chkO, setD, dslot, zca, zcb, zcc, zcd, ptrCells_some, F29]
    rw [wpCall_eq (digit_eq hrs)]
    simp only [dig]
    cases hBa : B[a]? with
    | none =>
      simp only [WW, partV, eqCells, eqLf, minV, maxV, ifcV, zaa, zab, zac, zad, zae, zaf, zag, zah, zai, ofConst, ofConst1, List.replicate, zaj, zak, loadOp, Go.Abs.loadCells, binV, zal, pickV, zam, zan, zao, zap, zaq, zar, zas, zat, zau, outR, resAll, resOne, zav, zaw, zax, zay, zaz, zba, zbb, zbc, zbd, zbe, zbf, zbg, zbh, zbi, zbj, zbk, storeOp, storeCell, overlay, zbl, zbm, zbn, lookupOp, keyT, okRes, mapUpdateOp, zbo, zbp, zbq, zbr, zbs, zbt, zbu, Nat.reduceSub, Nat.reduceAdd, Int.reduceLT, Int.reduceLE, Int.reduceAdd, Int.reduceSub, Int.reduceToNat, Int.reduceBEq, Int.reduceBNe, Int.reduceMul, Nat.reduceBEq, Nat.reduceBNe, Nat.reduceLT, Nat.reduceLeDiff, Nat.reduceMul, Nat.reduceEqDiff, WD, effB, effH, isPriv, isHeap, isImm, zbx, zby, zbz, chkO, setD, dslot, zca, zcb, zcc, zcd, ptrCells_some, F29]
      have hge := List.getElem?_eq_none_iff.1 hBa
      rw [List.drop_of_length_le hge, digsL] at hd
      have := hq H' (by rw [← hd]; exact hrs) hset (by rw [← hd]; exact hn0) (by rw [← hd]; exact hn1)
      rw [← hd] at this
      exact this
    | some c =>
      have hlt2 := (List.getElem?_eq_some_iff.1 hBa).1
      rw [drop_cons hBa, digsL] at hd
      have hdc : (decide (48 ≤ c.toNat) && decide (c.toNat ≤ 57)) = isD c := rfl
      simp only [hdc]
      cases hcd : isD c with
      | false =>
        simp only [WW, partV, eqCells, eqLf, minV, maxV, ifcV, zaa, zab, zac, zad, zae, zaf, zag, zah, zai, ofConst, ofConst1, List.replicate, zaj, zak, loadOp, Go.Abs.loadCells, binV, zal, pickV, zam, zan, zao, zap, zaq, zar, zas, zat, zau, outR, resAll, resOne, zav, zaw, zax, zay, zaz, zba, zbb, zbc, zbd, zbe, zbf, zbg, zbh, zbi, zbj, zbk, storeOp, storeCell, overlay, zbl, zbm, zbn, lookupOp, keyT, okRes, mapUpdateOp, zbo, zbp, zbq, zbr, zbs, zbt, zbu, Nat.reduceSub, Nat.reduceAdd, Int.reduceLT, Int.reduceLE, Int.reduceAdd, Int.reduceSub, Int.reduceToNat, Int.reduceBEq, Int.reduceBNe, Int.reduceMul, Nat.reduceBEq, Nat.reduceBNe, Nat.reduceLT, Nat.reduceLeDiff, Nat.reduceMul, Nat.reduceEqDiff, WD, effB, effH, isPriv, isHeap, isImm, zbx, zby, zbz, chkO, setD, dslot, zca, zcb, zcc, zcd, ptrCells_some, F29]
        rw [hcd] at hd
        simp only [Bool.false_eq_true, if_false] at hd
        have := hq H' (by rw [← hd]; exact hrs) hset (by rw [← hd]; exact hn0) (by rw [← hd]; exact hn1)
        rw [← hd] at this
        exact this
      | true =>
        rw [hcd] at hd
        simp only [if_true] at hd
        have hc48 : 48 ≤ c.toNat ∧ c.toNat ≤ 57 := by simp only [isD, Bool.and_eq_true, decide_eq_true_eq] at hcd; exact hcd
        have hc8 : (by8 B)[a]? = some (byteV c) := by simp [by8, hBa]
        have hat := hx.at_ (sz := 1) hc8 rfl
        have hs : ∀ b : Blk, (H'.set r b)[r]? = some b := fun b => List.getElem?_set_self hlt
        have ha1 : IntKind.i64.wrap ((a : Int) + 1) = ((a + 1 : Nat) : Int) := by rw [IntWalk.i64_in _ (by omega)]; omega
        have w1 : IntKind.u8.wrap (((c.toNat : Nat) : Int) - 48) = (c.toNat : Int) - 48 := by simp [IntKind.wrap, IntKind.bits, IntKind.signed]; omega
        have w2 : IntKind.i64.wrap ((c.toNat : Int) - 48) = (c.toNat : Int) - 48 := IntWalk.i64_in _ (by omega)
        have hset2 : ∀ b, (H'.set r (rb x (a + 1, 0))).set r b = H.set r b := fun b => by rw [List.set_set, hset]
        by_cases hsm : n ≤ 288230376151711743
        · have g1 : decide (n ≤ 288230376151711743) = true := decide_eq_true hsm
          have w3 : IntKind.i64.wrap (10 * n) = 10 * n := IntWalk.i64_in _ (by omega)
          have w4 : IntKind.i64.wrap (10 * n + ((c.toNat : Int) - 48)) = 10 * n + ((c.toNat : Int) - 48) := IntWalk.i64_in _ (by omega)
          simp only [WW, partV, eqCells, eqLf, minV, maxV, ifcV, zaa, zab, zac, zad, zae, zaf, zag, zah, zai, ofConst, ofConst1, List.replicate, zaj, zak, loadOp, Go.Abs.loadCells, binV, zal, pickV, zam, zan, zao, zap, zaq, zar, zas, zat, zau, outR, resAll, resOne, zav, zaw, zax, zay, zaz, zba, zbb, zbc, zbd, zbe, zbf, zbg, zbh, zbi, zbj, zbk, storeOp, storeCell, overlay, zbl, zbm, zbn, lookupOp, keyT, okRes, mapUpdateOp, zbo, zbp, zbq, zbr, zbs, zbt, zbu, Nat.reduceSub, Nat.reduceAdd, Int.reduceLT, Int.reduceLE, Int.reduceAdd, Int.reduceSub, Int.reduceToNat, Int.reduceBEq, Int.reduceBNe, Int.reduceMul, Nat.reduceBEq, Nat.reduceBNe, Nat.reduceLT, Nat.reduceLeDiff, Nat.reduceMul, Nat.reduceEqDiff, WD, effB, effH, isPriv, isHeap, isImm, zbx, zby, zbz, chkO, setD, dslot, zca, zcb, zcc, zcd, ptrCells_some, F29, g1]
          refine wC_dr [] (by kernel_rfl) ?_
          simp only [WW, partV, eqCells, eqLf, minV, maxV, ifcV, zaa, zab, zac, zad, zae, zaf, zag, zah, zai, ofConst, ofConst1, List.replicate, zaj, zak, loadOp, Go.Abs.loadCells, binV, zal, pickV, zam, zan, zao, zap, zaq, zar, zas, zat, zau, outR, resAll, resOne, zav, zaw, zax, zay, zaz, zba, zbb, zbc, zbd, zbe, zbf, zbg, zbh, zbi, zbj, zbk, storeOp, storeCell, overlay, zbl, zbm, zbn, lookupOp, keyT, okRes, mapUpdateOp, zbo, zbp, zbq, zbr, zbs, zbt, zbu, Nat.reduceSub, Nat.reduceAdd, Int.reduceLT, Int.reduceLE, Int.reduceAdd, Int.reduceSub, Int.reduceToNat, Int.reduceBEq, Int.reduceBNe, Int.reduceMul, Nat.reduceBEq, Nat.reduceBNe, Nat.reduceLT, Nat.reduceLeDiff, Nat.reduceMul, Nat.reduceEqDiff, WD, effB, effH, isPriv, isHeap, isImm, zbx, zby, zbz, chkO, setD, dslot, zca, zcb, zcc, zcd, ptrCells_some, F29, hb1, hx.shutIn, hat.at1 hx, hat.cells, byteV, convertOp, w1, w2, w3, w4, ha1, storeHeap, promote, heapSet, elemSet, hs]
          refine ⟨B.length - (a + 1), by omega, a + 1, stepN n c, ?_, hrs.to (s' := (a + 1, 0)) (by simp; omega), hset2, hd, by unfold stepN; rw [if_pos hsm]; omega, by unfold stepN; rw [if_pos hsm]; omega, rfl⟩
          simp only [WN, firstReg, growAll, zbv, zbw, norm, killS, zag, zah, zaa, zab, zbl, zat, zad, growOne, zae, zaf, zac, zas, zak, Nat.reduceLT, Nat.reduceAdd, zbj, zav, F29, L29_13, stepN, hsm, if_true]
        · have g1 : decide (n ≤ 288230376151711743) = false := decide_eq_false hsm
          simp only [WW, partV, eqCells, eqLf, minV, maxV, ifcV, zaa, zab, zac, zad, zae, zaf, zag, zah, zai, ofConst, ofConst1, List.replicate, zaj, zak, loadOp, Go.Abs.loadCells, binV, zal, pickV, zam, zan, zao, zap, zaq, zar, zas, zat, zau, outR, resAll, resOne, zav, zaw, zax, zay, zaz, zba, zbb, zbc, zbd, zbe, zbf, zbg, zbh, zbi, zbj, zbk, storeOp, storeCell, overlay, zbl, zbm, zbn, lookupOp, keyT, okRes, mapUpdateOp, zbo, zbp, zbq, zbr, zbs, zbt, zbu, Nat.reduceSub, Nat.reduceAdd, Int.reduceLT, Int.reduceLE, Int.reduceAdd, Int.reduceSub, Int.reduceToNat, Int.reduceBEq, Int.reduceBNe, Int.reduceMul, Nat.reduceBEq, Nat.reduceBNe, Nat.reduceLT, Nat.reduceLeDiff, Nat.reduceMul, Nat.reduceEqDiff, WD, effB, effH, isPriv, isHeap, isImm, zbx, zby, zbz, chkO, setD, dslot, zca, zcb, zcc, zcd, ptrCells_some, F29, g1, hb1, ha1, storeHeap, promote, heapSet, elemSet, hs]
          refine ⟨B.length - (a + 1), by omega, a + 1, stepN n c, ?_, hrs.to (s' := (a + 1, 0)) (by simp; omega), hset2, hd, by unfold stepN; rw [if_neg hsm]; omega, by unfold stepN; rw [if_neg hsm]; omega, rfl⟩
          simp only [WN, firstReg, growAll, zbv, zbw, norm, killS, zag, zah, zaa, zab, zbl, zat, zad, growOne, zae, zaf, zac, zas, zak, Nat.reduceLT, Nat.reduceAdd, zbj, zav, F29, L29_13, stepN, hsm, if_false]
end Go.Proofs.Yteenpfdpokekgaa

/- The reader of scripts: a number from low to high. -/
namespace Go.Proofs.Yteenpfdpokekgaa
open Go Go.Abs Go.Proofs
set_option maxRecDepth 100000
set_option maxHeartbeats 8000000
set_option linter.unusedVariables false
set_option linter.unusedSimpArgs false
def endM (low high : Int) (fr : Nat) (sg : Int) (q : Nat × Int) : Int × (Nat × Int) :=
  if 2305843009213693952 < q.2 ∨ ¬ (low ≤ sg * q.2 ∧ sg * q.2 ≤ high) then (0, (fr, 9)) else (sg * q.2, (q.1, 0))
def digsM (B : List UInt8) (low high : Int) (fr : Nat) (sg : Int) (a1 : Nat) : Int × (Nat × Int) :=
  if B[a1]? = some 48 then
    (if dig B (a1 + 1) then (0, (a1 + 1, 6)) else endM low high fr sg (digsL (B.drop (a1 + 1)) (a1 + 1) 0))
  else endM low high fr sg (digsL (B.drop a1) a1 0)
def signM (B : List UInt8) (low high : Int) (fr : Nat) (neg : Bool) (a1 : Nat) : Int × (Nat × Int) :=
  if dig B a1 = false then (0, (a1, 6)) else if neg = true ∧ B[a1]? = some 48 then (0, (a1, 6)) else digsM B low high fr (if neg then -1 else 1) a1
def numM (B : List UInt8) (low high : Int) (s : Nat × Int) : Int × (Nat × Int) :=
  if s.2 ≠ 0 then (0, s) else
  if low < 0 ∧ B[s.1]? = some 45 then signM B low high s.1 true (s.1 + 1) else signM B low high s.1 false s.1
theorem numM_bad {B : List UInt8} {low high : Int} {s : Nat × Int} (h : s.2 ≠ 0) : numM B low high s = (0, s) := by unfold numM; rw [if_pos h]
theorem some_lt {B : List UInt8} {a : Nat} {c : UInt8} (h : B[a]? = some c) : a + 1 ≤ B.length := (List.getElem?_eq_some_iff.1 h).1
theorem digsL_le' {B : List UInt8} {a : Nat} (h : a ≤ B.length) : (digsL (B.drop a) a 0).1 ≤ B.length := digsL_le _ _ _ (by simp; omega)
theorem endM_le {B : List UInt8} {low high : Int} {fr : Nat} {sg : Int} {q : Nat × Int} (h : q.1 ≤ B.length) (hf : fr ≤ B.length) : (endM low high fr sg q).2.1 ≤ B.length := by
  unfold endM; split
  · exact hf
  · exact h
theorem digsM_le {B : List UInt8} {low high : Int} {fr : Nat} {sg : Int} {a : Nat} (h : a ≤ B.length) (hf : fr ≤ B.length) : (digsM B low high fr sg a).2.1 ≤ B.length := by
  unfold digsM; split
  · rename_i hc
    split
    · exact some_lt hc
    · exact endM_le (digsL_le' (some_lt hc)) hf
  · exact endM_le (digsL_le' h) hf
theorem signM_le {B : List UInt8} {low high : Int} {fr : Nat} {neg : Bool} {a : Nat} (h : a ≤ B.length) (hf : fr ≤ B.length) : (signM B low high fr neg a).2.1 ≤ B.length := by
  unfold signM; split
  · exact h
  · split
    · exact h
    · exact digsM_le h hf
theorem numM_le {B : List UInt8} {low high : Int} {s : Nat × Int} (h : s.1 ≤ B.length) : (numM B low high s).2.1 ≤ B.length := by
  unfold numM; split
  · exact h
  · split
    · rename_i h2; exact signM_le (some_lt h2.2) h
    · exact signM_le h h
theorem some_dig {B : List UInt8} {a : Nat} (h : dig B a = true) : ∃ c, B[a]? = some c := by
  unfold dig at h
  cases hB : B[a]? with
  | none => rw [hB] at h; cases h
  | some c => exact ⟨c, rfl⟩
theorem u8eq (b : UInt8) (n : Nat) (hn : n < 256) : (((b.toNat : Nat) : Int) == (n : Int)) = (b == UInt8.ofNat n) := by
  rw [Bool.eq_iff_iff]
  simp
  constructor
  · intro h
    have h' : b.toNat = n := by omega
    rw [← h']; simp
  · rintro rfl
    simp; omega
theorem u8eq48 (b : UInt8) : (((b.toNat : Nat) : Int) == 48) = (b == 48) := u8eq b 48 (by omega)
theorem u8eq45 (b : UInt8) : (((b.toNat : Nat) : Int) == 45) = (b == 45) := u8eq b 45 (by omega)
theorem bSplit {b : Bool} {G : Prop} (h1 : b = false → G) (h2 : b = true → G) : G := by cases b; exact h1 rfl; exact h2 rfl
theorem some_of {B : List UInt8} {a : Nat} (h : ¬ B[a]? = none) : B[a]? = some (B.getD a 0) := by
  cases hB : B[a]? with
  | none => exact absurd hB h
  | some c => rw [List.getD_eq_getElem?_getD, hB]; rfl
theorem some_dig2 {B : List UInt8} {a : Nat} (h : dig B a = true) : B[a]? = some (B.getD a 0) := some_of (by
  intro hn
  unfold dig at h
  rw [hn] at h; cases h)
theorem pSplit {p G : Prop} (h1 : p → G) (h2 : ¬ p → G) : G := (Classical.em p).elim h1 h2
theorem num_loop2 {H : Hp} {r : Nat} {x : V} {B : List UInt8} {a0 : Nat} {low high : Int} {fr : Nat} {sg : Int} {st : St} {Q : Post} (h : RS H r x B (a0, 0)) (hB : B.length < 4294967296)
    (hst : norm (notes.kill 29 13) 0 0 st = ⟨L29_13 (.v (.ptr r 0 0)) (.v (.int .i64 low)) (.v (.int .i64 high)) (.v (.int .i64 0)) (.v (.int .i64 fr)) (.v (.int .i64 sg)), [], []⟩)
    (hb : st.b = []) (hr : st.r = [])
    (hq : ∀ H' a3 n, digsL (B.drop a0) a0 0 = (a3, n) → RS H' r x B (a3, 0) → (∀ b, H'.set r b = H.set r b) → 0 ≤ n → n ≤ 2882303761517117439 → Q (.exit 0) ⟨X29 r low high n fr sg, [], []⟩ H') :
    wpC (envOf Try.prog notes (evW Try.prog notes) 29) (.loop (loopOf Try.f29 13)) st H Q :=
  num_loop h hB hst hb hr (fun H' h1 h2 h3 h4 => hq H' _ _ rfl h1 h2 h3 h4)
def qa (B : List UInt8) (a : Nat) : Nat := (digsL (B.drop a) a 0).1
def qn (B : List UInt8) (a : Nat) : Int := (digsL (B.drop a) a 0).2
theorem digsL_bnd : ∀ (l : List UInt8) (i : Nat) (n : Int), 0 ≤ n → n ≤ 2882303761517117439 → 0 ≤ (digsL l i n).2 ∧ (digsL l i n).2 ≤ 2882303761517117439
  | [], i, n, h1, h2 => ⟨h1, h2⟩
  | c :: l, i, n, h1, h2 => by
    unfold digsL
    split
    · rename_i hc
      have hc48 : 48 ≤ c.toNat ∧ c.toNat ≤ 57 := by simp only [isD, Bool.and_eq_true, decide_eq_true_eq] at hc; exact hc
      apply digsL_bnd
      · unfold stepN; split <;> omega
      · unfold stepN; split <;> omega
    · exact ⟨h1, h2⟩
theorem qn_bnd (B : List UInt8) (a : Nat) : 0 ≤ qn B a ∧ qn B a ≤ 2882303761517117439 := digsL_bnd _ _ _ (by omega) (by omega)
theorem qa_le {B : List UInt8} {a : Nat} (h : a ≤ B.length) : qa B a ≤ B.length := digsL_le' h
theorem num_loop3 {H : Hp} {r : Nat} {x : V} {B : List UInt8} {a0 : Nat} {low high : Int} {fr : Nat} {sg : Int} {st : St} {Q : Post} (h : RS H r x B (a0, 0)) (hB : B.length < 4294967296)
    (hst : norm (notes.kill 29 13) 0 0 st = ⟨L29_13 (.v (.ptr r 0 0)) (.v (.int .i64 low)) (.v (.int .i64 high)) (.v (.int .i64 0)) (.v (.int .i64 fr)) (.v (.int .i64 sg)), [], []⟩)
    (hb : st.b = []) (hr : st.r = [])
    (hq : Q (.exit 0) ⟨X29 r low high (qn B a0) fr sg, [], []⟩ (H.set r (rb x (qa B a0, 0)))) :
    wpC (envOf Try.prog notes (evW Try.prog notes) 29) (.loop (loopOf Try.f29 13)) st H Q :=
  num_loop h hB hst hb hr (fun H' h1 h2 h3 h4 => by
    have e : H' = H.set r (rb x (qa B a0, 0)) := by rw [← h2]; exact h1.same.symm
    rw [e]; exact hq)
theorem num_P1 {H : Hp} {r : Nat} {x : V} {B : List UInt8} {a : Nat} (h : RS H r x B (a, 0)) (low high : Int) (hB : B.length < 4294967296) (hl : -2305843009213693952 ≤ low) (hh : high ≤ 2305843009213693952) (hlow : ¬ low < 0) :
    EW 29 [.ptr r 0 0, .int .i64 low, .int .i64 high] H = some (.ret (.int .i64 (signM B low high a false (a)).1) false, H.set r (rb x (signM B low high a false (a)).2)) := by
  have hb1 : H[r]? = some (.cells [.agg [x, .int .i64 (a : Int), .int .i64 0]]) := h.blk
  have hlt := (List.getElem?_eq_some_iff.1 hb1).1
  have hx := h.txt.rd
  have gl : decide (low < 0) = false := decide_eq_false hlow
  refine eqOf2 (runs f29 b29 r29 n29 _ _ ?_)
  simp only [bodyOf, Try.f29, Option.getD_some]
  simp only [WW, partV, eqCells, eqLf, minV, maxV, ifcV, zaa, zab, zac, zad, zae, zaf, zag, zah, zai, ofConst, ofConst1, List.replicate, zaj, zak, loadOp, Go.Abs.loadCells, binV, zal, pickV, zam, zan, zao, zap, zaq, zar, zas, zat, zau, outR, resAll, resOne, zav, zaw, zax, zay, zaz, zba, zbb, zbc, zbd, zbe, zbf, zbg, zbh, zbi, zbj, zbk, storeOp, storeCell, overlay, zbl, zbm, zbn, lookupOp, keyT, okRes, mapUpdateOp, zbo, zbp, zbq, zbr, zbs, zbt, zbu, Nat.reduceSub, Nat.reduceAdd, Int.reduceLT, Int.reduceLE, Int.reduceAdd, Int.reduceSub, Int.reduceToNat, Int.reduceBEq, Int.reduceBNe, Int.reduceMul, Nat.reduceBEq, Nat.reduceBNe, Nat.reduceLT, Nat.reduceLeDiff, Nat.reduceMul, Nat.reduceEqDiff, WD, effB, effH, isPriv, isHeap, isImm, zbx, zby, zbz, chkO, setD, dslot, zca, zcb, zcc, zcd, ptrCells_some, F29, hb1, findLabel]
  refine wC_dr [] (by kernel_rfl) ?_
  simp only [WW, partV, eqCells, eqLf, minV, maxV, ifcV, zaa, zab, zac, zad, zae, zaf, zag, zah, zai, ofConst, ofConst1, List.replicate, zaj, zak, loadOp, Go.Abs.loadCells, binV, zal, pickV, zam, zan, zao, zap, zaq, zar, zas, zat, zau, outR, resAll, resOne, zav, zaw, zax, zay, zaz, zba, zbb, zbc, zbd, zbe, zbf, zbg, zbh, zbi, zbj, zbk, storeOp, storeCell, overlay, zbl, zbm, zbn, lookupOp, keyT, okRes, mapUpdateOp, zbo, zbp, zbq, zbr, zbs, zbt, zbu, Nat.reduceSub, Nat.reduceAdd, Int.reduceLT, Int.reduceLE, Int.reduceAdd, Int.reduceSub, Int.reduceToNat, Int.reduceBEq, Int.reduceBNe, Int.reduceMul, Nat.reduceBEq, Nat.reduceBNe, Nat.reduceLT, Nat.reduceLeDiff, Nat.reduceMul, Nat.reduceEqDiff, WD, effB, effH, isPriv, isHeap, isImm, zbx, zby, zbz, chkO, setD, dslot, zca, zcb, zcc, zcd, ptrCells_some, F29, hb1, gl, findLabel]
  have hx1 := h.txt.rd
  have hb2 : (H)[r]? = some (.cells [.agg [x, .int .i64 ((a : Nat) : Int), .int .i64 0]]) := h.blk
  have hlt1 := (List.getElem?_eq_some_iff.1 hb2).1
  refine wC_dr [] (by kernel_rfl) ?_
  simp only [WW, partV, eqCells, eqLf, minV, maxV, ifcV, zaa, zab, zac, zad, zae, zaf, zag, zah, zai, ofConst, ofConst1, List.replicate, zaj, zak, loadOp, Go.Abs.loadCells, binV, zal, pickV, zam, zan, zao, zap, zaq, zar, zas, zat, zau, outR, resAll, resOne, zav, zaw, zax, zay, zaz, zba, zbb, zbc, zbd, zbe, zbf, zbg, zbh, zbi, zbj, zbk, storeOp, storeCell, overlay, zbl, zbm, zbn, lookupOp, keyT, okRes, mapUpdateOp, zbo, zbp, zbq, zbr, zbs, zbt, zbu, Nat.reduceSub, Nat.reduceAdd, Int.reduceLT, Int.reduceLE, Int.reduceAdd, Int.reduceSub, Int.reduceToNat, Int.reduceBEq, Int.reduceBNe, Int.reduceMul, Nat.reduceBEq, Nat.reduceBNe, Nat.reduceLT, Nat.reduceLeDiff, Nat.reduceMul, Nat.reduceEqDiff, WD, effB, effH, isPriv, isHeap, isImm, zbx, zby, zbz, chkO, setD, dslot, zca, zcb, zcc, zcd, ptrCells_some, F29, findLabel]
  rw [wpCall_eq (show EW 33 [.ptr r 0 0] (H) = some (.ret (.bool (dig B (a))) false, H) from digit_eq h)]
  refine bSplit (b := dig B (a)) (fun hd => ?_) (fun hd => ?_)
  · have e : signM B low high a false (a) = (0, (a, 6)) := by unfold signM; rw [if_pos hd]
    rw [e, hd]
    simp only [WW, partV, eqCells, eqLf, minV, maxV, ifcV, zaa, zab, zac, zad, zae, zaf, zag, zah, zai, ofConst, ofConst1, List.replicate, zaj, zak, loadOp, Go.Abs.loadCells, binV, zal, pickV, zam, zan, zao, zap, zaq, zar, zas, zat, zau, outR, resAll, resOne, zav, zaw, zax, zay, zaz, zba, zbb, zbc, zbd, zbe, zbf, zbg, zbh, zbi, zbj, zbk, storeOp, storeCell, overlay, zbl, zbm, zbn, lookupOp, keyT, okRes, mapUpdateOp, zbo, zbp, zbq, zbr, zbs, zbt, zbu, Nat.reduceSub, Nat.reduceAdd, Int.reduceLT, Int.reduceLE, Int.reduceAdd, Int.reduceSub, Int.reduceToNat, Int.reduceBEq, Int.reduceBNe, Int.reduceMul, Nat.reduceBEq, Nat.reduceBNe, Nat.reduceLT, Nat.reduceLeDiff, Nat.reduceMul, Nat.reduceEqDiff, WD, effB, effH, isPriv, isHeap, isImm, zbx, zby, zbz, chkO, setD, dslot, zca, zcb, zcc, zcd, ptrCells_some, F29, hb2, findLabel]
    rw [wpCall_eq (fail_eq h.blk h.txt.rd.cells1 6 (a))]
    simp only [WW, partV, eqCells, eqLf, minV, maxV, ifcV, zaa, zab, zac, zad, zae, zaf, zag, zah, zai, ofConst, ofConst1, List.replicate, zaj, zak, loadOp, Go.Abs.loadCells, binV, zal, pickV, zam, zan, zao, zap, zaq, zar, zas, zat, zau, outR, resAll, resOne, zav, zaw, zax, zay, zaz, zba, zbb, zbc, zbd, zbe, zbf, zbg, zbh, zbi, zbj, zbk, storeOp, storeCell, overlay, zbl, zbm, zbn, lookupOp, keyT, okRes, mapUpdateOp, zbo, zbp, zbq, zbr, zbs, zbt, zbu, Nat.reduceSub, Nat.reduceAdd, Int.reduceLT, Int.reduceLE, Int.reduceAdd, Int.reduceSub, Int.reduceToNat, Int.reduceBEq, Int.reduceBNe, Int.reduceMul, Nat.reduceBEq, Nat.reduceBNe, Nat.reduceLT, Nat.reduceLeDiff, Nat.reduceMul, Nat.reduceEqDiff, WD, effB, effH, isPriv, isHeap, isImm, zbx, zby, zbz, chkO, setD, dslot, zca, zcb, zcc, zcd, ptrCells_some, F29, findLabel]
    try simp [failM, List.set_set]
  have hc := some_dig2 hd
  have hc8 : (by8 B)[a]? = some (byteV (B.getD (a) 0)) := by unfold by8; rw [List.getElem?_map, hc]; rfl
  have hat := hx1.at_ (sz := 1) hc8 rfl
  have e48 : ((((B.getD (a) 0).toNat : Nat) : Int) == 48) = ((B.getD (a) 0) == 48) := u8eq48 _
  refine bSplit (b := ((B.getD (a) 0) == 48)) (fun h48 => ?_) (fun h48 => ?_)
  · have hc0 : ¬ B[a]? = some 48 := by rw [hc]; intro q; have q := Option.some.inj q; rw [q] at h48; simp at h48
    have eS : signM B low high a false (a) = endM low high a 1 (qa B (a), qn B (a)) := by unfold signM; rw [if_neg (by rw [hd]; simp), if_neg (fun q => hc0 q.2)]; unfold digsM; rw [if_neg hc0]; rfl
    rw [eS]
    have bn := qn_bnd B (a)
    have h5 := h.to (s' := (qa B (a), 0)) (qa_le h.le)
    have hw : IntKind.i64.wrap (1 * (qn B (a))) = 1 * (qn B (a)) := IntWalk.i64_in _ (by omega)
    refine bSplit (b := decide ((2305843009213693952 : Int) < (qn B (a)))) (fun g1 => ?_) (fun g1 => ?_)
    rotate_left
    · have e9 : endM low high a 1 (qa B (a), qn B (a)) = (0, (a, 9)) := by unfold endM; rw [if_pos (.inl (of_decide_eq_true g1))]
      rw [e9]
      rw [hd]
      simp only [WW, partV, eqCells, eqLf, minV, maxV, ifcV, zaa, zab, zac, zad, zae, zaf, zag, zah, zai, ofConst, ofConst1, List.replicate, zaj, zak, loadOp, Go.Abs.loadCells, binV, zal, pickV, zam, zan, zao, zap, zaq, zar, zas, zat, zau, outR, resAll, resOne, zav, zaw, zax, zay, zaz, zba, zbb, zbc, zbd, zbe, zbf, zbg, zbh, zbi, zbj, zbk, storeOp, storeCell, overlay, zbl, zbm, zbn, lookupOp, keyT, okRes, mapUpdateOp, zbo, zbp, zbq, zbr, zbs, zbt, zbu, Nat.reduceSub, Nat.reduceAdd, Int.reduceLT, Int.reduceLE, Int.reduceAdd, Int.reduceSub, Int.reduceToNat, Int.reduceBEq, Int.reduceBNe, Int.reduceMul, Nat.reduceBEq, Nat.reduceBNe, Nat.reduceLT, Nat.reduceLeDiff, Nat.reduceMul, Nat.reduceEqDiff, WD, effB, effH, isPriv, isHeap, isImm, zbx, zby, zbz, chkO, setD, dslot, zca, zcb, zcc, zcd, ptrCells_some, F29, hb2, hx1.shutIn, hat.at1 hx1, hat.cells, byteV, e48, h48, findLabel]
      refine wC_dr [] (by kernel_rfl) ?_
      simp only [WW, partV, eqCells, eqLf, minV, maxV, ifcV, zaa, zab, zac, zad, zae, zaf, zag, zah, zai, ofConst, ofConst1, List.replicate, zaj, zak, loadOp, Go.Abs.loadCells, binV, zal, pickV, zam, zan, zao, zap, zaq, zar, zas, zat, zau, outR, resAll, resOne, zav, zaw, zax, zay, zaz, zba, zbb, zbc, zbd, zbe, zbf, zbg, zbh, zbi, zbj, zbk, storeOp, storeCell, overlay, zbl, zbm, zbn, lookupOp, keyT, okRes, mapUpdateOp, zbo, zbp, zbq, zbr, zbs, zbt, zbu, Nat.reduceSub, Nat.reduceAdd, Int.reduceLT, Int.reduceLE, Int.reduceAdd, Int.reduceSub, Int.reduceToNat, Int.reduceBEq, Int.reduceBNe, Int.reduceMul, Nat.reduceBEq, Nat.reduceBNe, Nat.reduceLT, Nat.reduceLeDiff, Nat.reduceMul, Nat.reduceEqDiff, WD, effB, effH, isPriv, isHeap, isImm, zbx, zby, zbz, chkO, setD, dslot, zca, zcb, zcc, zcd, ptrCells_some, F29, hb2, hx1.shutIn, hat.at1 hx1, hat.cells, byteV, e48, h48, findLabel]
      refine num_loop3 (r := r) (x := x) (B := B) (a0 := a) (low := low) (high := high) (fr := a) (sg := 1) h hB ?_ rfl rfl ?_
      · simp only [WN, firstReg, growAll, zbv, zbw, norm, killS, zag, zah, zaa, zab, zbl, zat, zad, growOne, zae, zaf, zac, zas, zak, Nat.reduceLT, Nat.reduceAdd, zbj, zav, F29, L29_13]
        try rfl
      simp only [X29, L29_13]
      simp only [WW, partV, eqCells, eqLf, minV, maxV, ifcV, zaa, zab, zac, zad, zae, zaf, zag, zah, zai, ofConst, ofConst1, List.replicate, zaj, zak, loadOp, Go.Abs.loadCells, binV, zal, pickV, zam, zan, zao, zap, zaq, zar, zas, zat, zau, outR, resAll, resOne, zav, zaw, zax, zay, zaz, zba, zbb, zbc, zbd, zbe, zbf, zbg, zbh, zbi, zbj, zbk, storeOp, storeCell, overlay, zbl, zbm, zbn, lookupOp, keyT, okRes, mapUpdateOp, zbo, zbp, zbq, zbr, zbs, zbt, zbu, Nat.reduceSub, Nat.reduceAdd, Int.reduceLT, Int.reduceLE, Int.reduceAdd, Int.reduceSub, Int.reduceToNat, Int.reduceBEq, Int.reduceBNe, Int.reduceMul, Nat.reduceBEq, Nat.reduceBNe, Nat.reduceLT, Nat.reduceLeDiff, Nat.reduceMul, Nat.reduceEqDiff, WD, effB, effH, isPriv, isHeap, isImm, zbx, zby, zbz, chkO, setD, dslot, zca, zcb, zcc, zcd, ptrCells_some, F29, g1, findLabel]
      rw [wpCall_eq (fail_eq h5.blk h5.txt.rd.cells1 9 a)]
      simp only [WW, partV, eqCells, eqLf, minV, maxV, ifcV, zaa, zab, zac, zad, zae, zaf, zag, zah, zai, ofConst, ofConst1, List.replicate, zaj, zak, loadOp, Go.Abs.loadCells, binV, zal, pickV, zam, zan, zao, zap, zaq, zar, zas, zat, zau, outR, resAll, resOne, zav, zaw, zax, zay, zaz, zba, zbb, zbc, zbd, zbe, zbf, zbg, zbh, zbi, zbj, zbk, storeOp, storeCell, overlay, zbl, zbm, zbn, lookupOp, keyT, okRes, mapUpdateOp, zbo, zbp, zbq, zbr, zbs, zbt, zbu, Nat.reduceSub, Nat.reduceAdd, Int.reduceLT, Int.reduceLE, Int.reduceAdd, Int.reduceSub, Int.reduceToNat, Int.reduceBEq, Int.reduceBNe, Int.reduceMul, Nat.reduceBEq, Nat.reduceBNe, Nat.reduceLT, Nat.reduceLeDiff, Nat.reduceMul, Nat.reduceEqDiff, WD, effB, effH, isPriv, isHeap, isImm, zbx, zby, zbz, chkO, setD, dslot, zca, zcb, zcc, zcd, ptrCells_some, F29, findLabel]
      try simp [failM, List.set_set]
    · refine bSplit (b := decide (low ≤ 1 * (qn B (a))) && decide (1 * (qn B (a)) ≤ high)) (fun g2 => ?_) (fun g2 => ?_)
      · have e9 : endM low high a 1 (qa B (a), qn B (a)) = (0, (a, 9)) := by unfold endM; rw [if_pos (.inr (fun q => by rw [decide_eq_true q.1, decide_eq_true q.2] at g2; cases g2))]
        have eb := between_eq (1 * (qn B (a))) low high ((H).set r (rb x (qa B (a), 0)))
        rw [g2] at eb
        rw [e9]
        rw [hd]
        simp only [WW, partV, eqCells, eqLf, minV, maxV, ifcV, zaa, zab, zac, zad, zae, zaf, zag, zah, zai, ofConst, ofConst1, List.replicate, zaj, zak, loadOp, Go.Abs.loadCells, binV, zal, pickV, zam, zan, zao, zap, zaq, zar, zas, zat, zau, outR, resAll, resOne, zav, zaw, zax, zay, zaz, zba, zbb, zbc, zbd, zbe, zbf, zbg, zbh, zbi, zbj, zbk, storeOp, storeCell, overlay, zbl, zbm, zbn, lookupOp, keyT, okRes, mapUpdateOp, zbo, zbp, zbq, zbr, zbs, zbt, zbu, Nat.reduceSub, Nat.reduceAdd, Int.reduceLT, Int.reduceLE, Int.reduceAdd, Int.reduceSub, Int.reduceToNat, Int.reduceBEq, Int.reduceBNe, Int.reduceMul, Nat.reduceBEq, Nat.reduceBNe, Nat.reduceLT, Nat.reduceLeDiff, Nat.reduceMul, Nat.reduceEqDiff, WD, effB, effH, isPriv, isHeap, isImm, zbx, zby, zbz, chkO, setD, dslot, zca, zcb, zcc, zcd, ptrCells_some, F29, hb2, hx1.shutIn, hat.at1 hx1, hat.cells, byteV, e48, h48, findLabel]
        refine wC_dr [] (by kernel_rfl) ?_
        simp only [WW, partV, eqCells, eqLf, minV, maxV, ifcV, zaa, zab, zac, zad, zae, zaf, zag, zah, zai, ofConst, ofConst1, List.replicate, zaj, zak, loadOp, Go.Abs.loadCells, binV, zal, pickV, zam, zan, zao, zap, zaq, zar, zas, zat, zau, outR, resAll, resOne, zav, zaw, zax, zay, zaz, zba, zbb, zbc, zbd, zbe, zbf, zbg, zbh, zbi, zbj, zbk, storeOp, storeCell, overlay, zbl, zbm, zbn, lookupOp, keyT, okRes, mapUpdateOp, zbo, zbp, zbq, zbr, zbs, zbt, zbu, Nat.reduceSub, Nat.reduceAdd, Int.reduceLT, Int.reduceLE, Int.reduceAdd, Int.reduceSub, Int.reduceToNat, Int.reduceBEq, Int.reduceBNe, Int.reduceMul, Nat.reduceBEq, Nat.reduceBNe, Nat.reduceLT, Nat.reduceLeDiff, Nat.reduceMul, Nat.reduceEqDiff, WD, effB, effH, isPriv, isHeap, isImm, zbx, zby, zbz, chkO, setD, dslot, zca, zcb, zcc, zcd, ptrCells_some, F29, hb2, hx1.shutIn, hat.at1 hx1, hat.cells, byteV, e48, h48, findLabel]
        refine num_loop3 (r := r) (x := x) (B := B) (a0 := a) (low := low) (high := high) (fr := a) (sg := 1) h hB ?_ rfl rfl ?_
        · simp only [WN, firstReg, growAll, zbv, zbw, norm, killS, zag, zah, zaa, zab, zbl, zat, zad, growOne, zae, zaf, zac, zas, zak, Nat.reduceLT, Nat.reduceAdd, zbj, zav, F29, L29_13]
          try rfl
        simp only [X29, L29_13]
        simp only [WW, partV, eqCells, eqLf, minV, maxV, ifcV, zaa, zab, zac, zad, zae, zaf, zag, zah, zai, ofConst, ofConst1, List.replicate, zaj, zak, loadOp, Go.Abs.loadCells, binV, zal, pickV, zam, zan, zao, zap, zaq, zar, zas, zat, zau, outR, resAll, resOne, zav, zaw, zax, zay, zaz, zba, zbb, zbc, zbd, zbe, zbf, zbg, zbh, zbi, zbj, zbk, storeOp, storeCell, overlay, zbl, zbm, zbn, lookupOp, keyT, okRes, mapUpdateOp, zbo, zbp, zbq, zbr, zbs, zbt, zbu, Nat.reduceSub, Nat.reduceAdd, Int.reduceLT, Int.reduceLE, Int.reduceAdd, Int.reduceSub, Int.reduceToNat, Int.reduceBEq, Int.reduceBNe, Int.reduceMul, Nat.reduceBEq, Nat.reduceBNe, Nat.reduceLT, Nat.reduceLeDiff, Nat.reduceMul, Nat.reduceEqDiff, WD, effB, effH, isPriv, isHeap, isImm, zbx, zby, zbz, chkO, setD, dslot, zca, zcb, zcc, zcd, ptrCells_some, F29, g1, hw, findLabel]
        rw [wpCall_eq eb]
        simp only [WW, partV, eqCells, eqLf, minV, maxV, ifcV, zaa, zab, zac, zad, zae, zaf, zag, zah, zai, ofConst, ofConst1, List.replicate, zaj, zak, loadOp, Go.Abs.loadCells, binV, zal, pickV, zam, zan, zao, zap, zaq, zar, zas, zat, zau, outR, resAll, resOne, zav, zaw, zax, zay, zaz, zba, zbb, zbc, zbd, zbe, zbf, zbg, zbh, zbi, zbj, zbk, storeOp, storeCell, overlay, zbl, zbm, zbn, lookupOp, keyT, okRes, mapUpdateOp, zbo, zbp, zbq, zbr, zbs, zbt, zbu, Nat.reduceSub, Nat.reduceAdd, Int.reduceLT, Int.reduceLE, Int.reduceAdd, Int.reduceSub, Int.reduceToNat, Int.reduceBEq, Int.reduceBNe, Int.reduceMul, Nat.reduceBEq, Nat.reduceBNe, Nat.reduceLT, Nat.reduceLeDiff, Nat.reduceMul, Nat.reduceEqDiff, WD, effB, effH, isPriv, isHeap, isImm, zbx, zby, zbz, chkO, setD, dslot, zca, zcb, zcc, zcd, ptrCells_some, F29, findLabel]
        rw [wpCall_eq (fail_eq h5.blk h5.txt.rd.cells1 9 a)]
        simp only [WW, partV, eqCells, eqLf, minV, maxV, ifcV, zaa, zab, zac, zad, zae, zaf, zag, zah, zai, ofConst, ofConst1, List.replicate, zaj, zak, loadOp, Go.Abs.loadCells, binV, zal, pickV, zam, zan, zao, zap, zaq, zar, zas, zat, zau, outR, resAll, resOne, zav, zaw, zax, zay, zaz, zba, zbb, zbc, zbd, zbe, zbf, zbg, zbh, zbi, zbj, zbk, storeOp, storeCell, overlay, zbl, zbm, zbn, lookupOp, keyT, okRes, mapUpdateOp, zbo, zbp, zbq, zbr, zbs, zbt, zbu, Nat.reduceSub, Nat.reduceAdd, Int.reduceLT, Int.reduceLE, Int.reduceAdd, Int.reduceSub, Int.reduceToNat, Int.reduceBEq, Int.reduceBNe, Int.reduceMul, Nat.reduceBEq, Nat.reduceBNe, Nat.reduceLT, Nat.reduceLeDiff, Nat.reduceMul, Nat.reduceEqDiff, WD, effB, effH, isPriv, isHeap, isImm, zbx, zby, zbz, chkO, setD, dslot, zca, zcb, zcc, zcd, ptrCells_some, F29, findLabel]
        try simp [failM, List.set_set]
      · have e9 : endM low high a 1 (qa B (a), qn B (a)) = (1 * (qn B (a)), (qa B (a), 0)) := by unfold endM; rw [if_neg]; rintro (q | q); exact (of_decide_eq_false g1) q; simp only [Bool.and_eq_true, decide_eq_true_eq] at g2; exact q g2
        have eb := between_eq (1 * (qn B (a))) low high ((H).set r (rb x (qa B (a), 0)))
        rw [g2] at eb
        rw [e9]
        rw [hd]
        simp only [WW, partV, eqCells, eqLf, minV, maxV, ifcV, zaa, zab, zac, zad, zae, zaf, zag, zah, zai, ofConst, ofConst1, List.replicate, zaj, zak, loadOp, Go.Abs.loadCells, binV, zal, pickV, zam, zan, zao, zap, zaq, zar, zas, zat, zau, outR, resAll, resOne, zav, zaw, zax, zay, zaz, zba, zbb, zbc, zbd, zbe, zbf, zbg, zbh, zbi, zbj, zbk, storeOp, storeCell, overlay, zbl, zbm, zbn, lookupOp, keyT, okRes, mapUpdateOp, zbo, zbp, zbq, zbr, zbs, zbt, zbu, Nat.reduceSub, Nat.reduceAdd, Int.reduceLT, Int.reduceLE, Int.reduceAdd, Int.reduceSub, Int.reduceToNat, Int.reduceBEq, Int.reduceBNe, Int.reduceMul, Nat.reduceBEq, Nat.reduceBNe, Nat.reduceLT, Nat.reduceLeDiff, Nat.reduceMul, Nat.reduceEqDiff, WD, effB, effH, isPriv, isHeap, isImm, zbx, zby, zbz, chkO, setD, dslot, zca, zcb, zcc, zcd, ptrCells_some, F29, hb2, hx1.shutIn, hat.at1 hx1, hat.cells, byteV, e48, h48, findLabel]
        refine wC_dr [] (by kernel_rfl) ?_
        simp only [WW, partV, eqCells, eqLf, minV, maxV, ifcV, zaa, zab, zac, zad, zae, zaf, zag, zah, zai, ofConst, ofConst1, List.replicate, zaj, zak, loadOp, Go.Abs.loadCells, binV, zal, pickV, zam, zan, zao, zap, zaq, zar, zas, zat, zau, outR, resAll, resOne, zav, zaw, zax, zay, zaz, zba, zbb, zbc, zbd, zbe, zbf, zbg, zbh, zbi, zbj, zbk, storeOp, storeCell, overlay, zbl, zbm, zbn, lookupOp, keyT, okRes, mapUpdateOp, zbo, zbp, zbq, zbr, zbs, zbt, zbu, Nat.reduceSub, Nat.reduceAdd, Int.reduceLT, Int.reduceLE, Int.reduceAdd, Int.reduceSub, Int.reduceToNat, Int.reduceBEq, Int.reduceBNe, Int.reduceMul, Nat.reduceBEq, Nat.reduceBNe, Nat.reduceLT, Nat.reduceLeDiff, Nat.reduceMul, Nat.reduceEqDiff, WD, effB, effH, isPriv, isHeap, isImm, zbx, zby, zbz, chkO, setD, dslot, zca, zcb, zcc, zcd, ptrCells_some, F29, hb2, hx1.shutIn, hat.at1 hx1, hat.cells, byteV, e48, h48, findLabel]
        refine num_loop3 (r := r) (x := x) (B := B) (a0 := a) (low := low) (high := high) (fr := a) (sg := 1) h hB ?_ rfl rfl ?_
        · simp only [WN, firstReg, growAll, zbv, zbw, norm, killS, zag, zah, zaa, zab, zbl, zat, zad, growOne, zae, zaf, zac, zas, zak, Nat.reduceLT, Nat.reduceAdd, zbj, zav, F29, L29_13]
          try rfl
        simp only [X29, L29_13]
        simp only [WW, partV, eqCells, eqLf, minV, maxV, ifcV, zaa, zab, zac, zad, zae, zaf, zag, zah, zai, ofConst, ofConst1, List.replicate, zaj, zak, loadOp, Go.Abs.loadCells, binV, zal, pickV, zam, zan, zao, zap, zaq, zar, zas, zat, zau, outR, resAll, resOne, zav, zaw, zax, zay, zaz, zba, zbb, zbc, zbd, zbe, zbf, zbg, zbh, zbi, zbj, zbk, storeOp, storeCell, overlay, zbl, zbm, zbn, lookupOp, keyT, okRes, mapUpdateOp, zbo, zbp, zbq, zbr, zbs, zbt, zbu, Nat.reduceSub, Nat.reduceAdd, Int.reduceLT, Int.reduceLE, Int.reduceAdd, Int.reduceSub, Int.reduceToNat, Int.reduceBEq, Int.reduceBNe, Int.reduceMul, Nat.reduceBEq, Nat.reduceBNe, Nat.reduceLT, Nat.reduceLeDiff, Nat.reduceMul, Nat.reduceEqDiff, WD, effB, effH, isPriv, isHeap, isImm, zbx, zby, zbz, chkO, setD, dslot, zca, zcb, zcc, zcd, ptrCells_some, F29, g1, hw, findLabel]
        rw [wpCall_eq eb]
        simp only [WW, partV, eqCells, eqLf, minV, maxV, ifcV, zaa, zab, zac, zad, zae, zaf, zag, zah, zai, ofConst, ofConst1, List.replicate, zaj, zak, loadOp, Go.Abs.loadCells, binV, zal, pickV, zam, zan, zao, zap, zaq, zar, zas, zat, zau, outR, resAll, resOne, zav, zaw, zax, zay, zaz, zba, zbb, zbc, zbd, zbe, zbf, zbg, zbh, zbi, zbj, zbk, storeOp, storeCell, overlay, zbl, zbm, zbn, lookupOp, keyT, okRes, mapUpdateOp, zbo, zbp, zbq, zbr, zbs, zbt, zbu, Nat.reduceSub, Nat.reduceAdd, Int.reduceLT, Int.reduceLE, Int.reduceAdd, Int.reduceSub, Int.reduceToNat, Int.reduceBEq, Int.reduceBNe, Int.reduceMul, Nat.reduceBEq, Nat.reduceBNe, Nat.reduceLT, Nat.reduceLeDiff, Nat.reduceMul, Nat.reduceEqDiff, WD, effB, effH, isPriv, isHeap, isImm, zbx, zby, zbz, chkO, setD, dslot, zca, zcb, zcc, zcd, ptrCells_some, F29, hw, findLabel]
        try simp [failM, List.set_set]
  have hc0 : B[a]? = some 48 := by rw [hc]; exact congrArg some (eq_of_beq h48)
  have eS : signM B low high a false (a) = digsM B low high a 1 (a) := by unfold signM; rw [if_neg (by rw [hd]; simp), if_neg (by simp)]; rfl
  rw [eS]
  have hp1 : IntKind.i64.wrap (((a : Nat) : Int) + 1) = ((a + 1 : Nat) : Int) := by rw [IntWalk.i64_in _ (by have := h.le; omega)]; omega
  have hss : ∀ b : Blk, ((H).set r b)[r]? = some b := fun b => List.getElem?_set_self hlt1
  have h2 : RS ((H).set r (rb x (a + 1, 0))) r x B (a + 1, 0) := h.to (s' := (a + 1, 0)) (some_lt hc)
  have eH : (H).set r (.cells [.agg [x, .int .i64 ((a + 1 : Nat) : Int), .int .i64 0]]) = (H).set r (rb x (a + 1, 0)) := rfl
  have hb3 : ((H).set r (rb x (a + 1, 0)))[r]? = some (.cells [.agg [x, .int .i64 ((a + 1 : Nat) : Int), .int .i64 0]]) := h2.blk
  have hdg2 : EW 33 [.ptr r 0 0] ((H).set r (rb x (a + 1, 0))) = some (.ret (.bool (dig B (a + 1))) false, (H).set r (rb x (a + 1, 0))) := digit_eq h2
  refine bSplit (b := dig B (a + 1)) (fun hd2 => ?_) (fun hd2 => ?_)
  rotate_left
  · have e : digsM B low high a 1 (a) = (0, (a + 1, 6)) := by unfold digsM; rw [if_pos hc0, if_pos hd2]
    rw [hd2] at hdg2
    rw [e]
    rw [hd]
    simp only [WW, partV, eqCells, eqLf, minV, maxV, ifcV, zaa, zab, zac, zad, zae, zaf, zag, zah, zai, ofConst, ofConst1, List.replicate, zaj, zak, loadOp, Go.Abs.loadCells, binV, zal, pickV, zam, zan, zao, zap, zaq, zar, zas, zat, zau, outR, resAll, resOne, zav, zaw, zax, zay, zaz, zba, zbb, zbc, zbd, zbe, zbf, zbg, zbh, zbi, zbj, zbk, storeOp, storeCell, overlay, zbl, zbm, zbn, lookupOp, keyT, okRes, mapUpdateOp, zbo, zbp, zbq, zbr, zbs, zbt, zbu, Nat.reduceSub, Nat.reduceAdd, Int.reduceLT, Int.reduceLE, Int.reduceAdd, Int.reduceSub, Int.reduceToNat, Int.reduceBEq, Int.reduceBNe, Int.reduceMul, Nat.reduceBEq, Nat.reduceBNe, Nat.reduceLT, Nat.reduceLeDiff, Nat.reduceMul, Nat.reduceEqDiff, WD, effB, effH, isPriv, isHeap, isImm, zbx, zby, zbz, chkO, setD, dslot, zca, zcb, zcc, zcd, ptrCells_some, F29, hb2, hx1.shutIn, hat.at1 hx1, hat.cells, byteV, e48, h48, findLabel]
    refine wC_dr [] (by kernel_rfl) ?_
    simp only [WW, partV, eqCells, eqLf, minV, maxV, ifcV, zaa, zab, zac, zad, zae, zaf, zag, zah, zai, ofConst, ofConst1, List.replicate, zaj, zak, loadOp, Go.Abs.loadCells, binV, zal, pickV, zam, zan, zao, zap, zaq, zar, zas, zat, zau, outR, resAll, resOne, zav, zaw, zax, zay, zaz, zba, zbb, zbc, zbd, zbe, zbf, zbg, zbh, zbi, zbj, zbk, storeOp, storeCell, overlay, zbl, zbm, zbn, lookupOp, keyT, okRes, mapUpdateOp, zbo, zbp, zbq, zbr, zbs, zbt, zbu, Nat.reduceSub, Nat.reduceAdd, Int.reduceLT, Int.reduceLE, Int.reduceAdd, Int.reduceSub, Int.reduceToNat, Int.reduceBEq, Int.reduceBNe, Int.reduceMul, Nat.reduceBEq, Nat.reduceBNe, Nat.reduceLT, Nat.reduceLeDiff, Nat.reduceMul, Nat.reduceEqDiff, WD, effB, effH, isPriv, isHeap, isImm, zbx, zby, zbz, chkO, setD, dslot, zca, zcb, zcc, zcd, ptrCells_some, F29, hb2, hx1.shutIn, hat.at1 hx1, hat.cells, byteV, e48, h48, findLabel, hp1, storeHeap, promote, heapSet, elemSet, hss]
    rw [eH, wpCall_eq hdg2]
    simp only [WW, partV, eqCells, eqLf, minV, maxV, ifcV, zaa, zab, zac, zad, zae, zaf, zag, zah, zai, ofConst, ofConst1, List.replicate, zaj, zak, loadOp, Go.Abs.loadCells, binV, zal, pickV, zam, zan, zao, zap, zaq, zar, zas, zat, zau, outR, resAll, resOne, zav, zaw, zax, zay, zaz, zba, zbb, zbc, zbd, zbe, zbf, zbg, zbh, zbi, zbj, zbk, storeOp, storeCell, overlay, zbl, zbm, zbn, lookupOp, keyT, okRes, mapUpdateOp, zbo, zbp, zbq, zbr, zbs, zbt, zbu, Nat.reduceSub, Nat.reduceAdd, Int.reduceLT, Int.reduceLE, Int.reduceAdd, Int.reduceSub, Int.reduceToNat, Int.reduceBEq, Int.reduceBNe, Int.reduceMul, Nat.reduceBEq, Nat.reduceBNe, Nat.reduceLT, Nat.reduceLeDiff, Nat.reduceMul, Nat.reduceEqDiff, WD, effB, effH, isPriv, isHeap, isImm, zbx, zby, zbz, chkO, setD, dslot, zca, zcb, zcc, zcd, ptrCells_some, F29, hb3, findLabel]
    rw [wpCall_eq (fail_eq h2.blk h2.txt.rd.cells1 6 (a + 1))]
    simp only [WW, partV, eqCells, eqLf, minV, maxV, ifcV, zaa, zab, zac, zad, zae, zaf, zag, zah, zai, ofConst, ofConst1, List.replicate, zaj, zak, loadOp, Go.Abs.loadCells, binV, zal, pickV, zam, zan, zao, zap, zaq, zar, zas, zat, zau, outR, resAll, resOne, zav, zaw, zax, zay, zaz, zba, zbb, zbc, zbd, zbe, zbf, zbg, zbh, zbi, zbj, zbk, storeOp, storeCell, overlay, zbl, zbm, zbn, lookupOp, keyT, okRes, mapUpdateOp, zbo, zbp, zbq, zbr, zbs, zbt, zbu, Nat.reduceSub, Nat.reduceAdd, Int.reduceLT, Int.reduceLE, Int.reduceAdd, Int.reduceSub, Int.reduceToNat, Int.reduceBEq, Int.reduceBNe, Int.reduceMul, Nat.reduceBEq, Nat.reduceBNe, Nat.reduceLT, Nat.reduceLeDiff, Nat.reduceMul, Nat.reduceEqDiff, WD, effB, effH, isPriv, isHeap, isImm, zbx, zby, zbz, chkO, setD, dslot, zca, zcb, zcc, zcd, ptrCells_some, F29, findLabel]
    try simp [failM, List.set_set]
  have e0 : digsM B low high a 1 (a) = endM low high a 1 (qa B (a + 1), qn B (a + 1)) := by unfold digsM; rw [if_pos hc0, if_neg (by rw [hd2]; simp)]; rfl
  rw [hd2] at hdg2
  rw [e0]
  have bn := qn_bnd B (a + 1)
  have h5 := h2.to (s' := (qa B (a + 1), 0)) (qa_le h2.le)
  have hw : IntKind.i64.wrap (1 * (qn B (a + 1))) = 1 * (qn B (a + 1)) := IntWalk.i64_in _ (by omega)
  refine bSplit (b := decide ((2305843009213693952 : Int) < (qn B (a + 1)))) (fun g1 => ?_) (fun g1 => ?_)
  rotate_left
  · have e9 : endM low high a 1 (qa B (a + 1), qn B (a + 1)) = (0, (a, 9)) := by unfold endM; rw [if_pos (.inl (of_decide_eq_true g1))]
    rw [e9]
    rw [hd]
    simp only [WW, partV, eqCells, eqLf, minV, maxV, ifcV, zaa, zab, zac, zad, zae, zaf, zag, zah, zai, ofConst, ofConst1, List.replicate, zaj, zak, loadOp, Go.Abs.loadCells, binV, zal, pickV, zam, zan, zao, zap, zaq, zar, zas, zat, zau, outR, resAll, resOne, zav, zaw, zax, zay, zaz, zba, zbb, zbc, zbd, zbe, zbf, zbg, zbh, zbi, zbj, zbk, storeOp, storeCell, overlay, zbl, zbm, zbn, lookupOp, keyT, okRes, mapUpdateOp, zbo, zbp, zbq, zbr, zbs, zbt, zbu, Nat.reduceSub, Nat.reduceAdd, Int.reduceLT, Int.reduceLE, Int.reduceAdd, Int.reduceSub, Int.reduceToNat, Int.reduceBEq, Int.reduceBNe, Int.reduceMul, Nat.reduceBEq, Nat.reduceBNe, Nat.reduceLT, Nat.reduceLeDiff, Nat.reduceMul, Nat.reduceEqDiff, WD, effB, effH, isPriv, isHeap, isImm, zbx, zby, zbz, chkO, setD, dslot, zca, zcb, zcc, zcd, ptrCells_some, F29, hb2, hx1.shutIn, hat.at1 hx1, hat.cells, byteV, e48, h48, findLabel]
    refine wC_dr [] (by kernel_rfl) ?_
    simp only [WW, partV, eqCells, eqLf, minV, maxV, ifcV, zaa, zab, zac, zad, zae, zaf, zag, zah, zai, ofConst, ofConst1, List.replicate, zaj, zak, loadOp, Go.Abs.loadCells, binV, zal, pickV, zam, zan, zao, zap, zaq, zar, zas, zat, zau, outR, resAll, resOne, zav, zaw, zax, zay, zaz, zba, zbb, zbc, zbd, zbe, zbf, zbg, zbh, zbi, zbj, zbk, storeOp, storeCell, overlay, zbl, zbm, zbn, lookupOp, keyT, okRes, mapUpdateOp, zbo, zbp, zbq, zbr, zbs, zbt, zbu, Nat.reduceSub, Nat.reduceAdd, Int.reduceLT, Int.reduceLE, Int.reduceAdd, Int.reduceSub, Int.reduceToNat, Int.reduceBEq, Int.reduceBNe, Int.reduceMul, Nat.reduceBEq, Nat.reduceBNe, Nat.reduceLT, Nat.reduceLeDiff, Nat.reduceMul, Nat.reduceEqDiff, WD, effB, effH, isPriv, isHeap, isImm, zbx, zby, zbz, chkO, setD, dslot, zca, zcb, zcc, zcd, ptrCells_some, F29, hb2, hx1.shutIn, hat.at1 hx1, hat.cells, byteV, e48, h48, findLabel, hp1, storeHeap, promote, heapSet, elemSet, hss]
    rw [eH, wpCall_eq hdg2]
    simp only [WW, partV, eqCells, eqLf, minV, maxV, ifcV, zaa, zab, zac, zad, zae, zaf, zag, zah, zai, ofConst, ofConst1, List.replicate, zaj, zak, loadOp, Go.Abs.loadCells, binV, zal, pickV, zam, zan, zao, zap, zaq, zar, zas, zat, zau, outR, resAll, resOne, zav, zaw, zax, zay, zaz, zba, zbb, zbc, zbd, zbe, zbf, zbg, zbh, zbi, zbj, zbk, storeOp, storeCell, overlay, zbl, zbm, zbn, lookupOp, keyT, okRes, mapUpdateOp, zbo, zbp, zbq, zbr, zbs, zbt, zbu, Nat.reduceSub, Nat.reduceAdd, Int.reduceLT, Int.reduceLE, Int.reduceAdd, Int.reduceSub, Int.reduceToNat, Int.reduceBEq, Int.reduceBNe, Int.reduceMul, Nat.reduceBEq, Nat.reduceBNe, Nat.reduceLT, Nat.reduceLeDiff, Nat.reduceMul, Nat.reduceEqDiff, WD, effB, effH, isPriv, isHeap, isImm, zbx, zby, zbz, chkO, setD, dslot, zca, zcb, zcc, zcd, ptrCells_some, F29, findLabel]
    refine num_loop3 (r := r) (x := x) (B := B) (a0 := a + 1) (low := low) (high := high) (fr := a) (sg := 1) h2 hB ?_ rfl rfl ?_
    · simp only [WN, firstReg, growAll, zbv, zbw, norm, killS, zag, zah, zaa, zab, zbl, zat, zad, growOne, zae, zaf, zac, zas, zak, Nat.reduceLT, Nat.reduceAdd, zbj, zav, F29, L29_13]
      try rfl
    simp only [X29, L29_13]
    simp only [WW, partV, eqCells, eqLf, minV, maxV, ifcV, zaa, zab, zac, zad, zae, zaf, zag, zah, zai, ofConst, ofConst1, List.replicate, zaj, zak, loadOp, Go.Abs.loadCells, binV, zal, pickV, zam, zan, zao, zap, zaq, zar, zas, zat, zau, outR, resAll, resOne, zav, zaw, zax, zay, zaz, zba, zbb, zbc, zbd, zbe, zbf, zbg, zbh, zbi, zbj, zbk, storeOp, storeCell, overlay, zbl, zbm, zbn, lookupOp, keyT, okRes, mapUpdateOp, zbo, zbp, zbq, zbr, zbs, zbt, zbu, Nat.reduceSub, Nat.reduceAdd, Int.reduceLT, Int.reduceLE, Int.reduceAdd, Int.reduceSub, Int.reduceToNat, Int.reduceBEq, Int.reduceBNe, Int.reduceMul, Nat.reduceBEq, Nat.reduceBNe, Nat.reduceLT, Nat.reduceLeDiff, Nat.reduceMul, Nat.reduceEqDiff, WD, effB, effH, isPriv, isHeap, isImm, zbx, zby, zbz, chkO, setD, dslot, zca, zcb, zcc, zcd, ptrCells_some, F29, g1, findLabel]
    rw [wpCall_eq (fail_eq h5.blk h5.txt.rd.cells1 9 a)]
    simp only [WW, partV, eqCells, eqLf, minV, maxV, ifcV, zaa, zab, zac, zad, zae, zaf, zag, zah, zai, ofConst, ofConst1, List.replicate, zaj, zak, loadOp, Go.Abs.loadCells, binV, zal, pickV, zam, zan, zao, zap, zaq, zar, zas, zat, zau, outR, resAll, resOne, zav, zaw, zax, zay, zaz, zba, zbb, zbc, zbd, zbe, zbf, zbg, zbh, zbi, zbj, zbk, storeOp, storeCell, overlay, zbl, zbm, zbn, lookupOp, keyT, okRes, mapUpdateOp, zbo, zbp, zbq, zbr, zbs, zbt, zbu, Nat.reduceSub, Nat.reduceAdd, Int.reduceLT, Int.reduceLE, Int.reduceAdd, Int.reduceSub, Int.reduceToNat, Int.reduceBEq, Int.reduceBNe, Int.reduceMul, Nat.reduceBEq, Nat.reduceBNe, Nat.reduceLT, Nat.reduceLeDiff, Nat.reduceMul, Nat.reduceEqDiff, WD, effB, effH, isPriv, isHeap, isImm, zbx, zby, zbz, chkO, setD, dslot, zca, zcb, zcc, zcd, ptrCells_some, F29, findLabel]
    try simp [failM, List.set_set]
  · refine bSplit (b := decide (low ≤ 1 * (qn B (a + 1))) && decide (1 * (qn B (a + 1)) ≤ high)) (fun g2 => ?_) (fun g2 => ?_)
    · have e9 : endM low high a 1 (qa B (a + 1), qn B (a + 1)) = (0, (a, 9)) := by unfold endM; rw [if_pos (.inr (fun q => by rw [decide_eq_true q.1, decide_eq_true q.2] at g2; cases g2))]
      have eb := between_eq (1 * (qn B (a + 1))) low high (((H).set r (rb x (a + 1, 0))).set r (rb x (qa B (a + 1), 0)))
      rw [g2] at eb
      rw [e9]
      rw [hd]
      simp only [WW, partV, eqCells, eqLf, minV, maxV, ifcV, zaa, zab, zac, zad, zae, zaf, zag, zah, zai, ofConst, ofConst1, List.replicate, zaj, zak, loadOp, Go.Abs.loadCells, binV, zal, pickV, zam, zan, zao, zap, zaq, zar, zas, zat, zau, outR, resAll, resOne, zav, zaw, zax, zay, zaz, zba, zbb, zbc, zbd, zbe, zbf, zbg, zbh, zbi, zbj, zbk, storeOp, storeCell, overlay, zbl, zbm, zbn, lookupOp, keyT, okRes, mapUpdateOp, zbo, zbp, zbq, zbr, zbs, zbt, zbu, Nat.reduceSub, Nat.reduceAdd, Int.reduceLT, Int.reduceLE, Int.reduceAdd, Int.reduceSub, Int.reduceToNat, Int.reduceBEq, Int.reduceBNe, Int.reduceMul, Nat.reduceBEq, Nat.reduceBNe, Nat.reduceLT, Nat.reduceLeDiff, Nat.reduceMul, Nat.reduceEqDiff, WD, effB, effH, isPriv, isHeap, isImm, zbx, zby, zbz, chkO, setD, dslot, zca, zcb, zcc, zcd, ptrCells_some, F29, hb2, hx1.shutIn, hat.at1 hx1, hat.cells, byteV, e48, h48, findLabel]
      refine wC_dr [] (by kernel_rfl) ?_
      simp only [WW, partV, eqCells, eqLf, minV, maxV, ifcV, zaa, zab, zac, zad, zae, zaf, zag, zah, zai, ofConst, ofConst1, List.replicate, zaj, zak, loadOp, Go.Abs.loadCells, binV, zal, pickV, zam, zan, zao, zap, zaq, zar, zas, zat, zau, outR, resAll, resOne, zav, zaw, zax, zay, zaz, zba, zbb, zbc, zbd, zbe, zbf, zbg, zbh, zbi, zbj, zbk, storeOp, storeCell, overlay, zbl, zbm, zbn, lookupOp, keyT, okRes, mapUpdateOp, zbo, zbp, zbq, zbr, zbs, zbt, zbu, Nat.reduceSub, Nat.reduceAdd, Int.reduceLT, Int.reduceLE, Int.reduceAdd, Int.reduceSub, Int.reduceToNat, Int.reduceBEq, Int.reduceBNe, Int.reduceMul, Nat.reduceBEq, Nat.reduceBNe, Nat.reduceLT, Nat.reduceLeDiff, Nat.reduceMul, Nat.reduceEqDiff, WD, effB, effH, isPriv, isHeap, isImm, zbx, zby, zbz, chkO, setD, dslot, zca, zcb, zcc, zcd, ptrCells_some, F29, hb2, hx1.shutIn, hat.at1 hx1, hat.cells, byteV, e48, h48, findLabel, hp1, storeHeap, promote, heapSet, elemSet, hss]
      rw [eH, wpCall_eq hdg2]
      simp only [WW, partV, eqCells, eqLf, minV, maxV, ifcV, zaa, zab, zac, zad, zae, zaf, zag, zah, zai, ofConst, ofConst1, List.replicate, zaj, zak, loadOp, Go.Abs.loadCells, binV, zal, pickV, zam, zan, zao, zap, zaq, zar, zas, zat, zau, outR, resAll, resOne, zav, zaw, zax, zay, zaz, zba, zbb, zbc, zbd, zbe, zbf, zbg, zbh, zbi, zbj, zbk, storeOp, storeCell, overlay, zbl, zbm, zbn, lookupOp, keyT, okRes, mapUpdateOp, zbo, zbp, zbq, zbr, zbs, zbt, zbu, Nat.reduceSub, Nat.reduceAdd, Int.reduceLT, Int.reduceLE, Int.reduceAdd, Int.reduceSub, Int.reduceToNat, Int.reduceBEq, Int.reduceBNe, Int.reduceMul, Nat.reduceBEq, Nat.reduceBNe, Nat.reduceLT, Nat.reduceLeDiff, Nat.reduceMul, Nat.reduceEqDiff, WD, effB, effH, isPriv, isHeap, isImm, zbx, zby, zbz, chkO, setD, dslot, zca, zcb, zcc, zcd, ptrCells_some, F29, findLabel]
      refine num_loop3 (r := r) (x := x) (B := B) (a0 := a + 1) (low := low) (high := high) (fr := a) (sg := 1) h2 hB ?_ rfl rfl ?_
      · simp only [WN, firstReg, growAll, zbv, zbw, norm, killS, zag, zah, zaa, zab, zbl, zat, zad, growOne, zae, zaf, zac, zas, zak, Nat.reduceLT, Nat.reduceAdd, zbj, zav, F29, L29_13]
        try rfl
      simp only [X29, L29_13]
      simp only [WW, partV, eqCells, eqLf, minV, maxV, ifcV, zaa, zab, zac, zad, zae, zaf, zag, zah, zai, ofConst, ofConst1, List.replicate, zaj, zak, loadOp, Go.Abs.loadCells, binV, zal, pickV, zam, zan, zao, zap, zaq, zar, zas, zat, zau, outR, resAll, resOne, zav, zaw, zax, zay, zaz, zba, zbb, zbc, zbd, zbe, zbf, zbg, zbh, zbi, zbj, zbk, storeOp, storeCell, overlay, zbl, zbm, zbn, lookupOp, keyT, okRes, mapUpdateOp, zbo, zbp, zbq, zbr, zbs, zbt, zbu, Nat.reduceSub, Nat.reduceAdd, Int.reduceLT, Int.reduceLE, Int.reduceAdd, Int.reduceSub, Int.reduceToNat, Int.reduceBEq, Int.reduceBNe, Int.reduceMul, Nat.reduceBEq, Nat.reduceBNe, Nat.reduceLT, Nat.reduceLeDiff, Nat.reduceMul, Nat.reduceEqDiff, WD, effB, effH, isPriv, isHeap, isImm, zbx, zby, zbz, chkO, setD, dslot, zca, zcb, zcc, zcd, ptrCells_some, F29, g1, hw, findLabel]
      rw [wpCall_eq eb]
      simp only [WW, partV, eqCells, eqLf, minV, maxV, ifcV, zaa, zab, zac, zad, zae, zaf, zag, zah, zai, ofConst, ofConst1, List.replicate, zaj, zak, loadOp, Go.Abs.loadCells, binV, zal, pickV, zam, zan, zao, zap, zaq, zar, zas, zat, zau, outR, resAll, resOne, zav, zaw, zax, zay, zaz, zba, zbb, zbc, zbd, zbe, zbf, zbg, zbh, zbi, zbj, zbk, storeOp, storeCell, overlay, zbl, zbm, zbn, lookupOp, keyT, okRes, mapUpdateOp, zbo, zbp, zbq, zbr, zbs, zbt, zbu, Nat.reduceSub, Nat.reduceAdd, Int.reduceLT, Int.reduceLE, Int.reduceAdd, Int.reduceSub, Int.reduceToNat, Int.reduceBEq, Int.reduceBNe, Int.reduceMul, Nat.reduceBEq, Nat.reduceBNe, Nat.reduceLT, Nat.reduceLeDiff, Nat.reduceMul, Nat.reduceEqDiff, WD, effB, effH, isPriv, isHeap, isImm, zbx, zby, zbz, chkO, setD, dslot, zca, zcb, zcc, zcd, ptrCells_some, F29, findLabel]
      rw [wpCall_eq (fail_eq h5.blk h5.txt.rd.cells1 9 a)]
      simp only [WW, partV, eqCells, eqLf, minV, maxV, ifcV, zaa, zab, zac, zad, zae, zaf, zag, zah, zai, ofConst, ofConst1, List.replicate, zaj, zak, loadOp, Go.Abs.loadCells, binV, zal, pickV, zam, zan, zao, zap, zaq, zar, zas, zat, zau, outR, resAll, resOne, zav, zaw, zax, zay, zaz, zba, zbb, zbc, zbd, zbe, zbf, zbg, zbh, zbi, zbj, zbk, storeOp, storeCell, overlay, zbl, zbm, zbn, lookupOp, keyT, okRes, mapUpdateOp, zbo, zbp, zbq, zbr, zbs, zbt, zbu, Nat.reduceSub, Nat.reduceAdd, Int.reduceLT, Int.reduceLE, Int.reduceAdd, Int.reduceSub, Int.reduceToNat, Int.reduceBEq, Int.reduceBNe, Int.reduceMul, Nat.reduceBEq, Nat.reduceBNe, Nat.reduceLT, Nat.reduceLeDiff, Nat.reduceMul, Nat.reduceEqDiff, WD, effB, effH, isPriv, isHeap, isImm, zbx, zby, zbz, chkO, setD, dslot, zca, zcb, zcc, zcd, ptrCells_some, F29, findLabel]
      try simp [failM, List.set_set]
    · have e9 : endM low high a 1 (qa B (a + 1), qn B (a + 1)) = (1 * (qn B (a + 1)), (qa B (a + 1), 0)) := by unfold endM; rw [if_neg]; rintro (q | q); exact (of_decide_eq_false g1) q; simp only [Bool.and_eq_true, decide_eq_true_eq] at g2; exact q g2
      have eb := between_eq (1 * (qn B (a + 1))) low high (((H).set r (rb x (a + 1, 0))).set r (rb x (qa B (a + 1), 0)))
      rw [g2] at eb
      rw [e9]
      rw [hd]
      simp only [WW, partV, eqCells, eqLf, minV, maxV, ifcV, zaa, zab, zac, zad, zae, zaf, zag, zah, zai, ofConst, ofConst1, List.replicate, zaj, zak, loadOp, Go.Abs.loadCells, binV, zal, pickV, zam, zan, zao, zap, zaq, zar, zas, zat, zau, outR, resAll, resOne, zav, zaw, zax, zay, zaz, zba, zbb, zbc, zbd, zbe, zbf, zbg, zbh, zbi, zbj, zbk, storeOp, storeCell, overlay, zbl, zbm, zbn, lookupOp, keyT, okRes, mapUpdateOp, zbo, zbp, zbq, zbr, zbs, zbt, zbu, Nat.reduceSub, Nat.reduceAdd, Int.reduceLT, Int.reduceLE, Int.reduceAdd, Int.reduceSub, Int.reduceToNat, Int.reduceBEq, Int.reduceBNe, Int.reduceMul, Nat.reduceBEq, Nat.reduceBNe, Nat.reduceLT, Nat.reduceLeDiff, Nat.reduceMul, Nat.reduceEqDiff, WD, effB, effH, isPriv, isHeap, isImm, zbx, zby, zbz, chkO, setD, dslot, zca, zcb, zcc, zcd, ptrCells_some, F29, hb2, hx1.shutIn, hat.at1 hx1, hat.cells, byteV, e48, h48, findLabel]
      refine wC_dr [] (by kernel_rfl) ?_
      simp only [WW, partV, eqCells, eqLf, minV, maxV, ifcV, zaa, zab, zac, zad, zae, zaf, zag, zah, zai, ofConst, ofConst1, List.replicate, zaj, zak, loadOp, Go.Abs.loadCells, binV, zal, pickV, zam, zan, zao, zap, zaq, zar, zas, zat, zau, outR, resAll, resOne, zav, zaw, zax, zay, zaz, zba, zbb, zbc, zbd, zbe, zbf, zbg, zbh, zbi, zbj, zbk, storeOp, storeCell, overlay, zbl, zbm, zbn, lookupOp, keyT, okRes, mapUpdateOp, zbo, zbp, zbq, zbr, zbs, zbt, zbu, Nat.reduceSub, Nat.reduceAdd, Int.reduceLT, Int.reduceLE, Int.reduceAdd, Int.reduceSub, Int.reduceToNat, Int.reduceBEq, Int.reduceBNe, Int.reduceMul, Nat.reduceBEq, Nat.reduceBNe, Nat.reduceLT, Nat.reduceLeDiff, Nat.reduceMul, Nat.reduceEqDiff, WD, effB, effH, isPriv, isHeap, isImm, zbx, zby, zbz, chkO, setD, dslot, zca, zcb, zcc, zcd, ptrCells_some, F29, hb2, hx1.shutIn, hat.at1 hx1, hat.cells, byteV, e48, h48, findLabel, hp1, storeHeap, promote, heapSet, elemSet, hss]
      rw [eH, wpCall_eq hdg2]
      simp only [WW, partV, eqCells, eqLf, minV, maxV, ifcV, zaa, zab, zac, zad, zae, zaf, zag, zah, zai, ofConst, ofConst1, List.replicate, zaj, zak, loadOp, Go.Abs.loadCells, binV, zal, pickV, zam, zan, zao, zap, zaq, zar, zas, zat, zau, outR, resAll, resOne, zav, zaw, zax, zay, zaz, zba, zbb, zbc, zbd, zbe, zbf, zbg, zbh, zbi, zbj, zbk, storeOp, storeCell, overlay, zbl, zbm, zbn, lookupOp, keyT, okRes, mapUpdateOp, zbo, zbp, zbq, zbr, zbs, zbt, zbu, Nat.reduceSub, Nat.reduceAdd, Int.reduceLT, Int.reduceLE, Int.reduceAdd, Int.reduceSub, Int.reduceToNat, Int.reduceBEq, Int.reduceBNe, Int.reduceMul, Nat.reduceBEq, Nat.reduceBNe, Nat.reduceLT, Nat.reduceLeDiff, Nat.reduceMul, Nat.reduceEqDiff, WD, effB, effH, isPriv, isHeap, isImm, zbx, zby, zbz, chkO, setD, dslot, zca, zcb, zcc, zcd, ptrCells_some, F29, findLabel]
      refine num_loop3 (r := r) (x := x) (B := B) (a0 := a + 1) (low := low) (high := high) (fr := a) (sg := 1) h2 hB ?_ rfl rfl ?_
      · simp only [WN, firstReg, growAll, zbv, zbw, norm, killS, zag, zah, zaa, zab, zbl, zat, zad, growOne, zae, zaf, zac, zas, zak, Nat.reduceLT, Nat.reduceAdd, zbj, zav, F29, L29_13]
        try rfl
      simp only [X29, L29_13]
      simp only [WW, partV, eqCells, eqLf, minV, maxV, ifcV, zaa, zab, zac, zad, zae, zaf, zag, zah, zai, ofConst, ofConst1, List.replicate, zaj, zak, loadOp, Go.Abs.loadCells, binV, zal, pickV, zam, zan, zao, zap, zaq, zar, zas, zat, zau, outR, resAll, resOne, zav, zaw, zax, zay, zaz, zba, zbb, zbc, zbd, zbe, zbf, zbg, zbh, zbi, zbj, zbk, storeOp, storeCell, overlay, zbl, zbm, zbn, lookupOp, keyT, okRes, mapUpdateOp, zbo, zbp, zbq, zbr, zbs, zbt, zbu, Nat.reduceSub, Nat.reduceAdd, Int.reduceLT, Int.reduceLE, Int.reduceAdd, Int.reduceSub, Int.reduceToNat, Int.reduceBEq, Int.reduceBNe, Int.reduceMul, Nat.reduceBEq, Nat.reduceBNe, Nat.reduceLT, Nat.reduceLeDiff, Nat.reduceMul, Nat.reduceEqDiff, WD, effB, effH, isPriv, isHeap, isImm, zbx, zby, zbz, chkO, setD, dslot, zca, zcb, zcc, zcd, ptrCells_some, F29, g1, hw, findLabel]
      rw [wpCall_eq eb]
      simp only [WW, partV, eqCells, eqLf, minV, maxV, ifcV, zaa, zab, zac, zad, zae, zaf, zag, zah, zai, ofConst, ofConst1, List.replicate, zaj, zak, loadOp, Go.Abs.loadCells, binV, zal, pickV, zam, zan, zao, zap, zaq, zar, zas, zat, zau, outR, resAll, resOne, zav, zaw, zax, zay, zaz, zba, zbb, zbc, zbd, zbe, zbf, zbg, zbh, zbi, zbj, zbk, storeOp, storeCell, overlay, zbl, zbm, zbn, lookupOp, keyT, okRes, mapUpdateOp, zbo, zbp, zbq, zbr, zbs, zbt, zbu, Nat.reduceSub, Nat.reduceAdd, Int.reduceLT, Int.reduceLE, Int.reduceAdd, Int.reduceSub, Int.reduceToNat, Int.reduceBEq, Int.reduceBNe, Int.reduceMul, Nat.reduceBEq, Nat.reduceBNe, Nat.reduceLT, Nat.reduceLeDiff, Nat.reduceMul, Nat.reduceEqDiff, WD, effB, effH, isPriv, isHeap, isImm, zbx, zby, zbz, chkO, setD, dslot, zca, zcb, zcc, zcd, ptrCells_some, F29, hw, findLabel]
      try simp [failM, List.set_set]
theorem num_P2 {H : Hp} {r : Nat} {x : V} {B : List UInt8} {a : Nat} (h : RS H r x B (a, 0)) (low high : Int) (hB : B.length < 4294967296) (hl : -2305843009213693952 ≤ low) (hh : high ≤ 2305843009213693952) (hlow : low < 0) (hBa : B[a]? = none) :
    EW 29 [.ptr r 0 0, .int .i64 low, .int .i64 high] H = some (.ret (.int .i64 (signM B low high a false (a)).1) false, H.set r (rb x (signM B low high a false (a)).2)) := by
  have hb1 : H[r]? = some (.cells [.agg [x, .int .i64 (a : Int), .int .i64 0]]) := h.blk
  have hlt := (List.getElem?_eq_some_iff.1 hb1).1
  have hx := h.txt.rd
  have gl : decide (low < 0) = true := decide_eq_true hlow
  have hge := List.getElem?_eq_none_iff.1 hBa
  have hg : decide ((a : Int) < (B.length : Int)) = false := decide_eq_false (by omega)
  have hd : dig B a = false := by unfold dig; rw [hBa]
  have e : signM B low high a false (a) = (0, (a, 6)) := by unfold signM; rw [if_pos hd]
  have hdg : EW 33 [.ptr r 0 0] H = some (.ret (.bool (dig B a)) false, H) := digit_eq h
  rw [hd] at hdg
  rw [e]
  refine eqOf2 (runs f29 b29 r29 n29 _ _ ?_)
  simp only [bodyOf, Try.f29, Option.getD_some]
  simp only [WW, partV, eqCells, eqLf, minV, maxV, ifcV, zaa, zab, zac, zad, zae, zaf, zag, zah, zai, ofConst, ofConst1, List.replicate, zaj, zak, loadOp, Go.Abs.loadCells, binV, zal, pickV, zam, zan, zao, zap, zaq, zar, zas, zat, zau, outR, resAll, resOne, zav, zaw, zax, zay, zaz, zba, zbb, zbc, zbd, zbe, zbf, zbg, zbh, zbi, zbj, zbk, storeOp, storeCell, overlay, zbl, zbm, zbn, lookupOp, keyT, okRes, mapUpdateOp, zbo, zbp, zbq, zbr, zbs, zbt, zbu, Nat.reduceSub, Nat.reduceAdd, Int.reduceLT, Int.reduceLE, Int.reduceAdd, Int.reduceSub, Int.reduceToNat, Int.reduceBEq, Int.reduceBNe, Int.reduceMul, Nat.reduceBEq, Nat.reduceBNe, Nat.reduceLT, Nat.reduceLeDiff, Nat.reduceMul, Nat.reduceEqDiff, WD, effB, effH, isPriv, isHeap, isImm, zbx, zby, zbz, chkO, setD, dslot, zca, zcb, zcc, zcd, ptrCells_some, F29, hb1, findLabel]
  refine wC_dr [] (by kernel_rfl) ?_
  simp only [WW, partV, eqCells, eqLf, minV, maxV, ifcV, zaa, zab, zac, zad, zae, zaf, zag, zah, zai, ofConst, ofConst1, List.replicate, zaj, zak, loadOp, Go.Abs.loadCells, binV, zal, pickV, zam, zan, zao, zap, zaq, zar, zas, zat, zau, outR, resAll, resOne, zav, zaw, zax, zay, zaz, zba, zbb, zbc, zbd, zbe, zbf, zbg, zbh, zbi, zbj, zbk, storeOp, storeCell, overlay, zbl, zbm, zbn, lookupOp, keyT, okRes, mapUpdateOp, zbo, zbp, zbq, zbr, zbs, zbt, zbu, Nat.reduceSub, Nat.reduceAdd, Int.reduceLT, Int.reduceLE, Int.reduceAdd, Int.reduceSub, Int.reduceToNat, Int.reduceBEq, Int.reduceBNe, Int.reduceMul, Nat.reduceBEq, Nat.reduceBNe, Nat.reduceLT, Nat.reduceLeDiff, Nat.reduceMul, Nat.reduceEqDiff, WD, effB, effH, isPriv, isHeap, isImm, zbx, zby, zbz, chkO, setD, dslot, zca, zcb, zcc, zcd, ptrCells_some, F29, hb1, gl, hx.shutIn, hx.len, by8_len, hg, findLabel]
  refine wC_dr [] (by kernel_rfl) ?_
  simp only [WW, partV, eqCells, eqLf, minV, maxV, ifcV, zaa, zab, zac, zad, zae, zaf, zag, zah, zai, ofConst, ofConst1, List.replicate, zaj, zak, loadOp, Go.Abs.loadCells, binV, zal, pickV, zam, zan, zao, zap, zaq, zar, zas, zat, zau, outR, resAll, resOne, zav, zaw, zax, zay, zaz, zba, zbb, zbc, zbd, zbe, zbf, zbg, zbh, zbi, zbj, zbk, storeOp, storeCell, overlay, zbl, zbm, zbn, lookupOp, keyT, okRes, mapUpdateOp, zbo, zbp, zbq, zbr, zbs, zbt, zbu, Nat.reduceSub, Nat.reduceAdd, Int.reduceLT, Int.reduceLE, Int.reduceAdd, Int.reduceSub, Int.reduceToNat, Int.reduceBEq, Int.reduceBNe, Int.reduceMul, Nat.reduceBEq, Nat.reduceBNe, Nat.reduceLT, Nat.reduceLeDiff, Nat.reduceMul, Nat.reduceEqDiff, WD, effB, effH, isPriv, isHeap, isImm, zbx, zby, zbz, chkO, setD, dslot, zca, zcb, zcc, zcd, ptrCells_some, F29, findLabel]
  rw [wpCall_eq hdg]
  simp only [WW, partV, eqCells, eqLf, minV, maxV, ifcV, zaa, zab, zac, zad, zae, zaf, zag, zah, zai, ofConst, ofConst1, List.replicate, zaj, zak, loadOp, Go.Abs.loadCells, binV, zal, pickV, zam, zan, zao, zap, zaq, zar, zas, zat, zau, outR, resAll, resOne, zav, zaw, zax, zay, zaz, zba, zbb, zbc, zbd, zbe, zbf, zbg, zbh, zbi, zbj, zbk, storeOp, storeCell, overlay, zbl, zbm, zbn, lookupOp, keyT, okRes, mapUpdateOp, zbo, zbp, zbq, zbr, zbs, zbt, zbu, Nat.reduceSub, Nat.reduceAdd, Int.reduceLT, Int.reduceLE, Int.reduceAdd, Int.reduceSub, Int.reduceToNat, Int.reduceBEq, Int.reduceBNe, Int.reduceMul, Nat.reduceBEq, Nat.reduceBNe, Nat.reduceLT, Nat.reduceLeDiff, Nat.reduceMul, Nat.reduceEqDiff, WD, effB, effH, isPriv, isHeap, isImm, zbx, zby, zbz, chkO, setD, dslot, zca, zcb, zcc, zcd, ptrCells_some, F29, hb1, findLabel]
  rw [wpCall_eq (fail_eq h.blk h.txt.rd.cells1 6 a)]
  simp only [WW, partV, eqCells, eqLf, minV, maxV, ifcV, zaa, zab, zac, zad, zae, zaf, zag, zah, zai, ofConst, ofConst1, List.replicate, zaj, zak, loadOp, Go.Abs.loadCells, binV, zal, pickV, zam, zan, zao, zap, zaq, zar, zas, zat, zau, outR, resAll, resOne, zav, zaw, zax, zay, zaz, zba, zbb, zbc, zbd, zbe, zbf, zbg, zbh, zbi, zbj, zbk, storeOp, storeCell, overlay, zbl, zbm, zbn, lookupOp, keyT, okRes, mapUpdateOp, zbo, zbp, zbq, zbr, zbs, zbt, zbu, Nat.reduceSub, Nat.reduceAdd, Int.reduceLT, Int.reduceLE, Int.reduceAdd, Int.reduceSub, Int.reduceToNat, Int.reduceBEq, Int.reduceBNe, Int.reduceMul, Nat.reduceBEq, Nat.reduceBNe, Nat.reduceLT, Nat.reduceLeDiff, Nat.reduceMul, Nat.reduceEqDiff, WD, effB, effH, isPriv, isHeap, isImm, zbx, zby, zbz, chkO, setD, dslot, zca, zcb, zcc, zcd, ptrCells_some, F29, findLabel]
  try simp [failM, List.set_set]
theorem num_P3 {H : Hp} {r : Nat} {x : V} {B : List UInt8} {a : Nat} (h : RS H r x B (a, 0)) (low high : Int) (hB : B.length < 4294967296) (hl : -2305843009213693952 ≤ low) (hh : high ≤ 2305843009213693952) (hlow : low < 0) {c0 : UInt8} (hBa : B[a]? = some c0) (h45 : (c0 == 45) = false) :
    EW 29 [.ptr r 0 0, .int .i64 low, .int .i64 high] H = some (.ret (.int .i64 (signM B low high a false (a)).1) false, H.set r (rb x (signM B low high a false (a)).2)) := by
  have hb1 : H[r]? = some (.cells [.agg [x, .int .i64 (a : Int), .int .i64 0]]) := h.blk
  have hlt := (List.getElem?_eq_some_iff.1 hb1).1
  have hx := h.txt.rd
  have gl : decide (low < 0) = true := decide_eq_true hlow
  have hlta := (List.getElem?_eq_some_iff.1 hBa).1
  have hg : decide ((a : Int) < (B.length : Int)) = true := decide_eq_true (by omega)
  have hc08 : (by8 B)[a]? = some (byteV c0) := by unfold by8; rw [List.getElem?_map, hBa]; rfl
  have hat0 := hx.at_ (sz := 1) hc08 rfl
  have e45 : (((c0.toNat : Nat) : Int) == 45) = (c0 == 45) := u8eq45 c0
  refine eqOf2 (runs f29 b29 r29 n29 _ _ ?_)
  simp only [bodyOf, Try.f29, Option.getD_some]
  simp only [WW, partV, eqCells, eqLf, minV, maxV, ifcV, zaa, zab, zac, zad, zae, zaf, zag, zah, zai, ofConst, ofConst1, List.replicate, zaj, zak, loadOp, Go.Abs.loadCells, binV, zal, pickV, zam, zan, zao, zap, zaq, zar, zas, zat, zau, outR, resAll, resOne, zav, zaw, zax, zay, zaz, zba, zbb, zbc, zbd, zbe, zbf, zbg, zbh, zbi, zbj, zbk, storeOp, storeCell, overlay, zbl, zbm, zbn, lookupOp, keyT, okRes, mapUpdateOp, zbo, zbp, zbq, zbr, zbs, zbt, zbu, Nat.reduceSub, Nat.reduceAdd, Int.reduceLT, Int.reduceLE, Int.reduceAdd, Int.reduceSub, Int.reduceToNat, Int.reduceBEq, Int.reduceBNe, Int.reduceMul, Nat.reduceBEq, Nat.reduceBNe, Nat.reduceLT, Nat.reduceLeDiff, Nat.reduceMul, Nat.reduceEqDiff, WD, effB, effH, isPriv, isHeap, isImm, zbx, zby, zbz, chkO, setD, dslot, zca, zcb, zcc, zcd, ptrCells_some, F29, hb1, findLabel]
  refine wC_dr [] (by kernel_rfl) ?_
  simp only [WW, partV, eqCells, eqLf, minV, maxV, ifcV, zaa, zab, zac, zad, zae, zaf, zag, zah, zai, ofConst, ofConst1, List.replicate, zaj, zak, loadOp, Go.Abs.loadCells, binV, zal, pickV, zam, zan, zao, zap, zaq, zar, zas, zat, zau, outR, resAll, resOne, zav, zaw, zax, zay, zaz, zba, zbb, zbc, zbd, zbe, zbf, zbg, zbh, zbi, zbj, zbk, storeOp, storeCell, overlay, zbl, zbm, zbn, lookupOp, keyT, okRes, mapUpdateOp, zbo, zbp, zbq, zbr, zbs, zbt, zbu, Nat.reduceSub, Nat.reduceAdd, Int.reduceLT, Int.reduceLE, Int.reduceAdd, Int.reduceSub, Int.reduceToNat, Int.reduceBEq, Int.reduceBNe, Int.reduceMul, Nat.reduceBEq, Nat.reduceBNe, Nat.reduceLT, Nat.reduceLeDiff, Nat.reduceMul, Nat.reduceEqDiff, WD, effB, effH, isPriv, isHeap, isImm, zbx, zby, zbz, chkO, setD, dslot, zca, zcb, zcc, zcd, ptrCells_some, F29, hb1, gl, hx.shutIn, hx.len, by8_len, hg, hat0.at1 hx, hat0.cells, byteV, e45, h45, findLabel]
  have hx1 := h.txt.rd
  have hb2 : (H)[r]? = some (.cells [.agg [x, .int .i64 ((a : Nat) : Int), .int .i64 0]]) := h.blk
  have hlt1 := (List.getElem?_eq_some_iff.1 hb2).1
  refine wC_dr [] (by kernel_rfl) ?_
  simp only [WW, partV, eqCells, eqLf, minV, maxV, ifcV, zaa, zab, zac, zad, zae, zaf, zag, zah, zai, ofConst, ofConst1, List.replicate, zaj, zak, loadOp, Go.Abs.loadCells, binV, zal, pickV, zam, zan, zao, zap, zaq, zar, zas, zat, zau, outR, resAll, resOne, zav, zaw, zax, zay, zaz, zba, zbb, zbc, zbd, zbe, zbf, zbg, zbh, zbi, zbj, zbk, storeOp, storeCell, overlay, zbl, zbm, zbn, lookupOp, keyT, okRes, mapUpdateOp, zbo, zbp, zbq, zbr, zbs, zbt, zbu, Nat.reduceSub, Nat.reduceAdd, Int.reduceLT, Int.reduceLE, Int.reduceAdd, Int.reduceSub, Int.reduceToNat, Int.reduceBEq, Int.reduceBNe, Int.reduceMul, Nat.reduceBEq, Nat.reduceBNe, Nat.reduceLT, Nat.reduceLeDiff, Nat.reduceMul, Nat.reduceEqDiff, WD, effB, effH, isPriv, isHeap, isImm, zbx, zby, zbz, chkO, setD, dslot, zca, zcb, zcc, zcd, ptrCells_some, F29, findLabel]
  rw [wpCall_eq (show EW 33 [.ptr r 0 0] (H) = some (.ret (.bool (dig B (a))) false, H) from digit_eq h)]
  refine bSplit (b := dig B (a)) (fun hd => ?_) (fun hd => ?_)
  · have e : signM B low high a false (a) = (0, (a, 6)) := by unfold signM; rw [if_pos hd]
    rw [e, hd]
    simp only [WW, partV, eqCells, eqLf, minV, maxV, ifcV, zaa, zab, zac, zad, zae, zaf, zag, zah, zai, ofConst, ofConst1, List.replicate, zaj, zak, loadOp, Go.Abs.loadCells, binV, zal, pickV, zam, zan, zao, zap, zaq, zar, zas, zat, zau, outR, resAll, resOne, zav, zaw, zax, zay, zaz, zba, zbb, zbc, zbd, zbe, zbf, zbg, zbh, zbi, zbj, zbk, storeOp, storeCell, overlay, zbl, zbm, zbn, lookupOp, keyT, okRes, mapUpdateOp, zbo, zbp, zbq, zbr, zbs, zbt, zbu, Nat.reduceSub, Nat.reduceAdd, Int.reduceLT, Int.reduceLE, Int.reduceAdd, Int.reduceSub, Int.reduceToNat, Int.reduceBEq, Int.reduceBNe, Int.reduceMul, Nat.reduceBEq, Nat.reduceBNe, Nat.reduceLT, Nat.reduceLeDiff, Nat.reduceMul, Nat.reduceEqDiff, WD, effB, effH, isPriv, isHeap, isImm, zbx, zby, zbz, chkO, setD, dslot, zca, zcb, zcc, zcd, ptrCells_some, F29, hb2, findLabel]
    rw [wpCall_eq (fail_eq h.blk h.txt.rd.cells1 6 (a))]
    simp only [WW, partV, eqCells, eqLf, minV, maxV, ifcV, zaa, zab, zac, zad, zae, zaf, zag, zah, zai, ofConst, ofConst1, List.replicate, zaj, zak, loadOp, Go.Abs.loadCells, binV, zal, pickV, zam, zan, zao, zap, zaq, zar, zas, zat, zau, outR, resAll, resOne, zav, zaw, zax, zay, zaz, zba, zbb, zbc, zbd, zbe, zbf, zbg, zbh, zbi, zbj, zbk, storeOp, storeCell, overlay, zbl, zbm, zbn, lookupOp, keyT, okRes, mapUpdateOp, zbo, zbp, zbq, zbr, zbs, zbt, zbu, Nat.reduceSub, Nat.reduceAdd, Int.reduceLT, Int.reduceLE, Int.reduceAdd, Int.reduceSub, Int.reduceToNat, Int.reduceBEq, Int.reduceBNe, Int.reduceMul, Nat.reduceBEq, Nat.reduceBNe, Nat.reduceLT, Nat.reduceLeDiff, Nat.reduceMul, Nat.reduceEqDiff, WD, effB, effH, isPriv, isHeap, isImm, zbx, zby, zbz, chkO, setD, dslot, zca, zcb, zcc, zcd, ptrCells_some, F29, findLabel]
    try simp [failM, List.set_set]
  have hc := some_dig2 hd
  have hc8 : (by8 B)[a]? = some (byteV (B.getD (a) 0)) := by unfold by8; rw [List.getElem?_map, hc]; rfl
  have hat := hx1.at_ (sz := 1) hc8 rfl
  have e48 : ((((B.getD (a) 0).toNat : Nat) : Int) == 48) = ((B.getD (a) 0) == 48) := u8eq48 _
  refine bSplit (b := ((B.getD (a) 0) == 48)) (fun h48 => ?_) (fun h48 => ?_)
  · have hc0 : ¬ B[a]? = some 48 := by rw [hc]; intro q; have q := Option.some.inj q; rw [q] at h48; simp at h48
    have eS : signM B low high a false (a) = endM low high a 1 (qa B (a), qn B (a)) := by unfold signM; rw [if_neg (by rw [hd]; simp), if_neg (fun q => hc0 q.2)]; unfold digsM; rw [if_neg hc0]; rfl
    rw [eS]
    have bn := qn_bnd B (a)
    have h5 := h.to (s' := (qa B (a), 0)) (qa_le h.le)
    have hw : IntKind.i64.wrap (1 * (qn B (a))) = 1 * (qn B (a)) := IntWalk.i64_in _ (by omega)
    refine bSplit (b := decide ((2305843009213693952 : Int) < (qn B (a)))) (fun g1 => ?_) (fun g1 => ?_)
    rotate_left
    · have e9 : endM low high a 1 (qa B (a), qn B (a)) = (0, (a, 9)) := by unfold endM; rw [if_pos (.inl (of_decide_eq_true g1))]
      rw [e9]
      rw [hd]
      simp only [WW, partV, eqCells, eqLf, minV, maxV, ifcV, zaa, zab, zac, zad, zae, zaf, zag, zah, zai, ofConst, ofConst1, List.replicate, zaj, zak, loadOp, Go.Abs.loadCells, binV, zal, pickV, zam, zan, zao, zap, zaq, zar, zas, zat, zau, outR, resAll, resOne, zav, zaw, zax, zay, zaz, zba, zbb, zbc, zbd, zbe, zbf, zbg, zbh, zbi, zbj, zbk, storeOp, storeCell, overlay, zbl, zbm, zbn, lookupOp, keyT, okRes, mapUpdateOp, zbo, zbp, zbq, zbr, zbs, zbt, zbu, Nat.reduceSub, Nat.reduceAdd, Int.reduceLT, Int.reduceLE, Int.reduceAdd, Int.reduceSub, Int.reduceToNat, Int.reduceBEq, Int.reduceBNe, Int.reduceMul, Nat.reduceBEq, Nat.reduceBNe, Nat.reduceLT, Nat.reduceLeDiff, Nat.reduceMul, Nat.reduceEqDiff, WD, effB, effH, isPriv, isHeap, isImm, zbx, zby, zbz, chkO, setD, dslot, zca, zcb, zcc, zcd, ptrCells_some, F29, hb2, hx1.shutIn, hat.at1 hx1, hat.cells, byteV, e48, h48, findLabel]
      refine wC_dr [] (by kernel_rfl) ?_
      simp only [WW, partV, eqCells, eqLf, minV, maxV, ifcV, zaa, zab, zac, zad, zae, zaf, zag, zah, zai, ofConst, ofConst1, List.replicate, zaj, zak, loadOp, Go.Abs.loadCells, binV, zal, pickV, zam, zan, zao, zap, zaq, zar, zas, zat, zau, outR, resAll, resOne, zav, zaw, zax, zay, zaz, zba, zbb, zbc, zbd, zbe, zbf, zbg, zbh, zbi, zbj, zbk, storeOp, storeCell, overlay, zbl, zbm, zbn, lookupOp, keyT, okRes, mapUpdateOp, zbo, zbp, zbq, zbr, zbs, zbt, zbu, Nat.reduceSub, Nat.reduceAdd, Int.reduceLT, Int.reduceLE, Int.reduceAdd, Int.reduceSub, Int.reduceToNat, Int.reduceBEq, Int.reduceBNe, Int.reduceMul, Nat.reduceBEq, Nat.reduceBNe, Nat.reduceLT, Nat.reduceLeDiff, Nat.reduceMul, Nat.reduceEqDiff, WD, effB, effH, isPriv, isHeap, isImm, zbx, zby, zbz, chkO, setD, dslot, zca, zcb, zcc, zcd, ptrCells_some, F29, hb2, hx1.shutIn, hat.at1 hx1, hat.cells, byteV, e48, h48, findLabel]
      refine num_loop3 (r := r) (x := x) (B := B) (a0 := a) (low := low) (high := high) (fr := a) (sg := 1) h hB ?_ rfl rfl ?_
      · simp only [WN, firstReg, growAll, zbv, zbw, norm, killS, zag, zah, zaa, zab, zbl, zat, zad, growOne, zae, zaf, zac, zas, zak, Nat.reduceLT, Nat.reduceAdd, zbj, zav, F29, L29_13]
        try rfl
      simp only [X29, L29_13]
      simp only [WW, partV, eqCells, eqLf, minV, maxV, ifcV, zaa, zab, zac, zad, zae, zaf, zag, zah, zai, ofConst, ofConst1, List.replicate, zaj, zak, loadOp, Go.Abs.loadCells, binV, zal, pickV, zam, zan, zao, zap, zaq, zar, zas, zat, zau, outR, resAll, resOne, zav, zaw, zax, zay, zaz, zba, zbb, zbc, zbd, zbe, zbf, zbg, zbh, zbi, zbj, zbk, storeOp, storeCell, overlay, zbl, zbm, zbn, lookupOp, keyT, okRes, mapUpdateOp, zbo, zbp, zbq, zbr, zbs, zbt, zbu, Nat.reduceSub, Nat.reduceAdd, Int.reduceLT, Int.reduceLE, Int.reduceAdd, Int.reduceSub, Int.reduceToNat, Int.reduceBEq, Int.reduceBNe, Int.reduceMul, Nat.reduceBEq, Nat.reduceBNe, Nat.reduceLT, Nat.reduceLeDiff, Nat.reduceMul, Nat.reduceEqDiff, WD, effB, effH, isPriv, isHeap, isImm, zbx, zby, zbz, chkO, setD, dslot, zca, zcb, zcc, zcd, ptrCells_some, F29, g1, findLabel]
      rw [wpCall_eq (fail_eq h5.blk h5.txt.rd.cells1 9 a)]
      simp only [WW, partV, eqCells, eqLf, minV, maxV, ifcV, zaa, zab, zac, zad, zae, zaf, zag, zah, zai, ofConst, ofConst1, List.replicate, zaj, zak, loadOp, Go.Abs.loadCells, binV, zal, pickV, zam, zan, zao, zap, zaq, zar, zas, zat, zau, outR, resAll, resOne, zav, zaw, zax, zay, zaz, zba, zbb, zbc, zbd, zbe, zbf, zbg, zbh, zbi, zbj, zbk, storeOp, storeCell, overlay, zbl, zbm, zbn, lookupOp, keyT, okRes, mapUpdateOp, zbo, zbp, zbq, zbr, zbs, zbt, zbu, Nat.reduceSub, Nat.reduceAdd, Int.reduceLT, Int.reduceLE, Int.reduceAdd, Int.reduceSub, Int.reduceToNat, Int.reduceBEq, Int.reduceBNe, Int.reduceMul, Nat.reduceBEq, Nat.reduceBNe, Nat.reduceLT, Nat.reduceLeDiff, Nat.reduceMul, Nat.reduceEqDiff, WD, effB, effH, isPriv, isHeap, isImm, zbx, zby, zbz, chkO, setD, dslot, zca, zcb, zcc, zcd, ptrCells_some, F29, findLabel]
      try simp [failM, List.set_set]
    · refine bSplit (b := decide (low ≤ 1 * (qn B (a))) && decide (1 * (qn B (a)) ≤ high)) (fun g2 => ?_) (fun g2 => ?_)
      · have e9 : endM low high a 1 (qa B (a), qn B (a)) = (0, (a, 9)) := by unfold endM; rw [if_pos (.inr (fun q => by rw [decide_eq_true q.1, decide_eq_true q.2] at g2; cases g2))]
        have eb := between_eq (1 * (qn B (a))) low high ((H).set r (rb x (qa B (a), 0)))
        rw [g2] at eb
        rw [e9]
        rw [hd]
        simp only [WW, partV, eqCells, eqLf, minV, maxV, ifcV, zaa, zab, zac, zad, zae, zaf, zag, zah, zai, ofConst, ofConst1, List.replicate, zaj, zak, loadOp, Go.Abs.loadCells, binV, zal, pickV, zam, zan, zao, zap, zaq, zar, zas, zat, zau, outR, resAll, resOne, zav, zaw, zax, zay, zaz, zba, zbb, zbc, zbd, zbe, zbf, zbg, zbh, zbi, zbj, zbk, storeOp, storeCell, overlay, zbl, zbm, zbn, lookupOp, keyT, okRes, mapUpdateOp, zbo, zbp, zbq, zbr, zbs, zbt, zbu, Nat.reduceSub, Nat.reduceAdd, Int.reduceLT, Int.reduceLE, Int.reduceAdd, Int.reduceSub, Int.reduceToNat, Int.reduceBEq, Int.reduceBNe, Int.reduceMul, Nat.reduceBEq, Nat.reduceBNe, Nat.reduceLT, Nat.reduceLeDiff, Nat.reduceMul, Nat.reduceEqDiff, WD, effB, effH, isPriv, isHeap, isImm, zbx, zby, zbz, chkO, setD, dslot, zca, zcb, zcc, zcd, ptrCells_some, F29, hb2, hx1.shutIn, hat.at1 hx1, hat.cells, byteV, e48, h48, findLabel]
        refine wC_dr [] (by kernel_rfl) ?_
        simp only [WW, partV, eqCells, eqLf, minV, maxV, ifcV, zaa, zab, zac, zad, zae, zaf, zag, zah, zai, ofConst, ofConst1, List.replicate, zaj, zak, loadOp, Go.Abs.loadCells, binV, zal, pickV, zam, zan, zao, zap, zaq, zar, zas, zat, zau, outR, resAll, resOne, zav, zaw, zax, zay, zaz, zba, zbb, zbc, zbd, zbe, zbf, zbg, zbh, zbi, zbj, zbk, storeOp, storeCell, overlay, zbl, zbm, zbn, lookupOp, keyT, okRes, mapUpdateOp, zbo, zbp, zbq, zbr, zbs, zbt, zbu, Nat.reduceSub, Nat.reduceAdd, Int.reduceLT, Int.reduceLE, Int.reduceAdd, Int.reduceSub, Int.reduceToNat, Int.reduceBEq, Int.reduceBNe, Int.reduceMul, Nat.reduceBEq, Nat.reduceBNe, Nat.reduceLT, Nat.reduceLeDiff, Nat.reduceMul, Nat.reduceEqDiff, WD, effB, effH, isPriv, isHeap, isImm, zbx, zby, zbz, chkO, setD, dslot, zca, zcb, zcc, zcd, ptrCells_some, F29, hb2, hx1.shutIn, hat.at1 hx1, hat.cells, byteV, e48, h48, findLabel]
        refine num_loop3 (r := r) (x := x) (B := B) (a0 := a) (low := low) (high := high) (fr := a) (sg := 1) h hB ?_ rfl rfl ?_
        · simp only [WN, firstReg, growAll, zbv, zbw, norm, killS, zag, zah, zaa, zab, zbl, zat, zad, growOne, zae, zaf, zac, zas, zak, Nat.reduceLT, Nat.reduceAdd, zbj, zav, F29, L29_13]
          try rfl
        simp only [X29, L29_13]
        simp only [WW, partV, eqCells, eqLf, minV, maxV, ifcV, zaa, zab, zac, zad, zae, zaf, zag, zah, zai, ofConst, ofConst1, List.replicate, zaj, zak, loadOp, Go.Abs.loadCells, binV, zal, pickV, zam, zan, zao, zap, zaq, zar, zas, zat, zau, outR, resAll, resOne, zav, zaw, zax, zay, zaz, zba, zbb, zbc, zbd, zbe, zbf, zbg, zbh, zbi, zbj, zbk, storeOp, storeCell, overlay, zbl, zbm, zbn, lookupOp, keyT, okRes, mapUpdateOp, zbo, zbp, zbq, zbr, zbs, zbt, zbu, Nat.reduceSub, Nat.reduceAdd, Int.reduceLT, Int.reduceLE, Int.reduceAdd, Int.reduceSub, Int.reduceToNat, Int.reduceBEq, Int.reduceBNe, Int.reduceMul, Nat.reduceBEq, Nat.reduceBNe, Nat.reduceLT, Nat.reduceLeDiff, Nat.reduceMul, Nat.reduceEqDiff, WD, effB, effH, isPriv, isHeap, isImm, zbx, zby, zbz, chkO, setD, dslot, zca, zcb, zcc, zcd, ptrCells_some, F29, g1, hw, findLabel]
        rw [wpCall_eq eb]
        simp only [WW, partV, eqCells, eqLf, minV, maxV, ifcV, zaa, zab, zac, zad, zae, zaf, zag, zah, zai, ofConst, ofConst1, List.replicate, zaj, zak, loadOp, Go.Abs.loadCells, binV, zal, pickV, zam, zan, zao, zap, zaq, zar, zas, zat, zau, outR, resAll, resOne, zav, zaw, zax, zay, zaz, zba, zbb, zbc, zbd, zbe, zbf, zbg, zbh, zbi, zbj, zbk, storeOp, storeCell, overlay, zbl, zbm, zbn, lookupOp, keyT, okRes, mapUpdateOp, zbo, zbp, zbq, zbr, zbs, zbt, zbu, Nat.reduceSub, Nat.reduceAdd, Int.reduceLT, Int.reduceLE, Int.reduceAdd, Int.reduceSub, Int.reduceToNat, Int.reduceBEq, Int.reduceBNe, Int.reduceMul, Nat.reduceBEq, Nat.reduceBNe, Nat.reduceLT, Nat.reduceLeDiff, Nat.reduceMul, Nat.reduceEqDiff, WD, effB, effH, isPriv, isHeap, isImm, zbx, zby, zbz, chkO, setD, dslot, zca, zcb, zcc, zcd, ptrCells_some, F29, findLabel]
        rw [wpCall_eq (fail_eq h5.blk h5.txt.rd.cells1 9 a)]
        simp only [WW, partV, eqCells, eqLf, minV, maxV, ifcV, zaa, zab, zac, zad, zae, zaf, zag, zah, zai, ofConst, ofConst1, List.replicate, zaj, zak, loadOp, Go.Abs.loadCells, binV, zal, pickV, zam, zan, zao, zap, zaq, zar, zas, zat, zau, outR, resAll, resOne, zav, zaw, zax, zay, zaz, zba, zbb, zbc, zbd, zbe, zbf, zbg, zbh, zbi, zbj, zbk, storeOp, storeCell, overlay, zbl, zbm, zbn, lookupOp, keyT, okRes, mapUpdateOp, zbo, zbp, zbq, zbr, zbs, zbt, zbu, Nat.reduceSub, Nat.reduceAdd, Int.reduceLT, Int.reduceLE, Int.reduceAdd, Int.reduceSub, Int.reduceToNat, Int.reduceBEq, Int.reduceBNe, Int.reduceMul, Nat.reduceBEq, Nat.reduceBNe, Nat.reduceLT, Nat.reduceLeDiff, Nat.reduceMul, Nat.reduceEqDiff, WD, effB, effH, isPriv, isHeap, isImm, zbx, zby, zbz, chkO, setD, dslot, zca, zcb, zcc, zcd, ptrCells_some, F29, findLabel]
        try simp [failM, List.set_set]
      · have e9 : endM low high a 1 (qa B (a), qn B (a)) = (1 * (qn B (a)), (qa B (a), 0)) := by unfold endM; rw [if_neg]; rintro (q | q); exact (of_decide_eq_false g1) q; simp only [Bool.and_eq_true, decide_eq_true_eq] at g2; exact q g2
        have eb := between_eq (1 * (qn B (a))) low high ((H).set r (rb x (qa B (a), 0)))
        rw [g2] at eb
        rw [e9]
        rw [hd]
        simp only [WW, partV, eqCells, eqLf, minV, maxV, ifcV, zaa, zab, zac, zad, zae, zaf, zag, zah, zai, ofConst, ofConst1, List.replicate, zaj, zak, loadOp, Go.Abs.loadCells, binV, zal, pickV, zam, zan, zao, zap, zaq, zar, zas, zat, zau, outR, resAll, resOne, zav, zaw, zax, zay, zaz, zba, zbb, zbc, zbd, zbe, zbf, zbg, zbh, zbi, zbj, zbk, storeOp, storeCell, overlay, zbl, zbm, zbn, lookupOp, keyT, okRes, mapUpdateOp, zbo, zbp, zbq, zbr, zbs, zbt, zbu, Nat.reduceSub, Nat.reduceAdd, Int.reduceLT, Int.reduceLE, Int.reduceAdd, Int.reduceSub, Int.reduceToNat, Int.reduceBEq, Int.reduceBNe, Int.reduceMul, Nat.reduceBEq, Nat.reduceBNe, Nat.reduceLT, Nat.reduceLeDiff, Nat.reduceMul, Nat.reduceEqDiff, WD, effB, effH, isPriv, isHeap, isImm, zbx, zby, zbz, chkO, setD, dslot, zca, zcb, zcc, zcd, ptrCells_some, F29, hb2, hx1.shutIn, hat.at1 hx1, hat.cells, byteV, e48, h48, findLabel]
        refine wC_dr [] (by kernel_rfl) ?_
        simp only [WW, partV, eqCells, eqLf, minV, maxV, ifcV, zaa, zab, zac, zad, zae, zaf, zag, zah, zai, ofConst, ofConst1, List.replicate, zaj, zak, loadOp, Go.Abs.loadCells, binV, zal, pickV, zam, zan, zao, zap, zaq, zar, zas, zat, zau, outR, resAll, resOne, zav, zaw, zax, zay, zaz, zba, zbb, zbc, zbd, zbe, zbf, zbg, zbh, zbi, zbj, zbk, storeOp, storeCell, overlay, zbl, zbm, zbn, lookupOp, keyT, okRes, mapUpdateOp, zbo, zbp, zbq, zbr, zbs, zbt, zbu, Nat.reduceSub, Nat.reduceAdd, Int.reduceLT, Int.reduceLE, Int.reduceAdd, Int.reduceSub, Int.reduceToNat, Int.reduceBEq, Int.reduceBNe, Int.reduceMul, Nat.reduceBEq, Nat.reduceBNe, Nat.reduceLT, Nat.reduceLeDiff, Nat.reduceMul, Nat.reduceEqDiff, WD, effB, effH, isPriv, isHeap, isImm, zbx, zby, zbz, chkO, setD, dslot, zca, zcb, zcc, zcd, ptrCells_some, F29, hb2, hx1.shutIn, hat.at1 hx1, hat.cells, byteV, e48, h48, findLabel]
        refine num_loop3 (r := r) (x := x) (B := B) (a0 := a) (low := low) (high := high) (fr := a) (sg := 1) h hB ?_ rfl rfl ?_
        · simp only [WN, firstReg, growAll, zbv, zbw, norm, killS, zag, zah, zaa, zab, zbl, zat, zad, growOne, zae, zaf, zac, zas, zak, Nat.reduceLT, Nat.reduceAdd, zbj, zav, F29, L29_13]
          try rfl
        simp only [X29, L29_13]
        simp only [WW, partV, eqCells, eqLf, minV, maxV, ifcV, zaa, zab, zac, zad, zae, zaf, zag, zah, zai, ofConst, ofConst1, List.replicate, zaj, zak, loadOp, Go.Abs.loadCells, binV, zal, pickV, zam, zan, zao, zap, zaq, zar, zas, zat, zau, outR, resAll, resOne, zav, zaw, zax, zay, zaz, zba, zbb, zbc, zbd, zbe, zbf, zbg, zbh, zbi, zbj, zbk, storeOp, storeCell, overlay, zbl, zbm, zbn, lookupOp, keyT, okRes, mapUpdateOp, zbo, zbp, zbq, zbr, zbs, zbt, zbu, Nat.reduceSub, Nat.reduceAdd, Int.reduceLT, Int.reduceLE, Int.reduceAdd, Int.reduceSub, Int.reduceToNat, Int.reduceBEq, Int.reduceBNe, Int.reduceMul, Nat.reduceBEq, Nat.reduceBNe, Nat.reduceLT, Nat.reduceLeDiff, Nat.reduceMul, Nat.reduceEqDiff, WD, effB, effH, isPriv, isHeap, isImm, zbx, zby, zbz, chkO, setD, dslot, zca, zcb, zcc, zcd, ptrCells_some, F29, g1, hw, findLabel]
        rw [wpCall_eq eb]
        simp only [WW, partV, eqCells, eqLf, minV, maxV, ifcV, zaa, zab, zac, zad, zae, zaf, zag, zah, zai, ofConst, ofConst1, List.replicate, zaj, zak, loadOp, Go.Abs.loadCells, binV, zal, pickV, zam, zan, zao, zap, zaq, zar, zas, zat, zau, outR, resAll, resOne, zav, zaw, zax, zay, zaz, zba, zbb, zbc, zbd, zbe, zbf, zbg, zbh, zbi, zbj, zbk, storeOp, storeCell, overlay, zbl, zbm, zbn, lookupOp, keyT, okRes, mapUpdateOp, zbo, zbp, zbq, zbr, zbs, zbt, zbu, Nat.reduceSub, Nat.reduceAdd, Int.reduceLT, Int.reduceLE, Int.reduceAdd, Int.reduceSub, Int.reduceToNat, Int.reduceBEq, Int.reduceBNe, Int.reduceMul, Nat.reduceBEq, Nat.reduceBNe, Nat.reduceLT, Nat.reduceLeDiff, Nat.reduceMul, Nat.reduceEqDiff, WD, effB, effH, isPriv, isHeap, isImm, zbx, zby, zbz, chkO, setD, dslot, zca, zcb, zcc, zcd, ptrCells_some, F29, hw, findLabel]
        try simp [failM, List.set_set]
  have hc0 : B[a]? = some 48 := by rw [hc]; exact congrArg some (eq_of_beq h48)
  have eS : signM B low high a false (a) = digsM B low high a 1 (a) := by unfold signM; rw [if_neg (by rw [hd]; simp), if_neg (by simp)]; rfl
  rw [eS]
  have hp1 : IntKind.i64.wrap (((a : Nat) : Int) + 1) = ((a + 1 : Nat) : Int) := by rw [IntWalk.i64_in _ (by have := h.le; omega)]; omega
  have hss : ∀ b : Blk, ((H).set r b)[r]? = some b := fun b => List.getElem?_set_self hlt1
  have h2 : RS ((H).set r (rb x (a + 1, 0))) r x B (a + 1, 0) := h.to (s' := (a + 1, 0)) (some_lt hc)
  have eH : (H).set r (.cells [.agg [x, .int .i64 ((a + 1 : Nat) : Int), .int .i64 0]]) = (H).set r (rb x (a + 1, 0)) := rfl
  have hb3 : ((H).set r (rb x (a + 1, 0)))[r]? = some (.cells [.agg [x, .int .i64 ((a + 1 : Nat) : Int), .int .i64 0]]) := h2.blk
  have hdg2 : EW 33 [.ptr r 0 0] ((H).set r (rb x (a + 1, 0))) = some (.ret (.bool (dig B (a + 1))) false, (H).set r (rb x (a + 1, 0))) := digit_eq h2
  refine bSplit (b := dig B (a + 1)) (fun hd2 => ?_) (fun hd2 => ?_)
  rotate_left
  · have e : digsM B low high a 1 (a) = (0, (a + 1, 6)) := by unfold digsM; rw [if_pos hc0, if_pos hd2]
    rw [hd2] at hdg2
    rw [e]
    rw [hd]
    simp only [WW, partV, eqCells, eqLf, minV, maxV, ifcV, zaa, zab, zac, zad, zae, zaf, zag, zah, zai, ofConst, ofConst1, List.replicate, zaj, zak, loadOp, Go.Abs.loadCells, binV, zal, pickV, zam, zan, zao, zap, zaq, zar, zas, zat, zau, outR, resAll, resOne, zav, zaw, zax, zay, zaz, zba, zbb, zbc, zbd, zbe, zbf, zbg, zbh, zbi, zbj, zbk, storeOp, storeCell, overlay, zbl, zbm, zbn, lookupOp, keyT, okRes, mapUpdateOp, zbo, zbp, zbq, zbr, zbs, zbt, zbu, Nat.reduceSub, Nat.reduceAdd, Int.reduceLT, Int.reduceLE, Int.reduceAdd, Int.reduceSub, Int.reduceToNat, Int.reduceBEq, Int.reduceBNe, Int.reduceMul, Nat.reduceBEq, Nat.reduceBNe, Nat.reduceLT, Nat.reduceLeDiff, Nat.reduceMul, Nat.reduceEqDiff, WD, effB, effH, isPriv, isHeap, isImm, zbx, zby, zbz, chkO, setD, dslot, zca, zcb, zcc, zcd, ptrCells_some, F29, hb2, hx1.shutIn, hat.at1 hx1, hat.cells, byteV, e48, h48, findLabel]
    refine wC_dr [] (by kernel_rfl) ?_
    simp only [WW, partV, eqCells, eqLf, minV, maxV, ifcV, zaa, zab, zac, zad, zae, zaf, zag, zah, zai, ofConst, ofConst1, List.replicate, zaj, zak, loadOp, Go.Abs.loadCells, binV, zal, pickV, zam, zan, zao, zap, zaq, zar, zas, zat, zau, outR, resAll, resOne, zav, zaw, zax, zay, zaz, zba, zbb, zbc, zbd, zbe, zbf, zbg, zbh, zbi, zbj, zbk, storeOp, storeCell, overlay, zbl, zbm, zbn, lookupOp, keyT, okRes, mapUpdateOp, zbo, zbp, zbq, zbr, zbs, zbt, zbu, Nat.reduceSub, Nat.reduceAdd, Int.reduceLT, Int.reduceLE, Int.reduceAdd, Int.reduceSub, Int.reduceToNat, Int.reduceBEq, Int.reduceBNe, Int.reduceMul, Nat.reduceBEq, Nat.reduceBNe, Nat.reduceLT, Nat.reduceLeDiff, Nat.reduceMul, Nat.reduceEqDiff, WD, effB, effH, isPriv, isHeap, isImm, zbx, zby, zbz, chkO, setD, dslot, zca, zcb, zcc, zcd, ptrCells_some, F29, hb2, hx1.shutIn, hat.at1 hx1, hat.cells, byteV, e48, h48, findLabel, hp1, storeHeap, promote, heapSet, elemSet, hss]
    rw [eH, wpCall_eq hdg2]
    simp only [WW, partV, eqCells, eqLf, minV, maxV, ifcV, zaa, zab, zac, zad, zae, zaf, zag, zah, zai, ofConst, ofConst1, List.replicate, zaj, zak, loadOp, Go.Abs.loadCells, binV, zal, pickV, zam, zan, zao, zap, zaq, zar, zas, zat, zau, outR, resAll, resOne, zav, zaw, zax, zay, zaz, zba, zbb, zbc, zbd, zbe, zbf, zbg, zbh, zbi, zbj, zbk, storeOp, storeCell, overlay, zbl, zbm, zbn, lookupOp, keyT, okRes, mapUpdateOp, zbo, zbp, zbq, zbr, zbs, zbt, zbu, Nat.reduceSub, Nat.reduceAdd, Int.reduceLT, Int.reduceLE, Int.reduceAdd, Int.reduceSub, Int.reduceToNat, Int.reduceBEq, Int.reduceBNe, Int.reduceMul, Nat.reduceBEq, Nat.reduceBNe, Nat.reduceLT, Nat.reduceLeDiff, Nat.reduceMul, Nat.reduceEqDiff, WD, effB, effH, isPriv, isHeap, isImm, zbx, zby, zbz, chkO, setD, dslot, zca, zcb, zcc, zcd, ptrCells_some, F29, hb3, findLabel]
    rw [wpCall_eq (fail_eq h2.blk h2.txt.rd.cells1 6 (a + 1))]
    simp only [WW, partV, eqCells, eqLf, minV, maxV, ifcV, zaa, zab, zac, zad, zae, zaf, zag, zah, zai, ofConst, ofConst1, List.replicate, zaj, zak, loadOp, Go.Abs.loadCells, binV, zal, pickV, zam, zan, zao, zap, zaq, zar, zas, zat, zau, outR, resAll, resOne, zav, zaw, zax, zay, zaz, zba, zbb, zbc, zbd, zbe, zbf, zbg, zbh, zbi, zbj, zbk, storeOp, storeCell, overlay, zbl, zbm, zbn, lookupOp, keyT, okRes, mapUpdateOp, zbo, zbp, zbq, zbr, zbs, zbt, zbu, Nat.reduceSub, Nat.reduceAdd, Int.reduceLT, Int.reduceLE, Int.reduceAdd, Int.reduceSub, Int.reduceToNat, Int.reduceBEq, Int.reduceBNe, Int.reduceMul, Nat.reduceBEq, Nat.reduceBNe, Nat.reduceLT, Nat.reduceLeDiff, Nat.reduceMul, Nat.reduceEqDiff, WD, effB, effH, isPriv, isHeap, isImm, zbx, zby, zbz, chkO, setD, dslot, zca, zcb, zcc, zcd, ptrCells_some, F29, findLabel]
    try simp [failM, List.set_set]
  have e0 : digsM B low high a 1 (a) = endM low high a 1 (qa B (a + 1), qn B (a + 1)) := by unfold digsM; rw [if_pos hc0, if_neg (by rw [hd2]; simp)]; rfl
  rw [hd2] at hdg2
  rw [e0]
  have bn := qn_bnd B (a + 1)
  have h5 := h2.to (s' := (qa B (a + 1), 0)) (qa_le h2.le)
  have hw : IntKind.i64.wrap (1 * (qn B (a + 1))) = 1 * (qn B (a + 1)) := IntWalk.i64_in _ (by omega)
  refine bSplit (b := decide ((2305843009213693952 : Int) < (qn B (a + 1)))) (fun g1 => ?_) (fun g1 => ?_)
  rotate_left
  · have e9 : endM low high a 1 (qa B (a + 1), qn B (a + 1)) = (0, (a, 9)) := by unfold endM; rw [if_pos (.inl (of_decide_eq_true g1))]
    rw [e9]
    rw [hd]
    simp only [WW, partV, eqCells, eqLf, minV, maxV, ifcV, zaa, zab, zac, zad, zae, zaf, zag, zah, zai, ofConst, ofConst1, List.replicate, zaj, zak, loadOp, Go.Abs.loadCells, binV, zal, pickV, zam, zan, zao, zap, zaq, zar, zas, zat, zau, outR, resAll, resOne, zav, zaw, zax, zay, zaz, zba, zbb, zbc, zbd, zbe, zbf, zbg, zbh, zbi, zbj, zbk, storeOp, storeCell, overlay, zbl, zbm, zbn, lookupOp, keyT, okRes, mapUpdateOp, zbo, zbp, zbq, zbr, zbs, zbt, zbu, Nat.reduceSub, Nat.reduceAdd, Int.reduceLT, Int.reduceLE, Int.reduceAdd, Int.reduceSub, Int.reduceToNat, Int.reduceBEq, Int.reduceBNe, Int.reduceMul, Nat.reduceBEq, Nat.reduceBNe, Nat.reduceLT, Nat.reduceLeDiff, Nat.reduceMul, Nat.reduceEqDiff, WD, effB, effH, isPriv, isHeap, isImm, zbx, zby, zbz, chkO, setD, dslot, zca, zcb, zcc, zcd, ptrCells_some, F29, hb2, hx1.shutIn, hat.at1 hx1, hat.cells, byteV, e48, h48, findLabel]
    refine wC_dr [] (by kernel_rfl) ?_
    simp only [WW, partV, eqCells, eqLf, minV, maxV, ifcV, zaa, zab, zac, zad, zae, zaf, zag, zah, zai, ofConst, ofConst1, List.replicate, zaj, zak, loadOp, Go.Abs.loadCells, binV, zal, pickV, zam, zan, zao, zap, zaq, zar, zas, zat, zau, outR, resAll, resOne, zav, zaw, zax, zay, zaz, zba, zbb, zbc, zbd, zbe, zbf, zbg, zbh, zbi, zbj, zbk, storeOp, storeCell, overlay, zbl, zbm, zbn, lookupOp, keyT, okRes, mapUpdateOp, zbo, zbp, zbq, zbr, zbs, zbt, zbu, Nat.reduceSub, Nat.reduceAdd, Int.reduceLT, Int.reduceLE, Int.reduceAdd, Int.reduceSub, Int.reduceToNat, Int.reduceBEq, Int.reduceBNe, Int.reduceMul, Nat.reduceBEq, Nat.reduceBNe, Nat.reduceLT, Nat.reduceLeDiff, Nat.reduceMul, Nat.reduceEqDiff, WD, effB, effH, isPriv, isHeap, isImm, zbx, zby, zbz, chkO, setD, dslot, zca, zcb, zcc, zcd, ptrCells_some, F29, hb2, hx1.shutIn, hat.at1 hx1, hat.cells, byteV, e48, h48, findLabel, hp1, storeHeap, promote, heapSet, elemSet, hss]
    rw [eH, wpCall_eq hdg2]
    simp only [WW, partV, eqCells, eqLf, minV, maxV, ifcV, zaa, zab, zac, zad, zae, zaf, zag, zah, zai, ofConst, ofConst1, List.replicate, zaj, zak, loadOp, Go.Abs.loadCells, binV, zal, pickV, zam, zan, zao, zap, zaq, zar, zas, zat, zau, outR, resAll, resOne, zav, zaw, zax, zay, zaz, zba, zbb, zbc, zbd, zbe, zbf, zbg, zbh, zbi, zbj, zbk, storeOp, storeCell, overlay, zbl, zbm, zbn, lookupOp, keyT, okRes, mapUpdateOp, zbo, zbp, zbq, zbr, zbs, zbt, zbu, Nat.reduceSub, Nat.reduceAdd, Int.reduceLT, Int.reduceLE, Int.reduceAdd, Int.reduceSub, Int.reduceToNat, Int.reduceBEq, Int.reduceBNe, Int.reduceMul, Nat.reduceBEq, Nat.reduceBNe, Nat.reduceLT, Nat.reduceLeDiff, Nat.reduceMul, Nat.reduceEqDiff, WD, effB, effH, isPriv, isHeap, isImm, zbx, zby, zbz, chkO, setD, dslot, zca, zcb, zcc, zcd, ptrCells_some, F29, findLabel]
    refine num_loop3 (r := r) (x := x) (B := B) (a0 := a + 1) (low := low) (high := high) (fr := a) (sg := 1) h2 hB ?_ rfl rfl ?_
    · simp only [WN, firstReg, growAll, zbv, zbw, norm, killS, zag, zah, zaa, zab, zbl, zat, zad, growOne, zae, zaf, zac, zas, zak, Nat.reduceLT, Nat.reduceAdd, zbj, zav, F29, L29_13]
      try rfl
    simp only [X29, L29_13]
    simp only [WW, partV, eqCells, eqLf, minV, maxV, ifcV, zaa, zab, zac, zad, zae, zaf, zag, zah, zai, ofConst, ofConst1, List.replicate, zaj, zak, loadOp, Go.Abs.loadCells, binV, zal, pickV, zam, zan, zao, zap, zaq, zar, zas, zat, zau, outR, resAll, resOne, zav, zaw, zax, zay, zaz, zba, zbb, zbc, zbd, zbe, zbf, zbg, zbh, zbi, zbj, zbk, storeOp, storeCell, overlay, zbl, zbm, zbn, lookupOp, keyT, okRes, mapUpdateOp, zbo, zbp, zbq, zbr, zbs, zbt, zbu, Nat.reduceSub, Nat.reduceAdd, Int.reduceLT, Int.reduceLE, Int.reduceAdd, Int.reduceSub, Int.reduceToNat, Int.reduceBEq, Int.reduceBNe, Int.reduceMul, Nat.reduceBEq, Nat.reduceBNe, Nat.reduceLT, Nat.reduceLeDiff, Nat.reduceMul, Nat.reduceEqDiff, WD, effB, effH, isPriv, isHeap, isImm, zbx, zby, zbz, chkO, setD, dslot, zca, zcb, zcc, zcd, ptrCells_some, F29, g1, findLabel]
    rw [wpCall_eq (fail_eq h5.blk h5.txt.rd.cells1 9 a)]
    simp only [WW, partV, eqCells, eqLf, minV, maxV, ifcV, zaa, zab, zac, zad, zae, zaf, zag, zah, zai, ofConst, ofConst1, List.replicate, zaj, zak, loadOp, Go.Abs.loadCells, binV, zal, pickV, zam, zan, zao, zap, zaq, zar, zas, zat, zau, outR, resAll, resOne, zav, zaw, zax, zay, zaz, zba, zbb, zbc, zbd, zbe, zbf, zbg, zbh, zbi, zbj, zbk, storeOp, storeCell, overlay, zbl, zbm, zbn, lookupOp, keyT, okRes, mapUpdateOp, zbo, zbp, zbq, zbr, zbs, zbt, zbu, Nat.reduceSub, Nat.reduceAdd, Int.reduceLT, Int.reduceLE, Int.reduceAdd, Int.reduceSub, Int.reduceToNat, Int.reduceBEq, Int.reduceBNe, Int.reduceMul, Nat.reduceBEq, Nat.reduceBNe, Nat.reduceLT, Nat.reduceLeDiff, Nat.reduceMul, Nat.reduceEqDiff, WD, effB, effH, isPriv, isHeap, isImm, zbx, zby, zbz, chkO, setD, dslot, zca, zcb, zcc, zcd, ptrCells_some, F29, findLabel]
    try simp [failM, List.set_set]
  · refine bSplit (b := decide (low ≤ 1 * (qn B (a + 1))) && decide (1 * (qn B (a + 1)) ≤ high)) (fun g2 => ?_) (fun g2 => ?_)
    · have e9 : endM low high a 1 (qa B (a + 1), qn B (a + 1)) = (0, (a, 9)) := by unfold endM; rw [if_pos (.inr (fun q => by rw [decide_eq_true q.1, decide_eq_true q.2] at g2; cases g2))]
      have eb := between_eq (1 * (qn B (a + 1))) low high (((H).set r (rb x (a + 1, 0))).set r (rb x (qa B (a + 1), 0)))
      rw [g2] at eb
      rw [e9]
      rw [hd]
      simp only [WW, partV, eqCells, eqLf, minV, maxV, ifcV, zaa, zab, zac, zad, zae, zaf, zag, zah, zai, ofConst, ofConst1, List.replicate, zaj, zak, loadOp, Go.Abs.loadCells, binV, zal, pickV, zam, zan, zao, zap, zaq, zar, zas, zat, zau, outR, resAll, resOne, zav, zaw, zax, zay, zaz, zba, zbb, zbc, zbd, zbe, zbf, zbg, zbh, zbi, zbj, zbk, storeOp, storeCell, overlay, zbl, zbm, zbn, lookupOp, keyT, okRes, mapUpdateOp, zbo, zbp, zbq, zbr, zbs, zbt, zbu, Nat.reduceSub, Nat.reduceAdd, Int.reduceLT, Int.reduceLE, Int.reduceAdd, Int.reduceSub, Int.reduceToNat, Int.reduceBEq, Int.reduceBNe, Int.reduceMul, Nat.reduceBEq, Nat.reduceBNe, Nat.reduceLT, Nat.reduceLeDiff, Nat.reduceMul, Nat.reduceEqDiff, WD, effB, effH, isPriv, isHeap, isImm, zbx, zby, zbz, chkO, setD, dslot, zca, zcb, zcc, zcd, ptrCells_some, F29, hb2, hx1.shutIn, hat.at1 hx1, hat.cells, byteV, e48, h48, findLabel]
      refine wC_dr [] (by kernel_rfl) ?_
      simp only [WW, partV, eqCells, eqLf, minV, maxV, ifcV, zaa, zab, zac, zad, zae, zaf, zag, zah, zai, ofConst, ofConst1, List.replicate, zaj, zak, loadOp, Go.Abs.loadCells, binV, zal, pickV, zam, zan, zao, zap, zaq, zar, zas, zat, zau, outR, resAll, resOne, zav, zaw, zax, zay, zaz, zba, zbb, zbc, zbd, zbe, zbf, zbg, zbh, zbi, zbj, zbk, storeOp, storeCell, overlay, zbl, zbm, zbn, lookupOp, keyT, okRes, mapUpdateOp, zbo, zbp, zbq, zbr, zbs, zbt, zbu, Nat.reduceSub, Nat.reduceAdd, Int.reduceLT, Int.reduceLE, Int.reduceAdd, Int.reduceSub, Int.reduceToNat, Int.reduceBEq, Int.reduceBNe, Int.reduceMul, Nat.reduceBEq, Nat.reduceBNe, Nat.reduceLT, Nat.reduceLeDiff, Nat.reduceMul, Nat.reduceEqDiff, WD, effB, effH, isPriv, isHeap, isImm, zbx, zby, zbz, chkO, setD, dslot, zca, zcb, zcc, zcd, ptrCells_some, F29, hb2, hx1.shutIn, hat.at1 hx1, hat.cells, byteV, e48, h48, findLabel, hp1, storeHeap, promote, heapSet, elemSet, hss]
      rw [eH, wpCall_eq hdg2]
      simp only [WW, partV, eqCells, eqLf, minV, maxV, ifcV, zaa, zab, zac, zad, zae, zaf, zag, zah, zai, ofConst, ofConst1, List.replicate, zaj, zak, loadOp, Go.Abs.loadCells, binV, zal, pickV, zam, zan, zao, zap, zaq, zar, zas, zat, zau, outR, resAll, resOne, zav, zaw, zax, zay, zaz, zba, zbb, zbc, zbd, zbe, zbf, zbg, zbh, zbi, zbj, zbk, storeOp, storeCell, overlay, zbl, zbm, zbn, lookupOp, keyT, okRes, mapUpdateOp, zbo, zbp, zbq, zbr, zbs, zbt, zbu, Nat.reduceSub, Nat.reduceAdd, Int.reduceLT, Int.reduceLE, Int.reduceAdd, Int.reduceSub, Int.reduceToNat, Int.reduceBEq, Int.reduceBNe, Int.reduceMul, Nat.reduceBEq, Nat.reduceBNe, Nat.reduceLT, Nat.reduceLeDiff, Nat.reduceMul, Nat.reduceEqDiff, WD, effB, effH, isPriv, isHeap, isImm, zbx, zby, zbz, chkO, setD, dslot, zca, zcb, zcc, zcd, ptrCells_some, F29, findLabel]
      refine num_loop3 (r := r) (x := x) (B := B) (a0 := a + 1) (low := low) (high := high) (fr := a) (sg := 1) h2 hB ?_ rfl rfl ?_
      · simp only [WN, firstReg, growAll, zbv, zbw, norm, killS, zag, zah, zaa, zab, zbl, zat, zad, growOne, zae, zaf, zac, zas, zak, Nat.reduceLT, Nat.reduceAdd, zbj, zav, F29, L29_13]
        try rfl
      simp only [X29, L29_13]
      simp only [WW, partV, eqCells, eqLf, minV, maxV, ifcV, zaa, zab, zac, zad, zae, zaf, zag, zah, zai, ofConst, ofConst1, List.replicate, zaj, zak, loadOp, Go.Abs.loadCells, binV, zal, pickV, zam, zan, zao, zap, zaq, zar, zas, zat, zau, outR, resAll, resOne, zav, zaw, zax, zay, zaz, zba, zbb, zbc, zbd, zbe, zbf, zbg, zbh, zbi, zbj, zbk, storeOp, storeCell, overlay, zbl, zbm, zbn, lookupOp, keyT, okRes, mapUpdateOp, zbo, zbp, zbq, zbr, zbs, zbt, zbu, Nat.reduceSub, Nat.reduceAdd, Int.reduceLT, Int.reduceLE, Int.reduceAdd, Int.reduceSub, Int.reduceToNat, Int.reduceBEq, Int.reduceBNe, Int.reduceMul, Nat.reduceBEq, Nat.reduceBNe, Nat.reduceLT, Nat.reduceLeDiff, Nat.reduceMul, Nat.reduceEqDiff, WD, effB, effH, isPriv, isHeap, isImm, zbx, zby, zbz, chkO, setD, dslot, zca, zcb, zcc, zcd, ptrCells_some, F29, g1, hw, findLabel]
      rw [wpCall_eq eb]
      simp only [WW, partV, eqCells, eqLf, minV, maxV, ifcV, zaa, zab, zac, zad, zae, zaf, zag, zah, zai, ofConst, ofConst1, List.replicate, zaj, zak, loadOp, Go.Abs.loadCells, binV, zal, pickV, zam, zan, zao, zap, zaq, zar, zas, zat, zau, outR, resAll, resOne, zav, zaw, zax, zay, zaz, zba, zbb, zbc, zbd, zbe, zbf, zbg, zbh, zbi, zbj, zbk, storeOp, storeCell, overlay, zbl, zbm, zbn, lookupOp, keyT, okRes, mapUpdateOp, zbo, zbp, zbq, zbr, zbs, zbt, zbu, Nat.reduceSub, Nat.reduceAdd, Int.reduceLT, Int.reduceLE, Int.reduceAdd, Int.reduceSub, Int.reduceToNat, Int.reduceBEq, Int.reduceBNe, Int.reduceMul, Nat.reduceBEq, Nat.reduceBNe, Nat.reduceLT, Nat.reduceLeDiff, Nat.reduceMul, Nat.reduceEqDiff, WD, effB, effH, isPriv, isHeap, isImm, zbx, zby, zbz, chkO, setD, dslot, zca, zcb, zcc, zcd, ptrCells_some, F29, findLabel]
      rw [wpCall_eq (fail_eq h5.blk h5.txt.rd.cells1 9 a)]
      simp only [WW, partV, eqCells, eqLf, minV, maxV, ifcV, zaa, zab, zac, zad, zae, zaf, zag, zah, zai, ofConst, ofConst1, List.replicate, zaj, zak, loadOp, Go.Abs.loadCells, binV, zal, pickV, zam, zan, zao, zap, zaq, zar, zas, zat, zau, outR, resAll, resOne, zav, zaw, zax, zay, zaz, zba, zbb, zbc, zbd, zbe, zbf, zbg, zbh, zbi, zbj, zbk, storeOp, storeCell, overlay, zbl, zbm, zbn, lookupOp, keyT, okRes, mapUpdateOp, zbo, zbp, zbq, zbr, zbs, zbt, zbu, Nat.reduceSub, Nat.reduceAdd, Int.reduceLT, Int.reduceLE, Int.reduceAdd, Int.reduceSub, Int.reduceToNat, Int.reduceBEq, Int.reduceBNe, Int.reduceMul, Nat.reduceBEq, Nat.reduceBNe, Nat.reduceLT, Nat.reduceLeDiff, Nat.reduceMul, Nat.reduceEqDiff, WD, effB, effH, isPriv, isHeap, isImm, zbx, zby, zbz, chkO, setD, dslot, zca, zcb, zcc, zcd, ptrCells_some, F29, findLabel]
      try simp [failM, List.set_set]
    · have e9 : endM low high a 1 (qa B (a + 1), qn B (a + 1)) = (1 * (qn B (a + 1)), (qa B (a + 1), 0)) := by unfold endM; rw [if_neg]; rintro (q | q); exact (of_decide_eq_false g1) q; simp only [Bool.and_eq_true, decide_eq_true_eq] at g2; exact q g2
      have eb := between_eq (1 * (qn B (a + 1))) low high (((H).set r (rb x (a + 1, 0))).set r (rb x (qa B (a + 1), 0)))
      rw [g2] at eb
      rw [e9]
      rw [hd]
      simp only [WW, partV, eqCells, eqLf, minV, maxV, ifcV, zaa, zab, zac, zad, zae, zaf, zag, zah, zai, ofConst, ofConst1, List.replicate, zaj, zak, loadOp, Go.Abs.loadCells, binV, zal, pickV, zam, zan, zao, zap, zaq, zar, zas, zat, zau, outR, resAll, resOne, zav, zaw, zax, zay, zaz, zba, zbb, zbc, zbd, zbe, zbf, zbg, zbh, zbi, zbj, zbk, storeOp, storeCell, overlay, zbl, zbm, zbn, lookupOp, keyT, okRes, mapUpdateOp, zbo, zbp, zbq, zbr, zbs, zbt, zbu, Nat.reduceSub, Nat.reduceAdd, Int.reduceLT, Int.reduceLE, Int.reduceAdd, Int.reduceSub, Int.reduceToNat, Int.reduceBEq, Int.reduceBNe, Int.reduceMul, Nat.reduceBEq, Nat.reduceBNe, Nat.reduceLT, Nat.reduceLeDiff, Nat.reduceMul, Nat.reduceEqDiff, WD, effB, effH, isPriv, isHeap, isImm, zbx, zby, zbz, chkO, setD, dslot, zca, zcb, zcc, zcd, ptrCells_some, F29, hb2, hx1.shutIn, hat.at1 hx1, hat.cells, byteV, e48, h48, findLabel]
      refine wC_dr [] (by kernel_rfl) ?_
      simp only [WW, partV, eqCells, eqLf, minV, maxV, ifcV, zaa, zab, zac, zad, zae, zaf, zag, zah, zai, ofConst, ofConst1, List.replicate, zaj, zak, loadOp, Go.Abs.loadCells, binV, zal, pickV, zam, zan, zao, zap, zaq, zar, zas, zat, zau, outR, resAll, resOne, zav, zaw, zax, zay, zaz, zba, zbb, zbc, zbd, zbe, zbf, zbg, zbh, zbi, zbj, zbk, storeOp, storeCell, overlay, zbl, zbm, zbn, lookupOp, keyT, okRes, mapUpdateOp, zbo, zbp, zbq, zbr, zbs, zbt, zbu, Nat.reduceSub, Nat.reduceAdd, Int.reduceLT, Int.reduceLE, Int.reduceAdd, Int.reduceSub, Int.reduceToNat, Int.reduceBEq, Int.reduceBNe, Int.reduceMul, Nat.reduceBEq, Nat.reduceBNe, Nat.reduceLT, Nat.reduceLeDiff, Nat.reduceMul, Nat.reduceEqDiff, WD, effB, effH, isPriv, isHeap, isImm, zbx, zby, zbz, chkO, setD, dslot, zca, zcb, zcc, zcd, ptrCells_some, F29, hb2, hx1.shutIn, hat.at1 hx1, hat.cells, byteV, e48, h48, findLabel, hp1, storeHeap, promote, heapSet, elemSet, hss]
      rw [eH, wpCall_eq hdg2]
      simp only [WW, partV, eqCells, eqLf, minV, maxV, ifcV, zaa, zab, zac, zad, zae, zaf, zag, zah, zai, ofConst, ofConst1, List.replicate, zaj, zak, loadOp, Go.Abs.loadCells, binV, zal, pickV, zam, zan, zao, zap, zaq, zar, zas, zat, zau, outR, resAll, resOne, zav, zaw, zax, zay, zaz, zba, zbb, zbc, zbd, zbe, zbf, zbg, zbh, zbi, zbj, zbk, storeOp, storeCell, overlay, zbl, zbm, zbn, lookupOp, keyT, okRes, mapUpdateOp, zbo, zbp, zbq, zbr, zbs, zbt, zbu, Nat.reduceSub, Nat.reduceAdd, Int.reduceLT, Int.reduceLE, Int.reduceAdd, Int.reduceSub, Int.reduceToNat, Int.reduceBEq, Int.reduceBNe, Int.reduceMul, Nat.reduceBEq, Nat.reduceBNe, Nat.reduceLT, Nat.reduceLeDiff, Nat.reduceMul, Nat.reduceEqDiff, WD, effB, effH, isPriv, isHeap, isImm, zbx, zby, zbz, chkO, setD, dslot, zca, zcb, zcc, zcd, ptrCells_some, F29, findLabel]
      refine num_loop3 (r := r) (x := x) (B := B) (a0 := a + 1) (low := low) (high := high) (fr := a) (sg := 1) h2 hB ?_ rfl rfl ?_
      · simp only [WN, firstReg, growAll, zbv, zbw, norm, killS, zag, zah, zaa, zab, zbl, zat, zad, growOne, zae, zaf, zac, zas, zak, Nat.reduceLT, Nat.reduceAdd, zbj, zav, F29, L29_13]
        try rfl
      simp only [X29, L29_13]
      simp only [WW, partV, eqCells, eqLf, minV, maxV, ifcV, zaa, zab, zac, zad, zae, zaf, zag, zah, zai, ofConst, ofConst1, List.replicate, zaj, zak, loadOp, Go.Abs.loadCells, binV, zal, pickV, zam, zan, zao, zap, zaq, zar, zas, zat, zau, outR, resAll, resOne, zav, zaw, zax, zay, zaz, zba, zbb, zbc, zbd, zbe, zbf, zbg, zbh, zbi, zbj, zbk, storeOp, storeCell, overlay, zbl, zbm, zbn, lookupOp, keyT, okRes, mapUpdateOp, zbo, zbp, zbq, zbr, zbs, zbt, zbu, Nat.reduceSub, Nat.reduceAdd, Int.reduceLT, Int.reduceLE, Int.reduceAdd, Int.reduceSub, Int.reduceToNat, Int.reduceBEq, Int.reduceBNe, Int.reduceMul, Nat.reduceBEq, Nat.reduceBNe, Nat.reduceLT, Nat.reduceLeDiff, Nat.reduceMul, Nat.reduceEqDiff, WD, effB, effH, isPriv, isHeap, isImm, zbx, zby, zbz, chkO, setD, dslot, zca, zcb, zcc, zcd, ptrCells_some, F29, g1, hw, findLabel]
      rw [wpCall_eq eb]
      simp only [WW, partV, eqCells, eqLf, minV, maxV, ifcV, zaa, zab, zac, zad, zae, zaf, zag, zah, zai, ofConst, ofConst1, List.replicate, zaj, zak, loadOp, Go.Abs.loadCells, binV, zal, pickV, zam, zan, zao, zap, zaq, zar, zas, zat, zau, outR, resAll, resOne, zav, zaw, zax, zay, zaz, zba, zbb, zbc, zbd, zbe, zbf, zbg, zbh, zbi, zbj, zbk, storeOp, storeCell, overlay, zbl, zbm, zbn, lookupOp, keyT, okRes, mapUpdateOp, zbo, zbp, zbq, zbr, zbs, zbt, zbu, Nat.reduceSub, Nat.reduceAdd, Int.reduceLT, Int.reduceLE, Int.reduceAdd, Int.reduceSub, Int.reduceToNat, Int.reduceBEq, Int.reduceBNe, Int.reduceMul, Nat.reduceBEq, Nat.reduceBNe, Nat.reduceLT, Nat.reduceLeDiff, Nat.reduceMul, Nat.reduceEqDiff, WD, effB, effH, isPriv, isHeap, isImm, zbx, zby, zbz, chkO, setD, dslot, zca, zcb, zcc, zcd, ptrCells_some, F29, hw, findLabel]
      try simp [failM, List.set_set]
theorem num_P4 {H : Hp} {r : Nat} {x : V} {B : List UInt8} {a : Nat} (h : RS H r x B (a, 0)) (low high : Int) (hB : B.length < 4294967296) (hl : -2305843009213693952 ≤ low) (hh : high ≤ 2305843009213693952) (hlow : low < 0) {c0 : UInt8} (hBa : B[a]? = some c0) (h45 : (c0 == 45) = true) :
    EW 29 [.ptr r 0 0, .int .i64 low, .int .i64 high] H = some (.ret (.int .i64 (signM B low high a true (a + 1)).1) false, H.set r (rb x (signM B low high a true (a + 1)).2)) := by
  have hb1 : H[r]? = some (.cells [.agg [x, .int .i64 (a : Int), .int .i64 0]]) := h.blk
  have hlt := (List.getElem?_eq_some_iff.1 hb1).1
  have hx := h.txt.rd
  have gl : decide (low < 0) = true := decide_eq_true hlow
  have hlta := (List.getElem?_eq_some_iff.1 hBa).1
  have hg : decide ((a : Int) < (B.length : Int)) = true := decide_eq_true (by omega)
  have hc08 : (by8 B)[a]? = some (byteV c0) := by unfold by8; rw [List.getElem?_map, hBa]; rfl
  have hat0 := hx.at_ (sz := 1) hc08 rfl
  have e45 : (((c0.toNat : Nat) : Int) == 45) = (c0 == 45) := u8eq45 c0
  have hs : ∀ b : Blk, (H.set r b)[r]? = some b := fun b => List.getElem?_set_self hlt
  have hp0 : IntKind.i64.wrap ((a : Int) + 1) = ((a + 1 : Nat) : Int) := by rw [IntWalk.i64_in _ (by omega)]; omega
  have h1 : RS (H.set r (rb x (a + 1, 0))) r x B (a + 1, 0) := h.to (s' := (a + 1, 0)) (some_lt hBa)
  have eH0 : H.set r (.cells [.agg [x, .int .i64 ((a + 1 : Nat) : Int), .int .i64 0]]) = H.set r (rb x (a + 1, 0)) := rfl
  refine eqOf2 (runs f29 b29 r29 n29 _ _ ?_)
  simp only [bodyOf, Try.f29, Option.getD_some]
  simp only [WW, partV, eqCells, eqLf, minV, maxV, ifcV, zaa, zab, zac, zad, zae, zaf, zag, zah, zai, ofConst, ofConst1, List.replicate, zaj, zak, loadOp, Go.Abs.loadCells, binV, zal, pickV, zam, zan, zao, zap, zaq, zar, zas, zat, zau, outR, resAll, resOne, zav, zaw, zax, zay, zaz, zba, zbb, zbc, zbd, zbe, zbf, zbg, zbh, zbi, zbj, zbk, storeOp, storeCell, overlay, zbl, zbm, zbn, lookupOp, keyT, okRes, mapUpdateOp, zbo, zbp, zbq, zbr, zbs, zbt, zbu, Nat.reduceSub, Nat.reduceAdd, Int.reduceLT, Int.reduceLE, Int.reduceAdd, Int.reduceSub, Int.reduceToNat, Int.reduceBEq, Int.reduceBNe, Int.reduceMul, Nat.reduceBEq, Nat.reduceBNe, Nat.reduceLT, Nat.reduceLeDiff, Nat.reduceMul, Nat.reduceEqDiff, WD, effB, effH, isPriv, isHeap, isImm, zbx, zby, zbz, chkO, setD, dslot, zca, zcb, zcc, zcd, ptrCells_some, F29, hb1, findLabel]
  refine wC_dr [] (by kernel_rfl) ?_
  simp only [WW, partV, eqCells, eqLf, minV, maxV, ifcV, zaa, zab, zac, zad, zae, zaf, zag, zah, zai, ofConst, ofConst1, List.replicate, zaj, zak, loadOp, Go.Abs.loadCells, binV, zal, pickV, zam, zan, zao, zap, zaq, zar, zas, zat, zau, outR, resAll, resOne, zav, zaw, zax, zay, zaz, zba, zbb, zbc, zbd, zbe, zbf, zbg, zbh, zbi, zbj, zbk, storeOp, storeCell, overlay, zbl, zbm, zbn, lookupOp, keyT, okRes, mapUpdateOp, zbo, zbp, zbq, zbr, zbs, zbt, zbu, Nat.reduceSub, Nat.reduceAdd, Int.reduceLT, Int.reduceLE, Int.reduceAdd, Int.reduceSub, Int.reduceToNat, Int.reduceBEq, Int.reduceBNe, Int.reduceMul, Nat.reduceBEq, Nat.reduceBNe, Nat.reduceLT, Nat.reduceLeDiff, Nat.reduceMul, Nat.reduceEqDiff, WD, effB, effH, isPriv, isHeap, isImm, zbx, zby, zbz, chkO, setD, dslot, zca, zcb, zcc, zcd, ptrCells_some, F29, hb1, gl, hx.shutIn, hx.len, by8_len, hg, hat0.at1 hx, hat0.cells, byteV, e45, h45, hp0, storeHeap, promote, heapSet, elemSet, hs, findLabel]
  rw [eH0]
  have hx1 := h1.txt.rd
  have hb2 : (H.set r (rb x (a + 1, 0)))[r]? = some (.cells [.agg [x, .int .i64 ((a + 1 : Nat) : Int), .int .i64 0]]) := h1.blk
  have hlt1 := (List.getElem?_eq_some_iff.1 hb2).1
  refine wC_dr [] (by kernel_rfl) ?_
  simp only [WW, partV, eqCells, eqLf, minV, maxV, ifcV, zaa, zab, zac, zad, zae, zaf, zag, zah, zai, ofConst, ofConst1, List.replicate, zaj, zak, loadOp, Go.Abs.loadCells, binV, zal, pickV, zam, zan, zao, zap, zaq, zar, zas, zat, zau, outR, resAll, resOne, zav, zaw, zax, zay, zaz, zba, zbb, zbc, zbd, zbe, zbf, zbg, zbh, zbi, zbj, zbk, storeOp, storeCell, overlay, zbl, zbm, zbn, lookupOp, keyT, okRes, mapUpdateOp, zbo, zbp, zbq, zbr, zbs, zbt, zbu, Nat.reduceSub, Nat.reduceAdd, Int.reduceLT, Int.reduceLE, Int.reduceAdd, Int.reduceSub, Int.reduceToNat, Int.reduceBEq, Int.reduceBNe, Int.reduceMul, Nat.reduceBEq, Nat.reduceBNe, Nat.reduceLT, Nat.reduceLeDiff, Nat.reduceMul, Nat.reduceEqDiff, WD, effB, effH, isPriv, isHeap, isImm, zbx, zby, zbz, chkO, setD, dslot, zca, zcb, zcc, zcd, ptrCells_some, F29, findLabel]
  rw [wpCall_eq (show EW 33 [.ptr r 0 0] (H.set r (rb x (a + 1, 0))) = some (.ret (.bool (dig B (a + 1))) false, H.set r (rb x (a + 1, 0))) from digit_eq h1)]
  refine bSplit (b := dig B (a + 1)) (fun hd => ?_) (fun hd => ?_)
  · have e : signM B low high a true (a + 1) = (0, (a + 1, 6)) := by unfold signM; rw [if_pos hd]
    rw [e, hd]
    simp only [WW, partV, eqCells, eqLf, minV, maxV, ifcV, zaa, zab, zac, zad, zae, zaf, zag, zah, zai, ofConst, ofConst1, List.replicate, zaj, zak, loadOp, Go.Abs.loadCells, binV, zal, pickV, zam, zan, zao, zap, zaq, zar, zas, zat, zau, outR, resAll, resOne, zav, zaw, zax, zay, zaz, zba, zbb, zbc, zbd, zbe, zbf, zbg, zbh, zbi, zbj, zbk, storeOp, storeCell, overlay, zbl, zbm, zbn, lookupOp, keyT, okRes, mapUpdateOp, zbo, zbp, zbq, zbr, zbs, zbt, zbu, Nat.reduceSub, Nat.reduceAdd, Int.reduceLT, Int.reduceLE, Int.reduceAdd, Int.reduceSub, Int.reduceToNat, Int.reduceBEq, Int.reduceBNe, Int.reduceMul, Nat.reduceBEq, Nat.reduceBNe, Nat.reduceLT, Nat.reduceLeDiff, Nat.reduceMul, Nat.reduceEqDiff, WD, effB, effH, isPriv, isHeap, isImm, zbx, zby, zbz, chkO, setD, dslot, zca, zcb, zcc, zcd, ptrCells_some, F29, hb2, findLabel]
    rw [wpCall_eq (fail_eq h1.blk h1.txt.rd.cells1 6 (a + 1))]
    simp only [WW, partV, eqCells, eqLf, minV, maxV, ifcV, zaa, zab, zac, zad, zae, zaf, zag, zah, zai, ofConst, ofConst1, List.replicate, zaj, zak, loadOp, Go.Abs.loadCells, binV, zal, pickV, zam, zan, zao, zap, zaq, zar, zas, zat, zau, outR, resAll, resOne, zav, zaw, zax, zay, zaz, zba, zbb, zbc, zbd, zbe, zbf, zbg, zbh, zbi, zbj, zbk, storeOp, storeCell, overlay, zbl, zbm, zbn, lookupOp, keyT, okRes, mapUpdateOp, zbo, zbp, zbq, zbr, zbs, zbt, zbu, Nat.reduceSub, Nat.reduceAdd, Int.reduceLT, Int.reduceLE, Int.reduceAdd, Int.reduceSub, Int.reduceToNat, Int.reduceBEq, Int.reduceBNe, Int.reduceMul, Nat.reduceBEq, Nat.reduceBNe, Nat.reduceLT, Nat.reduceLeDiff, Nat.reduceMul, Nat.reduceEqDiff, WD, effB, effH, isPriv, isHeap, isImm, zbx, zby, zbz, chkO, setD, dslot, zca, zcb, zcc, zcd, ptrCells_some, F29, findLabel]
    try simp [failM, List.set_set]
  have hc := some_dig2 hd
  have hc8 : (by8 B)[a + 1]? = some (byteV (B.getD (a + 1) 0)) := by unfold by8; rw [List.getElem?_map, hc]; rfl
  have hat := hx1.at_ (sz := 1) hc8 rfl
  have e48 : ((((B.getD (a + 1) 0).toNat : Nat) : Int) == 48) = ((B.getD (a + 1) 0) == 48) := u8eq48 _
  refine bSplit (b := ((B.getD (a + 1) 0) == 48)) (fun h48 => ?_) (fun h48 => ?_)
  · have hc0 : ¬ B[a + 1]? = some 48 := by rw [hc]; intro q; have q := Option.some.inj q; rw [q] at h48; simp at h48
    have eS : signM B low high a true (a + 1) = endM low high a (-1) (qa B (a + 1), qn B (a + 1)) := by unfold signM; rw [if_neg (by rw [hd]; simp), if_neg (fun q => hc0 q.2)]; unfold digsM; rw [if_neg hc0]; rfl
    rw [eS]
    have bn := qn_bnd B (a + 1)
    have h5 := h1.to (s' := (qa B (a + 1), 0)) (qa_le h1.le)
    have hw : IntKind.i64.wrap ((-1) * (qn B (a + 1))) = (-1) * (qn B (a + 1)) := IntWalk.i64_in _ (by omega)
    refine bSplit (b := decide ((2305843009213693952 : Int) < (qn B (a + 1)))) (fun g1 => ?_) (fun g1 => ?_)
    rotate_left
    · have e9 : endM low high a (-1) (qa B (a + 1), qn B (a + 1)) = (0, (a, 9)) := by unfold endM; rw [if_pos (.inl (of_decide_eq_true g1))]
      rw [e9]
      rw [hd]
      simp only [WW, partV, eqCells, eqLf, minV, maxV, ifcV, zaa, zab, zac, zad, zae, zaf, zag, zah, zai, ofConst, ofConst1, List.replicate, zaj, zak, loadOp, Go.Abs.loadCells, binV, zal, pickV, zam, zan, zao, zap, zaq, zar, zas, zat, zau, outR, resAll, resOne, zav, zaw, zax, zay, zaz, zba, zbb, zbc, zbd, zbe, zbf, zbg, zbh, zbi, zbj, zbk, storeOp, storeCell, overlay, zbl, zbm, zbn, lookupOp, keyT, okRes, mapUpdateOp, zbo, zbp, zbq, zbr, zbs, zbt, zbu, Nat.reduceSub, Nat.reduceAdd, Int.reduceLT, Int.reduceLE, Int.reduceAdd, Int.reduceSub, Int.reduceToNat, Int.reduceBEq, Int.reduceBNe, Int.reduceMul, Nat.reduceBEq, Nat.reduceBNe, Nat.reduceLT, Nat.reduceLeDiff, Nat.reduceMul, Nat.reduceEqDiff, WD, effB, effH, isPriv, isHeap, isImm, zbx, zby, zbz, chkO, setD, dslot, zca, zcb, zcc, zcd, ptrCells_some, F29, hb2, hx1.shutIn, hat.at1 hx1, hat.cells, byteV, e48, h48, findLabel]
      refine wC_dr [] (by kernel_rfl) ?_
      simp only [WW, partV, eqCells, eqLf, minV, maxV, ifcV, zaa, zab, zac, zad, zae, zaf, zag, zah, zai, ofConst, ofConst1, List.replicate, zaj, zak, loadOp, Go.Abs.loadCells, binV, zal, pickV, zam, zan, zao, zap, zaq, zar, zas, zat, zau, outR, resAll, resOne, zav, zaw, zax, zay, zaz, zba, zbb, zbc, zbd, zbe, zbf, zbg, zbh, zbi, zbj, zbk, storeOp, storeCell, overlay, zbl, zbm, zbn, lookupOp, keyT, okRes, mapUpdateOp, zbo, zbp, zbq, zbr, zbs, zbt, zbu, Nat.reduceSub, Nat.reduceAdd, Int.reduceLT, Int.reduceLE, Int.reduceAdd, Int.reduceSub, Int.reduceToNat, Int.reduceBEq, Int.reduceBNe, Int.reduceMul, Nat.reduceBEq, Nat.reduceBNe, Nat.reduceLT, Nat.reduceLeDiff, Nat.reduceMul, Nat.reduceEqDiff, WD, effB, effH, isPriv, isHeap, isImm, zbx, zby, zbz, chkO, setD, dslot, zca, zcb, zcc, zcd, ptrCells_some, F29, hb2, hx1.shutIn, hat.at1 hx1, hat.cells, byteV, e48, h48, findLabel]
      refine num_loop3 (r := r) (x := x) (B := B) (a0 := a + 1) (low := low) (high := high) (fr := a) (sg := (-1)) h1 hB ?_ rfl rfl ?_
      · simp only [WN, firstReg, growAll, zbv, zbw, norm, killS, zag, zah, zaa, zab, zbl, zat, zad, growOne, zae, zaf, zac, zas, zak, Nat.reduceLT, Nat.reduceAdd, zbj, zav, F29, L29_13]
        try rfl
      simp only [X29, L29_13]
      simp only [WW, partV, eqCells, eqLf, minV, maxV, ifcV, zaa, zab, zac, zad, zae, zaf, zag, zah, zai, ofConst, ofConst1, List.replicate, zaj, zak, loadOp, Go.Abs.loadCells, binV, zal, pickV, zam, zan, zao, zap, zaq, zar, zas, zat, zau, outR, resAll, resOne, zav, zaw, zax, zay, zaz, zba, zbb, zbc, zbd, zbe, zbf, zbg, zbh, zbi, zbj, zbk, storeOp, storeCell, overlay, zbl, zbm, zbn, lookupOp, keyT, okRes, mapUpdateOp, zbo, zbp, zbq, zbr, zbs, zbt, zbu, Nat.reduceSub, Nat.reduceAdd, Int.reduceLT, Int.reduceLE, Int.reduceAdd, Int.reduceSub, Int.reduceToNat, Int.reduceBEq, Int.reduceBNe, Int.reduceMul, Nat.reduceBEq, Nat.reduceBNe, Nat.reduceLT, Nat.reduceLeDiff, Nat.reduceMul, Nat.reduceEqDiff, WD, effB, effH, isPriv, isHeap, isImm, zbx, zby, zbz, chkO, setD, dslot, zca, zcb, zcc, zcd, ptrCells_some, F29, g1, findLabel]
      rw [wpCall_eq (fail_eq h5.blk h5.txt.rd.cells1 9 a)]
      simp only [WW, partV, eqCells, eqLf, minV, maxV, ifcV, zaa, zab, zac, zad, zae, zaf, zag, zah, zai, ofConst, ofConst1, List.replicate, zaj, zak, loadOp, Go.Abs.loadCells, binV, zal, pickV, zam, zan, zao, zap, zaq, zar, zas, zat, zau, outR, resAll, resOne, zav, zaw, zax, zay, zaz, zba, zbb, zbc, zbd, zbe, zbf, zbg, zbh, zbi, zbj, zbk, storeOp, storeCell, overlay, zbl, zbm, zbn, lookupOp, keyT, okRes, mapUpdateOp, zbo, zbp, zbq, zbr, zbs, zbt, zbu, Nat.reduceSub, Nat.reduceAdd, Int.reduceLT, Int.reduceLE, Int.reduceAdd, Int.reduceSub, Int.reduceToNat, Int.reduceBEq, Int.reduceBNe, Int.reduceMul, Nat.reduceBEq, Nat.reduceBNe, Nat.reduceLT, Nat.reduceLeDiff, Nat.reduceMul, Nat.reduceEqDiff, WD, effB, effH, isPriv, isHeap, isImm, zbx, zby, zbz, chkO, setD, dslot, zca, zcb, zcc, zcd, ptrCells_some, F29, findLabel]
      try simp [failM, List.set_set]
    · refine bSplit (b := decide (low ≤ (-1) * (qn B (a + 1))) && decide ((-1) * (qn B (a + 1)) ≤ high)) (fun g2 => ?_) (fun g2 => ?_)
      · have e9 : endM low high a (-1) (qa B (a + 1), qn B (a + 1)) = (0, (a, 9)) := by unfold endM; rw [if_pos (.inr (fun q => by rw [decide_eq_true q.1, decide_eq_true q.2] at g2; cases g2))]
        have eb := between_eq ((-1) * (qn B (a + 1))) low high ((H.set r (rb x (a + 1, 0))).set r (rb x (qa B (a + 1), 0)))
        rw [g2] at eb
        rw [e9]
        rw [hd]
        simp only [WW, partV, eqCells, eqLf, minV, maxV, ifcV, zaa, zab, zac, zad, zae, zaf, zag, zah, zai, ofConst, ofConst1, List.replicate, zaj, zak, loadOp, Go.Abs.loadCells, binV, zal, pickV, zam, zan, zao, zap, zaq, zar, zas, zat, zau, outR, resAll, resOne, zav, zaw, zax, zay, zaz, zba, zbb, zbc, zbd, zbe, zbf, zbg, zbh, zbi, zbj, zbk, storeOp, storeCell, overlay, zbl, zbm, zbn, lookupOp, keyT, okRes, mapUpdateOp, zbo, zbp, zbq, zbr, zbs, zbt, zbu, Nat.reduceSub, Nat.reduceAdd, Int.reduceLT, Int.reduceLE, Int.reduceAdd, Int.reduceSub, Int.reduceToNat, Int.reduceBEq, Int.reduceBNe, Int.reduceMul, Nat.reduceBEq, Nat.reduceBNe, Nat.reduceLT, Nat.reduceLeDiff, Nat.reduceMul, Nat.reduceEqDiff, WD, effB, effH, isPriv, isHeap, isImm, zbx, zby, zbz, chkO, setD, dslot, zca, zcb, zcc, zcd, ptrCells_some, F29, hb2, hx1.shutIn, hat.at1 hx1, hat.cells, byteV, e48, h48, findLabel]
        refine wC_dr [] (by kernel_rfl) ?_
        simp only [WW, partV, eqCells, eqLf, minV, maxV, ifcV, zaa, zab, zac, zad, zae, zaf, zag, zah, zai, ofConst, ofConst1, List.replicate, zaj, zak, loadOp, Go.Abs.loadCells, binV, zal, pickV, zam, zan, zao, zap, zaq, zar, zas, zat, zau, outR, resAll, resOne, zav, zaw, zax, zay, zaz, zba, zbb, zbc, zbd, zbe, zbf, zbg, zbh, zbi, zbj, zbk, storeOp, storeCell, overlay, zbl, zbm, zbn, lookupOp, keyT, okRes, mapUpdateOp, zbo, zbp, zbq, zbr, zbs, zbt, zbu, Nat.reduceSub, Nat.reduceAdd, Int.reduceLT, Int.reduceLE, Int.reduceAdd, Int.reduceSub, Int.reduceToNat, Int.reduceBEq, Int.reduceBNe, Int.reduceMul, Nat.reduceBEq, Nat.reduceBNe, Nat.reduceLT, Nat.reduceLeDiff, Nat.reduceMul, Nat.reduceEqDiff, WD, effB, effH, isPriv, isHeap, isImm, zbx, zby, zbz, chkO, setD, dslot, zca, zcb, zcc, zcd, ptrCells_some, F29, hb2, hx1.shutIn, hat.at1 hx1, hat.cells, byteV, e48, h48, findLabel]
        refine num_loop3 (r := r) (x := x) (B := B) (a0 := a + 1) (low := low) (high := high) (fr := a) (sg := (-1)) h1 hB ?_ rfl rfl ?_
        · simp only [WN, firstReg, growAll, zbv, zbw, norm, killS, zag, zah, zaa, zab, zbl, zat, zad, growOne, zae, zaf, zac, zas, zak, Nat.reduceLT, Nat.reduceAdd, zbj, zav, F29, L29_13]
          try rfl
        simp only [X29, L29_13]
        simp only [WW, partV, eqCells, eqLf, minV, maxV, ifcV, zaa, zab, zac, zad, zae, zaf, zag, zah, zai, ofConst, ofConst1, List.replicate, zaj, zak, loadOp, Go.Abs.loadCells, binV, zal, pickV, zam, zan, zao, zap, zaq, zar, zas, zat, zau, outR, resAll, resOne, zav, zaw, zax, zay, zaz, zba, zbb, zbc, zbd, zbe, zbf, zbg, zbh, zbi, zbj, zbk, storeOp, storeCell, overlay, zbl, zbm, zbn, lookupOp, keyT, okRes, mapUpdateOp, zbo, zbp, zbq, zbr, zbs, zbt, zbu, Nat.reduceSub, Nat.reduceAdd, Int.reduceLT, Int.reduceLE, Int.reduceAdd, Int.reduceSub, Int.reduceToNat, Int.reduceBEq, Int.reduceBNe, Int.reduceMul, Nat.reduceBEq, Nat.reduceBNe, Nat.reduceLT, Nat.reduceLeDiff, Nat.reduceMul, Nat.reduceEqDiff, WD, effB, effH, isPriv, isHeap, isImm, zbx, zby, zbz, chkO, setD, dslot, zca, zcb, zcc, zcd, ptrCells_some, F29, g1, hw, findLabel]
        rw [wpCall_eq eb]
        simp only [WW, partV, eqCells, eqLf, minV, maxV, ifcV, zaa, zab, zac, zad, zae, zaf, zag, zah, zai, ofConst, ofConst1, List.replicate, zaj, zak, loadOp, Go.Abs.loadCells, binV, zal, pickV, zam, zan, zao, zap, zaq, zar, zas, zat, zau, outR, resAll, resOne, zav, zaw, zax, zay, zaz, zba, zbb, zbc, zbd, zbe, zbf, zbg, zbh, zbi, zbj, zbk, storeOp, storeCell, overlay, zbl, zbm, zbn, lookupOp, keyT, okRes, mapUpdateOp, zbo, zbp, zbq, zbr, zbs, zbt, zbu, Nat.reduceSub, Nat.reduceAdd, Int.reduceLT, Int.reduceLE, Int.reduceAdd, Int.reduceSub, Int.reduceToNat, Int.reduceBEq, Int.reduceBNe, Int.reduceMul, Nat.reduceBEq, Nat.reduceBNe, Nat.reduceLT, Nat.reduceLeDiff, Nat.reduceMul, Nat.reduceEqDiff, WD, effB, effH, isPriv, isHeap, isImm, zbx, zby, zbz, chkO, setD, dslot, zca, zcb, zcc, zcd, ptrCells_some, F29, findLabel]
        rw [wpCall_eq (fail_eq h5.blk h5.txt.rd.cells1 9 a)]
        simp only [WW, partV, eqCells, eqLf, minV, maxV, ifcV, zaa, zab, zac, zad, zae, zaf, zag, zah, zai, ofConst, ofConst1, List.replicate, zaj, zak, loadOp, Go.Abs.loadCells, binV, zal, pickV, zam, zan, zao, zap, zaq, zar, zas, zat, zau, outR, resAll, resOne, zav, zaw, zax, zay, zaz, zba, zbb, zbc, zbd, zbe, zbf, zbg, zbh, zbi, zbj, zbk, storeOp, storeCell, overlay, zbl, zbm, zbn, lookupOp, keyT, okRes, mapUpdateOp, zbo, zbp, zbq, zbr, zbs, zbt, zbu, Nat.reduceSub, Nat.reduceAdd, Int.reduceLT, Int.reduceLE, Int.reduceAdd, Int.reduceSub, Int.reduceToNat, Int.reduceBEq, Int.reduceBNe, Int.reduceMul, Nat.reduceBEq, Nat.reduceBNe, Nat.reduceLT, Nat.reduceLeDiff, Nat.reduceMul, Nat.reduceEqDiff, WD, effB, effH, isPriv, isHeap, isImm, zbx, zby, zbz, chkO, setD, dslot, zca, zcb, zcc, zcd, ptrCells_some, F29, findLabel]
        try simp [failM, List.set_set]
      · have e9 : endM low high a (-1) (qa B (a + 1), qn B (a + 1)) = ((-1) * (qn B (a + 1)), (qa B (a + 1), 0)) := by unfold endM; rw [if_neg]; rintro (q | q); exact (of_decide_eq_false g1) q; simp only [Bool.and_eq_true, decide_eq_true_eq] at g2; exact q g2
        have eb := between_eq ((-1) * (qn B (a + 1))) low high ((H.set r (rb x (a + 1, 0))).set r (rb x (qa B (a + 1), 0)))
        rw [g2] at eb
        rw [e9]
        rw [hd]
        simp only [WW, partV, eqCells, eqLf, minV, maxV, ifcV, zaa, zab, zac, zad, zae, zaf, zag, zah, zai, ofConst, ofConst1, List.replicate, zaj, zak, loadOp, Go.Abs.loadCells, binV, zal, pickV, zam, zan, zao, zap, zaq, zar, zas, zat, zau, outR, resAll, resOne, zav, zaw, zax, zay, zaz, zba, zbb, zbc, zbd, zbe, zbf, zbg, zbh, zbi, zbj, zbk, storeOp, storeCell, overlay, zbl, zbm, zbn, lookupOp, keyT, okRes, mapUpdateOp, zbo, zbp, zbq, zbr, zbs, zbt, zbu, Nat.reduceSub, Nat.reduceAdd, Int.reduceLT, Int.reduceLE, Int.reduceAdd, Int.reduceSub, Int.reduceToNat, Int.reduceBEq, Int.reduceBNe, Int.reduceMul, Nat.reduceBEq, Nat.reduceBNe, Nat.reduceLT, Nat.reduceLeDiff, Nat.reduceMul, Nat.reduceEqDiff, WD, effB, effH, isPriv, isHeap, isImm, zbx, zby, zbz, chkO, setD, dslot, zca, zcb, zcc, zcd, ptrCells_some, F29, hb2, hx1.shutIn, hat.at1 hx1, hat.cells, byteV, e48, h48, findLabel]
        refine wC_dr [] (by kernel_rfl) ?_
        simp only [WW, partV, eqCells, eqLf, minV, maxV, ifcV, zaa, zab, zac, zad, zae, zaf, zag, zah, zai, ofConst, ofConst1, List.replicate, zaj, zak, loadOp, Go.Abs.loadCells, binV, zal, pickV, zam, zan, zao, zap, zaq, zar, zas, zat, zau, outR, resAll, resOne, zav, zaw, zax, zay, zaz, zba, zbb, zbc, zbd, zbe, zbf, zbg, zbh, zbi, zbj, zbk, storeOp, storeCell, overlay, zbl, zbm, zbn, lookupOp, keyT, okRes, mapUpdateOp, zbo, zbp, zbq, zbr, zbs, zbt, zbu, Nat.reduceSub, Nat.reduceAdd, Int.reduceLT, Int.reduceLE, Int.reduceAdd, Int.reduceSub, Int.reduceToNat, Int.reduceBEq, Int.reduceBNe, Int.reduceMul, Nat.reduceBEq, Nat.reduceBNe, Nat.reduceLT, Nat.reduceLeDiff, Nat.reduceMul, Nat.reduceEqDiff, WD, effB, effH, isPriv, isHeap, isImm, zbx, zby, zbz, chkO, setD, dslot, zca, zcb, zcc, zcd, ptrCells_some, F29, hb2, hx1.shutIn, hat.at1 hx1, hat.cells, byteV, e48, h48, findLabel]
        refine num_loop3 (r := r) (x := x) (B := B) (a0 := a + 1) (low := low) (high := high) (fr := a) (sg := (-1)) h1 hB ?_ rfl rfl ?_
        · simp only [WN, firstReg, growAll, zbv, zbw, norm, killS, zag, zah, zaa, zab, zbl, zat, zad, growOne, zae, zaf, zac, zas, zak, Nat.reduceLT, Nat.reduceAdd, zbj, zav, F29, L29_13]
          try rfl
        simp only [X29, L29_13]
        simp only [WW, partV, eqCells, eqLf, minV, maxV, ifcV, zaa, zab, zac, zad, zae, zaf, zag, zah, zai, ofConst, ofConst1, List.replicate, zaj, zak, loadOp, Go.Abs.loadCells, binV, zal, pickV, zam, zan, zao, zap, zaq, zar, zas, zat, zau, outR, resAll, resOne, zav, zaw, zax, zay, zaz, zba, zbb, zbc, zbd, zbe, zbf, zbg, zbh, zbi, zbj, zbk, storeOp, storeCell, overlay, zbl, zbm, zbn, lookupOp, keyT, okRes, mapUpdateOp, zbo, zbp, zbq, zbr, zbs, zbt, zbu, Nat.reduceSub, Nat.reduceAdd, Int.reduceLT, Int.reduceLE, Int.reduceAdd, Int.reduceSub, Int.reduceToNat, Int.reduceBEq, Int.reduceBNe, Int.reduceMul, Nat.reduceBEq, Nat.reduceBNe, Nat.reduceLT, Nat.reduceLeDiff, Nat.reduceMul, Nat.reduceEqDiff, WD, effB, effH, isPriv, isHeap, isImm, zbx, zby, zbz, chkO, setD, dslot, zca, zcb, zcc, zcd, ptrCells_some, F29, g1, hw, findLabel]
        rw [wpCall_eq eb]
        simp only [WW, partV, eqCells, eqLf, minV, maxV, ifcV, zaa, zab, zac, zad, zae, zaf, zag, zah, zai, ofConst, ofConst1, List.replicate, zaj, zak, loadOp, Go.Abs.loadCells, binV, zal, pickV, zam, zan, zao, zap, zaq, zar, zas, zat, zau, outR, resAll, resOne, zav, zaw, zax, zay, zaz, zba, zbb, zbc, zbd, zbe, zbf, zbg, zbh, zbi, zbj, zbk, storeOp, storeCell, overlay, zbl, zbm, zbn, lookupOp, keyT, okRes, mapUpdateOp, zbo, zbp, zbq, zbr, zbs, zbt, zbu, Nat.reduceSub, Nat.reduceAdd, Int.reduceLT, Int.reduceLE, Int.reduceAdd, Int.reduceSub, Int.reduceToNat, Int.reduceBEq, Int.reduceBNe, Int.reduceMul, Nat.reduceBEq, Nat.reduceBNe, Nat.reduceLT, Nat.reduceLeDiff, Nat.reduceMul, Nat.reduceEqDiff, WD, effB, effH, isPriv, isHeap, isImm, zbx, zby, zbz, chkO, setD, dslot, zca, zcb, zcc, zcd, ptrCells_some, F29, hw, findLabel]
        try simp [failM, List.set_set]
  have hc0 : B[a + 1]? = some 48 := by rw [hc]; exact congrArg some (eq_of_beq h48)
  have e : signM B low high a true (a + 1) = (0, (a + 1, 6)) := by unfold signM; rw [if_neg (by rw [hd]; simp), if_pos ⟨rfl, hc0⟩]
  rw [e, hd]
  simp only [WW, partV, eqCells, eqLf, minV, maxV, ifcV, zaa, zab, zac, zad, zae, zaf, zag, zah, zai, ofConst, ofConst1, List.replicate, zaj, zak, loadOp, Go.Abs.loadCells, binV, zal, pickV, zam, zan, zao, zap, zaq, zar, zas, zat, zau, outR, resAll, resOne, zav, zaw, zax, zay, zaz, zba, zbb, zbc, zbd, zbe, zbf, zbg, zbh, zbi, zbj, zbk, storeOp, storeCell, overlay, zbl, zbm, zbn, lookupOp, keyT, okRes, mapUpdateOp, zbo, zbp, zbq, zbr, zbs, zbt, zbu, Nat.reduceSub, Nat.reduceAdd, Int.reduceLT, Int.reduceLE, Int.reduceAdd, Int.reduceSub, Int.reduceToNat, Int.reduceBEq, Int.reduceBNe, Int.reduceMul, Nat.reduceBEq, Nat.reduceBNe, Nat.reduceLT, Nat.reduceLeDiff, Nat.reduceMul, Nat.reduceEqDiff, WD, effB, effH, isPriv, isHeap, isImm, zbx, zby, zbz, chkO, setD, dslot, zca, zcb, zcc, zcd, ptrCells_some, F29, hb2, hx1.shutIn, hat.at1 hx1, hat.cells, byteV, e48, h48, findLabel]
  rw [wpCall_eq (fail_eq h1.blk h1.txt.rd.cells1 6 (a + 1))]
  simp only [WW, partV, eqCells, eqLf, minV, maxV, ifcV, zaa, zab, zac, zad, zae, zaf, zag, zah, zai, ofConst, ofConst1, List.replicate, zaj, zak, loadOp, Go.Abs.loadCells, binV, zal, pickV, zam, zan, zao, zap, zaq, zar, zas, zat, zau, outR, resAll, resOne, zav, zaw, zax, zay, zaz, zba, zbb, zbc, zbd, zbe, zbf, zbg, zbh, zbi, zbj, zbk, storeOp, storeCell, overlay, zbl, zbm, zbn, lookupOp, keyT, okRes, mapUpdateOp, zbo, zbp, zbq, zbr, zbs, zbt, zbu, Nat.reduceSub, Nat.reduceAdd, Int.reduceLT, Int.reduceLE, Int.reduceAdd, Int.reduceSub, Int.reduceToNat, Int.reduceBEq, Int.reduceBNe, Int.reduceMul, Nat.reduceBEq, Nat.reduceBNe, Nat.reduceLT, Nat.reduceLeDiff, Nat.reduceMul, Nat.reduceEqDiff, WD, effB, effH, isPriv, isHeap, isImm, zbx, zby, zbz, chkO, setD, dslot, zca, zcb, zcc, zcd, ptrCells_some, F29, findLabel]
  try simp [failM, List.set_set]
theorem number_eq {H : Hp} {r : Nat} {x : V} {B : List UInt8} {s : Nat × Int} (h : RS H r x B s) (low high : Int) (hB : B.length < 4294967296) (hl : -2305843009213693952 ≤ low) (hh : high ≤ 2305843009213693952) :
    EW 29 [.ptr r 0 0, .int .i64 low, .int .i64 high] H = some (.ret (.int .i64 (numM B low high s).1) false, H.set r (rb x (numM B low high s).2)) := by
  obtain ⟨a, e⟩ := s
  by_cases he : e = 0
  case neg =>
    have hb1 : H[r]? = some (.cells [.agg [x, .int .i64 (a : Int), .int .i64 e]]) := h.blk
    have he' : (e != 0) = true := by simpa using he
    rw [numM_bad he]
    refine eqOf2 (runs f29 b29 r29 n29 _ _ ?_)
    simp only [bodyOf, Try.f29, Option.getD_some]
    simp only [WW, partV, eqCells, eqLf, minV, maxV, ifcV, zaa, zab, zac, zad, zae, zaf, zag, zah, zai, ofConst, ofConst1, List.replicate, zaj, zak, loadOp, Go.Abs.loadCells, binV, zal, pickV, zam, zan, zao, zap, zaq, zar, zas, zat, zau, outR, resAll, resOne, zav, zaw, zax, zay, zaz, zba, zbb, zbc, zbd, zbe, zbf, zbg, zbh, zbi, zbj, zbk, storeOp, storeCell, overlay, zbl, zbm, zbn, lookupOp, keyT, okRes, mapUpdateOp, zbo, zbp, zbq, zbr, zbs, zbt, zbu, Nat.reduceSub, Nat.reduceAdd, Int.reduceLT, Int.reduceLE, Int.reduceAdd, Int.reduceSub, Int.reduceToNat, Int.reduceBEq, Int.reduceBNe, Int.reduceMul, Nat.reduceBEq, Nat.reduceBNe, Nat.reduceLT, Nat.reduceLeDiff, Nat.reduceMul, Nat.reduceEqDiff, WD, effB, effH, isPriv, isHeap, isImm, zbx, zby, zbz, chkO, setD, dslot, zca, zcb, zcc, zcd, ptrCells_some, F29, hb1, he', findLabel]
    simp [set_same h.blk]
  subst he
  have hM : numM B low high (a, 0) = if low < 0 ∧ B[a]? = some 45 then signM B low high a true (a + 1) else signM B low high a false a := by
    unfold numM; rw [if_neg (by simp)]
  rw [hM]
  by_cases hlow : low < 0
  · cases hBa : B[a]? with
    | none =>
      rw [if_neg (by simp)]
      exact num_P2 h low high hB hl hh hlow hBa
    | some c0 =>
      cases h45 : (c0 == 45) with
      | false =>
        rw [if_neg (by rintro ⟨_, q⟩; cases q; simp at h45)]
        exact num_P3 h low high hB hl hh hlow hBa h45
      | true =>
        rw [if_pos ⟨hlow, by rw [eq_of_beq h45]⟩]
        exact num_P4 h low high hB hl hh hlow hBa h45
  · rw [if_neg (by omega)]
    exact num_P1 h low high hB hl hh hlow
end Go.Proofs.Yteenpfdpokekgaa

/- The reader of scripts: what a line begins with. -/
namespace Go.Proofs.Yteenpfdpokekgaa
open Go Go.Abs Go.Proofs
set_option maxRecDepth 100000
set_option maxHeartbeats 4000000
set_option linter.unusedVariables false
set_option linter.unusedSimpArgs false
theorem next_eq {H : Hp} {r : Nat} {x : V} {B : List UInt8} {s : Nat × Int} (h : RS H r x B s) (low high : Int) (hB : B.length < 4294967296) (hl : -2305843009213693952 ≤ low) (hh : high ≤ 2305843009213693952) :
    EW 30 [.ptr r 0 0, .int .i64 low, .int .i64 high] H = some (.ret (.int .i64 (numM B low high (wantM B [32] s)).1) false, H.set r (rb x (numM B low high (wantM B [32] s)).2)) := by
  have hw := want_eq h [32] hB (by simp)
  have h1 := h.to (wantM_le (w := [32]) h.le)
  have hn := number_eq h1 low high hB hl hh
  rw [List.set_set] at hn
  refine eqOf2 (runs f30 b30 r30 n30 _ _ ?_)
  simp only [bodyOf, Try.f30, Option.getD_some]
  simp only [WW, partV, eqCells, eqLf, minV, maxV, ifcV, zaa, zab, zac, zad, zae, zaf, zag, zah, zai, ofConst, ofConst1, List.replicate, zaj, zak, loadOp, Go.Abs.loadCells, binV, zal, pickV, zam, zan, zao, zap, zaq, zar, zas, zat, zau, outR, resAll, resOne, zav, zaw, zax, zay, zaz, zba, zbb, zbc, zbd, zbe, zbf, zbg, zbh, zbi, zbj, zbk, storeOp, storeCell, overlay, zbl, zbm, zbn, lookupOp, keyT, okRes, mapUpdateOp, zbo, zbp, zbq, zbr, zbs, zbt, zbu, Nat.reduceSub, Nat.reduceAdd, Int.reduceLT, Int.reduceLE, Int.reduceAdd, Int.reduceSub, Int.reduceToNat, Int.reduceBEq, Int.reduceBNe, Int.reduceMul, Nat.reduceBEq, Nat.reduceBNe, Nat.reduceLT, Nat.reduceLeDiff, Nat.reduceMul, Nat.reduceEqDiff, WD, effB, effH, isPriv, isHeap, isImm, zbx, zby, zbz, chkO, setD, dslot, zca, zcb, zcc, zcd, ptrCells_some, F30]
  rw [wpCall_eq hw]
  simp only [WW, partV, eqCells, eqLf, minV, maxV, ifcV, zaa, zab, zac, zad, zae, zaf, zag, zah, zai, ofConst, ofConst1, List.replicate, zaj, zak, loadOp, Go.Abs.loadCells, binV, zal, pickV, zam, zan, zao, zap, zaq, zar, zas, zat, zau, outR, resAll, resOne, zav, zaw, zax, zay, zaz, zba, zbb, zbc, zbd, zbe, zbf, zbg, zbh, zbi, zbj, zbk, storeOp, storeCell, overlay, zbl, zbm, zbn, lookupOp, keyT, okRes, mapUpdateOp, zbo, zbp, zbq, zbr, zbs, zbt, zbu, Nat.reduceSub, Nat.reduceAdd, Int.reduceLT, Int.reduceLE, Int.reduceAdd, Int.reduceSub, Int.reduceToNat, Int.reduceBEq, Int.reduceBNe, Int.reduceMul, Nat.reduceBEq, Nat.reduceBNe, Nat.reduceLT, Nat.reduceLeDiff, Nat.reduceMul, Nat.reduceEqDiff, WD, effB, effH, isPriv, isHeap, isImm, zbx, zby, zbz, chkO, setD, dslot, zca, zcb, zcc, zcd, ptrCells_some, F30]
  rw [wpCall_eq hn]
  simp only [WW, partV, eqCells, eqLf, minV, maxV, ifcV, zaa, zab, zac, zad, zae, zaf, zag, zah, zai, ofConst, ofConst1, List.replicate, zaj, zak, loadOp, Go.Abs.loadCells, binV, zal, pickV, zam, zan, zao, zap, zaq, zar, zas, zat, zau, outR, resAll, resOne, zav, zaw, zax, zay, zaz, zba, zbb, zbc, zbd, zbe, zbf, zbg, zbh, zbi, zbj, zbk, storeOp, storeCell, overlay, zbl, zbm, zbn, lookupOp, keyT, okRes, mapUpdateOp, zbo, zbp, zbq, zbr, zbs, zbt, zbu, Nat.reduceSub, Nat.reduceAdd, Int.reduceLT, Int.reduceLE, Int.reduceAdd, Int.reduceSub, Int.reduceToNat, Int.reduceBEq, Int.reduceBNe, Int.reduceMul, Nat.reduceBEq, Nat.reduceBNe, Nat.reduceLT, Nat.reduceLeDiff, Nat.reduceMul, Nat.reduceEqDiff, WD, effB, effH, isPriv, isHeap, isImm, zbx, zby, zbz, chkO, setD, dslot, zca, zcb, zcc, zcd, ptrCells_some, F30]
def Wd (H : Hp) (x : V) : Prop := ∀ id lo len es, x = .sl id lo len → H[id]? = some (.cells es) → wideAll es 1 = true
theorem wide8 (l : List UInt8) : wideAll (by8 l) 1 = true := wide_mapN (f := byteV) (fun _ => rfl) l
def dropV (x : V) (n : Nat) : V := match x with
  | .rsl row => .rsl (row.drop n)
  | .sl id lo len => if n = 0 then .sl id lo len else if n = len then .rsl [] else .sl id (lo + n) (len - n)
  | v => v
theorem sx_len {H : Hp} {x : V} {l : List V} {id lo len : Nat} (h : Sx H x l) (e : x = .sl id lo len) : l.length = len ∧ ∃ es, H[id]? = some (.cells es) ∧ lo + len ≤ es.length ∧ l = (es.drop lo).take len := by
  cases h with
  | nils => cases e
  | rsl l => cases e
  | sl a b c es h1 h2 => cases e; exact ⟨by simp; omega, es, h1, h2, rfl⟩
theorem slice_lo {P : Program} {st : St} {H : Hp} {t e : TypeId} {x : V} {L : List UInt8} {n : Nat} (ht : ixT P t = .sl e) (hz : sizeT P e = 1) (hx : Sx H x (by8 L)) (hw : Wd H x) (hn : n ≤ L.length) :
    sliceOp P st H t x (some (.int .i64 n)) none none = some (dropV x n) ∧ Sx H (dropV x n) (by8 (L.drop n)) ∧ Wd H (dropV x n) := by
  have hbl : (by8 L).length = L.length := by8_len L
  have hbd : by8 (L.drop n) = (by8 L).drop n := by simp [by8, List.map_drop]
  rw [hbd]
  generalize hl : by8 L = l at hx hbl ⊢
  cases hx with
  | nils =>
    simp at hbl
    have : n = 0 := by omega
    subst this
    simp only [List.drop_nil]
    refine ⟨by simp [sliceOp, sealV, viewV, ht, boundV, dropV], .nils, fun _ _ _ _ h => by cases h⟩
  | rsl l =>
    refine ⟨?_, .rsl _, fun _ _ _ _ h => by cases h⟩
    simp [sliceOp, sealV, viewV, ht, boundV, dropV, hz, hbl, hn]
    rw [← hl]; exact ⟨wide8 L, by rw [List.take_of_length_le (by rw [by8_len]; exact Nat.le_refl _)]⟩
  | sl id lo len es h1 h2 =>
    have hlen : len = L.length := by simp at hbl; omega
    have hwe := hw id lo len es rfl h1
    refine ⟨?_, ?_, ?_⟩
    · simp [sliceOp, sealV, viewV, ht, boundV, dropV, hz, h1, hwe]
      exact ⟨by omega, by omega⟩
    · simp only [dropV]
      split
      · rename_i e; subst e
        simpa using Sx.sl (H := H) id lo len es h1 h2
      · split
        · rename_i e; subst e
          rw [List.drop_of_length_le (by simp; omega)]
          exact .rsl []
        · have := Sx.sl (H := H) id (lo + n) (len - n) es h1 (by omega)
          rw [List.drop_take, List.drop_drop]
          exact this
    · simp only [dropV]
      split
      · exact hw
      · split
        · intro _ _ _ _ h; cases h
        · intro a b c d e1 e2; cases e1; rw [h1] at e2; cases e2; exact hwe
def takeV (x : V) (n : Nat) : V := match x with
  | .rsl row => .rsl (row.take n)
  | .sl id lo len => .sl id lo n
  | v => v
theorem slice_hi {P : Program} {st : St} {H : Hp} {t e : TypeId} {x : V} {L : List UInt8} {n : Nat} (ht : ixT P t = .sl e) (hz : sizeT P e = 1) (hx : Sx H x (by8 L)) (hw : Wd H x) (hn : n ≤ L.length) :
    sliceOp P st H t x none (some (.int .i64 n)) none = some (takeV x n) ∧ Sx H (takeV x n) (by8 (L.take n)) := by
  have hbl : (by8 L).length = L.length := by8_len L
  have hbd : by8 (L.take n) = (by8 L).take n := by simp [by8, List.map_take]
  rw [hbd]
  generalize hl : by8 L = l at hx hbl ⊢
  cases hx with
  | nils =>
    simp at hbl
    have : n = 0 := by omega
    subst this
    refine ⟨by simp [sliceOp, sealV, viewV, ht, boundV, takeV], ?_⟩
    simp only [List.take_nil, takeV]
    exact .nils
  | rsl l =>
    refine ⟨?_, .rsl _⟩
    simp [sliceOp, sealV, viewV, ht, boundV, takeV, hz, hbl, hn]
    rw [← hl]; exact wide8 L
  | sl id lo len es h1 h2 =>
    have hlen : len = L.length := by simp at hbl; omega
    have hwe := hw id lo len es rfl h1
    refine ⟨?_, ?_⟩
    · simp [sliceOp, sealV, viewV, ht, boundV, takeV, hz, h1, hwe]
      omega
    · have := Sx.sl (H := H) id lo n es h1 (by omega)
      rw [List.take_take, Nat.min_eq_left (by omega)]
      exact this
theorem byteOf_byteV (b : UInt8) : Abs.byteOf (byteV b) = some b := by simp [Abs.byteOf, byteV]
theorem bytesOf_by8 : ∀ l : List UInt8, bytesOf (by8 l) = some l
  | [] => rfl
  | c :: l => by
    have := bytesOf_by8 l
    unfold by8 at this ⊢
    simp only [List.map_cons, bytesOf, byteOf_byteV, Option.bind_some, this, Option.map_some]
theorem str8 (l : List UInt8) : strOf (by8 l) = some ⟨l.toArray⟩ := by simp [strOf, bytesOf_by8]
theorem ba_list (l : List UInt8) : (⟨l.toArray⟩ : ByteArray).toList = l := by rw [ByteArray.toList_eq]
theorem equal_eq {H : Hp} {y z : V} {L W : List UInt8} (hy : Rd H y (by8 L)) (hz : Rd H z (by8 W)) : EW 31 [y, z] H = some (.ret (.bool (L == W)) false, H) := by
  have hc1 := hy.cont
  have hc2 := hz.cont
  refine eqOf2 (runs f31 b31 r31 n31 _ _ ?_)
  simp only [bodyOf, Try.f31, Option.getD_some]
  simp only [WW, partV, eqCells, eqLf, minV, maxV, ifcV, zaa, zab, zac, zad, zae, zaf, zag, zah, zai, ofConst, ofConst1, List.replicate, zaj, zak, loadOp, Go.Abs.loadCells, binV, zal, pickV, zam, zan, zao, zap, zaq, zar, zas, zat, zau, outR, resAll, resOne, zav, zaw, zax, zay, zaz, zba, zbb, zbc, zbd, zbe, zbf, zbg, zbh, zbi, zbj, zbk, storeOp, storeCell, overlay, zbl, zbm, zbn, lookupOp, keyT, okRes, mapUpdateOp, zbo, zbp, zbq, zbr, zbs, zbt, zbu, Nat.reduceSub, Nat.reduceAdd, Int.reduceLT, Int.reduceLE, Int.reduceAdd, Int.reduceSub, Int.reduceToNat, Int.reduceBEq, Int.reduceBNe, Int.reduceMul, Nat.reduceBEq, Nat.reduceBNe, Nat.reduceLT, Nat.reduceLeDiff, Nat.reduceMul, Nat.reduceEqDiff, WD, effB, effH, isPriv, isHeap, isImm, zbx, zby, zbz, chkO, setD, dslot, zca, zcb, zcc, zcd, ptrCells_some, F31, hy.shutIn, hz.shutIn, convertOp, hc1, hc2, str8]
  rw [ba_list, ba_list]
def preB (L W : List UInt8) : Bool := decide (W.length ≤ L.length) && (L.take W.length == W)
theorem prefix_eq {H : Hp} {y z : V} {L W : List UInt8} (hy : Sx H y (by8 L)) (hwy : Wd H y) (hz : Rd H z (by8 W)) : EW 26 [y, z] H = some (.ret (.bool (preB L W)) false, H) := by
  have hyr := hy.rd
  refine eqOf2 (runs f26 b26 r26 n26 _ _ ?_)
  simp only [bodyOf, Try.f26, Option.getD_some]
  by_cases hle : W.length ≤ L.length
  · have g1 : decide ((W.length : Int) ≤ (L.length : Int)) = true := decide_eq_true (by omega)
    have hsl : ∀ st, sliceOp Try.prog st H 22 y none (some (.int .i64 (W.length : Nat))) none = some (takeV y W.length) := fun st => (slice_hi (P := Try.prog) (st := st) (t := 22) (e := 5) (by kernel_rfl) (by kernel_rfl) hy hwy hle).1
    have hty : Sx H (takeV y W.length) (by8 (L.take W.length)) := (slice_hi (P := Try.prog) (st := ⟨[], [], []⟩) (t := 22) (e := 5) (by kernel_rfl) (by kernel_rfl) hy hwy hle).2
    have heq := equal_eq hty.rd hz
    have hp : preB L W = (L.take W.length == W) := by unfold preB; rw [decide_eq_true hle, Bool.true_and]
    rw [hp]
    simp only [WW, partV, eqCells, eqLf, minV, maxV, ifcV, zaa, zab, zac, zad, zae, zaf, zag, zah, zai, ofConst, ofConst1, List.replicate, zaj, zak, loadOp, Go.Abs.loadCells, binV, zal, pickV, zam, zan, zao, zap, zaq, zar, zas, zat, zau, outR, resAll, resOne, zav, zaw, zax, zay, zaz, zba, zbb, zbc, zbd, zbe, zbf, zbg, zbh, zbi, zbj, zbk, storeOp, storeCell, overlay, zbl, zbm, zbn, lookupOp, keyT, okRes, mapUpdateOp, zbo, zbp, zbq, zbr, zbs, zbt, zbu, Nat.reduceSub, Nat.reduceAdd, Int.reduceLT, Int.reduceLE, Int.reduceAdd, Int.reduceSub, Int.reduceToNat, Int.reduceBEq, Int.reduceBNe, Int.reduceMul, Nat.reduceBEq, Nat.reduceBNe, Nat.reduceLT, Nat.reduceLeDiff, Nat.reduceMul, Nat.reduceEqDiff, WD, effB, effH, isPriv, isHeap, isImm, zbx, zby, zbz, chkO, setD, dslot, zca, zcb, zcc, zcd, ptrCells_some, F26, hyr.shutIn, hyr.len, hz.shutIn, hz.len, by8_len, g1, hsl, hty.rd.shutIn, Option.map_none]
    rw [wpCall_eq heq]
    simp only [WW, partV, eqCells, eqLf, minV, maxV, ifcV, zaa, zab, zac, zad, zae, zaf, zag, zah, zai, ofConst, ofConst1, List.replicate, zaj, zak, loadOp, Go.Abs.loadCells, binV, zal, pickV, zam, zan, zao, zap, zaq, zar, zas, zat, zau, outR, resAll, resOne, zav, zaw, zax, zay, zaz, zba, zbb, zbc, zbd, zbe, zbf, zbg, zbh, zbi, zbj, zbk, storeOp, storeCell, overlay, zbl, zbm, zbn, lookupOp, keyT, okRes, mapUpdateOp, zbo, zbp, zbq, zbr, zbs, zbt, zbu, Nat.reduceSub, Nat.reduceAdd, Int.reduceLT, Int.reduceLE, Int.reduceAdd, Int.reduceSub, Int.reduceToNat, Int.reduceBEq, Int.reduceBNe, Int.reduceMul, Nat.reduceBEq, Nat.reduceBNe, Nat.reduceLT, Nat.reduceLeDiff, Nat.reduceMul, Nat.reduceEqDiff, WD, effB, effH, isPriv, isHeap, isImm, zbx, zby, zbz, chkO, setD, dslot, zca, zcb, zcc, zcd, ptrCells_some, F26]
  · have g1 : decide ((W.length : Int) ≤ (L.length : Int)) = false := decide_eq_false (by omega)
    have hp : preB L W = false := by unfold preB; rw [decide_eq_false hle, Bool.false_and]
    rw [hp]
    simp only [WW, partV, eqCells, eqLf, minV, maxV, ifcV, zaa, zab, zac, zad, zae, zaf, zag, zah, zai, ofConst, ofConst1, List.replicate, zaj, zak, loadOp, Go.Abs.loadCells, binV, zal, pickV, zam, zan, zao, zap, zaq, zar, zas, zat, zau, outR, resAll, resOne, zav, zaw, zax, zay, zaz, zba, zbb, zbc, zbd, zbe, zbf, zbg, zbh, zbi, zbj, zbk, storeOp, storeCell, overlay, zbl, zbm, zbn, lookupOp, keyT, okRes, mapUpdateOp, zbo, zbp, zbq, zbr, zbs, zbt, zbu, Nat.reduceSub, Nat.reduceAdd, Int.reduceLT, Int.reduceLE, Int.reduceAdd, Int.reduceSub, Int.reduceToNat, Int.reduceBEq, Int.reduceBNe, Int.reduceMul, Nat.reduceBEq, Nat.reduceBNe, Nat.reduceLT, Nat.reduceLeDiff, Nat.reduceMul, Nat.reduceEqDiff, WD, effB, effH, isPriv, isHeap, isImm, zbx, zby, zbz, chkO, setD, dslot, zca, zcb, zcc, zcd, ptrCells_some, F26, hyr.shutIn, hyr.len, hz.shutIn, hz.len, by8_len, g1]
end Go.Proofs.Yteenpfdpokekgaa

/- The reader of scripts: the state of a line's reading. -/
namespace Go.Proofs.Yteenpfdpokekgaa
open Go Go.Abs Go.Proofs
set_option maxRecDepth 100000
set_option maxHeartbeats 4000000
set_option linter.unusedVariables false
set_option linter.unusedSimpArgs false
structure Ent where
  k : Int
  a : Int
  b : Int
  f : Int
  g : Int
  i : Int
def entV (e : Ent) : V := .agg [.int .i64 e.k, .int .i64 e.a, .int .i64 e.b, .int .i64 e.f, .int .i64 e.g, .int .i64 e.i]
def intV (n : Int) : V := .int .i64 n
/-- What must not be an entry's, a draw's block -/
def NS (G : Hp) (r q : Nat) (x y : V) : Nat → Prop := fun i => i = r ∨ i = q ∨ bx x = some i ∨ bx y = some i ∨ i < G.length
structure QS (G H : Hp) (r q : Nat) (x : V) (B : List UInt8) (s : Nat × Int) (xe xd : V) (E : List Ent) (D : List Int) : Prop where
  rs : RS H r x B s
  wd : Wd H x
  sb : H[q]? = some (.cells [.agg [xe, xd]])
  se : SlW 6 H (NS G r q x xd) xe (E.map entV)
  sd : SlW 1 H (NS G r q x xe) xd (D.map intV)
  rq : r ≠ q
  xq : bx x ≠ some q
  xl : ∀ i, bx x = some i → i < H.length
  lr : G.length ≤ r
  lq : G.length ≤ q
  fr : ∀ i, i < G.length → H[i]? = G[i]?
theorem QS.toR {G H : Hp} {r q : Nat} {x : V} {B : List UInt8} {s : Nat × Int} {xe xd : V} {E : List Ent} {D : List Int} (h : QS G H r q x B s xe xd E D) {s' : Nat × Int} (hl : s'.1 ≤ B.length) : QS G (H.set r (rb x s')) r q x B s' xe xd E D :=
  ⟨h.rs.to hl, fun id lo len es e1 e2 => by
    rw [List.getElem?_set, if_neg (by rintro rfl; exact h.rs.ne (by rw [e1]; rfl))] at e2
    exact h.wd id lo len es e1 e2, by rw [List.getElem?_set, if_neg h.rq]; exact h.sb, h.se.set (.inl rfl) _, h.sd.set (.inl rfl) _, h.rq, h.xq, fun i hi => by simpa using h.xl i hi, h.lr, h.lq, fun i hi => by rw [List.getElem?_set, if_neg (by have := h.lr; omega)]; exact h.fr i hi⟩
theorem QS.app {G H : Hp} {r q : Nat} {x : V} {B : List UInt8} {s : Nat × Int} {xe xd : V} {E : List Ent} {D : List Int} (h : QS G H r q x B s xe xd E D) (e : Hp) : QS G (H ++ e) r q x B s xe xd E D :=
  ⟨⟨by rw [List.getElem?_append_left (List.getElem?_eq_some_iff.1 h.rs.blk).1]; exact h.rs.blk, h.rs.txt.app e, h.rs.ne, h.rs.le⟩, fun id lo len es e1 e2 => by
    have hlt := h.xl id (by rw [e1]; rfl)
    rw [List.getElem?_append_left hlt] at e2
    exact h.wd id lo len es e1 e2, by rw [List.getElem?_append_left (List.getElem?_eq_some_iff.1 h.sb).1]; exact h.sb, h.se.app e, h.sd.app e, h.rq, h.xq, fun i hi => by have := h.xl i hi; simp; omega, h.lr, h.lq, fun i hi => by rw [List.getElem?_append_left (by have := h.lr; have := (List.getElem?_eq_some_iff.1 h.rs.blk).1; omega)]; exact h.fr i hi⟩
theorem slw_lt {sz : Nat} {H : Hp} {N : Nat → Prop} {x : V} {l : List V} (h : SlW sz H N x l) {i : Nat} (hi : bx x = some i) : i < H.length ∧ ¬ N i := by
  rcases h with ⟨rfl, _⟩ | ⟨s, es, rfl, h2, h3, _⟩
  · cases hi
  · cases hi; exact ⟨(List.getElem?_eq_some_iff.1 h3).1, h2⟩
/-- A list whose block is left as it is -/
theorem slw_kept {sz : Nat} {H H' : Hp} {N N' : Nat → Prop} {x : V} {l : List V} (h : SlW sz H N x l) (hk : ∀ i, bx x = some i → H'[i]? = H[i]?) (hN : ∀ i, bx x = some i → ¬ N' i) : SlW sz H' N' x l := by
  rcases h with h | ⟨s, es, rfl, h2, h3, h4⟩
  · exact .inl h
  · exact .inr ⟨s, es, rfl, hN s rfl, by rw [hk s rfl]; exact h3, h4⟩
theorem NS_lt {G H : Hp} {r q : Nat} {x : V} {B : List UInt8} {s : Nat × Int} {xe xd : V} {E : List Ent} {D : List Int} (h : QS G H r q x B s xe xd E D) {y : V} (hy : ∀ i, bx y = some i → i < H.length) : ∀ i, NS G r q x y i → i < H.length := by
  rintro i (rfl | rfl | hi | hi | hi)
  · exact (List.getElem?_eq_some_iff.1 h.rs.blk).1
  · exact (List.getElem?_eq_some_iff.1 h.sb).1
  · exact h.xl i hi
  · exact hy i hi
  · have := h.lr; have := (List.getElem?_eq_some_iff.1 h.rs.blk).1; omega
theorem sx_kept {H H' : Hp} {x : V} {l : List V} (h : Sx H x l) (hk : ∀ i, bx x = some i → H'[i]? = H[i]?) : Sx H' x l := by
  cases h with
  | nils => exact .nils
  | rsl l => exact .rsl l
  | sl id lo len es h1 h2 => exact .sl id lo len es (by rw [hk id rfl]; exact h1) h2
theorem QS.draw {G H : Hp} {r q : Nat} {x : V} {B : List UInt8} {s : Nat × Int} {xe xd : V} {E : List Ent} {D : List Int} (h : QS G H r q x B s xe xd E D) (n : Int) (hl : D.length < 4294967296) :
    ∃ xd' H2, (∀ st, appendOp Try.prog .heap st H (some 46) 3 xd [.int .i64 n] = some (putS st (some 46) (.v xd'), H2)) ∧ H2[q]? = some (.cells [.agg [xe, xd]]) ∧ SlW 1 H2 (NS G r q x xe) xd' ((D ++ [n]).map intV) ∧ QS G (H2.set q (.cells [.agg [xe, xd']])) r q x B s xe xd' E (D ++ [n]) := by
  obtain ⟨xd', H2, h1, h2, h3, h4⟩ := app_sl (P := Try.prog) (sz := 1) (e := 3) (d := some 46) [.int .i64 n] (by kernel_rfl) h.sd (NS_lt h fun i hi => (slw_lt h.se hi).1) rfl (by simp) (by rw [room3]; simp; omega)
  have h2' : SlW 1 H2 (NS G r q x xe) xd' ((D ++ [n]).map intV) := by rw [List.map_append]; exact h2
  have hq2 : H2[q]? = some (.cells [.agg [xe, xd]]) := by rw [h3 q (.inr (.inl rfl))]; exact h.sb
  have hql := (List.getElem?_eq_some_iff.1 hq2).1
  refine ⟨xd', H2, h1, hq2, h2', ⟨⟨?_, ?_, h.rs.ne, h.rs.le⟩, ?_, ?_, ?_, h2'.set (.inr (.inl rfl)) _, h.rq, h.xq, ?_, h.lr, h.lq, ?_⟩⟩
  · rw [List.getElem?_set, if_neg (Ne.symm h.rq), h3 r (.inl rfl)]; exact h.rs.blk
  · exact sx_kept h.rs.txt (fun i hi => by rw [List.getElem?_set, if_neg (by rintro rfl; exact h.xq hi), h3 i (.inr (.inr (.inl hi)))])
  · intro id lo len es e1 e2
    have hb : bx x = some id := by rw [e1]; rfl
    rw [List.getElem?_set, if_neg (by rintro rfl; exact h.xq hb), h3 id (.inr (.inr (.inl hb)))] at e2
    exact h.wd id lo len es e1 e2
  · rw [List.getElem?_set_self hql]
  · refine slw_kept h.se (fun i hi => ?_) (fun i hi => ?_)
    · rw [List.getElem?_set, if_neg (by rintro rfl; exact (slw_lt h.se hi).2 (.inr (.inl rfl))), h3 i (.inr (.inr (.inr (.inl hi))))]
    · have ho := (slw_lt h.se hi).2
      rintro (rfl | rfl | hx | hd | hg)
      · exact ho (.inl rfl)
      · exact ho (.inr (.inl rfl))
      · exact ho (.inr (.inr (.inl hx)))
      · exact (slw_lt h2' hd).2 (.inr (.inr (.inr (.inl hi))))
      · exact ho (.inr (.inr (.inr (.inr hg))))
  · intro i hi; have := h.xl i hi; simp; omega
  · intro i hi
    rw [List.getElem?_set, if_neg (by have := h.lq; omega), h3 i (.inr (.inr (.inr (.inr hi))))]
    exact h.fr i hi
theorem QS.entry {G H : Hp} {r q : Nat} {x : V} {B : List UInt8} {s : Nat × Int} {xe xd : V} {E : List Ent} {D : List Int} (h : QS G H r q x B s xe xd E D) (e : Ent) (hl : E.length < 4294967296) :
    ∃ xe' H2, (∀ st, appendOp Try.prog .heap st H (some 164) 40 xe [entV e] = some (putS st (some 164) (.v xe'), H2)) ∧ H2[q]? = some (.cells [.agg [xe, xd]]) ∧ SlW 6 H2 (NS G r q x xd) xe' ((E ++ [e]).map entV) ∧ QS G (H2.set q (.cells [.agg [xe', xd]])) r q x B s xe' xd (E ++ [e]) D := by
  obtain ⟨xe', H2, h1, h2, h3, h4⟩ := app_sl (P := Try.prog) (sz := 6) (e := 40) (d := some 164) [entV e] (by kernel_rfl) h.se (NS_lt h fun i hi => (slw_lt h.sd hi).1) rfl (by simp) (by rw [room40]; simp; omega)
  have h2' : SlW 6 H2 (NS G r q x xd) xe' ((E ++ [e]).map entV) := by rw [List.map_append]; exact h2
  have hq2 : H2[q]? = some (.cells [.agg [xe, xd]]) := by rw [h3 q (.inr (.inl rfl))]; exact h.sb
  have hql := (List.getElem?_eq_some_iff.1 hq2).1
  refine ⟨xe', H2, h1, hq2, h2', ⟨⟨?_, ?_, h.rs.ne, h.rs.le⟩, ?_, ?_, h2'.set (.inr (.inl rfl)) _, ?_, h.rq, h.xq, ?_, h.lr, h.lq, ?_⟩⟩
  · rw [List.getElem?_set, if_neg (Ne.symm h.rq), h3 r (.inl rfl)]; exact h.rs.blk
  · exact sx_kept h.rs.txt (fun i hi => by rw [List.getElem?_set, if_neg (by rintro rfl; exact h.xq hi), h3 i (.inr (.inr (.inl hi)))])
  · intro id lo len es e1 e2
    have hb : bx x = some id := by rw [e1]; rfl
    rw [List.getElem?_set, if_neg (by rintro rfl; exact h.xq hb), h3 id (.inr (.inr (.inl hb)))] at e2
    exact h.wd id lo len es e1 e2
  · rw [List.getElem?_set_self hql]
  · refine slw_kept h.sd (fun i hi => ?_) (fun i hi => ?_)
    · rw [List.getElem?_set, if_neg (by rintro rfl; exact (slw_lt h.sd hi).2 (.inr (.inl rfl))), h3 i (.inr (.inr (.inr (.inl hi))))]
    · have ho := (slw_lt h.sd hi).2
      rintro (rfl | rfl | hx | hd | hg)
      · exact ho (.inl rfl)
      · exact ho (.inr (.inl rfl))
      · exact ho (.inr (.inr (.inl hx)))
      · exact (slw_lt h2' hd).2 (.inr (.inr (.inr (.inl hi))))
      · exact ho (.inr (.inr (.inr (.inr hg))))
  · intro i hi; have := h.xl i hi; simp; omega
  · intro i hi
    rw [List.getElem?_set, if_neg (by have := h.lq; omega), h3 i (.inr (.inr (.inr (.inr hi))))]
    exact h.fr i hi
end Go.Proofs.Yteenpfdpokekgaa
