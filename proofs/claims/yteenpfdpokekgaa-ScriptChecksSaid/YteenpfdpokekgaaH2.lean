import Derived.Test.YteenpfdpokekgaaH1
import Derived.Test.YteenpfdpokekgaaFwd
namespace Go.Proofs.Yteenpfdpokekgaa.PS0
open Go.RowKit Go.Proofs.YteenpfdpokekgaaW.PrintWords Go.Proofs.YteenpfdpokekgaaW.PrintLast Go.Proofs.YteenpfdpokekgaaW.PrintMore
set_option linter.unusedVariables false
set_option linter.unusedSimpArgs false
def eats : List Int → Int → Int × Nat
  | [], n => (n, 0)
  | c :: cs, n => if 48 ≤ c ∧ c ≤ 57 then ((eats cs (if n ≤ 288230376151711743 then 10 * n + (c - 48) else 2305843009213693953)).1, (eats cs (if n ≤ 288230376151711743 then 10 * n + (c - 48) else 2305843009213693953)).2 + 1) else (n, 0)
def minusB (b : List Int) (i low : Int) : Bool := decide (low < 0) && (decide (i < (b.length : Int)) && (rd b i == 45))
def numTail (b : List Int) (fr : Int) (sg p low high : Int) (r : Int × Nat) : Int × Int × Int :=
  if r.1 > 2305843009213693952 ∨ ¬ (low ≤ sg * r.1 ∧ sg * r.1 ≤ high) then (0, fr, 9) else (sg * r.1, p + r.2, 0)
def numBody (b : List Int) (fr sg p low high : Int) : Int × Int × Int :=
  if digB b p = false ∨ (sg < 0 ∧ rd b p = 48) then (0, p, 6)
  else if rd b p = 48 then (if digB b (p + 1) = true then (0, p + 1, 6) else numTail b fr sg (p + 1) low high (0, 0))
  else numTail b fr sg p low high (eats (b.drop p.toNat) 0)
def numS (b : List Int) (i e low high : Int) : Int × Int × Int :=
  if e ≠ 0 then (0, i, e) else if minusB b i low = true then numBody b i (-1) (i + 1) low high else numBody b i 1 i low high
theorem number_bad (g : Nat) (b : List Int) (i e low high : Int) (w0 w : World) (hI : IsS48 w0 w g b i e) (hB : Below w0.heap.size w0 w) (he : e ≠ 0) :
    Calls Try.prog 29 #[.pointer (some ⟨g, 0, none⟩), .int .i64 low, .int .i64 high] w fun e' w' => e' = .returned (.int .i64 0) ∧ w = w' := by
  obtain ⟨A, c, hb, hg, hr⟩ := hI
  have c2 := cellS48_2 hb
  have d1 : (e != 0) = true := bne_iff_ne.mpr he
  clear hb hr hB he
  go_enter Try.func29, Try.ntmps29
  go_wp2_with (first | ((with_reducible apply wp_scope_fwd 0); rfl) | (with_reducible refine wp_label ?_) | (with_reducible refine wp_goto ?_) | (with_reducible refine Exit.fwd_goto ?_) | (with_reducible refine Exit.fwd_other rfl ?_) | (with_reducible refine Exit.noGoto_other rfl ?_))
  go_ret
  exact ⟨rfl, rfl⟩
-- HERE
theorem between_q (x low high : Int) (w : World) (r : Bool) (h : (decide (low ≤ x) && decide (x ≤ high)) = r) :
    Calls Try.prog 23 #[.int .i64 x, .int .i64 low, .int .i64 high] w fun e w' => e = .returned (.bool r) ∧ ∃ n, w' = w.drewN n := by
  by_cases h1 : x ≥ low
  · have d1 : decide (x ≥ low) = true := decide_eq_true h1
    rw [show (decide (low ≤ x) && decide (x ≤ high)) = decide (x ≤ high) by simp [h1]] at h
    subst h
    clear h1
    go_enter Try.func23, Try.ntmps23
    go_wp2
    repeat (go_quiet (fail); try go_wp2)
    go_ret
    exact ⟨rfl, 0, rfl⟩
  · have d1 : decide (x ≥ low) = false := decide_eq_false h1
    rw [show (decide (low ≤ x) && decide (x ≤ high)) = false by simp; omega] at h
    subst h
    clear h1
    go_enter Try.func23, Try.ntmps23
    go_wp2
    repeat (go_quiet (fail); try go_wp2)
    go_ret
    exact ⟨rfl, 0, rfl⟩
theorem numBody_bad (b : List Int) (i sg p low high : Int) (h : (!digB b p || (decide (sg < 0) && (rd b p == 48))) = true) : numBody b i sg p low high = (0, p, 6) := by
  unfold numBody
  rw [if_pos]
  rw [Bool.or_eq_true, Bool.not_eq_true', Bool.and_eq_true, decide_eq_true_eq, beq_iff_eq] at h
  exact h
theorem numBody_good (b : List Int) (i sg p low high : Int) (h : (!digB b p || (decide (sg < 0) && (rd b p == 48))) = false) :
    numBody b i sg p low high = if rd b p = 48 then (if digB b (p + 1) = true then (0, p + 1, 6) else numTail b i sg (p + 1) low high (0, 0)) else numTail b i sg p low high (eats (b.drop p.toNat) 0) := by
  unfold numBody
  rw [if_neg]
  intro h2
  have h3 : (!digB b p || (decide (sg < 0) && (rd b p == 48))) = true := by
    rw [Bool.or_eq_true, Bool.not_eq_true', Bool.and_eq_true, decide_eq_true_eq, beq_iff_eq]
    exact h2
  rw [h] at h3
  cases h3
theorem eats_none (b : List Int) (q : Int) (hq : 0 ≤ q) (h : digB b q = false) : eats (b.drop q.toNat) 0 = (0, 0) := by
  by_cases hl : q < (b.length : Int)
  · have e : b.drop q.toNat = rd b q :: b.drop (q.toNat + 1) := by
      rw [List.drop_eq_getElem_cons (show q.toNat < b.length by omega)]
      simp [rd, List.getD_eq_getElem?_getD, List.getElem?_eq_getElem (show q.toNat < b.length by omega)]
    rw [e]
    simp [digB, hl] at h
    unfold eats
    rw [if_neg (by omega)]
  · rw [List.drop_eq_nil_of_le (by omega)]
    rfl
theorem eats_some (b : List Int) (q n : Int) (hq : 0 ≤ q) (h : digB b q = true) : eats (b.drop q.toNat) n = ((eats (b.drop (q + 1).toNat) (if n ≤ 288230376151711743 then 10 * n + (rd b q - 48) else 2305843009213693953)).1, (eats (b.drop (q + 1).toNat) (if n ≤ 288230376151711743 then 10 * n + (rd b q - 48) else 2305843009213693953)).2 + 1) := by
  simp [digB] at h
  have hl : q < (b.length : Int) := h.1
  have e : b.drop q.toNat = rd b q :: b.drop (q + 1).toNat := by
    rw [List.drop_eq_getElem_cons (show q.toNat < b.length by omega), show (q + 1).toNat = q.toNat + 1 by omega]
    simp [rd, List.getD_eq_getElem?_getD, List.getElem?_eq_getElem (show q.toNat < b.length by omega)]
  rw [e]
  conv => lhs; unfold eats
  rw [if_pos h.2]
theorem eats_stop (b : List Int) (q n : Int) (hq : 0 ≤ q) (h : digB b q = false) : eats (b.drop q.toNat) n = (n, 0) := by
  by_cases hl : q < (b.length : Int)
  · have e : b.drop q.toNat = rd b q :: b.drop (q.toNat + 1) := by
      rw [List.drop_eq_getElem_cons (show q.toNat < b.length by omega)]
      simp [rd, List.getD_eq_getElem?_getD, List.getElem?_eq_getElem (show q.toNat < b.length by omega)]
    rw [e]
    simp [digB, hl] at h
    unfold eats
    rw [if_neg (by omega)]
  · rw [List.drop_eq_nil_of_le (by omega)]
    rfl
theorem eats_step (b : List Int) (i sg q low high n : Int) (hq : 0 ≤ q) (h : digB b q = true) : numTail b i sg q low high (eats (b.drop q.toNat) n) = numTail b i sg (q + 1) low high (eats (b.drop (q + 1).toNat) (if n ≤ 288230376151711743 then 10 * n + (rd b q - 48) else 2305843009213693953)) := by
  rw [eats_some b q n hq h]
  unfold numTail
  simp only [Int.natCast_add, Int.natCast_one, Int.add_assoc, Int.add_comm 1]
set_option maxHeartbeats 8000000 in
set_option maxRecDepth 100000 in
theorem number_good (g : Nat) (b : List Int) (i low high : Int) (w0 w : World) (hI : IsS48 w0 w g b i 0) (hB : Below w0.heap.size w0 w) (h0 : 0 ≤ i) (h1 : i ≤ b.length) (hbl : b.length ≤ 1048576) (hby : ∀ x ∈ b, 0 ≤ x ∧ x ≤ 255) (v p' e' : Int)
    (hv : (if minusB b i low = true then numBody b i (-1) (i + 1) low high else numBody b i 1 i low high) = (v, p', e')) :
    Calls Try.prog 29 #[.pointer (some ⟨g, 0, none⟩), .int .i64 low, .int .i64 high] w fun e w' => e = .returned (.int .i64 v) ∧ IsS48 w0 w' g b p' e' ∧ Below w0.heap.size w0 w' ∧ KeepBut w w' g none := by
  have HI := Aside0.mk hI
  have HB := Aside0.mk hB
  have HK := Aside0.mk (KeepBut.refl w g none)
  have HV := Aside0.mk hv
  have HBY := Aside0.mk hby
  clear hI hB hv hby
  obtain ⟨A, c, hb, hg, hr⟩ := HI.out
  have c0 := cellS48_0 hb
  have c1 := cellS48_1 hb
  have c2 := cellS48_2 hb
  have f1 := blk_frozen hb 1
  have f2 := blk_frozen hb 2
  have HR := Aside0.mk (Kd.C_below hr HB.out)
  have HBK := Aside0.mk hb
  clear hb hr hg
  go_enter Try.func29, Try.ntmps29
  go_upto_region 4 with (first | ((with_reducible apply wp_scope_fwd 0); rfl) | (with_reducible refine wp_label ?_) | (with_reducible refine wp_goto ?_) | (with_reducible refine Exit.fwd_goto ?_) | (with_reducible refine Exit.fwd_other rfl ?_) | (with_reducible refine Exit.noGoto_other rfl ?_))
  go_cut [45] (fun v45 wc => v45 = .bool (minusB b i low) ∧ Aside0 (IsS48 w0 wc g b i 0) ∧ Aside0 (KeepBut w wc g none) ∧ Aside0 (Below w0.heap.size w0 wc))
  case first =>
    by_cases hl : low < 0
    · have dl : decide (low < 0) = true := decide_eq_true hl
      by_cases hi : i < (b.length : Int)
      · have di : decide (i < (b.length : Int)) = true := decide_eq_true hi
        have hm : minusB b i low = (rd b i == 45) := by simp [minusB, hl, hi]
        have HM := Aside0.mk hm; clear hm hl
        obtain ⟨ad, rfl, hc⟩ := Kd.at_int HR.out i h0 hi
        go_wp2
        repeat (go_quiet (fail); try go_wp2)
        go_meet
        case rel => exact ⟨congrArg Value.bool HM.out.symm, ⟨by repeat (first | (with_reducible first | exact HI.out | apply IsS48.alloc | apply IsS48.drewN | apply IsS48.drew | apply IsS48.set_1 | apply IsS48.set_2) | exact HI.out)⟩, ⟨by repeat (first | (with_reducible first | exact HK.out | apply KeepBut.set_ | apply keep_drewN | apply keep_drew | apply keep_alloc) | exact HK.out)⟩, ⟨by repeat (first | (with_reducible first | exact HB.out | apply below_alloc | apply pw_below_drewN | apply below_drew1 | refine below_set ?_ (IsS48.ge HI.out)) | exact HB.out)⟩⟩
      · have di : decide (i < (b.length : Int)) = false := decide_eq_false hi
        have hm : minusB b i low = false := by simp [minusB, hl, hi]
        have HM := Aside0.mk hm; clear hm hl
        go_wp2
        repeat (go_quiet (fail); try go_wp2)
        go_meet
        case rel => exact ⟨congrArg Value.bool HM.out.symm, ⟨by repeat (first | (with_reducible first | exact HI.out | apply IsS48.alloc | apply IsS48.drewN | apply IsS48.drew | apply IsS48.set_1 | apply IsS48.set_2) | exact HI.out)⟩, ⟨by repeat (first | (with_reducible first | exact HK.out | apply KeepBut.set_ | apply keep_drewN | apply keep_drew | apply keep_alloc) | exact HK.out)⟩, ⟨by repeat (first | (with_reducible first | exact HB.out | apply below_alloc | apply pw_below_drewN | apply below_drew1 | refine below_set ?_ (IsS48.ge HI.out)) | exact HB.out)⟩⟩
    · have dl : decide (low < 0) = false := decide_eq_false hl
      have hm : minusB b i low = false := by simp [minusB, hl]
      have HM := Aside0.mk hm; clear hm hl
      go_wp2
      repeat (go_quiet (fail); try go_wp2)
      go_meet
      case rel => exact ⟨congrArg Value.bool HM.out.symm, ⟨by repeat (first | (with_reducible first | exact HI.out | apply IsS48.alloc | apply IsS48.drewN | apply IsS48.drew | apply IsS48.set_1 | apply IsS48.set_2) | exact HI.out)⟩, ⟨by repeat (first | (with_reducible first | exact HK.out | apply KeepBut.set_ | apply keep_drewN | apply keep_drew | apply keep_alloc) | exact HK.out)⟩, ⟨by repeat (first | (with_reducible first | exact HB.out | apply below_alloc | apply pw_below_drewN | apply below_drew1 | refine below_set ?_ (IsS48.ge HI.out)) | exact HB.out)⟩⟩
  case rest =>
    clear HI HK HB c0 c1 c2 f1 f2 HR HBK
    obtain ⟨rfl, HI, HK, HB⟩ := hcut
    obtain ⟨A, c, hb, hg, hr⟩ := HI.out
    have c0 := cellS48_0 hb
    have c1 := cellS48_1 hb
    have c2 := cellS48_2 hb
    have f1 := blk_frozen hb 1
    have f2 := blk_frozen hb 2
    have HR := Aside0.mk (Kd.C_below hr HB.out)
    have HBK := Aside0.mk hb
    clear hb hr hg
    go_upto_if 45 with (first | ((with_reducible apply wp_scope_fwd 0); rfl) | (with_reducible refine wp_label ?_) | (with_reducible refine wp_goto ?_) | (with_reducible refine Exit.fwd_goto ?_) | (with_reducible refine Exit.fwd_other rfl ?_) | (with_reducible refine Exit.noGoto_other rfl ?_))
    go_cut [9] (fun v9 wc => ∃ sg p : Int, v9 = .int .i64 sg ∧ Aside0 (numBody b i sg p low high = (v, p', e')) ∧ Aside0 (0 ≤ p ∧ p ≤ b.length ∧ (sg = 1 ∨ sg = -1)) ∧ Aside0 (IsS48 w0 wc g b p 0) ∧ Aside0 (KeepBut w wc g none) ∧ Aside0 (Below w0.heap.size w0 wc))
    case first =>
      cases hm : minusB b i low with
      | true =>
        have HV2 := Aside0.mk (show numBody b i (-1) (i + 1) low high = (v, p', e') by rw [← HV.out, if_pos hm])
        have hp : i < (b.length : Int) := by simp [minusB] at hm; exact hm.2.1
        clear hm HV
        go_wp2_with (first | ((with_reducible apply wp_scope_fwd 0); rfl) | (with_reducible refine wp_label ?_) | (with_reducible refine wp_goto ?_) | (with_reducible refine Exit.fwd_goto ?_) | (with_reducible refine Exit.fwd_other rfl ?_) | (with_reducible refine Exit.noGoto_other rfl ?_))
        go_meet
        case rel => exact ⟨-1, i + 1, rfl, HV2, ⟨by omega, by omega, .inr rfl⟩, ⟨by repeat (first | (with_reducible first | exact HI.out | apply IsS48.alloc | apply IsS48.drewN | apply IsS48.drew | apply IsS48.set_1 | apply IsS48.set_2) | exact HI.out)⟩, ⟨by repeat (first | (with_reducible first | exact HK.out | apply KeepBut.set_ | apply keep_drewN | apply keep_drew | apply keep_alloc) | exact HK.out)⟩, ⟨by repeat (first | (with_reducible first | exact HB.out | apply below_alloc | apply pw_below_drewN | apply below_drew1 | refine below_set ?_ (IsS48.ge HI.out)) | exact HB.out)⟩⟩
      | false =>
        have HV2 := Aside0.mk (show numBody b i 1 i low high = (v, p', e') by rw [← HV.out, if_neg (by simp [hm])])
        clear hm HV
        go_wp2_with (first | ((with_reducible apply wp_scope_fwd 0); rfl) | (with_reducible refine wp_label ?_) | (with_reducible refine wp_goto ?_) | (with_reducible refine Exit.fwd_goto ?_) | (with_reducible refine Exit.fwd_other rfl ?_) | (with_reducible refine Exit.noGoto_other rfl ?_))
        go_meet
        case rel => exact ⟨1, i, rfl, HV2, ⟨by omega, by omega, .inl rfl⟩, ⟨by repeat (first | (with_reducible first | exact HI.out | apply IsS48.alloc | apply IsS48.drewN | apply IsS48.drew | apply IsS48.set_1 | apply IsS48.set_2) | exact HI.out)⟩, ⟨by repeat (first | (with_reducible first | exact HK.out | apply KeepBut.set_ | apply keep_drewN | apply keep_drew | apply keep_alloc) | exact HK.out)⟩, ⟨by repeat (first | (with_reducible first | exact HB.out | apply below_alloc | apply pw_below_drewN | apply below_drew1 | refine below_set ?_ (IsS48.ge HI.out)) | exact HB.out)⟩⟩
    case rest =>
      clear HI HK HB c0 c1 c2 f1 f2 HR HBK HV
      obtain ⟨sg, p, rfl, HV, HP, HI, HK, HB⟩ := hcut
      obtain ⟨A, c, hb, hg, hr⟩ := HI.out
      have c0 := cellS48_0 hb
      have c1 := cellS48_1 hb
      have c2 := cellS48_2 hb
      have f1 := blk_frozen hb 1
      have f2 := blk_frozen hb 2
      have HR := Aside0.mk (Kd.C_below hr HB.out)
      have HBK := Aside0.mk hb
      clear hb hr hg
      go_upto_region 7 with (first | ((with_reducible apply wp_scope_fwd 0); rfl) | (with_reducible refine wp_label ?_) | (with_reducible refine wp_goto ?_) | (with_reducible refine Exit.fwd_goto ?_) | (with_reducible refine Exit.fwd_other rfl ?_) | (with_reducible refine Exit.noGoto_other rfl ?_))
      go_cut [72] (fun v72 wc => v72 = .bool (!digB b p || (decide (sg < 0) && (rd b p == 48))) ∧ Aside0 (IsS48 w0 wc g b p 0) ∧ Aside0 (KeepBut w wc g none) ∧ Aside0 (Below w0.heap.size w0 wc))
      case first =>
        have hp0 : 0 ≤ p := HP.out.1
        cases hd : digB b p with
        | true =>
          have hp : p < (b.length : Int) := by simp [digB] at hd; exact hd.1
          obtain ⟨ad, rfl, hc⟩ := Kd.at_int HR.out p HP.out.1 hp
          by_cases hs : sg < 0
          · have ds : decide (sg < 0) = true := decide_eq_true hs
            have HM := Aside0.mk (show (!digB b p || (decide (sg < 0) && (rd b p == 48))) = (rd b p == 48) by simp [hd, hs])
            clear hs
            go_wp2
            repeat (go_quiet ((go_at_call 33; exact Calls.quiet_of (digit_q g b p 0 _ c _ HBK.out HR.out HP.out.1))); try go_wp2)
            go_meet
            case rel => exact ⟨congrArg Value.bool HM.out.symm, ⟨by repeat (first | (with_reducible first | exact HI.out | apply IsS48.alloc | apply IsS48.drewN | apply IsS48.drew | apply IsS48.set_1 | apply IsS48.set_2) | exact HI.out)⟩, ⟨by repeat (first | (with_reducible first | exact HK.out | apply KeepBut.set_ | apply keep_drewN | apply keep_drew | apply keep_alloc) | exact HK.out)⟩, ⟨by repeat (first | (with_reducible first | exact HB.out | apply below_alloc | apply pw_below_drewN | apply below_drew1 | refine below_set ?_ (IsS48.ge HI.out)) | exact HB.out)⟩⟩
          · have ds : decide (sg < 0) = false := decide_eq_false hs
            have HM := Aside0.mk (show (!digB b p || (decide (sg < 0) && (rd b p == 48))) = false by simp [hd, hs])
            clear hs
            go_wp2
            repeat (go_quiet ((go_at_call 33; exact Calls.quiet_of (digit_q g b p 0 _ c _ HBK.out HR.out HP.out.1))); try go_wp2)
            go_meet
            case rel => exact ⟨congrArg Value.bool HM.out.symm, ⟨by repeat (first | (with_reducible first | exact HI.out | apply IsS48.alloc | apply IsS48.drewN | apply IsS48.drew | apply IsS48.set_1 | apply IsS48.set_2) | exact HI.out)⟩, ⟨by repeat (first | (with_reducible first | exact HK.out | apply KeepBut.set_ | apply keep_drewN | apply keep_drew | apply keep_alloc) | exact HK.out)⟩, ⟨by repeat (first | (with_reducible first | exact HB.out | apply below_alloc | apply pw_below_drewN | apply below_drew1 | refine below_set ?_ (IsS48.ge HI.out)) | exact HB.out)⟩⟩
        | false =>
          have HM := Aside0.mk (show (!digB b p || (decide (sg < 0) && (rd b p == 48))) = true by simp [hd])
          go_wp2
          repeat (go_quiet ((go_at_call 33; exact Calls.quiet_of (digit_q g b p 0 _ c _ HBK.out HR.out HP.out.1))); try go_wp2)
          go_meet
          case rel => exact ⟨congrArg Value.bool HM.out.symm, ⟨by repeat (first | (with_reducible first | exact HI.out | apply IsS48.alloc | apply IsS48.drewN | apply IsS48.drew | apply IsS48.set_1 | apply IsS48.set_2) | exact HI.out)⟩, ⟨by repeat (first | (with_reducible first | exact HK.out | apply KeepBut.set_ | apply keep_drewN | apply keep_drew | apply keep_alloc) | exact HK.out)⟩, ⟨by repeat (first | (with_reducible first | exact HB.out | apply below_alloc | apply pw_below_drewN | apply below_drew1 | refine below_set ?_ (IsS48.ge HI.out)) | exact HB.out)⟩⟩
      case rest =>
        clear HI HK HB c0 c1 c2 f1 f2 HR HBK
        obtain ⟨rfl, HI, HK, HB⟩ := hcut
        clear A c
        obtain ⟨A, c, hb, hg, hr⟩ := HI.out
        have c0 := cellS48_0 hb
        have c1 := cellS48_1 hb
        have c2 := cellS48_2 hb
        have f1 := blk_frozen hb 1
        have f2 := blk_frozen hb 2
        have HR := Aside0.mk (Kd.C_below hr HB.out)
        have HBK := Aside0.mk hb
        clear hb hr hg
        cases hbad : (!digB b p || (decide (sg < 0) && (rd b p == 48))) with
        | true =>
          have HV2 := Aside0.mk (show (0, p, 6) = (v, p', e') by rw [← HV.out, numBody_bad b i sg p low high hbad])
          clear HV hbad
          have hv := HV2.out
          simp only [Prod.mk.injEq] at hv
          obtain ⟨rfl, rfl, rfl⟩ := hv
          clear HV2
          go_wp2_with (first | (go_at_call 32; (with_reducible refine (script_reader_fail.calls g b p 0 6 p p 6 w0 _ ?_ ?_ (by simp [script_reader_fail.f])).mono ?_); (repeat (first | (with_reducible first | exact HI.out | apply IsS48.alloc | apply IsS48.drewN | apply IsS48.drew | apply IsS48.set_1 | apply IsS48.set_2) | exact HI.out)); (repeat (first | (with_reducible first | exact HB.out | apply below_alloc | apply pw_below_drewN | apply below_drew1 | refine below_set ?_ (IsS48.ge HI.out)) | exact HB.out)); rintro ew wf ⟨rfl, hi_, hb_, hk_⟩) | ((with_reducible apply wp_scope_fwd 0); rfl) | (with_reducible refine wp_label ?_) | (with_reducible refine wp_goto ?_) | (with_reducible refine Exit.fwd_goto ?_) | (with_reducible refine Exit.fwd_other rfl ?_) | (with_reducible refine Exit.noGoto_other rfl ?_))
          go_ret
          exact ⟨rfl, by exact hi_, by exact hb_, KeepBut.trans HK.out hk_ (.inl rfl)⟩
        | false =>
          have hdp : digB b p = true := by simp at hbad; exact hbad.1
          have hp0 : 0 ≤ p := HP.out.1
          have hp : p < (b.length : Int) := by simp [digB] at hdp; exact hdp.1
          have HV2 := Aside0.mk (show (if rd b p = 48 then (if digB b (p + 1) = true then (0, p + 1, 6) else numTail b i sg (p + 1) low high (0, 0)) else numTail b i sg p low high (eats (b.drop p.toNat) 0)) = (v, p', e') by rw [← HV.out, numBody_good b i sg p low high hbad])
          clear HV
          go_upto_region 9 with (first | ((with_reducible apply wp_scope_fwd 0); rfl) | (with_reducible refine wp_label ?_) | (with_reducible refine wp_goto ?_) | (with_reducible refine Exit.fwd_goto ?_) | (with_reducible refine Exit.fwd_other rfl ?_) | (with_reducible refine Exit.noGoto_other rfl ?_))
          go_cut [89] (fun v89 wc => v89 = .bool (rd b p == 48) ∧ Aside0 (IsS48 w0 wc g b p 0) ∧ Aside0 (KeepBut w wc g none) ∧ Aside0 (Below w0.heap.size w0 wc))
          case first =>
            obtain ⟨ad, rfl, hc⟩ := Kd.at_int HR.out p HP.out.1 hp
            clear hbad hdp
            go_wp2
            repeat (go_quiet (fail); try go_wp2)
            go_meet
            case rel => exact ⟨rfl, ⟨by repeat (first | (with_reducible first | exact HI.out | apply IsS48.alloc | apply IsS48.drewN | apply IsS48.drew | apply IsS48.set_1 | apply IsS48.set_2) | exact HI.out)⟩, ⟨by repeat (first | (with_reducible first | exact HK.out | apply KeepBut.set_ | apply keep_drewN | apply keep_drew | apply keep_alloc) | exact HK.out)⟩, ⟨by repeat (first | (with_reducible first | exact HB.out | apply below_alloc | apply pw_below_drewN | apply below_drew1 | refine below_set ?_ (IsS48.ge HI.out)) | exact HB.out)⟩⟩
          case rest =>
            clear HI HK HB c0 c1 c2 f1 f2 HR HBK
            obtain ⟨rfl, HI, HK, HB⟩ := hcut
            clear A c
            obtain ⟨A, c, hb, hg, hr⟩ := HI.out
            have c0 := cellS48_0 hb
            have c1 := cellS48_1 hb
            have c2 := cellS48_2 hb
            have f1 := blk_frozen hb 1
            have f2 := blk_frozen hb 2
            have HR := Aside0.mk (Kd.C_below hr HB.out)
            have HBK := Aside0.mk hb
            clear hb hr hg
            clear hbad hdp
            go_upto_if 89 with (first | ((with_reducible apply wp_scope_fwd 0); rfl) | (with_reducible refine wp_label ?_) | (with_reducible refine wp_goto ?_) | (with_reducible refine Exit.fwd_goto ?_) | (with_reducible refine Exit.fwd_other rfl ?_) | (with_reducible refine Exit.noGoto_other rfl ?_))
            go_cut [] (fun  wc => ∃ q : Int, Aside0 (numTail b i sg q low high (eats (b.drop q.toNat) 0) = (v, p', e')) ∧ Aside0 (0 ≤ q ∧ q ≤ b.length) ∧ Aside0 (IsS48 w0 wc g b q 0) ∧ Aside0 (KeepBut w wc g none) ∧ Aside0 (Below w0.heap.size w0 wc))
            case first =>
              by_cases hz : rd b p = 48
              · have dz : (rd b p == 48) = true := by simp [hz]
                rw [if_pos hz] at HV2
                clear hz
                have HI2 := Aside0.mk (IsS48.set_1 HI.out (p + 1))
                obtain ⟨A2, k2, hb2, hg2, hr2⟩ := HI2.out
                have HBK2 := Aside0.mk hb2
                have HR2 := Aside0.mk (show Kd.C (Kd.int .u8) (wc.setCell ⟨g, 1, none⟩ (.int .i64 (p + 1))) A2 b.length b from Kd.C_below hr2 (below_set HB.out (IsS48.ge HI.out)))
                clear hb2 hr2 hg2
                cases hd2 : digB b (p + 1) with
                | true =>
                  have hv := HV2.out
                  rw [if_pos hd2] at hv
                  simp only [Prod.mk.injEq] at hv
                  obtain ⟨rfl, rfl, rfl⟩ := hv
                  clear HV2
                  go_wp2_with (first | (go_at_call 33; (with_reducible refine (digit_q g b (p + 1) 0 _ _ _ HBK2.out HR2.out (by omega)).mono ?_); rintro ew wf ⟨rfl, nd_, rfl⟩) | (go_at_call 32; (with_reducible refine (script_reader_fail.calls g b (p + 1) 0 6 (p + 1) (p + 1) 6 w0 _ ?_ ?_ (by simp [script_reader_fail.f])).mono ?_); (repeat (first | (with_reducible first | exact HI.out | apply IsS48.alloc | apply IsS48.drewN | apply IsS48.drew | apply IsS48.set_1 | apply IsS48.set_2) | exact HI.out)); (repeat (first | (with_reducible first | exact HB.out | apply below_alloc | apply pw_below_drewN | apply below_drew1 | refine below_set ?_ (IsS48.ge HI.out)) | exact HB.out)); rintro ew wf ⟨rfl, hi_, hb_, hk_⟩) | ((with_reducible apply wp_scope_fwd 0); rfl) | (with_reducible refine wp_label ?_) | (with_reducible refine wp_goto ?_) | (with_reducible refine Exit.fwd_goto ?_) | (with_reducible refine Exit.fwd_other rfl ?_) | (with_reducible refine Exit.noGoto_other rfl ?_))
                  go_ret
                  exact ⟨rfl, by exact hi_, by exact hb_, KeepBut.trans (by repeat (first | (with_reducible first | exact HK.out | apply KeepBut.set_ | apply keep_drewN | apply keep_drew | apply keep_alloc) | exact HK.out)) hk_ (.inl rfl)⟩
                | false =>
                  have HV3 := Aside0.mk (show numTail b i sg (p + 1) low high (eats (b.drop (p + 1).toNat) 0) = (v, p', e') by rw [eats_none b (p + 1) (by omega) hd2, ← HV2.out, if_neg (by simp [hd2])])
                  clear HV2
                  go_wp2_with (first | (go_at_call 33; (with_reducible refine (digit_q g b (p + 1) 0 _ _ _ HBK2.out HR2.out (by omega)).mono ?_); rintro ew wf ⟨rfl, nd_, rfl⟩) | ((with_reducible apply wp_scope_fwd 0); rfl) | (with_reducible refine wp_label ?_) | (with_reducible refine wp_goto ?_) | (with_reducible refine Exit.fwd_goto ?_) | (with_reducible refine Exit.fwd_other rfl ?_) | (with_reducible refine Exit.noGoto_other rfl ?_))
                  go_meet
                  case rel => exact ⟨p + 1, HV3, ⟨by omega, by omega⟩, ⟨by repeat (first | (with_reducible first | exact HI.out | apply IsS48.alloc | apply IsS48.drewN | apply IsS48.drew | apply IsS48.set_1 | apply IsS48.set_2) | exact HI.out)⟩, ⟨by repeat (first | (with_reducible first | exact HK.out | apply KeepBut.set_ | apply keep_drewN | apply keep_drew | apply keep_alloc) | exact HK.out)⟩, ⟨by repeat (first | (with_reducible first | exact HB.out | apply below_alloc | apply pw_below_drewN | apply below_drew1 | refine below_set ?_ (IsS48.ge HI.out)) | exact HB.out)⟩⟩
              · have dz : (rd b p == 48) = false := by simp [hz]
                have HV3 := Aside0.mk (show numTail b i sg p low high (eats (b.drop p.toNat) 0) = (v, p', e') by rw [← HV2.out, if_neg hz])
                clear hz HV2
                go_wp2_with (first | ((with_reducible apply wp_scope_fwd 0); rfl) | (with_reducible refine wp_label ?_) | (with_reducible refine wp_goto ?_) | (with_reducible refine Exit.fwd_goto ?_) | (with_reducible refine Exit.fwd_other rfl ?_) | (with_reducible refine Exit.noGoto_other rfl ?_))
                go_meet
                case rel => exact ⟨p, HV3, ⟨by omega, by omega⟩, ⟨by repeat (first | (with_reducible first | exact HI.out | apply IsS48.alloc | apply IsS48.drewN | apply IsS48.drew | apply IsS48.set_1 | apply IsS48.set_2) | exact HI.out)⟩, ⟨by repeat (first | (with_reducible first | exact HK.out | apply KeepBut.set_ | apply keep_drewN | apply keep_drew | apply keep_alloc) | exact HK.out)⟩, ⟨by repeat (first | (with_reducible first | exact HB.out | apply below_alloc | apply pw_below_drewN | apply below_drew1 | refine below_set ?_ (IsS48.ge HI.out)) | exact HB.out)⟩⟩
            case rest =>
              clear HI HK HB c0 c1 c2 f1 f2 HR HBK HV2
              obtain ⟨q, HV, HQ, HI, HK, HB⟩ := hcut
              have HS := Aside0.mk HP.out.2.2
              clear A c HP hp0 hp
              go_wp2_with (first | ((with_reducible apply wp_scope_fwd 0); rfl) | (with_reducible refine wp_label ?_) | (with_reducible refine wp_goto ?_) | (with_reducible refine Exit.fwd_goto ?_) | (with_reducible refine Exit.fwd_other rfl ?_) | (with_reducible refine Exit.noGoto_other rfl ?_))
              go_loopg [7] b.length (fun kq v7 w' => ∃ n q : Int, v7 = .int .i64 n ∧ Aside0 (numTail b i sg q low high (eats (b.drop q.toNat) n) = (v, p', e')) ∧ Aside0 (0 ≤ q ∧ q ≤ b.length ∧ b.length - q.toNat ≤ kq ∧ 0 ≤ n ∧ n ≤ 2882303761517117439) ∧ Aside0 (IsS48 w0 w' g b q 0) ∧ Aside0 (KeepBut w w' g none) ∧ Aside0 (Below w0.heap.size w0 w'))
              case atStart => exact ⟨0, q, rfl, HV, ⟨HQ.out.1, HQ.out.2, Nat.sub_le _ _, by omega, by omega⟩, HI, HK, HB⟩
              case round =>
                clear HV HQ HI HK HB
                obtain ⟨n, q, rfl, HV, HQ, HI, HK, HB⟩ := hrel
                obtain ⟨A, c, hb, hg, hr⟩ := HI.out
                have c0 := cellS48_0 hb
                have c1 := cellS48_1 hb
                have c2 := cellS48_2 hb
                have f1 := blk_frozen hb 1
                have f2 := blk_frozen hb 2
                have HR := Aside0.mk (Kd.C_below hr HB.out)
                have HBK := Aside0.mk hb
                clear hb hr hg
                have hq0 : 0 ≤ q := HQ.out.1
                have hq1 : q ≤ b.length := HQ.out.2.1
                have hn0 : 0 ≤ n := HQ.out.2.2.2.1
                have hn1 : n ≤ 2882303761517117439 := HQ.out.2.2.2.2
                cases hd : digB b q with
                | true =>
                  have hx := hd
                  simp only [digB, Bool.and_eq_true, decide_eq_true_eq] at hx
                  obtain ⟨hq2, hx1, hx2⟩ := hx
                  obtain ⟨ad, rfl, hc⟩ := Kd.at_int HR.out q hq0 hq2
                  have HV2 := Aside0.mk ((eats_step b i sg q low high n hq0 hd).symm.trans HV.out)
                  clear HV
                  by_cases hn : n ≤ 288230376151711743
                  · have dn : decide (n ≤ 288230376151711743) = true := decide_eq_true hn
                    rw [if_pos hn] at HV2
                    go_upto_region 16 with (first | (go_at_call 33; (with_reducible refine (digit_q g b q 0 _ _ _ HBK.out HR.out hq0).mono ?_); rintro ew wf ⟨rfl, nd_, rfl⟩) | ((with_reducible apply wp_scope_fwd 0); rfl) | (with_reducible refine wp_label ?_) | (with_reducible refine wp_goto ?_) | (with_reducible refine Exit.fwd_goto ?_) | (with_reducible refine Exit.fwd_other rfl ?_) | (with_reducible refine Exit.noGoto_other rfl ?_))
                    repeat (go_quiet (fail); go_upto_region 16 with (first | ((with_reducible apply wp_scope_fwd 0); rfl) | (with_reducible refine wp_label ?_) | (with_reducible refine wp_goto ?_) | (with_reducible refine Exit.fwd_goto ?_) | (with_reducible refine Exit.fwd_other rfl ?_) | (with_reducible refine Exit.noGoto_other rfl ?_)))
                    go_wp2_with (first | ((with_reducible apply wp_scope_fwd 0); rfl) | (with_reducible refine wp_label ?_) | (with_reducible refine wp_goto ?_) | (with_reducible refine Exit.fwd_goto ?_) | (with_reducible refine Exit.fwd_other rfl ?_) | (with_reducible refine Exit.noGoto_other rfl ?_))
                    go_roundg (b.length - (q + 1).toNat)
                    case measure => have := HQ.out.2.2.1; omega
                    case rel => exact ⟨10 * n + (rd b q - 48), q + 1, rfl, HV2, ⟨by omega, by omega, Nat.le_refl _, by omega, by omega⟩, ⟨by repeat (first | (with_reducible first | exact HI.out | apply IsS48.alloc | apply IsS48.drewN | apply IsS48.drew | apply IsS48.set_1 | apply IsS48.set_2) | exact HI.out)⟩, ⟨by repeat (first | (with_reducible first | exact HK.out | apply KeepBut.set_ | apply keep_drewN | apply keep_drew | apply keep_alloc) | exact HK.out)⟩, ⟨by repeat (first | (with_reducible first | exact HB.out | apply below_alloc | apply pw_below_drewN | apply below_drew1 | refine below_set ?_ (IsS48.ge HI.out)) | exact HB.out)⟩⟩
                  · have dn : decide (n ≤ 288230376151711743) = false := decide_eq_false hn
                    rw [if_neg hn] at HV2
                    go_wp2_with (first | (go_at_call 33; (with_reducible refine (digit_q g b q 0 _ _ _ HBK.out HR.out hq0).mono ?_); rintro ew wf ⟨rfl, nd_, rfl⟩) | ((with_reducible apply wp_scope_fwd 0); rfl) | (with_reducible refine wp_label ?_) | (with_reducible refine wp_goto ?_) | (with_reducible refine Exit.fwd_goto ?_) | (with_reducible refine Exit.fwd_other rfl ?_) | (with_reducible refine Exit.noGoto_other rfl ?_))
                    go_roundg (b.length - (q + 1).toNat)
                    case measure => have := HQ.out.2.2.1; omega
                    case rel => exact ⟨2305843009213693953, q + 1, rfl, HV2, ⟨by omega, by omega, Nat.le_refl _, by omega, by omega⟩, ⟨by repeat (first | (with_reducible first | exact HI.out | apply IsS48.alloc | apply IsS48.drewN | apply IsS48.drew | apply IsS48.set_1 | apply IsS48.set_2) | exact HI.out)⟩, ⟨by repeat (first | (with_reducible first | exact HK.out | apply KeepBut.set_ | apply keep_drewN | apply keep_drew | apply keep_alloc) | exact HK.out)⟩, ⟨by repeat (first | (with_reducible first | exact HB.out | apply below_alloc | apply pw_below_drewN | apply below_drew1 | refine below_set ?_ (IsS48.ge HI.out)) | exact HB.out)⟩⟩
                | false =>
                  have hvt : numTail b i sg q low high (n, 0) = (v, p', e') := by rw [← HV.out, eats_stop b q n hq0 hd]
                  clear HV
                  unfold numTail at hvt
                  rcases HS.out with rfl | rfl
                  · by_cases hb1 : n > 2305843009213693952
                    · have db : decide (n > 2305843009213693952) = true := decide_eq_true hb1
                      rw [if_pos (.inl hb1)] at hvt
                      simp only [Prod.mk.injEq] at hvt
                      obtain ⟨rfl, rfl, rfl⟩ := hvt
                      clear hb1
                      go_wp2_with (first | (go_at_call 33; (with_reducible refine (digit_q g b q 0 _ _ _ HBK.out HR.out hq0).mono ?_); rintro ew wf ⟨rfl, nd_, rfl⟩) | (go_at_call 32; (with_reducible refine (script_reader_fail.calls g b q 0 9 i i 9 w0 _ ?_ ?_ (by simp [script_reader_fail.f])).mono ?_); (repeat (first | (with_reducible first | exact HI.out | apply IsS48.alloc | apply IsS48.drewN | apply IsS48.drew | apply IsS48.set_1 | apply IsS48.set_2) | exact HI.out)); (repeat (first | (with_reducible first | exact HB.out | apply below_alloc | apply pw_below_drewN | apply below_drew1 | refine below_set ?_ (IsS48.ge HI.out)) | exact HB.out)); rintro ew wf ⟨rfl, hi_, hb_, hk_⟩) | ((with_reducible apply wp_scope_fwd 0); rfl) | (with_reducible refine wp_label ?_) | (with_reducible refine wp_goto ?_) | (with_reducible refine Exit.fwd_goto ?_) | (with_reducible refine Exit.fwd_other rfl ?_) | (with_reducible refine Exit.noGoto_other rfl ?_))
                      go_ret
                      exact ⟨rfl, by exact hi_, by exact hb_, KeepBut.trans (by repeat (first | (with_reducible first | exact HK.out | apply KeepBut.set_ | apply keep_drewN | apply keep_drew | apply keep_alloc) | exact HK.out)) hk_ (.inl rfl)⟩
                    · have db : decide (n > 2305843009213693952) = false := decide_eq_false hb1
                      cases hbt : (decide (low ≤ n) && decide (n ≤ high)) with
                      | false =>
                        rw [if_pos (.inr (by rw [Bool.and_eq_false_iff, decide_eq_false_iff_not, decide_eq_false_iff_not] at hbt; dsimp only; omega))] at hvt
                        simp only [Prod.mk.injEq] at hvt
                        obtain ⟨rfl, rfl, rfl⟩ := hvt
                        clear hb1
                        go_wp2_with (first | (go_at_call 33; (with_reducible refine (digit_q g b q 0 _ _ _ HBK.out HR.out hq0).mono ?_); rintro ew wf ⟨rfl, nd_, rfl⟩) | (go_at_call 23; (with_reducible refine (between_q _ low high _ _ hbt).mono ?_); rintro ew wf ⟨rfl, nb_, rfl⟩) | (go_at_call 32; (with_reducible refine (script_reader_fail.calls g b q 0 9 i i 9 w0 _ ?_ ?_ (by simp [script_reader_fail.f])).mono ?_); (repeat (first | (with_reducible first | exact HI.out | apply IsS48.alloc | apply IsS48.drewN | apply IsS48.drew | apply IsS48.set_1 | apply IsS48.set_2) | exact HI.out)); (repeat (first | (with_reducible first | exact HB.out | apply below_alloc | apply pw_below_drewN | apply below_drew1 | refine below_set ?_ (IsS48.ge HI.out)) | exact HB.out)); rintro ew wf ⟨rfl, hi_, hb_, hk_⟩) | ((with_reducible apply wp_scope_fwd 0); rfl) | (with_reducible refine wp_label ?_) | (with_reducible refine wp_goto ?_) | (with_reducible refine Exit.fwd_goto ?_) | (with_reducible refine Exit.fwd_other rfl ?_) | (with_reducible refine Exit.noGoto_other rfl ?_))
                        go_ret
                        exact ⟨rfl, by exact hi_, by exact hb_, KeepBut.trans (by repeat (first | (with_reducible first | exact HK.out | apply KeepBut.set_ | apply keep_drewN | apply keep_drew | apply keep_alloc) | exact HK.out)) hk_ (.inl rfl)⟩
                      | true =>
                        rw [if_neg (by rw [Bool.and_eq_true, decide_eq_true_eq, decide_eq_true_eq] at hbt; dsimp only; omega)] at hvt
                        simp only [Prod.mk.injEq] at hvt
                        obtain ⟨rfl, rfl, rfl⟩ := hvt
                        clear hb1
                        go_wp2_with (first | (go_at_call 33; (with_reducible refine (digit_q g b q 0 _ _ _ HBK.out HR.out hq0).mono ?_); rintro ew wf ⟨rfl, nd_, rfl⟩) | (go_at_call 23; (with_reducible refine (between_q _ low high _ _ hbt).mono ?_); rintro ew wf ⟨rfl, nb_, rfl⟩) | ((with_reducible apply wp_scope_fwd 0); rfl) | (with_reducible refine wp_label ?_) | (with_reducible refine wp_goto ?_) | (with_reducible refine Exit.fwd_goto ?_) | (with_reducible refine Exit.fwd_other rfl ?_) | (with_reducible refine Exit.noGoto_other rfl ?_))
                        go_ret
                        exact ⟨by simp, (show q + ((0 : Nat) : Int) = q by omega).symm ▸ (show IsS48 w0 _ g b q 0 from by repeat (first | (with_reducible first | exact HI.out | apply IsS48.alloc | apply IsS48.drewN | apply IsS48.drew | apply IsS48.set_1 | apply IsS48.set_2) | exact HI.out)), by repeat (first | (with_reducible first | exact HB.out | apply below_alloc | apply pw_below_drewN | apply below_drew1 | refine below_set ?_ (IsS48.ge HI.out)) | exact HB.out), by repeat (first | (with_reducible first | exact HK.out | apply KeepBut.set_ | apply keep_drewN | apply keep_drew | apply keep_alloc) | exact HK.out)⟩
                  · by_cases hb1 : n > 2305843009213693952
                    · have db : decide (n > 2305843009213693952) = true := decide_eq_true hb1
                      rw [if_pos (.inl hb1)] at hvt
                      simp only [Prod.mk.injEq] at hvt
                      obtain ⟨rfl, rfl, rfl⟩ := hvt
                      clear hb1
                      go_wp2_with (first | (go_at_call 33; (with_reducible refine (digit_q g b q 0 _ _ _ HBK.out HR.out hq0).mono ?_); rintro ew wf ⟨rfl, nd_, rfl⟩) | (go_at_call 32; (with_reducible refine (script_reader_fail.calls g b q 0 9 i i 9 w0 _ ?_ ?_ (by simp [script_reader_fail.f])).mono ?_); (repeat (first | (with_reducible first | exact HI.out | apply IsS48.alloc | apply IsS48.drewN | apply IsS48.drew | apply IsS48.set_1 | apply IsS48.set_2) | exact HI.out)); (repeat (first | (with_reducible first | exact HB.out | apply below_alloc | apply pw_below_drewN | apply below_drew1 | refine below_set ?_ (IsS48.ge HI.out)) | exact HB.out)); rintro ew wf ⟨rfl, hi_, hb_, hk_⟩) | ((with_reducible apply wp_scope_fwd 0); rfl) | (with_reducible refine wp_label ?_) | (with_reducible refine wp_goto ?_) | (with_reducible refine Exit.fwd_goto ?_) | (with_reducible refine Exit.fwd_other rfl ?_) | (with_reducible refine Exit.noGoto_other rfl ?_))
                      go_ret
                      exact ⟨rfl, by exact hi_, by exact hb_, KeepBut.trans (by repeat (first | (with_reducible first | exact HK.out | apply KeepBut.set_ | apply keep_drewN | apply keep_drew | apply keep_alloc) | exact HK.out)) hk_ (.inl rfl)⟩
                    · have db : decide (n > 2305843009213693952) = false := decide_eq_false hb1
                      cases hbt : (decide (low ≤ -n) && decide (-n ≤ high)) with
                      | false =>
                        rw [if_pos (.inr (by rw [Bool.and_eq_false_iff, decide_eq_false_iff_not, decide_eq_false_iff_not] at hbt; dsimp only; omega))] at hvt
                        simp only [Prod.mk.injEq] at hvt
                        obtain ⟨rfl, rfl, rfl⟩ := hvt
                        clear hb1
                        go_wp2_with (first | (go_at_call 33; (with_reducible refine (digit_q g b q 0 _ _ _ HBK.out HR.out hq0).mono ?_); rintro ew wf ⟨rfl, nd_, rfl⟩) | (go_at_call 23; (with_reducible refine (between_q _ low high _ _ hbt).mono ?_); rintro ew wf ⟨rfl, nb_, rfl⟩) | (go_at_call 32; (with_reducible refine (script_reader_fail.calls g b q 0 9 i i 9 w0 _ ?_ ?_ (by simp [script_reader_fail.f])).mono ?_); (repeat (first | (with_reducible first | exact HI.out | apply IsS48.alloc | apply IsS48.drewN | apply IsS48.drew | apply IsS48.set_1 | apply IsS48.set_2) | exact HI.out)); (repeat (first | (with_reducible first | exact HB.out | apply below_alloc | apply pw_below_drewN | apply below_drew1 | refine below_set ?_ (IsS48.ge HI.out)) | exact HB.out)); rintro ew wf ⟨rfl, hi_, hb_, hk_⟩) | ((with_reducible apply wp_scope_fwd 0); rfl) | (with_reducible refine wp_label ?_) | (with_reducible refine wp_goto ?_) | (with_reducible refine Exit.fwd_goto ?_) | (with_reducible refine Exit.fwd_other rfl ?_) | (with_reducible refine Exit.noGoto_other rfl ?_))
                        go_ret
                        exact ⟨rfl, by exact hi_, by exact hb_, KeepBut.trans (by repeat (first | (with_reducible first | exact HK.out | apply KeepBut.set_ | apply keep_drewN | apply keep_drew | apply keep_alloc) | exact HK.out)) hk_ (.inl rfl)⟩
                      | true =>
                        rw [if_neg (by rw [Bool.and_eq_true, decide_eq_true_eq, decide_eq_true_eq] at hbt; dsimp only; omega)] at hvt
                        simp only [Prod.mk.injEq] at hvt
                        obtain ⟨rfl, rfl, rfl⟩ := hvt
                        clear hb1
                        go_wp2_with (first | (go_at_call 33; (with_reducible refine (digit_q g b q 0 _ _ _ HBK.out HR.out hq0).mono ?_); rintro ew wf ⟨rfl, nd_, rfl⟩) | (go_at_call 23; (with_reducible refine (between_q _ low high _ _ hbt).mono ?_); rintro ew wf ⟨rfl, nb_, rfl⟩) | ((with_reducible apply wp_scope_fwd 0); rfl) | (with_reducible refine wp_label ?_) | (with_reducible refine wp_goto ?_) | (with_reducible refine Exit.fwd_goto ?_) | (with_reducible refine Exit.fwd_other rfl ?_) | (with_reducible refine Exit.noGoto_other rfl ?_))
                        go_ret
                        exact ⟨by simp, (show q + ((0 : Nat) : Int) = q by omega).symm ▸ (show IsS48 w0 _ g b q 0 from by repeat (first | (with_reducible first | exact HI.out | apply IsS48.alloc | apply IsS48.drewN | apply IsS48.drew | apply IsS48.set_1 | apply IsS48.set_2) | exact HI.out)), by repeat (first | (with_reducible first | exact HB.out | apply below_alloc | apply pw_below_drewN | apply below_drew1 | refine below_set ?_ (IsS48.ge HI.out)) | exact HB.out), by repeat (first | (with_reducible first | exact HK.out | apply KeepBut.set_ | apply keep_drewN | apply keep_drew | apply keep_alloc) | exact HK.out)⟩
end Go.Proofs.Yteenpfdpokekgaa.PS0
