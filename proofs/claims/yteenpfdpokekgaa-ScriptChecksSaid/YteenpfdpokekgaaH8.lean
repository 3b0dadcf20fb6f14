import Derived.Test.YteenpfdpokekgaaH7
namespace Go.Proofs.Yteenpfdpokekgaa.PS0
open Go.RowKit Go.Proofs.YteenpfdpokekgaaW.PrintWords Go.Proofs.YteenpfdpokekgaaW.PrintLast Go.Proofs.YteenpfdpokekgaaW.PrintMore
set_option linter.unusedVariables false
set_option linter.unusedSimpArgs false
theorem Scr.new {w w3 w4 : World} {gs g : Nat} {A : Option Addr} {c : Nat} {b : List Int} (hr : Kd.C (Kd.int .u8) w A b.length b) (hc : b.length ≤ c) (hok : OkB b) (hgs : gs = w.heap.size) (h3 : w3.heap[gs]? = some (.cells #[.slice none 0 0, .slice none 0 0] 27 (0, 0))) (hb3 : Below w.heap.size w w3)
    (hg : g = w3.heap.size) (h4 : w4.heap[g]? = some (.cells #[.slice A b.length c, .int .i64 0, .int .i64 0] 48 (0, 0))) (hb4 : Below w3.heap.size w3 w4) : Scr w w4 g gs b 0 0 [] [] := by
  refine ⟨⟨A, c, h4, ⟨by rw [hg]; exact below_size hb3, hc⟩, hr⟩, below_step hb3 hb4, ⟨Int.le_refl _, by omega⟩, hok, ⟨_, _, blk_below h3 hb4, Nat.le_of_eq hgs.symm, Kd.R_nil _ _ _ _ _, Kd.R_nil _ _ _ _ _⟩⟩
/-- The parser's loop. -/
def loopS (b : List Int) : Nat → Int → Int → List T40 → List Int → Int × Int × List T40 × List Int
  | 0, i, e, es, ds => (i, e, es, ds)
  | n + 1, i, e, es, ds => if e = 0 ∧ i < (b.length : Int) then loopS b n (oneS b i es ds).1 (oneS b i es ds).2.1 (oneS b i es ds).2.2.1 (oneS b i es ds).2.2.2 else (i, e, es, ds)
def parseS (b : List Int) : List T40 × List Int × Int × Int :=
  if b.length > 1048576 then ([], [], 2, 0)
  else
    let r := loopS b (b.length + 1) 0 0 [] []
    if r.2.1 ≠ 0 then ([], [], r.2.1, r.1) else (r.2.2.1, r.2.2.2, 0, b.length)
theorem loopS_out (b : List Int) (n : Nat) (i e : Int) (es : List T40) (ds : List Int) (h : ¬ (e = 0 ∧ i < (b.length : Int))) : loopS b n i e es ds = (i, e, es, ds) := by
  cases n with
  | zero => rfl
  | succ n => unfold loopS; rw [if_neg h]
theorem loopS_in (b : List Int) (n : Nat) (i : Int) (es : List T40) (ds : List Int) (h : i < (b.length : Int)) : loopS b (n + 1) i 0 es ds = loopS b n (oneS b i es ds).1 (oneS b i es ds).2.1 (oneS b i es ds).2.2.1 (oneS b i es ds).2.2.2 := by
  conv => lhs; unfold loopS
  rw [if_pos ⟨rfl, h⟩]
/-! Where no error stands behind a step, none stood ahead of it, and the place has not gone back. -/
def Fwd (i e i' e' : Int) : Prop := e' = 0 → e = 0 ∧ i ≤ i'
theorem Fwd.trans {i e i1 e1 i2 e2 : Int} (h1 : Fwd i e i1 e1) (h2 : Fwd i1 e1 i2 e2) : Fwd i e i2 e2 := fun h => ⟨(h1 (h2 h).1).1, Int.le_trans (h1 (h2 h).1).2 (h2 h).2⟩

theorem want_fwd (b : List Int) : ∀ (cs : List Int) (i e : Int), Fwd i e (wantS b i e cs).1 (wantS b i e cs).2
  | [], i, e => fun h => ⟨h, Int.le_refl _⟩
  | c :: cs, i, e => by
    intro h
    unfold wantS at h ⊢
    by_cases he : e = 0
    · rw [if_pos he] at h ⊢
      split at h
      · simp at h
      · rename_i h2
        rw [if_neg h2]
        have := want_fwd b cs (i + 1) 0 h
        exact ⟨he, by omega⟩
    · rw [if_neg he] at h ⊢
      exact absurd h he
theorem want1_fwd (b : List Int) (i e c : Int) (h : (wantS b i e [c]).2 = 0) : e = 0 ∧ (wantS b i e [c]).1 = i + 1 := by
  unfold wantS at h ⊢
  by_cases he : e = 0
  · rw [if_pos he] at h ⊢
    split at h
    · simp at h
    · rename_i h2
      rw [if_neg h2]
      exact ⟨he, rfl⟩
  · rw [if_neg he] at h ⊢
    exact absurd h he
theorem more_fwd (b : List Int) (i e n fr : Int) : Fwd i e (moreS b i e n fr).1 (moreS b i e n fr).2 := by
  intro h
  unfold moreS at h ⊢
  dsimp only at h ⊢
  split at h
  · simp at h
  · rename_i h2
    rw [if_neg h2]
    exact want_fwd b [32] i e h
theorem tail_fwd (b : List Int) (fr sg p low high : Int) (r : Int × Nat) (h : (numTail b fr sg p low high r).2.2 = 0) : p ≤ (numTail b fr sg p low high r).2.1 := by
  unfold numTail at h ⊢
  split at h
  · simp at h
  · rename_i h2
    rw [if_neg h2]
    simp only
    omega
theorem body_fwd (b : List Int) (fr sg p low high : Int) (h : (numBody b fr sg p low high).2.2 = 0) : p ≤ (numBody b fr sg p low high).2.1 := by
  unfold numBody at h ⊢
  split at h
  · simp at h
  · rename_i h2
    rw [if_neg h2]
    split at h
    · rename_i h3
      rw [if_pos h3]
      split at h
      · simp at h
      · rename_i h4
        rw [if_neg h4]
        have := tail_fwd _ _ _ _ _ _ _ h
        omega
    · rename_i h3
      rw [if_neg h3]
      exact tail_fwd _ _ _ _ _ _ _ h
theorem num_fwd (b : List Int) (i e low high : Int) : Fwd i e (numS b i e low high).2.1 (numS b i e low high).2.2 := by
  intro h
  unfold numS at h ⊢
  split at h
  · rename_i h2
    exact absurd h h2
  · rename_i h2
    have he : e = 0 := by simpa using h2
    rw [if_neg h2]
    split at h
    · rename_i h3
      rw [if_pos h3]
      have := body_fwd _ _ _ _ _ _ h
      exact ⟨he, by omega⟩
    · rename_i h3
      rw [if_neg h3]
      have := body_fwd _ _ _ _ _ _ h
      exact ⟨he, by omega⟩
theorem next_fwd (b : List Int) (i e low high : Int) : Fwd i e (nextS b i e low high).2.1 (nextS b i e low high).2.2 := (want_fwd b [32] i e).trans (num_fwd b _ _ low high)
theorem line_fwd (b : List Int) (i n : Int) (ds : List Int) : Fwd i 0 (lineS b i n ds).i (lineS b i n ds).e ∧ (lineS b i n ds).ds.length ≤ ds.length + 1 := by
  have hT : Fwd i 0 (lineT b i n ds).i (lineT b i n ds).e ∧ (lineT b i n ds).ds = ds := by
    unfold lineT
    dsimp only
    split
    · exact ⟨(((((want_fwd b _ i 0).trans (want_fwd b _ _ _)).trans (more_fwd b _ _ _ _)).trans (num_fwd b _ _ _ _)).trans (next_fwd b _ _ _ _)).trans ((next_fwd b _ _ _ _).trans (next_fwd b _ _ _ _)), rfl⟩
    · exact ⟨(((want_fwd b _ i 0).trans (want_fwd b _ _ _)).trans (more_fwd b _ _ _ _)).trans (num_fwd b _ _ _ _), rfl⟩
  unfold lineS
  split
  · exact ⟨(((want_fwd b _ i 0).trans (more_fwd b _ _ _ _)).trans (num_fwd b _ _ _ _)).trans (next_fwd b _ _ _ _), Nat.le_succ _⟩
  split
  · exact ⟨hT.1, by rw [hT.2]; exact Nat.le_succ _⟩
  split
  · exact ⟨want_fwd b _ i 0, Nat.le_succ _⟩
  · refine ⟨((want_fwd b _ i 0).trans (more_fwd b _ _ _ _)).trans (num_fwd b _ _ _ _), ?_⟩
    unfold lineD
    dsimp only
    split <;> simp
theorem one_fwd (b : List Int) (i : Int) (es : List T40) (ds : List Int) (hi : 0 ≤ i) : (oneS b i es ds).2.1 = 0 → i < (oneS b i es ds).1 ∧ (oneS b i es ds).2.2.1.length ≤ es.length + 1 ∧ (oneS b i es ds).2.2.2.length ≤ ds.length + 1 := by
  intro h
  have hl := line_fwd b i es.length ds
  unfold oneS endS at h ⊢
  dsimp only at h ⊢
  obtain ⟨h1, h2⟩ := want1_fwd _ _ _ _ h
  have h3 := hl.1 h1
  refine ⟨by rw [h2]; omega, ?_, hl.2⟩
  split <;> simp

theorem Scr.back {w W : World} {g gs : Nat} {b : List Int} {i e : Int} {es es' : List T40} {ds ds' : List Int} {ve vd u0 u1 : Value} (h : Scr w W g gs b i e es ds) (hs1 : W.heap[gs]? = some (.cells #[ve, vd] 27 (0, 0))) (h3 : Kd.R k40' 40 W w.heap.size (fun _ => True) u0 es') (h4 : Kd.R (Kd.int .i64) 3 W w.heap.size (fun _ => True) u1 ds') :
    ((W.setCell ⟨gs, 0, none⟩ u0).setCell ⟨gs, 1, none⟩ u1).heap[gs]? = some (.cells #[u0, u1] 27 (0, 0)) ∧ Kd.R k40' 40 ((W.setCell ⟨gs, 0, none⟩ u0).setCell ⟨gs, 1, none⟩ u1) w.heap.size (fun _ => True) u0 es' ∧ Kd.R (Kd.int .i64) 3 ((W.setCell ⟨gs, 0, none⟩ u0).setCell ⟨gs, 1, none⟩ u1) w.heap.size (fun _ => True) u1 ds' ∧ Below w.heap.size w ((W.setCell ⟨gs, 0, none⟩ u0).setCell ⟨gs, 1, none⟩ u1) := by
  obtain ⟨_, _, _, hge, _⟩ := h.sc
  have n1 := blk_put hs1 0 u0 (cs' := #[u0, vd]) rfl
  exact ⟨blk_put n1 1 u1 rfl, Kd.R_set (Kd.R_set h3 hs1 E4027 0 _) n1 E4027 1 _, Kd.R_set (Kd.R_set h4 hs1 E327 0 _) n1 E327 1 _, below_set (below_set h.bw hge) hge⟩
def PostParse (w : World) (r : List T40 × List Int × Int × Int) (e : Ending) (w' : World) : Prop :=
  ∃ v0_ v1_ : Value, e = .returned (.tuple #[.agg #[v0_, v1_], .int .i64 r.2.2.1, .int .i64 r.2.2.2]) ∧ Kd.R k40' 40 w' w.heap.size (fun _ => True) v0_ r.1 ∧ Kd.R (Kd.int .i64) 3 w' w.heap.size (fun _ => True) v1_ r.2.1 ∧ Below w.heap.size w w'
set_option maxHeartbeats 8000000 in
set_option maxRecDepth 100000 in
theorem parse_long (A : Option Addr) (c : Nat) (b : List Int) (w : World) (hl : b.length > 1048576) : Calls Try.prog 8 #[.slice A b.length c] w (PostParse w ([], [], 2, 0)) := by
  have d0 : decide ((b.length : Int) > 1048576) = true := decide_eq_true (by omega)
  clear hl
  go_enter Try.func8, Try.ntmps8
  go_wp2_with (first | ((with_reducible refine gate_dst (N := 2) rfl ?_); refine box_event ?hg (N := 2) ?hd (cs := #[.slice none 0 0, .slice none 0 0]) (t := 27) ?hr ?_; (case hd => rfl); (case hg => rfl); (case hr => first | (go_simp; done) | (go_simp; rfl)); intro gs hgs w3 hbox hb; have HX1 := Aside0.mk hbox; have HX2 := Aside0.mk hb; have HX3 := Aside0.mk hgs; have cg0 := cell27_0 hbox; have cg1 := cell27_1 hbox; have f0 := blk_frozen hbox 0; have f1 := blk_frozen hbox 1; clear hbox hb hgs) | ((with_reducible apply wp_scope_fwd 0); rfl) | (with_reducible refine wp_label ?_) | (with_reducible refine wp_goto ?_) | (with_reducible refine Exit.fwd_goto ?_) | (with_reducible refine Exit.fwd_other rfl ?_) | (with_reducible refine Exit.noGoto_other rfl ?_))
  refine bodyPost_ret (results_ctt rfl _ _ gs 27 #[.slice none 0 0, .slice none 0 0] (0, 0) _ rfl (blk_put (blk_put HX1.out 0 (.slice none 0 0) (cs' := #[.slice none 0 0, .slice none 0 0]) rfl) 1 _ rfl) Try.underlying27 rfl (by kernel_rfl)) rfl ?_
  exact ⟨.slice none 0 0, .slice none 0 0, rfl, Kd.R_nil _ _ _ _ _, Kd.R_nil _ _ _ _ _, below_set (below_set HX2.out (Nat.le_of_eq HX3.out.symm)) (Nat.le_of_eq HX3.out.symm)⟩
set_option maxHeartbeats 8000000 in
set_option maxRecDepth 100000 in
theorem parse_short (A : Option Addr) (c : Nat) (b : List Int) (w : World) (hr : Kd.C (Kd.int .u8) w A b.length b) (hc : b.length ≤ c) (hok : OkB b) : Calls Try.prog 8 #[.slice A b.length c] w (PostParse w (parseS b)) := by
  have HR := Aside0.mk hr
  have HC := Aside0.mk hc
  have HOK := Aside0.mk hok
  have d0 : decide ((b.length : Int) > 1048576) = false := decide_eq_false (by have := hok.1; omega)
  obtain ⟨R, hR⟩ : ∃ R, R = loopS b (b.length + 1) 0 0 [] [] := ⟨_, rfl⟩
  have HP := Aside0.mk (show parseS b = if R.2.1 ≠ 0 then ([], [], R.2.1, R.1) else (R.2.2.1, R.2.2.2, 0, b.length) by unfold parseS; rw [if_neg (by have := hok.1; omega), ← hR])
  have HRR := Aside0.mk hR
  clear hr hc hok hR
  go_enter Try.func8, Try.ntmps8
  go_wp2_with (first | ((with_reducible refine gate_dst (N := 2) rfl ?_); refine box_event ?hg (N := 2) ?hd (cs := #[.slice none 0 0, .slice none 0 0]) (t := 27) ?hr ?_; (case hd => rfl); (case hg => rfl); (case hr => first | (go_simp; done) | (go_simp; rfl)); intro gs hgs w3 hbox hb; have HX1 := Aside0.mk hbox; have HX2 := Aside0.mk hb; have HX3 := Aside0.mk hgs; have cg0 := cell27_0 hbox; have cg1 := cell27_1 hbox; have f0 := blk_frozen hbox 0; have f1 := blk_frozen hbox 1; clear hbox hb hgs) | ((with_reducible refine gate_dst (N := 12) rfl ?_); refine box_event ?hg (N := 12) ?hd (cs := #[.slice A b.length c, .int .i64 0, .int .i64 0]) (t := 48) ?hr ?_; (case hd => rfl); (case hg => rfl); (case hr => first | (go_simp; done) | (go_simp; rfl)); intro g hg w4 hbox hb; have HS := Aside0.mk (Scr.new HR.out HC.out HOK.out HX3.out HX1.out HX2.out hg hbox hb); clear hbox hb hg cg0 cg1 f0 f1) | ((with_reducible apply wp_scope_fwd 0); rfl) | (with_reducible refine wp_label ?_) | (with_reducible refine wp_goto ?_) | (with_reducible refine Exit.fwd_goto ?_) | (with_reducible refine Exit.fwd_other rfl ?_) | (with_reducible refine Exit.noGoto_other rfl ?_))
  obtain ⟨Ab, cb, hgb, hgg, hgr⟩ := HS.out.st
  have c0 := cellS48_0 hgb
  have c1 := cellS48_1 hgb
  have c2 := cellS48_2 hgb
  obtain ⟨ve, vd, hs1, hs2, hs3, hs4⟩ := HS.out.sc
  obtain ⟨Ae, ce, he_⟩ := Kd.R_slice hs3
  obtain ⟨Ad, cd, hd_⟩ := Kd.R_slice hs4
  subst he_ hd_
  have cg0 := cell27_0 hs1
  have cg1 := cell27_1 hs1
  have f0 := blk_frozen hs1 0
  have f1 := blk_frozen hs1 1
  have HS1 := Aside0.mk hs1
  have HS3 := Aside0.mk hs3
  have HS4 := Aside0.mk hs4
  clear hgb hgg hgr hs1 hs2 hs3 hs4
  go_loopg [] (b.length + 1) (fun kq w' => ∃ (kf : Nat) (i e : Int) (es : List T40) (ds : List Int), Aside0 (kf ≤ kq) ∧ Aside0 (loopS b kf i e es ds = R) ∧ Aside0 (e = 0 → b.length - i.toNat < kf ∧ es.length ≤ i.toNat ∧ ds.length ≤ i.toNat) ∧ Aside0 (Scr w w' g gs b i e es ds))
  case atStart => exact ⟨b.length + 1, 0, 0, [], [], ⟨Nat.le_refl _⟩, ⟨HRR.out.symm⟩, ⟨fun _ => ⟨by omega, by simp, by simp⟩⟩, HS⟩
  case round =>
    clear c0 c1 c2 cg0 cg1 f0 f1 HS1 HS3 HS4 HS
    clear HRR
    obtain ⟨kf, i, e, es, ds, HKF, HL, HM, HS⟩ := hrel
    obtain ⟨Ab, cb, hgb, hgg, hgr⟩ := HS.out.st
    have c0 := cellS48_0 hgb
    have c1 := cellS48_1 hgb
    have c2 := cellS48_2 hgb
    obtain ⟨ve, vd, hs1, hs2, hs3, hs4⟩ := HS.out.sc
    obtain ⟨Ae, ce, he_⟩ := Kd.R_slice hs3
    obtain ⟨Ad, cd, hd_⟩ := Kd.R_slice hs4
    subst he_ hd_
    have cg0 := cell27_0 hs1
    have cg1 := cell27_1 hs1
    have f0 := blk_frozen hs1 0
    have f1 := blk_frozen hs1 1
    have HS1 := Aside0.mk hs1
    have HS3 := Aside0.mk hs3
    have HS4 := Aside0.mk hs4
    clear hgb hgg hgr hs1 hs2 hs3 hs4
    by_cases he : e = 0
    · have de : (e == 0) = true := beq_iff_eq.2 he
      by_cases hi : i < (b.length : Int)
      · have di : decide (i < (b.length : Int)) = true := decide_eq_true hi
        subst he
        have hm := HM.out (by first | rfl | trivial)
        have hb := HOK.out.1
        obtain ⟨k1, hk1⟩ : ∃ k1, kf = k1 + 1 := ⟨kf - 1, by omega⟩
        have hi0 : 0 ≤ i := HS.out.inb.1
        have HL2 := Aside0.mk (show loopS b k1 (oneS b i es ds).1 (oneS b i es ds).2.1 (oneS b i es ds).2.2.1 (oneS b i es ds).2.2.2 = R by rw [← HL.out, hk1, loopS_in b k1 i es ds hi])
        have HK1 := Aside0.mk hk1
        have HF := Aside0.mk (one_fwd b i es ds hi0)
        have HI0 := Aside0.mk hi0
        have HI1 := Aside0.mk hi
        have hle : es.length ≤ 1048576 := by omega
        have hld : ds.length ≤ 1048576 := by omega
        have HLE := Aside0.mk hle
        have HLD := Aside0.mk hld
        clear hm hb hk1 hi0 hi hle hld
        go_wp2_with (first | (go_at_call 17; refine (one_q g gs b i es ds w _ (by repeat (first | (with_reducible exact HS.out) | (with_reducible apply Scr.drewN) | (with_reducible apply Scr.drew) | (with_reducible apply Scr.alloc) | exact HS.out)) HI1.out HLE.out HLD.out).mono ?_; rintro ew wf ⟨rfl, HS_⟩; clear HS; have HS := Aside0.mk HS_; clear HS_) | ((with_reducible apply wp_scope_fwd 0); rfl) | (with_reducible refine wp_label ?_) | (with_reducible refine wp_goto ?_) | (with_reducible refine Exit.fwd_goto ?_) | (with_reducible refine Exit.fwd_other rfl ?_) | (with_reducible refine Exit.noGoto_other rfl ?_))
        go_roundg k1
        case measure => have h1 := HK1.out; have h2 := HKF.out; omega
        case rel =>
          refine ⟨k1, _, _, _, _, ⟨Nat.le_refl _⟩, HL2, ⟨fun h0 => ?_⟩, HS⟩
          have h1 := HF.out h0
          have h2 := HM.out (by first | rfl | trivial)
          have h3 := HK1.out
          have h4 := HI0.out
          have h5 := HI1.out
          exact ⟨by omega, by omega, by omega⟩
      · have di : decide (i < (b.length : Int)) = false := decide_eq_false hi
        subst he
        have hR : R = (i, 0, es, ds) := by rw [← HL.out]; exact loopS_out b kf i 0 es ds (fun h => hi h.2)
        have HP2 := Aside0.mk (show parseS b = (es, ds, 0, (b.length : Int)) by rw [HP.out, hR]; rfl)
        clear hR hi
        go_wp2_with (first | ((with_reducible apply wp_scope_fwd 0); rfl) | (with_reducible refine wp_label ?_) | (with_reducible refine wp_goto ?_) | (with_reducible refine Exit.fwd_goto ?_) | (with_reducible refine Exit.fwd_other rfl ?_) | (with_reducible refine Exit.noGoto_other rfl ?_))
        obtain ⟨hz1, hz2, hz3, hz4⟩ := Scr.back HS.out HS1.out HS3.out HS4.out
        refine bodyPost_ret (results_ctt rfl _ _ gs 27 #[.slice Ae es.length ce, .slice Ad ds.length cd] (0, 0) _ rfl hz1 Try.underlying27 rfl (by kernel_rfl)) rfl ?_
        rw [HP2.out]
        exact ⟨_, _, rfl, hz2, hz3, hz4⟩
    · have de : (e == 0) = false := beq_eq_false_iff_ne.2 he
      have de2 : (e != 0) = true := by simp [he]
      have hR : R = (i, e, es, ds) := by rw [← HL.out]; exact loopS_out b kf i e es ds (fun h => he h.1)
      have HP2 := Aside0.mk (show parseS b = ([], [], e, i) by rw [HP.out, hR]; exact if_pos he)
      clear hR he
      go_upto_region 7 with (first | ((with_reducible apply wp_scope_fwd 0); rfl) | (with_reducible refine wp_label ?_) | (with_reducible refine wp_goto ?_) | (with_reducible refine Exit.fwd_goto ?_) | (with_reducible refine Exit.fwd_other rfl ?_) | (with_reducible refine Exit.noGoto_other rfl ?_))
      go_region
      go_wp2
      obtain ⟨hz1, hz2, hz3, hz4⟩ := Scr.back (u0 := .slice none 0 0) (u1 := .slice none 0 0) HS.out.drew (blk_drew HS1.out) (Kd.R_nil _ _ _ _ _) (Kd.R_nil _ _ _ _ _)
      refine bodyPost_ret (results_ctt rfl _ _ gs 27 #[.slice none 0 0, .slice none 0 0] (0, 0) _ rfl hz1 Try.underlying27 rfl (by kernel_rfl)) rfl ?_
      rw [HP2.out]
      exact ⟨_, _, rfl, hz2, hz3, hz4⟩
end Go.Proofs.Yteenpfdpokekgaa.PS0
