/- A part of the proofs over this seat. -/
import Derived.Test.YthicacphcljdmaaQAbsDs
namespace Go.Abs
set_option linter.unusedVariables false
set_option linter.unusedSimpArgs false
section
variable {E : Env} {ops : List Oper} {o : Oper} {st st' st2 : St} {H H' : Hp} {alts : List (Nat × Nat × Nat)} {bs : Vb} {hs : Vh} {tr : Nat → St × Hp}
/-- An operation at one place, seen from another. -/
structure Tmpl (E : Env) (ops : List Oper) (o : Oper) (sF : List Slot) (n0 : Nat) (bs : Vb) (hs : Vh) (k l : Nat) (s : List Slot) : Prop where
  len : s.length = n0
  go : ∀ (sx : List Slot), sx.length = n0 → (∀ t ∈ looks ops o, sx.getD t (.v .undef) = s.getD t (.v .undef)) → ∀ b r H, bs[k]? = some b → hs[l]? = some (r, H) →
    ∃ x b' r' H', stepO E ops o ⟨sx, b, r⟩ H = some (.normal, ⟨setD sx o.dst x, b', r'⟩, H') ∧ bs[k + (effB E.mode o).toNat]? = some b' ∧ hs[l + (effH E.mode o).toNat]? = some (r', H') ∧
      ∀ d, o.dst = some d → d < n0 → x = sF.getD d (.v .undef)
theorem setD_inj {s : List Slot} {d : Option Nat} {x y : Slot} (h : setD s d x = setD s d y) : ∀ k, d = some k → k < s.length → x = y := by
  intro k hk hl
  subst hk
  have := congrArg (fun l => l.getD k (.v .undef)) h
  simp only [getD_setD] at this
  simpa [hl] using this
theorem tmpl_own (F : ∀ i o, ops[i]? = some o → OpF E.mode alts ops i o) (T : Tr E ops st H st' H' bs hs tr) {i : Nat} (ho : ops[i]? = some o) :
    Tmpl E ops o st'.s st.s.length bs hs (cnt ops.length (fun j => decide (j < i)) (eBat E.mode ops)) (cnt ops.length (fun j => decide (j < i)) (eHat E.mode ops)) (tr i).1.s := by
  have hi : i < ops.length := (List.getElem?_eq_some_iff.1 ho).1
  have J0 := J_tr F T i (by omega)
  have J1 := J_tr F T (i + 1) (by omega)
  refine ⟨J0.len, fun sx hsl hag b r H1 hb hh => ?_⟩
  rw [J0.b] at hb
  rw [J0.h] at hh
  cases hb; cases hh
  obtain ⟨⟨x, x1, x2⟩, nb, nh⟩ := stepO_loc (T.step i o ho) (st2 := ⟨sx, (tr i).1.b, (tr i).1.r⟩) rfl rfl hag
  refine ⟨x, _, _, _, x2, ?_, ?_, fun d hd hdl => ?_⟩
  · have := J1.b
    rw [show cnt ops.length (fun j => decide (j < i + 1)) (eBat E.mode ops) = cnt ops.length (fun j => decide (j < i)) (eBat E.mode ops) + (effB E.mode o).toNat by
      rw [show (effB E.mode o) = eBat E.mode ops i by unfold eBat; rw [ho]; rfl, ← cnt_set (by simp) ops.length hi]
      exact cnt_congr fun j hj => by
        by_cases e : j = i
        · subst e; simp
        · have e1 : (j == i) = false := by simp [e]
          rw [e1, Bool.false_or]; by_cases e2 : j < i <;> simp [e2] <;> omega] at this
    exact this
  · have := J1.h
    rw [show cnt ops.length (fun j => decide (j < i + 1)) (eHat E.mode ops) = cnt ops.length (fun j => decide (j < i)) (eHat E.mode ops) + (effH E.mode o).toNat by
      rw [show (effH E.mode o) = eHat E.mode ops i by unfold eHat; rw [ho]; rfl, ← cnt_set (by simp) ops.length hi]
      exact cnt_congr fun j hj => by
        by_cases e : j = i
        · subst e; simp
        · have e1 : (j == i) = false := by simp [e]
          rw [e1, Bool.false_or]; by_cases e2 : j < i <;> simp [e2] <;> omega] at this
    exact this
  · have h1 := J1.sl1 d i hi (by simp) (by unfold dstAt; rw [ho]; exact hd)
    rw [x1, getD_setD, if_pos ⟨hd, by rw [J0.len]; exact hdl⟩] at h1
    exact h1
theorem tmpl_alt {k l : Nat} {i : Nat} (ho : ops[i]? = some o) (hc : chk1 E ops st'.s bs hs (i, k, l)) : Tmpl E ops o st'.s st'.s.length bs hs k l st'.s := by
  refine ⟨rfl, fun sx hsl hag b r H1 hb hh => ?_⟩
  unfold chk1 at hc
  simp only [ho, hb, hh] at hc
  cases hb2 : bs[k + (effB E.mode o).toNat]? with
  | none => rw [hb2] at hc; exact hc.elim
  | some b' =>
    cases hh2 : hs[l + (effH E.mode o).toNat]? with
    | none => rw [hb2, hh2] at hc; exact hc.elim
    | some q =>
      obtain ⟨r', H'⟩ := q
      rw [hb2, hh2] at hc
      simp only at hc
      obtain ⟨⟨x, x1, x2⟩, nb, nh⟩ := stepO_loc hc (st2 := ⟨sx, b, r⟩) rfl rfl hag
      refine ⟨x, _, _, _, x2, rfl, rfl, fun d hd hdl => ?_⟩
      simp only at x1
      have := setD_inj x1 d hd hdl
      rw [← this]
      unfold dslot
      rw [hd]
theorem tmpl_free (F : ∀ i o, ops[i]? = some o → OpF E.mode alts ops i o) (T : Tr E ops st H st' H' bs hs tr) {i : Nat} (ho : ops[i]? = some o) (hf : freeOp o = true) (k l : Nat) : Tmpl E ops o st'.s st.s.length bs hs k l (tr i).1.s := by
  have hi : i < ops.length := (List.getElem?_eq_some_iff.1 ho).1
  have J0 := J_tr F T i (by omega)
  have J1 := J_tr F T (i + 1) (by omega)
  refine ⟨J0.len, fun sx hsl hag b r H1 hb hh => ?_⟩
  obtain ⟨x, x1, x2⟩ := stepO_free hf (T.step i o ho) b r H1
  obtain ⟨⟨y, y1, y2⟩, nb, nh⟩ := stepO_loc x2 (st2 := ⟨sx, b, r⟩) rfl rfl hag
  obtain ⟨e1, e2⟩ := free_eff hf E.mode
  refine ⟨y, _, _, _, y2, by rw [e1]; simpa using hb, by rw [e2]; simpa using hh, fun d hd hdl => ?_⟩
  simp only at y1
  rw [← setD_inj y1 d hd (by rw [J0.len]; exact hdl)]
  have h1 := J1.sl1 d i hi (by simp) (by unfold dstAt; rw [ho]; exact hd)
  rw [x1, getD_setD, if_pos ⟨hd, by rw [J0.len]; exact hdl⟩] at h1
  exact h1
theorem J_step (F : ∀ i o, ops[i]? = some o → OpF E.mode alts ops i o) (T : Tr E ops st H st' H' bs hs tr) (hchk : ∀ p ∈ alts, chk1 E ops st'.s bs hs p)
    {D : Nat → Bool} (hd : Down ops D) {i : Nat} (ho : ops[i]? = some o) (nD : D i = false) (hr : ∀ e ∈ o.after.toList, Region.binds .any e = true → D e.on = true) {s1 : St} {H1 : Hp}
    (hJ : J E ops st.s st'.s bs hs D s1 H1) : ∃ s2 H2, stepO E ops o s1 H1 = some (.normal, s2, H2) ∧ J E ops st.s st'.s bs hs (fun j => j == i || D j) s2 H2 := by
  have hi : i < ops.length := (List.getElem?_eq_some_iff.1 ho).1
  have Fi := F i o ho
  have hpr : ∀ j, prec (masks ops []) j i = true → D j = true ∧ j < i := fun j hj => hd.prec F i ho hr hj
  have hpo : ∀ j, j < ops.length → prec (masks ops []) i j = true → D j = false ∧ i < j := fun j hj hp => by
    have hoj : ops[j]? = some ops[j] := List.getElem?_eq_getElem _
    cases hDj : D j with
    | false =>
      refine ⟨rfl, ?_⟩
      obtain ⟨e, e1, e2, e3⟩ := prec_edge hoj (F j _ hoj).ed hp
      have hlt := (F j _ hoj).ed e e1 e2
      -- by way of the whole set
      have hall : Down ops (fun _ => true) := fun _ _ _ _ _ _ _ => rfl
      exact (hall.prec F j hoj (fun _ _ _ => rfl) hp).2
    | true =>
      have := (hd.prec F j hoj (hd j _ hoj hDj) hp).1
      rw [nD] at this; cases this
  have hwb1 : cnt ops.length (fun j => prec (masks ops []) j i) (eBat E.mode ops) ≤ cnt ops.length D (eBat E.mode ops) := cnt_mono fun j hj hp _ => (hpr j hp).1
  have hwb2 : cnt ops.length D (eBat E.mode ops) ≤ cnt ops.length (fun j => j != i && !prec (masks ops []) i j) (eBat E.mode ops) := cnt_mono fun j hj hp _ => by
    simp only [Bool.and_eq_true, bne_iff_ne, ne_eq, Bool.not_eq_true']
    refine ⟨(fun e => by rw [e, nD] at hp; cases hp), ?_⟩
    cases hq : prec (masks ops []) i j with
    | false => rfl
    | true => rw [(hpo j hj hq).1] at hp; cases hp
  have hwh1 : cnt ops.length (fun j => prec (masks ops []) j i) (eHat E.mode ops) ≤ cnt ops.length D (eHat E.mode ops) := cnt_mono fun j hj hp _ => (hpr j hp).1
  have hwh2 : cnt ops.length D (eHat E.mode ops) ≤ cnt ops.length (fun j => j != i && !prec (masks ops []) i j) (eHat E.mode ops) := cnt_mono fun j hj hp _ => by
    simp only [Bool.and_eq_true, bne_iff_ne, ne_eq, Bool.not_eq_true']
    refine ⟨(fun e => by rw [e, nD] at hp; cases hp), ?_⟩
    cases hq : prec (masks ops []) i j with
    | false => rfl
    | true => rw [(hpo j hj hq).1] at hp; cases hp
  -- the text's own place agrees
  have J0 := J_tr F T i (by omega)
  have Jn := J_tr F T ops.length (Nat.le_refl _)
  rw [T.last] at Jn
  have agOwn : ∀ t ∈ looks ops o, s1.s.getD t (.v .undef) = (tr i).1.s.getD t (.v .undef) := fun t ht => by
    by_cases hex : ∃ j, j < ops.length ∧ dstAt ops j = some t
    · obtain ⟨j, hj, hjt⟩ := hex
      obtain ⟨hne, hp | hp⟩ := Fi.rd t ht j hj hjt
      · obtain ⟨g1, g2⟩ := hpr j hp
        rw [hJ.sl1 t j hj g1 hjt, J0.sl1 t j hj (by simpa using g2) hjt]
      · obtain ⟨g1, g2⟩ := hpo j hj hp
        rw [hJ.sl2 t (fun k hk hDk hkt => by rw [dst_inj F hj hk hjt hkt, g1] at hDk; cases hDk),
          J0.sl2 t (fun k hk hDk hkt => by rw [dst_inj F hj hk hjt hkt] at hDk; simp at hDk; omega)]
    · have hno : ∀ j, j < ops.length → dstAt ops j ≠ some t := fun j hj e => hex ⟨j, hj, e⟩
      rw [hJ.sl2 t (fun j hj _ => hno j hj), J0.sl2 t (fun j hj _ => hno j hj)]
  have key : ∃ s, Tmpl E ops o st'.s st.s.length bs hs (cnt ops.length D (eBat E.mode ops)) (cnt ops.length D (eHat E.mode ops)) s ∧ ∀ t ∈ looks ops o, s1.s.getD t (.v .undef) = s.getD t (.v .undef) := by
    rcases Fi.wi with hf | hw
    · exact ⟨_, tmpl_free F T ho hf _ _, agOwn⟩
    · rcases hw _ _ hwb1 hwb2 hwh1 hwh2 with ⟨e1, e2⟩ | hal
      · rw [e1, e2]; exact ⟨_, tmpl_own F T ho, agOwn⟩
      · have := tmpl_alt ho (hchk _ hal)
        rw [Jn.len] at this
        refine ⟨_, this, fun t ht => ?_⟩
        by_cases hex : ∃ j, j < ops.length ∧ dstAt ops j = some t
        · obtain ⟨j, hj, hjt⟩ := hex
          obtain ⟨hne, hp | hp⟩ := Fi.rd t ht j hj hjt
          · exact hJ.sl1 t j hj (hpr j hp).1 hjt
          · have := Fi.al ⟨_, hal, rfl⟩ t ht j hj hjt
            have := (hpo j hj hp).2
            omega
        · have hno : ∀ j, j < ops.length → dstAt ops j ≠ some t := fun j hj e => hex ⟨j, hj, e⟩
          rw [hJ.sl2 t (fun j hj _ => hno j hj), Jn.sl2 t (fun j hj _ => hno j hj)]
  obtain ⟨s, hT, hag⟩ := key
  obtain ⟨x, b', r', H2, g1, g2, g3, g4⟩ := hT.go s1.s hJ.len hag _ _ _ hJ.b hJ.h
  refine ⟨_, _, g1, ?_⟩
  have hdi : dstAt ops i = o.dst := by unfold dstAt; rw [ho]; rfl
  refine ⟨by rw [length_setD]; exact hJ.len, fun t j hj hD' hjt => ?_, fun t hno => ?_, ?_, ?_⟩
  · rw [getD_setD]
    by_cases e : o.dst = some t ∧ t < s1.s.length
    · rw [if_pos e]; exact g4 t e.1 (by rw [← hJ.len]; exact e.2)
    · rw [if_neg e]
      simp only [Bool.or_eq_true, beq_iff_eq] at hD'
      rcases hD' with rfl | hD'
      · rw [hdi] at hjt
        have hlen : ¬ t < s1.s.length := fun h => e ⟨hjt, h⟩
        rw [List.getD_eq_getElem?_getD, List.getElem?_eq_none (by omega), List.getD_eq_getElem?_getD, List.getElem?_eq_none (by rw [Jn.len, ← hJ.len]; omega)]
      · exact hJ.sl1 t j hj hD' hjt
  · rw [getD_setD, if_neg (fun e => hno i hi (by simp) (by rw [hdi]; exact e.1))]
    exact hJ.sl2 t (fun j hj hDj => hno j hj (by simp [hDj]))
  · rw [cnt_set nD ops.length hi, show eBat E.mode ops i = effB E.mode o by unfold eBat; rw [ho]; rfl]; exact g2
  · rw [cnt_set nD ops.length hi, show eHat E.mode ops i = effH E.mode o by unfold eHat; rw [ho]; rfl]; exact g3
theorem J_end (F : ∀ i o, ops[i]? = some o → OpF E.mode alts ops i o) (T : Tr E ops st H st' H' bs hs tr) {D : Nat → Bool} (hall : ∀ j, j < ops.length → D j = true) {s1 : St} {H1 : Hp}
    (hJ : J E ops st.s st'.s bs hs D s1 H1) : s1 = st' ∧ H1 = H' := by
  have Jn := J_tr F T ops.length (Nat.le_refl _)
  rw [T.last] at Jn
  have e1 : ∀ e, cnt ops.length D e = cnt ops.length (fun j => decide (j < ops.length)) e := fun e => cnt_congr fun j hj => by rw [hall j hj]; simp [hj]
  have hb := hJ.b
  rw [e1, Jn.b] at hb
  have hh := hJ.h
  rw [e1, Jn.h] at hh
  simp only [Option.some.injEq, Prod.mk.injEq] at hb hh
  have hs : s1.s = st'.s := by
    refine List.ext_getElem? fun t => ?_
    by_cases ht : t < s1.s.length
    · have ht2 : t < st'.s.length := by rw [Jn.len, ← hJ.len]; exact ht
      have hg : s1.s.getD t (.v .undef) = st'.s.getD t (.v .undef) := by
        by_cases hex : ∃ j, j < ops.length ∧ dstAt ops j = some t
        · obtain ⟨j, hj, hjt⟩ := hex
          exact hJ.sl1 t j hj (hall j hj) hjt
        · have hno : ∀ j, j < ops.length → dstAt ops j ≠ some t := fun j hj e => hex ⟨j, hj, e⟩
          rw [hJ.sl2 t (fun j hj _ => hno j hj), Jn.sl2 t (fun j hj _ => hno j hj)]
      simp only [List.getD_eq_getElem?_getD] at hg
      rw [List.getElem?_eq_getElem ht, List.getElem?_eq_getElem ht2] at hg ⊢
      simpa using hg
    · rw [List.getElem?_eq_none (by omega), List.getElem?_eq_none (by rw [Jn.len, ← hJ.len]; omega)]
  obtain ⟨s1s, s1b, s1r⟩ := s1
  obtain ⟨s2s, s2b, s2r⟩ := st'
  simp only at hs hb hh
  subst hs
  exact ⟨by rw [hb, hh.1], hh.2.symm⟩
def unl (n : Nat) (D : Nat → Bool) : Nat := cnt n (fun j => !D j) (fun _ => true)
theorem unl_set {n i : Nat} {D : Nat → Bool} (hi : i < n) (nD : D i = false) : unl n (fun j => j == i || D j) + 1 = unl n D := by
  unfold unl
  have h1 := cnt_set (i := i) (D := fun j => !(j == i || D j)) (e := fun _ => true) (by simp) n hi
  rw [show cnt n (fun j => !D j) (fun _ => true) = cnt n (fun j => j == i || !(j == i || D j)) (fun _ => true) from cnt_congr fun j hj => by
    by_cases e : j = i
    · subst e; simp [nD]
    · have e1 : (j == i) = false := by simp [e]
      rw [e1]; simp, h1]
  simp
theorem unl_zero {n : Nat} {D : Nat → Bool} (h : unl n D = 0) : ∀ j, j < n → D j = true := fun j hj => by
  unfold unl cnt at h
  rw [List.countP_eq_zero] at h
  have := h j (List.mem_range.2 hj)
  simpa using this
theorem go_evOps (F : ∀ i o, ops[i]? = some o → OpF E.mode alts ops i o) (T : Tr E ops st H st' H' bs hs tr) (hchk : ∀ p ∈ alts, chk1 E ops st'.s bs hs p) :
    ∀ (fuel t : Nat) (listed : Array Bool) (s1 : St) (H1 : Hp), listed.size = ops.length → Down ops (fun j => listed.getD j false) → unl ops.length (fun j => listed.getD j false) ≤ fuel →
      J E ops st.s st'.s bs hs (fun j => listed.getD j false) s1 H1 →
      evOps E ops ((Region.linearise.go .any ops.toArray fuel t listed []).filterMap (ops[·]?)) s1 H1 = some (.normal, st', H')
  | 0, t, listed, s1, H1, hsz, hd, hu, hJ => by
    obtain ⟨e1, e2⟩ := J_end F T (unl_zero (by omega)) hJ
    simp [Region.linearise.go, evOps, e1, e2]
  | fuel + 1, t, listed, s1, H1, hsz, hd, hu, hJ => by
    simp only [Region.linearise.go]
    generalize hrs : ((List.range ops.toArray.size).filter fun i => !listed.getD i true && ((ops.toArray[i]?).map (·.after.all fun e => !Region.binds .any e || listed.getD e.on false)).getD false) = rs
    cases hpick : rs[t % rs.length]? with
    | none =>
      have hnil : rs = [] := by
        cases rs with
        | nil => rfl
        | cons x xs =>
          have hlt : t % (x :: xs).length < (x :: xs).length := Nat.mod_lt _ (by simp)
          rw [List.getElem?_eq_getElem hlt] at hpick; cases hpick
      -- nothing is ready: all is done
      have hall : ∀ j, j < ops.length → listed.getD j false = true := by
        intro j
        induction j using Nat.strongRecOn with
        | ind j ih =>
          intro hj
          cases hlj : listed.getD j false with
          | true => rfl
          | false =>
            have hoj : ops[j]? = some ops[j] := List.getElem?_eq_getElem _
            have hmem : j ∈ rs := by
              rw [← hrs, List.mem_filter]
              refine ⟨by simpa using hj, ?_⟩
              rw [Bool.and_eq_true]
              constructor
              · simp only [Array.getD_eq_getD_getElem?] at hlj ⊢
                rw [Array.getElem?_eq_getElem (by omega)] at hlj ⊢
                simpa using hlj
              · rw [List.getElem?_toArray, hoj]
                simp only [Option.map_some, Option.getD_some, Array.all_eq_true']
                intro e he
                simp only [Bool.or_eq_true, Bool.not_eq_true']
                cases hb : Region.binds .any e with
                | false => exact .inl rfl
                | true =>
                  have hlt := (F j _ hoj).ed e (by simpa using he) hb
                  exact .inr (ih e.on hlt (by omega))
            rw [hnil] at hmem; cases hmem
      obtain ⟨e1, e2⟩ := J_end F T hall hJ
      simp [evOps, e1, e2]
    | some i =>
      simp only []
      rw [linearise_go_acc, List.reverse_singleton, List.singleton_append]
      have hmem := List.mem_of_getElem? hpick
      rw [← hrs, List.mem_filter, Bool.and_eq_true] at hmem
      obtain ⟨m1, m2, m3⟩ := hmem
      have hi : i < ops.length := by simpa using m1
      have hoi : ops[i]? = some ops[i] := List.getElem?_eq_getElem _
      have nD : listed.getD i false = false := by
        simp only [Array.getD_eq_getD_getElem?] at m2 ⊢
        rw [Array.getElem?_eq_getElem (by omega)] at m2 ⊢
        simpa using m2
      rw [List.getElem?_toArray, hoi] at m3
      simp only [Option.map_some, Option.getD_some, Array.all_eq_true'] at m3
      have hr : ∀ e ∈ ops[i].after.toList, Region.binds .any e = true → listed.getD e.on false = true := fun e he hb => by
        have := m3 e (by simpa using he)
        rw [hb] at this
        simpa using this
      obtain ⟨s2, H2, g1, g2⟩ := J_step F T hchk hd hoi nD hr hJ
      have hD : ∀ j, (listed.setIfInBounds i true).getD j false = (j == i || listed.getD j false) := fun j => by
        simp only [Array.getD_eq_getD_getElem?, Array.getElem?_setIfInBounds]
        by_cases e : i = j
        · subst e; simp [hsz, hi]
        · have : (j == i) = false := by simp; exact fun h => e h.symm
          rw [if_neg e, this]; simp
      rw [List.filterMap_cons, hoi]
      simp only
      rw [evOps_step, g1]
      simp only
      refine go_evOps F T hchk fuel _ _ s2 H2 (by simp [hsz]) ?_ ?_ ?_
      · intro j oj hoj hDj e he hb
        simp only [hD] at hDj ⊢
        simp only [Bool.or_eq_true, beq_iff_eq] at hDj ⊢
        rcases hDj with rfl | hDj
        · rw [hoi] at hoj; cases hoj; exact .inr (hr e he hb)
        · exact .inr (hd j oj hoj hDj e he hb)
      · have := unl_set (D := fun j => listed.getD j false) hi nD
        rw [show (fun j => (listed.setIfInBounds i true).getD j false) = fun j => j == i || listed.getD j false from funext hD]
        omega
      · rw [show (fun j => (listed.setIfInBounds i true).getD j false) = fun j => j == i || listed.getD j false from funext hD]
        exact g2
/-- All orders of a region come to what the text's order comes to. -/
theorem sched_same (hok : drawOk E.mode alts ops = true) (hrun : drawRun E ops ops st H [st.b] [(st.r, H)] = some (st', H', bs, hs)) (hchk : ∀ p ∈ alts, chk1 E ops st'.s bs hs p) (t : Nat) :
    evOps E ops ((Region.schedule true ops.toArray t).filterMap (ops[·]?)) st H = some (.normal, st', H') := by
  obtain ⟨tr, T⟩ := tr_of hrun
  have F : ∀ i o, ops[i]? = some o → OpF E.mode alts ops i o := fun i o ho => opF hok ho
  simp only [Region.schedule, Bool.true_or, if_true, Region.linearise]
  have J0 := J_tr F T 0 (Nat.zero_le _)
  rw [T.zero] at J0
  have e0 : (fun j => (Array.replicate ops.toArray.size false).getD j false) = fun j => decide (j < 0) := funext fun j => by
    simp [Array.getD_eq_getD_getElem?, Array.getElem?_replicate]
    split <;> rfl
  refine go_evOps F T hchk _ t _ st H (by simp) ?_ ?_ ?_
  · rw [e0]; intro j o _ hD; simp at hD
  · rw [e0]
    unfold unl cnt
    refine Nat.le_trans List.countP_le_length ?_
    simp
  · rw [e0]; exact J0
end
end Go.Abs
