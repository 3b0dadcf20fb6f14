/- A part of the proofs over this seat. -/
import Derived.Test.YthicacphcljdmaaQAbsDr
namespace Go.Abs
set_option linter.unusedVariables false
set_option linter.unusedSimpArgs false
theorem cnt_mono {n : Nat} {D D' e : Nat → Bool} (h : ∀ j, j < n → D j = true → e j = true → D' j = true) : cnt n D e ≤ cnt n D' e := by
  unfold cnt
  refine List.countP_mono_left fun j hj hh => ?_
  simp only [Bool.and_eq_true] at hh ⊢
  exact ⟨h j (List.mem_range.1 hj) hh.1 hh.2, hh.2⟩
theorem cnt_congr {n : Nat} {D D' e : Nat → Bool} (h : ∀ j, j < n → D j = D' j) : cnt n D e = cnt n D' e := by
  unfold cnt
  refine List.countP_congr fun j hj => ?_
  rw [h j (List.mem_range.1 hj)]
theorem cnt_succ (n : Nat) (D e : Nat → Bool) : cnt (n + 1) D e = cnt n D e + (D n && e n).toNat := by
  unfold cnt
  rw [List.range_succ, List.countP_append]
  cases h : (D n && e n) <;> simp [List.countP_cons, h]
theorem cnt_set {i : Nat} {D e : Nat → Bool} (hD : D i = false) : ∀ (n : Nat), i < n → cnt n (fun j => j == i || D j) e = cnt n D e + (e i).toNat
  | 0, h => by omega
  | n + 1, h => by
    rw [cnt_succ, cnt_succ]
    by_cases hi : i = n
    · subst hi
      rw [show cnt i (fun j => j == i || D j) e = cnt i D e from cnt_congr fun j hj => by
        have : (j == i) = false := by simp; omega
        rw [this]; simp]
      simp [hD]
    · rw [cnt_set hD n (by omega)]
      have : (n == i) = false := by simp; omega
      rw [this]
      simp only [Bool.false_or]
      omega
theorem cnt_take (md : Nat → Mode) (f : (Nat → Mode) → Oper → Bool) (ops : List Oper) : ∀ (i : Nat), i ≤ ops.length → cnt ops.length (fun j => decide (j < i)) (fun j => (ops[j]?).any (f md)) = (ops.take i).countP (f md)
  | 0, h => by simp [cnt]
  | i + 1, h => by
    have h1 := cnt_set (i := i) (D := fun j => decide (j < i)) (e := fun j => (ops[j]?).any (f md)) (by simp) ops.length (by omega)
    have h2 : cnt ops.length (fun j => decide (j < i + 1)) (fun j => (ops[j]?).any (f md)) = cnt ops.length (fun j => j == i || decide (j < i)) (fun j => (ops[j]?).any (f md)) := cnt_congr fun j hj => by
      by_cases e : j = i
      · subst e; simp
      · have e1 : (j == i) = false := by simp [e]
        rw [e1, Bool.false_or]
        by_cases e2 : j < i
        · simp [e2]; omega
        · simp [e2]; omega
    rw [h2, h1, cnt_take md f ops i (by omega), List.take_add_one, List.countP_append]
    congr 1
    rw [List.getElem?_eq_getElem (by omega)]
    simp only [Option.any_some, Option.toList_some, List.countP_cons, List.countP_nil]
    cases f md ops[i] <;> rfl
structure OpF (md : Nat → Mode) (alts : List (Nat × Nat × Nat)) (ops : List Oper) (i : Nat) (o : Oper) : Prop where
  ed : ∀ e ∈ o.after.toList, Region.binds .any e = true → e.on < i
  ds : ∀ j, j < ops.length → j ≠ i → ∀ d, o.dst = some d → dstAt ops j ≠ some d
  rd : ∀ x ∈ looks ops o, ∀ j, j < ops.length → dstAt ops j = some x → j ≠ i ∧ (prec (masks ops []) j i = true ∨ prec (masks ops []) i j = true)
  wi : freeOp o = true ∨ ∀ k l, cnt ops.length (fun j => prec (masks ops []) j i) (eBat md ops) ≤ k → k ≤ cnt ops.length (fun j => j != i && !prec (masks ops []) i j) (eBat md ops) →
    cnt ops.length (fun j => prec (masks ops []) j i) (eHat md ops) ≤ l → l ≤ cnt ops.length (fun j => j != i && !prec (masks ops []) i j) (eHat md ops) →
    (k = cnt ops.length (fun j => decide (j < i)) (eBat md ops) ∧ l = cnt ops.length (fun j => decide (j < i)) (eHat md ops)) ∨ (i, k, l) ∈ alts
  al : (∃ p ∈ alts, p.1 = i) → ∀ x ∈ looks ops o, ∀ j, j < ops.length → dstAt ops j = some x → j ≤ i
theorem opF {md : Nat → Mode} {alts : List (Nat × Nat × Nat)} {ops : List Oper} (h : drawOk md alts ops = true) {i : Nat} {o : Oper} (ho : ops[i]? = some o) : OpF md alts ops i o := by
  have hi : i < ops.length := (List.getElem?_eq_some_iff.1 ho).1
  have h1 := List.all_eq_true.1 h i (List.mem_range.2 hi)
  rw [ho] at h1
  simp only [opOk, Bool.and_eq_true, Bool.or_eq_true, List.all_eq_true, List.mem_range] at h1
  obtain ⟨⟨⟨⟨a1, a2⟩, a3⟩, a4⟩, a5⟩ := h1
  refine ⟨fun e he hb => ?_, fun j hj hji d hd => ?_, fun x hx j hj hd => ?_, ?_, fun ⟨p, p1, p2⟩ x hx j hj hd => ?_⟩
  · rcases a1 e he with h2 | h2
    · rw [hb] at h2; simp at h2
    · simpa using h2
  · rcases a2 with h2 | h2
    · rw [hd] at h2; cases h2
    · rcases h2 j hj with h3 | h3
      · simp at h3; exact absurd h3 hji
      · intro e; rw [e, hd] at h3; simp at h3
  · rcases a3 x hx j hj with h2 | h2
    · rw [hd] at h2; simp at h2
    · exact ⟨by simpa using h2.1, h2.2⟩
  · refine a4.imp id fun h2 k l k1 k2 l1 l2 => ?_
    rcases h2 k (by omega) with h3 | h3
    · simp at h3; omega
    · rcases h3 l (by omega) with (h4 | h4) | h4
      · simp at h4; omega
      · exact .inl (by simpa using h4)
      · exact .inr (by simpa using h4)
  · rcases a5 with h2 | h2
    · have : (alts.any fun p => p.1 == i) = true := List.any_eq_true.2 ⟨p, p1, by simp [p2]⟩
      rw [this] at h2; cases h2
    · rcases h2 x hx j hj with h3 | h3
      · simpa using h3
      · rw [hd] at h3; simp at h3
section
variable {E : Env} {ops : List Oper} {o : Oper} {st st' st2 : St} {H H' : Hp} {alts : List (Nat × Nat × Nat)}
/-- The run in the text's order -/
structure Tr (E : Env) (ops : List Oper) (st : St) (H : Hp) (st' : St) (H' : Hp) (bs : Vb) (hs : Vh) (tr : Nat → St × Hp) : Prop where
  zero : tr 0 = (st, H)
  last : tr ops.length = (st', H')
  step : ∀ (i : Nat) (o : Oper), ops[i]? = some o → stepO E ops o (tr i).1 (tr i).2 = some (.normal, (tr (i + 1)).1, (tr (i + 1)).2)
  vb : ∀ i, i ≤ ops.length → bs[cnt ops.length (fun j => decide (j < i)) (eBat E.mode ops)]? = some (tr i).1.b
  vh : ∀ i, i ≤ ops.length → hs[cnt ops.length (fun j => decide (j < i)) (eHat E.mode ops)]? = some ((tr i).1.r, (tr i).2)
theorem drawRun_tr : ∀ (rest : List Oper) {st : St} {H : Hp} {bs : Vb} {hs : Vh} {st' : St} {H' : Hp} {bs' : Vb} {hs' : Vh} {m k : Nat}, drawRun E ops rest st H bs hs = some (st', H', bs', hs') →
    bs.length = m + 1 → bs[m]? = some st.b → hs.length = k + 1 → hs[k]? = some (st.r, H) →
    (∃ eb, bs' = bs ++ eb) ∧ (∃ eh, hs' = hs ++ eh) ∧ ∃ tr : Nat → St × Hp, tr 0 = (st, H) ∧ tr rest.length = (st', H') ∧
      (∀ (i : Nat) (o : Oper), rest[i]? = some o → stepO E ops o (tr i).1 (tr i).2 = some (.normal, (tr (i + 1)).1, (tr (i + 1)).2)) ∧
      (∀ i, i ≤ rest.length → bs'[m + (rest.take i).countP (effB E.mode)]? = some (tr i).1.b) ∧
      (∀ i, i ≤ rest.length → hs'[k + (rest.take i).countP (effH E.mode)]? = some ((tr i).1.r, (tr i).2))
  | [], st, H, bs, hs, st', H', bs', hs', m, k, h, b1, b2, h1, h2 => by
    cases h
    refine ⟨⟨[], by simp⟩, ⟨[], by simp⟩, fun _ => (st, H), rfl, rfl, fun i o ho => by simp at ho, fun i hi => by simpa using b2, fun i hi => by simpa using h2⟩
  | o :: rest, st, H, bs, hs, st', H', bs', hs', m, k, h, b1, b2, h1, h2 => by
    simp only [drawRun] at h
    split at h
    · rename_i st1 H1 hst
      have hloc := stepO_loc hst (st2 := st) rfl rfl (fun _ _ => rfl)
      obtain ⟨m', hm', c1, c2⟩ : ∃ m', m' = m + (effB E.mode o).toNat ∧ (if effB E.mode o then bs ++ [st1.b] else bs).length = m' + 1 ∧ (if effB E.mode o then bs ++ [st1.b] else bs)[m']? = some st1.b := by
        cases he : effB E.mode o with
        | true => exact ⟨_, rfl, by simp [b1], by simp [b1]⟩
        | false => exact ⟨_, rfl, by simp [b1], by simp [b2, hloc.nb he]⟩
      obtain ⟨k', hk', d1, d2⟩ : ∃ k', k' = k + (effH E.mode o).toNat ∧ (if effH E.mode o then hs ++ [(st1.r, H1)] else hs).length = k' + 1 ∧ (if effH E.mode o then hs ++ [(st1.r, H1)] else hs)[k']? = some (st1.r, H1) := by
        cases he : effH E.mode o with
        | true => exact ⟨_, rfl, by simp [h1], by simp [h1]⟩
        | false => exact ⟨_, rfl, by simp [h1], by simp [h2, (hloc.nh he).1, (hloc.nh he).2]⟩
      obtain ⟨⟨eb, e1⟩, ⟨eh, e2⟩, tr, t0, tl, ts, tb, th⟩ := drawRun_tr rest h c1 c2 d1 d2
      have f1 : ∃ eb, bs' = bs ++ eb := by rw [e1]; split <;> exact ⟨_, by first | rfl | rw [List.append_assoc]⟩
      have f2 : ∃ eh, hs' = hs ++ eh := by rw [e2]; split <;> exact ⟨_, by first | rfl | rw [List.append_assoc]⟩
      refine ⟨f1, f2, fun i => match i with | 0 => (st, H) | i + 1 => tr i, rfl, tl, fun i o' ho => ?_, fun i hi => ?_, fun i hi => ?_⟩
      · cases i with
        | zero => simp at ho; subst ho; simp only [Nat.zero_add, t0]; exact hst
        | succ i => exact ts i o' (by simpa using ho)
      · cases i with
        | zero =>
          obtain ⟨eb, e⟩ := f1
          rw [e, List.getElem?_append_left (by simp; omega)]
          simpa using b2
        | succ i =>
          have := tb i (by simpa using hi)
          rw [hm'] at this
          rw [List.take_succ_cons, List.countP_cons]
          rw [show m + ((rest.take i).countP (effB E.mode) + (if effB E.mode o = true then 1 else 0)) = m + (effB E.mode o).toNat + (rest.take i).countP (effB E.mode) by cases effB E.mode o <;> simp <;> omega]
          exact this
      · cases i with
        | zero =>
          obtain ⟨eb, e⟩ := f2
          rw [e, List.getElem?_append_left (by simp; omega)]
          simpa using h2
        | succ i =>
          have := th i (by simpa using hi)
          rw [hk'] at this
          rw [List.take_succ_cons, List.countP_cons]
          rw [show k + ((rest.take i).countP (effH E.mode) + (if effH E.mode o = true then 1 else 0)) = k + (effH E.mode o).toNat + (rest.take i).countP (effH E.mode) by cases effH E.mode o <;> simp <;> omega]
          exact this
    · cases h
theorem tr_of {bs : Vb} {hs : Vh} (h : drawRun E ops ops st H [st.b] [(st.r, H)] = some (st', H', bs, hs)) : ∃ tr, Tr E ops st H st' H' bs hs tr := by
  obtain ⟨_, _, tr, t0, tl, ts, tb, th⟩ := drawRun_tr ops (m := 0) (k := 0) h rfl rfl rfl rfl
  refine ⟨tr, t0, tl, ts, fun i hi => ?_, fun i hi => ?_⟩
  · have := cnt_take E.mode effB ops i hi
    rw [show cnt ops.length (fun j => decide (j < i)) (eBat E.mode ops) = _ from this]
    simpa using tb i hi
  · have := cnt_take E.mode effH ops i hi
    rw [show cnt ops.length (fun j => decide (j < i)) (eHat E.mode ops) = _ from this]
    simpa using th i hi
structure J (E : Env) (ops : List Oper) (S0 sF : List Slot) (bs : Vb) (hs : Vh) (D : Nat → Bool) (st : St) (H : Hp) : Prop where
  len : st.s.length = S0.length
  sl1 : ∀ x j, j < ops.length → D j = true → dstAt ops j = some x → st.s.getD x (.v .undef) = sF.getD x (.v .undef)
  sl2 : ∀ x, (∀ j, j < ops.length → D j = true → dstAt ops j ≠ some x) → st.s.getD x (.v .undef) = S0.getD x (.v .undef)
  b : bs[cnt ops.length D (eBat E.mode ops)]? = some st.b
  h : hs[cnt ops.length D (eHat E.mode ops)]? = some (st.r, H)
section
variable {bs : Vb} {hs : Vh} {tr : Nat → St × Hp}
theorem Tr.set (T : Tr E ops st H st' H' bs hs tr) {i : Nat} (ho : ops[i]? = some o) : ∃ x, (tr (i + 1)).1.s = setD (tr i).1.s o.dst x := by
  obtain ⟨x, h1, _⟩ := (stepO_loc (T.step i o ho) (st2 := (tr i).1) rfl rfl (fun _ _ => rfl)).out
  exact ⟨x, h1⟩
theorem Tr.const (T : Tr E ops st H st' H' bs hs tr) {x a : Nat} : ∀ (b : Nat), a ≤ b → b ≤ ops.length → (∀ j, a ≤ j → j < b → dstAt ops j ≠ some x) → (tr b).1.s.getD x (.v .undef) = (tr a).1.s.getD x (.v .undef)
  | 0, hab, hb, h => by have : a = 0 := by omega
                        rw [this]
  | b + 1, hab, hb, h => by
    by_cases e : a = b + 1
    · rw [e]
    · have ho : ops[b]? = some (ops[b]'(by omega)) := List.getElem?_eq_getElem _
      obtain ⟨y, hy⟩ := T.set ho
      rw [hy, getD_setD]
      have hne := h b (by omega) (by omega)
      unfold dstAt at hne
      rw [ho] at hne
      simp only [Option.bind_some] at hne
      rw [if_neg (fun hh => hne hh.1)]
      exact T.const b (by omega) (by omega) (fun j h1 h2 => h j h1 (by omega))
theorem Tr.len (T : Tr E ops st H st' H' bs hs tr) : ∀ (b : Nat), b ≤ ops.length → (tr b).1.s.length = st.s.length
  | 0, hb => by rw [T.zero]
  | b + 1, hb => by
    have ho : ops[b]? = some (ops[b]'(by omega)) := List.getElem?_eq_getElem _
    obtain ⟨y, hy⟩ := T.set ho
    rw [hy, length_setD]
    exact T.len b (by omega)
theorem dst_inj (F : ∀ i o, ops[i]? = some o → OpF E.mode alts ops i o) {i j x : Nat} (hi : i < ops.length) (hj : j < ops.length) (h1 : dstAt ops i = some x) (h2 : dstAt ops j = some x) : j = i := by
  have ho : ops[i]? = some ops[i] := List.getElem?_eq_getElem _
  refine Classical.byContradiction fun hne => ?_
  unfold dstAt at h1
  rw [ho] at h1
  exact (F i _ ho).ds j hj hne x h1 h2
theorem J_tr (F : ∀ i o, ops[i]? = some o → OpF E.mode alts ops i o) (T : Tr E ops st H st' H' bs hs tr) (i : Nat) (hi : i ≤ ops.length) : J E ops st.s st'.s bs hs (fun j => decide (j < i)) (tr i).1 (tr i).2 where
  len := T.len i hi
  sl1 x j hj hD hx := by
    have hji : j < i := by simpa using hD
    have h1 := T.const (x := x) (a := i) ops.length hi (Nat.le_refl _) (fun k h1 h2 hk => by
      have := dst_inj F hj h2 hx hk; omega)
    rw [T.last] at h1
    exact h1.symm
  sl2 x hx := by
    have h1 := T.const (x := x) (a := 0) i (Nat.zero_le _) hi (fun k h1 h2 hk => hx k (by omega) (by simpa using h2) hk)
    rw [T.zero] at h1
    exact h1
  b := T.vb i hi
  h := T.vh i hi
end
/-- a set of operations that holds what is ahead of each -/
def Down (ops : List Oper) (D : Nat → Bool) : Prop := ∀ j o, ops[j]? = some o → D j = true → ∀ e ∈ o.after.toList, Region.binds .any e = true → D e.on = true
theorem Down.prec (F : ∀ i o, ops[i]? = some o → OpF E.mode alts ops i o) {D : Nat → Bool} (hd : Down ops D) : ∀ (i : Nat) {j : Nat} {o : Oper}, ops[i]? = some o → (∀ e ∈ o.after.toList, Region.binds .any e = true → D e.on = true) → prec (masks ops []) j i = true → D j = true ∧ j < i := by
  intro i
  induction i using Nat.strongRecOn with
  | ind i ih =>
    intro j o ho hr hp
    obtain ⟨e, e1, e2, e3⟩ := prec_edge ho (F i o ho).ed hp
    have hlt := (F i o ho).ed e e1 e2
    have hDe := hr e e1 e2
    rcases e3 with rfl | e3
    · exact ⟨hDe, hlt⟩
    · have hi : i < ops.length := (List.getElem?_eq_some_iff.1 ho).1
      have hoe : ops[e.on]? = some (ops[e.on]'(by omega)) := List.getElem?_eq_getElem _
      obtain ⟨g1, g2⟩ := ih e.on hlt hoe (hd _ _ hoe hDe) e3
      exact ⟨g1, by omega⟩
end
end Go.Abs
