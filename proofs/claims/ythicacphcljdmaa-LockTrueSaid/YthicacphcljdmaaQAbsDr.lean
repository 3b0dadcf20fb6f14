/- A part of the proofs over this seat. -/
import Derived.Test.YthicacphcljdmaaQAbsP
namespace Go.Abs
set_option linter.unusedVariables false
set_option linter.unusedSimpArgs false
/-! ### A region that draws its order: all orders come to the same -/
def stepO (E : Env) (ops : List Oper) (o : Oper) (st : St) (H : Hp) : R :=
  match guardS ops st o with
  | some true => evOp E o st H
  | some false => some (.normal, putS st o.dst (.v (.tup [])), H)
  | none => none
theorem evOps_step (E : Env) (ops : List Oper) (o : Oper) (rest : List Oper) (st : St) (H : Hp) : evOps E ops (o :: rest) st H = match stepO E ops o st H with
    | some (.normal, st, H) => evOps E ops rest st H
    | r => r := by
  simp only [evOps, stepO]
  cases guardS ops st o with
  | none => rfl
  | some b => cases b <;> rfl
def looks (ops : List Oper) (o : Oper) : List Nat :=
  tmpsOf o.op.operands.toList ++ (match o.guard with | some (j, _) => ((ops[j]?).bind (·.dst)).toList | none => [])
abbrev Vb := List (List (List V))
abbrev Vh := List (List LRow × Hp)
def drawRun (E : Env) (ops : List Oper) : List Oper → St → Hp → Vb → Vh → Option (St × Hp × Vb × Vh)
  | [], st, H, bs, hs => some (st, H, bs, hs)
  | o :: rest, st, H, bs, hs => match stepO E ops o st H with
    | some (.normal, st, H) => drawRun E ops rest st H (if effB E.mode o then bs ++ [st.b] else bs) (if effH E.mode o then hs ++ [(st.r, H)] else hs)
    | _ => none
def dslot (s : List Slot) (o : Oper) : Slot := match o.dst with | some d => s.getD d (.v .undef) | none => .v .undef
def chk1 (E : Env) (ops : List Oper) (s : List Slot) (bs : Vb) (hs : Vh) (p : Nat × Nat × Nat) : Prop :=
  match ops[p.1]?, bs[p.2.1]?, hs[p.2.2]? with
  | some o, some b, some (r, H) =>
    match bs[p.2.1 + (effB E.mode o).toNat]?, hs[p.2.2 + (effH E.mode o).toNat]? with
    | some b', some (r', H') => stepO E ops o ⟨s, b, r⟩ H = some (.normal, ⟨setD s o.dst (dslot s o), b', r'⟩, H')
    | _, _ => False
  | _, _, _ => False
/-- The operations ahead of each, as bits -/
def edgeMask (ms : List Nat) (o : Oper) : Nat := o.after.toList.foldl (fun s e => if Region.binds .any e then s ||| 2 ^ e.on ||| ms.getD e.on 0 else s) 0
def masks : List Oper → List Nat → List Nat
  | [], ms => ms
  | o :: rest, ms => masks rest (ms ++ [edgeMask ms o])
def freeOp (o : Oper) : Bool :=
  match o.op with
  | .move _ | .assign _ | .fieldAddr .. | .nilCheck _ => true
  | _ => false
def dstAt (ops : List Oper) (j : Nat) : Option Nat := (ops[j]?).bind (·.dst)
def eBat (md : Nat → Mode) (ops : List Oper) (j : Nat) : Bool := (ops[j]?).any (effB md)
def eHat (md : Nat → Mode) (ops : List Oper) (j : Nat) : Bool := (ops[j]?).any (effH md)
def prec (ms : List Nat) (j i : Nat) : Bool := (ms.getD i 0).testBit j
def cnt (n : Nat) (D : Nat → Bool) (e : Nat → Bool) : Nat := (List.range n).countP fun j => D j && e j
def opOk (md : Nat → Mode) (alts : List (Nat × Nat × Nat)) (ops : List Oper) (ms : List Nat) (i : Nat) (o : Oper) : Bool :=
  let n := ops.length
  o.after.toList.all (fun e => !Region.binds .any e || e.on < i) &&
  (o.dst.isNone || (List.range n).all fun j => j == i || dstAt ops j != o.dst) &&
  (looks ops o).all (fun x => (List.range n).all fun j => dstAt ops j != some x || (j != i && (prec ms j i || prec ms i j))) &&
  (freeOp o || (List.range (cnt n (fun j => j != i && !prec ms i j) (eBat md ops) + 1)).all fun k => decide (k < cnt n (fun j => prec ms j i) (eBat md ops)) ||
    (List.range (cnt n (fun j => j != i && !prec ms i j) (eHat md ops) + 1)).all fun l => decide (l < cnt n (fun j => prec ms j i) (eHat md ops)) ||
      (k == cnt n (fun j => decide (j < i)) (eBat md ops) && l == cnt n (fun j => decide (j < i)) (eHat md ops)) || alts.contains (i, k, l)) &&
  (!(alts.any fun p => p.1 == i) || (looks ops o).all (fun x => (List.range n).all fun j => decide (j ≤ i) || dstAt ops j != some x))
def drawOk (md : Nat → Mode) (alts : List (Nat × Nat × Nat)) (ops : List Oper) : Bool :=
  (List.range ops.length).all fun i => match ops[i]? with | some o => opOk md alts ops (masks ops []) i o | none => false
section
variable {E : Env} {ops : List Oper} {o : Oper} {st st' st2 : St} {H H' : Hp}
structure LocO (E : Env) (ops : List Oper) (o : Oper) (st : St) (H : Hp) (st' : St) (H' : Hp) (st2 : St) : Prop where
  out : ∃ x, st'.s = setD st.s o.dst x ∧ stepO E ops o st2 H = some (.normal, ⟨setD st2.s o.dst x, st'.b, st'.r⟩, H')
  nb : effB E.mode o = false → st'.b = st.b
  nh : effH E.mode o = false → st'.r = st.r ∧ H' = H
theorem stepO_loc (h : stepO E ops o st H = some (.normal, st', H')) (hb : st2.b = st.b) (hr : st2.r = st.r) (hs : ∀ t ∈ looks ops o, st2.s.getD t (.v .undef) = st.s.getD t (.v .undef)) : LocO E ops o st H st' H' st2 := by
  have hg : guardS ops st2 o = guardS ops st o := by
    unfold guardS
    cases hgd : o.guard with
    | none => rfl
    | some p =>
      obtain ⟨j, want⟩ := p
      simp only
      cases hj : (ops[j]?).bind (·.dst) with
      | none => rfl
      | some d => simp only; rw [hs d (by unfold looks; rw [hgd]; simp [hj])]
  unfold stepO at h
  cases hgs : guardS ops st o with
  | none => rw [hgs] at h; cases h
  | some b =>
    rw [hgs] at h
    cases b with
    | true =>
      obtain ⟨⟨x, x1, x2⟩, nb, nh⟩ := evOp_loc h hb hr (fun t ht => hs t (by unfold looks; simp [ht]))
      exact ⟨⟨x, x1, by unfold stepO; rw [hg, hgs]; exact x2⟩, nb, nh⟩
    | false =>
      simp only [Option.some.injEq, Prod.mk.injEq, true_and] at h
      obtain ⟨rfl, rfl⟩ := h
      exact ⟨⟨.v (.tup []), by rw [putS_eq], by unfold stepO; rw [hg, hgs]; simp only [putS_eq, hb, hr]⟩, fun _ => by rw [putS_eq], fun _ => ⟨by rw [putS_eq], rfl⟩⟩
theorem stepO_free (hf : freeOp o = true) (h : stepO E ops o st H = some (.normal, st', H')) (b : List (List V)) (r : List LRow) (H2 : Hp) :
    ∃ x, st'.s = setD st.s o.dst x ∧ stepO E ops o ⟨st.s, b, r⟩ H2 = some (.normal, ⟨setD st.s o.dst x, b, r⟩, H2) := by
  have hrd : ∀ x : Operand, rdS ⟨st.s, b, r⟩ x = rdS st x := fun x => by cases x <;> rfl
  have hg : guardS ops ⟨st.s, b, r⟩ o = guardS ops st o := rfl
  unfold stepO at h ⊢
  rw [hg]
  cases hgs : guardS ops st o with
  | none => rw [hgs] at h; cases h
  | some bb =>
    rw [hgs] at h
    cases bb with
    | false =>
      simp only [Option.some.injEq, Prod.mk.injEq, true_and] at h
      obtain ⟨rfl, rfl⟩ := h
      exact ⟨.v (.tup []), by rw [putS_eq], by simp only [putS_eq]⟩
    | true =>
      simp only at h ⊢
      cases ho : o.op <;> simp only [freeOp, ho] at hf <;> first | (cases hf; done) | skip
      all_goals
        unfold evOp at h ⊢
        rw [ho] at h ⊢
        simp only [hrd] at h ⊢
      case move x => cases h; exact ⟨_, by rw [putS_eq], by rw [putS_eq]⟩
      case assign x => cases h; exact ⟨_, by rw [putS_eq], by rw [putS_eq]⟩
      case nilCheck x =>
        cases hn : nilCheckOp (rdS st x) with
        | none => rw [hn] at h; cases h
        | some y => rw [hn] at h; cases h; exact ⟨y, by rw [putS_eq], by simp only [resS, putS_eq]⟩
      case fieldAddr t x f =>
        have hrg : rdG E ⟨st.s, b, r⟩ x = rdG E st x := rdG_same (hrd x)
        rw [hrg]
        cases hn : fieldAddrOp E.P t (rdG E st x) f with
        | none => rw [hn] at h; cases h
        | some y => rw [hn] at h; cases h; exact ⟨y, by rw [putS_eq], by simp only [resS, putS_eq]⟩
theorem free_eff (hf : freeOp o = true) (md : Nat → Mode) : effB md o = false ∧ effH md o = false := by
  unfold freeOp at hf
  unfold effB effH
  cases ho : o.op <;> simp [ho] at hf ⊢
theorem getD_setD {s : List Slot} {d : Option Nat} {y : Slot} (x : Nat) : (setD s d y).getD x (.v .undef) = if d = some x ∧ x < s.length then y else s.getD x (.v .undef) := by
  cases d with
  | none => simp [setD]
  | some d =>
    simp only [setD, List.getD_eq_getElem?_getD, List.getElem?_set, Option.some.injEq]
    by_cases h : d = x
    · subst h
      by_cases hl : d < s.length
      · simp [hl]
      · simp [hl]
    · simp [h]
theorem length_setD (s : List Slot) (d : Option Nat) (y : Slot) : (setD s d y).length = s.length := by cases d <;> simp [setD]
/-! the bits -/
theorem testBit_edge {ms : List Nat} {j : Nat} : ∀ (l : List Edge) (s : Nat), (l.foldl (fun s e => if Region.binds .any e then s ||| 2 ^ e.on ||| ms.getD e.on 0 else s) s).testBit j = true →
    s.testBit j = true ∨ ∃ e ∈ l, Region.binds .any e = true ∧ (e.on = j ∨ (ms.getD e.on 0).testBit j = true)
  | [], s, h => .inl h
  | e :: l, s, h => by
    rw [List.foldl_cons] at h
    rcases testBit_edge l _ h with h1 | ⟨e', h1, h2⟩
    · split at h1
      · rename_i hb
        rw [Nat.testBit_or, Nat.testBit_or, Nat.testBit_two_pow] at h1
        simp only [Bool.or_eq_true, decide_eq_true_eq] at h1
        rcases h1 with (h1 | h1) | h1
        · exact .inl h1
        · exact .inr ⟨e, by simp, hb, .inl h1⟩
        · exact .inr ⟨e, by simp, hb, .inr h1⟩
      · exact .inl h1
    · exact .inr ⟨e', by simp [h1], h2⟩
theorem masks_prefix : ∀ (l : List Oper) (ms : List Nat), ∃ r, masks l ms = ms ++ r ∧ r.length = l.length
  | [], ms => ⟨[], by simp [masks], rfl⟩
  | o :: l, ms => by
    obtain ⟨r, h1, h2⟩ := masks_prefix l (ms ++ [edgeMask ms o])
    exact ⟨edgeMask ms o :: r, by simp [masks, h1], by simp [h2]⟩
theorem masks_at : ∀ (l : List Oper) (ms : List Nat) (i : Nat) (o : Oper), l[i]? = some o → ∃ pre suf, masks l ms = pre ++ suf ∧ pre.length = ms.length + i ∧ (masks l ms).getD (ms.length + i) 0 = edgeMask pre o
  | [], ms, i, o, h => by simp at h
  | a :: l, ms, 0, o, h => by
    simp only [List.getElem?_cons_zero, Option.some.injEq] at h
    subst h
    obtain ⟨r, h1, h2⟩ := masks_prefix l (ms ++ [edgeMask ms a])
    refine ⟨ms, edgeMask ms a :: r, by simp [masks, h1], rfl, ?_⟩
    simp [masks, h1, List.getD_eq_getElem?_getD]
  | a :: l, ms, i + 1, o, h => by
    obtain ⟨pre, suf, h1, h2, h3⟩ := masks_at l (ms ++ [edgeMask ms a]) i o (by simpa using h)
    have e : (ms ++ [edgeMask ms a]).length + i = ms.length + (i + 1) := by simp; omega
    rw [e] at h2 h3
    exact ⟨pre, suf, by simpa [masks] using h1, h2, by simpa [masks] using h3⟩
/-- What is ahead is reached by edges. -/
theorem prec_edge {i j : Nat} (ho : ops[i]? = some o) (he : ∀ e ∈ o.after.toList, Region.binds .any e = true → e.on < i) (h : prec (masks ops []) j i = true) :
    ∃ e ∈ o.after.toList, Region.binds .any e = true ∧ (e.on = j ∨ prec (masks ops []) j e.on = true) := by
  obtain ⟨pre, suf, h1, h2, h3⟩ := masks_at ops [] i o ho
  simp only [List.length_nil, Nat.zero_add] at h2 h3
  unfold prec at h
  rw [h3] at h
  rcases testBit_edge _ _ h with h4 | ⟨e, e1, e2, e3⟩
  · simp at h4
  · refine ⟨e, e1, e2, e3.imp id fun h5 => ?_⟩
    unfold prec
    rw [h1, List.getD_eq_getElem?_getD, List.getElem?_append_left (by rw [h2]; exact he e e1 e2), ← List.getD_eq_getElem?_getD]
    exact h5
end
end Go.Abs
