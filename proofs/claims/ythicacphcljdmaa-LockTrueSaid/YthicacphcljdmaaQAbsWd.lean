/- A part of the proofs over this seat. -/
import Derived.Test.YthicacphcljdmaaQAbsWp
namespace Go.Abs
set_option linter.unusedVariables false
set_option linter.unusedSimpArgs false
/-! ### A region that draws, in the manner of AbsWp -/
def addV {α : Type} (b : Bool) (l : List α) (x : α) : List α := match b with | true => l ++ [x] | false => l
theorem addV_t {α : Type} (l : List α) (x : α) : addV true l x = l ++ [x] := rfl
theorem addV_f {α : Type} (l : List α) (x : α) : addV false l x = l := rfl
abbrev KD := St × Hp × Vb × Vh → Prop
def wpD (E : Env) (ops rest : List Oper) (st : St) (H : Hp) (bs : Vb) (hs : Vh) (K : KD) : Prop := wpX (drawRun E ops rest st H bs hs) K
def kD (E : Env) (ops rest : List Oper) (eb eh : Bool) (bs : Vb) (hs : Vh) (K : KD) : Post := fun ex st H => match ex with
  | .normal => wpD E ops rest st H (addV eb bs st.b) (addV eh hs (st.r, H)) K
  | _ => False
section
variable {E : Env} {ops rest : List Oper} {st : St} {H : Hp} {Q : Post} {bs : Vb} {hs : Vh} {K : KD}
theorem wD_nil : wpD E ops [] st H bs hs K = K (st, H, bs, hs) := rfl
theorem kD_normal (eb eh : Bool) (s : List Slot) (b : List (List V)) (r : List LRow) : kD E ops rest eb eh bs hs K .normal ⟨s, b, r⟩ H = wpD E ops rest ⟨s, b, r⟩ H (addV eb bs b) (addV eh hs (r, H)) K := rfl
theorem wD_cons (o : Oper) : wpD E ops (o :: rest) st H bs hs K = wpO E ops [o] st H (kD E ops rest (effB E.mode o) (effH E.mode o) bs hs K) := by
  rw [wO_cons]
  unfold wpD
  simp only [drawRun]
  cases stepO E ops o st H with
  | none => rfl
  | some x =>
    obtain ⟨ex, st', H'⟩ := x
    cases ex with
    | normal =>
      simp only [wpR, thenN, wO_nil, kD]
      cases effB E.mode o <;> cases effH E.mode o <;> rfl
    | _ => rfl
def kChk (s : List Slot) (b : List (List V)) (r : List LRow) (H' : Hp) : Post := fun ex st H => match ex with
  | .normal => st = ⟨s, b, r⟩ ∧ H = H'
  | _ => False
theorem kChk_normal (s s' : List Slot) (b b' : List (List V)) (r r' : List LRow) (H H' : Hp) : kChk s b r H' .normal ⟨s', b', r'⟩ H = (s' = s ∧ b' = b ∧ r' = r ∧ H = H') := by
  simp [kChk]; exact ⟨fun ⟨⟨a, b, c⟩, d⟩ => ⟨a, b, c, d⟩, fun ⟨a, b, c, d⟩ => ⟨⟨a, b, c⟩, d⟩⟩
def chkO (E : Env) (ops : List Oper) (s : List Slot) (bs : Vb) (hs : Vh) (k l : Nat) : Option Oper → Prop
  | some o => match bs[k]?, hs[l]?, bs[k + (effB E.mode o).toNat]?, hs[l + (effH E.mode o).toNat]? with
    | some b, some (r, H), some b', some (r', H') => wpO E ops [o] ⟨s, b, r⟩ H (kChk (setD s o.dst (dslot s o)) b' r' H')
    | _, _, _, _ => False
  | none => False
def chkAll (E : Env) (ops : List Oper) (s : List Slot) (bs : Vb) (hs : Vh) : List (Nat × Nat × Nat) → Prop
  | [] => True
  | (i, k, l) :: rest => chkO E ops s bs hs k l ops[i]? ∧ chkAll E ops s bs hs rest
theorem chkAll_nil (s : List Slot) : chkAll E ops s bs hs [] = True := rfl
theorem chkAll_cons (s : List Slot) (i k l : Nat) (r : List (Nat × Nat × Nat)) : chkAll E ops s bs hs ((i, k, l) :: r) = (chkO E ops s bs hs k l ops[i]? ∧ chkAll E ops s bs hs r) := rfl
theorem chkO_chk1 {s : List Slot} {i k l : Nat} (h : chkO E ops s bs hs k l ops[i]?) : chk1 E ops s bs hs (i, k, l) := by
  unfold chk1
  simp only
  cases ho : ops[i]? with
  | none => rw [ho] at h; exact h.elim
  | some o =>
    rw [ho] at h
    simp only [chkO] at h
    split at h
    · rename_i b r H b' r' H' h1 h2 h3 h4
      rw [h1, h2]
      simp only
      rw [h3, h4]
      simp only
      rw [wO_cons] at h
      cases hst : stepO E ops o ⟨s, b, r⟩ H with
      | none => rw [hst] at h; exact h.elim
      | some x =>
        obtain ⟨ex, st', H2⟩ := x
        rw [hst] at h
        cases ex with
        | normal =>
          simp only [wpR, thenN, wO_nil, kChk] at h
          rw [h.1, h.2]
        | _ => exact h.elim
    · exact h.elim
theorem chkAll_all {s : List Slot} : ∀ {alts : List (Nat × Nat × Nat)}, chkAll E ops s bs hs alts → ∀ p ∈ alts, chk1 E ops s bs hs p
  | [], h, p, hp => by cases hp
  | (i, k, l) :: r, h, p, hp => by
    rcases List.mem_cons.1 hp with rfl | hp
    · exact chkO_chk1 h.1
    · exact chkAll_all h.2 p hp
def kDraw (E : Env) (ops : List Oper) (alts : List (Nat × Nat × Nat)) (Q : Post) : KD := fun q => chkAll E ops q.1.s q.2.2.1 q.2.2.2 alts ∧ Q .normal q.1 q.2.1
theorem kDraw_eq (alts : List (Nat × Nat × Nat)) (s : List Slot) (b : List (List V)) (r : List LRow) : kDraw E ops alts Q (⟨s, b, r⟩, H, bs, hs) = (chkAll E ops s bs hs alts ∧ Q .normal ⟨s, b, r⟩ H) := rfl
/-- The rule for a region that draws -/
theorem wC_dr (alts : List (Nat × Nat × Nat)) {id : Nat} {ops : Array Oper} {s : List Slot} {b : List (List V)} {r : List LRow} (hok : drawOk E.mode alts ops.toList = true)
    (h : wpD E ops.toList ops.toList ⟨s, b, r⟩ H [b] [(r, H)] (kDraw E ops.toList alts Q)) : wpC E (.region id ops true) ⟨s, b, r⟩ H Q := by
  refine wC_draw alts id ops hok ?_
  unfold wpD at h
  show wpX (drawRun E ops.toList ops.toList ⟨s, b, r⟩ H [b] [(r, H)]) _
  cases hr : drawRun E ops.toList ops.toList ⟨s, b, r⟩ H [b] [(r, H)] with
  | none => rw [hr] at h; exact h.elim
  | some q =>
    rw [hr] at h
    exact ⟨chkAll_all h.1, h.2⟩
end
end Go.Abs
