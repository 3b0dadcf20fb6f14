import Derived.Test.YtfjbgmcdkhepkaaC12
namespace Go.Proofs.Ytfjbgmcdkhepkaa
open Go Go.Abs Go.Proofs
set_option linter.unusedVariables false
/-- What is left of the versions after some have ended. -/
structure Less (A B : List Ver) : Prop where
  len : B.length = A.length
  at_ : ∀ (j : Nat) (w : Ver), B[j]? = some w → ∃ u, A[j]? = some u ∧ u.l = w.l ∧ (w.ok = true → u.ok = true)
theorem Less.refl (A : List Ver) : Less A A := ⟨rfl, fun j w h => ⟨w, h, rfl, id⟩⟩
theorem Less.trans {A B C : List Ver} (h : Less A B) (k : Less B C) : Less A C := ⟨k.len.trans h.len, fun j w hw => by
  obtain ⟨u, u1, u2, u3⟩ := k.at_ j w hw
  obtain ⟨z, z1, z2, z3⟩ := h.at_ j u u1
  exact ⟨z, z1, z2.trans u2, fun e => z3 (u3 e)⟩⟩
theorem upd_less (p : Nat → Ver → Bool) (A : List Ver) (i : Nat) : Less A (upd p A i) := ⟨upd_length p A i, fun j w hw => by
  rw [upd_at] at hw
  cases hA : A[j]? with
  | none => rw [hA] at hw; cases hw
  | some u =>
    rw [hA] at hw
    simp only [Option.map_some, Option.some.injEq] at hw
    refine ⟨u, rfl, ?_, ?_⟩
    · rw [← hw]; split <;> rfl
    · rw [← hw]; split
      · intro e; cases e
      · exact id⟩
theorem hits_mem {p : Nat → Ver → Bool} {A : List Ver} {n j : Nat} (h : j ∈ hits p A n) : j < n ∧ ∃ v, A[j]? = some v ∧ v.ok = true ∧ p j v = true := by
  unfold hits at h
  rw [List.mem_filter] at h
  refine ⟨List.mem_range.1 h.1, ?_⟩
  have h2 := h.2
  unfold hit at h2
  cases hA : A[j]? with
  | none => rw [hA] at h2; cases h2
  | some v => rw [hA] at h2; simp only [Bool.and_eq_true] at h2; exact ⟨v, rfl, h2⟩
theorem hits_off {p : Nat → Ver → Bool} {A : List Ver} {j : Nat} (h : j ∈ hits p A A.length) : ∃ w, (upd p A A.length)[j]? = some w ∧ w.ok = false := by
  obtain ⟨hj, v, h1, h2, h3⟩ := hits_mem h
  refine ⟨v.off, ?_, rfl⟩
  rw [upd_at, h1]
  simp [hj, h2, h3]
theorem hits_sorted (p : Nat → Ver → Bool) (A : List Ver) (n : Nat) : (hits p A n).Pairwise (· < ·) := by
  unfold hits
  exact List.Pairwise.filter _ List.pairwise_lt_range
/-- After a write, and whatever ends more, the same write ends nothing. -/
theorem hits_again {gl v : Int} {A B : List Ver} (h : Less (upd (writes gl v) A A.length) B) : hits (writes gl v) B B.length = [] := by
  rw [List.eq_nil_iff_forall_not_mem]
  intro j hj
  obtain ⟨hlt, w, h1, h2, h3⟩ := hits_mem hj
  obtain ⟨u, u1, u2, u3⟩ := h.at_ j w h1
  have hu := u3 h2
  rw [upd_at] at u1
  cases hA : A[j]? with
  | none => rw [hA] at u1; cases u1
  | some z =>
    rw [hA] at u1
    simp only [Option.map_some, Option.some.injEq] at u1
    have hjA : j < A.length := (List.getElem?_eq_some_iff.1 hA).1
    split at u1
    · rw [← u1] at hu; cases hu
    · rename_i hno
      subst u1
      have h4 : writes gl v j z = true := by
        unfold writes at h3 ⊢
        rw [u2]; exact h3
      simp [hjA, hu, h4] at hno
end Go.Proofs.Ytfjbgmcdkhepkaa
