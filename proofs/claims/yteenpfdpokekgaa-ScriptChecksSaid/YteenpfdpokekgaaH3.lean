import Derived.Test.YteenpfdpokekgaaH2
namespace Go.Proofs.Yteenpfdpokekgaa.PS0
open Go.RowKit Go.Proofs.YteenpfdpokekgaaW.PrintWords Go.Proofs.YteenpfdpokekgaaW.PrintLast Go.Proofs.YteenpfdpokekgaaW.PrintMore
set_option linter.unusedVariables false
set_option linter.unusedSimpArgs false
/-- The reader's want, on lists. -/
def wantS (b : List Int) : Int → Int → List Int → Int × Int
  | i, e, [] => (i, e)
  | i, e, c :: cs => if e = 0 then (if i = (b.length : Int) ∨ ¬ rd b i = c then (i, 6) else wantS b (i + 1) 0 cs) else (i, e)
def bytesL (s : ByteArray) : List Int := s.toList.map fun c => (c.toNat : Int)
theorem bt_list (s : ByteArray) (j : Nat) (hj : j < s.size) : (s.data.toList.map fun c => (c.toNat : Int))[j]? = some (bt s (j : Int)) := by
  have h1 : j < s.data.toList.length := by simpa using hj
  rw [List.getElem?_map, List.getElem?_eq_getElem h1]
  simp [bt, hj]
  rfl
theorem want_run (b : List Int) (hb : b.length ≤ 1048576) (s : ByteArray) (hs : s.size ≤ 100) (e : Int) : ∀ (d k : Nat) (j : Nat) (i : Int), s.size - j = d → d + d + 1 < k → j ≤ s.size → 0 ≤ i → i ≤ b.length →
    script_reader_want.l0 k s (j : Int) b i e = some (wantS b i e ((s.data.toList.map fun c => (c.toNat : Int)).drop j)) := by
  intro d
  induction d with
  | zero =>
    intro k j i hd hk hj h0 h1
    obtain ⟨k, rfl⟩ : ∃ m, k = m + 2 := ⟨k - 2, by omega⟩
    have : j = s.size := by omega
    subst this
    rw [List.drop_eq_nil_of_le (by simp)]
    simp only [script_reader_want.l0]
    rw [if_neg (by omega)]
    simp [script_reader_want.j1, wantS]
  | succ d ih =>
    intro k j i hd hk hj h0 h1
    obtain ⟨k, rfl⟩ : ∃ m, k = m + 2 := ⟨k - 2, by omega⟩
    have hj' : j < s.size := by omega
    have hl := bt_list s j hj'
    have hdr : (s.data.toList.map fun c => (c.toNat : Int)).drop j = bt s (j : Int) :: (s.data.toList.map fun c => (c.toNat : Int)).drop (j + 1) := by
      have h2 := (List.getElem?_eq_some_iff.1 hl)
      obtain ⟨h3, h4⟩ := h2
      rw [List.drop_eq_getElem_cons h3, h4]
    rw [hdr]
    simp only [script_reader_want.l0]
    rw [if_pos (by omega)]
    simp only [script_reader_want.j1]
    by_cases he : e = 0
    · subst he
      simp only [beq_self_eq_true, if_true]
      simp only [wantS, if_true]
      by_cases hi : i = (b.length : Int)
      · rw [if_pos hi, if_pos (.inl hi)]
        simp [script_reader_fail.f]
      · rw [if_neg hi, if_pos h0, if_pos (by omega), if_pos (by omega), if_pos (by omega)]
        by_cases hc : rd b i = bt s (j : Int)
        · rw [if_pos hc, if_neg (by rintro (h | h); exact hi h; exact h hc)]
          have e1 : wrap64 ((j : Int) + 1) = ((j + 1 : Nat) : Int) := by unfold wrap64; omega
          have e2 : wrap64 (i + 1) = i + 1 := by unfold wrap64; omega
          rw [e1, e2]
          exact ih k (j + 1) (i + 1) (by omega) (by omega) (by omega) (by omega) (by omega)
        · rw [if_neg hc, if_pos (.inr hc)]
          simp [script_reader_fail.f]
    · have hb0 : (e == 0) = false := by simp [he]
      rw [hb0]
      simp [wantS, he]
theorem want_f (b : List Int) (hb : b.length ≤ 1048576) (s : ByteArray) (hs : s.size ≤ 100) (i e : Int) (h0 : 0 ≤ i) (h1 : i ≤ b.length) :
    script_reader_want.f 203 b i e s = some (wantS b i e (s.data.toList.map fun c => (c.toNat : Int))) := by
  unfold script_reader_want.f
  have := want_run b hb s hs e s.size 203 0 i (by omega) (by omega) (by omega) h0 h1
  simpa using this
theorem want_e (b : List Int) (cs : List Int) (i e : Int) (he : e ≠ 0) : wantS b i e cs = (i, e) := by
  cases cs with
  | nil => rfl
  | cons c cs => simp [wantS, he]
theorem want_in (b : List Int) (cs : List Int) : ∀ (i e : Int), 0 ≤ i → i ≤ b.length → 0 ≤ (wantS b i e cs).1 ∧ (wantS b i e cs).1 ≤ b.length := by
  induction cs with
  | nil => intro i e h0 h1; exact ⟨h0, h1⟩
  | cons c cs ih =>
    intro i e h0 h1
    simp only [wantS]
    split
    · split
      · exact ⟨h0, h1⟩
      · rename_i h; exact ih _ _ (by omega) (by omega)
    · exact ⟨h0, h1⟩
def moreS (b : List Int) (i e : Int) (n fr : Int) : Int × Int :=
  let r := wantS b i e [32]
  if r.2 = 0 ∧ n = 65536 then (fr, 3) else r
theorem more_f (b : List Int) (hb : b.length ≤ 1048576) (i e n fr : Int) (h0 : 0 ≤ i) (h1 : i ≤ b.length) :
    script_reader_more.f 203 b i e n fr = some (moreS b i e n fr) := by
  unfold script_reader_more.f moreS
  rw [want_f b hb _ (by decide) i e h0 h1]
  simp only [Option.bind_some]
  show (if (wantS b i e [32]).2 = 0 then _ else _) = _
  by_cases h : (wantS b i e [32]).2 = 0
  · rw [if_pos h]
    by_cases hn : n = 65536
    · rw [if_pos hn]; simp [script_reader_fail.f, h, hn]
    · rw [if_neg hn]; simp [hn]
  · rw [if_neg h]; simp [h]
end Go.Proofs.Yteenpfdpokekgaa.PS0
