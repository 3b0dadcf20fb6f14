import Derived.Test.YteenpfdpokekgaaH4
namespace Go.Proofs.Yteenpfdpokekgaa.PS0
open Go.RowKit Go.Proofs.YteenpfdpokekgaaW.PrintWords Go.Proofs.YteenpfdpokekgaaW.PrintLast Go.Proofs.YteenpfdpokekgaaW.PrintMore
set_option linter.unusedVariables false
set_option linter.unusedSimpArgs false
/-- The reader stands in its text. -/
def InB (b : List Int) (i : Int) : Prop := 0 ≤ i ∧ i ≤ (b.length : Int)
def OkB (b : List Int) : Prop := b.length ≤ 1048576 ∧ ∀ x ∈ b, 0 ≤ x ∧ x ≤ 255
theorem want_q (g : Nat) (b : List Int) (i e : Int) (s : ByteArray) (hs : s.size ≤ 100) (w0 w : World) (hI : IsS48 w0 w g b i e) (hB : Below w0.heap.size w0 w) (hb : OkB b) (hi : InB b i) :
    Calls Try.prog 27 #[.pointer (some ⟨g, 0, none⟩), .string s] w fun e' w' => e' = .returned (.tuple #[]) ∧ IsS48 w0 w' g b (wantS b i e (s.data.toList.map fun c => (c.toNat : Int))).1 (wantS b i e (s.data.toList.map fun c => (c.toNat : Int))).2 ∧ Below w0.heap.size w0 w' ∧ KeepBut w w' g none :=
  script_reader_want.calls 203 g b i e s _ _ w0 w hI hB (want_f b hb.1 s hs i e hi.1 hi.2)
theorem more_q (g : Nat) (b : List Int) (i e n fr : Int) (w0 w : World) (hI : IsS48 w0 w g b i e) (hB : Below w0.heap.size w0 w) (hb : OkB b) (hi : InB b i) :
    Calls Try.prog 28 #[.pointer (some ⟨g, 0, none⟩), .int .i64 n, .int .i64 fr] w fun e' w' => e' = .returned (.tuple #[]) ∧ IsS48 w0 w' g b (moreS b i e n fr).1 (moreS b i e n fr).2 ∧ Below w0.heap.size w0 w' ∧ KeepBut w w' g none :=
  script_reader_more.calls 203 g b i e n fr _ _ w0 w hI hB (more_f b hb.1 i e n fr hi.1 hi.2)
theorem number_q (g : Nat) (b : List Int) (i e low high : Int) (w0 w : World) (hI : IsS48 w0 w g b i e) (hB : Below w0.heap.size w0 w) (hb : OkB b) (hi : InB b i) :
    Calls Try.prog 29 #[.pointer (some ⟨g, 0, none⟩), .int .i64 low, .int .i64 high] w fun e' w' => e' = .returned (.int .i64 (numS b i e low high).1) ∧ IsS48 w0 w' g b (numS b i e low high).2.1 (numS b i e low high).2.2 ∧ Below w0.heap.size w0 w' ∧ KeepBut w w' g none := by
  by_cases he : e = 0
  · subst he
    have hn : numS b i 0 low high = if minusB b i low = true then numBody b i (-1) (i + 1) low high else numBody b i 1 i low high := by simp [numS]
    rw [hn]
    exact number_good g b i low high w0 w hI hB hi.1 hi.2 hb.1 hb.2 _ _ _ rfl
  · have hn : numS b i e low high = (0, i, e) := by simp [numS, he]
    rw [hn]
    refine (number_bad g b i e low high w0 w hI hB he).mono ?_
    rintro e' w' ⟨rfl, rfl⟩
    exact ⟨rfl, hI, hB, KeepBut.refl _ _ _⟩
theorem want_inB (b : List Int) (cs : List Int) (i e : Int) (h : InB b i) : InB b (wantS b i e cs).1 := want_in b cs i e h.1 h.2
theorem eats_len : ∀ (l : List Int) (n : Int), (eats l n).2 ≤ l.length
  | [], n => Nat.le_refl _
  | c :: cs, n => by
    unfold eats
    split
    · have := eats_len cs (if n ≤ 288230376151711743 then 10 * n + (c - 48) else 2305843009213693953)
      simp only [List.length_cons]
      omega
    · exact Nat.zero_le _
theorem numTail_inB (b : List Int) (fr sg p low high : Int) (r : Int × Nat) (h : InB b fr) (h2 : InB b p) (h3 : p + r.2 ≤ b.length) : InB b (numTail b fr sg p low high r).2.1 := by
  unfold numTail
  split
  · exact h
  · exact ⟨by have := h2.1; simp only; omega, h3⟩
theorem numBody_inB (b : List Int) (fr sg p low high : Int) (h : InB b fr) (h2 : InB b p) : InB b (numBody b fr sg p low high).2.1 := by
  unfold numBody
  split
  · exact h2
  · rename_i hb
    have hd : digB b p = true := by
      cases hd : digB b p with
      | true => rfl
      | false => exact absurd (.inl hd) hb
    have hl : p < b.length := by simp [digB] at hd; exact hd.1
    have h4 : InB b (p + 1) := ⟨by have := h2.1; omega, by omega⟩
    split
    · split
      · exact h4
      · exact numTail_inB _ _ _ _ _ _ _ h h4 (by simp only; omega)
    · refine numTail_inB _ _ _ _ _ _ _ h h2 ?_
      have := eats_len (b.drop p.toNat) 0
      rw [List.length_drop] at this
      have := h2.1
      omega
theorem num_inB (b : List Int) (i e low high : Int) (h : InB b i) : InB b (numS b i e low high).2.1 := by
  unfold numS
  split
  · exact h
  · split
    · rename_i hm
      exact numBody_inB _ _ _ _ _ _ h ⟨by have := h.1; omega, by simp [minusB] at hm; omega⟩
    · exact numBody_inB _ _ _ _ _ _ h h
theorem more_inB (b : List Int) (i e n fr : Int) (h : InB b i) (h2 : InB b fr) : InB b (moreS b i e n fr).1 := by
  unfold moreS
  dsimp only
  split
  · exact h2
  · exact want_inB _ _ _ _ h
def nextS (b : List Int) (i e low high : Int) : Int × Int × Int := numS b (wantS b i e [32]).1 (wantS b i e [32]).2 low high
theorem next_q (g : Nat) (b : List Int) (i e low high : Int) (w0 w : World) (hI : IsS48 w0 w g b i e) (hB : Below w0.heap.size w0 w) (hb : OkB b) (hi : InB b i) :
    Calls Try.prog 30 #[.pointer (some ⟨g, 0, none⟩), .int .i64 low, .int .i64 high] w fun e' w' => e' = .returned (.int .i64 (nextS b i e low high).1) ∧ IsS48 w0 w' g b (nextS b i e low high).2.1 (nextS b i e low high).2.2 ∧ Below w0.heap.size w0 w' ∧ KeepBut w w' g none := by
  have HB := Aside0.mk hb
  have HN := Aside0.mk hi
  have HI := Aside0.mk hI
  have HW := Aside0.mk hB
  clear hb hi hI hB
  go_enter Try.func30, Try.ntmps30
  go_wp2_with (first | (go_at_call 27; refine (want_q g b i e (⟨#[32]⟩ : ByteArray) (by decide) w0 _ HI.out HW.out HB.out HN.out).mono ?_; rintro ew w1 ⟨rfl, hi1, hb1, hk1⟩; have HI1 := Aside0.mk hi1; have HB1 := Aside0.mk hb1; have HK1 := Aside0.mk hk1; clear hi1 hb1 hk1) | (go_at_call 29; refine (number_q g b _ _ low high w0 _ HI1.out HB1.out HB.out (want_inB _ _ _ _ HN.out)).mono ?_; rintro ew w2 ⟨rfl, hi2, hb2, hk2⟩))
  go_ret
  exact ⟨rfl, by exact hi2, by exact hb2, KeepBut.trans HK1.out hk2 (.inl rfl)⟩
theorem next_inB (b : List Int) (i e low high : Int) (h : InB b i) : InB b (nextS b i e low high).2.1 := num_inB _ _ _ _ _ (want_inB _ _ _ _ h)
end Go.Proofs.Yteenpfdpokekgaa.PS0
