import Derived.Test.YteenpfdpokekgaaPS0x1
namespace Go.Proofs.Yteenpfdpokekgaa.PS0
open Go.RowKit Go.Proofs.YteenpfdpokekgaaW.PrintWords Go.Proofs.YteenpfdpokekgaaW.PrintLast Go.Proofs.YteenpfdpokekgaaW.PrintMore
set_option linter.unusedVariables false
set_option linter.unusedSimpArgs false
def digB (b : List Int) (i : Int) : Bool := decide (i < (b.length : Int)) && (decide (rd b i ≥ 48) && decide (rd b i ≤ 57))
theorem digit_q (g : Nat) (b : List Int) (i e : Int) (A : Option Addr) (c : Nat) (w : World)
    (hb : w.heap[g]? = some (.cells #[.slice A b.length c, .int .i64 i, .int .i64 e] 48 (0, 0))) (hr : Kd.C (Kd.int .u8) w A b.length b) (h0 : 0 ≤ i) :
    Calls Try.prog 33 #[.pointer (some ⟨g, 0, none⟩)] w fun e w' => e = .returned (.bool (digB b i)) ∧ ∃ n, w' = w.drewN n := by
  have c0 := cellS48_0 hb
  have c1 := cellS48_1 hb
  clear hb
  by_cases h1 : i < (b.length : Int)
  · obtain ⟨ad, rfl, hc⟩ := Kd.at_int hr i h0 h1
    have d1 : decide (i < (b.length : Int)) = true := decide_eq_true h1
    by_cases h2 : rd b i ≥ 48
    · have hd : digB b i = decide (rd b i ≤ 57) := by simp [digB, h1, h2]
      rw [hd]; clear hd
      have d2 : decide (rd b i ≥ 48) = true := decide_eq_true h2
      clear h2 hr
      go_enter Try.func33, Try.ntmps33
      go_wp2
      repeat (go_quiet (fail); try go_wp2)
      go_ret
      exact ⟨rfl, _, rfl⟩
    · have hd : digB b i = false := by simp [digB, h1, h2]
      rw [hd]; clear hd
      have d2 : decide (rd b i ≥ 48) = false := decide_eq_false h2
      clear h2 hr
      go_enter Try.func33, Try.ntmps33
      go_wp2
      repeat (go_quiet (fail); try go_wp2)
      go_ret
      exact ⟨rfl, _, rfl⟩
  · have hd : digB b i = false := by simp [digB, h1]
    rw [hd]; clear hd
    have d1 : decide (i < (b.length : Int)) = false := decide_eq_false h1
    clear hr
    go_enter Try.func33, Try.ntmps33
    go_wp2
    repeat (go_quiet (fail); try go_wp2)
    go_ret
    exact ⟨rfl, _, rfl⟩
end Go.Proofs.Yteenpfdpokekgaa.PS0
