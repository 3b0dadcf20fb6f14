import Derived.Test.YteenpfdpokekgaaH3
import Derived.WalkSpells
namespace Go.Proofs.Yteenpfdpokekgaa.PS0
open Go.RowKit Go.Proofs.YteenpfdpokekgaaW.PrintWords Go.Proofs.YteenpfdpokekgaaW.PrintLast Go.Proofs.YteenpfdpokekgaaW.PrintMore
set_option linter.unusedVariables false
set_option linter.unusedSimpArgs false
/-- The same bytes, as the string conversion has them. -/
def sameB (l p : List Int) : Bool := (strOfNums l).toList == (strOfNums p).toList
theorem equal_q (A : Option Addr) (n c : Nat) (l : List Int) (B : Option Addr) (m d : Nat) (p : List Int) (w : World) (hr : Kd.C (Kd.int .u8) w A n l) (hr2 : Kd.C (Kd.int .u8) w B m p) :
    Calls Try.prog 31 #[.slice A n c, .slice B m d] w fun e w' => e = .returned (.bool (sameB l p)) ∧ ∃ k, w' = w.drewN k := by
  have hcv3 := Kd.C_string (P := Try.prog) (A := A) (c := c) Try.underlying22 Try.underlying5 Try.underlying9 hr
  have hcv4 := Kd.C_string (P := Try.prog) (A := B) (c := d) Try.underlying22 Try.underlying5 Try.underlying9 hr2
  clear hr hr2
  go_enter Try.func31, Try.ntmps31
  go_wp2
  go_ret
  exact ⟨rfl, 0, rfl⟩
def prefB (l p : List Int) : Bool := decide (p.length ≤ l.length) && sameB (l.take p.length) p
theorem hasPrefix_q (A : Option Addr) (n c : Nat) (l : List Int) (B : Option Addr) (m d : Nat) (p : List Int) (w : World) (hn : l.length = n) (hm : p.length = m) (hr : Kd.C (Kd.int .u8) w A n l) (hc : n ≤ c) (hr2 : Kd.C (Kd.int .u8) w B m p) :
    Calls Try.prog 26 #[.slice A n c, .slice B m d] w fun e w' => e = .returned (.bool (prefB l p)) ∧ ∃ k, w' = w.drewN k := by
  subst hn hm
  by_cases h : p.length ≤ l.length
  · have h1 : decide ((p.length : Int) ≤ (l.length : Int)) = true := decide_eq_true (by omega)
    have h2 : decide (p.length ≤ l.length) = true := decide_eq_true h
    obtain ⟨i0, hi0, _, hsz, _⟩ := info_parts (show (Try.prog.info? 5).map (fun i => (i.zero, i.size, i.bytes)) = some (some (.int .u8 0), 1, 1) by kernel_rfl)
    have hcut := cut_to (P := Try.prog) 22 5 .i64 Try.underlying22 hi0 A l.length c (p.length : Int) (by omega) (by omega) hc
    have HR := Aside0.mk (Kd.C_take (m := p.length) hr h)
    have HR2 := Aside0.mk hr2
    have HP := Aside0.mk (show sameB (l.take p.length) p = prefB l p by simp [prefB, h])
    have HL := Aside0.mk (show (l.take p.length).length = p.length by rw [List.length_take]; omega)
    clear hr hr2 hi0 hsz h
    go_enter Try.func26, Try.ntmps26
    go_wp2_with (first | (go_at_call 31; refine (equal_q A _ _ (l.take p.length) B _ _ p _ ?_ ?_).mono ?_; (have h := HR.out; rw [HL.out] at h; exact h); (exact HR2.out); rintro ew wf ⟨rfl, nd_, rfl⟩))
    repeat (go_quiet ((go_at_call 31; refine (equal_q A _ _ (l.take p.length) B _ _ p _ ?_ ?_).mono ?_; (have h := HR.out; rw [HL.out] at h; exact h); (exact HR2.out); rintro ew wf ⟨rfl, nd_, rfl⟩)); try go_wp2)
    go_ret
    exact ⟨congrArg (fun b => Ending.returned (.bool b)) HP.out, by first | exact ⟨_, rfl⟩ | exact ⟨0, rfl⟩⟩
  · have h1 : decide ((p.length : Int) ≤ (l.length : Int)) = false := decide_eq_false (by omega)
    have h2 : decide (p.length ≤ l.length) = false := decide_eq_false h
    have HP := Aside0.mk (show false = prefB l p by simp [prefB, h])
    clear hr hr2 h
    go_enter Try.func26, Try.ntmps26
    go_wp2
    repeat (go_quiet (fail); try go_wp2)
    go_ret
    exact ⟨congrArg (fun b => Ending.returned (.bool b)) HP.out, by first | exact ⟨_, rfl⟩ | exact ⟨0, rfl⟩⟩
end Go.Proofs.Yteenpfdpokekgaa.PS0
