/- Laws for a scope whose label is jumped to forwards alone: what stands behind the label is walked where the jump is. -/
import Derived.WalkKit
namespace Go
/-- As Q; by a goto to label l: what stands behind the label is carried out. -/
def Exit.fwd (P : Program) (l : Nat) (rest : Code) (Q : Exit → Act → World → Prop) : Exit → Act → World → Prop
  | .goto l', a, w => l' = l ∧ rest.wp P (Exit.noGoto Q) a w
  | e, a, w => Q e a w
def Exit.isGoto : Exit → Bool
  | .goto _ => true
  | _ => false
section
variable {P : Program} {l : Nat} {rest : Code} {Q : Exit → Act → World → Prop} {a : Act} {w : World} {e : Exit}
theorem Exit.fwd_goto (h : rest.wp P (Exit.noGoto Q) a w) : Exit.fwd P l rest Q (.goto l) a w := ⟨rfl, h⟩
theorem Exit.fwd_other (he : e.isGoto = false) (h : Q e a w) : Exit.fwd P l rest Q e a w := by
  cases e <;> first | exact h | exact absurd he (by simp [Exit.isGoto])
theorem Exit.noGoto_other (he : e.isGoto = false) (h : Q e a w) : Exit.noGoto Q e a w := by
  cases e <;> first | exact h | exact absurd he (by simp [Exit.isGoto])
theorem wp_scope_fwd {c : Code} (l : Nat) (hf : findLabel c l = some rest) (first : c.wp P (Exit.fwd P l rest Q) a w) : (Code.scope c).wp P Q a w := by
  refine wp_scope_jumps l (fun a w => rest.wp P (Exit.noGoto Q) a w) (fun _ _ => 0) hf ?_ ?_
  · refine Code.wp_mono ?_ first
    intro e a w h
    cases e <;> exact h
  · intro a w h
    refine Code.wp_mono ?_ h
    intro e a w h
    cases e <;> first | exact h | exact h.elim
end
end Go
