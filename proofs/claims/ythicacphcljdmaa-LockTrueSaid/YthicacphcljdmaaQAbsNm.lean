/- A loop's head: the slots that are forgotten, in one pass -/
import Derived.Test.YthicacphcljdmaaQAbsSl
namespace Go.Abs
def maskC (nb nr : Nat) : List Bool → List Slot → List Slot
  | [], s => s.map (clip nb nr)
  | _ :: _, [] => []
  | true :: bs, _ :: s => .v .undef :: maskC nb nr bs s
  | false :: bs, y :: s => clip nb nr y :: maskC nb nr bs s
theorem maskC_nil (nb nr : Nat) : maskC nb nr [] [] = [] := rfl
theorem maskC_t (nb nr : Nat) (bs : List Bool) (y : Slot) (s : List Slot) : maskC nb nr (true :: bs) (y :: s) = .v .undef :: maskC nb nr bs s := rfl
theorem maskC_f (nb nr : Nat) (bs : List Bool) (y : Slot) (s : List Slot) : maskC nb nr (false :: bs) (y :: s) = clip nb nr y :: maskC nb nr bs s := rfl
theorem maskC_get (nb nr : Nat) : ∀ (bs : List Bool) (s : List Slot) (i : Nat), (maskC nb nr bs s)[i]? = (s[i]?).map (fun y => if bs[i]?.getD false = true then .v .undef else clip nb nr y)
  | [], s, i => by simp [maskC]
  | _ :: _, [], i => by simp [maskC]
  | true :: bs, y :: s, i => by
    cases i with
    | zero => simp [maskC]
    | succ i => simp only [maskC, List.getElem?_cons_succ]; exact maskC_get nb nr bs s i
  | false :: bs, y :: s, i => by
    cases i with
    | zero => simp [maskC]
    | succ i => simp only [maskC, List.getElem?_cons_succ]; exact maskC_get nb nr bs s i
theorem killS_at (l : List Nat) : ∀ (s : List Slot) (i : Nat), (killS l s)[i]? = (s[i]?).map (fun y => if l.contains i = true then .v .undef else y) := by
  induction l with
  | nil => intro s i; simp [killS]
  | cons a l ih =>
    intro s i
    have := ih (s.set a (.v .undef)) i
    unfold killS at this ⊢
    rw [List.foldl_cons, this, List.getElem?_set]
    by_cases e : a = i
    · subst e
      rw [if_pos rfl]
      by_cases h : a < s.length
      · rw [if_pos h, List.getElem?_eq_getElem h]; simp
      · rw [if_neg h, List.getElem?_eq_none (by omega)]; rfl
    · rw [if_neg e]
      have : (i == a) = false := by simp; omega
      rw [List.contains_cons, this, Bool.false_or]
theorem norm_mask (bits : List Bool) {l : List Nat} {nb nr : Nat} {st : St} (h : (List.range bits.length).map (fun i => l.contains i) = bits) (hl : l.all (fun i => decide (i < bits.length)) = true) :
    norm l nb nr st = ⟨maskC nb nr bits st.s, (st.b.take nb).map (·.map (clipV nr)), st.r.take nr⟩ := by
  unfold norm
  congr 1
  refine List.ext_getElem? fun i => ?_
  rw [maskC_get, List.getElem?_map, killS_at, Option.map_map]
  congr 1
  funext y
  simp only [Function.comp_apply]
  have hb : bits[i]?.getD false = l.contains i := by
    by_cases hi : i < bits.length
    · have : bits[i]? = some (l.contains i) := by
        rw [← h, List.getElem?_map, List.getElem?_range (by simpa using hi)]; rfl
      rw [this]; rfl
    · rw [List.getElem?_eq_none (by omega)]
      cases hc : l.contains i with
      | false => rfl
      | true =>
        have := List.all_eq_true.1 hl i (by simpa using hc)
        exact absurd (of_decide_eq_true this) hi
  rw [hb]
  split
  · rfl
  · rfl
end Go.Abs
