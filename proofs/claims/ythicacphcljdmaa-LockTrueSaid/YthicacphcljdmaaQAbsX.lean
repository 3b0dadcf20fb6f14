/- A part of the proofs over this seat. -/
import Derived.Test.YthicacphcljdmaaQAbsW
namespace Go.Abs
set_option linter.unusedVariables false
set_option linter.unusedSimpArgs false
open Go.RowKit
theorem fold_set (off : Nat) : ∀ (l : List Value) (k : Nat) (cells : Array Value), off + k + l.length ≤ cells.size →
    ((l.zipIdx k).foldl (fun (cs : Array Value) p => cs.setIfInBounds (off + p.2) p.1) cells).toList = cells.toList.take (off + k) ++ l ++ cells.toList.drop (off + k + l.length)
  | [], k, cells, h => by simp
  | x :: l, k, cells, h => by
    simp only [List.zipIdx_cons, List.foldl_cons, List.length_cons] at h ⊢
    rw [fold_set off l (k + 1) _ (by simp; omega)]
    have h1 : off + k < cells.toList.length := by simp; omega
    simp only [Array.toList_setIfInBounds]
    apply List.ext_getElem?
    intro j
    simp only [List.getElem?_append, List.getElem?_take, List.getElem?_drop, List.length_take, List.length_append, List.length_set, List.getElem?_set, List.length_cons, List.getElem?_cons]
    grind
theorem fill_one (off : Nat) (v : Value) (cells : Array Value) (h : off + v.cells.size ≤ cells.size) :
    (v.cells.zipIdx.foldl (fun (cs : Array Value) (x : Value × Nat) => cs.setIfInBounds (off + x.2) x.1) cells).toList = cells.toList.take off ++ v.cells.toList ++ cells.toList.drop (off + v.cells.toList.length) := by
  rw [← Array.foldl_toList, Array.toList_zipIdx]
  have := fold_set off v.cells.toList 0 cells (by simpa using h)
  simpa using this
section
variable {G0 : Gh} {W0 : World} {G : Gh} {L : Lg} {st : St} {H : Hp} {a : Act} {w : World} {P : Program} {o : Oper} {tmps : Array Value}
theorem fill_sound {place : Nat → Option (Nat × Nat)} : ∀ {parts : List (Nat × V)} {vals : List (Nat × Value)} {cs cs' : List V} {us : Array Value}, fillV place cs parts = some cs' → CellsR G cs us.toList → vals.length = parts.length →
    (∀ (i : Nat) (p : Nat × V) (q : Nat × Value), parts[i]? = some p → vals[i]? = some q → p.1 = q.1 ∧ AR G p.2 q.2) → ∃ us', Instr.fill place us vals = some us' ∧ CellsR G cs' us'.toList
  | [], vals, cs, cs', us, h, hc, hl, hp => by
    cases h
    have : vals = [] := List.eq_nil_of_length_eq_zero (by simpa using hl)
    subst this
    exact ⟨us, rfl, hc⟩
  | (i, v) :: parts, [], cs, cs', us, h, hc, hl, hp => by simp at hl
  | (i, v) :: parts, (i', u) :: vals, cs, cs', us, h, hc, hl, hp => by
    obtain ⟨h1, h2⟩ := hp 0 _ _ rfl rfl
    simp only at h1 h2
    subst h1
    simp only [fillV] at h
    cases hpl : place i with
    | none => rw [hpl] at h; cases h
    | some q =>
      obtain ⟨off, size⟩ := q
      rw [hpl] at h
      simp only at h
      split at h
      · cases h
      · rename_i hcond
        simp only [Bool.or_eq_true, Bool.not_eq_true', decide_eq_true_eq, not_or, Bool.not_eq_false, Decidable.not_not] at hcond
        obtain ⟨⟨hk, hw⟩, hle⟩ := hcond
        have hv := h2 (okV_ne hk)
        have hcr := hv.cellsR (okV_tup hk)
        have hs : u.cells.size = v.width := by have := hcr.len; simpa [V.width] using this
        have hsz : us.size = cs.length := by have := hc.len; simpa using this
        have hf := fill_one off u us (by rw [hs, hsz]; omega)
        have hov := hc.overlay hcr off
        rw [← hf] at hov
        obtain ⟨us', h3, h4⟩ := fill_sound (vals := vals) h hov (by simpa using hl) (fun j p q hj hq => hp (j + 1) p q (by simpa using hj) (by simpa using hq))
        refine ⟨us', ?_, h4⟩
        simp only [Instr.fill, hpl]
        rw [if_neg (by simp [hs, hw, hsz]; omega)]
        exact h3
theorem LAR.to_AR0 {c : V} {u : Value} (h : LAR G L 0 c u) : AR G c u := by
  cases c <;> first | exact fun _ => h | (intro hn; exact absurd rfl hn) | exact absurd h.1 (by omega)
theorem ofConst_AR (v : Value) : AR G (ofConst v) v := LAR.to_AR0 (L := { β := id, cv := fun _ _ => none, ow := fun _ => none }) (ofConst_LAR v)
theorem zero_cells {cs : Array Value} (h : okV (ofConst (.agg cs)) = true) : CellsR G (ofConst (.agg cs)).cells cs.toList :=
  (ofConst_AR (.agg cs) (okV_ne h)).cellsR (okV_tup h)
theorem layT_built {t : TypeId} {q : List V × Lay} (h : layT P t = some q) : ∃ us, CellsR G q.1 us.toList ∧ ∀ parts, P.built t parts = Instr.fill q.2.place us parts := by
  unfold layT at h
  cases hi : P.info? t with
  | none => rw [hi] at h; cases h
  | some it =>
    rw [hi] at h
    cases hu : P.underlying t with
    | none => rw [hu] at h; cases h
    | some d =>
      rw [hu] at h
      cases d <;> try (cases h; done)
      case array n e =>
        simp only at h
        split at h
        · rename_i cs ie hz hie
          split at h
          · rename_i hk
            cases h
            refine ⟨cs, zero_cells hk, fun parts => ?_⟩
            simp [Program.built, hi, hu, hz, hie, Value.cells]
            rfl
          · cases h
        · cases h
      case struct fields =>
        simp only at h
        split at h
        · rename_i cs places hz hpl
          split at h
          · rename_i hk
            cases h
            refine ⟨cs, zero_cells hk, fun parts => ?_⟩
            simp only [Program.built, hi, hu, hz, hpl, Value.cells]
            congr 1
            funext x
            simp [Lay.place]
          · cases h
        · cases h
theorem parts_rel (hI : LR W0.heap.size G L st a.tmps w) (parts : Array (Nat × Operand)) : ∀ (i : Nat) (p : Nat × V) (q : Nat × Value), (parts.toList.map fun p => (p.1, rd st p.2))[i]? = some p → (parts.map fun (i, x) => (i, a.eval x)).toList[i]? = some q → p.1 = q.1 ∧ AR G p.2 q.2 := by
  intro i p q hp hq
  rw [List.getElem?_map] at hp
  obtain ⟨r, hr, rfl⟩ := Option.map_eq_some_iff.1 hp
  rw [Array.toList_map, List.getElem?_map, hr] at hq
  cases hq
  exact ⟨rfl, rd_AR hI r.2⟩
theorem build_op (hI : Inv G0 W0 G L st H a.tmps w) {t : TypeId} {parts : Array (Nat × Operand)} {s : V} (ho : o.op = .build t parts) (h : buildOp P t (parts.toList.map fun p => (p.1, rd st p.2)) = some s) :
    ∃ u, (execOp a.eval o).run P w = .ok (.value u) w ∧ AR G s u := by
  unfold buildOp at h
  obtain ⟨q, h1, h2⟩ := Option.bind_eq_some_iff.1 h
  obtain ⟨cs', h3, rfl⟩ := Option.map_eq_some_iff.1 h2
  obtain ⟨us, h4, h5⟩ := layT_built (G := G) h1
  obtain ⟨us', h6, h7⟩ := fill_sound (vals := (parts.map fun (i, x) => (i, a.eval x)).toList) h3 h4 (by simp) (parts_rel hI.lr parts)
  refine ⟨.agg us', ?_, fun _ => ?_⟩
  · have := run_build (P := P) w t (parts.map fun (i, x) => (i, a.eval x)) us' (by rw [h5]; exact h6)
    simp only [execOp, ho, this]
    simp [this]
  · have := VR.agg_mk h7
    simpa using this
theorem min_sound {x y z : V} {u v : Value} (h : minV x y = some z) (hx : AR G x u) (hy : AR G y v) (ts : Array TypeId) (t : TypeId) : ∃ r, (Builtin.min_ ts t #[u, v]).run P w = .ok r w ∧ AR G z r := by
  unfold minV at h
  split at h
  · split at h
    · rename_i hk
      cases h
      obtain rfl := (hx (by simp)).int_inv
      obtain rfl := (hy (by simp)).int_inv
      exact ⟨_, by simp [Builtin.min_, Builtin.min2], fun _ => .int _ _⟩
    · cases h
  · cases h
theorem max_sound {x y z : V} {u v : Value} (h : maxV x y = some z) (hx : AR G x u) (hy : AR G y v) (ts : Array TypeId) (t : TypeId) : ∃ r, (Builtin.max_ ts t #[u, v]).run P w = .ok r w ∧ AR G z r := by
  unfold maxV at h
  split at h
  · split at h
    · rename_i hk
      cases h
      obtain rfl := (hx (by simp)).int_inv
      obtain rfl := (hy (by simp)).int_inv
      exact ⟨_, by simp [Builtin.max_, Builtin.max2], fun _ => .int _ _⟩
    · cases h
  · cases h
end
end Go.Abs
