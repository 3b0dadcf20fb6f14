import Derived.Test.YtfjbgmcdkhepkaaAbsV
namespace Go.Abs
set_option linter.unusedVariables false
set_option linter.unusedSimpArgs false
open Go.RowKit
section
variable {G0 : Gh} {W0 : World} {G : Gh} {L : Lg} {st : St} {H : Hp} {tmps : Array Value} {a : Act} {w w' : World} {P : Program} {o : Oper}
theorem wideAll_iff {es : List V} {n : Nat} : wideAll es n = true ↔ ∀ e ∈ es, e.width = n := by
  simp [wideAll]
/-- The cells of a row of trees, as memory has them. -/
theorem row_cells (h : Sim G H w) {row : List V} {b o sz : Nat} {f : Nat → Nat → Value} (h1 : ∀ (i : Nat) (e : V), row[i]? = some e → e.width = sz)
    (h2 : ∀ (i : Nat) (e : V) (j : Nat) (c : V), row[i]? = some e → e.cells[j]? = some c → G.K b (o + i * sz + j) = some (f i j))
    (h3 : ∀ (i : Nat) (e : V) (j : Nat) (c : V), row[i]? = some e → e.cells[j]? = some c → (f i j).oneCell' = true)
    (h4 : ∀ (i : Nat) (e : V) (j : Nat) (c : V), row[i]? = some e → e.cells[j]? = some c → AR G c (f i j)) (hz : 0 < sz) :
    ∃ us : List Value, us.length = row.length * sz ∧ CellsR G (row.flatMap V.cells) us ∧ ∀ (j : Nat) (u : Value), us[j]? = some u → G.K b (o + j) = some u := by
  have hw : ∀ e ∈ row, e.width = sz := fun e he => by
    obtain ⟨i, hi, rfl⟩ := List.getElem_of_mem he
    exact h1 i _ (List.getElem?_eq_getElem hi)
  have hfl := flat_length hw
  have key : ∀ k, k < row.length * sz → ∃ e c, row[k / sz]? = some e ∧ e.cells[k % sz]? = some c ∧ (row.flatMap V.cells)[k]? = some c := fun k hk => by
    have hi : k / sz < row.length := by rw [Nat.div_lt_iff_lt_mul hz]; exact hk
    have hj : k % sz < sz := Nat.mod_lt _ hz
    have he : row[k / sz]? = some row[k / sz] := List.getElem?_eq_getElem hi
    have hcl : (row[k / sz]).cells.length = sz := h1 _ _ he
    have hc : (row[k / sz]).cells[k % sz]? = some ((row[k / sz]).cells[k % sz]'(by omega)) := List.getElem?_eq_getElem (by omega)
    refine ⟨_, _, he, hc, ?_⟩
    have := flat_get hw he hj
    rw [hc, Nat.div_add_mod' k sz] at this
    exact this
  refine ⟨(List.range (row.length * sz)).map fun k => f (k / sz) (k % sz), by simp, ⟨by simp [hfl], fun u hu => ?_, fun j c u hc hu => ?_⟩, fun j u hu => ?_⟩
  · obtain ⟨k, hk, rfl⟩ := List.mem_map.1 hu
    obtain ⟨e, c, e1, e2, _⟩ := key k (List.mem_range.1 hk)
    exact h3 _ _ _ _ e1 e2
  · have hj : j < row.length * sz := by rw [← hfl]; exact (List.getElem?_eq_some_iff.1 hc).1
    obtain ⟨e, c', e1, e2, e3⟩ := key j hj
    rw [hc] at e3; cases e3
    simp [hj] at hu
    subst hu
    exact h4 _ _ _ _ e1 e2
  · have hj : j < row.length * sz := by have := (List.getElem?_eq_some_iff.1 hu).1; simpa using this
    obtain ⟨e, c', e1, e2, e3⟩ := key j hj
    simp [hj] at hu
    subst hu
    have := h2 _ _ _ _ e1 e2
    rw [Nat.add_assoc, Nat.div_add_mod'] at this
    exact this
theorem src_sound (h : Sim G H w) {tx : TypeId} {y : V} {u : Value} {xs : List V} {size : Nat} (hs : srcV P H tx y = some xs) (hy : AR G y u) (hw : ∀ e ∈ xs, e.width = size) (hz : 0 < size) :
    ∃ news, Src P size tx u xs.length news w ∧ CellsR G (xs.flatMap V.cells) news := by
  have hv := view_AR h hy
  unfold srcV at hs
  split at hs
  · rename_i e' hk hvw
    cases hs
    rw [hvw] at hv
    obtain rfl := (hv (by simp)).nils_inv
    exact ⟨[], Src.ofNil w (ixT_sl hk).1 0, CellsP.nil⟩
  · rename_i e' row hk hvw
    cases hs
    rw [hvw] at hv
    rcases (hv (by simp)).rsl_inv with ⟨a', cap', rfl, rfl⟩ | ⟨b, o, sz, cap, f, rfl, h1, h2, h3, h4, h5⟩
    · exact ⟨[], Src.ofSlice w (ixT_sl hk).1 a' 0 cap' [] (by simp) (fun j v hj => by simp at hj) (fun v hv => by simp at hv), CellsP.nil⟩
    by_cases hr : xs = []
    · subst hr
      refine ⟨[], ?_, CellsP.nil⟩
      exact Src.ofSlice w (ixT_sl hk).1 ⟨b, o, none⟩ 0 cap [] (by simp) (fun j v hj => by simp at hj) (fun v hv => by simp at hv)
    · obtain ⟨e0, he0⟩ := List.exists_mem_of_ne_nil _ hr
      obtain ⟨i0, hi0, rfl⟩ := List.getElem_of_mem he0
      have : sz = size := by rw [← h1 i0 _ (List.getElem?_eq_getElem hi0), hw _ he0]
      subst this
      obtain ⟨us, u1, u2, u3⟩ := row_cells h h1 h2 h3 h4 hz
      refine ⟨us, Src.ofSlice w (ixT_sl hk).1 ⟨b, o, none⟩ xs.length cap us u1 (fun j v hj => ?_) u2.one, u2⟩
      rw [Addr.add_lit]; exact h.K _ _ _ (u3 j v hj)
  · rename_i s hk hvw
    cases hs
    rw [hvw] at hv
    obtain rfl := (hv (by simp)).str_inv
    have hb : (s.data.toList.map fun b => (V.int .u8 b.toNat)).flatMap V.cells = s.data.toList.map fun b => (V.int .u8 b.toNat) := by
      generalize s.data.toList = l
      induction l with
      | nil => rfl
      | cons x xs ih => simp only [List.map_cons, List.flatMap_cons, ih]; rfl
    by_cases hs0 : s.data.toList = []
    · have hsz : s.size = 0 := by
        show s.data.size = 0
        rw [← Array.length_toList, hs0]; rfl
      refine ⟨[], ⟨.inr (ixT_str hk), fun w' => by simp [Builtin.lenOf, hs0, hsz], ?_, ?_, by simp [hs0], fun u hu => by cases hu⟩, by rw [hb, hs0]; exact CellsP.nil⟩
      · simp [Builtin.firstCells, hs0]
      · simp [Builtin.firstCells, hs0]
    · have h1 : size = 1 := by
        obtain ⟨x, hx⟩ := List.exists_mem_of_ne_nil _ hs0
        exact (hw (.int .u8 x.toNat) (List.mem_map.2 ⟨x, hx, rfl⟩)).symm
      subst h1
      have hl : (s.data.toList.map fun b => (V.int .u8 b.toNat)).length = s.size := by simp
      rw [hl]
      refine ⟨byteCells s, Src.ofString w (ixT_str hk) s, ?_⟩
      rw [hb]
      refine ⟨by rw [byteCells_length, hl], fun u hu => ?_, fun j c u hc hu => ?_⟩
      · obtain ⟨x, _, rfl⟩ := List.mem_map.1 hu; rfl
      · simp only [byteCells, List.getElem?_map] at hc hu
        cases hx : s.data.toList[j]? with
        | none => rw [hx] at hc; cases hc
        | some x => rw [hx] at hc hu; cases hc; cases hu; exact fun _ => .int _ _
  · cases hs
end
end Go.Abs
