/- A part of the proofs over this seat. -/
import Derived.Test.YthicacphcljdmaaQAbsV
namespace Go.Abs
set_option linter.unusedVariables false
set_option linter.unusedSimpArgs false
open Go.RowKit
section
variable {G0 : Gh} {W0 : World} {G : Gh} {L : Lg} {st : St} {H : Hp} {tmps : Array Value} {a : Act} {w w' : World} {P : Program} {o : Oper}
theorem wideAll_iff {es : List V} {n : Nat} : wideAll es n = true ↔ ∀ e ∈ es, e.width = n := by
  simp [wideAll]
/-- The cells of a row of trees, as memory has them. -/
theorem row_cells (h : Sim G H w) {row : List V} {b o sz : Nat} {f : Nat → Nat → Value} (h1 : ∀ (i : Nat) (e : V), row[i]? = some e → e.width = sz)
    (h2 : ∀ (i : Nat) (e : V) (j : Nat) (c : V), row[i]? = some e → e.cells[j]? = some c → G.K b (o + i * sz + j) = some (f i j))
    (h3 : ∀ (i : Nat) (e : V) (j : Nat) (c : V), row[i]? = some e → e.cells[j]? = some c → (f i j).oneCell' = true)
    (h4 : ∀ (i : Nat) (e : V) (j : Nat) (c : V), row[i]? = some e → e.cells[j]? = some c → AR G c (f i j)) (hz : 0 < sz) :
    ∃ us : List Value, us.length = row.length * sz ∧ CellsR G (row.flatMap V.cells) us ∧ ∀ (j : Nat) (u : Value), us[j]? = some u → G.K b (o + j) = some u := by
  have hw : ∀ e ∈ row, e.width = sz := fun e he => by
    obtain ⟨i, hi, rfl⟩ := List.getElem_of_mem he
    exact h1 i _ (List.getElem?_eq_getElem hi)
  have hfl := flat_length hw
  have key : ∀ k, k < row.length * sz → ∃ e c, row[k / sz]? = some e ∧ e.cells[k % sz]? = some c ∧ (row.flatMap V.cells)[k]? = some c := fun k hk => by
    have hi : k / sz < row.length := by rw [Nat.div_lt_iff_lt_mul hz]; exact hk
    have hj : k % sz < sz := Nat.mod_lt _ hz
    have he : row[k / sz]? = some row[k / sz] := List.getElem?_eq_getElem hi
    have hcl : (row[k / sz]).cells.length = sz := h1 _ _ he
    have hc : (row[k / sz]).cells[k % sz]? = some ((row[k / sz]).cells[k % sz]'(by omega)) := List.getElem?_eq_getElem (by omega)
    refine ⟨_, _, he, hc, ?_⟩
    have := flat_get hw he hj
    rw [hc, Nat.div_add_mod' k sz] at this
    exact this
  refine ⟨(List.range (row.length * sz)).map fun k => f (k / sz) (k % sz), by simp, ⟨by simp [hfl], fun u hu => ?_, fun j c u hc hu => ?_⟩, fun j u hu => ?_⟩
  · obtain ⟨k, hk, rfl⟩ := List.mem_map.1 hu
    obtain ⟨e, c, e1, e2, _⟩ := key k (List.mem_range.1 hk)
    exact h3 _ _ _ _ e1 e2
  · have hj : j < row.length * sz := by rw [← hfl]; exact (List.getElem?_eq_some_iff.1 hc).1
    obtain ⟨e, c', e1, e2, e3⟩ := key j hj
    rw [hc] at e3; cases e3
    simp [hj] at hu
    subst hu
    exact h4 _ _ _ _ e1 e2
  · have hj : j < row.length * sz := by have := (List.getElem?_eq_some_iff.1 hu).1; simpa using this
    obtain ⟨e, c', e1, e2, e3⟩ := key j hj
    simp [hj] at hu
    subst hu
    have := h2 _ _ _ _ e1 e2
    rw [Nat.add_assoc, Nat.div_add_mod'] at this
    exact this
/-- What a slice of a block of the heap holds -/
theorem slCont_sound (h : Sim G H w) {id lo len : Nat} {xs : List V} {u : Value} (hs : slCont H id lo len = some xs) (hu : VR G (.sl id lo len) u) :
    ∃ (b o cap : Nat) (us : List Value), u = .slice (some ⟨b, o, none⟩) len cap ∧ xs.length = len ∧ CellsR G (xs.flatMap V.cells) us ∧ (∀ (j : Nat) (v : Value), us[j]? = some v → w.cell? ⟨b, o + j, none⟩ = some v) ∧ len ≤ cap := by
  unfold slCont at hs
  split at hs
  · rename_i es he
    split at hs
    · rename_i hc
      cases hs
      cases hu with
      | sl _ _ _ cap hid hcap hcp =>
        obtain ⟨cc, E, fr, a1, a2, a3, a4, a5⟩ := h.cells id es he
        have hlen : ((es.drop lo).take len).length = len := by simp; omega
        have hw : ∀ e ∈ (es.drop lo).take len, e.width = G.wd id := fun e he => a3 e (List.mem_of_mem_drop (List.mem_of_mem_take he))
        have ht := a4.take
        have e1 : (es.flatMap V.cells) = ((es.take lo).flatMap V.cells) ++ (((es.drop lo).take len).flatMap V.cells ++ ((es.drop lo).drop len).flatMap V.cells) := by
          rw [← List.flatMap_append, List.take_append_drop, ← List.flatMap_append, List.take_append_drop]
        have e2 : ((es.take lo).flatMap V.cells).length = lo * G.wd id := by
          rw [flat_length (fun e he => a3 e (List.mem_of_mem_take he)), List.length_take, Nat.min_eq_left (by omega)]
        have e3 : (((es.drop lo).take len).flatMap V.cells).length = len * G.wd id := by rw [flat_length hw, hlen]
        have hd := (ht.drop (lo * G.wd id)).take (len * G.wd id)
        have e4 : ((es.flatMap V.cells).drop (lo * G.wd id)).take (len * G.wd id) = ((es.drop lo).take len).flatMap V.cells := by
          rw [e1, List.drop_append_of_le_length (by omega), List.drop_of_length_le (by omega), List.nil_append, List.take_append_of_le_length (by omega), List.take_of_length_le (by omega)]
        rw [e4] at hd
        refine ⟨G.φ id, lo * G.wd id, cap, _, rfl, hlen, hd, fun j v hj => ?_, hcap⟩
        rw [cell_of_row w _ _ cc E fr a1]
        rw [List.getElem?_take] at hj
        split at hj
        · rw [List.getElem?_drop, List.getElem?_take] at hj
          split at hj
          · simpa using hj
          · cases hj
        · cases hj
    · cases hs
  · cases hs
theorem src_sound (h : Sim G H w) {tx : TypeId} {y : V} {u : Value} {xs : List V} {size : Nat} (hs : srcV P H tx y = some xs) (hy : AR G y u) (hw : ∀ e ∈ xs, e.width = size) (hz : 0 < size) :
    ∃ news, Src P size tx u xs.length news w ∧ CellsR G (xs.flatMap V.cells) news := by
  have hv := view_AR h hy
  unfold srcV at hs
  split at hs
  · rename_i e' hk hvw
    cases hs
    rw [hvw] at hv
    obtain rfl := (hv (by simp)).nils_inv
    exact ⟨[], Src.ofNil w (ixT_sl hk).1 0, CellsP.nil⟩
  · rename_i e' row hk hvw
    cases hs
    rw [hvw] at hv
    rcases (hv (by simp)).rsl_inv with ⟨a', cap', rfl, rfl⟩ | ⟨b, o, sz, cap, f, rfl, h1, h2, h3, h4, h5⟩
    · exact ⟨[], Src.ofSlice w (ixT_sl hk).1 a' 0 cap' [] (by simp) (fun j v hj => by simp at hj) (fun v hv => by simp at hv), CellsP.nil⟩
    by_cases hr : xs = []
    · subst hr
      refine ⟨[], ?_, CellsP.nil⟩
      exact Src.ofSlice w (ixT_sl hk).1 ⟨b, o, none⟩ 0 cap [] (by simp) (fun j v hj => by simp at hj) (fun v hv => by simp at hv)
    · obtain ⟨e0, he0⟩ := List.exists_mem_of_ne_nil _ hr
      obtain ⟨i0, hi0, rfl⟩ := List.getElem_of_mem he0
      have : sz = size := by rw [← h1 i0 _ (List.getElem?_eq_getElem hi0), hw _ he0]
      subst this
      obtain ⟨us, u1, u2, u3⟩ := row_cells h h1 h2 h3 h4 hz
      refine ⟨us, Src.ofSlice w (ixT_sl hk).1 ⟨b, o, none⟩ xs.length cap us u1 (fun j v hj => ?_) u2.one, u2⟩
      rw [Addr.add_lit]; exact h.K _ _ _ (u3 j v hj)
  · rename_i e' id lo len hk hvw
    rw [hvw] at hv
    obtain ⟨b, o, cap, news, rfl, s1, s2, s3, s4⟩ := slCont_sound h hs (hv (by simp))
    by_cases hr : xs = []
    · subst hr
      have : len = 0 := by simpa using s1.symm
      subst this
      exact ⟨[], Src.ofSlice w (ixT_sl hk).1 ⟨b, o, none⟩ 0 cap [] (by simp) (fun j v hj => by simp at hj) (fun v hv => by simp at hv), CellsP.nil⟩
    · refine ⟨news, ?_, s2⟩
      rw [s1]
      refine Src.ofSlice w (ixT_sl hk).1 ⟨b, o, none⟩ len cap news ?_ (fun j v hj => ?_) s2.one
      · rw [s2.len, flat_length hw, s1]
      · rw [Addr.add_lit]; exact s3 j v hj
  · rename_i s hk hvw
    cases hs
    rw [hvw] at hv
    obtain rfl := (hv (by simp)).str_inv
    have hb : (s.data.toList.map fun b => (V.int .u8 b.toNat)).flatMap V.cells = s.data.toList.map fun b => (V.int .u8 b.toNat) := by
      generalize s.data.toList = l
      induction l with
      | nil => rfl
      | cons x xs ih => simp only [List.map_cons, List.flatMap_cons, ih]; rfl
    by_cases hs0 : s.data.toList = []
    · have hsz : s.size = 0 := by
        show s.data.size = 0
        rw [← Array.length_toList, hs0]; rfl
      refine ⟨[], ⟨.inr (ixT_str hk), fun w' => by simp [Builtin.lenOf, hs0, hsz], ?_, ?_, by simp [hs0], fun u hu => by cases hu⟩, by rw [hb, hs0]; exact CellsP.nil⟩
      · simp [Builtin.firstCells, hs0]
      · simp [Builtin.firstCells, hs0]
    · have h1 : size = 1 := by
        obtain ⟨x, hx⟩ := List.exists_mem_of_ne_nil _ hs0
        exact (hw (.int .u8 x.toNat) (List.mem_map.2 ⟨x, hx, rfl⟩)).symm
      subst h1
      have hl : (s.data.toList.map fun b => (V.int .u8 b.toNat)).length = s.size := by simp
      rw [hl]
      refine ⟨byteCells s, Src.ofString w (ixT_str hk) s, ?_⟩
      rw [hb]
      refine ⟨by rw [byteCells_length, hl], fun u hu => ?_, fun j c u hc hu => ?_⟩
      · obtain ⟨x, _, rfl⟩ := List.mem_map.1 hu; rfl
      · simp only [byteCells, List.getElem?_map] at hc hu
        cases hx : s.data.toList[j]? with
        | none => rw [hx] at hc; cases hc
        | some x => rw [hx] at hc hu; cases hc; cases hu; exact fun _ => .int _ _
  · cases hs
end
end Go.Abs
