/- A part of the proofs over this seat. -/
import Derived.Test.YthicacphcljdmaaQAbsS
namespace Go.Abs
set_option linter.unusedVariables false
set_option linter.unusedSimpArgs false
open Go.RowKit
section
variable {G0 : Gh} {W0 : World} {G : Gh} {L : Lg} {st : St} {H : Hp} {a : Act} {w : World} {P : Program} {o : Oper} {next : Act → World → Prop} {Q : Exit → Act → World → Prop}
theorem wp_val {u : Value} {w' : World} (h : (execOp a.eval o).run P w = .ok (.value u) w') (hn : next (a.put o.dst u) w') : o.wp P a w next Q := by
  unfold Oper.wp; rw [h]; exact hn
theorem wp_skp {w' : World} (h : (execOp a.eval o).run P w = .ok .skip w') (hn : next (a.put o.dst undef) w') : o.wp P a w next Q := by
  unfold Oper.wp; rw [h]; exact hn
theorem slotCells_sound {tmps : Array Value} (hI : Inv G0 W0 G L st H tmps w) {A : Slot} {v : Value} {cs : List V} {off : Nat} (h : slotCells st H A = some (cs, off)) (hA : SlotR G L st.b.length st.r.length A v) :
    ∃ b o us, v = .pointer (some ⟨b, o + off, none⟩) ∧ CellsP (LAR G L st.r.length) cs us ∧ ∀ (j : Nat) (u : Value), us[j]? = some u → w.cell? ⟨b, o + j, none⟩ = some u := by
  unfold slotCells at h
  split at h
  · rename_i l
    obtain ⟨cs', h1, h2⟩ := Option.map_eq_some_iff.1 h
    cases h2
    obtain ⟨_, rfl⟩ := hA
    obtain ⟨c, E, fr, b1, b2, b3⟩ := hI.lr.box l cs h1
    refine ⟨L.β l, 0, c.toList, rfl, b3, fun j u hu => ?_⟩
    rw [Nat.zero_add, cell_of_row w _ j c E fr b1]; simpa using hu
  · rename_i l o
    obtain ⟨cs', h1, h2⟩ := Option.map_eq_some_iff.1 h
    cases h2
    obtain ⟨_, rfl⟩ := hA
    obtain ⟨c, E, fr, b1, b2, b3⟩ := hI.lr.box l cs h1
    refine ⟨L.β l, 0, c.toList, by rw [Nat.zero_add], b3, fun j u hu => ?_⟩
    rw [Nat.zero_add, cell_of_row w _ j c E fr b1]; simpa using hu
  · rename_i e o
    cases h
    cases (show VR G (.ept e off) v from hA) with
    | ept _ _ b o f h1 h2 h3 =>
      refine ⟨b, o, (List.range e.cells.length).map f, rfl, ⟨by simp, fun u hu => ?_, fun j c u hc hu => ?_⟩, fun j u hu => ?_⟩
      · obtain ⟨j, hj, rfl⟩ := List.mem_map.1 hu
        have hj' := List.mem_range.1 hj
        exact h2 j _ (List.getElem?_eq_getElem hj')
      · have hj := (List.getElem?_eq_some_iff.1 hc).1
        simp [hj] at hu
        subst hu
        exact LAR.of_AR (h3 j c hc)
      · have hj : j < e.cells.length := by
          have := (List.getElem?_eq_some_iff.1 hu).1
          simpa using this
        simp [hj] at hu
        subst hu
        exact hI.sim.K _ _ _ (h1 j _ (List.getElem?_eq_getElem hj))
  · rename_i id i o
    split at h
    · rename_i es he
      obtain ⟨e, h1, h2⟩ := Option.map_eq_some_iff.1 h
      cases h2
      cases (show VR G (.ptr id i off) v from hA) with
      | ptr _ _ _ hid =>
        obtain ⟨c, E, fr, b1, b2, b3, b4, _⟩ := hI.sim.cells id es he
        have hw : e.cells.length = G.wd id := b3 e (List.mem_of_getElem? h1)
        refine ⟨G.φ id, i * G.wd id, (List.range e.cells.length).map fun j => c.getD (i * G.wd id + j) undef, rfl, ?_, ?_⟩
        · have key : ∀ j x, e.cells[j]? = some x → ∃ u, c[i * G.wd id + j]? = some u ∧ u.oneCell' = true ∧ AR G x u := fun j x hx => by
            have hj : j < G.wd id := by rw [← hw]; exact (List.getElem?_eq_some_iff.1 hx).1
            have := flat_get b3 h1 hj
            rw [hx] at this
            obtain ⟨u, hu, h3, h4⟩ := b4.get this
            exact ⟨u, by simpa using hu, h3, h4⟩
          refine ⟨by simp, fun u hu => ?_, fun j x u hx hu => ?_⟩
          · obtain ⟨j, hj, rfl⟩ := List.mem_map.1 hu
            have hj' := List.mem_range.1 hj
            obtain ⟨u, hu, h3, _⟩ := key j _ (List.getElem?_eq_getElem hj')
            simp [Array.getD_eq_getD_getElem?, hu, h3]
          · have hj := (List.getElem?_eq_some_iff.1 hx).1
            obtain ⟨u', hu', h3, h4⟩ := key j x hx
            simp [hj, hu'] at hu
            subst hu
            exact LAR.of_AR h4
        · intro j u hu
          have hj : j < e.cells.length := by
            have := (List.getElem?_eq_some_iff.1 hu).1
            simpa using this
          have hx := flat_get b3 h1 (j := j) (by omega)
          rw [List.getElem?_eq_getElem hj] at hx
          obtain ⟨u', hu', _⟩ := b4.get hx
          simp at hu'
          simp [hj, hu'] at hu
          subst hu
          rw [cell_of_row w _ _ c E fr b1]; exact hu'
    · cases h
  · cases h
theorem load_op {E : Env} (hgl : GlOK E.gl G) (hI : Inv G0 W0 G L st H a.tmps w) {t : TypeId} {x : Operand} {s : Slot} (ho : o.op = .load t x) (h : loadOp P st H t (rdG E st x) = some s) :
    ∃ u, (execOp a.eval o).run P w = .ok (.value u) w ∧ SlotR G L st.b.length st.r.length s u := by
  unfold loadOp at h
  obtain ⟨⟨cs, off⟩, h1, h2⟩ := Option.bind_eq_some_iff.1 h
  obtain ⟨b, o', us, e, hc, hm⟩ := slotCells_sound hI h1 (slotG_R hgl hI.lr x)
  obtain ⟨u, hu, hs⟩ := load_sound hI.lr h2 hc hm
  exact ⟨u, by simp [execOp, ho, Instr.loadAt, Instr.sureAddr, e, hu], hs⟩
theorem run_sizeOf_pos {t : TypeId} (h : P.cellsOf t ≠ 0) : (sizeOf t).run P w = .ok (P.cellsOf t) w := by
  unfold Program.cellsOf at h ⊢
  cases hi : P.info? t with
  | none => rw [hi] at h; exact absurd rfl h
  | some i => simp [sizeOf, typeInfo, hi]
theorem fieldT_run {t : TypeId} {f off : Nat} {ft : TypeId} (h : fieldT P t f = some (off, ft)) (b o' : Nat) :
    (Instr.fieldAt t (.pointer (some ⟨b, o', none⟩)) f).run P w = .ok (.pointer (some ⟨b, o' + off, none⟩)) w := by
  unfold fieldT at h
  split at h
  · rename_i fs hu
    obtain ⟨fd, h1, h2⟩ := Option.bind_eq_some_iff.1 h
    split at h2
    · cases h2
    · rename_i hz
      cases h2
      simp [Instr.fieldAt, run_underlying hu, h1, Instr.sureAddr, fieldPlace, run_sizeOf_pos hz, hz, Addr.add_lit]
  · cases h
theorem fieldAddr_op {E : Env} (hgl : GlOK E.gl G) (hI : Inv G0 W0 G L st H a.tmps w) {t : TypeId} {x : Operand} {f : Nat} {s : Slot} (ho : o.op = .fieldAddr t x f) (h : fieldAddrOp P t (rdG E st x) f = some s) :
    ∃ u, (execOp a.eval o).run P w = .ok (.value u) w ∧ SlotR G L st.b.length st.r.length s u := by
  unfold fieldAddrOp at h
  obtain ⟨⟨off, ft⟩, h1, h2⟩ := Option.bind_eq_some_iff.1 h
  have hA := slotG_R hgl hI.lr x
  split at h2
  · rename_i l e; rw [e] at hA; cases h2; obtain ⟨a1, a2⟩ := hA
    exact ⟨.pointer (some ⟨L.β l, off, none⟩), by simp [execOp, ho, a2, fieldT_run h1], a1, rfl⟩
  · rename_i l o' e; rw [e] at hA; cases h2; obtain ⟨a1, a2⟩ := hA
    exact ⟨_, by simp [execOp, ho, a2, fieldT_run h1], a1, rfl⟩
  · rename_i id j o' e; rw [e] at hA; cases h2
    generalize hv : a.eval x = v at hA
    cases (show VR G (.ptr id j o') v from hA) with
    | ptr _ _ _ hid => exact ⟨_, by simp [execOp, ho, hv, fieldT_run h1]; rfl, by rw [Nat.add_assoc]; exact VR.ptr id j (o' + off) hid⟩
  · rename_i y o' e; rw [e] at hA; cases h2
    generalize hv : a.eval x = v at hA
    cases (show VR G (.ept y o') v from hA) with
    | ept _ _ b o f a1 a2 a3 => exact ⟨_, by simp [execOp, ho, hv, fieldT_run h1]; rfl, by rw [Nat.add_assoc]; exact VR.ept y (o' + off) b o f a1 a2 a3⟩
  · cases h2
theorem nilCheck_op (hI : Inv G0 W0 G L st H a.tmps w) {x : Operand} {s : Slot} (ho : o.op = .nilCheck x) (h : nilCheckOp (rdS st x) = some s) :
    ∃ u, (execOp a.eval o).run P w = .ok (.value u) w ∧ SlotR G L st.b.length st.r.length s u := by
  have hA := slot_R hI.lr x
  generalize hv : a.eval x = v at hA
  unfold nilCheckOp at h
  split at h <;> (try cases h) <;> (rename_i e; rw [e] at hA)
  · obtain ⟨a1, rfl⟩ := hA; exact ⟨_, by simp [execOp, ho, hv], a1, rfl⟩
  · obtain ⟨a1, rfl⟩ := hA; exact ⟨_, by simp [execOp, ho, hv], a1, rfl⟩
  · have hA' := hA
    cases (show VR G (.ptr _ _ _) v from hA); exact ⟨_, by simp [execOp, ho, hv], hA'⟩
  · have hA' := hA
    cases (show VR G (.ept _ _) v from hA); exact ⟨_, by simp [execOp, ho, hv], hA'⟩
  · have hA' := hA
    cases (show VR G (.fn _ _ _) v from hA); exact ⟨_, by simp [execOp, ho, hv], hA'⟩
  · have hA' := hA
    cases (show VR G (.ifc _ _) v from hA); exact ⟨_, by simp [execOp, ho, hv], hA'⟩
end
end Go.Abs
