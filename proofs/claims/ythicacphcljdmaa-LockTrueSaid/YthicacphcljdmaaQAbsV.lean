/- A part of the proofs over this seat. -/
import Derived.Test.YthicacphcljdmaaQAbsQ
namespace Go.Abs
set_option linter.unusedVariables false
set_option linter.unusedSimpArgs false
open Go.RowKit
section
variable {G0 : Gh} {W0 : World} {G : Gh} {L : Lg} {st : St} {H : Hp} {tmps : Array Value} {a : Act} {w w' : World} {P : Program} {o : Oper}
theorem raw_one {x : Slot} {y : V} (h : okV x.raw = true) : ∃ z, x = .v z := by
  cases x with
  | v z => exact ⟨z, rfl⟩
  | box l => cases h
  | ref l o => cases h
/-- A store. -/
theorem store_op (h : Inv G0 W0 G L st H a.tmps w) {t : TypeId} {x y : Operand} {st' : St} {H' : Hp} (ho : o.op = .store t x y) (hs : storeOp P st H t (rdS st x) (rdS st y) = some (st', H')) :
    ∃ w' G' L', (execOp a.eval o).run P w = .ok .skip w' ∧ Inv G0 W0 G' L' st' H' a.tmps w' := by
  have hA := slot_R h.lr x
  have hX := raw_LAR h.lr y
  generalize hv : a.eval x = v at hA
  generalize hu : a.eval y = u at hX
  unfold storeOp at hs
  split at hs
  · cases hs
  · rename_i hz
    split at hs
    · rename_i l e
      rw [e] at hA
      obtain ⟨cs, h1, h2⟩ := Option.bind_eq_some_iff.1 hs
      obtain ⟨cs', h3, h4⟩ := Option.map_eq_some_iff.1 h2
      cases h4
      obtain ⟨w', h5, h6⟩ := h.storeBox (P := P) h1 h3 hX hz rfl
      exact ⟨w', G, L, by simp [execOp, ho, hv, hu, hA.2, Instr.storeAt, Instr.sureAddr, h5], h6⟩
    · rename_i l o' e
      rw [e] at hA
      obtain ⟨cs, h1, h2⟩ := Option.bind_eq_some_iff.1 hs
      obtain ⟨cs', h3, h4⟩ := Option.map_eq_some_iff.1 h2
      cases h4
      obtain ⟨w', h5, h6⟩ := h.storeBox (P := P) h1 h3 hX hz rfl
      exact ⟨w', G, L, by simp [execOp, ho, hv, hu, hA.2, Instr.storeAt, Instr.sureAddr, h5], h6⟩
    · rename_i id i o' e
      rw [e] at hA
      unfold storeHeap at hs
      obtain ⟨⟨z, st2, H2⟩, h1, h2⟩ := Option.bind_eq_some_iff.1 hs
      obtain ⟨H3, h3, h4⟩ := Option.map_eq_some_iff.1 h2
      cases h4
      simp only at h3
      obtain ⟨G', L', h5, h6, h7, _, _, _, h8⟩ := promote_sound h hX h1
      have hA2 : VR G' (.ptr id i o') v := VR.mono h6 hA
      cases hA2 with
      | ptr _ _ _ hid =>
        unfold heapSet at h3
        split at h3
        · rename_i es he
          obtain ⟨e1, h9, h10⟩ := Option.bind_eq_some_iff.1 h3
          obtain ⟨e2, h11, h12⟩ := Option.map_eq_some_iff.1 h10
          cases h12
          obtain ⟨c1, c2, c3, c4⟩ := elemSet_cells h11
          have hcr := (h7 (okV_ne c2)).cellsR (okV_tup c2)
          obtain ⟨cc, E, fr, d1, d2, d3, d4⟩ := h5.heapStore (off := o') he h9 hcr (by rw [show z.cells.length = _ from c3]; exact c4) c1
          have hus : u.cells.size = sizeT P t := by have := hcr.len; rw [show z.cells.length = _ from c3] at this; simpa using this
          have hrun := run_storeVar (P := P) hz hus d1 d2 (by simpa using d3) hcr.one
          exact ⟨_, G', L', by simp [execOp, ho, hv, hu, Instr.storeAt, Instr.sureAddr, hrun], d4⟩
        · cases h3
    · cases hs
/-! ### Variables are made -/
theorem run_box {t : TypeId} {u : Value} : (Instr.box t u).run P w = .ok (.pointer (some ⟨w.heap.size, 0, none⟩)) (w.alloc (.cells u.cells t)) := by
  simp [Instr.box, newVar, newRow]
theorem putS_b (st : St) (d : Option Nat) (x : Slot) (b : List (List V)) : { putS st d x with b := b } = putS { st with b := b } d x := by
  cases d <;> rfl
theorem alloc_sound {E : Env} (h : Inv G0 W0 G L st H a.tmps w) {x : V} {u : Value} {t : TypeId} {r : Ex × St × Hp} (hk : okV x = true) (hx : AR G x u) (ha : allocV E o st H x = some r) :
    r.1 = .normal ∧ ∃ G' L', Inv G0 W0 G' L' r.2.1 r.2.2 (a.put o.dst (.pointer (some ⟨w.heap.size, 0, none⟩))).tmps (w.alloc (.cells u.cells t)) := by
  have hcr := (hx (okV_ne hk)).cellsR (okV_tup hk)
  have hnew : (w.alloc (.cells u.cells t)).heap[w.heap.size]? = some (.cells u.cells t (0, 0)) := heap_alloc_new w _
  have c := Ch.alloc w (.cells u.cells t)
  unfold allocV at ha
  split at ha
  · rename_i d hd
    split at ha
    · cases ha
      have := (h.newBox u.cells t hnew c hcr).put o.dst (.box st.b.length) (.pointer (some ⟨w.heap.size, 0, none⟩)) ⟨by simp, by simp⟩
      exact ⟨rfl, G, _, by simp only [putS_b]; exact this⟩
    · cases ha
      obtain ⟨K', k1, k2, k3⟩ := h.newImm u.cells t hnew c
      refine ⟨rfl, _, L, k1.put o.dst _ _ ?_⟩
      exact VR.ept_mk (f := fun j => u.cells.getD j undef) (fun j c' hc => by
          obtain ⟨v, hv, _⟩ := hcr.get hc
          have hv' : u.cells[j]? = some v := by simpa using hv
          simp only [Nat.zero_add, Array.getD_eq_getD_getElem?, hv', Option.getD_some]
          exact k3 j v hv') (fun j c' hc => by
          obtain ⟨v, hv, h1, _⟩ := hcr.get hc
          have hv' : u.cells[j]? = some v := by simpa using hv
          simp only [Array.getD_eq_getD_getElem?, hv', Option.getD_some]; exact h1) (fun j c' hc => by
          obtain ⟨v, hv, _, h2⟩ := hcr.get hc
          have hv' : u.cells[j]? = some v := by simpa using hv
          simp only [Array.getD_eq_getD_getElem?, hv', Option.getD_some]; exact h2.mono k2)
    · cases ha
      have := h.newBlk (y := .cells [x]) (wd := x.width) (cp := 1) hnew (by simp) c (BlkOK.row (es := [x]) hnew (by simp) (by simpa using hcr))
      refine ⟨rfl, _, L, this.put o.dst _ _ ?_⟩
      have hp := VR.ptr (G := G.addBlk w.heap.size x.width 1) G.n 0 0 (by simp [Gh.addBlk])
      have hp' : VR (G.addBlk w.heap.size x.width 1) (.ptr G.n 0 0) (.pointer (some ⟨w.heap.size, 0, none⟩)) := by simpa [Gh.addBlk] using hp
      rw [h.sim.len]
      exact hp'
  · cases ha
end
end Go.Abs
