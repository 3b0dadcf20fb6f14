import Derived.Test.YtfjbgmcdkhepkaaAbsM
namespace Go.Abs
set_option linter.unusedVariables false
set_option linter.unusedSimpArgs false
open Go.RowKit
/-! ### Memory of the heap -/
section
variable {G0 : Gh} {W0 : World} {G : Gh} {L : Lg} {st : St} {H : Hp} {tmps : Array Value} {w w' : World} {P : Program}
/-- The heap's part may change more blocks, knows more of them: what the frame holds stays. -/
theorem LR.heap {B0 : Nat} {G' : Gh} (h : LR B0 G L st tmps w) (hle : G.le G') (hK : ∀ b, b < w.heap.size → ¬ G.hb b → ∀ o, G'.K b o = G.K b o) (hhb : ∀ b, b < w.heap.size → G'.hb b → G.hb b) : LR B0 G' L st tmps w where
  size := h.size
  slot s x u hs hu := by
    have := h.slot s x u hs hu
    cases x with
    | v x => exact LAR.mono hle (Nat.le_refl _) (fun _ _ _ _ r => r) this
    | box l => exact this
    | ref l o => exact this
  box l cs hl := by
    obtain ⟨cc, E, fr, a1, a2, a3⟩ := h.box l cs hl
    exact ⟨cc, E, fr, a1, a2, a3.mono fun _ _ r => LAR.mono hle (Nat.le_refl _) (fun _ _ _ _ r => r) r⟩
  boxd l hl := by
    obtain ⟨a1, a2, a3, a4⟩ := h.boxd l hl
    exact ⟨a1, fun hb => a2 (hhb _ (h.box_lt hl) hb), a3, fun o => by rw [hK _ (h.box_lt hl) a2]; exact a4 o⟩
  inj := h.inj
  row rid q hq := by
    obtain ⟨a1, a2⟩ := h.row rid q hq
    refine ⟨fun len u hu => ⟨(a1 len u hu).1, (a1 len u hu).2.1, (a1 len u hu).2.2.mono hle⟩, fun ho => ?_⟩
    obtain ⟨u, b1, b2⟩ := a2 ho
    refine ⟨u, b1, ?_⟩
    rcases b2 with b2 | ⟨b, o, cap, h1, h2, h3, h4⟩
    · exact .inl b2
    · refine .inr ⟨b, o, cap, h1, h2, h3, ?_⟩
      rcases h4 with h4 | ⟨sz, cc, E, fr, c1, c2, c3, c4, c5, c6, c7⟩
      · exact .inl h4
      · have hb := lt_of_block c3
        exact .inr ⟨sz, cc, E, fr, c1, c2, c3, c4, c5, fun j hj => by rw [hK b hb c7.2.2]; exact c6 j hj, c7.1, c7.2.1, fun x => c7.2.2 (hhb b hb x)⟩
  owlt := h.owlt
theorem Fr.heap {G' : Gh} (h : Fr G0 W0 G w) (hK : ∀ b, b < w.heap.size → ¬ G.hb b → ∀ o, G'.K b o = G.K b o) (hhb : ∀ b, b < w.heap.size → G'.hb b → G.hb b) : Fr G0 W0 G' w where
  os := h.os
  tape := h.tape
  output := h.output
  size := h.size
  blk b hb hn := by
    obtain ⟨a1, a2, a3⟩ := h.blk b hb hn
    have hb' := Nat.lt_of_lt_of_le hb h.size
    exact ⟨a1, fun x => a2 (hhb b hb' x), fun o => (hK b hb' a2 o).trans (a3 o)⟩
/-- What a new block of the heap holds. -/
def BlkOK (G : Gh) (wd : Nat) (y : Blk) (o : Obj) : Prop :=
  (∃ es c E, y = .cells es ∧ o = .cells c E (0, 0) ∧ (∀ e ∈ es, e.width = wd) ∧ CellsR G (es.flatMap V.cells) c.toList) ∨ (y = .map [] ∧ ∃ cl, o = .map #[] cl)
def Gh.addBlk (G : Gh) (b wd : Nat) : Gh := { G with φ := fun i => if i = G.n then b else G.φ i, wd := fun i => if i = G.n then wd else G.wd i, n := G.n + 1, hb := fun x => G.hb x ∨ x = b }
theorem Gh.le.addBlk (G : Gh) (b wd : Nat) : G.le (G.addBlk b wd) :=
  ⟨by simp [Gh.addBlk], fun i hi => by simp [Gh.addBlk]; omega, fun i hi => by simp [Gh.addBlk]; omega, fun _ _ _ h => h, fun _ _ _ h => h⟩
theorem Inv.newBlk (h : Inv G0 W0 G L st H tmps w) {y : Blk} {o : Obj} {wd : Nat} (hw : w'.heap[w.heap.size]? = some o) (hs : w.heap.size < w'.heap.size) (c : Ch (fun _ => False) w w') (hy : BlkOK G wd y o) :
    Inv G0 W0 (G.addBlk w.heap.size wd) L st (H ++ [y]) tmps w' := by
  have hx := h.ext c
  have hle := Gh.le.addBlk G w.heap.size wd
  have hφ : ∀ i, i < G.n → (G.addBlk w.heap.size wd).φ i = G.φ i := hle.φ
  have hwd : ∀ i, i < G.n → (G.addBlk w.heap.size wd).wd i = G.wd i := hle.wd
  have hφn : (G.addBlk w.heap.size wd).φ G.n = w.heap.size := by simp [Gh.addBlk]
  have hwn : (G.addBlk w.heap.size wd).wd G.n = wd := by simp [Gh.addBlk]
  have hlen := h.sim.len
  have hlive : y.live = true := by rcases hy with ⟨_, _, _, rfl, _⟩ | ⟨rfl, _⟩ <;> rfl
  have old : ∀ {i : Nat} {x : Blk}, (H ++ [y])[i]? = some x → (i < G.n ∧ H[i]? = some x) ∨ (i = G.n ∧ x = y) := fun {i x} hi => by
    rw [List.getElem?_append] at hi
    split at hi
    · exact .inl ⟨by omega, hi⟩
    · have : i = G.n := by have := (List.getElem?_eq_some_iff.1 hi).1; simp at this; omega
      subst this
      rw [← hlen] at hi
      simp at hi
      exact .inr ⟨rfl, hi.symm⟩
  exact {
    sim := {
      len := by simp [Gh.addBlk, hlen]
      K := hx.sim.K
      cells := fun i es he => by
        rcases old he with ⟨hi, h1⟩ | ⟨rfl, h1⟩
        · rw [hφ i hi, hwd i hi]
          obtain ⟨cc, E, fr, a1, a2, a3, a4⟩ := hx.sim.cells i es h1
          exact ⟨cc, E, fr, a1, a2, a3, a4.mono fun _ _ r => r.mono hle⟩
        · rw [hφn, hwn]
          rcases hy with ⟨es', cc, E, rfl, rfl, h2, h3⟩ | ⟨rfl, _⟩
          · cases h1; exact ⟨cc, E, (0, 0), hw, fun j hj => frozen_of_row w' _ j cc E hw, h2, h3.mono fun _ _ r => r.mono hle⟩
          · cases h1
      map := fun i es he => by
        rcases old he with ⟨hi, h1⟩ | ⟨rfl, h1⟩
        · rw [hφ i hi]
          obtain ⟨ms, cl, a1, a2, a3⟩ := hx.sim.map i es h1
          refine ⟨ms, cl, a1, a2, fun j k v hj => ?_⟩
          obtain ⟨m, b1, b2, b3, b4⟩ := a3 j k v hj
          exact ⟨m, b1, b2.mono hle, b3, b4.mono hle⟩
        · rw [hφn]
          rcases hy with ⟨es', cc, E, rfl, rfl, h2, h3⟩ | ⟨rfl, cl, rfl⟩
          · cases h1
          · cases h1; exact ⟨#[], cl, hw, rfl, fun j k v hj => by simp at hj⟩
      row := fun i ns es he => by
        rcases old he with ⟨hi, h1⟩ | ⟨rfl, h1⟩
        · obtain ⟨a1, u, a2, a3⟩ := h.sim.row i ns es h1
          exact ⟨fun len v hv => ⟨(a1 len v hv).1, (a1 len v hv).2.mono hle⟩, u, a2, (a3.le (G' := G.addBlk w.heap.size wd) (fun _ _ _ => rfl) (fun b hb x => ⟨x.1, .inl x.2⟩)).ch c (fun _ _ x => x)⟩
        · rw [← h1] at hlive; cases hlive
      inj := fun i j x z hi hj lx lz he => by
        rcases old hi with ⟨i1, i2⟩ | ⟨rfl, i2⟩ <;> rcases old hj with ⟨j1, j2⟩ | ⟨rfl, j2⟩
        · rw [hφ i i1, hφ j j1] at he; exact h.sim.inj i j x z i2 j2 lx lz he
        · rw [hφ i i1, hφn] at he; have := h.sim.hblt _ (h.sim.hb i x i2 lx).1; omega
        · rw [hφ j j1, hφn] at he; have := h.sim.hblt _ (h.sim.hb j z j2 lz).1; omega
        · rfl
      hb := fun i x hi lx => by
        rcases old hi with ⟨i1, i2⟩ | ⟨rfl, i2⟩
        · rw [hφ i i1]; obtain ⟨a1, a2, a3⟩ := h.sim.hb i x i2 lx; exact ⟨.inl a1, a2, a3⟩
        · rw [hφn]
          refine ⟨.inr rfl, ?_, fun o' => ?_⟩
          · show G.ow _ = none
            cases ho : G.ow w.heap.size with
            | none => rfl
            | some r =>
              exact absurd ho (by
                intro ho
                have := h.sim.hblt _ (h.sim.owhb _ _ ho); omega)
          · show G.K _ o' = none
            cases hk : G.K w.heap.size o' with
            | none => rfl
            | some u => have := h.sim.lt_of_K hk; omega
      cvn := fun i l u hu => by have := h.sim.cvn i l u hu; simp [Gh.addBlk]; omega
      hblt := fun b hb => by
        rcases hb with hb | rfl
        · exact hx.sim.hblt b hb
        · exact hs
      owhb := fun b i ho => .inl (h.sim.owhb b i ho) }
    lr := (h.lr.heap hle (fun _ _ _ _ => rfl) (fun b hb x => (show G.hb b ∨ b = w.heap.size from x).elim (fun y => y) (fun e => by omega))).ch c (fun _ _ _ x => x)
    fr := Fr.ch (Fr.heap (G := G) (G' := G.addBlk w.heap.size wd) h.fr (fun _ _ _ _ => rfl) (fun b hb x => (show G.hb b ∨ b = w.heap.size from x).elim (fun y => y) (fun e => by omega))) c (fun _ _ _ x => x)
    le := h.le.trans hle }
/-! ### Cells are written -/
theorem heap_setCell_at {b o : Nat} {v : Value} {cc : Array Value} {E : TypeId} {fr : Nat × Nat} (h : w.heap[b]? = some (.cells cc E fr)) : (w.setCell ⟨b, o, none⟩ v).heap[b]? = some (.cells (cc.setIfInBounds o v) E fr) := by
  simp [World.setCell, Array.getElem?_modify, h]
theorem setCells_at {b : Nat} {E : TypeId} {fr : Nat × Nat} : ∀ (vs : List Value) (o : Nat) (w : World) (cc : Array Value), w.heap[b]? = some (.cells cc E fr) → o + vs.length ≤ cc.size →
    ∃ cc', (w.setCells b o vs).heap[b]? = some (.cells cc' E fr) ∧ cc'.toList = cc.toList.take o ++ vs ++ cc.toList.drop (o + vs.length)
  | [], o, w, cc, h, hl => ⟨cc, h, by simp⟩
  | v :: vs, o, w, cc, h, hl => by
    simp only [List.length_cons] at hl
    obtain ⟨cc', h1, h2⟩ := setCells_at vs (o + 1) (w.setCell ⟨b, o, none⟩ v) (cc.setIfInBounds o v) (heap_setCell_at h) (by simp; omega)
    refine ⟨cc', h1, ?_⟩
    rw [h2]
    simp only [Array.toList_setIfInBounds]
    apply List.ext_getElem?
    intro j
    have : o < cc.toList.length := by simp; omega
    simp only [List.getElem?_append, List.getElem?_take, List.getElem?_drop, List.length_take, List.length_append, List.length_set, List.getElem?_set, List.length_cons, List.getElem?_cons]
    grind
theorem setCells_ch (b : Nat) : ∀ (vs : List Value) (o : Nat) (w : World), Ch (fun x => x = b) w (w.setCells b o vs)
  | [], o, w => ⟨rfl, rfl, rfl, Nat.le_refl _, fun _ _ _ => rfl⟩
  | v :: vs, o, w => by
    have h := setCells_ch b vs (o + 1) (w.setCell ⟨b, o, none⟩ v)
    have hs : (w.setCell ⟨b, o, none⟩ v).heap.size = w.heap.size := by simp [World.setCell]
    exact ⟨h.os, h.tape, h.output, by have := h.size; rw [hs] at this; exact this, fun x hx hn => (h.blk x (by omega) hn).trans (Below.heap_setCell w ⟨b, o, none⟩ v x hn)⟩
theorem setCells_nf {b n : Nat} {vs : List Value} {o x : Nat} (h : NF w x n) : NF (w.setCells b o vs) x n := fun j hj => by
  rw [World.frozen?_setCells]; exact h j hj
theorem storeCells_run {b o : Nat} {cc : Array Value} {E : TypeId} {fr : Nat × Nat} {vs : List Value} (h : w.heap[b]? = some (.cells cc E fr)) (hn : NF w b cc.size) (hl : o + vs.length ≤ cc.size) (h1 : ∀ v ∈ vs, v.oneCell' = true) :
    (storeCells ⟨b, o, none⟩ vs).run P w = .ok () (w.setCells b o vs) := by
  have := run_storeCells_cells (P := P) b o vs 0 w (fun j hj => by rw [Nat.add_zero, cell_of_row w _ _ cc E fr h]; simp; omega) (fun j hj => by rw [Nat.add_zero]; exact hn _ (by omega)) h1
  simpa using this
theorem run_storeVar {t : TypeId} {b o : Nat} {u : Value} {cc : Array Value} {E : TypeId} {fr : Nat × Nat} (hz : P.cellsOf t ≠ 0) (hu : u.cells.size = sizeT P t) (h : w.heap[b]? = some (.cells cc E fr)) (hn : NF w b cc.size) (hl : o + u.cells.size ≤ cc.size) (h1 : ∀ v ∈ u.cells.toList, v.oneCell' = true) :
    (storeVar t ⟨b, o, none⟩ u).run P w = .ok () (w.setCells b o u.cells.toList) := by
  have hs : u.cells.size = P.cellsOf t := hu
  simp [storeVar, run_sizeOf_pos hz, hs, storeCells_run (P := P) h hn (by simpa using hl) h1]
end
end Go.Abs
