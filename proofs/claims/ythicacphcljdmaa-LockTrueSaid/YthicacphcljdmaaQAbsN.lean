/- A part of the proofs over this seat. -/
import Derived.Test.YthicacphcljdmaaQAbsM
namespace Go.Abs
set_option linter.unusedVariables false
set_option linter.unusedSimpArgs false
open Go.RowKit
/-! ### Memory of the heap -/
section
variable {G0 : Gh} {W0 : World} {G : Gh} {L : Lg} {st : St} {H : Hp} {tmps : Array Value} {w w' : World} {P : Program}
/-- The heap's part may change more blocks, knows more of them: what the frame holds stays. -/
theorem LR.heap {B0 : Nat} {G' : Gh} (h : LR B0 G L st tmps w) (hle : G.le G') (hK : ∀ b, b < w.heap.size → ¬ G.hb b → ∀ o, G'.K b o = G.K b o) (hhb : ∀ b, b < w.heap.size → G'.hb b → G.hb b) : LR B0 G' L st tmps w where
  size := h.size
  slot s x u hs hu := by
    have := h.slot s x u hs hu
    cases x with
    | v x => exact LAR.mono hle (Nat.le_refl _) (fun _ _ _ _ r => r) this
    | box l => exact this
    | ref l o => exact this
  box l cs hl := by
    obtain ⟨cc, E, fr, a1, a2, a3⟩ := h.box l cs hl
    exact ⟨cc, E, fr, a1, a2, a3.mono fun _ _ r => LAR.mono hle (Nat.le_refl _) (fun _ _ _ _ r => r) r⟩
  boxd l hl := by
    obtain ⟨a1, a2, a3, a4⟩ := h.boxd l hl
    exact ⟨a1, fun hb => a2 (hhb _ (h.box_lt hl) hb), a3, fun o => by rw [hK _ (h.box_lt hl) a2]; exact a4 o⟩
  inj := h.inj
  row rid q hq := by
    obtain ⟨a1, a2⟩ := h.row rid q hq
    refine ⟨fun len u hu => ⟨(a1 len u hu).1, (a1 len u hu).2.1, (a1 len u hu).2.2.mono hle⟩, fun ho => ?_⟩
    obtain ⟨u, b1, b2⟩ := a2 ho
    refine ⟨u, b1, ?_⟩
    rcases b2 with b2 | ⟨b, o, cap, h1, h2, h3, h4⟩
    · exact .inl b2
    · refine .inr ⟨b, o, cap, h1, h2, h3, ?_⟩
      rcases h4 with h4 | ⟨sz, cc, E, fr, c1, c2, c3, c4, c5, c6, c7⟩
      · exact .inl h4
      · have hb := lt_of_block c3
        exact .inr ⟨sz, cc, E, fr, c1, c2, c3, c4, c5, fun j hj => by rw [hK b hb c7.2.2]; exact c6 j hj, c7.1, c7.2.1, fun x => c7.2.2 (hhb b hb x)⟩
  owlt := h.owlt
theorem Fr.heap {G' : Gh} (h : Fr G0 W0 G w) (hK : ∀ b, b < w.heap.size → ¬ G.hb b → ∀ o, G'.K b o = G.K b o) (hhb : ∀ b, b < w.heap.size → G'.hb b → G.hb b) : Fr G0 W0 G' w where
  os := h.os
  tape := h.tape
  output := h.output
  size := h.size
  blk b hb hn := by
    obtain ⟨a1, a2, a3⟩ := h.blk b hb hn
    have hb' := Nat.lt_of_lt_of_le hb h.size
    exact ⟨a1, fun x => a2 (hhb b hb' x), fun o => (hK b hb' a2 o).trans (a3 o)⟩
/-- What a new block of the heap holds. -/
def BlkOK (G : Gh) (w : World) (b wd cp : Nat) (y : Blk) (o : Obj) : Prop :=
  (∃ es c E fr, y = .cells es ∧ o = .cells c E fr ∧ NF w b c.size ∧ (∀ e ∈ es, e.width = wd) ∧ PreR G (es.flatMap V.cells) c.toList ∧ es.length ≤ cp ∧ cp * wd ≤ c.size ∧ fr.1 ≤ fr.2) ∨ (y = .map [] ∧ ∃ cl, o = .map #[] cl)
theorem BlkOK.row {G : Gh} {w : World} {b wd : Nat} {es : List V} {c : Array Value} {E : TypeId} (hw : w.heap[b]? = some (.cells c E (0, 0))) (h1 : ∀ e ∈ es, e.width = wd) (h2 : CellsR G (es.flatMap V.cells) c.toList) : BlkOK G w b wd es.length (.cells es) (.cells c E (0, 0)) :=
  .inl ⟨es, c, E, (0, 0), rfl, rfl, fun j hj => frozen_of_row w _ j c E hw, h1, .of h2, Nat.le_refl _, by
    have := h2.len
    have hf : ∀ {es : List V}, (∀ e ∈ es, e.width = wd) → (es.flatMap V.cells).length = es.length * wd := fun {es} h => by
      induction es with
      | nil => simp
      | cons x xs ih =>
        simp only [List.flatMap_cons, List.length_append, List.length_cons]
        rw [ih (fun e he => h e (by simp [he])), show x.cells.length = wd from h x (by simp), Nat.add_mul]
        omega
    rw [hf h1] at this
    simp at this
    omega, Nat.le_refl _⟩
def Gh.addBlk (G : Gh) (b wd cp : Nat) : Gh := { G with φ := fun i => if i = G.n then b else G.φ i, wd := fun i => if i = G.n then wd else G.wd i, n := G.n + 1, hb := fun x => G.hb x ∨ x = b, cp := fun i => if i = G.n then cp else G.cp i }
theorem Gh.le.addBlk (G : Gh) (b wd cp : Nat) : G.le (G.addBlk b wd cp) :=
  ⟨by simp [Gh.addBlk], fun i hi => by simp [Gh.addBlk]; omega, fun i hi => by simp [Gh.addBlk]; omega, fun _ _ _ h => h, fun _ _ _ h => h, fun i hi => by simp [Gh.addBlk]; omega⟩
theorem Inv.newBlk (h : Inv G0 W0 G L st H tmps w) {y : Blk} {o : Obj} {wd cp : Nat} (hw : w'.heap[w.heap.size]? = some o) (hs : w.heap.size < w'.heap.size) (c : Ch (fun _ => False) w w') (hy : BlkOK G w' w.heap.size wd cp y o) :
    Inv G0 W0 (G.addBlk w.heap.size wd cp) L st (H ++ [y]) tmps w' := by
  have hx := h.ext c
  have hle := Gh.le.addBlk G w.heap.size wd cp
  have hφ : ∀ i, i < G.n → (G.addBlk w.heap.size wd cp).φ i = G.φ i := hle.φ
  have hwd : ∀ i, i < G.n → (G.addBlk w.heap.size wd cp).wd i = G.wd i := hle.wd
  have hcp : ∀ i, i < G.n → (G.addBlk w.heap.size wd cp).cp i = G.cp i := hle.cp
  have hφn : (G.addBlk w.heap.size wd cp).φ G.n = w.heap.size := by simp [Gh.addBlk]
  have hwn : (G.addBlk w.heap.size wd cp).wd G.n = wd := by simp [Gh.addBlk]
  have hcn : (G.addBlk w.heap.size wd cp).cp G.n = cp := by simp [Gh.addBlk]
  have hlen := h.sim.len
  have hlive : y.live = true := by rcases hy with ⟨_, _, _, _, rfl, _⟩ | ⟨rfl, _⟩ <;> rfl
  have old : ∀ {i : Nat} {x : Blk}, (H ++ [y])[i]? = some x → (i < G.n ∧ H[i]? = some x) ∨ (i = G.n ∧ x = y) := fun {i x} hi => by
    rw [List.getElem?_append] at hi
    split at hi
    · exact .inl ⟨by omega, hi⟩
    · have : i = G.n := by have := (List.getElem?_eq_some_iff.1 hi).1; simp at this; omega
      subst this
      rw [← hlen] at hi
      simp at hi
      exact .inr ⟨rfl, hi.symm⟩
  exact {
    sim := {
      len := by simp [Gh.addBlk, hlen]
      K := hx.sim.K
      cells := fun i es he => by
        rcases old he with ⟨hi, h1⟩ | ⟨rfl, h1⟩
        · rw [hφ i hi, hwd i hi, hcp i hi]
          obtain ⟨cc, E, fr, a1, a2, a3, a4, a5⟩ := hx.sim.cells i es h1
          exact ⟨cc, E, fr, a1, a2, a3, a4.mono (fun _ _ r => r.mono hle), a5⟩
        · rw [hφn, hwn, hcn]
          rcases hy with ⟨es', cc, E, fr, rfl, rfl, h0, h2, h3, h4⟩ | ⟨rfl, _⟩
          · cases h1; exact ⟨cc, E, fr, hw, h0, h2, h3.mono (fun _ _ r => r.mono hle), h4⟩
          · cases h1
      map := fun i es he => by
        rcases old he with ⟨hi, h1⟩ | ⟨rfl, h1⟩
        · rw [hφ i hi]
          obtain ⟨ms, cl, a1, a2, a3⟩ := hx.sim.map i es h1
          refine ⟨ms, cl, a1, a2, fun j k v hj => ?_⟩
          obtain ⟨m, b1, b2, b3, b4⟩ := a3 j k v hj
          exact ⟨m, b1, b2.mono hle, b3, b4.mono hle⟩
        · rw [hφn]
          rcases hy with ⟨es', cc, E, fr, rfl, rfl, h2, h3⟩ | ⟨rfl, cl, rfl⟩
          · cases h1
          · cases h1; exact ⟨#[], cl, hw, rfl, fun j k v hj => by simp at hj⟩
      row := fun i ns es he => by
        rcases old he with ⟨hi, h1⟩ | ⟨rfl, h1⟩
        · obtain ⟨a1, u, a2, a3⟩ := h.sim.row i ns es h1
          exact ⟨fun len v hv => ⟨(a1 len v hv).1, (a1 len v hv).2.mono hle⟩, u, a2, (a3.le (G' := G.addBlk w.heap.size wd cp) (fun _ _ _ => rfl) (fun b hb x => ⟨x.1, .inl x.2⟩)).ch c (fun _ _ x => x)⟩
        · rw [← h1] at hlive; cases hlive
      inj := fun i j x z hi hj lx lz he => by
        rcases old hi with ⟨i1, i2⟩ | ⟨rfl, i2⟩ <;> rcases old hj with ⟨j1, j2⟩ | ⟨rfl, j2⟩
        · rw [hφ i i1, hφ j j1] at he; exact h.sim.inj i j x z i2 j2 lx lz he
        · rw [hφ i i1, hφn] at he; have := h.sim.hblt _ (h.sim.hb i x i2 lx).1; omega
        · rw [hφ j j1, hφn] at he; have := h.sim.hblt _ (h.sim.hb j z j2 lz).1; omega
        · rfl
      hb := fun i x hi lx => by
        rcases old hi with ⟨i1, i2⟩ | ⟨rfl, i2⟩
        · rw [hφ i i1]; obtain ⟨a1, a2, a3⟩ := h.sim.hb i x i2 lx; exact ⟨.inl a1, a2, a3⟩
        · rw [hφn]
          refine ⟨.inr rfl, ?_, fun o' => ?_⟩
          · show G.ow _ = none
            cases ho : G.ow w.heap.size with
            | none => rfl
            | some r =>
              exact absurd ho (by
                intro ho
                have := h.sim.hblt _ (h.sim.owhb _ _ ho); omega)
          · show G.K _ o' = none
            cases hk : G.K w.heap.size o' with
            | none => rfl
            | some u => have := h.sim.lt_of_K hk; omega
      cvn := fun i l u hu => by have := h.sim.cvn i l u hu; simp [Gh.addBlk]; omega
      hblt := fun b hb => by
        rcases hb with hb | rfl
        · exact hx.sim.hblt b hb
        · exact hs
      owhb := fun b i ho => .inl (h.sim.owhb b i ho) }
    lr := (h.lr.heap hle (fun _ _ _ _ => rfl) (fun b hb x => (show G.hb b ∨ b = w.heap.size from x).elim (fun y => y) (fun e => by omega))).ch c (fun _ _ _ x => x)
    fr := Fr.ch (Fr.heap (G := G) (G' := G.addBlk w.heap.size wd cp) h.fr (fun _ _ _ _ => rfl) (fun b hb x => (show G.hb b ∨ b = w.heap.size from x).elim (fun y => y) (fun e => by omega))) c (fun _ _ _ x => x)
    le := h.le.trans hle }
/-- A block of the heap lies elsewhere from now on, or is no longer spoken of under its number. -/
theorem Inv.moveBlk (h : Inv G0 W0 G L st H tmps w) {id b wd cp : Nat} {es : List V} {y : Blk} {o : Obj} (he : H[id]? = some (.cells es)) (hb : b = G.φ id ∨ b = w.heap.size) (hw : w'.heap[b]? = some o) (c : Ch (fun x => x = G.φ id) w w') (hy : BlkOK G w' b wd cp y o) (hyc : ∃ es', y = .cells es') :
    Inv G0 W0 (G.addBlk b wd cp) L st (H.set id .dead ++ [y]) tmps w' := by
  have hle := Gh.le.addBlk G b wd cp
  have hφ : ∀ i, i < G.n → (G.addBlk b wd cp).φ i = G.φ i := hle.φ
  have hwd : ∀ i, i < G.n → (G.addBlk b wd cp).wd i = G.wd i := hle.wd
  have hcp : ∀ i, i < G.n → (G.addBlk b wd cp).cp i = G.cp i := hle.cp
  have hφn : (G.addBlk b wd cp).φ G.n = b := by simp [Gh.addBlk]
  have hwn : (G.addBlk b wd cp).wd G.n = wd := by simp [Gh.addBlk]
  have hcn : (G.addBlk b wd cp).cp G.n = cp := by simp [Gh.addBlk]
  have hlen := h.sim.len
  have hidn : id < G.n := by rw [← hlen]; exact (List.getElem?_eq_some_iff.1 he).1
  obtain ⟨hb1, hb2, hb3⟩ := h.sim.hb id _ he rfl
  have hnew : ∀ x, w.heap.size = x → ¬ G.hb x := fun x e hx => by have := h.sim.hblt _ hx; omega
  have hhb : ∀ x, x < w.heap.size → (G.hb x ∨ x = b) → G.hb x := fun x hx hh => hh.elim (fun y => y) (fun e => by
    rcases hb with hb | hb
    · rw [e, hb]; exact hb1
    · omega)
  have old : ∀ {i : Nat} {x : Blk}, (H.set id .dead ++ [y])[i]? = some x → (i < G.n ∧ i = id ∧ x = .dead) ∨ (i < G.n ∧ i ≠ id ∧ H[i]? = some x) ∨ (i = G.n ∧ x = y) := fun {i x} hi => by
    rw [List.getElem?_append] at hi
    split at hi
    · rename_i hlt
      rw [List.length_set] at hlt
      rw [List.getElem?_set] at hi
      split at hi
      · rename_i e; subst e; rw [if_pos (by rw [hlen]; exact hidn)] at hi; cases hi; exact .inl ⟨hidn, rfl, rfl⟩
      · rename_i e; exact .inr (.inl ⟨by omega, fun e2 => e e2.symm, hi⟩)
    · have : i = G.n := by have := (List.getElem?_eq_some_iff.1 hi).1; simp at this; simp at *; omega
      subst this
      rw [← hlen] at hi
      simp at hi
      exact .inr (.inr ⟨rfl, hi.symm⟩)
  have hne : ∀ {i : Nat} {x : Blk}, i ≠ id → H[i]? = some x → x.live = true → G.φ i ≠ G.φ id := fun hi hx hl e => hi (h.sim.inj _ id _ _ hx he hl rfl e)
  have hD : ∀ x, (fun x => x = G.φ id) x → G.hb x := fun x e => by rw [show x = G.φ id from e]; exact hb1
  have hbnot : ∀ {i : Nat} {x : Blk}, i ≠ id → H[i]? = some x → x.live = true → G.φ i ≠ b := fun hi hx hl e => by
    rcases hb with hb | hb
    · exact hne hi hx hl (e.trans hb)
    · have := h.sim.hblt _ (h.sim.hb _ _ hx hl).1; omega
  have hsize : b < w'.heap.size := lt_of_block hw
  exact {
    sim := {
      len := by simp [Gh.addBlk, hlen]
      K := fun b' o' u hk => by
        have hb' : b' ≠ G.φ id := by rintro rfl; have := hb3 o'; rw [show G.K _ _ = some u from hk] at this; cases this
        rw [World.cell?_of_block (w := w) (a := ⟨b', o', none⟩) (c.blk b' (h.sim.lt_of_K hk) hb')]; exact h.sim.K b' o' u hk
      cells := fun i es2 hi => by
        rcases old hi with ⟨_, _, h1⟩ | ⟨i1, i2, h1⟩ | ⟨rfl, h1⟩
        · cases h1
        · rw [hφ i i1, hwd i i1, hcp i i1]
          obtain ⟨cc, E, fr, a1, a2, a3, a4, a5⟩ := h.sim.cells i es2 h1
          have hn := hne i2 h1 rfl
          exact ⟨cc, E, fr, c.at_ a1 hn, c.nf a1 hn a2, a3, a4.mono (fun _ _ r => r.mono hle), a5⟩
        · rw [hφn, hwn, hcn]
          rcases hy with ⟨es', cc, E, fr, rfl, rfl, h0, h2, h3, h4⟩ | ⟨rfl, _⟩
          · cases h1; exact ⟨cc, E, fr, hw, h0, h2, h3.mono (fun _ _ r => r.mono hle), h4⟩
          · cases h1
      map := fun i es2 hi => by
        rcases old hi with ⟨_, _, h1⟩ | ⟨i1, i2, h1⟩ | ⟨rfl, h1⟩
        · cases h1
        · rw [hφ i i1]
          obtain ⟨ms, cl, a1, a2, a3⟩ := h.sim.map i es2 h1
          refine ⟨ms, cl, c.at_ a1 (hne i2 h1 rfl), a2, fun j k v hj => ?_⟩
          obtain ⟨m, b1, b2, b3, b4⟩ := a3 j k v hj
          exact ⟨m, b1, b2.mono hle, b3, b4.mono hle⟩
        · obtain ⟨es', rfl⟩ := hyc; cases h1
      row := fun i ns es2 hi => by
        rcases old hi with ⟨_, _, h1⟩ | ⟨i1, i2, h1⟩ | ⟨rfl, h1⟩
        · cases h1
        · obtain ⟨a1, u, a2, a3⟩ := h.sim.row i ns es2 h1
          refine ⟨fun len v hv => ⟨(a1 len v hv).1, (a1 len v hv).2.mono hle⟩, u, a2, ?_⟩
          have := (a3.ch c (fun x hx e => by have h9 := hx.1; rw [show x = G.φ id from e, hb2] at h9; cases h9))
          rcases this with t | ⟨b', o', cap, t1, t2, t3, t4⟩
          · exact .inl t
          · refine .inr ⟨b', o', cap, t1, t2, t3, ?_⟩
            rcases t4 with t4 | ⟨sz, cc, E, fr, s1, s2, s3, s4, s5, s6, s7⟩
            · exact .inl t4
            · exact .inr ⟨sz, cc, E, fr, s1, s2, s3, s4, s5, s6, s7.1, .inl s7.2⟩
        · obtain ⟨es', rfl⟩ := hyc; cases h1
      inj := fun i j x z hi hj lx lz e => by
        rcases old hi with ⟨_, _, h1⟩ | ⟨i1, i2, h1⟩ | ⟨rfl, h1⟩ <;> rcases old hj with ⟨_, _, k1⟩ | ⟨j1, j2, k1⟩ | ⟨rfl, k1⟩ <;> (try (subst h1; cases lx; done)) <;> (try (subst k1; cases lz; done))
        · rw [hφ i i1, hφ j j1] at e; exact h.sim.inj i j x z h1 k1 lx lz e
        · rw [hφ i i1, hφn] at e; exact absurd e (hbnot i2 h1 lx)
        · rw [hφ j j1, hφn] at e; exact absurd e.symm (hbnot j2 k1 lz)
        · rfl
      hb := fun i x hi lx => by
        rcases old hi with ⟨_, _, h1⟩ | ⟨i1, i2, h1⟩ | ⟨rfl, h1⟩
        · subst h1; cases lx
        · rw [hφ i i1]; obtain ⟨a1, a2, a3⟩ := h.sim.hb i x h1 lx; exact ⟨.inl a1, a2, a3⟩
        · rw [hφn]
          rcases hb with hb | hb
          · rw [hb]; exact ⟨.inl hb1, hb2, hb3⟩
          · subst hb
            refine ⟨.inr rfl, ?_, fun o' => ?_⟩
            · show G.ow _ = none
              cases ho : G.ow w.heap.size with
              | none => rfl
              | some r => exact absurd (h.sim.owhb _ _ ho) (hnew _ rfl)
            · show G.K _ o' = none
              cases hk : G.K w.heap.size o' with
              | none => rfl
              | some u => have := h.sim.lt_of_K hk; omega
      cvn := fun i l u hu => by have := h.sim.cvn i l u hu; simp [Gh.addBlk]; omega
      hblt := fun x hx => by
        rcases hx with hx | rfl
        · exact Nat.lt_of_lt_of_le (h.sim.hblt x hx) c.size
        · exact hsize
      owhb := fun x i ho => .inl (h.sim.owhb x i ho) }
    lr := (h.lr.heap (G' := G.addBlk b wd cp) hle (fun _ _ _ _ => rfl) hhb).ch c (fun x _ hn e => hn (.inl (hD x e)))
    fr := Fr.ch (Fr.heap (G := G) (G' := G.addBlk b wd cp) h.fr (fun _ _ _ _ => rfl) hhb) c (fun x _ hn e => hn (.inl (hD x e)))
    le := h.le.trans hle }
/-! ### Cells are written -/
theorem heap_setCell_at {b o : Nat} {v : Value} {cc : Array Value} {E : TypeId} {fr : Nat × Nat} (h : w.heap[b]? = some (.cells cc E fr)) : (w.setCell ⟨b, o, none⟩ v).heap[b]? = some (.cells (cc.setIfInBounds o v) E fr) := by
  simp [World.setCell, Array.getElem?_modify, h]
theorem setCells_at {b : Nat} {E : TypeId} {fr : Nat × Nat} : ∀ (vs : List Value) (o : Nat) (w : World) (cc : Array Value), w.heap[b]? = some (.cells cc E fr) → o + vs.length ≤ cc.size →
    ∃ cc', (w.setCells b o vs).heap[b]? = some (.cells cc' E fr) ∧ cc'.toList = cc.toList.take o ++ vs ++ cc.toList.drop (o + vs.length)
  | [], o, w, cc, h, hl => ⟨cc, h, by simp⟩
  | v :: vs, o, w, cc, h, hl => by
    simp only [List.length_cons] at hl
    obtain ⟨cc', h1, h2⟩ := setCells_at vs (o + 1) (w.setCell ⟨b, o, none⟩ v) (cc.setIfInBounds o v) (heap_setCell_at h) (by simp; omega)
    refine ⟨cc', h1, ?_⟩
    rw [h2]
    simp only [Array.toList_setIfInBounds]
    apply List.ext_getElem?
    intro j
    have : o < cc.toList.length := by simp; omega
    simp only [List.getElem?_append, List.getElem?_take, List.getElem?_drop, List.length_take, List.length_append, List.length_set, List.getElem?_set, List.length_cons, List.getElem?_cons]
    grind
theorem setCells_ch (b : Nat) : ∀ (vs : List Value) (o : Nat) (w : World), Ch (fun x => x = b) w (w.setCells b o vs)
  | [], o, w => ⟨rfl, rfl, rfl, Nat.le_refl _, fun _ _ _ => rfl⟩
  | v :: vs, o, w => by
    have h := setCells_ch b vs (o + 1) (w.setCell ⟨b, o, none⟩ v)
    have hs : (w.setCell ⟨b, o, none⟩ v).heap.size = w.heap.size := by simp [World.setCell]
    exact ⟨h.os, h.tape, h.output, by have := h.size; rw [hs] at this; exact this, fun x hx hn => (h.blk x (by omega) hn).trans (Below.heap_setCell w ⟨b, o, none⟩ v x hn)⟩
theorem setCells_nf {b n : Nat} {vs : List Value} {o x : Nat} (h : NF w x n) : NF (w.setCells b o vs) x n := fun j hj => by
  rw [World.frozen?_setCells]; exact h j hj
theorem storeCells_run {b o : Nat} {cc : Array Value} {E : TypeId} {fr : Nat × Nat} {vs : List Value} (h : w.heap[b]? = some (.cells cc E fr)) (hn : NF w b cc.size) (hl : o + vs.length ≤ cc.size) (h1 : ∀ v ∈ vs, v.oneCell' = true) :
    (storeCells ⟨b, o, none⟩ vs).run P w = .ok () (w.setCells b o vs) := by
  have := run_storeCells_cells (P := P) b o vs 0 w (fun j hj => by rw [Nat.add_zero, cell_of_row w _ _ cc E fr h]; simp; omega) (fun j hj => by rw [Nat.add_zero]; exact hn _ (by omega)) h1
  simpa using this
theorem run_storeVar {t : TypeId} {b o : Nat} {u : Value} {cc : Array Value} {E : TypeId} {fr : Nat × Nat} (hz : P.cellsOf t ≠ 0) (hu : u.cells.size = sizeT P t) (h : w.heap[b]? = some (.cells cc E fr)) (hn : NF w b cc.size) (hl : o + u.cells.size ≤ cc.size) (h1 : ∀ v ∈ u.cells.toList, v.oneCell' = true) :
    (storeVar t ⟨b, o, none⟩ u).run P w = .ok () (w.setCells b o u.cells.toList) := by
  have hs : u.cells.size = P.cellsOf t := hu
  simp [storeVar, run_sizeOf_pos hz, hs, storeCells_run (P := P) h hn (by simpa using hl) h1]
end
end Go.Abs
