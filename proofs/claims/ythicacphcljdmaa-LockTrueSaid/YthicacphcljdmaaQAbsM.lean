/- A part of the proofs over this seat. -/
import Derived.Test.YthicacphcljdmaaQAbsX
namespace Go.Abs
set_option linter.unusedVariables false
set_option linter.unusedSimpArgs false
open Go.RowKit
/-! ### Memory is made -/
section
variable {G0 : Gh} {W0 : World} {G : Gh} {L : Lg} {st : St} {H : Hp} {tmps : Array Value} {w w' : World} {P : Program}
theorem Tip.le {own own' : Nat → Prop} {ns : Bool} {es : List V} {u : Value} {G' : Gh} (h : Tip G w own ns es u) (hK : ∀ b, b < w.heap.size → ∀ o, G'.K b o = G.K b o) (ho : ∀ b, b < w.heap.size → own b → own' b) : Tip G' w own' ns es u := by
  rcases h with h | ⟨b, o, cap, h1, h2, h3, h4⟩
  · exact .inl h
  · refine .inr ⟨b, o, cap, h1, h2, h3, ?_⟩
    rcases h4 with h4 | ⟨sz, cc, E, fr, a1, a2, a3, a4, a5, a6, a7⟩
    · exact .inl h4
    · have hb := (Array.getElem?_eq_some_iff.1 a3).1
      exact .inr ⟨sz, cc, E, fr, a1, a2, a3, a4, a5, fun j hj => by rw [hK b hb]; exact a6 j hj, ho b hb a7⟩
theorem LAR.mono {G' : Gh} (h : G.le G') {L' : Lg} {nr nr' : Nat} (hn : nr ≤ nr') (hL : ∀ rid len u, rid < nr → L.cv rid len = some u → L'.cv rid len = some u) {c : V} {u : Value} (r : LAR G L nr c u) : LAR G' L' nr' c u := by
  cases c <;> first | exact VR.mono h r | exact r | skip
  case lr rid len => exact ⟨Nat.lt_of_lt_of_le r.1 hn, hL _ _ _ r.1 r.2⟩
theorem lt_of_block {b : Nat} {o : Obj} (h : w.heap[b]? = some o) : b < w.heap.size := (Array.getElem?_eq_some_iff.1 h).1
/-- The heap's part is told of no more than before; more cells that stay are known, in new blocks. -/
theorem Sim.imm (h : Sim G H w) {K' : Nat → Nat → Option Value} (hK : ∀ b, b < w.heap.size → ∀ o, K' b o = G.K b o) (hw : ∀ b o u, K' b o = some u → w'.cell? ⟨b, o, none⟩ = some u) (c : Ch (fun _ => False) w w') :
    Sim { G with K := K' } H w' := by
  have hle : G.le { G with K := K' } := ⟨Nat.le_refl _, fun _ _ => rfl, fun _ _ => rfl, fun _ _ _ x => x, (fun b o u x => by
    show K' b o = some u; rw [hK b (h.lt_of_K x)]; exact x), fun _ _ => rfl⟩
  exact {
    len := h.len
    K := hw
    cells := fun id es he => by
      obtain ⟨cc, E, fr, a1, a2, a3, a4, a5⟩ := h.cells id es he
      exact ⟨cc, E, fr, c.at_ a1 (fun x => x), c.nf a1 (fun x => x) a2, a3, a4.mono (fun c u r => r.mono hle), a5⟩
    map := fun id es he => by
      obtain ⟨ms, cl, a1, a2, a3⟩ := h.map id es he
      refine ⟨ms, cl, c.at_ a1 (fun x => x), a2, fun i k v hi => ?_⟩
      obtain ⟨m, b1, b2, b3, b4⟩ := a3 i k v hi
      exact ⟨m, b1, b2.mono hle, b3, b4.mono hle⟩
    row := fun id ns es he => by
      obtain ⟨a1, u, a2, a3⟩ := h.row id ns es he
      exact ⟨fun len u hu => ⟨(a1 len u hu).1, (a1 len u hu).2.mono hle⟩, u, a2, (a3.le (G' := { G with K := K' }) hK (fun _ _ x => x)).ch c (fun _ _ x => x)⟩
    inj := h.inj
    hb := fun i x hx hl => ⟨(h.hb i x hx hl).1, (h.hb i x hx hl).2.1, fun o => by
      show K' _ o = none
      rw [hK _ (h.hblt _ (h.hb i x hx hl).1)]; exact (h.hb i x hx hl).2.2 o⟩
    cvn := h.cvn
    hblt := fun b hb => Nat.lt_of_lt_of_le (h.hblt b hb) c.size
    owhb := h.owhb }
theorem Gh.le.imm (h : Sim G H w) {K' : Nat → Nat → Option Value} (hK : ∀ b, b < w.heap.size → ∀ o, K' b o = G.K b o) : G.le { G with K := K' } :=
  ⟨Nat.le_refl _, fun _ _ => rfl, fun _ _ => rfl, fun _ _ _ x => x, (fun b o u x => by
    show K' b o = some u; rw [hK b (h.lt_of_K x)]; exact x), fun _ _ => rfl⟩
theorem LR.box_lt {B0 : Nat} (h : LR B0 G L st tmps w) {l : Nat} (hl : l < st.b.length) : L.β l < w.heap.size := by
  obtain ⟨c, E, fr, a, _⟩ := h.box l _ (List.getElem?_eq_getElem hl)
  exact lt_of_block a
theorem Inv.imm (h : Inv G0 W0 G L st H tmps w) {K' : Nat → Nat → Option Value} (hK : ∀ b, b < w.heap.size → ∀ o, K' b o = G.K b o) (hw : ∀ b o u, K' b o = some u → w'.cell? ⟨b, o, none⟩ = some u) (c : Ch (fun _ => False) w w') :
    Inv G0 W0 { G with K := K' } L st H tmps w' := by
  have hle := Gh.le.imm h.sim hK
  exact {
    sim := h.sim.imm hK hw c
    lr := {
      size := h.lr.size
      slot := fun s x u hs hu => by
        have := h.lr.slot s x u hs hu
        cases x with
        | v x => exact LAR.mono hle (Nat.le_refl _) (fun _ _ _ _ r => r) this
        | box l => exact this
        | ref l o => exact this
      box := fun l cs hl => by
        obtain ⟨cc, E, fr, a1, a2, a3⟩ := h.lr.box l cs hl
        exact ⟨cc, E, fr, c.at_ a1 (fun x => x), c.nf a1 (fun x => x) a2, a3.mono fun _ _ r => LAR.mono hle (Nat.le_refl _) (fun _ _ _ _ r => r) r⟩
      boxd := fun l hl => by
        obtain ⟨a1, a2, a3, a4⟩ := h.lr.boxd l hl
        exact ⟨a1, a2, a3, fun o => by show K' _ o = none; rw [hK _ (h.lr.box_lt hl)]; exact a4 o⟩
      inj := h.lr.inj
      row := fun rid q hq => by
        obtain ⟨a1, a2⟩ := h.lr.row rid q hq
        refine ⟨fun len u hu => ⟨(a1 len u hu).1, (a1 len u hu).2.1, (a1 len u hu).2.2.mono hle⟩, fun ho => ?_⟩
        obtain ⟨u, b1, b2⟩ := a2 ho
        exact ⟨u, b1, (b2.le (G' := { G with K := K' }) hK (fun _ _ x => x)).ch c (fun _ _ x => x)⟩
      owlt := fun b rid hb => ⟨(h.lr.owlt b rid hb).1, Nat.lt_of_lt_of_le (h.lr.owlt b rid hb).2 c.size⟩ }
    fr := {
      os := c.os.trans h.fr.os, tape := c.tape.trans h.fr.tape, output := c.output.trans h.fr.output, size := Nat.le_trans h.fr.size c.size
      blk := fun b hb hn => by
        obtain ⟨a1, a2, a3⟩ := h.fr.blk b hb hn
        have hb' := Nat.lt_of_lt_of_le hb h.fr.size
        exact ⟨(c.blk b hb' id).trans a1, a2, fun o => (hK b hb' o).trans (a3 o)⟩ }
    le := h.le.trans hle }
/-- A new block whose cells stay. -/
theorem Inv.newImm (h : Inv G0 W0 G L st H tmps w) (us : Array Value) (E : TypeId) {fr : Nat × Nat} (hw : w'.heap[w.heap.size]? = some (.cells us E fr)) (c : Ch (fun _ => False) w w') :
    ∃ K', Inv G0 W0 { G with K := K' } L st H tmps w' ∧ G.le { G with K := K' } ∧ ∀ (j : Nat) (u : Value), us[j]? = some u → K' w.heap.size j = some u := by
  refine ⟨fun b o => if b = w.heap.size then us[o]? else G.K b o, h.imm (fun b hb o => by rw [if_neg (by omega)]) (fun b o u hu => ?_) c, Gh.le.imm h.sim (fun b hb o => by rw [if_neg (by omega)]), fun j u hu => by simp [hu]⟩
  split at hu
  · rename_i hb; subst hb; rw [cell_of_row w' _ o us E fr hw]; exact hu
  · have := h.sim.K b o u hu
    rw [World.cell?_of_block (w := w) (a := ⟨b, o, none⟩) (c.blk b (h.sim.lt_of_K hu) id)]; exact this
/-- A new variable of the frame. -/
theorem Inv.newBox (h : Inv G0 W0 G L st H tmps w) {cs : List V} (us : Array Value) (E : TypeId) (hw : w'.heap[w.heap.size]? = some (.cells us E)) (c : Ch (fun _ => False) w w') (hc : CellsR G cs us.toList) :
    Inv G0 W0 G { L with β := fun l => if l = st.b.length then w.heap.size else L.β l } { st with b := st.b ++ [cs] } H tmps w' := by
  have hx := h.ext c
  have hβ : ∀ l, l < st.b.length → (if l = st.b.length then w.heap.size else L.β l) = L.β l := fun l hl => if_neg (by omega)
  exact {
    sim := hx.sim
    lr := {
      size := hx.lr.size
      slot := fun s x u hs hu => by
        have := hx.lr.slot s x u hs hu
        cases x with
        | v x => exact LAR.mono (.refl G) (Nat.le_refl _) (fun _ _ _ _ r => r) this
        | box l => exact ⟨by simp; have := this.1; omega, by simp only; rw [hβ l this.1]; exact this.2⟩
        | ref l o => exact ⟨by simp; have := this.1; omega, by simp only; rw [hβ l this.1]; exact this.2⟩
      box := fun l cs' hl => by
        rw [List.getElem?_append] at hl
        split at hl
        · rename_i hlt
          obtain ⟨cc, E', fr, a1, a2, a3⟩ := hx.lr.box l cs' hl
          simp only
          rw [hβ l hlt]
          exact ⟨cc, E', fr, a1, a2, a3.mono fun _ _ r => LAR.mono (.refl G) (Nat.le_refl _) (fun _ _ _ _ r => r) r⟩
        · rename_i hge
          have : l = st.b.length := by
            have := (List.getElem?_eq_some_iff.1 hl).1; simp at this; omega
          subst this
          simp at hl
          subst hl
          simp only [if_true]
          exact ⟨us, E, (0, 0), hw, fun j hj => frozen_of_row w' _ j us E hw, hc.mono fun _ _ r => LAR.of_AR r⟩
      boxd := fun l hl => by
        simp at hl
        simp only
        by_cases e : l = st.b.length
        · rw [if_pos e]
          refine ⟨h.fr.size, fun hb => by have := h.sim.hblt _ hb; omega, ?_, fun o => ?_⟩
          · cases ho : L.ow w.heap.size with
            | none => rfl
            | some r => have := (h.lr.owlt _ _ ho).2; omega
          · cases hk : G.K w.heap.size o with
            | none => rfl
            | some u => have := h.sim.lt_of_K hk; omega
        · rw [if_neg e]; exact hx.lr.boxd l (by omega)
      inj := fun l l' hl hl' he => by
        simp at hl hl'
        simp only at he
        by_cases e : l = st.b.length <;> by_cases e' : l' = st.b.length
        · omega
        · rw [if_pos e, if_neg e'] at he; have := h.lr.box_lt (l := l') (by omega); omega
        · rw [if_neg e, if_pos e'] at he; have := h.lr.box_lt (l := l) (by omega); omega
        · rw [if_neg e, if_neg e'] at he; exact h.lr.inj l l' (by omega) (by omega) he
      row := hx.lr.row
      owlt := hx.lr.owlt }
    fr := hx.fr
    le := hx.le }
/-- A new row of the frame: its newest slice is full or no one else's. -/
theorem LR.newRow {B0 : Nat} (h : LR B0 G L st tmps w) {ns : Bool} {es : List V} {u : Value} (ow' : Nat → Option Nat) (how : ∀ b rid, L.ow b = some rid → ow' b = some rid) (hown : ∀ b, ow' b = none ∨ ow' b = L.ow b ∨ ow' b = some st.r.length)
    (hbx : ∀ l, l < st.b.length → ow' (L.β l) = none) (hlt : ∀ b rid, ow' b = some rid → B0 ≤ b ∧ b < w.heap.size) (h1 : u.oneCell' = true) (hu : VR G (rowV ns es es.length) u) (ht : Tip G w (fun b => ow' b = some st.r.length ∧ B0 ≤ b ∧ ¬ G.hb b) ns es u) :
    LR B0 G { L with ow := ow', cv := fun rid len => if rid = st.r.length then (if len = es.length then some u else none) else L.cv rid len } { st with r := st.r ++ [⟨true, ns, es⟩] } tmps w := by
  have hcv : ∀ rid len v, rid < st.r.length → L.cv rid len = some v → (if rid = st.r.length then (if len = es.length then some u else none) else L.cv rid len) = some v := fun rid len v hr hv => by rw [if_neg (by omega)]; exact hv
  exact {
    size := h.size
    slot := fun s x v hs hv => by
      have := h.slot s x v hs hv
      cases x with
      | v x => exact LAR.mono (.refl G) (by simp) hcv this
      | box l => exact this
      | ref l o => exact this
    box := fun l cs hl => by
      obtain ⟨cc, E, fr, a1, a2, a3⟩ := h.box l cs hl
      exact ⟨cc, E, fr, a1, a2, a3.mono fun _ _ r => LAR.mono (.refl G) (by simp) hcv r⟩
    boxd := fun l hl => by
      obtain ⟨a1, a2, a3, a4⟩ := h.boxd l hl
      exact ⟨a1, a2, hbx l hl, a4⟩
    inj := h.inj
    row := fun rid q hq => by
      rw [List.getElem?_append] at hq
      split at hq
      · rename_i hr
        obtain ⟨a1, a2⟩ := h.row rid q hq
        refine ⟨fun len v hv => a1 len v (by simpa only [if_neg (show rid ≠ st.r.length by omega)] using hv), fun ho => ?_⟩
        obtain ⟨v, b1, b2⟩ := a2 ho
        exact ⟨v, hcv _ _ _ hr b1, b2.le (fun _ _ _ => rfl) (fun b _ hb => ⟨how _ _ hb.1, hb.2⟩)⟩
      · rename_i hr
        have : rid = st.r.length := by
          have := (List.getElem?_eq_some_iff.1 hq).1; simp at this; omega
        subst this
        simp at hq
        subst hq
        refine ⟨fun len v hv => ?_, fun _ => ⟨u, by simp, ht⟩⟩
        simp only [if_true] at hv
        split at hv
        · rename_i e; subst e; cases hv; exact ⟨Nat.le_refl _, h1, hu⟩
        · cases hv
    owlt := hlt }
end
end Go.Abs
