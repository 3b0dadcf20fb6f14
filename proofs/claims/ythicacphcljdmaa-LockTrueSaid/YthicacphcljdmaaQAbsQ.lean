/- A part of the proofs over this seat. -/
import Derived.Test.YthicacphcljdmaaQAbsO
namespace Go.Abs
set_option linter.unusedVariables false
set_option linter.unusedSimpArgs false
open Go.RowKit
section
variable {G0 : Gh} {W0 : World} {G : Gh} {L : Lg} {st : St} {H : Hp} {tmps : Array Value} {a : Act} {w w' : World} {P : Program} {o : Oper}
open Classical in
noncomputable def Gh.addRow (G : Gh) (L : Lg) (rid len : Nat) (u : Value) : Gh :=
  { G with n := G.n + 1, cv := fun i l => if i = G.n then (if l = len then some u else none) else G.cv i l, ow := fun b => if L.ow b = some rid ∧ ¬ G.hb b then some G.n else G.ow b, hb := fun b => G.hb b ∨ L.ow b = some rid }
open Classical in
noncomputable def Lg.dropRow (L : Lg) (rid : Nat) : Lg := { L with ow := fun b => if L.ow b = some rid then none else L.ow b }
theorem Gh.le.addRow {G : Gh} (hc : ∀ i l u, G.cv i l = some u → i < G.n) (L : Lg) (rid len : Nat) (u : Value) : G.le (G.addRow L rid len u) :=
  ⟨by simp [Gh.addRow], fun _ _ => rfl, fun _ _ => rfl, fun i l v h => by simp only [Gh.addRow]; rw [if_neg (by have := hc i l v h; omega)]; exact h, fun _ _ _ h => h, fun _ _ => rfl⟩
/-- A row of the frame becomes one of the heap. -/
theorem Inv.promote (h : Inv G0 W0 G L st H tmps w) {rid : Nat} {q : LRow} {u : Value} (hq : st.r[rid]? = some q) (hown : q.own = true) (hu : L.cv rid q.es.length = some u) (hn : (q.ns && q.es.length == 0) = false) :
    Inv G0 W0 (G.addRow L rid q.es.length u) (L.dropRow rid) { st with r := st.r.set rid { q with own := false } } (H ++ [.row q.ns q.es]) tmps w ∧ VR (G.addRow L rid q.es.length u) (.hr H.length q.es.length) u := by
  have hle := Gh.le.addRow h.sim.cvn L rid q.es.length u
  obtain ⟨r1, r2⟩ := h.lr.row rid q hq
  obtain ⟨u', hu', htip⟩ := r2 hown
  rw [hu] at hu'
  cases hu'
  obtain ⟨_, hone, hvr⟩ := r1 _ u hu
  have hlen := h.sim.len
  have hrid : rid < st.r.length := (List.getElem?_eq_some_iff.1 hq).1
  have old : ∀ {i : Nat} {x : Blk}, (H ++ [Blk.row q.ns q.es])[i]? = some x → (i < G.n ∧ H[i]? = some x) ∨ (i = G.n ∧ x = .row q.ns q.es) := fun {i x} hi => by
    rw [List.getElem?_append] at hi
    split at hi
    · exact .inl ⟨by omega, hi⟩
    · have : i = G.n := by have := (List.getElem?_eq_some_iff.1 hi).1; simp at this; omega
      subst this
      rw [← hlen] at hi
      simp at hi
      exact .inr ⟨rfl, hi.symm⟩
  have lar : ∀ {c : V} {v : Value}, LAR G L st.r.length c v → LAR (G.addRow L rid q.es.length u) (L.dropRow rid) (st.r.set rid { q with own := false }).length c v := fun r => by
    rw [List.length_set]
    exact LAR.mono (L' := L.dropRow rid) hle (Nat.le_refl _) (fun _ _ _ _ r => r) r
  refine ⟨{
    sim := {
      len := by simp [Gh.addRow, hlen]
      K := h.sim.K
      cells := fun i es he => by
        rcases old he with ⟨hi, h1⟩ | ⟨rfl, h1⟩
        · obtain ⟨cc, E, fr, a1, a2, a3, a4, a5⟩ := h.sim.cells i es h1
          exact ⟨cc, E, fr, a1, a2, a3, a4.mono (fun _ _ r => r.mono hle), a5⟩
        · cases h1
      map := fun i es he => by
        rcases old he with ⟨hi, h1⟩ | ⟨rfl, h1⟩
        · obtain ⟨ms, cl, a1, a2, a3⟩ := h.sim.map i es h1
          refine ⟨ms, cl, a1, a2, fun j k v hj => ?_⟩
          obtain ⟨m, b1, b2, b3, b4⟩ := a3 j k v hj
          exact ⟨m, b1, b2.mono hle, b3, b4.mono hle⟩
        · cases h1
      row := fun i ns es he => by
        rcases old he with ⟨hi, h1⟩ | ⟨rfl, h1⟩
        · obtain ⟨a1, v, a2, a3⟩ := h.sim.row i ns es h1
          refine ⟨fun len x hx => ?_, v, hle.cv _ _ _ a2, a3.le (G' := G.addRow L rid q.es.length u) (fun _ _ _ => rfl) (fun b hb x => ⟨?_, .inl x.2⟩)⟩
          · simp only [Gh.addRow] at hx
            rw [if_neg (by omega)] at hx
            exact ⟨(a1 len x hx).1, (a1 len x hx).2.mono hle⟩
          · simp only [Gh.addRow]; rw [if_neg (fun e => e.2 x.2)]; exact x.1
        · cases h1
          refine ⟨fun len x hx => ?_, u, by simp [Gh.addRow], htip.le (G' := G.addRow L rid q.es.length u) (fun _ _ _ => rfl) (fun b hb x => ⟨?_, .inr x.1⟩)⟩
          · simp only [Gh.addRow, if_true] at hx
            split at hx
            · rename_i e; subst e; cases hx; exact ⟨Nat.le_refl _, hvr.mono hle⟩
            · cases hx
          · simp only [Gh.addRow]; rw [if_pos ⟨x.1, x.2.2⟩]
      inj := fun i j x z hi hj lx lz he => by
        rcases old hi with ⟨i1, i2⟩ | ⟨rfl, i2⟩
        · rcases old hj with ⟨j1, j2⟩ | ⟨rfl, j2⟩
          · exact h.sim.inj i j x z i2 j2 lx lz he
          · rw [j2] at lz; cases lz
        · rw [i2] at lx; cases lx
      hb := fun i x hi lx => by
        rcases old hi with ⟨i1, i2⟩ | ⟨rfl, i2⟩
        · obtain ⟨a1, a2, a3⟩ := h.sim.hb i x i2 lx
          refine ⟨.inl a1, ?_, a3⟩
          simp only [Gh.addRow]; rw [if_neg (fun e => e.2 a1)]; exact a2
        · rw [i2] at lx; cases lx
      cvn := fun i l v hv => by
        simp only [Gh.addRow] at hv ⊢
        split at hv
        · omega
        · have := h.sim.cvn i l v hv; omega
      hblt := fun b hb => hb.elim (h.sim.hblt b) (fun e => (h.lr.owlt b rid e).2)
      owhb := fun b i ho => by
        simp only [Gh.addRow] at ho ⊢
        split at ho
        · rename_i e; exact .inr e.1
        · exact .inl (h.sim.owhb b i ho) }
    lr := {
      size := h.lr.size
      slot := fun s x v hs hv => by
        have := h.lr.slot s x v hs hv
        cases x with
        | v x => exact lar this
        | box l => exact this
        | ref l o => exact this
      box := fun l cs hl => by
        obtain ⟨cc, E, fr, a1, a2, a3⟩ := h.lr.box l cs hl
        exact ⟨cc, E, fr, a1, a2, a3.mono fun _ _ r => lar r⟩
      boxd := fun l hl => by
        obtain ⟨a1, a2, a3, a4⟩ := h.lr.boxd l hl
        refine ⟨a1, fun hb => hb.elim a2 (fun e => by change L.ow (L.β l) = some rid at e; rw [a3] at e; cases e), ?_, a4⟩
        simp only [Lg.dropRow]; split
        · rfl
        · exact a3
      inj := h.lr.inj
      row := fun r2 q2 hq2 => by
        rw [List.getElem?_set] at hq2
        split at hq2
        · rename_i e
          subst e
          cases hq2
          exact ⟨fun len v hv => ⟨(r1 len v hv).1, (r1 len v hv).2.1, (r1 len v hv).2.2.mono hle⟩, fun ho => by cases ho⟩
        · rename_i e
          obtain ⟨s1, s2⟩ := h.lr.row r2 q2 hq2
          refine ⟨fun len v hv => ⟨(s1 len v hv).1, (s1 len v hv).2.1, (s1 len v hv).2.2.mono hle⟩, fun ho => ?_⟩
          obtain ⟨v, s3, s4⟩ := s2 ho
          refine ⟨v, s3, s4.le (G' := G.addRow L rid q.es.length u) (fun _ _ _ => rfl) (fun b hb x => ⟨?_, x.2.1, fun hb2 => hb2.elim x.2.2 (fun e2 => ?_)⟩)⟩
          · simp only [Lg.dropRow]; rw [if_neg (by rw [x.1]; intro e2; cases e2; exact e rfl)]; exact x.1
          · change L.ow b = some rid at e2; rw [x.1] at e2; cases e2; exact e rfl
      owlt := fun b r2 hb => by
        simp only [Lg.dropRow] at hb
        split at hb
        · cases hb
        · exact h.lr.owlt b r2 hb }
    fr := {
      os := h.fr.os, tape := h.fr.tape, output := h.fr.output, size := h.fr.size
      blk := fun b hb hn => by
        obtain ⟨a1, a2, a3⟩ := h.fr.blk b hb hn
        exact ⟨a1, fun e => e.elim a2 (fun e2 => by have := (h.lr.owlt b rid e2).1; omega), a3⟩ }
    le := h.le.trans hle }, ?_⟩
  rw [hlen]
  obtain ⟨base, cap, rfl⟩ := htip.slice
  exact VR.hr _ _ base cap (by simp [Gh.addRow]) (by simp [Gh.addRow])
theorem slot_in (h : Inv G0 W0 G L st H a.tmps w) (x : Operand) : True := trivial
/-- A value that is to be stored into the heap -/
theorem promote_sound (h : Inv G0 W0 G L st H tmps w) {x y : V} {u : Value} {st' : St} {H' : Hp} (hx : LAR G L st.r.length x u) (hp : Abs.promote st H x = some (y, st', H')) :
    ∃ G' L', Inv G0 W0 G' L' st' H' tmps w ∧ G.le G' ∧ AR G' y u ∧ L'.β = L.β ∧ st'.b = st.b ∧ st'.s = st.s ∧ (∀ i, i < G.n → G'.φ i = G.φ i ∧ H'[i]? = H[i]?) := by
  unfold Abs.promote at hp
  split at hp
  · rename_i rid len
    obtain ⟨h1, h2⟩ := hx
    have hq : st.r[rid]? = some st.r[rid] := List.getElem?_eq_getElem h1
    rw [hq] at hp
    simp only at hp
    split at hp
    · rename_i hc
      simp only [Bool.and_eq_true, beq_iff_eq, Bool.not_eq_true'] at hc
      obtain ⟨⟨c1, rfl⟩, c3⟩ := hc
      cases hp
      obtain ⟨p1, p2⟩ := h.promote hq c1 h2 c3
      refine ⟨_, _, p1, Gh.le.addRow h.sim.cvn L _ _ _, fun _ => p2, rfl, rfl, rfl, fun i hi => ⟨rfl, ?_⟩⟩
      rw [List.getElem?_append_left (by rw [h.sim.len]; exact hi)]
    · cases hp
      exact ⟨G, L, h, .refl G, fun _ => ((h.lr.row rid _ hq).1 len u h2).2.2, rfl, rfl, rfl, fun i hi => ⟨rfl, rfl⟩⟩
  · rename_i hx2
    cases hp
    refine ⟨G, L, h, .refl G, ?_, rfl, rfl, rfl, fun i hi => ⟨rfl, rfl⟩⟩
    cases x <;> first | exact fun _ => hx | (intro hn; exact absurd rfl hn) | exact absurd rfl (hx2 _ _)
theorem elemSet_cells {e e' y : V} {off size : Nat} (h : elemSet e off y size = some e') : e'.cells = overlay e.cells off y.cells ∧ okV y = true ∧ y.width = size ∧ off + size ≤ e.width := by
  unfold elemSet at h
  split at h
  · rename_i cs
    obtain ⟨cs', h1, rfl⟩ := Option.map_eq_some_iff.1 h
    unfold storeCell at h1
    split at h1
    · rename_i hc
      cases h1
      exact ⟨rfl, hc.1, hc.2.1, hc.2.2⟩
    · cases h1
  · cases h
  · rename_i h1 h2
    split at h
    · rename_i hc
      cases h
      have e1 : e.cells = [e] := by cases e <;> first | rfl | exact absurd rfl (h1 _)
      have e2 : e'.cells = [e'] := by cases e' <;> first | rfl | exact absurd rfl (h2 _)
      have w1 : e.width = 1 := by simp [V.width, e1]
      have w2 : e'.width = 1 := by simp [V.width, e2]
      refine ⟨?_, hc⟩
      have : off = 0 := by omega
      subst this
      simp [overlay, e1, e2]
    · cases h
end
end Go.Abs
