/- A part of the proofs over this seat. -/
import Derived.Test.YthicacphcljdmaaQAbsZ
namespace Go.Abs
set_option linter.unusedVariables false
set_option linter.unusedSimpArgs false
open Go.RowKit
section
variable {G0 : Gh} {W0 : World} {G G' : Gh} {L : Lg} {st : St} {H H' : Hp} {tmps : Array Value} {a : Act} {w w' : World} {P : Program} {o : Oper} {D : Nat → Prop}
theorem Sim.grow (h : Sim G H w) (hle : G.le G') (hn : G'.n = G.n) (hhb : ∀ b, G'.hb b → b < w'.heap.size) (hhb2 : ∀ b, G.hb b → G'.hb b) (how : ∀ b, b < w.heap.size → G'.ow b = G.ow b) (howhb : ∀ b i, G'.ow b = some i → G'.hb b)
    (hcvn : ∀ i l u, G'.cv i l = some u → i < G'.n) (hlen : H'.length = H.length) (hH : ∀ (i : Nat) (x : Blk), x.live = true → H'[i]? = some x → H[i]? = some x) (c : Ch D w w') (hD : ∀ (i : Nat) (x : Blk), H[i]? = some x → x.live = true → ¬ D (G.φ i))
    (hK1 : ∀ b, b < w.heap.size → ¬ D b → ∀ o, G'.K b o = G.K b o) (hKs : ∀ b o u, G'.K b o = some u → w'.cell? ⟨b, o, none⟩ = some u)
    (hrow : ∀ (id : Nat) (ns : Bool) (es : List V), H'[id]? = some (.row ns es) → (∀ len u, G'.cv id len = some u → len ≤ es.length ∧ VR G' (rowV ns es len) u) ∧
      ∃ u, G'.cv id es.length = some u ∧ Tip G' w' (fun b => G'.ow b = some id ∧ G'.hb b) ns es u) : Sim G' H' w' := by
  have hlt : ∀ {i : Nat} {x : Blk}, H[i]? = some x → i < G.n := fun hi => by rw [← h.len]; exact (List.getElem?_eq_some_iff.1 hi).1
  exact {
    len := by rw [hlen, hn, h.len]
    K := hKs
    cells := fun i es he => by
      have h1 := hH i _ rfl he
      obtain ⟨cc, E, fr, a1, a2, a3, a4, a5⟩ := h.cells i es h1
      rw [hle.φ i (hlt h1), hle.wd i (hlt h1), hle.cp i (hlt h1)]
      have hd := hD i _ h1 rfl
      exact ⟨cc, E, fr, c.at_ a1 hd, c.nf a1 hd a2, a3, a4.mono (fun _ _ r => r.mono hle), a5⟩
    map := fun i es he => by
      have h1 := hH i _ rfl he
      obtain ⟨ms, cl, a1, a2, a3⟩ := h.map i es h1
      rw [hle.φ i (hlt h1)]
      refine ⟨ms, cl, c.at_ a1 (hD i _ h1 rfl), a2, fun j k v hj => ?_⟩
      obtain ⟨m, b1, b2, b3, b4⟩ := a3 j k v hj
      exact ⟨m, b1, b2.mono hle, b3, b4.mono hle⟩
    row := hrow
    inj := fun i j x y hi hj lx ly he => by
      have h1 := hH i _ lx hi
      have h2 := hH j _ ly hj
      rw [hle.φ i (hlt h1), hle.φ j (hlt h2)] at he
      exact h.inj i j x y h1 h2 lx ly he
    hb := fun i x hi lx => by
      have h1 := hH i _ lx hi
      obtain ⟨a1, a2, a3⟩ := h.hb i x h1 lx
      rw [hle.φ i (hlt h1)]
      have := h.hblt _ a1
      exact ⟨hhb2 _ a1, by rw [how _ this]; exact a2, fun o => by rw [hK1 _ this (hD i x h1 lx)]; exact a3 o⟩
    cvn := hcvn
    hblt := hhb
    owhb := howhb }
/-- The evaluator's rows of the frame grow. -/
theorem Inv.appendLocal (h : Inv G0 W0 G L st H tmps w) {e t tx ty : TypeId} {rid : Nat} {q : LRow} {xs : List V} {u v : Value} {news : List Value} (ht : P.underlying t = some (.slice e)) (hq : st.r[rid]? = some q) (hown : q.own = true) (hu : L.cv rid q.es.length = some u)
    (hE : elemOk P e (q.es.length + xs.length) = true) (hxs : ∀ x ∈ xs, x.width = sizeT P e) (hes : ∀ x ∈ q.es, x.width = sizeT P e) (hs : Src P (sizeT P e) tx v xs.length news w) (hn : CellsR G (xs.flatMap V.cells) news) :
    ∃ w' u' G' L', (Builtin.append_ #[t, tx] ty #[u, v]).run P w = .ok u' w' ∧ Inv G0 W0 G' L' { st with r := st.r.set rid { q with es := q.es ++ xs } } H tmps w' ∧ L'.cv rid (q.es.length + xs.length) = some u' := by
  obtain ⟨r1, r2⟩ := h.lr.row rid q hq
  obtain ⟨u0, hu0, htip⟩ := r2 hown
  rw [hu] at hu0
  cases hu0
  obtain ⟨_, hone, hvr⟩ := r1 _ u hu
  have hrid : rid < st.r.length := (List.getElem?_eq_some_iff.1 hq).1
  obtain ⟨w', u', K', hrun, hone', c, hsz, hK1, hKle, hKs, hvr', htip', hxe, _⟩ := append_core (tx := tx) (ty := ty) h.sim ht hE hxs hes hvr htip hs hn
  let L' : Lg := { L with cv := fun r l => if r = rid ∧ l = q.es.length + xs.length then some u' else L.cv r l, ow := fun b => if b = w.heap.size ∧ b < w'.heap.size then some rid else L.ow b }
  have hle : G.le { G with K := K' } := ⟨Nat.le_refl _, fun _ _ => rfl, fun _ _ => rfl, fun _ _ _ x => x, hKle, fun _ _ => rfl⟩
  have hcv : ∀ r l x, L.cv r l = some x → r < st.r.length → L'.cv r l = some x := fun r l x hx _ => by
    show (if _ then _ else _) = _
    split
    · rename_i hh
      obtain ⟨rfl, rfl⟩ := hh
      have hl := (r1 _ x hx).1
      have : xs = [] := List.eq_nil_of_length_eq_zero (by omega)
      subst this
      rw [hxe rfl]
      simp only [List.length_nil, Nat.add_zero] at hx
      rw [hu] at hx; exact hx
    · exact hx
  have how : ∀ b, b < w.heap.size → L'.ow b = L.ow b := fun b hb => by show (if _ then _ else _) = _; rw [if_neg (by omega)]
  have lar : ∀ {x : V} {y : Value}, LAR G L st.r.length x y → LAR { G with K := K' } L' (st.r.set rid { q with es := q.es ++ xs }).length x y := fun r => by
    rw [List.length_set]; exact LAR.mono (L' := L') hle (Nat.le_refl _) (fun r l x hr hx => hcv r l x hx hr) r
  refine ⟨w', u', { G with K := K' }, L', hrun, {
    sim := h.sim.grow hle rfl (fun b hb => Nat.lt_of_lt_of_le (h.sim.hblt b hb) hsz) (fun _ x => x) (fun _ _ => rfl) h.sim.owhb h.sim.cvn rfl (fun _ _ _ x => x) c (fun i x hi lx hd => hd.2.2 (h.sim.hb i x hi lx).1) hK1 hKs (fun id ns es he => by
      obtain ⟨a1, x, a2, a3⟩ := h.sim.row id ns es he
      refine ⟨fun len y hy => ⟨(a1 len y hy).1, (a1 len y hy).2.mono hle⟩, x, a2, Tip.ch (D := fun b => L.ow b = some rid ∧ W0.heap.size ≤ b ∧ ¬ G.hb b) ?_ c (fun b hb hd => hd.2.2 hb.2)⟩
      rcases a3 with a3 | ⟨b, o, cap, h1, h2, h3, h4⟩
      · exact .inl a3
      · refine .inr ⟨b, o, cap, h1, h2, h3, ?_⟩
        rcases h4 with h4 | ⟨sz, cc, E, fr, c1, c2, c3, c4, c5, c6, c7⟩
        · exact .inl h4
        · exact .inr ⟨sz, cc, E, fr, c1, c2, c3, c4, c5, fun j hj => (hK1 b (lt_of_block c3) (fun hd => hd.2.2 c7.2) j).trans (c6 j hj), c7⟩)
    lr := {
      size := h.lr.size
      slot := fun s x y hs2 hy => by
        have := h.lr.slot s x y hs2 hy
        cases x with
        | v x => exact lar this
        | box l => exact this
        | ref l o => exact this
      box := fun l cs hl => by
        obtain ⟨cc, E, fr, a1, a2, a3⟩ := h.lr.box l cs hl
        have hd := (h.lr.boxd l ((List.getElem?_eq_some_iff.1 hl).1)).2.2.1
        have hnd : ¬ (L.ow (L.β l) = some rid ∧ W0.heap.size ≤ L.β l ∧ ¬ G.hb (L.β l)) := fun x => by rw [hd] at x; cases x.1
        exact ⟨cc, E, fr, c.at_ a1 hnd, c.nf a1 hnd a2, a3.mono fun _ _ r => lar r⟩
      boxd := fun l hl => by
        obtain ⟨a1, a2, a3, a4⟩ := h.lr.boxd l hl
        have hlt := h.lr.box_lt hl
        refine ⟨a1, a2, (how _ hlt).trans a3, fun o => ?_⟩
        show K' _ o = none
        rw [hK1 _ hlt (fun x => by rw [a3] at x; cases x.1)]; exact a4 o
      inj := h.lr.inj
      row := fun r3 q2 hq2 => by
        rw [List.getElem?_set] at hq2
        split at hq2
        · rename_i e2
          subst e2
          have hq3 : q2 = { q with es := q.es ++ xs } := by simpa [hrid] using hq2.symm
          subst hq3
          refine ⟨fun len y hy => ?_, fun _ => ⟨u', by simp [L'], ?_⟩⟩
          · change (if rid = rid ∧ len = q.es.length + xs.length then some u' else L.cv rid len) = some y at hy
            split at hy
            · rename_i hh
              cases hy
              rw [hh.2]
              refine ⟨by simp, hone', ?_⟩
              simpa using hvr'
            · obtain ⟨b1, b2, b3⟩ := r1 len y hy
              refine ⟨by simp; omega, b2, ?_⟩
              have e3 : rowV q.ns (q.es ++ xs) len = rowV q.ns q.es len := by
                unfold rowV
                rw [List.take_append_of_le_length b1]
              show VR _ (rowV q.ns (q.es ++ xs) len) y
              rw [e3]; exact b3.mono hle
          · exact htip'.le (fun _ _ _ => rfl) (fun b hb x => by
              rcases x with x | ⟨rfl, hlt⟩
              · refine ⟨(how b (h.lr.owlt b rid x.1).2).trans x.1, x.2⟩
              · exact ⟨by simp [L', hlt], h.fr.size, fun hb2 => by have := h.sim.hblt _ hb2; omega⟩)
        · rename_i e2
          obtain ⟨s1, s2⟩ := h.lr.row r3 q2 hq2
          refine ⟨fun len y hy => ?_, fun ho => ?_⟩
          · change (if r3 = rid ∧ len = q.es.length + xs.length then some u' else L.cv r3 len) = some y at hy
            rw [if_neg (fun x => e2 x.1.symm)] at hy
            obtain ⟨b1, b2, b3⟩ := s1 len y hy
            exact ⟨b1, b2, b3.mono hle⟩
          · obtain ⟨y, s3, s4⟩ := s2 ho
            refine ⟨y, hcv _ _ _ s3 ((List.getElem?_eq_some_iff.1 hq2).1), Tip.ch (D := fun b => L.ow b = some rid ∧ W0.heap.size ≤ b ∧ ¬ G.hb b) (w := w) ?_ c (fun b hb hd => ?_)⟩
            · rcases s4 with s4 | ⟨b, o, cap, h1, h2, h3, h4⟩
              · exact .inl s4
              · refine .inr ⟨b, o, cap, h1, h2, h3, ?_⟩
                rcases h4 with h4 | ⟨sz, cc, E, fr, c1, c2, c3, c4, c5, c6, c7⟩
                · exact .inl h4
                · have hlt := lt_of_block c3
                  exact .inr ⟨sz, cc, E, fr, c1, c2, c3, c4, c5, fun j hj => (hK1 b hlt (fun hd => by have := hd.1; rw [c7.1] at this; cases this; exact e2 rfl) j).trans (c6 j hj), (how b hlt).trans c7.1, c7.2⟩
            · have h1 := hd.1
              have h2 : L'.ow b = some r3 := hb.1
              rw [how b (h.lr.owlt b rid h1).2, h1] at h2
              cases h2; exact e2 rfl
      owlt := fun b r3 hb => by
        change (if b = w.heap.size ∧ b < w'.heap.size then some rid else L.ow b) = some r3 at hb
        split at hb
        · rename_i hh; exact ⟨by rw [hh.1]; exact h.fr.size, hh.2⟩
        · exact ⟨(h.lr.owlt b r3 hb).1, Nat.lt_of_lt_of_le (h.lr.owlt b r3 hb).2 hsz⟩ }
    fr := {
      os := c.os.trans h.fr.os, tape := c.tape.trans h.fr.tape, output := c.output.trans h.fr.output, size := Nat.le_trans h.fr.size hsz
      blk := fun b hb hn2 => by
        obtain ⟨a1, a2, a3⟩ := h.fr.blk b hb hn2
        have hb' := Nat.lt_of_lt_of_le hb h.fr.size
        have hnd : ¬ (L.ow b = some rid ∧ W0.heap.size ≤ b ∧ ¬ G.hb b) := fun x => by omega
        exact ⟨(c.blk b hb' hnd).trans a1, a2, fun o => (hK1 b hb' hnd o).trans (a3 o)⟩ }
    le := h.le.trans hle }, by simp [L']⟩
/-- A row of the heap grows. -/
theorem Inv.appendHeap (h : Inv G0 W0 G L st H tmps w) {e t tx ty : TypeId} {id : Nat} {ns : Bool} {es xs : List V} {u v : Value} {news : List Value} (ht : P.underlying t = some (.slice e)) (hq : H[id]? = some (.row ns es)) (hu : G.cv id es.length = some u)
    (hE : elemOk P e (es.length + xs.length) = true) (hxs : ∀ x ∈ xs, x.width = sizeT P e) (hes : ∀ x ∈ es, x.width = sizeT P e) (hs : Src P (sizeT P e) tx v xs.length news w) (hn : CellsR G (xs.flatMap V.cells) news) :
    ∃ w' u' G', (Builtin.append_ #[t, tx] ty #[u, v]).run P w = .ok u' w' ∧ Inv G0 W0 G' L st (H.set id (.row ns (es ++ xs))) tmps w' ∧ VR G' (.hr id (es.length + xs.length)) u' := by
  obtain ⟨r1, u0, hu0, htip⟩ := h.sim.row id ns es hq
  rw [hu] at hu0
  cases hu0
  obtain ⟨_, hvr⟩ := r1 _ u hu
  have hid : id < H.length := (List.getElem?_eq_some_iff.1 hq).1
  obtain ⟨w', u', K', hrun, hone', c, hsz, hK1, hKle, hKs, hvr', htip', hxe, _⟩ := append_core (tx := tx) (ty := ty) h.sim ht hE hxs hes hvr htip hs hn
  let G' : Gh := { G with K := K', cv := fun r l => if r = id ∧ l = es.length + xs.length then some u' else G.cv r l, ow := fun b => if b = w.heap.size ∧ b < w'.heap.size then some id else G.ow b, hb := fun b => G.hb b ∨ (b = w.heap.size ∧ b < w'.heap.size) }
  have hcv : ∀ r l x, G.cv r l = some x → G'.cv r l = some x := fun r l x hx => by
    show (if _ then _ else _) = _
    split
    · rename_i hh
      obtain ⟨rfl, rfl⟩ := hh
      have hl := (r1 _ x hx).1
      have : xs = [] := List.eq_nil_of_length_eq_zero (by omega)
      subst this
      rw [hxe rfl]
      simp only [List.length_nil, Nat.add_zero] at hx
      rw [hu] at hx; exact hx
    · exact hx
  have hle : G.le G' := ⟨Nat.le_refl _, fun _ _ => rfl, fun _ _ => rfl, hcv, hKle, fun _ _ => rfl⟩
  have hle2 : Gh.le { G with K := K' } G' := ⟨Nat.le_refl _, fun _ _ => rfl, fun _ _ => rfl, hcv, fun _ _ _ x => x, fun _ _ => rfl⟩
  have how : ∀ b, b < w.heap.size → G'.ow b = G.ow b := fun b hb => by show (if _ then _ else _) = _; rw [if_neg (by omega)]
  have old : ∀ {k : Nat} {x : Blk}, (H.set id (.row ns (es ++ xs)))[k]? = some x → (k = id ∧ x = .row ns (es ++ xs)) ∨ (k ≠ id ∧ H[k]? = some x) := fun {k x} hk => by
    rw [List.getElem?_set] at hk
    split at hk
    · rename_i e1; subst e1; simp [hid] at hk; exact .inl ⟨rfl, hk.symm⟩
    · rename_i e1; exact .inr ⟨fun e2 => e1 e2.symm, hk⟩
  have hownhb : ∀ b, (G.ow b = some id ∧ G.hb b) → G.hb b := fun b x => x.2
  refine ⟨w', u', G', hrun, {
    sim := h.sim.grow hle rfl (fun b hb => hb.elim (fun x => Nat.lt_of_lt_of_le (h.sim.hblt b x) hsz) (fun x => x.2)) (fun _ x => .inl x) how (fun b i hi => by
        change (if b = w.heap.size ∧ b < w'.heap.size then some id else G.ow b) = some i at hi
        split at hi
        · rename_i hh; exact .inr hh
        · exact .inl (h.sim.owhb b i hi)) (fun i l x hx => by
        change (if i = id ∧ l = es.length + xs.length then some u' else G.cv i l) = some x at hx
        split at hx
        · rename_i hh; rw [hh.1]; show id < G.n; rw [← h.sim.len]; exact hid
        · exact h.sim.cvn i l x hx) (by simp) (fun i x lx hi => by
        rcases old hi with ⟨rfl, rfl⟩ | ⟨_, h1⟩
        · cases lx
        · exact h1) c (fun i x hi lx hd => by have := (h.sim.hb i x hi lx).2.1; rw [this] at hd; cases hd.1) hK1 hKs (fun id2 ns2 es2 he => by
      rcases old he with ⟨rfl, e1⟩ | ⟨hne, h1⟩
      · cases e1
        refine ⟨fun len y hy => ?_, u', by simp [G'], ?_⟩
        · change (if id2 = id2 ∧ len = es.length + xs.length then some u' else G.cv id2 len) = some y at hy
          split at hy
          · rename_i hh
            cases hy
            rw [hh.2]
            refine ⟨by simp, ?_⟩
            have := hvr'.mono hle2
            simpa using this
          · obtain ⟨b1, b2⟩ := r1 len y hy
            refine ⟨by simp; omega, ?_⟩
            have e3 : rowV ns (es ++ xs) len = rowV ns es len := by
              unfold rowV
              rw [List.take_append_of_le_length b1]
            rw [e3]; exact b2.mono hle
        · exact htip'.le (G' := G') (fun _ _ _ => rfl) (fun b hb x => by
            rcases x with x | ⟨rfl, hlt⟩
            · exact ⟨(how b (h.sim.hblt b x.2)).trans x.1, .inl x.2⟩
            · exact ⟨by simp [G', hlt], .inr ⟨rfl, hlt⟩⟩)
      · obtain ⟨a1, x, a2, a3⟩ := h.sim.row id2 ns2 es2 h1
        refine ⟨fun len y hy => ?_, x, hcv _ _ _ a2, Tip.ch (D := fun b => G.ow b = some id ∧ G.hb b) (w := w) ?_ c (fun b hb hd => ?_)⟩
        · change (if id2 = id ∧ len = es.length + xs.length then some u' else G.cv id2 len) = some y at hy
          rw [if_neg (fun x => hne x.1)] at hy
          exact ⟨(a1 len y hy).1, (a1 len y hy).2.mono hle⟩
        · rcases a3 with a3 | ⟨b, o, cap, h1, h2, h3, h4⟩
          · exact .inl a3
          · refine .inr ⟨b, o, cap, h1, h2, h3, ?_⟩
            rcases h4 with h4 | ⟨sz, cc, E, fr, c1, c2, c3, c4, c5, c6, c7⟩
            · exact .inl h4
            · have hlt := lt_of_block c3
              exact .inr ⟨sz, cc, E, fr, c1, c2, c3, c4, c5, fun j hj => (hK1 b hlt (fun hd => by have := hd.1; rw [c7.1] at this; cases this; exact hne rfl) j).trans (c6 j hj), (how b hlt).trans c7.1, .inl c7.2⟩
        · have h2 : G'.ow b = some id2 := hb.1
          rw [how b (h.sim.hblt b hd.2), hd.1] at h2
          cases h2; exact hne rfl)
    lr := (h.lr.heap (G' := G') hle (fun b hb hn2 o => hK1 b hb (fun hd => hn2 hd.2) o) (fun b hb x => x.elim (fun y => y) (fun y => by omega))).ch c (fun b _ hn2 hd => hn2 (.inl hd.2))
    fr := Fr.ch (D := fun b => G.ow b = some id ∧ G.hb b) (Fr.heap (G' := G') h.fr (fun b hb hn2 o => hK1 b hb (fun hd => hn2 hd.2) o) (fun b hb x => Or.elim (show G.hb b ∨ _ from x) (fun y => y) (fun y => by omega))) c (fun b _ hn2 hd => hn2 (.inl hd.2))
    le := h.le.trans hle }, by
    obtain ⟨base, cap, e1⟩ := htip'.slice
    rw [List.length_append] at e1
    rw [e1]
    exact VR.hr _ _ base cap (by show id < G.n; rw [← h.sim.len]; exact hid) (by simp [G', e1])⟩
end
end Go.Abs
