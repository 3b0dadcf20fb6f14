/- A part of the proofs over this seat. -/
import Derived.Test.YthicacphcljdmaaQAbsY
namespace Go.Abs
set_option linter.unusedVariables false
set_option linter.unusedSimpArgs false
open Go.RowKit
section
variable {G0 : Gh} {W0 : World} {G : Gh} {L : Lg} {st : St} {H : Hp} {tmps : Array Value} {a : Act} {w w' : World} {P : Program} {o : Oper}
theorem VR.rsl_mk {row : List V} {b o sz cap : Nat} {us : List Value} (hw : ∀ e ∈ row, e.width = sz) (hc : CellsR G (row.flatMap V.cells) us) (hK : ∀ (j : Nat) (u : Value), us[j]? = some u → G.K b (o + j) = some u) (hcap : row.length ≤ cap) :
    VR G (.rsl row) (.slice (some ⟨b, o, none⟩) row.length cap) := by
  have key : ∀ (i : Nat) (e : V) (j : Nat) (c : V), row[i]? = some e → e.cells[j]? = some c → ∃ u, us[i * sz + j]? = some u ∧ u.oneCell' = true ∧ AR G c u := fun i e j c he hj => by
    have hwe : e.cells.length = sz := hw e (List.mem_of_getElem? he)
    have hjl : j < sz := by rw [← hwe]; exact (List.getElem?_eq_some_iff.1 hj).1
    have := flat_get hw he hjl
    rw [hj] at this
    exact hc.get this
  refine VR.rsl row b o sz cap (fun i j => us.getD (i * sz + j) undef) (fun i e he => hw e (List.mem_of_getElem? he)) (fun i e j c he hj => ?_) (fun i e j c he hj => ?_) (fun i e j c he hj => ?_) hcap
  · obtain ⟨u, h1, _⟩ := key i e j c he hj
    simp only [List.getD_eq_getElem?_getD, h1, Option.getD_some]
    rw [Nat.add_assoc]; exact hK _ u h1
  · obtain ⟨u, h1, h2, _⟩ := key i e j c he hj
    simp only [List.getD_eq_getElem?_getD, h1, Option.getD_some]; exact h2
  · obtain ⟨u, h1, _, h3⟩ := key i e j c he hj
    simp only [List.getD_eq_getElem?_getD, h1, Option.getD_some]; exact h3
structure ElemOk (P : Program) (e : TypeId) (n : Nat) (i : TypeInfo) (z : Value) : Prop where
  info : P.info? e = some i
  zero : i.zero = some z
  size : i.size = sizeT P e
  pos : 0 < sizeT P e
  zs : z.cells.size = sizeT P e
  one : ∀ v ∈ z.cells.toList, v.oneCell' = true
  bytes : n * i.bytes ≤ 70368744177664
  n : n ≤ 4611686018427387904
  zr : CellsR G (zeroT P e).cells z.cells.toList
theorem elemOk_iff {e : TypeId} {n : Nat} (h : elemOk P e n = true) : ∃ i z, ElemOk (G := G) P e n i z := by
  unfold elemOk at h
  simp only [Bool.and_eq_true, bne_iff_ne, ne_eq, beq_iff_eq, decide_eq_true_eq] at h
  obtain ⟨⟨⟨⟨h1, h2⟩, h3⟩, h4⟩, h5⟩ := h
  cases hi : P.info? e with
  | none => simp [Program.cellsOf, hi] at h1
  | some i =>
    cases hz : i.zero with
    | none => simp [zeroT, hi, hz, okV] at h2
    | some z =>
      have e1 : zeroT P e = ofConst z := by simp [zeroT, hi, hz]
      have hr := (ofConst_AR (G := G) z (okV_ne (e1 ▸ h2))).cellsR (okV_tup (e1 ▸ h2))
      rw [← e1] at hr
      exact ⟨i, z, hi, hz, by simp [sizeT, Program.cellsOf, hi], Nat.pos_of_ne_zero h1, by have := hr.len; rw [← h3]; simpa [V.width] using this, hr.one, by simpa [Program.bytesOf, hi] using h4, h5, hr⟩
theorem run_append_none0 {t tx ty e : TypeId} {i : TypeInfo} {v : Value} {news : List Value} (ht : P.underlying t = some (.slice e)) (hi : P.info? e = some i) (hs : Src P i.size tx v 0 news w) :
    (Builtin.append_ #[t, tx] ty #[.slice none 0 0, v]).run P w = .ok (.slice none 0 0) w := by
  rcases hs.kind with ⟨e', hk⟩ | hk <;> simp [Builtin.append_, run_underlying ht, run_underlying hk, sizeOf, typeInfo, hi, hs.len, hs.cells]
theorem append_core (h : Sim G H w) {e t tx ty : TypeId} {es xs : List V} {ns : Bool} {u v : Value} {own : Nat → Prop} {news : List Value} (ht : P.underlying t = some (.slice e)) (hE : elemOk P e (es.length + xs.length) = true)
    (hxs : ∀ x ∈ xs, x.width = sizeT P e) (hes : ∀ x ∈ es, x.width = sizeT P e) (hv : VR G (rowV ns es es.length) u) (htip : Tip G w own ns es u) (hs : Src P (sizeT P e) tx v xs.length news w) (hn : CellsR G (xs.flatMap V.cells) news) :
    ∃ w' u' K', (Builtin.append_ #[t, tx] ty #[u, v]).run P w = .ok u' w' ∧ u'.oneCell' = true ∧ Ch own w w' ∧ w.heap.size ≤ w'.heap.size ∧ (∀ b, b < w.heap.size → ¬ own b → ∀ o, K' b o = G.K b o) ∧ (∀ b o x, G.K b o = some x → K' b o = some x) ∧
      (∀ b o x, K' b o = some x → w'.cell? ⟨b, o, none⟩ = some x) ∧ VR { G with K := K' } (rowV ns (es ++ xs) (es ++ xs).length) u' ∧ Tip { G with K := K' } w' (fun b => own b ∨ (b = w.heap.size ∧ b < w'.heap.size)) ns (es ++ xs) u' ∧ (xs = [] → u' = u) ∧
      (∀ b, b < w.heap.size → NF w b 0 → True) := by
  obtain ⟨i, z, hi, hz, hsz, hpos, hzs, hz1, hb, hn62, hzr⟩ := elemOk_iff (G := G) hE
  have hnl : news.length = xs.length * sizeT P e := hs.newsLen
  rw [← hsz] at hs
  by_cases hx0 : xs = []
  · -- nothing is appended
    subst hx0
    have hnews : news = [] := List.eq_nil_of_length_eq_zero (by rw [hnl]; simp)
    subst hnews
    refine ⟨w, u, G.K, ?_, ?_, ⟨rfl, rfl, rfl, Nat.le_refl _, fun _ _ _ => rfl⟩, Nat.le_refl _, fun _ _ _ _ => rfl, fun _ _ _ x => x, h.K, ?_, ?_, fun _ => rfl, fun _ _ _ => trivial⟩
    · rcases htip with ⟨rfl, _, _⟩ | ⟨b, o, cap, rfl, _, hc, _⟩
      · exact run_append_none0 ht hi hs
      · have := run_append_room_src w t tx ty e i ht hi b o es.length cap v 0 [] hs (by omega) (fun j hj => by simp at hj) (fun j hj => by simp at hj)
        simpa [World.setCells] using this
    · rcases htip with ⟨rfl, _, _⟩ | ⟨b, o, cap, rfl, _⟩ <;> rfl
    · rw [List.append_nil]; exact hv
    · rw [List.append_nil]
      exact htip.le (fun _ _ _ => rfl) (fun b _ x => .inl x)
  · have hxl : 0 < xs.length := List.length_pos_iff.2 hx0
    have hne : es ++ xs ≠ [] := by simp [hx0]
    have hrow : rowV ns (es ++ xs) (es ++ xs).length = .rsl (es ++ xs) := by
      unfold rowV
      rw [if_neg (by simp [hx0])]
      rw [List.take_length]
    have hall : ∀ x ∈ es ++ xs, x.width = sizeT P e := fun x hx => (List.mem_append.1 hx).elim (hes x) (hxs x)
    -- the old cells
    obtain ⟨base, cap, olds, hu, hcap, ho1, ho2, ho3, hroom⟩ : ∃ (base : Option Addr) (cap : Nat) (olds : List Value), u = .slice base es.length cap ∧ es.length ≤ cap ∧ olds.length = es.length * sizeT P e ∧ CellsR G (es.flatMap V.cells) olds ∧
        (∀ b o, base = some ⟨b, o, none⟩ → ∀ (j : Nat) (x : Value), olds[j]? = some x → G.K b (o + j) = some x) ∧
        (cap = es.length ∧ (base = none → es = []) ∧ (∀ a, base = some a → a.spot = none) ∨ ∃ b o c E fr, base = some ⟨b, o, none⟩ ∧ es ≠ [] ∧ w.heap[b]? = some (.cells c E fr) ∧ o + cap * sizeT P e ≤ c.size ∧ NF w b c.size ∧ (∀ j, o + es.length * sizeT P e ≤ j → G.K b j = none) ∧ own b) := by
      rcases htip with ⟨rfl, _, rfl⟩ | ⟨b, o, cap, rfl, hne2, hc, hx⟩
      · exact ⟨none, 0, [], rfl, Nat.le_refl _, by simp, CellsP.nil, (fun b o e => by cases e), .inl ⟨rfl, (fun _ => rfl), (fun a e => by cases e)⟩⟩
      · have hv2 : VR G (.rsl es) (.slice (some ⟨b, o, none⟩) es.length cap) := by
          unfold rowV at hv
          split at hv
          · cases hv
          · rwa [List.take_length] at hv
        by_cases he0 : es = []
        · subst he0
          refine ⟨some ⟨b, o, none⟩, cap, [], rfl, hc, by simp, CellsP.nil, (fun b2 o2 _ j x hj => by simp at hj), ?_⟩
          rcases hx with hx | ⟨sz2, c, E, fr, a1, _⟩
          · exact .inl ⟨hx, fun _ => rfl, fun a ea => by cases ea; rfl⟩
          · exact absurd rfl a1
        · obtain ⟨b', o', sz, cap', f, e1, h1, h2, h3, h4, h5⟩ := hv2.rsl_inv.resolve_left (fun ⟨_, _, e0, _⟩ => he0 e0)
          simp only [Value.slice.injEq, Option.some.injEq, Addr.mk.injEq, and_true, true_and] at e1
          obtain ⟨⟨rfl, rfl⟩, rfl⟩ := e1
          have hs2 : ∀ sz2, (∀ e ∈ es, e.width = sz2) → sz2 = sizeT P e := fun sz2 hh => by
            obtain ⟨x, hx⟩ := List.exists_mem_of_ne_nil _ he0
            rw [← hh x hx, hes x hx]
          have hsz3 : sz = sizeT P e := hs2 sz fun x hx => by
            obtain ⟨k, hk, rfl⟩ := List.getElem_of_mem hx
            exact h1 k _ (List.getElem?_eq_getElem hk)
          subst hsz3
          obtain ⟨us, u1, u2, u3⟩ := row_cells h h1 h2 h3 h4 hpos
          refine ⟨some ⟨b, o, none⟩, cap, us, rfl, hc, u1, u2, fun b2 o2 e2 j x hj => ?_, ?_⟩
          · cases e2; exact u3 j x hj
          · rcases hx with hx | ⟨sz2, c, E, fr, a1, a2, a3, a4, a5, a6, a7⟩
            · exact .inl ⟨hx, (fun ee => by cases ee), (fun a ea => by cases ea; rfl)⟩
            · have := hs2 sz2 a2
              subst this
              exact .inr ⟨b, o, c, E, fr, rfl, a1, a3, a4, a5, a6, a7⟩
    subst hu
    by_cases hfit : es.length + xs.length ≤ cap
    · -- there is room
      rcases hroom with ⟨hc, _⟩ | ⟨b, o, c, E, fr, rfl, he0, hb1, hb2, hb3, hb4, hb5⟩
      · omega
      · have hmul : (es.length + xs.length) * sizeT P e ≤ cap * sizeT P e := Nat.mul_le_mul_right _ hfit
        rw [Nat.add_mul] at hmul
        have hin : o + es.length * sizeT P e + news.length ≤ c.size := by rw [hnl]; omega
        have hrun := run_append_room_src (P := P) w t tx ty e i ht hi b o es.length cap v xs.length news hs hfit (fun j hj => by
            rw [cell_of_row w _ _ c E fr hb1]; rw [hsz]; simp; omega) (fun j hj => hb3 _ (by rw [hsz]; omega))
        rw [hsz] at hrun
        obtain ⟨cc', k1, k2⟩ := setCells_at news (o + es.length * sizeT P e) w c hb1 hin
        have hcc : cc'.size = c.size := by have e1 := congrArg List.length k2; simp at e1; omega
        have ch := setCells_ch b news (o + es.length * sizeT P e) w
        let K' : Nat → Nat → Option Value := fun b' o' => if b' = b ∧ o + es.length * sizeT P e ≤ o' ∧ o' < o + es.length * sizeT P e + news.length then news[o' - (o + es.length * sizeT P e)]? else G.K b' o'
        have hKle : ∀ b' o' x, G.K b' o' = some x → K' b' o' = some x := fun b' o' x hk => by
          show (if _ then _ else _) = _
          rw [if_neg]
          · exact hk
          · rintro ⟨rfl, h1, _⟩; rw [hb4 o' h1] at hk; cases hk
        have hKnew : ∀ (j : Nat) (x : Value), news[j]? = some x → K' b (o + es.length * sizeT P e + j) = some x := fun j x hj => by
          have := (List.getElem?_eq_some_iff.1 hj).1
          show (if _ then _ else _) = _
          rw [if_pos ⟨rfl, by omega, by omega⟩, Nat.add_sub_cancel_left]; exact hj
        have hle : G.le { G with K := K' } := ⟨Nat.le_refl _, fun _ _ => rfl, fun _ _ => rfl, fun _ _ _ x => x, hKle, fun _ _ => rfl⟩
        refine ⟨_, _, K', hrun, rfl, ⟨ch.os, ch.tape, ch.output, ch.size, fun b' hb' hn' => ch.blk b' hb' fun e2 => hn' (e2 ▸ hb5)⟩, ch.size, fun b' hb' hn' o' => (by show (if _ then _ else _) = _; rw [if_neg]; rintro ⟨e2, _⟩; exact hn' (e2 ▸ hb5)), hKle, fun b' o' x hk => ?_, ?_, ?_, fun e2 => absurd e2 hx0, fun _ _ _ => trivial⟩
        · change (if b' = b ∧ o + es.length * sizeT P e ≤ o' ∧ o' < o + es.length * sizeT P e + news.length then news[o' - (o + es.length * sizeT P e)]? else G.K b' o') = some x at hk
          split at hk
          · rename_i hh
            obtain ⟨rfl, h1, h2⟩ := hh
            rw [cell_of_row _ _ _ cc' E fr k1]
            have : cc'.toList[o']? = some x := by
              rw [k2, List.getElem?_append_left (by simp; omega), List.getElem?_append_right (by simp; omega)]
              have e3 : (List.take (o + es.length * sizeT P e) c.toList).length = o + es.length * sizeT P e := by simp; omega
              rw [e3]; exact hk
            simpa using this
          · rename_i hh
            by_cases e2 : b' = b
            · subst e2
              have hlt : o' < o + es.length * sizeT P e := by
                rcases Nat.lt_or_ge o' (o + es.length * sizeT P e) with h1 | h1
                · exact h1
                · rw [hb4 o' h1] at hk; cases hk
              have h0 := h.K b' o' x hk
              rw [cell_of_row w _ _ c E fr hb1] at h0
              rw [cell_of_row _ _ _ cc' E fr k1]
              have : cc'.toList[o']? = some x := by
                rw [k2, List.append_assoc, List.getElem?_append_left (by simp; omega), List.getElem?_take_of_lt hlt]
                simpa using h0
              simpa using this
            · rw [World.cell?_of_block (w := w) (a := ⟨b', o', none⟩) (ch.blk b' (h.lt_of_K hk) e2)]; exact h.K b' o' x hk
        · rw [hrow, ← List.length_append]
          refine VR.rsl_mk (us := olds ++ news) hall ?_ (fun j x hj => ?_) (by simp; omega)
          · rw [List.flatMap_append]
            exact (ho2.mono fun _ _ r => r.mono hle).append (hn.mono fun _ _ r => r.mono hle)
          · rw [List.getElem?_append] at hj
            split at hj
            · exact hKle _ _ _ (ho3 b o rfl j x hj)
            · rename_i h1
              have := hKnew _ x hj
              rw [ho1] at this h1
              have e3 : o + es.length * sizeT P e + (j - es.length * sizeT P e) = o + j := by omega
              rw [e3] at this; exact this
        · refine .inr ⟨b, o, cap, by simp, fun _ => hne, by simp; omega, .inr ⟨sizeT P e, cc', E, fr, hne, hall, k1, by omega, fun j hj => by rw [World.frozen?_setCells]; exact hb3 j (by omega), fun j hj => ?_, .inl hb5⟩⟩
          rw [List.length_append, Nat.add_mul] at hj
          show (if _ then _ else _) = _
          rw [if_neg (by rintro ⟨_, _, h1⟩; omega)]
          exact hb4 j (by omega)
    · -- a new row
      have hg : cap < es.length + xs.length := by omega
      have hold : (Builtin.firstCells i.size es.length (.slice base es.length cap)).run P w.drew = .ok olds.toArray w.drew := by
        cases base with
        | none =>
          have : olds = [] := by
            rcases hroom with ⟨_, hc, _⟩ | ⟨b, o, c, E, fr, e2, _⟩
            · rw [hc rfl] at ho1; exact List.eq_nil_of_length_eq_zero (by rw [ho1]; simp)
            · cases e2
          subst this
          exact run_firstCells_none w.drew i.size es.length es.length cap
        | some ad =>
          have hsp : ad.spot = none := by
            rcases hroom with ⟨_, _, hc⟩ | ⟨b, o, c, E, fr, e2, _⟩
            · exact hc ad rfl
            · cases e2; rfl
          obtain ⟨b, o, sp⟩ := ad
          simp only at hsp
          subst hsp
          refine run_firstCells_some w.drew i.size es.length ⟨b, o, none⟩ es.length cap olds (by rw [ho1, hsz]) (fun j x hj => ?_)
          rw [Addr.add_lit]
          exact h.K _ _ _ (ho3 b o rfl j x hj)
      have hrun := run_append_grow_src (P := P) w t tx ty e i z ht hi hz base es.length cap olds hold v xs.length news hs hg (by omega) (growslice_fits hg (by omega))
      have ch : Ch (fun _ => False) w _ := Ch.drewAlloc w (.cells ((olds ++ news).toArray ++ Builtin.zeroCells z.cells (grownCap w (es.length + xs.length) cap e - (es.length + xs.length))) e)
      generalize hcell : (olds ++ news).toArray ++ Builtin.zeroCells z.cells (grownCap w (es.length + xs.length) cap e - (es.length + xs.length)) = cells at hrun ch
      have hcsz : cells.size = olds.length + news.length + (grownCap w (es.length + xs.length) cap e - (es.length + xs.length)) * sizeT P e := by
        rw [← hcell]; simp [size_zeroCells, hzs]
      have hge := grownCap_ge w (es.length + xs.length) cap e
      have hnew : (w.drew.alloc (.cells cells e)).heap[w.heap.size]? = some (.cells cells e (0, 0)) := heap_alloc_new w.drew _
      let K' : Nat → Nat → Option Value := fun b' o' => if b' = w.heap.size then (olds ++ news)[o']? else G.K b' o'
      have hKle : ∀ b' o' x, G.K b' o' = some x → K' b' o' = some x := fun b' o' x hk => by
        show (if _ then _ else _) = _
        rw [if_neg (by have := h.lt_of_K hk; omega)]; exact hk
      have hle : G.le { G with K := K' } := ⟨Nat.le_refl _, fun _ _ => rfl, fun _ _ => rfl, fun _ _ _ x => x, hKle, fun _ _ => rfl⟩
      refine ⟨_, _, K', hrun, rfl, ⟨ch.os, ch.tape, ch.output, ch.size, fun b' hb' _ => ch.blk b' hb' id⟩, ch.size, fun b' hb' _ o' => if_neg (by omega), hKle, fun b' o' x hk => ?_, ?_, ?_, fun e2 => absurd e2 hx0, fun _ _ _ => trivial⟩
      · change (if b' = w.heap.size then (olds ++ news)[o']? else G.K b' o') = some x at hk
        split at hk
        · rename_i e2
          subst e2
          rw [cell_of_row _ _ _ cells e (0, 0) hnew, ← hcell, Array.getElem?_append_left (by simp; have := (List.getElem?_eq_some_iff.1 hk).1; simpa using this)]
          simpa using hk
        · rw [World.cell?_of_block (w := w) (a := ⟨b', o', none⟩) (ch.blk b' (h.lt_of_K hk) id)]; exact h.K b' o' x hk
      · rw [hrow, ← List.length_append]
        refine VR.rsl_mk (us := olds ++ news) hall ?_ (fun j x hj => ?_) (by simp; omega)
        · rw [List.flatMap_append]
          exact (ho2.mono fun _ _ r => r.mono hle).append (hn.mono fun _ _ r => r.mono hle)
        · show (if _ then _ else _) = _
          rw [if_pos rfl, Nat.zero_add]; exact hj
      · refine .inr ⟨w.heap.size, 0, grownCap w (es.length + xs.length) cap e, by simp, fun _ => hne, by simp; omega, .inr ⟨sizeT P e, cells, e, (0, 0), hne, hall, hnew, ?_, fun j hj => frozen_of_row _ _ j cells e hnew, fun j hj => ?_, .inr ⟨rfl, by simp⟩⟩⟩
        · have h1 : grownCap w (es.length + xs.length) cap e * sizeT P e = (es.length + xs.length) * sizeT P e + (grownCap w (es.length + xs.length) cap e - (es.length + xs.length)) * sizeT P e := by
            rw [← Nat.add_mul]; congr 1; omega
          rw [hcsz, ho1, hnl, h1, Nat.add_mul]; omega
        · show (if _ then _ else _) = _
          rw [if_pos rfl]
          refine List.getElem?_eq_none ?_
          rw [List.length_append] at hj ⊢
          rw [ho1, hnl, ← Nat.add_mul]; omega
end
end Go.Abs
