/- A part of the proofs over this seat. -/
import Derived.Test.YthicacphcljdmaaQAbsN
namespace Go.Abs
set_option linter.unusedVariables false
set_option linter.unusedSimpArgs false
open Go.RowKit
/-! ### Stores -/
section
variable {G0 : Gh} {W0 : World} {G : Gh} {L : Lg} {st : St} {H : Hp} {tmps : Array Value} {a : Act} {w w' : World} {P : Program} {o : Oper}
theorem raw_cells {B0 : Nat} (h : LR B0 G L st tmps w) {x : V} {u : Value} (hx : LAR G L st.r.length x u) (hk : okV x = true) : CellsP (LAR G L st.r.length) x.cells u.cells.toList := by
  cases x <;> first
    | exact ((show VR G _ u from hx).cellsR (okV_tup hk)).mono fun _ _ r => LAR.of_AR r
    | (cases hk; done)
    | skip
  case lr rid len =>
    obtain ⟨h1, h2⟩ := hx
    have ho := ((h.row rid _ (List.getElem?_eq_getElem h1)).1 len u h2).2.1
    have e : u.cells.toList = [u] := by cases u <;> first | rfl | cases ho
    rw [e]
    exact ⟨rfl, (fun v hv => by simp at hv; subst hv; exact ho), (fun j c v hc hv => by
      cases j with
      | zero => simp [V.cells] at hc hv; subst hc; subst hv; exact ⟨h1, h2⟩
      | succ j => simp [V.cells] at hc)⟩
theorem NF.size {b n m : Nat} (h : NF w b n) (e : m = n) : NF w b m := e ▸ h
theorem Inv.storeBox (h : Inv G0 W0 G L st H tmps w) {l off : Nat} {cs cs' : List V} {x : V} {u : Value} {size : Nat} (hl : st.b[l]? = some cs) (hs : storeCell cs off x size = some cs') (hx : LAR G L st.r.length x u) {t : TypeId} (hz : P.cellsOf t ≠ 0) (he : size = sizeT P t) :
    ∃ w', (storeVar t ⟨L.β l, off, none⟩ u).run P w = .ok () w' ∧ Inv G0 W0 G L { st with b := st.b.set l cs' } H tmps w' := by
  unfold storeCell at hs
  split at hs
  · rename_i hc
    obtain ⟨hk, hw, hle⟩ := hc
    cases hs
    obtain ⟨cc, E, fr, a1, a2, a3⟩ := h.lr.box l cs hl
    have hlt : l < st.b.length := (List.getElem?_eq_some_iff.1 hl).1
    obtain ⟨d1, d2, d3, d4⟩ := h.lr.boxd l hlt
    have hcs := raw_cells h.lr hx hk
    have hus : u.cells.size = size := by have := hcs.len; simp [V.width] at this hw; omega
    have hcc : cc.size = cs.length := by have := a3.len; simpa using this
    have hrun := run_storeVar (P := P) (o := off) (w := w) hz (by rw [hus, he]) a1 a2 (by omega) hcs.one
    refine ⟨_, hrun, ?_⟩
    obtain ⟨cc', b1, b2⟩ := setCells_at u.cells.toList off w cc a1 (by simp; omega)
    have c := setCells_ch (L.β l) u.cells.toList off w
    have hov := a3.overlay hcs off
    rw [← b2] at hov
    exact {
      sim := h.sim.ch c (fun b o v hk => by
        have hb : b ≠ L.β l := by rintro rfl; rw [d4 o] at hk; cases hk
        rw [World.cell?_of_block (w := w) (a := ⟨b, o, none⟩) (c.blk b (h.sim.lt_of_K hk) hb)]; exact h.sim.K b o v hk) (fun b hb e => d2 (e ▸ hb))
      lr := {
        size := h.lr.size
        slot := fun s y v hs hv => by
          have := h.lr.slot s y v hs hv
          cases y with
          | v x => exact this
          | box l => exact ⟨by simpa using this.1, this.2⟩
          | ref l o => exact ⟨by simpa using this.1, this.2⟩
        box := fun l' cs2 hl2 => by
          rw [List.getElem?_set] at hl2
          by_cases e : l = l'
          · subst e
            simp [hlt] at hl2
            subst hl2
            have hsz : cc'.size = cc.size := by
              have e1 := congrArg List.length b2
              simp at e1
              omega
            exact ⟨cc', E, fr, b1, fun j hj => by rw [World.frozen?_setCells]; exact a2 j (by omega), hov⟩
          · rw [if_neg e] at hl2
            obtain ⟨c2, E2, f2, e1, e2, e3⟩ := h.lr.box l' cs2 hl2
            have hne : L.β l' ≠ L.β l := fun e4 => e (h.lr.inj l' l ((List.getElem?_eq_some_iff.1 hl2).1) hlt e4).symm
            exact ⟨c2, E2, f2, c.at_ e1 hne, setCells_nf e2, e3⟩
        boxd := fun l' hl' => h.lr.boxd l' (by simpa using hl')
        inj := fun i j hi hj => h.lr.inj i j (by simpa using hi) (by simpa using hj)
        row := fun rid q hq => by
          obtain ⟨e1, e2⟩ := h.lr.row rid q hq
          refine ⟨e1, fun ho => ?_⟩
          obtain ⟨v, e3, e4⟩ := e2 ho
          exact ⟨v, e3, e4.ch c fun b hb e => by have := hb.1; rw [e, d3] at this; cases this⟩
        owlt := fun b rid hb => ⟨(h.lr.owlt b rid hb).1, Nat.lt_of_lt_of_le (h.lr.owlt b rid hb).2 c.size⟩ }
      fr := h.fr.ch c (fun b hb hn e => by have := d1; omega)
      le := h.le }
  · cases hs
/-- A store into a block of the heap. -/
theorem flat_overlay {es : List V} {wd : Nat} (h : ∀ e ∈ es, e.width = wd) : ∀ {i : Nat} {e : V} {off : Nat} {ns : List V} {e' : V}, es[i]? = some e → off + ns.length ≤ wd → e'.cells = overlay e.cells off ns →
    (es.set i e').flatMap V.cells = overlay (es.flatMap V.cells) (i * wd + off) ns := by
  induction es with
  | nil => intro i e off ns e' hi; simp at hi
  | cons x xs ih =>
    intro i e off ns e' hi hle he
    have hx : x.cells.length = wd := h x (by simp)
    cases i with
    | zero =>
      simp at hi; subst hi
      simp only [List.set_cons_zero, List.flatMap_cons, he, overlay, Nat.zero_mul, Nat.zero_add]
      rw [List.take_append_of_le_length (by omega), List.drop_append_of_le_length (by omega)]
      simp
    | succ i =>
      simp only [List.set_cons_succ, List.flatMap_cons]
      rw [ih (fun e he => h e (by simp [he])) (i := i) (e := e) (by simpa using hi) hle he]
      have h1 : (i + 1) * wd + off = x.cells.length + (i * wd + off) := by rw [hx, Nat.add_mul]; omega
      simp only [overlay]
      rw [h1, List.take_length_add_append, Nat.add_assoc x.cells.length, List.drop_length_add_append]
      simp
theorem overlay_length {cs ns : List V} {off : Nat} (h : off + ns.length ≤ cs.length) : (overlay cs off ns).length = cs.length := by
  simp [overlay]; omega
theorem flat_length {es : List V} {wd : Nat} (h : ∀ e ∈ es, e.width = wd) : (es.flatMap V.cells).length = es.length * wd := by
  induction es with
  | nil => simp
  | cons x xs ih =>
    simp only [List.flatMap_cons, List.length_append, List.length_cons]
    rw [ih (fun e he => h e (by simp [he])), show x.cells.length = wd from h x (by simp), Nat.add_mul]
    omega
/-- Cells of a block of the heap are written. -/
theorem Inv.heapCells (h : Inv G0 W0 G L st H tmps w) {id off : Nat} {es es' : List V} {ns : List V} {us : List Value} (he : H[id]? = some (.cells es)) (hn : CellsR G ns us) (hle : off + ns.length ≤ es.length * G.wd id) (hlen : es'.length = es.length)
    (hw' : ∀ e ∈ es', e.width = G.wd id) (he' : es'.flatMap V.cells = overlay (es.flatMap V.cells) off ns) :
    ∃ cc E fr, w.heap[G.φ id]? = some (.cells cc E fr) ∧ NF w (G.φ id) cc.size ∧ off + us.length ≤ cc.size ∧ Inv G0 W0 G L st (H.set id (.cells es')) tmps (w.setCells (G.φ id) off us) := by
  obtain ⟨cc, E, fr, a1, a2, a3, a4, a5⟩ := h.sim.cells id es he
  have hfl := flat_length a3
  have hcl : es.length * G.wd id ≤ cc.size := by have := a4.le; rw [hfl] at this; simpa using this
  have hfit : off + us.length ≤ cc.size := by rw [hn.len]; omega
  refine ⟨cc, E, fr, a1, a2, hfit, ?_⟩
  obtain ⟨cc', b1, b2⟩ := setCells_at us off w cc a1 (by omega)
  have c := setCells_ch (G.φ id) us off w
  obtain ⟨hb1, hb2, hb3⟩ := h.sim.hb id _ he rfl
  have hov := a4.overlay hn off (by rw [hfl]; exact hle)
  rw [← b2, ← he'] at hov
  have hidlt : id < H.length := (List.getElem?_eq_some_iff.1 he).1
  have old : ∀ {k : Nat} {x : Blk}, (H.set id (.cells es'))[k]? = some x → (k = id ∧ x = .cells es') ∨ (k ≠ id ∧ H[k]? = some x) := fun {k x} hk => by
    rw [List.getElem?_set] at hk
    split at hk
    · rename_i e1; subst e1; simp [hidlt] at hk; exact .inl ⟨rfl, hk.symm⟩
    · rename_i e1; exact .inr ⟨fun e2 => e1 e2.symm, hk⟩
  have live : ∀ {k : Nat} {x : Blk}, (H.set id (.cells es'))[k]? = some x → x.live = true → ∃ z, H[k]? = some z ∧ z.live = true := fun {k x} hk hl => by
    rcases old hk with ⟨rfl, rfl⟩ | ⟨_, h1⟩
    · exact ⟨_, he, rfl⟩
    · exact ⟨x, h1, hl⟩
  have hsz : cc'.size = cc.size := by have e1 := congrArg List.length b2; simp at e1; omega
  exact {
    sim := {
      len := by simp [h.sim.len]
      K := fun b o v hk => by
        have hb : b ≠ G.φ id := by rintro rfl; rw [hb3 o] at hk; cases hk
        rw [World.cell?_of_block (w := w) (a := ⟨b, o, none⟩) (c.blk b (h.sim.lt_of_K hk) hb)]; exact h.sim.K b o v hk
      cells := fun k es2 hk => by
        rcases old hk with ⟨rfl, e1⟩ | ⟨hne, h1⟩
        · cases e1
          exact ⟨cc', E, fr, b1, fun j hj => by rw [World.frozen?_setCells]; exact a2 j (by omega), hw', hov, by omega, by omega, a5.2.2⟩
        · obtain ⟨c2, E2, f2, e1, e2, e3, e4⟩ := h.sim.cells k es2 h1
          have hne2 : G.φ k ≠ G.φ id := fun e5 => hne (h.sim.inj k id _ _ h1 he rfl rfl e5)
          exact ⟨c2, E2, f2, c.at_ e1 hne2, setCells_nf e2, e3, e4⟩
      map := fun k es2 hk => by
        rcases old hk with ⟨rfl, e1⟩ | ⟨hne, h1⟩
        · cases e1
        · obtain ⟨ms, cl, e1, e2⟩ := h.sim.map k es2 h1
          have hne2 : G.φ k ≠ G.φ id := fun e5 => hne (h.sim.inj k id _ _ h1 he rfl rfl e5)
          exact ⟨ms, cl, c.at_ e1 hne2, e2⟩
      row := fun k ns2 es2 hk => by
        rcases old hk with ⟨rfl, e1⟩ | ⟨hne, h1⟩
        · cases e1
        · obtain ⟨e1, v, e2, e3⟩ := h.sim.row k ns2 es2 h1
          exact ⟨e1, v, e2, e3.ch c fun b hb e => by have := hb.1; rw [e, hb2] at this; cases this⟩
      inj := fun k k' x y hk hk' lx ly he2 => by
        obtain ⟨z, z1, z2⟩ := live hk lx
        obtain ⟨z', z3, z4⟩ := live hk' ly
        exact h.sim.inj k k' z z' z1 z3 z2 z4 he2
      hb := fun k x hk lx => by
        obtain ⟨z, z1, z2⟩ := live hk lx
        exact h.sim.hb k z z1 z2
      cvn := h.sim.cvn
      hblt := fun b hb => Nat.lt_of_lt_of_le (h.sim.hblt b hb) c.size
      owhb := h.sim.owhb }
    lr := h.lr.ch c (fun b _ hn e => hn (e ▸ hb1))
    fr := h.fr.ch c (fun b _ hn e => hn (e ▸ hb1))
    le := h.le }
/-- The world behind a store, the heap's part. -/
theorem Inv.heapStore (h : Inv G0 W0 G L st H tmps w) {id i off : Nat} {es : List V} {e e' : V} {ns : List V} {us : List Value} (he : H[id]? = some (.cells es)) (hi : es[i]? = some e) (hn : CellsR G ns us) (hle : off + ns.length ≤ e.width) (he' : e'.cells = overlay e.cells off ns) :
    ∃ cc E fr, w.heap[G.φ id]? = some (.cells cc E fr) ∧ NF w (G.φ id) cc.size ∧ (i * G.wd id + off) + us.length ≤ cc.size ∧ Inv G0 W0 G L st (H.set id (.cells (es.set i e'))) tmps (w.setCells (G.φ id) (i * G.wd id + off) us) := by
  obtain ⟨cc, E, fr, a1, a2, a3, a4, a5⟩ := h.sim.cells id es he
  have hw : e.width = G.wd id := a3 e (List.mem_of_getElem? hi)
  have hilt := (List.getElem?_eq_some_iff.1 hi).1
  have hmul : (i + 1) * G.wd id ≤ es.length * G.wd id := Nat.mul_le_mul_right _ hilt
  rw [Nat.add_mul] at hmul
  refine h.heapCells he hn (by omega) (by simp) (fun x hx => ?_) (flat_overlay a3 hi (by omega) he')
  rcases List.mem_or_eq_of_mem_set hx with hx | rfl
  · exact a3 x hx
  · show x.cells.length = _; rw [he', overlay_length (by simpa [V.width] using hle)]; exact hw
theorem flat_take {l : List V} {wd : Nat} (hl : ∀ e ∈ l, e.width = wd) {n : Nat} (hn : n ≤ l.length) : (l.take n).flatMap V.cells = (l.flatMap V.cells).take (n * wd) := by
  have e1 : l.flatMap V.cells = (l.take n).flatMap V.cells ++ (l.drop n).flatMap V.cells := by rw [← List.flatMap_append, List.take_append_drop]
  have e2 : ((l.take n).flatMap V.cells).length = n * wd := by
    rw [flat_length (fun e he => hl e (List.mem_of_mem_take he)), List.length_take, Nat.min_eq_left hn]
  rw [e1]; exact (List.take_left' e2).symm
/-- Elements of a row, laid over others -/
theorem flat_overlayL {es : List V} {wd : Nat} (h : ∀ e ∈ es, e.width = wd) (k : Nat) (xs : List V) (hx : ∀ e ∈ xs, e.width = wd) (hk : k + xs.length ≤ es.length) : (overlay es k xs).flatMap V.cells = overlay (es.flatMap V.cells) (k * wd) (xs.flatMap V.cells) := by
  have hd : ∀ (l : List V), (∀ e ∈ l, e.width = wd) → ∀ n, n ≤ l.length → (l.take n).flatMap V.cells = (l.flatMap V.cells).take (n * wd) ∧ (l.drop n).flatMap V.cells = (l.flatMap V.cells).drop (n * wd) := fun l hl n hn => by
    have e1 : l.flatMap V.cells = (l.take n).flatMap V.cells ++ (l.drop n).flatMap V.cells := by rw [← List.flatMap_append, List.take_append_drop]
    have e2 : ((l.take n).flatMap V.cells).length = n * wd := by
      rw [flat_length (fun e he => hl e (List.mem_of_mem_take he)), List.length_take, Nat.min_eq_left hn]
    rw [e1]
    exact ⟨(List.take_left' e2).symm, (List.drop_left' e2).symm⟩
  unfold overlay
  rw [List.flatMap_append, List.flatMap_append, (hd es h k (by omega)).1, (hd es h (k + xs.length) hk).2, flat_length hx, Nat.add_mul]
theorem overlay_mem {es xs : List V} {k : Nat} {e : V} (h : e ∈ overlay es k xs) : e ∈ es ∨ e ∈ xs := by
  unfold overlay at h
  rcases List.mem_append.1 h with h | h
  · rcases List.mem_append.1 h with h | h
    · exact .inl (List.mem_of_mem_take h)
    · exact .inr h
  · exact .inl (List.mem_of_mem_drop h)
end
end Go.Abs
