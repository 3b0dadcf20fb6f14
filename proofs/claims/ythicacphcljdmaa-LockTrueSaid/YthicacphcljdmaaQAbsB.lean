/- A part of the proofs over this seat. -/
import Derived.Test.YthicacphcljdmaaQAbsA
namespace Go.Abs
set_option linter.unusedVariables false
set_option linter.unusedSimpArgs false
open Go.RowKit
section
variable {G0 : Gh} {W0 : World} {G G' : Gh} {L : Lg} {st : St} {H H' : Hp} {tmps : Array Value} {a : Act} {w w' : World} {P : Program} {o : Oper} {next : Act → World → Prop} {Q : Exit → Act → World → Prop}
theorem putS_r (st : St) (d : Option Nat) (x : Slot) (r : List LRow) : { putS st d x with r := r } = putS { st with r := r } d x := by
  cases d <;> rfl
/-- A new row of the frame, its newest slice with no room behind it. -/
theorem Inv.frowFull (h : Inv G0 W0 G L st H tmps w) {ns : Bool} {es : List V} {u : Value} (h1 : u.oneCell' = true) (hu : VR G (rowV ns es es.length) u) (ht : Tip G w (fun _ => False) ns es u) :
    ∃ L', Inv G0 W0 G L' { st with r := st.r ++ [⟨true, ns, es⟩] } H tmps w ∧ L'.cv st.r.length es.length = some u :=
  ⟨_, ⟨h.sim, h.lr.newRow L.ow (fun _ _ x => x) (fun b => .inr (.inl rfl)) (fun l hl => (h.lr.boxd l hl).2.2.1) h.lr.owlt h1 hu (ht.le (fun _ _ _ => rfl) (fun _ _ x => x.elim)), h.fr, h.le⟩, by simp⟩
theorem info_pos {e : TypeId} (hz : P.cellsOf e ≠ 0) : ∃ i, P.info? e = some i ∧ i.size = sizeT P e := by
  cases hi : P.info? e with
  | none => simp [Program.cellsOf, hi] at hz
  | some i => exact ⟨i, rfl, by simp [sizeT, Program.cellsOf, hi]⟩
/-- A new row, that may be written to. -/
theorem Inv.newSl_sound (h : Inv G0 W0 G L st H tmps w) {e t tx ty : TypeId} {xs : List V} {v : Value} {news : List Value} {d : Option Nat} {base : Option Addr} {st' : St} {H' : Hp} (ht : P.underlying t = some (.slice e)) (hn : newSl P st H d e xs = some (st', H')) (hxs : ∀ x ∈ xs, x.width = sizeT P e)
    (hs : Src P (sizeT P e) tx v xs.length news w) (hnews : CellsR G (xs.flatMap V.cells) news) (hx0 : xs ≠ []) (a : Act) (ha : a.tmps = tmps) :
    ∃ w' u' G', (Builtin.append_ #[t, tx] ty #[.slice base 0 0, v]).run P w = .ok u' w' ∧ Inv G0 W0 G' L st' H' (a.put d u').tmps w' := by
  subst ha
  unfold newSl at hn
  split at hn
  · rename_i hE
    cases hn
    obtain ⟨i, z, hi, hz, hsz, hpos, hzs, hz1, hb, hn62, hzr⟩ := elemOk_iff (G := G) hE
    have hnl : news.length = xs.length * sizeT P e := hs.newsLen
    rw [← hsz] at hs
    have hxl : 0 < xs.length := List.length_pos_iff.2 hx0
    have hold : (Builtin.firstCells i.size 0 (.slice base 0 0)).run P w.drew = .ok ([] : List Value).toArray w.drew := by
      cases base with
      | none => exact run_firstCells_none w.drew i.size 0 0 0
      | some ad => exact run_firstCells_some w.drew i.size 0 ad 0 0 [] (by simp) (fun j x hj => by simp at hj)
    have hrun := run_append_grow_src (P := P) w t tx ty e i z ht hi hz base 0 0 [] hold v xs.length news hs (by omega) (by omega) (growslice_fits (by omega) (by rw [Nat.zero_add]; omega))
    have ch : Ch (fun _ => False) w _ := Ch.drewAlloc w (.cells (([] ++ news : List Value).toArray ++ Builtin.zeroCells z.cells (grownCap w (0 + xs.length) 0 e - (0 + xs.length))) e)
    generalize hcell : ([] ++ news : List Value).toArray ++ Builtin.zeroCells z.cells (grownCap w (0 + xs.length) 0 e - (0 + xs.length)) = cells at hrun ch
    have hge := grownCap_ge w (0 + xs.length) 0 e
    have hcsz : cells.size = news.length + (grownCap w (0 + xs.length) 0 e - (0 + xs.length)) * sizeT P e := by
      rw [← hcell]; simp [size_zeroCells, hzs]
    have hnew : (w.drew.alloc (.cells cells e)).heap[w.heap.size]? = some (.cells cells e (0, 0)) := heap_alloc_new w.drew _
    have hroom : grownCap w (0 + xs.length) 0 e * sizeT P e ≤ cells.size := by
      have h1 : grownCap w (0 + xs.length) 0 e * sizeT P e = (0 + xs.length) * sizeT P e + (grownCap w (0 + xs.length) 0 e - (0 + xs.length)) * sizeT P e := by
        rw [← Nat.add_mul]; congr 1; omega
      rw [hcsz, hnl, h1, Nat.zero_add]; omega
    have hinv := h.newBlk (y := .cells xs) (wd := sizeT P e) (cp := grownCap w (0 + xs.length) 0 e) hnew (by simp) ch (.inl ⟨xs, cells, e, (0, 0), rfl, rfl, fun j hj => frozen_of_row _ _ j cells e hnew, hxs, ⟨news, (Builtin.zeroCells z.cells (grownCap w (0 + xs.length) 0 e - (0 + xs.length))).toList, by rw [← hcell]; simp, hnews⟩, by omega, hroom, Nat.le_refl _⟩)
    refine ⟨_, _, G.addBlk w.heap.size (sizeT P e) (grownCap w (0 + xs.length) 0 e), hrun, ?_⟩
    refine hinv.put d (.v (.sl H.length 0 xs.length)) _ ?_
    have hv := VR.sl (G := G.addBlk w.heap.size (sizeT P e) (grownCap w (0 + xs.length) 0 e)) G.n 0 xs.length (grownCap w (0 + xs.length) 0 e) (by simp [Gh.addBlk]) (by omega) (by simp [Gh.addBlk])
    have hv' : VR (G.addBlk w.heap.size (sizeT P e) (grownCap w (0 + xs.length) 0 e)) (.sl G.n 0 xs.length) (.slice (some ⟨w.heap.size, 0, none⟩) (0 + xs.length) (grownCap w (0 + xs.length) 0 e)) := by simpa [Gh.addBlk] using hv
    rw [h.sim.len]
    exact hv'
  · cases hn
/-- More behind a row that may be written to -/
theorem Inv.appendSl_sound (h : Inv G0 W0 G L st H tmps w) {e t tx ty : TypeId} {id lo len : Nat} {es xs : List V} {u v : Value} {news : List Value} {d : Option Nat} {st' : St} {H' : Hp} (ht : P.underlying t = some (.slice e)) (hz : P.cellsOf e ≠ 0) (he : H[id]? = some (.cells es))
    (hp : appendSl P st H d e id lo len xs es = some (st', H')) (hu : VR G (.sl id lo len) u) (hxs : ∀ x ∈ xs, x.width = sizeT P e) (hs : Src P (sizeT P e) tx v xs.length news w) (hnews : CellsR G (xs.flatMap V.cells) news) (a : Act) (ha : a.tmps = tmps) :
    ∃ w' u' G', (Builtin.append_ #[t, tx] ty #[u, v]).run P w = .ok u' w' ∧ Inv G0 W0 G' L st' H' (a.put d u').tmps w' := by
  subst ha
  unfold appendSl at hp
  split at hp
  · cases hp
  · rename_i hc
    simp only [Bool.or_eq_true, Bool.not_eq_true', decide_eq_true_eq, not_or, Bool.not_eq_false, Nat.not_lt, List.isEmpty_iff] at hc
    obtain ⟨⟨c1, c2⟩, c3⟩ := hc
    have hes := wideAll_iff.1 c1
    cases hu with
    | sl _ _ _ cap hid hcap hcp =>
      obtain ⟨cc, E, fr, a1, a2, a3, a4, a5, a6, a7⟩ := h.sim.cells id es he
      have hwd : G.wd id = sizeT P e := by
        obtain ⟨x, hx⟩ := List.exists_mem_of_ne_nil _ c2
        rw [← a3 x hx, hes x hx]
      have hnl : news.length = xs.length * sizeT P e := hs.newsLen
      obtain ⟨i, hi, hsz⟩ := info_pos hz
      have hs' := hs
      rw [← hsz] at hs'
      split at hp
      · rename_i hfit
        cases hp
        have h1 : (lo + len + xs.length) * sizeT P e ≤ es.length * sizeT P e := Nat.mul_le_mul_right _ hfit
        rw [Nat.add_mul, Nat.add_mul] at h1
        have hov := flat_overlayL a3 (lo + len) xs (fun x hx => by rw [hwd]; exact hxs x hx) hfit
        obtain ⟨cc', E', fr', b1, b2, b3, b4⟩ := h.heapCells (off := (lo + len) * G.wd id) he hnews (by
            rw [flat_length hxs, hwd, Nat.add_mul]; omega) (overlay_length (cs := es) (ns := xs) (off := lo + len) hfit) (fun x hx => (overlay_mem hx).elim (a3 x) (fun hx => by rw [hwd]; exact hxs x hx)) hov
        rw [a1] at b1; cases b1
        have hb3 : lo * G.wd id + len * i.size + news.length ≤ cc.size := by rw [hsz, hwd]; rw [Nat.add_mul, hwd] at b3; exact b3
        have hrun := run_append_room_src (P := P) w t tx ty e i ht hi (G.φ id) (lo * G.wd id) len cap v xs.length news hs' (by omega) (fun j hj => by
            rw [cell_of_row w _ _ cc E fr a1]; simp; omega) (fun j hj => a2 _ (by omega))
        have e3 : lo * G.wd id + len * i.size = (lo + len) * G.wd id := by rw [hsz, ← hwd, Nat.add_mul]
        rw [e3] at hrun
        refine ⟨_, _, G, hrun, ?_⟩
        exact b4.put d (.v (.sl id lo (len + xs.length))) _ (VR.sl id lo (len + xs.length) cap hid (by omega) hcp)
      · split at hp
        · rename_i hnf hE
          simp only [Bool.and_eq_true, beq_iff_eq] at hE
          obtain ⟨rfl, hE⟩ := hE
          cases hp
          obtain ⟨i', z, hi', hz', hsz', hpos, hzs, hz1, hby, hn62, hzr⟩ := elemOk_iff (G := G) hE
          rw [hi] at hi'; cases hi'
          have hlen : len ≤ es.length := by omega
          have hold : CellsR G ((es.take len).flatMap V.cells) (cc.toList.take (len * sizeT P e)) := by
            rw [flat_take a3 hlen]
            have := a4.take.take (len * G.wd id)
            rw [List.take_take, flat_length a3, Nat.min_eq_left (Nat.mul_le_mul_right _ hlen)] at this
            rw [← hwd]; exact this
          have hcells : CellsR G ((es.take len ++ xs).flatMap V.cells) (cc.toList.take (len * sizeT P e) ++ news) := by
            rw [List.flatMap_append]; exact hold.append hnews
          have holdlen : (cc.toList.take (len * sizeT P e)).length = len * sizeT P e := by
            rw [hold.len, flat_length (wd := sizeT P e) (fun x hx => hes x (List.mem_of_mem_take hx)), List.length_take, Nat.min_eq_left hlen]
          have hwide : ∀ x ∈ es.take len ++ xs, x.width = sizeT P e := fun x hx => (List.mem_append.1 hx).elim (fun hx => hes x (List.mem_of_mem_take hx)) (hxs x)
          have hyl : (es.take len ++ xs).length = len + xs.length := by simp; omega
          rw [Nat.zero_add] at hcp
          rw [Nat.zero_mul]
          by_cases hfit : len + xs.length ≤ cap
          · have h1 : (len + xs.length) * sizeT P e ≤ G.cp id * G.wd id := by rw [hwd]; exact Nat.mul_le_mul_right _ (by omega)
            rw [Nat.add_mul] at h1
            have hin : len * sizeT P e + news.length ≤ cc.size := by rw [hnl]; omega
            have hrun := run_append_room_src (P := P) w t tx ty e i ht hi (G.φ id) 0 len cap v xs.length news hs' hfit (fun j hj => by
              rw [cell_of_row w _ _ cc E fr a1, hsz]; simp; omega) (fun j hj => a2 _ (by rw [hsz]; omega))
            rw [hsz, Nat.zero_add] at hrun
            obtain ⟨cc', k1, k2⟩ := setCells_at news (len * sizeT P e) w cc a1 hin
            have hcc : cc'.size = cc.size := by have e1 := congrArg List.length k2; simp at e1; omega
            have hinv := h.moveBlk (y := .cells (es.take len ++ xs)) (wd := sizeT P e) (cp := G.cp id) he (.inl rfl) k1 (setCells_ch (G.φ id) news (len * sizeT P e) w) (.inl ⟨_, cc', E, fr, rfl, rfl, fun j hj => by rw [World.frozen?_setCells]; exact a2 j (by omega), hwide, ⟨_, _, by rw [k2], hcells⟩, by omega, by rw [hcc, ← hwd]; exact a6, a7⟩) ⟨_, rfl⟩
            refine ⟨_, _, G.addBlk (G.φ id) (sizeT P e) (G.cp id), hrun, ?_⟩
            refine hinv.put d (.v (.sl H.length 0 (len + xs.length))) _ ?_
            have hv := VR.sl (G := G.addBlk (G.φ id) (sizeT P e) (G.cp id)) G.n 0 (len + xs.length) cap (by simp [Gh.addBlk]) hfit (by simp [Gh.addBlk]; omega)
            have hv' : VR (G.addBlk (G.φ id) (sizeT P e) (G.cp id)) (.sl G.n 0 (len + xs.length)) (.slice (some ⟨G.φ id, 0, none⟩) (len + xs.length) cap) := by simpa [Gh.addBlk] using hv
            rw [h.sim.len]; exact hv'
          · have hgr : cap < len + xs.length := by omega
            have holdr : (Builtin.firstCells i.size len (.slice (some ⟨G.φ id, 0, none⟩) len cap)).run P w.drew = .ok (cc.toList.take (len * sizeT P e)).toArray w.drew := by
              refine run_firstCells_some w.drew i.size len ⟨G.φ id, 0, none⟩ len cap _ (by rw [holdlen, hsz]) (fun j x hj => ?_)
              rw [Addr.add_lit, Nat.zero_add]
              show w.cell? _ = _
              rw [cell_of_row w _ _ cc E fr a1]
              rw [List.getElem?_take] at hj
              split at hj
              · simpa using hj
              · cases hj
            have hrun := run_append_grow_src (P := P) w t tx ty e i z ht hi hz' (some ⟨G.φ id, 0, none⟩) len cap _ holdr v xs.length news hs' hgr (by omega) (growslice_fits hgr (by omega))
            have ch : Ch (fun _ => False) w _ := Ch.drewAlloc w (.cells ((cc.toList.take (len * sizeT P e) ++ news).toArray ++ Builtin.zeroCells z.cells (grownCap w (len + xs.length) cap e - (len + xs.length))) e)
            generalize hcell : (cc.toList.take (len * sizeT P e) ++ news).toArray ++ Builtin.zeroCells z.cells (grownCap w (len + xs.length) cap e - (len + xs.length)) = cells at hrun ch
            have hge := grownCap_ge w (len + xs.length) cap e
            have hcsz : cells.size = len * sizeT P e + news.length + (grownCap w (len + xs.length) cap e - (len + xs.length)) * sizeT P e := by
              rw [← hcell, ← holdlen]; simp [size_zeroCells, hzs]
            have hnew : (w.drew.alloc (.cells cells e)).heap[w.heap.size]? = some (.cells cells e (0, 0)) := heap_alloc_new w.drew _
            have hroom : grownCap w (len + xs.length) cap e * sizeT P e ≤ cells.size := by
              have h1 : grownCap w (len + xs.length) cap e * sizeT P e = (len + xs.length) * sizeT P e + (grownCap w (len + xs.length) cap e - (len + xs.length)) * sizeT P e := by
                rw [← Nat.add_mul]; congr 1; omega
              rw [hcsz, hnl, h1, Nat.add_mul]; omega
            have hinv := h.moveBlk (y := .cells (es.take len ++ xs)) (wd := sizeT P e) (cp := grownCap w (len + xs.length) cap e) he (.inr rfl) hnew ⟨ch.os, ch.tape, ch.output, ch.size, fun b hb _ => ch.blk b hb (fun x => x)⟩ (.inl ⟨_, cells, e, (0, 0), rfl, rfl, fun j hj => frozen_of_row _ _ j cells e hnew, hwide, ⟨_, (Builtin.zeroCells z.cells (grownCap w (len + xs.length) cap e - (len + xs.length))).toList, by rw [← hcell]; simp, hcells⟩, by omega, hroom, Nat.le_refl _⟩) ⟨_, rfl⟩
            refine ⟨_, _, G.addBlk w.heap.size (sizeT P e) (grownCap w (len + xs.length) cap e), hrun, ?_⟩
            refine hinv.put d (.v (.sl H.length 0 (len + xs.length))) _ ?_
            have hv := VR.sl (G := G.addBlk w.heap.size (sizeT P e) (grownCap w (len + xs.length) cap e)) G.n 0 (len + xs.length) (grownCap w (len + xs.length) cap e) (by simp [Gh.addBlk]) hge (by simp [Gh.addBlk])
            have hv' : VR (G.addBlk w.heap.size (sizeT P e) (grownCap w (len + xs.length) cap e)) (.sl G.n 0 (len + xs.length)) (.slice (some ⟨w.heap.size, 0, none⟩) (len + xs.length) (grownCap w (len + xs.length) cap e)) := by simpa [Gh.addBlk] using hv
            rw [h.sim.len]; exact hv'
        · cases hp
theorem append_op (h : Inv G0 W0 G L st H a.tmps w) {c : Call} {s x : Operand} {t tx e : TypeId} {xs : List V} {st' : St} {H' : Hp} (ho : o.op = .call c) (hc : c.callee = .builtin .append) (ha : c.args.toList = [s, x]) (hat : c.argTypes.toList = [t, tx])
    (hk : ixT P t = .sl e) (hs : srcV P H tx (rd st x) = some xs) {m : Mode} (hp : appendOp P m st H o.dst e (rdS st s).raw xs = some (st', H')) :
    ∃ w' u' G' L', (execOp a.eval o).run P w = .ok (.value u') w' ∧ Inv G0 W0 G' L' st' H' (a.put o.dst u').tmps w' := by
  obtain ⟨ht, hz⟩ := ixT_sl hk
  have hargs : c.args = #[s, x] := by rw [← Array.toArray_toList (xs := c.args), ha]
  have hats : c.argTypes = #[t, tx] := by rw [← Array.toArray_toList (xs := c.argTypes), hat]
  have hexec : ∀ {u' : Value} {w' : World}, (Builtin.append_ #[t, tx] o.type #[a.eval s, a.eval x]).run P w = .ok u' w' → (execOp a.eval o).run P w = .ok (.value u') w' := fun hr => by
    simp [execOp, ho, hc, hargs, hats, resolve, invoke, builtin, hr]
  have hraw := raw_LAR h.lr s
  unfold appendOp at hp
  split at hp
  · cases hp
  · rename_i hw
    have hxs : ∀ e' ∈ xs, e'.width = sizeT P e := wideAll_iff.1 (by simpa using hw)
    obtain ⟨news, hsrc, hnews⟩ := src_sound (P := P) h.sim hs (rd_AR h.lr x) hxs (Nat.pos_of_ne_zero hz)
    split at hp
    · rename_i hr
      rw [hr] at hraw
      have hu : a.eval s = .slice none 0 0 := (show VR G .nils _ from hraw).nils_inv
      split at hp
      · split at hp
        · rename_i hem
          cases hp
          have hx0 : xs = [] := by simpa using hem
          subst hx0
          obtain ⟨i, hi, hsz⟩ := info_pos hz
          have hsrc' : Src P i.size tx (a.eval x) 0 news w := by rw [hsz]; exact hsrc
          exact ⟨w, .slice none 0 0, G, L, hexec (by rw [hu]; exact run_append_none0 ht hi hsrc'), h.put o.dst _ _ VR.nils⟩
        · rename_i hem
          obtain ⟨w', u', G', r1, r2⟩ := h.newSl_sound (tx := tx) (ty := o.type) (d := o.dst) (base := none) ht hp hxs hsrc hnews (by simpa using hem) a rfl
          exact ⟨w', u', G', L, hexec (by rw [hu]; exact r1), r2⟩
      split at hp
      · rename_i hE
        cases hp
        obtain ⟨L1, h1, h2⟩ := h.frowFull (ns := true) (es := []) (u := .slice none 0 0) rfl .nils (by exact Or.inl ⟨rfl, rfl, rfl⟩)
        obtain ⟨w', u', G', L', r1, r2, r3⟩ := h1.appendLocal (tx := tx) (ty := o.type) (rid := st.r.length) (q := ⟨true, true, []⟩) ht (by simp) rfl h2 (by simpa using hE) hxs (by intro _ hx; cases hx) hsrc hnews
        refine ⟨w', u', G', L', hexec (by rw [hu]; exact r1), ?_⟩
        have e1 : ({ ({ st with r := st.r ++ [⟨true, true, []⟩] } : St) with r := (st.r ++ [(⟨true, true, []⟩ : LRow)]).set st.r.length (⟨true, true, [] ++ xs⟩ : LRow) } : St) = { st with r := st.r ++ [⟨true, true, xs⟩] } := by simp
        simp only at r2
        rw [e1] at r2
        simp only [frow, putS_r]
        have hsl : SlotR G' L' st.b.length (st.r ++ [(⟨true, true, xs⟩ : LRow)]).length (.v (.lr st.r.length xs.length)) u' := ⟨by simp, by simpa using r3⟩
        exact r2.put o.dst (.v (.lr st.r.length xs.length)) u' hsl
      · cases hp
    · rename_i id lo len hr
      rw [hr] at hraw
      split at hp
      · rename_i es he
        obtain ⟨w', u', G', r1, r2⟩ := h.appendSl_sound (tx := tx) (ty := o.type) (d := o.dst) ht hz he hp hraw hxs hsrc hnews a rfl
        exact ⟨w', u', G', L, hexec r1, r2⟩
      · cases hp
    · rename_i rid len hr
      rw [hr] at hraw
      obtain ⟨hlt, hcv⟩ := hraw
      have hq : st.r[rid]? = some st.r[rid] := List.getElem?_eq_getElem hlt
      rw [hq] at hp
      simp only at hp
      split at hp
      · split at hp
        · rename_i hcond
          simp only [Bool.and_eq_true, beq_iff_eq, List.isEmpty_iff] at hcond
          obtain ⟨⟨c1, c2⟩, rfl⟩ := hcond
          obtain ⟨r1, r2⟩ := h.lr.row rid _ hq
          obtain ⟨u0, hu0, htip⟩ := r2 c1
          rw [c2] at hu0 htip
          rw [List.length_nil, hcv] at hu0
          cases hu0
          have hu : ∃ base, a.eval s = .slice base 0 0 ∧ (base = none ∧ (st.r[rid]).ns = true ∨ (∃ b o', base = some ⟨b, o', none⟩) ∧ (st.r[rid]).ns = false) := by
            rcases htip with ⟨t1, t2, _⟩ | ⟨b, o', cap, t1, t2, t3, t4⟩
            · exact ⟨none, t1, .inl ⟨rfl, t2⟩⟩
            · have hns : (st.r[rid]).ns = false := by
                cases hh : (st.r[rid]).ns
                · rfl
                · exact absurd rfl (t2 hh)
              rcases t4 with t4 | ⟨_, _, _, _, t5, _⟩
              · rw [List.length_nil] at t1 t4; subst t4; exact ⟨_, t1, .inr ⟨⟨b, o', rfl⟩, hns⟩⟩
              · exact absurd rfl t5
          obtain ⟨base, hu, hbase⟩ := hu
          split at hp
          · rename_i hem
            cases hp
            have hx0 : xs = [] := by simpa using hem
            subst hx0
            have hn0 : news = [] := List.eq_nil_of_length_eq_zero (by rw [hsrc.newsLen]; simp)
            subst hn0
            obtain ⟨i, hi, hsz⟩ := info_pos hz
            have hsrc' : Src P i.size tx (a.eval x) 0 [] w := by rw [hsz]; exact hsrc
            rcases hbase with ⟨rfl, hns⟩ | ⟨⟨b, o', rfl⟩, hns⟩
            · exact ⟨w, .slice none 0 0, G, L, hexec (by rw [hu]; exact run_append_none0 ht hi hsrc'), by rw [hns]; exact h.put o.dst _ _ VR.nils⟩
            · have hrun := run_append_room_src (P := P) w t tx o.type e i ht hi b o' 0 0 (a.eval x) 0 [] hsrc' (Nat.le_refl _) (fun j hj => by simp at hj) (fun j hj => by simp at hj)
              exact ⟨w, .slice (some ⟨b, o', none⟩) 0 0, G, L, hexec (by rw [hu]; simpa [World.setCells] using hrun), by rw [hns]; exact h.put o.dst _ _ (VR.rsl0 _ _)⟩
          · rename_i hem
            obtain ⟨w', u', G', r3, r4⟩ := h.newSl_sound (tx := tx) (ty := o.type) (d := o.dst) (base := base) ht hp hxs hsrc hnews (by simpa using hem) a rfl
            exact ⟨w', u', G', L, hexec (by rw [hu]; exact r3), r4⟩
        · cases hp
      split at hp
      · rename_i hcond
        simp only [Bool.and_eq_true, beq_iff_eq] at hcond
        obtain ⟨⟨⟨c1, rfl⟩, c3⟩, c4⟩ := hcond
        cases hp
        obtain ⟨w', u', G', L', r1, r2, r3⟩ := h.appendLocal (tx := tx) (ty := o.type) ht hq c1 hcv c3 hxs (wideAll_iff.1 c4) hsrc hnews
        refine ⟨w', u', G', L', hexec r1, ?_⟩
        simp only [putS_r]
        exact r2.put o.dst (.v (.lr rid ((st.r[rid]).es.length + xs.length))) u' ⟨by simpa using hlt, r3⟩
      · cases hp
    · rename_i id len hr
      rw [hr] at hraw
      generalize hus : a.eval s = us at hraw
      cases (show VR G (.hr id len) us from hraw) with
      | hr _ _ base cap hid hcv =>
        split at hp
        · rename_i ns es he
          split at hp
          · rename_i hcond
            simp only [Bool.and_eq_true, beq_iff_eq] at hcond
            obtain ⟨⟨rfl, c3⟩, c4⟩ := hcond
            cases hp
            obtain ⟨w', u', G', r1, r2, r3⟩ := h.appendHeap (tx := tx) (ty := o.type) ht he hcv c3 hxs (wideAll_iff.1 c4) hsrc hnews
            exact ⟨w', u', G', L, hexec (by rw [hus]; exact r1), r2.put o.dst _ u' r3⟩
          · cases hp
        · cases hp
    · rename_i hr
      rw [hr] at hraw
      generalize hus : a.eval s = us at hraw
      cases (show VR G .emp us from hraw) with
      | emp b o' =>
        split at hp
        · split at hp
          · rename_i hem
            cases hp
            have hx0 : xs = [] := by simpa using hem
            subst hx0
            have hn0 : news = [] := List.eq_nil_of_length_eq_zero (by rw [hsrc.newsLen]; simp)
            subst hn0
            obtain ⟨i, hi, hsz⟩ := info_pos hz
            have hsrc' : Src P i.size tx (a.eval x) 0 [] w := by rw [hsz]; exact hsrc
            have hrun := run_append_room_src (P := P) w t tx o.type e i ht hi b o' 0 0 (a.eval x) 0 [] hsrc' (Nat.le_refl _) (fun j hj => by simp at hj) (fun j hj => by simp at hj)
            exact ⟨w, .slice (some ⟨b, o', none⟩) 0 0, G, L, hexec (by rw [hus]; simpa [World.setCells] using hrun), h.put o.dst _ _ (VR.rsl0 _ _)⟩
          · rename_i hem
            obtain ⟨w', u', G', r3, r4⟩ := h.newSl_sound (tx := tx) (ty := o.type) (d := o.dst) (base := some ⟨b, o', none⟩) ht hp hxs hsrc hnews (by simpa using hem) a rfl
            exact ⟨w', u', G', L, hexec (by rw [hus]; exact r3), r4⟩
        · split at hp
          · rename_i hem
            cases hp
            have hx0 : xs = [] := by simpa using hem
            subst hx0
            have hn0 : news = [] := List.eq_nil_of_length_eq_zero (by rw [hsrc.newsLen]; simp)
            subst hn0
            obtain ⟨i, hi, hsz⟩ := info_pos hz
            have hsrc' : Src P i.size tx (a.eval x) 0 [] w := by rw [hsz]; exact hsrc
            have hrun := run_append_room_src (P := P) w t tx o.type e i ht hi b o' 0 0 (a.eval x) 0 [] hsrc' (Nat.le_refl _) (fun j hj => by simp at hj) (fun j hj => by simp at hj)
            exact ⟨w, .slice (some ⟨b, o', none⟩) 0 0, G, L, hexec (by rw [hus]; simpa [World.setCells] using hrun), h.put o.dst _ _ (VR.emp _ _)⟩
          · rename_i hem
            obtain ⟨w', u', G', r3, r4⟩ := h.newSl_sound (tx := tx) (ty := o.type) (d := o.dst) (base := some ⟨b, o', none⟩) ht hp hxs hsrc hnews (by simpa using hem) a rfl
            exact ⟨w', u', G', L, hexec (by rw [hus]; exact r3), r4⟩
        · cases hp
    · cases hp
/-! ### Calls -/
def OutR (B : Nat) (G' : Gh) (w' : World) : Out → Ending → Prop
  | .ret v g, .returned u => AR G' v u ∧ (g = true → ∃ es, v = .rsl es ∧ u.oneCell' = true ∧ Tip G' w' (fun b => B ≤ b ∧ ¬ G'.hb b) false es u)
  | .panic v, .panicked chain => ∃ u, AR G' v u ∧ chain = [{ v := u, recovered := false }]
  | _, _ => False
/-- What is said of a function that answers as told. -/
def Sound (P : Program) (gl : Nat → V) (C : Callee) : Prop := ∀ (f : FuncId) (args : List V) (H : Hp) (out : Out) (H' : Hp), C f args H = some (out, H') → ∀ (G : Gh) (w : World) (us : Array Value), GlOK gl G → Sim G H w → us.size = args.length →
  (∀ (j : Nat) (v : V) (u : Value), args[j]? = some v → us[j]? = some u → AR G v u) →
  Calls P f us w fun e w' => ∃ G', G.le G' ∧ Sim G' H' w' ∧ Fr G w G' w' ∧ OutR w.heap.size G' w' out e
theorem Fr.trans {G'' : Gh} {w'' : World} (h : Fr G0 W0 G w) (k : Fr G w G' w') : Fr G0 W0 G' w' where
  os := k.os.trans h.os
  tape := k.tape.trans h.tape
  output := k.output.trans h.output
  size := Nat.le_trans h.size k.size
  blk b hb hn := by
    obtain ⟨a1, a2, a3⟩ := h.blk b hb hn
    obtain ⟨b1, b2, b3⟩ := k.blk b (Nat.lt_of_lt_of_le hb h.size) a2
    exact ⟨b1.trans a1, b2, fun o => (b3 o).trans (a3 o)⟩
theorem Fr.ch_of {G' : Gh} (k : Fr G w G' w') : Ch G.hb w w' := ⟨k.os, k.tape, k.output, k.size, fun b hb hn => (k.blk b hb hn).1⟩
theorem LR.call {B0 : Nat} (h : LR B0 G L st tmps w) (hle : G.le G') (k : Fr G w G' w') : LR B0 G' L st tmps w' := by
  have hl : LR B0 { G' with hb := fun b => G'.hb b ∧ True } L st tmps w := by
    have := LR.heap (G' := { G' with hb := fun b => G'.hb b ∧ True }) h ⟨hle.n, hle.φ, hle.wd, hle.cv, hle.K, hle.cp⟩ (fun b hb hn o => (k.blk b hb hn).2.2 o) (fun b hb x => Classical.byContradiction fun hn => (k.blk b hb hn).2.1 x.1)
    exact this
  have hl2 : LR B0 G' L st tmps w := LR.heap h hle (fun b hb hn o => (k.blk b hb hn).2.2 o) (fun b hb x => Classical.byContradiction fun hn => (k.blk b hb hn).2.1 x)
  -- the blocks of the frame are none of the heap's
  exact {
    size := hl2.size, slot := hl2.slot, boxd := hl2.boxd, inj := hl2.inj
    box := fun l cs hl => by
      obtain ⟨cc, E, fr, a1, a2, a3⟩ := hl2.box l cs hl
      have hn := (h.boxd l ((List.getElem?_eq_some_iff.1 hl).1)).2.1
      exact ⟨cc, E, fr, k.ch_of.at_ a1 hn, k.ch_of.nf a1 hn a2, a3⟩
    row := fun rid q hq => by
      obtain ⟨a1, a2⟩ := hl2.row rid q hq
      obtain ⟨_, b2⟩ := h.row rid q hq
      refine ⟨a1, fun ho => ?_⟩
      obtain ⟨u, c1, c2⟩ := a2 ho
      obtain ⟨u', d1, d2⟩ := b2 ho
      rw [c1] at d1; cases d1
      refine ⟨u, c1, ?_⟩
      rcases c2 with c2 | ⟨b, o, cap, h1, h2, h3, h4⟩
      · exact .inl c2
      · refine .inr ⟨b, o, cap, h1, h2, h3, ?_⟩
        rcases h4 with h4 | ⟨sz, cc, E, fr, e1, e2, e3, e4, e5, e6, e7⟩
        · exact .inl h4
        · rcases d2 with ⟨d2, _⟩ | ⟨b', o', cap', g1, _, _, g4⟩
          · rw [h1] at d2; cases d2
          · rw [h1] at g1
            simp only [Value.slice.injEq, Option.some.injEq, Addr.mk.injEq, and_true, true_and] at g1
            obtain ⟨⟨rfl, rfl⟩, rfl⟩ := g1
            rcases g4 with g4 | ⟨_, _, _, _, _, _, _, _, _, _, g7⟩
            · exact .inl g4
            · exact .inr ⟨sz, cc, E, fr, e1, e2, k.ch_of.at_ e3 g7.2.2, e4, k.ch_of.nf e3 g7.2.2 e5, e6, e7⟩
    owlt := fun b rid hb => ⟨(hl2.owlt b rid hb).1, Nat.lt_of_lt_of_le (hl2.owlt b rid hb).2 k.size⟩ }
theorem Inv.call (h : Inv G0 W0 G L st H tmps w) (hle : G.le G') (hs : Sim G' H' w') (k : Fr G w G' w') : Inv G0 W0 G' L st H' tmps w' :=
  ⟨hs, h.lr.call hle k, Fr.trans (G'' := G') (w'' := w') h.fr k, h.le.trans hle⟩
end
end Go.Abs
