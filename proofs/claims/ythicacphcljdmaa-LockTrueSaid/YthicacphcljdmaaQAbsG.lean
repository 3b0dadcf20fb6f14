/- A part of the proofs over this seat. -/
import Derived.Test.YthicacphcljdmaaQAbsD
namespace Go.Abs
set_option linter.unusedVariables false
set_option linter.unusedSimpArgs false
open Go.RowKit
section
variable {G0 : Gh} {W0 : World} {G G' : Gh} {L : Lg} {st : St} {H H' : Hp} {tmps : Array Value} {a : Act} {w w' : World} {P : Program} {o : Oper}
theorem zero_info {e : TypeId} (hk : okV (zeroT P e) = true) (hw : (zeroT P e).width = sizeT P e) : ∃ i z, P.info? e = some i ∧ i.zero = some z ∧ i.size = sizeT P e ∧ z.cells.size = sizeT P e ∧ CellsR G (zeroT P e).cells z.cells.toList ∧ AR G (zeroT P e) z := by
  cases hi : P.info? e with
  | none => simp [zeroT, hi, okV] at hk
  | some i =>
    cases hz : i.zero with
    | none => simp [zeroT, hi, hz, okV] at hk
    | some z =>
      have e1 : zeroT P e = ofConst z := by simp [zeroT, hi, hz]
      have hr := (ofConst_AR (G := G) z (okV_ne (e1 ▸ hk))).cellsR (okV_tup (e1 ▸ hk))
      rw [← e1] at hr
      exact ⟨i, z, rfl, hz, by simp [sizeT, Program.cellsOf, hi], by have := hr.len; rw [← hw]; simpa [V.width] using this, hr, by rw [e1]; exact ofConst_AR z⟩
theorem replicate_cells {z : V} {us : List Value} {n sz : Nat} (hz : CellsR G z.cells us) (hs : us.length = sz) (hp : 0 < sz) : CellsR G ((List.replicate n z).flatMap V.cells) ((List.range (n * sz)).map fun k => us.getD (k % sz) undef) := by
  have hw : ∀ e ∈ List.replicate n z, e.width = sz := fun e he => by rw [List.eq_of_mem_replicate he, ← hs]; exact hz.len.symm
  have hl := flat_length hw
  rw [List.length_replicate] at hl
  refine ⟨by simp [hl], fun u hu => ?_, fun j c u hc hu => ?_⟩
  · obtain ⟨k, hk, rfl⟩ := List.mem_map.1 hu
    have h1 : k % sz < us.length := by rw [hs]; exact Nat.mod_lt _ hp
    rw [List.getD_eq_getElem?_getD, List.getElem?_eq_getElem h1]
    exact hz.one _ (List.getElem_mem h1)
  · have hj : j < n * sz := by rw [← hl]; exact (List.getElem?_eq_some_iff.1 hc).1
    have hq : (List.replicate n z)[j / sz]? = some z := by
      rw [List.getElem?_replicate, if_pos (by rw [Nat.div_lt_iff_lt_mul hp]; exact hj)]
    have h2 := flat_get hw hq (Nat.mod_lt j hp)
    rw [Nat.div_add_mod', hc] at h2
    have h1 : j % sz < us.length := by rw [hs]; exact Nat.mod_lt _ hp
    simp [hj, List.getElem?_eq_getElem h1] at hu
    subst hu
    exact hz.at_ _ c _ h2.symm (List.getElem?_eq_getElem h1)
theorem madeCells_list (z : Array Value) (n sz : Nat) (hs : z.size = sz) (hp : 0 < sz) : (madeCells z (n * sz)).toList = (List.range (n * sz)).map fun k => z.toList.getD (k % sz) undef := by
  subst hs
  simp only [madeCells, Array.toList_map, Array.toList_range]
  apply List.map_congr_left
  intro k _
  have h1 : k % z.size < z.size := Nat.mod_lt _ hp
  simp [List.getD_eq_getElem?_getD, h1]
theorem fillV_lits {size : Nat} : ∀ (parts : List (Nat × V)) (es : List V), (∀ e ∈ es, e.width = size) → (parts.all fun p => p.1 < es.length && okV p.2 && p.2.width == size) = true →
    fillV (fun i => some (i * size, size)) (es.flatMap V.cells) parts = some ((lits es parts).flatMap V.cells)
  | [], es, h, hp => rfl
  | (i, v) :: parts, es, h, hp => by
    simp only [List.all_cons, Bool.and_eq_true, decide_eq_true_eq, beq_iff_eq] at hp
    obtain ⟨⟨⟨h1, h2⟩, h3⟩, h4⟩ := hp
    have hi : es[i]? = some es[i] := List.getElem?_eq_getElem h1
    have hwi : (es[i]).cells.length = size := h _ (List.getElem_mem h1)
    have hfl := flat_length h
    have hmul : (i + 1) * size ≤ es.length * size := Nat.mul_le_mul_right _ h1
    rw [Nat.add_mul] at hmul
    have ho : overlay (es[i]).cells 0 v.cells = v.cells := by
      simp only [overlay, List.take_zero, List.nil_append, Nat.zero_add]
      rw [List.drop_eq_nil_of_le (by rw [hwi]; have : v.cells.length = size := h3; omega), List.append_nil]
    have hov := flat_overlay h (off := 0) (ns := v.cells) (e' := v) hi (by have : v.cells.length = size := h3; omega) ho.symm
    simp only [fillV]
    rw [if_neg]
    · rw [Nat.add_zero] at hov
      rw [← hov]
      have h5 : ∀ e ∈ es.set i v, e.width = size := fun e he => by
        rcases List.mem_or_eq_of_mem_set he with he | rfl
        · exact h e he
        · exact h3
      exact fillV_lits parts (es.set i v) h5 (by simpa using h4)
    · simp only [h2, h3, hfl, Bool.not_true, Bool.false_or, ne_eq, not_true_eq_false, decide_false, decide_eq_true_eq]; omega
theorem lits_width {size : Nat} : ∀ (parts : List (Nat × V)) (es : List V), (∀ e ∈ es, e.width = size) → (∀ p ∈ parts, p.2.width = size) → ∀ e ∈ lits es parts, e.width = size
  | [], es, h, _ => h
  | p :: parts, es, h, hp => lits_width parts (es.set p.1 p.2) (fun e he => by
      rcases List.mem_or_eq_of_mem_set he with he | rfl
      · exact h e he
      · exact hp p (by simp)) (fun q hq => hp q (by simp [hq]))
theorem lits_length : ∀ (parts : List (Nat × V)) (es : List V), (lits es parts).length = es.length
  | [], es => rfl
  | p :: parts, es => by
    have := lits_length parts (es.set p.1 p.2)
    rw [List.length_set] at this
    exact this
theorem buildSlice_run (h : Inv G0 W0 G L st H a.tmps w) {t e : TypeId} {len : Nat} {parts : Array (Nat × Operand)} {es : List V} (ho : o.op = .buildSlice t len parts) (hk : ixT P t = .sl e)
    (hb : buildSliceV P e len (parts.toList.map fun p => (p.1, rd st p.2)) = some es) :
    ∃ us' : Array Value, CellsR G (es.flatMap V.cells) us'.toList ∧ (∀ e' ∈ es, e'.width = sizeT P e) ∧ es.length = len ∧ (execOp a.eval o).run P w = .ok (.value (.slice (some ⟨w.heap.size, 0, none⟩) len len)) (w.alloc (.cells us' e)) := by
  unfold buildSliceV at hb
  split at hb
  · rename_i hc
    obtain ⟨c1, c2, c3, c4, c5⟩ := hc
    cases hb
    have hp := Nat.pos_of_ne_zero c1
    obtain ⟨i, z, hi, hz, hsz, hzs, hzr, _⟩ := zero_info (G := G) c3 c4
    have hw0 : ∀ e' ∈ List.replicate len (zeroT P e), e'.width = sizeT P e := fun e' he => by rw [List.eq_of_mem_replicate he]; exact c4
    have hf := fillV_lits (parts.toList.map fun p => (p.1, rd st p.2)) (List.replicate len (zeroT P e)) hw0 (by simpa using c5)
    have hr := replicate_cells (n := len) hzr (by simpa using hzs) hp
    rw [← madeCells_list z.cells len (sizeT P e) hzs hp] at hr
    obtain ⟨us', f1, f2⟩ := fill_sound (vals := (parts.map fun (i, x) => (i, a.eval x)).toList) hf hr (by simp) (parts_rel h.lr parts)
    have hwd := lits_width (parts.toList.map fun p => (p.1, rd st p.2)) _ hw0 (fun p hp => by
      have := List.all_eq_true.1 c5 p hp
      simp only [Bool.and_eq_true, beq_iff_eq] at this; exact this.2)
    have hll := lits_length (parts.toList.map fun p => (p.1, rd st p.2)) (List.replicate len (zeroT P e))
    rw [List.length_replicate] at hll
    generalize lits (List.replicate len (zeroT P e)) (parts.toList.map fun p => (p.1, rd st p.2)) = es at f2 hwd hll
    have hrun : (execOp a.eval o).run P w = .ok (.value (.slice (some ⟨w.heap.size, 0, none⟩) len len)) (w.alloc (.cells us' e)) := by
      have hrs := run_sizeOf_pos (P := P) (w := w) c1
      have c2' : ¬ 16777216 < len * P.cellsOf e := Nat.not_lt.2 c2
      have f1' : Instr.fill (fun i => some (i * P.cellsOf e, P.cellsOf e)) (madeCells z.cells (len * P.cellsOf e)) (parts.map fun (i, x) => (i, a.eval x)).toList = some us' := f1
      have hbs : (Instr.buildSlice t len (parts.map fun (i, x) => (i, a.eval x))).run P w = .ok (.slice (some ⟨w.heap.size, 0, none⟩) len len) (w.alloc (.cells us' e)) := by
        have f1'' : Instr.fill (fun i => some (i * P.cellsOf e, P.cellsOf e)) ((Array.range (len * P.cellsOf e)).map (z.cells[· % z.cells.size]!)) (parts.map fun (i, x) => (i, a.eval x)).toList = some us' := f1'
        by_cases h0 : len * P.cellsOf e = 0
        · rw [h0] at f1''
          simp only [Array.range_zero', Array.map_empty] at f1''
          simp only [Instr.buildSlice]
          simp only [Sem.run_bind, run_underlying (ixT_sl hk).1, Result.andThen_ok, hrs]
          rw [if_neg c2']
          simp [h0, Array.range_zero', f1'', Go.newRow] at f1'' ⊢
          simp [f1'']
        · simp only [Instr.buildSlice]
          simp only [Sem.run_bind, run_underlying (ixT_sl hk).1, Result.andThen_ok, hrs]
          rw [if_neg c2', if_neg h0]
          simp only [Sem.run_bind, zeroValue, typeInfo, run_program, Result.andThen_ok, hi, Sem.run_pure, hz, f1'', Go.newRow]
          simp
      simp only [execOp, ho]
      simp [hbs]
    exact ⟨us', f2, hwd, hll, hrun⟩
  · cases hb
/-- A slice's literal -/
theorem buildSlice_op (h : Inv G0 W0 G L st H a.tmps w) {t e : TypeId} {len : Nat} {parts : Array (Nat × Operand)} {es : List V} (ho : o.op = .buildSlice t len parts) (hk : ixT P t = .sl e)
    (hb : buildSliceV P e len (parts.toList.map fun p => (p.1, rd st p.2)) = some es) :
    ∃ w' u' G' L', (execOp a.eval o).run P w = .ok (.value u') w' ∧ Inv G0 W0 G' L' (frow st o.dst false es) H (a.put o.dst u').tmps w' := by
    obtain ⟨us', f2, hwd, hll, hrun⟩ := buildSlice_run h ho hk hb
    obtain ⟨K', k1, k2, k3⟩ := h.newImm us' e (heap_alloc_new w _) (Ch.alloc w (.cells us' e))
    have hv : VR { G with K := K' } (.rsl es) (.slice (some ⟨w.heap.size, 0, none⟩) es.length es.length) :=
      VR.rsl_mk hwd (f2.mono fun _ _ r => r.mono k2) (fun j u hj => by rw [Nat.zero_add]; exact k3 j u (by simpa using hj)) (Nat.le_refl _)
    have hrow : rowV false es es.length = .rsl es := by simp [rowV]
    obtain ⟨L', l1, l2⟩ := k1.frowFull (ns := false) (es := es) (u := .slice (some ⟨w.heap.size, 0, none⟩) es.length es.length) rfl (by rw [hrow]; exact hv) (.inr ⟨_, _, _, rfl, fun x => (by cases x), Nat.le_refl _, .inl rfl⟩)
    refine ⟨_, _, { G with K := K' }, L', hrun, ?_⟩
    rw [← hll]
    simp only [frow, putS_r]
    have hsl : SlotR { G with K := K' } L' st.b.length (st.r ++ [(⟨true, false, es⟩ : LRow)]).length (.v (.lr st.r.length es.length)) (.slice (some ⟨w.heap.size, 0, none⟩) es.length es.length) := ⟨by simp, l2⟩
    exact l1.put o.dst _ _ hsl
/-- A slice's literal that nothing writes to -/
theorem buildSliceI_op (h : Inv G0 W0 G L st H a.tmps w) {t e : TypeId} {len : Nat} {parts : Array (Nat × Operand)} {es : List V} (ho : o.op = .buildSlice t len parts) (hk : ixT P t = .sl e)
    (hb : buildSliceV P e len (parts.toList.map fun p => (p.1, rd st p.2)) = some es) :
    ∃ w' u' G', (execOp a.eval o).run P w = .ok (.value u') w' ∧ Inv G0 W0 G' L (putS st o.dst (.v (immV es))) H (a.put o.dst u').tmps w' := by
    obtain ⟨us', f2, hwd, hll, hrun⟩ := buildSlice_run h ho hk hb
    obtain ⟨K', k1, k2, k3⟩ := h.newImm us' e (heap_alloc_new w _) (Ch.alloc w (.cells us' e))
    have hv : VR { G with K := K' } (.rsl es) (.slice (some ⟨w.heap.size, 0, none⟩) es.length es.length) :=
      VR.rsl_mk hwd (f2.mono fun _ _ r => r.mono k2) (fun j u hj => by rw [Nat.zero_add]; exact k3 j u (by simpa using hj)) (Nat.le_refl _)
    have hv2 : SlotR { G with K := K' } L st.b.length st.r.length (.v (immV es)) (.slice (some ⟨w.heap.size, 0, none⟩) es.length es.length) := by
      cases es with
      | nil => exact VR.emp _ _
      | cons x r => exact hv
    refine ⟨_, _, { G with K := K' }, hrun, ?_⟩
    rw [← hll]
    exact k1.put o.dst _ _ hv2
/-- A slice's literal that may be written to -/
theorem buildSliceH_op (h : Inv G0 W0 G L st H a.tmps w) {t e : TypeId} {len : Nat} {parts : Array (Nat × Operand)} {es : List V} (ho : o.op = .buildSlice t len parts) (hk : ixT P t = .sl e)
    (hb : buildSliceV P e len (parts.toList.map fun p => (p.1, rd st p.2)) = some es) :
    ∃ w' u' G', (execOp a.eval o).run P w = .ok (.value u') w' ∧ Inv G0 W0 G' L (putS st o.dst (.v (.sl H.length 0 es.length))) (H ++ [.cells es]) (a.put o.dst u').tmps w' := by
  obtain ⟨us', f2, hwd, hll, hrun⟩ := buildSlice_run h ho hk hb
  have hinv := h.newBlk (y := .cells es) (wd := sizeT P e) (cp := es.length) (heap_alloc_new w (.cells us' e)) (by simp) (Ch.alloc w (.cells us' e)) (BlkOK.row (heap_alloc_new w _) hwd f2)
  refine ⟨_, _, _, hrun, hinv.put o.dst _ _ ?_⟩
  have hv := VR.sl (G := G.addBlk w.heap.size (sizeT P e) es.length) G.n 0 es.length es.length (by simp [Gh.addBlk]) (Nat.le_refl _) (by simp [Gh.addBlk])
  have hv' : VR (G.addBlk w.heap.size (sizeT P e) es.length) (.sl G.n 0 es.length) (.slice (some ⟨w.heap.size, 0, none⟩) es.length es.length) := by simpa [Gh.addBlk] using hv
  rw [h.sim.len, ← hll]
  exact hv'
theorem makeSlice_op (h : Inv G0 W0 G L st H a.tmps w) {t e : TypeId} {l c : Operand} {n : Int} (ho : o.op = .makeSlice t l c) (hk : ixT P t = .sl e) (hl : rd st l = .int .i64 n) (hc : rd st c = .int .i64 n) (h0 : 0 ≤ n) (hn : n ≤ 16777216)
    (c3 : okV (zeroT P e) = true) (c4 : (zeroT P e).width = sizeT P e) (hb : P.bytesOf e ≤ 4096) :
    ∃ w' u' G', (execOp a.eval o).run P w = .ok (.value u') w' ∧ Inv G0 W0 G' L (putS st o.dst (.v (.sl H.length 0 n.toNat))) (H ++ [.cells (List.replicate n.toNat (zeroT P e))]) (a.put o.dst u').tmps w' := by
  obtain ⟨i, z, hi, hz, hsz, hzs, hzr, _⟩ := zero_info (G := G) c3 c4
  have hp : 0 < sizeT P e := Nat.pos_of_ne_zero (ixT_sl hk).2
  have hbi : i.bytes ≤ 4096 := by simpa [Program.bytesOf, hi] using hb
  have e1 := (rd_AR h.lr l); rw [hl] at e1
  have e2 := (rd_AR h.lr c); rw [hc] at e2
  have e1' := (e1 (by simp)).int_inv
  have e2' := (e2 (by simp)).int_inv
  have hmul : (i.bytes : Int) * n ≤ 281474976710656 := by
    have h1 : (i.bytes : Int) * n ≤ 4096 * 16777216 := Int.mul_le_mul (by omega) hn h0 (by omega)
    omega
  have hrun := run_make (P := P) w t e i z (ixT_sl hk).1 hi hz .i64 .i64 n n h0 (Int.le_refl _) hmul (by omega)
  have hr := replicate_cells (n := n.toNat) hzr (by simpa using hzs) hp
  rw [← madeCells_list z.cells n.toNat (sizeT P e) hzs hp, ← hsz] at hr
  have hinv := h.newBlk (y := .cells (List.replicate n.toNat (zeroT P e))) (wd := sizeT P e) (heap_alloc_new w _) (by simp) (Ch.alloc w (.cells (madeCells z.cells (n.toNat * i.size)) e)) (BlkOK.row (es := List.replicate n.toNat (zeroT P e)) (heap_alloc_new w _) (fun e' he => by rw [List.eq_of_mem_replicate he]; exact c4) hr)
  refine ⟨w.alloc (.cells (madeCells z.cells (n.toNat * i.size)) e), .slice (some ⟨w.heap.size, 0, none⟩) n.toNat n.toNat, G.addBlk w.heap.size (sizeT P e) (List.replicate n.toNat (zeroT P e)).length, by simp [execOp, ho, e1', e2', hrun], hinv.put o.dst _ _ ?_⟩
  have hv := VR.sl (G := G.addBlk w.heap.size (sizeT P e) (List.replicate n.toNat (zeroT P e)).length) G.n 0 n.toNat n.toNat (by simp [Gh.addBlk]) (Nat.le_refl _) (by simp [Gh.addBlk])
  have hv' : VR (G.addBlk w.heap.size (sizeT P e) (List.replicate n.toNat (zeroT P e)).length) (.sl G.n 0 n.toNat) (.slice (some ⟨w.heap.size, 0, none⟩) n.toNat n.toNat) := by simpa [Gh.addBlk] using hv
  rw [h.sim.len]
  exact hv'
theorem makeMap_op (h : Inv G0 W0 G L st H a.tmps w) {t : TypeId} (ho : o.op = .makeMap t none) :
    ∃ w' u' G', (execOp a.eval o).run P w = .ok (.value u') w' ∧ Inv G0 W0 G' L (putS st o.dst (.v (.map H.length))) (H ++ [.map []]) (a.put o.dst u').tmps w' := by
  have hinv := h.newBlk (y := .map []) (wd := 0) (cp := 0) (heap_alloc_new w (.map #[] 0)) (by simp) (Ch.alloc w (.map #[] 0)) (.inr ⟨rfl, 0, rfl⟩)
  refine ⟨_, .map (some w.heap.size), _, by simp [execOp, ho, Instr.makeMap], hinv.put o.dst _ _ ?_⟩
  have hv := VR.map (G := G.addBlk w.heap.size 0 0) G.n (by simp [Gh.addBlk])
  have hv' : VR (G.addBlk w.heap.size 0 0) (.map G.n) (.map (some w.heap.size)) := by simpa [Gh.addBlk] using hv
  rw [h.sim.len]
  exact hv'
end
end Go.Abs
