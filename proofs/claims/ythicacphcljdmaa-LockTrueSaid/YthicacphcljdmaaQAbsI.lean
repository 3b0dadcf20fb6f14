/- A part of the proofs over this seat. -/
import Derived.Test.YthicacphcljdmaaQAbsH
import Derived.Lib.ConvBytes
import Derived.Lib.BufferRead
import Derived.Laws.BytesArg
namespace Go.Abs
set_option linter.unusedVariables false
set_option linter.unusedSimpArgs false
open Go.RowKit
section
variable {G0 : Gh} {W0 : World} {G G' : Gh} {L : Lg} {st : St} {H H' : Hp} {tmps : Array Value} {a : Act} {w w' : World} {P : Program} {o : Oper} {next : Act → World → Prop} {Q : Exit → Act → World → Prop}
theorem Inv.mapSet (h : Inv G0 W0 G L st H tmps w) {id cl cl' : Nat} {es es' : List (V × V)} {ms ms' : Array MapEntry} (he : H[id]? = some (.map es)) (hw : w.heap[G.φ id]? = some (.map ms cl)) (hsz : ms'.size = es'.length)
    (hm : ∀ (i : Nat) (k v : V), es'[i]? = some (k, v) → ∃ m, ms'[i]? = some m ∧ VR G k m.key ∧ keyOk k = true ∧ AR G v m.val) :
    (setObj (G.φ id) (.map ms' cl')).run P w = .ok () { w with heap := w.heap.setIfInBounds (G.φ id) (.map ms' cl') } ∧ Inv G0 W0 G L st (H.set id (.map es')) tmps { w with heap := w.heap.setIfInBounds (G.φ id) (.map ms' cl') } := by
  have hlt := lt_of_block hw
  have hidlt : id < H.length := (List.getElem?_eq_some_iff.1 he).1
  have c : Ch (fun x => x = G.φ id) w { w with heap := w.heap.setIfInBounds (G.φ id) (.map ms' cl') } := ⟨rfl, rfl, rfl, by simp, fun b hb hn => by
    show (w.heap.setIfInBounds _ _)[b]? = _
    rw [Array.getElem?_setIfInBounds_ne (fun e => hn e.symm)]⟩
  have hnew : ({ w with heap := w.heap.setIfInBounds (G.φ id) (.map ms' cl') } : World).heap[G.φ id]? = some (.map ms' cl') := by
    show (w.heap.setIfInBounds _ _)[G.φ id]? = _
    rw [Array.getElem?_setIfInBounds_self_of_lt hlt]
  obtain ⟨hb1, hb2, hb3⟩ := h.sim.hb id _ he rfl
  have old : ∀ {k : Nat} {x : Blk}, (H.set id (.map es'))[k]? = some x → (k = id ∧ x = .map es') ∨ (k ≠ id ∧ H[k]? = some x) := fun {k x} hk => by
    rw [List.getElem?_set] at hk
    split at hk
    · rename_i e1; subst e1; simp [hidlt] at hk; exact .inl ⟨rfl, hk.symm⟩
    · rename_i e1; exact .inr ⟨fun e2 => e1 e2.symm, hk⟩
  have live : ∀ {k : Nat} {x : Blk}, (H.set id (.map es'))[k]? = some x → x.live = true → ∃ z, H[k]? = some z ∧ z.live = true := fun {k x} hk hl => by
    rcases old hk with ⟨rfl, rfl⟩ | ⟨_, h1⟩
    · exact ⟨_, he, rfl⟩
    · exact ⟨x, h1, hl⟩
  refine ⟨by simp [setObj, Sem.run, hw], {
    sim := {
      len := by simp [h.sim.len]
      K := fun b o v hk => by
        have hb : b ≠ G.φ id := by rintro rfl; rw [hb3 o] at hk; cases hk
        rw [World.cell?_of_block (w := w) (a := ⟨b, o, none⟩) (c.blk b (h.sim.lt_of_K hk) hb)]; exact h.sim.K b o v hk
      cells := fun k es2 hk => by
        rcases old hk with ⟨rfl, e1⟩ | ⟨hne, h1⟩
        · cases e1
        · obtain ⟨c2, E2, f2, e1, e2, e3, e4⟩ := h.sim.cells k es2 h1
          have hne2 : G.φ k ≠ G.φ id := fun e5 => hne (h.sim.inj k id _ _ h1 he rfl rfl e5)
          exact ⟨c2, E2, f2, c.at_ e1 hne2, c.nf e1 hne2 e2, e3, e4⟩
      map := fun k es2 hk => by
        rcases old hk with ⟨rfl, e1⟩ | ⟨hne, h1⟩
        · cases e1; exact ⟨ms', cl', hnew, hsz, hm⟩
        · obtain ⟨m2, c2, e1, e2⟩ := h.sim.map k es2 h1
          have hne2 : G.φ k ≠ G.φ id := fun e5 => hne (h.sim.inj k id _ _ h1 he rfl rfl e5)
          exact ⟨m2, c2, c.at_ e1 hne2, e2⟩
      row := fun k ns2 es2 hk => by
        rcases old hk with ⟨rfl, e1⟩ | ⟨hne, h1⟩
        · cases e1
        · obtain ⟨e1, v, e2, e3⟩ := h.sim.row k ns2 es2 h1
          exact ⟨e1, v, e2, e3.ch c fun b hb e => by have := hb.1; rw [e, hb2] at this; cases this⟩
      inj := fun k k' x y hk hk' lx ly he2 => by
        obtain ⟨z, z1, z2⟩ := live hk lx
        obtain ⟨z', z3, z4⟩ := live hk' ly
        exact h.sim.inj k k' z z' z1 z3 z2 z4 he2
      hb := fun k x hk lx => by
        obtain ⟨z, z1, z2⟩ := live hk lx
        exact h.sim.hb k z z1 z2
      cvn := h.sim.cvn
      hblt := fun b hb => Nat.lt_of_lt_of_le (h.sim.hblt b hb) c.size
      owhb := h.sim.owhb }
    lr := h.lr.ch c (fun b _ hn e => hn (e ▸ hb1))
    fr := h.fr.ch c (fun b _ hn e => hn (e ▸ hb1))
    le := h.le }⟩
theorem keyT_ok {kt : TypeId} {k : V} (h : keyT P kt k = true) : keyOk k = true := by
  unfold keyT at h
  split at h <;> first | rfl | cases h
theorem mapUpdate_run (h : Inv G0 W0 G L st H tmps w) {t : TypeId} {m k x : V} {um uk ux : Value} {H' : Hp} (hm : AR G m um) (hk : AR G k uk) (hx : AR G x ux) (hu : mapUpdateOp P H t m k x = some H') :
    ∃ w', (Instr.mapUpdate t um uk ux).run P w = .ok () w' ∧ Inv G0 W0 G L st H' tmps w' := by
  unfold mapUpdateOp at hu
  split at hu
  · rename_i kt e hkt
    have ht := ixT_map hkt
    split at hu
    · rename_i hc
      obtain ⟨d, d1, d2, d3, d4⟩ := keyT_run (P := P) (w := w) hc hk
      split at hu
      · rename_i id
        cases hm (by simp)
        split at hu
        · rename_i es he
          obtain ⟨ms, cl, a1, a2, a3⟩ := h.sim.map id es he
          have hrel : ∀ (i : Nat) (k2 v2 : V), es[i]? = some (k2, v2) → ∃ m, ms.toList[i]? = some m ∧ VR G k2 m.key := fun i k2 v2 h2 => by
            obtain ⟨m, m1, m2, _⟩ := a3 i k2 v2 h2; exact ⟨m, by simpa using m1, m2⟩
          have hget : (getObj (G.φ id)).run P w = .ok (.map ms cl) w := by simp [getObj, Sem.run, a1]
          have hkv : VR G k uk := hk (by rintro rfl; unfold keyT at hc; split at hc <;> simp_all)
          split at hu
          · rename_i j hf
            cases hu
            obtain ⟨_, f2⟩ := findK_run d3 es ms.toList 0 (some j) (by simpa using a2) hrel hf
            obtain ⟨_, m0, m1, m2, m3⟩ := f2 j rfl
            have m1' : ms[j]? = some m0 := by simpa using m1
            have hj : j < es.length := by have := (Array.getElem?_eq_some_iff.1 m1').1; omega
            have hfk := findKey_run (P := P) (w := w) d1 m2
            obtain ⟨s1, s2⟩ := h.mapSet (P := P) (cl' := cl) (es' := es.set j (k, x)) (ms' := ms.modify j fun e => { e with key := uk, val := ux }) he a1 (by simp [a2]) (fun i k2 v2 hi => by
              rw [List.getElem?_set] at hi
              rw [Array.getElem?_modify]
              split at hi
              · rename_i e1
                subst e1
                simp [hj] at hi
                obtain ⟨rfl, rfl⟩ := hi
                exact ⟨{ m0 with key := uk, val := ux }, by simp [m1'], hkv, keyT_ok hc, hx⟩
              · rename_i e1
                obtain ⟨m5, n1, n2⟩ := a3 i k2 v2 hi
                exact ⟨m5, by rw [if_neg e1]; exact n1, n2⟩)
            refine ⟨_, ?_, s2⟩
            have hkeep : (Instr.keyThatStays m0.key uk).run P w = .ok uk w := by
              simp only [Instr.keyThatStays]
              rw [if_pos (d4 9999 m0.key m3)]
              rfl
            simp [Instr.mapUpdate, run_underlying ht, hget, d2, hfk, m1', hkeep, s1]
          · rename_i hf
            cases hu
            obtain ⟨f1, _⟩ := findK_run d3 es ms.toList 0 none (by simpa using a2) hrel hf
            have hfk := findKey_run (P := P) (w := w) d1 (f1 rfl)
            obtain ⟨s1, s2⟩ := h.mapSet (P := P) (cl' := cl + 1) (es' := es ++ [(k, x)]) (ms' := ms.push { key := uk, val := ux, born := cl }) he a1 (by simp [a2]) (fun i k2 v2 hi => by
              rw [List.getElem?_append] at hi
              rw [Array.getElem?_push]
              split at hi
              · rename_i e1
                obtain ⟨m5, n1, n2⟩ := a3 i k2 v2 hi
                exact ⟨m5, by rw [if_neg (by omega)]; exact n1, n2⟩
              · rename_i e1
                have hi2 : i = ms.size := by
                  have := (List.getElem?_eq_some_iff.1 hi).1; simp at this; omega
                subst hi2
                rw [a2] at hi
                simp at hi
                obtain ⟨rfl, rfl⟩ := hi
                exact ⟨_, by rw [if_pos rfl], hkv, keyT_ok hc, hx⟩)
            refine ⟨_, ?_, s2⟩
            simp [Instr.mapUpdate, run_underlying ht, hget, d2, hfk, s1]
          · cases hu
        · cases hu
      · cases hu
    · cases hu
  · cases hu
/-- The built-in clear over a slice -/
theorem clear_op (h : Inv G0 W0 G L st H a.tmps w) {c : Call} {m : Operand} {t : TypeId} {H' : Hp} (ho : o.op = .call c) (hc : c.callee = .builtin .clear) (ha : c.args.toList = [m]) (hat : c.argTypes.toList = [t])
    (hr : clearOp P H t (rd st m) = some H') : ∃ w', (execOp a.eval o).run P w = .ok (.value (.tuple #[])) w' ∧ Inv G0 W0 G L (putS st o.dst (.v (.tup []))) H' (a.put o.dst (.tuple #[])).tmps w' := by
  have hargs : c.args = #[m] := by rw [← Array.toArray_toList (xs := c.args), ha]
  have hats : c.argTypes = #[t] := by rw [← Array.toArray_toList (xs := c.argTypes), hat]
  have hexec : ∀ {u' : Value} {w' : World}, (Builtin.clear_ #[t] o.type #[a.eval m]).run P w = .ok u' w' → (execOp a.eval o).run P w = .ok (.value u') w' := fun hr => by
    simp [execOp, ho, hc, hargs, hats, resolve, invoke, builtin, hr]
  have hM := rd_AR h.lr m
  have hz : ∀ {G : Gh} {L : Lg} {nb nr : Nat}, SlotR G L nb nr (.v (.tup [])) (.tuple #[]) := fun {G L nb nr} => VR.tup [] #[] rfl (fun j c u hc => by simp at hc)
  generalize hum : a.eval m = um at hM hexec
  unfold clearOp at hr
  split at hr
  · rename_i e hk
    have ht := (ixT_sl hk).1
    split at hr
    · rename_i hx
      cases hr
      rw [hx] at hM
      obtain rfl := (hM (by simp)).nils_inv
      exact ⟨w, hexec (by simp [Builtin.clear_, run_underlying ht]), h.put o.dst _ _ hz⟩
    · rename_i id lo len hx
      rw [hx] at hM
      split at hr
      · rename_i es he
        split at hr
        · rename_i hcc
          obtain ⟨c1, c2, c3⟩ := hcc
          cases hr
          have hw := wideAll_iff.1 c2
          cases hM (by simp) with
          | sl _ _ _ cap hid hcap hcp =>
            cases len with
            | zero =>
              have hset : H.set id (.cells (overlay es lo (List.replicate 0 (zeroT P e)))) = H := by
                have h1 := (List.getElem?_eq_some_iff.1 he).1
                have h2 : H[id] = .cells es := by rw [List.getElem?_eq_getElem h1] at he; exact Option.some.inj he
                simp [overlay, ← h2]
              rw [hset]
              exact ⟨w, hexec (by simp [Builtin.clear_, run_underlying ht]), h.put o.dst _ _ hz⟩
            | succ n =>
              obtain ⟨i, z, hE⟩ := elemOk_iff (G := G) c3
              have hne : es ≠ [] := by rintro rfl; simp at c1
              obtain ⟨cc0, E0, fr0, q1, q2, q3, _⟩ := h.sim.cells id es he
              have hwd : G.wd id = sizeT P e := by
                obtain ⟨y, hy⟩ := List.exists_mem_of_ne_nil _ hne
                rw [← q3 y hy, hw y hy]
              have hrc := replicate_cells (n := n + 1) hE.zr (by simpa using hE.zs) hE.pos
              have hzw : ∀ y ∈ List.replicate (n + 1) (zeroT P e), y.width = sizeT P e := fun y hy => by
                rw [List.eq_of_mem_replicate hy, ← hE.zs]; have := hE.zr.len; simpa [V.width] using this.symm
              have hzl : ((List.replicate (n + 1) (zeroT P e)).flatMap V.cells).length = (n + 1) * sizeT P e := by rw [flat_length hzw, List.length_replicate]
              have hle : (lo + (n + 1)) * sizeT P e ≤ es.length * sizeT P e := Nat.mul_le_mul_right _ c1
              rw [Nat.add_mul] at hle
              have hov := flat_overlayL q3 lo (List.replicate (n + 1) (zeroT P e)) (fun y hy => by rw [hwd]; exact hzw y hy) (by rw [List.length_replicate]; exact c1)
              obtain ⟨cc, E, fr, b1, b2, b3, b4⟩ := h.heapCells (off := lo * G.wd id) (es' := overlay es lo (List.replicate (n + 1) (zeroT P e))) he hrc (by rw [hzl, hwd]; exact hle) (overlay_length (by rw [List.length_replicate]; exact c1)) (fun y hy => (overlay_mem hy).elim (q3 y) (fun hy => by rw [hwd]; exact hzw y hy)) hov
              have hzc : (Builtin.zeroCells z.cells (n + 1)).toList = (List.range ((n + 1) * sizeT P e)).map fun k => z.cells.toList.getD (k % sizeT P e) undef := by
                have := madeCells_list z.cells (n + 1) (sizeT P e) hE.zs hE.pos
                rw [← this]
                simp [Builtin.zeroCells, madeCells, hE.zs]
              have hone : ∀ v ∈ (List.range ((n + 1) * sizeT P e)).map (fun k => z.cells.toList.getD (k % sizeT P e) undef), v.oneCell' = true := fun v hv => hrc.one v hv
              have hst := storeCells_run (P := P) b1 b2 b3 hone
              clear hone hrc hov
              generalize ((List.range ((n + 1) * sizeT P e)).map fun k => z.cells.toList.getD (k % sizeT P e) undef) = vs at hzc hst b3 b4 ⊢
              have hzv : (zeroValue e).run P w = .ok z w := by simp [zeroValue, typeInfo, hE.info, hE.zero]
              refine ⟨_, hexec ?_, b4.put o.dst _ _ hz⟩
              simp [Builtin.clear_, run_underlying ht, hzv, hzc, hst]
        · cases hr
      · cases hr
    · cases hr
  · cases hr
theorem delete_op (h : Inv G0 W0 G L st H a.tmps w) {c : Call} {m k : Operand} {t tk : TypeId} {H' : Hp} (ho : o.op = .call c) (hc : c.callee = .builtin .delete) (ha : c.args.toList = [m, k]) (hat : c.argTypes.toList = [t, tk])
    (hr : deleteOp P H t (rd st m) (rd st k) = some H') : ∃ w', (execOp a.eval o).run P w = .ok (.value (.tuple #[])) w' ∧ Inv G0 W0 G L (putS st o.dst (.v (.tup []))) H' (a.put o.dst (.tuple #[])).tmps w' := by
  have hargs : c.args = #[m, k] := by rw [← Array.toArray_toList (xs := c.args), ha]
  have hats : c.argTypes = #[t, tk] := by rw [← Array.toArray_toList (xs := c.argTypes), hat]
  have hexec : ∀ {u' : Value} {w' : World}, (Builtin.delete_ #[t, tk] o.type #[a.eval m, a.eval k]).run P w = .ok u' w' → (execOp a.eval o).run P w = .ok (.value u') w' := fun hr => by
    simp [execOp, ho, hc, hargs, hats, resolve, invoke, builtin, hr]
  have hM := rd_AR h.lr m
  have hK := rd_AR h.lr k
  have hz : ∀ {G : Gh} {L : Lg} {nb nr : Nat}, SlotR G L nb nr (.v (.tup [])) (.tuple #[]) := fun {G L nb nr} => VR.tup [] #[] rfl (fun j c u hc => by simp at hc)
  generalize hum : a.eval m = um at hM hexec
  generalize huk : a.eval k = uk at hK hexec
  unfold deleteOp at hr
  split at hr
  · rename_i kt e hkt
    have ht := ixT_map hkt
    split at hr
    · rename_i hkk
      obtain ⟨d, d1, d2, d3, d4⟩ := keyT_run (P := P) (w := w) hkk hK
      split at hr
      · rename_i id hx
        rw [hx] at hM
        cases hM (by simp)
        split at hr
        · rename_i es he
          obtain ⟨ms, cl, a1, a2, a3⟩ := h.sim.map id es he
          have hrel : ∀ (i : Nat) (k2 v2 : V), es[i]? = some (k2, v2) → ∃ m, ms.toList[i]? = some m ∧ VR G k2 m.key := fun i k2 v2 h2 => by
            obtain ⟨m, m1, m2, _⟩ := a3 i k2 v2 h2; exact ⟨m, by simpa using m1, m2⟩
          have hget : (getObj (G.φ id)).run P w = .ok (.map ms cl) w := by simp [getObj, Sem.run, a1]
          split at hr
          · rename_i j hf
            cases hr
            obtain ⟨_, f2⟩ := findK_run d3 es ms.toList 0 (some j) (by simpa using a2) hrel hf
            obtain ⟨_, m0, m1, m2, m3⟩ := f2 j rfl
            have m1' : ms[j]? = some m0 := by simpa using m1
            have hj : j < ms.size := (Array.getElem?_eq_some_iff.1 m1').1
            have hfk := findKey_run (P := P) (w := w) d1 m2
            have hers : (ms.eraseIdxIfInBounds j).toList = ms.toList.eraseIdx j := by
              simp [Array.eraseIdxIfInBounds, hj]
            obtain ⟨s1, s2⟩ := h.mapSet (P := P) (cl' := cl) (es' := es.eraseIdx j) (ms' := ms.eraseIdxIfInBounds j) he a1 (by
              have e9 : ms.toList.length = es.length := by simpa using a2
              rw [← Array.length_toList, hers, List.length_eraseIdx, List.length_eraseIdx, e9]) (fun i k2 v2 hi => by
              rw [List.getElem?_eraseIdx] at hi
              have e0 : (ms.eraseIdxIfInBounds j)[i]? = (ms.toList.eraseIdx j)[i]? := by rw [← Array.getElem?_toList, hers]
              rw [e0, List.getElem?_eraseIdx]
              split at hi
              · rename_i hlt
                obtain ⟨m5, n1, n2⟩ := a3 i k2 v2 hi
                exact ⟨m5, by rw [if_pos hlt]; simpa using n1, n2⟩
              · rename_i hlt
                obtain ⟨m5, n1, n2⟩ := a3 (i + 1) k2 v2 hi
                exact ⟨m5, by rw [if_neg hlt]; simpa using n1, n2⟩)
            refine ⟨_, hexec (u' := .tuple #[]) ?_, s2.put o.dst _ _ hz⟩
            simp [Builtin.delete_, run_underlying ht, hget, d2, hfk, s1]
          · rename_i hf
            cases hr
            obtain ⟨f1, _⟩ := findK_run d3 es ms.toList 0 none (by simpa using a2) hrel hf
            have hfk := findKey_run (P := P) (w := w) d1 (f1 rfl)
            obtain ⟨s1, s2⟩ := h.mapSet (P := P) (cl' := cl) (es' := es) (ms' := ms) he a1 a2 a3
            have hset : H.set id (.map es) = H := by
              apply List.ext_getElem?
              intro i
              rw [List.getElem?_set]
              split
              · rename_i e; subst e; rw [he]; simp [(List.getElem?_eq_some_iff.1 he).1]
              · rfl
            rw [hset] at s2
            refine ⟨_, hexec (u' := .tuple #[]) ?_, s2.put o.dst _ _ hz⟩
            simp [Builtin.delete_, run_underlying ht, hget, d2, hfk, s1]
          · cases hr
        · cases hr
      · rename_i hx
        rw [hx] at hM
        cases hM (by simp)
        cases hr
        refine ⟨w, hexec (u' := .tuple #[]) ?_, h.put o.dst _ _ hz⟩
        simp [Builtin.delete_, run_underlying ht, d2]
      · cases hr
    · cases hr
  · cases hr
/-- What a slice's value holds -/
theorem cont_sound (h : Sim G H w) {y : V} {u : Value} {xs : List V} (hs : contV H y = some xs) (hy : AR G y u) (hw : ∀ e ∈ xs, e.width = 1) :
    u = .slice none 0 0 ∧ xs = [] ∨ ∃ a cap us, u = .slice (some a) xs.length cap ∧ us.length = xs.length ∧ CellsR G (xs.flatMap V.cells) us ∧ ∀ (j : Nat) (v : Value), us[j]? = some v → w.cell? (a.add j) = some v := by
  have hv := view_AR h hy
  unfold contV at hs
  split at hs
  · rename_i hvw
    cases hs
    rw [hvw] at hv
    exact .inl ⟨(hv (by simp)).nils_inv, rfl⟩
  · rename_i row hvw
    cases hs
    rw [hvw] at hv
    rcases (hv (by simp)).rsl_inv with ⟨a', cap', rfl, rfl⟩ | ⟨b, o, sz, cap, f, rfl, h1, h2, h3, h4, h5⟩
    · exact .inr ⟨a', cap', [], rfl, rfl, CellsP.nil, fun j v hj => by simp at hj⟩
    by_cases hr : xs = []
    · subst hr
      exact .inr ⟨_, cap, [], rfl, rfl, CellsP.nil, fun j v hj => by simp at hj⟩
    · obtain ⟨e0, he0⟩ := List.exists_mem_of_ne_nil _ hr
      obtain ⟨i0, hi0, rfl⟩ := List.getElem_of_mem he0
      have : sz = 1 := by rw [← h1 i0 _ (List.getElem?_eq_getElem hi0), hw _ he0]
      subst this
      obtain ⟨us, u1, u2, u3⟩ := row_cells h h1 h2 h3 h4 (by omega)
      exact .inr ⟨_, cap, us, rfl, by rw [u1, Nat.mul_one], u2, fun j v hj => by rw [Addr.add_lit]; exact h.K _ _ _ (u3 j v hj)⟩
  · rename_i id lo len hvw
    rw [hvw] at hv
    obtain ⟨b, o, cap, news, rfl, s1, s2, s3, s4⟩ := slCont_sound h hs (hv (by simp))
    refine .inr ⟨⟨b, o, none⟩, cap, news, by rw [s1], by rw [s2.len, flat_length hw, Nat.mul_one], s2, fun j v hj => ?_⟩
    rw [Addr.add_lit]; exact s3 j v hj
  · cases hs
theorem bytesOf_rel : ∀ {row : List V} {bs : List UInt8}, bytesOf row = some bs → ∃ ns : List Int, row = ns.map (V.int .u8) ∧ bs = ns.map fun n => UInt8.ofNat n.toNat
  | [], bs, h => by cases h; exact ⟨[], rfl, rfl⟩
  | v :: vs, bs, h => by
    simp only [bytesOf] at h
    obtain ⟨b, h1, h2⟩ := Option.bind_eq_some_iff.1 h
    obtain ⟨bs', h3, rfl⟩ := Option.map_eq_some_iff.1 h2
    obtain ⟨ns, rfl, rfl⟩ := bytesOf_rel h3
    unfold byteOf at h1
    split at h1
    · rename_i n; cases h1; exact ⟨n :: ns, rfl, rfl⟩
    · cases h1
theorem ints_cells {k : IntKind} : ∀ {ns : List Int} {us : List Value}, CellsR G ((ns.map (V.int k)).flatMap V.cells) us → us = ns.map (Value.int k) := fun {ns us} h => by
  have hf : (ns.map (V.int k)).flatMap V.cells = ns.map (V.int k) := by
    clear h
    induction ns with
    | nil => rfl
    | cons x xs ih => simp only [List.map_cons, List.flatMap_cons, ih]; rfl
  rw [hf] at h
  apply List.ext_getElem?
  intro j
  by_cases hj : j < ns.length
  · have h1 : (ns.map (V.int k))[j]? = some (.int k ns[j]) := by simp [hj]
    obtain ⟨u, h2, _, h3⟩ := h.get h1
    rw [h2, (h3 (by simp)).int_inv]
    simp [hj]
  · have := h.len
    simp at this
    rw [List.getElem?_eq_none (by omega), List.getElem?_eq_none (by simp; omega)]
theorem bytesWorld_ch (w : World) (e : TypeId) (s : ByteArray) : Ch (fun _ => False) w (Lib.bytesWorld w e s) :=
  ⟨rfl, rfl, rfl, by rw [Lib.bytesWorld_size]; omega, fun b hb _ => Lib.bytesWorld_at_old w e s b hb⟩
theorem bytesWorld_nf (w : World) (e : TypeId) (s : ByteArray) : NF (Lib.bytesWorld w e s) w.heap.size (Lib.bytesCells w e s).size := fun j hj => by
  simp only [World.frozen?, Lib.bytesWorld_at_new]
  simp; omega
theorem bytesV_cells (s : ByteArray) : (bytesV s).flatMap V.cells = bytesV s := by
  unfold bytesV
  generalize s.data.toList = l
  induction l with
  | nil => rfl
  | cons x xs ih => simp only [List.map_cons, List.flatMap_cons, ih]; rfl
theorem bytesV_pre (w : World) (e : TypeId) (s : ByteArray) : PreR G ((bytesV s).flatMap V.cells) (Lib.bytesCells w e s).toList := by
  rw [bytesV_cells]
  refine ⟨s.data.toList.map fun b => Value.int .u8 b.toNat, List.replicate (grownCap w s.size 0 e - s.size) (.int .u8 0), by simp [Lib.bytesCells], ⟨by simp [bytesV], fun u hu => ?_, fun j c u hc hu => ?_⟩⟩
  · obtain ⟨x, _, rfl⟩ := List.mem_map.1 hu; rfl
  · simp only [bytesV, byteV, List.getElem?_map] at hc hu
    cases hx : s.data.toList[j]? with
    | none => rw [hx] at hc; cases hc
    | some x => rw [hx] at hc hu; cases hc; cases hu; exact fun _ => .int _ _
theorem bytesV_width (s : ByteArray) : ∀ x ∈ bytesV s, x.width = 1 := fun x hx => by
  obtain ⟨b, _, rfl⟩ := List.mem_map.1 hx; rfl
theorem bytesV_length (s : ByteArray) : (bytesV s).length = s.size := by
  unfold bytesV; rw [List.length_map, Array.length_toList]; rfl
/-- A mark behind a row of the heap -/
theorem Inv.markHeap (h : Inv G0 W0 G L st H tmps w) {id : Nat} {es : List V} {cc : Array Value} {E : TypeId} {fr fr' : Nat × Nat} (he : H[id]? = some (.cells es)) (hw : w.heap[G.φ id]? = some (.cells cc E fr)) (hw' : w'.heap[G.φ id]? = some (.cells cc E fr'))
    (hfr : ∀ j, j < cc.size → ¬ (fr'.1 ≤ j ∧ j < fr'.2)) (hle : fr'.1 ≤ fr'.2) (c : Ch (fun x => x = G.φ id) w w') : Inv G0 W0 G L st H tmps w' := by
  obtain ⟨hb1, hb2, hb3⟩ := h.sim.hb id _ he rfl
  exact {
    sim := {
      len := h.sim.len
      K := fun b o v hk => by
        have hb : b ≠ G.φ id := by rintro rfl; rw [hb3 o] at hk; cases hk
        rw [World.cell?_of_block (w := w) (a := ⟨b, o, none⟩) (c.blk b (h.sim.lt_of_K hk) hb)]; exact h.sim.K b o v hk
      cells := fun k es2 hk => by
        obtain ⟨c2, E2, f2, e1, e2, e3, e4, e5, e6, e7⟩ := h.sim.cells k es2 hk
        by_cases hne : k = id
        · subst hne
          rw [hw] at e1
          cases e1
          exact ⟨cc, E, fr', hw', fun j hj => by
            have := hfr j hj
            simp only [World.frozen?, hw']
            simp only [Bool.and_eq_false_iff, decide_eq_false_iff_not]
            omega, e3, e4, e5, e6, hle⟩
        · have hne2 : G.φ k ≠ G.φ id := fun e5 => hne (h.sim.inj k id _ _ hk he rfl rfl e5)
          exact ⟨c2, E2, f2, c.at_ e1 hne2, c.nf e1 hne2 e2, e3, e4, e5, e6, e7⟩
      map := fun k es2 hk => by
        obtain ⟨ms, cl, e1, e2⟩ := h.sim.map k es2 hk
        have hne2 : G.φ k ≠ G.φ id := fun e5 => by
          have := h.sim.inj k id _ _ hk he rfl rfl e5
          subst this
          rw [hk] at he; cases he
        exact ⟨ms, cl, c.at_ e1 hne2, e2⟩
      row := fun k ns2 es2 hk => by
        obtain ⟨e1, v, e2, e3⟩ := h.sim.row k ns2 es2 hk
        exact ⟨e1, v, e2, e3.ch c fun b hb e => by have := hb.1; rw [e, hb2] at this; cases this⟩
      inj := h.sim.inj
      hb := h.sim.hb
      cvn := h.sim.cvn
      hblt := fun b hb => Nat.lt_of_lt_of_le (h.sim.hblt b hb) c.size
      owhb := h.sim.owhb }
    lr := h.lr.ch c (fun b _ hn e => hn (e ▸ hb1))
    fr := h.fr.ch c (fun b _ hn e => hn (e ▸ hb1))
    le := h.le }
theorem convert_op (h : Inv G0 W0 G L st H a.tmps w) {src dst : TypeId} {x : Operand} {m : Mode} {st' : St} {H' : Hp} (ho : o.op = .convert src dst x) (hc : convertOp P m st H o.dst src dst (rd st x) = some (st', H')) :
    ∃ u w' G' L', (execOp a.eval o).run P w = .ok (.value u) w' ∧ Inv G0 W0 G' L' st' H' (a.put o.dst u).tmps w' := by
  have hX := rd_AR h.lr x
  generalize hv : a.eval x = v at hX
  unfold convertOp at hc
  split at hc
  · rename_i k hk
    split at hc
    · rename_i k3 k2 n hk3 hx
      rw [hx] at hX
      obtain rfl := (hX (by simp)).int_inv
      cases hc
      have h1 := tk_int hk
      have h2 := tk_int hk3
      refine ⟨.int k (k.wrap n), w, G, L, ?_, h.put o.dst _ _ (VR.int _ _)⟩
      simp only [execOp, ho, hv]
      simp [convert, run_underlying h1, run_underlying h2, Conv.intToInt]
    · cases hc
  · rename_i hk
    have h1 := tk_str hk
    split at hc
    · rename_i hk3
      have h2 := tk_str hk3
      split at hc
      · rename_i s hx
        rw [hx] at hX
        obtain rfl := (hX (by simp)).str_inv
        cases hc
        refine ⟨.string s, w, G, L, ?_, h.put o.dst _ _ (VR.str _)⟩
        simp only [execOp, ho, hv]
        simp [convert, run_underlying h1, run_underlying h2]
      · cases hc
    · rename_i e hk3
      have h2 := tk_slice hk3
      split at hc
      · rename_i hke
        have h3 := tk_int hke
        obtain ⟨row, g1, g2⟩ := Option.bind_eq_some_iff.1 hc
        obtain ⟨s, g3, g4⟩ := Option.map_eq_some_iff.1 g2
        cases g4
        obtain ⟨bs, g5, rfl⟩ := Option.map_eq_some_iff.1 g3
        obtain ⟨ns, rfl, rfl⟩ := bytesOf_rel g5
        have hw1 : ∀ e ∈ ns.map (V.int .u8), e.width = 1 := fun e he => by obtain ⟨n, _, rfl⟩ := List.mem_map.1 he; rfl
        rcases cont_sound h.sim g1 hX hw1 with ⟨rfl, hnil⟩ | ⟨ad, cap, us, rfl, hl, hcr, hcell⟩
        · have hns : ns = [] := by simpa using hnil
          subst hns
          refine ⟨.string ⟨#[]⟩, w, G, L, ?_, h.put o.dst _ _ (VR.str _)⟩
          simp only [execOp, ho, hv]
          have := Lib.run_convert_nil_bytes (P := P) w src dst e 0 h2 h3 h1
          simp [this]
        · have hus := ints_cells hcr
          subst hus
          have hload : (Go.loadCells ad ns.length).run P w = .ok (ns.map (Value.int .u8)).toArray w := by
            have := run_loadCells_list (P := P) w ad (ns.map (Value.int .u8)) hcell
            simpa using this
          have hrun : (convert src dst (.slice (some ad) ns.length cap)).run P w = .ok (.string ⟨(ns.map fun n => UInt8.ofNat n.toNat).toArray⟩) w := by
            rw [run_convert_bytes_string w src dst e _ ns.length cap h2 h3 h1, run_bytesToString w ad ns.length cap ns hload, foldl_push_bytes]
            simp
          refine ⟨.string ⟨(ns.map fun n => UInt8.ofNat n.toNat).toArray⟩, w, G, L, ?_, h.put o.dst (.v (.str ⟨(ns.map fun n => UInt8.ofNat n.toNat).toArray⟩)) _ (VR.str _)⟩
          simp only [execOp, ho, hv]
          simp only [List.length_map]
          simp [hrun]
      · cases hc
    · cases hc
  · rename_i e hk
    have h1 := tk_slice hk
    split at hc
    · rename_i hke
      have h3 := tk_int hke
      split at hc
      · rename_i s hk3 hx
        have h2 := tk_str hk3
        rw [hx] at hX
        obtain rfl := (hX (by simp)).str_inv
        have hrun := Lib.run_convert_string_bytes (P := P) w src dst e s h2 h1 h3
        have hexec : (execOp a.eval o).run P w = .ok (.value (.slice (some ⟨w.heap.size, 0, none⟩) s.size (grownCap w s.size 0 e))) (Lib.bytesWorld w e s) := by
          simp only [execOp, ho, hv]
          simp [hrun]
        have hge := grownCap_ge w s.size 0 e
        have hsz : (Lib.bytesCells w e s).size = grownCap w s.size 0 e := by
          have : s.data.size = s.size := rfl
          simp [Lib.bytesCells, this]; omega
        split at hc
        · cases hc
          have hinv := h.newBlk (y := .cells (bytesV s)) (wd := 1) (cp := grownCap w s.size 0 e) (Lib.bytesWorld_at_new w e s) (by rw [Lib.bytesWorld_size]; omega) (bytesWorld_ch w e s) (.inl ⟨_, _, e, _, rfl, rfl, bytesWorld_nf w e s, bytesV_width s, bytesV_pre w e s, by rw [bytesV_length]; exact hge, by rw [hsz]; omega, by simp⟩)
          refine ⟨_, _, _, L, hexec, hinv.put o.dst _ _ ?_⟩
          have hvr := VR.sl (G := G.addBlk w.heap.size 1 (grownCap w s.size 0 e)) G.n 0 s.size (grownCap w s.size 0 e) (by simp [Gh.addBlk]) hge (by simp [Gh.addBlk])
          have hvr' : VR (G.addBlk w.heap.size 1 (grownCap w s.size 0 e)) (.sl G.n 0 s.size) (.slice (some ⟨w.heap.size, 0, none⟩) s.size (grownCap w s.size 0 e)) := by simpa [Gh.addBlk] using hvr
          rw [h.sim.len]; exact hvr'
        · cases hc
          obtain ⟨K', k1, k2, k3⟩ := h.newImm (Lib.bytesCells w e s) e (Lib.bytesWorld_at_new w e s) (bytesWorld_ch w e s)
          refine ⟨_, _, _, L, hexec, k1.put o.dst _ _ ?_⟩
          obtain ⟨u1, u2, e1, e2⟩ := bytesV_pre (G := { G with K := K' }) w e s
          have hvr := VR.rsl_mk (G := { G with K := K' }) (row := bytesV s) (b := w.heap.size) (o := 0) (sz := 1) (cap := grownCap w s.size 0 e) (us := u1) (bytesV_width s) e2 (fun j u hj => by
            rw [Nat.zero_add]
            refine k3 j u ?_
            have : (Lib.bytesCells w e s).toList[j]? = some u := by rw [e1, List.getElem?_append_left ((List.getElem?_eq_some_iff.1 hj).1)]; exact hj
            simpa using this) (by rw [bytesV_length]; exact hge)
          rw [bytesV_length] at hvr
          exact hvr
      · rename_i e' id n hk3 hx
        rw [hx] at hX
        split at hc
        · rename_i es he
          split at hc
          · rename_i heq
            cases hc
            have heq' : src = dst := by simpa using heq
            subst heq'
            cases hX (by simp) with
            | sl _ _ _ cap hid hcap hcp =>
              obtain ⟨cc, E, fr, a1, a2, a3, a4, a5, a6, a7⟩ := h.sim.cells id es he
              have hsh : w.shape? (G.φ id) = some (E, cc.size) := by simp [World.shape?, a1]
              have hrun : (convert src src (.slice (some ⟨G.φ id, 0 * G.wd id, none⟩) n cap)).run P w = .ok (.slice (some ⟨G.φ id, 0 * G.wd id, none⟩) n cap) (w.freeze ⟨G.φ id, cc.size, none⟩ 1) := by
                simp [convert, run_underlying h1, run_underlying h3, markStringish, hsh]
              have hnew : (w.freeze ⟨G.φ id, cc.size, none⟩ 1).heap[G.φ id]? = some (.cells cc E (if fr.1 == fr.2 then (cc.size, cc.size + 1) else (min fr.1 cc.size, max fr.2 (cc.size + 1)))) := by
                unfold World.freeze
                rw [if_neg (by decide)]
                simp only [Array.getElem?_modify, if_true, a1, Option.map_some]
              have hch : Ch (fun x => x = G.φ id) w (w.freeze ⟨G.φ id, cc.size, none⟩ 1) := by
                unfold World.freeze
                rw [if_neg (by decide)]
                refine ⟨rfl, rfl, rfl, by simp, fun b hb hn => ?_⟩
                simp only [Array.getElem?_modify]
                rw [if_neg (fun e => hn e.symm)]
              have hlo : fr.1 ≠ fr.2 → cc.size ≤ fr.1 := fun hne => by
                rcases Nat.lt_or_ge fr.1 cc.size with hlt | hge
                · have := a2 _ hlt
                  simp only [World.frozen?, a1] at this
                  simp at this
                  omega
                · exact hge
              refine ⟨_, _, G, L, by simp only [execOp, ho, hv, Sem.run_bind, hrun, Result.andThen_ok, Sem.run_pure], (h.markHeap he a1 hnew (fun j hj => ?_) ?_ hch).put o.dst _ _ (VR.sl id 0 n cap hid hcap hcp)⟩
              · by_cases hf : fr.1 = fr.2
                · simp [hf]; omega
                · have := hlo hf
                  simp [hf]; omega
              · by_cases hf : fr.1 = fr.2
                · simp [hf]
                · have := hlo hf
                  simp [hf]; omega
          · cases hc
        · cases hc
      · cases hc
    · cases hc
  · cases hc
theorem pick_op (h : Inv G0 W0 G L st H a.tmps w) {c x y : Operand} {b : Bool} (ho : o.op = .pick c x y) (hc : rd st c = .bool b) :
    ∃ u, (execOp a.eval o).run P w = .ok (.value u) w ∧ SlotR G L st.b.length st.r.length (pickV b (rdS st x) (rdS st y)) u := by
  have hX := rd_AR h.lr c
  rw [hc] at hX
  have e1 := (hX (by simp)).bool_inv
  cases b with
  | true => exact ⟨a.eval x, by simp [execOp, ho, e1, asBool], slot_R h.lr x⟩
  | false => exact ⟨a.eval y, by simp [execOp, ho, e1, asBool], slot_R h.lr y⟩
theorem invoke_run (h : Inv G0 W0 G L st H a.tmps w) {c : Call} {recv : Operand} {name : String} {t : TypeId} {v : V} {f : FuncId} (ho : o.op = .call c) (hc : c.callee = .invoke recv name) (hr : rd st recv = .ifc t v) (hm : methodT P t name = some f) (hf : callable P f = true) :
    ∃ u, (execOp a.eval o).run P w = .ok (.enter f (#[u] ++ c.args.map a.eval)) w ∧ AR G v u := by
  have hX := rd_AR h.lr recv
  rw [hr] at hX
  generalize hv : a.eval recv = vv at hX
  cases hX (by simp) with
  | ifc _ _ u hu =>
    refine ⟨u, ?_, hu⟩
    have hmeth : (method (P.types.size + Made.depth) t u name).run P w = .ok (f, u) w := by
      unfold methodT at hm
      cases hi : P.info? t with
      | none => rw [hi] at hm; cases hm
      | some i =>
        rw [hi] at hm
        simp only [Option.bind_some] at hm
        cases hmm : i.methods.find? (·.name == name) with
        | none => rw [hmm] at hm; cases hm
        | some m =>
          rw [hmm] at hm
          simp only at hm
          split at hm
          · rename_i hpath
            have hp : m.path = #[] := by simpa using hpath
            cases hfn : m.func with
            | none => rw [hfn] at hm; cases hm
            | some fp =>
              obtain ⟨f', p⟩ := fp
              rw [hfn] at hm
              simp only at hm
              have hs : P.types.size + Made.depth = (P.types.size + 99) + 1 := rfl
              rw [hs, method]
              cases hu1 : P.underlying t with
              | none => rw [hu1] at hm; cases p <;> cases hm
              | some d =>
                rw [hu1] at hm
                cases d <;> cases p <;> simp only at hm <;> first | (cases hm; done) | (cases hm; simp [typeInfo, hi, hmm, hp, follow, hfn, receiverAt, run_underlying hu1, Place.get])
          · cases hm
    have hcall := run_callFunc (P := P) (w := w) (args := #[u] ++ c.args.map a.eval) hf
    have h0 : (#[Value.iface t u] ++ c.args.map a.eval)[0]? = some (Value.iface t u) := by rw [Array.getElem?_append_left (by simp)]; rfl
    have h1 : (#[Value.iface t u] ++ c.args.map a.eval).extract 1 (#[Value.iface t u] ++ c.args.map a.eval).size = c.args.map a.eval := by
      apply Array.ext'
      simp [Array.toList_extract, List.extract_eq_take_drop]
      exact List.take_of_length_le (by simp)
    simp only [execOp, ho]
    simp only [resolve, hc, hv, Sem.run_bind, Sem.run_pure, Result.andThen_ok, invoke, h0, h1]
    simp only [callMethod, Sem.run_bind, run_program, Result.andThen_ok, hmeth, hcall]
end
end Go.Abs
