import Derived.Test.YtfjbgmcdkhepkaaAbsH
namespace Go.Abs
set_option linter.unusedVariables false
set_option linter.unusedSimpArgs false
open Go.RowKit
section
variable {G0 : Gh} {W0 : World} {G G' : Gh} {L : Lg} {st : St} {H H' : Hp} {tmps : Array Value} {a : Act} {w w' : World} {P : Program} {o : Oper} {next : Act → World → Prop} {Q : Exit → Act → World → Prop}
theorem Inv.mapSet (h : Inv G0 W0 G L st H tmps w) {id cl cl' : Nat} {es es' : List (V × V)} {ms ms' : Array MapEntry} (he : H[id]? = some (.map es)) (hw : w.heap[G.φ id]? = some (.map ms cl)) (hsz : ms'.size = es'.length)
    (hm : ∀ (i : Nat) (k v : V), es'[i]? = some (k, v) → ∃ m, ms'[i]? = some m ∧ VR G k m.key ∧ keyOk k = true ∧ AR G v m.val) :
    (setObj (G.φ id) (.map ms' cl')).run P w = .ok () { w with heap := w.heap.setIfInBounds (G.φ id) (.map ms' cl') } ∧ Inv G0 W0 G L st (H.set id (.map es')) tmps { w with heap := w.heap.setIfInBounds (G.φ id) (.map ms' cl') } := by
  have hlt := lt_of_block hw
  have hidlt : id < H.length := (List.getElem?_eq_some_iff.1 he).1
  have c : Ch (fun x => x = G.φ id) w { w with heap := w.heap.setIfInBounds (G.φ id) (.map ms' cl') } := ⟨rfl, rfl, rfl, by simp, fun b hb hn => by
    show (w.heap.setIfInBounds _ _)[b]? = _
    rw [Array.getElem?_setIfInBounds_ne (fun e => hn e.symm)]⟩
  have hnew : ({ w with heap := w.heap.setIfInBounds (G.φ id) (.map ms' cl') } : World).heap[G.φ id]? = some (.map ms' cl') := by
    show (w.heap.setIfInBounds _ _)[G.φ id]? = _
    rw [Array.getElem?_setIfInBounds_self_of_lt hlt]
  obtain ⟨hb1, hb2, hb3⟩ := h.sim.hb id _ he rfl
  have old : ∀ {k : Nat} {x : Blk}, (H.set id (.map es'))[k]? = some x → (k = id ∧ x = .map es') ∨ (k ≠ id ∧ H[k]? = some x) := fun {k x} hk => by
    rw [List.getElem?_set] at hk
    split at hk
    · rename_i e1; subst e1; simp [hidlt] at hk; exact .inl ⟨rfl, hk.symm⟩
    · rename_i e1; exact .inr ⟨fun e2 => e1 e2.symm, hk⟩
  have live : ∀ {k : Nat} {x : Blk}, (H.set id (.map es'))[k]? = some x → x.live = true → ∃ z, H[k]? = some z ∧ z.live = true := fun {k x} hk hl => by
    rcases old hk with ⟨rfl, rfl⟩ | ⟨_, h1⟩
    · exact ⟨_, he, rfl⟩
    · exact ⟨x, h1, hl⟩
  refine ⟨by simp [setObj, Sem.run, hw], {
    sim := {
      len := by simp [h.sim.len]
      K := fun b o v hk => by
        have hb : b ≠ G.φ id := by rintro rfl; rw [hb3 o] at hk; cases hk
        rw [World.cell?_of_block (w := w) (a := ⟨b, o, none⟩) (c.blk b (h.sim.lt_of_K hk) hb)]; exact h.sim.K b o v hk
      cells := fun k es2 hk => by
        rcases old hk with ⟨rfl, e1⟩ | ⟨hne, h1⟩
        · cases e1
        · obtain ⟨c2, E2, f2, e1, e2, e3, e4⟩ := h.sim.cells k es2 h1
          have hne2 : G.φ k ≠ G.φ id := fun e5 => hne (h.sim.inj k id _ _ h1 he rfl rfl e5)
          exact ⟨c2, E2, f2, c.at_ e1 hne2, c.nf e1 hne2 e2, e3, e4⟩
      map := fun k es2 hk => by
        rcases old hk with ⟨rfl, e1⟩ | ⟨hne, h1⟩
        · cases e1; exact ⟨ms', cl', hnew, hsz, hm⟩
        · obtain ⟨m2, c2, e1, e2⟩ := h.sim.map k es2 h1
          have hne2 : G.φ k ≠ G.φ id := fun e5 => hne (h.sim.inj k id _ _ h1 he rfl rfl e5)
          exact ⟨m2, c2, c.at_ e1 hne2, e2⟩
      row := fun k ns2 es2 hk => by
        rcases old hk with ⟨rfl, e1⟩ | ⟨hne, h1⟩
        · cases e1
        · obtain ⟨e1, v, e2, e3⟩ := h.sim.row k ns2 es2 h1
          exact ⟨e1, v, e2, e3.ch c fun b hb e => by have := hb.1; rw [e, hb2] at this; cases this⟩
      inj := fun k k' x y hk hk' lx ly he2 => by
        obtain ⟨z, z1, z2⟩ := live hk lx
        obtain ⟨z', z3, z4⟩ := live hk' ly
        exact h.sim.inj k k' z z' z1 z3 z2 z4 he2
      hb := fun k x hk lx => by
        obtain ⟨z, z1, z2⟩ := live hk lx
        exact h.sim.hb k z z1 z2
      cvn := h.sim.cvn
      hblt := fun b hb => Nat.lt_of_lt_of_le (h.sim.hblt b hb) c.size
      owhb := h.sim.owhb }
    lr := h.lr.ch c (fun b _ hn e => hn (e ▸ hb1))
    fr := h.fr.ch c (fun b _ hn e => hn (e ▸ hb1))
    le := h.le }⟩
theorem keyT_ok {kt : TypeId} {k : V} (h : keyT P kt k = true) : keyOk k = true := by
  unfold keyT at h
  split at h <;> first | rfl | cases h
theorem mapUpdate_run (h : Inv G0 W0 G L st H tmps w) {t : TypeId} {m k x : V} {um uk ux : Value} {H' : Hp} (hm : AR G m um) (hk : AR G k uk) (hx : AR G x ux) (hu : mapUpdateOp P H t m k x = some H') :
    ∃ w', (Instr.mapUpdate t um uk ux).run P w = .ok () w' ∧ Inv G0 W0 G L st H' tmps w' := by
  unfold mapUpdateOp at hu
  split at hu
  · rename_i kt e hkt
    have ht := ixT_map hkt
    split at hu
    · rename_i hc
      obtain ⟨d, d1, d2, d3, d4⟩ := keyT_run (P := P) (w := w) hc hk
      split at hu
      · rename_i id
        cases hm (by simp)
        split at hu
        · rename_i es he
          obtain ⟨ms, cl, a1, a2, a3⟩ := h.sim.map id es he
          have hrel : ∀ (i : Nat) (k2 v2 : V), es[i]? = some (k2, v2) → ∃ m, ms.toList[i]? = some m ∧ VR G k2 m.key := fun i k2 v2 h2 => by
            obtain ⟨m, m1, m2, _⟩ := a3 i k2 v2 h2; exact ⟨m, by simpa using m1, m2⟩
          have hget : (getObj (G.φ id)).run P w = .ok (.map ms cl) w := by simp [getObj, Sem.run, a1]
          have hkv : VR G k uk := hk (by rintro rfl; unfold keyT at hc; split at hc <;> simp_all)
          split at hu
          · rename_i j hf
            cases hu
            obtain ⟨_, f2⟩ := findK_run d3 es ms.toList 0 (some j) (by simpa using a2) hrel hf
            obtain ⟨_, m0, m1, m2, m3⟩ := f2 j rfl
            have m1' : ms[j]? = some m0 := by simpa using m1
            have hj : j < es.length := by have := (Array.getElem?_eq_some_iff.1 m1').1; omega
            have hfk := findKey_run (P := P) (w := w) d1 m2
            obtain ⟨s1, s2⟩ := h.mapSet (P := P) (cl' := cl) (es' := es.set j (k, x)) (ms' := ms.modify j fun e => { e with key := uk, val := ux }) he a1 (by simp [a2]) (fun i k2 v2 hi => by
              rw [List.getElem?_set] at hi
              rw [Array.getElem?_modify]
              split at hi
              · rename_i e1
                subst e1
                simp [hj] at hi
                obtain ⟨rfl, rfl⟩ := hi
                exact ⟨{ m0 with key := uk, val := ux }, by simp [m1'], hkv, keyT_ok hc, hx⟩
              · rename_i e1
                obtain ⟨m5, n1, n2⟩ := a3 i k2 v2 hi
                exact ⟨m5, by rw [if_neg e1]; exact n1, n2⟩)
            refine ⟨_, ?_, s2⟩
            have hkeep : (Instr.keyThatStays m0.key uk).run P w = .ok uk w := by
              simp only [Instr.keyThatStays]
              rw [if_pos (d4 9999 m0.key m3)]
              rfl
            simp [Instr.mapUpdate, run_underlying ht, hget, d2, hfk, m1', hkeep, s1]
          · rename_i hf
            cases hu
            obtain ⟨f1, _⟩ := findK_run d3 es ms.toList 0 none (by simpa using a2) hrel hf
            have hfk := findKey_run (P := P) (w := w) d1 (f1 rfl)
            obtain ⟨s1, s2⟩ := h.mapSet (P := P) (cl' := cl + 1) (es' := es ++ [(k, x)]) (ms' := ms.push { key := uk, val := ux, born := cl }) he a1 (by simp [a2]) (fun i k2 v2 hi => by
              rw [List.getElem?_append] at hi
              rw [Array.getElem?_push]
              split at hi
              · rename_i e1
                obtain ⟨m5, n1, n2⟩ := a3 i k2 v2 hi
                exact ⟨m5, by rw [if_neg (by omega)]; exact n1, n2⟩
              · rename_i e1
                have hi2 : i = ms.size := by
                  have := (List.getElem?_eq_some_iff.1 hi).1; simp at this; omega
                subst hi2
                rw [a2] at hi
                simp at hi
                obtain ⟨rfl, rfl⟩ := hi
                exact ⟨_, by rw [if_pos rfl], hkv, keyT_ok hc, hx⟩)
            refine ⟨_, ?_, s2⟩
            simp [Instr.mapUpdate, run_underlying ht, hget, d2, hfk, s1]
          · cases hu
        · cases hu
      · cases hu
    · cases hu
  · cases hu
theorem convert_op (h : Inv G0 W0 G L st H a.tmps w) {src dst : TypeId} {x : Operand} {st' : St} (ho : o.op = .convert src dst x) (hc : convertOp P st o.dst src dst (rd st x) = some st') :
    ∃ u, (execOp a.eval o).run P w = .ok (.value u) w ∧ Inv G0 W0 G L st' H (a.put o.dst u).tmps w := by
  have hX := rd_AR h.lr x
  generalize hv : a.eval x = v at hX
  unfold convertOp at hc
  split at hc
  · rename_i k k2 n hk hx
    rw [hx] at hX
    obtain rfl := (hX (by simp)).int_inv
    split at hc
    · rename_i k3 hk3
      cases hc
      have h1 := tk_int hk
      have h2 := tk_int hk3
      refine ⟨.int k (k.wrap n), ?_, h.put o.dst _ _ (VR.int _ _)⟩
      simp only [execOp, ho, hv]
      simp [convert, run_underlying h1, run_underlying h2, Conv.intToInt]
    · cases hc
  · rename_i s hk hx
    rw [hx] at hX
    obtain rfl := (hX (by simp)).str_inv
    split at hc
    · rename_i hk3
      cases hc
      have h1 := tk_str hk
      have h2 := tk_str hk3
      refine ⟨.string s, ?_, h.put o.dst _ _ (VR.str _)⟩
      simp only [execOp, ho, hv]
      simp [convert, run_underlying h1, run_underlying h2]
    · cases hc
  · cases hc
theorem pick_op (h : Inv G0 W0 G L st H a.tmps w) {c x y : Operand} {b : Bool} (ho : o.op = .pick c x y) (hc : rd st c = .bool b) :
    ∃ u, (execOp a.eval o).run P w = .ok (.value u) w ∧ SlotR G L st.b.length st.r.length (pickV b (rdS st x) (rdS st y)) u := by
  have hX := rd_AR h.lr c
  rw [hc] at hX
  have e1 := (hX (by simp)).bool_inv
  cases b with
  | true => exact ⟨a.eval x, by simp [execOp, ho, e1, asBool], slot_R h.lr x⟩
  | false => exact ⟨a.eval y, by simp [execOp, ho, e1, asBool], slot_R h.lr y⟩
theorem invoke_run (h : Inv G0 W0 G L st H a.tmps w) {c : Call} {recv : Operand} {name : String} {t : TypeId} {v : V} {f : FuncId} (ho : o.op = .call c) (hc : c.callee = .invoke recv name) (hr : rd st recv = .ifc t v) (hm : methodT P t name = some f) (hf : callable P f = true) :
    ∃ u, (execOp a.eval o).run P w = .ok (.enter f (#[u] ++ c.args.map a.eval)) w ∧ AR G v u := by
  have hX := rd_AR h.lr recv
  rw [hr] at hX
  generalize hv : a.eval recv = vv at hX
  cases hX (by simp) with
  | ifc _ _ u hu =>
    refine ⟨u, ?_, hu⟩
    have hmeth : (method (P.types.size + Made.depth) t u name).run P w = .ok (f, u) w := by
      unfold methodT at hm
      cases hi : P.info? t with
      | none => rw [hi] at hm; cases hm
      | some i =>
        rw [hi] at hm
        simp only [Option.bind_some] at hm
        cases hmm : i.methods.find? (·.name == name) with
        | none => rw [hmm] at hm; cases hm
        | some m =>
          rw [hmm] at hm
          simp only at hm
          split at hm
          · rename_i hpath
            have hp : m.path = #[] := by simpa using hpath
            cases hfn : m.func with
            | none => rw [hfn] at hm; cases hm
            | some fp =>
              obtain ⟨f', p⟩ := fp
              rw [hfn] at hm
              simp only at hm
              have hs : P.types.size + Made.depth = (P.types.size + 99) + 1 := rfl
              rw [hs, method]
              cases hu1 : P.underlying t with
              | none => rw [hu1] at hm; cases p <;> cases hm
              | some d =>
                rw [hu1] at hm
                cases d <;> cases p <;> simp only at hm <;> first | (cases hm; done) | (cases hm; simp [typeInfo, hi, hmm, hp, follow, hfn, receiverAt, run_underlying hu1, Place.get])
          · cases hm
    have hcall := run_callFunc (P := P) (w := w) (args := #[u] ++ c.args.map a.eval) hf
    have h0 : (#[Value.iface t u] ++ c.args.map a.eval)[0]? = some (Value.iface t u) := by rw [Array.getElem?_append_left (by simp)]; rfl
    have h1 : (#[Value.iface t u] ++ c.args.map a.eval).extract 1 (#[Value.iface t u] ++ c.args.map a.eval).size = c.args.map a.eval := by
      apply Array.ext'
      simp [Array.toList_extract, List.extract_eq_take_drop]
      exact List.take_of_length_le (by simp)
    simp only [execOp, ho]
    simp only [resolve, hc, hv, Sem.run_bind, Sem.run_pure, Result.andThen_ok, invoke, h0, h1]
    simp only [callMethod, Sem.run_bind, run_program, Result.andThen_ok, hmeth, hcall]
end
end Go.Abs
