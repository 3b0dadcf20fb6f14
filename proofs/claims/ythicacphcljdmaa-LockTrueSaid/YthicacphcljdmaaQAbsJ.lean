/- A part of the proofs over this seat. -/
import Derived.Test.YthicacphcljdmaaQAbsI
namespace Go.Abs
set_option linter.unusedVariables false
set_option linter.unusedSimpArgs false
open Go.RowKit
section
variable {G0 : Gh} {W0 : World} {G G' : Gh} {L : Lg} {st st' : St} {H H' : Hp} {tmps : Array Value} {a : Act} {w w' : World} {P : Program} {E : Env} {o : Oper} {next : Act → World → Prop} {Q : Exit → Act → World → Prop} {ex : Ex}
theorem Act.put_none (a : Act) (v : Value) : a.put none v = a := rfl
/-- One operation is as the evaluator says. -/
theorem evOp_sound (hgl : GlOK E.gl G0) (hS : Sound E.P E.gl E.C) (h : Inv G0 W0 G L st H a.tmps w) (hd : a.defers = []) (he : evOp E o st H = some (ex, st', H')) (hn : ex = .normal → ∀ a' w', PostN G0 W0 st' H' a' w' → next a' w')
    (hp : ∀ v, ex = .panic v → ∀ a' w' chain, PostP G0 W0 v H' w' chain → a'.defers = [] → Q (.panic chain) a' w') : o.wp E.P a w next Q := by
  have finV : ∀ {z : V} {u : Value}, (execOp a.eval o).run E.P w = .ok (.value u) w → AR G z u → (ex, st', H') = (Ex.normal, putS st o.dst (.v z), H) → o.wp E.P a w next Q := fun hr hz e => by
    cases e; exact fin_val h hd hr (SlotR.of_AR hz) (hn rfl)
  have finS : ∀ {z : Slot} {u : Value}, (execOp a.eval o).run E.P w = .ok (.value u) w → SlotR G L st.b.length st.r.length z u → (ex, st', H') = (Ex.normal, putS st o.dst z, H) → o.wp E.P a w next Q := fun hr hz e => by
    cases e; exact fin_val h hd hr hz (hn rfl)
  have finI : ∀ {u : Value} {w1 : World} {G1 : Gh} {L1 : Lg} {st1 : St} {H1 : Hp}, (execOp a.eval o).run E.P w = .ok (.value u) w1 → Inv G0 W0 G1 L1 st1 H1 (a.put o.dst u).tmps w1 → (ex, st', H') = (Ex.normal, st1, H1) → o.wp E.P a w next Q := fun hr hi e => by
    cases e; exact wp_val hr (hn rfl _ _ ⟨_, _, hi, by rw [put_defers, hd]⟩)
  unfold evOp resV resS at he
  split at he
  · rename_i x ho; exact finS (z := rdS st x) (u := a.eval x) (by simp [execOp, ho]) (slot_R h.lr x) (Option.some.inj he).symm
  · rename_i x ho; exact finS (z := rdS st x) (u := a.eval x) (by simp [execOp, ho]) (slot_R h.lr x) (Option.some.inj he).symm
  · rename_i c x y ho
    split at he
    · rename_i b hb
      obtain ⟨u, h1, h2⟩ := pick_op h ho hb
      exact finS h1 h2 (Option.some.inj he).symm
    · cases he
  · rename_i t ho
    split at he
    · rename_i hc
      obtain ⟨i, z, hi, hz, _, _, _, hzr⟩ := zero_info (G := G) hc.1 hc.2
      obtain ⟨e1, G1, L1, h1⟩ := alloc_sound (t := t) h hc.1 hzr he
      cases e1
      exact finI (by simp [execOp, ho, Instr.alloc, zeroValue, typeInfo, hi, hz, newVar, Go.newRow]) h1 rfl
    · cases he
  · rename_i t x ho
    split at he
    · rename_i hc
      obtain ⟨e1, G1, L1, h1⟩ := alloc_sound (t := t) h hc.1 (rd_AR h.lr x) he
      cases e1
      exact finI (by simp [execOp, ho, run_box]) h1 rfl
    · cases he
  · rename_i t parts ho
    split at he
    · rename_i z hz
      obtain ⟨u, h1, h2⟩ := build_op h ho hz
      exact finV h1 h2 (Option.some.inj he).symm
    · cases he
  · rename_i t len parts ho
    split at he
    · rename_i e hk
      split at he
      · rename_i es hes
        split at he
        · obtain ⟨w1, u, G1, h1, h2⟩ := buildSliceH_op h ho hk hes
          exact finI h1 h2 (Option.some.inj he).symm
        · obtain ⟨w1, u, G1, h1, h2⟩ := buildSliceI_op h ho hk hes
          exact finI h1 h2 (Option.some.inj he).symm
        · obtain ⟨w1, u, G1, L1, h1, h2⟩ := buildSlice_op h ho hk hes
          exact finI h1 h2 (Option.some.inj he).symm
      · cases he
    · cases he
  · rename_i t x ho
    split at he
    · rename_i z hz
      obtain ⟨u, h1, h2⟩ := load_op (hgl.mono h.le) h ho hz
      exact finS h1 h2 (Option.some.inj he).symm
    · cases he
  · rename_i t x y ho
    unfold noDst at he
    split at he
    · rename_i hdst
      split at he
      · rename_i st1 H1 hs
        obtain ⟨w1, G1, L1, h1, h2⟩ := store_op h ho hs
        cases he
        exact wp_skp h1 (hn rfl _ _ ⟨G1, L1, by rw [hdst]; exact h2, by rw [put_defers, hd]⟩)
      · cases he
    · cases he
  · rename_i x ho
    split at he
    · rename_i z hz
      obtain ⟨u, h1, h2⟩ := nilCheck_op h ho hz
      exact finS h1 h2 (Option.some.inj he).symm
    · cases he
  · rename_i t x f ho
    split at he
    · rename_i z hz
      obtain ⟨u, h1, h2⟩ := fieldAddr_op (hgl.mono h.le) h ho hz
      exact finS h1 h2 (Option.some.inj he).symm
    · cases he
  · rename_i t x ix ho
    split at he
    · rename_i z hz
      obtain ⟨u, h1, h2⟩ := indexAddr_op (hgl.mono h.le) h ho hz
      exact finS h1 h2 (Option.some.inj he).symm
    · cases he
  · rename_i t x f ho
    split at he
    · rename_i z hz
      obtain ⟨u, h1, h2⟩ := field_op h ho hz
      exact finV h1 h2 (Option.some.inj he).symm
    · cases he
  · rename_i t x ix ho
    split at he
    · rename_i z hz
      obtain ⟨u, h1, h2⟩ := index_op h ho hz
      exact finV h1 h2 (Option.some.inj he).symm
    · cases he
  · rename_i t x lo hi mx ho
    split at he
    · rename_i z hz
      obtain ⟨u, h1, h2⟩ := slice_op h ho hz
      exact finV h1 h2 (Option.some.inj he).symm
    · cases he
  · rename_i op t x y yt ho
    split at he
    · rename_i z hz
      obtain ⟨u, h1, h2⟩ := binV_sound (w := w) (yt := yt) (X := x) (Y := y) hz (rd_AR h.lr x) (rd_AR h.lr y)
      exact finV (by simp only [execOp, ho]; simp only [Sem.run_bind] at h1 ⊢; rw [h1]; rfl) (fun _ => h2) (Option.some.inj he).symm
    · cases he
  · rename_i op t x ho
    split at he
    · rename_i z hz
      have hX := rd_AR h.lr x
      generalize hv : a.eval x = v at hX
      split at hz
      · rename_i b hx
        rw [hx] at hX
        obtain rfl := (hX (by simp)).bool_inv
        cases hz
        exact finV (z := .bool !b) (u := .bool !b) (by simp [execOp, ho, hv, Op.unary]) (fun _ => .bool _) (Option.some.inj he).symm
      · rename_i k n hx
        rw [hx] at hX
        obtain rfl := (hX (by simp)).int_inv
        cases hz
        exact finV (z := .int k (k.wrap (0 - n))) (u := .int k (k.wrap (0 - n))) (by simp [execOp, ho, hv, Op.unary, Op.intArith]) (fun _ => .int _ _) (Option.some.inj he).symm
      · cases hz
    · cases he
  · rename_i src dst x ho
    split at he
    · rename_i q hc
      obtain ⟨u, w1, G1, L1, h1, h2⟩ := convert_op h ho hc
      exact finI h1 h2 (Option.some.inj he).symm
    · cases he
  · rename_i t x ho
    split at he
    · rename_i z hz
      have hz2 : z = .ifc t (rd st x) ∧ E.P.concrete t = true := by
        split at hz
        · cases hz
        · cases hz
        · rename_i hk1 hk2
          cases hz
          refine ⟨rfl, ?_⟩
          unfold tk at hk1 hk2
          unfold Program.concrete
          cases hu : E.P.underlying t with
          | none => rw [hu] at hk2; exact absurd rfl hk2
          | some d => rw [hu] at hk1 hk2; cases d <;> first | rfl | exact absurd rfl hk1
      obtain ⟨rfl, hcc⟩ := hz2
      exact finV (u := .iface t (a.eval x)) (by simp [execOp, ho, run_makeInterface w t _ hcc]) (fun _ => VR.ifc t _ _ (rd_AR h.lr x)) (Option.some.inj he).symm
    · cases he
  · rename_i f first cap ho
    obtain ⟨u, h1, h2⟩ := makeFunc_op (P := E.P) h ho
    exact finV h1 h2 (Option.some.inj he).symm
  · rename_i t ho
    obtain ⟨w1, u, G1, h1, h2⟩ := makeMap_op (P := E.P) h ho
    exact finI h1 h2 (Option.some.inj he).symm
  · rename_i t l c ho
    split at he
    · rename_i e n m hk hl hc
      split at he
      · rename_i hcond
        obtain ⟨rfl, c1, c2, c3, c4, c5⟩ := hcond
        obtain ⟨w1, u, G1, h1, h2⟩ := makeSlice_op h ho hk hl hc c1 c2 c3 c4 c5
        exact finI h1 h2 (Option.some.inj he).symm
      · cases he
    · cases he
  · rename_i x i ho
    split at he
    · rename_i vs hx
      split at he
      · rename_i z hz
        obtain ⟨u, h1, h2⟩ := extract_op (P := E.P) h ho hx hz
        obtain ⟨G3, _, h3, h4⟩ := h.sealH (modeD E o.dst) h2
        exact finI h1 (h3.put o.dst (.v (sealH (modeD E o.dst) z H).1) u (LAR.of_AR h4)) (Option.some.inj he).symm
      · cases he
    · cases he
  · rename_i t x ix ok ho
    split at he
    · rename_i z hz
      obtain ⟨u, h1, h2⟩ := lookup_op h ho hz
      exact finV h1 h2 (Option.some.inj he).symm
    · cases he
  · rename_i t m k x ho
    unfold noDst at he
    split at he
    · rename_i hdst
      split at he
      · rename_i H1 hs
        obtain ⟨w1, h1, h2⟩ := mapUpdate_run h (rd_AR h.lr m) (rd_AR h.lr k) (rd_AR h.lr x) hs
        cases he
        exact wp_skp (w' := w1) (by simp [execOp, ho, h1]) (hn rfl _ _ ⟨G, L, by rw [hdst]; exact h2, by rw [put_defers, hd]⟩)
      · cases he
    · cases he
  · rename_i t m k x ho
    unfold noDst at he
    split at he
    · rename_i hdst
      split at he
      · rename_i H1 hs
        obtain ⟨w1, h1, h2⟩ := mapUpdate_run h (rd_AR h.lr m) (rd_AR h.lr k) (rd_AR h.lr x) hs
        cases he
        exact wp_skp (w' := w1) (by simp [execOp, ho, h1]) (hn rfl _ _ ⟨G, L, by rw [hdst]; exact h2, by rw [put_defers, hd]⟩)
      · cases he
    · cases he
  · rename_i c ho
    unfold callOp at he
    split at he
    · rename_i b hc
      split at he
      · split at he
        · rename_i x t ha hat
          have hargs : c.args = #[x] := by rw [← Array.toArray_toList (xs := c.args), ha]
          have hats : c.argTypes = #[t] := by rw [← Array.toArray_toList (xs := c.argTypes), hat]
          obtain ⟨z, hz, h2⟩ := Option.bind_eq_some_iff.1 he
          obtain ⟨u, h3, h4⟩ := len_sound (w := w) (ty := o.type) h.sim hz (rd_AR h.lr x)
          exact finV (by simp [execOp, ho, hc, hargs, hats, resolve, invoke, builtin, h3]) h4 (Option.some.inj h2).symm
        · cases he
      · split at he
        · rename_i s x t tx ha hat
          split at he
          · rename_i e hk
            obtain ⟨xs, hxs, h2⟩ := Option.bind_eq_some_iff.1 he
            obtain ⟨⟨st1, H1⟩, hap, h3⟩ := Option.bind_eq_some_iff.1 h2
            obtain ⟨w1, u, G1, L1, h4, h5⟩ := append_op h ho hc ha hat hk hxs hap
            exact finI h4 h5 (Option.some.inj h3).symm
          · cases he
        · cases he
      · split at he
        · rename_i m k t tk' ha hat
          obtain ⟨H1, hz, h2⟩ := Option.bind_eq_some_iff.1 he
          obtain ⟨w1, h3, h4⟩ := delete_op h ho hc ha hat hz
          exact finI h3 h4 (Option.some.inj h2).symm
        · cases he
      · split at he
        · rename_i m t ha hat
          obtain ⟨H1, hz, h2⟩ := Option.bind_eq_some_iff.1 he
          obtain ⟨w1, h3, h4⟩ := clear_op h ho hc ha hat hz
          exact finI h3 h4 (Option.some.inj h2).symm
        · cases he
      · split at he
        · rename_i x y ha
          have hargs : c.args = #[x, y] := by rw [← Array.toArray_toList (xs := c.args), ha]
          obtain ⟨z, hz, h2⟩ := Option.bind_eq_some_iff.1 he
          obtain ⟨u, h3, h4⟩ := min_sound (w := w) (P := E.P) hz (rd_AR h.lr x) (rd_AR h.lr y) c.argTypes o.type
          exact finV (by simp [execOp, ho, hc, hargs, resolve, invoke, builtin, h3]) h4 (Option.some.inj h2).symm
        · cases he
      · split at he
        · rename_i x y ha
          have hargs : c.args = #[x, y] := by rw [← Array.toArray_toList (xs := c.args), ha]
          obtain ⟨z, hz, h2⟩ := Option.bind_eq_some_iff.1 he
          obtain ⟨u, h3, h4⟩ := max_sound (w := w) (P := E.P) hz (rd_AR h.lr x) (rd_AR h.lr y) c.argTypes o.type
          exact finV (by simp [execOp, ho, hc, hargs, resolve, invoke, builtin, h3]) h4 (Option.some.inj h2).symm
        · cases he
      · cases he
    · rename_i f hc
      split at he
      · rename_i f' first cap hf
        split at he
        · rename_i hcall
          have hX := rd_AR h.lr f
          rw [hf] at hX
          generalize hv : a.eval f = v at hX
          cases hX (by simp) with
          | fn _ _ _ first' cap' l1 l2 r1 r2 =>
            have hargs := (ArgsR.append (ArgsR.append ⟨l1, r1⟩ (ArgsR.ops h.lr c.args)) ⟨l2, r2⟩ : ArgsR G (first ++ c.args.toList.map (rd st) ++ cap) (first' ++ c.args.map a.eval ++ cap'))
            refine call_sound (hgl.mono h.le) hS h hd (us := first' ++ c.args.map a.eval ++ cap') ?_ hargs.len hargs.at_ he hn hp
            have hrc := run_callFunc (P := E.P) (w := w) (args := first' ++ c.args.map a.eval ++ cap') hcall
            simp only [execOp, ho]
            simp only [resolve, hc, hv, Deferred.ofValue, Sem.run_bind, Sem.run_pure, Result.andThen_ok, invoke, hrc]
        · cases he
      · cases he
    · rename_i recv name hc
      split at he
      · rename_i t v hr
        split at he
        · rename_i f hm
          split at he
          · rename_i hcall
            obtain ⟨u, h1, h2⟩ := invoke_run h ho hc hr hm hcall
            have hargs := (ArgsR.append (ArgsR.one h2) (ArgsR.ops h.lr c.args) : ArgsR G ([v] ++ c.args.toList.map (rd st)) (#[u] ++ c.args.map a.eval))
            exact call_sound (hgl.mono h.le) hS h hd h1 hargs.len hargs.at_ he hn hp
          · cases he
        · cases he
      · cases he
  · rename_i x ho
    split at he
    · rename_i t v hx
      cases he
      have hX := rd_AR h.lr x
      rw [hx] at hX
      generalize hv : a.eval x = vv at hX
      cases hX (by simp) with
      | ifc _ _ u hu =>
        unfold Oper.wp
        have hr : (execOp a.eval o).run E.P w = .halt (.panic (.iface t u)) w := by
          simp only [execOp, ho, hv]
          simp [Instr.panic]
        rw [hr]
        exact hp _ rfl _ _ _ ⟨G, .iface t u, h.sim, h.fr, h.le, fun _ => VR.ifc t v u hu, rfl⟩ hd
    · cases he
  · cases he
end
end Go.Abs
