import Derived.Test.YtfjbgmcdkhepkaaAbsA
namespace Go.Abs
set_option linter.unusedVariables false
set_option linter.unusedSimpArgs false
open Go.RowKit
section
variable {G0 : Gh} {W0 : World} {G G' : Gh} {L : Lg} {st : St} {H H' : Hp} {tmps : Array Value} {a : Act} {w w' : World} {P : Program} {o : Oper} {next : Act → World → Prop} {Q : Exit → Act → World → Prop}
theorem putS_r (st : St) (d : Option Nat) (x : Slot) (r : List LRow) : { putS st d x with r := r } = putS { st with r := r } d x := by
  cases d <;> rfl
/-- A new row of the frame, its newest slice with no room behind it. -/
theorem Inv.frowFull (h : Inv G0 W0 G L st H tmps w) {ns : Bool} {es : List V} {u : Value} (h1 : u.oneCell' = true) (hu : VR G (rowV ns es es.length) u) (ht : Tip G w (fun _ => False) ns es u) :
    ∃ L', Inv G0 W0 G L' { st with r := st.r ++ [⟨true, ns, es⟩] } H tmps w ∧ L'.cv st.r.length es.length = some u :=
  ⟨_, ⟨h.sim, h.lr.newRow L.ow (fun _ _ x => x) (fun b => .inr (.inl rfl)) (fun l hl => (h.lr.boxd l hl).2.2.1) h.lr.owlt h1 hu (ht.le (fun _ _ _ => rfl) (fun _ _ x => x.elim)), h.fr, h.le⟩, by simp⟩
theorem append_op (h : Inv G0 W0 G L st H a.tmps w) {c : Call} {s x : Operand} {t tx e : TypeId} {xs : List V} {st' : St} {H' : Hp} (ho : o.op = .call c) (hc : c.callee = .builtin .append) (ha : c.args.toList = [s, x]) (hat : c.argTypes.toList = [t, tx])
    (hk : ixT P t = .sl e) (hs : srcV P H tx (rd st x) = some xs) (hp : appendOp P st H o.dst e (rdS st s).raw xs = some (st', H')) :
    ∃ w' u' G' L', (execOp a.eval o).run P w = .ok (.value u') w' ∧ Inv G0 W0 G' L' st' H' (a.put o.dst u').tmps w' := by
  obtain ⟨ht, hz⟩ := ixT_sl hk
  have hargs : c.args = #[s, x] := by rw [← Array.toArray_toList (xs := c.args), ha]
  have hats : c.argTypes = #[t, tx] := by rw [← Array.toArray_toList (xs := c.argTypes), hat]
  have hexec : ∀ {u' : Value} {w' : World}, (Builtin.append_ #[t, tx] o.type #[a.eval s, a.eval x]).run P w = .ok u' w' → (execOp a.eval o).run P w = .ok (.value u') w' := fun hr => by
    simp [execOp, ho, hc, hargs, hats, resolve, invoke, builtin, hr]
  have hraw := raw_LAR h.lr s
  unfold appendOp at hp
  split at hp
  · cases hp
  · rename_i hw
    have hxs : ∀ e' ∈ xs, e'.width = sizeT P e := wideAll_iff.1 (by simpa using hw)
    obtain ⟨news, hsrc, hnews⟩ := src_sound (P := P) h.sim hs (rd_AR h.lr x) hxs (Nat.pos_of_ne_zero hz)
    split at hp
    · rename_i hr
      rw [hr] at hraw
      have hu : a.eval s = .slice none 0 0 := (show VR G .nils _ from hraw).nils_inv
      split at hp
      · rename_i hE
        cases hp
        obtain ⟨L1, h1, h2⟩ := h.frowFull (ns := true) (es := []) (u := .slice none 0 0) rfl .nils (by exact Or.inl ⟨rfl, rfl, rfl⟩)
        obtain ⟨w', u', G', L', r1, r2, r3⟩ := h1.appendLocal (tx := tx) (ty := o.type) (rid := st.r.length) (q := ⟨true, true, []⟩) ht (by simp) rfl h2 (by simpa using hE) hxs (by intro _ hx; cases hx) hsrc hnews
        refine ⟨w', u', G', L', hexec (by rw [hu]; exact r1), ?_⟩
        have e1 : ({ ({ st with r := st.r ++ [⟨true, true, []⟩] } : St) with r := (st.r ++ [(⟨true, true, []⟩ : LRow)]).set st.r.length (⟨true, true, [] ++ xs⟩ : LRow) } : St) = { st with r := st.r ++ [⟨true, true, xs⟩] } := by simp
        simp only at r2
        rw [e1] at r2
        simp only [frow, putS_r]
        have hsl : SlotR G' L' st.b.length (st.r ++ [(⟨true, true, xs⟩ : LRow)]).length (.v (.lr st.r.length xs.length)) u' := ⟨by simp, by simpa using r3⟩
        exact r2.put o.dst (.v (.lr st.r.length xs.length)) u' hsl
      · cases hp
    · rename_i rid len hr
      rw [hr] at hraw
      obtain ⟨hlt, hcv⟩ := hraw
      have hq : st.r[rid]? = some st.r[rid] := List.getElem?_eq_getElem hlt
      rw [hq] at hp
      simp only at hp
      split at hp
      · rename_i hcond
        simp only [Bool.and_eq_true, beq_iff_eq] at hcond
        obtain ⟨⟨⟨c1, rfl⟩, c3⟩, c4⟩ := hcond
        cases hp
        obtain ⟨w', u', G', L', r1, r2, r3⟩ := h.appendLocal (tx := tx) (ty := o.type) ht hq c1 hcv c3 hxs (wideAll_iff.1 c4) hsrc hnews
        refine ⟨w', u', G', L', hexec r1, ?_⟩
        simp only [putS_r]
        exact r2.put o.dst (.v (.lr rid ((st.r[rid]).es.length + xs.length))) u' ⟨by simpa using hlt, r3⟩
      · cases hp
    · rename_i id len hr
      rw [hr] at hraw
      generalize hus : a.eval s = us at hraw
      cases (show VR G (.hr id len) us from hraw) with
      | hr _ _ base cap hid hcv =>
        split at hp
        · rename_i ns es he
          split at hp
          · rename_i hcond
            simp only [Bool.and_eq_true, beq_iff_eq] at hcond
            obtain ⟨⟨rfl, c3⟩, c4⟩ := hcond
            cases hp
            obtain ⟨w', u', G', r1, r2, r3⟩ := h.appendHeap (tx := tx) (ty := o.type) ht he hcv c3 hxs (wideAll_iff.1 c4) hsrc hnews
            exact ⟨w', u', G', L, hexec (by rw [hus]; exact r1), r2.put o.dst _ u' r3⟩
          · cases hp
        · cases hp
    · cases hp
/-! ### Calls -/
def OutR (B : Nat) (G' : Gh) (w' : World) : Out → Ending → Prop
  | .ret v g, .returned u => AR G' v u ∧ (g = true → ∃ es, v = .rsl es ∧ u.oneCell' = true ∧ Tip G' w' (fun b => B ≤ b ∧ ¬ G'.hb b) false es u)
  | .panic v, .panicked chain => ∃ u, AR G' v u ∧ chain = [{ v := u, recovered := false }]
  | _, _ => False
/-- What is said of a function that answers as told. -/
def Sound (P : Program) (C : Callee) : Prop := ∀ (f : FuncId) (args : List V) (H : Hp) (out : Out) (H' : Hp), C f args H = some (out, H') → ∀ (G : Gh) (w : World) (us : Array Value), Sim G H w → us.size = args.length →
  (∀ (j : Nat) (v : V) (u : Value), args[j]? = some v → us[j]? = some u → AR G v u) →
  Calls P f us w fun e w' => ∃ G', G.le G' ∧ Sim G' H' w' ∧ Fr G w G' w' ∧ OutR w.heap.size G' w' out e
theorem Fr.trans {G'' : Gh} {w'' : World} (h : Fr G0 W0 G w) (k : Fr G w G' w') : Fr G0 W0 G' w' where
  os := k.os.trans h.os
  tape := k.tape.trans h.tape
  output := k.output.trans h.output
  size := Nat.le_trans h.size k.size
  blk b hb hn := by
    obtain ⟨a1, a2, a3⟩ := h.blk b hb hn
    obtain ⟨b1, b2, b3⟩ := k.blk b (Nat.lt_of_lt_of_le hb h.size) a2
    exact ⟨b1.trans a1, b2, fun o => (b3 o).trans (a3 o)⟩
theorem Fr.ch_of {G' : Gh} (k : Fr G w G' w') : Ch G.hb w w' := ⟨k.os, k.tape, k.output, k.size, fun b hb hn => (k.blk b hb hn).1⟩
theorem LR.call {B0 : Nat} (h : LR B0 G L st tmps w) (hle : G.le G') (k : Fr G w G' w') : LR B0 G' L st tmps w' := by
  have hl : LR B0 { G' with hb := fun b => G'.hb b ∧ True } L st tmps w := by
    have := LR.heap (G' := { G' with hb := fun b => G'.hb b ∧ True }) h ⟨hle.n, hle.φ, hle.wd, hle.cv, hle.K⟩ (fun b hb hn o => (k.blk b hb hn).2.2 o) (fun b hb x => Classical.byContradiction fun hn => (k.blk b hb hn).2.1 x.1)
    exact this
  have hl2 : LR B0 G' L st tmps w := LR.heap h hle (fun b hb hn o => (k.blk b hb hn).2.2 o) (fun b hb x => Classical.byContradiction fun hn => (k.blk b hb hn).2.1 x)
  -- the blocks of the frame are none of the heap's
  exact {
    size := hl2.size, slot := hl2.slot, boxd := hl2.boxd, inj := hl2.inj
    box := fun l cs hl => by
      obtain ⟨cc, E, fr, a1, a2, a3⟩ := hl2.box l cs hl
      have hn := (h.boxd l ((List.getElem?_eq_some_iff.1 hl).1)).2.1
      exact ⟨cc, E, fr, k.ch_of.at_ a1 hn, k.ch_of.nf a1 hn a2, a3⟩
    row := fun rid q hq => by
      obtain ⟨a1, a2⟩ := hl2.row rid q hq
      obtain ⟨_, b2⟩ := h.row rid q hq
      refine ⟨a1, fun ho => ?_⟩
      obtain ⟨u, c1, c2⟩ := a2 ho
      obtain ⟨u', d1, d2⟩ := b2 ho
      rw [c1] at d1; cases d1
      refine ⟨u, c1, ?_⟩
      rcases c2 with c2 | ⟨b, o, cap, h1, h2, h3, h4⟩
      · exact .inl c2
      · refine .inr ⟨b, o, cap, h1, h2, h3, ?_⟩
        rcases h4 with h4 | ⟨sz, cc, E, fr, e1, e2, e3, e4, e5, e6, e7⟩
        · exact .inl h4
        · rcases d2 with ⟨d2, _⟩ | ⟨b', o', cap', g1, _, _, g4⟩
          · rw [h1] at d2; cases d2
          · rw [h1] at g1
            simp only [Value.slice.injEq, Option.some.injEq, Addr.mk.injEq, and_true, true_and] at g1
            obtain ⟨⟨rfl, rfl⟩, rfl⟩ := g1
            rcases g4 with g4 | ⟨_, _, _, _, _, _, _, _, _, _, g7⟩
            · exact .inl g4
            · exact .inr ⟨sz, cc, E, fr, e1, e2, k.ch_of.at_ e3 g7.2.2, e4, k.ch_of.nf e3 g7.2.2 e5, e6, e7⟩
    owlt := fun b rid hb => ⟨(hl2.owlt b rid hb).1, Nat.lt_of_lt_of_le (hl2.owlt b rid hb).2 k.size⟩ }
theorem Inv.call (h : Inv G0 W0 G L st H tmps w) (hle : G.le G') (hs : Sim G' H' w') (k : Fr G w G' w') : Inv G0 W0 G' L st H' tmps w' :=
  ⟨hs, h.lr.call hle k, Fr.trans (G'' := G') (w'' := w') h.fr k, h.le.trans hle⟩
end
end Go.Abs
