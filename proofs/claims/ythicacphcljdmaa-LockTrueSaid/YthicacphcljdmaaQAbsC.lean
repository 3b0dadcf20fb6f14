/- A part of the proofs over this seat. -/
import Derived.Test.YthicacphcljdmaaQAbsB
namespace Go.Abs
set_option linter.unusedVariables false
set_option linter.unusedSimpArgs false
open Go.RowKit
def PostN (G0 : Gh) (W0 : World) (st : St) (H : Hp) (a : Act) (w : World) : Prop := ∃ G L, Inv G0 W0 G L st H a.tmps w ∧ a.defers = []
def PostP (G0 : Gh) (W0 : World) (v : V) (H : Hp) (w : World) (chain : List PanicEntry) : Prop := ∃ G u, Sim G H w ∧ Fr G0 W0 G w ∧ G0.le G ∧ AR G v u ∧ chain = [{ v := u, recovered := false }]
section
variable {G0 : Gh} {W0 : World} {G G' : Gh} {L : Lg} {st : St} {H H' : Hp} {tmps : Array Value} {a : Act} {w w' : World} {P : Program} {o : Oper} {next : Act → World → Prop} {Q : Exit → Act → World → Prop}
theorem put_defers (a : Act) (d : Option Tmp) (v : Value) : (a.put d v).defers = a.defers := by cases d <;> rfl
theorem fin_val (h : Inv G0 W0 G L st H a.tmps w) (hd : a.defers = []) {s : Slot} {u : Value} (hr : (execOp a.eval o).run P w = .ok (.value u) w) (hs : SlotR G L st.b.length st.r.length s u) (hn : ∀ a' w', PostN G0 W0 (putS st o.dst s) H a' w' → next a' w') : o.wp P a w next Q :=
  wp_val hr (hn _ _ ⟨G, L, h.put o.dst s u hs, by rw [put_defers, hd]⟩)
theorem Inv.out (h : Inv G0 W0 G L st H tmps w) {g : Bool} {v : V} {u : Value} {d : Option Nat} {a : Act} {B : Nat} (ha : a.tmps = tmps) (hv : AR G v u) (hg : g = true → ∃ es, v = .rsl es ∧ u.oneCell' = true ∧ Tip G w (fun b => B ≤ b ∧ ¬ G.hb b) false es u) (hB : ∀ b rid, L.ow b = some rid → b < B)
    (hbx : ∀ l, l < st.b.length → L.β l < B) (hB0 : W0.heap.size ≤ B) : ∃ L', Inv G0 W0 G L' (callOut st d v g) H (a.put d u).tmps w := by
  subst ha
  unfold callOut
  split
  · rename_i row
    obtain ⟨es, e1, h1, ht⟩ := hg rfl
    cases e1
    have hr : rowV false row row.length = .rsl row := by simp [rowV]
    have hu : VR G (rowV false row row.length) u := by rw [hr]; exact hv (by simp)
    -- who owns the block behind it
    by_cases hx : ∃ b c E fr, (∃ o cap, u = .slice (some ⟨b, o, none⟩) row.length cap) ∧ w.heap[b]? = some (.cells c E fr)
    · obtain ⟨b, c, E, fr, ⟨o, cap, rfl⟩, hb⟩ := hx
      by_cases hin : B ≤ b ∧ ¬ G.hb b
      · have hnew := h.lr.newRow (ns := false) (es := row) (u := .slice (some ⟨b, o, none⟩) row.length cap) (fun b' => if b' = b then some st.r.length else L.ow b') (fun b' rid hr => by
            have : b' ≠ b := fun e => by have := hB b' rid hr; omega
            rw [if_neg this]; exact hr) (fun b' => by
            by_cases e : b' = b
            · rw [if_pos e]; exact .inr (.inr rfl)
            · rw [if_neg e]; exact .inr (.inl rfl)) (fun l hl => by
            rw [if_neg (fun e => by have := hbx l hl; omega)]; exact (h.lr.boxd l hl).2.2.1) (fun b' rid hr => by
            split at hr
            · rename_i e; subst e; exact ⟨by omega, lt_of_block hb⟩
            · exact h.lr.owlt b' rid hr) h1 hu (by
            rcases ht with ⟨t1, _⟩ | ⟨b2, o2, cap2, t1, t2, t3, t4⟩
            · cases t1
            · cases t1
              refine .inr ⟨b, o, cap, rfl, t2, t3, ?_⟩
              rcases t4 with t4 | ⟨sz, cc, E2, f2, s1, s2, s3, s4, s5, s6, s7⟩
              · exact .inl t4
              · exact .inr ⟨sz, cc, E2, f2, s1, s2, s3, s4, s5, s6, by simp, by omega, s7.2⟩)
        have hput := hnew.put d (.v (.lr st.r.length row.length)) (.slice (some ⟨b, o, none⟩) row.length cap) ⟨by simp, by simp⟩ a.defers
        simp only [frow, putS_r]
        exact ⟨_, h.sim, hput, h.fr, h.le⟩
      · have hfull : Tip G w (fun _ => False) false row (.slice (some ⟨b, o, none⟩) row.length cap) := by
          rcases ht with ht | ⟨b2, o2, cap2, t1, t2, t3, t4⟩
          · exact .inl ht
          · cases t1
            rcases t4 with t4 | ⟨sz, cc, E2, f2, s1, s2, s3, s4, s5, s6, s7⟩
            · exact .inr ⟨b, o, cap, rfl, t2, t3, .inl t4⟩
            · exact absurd s7 hin
        obtain ⟨L', h2, h3⟩ := h.frowFull h1 hu hfull
        refine ⟨L', ?_⟩
        simp only [frow, putS_r]
        exact h2.put d (.v (.lr st.r.length row.length)) _ ⟨by simp, h3⟩
    · have hfull : Tip G w (fun _ => False) false row u := by
        rcases ht with ht | ⟨b2, o2, cap2, rfl, t2, t3, t4⟩
        · exact .inl ht
        · rcases t4 with t4 | ⟨sz, cc, E2, f2, s1, s2, s3, s4, s5, s6, s7⟩
          · exact .inr ⟨b2, o2, cap2, rfl, t2, t3, .inl t4⟩
          · exact absurd ⟨b2, cc, E2, f2, ⟨o2, cap2, rfl⟩, s3⟩ hx
      obtain ⟨L', h2, h3⟩ := h.frowFull h1 hu hfull
      refine ⟨L', ?_⟩
      simp only [frow, putS_r]
      exact h2.put d (.v (.lr st.r.length row.length)) _ ⟨by simp, h3⟩
  · exact ⟨L, h.put d (.v v) u (LAR.of_AR hv)⟩
/-- A row that was written to is written to no more: what it holds is known from now on. -/
theorem Inv.shutIn (h : Inv G0 W0 G L st H tmps w) {id n : Nat} {es : List V} {u : Value} (he : H[id]? = some (.cells es)) (hv : VR G (.sl id 0 n) u) (hn : es.length = n) : ∃ G', Inv G0 W0 G' L st (H.set id .dead) tmps w ∧ G.le G' ∧ VR G' (.rsl es) u := by
  subst hn
  cases hv with
  | sl _ _ _ cap hid hcap hcp =>
    obtain ⟨cc, E, fr, a1, a2, a3, a4, a5, a6, a7⟩ := h.sim.cells id es he
    obtain ⟨hb1, hb2, hb3⟩ := h.sim.hb id _ he rfl
    have ht := a4.take
    rw [flat_length a3] at ht
    let K' : Nat → Nat → Option Value := fun b o => if b = G.φ id then (cc.toList.take (es.length * G.wd id))[o]? else G.K b o
    have hKle : ∀ b o x, G.K b o = some x → K' b o = some x := fun b o x hk => by
      show (if _ then _ else _) = _
      rw [if_neg]; exact hk
      rintro rfl; rw [hb3 o] at hk; cases hk
    have hle : G.le { G with K := K' } := ⟨Nat.le_refl _, fun _ _ => rfl, fun _ _ => rfl, fun _ _ _ x => x, hKle, fun _ _ => rfl⟩
    have hKn : ∀ b, ¬ G.hb b → ∀ o, K' b o = G.K b o := fun b hb o => by
      show (if _ then _ else _) = _
      rw [if_neg]; rintro rfl; exact hb hb1
    have hKne : ∀ b, b ≠ G.φ id → ∀ o, K' b o = G.K b o := fun b hb o => if_neg hb
    have old : ∀ {k : Nat} {x : Blk}, (H.set id .dead)[k]? = some x → x.live = true ∨ (∃ ns es, x = .row ns es) → k ≠ id ∧ H[k]? = some x := fun {k x} hk hx => by
      rw [List.getElem?_set] at hk
      split at hk
      · rename_i e1
        subst e1
        split at hk
        · cases hk
          rcases hx with hx | ⟨_, _, hx⟩ <;> cases hx
        · cases hk
      · rename_i e1; exact ⟨fun e2 => e1 e2.symm, hk⟩
    have hne : ∀ {k : Nat} {x : Blk}, k ≠ id → H[k]? = some x → x.live = true → G.φ k ≠ G.φ id := fun hk hx hl e => hk (h.sim.inj _ id _ _ hx he hl rfl e)
    refine ⟨{ G with K := K' }, {
      sim := {
        len := by simp [h.sim.len]
        K := fun b o x hk => by
          change (if b = G.φ id then (cc.toList.take (es.length * G.wd id))[o]? else G.K b o) = some x at hk
          split at hk
          · rename_i e; subst e
            rw [cell_of_row w _ _ cc E fr a1]
            rw [List.getElem?_take] at hk
            split at hk
            · simpa using hk
            · cases hk
          · exact h.sim.K b o x hk
        cells := fun k es2 hk => by
          obtain ⟨_, h1⟩ := old hk (.inl rfl)
          obtain ⟨c2, E2, f2, e1, e2, e3, e4, e5⟩ := h.sim.cells k es2 h1
          exact ⟨c2, E2, f2, e1, e2, e3, e4.mono (fun _ _ r => r.mono hle), e5⟩
        map := fun k es2 hk => by
          obtain ⟨_, h1⟩ := old hk (.inl rfl)
          obtain ⟨ms, cl, e1, e2, e3⟩ := h.sim.map k es2 h1
          refine ⟨ms, cl, e1, e2, fun j k v hj => ?_⟩
          obtain ⟨m, b1, b2, b3, b4⟩ := e3 j k v hj
          exact ⟨m, b1, b2.mono hle, b3, b4.mono hle⟩
        row := fun k ns2 es2 hk => by
          obtain ⟨_, h1⟩ := old hk (.inr ⟨_, _, rfl⟩)
          obtain ⟨e1, v, e2, e3⟩ := h.sim.row k ns2 es2 h1
          refine ⟨fun len x hx => ⟨(e1 len x hx).1, (e1 len x hx).2.mono hle⟩, v, e2, ?_⟩
          rcases e3 with t | ⟨b', o', cap, t1, t2, t3, t4⟩
          · exact .inl t
          · refine .inr ⟨b', o', cap, t1, t2, t3, ?_⟩
            rcases t4 with t4 | ⟨sz, c3, E3, f3, s1, s2, s3, s4, s5, s6, s7⟩
            · exact .inl t4
            · refine .inr ⟨sz, c3, E3, f3, s1, s2, s3, s4, s5, fun j hj => ?_, s7⟩
              show K' b' j = none
              rw [hKne b' (fun e => by have h9 := s7.1; rw [e, hb2] at h9; cases h9)]; exact s6 j hj
        inj := fun k k' x y hk hk' lx ly e => by
          obtain ⟨_, h1⟩ := old hk (.inl lx)
          obtain ⟨_, h2⟩ := old hk' (.inl ly)
          exact h.sim.inj k k' x y h1 h2 lx ly e
        hb := fun k x hk lx => by
          obtain ⟨h0, h1⟩ := old hk (.inl lx)
          obtain ⟨b1, b2, b3⟩ := h.sim.hb k x h1 lx
          exact ⟨b1, b2, fun o => (hKne _ (hne h0 h1 lx) o).trans (b3 o)⟩
        cvn := h.sim.cvn
        hblt := h.sim.hblt
        owhb := h.sim.owhb }
      lr := h.lr.heap (G' := { G with K := K' }) hle (fun b _ hn o => hKn b hn o) (fun _ _ x => x)
      fr := Fr.heap (G := G) (G' := { G with K := K' }) h.fr (fun b _ hn o => hKn b hn o) (fun _ _ x => x)
      le := h.le.trans hle }, hle, ?_⟩
    rw [Nat.zero_mul]
    exact VR.rsl_mk (G := { G with K := K' }) a3 (ht.mono fun _ _ r => r.mono hle) (fun j x hj => by
      rw [Nat.zero_add]
      show (if _ then _ else _) = _
      rw [if_pos rfl]; exact hj) hcap
theorem Inv.sealH (h : Inv G0 W0 G L st H tmps w) (m : Mode) {v : V} {u : Value} (hv : AR G v u) : ∃ G', G.le G' ∧ Inv G0 W0 G' L st (sealH m v H).2 tmps w ∧ AR G' (sealH m v H).1 u := by
  unfold Abs.sealH
  split
  · rename_i id n
    split
    · rename_i es he
      split
      · rename_i hl
        obtain ⟨G', h1, h2, h3⟩ := h.shutIn he (hv (by simp)) hl
        exact ⟨G', h2, h1, fun _ => h3⟩
      · exact ⟨G, .refl G, h, hv⟩
    · exact ⟨G, .refl G, h, hv⟩
  · exact ⟨G, .refl G, h, hv⟩
/-- A call of a function -/
theorem call_sound {C : Callee} {gl : Nat → V} (hgl : GlOK gl G) (hS : Sound P gl C) (h : Inv G0 W0 G L st H a.tmps w) (hd : a.defers = []) {f : FuncId} {args : List V} {us : Array Value} {ex : Ex} {st' : St} {H' : Hp} (he : (execOp a.eval o).run P w = .ok (.enter f us) w) (hl : us.size = args.length)
    (ha : ∀ (j : Nat) (v : V) (u : Value), args[j]? = some v → us[j]? = some u → AR G v u) {m : Mode} (hr : after m st o.dst (C f args H) = some (ex, st', H')) (hn : ex = .normal → ∀ a' w', PostN G0 W0 st' H' a' w' → next a' w')
    (hp : ∀ v, ex = .panic v → ∀ a' w' chain, PostP G0 W0 v H' w' chain → a'.defers = [] → Q (.panic chain) a' w') : o.wp P a w next Q := by
  unfold after at hr
  split at hr
  · rename_i v H2 hc
    cases hr
    unfold Oper.wp
    rw [he]
    refine (hS f args H _ _ hc G w us hgl h.sim hl ha).mono ?_
    rintro e w' ⟨G', hle, hsim, hfr, hout⟩
    cases e with
    | returned u =>
      obtain ⟨h1, h2⟩ := hout
      have hI := h.call hle hsim hfr
      obtain ⟨L', hL⟩ := hI.out (a := a) (d := o.dst) (B := w.heap.size) rfl h1 h2 (fun b rid hb => (h.lr.owlt b rid hb).2) (fun l hl => h.lr.box_lt hl) h.fr.size
      exact hn rfl _ _ ⟨G', L', hL, by rw [put_defers, hd]⟩
    | panicked chain => exact hout.elim
    | outgrown => exact hout.elim
  · rename_i v H2 hc
    cases hr
    unfold Oper.wp
    rw [he]
    refine (hS f args H _ _ hc G w us hgl h.sim hl ha).mono ?_
    rintro e w' ⟨G', hle, hsim, hfr, hout⟩
    cases e with
    | returned u =>
      obtain ⟨h1, h2⟩ := hout
      have hI := h.call hle hsim hfr
      obtain ⟨G3, _, h3, h4⟩ := hI.sealH m h1
      exact hn rfl _ _ ⟨G3, L, h3.put o.dst _ u (LAR.of_AR h4), by rw [put_defers, hd]⟩
    | panicked chain => exact hout.elim
    | outgrown => exact hout.elim
  · rename_i v H2 hc
    cases hr
    unfold Oper.wp
    rw [he]
    refine (hS f args H _ _ hc G w us hgl h.sim hl ha).mono ?_
    rintro e w' ⟨G', hle, hsim, hfr, hout⟩
    cases e with
    | returned u => exact hout.elim
    | panicked chain =>
      obtain ⟨u, h1, h2⟩ := hout
      exact hp v rfl _ _ _ ⟨G', u, hsim, Fr.trans (G'' := G') (w'' := w') h.fr hfr, h.le.trans hle, h1, h2⟩ hd
    | outgrown => exact hout.elim
  · cases hr
theorem run_callFunc {f : FuncId} {args : Array Value} (h : callable P f = true) : (callFunc f args).run P w = .ok (.enter f args) w := by
  unfold callable at h
  cases hf : P.funcs[f]? with
  | none => rw [hf] at h; cases h
  | some fn =>
    rw [hf] at h
    simp only [Option.any_some, Bool.and_eq_true, bne_iff_ne, ne_eq] at h
    obtain ⟨h1, h2⟩ := h
    have h3 : fn.body ≠ none := fun e => by rw [e] at h1; cases h1
    simp only [callFunc]
    simp [hf, h2]
    intro e
    exact absurd e h3
end
end Go.Abs
