import Derived.Test.YtfjbgmcdkhepkaaAbsB
namespace Go.Abs
set_option linter.unusedVariables false
set_option linter.unusedSimpArgs false
open Go.RowKit
def PostN (G0 : Gh) (W0 : World) (st : St) (H : Hp) (a : Act) (w : World) : Prop := ∃ G L, Inv G0 W0 G L st H a.tmps w ∧ a.defers = []
def PostP (G0 : Gh) (W0 : World) (v : V) (H : Hp) (w : World) (chain : List PanicEntry) : Prop := ∃ G u, Sim G H w ∧ Fr G0 W0 G w ∧ G0.le G ∧ AR G v u ∧ chain = [{ v := u, recovered := false }]
section
variable {G0 : Gh} {W0 : World} {G G' : Gh} {L : Lg} {st : St} {H H' : Hp} {tmps : Array Value} {a : Act} {w w' : World} {P : Program} {o : Oper} {next : Act → World → Prop} {Q : Exit → Act → World → Prop}
theorem put_defers (a : Act) (d : Option Tmp) (v : Value) : (a.put d v).defers = a.defers := by cases d <;> rfl
theorem fin_val (h : Inv G0 W0 G L st H a.tmps w) (hd : a.defers = []) {s : Slot} {u : Value} (hr : (execOp a.eval o).run P w = .ok (.value u) w) (hs : SlotR G L st.b.length st.r.length s u) (hn : ∀ a' w', PostN G0 W0 (putS st o.dst s) H a' w' → next a' w') : o.wp P a w next Q :=
  wp_val hr (hn _ _ ⟨G, L, h.put o.dst s u hs, by rw [put_defers, hd]⟩)
theorem Inv.out (h : Inv G0 W0 G L st H tmps w) {g : Bool} {v : V} {u : Value} {d : Option Nat} {a : Act} {B : Nat} (ha : a.tmps = tmps) (hv : AR G v u) (hg : g = true → ∃ es, v = .rsl es ∧ u.oneCell' = true ∧ Tip G w (fun b => B ≤ b ∧ ¬ G.hb b) false es u) (hB : ∀ b rid, L.ow b = some rid → b < B)
    (hbx : ∀ l, l < st.b.length → L.β l < B) (hB0 : W0.heap.size ≤ B) : ∃ L', Inv G0 W0 G L' (callOut st d v g) H (a.put d u).tmps w := by
  subst ha
  unfold callOut
  split
  · rename_i row
    obtain ⟨es, e1, h1, ht⟩ := hg rfl
    cases e1
    have hr : rowV false row row.length = .rsl row := by simp [rowV]
    have hu : VR G (rowV false row row.length) u := by rw [hr]; exact hv (by simp)
    -- who owns the block behind it
    by_cases hx : ∃ b c E fr, (∃ o cap, u = .slice (some ⟨b, o, none⟩) row.length cap) ∧ w.heap[b]? = some (.cells c E fr)
    · obtain ⟨b, c, E, fr, ⟨o, cap, rfl⟩, hb⟩ := hx
      by_cases hin : B ≤ b ∧ ¬ G.hb b
      · have hnew := h.lr.newRow (ns := false) (es := row) (u := .slice (some ⟨b, o, none⟩) row.length cap) (fun b' => if b' = b then some st.r.length else L.ow b') (fun b' rid hr => by
            have : b' ≠ b := fun e => by have := hB b' rid hr; omega
            rw [if_neg this]; exact hr) (fun b' => by
            by_cases e : b' = b
            · rw [if_pos e]; exact .inr (.inr rfl)
            · rw [if_neg e]; exact .inr (.inl rfl)) (fun l hl => by
            rw [if_neg (fun e => by have := hbx l hl; omega)]; exact (h.lr.boxd l hl).2.2.1) (fun b' rid hr => by
            split at hr
            · rename_i e; subst e; exact ⟨by omega, lt_of_block hb⟩
            · exact h.lr.owlt b' rid hr) h1 hu (by
            rcases ht with ⟨t1, _⟩ | ⟨b2, o2, cap2, t1, t2, t3, t4⟩
            · cases t1
            · cases t1
              refine .inr ⟨b, o, cap, rfl, t2, t3, ?_⟩
              rcases t4 with t4 | ⟨sz, cc, E2, f2, s1, s2, s3, s4, s5, s6, s7⟩
              · exact .inl t4
              · exact .inr ⟨sz, cc, E2, f2, s1, s2, s3, s4, s5, s6, by simp, by omega, s7.2⟩)
        have hput := hnew.put d (.v (.lr st.r.length row.length)) (.slice (some ⟨b, o, none⟩) row.length cap) ⟨by simp, by simp⟩ a.defers
        simp only [frow, putS_r]
        exact ⟨_, h.sim, hput, h.fr, h.le⟩
      · have hfull : Tip G w (fun _ => False) false row (.slice (some ⟨b, o, none⟩) row.length cap) := by
          rcases ht with ht | ⟨b2, o2, cap2, t1, t2, t3, t4⟩
          · exact .inl ht
          · cases t1
            rcases t4 with t4 | ⟨sz, cc, E2, f2, s1, s2, s3, s4, s5, s6, s7⟩
            · exact .inr ⟨b, o, cap, rfl, t2, t3, .inl t4⟩
            · exact absurd s7 hin
        obtain ⟨L', h2, h3⟩ := h.frowFull h1 hu hfull
        refine ⟨L', ?_⟩
        simp only [frow, putS_r]
        exact h2.put d (.v (.lr st.r.length row.length)) _ ⟨by simp, h3⟩
    · have hfull : Tip G w (fun _ => False) false row u := by
        rcases ht with ht | ⟨b2, o2, cap2, rfl, t2, t3, t4⟩
        · exact .inl ht
        · rcases t4 with t4 | ⟨sz, cc, E2, f2, s1, s2, s3, s4, s5, s6, s7⟩
          · exact .inr ⟨b2, o2, cap2, rfl, t2, t3, .inl t4⟩
          · exact absurd ⟨b2, cc, E2, f2, ⟨o2, cap2, rfl⟩, s3⟩ hx
      obtain ⟨L', h2, h3⟩ := h.frowFull h1 hu hfull
      refine ⟨L', ?_⟩
      simp only [frow, putS_r]
      exact h2.put d (.v (.lr st.r.length row.length)) _ ⟨by simp, h3⟩
  · exact ⟨L, h.put d (.v v) u (LAR.of_AR hv)⟩
/-- A call of a function -/
theorem call_sound {C : Callee} (hS : Sound P C) (h : Inv G0 W0 G L st H a.tmps w) (hd : a.defers = []) {f : FuncId} {args : List V} {us : Array Value} {ex : Ex} {st' : St} {H' : Hp} (he : (execOp a.eval o).run P w = .ok (.enter f us) w) (hl : us.size = args.length)
    (ha : ∀ (j : Nat) (v : V) (u : Value), args[j]? = some v → us[j]? = some u → AR G v u) (hr : after st o.dst (C f args H) = some (ex, st', H')) (hn : ex = .normal → ∀ a' w', PostN G0 W0 st' H' a' w' → next a' w')
    (hp : ∀ v, ex = .panic v → ∀ a' w' chain, PostP G0 W0 v H' w' chain → a'.defers = [] → Q (.panic chain) a' w') : o.wp P a w next Q := by
  unfold after at hr
  split at hr
  · rename_i v g H2 hc
    cases hr
    unfold Oper.wp
    rw [he]
    refine (hS f args H _ _ hc G w us h.sim hl ha).mono ?_
    rintro e w' ⟨G', hle, hsim, hfr, hout⟩
    cases e with
    | returned u =>
      obtain ⟨h1, h2⟩ := hout
      have hI := h.call hle hsim hfr
      obtain ⟨L', hL⟩ := hI.out (a := a) (d := o.dst) (B := w.heap.size) rfl h1 h2 (fun b rid hb => (h.lr.owlt b rid hb).2) (fun l hl => h.lr.box_lt hl) h.fr.size
      exact hn rfl _ _ ⟨G', L', hL, by rw [put_defers, hd]⟩
    | panicked chain => exact hout.elim
    | outgrown => exact hout.elim
  · rename_i v H2 hc
    cases hr
    unfold Oper.wp
    rw [he]
    refine (hS f args H _ _ hc G w us h.sim hl ha).mono ?_
    rintro e w' ⟨G', hle, hsim, hfr, hout⟩
    cases e with
    | returned u => exact hout.elim
    | panicked chain =>
      obtain ⟨u, h1, h2⟩ := hout
      exact hp v rfl _ _ _ ⟨G', u, hsim, Fr.trans (G'' := G') (w'' := w') h.fr hfr, h.le.trans hle, h1, h2⟩ hd
    | outgrown => exact hout.elim
  · cases hr
theorem run_callFunc {f : FuncId} {args : Array Value} (h : callable P f = true) : (callFunc f args).run P w = .ok (.enter f args) w := by
  unfold callable at h
  cases hf : P.funcs[f]? with
  | none => rw [hf] at h; cases h
  | some fn =>
    rw [hf] at h
    simp only [Option.any_some, Bool.and_eq_true, bne_iff_ne, ne_eq] at h
    obtain ⟨h1, h2⟩ := h
    have h3 : fn.body ≠ none := fun e => by rw [e] at h1; cases h1
    simp only [callFunc]
    simp [hf, h2]
    intro e
    exact absurd e h3
end
end Go.Abs
