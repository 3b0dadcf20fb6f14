import Derived.Test.YtfjbgmcdkhepkaaAbsK
namespace Go.Abs
set_option linter.unusedVariables false
set_option linter.unusedSimpArgs false
open Go.RowKit
section
variable {G0 : Gh} {W0 : World} {G G' : Gh} {L : Lg} {st st' : St} {H H' : Hp} {tmps : Array Value} {a : Act} {w w' : World} {P : Program} {E : Env} {o : Oper} {ex : Ex}
def resSem (tmps : Array Value) : ResultVar → Sem Value
  | .tmp t => pure (tmps.getD t undef)
  | .cell b t => do loadVar t (← asAddr (tmps.getD b undef))
theorem results_eq (fn : Func) (tmps : Array Value) : results fn tmps = (do let vs ← fn.results.mapM (resSem tmps); pure (if h : vs.size = 1 then vs[0] else .tuple vs)) := rfl
theorem resOne_sound (hI : Inv G0 W0 G L st H a.tmps w) {r : ResultVar} {v : V} (h : resOne P st H r = some v) :
    ∃ u, (resSem a.tmps r).run P w = .ok u w ∧ AR G v u := by
  cases r with
  | tmp t =>
    cases h
    exact ⟨_, rfl, rd_AR hI.lr (.tmp t)⟩
  | cell b t =>
    simp only [resOne] at h
    obtain ⟨x, h1, rfl⟩ := Option.map_eq_some_iff.1 h
    have hs := slot_R hI.lr (.tmp b)
    simp only [rdS, Act.eval] at hs
    unfold loadOp at h1
    obtain ⟨⟨cs, off⟩, h2, h3⟩ := Option.bind_eq_some_iff.1 h1
    obtain ⟨b', o', us, e, hc, hm⟩ := slotCells_sound hI h2 hs
    obtain ⟨u, hu, hs2⟩ := load_sound hI.lr h3 hc hm
    refine ⟨u, ?_, ?_⟩
    · simp only [resSem, e]
      simp [asAddr, hu]
    · have hl : LAR G L st.r.length x.raw u := by
        cases x <;> first | exact hs2 | trivial
      exact seal_AR hI.lr hl
theorem resAll_sound (hI : Inv G0 W0 G L st H a.tmps w) : ∀ (rs : List ResultVar) {vs : List V}, resAll P st H rs = some vs →
    ∃ us : List Value, (rs.mapM (resSem a.tmps)).run P w = .ok us w ∧ us.length = vs.length ∧ ∀ (j : Nat) (v : V) (u : Value), vs[j]? = some v → us[j]? = some u → AR G v u
  | [], vs, h => by
    cases h
    exact ⟨[], rfl, rfl, fun j v u h1 => by simp at h1⟩
  | r :: rs, vs, h => by
    simp only [resAll] at h
    obtain ⟨v, h1, h2⟩ := Option.bind_eq_some_iff.1 h
    obtain ⟨vs', h3, rfl⟩ := Option.map_eq_some_iff.1 h2
    obtain ⟨u, u1, u2⟩ := resOne_sound (P := P) hI h1
    obtain ⟨us, v1, v2, v3⟩ := resAll_sound hI rs h3
    refine ⟨u :: us, ?_, by simp [v2], fun j x y hx hy => ?_⟩
    · simp only [List.mapM_cons, Sem.run_bind, u1, Result.andThen_ok, v1]
      rfl
    · cases j with
      | zero => simp at hx hy; subst hx; subst hy; exact u2
      | succ j => exact v3 j x y (by simpa using hx) (by simpa using hy)
theorem out_sound (hI : Inv G0 W0 G L st H a.tmps w) {fn : Func} {out : Out} (h : outOf P fn st H = some out) : ∃ u, (results fn a.tmps).run P w = .ok u w ∧ OutR W0.heap.size G w out (.returned u) := by
  unfold outOf at h
  obtain ⟨vs, h1, h2⟩ := Option.map_eq_some_iff.1 h
  obtain ⟨us, u1, u2, u3⟩ := resAll_sound hI fn.results.toList h1
  have hrun : (results fn a.tmps).run P w = .ok (if h : us.toArray.size = 1 then us.toArray[0] else .tuple us.toArray) w := by
    rw [results_eq, Array.mapM_eq_mapM_toList]
    simp [u1]
  rw [hrun]
  cases vs with
  | nil =>
    cases us with
    | cons u us => simp at u2
    | nil =>
      cases h2
      exact ⟨_, rfl, fun _ => VR.tup [] #[] rfl (fun j c u hc => by simp at hc), fun x => by cases x⟩
  | cons v vs =>
  cases us with
  | nil => simp at u2
  | cons u us =>
  cases vs with
  | cons v2 vs =>
    cases us with
    | nil => simp at u2
    | cons u2' us =>
      cases h2
      refine ⟨.tuple (u :: u2' :: us).toArray, by simp, fun _ => VR.tup _ _ (by simpa using u2) (fun j c u hc hu hn => u3 j c u hc (by simpa using hu) hn), fun x => by cases x⟩
  | nil =>
  cases us with
  | cons u2' us => simp at u2
  | nil =>
    refine ⟨u, by simp, ?_⟩
    cases h2
    refine ⟨u3 0 v u rfl rfl, fun hg => ?_⟩
    unfold resGrow at hg
    split at hg
    · rename_i t hres
      split at hg
      · rename_i rid len hs
        split at hg
        · rename_i q hq
          simp only [Bool.and_eq_true, beq_iff_eq, Bool.not_eq_true'] at hg
          obtain ⟨⟨g1, rfl⟩, g3⟩ := hg
          have hsl := getD_slot hs (by simp)
          have hlt : t < st.s.length := (List.getElem?_eq_some_iff.1 hsl).1
          have hlt2 : t < a.tmps.size := by rw [hI.lr.size]; exact hlt
          have ht : a.tmps[t]? = some a.tmps[t] := Array.getElem?_eq_getElem hlt2
          have hsr := hI.lr.slot t _ _ hsl ht
          obtain ⟨r1, r2⟩ := hI.lr.row rid q hq
          obtain ⟨u', c1, c2⟩ := r2 g1
          have hcv : L.cv rid q.es.length = some a.tmps[t] := hsr.2
          rw [c1] at hcv
          cases hcv
          -- the value and the result are the slot's
          rw [hres] at h1
          simp only [resAll, resOne, Option.bind_some, Option.map_some, Option.some.injEq, List.cons.injEq, and_true] at h1
          have hu : u = a.tmps[t] := by
            rw [hres] at u1
            simp only [List.mapM_cons, List.mapM_nil, Sem.run_bind, resSem, Sem.run_pure, Result.andThen_ok, Result.ok.injEq, List.cons.injEq, and_true] at u1
            rw [← u1, Array.getD_eq_getD_getElem?, ht]; rfl
          have hv : v = .rsl q.es := by
            rw [← h1]
            simp only [rd, rdS, hs, Slot.raw, sealV, hq]
            unfold rowV
            rw [g3]
            simp
          refine ⟨q.es, hv, ?_, ?_⟩
          · rw [hu]; exact (r1 _ _ c1).2.1
          · rw [hu]
            rcases c2 with ⟨d1, d2, d3⟩ | ⟨b, o, cap, d1, d2, d3, d4⟩
            · rw [d2, d3] at g3; simp at g3
            · refine .inr ⟨b, o, cap, d1, fun x => (by cases x), d3, ?_⟩
              rcases d4 with d4 | ⟨sz, cc, E, fr, s1, s2, s3, s4, s5, s6, s7⟩
              · exact .inl d4
              · exact .inr ⟨sz, cc, E, fr, s1, s2, s3, s4, s5, s6, s7.2⟩
        · cases hg
      · cases hg
    · cases hg
/-- A function is as the evaluator says. -/
theorem evFun_sound {A : Notes} {C : Callee} (hS : Sound P C) (hmx : P.follows .mixedOrders = true) : Sound P (evFun P A C) := by
  intro f args H out H' h G w us hsim hl ha
  unfold evFun at h
  split at h
  · rename_i fn hf
    split at h
    · rename_i c hb
      have hpost : PostN G w (enterSt fn args) H { tmps := us ++ Array.replicate (fn.ntmps - us.size) undef, defers := [] } w := by
        refine ⟨G, { β := id, cv := fun _ _ => none, ow := fun _ => none }, ⟨hsim, {
          size := by simp [enterSt, hl]
          slot := fun s x u hs hu => by
            simp only [enterSt] at hs hu
            rw [List.getElem?_append] at hs
            rw [Array.getElem?_append, hl] at hu
            rw [List.length_map] at hs
            split at hs
            · rename_i hlt
              rw [if_pos hlt] at hu
              rw [List.getElem?_map] at hs
              obtain ⟨v, hv, rfl⟩ := Option.map_eq_some_iff.1 hs
              exact LAR.of_AR (ha s v u hv hu)
            · rw [List.getElem?_replicate] at hs
              split at hs
              · cases hs; trivial
              · cases hs
          box := fun l cs hb => by simp [enterSt] at hb
          boxd := fun l hb => by simp [enterSt] at hb
          inj := fun l l' hb => by simp [enterSt] at hb
          row := fun rid q hq => by simp [enterSt] at hq
          owlt := fun b rid hb => by cases hb }, ⟨rfl, rfl, rfl, Nat.le_refl _, fun b hb hn => ⟨rfl, hn, fun _ => rfl⟩⟩, .refl G⟩, rfl⟩
      refine calls_of_wp hf hb ?_
      split at h
      · rename_i st1 H1 hev
        obtain ⟨x, h1, h2⟩ := Option.map_eq_some_iff.1 h
        cases h2
        refine Code.wp_mono (fun e a' w' hq => ?_) (evCode_sound (E := { P, C, kill := A.kill f, grow := A.grow f, mode := A.mode f }) hS hmx c hev hpost)
        cases e <;> simp only [PostX] at hq
        obtain ⟨G1, L1, hI, hd⟩ := hq
        obtain ⟨u, r1, r2⟩ := out_sound (P := P) hI h1
        exact ⟨hd, u, r1, G1, hI.le, hI.sim, hI.fr, r2⟩
      · rename_i st1 H1 hev
        obtain ⟨x, h1, h2⟩ := Option.map_eq_some_iff.1 h
        cases h2
        refine Code.wp_mono (fun e a' w' hq => ?_) (evCode_sound (E := { P, C, kill := A.kill f, grow := A.grow f, mode := A.mode f }) hS hmx c hev hpost)
        cases e <;> simp only [PostX] at hq
        obtain ⟨G1, L1, hI, hd⟩ := hq
        obtain ⟨u, r1, r2⟩ := out_sound (P := P) hI h1
        exact ⟨hd, u, r1, G1, hI.le, hI.sim, hI.fr, r2⟩
      · rename_i v st1 H1 hev
        cases h
        refine Code.wp_mono (fun e a' w' hq => ?_) (evCode_sound (E := { P, C, kill := A.kill f, grow := A.grow f, mode := A.mode f }) hS hmx c hev hpost)
        cases e <;> simp only [PostX] at hq
        obtain ⟨⟨G1, u, q1, q2, q3, q4, q5⟩, hd⟩ := hq
        exact ⟨hd, G1, q3, q1, q2, u, q4, q5⟩
      · cases h
    · cases h
  · cases h
theorem ev_sound {A : Notes} (hmx : P.follows .mixedOrders = true) : ∀ n, Sound P (ev P A n)
  | 0 => fun f args H out H' h => by cases h
  | n + 1 => evFun_sound (ev_sound hmx n) hmx
end
end Go.Abs
