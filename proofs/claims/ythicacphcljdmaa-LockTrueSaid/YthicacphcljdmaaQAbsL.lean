/- A part of the proofs over this seat. -/
import Derived.Test.YthicacphcljdmaaQAbsK
namespace Go.Abs
set_option linter.unusedVariables false
set_option linter.unusedSimpArgs false
open Go.RowKit
section
variable {G0 : Gh} {W0 : World} {G G' : Gh} {L : Lg} {st st' : St} {H H' : Hp} {tmps : Array Value} {a : Act} {w w' : World} {P : Program} {E : Env} {o : Oper} {ex : Ex}
def resSem (tmps : Array Value) : ResultVar → Sem Value
  | .tmp t => pure (tmps.getD t undef)
  | .cell b t => do loadVar t (← asAddr (tmps.getD b undef))
theorem results_eq (fn : Func) (tmps : Array Value) : results fn tmps = (do let vs ← fn.results.mapM (resSem tmps); pure (if h : vs.size = 1 then vs[0] else .tuple vs)) := rfl
theorem resOne_sound (hI : Inv G0 W0 G L st H a.tmps w) {r : ResultVar} {v : V} (h : resOne P st H r = some v) :
    ∃ u, (resSem a.tmps r).run P w = .ok u w ∧ AR G v u := by
  cases r with
  | tmp t =>
    cases h
    exact ⟨_, rfl, rd_AR hI.lr (.tmp t)⟩
  | cell b t =>
    simp only [resOne] at h
    obtain ⟨x, h1, rfl⟩ := Option.map_eq_some_iff.1 h
    have hs := slot_R hI.lr (.tmp b)
    simp only [rdS, Act.eval] at hs
    unfold loadOp at h1
    obtain ⟨⟨cs, off⟩, h2, h3⟩ := Option.bind_eq_some_iff.1 h1
    obtain ⟨b', o', us, e, hc, hm⟩ := slotCells_sound hI h2 hs
    obtain ⟨u, hu, hs2⟩ := load_sound hI.lr h3 hc hm
    refine ⟨u, ?_, ?_⟩
    · simp only [resSem, e]
      simp [asAddr, hu]
    · have hl : LAR G L st.r.length x.raw u := by
        cases x <;> first | exact hs2 | trivial
      exact seal_AR hI.lr hl
theorem resAll_sound (hI : Inv G0 W0 G L st H a.tmps w) : ∀ (rs : List ResultVar) {vs : List V}, resAll P st H rs = some vs →
    ∃ us : List Value, (rs.mapM (resSem a.tmps)).run P w = .ok us w ∧ us.length = vs.length ∧ ∀ (j : Nat) (v : V) (u : Value), vs[j]? = some v → us[j]? = some u → AR G v u
  | [], vs, h => by
    cases h
    exact ⟨[], rfl, rfl, fun j v u h1 => by simp at h1⟩
  | r :: rs, vs, h => by
    simp only [resAll] at h
    obtain ⟨v, h1, h2⟩ := Option.bind_eq_some_iff.1 h
    obtain ⟨vs', h3, rfl⟩ := Option.map_eq_some_iff.1 h2
    obtain ⟨u, u1, u2⟩ := resOne_sound (P := P) hI h1
    obtain ⟨us, v1, v2, v3⟩ := resAll_sound hI rs h3
    refine ⟨u :: us, ?_, by simp [v2], fun j x y hx hy => ?_⟩
    · simp only [List.mapM_cons, Sem.run_bind, u1, Result.andThen_ok, v1]
      rfl
    · cases j with
      | zero => simp at hx hy; subst hx; subst hy; exact u2
      | succ j => exact v3 j x y (by simpa using hx) (by simpa using hy)
theorem out_sound (hI : Inv G0 W0 G L st H a.tmps w) {fn : Func} {out : Out} (h : outOf P fn st H = some out) : ∃ u, (results fn a.tmps).run P w = .ok u w ∧ OutR W0.heap.size G w out (.returned u) := by
  unfold outOf at h
  obtain ⟨vs, h1, h2⟩ := Option.map_eq_some_iff.1 h
  obtain ⟨us, u1, u2, u3⟩ := resAll_sound hI fn.results.toList h1
  have hrun : (results fn a.tmps).run P w = .ok (if h : us.toArray.size = 1 then us.toArray[0] else .tuple us.toArray) w := by
    rw [results_eq, Array.mapM_eq_mapM_toList]
    simp [u1]
  rw [hrun]
  cases vs with
  | nil =>
    cases us with
    | cons u us => simp at u2
    | nil =>
      cases h2
      exact ⟨_, rfl, fun _ => VR.tup [] #[] rfl (fun j c u hc => by simp at hc), fun x => by cases x⟩
  | cons v vs =>
  cases us with
  | nil => simp at u2
  | cons u us =>
  cases vs with
  | cons v2 vs =>
    cases us with
    | nil => simp at u2
    | cons u2' us =>
      cases h2
      refine ⟨.tuple (u :: u2' :: us).toArray, by simp, fun _ => VR.tup _ _ (by simpa using u2) (fun j c u hc hu hn => u3 j c u hc (by simpa using hu) hn), fun x => by cases x⟩
  | nil =>
  cases us with
  | cons u2' us => simp at u2
  | nil =>
    refine ⟨u, by simp, ?_⟩
    cases h2
    refine ⟨u3 0 v u rfl rfl, fun hg => ?_⟩
    unfold resGrow at hg
    split at hg
    · rename_i t hres
      split at hg
      · rename_i rid len hs
        split at hg
        · rename_i q hq
          simp only [Bool.and_eq_true, beq_iff_eq, Bool.not_eq_true'] at hg
          obtain ⟨⟨g1, rfl⟩, g3⟩ := hg
          have hsl := getD_slot hs (by simp)
          have hlt : t < st.s.length := (List.getElem?_eq_some_iff.1 hsl).1
          have hlt2 : t < a.tmps.size := by rw [hI.lr.size]; exact hlt
          have ht : a.tmps[t]? = some a.tmps[t] := Array.getElem?_eq_getElem hlt2
          have hsr := hI.lr.slot t _ _ hsl ht
          obtain ⟨r1, r2⟩ := hI.lr.row rid q hq
          obtain ⟨u', c1, c2⟩ := r2 g1
          have hcv : L.cv rid q.es.length = some a.tmps[t] := hsr.2
          rw [c1] at hcv
          cases hcv
          -- the value and the result are the slot's
          rw [hres] at h1
          simp only [resAll, resOne, Option.bind_some, Option.map_some, Option.some.injEq, List.cons.injEq, and_true] at h1
          have hu : u = a.tmps[t] := by
            rw [hres] at u1
            simp only [List.mapM_cons, List.mapM_nil, Sem.run_bind, resSem, Sem.run_pure, Result.andThen_ok, Result.ok.injEq, List.cons.injEq, and_true] at u1
            rw [← u1, Array.getD_eq_getD_getElem?, ht]; rfl
          have hv : v = .rsl q.es := by
            rw [← h1]
            simp only [rd, rdS, hs, Slot.raw, sealV, hq]
            unfold rowV
            rw [g3]
            simp
          refine ⟨q.es, hv, ?_, ?_⟩
          · rw [hu]; exact (r1 _ _ c1).2.1
          · rw [hu]
            rcases c2 with ⟨d1, d2, d3⟩ | ⟨b, o, cap, d1, d2, d3, d4⟩
            · rw [d2, d3] at g3; simp at g3
            · refine .inr ⟨b, o, cap, d1, fun x => (by cases x), d3, ?_⟩
              rcases d4 with d4 | ⟨sz, cc, E, fr, s1, s2, s3, s4, s5, s6, s7⟩
              · exact .inl d4
              · exact .inr ⟨sz, cc, E, fr, s1, s2, s3, s4, s5, s6, s7.2⟩
        · cases hg
      · cases hg
    · cases hg
/-! A call without the caller's heap -/
def Gh.bare (G : Gh) : Gh := { G with n := 0, cv := fun _ _ => none, hb := fun _ => False, ow := fun _ => none }
theorem noHeapL_mem : ∀ {l : List V}, noHeapL l = true → ∀ (j : Nat) (c : V), l[j]? = some c → noHeap c = true
  | [], _, j, c, h => by simp at h
  | v :: vs, h, j, c, hc => by
    simp only [noHeapL, Bool.and_eq_true] at h
    cases j with
    | zero => simp at hc; rw [← hc]; exact h.1
    | succ j => exact noHeapL_mem h.2 j c (by simpa using hc)
theorem VR.bare {G G' : Gh} (hK : ∀ b o u, G.K b o = some u → G'.K b o = some u) {v : V} {u : Value} (r : VR G v u) (hv : noHeap v = true) : VR G' v u := by
  have cellsNo : ∀ {e : V} {j : Nat} {c : V}, noHeap e = true → e.cells[j]? = some c → noHeap c = true := fun {e j c} he hc => by
    by_cases hag : ∃ cs, e = .agg cs
    · obtain ⟨cs, rfl⟩ := hag
      simp only [noHeap] at he
      exact noHeapL_mem he j c hc
    · have e1 : e.cells = [e] := by cases e <;> first | rfl | exact absurd ⟨_, rfl⟩ hag
      rw [e1] at hc
      cases j with
      | zero => simp at hc; rw [← hc]; exact he
      | succ j => simp at hc
  induction r with
  | bool b => exact .bool b
  | int k n => exact .int k n
  | str s => exact .str s
  | nilp => exact .nilp
  | ptr id i off hi => cases hv
  | ept e off b o f h1 h2 _ ih =>
    simp only [noHeap] at hv
    exact .ept e off b o f (fun j c hc => hK _ _ _ (h1 j c hc)) h2 (fun j c hc hn => ih j c hc hn (cellsNo hv hc))
  | nils => exact .nils
  | rsl row b o sz cap f h1 h2 h3 _ h5 ih =>
    simp only [noHeap] at hv
    exact .rsl row b o sz cap f h1 (fun i e j c a b => hK _ _ _ (h2 i e j c a b)) h3 (fun i e j c a b hn => ih i e j c a b hn (cellsNo (noHeapL_mem hv i e a) b)) h5
  | rsl0 a cap => exact .rsl0 a cap
  | emp b o => exact .emp b o
  | sl id lo len cap hi hc => cases hv
  | hr id len base cap hi hu => cases hv
  | agg cs us h1 h2 _ ih => simp only [noHeap] at hv; exact .agg cs us h1 h2 fun j c u a b hn => ih j c u a b hn (noHeapL_mem hv j c a)
  | tup cs us h1 _ ih => simp only [noHeap] at hv; exact .tup cs us h1 fun j c u a b hn => ih j c u a b hn (noHeapL_mem hv j c a)
  | fn f first cap first' cap' h1 h2 _ _ i1 i2 =>
    simp only [noHeap, Bool.and_eq_true] at hv
    exact .fn f first cap first' cap' h1 h2 (fun j c u a b hn => i1 j c u a b hn (noHeapL_mem hv.1 j c a)) (fun j c u a b hn => i2 j c u a b hn (noHeapL_mem hv.2 j c a))
  | nilf => exact .nilf
  | ifc t v u _ ih => simp only [noHeap] at hv; exact .ifc t v u fun hn => ih hn hv
  | nili => exact .nili
  | map id hi => cases hv
  | nilm => exact .nilm
theorem wrap_sound {gl : Nat → V} {p : FuncId → Bool} {C : Callee} (hS : Sound P gl C) : Sound P gl (wrapC p C) := by
  intro f args H out H' h G w us hgl hsim hl ha
  unfold wrapC at h
  split at h
  · rename_i hp
    simp only [Bool.and_eq_true] at hp
    split at h
    · rename_i out2 H2 hc
      split at h
      · rename_i hno
        cases h
        have hb : ∀ b o u, G.K b o = some u → G.bare.K b o = some u := fun b o u x => x
        have hs0 : Sim G.bare [] w := {
          len := rfl, K := hsim.K, cells := fun id es h => by simp at h, map := fun id es h => by simp at h, row := fun id ns es h => by simp at h
          inj := fun i j x y h => by simp at h
          hb := fun i x h => by simp at h
          cvn := fun i l u h => by cases h
          hblt := fun b h => h.elim
          owhb := fun b i h => by cases h }
        refine (hS f args [] out H2 hc G.bare w us (fun g hg => ⟨(hgl g hg).1, (hgl g hg).2.bare hb (by simp only [noHeap]; exact (hgl g hg).1)⟩) hs0 hl (fun j v u hv hu hn => (ha j v u hv hu hn).bare hb (noHeapL_mem hp.2 j v hv))).mono ?_
        rintro e w' ⟨G2, hle, hs2, hfr, hout⟩
        have hK : ∀ b, b < w.heap.size → ∀ o, G2.K b o = G.K b o := fun b hb o => (hfr.blk b hb (fun x => x)).2.2 o
        have hch : Ch (fun _ => False) w w' := ⟨hfr.os, hfr.tape, hfr.output, hfr.size, fun b hb _ => (hfr.blk b hb (fun x => x)).1⟩
        refine ⟨{ G with K := G2.K }, ⟨Nat.le_refl _, fun _ _ => rfl, fun _ _ => rfl, fun _ _ _ x => x, hle.K, fun _ _ => rfl⟩, hsim.imm hK hs2.K hch, ⟨hfr.os, hfr.tape, hfr.output, hfr.size, fun b hb hn => ⟨(hfr.blk b hb (fun x => x)).1, hn, hK b hb⟩⟩, ?_⟩
        cases out with
        | ret v g =>
          cases e with
          | returned u =>
            obtain ⟨h1, h2⟩ := hout
            refine ⟨fun hn => VR.bare (G := G2) (G' := { G with K := G2.K }) (fun _ _ _ x => x) (h1 hn) hno, fun hg => ?_⟩
            obtain ⟨es, e1, e2, e3⟩ := h2 hg
            refine ⟨es, e1, e2, ?_⟩
            rcases e3 with e3 | ⟨b, o, cap, t1, t2, t3, t4⟩
            · exact .inl e3
            · refine .inr ⟨b, o, cap, t1, t2, t3, ?_⟩
              rcases t4 with t4 | ⟨sz, cc, E, fr, s1, s2, s3, s4, s5, s6, s7⟩
              · exact .inl t4
              · exact .inr ⟨sz, cc, E, fr, s1, s2, s3, s4, s5, s6, s7.1, fun hb2 => by have := hsim.hblt _ hb2; have := s7.1; omega⟩
          | _ => exact hout.elim
        | panic v =>
          cases e with
          | panicked chain =>
            obtain ⟨u, h1, h2⟩ := hout
            exact ⟨u, fun hn => VR.bare (G := G2) (G' := { G with K := G2.K }) (fun _ _ _ x => x) (h1 hn) hno, h2⟩
          | _ => exact hout.elim
      · cases h
    · cases h
  · exact hS f args H out H' h G w us hgl hsim hl ha
/-- A function is as the evaluator says. -/
theorem evBody_sound {A : Notes} {C : Callee} (hS : Sound P A.gl C) (hmx : P.follows .mixedOrders = true) : Sound P A.gl (evBody P A C) := by
  intro f args H out H' h G w us hgl hsim hl ha
  unfold evBody at h
  split at h
  · rename_i fn hf
    split at h
    · rename_i c hb
      have hpost : PostN G w (enterSt fn args) H { tmps := us ++ Array.replicate (fn.ntmps - us.size) undef, defers := [] } w := by
        refine ⟨G, { β := id, cv := fun _ _ => none, ow := fun _ => none }, ⟨hsim, {
          size := by simp [enterSt, hl]
          slot := fun s x u hs hu => by
            simp only [enterSt] at hs hu
            rw [List.getElem?_append] at hs
            rw [Array.getElem?_append, hl] at hu
            rw [List.length_map] at hs
            split at hs
            · rename_i hlt
              rw [if_pos hlt] at hu
              rw [List.getElem?_map] at hs
              obtain ⟨v, hv, rfl⟩ := Option.map_eq_some_iff.1 hs
              exact LAR.of_AR (ha s v u hv hu)
            · rw [List.getElem?_replicate] at hs
              split at hs
              · cases hs; trivial
              · cases hs
          box := fun l cs hb => by simp [enterSt] at hb
          boxd := fun l hb => by simp [enterSt] at hb
          inj := fun l l' hb => by simp [enterSt] at hb
          row := fun rid q hq => by simp [enterSt] at hq
          owlt := fun b rid hb => by cases hb }, ⟨rfl, rfl, rfl, Nat.le_refl _, fun b hb hn => ⟨rfl, hn, fun _ => rfl⟩⟩, .refl G⟩, rfl⟩
      refine calls_of_wp hf hb ?_
      split at h
      · rename_i st1 H1 hev
        obtain ⟨x, h1, h2⟩ := Option.map_eq_some_iff.1 h
        cases h2
        refine Code.wp_mono (fun e a' w' hq => ?_) (evCode_sound (E := { P, C, kill := A.kill f, grow := A.grow f, mode := A.mode f, gl := A.gl }) hgl hS hmx c hev hpost)
        cases e <;> simp only [PostX] at hq
        obtain ⟨G1, L1, hI, hd⟩ := hq
        obtain ⟨u, r1, r2⟩ := out_sound (P := P) hI h1
        exact ⟨hd, u, r1, G1, hI.le, hI.sim, hI.fr, r2⟩
      · rename_i st1 H1 hev
        obtain ⟨x, h1, h2⟩ := Option.map_eq_some_iff.1 h
        cases h2
        refine Code.wp_mono (fun e a' w' hq => ?_) (evCode_sound (E := { P, C, kill := A.kill f, grow := A.grow f, mode := A.mode f, gl := A.gl }) hgl hS hmx c hev hpost)
        cases e <;> simp only [PostX] at hq
        obtain ⟨G1, L1, hI, hd⟩ := hq
        obtain ⟨u, r1, r2⟩ := out_sound (P := P) hI h1
        exact ⟨hd, u, r1, G1, hI.le, hI.sim, hI.fr, r2⟩
      · rename_i v st1 H1 hev
        cases h
        refine Code.wp_mono (fun e a' w' hq => ?_) (evCode_sound (E := { P, C, kill := A.kill f, grow := A.grow f, mode := A.mode f, gl := A.gl }) hgl hS hmx c hev hpost)
        cases e <;> simp only [PostX] at hq
        obtain ⟨⟨G1, u, q1, q2, q3, q4, q5⟩, hd⟩ := hq
        exact ⟨hd, G1, q3, q1, q2, u, q4, q5⟩
      · cases h
    · cases h
  · cases h
theorem ev_sound {A : Notes} (hmx : P.follows .mixedOrders = true) : ∀ n, Sound P A.gl (ev P A n)
  | 0 => fun f args H out H' h => by cases h
  | n + 1 => wrap_sound (evBody_sound (ev_sound hmx n) hmx)
end
end Go.Abs
