/- A part of the proofs over this seat. -/
import Derived.Test.YthicacphcljdmaaQAbsG
namespace Go.Abs
set_option linter.unusedVariables false
set_option linter.unusedSimpArgs false
open Go.RowKit
section
variable {G0 : Gh} {W0 : World} {G G' : Gh} {L : Lg} {st : St} {H H' : Hp} {tmps : Array Value} {a : Act} {w w' : World} {P : Program} {o : Oper}
/-- A key, as the model has it -/
theorem keyT_run {kt : TypeId} {k : V} {u : Value} (h : keyT P kt k = true) (hk : AR G k u) : ∃ d, P.underlying kt = some d ∧ (∀ b n, (Instr.checkKey b (n + 1) kt u).run P w = .ok () w) ∧
    (∀ (k2 : V) (u2 : Value), VR G k2 u2 → ∀ r, eqV k k2 = some r → Instr.sameNow d u u2 = some r) ∧ (∀ (n : Nat) (u2 : Value), Instr.sameNow d u u2 = some true → Instr.sameBits (n + 1) u2 u = true) := by
  unfold keyT at h
  split at h
  · rename_i ki k' n hk2
    have hu := tk_int hk2
    obtain rfl := (hk (by simp)).int_inv
    refine ⟨_, hu, fun b m => by simp [Instr.checkKey, run_underlying hu], fun k2 u2 h2 r hr => ?_, fun m u2 h2 => ?_⟩
    · cases k2 <;> simp only [eqV] at hr <;> (try cases hr)
      obtain rfl := h2.int_inv
      simp only [Instr.sameNow]; exact hr
    · cases u2 <;> simp only [Instr.sameNow] at h2 <;> (try cases h2)
      split at h2
      · rename_i e; subst e
        simp only [Option.some.injEq, beq_iff_eq] at h2
        subst h2
        simp [Instr.sameBits]
      · cases h2
  · rename_i s hk2
    have hu := tk_str hk2
    obtain rfl := (hk (by simp)).str_inv
    refine ⟨_, hu, fun b m => by simp [Instr.checkKey, run_underlying hu], fun k2 u2 h2 r hr => ?_, fun m u2 h2 => ?_⟩
    · cases k2 <;> simp only [eqV] at hr <;> (try cases hr)
      obtain rfl := h2.str_inv
      rfl
    · cases u2 <;> simp only [Instr.sameNow] at h2 <;> (try cases h2)
      simp only [Option.some.injEq] at h2
      simp only [Instr.sameBits]
      rw [beq_toListBytes] at h2 ⊢
      rw [beq_iff_eq] at h2 ⊢
      exact h2.symm
  · cases h
theorem findK_run {d : TypeDesc} {k : V} {u : Value} (hs : ∀ (k2 : V) (u2 : Value), VR G k2 u2 → ∀ r, eqV k k2 = some r → Instr.sameNow d u u2 = some r) : ∀ (es : List (V × V)) (ms : List MapEntry) (n : Nat) (r : Option Nat), ms.length = es.length →
    (∀ (i : Nat) (k2 v : V), es[i]? = some (k2, v) → ∃ m, ms[i]? = some m ∧ VR G k2 m.key) → findK k es n = some r →
    (r = none → Instr.findNow d u ms n = some none) ∧ (∀ j, r = some j → n ≤ j ∧ ∃ m, ms[j - n]? = some m ∧ Instr.findNow d u ms n = some (some (j, m.val)) ∧ Instr.sameNow d u m.key = some true)
  | [], ms, n, r, hl, hm, hf => by
    have : ms = [] := List.eq_nil_of_length_eq_zero (by simpa using hl)
    subst this
    cases hf
    exact ⟨fun _ => rfl, fun j e => by cases e⟩
  | (k2, v) :: es, [], n, r, hl, hm, hf => by simp at hl
  | (k2, v) :: es, m :: ms, n, r, hl, hm, hf => by
    obtain ⟨m', h1, h2⟩ := hm 0 k2 v rfl
    simp at h1
    subst h1
    simp only [findK] at hf
    cases he : eqV k k2 with
    | none => rw [he] at hf; cases hf
    | some b =>
      rw [he] at hf
      have hsn := hs k2 _ h2 b he
      cases b with
      | true =>
        cases hf
        refine ⟨fun e => (by cases e), fun j e => ?_⟩
        cases e
        exact ⟨Nat.le_refl _, m, by simp, by simp [Instr.findNow, hsn], hsn⟩
      | false =>
        obtain ⟨i1, i2⟩ := findK_run hs es ms (n + 1) r (by simpa using hl) (fun i k3 v3 hi => by have := hm (i + 1) k3 v3 (by simpa using hi); simpa using this) hf
        refine ⟨fun e => by simp [Instr.findNow, hsn, i1 e], fun j e => ?_⟩
        obtain ⟨j1, m2, j2, j3, j4⟩ := i2 j e
        refine ⟨by omega, m2, ?_, by simp [Instr.findNow, hsn, j3], j4⟩
        have : j - n = (j - (n + 1)) + 1 := by omega
        rw [this]; simpa using j2
theorem findKey_run {kt : TypeId} {d : TypeDesc} {u : Value} {ms : List MapEntry} {r : Option (Nat × Value)} (hd : P.underlying kt = some d) (h : Instr.findNow d u ms 0 = some r) : (Instr.findKey kt u ms).run P w = .ok r w := by
  simp [Instr.findKey, run_underlying hd, h]
theorem zeroValue_run {e : TypeId} (hk : okV (zeroT P e) = true) : ∃ z, (zeroValue e).run P w = .ok z w ∧ AR G (zeroT P e) z := by
  cases hi : P.info? e with
  | none => simp [zeroT, hi, okV] at hk
  | some i =>
    cases hz : i.zero with
    | none => simp [zeroT, hi, hz, okV] at hk
    | some z => exact ⟨z, by simp [zeroValue, typeInfo, hi, hz], by simp only [zeroT, hi, hz, Option.bind_some]; exact ofConst_AR z⟩
theorem lookup_op (h : Inv G0 W0 G L st H a.tmps w) {t : TypeId} {x ix : Operand} {ok : Bool} {z : V} (ho : o.op = .lookup t x ix ok) (hl : lookupOp P H t (rd st x) (rd st ix) ok = some z) :
    ∃ u, (execOp a.eval o).run P w = .ok (.value u) w ∧ AR G z u := by
  have hX := rd_AR h.lr x
  have hY := rd_AR h.lr ix
  generalize hv : a.eval x = v at hX
  generalize hi : a.eval ix = vi at hY
  unfold lookupOp at hl
  split at hl
  · rename_i kt e hk
    have ht := ixT_map hk
    split at hl
    · rename_i hc
      simp only [Bool.and_eq_true] at hc
      obtain ⟨c1, c2⟩ := hc
      obtain ⟨d, d1, d2, d3, d4⟩ := keyT_run (P := P) (w := w) c1 hY
      obtain ⟨zv, z1, z2⟩ := zeroValue_run (P := P) (w := w) (G := G) c2
      have fin : ∀ (v1 : V) (u1 : Value) (b : Bool), AR G v1 u1 → AR G (okRes ok v1 b) (if ok then .tuple #[u1, .bool b] else u1) := fun v1 u1 b h1 => by
        cases ok with
        | false => exact h1
        | true =>
          intro _
          refine VR.tup _ _ rfl (fun j c u h2 h3 h4 => ?_)
          match j with
          | 0 => simp at h2 h3; subst h2; subst h3; exact h1 h4
          | 1 => simp at h2 h3; subst h2; subst h3; exact .bool b
          | j + 2 => simp at h2
      split at hl
      · cases hl
        rename_i hx
        rw [hx] at hX
        cases hX (by simp)
        refine ⟨_, ?_, fin _ zv false z2⟩
        have hfk := findKey_run (P := P) (w := w) (u := vi) (ms := []) d1 (show Instr.findNow d vi [] 0 = some none from rfl)
        simp only [execOp, ho, hv, hi]
        simp [Instr.lookup, run_underlying ht, d2, hfk, z1]
      · rename_i id hx
        rw [hx] at hX
        cases hX (by simp)
        split at hl
        · rename_i es he
          obtain ⟨ms, cl, a1, a2, a3⟩ := h.sim.map id es he
          have hrel : ∀ (i : Nat) (k2 v2 : V), es[i]? = some (k2, v2) → ∃ m, ms.toList[i]? = some m ∧ VR G k2 m.key := fun i k2 v2 h2 => by
            obtain ⟨m, m1, m2, _⟩ := a3 i k2 v2 h2; exact ⟨m, by simpa using m1, m2⟩
          have hget : (getObj (G.φ id)).run P w = .ok (.map ms cl) w := by simp [getObj, Sem.run, a1]
          split at hl
          · rename_i j hf
            cases hl
            obtain ⟨_, f2⟩ := findK_run d3 es ms.toList 0 (some j) (by simpa using a2) hrel hf
            obtain ⟨_, m, m1, m2, _⟩ := f2 j rfl
            have hj : j < es.length := by have := (List.getElem?_eq_some_iff.1 m1).1; simp at this; omega
            obtain ⟨m', n1, _, _, n2⟩ := a3 j (es[j]).1 (es[j]).2 (List.getElem?_eq_getElem hj)
            have : m' = m := by
              have m1' : ms[j]? = some m := by simpa using m1
              rw [n1] at m1'; cases m1'; rfl
            subst this
            have e1 : (es.getD j (.undef, .undef)).2 = (es[j]).2 := by simp [List.getD_eq_getElem?_getD, List.getElem?_eq_getElem hj]
            rw [e1]
            refine ⟨_, ?_, fin _ m'.val true n2⟩
            have hfk := findKey_run (P := P) (w := w) d1 m2
            simp only [execOp, ho, hv, hi]
            simp [Instr.lookup, run_underlying ht, hget, d2, hfk]
          · rename_i hf
            cases hl
            obtain ⟨f1, _⟩ := findK_run d3 es ms.toList 0 none (by simpa using a2) hrel hf
            refine ⟨_, ?_, fin _ zv false z2⟩
            have hfk := findKey_run (P := P) (w := w) d1 (f1 rfl)
            simp only [execOp, ho, hv, hi]
            simp [Instr.lookup, run_underlying ht, hget, d2, hfk, z1]
          · cases hl
        · cases hl
      · cases hl
    · cases hl
  · cases hl
end
end Go.Abs
