/- A part of the proofs over this seat. -/
import Derived.Test.YthicacphcljdmaaQAbsC
namespace Go.Abs
set_option linter.unusedVariables false
set_option linter.unusedSimpArgs false
open Go.RowKit
section
variable {G0 : Gh} {W0 : World} {G G' : Gh} {L : Lg} {st : St} {H H' : Hp} {tmps : Array Value} {a : Act} {w w' : World} {P : Program} {o : Oper}
structure ArgsR (G : Gh) (vs : List V) (us : Array Value) : Prop where
  len : us.size = vs.length
  at_ : ∀ (j : Nat) (v : V) (u : Value), vs[j]? = some v → us[j]? = some u → AR G v u
theorem ArgsR.append {as bs : List V} {us vs : Array Value} (h : ArgsR G as us) (k : ArgsR G bs vs) : ArgsR G (as ++ bs) (us ++ vs) :=
  ⟨by simp [h.len, k.len], fun j v u h1 h2 => by
    rw [List.getElem?_append] at h1
    rw [Array.getElem?_append, h.len] at h2
    split at h1
    · rename_i hj; rw [if_pos hj] at h2; exact h.at_ j v u h1 h2
    · rename_i hj; rw [if_neg hj] at h2; exact k.at_ _ v u h1 h2⟩
theorem ArgsR.one {v : V} {u : Value} (h : AR G v u) : ArgsR G [v] #[u] :=
  ⟨rfl, fun j x y h1 h2 => by
    cases j with
    | zero => simp at h1 h2; subst h1; subst h2; exact h
    | succ j => simp at h1⟩
theorem ArgsR.ops (h : LR W0.heap.size G L st a.tmps w) (xs : Array Operand) : ArgsR G (xs.toList.map (rd st)) (xs.map a.eval) :=
  ⟨by simp, fun j v u h1 h2 => by
    rw [List.getElem?_map] at h1
    rw [Array.getElem?_map] at h2
    obtain ⟨x, hx, rfl⟩ := Option.map_eq_some_iff.1 h1
    have hx' : xs[j]? = some x := by simpa using hx
    rw [hx'] at h2
    cases h2
    exact rd_AR h x⟩
theorem makeFunc_op (h : Inv G0 W0 G L st H a.tmps w) {f : FuncId} {first cap : Array Operand} (ho : o.op = .makeFunc (.func f) first cap) :
    ∃ u, (execOp a.eval o).run P w = .ok (.value u) w ∧ AR G (.fn f (first.toList.map (rd st)) (cap.toList.map (rd st))) u := by
  have h1 := ArgsR.ops h.lr first
  have h2 := ArgsR.ops h.lr cap
  exact ⟨_, by simp [execOp, ho, Instr.makeFunc], fun _ => VR.fn f _ _ _ _ h1.len h2.len h1.at_ h2.at_⟩
theorem len_sound (h : Sim G H w) {x z : V} {u : Value} {t ty : TypeId} (hl : lenOp P H t x = some z) (hx : AR G x u) : ∃ r, (Builtin.len_ #[t] ty #[u]).run P w = .ok r w ∧ AR G z r := by
  unfold lenOp at hl
  split at hl
  · rename_i e hk
    cases hl
    obtain rfl := (hx (by simp)).nils_inv
    exact ⟨_, by simp [Builtin.len_, run_underlying (tk_slice hk)]; rfl, fun _ => .int _ _⟩
  · rename_i e row hk
    cases hl
    rcases (hx (by simp)).rsl_inv with ⟨a', cap', rfl, rfl⟩ | ⟨b, o, sz, cap, f, rfl, _⟩
    · exact ⟨_, by simp [Builtin.len_, run_underlying (tk_slice hk)]; rfl, fun _ => .int _ _⟩
    · exact ⟨_, by simp [Builtin.len_, run_underlying (tk_slice hk)]; rfl, fun _ => .int _ _⟩
  · rename_i e _ _ n hk
    cases hl
    cases hx (by simp)
    exact ⟨_, by simp [Builtin.len_, run_underlying (tk_slice hk)]; rfl, fun _ => .int _ _⟩
  · rename_i e _ n hk
    cases hl
    cases hx (by simp)
    exact ⟨_, by simp [Builtin.len_, run_underlying (tk_slice hk)]; rfl, fun _ => .int _ _⟩
  · rename_i s hk
    cases hl
    obtain rfl := (hx (by simp)).str_inv
    exact ⟨_, by simp [Builtin.len_, run_underlying (tk_str hk)]; rfl, fun _ => .int _ _⟩
  · rename_i hk
    obtain ⟨k, e, hu⟩ : ∃ k e, P.underlying t = some (.map k e) := by
      unfold tk at hk; split at hk <;> first | exact ⟨_, _, by assumption⟩ | cases hk
    cases hl
    cases hx (by simp)
    exact ⟨_, by simp [Builtin.len_, run_underlying hu]; rfl, fun _ => .int _ _⟩
  · rename_i id hk
    obtain ⟨k, e, hu⟩ : ∃ k e, P.underlying t = some (.map k e) := by
      unfold tk at hk; split at hk <;> first | exact ⟨_, _, by assumption⟩ | cases hk
    split at hl
    · rename_i es he
      cases hl
      cases hx (by simp)
      obtain ⟨ms, cl, a1, a2, _⟩ := h.map id es he
      refine ⟨goInt ms.size, ?_, fun _ => ?_⟩
      · simp [Builtin.len_, run_underlying hu, getObj, Sem.run, a1]
      · rw [a2]; exact .int _ _
    · cases hl
  · cases hl
theorem sliceBound_run {k : IntKind} {i : Int} {y : Nat} {code : BoundsCode} (h : 0 ≤ i ∧ i.toNat ≤ y) : (Instr.sliceBound (.int k i) y code).run P w = .ok i.toNat w := run_sliceBound w k i y code h.1 (by omega)
theorem bounds_run {isSlice : Bool} {len cap l h : Nat} {lo hi : Option V} {lo' hi' : Option Value} (h1 : boundV hi len = some h) (h2 : boundV lo 0 = some l) (hl : l ≤ h) (hh : h ≤ cap) (hlen : len ≤ cap)
    (rl : ∀ v u, lo = some v → lo' = some u → AR G v u) (rh : ∀ v u, hi = some v → hi' = some u → AR G v u) (el : lo.isSome = lo'.isSome) (eh : hi.isSome = hi'.isSome) :
    (Instr.sliceBounds isSlice len cap lo' hi' none).run P w = .ok (l, h, cap) w := by
  have hhi : (match hi' with | some v => Instr.sliceBound v cap (if isSlice then .sliceAcap else .sliceAlen) | none => pure len : Sem Nat).run P w = .ok h w := by
    cases hi with
    | none =>
      cases hi' with
      | none => cases h1; rfl
      | some u => cases eh
    | some v =>
      cases hi' with
      | none => cases eh
      | some u =>
        cases v <;> simp only [boundV] at h1 <;> (try cases h1)
        case int k i =>
          split at h1
          · cases h1
            obtain rfl := (rh _ _ rfl rfl (by simp)).int_inv
            exact sliceBound_run ⟨by assumption, hh⟩
          · cases h1
  have hlo : (match lo' with | some v => Instr.sliceBound v h .sliceB | none => pure 0 : Sem Nat).run P w = .ok l w := by
    cases lo with
    | none =>
      cases lo' with
      | none => cases h2; rfl
      | some u => cases el
    | some v =>
      cases lo' with
      | none => cases el
      | some u =>
        cases v <;> simp only [boundV] at h2 <;> (try cases h2)
        case int k i =>
          split at h2
          · cases h2
            obtain rfl := (rl _ _ rfl rfl (by simp)).int_inv
            exact sliceBound_run ⟨by assumption, hl⟩
          · cases h2
  cases hi' <;> cases lo' <;> simp_all [Instr.sliceBounds]
/-- The bounds of a slice with a third index -/
theorem bounds3_run {isSlice : Bool} {len cap l h m : Nat} {lo : Option V} {mo ho : Operand} {lo' : Option Value} (h0 : boundV (some (rd st mo)) 0 = some m) (h1 : boundV (some (rd st ho)) 0 = some h) (h2 : boundV lo 0 = some l) (hl : l ≤ h) (hh : h ≤ m) (hm : m ≤ cap)
    (rm : ∀ v u, (some mo).map (rd st) = some v → (some mo).map a.eval = some u → AR G v u) (rl : ∀ v u, lo = some v → lo' = some u → AR G v u) (rh : ∀ v u, (some ho).map (rd st) = some v → (some ho).map a.eval = some u → AR G v u) (el : lo.isSome = lo'.isSome) :
    (Instr.sliceBounds isSlice len cap lo' (some (a.eval ho)) (some (a.eval mo))).run P w = .ok (l, h, m) w := by
  have one : ∀ {v : V} {u : Value} {n y : Nat} {code : BoundsCode}, boundV (some v) 0 = some n → AR G v u → n ≤ y → (Instr.sliceBound u y code).run P w = .ok n w := fun {v u n y code} hb hr hy => by
    cases v <;> simp only [boundV] at hb <;> (try cases hb)
    case int k i =>
      split at hb
      · cases hb
        obtain rfl := (hr (by simp)).int_inv
        exact sliceBound_run ⟨by assumption, hy⟩
      · cases hb
  have em : ∀ {code : BoundsCode}, (Instr.sliceBound (a.eval mo) cap code).run P w = .ok m w := one h0 (rm _ _ rfl rfl) hm
  have eh : ∀ {code : BoundsCode}, (Instr.sliceBound (a.eval ho) m code).run P w = .ok h w := one h1 (rh _ _ rfl rfl) hh
  have elo : (match lo' with | some v => Instr.sliceBound v h .slice3C | none => pure 0 : Sem Nat).run P w = .ok l w := by
    cases lo with
    | none =>
      cases lo' with
      | none => cases h2; rfl
      | some u => cases el
    | some v =>
      cases lo' with
      | none => cases el
      | some u => exact one h2 (rl _ _ rfl rfl) hl
  cases lo' <;> simp_all [Instr.sliceBounds]
theorem opt_AR (h : LR W0.heap.size G L st a.tmps w) (x : Option Operand) : ∀ v u, x.map (rd st) = some v → x.map a.eval = some u → AR G v u := fun v u h1 h2 => by
  cases x with
  | none => cases h1
  | some x => cases h1; cases h2; exact rd_AR h x
theorem slice_op (h : Inv G0 W0 G L st H a.tmps w) {t : TypeId} {x : Operand} {lo hi mx : Option Operand} {z : V} (ho : o.op = .slice t x lo hi mx) (hs : sliceOp P st H t (rdS st x).raw (lo.map (rd st)) (hi.map (rd st)) (mx.map (rd st)) = some z) :
    ∃ u, (execOp a.eval o).run P w = .ok (.value u) w ∧ AR G z u := by
  have hX := view_AR h.sim (seal_AR h.lr (raw_LAR h.lr x))
  generalize hv : a.eval x = v at hX
  have rl := opt_AR h.lr lo
  have rh := opt_AR h.lr hi
  unfold sliceOp at hs
  split at hs
  · rename_i mv hmx
    obtain ⟨mo, rfl, rfl⟩ : ∃ mo, mx = some mo ∧ rd st mo = mv := by cases mx <;> simp_all
    split at hs
    · rename_i e id o' n hv' hk hvw hhi
      obtain ⟨ho', rfl, rfl⟩ : ∃ ho', hi = some ho' ∧ rd st ho' = hv' := by cases hi <;> simp_all
      have ht := (ixT_sl hk).1
      rw [hvw] at hX
      obtain ⟨mm, h0, hs1⟩ := Option.bind_eq_some_iff.1 hs
      obtain ⟨hh, h1, hs2⟩ := Option.bind_eq_some_iff.1 hs1
      obtain ⟨l, h2, hs3⟩ := Option.bind_eq_some_iff.1 hs2
      split at hs3
      · rename_i es he
        split at hs3
        · rename_i hc
          obtain ⟨c1, c2, c3⟩ := hc
          cases hs3
          cases hX (by simp) with
          | sl _ _ _ cap hid hcap hcp =>
            obtain ⟨cc, E, fr, a1, a2, a3, a4, a5, a6, _⟩ := h.sim.cells id es he
            have hb := bounds3_run (P := P) (w := w) (isSlice := true) (len := n) (cap := cap) h0 h1 h2 c1 c2 (by omega) (opt_AR h.lr (some mo)) rl rh (by simp)
            have hz := run_sizeOf_pos (P := P) (w := w) (ixT_sl hk).2
            exact ⟨_, by simp [execOp, ho, hv, Instr.sliceAt, Instr.slice, run_underlying ht, hb, hz]; rfl, fun hne => absurd rfl hne⟩
        · cases hs3
      · cases hs3
    · cases hs
  · rename_i hmx
    have hmx' : mx = none := by cases mx <;> first | rfl | cases hmx
    split at hs
    · rename_i s hk hvw
      have ht := ixT_str hk
      rw [hvw] at hX
      obtain rfl := (hX (by simp)).str_inv
      obtain ⟨hh, h1, hs2⟩ := Option.bind_eq_some_iff.1 hs
      obtain ⟨l, h2, hs3⟩ := Option.bind_eq_some_iff.1 hs2
      split at hs3
      · rename_i hc
        cases hs3
        have hb := bounds_run (P := P) (w := w) (isSlice := false) (cap := s.size) h1 h2 hc.1 hc.2 (Nat.le_refl _) rl rh (by simp) (by simp)
        exact ⟨.string (s.extract l hh), by simp [execOp, ho, hmx', hv, run_sliceAt_string w t _ _ _ _ ht, Instr.slice, run_underlying ht, hb], fun _ => .str _⟩
      · cases hs3
    · rename_i e id o' n hk hvw
      have ht := (ixT_sl hk).1
      rw [hvw] at hX
      obtain ⟨hh, h1, hs2⟩ := Option.bind_eq_some_iff.1 hs
      obtain ⟨l, h2, hs3⟩ := Option.bind_eq_some_iff.1 hs2
      split at hs3
      · rename_i es he
        split at hs3
        · rename_i hc
          obtain ⟨c1, c2, c3⟩ := hc
          have hw := wideAll_iff.1 c3
          cases hX (by simp) with
          | sl _ _ _ cap hid hcap hcp =>
            obtain ⟨cc, E, fr, a1, a2, a3, a4, a5, a6, _⟩ := h.sim.cells id es he
            have hb := bounds_run (P := P) (w := w) (isSlice := true) (cap := cap) h1 h2 c1 (by omega) hcap rl rh (by simp) (by simp)
            have hz := run_sizeOf_pos (P := P) (w := w) (ixT_sl hk).2
            have hrun : (execOp a.eval o).run P w = .ok (.value (.slice (if cap = l then some ⟨G.φ id, o' * G.wd id, none⟩ else some ⟨G.φ id, o' * G.wd id + l * P.cellsOf e, none⟩) (hh - l) (cap - l))) w := by
              simp [execOp, ho, hmx', hv, Instr.sliceAt, Instr.slice, run_underlying ht, hb, hz, Addr.add_lit]
            refine ⟨_, hrun, fun _ => ?_⟩
            cases hs3
            split
            · rename_i e0
              subst e0
              have : (if cap = 0 then some (⟨G.φ id, o' * G.wd id, none⟩ : Addr) else some ⟨G.φ id, o' * G.wd id + 0 * P.cellsOf e, none⟩) = some ⟨G.φ id, o' * G.wd id, none⟩ := by split <;> simp
              rw [this]
              exact VR.sl id o' hh cap hid (by omega) hcp
            · rename_i e0
              split
              · rename_i e1
                subst e1
                rw [Nat.sub_self]
                split <;> exact VR.rsl0 _ _
              · rename_i e1
                rw [if_neg (by omega)]
                have hwd : G.wd id = P.cellsOf e := by
                  obtain ⟨x, hx⟩ : ∃ x, x ∈ es := List.exists_mem_of_ne_nil _ (by rintro rfl; simp at c2; omega)
                  rw [← a3 x hx, hw x hx]; rfl
                rw [← hwd, ← Nat.add_mul]
                exact VR.sl id (o' + l) (hh - l) (cap - l) hid (by omega) (by omega)
        · cases hs3
      · cases hs3
    · rename_i e hk hvw
      have ht := (ixT_sl hk).1
      rw [hvw] at hX
      obtain rfl := (hX (by simp)).nils_inv
      obtain ⟨hh, h1, hs2⟩ := Option.bind_eq_some_iff.1 hs
      obtain ⟨l, h2, hs3⟩ := Option.bind_eq_some_iff.1 hs2
      split at hs3
      · rename_i hc
        cases hs3
        obtain ⟨rfl, rfl⟩ := hc
        have hb := bounds_run (P := P) (w := w) (isSlice := true) (cap := 0) h1 h2 (Nat.le_refl _) (Nat.le_refl _) (Nat.le_refl _) rl rh (by simp) (by simp)
        have hz := run_sizeOf_pos (P := P) (w := w) (ixT_sl hk).2
        exact ⟨.slice none 0 0, by simp [execOp, ho, hmx', hv, Instr.sliceAt, Instr.slice, run_underlying ht, hb, hz], fun _ => .nils⟩
      · cases hs3
    · rename_i e row hk hvw
      have ht := (ixT_sl hk).1
      rw [hvw] at hX
      obtain ⟨hh, h1, hs2⟩ := Option.bind_eq_some_iff.1 hs
      obtain ⟨l, h2, hs3⟩ := Option.bind_eq_some_iff.1 hs2
      rcases (hX (by simp)).rsl_inv with ⟨a', cap, rfl, rfl⟩ | ⟨b, o', sz, cap, f, rfl, k1, k2, k3, k4, k5⟩
      · split at hs3
        · rename_i hc
          cases hs3
          obtain ⟨c1, c2, c3⟩ := hc
          obtain rfl : hh = 0 := by simpa using c2
          obtain rfl : l = 0 := by omega
          have hb := bounds_run (P := P) (w := w) (isSlice := true) (cap := cap) h1 h2 c1 (by omega) (by simp) rl rh (by simp) (by simp)
          have hz := run_sizeOf_pos (P := P) (w := w) (ixT_sl hk).2
          simp only [List.length_nil] at hb
          exact ⟨.slice (some a') 0 cap, by simp [execOp, ho, hmx', hv, Instr.sliceAt, Instr.slice, run_underlying ht, hb, hz, Addr.add], fun _ => .rsl0 a' cap⟩
        · cases hs3
      split at hs3
      · rename_i hc
        cases hs3
        obtain ⟨c1, c2, c3⟩ := hc
        have hw := wideAll_iff.1 c3
        have hb := bounds_run (P := P) (w := w) (isSlice := true) (cap := cap) h1 h2 c1 (by omega) k5 rl rh (by simp) (by simp)
        have hz := run_sizeOf_pos (P := P) (w := w) (ixT_sl hk).2
        have hlen : ((row.take hh).drop l).length = hh - l := by simp; omega
        refine ⟨.slice (if cap = l then some ⟨b, o', none⟩ else some ⟨b, o' + l * P.cellsOf e, none⟩) (hh - l) (cap - l), by simp [execOp, ho, hmx', hv, Instr.sliceAt, Instr.slice, run_underlying ht, hb, hz, Addr.add_lit], fun _ => ?_⟩
        have key : ∀ q, (hh - l = 0 ∨ q = o' + l * P.cellsOf e) → VR G (.rsl ((row.take hh).drop l)) (.slice (some ⟨b, q, none⟩) (hh - l) (cap - l)) := fun q hq => by
          rw [← hlen]
          have get : ∀ {i : Nat} {x : V}, ((row.take hh).drop l)[i]? = some x → row[l + i]? = some x ∧ q = o' + l * sz ∧ sz = sizeT P e := fun {i x} hi => by
            have hlt := (List.getElem?_eq_some_iff.1 hi).1
            rw [List.getElem?_drop, List.getElem?_take] at hi
            split at hi
            · have hs4 : sz = sizeT P e := by rw [← k1 _ _ hi, hw _ (List.mem_of_getElem? hi)]
              refine ⟨hi, ?_, hs4⟩
              rcases hq with hq | hq
              · omega
              · rw [hq, hs4]; rfl
            · cases hi
          refine VR.rsl _ b q sz _ (fun i j => f (l + i) j) (fun i x hi => k1 _ _ (get hi).1) (fun i x j c hi hj => ?_) (fun i x j c hi hj => k3 _ _ _ _ (get hi).1 hj) (fun i x j c hi hj => k4 _ _ _ _ (get hi).1 hj) (by rw [hlen]; omega)
          obtain ⟨g1, g2, g3⟩ := get hi
          have := k2 _ _ _ _ g1 hj
          rw [g2]
          have e1 : o' + l * sz + i * sz + j = o' + (l + i) * sz + j := by rw [Nat.add_mul]; omega
          rw [e1]; exact this
        split
        · exact key o' (.inl (by omega))
        · exact key _ (.inr rfl)
      · cases hs3
    · cases hs
end
end Go.Abs
