/- A part of the proofs over this seat. -/
import Derived.Test.YthicacphcljdmaaQAbsR
namespace Go.Abs
set_option linter.unusedVariables false
open Go.RowKit
/-! The evaluator is right: reading -/
section
variable {P : Program} {w : World}
theorem aggT_some {t : TypeId} {b : Bool} (h : aggT P t = some b) : ∃ d, P.underlying t = some d ∧ (isAgg t).run P w = .ok b w := by
  unfold aggT at h
  cases hu : P.underlying t with
  | none => rw [hu] at h; cases h
  | some d =>
    refine ⟨d, rfl, ?_⟩
    rw [hu] at h
    cases d <;> simp at h <;> subst h <;> simp [isAgg, run_underlying hu]
theorem info_of_underlying {t : TypeId} {d : TypeDesc} (h : P.underlying t = some d) : ∃ i, P.info? t = some i := by
  unfold Program.underlying at h
  cases hi : P.info? t with
  | none => rw [hi] at h; cases h
  | some i => exact ⟨i, rfl⟩
theorem run_sizeOf {t : TypeId} {d : TypeDesc} (h : P.underlying t = some d) : (sizeOf t).run P w = .ok (sizeT P t) w := by
  obtain ⟨i, hi⟩ := info_of_underlying h
  simp [sizeOf, typeInfo, hi, sizeT, Program.cellsOf]
/-- A variable is read out of cells. -/
theorem run_loadVar_agg {t : TypeId} {a : Addr} {us : List Value} (h : aggT P t = some true) (hl : us.length = sizeT P t) (hc : ∀ j u, us[j]? = some u → w.cell? (a.add j) = some u) :
    (loadVar t a).run P w = .ok (.agg us.toArray) w := by
  obtain ⟨d, hd, hr⟩ := aggT_some (w := w) h
  simp [loadVar, hr, run_sizeOf hd, ← hl, run_loadCells_list w a us hc]
theorem run_loadVar_one {t : TypeId} {a : Addr} {u : Value} (h : aggT P t = some false) (hc : w.cell? a = some u) : (loadVar t a).run P w = .ok u w := by
  obtain ⟨d, hd, hr⟩ := aggT_some (w := w) h
  simp [loadVar, hr, hc]
end
theorem okV_ne {v : V} (h : okV v = true) : v ≠ .undef := by rintro rfl; cases h
theorem okV_tup {v : V} (h : okV v = true) : ∀ cs, v ≠ .tup cs := by rintro cs rfl; cases h
section
variable {G0 : Gh} {W0 : World} {G : Gh} {L : Lg} {st : St} {H : Hp} {tmps : Array Value} {w : World} {P : Program}
theorem LAR.of_AR {nr : Nat} {c : V} {u : Value} (h : AR G c u) : LAR G L nr c u := by
  cases c <;> first | trivial | exact h (by simp) | skip
  case lr rid len => exact nomatch h (by simp)
theorem LAR.one {nr : Nat} {c : V} {u : Value} {f : V → Prop} (h : LAR G L nr c u) : True := trivial
theorem seal_AR {B0 : Nat} (h : LR B0 G L st tmps w) {c : V} {u : Value} (hc : LAR G L st.r.length c u) : AR G (sealV st c) u := by
  cases c <;> first | exact fun _ => hc | (intro hn; exact absurd rfl hn) | skip
  case lr rid len =>
    obtain ⟨h1, h2⟩ := hc
    intro _
    have hq : st.r[rid]? = some (st.r[rid]) := List.getElem?_eq_getElem h1
    simp only [sealV, hq]
    exact ((h.row rid _ hq).1 len u h2).2.2
theorem ofConst1_AR {nr : Nat} (v : Value) : LAR G L nr (ofConst1 v) v := by
  unfold ofConst1
  split <;> first | trivial | (constructor; done)
theorem ofConst_LAR {nr : Nat} (v : Value) : LAR G L nr (ofConst v) v := by
  unfold ofConst
  split
  · rename_i cs
    split
    · rename_i hall
      refine VR.agg _ _ (by simp) (fun j u hu => ?_) (fun j c u hc hu hn => ?_)
      · have := Array.all_eq_true'.1 hall u (Array.mem_of_getElem? hu)
        exact this
      · simp only [List.getElem?_map] at hc
        rw [Array.getElem?_toList, hu] at hc
        cases hc
        have := ofConst1_AR (G := G) (L := L) (nr := 0) u
        revert this hn
        generalize ofConst1 u = c
        intro hn h
        cases c <;> first | exact h | exact absurd rfl hn | exact absurd h.1 (by omega)
    · trivial
  · exact ofConst1_AR v
/-- An operand -/
theorem slot_R {B0 : Nat} {a : Act} (h : LR B0 G L st a.tmps w) (x : Operand) : SlotR G L st.b.length st.r.length (rdS st x) (a.eval x) := by
  cases x with
  | tmp t =>
    by_cases ht : t < st.s.length
    · have h1 : st.s[t]? = some st.s[t] := List.getElem?_eq_getElem ht
      have ht2 : t < a.tmps.size := by rw [h.size]; exact ht
      have h2 : a.tmps[t]? = some a.tmps[t] := Array.getElem?_eq_getElem ht2
      have := h.slot t _ _ h1 h2
      simp only [rdS, Act.eval, List.getD_eq_getElem?_getD, h1, Option.getD_some, Array.getD_eq_getD_getElem?, h2]
      exact this
    · simp only [rdS, List.getD_eq_getElem?_getD, List.getElem?_eq_none (Nat.le_of_not_lt ht), Option.getD_none]
      trivial
  | const v => exact ofConst_LAR v
  | global g => trivial
  | func f => exact VR.fn f [] [] #[] #[] rfl rfl (fun j c u hc => by simp at hc) (fun j c u hc => by simp at hc)
/-- The package variables hold what the evaluator takes them to hold. -/
def GlOK (gl : Nat → V) (G : Gh) : Prop := ∀ g, gl g ≠ .undef → noHeap (gl g) = true ∧ VR G (.ept (gl g) 0) (.pointer (some ⟨g, 0, none⟩))
theorem GlOK.mono {gl : Nat → V} {G G' : Gh} (h : GlOK gl G) (k : G.le G') : GlOK gl G' := fun g hg => ⟨(h g hg).1, (h g hg).2.mono k⟩
theorem slotG_R {B0 : Nat} {a : Act} {E : Env} (hgl : GlOK E.gl G) (h : LR B0 G L st a.tmps w) (x : Operand) : SlotR G L st.b.length st.r.length (rdG E st x) (a.eval x) := by
  cases x with
  | global g =>
    simp only [rdG, Act.eval]
    by_cases hg : E.gl g = .undef
    · rw [hg]; trivial
    · have := (hgl g hg).2
      have e : glSlot (E.gl g) = .v (.ept (E.gl g) 0) := by
        unfold glSlot; split
        · rename_i e; exact absurd e hg
        · rfl
      rw [e]; exact this
  | tmp t => exact slot_R h (.tmp t)
  | const v => exact slot_R h (.const v)
  | func f => exact slot_R h (.func f)
theorem raw_LAR {B0 : Nat} {a : Act} (h : LR B0 G L st a.tmps w) (x : Operand) : LAR G L st.r.length (rdS st x).raw (a.eval x) := by
  have := slot_R h x
  cases hx : rdS st x <;> rw [hx] at this <;> first | exact this | trivial
theorem rawG_LAR {B0 : Nat} {a : Act} {E : Env} (hgl : GlOK E.gl G) (h : LR B0 G L st a.tmps w) (x : Operand) : LAR G L st.r.length (rdG E st x).raw (a.eval x) := by
  have := slotG_R hgl h x
  cases hx : rdG E st x <;> rw [hx] at this <;> first | exact this | trivial
theorem rd_AR {B0 : Nat} {a : Act} (h : LR B0 G L st a.tmps w) (x : Operand) : AR G (rd st x) (a.eval x) := seal_AR h (raw_LAR h x)
theorem SlotR.of_AR {nb nr : Nat} {v : V} {u : Value} (h : AR G v u) : SlotR G L nb nr (.v v) u := LAR.of_AR h

/-- Cells of memory are read as the evaluator does. -/
theorem load_sound {B0 : Nat} (h : LR B0 G L st tmps w) {t : TypeId} {cs : List V} {us : List Value} {off b o : Nat} {x : Slot} (hx : loadCells P st t cs off = some x) (hc : CellsP (LAR G L st.r.length) cs us)
    (hm : ∀ j u, us[j]? = some u → w.cell? ⟨b, o + j, none⟩ = some u) : ∃ u, (loadVar t ⟨b, o + off, none⟩).run P w = .ok u w ∧ SlotR G L st.b.length st.r.length x u := by
  unfold loadCells at hx
  cases ha : aggT P t with
  | none => rw [ha] at hx; cases hx
  | some q =>
    rw [ha] at hx
    cases q with
    | true =>
      simp only at hx
      split at hx
      · rename_i hle
        cases hx
        have hd := (hc.drop off).take (sizeT P t)
        refine ⟨_, run_loadVar_agg (us := (us.drop off).take (sizeT P t)) ha (by rw [hd.len]; simp; omega) (fun j u hj => ?_), ?_⟩
        · rw [List.getElem?_take] at hj
          split at hj
          · rw [List.getElem?_drop] at hj
            rw [Addr.add_lit, Nat.add_assoc]; exact hm _ u hj
          · cases hj
        · have hs : CellsR G (((cs.drop off).take (sizeT P t)).map (sealV st)) ((us.drop off).take (sizeT P t)) := ⟨by rw [List.length_map]; exact hd.len, hd.one, fun j c u a b => by
            rw [List.getElem?_map] at a
            obtain ⟨c', hc', rfl⟩ := Option.map_eq_some_iff.1 a
            exact seal_AR h (hd.at_ j c' u hc' b)⟩
          exact VR.agg_mk hs
      · cases hx
    | false =>
      simp only at hx
      obtain ⟨c, hc1, rfl⟩ := Option.map_eq_some_iff.1 hx
      obtain ⟨u, hu, _, hr⟩ := hc.get hc1
      exact ⟨u, run_loadVar_one ha (hm _ u hu), hr⟩
end
/-- The cells of one element of a row, all elements alike wide -/
theorem flat_get {es : List V} {wd : Nat} (h : ∀ e ∈ es, e.width = wd) : ∀ {i : Nat} {e : V} {j : Nat}, es[i]? = some e → j < wd → (es.flatMap V.cells)[i * wd + j]? = e.cells[j]? := by
  induction es with
  | nil => intro i e j hi; simp at hi
  | cons x xs ih =>
    intro i e j hi hj
    have hx : x.cells.length = wd := h x (by simp)
    simp only [List.flatMap_cons]
    cases i with
    | zero => simp at hi; subst hi; rw [List.getElem?_append_left (by omega)]; simp
    | succ i =>
      rw [List.getElem?_append_right (by rw [hx]; rw [Nat.add_mul]; omega), hx]
      have := ih (fun e he => h e (by simp [he])) (i := i) (e := e) (j := j) (by simpa using hi) hj
      rw [← this]
      congr 1
      rw [Nat.add_mul]
      omega
end Go.Abs
