/- What a package variable laid with an array of scalars holds: GlOK out of laidMet. -/
import Derived.Test.YtgjobbmbbedecaaDoorQAbsOpen
import Derived.Lib.LaidU8
import Derived.Lay
import Derived.Handed
namespace Go.Abs
open Go Go.Proofs
section
variable {P : Program} {W : World}
/-- An array of scalars, cell for cell: 'lv' reads one literal as a value, 'kv' as one of the evaluator's. -/
theorem gl_array {g n : Nat} {e t : TypeId} {cs : Array Value} {fuel : Nat} {p : List MemPlace} {L : Type} (ds : List L) (dv : L → DataW Unit) (lv : L → Value) (kv : L → V)
    (hone : ∀ (fuel : Nat) c (d : L) p, DataW.trod (fun _ => ()) P W 0 (fun _ => true) false fuel e [c] = some (dv d, p) → c = lv d)
    (hk : ∀ d, VR (g0 W) (kv d) (lv d)) (ho : ∀ d, (lv d).oneCell' = true) (hh : ∀ d, noHeap (kv d) = true)
    (hu : P.underlying t = some (.array n e)) (hc : P.cellsOf e = 1) (hct : P.cellsOf t = n) (hn : n = ds.length) {name : String} (hg : P.globalNamed name = some g) (hvar : W.var? P name = some cs)
    (h : DataW.trod (fun _ => ()) P W 0 (fun _ => true) false fuel t cs.toList = some (.agg (ds.map dv), p)) : noHeap (.agg (ds.map kv)) = true ∧ VR (g0 W) (.ept (.agg (ds.map kv)) 0) (.pointer (some ⟨g, 0, none⟩)) := by
  subst hn
  obtain ⟨xs, m, rfl, hx, hl, hxl, hall⟩ := DataW.trod_array hu h
  have hxs : xs.map (·.1) = ds.map dv := by
    have := congrArg Prod.fst hx
    simpa using this.symm
  have hcell : ∀ (j : Nat) d, ds[j]? = some d → cs[j]? = some (lv d) := fun j d hd => by
    have hj : j < ds.length := (List.getElem?_eq_some_iff.1 hd).1
    have hjc : j < cs.toList.length := by rw [hl, hct]; exact hj
    have h1 := hall j hj
    rw [hc, Nat.mul_one] at h1
    have h2 : (cs.toList.drop j).take 1 = [cs.toList[j]] := by rw [List.drop_eq_getElem_cons hjc]; rfl
    rw [h2] at h1
    have h3 : (xs.map (·.1))[j]? = some (dv d) := by rw [hxs, List.getElem?_map, hd]; rfl
    rw [List.getElem?_map] at h3
    cases hxj : xs[j]? with
    | none => rw [hxj] at h3; cases h3
    | some y =>
      rw [hxj] at h3 h1
      obtain ⟨y1, y2⟩ := y
      have h4 : y1 = dv d := by simpa using h3
      subst h4
      have h5 := hone _ _ _ _ h1
      rw [← Array.getElem?_toList, List.getElem?_eq_getElem hjc, h5]
  have hw : ∀ (j : Nat) c, (V.agg (ds.map kv)).cells[j]? = some c → ∃ d, ds[j]? = some d ∧ c = kv d := fun j c hj => by
    have hj' : (ds.map kv)[j]? = some c := hj
    rw [List.getElem?_map] at hj'
    cases hd : ds[j]? with
    | none => rw [hd] at hj'; cases hj'
    | some d => rw [hd] at hj'; exact ⟨d, rfl, by simpa using hj'.symm⟩
  refine ⟨?_, ?_⟩
  · simp only [noHeap]
    have : ∀ l : List L, noHeapL (l.map kv) = true := fun l => by
      induction l with
      | nil => rfl
      | cons d r ih => simp only [List.map_cons, noHeapL, hh, ih, Bool.and_self]
    exact this ds
  · have := VR.ept (G := g0 W) (.agg (ds.map kv)) 0 g 0 (fun j => (cs[j]?).getD (.bool false)) (fun j c hj => by
      obtain ⟨d, hd, _⟩ := hw j c hj
      show W.cell? ⟨g, 0 + j, none⟩ = _
      rw [Nat.zero_add, World.var?_cell hg hvar j, hcell j d hd]; rfl) (fun j c hj => by
      obtain ⟨d, hd, _⟩ := hw j c hj
      rw [hcell j d hd]; exact ho d) (fun j c hj _ => by
      obtain ⟨d, hd, rfl⟩ := hw j c hj
      rw [hcell j d hd]; exact hk d)
    exact this
theorem gl_strings {laid : List (String × DataW Unit)} (hL : laidMet P laid W) {name : String} {ss : List ByteArray} {g n : Nat} {t e : TypeId}
    (hm : (name, (.agg (ss.map fun s => .lit (.string s.data.toList)) : DataW Unit)) ∈ laid)
    (hg : P.globalNamed name = some g) (ht : (P.globals[g]?).map (·.type) = some t) (hu : P.underlying t = some (.array n e)) (hue : P.underlying e = some .string) (hc : P.cellsOf e = 1) (hct : P.cellsOf t = n) (hn : n = ss.length) :
    noHeap (.agg (ss.map .str)) = true ∧ VR (g0 W) (.ept (.agg (ss.map .str)) 0) (.pointer (some ⟨g, 0, none⟩)) := by
  obtain ⟨g', t', cs, fuel, p, h1, h2, h3, h4⟩ := Go.Lib.laidMet.reads hL hm
  obtain rfl := Option.some.inj (hg.symm.trans h1)
  obtain rfl := Option.some.inj (ht.symm.trans h2)
  refine gl_array ss (fun s => .lit (.string s.data.toList)) .string .str (fun fuel c d p h => ?_) (fun d => .str d) (fun _ => rfl) (fun _ => rfl) hu hc hct hn hg h3 h4
  obtain ⟨s, hs, hx, _⟩ := DataW.trod_string hue h
  have e1 : s.data.toList = d.data.toList := by simpa using (congrArg Prod.fst hx).symm
  have e2 : s = d := by cases s; cases d; simpa using e1
  rw [e2] at hs
  simpa using hs
theorem gl_ints {laid : List (String × DataW Unit)} (hL : laidMet P laid W) {name : String} {k : IntKind} {ss : List Int} {g n : Nat} {t e : TypeId}
    (hm : (name, (.agg (ss.map fun s => .lit (.int k s)) : DataW Unit)) ∈ laid)
    (hg : P.globalNamed name = some g) (ht : (P.globals[g]?).map (·.type) = some t) (hu : P.underlying t = some (.array n e)) (hue : P.underlying e = some (.int k)) (hc : P.cellsOf e = 1) (hct : P.cellsOf t = n) (hn : n = ss.length) :
    noHeap (.agg (ss.map (.int k))) = true ∧ VR (g0 W) (.ept (.agg (ss.map (.int k))) 0) (.pointer (some ⟨g, 0, none⟩)) := by
  obtain ⟨g', t', cs, fuel, p, h1, h2, h3, h4⟩ := Go.Lib.laidMet.reads hL hm
  obtain rfl := Option.some.inj (hg.symm.trans h1)
  obtain rfl := Option.some.inj (ht.symm.trans h2)
  refine gl_array ss (fun s => .lit (.int k s)) (.int k) (.int k) (fun fuel c d p h => ?_) (fun d => .int k d) (fun _ => rfl) (fun _ => rfl) hu hc hct hn hg h3 h4
  obtain ⟨s, hs, hx, _⟩ := DataW.trod_int hue h
  have e1 : s = d := by simpa using (congrArg Prod.fst hx).symm
  rw [e1] at hs
  simpa using hs
end
end Go.Abs
