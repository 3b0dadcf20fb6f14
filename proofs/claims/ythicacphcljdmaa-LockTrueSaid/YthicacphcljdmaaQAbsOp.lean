/- A part of the proofs over this seat. -/
import Derived.Test.YthicacphcljdmaaQAbsWd
import Derived.Deep.Slices
import Derived.Lib.SmallJoins
import Derived.Below
namespace Go.Abs
set_option linter.unusedVariables false
open Go.RowKit
/-- What is told of a world that no one has written to yet. -/
def g0 (W : World) : Gh := { φ := id, wd := fun _ => 0, cv := fun _ _ => none, n := 0, K := fun b o => W.cell? ⟨b, o, none⟩, hb := fun _ => False, ow := fun _ => none, cp := fun _ => 0 }
theorem g0_sim (W : World) : Sim (g0 W) [] W where
  len := rfl
  K := fun _ _ _ h => h
  cells := fun id es h => by simp at h
  map := fun id es h => by simp at h
  row := fun id ns es h => by simp at h
  inj := fun i j x y h => by simp at h
  hb := fun i x h => by simp at h
  cvn := fun i l u h => by cases h
  hblt := fun b h => h.elim
  owhb := fun b i h => by cases h
theorem g0_below {W W' : World} {G' : Gh} (h : Fr (g0 W) W G' W') : Below W.heap.size W W' := ⟨h.os, h.tape, h.output, h.size, fun k hk => (h.blk k hk (fun e => e)).1⟩
theorem glOK_none (G : Gh) : GlOK (fun _ => .undef) G := fun g h => absurd rfl h
/-- From an evaluation to the run of a function that answers a plain value. -/
theorem run_bool {P : Program} {A : Notes} (hmx : P.follows .mixedOrders = true) {W : World} (hgl : GlOK A.gl (g0 W)) {f : FuncId} {args : List V} {b : Bool} (h : wpCall (evW P A) f args [] (fun out H' => out = .ret (.bool b) false)) {us : Array Value} (hs : us.size = args.length)
    (ha : ∀ (j : Nat) (v : V) (u : Value), args[j]? = some v → us[j]? = some u → AR (g0 W) v u) : Calls P f us W fun e W' => e = .returned (.bool b) ∧ Below W.heap.size W W' := by
  unfold wpCall at h
  cases hc : evW P A f args [] with
  | none => rw [hc] at h; exact h.elim
  | some x =>
    obtain ⟨out, H'⟩ := x
    rw [hc] at h
    simp only at h
    subst h
    refine (evW_sound hmx f args [] _ H' hc (g0 W) W us hgl (g0_sim W) hs ha).mono fun e W' ⟨G', _, _, hfr, hout⟩ => ?_
    cases e with
    | returned u => exact ⟨by rw [((hout.1 (by simp)).bool_inv)], g0_below hfr⟩
    | _ => exact hout.elim
/-- A slice that is read, of elements of a known number of cells each. -/
theorem open_rsl {H : Type} {enc : TypeId × Value → H} {P : Program} {W : World} {base : Nat} {spare : Nat → Bool} {held : Bool} {α : Type} [Inhabited α] {t e : TypeId} {sz : Nat} (cl : α → List Value) (tv : α → V)
    (hcl : ∀ a, (cl a).length = sz) (hvc : ∀ a, CellsR (g0 W) (tv a).cells (cl a)) (ht : P.underlying t = some (.slice e)) (hsz : P.cellsOf e = sz)
    (hel : ∀ n cs x, DataW.trod enc P W base spare held n e cs = some x → ∃ a, cs = cl a) {fuel : Nat} {v : Value} {x : DataW H × List MemPlace} (h : DataW.trod enc P W base spare held fuel t [v] = some x)
    (hspot : ∀ a len cap, v = .slice (some a) len cap → a.spot = none) :
    ∃ l : List α, (VR (g0 W) (.rsl (l.map tv)) v ∨ (VR (g0 W) .nils v ∧ l = [])) ∧ l.length ≤ maxLen := by
  rcases Deep.open_slice ht h with ⟨hcs, _⟩ | ⟨a, len, cap, m, n, D, Pl, hcs, hb, hl, hm, hmm, _, hx⟩
  · obtain rfl := List.head_eq_of_cons_eq hcs
    exact ⟨[], .inr ⟨.nils, rfl⟩, by simp⟩
  · obtain rfl := List.head_eq_of_cons_eq hcs
    have hlm : len ≤ m := by rw [hmm]; split <;> omega
    have hsp := hspot a len cap rfl
    obtain ⟨f, hf⟩ := Deep.choose_lt (α := α) (n := len) (p := fun i y => ∀ j u, (cl y)[j]? = some u → W.cell? ⟨a.block, a.off + i * sz + j, none⟩ = some u) (fun i hi => by
      obtain ⟨cs', h1, h2⟩ := hx i (by omega)
      obtain ⟨y, rfl⟩ := hel _ _ _ h2
      obtain ⟨_, h3, h4⟩ := World.cells?_some h1
      refine ⟨y, fun j u hu => ?_⟩
      have hj : j < (cl y).length := (List.getElem?_eq_some_iff.1 hu).1
      have h5 := h4 j (by omega)
      rw [Deep.add_add, hsz, hu] at h5
      have : a.add (i * sz + j) = ⟨a.block, a.off + i * sz + j, none⟩ := by
        obtain ⟨b, o, s⟩ := a
        simp only at hsp
        subst hsp
        unfold Addr.add
        split
        · rename_i e0; simp only [Addr.mk.injEq, true_and, and_true]; omega
        · simp only [Addr.mk.injEq, true_and, and_true]; omega
      rw [← this]; exact h5)
    refine ⟨(List.range len).map f, .inl ?_, by simp; simp only [maxLen] at hm ⊢; omega⟩
    obtain ⟨b, o, s⟩ := a
    simp only at hsp
    subst hsp
    have hlen : (((List.range len).map f).map tv).length = len := by simp
    have hget : ∀ (i : Nat) (e : V), (((List.range len).map f).map tv)[i]? = some e → i < len ∧ e = tv (f i) := fun i e he => by
      have hi : i < len := by have := (List.getElem?_eq_some_iff.1 he).1; rw [hlen] at this; exact this
      rw [List.getElem?_map, List.getElem?_map, List.getElem?_range hi] at he
      cases he; exact ⟨hi, rfl⟩
    have := VR.rsl (G := g0 W) (((List.range len).map f).map tv) b o sz cap (fun i j => (cl (f i)).getD j undef) (fun i e he => by
        obtain ⟨_, rfl⟩ := hget i e he
        rw [V.width, ← (hvc (f i)).len]; exact hcl _) (fun i e j c he hj => by
        obtain ⟨hi, rfl⟩ := hget i e he
        obtain ⟨u, hu, _, _⟩ := (hvc (f i)).get hj
        show W.cell? _ = _
        rw [hf i hi j u hu, List.getD_eq_getElem?_getD, hu]; rfl) (fun i e j c he hj => by
        obtain ⟨hi, rfl⟩ := hget i e he
        obtain ⟨u, hu, h1, _⟩ := (hvc (f i)).get hj
        rw [List.getD_eq_getElem?_getD, hu]; exact h1) (fun i e j c he hj hc => by
        obtain ⟨hi, rfl⟩ := hget i e he
        obtain ⟨u, hu, _, h2⟩ := (hvc (f i)).get hj
        rw [List.getD_eq_getElem?_getD, hu]; exact h2 hc) (by rw [hlen]; exact hl)
    rw [hlen] at this
    exact this
/-- The same, with no word on the address: what is empty may lie anywhere. -/
theorem open_rsl2 {H : Type} {enc : TypeId × Value → H} {P : Program} {W : World} {base : Nat} {spare : Nat → Bool} {held : Bool} {α : Type} [Inhabited α] {t e : TypeId} {sz : Nat} (cl : α → List Value) (tv : α → V)
    (hcl : ∀ a, (cl a).length = sz) (hvc : ∀ a, CellsR (g0 W) (tv a).cells (cl a)) (ht : P.underlying t = some (.slice e)) (hsz : P.cellsOf e = sz) (hpos : 0 < sz)
    (hel : ∀ n cs x, DataW.trod enc P W base spare held n e cs = some x → ∃ a, cs = cl a) {fuel : Nat} {v : Value} {x : DataW H × List MemPlace} (h : DataW.trod enc P W base spare held fuel t [v] = some x) :
    ∃ l : List α, (VR (g0 W) (.rsl (l.map tv)) v ∨ (VR (g0 W) .nils v ∧ l = [])) ∧ l.length ≤ maxLen := by
  by_cases hz : ∃ a cap, v = .slice (some a) 0 cap
  · obtain ⟨a, cap, rfl⟩ := hz
    exact ⟨[], .inl (.rsl0 a cap), by simp⟩
  · refine open_rsl cl tv hcl hvc ht hsz hel h fun a len cap hv => ?_
    subst hv
    have hlen : len ≠ 0 := fun e0 => hz ⟨a, cap, by rw [e0]⟩
    rcases Deep.open_slice ht h with ⟨hcs, _⟩ | ⟨a', len', cap', m, n, D, Pl, hcs, hb, hl, hm, hmm, _, hx⟩
    · have := List.head_eq_of_cons_eq hcs; cases this
    · have hv := List.head_eq_of_cons_eq hcs
      simp only [Value.slice.injEq, Option.some.injEq] at hv
      obtain ⟨rfl, rfl, rfl⟩ := hv
      have hlm : len ≤ m := by rw [hmm]; split <;> omega
      obtain ⟨cs', h1, _⟩ := hx 0 (by omega)
      obtain ⟨_, h3, h4⟩ := World.cells?_some h1
      have h5 := h4 0 (by omega)
      rw [Nat.zero_mul] at h5
      have h6 : (a.add 0).add 0 = a := by simp [Addr.add]
      rw [h6, List.getElem?_eq_getElem (by omega)] at h5
      unfold World.cell? at h5
      split at h5
      · cases hs : a.spot with
        | none => rfl
        | some s => rw [hs] at h5; simp at h5
      · cases h5
end Go.Abs
