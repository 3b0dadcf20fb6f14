/- A part of the proofs over this seat. -/
import Derived.Test.YthicacphcljdmaaQAbsRd
import Derived.WalkKit
import Derived.ProofKit
import Derived.OpenShut
import Derived.ShutString
import Derived.ChangeOld
import Derived.Below
import Derived.SizedLaws
import Derived.Carry
import Derived.WideShapes
namespace Go.Abs
set_option linter.unusedVariables false
set_option linter.unusedSimpArgs false
open Go.RowKit Go.WideShapes
/-! ### What is handed in, as trees, for every type of booleans, integers, strings, structs and slices -/
def isAggT (P : Program) (t : TypeId) : Bool := match P.underlying t with | some (.struct _) => true | _ => false
def mkV : Bool → List V → V
  | true, cs => .agg cs
  | false, cs => cs.headD .undef
def TvF (g : TypeId → List V → Prop) : List Field → List V → Prop
  | [], vs => vs = []
  | f :: fs, vs => ∃ a b, vs = a ++ b ∧ g f.type a ∧ TvF g fs b
/-- The cells of a value of a type -/
def Tv (P : Program) : Nat → TypeId → List V → Prop
  | 0, _, _ => False
  | d + 1, t, vs => match P.underlying t with
    | some .bool => ∃ b, vs = [.bool b]
    | some (.int k) => ∃ n, vs = [.int k n] ∧ (Lit.int k n).wf = true
    | some .string => ∃ s, vs = [.str s] ∧ s.size ≤ maxLen
    | some (.slice e) => vs = [.nils] ∨ ∃ rows : List (List V), vs = [.rsl (rows.map (mkV (isAggT P e)))] ∧ rows.length ≤ maxLen ∧ ∀ r ∈ rows, Tv P d e r
    | some (.struct fs) => TvF (Tv P d) fs.toList vs
    | _ => False
def suppF (P : Program) (g : TypeId → Bool) : Nat → List Field → Option Nat
  | off, [] => some off
  | off, f :: fs => if f.offset == off && g f.type then suppF P g (off + P.cellsOf f.type) fs else none
def supp (P : Program) : Nat → TypeId → Bool
  | 0, _ => false
  | d + 1, t => match P.underlying t with
    | some .bool | some (.int _) | some .string => P.cellsOf t == 1
    | some (.slice e) => P.cellsOf t == 1 && decide (0 < P.cellsOf e) && supp P d e
    | some (.struct fs) => suppF P (supp P d) 0 fs.toList == some (P.cellsOf t)
    | _ => false
section
variable {H : Type} {enc : TypeId × Value → H} {P : Program} {W : World} {base : Nat} {spare : Nat → Bool} {held : Bool}
theorem Tv.one {d : Nat} {t : TypeId} {vs : List V} (h : Tv P d t vs) (ha : isAggT P t = false) : ∃ c, vs = [c] ∧ c.cells = [c] := by
  cases d with
  | zero => exact h.elim
  | succ d =>
    simp only [Tv] at h
    unfold isAggT at ha
    split at h
    · obtain ⟨b, rfl⟩ := h; exact ⟨_, rfl, rfl⟩
    · obtain ⟨b, rfl, _⟩ := h; exact ⟨_, rfl, rfl⟩
    · obtain ⟨b, rfl, _⟩ := h; exact ⟨_, rfl, rfl⟩
    · rcases h with rfl | ⟨_, rfl, _⟩ <;> exact ⟨_, rfl, rfl⟩
    · rename_i hu; rw [hu] at ha; cases ha
    · exact h.elim
theorem Tv.mk_cells {d : Nat} {t : TypeId} {vs : List V} (h : Tv P d t vs) : (mkV (isAggT P t) vs).cells = vs := by
  cases ha : isAggT P t with
  | true => rfl
  | false =>
    obtain ⟨c, rfl, hc⟩ := h.one ha
    exact hc
theorem cellsR_one {G : Gh} {c : V} {u : Value} (h : u.oneCell' = true) (r : AR G c u) : CellsR G [c] [u] :=
  ⟨rfl, (fun v hv => by simp at hv; rw [hv]; exact h), (fun j x y hx hy => by
    cases j with
    | zero => simp at hx hy; subst hx hy; exact r
    | succ j => simp at hx)⟩
theorem open_fields {g : TypeId → List V → Prop} {q : TypeId → Bool} {tr : TypeId → List Value → Bool} {G : Gh} {cs : List Value} (hg : ∀ t us, q t = true → tr t us = true → ∃ vs, g t vs ∧ CellsR G vs us ∧ us.length = P.cellsOf t) :
    ∀ (fs : List Field) (off n : Nat), suppF P q off fs = some n → cs.length = n → off ≤ n → (∀ (i : Nat) (f : Field), fs[i]? = some f → tr f.type ((cs.drop f.offset).take (P.cellsOf f.type)) = true) → ∃ vs, TvF g fs vs ∧ CellsR G vs (cs.drop off)
  | [], off, n, h, hl, ho, hf => by
    simp only [suppF, Option.some.injEq] at h
    exact ⟨[], rfl, by rw [List.drop_of_length_le (by omega)]; exact CellsP.nil⟩
  | f :: fs, off, n, h, hl, ho, hf => by
    simp only [suppF] at h
    split at h
    · rename_i hc
      simp only [Bool.and_eq_true, beq_iff_eq] at hc
      obtain ⟨rfl, hq⟩ := hc
      obtain ⟨a, h1, h2, h3⟩ := hg f.type _ hq (hf 0 f rfl)
      have hle : f.offset + P.cellsOf f.type ≤ cs.length := by
        rw [List.length_take, List.length_drop] at h3; omega
      obtain ⟨b, h4, h5⟩ := open_fields hg fs _ n h hl (by omega) (fun i g hi => hf (i + 1) g (by simpa using hi))
      refine ⟨a ++ b, ⟨a, b, rfl, h1, h4⟩, ?_⟩
      have e1 : cs.drop f.offset = (cs.drop f.offset).take (P.cellsOf f.type) ++ cs.drop (f.offset + P.cellsOf f.type) := by
        rw [← List.drop_drop, List.take_append_drop]
      rw [e1]
      exact h2.append h5
    · cases h
theorem open_tv : ∀ (d : Nat) {t : TypeId}, supp P d t = true → ∀ {fuel : Nat} {cs : List Value} {x : DataW H × List MemPlace}, DataW.trod enc P W base spare held fuel t cs = some x → ∃ vs, Tv P d t vs ∧ CellsR (g0 W) vs cs ∧ cs.length = P.cellsOf t
  | 0, t, hs, fuel, cs, x, h => by cases hs
  | d + 1, t, hs, fuel, cs, x, h => by
    simp only [supp] at hs
    split at hs
    · rename_i hu
      obtain ⟨b, rfl, _⟩ := DataW.trod_bool hu h
      exact ⟨[.bool b], by simp only [Tv, hu]; exact ⟨b, rfl⟩, cellsR_one rfl (fun _ => .bool b), (beq_iff_eq.1 hs).symm⟩
    · rename_i k hu
      obtain ⟨n, rfl, _, hw⟩ := DataW.trod_int hu h
      exact ⟨[.int k n], by simp only [Tv, hu]; exact ⟨n, rfl, hw⟩, cellsR_one rfl (fun _ => .int k n), (beq_iff_eq.1 hs).symm⟩
    · rename_i hu
      obtain ⟨s, rfl, _, hw⟩ := DataW.trod_string hu h
      exact ⟨[.str s], by simp only [Tv, hu]; exact ⟨s, rfl, hw⟩, cellsR_one rfl (fun _ => .str s), (beq_iff_eq.1 hs).symm⟩
    · rename_i e hu
      simp only [Bool.and_eq_true, beq_iff_eq, decide_eq_true_eq] at hs
      obtain ⟨⟨hs1, hs2⟩, hs3⟩ := hs
      rcases Deep.open_slice hu h with ⟨rfl, _⟩ | ⟨a, len, cap, m, n, D, Pl, rfl, hb, hl, hm, hmm, hxx, hx⟩
      · exact ⟨[.nils], by unfold Tv; rw [hu]; exact .inl rfl, cellsR_one rfl (fun _ => .nils), hs1.symm⟩
      · by_cases h0 : len = 0
        · subst h0
          exact ⟨[.rsl []], by simp only [Tv, hu]; exact .inr ⟨[], rfl, by simp [maxLen], fun r hr => by cases hr⟩, cellsR_one rfl (fun _ => .rsl0 a cap), hs1.symm⟩
        · have hlm : len ≤ m := by rw [hmm]; split <;> omega
          let α := { p : List V × List Value // Tv P d e p.1 ∧ CellsR (g0 W) p.1 p.2 ∧ p.2.length = P.cellsOf e }
          have hel : ∀ n cs x, DataW.trod enc P W base spare held n e cs = some x → ∃ a : α, cs = a.1.2 := fun n cs x hh => by
            obtain ⟨vs, v1, v2, v3⟩ := open_tv d hs3 hh
            exact ⟨⟨(vs, cs), v1, v2, v3⟩, rfl⟩
          obtain ⟨cs', _, hh⟩ := hx 0 (by omega)
          obtain ⟨a0, _⟩ := hel _ _ _ hh
          haveI : Inhabited α := ⟨a0⟩
          obtain ⟨l, hl1, hl2⟩ := open_rsl2 (α := α) (sz := P.cellsOf e) (fun p => p.1.2) (fun p => mkV (isAggT P e) p.1.1) (fun p => p.2.2.2) (fun p => by rw [p.2.1.mk_cells]; exact p.2.2.1) hu rfl hs2 hel h
          rcases hl1 with hl1 | ⟨hl1, _⟩
          · refine ⟨[.rsl (l.map fun p => mkV (isAggT P e) p.1.1)], ?_, cellsR_one rfl (fun _ => hl1), hs1.symm⟩
            simp only [Tv, hu]
            refine .inr ⟨l.map fun p => p.1.1, by rw [List.map_map]; rfl, by simpa using hl2, fun r hr => ?_⟩
            obtain ⟨p, _, rfl⟩ := List.mem_map.1 hr
            exact p.2.1
          · exact ⟨[.nils], by unfold Tv; rw [hu]; exact .inl rfl, cellsR_one rfl (fun _ => hl1), hs1.symm⟩
    · rename_i fs hu
      have hs' : suppF P (supp P d) 0 fs.toList = some (P.cellsOf t) := by simpa using hs
      obtain ⟨xs, n, _, _, hl, hlen, hf⟩ := DataW.trod_struct hu h
      obtain ⟨vs, h1, h2⟩ := open_fields (P := P) (g := Tv P d) (q := supp P d) (tr := fun t us => (DataW.trod enc P W base spare held n t us).isSome) (G := g0 W) (cs := cs) (fun t us hq ht => by
          obtain ⟨y, hy⟩ := Option.isSome_iff_exists.1 ht
          exact open_tv d hq hy) fs.toList 0 _ hs' hl (Nat.zero_le _) (fun i f hi => by
          have hi' : fs[i]? = some f := by simpa using hi
          have hlt : i < xs.length := by rw [hlen]; exact (Array.getElem?_eq_some_iff.1 hi').1
          rw [hf i f hi', List.getElem?_eq_getElem hlt]; rfl)
      rw [List.drop_zero] at h2
      exact ⟨vs, by simp only [Tv, hu]; exact h1, h2, hl⟩
    · cases hs
/-- An argument -/
theorem open_arg {d : Nat} {r : Reach} {b0 : Nat} {t : TypeId} {v : Value} {dd : DataW H} {ps : List MemPlace} (hs : supp P d t = true) (hval : Value.okWide P W r b0 t v) (h : DataW.Trod enc P W base spare held t v dd ps) :
    ∃ vs, Tv P d t vs ∧ AR (g0 W) (mkV (isAggT P t) vs) v := by
  obtain ⟨fuel, hf⟩ := h
  obtain ⟨vs, h1, h2, h3⟩ := open_tv d hs hf
  refine ⟨vs, h1, ?_⟩
  cases ha : isAggT P t with
  | true =>
    unfold isAggT at ha
    split at ha
    · rename_i fs hu
      obtain ⟨us, rfl, _⟩ := okWide_struct hu hval
      exact fun _ => VR.agg_mk h2
    · cases ha
  | false =>
    obtain ⟨c, rfl, hc⟩ := h1.one ha
    have hl := h2.len
    have hv : ∃ u, v.cells.toList = [u] := by
      match hvc : v.cells.toList, hl with
      | [u], _ => exact ⟨u, rfl⟩
    obtain ⟨u, hu⟩ := hv
    rw [hu] at h2
    have hr := h2.at_ 0 c u rfl rfl
    have : v = u := by
      have hna : ∀ us, v ≠ .agg us := fun us e => by
        subst e
        cases d with
        | zero => cases hs
        | succ d =>
          unfold isAggT at ha
          simp only [supp] at hs
          split at hs
          · rename_i hu; obtain ⟨b, hb⟩ := okWide_bool hu hval; cases hb
          · rename_i k hu; obtain ⟨b, hb⟩ := okWide_int hu hval; cases hb
          · rename_i hu; obtain ⟨b, hb⟩ := okWide_string hu hval; cases hb
          · rename_i e hu
            simp only [Value.okWide, hu, Cell.okWide] at hval
            simp [Cell.ok, hu] at hval
          · rename_i fs hu; rw [hu] at ha; cases ha
          · cases hs
      have e1 : v.cells = #[v] := by cases v <;> first | rfl | exact absurd rfl (hna _)
      rw [e1] at hu
      simpa using hu
    rw [this]
    exact hr
end
/-- Rows whose elements are all of one form -/
theorem rows_map {α : Type} {f : List V → V} {tv : α → V} {Q : α → Prop} : ∀ {rows : List (List V)}, (∀ r ∈ rows, ∃ a, f r = tv a ∧ Q a) → ∃ l : List α, rows.map f = l.map tv ∧ l.length = rows.length ∧ ∀ a ∈ l, Q a
  | [], _ => ⟨[], rfl, rfl, fun a h => by cases h⟩
  | r :: rows, h => by
    obtain ⟨a, h1, h2⟩ := h r (by simp)
    obtain ⟨l, h3, h4, h5⟩ := rows_map (rows := rows) (f := f) (tv := tv) (Q := Q) (fun r hr => h r (List.mem_cons_of_mem _ hr))
    exact ⟨a :: l, by rw [List.map_cons, List.map_cons, h1, h3], by rw [List.length_cons, List.length_cons, h4], fun b hb => (List.mem_cons.1 hb).elim (fun e => e ▸ h2) (h5 b)⟩
end Go.Abs
