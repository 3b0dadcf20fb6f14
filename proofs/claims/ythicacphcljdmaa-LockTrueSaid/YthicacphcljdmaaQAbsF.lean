/- A part of the proofs over this seat. -/
import Derived.Test.YthicacphcljdmaaQAbsL
namespace Go.Abs
set_option linter.unusedVariables false
set_option linter.unusedSimpArgs false
/-! ### More rounds give the same answer; the limit -/
def Callee.le (C C' : Callee) : Prop := ∀ f args H r, C f args H = some r → C' f args H = some r
def Env.with (E : Env) (C : Callee) : Env := { E with C := C }
section
variable {E : Env} {C C' : Callee}
theorem after_mono {m : Mode} {st : St} {d : Option Nat} {f : FuncId} {args : List V} {H : Hp} (hC : C.le C') {r : Ex × St × Hp} (h : after m st d (C f args H) = some r) : after m st d (C' f args H) = some r := by
  cases hc : C f args H with
  | none => rw [hc] at h; cases h
  | some x => rw [hC _ _ _ _ hc]; rw [hc] at h; exact h
theorem callOp_mono (hC : C.le C') {o : Oper} {c : Call} {st : St} {H : Hp} {r : Ex × St × Hp} (h : callOp (E.with C) o c st H = some r) : callOp (E.with C') o c st H = some r := by
  unfold callOp at h ⊢
  cases hc : c.callee with
  | builtin b => rw [hc] at h; exact h
  | value f =>
    rw [hc] at h
    simp only at h ⊢
    split at h
    · rename_i f' first cap hf
      split at h
      · rename_i hcall
        have hcall' : callable (E.with C').P f' = true := hcall
        rw [if_pos hcall']
        exact after_mono hC h
      · cases h
    · cases h
  | invoke recv name =>
    rw [hc] at h
    simp only at h ⊢
    split at h
    · rename_i t v hr
      split at h
      · rename_i f hm
        have hm' : methodT (E.with C').P t name = some f := hm
        simp only [hm']
        split at h
        · rename_i hcall
          have hcall' : callable (E.with C').P f = true := hcall
          rw [if_pos hcall']
          exact after_mono hC h
        · cases h
      · cases h
    · cases h
theorem evOp_mono (hC : C.le C') {o : Oper} {st : St} {H : Hp} {r : Ex × St × Hp} (h : evOp (E.with C) o st H = some r) : evOp (E.with C') o st H = some r := by
  cases ho : o.op with
  | call c =>
    have h1 : evOp (E.with C) o st H = callOp (E.with C) o c st H := by unfold evOp; rw [ho]
    have h2 : evOp (E.with C') o st H = callOp (E.with C') o c st H := by unfold evOp; rw [ho]
    rw [h1] at h
    rw [h2]
    exact callOp_mono hC h
  | makeFunc fn first cap => cases fn <;> (unfold evOp at h ⊢; rw [ho] at h ⊢; exact h)
  | makeMap t r => cases r <;> (unfold evOp at h ⊢; rw [ho] at h ⊢; exact h)
  | _ => unfold evOp at h ⊢; rw [ho] at h ⊢; exact h
theorem evOps_mono (hC : C.le C') {ops : List Oper} : ∀ (l : List Oper) {st : St} {H : Hp} {r : Ex × St × Hp}, evOps (E.with C) ops l st H = some r → evOps (E.with C') ops l st H = some r
  | [], st, H, r, h => h
  | o :: l, st, H, r, h => by
    simp only [evOps] at h ⊢
    cases hg : guardS ops st o with
    | none => rw [hg] at h; cases h
    | some b =>
      rw [hg] at h
      cases b with
      | false => exact evOps_mono hC l h
      | true =>
        simp only at h ⊢
        cases he : evOp (E.with C) o st H with
        | none => rw [he] at h; cases h
        | some x =>
          rw [he] at h
          rw [evOp_mono hC he]
          obtain ⟨ex, st1, H1⟩ := x
          cases ex <;> first | exact evOps_mono hC l h | exact h
theorem evDraw_mono (hC : C.le C') {ops : List Oper} {st : St} {H : Hp} {r : Ex × St × Hp} (h : evDraw (E.with C) ops st H = some r) : evDraw (E.with C') ops st H = some r := by
  unfold evDraw at h ⊢
  split at h
  · rename_i hall
    have h2 := evOps_mono hC ops h
    rw [if_pos]
    · exact h2
    · intro t
      rw [evOps_mono hC _ ((hall t).trans h), h2]
  · cases h
theorem loopN_mono {f f' : St → Hp → R} {nm : St → St} (hf : ∀ st H r, f st H = some r → f' st H = some r) : ∀ (n : Nat) {st : St} {H : Hp} {r : Ex × St × Hp}, loopN f nm n st H = some r → loopN f' nm n st H = some r
  | 0, st, H, r, h => by cases h
  | n + 1, st, H, r, h => by
    simp only [loopN] at h ⊢
    cases hr : f (nm st) H with
    | none => rw [hr] at h; cases h
    | some x =>
      rw [hr] at h
      rw [hf _ _ _ hr]
      obtain ⟨ex, st1, H1⟩ := x
      cases ex <;> first | exact loopN_mono hf n h | exact h
theorem loopN_more {f : St → Hp → R} {nm : St → St} : ∀ (n : Nat) {m : Nat} {st : St} {H : Hp} {r : Ex × St × Hp}, loopN f nm n st H = some r → n ≤ m → loopN f nm m st H = some r
  | 0, m, st, H, r, h, hm => by cases h
  | n + 1, 0, st, H, r, h, hm => by omega
  | n + 1, m + 1, st, H, r, h, hm => by
    simp only [loopN] at h ⊢
    cases hr : f (nm st) H with
    | none => rw [hr] at h; cases h
    | some x =>
      rw [hr] at h
      obtain ⟨ex, st1, H1⟩ := x
      cases ex <;> first | exact loopN_more n h (by omega) | exact h
theorem loopW_iff {f : St → Hp → R} {nm : St → St} {st : St} {H : Hp} {r : Ex × St × Hp} : loopW f nm st H = some r ↔ ∃ n, loopN f nm n st H = some r := by
  refine ⟨loopW_some, fun ⟨n, hn⟩ => ?_⟩
  have hex : ∃ r n, loopN f nm n st H = some r := ⟨r, n, hn⟩
  unfold loopW
  rw [dif_pos hex]
  obtain ⟨m, hm⟩ := hex.choose_spec
  have h1 := loopN_more n hn (Nat.le_max_left n m)
  have h2 := loopN_more m hm (Nat.le_max_right n m)
  rw [h1] at h2
  exact h2.symm
/-- A loop is its round, and then the loop. -/
theorem loopW_eq (f : St → Hp → R) (nm : St → St) (st : St) (H : Hp) : loopW f nm st H = match f (nm st) H with
    | some (.normal, st, H) => loopW f nm st H
    | r => r := by
  cases hr : f (nm st) H with
  | none =>
    cases hl : loopW f nm st H with
    | none => rfl
    | some r =>
      obtain ⟨n, hn⟩ := loopW_some hl
      cases n with
      | zero => cases hn
      | succ n => simp only [loopN, hr] at hn; cases hn
  | some x =>
    obtain ⟨ex, st1, H1⟩ := x
    cases ex with
    | normal =>
      simp only
      cases hl : loopW f nm st1 H1 with
      | some r =>
        obtain ⟨n, hn⟩ := loopW_some hl
        exact loopW_iff.2 ⟨n + 1, by simp only [loopN, hr]; exact hn⟩
      | none =>
        cases hl2 : loopW f nm st H with
        | none => rfl
        | some r =>
          obtain ⟨n, hn⟩ := loopW_some hl2
          cases n with
          | zero => cases hn
          | succ n =>
            simp only [loopN, hr] at hn
            have := loopW_iff.2 ⟨n, hn⟩
            rw [hl] at this; cases this
    | exit i => exact loopW_iff.2 ⟨1, by simp only [loopN, hr]⟩
    | goto i => exact loopW_iff.2 ⟨1, by simp only [loopN, hr]⟩
    | ret => exact loopW_iff.2 ⟨1, by simp only [loopN, hr]⟩
    | panic v => exact loopW_iff.2 ⟨1, by simp only [loopN, hr]⟩
theorem evCode_mono (hC : C.le C') : ∀ (c : Code) {st : St} {H : Hp} {r : Ex × St × Hp}, evCode (E.with C) c st H = some r → evCode (E.with C') c st H = some r := by
  intro c
  induction c using codeInd with
  | region id ops draw =>
    intro st H r h
    cases draw with
    | false => exact evOps_mono hC _ h
    | true => exact evDraw_mono hC h
  | seq x y ihx ihy =>
    intro st H r h
    simp only [evCode] at h ⊢
    cases hx : evCode (E.with C) x st H with
    | none => rw [hx] at h; cases h
    | some q =>
      rw [hx] at h
      rw [ihx hx]
      obtain ⟨ex, st1, H1⟩ := q
      cases ex <;> first | exact ihy h | exact h
  | cond c x y ihx ihy =>
    intro st H r h
    simp only [evCode] at h ⊢
    split at h
    · exact ihx h
    · exact ihy h
    · cases h
  | block id c ih =>
    intro st H r h
    simp only [evCode] at h ⊢
    cases hx : evCode (E.with C) c st H with
    | none => rw [hx] at h; cases h
    | some q =>
      rw [hx] at h
      rw [ih hx]
      exact h
  | loop c ih =>
    intro st H r h
    simp only [evCode] at h ⊢
    obtain ⟨n, hn⟩ := loopW_some h
    exact loopW_iff.2 ⟨n, loopN_mono (fun _ _ _ => ih) n hn⟩
  | skip => intro st H r h; exact h
  | label l => intro st H r h; exact h
  | rangeFunc f ps as c ih1 ih2 => intro st H r h; exact h
  | exit id => intro st H r h; exact h
  | scope c ih ihl =>
    intro st H r h
    rw [evCode_scope] at h ⊢
    cases hx : evCode (E.with C) c st H with
    | none => rw [hx] at h; cases h
    | some q =>
      rw [hx] at h
      rw [ih hx]
      obtain ⟨ex, st1, H1⟩ := q
      cases ex with
      | goto l =>
        simp only at h ⊢
        cases hf : findLabel c l with
        | none => rw [hf] at h; cases h
        | some rest =>
          rw [hf] at h
          simp only [Option.map_some, gotoK] at h ⊢
          cases hr : evCode (E.with C) rest st1 H1 with
          | none => rw [hr] at h; cases h
          | some q2 => rw [hr] at h; rw [ihl l rest hf hr]; exact h
      | _ => exact h
  | goto l => intro st H r h; exact h
  | ret => intro st H r h; exact h
  | refuse why => intro st H r h; exact h
/-- The callee of a chain of callees, each more than the one ahead. -/
def Chain (Cs : Nat → Callee) : Prop := ∀ n, (Cs n).le (Cs (n + 1))
theorem Chain.le {Cs : Nat → Callee} (h : Chain Cs) {n m : Nat} (hm : n ≤ m) : (Cs n).le (Cs m) := by
  induction hm with
  | refl => exact fun _ _ _ _ x => x
  | step _ ih => exact fun f a H r x => h _ _ _ _ _ (ih _ _ _ _ x)
open Classical in
noncomputable def limC (Cs : Nat → Callee) : Callee := fun f args H => if h : ∃ r n, Cs n f args H = some r then some h.choose else none
theorem limC_iff {Cs : Nat → Callee} (hc : Chain Cs) {f : FuncId} {args : List V} {H : Hp} {r : Out × Hp} : limC Cs f args H = some r ↔ ∃ n, Cs n f args H = some r := by
  constructor
  · intro h
    unfold limC at h
    split at h
    · rename_i hh; cases h; exact hh.choose_spec
    · cases h
  · rintro ⟨n, hn⟩
    have hex : ∃ r n, Cs n f args H = some r := ⟨r, n, hn⟩
    unfold limC
    rw [dif_pos hex]
    obtain ⟨m, hm⟩ := hex.choose_spec
    have h1 := hc.le (Nat.le_max_left n m) _ _ _ _ hn
    have h2 := hc.le (Nat.le_max_right n m) _ _ _ _ hm
    rw [h1] at h2
    exact h2.symm
theorem limC_ge {Cs : Nat → Callee} (hc : Chain Cs) (n : Nat) : (Cs n).le (limC Cs) := fun f a H r h => (limC_iff hc).2 ⟨n, h⟩
section
variable {Cs : Nat → Callee} (hc : Chain Cs)
include hc
theorem after_lim {m : Mode} {st : St} {d : Option Nat} {f : FuncId} {args : List V} {H : Hp} {r : Ex × St × Hp} (h : after m st d (limC Cs f args H) = some r) : ∃ n, after m st d (Cs n f args H) = some r := by
  cases hl : limC Cs f args H with
  | none => rw [hl] at h; cases h
  | some x =>
    obtain ⟨n, hn⟩ := (limC_iff hc).1 hl
    exact ⟨n, by rw [hn]; rw [hl] at h; exact h⟩
theorem evOp_lim {o : Oper} {st : St} {H : Hp} {r : Ex × St × Hp} (h : evOp (E.with (limC Cs)) o st H = some r) : ∃ n, evOp (E.with (Cs n)) o st H = some r := by
  cases ho : o.op with
  | call c =>
    have h1 : ∀ C, evOp (E.with C) o st H = callOp (E.with C) o c st H := fun C => by unfold evOp; rw [ho]
    rw [h1] at h
    unfold callOp at h
    cases hcal : c.callee with
    | builtin b =>
      refine ⟨0, ?_⟩
      rw [h1]
      unfold callOp
      rw [hcal] at h ⊢
      exact h
    | value f =>
      rw [hcal] at h
      simp only at h
      split at h
      · rename_i f' first cap hf
        split at h
        · rename_i hcall
          obtain ⟨n, hn⟩ := after_lim hc h
          refine ⟨n, ?_⟩
          rw [h1]
          unfold callOp
          rw [hcal]
          simp only [hf]
          have hcall' : callable (E.with (Cs n)).P f' = true := hcall
          rw [if_pos hcall']
          exact hn
        · cases h
      · cases h
    | invoke recv name =>
      rw [hcal] at h
      simp only at h
      split at h
      · rename_i t v hr
        split at h
        · rename_i f hm
          split at h
          · rename_i hcall
            obtain ⟨n, hn⟩ := after_lim hc h
            refine ⟨n, ?_⟩
            rw [h1]
            unfold callOp
            rw [hcal]
            have hm' : methodT (E.with (Cs n)).P t name = some f := hm
            have hcall' : callable (E.with (Cs n)).P f = true := hcall
            simp only [hr, hm']
            rw [if_pos hcall']
            exact hn
          · cases h
        · cases h
      · cases h
  | makeFunc fn first cap => refine ⟨0, ?_⟩; cases fn <;> (unfold evOp at h ⊢; rw [ho] at h ⊢; exact h)
  | makeMap t r => refine ⟨0, ?_⟩; cases r <;> (unfold evOp at h ⊢; rw [ho] at h ⊢; exact h)
  | _ => refine ⟨0, ?_⟩; unfold evOp at h ⊢; rw [ho] at h ⊢; exact h
theorem evOps_lim {ops : List Oper} : ∀ (l : List Oper) {st : St} {H : Hp} {r : Ex × St × Hp}, evOps (E.with (limC Cs)) ops l st H = some r → ∃ n, evOps (E.with (Cs n)) ops l st H = some r
  | [], st, H, r, h => ⟨0, h⟩
  | o :: l, st, H, r, h => by
    simp only [evOps] at h ⊢
    cases hg : guardS ops st o with
    | none => rw [hg] at h; cases h
    | some b =>
      rw [hg] at h
      cases b with
      | false => exact evOps_lim l h
      | true =>
        simp only at h ⊢
        cases he : evOp (E.with (limC Cs)) o st H with
        | none => rw [he] at h; cases h
        | some x =>
          rw [he] at h
          obtain ⟨n, hn⟩ := evOp_lim hc he
          obtain ⟨ex, st1, H1⟩ := x
          cases ex with
          | normal =>
            obtain ⟨m, hm⟩ := evOps_lim l h
            refine ⟨max n m, ?_⟩
            rw [evOp_mono (hc.le (Nat.le_max_left n m)) hn]
            exact evOps_mono (hc.le (Nat.le_max_right n m)) l hm
          | _ => exact ⟨n, by rw [hn]; exact h⟩
end
/-- All lists of so many numbers below a bound. -/
def allL (k : Nat) : Nat → List (List Nat)
  | 0 => [[]]
  | n + 1 => [] :: (List.range k).flatMap fun i => (allL k n).map (i :: ·)
theorem mem_allL {k : Nat} : ∀ {n : Nat} {l : List Nat}, l.length ≤ n → (∀ x ∈ l, x < k) → l ∈ allL k n
  | 0, l, hl, hx => by
    have : l = [] := List.eq_nil_of_length_eq_zero (by omega)
    subst this; simp [allL]
  | n + 1, [], hl, hx => by simp [allL]
  | n + 1, x :: l, hl, hx => by
    simp only [allL, List.mem_cons, List.mem_flatMap, List.mem_range, List.mem_map]
    exact .inr ⟨x, hx x (by simp), l, mem_allL (by simpa using hl) (fun y hy => hx y (by simp [hy])), rfl⟩
theorem linearise_go_small (md : Region.Mode) (ops : Array Oper) : ∀ (fuel t : Nat) (listed : Array Bool) (acc : List Nat), (∀ x ∈ acc, x < ops.size) →
    (Region.linearise.go md ops fuel t listed acc).length ≤ acc.length + fuel ∧ ∀ x ∈ Region.linearise.go md ops fuel t listed acc, x < ops.size
  | 0, t, listed, acc, h => by simp only [Region.linearise.go]; exact ⟨by simp, by simpa using h⟩
  | fuel + 1, t, listed, acc, h => by
    simp only [Region.linearise.go]
    split
    · rename_i i hi
      have hmem := List.mem_of_getElem? hi
      have hlt : i < ops.size := List.mem_range.1 (List.mem_filter.1 hmem).1
      have := fun t' => linearise_go_small md ops fuel t' (listed.setIfInBounds i true) (i :: acc) (fun x hx => by
        rcases List.mem_cons.1 hx with rfl | hx
        · exact hlt
        · exact h x hx)
      refine ⟨Nat.le_trans (this _).1 (by simp; omega), (this _).2⟩
    · exact ⟨by simp, by simpa using h⟩
theorem schedule_small (ops : Array Oper) (t : Nat) : Region.schedule true ops t ∈ allL ops.size ops.size := by
  have := linearise_go_small .any ops ops.size t (Array.replicate ops.size false) [] (fun _ h => by cases h)
  simp only [Region.schedule, Bool.true_or, if_true, Region.linearise]
  exact mem_allL (by simpa using this.1) this.2
theorem bound_all {α : Type} {q : α → Prop} {p : α → Nat → Prop} (mono : ∀ a n m, p a n → n ≤ m → p a m) : ∀ (l : List α), (∀ a ∈ l, q a → ∃ n, p a n) → ∃ N, ∀ a ∈ l, q a → p a N
  | [], h => ⟨0, fun a ha => by cases ha⟩
  | x :: l, h => by
    obtain ⟨N, hN⟩ := bound_all mono l (fun a ha => h a (by simp [ha]))
    by_cases hq : q x
    · obtain ⟨n, hn⟩ := h x (by simp) hq
      refine ⟨max n N, fun a ha hqa => ?_⟩
      rcases List.mem_cons.1 ha with rfl | ha
      · exact mono _ _ _ hn (Nat.le_max_left _ _)
      · exact mono _ _ _ (hN a ha hqa) (Nat.le_max_right _ _)
    · refine ⟨N, fun a ha hqa => ?_⟩
      rcases List.mem_cons.1 ha with rfl | ha
      · exact absurd hqa hq
      · exact hN a ha hqa
section
variable {Cs : Nat → Callee} (hc : Chain Cs)
include hc
theorem evDraw_lim {ops : List Oper} {st : St} {H : Hp} {r : Ex × St × Hp} (h : evDraw (E.with (limC Cs)) ops st H = some r) : ∃ n, evDraw (E.with (Cs n)) ops st H = some r := by
  unfold evDraw at h
  split at h
  · rename_i hall
    obtain ⟨n0, h0⟩ := evOps_lim hc ops h
    obtain ⟨N, hN⟩ := bound_all (q := fun σ => ∃ t, σ = Region.schedule true ops.toArray t) (p := fun σ n => evOps (E.with (Cs n)) ops (σ.filterMap (ops[·]?)) st H = some r)
      (fun σ n m hp hm => evOps_mono (hc.le hm) _ hp) (allL ops.toArray.size ops.toArray.size) (fun σ _ hq => by
        obtain ⟨t, rfl⟩ := hq
        exact evOps_lim hc _ ((hall t).trans h))
    refine ⟨max n0 N, ?_⟩
    have h1 := evOps_mono (hc.le (Nat.le_max_left n0 N)) ops h0
    unfold evDraw
    rw [if_pos]
    · exact h1
    · intro t
      rw [h1]
      exact evOps_mono (hc.le (Nat.le_max_right n0 N)) _ (hN _ (schedule_small ops.toArray t) ⟨t, rfl⟩)
  · cases h
omit hc in
theorem loopN_lim {f : Nat → St → Hp → R} {fω : St → Hp → R} {nm : St → St} (hm : ∀ n m st H r, n ≤ m → f n st H = some r → f m st H = some r) (hf : ∀ st H r, fω st H = some r → ∃ n, f n st H = some r) :
    ∀ (k : Nat) {st : St} {H : Hp} {r : Ex × St × Hp}, loopN fω nm k st H = some r → ∃ n, loopN (f n) nm k st H = some r
  | 0, st, H, r, h => by cases h
  | k + 1, st, H, r, h => by
    simp only [loopN] at h ⊢
    cases hr : fω (nm st) H with
    | none => rw [hr] at h; cases h
    | some x =>
      rw [hr] at h
      obtain ⟨n, hn⟩ := hf _ _ _ hr
      obtain ⟨ex, st1, H1⟩ := x
      cases ex with
      | normal =>
        obtain ⟨m, hm2⟩ := loopN_lim hm hf k h
        refine ⟨max n m, ?_⟩
        rw [hm n _ _ _ _ (Nat.le_max_left n m) hn]
        exact loopN_mono (fun _ _ _ => hm m _ _ _ _ (Nat.le_max_right n m)) k hm2
      | _ => exact ⟨n, by rw [hn]; exact h⟩
theorem evCode_lim : ∀ (c : Code) {st : St} {H : Hp} {r : Ex × St × Hp}, evCode (E.with (limC Cs)) c st H = some r → ∃ n, evCode (E.with (Cs n)) c st H = some r := by
  intro c
  induction c using codeInd with
  | region id ops draw =>
    intro st H r h
    cases draw with
    | false => exact evOps_lim hc _ h
    | true => exact evDraw_lim hc h
  | seq x y ihx ihy =>
    intro st H r h
    simp only [evCode] at h ⊢
    cases hx : evCode (E.with (limC Cs)) x st H with
    | none => rw [hx] at h; cases h
    | some q =>
      rw [hx] at h
      obtain ⟨n, hn⟩ := ihx hx
      obtain ⟨ex, st1, H1⟩ := q
      cases ex with
      | normal =>
        obtain ⟨m, hm⟩ := ihy h
        refine ⟨max n m, ?_⟩
        rw [evCode_mono (hc.le (Nat.le_max_left n m)) x hn]
        exact evCode_mono (hc.le (Nat.le_max_right n m)) y hm
      | _ => exact ⟨n, by rw [hn]; exact h⟩
  | cond c x y ihx ihy =>
    intro st H r h
    simp only [evCode] at h ⊢
    split at h
    · exact ihx h
    · exact ihy h
    · cases h
  | block id c ih =>
    intro st H r h
    simp only [evCode] at h ⊢
    cases hx : evCode (E.with (limC Cs)) c st H with
    | none => rw [hx] at h; cases h
    | some q =>
      rw [hx] at h
      obtain ⟨n, hn⟩ := ih hx
      exact ⟨n, by rw [hn]; exact h⟩
  | loop c ih =>
    intro st H r h
    simp only [evCode] at h ⊢
    obtain ⟨k, hk⟩ := loopW_some h
    obtain ⟨n, hn⟩ := loopN_lim (f := fun n => evCode (E.with (Cs n)) c) (fun n m st H r hnm hx => evCode_mono (hc.le hnm) c hx) (fun st H r hx => ih hx) k hk
    exact ⟨n, loopW_iff.2 ⟨k, hn⟩⟩
  | skip => intro st H r h; exact ⟨0, h⟩
  | label l => intro st H r h; exact ⟨0, h⟩
  | rangeFunc f ps as c ih1 ih2 => intro st H r h; exact ⟨0, h⟩
  | exit id => intro st H r h; exact ⟨0, h⟩
  | scope c ih ihl =>
    intro st H r h
    simp only [evCode_scope] at h ⊢
    cases hx : evCode (E.with (limC Cs)) c st H with
    | none => rw [hx] at h; cases h
    | some q =>
      rw [hx] at h
      obtain ⟨n, hn⟩ := ih hx
      obtain ⟨ex, st1, H1⟩ := q
      cases ex with
      | goto l =>
        simp only at h
        cases hf : findLabel c l with
        | none => rw [hf] at h; cases h
        | some rest =>
          rw [hf] at h
          simp only [Option.map_some, gotoK] at h
          cases hr : evCode (E.with (limC Cs)) rest st1 H1 with
          | none => rw [hr] at h; cases h
          | some q2 =>
            rw [hr] at h
            obtain ⟨m, hm⟩ := ihl l rest hf hr
            refine ⟨max n m, ?_⟩
            rw [evCode_mono (hc.le (Nat.le_max_left n m)) c hn]
            simp only [hf, Option.map_some, gotoK]
            rw [evCode_mono (hc.le (Nat.le_max_right n m)) rest hm]
            exact h
      | _ => exact ⟨n, by rw [hn]; exact h⟩
  | goto l => intro st H r h; exact ⟨0, h⟩
  | ret => intro st H r h; exact ⟨0, h⟩
  | refuse why => intro st H r h; exact ⟨0, h⟩
end
end
section
variable {P : Program} {A : Notes}
def envOf (P : Program) (A : Notes) (C : Callee) (f : FuncId) : Env := { P, C, kill := A.kill f, grow := A.grow f, mode := A.mode f, gl := A.gl }
/-- What a function answers, of what its code comes to -/
def endOf (P : Program) (fn : Func) (r : R) : Option (Out × Hp) :=
  match r with
  | some (.normal, st, H) | some (.ret, st, H) => (outOf P fn st H).map fun x => (x, H)
  | some (.panic v, _, H) => some (.panic v, H)
  | _ => none
theorem evBody_eq {C : Callee} {f : FuncId} {fn : Func} {c : Code} (hf : P.funcs[f]? = some fn) (hb : fn.body = some c) (args : List V) (H : Hp) : evBody P A C f args H = endOf P fn (evCode (envOf P A C f) c (enterSt fn args) H) := by
  unfold evBody
  rw [hf]
  simp only [hb]
  rfl
theorem evBody_mono {C C' : Callee} (hC : C.le C') : (evBody P A C).le (evBody P A C') := fun f args H r h => by
  cases hf : P.funcs[f]? with
  | none => unfold evBody at h; rw [hf] at h; cases h
  | some fn =>
    cases hb : fn.body with
    | none => unfold evBody at h; rw [hf] at h; simp only [hb] at h; cases h
    | some c =>
      rw [evBody_eq hf hb] at h ⊢
      cases he : evCode (envOf P A C f) c (enterSt fn args) H with
      | none => rw [he] at h; cases h
      | some x =>
        have := evCode_mono (E := envOf P A C f) (C := C) (C' := C') hC c he
        have e1 : (envOf P A C f).with C' = envOf P A C' f := rfl
        rw [e1] at this
        rw [this]; rw [he] at h; exact h
theorem wrapC_mono {p : FuncId → Bool} {C C' : Callee} (hC : C.le C') : (wrapC p C).le (wrapC p C') := fun f args H r h => by
  unfold wrapC at h ⊢
  split at h
  · split at h
    · rename_i out H2 hc
      rw [hC _ _ _ _ hc]; exact h
    · cases h
  · exact hC _ _ _ _ h
theorem evFun_mono {C C' : Callee} (hC : C.le C') : (evFun P A C).le (evFun P A C') := wrapC_mono (evBody_mono hC)
theorem ev_chain : Chain (ev P A) := by
  intro n
  induction n with
  | zero => exact fun f args H r h => by cases h
  | succ n ih => exact evFun_mono ih
/-- The evaluator, with as many rounds as it takes. -/
noncomputable def evW (P : Program) (A : Notes) : Callee := limC (ev P A)
theorem evBody_lim {f : FuncId} {args : List V} {H : Hp} {r : Out × Hp} (h : evBody P A (evW P A) f args H = some r) : ∃ n, evBody P A (ev P A n) f args H = some r := by
  cases hf : P.funcs[f]? with
  | none => unfold evBody at h; rw [hf] at h; cases h
  | some fn =>
    cases hb : fn.body with
    | none => unfold evBody at h; rw [hf] at h; simp only [hb] at h; cases h
    | some c =>
      rw [evBody_eq hf hb] at h
      cases he : evCode (envOf P A (evW P A) f) c (enterSt fn args) H with
      | none => rw [he] at h; cases h
      | some x =>
        obtain ⟨n, hn⟩ := evCode_lim (E := envOf P A (evW P A) f) ev_chain c (show evCode ((envOf P A (evW P A) f).with (limC (ev P A))) c _ _ = _ from he)
        refine ⟨n, ?_⟩
        rw [evBody_eq hf hb]
        have e1 : (envOf P A (evW P A) f).with (ev P A n) = envOf P A (ev P A n) f := rfl
        rw [e1] at hn
        rw [hn]; rw [he] at h; exact h
theorem evW_fix (P : Program) (A : Notes) (f : FuncId) (args : List V) (H : Hp) : evW P A f args H = evFun P A (evW P A) f args H := by
  cases h : evFun P A (evW P A) f args H with
  | some r =>
    unfold evFun wrapC at h
    split at h
    · rename_i hp
      split at h
      · rename_i out H2 hc
        obtain ⟨n, hn⟩ := evBody_lim hc
        refine (limC_iff ev_chain).2 ⟨n + 1, ?_⟩
        show evFun P A (ev P A n) f args H = some r
        unfold evFun wrapC
        rw [hp]
        simp only [hn]
        exact h
      · cases h
    · rename_i hp
      obtain ⟨n, hn⟩ := evBody_lim h
      refine (limC_iff ev_chain).2 ⟨n + 1, ?_⟩
      show evFun P A (ev P A n) f args H = some r
      unfold evFun wrapC
      rw [hp]
      exact hn
  | none =>
    cases h2 : evW P A f args H with
    | none => rfl
    | some r =>
      obtain ⟨n, hn⟩ := (limC_iff ev_chain).1 h2
      cases n with
      | zero => cases hn
      | succ n =>
        have := evFun_mono (P := P) (A := A) (limC_ge (ev_chain (P := P) (A := A)) n) _ _ _ _ hn
        rw [show limC (ev P A) = evW P A from rfl, h] at this
        cases this
theorem evW_eq (P : Program) (A : Notes) {f : FuncId} {fn : Func} {c : Code} (hp : A.pure f = false) (hf : P.funcs[f]? = some fn) (hb : fn.body = some c) (args : List V) (H : Hp) :
    evW P A f args H = endOf P fn (evCode (envOf P A (evW P A) f) c (enterSt fn args) H) := by
  rw [evW_fix, ← evBody_eq hf hb]
  unfold evFun wrapC
  rw [hp]
  rfl
/-- A pure function -/
theorem evW_pure (P : Program) (A : Notes) {f : FuncId} {fn : Func} {c : Code} (hp : A.pure f = true) (hf : P.funcs[f]? = some fn) (hb : fn.body = some c) (args : List V) (ha : noHeapL args = true) (H : Hp) :
    evW P A f args H = match endOf P fn (evCode (envOf P A (evW P A) f) c (enterSt fn args) []) with
      | some (out, _) => match noHeapO out with
        | true => some (out, H)
        | false => none
      | none => none := by
  rw [evW_fix, ← evBody_eq hf hb]
  unfold evFun wrapC
  rw [hp, ha]
  rfl
theorem evW_sound (hmx : P.follows .mixedOrders = true) : Sound P A.gl (evW P A) := fun f args H out H' h => by
  obtain ⟨n, hn⟩ := (limC_iff ev_chain).1 h
  exact ev_sound hmx n f args H out H' hn
end
end Go.Abs
