/- Arguments opened: a slice of any element reads as a list; a struct's fields one by one. -/
import Derived.Test.YthicacphcljdmaaQAbsOpen
import Derived.Test.YthicacphcljdmaaQAbsKe
namespace Go.Abs
open Go Go.Proofs
variable {P : Program}
theorem Rd.ok {H : Hp} {x : V} {l : List V} (h : Rd H x l) : okV x = true := by cases h <;> rfl
theorem Rd.cells1 {H : Hp} {x : V} {l : List V} (h : Rd H x l) : x.cells = [x] := by cases h <;> rfl
theorem Rd.width1 {H : Hp} {x : V} {l : List V} (h : Rd H x l) : x.width = 1 := by cases h <;> rfl
theorem Rd.clip {H : Hp} {x : V} {l : List V} (h : Rd H x l) (n : Nat) : clipV n x = x := by cases h <;> rfl
theorem Rd.clip2 {H : Hp} {x : V} {l : List V} (h : Rd H x l) (a b : Nat) : Abs.clip a b (.v x) = .v x := by cases h <;> rfl
theorem Rd.grows {H : Hp} {x : V} {l : List V} (h : Rd H x l) (r : List LRow) : growsAs r (.v x) = false := by cases h <;> rfl
theorem RdAt.at1 {H : Hp} {x : V} {l : List V} (h : Rd H x l) {sz i : Nat} {e : V} (a : RdAt H x sz i e) : slAt sz H (viewV H x) (i : Int) = some (.v (atV H x i 0)) := by
  have := a.at_ ⟨[], [], []⟩
  rwa [h.shutIn] at this
theorem tv_slice {d : Nat} {t e : TypeId} {vs : List V} (h : Tv P (d + 1) t vs) (hu : P.underlying t = some (.slice e)) :
    ∃ x, ∃ rows : List (List V), vs = [x] ∧ (∀ H, Rd H x (rows.map (mkV (isAggT P e)))) ∧ rows.length ≤ maxLen ∧ ∀ r ∈ rows, Tv P d e r := by
  unfold Tv at h
  rw [hu] at h
  rcases h with rfl | ⟨rows, rfl, hl, hr⟩
  · exact ⟨_, [], rfl, fun _ => .nils, by simp [maxLen], fun r hr => by cases hr⟩
  · exact ⟨_, rows, rfl, fun _ => .rsl _, hl, hr⟩
theorem tv_int {d : Nat} {t : TypeId} {k : IntKind} {vs : List V} (h : Tv P (d + 1) t vs) (hu : P.underlying t = some (.int k)) : ∃ n, vs = [.int k n] ∧ (Lit.int k n).wf = true := by
  unfold Tv at h
  rw [hu] at h
  exact h
theorem tv_str {d : Nat} {t : TypeId} {vs : List V} (h : Tv P (d + 1) t vs) (hu : P.underlying t = some .string) : ∃ s, vs = [.str s] ∧ s.size ≤ maxLen := by
  unfold Tv at h
  rw [hu] at h
  exact h
theorem tv_bool {d : Nat} {t : TypeId} {vs : List V} (h : Tv P (d + 1) t vs) (hu : P.underlying t = some .bool) : ∃ b, vs = [.bool b] := by
  unfold Tv at h
  rw [hu] at h
  exact h
theorem tv_struct {d : Nat} {t : TypeId} {fs : Array Field} {vs : List V} (h : Tv P (d + 1) t vs) (hu : P.underlying t = some (.struct fs)) : TvF (Tv P d) fs.toList vs := by
  unfold Tv at h
  rw [hu] at h
  exact h
def tysOf (P : Program) (t : TypeId) : Option (List TypeId) := match P.underlying t with | some (.struct fs) => some (fs.toList.map (·.type)) | _ => none
def TvL (g : TypeId → List V → Prop) : List TypeId → List V → Prop
  | [], vs => vs = []
  | t :: ts, vs => ∃ a b, vs = a ++ b ∧ g t a ∧ TvL g ts b
theorem tvF_tys {g : TypeId → List V → Prop} : ∀ {fs : List Field} {vs : List V}, TvF g fs vs → TvL g (fs.map (·.type)) vs
  | [], vs, h => h
  | f :: fs, vs, h => by
    obtain ⟨a, b, e, h1, h2⟩ := h
    exact ⟨a, b, e, h1, tvF_tys h2⟩
theorem tv_fields {d : Nat} {t : TypeId} {vs : List V} (h : Tv P (d + 1) t vs) {ts : List TypeId} (e : tysOf P t = some ts) : TvL (Tv P d) ts vs := by
  unfold tysOf at e
  split at e
  · rename_i fs hu
    have := tvF_tys (tv_struct h hu)
    rwa [Option.some.inj e] at this
  · cases e
theorem i64_wf {n : Int} (h : (Lit.int .i64 n).wf = true) : -9223372036854775808 ≤ n ∧ n ≤ 9223372036854775807 := by
  simp [Lit.wf, IntKind.min, IntKind.max, IntKind.signed, IntKind.bits] at h
  omega
/-- A slice that reads as a list: no growing row -/
inductive Sx (H : Hp) : V → List V → Prop
  | nils : Sx H .nils []
  | rsl (l : List V) : Sx H (.rsl l) l
  | sl (id lo len : Nat) (es : List V) : H[id]? = some (.cells es) → lo + len ≤ es.length → Sx H (.sl id lo len) ((es.drop lo).take len)
theorem Sx.rd {H : Hp} {x : V} {l : List V} (h : Sx H x l) : Rd H x l := by
  cases h with
  | nils => exact .nils
  | rsl l => exact .rsl l
  | sl id lo len es h1 h2 => exact .sl id lo len es h1 h2
theorem Sx.app {H : Hp} {x : V} {l : List V} (h : Sx H x l) (e : Hp) : Sx (H ++ e) x l := by
  cases h with
  | nils => exact .nils
  | rsl l => exact .rsl l
  | sl id lo len es h1 h2 => exact .sl id lo len es (by rw [List.getElem?_append_left ((List.getElem?_eq_some_iff.1 h1).1)]; exact h1) h2
theorem Sx.whole {H : Hp} {id : Nat} {es : List V} (h : H[id]? = some (.cells es)) : Sx H (.sl id 0 es.length) es := by
  have := Sx.sl (H := H) id 0 es.length es h (by omega)
  simpa using this
theorem Sx.keep {H H' : Hp} {x : V} {l : List V} (h : Sx H x l) (hk : ∀ (id : Nat) (es : List V), H[id]? = some (.cells es) → H'[id]? = some (.cells es)) : Sx H' x l := by
  cases h with
  | nils => exact .nils
  | rsl l => exact .rsl l
  | sl id lo len es h1 h2 => exact .sl id lo len es (hk _ _ h1) h2
theorem Rd.flat {x : V} {l : List V} (h : Rd [] x l) : (x = .nils ∧ l = []) ∨ x = .rsl l := by
  cases h with
  | nils => exact .inl ⟨rfl, rfl⟩
  | rsl l => exact .inr rfl
  | sl id lo len es h1 h2 => simp at h1
  | hr id n ns es h1 h2 h3 => simp at h1
theorem u64_wf {n : Int} (h : (Lit.int .u64 n).wf = true) : 0 ≤ n ∧ n ≤ 18446744073709551615 := by
  simp [Lit.wf, IntKind.min, IntKind.max, IntKind.signed, IntKind.bits] at h
  omega
def isNils : V → Bool
  | .nils => true
  | _ => false
theorem Sx.eqNil {H : Hp} {x : V} {l : List V} (h : Sx H x l) {P : Program} {t e : TypeId} (ht : tk P t = .slice e) : binV P .eql t x .nils = some (.bool (isNils x)) := by
  cases h <;> simp [binV, ht, isNils]
theorem Sx.nil_l {H : Hp} {x : V} {l : List V} (h : Sx H x l) (e : isNils x = true) : x = .nils ∧ l = [] := by
  cases h <;> first | exact ⟨rfl, rfl⟩ | cases e
theorem eqOf2 {C : Abs.Callee} {f : FuncId} {args : List V} {H H2 : Hp} {o : Out} (h : wpCall C f args H (fun out H' => out = o ∧ H' = H2)) : C f args H = some (o, H2) := by
  unfold wpCall at h
  cases hc : C f args H with
  | none => rw [hc] at h; exact h.elim
  | some x => rw [hc] at h; obtain ⟨a, b⟩ := x; obtain ⟨h1, h2⟩ := h; simp only at h1 h2; rw [h1, h2]
/-- A call without arguments that the kernel runs, in any heap -/
theorem const_any {A : Notes} {n m : Nat} {f : FuncId} {v : V} {g : Bool} (hp : A.pure f = true) (h : evK P A n m f [] [] = some (.ret v g, [])) (H : Hp) : evW P A f [] H = some (.ret v g, H) :=
  pure_any hp rfl (evK_evW h) H
end Go.Abs
