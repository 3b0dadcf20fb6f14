/- Arguments opened: a slice of any element reads as a list; a struct's fields one by one. -/
import Derived.Test.YtcmndnkeoepmoaaDoorQAbsOpen
import Derived.Test.YtcmndnkeoepmoaaDoorQAbsKe
namespace Go.Abs
open Go Go.Proofs
variable {P : Program}
theorem Rd.ok {H : Hp} {x : V} {l : List V} (h : Rd H x l) : okV x = true := by cases h <;> rfl
theorem Rd.cells1 {H : Hp} {x : V} {l : List V} (h : Rd H x l) : x.cells = [x] := by cases h <;> rfl
theorem Rd.width1 {H : Hp} {x : V} {l : List V} (h : Rd H x l) : x.width = 1 := by cases h <;> rfl
theorem Rd.clip {H : Hp} {x : V} {l : List V} (h : Rd H x l) (n : Nat) : clipV n x = x := by cases h <;> rfl
theorem RdAt.at1 {H : Hp} {x : V} {l : List V} (h : Rd H x l) {sz i : Nat} {e : V} (a : RdAt H x sz i e) : slAt sz H (viewV H x) (i : Int) = some (.v (atV H x i 0)) := by
  have := a.at_ ⟨[], [], []⟩
  rwa [h.shutIn] at this
theorem tv_slice {d : Nat} {t e : TypeId} {vs : List V} (h : Tv P (d + 1) t vs) (hu : P.underlying t = some (.slice e)) :
    ∃ x, ∃ rows : List (List V), vs = [x] ∧ (∀ H, Rd H x (rows.map (mkV (isAggT P e)))) ∧ rows.length ≤ maxLen ∧ ∀ r ∈ rows, Tv P d e r := by
  unfold Tv at h
  rw [hu] at h
  rcases h with rfl | ⟨rows, rfl, hl, hr⟩
  · exact ⟨_, [], rfl, fun _ => .nils, by simp [maxLen], fun r hr => by cases hr⟩
  · exact ⟨_, rows, rfl, fun _ => .rsl _, hl, hr⟩
theorem tv_int {d : Nat} {t : TypeId} {k : IntKind} {vs : List V} (h : Tv P (d + 1) t vs) (hu : P.underlying t = some (.int k)) : ∃ n, vs = [.int k n] ∧ (Lit.int k n).wf = true := by
  unfold Tv at h
  rw [hu] at h
  exact h
theorem tv_str {d : Nat} {t : TypeId} {vs : List V} (h : Tv P (d + 1) t vs) (hu : P.underlying t = some .string) : ∃ s, vs = [.str s] ∧ s.size ≤ maxLen := by
  unfold Tv at h
  rw [hu] at h
  exact h
theorem tv_bool {d : Nat} {t : TypeId} {vs : List V} (h : Tv P (d + 1) t vs) (hu : P.underlying t = some .bool) : ∃ b, vs = [.bool b] := by
  unfold Tv at h
  rw [hu] at h
  exact h
theorem tv_struct {d : Nat} {t : TypeId} {fs : Array Field} {vs : List V} (h : Tv P (d + 1) t vs) (hu : P.underlying t = some (.struct fs)) : TvF (Tv P d) fs.toList vs := by
  unfold Tv at h
  rw [hu] at h
  exact h
def tysOf (P : Program) (t : TypeId) : Option (List TypeId) := match P.underlying t with | some (.struct fs) => some (fs.toList.map (·.type)) | _ => none
def TvL (g : TypeId → List V → Prop) : List TypeId → List V → Prop
  | [], vs => vs = []
  | t :: ts, vs => ∃ a b, vs = a ++ b ∧ g t a ∧ TvL g ts b
theorem tvF_tys {g : TypeId → List V → Prop} : ∀ {fs : List Field} {vs : List V}, TvF g fs vs → TvL g (fs.map (·.type)) vs
  | [], vs, h => h
  | f :: fs, vs, h => by
    obtain ⟨a, b, e, h1, h2⟩ := h
    exact ⟨a, b, e, h1, tvF_tys h2⟩
theorem tv_fields {d : Nat} {t : TypeId} {vs : List V} (h : Tv P (d + 1) t vs) {ts : List TypeId} (e : tysOf P t = some ts) : TvL (Tv P d) ts vs := by
  unfold tysOf at e
  split at e
  · rename_i fs hu
    have := tvF_tys (tv_struct h hu)
    rwa [Option.some.inj e] at this
  · cases e
theorem i64_wf {n : Int} (h : (Lit.int .i64 n).wf = true) : -9223372036854775808 ≤ n ∧ n ≤ 9223372036854775807 := by
  simp [Lit.wf, IntKind.min, IntKind.max, IntKind.signed, IntKind.bits] at h
  omega
/-- A call without arguments that the kernel runs, in any heap -/
theorem const_any {A : Notes} {n m : Nat} {f : FuncId} {v : V} {g : Bool} (hp : A.pure f = true) (h : evK P A n m f [] [] = some (.ret v g, [])) (H : Hp) : evW P A f [] H = some (.ret v g, H) :=
  pure_any hp rfl (evK_evW h) H
end Go.Abs
