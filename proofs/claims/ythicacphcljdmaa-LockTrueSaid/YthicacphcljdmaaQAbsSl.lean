/- Slices that are appended to, in the heap: what they read as, what an append leaves. -/
import Derived.Test.YthicacphcljdmaaQAbsTv
namespace Go.Abs
set_option linter.unusedVariables false
set_option linter.unusedSimpArgs false
variable {P : Program}
/-- A slice that may be appended to (elements of sz cells); its block is none of N -/
def SlW (sz : Nat) (H : Hp) (N : Nat → Prop) (x : V) (l : List V) : Prop :=
  (x = .nils ∧ l = []) ∨ ∃ s es, x = .sl s 0 l.length ∧ ¬ N s ∧ H[s]? = some (.cells es) ∧ l.length ≤ es.length ∧ es.take l.length = l ∧ es ≠ [] ∧ wideAll es sz = true
section
variable {sz : Nat} {H : Hp} {N : Nat → Prop} {x : V} {l : List V}
theorem SlW.shut (h : SlW sz H N x l) (st : St) : sealV st x = x := by
  rcases h with ⟨rfl, _⟩ | ⟨s, es, rfl, _⟩ <;> rfl
theorem SlW.clip (h : SlW sz H N x l) (n : Nat) : clipV n x = x := by
  rcases h with ⟨rfl, _⟩ | ⟨s, es, rfl, _⟩ <;> rfl
theorem SlW.ok (h : SlW sz H N x l) : okV x = true := by
  rcases h with ⟨rfl, _⟩ | ⟨s, es, rfl, _⟩ <;> rfl
theorem SlW.cells1 (h : SlW sz H N x l) : x.cells = [x] := by
  rcases h with ⟨rfl, _⟩ | ⟨s, es, rfl, _⟩ <;> rfl
theorem SlW.width1 (h : SlW sz H N x l) : x.width = 1 := by
  rcases h with ⟨rfl, _⟩ | ⟨s, es, rfl, _⟩ <;> rfl
theorem SlW.len (h : SlW sz H N x l) (e : TypeId) : lenK H (.slice e) x = some (.int .i64 l.length) := by
  rcases h with ⟨rfl, rfl⟩ | ⟨s, es, rfl, _⟩
  · rfl
  · rw [lenK_sl]
theorem SlW.prom (h : SlW sz H N x l) (st : St) (H' : Hp) : promote st H' x = some (x, st, H') := by
  rcases h with ⟨rfl, rfl⟩ | ⟨s, es, rfl, _⟩ <;> rfl
theorem SlW.rd (h : SlW sz H N x l) : Rd H x l := by
  rcases h with ⟨rfl, rfl⟩ | ⟨s, es, rfl, _, h2, h3, h4, _⟩
  · exact .nils
  · have := Rd.sl (H := H) s 0 l.length es h2 (by omega)
    simpa [h4] using this
theorem SlW.sx (h : SlW sz H N x l) : Sx H x l := by
  rcases h with ⟨rfl, rfl⟩ | ⟨s, es, rfl, _, h2, h3, h4, _⟩
  · exact .nils
  · have := Sx.sl (H := H) s 0 l.length es h2 (by omega)
    simpa [h4] using this
theorem SlW.set (h : SlW sz H N x l) {w : Nat} (hw : N w) (b : Blk) : SlW sz (H.set w b) N x l := by
  rcases h with h | ⟨s, es, h1, h2, h3, h4⟩
  · exact .inl h
  · refine .inr ⟨s, es, h1, h2, ?_, h4⟩
    rw [List.getElem?_set, if_neg (by rintro rfl; exact h2 hw)]; exact h3
theorem SlW.app (h : SlW sz H N x l) (e : Hp) : SlW sz (H ++ e) N x l := by
  rcases h with h | ⟨s, es, h1, h2, h3, h4⟩
  · exact .inl h
  · exact .inr ⟨s, es, h1, h2, by rw [List.getElem?_append_left ((List.getElem?_eq_some_iff.1 h3).1)]; exact h3, h4⟩
theorem SlW.keep {H' : Hp} (h : SlW sz H N x l) (hk : ∀ (i : Nat) es, ¬ N i → H[i]? = some (.cells es) → H'[i]? = some (.cells es)) : SlW sz H' N x l := by
  rcases h with h | ⟨s, es, h1, h2, h3, h4⟩
  · exact .inl h
  · exact .inr ⟨s, es, h1, h2, hk s es h2 h3, h4⟩
theorem SlW.weaken {N' : Nat → Prop} (h : SlW sz H N x l) (hN : ∀ i, N' i → N i) : SlW sz H N' x l := by
  rcases h with h | ⟨s, es, h1, h2, h4⟩
  · exact .inl h
  · exact .inr ⟨s, es, h1, fun h => h2 (hN _ h), h4⟩
end
theorem wide_appN {n : Nat} {a b : List V} (h1 : wideAll a n = true) (h2 : wideAll b n = true) : wideAll (a ++ b) n = true := by
  unfold wideAll at *
  rw [List.all_append, h1, h2]; rfl
theorem wide_takeN {m : Nat} {a : List V} (h1 : wideAll a m = true) (n : Nat) : wideAll (a.take n) m = true := by
  unfold wideAll at *
  rw [List.all_eq_true] at *
  exact fun x hx => h1 x (List.mem_of_mem_take hx)
theorem wide_dropN {m : Nat} {a : List V} (h1 : wideAll a m = true) (n : Nat) : wideAll (a.drop n) m = true := by
  unfold wideAll at *
  rw [List.all_eq_true] at *
  exact fun x hx => h1 x (List.mem_of_mem_drop hx)
theorem wide_mapN {α : Type} {m : Nat} {f : α → V} (h : ∀ a, (f a).width = m) (l : List α) : wideAll (l.map f) m = true := by
  unfold wideAll
  rw [List.all_eq_true]
  intro x hx
  obtain ⟨a, _, rfl⟩ := List.mem_map.1 hx
  simp [h a]
theorem app_sl {sz : Nat} {e : TypeId} {H : Hp} {N : Nat → Prop} {x : V} {l : List V} {d : Option Nat} (vs : List V) (hsz : sizeT P e = sz) (hx : SlW sz H N x l) (hN : ∀ i, N i → i < H.length) (hv : wideAll vs sz = true) (hne : vs ≠ []) (hel : elemOk P e (l.length + vs.length) = true) :
    ∃ x' H', (∀ st, appendOp P .heap st H d e x vs = some (putS st d (.v x'), H')) ∧ SlW sz H' N x' (l ++ vs) ∧ (∀ i, N i → H'[i]? = H[i]?) ∧ H.length ≤ H'.length := by
  subst hsz
  rcases hx with ⟨rfl, rfl⟩ | ⟨s, es, rfl, hs, hc, hl, ht, hn0, hw⟩
  · refine ⟨.sl H.length 0 vs.length, H ++ [.cells vs], fun st => ?_, .inr ⟨H.length, vs, by simp, fun h => Nat.lt_irrefl _ (hN _ h), by simp, by simp, by simp, hne, hv⟩, fun i hi => List.getElem?_append_left (hN i hi), by simp⟩
    have he : vs.isEmpty = false := by cases vs <;> simp_all
    have hel : elemOk P e vs.length = true := by simpa using hel
    simp [appendOp, hv, he, newSl, hel]
  · have hsl : s < H.length := (List.getElem?_eq_some_iff.1 hc).1
    have he : es.isEmpty = false := by cases es <;> simp_all
    by_cases hf : l.length + vs.length ≤ es.length
    · refine ⟨.sl s 0 (l.length + vs.length), H.set s (.cells (overlay es l.length vs)), fun st => ?_, .inr ⟨s, overlay es l.length vs, by simp, hs, by rw [List.getElem?_set_self hsl], ?_, ?_, ?_, ?_⟩, fun i hi => ?_, by simp⟩
      · simp [appendOp, hv, hc, appendSl, hw, he, hf, Nat.not_lt.2 hl]
      · simp only [overlay, List.length_append, List.length_take, List.length_drop]; omega
      · unfold overlay
        rw [ht, List.take_append_of_le_length (by simp), List.take_of_length_le (by simp)]
      · intro e2
        have := congrArg List.length e2
        simp only [overlay, List.length_append, List.length_take, List.length_drop, List.length_nil] at this
        have : vs.length ≠ 0 := by simpa using hne
        omega
      · exact wide_appN (wide_appN (wide_takeN hw _) hv) (wide_dropN hw _)
      · rw [List.getElem?_set_ne (by rintro rfl; exact hs hi)]
    · refine ⟨.sl H.length 0 (l.length + vs.length), H.set s .dead ++ [.cells (es.take l.length ++ vs)], fun st => ?_, .inr ⟨H.length, es.take l.length ++ vs, by simp, fun h => Nat.lt_irrefl _ (hN _ h), ?_, ?_, ?_, ?_, ?_⟩, fun i hi => ?_, by simp⟩
      · simp [appendOp, hv, hc, appendSl, hw, he, hf, Nat.not_lt.2 hl, hel]
      · rw [List.getElem?_append_right (by simp)]; simp
      · rw [ht]; exact Nat.le_refl _
      · rw [ht, List.take_length]
      · rw [ht]; intro h0; cases vs with
        | nil => exact hne rfl
        | cons v r => simp at h0
      · exact wide_appN (wide_takeN hw _) hv
      · rw [List.getElem?_append_left (by simpa using hN i hi), List.getElem?_set_ne (by rintro rfl; exact hs hi)]
/-- An append to the frame's own row -/
theorem app_own {e : TypeId} {st : St} {rid len : Nat} {H : Hp} {d : Option Nat} {xs : List V} {q : LRow} (hr : st.r[rid]? = some q) (ho : q.own = true) (hl : len = q.es.length) (hel : elemOk P e (len + xs.length) = true) (hw : wideAll q.es (sizeT P e) = true) (hx : wideAll xs (sizeT P e) = true) :
    appendOp P .priv st H d e (.lr rid len) xs = some ({ putS st d (.v (.lr rid (len + xs.length))) with r := st.r.set rid { q with es := q.es ++ xs } }, H) := by
  subst hl
  simp [appendOp, hx, hr, ho, hel, hw]
/-- A copy that begins with an empty row of the frame's own -/
def copyR (es : List V) (H : Hp) : V × Hp := if es.isEmpty then (.rsl [], H) else (.sl H.length 0 es.length, H ++ [.cells es])
theorem app_copy {e : TypeId} {st : St} {rid : Nat} {H : Hp} {d : Option Nat} {es : List V} (hr : st.r[rid]? = some ⟨true, false, []⟩) (hw : wideAll es (sizeT P e) = true) (hel : elemOk P e es.length = true) :
    appendOp P .heap st H d e (.lr rid 0) es = some (putS st d (.v (copyR es H).1), (copyR es H).2) := by
  unfold copyR
  cases he : es.isEmpty with
  | true => simp [appendOp, hr, hw, he, rowV]
  | false => simp [appendOp, hr, hw, he, rowV, newSl, hel]
theorem copy_sx {es : List V} {H : Hp} : Sx (copyR es H).2 (copyR es H).1 es := by
  unfold copyR
  cases es with
  | nil => exact .rsl []
  | cons a b => exact Sx.whole (by simp)
/-! A loop by itself: the one whose first region has such a number -/
def orC : Option Code → Option Code → Option Code
  | some c, _ => some c
  | none, d => d
theorem orC_some (c : Code) (d : Option Code) : orC (some c) d = some c := rfl
theorem orC_none (d : Option Code) : orC none d = d := rfl
def findLoop (r : Nat) : Code → Option Code
  | .loop c => match decide (firstReg c = r) with | true => some c | false => findLoop r c
  | .seq a b => orC (findLoop r a) (findLoop r b)
  | .cond _ a b => orC (findLoop r a) (findLoop r b)
  | .block _ c => findLoop r c
  | .scope c => findLoop r c
  | _ => none
def loopOf (fn : Func) (r : Nat) : Code := (findLoop r (bodyOf fn)).getD .skip
end Go.Abs
