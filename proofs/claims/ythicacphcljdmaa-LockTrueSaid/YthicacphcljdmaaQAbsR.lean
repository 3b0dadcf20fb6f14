/- A part of the proofs over this seat. -/
import Derived.Test.YthicacphcljdmaaQAbsE
import Derived.WalkKit
import Derived.Deep.AppendSrc
import Derived.Orders
namespace Go.Abs
set_option linter.unusedVariables false
/-! What an evaluator's state says of a world -/
structure Gh where
  φ : Nat → Nat
  wd : Nat → Nat
  cv : Nat → Nat → Option Value
  n : Nat
  K : Nat → Nat → Option Value
  hb : Nat → Prop
  ow : Nat → Option Nat
  cp : Nat → Nat
structure Gh.le (G G' : Gh) : Prop where
  n : G.n ≤ G'.n
  φ : ∀ i, i < G.n → G'.φ i = G.φ i
  wd : ∀ i, i < G.n → G'.wd i = G.wd i
  cv : ∀ i l u, G.cv i l = some u → G'.cv i l = some u
  K : ∀ b o u, G.K b o = some u → G'.K b o = some u
  cp : ∀ i, i < G.n → G'.cp i = G.cp i
theorem Gh.le.refl (G : Gh) : G.le G := ⟨Nat.le_refl _, fun _ _ => rfl, fun _ _ => rfl, fun _ _ _ h => h, fun _ _ _ h => h, fun _ _ => rfl⟩
theorem Gh.le.trans {A B C : Gh} (h : A.le B) (k : B.le C) : A.le C :=
  ⟨Nat.le_trans h.n k.n, fun i hi => (k.φ i (Nat.lt_of_lt_of_le hi h.n)).trans (h.φ i hi), fun i hi => (k.wd i (Nat.lt_of_lt_of_le hi h.n)).trans (h.wd i hi), fun i l u x => k.cv _ _ _ (h.cv _ _ _ x), fun b o u x => k.K _ _ _ (h.K _ _ _ x), fun i hi => (k.cp i (Nat.lt_of_lt_of_le hi h.n)).trans (h.cp i hi)⟩

inductive VR (G : Gh) : V → Value → Prop
  | bool (b : Bool) : VR G (.bool b) (.bool b)
  | int (k : IntKind) (n : Int) : VR G (.int k n) (.int k n)
  | str (s : ByteArray) : VR G (.str s) (.string s)
  | nilp : VR G .nilp (.pointer none)
  | ptr (id i off : Nat) : id < G.n → VR G (.ptr id i off) (.pointer (some ⟨G.φ id, i * G.wd id + off, none⟩))
  | ept (e : V) (off b o : Nat) (f : Nat → Value) : (∀ j c, e.cells[j]? = some c → G.K b (o + j) = some (f j)) → (∀ j c, e.cells[j]? = some c → (f j).oneCell' = true) →
      (∀ j c, e.cells[j]? = some c → c ≠ .undef → VR G c (f j)) → VR G (.ept e off) (.pointer (some ⟨b, o + off, none⟩))
  | nils : VR G .nils (.slice none 0 0)
  | rsl (row : List V) (b o sz cap : Nat) (f : Nat → Nat → Value) : (∀ (i : Nat) (e : V), row[i]? = some e → e.width = sz) →
      (∀ (i : Nat) (e : V) (j : Nat) (c : V), row[i]? = some e → e.cells[j]? = some c → G.K b (o + i * sz + j) = some (f i j)) →
      (∀ (i : Nat) (e : V) (j : Nat) (c : V), row[i]? = some e → e.cells[j]? = some c → (f i j).oneCell' = true) →
      (∀ (i : Nat) (e : V) (j : Nat) (c : V), row[i]? = some e → e.cells[j]? = some c → c ≠ .undef → VR G c (f i j)) → row.length ≤ cap →
      VR G (.rsl row) (.slice (some ⟨b, o, none⟩) row.length cap)
  | rsl0 (a : Addr) (cap : Nat) : VR G (.rsl []) (.slice (some a) 0 cap)
  | emp (b o : Nat) : VR G .emp (.slice (some ⟨b, o, none⟩) 0 0)
  | sl (id lo len cap : Nat) : id < G.n → len ≤ cap → lo + cap = G.cp id → VR G (.sl id lo len) (.slice (some ⟨G.φ id, lo * G.wd id, none⟩) len cap)
  | hr (id len : Nat) (base : Option Addr) (cap : Nat) : id < G.n → G.cv id len = some (.slice base len cap) → VR G (.hr id len) (.slice base len cap)
  | agg (cs : List V) (us : Array Value) : us.size = cs.length → (∀ (j : Nat) (u : Value), us[j]? = some u → u.oneCell' = true) →
      (∀ (j : Nat) (c : V) (u : Value), cs[j]? = some c → us[j]? = some u → c ≠ .undef → VR G c u) → VR G (.agg cs) (.agg us)
  | tup (cs : List V) (us : Array Value) : us.size = cs.length →
      (∀ (j : Nat) (c : V) (u : Value), cs[j]? = some c → us[j]? = some u → c ≠ .undef → VR G c u) → VR G (.tup cs) (.tuple us)
  | fn (f : FuncId) (first cap : List V) (first' cap' : Array Value) : first'.size = first.length → cap'.size = cap.length →
      (∀ (j : Nat) (c : V) (u : Value), first[j]? = some c → first'[j]? = some u → c ≠ .undef → VR G c u) →
      (∀ (j : Nat) (c : V) (u : Value), cap[j]? = some c → cap'[j]? = some u → c ≠ .undef → VR G c u) → VR G (.fn f first cap) (.func (.func f) first' cap')
  | nilf : VR G .nilf .nilFunc
  | ifc (t : TypeId) (v : V) (u : Value) : (v ≠ .undef → VR G v u) → VR G (.ifc t v) (.iface t u)
  | nili : VR G .nili .nilIface
  | map (id : Nat) : id < G.n → VR G (.map id) (.map (some (G.φ id)))
  | nilm : VR G .nilm (.map none)

/-- A value, or nothing told of it. -/
def AR (G : Gh) (v : V) (u : Value) : Prop := v ≠ .undef → VR G v u

theorem VR.mono {G G' : Gh} (h : G.le G') {v : V} {u : Value} (r : VR G v u) : VR G' v u := by
  induction r with
  | bool b => exact .bool b
  | int k n => exact .int k n
  | str s => exact .str s
  | nilp => exact .nilp
  | ptr id i off hi => rw [← h.φ id hi, ← h.wd id hi]; exact .ptr id i off (Nat.lt_of_lt_of_le hi h.n)
  | ept e off b o f h1 h2 _ ih => exact .ept e off b o f (fun j c hc => h.K _ _ _ (h1 j c hc)) h2 ih
  | nils => exact .nils
  | rsl row b o sz cap f h1 h2 h3 _ h5 ih => exact .rsl row b o sz cap f h1 (fun i e j c a b => h.K _ _ _ (h2 i e j c a b)) h3 ih h5
  | rsl0 a cap => exact .rsl0 a cap
  | emp b o => exact .emp b o
  | sl id lo len cap hi hc hp => rw [← h.φ id hi, ← h.wd id hi]; exact .sl id lo len cap (Nat.lt_of_lt_of_le hi h.n) hc (by rw [h.cp id hi]; exact hp)
  | hr id len base cap hi hu => exact .hr id len base cap (Nat.lt_of_lt_of_le hi h.n) (h.cv _ _ _ hu)
  | agg cs us h1 h2 _ ih => exact .agg cs us h1 h2 ih
  | tup cs us h1 _ ih => exact .tup cs us h1 ih
  | fn f first cap first' cap' h1 h2 _ _ i1 i2 => exact .fn f first cap first' cap' h1 h2 i1 i2
  | nilf => exact .nilf
  | ifc t v u _ ih => exact .ifc t v u ih
  | nili => exact .nili
  | map id hi => rw [← h.φ id hi]; exact .map id (Nat.lt_of_lt_of_le hi h.n)
  | nilm => exact .nilm
theorem AR.mono {G G' : Gh} (h : G.le G') {v : V} {u : Value} (r : AR G v u) : AR G' v u := fun hv => (r hv).mono h

/-- The cells of a value. -/
structure CellsP (R : V → Value → Prop) (cs : List V) (us : List Value) : Prop where
  len : us.length = cs.length
  one : ∀ u ∈ us, u.oneCell' = true
  at_ : ∀ (j : Nat) (c : V) (u : Value), cs[j]? = some c → us[j]? = some u → R c u
section
variable {R R' : V → Value → Prop}
theorem CellsP.mono {cs : List V} {us : List Value} (h : ∀ c u, R c u → R' c u) (r : CellsP R cs us) : CellsP R' cs us :=
  ⟨r.len, r.one, fun j c u a b => h _ _ (r.at_ j c u a b)⟩
theorem CellsP.take {cs : List V} {us : List Value} (r : CellsP R cs us) (n : Nat) : CellsP R (cs.take n) (us.take n) :=
  ⟨by simp [r.len], fun u hu => r.one u (List.mem_of_mem_take hu), fun j c u a b => by
    rw [List.getElem?_take] at a b
    split at a
    · exact r.at_ j c u a (by simpa [*] using b)
    · cases a⟩
theorem CellsP.drop {cs : List V} {us : List Value} (r : CellsP R cs us) (n : Nat) : CellsP R (cs.drop n) (us.drop n) :=
  ⟨by simp [r.len], fun u hu => r.one u (List.mem_of_mem_drop hu), fun j c u a b => by
    rw [List.getElem?_drop] at a b
    exact r.at_ _ c u a b⟩
theorem CellsP.append {cs ds : List V} {us vs : List Value} (r : CellsP R cs us) (q : CellsP R ds vs) : CellsP R (cs ++ ds) (us ++ vs) :=
  ⟨by simp [r.len, q.len], fun u hu => (List.mem_append.1 hu).elim (r.one u) (q.one u), fun j c u a b => by
    rw [List.getElem?_append] at a b
    rw [r.len] at b
    split at a
    · rename_i hj; rw [if_pos hj] at b; exact r.at_ j c u a b
    · rename_i hj; rw [if_neg hj] at b; exact q.at_ _ c u a b⟩
theorem CellsP.nil : CellsP R [] [] := ⟨rfl, (fun _ h => by cases h), (fun j c u a => by simp at a)⟩
theorem CellsP.get {cs : List V} {us : List Value} (r : CellsP R cs us) {j : Nat} {c : V} (h : cs[j]? = some c) : ∃ u, us[j]? = some u ∧ u.oneCell' = true ∧ R c u := by
  have hj : j < cs.length := (List.getElem?_eq_some_iff.1 h).1
  have hu : us[j]? = some (us[j]'(by rw [r.len]; exact hj)) := List.getElem?_eq_getElem _
  exact ⟨_, hu, r.one _ (List.getElem_mem _), r.at_ j c _ h hu⟩
/-- Cells laid over others -/
theorem CellsP.overlay {cs ns : List V} {us vs : List Value} (r : CellsP R cs us) (q : CellsP R ns vs) (off : Nat) : CellsP R (overlay cs off ns) (us.take off ++ vs ++ us.drop (off + vs.length)) := by
  unfold Abs.overlay
  rw [← q.len]
  exact ((r.take off).append q).append (r.drop _)
end
abbrev CellsR (G : Gh) := CellsP (AR G)
/-- Cells, and more behind them. -/
def PreR (G : Gh) (cs : List V) (us : List Value) : Prop := ∃ u1 u2, us = u1 ++ u2 ∧ CellsR G cs u1
theorem PreR.mono {G G' : Gh} {cs : List V} {us : List Value} (r : PreR G cs us) (h : ∀ c u, AR G c u → AR G' c u) : PreR G' cs us := by
  obtain ⟨u1, u2, e, r⟩ := r
  exact ⟨u1, u2, e, r.mono h⟩
theorem PreR.of {G : Gh} {cs : List V} {us : List Value} (r : CellsR G cs us) : PreR G cs us := ⟨us, [], by simp, r⟩
theorem PreR.le {G : Gh} {cs : List V} {us : List Value} (r : PreR G cs us) : cs.length ≤ us.length := by
  obtain ⟨u1, u2, rfl, r⟩ := r
  rw [← r.len]; simp
theorem PreR.get {G : Gh} {cs : List V} {us : List Value} (r : PreR G cs us) {j : Nat} {c : V} (h : cs[j]? = some c) : ∃ u, us[j]? = some u ∧ u.oneCell' = true ∧ AR G c u := by
  obtain ⟨u1, u2, rfl, r⟩ := r
  obtain ⟨u, h1, h2⟩ := r.get h
  exact ⟨u, by rw [List.getElem?_append_left ((List.getElem?_eq_some_iff.1 h1).1)]; exact h1, h2⟩
theorem PreR.take {G : Gh} {cs : List V} {us : List Value} (r : PreR G cs us) : CellsR G cs (us.take cs.length) := by
  obtain ⟨u1, u2, rfl, r⟩ := r
  rw [List.take_append_of_le_length (by rw [r.len]; exact Nat.le_refl _), List.take_of_length_le (by rw [r.len]; exact Nat.le_refl _)]; exact r
theorem PreR.overlay {G : Gh} {cs ns : List V} {us vs : List Value} (r : PreR G cs us) (q : CellsR G ns vs) (off : Nat) (h : off + ns.length ≤ cs.length) : PreR G (overlay cs off ns) (us.take off ++ vs ++ us.drop (off + vs.length)) := by
  obtain ⟨u1, u2, rfl, r⟩ := r
  have hl := r.len
  have hq := q.len
  refine ⟨u1.take off ++ vs ++ u1.drop (off + vs.length), u2, ?_, r.overlay q off⟩
  rw [List.take_append_of_le_length (by omega), List.drop_append_of_le_length (by omega)]
  simp
theorem VR.oneCell {G : Gh} {v : V} {u : Value} (r : VR G v u) (h : ∀ cs, v ≠ .agg cs) (ht : ∀ cs, v ≠ .tup cs) : u.oneCell' = true := by
  cases r <;> first | rfl | exact absurd rfl (h _) | exact absurd rfl (ht _) | assumption
theorem VR.agg_inv {G : Gh} {cs : List V} {u : Value} (r : VR G (.agg cs) u) : ∃ us, u = .agg us ∧ CellsR G cs us.toList := by
  cases r with
  | agg _ us h1 h2 h3 => exact ⟨us, rfl, by simpa using h1, (fun u hu => by
      obtain ⟨j, hj, e⟩ := List.getElem_of_mem hu
      exact h2 j u (by rw [← e]; simp at hj ⊢)), (fun j c u a b => h3 j c u a (by simpa using b))⟩
theorem VR.agg_mk {G : Gh} {cs : List V} {us : List Value} (r : CellsR G cs us) : VR G (.agg cs) (.agg us.toArray) :=
  .agg cs _ (by simp [r.len]) (fun j u h => r.one u (List.mem_of_getElem? (by simpa using h))) (fun j c u a b => r.at_ j c u a (by simpa using b))
theorem VR.cellsR {G : Gh} {v : V} {u : Value} (r : VR G v u) (ht : ∀ cs, v ≠ .tup cs) : CellsR G v.cells u.cells.toList := by
  by_cases h : ∃ cs, v = .agg cs
  · obtain ⟨cs, rfl⟩ := h
    obtain ⟨us, rfl, hc⟩ := r.agg_inv
    exact hc
  · have h1 := r.oneCell (fun cs e => h ⟨cs, e⟩) ht
    have e1 : v.cells = [v] := by cases v <;> first | rfl | exact absurd ⟨_, rfl⟩ h
    have e2 : u.cells.toList = [u] := by cases u <;> first | rfl | simp [Value.oneCell'] at h1
    rw [e1, e2]
    exact ⟨rfl, (fun x hx => by simp at hx; rw [hx]; exact h1), (fun j c x a b => by
      cases j with
      | zero => simp at a b; subst a; subst b; exact fun _ => r
      | succ j => simp at a)⟩

def NF (w : World) (b n : Nat) : Prop := ∀ j, j < n → w.frozen? ⟨b, j, none⟩ = false
/-- The newest slice of a row that may grow. -/
def Tip (G : Gh) (w : World) (own : Nat → Prop) (ns : Bool) (es : List V) (u : Value) : Prop :=
  (u = .slice none 0 0 ∧ ns = true ∧ es = []) ∨ ∃ b o cap, u = .slice (some ⟨b, o, none⟩) es.length cap ∧ (ns = true → es ≠ []) ∧ es.length ≤ cap ∧
    (cap = es.length ∨ ∃ sz c E fr, es ≠ [] ∧ (∀ e ∈ es, e.width = sz) ∧ w.heap[b]? = some (.cells c E fr) ∧ o + cap * sz ≤ c.size ∧ NF w b c.size ∧ (∀ j, o + es.length * sz ≤ j → G.K b j = none) ∧ own b)
theorem Tip.slice {G : Gh} {w : World} {own : Nat → Prop} {ns : Bool} {es : List V} {u : Value} (h : Tip G w own ns es u) : ∃ base cap, u = .slice base es.length cap := by
  rcases h with ⟨rfl, _, rfl⟩ | ⟨b, o, cap, rfl, _⟩
  · exact ⟨none, 0, rfl⟩
  · exact ⟨_, cap, rfl⟩
def Blk.live : Blk → Bool
  | .cells _ => true
  | .map _ => true
  | _ => false
structure Sim (G : Gh) (H : Hp) (w : World) : Prop where
  len : H.length = G.n
  K : ∀ b o u, G.K b o = some u → w.cell? ⟨b, o, none⟩ = some u
  cells : ∀ (id : Nat) (es : List V), H[id]? = some (.cells es) → ∃ c E fr, w.heap[G.φ id]? = some (.cells c E fr) ∧ NF w (G.φ id) c.size ∧ (∀ e ∈ es, e.width = G.wd id) ∧ PreR G (es.flatMap V.cells) c.toList ∧ es.length ≤ G.cp id ∧ G.cp id * G.wd id ≤ c.size ∧ fr.1 ≤ fr.2
  map : ∀ (id : Nat) (es : List (V × V)), H[id]? = some (.map es) → ∃ ms clock, w.heap[G.φ id]? = some (.map ms clock) ∧ ms.size = es.length ∧
    ∀ (i : Nat) (k v : V), es[i]? = some (k, v) → ∃ m, ms[i]? = some m ∧ VR G k m.key ∧ keyOk k = true ∧ AR G v m.val
  row : ∀ (id : Nat) (ns : Bool) (es : List V), H[id]? = some (.row ns es) → (∀ len u, G.cv id len = some u → len ≤ es.length ∧ VR G (rowV ns es len) u) ∧
    ∃ u, G.cv id es.length = some u ∧ Tip G w (fun b => G.ow b = some id ∧ G.hb b) ns es u
  inj : ∀ (i j : Nat) (x y : Blk), H[i]? = some x → H[j]? = some y → x.live = true → y.live = true → G.φ i = G.φ j → i = j
  hb : ∀ (i : Nat) (x : Blk), H[i]? = some x → x.live = true → G.hb (G.φ i) ∧ G.ow (G.φ i) = none ∧ ∀ o, G.K (G.φ i) o = none
  cvn : ∀ i l u, G.cv i l = some u → i < G.n
  hblt : ∀ b, G.hb b → b < w.heap.size
  owhb : ∀ b i, G.ow b = some i → G.hb b
structure Lg where
  β : Nat → Nat
  cv : Nat → Nat → Option Value
  ow : Nat → Option Nat
def LAR (G : Gh) (L : Lg) (nr : Nat) (c : V) (u : Value) : Prop :=
  match c with
  | .undef => True
  | .lr rid len => rid < nr ∧ L.cv rid len = some u
  | v => VR G v u
def SlotR (G : Gh) (L : Lg) (nb nr : Nat) : Slot → Value → Prop
  | .v x, u => LAR G L nr x u
  | .box l, u => l < nb ∧ u = .pointer (some ⟨L.β l, 0, none⟩)
  | .ref l o, u => l < nb ∧ u = .pointer (some ⟨L.β l, o, none⟩)
structure LR (B0 : Nat) (G : Gh) (L : Lg) (st : St) (tmps : Array Value) (w : World) : Prop where
  size : tmps.size = st.s.length
  slot : ∀ (s : Nat) (x : Slot) (u : Value), st.s[s]? = some x → tmps[s]? = some u → SlotR G L st.b.length st.r.length x u
  box : ∀ (l : Nat) (cs : List V), st.b[l]? = some cs → ∃ c E fr, w.heap[L.β l]? = some (.cells c E fr) ∧ NF w (L.β l) c.size ∧ CellsP (LAR G L st.r.length) cs c.toList
  boxd : ∀ l, l < st.b.length → B0 ≤ L.β l ∧ ¬ G.hb (L.β l) ∧ L.ow (L.β l) = none ∧ ∀ o, G.K (L.β l) o = none
  inj : ∀ l l', l < st.b.length → l' < st.b.length → L.β l = L.β l' → l = l'
  row : ∀ (rid : Nat) (q : LRow), st.r[rid]? = some q → (∀ len u, L.cv rid len = some u → len ≤ q.es.length ∧ u.oneCell' = true ∧ VR G (rowV q.ns q.es len) u) ∧
    (q.own = true → ∃ u, L.cv rid q.es.length = some u ∧ Tip G w (fun b => L.ow b = some rid ∧ B0 ≤ b ∧ ¬ G.hb b) q.ns q.es u)
  owlt : ∀ b rid, L.ow b = some rid → B0 ≤ b ∧ b < w.heap.size
structure Fr (G0 : Gh) (W0 : World) (G : Gh) (w : World) : Prop where
  os : w.os = W0.os
  tape : w.tape = W0.tape
  output : w.output = W0.output
  size : W0.heap.size ≤ w.heap.size
  blk : ∀ b, b < W0.heap.size → ¬ G0.hb b → w.heap[b]? = W0.heap[b]? ∧ ¬ G.hb b ∧ ∀ o, G.K b o = G0.K b o
structure Inv (G0 : Gh) (W0 : World) (G : Gh) (L : Lg) (st : St) (H : Hp) (tmps : Array Value) (w : World) : Prop where
  sim : Sim G H w
  lr : LR W0.heap.size G L st tmps w
  fr : Fr G0 W0 G w
  le : G0.le G

/-! ### The world changes, in places -/
structure Ch (D : Nat → Prop) (w w' : World) : Prop where
  os : w'.os = w.os
  tape : w'.tape = w.tape
  output : w'.output = w.output
  size : w.heap.size ≤ w'.heap.size
  blk : ∀ b, b < w.heap.size → ¬ D b → w'.heap[b]? = w.heap[b]?
theorem Ch.at_ {D : Nat → Prop} {w w' : World} (h : Ch D w w') {b : Nat} {o : Obj} (hb : w.heap[b]? = some o) (hD : ¬ D b) : w'.heap[b]? = some o := by
  rw [h.blk b ((Array.getElem?_eq_some_iff.1 hb).1) hD, hb]
theorem Ch.nf {D : Nat → Prop} {w w' : World} (h : Ch D w w') {b n : Nat} {o : Obj} (hb : w.heap[b]? = some o) (hD : ¬ D b) (hn : NF w b n) : NF w' b n := fun j hj => by
  rw [World.frozen?_of_block (w := w) (a := ⟨b, j, none⟩) (h.blk b ((Array.getElem?_eq_some_iff.1 hb).1) hD)]; exact hn j hj
theorem Ch.alloc (w : World) (o : Obj) : Ch (fun _ => False) w (w.alloc o) := ⟨rfl, rfl, rfl, by simp, fun b hb _ => Go.RowKit.Below.heap_alloc w o b hb⟩
theorem Ch.drewAlloc (w : World) (o : Obj) : Ch (fun _ => False) w (w.drew.alloc o) := ⟨rfl, rfl, rfl, by simp, fun b hb _ => Go.RowKit.Below.heap_alloc w.drew o b hb⟩
theorem Ch.drew (w : World) : Ch (fun _ => False) w w.drew := ⟨rfl, rfl, rfl, Nat.le_refl _, fun _ _ _ => rfl⟩
theorem Tip.ch {G : Gh} {w w' : World} {own : Nat → Prop} {ns : Bool} {es : List V} {u : Value} {D : Nat → Prop} (h : Tip G w own ns es u) (c : Ch D w w') (hD : ∀ b, own b → ¬ D b) : Tip G w' own ns es u := by
  rcases h with h | ⟨b, o, cap, h1, h2, h3, h4⟩
  · exact .inl h
  · refine .inr ⟨b, o, cap, h1, h2, h3, ?_⟩
    rcases h4 with h4 | ⟨sz, cc, E, fr, a1, a2, a3, a4, a5, a6, a7⟩
    · exact .inl h4
    · exact .inr ⟨sz, cc, E, fr, a1, a2, c.at_ a3 (hD _ a7), a4, c.nf a3 (hD _ a7) a5, a6, a7⟩
theorem Sim.ch {G : Gh} {H : Hp} {w w' : World} {D : Nat → Prop} (h : Sim G H w) (c : Ch D w w') (hK : ∀ b o u, G.K b o = some u → w'.cell? ⟨b, o, none⟩ = some u) (hD : ∀ b, G.hb b → ¬ D b) : Sim G H w' where
  len := h.len
  K := hK
  cells id es he := by
    obtain ⟨cc, E, fr, a1, a2, a3, a4⟩ := h.cells id es he
    have hn := hD _ (h.hb id _ he rfl).1
    exact ⟨cc, E, fr, c.at_ a1 hn, c.nf a1 hn a2, a3, a4⟩
  map id es he := by
    obtain ⟨ms, cl, a1, a2⟩ := h.map id es he
    exact ⟨ms, cl, c.at_ a1 (hD _ (h.hb id _ he rfl).1), a2⟩
  row id ns es he := by
    obtain ⟨a1, u, a2, a3⟩ := h.row id ns es he
    exact ⟨a1, u, a2, a3.ch c fun b hb => hD b hb.2⟩
  inj := h.inj
  hb := h.hb
  cvn := h.cvn
  hblt b hb := Nat.lt_of_lt_of_le (h.hblt b hb) c.size
  owhb := h.owhb
theorem LR.ch {B0 : Nat} {G : Gh} {L : Lg} {st : St} {tmps : Array Value} {w w' : World} {D : Nat → Prop} (h : LR B0 G L st tmps w) (c : Ch D w w') (hD : ∀ b, B0 ≤ b → ¬ G.hb b → ¬ D b) : LR B0 G L st tmps w' where
  size := h.size
  slot := h.slot
  box l cs hl := by
    obtain ⟨cc, E, fr, a1, a2, a3⟩ := h.box l cs hl
    have hd := h.boxd l ((List.getElem?_eq_some_iff.1 hl).1)
    exact ⟨cc, E, fr, c.at_ a1 (hD _ hd.1 hd.2.1), c.nf a1 (hD _ hd.1 hd.2.1) a2, a3⟩
  boxd := h.boxd
  inj := h.inj
  row rid q hq := by
    obtain ⟨a1, a2⟩ := h.row rid q hq
    exact ⟨a1, fun ho => let ⟨u, b1, b2⟩ := a2 ho; ⟨u, b1, b2.ch c fun b hb => hD b hb.2.1 hb.2.2⟩⟩
  owlt b rid hb := ⟨(h.owlt b rid hb).1, Nat.lt_of_lt_of_le (h.owlt b rid hb).2 c.size⟩
theorem Fr.ch {G0 : Gh} {W0 : World} {G : Gh} {w w' : World} {D : Nat → Prop} (h : Fr G0 W0 G w) (c : Ch D w w') (hD : ∀ b, b < W0.heap.size → ¬ G.hb b → ¬ D b) : Fr G0 W0 G w' where
  os := c.os.trans h.os
  tape := c.tape.trans h.tape
  output := c.output.trans h.output
  size := Nat.le_trans h.size c.size
  blk b hb hn := by
    obtain ⟨a1, a2, a3⟩ := h.blk b hb hn
    exact ⟨(c.blk b (Nat.lt_of_lt_of_le hb h.size) (hD b hb a2)).trans a1, a2, a3⟩
theorem Sim.lt_of_K {G : Gh} {H : Hp} {w : World} (h : Sim G H w) {b o : Nat} {u : Value} (hk : G.K b o = some u) : b < w.heap.size := block_lt_of_cell (h.K b o u hk)
/-- More memory, nothing else. -/
theorem Inv.ext {G0 : Gh} {W0 : World} {G : Gh} {L : Lg} {st : St} {H : Hp} {tmps : Array Value} {w w' : World} (h : Inv G0 W0 G L st H tmps w) (c : Ch (fun _ => False) w w') : Inv G0 W0 G L st H tmps w' where
  sim := h.sim.ch c (fun b o u hk => by
    rw [World.cell?_of_block (w := w) (a := ⟨b, o, none⟩) (c.blk b (h.sim.lt_of_K hk) id)]; exact h.sim.K b o u hk) (fun _ _ => id)
  lr := h.lr.ch c (fun _ _ _ => id)
  fr := h.fr.ch c (fun _ _ _ => id)
  le := h.le
/-- A slot is written. -/
theorem LR.put {B0 : Nat} {G : Gh} {L : Lg} {st : St} {tmps : Array Value} {w : World} (h : LR B0 G L st tmps w) (d : Option Nat) (x : Slot) (v : Value) (hx : SlotR G L st.b.length st.r.length x v) (ds : List Deferred) :
    LR B0 G L (putS st d x) (({ tmps, defers := ds } : Act).put d v).tmps w := by
  cases d with
  | none => exact h
  | some d => exact {
      size := by simp [Act.put, putS, h.size]
      slot := fun s y u hs hu => by
        simp only [putS, Act.put] at hs hu ⊢
        rw [List.getElem?_set] at hs
        rw [Array.getElem?_setIfInBounds] at hu
        by_cases hd : d = s
        · subst hd
          simp only [if_true] at hs hu
          split at hs
          · rename_i hlt; rw [if_pos (by rw [h.size]; exact hlt)] at hu; cases hs; cases hu; exact hx
          · cases hs
        · rw [if_neg hd] at hs hu; exact h.slot s y u hs hu
      box := h.box, boxd := h.boxd, inj := h.inj, row := h.row, owlt := h.owlt }
theorem Inv.put {G0 : Gh} {W0 : World} {G : Gh} {L : Lg} {st : St} {H : Hp} {a : Act} {w : World} (h : Inv G0 W0 G L st H a.tmps w) (d : Option Nat) (x : Slot) (v : Value) (hx : SlotR G L st.b.length st.r.length x v) :
    Inv G0 W0 G L (putS st d x) H (a.put d v).tmps w := ⟨h.sim, h.lr.put d x v hx a.defers, h.fr, h.le⟩
theorem SlotR.undef {G : Gh} {L : Lg} {nb nr : Nat} (u : Value) : SlotR G L nb nr (.v .undef) u := trivial
end Go.Abs
