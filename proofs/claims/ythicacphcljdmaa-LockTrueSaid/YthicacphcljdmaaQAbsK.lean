/- A part of the proofs over this seat. -/
import Derived.Test.YthicacphcljdmaaQAbsJ
import Derived.LoopN
import Derived.Scope
namespace Go.Abs
set_option linter.unusedVariables false
set_option linter.unusedSimpArgs false
open Go.RowKit
def PostX (G0 : Gh) (W0 : World) (ex : Ex) (st : St) (H : Hp) (e : Exit) (a : Act) (w : World) : Prop :=
  match ex, e with
  | .normal, .normal => PostN G0 W0 st H a w
  | .exit i, .exit j => i = j ∧ PostN G0 W0 st H a w
  | .goto i, .goto j => i = j ∧ PostN G0 W0 st H a w
  | .ret, .ret => PostN G0 W0 st H a w
  | .panic v, .panic chain => PostP G0 W0 v H w chain ∧ a.defers = []
  | _, _ => False
section
variable {G0 : Gh} {W0 : World} {G G' : Gh} {L : Lg} {st st' : St} {H H' : Hp} {tmps : Array Value} {a : Act} {w w' : World} {P : Program} {E : Env} {o : Oper} {ex : Ex}
theorem guard_sound (h : PostN G0 W0 st H a w) {ops : List Oper} {b : Bool} (hg : guardS ops st o = some b) : Region.wanted o (yielded ops.toArray a.tmps) = b := by
  obtain ⟨G, L, hI, _⟩ := h
  unfold guardS at hg
  unfold Region.wanted
  split at hg
  · rename_i hgn; rw [hgn]; cases hg; rfl
  · rename_i j want hgs
    rw [hgs]
    split at hg
    · rename_i d hdst
      split at hg
      · rename_i b' hb
        cases hg
        have hlt : d < st.s.length := by
          rcases Nat.lt_or_ge d st.s.length with h1 | h1
          · exact h1
          · rw [List.getD_eq_getElem?_getD, List.getElem?_eq_none h1] at hb; cases hb
        have h1 : st.s[d]? = some (.v (.bool b')) := by
          rw [List.getD_eq_getElem?_getD, List.getElem?_eq_getElem hlt] at hb
          rw [List.getElem?_eq_getElem hlt]; simpa using hb
        have hlt2 : d < a.tmps.size := by rw [hI.lr.size]; exact hlt
        have h2 : a.tmps[d]? = some a.tmps[d] := Array.getElem?_eq_getElem hlt2
        have h3 := hI.lr.slot d _ _ h1 h2
        have h4 : a.tmps[d] = .bool b' := (show VR G (.bool b') _ from h3).bool_inv
        have hdst' : (ops.toArray[j]?).bind (·.dst) = some d := by simpa using hdst
        simp only [yielded, hdst', Option.bind_some, h2, h4]
        cases b' <;> cases want <;> rfl
      · rename_i hb
        cases hg
        have hlt : d < st.s.length := by
          rcases Nat.lt_or_ge d st.s.length with h1 | h1
          · exact h1
          · rw [List.getD_eq_getElem?_getD, List.getElem?_eq_none h1] at hb; cases hb
        have h1 : st.s[d]? = some (.v (.tup [])) := by
          rw [List.getD_eq_getElem?_getD, List.getElem?_eq_getElem hlt] at hb
          rw [List.getElem?_eq_getElem hlt]; simpa using hb
        have hlt2 : d < a.tmps.size := by rw [hI.lr.size]; exact hlt
        have h2 : a.tmps[d]? = some a.tmps[d] := Array.getElem?_eq_getElem hlt2
        have h3 := hI.lr.slot d _ _ h1 h2
        have h4 : ∃ us, a.tmps[d] = .tuple us := by
          have h5 : VR G (.tup []) a.tmps[d] := h3
          generalize a.tmps[d] = v at h5
          cases h5; exact ⟨_, rfl⟩
        obtain ⟨us, h4⟩ := h4
        have hdst' : (ops.toArray[j]?).bind (·.dst) = some d := by simpa using hdst
        simp only [yielded, hdst', Option.bind_some, h2, h4]
        cases want <;> rfl
      · cases hg
    · cases hg
theorem PostN.putU (h : PostN G0 W0 st H a w) (d : Option Nat) : PostN G0 W0 (putS st d (.v (.tup []))) H (a.put d undef) w := by
  obtain ⟨G, L, hI, hd⟩ := h
  exact ⟨G, L, hI.put d (.v (.tup [])) undef (VR.tup [] #[] rfl (fun j c u hc => by simp at hc)), by rw [put_defers, hd]⟩
theorem evOps_sound (hgl : GlOK E.gl G0) (hS : Sound E.P E.gl E.C) {ops : List Oper} {Q : Exit → Act → World → Prop} : ∀ (order : List Nat) {st : St} {H : Hp} {a : Act} {w : World}, evOps E ops (order.filterMap (ops[·]?)) st H = some (ex, st', H') → PostN G0 W0 st H a w →
    (∀ e a' w', PostX G0 W0 ex st' H' e a' w' → Q e a' w') → wpOps E.P ops.toArray Q order a w
  | [], st, H, a, w, h, hp, hq => by
    cases h
    exact hq _ _ _ hp
  | i :: order, st, H, a, w, h, hp, hq => by
    unfold wpOps
    cases hi : ops[i]? with
    | none =>
      have h1 : ops.toArray[i]? = none := by simpa using hi
      rw [h1]
      rw [List.filterMap_cons, hi] at h
      exact evOps_sound hgl hS order h hp hq
    | some o =>
      have h1 : ops.toArray[i]? = some o := by simpa using hi
      rw [h1]
      rw [List.filterMap_cons, hi] at h
      simp only [evOps] at h
      simp only
      cases hg : guardS ops st o with
      | none => rw [hg] at h; cases h
      | some b =>
        rw [hg] at h
        have hw := guard_sound hp hg
        cases b with
        | false =>
          rw [if_neg (by rw [hw]; simp)]
          exact evOps_sound hgl hS order h (hp.putU o.dst) hq
        | true =>
          rw [if_pos hw]
          refine .inl ?_
          simp only at h
          obtain ⟨G, L, hI, hd⟩ := hp
          cases he : evOp E o st H with
          | none => rw [he] at h; cases h
          | some r =>
            obtain ⟨ex1, st1, H1⟩ := r
            rw [he] at h
            refine evOp_sound hgl hS hI hd he (fun e1 a' w' hn => ?_) (fun v e1 a' w' chain hn hd2 => ?_)
            · subst e1
              exact evOps_sound hgl hS order h hn hq
            · subst e1
              cases h
              exact hq _ _ _ ⟨hn, hd2⟩
theorem filterMap_range' {α : Type} : ∀ (l pre : List α), (List.range' pre.length l.length).filterMap ((pre ++ l)[·]?) = l
  | [], pre => rfl
  | x :: l, pre => by
    have ih := filterMap_range' l (pre ++ [x])
    simp only [List.length_cons, List.range'_succ, List.filterMap_cons]
    have h1 : (pre ++ x :: l)[pre.length]? = some x := by simp
    rw [h1]
    simp only [List.length_append, List.length_cons, List.length_nil, List.append_assoc, List.singleton_append, Nat.zero_add] at ih
    simp only
    rw [ih]
theorem filterMap_range {α : Type} (l : List α) : (List.range l.length).filterMap (l[·]?) = l := by
  have := filterMap_range' l []
  rw [List.range_eq_range']
  exact this
/-- The values of the slots are told anew; the world stays. -/
theorem LR.reslot {B0 : Nat} (h : LR B0 G L st tmps w) {s' : List Slot} (hl : s'.length = st.s.length) (hs : ∀ (i : Nat) (x : Slot), s'[i]? = some x → ∃ y, st.s[i]? = some y ∧ ∀ u, SlotR G L st.b.length st.r.length y u → SlotR G L st.b.length st.r.length x u) :
    LR B0 G L { st with s := s' } tmps w :=
  { size := by rw [h.size, hl]
    slot := fun s x u h1 h2 => by
      obtain ⟨y, h3, h4⟩ := hs s x h1
      exact h4 u (h.slot s y u h3 h2)
    box := h.box, boxd := h.boxd, inj := h.inj, row := h.row, owlt := h.owlt }
theorem killS_length : ∀ (l : List Nat) (s : List Slot), (killS l s).length = s.length
  | [], s => rfl
  | i :: l, s => by
    have := killS_length l (s.set i (.v .undef))
    rw [List.length_set] at this
    exact this
theorem killS_get : ∀ (l : List Nat) (s : List Slot) (i : Nat) (x : Slot), (killS l s)[i]? = some x → x = .v .undef ∨ s[i]? = some x
  | [], s, i, x, h => .inr h
  | j :: l, s, i, x, h => by
    rcases killS_get l (s.set j (.v .undef)) i x h with h1 | h1
    · exact .inl h1
    · rw [List.getElem?_set] at h1
      split at h1
      · split at h1
        · cases h1; exact .inl rfl
        · cases h1
      · exact .inr h1
theorem norm_sound (h : PostN G0 W0 st H a w) (l : List Nat) (nb nr : Nat) : PostN G0 W0 (norm l nb nr st) H a w := by
  obtain ⟨G, L, hI, hd⟩ := h
  have lar : ∀ {x : V} {u : Value}, LAR G L st.r.length x u → LAR G L (st.r.take nr).length (clipV nr x) u := fun {x u} hx => by
    cases x <;> first | exact hx | skip
    case lr rid len =>
      simp only [clipV]
      split
      · rename_i hlt; exact ⟨by have := hx.1; rw [List.length_take]; omega, hx.2⟩
      · trivial
  have h0 := hI.lr
  refine ⟨G, L, ⟨hI.sim, {
    size := by simp [norm, killS_length, h0.size]
    slot := fun s x u hs hu => by
      simp only [norm, List.getElem?_map] at hs
      obtain ⟨y, hy, rfl⟩ := Option.map_eq_some_iff.1 hs
      rcases killS_get l st.s s y hy with rfl | hy
      · trivial
      · have := h0.slot s y u hy hu
        cases y with
        | v x => exact lar this
        | box b =>
          simp only [clip]
          split
          · rename_i hlt; exact ⟨by have h9 := this.1; simp only [norm, List.length_map, List.length_take]; omega, this.2⟩
          · trivial
        | ref b o =>
          simp only [clip]
          split
          · rename_i hlt; exact ⟨by have h9 := this.1; simp only [norm, List.length_map, List.length_take]; omega, this.2⟩
          · trivial
    box := fun b cs hb => by
      simp only [norm, List.getElem?_map, List.getElem?_take] at hb
      obtain ⟨cs', h1, rfl⟩ := Option.map_eq_some_iff.1 hb
      split at h1
      · obtain ⟨cc, E, fr, a1, a2, a3⟩ := h0.box b cs' h1
        refine ⟨cc, E, fr, a1, a2, ⟨by rw [List.length_map]; exact a3.len, a3.one, fun j c u hc hu => ?_⟩⟩
        rw [List.getElem?_map] at hc
        obtain ⟨c', hc', rfl⟩ := Option.map_eq_some_iff.1 hc
        exact lar (a3.at_ j c' u hc' hu)
      · cases h1
    boxd := fun b hb => h0.boxd b (by simp [norm] at hb; omega)
    inj := fun b b' hb hb' => h0.inj b b' (by simp [norm] at hb; omega) (by simp [norm] at hb'; omega)
    row := fun rid q hq => by
      simp only [norm, List.getElem?_take] at hq
      split at hq
      · exact h0.row rid q hq
      · cases hq
    owlt := h0.owlt }, hI.fr, hI.le⟩, hd⟩
theorem getD_slot {s : List Slot} {i : Nat} {x : Slot} (h : s.getD i (.v .undef) = x) (hx : x ≠ .v .undef) : s[i]? = some x := by
  rw [List.getD_eq_getElem?_getD] at h
  cases hi : s[i]? with
  | none => rw [hi] at h; exact absurd h.symm hx
  | some y => rw [hi] at h; simp at h; rw [h]
theorem growOne_sound (h : PostN G0 W0 st H a w) (p : Nat × Option Nat) : PostN G0 W0 (growOne st p) H a w := by
  obtain ⟨G, L, hI, hd⟩ := h
  unfold growOne
  split
  · rename_i s
    split
    · rename_i hs
      have h1 := getD_slot hs (by simp)
      obtain ⟨L', h2, h3⟩ := hI.frowFull (ns := true) (es := []) (u := .slice none 0 0) rfl .nils (by exact Or.inl ⟨rfl, rfl, rfl⟩)
      refine ⟨G, L', ⟨h2.sim, LR.reslot (st := { st with r := st.r ++ [⟨true, true, []⟩] }) h2.lr (s' := st.s.set s (.v (.lr st.r.length 0))) (by simp) (fun i x hx => ?_), h2.fr, h2.le⟩, hd⟩
      rw [List.getElem?_set] at hx
      split at hx
      · rename_i e
        subst e
        split at hx
        · cases hx
          refine ⟨_, h1, fun u hu => ?_⟩
          obtain rfl := (show VR G .nils u from hu).nils_inv
          exact ⟨by simp, h3⟩
        · cases hx
      · exact ⟨x, hx, fun u hu => hu⟩
    · exact ⟨G, L, hI, hd⟩
  · rename_i s o
    split
    · rename_i l hs
      split
      · rename_i hc
        have hbl : l < st.b.length := by
          rcases Nat.lt_or_ge l st.b.length with h1 | h1
          · exact h1
          · rw [List.getD_eq_getElem?_getD, List.getElem?_eq_none h1] at hc; simp at hc
        have hgd : st.b.getD l [] = st.b[l] := by rw [List.getD_eq_getElem?_getD, List.getElem?_eq_getElem hbl]; rfl
        rw [hgd] at hc ⊢
        obtain ⟨L', h2, h3⟩ := hI.frowFull (ns := true) (es := []) (u := .slice none 0 0) rfl .nils (by exact Or.inl ⟨rfl, rfl, rfl⟩)
        have h0 := h2.lr
        refine ⟨G, L', ⟨h2.sim, {
          size := h0.size
          slot := fun i x u hx hu => by
            have := h0.slot i x u hx hu
            cases x with
            | v x => exact this
            | box b => exact ⟨by simpa using this.1, this.2⟩
            | ref b o => exact ⟨by simpa using this.1, this.2⟩
          box := fun b cs hb => by
            simp only at hb
            rw [List.getElem?_set] at hb
            split at hb
            · rename_i e
              subst e
              cases hb
              obtain ⟨cc, E, fr, a1, a2, a3⟩ := h0.box l _ (List.getElem?_eq_getElem hbl)
              refine ⟨cc, E, fr, a1, a2, ⟨by rw [List.length_set]; exact a3.len, a3.one, fun j c u hc2 hu => ?_⟩⟩
              rw [List.getElem?_set] at hc2
              split at hc2
              · rename_i e2
                subst e2
                split at hc2
                · cases hc2
                  have := a3.at_ _ _ u hc hu
                  obtain rfl := (show VR G .nils u from this).nils_inv
                  exact ⟨by simp, h3⟩
                · cases hc2
              · exact a3.at_ j c u hc2 hu
            · exact h0.box b cs hb
          boxd := fun b hb => h0.boxd b (by simpa using hb)
          inj := fun b b' hb hb' => h0.inj b b' (by simpa using hb) (by simpa using hb')
          row := h0.row
          owlt := h0.owlt }, h2.fr, h2.le⟩, hd⟩
      · exact ⟨G, L, hI, hd⟩
    · exact ⟨G, L, hI, hd⟩
theorem growAll_sound : ∀ (l : List (Nat × Option Nat)) {st : St}, PostN G0 W0 st H a w → PostN G0 W0 (growAll l st) H a w
  | [], st, h => h
  | p :: l, st, h => growAll_sound l (growOne_sound h p)
theorem loopN_sound {c : Code} {f : St → Hp → R} {nm : St → St} (hnm : ∀ {st : St} {H : Hp} {a : Act} {w : World}, PostN G0 W0 st H a w → PostN G0 W0 (nm st) H a w)
    (hf : ∀ {st : St} {H : Hp} {a : Act} {w : World} {ex : Ex} {st' : St} {H' : Hp}, f st H = some (ex, st', H') → PostN G0 W0 st H a w → c.wp P (PostX G0 W0 ex st' H') a w) {ex : Ex} {st' : St} {H' : Hp} :
    ∀ (n : Nat) {st : St} {H : Hp} {a : Act} {w : World}, loopN f nm n st H = some (ex, st', H') → PostN G0 W0 st H a w → Code.rounds P c (PostX G0 W0 ex st' H') n a w
  | 0, st, H, a, w, h, hp => by cases h
  | n + 1, st, H, a, w, h, hp => by
    simp only [loopN] at h
    rw [rounds_succ]
    cases hr : f (nm st) H with
    | none => rw [hr] at h; cases h
    | some r =>
      obtain ⟨e1, st1, H1⟩ := r
      rw [hr] at h
      have hb := hf hr (hnm hp)
      cases e1 with
      | normal =>
        refine Code.wp_mono (fun e a' w' hx => ?_) hb
        cases e <;> simp only [PostX] at hx
        exact loopN_sound hnm hf n h hx
      | exit i =>
        cases h
        refine Code.wp_mono (fun e a' w' hx => ?_) hb
        cases e <;> first | exact hx | exact hx.elim
      | goto i =>
        cases h
        refine Code.wp_mono (fun e a' w' hx => ?_) hb
        cases e <;> first | exact hx | exact hx.elim
      | ret =>
        cases h
        refine Code.wp_mono (fun e a' w' hx => ?_) hb
        cases e <;> first | exact hx | exact hx.elim
      | panic v =>
        cases h
        refine Code.wp_mono (fun e a' w' hx => ?_) hb
        cases e <;> first | exact hx | exact hx.elim
theorem loopW_some {f : St → Hp → R} {nm : St → St} {r : Ex × St × Hp} (h : loopW f nm st H = some r) : ∃ n, loopN f nm n st H = some r := by
  unfold loopW at h
  split at h
  · rename_i hh
    cases h
    exact hh.choose_spec
  · cases h
theorem PostN.drew (h : PostN G0 W0 st H a w) : PostN G0 W0 st H a { w with drawn := w.drawn + 1 } := by
  obtain ⟨G, L, hI, hd⟩ := h
  exact ⟨G, L, hI.ext (Ch.drew w), hd⟩
/-- As Q; by a goto to label l: what stands behind the label is carried out. -/
def fwdQ (P : Program) (l : Nat) (rest : Code) (Q : Exit → Act → World → Prop) : Exit → Act → World → Prop
  | .goto l', a, w => l' = l ∧ rest.wp P (Exit.noGoto Q) a w
  | e, a, w => Q e a w
theorem wp_scope_fwd {P : Program} {rest : Code} {Q : Exit → Act → World → Prop} {a : Act} {w : World} {c : Code} (l : Nat) (hf : findLabel c l = some rest) (first : c.wp P (fwdQ P l rest Q) a w) : (Code.scope c).wp P Q a w := by
  refine wp_scope_jumps l (fun a w => rest.wp P (Exit.noGoto Q) a w) (fun _ _ => 0) hf ?_ ?_
  · refine Code.wp_mono ?_ first
    intro e a w h
    cases e <;> exact h
  · intro a w h
    refine Code.wp_mono ?_ h
    intro e a w h
    cases e <;> first | exact h | exact h.elim
/-- Code is as the evaluator says. -/
theorem evCode_sound (hgl : GlOK E.gl G0) (hS : Sound E.P E.gl E.C) (hmx : E.P.follows .mixedOrders = true) : ∀ (c : Code) {st : St} {H : Hp} {a : Act} {w : World} {ex : Ex} {st' : St} {H' : Hp}, evCode E c st H = some (ex, st', H') → PostN G0 W0 st H a w → c.wp E.P (PostX G0 W0 ex st' H') a w := by
  intro c
  induction c using codeInd with
  | skip => intro st H a w ex st' H' h hp; cases h; exact wp_skip hp
  | label l => intro st H a w ex st' H' h hp; cases h; exact wp_label hp
  | region id ops draw =>
    intro st H a w ex st' H' h hp
    cases draw with
    | false =>
      simp only [evCode] at h
      refine wp_region ?_
      have := evOps_sound (Q := PostX G0 W0 ex st' H') hgl hS (ops := ops.toList) (List.range ops.toList.length) (by rw [filterMap_range]; exact h) hp (fun _ _ _ x => x)
      simpa using this
    | true =>
      simp only [evCode, evDraw] at h
      split at h
      · rename_i hall
        refine wp_region_draw fun t => ?_
        rw [hmx]
        have := evOps_sound (Q := PostX G0 W0 ex st' H') hgl hS (ops := ops.toList) (Region.schedule true ops.toList.toArray t) (by rw [hall t]; exact h) hp.drew (fun _ _ _ x => x)
        simpa using this
      · cases h
  | seq x y ihx ihy =>
    intro st H a w ex st' H' h hp
    simp only [evCode] at h
    refine wp_seq ?_
    cases hx : evCode E x st H with
    | none => rw [hx] at h; cases h
    | some r =>
      obtain ⟨e1, st1, H1⟩ := r
      rw [hx] at h
      have hb := ihx hx hp
      cases e1 with
      | normal =>
        refine Code.wp_mono (fun e a' w' hq => ?_) hb
        cases e <;> simp only [PostX] at hq
        exact ihy h hq
      | exit i => cases h; refine Code.wp_mono (fun e a' w' hq => ?_) hb; cases e <;> first | exact hq | exact hq.elim
      | goto i => cases h; refine Code.wp_mono (fun e a' w' hq => ?_) hb; cases e <;> first | exact hq | exact hq.elim
      | ret => cases h; refine Code.wp_mono (fun e a' w' hq => ?_) hb; cases e <;> first | exact hq | exact hq.elim
      | panic v => cases h; refine Code.wp_mono (fun e a' w' hq => ?_) hb; cases e <;> first | exact hq | exact hq.elim
  | cond c x y ihx ihy =>
    intro st H a w ex st' H' h hp
    simp only [evCode] at h
    obtain ⟨G, L, hI, hd⟩ := hp
    have hX := rd_AR hI.lr c
    split at h
    · rename_i hc
      rw [hc] at hX
      exact wp_cond_true ((hX (by simp)).bool_inv) (ihx h ⟨G, L, hI, hd⟩)
    · rename_i hc
      rw [hc] at hX
      exact wp_cond_false ((hX (by simp)).bool_inv) (ihy h ⟨G, L, hI, hd⟩)
    · cases h
  | block id c ih =>
    intro st H a w ex st' H' h hp
    simp only [evCode] at h
    refine wp_block ?_
    cases hx : evCode E c st H with
    | none => rw [hx] at h; cases h
    | some r =>
      obtain ⟨e1, st1, H1⟩ := r
      rw [hx] at h
      have hb := ih hx hp
      cases e1 with
      | normal => cases h; refine Code.wp_mono (fun e a' w' hq => ?_) hb; cases e <;> first | exact hq | exact hq.elim
      | exit i =>
        simp only at h
        refine Code.wp_mono (fun e a' w' hq => ?_) hb
        cases e <;> simp only [PostX] at hq
        obtain ⟨rfl, hq⟩ := hq
        simp only [Exit.inBlock]
        split at h
        · rename_i e2; cases h; rw [if_pos e2]; exact hq
        · rename_i e2; cases h; rw [if_neg e2]; exact ⟨rfl, hq⟩
      | goto i => cases h; refine Code.wp_mono (fun e a' w' hq => ?_) hb; cases e <;> first | exact hq | exact hq.elim
      | ret => cases h; refine Code.wp_mono (fun e a' w' hq => ?_) hb; cases e <;> first | exact hq | exact hq.elim
      | panic v => cases h; refine Code.wp_mono (fun e a' w' hq => ?_) hb; cases e <;> first | exact hq | exact hq.elim
  | loop c ih =>
    intro st H a w ex st' H' h hp
    simp only [evCode] at h
    obtain ⟨n, hn⟩ := loopW_some h
    exact wp_loop_rounds n (loopN_sound (fun hp => norm_sound hp _ _ _) (fun hf hp => ih hf hp) n hn (growAll_sound _ hp))
  | rangeFunc f ps as c ih1 ih2 => intro st H a w ex st' H' h hp; cases h
  | exit id => intro st H a w ex st' H' h hp; cases h; exact wp_exit ⟨rfl, hp⟩
  | scope c ih ihl =>
    intro st H a w ex st' H' h hp
    rw [evCode_scope] at h
    cases hx : evCode E c st H with
    | none => rw [hx] at h; cases h
    | some r =>
      obtain ⟨e1, st1, H1⟩ := r
      rw [hx] at h
      have hb := ih hx hp
      cases e1 with
      | goto i =>
        simp only at h
        cases hf : findLabel c i with
        | none => rw [hf] at h; cases h
        | some rest =>
          rw [hf] at h
          simp only [Option.map_some, gotoK] at h
          refine wp_scope_fwd i hf (Code.wp_mono (fun e a' w' hq => ?_) hb)
          cases e with
          | goto l' =>
            obtain ⟨h1, h2⟩ := hq
            refine ⟨h1.symm, ?_⟩
            cases hr : evCode E rest st1 H1 with
            | none => rw [hr] at h; cases h
            | some r2 =>
              obtain ⟨e2, st2, H2⟩ := r2
              rw [hr] at h
              have hb2 := ihl i rest hf hr h2
              cases e2 with
              | goto j => cases h
              | normal => cases h; refine Code.wp_mono (fun e a' w' hq => ?_) hb2; cases e <;> first | exact hq | exact hq.elim
              | exit j => cases h; refine Code.wp_mono (fun e a' w' hq => ?_) hb2; cases e <;> first | exact hq | exact hq.elim
              | ret => cases h; refine Code.wp_mono (fun e a' w' hq => ?_) hb2; cases e <;> first | exact hq | exact hq.elim
              | panic v => cases h; refine Code.wp_mono (fun e a' w' hq => ?_) hb2; cases e <;> first | exact hq | exact hq.elim
          | _ => exact hq.elim
      | normal => cases h; refine wp_scope_straight (Code.wp_mono (fun e a' w' hq => ?_) hb); cases e <;> first | exact hq | exact hq.elim
      | exit i => cases h; refine wp_scope_straight (Code.wp_mono (fun e a' w' hq => ?_) hb); cases e <;> first | exact hq | exact hq.elim
      | ret => cases h; refine wp_scope_straight (Code.wp_mono (fun e a' w' hq => ?_) hb); cases e <;> first | exact hq | exact hq.elim
      | panic v => cases h; refine wp_scope_straight (Code.wp_mono (fun e a' w' hq => ?_) hb); cases e <;> first | exact hq | exact hq.elim
  | goto l => intro st H a w ex st' H' h hp; cases h; exact wp_goto ⟨rfl, hp⟩
  | ret => intro st H a w ex st' H' h hp; cases h; exact wp_ret hp
  | refuse why => intro st H a w ex st' H' h hp; cases h
end
end Go.Abs
