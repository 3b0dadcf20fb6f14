/- A part of the proofs over this seat. -/
import Derived.Test.YthicacphcljdmaaQAbsF
namespace Go.Abs
set_option linter.unusedVariables false
set_option linter.unusedSimpArgs false
/-! ### An operation looks at its operands, the boxes, the rows and the heap -/
def setD (s : List Slot) (d : Option Nat) (x : Slot) : List Slot := match d with | none => s | some d => s.set d x
theorem putS_eq (st : St) (d : Option Nat) (x : Slot) : putS st d x = ⟨setD st.s d x, st.b, st.r⟩ := by cases d <;> rfl
def isPriv : Mode → Bool
  | .priv => true
  | _ => false
def isHeap : Mode → Bool
  | .heap => true
  | _ => false
def isImm : Mode → Bool
  | .imm => true
  | _ => false
def effB (md : Nat → Mode) (o : Oper) : Bool :=
  match o.op with
  | .alloc _ | .box .. => o.dst.any fun d => isPriv (md d)
  | .store .. => true
  | _ => false
def effH (md : Nat → Mode) (o : Oper) : Bool :=
  match o.op with
  | .alloc _ | .box .. => o.dst.any fun d => isHeap (md d)
  | .store .. => true
  | .call c => match c.callee with | .builtin .len | .builtin .min | .builtin .max => false | _ => true
  | .buildSlice .. => !(o.dst.any fun d => isImm (md d))
  | .makeMap .. | .makeSlice .. | .mapUpdate .. | .insert .. => true
  | .slice _ _ _ _ mx => mx.isSome
  | .convert .. => o.dst.any fun d => isHeap (md d)
  | .extract .. => o.dst.any fun d => isImm (md d)
  | _ => false
structure Loc (E : Env) (o : Oper) (st : St) (H : Hp) (st' : St) (H' : Hp) (st2 : St) : Prop where
  out : ∃ x, st'.s = setD st.s o.dst x ∧ evOp E o st2 H = some (.normal, ⟨setD st2.s o.dst x, st'.b, st'.r⟩, H')
  nb : effB E.mode o = false → st'.b = st.b
  nh : effH E.mode o = false → st'.r = st.r ∧ H' = H
def tmpsOf (l : List Operand) : List Nat := l.filterMap fun | .tmp t => some t | _ => none
section
variable {E : Env} {o : Oper} {st st' st2 : St} {H H' : Hp}
theorem rdS_same {x : Operand} {l : List Operand} (hx : x ∈ l) (h : ∀ t ∈ tmpsOf l, st2.s.getD t (.v .undef) = st.s.getD t (.v .undef)) : rdS st2 x = rdS st x := by
  cases x with
  | tmp t => exact h t (List.mem_filterMap.2 ⟨_, hx, rfl⟩)
  | _ => rfl
theorem sealV_same (hr : st2.r = st.r) (v : V) : sealV st2 v = sealV st v := by cases v <;> simp [sealV, hr]
theorem rdG_same {E : Env} {x : Operand} (h : rdS st2 x = rdS st x) : rdG E st2 x = rdG E st x := by cases x <;> first | rfl | exact h
theorem rd_same (hr : st2.r = st.r) {x : Operand} (h : rdS st2 x = rdS st x) : rd st2 x = rd st x := by unfold rd; rw [h, sealV_same hr]
theorem Loc.put {x : Slot} (hst : some (Ex.normal, putS st o.dst x, H) = some (Ex.normal, st', H')) (hb : st2.b = st.b) (hr : st2.r = st.r) (h2 : evOp E o st2 H = some (.normal, putS st2 o.dst x, H)) : Loc E o st H st' H' st2 := by
  cases hst
  refine ⟨⟨x, by rw [putS_eq], ?_⟩, fun _ => by rw [putS_eq], fun _ => ⟨by rw [putS_eq], rfl⟩⟩
  rw [h2, putS_eq, putS_eq, hb, hr]
theorem Loc.resV {x : Option V} (hst : resV st o.dst H x = some (.normal, st', H')) (hb : st2.b = st.b) (hr : st2.r = st.r) (h2 : evOp E o st2 H = resV st2 o.dst H x) : Loc E o st H st' H' st2 := by
  cases x with
  | none => cases hst
  | some x => exact Loc.put hst hb hr h2
theorem Loc.resS {x : Option Slot} (hst : resS st o.dst H x = some (.normal, st', H')) (hb : st2.b = st.b) (hr : st2.r = st.r) (h2 : evOp E o st2 H = resS st2 o.dst H x) : Loc E o st H st' H' st2 := by
  cases x with
  | none => cases hst
  | some x => exact Loc.put hst hb hr h2
theorem loadCells_same {P : Program} (hr : st2.r = st.r) (t : TypeId) (cs : List V) (off : Nat) : loadCells P st2 t cs off = loadCells P st t cs off := by
  have : (sealV st2 : V → V) = sealV st := funext (sealV_same hr)
  unfold loadCells; rw [this]
theorem loadOp_same {P : Program} (hb : st2.b = st.b) (hr : st2.r = st.r) (t : TypeId) (a : Slot) : loadOp P st2 H t a = loadOp P st H t a := by
  have h1 : slotCells st2 H a = slotCells st H a := by unfold slotCells; rw [hb]
  unfold loadOp; rw [h1]
  congr 1
  funext q
  exact loadCells_same hr _ _ _
theorem indexAddrOp_same {P : Program} (hr : st2.r = st.r) (t : TypeId) (x : Slot) (ix : V) : indexAddrOp P st2 H t x ix = indexAddrOp P st H t x ix := by
  unfold indexAddrOp; rw [sealV_same hr]
theorem sliceOp_same {P : Program} (hr : st2.r = st.r) (t : TypeId) (x : V) (lo hi mx : Option V) : sliceOp P st2 H t x lo hi mx = sliceOp P st H t x lo hi mx := by
  unfold sliceOp; rw [sealV_same hr]
theorem omap_same (hr : st2.r = st.r) {x : Option Operand} {l : List Operand} (hx : ∀ y, x = some y → y ∈ l) (h : ∀ t ∈ tmpsOf l, st2.s.getD t (.v .undef) = st.s.getD t (.v .undef)) : x.map (rd st2) = x.map (rd st) := by
  cases x with
  | none => rfl
  | some y => simp [rd_same hr (rdS_same (hx y rfl) h)]
theorem lmap_same (hr : st2.r = st.r) {xs : List Operand} {l : List Operand} (hx : ∀ y ∈ xs, y ∈ l) (h : ∀ t ∈ tmpsOf l, st2.s.getD t (.v .undef) = st.s.getD t (.v .undef)) : xs.map (rd st2) = xs.map (rd st) :=
  List.map_congr_left fun y hy => rd_same hr (rdS_same (hx y hy) h)
/-- what a state-changing step says of another state with other slots -/
def reS (st : St) (s : List Slot) : St := ⟨s, st.b, st.r⟩
theorem frow_re (d : Option Nat) (ns : Bool) (es : List V) (hb : st2.b = st.b) (hr : st2.r = st.r) :
    ∃ x, (frow st d ns es).s = setD st.s d x ∧ frow st2 d ns es = ⟨setD st2.s d x, (frow st d ns es).b, (frow st d ns es).r⟩ ∧ (frow st d ns es).b = st.b := by
  refine ⟨.v (.lr st.r.length es.length), ?_, ?_, ?_⟩
  · simp [frow, putS_eq]
  · simp [frow, putS_eq, hb, hr]
  · simp [frow, putS_eq]
theorem callOut_re (d : Option Nat) (v : V) (g : Bool) (hb : st2.b = st.b) (hr : st2.r = st.r) :
    ∃ x, (callOut st d v g).s = setD st.s d x ∧ callOut st2 d v g = ⟨setD st2.s d x, (callOut st d v g).b, (callOut st d v g).r⟩ ∧ (callOut st d v g).b = st.b := by
  unfold callOut
  split
  · exact frow_re d _ _ hb hr
  · refine ⟨.v v, ?_, ?_, ?_⟩ <;> simp [putS_eq, hb, hr]
theorem put_re (x : Slot) (d : Option Nat) (H : Hp) (hb : st2.b = st.b) (hr : st2.r = st.r) : (putS st d x).s = setD st.s d x ∧ (some (putS st2 d x, H) : Option (St × Hp)) = some (⟨setD st2.s d x, (putS st d x).b, (putS st d x).r⟩, H) ∧ (putS st d x).b = st.b := by
  simp [putS_eq, hb, hr]
theorem after_re {m : Mode} {d : Option Nat} {r : Option (Out × Hp)} (h : after m st d r = some (.normal, st', H')) (hb : st2.b = st.b) (hr : st2.r = st.r) :
    ∃ x, st'.s = setD st.s d x ∧ after m st2 d r = some (.normal, ⟨setD st2.s d x, st'.b, st'.r⟩, H') ∧ st'.b = st.b := by
  cases r with
  | none => cases h
  | some q =>
    obtain ⟨out, H1⟩ := q
    cases out with
    | panic v => cases h
    | ret v g =>
      cases g with
      | true =>
        simp only [after, Option.some.injEq, Prod.mk.injEq, true_and] at h
        obtain ⟨rfl, rfl⟩ := h
        obtain ⟨x, h1, h2, h3⟩ := callOut_re d v true hb hr
        exact ⟨x, h1, by simp [after, h2], h3⟩
      | false =>
        simp only [after, Option.some.injEq, Prod.mk.injEq, true_and] at h
        obtain ⟨rfl, rfl⟩ := h
        obtain ⟨a1, a2, a3⟩ := put_re (st := st) (st2 := st2) (.v (sealH m v H1).1) d (sealH m v H1).2 hb hr
        simp only [Option.some.injEq, Prod.mk.injEq, and_true] at a2
        exact ⟨_, a1, by simp only [after]; rw [a2], a3⟩
theorem newSl_re {P : Program} {d : Option Nat} {e : TypeId} {es : List V} (h : newSl P st H d e es = some (st', H')) (hb : st2.b = st.b) (hr : st2.r = st.r) :
    ∃ y, st'.s = setD st.s d y ∧ newSl P st2 H d e es = some (⟨setD st2.s d y, st'.b, st'.r⟩, H') ∧ st'.b = st.b := by
  unfold newSl at h ⊢
  split at h
  · rename_i hc; cases h; rw [if_pos hc]; exact ⟨_, put_re _ d _ hb hr⟩
  · cases h
theorem appendSl_re {P : Program} {d : Option Nat} {e : TypeId} {id lo len : Nat} {xs es : List V} (h : appendSl P st H d e id lo len xs es = some (st', H')) (hb : st2.b = st.b) (hr : st2.r = st.r) :
    ∃ y, st'.s = setD st.s d y ∧ appendSl P st2 H d e id lo len xs es = some (⟨setD st2.s d y, st'.b, st'.r⟩, H') ∧ st'.b = st.b := by
  unfold appendSl at h ⊢
  split at h
  · cases h
  · rename_i hc
    rw [if_neg hc]
    split at h
    · rename_i hc; cases h; rw [if_pos hc]; exact ⟨_, put_re _ d _ hb hr⟩
    · rename_i hc
      rw [if_neg hc]
      split at h
      · rename_i hc; cases h; rw [if_pos hc]; exact ⟨_, put_re _ d _ hb hr⟩
      · cases h
theorem appendOp_re {P : Program} {m : Mode} {d : Option Nat} {e : TypeId} {x : V} {xs : List V} (h : appendOp P m st H d e x xs = some (st', H')) (hb : st2.b = st.b) (hr : st2.r = st.r) :
    ∃ y, st'.s = setD st.s d y ∧ appendOp P m st2 H d e x xs = some (⟨setD st2.s d y, st'.b, st'.r⟩, H') ∧ st'.b = st.b := by
  unfold appendOp at h ⊢
  split at h
  · cases h
  · rename_i hw
    rw [if_neg hw]
    split at h
    · have key : ∀ {o : Option (St × Hp)}, (if elemOk P e xs.length then some (frow st d true xs, H) else none) = some (st', H') → (if elemOk P e xs.length then some (frow st2 d true xs, H) else none) = o → ∃ y, st'.s = setD st.s d y ∧ o = some (⟨setD st2.s d y, st'.b, st'.r⟩, H') ∧ st'.b = st.b := fun {o} h ho => by
        split at h
        · rename_i he
          cases h
          obtain ⟨y, h1, h2, h3⟩ := frow_re (st := st) (st2 := st2) d true xs hb hr
          exact ⟨y, h1, by rw [← ho, if_pos he, h2], h3⟩
        · cases h
      cases m with
      | heap =>
        simp only at h ⊢
        split at h
        · rename_i he; cases h; rw [if_pos he]; exact ⟨_, put_re _ d _ hb hr⟩
        · rename_i he; rw [if_neg he]; exact newSl_re h hb hr
      | priv => exact key h rfl
      | imm => exact key h rfl
    · split at h
      · exact appendSl_re h hb hr
      · cases h
    · rename_i rid len
      split at h
      · rename_i q hq
        have key : ∀ {o : Option (St × Hp)}, (if q.own && len == q.es.length && elemOk P e (len + xs.length) && wideAll q.es (sizeT P e) then
          some ({ putS st d (.v (.lr rid (len + xs.length))) with r := st.r.set rid { q with es := q.es ++ xs } }, H) else none) = some (st', H') → (if q.own && len == q.es.length && elemOk P e (len + xs.length) && wideAll q.es (sizeT P e) then
          some ({ putS st2 d (.v (.lr rid (len + xs.length))) with r := st.r.set rid { q with es := q.es ++ xs } }, H) else none) = o → ∃ y, st'.s = setD st.s d y ∧ o = some (⟨setD st2.s d y, st'.b, st'.r⟩, H') ∧ st'.b = st.b := fun {o} h ho => by
          split at h
          · rename_i hc
            cases h
            refine ⟨.v (.lr rid (len + xs.length)), by simp [putS_eq], ?_, by simp [putS_eq]⟩
            rw [← ho]
            rw [if_pos hc]
            simp [putS_eq, hb, hr]
          · cases h
        simp only [hr, hq]
        cases m with
        | heap =>
          simp only at h ⊢
          split at h
          · rename_i hc
            rw [if_pos hc]
            split at h
            · rename_i he; cases h; rw [if_pos he]; exact ⟨_, put_re _ d _ hb hr⟩
            · rename_i he; rw [if_neg he]; exact newSl_re h hb hr
          · cases h
        | priv => exact key h rfl
        | imm => exact key h rfl
      · cases h
    · rename_i id len
      split at h
      · rename_i ns es hq
        split at h
        · rename_i hc
          cases h
          refine ⟨.v (.hr id (len + xs.length)), by simp [putS_eq], ?_, by simp [putS_eq]⟩
          rw [if_pos hc]
          simp [putS_eq, hb, hr]
        · cases h
      · cases h
    · cases m with
      | heap =>
        simp only at h ⊢
        split at h
        · rename_i he; cases h; rw [if_pos he]; exact ⟨_, put_re _ d _ hb hr⟩
        · rename_i he; rw [if_neg he]; exact newSl_re h hb hr
      | priv => cases h
      | imm =>
        simp only at h ⊢
        split at h
        · rename_i he; cases h; rw [if_pos he]; exact ⟨_, put_re _ d _ hb hr⟩
        · rename_i he; rw [if_neg he]; exact newSl_re h hb hr
    · cases h
/-- A conversion -/
theorem convertOp_re {P : Program} {m : Mode} {d : Option Nat} {src dst : TypeId} {x : V} (h : convertOp P m st H d src dst x = some (st', H')) (hb : st2.b = st.b) (hr : st2.r = st.r) :
    ∃ y, st'.s = setD st.s d y ∧ convertOp P m st2 H d src dst x = some (⟨setD st2.s d y, st'.b, st'.r⟩, H') ∧ st'.b = st.b ∧ st'.r = st.r ∧ (isHeap m = false → H' = H) := by
  have P1 : ∀ y, (putS st d y).r = st.r := fun y => by simp [putS_eq]
  have fin : ∀ (y : Slot) {o : Option (St × Hp)}, o = some (putS st2 d y, H) → some (putS st d y, H) = some (st', H') → ∃ y, st'.s = setD st.s d y ∧ o = some (⟨setD st2.s d y, st'.b, st'.r⟩, H') ∧ st'.b = st.b ∧ st'.r = st.r ∧ (isHeap m = false → H' = H) := fun y o ho h => by
    cases h
    obtain ⟨a1, a2, a3⟩ := put_re y d H hb hr
    exact ⟨y, a1, by rw [ho]; exact a2, a3, P1 y, fun _ => rfl⟩
  unfold convertOp at h ⊢
  split at h
  · split at h
    · exact fin _ rfl h
    · cases h
  · split at h
    · split at h
      · exact fin _ rfl h
      · cases h
    · split at h
      · obtain ⟨row, g1, g2⟩ := Option.bind_eq_some_iff.1 h
        obtain ⟨s, g3, g4⟩ := Option.map_eq_some_iff.1 g2
        refine fin (.v (.str s)) ?_ (by rw [← g4])
        rw [g1]; simp [g3]
      · cases h
    · cases h
  · split at h
    · split at h
      · cases m with
        | heap =>
          simp only at h ⊢
          cases h
          obtain ⟨a1, a2, a3⟩ := put_re (st := st) (st2 := st2) _ d _ hb hr
          exact ⟨_, a1, a2, a3, P1 _, fun hh => by cases hh⟩
        | priv => exact fin _ rfl h
        | imm => exact fin _ rfl h
      · split at h
        · split at h
          · rename_i he; rw [if_pos he]; exact fin _ rfl h
          · cases h
        · cases h
      · cases h
    · cases h
  · cases h
theorem promote_re {x : V} {q : V × St × Hp} (h : promote st H x = some q) (hb : st2.b = st.b) (hr : st2.r = st.r) :
    promote st2 H x = some (q.1, ⟨st2.s, q.2.1.b, q.2.1.r⟩, q.2.2) ∧ q.2.1.s = st.s ∧ q.2.1.b = st.b := by
  unfold promote at h ⊢
  have e2 : st2 = ⟨st2.s, st.b, st.r⟩ := by rw [← hb, ← hr]
  cases x with
  | lr rid len =>
    simp only [hr] at h ⊢
    split at h
    · rename_i qq hq
      split at h
      · rename_i hc
        cases h
        simp only
        rw [if_pos hc]
        exact ⟨by rw [hb], by simp⟩
      · rename_i hc
        cases h
        simp only
        rw [if_neg hc]
        exact ⟨by rw [← e2], by simp⟩
    · cases h
  | _ => cases h; exact ⟨by show some (_, st2, _) = _; rw [← e2], rfl, rfl⟩
theorem storeOp_re {P : Program} {t : TypeId} {a x : Slot} (h : storeOp P st H t a x = some (st', H')) (hb : st2.b = st.b) (hr : st2.r = st.r) :
    st'.s = st.s ∧ storeOp P st2 H t a x = some (⟨st2.s, st'.b, st'.r⟩, H') := by
  unfold storeOp at h ⊢
  split at h
  · cases h
  · rename_i hz
    rw [if_neg hz]
    split at h
    · simp only [hb]
      obtain ⟨cs, h1, h2⟩ := Option.bind_eq_some_iff.1 h
      obtain ⟨cs', h3, h4⟩ := Option.map_eq_some_iff.1 h2
      cases h4
      refine ⟨rfl, ?_⟩
      rw [h1, Option.bind_some, h3, Option.map_some, hr]
    · simp only [hb]
      obtain ⟨cs, h1, h2⟩ := Option.bind_eq_some_iff.1 h
      obtain ⟨cs', h3, h4⟩ := Option.map_eq_some_iff.1 h2
      cases h4
      refine ⟨rfl, ?_⟩
      rw [h1, Option.bind_some, h3, Option.map_some, hr]
    · unfold storeHeap at h ⊢
      obtain ⟨q, h1, h2⟩ := Option.bind_eq_some_iff.1 h
      obtain ⟨H1, h3, h4⟩ := Option.map_eq_some_iff.1 h2
      obtain ⟨p1, p2, p3⟩ := promote_re h1 hb hr
      cases h4
      exact ⟨p2, by simp only [p1, Option.bind_some, h3, Option.map_some]⟩
    · cases h
theorem allocV_re {x : V} (h : allocV E o st H x = some (.normal, st', H')) (hb : st2.b = st.b) (hr : st2.r = st.r) :
    (∃ y, st'.s = setD st.s o.dst y ∧ allocV E o st2 H x = some (.normal, ⟨setD st2.s o.dst y, st'.b, st'.r⟩, H')) ∧
    ((o.dst.any fun d => isPriv (E.mode d)) = false → st'.b = st.b) ∧
    ((o.dst.any fun d => isHeap (E.mode d)) = false → st'.r = st.r ∧ H' = H) := by
  unfold allocV at h ⊢
  cases hd : o.dst with
  | none => rw [hd] at h; cases h
  | some d =>
    rw [hd] at h
    simp only at h ⊢
    cases hm : E.mode d <;> rw [hm] at h <;> simp only [Option.some.injEq, Prod.mk.injEq, true_and] at h <;> obtain ⟨rfl, rfl⟩ := h <;>
      refine ⟨⟨_, by simp [putS_eq]; rfl, by simp [putS_eq, hb, hr]⟩, fun hx => ?_, fun hx => ?_⟩ <;> first | (simp [hd, hm, isPriv, isHeap] at hx; done) | (simp [putS_eq]; done)
theorem evOp_loc (h : evOp E o st H = some (.normal, st', H')) (hb : st2.b = st.b) (hr : st2.r = st.r) (hs : ∀ t ∈ tmpsOf o.op.operands.toList, st2.s.getD t (.v .undef) = st.s.getD t (.v .undef)) : Loc E o st H st' H' st2 := by
  have S : ∀ x ∈ o.op.operands.toList, rdS st2 x = rdS st x := fun x hx => rdS_same hx hs
  have D : ∀ x ∈ o.op.operands.toList, rd st2 x = rd st x := fun x hx => rd_same hr (S x hx)
  cases ho : o.op with
  | move x =>
    have e := S x (by simp [ho, Op.operands])
    unfold evOp at h; rw [ho] at h
    exact Loc.put h hb hr (by unfold evOp; rw [ho]; simp only [e])
  | assign x =>
    have e := S x (by simp [ho, Op.operands])
    unfold evOp at h; rw [ho] at h
    exact Loc.put h hb hr (by unfold evOp; rw [ho]; simp only [e])
  | pick c a b =>
    have e1 := D c (by simp [ho, Op.operands])
    have e2 := S a (by simp [ho, Op.operands])
    have e3 := S b (by simp [ho, Op.operands])
    unfold evOp at h; rw [ho] at h
    simp only at h
    split at h
    · rename_i cc hc
      refine Loc.put h hb hr ?_
      unfold evOp; rw [ho]; simp only [e1, e2, e3, hc]
    · cases h
  | alloc t =>
    unfold evOp at h; rw [ho] at h
    simp only at h
    split at h
    · rename_i hc
      obtain ⟨⟨y, y1, y2⟩, y3, y4⟩ := allocV_re h hb hr
      refine ⟨⟨y, y1, ?_⟩, fun hx => y3 (by unfold effB at hx; rw [ho] at hx; exact hx), fun hx => y4 (by unfold effH at hx; rw [ho] at hx; exact hx)⟩
      unfold evOp; rw [ho]; simp only; rw [if_pos hc]; exact y2
    · cases h
  | box t x =>
    have e := D x (by simp [ho, Op.operands])
    unfold evOp at h; rw [ho] at h
    simp only at h
    split at h
    · rename_i hc
      obtain ⟨⟨y, y1, y2⟩, y3, y4⟩ := allocV_re h hb hr
      refine ⟨⟨y, y1, ?_⟩, fun hx => y3 (by unfold effB at hx; rw [ho] at hx; exact hx), fun hx => y4 (by unfold effH at hx; rw [ho] at hx; exact hx)⟩
      unfold evOp; rw [ho]; simp only [e]; rw [if_pos hc]; exact y2
    · cases h
  | build t parts =>
    have e : parts.toList.map (fun p => (p.1, rd st2 p.2)) = parts.toList.map (fun p => (p.1, rd st p.2)) := List.map_congr_left fun p hp => by
      rw [D p.2 (by simp only [ho, Op.operands, List.toList_toArray]; exact List.mem_map.2 ⟨p, hp, rfl⟩)]
    unfold evOp at h; rw [ho] at h
    exact Loc.resV h hb hr (by unfold evOp; rw [ho]; simp only [e])
  | buildSlice t len parts =>
    have e : parts.toList.map (fun p => (p.1, rd st2 p.2)) = parts.toList.map (fun p => (p.1, rd st p.2)) := List.map_congr_left fun p hp => by
      rw [D p.2 (by simp only [ho, Op.operands, List.toList_toArray]; exact List.mem_map.2 ⟨p, hp, rfl⟩)]
    unfold evOp at h; rw [ho] at h
    simp only at h
    split at h
    · rename_i e0 hix
      split at h
      · rename_i es hes
        split at h
        · rename_i hmd
          simp only [Option.some.injEq, Prod.mk.injEq, true_and] at h
          obtain ⟨rfl, rfl⟩ := h
          obtain ⟨a1, a2, a3⟩ := put_re (st := st) (st2 := st2) (.v (.sl H.length 0 es.length)) o.dst (H ++ [.cells es]) hb hr
          refine ⟨⟨_, a1, ?_⟩, fun _ => a3, fun hx => by
            unfold effH at hx; rw [ho] at hx
            cases hd : o.dst with
            | none => rw [hd] at hx; cases hx
            | some d => rw [hd] at hx hmd; simp only [modeD] at hmd; simp [hmd, isImm] at hx⟩
          simp only [Option.some.injEq, Prod.mk.injEq, and_true] at a2
          unfold evOp; rw [ho]; simp only [e, hix, hes, hmd]; rw [a2]
        · rename_i hmd
          simp only [Option.some.injEq, Prod.mk.injEq, true_and] at h
          obtain ⟨rfl, rfl⟩ := h
          obtain ⟨a1, a2, a3⟩ := put_re (st := st) (st2 := st2) (.v (immV es)) o.dst H hb hr
          refine ⟨⟨_, a1, ?_⟩, fun _ => a3, fun _ => ⟨by rw [putS_eq], rfl⟩⟩
          simp only [Option.some.injEq, Prod.mk.injEq, and_true] at a2
          unfold evOp; rw [ho]; simp only [e, hix, hes, hmd]; rw [a2]
        · rename_i hmd
          simp only [Option.some.injEq, Prod.mk.injEq, true_and] at h
          obtain ⟨rfl, rfl⟩ := h
          obtain ⟨y, y1, y2, y3⟩ := frow_re (st := st) (st2 := st2) o.dst false es hb hr
          refine ⟨⟨y, y1, ?_⟩, fun _ => y3, fun hx => by
            unfold effH at hx; rw [ho] at hx
            cases hd : o.dst with
            | none => rw [hd] at hx; cases hx
            | some d => rw [hd] at hx hmd; simp only [modeD] at hmd; simp [hmd, isImm] at hx⟩
          unfold evOp; rw [ho]; simp only [e, hix, hes, hmd, y2]
      · cases h
    · cases h
  | load t a =>
    have e := rdG_same (E := E) (S a (by simp [ho, Op.operands]))
    unfold evOp at h; rw [ho] at h
    exact Loc.resS h hb hr (by unfold evOp; rw [ho]; simp only [e, loadOp_same hb hr])
  | store t a x =>
    have e1 := S a (by simp [ho, Op.operands])
    have e2 := S x (by simp [ho, Op.operands])
    unfold evOp at h; rw [ho] at h
    cases hd : o.dst with
    | some d => simp only [noDst, hd] at h; cases h
    | none =>
    simp only [noDst, hd] at h
    split at h
    · rename_i st1 H1 hst
      simp only [Option.some.injEq, Prod.mk.injEq, true_and] at h
      obtain ⟨rfl, rfl⟩ := h
      obtain ⟨y1, y2⟩ := storeOp_re hst hb hr
      refine ⟨⟨.v .undef, by rw [hd]; exact y1, ?_⟩, (fun hx => by unfold effB at hx; rw [ho] at hx; cases hx), fun hx => by unfold effH at hx; rw [ho] at hx; cases hx⟩
      unfold evOp; rw [ho]; simp only [noDst, hd, e1, e2, y2]; rfl
    · cases h
  | nilCheck x =>
    have e := S x (by simp [ho, Op.operands])
    unfold evOp at h; rw [ho] at h
    exact Loc.resS h hb hr (by unfold evOp; rw [ho]; simp only [e])
  | fieldAddr t x f =>
    have e := rdG_same (E := E) (S x (by simp [ho, Op.operands]))
    unfold evOp at h; rw [ho] at h
    exact Loc.resS h hb hr (by unfold evOp; rw [ho]; simp only [e])
  | indexAddr t x ix =>
    have e1 := rdG_same (E := E) (S x (by simp [ho, Op.operands]))
    have e2 := D ix (by simp [ho, Op.operands])
    unfold evOp at h; rw [ho] at h
    exact Loc.resS h hb hr (by unfold evOp; rw [ho]; simp only [e1, e2, indexAddrOp_same hr])
  | field t x f =>
    have e := D x (by simp [ho, Op.operands])
    unfold evOp at h; rw [ho] at h
    exact Loc.resV h hb hr (by unfold evOp; rw [ho]; simp only [e])
  | index t x ix =>
    have e1 := D x (by simp [ho, Op.operands])
    have e2 := D ix (by simp [ho, Op.operands])
    unfold evOp at h; rw [ho] at h
    exact Loc.resV h hb hr (by unfold evOp; rw [ho]; simp only [e1, e2])
  | slice t x lo hi mx =>
    have e1 := S x (by simp [ho, Op.operands])
    have e2 := omap_same (x := lo) hr (fun y hy => by simp [ho, Op.operands, hy]) hs
    have e3 := omap_same (x := hi) hr (fun y hy => by simp [ho, Op.operands, hy]) hs
    have e4 := omap_same (x := mx) hr (fun y hy => by simp [ho, Op.operands, hy]) hs
    unfold evOp at h; rw [ho] at h
    exact Loc.resV h hb hr (by unfold evOp; rw [ho]; simp only [e1, e2, e3, e4, sliceOp_same hr])
  | binOp op t x y ty =>
    have e1 := D x (by simp [ho, Op.operands])
    have e2 := D y (by simp [ho, Op.operands])
    unfold evOp at h; rw [ho] at h
    exact Loc.resV h hb hr (by unfold evOp; rw [ho]; simp only [e1, e2])
  | unOp op t x =>
    have e := D x (by simp [ho, Op.operands])
    unfold evOp at h; rw [ho] at h
    exact Loc.resV h hb hr (by unfold evOp; rw [ho]; simp only [e])
  | convert s d x =>
    have e := D x (by simp [ho, Op.operands])
    unfold evOp at h; rw [ho] at h
    simp only at h
    split at h
    · rename_i q hc
      simp only [Option.some.injEq, Prod.mk.injEq, true_and] at h
      obtain ⟨rfl, rfl⟩ := h
      obtain ⟨y, y1, y2, y3, y4, y5⟩ := convertOp_re (st2 := st2) hc hb hr
      refine ⟨⟨y, y1, ?_⟩, fun _ => y3, fun hx => ⟨y4, y5 ?_⟩⟩
      · unfold evOp; rw [ho]; simp only [e, y2]
      · unfold effH at hx; rw [ho] at hx
        unfold modeD
        cases hd : o.dst with
        | none => rfl
        | some d => rw [hd] at hx; simpa using hx
    · cases h
  | makeInterface t x =>
    have e := D x (by simp [ho, Op.operands])
    unfold evOp at h; rw [ho] at h
    exact Loc.resV h hb hr (by unfold evOp; rw [ho]; simp only [e])
  | makeFunc fn first cap =>
    cases fn with
    | func f =>
      have e1 := lmap_same (xs := first.toList) hr (fun y hy => by simp [ho, Op.operands]; exact .inl (Array.mem_toList_iff.1 hy)) hs
      have e2 := lmap_same (xs := cap.toList) hr (fun y hy => by simp [ho, Op.operands]; exact .inr (Array.mem_toList_iff.1 hy)) hs
      unfold evOp at h; rw [ho] at h
      exact Loc.resV h hb hr (by unfold evOp; rw [ho]; simp only [e1, e2])
    | _ => unfold evOp at h; rw [ho] at h; cases h
  | makeMap t r =>
    cases r with
    | none =>
      unfold evOp at h; rw [ho] at h
      simp only [Option.some.injEq, Prod.mk.injEq, true_and] at h
      obtain ⟨rfl, rfl⟩ := h
      refine ⟨⟨.v (.map H.length), by rw [putS_eq], ?_⟩, fun _ => by rw [putS_eq], fun hx => by unfold effH at hx; rw [ho] at hx; cases hx⟩
      unfold evOp; rw [ho]; simp only [putS_eq, hb, hr]
    | some r => unfold evOp at h; rw [ho] at h; cases h
  | makeSlice t l c =>
    have e1 := D l (by simp [ho, Op.operands])
    have e2 := D c (by simp [ho, Op.operands])
    unfold evOp at h; rw [ho] at h
    simp only at h
    split at h
    · rename_i ee n m h1 h2 h3
      split at h
      · rename_i hc
        simp only [Option.some.injEq, Prod.mk.injEq, true_and] at h
        obtain ⟨rfl, rfl⟩ := h
        refine ⟨⟨.v (.sl H.length 0 n.toNat), by rw [putS_eq], ?_⟩, fun _ => by rw [putS_eq], fun hx => by unfold effH at hx; rw [ho] at hx; cases hx⟩
        unfold evOp; rw [ho]; simp only [e1, e2, h1, h2, h3]; rw [if_pos hc]; simp only [putS_eq, hb, hr]
      · cases h
    · cases h
  | extract x i =>
    have e := D x (by simp [ho, Op.operands])
    unfold evOp at h; rw [ho] at h
    simp only at h
    split at h
    · rename_i vs hx
      split at h
      · rename_i v hv
        simp only [Option.some.injEq, Prod.mk.injEq, true_and] at h
        obtain ⟨rfl, rfl⟩ := h
        obtain ⟨a1, a2, a3⟩ := put_re (st := st) (st2 := st2) (.v (sealH (modeD E o.dst) v H).1) o.dst (sealH (modeD E o.dst) v H).2 hb hr
        simp only [Option.some.injEq, Prod.mk.injEq, and_true] at a2
        refine ⟨⟨_, a1, ?_⟩, fun _ => a3, fun hx => ⟨by simp [putS_eq], ?_⟩⟩
        · unfold evOp; rw [ho]; simp only [e, *]
        · unfold effH at hx; rw [ho] at hx
          unfold modeD
          cases hd : o.dst with
          | none => rfl
          | some d =>
            rw [hd] at hx
            simp only [Option.any_some] at hx
            cases hm : E.mode d with
            | imm => rw [hm] at hx; cases hx
            | priv => simp only [sealH, hm]
            | heap => simp only [sealH, hm]
      · cases h
    · cases h
  | lookup t x ix ok =>
    have e1 := D x (by simp [ho, Op.operands])
    have e2 := D ix (by simp [ho, Op.operands])
    unfold evOp at h; rw [ho] at h
    exact Loc.resV h hb hr (by unfold evOp; rw [ho]; simp only [e1, e2])
  | mapUpdate t m k x =>
    have e1 := D m (by simp [ho, Op.operands])
    have e2 := D k (by simp [ho, Op.operands])
    have e3 := D x (by simp [ho, Op.operands])
    unfold evOp at h; rw [ho] at h
    cases hd : o.dst with
    | some d => simp only [noDst, hd] at h; cases h
    | none =>
    simp only [noDst, hd] at h
    split at h
    · rename_i H1 hst
      simp only [Option.some.injEq, Prod.mk.injEq, true_and] at h
      obtain ⟨rfl, rfl⟩ := h
      refine ⟨⟨.v .undef, by rw [hd]; rfl, ?_⟩, fun hx => rfl, fun hx => by unfold effH at hx; rw [ho] at hx; cases hx⟩
      unfold evOp; rw [ho]; simp only [noDst, hd, e1, e2, e3, hst, setD, ← hb, ← hr]
    · cases h
  | insert t m k x =>
    have e1 := D m (by simp [ho, Op.operands])
    have e2 := D k (by simp [ho, Op.operands])
    have e3 := D x (by simp [ho, Op.operands])
    unfold evOp at h; rw [ho] at h
    cases hd : o.dst with
    | some d => simp only [noDst, hd] at h; cases h
    | none =>
    simp only [noDst, hd] at h
    split at h
    · rename_i H1 hst
      simp only [Option.some.injEq, Prod.mk.injEq, true_and] at h
      obtain ⟨rfl, rfl⟩ := h
      refine ⟨⟨.v .undef, by rw [hd]; rfl, ?_⟩, fun hx => rfl, fun hx => by unfold effH at hx; rw [ho] at hx; cases hx⟩
      unfold evOp; rw [ho]; simp only [noDst, hd, e1, e2, e3, hst, setD, ← hb, ← hr]
    · cases h
  | panic x => unfold evOp at h; rw [ho] at h; simp only at h; split at h <;> cases h
  | call c =>
    have ec : ∀ s H, evOp E o s H = callOp E o c s H := fun s H => by unfold evOp; rw [ho]
    have hargs : ∀ x ∈ c.args.toList, rdS st2 x = rdS st x := fun x hx => S x (by simp only [ho, Op.operands, Call.operands]; simp; exact .inr (Array.mem_toList_iff.1 hx))
    have dargs : ∀ x ∈ c.args.toList, rd st2 x = rd st x := fun x hx => rd_same hr (hargs x hx)
    have margs : c.args.toList.map (rd st2) = c.args.toList.map (rd st) := List.map_congr_left dargs
    rw [ec] at h
    cases hc : c.callee with
    | builtin b =>
      unfold callOp at h
      rw [hc] at h
      simp only at h
      cases b with
      | len =>
        simp only at h
        split at h
        · rename_i x t h1 h2
          obtain ⟨v, g1, g2⟩ := Option.bind_eq_some_iff.1 h
          refine Loc.put g2 hb hr ?_
          rw [ec]; unfold callOp; rw [hc]
          simp only [h1, h2]
          rw [dargs x (by rw [h1]; simp), g1]; rfl
        · cases h
      | append =>
        simp only at h
        split at h
        · rename_i s x t tx h1 h2
          split at h
          · rename_i ee hix
            obtain ⟨xs, g1, g2⟩ := Option.bind_eq_some_iff.1 h
            obtain ⟨q, g3, g4⟩ := Option.bind_eq_some_iff.1 g2
            simp only [Option.some.injEq, Prod.mk.injEq, true_and] at g4
            obtain ⟨rfl, rfl⟩ := g4
            obtain ⟨y, y1, y2, y3⟩ := appendOp_re (st2 := st2) g3 hb hr
            refine ⟨⟨y, y1, ?_⟩, fun _ => y3, fun hx => by unfold effH at hx; rw [ho] at hx; simp only [hc] at hx; cases hx⟩
            rw [ec]; unfold callOp; rw [hc]
            simp only [h1, h2, hix]
            rw [dargs x (by rw [h1]; simp), g1, hargs s (by rw [h1]; simp)]
            simp only [Option.bind_some, y2]
          · cases h
        · cases h
      | delete =>
        simp only at h
        split at h
        · rename_i x y t tk' h1 h2
          obtain ⟨H1, g1, g2⟩ := Option.bind_eq_some_iff.1 h
          simp only [Option.some.injEq, Prod.mk.injEq, true_and] at g2
          obtain ⟨rfl, rfl⟩ := g2
          obtain ⟨a1, a2, a3⟩ := put_re (st := st) (st2 := st2) (.v (.tup [])) o.dst H1 hb hr
          refine ⟨⟨_, a1, ?_⟩, fun _ => a3, fun hx => by unfold effH at hx; rw [ho] at hx; simp only [hc] at hx; cases hx⟩
          simp only [Option.some.injEq, Prod.mk.injEq, and_true] at a2
          rw [ec]; unfold callOp; rw [hc]
          simp only [h1, h2]
          rw [dargs x (by rw [h1]; simp), dargs y (by rw [h1]; simp), g1]
          simp only [Option.bind_some]; rw [a2]
        · cases h
      | clear =>
        simp only at h
        split at h
        · rename_i x t h1 h2
          obtain ⟨H1, g1, g2⟩ := Option.bind_eq_some_iff.1 h
          simp only [Option.some.injEq, Prod.mk.injEq, true_and] at g2
          obtain ⟨rfl, rfl⟩ := g2
          obtain ⟨a1, a2, a3⟩ := put_re (st := st) (st2 := st2) (.v (.tup [])) o.dst H1 hb hr
          refine ⟨⟨_, a1, ?_⟩, fun _ => a3, fun hx => by unfold effH at hx; rw [ho] at hx; simp only [hc] at hx; cases hx⟩
          simp only [Option.some.injEq, Prod.mk.injEq, and_true] at a2
          rw [ec]; unfold callOp; rw [hc]
          simp only [h1, h2]
          rw [dargs x (by rw [h1]; simp), g1]
          simp only [Option.bind_some]; rw [a2]
        · cases h
      | min =>
        simp only at h
        split at h
        · rename_i x y h1
          obtain ⟨v, g1, g2⟩ := Option.bind_eq_some_iff.1 h
          refine Loc.put g2 hb hr ?_
          rw [ec]; unfold callOp; rw [hc]
          simp only [h1]
          rw [dargs x (by rw [h1]; simp), dargs y (by rw [h1]; simp), g1]; rfl
        · cases h
      | max =>
        simp only at h
        split at h
        · rename_i x y h1
          obtain ⟨v, g1, g2⟩ := Option.bind_eq_some_iff.1 h
          refine Loc.put g2 hb hr ?_
          rw [ec]; unfold callOp; rw [hc]
          simp only [h1]
          rw [dargs x (by rw [h1]; simp), dargs y (by rw [h1]; simp), g1]; rfl
        · cases h
      | _ => cases h
    | value f =>
      have ef := D f (by simp only [ho, Op.operands, Call.operands, hc]; simp)
      unfold callOp at h
      rw [hc] at h
      simp only at h
      split at h
      · rename_i f' first cap hf
        split at h
        · rename_i hcall
          obtain ⟨y, y1, y2, y3⟩ := after_re (st2 := st2) h hb hr
          refine ⟨⟨y, y1, ?_⟩, fun _ => y3, fun hx => by unfold effH at hx; rw [ho] at hx; simp only [hc] at hx; cases hx⟩
          rw [ec]; unfold callOp; rw [hc]
          simp only [ef, hf]
          rw [if_pos hcall, margs]
          exact y2
        · cases h
      · cases h
    | invoke recv name =>
      have ef := D recv (by simp only [ho, Op.operands, Call.operands, hc]; simp)
      unfold callOp at h
      rw [hc] at h
      simp only at h
      split at h
      · rename_i t v hf
        split at h
        · rename_i f' hm
          split at h
          · rename_i hcall
            obtain ⟨y, y1, y2, y3⟩ := after_re (st2 := st2) h hb hr
            refine ⟨⟨y, y1, ?_⟩, fun _ => y3, fun hx => by unfold effH at hx; rw [ho] at hx; simp only [hc] at hx; cases hx⟩
            rw [ec]; unfold callOp; rw [hc]
            simp only [ef, hf, hm]
            rw [if_pos hcall, margs]
            exact y2
          · cases h
        · cases h
      · cases h
  | _ => unfold evOp at h; rw [ho] at h; cases h
end
end Go.Abs
