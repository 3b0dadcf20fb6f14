/- A part of the proofs over this seat. -/
import Derived.Test.YthicacphcljdmaaQAbsOp
import Derived.Test.YthicacphcljdmaaQAbsKe
namespace Go.Abs
set_option linter.unusedVariables false
set_option linter.unusedSimpArgs false
/-! ### Reading, by rules on constructors alone -/
def lenMap : Option Blk → Option V
  | some (.map es) => some (.int .i64 es.length)
  | _ => none
def lenK (H : Hp) : TK → V → Option V
  | .slice _, .nils => some (.int .i64 0)
  | .slice _, .rsl row => some (.int .i64 row.length)
  | .slice _, .sl _ _ n => some (.int .i64 n)
  | .slice _, .hr _ n => some (.int .i64 n)
  | .str, .str s => some (.int .i64 s.size)
  | .map, .nilm => some (.int .i64 0)
  | .map, .map id => lenMap H[id]?
  | _, _ => none
theorem lenOp_eq (P : Program) (H : Hp) (t : TypeId) (x : V) : lenOp P H t x = lenK H (tk P t) x := by
  unfold lenOp lenK
  cases tk P t <;> cases x <;> first
    | rfl
    | (rename_i id; simp only [lenMap]; cases H[id]? with
        | none => rfl
        | some b => cases b <;> rfl)
theorem lenK_nils (H : Hp) (e : TypeId) : lenK H (.slice e) .nils = some (.int .i64 0) := rfl
theorem lenK_rsl (H : Hp) (e : TypeId) (row : List V) : lenK H (.slice e) (.rsl row) = some (.int .i64 row.length) := rfl
theorem lenK_sl (H : Hp) (e : TypeId) (a b c : Nat) : lenK H (.slice e) (.sl a b c) = some (.int .i64 c) := rfl
theorem lenK_hr (H : Hp) (e : TypeId) (a b : Nat) : lenK H (.slice e) (.hr a b) = some (.int .i64 b) := rfl
theorem lenK_str (H : Hp) (s : ByteArray) : lenK H .str (.str s) = some (.int .i64 s.size) := rfl
theorem lenK_nilm (H : Hp) : lenK H .map .nilm = some (.int .i64 0) := rfl
theorem lenK_map (H : Hp) (id : Nat) : lenK H .map (.map id) = lenMap H[id]? := rfl
theorem lenMap_some (es : List (V × V)) : lenMap (some (.map es)) = some (.int .i64 es.length) := rfl
def arrAt : Slot → Nat → Option Slot
  | .box l, n => some (.ref l n)
  | .ref l o, n => some (.ref l (o + n))
  | .v (.ptr id j o), n => some (.v (.ptr id j (o + n)))
  | .v (.ept y o), n => some (.v (.ept y (o + n)))
  | _, _ => none
theorem arrAt_box (l n : Nat) : arrAt (.box l) n = some (.ref l n) := rfl
theorem arrAt_ref (l o n : Nat) : arrAt (.ref l o) n = some (.ref l (o + n)) := rfl
theorem arrAt_ptr (a b c n : Nat) : arrAt (.v (.ptr a b c)) n = some (.v (.ptr a b (c + n))) := rfl
theorem arrAt_ept (e : V) (c n : Nat) : arrAt (.v (.ept e c)) n = some (.v (.ept e (c + n))) := rfl
def slIn (sz id i : Nat) : Option Blk → Option Slot
  | some (.cells es) => (es[i]?).bind fun y => if y.width = sz then some (.v (.ptr id i 0)) else none
  | _ => none
theorem slIn_some (sz id i : Nat) (es : List V) : slIn sz id i (some (.cells es)) = (es[i]?).bind fun y => if y.width = sz then some (.v (.ptr id i 0)) else none := rfl
def slAt (sz : Nat) (H : Hp) (x : V) (i : Int) : Option Slot :=
  match x with
  | .rsl row => if 0 ≤ i then (row[i.toNat]?).bind fun y => if y.width = sz then some (.v (.ept y 0)) else none else none
  | .sl id lo len => if 0 ≤ i ∧ i < len then slIn sz id (lo + i.toNat) H[id]? else none
  | _ => none
theorem slAt_rsl (sz : Nat) (H : Hp) (row : List V) (i : Int) : slAt sz H (.rsl row) i = if 0 ≤ i then (row[i.toNat]?).bind fun y => if y.width = sz then some (.v (.ept y 0)) else none else none := rfl
theorem slAt_sl (sz : Nat) (H : Hp) (id lo len : Nat) (i : Int) : slAt sz H (.sl id lo len) i = if 0 ≤ i ∧ i < len then slIn sz id (lo + i.toNat) H[id]? else none := rfl
def ixaK (P : Program) (st : St) (H : Hp) (k : IxT) (x : Slot) (ix : V) : Option Slot :=
  match ix with
  | .int _ i => match k with
    | .arr n e => if 0 ≤ i ∧ i < n then arrAt x (i.toNat * sizeT P e) else none
    | .sl e => slAt (sizeT P e) H (viewV H (sealV st x.raw)) i
    | _ => none
  | _ => none
theorem indexAddrOp_eq (P : Program) (st : St) (H : Hp) (t : TypeId) (x : Slot) (ix : V) : indexAddrOp P st H t x ix = ixaK P st H (ixT P t) x ix := by
  unfold indexAddrOp ixaK
  cases ix <;> try rfl
  cases ixT P t with
  | arr n e =>
    simp only
    split
    · cases x with
      | v y => cases y <;> rfl
      | _ => rfl
    all_goals rfl
  | sl e =>
    simp only [slAt]
    cases viewV H (sealV st x.raw) with
    | sl id lo len =>
      simp only [slIn]
      cases H[id]? with
      | none => rfl
      | some b => cases b <;> rfl
    | _ => rfl
  | _ => rfl
theorem ixa_arr (P : Program) (st : St) (H : Hp) (n : Nat) (e : TypeId) (x : Slot) (k : IntKind) (i : Int) : ixaK P st H (.arr n e) x (.int k i) = if 0 ≤ i ∧ i < n then arrAt x (i.toNat * sizeT P e) else none := rfl
theorem ixa_sl (P : Program) (st : St) (H : Hp) (e : TypeId) (x : V) (k : IntKind) (i : Int) : ixaK P st H (.sl e) (.v x) (.int k i) = slAt (sizeT P e) H (viewV H (sealV st x)) i := rfl
def ptrCells (i o : Nat) : Option Blk → Option (List V × Nat)
  | some (.cells es) => (es[i]?).map fun e => (e.cells, o)
  | _ => none
theorem ptrCells_some (i o : Nat) (es : List V) : ptrCells i o (some (.cells es)) = (es[i]?).map fun e => (e.cells, o) := rfl
theorem sc_box (s : List Slot) (b : List (List V)) (r : List LRow) (H : Hp) (l : Nat) : slotCells ⟨s, b, r⟩ H (.box l) = (b[l]?).map fun cs => (cs, 0) := rfl
theorem sc_ref (s : List Slot) (b : List (List V)) (r : List LRow) (H : Hp) (l o : Nat) : slotCells ⟨s, b, r⟩ H (.ref l o) = (b[l]?).map fun cs => (cs, o) := rfl
theorem sc_ept (st : St) (H : Hp) (e : V) (o : Nat) : slotCells st H (.v (.ept e o)) = some (e.cells, o) := rfl
theorem sc_ptr (st : St) (H : Hp) (id i o : Nat) : slotCells st H (.v (.ptr id i o)) = ptrCells i o H[id]? := by
  simp only [slotCells, ptrCells]
  cases H[id]? with
  | none => rfl
  | some b => cases b <;> rfl
theorem fa_box (P : Program) (t : TypeId) (l f : Nat) : fieldAddrOp P t (.box l) f = (fieldT P t f).bind fun q => some (.ref l q.1) := rfl
theorem fa_ref (P : Program) (t : TypeId) (l o f : Nat) : fieldAddrOp P t (.ref l o) f = (fieldT P t f).bind fun q => some (.ref l (o + q.1)) := rfl
theorem fa_ptr (P : Program) (t : TypeId) (a b c f : Nat) : fieldAddrOp P t (.v (.ptr a b c)) f = (fieldT P t f).bind fun q => some (.v (.ptr a b (c + q.1))) := rfl
theorem fa_ept (P : Program) (t : TypeId) (e : V) (c f : Nat) : fieldAddrOp P t (.v (.ept e c)) f = (fieldT P t f).bind fun q => some (.v (.ept e (c + q.1))) := rfl
theorem nc_box (l : Nat) : nilCheckOp (.box l) = some (.box l) := rfl
theorem nc_ref (l o : Nat) : nilCheckOp (.ref l o) = some (.ref l o) := rfl
theorem nc_ptr (a b c : Nat) : nilCheckOp (.v (.ptr a b c)) = some (.v (.ptr a b c)) := rfl
theorem nc_ept (a : V) (b : Nat) : nilCheckOp (.v (.ept a b)) = some (.v (.ept a b)) := rfl
theorem nc_fn (a : FuncId) (b c : List V) : nilCheckOp (.v (.fn a b c)) = some (.v (.fn a b c)) := rfl
theorem nc_ifc (a : TypeId) (b : V) : nilCheckOp (.v (.ifc a b)) = some (.v (.ifc a b)) := rfl
theorem ba_get (s : ByteArray) (i : Nat) : s[i]? = s.data.toList[i]? := by
  show (if h : i < s.size then some (s[i]'h) else none) = _
  have hs : s.size = s.data.size := rfl
  split
  · rename_i h
    rw [Array.getElem?_toList, Array.getElem?_eq_getElem (by rw [← hs]; exact h)]
    rfl
  · rename_i h
    rw [Array.getElem?_toList, Array.getElem?_eq_none (by omega)]
def strAt (s : ByteArray) (i : Int) : IxT → Option V
  | .str => (if 0 ≤ i then s.data.toList[i.toNat]? else none).map byteV
  | _ => none
theorem strAt_str (s : ByteArray) (i : Int) : strAt s i .str = (if 0 ≤ i then s.data.toList[i.toNat]? else none).map byteV := rfl
def aggAt (P : Program) (cs : List V) (i : Int) : IxT → Option V
  | .arr n e => if 0 ≤ i ∧ i < n then partV P e cs (i.toNat * sizeT P e) else none
  | _ => none
theorem aggAt_arr (P : Program) (cs : List V) (i : Int) (n : Nat) (e : TypeId) : aggAt P cs i (.arr n e) = if 0 ≤ i ∧ i < n then partV P e cs (i.toNat * sizeT P e) else none := rfl
theorem indexOp_str (P : Program) (t : TypeId) (s : ByteArray) (k : IntKind) (i : Int) : indexOp P t (.str s) (.int k i) = strAt s i (ixT P t) := by
  simp only [indexOp, strAt]
  cases ixT P t <;> try rfl
  simp only [ba_get]
  split <;> rename_i h <;> rw [h] <;> rfl
theorem indexOp_agg (P : Program) (t : TypeId) (cs : List V) (k : IntKind) (i : Int) : indexOp P t (.agg cs) (.int k i) = aggAt P cs i (ixT P t) := by
  simp only [indexOp, aggAt]
  cases ixT P t <;> rfl
theorem fieldOp_agg (P : Program) (t : TypeId) (cs : List V) (f : Nat) : fieldOp P t (.agg cs) f = (fieldT P t f).bind fun q => partV P q.2 cs q.1 := rfl
theorem byteV_eq (b : UInt8) : byteV b = .int .u8 b.toNat := rfl
theorem cSplit {b : Bool} {E : Env} {x y : Code} {st : St} {H : Hp} {Q : Post} (h1 : b = true → cStep b E x y st H Q) (h2 : b = false → cStep b E x y st H Q) : cStep b E x y st H Q := by
  cases b
  · exact h2 rfl
  · exact h1 rfl
theorem gSplit {b want : Bool} {E : Env} {ops : List Oper} {d : Option Tmp} {op : Op} {ty : TypeId} {pos : String} {aft : Array Edge} {rest : List Oper} {st : St} {H : Hp} {Q : Post} (h1 : b = true → gStep b want E ops d op ty pos aft rest st H Q) (h2 : b = false → gStep b want E ops d op ty pos aft rest st H Q) : gStep b want E ops d op ty pos aft rest st H Q := by
  cases b
  · exact h2 rfl
  · exact h1 rfl
/-- Exactly so does a function answer. -/
theorem eqOf {C : Abs.Callee} {f : FuncId} {args : List V} {H : Hp} {o : Out} (h : wpCall C f args H (fun out H' => out = o ∧ H' = H)) : C f args H = some (o, H) := by
  unfold wpCall at h
  cases hc : C f args H with
  | none => rw [hc] at h; exact h.elim
  | some x => rw [hc] at h; obtain ⟨a, b⟩ := x; obtain ⟨h1, h2⟩ := h; simp only at h1 h2; rw [h1, h2]
/-! What is appended -/
def srcSl (H : Hp) : V → Option (List V)
  | .nils => some []
  | .rsl row => some row
  | .sl id lo len => slCont H id lo len
  | .hr id len => match viewV H (.hr id len) with | .nils => some [] | .rsl row => some row | _ => none
  | _ => none
def srcK (H : Hp) : IxT → V → Option (List V)
  | .sl _, x => srcSl H x
  | .str, .str s => some (s.data.toList.map fun b => .int .u8 b.toNat)
  | _, _ => none
theorem srcV_eq (P : Program) (H : Hp) (t : TypeId) (x : V) : srcV P H t x = srcK H (ixT P t) x := by
  unfold srcV srcK
  cases ixT P t with
  | sl e =>
    cases x <;> try rfl
    rename_i id len
    simp only [srcSl]
    have : ∀ v, viewV H (.hr id len) = v → (match IxT.sl e, v with | IxT.sl _, .nils => some [] | .sl _, .rsl row => some row | .sl _, .sl id lo len => slCont H id lo len | .str, .str s => some (s.data.toList.map fun b => V.int .u8 b.toNat) | _, _ => none) = (match v with | .nils => some [] | .rsl row => some row | _ => none) := fun v hv => by
      cases v <;> try rfl
      simp only [viewV] at hv
      split at hv
      · unfold rowV at hv; split at hv <;> cases hv
      · cases hv
    exact this _ rfl
  | str =>
    cases x <;> try rfl
    rename_i id len
    have : ∀ v, viewV H (.hr id len) = v → (match IxT.str, v with | IxT.sl _, .nils => some [] | .sl _, .rsl row => some row | .sl _, .sl id lo len => slCont H id lo len | .str, .str s => some (s.data.toList.map fun b => V.int .u8 b.toNat) | _, _ => none) = none := fun v hv => by
      cases v <;> try rfl
      simp only [viewV] at hv
      split at hv
      · unfold rowV at hv; split at hv <;> cases hv
      · cases hv
    exact this _ rfl
  | _ => rfl
theorem srcK_sl (H : Hp) (e : TypeId) (x : V) : srcK H (.sl e) x = srcSl H x := rfl
theorem srcK_str (H : Hp) (s : ByteArray) : srcK H .str (.str s) = some (s.data.toList.map fun b => .int .u8 b.toNat) := rfl
theorem srcSl_nils (H : Hp) : srcSl H .nils = some [] := rfl
theorem srcSl_rsl (H : Hp) (r : List V) : srcSl H (.rsl r) = some r := rfl
theorem srcSl_sl (H : Hp) (a b c : Nat) : srcSl H (.sl a b c) = slCont H a b c := rfl
/-! ### A slice that reads as a list, wherever it lies -/
inductive Rd (H : Hp) : V → List V → Prop
  | nils : Rd H .nils []
  | rsl (l : List V) : Rd H (.rsl l) l
  | sl (id lo len : Nat) (es : List V) : H[id]? = some (.cells es) → lo + len ≤ es.length → Rd H (.sl id lo len) ((es.drop lo).take len)
  | hr (id n : Nat) (ns : Bool) (es : List V) : H[id]? = some (.row ns es) → n = es.length → es ≠ [] → Rd H (.hr id n) es
/-- Where an element lies -/
def atV (H : Hp) (x : V) (i o : Nat) : V :=
  match viewV H x with
  | .rsl row => .ept (row.getD i .undef) o
  | .sl id lo _ => .ptr id (lo + i) o
  | _ => .undef
theorem Rd.whole {H : Hp} {id : Nat} {es : List V} (h : H[id]? = some (.cells es)) : Rd H (.sl id 0 es.length) es := by
  have := Rd.sl (H := H) id 0 es.length es h (by omega)
  simpa using this
theorem Rd.shutIn {H : Hp} {x : V} {l : List V} (h : Rd H x l) (st : St) : sealV st x = x := by cases h <;> rfl
theorem Rd.len {H : Hp} {x : V} {l : List V} (h : Rd H x l) (e : TypeId) : lenK H (.slice e) x = some (.int .i64 l.length) := by
  cases h with
  | nils => rfl
  | rsl l => rfl
  | sl id lo len es h1 h2 => rw [lenK_sl]; simp; omega
  | hr id n ns _ h1 h2 h3 => rw [lenK_hr, h2]
theorem view_hr' {H : Hp} {rid n : Nat} {ns : Bool} {es : List V} (h : H[rid]? = some (.row ns es)) (hn : n = es.length) (he : es ≠ []) : viewV H (.hr rid n) = .rsl es := by
  subst hn
  have : es.length ≠ 0 := by simpa using he
  simp only [viewV, h, rowV]
  rw [if_neg (by simp [this]), List.take_length]
structure RdAt (H : Hp) (x : V) (sz i : Nat) (e : V) : Prop where
  at_ : ∀ st, slAt sz H (viewV H (sealV st x)) (i : Int) = some (.v (atV H x i 0))
  cells : ∀ st o, slotCells st H (.v (atV H x i o)) = some (e.cells, o)
  fa : ∀ P t f o, fieldAddrOp P t (.v (atV H x i o)) f = (fieldT P t f).bind fun q => some (.v (atV H x i (o + q.1)))
  nc : ∀ o, nilCheckOp (.v (atV H x i o)) = some (.v (atV H x i o))
  aa : ∀ o n, arrAt (.v (atV H x i o)) n = some (.v (atV H x i (o + n)))
theorem Rd.at_ {H : Hp} {x : V} {l : List V} (h : Rd H x l) {sz i : Nat} {e : V} (hi : l[i]? = some e) (hw : e.width = sz) : RdAt H x sz i e := by
  have rslCase : ∀ (row : List V), viewV H x = .rsl row → row[i]? = some e → RdAt H x sz i e := fun row hv hi => by
    have ha : ∀ o, atV H x i o = .ept e o := fun o => by simp [atV, hv, List.getD_eq_getElem?_getD, hi]
    refine ⟨fun st => ?_, fun st o => ?_, fun P t f o => ?_, fun o => ?_, fun o n => ?_⟩
    · rw [h.shutIn st, hv, slAt_rsl]; simp [hi, hw, ha]
    · rw [ha, sc_ept]
    · rw [ha, fa_ept]; congr 1; funext q; rw [ha]
    · rw [ha, nc_ept]
    · rw [ha, arrAt_ept, ha]
  cases h with
  | nils => simp at hi
  | rsl l => exact rslCase l rfl hi
  | hr id n ns _ h1 h2 h3 => exact rslCase l (view_hr' h1 h2 h3) hi
  | sl id lo len es h1 h2 =>
    rw [List.getElem?_take] at hi
    split at hi
    · rename_i hlt
      rw [List.getElem?_drop] at hi
      have ha : ∀ o, atV H (.sl id lo len) i o = .ptr id (lo + i) o := fun o => rfl
      refine ⟨fun st => ?_, fun st o => ?_, fun P t f o => ?_, fun o => ?_, fun o n => ?_⟩
      · show slAt sz H (.sl id lo len) _ = _
        rw [slAt_sl, if_pos ⟨by omega, by omega⟩, h1, slIn_some]
        simp [hi, hw, ha]
      · rw [ha, sc_ptr, h1, ptrCells_some, hi]; rfl
      · rw [ha, fa_ptr]; rfl
      · rw [ha, nc_ptr]
      · rw [ha, arrAt_ptr]; rfl
    · cases hi
theorem Rd.more {H H' : Hp} {x : V} {l : List V} (h : Rd H x l) (hH : ∀ (id : Nat) (b : Blk), H[id]? = some b → b ≠ .dead → H'[id]? = some b) : Rd H' x l := by
  cases h with
  | nils => exact .nils
  | rsl l => exact .rsl l
  | sl id lo len es h1 h2 => exact .sl id lo len es (hH _ _ h1 (by simp)) h2
  | hr id n ns _ h1 h2 h3 => exact .hr id n ns l (hH _ _ h1 (by simp)) h2 h3
theorem Rd.app {H : Hp} {x : V} {l : List V} (h : Rd H x l) (e : Hp) : Rd (H ++ e) x l := h.more fun id b hb _ => by
  rw [List.getElem?_append_left ((List.getElem?_eq_some_iff.1 hb).1)]; exact hb
theorem Rd.src {H : Hp} {x : V} {l : List V} (h : Rd H x l) {P : Program} {tx e : TypeId} (ht : ixT P tx = .sl e) : srcV P H tx x = some l := by
  cases h with
  | nils => simp [srcV, ht, viewV]
  | rsl l => simp [srcV, ht, viewV]
  | sl id lo len es h1 h2 => simp [srcV, ht, viewV, slCont, h1, h2]
  | hr id n ns _ h1 h2 h3 => simp [srcV, ht, view_hr' h1 h2 h3]
theorem Rd.srcSl {H : Hp} {x : V} {l : List V} (h : Rd H x l) : Abs.srcSl H x = some l := by
  cases h with
  | nils => rfl
  | rsl l => rfl
  | sl id lo len es h1 h2 => simp [Abs.srcSl, slCont, h1, h2]
  | hr id n ns _ h1 h2 h3 => simp [Abs.srcSl, view_hr' h1 h2 h3]
theorem Rd.cont {H : Hp} {x : V} {l : List V} (h : Rd H x l) : contV H x = some l := by
  cases h with
  | nils => simp [contV, viewV]
  | rsl l => simp [contV, viewV]
  | sl id lo len es h1 h2 => simp [contV, viewV, slCont, h1, h2]
  | hr id n ns _ h1 h2 h3 => simp [contV, view_hr' h1 h2 h3]
end Go.Abs
