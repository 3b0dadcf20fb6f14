/- A part of the proofs over this seat. -/
import Derived.Test.YthicacphcljdmaaQAbsT
import Derived.WalkSpells
namespace Go.Abs
set_option linter.unusedVariables false
set_option linter.unusedSimpArgs false
open Go.RowKit
theorem tk_bool {P : Program} {t : TypeId} (h : tk P t = .bool) : P.underlying t = some .bool := by
  unfold tk at h; split at h <;> first | assumption | cases h
theorem tk_int {P : Program} {t : TypeId} {k : IntKind} (h : tk P t = .int k) : P.underlying t = some (.int k) := by
  unfold tk at h; split at h <;> first | (cases h; assumption) | cases h
theorem tk_str {P : Program} {t : TypeId} (h : tk P t = .str) : P.underlying t = some .string := by
  unfold tk at h; split at h <;> first | assumption | cases h
theorem tk_ptr {P : Program} {t : TypeId} (h : tk P t = .ptr) : ∃ e, P.underlying t = some (.pointer e) := by
  unfold tk at h; split at h <;> first | exact ⟨_, by assumption⟩ | cases h
theorem tk_slice {P : Program} {t e : TypeId} (h : tk P t = .slice e) : P.underlying t = some (.slice e) := by
  unfold tk at h; split at h <;> first | (cases h; assumption) | cases h
theorem tk_iface {P : Program} {t : TypeId} (h : tk P t = .iface) : ∃ ms, P.underlying t = some (.interface ms) := by
  unfold tk at h; split at h <;> first | exact ⟨_, by assumption⟩ | cases h
theorem tk_func {P : Program} {t : TypeId} (h : tk P t = .func) : ∃ p q r, P.underlying t = some (.func p q r) := by
  unfold tk at h; split at h <;> first | exact ⟨_, _, _, by assumption⟩ | cases h
theorem ixT_sl {P : Program} {t e : TypeId} (h : ixT P t = .sl e) : P.underlying t = some (.slice e) ∧ P.cellsOf e ≠ 0 := by
  unfold ixT at h; split at h <;> (try split at h) <;> first | (cases h; exact ⟨by assumption, by assumption⟩) | cases h
theorem ixT_arr {P : Program} {t e : TypeId} {n : Nat} (h : ixT P t = .arr n e) : P.underlying t = some (.array n e) ∧ P.cellsOf e ≠ 0 := by
  unfold ixT at h; split at h <;> (try split at h) <;> first | (cases h; exact ⟨by assumption, by assumption⟩) | cases h
theorem ixT_str {P : Program} {t : TypeId} (h : ixT P t = .str) : P.underlying t = some .string := by
  unfold ixT at h; split at h <;> (try split at h) <;> first | assumption | cases h
theorem ixT_map {P : Program} {t k e : TypeId} (h : ixT P t = .map k e) : P.underlying t = some (.map k e) := by
  unfold ixT at h; split at h <;> (try split at h) <;> first | (cases h; assumption) | cases h
section
variable {G : Gh} {P : Program} {w : World}
theorem VR.int_inv {k : IntKind} {n : Int} {u : Value} (h : VR G (.int k n) u) : u = .int k n := by cases h; rfl
theorem VR.bool_inv {b : Bool} {u : Value} (h : VR G (.bool b) u) : u = .bool b := by cases h; rfl
theorem VR.str_inv {s : ByteArray} {u : Value} (h : VR G (.str s) u) : u = .string s := by cases h; rfl
theorem VR.nilp_inv {u : Value} (h : VR G .nilp u) : u = .pointer none := by cases h; rfl
theorem VR.nils_inv {u : Value} (h : VR G .nils u) : u = .slice none 0 0 := by cases h; rfl
/-- Comparison, arithmetic. -/
theorem run_equalIn_ifc (d : Nat) (a : TypeId) (b : Value) {t : TypeId} {ms} (ht : P.underlying t = some (.interface ms)) : (Op.equalIn (d + 1) t (.iface a b) .nilIface).run P w = .ok false w := by
  simp [Op.equalIn, run_underlying ht]
theorem run_equalIn_fn (d : Nat) (f : Fn) (a b : Array Value) {t : TypeId} {p q r} (ht : P.underlying t = some (.func p q r)) : (Op.equalIn (d + 1) t (.func f a b) .nilFunc).run P w = .ok false w := by
  simp [Op.equalIn, run_underlying ht]
theorem run_equalIn_nf (d : Nat) {t : TypeId} {p q r} (ht : P.underlying t = some (.func p q r)) : (Op.equalIn (d + 1) t .nilFunc .nilFunc).run P w = .ok true w := by
  simp [Op.equalIn, run_underlying ht]
theorem eqGuard_ifc (op : BinOp) (t : TypeId) (X Y : Operand) (a : TypeId) (b : Value) : eqGuard op t X Y (.iface a b) .nilIface = pure () := by cases op <;> rfl
theorem eqGuard_fn (op : BinOp) (t : TypeId) (X Y : Operand) (f : Fn) (a b : Array Value) : eqGuard op t X Y (.func f a b) .nilFunc = pure () := by cases op <;> rfl
theorem eqGuard_nf (op : BinOp) (t : TypeId) (X Y : Operand) : eqGuard op t X Y .nilFunc .nilFunc = pure () := by cases op <;> rfl
theorem run_eql_of {t a : TypeId} {b : Value} {r : Bool} (h : (Op.equalIn (9999 + 1) t (.iface a b) .nilIface).run P w = .ok r w) : (do pure (); binOp .eql t (.iface a b) .nilIface : Sem Value).run P w = .ok (.bool r) w := by
  have e : binOp .eql t (.iface a b) .nilIface = (do pure (.bool (← Op.equal t (.iface a b) .nilIface))) := rfl
  have h' : (Op.equal t (.iface a b) .nilIface).run P w = .ok r w := h
  rw [e]; simp [h']
theorem run_neq_of {t a : TypeId} {b : Value} {r : Bool} (h : (Op.equalIn (9999 + 1) t (.iface a b) .nilIface).run P w = .ok r w) : (do pure (); binOp .neq t (.iface a b) .nilIface : Sem Value).run P w = .ok (.bool !r) w := by
  have e : binOp .neq t (.iface a b) .nilIface = (do pure (.bool (!(← Op.equal t (.iface a b) .nilIface)))) := rfl
  have h' : (Op.equal t (.iface a b) .nilIface).run P w = .ok r w := h
  rw [e]; simp [h']
theorem run_eql_ofF {t : TypeId} {f : Fn} {a b : Array Value} {r : Bool} (h : (Op.equalIn (9999 + 1) t (.func f a b) .nilFunc).run P w = .ok r w) : (do pure (); binOp .eql t (.func f a b) .nilFunc : Sem Value).run P w = .ok (.bool r) w := by
  have e : binOp .eql t (.func f a b) .nilFunc = (do pure (.bool (← Op.equal t (.func f a b) .nilFunc))) := rfl
  have h' : (Op.equal t (.func f a b) .nilFunc).run P w = .ok r w := h
  rw [e]; simp [h']
theorem run_neq_ofF {t : TypeId} {f : Fn} {a b : Array Value} {r : Bool} (h : (Op.equalIn (9999 + 1) t (.func f a b) .nilFunc).run P w = .ok r w) : (do pure (); binOp .neq t (.func f a b) .nilFunc : Sem Value).run P w = .ok (.bool !r) w := by
  have e : binOp .neq t (.func f a b) .nilFunc = (do pure (.bool (!(← Op.equal t (.func f a b) .nilFunc)))) := rfl
  have h' : (Op.equal t (.func f a b) .nilFunc).run P w = .ok r w := h
  rw [e]; simp [h']
theorem run_eql_ofN {t : TypeId} {r : Bool} (h : (Op.equalIn (9999 + 1) t .nilFunc .nilFunc).run P w = .ok r w) : (do pure (); binOp .eql t .nilFunc .nilFunc : Sem Value).run P w = .ok (.bool r) w := by
  have e : binOp .eql t .nilFunc .nilFunc = (do pure (.bool (← Op.equal t .nilFunc .nilFunc))) := rfl
  have h' : (Op.equal t .nilFunc .nilFunc).run P w = .ok r w := h
  rw [e]; simp [h']
theorem run_neq_ofN {t : TypeId} {r : Bool} (h : (Op.equalIn (9999 + 1) t .nilFunc .nilFunc).run P w = .ok r w) : (do pure (); binOp .neq t .nilFunc .nilFunc : Sem Value).run P w = .ok (.bool !r) w := by
  have e : binOp .neq t .nilFunc .nilFunc = (do pure (.bool (!(← Op.equal t .nilFunc .nilFunc)))) := rfl
  have h' : (Op.equal t .nilFunc .nilFunc).run P w = .ok r w := h
  rw [e]; simp [h']
theorem part_extract {ft : TypeId} {us : Array Value} {off sz fo : Nat} {x : Value} (h1 : fo < sz) (h2 : fo + sizeT P ft ≤ sz) (h : (part ft us (off + fo)).run P w = .ok x w) : (part ft (us.extract off (off + sz)) fo).run P w = .ok x w := by
  cases hu : P.underlying ft with
  | none =>
    exfalso
    simp [part, isAgg, underlying, hu, Result.andThen] at h
  | some d =>
    have hsz := run_sizeOf (w := w) hu
    have hcell : (us.extract off (off + sz))[fo]? = us[off + fo]? ∨ us[off + fo]? = none := by
      rw [Array.getElem?_extract]
      split
      · exact .inl rfl
      · rename_i hh
        refine .inr (Array.getElem?_eq_none ?_)
        omega
    have hext : (us.extract off (off + sz)).extract fo (fo + sizeT P ft) = us.extract (off + fo) (off + fo + sizeT P ft) := by
      rw [Array.extract_extract]
      congr 1
      omega
    have one : ((match us[off + fo]? with | some v => pure v | none => stuck "part: no such cell" : Sem Value).run P w = .ok x w) → ((match (us.extract off (off + sz))[fo]? with | some v => pure v | none => stuck "part: no such cell" : Sem Value).run P w = .ok x w) := fun h => by
      rcases hcell with hc | hc
      · rw [hc]; exact h
      · rw [hc] at h; cases h
    cases d <;> simp only [part, isAgg, Sem.run_bind, run_underlying hu, Result.andThen_ok, Sem.run_pure, hsz, hext, Bool.false_eq_true, if_false, if_true] at h ⊢ <;> first | exact h | exact one h
theorem eqCells_append {cs ds : List V} : ∀ {l m : List (Nat × LK)} {b : Bool}, eqCells cs ds (l ++ m) = some b → ∃ x y, eqCells cs ds l = some x ∧ eqCells cs ds m = some y ∧ b = (x && y)
  | [], m, b, h => ⟨true, b, rfl, h, by simp⟩
  | (o, k) :: l, m, b, h => by
    simp only [List.cons_append, eqCells] at h ⊢
    split at h
    · rename_i a c ha hc
      obtain ⟨x, h1, h2⟩ := Option.bind_eq_some_iff.1 h
      obtain ⟨y, h3, rfl⟩ := Option.map_eq_some_iff.1 h2
      obtain ⟨p, q, h4, h5, rfl⟩ := eqCells_append h3
      exact ⟨x && p, q, by simp [ha, hc, h1, h4], h5, by rw [Bool.and_assoc]⟩
    · cases h
theorem eqFields_sound {g : TypeId → Nat → Option (List (Nat × LK))} {sz off dd : Nat} {cs ds : List V} {us vs : Array Value}
    {xs ys : Array Value} (hxs : ∀ ft fo x, fo < sz → fo + sizeT P ft ≤ sz → (part ft us (off + fo)).run P w = .ok x w → (part ft xs fo).run P w = .ok x w)
    (hys : ∀ ft fo x, fo < sz → fo + sizeT P ft ≤ sz → (part ft vs (off + fo)).run P w = .ok x w → (part ft ys fo).run P w = .ok x w)
    (hg : ∀ {t o ls b}, g t o = some ls → eqCells cs ds ls = some b → ∃ x y, (part t us o).run P w = .ok x w ∧ (part t vs o).run P w = .ok y w ∧ (Op.equalIn dd t x y).run P w = .ok b w) :
    ∀ (fs : List Field) {ls : List (Nat × LK)} {b : Bool}, eqLeavesF P g sz off fs = some ls → eqCells cs ds ls = some b → (Op.eqFields dd xs ys fs).run P w = .ok b w
  | [], ls, b, h, hb => by cases h; cases hb; simp [Op.eqFields]
  | f :: fs, ls, b, h, hb => by
    simp only [eqLeavesF] at h
    split at h
    · cases h
    · rename_i hc
      simp only [not_or, Nat.not_le, Nat.not_lt] at hc
      obtain ⟨c1, c2, c3⟩ := hc
      obtain ⟨l1, h1, h2⟩ := Option.bind_eq_some_iff.1 h
      obtain ⟨l2, h3, rfl⟩ := Option.map_eq_some_iff.1 h2
      obtain ⟨p, q, e1, e2, rfl⟩ := eqCells_append hb
      obtain ⟨x, y, p1, p2, p3⟩ := hg h1 e1
      have ih := eqFields_sound hxs hys hg fs h3 e2
      simp only [Op.eqFields, c1, ne_eq, not_false_eq_true, if_true, Sem.run_bind, hxs _ _ _ c2 c3 p1, hys _ _ _ c2 c3 p2, p3, Result.andThen_ok]
      cases p
      · simp
      · simpa using ih
def LK.ok (P : Program) (t : TypeId) : LK → Prop
  | .b => P.underlying t = some .bool
  | .i => ∃ q, P.underlying t = some (.int q)
  | .s => P.underlying t = some .string
theorem eqLf_run {k : LK} {a b : V} {u v : Value} {r : Bool} (h : eqLf k a b = some r) (ha : AR G a u) (hb : AR G b v) {t : TypeId} {dd : Nat} (ht : LK.ok P t k) :
    (Op.equalIn (dd + 1) t u v).run P w = .ok r w := by
  unfold eqLf at h
  split at h
  · split at h
    · rename_i hk; subst hk; cases h
      obtain rfl := (ha (by simp)).int_inv
      obtain rfl := (hb (by simp)).int_inv
      obtain ⟨q, hq⟩ := ht
      exact run_equalIn_int w dd t _ q _ _ hq
    · cases h
  · cases h
    obtain rfl := (ha (by simp)).bool_inv
    obtain rfl := (hb (by simp)).bool_inv
    exact run_equalIn_bool' w dd t _ _ ht
  · cases h
    obtain rfl := (ha (by simp)).str_inv
    obtain rfl := (hb (by simp)).str_inv
    rw [beq_toListBytes]; exact run_equalIn_string w dd t _ _ ht
  · cases h
theorem eqLeaf_sound {t : TypeId} {off : Nat} {k : LK} {cs ds : List V} {us vs : Array Value} {b : Bool} {dd : Nat} (hc : CellsR G cs us.toList) (hd : CellsR G ds vs.toList) (h : eqCells cs ds [(off, k)] = some b)
    (ht : LK.ok P t k) :
    ∃ x y, (part t us off).run P w = .ok x w ∧ (part t vs off).run P w = .ok y w ∧ (Op.equalIn (dd + 1) t x y).run P w = .ok b w := by
  simp only [eqCells] at h
  split at h
  · rename_i x y hx hy
    obtain ⟨r, h1, h2⟩ := Option.bind_eq_some_iff.1 h
    simp at h2
    subst h2
    obtain ⟨u, u1, _, u2⟩ := hc.get hx
    obtain ⟨v, v1, _, v2⟩ := hd.get hy
    have hp : ∀ {zs : Array Value} {z : Value}, zs[off]? = some z → (part t zs off).run P w = .ok z w := fun {zs z} hz => by
      have : (isAgg t).run P w = .ok false w := by
        cases k with
        | b => simp [isAgg, run_underlying ht]
        | i => obtain ⟨q, hq⟩ := ht; simp [isAgg, run_underlying hq]
        | s => simp [isAgg, run_underlying ht]
      simp [part, this, hz]
    exact ⟨u, v, hp (by simpa using u1), hp (by simpa using v1), eqLf_run h1 u2 v2 ht⟩
  · cases h
theorem eqLeaves_sound {cs ds : List V} {us vs : Array Value} (hc : CellsR G cs us.toList) (hd : CellsR G ds vs.toList) : ∀ (d : Nat) {t off : Nat} {ls : List (Nat × LK)} {b : Bool}, eqLeaves P d t off = some ls → eqCells cs ds ls = some b → ∀ k,
    ∃ x y, (part t us off).run P w = .ok x w ∧ (part t vs off).run P w = .ok y w ∧ (Op.equalIn (k + d) t x y).run P w = .ok b w
  | 0, t, off, ls, b, h, hb, k => by cases h
  | d + 1, t, off, ls, b, h, hb, k => by
    simp only [eqLeaves] at h
    split at h
    · rename_i hu; cases h; exact eqLeaf_sound (dd := k + d) hc hd hb hu
    · rename_i q hu; cases h; exact eqLeaf_sound (dd := k + d) hc hd hb ⟨q, hu⟩
    · rename_i hu; cases h; exact eqLeaf_sound (dd := k + d) hc hd hb hu
    · rename_i fs hu
      split at h
      · cases h
      · rename_i hs
        have hsz := run_sizeOf (w := w) hu
        have hf : P.fieldsOf t = fs := by simp [Program.fieldsOf, hu]
        have hp : ∀ zs : Array Value, (part t zs off).run P w = .ok (.agg (zs.extract off (off + sizeT P t))) w := fun zs => by simp [part, isAgg, run_underlying hu, hsz]
        refine ⟨_, _, hp us, hp vs, ?_⟩
        rw [show k + (d + 1) = (k + d) + 1 from rfl, run_equalIn_struct w (k + d) t _ _ (by rw [hf]; exact hu) (by simpa using hs), hf]
        exact eqFields_sound (fun _ _ _ => part_extract) (fun _ _ _ => part_extract) (fun {t o ls b} h1 h2 => eqLeaves_sound hc hd d h1 h2 k) _ h hb
    · cases h
theorem eqLay_sound {t : TypeId} {cs ds : List V} {u v : Value} {ls : List (Nat × LK)} {b : Bool} (h : eqLay P t = some ls) (hb : eqCells cs ds ls = some b) (hu : VR G (.agg cs) u) (hv : VR G (.agg ds) v) :
    ∃ us vs, u = .agg us ∧ v = .agg vs ∧ (Op.equalIn 10000 t u v).run P w = .ok b w ∧ P.eqGuardType P.depth t = false := by
  unfold eqLay at h
  split at h
  · rename_i fs hun
    split at h
    · cases h
    · rename_i hg
      obtain ⟨us, rfl, hc⟩ := hu.agg_inv
      obtain ⟨vs, rfl, hd⟩ := hv.agg_inv
      refine ⟨us, vs, rfl, rfl, ?_, by simpa using hg⟩
      simp only [eqLeaves, hun] at h
      split at h
      · cases h
      · rename_i hs
        have hf : P.fieldsOf t = fs := by simp [Program.fieldsOf, hun]
        rw [show (10000 : Nat) = 9999 + 1 from rfl, run_equalIn_struct w 9999 t _ _ (by rw [hf]; exact hun) (by simpa using hs), hf]
        exact eqFields_sound (off := 0) (us := us) (vs := vs) (fun _ _ _ _ _ h => by rwa [Nat.zero_add] at h) (fun _ _ _ _ _ h => by rwa [Nat.zero_add] at h) (fun {t o ls b} h1 h2 => by
          have := eqLeaves_sound (P := P) (w := w) hc hd 8 h1 h2 9991
          exact this) _ h hb
  · cases h
theorem binV_sound {op : BinOp} {t yt : TypeId} {X Y : Operand} {x y z : V} {u v : Value} (h : binV P op t x y = some z) (hx : AR G x u) (hy : AR G y v) :
    ∃ r, (do eqGuard op t X Y u v; binOp op t u v : Sem Value).run P w = .ok r w ∧ VR G z r := by
  unfold binV at h
  split at h
  · rename_i k a k' b
    obtain rfl := (hx (by simp)).int_inv
    obtain rfl := (hy (by simp)).int_inv
    split at h
    · split at h
      · cases h
      · cases h; rename_i hb; exact ⟨_, by first | (simp [eqGuard_shl, binOp_shl, Op.shift, hb]; done) | (simp [eqGuard_shl, binOp_shl, Op.shift, hb]; rfl), .int _ _⟩
    · split at h
      · cases h
      · cases h; rename_i hb; exact ⟨_, by first | (simp [eqGuard_shr, binOp_shr, Op.shift, hb]; done) | (simp [eqGuard_shr, binOp_shr, Op.shift, hb]; rfl), .int _ _⟩
    · split at h
      · rename_i hk
        subst hk
        split at h
        · cases h; exact ⟨_, by first | (simp [eqGuard_add, binOp_add, Op.intArith]; done) | (simp [eqGuard_add, binOp_add, Op.intArith]; rfl), .int _ _⟩
        · cases h; exact ⟨_, by first | (simp [eqGuard_sub, binOp_sub, Op.intArith]; done) | (simp [eqGuard_sub, binOp_sub, Op.intArith]; rfl), .int _ _⟩
        · cases h; exact ⟨_, by first | (simp [eqGuard_mul, binOp_mul, Op.intArith]; done) | (simp [eqGuard_mul, binOp_mul, Op.intArith]; rfl), .int _ _⟩
        · split at h
          · cases h
          · cases h; rename_i hb; exact ⟨_, by first | (simp [eqGuard_quo, binOp_quo, Op.intDiv, hb]; done) | (simp [eqGuard_quo, binOp_quo, Op.intDiv, hb]; rfl), .int _ _⟩
        · split at h
          · cases h
          · cases h; rename_i hb; exact ⟨_, by first | (simp [eqGuard_rem, binOp_rem, Op.intDiv, hb]; done) | (simp [eqGuard_rem, binOp_rem, Op.intDiv, hb]; rfl), .int _ _⟩
        · cases h; exact ⟨_, by first | (simp [eqGuard_and, binOp_and, Op.intBits]; done) | (simp [eqGuard_and, binOp_and, Op.intBits]; rfl), .int _ _⟩
        · cases h; exact ⟨_, by first | (simp [eqGuard_or, binOp_or, Op.intBits]; done) | (simp [eqGuard_or, binOp_or, Op.intBits]; rfl), .int _ _⟩
        · cases h; exact ⟨_, by first | (simp [eqGuard_xor, binOp_xor, Op.intBits]; done) | (simp [eqGuard_xor, binOp_xor, Op.intBits]; rfl), .int _ _⟩
        · cases h; exact ⟨_, by first | (simp [eqGuard_andNot, binOp_andNot, Op.intBits]; done) | (simp [eqGuard_andNot, binOp_andNot, Op.intBits]; rfl), .int _ _⟩
        · cases h; exact ⟨_, by first | (simp [eqGuard_at_int, binOp_eql]; done) | (simp [eqGuard_at_int, binOp_eql]; rfl), .bool _⟩
        · cases h; exact ⟨_, by first | (simp [eqGuard_at_int, binOp_neq]; done) | (simp [eqGuard_at_int, binOp_neq]; rfl), .bool _⟩
        · cases h; exact ⟨_, by first | (simp [eqGuard_lss, binOp_lss]; done) | (simp [eqGuard_lss, binOp_lss]; rfl), .bool _⟩
        · cases h; exact ⟨_, by first | (simp [eqGuard_leq, binOp_leq]; done) | (simp [eqGuard_leq, binOp_leq]; rfl), .bool _⟩
        · cases h; exact ⟨_, by first | (simp [eqGuard_gtr, binOp_gtr]; done) | (simp [eqGuard_gtr, binOp_gtr]; rfl), .bool _⟩
        · cases h; exact ⟨_, by first | (simp [eqGuard_geq, binOp_geq]; done) | (simp [eqGuard_geq, binOp_geq]; rfl), .bool _⟩
        · cases h
      · cases h
  · rename_i a b
    obtain rfl := (hx (by simp)).str_inv
    obtain rfl := (hy (by simp)).str_inv
    split at h
    · split at h
      · cases h
      · cases h; rename_i hb; exact ⟨_, by simp only [eqGuard_add, binOp, Op.stringOp]; rw [if_neg hb]; rfl, .str _⟩
    · cases h; exact ⟨_, by first | (simp [eqGuard_at_string, binOp, Op.stringOp]; done) | (simp [eqGuard_at_string, binOp, Op.stringOp]; rfl), .bool _⟩
    · cases h; exact ⟨_, by first | (simp [eqGuard_at_string, binOp, Op.stringOp]; done) | (simp [eqGuard_at_string, binOp, Op.stringOp]; rfl), .bool _⟩
    · cases h; exact ⟨_, by first | (simp [eqGuard_at_string, binOp, Op.stringOp]; done) | (simp [eqGuard_at_string, binOp, Op.stringOp]; rfl), .bool _⟩
    · cases h; exact ⟨_, by first | (simp [eqGuard_at_string, binOp, Op.stringOp]; done) | (simp [eqGuard_at_string, binOp, Op.stringOp]; rfl), .bool _⟩
    · cases h; exact ⟨_, by first | (simp [eqGuard_at_string, binOp, Op.stringOp]; done) | (simp [eqGuard_at_string, binOp, Op.stringOp]; rfl), .bool _⟩
    · cases h; exact ⟨_, by first | (simp [eqGuard_at_string, binOp, Op.stringOp]; done) | (simp [eqGuard_at_string, binOp, Op.stringOp]; rfl), .bool _⟩
    · cases h
  · rename_i cs ds
    split at h
    · obtain ⟨ls, h1, h2⟩ := Option.bind_eq_some_iff.1 h
      obtain ⟨b, h3, rfl⟩ := Option.map_eq_some_iff.1 h2
      obtain ⟨us, vs, rfl, rfl, h4, h5⟩ := eqLay_sound (w := w) h1 h3 (hx (by simp)) (hy (by simp))
      exact ⟨.bool b, by simp only [Sem.run_bind, run_eqGuard_agg w .eql t X Y us vs h5, Result.andThen_ok, run_eql_struct, h4], .bool _⟩
    · obtain ⟨ls, h1, h2⟩ := Option.bind_eq_some_iff.1 h
      obtain ⟨b, h3, rfl⟩ := Option.map_eq_some_iff.1 h2
      obtain ⟨us, vs, rfl, rfl, h4, h5⟩ := eqLay_sound (w := w) h1 h3 (hx (by simp)) (hy (by simp))
      exact ⟨.bool !b, by simp only [Sem.run_bind, run_eqGuard_agg w .neq t X Y us vs h5, Result.andThen_ok, run_neq_struct, h4], .bool _⟩
    · cases h
  · split at h
    · rename_i hk
      have ht := tk_bool hk
      split at h
      · cases h
        obtain rfl := (hx (by simp)).bool_inv
        obtain rfl := (hy (by simp)).bool_inv
        exact ⟨_, by simp only [eqGuard_at_bool]; exact run_eql_bool w t _ _ ht, .bool _⟩
      · cases h
    · rename_i hk
      have ht := tk_bool hk
      split at h
      · cases h
        obtain rfl := (hx (by simp)).bool_inv
        obtain rfl := (hy (by simp)).bool_inv
        exact ⟨_, by simp only [eqGuard_at_bool]; exact run_neq_bool w t _ _ ht, .bool _⟩
      · cases h
    · rename_i hk
      obtain ⟨e, ht⟩ := tk_ptr hk
      have ht' : P.underlying t = some (.pointer (P.pointee t)) := by simp [Program.pointee, ht]
      split at h <;> (try cases h) <;> (obtain rfl := (hy (by simp)).nilp_inv; have hx' := hx (by simp); cases hx'; exact ⟨_, by simp only [eqGuard_at_pointer]; exact run_eql_pointer_nil w t _ ht', .bool _⟩)
    · rename_i hk
      obtain ⟨e, ht⟩ := tk_ptr hk
      have ht' : P.underlying t = some (.pointer (P.pointee t)) := by simp [Program.pointee, ht]
      split at h <;> (try cases h) <;> (obtain rfl := (hy (by simp)).nilp_inv; have hx' := hx (by simp); cases hx'; exact ⟨_, by simp only [eqGuard_at_pointer]; exact run_neq_pointer_nil w t _ ht', .bool _⟩)
    · rename_i hk
      have ht := tk_slice hk
      split at h <;> (try cases h) <;> (obtain rfl := (hy (by simp)).nils_inv; have hx' := hx (by simp); cases hx' <;> exact ⟨_, by simp only [eqGuard_at_slice]; exact Lib.run_eql_slice_nil w t _ _ _ _ 0 0 ht, .bool _⟩)
    · rename_i hk
      have ht := tk_slice hk
      split at h <;> (try cases h) <;> (obtain rfl := (hy (by simp)).nils_inv; have hx' := hx (by simp); cases hx' <;> exact ⟨_, by simp only [eqGuard_at_slice]; exact run_neq_slice_nil_any w t _ _ _ _ 0 0 ht, .bool _⟩)
    · rename_i hk
      obtain ⟨ms, ht⟩ := tk_iface hk
      split at h <;> (try cases h)
      have hx' := hx (by simp)
      have hy' := hy (by simp)
      cases hx'; cases hy'
      have e1 := run_equalIn_ifc (w := w) 9999 ‹_› ‹_› ht
      exact ⟨.bool false, by simp only [eqGuard_ifc]; exact run_eql_of e1, .bool _⟩
    · rename_i hk
      obtain ⟨ms, ht⟩ := tk_iface hk
      split at h <;> (try cases h)
      have hx' := hx (by simp)
      have hy' := hy (by simp)
      cases hx'; cases hy'
      have e1 := run_equalIn_ifc (w := w) 9999 ‹_› ‹_› ht
      exact ⟨.bool true, by simp only [eqGuard_ifc]; exact run_neq_of e1, .bool _⟩
    · rename_i hk
      obtain ⟨p, q, r, ht⟩ := tk_func hk
      split at h <;> (try cases h)
      · have hx' := hx (by simp)
        have hy' := hy (by simp)
        cases hx'; cases hy'
        exact ⟨.bool false, by simp only [eqGuard_fn]; exact run_eql_ofF (run_equalIn_fn (w := w) 9999 _ _ _ ht), .bool _⟩
      · have hx' := hx (by simp)
        have hy' := hy (by simp)
        cases hx'; cases hy'
        exact ⟨.bool true, by simp only [eqGuard_nf]; exact run_eql_ofN (run_equalIn_nf (w := w) 9999 ht), .bool _⟩
    · rename_i hk
      obtain ⟨p, q, r, ht⟩ := tk_func hk
      split at h <;> (try cases h)
      · have hx' := hx (by simp)
        have hy' := hy (by simp)
        cases hx'; cases hy'
        exact ⟨.bool true, by simp only [eqGuard_fn]; exact run_neq_ofF (run_equalIn_fn (w := w) 9999 _ _ _ ht), .bool _⟩
      · have hx' := hx (by simp)
        have hy' := hy (by simp)
        cases hx'; cases hy'
        exact ⟨.bool false, by simp only [eqGuard_nf]; exact run_neq_ofN (run_equalIn_nf (w := w) 9999 ht), .bool _⟩
    · cases h
end
section
variable {G0 : Gh} {W0 : World} {G : Gh} {L : Lg} {st : St} {H : Hp} {a : Act} {w : World} {P : Program} {o : Oper}
theorem run_indexAt_sl {t e : TypeId} {ad : Addr} {len cap : Nat} {k : IntKind} {i : Int} {sz : Nat} (ht : P.underlying t = some (.slice e)) (hz : (sizeOf e).run P w = .ok sz w) (h : 0 ≤ i ∧ i < len) :
    (Instr.indexAt t (.slice (some ad) len cap) (.int k i)).run P w = .ok (.pointer (some (ad.add (i.toNat * sz)))) w := by
  simp [Instr.indexAt, run_underlying ht, asIntOf, h, hz]
theorem run_indexAt_ar {t e : TypeId} {ad : Addr} {n : Nat} {k : IntKind} {i : Int} {sz : Nat} (ht : P.underlying t = some (.array n e)) (hz : (sizeOf e).run P w = .ok sz w) (h : 0 ≤ i ∧ i < n) :
    (Instr.indexAt t (.pointer (some ad)) (.int k i)).run P w = .ok (.pointer (some (ad.add (i.toNat * sz)))) w := by
  simp [Instr.indexAt, run_underlying ht, asIntOf, h, hz, Instr.sureAddr]
end
end Go.Abs
