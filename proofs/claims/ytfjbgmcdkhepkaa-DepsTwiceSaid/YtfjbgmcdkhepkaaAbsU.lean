import Derived.Test.YtfjbgmcdkhepkaaAbsT
import Derived.WalkSpells
namespace Go.Abs
set_option linter.unusedVariables false
set_option linter.unusedSimpArgs false
open Go.RowKit
theorem tk_bool {P : Program} {t : TypeId} (h : tk P t = .bool) : P.underlying t = some .bool := by
  unfold tk at h; split at h <;> first | assumption | cases h
theorem tk_int {P : Program} {t : TypeId} {k : IntKind} (h : tk P t = .int k) : P.underlying t = some (.int k) := by
  unfold tk at h; split at h <;> first | (cases h; assumption) | cases h
theorem tk_str {P : Program} {t : TypeId} (h : tk P t = .str) : P.underlying t = some .string := by
  unfold tk at h; split at h <;> first | assumption | cases h
theorem tk_ptr {P : Program} {t : TypeId} (h : tk P t = .ptr) : ∃ e, P.underlying t = some (.pointer e) := by
  unfold tk at h; split at h <;> first | exact ⟨_, by assumption⟩ | cases h
theorem tk_slice {P : Program} {t e : TypeId} (h : tk P t = .slice e) : P.underlying t = some (.slice e) := by
  unfold tk at h; split at h <;> first | (cases h; assumption) | cases h
theorem ixT_sl {P : Program} {t e : TypeId} (h : ixT P t = .sl e) : P.underlying t = some (.slice e) ∧ P.cellsOf e ≠ 0 := by
  unfold ixT at h; split at h <;> (try split at h) <;> first | (cases h; exact ⟨by assumption, by assumption⟩) | cases h
theorem ixT_arr {P : Program} {t e : TypeId} {n : Nat} (h : ixT P t = .arr n e) : P.underlying t = some (.array n e) ∧ P.cellsOf e ≠ 0 := by
  unfold ixT at h; split at h <;> (try split at h) <;> first | (cases h; exact ⟨by assumption, by assumption⟩) | cases h
theorem ixT_str {P : Program} {t : TypeId} (h : ixT P t = .str) : P.underlying t = some .string := by
  unfold ixT at h; split at h <;> (try split at h) <;> first | assumption | cases h
theorem ixT_map {P : Program} {t k e : TypeId} (h : ixT P t = .map k e) : P.underlying t = some (.map k e) := by
  unfold ixT at h; split at h <;> (try split at h) <;> first | (cases h; assumption) | cases h
section
variable {G : Gh} {P : Program} {w : World}
theorem VR.int_inv {k : IntKind} {n : Int} {u : Value} (h : VR G (.int k n) u) : u = .int k n := by cases h; rfl
theorem VR.bool_inv {b : Bool} {u : Value} (h : VR G (.bool b) u) : u = .bool b := by cases h; rfl
theorem VR.str_inv {s : ByteArray} {u : Value} (h : VR G (.str s) u) : u = .string s := by cases h; rfl
theorem VR.nilp_inv {u : Value} (h : VR G .nilp u) : u = .pointer none := by cases h; rfl
theorem VR.nils_inv {u : Value} (h : VR G .nils u) : u = .slice none 0 0 := by cases h; rfl
/-- Comparison, arithmetic. -/
theorem binV_sound {op : BinOp} {t yt : TypeId} {X Y : Operand} {x y z : V} {u v : Value} (h : binV P op t x y = some z) (hx : AR G x u) (hy : AR G y v) :
    ∃ r, (do eqGuard op t X Y u v; binOp op t u v : Sem Value).run P w = .ok r w ∧ VR G z r := by
  unfold binV at h
  split at h
  · rename_i k a k' b
    obtain rfl := (hx (by simp)).int_inv
    obtain rfl := (hy (by simp)).int_inv
    split at h
    · split at h
      · cases h
      · cases h; rename_i hb; exact ⟨_, by first | (simp [eqGuard_shl, binOp_shl, Op.shift, hb]; done) | (simp [eqGuard_shl, binOp_shl, Op.shift, hb]; rfl), .int _ _⟩
    · split at h
      · cases h
      · cases h; rename_i hb; exact ⟨_, by first | (simp [eqGuard_shr, binOp_shr, Op.shift, hb]; done) | (simp [eqGuard_shr, binOp_shr, Op.shift, hb]; rfl), .int _ _⟩
    · split at h
      · rename_i hk
        subst hk
        split at h
        · cases h; exact ⟨_, by first | (simp [eqGuard_add, binOp_add, Op.intArith]; done) | (simp [eqGuard_add, binOp_add, Op.intArith]; rfl), .int _ _⟩
        · cases h; exact ⟨_, by first | (simp [eqGuard_sub, binOp_sub, Op.intArith]; done) | (simp [eqGuard_sub, binOp_sub, Op.intArith]; rfl), .int _ _⟩
        · cases h; exact ⟨_, by first | (simp [eqGuard_mul, binOp_mul, Op.intArith]; done) | (simp [eqGuard_mul, binOp_mul, Op.intArith]; rfl), .int _ _⟩
        · split at h
          · cases h
          · cases h; rename_i hb; exact ⟨_, by first | (simp [eqGuard_quo, binOp_quo, Op.intDiv, hb]; done) | (simp [eqGuard_quo, binOp_quo, Op.intDiv, hb]; rfl), .int _ _⟩
        · split at h
          · cases h
          · cases h; rename_i hb; exact ⟨_, by first | (simp [eqGuard_rem, binOp_rem, Op.intDiv, hb]; done) | (simp [eqGuard_rem, binOp_rem, Op.intDiv, hb]; rfl), .int _ _⟩
        · cases h; exact ⟨_, by first | (simp [eqGuard_and, binOp_and, Op.intBits]; done) | (simp [eqGuard_and, binOp_and, Op.intBits]; rfl), .int _ _⟩
        · cases h; exact ⟨_, by first | (simp [eqGuard_or, binOp_or, Op.intBits]; done) | (simp [eqGuard_or, binOp_or, Op.intBits]; rfl), .int _ _⟩
        · cases h; exact ⟨_, by first | (simp [eqGuard_xor, binOp_xor, Op.intBits]; done) | (simp [eqGuard_xor, binOp_xor, Op.intBits]; rfl), .int _ _⟩
        · cases h; exact ⟨_, by first | (simp [eqGuard_andNot, binOp_andNot, Op.intBits]; done) | (simp [eqGuard_andNot, binOp_andNot, Op.intBits]; rfl), .int _ _⟩
        · cases h; exact ⟨_, by first | (simp [eqGuard_at_int, binOp_eql]; done) | (simp [eqGuard_at_int, binOp_eql]; rfl), .bool _⟩
        · cases h; exact ⟨_, by first | (simp [eqGuard_at_int, binOp_neq]; done) | (simp [eqGuard_at_int, binOp_neq]; rfl), .bool _⟩
        · cases h; exact ⟨_, by first | (simp [eqGuard_lss, binOp_lss]; done) | (simp [eqGuard_lss, binOp_lss]; rfl), .bool _⟩
        · cases h; exact ⟨_, by first | (simp [eqGuard_leq, binOp_leq]; done) | (simp [eqGuard_leq, binOp_leq]; rfl), .bool _⟩
        · cases h; exact ⟨_, by first | (simp [eqGuard_gtr, binOp_gtr]; done) | (simp [eqGuard_gtr, binOp_gtr]; rfl), .bool _⟩
        · cases h; exact ⟨_, by first | (simp [eqGuard_geq, binOp_geq]; done) | (simp [eqGuard_geq, binOp_geq]; rfl), .bool _⟩
        · cases h
      · cases h
  · rename_i a b
    obtain rfl := (hx (by simp)).str_inv
    obtain rfl := (hy (by simp)).str_inv
    split at h
    · split at h
      · cases h
      · cases h; rename_i hb; exact ⟨_, by simp only [eqGuard_add, binOp, Op.stringOp]; rw [if_neg hb]; rfl, .str _⟩
    · cases h; exact ⟨_, by first | (simp [eqGuard_at_string, binOp, Op.stringOp]; done) | (simp [eqGuard_at_string, binOp, Op.stringOp]; rfl), .bool _⟩
    · cases h; exact ⟨_, by first | (simp [eqGuard_at_string, binOp, Op.stringOp]; done) | (simp [eqGuard_at_string, binOp, Op.stringOp]; rfl), .bool _⟩
    · cases h
  · split at h
    · rename_i hk
      have ht := tk_bool hk
      split at h
      · cases h
        obtain rfl := (hx (by simp)).bool_inv
        obtain rfl := (hy (by simp)).bool_inv
        exact ⟨_, by simp only [eqGuard_at_bool]; exact run_eql_bool w t _ _ ht, .bool _⟩
      · cases h
    · rename_i hk
      have ht := tk_bool hk
      split at h
      · cases h
        obtain rfl := (hx (by simp)).bool_inv
        obtain rfl := (hy (by simp)).bool_inv
        exact ⟨_, by simp only [eqGuard_at_bool]; exact run_neq_bool w t _ _ ht, .bool _⟩
      · cases h
    · rename_i hk
      obtain ⟨e, ht⟩ := tk_ptr hk
      have ht' : P.underlying t = some (.pointer (P.pointee t)) := by simp [Program.pointee, ht]
      split at h <;> (try cases h) <;> (obtain rfl := (hy (by simp)).nilp_inv; have hx' := hx (by simp); cases hx'; exact ⟨_, by simp only [eqGuard_at_pointer]; exact run_eql_pointer_nil w t _ ht', .bool _⟩)
    · rename_i hk
      obtain ⟨e, ht⟩ := tk_ptr hk
      have ht' : P.underlying t = some (.pointer (P.pointee t)) := by simp [Program.pointee, ht]
      split at h <;> (try cases h) <;> (obtain rfl := (hy (by simp)).nilp_inv; have hx' := hx (by simp); cases hx'; exact ⟨_, by simp only [eqGuard_at_pointer]; exact run_neq_pointer_nil w t _ ht', .bool _⟩)
    · rename_i hk
      have ht := tk_slice hk
      split at h <;> (try cases h) <;> (obtain rfl := (hy (by simp)).nils_inv; have hx' := hx (by simp); cases hx' <;> exact ⟨_, by simp only [eqGuard_at_slice]; exact Lib.run_eql_slice_nil w t _ _ _ _ 0 0 ht, .bool _⟩)
    · rename_i hk
      have ht := tk_slice hk
      split at h <;> (try cases h) <;> (obtain rfl := (hy (by simp)).nils_inv; have hx' := hx (by simp); cases hx' <;> exact ⟨_, by simp only [eqGuard_at_slice]; exact run_neq_slice_nil_any w t _ _ _ _ 0 0 ht, .bool _⟩)
    · cases h
end
section
variable {G0 : Gh} {W0 : World} {G : Gh} {L : Lg} {st : St} {H : Hp} {a : Act} {w : World} {P : Program} {o : Oper}
theorem run_indexAt_sl {t e : TypeId} {ad : Addr} {len cap : Nat} {k : IntKind} {i : Int} {sz : Nat} (ht : P.underlying t = some (.slice e)) (hz : (sizeOf e).run P w = .ok sz w) (h : 0 ≤ i ∧ i < len) :
    (Instr.indexAt t (.slice (some ad) len cap) (.int k i)).run P w = .ok (.pointer (some (ad.add (i.toNat * sz)))) w := by
  simp [Instr.indexAt, run_underlying ht, asIntOf, h, hz]
theorem run_indexAt_ar {t e : TypeId} {ad : Addr} {n : Nat} {k : IntKind} {i : Int} {sz : Nat} (ht : P.underlying t = some (.array n e)) (hz : (sizeOf e).run P w = .ok sz w) (h : 0 ≤ i ∧ i < n) :
    (Instr.indexAt t (.pointer (some ad)) (.int k i)).run P w = .ok (.pointer (some (ad.add (i.toNat * sz)))) w := by
  simp [Instr.indexAt, run_underlying ht, asIntOf, h, hz, Instr.sureAddr]
end
end Go.Abs
