/- A part of the proofs over this seat. -/
import Derived.Test.YthicacphcljdmaaQAbsDt
namespace Go.Abs
set_option linter.unusedVariables false
set_option linter.unusedSimpArgs false
/-! ### What must hold ahead of code, that it hold behind -/
abbrev Post := Ex → St → Hp → Prop
def wpR (r : R) (Q : Post) : Prop := match r with | some x => Q x.1 x.2.1 x.2.2 | none => False
def wpX {α : Type} (x : Option α) (k : α → Prop) : Prop := match x with | some x => k x | none => False
theorem wpX_some {α : Type} (x : α) (k : α → Prop) : wpX (some x) k = k x := rfl
theorem wpX_none {α : Type} (k : α → Prop) : wpX none k = False := rfl
theorem wpX_map {α β : Type} (x : Option α) (f : α → β) (k : β → Prop) : wpX (x.map f) k = wpX x (fun x => k (f x)) := by cases x <;> rfl
theorem wpX_bind {α β : Type} (x : Option α) (f : α → Option β) (k : β → Prop) : wpX (x.bind f) k = wpX x (fun x => wpX (f x) k) := by cases x <;> rfl
theorem wpX_ite {α : Type} (c : Prop) [Decidable c] (x : Option α) (k : α → Prop) : wpX (if c then x else none) k = (c ∧ wpX x k) := by
  by_cases h : c <;> simp [h, wpX]
/-- how a piece of code goes on -/
def thenN (k : St → Hp → Prop) (Q : Post) : Post := fun ex st H => match ex with | .normal => k st H | ex => Q ex st H
def wpC (E : Env) (c : Code) (st : St) (H : Hp) (Q : Post) : Prop := wpR (evCode E c st H) Q
def wpO (E : Env) (ops : List Oper) (l : List Oper) (st : St) (H : Hp) (Q : Post) : Prop := wpR (evOps E ops l st H) Q
/-- how code goes on: names that stay shut until they are reached -/
def kSeq (E : Env) (b : Code) (Q : Post) : Post := thenN (fun st H => wpC E b st H Q) Q
theorem kSeq_normal (E : Env) (b : Code) (Q : Post) (st : St) (H : Hp) : kSeq E b Q .normal st H = wpC E b st H Q := rfl
theorem kSeq_exit (E : Env) (b : Code) (Q : Post) (i : Nat) (st : St) (H : Hp) : kSeq E b Q (.exit i) st H = Q (.exit i) st H := rfl
theorem kSeq_ret (E : Env) (b : Code) (Q : Post) (st : St) (H : Hp) : kSeq E b Q .ret st H = Q .ret st H := rfl
theorem kSeq_panic (E : Env) (b : Code) (Q : Post) (v : V) (st : St) (H : Hp) : kSeq E b Q (.panic v) st H = Q (.panic v) st H := rfl
def cStep (b : Bool) (E : Env) (x y : Code) (st : St) (H : Hp) (Q : Post) : Prop := match b with | true => wpC E x st H Q | false => wpC E y st H Q
theorem cStep_t (E : Env) (x y : Code) (st : St) (H : Hp) (Q : Post) : cStep true E x y st H Q = wpC E x st H Q := rfl
theorem cStep_f (E : Env) (x y : Code) (st : St) (H : Hp) (Q : Post) : cStep false E x y st H Q = wpC E y st H Q := rfl
theorem cStep_of {b : Bool} {E : Env} {x y : Code} {st : St} {H : Hp} {Q : Post} (h1 : b = true → wpC E x st H Q) (h2 : b = false → wpC E y st H Q) : cStep b E x y st H Q := by
  cases b
  · exact h2 rfl
  · exact h1 rfl
def kCond (E : Env) (x y : Code) (st : St) (H : Hp) (Q : Post) : V → Prop
  | .bool b => cStep b E x y st H Q
  | _ => False
theorem kCond_bool (E : Env) (x y : Code) (st : St) (H : Hp) (Q : Post) (b : Bool) : kCond E x y st H Q (.bool b) = cStep b E x y st H Q := rfl
def gStep (b want : Bool) (E : Env) (ops : List Oper) (d : Option Tmp) (op : Op) (ty : TypeId) (pos : String) (aft : Array Edge) (rest : List Oper) (st : St) (H : Hp) (Q : Post) : Prop :=
  match b == want with
  | true => wpO E ops (⟨d, op, ty, pos, aft, none⟩ :: rest) st H Q
  | false => wpO E ops rest (putS st d (.v (.tup []))) H Q
section
variable (E : Env) (ops : List Oper) (d : Option Tmp) (op : Op) (ty : TypeId) (pos : String) (aft : Array Edge) (rest : List Oper) (st : St) (H : Hp) (Q : Post)
theorem gStep_tt : gStep true true E ops d op ty pos aft rest st H Q = wpO E ops (⟨d, op, ty, pos, aft, none⟩ :: rest) st H Q := rfl
theorem gStep_ff : gStep false false E ops d op ty pos aft rest st H Q = wpO E ops (⟨d, op, ty, pos, aft, none⟩ :: rest) st H Q := rfl
theorem gStep_tf : gStep true false E ops d op ty pos aft rest st H Q = wpO E ops rest (putS st d (.v (.tup []))) H Q := rfl
theorem gStep_ft : gStep false true E ops d op ty pos aft rest st H Q = wpO E ops rest (putS st d (.v (.tup []))) H Q := rfl
def kG (want : Bool) : Slot → Prop
  | .v (.bool b) => gStep b want E ops d op ty pos aft rest st H Q
  | .v (.tup []) => wpO E ops rest (putS st d (.v (.tup []))) H Q
  | _ => False
theorem kG_bool (want b : Bool) : kG E ops d op ty pos aft rest st H Q want (.v (.bool b)) = gStep b want E ops d op ty pos aft rest st H Q := rfl
theorem kG_skip (want : Bool) : kG E ops d op ty pos aft rest st H Q want (.v (.tup [])) = wpO E ops rest (putS st d (.v (.tup []))) H Q := rfl
def kG0 (want : Bool) : Option Tmp → Prop
  | some g => kG E ops d op ty pos aft rest st H Q want (st.s.getD g (.v .undef))
  | none => False
theorem kG0_some (want : Bool) (g : Tmp) : kG0 E ops d op ty pos aft rest st H Q want (some g) = kG E ops d op ty pos aft rest st H Q want (st.s.getD g (.v .undef)) := rfl
def kS (x : Slot) : Prop := wpO E ops rest (putS st d x) H Q
theorem kS_eq (x : Slot) : kS E ops d rest st H Q x = wpO E ops rest (putS st d x) H Q := rfl
def kV (x : V) : Prop := wpO E ops rest (putS st d (.v x)) H Q
theorem kV_eq (x : V) : kV E ops d rest st H Q x = wpO E ops rest (putS st d (.v x)) H Q := rfl
def kSt (st : St) : Prop := wpO E ops rest st H Q
theorem kSt_eq (st : St) : kSt E ops rest H Q st = wpO E ops rest st H Q := rfl
def kH (H : Hp) : Prop := wpO E ops rest st H Q
theorem kH_eq (H : Hp) : kH E ops rest st Q H = wpO E ops rest st H Q := rfl
def kSH (q : St × Hp) : Prop := wpO E ops rest q.1 q.2 Q
theorem kSH_eq (st : St) (H : Hp) : kSH E ops rest Q (st, H) = wpO E ops rest st H Q := rfl
def kOp (st : St) (H : Hp) : Prop := wpO E ops rest st H Q
theorem kOp_eq (st : St) (H : Hp) : kOp E ops rest Q st H = wpO E ops rest st H Q := rfl
def kPick (a b : Operand) : V → Prop
  | .bool v => wpO E ops rest (putS st d (pickV v (rdS st a) (rdS st b))) H Q
  | _ => False
theorem kPick_bool (a b : Operand) (v : Bool) : kPick E ops d rest st H Q a b (.bool v) = wpO E ops rest (putS st d (pickV v (rdS st a) (rdS st b))) H Q := rfl
def kNot : V → Prop
  | .bool v => wpO E ops rest (putS st d (.v (.bool !v))) H Q
  | _ => False
theorem kNot_bool (v : Bool) : kNot E ops d rest st H Q (.bool v) = wpO E ops rest (putS st d (.v (.bool !v))) H Q := rfl
def kNeg : V → Prop
  | .int k n => wpO E ops rest (putS st d (.v (.int k (k.wrap (0 - n))))) H Q
  | _ => False
theorem kNeg_int (k : IntKind) (n : Int) : kNeg E ops d rest st H Q (.int k n) = wpO E ops rest (putS st d (.v (.int k (k.wrap (0 - n))))) H Q := rfl
def kSeal (v : V) : Prop := wpO E ops rest (putS st d (.v (sealH (modeD E d) v H).1)) (sealH (modeD E d) v H).2 Q
theorem kSeal_eq (v : V) : kSeal E ops d rest st H Q v = wpO E ops rest (putS st d (.v (sealH (modeD E d) v H).1)) (sealH (modeD E d) v H).2 Q := rfl
def kTup (i : Nat) : V → Prop
  | .tup vs => wpX vs[i]? (kSeal E ops d rest st H Q)
  | _ => False
theorem kTup_tup (i : Nat) (vs : List V) : kTup E ops d rest st H Q i (.tup vs) = wpX vs[i]? (kSeal E ops d rest st H Q) := rfl
def kMode (s : Nat) (x : V) : Mode → Prop
  | .priv => wpO E ops rest { putS st (some s) (.box st.b.length) with b := st.b ++ [x.cells] } H Q
  | .imm => wpO E ops rest (putS st (some s) (.v (.ept x 0))) H Q
  | .heap => wpO E ops rest (putS st (some s) (.v (.ptr H.length 0 0))) (H ++ [.cells [x]]) Q
theorem kMode_priv (s : Nat) (x : V) (sl : List Slot) (b : List (List V)) (r : List LRow) : kMode E ops rest ⟨sl, b, r⟩ H Q s x .priv = wpO E ops rest ⟨sl.set s (.box b.length), b ++ [x.cells], r⟩ H Q := rfl
theorem kMode_imm (s : Nat) (x : V) : kMode E ops rest st H Q s x .imm = wpO E ops rest (putS st (some s) (.v (.ept x 0))) H Q := rfl
theorem kMode_heap (s : Nat) (x : V) : kMode E ops rest st H Q s x .heap = wpO E ops rest (putS st (some s) (.v (.ptr H.length 0 0))) (H ++ [.cells [x]]) Q := rfl
def kRowM (es : List V) : Mode → Prop
  | .heap => wpO E ops rest (putS st d (.v (.sl H.length 0 es.length))) (H ++ [.cells es]) Q
  | .priv => wpO E ops rest (frow st d false es) H Q
  | .imm => wpO E ops rest (putS st d (.v (immV es))) H Q
theorem kRowM_heap (es : List V) : kRowM E ops d rest st H Q es .heap = wpO E ops rest (putS st d (.v (.sl H.length 0 es.length))) (H ++ [.cells es]) Q := rfl
theorem kRowM_priv (es : List V) : kRowM E ops d rest st H Q es .priv = wpO E ops rest (frow st d false es) H Q := rfl
theorem kRowM_imm (es : List V) : kRowM E ops d rest st H Q es .imm = wpO E ops rest (putS st d (.v (immV es))) H Q := rfl
def kRow (es : List V) : Prop := kRowM E ops d rest st H Q es (modeD E d)
theorem kRow_eq (es : List V) : kRow E ops d rest st H Q es = kRowM E ops d rest st H Q es (modeD E d) := rfl
def kBS (len : Nat) (parts : List (Nat × V)) : IxT → Prop
  | .sl e => wpX (buildSliceV E.P e len parts) (kRow E ops d rest st H Q)
  | _ => False
theorem kBS_sl (len : Nat) (parts : List (Nat × V)) (e : TypeId) : kBS E ops d rest st H Q len parts (.sl e) = wpX (buildSliceV E.P e len parts) (kRow E ops d rest st H Q) := rfl
def kAp2 (e : TypeId) (x : V) (xs : List V) : Prop := wpX (appendOp E.P (modeD E d) st H d e x xs) (kSH E ops rest Q)
theorem kAp2_eq (e : TypeId) (x : V) (xs : List V) : kAp2 E ops d rest st H Q e x xs = wpX (appendOp E.P (modeD E d) st H d e x xs) (kSH E ops rest Q) := rfl
def kAp (tx : TypeId) (x y : V) : IxT → Prop
  | .sl e => wpX (srcV E.P H tx y) (kAp2 E ops d rest st H Q e x)
  | _ => False
theorem kAp_sl (tx : TypeId) (x y : V) (e : TypeId) : kAp E ops d rest st H Q tx x y (.sl e) = wpX (srcV E.P H tx y) (kAp2 E ops d rest st H Q e x) := rfl
end
theorem wpR_bindN (r : R) (k : St → Hp → R) (Q : Post) : wpR (match r with | some (.normal, st, H) => k st H | r => r) Q = wpR r (thenN (fun st H => wpR (k st H) Q) Q) := by
  cases r with
  | none => rfl
  | some x =>
    obtain ⟨ex, st, H⟩ := x
    cases ex <;> rfl
section
variable {E : Env} {ops rest : List Oper} {st : St} {H : Hp} {Q : Post}
theorem wC_skip : wpC E .skip st H Q = Q .normal st H := rfl
theorem wC_label (l : Nat) : wpC E (.label l) st H Q = Q .normal st H := rfl
theorem wC_seq (a b : Code) : wpC E (.seq a b) st H Q = wpC E a st H (kSeq E b Q) := by
  unfold wpC; simp only [evCode]; exact wpR_bindN _ _ _
theorem wC_region (id : Nat) (ops : Array Oper) : wpC E (.region id ops false) st H Q = wpO E ops.toList ops.toList st H Q := rfl
theorem wC_exit (i : Nat) : wpC E (.exit i) st H Q = Q (.exit i) st H := rfl
theorem wC_ret : wpC E .ret st H Q = Q .ret st H := rfl
theorem wC_block (id : Nat) (c : Code) : wpC E (.block id c) st H Q = wpC E c st H (fun ex st H => match ex with | .exit i => if i = id then Q .normal st H else Q (.exit i) st H | ex => Q ex st H) := by
  unfold wpC; simp only [evCode]
  cases evCode E c st H with
  | none => rfl
  | some x =>
    obtain ⟨ex, st', H'⟩ := x
    cases ex with
    | exit i => by_cases h : i = id <;> simp [h, wpR]
    | _ => rfl
/-- how a scope goes on: by a goto, behind the label -/
def scQ2 (Q : Post) : Post := fun ex st H => match ex with | .goto _ => False | ex => Q ex st H
theorem scQ2_normal (Q : Post) (st : St) (H : Hp) : scQ2 Q .normal st H = Q .normal st H := rfl
theorem scQ2_ret (Q : Post) (st : St) (H : Hp) : scQ2 Q .ret st H = Q .ret st H := rfl
theorem scQ2_exit (Q : Post) (i : Nat) (st : St) (H : Hp) : scQ2 Q (.exit i) st H = Q (.exit i) st H := rfl
theorem scQ2_panic (Q : Post) (v : V) (st : St) (H : Hp) : scQ2 Q (.panic v) st H = Q (.panic v) st H := rfl
def kLab (E : Env) (st : St) (H : Hp) (Q : Post) : Option Code → Prop
  | some rest => wpC E rest st H (scQ2 Q)
  | none => False
theorem kLab_some (E : Env) (st : St) (H : Hp) (Q : Post) (rest : Code) : kLab E st H Q (some rest) = wpC E rest st H (scQ2 Q) := rfl
def scQ (E : Env) (c : Code) (Q : Post) : Post := fun ex st H => match ex with | .goto l => kLab E st H Q (findLabel c l) | ex => Q ex st H
theorem scQ_goto (E : Env) (c : Code) (Q : Post) (l : Nat) (st : St) (H : Hp) : scQ E c Q (.goto l) st H = kLab E st H Q (findLabel c l) := rfl
theorem scQ_normal (E : Env) (c : Code) (Q : Post) (st : St) (H : Hp) : scQ E c Q .normal st H = Q .normal st H := rfl
theorem scQ_ret (E : Env) (c : Code) (Q : Post) (st : St) (H : Hp) : scQ E c Q .ret st H = Q .ret st H := rfl
theorem scQ_exit (E : Env) (c : Code) (Q : Post) (i : Nat) (st : St) (H : Hp) : scQ E c Q (.exit i) st H = Q (.exit i) st H := rfl
theorem scQ_panic (E : Env) (c : Code) (Q : Post) (v : V) (st : St) (H : Hp) : scQ E c Q (.panic v) st H = Q (.panic v) st H := rfl
theorem wC_scope (c : Code) : wpC E (.scope c) st H Q = wpC E c st H (scQ E c Q) := by
  unfold wpC
  rw [evCode_scope]
  cases evCode E c st H with
  | none => rfl
  | some x =>
    obtain ⟨ex, st', H'⟩ := x
    cases ex with
    | goto l =>
      simp only [wpR, scQ, kLab]
      cases findLabel c l with
      | none => rfl
      | some rest =>
        simp only [Option.map_some, gotoK, wpC]
        cases evCode E rest st' H' with
        | none => rfl
        | some y => obtain ⟨e2, st2, H2⟩ := y; cases e2 <;> rfl
    | _ => rfl
theorem wC_goto (l : Nat) : wpC E (.goto l) st H Q = Q (.goto l) st H := rfl
theorem kSeq_goto (E : Env) (b : Code) (Q : Post) (l : Nat) (st : St) (H : Hp) : kSeq E b Q (.goto l) st H = Q (.goto l) st H := rfl
theorem wC_cond (c : Operand) (x y : Code) : wpC E (.cond c x y) st H Q = kCond E x y st H Q (rd st c) := by
  unfold wpC; simp only [evCode]
  cases rd st c with
  | bool b => cases b <;> rfl
  | _ => rfl
theorem wpR_loop {f : St → Hp → R} {nm : St → St} (I : Nat → St → Hp → Prop)
    (hs : ∀ n st H, I n st H → wpR (f st H) (thenN (fun st H => ∃ m, m < n ∧ I m (nm st) H) Q)) : ∀ (n : Nat) (st : St) (H : Hp), I n (nm st) H → wpR (loopW f nm st H) Q := by
  intro n
  induction n using Nat.strongRecOn with
  | ind n ih =>
    intro st H h
    have h1 := hs n _ _ h
    rw [loopW_eq]
    cases hr : f (nm st) H with
    | none => rw [hr] at h1; exact h1.elim
    | some x =>
      rw [hr] at h1
      obtain ⟨ex, st', H'⟩ := x
      cases ex with
      | normal =>
        obtain ⟨m, h2, h3⟩ := h1
        exact ih m h2 st' H' h3
      | _ => exact h1
def kLp (nm : St → St) (I : Nat → St → Hp → Prop) (n : Nat) (Q : Post) : Post := thenN (fun st H => ∃ m, m < n ∧ I m (nm st) H) Q
theorem kLp_normal (nm : St → St) (I : Nat → St → Hp → Prop) (n : Nat) (st : St) (H : Hp) : kLp nm I n Q .normal st H = ∃ m, m < n ∧ I m (nm st) H := rfl
theorem kLp_exit (nm : St → St) (I : Nat → St → Hp → Prop) (n i : Nat) (st : St) (H : Hp) : kLp nm I n Q (.exit i) st H = Q (.exit i) st H := rfl
theorem kLp_goto (nm : St → St) (I : Nat → St → Hp → Prop) (n l : Nat) (st : St) (H : Hp) : kLp nm I n Q (.goto l) st H = Q (.goto l) st H := rfl
theorem kLp_ret (nm : St → St) (I : Nat → St → Hp → Prop) (n : Nat) (st : St) (H : Hp) : kLp nm I n Q .ret st H = Q .ret st H := rfl
theorem kLp_panic (nm : St → St) (I : Nat → St → Hp → Prop) (n : Nat) (v : V) (st : St) (H : Hp) : kLp nm I n Q (.panic v) st H = Q (.panic v) st H := rfl
theorem wC_loop (c : Code) (I : Nat → St → Hp → Prop) (n : Nat) (h0 : I n (norm (E.kill (firstReg c)) (growAll (E.grow (firstReg c)) st).b.length (growAll (E.grow (firstReg c)) st).r.length (growAll (E.grow (firstReg c)) st)) H)
    (hs : ∀ n st' H, I n st' H → wpC E c st' H (kLp (norm (E.kill (firstReg c)) (growAll (E.grow (firstReg c)) st).b.length (growAll (E.grow (firstReg c)) st).r.length) I n Q)) : wpC E (.loop c) st H Q := by
  unfold wpC; simp only [evCode]
  exact wpR_loop I hs n _ H h0
theorem wC_draw (alts : List (Nat × Nat × Nat)) (id : Nat) (ops : Array Oper) (hok : drawOk E.mode alts ops.toList = true)
    (h : wpX (drawRun E ops.toList ops.toList st H [st.b] [(st.r, H)]) (fun q => (∀ p ∈ alts, chk1 E ops.toList q.1.s q.2.2.1 q.2.2.2 p) ∧ Q .normal q.1 q.2.1)) : wpC E (.region id ops true) st H Q := by
  unfold wpC; simp only [evCode]
  cases hr : drawRun E ops.toList ops.toList st H [st.b] [(st.r, H)] with
  | none => rw [hr] at h; exact h.elim
  | some q =>
    obtain ⟨st', H', bs, hs⟩ := q
    rw [hr] at h
    obtain ⟨h1, h2⟩ := h
    unfold evDraw
    have hsame := fun t => sched_same hok hr h1 t
    have htext : evOps E ops.toList ops.toList st H = some (.normal, st', H') := by
      have : ∀ (l : List Oper) {st : St} {H : Hp} {bs : Vb} {hs : Vh} {q}, drawRun E ops.toList l st H bs hs = some q → evOps E ops.toList l st H = some (.normal, q.1, q.2.1) := by
        intro l
        induction l with
        | nil => intro st H bs hs q h; cases h; rfl
        | cons o l ih =>
          intro st H bs hs q h
          simp only [drawRun] at h
          rw [evOps_step]
          split at h
          · exact ih h
          · cases h
      exact this _ hr
    rw [if_pos]
    · rw [htext]; exact h2
    · intro t
      rw [htext]
      simpa using hsame t
/-! the operations of a region -/
theorem wO_nil : wpO E ops [] st H Q = Q .normal st H := rfl
theorem wO_cons (o : Oper) : wpO E ops (o :: rest) st H Q = wpR (stepO E ops o st H) (thenN (fun st H => wpO E ops rest st H Q) Q) := by
  unfold wpO; rw [evOps_step]; exact wpR_bindN _ _ _
variable {d : Option Tmp} {ty : TypeId} {pos : String} {aft : Array Edge}
theorem wO_guard (op : Op) (j : Nat) (want : Bool) : wpO E ops (⟨d, op, ty, pos, aft, some (j, want)⟩ :: rest) st H Q =
    kG0 E ops d op ty pos aft rest st H Q want ((ops[j]?).bind (·.dst)) := by
  rw [wO_cons]
  simp only [stepO, guardS]
  cases (ops[j]?).bind (·.dst) with
  | none => rfl
  | some g =>
    simp only [kG0_some]
    cases hs : st.s.getD g (.v .undef) with
    | v x =>
      cases x with
      | bool b =>
        simp only [kG_bool, gStep]
        cases h : (b == want)
        · simp [wpR, thenN]
        · rw [wO_cons]
          simp only [stepO, guardS]
          have hE : evOp E ⟨d, op, ty, pos, aft, some (j, want)⟩ st H = evOp E ⟨d, op, ty, pos, aft, none⟩ st H := by
            unfold evOp; cases op <;> first | rfl | (simp only []; done)
          rw [hE]
      | tup l => cases l with
        | nil => simp only [kG_skip]; rfl
        | cons _ _ => rfl
      | _ => rfl
    | _ => rfl
def ifcV (k : TK) (t : TypeId) (x : V) : Option V := match k with | .iface => none | .other => none | _ => some (.ifc t x)
def makeSliceV (P : Program) (H : Hp) : IxT → V → V → Option (V × Hp)
  | .sl e, .int .i64 n, .int .i64 m =>
      if n = m ∧ 0 ≤ n ∧ n ≤ 16777216 ∧ okV (zeroT P e) ∧ (zeroT P e).width = sizeT P e ∧ P.bytesOf e ≤ 4096 then
        some (.sl H.length 0 n.toNat, H ++ [.cells (List.replicate n.toNat (zeroT P e))])
      else none
  | _, _, _ => none
def opr (d : Option Tmp) (op : Op) (ty : TypeId) (pos : String) (aft : Array Edge) : Oper := ⟨d, op, ty, pos, aft, none⟩
theorem wO_none (op : Op) : wpO E ops (⟨d, op, ty, pos, aft, none⟩ :: rest) st H Q = wpR (evOp E ⟨d, op, ty, pos, aft, none⟩ st H) (thenN (fun st H => wpO E ops rest st H Q) Q) := by
  rw [wO_cons]; rfl
theorem wpR_resV (x : Option V) (k : St → Hp → Prop) : wpR (resV st d H x) (thenN k Q) = wpX x (fun x => k (putS st d (.v x)) H) := by cases x <;> rfl
theorem wpR_resS (x : Option Slot) (k : St → Hp → Prop) : wpR (resS st d H x) (thenN k Q) = wpX x (fun x => k (putS st d x) H) := by cases x <;> rfl
theorem wO_move (x : Operand) : wpO E ops (⟨d, .move x, ty, pos, aft, none⟩ :: rest) st H Q = wpO E ops rest (putS st d (rdS st x)) H Q := by rw [wO_none]; rfl
theorem wO_assign (x : Operand) : wpO E ops (⟨d, .assign x, ty, pos, aft, none⟩ :: rest) st H Q = wpO E ops rest (putS st d (rdS st x)) H Q := by rw [wO_none]; rfl
theorem wO_pick (c a b : Operand) : wpO E ops (⟨d, .pick c a b, ty, pos, aft, none⟩ :: rest) st H Q = kPick E ops d rest st H Q a b (rd st c) := by
  rw [wO_none]
  simp only [evOp]
  cases rd st c <;> rfl
theorem wO_load (t : TypeId) (a : Operand) : wpO E ops (⟨d, .load t a, ty, pos, aft, none⟩ :: rest) st H Q = wpX (loadOp E.P st H t (rdG E st a)) (kS E ops d rest st H Q) := by
  rw [wO_none]; exact wpR_resS _ _
theorem wO_nilCheck (x : Operand) : wpO E ops (⟨d, .nilCheck x, ty, pos, aft, none⟩ :: rest) st H Q = wpX (nilCheckOp (rdS st x)) (kS E ops d rest st H Q) := by
  rw [wO_none]; exact wpR_resS _ _
theorem wO_fieldAddr (t : TypeId) (x : Operand) (f : Nat) : wpO E ops (⟨d, .fieldAddr t x f, ty, pos, aft, none⟩ :: rest) st H Q = wpX (fieldAddrOp E.P t (rdG E st x) f) (kS E ops d rest st H Q) := by
  rw [wO_none]; exact wpR_resS _ _
theorem wO_indexAddr (t : TypeId) (x ix : Operand) : wpO E ops (⟨d, .indexAddr t x ix, ty, pos, aft, none⟩ :: rest) st H Q = wpX (indexAddrOp E.P st H t (rdG E st x) (rd st ix)) (kS E ops d rest st H Q) := by
  rw [wO_none]; exact wpR_resS _ _
theorem wO_field (t : TypeId) (x : Operand) (f : Nat) : wpO E ops (⟨d, .field t x f, ty, pos, aft, none⟩ :: rest) st H Q = wpX (fieldOp E.P t (rd st x) f) (kV E ops d rest st H Q) := by
  rw [wO_none]; exact wpR_resV _ _
theorem wO_index (t : TypeId) (x ix : Operand) : wpO E ops (⟨d, .index t x ix, ty, pos, aft, none⟩ :: rest) st H Q = wpX (indexOp E.P t (rd st x) (rd st ix)) (kV E ops d rest st H Q) := by
  rw [wO_none]; exact wpR_resV _ _
theorem wO_slice (t : TypeId) (x : Operand) (lo hi mx : Option Operand) : wpO E ops (⟨d, .slice t x lo hi mx, ty, pos, aft, none⟩ :: rest) st H Q = wpX (sliceOp E.P st H t (rdS st x).raw (lo.map (rd st)) (hi.map (rd st)) (mx.map (rd st))) (kV E ops d rest st H Q) := by
  rw [wO_none]; exact wpR_resV _ _
theorem wO_binOp (op : BinOp) (t t' : TypeId) (x y : Operand) : wpO E ops (⟨d, .binOp op t x y t', ty, pos, aft, none⟩ :: rest) st H Q = wpX (binV E.P op t (rd st x) (rd st y)) (kV E ops d rest st H Q) := by
  rw [wO_none]; exact wpR_resV _ _
theorem wO_not (t : TypeId) (x : Operand) : wpO E ops (⟨d, .unOp .not t x, ty, pos, aft, none⟩ :: rest) st H Q = kNot E ops d rest st H Q (rd st x) := by
  rw [wO_none]; simp only [evOp]
  cases rd st x <;> rfl
theorem wO_neg (t : TypeId) (x : Operand) : wpO E ops (⟨d, .unOp .neg t x, ty, pos, aft, none⟩ :: rest) st H Q = kNeg E ops d rest st H Q (rd st x) := by
  rw [wO_none]; simp only [evOp]
  cases rd st x <;> rfl
theorem wO_convert (s t : TypeId) (x : Operand) : wpO E ops (⟨d, .convert s t x, ty, pos, aft, none⟩ :: rest) st H Q = wpX (convertOp E.P (modeD E d) st H d s t (rd st x)) (kSH E ops rest Q) := by
  rw [wO_none]; simp only [evOp]
  cases convertOp E.P (modeD E d) st H d s t (rd st x) <;> rfl
theorem wO_build (t : TypeId) (parts : Array (Nat × Operand)) : wpO E ops (⟨d, .build t parts, ty, pos, aft, none⟩ :: rest) st H Q = wpX (buildOp E.P t (parts.toList.map fun p => (p.1, rd st p.2))) (kV E ops d rest st H Q) := by
  rw [wO_none]; exact wpR_resV _ _
theorem wO_extract (x : Operand) (i : Nat) : wpO E ops (⟨d, .extract x i, ty, pos, aft, none⟩ :: rest) st H Q = kTup E ops d rest st H Q i (rd st x) := by
  rw [wO_none]; simp only [evOp]
  cases rd st x with
  | tup vs => simp only [kTup_tup]; cases vs[i]? <;> rfl
  | _ => rfl
theorem wO_makeFunc (f : FuncId) (first cap : Array Operand) : wpO E ops (⟨d, .makeFunc (.func f) first cap, ty, pos, aft, none⟩ :: rest) st H Q = wpO E ops rest (putS st d (.v (.fn f (first.toList.map (rd st)) (cap.toList.map (rd st))))) H Q := by rw [wO_none]; rfl
theorem wO_makeInterface (t : TypeId) (x : Operand) : wpO E ops (⟨d, .makeInterface t x, ty, pos, aft, none⟩ :: rest) st H Q = wpX (ifcV (tk E.P t) t (rd st x)) (kV E ops d rest st H Q) := by rw [wO_none]; exact wpR_resV _ _
theorem wO_lookup (t : TypeId) (x ix : Operand) (ok : Bool) : wpO E ops (⟨d, .lookup t x ix ok, ty, pos, aft, none⟩ :: rest) st H Q = wpX (lookupOp E.P H t (rd st x) (rd st ix) ok) (kV E ops d rest st H Q) := by
  rw [wO_none]; exact wpR_resV _ _
theorem wO_makeMap (t : TypeId) : wpO E ops (⟨d, .makeMap t none, ty, pos, aft, none⟩ :: rest) st H Q = wpO E ops rest (putS st d (.v (.map H.length))) (H ++ [.map []]) Q := by rw [wO_none]; rfl
theorem wO_mapUpdate (t : TypeId) (m k x : Operand) : wpO E ops (⟨none, .mapUpdate t m k x, ty, pos, aft, none⟩ :: rest) st H Q = wpX (mapUpdateOp E.P H t (rd st m) (rd st k) (rd st x)) (kH E ops rest st Q) := by
  rw [wO_none]; simp only [evOp, noDst]
  cases mapUpdateOp E.P H t (rd st m) (rd st k) (rd st x) <;> rfl
theorem wO_store (t : TypeId) (a x : Operand) : wpO E ops (⟨none, .store t a x, ty, pos, aft, none⟩ :: rest) st H Q = wpX (storeOp E.P st H t (rdS st a) (rdS st x)) (kSH E ops rest Q) := by
  rw [wO_none]; simp only [evOp, noDst]
  cases storeOp E.P st H t (rdS st a) (rdS st x) <;> rfl
theorem wO_alloc (s : Nat) (t : TypeId) : wpO E ops (⟨some s, .alloc t, ty, pos, aft, none⟩ :: rest) st H Q = ((okV (zeroT E.P t) = true ∧ (zeroT E.P t).width = sizeT E.P t) ∧ kMode E ops rest st H Q s (zeroT E.P t) (E.mode s)) := by
  rw [wO_none]; simp only [evOp]
  by_cases h : okV (zeroT E.P t) = true ∧ (zeroT E.P t).width = sizeT E.P t
  · rw [if_pos h]; simp only [h, and_self, true_and, allocV]; cases E.mode s <;> rfl
  · rw [if_neg h]; simp [h, wpR]
theorem wO_box (s : Nat) (t : TypeId) (x : Operand) : wpO E ops (⟨some s, .box t x, ty, pos, aft, none⟩ :: rest) st H Q = ((okV (rd st x) = true ∧ (rd st x).width = sizeT E.P t) ∧ kMode E ops rest st H Q s (rd st x) (E.mode s)) := by
  rw [wO_none]; simp only [evOp]
  by_cases h : okV (rd st x) = true ∧ (rd st x).width = sizeT E.P t
  · rw [if_pos h]; simp only [h, and_self, true_and, allocV]; cases E.mode s <;> rfl
  · rw [if_neg h]; simp [h, wpR]
theorem wO_buildSlice (t : TypeId) (len : Nat) (parts : Array (Nat × Operand)) : wpO E ops (⟨d, .buildSlice t len parts, ty, pos, aft, none⟩ :: rest) st H Q = kBS E ops d rest st H Q len (parts.toList.map fun p => (p.1, rd st p.2)) (ixT E.P t) := by
  rw [wO_none]; simp only [evOp]
  cases ixT E.P t with
  | sl e => simp only [kBS_sl]; cases buildSliceV E.P e len (parts.toList.map fun p => (p.1, rd st p.2)) with
    | none => rfl
    | some es => simp only [wpX_some, kRow_eq]; cases modeD E d <;> rfl
  | _ => rfl
theorem wO_len (x : Operand) (t : TypeId) : wpO E ops (⟨d, .call ⟨.builtin .len, #[x], #[t]⟩, ty, pos, aft, none⟩ :: rest) st H Q = wpX (lenOp E.P H t (rd st x)) (kV E ops d rest st H Q) := by
  rw [wO_none]; simp only [evOp, callOp]
  cases lenOp E.P H t (rd st x) <;> rfl
theorem wO_append (s x : Operand) (t tx : TypeId) : wpO E ops (⟨d, .call ⟨.builtin .append, #[s, x], #[t, tx]⟩, ty, pos, aft, none⟩ :: rest) st H Q = kAp E ops d rest st H Q tx (rdS st s).raw (rd st x) (ixT E.P t) := by
  rw [wO_none]; simp only [evOp, callOp]
  cases ixT E.P t with
  | sl e =>
    simp only [kAp_sl]
    cases srcV E.P H tx (rd st x) with
    | none => rfl
    | some xs =>
      simp only [Option.bind_some, wpX_some, kAp2_eq]
      cases appendOp E.P (modeD E d) st H d e (rdS st s).raw xs <;> rfl
  | _ => rfl
theorem wO_min (x y : Operand) (ts : Array TypeId) : wpO E ops (⟨d, .call ⟨.builtin .min, #[x, y], ts⟩, ty, pos, aft, none⟩ :: rest) st H Q = wpX (minV (rd st x) (rd st y)) (kV E ops d rest st H Q) := by
  rw [wO_none]; simp only [evOp, callOp]
  cases minV (rd st x) (rd st y) <;> rfl
theorem wO_max (x y : Operand) (ts : Array TypeId) : wpO E ops (⟨d, .call ⟨.builtin .max, #[x, y], ts⟩, ty, pos, aft, none⟩ :: rest) st H Q = wpX (maxV (rd st x) (rd st y)) (kV E ops d rest st H Q) := by
  rw [wO_none]; simp only [evOp, callOp]
  cases maxV (rd st x) (rd st y) <;> rfl
theorem wO_clear (m : Operand) (t : TypeId) : wpO E ops (⟨d, .call ⟨.builtin .clear, #[m], #[t]⟩, ty, pos, aft, none⟩ :: rest) st H Q = wpX (clearOp E.P H t (rd st m)) (fun H => wpO E ops rest (putS st d (.v (.tup []))) H Q) := by
  rw [wO_none]; simp only [evOp, callOp]
  cases clearOp E.P H t (rd st m) <;> rfl
theorem wO_delete (m k : Operand) (t tk : TypeId) : wpO E ops (⟨d, .call ⟨.builtin .delete, #[m, k], #[t, tk]⟩, ty, pos, aft, none⟩ :: rest) st H Q = wpX (deleteOp E.P H t (rd st m) (rd st k)) (fun H => wpO E ops rest (putS st d (.v (.tup []))) H Q) := by
  rw [wO_none]; simp only [evOp, callOp]
  cases deleteOp E.P H t (rd st m) (rd st k) <;> rfl
def kPan (E : Env) (ops : List Oper) (d : Option Tmp) (rest : List Oper) (st : St) (H : Hp) (Q : Post) : V → Prop
  | .ifc t v => Q (.panic (.ifc t v)) st H
  | _ => False
theorem kPan_ifc (t : TypeId) (v : V) : kPan E ops d rest st H Q (.ifc t v) = Q (.panic (.ifc t v)) st H := rfl
theorem wO_panic (x : Operand) : wpO E ops (⟨d, .panic x, ty, pos, aft, none⟩ :: rest) st H Q = kPan E ops d rest st H Q (rd st x) := by
  rw [wO_none]; simp only [evOp]
  cases rd st x <;> rfl
/-- What a callee does: it answers, or it panics. -/
def wpCall (C : Callee) (f : FuncId) (args : List V) (H : Hp) (K : Out → Hp → Prop) : Prop := match C f args H with | some x => K x.1 x.2 | none => False
def afterK (m : Mode) (st : St) (d : Option Nat) (k : St → Hp → Prop) (Q : Post) : Out → Hp → Prop := fun out H => match out with
  | .ret v true => k (callOut st d v true) H
  | .ret v false => k (putS st d (.v (sealH m v H).1)) (sealH m v H).2
  | .panic v => Q (.panic v) st H
theorem wpR_after (m : Mode) (C : Callee) (f : FuncId) (args : List V) (k : St → Hp → Prop) : wpR (after m st d (C f args H)) (thenN k Q) = wpCall C f args H (afterK m st d k Q) := by
  unfold wpCall
  cases C f args H with
  | none => rfl
  | some x => obtain ⟨out, H'⟩ := x; cases out with
    | ret v g => cases g <;> rfl
    | panic v => rfl
theorem wpCall_of {C : Callee} {f : FuncId} {args : List V} {H : Hp} {K K' : Out → Hp → Prop} (h : wpCall C f args H K) (hk : ∀ out H', K out H' → K' out H') : wpCall C f args H K' := by
  unfold wpCall at h ⊢
  cases hc : C f args H with
  | none => rw [hc] at h; exact h.elim
  | some x => rw [hc] at h; exact hk _ _ h
def kCall (E : Env) (ops : List Oper) (d : Option Tmp) (rest : List Oper) (st : St) (H : Hp) (Q : Post) (args : List V) : V → Prop
  | .fn f first cap => callable E.P f = true ∧ wpCall E.C f (first ++ args ++ cap) H (afterK (modeD E d) st d (kOp E ops rest Q) Q)
  | _ => False
theorem kCall_fn (args : List V) (f : FuncId) (first cap : List V) : kCall E ops d rest st H Q args (.fn f first cap) = (callable E.P f = true ∧ wpCall E.C f (first ++ args ++ cap) H (afterK (modeD E d) st d (kOp E ops rest Q) Q)) := rfl
theorem wO_call (f : Operand) (args : Array Operand) (ts : Array TypeId) : wpO E ops (⟨d, .call ⟨.value f, args, ts⟩, ty, pos, aft, none⟩ :: rest) st H Q = kCall E ops d rest st H Q (args.toList.map (rd st)) (rd st f) := by
  rw [wO_none]; simp only [evOp, callOp]
  cases rd st f with
  | fn f first cap =>
    simp only [kCall_fn]
    by_cases h : callable E.P f = true
    · rw [if_pos h, wpR_after]; simp only [h, true_and]; rfl
    · rw [if_neg h]; simp [h, wpR]
  | _ => rfl
def kInv2 (E : Env) (ops : List Oper) (d : Option Tmp) (rest : List Oper) (st : St) (H : Hp) (Q : Post) (args : List V) (f : FuncId) : Prop := callable E.P f = true ∧ wpCall E.C f args H (afterK (modeD E d) st d (kOp E ops rest Q) Q)
theorem kInv2_eq (args : List V) (f : FuncId) : kInv2 E ops d rest st H Q args f = (callable E.P f = true ∧ wpCall E.C f args H (afterK (modeD E d) st d (kOp E ops rest Q) Q)) := rfl
def kInv (E : Env) (ops : List Oper) (d : Option Tmp) (rest : List Oper) (st : St) (H : Hp) (Q : Post) (name : String) (args : List V) : V → Prop
  | .ifc t v => wpX (methodT E.P t name) (kInv2 E ops d rest st H Q (v :: args))
  | _ => False
theorem kInv_ifc (name : String) (args : List V) (t : TypeId) (v : V) : kInv E ops d rest st H Q name args (.ifc t v) = wpX (methodT E.P t name) (kInv2 E ops d rest st H Q (v :: args)) := rfl
theorem wO_invoke (r : Operand) (name : String) (args : Array Operand) (ts : Array TypeId) : wpO E ops (⟨d, .call ⟨.invoke r name, args, ts⟩, ty, pos, aft, none⟩ :: rest) st H Q = kInv E ops d rest st H Q name (args.toList.map (rd st)) (rd st r) := by
  rw [wO_none]; simp only [evOp, callOp]
  cases rd st r with
  | ifc t v =>
    simp only [kInv_ifc]
    cases methodT E.P t name with
    | none => rfl
    | some f =>
      simp only [wpX_some, kInv2_eq]
      by_cases h : callable E.P f = true
      · rw [if_pos h, wpR_after]; simp only [h, true_and]; rfl
      · rw [if_neg h]; simp [h, wpR]
  | _ => rfl
def kVH (E : Env) (ops : List Oper) (d : Option Tmp) (rest : List Oper) (st : St) (Q : Post) (q : V × Hp) : Prop := wpO E ops rest (putS st d (.v q.1)) q.2 Q
theorem kVH_eq (x : V) (H : Hp) : kVH E ops d rest st Q (x, H) = wpO E ops rest (putS st d (.v x)) H Q := rfl
theorem wO_makeSlice (t : TypeId) (l c : Operand) : wpO E ops (⟨d, .makeSlice t l c, ty, pos, aft, none⟩ :: rest) st H Q = wpX (makeSliceV E.P H (ixT E.P t) (rd st l) (rd st c)) (kVH E ops d rest st Q) := by
  rw [wO_none]; simp only [evOp]
  unfold makeSliceV
  split
  · rename_i h1 h2 h3
    rw [h1, h2, h3]
    simp only
    split <;> rfl
  · rename_i hno
    split
    · rename_i h1 h2 h3; exact (hno _ _ _ h1 h2 h3).elim
    · rfl
end
/-- A function answers. -/
def outR (P : Program) (rs : List ResultVar) (st : St) (H : Hp) : Option Out :=
  (resAll P st H rs).map fun vs => match vs with | [v] => .ret v (resGrow st rs) | vs => .ret (.tup vs) false
def endQ (P : Program) (rs : List ResultVar) (K : Out → Hp → Prop) : Post := fun ex st H => match ex with
  | .normal => wpX (outR P rs st H) (fun out => K out H)
  | .ret => wpX (outR P rs st H) (fun out => K out H)
  | .panic v => K (.panic v) H
  | _ => False
theorem runs {P : Program} {A : Notes} {f : FuncId} {fn : Func} {c : Code} {rs : List ResultVar} {n : Nat} (hf : P.funcs[f]? = some fn) (hb : fn.body = some c) (hr : fn.results.toList = rs) (hn : fn.ntmps = n) (args : List V) (H : Hp) {K : Out → Hp → Prop}
    (h : wpC (envOf P A (evW P A) f) c ⟨args.map .v ++ List.replicate (n - args.length) (.v .undef), [], []⟩ H (endQ P rs K)) (hp : A.pure f = false := by rfl) : wpCall (evW P A) f args H K := by
  subst hr hn
  unfold wpCall
  rw [evW_eq P A hp hf hb]
  unfold wpC at h
  have hE : enterSt fn args = ⟨args.map .v ++ List.replicate (fn.ntmps - args.length) (.v .undef), [], []⟩ := rfl
  rw [hE]
  cases hc : evCode (envOf P A (evW P A) f) c ⟨args.map .v ++ List.replicate (fn.ntmps - args.length) (.v .undef), [], []⟩ H with
  | none => rw [hc] at h; exact h.elim
  | some x =>
    rw [hc] at h
    obtain ⟨ex, st, H'⟩ := x
    cases ex with
    | normal => simp only [wpR, endOf, endQ] at h ⊢; cases ho : outR P fn.results.toList st H' with
      | none => rw [ho] at h; exact h.elim
      | some out => rw [ho] at h; rw [show outOf P fn st H' = some out from ho]; exact h
    | ret => simp only [wpR, endOf, endQ] at h ⊢; cases ho : outR P fn.results.toList st H' with
      | none => rw [ho] at h; exact h.elim
      | some out => rw [ho] at h; rw [show outOf P fn st H' = some out from ho]; exact h
    | panic v => exact h
    | _ => exact h.elim
/-- The same, of a pure function. -/
theorem runsP {P : Program} {A : Notes} {f : FuncId} {fn : Func} {c : Code} {rs : List ResultVar} {n : Nat} (hf : P.funcs[f]? = some fn) (hb : fn.body = some c) (hr : fn.results.toList = rs) (hn : fn.ntmps = n) (args : List V) (ha : noHeapL args = true) (H : Hp) {K : Out → Hp → Prop}
    (h : wpC (envOf P A (evW P A) f) c ⟨args.map .v ++ List.replicate (n - args.length) (.v .undef), [], []⟩ [] (endQ P rs (fun out _ => noHeapO out = true ∧ K out H))) (hp : A.pure f = true := by rfl) : wpCall (evW P A) f args H K := by
  subst hr hn
  unfold wpCall
  rw [evW_pure P A hp hf hb args ha]
  unfold wpC at h
  have hE : enterSt fn args = ⟨args.map .v ++ List.replicate (fn.ntmps - args.length) (.v .undef), [], []⟩ := rfl
  rw [hE]
  cases hc : evCode (envOf P A (evW P A) f) c ⟨args.map .v ++ List.replicate (fn.ntmps - args.length) (.v .undef), [], []⟩ [] with
  | none => rw [hc] at h; exact h.elim
  | some x =>
    rw [hc] at h
    obtain ⟨ex, st, H'⟩ := x
    have key : wpX (outR P fn.results.toList st H') (fun out => noHeapO out = true ∧ K out H) → (match (match (outOf P fn st H').map (fun x => (x, H')) with | some (out, _) => (match noHeapO out with | true => some (out, H) | false => none : Option (Out × Hp)) | none => none) with | some x => K x.1 x.2 | none => False) := fun h => by
      cases ho : outR P fn.results.toList st H' with
      | none => rw [ho] at h; exact h.elim
      | some out =>
        rw [ho] at h
        rw [show outOf P fn st H' = some out from ho]
        obtain ⟨h1, h2⟩ := h
        simp only [Option.map_some, h1]
        exact h2
    cases ex with
    | normal => exact key h
    | ret => exact key h
    | panic v =>
      obtain ⟨h1, h2⟩ := h
      simp only [endOf]
      rw [h1]; exact h2
    | _ => exact h.elim
/-- What a pure function answers in an empty heap it answers in any. -/
theorem pure_any {P : Program} {A : Notes} {f : FuncId} {args : List V} {out : Out} {H0 : Hp} (hp : A.pure f = true) (ha : noHeapL args = true) (h : evW P A f args [] = some (out, H0)) (H : Hp) : evW P A f args H = some (out, H) := by
  rw [evW_fix] at h ⊢
  unfold evFun wrapC at h ⊢
  rw [hp, ha] at h ⊢
  simp only [Bool.and_self] at h ⊢
  split at h
  · rename_i out2 H2 hc
    split at h
    · rename_i hno; cases h; simp only [hno]
    · cases h
  · cases h
theorem endQ_normal (P : Program) (rs : List ResultVar) (K : Out → Hp → Prop) (st : St) (H : Hp) : endQ P rs K .normal st H = wpX (outR P rs st H) (fun out => K out H) := rfl
theorem endQ_ret (P : Program) (rs : List ResultVar) (K : Out → Hp → Prop) (st : St) (H : Hp) : endQ P rs K .ret st H = wpX (outR P rs st H) (fun out => K out H) := rfl
theorem endQ_panic (P : Program) (rs : List ResultVar) (K : Out → Hp → Prop) (v : V) (st : St) (H : Hp) : endQ P rs K (.panic v) st H = K (.panic v) H := rfl
def blkQ (id : Nat) (Q : Post) : Post := fun ex st H => match ex with | .exit i => if i = id then Q .normal st H else Q (.exit i) st H | ex => Q ex st H
theorem blkQ_exit (id i : Nat) (Q : Post) (st : St) (H : Hp) : blkQ id Q (.exit i) st H = if i = id then Q .normal st H else Q (.exit i) st H := rfl
theorem blkQ_goto (id l : Nat) (Q : Post) (st : St) (H : Hp) : blkQ id Q (.goto l) st H = Q (.goto l) st H := rfl
theorem blkQ_normal (id : Nat) (Q : Post) (st : St) (H : Hp) : blkQ id Q .normal st H = Q .normal st H := rfl
theorem blkQ_ret (id : Nat) (Q : Post) (st : St) (H : Hp) : blkQ id Q .ret st H = Q .ret st H := rfl
theorem blkQ_panic (id : Nat) (Q : Post) (v : V) (st : St) (H : Hp) : blkQ id Q (.panic v) st H = Q (.panic v) st H := rfl
theorem wC_blk {E : Env} {st : St} {H : Hp} {Q : Post} (id : Nat) (c : Code) : wpC E (.block id c) st H Q = wpC E c st H (blkQ id Q) := wC_block id c
def bodyOf (fn : Func) : Code := fn.body.getD .skip
theorem thenN_normal (k : St → Hp → Prop) (Q : Post) (st : St) (H : Hp) : thenN k Q .normal st H = k st H := rfl
theorem thenN_exit (k : St → Hp → Prop) (Q : Post) (i : Nat) (st : St) (H : Hp) : thenN k Q (.exit i) st H = Q (.exit i) st H := rfl
theorem thenN_ret (k : St → Hp → Prop) (Q : Post) (st : St) (H : Hp) : thenN k Q .ret st H = Q .ret st H := rfl
theorem thenN_panic (k : St → Hp → Prop) (Q : Post) (v : V) (st : St) (H : Hp) : thenN k Q (.panic v) st H = Q (.panic v) st H := rfl
theorem rd_tmp (s : List Slot) (b : List (List V)) (r : List LRow) (t : Nat) : rd ⟨s, b, r⟩ (.tmp t) = sealV ⟨s, b, r⟩ (s.getD t (.v .undef)).raw := rfl
theorem rdS_tmp (s : List Slot) (b : List (List V)) (r : List LRow) (t : Nat) : rdS ⟨s, b, r⟩ (.tmp t) = s.getD t (.v .undef) := rfl
theorem rdS_const (st : St) (v : Value) : rdS st (.const v) = .v (ofConst v) := rfl
theorem rdS_func (st : St) (f : FuncId) : rdS st (.func f) = .v (.fn f [] []) := rfl
theorem rd_func (st : St) (f : FuncId) : rd st (.func f) = .fn f [] [] := rfl
theorem rd_const (st : St) (v : Value) : rd st (.const v) = sealV st (ofConst v) := rfl
theorem raw_v (x : V) : Slot.raw (.v x) = x := rfl
theorem seal_int (st : St) (k : IntKind) (n : Int) : sealV st (.int k n) = .int k n := rfl
theorem seal_bool (st : St) (b : Bool) : sealV st (.bool b) = .bool b := rfl
theorem seal_str (st : St) (b : ByteArray) : sealV st (.str b) = .str b := rfl
theorem immV_nil : immV [] = .emp := rfl
theorem immV_cons (a : V) (l : List V) : immV (a :: l) = .rsl (a :: l) := rfl
theorem seal_emp (st : St) : sealV st .emp = .emp := rfl
theorem cells_emp : V.cells .emp = [.emp] := rfl
theorem okV_emp : okV .emp = true := rfl
theorem clip_emp (nb nr : Nat) : clip nb nr (.v .emp) = .v .emp := rfl
theorem seal_rsl (st : St) (r : List V) : sealV st (.rsl r) = .rsl r := rfl
theorem seal_nils (st : St) : sealV st .nils = .nils := rfl
theorem seal_nilp (st : St) : sealV st .nilp = .nilp := rfl
theorem seal_ptr (st : St) (a b c : Nat) : sealV st (.ptr a b c) = .ptr a b c := rfl
theorem seal_ept (st : St) (e : V) (c : Nat) : sealV st (.ept e c) = .ept e c := rfl
theorem seal_sl (st : St) (a b c : Nat) : sealV st (.sl a b c) = .sl a b c := rfl
theorem seal_hr (st : St) (a b : Nat) : sealV st (.hr a b) = .hr a b := rfl
theorem seal_fn (st : St) (f : FuncId) (a b : List V) : sealV st (.fn f a b) = .fn f a b := rfl
theorem seal_agg (st : St) (cs : List V) : sealV st (.agg cs) = .agg cs := rfl
theorem seal_tup (st : St) (cs : List V) : sealV st (.tup cs) = .tup cs := rfl
theorem seal_ifc (st : St) (t : TypeId) (v : V) : sealV st (.ifc t v) = .ifc t v := rfl
theorem seal_map (st : St) (t : Nat) : sealV st (.map t) = .map t := rfl
theorem seal_undef (st : St) : sealV st .undef = .undef := rfl
theorem seal_lr (st : St) (rid len : Nat) : sealV st (.lr rid len) = match st.r[rid]? with | some q => rowV q.ns q.es len | none => .undef := rfl
theorem envP (P : Program) (A : Notes) (C : Callee) (f : FuncId) : (envOf P A C f).P = P := rfl
theorem envC (P : Program) (A : Notes) (C : Callee) (f : FuncId) : (envOf P A C f).C = C := rfl
theorem envGl (P : Program) (A : Notes) (C : Callee) (f : FuncId) : (envOf P A C f).gl = A.gl := rfl
theorem modeD_some (E : Env) (d : Nat) : modeD E (some d) = E.mode d := rfl
theorem modeD_none (E : Env) : modeD E none = .priv := rfl
theorem rdG_tmp (E : Env) (s : List Slot) (b : List (List V)) (r : List LRow) (t : Nat) : rdG E ⟨s, b, r⟩ (.tmp t) = s.getD t (.v .undef) := rfl
theorem rdG_const (E : Env) (st : St) (v : Value) : rdG E st (.const v) = .v (ofConst v) := rfl
theorem rdG_global (E : Env) (st : St) (g : Nat) : rdG E st (.global g) = glSlot (E.gl g) := rfl
theorem glSlot_agg (cs : List V) : glSlot (.agg cs) = .v (.ept (.agg cs) 0) := rfl
theorem glSlot_int (k : IntKind) (n : Int) : glSlot (.int k n) = .v (.ept (.int k n) 0) := rfl
theorem glSlot_rsl (r : List V) : glSlot (.rsl r) = .v (.ept (.rsl r) 0) := rfl
theorem envM (P : Program) (A : Notes) (C : Callee) (f : FuncId) : (envOf P A C f).mode = A.mode f := rfl
theorem envK (P : Program) (A : Notes) (C : Callee) (f : FuncId) : (envOf P A C f).kill = A.kill f := rfl
theorem envG (P : Program) (A : Notes) (C : Callee) (f : FuncId) : (envOf P A C f).grow = A.grow f := rfl
theorem put_some (s : List Slot) (b : List (List V)) (r : List LRow) (d : Nat) (x : Slot) : putS ⟨s, b, r⟩ (some d) x = ⟨s.set d x, b, r⟩ := rfl
theorem put_none (st : St) (x : Slot) : putS st none x = st := rfl
theorem afterK_ret (m : Mode) (st : St) (d : Option Nat) (k : St → Hp → Prop) (Q : Post) (v : V) (H : Hp) : afterK m st d k Q (.ret v false) H = k (putS st d (.v (sealH m v H).1)) (sealH m v H).2 := rfl
theorem afterK_rett (m : Mode) (st : St) (d : Option Nat) (k : St → Hp → Prop) (Q : Post) (v : V) (H : Hp) : afterK m st d k Q (.ret v true) H = k (callOut st d v true) H := rfl
theorem afterK_panic (m : Mode) (st : St) (d : Option Nat) (k : St → Hp → Prop) (Q : Post) (v : V) (H : Hp) : afterK m st d k Q (.panic v) H = Q (.panic v) st H := rfl
theorem sealH_priv (v : V) (H : Hp) : sealH .priv v H = (v, H) := rfl
theorem sealH_heap (v : V) (H : Hp) : sealH .heap v H = (v, H) := rfl
theorem sealH_nils (H : Hp) : sealH .imm .nils H = (.nils, H) := rfl
theorem sealH_rsl (r : List V) (H : Hp) : sealH .imm (.rsl r) H = (.rsl r, H) := rfl
theorem sealH_sl {id n : Nat} {H : Hp} {es : List V} (h : H[id]? = some (.cells es)) (hn : es.length = n) : sealH .imm (.sl id 0 n) H = (.rsl es, H.set id .dead) := by
  subst hn
  simp [sealH, h]
theorem callOut_f (st : St) (d : Option Nat) (v : V) : callOut st d v false = putS st d (.v v) := rfl
theorem callOut_t (st : St) (d : Option Nat) (row : List V) : callOut st d (.rsl row) true = frow st d false row := rfl
theorem cells_agg (cs : List V) : V.cells (.agg cs) = cs := rfl
theorem cells_int (k : IntKind) (n : Int) : V.cells (.int k n) = [.int k n] := rfl
theorem cells_bool (b : Bool) : V.cells (.bool b) = [.bool b] := rfl
theorem cells_str (b : ByteArray) : V.cells (.str b) = [.str b] := rfl
theorem cells_ptr (a b c : Nat) : V.cells (.ptr a b c) = [.ptr a b c] := rfl
theorem cells_nilp : V.cells .nilp = [.nilp] := rfl
theorem cells_nils : V.cells .nils = [.nils] := rfl
theorem cells_rsl (r : List V) : V.cells (.rsl r) = [.rsl r] := rfl
theorem cells_hr (a b : Nat) : V.cells (.hr a b) = [.hr a b] := rfl
theorem cells_lr (a b : Nat) : V.cells (.lr a b) = [.lr a b] := rfl
theorem cells_sl (a b c : Nat) : V.cells (.sl a b c) = [.sl a b c] := rfl
theorem cells_map (a : Nat) : V.cells (.map a) = [.map a] := rfl
theorem cells_ifc (t : TypeId) (v : V) : V.cells (.ifc t v) = [.ifc t v] := rfl
theorem cells_fn (f : FuncId) (a b : List V) : V.cells (.fn f a b) = [.fn f a b] := rfl
theorem width_eq (v : V) : v.width = v.cells.length := rfl
theorem okV_agg (cs : List V) : okV (.agg cs) = true := rfl
theorem okV_int (k : IntKind) (n : Int) : okV (.int k n) = true := rfl
theorem okV_bool (b : Bool) : okV (.bool b) = true := rfl
theorem okV_str (b : ByteArray) : okV (.str b) = true := rfl
theorem okV_ptr (a b c : Nat) : okV (.ptr a b c) = true := rfl
theorem okV_nilp : okV .nilp = true := rfl
theorem okV_nils : okV .nils = true := rfl
theorem okV_rsl (r : List V) : okV (.rsl r) = true := rfl
theorem okV_hr (a b : Nat) : okV (.hr a b) = true := rfl
theorem okV_lr (a b : Nat) : okV (.lr a b) = true := rfl
theorem okV_sl (a b c : Nat) : okV (.sl a b c) = true := rfl
theorem okV_map (a : Nat) : okV (.map a) = true := rfl
theorem okV_ifc (t : TypeId) (v : V) : okV (.ifc t v) = true := rfl
theorem okV_fn (f : FuncId) (a b : List V) : okV (.fn f a b) = true := rfl
theorem nat_le (n : Nat) : ((0 : Int) ≤ (n : Int)) = True := by simp
theorem wpCall_eq {C : Callee} {f : FuncId} {args : List V} {H : Hp} {K : Out → Hp → Prop} {x : Out × Hp} (h : C f args H = some x) : wpCall C f args H K = K x.1 x.2 := by unfold wpCall; rw [h]
theorem clip_undef (nb nr : Nat) : clip nb nr (.v (.undef)) = .v (.undef) := rfl
theorem clip_int (k : IntKind) (n : Int) (nb nr : Nat) : clip nb nr (.v (.int k n)) = .v (.int k n) := rfl
theorem clip_bool (b : Bool) (nb nr : Nat) : clip nb nr (.v (.bool b)) = .v (.bool b) := rfl
theorem clip_str (x : ByteArray) (nb nr : Nat) : clip nb nr (.v (.str x)) = .v (.str x) := rfl
theorem clip_ptr (a c d : Nat) (nb nr : Nat) : clip nb nr (.v (.ptr a c d)) = .v (.ptr a c d) := rfl
theorem clip_ept (e : V) (a : Nat) (nb nr : Nat) : clip nb nr (.v (.ept e a)) = .v (.ept e a) := rfl
theorem clip_rsl (l : List V) (nb nr : Nat) : clip nb nr (.v (.rsl l)) = .v (.rsl l) := rfl
theorem clip_nils (nb nr : Nat) : clip nb nr (.v (.nils)) = .v (.nils) := rfl
theorem clip_nilp (nb nr : Nat) : clip nb nr (.v (.nilp)) = .v (.nilp) := rfl
theorem clip_sl (a c d : Nat) (nb nr : Nat) : clip nb nr (.v (.sl a c d)) = .v (.sl a c d) := rfl
theorem clip_hr (a c : Nat) (nb nr : Nat) : clip nb nr (.v (.hr a c)) = .v (.hr a c) := rfl
theorem clip_fn (f : FuncId) (l m : List V) (nb nr : Nat) : clip nb nr (.v (.fn f l m)) = .v (.fn f l m) := rfl
theorem clip_agg (l : List V) (nb nr : Nat) : clip nb nr (.v (.agg l)) = .v (.agg l) := rfl
theorem clip_tup (l : List V) (nb nr : Nat) : clip nb nr (.v (.tup l)) = .v (.tup l) := rfl
theorem clip_ifc (f : TypeId) (e : V) (nb nr : Nat) : clip nb nr (.v (.ifc f e)) = .v (.ifc f e) := rfl
theorem clip_map (a : Nat) (nb nr : Nat) : clip nb nr (.v (.map a)) = .v (.map a) := rfl
theorem clip_lr (a c nb nr : Nat) : clip nb nr (.v (.lr a c)) = if a < nr then .v (.lr a c) else .v .undef := by simp only [clip, clipV]; split <;> rfl
theorem clip_box (l nb nr : Nat) : clip nb nr (.box l) = if l < nb then .box l else .v .undef := rfl
theorem clip_ref (l o nb nr : Nat) : clip nb nr (.ref l o) = if l < nb then .ref l o else .v .undef := rfl
def growsAs (r : List LRow) : Slot → Bool
  | .v (.lr rid len) => match r[rid]? with | some q => q.own && len == q.es.length && !(q.ns && len == 0) | none => false
  | _ => false
theorem resGrow_tmp (s : List Slot) (b : List (List V)) (r : List LRow) (t : Nat) : resGrow ⟨s, b, r⟩ [.tmp t] = growsAs r (s.getD t (.v .undef)) := by
  simp only [resGrow, growsAs]
  cases s.getD t (.v .undef) with
  | v x => cases x <;> rfl
  | _ => rfl
theorem resGrow_cell (st : St) (a : Nat) (t : TypeId) : resGrow st [.cell a t] = false := rfl
theorem grows_int (r : List LRow) (k : IntKind) (n : Int) : growsAs r (.v (.int k n)) = false := rfl
theorem grows_bool (r : List LRow) (b : Bool) : growsAs r (.v (.bool b)) = false := rfl
theorem grows_str (r : List LRow) (b : ByteArray) : growsAs r (.v (.str b)) = false := rfl
theorem grows_emp (r : List LRow) : growsAs r (.v .emp) = false := rfl
theorem grows_rsl (r : List LRow) (l : List V) : growsAs r (.v (.rsl l)) = false := rfl
theorem grows_nils (r : List LRow) : growsAs r (.v .nils) = false := rfl
theorem grows_nilp (r : List LRow) : growsAs r (.v .nilp) = false := rfl
theorem grows_agg (r : List LRow) (l : List V) : growsAs r (.v (.agg l)) = false := rfl
theorem grows_ptr (r : List LRow) (a b c : Nat) : growsAs r (.v (.ptr a b c)) = false := rfl
theorem grows_lr (r : List LRow) (rid len : Nat) : growsAs r (.v (.lr rid len)) = match r[rid]? with | some q => q.own && len == q.es.length && !(q.ns && len == 0) | none => false := rfl
theorem viewV_rsl (H : Hp) (r : List V) : viewV H (.rsl r) = .rsl r := rfl
theorem viewV_nils (H : Hp) : viewV H .nils = .nils := rfl
theorem cells_nili : V.cells .nili = [.nili] := rfl
theorem cells_nilf : V.cells .nilf = [.nilf] := rfl
theorem cells_nilm : V.cells .nilm = [.nilm] := rfl
theorem cells_ept (e : V) (o : Nat) : V.cells (.ept e o) = [.ept e o] := rfl
theorem okV_nili : okV .nili = true := rfl
theorem okV_nilf : okV .nilf = true := rfl
theorem okV_nilm : okV .nilm = true := rfl
theorem okV_ept (e : V) (o : Nat) : okV (.ept e o) = true := rfl
theorem seal_nili (st : St) : sealV st .nili = .nili := rfl
theorem seal_nilf (st : St) : sealV st .nilf = .nilf := rfl
theorem seal_nilm (st : St) : sealV st .nilm = .nilm := rfl
theorem clip_nili (nb nr : Nat) : clip nb nr (.v (.nili)) = .v (.nili) := rfl
theorem clip_nilf (nb nr : Nat) : clip nb nr (.v (.nilf)) = .v (.nilf) := rfl
theorem clip_nilm (nb nr : Nat) : clip nb nr (.v (.nilm)) = .v (.nilm) := rfl
theorem grows_sl (r : List LRow) (a b c : Nat) : growsAs r (.v (.sl a b c)) = false := rfl
theorem grows_fn (r : List LRow) (f : FuncId) (a b : List V) : growsAs r (.v (.fn f a b)) = false := rfl
theorem grows_ifc (r : List LRow) (t : TypeId) (v : V) : growsAs r (.v (.ifc t v)) = false := rfl
theorem grows_ept (r : List LRow) (e : V) (o : Nat) : growsAs r (.v (.ept e o)) = false := rfl
theorem grows_hr (r : List LRow) (a b : Nat) : growsAs r (.v (.hr a b)) = false := rfl
theorem grows_nilf (r : List LRow) : growsAs r (.v .nilf) = false := rfl
theorem grows_nili (r : List LRow) : growsAs r (.v .nili) = false := rfl
theorem grows_map (r : List LRow) (a : Nat) : growsAs r (.v (.map a)) = false := rfl
theorem viewV_str (H : Hp) (s : ByteArray) : viewV H (.str s) = .str s := rfl
theorem viewV_sl (H : Hp) (a b c : Nat) : viewV H (.sl a b c) = .sl a b c := rfl
end Go.Abs
