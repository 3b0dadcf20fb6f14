/- A part of the proofs over this seat. -/
import Derived.Test.YthicacphcljdmaaQAbsWd
namespace Go.Abs
set_option linter.unusedVariables false
set_option linter.unusedSimpArgs false
/-! ### An evaluator that the kernel runs: for calls whose arguments are known -/
mutual
def sameV : V → V → Bool
  | .bool a, .bool b => a == b
  | .int k a, .int k' b => decide (k = k') && decide (a = b)
  | .str a, .str b => a.data == b.data
  | .nilp, .nilp => true
  | .ptr a b c, .ptr a' b' c' => a == a' && b == b' && c == c'
  | .ept e o, .ept e' o' => sameV e e' && o == o'
  | .nils, .nils => true
  | .rsl r, .rsl r' => sameL r r'
  | .sl a b c, .sl a' b' c' => a == a' && b == b' && c == c'
  | .hr a b, .hr a' b' => a == a' && b == b'
  | .lr a b, .lr a' b' => a == a' && b == b'
  | .agg r, .agg r' => sameL r r'
  | .tup r, .tup r' => sameL r r'
  | .fn f a b, .fn f' a' b' => f == f' && sameL a a' && sameL b b'
  | .nilf, .nilf => true
  | .ifc t v, .ifc t' v' => t == t' && sameV v v'
  | .nili, .nili => true
  | .map a, .map b => a == b
  | .nilm, .nilm => true
  | .undef, .undef => true
  | _, _ => false
def sameL : List V → List V → Bool
  | [], [] => true
  | v :: vs, w :: ws => sameV v w && sameL vs ws
  | _, _ => false
end
mutual
theorem sameV_eq : ∀ {v w : V}, sameV v w = true → v = w := fun {v w} h => by
  cases v <;> cases w <;> simp only [sameV, Bool.and_eq_true, beq_iff_eq, decide_eq_true_eq, Bool.false_eq_true] at h <;> first
    | rfl
    | (rw [h]; done)
    | (obtain ⟨rfl, rfl⟩ := h; rfl)
    | (obtain ⟨⟨rfl, rfl⟩, rfl⟩ := h; rfl)
    | (obtain ⟨h1, rfl⟩ := h; rw [sameV_eq h1]; done)
    | (obtain ⟨rfl, h1⟩ := h; rw [sameV_eq h1]; done)
    | (rw [sameL_eq h]; done)
    | (obtain ⟨⟨rfl, h1⟩, h2⟩ := h; rw [sameL_eq h1, sameL_eq h2]; done)
    | (rename_i a b; obtain ⟨x⟩ := a; obtain ⟨y⟩ := b; simp only at h; rw [h]; done)
    | (cases h; done)
theorem sameL_eq : ∀ {v w : List V}, sameL v w = true → v = w := fun {v w} h => by
  cases v with
  | nil => cases w with
    | nil => rfl
    | cons w ws => simp [sameL] at h
  | cons v vs => cases w with
    | nil => simp [sameL] at h
    | cons w ws =>
      simp only [sameL, Bool.and_eq_true] at h
      rw [sameV_eq h.1, sameL_eq h.2]
end
def allSame {α : Type} (f : α → α → Bool) : List α → List α → Bool
  | [], [] => true
  | a :: as, b :: bs => f a b && allSame f as bs
  | _, _ => false
theorem allSame_eq {α : Type} {f : α → α → Bool} (hf : ∀ {a b}, f a b = true → a = b) : ∀ {as bs : List α}, allSame f as bs = true → as = bs
  | [], [], _ => rfl
  | a :: as, b :: bs, h => by
    simp only [allSame, Bool.and_eq_true] at h
    rw [hf h.1, allSame_eq hf h.2]
  | [], _ :: _, h => by cases h
  | _ :: _, [], h => by cases h
def sameS : Slot → Slot → Bool
  | .v x, .v y => sameV x y
  | .box a, .box b => a == b
  | .ref a o, .ref b p => a == b && o == p
  | _, _ => false
theorem sameS_eq {a b : Slot} (h : sameS a b = true) : a = b := by
  cases a <;> cases b <;> simp only [sameS, Bool.and_eq_true, beq_iff_eq, Bool.false_eq_true] at h
  · rw [sameV_eq h]
  · rw [h]
  · rw [h.1, h.2]
def samePair (a b : V × V) : Bool := sameV a.1 b.1 && sameV a.2 b.2
theorem samePair_eq {a b : V × V} (h : samePair a b = true) : a = b := by
  simp only [samePair, Bool.and_eq_true] at h
  exact Prod.ext (sameV_eq h.1) (sameV_eq h.2)
def sameRow (a b : LRow) : Bool := a.own == b.own && a.ns == b.ns && sameL a.es b.es
theorem sameRow_eq {a b : LRow} (h : sameRow a b = true) : a = b := by
  obtain ⟨a1, a2, a3⟩ := a
  obtain ⟨b1, b2, b3⟩ := b
  simp only [sameRow, Bool.and_eq_true, beq_iff_eq] at h
  obtain ⟨⟨rfl, rfl⟩, h⟩ := h
  rw [sameL_eq h]
def sameB : Blk → Blk → Bool
  | .cells a, .cells b => sameL a b
  | .row n a, .row m b => n == m && sameL a b
  | .map a, .map b => allSame samePair a b
  | .dead, .dead => true
  | _, _ => false
theorem sameB_eq {a b : Blk} (h : sameB a b = true) : a = b := by
  cases a <;> cases b <;> simp only [sameB, Bool.and_eq_true, beq_iff_eq, Bool.false_eq_true] at h
  · rw [sameL_eq h]
  · rw [h.1, sameL_eq h.2]
  · rw [allSame_eq samePair_eq h]
  · rfl
def chk1b (E : Env) (ops : List Oper) (s : List Slot) (bs : Vb) (hs : Vh) (p : Nat × Nat × Nat) : Bool :=
  match ops[p.1]?, bs[p.2.1]?, hs[p.2.2]? with
  | some o, some b, some (r, H) =>
    match bs[p.2.1 + (effB E.mode o).toNat]?, hs[p.2.2 + (effH E.mode o).toNat]? with
    | some b', some (r', H') => match stepO E ops o ⟨s, b, r⟩ H with
      | some (.normal, st, H2) => allSame sameS st.s (setD s o.dst (dslot s o)) && allSame sameL st.b b' && allSame sameRow st.r r' && allSame sameB H2 H'
      | _ => false
    | _, _ => false
  | _, _, _ => false
theorem chk1b_chk1 {E : Env} {ops : List Oper} {s : List Slot} {bs : Vb} {hs : Vh} {p : Nat × Nat × Nat} (h : chk1b E ops s bs hs p = true) : chk1 E ops s bs hs p := by
  unfold chk1b at h
  unfold chk1
  split at h
  · rename_i o b r H h1 h2 h3
    rw [h1, h2, h3]
    simp only
    split at h
    · rename_i b' r' H' h4 h5
      rw [h4, h5]
      simp only
      split at h
      · rename_i st H2 h6
        simp only [Bool.and_eq_true] at h
        obtain ⟨⟨⟨g1, g2⟩, g3⟩, g4⟩ := h
        rw [h6, allSame_eq sameB_eq g4, ← allSame_eq sameS_eq g1, ← allSame_eq sameL_eq g2, ← allSame_eq sameRow_eq g3]
      · cases h
    · cases h
  · cases h
/-- Where else an operation of a region may stand, by the blocks that it sees -/
def altsOf (md : Nat → Mode) (ops : List Oper) : List (Nat × Nat × Nat) :=
  let ms := masks ops []
  let n := ops.length
  (List.range n).flatMap fun i => match ops[i]? with
    | some o => if freeOp o then [] else
      let lb := cnt n (fun j => prec ms j i) (eBat md ops)
      let hb := cnt n (fun j => j != i && !prec ms i j) (eBat md ops)
      let lh := cnt n (fun j => prec ms j i) (eHat md ops)
      let hh := cnt n (fun j => j != i && !prec ms i j) (eHat md ops)
      let ob := cnt n (fun j => decide (j < i)) (eBat md ops)
      let oh := cnt n (fun j => decide (j < i)) (eHat md ops)
      (List.range (hb + 1 - lb)).flatMap fun k => (List.range (hh + 1 - lh)).filterMap fun l => if lb + k == ob && lh + l == oh then none else some (i, lb + k, lh + l)
    | none => []
def evDrawK (E : Env) (ops : List Oper) (st : St) (H : Hp) : R :=
  let alts := altsOf E.mode ops
  match drawOk E.mode alts ops with
  | true => match drawRun E ops ops st H [st.b] [(st.r, H)] with
    | some (st', H', bs, hs) => match alts.all (chk1b E ops st'.s bs hs) with
      | true => some (.normal, st', H')
      | false => none
    | none => none
  | false => none
theorem drawRun_text {E : Env} {ops : List Oper} : ∀ (l : List Oper) {st : St} {H : Hp} {bs : Vb} {hs : Vh} {q}, drawRun E ops l st H bs hs = some q → evOps E ops l st H = some (.normal, q.1, q.2.1) := by
  intro l
  induction l with
  | nil => intro st H bs hs q h; cases h; rfl
  | cons o l ih =>
    intro st H bs hs q h
    simp only [drawRun] at h
    rw [evOps_step]
    split at h
    · exact ih h
    · cases h
theorem evDrawK_eq {E : Env} {ops : List Oper} {st : St} {H : Hp} {r : Ex × St × Hp} (h : evDrawK E ops st H = some r) : evDraw E ops st H = some r := by
  unfold evDrawK at h
  simp only at h
  split at h
  · rename_i hok
    split at h
    · rename_i st' H' bs hs hr
      split at h
      · rename_i hall
        cases h
        have h1 : ∀ p ∈ altsOf E.mode ops, chk1 E ops st'.s bs hs p := fun p hp => chk1b_chk1 (List.all_eq_true.1 hall p hp)
        have htext := drawRun_text _ hr
        unfold evDraw
        rw [if_pos]
        · exact htext
        · intro t
          rw [htext]
          simpa using sched_same hok hr h1 t
      · cases h
    · cases h
  · cases h
/-! forcing -/
def forceL {α β : Type} (f : α → (α → β) → β) : List α → (List α → β) → β
  | [], k => k []
  | x :: xs, k => f x fun x => forceL f xs fun xs => k (x :: xs)
theorem forceL_eq {α β : Type} {f : α → (α → β) → β} (hf : ∀ x k, f x k = k x) : ∀ (l : List α) (k : List α → β), forceL f l k = k l
  | [], k => rfl
  | x :: xs, k => by simp only [forceL]; rw [hf, forceL_eq hf]
def force0 {β : Type} : V → (V → β) → β
  | .int kd (.ofNat n), k => k (.int kd (.ofNat n))
  | .int kd (.negSucc n), k => k (.int kd (.negSucc n))
  | .bool true, k => k (.bool true)
  | .bool false, k => k (.bool false)
  | .agg cs, k => k (.agg cs)
  | v, k => k v
theorem force0_eq {β : Type} (v : V) (k : V → β) : force0 v k = k v := by
  unfold force0; split <;> rfl
def forceV {β : Type} : V → (V → β) → β
  | .agg cs, k => forceL force0 cs fun cs => k (.agg cs)
  | .rsl cs, k => forceL force0 cs fun cs => k (.rsl cs)
  | .tup cs, k => forceL force0 cs fun cs => k (.tup cs)
  | .ept e o, k => k (.ept e o)
  | v, k => force0 v k
theorem forceV_eq {β : Type} (v : V) (k : V → β) : forceV v k = k v := by
  unfold forceV; split <;> first | rw [forceL_eq force0_eq] | rw [force0_eq] | rfl
def forceS {β : Type} : Slot → (Slot → β) → β
  | .v x, k => forceV x fun x => k (.v x)
  | .box a, k => k (.box a)
  | .ref a o, k => k (.ref a o)
theorem forceS_eq {β : Type} (v : Slot) (k : Slot → β) : forceS v k = k v := by
  unfold forceS; split <;> first | rw [forceV_eq] | rfl
def forceRow {β : Type} : LRow → (LRow → β) → β
  | ⟨o, n, es⟩, k => forceL forceV es fun es => k ⟨o, n, es⟩
theorem forceRow_eq {β : Type} (v : LRow) (k : LRow → β) : forceRow v k = k v := by
  obtain ⟨o, n, es⟩ := v; exact forceL_eq forceV_eq es _
def forceP {β : Type} : V × V → (V × V → β) → β
  | (a, b), k => forceV a fun a => forceV b fun b => k (a, b)
theorem forceP_eq {β : Type} (v : V × V) (k : V × V → β) : forceP v k = k v := by
  obtain ⟨a, b⟩ := v; exact (forceV_eq a _).trans (forceV_eq b _)
def forceB {β : Type} : Blk → (Blk → β) → β
  | .cells es, k => forceL forceV es fun es => k (.cells es)
  | .row n es, k => forceL forceV es fun es => k (.row n es)
  | .map es, k => forceL forceP es fun es => k (.map es)
  | .dead, k => k .dead
theorem forceB_eq {β : Type} (v : Blk) (k : Blk → β) : forceB v k = k v := by
  cases v <;> simp only [forceB] <;> first | rw [forceL_eq forceV_eq] | rw [forceL_eq forceP_eq]
def forceSt {β : Type} (st : St) (k : St → β) : β :=
  forceL forceS st.s fun s => forceL (forceL forceV) st.b fun b => forceL forceRow st.r fun r => k ⟨s, b, r⟩
theorem forceSt_eq {β : Type} (st : St) (k : St → β) : forceSt st k = k st := by
  unfold forceSt; rw [forceL_eq forceS_eq, forceL_eq (fun x k => forceL_eq forceV_eq x k), forceL_eq forceRow_eq]
def forceH {β : Type} (H : Hp) (k : Hp → β) : β := forceL forceB H k
theorem forceH_eq {β : Type} (H : Hp) (k : Hp → β) : forceH H k = k H := forceL_eq forceB_eq H k
def forceR : R → R
  | some (ex, st, H) => forceSt st fun st => forceH H fun H => some (ex, st, H)
  | none => none
theorem forceR_eq (r : R) : forceR r = r := by
  cases r with
  | none => rfl
  | some x => obtain ⟨ex, st, H⟩ := x; simp only [forceR, forceSt_eq, forceH_eq]
mutual
def evCodeK (E : Env) (n : Nat) : Code → St → Hp → R
  | .skip, st, H => some (.normal, st, H)
  | .label _, st, H => some (.normal, st, H)
  | .region _ ops false, st, H => forceR (evOps E ops.toList ops.toList st H)
  | .region _ ops true, st, H => forceR (evDrawK E ops.toList st H)
  | .seq a b, st, H => match evCodeK E n a st H with
    | some (.normal, st, H) => evCodeK E n b st H
    | r => r
  | .cond c x y, st, H => match rd st c with
    | .bool true => evCodeK E n x st H
    | .bool false => evCodeK E n y st H
    | _ => none
  | .block id c, st, H => match evCodeK E n c st H with
    | some (.exit id', st, H) => if id' = id then some (.normal, st, H) else some (.exit id', st, H)
    | r => r
  | .loop c, st, H =>
    forceSt (growAll (E.grow (firstReg c)) st) fun st =>
    loopN (fun st H => forceSt st fun st => evCodeK E n c st H) (norm (E.kill (firstReg c)) st.b.length st.r.length) n st H
  | .exit id, st, H => some (.exit id, st, H)
  | .goto l, st, H => some (.goto l, st, H)
  | .ret, st, H => some (.ret, st, H)
  | .scope c, st, H => match evCodeK E n c st H with
    | some (.goto l, st, H) => gotoK (evLabK E n c l) st H
    | r => r
  | _, _, _ => none
def evLabK (E : Env) (n : Nat) : Code → Nat → Option (St → Hp → R)
  | .seq a b, l => match evLabK E n a l with
    | some f => some fun st H => match f st H with
      | some (.normal, st, H) => evCodeK E n b st H
      | r => r
    | none => evLabK E n b l
  | .label l', l => if l' == l then some fun st H => some (.normal, st, H) else none
  | _, _ => none
end
theorem evLabK_eq (E : Env) (n : Nat) : ∀ (c : Code) (l : Nat), evLabK E n c l = (findLabel c l).map (evCodeK E n) := by
  intro c
  induction c with
  | seq a b iha ihb =>
    intro l
    simp only [evLabK, findLabel, iha l, ihb l]
    cases findLabel a l with
    | none => rfl
    | some r =>
      simp only [Option.map_some]
      congr 1
      try (funext st H; simp only [evCodeK])
  | label l' =>
    intro l
    simp only [evLabK, findLabel]
    split
    · simp only [Option.map_some]
      congr 1
    · rfl
  | _ => intro l; rfl
theorem evCodeK_eq {E : Env} {n : Nat} : ∀ (c : Code) {st : St} {H : Hp} {r : Ex × St × Hp}, evCodeK E n c st H = some r → evCode E c st H = some r := by
  intro c
  induction c using codeInd with
  | skip => intro st H r h; exact h
  | label l => intro st H r h; exact h
  | region id ops draw =>
    intro st H r h
    cases draw with
    | false => simp only [evCodeK, forceR_eq] at h; exact h
    | true => simp only [evCodeK, forceR_eq] at h; exact evDrawK_eq h
  | seq a b iha ihb =>
    intro st H r h
    simp only [evCodeK] at h
    simp only [evCode]
    cases ha : evCodeK E n a st H with
    | none => rw [ha] at h; cases h
    | some x =>
      obtain ⟨ex, st1, H1⟩ := x
      rw [ha] at h
      rw [iha ha]
      cases ex with
      | normal => exact ihb h
      | _ => exact h
  | cond c x y ihx ihy =>
    intro st H r h
    simp only [evCodeK] at h
    simp only [evCode]
    split at h
    · rename_i hc; simp only [hc]; exact ihx h
    · rename_i hc; simp only [hc]; exact ihy h
    · cases h
  | block id c ih =>
    intro st H r h
    simp only [evCodeK] at h
    simp only [evCode]
    cases ha : evCodeK E n c st H with
    | none => rw [ha] at h; cases h
    | some x =>
      obtain ⟨ex, st1, H1⟩ := x
      rw [ha] at h
      rw [ih ha]
      exact h
  | loop c ih =>
    intro st H r h
    simp only [evCodeK, forceSt_eq] at h
    simp only [evCode]
    exact loopW_iff.2 ⟨n, loopN_mono (fun st H r h => ih h) n h⟩
  | rangeFunc f ps as c ih1 ih2 => intro st H r h; cases h
  | exit id => intro st H r h; exact h
  | scope c ih ihl =>
    intro st H r h
    simp only [evCodeK, evLabK_eq] at h
    rw [evCode_scope]
    cases hx : evCodeK E n c st H with
    | none => rw [hx] at h; cases h
    | some q =>
      rw [hx] at h
      rw [ih hx]
      obtain ⟨ex, st1, H1⟩ := q
      cases ex with
      | goto l =>
        simp only at h ⊢
        cases hf : findLabel c l with
        | none => rw [hf] at h; cases h
        | some rest =>
          rw [hf] at h
          simp only [Option.map_some, gotoK] at h ⊢
          cases hr : evCodeK E n rest st1 H1 with
          | none => rw [hr] at h; cases h
          | some q2 => rw [hr] at h; rw [ihl l rest hf hr]; exact h
      | _ => exact h
  | goto l => intro st H r h; exact h
  | ret => intro st H r h; exact h
  | refuse why => intro st H r h; cases h
def forceOut {β : Type} : Out → (Out → β) → β
  | .ret v g, k => forceV v fun v => match g with | true => k (.ret v true) | false => k (.ret v false)
  | .panic v, k => k (.panic v)
theorem forceOut_eq {β : Type} (v : Out) (k : Out → β) : forceOut v k = k v := by
  unfold forceOut; split
  · rw [forceV_eq]; split <;> rfl
  · rfl
def evFunK (P : Program) (A : Notes) (n : Nat) (C : Callee) : Callee := fun f args H =>
  match P.funcs[f]? with
  | some fn => match fn.body with
    | some c =>
      forceSt (enterSt fn args) fun st =>
      match evCodeK (envOf P A C f) n c st H with
      | some (.normal, st, H) | some (.ret, st, H) => match outOf P fn st H with
        | some x => forceOut x fun x => some (x, H)
        | none => none
      | some (.panic v, _, H) => some (.panic v, H)
      | _ => none
    | none => none
  | none => none
theorem evBodyK_eq {P : Program} {A : Notes} {n : Nat} {C : Callee} {f : FuncId} {args : List V} {H : Hp} {r : Out × Hp} (h : evFunK P A n C f args H = some r) : evBody P A C f args H = some r := by
  unfold evFunK at h
  split at h
  · rename_i fn hf
    split at h
    · rename_i c hb
      rw [forceSt_eq] at h
      rw [evBody_eq hf hb]
      have key : ∀ {st : St} {H1 : Hp}, (match outOf P fn st H1 with | some x => forceOut x fun x => some (x, H1) | none => none) = some r → (outOf P fn st H1).map (fun x => (x, H1)) = some r := fun {st H1} h => by
        split at h
        · rename_i x ho; rw [forceOut_eq] at h; rw [ho]; exact h
        · cases h
      split at h
      · rename_i st1 H1 hev
        rw [evCodeK_eq c hev]
        exact key h
      · rename_i st1 H1 hev
        rw [evCodeK_eq c hev]
        exact key h
      · rename_i v st1 H1 hev
        rw [evCodeK_eq c hev]
        exact h
      · cases h
    · cases h
  · cases h
/-- m: how deep calls go; n: how many rounds a loop makes at most -/
def evK (P : Program) (A : Notes) (n : Nat) : Nat → Callee
  | 0 => fun _ _ _ => none
  | m + 1 => wrapC A.pure (evFunK P A n (evK P A n m))
theorem evK_ev {P : Program} {A : Notes} {n : Nat} : ∀ (m : Nat), (evK P A n m).le (ev P A m)
  | 0, _, _, _, _, h => by cases h
  | m + 1, f, args, H, r, h => by
    exact wrapC_mono (p := A.pure) (C := evFunK P A n (evK P A n m)) (C' := evBody P A (ev P A m)) (fun f args H r h => evBody_mono (evK_ev m) f args H r (evBodyK_eq h)) f args H r h
theorem evK_evW {P : Program} {A : Notes} {n m : Nat} {f : FuncId} {args : List V} {H : Hp} {r : Out × Hp} (h : evK P A n m f args H = some r) : evW P A f args H = some r :=
  limC_ge ev_chain m f args H r (evK_ev m f args H r h)
/-- A call that the kernel runs, in any heap -/
theorem live_any {P : Program} {A : Notes} {n m : Nat} {f : FuncId} {b : Bool} (hp : A.pure f = true) (h : (evK P A n m f [] []).map (fun x => match x.1 with | .ret (.bool b) g => some (b, g) | _ => none) = some (some (b, false))) (H : Hp) : evW P A f [] H = some (.ret (.bool b) false, H) := by
  cases hk : evK P A n m f [] [] with
  | none => rw [hk] at h; cases h
  | some x =>
    rw [hk] at h
    obtain ⟨out, H0⟩ := x
    simp only [Option.map_some, Option.some.injEq] at h
    split at h
    · rename_i b' g
      simp only [Option.some.injEq, Prod.mk.injEq] at h
      obtain ⟨rfl, rfl⟩ := h
      exact pure_any hp rfl (evK_evW hk) H
    · cases h
end Go.Abs
