/- The plain law of ScriptBounds: what the walked functions compute answers true, at every input. -/
import Derived.Test.YteenpfdpokekgaaPBx2
import Derived.Test.YteenpfdpokekgaaH10
namespace Go.Proofs.Yteenpfdpokekgaa.Pure
open Go.RowKit Go.Proofs.Yteenpfdpokekgaa.PB Go.Proofs.YteenpfdpokekgaaW.PrintWords Go.Proofs.YteenpfdpokekgaaW.PrintLast
theorem rd_rep (n : Nat) (c : Int) (i : Int) (h0 : 0 ≤ i) (h : i < n) : rd (List.replicate n c) i = c := by
  unfold rd
  rw [List.getD_eq_getElem?_getD, List.getElem?_replicate, if_pos (by omega)]
  rfl
theorem idx_rep (n : Nat) (hn : n ≤ 65538) : ∀ (d j k : Nat), n - j = d → j ≤ n → d < k → slices_IndexFunc_int_int_22.l0 k (List.replicate n 7) (n : Int) (j : Int) = some (-1) := by
  intro d
  induction d with
  | zero =>
    intro j k h1 h2 h3
    obtain ⟨k, rfl⟩ : ∃ k', k = k' + 1 := ⟨k - 1, by omega⟩
    rw [slices_IndexFunc_int_int_22.l0]
    rw [if_neg (by omega)]
  | succ d ih =>
    intro j k h1 h2 h3
    obtain ⟨k, rfl⟩ : ∃ k', k = k' + 1 := ⟨k - 1, by omega⟩
    rw [slices_IndexFunc_int_int_22.l0]
    rw [if_pos (by omega), if_pos (by omega), if_pos (by rw [List.length_replicate]; omega), rd_rep n 7 j (by omega) (by omega)]
    have hc : script_Check_1.f 7 = some false := by kernel_rfl
    rw [hc]
    simp only [Option.bind_some]
    rw [if_neg (by decide), IntWalk.wrap64_in _ (by omega)]
    exact ih (j + 1) k (by omega) (by omega) (by omega)
theorem rd_rep40 (n : Nat) (c : S40) (i : Int) (h0 : 0 ≤ i) (h : i < n) : rd_T40 (List.replicate n c) i = c := by
  unfold rd_T40
  rw [List.getD_eq_getElem?_getD, List.getElem?_replicate, if_pos (by omega)]
  rfl
def tk : S40 := ⟨2, 7, 0, ⟨0, 0, 0⟩⟩
theorem chk_ticks (n : Nat) (hn : n ≤ 65538) : ∀ (d j k : Nat), n - j = d → j ≤ n → d + 1 < k → script_Check.l0 k (List.replicate n tk) (n : Int) (j : Int) (List.replicate n tk) [] = some (0, 0) := by
  intro d
  induction d with
  | zero =>
    intro j k h1 h2 h3
    obtain ⟨k, rfl⟩ : ∃ k', k = k' + 1 := ⟨k - 1, by omega⟩
    rw [script_Check.l0]
    rw [if_neg (by omega)]
    have hx : slices_IndexFunc_int_int_22.f k [] = some (-1) := by
      unfold slices_IndexFunc_int_int_22.f
      exact idx_rep 0 (by decide) 0 0 k rfl (Nat.le_refl _) (by omega)
    rw [hx]
    rfl
  | succ d ih =>
    intro j k h1 h2 h3
    obtain ⟨k, rfl⟩ : ∃ k', k = k' + 1 := ⟨k - 1, by omega⟩
    rw [script_Check.l0]
    rw [if_pos (by omega), if_pos (by omega), if_pos (by rw [List.length_replicate]; omega), rd_rep40 n tk j (by omega) (by omega)]
    have hc : script_fault.f tk.f0 tk.f1 tk.f2 tk.f3.f0 tk.f3.f1 tk.f3.f2 = some 0 := by kernel_rfl
    rw [hc]
    simp only [Option.bind_some]
    rw [if_pos trivial, IntWalk.wrap64_in _ (by omega)]
    exact ih (j + 1) k (by omega) (by omega) (by omega)
theorem check_draws (n : Nat) (hn : n ≤ 65538) (k : Nat) (hk : 65541 ≤ k) : script_Check.f k [] (List.replicate n 7) = some (0, if n ≤ 65536 then 0 else 3) := by
  obtain ⟨k, rfl⟩ : ∃ k', k = k' + 1 := ⟨k - 1, by omega⟩
  unfold script_Check.f
  rw [if_neg (by simp), List.length_replicate]
  rw [script_Check.j0]
  by_cases h : n ≤ 65536
  · rw [if_neg (by rw [decide_eq_true_eq]; omega), if_pos h]
    obtain ⟨k, rfl⟩ : ∃ k', k = k' + 1 := ⟨k - 1, by omega⟩
    rw [script_Check.l0]
    rw [if_neg (by simp)]
    have hx : slices_IndexFunc_int_int_22.f k (List.replicate n 7) = some (-1) := by
      unfold slices_IndexFunc_int_int_22.f
      rw [List.length_replicate]
      exact idx_rep n hn n 0 k (by omega) (by omega) (by omega)
    rw [hx]
    rfl
  · rw [if_pos (by rw [decide_eq_true_eq]; omega), if_neg h]
theorem check_ticks (n : Nat) (hn : n ≤ 65538) (k : Nat) (hk : 65542 ≤ k) : script_Check.f k (List.replicate n tk) [] = some (0, if n ≤ 65536 then 0 else 3) := by
  obtain ⟨k, rfl⟩ : ∃ k', k = k' + 1 := ⟨k - 1, by omega⟩
  unfold script_Check.f
  rw [List.length_replicate]
  by_cases h : n ≤ 65536
  · rw [if_neg (by omega), if_pos h]
    rw [script_Check.j0]
    rw [if_neg (by simp), List.length_replicate]
    exact chk_ticks n hn n 0 k (by omega) (by omega) (by omega)
  · rw [if_pos (by omega), if_neg h]
    rw [script_Check.j0]
    rw [if_pos rfl]
theorem reps_ok (l : List Int) (hl : script_Parse.ok l = true) : ∀ n, script_Parse.ok (PS0.reps l n) = true
  | 0 => rfl
  | n + 1 => by
    have h1 := reps_ok l hl n
    unfold script_Parse.ok at h1 hl ⊢
    unfold PS0.reps
    rw [List.all_append, h1, hl]
    rfl
theorem loop_d (n : Nat) (hn : n ≤ 65538) (R : Nat) : ∀ (d j : Nat), n - j = d → j ≤ n → jacquardlaw21_ScriptBounds.l0 (d + R) (n : Int) true (PS0.reps PS0.lnD j) (j : Int) [] (List.replicate j 7) = jacquardlaw21_ScriptBounds.l0 R (n : Int) true (PS0.reps PS0.lnD n) (n : Int) [] (List.replicate n 7) := by
  intro d
  induction d with
  | zero =>
    intro j h1 h2
    obtain rfl : j = n := by omega
    rw [Nat.zero_add]
  | succ d ih =>
    intro j h1 h2
    rw [show d + 1 + R = (d + R) + 1 by omega]
    rw [jacquardlaw21_ScriptBounds.l0]
    rw [if_pos (by omega), if_pos rfl, if_pos (by rw [List.length_replicate]; omega), if_pos (by rw [PS0.reps_len _ rfl]; omega), IntWalk.wrap64_in _ (by omega)]
    have hb : bytesOf (⟨#[100, 114, 97, 119, 32, 55, 10]⟩ : ByteArray) = PS0.lnD := by kernel_rfl
    rw [hb, ← List.replicate_succ']
    exact ih (j + 1) (by omega) (by omega)
theorem loop_t (n : Nat) (hn : n ≤ 65538) (R : Nat) : ∀ (d j : Nat), n - j = d → j ≤ n → jacquardlaw21_ScriptBounds.l0 (d + R) (n : Int) false (PS0.reps PS0.lnT j) (j : Int) (List.replicate j tk) [] = jacquardlaw21_ScriptBounds.l0 R (n : Int) false (PS0.reps PS0.lnT n) (n : Int) (List.replicate n tk) [] := by
  intro d
  induction d with
  | zero =>
    intro j h1 h2
    obtain rfl : j = n := by omega
    rw [Nat.zero_add]
  | succ d ih =>
    intro j h1 h2
    rw [show d + 1 + R = (d + R) + 1 by omega]
    rw [jacquardlaw21_ScriptBounds.l0]
    rw [if_pos (by omega), if_neg (by decide), if_pos (by rw [List.length_replicate]; omega), if_pos (by rw [PS0.reps_len _ rfl]; omega), IntWalk.wrap64_in _ (by omega)]
    have hb : bytesOf (⟨#[116, 105, 99, 107, 32, 55, 10]⟩ : ByteArray) = PS0.lnT := by kernel_rfl
    have hs : List.replicate j tk ++ [(⟨2, 7, 0, (⟨0, 0, 0⟩ : S38)⟩ : S40)] = List.replicate (j + 1) tk := by rw [List.replicate_succ']; rfl
    rw [hb, hs]
    exact ih (j + 1) (by omega) (by omega)
theorem tail0 (e f a w sz n : Int) (h1 : e = 0) (h2 : f = 0) (h3 : a = w) (h4 : sz = n) : ((jacquardlaw21_num.f e).bind fun t152 => (if t152 = 0 then ((jacquardlaw21_num.f f).bind fun t153 => (if t153 = 0 then (if a = w then (if sz = n then ((jacquardlaw21_live.f).bind fun t154 => (some t154)) else (some false)) else (some false)) else (some false))) else (some false))) = some true := by
  subst h1 h2 h3 h4
  simp [jacquardlaw21_num.f, jacquardlaw21_live.f]
theorem tail3 (e f : Int) (P Q : Prop) [Decidable P] [Decidable Q] (h1 : e = 3) (h2 : f = 3) (h3 : P) (h4 : Q) : ((jacquardlaw21_num.f e).bind fun t152 => (if t152 = 3 then ((jacquardlaw21_num.f f).bind fun t153 => (if t153 = 3 then (if P then (if Q then ((jacquardlaw21_live.f).bind fun t154 => (some t154)) else (some false)) else (some false)) else (some false))) else (some false))) = some true := by
  subst h1 h2
  simp [jacquardlaw21_num.f, jacquardlaw21_live.f, h3, h4]
theorem wr7 (n : Nat) (hn : n ≤ 65538) : ((7 * n : Nat) : Int) = wrap64 (7 * (n : Int)) := by
  rw [IntWalk.wrap64_in _ (by omega)]
  omega
theorem wsum (a b n : Nat) (h : a + b = n) (hn : n ≤ 65538) : wrap64 ((a : Int) + (b : Int)) = n := by
  rw [IntWalk.wrap64_in _ (by omega)]
  omega
theorem end_d (n : Nat) (h0 : 65534 ≤ n) (hn : n ≤ 65538) (R : Nat) (hR : 65542 ≤ R) : jacquardlaw21_ScriptBounds.l0 (R + 1) (n : Int) true (PS0.reps PS0.lnD n) (n : Int) [] (List.replicate n 7) = some true := by
  have hp : script_Parse.f (PS0.reps PS0.lnD n) = some (if n ≤ 65536 then ([], List.replicate n 7, 0, ((7 * n : Nat) : Int)) else ([], [], 3, 458752)) := by
    unfold script_Parse.f
    rw [if_pos (reps_ok _ (by decide) n), PS0.parse_draws n hn]
    by_cases h : n ≤ 65536
    · simp only [if_pos h, List.map_nil]
    · simp only [if_neg h, List.map_nil]
  rw [jacquardlaw21_ScriptBounds.l0]
  rw [if_neg (by omega), check_draws n hn R (by omega), hp]
  simp only [Option.bind_some]
  by_cases h : n ≤ 65536
  · simp only [if_pos h]
    rw [if_neg (by omega)]
    exact tail0 _ _ _ _ _ _ rfl rfl (wr7 n hn) (wsum _ _ n (by simp) hn)
  · simp only [if_neg h]
    rw [if_pos (by omega)]
    exact tail3 _ _ _ _ rfl rfl trivial (wsum 0 0 0 rfl (by decide))
theorem htk : script_Parse.cv (PS0.mk40 2 7 0 0 0 0) = tk := rfl
theorem end_t (n : Nat) (h0 : 65534 ≤ n) (hn : n ≤ 65538) (R : Nat) (hR : 65542 ≤ R) : jacquardlaw21_ScriptBounds.l0 (R + 1) (n : Int) false (PS0.reps PS0.lnT n) (n : Int) (List.replicate n tk) [] = some true := by
  have hp : script_Parse.f (PS0.reps PS0.lnT n) = some (if n ≤ 65536 then (List.replicate n tk, [], 0, ((7 * n : Nat) : Int)) else ([], [], 3, 458752)) := by
    unfold script_Parse.f
    rw [if_pos (reps_ok _ (by decide) n), PS0.parse_ticks n hn]
    by_cases h : n ≤ 65536
    · simp only [if_pos h, List.map_replicate, htk]
    · simp only [if_neg h, List.map_nil]
  rw [jacquardlaw21_ScriptBounds.l0]
  rw [if_neg (by omega), check_ticks n hn R (by omega), hp]
  simp only [Option.bind_some]
  by_cases h : n ≤ 65536
  · simp only [if_pos h]
    rw [if_neg (by omega)]
    exact tail0 _ _ _ _ _ _ rfl rfl (wr7 n hn) (wsum _ _ n (by simp) hn)
  · simp only [if_neg h]
    rw [if_pos (by omega)]
    exact tail3 _ _ _ _ rfl rfl trivial (wsum 0 0 0 rfl (by decide))
theorem live_j0 (a0 : Int) (a1 : Bool) : jacquardlaw21_ScriptBounds.j0 1 a0 a1 true = some true := by
  rw [jacquardlaw21_ScriptBounds.j0, if_pos rfl]
  rfl
theorem ScriptBounds : jacquardlaw21_ScriptBounds.Pure := by
  intro a0 a1 _
  by_cases h1 : a0 < 65534
  · refine ⟨1, ?_⟩
    unfold jacquardlaw21_ScriptBounds.f
    rw [if_pos h1]
    exact live_j0 a0 a1
  · by_cases h2 : a0 > 65538
    · refine ⟨1, ?_⟩
      unfold jacquardlaw21_ScriptBounds.f
      rw [if_neg h1, decide_eq_true h2]
      exact live_j0 a0 a1
    · obtain ⟨n, rfl⟩ : ∃ n : Nat, a0 = n := ⟨a0.toNat, by omega⟩
      refine ⟨n + (65542 + 1) + 1, ?_⟩
      unfold jacquardlaw21_ScriptBounds.f
      rw [if_neg h1, decide_eq_false h2]
      rw [jacquardlaw21_ScriptBounds.j0]
      rw [if_neg (by decide)]
      cases a1 with
      | true => exact (loop_d n (by omega) (65542 + 1) n 0 (by omega) (by omega)).trans (end_d n (by omega) (by omega) 65542 (by omega))
      | false => exact (loop_t n (by omega) (65542 + 1) n 0 (by omega) (by omega)).trans (end_t n (by omega) (by omega) 65542 (by omega))
end Go.Proofs.Yteenpfdpokekgaa.Pure
