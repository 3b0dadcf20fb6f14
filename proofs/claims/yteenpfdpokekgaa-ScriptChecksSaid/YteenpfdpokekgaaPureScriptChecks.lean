/- The plain law of ScriptChecks: what the walked functions compute answers true, for every script. -/
import Derived.Test.YteenpfdpokekgaaPCx3
namespace Go.Proofs.Yteenpfdpokekgaa.Pure
open Go.RowKit Go.Proofs.Yteenpfdpokekgaa.PC Go.Proofs.YteenpfdpokekgaaW.PrintWords Go.Proofs.YteenpfdpokekgaaW.PrintLast
theorem in_between (a b c : Int) : jacquardref21_in.f a b c = script_between.f a b c := rfl
theorem entry_fault (a b c d e f : Int) : jacquardref21_entry.f a b c d e f = script_fault.f a b c d e f := rfl
theorem between_some (a b c : Int) : ∃ t, script_between.f a b c = some t := by
  unfold script_between.f
  split <;> exact ⟨_, rfl⟩
theorem fault_some (a b c d e f : Int) : ∃ t, script_fault.f a b c d e f = some t := by
  unfold script_fault.f
  obtain ⟨t1, h1⟩ := between_some b 0 2305843009213693951
  obtain ⟨t2, h2⟩ := between_some c 1 64
  obtain ⟨t3, h3⟩ := between_some b 0 1048576
  obtain ⟨t4, h4⟩ := between_some b 0 1023
  obtain ⟨t5, h5⟩ := between_some d 0 1
  obtain ⟨t6, h6⟩ := between_some e 0 1
  obtain ⟨t7, h7⟩ := between_some f 0 4
  rw [h1, h2, h3, h4, h5, h6, h7]
  simp only [Option.bind_some]
  split
  · split
    · split <;> exact ⟨_, rfl⟩
    · exact ⟨_, rfl⟩
  · split
    · split <;> exact ⟨_, rfl⟩
    · split
      · split
        · split
          · split
            · split <;> exact ⟨_, rfl⟩
            · exact ⟨_, rfl⟩
          · exact ⟨_, rfl⟩
        · exact ⟨_, rfl⟩
      · exact ⟨_, rfl⟩
theorem draws_same (xs : List S40) (ds : List Int) (hd : ds.length ≤ 300) : ∀ (d j k1 k2 : Nat), ds.length - j = d → j ≤ ds.length → d < k1 → d < k2 →
    ∃ q : Int, slices_IndexFunc_int_int_22.l0 k1 ds (ds.length : Int) (j : Int) = some q ∧ ((q < 0 ∧ jacquardref21_Check.l1 k2 (j : Int) xs ds = some (0, 0)) ∨ (0 ≤ q ∧ jacquardref21_Check.l1 k2 (j : Int) xs ds = some (wrap64 ((xs.length : Int) + q), 1))) := by
  intro d
  induction d with
  | zero =>
    intro j k1 k2 h1 h2 h3 h4
    obtain ⟨k1, rfl⟩ : ∃ k', k1 = k' + 1 := ⟨k1 - 1, by omega⟩
    obtain ⟨k2, rfl⟩ : ∃ k', k2 = k' + 1 := ⟨k2 - 1, by omega⟩
    rw [slices_IndexFunc_int_int_22.l0, jacquardref21_Check.l1, if_neg (by omega), if_neg (by omega)]
    exact ⟨-1, rfl, .inl ⟨by decide, rfl⟩⟩
  | succ d ih =>
    intro j k1 k2 h1 h2 h3 h4
    obtain ⟨k1, rfl⟩ : ∃ k', k1 = k' + 1 := ⟨k1 - 1, by omega⟩
    obtain ⟨k2, rfl⟩ : ∃ k', k2 = k' + 1 := ⟨k2 - 1, by omega⟩
    rw [slices_IndexFunc_int_int_22.l0, jacquardref21_Check.l1, if_pos (by omega), if_pos (by omega), if_pos (by omega), if_pos (by omega), if_pos (by omega), in_between]
    unfold script_Check_1.f
    obtain ⟨t, ht⟩ := between_some (rd ds (j : Int)) (-2305843009213693952) 2305843009213693951
    rw [ht]
    simp only [Option.bind_some]
    cases t with
    | true =>
      obtain ⟨q, hq, hr⟩ := ih (j + 1) k1 k2 (by omega) (by omega) (by omega) (by omega)
      rw [if_neg (by decide), if_pos rfl, IntWalk.wrap64_in _ (by omega)]
      exact ⟨q, hq, hr⟩
    | false =>
      rw [if_pos (by decide), if_neg (by decide)]
      exact ⟨j, rfl, .inr ⟨by omega, rfl⟩⟩
theorem checks_same (xs : List S40) (ds : List Int) (hx : xs.length ≤ 300) (hd : ds.length ≤ 300) : ∀ (d j k1 k2 : Nat), xs.length - j = d → j ≤ xs.length → d + 302 < k1 → d + 302 < k2 →
    ∃ r, script_Check.l0 k1 xs (xs.length : Int) (j : Int) xs ds = some r ∧ jacquardref21_Check.l0 k2 (j : Int) xs ds = some r := by
  intro d
  induction d with
  | zero =>
    intro j k1 k2 h1 h2 h3 h4
    obtain ⟨k1, rfl⟩ : ∃ k', k1 = k' + 1 := ⟨k1 - 1, by omega⟩
    obtain ⟨k2, rfl⟩ : ∃ k', k2 = k' + 1 := ⟨k2 - 1, by omega⟩
    rw [script_Check.l0, jacquardref21_Check.l0, if_neg (by omega), if_neg (by omega)]
    obtain ⟨q, hq, hr⟩ := draws_same xs ds hd ds.length 0 k1 k2 (by omega) (by omega) (by omega) (by omega)
    have hq2 : slices_IndexFunc_int_int_22.f k1 ds = some q := hq
    rw [hq2]
    simp only [Option.bind_some]
    rcases hr with ⟨h, hr⟩ | ⟨h, hr⟩
    · rw [if_neg (by omega)]
      exact ⟨_, rfl, hr⟩
    · rw [if_pos h]
      exact ⟨_, rfl, hr⟩
  | succ d ih =>
    intro j k1 k2 h1 h2 h3 h4
    obtain ⟨k1, rfl⟩ : ∃ k', k1 = k' + 1 := ⟨k1 - 1, by omega⟩
    obtain ⟨k2, rfl⟩ : ∃ k', k2 = k' + 1 := ⟨k2 - 1, by omega⟩
    rw [script_Check.l0, jacquardref21_Check.l0, if_pos (by omega), if_pos (by omega), if_pos (by omega), if_pos (by omega), if_pos (by omega), entry_fault]
    obtain ⟨t, ht⟩ := fault_some (rd_T40 xs (j : Int)).f0 (rd_T40 xs (j : Int)).f1 (rd_T40 xs (j : Int)).f2 (rd_T40 xs (j : Int)).f3.f0 (rd_T40 xs (j : Int)).f3.f1 (rd_T40 xs (j : Int)).f3.f2
    rw [ht]
    simp only [Option.bind_some]
    by_cases h0 : t = 0
    · rw [if_pos h0, if_pos h0, IntWalk.wrap64_in _ (by omega)]
      exact ih (j + 1) k1 k2 (by omega) (by omega) (by omega) (by omega)
    · rw [if_neg h0, if_neg h0]
      exact ⟨_, rfl, rfl⟩
theorem check_same (xs : List S40) (ds : List Int) (hx : xs.length ≤ 300) (hd : ds.length ≤ 300) (k : Nat) (hk : 700 ≤ k) : ∃ r, script_Check.f k xs ds = some r ∧ jacquardref21_Check.f k xs ds = some r := by
  obtain ⟨k, rfl⟩ : ∃ k', k = k' + 1 := ⟨k - 1, by omega⟩
  unfold script_Check.f jacquardref21_Check.f
  rw [if_neg (by omega), if_neg (by omega), script_Check.j0, jacquardref21_Check.j0, if_neg (by simp; omega), if_neg (by simp; omega)]
  exact checks_same xs ds hx hd xs.length 0 k k (by omega) (by omega) (by omega) (by omega)
theorem picks_same (xs : List S40) (ds : List Int) (hx : xs.length ≤ 300) (e f p q : Int) : ∀ (d j : Nat) (n : Int), xs.length - j = d → j ≤ xs.length → 0 ≤ n → n ≤ j →
    ∃ c : Int, (∀ k, d < k → script_Picks.l0 k n xs (xs.length : Int) (j : Int) = some c) ∧ (∀ R, jacquardlaw21_ScriptChecks.l0 (d + R) e f p q n (j : Int) xs ds = jacquardlaw21_ScriptChecks.l0 R e f p q c (xs.length : Int) xs ds) := by
  intro d
  induction d with
  | zero =>
    intro j n h1 h2 h3 h4
    obtain rfl : j = xs.length := by omega
    refine ⟨n, fun k hk => ?_, fun R => by rw [Nat.zero_add]⟩
    obtain ⟨k, rfl⟩ : ∃ k', k = k' + 1 := ⟨k - 1, by omega⟩
    rw [script_Picks.l0, if_neg (by omega)]
  | succ d ih =>
    intro j n h1 h2 h3 h4
    by_cases h0 : (rd_T40 xs (j : Int)).f0 = 1
    · obtain ⟨c, hc1, hc2⟩ := ih (j + 1) (n + 1) (by omega) (by omega) (by omega) (by omega)
      refine ⟨c, fun k hk => ?_, fun R => ?_⟩
      · obtain ⟨k, rfl⟩ : ∃ k', k = k' + 1 := ⟨k - 1, by omega⟩
        rw [script_Picks.l0, if_pos (by omega), if_pos (by omega), if_pos (by omega), if_pos h0, IntWalk.wrap64_in _ (by omega), IntWalk.wrap64_in _ (by omega)]
        exact hc1 k (by omega)
      · rw [show d + 1 + R = (d + R) + 1 by omega, jacquardlaw21_ScriptChecks.l0, if_pos (by omega), if_pos (by omega), if_pos h0, IntWalk.wrap64_in _ (by omega), IntWalk.wrap64_in _ (by omega)]
        exact hc2 R
    · obtain ⟨c, hc1, hc2⟩ := ih (j + 1) n (by omega) (by omega) (by omega) (by omega)
      refine ⟨c, fun k hk => ?_, fun R => ?_⟩
      · obtain ⟨k, rfl⟩ : ∃ k', k = k' + 1 := ⟨k - 1, by omega⟩
        rw [script_Picks.l0, if_pos (by omega), if_pos (by omega), if_pos (by omega), if_neg h0, IntWalk.wrap64_in _ (by omega)]
        exact hc1 k (by omega)
      · rw [show d + 1 + R = (d + R) + 1 by omega, jacquardlaw21_ScriptChecks.l0, if_pos (by omega), if_pos (by omega), if_neg h0, IntWalk.wrap64_in _ (by omega)]
        exact hc2 R
theorem tailC (a e c : Int) (o : Option Int) (ho : o = some c) : (if a = a then ((jacquardlaw21_num.f e).bind fun t146 => (if t146 = e then (o.bind fun t147 => (if t147 = c then ((jacquardlaw21_live.f).bind fun t148 => (some t148)) else (some false))) else (some false))) else (some false)) = some true := by
  subst ho
  simp [jacquardlaw21_num.f, jacquardlaw21_live.f]
theorem much_x (xs : List S40) (ds : List Int) (h : (xs.length : Int) > 300) : jacquardlaw21_much.f xs ds = some true := by
  unfold jacquardlaw21_much.f
  rw [if_pos h]
theorem much_n (xs : List S40) (ds : List Int) (h : ¬ (xs.length : Int) > 300) : jacquardlaw21_much.f xs ds = some (decide ((ds.length : Int) > 300)) := by
  unfold jacquardlaw21_much.f
  rw [if_neg h]
theorem f_much (k : Nat) (xs : List S40) (ds : List Int) (h : jacquardlaw21_much.f xs ds = some true) : jacquardlaw21_ScriptChecks.f k xs ds = some true := by
  unfold jacquardlaw21_ScriptChecks.f
  rw [h, Option.bind_some, if_pos rfl]
  rfl
theorem f_few (k : Nat) (xs : List S40) (ds : List Int) (r : Int × Int) (h : jacquardlaw21_much.f xs ds = some false) (h1 : script_Check.f k xs ds = some r) (h2 : jacquardref21_Check.f k xs ds = some r) : jacquardlaw21_ScriptChecks.f k xs ds = jacquardlaw21_ScriptChecks.l0 k r.1 r.2 r.1 r.2 0 0 xs ds := by
  unfold jacquardlaw21_ScriptChecks.f
  rw [h, Option.bind_some, if_neg (by decide), h1, Option.bind_some, h2, Option.bind_some]
theorem l_end (K : Nat) (xs : List S40) (ds : List Int) (a e c : Int) (h : script_Picks.f K xs ds = some c) : jacquardlaw21_ScriptChecks.l0 (K + 1) a e a e c (xs.length : Int) xs ds = some true := by
  rw [jacquardlaw21_ScriptChecks.l0, if_neg (by omega)]
  exact tailC a e c _ h
theorem few (K : Nat) (hK : 700 ≤ K) (xs : List S40) (ds : List Int) (hx : xs.length ≤ 300) (hd : ds.length ≤ 300) (h : jacquardlaw21_much.f xs ds = some false) : jacquardlaw21_ScriptChecks.f (xs.length + (K + 1)) xs ds = some true := by
  obtain ⟨r, h1, h2⟩ := check_same xs ds hx hd (xs.length + (K + 1)) (by omega)
  obtain ⟨c, hc1, hc2⟩ := picks_same xs ds hx r.1 r.2 r.1 r.2 xs.length 0 0 (by omega) (by omega) (by omega) (by omega)
  rw [f_few _ xs ds r h h1 h2]
  exact (hc2 (K + 1)).trans (l_end K xs ds r.1 r.2 c (hc1 K (by omega)))
theorem ScriptChecks (xs : List S40) (ds : List Int) : ∃ k, jacquardlaw21_ScriptChecks.f k xs ds = some true := by
  by_cases hx : (xs.length : Int) > 300
  · exact ⟨0, f_much 0 xs ds (much_x xs ds hx)⟩
  · by_cases hd : (ds.length : Int) > 300
    · exact ⟨0, f_much 0 xs ds (by rw [much_n xs ds hx, decide_eq_true hd])⟩
    · exact ⟨_, few 700 (Nat.le_refl _) xs ds (by omega) (by omega) (by rw [much_n xs ds hx, decide_eq_false hd])⟩
end Go.Proofs.Yteenpfdpokekgaa.Pure
